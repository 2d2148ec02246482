/- Part 8 of the texts below the law. -/
import Derived.Test.YtnnhdehmlkkfjaaGreatDoorPf7
import Derived.Shelf.Strings.Cut
import Derived.Shelf.Strings.IndexAnyAll
import Derived.Shelf.Strings.Prefix
import Derived.Shelf.Strings.Search3
import Derived.Shelf.Strings.Split
import Derived.Test.YtnnhdehmlkkfjaaGreatDoorProg
import Derived.KernelRfl
set_option maxRecDepth 100000
set_option maxHeartbeats 16000000
set_option linter.unusedVariables false
set_option linter.unnecessarySimpa false
set_option linter.unusedSimpArgs false
set_option linter.unusedSectionVars false
namespace Go.Proofs.YtnnhdehmlkkfjaaGreatDoor
open Go Go.RowKit Go.Proofs Go.Lib
def okL(f:Fld):Prop:=qbu f.name=true/\qca f.value=true
theorem qrh{f:Fld}:(qbo f).2=0↔okL f:=by
 unfold qbo okL;cases h1:qbu f.name with
 |false=>simp
 |true=>cases h2:qca f.value<;>simp
theorem qkU:∀n,n<256->qak (UInt8.ofNat n)=true->UInt8.ofNat n≠13/\qah (UInt8.ofNat n)=false:=by decide
theorem qdv{b:UInt8}(h:qak b=true):b≠13/\qah b=false:=by
 have:=qkU b.toNat b.toNat_lt;rw[qeS]at this;exact this h
theorem qpx{l:List UInt8}(h:fldB l=true):∀b∈l,b≠13:=by
 intro b hb e;subst e;have:=List.all_eq_true.1 h 13 hb;exact absurd this (by decide)
theorem qge{l:List UInt8}(h:qca l=true):l.length<=8192/\fldB l=true/\qa5 l=l:=by
 unfold qca at h;simp at h;exact⟨h.1.1,h.1.2,h.2⟩
theorem qjo{f:Fld}(h:okL f):∀b∈qar f,b≠10/\b≠13:=by
 obtain⟨h1,h2⟩:=h;obtain⟨_,h3,_⟩:=qge h2;intro b hb;unfold qar at hb;rcases List.mem_append.1 hb with hb|hb
 ·have hs:=qdN (qc9 h1) b hb;exact⟨(qeV hs).2,(qdv hs).1⟩
 ·rcases List.mem_cons.1 hb with rfl|hb
  ·decide
  ·split at hb
   ·cases hb
   ·rcases List.mem_cons.1 hb with rfl|hb
    ·decide
    ·exact⟨qku h3 b hb,qpx h3 b hb⟩
theorem qpc{l:List UInt8}(h:qbu l=true):∃a r,l=a::r/\qak a=true:=by
 have ht:=qc9 h;cases l with
 |nil=>cases ht
 |cons a r=>exact⟨a,r,rfl,qdN ht a (by simp)⟩
theorem qjn{f:Fld}(h:okL f):qaY (qar f)=(f,0,0):=by
 obtain⟨hn,hv⟩:=h;obtain⟨h2,h3,h4⟩:=qge hv;have hr:run ncol (qar f)=f.name.length:=qfn ncol f.name 58 _ (fun b hb=>(qeV (qdN (qc9 hn) b hb)).1) (by decide);have ht:(qar f).take f.name.length=f.name:=by unfold qar;rw[List.take_append_of_le_length (Nat.le_refl _),zqE (Nat.le_refl _)]
 have hd:(qar f).drop (f.name.length+1)=if f.value=[]then []else 32::f.value:=by
  unfold qar;rw[List.drop_append,List.drop_of_length_le (by omega)];simp
 have hlt:f.name.length<(qar f).length:=by unfold qar;simp
 have hf:lnb (qar f)=false:=by
  obtain⟨a,r,e,hs⟩:=qpc hn;unfold qar;rw[e];exact(qdv hs).2
 have htr:qa5 (if f.value=[]then []else 32::f.value)=f.value:=by
  split
  ·rename_i h5;rw[h5]at h4⊢;exact h4
  ·rw[ql5];exact h4
 have hfl:fldB (if f.value=[]then []else 32::f.value)=true:=by
  split
  ·rfl
  ·unfold fldB at h3⊢;rw[List.all_cons,h3];decide
 rw[qic (hf:=hf) (by rw[hr];exact hlt) (by rw[hr,ht];exact hn) (by rw[hr,hd];exact hfl) (by rw[hr,hd,htr];omega),hr,ht,hd,htr]
theorem qpk{f:Fld}:qar f≠[]:=by unfold qar;simp
theorem qjl(f:Fld)(l:List Fld):qas (f::l)=qar f++(13::10::qas l):=by simp[qas]
section
variable {r:Resp}{h:Mann}
theorem qcn(u:Nat):Go.Lib.itoa (u:Int)=decDigits u:=by unfold Go.Lib.itoa;rw[if_neg (by omega)];simp
end
end Go.Proofs.YtnnhdehmlkkfjaaGreatDoor
namespace Go.Proofs.YtnnhdehmlkkfjaaGreatDoor
open Go Go.RowKit Go.Lib
section
open Go.Lib
variable (E:Env)(H:Hp)(Q:AV->Hp->Prop)
end
end Go.Proofs.YtnnhdehmlkkfjaaGreatDoor
namespace Go.Proofs.YtnnhdehmlkkfjaaGreatDoor
open Go Go.RowKit
theorem qaO(b:UInt8)(n:Nat)(hn:n<256)(z:Int)(hz:z=n)(h:b≠UInt8.ofNat n):((b.toNat:Int)==z)=false/\((b.toNat:Int) !=z)=true:=by
 subst hz;have:=qfW b n hn h;exact⟨this,by unfold bne;rw[this];rfl⟩
def qcg(c:UInt8):Bool:=(97<=c.toNat&&c.toNat<=122)||(65<=c.toNat&&c.toNat<=90)||(48<=c.toNat&&c.toNat<=57)
def qcy(c:UInt8):Bool:=qcg c||[45,46,95,126].contains c
def qc1(c:UInt8):Bool:=[33,36,38,39,40,41,42,43,44,59,61].contains c
def qcw(c:UInt8):Bool:=c==58||c==64
def qcI(c:UInt8):Int:=if qcy c then 1 else if qc1 c then 2 else if qcw c then 4 else if c=47 then 8 else if c=63 then 16 else 0
def hexT(c:UInt8):Int:=if 48<=c.toNat/\c.toNat<=57 then c.toNat-48 else if 97<=c.toNat/\c.toNat<=102 then c.toNat-97+10 else if 65<=c.toNat/\c.toNat<=70 then c.toNat-65+10 else-1
def qel:List UInt8->Bool
 |c::a::b::_=>c==37&&decide (0<=hexT a)&&decide (0<=hexT b)
 |_=>false
def qbt(may:UInt8->Bool)(s:List UInt8):Nat:=match s with
 |[]=>0
 |c::r=>if qel (c::r)then 3+qbt may (r.drop 2)else if may c then 1+qbt may r else 0
termination_by s.length
def qli(c:UInt8):Bool:=qcy c||qc1 c
def qk4(c:UInt8):Bool:=qcy c||qc1 c||qcw c||c==47
def qgX(c:UInt8):Bool:=qcy c||qc1 c||qcw c||c==47||c==63
def qdF(c:UInt8)(other:Int):Int:=if c=37 then 51 else other
def cut1 (c : UInt8) (s : List UInt8) : List UInt8 × List UInt8 × Bool := (s.takeWhile (· != c), (s.dropWhile (· != c)).drop 1, s.contains c)
def cut2(c:UInt8):List UInt8->List UInt8×List UInt8×Bool
 |a::b::r=>if a=c/\b=c then([],r,true)else((a::(cut2 c (b::r)).1),(cut2 c (b::r)).2)
 |s=>(s,[],false)
def qbs(c:UInt8):List UInt8->List (List UInt8)
 |[]=>[[]]
 |x::r=>if x=c then []::qbs c r else match qbs c r with
  |h::t=>(x::h)::t
  |[]=>[[x]]
def qf9(d:List UInt8):Bool:=(qag 10 255 d).2==0&&Go.Lib.itoa (qag 10 255 d).1==d
def dotB(g:List UInt8):Bool:=(qbs 46 g).all qf9&&(qbs 46 g).length==4
def goG(last:Bool):List (List UInt8)->Int->Int×Bool
 |[],n=>(n,true)
 |g::r,n=>if last&&r.isEmpty&&g.contains 46 then(n+2,dotB g)
  else if g.length<1\/4<g.length then(0,false)
  else if g.all (fun c=>decide (0<=hexT c))then goG last r (n+1)else(0,false)
def qbO(s:List UInt8)(last:Bool):Int×Bool:=if s=[]then(0,true)else goG last (qbs 58 s) 0
def qrY(s:List UInt8):Bool:=match cut2 58 s with
 |(_,_,false)=>(qbO s true).2&&(qbO s true).1==8
 |(a,b,true)=>(qbO a false).2&&(qbO b true).2&&decide ((qbO a false).1+(qbO b true).1<=7)
def qin(s:List UInt8):Bool:=if s.head? =some 91 then s.getLast? ==some 93&&qrY ((s.drop 1).dropLast)else !s.isEmpty&&qbt qli s==s.length
def qcf (s : List UInt8) : List UInt8 × List UInt8 × Bool :=
  if s.head? = some 91 ∧ s.contains 93 then
    let i := (s.takeWhile (· != 93)).length
    (s.take (i + 1), (s.drop (i + 1)).drop 1, (s.drop (i + 1)).isEmpty || (s.drop (i + 1)).head? == some 58)
  else ((cut1 58 s).1, (cut1 58 s).2.1, true)
def qbA(s:List UInt8):List UInt8×Int×Int:=
 if(qcf s).2.2=false\/qin (qcf s).1=false\/5<(qcf s).2.1.length then([],0,52)
 else if(qcf s).2.1=[]then(low (qcf s).1,-1,0)
 else if(qag 10 65535 (qcf s).2.1).2≠0 then([],0,52)else(low (qcf s).1,(qag 10 65535 (qcf s).2.1).1,0)
def behE(s:List UInt8):Int:=match s.drop (qbt qk4 s)with
 |[]=>0
 |c::q=>if c≠63 then qdF c 53 else match q.drop (qbt qgX q)with
  |[]=>0
  |d::_=>qdF d 54
def tgtE(m s:List UInt8):Int:=match s with
 |[]=>50
 |c::_=>if m=[67,79,78,78,69,67,84]then(if(qbA s).2.2≠0\/(qbA s).2.1<0 then 52 else 0)
  else if c=47 then behE s
  else if s=[42]/\m=[79,80,84,73,79,78,83]then 0
  else if s.length<7\/low (s.take 7)≠[104,116,116,112,58,47,47]then 50
  else if(qbA ((s.drop 7).takeWhile fun c=>c !=47&&c !=63)).2.2≠0 then(qbA ((s.drop 7).takeWhile fun c=>c !=47&&c !=63)).2.2
  else behE ((s.drop 7).dropWhile fun c=>c !=47&&c !=63)
def qex(l:List Fld)(old:Bool):List UInt8×Bool×Int:=match allB l [72,111,115,116]with
 |[]=>if old then([],false,0)else([],false,69)
 |[v]=>if v.any (fun b=>decide (b.toNat<33)||decide (126<b.toNat)||[34,35,47,60,62,63,64,92].contains b)then([],false,69)else(v,true,0)
 |_=>([],false,69)
inductive Md where
 |start|startEnd|method|target|line|fields|counted|chunked
deriving DecidableEq
structure Prs where
 lt:Int
 lh:Int
 lf:Int
 lb:Int
 nx:Option Md
 state:Int
 used:Int
 meth:List UInt8
 targ:List UInt8
 major:Int
 minor:Int
 fields:List Fld
 rbody:List UInt8
 trailers:List Fld
 fst_:Int
 ferr:Int
 fat:Int
 text:List UInt8
 head:Int
 begin_:Int
 left:Int
 body:List UInt8
 dec:Option Dec
 bodied:Bool
inductive SR where
 |go (p:Prs) (nx:Option Md)
 |bad (p:Prs) (st err at_:Int)
def qap(p:Prs)(st err:Int):SR:= .bad p st err p.used
def qbg(p:Prs)(c:UInt8):SR:=if c≠10 then qap p 400 111 else .go p (some .start)
def qa6(p:Prs)(c:UInt8):SR:=
 if tokB [c]then(if p.text.length=24 then qap p 501 110 else .go {p with text:=p.text++[c]} (some .method))
 else if c=32/\p.text≠[]then .go {p with meth:=p.text,text:=[]} (some .target)else qap p 400 110
def qcA(p:Prs)(c:UInt8):SR:=if c=13 then .go p (some .startEnd)else qa6 {p with state:=1} c
def qbf(p:Prs)(c:UInt8):SR:=
 if 33<=c.toNat/\c.toNat<=126 then(if(p.text.length:Int)=p.lt then qap p 414 112 else .go {p with text:=p.text++[c]} (some .target))
 else if c=32/\p.text≠[]then .go {p with targ:=p.text,text:=[]} (some .line)else qap p 400 111
def qa1(n:Nat)(c:UInt8):Bool:=
 if n<5 then([72,84,84,80,47]:List UInt8)[n]? ==some c else if n=5\/n=7 then decide (48<=c.toNat/\c.toNat<=57)else if n=6 then c==46 else if n=8 then c==13 else if n=9 then c==10 else false
def qbK(p:Prs)(c:UInt8):SR:=
 if qa1 p.text.length c=false then qap p 400 111
 else if p.text.length<9 then .go {p with text:=p.text++[c]} (some .line)
 else
  let p1:Prs:={p with text:=[],major:=(p.text.getD 5 0).toNat-48,minor:=(p.text.getD 7 0).toNat-48}
  if p1.major≠1\/1<p1.minor then qap p1 505 117
  else if tgtE p.meth p.targ≠0 then qap p1 400 (tgtE p.meth p.targ)
  else .go {p1 with state:=2,begin_:=p.used+1} (some .fields)
def qb5(p:Prs):SR:= .go {p with rbody:=p.body,state:=4} none
def qa9(p:Prs):SR:=
 let old:=decide (p.minor=0)
 let f:=qam p.fields old
 if f.2.2=67 then qap p 501 67
 else if f.2.2≠0 then qap p 400 f.2.2
 else if(qex p.fields old).2.2≠0 then qap p 400 (qex p.fields old).2.2
 else if(qex p.fields old).1≠[]/\(qbA (qex p.fields old).1).2.2≠0 then qap p 400 (qbA (qex p.fields old).1).2.2
 else if allB p.fields [69,120,112,101,99,116]≠[]/\((qc2 p.fields [69,120,112,101,99,116]).2≠0\/(qc2 p.fields [69,120,112,101,99,116]).1≠[[49,48,48,45,99,111,110,116,105,110,117,101]])then qap p 417 116
 else if p.lb<f.2.1 then qap p 413 114
 else if f.1=2 then .go {p with state:=3,dec:=some (newD p.lb p.lh p.lf)} (some .chunked)
 else if 0<f.2.1 then .go {p with state:=3,left:=f.2.1} (some .counted)
 else qb5 {p with state:=3}
def qaL(p:Prs)(c:UInt8):SR:=
 if p.head=p.lh then qap p 431 113
 else if(p.text.getLast? ==some 13)≠(c==10)then qap {p with head:=p.head+1} 400 111
 else if c≠10 then .go {p with head:=p.head+1,text:=p.text++[c]} (some .fields)
 else
  let p1:Prs:={p with head:=p.head+1,text:=[]}
  let line:=p.text.dropLast
  if line=[]then qa9 p1
  else if(p.fields.length:Int)=p.lf then qap p1 431 113
  else if(qaY line).2.2≠0 then .bad p1 400 (qaY line).2.2 (p.begin_+(qaY line).2.1)
  else .go {p1 with fields:=p.fields++[(qaY line).1],begin_:=p.used+1} (some .fields)
def qbr(p:Prs)(c:UInt8):SR:=
 let p1:Prs:={p with body:=p.body++[c],bodied:=true,left:=p.left-1}
 if 0<p1.left then .go p1 (some .counted)else qb5 p1
def qaQ(p:Prs)(c:UInt8):SR:=match p.dec with
 |none=>qap {p with bodied:=true} 400 103
 |some d=>
  if d.done=true\/d.err≠0 then qap {p with bodied:=true} 400 103
  else
   let d1:=(qan d [c]).1
   let p1:Prs:={p with bodied:=true,dec:=some d1}
   if d1.err=102 then qap p1 413 102
   else if d1.err=104 then qap p1 431 104
   else if d1.err≠0 then qap p1 400 d1.err
   else if d1.done=false then .go p1 (some .chunked)
   else qb5 {p1 with body:=d1.body,trailers:=d1.trailers}
def qbl(p:Prs)(m:Md)(c:UInt8):SR:=match m with
 | .start=>qcA p c
 | .startEnd=>qbg p c
 | .method=>qa6 p c
 | .target=>qbf p c
 | .line=>qbK p c
 | .fields=>qaL p c
 | .counted=>qbr p c
 | .chunked=>qaQ p c
def SR.prs:SR->Prs
 | .go p nx=>{p with nx:=nx,used:=p.used+1}
 | .bad p st err at_=>{p with nx:=none,state:=5,used:=p.used+1,fst_:=st,ferr:=err,fat:=at_}
def qao(p:Prs):List UInt8->Prs×Nat
 |[]=>(p,0)
 |c::r=>match p.nx with
  |none=>(p,0)
  |some m=>match qbl p m c with
   | .go p1 nx=>((qao {p1 with nx:=nx,used:=p1.used+1} r).1,(qao {p1 with nx:=nx,used:=p1.used+1} r).2+1)
   | .bad p1 st err at_=>((SR.bad p1 st err at_).prs,1)
def Md.fid:Md->FuncId
 | .start=>39
 | .startEnd=>60
 | .method=>61
 | .target=>87
 | .line=>119
 | .fields=>145
 | .counted=>198
 | .chunked=>197
def nxV(b:Nat):Option Md->AV
 |none=> .raw .nilFunc
 |some m=> .fn m.fid [.tup [.ptr (some (b,0))]]
def Prs.av(b j:Nat)(p:Prs):List AV:=[.int .i64 p.lt,.int .i64 p.lh,.int .i64 p.lf,.int .i64 p.lb,nxV b p.nx,.int .i64 p.state,.int .i64 p.used,.str p.meth,.str p.targ,.int .i64 p.major,.int .i64 p.minor,.sl true 2 (flds p.fields),.str p.rbody,.sl false 2 (flds p.trailers),
 .int .i64 p.fst_,.int .i64 p.ferr,.int .i64 p.fat,.sl true 1 (bts p.text),.str [],.int .i64 p.head,.int .i64 p.begin_,.int .i64 p.left,.sl true 1 (bts p.body),.ptr (p.dec.map fun _=>(j,0)),.bool p.bodied]
structure PB (H:Hp) (b j:Nat) (p:Prs):Prop where
 row:H[b]? =some (p.av b j)
 dec:∀d,p.dec=some d->j≠b/\H[j]? =some d.av
structure fitP (n:Nat) (p:Prs):Prop where
 a:p.text.length+fsz p.fields+p.fields.length+p.meth.length+p.targ.length<=n
 b:p.body.length<=n
 c:∀d,p.dec=some d->okD d/\d.total<=n
 lt:1<=p.lt/\p.lt<=65536
 lh:2<=p.lh/\p.lh<=1048576
 lf:0<=p.lf/\p.lf<=100
 lb:0<=p.lb/\p.lb<=1073741824
 head:0<=p.head/\p.head<=n
 left: -(n:Int)<=p.left/\p.left<=1073741824
 used:0<=p.used/\p.used<=n
 beg:0<=p.begin_/\p.begin_<=n
 asc:∀c∈p.targ,c.toNat<128
 tx:p.nx=some .target->∀c∈p.text,c.toNat<128
 ln:p.nx=some .line->∀k c,p.text[k]? =some c->qa1 k c=true
 tr:p.trailers.length<=n
 rb:p.rbody.length<=n
def OthP(K K':Hp)(b j:Nat)(d:Bool):Prop:=K.length<=K'.length/\∀i,i<K.length->i≠b->(d=true->i≠j)->K'[i]? =K[i]?
end Go.Proofs.YtnnhdehmlkkfjaaGreatDoor
namespace Go.Proofs.YtnnhdehmlkkfjaaGreatDoor
open Go Go.Shelf Go.Proofs
def lrenb:Go.Shelf.Ren:=⟨fun|99=>186|100=>210|101=>187|119=>214|120=>223|129=>182|137=>156|138=>248|143=>242|144=>235|145=>188|146=>234|151=>202|152=>192|153=>165|160=>154|161=>200|169=>75|171=>80|195=>249|197=>201|206=>207|207=>225|208=>208|217=>180|218=>250|219=>224|220=>209|221=>241|224=>215|225=>216|226=>193|227=>174|228=>194|231=>172|232=>173|233=>175|234=>176|235=>177|236=>178|243=>112|246=>141|260=>222|266=>204|267=>233|268=>247|271=>203|283=>158|284=>159|285=>160|286=>161|314=>240|317=>181|318=>183|319=>184|320=>185|337=>205|338=>206|n=>n,fun|0=>0|2=>2|3=>3|4=>4|5=>5|9=>9|20=>20|21=>21|31=>78|37=>82|46=>224|51=>139|53=>198|59=>142|70=>118|72=>120|105=>233|116=>213|117=>214|119=>255|124=>217|127=>157|138=>257|139=>258|146=>262|171=>197|173=>201|212=>221|213=>222|232=>246|233=>247|n=>n,fun|1=>2|3=>5|4=>6|17=>1|18=>3|19=>4|n=>n⟩
theorem laysb99:Go.Proofs.Lays.n99 Tryz.prog lrenb:={
 mixed:=by kernel_rfl
 f99:=lfz Tryz.func186
 f206:=lfz Tryz.func207
 t3:=Tryz.underlying3
 a3:=Tryz.isAgg3
 z3:=Tryz.sizeOf3
 v3:=Tryz.zeroValue3
 t4:=Tryz.underlying4
 a4:=Tryz.isAgg4
 z4:=Tryz.sizeOf4
 v4:=Tryz.zeroValue4
 t9:=Tryz.underlying9
 a9:=Tryz.isAgg9
 z9:=Tryz.sizeOf9
 v9:=Tryz.zeroValue9}
theorem laysb100:Go.Proofs.Lays.n100 Tryz.prog lrenb:={
 mixed:=by kernel_rfl
 f100:=lfz Tryz.func210
 f207:=lfz Tryz.func225
 t3:=Tryz.underlying3
 a3:=Tryz.isAgg3
 z3:=Tryz.sizeOf3
 v3:=Tryz.zeroValue3
 t4:=Tryz.underlying4
 a4:=Tryz.isAgg4
 z4:=Tryz.sizeOf4
 v4:=Tryz.zeroValue4
 t9:=Tryz.underlying9
 a9:=Tryz.isAgg9
 z9:=Tryz.sizeOf9
 v9:=Tryz.zeroValue9}
theorem laysb101:Go.Proofs.Lays.n101 Tryz.prog lrenb:={
 mixed:=by kernel_rfl
 f101:=lfz Tryz.func187
 f206:=lfz Tryz.func207
 f208:=lfz Tryz.func208
 t3:=Tryz.underlying3
 a3:=Tryz.isAgg3
 z3:=Tryz.sizeOf3
 v3:=Tryz.zeroValue3
 t4:=Tryz.underlying4
 a4:=Tryz.isAgg4
 z4:=Tryz.sizeOf4
 v4:=Tryz.zeroValue4
 t9:=Tryz.underlying9
 a9:=Tryz.isAgg9
 z9:=Tryz.sizeOf9
 v9:=Tryz.zeroValue9}
theorem laysb144:Go.Proofs.Lays.n144 Tryz.prog lrenb:={
 mixed:=by kernel_rfl
 f143:=lfz Tryz.func242
 f144:=lfz Tryz.func235
 f217:=lfz Tryz.func180
 f219:=lfz Tryz.func224
 f224:=lfz Tryz.func215
 f225:=lfz Tryz.func216
 f266:=lfz Tryz.func204
 f267:=lfz Tryz.func233
 f314:=lfz Tryz.func240
 t3:=Tryz.underlying3
 a3:=Tryz.isAgg3
 z3:=Tryz.sizeOf3
 v3:=Tryz.zeroValue3
 t4:=Tryz.underlying4
 a4:=Tryz.isAgg4
 z4:=Tryz.sizeOf4
 v4:=Tryz.zeroValue4
 t5:=Tryz.underlying5
 a5:=Tryz.isAgg5
 z5:=Tryz.sizeOf5
 v5:=Tryz.zeroValue5
 t9:=Tryz.underlying9
 a9:=Tryz.isAgg9
 z9:=Tryz.sizeOf9
 v9:=Tryz.zeroValue9
 t46:=Tryz.underlying224
 a46:=Tryz.isAgg224
 z46:=Tryz.sizeOf224
 v46:=Tryz.zeroValue224
 t51:=Tryz.underlying139
 a51:=Tryz.isAgg139
 z51:=Tryz.sizeOf139
 v51:=Tryz.zeroValue139
 t146:=Tryz.underlying262
 a146:=Tryz.isAgg262
 z146:=Tryz.sizeOf262
 v146:=Tryz.zeroValue262
 g1:=by kernel_rfl}
theorem laysb145:Go.Proofs.Lays.n145 Tryz.prog lrenb:={
 mixed:=by kernel_rfl
 f145:=lfz Tryz.func188
 f217:=lfz Tryz.func180
 f219:=lfz Tryz.func224
 f220:=lfz Tryz.func209
 f224:=lfz Tryz.func215
 f225:=lfz Tryz.func216
 f266:=lfz Tryz.func204
 f267:=lfz Tryz.func233
 f314:=lfz Tryz.func240
 t3:=Tryz.underlying3
 a3:=Tryz.isAgg3
 z3:=Tryz.sizeOf3
 v3:=Tryz.zeroValue3
 t4:=Tryz.underlying4
 a4:=Tryz.isAgg4
 z4:=Tryz.sizeOf4
 v4:=Tryz.zeroValue4
 t5:=Tryz.underlying5
 a5:=Tryz.isAgg5
 z5:=Tryz.sizeOf5
 v5:=Tryz.zeroValue5
 t9:=Tryz.underlying9
 a9:=Tryz.isAgg9
 z9:=Tryz.sizeOf9
 v9:=Tryz.zeroValue9
 t46:=Tryz.underlying224
 a46:=Tryz.isAgg224
 z46:=Tryz.sizeOf224
 v46:=Tryz.zeroValue224
 t51:=Tryz.underlying139
 a51:=Tryz.isAgg139
 z51:=Tryz.sizeOf139
 v51:=Tryz.zeroValue139
 t59:=Tryz.underlying142
 a59:=Tryz.isAgg142
 z59:=Tryz.sizeOf142
 v59:=Tryz.zeroValue142
 t146:=Tryz.underlying262
 a146:=Tryz.isAgg262
 z146:=Tryz.sizeOf262
 v146:=Tryz.zeroValue262
 g1:=by kernel_rfl}
theorem laysb146:Go.Proofs.Lays.n146 Tryz.prog lrenb:={
 mixed:=by kernel_rfl
 f138:=lfz Tryz.func248
 f143:=lfz Tryz.func242
 f146:=lfz Tryz.func234
 f195:=lfz Tryz.func249
 f197:=lfz Tryz.func201
 f217:=lfz Tryz.func180
 f218:=lfz Tryz.func250
 f219:=lfz Tryz.func224
 f221:=lfz Tryz.func241
 f224:=lfz Tryz.func215
 f225:=lfz Tryz.func216
 f260:=lfz Tryz.func222
 f266:=lfz Tryz.func204
 f267:=lfz Tryz.func233
 f268:=lfz Tryz.func247
 f314:=lfz Tryz.func240
 t0:=Tryz.underlying0
 a0:=Tryz.isAgg0
 z0:=Tryz.sizeOf0
 v0:=Tryz.zeroValue0
 t3:=Tryz.underlying3
 a3:=Tryz.isAgg3
 z3:=Tryz.sizeOf3
 v3:=Tryz.zeroValue3
 t4:=Tryz.underlying4
 a4:=Tryz.isAgg4
 z4:=Tryz.sizeOf4
 v4:=Tryz.zeroValue4
 t5:=Tryz.underlying5
 a5:=Tryz.isAgg5
 z5:=Tryz.sizeOf5
 v5:=Tryz.zeroValue5
 t9:=Tryz.underlying9
 a9:=Tryz.isAgg9
 z9:=Tryz.sizeOf9
 v9:=Tryz.zeroValue9
 t21:=Tryz.underlying21
 a21:=Tryz.isAgg21
 z21:=Tryz.sizeOf21
 v21:=Tryz.zeroValue21
 t31:=Tryz.underlying78
 a31:=Tryz.isAgg78
 z31:=Tryz.sizeOf78
 v31:=Tryz.zeroValue78
 t46:=Tryz.underlying224
 a46:=Tryz.isAgg224
 z46:=Tryz.sizeOf224
 v46:=Tryz.zeroValue224
 t51:=Tryz.underlying139
 a51:=Tryz.isAgg139
 z51:=Tryz.sizeOf139
 v51:=Tryz.zeroValue139
 t105:=Tryz.underlying233
 a105:=Tryz.isAgg233
 z105:=Tryz.sizeOf233
 v105:=Tryz.zeroValue233
 t119:=Tryz.underlying255
 a119:=Tryz.isAgg255
 z119:=Tryz.sizeOf255
 t138:=Tryz.underlying257
 a138:=Tryz.isAgg257
 z138:=Tryz.sizeOf257
 v138:=Tryz.zeroValue257
 t139:=Tryz.underlying258
 a139:=Tryz.isAgg258
 z139:=Tryz.sizeOf258
 v139:=Tryz.zeroValue258
 t146:=Tryz.underlying262
 a146:=Tryz.isAgg262
 z146:=Tryz.sizeOf262
 v146:=Tryz.zeroValue262
 g1:=by kernel_rfl
 g3:=by kernel_rfl
 g4:=by kernel_rfl}
theorem laysb153:Go.Proofs.Lays.n153 Tryz.prog lrenb:={
 mixed:=by kernel_rfl
 f119:=lfz Tryz.func214
 f137:=lfz Tryz.func156
 f152:=lfz Tryz.func192
 f153:=lfz Tryz.func165
 f217:=lfz Tryz.func180
 f224:=lfz Tryz.func215
 f225:=lfz Tryz.func216
 f226:=lfz Tryz.func193
 f227:=lfz Tryz.func174
 f228:=lfz Tryz.func194
 f266:=lfz Tryz.func204
 t0:=Tryz.underlying0
 a0:=Tryz.isAgg0
 z0:=Tryz.sizeOf0
 v0:=Tryz.zeroValue0
 t3:=Tryz.underlying3
 a3:=Tryz.isAgg3
 z3:=Tryz.sizeOf3
 v3:=Tryz.zeroValue3
 t4:=Tryz.underlying4
 a4:=Tryz.isAgg4
 z4:=Tryz.sizeOf4
 v4:=Tryz.zeroValue4
 t5:=Tryz.underlying5
 a5:=Tryz.isAgg5
 z5:=Tryz.sizeOf5
 v5:=Tryz.zeroValue5
 t9:=Tryz.underlying9
 a9:=Tryz.isAgg9
 z9:=Tryz.sizeOf9
 v9:=Tryz.zeroValue9
 t21:=Tryz.underlying21
 a21:=Tryz.isAgg21
 z21:=Tryz.sizeOf21
 v21:=Tryz.zeroValue21
 t46:=Tryz.underlying224
 a46:=Tryz.isAgg224
 z46:=Tryz.sizeOf224
 v46:=Tryz.zeroValue224
 t116:=Tryz.underlying213
 a116:=Tryz.isAgg213
 z116:=Tryz.sizeOf213
 t117:=Tryz.underlying214
 a117:=Tryz.isAgg214
 z117:=Tryz.sizeOf214
 v117:=Tryz.zeroValue214
 t124:=Tryz.underlying217
 a124:=Tryz.isAgg217
 z124:=Tryz.sizeOf217
 v124:=Tryz.zeroValue217}
end Go.Proofs.YtnnhdehmlkkfjaaGreatDoor
namespace Go.Proofs.YtnnhdehmlkkfjaaGreatDoor
open Go Go.RowKit Go.Shelf
theorem hp1(l:List UInt8)(c:UInt8):Lib.hasPrefix l [c]=(l.head? ==some c):=by
 cases l with
 |nil=>rfl
 |cons a r=>
  by_cases h:a=c
  ·subst h;simp[Lib.hasPrefix,List.isPrefixOf]
  ·have h':(c==a)=false:=by simpa using fun e=>h e.symm
   simp[Lib.hasPrefix,List.isPrefixOf,h',h]
theorem hsf1(l:List UInt8)(c:UInt8):Lib.hasSuffix l [c]=(l.getLast? ==some c):=by
 have h:Lib.hasSuffix l [c]=Lib.hasPrefix l.reverse [c]:=by simp[Lib.hasSuffix,Lib.hasPrefix,List.isSuffixOf]
 rw[h,hp1,List.head?_reverse]
theorem tp1(l:List UInt8)(c:UInt8):Lib.trimPrefix l [c]=if l.head? =some c then l.drop 1 else l:=by
 unfold Lib.trimPrefix;rw[hp1];simp
theorem qju(b c:UInt8)(l:List UInt8):Lib.indexByte (b::l) c=if b=c then 0 else if Lib.indexByte l c= -1 then-1 else Lib.indexByte l c+1:=by
 simp[Lib.indexByte]
theorem qfD(l:List UInt8)(c:UInt8):decide (0<=Lib.indexByte l c)=l.contains c:=by
 induction l with
 |nil=>rfl
 |cons b l ih=>
  rw[qju,List.contains_cons,<-ih];have:=Lib.indexByte_ge l c;by_cases h:b=c
  ·subst h;simp
  ·have h':(c==b)=false:=by simpa using fun e=>h e.symm
   rw[if_neg h,h',Bool.false_or];by_cases h2:Lib.indexByte l c= -1
   ·rw[if_pos h2,h2]
   ·rw[if_neg h2,Bool.eq_iff_iff];simp;omega
theorem qjt (l : List UInt8) (c : UInt8) : (0 ≤ Lib.indexByte l c → (Lib.indexByte l c).toNat = (l.takeWhile (· != c)).length ∧ l.dropWhile (· != c) ≠ []) ∧ (Lib.indexByte l c < 0 → l.takeWhile (· != c) = l ∧ l.dropWhile (· != c) = []) := by
  induction l with
  | nil => exact ⟨fun h => by simp [Lib.indexByte] at h, fun _ => ⟨rfl, rfl⟩⟩
  | cons b l ih =>
    rw [qju]
    have := Lib.indexByte_ge l c
    by_cases h : b = c
    · subst h; simp
    · have h' : (b != c) = true := by simpa using h
      rw [if_neg h, List.takeWhile_cons_of_pos (by simpa using h), List.dropWhile_cons_of_pos (by simpa using h)]
      by_cases h2 : Lib.indexByte l c = -1
      · rw [if_pos h2]
        refine ⟨fun h3 => absurd h3 (by decide), fun _ => ?_⟩
        obtain ⟨i1, i2⟩ := ih.2 (by omega)
        exact ⟨by rw [i1], i2⟩
      · rw [if_neg h2]
        obtain ⟨i1, i2⟩ := ih.1 (by omega)
        refine ⟨fun _ => ⟨by simp only [zqL]; omega, i2⟩, fun h3 => by omega⟩
theorem ix1(l:List UInt8)(c:UInt8):Lib.index l [c]=Lib.indexByte l c:=by
 induction l with
 |nil=>rfl
 |cons b l ih=>
  rw[qju,Lib.index,ih];by_cases h:b=c
  ·subst h;simp[List.isPrefixOf]
  ·have h':(c==b)=false:=by simpa using fun e=>h e.symm
   simp[List.isPrefixOf,h',h]
theorem qek(p:UInt8->Bool):∀l:List UInt8,l.take (l.takeWhile p).length=l.takeWhile p/\l.drop (l.takeWhile p).length=l.dropWhile p
 |[]=>⟨rfl,rfl⟩
 |b::l=>by
  by_cases h:p b=true
  ·rw[List.takeWhile_cons_of_pos h,List.dropWhile_cons_of_pos h];simp[qek p l]
  ·rw[List.takeWhile_cons_of_neg h,List.dropWhile_cons_of_neg h];simp
theorem qkz (l : List UInt8) (c : UInt8) : Lib.cut l [c] = cut1 c l := by
  unfold Lib.cut cut1
  rw [ix1, ← qfD]
  obtain ⟨h1, h2⟩ := qjt l c
  obtain ⟨t1, t2⟩ := qek (· != c) l
  by_cases h : 0 ≤ Lib.indexByte l c
  · rw [if_pos h, (h1 h).1, t1, ← List.drop_drop, t2]
    simp [h]
  · rw [if_neg h, (h2 (by omega)).1, (h2 (by omega)).2]
    simp [h]
theorem ix2(c:UInt8):∀l:List UInt8,Lib.cut l [c,c]=cut2 c l
 |[]=>rfl
 |[a]=>by simp[Lib.cut,cut2,Lib.index,List.isPrefixOf]
 |a::b::r=>by
  have ih:=ix2 c (b::r);unfold Lib.cut at ih⊢;rw[cut2,<-ih,Lib.index];have hg:=Lib.index_ge (b::r) [c,c];by_cases h:a=c/\b=c
  ·obtain⟨rfl,rfl⟩:=h;simp[List.isPrefixOf]
  ·rw[if_neg h]
   have hp:([c,c]:List UInt8).isPrefixOf (a::b::r)=false:=by
    simp only[List.isPrefixOf,Bool.and_true];rw[Bool.eq_false_iff];intro e;simp at e;exact h ⟨e.1.symm,e.2.symm⟩
   rw[hp];simp only[Bool.false_eq_true,if_false,beq_iff_eq];by_cases h2:Lib.index (b::r) [c,c]= -1
   ·rw[if_pos h2,h2];simp
   ·rw[if_neg h2,if_pos (by omega),if_pos (by omega)];have e1:(Lib.index (b::r) [c,c]+1).toNat=(Lib.index (b::r) [c,c]).toNat+1:=by omega
    rw[e1];simp[Nat.add_right_comm]
theorem sc_eq (c : UInt8) : ∀ l : List UInt8, qbs c l = if l.contains c then l.takeWhile (· != c) :: qbs c ((l.dropWhile (· != c)).drop 1) else [l]
  | [] => rfl
  | b :: l => by
    have ih := sc_eq c l
    rw [qbs]
    by_cases h : b = c
    · subst h
      simp
    · have h' : (c == b) = false := by simpa using fun e => h e.symm
      have hb : (b != c) = true := by simpa using h
      rw [if_neg h, List.contains_cons, h', Bool.false_or, List.takeWhile_cons_of_pos (p := (· != c)) hb, List.dropWhile_cons_of_pos (p := (· != c)) hb, ih]
      by_cases h2 : l.contains c = true
      · rw [if_pos h2, if_pos h2]
      · rw [if_neg h2, if_neg h2]
def ME(E:Env):Prop:=E.Fix 2/\∃m:Int,E.w0.cell? ⟨2,0,none⟩=some (.int .i64 m)
theorem ME.cell{E:Env}(h:ME E){w:World}(hw:∀b,E.Fix b->w.heap[b]? =E.w0.heap[b]?):∃m:Int,w.cell? ⟨2,0,none⟩=some (.int .i64 m):=by
 obtain⟨h1,m,h2⟩:=h;exact⟨m,(World.cell?_of_block (a:=⟨2,0,none⟩) (hw _ h1)).trans h2⟩
section
variable (E:Env){H:Hp}(Q:AV->Hp->Prop)
theorem qeH(l:List UInt8)(c:UInt8)(hQ:Q (.bool (l.head? ==some c)) H):PC Tryz.prog E 186 [.str l,.str [c]] H Q:=by
 refine qav (v:= .bool (l.head? ==some c)) (by kernel_rfl) (fun _=>True) (fun w hw=>trivial) (fun w β Rd cargs hS hsz hargs=>?_) (.bool _) rfl hQ;obtain⟨u,v,rfl,hu,hv⟩:=args2 hsz hargs;obtain⟨s,rfl,rfl,hs⟩:=qat hu;obtain⟨t,rfl,ht,_⟩:=qat hv;refine(Any.strings_HasPrefix laysb99 s t w).mono ?_;rintro e w' ⟨rfl,rfl⟩;rw[ht,hp1];exact⟨_,rfl,Frm.refl _ _,.bool _⟩
theorem qip(l:List UInt8)(c:UInt8)(hQ:Q (.bool (l.getLast? ==some c)) H):PC Tryz.prog E 210 [.str l,.str [c]] H Q:=by
 refine qav (v:= .bool (l.getLast? ==some c)) (by kernel_rfl) (fun _=>True) (fun w hw=>trivial) (fun w β Rd cargs hS hsz hargs=>?_) (.bool _) rfl hQ;obtain⟨u,v,rfl,hu,hv⟩:=args2 hsz hargs;obtain⟨s,rfl,rfl,hs⟩:=qat hu;obtain⟨t,rfl,ht,_⟩:=qat hv;refine(Any.strings_HasSuffix laysb100 s t w (by unfold maxLen at hs;omega)).mono ?_;rintro e w' ⟨rfl,rfl⟩;rw[ht,hsf1];exact⟨_,rfl,Frm.refl _ _,.bool _⟩
theorem qdM(l:List UInt8)(c:UInt8)(hQ:Q (.str (if l.head? =some c then l.drop 1 else l)) H):PC Tryz.prog E 187 [.str l,.str [c]] H Q:=by
 refine qav (v:= .str (if l.head? =some c then l.drop 1 else l)) (by kernel_rfl) (fun _=>True) (fun w hw=>trivial) (fun w β Rd cargs hS hsz hargs=>?_) (.str _) rfl hQ;obtain⟨u,v,rfl,hu,hv⟩:=args2 hsz hargs;obtain⟨s,rfl,rfl,hs⟩:=qat hu;obtain⟨t,rfl,ht,_⟩:=qat hv;refine(Any.strings_TrimPrefix laysb101 s t w).mono ?_;rintro e w' ⟨rfl,rfl⟩;rw[ht,tp1];refine⟨_,rfl,Frm.refl _ _,qc6 _ ?_⟩;rw[<-qac]at hs;split
 ·rw[zqI];omega
 ·exact hs
theorem qnH(hM:ME E)(l sep:List UInt8)(hl:l.length<=1073741824)(hQ:Q (.tup [.str (Lib.cut l sep).1,.str (Lib.cut l sep).2.1,.bool (Lib.cut l sep).2.2]) H):PC Tryz.prog E 188 [.str l,.str sep] H Q:=by
 refine qav (v:= .tup [.str (Lib.cut l sep).1,.str (Lib.cut l sep).2.1,.bool (Lib.cut l sep).2.2]) (by kernel_rfl) (fun w=>∃m:Int,w.cell? ⟨2,0,none⟩=some (.int .i64 m)) (fun w hw=>hM.cell hw) (fun w β Rd cargs hS hsz hargs=>?_) (by simp) rfl hQ;obtain⟨m,hm⟩:=hS;obtain⟨u,v,rfl,hu,hv⟩:=args2 hsz hargs;obtain⟨s,rfl,rfl,hs⟩:=qat hu;obtain⟨t,rfl,rfl,_⟩:=qat hv;rw[qac]at hl;refine(Any.strings_Cut laysb145 s t m w (by omega) hm).mono ?_;rintro e w' ⟨rfl,k,rfl⟩
 have hle:(Lib.cut s.data.toList t.data.toList).1.length<=s.size/\(Lib.cut s.data.toList t.data.toList).2.1.length<=s.size:=by
  rw[<-qac];unfold Lib.cut;split
  ·simp;omega
  ·simp
 refine⟨_,rfl,Frm.drewN _ _ _,.tup _ _ rfl (by simp[AV.free]) fun k x u hx hu=>?_⟩
 match k with
 |0=>simp at hx hu;subst hx;subst hu;exact qc6 _ (by omega)
 |1=>simp at hx hu;subst hx;subst hu;exact qc6 _ (by omega)
 |2=>simp at hx hu;subst hx;subst hu;exact .bool _
 |k+3=>simp at hx
theorem qjE(l:List UInt8)(c:UInt8)(hQ:Q (.bool (l.contains c)) H):PC Tryz.prog E 235 [.str l,.str [c]] H Q:=by
 refine qav (v:= .bool (l.contains c)) (by kernel_rfl) (fun _=>True) (fun w hw=>trivial) (fun w β Rd cargs hS hsz hargs=>?_) (.bool _) rfl hQ;obtain⟨u,v,rfl,hu,hv⟩:=args2 hsz hargs;obtain⟨s,rfl,rfl,hs⟩:=qat hu;obtain⟨⟨⟨tl⟩⟩,rfl,ht,_⟩:=qat hv;have ht':tl=[c]:=ht;subst ht';refine(Any.strings_Contains_one laysb144 s c w).mono ?_;rintro e w' ⟨rfl,rfl⟩;rw[qfD];exact⟨_,rfl,Frm.refl _ _,.bool _⟩
theorem qjs(l cs:List UInt8)(hl:l.length<=1073741824)(hcl:cs.length<=1024)(ha:∀b∈l,b.toNat<128)(hc:∀b∈cs,b.toNat<128)(hQ:Q (.int .i64 (Lib.indexAny l cs)) H):PC Tryz.prog E 165 [.str l,.str cs] H Q:=by
 refine qav (v:= .int .i64 (Lib.indexAny l cs)) (by kernel_rfl) (fun _=>True) (fun w hw=>trivial) (fun w β Rd cargs hS hsz hargs=>?_) (.int _ _) rfl hQ;obtain⟨u,v,rfl,hu,hv⟩:=args2 hsz hargs;obtain⟨s,rfl,rfl,hs⟩:=qat hu;obtain⟨t,rfl,rfl,_⟩:=qat hv;rw[qac]at hl hcl;have h116:(Tryz.prog.info? (lrenb.t 116)).map (fun i=>(i.zero,i.size))=some (some (.agg (Array.replicate 256 (.bool false))),256):=by kernel_rfl
 refine(Any.strings_IndexAny_laid laysb153 h116 s t w (by omega) (by omega) (fun j b hb=>ha b (zqH hb)) (fun j b hb=>hc b (zqH hb))).mono ?_;rintro e w' ⟨rfl,hb⟩;exact⟨_,rfl,qbh hb,.int _ _⟩
end
end Go.Proofs.YtnnhdehmlkkfjaaGreatDoor
namespace Go.Proofs.YtnnhdehmlkkfjaaGreatDoor
open Go Go.RowKit
section
variable (E:Env){H:Hp}(Q:AV->Hp->Prop)
theorem qea(c:UInt8)(hQ:Q (.int .i64 (hexT c)) H):PC Tryz.prog E 227 [.int .u8 (c.toNat:Int)] H Q:=by
 refine qad Tryz.func227 rfl [] [] (by kernel_rfl) (fun hB=>?_);have h0:=c.toNat_lt;unfold hexT at hQ;rcases(by omega:(0<=c.toNat/\c.toNat<=47)\/(48<=c.toNat/\c.toNat<=57)\/(58<=c.toNat/\c.toNat<=64)\/(65<=c.toNat/\c.toNat<=70)\/(71<=c.toNat/\c.toNat<=96)\/(97<=c.toNat/\c.toNat<=102)\/(103<=c.toNat/\c.toNat<=255))with hr|hr|hr|hr|hr|hr|hr
 ·have f0:¬(48:Int)<=c.toNat:=by omega
  have f1:(c.toNat:Int)<=57:=by omega
  have f2:¬(97:Int)<=c.toNat:=by omega
  have f3:(c.toNat:Int)<=102:=by omega
  have f4:¬(65:Int)<=c.toNat:=by omega
  have f5:(c.toNat:Int)<=70:=by omega
  rw[if_neg (by omega),if_neg (by omega),if_neg (by omega)]at hQ;simp[Tryz.ntmps227,Tryz.results227,List.replicate_succ,f0,f1,f2,f3,f4,f5];exact aQz hB (h6:=hQ)
 ·have f0:(48:Int)<=c.toNat:=by omega
  have f1:(c.toNat:Int)<=57:=by omega
  have f2:¬(97:Int)<=c.toNat:=by omega
  have f3:(c.toNat:Int)<=102:=by omega
  have f4:¬(65:Int)<=c.toNat:=by omega
  have f5:(c.toNat:Int)<=70:=by omega
  have w:IntKind.u8.wrap ((c.toNat:Int)-48)=c.toNat-48:=by rw[IntKind.wrap_u8];omega
  have w2:IntKind.i64.wrap ((c.toNat:Int)-48)=c.toNat-48:=wiz;rw[if_pos (by omega)]at hQ;simp[Tryz.ntmps227,Tryz.results227,List.replicate_succ,f0,f1,f2,f3,f4,f5,w,w2];exact aQz hB (h6:=hQ)
 ·have f0:(48:Int)<=c.toNat:=by omega
  have f1:¬(c.toNat:Int)<=57:=by omega
  have f2:¬(97:Int)<=c.toNat:=by omega
  have f3:(c.toNat:Int)<=102:=by omega
  have f4:¬(65:Int)<=c.toNat:=by omega
  have f5:(c.toNat:Int)<=70:=by omega
  rw[if_neg (by omega),if_neg (by omega),if_neg (by omega)]at hQ;simp[Tryz.ntmps227,Tryz.results227,List.replicate_succ,f0,f1,f2,f3,f4,f5];exact aQz hB (h6:=hQ)
 ·have f0:(48:Int)<=c.toNat:=by omega
  have f1:¬(c.toNat:Int)<=57:=by omega
  have f2:¬(97:Int)<=c.toNat:=by omega
  have f3:(c.toNat:Int)<=102:=by omega
  have f4:(65:Int)<=c.toNat:=by omega
  have f5:(c.toNat:Int)<=70:=by omega
  have w:IntKind.u8.wrap ((c.toNat:Int)-65)=c.toNat-65:=by rw[IntKind.wrap_u8];omega
  have w2:IntKind.i64.wrap ((c.toNat:Int)-65)=c.toNat-65:=wiz;have w3:IntKind.i64.wrap ((c.toNat:Int)-65+10)=c.toNat-65+10:=wiz;rw[if_neg (by omega),if_neg (by omega),if_pos (by omega)]at hQ;simp[Tryz.ntmps227,Tryz.results227,List.replicate_succ,f0,f1,f2,f3,f4,f5,w,w2,w3];exact aQz hB (h6:=hQ)
 ·have f0:(48:Int)<=c.toNat:=by omega
  have f1:¬(c.toNat:Int)<=57:=by omega
  have f2:¬(97:Int)<=c.toNat:=by omega
  have f3:(c.toNat:Int)<=102:=by omega
  have f4:(65:Int)<=c.toNat:=by omega
  have f5:¬(c.toNat:Int)<=70:=by omega
  rw[if_neg (by omega),if_neg (by omega),if_neg (by omega)]at hQ;simp[Tryz.ntmps227,Tryz.results227,List.replicate_succ,f0,f1,f2,f3,f4,f5];exact aQz hB (h6:=hQ)
 ·have f0:(48:Int)<=c.toNat:=by omega
  have f1:¬(c.toNat:Int)<=57:=by omega
  have f2:(97:Int)<=c.toNat:=by omega
  have f3:(c.toNat:Int)<=102:=by omega
  have f4:(65:Int)<=c.toNat:=by omega
  have f5:¬(c.toNat:Int)<=70:=by omega
  have w:IntKind.u8.wrap ((c.toNat:Int)-97)=c.toNat-97:=by rw[IntKind.wrap_u8];omega
  have w2:IntKind.i64.wrap ((c.toNat:Int)-97)=c.toNat-97:=wiz;have w3:IntKind.i64.wrap ((c.toNat:Int)-97+10)=c.toNat-97+10:=wiz;rw[if_neg (by omega),if_pos (by omega)]at hQ;simp[Tryz.ntmps227,Tryz.results227,List.replicate_succ,f0,f1,f2,f3,f4,f5,w,w2,w3];exact aQz hB (h6:=hQ)
 ·have f0:(48:Int)<=c.toNat:=by omega
  have f1:¬(c.toNat:Int)<=57:=by omega
  have f2:(97:Int)<=c.toNat:=by omega
  have f3:¬(c.toNat:Int)<=102:=by omega
  have f4:(65:Int)<=c.toNat:=by omega
  have f5:¬(c.toNat:Int)<=70:=by omega
  rw[if_neg (by omega),if_neg (by omega),if_neg (by omega)]at hQ;simp[Tryz.ntmps227,Tryz.results227,List.replicate_succ,f0,f1,f2,f3,f4,f5];exact aQz hB (h6:=hQ)
theorem qpL(c:UInt8)(hQ:Q (.int .i64 (qcI c)) H):PC Tryz.prog E 213 [.int .u8 (c.toNat:Int)] H Q:=by
 refine qad Tryz.func213 rfl [] [] (by kernel_rfl) (fun hB=>?_);have h0:=c.toNat_lt;unfold qcI qcy qc1 qcw at hQ;have i1:=qfD [45,46,95,126] c;have i2:=qfD [33,36,38,39,40,41,42,43,44,59,61] c;rcases(by omega:(0<=c.toNat/\c.toNat<=47)\/(48<=c.toNat/\c.toNat<=57)\/(58<=c.toNat/\c.toNat<=64)\/(65<=c.toNat/\c.toNat<=90)\/(91<=c.toNat/\c.toNat<=96)\/(97<=c.toNat/\c.toNat<=122)\/(123<=c.toNat/\c.toNat<=255))with hr|hr|hr|hr|hr|hr|hr
 ·have f0:¬(97:Int)<=c.toNat:=by omega
  have f1:(c.toNat:Int)<=122:=by omega
  have f2:¬(65:Int)<=c.toNat:=by omega
  have f3:(c.toNat:Int)<=90:=by omega
  have f4:¬(48:Int)<=c.toNat:=by omega
  have f5:(c.toNat:Int)<=57:=by omega
  have g:qcg c=false:=by unfold qcg;simp;omega
  rw[g,Bool.false_or]at hQ;simp[Tryz.ntmps213,Tryz.results213,List.replicate_succ,f0,f1,f2,f3,f4,f5];refine qau E _ _ _ c ?_;by_cases g1:([45,46,95,126]:List UInt8).contains c=true
  ·have j1:0<=Lib.indexByte [45,46,95,126] c:=by rw[g1]at i1;simpa using i1
   rw[if_pos g1]at hQ;simp[qai,KP,qae,j1];exact aQz hB (h6:=hQ)
  ·have j1:¬0<=Lib.indexByte [45,46,95,126] c:=fun h=>g1 (by rw[<-i1];simpa using h);rw[if_neg g1]at hQ;simp[qai,KP,qae,j1];refine qau E _ _ _ c ?_;by_cases g2:([33,36,38,39,40,41,42,43,44,59,61]:List UInt8).contains c=true
   ·have j2:0<=Lib.indexByte [33,36,38,39,40,41,42,43,44,59,61] c:=by rw[g2]at i2;simpa using i2
    rw[if_pos g2]at hQ;simp[qai,KP,qae,j2];exact aQz hB (h6:=hQ)
   ·have j2:¬0<=Lib.indexByte [33,36,38,39,40,41,42,43,44,59,61] c:=fun h=>g2 (by rw[<-i2];simpa using h);rw[if_neg g2]at hQ;by_cases e1:c=58
    ·subst e1;simp[qai,KP,qae,j2];exact aQz hB (h6:=hQ)
    ·have k1:=(qaO c 58 (by decide) 58 rfl e1).1;by_cases e2:c=64
     ·subst e2;simp[qai,KP,qae,j2];exact aQz hB (h6:=hQ)
     ·have k2:=(qaO c 64 (by decide) 64 rfl e2).1;rw[if_neg (by simp[e1,e2])]at hQ;by_cases e3:c=47
      ·subst e3;simp[qai,KP,qae,j2];exact aQz hB (h6:=hQ)
      ·have k3:=(qaO c 47 (by decide) 47 rfl e3).1;rw[if_neg e3]at hQ;by_cases e4:c=63
       ·subst e4;simp[qai,KP,qae,j2];exact aQz hB (h6:=hQ)
       ·have k4:=(qaO c 63 (by decide) 63 rfl e4).1;rw[if_neg e4]at hQ;simp[qai,KP,qae,j2,k1,k2,k3,k4];exact aQz hB (h6:=hQ)
 ·have f0:¬(97:Int)<=c.toNat:=by omega
  have f1:(c.toNat:Int)<=122:=by omega
  have f2:¬(65:Int)<=c.toNat:=by omega
  have f3:(c.toNat:Int)<=90:=by omega
  have f4:(48:Int)<=c.toNat:=by omega
  have f5:(c.toNat:Int)<=57:=by omega
  have g:qcg c=true:=by unfold qcg;simp;omega
  rw[g,Bool.true_or,if_pos rfl]at hQ;simp[Tryz.ntmps213,Tryz.results213,List.replicate_succ,f0,f1,f2,f3,f4,f5];exact aQz hB (h6:=hQ)
 ·have f0:¬(97:Int)<=c.toNat:=by omega
  have f1:(c.toNat:Int)<=122:=by omega
  have f2:¬(65:Int)<=c.toNat:=by omega
  have f3:(c.toNat:Int)<=90:=by omega
  have f4:(48:Int)<=c.toNat:=by omega
  have f5:¬(c.toNat:Int)<=57:=by omega
  have g:qcg c=false:=by unfold qcg;simp;omega
  rw[g,Bool.false_or]at hQ;simp[Tryz.ntmps213,Tryz.results213,List.replicate_succ,f0,f1,f2,f3,f4,f5];refine qau E _ _ _ c ?_;by_cases g1:([45,46,95,126]:List UInt8).contains c=true
  ·have j1:0<=Lib.indexByte [45,46,95,126] c:=by rw[g1]at i1;simpa using i1
   rw[if_pos g1]at hQ;simp[qai,KP,qae,j1];exact aQz hB (h6:=hQ)
  ·have j1:¬0<=Lib.indexByte [45,46,95,126] c:=fun h=>g1 (by rw[<-i1];simpa using h);rw[if_neg g1]at hQ;simp[qai,KP,qae,j1];refine qau E _ _ _ c ?_;by_cases g2:([33,36,38,39,40,41,42,43,44,59,61]:List UInt8).contains c=true
   ·have j2:0<=Lib.indexByte [33,36,38,39,40,41,42,43,44,59,61] c:=by rw[g2]at i2;simpa using i2
    rw[if_pos g2]at hQ;simp[qai,KP,qae,j2];exact aQz hB (h6:=hQ)
   ·have j2:¬0<=Lib.indexByte [33,36,38,39,40,41,42,43,44,59,61] c:=fun h=>g2 (by rw[<-i2];simpa using h);rw[if_neg g2]at hQ;by_cases e1:c=58
    ·subst e1;simp[qai,KP,qae,j2];exact aQz hB (h6:=hQ)
    ·have k1:=(qaO c 58 (by decide) 58 rfl e1).1;by_cases e2:c=64
     ·subst e2;simp[qai,KP,qae,j2];exact aQz hB (h6:=hQ)
     ·have k2:=(qaO c 64 (by decide) 64 rfl e2).1;rw[if_neg (by simp[e1,e2])]at hQ;by_cases e3:c=47
      ·subst e3;simp[qai,KP,qae,j2];exact aQz hB (h6:=hQ)
      ·have k3:=(qaO c 47 (by decide) 47 rfl e3).1;rw[if_neg e3]at hQ;by_cases e4:c=63
       ·subst e4;simp[qai,KP,qae,j2];exact aQz hB (h6:=hQ)
       ·have k4:=(qaO c 63 (by decide) 63 rfl e4).1;rw[if_neg e4]at hQ;simp[qai,KP,qae,j2,k1,k2,k3,k4];exact aQz hB (h6:=hQ)
 ·have f0:¬(97:Int)<=c.toNat:=by omega
  have f1:(c.toNat:Int)<=122:=by omega
  have f2:(65:Int)<=c.toNat:=by omega
  have f3:(c.toNat:Int)<=90:=by omega
  have f4:(48:Int)<=c.toNat:=by omega
  have f5:¬(c.toNat:Int)<=57:=by omega
  have g:qcg c=true:=by unfold qcg;simp;omega
  rw[g,Bool.true_or,if_pos rfl]at hQ;simp[Tryz.ntmps213,Tryz.results213,List.replicate_succ,f0,f1,f2,f3,f4,f5];exact aQz hB (h6:=hQ)
 ·have f0:¬(97:Int)<=c.toNat:=by omega
  have f1:(c.toNat:Int)<=122:=by omega
  have f2:(65:Int)<=c.toNat:=by omega
  have f3:¬(c.toNat:Int)<=90:=by omega
  have f4:(48:Int)<=c.toNat:=by omega
  have f5:¬(c.toNat:Int)<=57:=by omega
  have g:qcg c=false:=by unfold qcg;simp;omega
  rw[g,Bool.false_or]at hQ;simp[Tryz.ntmps213,Tryz.results213,List.replicate_succ,f0,f1,f2,f3,f4,f5];refine qau E _ _ _ c ?_;by_cases g1:([45,46,95,126]:List UInt8).contains c=true
  ·have j1:0<=Lib.indexByte [45,46,95,126] c:=by rw[g1]at i1;simpa using i1
   rw[if_pos g1]at hQ;simp[qai,KP,qae,j1];exact aQz hB (h6:=hQ)
  ·have j1:¬0<=Lib.indexByte [45,46,95,126] c:=fun h=>g1 (by rw[<-i1];simpa using h);rw[if_neg g1]at hQ;simp[qai,KP,qae,j1];refine qau E _ _ _ c ?_;by_cases g2:([33,36,38,39,40,41,42,43,44,59,61]:List UInt8).contains c=true
   ·have j2:0<=Lib.indexByte [33,36,38,39,40,41,42,43,44,59,61] c:=by rw[g2]at i2;simpa using i2
    rw[if_pos g2]at hQ;simp[qai,KP,qae,j2];exact aQz hB (h6:=hQ)
   ·have j2:¬0<=Lib.indexByte [33,36,38,39,40,41,42,43,44,59,61] c:=fun h=>g2 (by rw[<-i2];simpa using h);rw[if_neg g2]at hQ;by_cases e1:c=58
    ·subst e1;simp[qai,KP,qae,j2];exact aQz hB (h6:=hQ)
    ·have k1:=(qaO c 58 (by decide) 58 rfl e1).1;by_cases e2:c=64
     ·subst e2;simp[qai,KP,qae,j2];exact aQz hB (h6:=hQ)
     ·have k2:=(qaO c 64 (by decide) 64 rfl e2).1;rw[if_neg (by simp[e1,e2])]at hQ;by_cases e3:c=47
      ·subst e3;simp[qai,KP,qae,j2];exact aQz hB (h6:=hQ)
      ·have k3:=(qaO c 47 (by decide) 47 rfl e3).1;rw[if_neg e3]at hQ;by_cases e4:c=63
       ·subst e4;simp[qai,KP,qae,j2];exact aQz hB (h6:=hQ)
       ·have k4:=(qaO c 63 (by decide) 63 rfl e4).1;rw[if_neg e4]at hQ;simp[qai,KP,qae,j2,k1,k2,k3,k4];exact aQz hB (h6:=hQ)
 ·have f0:(97:Int)<=c.toNat:=by omega
  have f1:(c.toNat:Int)<=122:=by omega
  have f2:(65:Int)<=c.toNat:=by omega
  have f3:¬(c.toNat:Int)<=90:=by omega
  have f4:(48:Int)<=c.toNat:=by omega
  have f5:¬(c.toNat:Int)<=57:=by omega
  have g:qcg c=true:=by unfold qcg;simp;omega
  rw[g,Bool.true_or,if_pos rfl]at hQ;simp[Tryz.ntmps213,Tryz.results213,List.replicate_succ,f0,f1,f2,f3,f4,f5];exact aQz hB (h6:=hQ)
 ·have f0:(97:Int)<=c.toNat:=by omega
  have f1:¬(c.toNat:Int)<=122:=by omega
  have f2:(65:Int)<=c.toNat:=by omega
  have f3:¬(c.toNat:Int)<=90:=by omega
  have f4:(48:Int)<=c.toNat:=by omega
  have f5:¬(c.toNat:Int)<=57:=by omega
  have g:qcg c=false:=by unfold qcg;simp;omega
  rw[g,Bool.false_or]at hQ;simp[Tryz.ntmps213,Tryz.results213,List.replicate_succ,f0,f1,f2,f3,f4,f5];refine qau E _ _ _ c ?_;by_cases g1:([45,46,95,126]:List UInt8).contains c=true
  ·have j1:0<=Lib.indexByte [45,46,95,126] c:=by rw[g1]at i1;simpa using i1
   rw[if_pos g1]at hQ;simp[qai,KP,qae,j1];exact aQz hB (h6:=hQ)
  ·have j1:¬0<=Lib.indexByte [45,46,95,126] c:=fun h=>g1 (by rw[<-i1];simpa using h);rw[if_neg g1]at hQ;simp[qai,KP,qae,j1];refine qau E _ _ _ c ?_;by_cases g2:([33,36,38,39,40,41,42,43,44,59,61]:List UInt8).contains c=true
   ·have j2:0<=Lib.indexByte [33,36,38,39,40,41,42,43,44,59,61] c:=by rw[g2]at i2;simpa using i2
    rw[if_pos g2]at hQ;simp[qai,KP,qae,j2];exact aQz hB (h6:=hQ)
   ·have j2:¬0<=Lib.indexByte [33,36,38,39,40,41,42,43,44,59,61] c:=fun h=>g2 (by rw[<-i2];simpa using h);rw[if_neg g2]at hQ;by_cases e1:c=58
    ·subst e1;simp[qai,KP,qae,j2];exact aQz hB (h6:=hQ)
    ·have k1:=(qaO c 58 (by decide) 58 rfl e1).1;by_cases e2:c=64
     ·subst e2;simp[qai,KP,qae,j2];exact aQz hB (h6:=hQ)
     ·have k2:=(qaO c 64 (by decide) 64 rfl e2).1;rw[if_neg (by simp[e1,e2])]at hQ;by_cases e3:c=47
      ·subst e3;simp[qai,KP,qae,j2];exact aQz hB (h6:=hQ)
      ·have k3:=(qaO c 47 (by decide) 47 rfl e3).1;rw[if_neg e3]at hQ;by_cases e4:c=63
       ·subst e4;simp[qai,KP,qae,j2];exact aQz hB (h6:=hQ)
       ·have k4:=(qaO c 63 (by decide) 63 rfl e4).1;rw[if_neg e4]at hQ;simp[qai,KP,qae,j2,k1,k2,k3,k4];exact aQz hB (h6:=hQ)
theorem ql4(s:List UInt8)(i:Nat)(hi:i<s.length)(hl:s.length<=1073741824)(hQ:∀v,Q (.tup [.int .u8 v,.bool (qel (s.drop i))]) H):PC Tryz.prog E 212 [.str s,.int .i64 (i:Int)] H Q:=by
 refine qad Tryz.func212 rfl [] [] (by kernel_rfl) (fun hB=>?_);have w2:IntKind.i64.wrap ((i:Int)+2)=i+2:=wiz;have w1:IntKind.i64.wrap ((i:Int)+1)=i+1:=wiz;by_cases h:i+2<s.length
 ·obtain⟨a,ha⟩:∃a,s[i]? =some a:=⟨_,zqD hi⟩
  obtain⟨b,hb⟩:∃b,s[i+1]? =some b:=⟨_,zqD (by omega)⟩
  obtain⟨c,hc⟩:∃c,s[i+2]? =some c:=⟨_,zqD h⟩
  have la:=qbE ha;have lb:=qbE hb;have lc:=qbE hc;have n1:¬(s.length:Int)<=i+2:=by omega
  have q1:((i:Int)+1).toNat=i+1:=by omega
  have q2:((i:Int)+2).toNat=i+2:=by omega
  have q3:(0:Int)<=i+1:=by omega
  have q4:(0:Int)<=i+2:=by omega
  have hd:s.drop i=a::b::c::s.drop (i+3):=by rw[qaA s i a ha,qaA s (i+1) b hb,qaA s (i+2) c hc]
  rw[hd]at hQ;by_cases h37:a=37
  ·subst h37;simp[Tryz.ntmps212,Tryz.results212,List.replicate_succ,w2,w1,n1,la,lb,lc,q1,q2,q3,q4];refine qea E _ b ?_;simp[qai,KP,qae,w2,w1,lb,lc,q1,q2,q3,q4];refine qea E _ c ?_;by_cases x1:0<=hexT b
   ·have e:qel (37::b::c::s.drop (i+3))=decide (0<=hexT c):=by simp[qel,x1]
    rw[e]at hQ;simp[qai,KP,qae,x1];exact aQz hB (h6:=(hQ _))
   ·have e:qel (37::b::c::s.drop (i+3))=false:=by simp[qel,x1]
    rw[e]at hQ;simp[qai,KP,qae,x1];exact aQz hB (h6:=(hQ _))
  ·have hb2:=(qaO a 37 (by decide) 37 rfl h37).2;simp[Tryz.ntmps212,Tryz.results212,List.replicate_succ,w2,w1,n1,la,lb,lc,q1,q2,q3,q4,hb2];have e:qel (a::b::c::s.drop (i+3))=false:=by simp[qel,h37]
   rw[e]at hQ;exact aQz hB (h6:=(hQ 0))
 ·have n1:(s.length:Int)<=i+2:=by omega
  have e:qel (s.drop i)=false:=by
   have:(s.drop i).length<=2:=by rw[zqI];omega
   match s.drop i,this with
   |[],_=>rfl
   |[_],_=>rfl
   |[_,_],_=>rfl
  rw[e]at hQ;simp[Tryz.ntmps212,Tryz.results212,List.replicate_succ,w2,n1];exact aQz hB (h6:=(hQ 0))
theorem qfk(may:UInt8->Bool)(c:UInt8)(r:List UInt8):qbt may (c::r)=if qel (c::r)then 3+qbt may (r.drop 2)else if may c then 1+qbt may r else 0:=by
 rw[qbt]
theorem qhD{l:List UInt8}(h:qel l=true):3<=l.length:=by
 match l,h with
 |_::_::_::_,_=>simp
def sgI(H:Hp)(s:List UInt8)(mask:Int)(may:UInt8->Bool)(fr:List AV)(K:Hp):Prop:=K=H/\∃i:Nat,i<=s.length/\qbt may s=i+qbt may (s.drop i)/\
 ∃x:Nat->AV,fr=[.str s,.int .i64 mask,x 2,x 3,x 4,.int .i64 (i:Int),x 6,x 7,x 8,x 9,x 10,x 11,x 12,x 13,x 14,x 15,x 16,x 17,x 18,x 19,x 20,x 21,x 22,x 23,x 24,x 25,x 26,x 27,x 28,x 29,x 30]
theorem qeU(s:List UInt8)(mask:Int)(may:UInt8->Bool)(hm:∀c:UInt8,(IntKind.i64.wrap (((qcI c%2^IntKind.i64.bits).toNat&&&(mask%2^IntKind.i64.bits).toNat:Nat):Int)==0)=!may c)(hl:s.length<=1073741824)(hQ:Q (.int .i64 (qbt may s)) H):PC Tryz.prog E 190 [.str s,.int .i64 mask] H Q:=by
 refine qad Tryz.func190 rfl [] [] (by kernel_rfl) (fun hB=>?_);simp[Tryz.ntmps190,Tryz.results190,List.replicate_succ];refine qbd (sgI H s mask may) (fun fr _=>s.length-(ai (aget fr 5)).toNat) ⟨rfl,0,by omega,by simp,friz⟩ ?_;rintro fr K ⟨rfl,i,hi,hS,x,rfl⟩;by_cases h:i<s.length
 ·obtain⟨c,hc⟩:∃c,s[i]? =some c:=⟨_,zqD h⟩
  have la:=qbE hc;have hd:=qaA s i c hc;have w3:IntKind.i64.wrap ((i:Int)+3)=i+3:=wiz;have w1:IntKind.i64.wrap ((i:Int)+1)=i+1:=wiz;simp[h];refine ql4 E _ s i h hl (fun v=>?_);rw[hd,qfk]at hS;rw[hd];by_cases ht:qel (c::s.drop (i+1))=true
  ·have h3:=qhD ht;rw[<-hd,zqI]at h3;simp[qai,KP,ht,w3];rw[if_pos ht,List.drop_drop]at hS;exact Klz ⟨rfl,i+3,by omega,by rw[hS,show i+1+2=i+3 by omega];omega,friz⟩
  ·have ht':qel (c::s.drop (i+1))=false:=by simpa using ht
   simp[qai,KP,ht',la];refine qpL E _ c ?_;rw[if_neg ht]at hS;have hmc:=hm c;cases hmay:may c with
   |true=>
    rw[hmay]at hmc hS;simp[qai,KP,qae,w1,hmc];exact Klz ⟨rfl,i+1,by omega,by rw[hS,if_pos rfl];omega,friz⟩
   |false=>
    rw[hmay]at hmc hS;rw[if_neg (by simp)]at hS;simp[qai,KP,qae,w1,hmc];rw[hS]at hQ;exact aQz hB (h6:=(by simpa using hQ))
 ·simp[h];have e:i=s.length:=by omega
  have hS2:qbt may s=i:=by rw[hS,e,List.drop_length];simp[qbt]
  rw[hS2]at hQ;exact aQz hB (h6:=hQ)
end
theorem qm8(last:Bool):∀(l:List (List UInt8)) (n:Int),0<=n->0<=(goG last l n).1/\(goG last l n).1<=n+2+l.length
 |[],n,h=>by simp[goG];omega
 |g::r,n,h=>by
  have ih:=qm8 last r (n+1) (by omega);rw[goG];simp only[zqL];split
  ·simp only;omega
  ·split
   ·simp only;omega
   ·split
    ·omega
    ·simp only;omega
theorem qlk(s:List UInt8)(last:Bool):0<=(qbO s last).1:=by
 unfold qbO;split
 ·simp
 ·exact(qm8 last _ 0 (by omega)).1
theorem qkT(may:UInt8->Bool):qbt may []=0:=by rw[qbt]
theorem qc3(may:UInt8->Bool):∀(k:Nat) (s:List UInt8),s.length<=k->qbt may s<=s.length
 |_,[],_=>by simp[qkT]
 |0,_::_,h=>by simp at h
 |k+1,c::r,h=>by
  simp only[zqL]at h⊢;rw[qfk];split
  ·rename_i ht;have:=qhD ht;simp only[zqL]at this;have h1:=qc3 may k (r.drop 2) (by rw[zqI];omega);rw[zqI]at h1;omega
  ·split
   ·have h1:=qc3 may k r (by omega);omega
   ·omega
end Go.Proofs.YtnnhdehmlkkfjaaGreatDoor
namespace Go.Proofs.YtnnhdehmlkkfjaaGreatDoor
open Go Go.RowKit Go.Shelf
theorem qdC(c:UInt8):(qcy c=true/\qcI c=1)\/(qcy c=false/\qc1 c=true/\qcI c=2)\/(qcy c=false/\qc1 c=false/\qcw c=true/\qcI c=4)\/(qcy c=false/\qc1 c=false/\qcw c=false/\c=47/\qcI c=8)\/(qcy c=false/\qc1 c=false/\qcw c=false/\c=63/\qcI c=16)\/(qcy c=false/\qc1 c=false/\qcw c=false/\c≠47/\c≠63/\qcI c=0):=by
 unfold qcI;by_cases h1:qcy c=true
 ·exact .inl ⟨h1,by rw[if_pos h1]⟩
 ·have h1':qcy c=false:=by simpa using h1
  rw[if_neg h1];by_cases h2:qc1 c=true
  ·exact .inr (.inl ⟨h1',h2,by rw[if_pos h2]⟩)
  ·have h2':qc1 c=false:=by simpa using h2
   rw[if_neg h2];by_cases h3:qcw c=true
   ·exact .inr (.inr (.inl ⟨h1',h2',h3,by rw[if_pos h3]⟩))
   ·have h3':qcw c=false:=by simpa using h3
    rw[if_neg h3];by_cases h4:c=47
    ·exact .inr (.inr (.inr (.inl ⟨h1',h2',h3',h4,by rw[if_pos h4]⟩)))
    ·rw[if_neg h4];by_cases h5:c=63
     ·exact .inr (.inr (.inr (.inr (.inl ⟨h1',h2',h3',h5,by rw[if_pos h5]⟩))))
     ·exact .inr (.inr (.inr (.inr (.inr ⟨h1',h2',h3',h4,h5,by rw[if_neg h5]⟩))))
theorem qmG(c:UInt8):(IntKind.i64.wrap (((qcI c%2^IntKind.i64.bits).toNat&&&((3:Int)%2^IntKind.i64.bits).toNat:Nat):Int)==0)=!qli c:=by
 unfold qli;rcases qdC c with⟨h1,h⟩|⟨h1,h2,h⟩|⟨h1,h2,h3,h⟩|⟨h1,h2,h3,h4,h⟩|⟨h1,h2,h3,h4,h⟩|⟨h1,h2,h3,h4,h5,h⟩
 ·rw[h,h1];simp;decide
 ·rw[h,h1,h2];decide
 ·rw[h,h1,h2];decide
 ·rw[h,h1,h2];decide
 ·rw[h,h1,h2];decide
 ·rw[h,h1,h2];decide
theorem qmF(c:UInt8):(IntKind.i64.wrap (((qcI c%2^IntKind.i64.bits).toNat&&&((15:Int)%2^IntKind.i64.bits).toNat:Nat):Int)==0)=!qk4 c:=by
 unfold qk4;rcases qdC c with⟨h1,h⟩|⟨h1,h2,h⟩|⟨h1,h2,h3,h⟩|⟨h1,h2,h3,h4,h⟩|⟨h1,h2,h3,h4,h⟩|⟨h1,h2,h3,h4,h5,h⟩
 ·rw[h,h1];simp;decide
 ·rw[h,h1,h2];simp;decide
 ·rw[h,h1,h2,h3];simp;decide
 ·rw[h,h1,h2,h3,h4];decide
 ·rw[h,h1,h2,h3,h4];decide
 ·have e:(c==47)=false:=by simpa using h4
  rw[h,h1,h2,h3,e];decide
theorem qia(c:UInt8):(IntKind.i64.wrap (((qcI c%2^IntKind.i64.bits).toNat&&&((31:Int)%2^IntKind.i64.bits).toNat:Nat):Int)==0)=!qgX c:=by
 unfold qgX;rcases qdC c with⟨h1,h⟩|⟨h1,h2,h⟩|⟨h1,h2,h3,h⟩|⟨h1,h2,h3,h4,h⟩|⟨h1,h2,h3,h4,h⟩|⟨h1,h2,h3,h4,h5,h⟩
 ·rw[h,h1];simp;decide
 ·rw[h,h1,h2];simp;decide
 ·rw[h,h1,h2,h3];simp;decide
 ·rw[h,h1,h2,h3,h4];decide
 ·rw[h,h1,h2,h3,h4];decide
 ·have e:(c==47)=false:=by simpa using h4
  have e2:(c==63)=false:=by simpa using h5
  rw[h,h1,h2,h3,e,e2];decide
theorem qhK (c : UInt8) : ∀ (k : Nat) (l : List UInt8), l.length ≤ k → Lib.splitK [c] 0 (Lib.count l [c]) l = qbs c l
  | 0, l, h => by
    have : l = [] := List.length_eq_zero_iff.1 (by omega)
    subst this
    rfl
  | k + 1, l, h => by
    rw [sc_eq]
    have hg := Lib.indexByte_ge l c
    have hb := qfD l c
    obtain ⟨t1, t2⟩ := qek (· != c) l
    by_cases hc : l.contains c = true
    · rw [hc] at hb
      have h0 : 0 ≤ Lib.indexByte l c := by simpa using hb
      obtain ⟨e1, e2⟩ := (qjt l c).1 h0
      have hi : Lib.index l [c] = ((l.takeWhile (· != c)).length : Nat) := by rw [ix1]; omega
      rw [if_pos hc, Lib.count_hit (by simp) hi, Nat.add_comm, Lib.splitK, hi]
      rw [if_neg (by simp)]
      simp only [Int.toNat_natCast, Nat.add_zero, zqL, List.length_nil, Nat.zero_add]
      rw [t1, ← List.drop_drop, t2]
      have hlen : ((l.dropWhile (· != c)).drop 1).length ≤ k := by
        have h3 : (l.dropWhile (· != c)).length ≤ l.length := by rw [← t2, zqI]; omega
        have h4 : 0 < (l.dropWhile (· != c)).length := List.length_pos_iff.2 e2
        rw [zqI]
        omega
      rw [qhK c k _ hlen]
    · have hc' : l.contains c = false := by simpa using hc
      rw [hc'] at hb
      have h0 : ¬ 0 ≤ Lib.indexByte l c := by simpa using hb
      have hi : Lib.index l [c] = -1 := by rw [ix1]; omega
      rw [if_neg hc, Lib.count_miss hi]
      rfl
section
variable (E:Env){H:Hp}(Q:AV->Hp->Prop)
theorem qfh(sep:ByteArray)(m:Nat):∀(k:Nat) (s:ByteArray),s.size<=m->∀x∈Lib.splitB sep 0 k s,x.size<=m
 |0,s,h,x,hx=>by simp[Lib.splitB]at hx;subst hx;exact h
 |k+1,s,h,x,hx=>by
  unfold Lib.splitB at hx;split at hx
  ·simp at hx;subst hx;exact h
  ·simp only[List.mem_cons]at hx;rcases hx with rfl|hx
   ·simp only[ByteArray.size_extract];omega
   ·exact qfh sep m k _ (by simp only[ByteArray.size_extract];omega) x hx
theorem qjZ(hM:ME E)(l:List UInt8)(c:UInt8)(hl:l.length<=1073741824)(hQ:Q (.sl false 1 (strs (qbs c l))) H):PC Tryz.prog E 234 [.str l,.str [c]] H Q:=by
 refine⟨by kernel_rfl,fun w β Rd Ow cargs hHR hOw hsz hargs=>?_⟩;obtain⟨m,hm⟩:=hM.cell (w:=w) fun b hb=>(hHR.fix b hb).1;obtain⟨u,v,rfl,hu,hv⟩:=args2 hsz (fun t x u hx hu=>(hargs t x u hx hu).1);obtain⟨s,rfl,rfl,hs⟩:=qat hu;obtain⟨⟨⟨tl⟩⟩,rfl,ht,_⟩:=qat hv;have ht':tl=[c]:=ht;subst ht';rw[qac]at hl;have h11:1<=(⟨#[c]⟩:ByteArray).size:=Nat.le_refl _;have hi9:(Tryz.prog.info? (lrenb.t 9)).map (fun i=>(i.zero,i.size,i.bytes))=some (some (.string ByteArray.empty),1,16):=by kernel_rfl
 refine(Any.strings_Split laysb146 hi9 s ⟨#[c]⟩ m w (by omega) hm h11).mono ?_;rintro e w' ⟨rfl,rfl⟩;have hlen:=Lib.splitB_all ⟨#[c]⟩ h11 0 _ s rfl;have hdata:=Lib.splitB_data ⟨#[c]⟩ 0 (Lib.countB s ⟨#[c]⟩) s;have hcs:Lib.splitK (⟨#[c]⟩:ByteArray).data.toList 0 (Lib.countB s ⟨#[c]⟩) s.data.toList=qbs c s.data.toList:=qhK c _ _ (Nat.le_refl _);rw[hcs]at hdata;obtain⟨L,hL⟩:=exz (Lib.splitB ⟨#[c]⟩ 0 (Lib.countB s ⟨#[c]⟩) s);have hle:=Lib.countB_le ⟨#[c]⟩ h11 s.size s (Nat.le_refl _);have hsz2:=qfh ⟨#[c]⟩ s.size (Lib.countB s ⟨#[c]⟩) s (Nat.le_refl _);rw[hL]at hlen hdata hsz2⊢;obtain⟨n,hn⟩:=exz (Lib.countB s ⟨#[c]⟩);rw[hn]at hlen hle⊢;have hN:(strs (qbs c s.data.toList)).length=n+1:=by rw[<-hdata];simp[strs,hlen]
 have hrel:Rel (w.alloc (.cells (L.map Value.string).toArray (lrenb.t 9))) β (fun g o=>Rd g o\/g=w.heap.size) (.sl false 1 (strs (qbs c s.data.toList))) (.slice (some ⟨w.heap.size,0,none⟩) (n+1) (n+1)):=by
  refine .sl false 1 _ _ (L.map Value.string) (fun r hr=>?_) ?_ (fun g o n' c' hv j hj=>?_) (fun h=>by cases h) (fun r hr x hx=>?_) (fun j x u hx hu=>?_)
  ·simp[strs]at hr;obtain⟨_,_,rfl⟩:=hr;rfl
  ·rw[hN];refine⟨by simp[hlen],_,n+1,rfl,Nat.le_refl _,by unfold maxLen;omega,fun _=>⟨_,_,rfl,fun j hj=>?_⟩⟩;rw[Nat.zero_add,World.cell?_alloc_new];simp
  ·cases hv;exact .inr rfl
  ·simp[strs]at hr;obtain⟨_,_,rfl⟩:=hr;simp at hx;subst hx;exact⟨rfl,rfl⟩
  ·have hf:(strs (qbs c s.data.toList)).flatten=L.map fun b=>AV.str b.data.toList:=by
    rw[<-hdata];clear hdata hN hL hsz2 hlen hx hu
    induction L with
    |nil=>rfl
    |cons a L ih=>simp[strs]at ih⊢;exact ih
   rw[hf,List.getElem?_map]at hx;rw[List.getElem?_map]at hu;cases hj:L[j]? with
   |none=>rw[hj]at hx;cases hx
   |some b=>
    rw[hj]at hx hu;simp at hx hu;subst hx;subst hu;exact .str _ _ rfl (by have:=hsz2 b (zqH hj);unfold maxLen;omega)
 refine⟨_,_,H,β,_,Ow,rfl,hQ,qcc hHR (Frm.alloc _ _ _) (fun g _=>g=w.heap.size) (fun g o h=>⟨by omega,by simp;omega⟩) hrel (.sl _ _ _ fun r hr x hx=>?_) rfl⟩;simp[strs]at hr;obtain⟨_,_,rfl⟩:=hr;simp at hx;subst hx;exact .str _
end
def PE(E:Env):Prop:=SE2 E/\ME E
theorem SE2.env{E E':Env}(h:SE2 E)(h0:E'.w0=E.w0)(hF:E'.Fix=E.Fix):SE2 E':=⟨⟨by rw[hF];exact h.1.1,by rw[h0];exact h.1.2⟩,by rw[hF];exact h.2.1,by rw[h0];exact h.2.2⟩
theorem ME.env{E E':Env}(h:ME E)(h0:E'.w0=E.w0)(hF:E'.Fix=E.Fix):ME E':=⟨by rw[hF];exact h.1,by rw[h0];exact h.2⟩
theorem PE.env{E E':Env}(h:PE E)(h0:E'.w0=E.w0)(hF:E'.Fix=E.Fix):PE E':=⟨h.1.env h0 hF,h.2.env h0 hF⟩
theorem qpE{α:Type}(l:List α)(k:Nat)(x:α)(h:l[k]? =some x):l.drop k=x::l.drop (k+1):=by
 have hlt:=(zqC.1 h).1;rw[List.drop_eq_getElem_cons hlt,(zqC.1 h).2]
theorem qdP(c:UInt8):∀l:List UInt8,(qbs c l).length<=l.length+1/\∀g∈qbs c l,g.length<=l.length
 |[]=>by simp[qbs]
 |x::r=>by
  obtain⟨h1,h2⟩:=qdP c r;rw[qbs];split
  ·refine⟨by simp;omega,fun g hg=>?_⟩;rcases List.mem_cons.1 hg with rfl|hg
   ·simp
   ·have:=h2 g hg;simp;omega
  ·split
   ·rename_i h t he;rw[he]at h1 h2;refine⟨by simp at h1⊢;omega,fun g hg=>?_⟩;rcases List.mem_cons.1 hg with rfl|hg
    ·have:=h2 h (.head _);simp;omega
    ·have:=h2 g (.tail _ hg);simp;omega
   ·exact⟨by simp,fun g hg=>by simp at hg;subst hg;simp⟩
theorem qcE(l:List UInt8)(m:Int)(hm:0<=m):0<=(qag 10 m l).1/\(qag 10 m l).1<=m:=by
 unfold qag
 repeat' split
 all_goals first
  |exact⟨Int.le_refl _,hm⟩
  |skip
 rename_i h1 h2 h3;exact⟨qbU 10 (by decide) l (by simpa using h2),by simp only;omega⟩
theorem qky(c:UInt8):∀l:List UInt8,(cut2 c l).1.length<=l.length/\(cut2 c l).2.1.length<=l.length
 |[]=>by simp[cut2]
 |[a]=>by simp[cut2]
 |a::b::r=>by
  obtain⟨h1,h2⟩:=qky c (b::r);rw[cut2];split
  ·simp;omega
  ·simp only[zqL]at h1 h2⊢;omega
section
open Go.Lib
variable (E:Env){H:Hp}(Q:AV->Hp->Prop)
theorem qcC(hE:SE2 E)(n:Int)(h0: -9223372036854775808<=n)(h1:n<=9223372036854775807)(hQ:Q (.str (itoa n)) H):PC Tryz.prog E 56 [.int .i64 n] H Q:=by
 refine qad Tryz.func56 rfl [] [] (by kernel_rfl) (fun hB=>?_);simp[Tryz.ntmps56,Tryz.results56,List.replicate_succ];refine qrt E H _ hE n h0 h1 ?_;simp;exact aQz hB (h6:=hQ)
theorem qdK(s:List UInt8)(i:Nat)(c:UInt8)(other:Int)(hc:s[i]? =some c)(hQ:Q (.int .i64 (qdF c other)) H):PC Tryz.prog E 191 [.str s,.int .i64 (i:Int),.int .i64 other] H Q:=by
 refine qad Tryz.func191 rfl [] [] (by kernel_rfl) (fun hB=>?_);have la:=qbE hc;unfold qdF at hQ;by_cases h:c=37
 ·subst h;simp[Tryz.ntmps191,Tryz.results191,List.replicate_succ,la];exact aQz hB (h6:=hQ)
 ·have hb:=(qaO c 37 (by decide) 37 rfl h).1;rw[if_neg h]at hQ;simp[Tryz.ntmps191,Tryz.results191,List.replicate_succ,la,hb];exact aQz hB (h6:=hQ)
def dtI(H:Hp)(s:List UInt8)(L:List (List UInt8))(fr:List AV)(K:Hp):Prop:=K=H/\∃i:Nat,i<=L.length/\(L.take i).all qf9=true/\
 ∃x:Nat->AV,fr=[.str s,x 1,x 2,.sl false 1 (strs L),x 4,x 5,x 6,x 7,x 8,x 9,.sl false 1 (strs L),.int .i64 (L.length:Int),.int .i64 (i:Int),x 13,x 14,x 15,x 16,x 17,x 18,x 19,x 20,x 21,x 22,x 23,x 24,x 25,x 26,x 27,x 28,x 29,x 30,x 31,x 32]
theorem qjr(hE:PE E)(s:List UInt8)(hl:s.length<=1073741824)(hQ:Q (.bool (dotB s)) H):PC Tryz.prog E 236 [.str s] H Q:=by
 refine qad Tryz.func236 rfl [] [] (by kernel_rfl) (fun hB=>?_);simp[Tryz.ntmps236,Tryz.results236,List.replicate_succ];refine qjZ E _ hE.2 s 46 hl ?_;obtain⟨h1,h2⟩:=qdP 46 s;obtain⟨L,hL⟩:=exz (qbs 46 s);unfold dotB at hQ;rw[hL]at h1 h2 hQ⊢;simp;refine qbd (dtI H s L) (fun fr _=>L.length-(ai (aget fr 12)).toNat) ⟨rfl,0,by omega,by simp,friz⟩ ?_;rintro fr K ⟨rfl,i,hi,hS,x,rfl⟩;by_cases h:i<L.length
 ·obtain⟨g,hg⟩:∃g,L[i]? =some g:=⟨_,zqD h⟩
  have hat:=qff hg;have hgl:=h2 g (zqH hg);have w1:IntKind.i64.wrap ((i:Int)+1)=i+1:=wiz;have hst:=qcs qf9 L i g hg;have hsp:=qdp qf9 L i g hg;simp[h,hat];refine qb9 E _ _ g 255 (by simp only[cap];omega) (by decide) (by decide) ?_;have hr:=qcE g 255 (by decide);by_cases he:(qag 10 255 g).2=0
  ·simp[he];refine qcC E _ hE.1 _ (by omega) (by omega) ?_;by_cases hd:itoa (qag 10 255 g).1=g
   ·have hok:qf9 g=true:=by unfold qf9;simp[he,hd]
    simp[hd,w1];exact Klz ⟨rfl,i+1,by omega,by rw[hst,hS,hok];rfl,friz⟩
   ·have hok:qf9 g=false:=by unfold qf9;simp[he,hd]
    have hd':(itoa (qag 10 255 g).1==g)=false:=by simpa using hd
    have hd2:(itoa (qag 10 255 g).1 !=g)=true:=by simpa using hd
    rw[hsp hok]at hQ;simp[hd',hd2];exact aQz hB (h6:=(by simpa using hQ))
  ·have hok:qf9 g=false:=by unfold qf9;simp[he]
   have he1:((qag 10 255 g).2==0)=false:=by simpa using he
   have he2:((qag 10 255 g).2 !=0)=true:=by simpa using he
   rw[hsp hok]at hQ;simp[he1,he2];exact aQz hB (h6:=(by simpa using hQ))
 ·obtain rfl:i=L.length:=by omega
  rw[List.take_length]at hS;rw[hS,Bool.true_and]at hQ;simp;refine aQz hB (h6:=?_);have:((L.length:Int)==4)=(L.length==4):=by rw[Bool.eq_iff_iff];simp;omega
  rw[this];exact hQ
def grI(H:Hp)(s:List UInt8)(last:Bool)(L:List (List UInt8))(fr:List AV)(K:Hp):Prop:=K=H/\∃i:Nat,i<=L.length/\goG last L 0=goG last (L.drop i) (i:Int)/\
 ∃x:Nat->AV,fr=[.str s,.bool last,x 2,x 3,x 4,x 5,.int .i64 (i:Int),.sl false 1 (strs L),x 8,x 9,x 10,x 11,x 12,x 13,x 14,.sl false 1 (strs L),.int .i64 (L.length:Int),.int .i64 (i:Int),x 18,x 19,x 20,x 21,x 22,x 23,x 24,x 25,x 26,x 27,x 28,x 29,x 30,x 31,x 32,x 33,x 34,x 35,x 36,x 37,x 38,x 39,x 40,x 41,x 42,x 43,x 44,x 45,x 46,x 47,x 48,x 49,x 50,x 51,x 52,x 53,x 54,x 55,x 56,x 57,x 58,x 59,x 60]
def grI2(H:Hp)(s:List UInt8)(last:Bool)(L:List (List UInt8))(g:List UInt8)(i:Nat)(fr:List AV)(K:Hp):Prop:=K=H/\∃k:Nat,k<=g.length/\(g.take k).all (fun c=>decide (0<=hexT c))=true/\
 ∃x:Nat->AV,fr=[.str s,.bool last,x 2,x 3,x 4,x 5,.int .i64 (i:Int),.sl false 1 (strs L),x 8,.str g,x 10,x 11,x 12,x 13,x 14,.sl false 1 (strs L),.int .i64 (L.length:Int),.int .i64 (i:Int),x 18,x 19,x 20,x 21,x 22,x 23,x 24,x 25,x 26,x 27,x 28,x 29,x 30,x 31,x 32,x 33,x 34,x 35,x 36,x 37,x 38,x 39,x 40,x 41,x 42,x 43,x 44,x 45,x 46,.int .i64 (g.length:Int),.int .i64 (k:Int),x 49,x 50,x 51,x 52,x 53,x 54,x 55,x 56,x 57,x 58,x 59,x 60]
theorem qfE(hE:PE E)(s:List UInt8)(last:Bool)(hl:s.length<=1073741824)(hQ:∀v ok,qbO s last=(v,ok)->Q (.tup [.int .i64 v,.bool ok]) H):PC Tryz.prog E 226 [.str s,.bool last] H Q:=by
 refine qad Tryz.func226 rfl [] [] (by kernel_rfl) (fun hB=>?_);by_cases h0:s=[]
 ·subst h0;simp[Tryz.ntmps226,Tryz.results226,List.replicate_succ];exact aQz hB (h6:=(hQ 0 true rfl))
 have h0':(s==[])=false:=by simpa using h0
 simp[Tryz.ntmps226,Tryz.results226,List.replicate_succ,h0'];refine qjZ E _ hE.2 s 58 hl ?_;obtain⟨h1,h2⟩:=qdP 58 s;have fin:∀v ok,goG last (qbs 58 s) 0=(v,ok)->Q (.tup [.int .i64 v,.bool ok]) H:=fun v ok h=>hQ v ok (by unfold qbO;rw[if_neg h0];exact h);obtain⟨L,hL⟩:=exz (qbs 58 s);rw[hL]at h1 h2 fin⊢;clear hQ;simp;refine qbd (grI H s last L) (fun fr _=>L.length-(ai (aget fr 17)).toNat) ⟨rfl,0,by omega,by simp,friz⟩ ?_;rintro fr K ⟨rfl,i,hi,hS,x,rfl⟩;by_cases h:i<L.length
 ·obtain⟨g,hg⟩:∃g,L[i]? =some g:=⟨_,zqD h⟩
  have hat:=qff hg;have hgl:=h2 g (zqH hg);have w1:IntKind.i64.wrap ((i:Int)+1)=i+1:=wiz;have w2:IntKind.i64.wrap ((i:Int)+2)=i+2:=wiz;have w3:IntKind.i64.wrap ((L.length:Int)-1)=L.length-1:=wiz;rw[qpE L i g hg,goG]at hS
  have hem:(L.drop (i+1)).isEmpty=((i:Int)==(L.length:Int)-1):=by
   rw[Bool.eq_iff_iff];simp;omega
  rw[hem]at hS;by_cases hcd:(last&&((i:Int)==(L.length:Int)-1))=true
  ·have hla:last=true:=by simp only[Bool.and_eq_true]at hcd;exact hcd.1
   have his:((i:Int)==(L.length:Int)-1)=true:=by simp only[Bool.and_eq_true]at hcd;exact hcd.2
   subst hla;rw[his]at hS;simp[h,hat,w3,his];refine qjE E _ g 46 ?_;cases hc46:g.contains 46 with
   |true=>
    rw[hc46,if_pos (by simp)]at hS;simp[w2];refine qjr E _ hE g (by omega) ?_;simp;exact aQz hB (h6:=(fin _ _ hS))
   |false=>
    rw[hc46,if_neg (by simp)]at hS;simp;clear his hcd;by_cases hlen:g.length<1\/4<g.length
    ·rw[if_pos hlen]at hS;by_cases q1:g.length<1
     ·have q2:g=[]:=List.length_eq_zero_iff.1 (by omega);simp[q2];exact aQz hB (h6:=(fin _ _ hS))
     ·have q2:¬(g.length:Int)<1:=by omega
      have q3:(4:Int)<g.length:=by omega
      simp[q2,q3];exact aQz hB (h6:=(fin _ _ hS))
    ·rw[if_neg hlen]at hS;have q2:¬(g.length:Int)<1:=by omega
     have q3:¬(4:Int)<g.length:=by omega
     simp[q2,q3];refine qbd (grI2 _ s true L g i) (fun fr _=>g.length-(ai (aget fr 48)).toNat) ⟨rfl,0,by omega,by simp,friz⟩ ?_;rintro fr K ⟨rfl,k,hk,hA,y,rfl⟩;by_cases hkl:k<g.length
     ·obtain⟨c,hc⟩:∃c,g[k]? =some c:=⟨_,zqD hkl⟩
      have la:=qbE hc;have wk:IntKind.i64.wrap ((k:Int)+1)=k+1:=wiz;simp[hkl,la];refine qea E _ c ?_;by_cases hx:0<=hexT c
      ·have hx':¬hexT c<0:=by omega
       have ha:=qcs (fun c=>decide (0<=hexT c)) g k c hc;simp[hx',wk];exact Klz ⟨rfl,k+1,by omega,by rw[ha,hA];simpa using hx,friz⟩
      ·have hx':hexT c<0:=by omega
       have ha:=qdp (fun c=>decide (0<=hexT c)) g k c hc (by simpa using hx);rw[ha,if_neg (by simp)]at hS;simp[hx'];exact aQz hB (h6:=(fin _ _ hS))
     ·obtain rfl:k=g.length:=by omega
      rw[List.take_length]at hA;rw[hA,if_pos rfl]at hS;simp[w1];exact Klz ⟨rfl,i+1,by omega,by rw[hS];simp,friz⟩
  ·have hcd':(last&&((i:Int)==(L.length:Int)-1))=false:=by simpa using hcd
   rw[hcd',Bool.false_and,if_neg (by simp)]at hS
   have hpath:last=false\/(last=true/\((i:Int)==(L.length:Int)-1)=false):=by
    cases last
    ·exact .inl rfl
    ·exact .inr ⟨rfl,by simpa using hcd'⟩
   clear hcd hcd';by_cases hlen:g.length<1\/4<g.length
   ·rw[if_pos hlen]at hS;by_cases q1:g.length<1
    ·have q2:(g.length:Int)<1:=by omega
     rcases hpath with rfl|⟨rfl,his⟩
     ·simp[h,hat,w3,q2];exact aQz hB (h6:=(fin _ _ hS))
     ·simp[h,hat,w3,q2,his];exact aQz hB (h6:=(fin _ _ hS))
    ·have q2:¬(g.length:Int)<1:=by omega
     have q3:(4:Int)<g.length:=by omega
     rcases hpath with rfl|⟨rfl,his⟩
     ·simp[h,hat,w3,q2,q3];exact aQz hB (h6:=(fin _ _ hS))
     ·simp[h,hat,w3,q2,q3,his];exact aQz hB (h6:=(fin _ _ hS))
   ·rw[if_neg hlen]at hS;have q2:¬(g.length:Int)<1:=by omega
    have q3:¬(4:Int)<g.length:=by omega
    rcases hpath with rfl|⟨rfl,his⟩
    ·simp[h,hat,w3,q2,q3];refine qbd (grI2 _ s false L g i) (fun fr _=>g.length-(ai (aget fr 48)).toNat) ⟨rfl,0,by omega,by simp,friz⟩ ?_;rintro fr K ⟨rfl,k,hk,hA,y,rfl⟩;by_cases hkl:k<g.length
     ·obtain⟨c,hc⟩:∃c,g[k]? =some c:=⟨_,zqD hkl⟩
      have la:=qbE hc;have wk:IntKind.i64.wrap ((k:Int)+1)=k+1:=wiz;simp[hkl,la];refine qea E _ c ?_;by_cases hx:0<=hexT c
      ·have hx':¬hexT c<0:=by omega
       have ha:=qcs (fun c=>decide (0<=hexT c)) g k c hc;simp[hx',wk];exact Klz ⟨rfl,k+1,by omega,by rw[ha,hA];simpa using hx,friz⟩
      ·have hx':hexT c<0:=by omega
       have ha:=qdp (fun c=>decide (0<=hexT c)) g k c hc (by simpa using hx);rw[ha,if_neg (by simp)]at hS;simp[hx'];exact aQz hB (h6:=(fin _ _ hS))
     ·obtain rfl:k=g.length:=by omega
      rw[List.take_length]at hA;rw[hA,if_pos rfl]at hS;simp[w1];exact Klz ⟨rfl,i+1,by omega,by rw[hS];simp,friz⟩
    ·simp[h,hat,w3,q2,q3,his];refine qbd (grI2 _ s true L g i) (fun fr _=>g.length-(ai (aget fr 48)).toNat) ⟨rfl,0,by omega,by simp,friz⟩ ?_;rintro fr K ⟨rfl,k,hk,hA,y,rfl⟩;by_cases hkl:k<g.length
     ·obtain⟨c,hc⟩:∃c,g[k]? =some c:=⟨_,zqD hkl⟩
      have la:=qbE hc;have wk:IntKind.i64.wrap ((k:Int)+1)=k+1:=wiz;simp[hkl,la];refine qea E _ c ?_;by_cases hx:0<=hexT c
      ·have hx':¬hexT c<0:=by omega
       have ha:=qcs (fun c=>decide (0<=hexT c)) g k c hc;simp[hx',wk];exact Klz ⟨rfl,k+1,by omega,by rw[ha,hA];simpa using hx,friz⟩
      ·have hx':hexT c<0:=by omega
       have ha:=qdp (fun c=>decide (0<=hexT c)) g k c hc (by simpa using hx);rw[ha,if_neg (by simp)]at hS;simp[hx'];exact aQz hB (h6:=(fin _ _ hS))
     ·obtain rfl:k=g.length:=by omega
      rw[List.take_length]at hA;rw[hA,if_pos rfl]at hS;simp[w1];exact Klz ⟨rfl,i+1,by omega,by rw[hS];simp,friz⟩
 ·obtain rfl:i=L.length:=by omega
  rw[List.drop_length,goG]at hS;simp;exact aQz hB (h6:=(fin _ _ hS))
theorem qfF(s:List UInt8)(last:Bool)(hl:s.length<=1073741824):0<=(qbO s last).1/\(qbO s last).1<=2147483648:=by
 refine⟨qlk s last,?_⟩;unfold qbO;split
 ·simp
 ·have:=(qm8 last (qbs 58 s) 0 (by omega)).2;have:=(qdP 58 s).1;omega
theorem qil(hE:PE E)(s:List UInt8)(hl:s.length<=1073741824)(hQ:Q (.bool (qrY s)) H):PC Tryz.prog E 211 [.str s] H Q:=by
 refine qad Tryz.func211 rfl [] [] (by kernel_rfl) (fun hB=>?_);simp[Tryz.ntmps211,Tryz.results211,List.replicate_succ];refine qnH E _ hE.2 s [58,58] hl ?_;rw[ix2];unfold qrY at hQ;have hln:=qky 58 s;rcases hcut:cut2 58 s with⟨a,b,there⟩;rw[hcut]at hQ hln;simp only at hln;cases there with
 |false=>
  dsimp only at hQ;simp;refine qfE E _ hE s true hl (fun v ok hg=>?_);rw[hg]at hQ;cases ok
  ·simp;exact aQz hB (h6:=hQ)
  ·simp;exact aQz hB (h6:=(by simpa using hQ))
 |true=>
  dsimp only at hQ;simp;have r1:=qfF a false (by omega);have r2:=qfF b true (by omega);refine qfE E _ hE a false (by omega) (fun v ok hg=>?_);rw[hg]at hQ r1;simp;refine qfE E _ hE b true (by omega) (fun u ok2 hg2=>?_);rw[hg2]at hQ r2;simp only at r1 r2;have w:IntKind.i64.wrap (v+u)=v+u:=wiz;cases ok
  ·simp;exact aQz hB (h6:=(by simpa using hQ))
  ·cases ok2
   ·simp;exact aQz hB (h6:=(by simpa using hQ))
   ·simp[w];exact aQz hB (h6:=(by simpa using hQ))
theorem qd3(hE:PE E)(s:List UInt8)(hl:s.length<=1073741824)(hQ:Q (.bool (qin s)) H):PC Tryz.prog E 189 [.str s] H Q:=by
 refine qad Tryz.func189 rfl [] [] (by kernel_rfl) (fun hB=>?_);simp[Tryz.ntmps189,Tryz.results189,List.replicate_succ];refine qeH E _ s 91 ?_;unfold qin at hQ;by_cases h91:s.head? =some 91
 ·rw[if_pos h91]at hQ;simp[h91];refine qip E _ s 93 ?_;by_cases h93:s.getLast? =some 93
  ·have h2:2<=s.length:=by
    match s,h91,h93 with
    |[a],h91,h93=>simp at h91 h93;rw[h91]at h93;cases h93
    |_::_::_,_,_=>simp
   have w:IntKind.i64.wrap ((s.length:Int)-1)=((s.length-1:Nat):Int):=by rw[qaE (by omega) (by omega)];omega
   have q1:1<=s.length-1:=by omega
   have e:(s.tail.take (s.length-1-1))=s.tail.dropLast:=by rw[List.dropLast_eq_take,List.length_tail]
   rw[h93]at hQ;simp[h93,w,q1,e];refine qil E _ hE _ (by simp;omega) ?_;simp;exact aQz hB (h6:=(by simpa using hQ))
  ·have h93':(s.getLast? ==some 93)=false:=by simpa using h93
   rw[h93']at hQ;simp[h93'];exact aQz hB (h6:=(by simpa using hQ))
 ·rw[if_neg h91]at hQ;have h91':(s.head? ==some 91)=false:=by simpa using h91
  by_cases hne:s=[]
  ·subst hne;simp;exact aQz hB (h6:=(by simpa using hQ))
  ·have hne':(s !=[])=true:=by simpa using hne
   have hie:s.isEmpty=false:=by simpa using hne
   simp[h91',hne'];refine qeU E _ s 3 qli qmG hl ?_;have e:((qbt qli s:Int)==(s.length:Int))=(qbt qli s==s.length):=by rw[Bool.eq_iff_iff];simp;omega
   rw[hie,Bool.not_false,Bool.true_and,<-e]at hQ;simp;exact aQz hB (h6:=hQ)
def finA(host port:List UInt8):List UInt8×Int×Int:=
 if qin host=false\/5<port.length then([],0,52)else if port=[]then(low host,-1,0)else if(qag 10 65535 port).2≠0 then([],0,52)else(low host,(qag 10 65535 port).1,0)
theorem qrw{s:List UInt8}{c:UInt8}(h:s.head? =some c):lat s 0=some c:=by
 cases s with
 |nil=>cases h
 |cons a r=>simpa[lat]using h
theorem qcr (hE : PE E) (s : List UInt8) (hl : s.length ≤ 1073741824) (hQ : ∀ h p e, qbA s = (h, p, e) → -1 ≤ p → p ≤ 65535 → h.length ≤ 1073741824 → Q (.tup [.str h, .int .i64 p, .int .i64 e]) H) : PC Tryz.prog E 163 [.str s] H Q := by
  refine qad Tryz.func163 rfl [] [] (by kernel_rfl) (fun hB => ?_)
  have bad : qbA s = ([], 0, 52) → Q (.tup [.str [], .int .i64 0, .int .i64 52]) H := fun h => hQ _ _ _ h (by decide) (by decide) (by simp)
  simp [Tryz.ntmps163, Tryz.results163, List.replicate_succ]
  refine qau E _ _ s 93 ?_
  simp
  refine qeH E _ s 91 ?_
  obtain ⟨i1, i2⟩ := qjt s 93
  have ic := qfD s 93
  obtain ⟨t1, t2⟩ := qek (· != 93) s
  by_cases hb : s.head? = some 91 ∧ s.contains 93
  · obtain ⟨h91, h93⟩ := hb
    have h0 : 0 ≤ Lib.indexByte s 93 := by rw [h93] at ic; simpa using ic
    obtain ⟨e1, e2⟩ := i1 h0
    obtain ⟨n, hn⟩ := exz ((s.takeWhile (· != 93)).length)
    rw [hn] at e1 t1 t2
    have hib : Lib.indexByte s 93 = n := by omega
    have hn0 : 0 < n := by
      cases s with
      | nil => cases h91
      | cons a r =>
        simp at h91
        subst h91
        rw [List.takeWhile_cons_of_pos (by decide)] at hn
        rw [← hn]; simp
    have hnl : n < s.length := by
      have : s.drop n ≠ [] := by rw [t2]; exact e2
      rw [Ne, List.drop_eq_nil_iff] at this
      omega
    have w : IntKind.i64.wrap ((n : Int) + 1) = ((n + 1 : Nat) : Int) := by rw [qaE (by omega) (by omega)]; omega
    have q1 : n + 1 ≤ s.length := by omega
    have htk : (s.drop (n + 1)).take (s.length - (n + 1)) = s.drop (n + 1) := zqE (by simp)
    have hcutA : qcf s = (s.take (n + 1), (s.drop (n + 1)).drop 1, (s.drop (n + 1)).isEmpty || (s.drop (n + 1)).head? == some 58) := by
      unfold qcf
      rw [if_pos ⟨h91, h93⟩, hn]
    have hlr : (s.drop (n + 1)).length = s.length - (n + 1) := zqI
    obtain ⟨R, hR⟩ := exz (s.drop (n + 1))
    obtain ⟨T, hT⟩ := exz (s.take (n + 1))
    have hTl : T.length ≤ s.length := by rw [← hT, zqJ]; omega
    rw [hR] at hcutA htk hlr
    rw [hT] at hcutA
    have hl1 : ((R.drop 1).length) ≤ s.length := by rw [zqI]; omega
    by_cases hR0 : R = []
    · subst hR0
      have hA : qbA s = finA T [] := by unfold qbA finA; rw [hcutA]; simp
      simp [h91, hib, hn0, w, q1, htk, hT, hR, -Int.natCast_add]
      refine qdM E _ [] 58 ?_
      obtain ⟨port, hport⟩ := exz ((if ([] : List UInt8).head? = some 58 then List.drop 1 ([] : List UInt8) else []))
      rw [hport]
      have hp00 : port = [] := hport.symm
      rw [← hp00] at hA
      have hpl : port.length ≤ s.length := by rw [hp00]; simp
      clear hport hp00
      simp
      refine qd3 E _ hE T (by omega) ?_
      cases hh : qin T with
      | false =>
        simp
        exact aQz hB (h6 := (bad (by rw [hA]; unfold finA; rw [if_pos (.inl hh)])))
      | true =>
        by_cases h5 : 5 < port.length
        · have h5' : (5 : Int) < port.length := by omega
          simp [h5']
          exact aQz hB (h6 := (bad (by rw [hA]; unfold finA; rw [if_pos (.inr h5)])))
        · have h5' : ¬ (5 : Int) < port.length := by omega
          by_cases hp0 : port = []
          · have hA2 : qbA s = (low T, -1, 0) := by rw [hA]; unfold finA; rw [if_neg (by rw [hh]; simp [h5]), if_pos hp0]
            simp [h5', hp0]
            refine qbB E _ _ T (by simp only [cap]; omega) ?_
            simp
            exact aQz hB (h6 := (hQ _ _ _ hA2 (by decide) (by decide) (by rw [qaG]; omega)))
          · have hp0' : (port != []) = true := by simpa using hp0
            have hr := qcE port 65535 (by decide)
            simp [h5', hp0']
            refine qb9 E _ _ port 65535 (by simp only [cap]; omega) (by decide) (by decide) ?_
            by_cases he : (qag 10 65535 port).2 = 0
            · have hA2 : qbA s = (low T, (qag 10 65535 port).1, 0) := by rw [hA]; unfold finA; rw [if_neg (by rw [hh]; simp [h5]), if_neg hp0, if_neg (by simp [he])]
              simp [he]
              refine qbB E _ _ T (by simp only [cap]; omega) ?_
              simp
              exact aQz hB (h6 := (hQ _ _ _ hA2 (by omega) (by omega) (by rw [qaG]; omega)))
            · have he' : ((qag 10 65535 port).2 != 0) = true := by simpa using he
              have he2 : ((qag 10 65535 port).2 == 0) = false := by simpa using he
              simp [he', he2]
              exact aQz hB (h6 := (bad (by rw [hA]; unfold finA; rw [if_neg (by rw [hh]; simp [h5]), if_neg hp0, if_pos he])))
    · have hR0' : (R != []) = true := by simpa using hR0
      by_cases h58 : R.head? = some 58
      · have ha := qrw h58
        have hRl : 0 < R.length := List.length_pos_iff.2 hR0
        have hA : qbA s = finA T (R.drop 1) := by unfold qbA finA; rw [hcutA, h58]; simp
        simp [h91, hib, hn0, w, q1, htk, hT, hR, hR0', ha, hRl, -Int.natCast_add]
        refine qdM E _ R 58 ?_
        rw [if_pos h58]
        obtain ⟨port, hport⟩ : ∃ p : List UInt8, R.drop 1 = p := ⟨_, rfl⟩
        rw [hport] at hA hl1 ⊢
        have hpl : port.length ≤ s.length := hl1
        simp
        refine qd3 E _ hE T (by omega) ?_
        cases hh : qin T with
        | false =>
          simp
          exact aQz hB (h6 := (bad (by rw [hA]; unfold finA; rw [if_pos (.inl hh)])))
        | true =>
          by_cases h5 : 5 < port.length
          · have h5' : (5 : Int) < port.length := by omega
            simp [h5']
            exact aQz hB (h6 := (bad (by rw [hA]; unfold finA; rw [if_pos (.inr h5)])))
          · have h5' : ¬ (5 : Int) < port.length := by omega
            by_cases hp0 : port = []
            · have hA2 : qbA s = (low T, -1, 0) := by rw [hA]; unfold finA; rw [if_neg (by rw [hh]; simp [h5]), if_pos hp0]
              simp [h5', hp0]
              refine qbB E _ _ T (by simp only [cap]; omega) ?_
              simp
              exact aQz hB (h6 := (hQ _ _ _ hA2 (by decide) (by decide) (by rw [qaG]; omega)))
            · have hp0' : (port != []) = true := by simpa using hp0
              have hr := qcE port 65535 (by decide)
              simp [h5', hp0']
              refine qb9 E _ _ port 65535 (by simp only [cap]; omega) (by decide) (by decide) ?_
              by_cases he : (qag 10 65535 port).2 = 0
              · have hA2 : qbA s = (low T, (qag 10 65535 port).1, 0) := by rw [hA]; unfold finA; rw [if_neg (by rw [hh]; simp [h5]), if_neg hp0, if_neg (by simp [he])]
                simp [he]
                refine qbB E _ _ T (by simp only [cap]; omega) ?_
                simp
                exact aQz hB (h6 := (hQ _ _ _ hA2 (by omega) (by omega) (by rw [qaG]; omega)))
              · have he' : ((qag 10 65535 port).2 != 0) = true := by simpa using he
                have he2 : ((qag 10 65535 port).2 == 0) = false := by simpa using he
                simp [he', he2]
                exact aQz hB (h6 := (bad (by rw [hA]; unfold finA; rw [if_neg (by rw [hh]; simp [h5]), if_neg hp0, if_pos he])))
      · obtain ⟨a, r, hRa⟩ : ∃ a r, R = a :: r := by
          cases R with
          | nil => exact absurd rfl hR0
          | cons a r => exact ⟨a, r, rfl⟩
        have ha58 : a ≠ 58 := fun e => h58 (by rw [hRa, e]; rfl)
        have hb2 := (qaO a 58 (by decide) 58 rfl ha58).2
        have ha : lat R 0 = some a := by rw [hRa]; rfl
        have hRl : 0 < R.length := List.length_pos_iff.2 hR0
        simp [h91, hib, hn0, w, q1, htk, hT, hR, hR0', ha, hRl, hb2, -Int.natCast_add]
        refine aQz hB (h6 := (bad ?_))
        unfold qbA
        rw [hcutA, if_pos]
        left
        have h58' : (R.head? == some 58) = false := by simpa using h58
        have hie : R.isEmpty = false := by simpa using hR0
        rw [hie, h58']; rfl
  · have hA : qbA s = finA (cut1 58 s).1 (cut1 58 s).2.1 := by
      unfold qbA finA qcf
      rw [if_neg hb]
      simp
    have hcl : (cut1 58 s).1.length ≤ s.length ∧ (cut1 58 s).2.1.length ≤ s.length := by
      obtain ⟨u1, u2⟩ := qek (· != 58) s
      unfold cut1
      simp only
      rw [← u1, ← u2, zqJ, zqI, zqI]
      omega
    have go : ∀ g : Prop, g → g := fun _ h => h
    obtain ⟨T, hT⟩ := exz ((cut1 58 s).1)
    obtain ⟨port, hport⟩ := exz ((cut1 58 s).2.1)
    rw [hT, hport] at hA hcl
    have hpl := hcl.2
    have hTl := hcl.1
    by_cases h91 : s.head? = some 91
    · have h93 : s.contains 93 = false := by simpa using fun h => hb ⟨h91, h⟩
      rw [h93] at ic
      have h0 : ¬ 0 < Lib.indexByte s 93 := by
        have : ¬ 0 ≤ Lib.indexByte s 93 := by simpa using ic
        omega
      simp [h91, h0]
      refine qnH E _ hE.2 s [58] hl ?_
      rw [qkz, hT, hport]
      simp
      refine qd3 E _ hE T (by omega) ?_
      cases hh : qin T with
      | false =>
        simp
        exact aQz hB (h6 := (bad (by rw [hA]; unfold finA; rw [if_pos (.inl hh)])))
      | true =>
        by_cases h5 : 5 < port.length
        · have h5' : (5 : Int) < port.length := by omega
          simp [h5']
          exact aQz hB (h6 := (bad (by rw [hA]; unfold finA; rw [if_pos (.inr h5)])))
        · have h5' : ¬ (5 : Int) < port.length := by omega
          by_cases hp0 : port = []
          · have hA2 : qbA s = (low T, -1, 0) := by rw [hA]; unfold finA; rw [if_neg (by rw [hh]; simp [h5]), if_pos hp0]
            simp [h5', hp0]
            refine qbB E _ _ T (by simp only [cap]; omega) ?_
            simp
            exact aQz hB (h6 := (hQ _ _ _ hA2 (by decide) (by decide) (by rw [qaG]; omega)))
          · have hp0' : (port != []) = true := by simpa using hp0
            have hr := qcE port 65535 (by decide)
            simp [h5', hp0']
            refine qb9 E _ _ port 65535 (by simp only [cap]; omega) (by decide) (by decide) ?_
            by_cases he : (qag 10 65535 port).2 = 0
            · have hA2 : qbA s = (low T, (qag 10 65535 port).1, 0) := by rw [hA]; unfold finA; rw [if_neg (by rw [hh]; simp [h5]), if_neg hp0, if_neg (by simp [he])]
              simp [he]
              refine qbB E _ _ T (by simp only [cap]; omega) ?_
              simp
              exact aQz hB (h6 := (hQ _ _ _ hA2 (by omega) (by omega) (by rw [qaG]; omega)))
            · have he' : ((qag 10 65535 port).2 != 0) = true := by simpa using he
              have he2 : ((qag 10 65535 port).2 == 0) = false := by simpa using he
              simp [he', he2]
              exact aQz hB (h6 := (bad (by rw [hA]; unfold finA; rw [if_neg (by rw [hh]; simp [h5]), if_neg hp0, if_pos he])))
    · have h91' : (s.head? == some 91) = false := by simpa using h91
      simp [h91']
      refine qnH E _ hE.2 s [58] hl ?_
      rw [qkz, hT, hport]
      simp
      refine qd3 E _ hE T (by omega) ?_
      cases hh : qin T with
      | false =>
        simp
        exact aQz hB (h6 := (bad (by rw [hA]; unfold finA; rw [if_pos (.inl hh)])))
      | true =>
        by_cases h5 : 5 < port.length
        · have h5' : (5 : Int) < port.length := by omega
          simp [h5']
          exact aQz hB (h6 := (bad (by rw [hA]; unfold finA; rw [if_pos (.inr h5)])))
        · have h5' : ¬ (5 : Int) < port.length := by omega
          by_cases hp0 : port = []
          · have hA2 : qbA s = (low T, -1, 0) := by rw [hA]; unfold finA; rw [if_neg (by rw [hh]; simp [h5]), if_pos hp0]
            simp [h5', hp0]
            refine qbB E _ _ T (by simp only [cap]; omega) ?_
            simp
            exact aQz hB (h6 := (hQ _ _ _ hA2 (by decide) (by decide) (by rw [qaG]; omega)))
          · have hp0' : (port != []) = true := by simpa using hp0
            have hr := qcE port 65535 (by decide)
            simp [h5', hp0']
            refine qb9 E _ _ port 65535 (by simp only [cap]; omega) (by decide) (by decide) ?_
            by_cases he : (qag 10 65535 port).2 = 0
            · have hA2 : qbA s = (low T, (qag 10 65535 port).1, 0) := by rw [hA]; unfold finA; rw [if_neg (by rw [hh]; simp [h5]), if_neg hp0, if_neg (by simp [he])]
              simp [he]
              refine qbB E _ _ T (by simp only [cap]; omega) ?_
              simp
              exact aQz hB (h6 := (hQ _ _ _ hA2 (by omega) (by omega) (by rw [qaG]; omega)))
            · have he' : ((qag 10 65535 port).2 != 0) = true := by simpa using he
              have he2 : ((qag 10 65535 port).2 == 0) = false := by simpa using he
              simp [he', he2]
              exact aQz hB (h6 := (bad (by rw [hA]; unfold finA; rw [if_neg (by rw [hh]; simp [h5]), if_neg hp0, if_pos he])))
def tgV(fm pt:Int)(h pa qu:List UInt8)(hq:Bool):AV:= .agg [.int .i64 fm,.str h,.int .i64 pt,.str pa,.str qu,.bool hq]
theorem qfY(fm pt:Int)(h pa qu:List UInt8)(hq:Bool)(s:List UInt8)(at_:Nat)(hat:at_<=s.length)(hl:s.length<=1073741824)(hhl:h.length<=1073741824)
  (hQ:∀fm pt h pa qu hq v,Q (.tup [tgV fm pt h pa qu hq,.int .i64 v,.int .i64 (behE (s.drop at_))]) H):PC Tryz.prog E 164 [tgV fm pt h pa qu hq,.str s,.int .i64 (at_:Int)] H Q:=by
 refine qad Tryz.func164 rfl [] [] (by kernel_rfl) (fun hB=>?_);obtain⟨u,hu⟩:=exz (s.drop at_);have hul:u.length=s.length-at_:=by rw[<-hu,zqI]
 have htk:u.take (s.length-at_)=u:=zqE (by omega);have hnl:=qc3 qk4 _ u (Nat.le_refl _);rw[hu]at hQ;have hQ':∀e,behE u=e->∀fm pt h pa qu hq v,Q (.tup [.agg [.int .i64 fm,.str h,.int .i64 pt,.str pa,.str qu,.bool hq],.int .i64 v,.int .i64 e]) H:=fun e he fm pt h pa qu hq v=>he▸hQ fm pt h pa qu hq v;clear hQ;simp[Tryz.ntmps164,Tryz.results164,List.replicate_succ,tgV,hat,hu,htk];refine qeU E _ u 15 qk4 qmF (by omega) ?_;obtain⟨n,hn⟩:=exz (qbt qk4 u);rw[hn]at hnl⊢;obtain⟨k,hk⟩:=exz (at_+n);have w1:IntKind.i64.wrap ((at_:Int)+(n:Int))=(k:Int):=by rw[qaE (by omega) (by omega)];omega
 have w2:IntKind.i64.wrap ((k:Int)+1)=((k+1:Nat):Int):=by rw[qaE (by omega) (by omega)];omega
 have q1:at_<=k:=by omega
 have q2:k<=s.length:=by omega
 have hdk:u.drop n=s.drop k:=by rw[<-hu,List.drop_drop,hk]
 have htl:(u.take (k-at_)).length<=1073741824:=by rw[zqJ];omega
 obtain⟨P,hP⟩:=exz (u.take (k-at_));rw[hP]at htl;by_cases hP0:P=[]
 ·simp[w1,q1,q2,hu,hP,hP0];have hnn:True:=trivial;by_cases he:k=s.length
  ·have hb:behE u=0:=by unfold behE;rw[hn,hdk,he,List.drop_length]
   simp[he];exact aQy hB (h6:=(hQ' _ hb fm pt h [47] qu hq 0))
  ·have hks:k<s.length:=by omega
   have he':((k:Int)==(s.length:Int))=false:=by simp;omega
   obtain⟨c,hc⟩:∃c,s[k]? =some c:=⟨_,zqD hks⟩
   have la:=qbE hc;have hcd:=qaA s k c hc;by_cases h63:c=63
   ·subst h63;have q3:k+1<=s.length:=hks;obtain⟨v,hv⟩:=exz (s.drop (k+1));have hvl:v.length=s.length-(k+1):=by rw[<-hv,zqI]
    have htv:v.take (s.length-(k+1))=v:=zqE (by omega);simp[he,he',la,w2,q3,hv,htv,-Int.natCast_add];refine qeU E _ v 31 qgX qia (by omega) ?_;have hml:=qc3 qgX _ v (Nat.le_refl _);obtain⟨m,hm⟩:=exz (qbt qgX v);rw[hm]at hml⊢;obtain⟨k2,hk2⟩:=exz (k+1+m);have w3:IntKind.i64.wrap (((k+1:Nat):Int)+(m:Int))=(k2:Int):=by rw[qaE (by omega) (by omega)];omega
    have q4:k+1<=k2:=by omega
    have q5:k2<=s.length:=by omega
    have hdv:v.drop m=s.drop k2:=by rw[<-hv,List.drop_drop,hk2]
    have hbe:behE u=match s.drop k2 with|[]=>0|d::_=>qdF d 54:=by
     unfold behE;rw[hn,hdk,hcd,hv];simp only;rw[hm,hdv,if_neg (by simp)]
     try (cases List.drop k2 s<;>rfl)
    have htl2:(v.take (k2-(k+1))).length<=1073741824:=by rw[zqJ];omega
    by_cases hlt:k2<s.length
    ·obtain⟨d,hd⟩:∃d,s[k2]? =some d:=⟨_,zqD hlt⟩
     rw[qaA s k2 d hd]at hbe;simp[w3,q4,q5,hv,hlt,-Int.natCast_add];refine qdK E _ s k2 d 54 hd ?_;simp;exact aQy hB (h6:=(hQ' _ hbe 0 0 [] [] [] false k2))
    ·have:k2=s.length:=by omega
     rw[this,List.drop_length]at hbe;simp[w3,q4,q5,hv,hlt,-Int.natCast_add];exact aQy hB (h6:=(hQ' _ hbe fm pt h [47] (v.take (k2-(k+1))) true 0))
   ·have hb2:=(qaO c 63 (by decide) 63 rfl h63).2
    have hbe:behE u=qdF c 53:=by
     unfold behE;rw[hn,hdk,hcd];simp only;rw[if_pos h63]
    simp[he,he',la,hb2];refine qdK E _ s k c 53 hc ?_;simp;exact aQy hB (h6:=(hQ' _ hbe 0 0 [] [] [] false k))
 ·have hP0':(P==[])=false:=by simpa using hP0
  simp[w1,q1,q2,hu,hP,hP0'];have hnn:True:=trivial;by_cases he:k=s.length
  ·have hb:behE u=0:=by unfold behE;rw[hn,hdk,he,List.drop_length]
   simp[he];exact aQy hB (h6:=(hQ' _ hb fm pt h P qu hq 0))
  ·have hks:k<s.length:=by omega
   have he':((k:Int)==(s.length:Int))=false:=by simp;omega
   obtain⟨c,hc⟩:∃c,s[k]? =some c:=⟨_,zqD hks⟩
   have la:=qbE hc;have hcd:=qaA s k c hc;by_cases h63:c=63
   ·subst h63;have q3:k+1<=s.length:=hks;obtain⟨v,hv⟩:=exz (s.drop (k+1));have hvl:v.length=s.length-(k+1):=by rw[<-hv,zqI]
    have htv:v.take (s.length-(k+1))=v:=zqE (by omega);simp[he,he',la,w2,q3,hv,htv,-Int.natCast_add];refine qeU E _ v 31 qgX qia (by omega) ?_;have hml:=qc3 qgX _ v (Nat.le_refl _);obtain⟨m,hm⟩:=exz (qbt qgX v);rw[hm]at hml⊢;obtain⟨k2,hk2⟩:=exz (k+1+m);have w3:IntKind.i64.wrap (((k+1:Nat):Int)+(m:Int))=(k2:Int):=by rw[qaE (by omega) (by omega)];omega
    have q4:k+1<=k2:=by omega
    have q5:k2<=s.length:=by omega
    have hdv:v.drop m=s.drop k2:=by rw[<-hv,List.drop_drop,hk2]
    have hbe:behE u=match s.drop k2 with|[]=>0|d::_=>qdF d 54:=by
     unfold behE;rw[hn,hdk,hcd,hv];simp only;rw[hm,hdv,if_neg (by simp)]
     try (cases List.drop k2 s<;>rfl)
    have htl2:(v.take (k2-(k+1))).length<=1073741824:=by rw[zqJ];omega
    by_cases hlt:k2<s.length
    ·obtain⟨d,hd⟩:∃d,s[k2]? =some d:=⟨_,zqD hlt⟩
     rw[qaA s k2 d hd]at hbe;simp[w3,q4,q5,hv,hlt,-Int.natCast_add];refine qdK E _ s k2 d 54 hd ?_;simp;exact aQy hB (h6:=(hQ' _ hbe 0 0 [] [] [] false k2))
    ·have:k2=s.length:=by omega
     rw[this,List.drop_length]at hbe;simp[w3,q4,q5,hv,hlt,-Int.natCast_add];exact aQy hB (h6:=(hQ' _ hbe fm pt h P (v.take (k2-(k+1))) true 0))
   ·have hb2:=(qaO c 63 (by decide) 63 rfl h63).2
    have hbe:behE u=qdF c 53:=by
     unfold behE;rw[hn,hdk,hcd];simp only;rw[if_pos h63]
    simp[he,he',la,hb2];refine qdK E _ s k c 53 hc ?_;simp;exact aQy hB (h6:=(hQ' _ hbe 0 0 [] [] [] false k))
theorem qrv(l:List UInt8):(0<=Lib.indexAny l [47,63]->(Lib.indexAny l [47,63]).toNat=(l.takeWhile fun c=>c !=47&&c !=63).length)/\(Lib.indexAny l [47,63]<0->l.takeWhile (fun c=>c !=47&&c !=63)=l):=by
 induction l with
 |nil=>exact⟨fun h=>by simp[Lib.indexAny]at h,fun _=>rfl⟩
 |cons b l ih=>
  have hg:=Lib.indexAny_ge [47,63] l;rw[Lib.indexAny];by_cases hb:b=47\/b=63
  ·have hc:([47,63]:List UInt8).contains b=true:=by rcases hb with rfl|rfl<;>rfl
   rw[hc,if_pos rfl,List.takeWhile_cons_of_neg (by rcases hb with rfl|rfl<;>simp)];simp
  ·have hc:([47,63]:List UInt8).contains b=false:=by
    rw[Bool.eq_false_iff];intro h;simp at h;exact hb h
   rw[hc,if_neg (by simp),List.takeWhile_cons_of_pos (by simp;exact⟨fun e=>hb (.inl e),fun e=>hb (.inr e)⟩)];by_cases h2:Lib.indexAny l [47,63]= -1
   ·rw[if_pos (by simpa using h2)];exact⟨fun h3=>absurd h3 (by decide),fun _=>by rw[ih.2 (by omega)]⟩
   ·rw[if_neg (by simpa using h2)];refine⟨fun _=>?_,fun h3=>by omega⟩;have:=ih.1 (by omega);simp only[zqL];omega
theorem ql6(hE:PE E)(m s:List UInt8)(hl:s.length<=4194304)(hasc:∀c∈s,c.toNat<128)(hQ:∀fm pt h pa qu hq v,Q (.tup [tgV fm pt h pa qu hq,.int .i64 v,.int .i64 (tgtE m s)]) H):PC Tryz.prog E 144 [.str m,.str s] H Q:=by
 refine qad Tryz.func144 rfl [] [] (by kernel_rfl) (fun hB=>?_);have hQ':∀e,tgtE m s=e->∀fm pt h pa qu hq v,Q (.tup [.agg [.int .i64 fm,.str h,.int .i64 pt,.str pa,.str qu,.bool hq],.int .i64 v,.int .i64 e]) H:=fun e he fm pt h pa qu hq v=>he▸hQ fm pt h pa qu hq v;clear hQ;cases s with
 |nil=>
  simp[Tryz.ntmps144,Tryz.results144,List.replicate_succ];exact aQy hB (h6:=(hQ' 50 rfl 0 0 [] [] [] false 0))
 |cons c r=>
  obtain⟨s,hs⟩:∃s,s=c::r:=⟨_,rfl⟩
  have hT:tgtE m s=if m=[67,79,78,78,69,67,84]then(if(qbA s).2.2≠0\/(qbA s).2.1<0 then 52 else 0)
    else if c=47 then behE s
    else if s=[42]/\m=[79,80,84,73,79,78,83]then 0
    else if s.length<7\/low (s.take 7)≠[104,116,116,112,58,47,47]then 50
    else if(qbA ((s.drop 7).takeWhile fun c=>c !=47&&c !=63)).2.2≠0 then(qbA ((s.drop 7).takeWhile fun c=>c !=47&&c !=63)).2.2
    else behE ((s.drop 7).dropWhile fun c=>c !=47&&c !=63):=by rw[hs];rfl
  have hne:(s==[])=false:=by rw[hs];rfl
  have hla:lat s 0=some c:=by rw[hs];rfl
  have hlp:0<s.length:=by rw[hs];simp
  rw[<-hs]at hl hasc hQ'⊢;by_cases hm:m=[67,79,78,78,69,67,84]
  ·rw[if_pos hm]at hT;simp[Tryz.ntmps144,Tryz.results144,List.replicate_succ,hne,hm];refine qcr E _ hE s (by omega) (fun h p e hA p1 p2 hhl=>?_);rw[hA]at hT;simp only at hT;by_cases he:e=0
   ·subst he;by_cases hp:p<0
    ·rw[if_pos (.inr hp)]at hT;simp[hp];exact aQy hB (h6:=(hQ' 52 hT 0 0 [] [] [] false 0))
    ·rw[if_neg (by simp;omega)]at hT;simp[hp];exact aQy hB (h6:=(hQ' 0 hT 3 p h [] [] false 0))
   ·have he':(e==0)=false:=by simpa using he
    have he2:(e !=0)=true:=by simpa using he
    rw[if_pos (.inl he)]at hT;simp[he',he2];exact aQy hB (h6:=(hQ' 52 hT 0 0 [] [] [] false 0))
  ·have hm':(m==[67,79,78,78,69,67,84])=false:=by simpa using hm
   rw[if_neg hm]at hT;by_cases h47:c=47
   ·subst h47;rw[if_pos rfl]at hT;simp[Tryz.ntmps144,Tryz.results144,List.replicate_succ,hne,hm',hla,hlp];refine qfY E _ 1 (-1) [] [] [] false s 0 (by omega) (by omega) (by simp) (fun fm pt h pa qu hq v=>?_);rw[List.drop_zero];simp[tgV];exact aQy hB (h6:=(hQ' _ hT fm pt h pa qu hq v))
   ·have b47:=(qaO c 47 (by decide) 47 rfl h47).1;rw[if_neg h47]at hT;by_cases hast:s=[42]/\m=[79,80,84,73,79,78,83]
    ·obtain⟨ha1,ha2⟩:=hast;rw[if_pos ⟨ha1,ha2⟩]at hT;have ha1':(s==[42])=true:=by simpa using ha1
     have ha2':(m==[79,80,84,73,79,78,83])=true:=by simpa using ha2
     simp[Tryz.ntmps144,Tryz.results144,List.replicate_succ,hne,hm',hla,hlp,b47,ha1',ha2'];exact aQy hB (h6:=(hQ' _ hT 4 (-1) [] [] [] false 0))
    ·rw[if_neg hast]at hT
     have hpath:(s==[42])=false\/((s==[42])=true/\(m==[79,80,84,73,79,78,83])=false):=by
      by_cases h1:s=[42]
      ·exact .inr ⟨by simpa using h1,by simpa using fun h=>hast ⟨h1,h⟩⟩
      ·exact .inl (by simpa using h1)
     by_cases h7:s.length<7
     ·rw[if_pos (.inl h7)]at hT;have h7':(s.length:Int)<7:=by omega
      rcases hpath with hp|⟨hp,hp2⟩
      ·simp[Tryz.ntmps144,Tryz.results144,List.replicate_succ,hne,hm',hla,hlp,b47,hp,h7'];exact aQy hB (h6:=(hQ' _ hT 0 0 [] [] [] false 0))
      ·simp[Tryz.ntmps144,Tryz.results144,List.replicate_succ,hne,hm',hla,hlp,b47,hp,hp2,h7'];exact aQy hB (h6:=(hQ' _ hT 0 0 [] [] [] false 0))
     ·have h7':¬(s.length:Int)<7:=by omega
      have h7'':7<=s.length:=by omega
      have hp:(s==[42])=false:=by
       rcases hpath with hp|⟨hp,_⟩
       ·exact hp
       ·have:s=[42]:=by simpa using hp
        rw[this]at h7;simp at h7
      have htk7:(s.drop 7).take (s.length-7)=s.drop 7:=zqE (by simp);simp[Tryz.ntmps144,Tryz.results144,List.replicate_succ,hne,hm',hla,hlp,b47,hp,h7',h7''];refine qkb E _ _ (s.take 7) [104,116,116,112,58,47,47] (by rw[zqJ];simp only[cap];omega) (by decide) ?_;have hlow:low [104,116,116,112,58,47,47]=[104,116,116,112,58,47,47]:=by decide
      rw[hlow];by_cases hsch:low (s.take 7)=[104,116,116,112,58,47,47]
      ·rw[if_neg (fun h=>h.elim h7 (fun h=>h hsch))]at hT;obtain⟨R,hR⟩:=exz (s.drop 7);have hRl:R.length=s.length-7:=by rw[<-hR,zqI]
       rw[hR]at hT htk7;simp[hsch,h7'',htk7,hR];refine qjs E _ R [47,63] (by omega) (by decide) (fun b hb=>hasc b (by rw[<-hR]at hb;exact List.mem_of_mem_drop hb)) (by decide) ?_;obtain⟨k1,k2⟩:=qrv R;obtain⟨a1,a2⟩:=qek (fun c=>c !=47&&c !=63) R;obtain⟨n,hn⟩:=exz ((R.takeWhile fun c=>c !=47&&c !=63).length);rw[hn]at a1 a2 k1
       have hnl:n<=R.length:=by
        rw[<-hn,<-a1,zqJ];omega
       have hge:=Lib.indexAny_ge [47,63] R;rw[<-a1,<-a2]at hT;have w7:IntKind.i64.wrap (7+(n:Int))=((7+n:Nat):Int):=by rw[qaE (by omega) (by omega)];omega
       have hdd:s.drop (7+n)=R.drop n:=by rw[<-hR,List.drop_drop]
       have h7n:7+n<=s.length:=by omega
       have htl:(R.take n).length<=1073741824:=by rw[zqJ];omega
       rcases(by omega:0<=Lib.indexAny R [47,63]\/Lib.indexAny R [47,63]<0)with hi|hi
       ·have hi2:Lib.indexAny R [47,63]=n:=by have:=k1 hi;omega
        have hnn:¬(n:Int)<0:=by omega
        rw[hi2];simp[hnl];refine qcr E _ hE (R.take n) htl (fun h p e hA p1 p2 hhl=>?_);rw[hA]at hT;simp only at hT;by_cases he:e=0
        ·subst he;rw[if_neg (by simp)]at hT;simp[w7,-Int.natCast_add];refine qfY E _ 2 p h [] [] false s (7+n) h7n (by omega) hhl (fun fm pt h pa qu hq v=>?_);rw[hdd];simp[tgV];exact aQy hB (h6:=(hQ' _ hT fm pt h pa qu hq v))
        ·have he':(e==0)=false:=by simpa using he
         have he2:(e !=0)=true:=by simpa using he
         rw[if_pos he]at hT;simp[he',he2];exact aQy hB (h6:=(hQ' _ hT 0 0 [] [] [] false 7))
       ·have hnR:R.length=n:=by rw[<-hn,k2 hi]
        have hi2:Lib.indexAny R [47,63]= -1:=by omega
        have htR:R.take R.length=R:=List.take_length;have hnn:(R.length:Int)=(n:Int):=by omega
        rw[hi2];simp[hnR];refine qcr E _ hE (R.take n) htl (fun h p e hA p1 p2 hhl=>?_);rw[hA]at hT;simp only at hT;by_cases he:e=0
        ·subst he;rw[if_neg (by simp)]at hT;simp[w7,-Int.natCast_add];refine qfY E _ 2 p h [] [] false s (7+n) h7n (by omega) hhl (fun fm pt h pa qu hq v=>?_);rw[hdd];simp[tgV];exact aQy hB (h6:=(hQ' _ hT fm pt h pa qu hq v))
        ·have he':(e==0)=false:=by simpa using he
         have he2:(e !=0)=true:=by simpa using he
         rw[if_pos he]at hT;simp[he',he2];exact aQy hB (h6:=(hQ' _ hT 0 0 [] [] [] false 7))
      ·have hsch':(low (s.take 7)==[104,116,116,112,58,47,47])=false:=by simpa using hsch
       rw[if_pos (.inr hsch)]at hT;simp[hsch'];exact aQy hB (h6:=(hQ' _ hT 0 0 [] [] [] false 0))
theorem qiK(l:List Fld)(n:List UInt8):∀v∈allB l n,v.length<=fsz l:=by
 intro v hv;unfold allB at hv;obtain⟨f,hf,rfl⟩:=List.mem_map.1 hv;have hf2:=(List.mem_filter.1 hf).1;obtain⟨i,hi,he⟩:=List.mem_iff_getElem.1 hf2;have:=qhb (l:=l) (i:=i) (f:=f) (by rw[<-he];exact zqD hi);omega
def fhI(H:Hp)(l:List Fld)(old:Bool)(v:List UInt8)(fr:List AV)(K:Hp):Prop:=K=H/\∃i:Nat,i<=v.length/\(v.take i).any (fun b=>decide (b.toNat<33)||decide (126<b.toNat)||[34,35,47,60,62,63,64,92].contains b)=false/\
 ∃x:Nat->AV,fr=[.sl false 2 (flds l),.bool old,x 2,x 3,x 4,x 5,x 6,.sl false 1 (strs [v]),x 8,x 9,x 10,x 11,x 12,x 13,x 14,x 15,x 16,x 17,x 18,x 19,x 20,x 21,.int .i64 (v.length:Int),.int .i64 (i:Int),x 24,x 25,x 26,x 27,x 28,x 29,x 30,x 31,x 32,x 33,x 34,x 35,x 36,x 37,x 38,x 39,x 40,x 41,x 42,x 43,x 44,x 45]
theorem qpz(l:List Fld)(old:Bool)(hl:fsz l+l.length<=4194304)(hQ:∀h ok e,qex l old=(h,ok,e)->Q (.tup [.str h,.bool ok,.int .i64 e]) H):PC Tryz.prog E 195 [.sl false 2 (flds l),.bool old] H Q:=by
 refine qad Tryz.func195 rfl [] [] (by kernel_rfl) (fun hB=>?_);simp[Tryz.ntmps195,Tryz.results195,List.replicate_succ];refine qiJ E _ _ l [72,111,115,116] (by omega) (by decide) ?_;unfold qex at hQ;have hsz:=qiK l [72,111,115,116];rcases hal:allB l [72,111,115,116]with _|⟨v,_|⟨w,t⟩⟩
 ·rw[hal]at hQ;cases old
  ·simp[strs];exact aQz hB (h6:=(hQ _ _ _ rfl))
  ·simp[strs];exact aQz hB (h6:=(hQ _ _ _ rfl))
 ·rw[hal]at hQ hsz;dsimp only at hQ;have hvl:=hsz v (.head _);have hat:lat (strs [v]) 0=some [AV.str v]:=rfl;simp[hat];refine qbd (fhI _ l old v) (fun fr _=>v.length-(ai (aget fr 23)).toNat) ⟨rfl,0,by omega,by simp,qaD (by simp[strs])⟩ ?_;rintro fr K ⟨rfl,i,hi,hA,x,rfl⟩;by_cases h:i<v.length
  ·obtain⟨b,hb⟩:∃b,v[i]? =some b:=⟨_,zqD h⟩
   have la:=qbE hb;have w1:IntKind.i64.wrap ((i:Int)+1)=i+1:=wiz
   have hst:(v.take (i+1)).any (fun b=>decide (b.toNat<33)||decide (126<b.toNat)||[34,35,47,60,62,63,64,92].contains b)=((v.take i).any (fun b=>decide (b.toNat<33)||decide (126<b.toNat)||[34,35,47,60,62,63,64,92].contains b)||(decide (b.toNat<33)||decide (126<b.toNat)||[34,35,47,60,62,63,64,92].contains b)):=by
    rw[List.take_add_one,hb,List.any_append];simp
   have hsp:(decide (b.toNat<33)||decide (126<b.toNat)||[34,35,47,60,62,63,64,92].contains b)=true->v.any (fun b=>decide (b.toNat<33)||decide (126<b.toNat)||[34,35,47,60,62,63,64,92].contains b)=true:=fun hh=>List.any_eq_true.2 ⟨b,zqH hb,hh⟩;have i1:=qfD [34,35,47,60,62,63,64,92] b;by_cases h33:b.toNat<33
   ·have g1:(b.toNat:Int)<33:=by omega
    rw[hsp (by simp[h33])]at hQ;simp[h,hat,la,g1];exact aQz hB (h6:=(hQ _ _ _ rfl))
   ·have g1:¬(b.toNat:Int)<33:=by omega
    by_cases h126:126<b.toNat
    ·have g2:(126:Int)<b.toNat:=by omega
     rw[hsp (by simp[h126])]at hQ;simp[h,hat,la,g1,g2];exact aQz hB (h6:=(hQ _ _ _ rfl))
    ·have g2:¬(126:Int)<b.toNat:=by omega
     simp[h,hat,la,g1,g2];refine qau E _ _ _ b ?_;cases hc:([34,35,47,60,62,63,64,92]:List UInt8).contains b with
     |true=>
      rw[hc]at i1;have j1:0<=Lib.indexByte [34,35,47,60,62,63,64,92] b:=by simpa using i1
      rw[hsp (by rw[hc];simp)]at hQ;simp[j1];exact aQz hB (h6:=(hQ _ _ _ rfl))
     |false=>
      rw[hc]at i1;have j1:¬0<=Lib.indexByte [34,35,47,60,62,63,64,92] b:=by simpa using i1
      simp[j1,w1];exact Klz ⟨rfl,i+1,by omega,by rw[hst,hA,hc];simp[h33,h126],qaD (by simp[strs])⟩
  ·obtain rfl:i=v.length:=by omega
   rw[List.take_length]at hA;rw[hA]at hQ;simp[hat];exact aQz hB (h6:=(hQ _ _ _ rfl))
 ·rw[hal]at hQ;have g:(1:Int)<(t.length:Int)+1+1:=by omega
  have g0:((t.length:Int)+1+1==0)=false:=by rw[beq_eq_false_iff_ne];omega
  simp[strs,g,g0];exact aQz hB (h6:=(hQ _ _ _ rfl))
end
end Go.Proofs.YtnnhdehmlkkfjaaGreatDoor
namespace Go.Proofs.YtnnhdehmlkkfjaaGreatDoor
open Go Go.RowKit
section
open Go.Lib
variable (E:Env){H:Hp}(Q:AV->Hp->Prop)
end
end Go.Proofs.YtnnhdehmlkkfjaaGreatDoor
namespace Go.Proofs.YtnnhdehmlkkfjaaGreatDoor
open Go Go.RowKit Go.Proofs Go.Lib
section
variable (E:Env)(H:Hp)(Q:AV->Hp->Prop)
end
end Go.Proofs.YtnnhdehmlkkfjaaGreatDoor
namespace Go.Proofs.YtnnhdehmlkkfjaaGreatDoor
open Go Go.RowKit Go.Proofs Go.Deep
theorem qdd:∀(rows:List (List AV)),(∀r∈rows,r.length=2/\∀(j:Nat) k y,[CK.str,.str][j]? =some k->r[j]? =some y->qeP k y)->∃ls,rows=flds ls/\fsz ls<=wtA rows.flatten
 |[],_=>⟨[],rfl,by simp[fsz]⟩
 |r::rows,h=>by
  obtain⟨ls,rfl,hw⟩:=qdd rows (fun q hq=>h q (List.mem_cons_of_mem _ hq));obtain⟨h1,h2⟩:=h r (List.mem_cons_self ..)
  match r,h1 with
  |[a,b],_=>
   obtain⟨x,rfl⟩:=qkl (h2 0 _ _ rfl rfl);obtain⟨y,rfl⟩:=qkl (h2 1 _ _ rfl rfl);refine⟨⟨x,y⟩::ls,rfl,?_⟩;rw[List.flatten_cons,qiO];simp[fsz,wtA]at hw⊢;omega
end Go.Proofs.YtnnhdehmlkkfjaaGreatDoor
namespace Go.Proofs.YtnnhdehmlkkfjaaGreatDoor
open Go Go.RowKit Go.Proofs
@[simp] theorem qow (l:List (List UInt8)):(qen l).length=l.length:=by simp[qen]
section
variable (E:Env)(H:Hp)(Q:AV->Hp->Prop)
end
section
variable (E:Env)(H:Hp)(Q:AV->Hp->Prop)
end
section
variable (E:Env)(H:Hp)(Q:AV->Hp->Prop)
end
end Go.Proofs.YtnnhdehmlkkfjaaGreatDoor
namespace Go.Proofs.YtnnhdehmlkkfjaaGreatDoor
open Go Go.RowKit
section
open Go.Lib
variable (E:Env){H:Hp}(Q:AV->Hp->Prop)
end
section
open Go.Lib
variable (E:Env){H:Hp}(Q:AV->Hp->Prop)
end
def SR.us(u:Int):SR->Prop
 | .go p1 _=>p1.used=u
 | .bad p1 _ _ _=>p1.used=u
theorem qm5(p:Prs):(qa9 p).us p.used:=by
 unfold qa9 qb5 qap;dsimp only
 repeat' split
 all_goals rfl
theorem qma(p:Prs)(m:Md)(c:UInt8):(qbl p m c).us p.used:=by
 cases m
 ·show(qcA p c).us p.used;unfold qcA qa6 qap
  repeat' split
  all_goals rfl
 ·show(qbg p c).us p.used;unfold qbg qap
  repeat' split
  all_goals rfl
 ·show(qa6 p c).us p.used;unfold qa6 qap
  repeat' split
  all_goals rfl
 ·show(qbf p c).us p.used;unfold qbf qap
  repeat' split
  all_goals rfl
 ·show(qbK p c).us p.used;unfold qbK qap;dsimp only
  repeat' split
  all_goals rfl
 ·show(qaL p c).us p.used;unfold qaL qap;dsimp only
  repeat' split
  all_goals first
   |rfl
   |exact qm5 _
 ·show(qbr p c).us p.used;unfold qbr qb5;dsimp only;split<;>rfl
 ·show(qaQ p c).us p.used;unfold qaQ qb5 qap;split
  ·rfl
  ·dsimp only
   repeat' split
   all_goals rfl
theorem qrx{p p1:Prs}{m:Md}{c:UInt8}{st err at_:Int}(hs:qbl p m c= .bad p1 st err at_):p1.used=p.used:=by
 have:=qma p m c;rw[hs]at this;exact this
theorem qqQ{p p1:Prs}{m:Md}{c:UInt8}{nx:Option Md}(hs:qbl p m c= .go p1 nx):p1.used=p.used:=by
 have:=qma p m c;rw[hs]at this;exact this
def SR.fit(n:Nat):SR->Prop
 | .go p1 nx=>fitP (n+1) {p1 with nx:=nx,used:=p1.used+1}
 | .bad ..=>True
theorem fitP.up{n:Nat}{p:Prs}(h:fitP n p)(nx:Option Md)(hnx:nx≠some .target)(hnl:nx≠some .line):fitP (n+1) {p with nx:=nx,used:=p.used+1}:=
 ⟨by have:=h.a;simp only;omega,by have:=h.b;simp only;omega,fun d hd=>⟨(h.c d hd).1,by have:=(h.c d hd).2;omega⟩,h.lt,h.lh,h.lf,h.lb,by have:=h.head;simp only;omega,by have:=h.left;simp only;omega,by have:=h.used;simp only;omega,by have:=h.beg;simp only;omega,h.asc,fun e=>absurd e hnx,fun e=>absurd e hnl,by have:=h.tr;simp only;omega,by have:=h.rb;simp only;omega⟩
theorem qmN{t:List UInt8}{c:UInt8}(h:∀k x,t[k]? =some x->qa1 k x=true)(hc:qa1 t.length c=true)(k:Nat)(x:UInt8)(hx:(t++[c])[k]? =some x):qa1 k x=true:=by
 rcases(by omega:k<t.length\/k=t.length\/t.length<k)with hk|rfl|hk
 ·rw[zqA hk]at hx;exact h k x hx
 ·simp at hx;subst hx;exact hc
 ·rw[zqB (by omega),List.getElem?_eq_none (by simp;omega)]at hx;cases hx
theorem qgv{n:Nat}{p:Prs}(h:fitP n p)(c:UInt8):(qa6 p c).fit n:=by
 have ha:=h.a;unfold qa6 qap;split
 ·split
  ·trivial
  ·exact{h.up none (by decide) (by decide)with tx:=(fun e=>by cases e),ln:=(fun e=>by cases e),a:=by simp only[zqK,zqL,List.length_nil];omega}
 ·split
  ·exact{h.up none (by decide) (by decide)with tx:=(fun _ x hx=>by simp at hx),ln:=(fun e=>by cases e),a:=by simp only[List.length_nil];omega}
  ·trivial
theorem qnc(l:List Fld)(f:Fld):fsz (l++[f])=fsz l+(f.name.length+f.value.length):=by
 induction l with
 |nil=>simp[fsz]
 |cons a l ih=>simp only[List.cons_append,fsz,ih];omega
theorem qkh{l:List UInt8}(h:(qaY l).2.2=0):(qaY l).1.name.length+(qaY l).1.value.length+1<=l.length:=by
 unfold qaY at h⊢;split at h
 ·cases h
 ·split at h
  ·cases h
  ·split at h
   ·cases h
   ·split at h
    ·cases h
    ·split at h
     ·cases h
     ·split at h
      ·cases h
      ·rename_i h1 h2 h3 h4 h5 h6;rw[if_neg h1,if_neg h2,if_neg h3,if_neg h4,if_neg h5,if_neg h6];have:=qiV (l.drop (run ncol l+1));simp only[zqJ,zqI]at this⊢;omega
theorem qrr(l:List UInt8)(hl:l.length<=8388608):0<=(qaY l).2.1/\(qaY l).2.1<=16777216:=by
 have h1:=qbY ncol l;have h2:=qbY fcB (l.drop (run ncol l+1));have h3:=qbY qah (l.drop (run ncol l+1));rw[zqI]at h2 h3;unfold qaY
 repeat' split
 all_goals (simp only;omega)
theorem qlj{n:Nat}{p:Prs}(h:fitP (n+1) p)(hu:p.used<=n):(qa9 p).fit n:=by
 unfold qa9 qb5 qap;dsimp only;have h':∀nx,nx≠some .target->nx≠some .line->fitP (n+1) {p with nx:=nx,used:=p.used+1}:=fun nx hnx hnl=>{h with used:=(by have:=h.used;simp only;omega),tx:=(fun e=>absurd e hnx),ln:=fun e=>absurd e hnl}
 repeat' split
 all_goals first
  |trivial
  |skip
 ·exact{h' none (by decide) (by decide)with tx:=(fun e=>by cases e),ln:=(fun e=>by cases e),c:=fun d hd=>by cases hd;exact⟨qrj _ _ _ (by have:=h.lb;omega) (by have:=h.lh;omega) (by have:=h.lf;omega),Nat.zero_le _⟩}
 ·exact{h' none (by decide) (by decide)with tx:=(fun e=>by cases e),ln:=(fun e=>by cases e),left:=by have:=h.lb;simp only;omega}
 ·exact{h' none (by decide) (by decide)with rb:=h.b,tx:=(fun e=>by cases e),ln:=fun e=>by cases e}
theorem qoN{n:Nat}{p:Prs}(h:fitP n p)(m:Md)(hm:p.nx=some m)(c:UInt8):(qbl p m c).fit n:=by
 have ha:=h.a;have hu:=h.used;cases m
 ·show(qcA p c).fit n;unfold qcA;split
  ·exact h.up _ (by decide) (by decide)
  ·exact qgv (p:={p with state:=1}) {h with} c
 ·show(qbg p c).fit n;unfold qbg qap;split
  ·trivial
  ·exact h.up _ (by decide) (by decide)
 ·exact qgv h c
 ·show(qbf p c).fit n;unfold qbf qap;split
  ·split
   ·trivial
   ·exact{h.up none (by decide) (by decide)with ln:=(fun e=>by cases e),tx:=(fun _ x hx=>by simp only[List.mem_append,List.mem_singleton]at hx;exact hx.elim (fun hx=>h.tx hm x hx) (fun hx=>by subst hx;omega)),a:=by simp only[zqK,zqL,List.length_nil];omega}
  ·split
   ·exact{h.up none (by decide) (by decide)with tx:=(fun e=>by cases e),ln:=(fun _ k x hx=>by simp at hx),asc:=h.tx hm,a:=by simp only[List.length_nil];omega}
   ·trivial
 ·show(qbK p c).fit n;unfold qbK qap;split
  ·trivial
  ·rename_i hgood;split
   ·exact{h.up none (by decide) (by decide)with tx:=(fun e=>by cases e),ln:=(fun _ k x hx=>qmN (h.ln hm) (by simpa using hgood) k x hx),a:=by simp only[zqK,zqL,List.length_nil];omega}
   ·dsimp only;split
    ·trivial
    ·split
     ·trivial
     ·exact{h.up none (by decide) (by decide)with tx:=(fun e=>by cases e),ln:=(fun e=>by cases e),a:=by simp only[List.length_nil];omega,beg:=by simp only;omega}
 ·show(qaL p c).fit n;have hh:=h.head;unfold qaL qap;split
  ·trivial
  ·split
   ·trivial
   ·split
    ·exact{h.up none (by decide) (by decide)with tx:=(fun e=>by cases e),ln:=(fun e=>by cases e),a:=by simp only[zqK,zqL,List.length_nil];omega,head:=by simp only;omega}
    ·rename_i g1 g2 g3;dsimp only;split
     ·exact qlj {h with tr:=(by have:=h.tr;simp only;omega),rb:=(by have:=h.rb;simp only;omega),tx:=(fun _ x hx=>by simp at hx),ln:=(fun _ k x hx=>by simp at hx),a:=by simp only[List.length_nil];omega,b:=by have:=h.b;simp only;omega,c:=fun d hd=>⟨(h.c d hd).1,by have:=(h.c d hd).2;omega⟩,head:=by simp only;omega,left:=by have:=h.left;simp only;omega,used:=by simp only;omega,beg:=by have:=h.beg;simp only;omega} hu.2
     ·split
      ·trivial
      ·split
       ·trivial
       ·rename_i g4 g5 g6;have h0:(qaY p.text.dropLast).2.2=0:=by simpa using g6
        have h1:=qkh h0;rw[List.length_dropLast]at h1;exact{h.up none (by decide) (by decide)with tx:=(fun e=>by cases e),ln:=(fun e=>by cases e),a:=by simp only[qnc,zqK,zqL,List.length_nil];omega,head:=by simp only;omega,beg:=by simp only;omega}
 ·show(qbr p c).fit n;have hb:=h.b;have hl:=h.left;unfold qbr qb5;dsimp only;split
  ·exact{h.up none (by decide) (by decide)with tx:=(fun e=>by cases e),ln:=(fun e=>by cases e),b:=by simp only[zqK,zqL,List.length_nil];omega,left:=by simp only;omega}
  ·exact{h.up none (by decide) (by decide)with tx:=(fun e=>by cases e),ln:=(fun e=>by cases e),rb:=(by simp only[zqK,zqL,List.length_nil];omega),b:=by simp only[zqK,zqL,List.length_nil];omega,left:=by simp only;omega}
 ·show(qaQ p c).fit n;unfold qaQ qb5 qap;split
  ·trivial
  ·rename_i d hd;obtain⟨k1,k2⟩:=h.c d hd;obtain⟨f1,f2⟩:=qhh [c] d k1;have f3:(qan d [c]).2<=1:=by simp only[qan];split<;>simp
   have hb:(qan d [c]).1.body.length<=(qan d [c]).1.total:=f1.2.1;have f4:(qan d [c]).1.total<=n+1:=by omega
   have f5:(qan d [c]).1.body.length<=n+1:=by omega
   have f6:(qan d [c]).1.trailers.length<=n+1:=by have:(qan d [c]).1.trailers.length<=(qan d [c]).1.total:=f1.2.2.1;omega
   have hc:∀d',some (qan d [c]).1=some d'->okD d'/\d'.total<=n+1:=fun d' hd'=>by cases hd';exact⟨f1,f4⟩
   dsimp only
   repeat' split
   all_goals first
    |trivial
    |exact{h.up none (by decide) (by decide)with tx:=(fun e=>by cases e),ln:=(fun e=>by cases e),c:=hc}
    |exact{h.up none (by decide) (by decide)with tx:=(fun e=>by cases e),ln:=(fun e=>by cases e),c:=hc,b:=f5,rb:=f5,tr:=f6}
theorem qqr{n:Nat}{p p1:Prs}{m:Md}{c:UInt8}{nx:Option Md}(h:fitP n p)(hm:p.nx=some m)(hs:qbl p m c= .go p1 nx):fitP (n+1) {p1 with nx:=nx,used:=p1.used+1}/\p1.used=p.used:=by
 have:=qoN h m hm c;rw[hs]at this;exact⟨this,qqQ hs⟩
inductive Pln:AV->Prop
 |int (k n):Pln (.int k n)
 |bool (b):Pln (.bool b)
 |str (s):Pln (.str s)
 |agg (l) (h:∀x∈l,Pln x):Pln (.agg l)
 |tup (l) (h:∀x∈l,Pln x):Pln (.tup l)
attribute [simp] Pln.int Pln.bool Pln.str
@[simp] theorem pln_agg (l:List AV):Pln (.agg l)↔∀x∈l,Pln x:=⟨fun h=>by cases h;assumption,.agg l⟩
@[simp] theorem pln_tup (l:List AV):Pln (.tup l)↔∀x∈l,Pln x:=⟨fun h=>by cases h;assumption,.tup l⟩
section
variable {P:Program}{E:Env}{w:World}{β:Nat->Nat}{Rd:Nat->Nat->Prop}{Ow:Nat->Option Hold}{H:Hp}
end
section
variable {K:Hp}{c:Nat}(h:c<K.length)
include h
end
theorem qcq{N:Nat}{H J:Hp}(h:BndH N H)(h2:∀l∈J,∀x∈l,Bnd N x):BndH N (H++J):=fun l hl x hx=>by
 rcases List.mem_append.1 hl with h'|h'
 ·exact h l h' x hx
 ·exact h2 l h' x hx
theorem qdg{N M:Nat}{H:Hp}(h:BndH N H)(hm:N<=M):BndH M H:=fun l hl x hx=>(h l hl x hx).mono hm
theorem qcW{N:Nat}{H:Hp}(h:BndH N H)(c:Nat){l:List AV}(hl:∀x∈l,Bnd N x):BndH N (H.set c l):=fun m hm x hx=>by
 rcases List.mem_or_eq_of_mem_set hm with h1|rfl
 ·exact h m h1 x hx
 ·exact hl x hx
theorem qa8{P:Program}{rs:List ResultVar}{n:Nat}{Q:AV->Hp->Prop}{fr:List AV}{H':Hp}{v:AV}(h1:ares P fr H' rs=some v)(h3:n<=H'.length)(h4:BndH H'.length H')(h5:Bnd H'.length v)(h6:Q v H'):
  qci P rs n Q .ret fr H':=⟨v,v,H',H',[],h1,qaa _,qby _,(List.append_nil H').symm,h3,h4,h5,h6⟩
def smp(y:AV):Prop:=Pln y/\y.one=true
@[simp] theorem smp_int (k n):smp (.int k n):=⟨.int _ _,rfl⟩
@[simp] theorem smp_bool (b):smp (.bool b):=⟨.bool _,rfl⟩
@[simp] theorem smp_str (s):smp (.str s):=⟨.str _,rfl⟩
section
variable {K:Hp}{G:Nat->Prop}{v:AV}{n k:Nat}{C C':Nat->AV->Prop}
end
end Go.Proofs.YtnnhdehmlkkfjaaGreatDoor
