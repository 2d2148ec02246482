/- Part 10 of the texts below the law. -/
import Derived.Test.YtnnhdehmlkkfjaaGreatDoorPf9
import Derived.Shelf.Vars
import Derived.Shelf.Strings.FuncGrows
import Derived.Test.YtnnhdehmlkkfjaaGreatDoorProg
import Derived.KernelRfl
import Derived.Lib.DecodeN
import Derived.Test.YtnnhdehmlkkfjaaGreatDoorCards
import Derived.Test.YtnnhdehmlkkfjaaGreatDoorTie
import Derived.Deep.DeepHandedRow
import Derived.Lib.LaidTab
import Derived.ChangeMaps5
import Derived.Lay
import Derived.Stop.LaidErr
import Derived.JoinedCond
set_option maxRecDepth 100000
set_option maxHeartbeats 16000000
set_option linter.unusedVariables false
set_option linter.unnecessarySimpa false
set_option linter.unusedSimpArgs false
set_option linter.unusedSectionVars false
namespace Go.Proofs.YtnnhdehmlkkfjaaGreatDoor
open Go Go.RowKit Go.Proofs
@[simp] theorem bnd_ints {N:Nat} (l:List Int):(∀r∈ints l,∀x∈r,Bnd N x)=True:=eq_true fun r hr x hx=>by
 obtain⟨z,_,rfl⟩:=List.mem_map.1 hr;simp at hx;subst hx;exact .int _ _
section
variable (E:Env)(H:Hp)(Q:AV->Hp->Prop)
end
section
variable (E:Env)(H:Hp)(Q:AV->Hp->Prop)
end
end Go.Proofs.YtnnhdehmlkkfjaaGreatDoor
namespace Go.Proofs.YtnnhdehmlkkfjaaGreatDoor
open Go Go.RowKit Go.Proofs Go.Deep
section
variable (E:Env)(H:Hp)(Q:AV->Hp->Prop)
end
def Tabs(W : World) : Prop := qgc W ∧ Tz W ∧ Lib.TabIs Tryz.prog W "internal/strconv.uint64pow10" .u64 Lib.pow10Tab
theorem tab_lt{W : World}(hT : Lib.TabIs Tryz.prog W "internal/strconv.uint64pow10" .u64 Lib.pow10Tab) : 1 < W.heap.size := by
 have:=hT;unfold Lib.TabIs World.var? at this;rw[qep]at this;simp only[Option.bind_some]at this;by_cases h:1<W.heap.size
 ·exact h
 ·rw[Array.getElem?_eq_none (by omega)]at this;cases this
end Go.Proofs.YtnnhdehmlkkfjaaGreatDoor
namespace Go.Proofs.YtnnhdehmlkkfjaaGreatDoor
open Go Go.RowKit Go.Proofs
theorem qmt{l:List Fld}(h:(qbD l).2=0):(qbD l).1=qas l/\l.length<=100/\∀f∈l,okL f:=by
 unfold qbD at h⊢;by_cases h1:100<l.length
 ·rw[if_pos h1]at h;simp at h
 rw[if_neg h1]at h⊢;cases hf:l.find? (fun f=>decide ((qbo f).2≠0))with
 |some f=>
  rw[hf]at h;have:=List.find?_some hf;simp only[decide_eq_true_eq]at this;exact absurd h this
 |none=>
  rw[List.find?_eq_none]at hf;exact⟨rfl,by omega,fun f hm=>qrh.1 (by have:=hf f hm;simpa using this)⟩
theorem qnA{b:List UInt8}{ns:List Int}{ts:List Fld}(h:(qbI b ns ts).2=0):(∀z∈ns,1<=z)/\(∀g∈ts,qbv g=true)/\(qbI b ns ts).1=encT (qal b ns) ts:=by
 unfold qbI at h⊢;by_cases h1:qdy ns=false
 ·rw[if_pos h1]at h;simp at h
 rw[if_neg h1]at h⊢;by_cases h2:ts.all qbv=false
 ·rw[if_pos h2]at h;simp at h
 rw[if_neg h2];rw[Bool.not_eq_false]at h1 h2;exact⟨fun z hz=>by have:=List.all_eq_true.1 h1 z hz;simpa using this,List.all_eq_true.1 h2,rfl⟩
section
variable (E:Env)(H:Hp)(Q:AV->Hp->Prop)
end
end Go.Proofs.YtnnhdehmlkkfjaaGreatDoor
namespace Go.Proofs.YtnnhdehmlkkfjaaGreatDoor
open Go Go.RowKit
def okE(e:Int):Prop:=e≠110/\e≠111/\e≠117
def PRs(p:Prs)(s:List UInt8)(q:Prs):Prop:=qao p s=(q,s.length)\/((qao p s).1.nx=none/\(qao p s).1.state=5/\okE (qao p s).1.ferr)
theorem PRs.nil(p:Prs):PRs p [] p:= .inl rfl
theorem PRs.trans{p q r:Prs}{a b:List UInt8}(h1:PRs p a q)(h2:PRs q b r):PRs p (a++b) r:=by
 rcases h1 with h1|⟨h1,h3,h4⟩
 ·rcases h2 with h2|⟨h2,h3,h4⟩
  ·exact .inl (by rw[qbi,h1,h2];simp)
  ·exact .inr (by rw[qbi,h1];exact⟨h2,h3,h4⟩)
 ·exact .inr (by rw[qbi,qaT b h1];exact⟨h1,h3,h4⟩)
theorem PRs.go{p p1:Prs}{m:Md}{c:UInt8}{nx:Option Md}(h:p.nx=some m)(hs:qbl p m c= .go p1 nx):PRs p [c] (adv p1 nx):= .inl (by rw[qbp [] h hs];rfl)
theorem PRs.bad{p p1:Prs}{m:Md}{c:UInt8}{st err at_:Int}(h:p.nx=some m)(hs:qbl p m c= .bad p1 st err at_)(he:okE err)(q:Prs):PRs p [c] q:= .inr (by rw[qbz [] h hs];exact⟨rfl,rfl,he⟩)
theorem tok1{c:UInt8}:tokB [c]=qak c:=by unfold tokB;simp
theorem qgu:∀(l:List UInt8) (p:Prs),p.nx=some .method->(∀b∈l,qak b=true)->p.text.length+l.length<=24->PRs p l {p with text:=p.text++l,used:=p.used+l.length}
 |[],p,hn,_,_=>by simpa using PRs.nil p
 |c::l,p,hn,ht,hl=>by
  simp only[zqL]at hl
  have hs:qbl p .method c= .go {p with text:=p.text++[c]} (some .method):=by
   show qa6 p c=_;unfold qa6;rw[if_pos (by rw[tok1];exact ht c (.head _)),if_neg (by omega)]
  have:=(PRs.go hn hs).trans (qgu l (adv {p with text:=p.text++[c]} (some .method)) rfl (fun b hb=>ht b (.tail _ hb)) (by simp only[adv,zqK,zqL,List.length_nil];omega));simp only[adv,List.singleton_append,List.append_assoc]at this;simp only[zqL,Int.natCast_add,Int.natCast_one];rw[show p.used+((l.length:Int)+1)=p.used+1+l.length by omega,hn];exact this
theorem qgg:∀(l:List UInt8) (p:Prs),p.nx=some .target->(∀b∈l,33<=b.toNat/\b.toNat<=126)->PRs p l {p with text:=p.text++l,used:=p.used+l.length}
 |[],p,hn,_=>by simpa using PRs.nil p
 |c::l,p,hn,ht=>by
  by_cases hl:(p.text.length:Int)=p.lt
  ·have hs:qbl p .target c= .bad p 414 112 p.used:=by
    show qbf p c=_;unfold qbf;rw[if_pos (ht c (.head _)),if_pos hl];rfl
   have h1:=PRs.bad hn hs (by unfold okE;decide) p;rcases h1 with h1|h1
   ·rw[qbz [] hn hs]at h1;have:=congrArg (fun x=>x.1.nx) h1;rw[hn]at this;cases this
   ·refine .inr ?_;rw[show c::l=[c]++l from rfl,qbi,qaT l h1.1];exact h1
  ·have hs:qbl p .target c= .go {p with text:=p.text++[c]} (some .target):=by
    show qbf p c=_;unfold qbf;rw[if_pos (ht c (.head _)),if_neg hl]
   have:=(PRs.go hn hs).trans (qgg l (adv {p with text:=p.text++[c]} (some .target)) rfl (fun b hb=>ht b (.tail _ hb)));simp only[adv,List.singleton_append,List.append_assoc]at this;simp only[zqL,Int.natCast_add,Int.natCast_one];rw[show p.used+((l.length:Int)+1)=p.used+1+l.length by omega,hn];exact this
theorem qbJ{p:Prs}{c:UInt8}(hn:p.nx=some .line)(hg:qa1 p.text.length c=true)(hl:p.text.length<9):PRs p [c] {p with text:=p.text++[c],used:=p.used+1}:=by
 have hs:qbl p .line c= .go {p with text:=p.text++[c]} (some .line):=by
  show qbK p c=_;unfold qbK;rw[if_neg (by rw[hg];simp),if_pos hl]
 have:=PRs.go hn hs;simp only[adv]at this;rw[hn];exact this
theorem qpP(s:List UInt8):okE (behE s):=by
 unfold behE qdF
 repeat' split
 all_goals (unfold okE;decide)
theorem qn2(s:List UInt8):okE (qbA s).2.2:=by
 unfold qbA
 repeat' split
 all_goals (unfold okE;simp)
theorem qoJ(m s:List UInt8):okE (tgtE m s):=by
 unfold tgtE
 repeat' split
 all_goals first
  |exact qpP _
  |exact qn2 _
  |(unfold okE;decide)
def vTxt(mi:UInt8):List UInt8:=[72,84,84,80,47,49,46,mi,13,10]
theorem qiP(p:Prs)(hn:p.nx=some .line)(ht:p.text=[])(mi:UInt8)(hm:mi=48\/mi=49):PRs p (vTxt mi) {p with nx:=some .fields,text:=[],major:=1,minor:=(mi.toNat:Int)-48,state:=2,begin_:=p.used+10,used:=p.used+10}:=by
 have hd:48<=mi.toNat/\mi.toNat<=57:=by rcases hm with rfl|rfl<;>decide
 have h9:PRs p [72,84,84,80,47,49,46,mi,13] {p with text:=[72,84,84,80,47,49,46,mi,13],used:=p.used+9}:=by
  have r0:=qbJ (p:=p) (c:=72) hn (by rw[ht];rfl) (by rw[ht];simp only[List.nil_append,zqL,List.length_nil,List.cons_append];omega);have r1:=qbJ (p:={p with text:=p.text++[72],used:=p.used+1}) (c:=84) hn (by rw[ht];rfl) (by rw[ht];simp only[List.nil_append,zqL,List.length_nil,List.cons_append];omega);have r2:=qbJ (p:={p with text:=p.text++[72,84],used:=p.used+2}) (c:=84) hn (by rw[ht];rfl) (by rw[ht];simp only[List.nil_append,zqL,List.length_nil,List.cons_append];omega);have r3:=qbJ (p:={p with text:=p.text++[72,84,84],used:=p.used+3}) (c:=80) hn (by rw[ht];rfl) (by rw[ht];simp only[List.nil_append,zqL,List.length_nil,List.cons_append];omega);have r4:=qbJ (p:={p with text:=p.text++[72,84,84,80],used:=p.used+4}) (c:=47) hn (by rw[ht];rfl) (by rw[ht];simp only[List.nil_append,zqL,List.length_nil,List.cons_append];omega);have r5:=qbJ (p:={p with text:=p.text++[72,84,84,80,47],used:=p.used+5}) (c:=49) hn (by rw[ht];rfl) (by rw[ht];simp only[List.nil_append,zqL,List.length_nil,List.cons_append];omega);have r6:=qbJ (p:={p with text:=p.text++[72,84,84,80,47,49],used:=p.used+6}) (c:=46) hn (by rw[ht];rfl) (by rw[ht];simp only[List.nil_append,zqL,List.length_nil,List.cons_append];omega);have r7:=qbJ (p:={p with text:=p.text++[72,84,84,80,47,49,46],used:=p.used+7}) (c:=mi) hn (by rw[ht];simp only[List.nil_append,zqL,List.length_nil];unfold qa1;simp;omega) (by rw[ht];simp only[List.nil_append,zqL,List.length_nil,List.cons_append];omega);have r8:=qbJ (p:={p with text:=p.text++[72,84,84,80,47,49,46,mi],used:=p.used+8}) (c:=13) hn (by rw[ht];rfl) (by rw[ht];simp only[List.nil_append,zqL,List.length_nil,List.cons_append];omega);simp only[List.append_assoc,List.singleton_append,List.cons_append,List.nil_append,Int.add_assoc]at r1 r2 r3 r4 r5 r6 r7 r8;have:=r0.trans (r1.trans (r2.trans (r3.trans (r4.trans (r5.trans (r6.trans (r7.trans r8)))))));rw[ht]at this;exact this
 obtain⟨p9,hp9⟩:∃p9:Prs,{p with text:=[72,84,84,80,47,49,46,mi,13],used:=p.used+9}=p9:=⟨_,rfl⟩
 rw[hp9]at h9;have hn9:p9.nx=some .line:=by rw[<-hp9];exact hn
 have hs:qbl p9 .line 10=if tgtE p.meth p.targ≠0 then qap {p9 with text:=[],major:=1,minor:=(mi.toNat:Int)-48} 400 (tgtE p.meth p.targ)else .go {p9 with text:=[],major:=1,minor:=(mi.toNat:Int)-48,state:=2,begin_:=p9.used+1} (some .fields):=by
  show qbK p9 10=_;unfold qbK;rw[<-hp9];have e1:(([72,84,84,80,47,49,46,mi,13]:List UInt8).getD 5 0).toNat=49:=rfl;have e2:(([72,84,84,80,47,49,46,mi,13]:List UInt8).getD 7 0)=mi:=rfl;simp only[e1,e2];rw[if_neg (by simp[qa1]),if_neg (by simp),if_neg (by rcases hm with rfl|rfl<;>simp)];rfl
 have hsplit:vTxt mi=[72,84,84,80,47,49,46,mi,13]++[10]:=rfl;by_cases hT:tgtE p.meth p.targ=0
 ·rw[if_neg (by simp[hT])]at hs;have:=h9.trans (PRs.go hn9 hs);rw[<-hsplit]at this;rw[<-hp9]at this;simp only[adv,Int.add_assoc]at this;exact this
 ·rw[if_pos hT]at hs;have hE:okE (tgtE p.meth p.targ):=qoJ _ _;have:=h9.trans (PRs.bad hn9 hs hE {p with nx:=some .fields,text:=[],major:=1,minor:=(mi.toNat:Int)-48,state:=2,begin_:=p.used+10,used:=p.used+10});rw[<-hsplit]at this;exact this
theorem qiz{p:Prs}{c:UInt8}(hn:p.nx=some .fields)(h1:p.text.getLast? ≠some 13)(hc:c≠10):PRs p [c] {p with head:=p.head+1,text:=p.text++[c],used:=p.used+1}:=by
 by_cases hh:p.head=p.lh
 ·have hs:qbl p .fields c= .bad p 431 113 p.used:=by
   show qaL p c=_;unfold qaL;rw[if_pos hh];rfl
  exact PRs.bad hn hs (by unfold okE;decide) _
 ·have hs:qbl p .fields c= .go {p with head:=p.head+1,text:=p.text++[c]} (some .fields):=by
   show qaL p c=_;unfold qaL;have e1:(p.text.getLast? ==some 13)=false:=by simpa using h1
   have e2:(c==10)=false:=by simpa using hc
   rw[if_neg hh,if_neg (by rw[e1,e2];simp),if_pos hc]
  have:=PRs.go hn hs;simp only[adv]at this;rw[hn];exact this
theorem qfI:∀(l:List UInt8) (p:Prs),p.nx=some .fields->p.text.getLast? ≠some 13->(∀b∈l,b≠10/\b≠13)->PRs p (l++[13]) {p with head:=p.head+(l.length+1),text:=p.text++l++[13],used:=p.used+(l.length+1)}
 |[],p,hn,h1,_=>by
  have:=qiz (c:=13) hn h1 (by decide);simpa using this
 |c::l,p,hn,h1,h=>by
  obtain⟨h10,h13⟩:=h c (.head _);have a:=qiz hn h1 h10;have b:=qfI l {p with head:=p.head+1,text:=p.text++[c],used:=p.used+1} hn (by simp[h13]) (fun x hx=>h x (.tail _ hx));have:=a.trans b;simp only[List.singleton_append,List.append_assoc,List.cons_append,List.nil_append]at this;simp only[zqL,Int.natCast_add,Int.natCast_one,List.append_assoc,List.cons_append,List.nil_append];rw[show p.used+((l.length:Int)+1+1)=p.used+1+(l.length+1)by omega,show p.head+((l.length:Int)+1+1)=p.head+1+(l.length+1)by omega];exact this
theorem qnr(p:Prs)(l:List UInt8)(ht:p.text=l++[13])(hh:p.head≠p.lh):qaL p 10=if l=[]then qa9 {p with head:=p.head+1,text:=[]}else if(p.fields.length:Int)=p.lf then qap {p with head:=p.head+1,text:=[]} 431 113
  else if(qaY l).2.2≠0 then .bad {p with head:=p.head+1,text:=[]} 400 (qaY l).2.2 (p.begin_+(qaY l).2.1)
  else .go {p with head:=p.head+1,text:=[],fields:=p.fields++[(qaY l).1],begin_:=p.used+1} (some .fields):=by
 unfold qaL;have e1:p.text.dropLast=l:=by rw[ht];simp
 have e2:(p.text.getLast? ==some 13)=true:=by rw[ht];simp
 rw[if_neg hh,if_neg (by rw[e2];simp),if_neg (by simp),e1]
theorem qlo{f:Fld}(hok:okL f)(p:Prs)(hn:p.nx=some .fields)(ht:p.text=[]):PRs p (qar f++[13,10]) {p with head:=p.head+((qar f).length+2),fields:=p.fields++[f],begin_:=p.used+((qar f).length+2),used:=p.used+((qar f).length+2)}:=by
 have a:=qfI (qar f) p hn (by rw[ht];simp) (qjo hok);rw[ht,List.nil_append]at a;have hsp:qar f++[13,10]=(qar f++[13])++[10]:=by simp
 rw[hsp];refine a.trans ?_;obtain⟨q,hq⟩:∃q:Prs,{p with head:=p.head+((qar f).length+1),text:=qar f++[13],used:=p.used+((qar f).length+1)}=q:=⟨_,rfl⟩
 rw[hq];have hqn:q.nx=some .fields:=by rw[<-hq];exact hn
 have hqt:q.text=qar f++[13]:=by rw[<-hq]
 by_cases hh:q.head=q.lh
 ·have hs:qbl q .fields 10= .bad q 431 113 q.used:=by
   show qaL q 10=_;unfold qaL;rw[if_pos hh];rfl
  exact PRs.bad hqn hs (by unfold okE;decide) _
 ·have hs:qbl q .fields 10=_:=qnr q (qar f) hqt hh;rw[if_neg qpk,qjn hok]at hs;by_cases hm:(q.fields.length:Int)=q.lf
  ·rw[if_pos hm]at hs;exact PRs.bad hqn hs (by unfold okE;decide) _
  ·rw[if_neg hm,if_neg (by simp)]at hs;have:=PRs.go hqn hs;rw[<-hq]at this⊢;simp only[adv]at this;simp only[ht];rw[show p.head+(((qar f).length:Int)+2)=p.head+((qar f).length+1)+1 by omega,show p.used+(((qar f).length:Int)+2)=p.used+((qar f).length+1)+1 by omega,hn];rw[hn]at this;exact this
theorem qfK:∀(ls:List Fld) (p:Prs),p.nx=some .fields->p.text=[]->(∀f∈ls,okL f)->∃h b:Int,PRs p (qas ls) {p with head:=h,fields:=p.fields++ls,begin_:=b,used:=p.used+(qas ls).length}
 |[],p,hn,ht,_=>⟨p.head,p.begin_,by simpa[qas]using PRs.nil p⟩
 |f::ls,p,hn,ht,h=>by
  have a:=qlo (h f (.head _)) p hn ht;obtain⟨hh,b,r⟩:=qfK ls {p with head:=p.head+((qar f).length+2),fields:=p.fields++[f],begin_:=p.used+((qar f).length+2),used:=p.used+((qar f).length+2)} hn ht (fun g hg=>h g (.tail _ hg));refine⟨hh,b,?_⟩;have:=a.trans r;simp only[List.append_assoc,List.cons_append,List.nil_append]at this;rw[qjl];simp only[zqK,zqL,Int.natCast_add,Int.natCast_one];rw[show p.used+(((qar f).length:Int)+((qas ls).length+1+1))=p.used+((qar f).length+2)+(qas ls).length by omega];exact this
def tailS(p:Prs):SR:=
 let f:=qam p.fields (decide (p.minor=0))
 if f.1=2 then .go {p with state:=3,dec:=some (newD p.lb p.lh p.lf)} (some .chunked)
 else if 0<f.2.1 then .go {p with state:=3,left:=f.2.1} (some .counted)
 else qb5 {p with state:=3}
theorem qm7(p:Prs)(hf:(qam p.fields (decide (p.minor=0))).2.2=0):(∃st err a,qa9 p= .bad p st err a/\okE err)\/qa9 p=tailS p:=by
 unfold qa9;dsimp only;rw[if_neg (by rw[hf];decide),if_neg (by rw[hf];decide)]
 have hH:(qex p.fields (decide (p.minor=0))).2.2=0\/(qex p.fields (decide (p.minor=0))).2.2=69:=by
  unfold qex
  repeat' split
  all_goals simp
 have hA:∀s,(qbA s).2.2=0\/(qbA s).2.2=52:=fun s=>by
  unfold qbA
  repeat' split
  all_goals simp
 split
 ·exact .inl ⟨_,_,_,rfl,by unfold okE;omega⟩
 ·split
  ·rename_i h;have:=hA (qex p.fields (decide (p.minor=0))).1;exact .inl ⟨_,_,_,rfl,by unfold okE;omega⟩
  ·split
   ·exact .inl ⟨_,_,_,rfl,by unfold okE;omega⟩
   ·split
    ·exact .inl ⟨_,_,_,rfl,by unfold okE;omega⟩
    ·exact .inr rfl
def ResD(d:Dec)(s:List UInt8)(e:Dec):Prop:=(qan d s=(e,s.length)/\goD e)\/((qan d s).1.err≠0/\okE (qan d s).1.err)
theorem qcS(d:Dec)(b:List UInt8):∀a:List UInt8,(qan d a).1.err≠0->goD d->qan d (a++b)=qan d a:=fun a=>by
 induction a generalizing d with
 |nil=>intro h hg;exact absurd hg.2 h
 |cons c a ih=>
  intro h hg;rw[List.cons_append,qbH,qbH];rw[qbH]at h;by_cases hs:(feed1 d c).done=true\/(feed1 d c).err≠0
  ·rw[if_pos hs,if_pos hs]
  ·rw[if_neg hs]at h;rw[if_neg hs,if_neg hs,ih _ h ⟨by simpa using fun e=>hs (.inl e),by simpa using fun e=>hs (.inr e)⟩]
theorem ResD.trans{d e g:Dec}{a b:List UInt8}(hd:goD d)(h1:ResD d a e)(h2:ResD e b g):ResD d (a++b) g:=by
 rcases h1 with⟨h1,he⟩|⟨h1,h3⟩
 ·rcases h2 with⟨h2,hg⟩|⟨h2,h3⟩
  ·exact .inl ⟨qbq h1 he h2,hg⟩
  ·exact .inr (by rw[qd9 _ _ _ _ h1 he];exact⟨h2,h3⟩)
 ·exact .inr (by rw[qcS d b a h1 hd];exact⟨h1,h3⟩)
theorem ResD.one{d e:Dec}{c:UInt8}(h:feed1 d c=e)(h2:goD e\/(e.err≠0/\okE e.err))(g:Dec)(hg:goD e->g=e):ResD d [c] g:=by
 have:=qce h;rcases h2 with h2|h2
 ·rw[hg h2];exact .inl ⟨this,h2⟩
 ·exact .inr (by rw[this];exact h2)
theorem qfc:∀(a:List UInt8) (d:Dec),d.st= .trailer->goD d->(∀b∈a,b≠10)->ResD d a {d with line:=d.line++a,section_:=d.section_+a.length,total:=d.total+a.length}
 |[],d,_,hg,_=> .inl ⟨by simp[qan],by simpa using hg⟩
 |c::a,d,hs,hg,h=>by
  have ih:=qfc a {d with line:=d.line++[c],section_:=d.section_+1,total:=d.total+1,err:=0} hs ⟨hg.1,rfl⟩ (fun b hb=>h b (.tail _ hb))
  have h0:feed1 d c=if d.room<=d.section_ then{d with total:=d.total+1,err:=104}else{d with line:=d.line++[c],section_:=d.section_+1,total:=d.total+1,err:=0}:=by
   unfold feed1 qbV;simp only[hs,qbk];split
   ·simp[hs]
   ·simp[hs,h c (.head _)]
  have h1:ResD d [c] {d with line:=d.line++[c],section_:=d.section_+1,total:=d.total+1,err:=0}:=by
   by_cases hr:(d.room:Int)<=d.section_
   ·rw[if_pos hr]at h0;exact ResD.one h0 (.inr ⟨by simp,by unfold okE;simp⟩) _ (fun e=>absurd e.2 (by simp))
   ·rw[if_neg hr]at h0;exact ResD.one h0 (.inl ⟨hg.1,rfl⟩) _ (fun _=>rfl)
  have:=h1.trans hg ih;simp only[List.singleton_append,List.append_assoc]at this;have he:=hg.2;cases d;simp only at he this⊢;subst he;simpa[Nat.add_assoc,Nat.add_comm 1]using this
theorem qnq(f:Fld)(d:Dec)(hs:d.st= .trailer)(hg:goD d)(hl:d.line=[])(hr:qbv f=true):
  ResD d (qar f++[13,10]) {d with section_:=d.section_+((qar f).length+2),trailers:=d.trailers++[f],total:=d.total+((qar f).length+2)}:=by
 have e1:=qfc (qar f++[13]) d hs hg (fun b hb=>by
  rcases List.mem_append.1 hb with hb|hb
  ·exact qld f hr b hb
  ·simp at hb;subst hb;decide)
 rw[hl,List.nil_append]at e1;have hsp:qar f++[13,10]=(qar f++[13])++[10]:=by simp
 rw[hsp];refine e1.trans hg ?_;have hne:qar f≠[]:=by unfold qar;simp
 have hmay:mayB f.name=true:=by unfold qbv at hr;simp at hr;exact hr.1
 have e2:feed1 {d with line:=qar f++[13],section_:=d.section_+(qar f++[13]).length,total:=d.total+(qar f++[13]).length} 10=
   if(d.room:Int)<=(d.section_+(qar f++[13]).length:Nat)then{d with line:=qar f++[13],section_:=d.section_+(qar f++[13]).length,total:=d.total+(qar f++[13]).length+1,err:=104}
   else if(d.fields:Int)<=d.trailers.length then{d with line:=[],section_:=d.section_+(qar f++[13]).length+1,total:=d.total+(qar f++[13]).length+1,err:=104}
   else{d with line:=[],section_:=d.section_+(qar f++[13]).length+1,trailers:=d.trailers++[f],total:=d.total+(qar f++[13]).length+1,err:=0}:=by
  unfold feed1 qbV;simp only[hs,qbk];split
  ·simp[hs]
  ·rw[if_neg (by simp),qfN];simp only;rw[if_neg hne];split
   ·simp[hs]
   ·rw[qjq f hr];simp only;rw[if_pos hmay]
    all_goals simp[hs]
 split at e2
 ·exact ResD.one e2 (.inr ⟨by simp,by unfold okE;simp⟩) _ (fun e=>absurd e.2 (by simp))
 ·split at e2
  ·exact ResD.one e2 (.inr ⟨by simp,by unfold okE;simp⟩) _ (fun e=>absurd e.2 (by simp))
  ·refine ResD.one e2 (.inl ⟨hg.1,rfl⟩) _ (fun _=>?_);cases d;have:=hg.2;simp only at this hl;subst hl;subst this;simp;omega
theorem qgE:∀(ts:List Fld) (d:Dec),d.st= .trailer->goD d->d.line=[]->(∀f∈ts,qbv f=true)->
  ResD d (qas ts) {d with section_:=d.section_+(qas ts).length,trailers:=d.trailers++ts,total:=d.total+(qas ts).length}
 |[],d,_,hg,_,_=> .inl ⟨by simp[qas,qan],by simpa[qas]using hg⟩
 |f::ts,d,hs,hg,hl,hr=>by
  have ht:qas (f::ts)=(qar f++[13,10])++qas ts:=by simp[qas]
  have hlen:(qas (f::ts)).length=(qar f).length+2+(qas ts).length:=by rw[ht];simp;omega
  have e1:=qnq f d hs hg hl (hr f (by simp));have e2:=qgE ts {d with section_:=d.section_+((qar f).length+2),trailers:=d.trailers++[f],total:=d.total+((qar f).length+2)} hs hg hl (fun q hq=>hr q (by simp[hq]));have key:=e1.trans hg e2;rw[<-ht]at key;rw[hlen];simpa[Nat.add_assoc]using key
theorem qrA(b:List UInt8)(ts:List Fld)(m r f:Int)(hb:b.length<=1099511627776)(hm:0<=m)(hr:∀g∈ts,qbv g=true):
  ((qan (newD m r f) (encT (qal b []) ts)).1.err≠0/\okE (qan (newD m r f) (encT (qal b []) ts)).1.err)\/
  ∃e:Dec,qan (newD m r f) (encT (qal b []) ts)=(e,(encT (qal b []) ts).length)/\e.done=true/\e.err=0/\e.body=b/\e.trailers=ts:=by
 have hg0:goD (newD m r f):=⟨rfl,rfl⟩
 have hA:∃d1:Dec,ResD (newD m r f) (qaq (qal b [])) d1/\d1.st= .size/\goD d1/\d1.line=[]/\d1.body=b/\d1.trailers=[]/\0<=d1.most-d1.body.length:=by
  by_cases hbe:b=[]
  ·subst hbe;exact⟨newD m r f,.inl ⟨by simp[qal,qaq,qan],hg0⟩,rfl,hg0,rfl,rfl,rfl,by simpa[newD]using hm⟩
  ·have hp:qal b []=[b]:=by unfold qal;rw[if_neg hbe]
   rw[hp];by_cases hbig:(b.length:Int)<=m
   ·obtain⟨lf,e1⟩:=qgj [b] (newD m r f) rfl hg0 rfl (by simpa using hbe) (by simpa[newD]using hbig) (by simpa using hb);exact⟨_,.inl ⟨e1,⟨rfl,rfl⟩⟩,rfl,⟨rfl,rfl⟩,rfl,by simp[newD],rfl,by simp[newD];omega⟩
   ·refine⟨{newD m r f with body:=b,most:=m+b.length},.inr ?_,rfl,⟨rfl,rfl⟩,rfl,rfl,rfl,by simp[newD];omega⟩;have e2:=qgV b.length (newD m r f) rfl hg0 rfl hb;have e3:=qmd b.length {newD m r f with line:=hexD b.length++[13],total:=(newD m r f).total+(hexD b.length).length+1} rfl rfl hb;rw[if_pos (by show m-(([]:List UInt8).length:Int)<_;simp;omega)]at e3;have key:=qbq e2 ⟨rfl,rfl⟩ (qce e3);have hc:qaq [b]=((hexD b.length++[13])++[10])++(b++[13,10]):=by simp[qaq,qbj]
    rw[hc,qcS _ _ _ (by rw[key];simp) hg0,key];exact⟨by simp,by unfold okE;simp⟩
 obtain⟨d1,a1,c1,c2,c3,c4,c8,cm⟩:=hA;have e2:=qgV 0 d1 c1 c2 c3 (by omega);rw[hexD0]at e2;have e3:=qmd 0 {d1 with line:=[48]++[13],total:=d1.total+[(48:UInt8)].length+1} c1 (by rw[hexD0]) (by omega);rw[if_neg (by show ¬(d1.most-d1.body.length<((0:Nat):Int));omega),if_pos rfl]at e3
 generalize hd2:({d1 with line:=[],st:= .trailer,total:=d1.total+[(48:UInt8)].length+1+1,err:=0}:Dec)=d2 at e3
 have b2:d2.st= .trailer/\goD d2/\d2.line=[]/\d2.body=b/\d2.trailers=[]:=by
  subst hd2;exact⟨rfl,⟨c2.1,rfl⟩,rfl,c4,c8⟩
 obtain⟨g1,g2,g3,g4,g7⟩:=b2;have a2:ResD d1 ([48]++[13]++[10]) d2:= .inl ⟨qbq e2 c2 (qce e3),g2⟩;have a3:=qgE ts d2 g1 g2 g3 hr
 generalize hd3:({d2 with section_:=d2.section_+(qas ts).length,trailers:=d2.trailers++ts,total:=d2.total+(qas ts).length}:Dec)=d3 at a3
 have b3:d3.st= .trailer/\goD d3/\d3.line=[]/\d3.body=b/\d3.trailers=ts:=by
  subst hd3;exact⟨g1,g2,g3,g4,by simp[g7]⟩
 obtain⟨k1,k2,k3,k4,k6⟩:=b3;have a4:=qfc [13] d3 k1 k2 (by simp);rw[k3,List.nil_append]at a4;have ht:encT (qal b []) ts=(qaq (qal b [])++(([48]++[13]++[10])++(qas ts++[13])))++[10]:=by simp[encT]
 have aa:=a1.trans hg0 (a2.trans c2 (a3.trans g2 a4));rw[ht];rcases aa with⟨aa,hgo⟩|aa
 ·generalize hd4:({d3 with line:=[13],section_:=d3.section_+[(13:UInt8)].length,total:=d3.total+[(13:UInt8)].length}:Dec)=d4 at aa hgo
  have b4:d4.st= .trailer/\d4.line=[13]/\d4.body=b/\d4.trailers=ts:=by
   subst hd4;exact⟨k1,rfl,k4,k6⟩
  obtain⟨q1,q2,q3,q4⟩:=b4
  have e6:feed1 d4 10=if(d4.room:Int)<=d4.section_ then{d4 with total:=d4.total+1,err:=104}else{d4 with line:=[],section_:=d4.section_+1,total:=d4.total+1,done:=true,err:=0}:=by
   unfold feed1 qbV;simp only[q1,qbk];split
   ·simp[q1]
   ·have he:endL (d4.line++[10])=some []:=by rw[q2];exact qfN []
    rw[if_neg (by simp),he];simp[q1]
  have key:=qbq aa hgo (qce rfl:qan d4 [10]=(feed1 d4 10,1));rw[key];split at e6
  ·rw[e6];exact .inl ⟨by simp,by unfold okE;simp⟩
  ·rw[e6];exact .inr ⟨_,rfl,rfl,rfl,q3,q4⟩
 ·rw[qcS _ _ _ aa.1 hg0];exact .inl aa
def qmE(s:List UInt8):Bool:=tokB s&&decide (s.length<=24)
def qew(s:List UInt8):Bool:=!s.isEmpty&&s.all fun c=>decide (33<=c.toNat)&&decide (c.toNat<=126)
def preQ(r:Rq):List UInt8:=r.meth++([32]++(r.targ++([32]++([72,84,84,80,47]++([49,46]++(Go.Lib.itoa r.minor++([13,10]++((qbD r.fields).1++[13,10]))))))))
def qa0(r:Rq):List UInt8×Int:=
 if qmE r.meth=false then([],110)else if qew r.targ=false then([],111)else if r.major≠1\/(r.minor≠0/\r.minor≠1)then([],117)
 else if(qbD r.fields).2≠0 then([],(qbD r.fields).2)
 else if(qam r.fields (decide (r.minor=0))).2.2≠0 then([],(qam r.fields (decide (r.minor=0))).2.2)
 else if(qam r.fields (decide (r.minor=0))).1≠2/\(r.body.length:Int)≠(qam r.fields (decide (r.minor=0))).2.1 then([],114)
 else if(qam r.fields (decide (r.minor=0))).1≠2/\r.trailers≠[]then([],113)
 else if(qam r.fields (decide (r.minor=0))).1=2 then(if(qbI r.body [] r.trailers).2≠0 then([],(qbI r.body [] r.trailers).2)else(preQ r++(qbI r.body [] r.trailers).1,0))
 else(preQ r++r.body,0)
structure OkQ (r:Rq):Prop where
 m:tokB r.meth=true/\r.meth.length<=24
 t:r.targ≠[]/\∀b∈r.targ,33<=b.toNat/\b.toNat<=126
 maj:r.major=1
 mi:r.minor=0\/r.minor=1
 f:(qbD r.fields).1=qas r.fields/\∀f∈r.fields,okL f
 fr:(qam r.fields (decide (r.minor=0))).2.2=0
 pl:(qam r.fields (decide (r.minor=0))).1≠2->(r.body.length:Int)=(qam r.fields (decide (r.minor=0))).2.1/\r.trailers=[]
 ch:(qam r.fields (decide (r.minor=0))).1=2->(∀g∈r.trailers,qbv g=true)/\(qbI r.body [] r.trailers).1=encT (qal r.body []) r.trailers
theorem qhW{r:Rq}(h:(qa0 r).2=0):OkQ r/\(qa0 r).1=preQ r++if(qam r.fields (decide (r.minor=0))).1=2 then encT (qal r.body []) r.trailers else r.body:=by
 unfold qa0 at h⊢;by_cases h1:qmE r.meth=false
 ·rw[if_pos h1]at h;simp at h
 rw[if_neg h1]at h⊢;by_cases h2:qew r.targ=false
 ·rw[if_pos h2]at h;simp at h
 rw[if_neg h2]at h⊢;by_cases h3:r.major≠1\/(r.minor≠0/\r.minor≠1)
 ·rw[if_pos h3]at h;simp at h
 rw[if_neg h3]at h⊢;by_cases h4:(qbD r.fields).2≠0
 ·rw[if_pos h4]at h;exact absurd h h4
 rw[if_neg h4]at h⊢;by_cases h5:(qam r.fields (decide (r.minor=0))).2.2≠0
 ·rw[if_pos h5]at h;exact absurd h h5
 rw[if_neg h5]at h⊢;by_cases h6:(qam r.fields (decide (r.minor=0))).1≠2/\(r.body.length:Int)≠(qam r.fields (decide (r.minor=0))).2.1
 ·rw[if_pos h6]at h;simp at h
 rw[if_neg h6]at h⊢;by_cases h7:(qam r.fields (decide (r.minor=0))).1≠2/\r.trailers≠[]
 ·rw[if_pos h7]at h;simp at h
 rw[if_neg h7]at h⊢
 have hm:tokB r.meth=true/\r.meth.length<=24:=by
  unfold qmE at h1;simpa using h1
 have ht:r.targ≠[]/\∀b∈r.targ,33<=b.toNat/\b.toNat<=126:=by
  unfold qew at h2;simpa using h2
 have hp:=qmt (l:=r.fields) (by simpa using h4);have hpl:(qam r.fields (decide (r.minor=0))).1≠2->(r.body.length:Int)=(qam r.fields (decide (r.minor=0))).2.1/\r.trailers=[]:=fun e=>⟨Classical.byContradiction fun n=>h6 ⟨e,n⟩,Classical.byContradiction fun n=>h7 ⟨e,n⟩⟩
 by_cases h8:(qam r.fields (decide (r.minor=0))).1=2
 ·rw[if_pos h8]at h⊢;by_cases h9:(qbI r.body [] r.trailers).2≠0
  ·rw[if_pos h9]at h;exact absurd h h9
  rw[if_neg h9]at h⊢;obtain⟨_,e2,e3⟩:=qnA (b:=r.body) (ns:=[]) (ts:=r.trailers) (by simpa using h9);refine⟨⟨hm,ht,by omega,by omega,⟨hp.1,hp.2.2⟩,by simpa using h5,hpl,fun _=>⟨e2,e3⟩⟩,?_⟩;rw[if_pos h8,e3]
 ·rw[if_neg h8]at h⊢;refine⟨⟨hm,ht,by omega,by omega,⟨hp.1,hp.2.2⟩,by simpa using h5,hpl,fun e=>absurd e h8⟩,?_⟩;rw[if_neg h8]
structure Iv (lt lh lf lb:Int) (P:Prs) (m:Md) (meth targ:List UInt8) (maj mi:Int) (fs:List Fld):Prop where
 nx:P.nx=some m
 text:P.text=[]
 lt_:P.lt=lt
 lh_:P.lh=lh
 lf_:P.lf=lf
 lb_:P.lb=lb
 meth_:P.meth=meth
 targ_:P.targ=targ
 maj_:P.major=maj
 mi_:P.minor=mi
 fs_:P.fields=fs
 tr:P.trailers=[]
 rb:P.rbody=[]
 bd:P.body=[]
section
variable {lt lh lf lb:Int}
theorem pr1{m:List UInt8}(h1:tokB m=true)(h2:m.length<=24):∃P,PRs (newP lt lh lf lb) (m++[32]) P/\Iv lt lh lf lb P .target m [] 0 0 []:=by
 obtain⟨c0,m0,rfl⟩:∃c r,m=c::r:=by
  cases m with
  |nil=>simp[tokB]at h1
  |cons c m=>exact⟨c,m,rfl⟩
 have hsig:∀b∈c0::m0,qak b=true:=by
  unfold tokB at h1;simp at h1⊢;exact h1
 simp only[zqL]at h2;have hc13:c0≠13:=(qdv (hsig c0 (.head _))).1
 have s1:qbl (newP lt lh lf lb) .start c0= .go {newP lt lh lf lb with state:=1,text:=[c0]} (some .method):=by
  show qcA (newP lt lh lf lb) c0=_;unfold qcA qa6;rw[if_neg hc13,if_pos (by rw[tok1];exact hsig c0 (.head _)),if_neg (by simp[newP])];rfl
 have r1:=PRs.go (p:=newP lt lh lf lb) rfl s1;have r2:=qgu m0 (adv {newP lt lh lf lb with state:=1,text:=[c0]} (some .method)) rfl (fun b hb=>hsig b (.tail _ hb)) (by simp only[adv,zqL,List.length_nil];omega);have r12:=r1.trans r2;obtain⟨P2,hP2⟩:=exz (({adv {newP lt lh lf lb with state:=1,text:=[c0]} (some .method)with text:=(adv {newP lt lh lf lb with state:=1,text:=[c0]} (some .method)).text++m0,used:=(adv {newP lt lh lf lb with state:=1,text:=[c0]} (some .method)).used+m0.length}:Prs));rw[hP2]at r12;have a1:P2.nx=some .method:=by rw[<-hP2];rfl
 have a2:P2.text=c0::m0:=by rw[<-hP2];rfl
 have s3:qbl P2 .method 32= .go {P2 with meth:=c0::m0,text:=[]} (some .target):=by
  show qa6 P2 32=_;unfold qa6;rw[if_neg (by rw[tok1];decide),if_pos ⟨rfl,by rw[a2];simp⟩,a2]
 have r:=r12.trans (PRs.go a1 s3);refine⟨_,r,?_⟩;rw[<-hP2];exact⟨rfl,rfl,rfl,rfl,rfl,rfl,rfl,rfl,rfl,rfl,rfl,rfl,rfl,rfl⟩
theorem pr2{P:Prs}{m t:List UInt8}(h:Iv lt lh lf lb P .target m [] 0 0 [])(h1:t≠[])(h2:∀b∈t,33<=b.toNat/\b.toNat<=126):∃P',PRs P (t++[32]) P'/\Iv lt lh lf lb P' .line m t 0 0 []:=by
 have r4:=qgg t P h.nx h2;obtain⟨P4,hP4⟩:=exz (({P with text:=P.text++t,used:=P.used+t.length}:Prs));rw[hP4]at r4;have a1:P4.nx=some .target:=by rw[<-hP4];exact h.nx
 have a2:P4.text=t:=by rw[<-hP4];show P.text++t=t;rw[h.text];rfl
 have s5:qbl P4 .target 32= .go {P4 with targ:=t,text:=[]} (some .line):=by
  show qbf P4 32=_;unfold qbf;rw[if_neg (by decide),if_pos ⟨rfl,by rw[a2];exact h1⟩,a2]
 refine⟨_,r4.trans (PRs.go a1 s5),?_⟩;rw[<-hP4];exact⟨rfl,rfl,h.lt_,h.lh_,h.lf_,h.lb_,h.meth_,rfl,h.maj_,h.mi_,h.fs_,h.tr,h.rb,h.bd⟩
theorem pr3{P:Prs}{m t:List UInt8}(h:Iv lt lh lf lb P .line m t 0 0 []){c:UInt8}(hm:c=48\/c=49):∃P',PRs P (vTxt c) P'/\Iv lt lh lf lb P' .fields m t 1 ((c.toNat:Int)-48) []:=
 ⟨_,qiP P h.nx h.text c hm,rfl,rfl,h.lt_,h.lh_,h.lf_,h.lb_,h.meth_,h.targ_,rfl,rfl,h.fs_,h.tr,h.rb,h.bd⟩
theorem pr4{P:Prs}{m t:List UInt8}{mi:Int}{fs:List Fld}(h:Iv lt lh lf lb P .fields m t 1 mi [])(hf:∀f∈fs,okL f):∃P',PRs P (qas fs++[13]) P'/\P'.text=[13]/\Iv lt lh lf lb {P' with text:=[]} .fields m t 1 mi fs:=by
 obtain⟨hh,bb,r7⟩:=qfK fs P h.nx h.text hf;have r8:=qfI [] {P with head:=hh,fields:=P.fields++fs,begin_:=bb,used:=P.used+(qas fs).length} h.nx (by show P.text.getLast? ≠some 13;rw[h.text];simp) (by simp);refine⟨_,r7.trans r8,?_,h.nx,rfl,h.lt_,h.lh_,h.lf_,h.lb_,h.meth_,h.targ_,h.maj_,h.mi_,?_,h.tr,h.rb,h.bd⟩
 ·show P.text++[]++[13]=[13]
  rw[h.text];rfl
 ·show P.fields++fs=fs;rw[h.fs_];rfl
end
def EndQ(p:Prs)(s:List UInt8)(r:Rq):Prop:=
 ((qao p s).1.nx=none/\(qao p s).1.state=5/\okE (qao p s).1.ferr)\/((qao p s).1.nx=none/\(qao p s).2=s.length/\(qao p s).1.state=4/\(qao p s).1.rq=r)
theorem EndQ.behind{p q:Prs}{a b:List UInt8}{r:Rq}(h1:PRs p a q)(h2:EndQ q b r):EndQ p (a++b) r:=by
 unfold EndQ;rcases h1 with h1|⟨r1,r2,r3⟩
 ·rw[qbi,h1];rcases h2 with h2|⟨k1,k2,k3,k4⟩
  ·exact .inl h2
  ·exact .inr ⟨k1,by simp only[k2,zqK],k3,k4⟩
 ·rw[qbi,qaT b r1];exact .inl ⟨r1,r2,r3⟩
theorem pr5{lt lh lf lb:Int}{P:Prs}{r:Rq}(ok:OkQ r)(ht:P.text=[13])(h:Iv lt lh lf lb {P with text:=[]} .fields r.meth r.targ 1 r.minor r.fields)(hlb:0<=lb)(hb:r.body.length<=1099511627776):
  EndQ P ([10]++if(qam r.fields (decide (r.minor=0))).1=2 then encT (qal r.body []) r.trailers else r.body) r:=by
 obtain⟨a1,_,a3,a4,a5,a6,a11,a12,a13,a14,a7,a8,a9,a10⟩:=h;simp only at a1 a3 a4 a5 a6 a7 a8 a9 a10 a11 a12 a13 a14;have hfr:=ok.fr;unfold EndQ;by_cases hhd:P.head=P.lh
 ·have sx:qbl P .fields 10= .bad P 431 113 P.used:=by
   show qaL P 10=_;unfold qaL;rw[if_pos hhd];rfl
  rw[List.singleton_append,qbz _ a1 sx];exact .inl ⟨rfl,rfl,by unfold okE;simp[SR.prs]⟩
 have sx:qbl P .fields 10=_:=qnr P [] ht hhd;rw[if_pos rfl]at sx;obtain⟨P9,hP9⟩:=exz (({P with head:=P.head+1,text:=[]}:Prs));rw[hP9]at sx;have b4:P9.lh=lh:=by rw[<-hP9];exact a4
 have b5:P9.lf=lf:=by rw[<-hP9];exact a5
 have b6:P9.lb=lb:=by rw[<-hP9];exact a6
 have b7:P9.fields=r.fields:=by rw[<-hP9];exact a7
 have b8:P9.trailers=[]:=by rw[<-hP9];exact a8
 have b10:P9.body=[]:=by rw[<-hP9];exact a10
 have b11:P9.meth=r.meth:=by rw[<-hP9];exact a11
 have b12:P9.targ=r.targ:=by rw[<-hP9];exact a12
 have b13:P9.major=1:=by rw[<-hP9];exact a13
 have b14:P9.minor=r.minor:=by rw[<-hP9];exact a14
 have hrq:∀q:Prs,q.meth=P9.meth->q.targ=P9.targ->q.major=P9.major->q.minor=P9.minor->q.fields=P9.fields->q.rbody=r.body->q.trailers=r.trailers->q.rq=r:=fun q e1 e2 e3 e4 e5 e6 e7=>by
  unfold Prs.rq;rw[e1,e2,e3,e4,e5,e6,e7,b11,b12,b13,b14,b7,<-ok.maj]
 rw[List.singleton_append];rcases qm7 P9 (by rw[b7,b14];exact hfr)with⟨st,err,at_,hb9,hE⟩|hb9
 ·rw[hb9]at sx;rw[qbz _ a1 sx];exact .inl ⟨rfl,rfl,hE⟩
 rw[hb9]at sx;unfold tailS at sx;have eF:qam P9.fields (decide (P9.minor=0))=qam r.fields (decide (r.minor=0)):=by rw[b7,b14]
 have eD:newD P9.lb P9.lh P9.lf=newD lb lh lf:=by rw[b4,b5,b6]
 rw[eF,eD]at sx;dsimp only at sx;by_cases h2:(qam r.fields (decide (r.minor=0))).1=2
 ·rw[if_pos h2]at sx⊢;rw[qbp _ a1 sx];have key:=qgI (encT (qal r.body []) r.trailers) (adv {P9 with state:=3,dec:=some (newD lb lh lf)} (some .chunked)) (newD lb lh lf) rfl rfl ⟨rfl,rfl⟩;rcases qrA r.body r.trailers lb lh lf hb hlb (ok.ch h2).1 with⟨e1,e2⟩|⟨e,e1,e2,e3,e4,e5⟩
  ·rw[key.1 e1];exact .inl ⟨rfl,rfl,e2⟩
  ·rw[e1]at key;rw[key.2.1 e3 e2];exact .inr ⟨rfl,by simp only[zqL],rfl,hrq _ rfl rfl rfl rfl rfl e4 e5⟩
 ·rw[if_neg h2]at sx⊢;obtain⟨p1,p2⟩:=ok.pl h2;by_cases hpos:0<(qam r.fields (decide (r.minor=0))).2.1
  ·rw[if_pos hpos]at sx;rw[qbp _ a1 sx];have key:=(qeM r.body (adv {P9 with state:=3,left:=(qam r.fields (decide (r.minor=0))).2.1} (some .counted)) rfl hpos).2 (by show(qam r.fields (decide (r.minor=0))).2.1<=_;omega);rw[key];have hl:(qam r.fields (decide (r.minor=0))).2.1.toNat=r.body.length:=by omega
   refine .inr ⟨rfl,?_,rfl,hrq _ rfl rfl rfl rfl rfl ?_ ?_⟩
   ·show(qam r.fields (decide (r.minor=0))).2.1.toNat+1=_;rw[hl];rfl
   ·show P9.body++r.body.take (qam r.fields (decide (r.minor=0))).2.1.toNat=r.body;rw[hl,b10,List.take_length];rfl
   ·show P9.trailers=r.trailers;rw[b8,p2]
  ·rw[if_neg hpos]at sx;have hb0:r.body=[]:=List.length_eq_zero_iff.1 (by omega);rw[hb0];unfold qb5 at sx;rw[qbp _ a1 sx,qix];refine .inr ⟨rfl,rfl,rfl,hrq _ rfl rfl rfl rfl rfl ?_ ?_⟩
   ·show P9.body=r.body;rw[b10,hb0]
   ·show P9.trailers=r.trailers;rw[b8,p2]
theorem qhU{r:Rq}(h:(qa0 r).2=0)(lt lh lf lb:Int)(hlb:0<=lb)(hb:r.body.length<=1099511627776):EndQ (newP lt lh lf lb) (qa0 r).1 r:=by
 obtain⟨ok,hs⟩:=qhW h
 obtain⟨mi,hmi,hmn,hit⟩:∃mi:UInt8,(mi=48\/mi=49)/\(mi.toNat:Int)-48=r.minor/\Go.Lib.itoa r.minor=[mi]:=by
  rcases ok.mi with e|e
  ·exact⟨48,.inl rfl,by rw[e];rfl,by rw[e];exact(qcn 0).trans (qeb (by omega))⟩
  ·exact⟨49,.inr rfl,by rw[e];rfl,by rw[e];exact(qcn 1).trans (qeb (by omega))⟩
 obtain⟨P1,r1,i1⟩:=pr1 (lt:=lt) (lh:=lh) (lf:=lf) (lb:=lb) ok.m.1 ok.m.2;obtain⟨P2,r2,i2⟩:=pr2 i1 ok.t.1 ok.t.2;obtain⟨P3,r3,i3⟩:=pr3 i2 hmi;rw[hmn]at i3;obtain⟨P4,r4,t4,i4⟩:=pr4 i3 ok.f.2;have:=EndQ.behind r1 (EndQ.behind r2 (EndQ.behind r3 (EndQ.behind r4 (pr5 ok t4 i4 hlb hb))))
 have e:(qa0 r).1=(r.meth++[32])++((r.targ++[32])++(vTxt mi++((qas r.fields++[13])++([10]++if(qam r.fields (decide (r.minor=0))).1=2 then encT (qal r.body []) r.trailers else r.body)))):=by
  rw[hs];unfold preQ vTxt;rw[hit,ok.f.1];simp only[List.append_assoc,List.cons_append,List.nil_append]
 rw[e];exact this
section
variable (E:Env){H:Hp}(Q:AV->Hp->Prop)
def qds(p:Prs):Int:=if p.state=4 then 1 else if p.state=5 then 2 else 0
def qlU(a b c d:Int)(s:List UInt8):AV:=if chkE a b c d=0 then
  .tup [(Rq.if (decide ((qao (newP a b c d) s).1.state=4)) (qao (newP a b c d) s).1.rq).av,.int .i64 (qao (newP a b c d) s).2,fltV (qao (newP a b c d) s).1,.int .i64 (qds (qao (newP a b c d) s).1)]
 else .tup [Rq.zero.av,.int .i64 0,.agg [.int .i64 0,.int .i64 (chkE a b c d),.int .i64 0],.int .i64 2]
theorem qnM{a b c d:Int}(h:chkE a b c d=0):(1<=a/\a<=65536)/\(2<=b/\b<=1048576)/\(0<=c/\c<=100)/\(0<=d/\d<=1073741824):=by
 unfold chkE at h;split at h
 ·assumption
 ·cases h
theorem qfy{a b c d:Int}(h:chkE a b c d=0):fitP 0 (newP a b c d):=by
 obtain⟨h1,h2,h3,h4⟩:=qnM h;exact qpb h1 h2 h3 h4
theorem qnu{a b c d:Int}(h:chkE a b c d=0)(s:List UInt8)(hs:s.length<=4194304)(h5:(qao (newP a b c d) s).1.state≠5):fsz (qao (newP a b c d) s).1.fields+(qao (newP a b c d) s).1.fields.length<=4194304/\(qao (newP a b c d) s).1.trailers.length<=4194304:=by
 have hf:=qiy s (newP a b c d) 0 (qfy h) h5;have:=hf.a;have:=hf.tr;have:=qhg (newP a b c d) s;omega
theorem qdq{P:Program}{rs:List ResultVar}{Q:AV->Hp->Prop}{fr:List AV}{H K:Hp}{v0 v:AV}(hB:BndH H.length H)(hle:H.length<=K.length)(hk:∀i,i<H.length->K[i]? =H[i]?)(h1:ares P fr K rs=some v0)(h2:nilV v0 v)(h5:Bnd H.length v)(h6:Q v H):qci P rs H.length Q .ret fr K:=by
 obtain⟨J,rfl⟩:=qrd hle hk;exact qab hB h1 h2 h5 h6
theorem qfq(hE:PE E)(a b c d:Int)(s:List UInt8)(hs:s.length<=4194304)(hQ:Q (qlU a b c d s) H):PC Tryz.prog E 12 [limV a b c d,.str s] H Q:=by
 refine PC.nilD ?_;refine qmw (fun i=>i=H.length+4) Tryz.func12 rfl [] [(9,[0,0,0,0,0,2,2])] (by kernel_rfl) (fun E' hS' h0' hF' hB=>?_);have hE':=hE.env h0' hF';unfold qlU at hQ;simp[Tryz.ntmps12,Tryz.results12,List.replicate_succ,limV];refine qmu E' _ a b c d (fun h0 hBn=>?_) (fun h0=>?_)
 ·rw[if_pos h0]at hQ;simp;obtain⟨H3,hH3⟩:∃H3:Hp,H++[[AV.int .i64 a,AV.int .i64 b,AV.int .i64 c,AV.int .i64 d],[AV.str [],AV.str [],AV.int .i64 0,AV.int .i64 0,AV.nil,AV.str [],AV.nil],[AV.int .i64 0,AV.int .i64 0,AV.int .i64 0]]=H3:=⟨_,rfl⟩
  have hl3:H3.length=H.length+3:=by rw[<-hH3];simp
  have hpb:=nwH_pb H3 a b c d;rw[hH3];rw[show H3.length+1=H.length+4 by omega]at hpb;have hfl:=qhg (newP a b c d) s;refine qj9 E' _ hpb (fun _=>qfy h0) (fun E2 h02 hF2=>qqs E2 (hE'.env h02 hF2)) s (by omega) (by omega) (fun j1 K1 hp1 hj1 ho1 hB1=>?_);have hfit:=qnu h0 s hs;obtain⟨P,hP⟩:=exz ((qao (newP a b c d) s).1);obtain⟨N,hN⟩:=exz ((qao (newP a b c d) s).2);rw[hP]at hp1 hfit;rw[hP,hN]at hQ;rw[hN];have hlen:H.length+5<=K1.length:=by have:=ho1.1;unfold nwH at this;simp at this;omega
  have hold:∀i,i<H.length+3->K1[i]? =H3[i]? :=fun i hi=>by
   rw[ho1.2 i (by unfold nwH;simp;omega) (by omega) (fun h=>by cases h)];unfold nwH;rw[zqA (by omega)]
  have k1:K1[H.length+1]? =some [AV.str [],AV.str [],AV.int .i64 0,AV.int .i64 0,AV.nil,AV.str [],AV.nil]:=by rw[hold _ (by omega),<-hH3,zqB (by omega)];simp
  have k2:K1[H.length+2]? =some [AV.int .i64 0,AV.int .i64 0,AV.int .i64 0]:=by rw[hold _ (by omega),<-hH3,zqB (by omega)];simp
  have kH:∀i,i<H.length->K1[i]? =H[i]? :=fun i hi=>by rw[hold i (by omega),<-hH3,zqA hi]
  have hrow:=hp1.row;simp[Prs.av]at hrow;have e1:H.length+1<K1.length:=by omega
  have e2:H.length+2<K1.length:=by omega
  have u1:∀x,(K1.set (H.length+1) x)[H.length+2]? =some [AV.int .i64 0,AV.int .i64 0,AV.int .i64 0]:=fun x=>by rw[zqF (by omega)];exact k2
  have u2:∀x,(K1.set (H.length+1) x)[H.length+4]? =K1[H.length+4]? :=fun x=>zqF (by omega);have u3:∀x y,((K1.set (H.length+1) x).set (H.length+2) y)[H.length+1]? =some x:=fun x y=>by rw[zqF (by omega),zqO e1]
  have u4:∀x y,((K1.set (H.length+1) x).set (H.length+2) y)[H.length+2]? =some y:=fun x y=>zqO (by simpa using e2);have kK:∀x y i,i<H.length->((K1.set (H.length+1) x).set (H.length+2) y)[i]? =H[i]? :=fun x y i hi=>by rw[zqF (by omega),zqF (by omega)];exact kH i hi
  by_cases h4:P.state=4
  ·have hk:qds P=1:=by unfold qds;rw[if_pos h4]
   have hd:decide (P.state=4)=true:=by simpa using h4
   have hf5:P.state≠5:=by omega
   have hfv:fltV P= .agg [.int .i64 0,.int .i64 0,.int .i64 0]:=by unfold fltV;rw[if_neg hf5]
   have hrq:Rq.if true P.rq=P.rq:=rfl;rw[hk,hd,hfv,hrq]at hQ;have:=hfit hf5;simp[qai,KP,hrow,h4];refine qiC E' _ P.rq (by show P.fields.length<=_;omega) (by show P.trailers.length<=_;omega) ?_;simp[Rq.av,Rq.avs,k1,k2,u1,u2,u3,u4];exact qdq hB (v0:= .tup [P.rq.av,.int .i64 N,.agg [.int .i64 0,.int .i64 0,.int .i64 0],.int .i64 1]) (v:= .tup [P.rq.av,.int .i64 N,.agg [.int .i64 0,.int .i64 0,.int .i64 0],.int .i64 1]) (by simp;omega) (kK _ _) (by simp[Rq.av,Rq.avs,u3,u4]) (qaa _) (by simp[Rq.av,Rq.avs,qcp]) ⟨_,.same _,hQ⟩
  ·have hd:decide (P.state=4)=false:=by simpa using h4
   have h4':(P.state==4)=false:=by simpa using h4
   have hrq:Rq.if false P.rq= .zero:=rfl;rw[hd,hrq]at hQ;by_cases h5:P.state=5
   ·have hk:qds P=2:=by unfold qds;rw[if_neg h4,if_pos h5]
    have hfv:fltV P= .agg [.int .i64 P.fst_,.int .i64 P.ferr,.int .i64 P.fat]:=by unfold fltV;rw[if_pos h5]
    rw[hk,hfv]at hQ;simp[qai,KP,hrow,h5,hS',k1,k2,u1,u2,u3,u4]
    exact qdq hB (v0:= .tup [.agg [.str [],.str [],.int .i64 0,.int .i64 0,.nil,.str [],.nil],.int .i64 N,.agg [.int .i64 P.fst_,.int .i64 P.ferr,.int .i64 P.fat],.int .i64 2]) (v:= .tup [.agg [.str [],.str [],.int .i64 0,.int .i64 0,.nil,.str [],.nil],.int .i64 N,.agg [.int .i64 P.fst_,.int .i64 P.ferr,.int .i64 P.fat],.int .i64 2]) (by simp;omega) (kK _ _) (by simp[u3,u4]) (qaa _) (by simp)
     ⟨.tup [Rq.zero.av,.int .i64 N,.agg [.int .i64 P.fst_,.int .i64 P.ferr,.int .i64 P.fat],.int .i64 2],qe5 (m:=[Rq.zero.av,.int .i64 N,.agg [.int .i64 P.fst_,.int .i64 P.ferr,.int .i64 P.fat],.int .i64 2]) ⟨qe6 (Rq.nil [] [] [] 0 0),.same _,.same _,.same _,trivial⟩,hQ⟩
   ·have hk:qds P=0:=by unfold qds;rw[if_neg h4,if_neg h5]
    have hfv:fltV P= .agg [.int .i64 0,.int .i64 0,.int .i64 0]:=by unfold fltV;rw[if_neg h5]
    have h5':(P.state==5)=false:=by simpa using h5
    rw[hk,hfv]at hQ;simp[qai,KP,hrow,h4',h5',k1,k2,u1,u2,u3,u4]
    exact qdq hB (v0:= .tup [.agg [.str [],.str [],.int .i64 0,.int .i64 0,.nil,.str [],.nil],.int .i64 N,.agg [.int .i64 0,.int .i64 0,.int .i64 0],.int .i64 0]) (v:= .tup [.agg [.str [],.str [],.int .i64 0,.int .i64 0,.nil,.str [],.nil],.int .i64 N,.agg [.int .i64 0,.int .i64 0,.int .i64 0],.int .i64 0]) (by simp;omega) (kK _ _) (by simp[u3,u4]) (qaa _) (by simp)
     ⟨.tup [Rq.zero.av,.int .i64 N,.agg [.int .i64 0,.int .i64 0,.int .i64 0],.int .i64 0],qe5 (m:=[Rq.zero.av,.int .i64 N,.agg [.int .i64 0,.int .i64 0,.int .i64 0],.int .i64 0]) ⟨qe6 (Rq.nil [] [] [] 0 0),.same _,.same _,.same _,trivial⟩,hQ⟩
 ·rw[if_neg h0]at hQ;have h':(chkE a b c d==0)=false:=by simpa using h0
  have h2:(chkE a b c d !=0)=true:=by simpa using h0
  simp[h',h2]
  exact qab hB (v0:= .tup [.agg [.str [],.str [],.int .i64 0,.int .i64 0,.nil,.str [],.nil],.int .i64 0,.agg [.int .i64 0,.int .i64 (chkE a b c d),.int .i64 0],.int .i64 2]) (v:= .tup [.agg [.str [],.str [],.int .i64 0,.int .i64 0,.nil,.str [],.nil],.int .i64 0,.agg [.int .i64 0,.int .i64 (chkE a b c d),.int .i64 0],.int .i64 2]) (by simp) (qaa _) (by simp)
   ⟨.tup [Rq.zero.av,.int .i64 0,.agg [.int .i64 0,.int .i64 (chkE a b c d),.int .i64 0],.int .i64 2],qe5 (m:=[Rq.zero.av,.int .i64 0,.agg [.int .i64 0,.int .i64 (chkE a b c d),.int .i64 0],.int .i64 2]) ⟨qe6 (Rq.nil [] [] [] 0 0),.same _,.same _,.same _,trivial⟩,hQ⟩
end
section
variable {q:Prs}{a b c d:Int}{s:List UInt8}{f i:Nat}{x:UInt8}
end
section
open Go.Lib
variable (E:Env){H:Hp}(Q:AV->Hp->Prop)
end
section
variable (E:Env){H:Hp}(Q:AV->Hp->Prop)
def lfI(l:List Fld)(H:Hp)(fr:List AV)(K:Hp):Prop:=K=H/\∃i:Nat,i<=l.length/\∃x:Nat->AV,fr=[.sl false 2 (flds l),.sl false 2 (flds l),x 2,x 3,x 4,.int .i64 (i:Int),x 6,x 7,x 8,x 9,x 10,x 11,x 12,x 13,x 14,x 15,x 16,x 17,x 18,x 19,x 20,x 21,x 22,x 23,x 24,x 25,x 26,x 27,x 28,x 29,x 30,x 31,x 32,x 33,x 34,x 35,x 36,x 37,x 38,x 39,x 40]
theorem qgz(l:List Fld)(hl:l.length<=1073741824)(hQ:Q (.bool true) H):PC Tryz.prog E 38 [.sl false 2 (flds l),.sl false 2 (flds l)] H Q:=by
 refine qad Tryz.func38 rfl [] [] (by kernel_rfl) (fun hB=>?_);simp[Tryz.ntmps38,Tryz.results38,List.replicate_succ];refine qbd (lfI l H) (fun fr _=>l.length-(ai (aget fr 5)).toNat) ⟨rfl,0,by omega,friz⟩ ?_;rintro fr K ⟨rfl,i,hi,x,rfl⟩;by_cases h:i<l.length
 ·obtain⟨f,hf⟩:∃f,l[i]? =some f:=⟨_,zqD h⟩
  have hat:=qez hf;have w1:IntKind.i64.wrap ((i:Int)+1)=i+1:=wiz;simp[h,hat,w1];exact Klz ⟨rfl,i+1,by omega,friz⟩
 ·simp[h];exact aQz hB (h6:=hQ)
theorem qph(r:Rq)(h1:r.fields.length<=1073741824)(h2:r.trailers.length<=1073741824)(hQ:Q (.bool true) H):PC Tryz.prog E 16 [r.av,r.av] H Q:=by
 refine qad Tryz.func16 rfl [] [] (by kernel_rfl) (fun hB=>?_);simp[Tryz.ntmps16,Tryz.results16,List.replicate_succ,Rq.av,Rq.avs];refine qgz E _ r.fields h1 ?_;simp;refine qgz E _ r.trailers h2 ?_;simp;exact aQy hB (h6:=hQ)
theorem qgw(a b c d:Int)(hQ:Q (limV a b c d) H):PC Tryz.prog E 14 [limV a b c d] H Q:=by
 refine qad Tryz.func14 rfl [] [] (by kernel_rfl) (fun hB=>?_);simp[Tryz.ntmps14,Tryz.results14,List.replicate_succ,limV];exact qab hB (v0:=limV a b c d) (by simp[limV]) (qaa _) (by simp[limV]) hQ
theorem qiB(a b c d:Int)(hQ:Q (.int .i64 (chkE a b c d)) H):PC Tryz.prog E 19 [limV a b c d] H Q:=by
 refine qad Tryz.func19 rfl [] [] (by kernel_rfl) (fun hB=>?_);have fin:∀e,chkE a b c d=e->Q (.int .i64 e) H:=fun e h=>h▸hQ;have bad:¬((1<=a/\a<=65536)/\(2<=b/\b<=1048576)/\(0<=c/\c<=100)/\(0<=d/\d<=1073741824))->Q (.int .i64 115) H:=fun h=>fin 115 (by unfold chkE;rw[if_neg h]);by_cases a1:a<1
 ·simp[Tryz.ntmps19,Tryz.results19,List.replicate_succ,limV,a1];exact qab hB rfl (qaa _) (by simp) (bad (by omega))
 by_cases a2:65536<a
 ·simp[Tryz.ntmps19,Tryz.results19,List.replicate_succ,limV,a1,a2];exact qab hB rfl (qaa _) (by simp) (bad (by omega))
 by_cases b1:b<2
 ·simp[Tryz.ntmps19,Tryz.results19,List.replicate_succ,limV,a1,a2,b1];exact qab hB rfl (qaa _) (by simp) (bad (by omega))
 by_cases b2:1048576<b
 ·simp[Tryz.ntmps19,Tryz.results19,List.replicate_succ,limV,a1,a2,b1,b2];exact qab hB rfl (qaa _) (by simp) (bad (by omega))
 by_cases c1:c<0
 ·simp[Tryz.ntmps19,Tryz.results19,List.replicate_succ,limV,a1,a2,b1,b2,c1];exact qab hB rfl (qaa _) (by simp) (bad (by omega))
 by_cases c2:100<c
 ·simp[Tryz.ntmps19,Tryz.results19,List.replicate_succ,limV,a1,a2,b1,b2,c1,c2];exact qab hB rfl (qaa _) (by simp) (bad (by omega))
 by_cases d1:d<0
 ·simp[Tryz.ntmps19,Tryz.results19,List.replicate_succ,limV,a1,a2,b1,b2,c1,c2,d1];exact qab hB rfl (qaa _) (by simp) (bad (by omega))
 by_cases d2:1073741824<d
 ·simp[Tryz.ntmps19,Tryz.results19,List.replicate_succ,limV,a1,a2,b1,b2,c1,c2,d1,d2];exact qab hB rfl (qaa _) (by simp) (bad (by omega))
 ·simp[Tryz.ntmps19,Tryz.results19,List.replicate_succ,limV,a1,a2,b1,b2,c1,c2,d1,d2];exact qab hB rfl (qaa _) (by simp) (fin 0 (by unfold chkE;rw[if_pos (by omega)]))
def lrI1(r:Rq)(H:Hp)(fr:List AV)(K:Hp):Prop:=∃i:Nat,i<=r.fields.length/\K=H++[r.avs,[.str [],.str [],.int .i64 0,.int .i64 0,.nil,.str [],.nil],[.str r.meth,.str r.targ,.int .i64 r.major,.int .i64 r.minor,.sl true 2 (flds (r.fields.take i)),.str r.body,.sl true 2 (flds [])]]/\
 ∃x:Nat->AV,fr=[x 0,.ptr (some (H.length,0)),.ptr (some (H.length+1,0)),.ptr (some (H.length+2,0)),.int .i64 (i:Int),x 5,x 6,x 7,x 8,x 9,x 10,x 11,x 12,x 13,x 14,x 15,x 16,x 17,x 18,x 19,x 20,x 21,x 22,x 23,x 24,x 25,x 26,x 27,x 28,x 29,x 30,x 31,x 32,x 33,x 34,x 35,x 36,x 37,x 38,x 39,x 40,x 41,x 42,x 43,x 44,x 45,x 46,x 47,x 48,x 49,x 50,x 51,x 52,x 53,x 54,x 55,x 56,x 57,x 58,x 59,x 60,x 61,x 62,x 63,x 64,x 65,x 66,x 67]
def lrI2(r:Rq)(H:Hp)(fr:List AV)(K:Hp):Prop:=∃i:Nat,i<=r.trailers.length/\K=H++[r.avs,[.str [],.str [],.int .i64 0,.int .i64 0,.nil,.str [],.nil],[.str r.meth,.str r.targ,.int .i64 r.major,.int .i64 r.minor,.sl true 2 (flds r.fields),.str r.body,.sl true 2 (flds (r.trailers.take i))]]/\
 ∃x:Nat->AV,fr=[x 0,.ptr (some (H.length,0)),.ptr (some (H.length+1,0)),.ptr (some (H.length+2,0)),x 4,.int .i64 (i:Int),x 6,x 7,x 8,x 9,x 10,x 11,x 12,x 13,x 14,x 15,x 16,x 17,x 18,x 19,x 20,x 21,x 22,x 23,x 24,x 25,x 26,x 27,x 28,x 29,x 30,x 31,x 32,x 33,x 34,x 35,x 36,x 37,x 38,x 39,x 40,x 41,x 42,x 43,x 44,x 45,x 46,x 47,x 48,x 49,x 50,x 51,x 52,x 53,x 54,x 55,x 56,x 57,x 58,x 59,x 60,x 61,x 62,x 63,x 64,x 65,x 66,x 67]
theorem qjg(r:Rq)(h1:r.fields.length<=16777216)(h2:r.trailers.length<=16777216)(hQ:Q r.av H):PC Tryz.prog E 30 [r.av] H Q:=by
 refine qad Tryz.func30 rfl [25,50] [] (by kernel_rfl) (fun hB=>?_);simp[Tryz.ntmps30,Tryz.results30,List.replicate_succ,Rq.av,Rq.avs];refine qon (H.length+2) _ 4 2 (by simp;rfl) (by rfl) ?_;refine qon (H.length+2) _ 6 2 (by simp;rfl) (by rfl) ?_;refine qbd (lrI1 r H) (fun fr _=>r.fields.length-(ai (aget fr 4)).toNat) ⟨0,by omega,by simp[Rq.avs,flds],friz⟩ ?_;rintro fr K ⟨i,hi,rfl,x,rfl⟩;by_cases h:i<r.fields.length
 ·obtain⟨f,hf⟩:∃f,r.fields[i]? =some f:=⟨_,zqD h⟩
  have hat:=qez hf;have w1:IntKind.i64.wrap ((i:Int)+1)=i+1:=wiz;have htk:flds (r.fields.take i)++[[AV.str f.name,AV.str f.value]]=flds (r.fields.take (i+1)):=by rw[qd7,List.take_add_one,hf];rfl
  have hlt:(r.fields.take i).length=i:=by rw[zqJ];omega
  have m1:i+1<=maxLen:=by unfold maxLen;omega
  have m2:(i+1)*32<=140737488355328:=by omega
  have m3:i<=maxLen:=by unfold maxLen;omega
  simp[Rq.avs,h,hat,w1,htk,hlt,m1,m2,m3,-List.length_take];exact Klz ⟨i+1,by omega,by simp[Rq.avs],friz⟩
 ·obtain rfl:i=r.fields.length:=by omega
  rw[List.take_length];simp[Rq.avs];refine qbd (lrI2 r H) (fun fr _=>r.trailers.length-(ai (aget fr 5)).toNat) ⟨0,by omega,by simp[Rq.avs,flds],friz⟩ ?_;rintro fr K ⟨i,hi,rfl,x,rfl⟩;by_cases h:i<r.trailers.length
  ·obtain⟨f,hf⟩:∃f,r.trailers[i]? =some f:=⟨_,zqD h⟩
   have hat:=qez hf;have w1:IntKind.i64.wrap ((i:Int)+1)=i+1:=wiz;have htk:flds (r.trailers.take i)++[[AV.str f.name,AV.str f.value]]=flds (r.trailers.take (i+1)):=by rw[qd7,List.take_add_one,hf];rfl
   have hlt:(r.trailers.take i).length=i:=by rw[zqJ];omega
   have m1:i+1<=maxLen:=by unfold maxLen;omega
   have m2:(i+1)*32<=140737488355328:=by omega
   have m3:i<=maxLen:=by unfold maxLen;omega
   simp[Rq.avs,h,hat,w1,htk,hlt,m1,m2,m3,-List.length_take];exact Klz ⟨i+1,by omega,by simp[Rq.avs],friz⟩
  ·obtain rfl:i=r.trailers.length:=by omega
   rw[List.take_length];simp[Rq.avs];exact qab hB (v0:=r.av) (by simp[Rq.av,Rq.avs]) (qaa _) (by simp[Rq.av,Rq.avs,qcp]) hQ
def awkT:List UInt8:=[71,69,84,32,47,97,32,72,84,84,80,47,49,46,48,13,10,13,10,120]
theorem qpT:(qao (newP 8000 16384 100 1048576) awkT).2=19/\(qao (newP 8000 16384 100 1048576) awkT).1.state=4/\(qao (newP 8000 16384 100 1048576) awkT).1.meth=[71,69,84]/\(qao (newP 8000 16384 100 1048576) awkT).1.targ=[47,97]/\(qao (newP 8000 16384 100 1048576) awkT).1.major=1:=by decide+kernel
theorem qie(hE:PE E)(hQ:Q (.bool true) H):PC Tryz.prog E 15 [] H Q:=by
 refine qad Tryz.func15 rfl [] [] (by kernel_rfl) (fun hB=>?_);simp[Tryz.ntmps15,Tryz.results15,List.replicate_succ];refine qmq E _ ?_;simp;refine qfq E _ hE 8000 16384 100 1048576 awkT (by decide) ?_;obtain⟨g1,g2,g3,g4,g5⟩:=qpT;have hch:chkE 8000 16384 100 1048576=0:=by decide
 have hk:qds (qao (newP 8000 16384 100 1048576) awkT).1=1:=by unfold qds;rw[if_pos g2]
 have hf:fltV (qao (newP 8000 16384 100 1048576) awkT).1= .agg [.int .i64 0,.int .i64 0,.int .i64 0]:=by unfold fltV;rw[if_neg (by omega)]
 unfold qlU;rw[if_pos hch,hk,hf,g1,g2];have hrq:Rq.if (decide ((4:Int)=4)) (qao (newP 8000 16384 100 1048576) awkT).1.rq=(qao (newP 8000 16384 100 1048576) awkT).1.rq:=rfl;rw[hrq];simp[Rq.av,Rq.avs,Prs.rq,g3,g4,g5];exact aQy hB (h6:=hQ)
end
section
variable (E:Env){H:Hp}(Q:AV->Hp->Prop)
end
end Go.Proofs.YtnnhdehmlkkfjaaGreatDoor
namespace Go.Proofs.YtnnhdehmlkkfjaaGreatDoor
open Go Go.RowKit Go.Proofs Go.Deep
def PZ(E:Env):Prop:=PE E/\SZ E
def qe7(W:World):Prop:=∃m:Int,W.cell? ⟨2,0,none⟩=some (.int .i64 m)
theorem qfA{W:World}(h:W.ShapedOpen Tryz.prog):qe7 W:=
 cell_of_shapedOpen_int (zero:= #[.int .i64 0]) (t:=3) h (of_decide_eq_true (by kernel_rfl)) (by kernel_rfl) rfl (by kernel_rfl) (by kernel_rfl) Tryz.underlying3
theorem qpM{f:FuncId}{args:List AV}{cargs:Array Value}{W:World}(hT:Tabs W)(hM:qe7 W)(hsz:cargs.size=args.length)
  (hargs:∀(t:Nat) x u,args[t]? =some x->cargs[t]? =some u->Rel W (fun _=>0) (old W) x u/\Bnd 0 x/\x.free=true)
  (h:∀(E:Env) (Q:AV->Hp->Prop),PZ E->Q (.bool true) []->PC Tryz.prog E f args [] Q):Calls Tryz.prog f cargs W fun e w'=>e= .returned (.bool true)/\Frm (fun _=>False) W w':=by
 obtain⟨m,hm⟩:=hM
 refine qiE (fun b=>b=0\/b=4\/b=1\/b=2)
  (fun b hb=>?_) (old W) (fun _ _ h=>h) hsz hargs
  (fun E Q h0 hf hq=>h E Q ⟨⟨⟨⟨by rw[hf];exact .inl rfl,by rw[h0];exact hT.1⟩,by rw[hf];exact .inr (.inr (.inl rfl)),by rw[h0];exact hT.2.2⟩,⟨by rw[hf];exact .inr (.inr (.inr rfl)),m,by rw[h0];exact hm⟩⟩,⟨by rw[hf];exact .inl rfl,by rw[h0];exact hT.1⟩,by rw[hf];exact .inr (.inl rfl),by rw[h0];exact hT.2.1⟩ hq)
 rcases hb with hb|hb|hb|hb
 ·exact qrs W hT.1 b hb
 ·exact hb▸World.block_lt_of_cell? _ _ hT.2.1
 ·exact hb▸tab_lt hT.2.2
 ·exact hb▸World.block_lt_of_cell? _ _ hm
theorem qi3{W:World}{cs:Array Value}{ks:List AV}(op:Opened W [.int .i64,.int .i64,.int .i64,.int .i64] cs.toList ks):∃a b c d:Int,
  (-9223372036854775808<=a/\a<=9223372036854775807)/\(-9223372036854775808<=b/\b<=9223372036854775807)/\(-9223372036854775808<=c/\c<=9223372036854775807)/\(-9223372036854775808<=d/\d<=9223372036854775807)/\
  Rel W (fun _=>0) (old W) (limV a b c d) (.agg cs)/\Bnd 0 (limV a b c d)/\(limV a b c d).free=true:=by
 match ks,op.len with
 |[y0,y1,y2,y3],_=>
  obtain⟨z0,rfl,w0⟩:=qeY (op.kind 0 _ _ rfl rfl);obtain⟨z1,rfl,w1⟩:=qeY (op.kind 1 _ _ rfl rfl);obtain⟨z2,rfl,w2⟩:=qeY (op.kind 2 _ _ rfl rfl);obtain⟨z3,rfl,w3⟩:=qeY (op.kind 3 _ _ rfl rfl);refine⟨z0,z1,z2,z3,w0,w1,w2,w3,.agg _ _ (by have:=op.clen;simpa using this) (fun x hx=>?_) (fun j x u hx hu=>?_),?_,rfl⟩
  ·simp at hx;rcases hx with rfl|rfl|rfl|rfl<;>exact⟨rfl,rfl⟩
  ·exact(op.rel j x u hx (by simpa using hu)).2.2.1
  ·simp[limV]
theorem qnf(p:Prs):∃x y z:Int,fltV p= .agg [.int .i64 x,.int .i64 y,.int .i64 z]:=by
 unfold fltV;split
 ·exact⟨_,_,_,rfl⟩
 ·exact⟨_,_,_,rfl⟩
theorem qrR(a b c d:Int)(all:List UInt8):(qao (newP a b c d) all).1.anew=newP a b c d:=by
 obtain⟨h1,h2,h3,h4⟩:=qgF all (newP a b c d);unfold Prs.anew;rw[h1,h2,h3,h4];rfl
section
variable (E:Env){H:Hp}(Q:AV->Hp->Prop)
variable {b j:Nat}{p:Prs}
def Szd(p:Prs):Prop:=p.state≠5->fsz p.fields+p.fields.length<=4194304/\p.trailers.length<=4194304
theorem qry{a b c d:Int}(h:chkE a b c d=0)(s:List UInt8)(hs:s.length<=4194304):Szd (qao (newP a b c d) s).1:=fun h5=>qnu h s hs h5
theorem Szd.len(h:Szd p):p.state≠5->p.fields.length<=16777216/\p.trailers.length<=16777216:=fun h5=>by have:=h h5;omega
end
section
variable (E:Env){H:Hp}(Q:AV->Hp->Prop)
end
end Go.Proofs.YtnnhdehmlkkfjaaGreatDoor
namespace Go.Proofs.YtnnhdehmlkkfjaaGreatDoor
open Go Go.Shelf Go.Proofs
def lrenw:Go.Shelf.Ren:=⟨fun|15=>71|20=>103|n=>n,fun|0=>0|3=>3|4=>4|9=>9|21=>21|23=>117|n=>n,fun|n=>n⟩
theorem qmV:Go.Proofs.LaysGw.n15 Tryz.prog lrenw:={
 mixed:=by kernel_rfl
 f15:=lfz Tryz.func71
 f20:=lfz Tryz.func103
 t0:=Tryz.underlying0
 a0:=Tryz.isAgg0
 z0:=Tryz.sizeOf0
 v0:=Tryz.zeroValue0
 i0:=by kernel_rfl
 t3:=Tryz.underlying3
 a3:=Tryz.isAgg3
 z3:=Tryz.sizeOf3
 v3:=Tryz.zeroValue3
 i3:=by kernel_rfl
 t4:=Tryz.underlying4
 a4:=Tryz.isAgg4
 z4:=Tryz.sizeOf4
 v4:=Tryz.zeroValue4
 i4:=by kernel_rfl
 t9:=Tryz.underlying9
 a9:=Tryz.isAgg9
 z9:=Tryz.sizeOf9
 v9:=Tryz.zeroValue9
 i9:=by kernel_rfl
 t21:=Tryz.underlying21
 a21:=Tryz.isAgg21
 z21:=Tryz.sizeOf21
 v21:=Tryz.zeroValue21
 i21:=by kernel_rfl
 t23:=Tryz.underlying117
 a23:=Tryz.isAgg117
 z23:=Tryz.sizeOf117
 v23:=Tryz.zeroValue117
 i23:=by kernel_rfl}
end Go.Proofs.YtnnhdehmlkkfjaaGreatDoor
namespace Go.Proofs.YtnnhdehmlkkfjaaGreatDoor
open Go Go.RowKit Go.Shelf
theorem dN_lo(n b0 b1 b2 b3:Nat)(h:b0<128):Lib.decodeN n b0 b1 b2 b3=(b0,1):=by unfold Lib.decodeN;rw[if_pos h]
theorem dN_hi(n b0 b1 b2 b3:Nat)(h:128<=b0):126<(Lib.decodeN n b0 b1 b2 b3).1:=by
 unfold Lib.decodeN;rw[if_neg (by omega)]
 repeat' split
 all_goals (simp only;omega)
def notL(x:Nat):Bool:=decide (x<33)||decide (126<x)
theorem qkn(s:ByteArray):∀(f pos:Nat),s.size<=pos+f->(Lib.idxFuncFrom notL true s f pos<0↔∀b∈s.data.toList.drop pos,33<=b.toNat/\b.toNat<=126)
 |f,pos,hf=>by
  by_cases hp:pos<s.size
  ·obtain⟨g,rfl⟩:∃g,f=g+1:=⟨f-1,by omega⟩
   have hat:s.data.toList[pos]? =some (s.get! pos):=by
    have h1:pos<s.data.toList.length:=by rw[Array.length_toList];exact hp
    rw[zqD h1];simp[ByteArray.get!,getElem!_pos,hp]
   have hd:=qaA _ _ _ hat;rw[Lib.idxFuncFrom,if_pos hp,Lib.decode_at,hd];by_cases hlo:(s.get! pos).toNat<128
   ·rw[dN_lo _ _ _ _ _ hlo];by_cases hn:notL (s.get! pos).toNat=true
    ·rw[if_pos hn];unfold notL at hn;simp only[Bool.or_eq_true,decide_eq_true_eq]at hn;refine⟨fun h=>by omega,fun h=>?_⟩;have:=h _ (.head _);omega
    ·rw[if_neg hn];have ih:=qkn s g (pos+1) (by omega);unfold notL at hn;simp only[Bool.or_eq_true,decide_eq_true_eq]at hn;rw[ih];refine⟨fun h b hb=>?_,fun h b hb=>h b (.tail _ hb)⟩;rcases List.mem_cons.1 hb with rfl|hb
     ·omega
     ·exact h b hb
   ·have hh:=dN_hi (s.size-pos) (s.get! pos).toNat (s.get! (pos+1)).toNat (s.get! (pos+2)).toNat (s.get! (pos+3)).toNat (by omega);rw[if_pos (by unfold notL;simp;omega)];refine⟨fun h=>by omega,fun h=>?_⟩;have:=h _ (.head _);omega
  ·have h0:s.data.toList.drop pos=[]:=List.drop_eq_nil_of_le (by rw[Array.length_toList];show s.size<=pos;omega);rw[Lib.idxFuncFrom_end _ _ _ _ _ hp,h0];simp
theorem qg9(x:Nat)(hx:x<=1114111)(w:World):Calls Tryz.prog 72 #[encR x] w fun e w'=>e= .returned (.bool (notL x))/\Below w.heap.size w w':=by
 unfold encR notL;by_cases h1:x<33
 ·go_enter Tryz.func72,Tryz.ntmps72
  go_wp2
  go_ret
  exact⟨by simp[h1],Below.refl _ _⟩
 ·by_cases h2:126<x
  ·go_enter Tryz.func72,Tryz.ntmps72
   go_wp2
   go_ret
   exact⟨by simp[h2];omega,Below.refl _ _⟩
  ·go_enter Tryz.func72,Tryz.ntmps72
   go_wp2
   go_ret
   exact⟨by simp[h1,h2];omega,Below.refl _ _⟩
section
variable (E:Env){H:Hp}(Q:AV->Hp->Prop)
theorem qim(l:List UInt8)(hQ:∀z:Int,(z<0↔∀b∈l,33<=b.toNat/\b.toNat<=126)->Q (.int .i64 z) H):PC Tryz.prog E 71 [.str l,.fn 72 []] H Q:=by
 refine⟨by kernel_rfl,fun w β Rd Ow cargs hHR hOw hsz hargs=>?_⟩;obtain⟨u,v,rfl,hu,hv⟩:=args2 hsz (fun t x u hx hu=>(hargs t x u hx hu).1);obtain⟨s,rfl,rfl,hs⟩:=qat hu
 have hv':v= .func (.func 72) #[] #[]:=by
  cases hv with
  |fn _ _ vs hl _ _ _=>
   have:vs= #[]:=Array.eq_empty_of_size_eq_zero (by simpa using hl);rw[this]
 subst hv';have eg:∀args w,(callFunc 72 args).run Tryz.prog w= .ok (.enter 72 args) w:=enters_of Tryz.func72 (by kernel_rfl) rfl;refine(Any.strings_IndexFunc_grows qmV 72 #[] eg notL s w (fun W x hx hb=>qg9 x hx W)).mono ?_;rintro e w' ⟨rfl,hb⟩;have hi:=qkn s s.size 0 (by omega);rw[List.drop_zero]at hi;exact⟨_,_,H,β,_,Ow,rfl,hQ _ hi,qcc hHR (qbh hb) (fun _ _=>False) (fun _ _ h=>h.elim) (.int _ _) (.int _ _) rfl⟩
theorem qm1(l:List UInt8)(hQ:Q (.bool (qew l)) H):PC Tryz.prog E 52 [.str l] H Q:=by
 refine qad Tryz.func52 rfl [] [] (by kernel_rfl) (fun hB=>?_);unfold qew at hQ;by_cases h:l=[]
 ·subst h;simp[Tryz.ntmps52,Tryz.results52,List.replicate_succ];exact aQz hB (h6:=hQ)
 ·have h1:(l !=[])=true:=by simpa using h
  have h2:l.isEmpty=false:=by simpa using h
  rw[h2]at hQ;simp[Tryz.ntmps52,Tryz.results52,List.replicate_succ,h1];refine qim E _ l (fun z hz=>?_)
  have e:decide (z<0)=l.all fun c=>decide (33<=c.toNat)&&decide (c.toNat<=126):=by
   rw[Bool.eq_iff_iff,decide_eq_true_eq,hz,List.all_eq_true];simp
  simp;refine aQz hB (h6:=?_);rw[e];exact hQ
end
end Go.Proofs.YtnnhdehmlkkfjaaGreatDoor
namespace Go.Proofs.YtnnhdehmlkkfjaaGreatDoor
open Go Go.RowKit
structure szQ (r:Rq):Prop where
 m:r.meth.length<=1073741824
 t:r.targ.length<=1073741824
 f:fsz r.fields+r.fields.length<=4194304
 b:r.body.length<=1048576
 tr:fsz r.trailers+r.trailers.length<=1048577
theorem lemax{n:Nat}(h:n<=8589934592):(n<=maxLen)=True:=by unfold maxLen;simp;omega
theorem qgk(l:List Fld):(qbD l).1.length<=fsz l+4*l.length:=by
 unfold qbD
 repeat' split
 all_goals first
  |(simp only[List.length_nil];omega)
  |exact qcH l
theorem qgH(b:List UInt8)(ts:List Fld)(hb:b.length<=1048576)(ht:fsz ts+ts.length<=1048577):(qbI b [] ts).1.length<=1073741824:=by
 unfold qbI
 repeat' split
 ·simp
 ·simp
 ·have hp:(qal b []).flatten=b:=qdx _ b;have h1:=qeC (qal b []) (qfr [] b (by simp)) (by rw[hp];omega);rw[hp]at h1;have h2:=qcH ts;unfold encT;simp only[zqK,zqL,List.length_nil];omega
section
variable (E:Env){H:Hp}(Q:AV->Hp->Prop)
theorem qhX(hE:PZ E)(r:Rq)(hz:szQ r)(hQ:Q (.tup [.str (qa0 r).1,.int .i64 (qa0 r).2]) H):PC Tryz.prog E 35 [r.av] H Q:=by
 refine qad Tryz.func35 rfl [] [(22,[0,0,0,0,0,0,0,0,0,0,0,1])] (by kernel_rfl) (fun hB=>?_);have fin:∀t e,qa0 r=(t,e)->Q (.tup [.str t,.int .i64 e]) H:=fun t e h=>by rw[h]at hQ;exact hQ
 obtain⟨z1,z2,z3,z4,z5⟩:=hz;have hme:qmE r.meth=(tokB r.meth&&decide (r.meth.length<=24)):=rfl;unfold qa0 at fin;clear hQ;simp[Tryz.ntmps35,Tryz.results35,List.replicate_succ,Rq.av,Rq.avs];refine qo6 E _ hE.1.1.1 r.meth (by simp only[cap];omega) ?_;rw[<-hme];cases h1:qmE r.meth with
 |false=>
  rw[h1,if_pos rfl]at fin;simp;exact aQy hB (h6:=(fin [] 110 rfl))
 |true=>
 rw[h1,if_neg (by simp)]at fin;simp;refine qm1 E _ r.targ ?_;cases h2:qew r.targ with
 |false=>
  rw[h2,if_pos rfl]at fin;simp;exact aQy hB (h6:=(fin [] 111 rfl))
 |true=>
 rw[h2,if_neg (by simp)]at fin;by_cases h3:r.major=1;rotate_left
 ·have h3':(r.major==1)=false:=by simpa using h3
  have h3'':(r.major !=1)=true:=by simpa using h3
  rw[if_pos (.inl h3)]at fin;simp[h3',h3''];exact aQy hB (h6:=(fin [] 117 rfl))
 by_cases h4:r.minor=0\/r.minor=1;rotate_left
 ·have h40:(r.minor==0)=false:=by simpa using fun e=>h4 (.inl e)
  have h41:(r.minor==1)=false:=by simpa using fun e=>h4 (.inr e)
  have h40':(r.minor !=0)=true:=by simpa using h40
  have h41':(r.minor !=1)=true:=by simpa using h41
  rw[if_pos (.inr ⟨fun e=>h4 (.inl e),fun e=>h4 (.inr e)⟩)]at fin;simp[h3,h40,h41,h40',h41'];exact aQy hB (h6:=(fin [] 117 rfl))
 rw[if_neg (fun h=>h.elim (fun h=>h h3) (fun h=>h4.elim h.1 h.2))]at fin
 have hmin:r.minor=0\/((r.minor==0)=false/\(r.minor !=0)=true/\r.minor=1):=by
  rcases h4 with h|h
  ·exact .inl h
  ·exact .inr ⟨by rw[h];decide,by rw[h];decide,h⟩
 rcases hmin with hmi|⟨hm0,hm1,hmi⟩
 ·simp[h3,hmi];rw[show decide (r.minor=0)=true from by rw[hmi];rfl]at fin;refine qir E _ _ hE.1.1.1 r.fields (by omega) ?_;have hfl:=qgk r.fields;obtain⟨ft,fe,hfp⟩:∃ft fe,qbD r.fields=(ft,fe):=⟨_,_,rfl⟩
  have hpq:preQ r=r.meth++([32]++(r.targ++([32]++([72,84,84,80,47]++([49,46]++(Go.Lib.itoa 0++([13,10]++(ft++[13,10])))))))):=by unfold preQ;rw[hfp,hmi]
  rw[hfp]at fin hfl⊢;simp only at fin hfl;by_cases h5:fe=0;rotate_left
  ·have h5':(fe==0)=false:=by simpa using h5
   have h5'':(fe !=0)=true:=by simpa using h5
   rw[if_pos h5]at fin;simp[h5',h5''];exact aQy hB (h6:=(fin [] fe rfl))
  subst h5;rw[if_neg (by simp)]at fin;simp[hmi];refine qey E _ _ hE.1.1.1 r.fields _ (by omega) ?_;obtain⟨kd,ln,e0,hFr⟩:∃kd ln e0,qam r.fields true=(kd,ln,e0):=⟨_,_,_,rfl⟩
  rw[hFr]at fin⊢;simp only at fin;by_cases h6:e0=0;rotate_left
  ·have h6':(e0==0)=false:=by simpa using h6
   have h6'':(e0 !=0)=true:=by simpa using h6
   rw[if_pos h6]at fin;simp[h6',h6''];exact aQy hB (h6:=(fin [] e0 rfl))
  subst h6;rw[if_neg (by simp)]at fin;by_cases h7:kd=2
  ·subst h7;rw[if_neg (fun h=>h.1 rfl),if_neg (fun h=>h.1 rfl),if_pos rfl]at fin;simp[];refine PC.argsNil (args':=[.str r.body,.sl false 1 (ints []),.sl false 2 (flds r.trailers)]) ⟨.inl rfl,.inr ⟨rfl,false,1,rfl⟩,.inl rfl,trivial⟩ (by simp) (qiA E _ _ hE.2 r.body [] r.trailers z4 (by simp) z5 (by simp) ?_);have hel:=qgH r.body r.trailers z4 z5;obtain⟨et,ee,hen⟩:∃et ee,qbI r.body [] r.trailers=(et,ee):=⟨_,_,rfl⟩
   rw[hen]at fin hel⊢;simp only at fin hel;by_cases h8:ee=0;rotate_left
   ·have h8':(ee==0)=false:=by simpa using h8
    have h8'':(ee !=0)=true:=by simpa using h8
    rw[if_pos h8]at fin;simp[h8',h8''];exact aQy hB (h6:=(fin [] ee rfl))
   subst h8;rw[if_neg (by simp)]at fin;have hil:=(qfC 0 (by decide) (by decide)).1;simp[]
   iterate 5 (rw[if_pos (by unfold maxLen;(try simp only[zqK,zqL,List.length_nil]);omega)];simp[])
   refine qcC E _ hE.1.1 0 (by omega) (by omega) ?_;simp[KP,qai,qae]
   iterate 5 (rw[if_pos (by unfold maxLen;(try simp only[zqK,zqL,List.length_nil]);omega)];simp[])
   exact qab hB (v0:= .tup [.str (preQ r++et),.int .i64 0]) (v:= .tup [.str (preQ r++et),.int .i64 0]) (by simp[hpq]) (qaa _) (by simp) (fin _ 0 rfl)
  ·rw[if_neg h7]at fin;have h7':(kd==2)=false:=by simpa using h7
   have h7'':(kd !=2)=true:=by simpa using h7
   by_cases h8:(r.body.length:Int)=ln;rotate_left
   ·have h8':((r.body.length:Int)==ln)=false:=by simpa using h8
    have h8'':((r.body.length:Int) !=ln)=true:=by simpa using h8
    rw[if_pos ⟨h7,h8⟩]at fin;simp[h7',h7'',h8',h8''];exact aQy hB (h6:=(fin [] 114 rfl))
   rw[if_neg (fun h=>h.2 h8)]at fin;by_cases h9:r.trailers=[]
   rotate_left
   ·have h9':0<r.trailers.length:=List.length_pos_iff.2 h9;have h9'':(0:Int)<r.trailers.length:=by omega
    rw[if_pos ⟨h7,h9⟩]at fin;simp[h7',h7'',h8,h9',h9''];exact aQy hB (h6:=(fin [] 113 rfl))
   rw[if_neg (fun h=>h.2 h9)]at fin;have h9':r.trailers.length=0:=by rw[h9];rfl
   have hel:r.body.length<=1073741824:=by omega
   simp[h7',h7'',h8,h9,h9'];have hil:=(qfC 0 (by decide) (by decide)).1
   iterate 5 (rw[if_pos (by unfold maxLen;(try simp only[zqK,zqL,List.length_nil]);omega)];simp[])
   refine qcC E _ hE.1.1 0 (by omega) (by omega) ?_;simp[KP,qai,qae]
   iterate 5 (rw[if_pos (by unfold maxLen;(try simp only[zqK,zqL,List.length_nil]);omega)];simp[])
   exact qab hB (v0:= .tup [.str (preQ r++r.body),.int .i64 0]) (v:= .tup [.str (preQ r++r.body),.int .i64 0]) (by simp[hpq]) (qaa _) (by simp) (fin _ 0 rfl)
 ·simp[h3,hm0,hm1,hmi];rw[show decide (r.minor=0)=false from by rw[hmi];rfl]at fin;refine qir E _ _ hE.1.1.1 r.fields (by omega) ?_;have hfl:=qgk r.fields;obtain⟨ft,fe,hfp⟩:∃ft fe,qbD r.fields=(ft,fe):=⟨_,_,rfl⟩
  have hpq:preQ r=r.meth++([32]++(r.targ++([32]++([72,84,84,80,47]++([49,46]++(Go.Lib.itoa 1++([13,10]++(ft++[13,10])))))))):=by unfold preQ;rw[hfp,hmi]
  rw[hfp]at fin hfl⊢;simp only at fin hfl;by_cases h5:fe=0;rotate_left
  ·have h5':(fe==0)=false:=by simpa using h5
   have h5'':(fe !=0)=true:=by simpa using h5
   rw[if_pos h5]at fin;simp[h5',h5''];exact aQy hB (h6:=(fin [] fe rfl))
  subst h5;rw[if_neg (by simp)]at fin;simp[hmi];refine qey E _ _ hE.1.1.1 r.fields _ (by omega) ?_;obtain⟨kd,ln,e0,hFr⟩:∃kd ln e0,qam r.fields false=(kd,ln,e0):=⟨_,_,_,rfl⟩
  rw[hFr]at fin⊢;simp only at fin;by_cases h6:e0=0;rotate_left
  ·have h6':(e0==0)=false:=by simpa using h6
   have h6'':(e0 !=0)=true:=by simpa using h6
   rw[if_pos h6]at fin;simp[h6',h6''];exact aQy hB (h6:=(fin [] e0 rfl))
  subst h6;rw[if_neg (by simp)]at fin;by_cases h7:kd=2
  ·subst h7;rw[if_neg (fun h=>h.1 rfl),if_neg (fun h=>h.1 rfl),if_pos rfl]at fin;simp[];refine PC.argsNil (args':=[.str r.body,.sl false 1 (ints []),.sl false 2 (flds r.trailers)]) ⟨.inl rfl,.inr ⟨rfl,false,1,rfl⟩,.inl rfl,trivial⟩ (by simp) (qiA E _ _ hE.2 r.body [] r.trailers z4 (by simp) z5 (by simp) ?_);have hel:=qgH r.body r.trailers z4 z5;obtain⟨et,ee,hen⟩:∃et ee,qbI r.body [] r.trailers=(et,ee):=⟨_,_,rfl⟩
   rw[hen]at fin hel⊢;simp only at fin hel;by_cases h8:ee=0;rotate_left
   ·have h8':(ee==0)=false:=by simpa using h8
    have h8'':(ee !=0)=true:=by simpa using h8
    rw[if_pos h8]at fin;simp[h8',h8''];exact aQy hB (h6:=(fin [] ee rfl))
   subst h8;rw[if_neg (by simp)]at fin;have hil:=(qfC 1 (by decide) (by decide)).1;simp[]
   iterate 5 (rw[if_pos (by unfold maxLen;(try simp only[zqK,zqL,List.length_nil]);omega)];simp[])
   refine qcC E _ hE.1.1 1 (by omega) (by omega) ?_;simp[KP,qai,qae]
   iterate 5 (rw[if_pos (by unfold maxLen;(try simp only[zqK,zqL,List.length_nil]);omega)];simp[])
   exact qab hB (v0:= .tup [.str (preQ r++et),.int .i64 0]) (v:= .tup [.str (preQ r++et),.int .i64 0]) (by simp[hpq]) (qaa _) (by simp) (fin _ 0 rfl)
  ·rw[if_neg h7]at fin;have h7':(kd==2)=false:=by simpa using h7
   have h7'':(kd !=2)=true:=by simpa using h7
   by_cases h8:(r.body.length:Int)=ln;rotate_left
   ·have h8':((r.body.length:Int)==ln)=false:=by simpa using h8
    have h8'':((r.body.length:Int) !=ln)=true:=by simpa using h8
    rw[if_pos ⟨h7,h8⟩]at fin;simp[h7',h7'',h8',h8''];exact aQy hB (h6:=(fin [] 114 rfl))
   rw[if_neg (fun h=>h.2 h8)]at fin;by_cases h9:r.trailers=[]
   rotate_left
   ·have h9':0<r.trailers.length:=List.length_pos_iff.2 h9;have h9'':(0:Int)<r.trailers.length:=by omega
    rw[if_pos ⟨h7,h9⟩]at fin;simp[h7',h7'',h8,h9',h9''];exact aQy hB (h6:=(fin [] 113 rfl))
   rw[if_neg (fun h=>h.2 h9)]at fin;have h9':r.trailers.length=0:=by rw[h9];rfl
   have hel:r.body.length<=1073741824:=by omega
   simp[h7',h7'',h8,h9,h9'];have hil:=(qfC 1 (by decide) (by decide)).1
   iterate 5 (rw[if_pos (by unfold maxLen;(try simp only[zqK,zqL,List.length_nil]);omega)];simp[])
   refine qcC E _ hE.1.1 1 (by omega) (by omega) ?_;simp[KP,qai,qae]
   iterate 5 (rw[if_pos (by unfold maxLen;(try simp only[zqK,zqL,List.length_nil]);omega)];simp[])
   exact qab hB (v0:= .tup [.str (preQ r++r.body),.int .i64 0]) (v:= .tup [.str (preQ r++r.body),.int .i64 0]) (by simp[hpq]) (qaa _) (by simp) (fin _ 0 rfl)
end
section
variable (E:Env){H:Hp}(Q:AV->Hp->Prop)
end
end Go.Proofs.YtnnhdehmlkkfjaaGreatDoor
namespace Go.Proofs.YtnnhdehmlkkfjaaGreatDoor
open Go Go.RowKit Go.Proofs Go.Deep
structure QOk (W:World) (cs:Array Value) (r:Rq) (b:Nat):Prop where
 rel:Rel W (fun _=>0) (old W) r.av (.agg cs)
 bnd:Bnd 0 r.av
 ma: -9223372036854775808<=r.major/\r.major<=9223372036854775807
 mi: -9223372036854775808<=r.minor/\r.minor<=9223372036854775807
 bulk:r.meth.length+r.targ.length+r.body.length+(fsz r.fields+r.fields.length)+(fsz r.trailers+r.trailers.length)+1<=b
theorem qo8{H:Type}{enc:TypeId×Value->H}{W:World}{spare:Nat->Bool}{held:Bool}{fuel:Nat}{cs:List Value}{x:DataW H×List MemPlace}(h:DataW.trod enc Tryz.prog W 0 spare held fuel 26 cs=some x):
  ∃r:Rq,QOk W ⟨cs⟩ r (Rows.uptoBulk x.1):=by
 obtain⟨xs,n',_,rfl,hcl,hxl,hf⟩:=DataW.trod_struct Tryz.underlying26 h;have e0:Tryz.prog.cellsOf 26=7:=by kernel_rfl
 have es:Tryz.prog.cellsOf 9=1:=by kernel_rfl
 have ei:Tryz.prog.cellsOf 3=1:=by kernel_rfl
 have ef:Tryz.prog.cellsOf 24=1:=by kernel_rfl
 rw[e0]at hcl
 obtain⟨c0,c1,c2,c3,c4,c5,c6,rfl⟩:∃c0 c1 c2 c3 c4 c5 c6,cs=[c0,c1,c2,c3,c4,c5,c6]:=by
  match cs,hcl with
  |[a,b,c,d,e,f,g],_=>exact⟨a,b,c,d,e,f,g,rfl⟩
 obtain⟨y0,y1,y2,y3,y4,y5,y6,rfl⟩:∃y0 y1 y2 y3 y4 y5 y6,xs=[y0,y1,y2,y3,y4,y5,y6]:=by
  match xs,hxl with
  |[a,b,c,d,e,f,g],_=>exact⟨a,b,c,d,e,f,g,rfl⟩
 have h0:=hf 0 _ rfl;have h1:=hf 1 _ rfl;have h2:=hf 2 _ rfl;have h3:=hf 3 _ rfl;have h4:=hf 4 _ rfl;have h5:=hf 5 _ rfl;have h6:=hf 6 _ rfl;simp[es]at h0;simp[es]at h1;simp[ei]at h2;simp[ei]at h3;simp[ef]at h4;simp[es]at h5;simp[ef]at h6;obtain⟨me,hs0,hy0,hm0⟩:=DataW.trod_string Tryz.underlying9 h0;obtain⟨ta,hs1,hy1,hm1⟩:=DataW.trod_string Tryz.underlying9 h1;obtain⟨ma,hs2,hy2,hm2⟩:=DataW.trod_int Tryz.underlying3 h2;obtain⟨mi,hs3,hy3,hm3⟩:=DataW.trod_int Tryz.underlying3 h3;obtain⟨bo4,l4,k4,rows4,q41,q42,_,_,q43,q44,q45,q46⟩:=qgp (ks:=[.str,.str]) 6 Tryz.underlying24 (by kernel_rfl) (by kernel_rfl) (by decide) h4;obtain⟨fs,rfl,ht4⟩:=qdd rows4 q45;obtain⟨bo,hs5,hy5,hm5⟩:=DataW.trod_string Tryz.underlying9 h5;obtain⟨bo6,l6,k6,rows6,q61,q62,_,_,q63,q64,q65,q66⟩:=qgp (ks:=[.str,.str]) 6 Tryz.underlying24 (by kernel_rfl) (by kernel_rfl) (by decide) h6;obtain⟨ts,rfl,ht6⟩:=qdd rows6 q65;simp at hs0 hs1 hs2 hs3 hs5 q41 q61;subst hs0;subst hs1;subst hs2;subst hs3;subst hs5;subst q41;subst q61;have hb0:me.size+1<=Rows.uptoBulk y0.1:=by rw[hy0];simp[Rows.uptoBulk,qac]
 have hb1:ta.size+1<=Rows.uptoBulk y1.1:=by rw[hy1];simp[Rows.uptoBulk,qac]
 have hw2: -9223372036854775808<=ma/\ma<=9223372036854775807:=by simpa[Lit.wf,IntKind.min,IntKind.max,IntKind.signed,IntKind.bits]using hm2
 have hw3: -9223372036854775808<=mi/\mi<=9223372036854775807:=by simpa[Lit.wf,IntKind.min,IntKind.max,IntKind.signed,IntKind.bits]using hm3
 have hb5:bo.size+1<=Rows.uptoBulk y5.1:=by rw[hy5];simp[Rows.uptoBulk,qac]
 simp at q42 q46 q62 q66;refine⟨⟨me.data.toList,ta.data.toList,ma,mi,fs,bo.data.toList,ts⟩,.agg _ _ rfl (fun x hx=>?_) (fun j x u hx hu=>?_),.agg _ (fun x hx=>Rq.bnd _ 0 x hx),hw2,hw3,?_⟩
 ·simp[Rq.avs]at hx;rcases hx with rfl|rfl|rfl|rfl|rfl|rfl|rfl<;>exact⟨rfl,rfl⟩
 ·match j with
  |0=>simp[Rq.avs]at hx hu;subst hx;subst hu;exact .str _ _ rfl hm0
  |1=>simp[Rq.avs]at hx hu;subst hx;subst hu;exact .str _ _ rfl hm1
  |2=>simp[Rq.avs]at hx hu;subst hx;subst hu;exact .int _ _
  |3=>simp[Rq.avs]at hx hu;subst hx;subst hu;exact .int _ _
  |4=>simp[Rq.avs]at hx hu;subst hx;subst hu;exact q43
  |5=>simp[Rq.avs]at hx hu;subst hx;subst hu;exact .str _ _ rfl hm5
  |6=>simp[Rq.avs]at hx hu;subst hx;subst hu;exact q63
  |j+7=>simp[Rq.avs]at hx
 ·simp only[List.map_cons,List.map_nil,Rows.uptoBulk,Rows.uptoBulkAll,qac];omega
section
variable (E:Env){H:Hp}(Q:AV->Hp->Prop)
end
theorem okL_ne{f:Fld}(h:qbu f.name=true):1<=f.name.length:=by
 rcases hf:f.name with _|⟨c,l⟩
 ·rw[hf]at h;exact absurd h (by decide)
 ·simp
theorem qnb:∀l:List Fld,(∀f∈l,qbu f.name=true)->l.length<=fsz l
 |[],_=>Nat.zero_le _
 |f::l,h=>by
  have h1:=okL_ne (h f (.head _));have h2:=qnb l fun g hg=>h g (.tail _ hg);simp only[fsz,zqL];omega
theorem qeo{r:Rq}(h:(qa0 r).2=0){b:Nat}(hb:r.meth.length+r.targ.length+r.body.length+(fsz r.fields+r.fields.length)+(fsz r.trailers+r.trailers.length)<=b)(hb2:b<=1048576):2*(qa0 r).1.length<=5*b+400:=by
 obtain⟨ok,hs⟩:=qhW h;rw[hs]
 have hit:(Go.Lib.itoa r.minor).length=1:=by
  rcases ok.mi with e|e
  ·have:Go.Lib.itoa r.minor=[48]:=by rw[e];exact(qcn 0).trans (qeb (by omega))
   rw[this];rfl
  ·have:Go.Lib.itoa r.minor=[49]:=by rw[e];exact(qcn 1).trans (qeb (by omega))
   rw[this];rfl
 have hf:=qnb r.fields fun f hf=>(ok.f.2 f hf).1;have hfl:=qcH r.fields
 have hpl:(preQ r).length=r.meth.length+r.targ.length+(qas r.fields).length+14:=by
  unfold preQ;rw[ok.f.1];simp only[zqK,zqL,List.length_nil,hit];omega
 rw[zqK,hpl];by_cases h2:(qam r.fields (decide (r.minor=0))).1=2
 ·rw[if_pos h2];have hr:=(ok.ch h2).1;have ht:=qnb r.trailers fun g hg=>by have:=hr g hg;unfold qbv mayB at this;simp only[Bool.and_eq_true]at this;exact this.1.1
  have htl:=qcH r.trailers
  have hc:(qaq (qal r.body [])).length<=r.body.length+15:=by
   unfold qal;split
   ·simp[qaq]
   ·have:=qbG r.body.length (by omega);simp only[qaq,qbj,List.flatMap_cons,List.flatMap_nil,List.append_nil,zqK,zqL,List.length_nil];omega
  unfold encT;simp only[zqK,zqL,List.length_nil];omega
 ·rw[if_neg h2];omega
section
variable (E:Env){H:Hp}(Q:AV->Hp->Prop)
end
end Go.Proofs.YtnnhdehmlkkfjaaGreatDoor
namespace Go.Proofs.YtnnhdehmlkkfjaaGreatDoor
open Go Go.RowKit Go.Proofs
@[irreducible] def put2 (H:Hp) (c:Nat) (a b:List AV):Hp:=(H.set c a).set (c+1) b
@[simp] theorem put2_len (H:Hp) (c:Nat) (a b:List AV):(put2 H c a b).length=H.length:=by unfold put2;simp
section
variable {H:Hp}{c:Nat}(h:c+1<H.length)
include h
end
def qq7(l:List Rep):List (List AV):=l.map Rep.avs
@[simp] theorem qqh (l:List Rep):(qq7 l).length=l.length:=by simp[qq7]
@[simp] theorem bnd_reps' {N:Nat} (l:List Rep):(∀r∈qq7 l,∀x∈r,Bnd N x)=True:=eq_true fun r hr x hx=>by
 obtain⟨y,_,rfl⟩:=List.mem_map.1 hr;exact qrQ y N x hx
section
variable (E:Env)(H:Hp)(Q:AV->Hp->Prop)
variable (c:Nat)(r:RM)(hc:c+1<H.length)
include hc
end
attribute [simp] axsub
@[simp] theorem bnd_strsR {N:Nat} (l:List (List UInt8)):(∀r∈strs l,∀x∈r,Bnd N x)=True:=eq_true fun r hr x hx=>by
 obtain⟨y,_,rfl⟩:=List.mem_map.1 hr;simp at hx;subst hx;exact .str _
section
variable (E:Env)(H:Hp)(Q:AV->Hp->Prop)(c:Nat)(r:RM)(hc:c+1<H.length)
include hc
end
section
variable (E:Env)(H:Hp)(Q:AV->Hp->Prop)(c:Nat)(r:RM)(hc:c+1<H.length)
include hc
end
end Go.Proofs.YtnnhdehmlkkfjaaGreatDoor
namespace Go.Proofs.YtnnhdehmlkkfjaaGreatDoor
open Go Go.RowKit Go.Proofs Go.Deep
end Go.Proofs.YtnnhdehmlkkfjaaGreatDoor
namespace Go.Proofs.YtnnhdehmlkkfjaaGreatDoor
open Go Go.RowKit Go.Proofs
structure Sn where
 r:Resp
 h:Mann
end Go.Proofs.YtnnhdehmlkkfjaaGreatDoor
namespace Go.Proofs.YtnnhdehmlkkfjaaGreatDoor
open Go Go.RowKit Go.Proofs Go.Deep
section
variable {H:Hp}{S x y z w:List AV}{J:Hp}
end
section
variable (E:Env)(H:Hp)(Q:AV->Hp->Prop)
end
section
variable {H:Hp}{x y:List AV}{J:Hp}
end
def Sn.row(x:Sn):List AV:=[.int .i64 x.r.status,.str x.r.reason,.sl false 2 (flds x.r.fields),.str x.r.body,.str x.h.method,.bool false,.bool x.h.old,.bool false,.nil,.nil]
def Sn.raw(x:Sn):List AV:=[.int .i64 x.r.status,.str x.r.reason,.sl false 2 (flds x.r.fields),.str x.r.body,.str x.h.method,.bool x.h.close,.bool x.h.old,.bool x.h.chunked,.sl false 1 (ints x.h.sizes),.sl false 2 (flds x.h.trailers)]
def rowsR(l:List Sn):List (List AV):=l.map Sn.row
def rowsX(l:List Sn):List (List AV):=l.map Sn.raw
@[simp] theorem rowsR_len (l:List Sn):(rowsR l).length=l.length:=List.length_map ..
@[simp] theorem rowsX_len (l:List Sn):(rowsX l).length=l.length:=List.length_map ..
end Go.Proofs.YtnnhdehmlkkfjaaGreatDoor
namespace Go.Proofs.YtnnhdehmlkkfjaaGreatDoor
open Go Go.RowKit Go.Proofs Go.Deep Go.ChangeShapes Go.WideShapes Go.ChangeAt
def Rq.bulk(r:Rq):Nat:=r.meth.length+r.targ.length+r.body.length+(fsz r.fields+r.fields.length)+(fsz r.trailers+r.trailers.length)
def sumB:List Rq->Nat
 |[]=>0
 |r::l=>r.bulk+1+sumB l
def rqs(L:List Rq):List (List AV):=L.map Rq.avs
@[simp] theorem rqs_len (L:List Rq):(rqs L).length=L.length:=by simp[rqs]
theorem rqs_at{L:List Rq}{i:Nat}{r:Rq}(h:L[i]? =some r):lat (rqs L) i=some r.avs:=by simp[lat,rqs,h]
theorem qjX:∀{L:List Rq} {r:Rq},r∈L->r.bulk+1<=sumB L
 |x::L,r,h=>by
  simp only[sumB];rcases List.mem_cons.1 h with rfl|h
  ·omega
  ·have:=qjX h;omega
theorem qgR:∀L:List Rq,L.length<=sumB L
 |[]=>Nat.le_refl _
 |r::L=>by have:=qgR L;simp only[sumB,zqL];omega
theorem Rq.szQ{r:Rq}(h:r.bulk+1<=1048576):Go.Proofs.YtnnhdehmlkkfjaaGreatDoor.szQ r:=by
 unfold Rq.bulk at h;exact⟨by omega,by omega,by omega,by omega,by omega⟩
def qev(q:Prs)(r:Rq):Bool:=decide ((qa0 r).2=0)&&(decide ((qao q (qa0 r).1).1.state=4)&&decide ((qao q (qa0 r).1).2=(qa0 r).1.length))
def kept(q:Prs)(L:List Rq):List Rq:=L.filter (qev q)
def qbC(L:List Rq):List (List UInt8):=L.map fun r=>(qa0 r).1
theorem qmX(q:Prs)(L:List Rq)(i:Nat)(r:Rq)(h:L[i]? =some r):kept q (L.take (i+1))=kept q (L.take i)++if qev q r then [r]else []:=by
 unfold kept;rw[List.take_add_one,h,List.filter_append];congr 1;simp[List.filter_cons]
theorem qgU{q:Prs}:∀L:List Rq,(∀r∈L,r.bulk+1<=1048576)->(qbC (kept q L)).flatten.length<=203*sumB L
 |[],_=>by simp[kept,qbC]
 |r::L,h=>by
  have h1:=qgU (q:=q) L fun g hg=>h g (.tail _ hg);have hr:=h r (.head _);unfold kept at h1⊢;rw[List.filter_cons];simp only[sumB];split
  ·rename_i hk;unfold qev at hk;simp only[Bool.and_eq_true,decide_eq_true_eq]at hk;have:=qeo hk.1 (b:=r.bulk) (Nat.le_refl _) (by omega);simp only[qbC,List.map_cons,List.flatten_cons,zqK]at h1⊢;omega
  ·omega
theorem qmY(q:Prs)(L:List Rq):(kept q L).length<=L.length:=List.length_filter_le _ _
theorem qmZ{a b c d:Int}(hd:0<=d){r:Rq}(hb:r.bulk+1<=1048576)(h:qev (newP a b c d) r=true)(R:List UInt8):
  (qa0 r).2=0/\qao (newP a b c d) ((qa0 r).1++R)=qao (newP a b c d) (qa0 r).1/\(qao (newP a b c d) (qa0 r).1).1.state=4/\(qao (newP a b c d) (qa0 r).1).2=(qa0 r).1.length/\(qao (newP a b c d) (qa0 r).1).1.rq=r:=by
 unfold qev at h;simp only[Bool.and_eq_true,decide_eq_true_eq]at h;obtain⟨h1,h2,h3⟩:=h;unfold Rq.bulk at hb;have hs:=qfL (qa0 r).1 (newP a b c d) (qk8 a b c d);have hnx:=hs.1.2 (.inl h2);refine⟨h1,?_,h2,h3,?_⟩
 ·rw[qbi,qaT R hnx];rfl
 ·rcases qhU h1 a b c d hd (by omega)with h|h
  ·omega
  ·exact h.2.2.2
structure RwS (a b c d:Int) (H K:Hp) (j:Nat):Prop where
 le:H.length+3<=K.length
 keep:∀i,i<H.length->K[i]? =H[i]?
 k2:K[H.length]? =some [.int .i64 a,.int .i64 b,.int .i64 c,.int .i64 d]
 pb:PB K (H.length+2) j (newP a b c d)
 bd:BndH K.length K
theorem RwS.app{a b c d:Int}{H K:Hp}{j:Nat}(h:RwS a b c d H K j)(J:Hp)(hJ:∀l∈J,∀x∈l,Bnd (K++J).length x):RwS a b c d H (K++J) j:=by
 have hl:=h.le;exact⟨by simp;omega,fun i hi=>by rw[zqA (by omega)];exact h.keep i hi,by rw[zqA (by omega)];exact h.k2,h.pb.app J,qcq (qdg h.bd (by simp)) hJ⟩
section
variable (E:Env){H:Hp}(Q:AV->Hp->Prop)
def rwI1(a b c d:Int)(L:List Rq)(H:Hp)(fr:List AV)(K:Hp):Prop:=∃i:Nat,i<=L.length/\RwS a b c d H K 0/\
 ∃x:Nat->AV,fr=[x 0,.sl false 7 (rqs L),.ptr (some (H.length,0)),x 3,x 4,.ptr (some (H.length+2,0)),.int .i64 0,.str (qbC (kept (newP a b c d) (L.take i))).flatten,.sl true 1 (strs (qbC (kept (newP a b c d) (L.take i)))),.int .i64 (i:Int),x 10,x 11,x 12,x 13,x 14,x 15,x 16,x 17,x 18,x 19,x 20,x 21,x 22,x 23,x 24,x 25,x 26,x 27,x 28,x 29,x 30,x 31,x 32,x 33,x 34,x 35,x 36,x 37,x 38,x 39,x 40,x 41,x 42,x 43,x 44,x 45,x 46,x 47,x 48,x 49,x 50,x 51,x 52,x 53,x 54,x 55,x 56,x 57,x 58,x 59,x 60,x 61,x 62,x 63,x 64,x 65,x 66,x 67,x 68,x 69,x 70,x 71,x 72,x 73,x 74,x 75,x 76,x 77,x 78,x 79,x 80,x 81,x 82,x 83,x 84,x 85,x 86,x 87,x 88,x 89,x 90,x 91,x 92,x 93,x 94,x 95,x 96,x 97,x 98,x 99,x 100,x 101,x 102,x 103,x 104,x 105,x 106,x 107,x 108,x 109,x 110,x 111,x 112,x 113,x 114,x 115,x 116,x 117,x 118,x 119,x 120,x 121,x 122,x 123,x 124,x 125,x 126,x 127,x 128,x 129,x 130,x 131,x 132,x 133,x 134,x 135,x 136,x 137,x 138,x 139,x 140,x 141,x 142,x 143,x 144,x 145,x 146,x 147,x 148,x 149,x 150,x 151,x 152,x 153,x 154]
def rwI2(a b c d:Int)(M:List Rq)(H:Hp)(fr:List AV)(K:Hp):Prop:=∃i j:Nat,i<=M.length/\RwS a b c d H K j/\
 ∃x:Nat->AV,fr=[x 0,x 1,.ptr (some (H.length,0)),x 3,x 4,.ptr (some (H.length+2,0)),.int .i64 0,.str (qbC (M.drop i)).flatten,.sl true 1 (strs (qbC M)),x 9,x 10,x 11,x 12,x 13,x 14,x 15,.int .i64 (i:Int),x 17,x 18,x 19,x 20,x 21,x 22,x 23,x 24,x 25,x 26,x 27,x 28,x 29,x 30,x 31,x 32,x 33,x 34,x 35,x 36,x 37,x 38,x 39,x 40,x 41,x 42,x 43,x 44,x 45,x 46,x 47,x 48,x 49,x 50,x 51,x 52,x 53,x 54,x 55,x 56,x 57,x 58,x 59,x 60,x 61,x 62,x 63,x 64,x 65,x 66,x 67,x 68,x 69,x 70,x 71,x 72,x 73,x 74,x 75,x 76,x 77,x 78,x 79,x 80,x 81,x 82,x 83,x 84,x 85,x 86,x 87,x 88,x 89,x 90,x 91,x 92,x 93,x 94,x 95,x 96,x 97,x 98,x 99,x 100,x 101,x 102,x 103,x 104,x 105,x 106,x 107,x 108,x 109,x 110,x 111,x 112,x 113,x 114,x 115,x 116,x 117,x 118,x 119,x 120,x 121,x 122,x 123,x 124,x 125,x 126,x 127,x 128,x 129,x 130,x 131,x 132,x 133,x 134,x 135,x 136,x 137,x 138,x 139,x 140,x 141,x 142,x 143,x 144,x 145,x 146,x 147,x 148,x 149,x 150,x 151,x 152,x 153,x 154]
theorem qrn(hE:PZ E)(a b c d:Int)(L:List Rq)(hL:sumB L<=1048576)(hQ:Q (.bool true) H):PC Tryz.prog E 11 [limV a b c d,.sl false 7 (rqs L)] H Q:=by
 refine qad Tryz.func11 rfl [79] [(22,[9,0,0,2,0,0,0,2]),(29,[0,0,0,0,0,1])] (by kernel_rfl) (fun hB=>?_);have hLl:=qgR L;simp[Tryz.ntmps11,Tryz.results11,List.replicate_succ,limV];refine qmu E _ a b c d (fun h0 hBn=>?_) (fun h0=>?_);rotate_left
 ·have h1:(chkE a b c d==0)=false:=by simpa using h0
  have h2:(chkE a b c d !=0)=true:=by simpa using h0
  simp;refine qie E _ hE.1 ?_;simp;refine qgw E _ a b c d ?_;simp;refine qiB E _ a b c d ?_;simp[h1,h2];exact aQy hB (v:= .bool true) (h6:=hQ)
 obtain⟨_,_,_,hd0,_⟩:=qnM h0;simp[nwH];refine qie E _ hE.1 ?_;simp;refine qgw E _ a b c d ?_;simp;refine qiB E _ a b c d ?_;simp[h0];obtain⟨q,hq⟩:=exz (newP a b c d);refine qbd (rwI1 a b c d L H) (fun fr _=>L.length-(ai (aget fr 9)).toNat) ⟨0,by omega,⟨by simp,fun i hi=>zqA hi,by simp,⟨by simp,fun d hd=>by simp[newP]at hd⟩,?_⟩,qaD (by simp[kept,qbC,strs])⟩ ?_
 ·refine qcq (qdg hB (by simp)) ?_;have hpb:∀z∈(newP a b c d).av (H.length+2) 0,Bnd (H.length+3) z:=Prs.bnd (by omega) (fun d hd=>by simp[newP]at hd);intro l hl x hx;simp only[List.mem_cons,List.not_mem_nil,or_false]at hl;rcases hl with rfl|rfl|rfl
  ·simp at hx;rcases hx with rfl|rfl|rfl|rfl<;>exact .int _ _
  ·simp at hx;rcases hx with rfl|rfl|rfl|rfl<;>exact .int _ _
  ·exact(hpb x hx).mono (by simp)
 have hmem:∀r∈L,r.bulk+1<=1048576:=fun r hr=>Nat.le_trans (qjX hr) hL;rintro fr K ⟨i,hi,hS,x,rfl⟩;have hle:=hS.le;have k2:=hS.k2;by_cases h:i<L.length
 ·obtain⟨r,hr⟩:∃r,L[i]? =some r:=⟨_,zqD h⟩
  have hat:=rqs_at hr;have hrb:=hmem r (zqH hr);have hw:IntKind.i64.wrap ((i:Int)+1)=i+1:=wiz;have hsn:=qmX (newP a b c d) L i r hr;have hln:=qgU (q:=newP a b c d) (L.take i) (fun g hg=>hmem g (List.mem_of_mem_take hg));have hkl:=qmY (newP a b c d) (L.take i);have htl:(L.take i).length=i:=by rw[zqJ];omega
  have hsm:sumB (L.take i)<=1048576:=by
   have:∀(L:List Rq) (i:Nat),sumB (L.take i)<=sumB L:=fun L=>by
    induction L with
    |nil=>intro i;simp
    |cons r L ih=>
     intro i;cases i with
     |zero=>simp[sumB]
     |succ i=>simp only[List.take_succ_cons,sumB];have:=ih i;omega
   exact Nat.le_trans (this L i) hL
  obtain⟨ks,hks⟩:=exz (kept (newP a b c d) (L.take i));rw[hks]at hsn hln hkl⊢;have hsl:(qbC ks).length=ks.length:=by simp[qbC]
  obtain⟨S,hS'⟩:=exz ((qa0 r).1);obtain⟨e,he⟩:=exz ((qa0 r).2);simp[h,hat,Rq.avs];refine qhX E _ hE r (Rq.szQ hrb) ?_;rw[hS',he];by_cases h0e:e=0;rotate_left
  ·have h1:(e==0)=false:=by simpa using h0e
   have hk:qev (newP a b c d) r=false:=by unfold qev;rw[he];simp[h0e]
   rw[hk]at hsn;simp only[if_neg (show ¬false=true by decide),List.append_nil]at hsn;simp[h1,hw];exact Klz ⟨i+1,by omega,hS,by rw[hsn];exact friz⟩
  subst h0e;have hSl:=qeo he (b:=r.bulk) (Nat.le_refl _) (by omega);rw[hS']at hSl;simp[k2];refine qfq E _ hE.1 a b c d S (by omega) ?_;unfold qlU;rw[if_pos h0];obtain⟨P,hP⟩:=exz ((qao (newP a b c d) S).1);obtain⟨N,hN⟩:=exz ((qao (newP a b c d) S).2);have hKR:qev (newP a b c d) r=(decide (P.state=4)&&decide (N=S.length)):=by unfold qev;rw[he,hS',hP,hN];simp
  rw[hP,hN];obtain⟨f1,f2,f3,hfv⟩:=qnf P;obtain⟨R1,hR1⟩:=exz (Rq.if (decide (P.state=4)) P.rq);rw[hfv,hR1]
  have hrows:∀J:Hp,J=[[AV.str R1.meth,.str R1.targ,.int .i64 R1.major,.int .i64 R1.minor,.sl false 2 (flds R1.fields),.str R1.body,.sl false 2 (flds R1.trailers)],[AV.int .i64 f1,.int .i64 f2,.int .i64 f3]]->∀l∈J,∀x∈l,Bnd (K++J).length x:=fun J hJ l hl x hx=>by
   subst hJ;simp only[List.mem_cons,List.not_mem_nil,or_false]at hl;rcases hl with rfl|rfl
   ·exact Rq.bnd R1 _ x hx
   ·simp only[List.mem_cons,List.not_mem_nil,or_false]at hx;rcases hx with rfl|rfl|rfl<;>exact .int _ _
  have hS1:=hS.app _ (hrows _ rfl);by_cases h4:P.state=4;rotate_left
  ·have hk:qev (newP a b c d) r=false:=by rw[hKR];simp[h4]
   rw[hk]at hsn;simp only[if_neg (show ¬false=true by decide),List.append_nil]at hsn
   have hkd:(qds P==1)=false/\(qds P !=1)=true:=by
    unfold qds;rw[if_neg h4];split<;>exact⟨rfl,rfl⟩
   simp[Rq.av,Rq.avs,hkd.1,hkd.2,hw];exact Klz ⟨i+1,by omega,hS1,by rw[hsn];exact friz⟩
  have hk1:qds P=1:=by unfold qds;rw[if_pos h4]
  rw[hk1];by_cases hNS:N=S.length;rotate_left
  ·have hk:qev (newP a b c d) r=false:=by rw[hKR];simp[hNS]
   rw[hk]at hsn;simp only[if_neg (show ¬false=true by decide),List.append_nil]at hsn;have hne:(((N:Nat):Int)==((S.length:Nat):Int))=false:=by rw[beq_eq_false_iff_ne];omega
   have hne2:(((N:Nat):Int) !=((S.length:Nat):Int))=true:=by unfold bne;rw[hne];rfl
   simp[Rq.av,Rq.avs,hne,hne2,hw];exact Klz ⟨i+1,by omega,hS1,by rw[hsn];exact friz⟩
  subst hNS;have hk:qev (newP a b c d) r=true:=by rw[hKR];simp[h4]
  rw[hk]at hsn;simp only[if_true]at hsn;have hsn2:qbC (kept (newP a b c d) (L.take (i+1)))=qbC ks++[S]:=by rw[hsn];simp[qbC,hS']
  have hmx:((qbC ks).flatten.length+S.length<=maxLen)=True:=lemax (by omega);have m1:(qbC ks).length+1<=maxLen:=by unfold maxLen;omega
  have m2:((qbC ks).length+1)*16<=140737488355328:=by omega
  have hss:=qhJ (qbC ks) S;simp[Rq.av,Rq.avs,hmx,m1,m2,hss,qeT,hw,-List.length_flatten];exact Klz ⟨i+1,by omega,hS1,by rw[hsn2];exact friz⟩
 obtain rfl:i=L.length:=by omega
 rw[List.take_length];have hln:=qgU (q:=newP a b c d) L hmem;have hkl:=qmY (newP a b c d) L
 have hkm:∀r∈kept (newP a b c d) L,r.bulk+1<=1048576/\qev (newP a b c d) r=true:=fun r hr=>by
  unfold kept at hr;rw[List.mem_filter]at hr;exact⟨hmem r hr.1,hr.2⟩
 obtain⟨M,hM⟩:=exz (kept (newP a b c d) L);rw[hM]at hln hkl hkm⊢;simp;refine qbd (rwI2 a b c d M H) (fun fr _=>M.length-(ai (aget fr 16)).toNat) ⟨0,0,by omega,hS,friz⟩ ?_;clear hS h k2 hle;rintro fr K ⟨i,j,hi,hS,x,rfl⟩;have hle:=hS.le;have k2:=hS.k2;have hml:(qbC M).length=M.length:=by simp[qbC]
 by_cases h:i<M.length;rotate_left
 ·obtain rfl:i=M.length:=by omega
  rw[List.drop_length];simp[hml,qeT,qbC];refine qhT E _ hS.pb ?_;simp[newP];exact qdq hB (by omega) hS.keep (by simp) (qaa _) (by simp) hQ
 obtain⟨r,hr⟩:∃r,M[i]? =some r:=⟨_,zqD h⟩
 obtain⟨hrb,hrk⟩:=hkm r (zqH hr);obtain⟨S,hS'⟩:=exz ((qa0 r).1);have hsat:(qbC M)[i]? =some S:=by simp[qbC,hr,hS']
 have hat:=qff hsat
 have hdr:(qbC (M.drop i)).flatten=S++(qbC (M.drop (i+1))).flatten:=by
  rw[List.drop_eq_getElem_cons h,(zqC.1 hr).2];simp[qbC,hS']
 have hw:IntKind.i64.wrap ((i:Int)+1)=i+1:=wiz;obtain⟨R,hR⟩:=exz ((qbC (M.drop (i+1))).flatten)
 have hRl:S.length+R.length<=(qbC M).flatten.length:=by
  have e:(qbC M).flatten=(qbC (M.take i)).flatten++(qbC (M.drop i)).flatten:=by
   rw[<-List.flatten_append];congr 1;unfold qbC;rw[<-List.map_append,List.take_append_drop]
  rw[e,hdr,hR];simp only[zqK];omega
 rw[hdr,hR];obtain⟨hp0,hfd,hst,hcn,hrq⟩:=qmZ hd0 hrb hrk R;rw[hS']at hfd hst hcn hrq;have hSl:=qeo hp0 (b:=r.bulk) (Nat.le_refl _) (by omega);rw[hS']at hSl;have hzd:=qry h0 S (by omega);obtain⟨P,hP⟩:=exz ((qao (newP a b c d) S).1);rw[hP]at hst hrq hzd;have hfd2:qao (newP a b c d) (S++R)=(P,S.length):=by rw[hfd];exact Prod.ext hP hcn
 have z3:=(Rq.szQ hrb).f;have z5:=(Rq.szQ hrb).tr;have hlaw:P.anew=newP a b c d:=by rw[<-hP];exact qrR a b c d S
 simp[h,hml,qeT,hat];refine qp4 (fun _=>False) fun E2 hS2 h02 hF2 hp2=>?_;have hE2:=hE.1.env h02 hF2;simp[hS2,hat];refine qj9 E2 _ hS.pb (fun _=>qfy h0) (fun E3 h03 hF3=>qqs E3 (hE2.env h03 hF3)) (S++R) (by rw[hfd2];simp only;omega) (by rw[zqK];omega) (fun j1 K1 hp1 hj1 ho1 hB1=>?_);rw[hfd2]at hp1 hj1⊢;simp only at hp1 hj1⊢;have hl1:=ho1.1;have hoth:∀i,i<K.length->i≠H.length+2->K1[i]? =K[i]? :=fun i h1 h2=>ho1.2 i h1 h2 (fun e=>by simp[newP]at e);have k21:K1[H.length]? =some [.int .i64 a,.int .i64 b,.int .i64 c,.int .i64 d]:=by rw[hoth _ (by omega) (by omega)];exact k2
 have keep1:∀i,i<H.length->K1[i]? =H[i]? :=fun i hi=>by rw[hoth _ (by omega) (by omega)];exact hS.keep i hi
 have hKP:KP 2 E2.S K K1:=⟨hl1,fun i hi=>by rw[hS2]at hi;exact hi.elim⟩
 simp[qai,hKP,hat];refine qhT E2 _ hp1 ?_;simp[hst];have hrqi:Rq.if (decide (P.state=4)) P.rq=r:=by rw[hst,hrq];rfl
 refine qi9 E _ hp1 hzd.len ?_;rw[hrqi,hst];simp[Rq.av,Rq.avs];refine qhX E _ hE r (Rq.szQ hrb) ?_;rw[hS',hp0];simp;refine qo5 E _ (hp1.app _) (fun _ hpb2 hB2=>?_) (fun e=>absurd (.inl hst) e);rw[hlaw]at hpb2 hB2⊢;obtain⟨K3,hK3⟩:∃K3:Hp,(K1++[[AV.str r.meth,.str r.targ,.int .i64 r.major,.int .i64 r.minor,.sl false 2 (flds r.fields),.str r.body,.sl false 2 (flds r.trailers)]]).set (H.length+2) ((newP a b c d).av (H.length+2) j1)=K3:=⟨_,rfl⟩
 rw[hK3]at hpb2 hB2⊢;have hl3:K3.length=K1.length+1:=by rw[<-hK3];simp
 have k23:K3[H.length]? =some [.int .i64 a,.int .i64 b,.int .i64 c,.int .i64 d]:=by rw[<-hK3,zqF (by omega),zqA (by omega)];exact k21
 have kr3:K3[K1.length]? =some [AV.str r.meth,.str r.targ,.int .i64 r.major,.int .i64 r.minor,.sl false 2 (flds r.fields),.str r.body,.sl false 2 (flds r.trailers)]:=by rw[<-hK3,zqF (by omega)];simp
 have hS3:RwS a b c d H K3 j1:=⟨by omega,fun i hi=>by rw[<-hK3,zqF (by omega),zqA (by omega)];exact keep1 i hi,k23,hpb2,by rw[hl3];simpa using hB2⟩
 have gr3:∀J:Hp,(K3++J)[K1.length]? =some [AV.str r.meth,.str r.targ,.int .i64 r.major,.int .i64 r.minor,.sl false 2 (flds r.fields),.str r.body,.sl false 2 (flds r.trailers)]:=fun J=>by rw[zqA (by omega)];exact kr3
 have hS4:=hS3.app [[AV.str r.meth,.str r.targ,.int .i64 r.major,.int .i64 r.minor,.sl false 2 (flds r.fields),.str r.body,.sl false 2 (flds r.trailers)],[AV.int .i64 0,.int .i64 0,.int .i64 0]] (fun l hl x hx=>by
  simp only[List.mem_cons,List.not_mem_nil,or_false]at hl;rcases hl with rfl|rfl
  ·exact Rq.bnd r _ x hx
  ·simp only[List.mem_cons,List.not_mem_nil,or_false]at hx
   rcases hx with rfl|rfl|rfl<;>exact .int _ _)
 simp[k23];refine qfq E _ hE.1 a b c d S (by omega) ?_;unfold qlU;rw[if_pos h0,hP,hcn,hrqi];have hk1:qds P=1:=by unfold qds;rw[if_pos hst]
 have hfv:fltV P= .agg [.int .i64 0,.int .i64 0,.int .i64 0]:=by unfold fltV;rw[if_neg (by omega)]
 rw[hk1,hfv];simp[Rq.av,Rq.avs,gr3];refine qjg E _ r (by omega) (by omega) ?_;simp[qai,KP,qae,Rq.av,Rq.avs];refine qph E _ r (by omega) (by omega) ?_;have hdr2:(S++R).drop S.length=R:=List.drop_left;have hcl:S.length<=S.length+R.length:=by omega
 simp[hat,hw];exact Klz ⟨i+1,j1,by omega,hS4,by rw[hR];exact friz⟩
end
theorem qgQ{H:Type}:∀(L:List Rq) (D:Nat->DataW H),(∀(i:Nat) (z:Rq),L[i]? =some z->z.bulk+1<=Rows.uptoBulk (D i))->sumB L<=Rows.uptoBulkAll ((List.range L.length).map D)
 |[],_,_=>Nat.zero_le _
 |r::L,D,h=>by
  have h1:=qgQ L (fun i=>D (i+1)) (fun i z hz=>h (i+1) z (by simpa using hz));have h0:=h 0 r rfl
  have e:(List.range (r::L).length).map D=D 0::(List.range L.length).map fun i=>D (i+1):=by
   rw[zqL,List.range_succ_eq_map,List.map_cons,List.map_map];rfl
  rw[e];simp only[sumB,Rows.uptoBulkAll];omega
theorem qhR {H : Type} (D : Nat → DataW H) (n m : Nat) (h : n ≤ m) : Rows.uptoBulkAll ((List.range n).map D) ≤ Rows.uptoBulkAll ((List.range m).map D) := by
  induction m with
  | zero => obtain rfl : n = 0 := by omega
            exact Nat.le_refl _
  | succ m ih =>
    rcases Nat.lt_or_ge m n with h1 | h1
    · obtain rfl : n = m + 1 := by omega
      exact Nat.le_refl _
    · have happ : ∀ (a b : List (DataW H)), Rows.uptoBulkAll a ≤ Rows.uptoBulkAll (a ++ b) := fun a b => by
        induction a with
        | nil => exact Nat.zero_le _
        | cons x a ih => simp only [List.cons_append, Rows.uptoBulkAll]; omega
      rw [List.range_succ, List.map_append]
      exact Nat.le_trans (ih h1) (happ _ _)
theorem qmA{H:Type}{enc:TypeId×Value->H}{W:World}{spare:Nat->Bool}{held:Bool}{fuel:Nat}{cs:List Value}{x:DataW H×List MemPlace}(h:DataW.trod enc Tryz.prog W 0 spare held fuel 77 cs=some x):
  ∃(bo:Option Addr) (len cap:Nat) (L:List Rq),cs=[.slice bo len cap]/\sumB L<=Rows.uptoBulk x.1/\Rel W (fun _=>0) (old W) (.sl false 7 (rqs L)) (.slice bo len cap)/\Bnd 0 (.sl false 7 (rqs L))/\L.length<=Rows.uptoBulk x.1:=by
 have ht:=Tryz.underlying77;have hk:Tryz.prog.cellsOf 26=7:=by kernel_rfl
 rcases open_slice ht h with⟨rfl,rfl⟩|⟨a,len,cap,m,n',D,Pl,rfl,hb,hl,hm,hmm,rfl,hi⟩
 ·refine⟨none,0,0,[],rfl,Nat.zero_le _,?_,.sl _ _ _ (fun r hr=>by cases hr),Nat.zero_le _⟩;exact qeW _ [] none 0 0 (fun r hr=>by cases hr) (by omega) rfl (Nat.le_refl _) (Nat.zero_le _) (fun i r hr=>by simp at hr)
 ·have hlm:len<=m:=by rw[hmm];split<;>omega
  obtain⟨L,hrl,hrx⟩:=qjj (n:=len) (p:=fun i (z:Rq)=>∃g o cs',some a=some ⟨g,o,none⟩/\(∀(j:Nat) v,cs'[j]? =some v->W.cell? ⟨g,o+i*7+j,none⟩=some v)/\cs'.length=7/\QOk W ⟨cs'⟩ z (Rows.uptoBulk (D i))) (fun i hi'=>by
   obtain⟨cs',hcs,htr⟩:=hi i (by omega);obtain⟨z,ho⟩:=qo8 htr;obtain⟨_,hcl,hat⟩:=World.cells?_some hcs;obtain⟨cs0,hcs0,_⟩:=hi 0 (by omega);have h00:=World.cells?_some hcs0;have hspot:=World.cell?_spot ((h00.2.2 0 (by omega)).trans (zqD (by have:=h00.2.1;omega)));obtain⟨b,off,spot⟩:=a;obtain rfl:spot=none:=by simpa[Addr.add]using hspot
   refine⟨z,b,off,cs',rfl,fun j v hj=>?_,by omega,ho⟩;have hjl:j<7:=by have:=(zqC.1 hj).1;omega
   have:=hat j (by rw[hk];exact hjl);rw[hk]at this
   rw[<-add_plain,<-add_plain,this];exact hj)
  have hrow:∀(z:Rq) (cs':List Value) (b:Nat),cs'.length=7->QOk W ⟨cs'⟩ z b->∀(j:Nat) y,z.avs[j]? =some y->∃v,cs'[j]? =some v/\y.free=true/\y.one=true/\Rel W (fun _=>0) (old W) y v/\Bnd 0 y:=fun z cs' b hcl ho j y hy=>by
   have hjl:j<cs'.length:=by have h1:=(zqC.1 hy).1;have h2:z.avs.length=7:=rfl;omega
   have hr:=ho.rel;have hb:=ho.bnd;cases hr with
   |agg _ _ _ f0 g0=>
   cases hb with
   |agg _ b0=>
   exact⟨cs'[j],zqD hjl,(f0 y (zqH hy)).1,(f0 y (zqH hy)).2,g0 j y _ hy (by simpa using zqD hjl),b0 y (zqH hy)⟩
  have hsum:sumB L<=Rows.uptoBulkAll ((List.range m).map D):=by
   refine Nat.le_trans (qgQ L D fun i z hz=>?_) (qhR D _ _ (by omega));obtain⟨g,o,cs',_,_,_,ho⟩:=hrx i z hz;exact ho.bulk
  have hfin:sumB L<=Rows.uptoBulkAll ((List.range len).map D):=by
   refine Nat.le_trans (qgQ L D fun i z hz=>?_) (qhR D _ _ (by omega));obtain⟨g,o,cs',_,_,_,ho⟩:=hrx i z hz;exact ho.bulk
  refine⟨some a,len,cap,L,rfl,?_,?_,?_,?_⟩
  ·simp only[Rows.uptoBulk];omega
  ·refine qeW _ (rqs L) _ len cap (fun r hr=>?_) (by omega) (by simpa using hrl) hl hm (fun i r hr=>?_)
   ·obtain⟨z,_,rfl⟩:=List.mem_map.1 hr;rfl
   ·obtain⟨z,hz,rfl⟩:∃z,L[i]? =some z/\z.avs=r:=by simpa[rqs]using hr
    obtain⟨g,o,cs',hb',hc,hcl,ho⟩:=hrx i z hz;refine⟨g,o,hb',fun j y hy=>?_⟩;obtain⟨v,h0,h1,h2,h3,h4⟩:=hrow z cs' _ hcl ho j y hy;exact⟨h1,h2,_,hc j _ h0,h3⟩
  ·refine .sl _ _ _ (fun r hr y hy=>?_);obtain⟨z,hz,rfl⟩:=List.mem_map.1 hr;obtain⟨i,hi'⟩:=List.getElem?_of_mem hz;obtain⟨j,hj⟩:=List.getElem?_of_mem hy;obtain⟨g,o,cs',_,_,hcl,ho⟩:=hrx i z hi';obtain⟨v,h0,h1,h2,h3,h4⟩:=hrow z cs' _ hcl ho j y hj;exact h4
  ·have:=qgR L;simp only[Rows.uptoBulk];omega
theorem qmJ(W:World)(cs:Array Value)(ks:List AV)(op:Opened W [.int .i64,.int .i64,.int .i64,.int .i64] cs.toList ks)(bo:Option Addr)(len cap:Nat)(L:List Rq)(hr:Rel W (fun _=>0) (old W) (.sl false 7 (rqs L)) (.slice bo len cap))(hn:Bnd 0 (.sl false 7 (rqs L)))(hb:sumB L<=1048576)(hT:Tabs W)(hM:qe7 W):
  Calls Tryz.prog 11 #[.agg cs,.slice bo len cap] W fun e w'=>e= .returned (.bool true)/\Frm (fun _=>False) W w':=by
 obtain⟨a,b,c,d,w0,w1,w2,w3,hrl⟩:=qi3 op;refine qpM (args:=[limV a b c d,.sl false 7 (rqs L)]) hT hM rfl (fun t x u hx hu=>?_) (fun E Q hE h=>qrn E Q hE a b c d L hb h)
 match t with
 |0=>simp at hx hu;subst hx;subst hu;exact hrl
 |1=>simp at hx hu;subst hx;subst hu;exact⟨hr,hn,rfl⟩
 |t+2=>simp at hx
end Go.Proofs.YtnnhdehmlkkfjaaGreatDoor
namespace Go.Proofs.YtnnhdehmlkkfjaaGreatDoor
open Go Go.ChangeShapes Go.WideShapes Go.ChangeAt Go.RowKit Go.Deep
theorem qgi : Tryz.prog.globalNamed "turnpike/octet.signs" = some 0 := by kernel_rfl
theorem qme:(Tryz.prog.globals[0]?).map (·.type)=some 140:=by kernel_rfl
theorem qhN{W : World}{rest : List (String × DataW Unit)}(h : laidMet Tryz.prog (("turnpike/octet.signs", Rows.laid_turnpike_octet_signs) :: rest) W) : qgc W := by
 have ht : Lib.TabIs Tryz.prog W "turnpike/octet.signs" .u32 signTab := Lib.tabIs_of_head (rest := rest) qgi qme Tryz.underlying140 Tryz.underlying139 (by kernel_rfl) (by kernel_rfl) h
 intro j z hz;have hj:=(zqC.1 hz).1;have:=ht.cell qgi j hj;rw[List.getD,hz]at this;exact this
theorem qnD : Tryz.prog.globalNamed "math/bits.deBruijn64tab" = some 4 := by kernel_rfl
theorem dbType:(Tryz.prog.globals[4]?).map (·.type)=some 247:=by kernel_rfl
def dbTab:List Int:=[0,1,56,2,57,49,28,3,61,58,42,50,38,29,17,4,62,47,59,36,45,43,51,22,53,39,33,30,24,18,12,5,63,55,48,27,60,41,37,16,46,35,44,21,52,32,23,11,54,26,40,15,34,20,31,10,25,14,19,9,13,8,7,6]
theorem ql3{W : World}{rest : List (String × DataW Unit)}(h : laidMet Tryz.prog (("math/bits.deBruijn64tab", Rows.laid_math_bits_deBruijn64tab) :: rest) W) : Tz W := by
 have ht : Lib.TabIs Tryz.prog W "math/bits.deBruijn64tab" .u8 dbTab := Lib.tabIs_of_head (rest := rest) qnD dbType Tryz.underlying247 Tryz.underlying5 (by kernel_rfl) (by kernel_rfl) h
 exact ht.cell qnD 15 (by decide)
end Go.Proofs.YtnnhdehmlkkfjaaGreatDoor
