/- Part 13 of the texts below the law. -/
import Derived.Test.YtnnhdehmlkkfjaaGreatDoorPe12
import Derived.Shelf.Vars
import Derived.Shelf.Strings.FuncGrows
import Derived.Test.YtnnhdehmlkkfjaaGreatDoorProg
import Derived.KernelRfl
import Derived.Lib.DecodeN
set_option maxRecDepth 100000
set_option maxHeartbeats 16000000
set_option linter.unusedVariables false
set_option linter.unusedSimpArgs false
set_option linter.unusedSectionVars false
namespace Go.Proofs.YtnnhdehmlkkfjaaGreatDoor
open Go Go.RowKit
def okE(e:Int):Prop:=e≠110/\e≠111/\e≠117
def PRs(p:Prs)(s:List UInt8)(q:Prs):Prop:=qao p s=(q,s.length)\/((qao p s).1.nx=none/\(qao p s).1.state=5/\okE (qao p s).1.ferr)
theorem PRs.nil(p:Prs):PRs p [] p:= .inl rfl
theorem PRs.trans{p q r:Prs}{a b:List UInt8}(h1:PRs p a q)(h2:PRs q b r):PRs p (a++b) r:=by
 rcases h1 with h1|⟨h1,h3,h4⟩
 ·rcases h2 with h2|⟨h2,h3,h4⟩
  ·exact .inl (by rw[qbN,h1,h2];simp)
  ·exact .inr (by rw[qbN,h1];exact⟨h2,h3,h4⟩)
 ·exact .inr (by rw[qbN,qbk b h1];exact⟨h1,h3,h4⟩)
theorem PRs.go{p p1:Prs}{m:Md}{c:UInt8}{nx:Option Md}(h:p.nx=some m)(hs:qba p m c= .go p1 nx):PRs p [c] (adv p1 nx):= .inl (by rw[qb5 [] h hs];rfl)
theorem PRs.bad{p p1:Prs}{m:Md}{c:UInt8}{st err at_:Int}(h:p.nx=some m)(hs:qba p m c= .bad p1 st err at_)(he:okE err)(q:Prs):PRs p [c] q:= .inr (by rw[qch [] h hs];exact⟨rfl,rfl,he⟩)
theorem tok1{c:UInt8}:tokB [c]=qai c:=by unfold tokB;simp
theorem qir:∀(l:List UInt8) (p:Prs),p.nx=some .method->(∀b∈l,qai b=true)->p.text.length+l.length<=24->PRs p l {p with text:=p.text++l,used:=p.used+l.length}
 |[],p,hn,_,_=>by simpa using PRs.nil p
 |c::l,p,hn,ht,hl=>by
  simp only[zqL]at hl
  have hs:qba p .method c= .go {p with text:=p.text++[c]} (some .method):=by
   show qbW p c=_;unfold qbW;rw[if_pos (by rw[tok1];exact ht c (.head _)),if_neg (by omega)]
  have:=(PRs.go hn hs).trans (qir l (adv {p with text:=p.text++[c]} (some .method)) rfl (fun b hb=>ht b (.tail _ hb)) (by simp only[adv,zqK,zqL,List.length_nil];omega));simp only[adv,List.singleton_append,List.append_assoc]at this;simp only[zqL,Int.natCast_add,Int.natCast_one];rw[show p.used+((l.length:Int)+1)=p.used+1+l.length by omega,hn];exact this
theorem qh6:∀(l:List UInt8) (p:Prs),p.nx=some .target->(∀b∈l,33<=b.toNat/\b.toNat<=126)->PRs p l {p with text:=p.text++l,used:=p.used+l.length}
 |[],p,hn,_=>by simpa using PRs.nil p
 |c::l,p,hn,ht=>by
  by_cases hl:(p.text.length:Int)=p.lt
  ·have hs:qba p .target c= .bad p 414 112 p.used:=by
    show qb7 p c=_;unfold qb7;rw[if_pos (ht c (.head _)),if_pos hl];rfl
   have h1:=PRs.bad hn hs (by unfold okE;decide) p;rcases h1 with h1|h1
   ·rw[qch [] hn hs]at h1;have:=congrArg (fun x=>x.1.nx) h1;rw[hn]at this;cases this
   ·refine .inr ?_;rw[show c::l=[c]++l from rfl,qbN,qbk l h1.1];exact h1
  ·have hs:qba p .target c= .go {p with text:=p.text++[c]} (some .target):=by
    show qb7 p c=_;unfold qb7;rw[if_pos (ht c (.head _)),if_neg hl]
   have:=(PRs.go hn hs).trans (qh6 l (adv {p with text:=p.text++[c]} (some .target)) rfl (fun b hb=>ht b (.tail _ hb)));simp only[adv,List.singleton_append,List.append_assoc]at this;simp only[zqL,Int.natCast_add,Int.natCast_one];rw[show p.used+((l.length:Int)+1)=p.used+1+l.length by omega,hn];exact this
theorem qcd{p:Prs}{c:UInt8}(hn:p.nx=some .line)(hg:qaM p.text.length c=true)(hl:p.text.length<9):PRs p [c] {p with text:=p.text++[c],used:=p.used+1}:=by
 have hs:qba p .line c= .go {p with text:=p.text++[c]} (some .line):=by
  show qct p c=_;unfold qct;rw[if_neg (by rw[hg];simp),if_pos hl]
 have:=PRs.go hn hs;simp only[adv]at this;rw[hn];exact this
theorem qsF(s:List UInt8):okE (behE s):=by
 unfold behE qcV
 repeat' split
 all_goals (unfold okE;decide)
theorem qqE(s:List UInt8):okE (qbo s).2.2:=by
 unfold qbo
 repeat' split
 all_goals (unfold okE;simp)
theorem qro(m s:List UInt8):okE (tgtE m s):=by
 unfold tgtE
 repeat' split
 all_goals first
  |exact qsF _
  |exact qqE _
  |(unfold okE;decide)
def vTxt(mi:UInt8):List UInt8:=[72,84,84,80,47,49,46,mi,13,10]
theorem qk1(p:Prs)(hn:p.nx=some .line)(ht:p.text=[])(mi:UInt8)(hm:mi=48\/mi=49):PRs p (vTxt mi) {p with nx:=some .fields,text:=[],major:=1,minor:=(mi.toNat:Int)-48,state:=2,begin_:=p.used+10,used:=p.used+10}:=by
 have hd:48<=mi.toNat/\mi.toNat<=57:=by rcases hm with rfl|rfl<;>decide
 have h9:PRs p [72,84,84,80,47,49,46,mi,13] {p with text:=[72,84,84,80,47,49,46,mi,13],used:=p.used+9}:=by
  have r0:=qcd (p:=p) (c:=72) hn (by rw[ht];rfl) (by rw[ht];simp only[List.nil_append,zqL,List.length_nil,List.cons_append];omega);have r1:=qcd (p:={p with text:=p.text++[72],used:=p.used+1}) (c:=84) hn (by rw[ht];rfl) (by rw[ht];simp only[List.nil_append,zqL,List.length_nil,List.cons_append];omega);have r2:=qcd (p:={p with text:=p.text++[72,84],used:=p.used+2}) (c:=84) hn (by rw[ht];rfl) (by rw[ht];simp only[List.nil_append,zqL,List.length_nil,List.cons_append];omega);have r3:=qcd (p:={p with text:=p.text++[72,84,84],used:=p.used+3}) (c:=80) hn (by rw[ht];rfl) (by rw[ht];simp only[List.nil_append,zqL,List.length_nil,List.cons_append];omega);have r4:=qcd (p:={p with text:=p.text++[72,84,84,80],used:=p.used+4}) (c:=47) hn (by rw[ht];rfl) (by rw[ht];simp only[List.nil_append,zqL,List.length_nil,List.cons_append];omega);have r5:=qcd (p:={p with text:=p.text++[72,84,84,80,47],used:=p.used+5}) (c:=49) hn (by rw[ht];rfl) (by rw[ht];simp only[List.nil_append,zqL,List.length_nil,List.cons_append];omega);have r6:=qcd (p:={p with text:=p.text++[72,84,84,80,47,49],used:=p.used+6}) (c:=46) hn (by rw[ht];rfl) (by rw[ht];simp only[List.nil_append,zqL,List.length_nil,List.cons_append];omega);have r7:=qcd (p:={p with text:=p.text++[72,84,84,80,47,49,46],used:=p.used+7}) (c:=mi) hn (by rw[ht];simp only[List.nil_append,zqL,List.length_nil];unfold qaM;simp;omega) (by rw[ht];simp only[List.nil_append,zqL,List.length_nil,List.cons_append];omega);have r8:=qcd (p:={p with text:=p.text++[72,84,84,80,47,49,46,mi],used:=p.used+8}) (c:=13) hn (by rw[ht];rfl) (by rw[ht];simp only[List.nil_append,zqL,List.length_nil,List.cons_append];omega);simp only[List.append_assoc,List.singleton_append,List.cons_append,List.nil_append,Int.add_assoc]at r1 r2 r3 r4 r5 r6 r7 r8;have:=r0.trans (r1.trans (r2.trans (r3.trans (r4.trans (r5.trans (r6.trans (r7.trans r8)))))));rw[ht]at this;exact this
 obtain⟨p9,hp9⟩:∃p9:Prs,{p with text:=[72,84,84,80,47,49,46,mi,13],used:=p.used+9}=p9:=⟨_,rfl⟩
 rw[hp9]at h9;have hn9:p9.nx=some .line:=by rw[<-hp9];exact hn
 have hs:qba p9 .line 10=if tgtE p.meth p.targ≠0 then qaA {p9 with text:=[],major:=1,minor:=(mi.toNat:Int)-48} 400 (tgtE p.meth p.targ)else .go {p9 with text:=[],major:=1,minor:=(mi.toNat:Int)-48,state:=2,begin_:=p9.used+1} (some .fields):=by
  show qct p9 10=_;unfold qct;rw[<-hp9];have e1:(([72,84,84,80,47,49,46,mi,13]:List UInt8).getD 5 0).toNat=49:=rfl;have e2:(([72,84,84,80,47,49,46,mi,13]:List UInt8).getD 7 0)=mi:=rfl;simp only[e1,e2];rw[if_neg (by simp[qaM]),if_neg (by simp),if_neg (by rcases hm with rfl|rfl<;>simp)];rfl
 have hsplit:vTxt mi=[72,84,84,80,47,49,46,mi,13]++[10]:=rfl;by_cases hT:tgtE p.meth p.targ=0
 ·rw[if_neg (by simp[hT])]at hs;have:=h9.trans (PRs.go hn9 hs);rw[<-hsplit]at this;rw[<-hp9]at this;simp only[adv,Int.add_assoc]at this;exact this
 ·rw[if_pos hT]at hs;have hE:okE (tgtE p.meth p.targ):=qro _ _;have:=h9.trans (PRs.bad hn9 hs hE {p with nx:=some .fields,text:=[],major:=1,minor:=(mi.toNat:Int)-48,state:=2,begin_:=p.used+10,used:=p.used+10});rw[<-hsplit]at this;exact this
theorem qkH{p:Prs}{c:UInt8}(hn:p.nx=some .fields)(h1:p.text.getLast? ≠some 13)(hc:c≠10):PRs p [c] {p with head:=p.head+1,text:=p.text++[c],used:=p.used+1}:=by
 by_cases hh:p.head=p.lh
 ·have hs:qba p .fields c= .bad p 431 113 p.used:=by
   show qbg p c=_;unfold qbg;rw[if_pos hh];rfl
  exact PRs.bad hn hs (by unfold okE;decide) _
 ·have hs:qba p .fields c= .go {p with head:=p.head+1,text:=p.text++[c]} (some .fields):=by
   show qbg p c=_;unfold qbg;have e1:(p.text.getLast? ==some 13)=false:=by simpa using h1
   have e2:(c==10)=false:=by simpa using hc
   rw[if_neg hh,if_neg (by rw[e1,e2];simp),if_pos hc]
  have:=PRs.go hn hs;simp only[adv]at this;rw[hn];exact this
theorem qhq:∀(l:List UInt8) (p:Prs),p.nx=some .fields->p.text.getLast? ≠some 13->(∀b∈l,b≠10/\b≠13)->PRs p (l++[13]) {p with head:=p.head+(l.length+1),text:=p.text++l++[13],used:=p.used+(l.length+1)}
 |[],p,hn,h1,_=>by
  have:=qkH (c:=13) hn h1 (by decide);simpa using this
 |c::l,p,hn,h1,h=>by
  obtain⟨h10,h13⟩:=h c (.head _);have a:=qkH hn h1 h10;have b:=qhq l {p with head:=p.head+1,text:=p.text++[c],used:=p.used+1} hn (by simp[h13]) (fun x hx=>h x (.tail _ hx));have:=a.trans b;simp only[List.singleton_append,List.append_assoc,List.cons_append,List.nil_append]at this;simp only[zqL,Int.natCast_add,Int.natCast_one,List.append_assoc,List.cons_append,List.nil_append];rw[show p.used+((l.length:Int)+1+1)=p.used+1+(l.length+1)by omega,show p.head+((l.length:Int)+1+1)=p.head+1+(l.length+1)by omega];exact this
theorem qpU(p:Prs)(l:List UInt8)(ht:p.text=l++[13])(hh:p.head≠p.lh):qbg p 10=if l=[]then qa7 {p with head:=p.head+1,text:=[]}else if(p.fields.length:Int)=p.lf then qaA {p with head:=p.head+1,text:=[]} 431 113
  else if(qaR l).2.2≠0 then .bad {p with head:=p.head+1,text:=[]} 400 (qaR l).2.2 (p.begin_+(qaR l).2.1)
  else .go {p with head:=p.head+1,text:=[],fields:=p.fields++[(qaR l).1],begin_:=p.used+1} (some .fields):=by
 unfold qbg;have e1:p.text.dropLast=l:=by rw[ht];simp
 have e2:(p.text.getLast? ==some 13)=true:=by rw[ht];simp
 rw[if_neg hh,if_neg (by rw[e2];simp),if_neg (by simp),e1]
theorem qnL{f:Fld}(hok:okL f)(p:Prs)(hn:p.nx=some .fields)(ht:p.text=[]):PRs p (qax f++[13,10]) {p with head:=p.head+((qax f).length+2),fields:=p.fields++[f],begin_:=p.used+((qax f).length+2),used:=p.used+((qax f).length+2)}:=by
 have a:=qhq (qax f) p hn (by rw[ht];simp) (qlF hok);rw[ht,List.nil_append]at a;have hsp:qax f++[13,10]=(qax f++[13])++[10]:=by simp
 rw[hsp];refine a.trans ?_;obtain⟨q,hq⟩:∃q:Prs,{p with head:=p.head+((qax f).length+1),text:=qax f++[13],used:=p.used+((qax f).length+1)}=q:=⟨_,rfl⟩
 rw[hq];have hqn:q.nx=some .fields:=by rw[<-hq];exact hn
 have hqt:q.text=qax f++[13]:=by rw[<-hq]
 by_cases hh:q.head=q.lh
 ·have hs:qba q .fields 10= .bad q 431 113 q.used:=by
   show qbg q 10=_;unfold qbg;rw[if_pos hh];rfl
  exact PRs.bad hqn hs (by unfold okE;decide) _
 ·have hs:qba q .fields 10=_:=qpU q (qax f) hqt hh;rw[if_neg qr3,qlE hok]at hs;by_cases hm:(q.fields.length:Int)=q.lf
  ·rw[if_pos hm]at hs;exact PRs.bad hqn hs (by unfold okE;decide) _
  ·rw[if_neg hm,if_neg (by simp)]at hs;have:=PRs.go hqn hs;rw[<-hq]at this⊢;simp only[adv]at this;simp only[ht];rw[show p.head+(((qax f).length:Int)+2)=p.head+((qax f).length+1)+1 by omega,show p.used+(((qax f).length:Int)+2)=p.used+((qax f).length+1)+1 by omega,hn];rw[hn]at this;exact this
theorem qht:∀(ls:List Fld) (p:Prs),p.nx=some .fields->p.text=[]->(∀f∈ls,okL f)->∃h b:Int,PRs p (qav ls) {p with head:=h,fields:=p.fields++ls,begin_:=b,used:=p.used+(qav ls).length}
 |[],p,hn,ht,_=>⟨p.head,p.begin_,by simpa[qav]using PRs.nil p⟩
 |f::ls,p,hn,ht,h=>by
  have a:=qnL (h f (.head _)) p hn ht;obtain⟨hh,b,r⟩:=qht ls {p with head:=p.head+((qax f).length+2),fields:=p.fields++[f],begin_:=p.used+((qax f).length+2),used:=p.used+((qax f).length+2)} hn ht (fun g hg=>h g (.tail _ hg));refine⟨hh,b,?_⟩;have:=a.trans r;simp only[List.append_assoc,List.cons_append,List.nil_append]at this;rw[qlD];simp only[zqK,zqL,Int.natCast_add,Int.natCast_one];rw[show p.used+(((qax f).length:Int)+((qav ls).length+1+1))=p.used+((qax f).length+2)+(qav ls).length by omega];exact this
def tailS(p:Prs):SR:=
 let f:=qaj p.fields (decide (p.minor=0))
 if f.1=2 then .go {p with state:=3,dec:=some (newD p.lb p.lh p.lf)} (some .chunked)
 else if 0<f.2.1 then .go {p with state:=3,left:=f.2.1} (some .counted)
 else qdY {p with state:=3}
theorem qpA(p:Prs)(hf:(qaj p.fields (decide (p.minor=0))).2.2=0):(∃st err a,qa7 p= .bad p st err a/\okE err)\/qa7 p=tailS p:=by
 unfold qa7;dsimp only;rw[if_neg (by rw[hf];decide),if_neg (by rw[hf];decide)]
 have hH:(qd7 p.fields (decide (p.minor=0))).2.2=0\/(qd7 p.fields (decide (p.minor=0))).2.2=69:=by
  unfold qd7
  repeat' split
  all_goals simp
 have hA:∀s,(qbo s).2.2=0\/(qbo s).2.2=52:=fun s=>by
  unfold qbo
  repeat' split
  all_goals simp
 split
 ·exact .inl ⟨_,_,_,rfl,by unfold okE;omega⟩
 ·split
  ·rename_i h;have:=hA (qd7 p.fields (decide (p.minor=0))).1;exact .inl ⟨_,_,_,rfl,by unfold okE;omega⟩
  ·split
   ·exact .inl ⟨_,_,_,rfl,by unfold okE;omega⟩
   ·split
    ·exact .inl ⟨_,_,_,rfl,by unfold okE;omega⟩
    ·exact .inr rfl
def ResD(d:Dec)(s:List UInt8)(e:Dec):Prop:=(qat d s=(e,s.length)/\goD e)\/((qat d s).1.err≠0/\okE (qat d s).1.err)
theorem qdX(d:Dec)(b:List UInt8):∀a:List UInt8,(qat d a).1.err≠0->goD d->qat d (a++b)=qat d a:=fun a=>by
 induction a generalizing d with
 |nil=>intro h hg;exact absurd hg.2 h
 |cons c a ih=>
  intro h hg;rw[List.cons_append,qbU,qbU];rw[qbU]at h;by_cases hs:(feed1 d c).done=true\/(feed1 d c).err≠0
  ·rw[if_pos hs,if_pos hs]
  ·rw[if_neg hs]at h;rw[if_neg hs,if_neg hs,ih _ h ⟨by simpa using fun e=>hs (.inl e),by simpa using fun e=>hs (.inr e)⟩]
theorem ResD.trans{d e g:Dec}{a b:List UInt8}(hd:goD d)(h1:ResD d a e)(h2:ResD e b g):ResD d (a++b) g:=by
 rcases h1 with⟨h1,he⟩|⟨h1,h3⟩
 ·rcases h2 with⟨h2,hg⟩|⟨h2,h3⟩
  ·exact .inl ⟨qbV h1 he h2,hg⟩
  ·exact .inr (by rw[qdD _ _ _ _ h1 he];exact⟨h2,h3⟩)
 ·exact .inr (by rw[qdX d b a h1 hd];exact⟨h1,h3⟩)
theorem ResD.one{d e:Dec}{c:UInt8}(h:feed1 d c=e)(h2:goD e\/(e.err≠0/\okE e.err))(g:Dec)(hg:goD e->g=e):ResD d [c] g:=by
 have:=qc2 h;rcases h2 with h2|h2
 ·rw[hg h2];exact .inl ⟨this,h2⟩
 ·exact .inr (by rw[this];exact h2)
theorem qgP:∀(a:List UInt8) (d:Dec),d.st= .trailer->goD d->(∀b∈a,b≠10)->ResD d a {d with line:=d.line++a,section_:=d.section_+a.length,total:=d.total+a.length}
 |[],d,_,hg,_=> .inl ⟨by simp[qat],by simpa using hg⟩
 |c::a,d,hs,hg,h=>by
  have ih:=qgP a {d with line:=d.line++[c],section_:=d.section_+1,total:=d.total+1,err:=0} hs ⟨hg.1,rfl⟩ (fun b hb=>h b (.tail _ hb))
  have h0:feed1 d c=if d.room<=d.section_ then{d with total:=d.total+1,err:=104}else{d with line:=d.line++[c],section_:=d.section_+1,total:=d.total+1,err:=0}:=by
   unfold feed1 qbR;simp only[hs,qbr];split
   ·simp[hs]
   ·simp[hs,h c (.head _)]
  have h1:ResD d [c] {d with line:=d.line++[c],section_:=d.section_+1,total:=d.total+1,err:=0}:=by
   by_cases hr:(d.room:Int)<=d.section_
   ·rw[if_pos hr]at h0;exact ResD.one h0 (.inr ⟨by simp,by unfold okE;simp⟩) _ (fun e=>absurd e.2 (by simp))
   ·rw[if_neg hr]at h0;exact ResD.one h0 (.inl ⟨hg.1,rfl⟩) _ (fun _=>rfl)
  have:=h1.trans hg ih;simp only[List.singleton_append,List.append_assoc]at this;have he:=hg.2;cases d;simp only at he this⊢;subst he;simpa[Nat.add_assoc,Nat.add_comm 1]using this
theorem qpT(f:Fld)(d:Dec)(hs:d.st= .trailer)(hg:goD d)(hl:d.line=[])(hr:qbj f=true):
  ResD d (qax f++[13,10]) {d with section_:=d.section_+((qax f).length+2),trailers:=d.trailers++[f],total:=d.total+((qax f).length+2)}:=by
 have e1:=qgP (qax f++[13]) d hs hg (fun b hb=>by
  rcases List.mem_append.1 hb with hb|hb
  ·exact qnC f hr b hb
  ·simp at hb;subst hb;decide)
 rw[hl,List.nil_append]at e1;have hsp:qax f++[13,10]=(qax f++[13])++[10]:=by simp
 rw[hsp];refine e1.trans hg ?_;have hne:qax f≠[]:=by unfold qax;simp
 have hmay:mayB f.name=true:=by unfold qbj at hr;simp at hr;exact hr.1
 have e2:feed1 {d with line:=qax f++[13],section_:=d.section_+(qax f++[13]).length,total:=d.total+(qax f++[13]).length} 10=
   if(d.room:Int)<=(d.section_+(qax f++[13]).length:Nat)then{d with line:=qax f++[13],section_:=d.section_+(qax f++[13]).length,total:=d.total+(qax f++[13]).length+1,err:=104}
   else if(d.fields:Int)<=d.trailers.length then{d with line:=[],section_:=d.section_+(qax f++[13]).length+1,total:=d.total+(qax f++[13]).length+1,err:=104}
   else{d with line:=[],section_:=d.section_+(qax f++[13]).length+1,trailers:=d.trailers++[f],total:=d.total+(qax f++[13]).length+1,err:=0}:=by
  unfold feed1 qbR;simp only[hs,qbr];split
  ·simp[hs]
  ·rw[if_neg (by simp),qhy];simp only;rw[if_neg hne];split
   ·simp[hs]
   ·rw[qlG f hr];simp only;rw[if_pos hmay]
    all_goals simp[hs]
 split at e2
 ·exact ResD.one e2 (.inr ⟨by simp,by unfold okE;simp⟩) _ (fun e=>absurd e.2 (by simp))
 ·split at e2
  ·exact ResD.one e2 (.inr ⟨by simp,by unfold okE;simp⟩) _ (fun e=>absurd e.2 (by simp))
  ·refine ResD.one e2 (.inl ⟨hg.1,rfl⟩) _ (fun _=>?_);cases d;have:=hg.2;simp only at this hl;subst hl;subst this;simp;omega
theorem qiF:∀(ts:List Fld) (d:Dec),d.st= .trailer->goD d->d.line=[]->(∀f∈ts,qbj f=true)->
  ResD d (qav ts) {d with section_:=d.section_+(qav ts).length,trailers:=d.trailers++ts,total:=d.total+(qav ts).length}
 |[],d,_,hg,_,_=> .inl ⟨by simp[qav,qat],by simpa[qav]using hg⟩
 |f::ts,d,hs,hg,hl,hr=>by
  have ht:qav (f::ts)=(qax f++[13,10])++qav ts:=by simp[qav]
  have hlen:(qav (f::ts)).length=(qax f).length+2+(qav ts).length:=by rw[ht];simp;omega
  have e1:=qpT f d hs hg hl (hr f (by simp));have e2:=qiF ts {d with section_:=d.section_+((qax f).length+2),trailers:=d.trailers++[f],total:=d.total+((qax f).length+2)} hs hg hl (fun q hq=>hr q (by simp[hq]));have key:=e1.trans hg e2;rw[<-ht]at key;rw[hlen];simpa[Nat.add_assoc]using key
theorem quL(b:List UInt8)(ts:List Fld)(m r f:Int)(hb:b.length<=1099511627776)(hm:0<=m)(hr:∀g∈ts,qbj g=true):
  ((qat (newD m r f) (encT (qan b []) ts)).1.err≠0/\okE (qat (newD m r f) (encT (qan b []) ts)).1.err)\/
  ∃e:Dec,qat (newD m r f) (encT (qan b []) ts)=(e,(encT (qan b []) ts).length)/\e.done=true/\e.err=0/\e.body=b/\e.trailers=ts:=by
 have hg0:goD (newD m r f):=⟨rfl,rfl⟩
 have hA:∃d1:Dec,ResD (newD m r f) (qaq (qan b [])) d1/\d1.st= .size/\goD d1/\d1.line=[]/\d1.body=b/\d1.trailers=[]/\0<=d1.most-d1.body.length:=by
  by_cases hbe:b=[]
  ·subst hbe;exact⟨newD m r f,.inl ⟨by simp[qan,qaq,qat],hg0⟩,rfl,hg0,rfl,rfl,rfl,by simpa[newD]using hm⟩
  ·have hp:qan b []=[b]:=by unfold qan;rw[if_neg hbe]
   rw[hp];by_cases hbig:(b.length:Int)<=m
   ·obtain⟨lf,e1⟩:=qib [b] (newD m r f) rfl hg0 rfl (by simpa using hbe) (by simpa[newD]using hbig) (by simpa using hb);exact⟨_,.inl ⟨e1,⟨rfl,rfl⟩⟩,rfl,⟨rfl,rfl⟩,rfl,by simp[newD],rfl,by simp[newD];omega⟩
   ·refine⟨{newD m r f with body:=b,most:=m+b.length},.inr ?_,rfl,⟨rfl,rfl⟩,rfl,rfl,rfl,by simp[newD];omega⟩;have e2:=qiX b.length (newD m r f) rfl hg0 rfl hb;have e3:=qoL b.length {newD m r f with line:=hexD b.length++[13],total:=(newD m r f).total+(hexD b.length).length+1} rfl rfl hb;rw[if_pos (by show m-(([]:List UInt8).length:Int)<_;simp;omega)]at e3;have key:=qbV e2 ⟨rfl,rfl⟩ (qc2 e3);have hc:qaq [b]=((hexD b.length++[13])++[10])++(b++[13,10]):=by simp[qaq,qbF]
    rw[hc,qdX _ _ _ (by rw[key];simp) hg0,key];exact⟨by simp,by unfold okE;simp⟩
 obtain⟨d1,a1,c1,c2,c3,c4,c8,cm⟩:=hA;have e2:=qiX 0 d1 c1 c2 c3 (by omega);rw[hexD0]at e2;have e3:=qoL 0 {d1 with line:=[48]++[13],total:=d1.total+[(48:UInt8)].length+1} c1 (by rw[hexD0]) (by omega);rw[if_neg (by show ¬(d1.most-d1.body.length<((0:Nat):Int));omega),if_pos rfl]at e3
 generalize hd2:({d1 with line:=[],st:= .trailer,total:=d1.total+[(48:UInt8)].length+1+1,err:=0}:Dec)=d2 at e3
 have b2:d2.st= .trailer/\goD d2/\d2.line=[]/\d2.body=b/\d2.trailers=[]:=by
  subst hd2;exact⟨rfl,⟨c2.1,rfl⟩,rfl,c4,c8⟩
 obtain⟨g1,g2,g3,g4,g7⟩:=b2;have a2:ResD d1 ([48]++[13]++[10]) d2:= .inl ⟨qbV e2 c2 (qc2 e3),g2⟩;have a3:=qiF ts d2 g1 g2 g3 hr
 generalize hd3:({d2 with section_:=d2.section_+(qav ts).length,trailers:=d2.trailers++ts,total:=d2.total+(qav ts).length}:Dec)=d3 at a3
 have b3:d3.st= .trailer/\goD d3/\d3.line=[]/\d3.body=b/\d3.trailers=ts:=by
  subst hd3;exact⟨g1,g2,g3,g4,by simp[g7]⟩
 obtain⟨k1,k2,k3,k4,k6⟩:=b3;have a4:=qgP [13] d3 k1 k2 (by simp);rw[k3,List.nil_append]at a4;have ht:encT (qan b []) ts=(qaq (qan b [])++(([48]++[13]++[10])++(qav ts++[13])))++[10]:=by simp[encT]
 have aa:=a1.trans hg0 (a2.trans c2 (a3.trans g2 a4));rw[ht];rcases aa with⟨aa,hgo⟩|aa
 ·generalize hd4:({d3 with line:=[13],section_:=d3.section_+[(13:UInt8)].length,total:=d3.total+[(13:UInt8)].length}:Dec)=d4 at aa hgo
  have b4:d4.st= .trailer/\d4.line=[13]/\d4.body=b/\d4.trailers=ts:=by
   subst hd4;exact⟨k1,rfl,k4,k6⟩
  obtain⟨q1,q2,q3,q4⟩:=b4
  have e6:feed1 d4 10=if(d4.room:Int)<=d4.section_ then{d4 with total:=d4.total+1,err:=104}else{d4 with line:=[],section_:=d4.section_+1,total:=d4.total+1,done:=true,err:=0}:=by
   unfold feed1 qbR;simp only[q1,qbr];split
   ·simp[q1]
   ·have he:endL (d4.line++[10])=some []:=by rw[q2];exact qhy []
    rw[if_neg (by simp),he];simp[q1]
  have key:=qbV aa hgo (qc2 rfl:qat d4 [10]=(feed1 d4 10,1));rw[key];split at e6
  ·rw[e6];exact .inl ⟨by simp,by unfold okE;simp⟩
  ·rw[e6];exact .inr ⟨_,rfl,rfl,rfl,q3,q4⟩
 ·rw[qdX _ _ _ aa.1 hg0];exact .inl aa
def qke(s:List UInt8):Bool:=tokB s&&decide (s.length<=24)
def qb8(s:List UInt8):Bool:=!s.isEmpty&&s.all fun c=>decide (33<=c.toNat)&&decide (c.toNat<=126)
def preQ(r:Rq):List UInt8:=r.meth++([32]++(r.targ++([32]++([72,84,84,80,47]++([49,46]++(Go.Lib.itoa r.minor++([13,10]++((qbt r.fields).1++[13,10]))))))))
def qbv(r:Rq):List UInt8×Int:=
 if qke r.meth=false then([],110)else if qb8 r.targ=false then([],111)else if r.major≠1\/(r.minor≠0/\r.minor≠1)then([],117)
 else if(qbt r.fields).2≠0 then([],(qbt r.fields).2)
 else if(qaj r.fields (decide (r.minor=0))).2.2≠0 then([],(qaj r.fields (decide (r.minor=0))).2.2)
 else if(qaj r.fields (decide (r.minor=0))).1≠2/\(r.body.length:Int)≠(qaj r.fields (decide (r.minor=0))).2.1 then([],114)
 else if(qaj r.fields (decide (r.minor=0))).1≠2/\r.trailers≠[]then([],113)
 else if(qaj r.fields (decide (r.minor=0))).1=2 then(if(qbh r.body [] r.trailers).2≠0 then([],(qbh r.body [] r.trailers).2)else(preQ r++(qbh r.body [] r.trailers).1,0))
 else(preQ r++r.body,0)
structure OkQ (r:Rq):Prop where
 m:tokB r.meth=true/\r.meth.length<=24
 t:r.targ≠[]/\∀b∈r.targ,33<=b.toNat/\b.toNat<=126
 maj:r.major=1
 mi:r.minor=0\/r.minor=1
 f:(qbt r.fields).1=qav r.fields/\∀f∈r.fields,okL f
 fr:(qaj r.fields (decide (r.minor=0))).2.2=0
 pl:(qaj r.fields (decide (r.minor=0))).1≠2->(r.body.length:Int)=(qaj r.fields (decide (r.minor=0))).2.1/\r.trailers=[]
 ch:(qaj r.fields (decide (r.minor=0))).1=2->(∀g∈r.trailers,qbj g=true)/\(qbh r.body [] r.trailers).1=encT (qan r.body []) r.trailers
theorem qj4{r:Rq}(h:(qbv r).2=0):OkQ r/\(qbv r).1=preQ r++if(qaj r.fields (decide (r.minor=0))).1=2 then encT (qan r.body []) r.trailers else r.body:=by
 unfold qbv at h⊢;by_cases h1:qke r.meth=false
 ·rw[if_pos h1]at h;simp at h
 rw[if_neg h1]at h⊢;by_cases h2:qb8 r.targ=false
 ·rw[if_pos h2]at h;simp at h
 rw[if_neg h2]at h⊢;by_cases h3:r.major≠1\/(r.minor≠0/\r.minor≠1)
 ·rw[if_pos h3]at h;simp at h
 rw[if_neg h3]at h⊢;by_cases h4:(qbt r.fields).2≠0
 ·rw[if_pos h4]at h;exact absurd h h4
 rw[if_neg h4]at h⊢;by_cases h5:(qaj r.fields (decide (r.minor=0))).2.2≠0
 ·rw[if_pos h5]at h;exact absurd h h5
 rw[if_neg h5]at h⊢;by_cases h6:(qaj r.fields (decide (r.minor=0))).1≠2/\(r.body.length:Int)≠(qaj r.fields (decide (r.minor=0))).2.1
 ·rw[if_pos h6]at h;simp at h
 rw[if_neg h6]at h⊢;by_cases h7:(qaj r.fields (decide (r.minor=0))).1≠2/\r.trailers≠[]
 ·rw[if_pos h7]at h;simp at h
 rw[if_neg h7]at h⊢
 have hm:tokB r.meth=true/\r.meth.length<=24:=by
  unfold qke at h1;simpa using h1
 have ht:r.targ≠[]/\∀b∈r.targ,33<=b.toNat/\b.toNat<=126:=by
  unfold qb8 at h2;simpa using h2
 have hp:=qo8 (l:=r.fields) (by simpa using h4);have hpl:(qaj r.fields (decide (r.minor=0))).1≠2->(r.body.length:Int)=(qaj r.fields (decide (r.minor=0))).2.1/\r.trailers=[]:=fun e=>⟨Classical.byContradiction fun n=>h6 ⟨e,n⟩,Classical.byContradiction fun n=>h7 ⟨e,n⟩⟩
 by_cases h8:(qaj r.fields (decide (r.minor=0))).1=2
 ·rw[if_pos h8]at h⊢;by_cases h9:(qbh r.body [] r.trailers).2≠0
  ·rw[if_pos h9]at h;exact absurd h h9
  rw[if_neg h9]at h⊢;obtain⟨_,e2,e3⟩:=qp2 (b:=r.body) (ns:=[]) (ts:=r.trailers) (by simpa using h9);refine⟨⟨hm,ht,by omega,by omega,⟨hp.1,hp.2.2⟩,by simpa using h5,hpl,fun _=>⟨e2,e3⟩⟩,?_⟩;rw[if_pos h8,e3]
 ·rw[if_neg h8]at h⊢;refine⟨⟨hm,ht,by omega,by omega,⟨hp.1,hp.2.2⟩,by simpa using h5,hpl,fun e=>absurd e h8⟩,?_⟩;rw[if_neg h8]
structure Iv (lt lh lf lb:Int) (P:Prs) (m:Md) (meth targ:List UInt8) (maj mi:Int) (fs:List Fld):Prop where
 nx:P.nx=some m
 text:P.text=[]
 lt_:P.lt=lt
 lh_:P.lh=lh
 lf_:P.lf=lf
 lb_:P.lb=lb
 meth_:P.meth=meth
 targ_:P.targ=targ
 maj_:P.major=maj
 mi_:P.minor=mi
 fs_:P.fields=fs
 tr:P.trailers=[]
 rb:P.rbody=[]
 bd:P.body=[]
section
variable {lt lh lf lb:Int}
theorem pr1{m:List UInt8}(h1:tokB m=true)(h2:m.length<=24):∃P,PRs (newP lt lh lf lb) (m++[32]) P/\Iv lt lh lf lb P .target m [] 0 0 []:=by
 obtain⟨c0,m0,rfl⟩:∃c r,m=c::r:=by
  cases m with
  |nil=>simp[tokB]at h1
  |cons c m=>exact⟨c,m,rfl⟩
 have hsig:∀b∈c0::m0,qai b=true:=by
  unfold tokB at h1;simp at h1⊢;exact h1
 simp only[zqL]at h2;have hc13:c0≠13:=(qeR (hsig c0 (.head _))).1
 have s1:qba (newP lt lh lf lb) .start c0= .go {newP lt lh lf lb with state:=1,text:=[c0]} (some .method):=by
  show qdq (newP lt lh lf lb) c0=_;unfold qdq qbW;rw[if_neg hc13,if_pos (by rw[tok1];exact hsig c0 (.head _)),if_neg (by simp[newP])];rfl
 have r1:=PRs.go (p:=newP lt lh lf lb) rfl s1;have r2:=qir m0 (adv {newP lt lh lf lb with state:=1,text:=[c0]} (some .method)) rfl (fun b hb=>hsig b (.tail _ hb)) (by simp only[adv,zqL,List.length_nil];omega);have r12:=r1.trans r2;obtain⟨P2,hP2⟩:=exz (({adv {newP lt lh lf lb with state:=1,text:=[c0]} (some .method)with text:=(adv {newP lt lh lf lb with state:=1,text:=[c0]} (some .method)).text++m0,used:=(adv {newP lt lh lf lb with state:=1,text:=[c0]} (some .method)).used+m0.length}:Prs));rw[hP2]at r12;have a1:P2.nx=some .method:=by rw[<-hP2];rfl
 have a2:P2.text=c0::m0:=by rw[<-hP2];rfl
 have s3:qba P2 .method 32= .go {P2 with meth:=c0::m0,text:=[]} (some .target):=by
  show qbW P2 32=_;unfold qbW;rw[if_neg (by rw[tok1];decide),if_pos ⟨rfl,by rw[a2];simp⟩,a2]
 have r:=r12.trans (PRs.go a1 s3);refine⟨_,r,?_⟩;rw[<-hP2];exact⟨rfl,rfl,rfl,rfl,rfl,rfl,rfl,rfl,rfl,rfl,rfl,rfl,rfl,rfl⟩
theorem pr2{P:Prs}{m t:List UInt8}(h:Iv lt lh lf lb P .target m [] 0 0 [])(h1:t≠[])(h2:∀b∈t,33<=b.toNat/\b.toNat<=126):∃P',PRs P (t++[32]) P'/\Iv lt lh lf lb P' .line m t 0 0 []:=by
 have r4:=qh6 t P h.nx h2;obtain⟨P4,hP4⟩:=exz (({P with text:=P.text++t,used:=P.used+t.length}:Prs));rw[hP4]at r4;have a1:P4.nx=some .target:=by rw[<-hP4];exact h.nx
 have a2:P4.text=t:=by rw[<-hP4];show P.text++t=t;rw[h.text];rfl
 have s5:qba P4 .target 32= .go {P4 with targ:=t,text:=[]} (some .line):=by
  show qb7 P4 32=_;unfold qb7;rw[if_neg (by decide),if_pos ⟨rfl,by rw[a2];exact h1⟩,a2]
 refine⟨_,r4.trans (PRs.go a1 s5),?_⟩;rw[<-hP4];exact⟨rfl,rfl,h.lt_,h.lh_,h.lf_,h.lb_,h.meth_,rfl,h.maj_,h.mi_,h.fs_,h.tr,h.rb,h.bd⟩
theorem pr3{P:Prs}{m t:List UInt8}(h:Iv lt lh lf lb P .line m t 0 0 []){c:UInt8}(hm:c=48\/c=49):∃P',PRs P (vTxt c) P'/\Iv lt lh lf lb P' .fields m t 1 ((c.toNat:Int)-48) []:=
 ⟨_,qk1 P h.nx h.text c hm,rfl,rfl,h.lt_,h.lh_,h.lf_,h.lb_,h.meth_,h.targ_,rfl,rfl,h.fs_,h.tr,h.rb,h.bd⟩
theorem pr4{P:Prs}{m t:List UInt8}{mi:Int}{fs:List Fld}(h:Iv lt lh lf lb P .fields m t 1 mi [])(hf:∀f∈fs,okL f):∃P',PRs P (qav fs++[13]) P'/\P'.text=[13]/\Iv lt lh lf lb {P' with text:=[]} .fields m t 1 mi fs:=by
 obtain⟨hh,bb,r7⟩:=qht fs P h.nx h.text hf;have r8:=qhq [] {P with head:=hh,fields:=P.fields++fs,begin_:=bb,used:=P.used+(qav fs).length} h.nx (by show P.text.getLast? ≠some 13;rw[h.text];simp) (by simp);refine⟨_,r7.trans r8,?_,h.nx,rfl,h.lt_,h.lh_,h.lf_,h.lb_,h.meth_,h.targ_,h.maj_,h.mi_,?_,h.tr,h.rb,h.bd⟩
 ·show P.text++[]++[13]=[13]
  rw[h.text];rfl
 ·show P.fields++fs=fs;rw[h.fs_];rfl
end
def EndQ(p:Prs)(s:List UInt8)(r:Rq):Prop:=
 ((qao p s).1.nx=none/\(qao p s).1.state=5/\okE (qao p s).1.ferr)\/((qao p s).1.nx=none/\(qao p s).2=s.length/\(qao p s).1.state=4/\(qao p s).1.rq=r)
theorem EndQ.behind{p q:Prs}{a b:List UInt8}{r:Rq}(h1:PRs p a q)(h2:EndQ q b r):EndQ p (a++b) r:=by
 unfold EndQ;rcases h1 with h1|⟨r1,r2,r3⟩
 ·rw[qbN,h1];rcases h2 with h2|⟨k1,k2,k3,k4⟩
  ·exact .inl h2
  ·exact .inr ⟨k1,by simp only[k2,zqK],k3,k4⟩
 ·rw[qbN,qbk b r1];exact .inl ⟨r1,r2,r3⟩
theorem pr5{lt lh lf lb:Int}{P:Prs}{r:Rq}(ok:OkQ r)(ht:P.text=[13])(h:Iv lt lh lf lb {P with text:=[]} .fields r.meth r.targ 1 r.minor r.fields)(hlb:0<=lb)(hb:r.body.length<=1099511627776):
  EndQ P ([10]++if(qaj r.fields (decide (r.minor=0))).1=2 then encT (qan r.body []) r.trailers else r.body) r:=by
 obtain⟨a1,_,a3,a4,a5,a6,a11,a12,a13,a14,a7,a8,a9,a10⟩:=h;simp only at a1 a3 a4 a5 a6 a7 a8 a9 a10 a11 a12 a13 a14;have hfr:=ok.fr;unfold EndQ;by_cases hhd:P.head=P.lh
 ·have sx:qba P .fields 10= .bad P 431 113 P.used:=by
   show qbg P 10=_;unfold qbg;rw[if_pos hhd];rfl
  rw[List.singleton_append,qch _ a1 sx];exact .inl ⟨rfl,rfl,by unfold okE;simp[SR.prs]⟩
 have sx:qba P .fields 10=_:=qpU P [] ht hhd;rw[if_pos rfl]at sx;obtain⟨P9,hP9⟩:=exz (({P with head:=P.head+1,text:=[]}:Prs));rw[hP9]at sx;have b4:P9.lh=lh:=by rw[<-hP9];exact a4
 have b5:P9.lf=lf:=by rw[<-hP9];exact a5
 have b6:P9.lb=lb:=by rw[<-hP9];exact a6
 have b7:P9.fields=r.fields:=by rw[<-hP9];exact a7
 have b8:P9.trailers=[]:=by rw[<-hP9];exact a8
 have b10:P9.body=[]:=by rw[<-hP9];exact a10
 have b11:P9.meth=r.meth:=by rw[<-hP9];exact a11
 have b12:P9.targ=r.targ:=by rw[<-hP9];exact a12
 have b13:P9.major=1:=by rw[<-hP9];exact a13
 have b14:P9.minor=r.minor:=by rw[<-hP9];exact a14
 have hrq:∀q:Prs,q.meth=P9.meth->q.targ=P9.targ->q.major=P9.major->q.minor=P9.minor->q.fields=P9.fields->q.rbody=r.body->q.trailers=r.trailers->q.rq=r:=fun q e1 e2 e3 e4 e5 e6 e7=>by
  unfold Prs.rq;rw[e1,e2,e3,e4,e5,e6,e7,b11,b12,b13,b14,b7,<-ok.maj]
 rw[List.singleton_append];rcases qpA P9 (by rw[b7,b14];exact hfr)with⟨st,err,at_,hb9,hE⟩|hb9
 ·rw[hb9]at sx;rw[qch _ a1 sx];exact .inl ⟨rfl,rfl,hE⟩
 rw[hb9]at sx;unfold tailS at sx;have eF:qaj P9.fields (decide (P9.minor=0))=qaj r.fields (decide (r.minor=0)):=by rw[b7,b14]
 have eD:newD P9.lb P9.lh P9.lf=newD lb lh lf:=by rw[b4,b5,b6]
 rw[eF,eD]at sx;dsimp only at sx;by_cases h2:(qaj r.fields (decide (r.minor=0))).1=2
 ·rw[if_pos h2]at sx⊢;rw[qb5 _ a1 sx];have key:=qf3 (encT (qan r.body []) r.trailers) (adv {P9 with state:=3,dec:=some (newD lb lh lf)} (some .chunked)) (newD lb lh lf) rfl rfl ⟨rfl,rfl⟩;rcases quL r.body r.trailers lb lh lf hb hlb (ok.ch h2).1 with⟨e1,e2⟩|⟨e,e1,e2,e3,e4,e5⟩
  ·rw[key.1 e1];exact .inl ⟨rfl,rfl,e2⟩
  ·rw[e1]at key;rw[key.2.1 e3 e2];exact .inr ⟨rfl,by simp only[zqL],rfl,hrq _ rfl rfl rfl rfl rfl e4 e5⟩
 ·rw[if_neg h2]at sx⊢;obtain⟨p1,p2⟩:=ok.pl h2;by_cases hpos:0<(qaj r.fields (decide (r.minor=0))).2.1
  ·rw[if_pos hpos]at sx;rw[qb5 _ a1 sx];have key:=(qdc r.body (adv {P9 with state:=3,left:=(qaj r.fields (decide (r.minor=0))).2.1} (some .counted)) rfl hpos).2 (by show(qaj r.fields (decide (r.minor=0))).2.1<=_;omega);rw[key];have hl:(qaj r.fields (decide (r.minor=0))).2.1.toNat=r.body.length:=by omega
   refine .inr ⟨rfl,?_,rfl,hrq _ rfl rfl rfl rfl rfl ?_ ?_⟩
   ·show(qaj r.fields (decide (r.minor=0))).2.1.toNat+1=_;rw[hl];rfl
   ·show P9.body++r.body.take (qaj r.fields (decide (r.minor=0))).2.1.toNat=r.body;rw[hl,b10,List.take_length];rfl
   ·show P9.trailers=r.trailers;rw[b8,p2]
  ·rw[if_neg hpos]at sx;have hb0:r.body=[]:=List.length_eq_zero_iff.1 (by omega);rw[hb0];unfold qdY at sx;rw[qb5 _ a1 sx,qhu];refine .inr ⟨rfl,rfl,rfl,hrq _ rfl rfl rfl rfl rfl ?_ ?_⟩
   ·show P9.body=r.body;rw[b10,hb0]
   ·show P9.trailers=r.trailers;rw[b8,p2]
theorem qj2{r:Rq}(h:(qbv r).2=0)(lt lh lf lb:Int)(hlb:0<=lb)(hb:r.body.length<=1099511627776):EndQ (newP lt lh lf lb) (qbv r).1 r:=by
 obtain⟨ok,hs⟩:=qj4 h
 obtain⟨mi,hmi,hmn,hit⟩:∃mi:UInt8,(mi=48\/mi=49)/\(mi.toNat:Int)-48=r.minor/\Go.Lib.itoa r.minor=[mi]:=by
  rcases ok.mi with e|e
  ·exact⟨48,.inl rfl,by rw[e];rfl,by rw[e];exact(qc9 0).trans (qen (by omega))⟩
  ·exact⟨49,.inr rfl,by rw[e];rfl,by rw[e];exact(qc9 1).trans (qen (by omega))⟩
 obtain⟨P1,r1,i1⟩:=pr1 (lt:=lt) (lh:=lh) (lf:=lf) (lb:=lb) ok.m.1 ok.m.2;obtain⟨P2,r2,i2⟩:=pr2 i1 ok.t.1 ok.t.2;obtain⟨P3,r3,i3⟩:=pr3 i2 hmi;rw[hmn]at i3;obtain⟨P4,r4,t4,i4⟩:=pr4 i3 ok.f.2;have:=EndQ.behind r1 (EndQ.behind r2 (EndQ.behind r3 (EndQ.behind r4 (pr5 ok t4 i4 hlb hb))))
 have e:(qbv r).1=(r.meth++[32])++((r.targ++[32])++(vTxt mi++((qav r.fields++[13])++([10]++if(qaj r.fields (decide (r.minor=0))).1=2 then encT (qan r.body []) r.trailers else r.body)))):=by
  rw[hs];unfold preQ vTxt;rw[hit,ok.f.1];simp only[List.append_assoc,List.cons_append,List.nil_append]
 rw[e];exact this
section
variable (E:Env){H:Hp}(Q:AV->Hp->Prop)
def qeG(p:Prs):Int:=if p.state=4 then 1 else if p.state=5 then 2 else 0
def qq7(a b c d:Int)(s:List UInt8):AV:=if chkE a b c d=0 then
  .tup [(Rq.if (decide ((qao (newP a b c d) s).1.state=4)) (qao (newP a b c d) s).1.rq).av,.int .i64 (qao (newP a b c d) s).2,fltV (qao (newP a b c d) s).1,.int .i64 (qeG (qao (newP a b c d) s).1)]
 else .tup [Rq.zero.av,.int .i64 0,.agg [.int .i64 0,.int .i64 (chkE a b c d),.int .i64 0],.int .i64 2]
theorem qqo{a b c d:Int}(h:chkE a b c d=0):(1<=a/\a<=65536)/\(2<=b/\b<=1048576)/\(0<=c/\c<=100)/\(0<=d/\d<=1073741824):=by
 unfold chkE at h;split at h
 ·assumption
 ·cases h
theorem qka{a b c d:Int}(h:chkE a b c d=0):fitP 0 (newP a b c d):=by
 obtain⟨h1,h2,h3,h4⟩:=qqo h;exact qrU h1 h2 h3 h4
theorem quE{a b c d:Int}(h:chkE a b c d=0)(s:List UInt8)(hs:s.length<=4194304)(h5:(qao (newP a b c d) s).1.state≠5):fsz (qao (newP a b c d) s).1.fields+(qao (newP a b c d) s).1.fields.length<=4194304/\(qao (newP a b c d) s).1.trailers.length<=4194304:=by
 have hf:=qkG s (newP a b c d) 0 (qka h) h5;have:=hf.a;have:=hf.tr;have:=qjk (newP a b c d) s;omega
theorem qf8{P:Program}{rs:List ResultVar}{Q:AV->Hp->Prop}{fr:List AV}{H K:Hp}{v0 v:AV}(hB:BndH H.length H)(hle:H.length<=K.length)(hk:∀i,i<H.length->K[i]? =H[i]?)(h1:ares P fr K rs=some v0)(h2:nilV v0 v)(h5:Bnd H.length v)(h6:Q v H):qci P rs H.length Q .ret fr K:=by
 obtain⟨J,rfl⟩:=que hle hk;exact qab hB h1 h2 h5 h6
theorem qj0(hE:PE E)(a b c d:Int)(s:List UInt8)(hs:s.length<=4194304)(hQ:Q (qq7 a b c d s) H):PC Tryz.prog E 12 [limV a b c d,.str s] H Q:=by
 refine PC.nilD ?_;refine qj5 (fun i=>i=H.length+4) Tryz.func12 rfl [] [(9,[0,0,0,0,0,2,2])] (by kernel_rfl) (fun E' hS' h0' hF' hB=>?_);have hE':=hE.env h0' hF';unfold qq7 at hQ;simp[Tryz.ntmps12,Tryz.results12,List.replicate_succ,limV];refine qug E' _ a b c d (fun h0 hBn=>?_) (fun h0=>?_)
 ·rw[if_pos h0]at hQ;simp;obtain⟨H3,hH3⟩:∃H3:Hp,H++[[AV.int .i64 a,AV.int .i64 b,AV.int .i64 c,AV.int .i64 d],[AV.str [],AV.str [],AV.int .i64 0,AV.int .i64 0,AV.nil,AV.str [],AV.nil],[AV.int .i64 0,AV.int .i64 0,AV.int .i64 0]]=H3:=⟨_,rfl⟩
  have hl3:H3.length=H.length+3:=by rw[<-hH3];simp
  have hpb:=nwH_pb H3 a b c d;rw[hH3];rw[show H3.length+1=H.length+4 by omega]at hpb;have hfl:=qjk (newP a b c d) s;refine qrQ E' _ hpb (fun _=>qka h0) (fun E2 h02 hF2=>feedOk E2 (hE'.env h02 hF2)) s (by omega) (by omega) (fun j1 K1 hp1 hj1 ho1 hB1=>?_);have hfit:=quE h0 s hs;obtain⟨P,hP⟩:=exz ((qao (newP a b c d) s).1);obtain⟨N,hN⟩:=exz ((qao (newP a b c d) s).2);rw[hP]at hp1 hfit;rw[hP,hN]at hQ;rw[hN];have hlen:H.length+5<=K1.length:=by have:=ho1.1;unfold nwH at this;simp at this;omega
  have hold:∀i,i<H.length+3->K1[i]? =H3[i]? :=fun i hi=>by
   rw[ho1.2 i (by unfold nwH;simp;omega) (by omega) (fun h=>by cases h)];unfold nwH;rw[zqA (by omega)]
  have k1:K1[H.length+1]? =some [AV.str [],AV.str [],AV.int .i64 0,AV.int .i64 0,AV.nil,AV.str [],AV.nil]:=by rw[hold _ (by omega),<-hH3,zqB (by omega)];simp
  have k2:K1[H.length+2]? =some [AV.int .i64 0,AV.int .i64 0,AV.int .i64 0]:=by rw[hold _ (by omega),<-hH3,zqB (by omega)];simp
  have kH:∀i,i<H.length->K1[i]? =H[i]? :=fun i hi=>by rw[hold i (by omega),<-hH3,zqA hi]
  have hrow:=hp1.row;simp[Prs.av]at hrow;have e1:H.length+1<K1.length:=by omega
  have e2:H.length+2<K1.length:=by omega
  have u1:∀x,(K1.set (H.length+1) x)[H.length+2]? =some [AV.int .i64 0,AV.int .i64 0,AV.int .i64 0]:=fun x=>by rw[zqF (by omega)];exact k2
  have u2:∀x,(K1.set (H.length+1) x)[H.length+4]? =K1[H.length+4]? :=fun x=>zqF (by omega);have u3:∀x y,((K1.set (H.length+1) x).set (H.length+2) y)[H.length+1]? =some x:=fun x y=>by rw[zqF (by omega),zqO e1]
  have u4:∀x y,((K1.set (H.length+1) x).set (H.length+2) y)[H.length+2]? =some y:=fun x y=>zqO (by simpa using e2);have kK:∀x y i,i<H.length->((K1.set (H.length+1) x).set (H.length+2) y)[i]? =H[i]? :=fun x y i hi=>by rw[zqF (by omega),zqF (by omega)];exact kH i hi
  by_cases h4:P.state=4
  ·have hk:qeG P=1:=by unfold qeG;rw[if_pos h4]
   have hd:decide (P.state=4)=true:=by simpa using h4
   have hf5:P.state≠5:=by omega
   have hfv:fltV P= .agg [.int .i64 0,.int .i64 0,.int .i64 0]:=by unfold fltV;rw[if_neg hf5]
   have hrq:Rq.if true P.rq=P.rq:=rfl;rw[hk,hd,hfv,hrq]at hQ;have:=hfit hf5;simp[qap,KP,hrow,h4];refine qql E' _ P.rq (by show P.fields.length<=_;omega) (by show P.trailers.length<=_;omega) ?_;simp[Rq.av,Rq.avs,k1,k2,u1,u2,u3,u4];exact qf8 hB (v0:= .tup [P.rq.av,.int .i64 N,.agg [.int .i64 0,.int .i64 0,.int .i64 0],.int .i64 1]) (v:= .tup [P.rq.av,.int .i64 N,.agg [.int .i64 0,.int .i64 0,.int .i64 0],.int .i64 1]) (by simp;omega) (kK _ _) (by simp[Rq.av,Rq.avs,u3,u4]) (qaa _) (by simp[Rq.av,Rq.avs,qdd]) ⟨_,.same _,hQ⟩
  ·have hd:decide (P.state=4)=false:=by simpa using h4
   have h4':(P.state==4)=false:=by simpa using h4
   have hrq:Rq.if false P.rq= .zero:=rfl;rw[hd,hrq]at hQ;by_cases h5:P.state=5
   ·have hk:qeG P=2:=by unfold qeG;rw[if_neg h4,if_pos h5]
    have hfv:fltV P= .agg [.int .i64 P.fst_,.int .i64 P.ferr,.int .i64 P.fat]:=by unfold fltV;rw[if_pos h5]
    rw[hk,hfv]at hQ;simp[qap,KP,hrow,h5,hS',k1,k2,u1,u2,u3,u4]
    exact qf8 hB (v0:= .tup [.agg [.str [],.str [],.int .i64 0,.int .i64 0,.nil,.str [],.nil],.int .i64 N,.agg [.int .i64 P.fst_,.int .i64 P.ferr,.int .i64 P.fat],.int .i64 2]) (v:= .tup [.agg [.str [],.str [],.int .i64 0,.int .i64 0,.nil,.str [],.nil],.int .i64 N,.agg [.int .i64 P.fst_,.int .i64 P.ferr,.int .i64 P.fat],.int .i64 2]) (by simp;omega) (kK _ _) (by simp[u3,u4]) (qaa _) (by simp)
     ⟨.tup [Rq.zero.av,.int .i64 N,.agg [.int .i64 P.fst_,.int .i64 P.ferr,.int .i64 P.fat],.int .i64 2],qgE (m:=[Rq.zero.av,.int .i64 N,.agg [.int .i64 P.fst_,.int .i64 P.ferr,.int .i64 P.fat],.int .i64 2]) ⟨qcP (Rq.nil [] [] [] 0 0),.same _,.same _,.same _,trivial⟩,hQ⟩
   ·have hk:qeG P=0:=by unfold qeG;rw[if_neg h4,if_neg h5]
    have hfv:fltV P= .agg [.int .i64 0,.int .i64 0,.int .i64 0]:=by unfold fltV;rw[if_neg h5]
    have h5':(P.state==5)=false:=by simpa using h5
    rw[hk,hfv]at hQ;simp[qap,KP,hrow,h4',h5',k1,k2,u1,u2,u3,u4]
    exact qf8 hB (v0:= .tup [.agg [.str [],.str [],.int .i64 0,.int .i64 0,.nil,.str [],.nil],.int .i64 N,.agg [.int .i64 0,.int .i64 0,.int .i64 0],.int .i64 0]) (v:= .tup [.agg [.str [],.str [],.int .i64 0,.int .i64 0,.nil,.str [],.nil],.int .i64 N,.agg [.int .i64 0,.int .i64 0,.int .i64 0],.int .i64 0]) (by simp;omega) (kK _ _) (by simp[u3,u4]) (qaa _) (by simp)
     ⟨.tup [Rq.zero.av,.int .i64 N,.agg [.int .i64 0,.int .i64 0,.int .i64 0],.int .i64 0],qgE (m:=[Rq.zero.av,.int .i64 N,.agg [.int .i64 0,.int .i64 0,.int .i64 0],.int .i64 0]) ⟨qcP (Rq.nil [] [] [] 0 0),.same _,.same _,.same _,trivial⟩,hQ⟩
 ·rw[if_neg h0]at hQ;have h':(chkE a b c d==0)=false:=by simpa using h0
  have h2:(chkE a b c d !=0)=true:=by simpa using h0
  simp[h',h2]
  exact qab hB (v0:= .tup [.agg [.str [],.str [],.int .i64 0,.int .i64 0,.nil,.str [],.nil],.int .i64 0,.agg [.int .i64 0,.int .i64 (chkE a b c d),.int .i64 0],.int .i64 2]) (v:= .tup [.agg [.str [],.str [],.int .i64 0,.int .i64 0,.nil,.str [],.nil],.int .i64 0,.agg [.int .i64 0,.int .i64 (chkE a b c d),.int .i64 0],.int .i64 2]) (by simp) (qaa _) (by simp)
   ⟨.tup [Rq.zero.av,.int .i64 0,.agg [.int .i64 0,.int .i64 (chkE a b c d),.int .i64 0],.int .i64 2],qgE (m:=[Rq.zero.av,.int .i64 0,.agg [.int .i64 0,.int .i64 (chkE a b c d),.int .i64 0],.int .i64 2]) ⟨qcP (Rq.nil [] [] [] 0 0),.same _,.same _,.same _,trivial⟩,hQ⟩
end
def nwU(a b c d:Int)(i:Nat):Prs:={newP a b c d with used:=i}
def pM(a b c d:Int)(s:List UInt8)(f i:Nat):Prs:={newP a b c d with used:=i,state:=1,nx:=some .method,text:=(s.drop f).take (i-f)}
def pMs(a b c d:Int)(s:List UInt8)(f i:Nat):Prs:=if i=f then nwU a b c d f else pM a b c d s f i
def mX(a b c d:Int)(s:List UInt8)(f i:Nat):Prs:={pM a b c d s f i with nx:=(if i=f then some .start else some .method)}
def pT(a b c d:Int)(s:List UInt8)(M:List UInt8)(f i:Nat):Prs:={newP a b c d with used:=i,state:=1,nx:=some .target,meth:=M,text:=(s.drop f).take (i-f)}
def pL(a b c d:Int)(s:List UInt8)(M T:List UInt8)(f k:Nat):Prs:={newP a b c d with used:=((f+k:Nat):Int),state:=1,nx:=some .line,meth:=M,targ:=T,text:=(s.drop f).take k}
def pF0(a b c d:Int)(M T:List UInt8)(mj mn:Int)(f:Nat):Prs:={newP a b c d with used:=((f+10:Nat):Int),state:=2,nx:=some .fields,meth:=M,targ:=T,major:=mj,minor:=mn,begin_:=((f+10:Nat):Int)}
theorem qla(s:List UInt8)(f i:Nat)(c:UInt8)(h:f<=i)(hc:s[i]? =some c):(s.drop f).take (i+1-f)=(s.drop f).take (i-f)++[c]:=by
 rw[show i+1-f=(i-f)+1 by omega,List.take_add_one,zqN,show f+(i-f)=i by omega,hc];rfl
theorem qjr(s:List UInt8)(f i:Nat)(h:f<=i)(hi:i<=s.length):((s.drop f).take (i-f)).length=i-f:=by
 rw[zqJ,zqI];omega
theorem qqj(s:List UInt8)(f i:Nat)(h:f<i)(hi:i<=s.length):(s.drop f).take (i-f)≠[]:=fun e=>by
 have:=qjr s f i (by omega) hi;rw[e]at this;simp at this;omega
theorem qrw(p:Prs):qba p .start 13= .go p (some .startEnd):=by
 show qdq p 13=_;unfold qdq;rw[if_pos rfl]
theorem qle(p:Prs):qba p .startEnd 10= .go p (some .start):=by
 show qbL p 10=_;unfold qbL;rw[if_neg (by decide)]
theorem qnl(p:Prs)(x:UInt8)(h:x≠10):qba p .startEnd x= .bad p 400 111 p.used:=by
 show qbL p x=_;unfold qbL qaA;rw[if_pos h]
section
variable {q:Prs}{a b c d:Int}{s:List UInt8}{f i:Nat}{x:UInt8}
theorem quK(h:Fd q s (nwU a b c d i) i)(hc:s[i]? =some 13):Fd q s (adv (nwU a b c d i) (some .startEnd)) (i+1):=Fd.go h hc rfl (qrw _)
theorem quJ(h:Fd q s (nwU a b c d i) i)(hc:s[i]? =some 13)(hd:s[i+1]? =some 10):Fd q s (nwU a b c d (i+2)) (i+2):=by
 have h2:=Fd.go (quK h hc) hd rfl (qle _);have e:adv (adv (nwU a b c d i) (some .startEnd)) (some .start)=nwU a b c d (i+2):=by simp[adv,nwU,newP];omega
 rwa[e]at h2
theorem fd_crx(h:Fd q s (nwU a b c d i) i)(hc:s[i]? =some 13)(hd:s[i+1]? =some x)(hx:x≠10):qaX (qao q s).1=⟨5,((i+1:Nat):Int)+1,false,.zero,false,400,111,((i+1:Nat):Int)⟩:=by
 rw[Fd.bad (quK h hc) hd rfl (qnl _ x hx),qb4];rfl
theorem fd_cr(h:Fd q s (nwU a b c d i) i)(hc:s[i]? =some 13)(he:i+1=s.length):qaX (qao q s).1=⟨0,s.length,false,.zero,false,0,0,0⟩:=by
 have h1:=quK h hc;rw[he]at h1;rw[Fd.fin h1];simp only[qaX,adv,nwU,newP];simp;omega
theorem fd_0(h:Fd q s (nwU a b c d s.length) s.length):qaX (qao q s).1=⟨0,s.length,false,.zero,false,0,0,0⟩:=by
 rw[Fd.fin h];simp[qaX,nwU,newP]
theorem step_m(hf:f<=i)(h13:i=f->x≠13):qba (pMs a b c d s f i) (if i=f then .start else .method) x=qbW (mX a b c d s f i) x:=by
 unfold pMs mX;by_cases h:i=f
 ·subst h;simp only[if_true];show qdq _ x=_;unfold qdq;rw[if_neg (h13 rfl)];congr 1;unfold nwU pM;simp[newP]
 ·simp only[if_neg h];rfl
theorem pMs_nx:(pMs a b c d s f i).nx=some (if i=f then .start else .method):=by
 unfold pMs;split<;>rfl
theorem qus:(mX a b c d s f i).text=(s.drop f).take (i-f):=rfl
theorem quH(h:Fd q s (pMs a b c d s f s.length) s.length)(hf:f<s.length):qaX (qao q s).1=⟨1,s.length,false,.zero,false,0,0,0⟩:=by
 rw[Fd.fin h];unfold pMs;rw[if_neg (by omega)];simp[qaX,pM,newP]
theorem fd_m(h:Fd q s (pMs a b c d s f i) i)(hc:s[i]? =some x)(hf:f<=i)(hi:i<=s.length)(h13:i=f->x≠13):
  (qai x=true->i-f=24->qaX (qao q s).1=⟨5,(i:Int)+1,false,.zero,false,501,110,i⟩)/\
  (qai x=true->i-f≠24->Fd q s (pMs a b c d s f (i+1)) (i+1))/\
  (qai x=false->x=32->f<i->Fd q s (pT a b c d s ((s.drop f).take (i-f)) (i+1) (i+1)) (i+1))/\
  (qai x=false->¬(x=32/\f<i)->qaX (qao q s).1=⟨5,(i:Int)+1,false,.zero,false,400,110,i⟩):=by
 have hn:=pMs_nx (a:=a) (b:=b) (c:=c) (d:=d) (s:=s) (f:=f) (i:=i);have hs:=step_m (a:=a) (b:=b) (c:=c) (d:=d) (s:=s) hf h13;have hl:=qjr s f i hf hi;unfold qbW at hs;rw[tok1,qus,hl]at hs;obtain⟨md,hmd⟩:=exz ((if i=f then Md.start else Md.method));rw[hmd]at hn hs;refine⟨fun h1 h2=>?_,fun h1 h2=>?_,fun h1 h2 h3=>?_,fun h1 h2=>?_⟩
 ·rw[if_pos h1,if_pos h2]at hs;unfold qaA at hs;rw[Fd.bad h hc hn hs,qb4];rfl
 ·rw[if_pos h1,if_neg h2]at hs;have hg:=Fd.go h hc hn hs
  have e:adv {mX a b c d s f i with text:=(s.drop f).take (i-f)++[x]} (some .method)=pMs a b c d s f (i+1):=by
   unfold pMs;rw[if_neg (by omega),<-qla s f i x hf hc];simp[adv,mX,pM]
  rwa[e]at hg
 ·rw[if_neg (by rw[h1];simp),if_pos ⟨h2,qqj s f i h3 hi⟩]at hs;have hg:=Fd.go h hc hn hs
  have e:adv {mX a b c d s f i with meth:=(s.drop f).take (i-f),text:=[]} (some .target)=pT a b c d s ((s.drop f).take (i-f)) (i+1) (i+1):=by
   simp[adv,mX,pM,pT]
  rwa[e]at hg
 ·rw[if_neg (by rw[h1];simp),if_neg (fun e=>h2 ⟨e.1,by
   rcases Nat.lt_or_ge f i with h|h
   ·exact h
   ·exact absurd (by rw[show i-f=0 by omega];rfl) e.2⟩)]at hs
  unfold qaA at hs;rw[Fd.bad h hc hn hs,qb4];rfl
theorem quG{M:List UInt8}(h:Fd q s (pT a b c d s M f s.length) s.length):qaX (qao q s).1=⟨1,s.length,false,.zero,false,0,0,0⟩:=by
 rw[Fd.fin h];simp[qaX,pT,newP]
theorem fd_t{M:List UInt8}(h:Fd q s (pT a b c d s M f i) i)(hc:s[i]? =some x)(hf:f<=i)(hi:i<=s.length):
  (33<=x.toNat/\x.toNat<=126->((i-f:Nat):Int)=a->qaX (qao q s).1=⟨5,(i:Int)+1,false,.zero,false,414,112,i⟩)/\
  (33<=x.toNat/\x.toNat<=126->((i-f:Nat):Int)≠a->Fd q s (pT a b c d s M f (i+1)) (i+1))/\
  (¬(33<=x.toNat/\x.toNat<=126)->x=32->f<i->Fd q s (pL a b c d s M ((s.drop f).take (i-f)) (i+1) 0) (i+1))/\
  (¬(33<=x.toNat/\x.toNat<=126)->¬(x=32/\f<i)->qaX (qao q s).1=⟨5,(i:Int)+1,false,.zero,false,400,111,i⟩):=by
 have hn:(pT a b c d s M f i).nx=some .target:=rfl;have hs:qba (pT a b c d s M f i) .target x=qb7 (pT a b c d s M f i) x:=rfl;have hl:=qjr s f i hf hi;have ht:(pT a b c d s M f i).text=(s.drop f).take (i-f):=rfl;unfold qb7 at hs;rw[ht,hl]at hs;refine⟨fun h1 h2=>?_,fun h1 h2=>?_,fun h1 h2 h3=>?_,fun h1 h2=>?_⟩
 ·rw[if_pos h1,if_pos (show((i-f:Nat):Int)=(pT a b c d s M f i).lt from h2)]at hs;unfold qaA at hs;rw[Fd.bad h hc hn hs,qb4];rfl
 ·rw[if_pos h1,if_neg (show ¬((i-f:Nat):Int)=(pT a b c d s M f i).lt from h2)]at hs;have hg:=Fd.go h hc hn hs
  have e:adv {pT a b c d s M f i with text:=(s.drop f).take (i-f)++[x]} (some .target)=pT a b c d s M f (i+1):=by
   rw[<-qla s f i x hf hc];simp[adv,pT]
  rwa[e]at hg
 ·rw[if_neg h1,if_pos ⟨h2,qqj s f i h3 hi⟩]at hs;have hg:=Fd.go h hc hn hs
  have e:adv {pT a b c d s M f i with targ:=(s.drop f).take (i-f),text:=[]} (some .line)=pL a b c d s M ((s.drop f).take (i-f)) (i+1) 0:=by
   simp[adv,pT,pL]
  rwa[e]at hg
 ·rw[if_neg h1,if_neg (fun e=>h2 ⟨e.1,by
   rcases Nat.lt_or_ge f i with h|h
   ·exact h
   ·exact absurd (by rw[show i-f=0 by omega];rfl) e.2⟩)]at hs
  unfold qaA at hs;rw[Fd.bad h hc hn hs,qb4];rfl
theorem quI{M T:List UInt8}{k:Nat}(h:Fd q s (pL a b c d s M T f k) s.length)(hk:f+k=s.length):qaX (qao q s).1=⟨1,s.length,false,.zero,false,0,0,0⟩:=by
 rw[Fd.fin h];simp[qaX,pL,newP];omega
theorem fd_l{M T:List UInt8}{k:Nat}(h:Fd q s (pL a b c d s M T f k) (f+k))(hc:s[f+k]? =some x)(hk:k<=9):
  (qaM k x=false->qaX (qao q s).1=⟨5,((f+k:Nat):Int)+1,false,.zero,false,400,111,((f+k:Nat):Int)⟩)/\
  (qaM k x=true->k<9->Fd q s (pL a b c d s M T f (k+1)) (f+(k+1)))/\
  (∀mj mn y z,qaM k x=true->k=9->s[f+5]? =some y->s[f+7]? =some z->(y.toNat:Int)-48=mj->(z.toNat:Int)-48=mn->
   (mj≠1\/1<mn->qaX (qao q s).1=⟨5,((f+9:Nat):Int)+1,false,.zero,false,505,117,((f+9:Nat):Int)⟩)/\
   (¬(mj≠1\/1<mn)->tgtE M T≠0->qaX (qao q s).1=⟨5,((f+9:Nat):Int)+1,false,.zero,false,400,tgtE M T,((f+9:Nat):Int)⟩)/\
   (¬(mj≠1\/1<mn)->tgtE M T=0->Fd q s (pF0 a b c d M T mj mn f) (f+10))):=by
 have hn:(pL a b c d s M T f k).nx=some .line:=rfl;have hs:qba (pL a b c d s M T f k) .line x=qct (pL a b c d s M T f k) x:=rfl;have hlt:f+k<s.length:=(zqC.1 hc).1;have hl:((s.drop f).take k).length=k:=by rw[zqJ,zqI];omega
 have ht:(pL a b c d s M T f k).text=(s.drop f).take k:=rfl;have hu:(pL a b c d s M T f k).used=((f+k:Nat):Int):=rfl;unfold qct at hs;simp only[ht,hl]at hs;refine⟨fun h1=>?_,fun h1 h2=>?_,fun mj mn y z h1 h2 hy hz hmj hmn=>?_⟩
 ·rw[if_pos h1]at hs;unfold qaA at hs;rw[Fd.bad h hc hn hs,qb4];rfl
 ·rw[if_neg (by rw[h1];simp),if_pos h2]at hs;have hg:=Fd.go h hc hn hs
  have e:adv {pL a b c d s M T f k with text:=(s.drop f).take k++[x]} (some .line)=pL a b c d s M T f (k+1):=by
   have:=qla s f (f+k) x (by omega) hc;rw[show f+k+1-f=k+1 by omega,show f+k-f=k by omega]at this;rw[<-this];simp[adv,pL];omega
  rwa[e]at hg
 ·subst h2;rw[if_neg (by rw[h1];simp),if_neg (by omega)]at hs;have g5:((s.drop f).take 9).getD 5 0=y:=by rw[List.getD_eq_getElem?_getD,zqG (by omega),zqN,hy];rfl
  have g7:((s.drop f).take 9).getD 7 0=z:=by rw[List.getD_eq_getElem?_getD,zqG (by omega),zqN,hz];rfl
  rw[g5,g7,hmj,hmn]at hs;refine⟨fun h3=>?_,fun h3 h4=>?_,fun h3 h4=>?_⟩
  ·rw[if_pos h3]at hs;unfold qaA at hs;rw[Fd.bad h hc hn hs,qb4];rfl
  ·rw[if_neg h3]at hs;have h4':tgtE (pL a b c d s M T f 9).meth (pL a b c d s M T f 9).targ≠0:=h4;rw[if_pos h4']at hs;unfold qaA at hs;rw[Fd.bad h hc hn hs,qb4];rfl
  ·rw[if_neg h3]at hs;have h4':¬tgtE (pL a b c d s M T f 9).meth (pL a b c d s M T f 9).targ≠0:=fun e=>e h4;rw[if_neg h4']at hs;have hg:=Fd.go h hc hn hs
   have e:adv {({pL a b c d s M T f 9 with text:=[],major:=mj,minor:=mn}:Prs)with state:=2,begin_:=(pL a b c d s M T f 9).used+1} (some .fields)=pF0 a b c d M T mj mn f:=by
    have hu9:(pL a b c d s M T f 9).used+1=((f+10:Nat):Int):=by rw[hu];omega
    unfold adv;simp only[hu9];rfl
   rw[show f+9+1=f+10 by omega]at hg;rwa[e]at hg
end
section
open Go.Lib
variable (E:Env){H:Hp}(Q:AV->Hp->Prop)
def daI1(q:Prs)(a b c d:Int)(s:List UInt8)(H:Hp)(fr:List AV)(K:Hp):Prop:=∃i:Nat,i<=s.length/\Fd q s (nwU a b c d i) i/\K=H++[[.int .i64 a,.int .i64 b,.int .i64 c,.int .i64 d],[.int .i64 0,.int .i64 0,.bool false,.str [],.str [],.int .i64 0,.int .i64 0,.nil,.str [],.nil,.bool false,.int .i64 0,.int .i64 0,.int .i64 0]]/\
 ∃x:Nat->AV,fr=[x 0,.str s,.ptr (some (H.length,0)),x 3,.ptr (some (H.length+1,0)),.int .i64 (i:Int),x 6,x 7,x 8,x 9,x 10,x 11,x 12,x 13,x 14,x 15,x 16,x 17,x 18,x 19,x 20,x 21,x 22,x 23,x 24,x 25,x 26,x 27,x 28,x 29,x 30,x 31,x 32,x 33,x 34,x 35,x 36,x 37,x 38,x 39,x 40,x 41,x 42,x 43,x 44,x 45,x 46,x 47,x 48,x 49,x 50,x 51,x 52,x 53,x 54,x 55,x 56,x 57,x 58,x 59,x 60,x 61,x 62,x 63,x 64,x 65,x 66,x 67,x 68,x 69,x 70,x 71,x 72,x 73,x 74,x 75,x 76,x 77,x 78,x 79,x 80,x 81,x 82,x 83,x 84,x 85,x 86,x 87,x 88,x 89,x 90,x 91,x 92,x 93,x 94,x 95,x 96,x 97,x 98,x 99,x 100,x 101,x 102,x 103,x 104,x 105,x 106,x 107,x 108,x 109,x 110,x 111,x 112,x 113,x 114,x 115,x 116,x 117,x 118,x 119,x 120,x 121,x 122,x 123,x 124,x 125,x 126,x 127,x 128,x 129,x 130,x 131,x 132,x 133,x 134,x 135,x 136,x 137,x 138,x 139,x 140,x 141,x 142,x 143,x 144,x 145,x 146,x 147,x 148,x 149,x 150,x 151,x 152,x 153,x 154,x 155,x 156,x 157,x 158,x 159,x 160,x 161,x 162,x 163,x 164,x 165,x 166,x 167,x 168,x 169,x 170,x 171,x 172,x 173,x 174,x 175,x 176,x 177,x 178,x 179,x 180,x 181,x 182,x 183,x 184,x 185,x 186,x 187,x 188,x 189,x 190,x 191,x 192,x 193,x 194,x 195,x 196,x 197,x 198,x 199,x 200,x 201,x 202,x 203,x 204,x 205]
def daI2(q:Prs)(a b c d:Int)(s:List UInt8)(f:Nat)(H:Hp)(fr:List AV)(K:Hp):Prop:=∃i:Nat,f<=i/\i<=s.length/\i-f<=24/\Fd q s (pMs a b c d s f i) i/\K=H++[[.int .i64 a,.int .i64 b,.int .i64 c,.int .i64 d],[.int .i64 0,.int .i64 0,.bool false,.str [],.str [],.int .i64 0,.int .i64 0,.nil,.str [],.nil,.bool false,.int .i64 0,.int .i64 0,.int .i64 0],[.str [],.str [],.int .i64 0,.int .i64 0,.nil,.str [],.nil]]/\
 ∃x:Nat->AV,fr=[x 0,.str s,.ptr (some (H.length,0)),x 3,.ptr (some (H.length+1,0)),.int .i64 (i:Int),.ptr (some (H.length+2,0)),.int .i64 (f:Int),x 8,x 9,x 10,x 11,x 12,x 13,x 14,x 15,x 16,x 17,x 18,x 19,x 20,x 21,x 22,x 23,x 24,x 25,x 26,x 27,x 28,x 29,x 30,x 31,x 32,x 33,x 34,x 35,x 36,x 37,x 38,x 39,x 40,x 41,x 42,x 43,x 44,x 45,x 46,x 47,x 48,x 49,x 50,x 51,x 52,x 53,x 54,x 55,x 56,x 57,x 58,x 59,x 60,x 61,x 62,x 63,x 64,x 65,x 66,x 67,x 68,x 69,x 70,x 71,x 72,x 73,x 74,x 75,x 76,x 77,x 78,x 79,x 80,x 81,x 82,x 83,x 84,x 85,x 86,x 87,x 88,x 89,x 90,x 91,x 92,x 93,x 94,x 95,x 96,x 97,x 98,x 99,x 100,x 101,x 102,x 103,x 104,x 105,x 106,x 107,x 108,x 109,x 110,x 111,x 112,x 113,x 114,x 115,x 116,x 117,x 118,x 119,x 120,x 121,x 122,x 123,x 124,x 125,x 126,x 127,x 128,x 129,x 130,x 131,x 132,x 133,x 134,x 135,x 136,x 137,x 138,x 139,x 140,x 141,x 142,x 143,x 144,x 145,x 146,x 147,x 148,x 149,x 150,x 151,x 152,x 153,x 154,x 155,x 156,x 157,x 158,x 159,x 160,x 161,x 162,x 163,x 164,x 165,x 166,x 167,x 168,x 169,x 170,x 171,x 172,x 173,x 174,x 175,x 176,x 177,x 178,x 179,x 180,x 181,x 182,x 183,x 184,x 185,x 186,x 187,x 188,x 189,x 190,x 191,x 192,x 193,x 194,x 195,x 196,x 197,x 198,x 199,x 200,x 201,x 202,x 203,x 204,x 205]
def daI3(q:Prs)(a b c d:Int)(s M:List UInt8)(f:Nat)(H:Hp)(fr:List AV)(K:Hp):Prop:=∃i:Nat,f<=i/\i<=s.length/\((i-f:Nat):Int)<=a/\Fd q s (pT a b c d s M f i) i/\K=H++[[.int .i64 a,.int .i64 b,.int .i64 c,.int .i64 d],[.int .i64 0,.int .i64 0,.bool false,.str [],.str [],.int .i64 0,.int .i64 0,.nil,.str [],.nil,.bool false,.int .i64 0,.int .i64 0,.int .i64 0],[.str M,.str [],.int .i64 0,.int .i64 0,.nil,.str [],.nil]]/\
 ∃x:Nat->AV,fr=[x 0,.str s,.ptr (some (H.length,0)),x 3,.ptr (some (H.length+1,0)),.int .i64 (i:Int),.ptr (some (H.length+2,0)),.int .i64 (f:Int),x 8,x 9,x 10,x 11,x 12,x 13,x 14,x 15,x 16,x 17,x 18,x 19,x 20,x 21,x 22,x 23,x 24,x 25,x 26,x 27,x 28,x 29,x 30,x 31,x 32,x 33,x 34,x 35,x 36,x 37,x 38,x 39,x 40,x 41,x 42,x 43,x 44,x 45,x 46,x 47,x 48,x 49,x 50,x 51,x 52,x 53,x 54,x 55,x 56,x 57,x 58,x 59,x 60,x 61,x 62,x 63,x 64,x 65,x 66,x 67,x 68,x 69,x 70,x 71,x 72,x 73,x 74,x 75,x 76,x 77,x 78,x 79,x 80,x 81,x 82,x 83,x 84,x 85,x 86,x 87,x 88,x 89,x 90,x 91,x 92,x 93,x 94,x 95,x 96,x 97,x 98,x 99,x 100,x 101,x 102,x 103,x 104,x 105,x 106,x 107,x 108,x 109,x 110,x 111,x 112,x 113,x 114,x 115,x 116,x 117,x 118,x 119,x 120,x 121,x 122,x 123,x 124,x 125,x 126,x 127,x 128,x 129,x 130,x 131,x 132,x 133,x 134,x 135,x 136,x 137,x 138,x 139,x 140,x 141,x 142,x 143,x 144,x 145,x 146,x 147,x 148,x 149,x 150,x 151,x 152,x 153,x 154,x 155,x 156,x 157,x 158,x 159,x 160,x 161,x 162,x 163,x 164,x 165,x 166,x 167,x 168,x 169,x 170,x 171,x 172,x 173,x 174,x 175,x 176,x 177,x 178,x 179,x 180,x 181,x 182,x 183,x 184,x 185,x 186,x 187,x 188,x 189,x 190,x 191,x 192,x 193,x 194,x 195,x 196,x 197,x 198,x 199,x 200,x 201,x 202,x 203,x 204,x 205]
def daI4(q:Prs)(a b c d:Int)(s M T:List UInt8)(f:Nat)(H:Hp)(fr:List AV)(K:Hp):Prop:=∃k m:Nat,k<=10/\(k<=9->m=k)/\m<=9/\f+k<=s.length/\Fd q s (pL a b c d s M T f m) (f+m)/\(k=10->m=9)/\(∀j,j<k->∃x,s[f+j]? =some x/\qaM j x=true)/\K=H++[[.int .i64 a,.int .i64 b,.int .i64 c,.int .i64 d],[.int .i64 0,.int .i64 0,.bool false,.str [],.str [],.int .i64 0,.int .i64 0,.nil,.str [],.nil,.bool false,.int .i64 0,.int .i64 0,.int .i64 0],[.str M,.str T,.int .i64 0,.int .i64 0,.nil,.str [],.nil]]/\
 ∃x:Nat->AV,fr=[x 0,.str s,.ptr (some (H.length,0)),x 3,.ptr (some (H.length+1,0)),.int .i64 ((f+k:Nat):Int),.ptr (some (H.length+2,0)),.int .i64 (f:Int),.int .i64 (k:Int),x 9,x 10,x 11,x 12,x 13,x 14,x 15,x 16,x 17,x 18,x 19,x 20,x 21,x 22,x 23,x 24,x 25,x 26,x 27,x 28,x 29,x 30,x 31,x 32,x 33,x 34,x 35,x 36,x 37,x 38,x 39,x 40,x 41,x 42,x 43,x 44,x 45,x 46,x 47,x 48,x 49,x 50,x 51,x 52,x 53,x 54,x 55,x 56,x 57,x 58,x 59,x 60,x 61,x 62,x 63,x 64,x 65,x 66,x 67,x 68,x 69,x 70,x 71,x 72,x 73,x 74,x 75,x 76,x 77,x 78,x 79,x 80,x 81,x 82,x 83,x 84,x 85,x 86,x 87,x 88,x 89,x 90,x 91,x 92,x 93,x 94,x 95,x 96,x 97,x 98,x 99,x 100,x 101,x 102,x 103,x 104,x 105,x 106,x 107,x 108,x 109,x 110,x 111,x 112,x 113,x 114,x 115,x 116,x 117,x 118,x 119,x 120,x 121,x 122,x 123,x 124,x 125,x 126,x 127,x 128,x 129,x 130,x 131,x 132,x 133,x 134,x 135,x 136,x 137,x 138,x 139,x 140,x 141,x 142,x 143,x 144,x 145,x 146,x 147,x 148,x 149,x 150,x 151,x 152,x 153,x 154,x 155,x 156,x 157,x 158,x 159,x 160,x 161,x 162,x 163,x 164,x 165,x 166,x 167,x 168,x 169,x 170,x 171,x 172,x 173,x 174,x 175,x 176,x 177,x 178,x 179,x 180,x 181,x 182,x 183,x 184,x 185,x 186,x 187,x 188,x 189,x 190,x 191,x 192,x 193,x 194,x 195,x 196,x 197,x 198,x 199,x 200,x 201,x 202,x 203,x 204,x 205]
theorem wrap8{z:Int}(h1:0<=z)(h2:z<=255):IntKind.u8.wrap z=z:=by rw[IntKind.wrap_u8];omega
theorem qp7{k:Nat}{x:UInt8}(hk:k=5\/k=7)(h:qaM k x=true):48<=x.toNat/\x.toNat<=57:=by
 rcases hk with rfl|rfl<;>simpa[qaM]using h
theorem dat_pc(a b c d:Int)(h0:chkE a b c d=0)(s:List UInt8)(hl:s.length<=4194304)(hQ:Q (qaX (qao (newP a b c d) s).1).av H):
  PC Tryz.prog E 31 [limV a b c d,.str s] H Q:=by
 refine qac Tryz.func31 rfl [] [] (by kernel_rfl) (fun hB=>?_);obtain⟨hla,hlb,hlc,hld⟩:=qqo h0;obtain⟨q,hq⟩:=exz (newP a b c d);rw[hq]at hQ;have fin:∀x:Lk,qaX (qao q s).1=x->Q x.av H:=fun x hx=>hx▸hQ;clear hQ;simp[Tryz.ntmps31,Tryz.results31,List.replicate_succ,limV];refine qaB (daI1 q a b c d s H) (fun fr _=>s.length-(ai (aget fr 5)).toNat) ⟨0,by omega,by have:=Fd.refl q s;rw[<-hq]at this⊢;exact this,by simp,friz⟩ ?_;rintro fr K ⟨i,hi,hFd,rfl,x,rfl⟩;by_cases hlt:i<s.length;rotate_left
 ·obtain rfl:i=s.length:=by omega
  have hx:=fd_0 hFd;simp[];refine qeB E _ 0 s ?_;simp[Lk.av,Rq.avs,Rq.zero,flds];exact qab (v0:=Lk.av ⟨0,(s.length:Int),false,.zero,false,0,0,0⟩) (v:=Lk.av ⟨0,(s.length:Int),false,.zero,false,0,0,0⟩) hB (by simp[Lk.av,Rq.avs,Rq.zero,flds]) (qaa _) (Lk.bnd ⟨0,(s.length:Int),false,.zero,false,0,0,0⟩ _) (fin ⟨0,(s.length:Int),false,.zero,false,0,0,0⟩ hx)
 obtain⟨y,hy⟩:∃y,s[i]? =some y:=⟨_,zqD hlt⟩
 have la:=qas hy;have hli:(i:Int)<s.length:=by omega
 have hne:((i:Int)==(s.length:Int))=false:=by rw[beq_eq_false_iff_ne];omega
 have w1:IntKind.i64.wrap ((i:Int)+1)=((i+1:Nat):Int):=wiz;by_cases h13:y=13
 ·subst h13;by_cases he:i+1=s.length
  ·have hx:=fd_cr hFd hy he;have he':(((i+1:Nat):Int)==((s.length:Nat):Int))=true:=by rw[beq_iff_eq];omega
   simp[hlt,la,w1,he',-Int.natCast_add];refine qeB E _ 0 s ?_;simp[Lk.av,Rq.avs,Rq.zero,flds];exact qab (v0:=Lk.av ⟨0,(s.length:Int),false,.zero,false,0,0,0⟩) (v:=Lk.av ⟨0,(s.length:Int),false,.zero,false,0,0,0⟩) hB (by simp[Lk.av,Rq.avs,Rq.zero,flds]) (qaa _) (Lk.bnd ⟨0,(s.length:Int),false,.zero,false,0,0,0⟩ _) (fin ⟨0,(s.length:Int),false,.zero,false,0,0,0⟩ hx)
  obtain⟨z,hz⟩:∃z,s[i+1]? =some z:=⟨_,zqD (by omega)⟩
  have lz:=qas hz;have he':(((i+1:Nat):Int)==((s.length:Nat):Int))=false:=by rw[beq_eq_false_iff_ne];omega
  by_cases h10:z=10
  ·subst h10;have w2:IntKind.i64.wrap ((i:Int)+2)=((i+2:Nat):Int):=wiz;have hg:=quJ hFd hy hz;simp[hlt,la,w1,he',lz,w2,-Int.natCast_add];exact Klz ⟨i+2,by have:=(zqC.1 hz).1;omega,hg,rfl,friz⟩
  ·have b1:=(qaE z 10 (by decide) 10 rfl h10).1;have b2:=(qaE z 10 (by decide) 10 rfl h10).2;have hx:=fd_crx hFd hy hz h10;simp[hlt,la,w1,he',lz,b1,b2,-Int.natCast_add];refine qaz E _ 400 111 ((i+1:Nat):Int) ((i+1:Nat):Int) (by omega) (by omega) ?_;simp[Lk.av,Rq.avs,Rq.zero,flds,-Int.natCast_add];exact qab (v0:=Lk.av ⟨5,((i+1:Nat):Int)+1,false,.zero,false,400,111,((i+1:Nat):Int)⟩) (v:=Lk.av ⟨5,((i+1:Nat):Int)+1,false,.zero,false,400,111,((i+1:Nat):Int)⟩) hB (by simp[Lk.av,Rq.avs,Rq.zero,flds]) (qaa _) (Lk.bnd ⟨5,((i+1:Nat):Int)+1,false,.zero,false,400,111,((i+1:Nat):Int)⟩ _) (fin ⟨5,((i+1:Nat):Int)+1,false,.zero,false,400,111,((i+1:Nat):Int)⟩ hx)
 have b1:=(qaE y 13 (by decide) 13 rfl h13).1;simp[hlt,la,b1,hne];have h13f:s[i]? ≠some 13:=by rw[hy];simpa using h13
 refine qaB (daI2 q a b c d s i H) (fun fr _=>s.length-(ai (aget fr 5)).toNat) ⟨i,by omega,by omega,by omega,by unfold pMs;rw[if_pos rfl];exact hFd,by simp,friz⟩ ?_;clear hFd hy la hli hne w1 b1 h13 hi;obtain⟨f,hf⟩:∃f,f=i:=⟨i,rfl⟩
 rw[<-hf]at hlt h13f⊢;clear hf i y x;have hfl:=hlt;clear hlt;rintro fr K ⟨i,hfi,hi,hi24,hFd,rfl,x,rfl⟩;by_cases hlt:i<s.length;rotate_left
 ·obtain rfl:i=s.length:=by omega
  have hx:=quH hFd hfl;simp[];refine qeB E _ 1 s ?_;simp[Lk.av,Rq.avs,Rq.zero,flds];exact qab (v0:=Lk.av ⟨1,(s.length:Int),false,.zero,false,0,0,0⟩) (v:=Lk.av ⟨1,(s.length:Int),false,.zero,false,0,0,0⟩) hB (by simp[Lk.av,Rq.avs,Rq.zero,flds]) (qaa _) (Lk.bnd ⟨1,(s.length:Int),false,.zero,false,0,0,0⟩ _) (fin ⟨1,(s.length:Int),false,.zero,false,0,0,0⟩ hx)
 obtain⟨y,hy⟩:∃y,s[i]? =some y:=⟨_,zqD hlt⟩
 have la:=qas hy;have hne:((i:Int)==(s.length:Int))=false:=by rw[beq_eq_false_iff_ne];omega
 have w1:IntKind.i64.wrap ((i:Int)+1)=((i+1:Nat):Int):=wiz;have w0:IntKind.i64.wrap ((i:Int)-f)=((i-f:Nat):Int):=by rw[qak (by omega) (by omega)];omega
 obtain⟨m1,m2,m3,m4⟩:=fd_m hFd hy hfi hi (fun e=>by subst e;intro e;rw[e]at hy;exact h13f hy);obtain⟨sg,hsg⟩:=exz (qai y);rw[hsg]at m1 m2 m3 m4;by_cases h32:y=32;rotate_left
 ·have b1:=(qaE y 32 (by decide) 32 rfl h32).1;simp[hne,la,b1];refine qfS E _ _ y ?_;rw[hsg];cases sg with
  |false=>
   have hx:=m4 rfl (fun e=>h32 e.1);simp[];refine qaz E _ 400 110 (i:Int) (i:Int) (by omega) (by omega) ?_;simp[Lk.av,Rq.avs,Rq.zero,flds,-Int.natCast_add];exact qab (v0:=Lk.av ⟨5,(i:Int)+1,false,.zero,false,400,110,(i:Int)⟩) (v:=Lk.av ⟨5,(i:Int)+1,false,.zero,false,400,110,(i:Int)⟩) hB (by simp[Lk.av,Rq.avs,Rq.zero,flds]) (qaa _) (Lk.bnd ⟨5,(i:Int)+1,false,.zero,false,400,110,(i:Int)⟩ _) (fin ⟨5,(i:Int)+1,false,.zero,false,400,110,(i:Int)⟩ hx)
  |true=>
   by_cases h24:i-f=24
   ·have hx:=m1 rfl h24;have hge:(24:Int)<=((i-f:Nat):Int):=by omega
    have hge2:24<=i-f:=by omega
    simp[w0,hge,hge2];refine qaz E _ 501 110 (i:Int) (i:Int) (by omega) (by omega) ?_;simp[Lk.av,Rq.avs,Rq.zero,flds,-Int.natCast_add];exact qab (v0:=Lk.av ⟨5,(i:Int)+1,false,.zero,false,501,110,(i:Int)⟩) (v:=Lk.av ⟨5,(i:Int)+1,false,.zero,false,501,110,(i:Int)⟩) hB (by simp[Lk.av,Rq.avs,Rq.zero,flds]) (qaa _) (Lk.bnd ⟨5,(i:Int)+1,false,.zero,false,501,110,(i:Int)⟩ _) (fin ⟨5,(i:Int)+1,false,.zero,false,501,110,(i:Int)⟩ hx)
   ·have hg:=m2 rfl h24;have hge:¬(24:Int)<=((i-f:Nat):Int):=by omega
    have hge2:¬24<=i-f:=by omega
    simp[w0,hge,hge2,w1,-Int.natCast_add];exact Klz ⟨i+1,by omega,by omega,by omega,hg,rfl,friz⟩
 subst h32;have e32:sg=false:=by rw[<-hsg];decide
 by_cases hsp:f<i;rotate_left
 ·have hgt:¬(f:Int)<i:=by omega
  have hx:=m4 e32 (fun e=>hsp e.2);simp[hne,la,hsp];refine qfS E _ _ 32 ?_;rw[hsg,e32];simp[];refine qaz E _ 400 110 (i:Int) (i:Int) (by omega) (by omega) ?_;simp[Lk.av,Rq.avs,Rq.zero,flds,-Int.natCast_add];exact qab (v0:=Lk.av ⟨5,(i:Int)+1,false,.zero,false,400,110,(i:Int)⟩) (v:=Lk.av ⟨5,(i:Int)+1,false,.zero,false,400,110,(i:Int)⟩) hB (by simp[Lk.av,Rq.avs,Rq.zero,flds]) (qaa _) (Lk.bnd ⟨5,(i:Int)+1,false,.zero,false,400,110,(i:Int)⟩ _) (fin ⟨5,(i:Int)+1,false,.zero,false,400,110,(i:Int)⟩ hx)
 have hg:=m3 e32 rfl hsp;obtain⟨M,hM⟩:=exz ((s.drop f).take (i-f));rw[hM]at hg;have hMl:M.length<=24:=by rw[<-hM,zqJ];omega
 simp[hne,la,hsp,w1,hfi,hi,hM,-Int.natCast_add];refine qaB (daI3 q a b c d s M (i+1) H) (fun fr _=>s.length-(ai (aget fr 5)).toNat) ⟨i+1,by omega,by omega,by omega,hg,by simp,friz⟩ ?_;clear hg m1 m2 m3 m4 hM w1 w0 hne la hy hFd hsg e32 hi24 h13f hfl;obtain⟨g,hgi⟩:∃g,g=i+1:=⟨_,rfl⟩
 rw[<-hgi];clear hgi hsp hfi hi hlt f i x;obtain⟨f,hff⟩:∃f,f=g:=⟨_,rfl⟩
 rw[<-hff];clear hff g;rintro fr K ⟨i,hfi,hi,hia,hFd,rfl,x,rfl⟩;by_cases hlt:i<s.length;rotate_left
 ·obtain rfl:i=s.length:=by omega
  have hx:=quG hFd;simp[];refine qeB E _ 1 s ?_;simp[Lk.av,Rq.avs,Rq.zero,flds];exact qab (v0:=Lk.av ⟨1,(s.length:Int),false,.zero,false,0,0,0⟩) (v:=Lk.av ⟨1,(s.length:Int),false,.zero,false,0,0,0⟩) hB (by simp[Lk.av,Rq.avs,Rq.zero,flds]) (qaa _) (Lk.bnd ⟨1,(s.length:Int),false,.zero,false,0,0,0⟩ _) (fin ⟨1,(s.length:Int),false,.zero,false,0,0,0⟩ hx)
 obtain⟨y,hy⟩:∃y,s[i]? =some y:=⟨_,zqD hlt⟩
 have la:=qas hy;have hne:((i:Int)==(s.length:Int))=false:=by rw[beq_eq_false_iff_ne];omega
 have w1:IntKind.i64.wrap ((i:Int)+1)=((i+1:Nat):Int):=wiz;have w0:IntKind.i64.wrap ((i:Int)-f)=((i-f:Nat):Int):=by rw[qak (by omega) (by omega)];omega
 obtain⟨m1,m2,m3,m4⟩:=fd_t hFd hy hfi hi;by_cases h32:y=32;rotate_left
 ·have b1:=(qaE y 32 (by decide) 32 rfl h32).1;by_cases h33:y.toNat<33
  ·have i33:(y.toNat:Int)<33:=by omega
   have hx:=m4 (by omega) (fun e=>h32 e.1);simp[hne,la,b1,i33];refine qaz E _ 400 111 (i:Int) (i:Int) (by omega) (by omega) ?_;simp[Lk.av,Rq.avs,Rq.zero,flds,-Int.natCast_add];exact qab (v0:=Lk.av ⟨5,(i:Int)+1,false,.zero,false,400,111,(i:Int)⟩) (v:=Lk.av ⟨5,(i:Int)+1,false,.zero,false,400,111,(i:Int)⟩) hB (by simp[Lk.av,Rq.avs,Rq.zero,flds]) (qaa _) (Lk.bnd ⟨5,(i:Int)+1,false,.zero,false,400,111,(i:Int)⟩ _) (fin ⟨5,(i:Int)+1,false,.zero,false,400,111,(i:Int)⟩ hx)
  have j33:¬(y.toNat:Int)<33:=by omega
  by_cases h126:126<y.toNat
  ·have i126:(126:Int)<y.toNat:=by omega
   have hx:=m4 (by omega) (fun e=>h32 e.1);simp[hne,la,b1,j33,i126];refine qaz E _ 400 111 (i:Int) (i:Int) (by omega) (by omega) ?_;simp[Lk.av,Rq.avs,Rq.zero,flds,-Int.natCast_add];exact qab (v0:=Lk.av ⟨5,(i:Int)+1,false,.zero,false,400,111,(i:Int)⟩) (v:=Lk.av ⟨5,(i:Int)+1,false,.zero,false,400,111,(i:Int)⟩) hB (by simp[Lk.av,Rq.avs,Rq.zero,flds]) (qaa _) (Lk.bnd ⟨5,(i:Int)+1,false,.zero,false,400,111,(i:Int)⟩ _) (fin ⟨5,(i:Int)+1,false,.zero,false,400,111,(i:Int)⟩ hx)
  have j126:¬(126:Int)<y.toNat:=by omega
  by_cases hfull:((i-f:Nat):Int)=a
  ·have hx:=m1 (by omega) hfull;have hge:a<=((i-f:Nat):Int):=by omega
   simp[hne,la,b1,j33,j126,w0,hge];refine qaz E _ 414 112 (i:Int) (i:Int) (by omega) (by omega) ?_;simp[Lk.av,Rq.avs,Rq.zero,flds,-Int.natCast_add];exact qab (v0:=Lk.av ⟨5,(i:Int)+1,false,.zero,false,414,112,(i:Int)⟩) (v:=Lk.av ⟨5,(i:Int)+1,false,.zero,false,414,112,(i:Int)⟩) hB (by simp[Lk.av,Rq.avs,Rq.zero,flds]) (qaa _) (Lk.bnd ⟨5,(i:Int)+1,false,.zero,false,414,112,(i:Int)⟩ _) (fin ⟨5,(i:Int)+1,false,.zero,false,414,112,(i:Int)⟩ hx)
  ·have hg:=m2 (by omega) hfull;have hge:¬a<=((i-f:Nat):Int):=by omega
   simp[hne,la,b1,j33,j126,w0,hge,w1,-Int.natCast_add];exact Klz ⟨i+1,by omega,by omega,by omega,hg,rfl,friz⟩
 subst h32;by_cases hsp:f<i;rotate_left
 ·have hx:=m4 (by decide) (fun e=>hsp e.2);simp[hne,la,hsp];refine qaz E _ 400 111 (i:Int) (i:Int) (by omega) (by omega) ?_;simp[Lk.av,Rq.avs,Rq.zero,flds,-Int.natCast_add];exact qab (v0:=Lk.av ⟨5,(i:Int)+1,false,.zero,false,400,111,(i:Int)⟩) (v:=Lk.av ⟨5,(i:Int)+1,false,.zero,false,400,111,(i:Int)⟩) hB (by simp[Lk.av,Rq.avs,Rq.zero,flds]) (qaa _) (Lk.bnd ⟨5,(i:Int)+1,false,.zero,false,400,111,(i:Int)⟩ _) (fin ⟨5,(i:Int)+1,false,.zero,false,400,111,(i:Int)⟩ hx)
 have hg:=m3 (by decide) rfl hsp;obtain⟨T,hT⟩:=exz ((s.drop f).take (i-f));rw[hT]at hg;have hTl:T.length<=65536:=by rw[<-hT,zqJ];omega
 simp[hne,la,hsp,w1,hfi,hi,hT,-Int.natCast_add];refine qaB (daI4 q a b c d s M T (i+1) H) (fun fr _=>10-(ai (aget fr 8)).toNat) ⟨0,0,by omega,fun _=>rfl,by omega,by omega,hg,by omega,fun j hj=>by omega,by simp,friz⟩ ?_;clear hg m1 m2 m3 m4 hT w1 w0 hne la hy hFd hia;obtain⟨g,hgi⟩:∃g,g=i+1:=⟨_,rfl⟩
 rw[<-hgi];clear hgi hsp hfi hi hlt f i x;obtain⟨f,hff⟩:∃f,f=g:=⟨_,rfl⟩
 rw[<-hff];clear hff g;rintro fr K ⟨k,m,hk10,hkm,hm9,hfk,hFd,hk9,hall,rfl,x,rfl⟩;by_cases h10:k<10
 ·obtain rfl:=hkm (by omega);have i10:(m:Int)<10:=by omega
  by_cases hlt:f+m<s.length;rotate_left
  ·have hfm:f+m=s.length:=by omega
   have hx:=quI (by rw[<-hfm];exact hFd) hfm;have hne:(((f+m:Nat):Int)==(s.length:Int))=true:=by rw[beq_iff_eq];omega
   simp[i10,hne,-Int.natCast_add];refine qeB E _ 1 s ?_;simp[Lk.av,Rq.avs,Rq.zero,flds];exact qab (v0:=Lk.av ⟨1,(s.length:Int),false,.zero,false,0,0,0⟩) (v:=Lk.av ⟨1,(s.length:Int),false,.zero,false,0,0,0⟩) hB (by simp[Lk.av,Rq.avs,Rq.zero,flds]) (qaa _) (Lk.bnd ⟨1,(s.length:Int),false,.zero,false,0,0,0⟩ _) (fin ⟨1,(s.length:Int),false,.zero,false,0,0,0⟩ hx)
  obtain⟨y,hy⟩:∃y,s[f+m]? =some y:=⟨_,zqD hlt⟩
  have la:=qas hy;have hne:(((f+m:Nat):Int)==(s.length:Int))=false:=by rw[beq_eq_false_iff_ne];omega
  have w1:IntKind.i64.wrap (((f+m:Nat):Int)+1)=((f+(m+1):Nat):Int):=by rw[qak (by omega) (by omega)];omega
  have w0:IntKind.i64.wrap ((m:Int)+1)=((m+1:Nat):Int):=by rw[qak (by omega) (by omega)];omega
  obtain⟨l1,l2,_⟩:=fd_l hFd hy hm9;simp[i10,hne,la,-Int.natCast_add];refine qlN E _ y m h10 ?_;obtain⟨gd,hgd⟩:=exz (qaM m y);rw[hgd]at l1 l2;rw[hgd];cases gd with
  |false=>
   have hx:=l1 rfl;simp[-Int.natCast_add];refine qaz E _ 400 111 ((f+m:Nat):Int) ((f+m:Nat):Int) (by omega) (by omega) ?_;simp[Lk.av,Rq.avs,Rq.zero,flds,-Int.natCast_add];exact qab (v0:=Lk.av ⟨5,((f+m:Nat):Int)+1,false,.zero,false,400,111,((f+m:Nat):Int)⟩) (v:=Lk.av ⟨5,((f+m:Nat):Int)+1,false,.zero,false,400,111,((f+m:Nat):Int)⟩) hB (by simp[Lk.av,Rq.avs,Rq.zero,flds]) (qaa _) (Lk.bnd ⟨5,((f+m:Nat):Int)+1,false,.zero,false,400,111,((f+m:Nat):Int)⟩ _) (fin ⟨5,((f+m:Nat):Int)+1,false,.zero,false,400,111,((f+m:Nat):Int)⟩ hx)
  |true=>
   simp[w1,w0,-Int.natCast_add];by_cases h9:m=9
   ·exact qaH ⟨m+1,m,by omega,by omega,by omega,by omega,hFd,by omega,fun j hj=>by
     rcases(by omega:j<m\/j=m)with h|rfl
     ·exact hall j h
     ·exact⟨y,hy,hgd⟩,rfl,friz⟩ (by simp;omega)
   ·exact qaH ⟨m+1,m+1,by omega,by omega,by omega,by omega,l2 rfl (by omega),by omega,fun j hj=>by
     rcases(by omega:j<m\/j=m)with h|rfl
     ·exact hall j h
     ·exact⟨y,hy,hgd⟩,rfl,friz⟩ (by simp;omega)
 obtain rfl:k=10:=by omega
 obtain rfl:=hk9 rfl;obtain⟨y,hy,hgy⟩:=hall 5 (by omega);obtain⟨z,hz,hgz⟩:=hall 7 (by omega);obtain⟨v,hv,hgv⟩:=hall 9 (by omega);obtain⟨_,_,l3⟩:=fd_l hFd hv (by omega);have dy:=qp7 (.inl rfl) hgy;have dz:=qp7 (.inr rfl) hgz;obtain⟨mj,hmj⟩:∃mj:Int,(y.toNat:Int)-48=mj:=⟨_,rfl⟩
 obtain⟨mn,hmn⟩:∃mn:Int,(z.toNat:Int)-48=mn:=⟨_,rfl⟩
 obtain⟨l5,l6,l7⟩:=l3 mj mn y z hgv rfl hy hz hmj hmn;have ly:=qas hy;have lz:=qas hz;have wy:IntKind.u8.wrap ((y.toNat:Int)-48)=mj:=by rw[hmj];exact wrap8 (by omega) (by omega)
 have wz:IntKind.u8.wrap ((z.toNat:Int)-48)=mn:=by rw[hmn];exact wrap8 (by omega) (by omega)
 have wj:IntKind.i64.wrap mj=mj:=wiz;have wn:IntKind.i64.wrap mn=mn:=wiz;have w5:IntKind.i64.wrap ((f:Int)+5)=((f+5:Nat):Int):=by rw[qak (by omega) (by omega)];omega
 have w7:IntKind.i64.wrap ((f:Int)+7)=((f+7:Nat):Int):=by rw[qak (by omega) (by omega)];omega
 have wm:IntKind.i64.wrap (((f+10:Nat):Int)-1)=((f+9:Nat):Int):=by rw[qak (by omega) (by omega)];omega
 by_cases hv1:mj=1;rotate_left
 ·have hx:=l5 (.inl hv1);have v1:(mj==1)=false:=by simpa using hv1
  have v2:(mj !=1)=true:=by simpa using hv1
  simp[ly,lz,wy,wz,wj,wn,w5,w7,wm,v1,v2,-Int.natCast_add];refine qaz E _ 505 117 ((f+9:Nat):Int) ((f+9:Nat):Int) (by omega) (by omega) ?_;simp[Lk.av,Rq.avs,Rq.zero,flds,-Int.natCast_add];exact qab (v0:=Lk.av ⟨5,((f+9:Nat):Int)+1,false,.zero,false,505,117,((f+9:Nat):Int)⟩) (v:=Lk.av ⟨5,((f+9:Nat):Int)+1,false,.zero,false,505,117,((f+9:Nat):Int)⟩) hB (by simp[Lk.av,Rq.avs,Rq.zero,flds]) (qaa _) (Lk.bnd ⟨5,((f+9:Nat):Int)+1,false,.zero,false,505,117,((f+9:Nat):Int)⟩ _) (fin ⟨5,((f+9:Nat):Int)+1,false,.zero,false,505,117,((f+9:Nat):Int)⟩ hx)
 subst hv1;by_cases hv2:1<mn
 ·have hx:=l5 (.inr hv2);simp[ly,lz,wy,wz,wj,wn,w5,w7,wm,hv2,-Int.natCast_add];refine qaz E _ 505 117 ((f+9:Nat):Int) ((f+9:Nat):Int) (by omega) (by omega) ?_;simp[Lk.av,Rq.avs,Rq.zero,flds,-Int.natCast_add];exact qab (v0:=Lk.av ⟨5,((f+9:Nat):Int)+1,false,.zero,false,505,117,((f+9:Nat):Int)⟩) (v:=Lk.av ⟨5,((f+9:Nat):Int)+1,false,.zero,false,505,117,((f+9:Nat):Int)⟩) hB (by simp[Lk.av,Rq.avs,Rq.zero,flds]) (qaa _) (Lk.bnd ⟨5,((f+9:Nat):Int)+1,false,.zero,false,505,117,((f+9:Nat):Int)⟩ _) (fin ⟨5,((f+9:Nat):Int)+1,false,.zero,false,505,117,((f+9:Nat):Int)⟩ hx)
 have hnot:¬((1:Int)≠1\/1<mn):=fun e=>by rcases e with e|e<;>omega
 simp[ly,lz,wy,wz,wj,wn,w5,w7,wm,hv2,-Int.natCast_add];refine qnq E _ M T (by omega) (fun fm pt h pa qu hq v=>?_);by_cases hte:tgtE M T=0;rotate_left
 ·have hx:=l6 hnot hte;have t1:(tgtE M T==0)=false:=by simpa using hte
  have t2:(tgtE M T !=0)=true:=by simpa using hte
  simp[t1,t2,tgV,wm,-Int.natCast_add];refine qaz E _ 400 (tgtE M T) ((f+9:Nat):Int) ((f+9:Nat):Int) (by omega) (by omega) ?_;simp[Lk.av,Rq.avs,Rq.zero,flds,-Int.natCast_add];exact qab (v0:=Lk.av ⟨5,((f+9:Nat):Int)+1,false,.zero,false,400,(tgtE M T),((f+9:Nat):Int)⟩) (v:=Lk.av ⟨5,((f+9:Nat):Int)+1,false,.zero,false,400,(tgtE M T),((f+9:Nat):Int)⟩) hB (by simp[Lk.av,Rq.avs,Rq.zero,flds]) (qaa _) (Lk.bnd ⟨5,((f+9:Nat):Int)+1,false,.zero,false,400,(tgtE M T),((f+9:Nat):Int)⟩ _) (fin ⟨5,((f+9:Nat):Int)+1,false,.zero,false,400,(tgtE M T),((f+9:Nat):Int)⟩ hx)
 have hg:=l7 hnot hte;simp[hte,tgV,-Int.natCast_add];refine qnT E _ q (pF0 a b c d M T 1 mn f) s (f+10) hg rfl rfl rfl rfl rfl rfl rfl rfl rfl rfl (by show 0<=b/\b<=1048576;omega) hlc hld (by omega) ?_;obtain⟨X,hX⟩:=exz (qaX (qao q s).1);rw[hX];simp[Lk.av,Rq.avs];exact qab (v0:=Lk.av X) (v:=Lk.av X) hB (by simp[Lk.av,Rq.avs,Rq.zero,flds]) (qaa _) (Lk.bnd X _) (fin X hX)
end
section
variable (E:Env){H:Hp}(Q:AV->Hp->Prop)
def lfI(l:List Fld)(H:Hp)(fr:List AV)(K:Hp):Prop:=K=H/\∃i:Nat,i<=l.length/\∃x:Nat->AV,fr=[.sl false 2 (flds l),.sl false 2 (flds l),x 2,x 3,x 4,.int .i64 (i:Int),x 6,x 7,x 8,x 9,x 10,x 11,x 12,x 13,x 14,x 15,x 16,x 17,x 18,x 19,x 20,x 21,x 22,x 23,x 24,x 25,x 26,x 27,x 28,x 29,x 30,x 31,x 32,x 33,x 34,x 35,x 36,x 37,x 38,x 39,x 40]
theorem qiy(l:List Fld)(hl:l.length<=1073741824)(hQ:Q (.bool true) H):PC Tryz.prog E 38 [.sl false 2 (flds l),.sl false 2 (flds l)] H Q:=by
 refine qac Tryz.func38 rfl [] [] (by kernel_rfl) (fun hB=>?_);simp[Tryz.ntmps38,Tryz.results38,List.replicate_succ];refine qaB (lfI l H) (fun fr _=>l.length-(ai (aget fr 5)).toNat) ⟨rfl,0,by omega,friz⟩ ?_;rintro fr K ⟨rfl,i,hi,x,rfl⟩;by_cases h:i<l.length
 ·obtain⟨f,hf⟩:∃f,l[i]? =some f:=⟨_,zqD h⟩
  have hat:=qdj hf;have w1:IntKind.i64.wrap ((i:Int)+1)=i+1:=wiz;simp[h,hat,w1];exact Klz ⟨rfl,i+1,by omega,friz⟩
 ·simp[h];exact aQz hB (h6:=hQ)
theorem qr0(r:Rq)(h1:r.fields.length<=1073741824)(h2:r.trailers.length<=1073741824)(hQ:Q (.bool true) H):PC Tryz.prog E 16 [r.av,r.av] H Q:=by
 refine qac Tryz.func16 rfl [] [] (by kernel_rfl) (fun hB=>?_);simp[Tryz.ntmps16,Tryz.results16,List.replicate_succ,Rq.av,Rq.avs];refine qiy E _ r.fields h1 ?_;simp;refine qiy E _ r.trailers h2 ?_;simp;exact aQy hB (h6:=hQ)
theorem qnA(a b c d:Int)(hQ:Q (limV a b c d) H):PC Tryz.prog E 14 [limV a b c d] H Q:=by
 refine qac Tryz.func14 rfl [] [] (by kernel_rfl) (fun hB=>?_);simp[Tryz.ntmps14,Tryz.results14,List.replicate_succ,limV];exact qab hB (v0:=limV a b c d) (by simp[limV]) (qaa _) (by simp[limV]) hQ
theorem qqd(a b c d:Int)(hQ:Q (.int .i64 (chkE a b c d)) H):PC Tryz.prog E 19 [limV a b c d] H Q:=by
 refine qac Tryz.func19 rfl [] [] (by kernel_rfl) (fun hB=>?_);have fin:∀e,chkE a b c d=e->Q (.int .i64 e) H:=fun e h=>h▸hQ;have bad:¬((1<=a/\a<=65536)/\(2<=b/\b<=1048576)/\(0<=c/\c<=100)/\(0<=d/\d<=1073741824))->Q (.int .i64 115) H:=fun h=>fin 115 (by unfold chkE;rw[if_neg h]);by_cases a1:a<1
 ·simp[Tryz.ntmps19,Tryz.results19,List.replicate_succ,limV,a1];exact qab hB rfl (qaa _) (by simp) (bad (by omega))
 by_cases a2:65536<a
 ·simp[Tryz.ntmps19,Tryz.results19,List.replicate_succ,limV,a1,a2];exact qab hB rfl (qaa _) (by simp) (bad (by omega))
 by_cases b1:b<2
 ·simp[Tryz.ntmps19,Tryz.results19,List.replicate_succ,limV,a1,a2,b1];exact qab hB rfl (qaa _) (by simp) (bad (by omega))
 by_cases b2:1048576<b
 ·simp[Tryz.ntmps19,Tryz.results19,List.replicate_succ,limV,a1,a2,b1,b2];exact qab hB rfl (qaa _) (by simp) (bad (by omega))
 by_cases c1:c<0
 ·simp[Tryz.ntmps19,Tryz.results19,List.replicate_succ,limV,a1,a2,b1,b2,c1];exact qab hB rfl (qaa _) (by simp) (bad (by omega))
 by_cases c2:100<c
 ·simp[Tryz.ntmps19,Tryz.results19,List.replicate_succ,limV,a1,a2,b1,b2,c1,c2];exact qab hB rfl (qaa _) (by simp) (bad (by omega))
 by_cases d1:d<0
 ·simp[Tryz.ntmps19,Tryz.results19,List.replicate_succ,limV,a1,a2,b1,b2,c1,c2,d1];exact qab hB rfl (qaa _) (by simp) (bad (by omega))
 by_cases d2:1073741824<d
 ·simp[Tryz.ntmps19,Tryz.results19,List.replicate_succ,limV,a1,a2,b1,b2,c1,c2,d1,d2];exact qab hB rfl (qaa _) (by simp) (bad (by omega))
 ·simp[Tryz.ntmps19,Tryz.results19,List.replicate_succ,limV,a1,a2,b1,b2,c1,c2,d1,d2];exact qab hB rfl (qaa _) (by simp) (fin 0 (by unfold chkE;rw[if_pos (by omega)]))
def lrI1(r:Rq)(H:Hp)(fr:List AV)(K:Hp):Prop:=∃i:Nat,i<=r.fields.length/\K=H++[r.avs,[.str [],.str [],.int .i64 0,.int .i64 0,.nil,.str [],.nil],[.str r.meth,.str r.targ,.int .i64 r.major,.int .i64 r.minor,.sl true 2 (flds (r.fields.take i)),.str r.body,.sl true 2 (flds [])]]/\
 ∃x:Nat->AV,fr=[x 0,.ptr (some (H.length,0)),.ptr (some (H.length+1,0)),.ptr (some (H.length+2,0)),.int .i64 (i:Int),x 5,x 6,x 7,x 8,x 9,x 10,x 11,x 12,x 13,x 14,x 15,x 16,x 17,x 18,x 19,x 20,x 21,x 22,x 23,x 24,x 25,x 26,x 27,x 28,x 29,x 30,x 31,x 32,x 33,x 34,x 35,x 36,x 37,x 38,x 39,x 40,x 41,x 42,x 43,x 44,x 45,x 46,x 47,x 48,x 49,x 50,x 51,x 52,x 53,x 54,x 55,x 56,x 57,x 58,x 59,x 60,x 61,x 62,x 63,x 64,x 65,x 66,x 67]
def lrI2(r:Rq)(H:Hp)(fr:List AV)(K:Hp):Prop:=∃i:Nat,i<=r.trailers.length/\K=H++[r.avs,[.str [],.str [],.int .i64 0,.int .i64 0,.nil,.str [],.nil],[.str r.meth,.str r.targ,.int .i64 r.major,.int .i64 r.minor,.sl true 2 (flds r.fields),.str r.body,.sl true 2 (flds (r.trailers.take i))]]/\
 ∃x:Nat->AV,fr=[x 0,.ptr (some (H.length,0)),.ptr (some (H.length+1,0)),.ptr (some (H.length+2,0)),x 4,.int .i64 (i:Int),x 6,x 7,x 8,x 9,x 10,x 11,x 12,x 13,x 14,x 15,x 16,x 17,x 18,x 19,x 20,x 21,x 22,x 23,x 24,x 25,x 26,x 27,x 28,x 29,x 30,x 31,x 32,x 33,x 34,x 35,x 36,x 37,x 38,x 39,x 40,x 41,x 42,x 43,x 44,x 45,x 46,x 47,x 48,x 49,x 50,x 51,x 52,x 53,x 54,x 55,x 56,x 57,x 58,x 59,x 60,x 61,x 62,x 63,x 64,x 65,x 66,x 67]
theorem qhe(r:Rq)(h1:r.fields.length<=16777216)(h2:r.trailers.length<=16777216)(hQ:Q r.av H):PC Tryz.prog E 30 [r.av] H Q:=by
 refine qac Tryz.func30 rfl [25,50] [] (by kernel_rfl) (fun hB=>?_);simp[Tryz.ntmps30,Tryz.results30,List.replicate_succ,Rq.av,Rq.avs];refine ql0 (H.length+2) _ 4 2 (by simp;rfl) (by rfl) ?_;refine ql0 (H.length+2) _ 6 2 (by simp;rfl) (by rfl) ?_;refine qaB (lrI1 r H) (fun fr _=>r.fields.length-(ai (aget fr 4)).toNat) ⟨0,by omega,by simp[Rq.avs,flds],friz⟩ ?_;rintro fr K ⟨i,hi,rfl,x,rfl⟩;by_cases h:i<r.fields.length
 ·obtain⟨f,hf⟩:∃f,r.fields[i]? =some f:=⟨_,zqD h⟩
  have hat:=qdj hf;have w1:IntKind.i64.wrap ((i:Int)+1)=i+1:=wiz;have htk:flds (r.fields.take i)++[[AV.str f.name,AV.str f.value]]=flds (r.fields.take (i+1)):=by rw[qej,List.take_add_one,hf];rfl
  have hlt:(r.fields.take i).length=i:=by rw[zqJ];omega
  have m1:i+1<=maxLen:=by unfold maxLen;omega
  have m2:(i+1)*32<=140737488355328:=by omega
  have m3:i<=maxLen:=by unfold maxLen;omega
  simp[Rq.avs,h,hat,w1,htk,hlt,m1,m2,m3,-List.length_take];exact Klz ⟨i+1,by omega,by simp[Rq.avs],friz⟩
 ·obtain rfl:i=r.fields.length:=by omega
  rw[List.take_length];simp[Rq.avs];refine qaB (lrI2 r H) (fun fr _=>r.trailers.length-(ai (aget fr 5)).toNat) ⟨0,by omega,by simp[Rq.avs,flds],friz⟩ ?_;rintro fr K ⟨i,hi,rfl,x,rfl⟩;by_cases h:i<r.trailers.length
  ·obtain⟨f,hf⟩:∃f,r.trailers[i]? =some f:=⟨_,zqD h⟩
   have hat:=qdj hf;have w1:IntKind.i64.wrap ((i:Int)+1)=i+1:=wiz;have htk:flds (r.trailers.take i)++[[AV.str f.name,AV.str f.value]]=flds (r.trailers.take (i+1)):=by rw[qej,List.take_add_one,hf];rfl
   have hlt:(r.trailers.take i).length=i:=by rw[zqJ];omega
   have m1:i+1<=maxLen:=by unfold maxLen;omega
   have m2:(i+1)*32<=140737488355328:=by omega
   have m3:i<=maxLen:=by unfold maxLen;omega
   simp[Rq.avs,h,hat,w1,htk,hlt,m1,m2,m3,-List.length_take];exact Klz ⟨i+1,by omega,by simp[Rq.avs],friz⟩
  ·obtain rfl:i=r.trailers.length:=by omega
   rw[List.take_length];simp[Rq.avs];exact qab hB (v0:=r.av) (by simp[Rq.av,Rq.avs]) (qaa _) (by simp[Rq.av,Rq.avs,qdd]) hQ
def awkT:List UInt8:=[71,69,84,32,47,97,32,72,84,84,80,47,49,46,48,13,10,13,10,120]
theorem qsJ:(qao (newP 8000 16384 100 1048576) awkT).2=19/\(qao (newP 8000 16384 100 1048576) awkT).1.state=4/\(qao (newP 8000 16384 100 1048576) awkT).1.meth=[71,69,84]/\(qao (newP 8000 16384 100 1048576) awkT).1.targ=[47,97]/\(qao (newP 8000 16384 100 1048576) awkT).1.major=1:=by decide+kernel
theorem qhl(hE:PE E)(hQ:Q (.bool true) H):PC Tryz.prog E 15 [] H Q:=by
 refine qac Tryz.func15 rfl [] [] (by kernel_rfl) (fun hB=>?_);simp[Tryz.ntmps15,Tryz.results15,List.replicate_succ];refine qo5 E _ ?_;simp;refine qj0 E _ hE 8000 16384 100 1048576 awkT (by decide) ?_;obtain⟨g1,g2,g3,g4,g5⟩:=qsJ;have hch:chkE 8000 16384 100 1048576=0:=by decide
 have hk:qeG (qao (newP 8000 16384 100 1048576) awkT).1=1:=by unfold qeG;rw[if_pos g2]
 have hf:fltV (qao (newP 8000 16384 100 1048576) awkT).1= .agg [.int .i64 0,.int .i64 0,.int .i64 0]:=by unfold fltV;rw[if_neg (by omega)]
 unfold qq7;rw[if_pos hch,hk,hf,g1,g2];have hrq:Rq.if (decide ((4:Int)=4)) (qao (newP 8000 16384 100 1048576) awkT).1.rq=(qao (newP 8000 16384 100 1048576) awkT).1.rq:=rfl;rw[hrq];simp[Rq.av,Rq.avs,Prs.rq,g3,g4,g5];exact aQy hB (h6:=hQ)
end
section
variable (E:Env){H:Hp}(Q:AV->Hp->Prop)
theorem qsp(s:List UInt8)(hl:s.length<=cap)(hQ:Q (.bool (tokB s&&decide (s.length<=24))) H):PC Tryz.prog E 22 [.str s] H Q:=by
 refine qac Tryz.func22 rfl [] [] (by kernel_rfl) (fun hB=>?_);simp[Tryz.ntmps22,Tryz.results22,List.replicate_succ];refine qlo E _ _ s hl ?_;cases ht:tokB s with
 |false=>
  rw[ht]at hQ;simp;exact aQz hB (h6:=hQ)
 |true=>
  rw[ht]at hQ;have e:decide ((s.length:Int)<=24)=decide (s.length<=24):=by rw[decide_eq_decide];omega
  rw[Bool.true_and,<-e]at hQ;simp;exact aQz hB (h6:=hQ)
end
end Go.Proofs.YtnnhdehmlkkfjaaGreatDoor
namespace Go.Proofs.YtnnhdehmlkkfjaaGreatDoor
open Go Go.RowKit Go.Proofs Go.Deep
def PZ(E:Env):Prop:=PE E/\SZ E
def qgF(W:World):Prop:=∃m:Int,W.cell? ⟨2,0,none⟩=some (.int .i64 m)
theorem qhd{W:World}(h:W.ShapedOpen Tryz.prog):qgF W:=
 cell_of_shapedOpen_int (zero:= #[.int .i64 0]) (t:=3) h (of_decide_eq_true (by kernel_rfl)) (by kernel_rfl) rfl (by kernel_rfl) (by kernel_rfl) Tryz.underlying3
theorem qsC{f:FuncId}{args:List AV}{cargs:Array Value}{W:World}(hT:Tabs W)(hM:qgF W)(hsz:cargs.size=args.length)
  (hargs:∀(t:Nat) x u,args[t]? =some x->cargs[t]? =some u->Rel W (fun _=>0) (old W) x u/\Bnd 0 x/\x.free=true)
  (h:∀(E:Env) (Q:AV->Hp->Prop),PZ E->Q (.bool true) []->PC Tryz.prog E f args [] Q):Calls Tryz.prog f cargs W fun e w'=>e= .returned (.bool true)/\Frm (fun _=>False) W w':=by
 obtain⟨m,hm⟩:=hM
 refine qkQ (fun b=>b=0\/b=4\/b=1\/b=2)
  (fun b hb=>?_) (old W) (fun _ _ h=>h) hsz hargs
  (fun E Q h0 hf hq=>h E Q ⟨⟨⟨⟨by rw[hf];exact .inl rfl,by rw[h0];exact hT.1⟩,by rw[hf];exact .inr (.inr (.inl rfl)),by rw[h0];exact hT.2.2⟩,⟨by rw[hf];exact .inr (.inr (.inr rfl)),m,by rw[h0];exact hm⟩⟩,⟨by rw[hf];exact .inl rfl,by rw[h0];exact hT.1⟩,by rw[hf];exact .inr (.inl rfl),by rw[h0];exact hT.2.1⟩ hq)
 rcases hb with hb|hb|hb|hb
 ·exact quw W hT.1 b hb
 ·exact hb▸World.block_lt_of_cell? _ _ hT.2.1
 ·exact hb▸tab_lt hT.2.2
 ·exact hb▸World.block_lt_of_cell? _ _ hm
section
variable (E:Env){H:Hp}(Q:AV->Hp->Prop)
theorem qp3(a b c d:Int)(s:List UInt8)(hl:s.length<=4194304)
  (hQ1:chkE a b c d=0->Q (.tup [(qaX (qao (newP a b c d) s).1).av,.int .i64 (qeG (qao (newP a b c d) s).1)]) H)
  (hQ2:chkE a b c d≠0->Q (.tup [(Lk.mk 0 0 false .zero false 0 115 0).av,.int .i64 2]) H):PC Tryz.prog E 13 [limV a b c d,.str s] H Q:=by
 refine PC.nilD ?_;refine qac Tryz.func13 rfl [] [] (by kernel_rfl) (fun hB=>?_);simp[Tryz.ntmps13,Tryz.results13,List.replicate_succ,limV];refine qqd E _ a b c d ?_;by_cases h0:chkE a b c d=0
 ·have hQ:=hQ1 h0;clear hQ1 hQ2;simp[h0];refine dat_pc E _ a b c d h0 s hl ?_;obtain⟨P,hP⟩:=exz ((qao (newP a b c d) s).1);rw[hP]at hQ⊢;obtain⟨X,hX⟩:=exz (qaX P);have hst:X.state=P.state:=by rw[<-hX,qlB]
  rw[hX]at hQ⊢;unfold qeG at hQ;by_cases h4:P.state=4
  ·rw[if_pos h4]at hQ;simp[Lk.av,Rq.avs,hst,h4];exact qab (v0:= .tup [X.av,.int .i64 1]) (v:= .tup [X.av,.int .i64 1]) hB (by simp[Lk.av,Rq.avs,hst,h4]) (qaa _) (.tup _ fun y hy=>by simp only[List.mem_cons,List.not_mem_nil,or_false]at hy;rcases hy with rfl|rfl;exact Lk.bnd X _;exact .int _ _) ⟨_,.same _,hQ⟩
  rw[if_neg h4]at hQ;have h4':(P.state==4)=false:=by simpa using h4
  by_cases h5:P.state=5
  ·rw[if_pos h5]at hQ;simp[Lk.av,Rq.avs,hst,h5];exact qab (v0:= .tup [X.av,.int .i64 2]) (v:= .tup [X.av,.int .i64 2]) hB (by simp[Lk.av,Rq.avs,hst,h5]) (qaa _) (.tup _ fun y hy=>by simp only[List.mem_cons,List.not_mem_nil,or_false]at hy;rcases hy with rfl|rfl;exact Lk.bnd X _;exact .int _ _) ⟨_,.same _,hQ⟩
  rw[if_neg h5]at hQ;have h5':(P.state==5)=false:=by simpa using h5
  simp[Lk.av,Rq.avs,hst,h4',h5'];exact qab (v0:= .tup [X.av,.int .i64 0]) (v:= .tup [X.av,.int .i64 0]) hB (by simp[Lk.av,Rq.avs,hst]) (qaa _) (.tup _ fun y hy=>by simp only[List.mem_cons,List.not_mem_nil,or_false]at hy;rcases hy with rfl|rfl;exact Lk.bnd X _;exact .int _ _) ⟨_,.same _,hQ⟩
 ·have hQ:=hQ2 h0;have h1:(chkE a b c d==0)=false:=by simpa using h0
  have h2:(chkE a b c d !=0)=true:=by simpa using h0
  simp[h1,h2];exact qab (v0:= .tup [.agg (lkN 0 0 0 115 0),.int .i64 2]) (v:= .tup [.agg (lkN 0 0 0 115 0),.int .i64 2]) hB (by simp[lkN]) (qaa _) (by simp[lkN]) ⟨.tup [(Lk.mk 0 0 false .zero false 0 115 0).av,.int .i64 2],qgE (m:=[(Lk.mk 0 0 false .zero false 0 115 0).av,.int .i64 2]) ⟨qcP (by simp[lkN,Lk.av,Rq.avs,Rq.zero,flds]),.same _,trivial⟩,hQ⟩
variable {b j:Nat}{p:Prs}
end
section
variable (E:Env){H:Hp}(Q:AV->Hp->Prop)
end
end Go.Proofs.YtnnhdehmlkkfjaaGreatDoor
namespace Go.Proofs.YtnnhdehmlkkfjaaGreatDoor
open Go Go.Shelf Go.Proofs
def lrenw:Go.Shelf.Ren:=⟨fun|15=>71|20=>103|n=>n,fun|0=>0|3=>3|4=>4|9=>9|21=>21|23=>117|n=>n,fun|n=>n⟩
theorem qpq:Go.Proofs.LaysGw.n15 Tryz.prog lrenw:={
 mixed:=by kernel_rfl
 f15:=lfz Tryz.func71
 f20:=lfz Tryz.func103
 t0:=Tryz.underlying0
 a0:=Tryz.isAgg0
 z0:=Tryz.sizeOf0
 v0:=Tryz.zeroValue0
 i0:=by kernel_rfl
 t3:=Tryz.underlying3
 a3:=Tryz.isAgg3
 z3:=Tryz.sizeOf3
 v3:=Tryz.zeroValue3
 i3:=by kernel_rfl
 t4:=Tryz.underlying4
 a4:=Tryz.isAgg4
 z4:=Tryz.sizeOf4
 v4:=Tryz.zeroValue4
 i4:=by kernel_rfl
 t9:=Tryz.underlying9
 a9:=Tryz.isAgg9
 z9:=Tryz.sizeOf9
 v9:=Tryz.zeroValue9
 i9:=by kernel_rfl
 t21:=Tryz.underlying21
 a21:=Tryz.isAgg21
 z21:=Tryz.sizeOf21
 v21:=Tryz.zeroValue21
 i21:=by kernel_rfl
 t23:=Tryz.underlying117
 a23:=Tryz.isAgg117
 z23:=Tryz.sizeOf117
 v23:=Tryz.zeroValue117
 i23:=by kernel_rfl}
end Go.Proofs.YtnnhdehmlkkfjaaGreatDoor
namespace Go.Proofs.YtnnhdehmlkkfjaaGreatDoor
open Go Go.RowKit Go.Shelf
theorem dN_lo(n b0 b1 b2 b3:Nat)(h:b0<128):Lib.decodeN n b0 b1 b2 b3=(b0,1):=by unfold Lib.decodeN;rw[if_pos h]
theorem dN_hi(n b0 b1 b2 b3:Nat)(h:128<=b0):126<(Lib.decodeN n b0 b1 b2 b3).1:=by
 unfold Lib.decodeN;rw[if_neg (by omega)]
 repeat' split
 all_goals (simp only;omega)
def notL(x:Nat):Bool:=decide (x<33)||decide (126<x)
theorem qmG(s:ByteArray):∀(f pos:Nat),s.size<=pos+f->(Lib.idxFuncFrom notL true s f pos<0↔∀b∈s.data.toList.drop pos,33<=b.toNat/\b.toNat<=126)
 |f,pos,hf=>by
  by_cases hp:pos<s.size
  ·obtain⟨g,rfl⟩:∃g,f=g+1:=⟨f-1,by omega⟩
   have hat:s.data.toList[pos]? =some (s.get! pos):=by
    have h1:pos<s.data.toList.length:=by rw[Array.length_toList];exact hp
    rw[zqD h1];simp[ByteArray.get!,getElem!_pos,hp]
   have hd:=qay _ _ _ hat;rw[Lib.idxFuncFrom,if_pos hp,Lib.decode_at,hd];by_cases hlo:(s.get! pos).toNat<128
   ·rw[dN_lo _ _ _ _ _ hlo];by_cases hn:notL (s.get! pos).toNat=true
    ·rw[if_pos hn];unfold notL at hn;simp only[Bool.or_eq_true,decide_eq_true_eq]at hn;refine⟨fun h=>by omega,fun h=>?_⟩;have:=h _ (.head _);omega
    ·rw[if_neg hn];have ih:=qmG s g (pos+1) (by omega);unfold notL at hn;simp only[Bool.or_eq_true,decide_eq_true_eq]at hn;rw[ih];refine⟨fun h b hb=>?_,fun h b hb=>h b (.tail _ hb)⟩;rcases List.mem_cons.1 hb with rfl|hb
     ·omega
     ·exact h b hb
   ·have hh:=dN_hi (s.size-pos) (s.get! pos).toNat (s.get! (pos+1)).toNat (s.get! (pos+2)).toNat (s.get! (pos+3)).toNat (by omega);rw[if_pos (by unfold notL;simp;omega)];refine⟨fun h=>by omega,fun h=>?_⟩;have:=h _ (.head _);omega
  ·have h0:s.data.toList.drop pos=[]:=List.drop_eq_nil_of_le (by rw[Array.length_toList];show s.size<=pos;omega);rw[Lib.idxFuncFrom_end _ _ _ _ _ hp,h0];simp
theorem qjc(x:Nat)(hx:x<=1114111)(w:World):Calls Tryz.prog 72 #[encR x] w fun e w'=>e= .returned (.bool (notL x))/\Below w.heap.size w w':=by
 unfold encR notL;by_cases h1:x<33
 ·go_enter Tryz.func72,Tryz.ntmps72
  go_wp2
  go_ret
  exact⟨by simp[h1],Below.refl _ _⟩
 ·by_cases h2:126<x
  ·go_enter Tryz.func72,Tryz.ntmps72
   go_wp2
   go_ret
   exact⟨by simp[h2];omega,Below.refl _ _⟩
  ·go_enter Tryz.func72,Tryz.ntmps72
   go_wp2
   go_ret
   exact⟨by simp[h1,h2];omega,Below.refl _ _⟩
section
variable (E:Env){H:Hp}(Q:AV->Hp->Prop)
theorem qku(l:List UInt8)(hQ:∀z:Int,(z<0↔∀b∈l,33<=b.toNat/\b.toNat<=126)->Q (.int .i64 z) H):PC Tryz.prog E 71 [.str l,.fn 72 []] H Q:=by
 refine⟨by kernel_rfl,fun w β Rd Ow cargs hHR hOw hsz hargs=>?_⟩;obtain⟨u,v,rfl,hu,hv⟩:=args2 hsz (fun t x u hx hu=>(hargs t x u hx hu).1);obtain⟨s,rfl,rfl,hs⟩:=qaC hu
 have hv':v= .func (.func 72) #[] #[]:=by
  cases hv with
  |fn _ _ vs hl _ _ _=>
   have:vs= #[]:=Array.eq_empty_of_size_eq_zero (by simpa using hl);rw[this]
 subst hv';have eg:∀args w,(callFunc 72 args).run Tryz.prog w= .ok (.enter 72 args) w:=enters_of Tryz.func72 (by kernel_rfl) rfl;refine(Any.strings_IndexFunc_grows qpq 72 #[] eg notL s w (fun W x hx hb=>qjc x hx W)).mono ?_;rintro e w' ⟨rfl,hb⟩;have hi:=qmG s s.size 0 (by omega);rw[List.drop_zero]at hi;exact⟨_,_,H,β,_,Ow,rfl,hQ _ hi,qcY hHR (qbM hb) (fun _ _=>False) (fun _ _ h=>h.elim) (.int _ _) (.int _ _) rfl⟩
theorem qpu(l:List UInt8)(hQ:Q (.bool (qb8 l)) H):PC Tryz.prog E 52 [.str l] H Q:=by
 refine qac Tryz.func52 rfl [] [] (by kernel_rfl) (fun hB=>?_);unfold qb8 at hQ;by_cases h:l=[]
 ·subst h;simp[Tryz.ntmps52,Tryz.results52,List.replicate_succ];exact aQz hB (h6:=hQ)
 ·have h1:(l !=[])=true:=by simpa using h
  have h2:l.isEmpty=false:=by simpa using h
  rw[h2]at hQ;simp[Tryz.ntmps52,Tryz.results52,List.replicate_succ,h1];refine qku E _ l (fun z hz=>?_)
  have e:decide (z<0)=l.all fun c=>decide (33<=c.toNat)&&decide (c.toNat<=126):=by
   rw[Bool.eq_iff_iff,decide_eq_true_eq,hz,List.all_eq_true];simp
  simp;refine aQz hB (h6:=?_);rw[e];exact hQ
end
end Go.Proofs.YtnnhdehmlkkfjaaGreatDoor
namespace Go.Proofs.YtnnhdehmlkkfjaaGreatDoor
open Go Go.RowKit
structure szQ (r:Rq):Prop where
 m:r.meth.length<=1073741824
 t:r.targ.length<=1073741824
 f:fsz r.fields+r.fields.length<=4194304
 b:r.body.length<=1048576
 tr:fsz r.trailers+r.trailers.length<=1048577
theorem lemax{n:Nat}(h:n<=8589934592):(n<=maxLen)=True:=by unfold maxLen;simp;omega
theorem qer(l:List Fld):(qbt l).1.length<=fsz l+4*l.length:=by
 unfold qbt
 repeat' split
 all_goals first
  |(simp only[List.length_nil];omega)
  |exact qcx l
theorem qeA(b:List UInt8)(ts:List Fld)(hb:b.length<=1048576)(ht:fsz ts+ts.length<=1048577):(qbh b [] ts).1.length<=1073741824:=by
 unfold qbh
 repeat' split
 ·simp
 ·simp
 ·have hp:(qan b []).flatten=b:=qdR _ b;have h1:=qeC (qan b []) (qfq [] b (by simp)) (by rw[hp];omega);rw[hp]at h1;have h2:=qcx ts;unfold encT;simp only[zqK,zqL,List.length_nil];omega
section
variable (E:Env){H:Hp}(Q:AV->Hp->Prop)
theorem qo9(hE:PZ E)(r:Rq)(hz:szQ r)(hQ:Q (.tup [.str (qbv r).1,.int .i64 (qbv r).2]) H):PC Tryz.prog E 35 [r.av] H Q:=by
 refine qac Tryz.func35 rfl [] [(22,[0,0,0,0,0,0,0,0,0,0,0,1])] (by kernel_rfl) (fun hB=>?_);have fin:∀t e,qbv r=(t,e)->Q (.tup [.str t,.int .i64 e]) H:=fun t e h=>by rw[h]at hQ;exact hQ
 obtain⟨z1,z2,z3,z4,z5⟩:=hz;have hme:qke r.meth=(tokB r.meth&&decide (r.meth.length<=24)):=rfl;unfold qbv at fin;clear hQ;simp[Tryz.ntmps35,Tryz.results35,List.replicate_succ,Rq.av,Rq.avs];refine qrP E _ hE.1.1.1 r.meth (by simp only[cap];omega) ?_;rw[<-hme];cases h1:qke r.meth with
 |false=>
  rw[h1,if_pos rfl]at fin;simp;exact aQy hB (h6:=(fin [] 110 rfl))
 |true=>
 rw[h1,if_neg (by simp)]at fin;simp;refine qpu E _ r.targ ?_;cases h2:qb8 r.targ with
 |false=>
  rw[h2,if_pos rfl]at fin;simp;exact aQy hB (h6:=(fin [] 111 rfl))
 |true=>
 rw[h2,if_neg (by simp)]at fin;by_cases h3:r.major=1;rotate_left
 ·have h3':(r.major==1)=false:=by simpa using h3
  have h3'':(r.major !=1)=true:=by simpa using h3
  rw[if_pos (.inl h3)]at fin;simp[h3',h3''];exact aQy hB (h6:=(fin [] 117 rfl))
 by_cases h4:r.minor=0\/r.minor=1;rotate_left
 ·have h40:(r.minor==0)=false:=by simpa using fun e=>h4 (.inl e)
  have h41:(r.minor==1)=false:=by simpa using fun e=>h4 (.inr e)
  have h40':(r.minor !=0)=true:=by simpa using h40
  have h41':(r.minor !=1)=true:=by simpa using h41
  rw[if_pos (.inr ⟨fun e=>h4 (.inl e),fun e=>h4 (.inr e)⟩)]at fin;simp[h3,h40,h41,h40',h41'];exact aQy hB (h6:=(fin [] 117 rfl))
 rw[if_neg (fun h=>h.elim (fun h=>h h3) (fun h=>h4.elim h.1 h.2))]at fin
 have hmin:r.minor=0\/((r.minor==0)=false/\(r.minor !=0)=true/\r.minor=1):=by
  rcases h4 with h|h
  ·exact .inl h
  ·exact .inr ⟨by rw[h];decide,by rw[h];decide,h⟩
 rcases hmin with hmi|⟨hm0,hm1,hmi⟩
 ·simp[h3,hmi];rw[show decide (r.minor=0)=true from by rw[hmi];rfl]at fin;refine qkz E _ _ hE.1.1.1 r.fields (by omega) ?_;have hfl:=qer r.fields;obtain⟨ft,fe,hfp⟩:∃ft fe,qbt r.fields=(ft,fe):=⟨_,_,rfl⟩
  have hpq:preQ r=r.meth++([32]++(r.targ++([32]++([72,84,84,80,47]++([49,46]++(Go.Lib.itoa 0++([13,10]++(ft++[13,10])))))))):=by unfold preQ;rw[hfp,hmi]
  rw[hfp]at fin hfl⊢;simp only at fin hfl;by_cases h5:fe=0;rotate_left
  ·have h5':(fe==0)=false:=by simpa using h5
   have h5'':(fe !=0)=true:=by simpa using h5
   rw[if_pos h5]at fin;simp[h5',h5''];exact aQy hB (h6:=(fin [] fe rfl))
  subst h5;rw[if_neg (by simp)]at fin;simp[hmi];refine qfZ E _ _ hE.1.1.1 r.fields _ (by omega) ?_;obtain⟨kd,ln,e0,hFr⟩:∃kd ln e0,qaj r.fields true=(kd,ln,e0):=⟨_,_,_,rfl⟩
  rw[hFr]at fin⊢;simp only at fin;by_cases h6:e0=0;rotate_left
  ·have h6':(e0==0)=false:=by simpa using h6
   have h6'':(e0 !=0)=true:=by simpa using h6
   rw[if_pos h6]at fin;simp[h6',h6''];exact aQy hB (h6:=(fin [] e0 rfl))
  subst h6;rw[if_neg (by simp)]at fin;by_cases h7:kd=2
  ·subst h7;rw[if_neg (fun h=>h.1 rfl),if_neg (fun h=>h.1 rfl),if_pos rfl]at fin;simp[];refine PC.argsNil (args':=[.str r.body,.sl false 1 (ints []),.sl false 2 (flds r.trailers)]) ⟨.inl rfl,.inr ⟨rfl,false,1,rfl⟩,.inl rfl,trivial⟩ (by simp) (qkK E _ _ hE.2 r.body [] r.trailers z4 (by simp) z5 (by simp) ?_);have hel:=qeA r.body r.trailers z4 z5;obtain⟨et,ee,hen⟩:∃et ee,qbh r.body [] r.trailers=(et,ee):=⟨_,_,rfl⟩
   rw[hen]at fin hel⊢;simp only at fin hel;by_cases h8:ee=0;rotate_left
   ·have h8':(ee==0)=false:=by simpa using h8
    have h8'':(ee !=0)=true:=by simpa using h8
    rw[if_pos h8]at fin;simp[h8',h8''];exact aQy hB (h6:=(fin [] ee rfl))
   subst h8;rw[if_neg (by simp)]at fin;have hil:=(qdi 0 (by decide) (by decide)).1;simp[]
   iterate 5 (rw[if_pos (by unfold maxLen;(try simp only[zqK,zqL,List.length_nil]);omega)];simp[])
   refine qdx E _ hE.1.1 0 (by omega) (by omega) ?_;simp[KP,qap,qah]
   iterate 5 (rw[if_pos (by unfold maxLen;(try simp only[zqK,zqL,List.length_nil]);omega)];simp[])
   exact qab hB (v0:= .tup [.str (preQ r++et),.int .i64 0]) (v:= .tup [.str (preQ r++et),.int .i64 0]) (by simp[hpq]) (qaa _) (by simp) (fin _ 0 rfl)
  ·rw[if_neg h7]at fin;have h7':(kd==2)=false:=by simpa using h7
   have h7'':(kd !=2)=true:=by simpa using h7
   by_cases h8:(r.body.length:Int)=ln;rotate_left
   ·have h8':((r.body.length:Int)==ln)=false:=by simpa using h8
    have h8'':((r.body.length:Int) !=ln)=true:=by simpa using h8
    rw[if_pos ⟨h7,h8⟩]at fin;simp[h7',h7'',h8',h8''];exact aQy hB (h6:=(fin [] 114 rfl))
   rw[if_neg (fun h=>h.2 h8)]at fin;by_cases h9:r.trailers=[]
   rotate_left
   ·have h9':0<r.trailers.length:=List.length_pos_iff.2 h9;have h9'':(0:Int)<r.trailers.length:=by omega
    rw[if_pos ⟨h7,h9⟩]at fin;simp[h7',h7'',h8,h9',h9''];exact aQy hB (h6:=(fin [] 113 rfl))
   rw[if_neg (fun h=>h.2 h9)]at fin;have h9':r.trailers.length=0:=by rw[h9];rfl
   have hel:r.body.length<=1073741824:=by omega
   simp[h7',h7'',h8,h9,h9'];have hil:=(qdi 0 (by decide) (by decide)).1
   iterate 5 (rw[if_pos (by unfold maxLen;(try simp only[zqK,zqL,List.length_nil]);omega)];simp[])
   refine qdx E _ hE.1.1 0 (by omega) (by omega) ?_;simp[KP,qap,qah]
   iterate 5 (rw[if_pos (by unfold maxLen;(try simp only[zqK,zqL,List.length_nil]);omega)];simp[])
   exact qab hB (v0:= .tup [.str (preQ r++r.body),.int .i64 0]) (v:= .tup [.str (preQ r++r.body),.int .i64 0]) (by simp[hpq]) (qaa _) (by simp) (fin _ 0 rfl)
 ·simp[h3,hm0,hm1,hmi];rw[show decide (r.minor=0)=false from by rw[hmi];rfl]at fin;refine qkz E _ _ hE.1.1.1 r.fields (by omega) ?_;have hfl:=qer r.fields;obtain⟨ft,fe,hfp⟩:∃ft fe,qbt r.fields=(ft,fe):=⟨_,_,rfl⟩
  have hpq:preQ r=r.meth++([32]++(r.targ++([32]++([72,84,84,80,47]++([49,46]++(Go.Lib.itoa 1++([13,10]++(ft++[13,10])))))))):=by unfold preQ;rw[hfp,hmi]
  rw[hfp]at fin hfl⊢;simp only at fin hfl;by_cases h5:fe=0;rotate_left
  ·have h5':(fe==0)=false:=by simpa using h5
   have h5'':(fe !=0)=true:=by simpa using h5
   rw[if_pos h5]at fin;simp[h5',h5''];exact aQy hB (h6:=(fin [] fe rfl))
  subst h5;rw[if_neg (by simp)]at fin;simp[hmi];refine qfZ E _ _ hE.1.1.1 r.fields _ (by omega) ?_;obtain⟨kd,ln,e0,hFr⟩:∃kd ln e0,qaj r.fields false=(kd,ln,e0):=⟨_,_,_,rfl⟩
  rw[hFr]at fin⊢;simp only at fin;by_cases h6:e0=0;rotate_left
  ·have h6':(e0==0)=false:=by simpa using h6
   have h6'':(e0 !=0)=true:=by simpa using h6
   rw[if_pos h6]at fin;simp[h6',h6''];exact aQy hB (h6:=(fin [] e0 rfl))
  subst h6;rw[if_neg (by simp)]at fin;by_cases h7:kd=2
  ·subst h7;rw[if_neg (fun h=>h.1 rfl),if_neg (fun h=>h.1 rfl),if_pos rfl]at fin;simp[];refine PC.argsNil (args':=[.str r.body,.sl false 1 (ints []),.sl false 2 (flds r.trailers)]) ⟨.inl rfl,.inr ⟨rfl,false,1,rfl⟩,.inl rfl,trivial⟩ (by simp) (qkK E _ _ hE.2 r.body [] r.trailers z4 (by simp) z5 (by simp) ?_);have hel:=qeA r.body r.trailers z4 z5;obtain⟨et,ee,hen⟩:∃et ee,qbh r.body [] r.trailers=(et,ee):=⟨_,_,rfl⟩
   rw[hen]at fin hel⊢;simp only at fin hel;by_cases h8:ee=0;rotate_left
   ·have h8':(ee==0)=false:=by simpa using h8
    have h8'':(ee !=0)=true:=by simpa using h8
    rw[if_pos h8]at fin;simp[h8',h8''];exact aQy hB (h6:=(fin [] ee rfl))
   subst h8;rw[if_neg (by simp)]at fin;have hil:=(qdi 1 (by decide) (by decide)).1;simp[]
   iterate 5 (rw[if_pos (by unfold maxLen;(try simp only[zqK,zqL,List.length_nil]);omega)];simp[])
   refine qdx E _ hE.1.1 1 (by omega) (by omega) ?_;simp[KP,qap,qah]
   iterate 5 (rw[if_pos (by unfold maxLen;(try simp only[zqK,zqL,List.length_nil]);omega)];simp[])
   exact qab hB (v0:= .tup [.str (preQ r++et),.int .i64 0]) (v:= .tup [.str (preQ r++et),.int .i64 0]) (by simp[hpq]) (qaa _) (by simp) (fin _ 0 rfl)
  ·rw[if_neg h7]at fin;have h7':(kd==2)=false:=by simpa using h7
   have h7'':(kd !=2)=true:=by simpa using h7
   by_cases h8:(r.body.length:Int)=ln;rotate_left
   ·have h8':((r.body.length:Int)==ln)=false:=by simpa using h8
    have h8'':((r.body.length:Int) !=ln)=true:=by simpa using h8
    rw[if_pos ⟨h7,h8⟩]at fin;simp[h7',h7'',h8',h8''];exact aQy hB (h6:=(fin [] 114 rfl))
   rw[if_neg (fun h=>h.2 h8)]at fin;by_cases h9:r.trailers=[]
   rotate_left
   ·have h9':0<r.trailers.length:=List.length_pos_iff.2 h9;have h9'':(0:Int)<r.trailers.length:=by omega
    rw[if_pos ⟨h7,h9⟩]at fin;simp[h7',h7'',h8,h9',h9''];exact aQy hB (h6:=(fin [] 113 rfl))
   rw[if_neg (fun h=>h.2 h9)]at fin;have h9':r.trailers.length=0:=by rw[h9];rfl
   have hel:r.body.length<=1073741824:=by omega
   simp[h7',h7'',h8,h9,h9'];have hil:=(qdi 1 (by decide) (by decide)).1
   iterate 5 (rw[if_pos (by unfold maxLen;(try simp only[zqK,zqL,List.length_nil]);omega)];simp[])
   refine qdx E _ hE.1.1 1 (by omega) (by omega) ?_;simp[KP,qap,qah]
   iterate 5 (rw[if_pos (by unfold maxLen;(try simp only[zqK,zqL,List.length_nil]);omega)];simp[])
   exact qab hB (v0:= .tup [.str (preQ r++r.body),.int .i64 0]) (v:= .tup [.str (preQ r++r.body),.int .i64 0]) (by simp[hpq]) (qaa _) (by simp) (fin _ 0 rfl)
end
def dpI(r:Rq)(H:Hp)(fr:List AV)(K:Hp):Prop:=K=H++[r.avs]/\∃i:Nat,i<=r.targ.length/\(r.targ.take i).all (fun c:UInt8=>decide (33<=c.toNat)&&decide (c.toNat<=126))=true/\
 ∃x:Nat->AV,fr=[x 0,.ptr (some (H.length,0)),x 2,x 3,.int .i64 (i:Int),x 5,x 6,x 7,x 8,x 9,x 10,x 11,x 12,x 13,x 14,x 15,x 16,x 17,x 18,x 19,x 20,x 21,x 22,x 23,x 24,x 25,x 26,x 27,x 28,x 29,x 30,x 31,x 32,x 33,x 34,x 35,x 36,x 37,x 38,x 39,x 40,x 41,x 42,x 43,x 44,x 45,x 46,x 47,x 48,x 49,x 50,x 51,x 52,x 53,x 54,x 55,x 56,x 57,x 58,x 59,x 60,x 61,x 62,x 63,x 64,x 65,x 66,x 67,x 68,x 69,x 70,x 71,x 72,x 73,x 74,x 75,x 76,x 77,x 78,x 79,x 80,x 81,x 82,x 83,x 84,x 85,x 86,x 87,x 88,x 89,x 90,x 91,x 92,x 93,x 94,x 95,x 96,x 97,x 98,x 99,x 100,x 101,x 102,x 103,x 104,x 105,x 106,x 107,x 108,x 109,x 110,x 111,x 112,x 113,x 114,x 115,x 116,x 117,x 118,x 119,x 120]
section
variable (E:Env){H:Hp}(Q:AV->Hp->Prop)
theorem qp6(r:Rq)(hz:szQ r)(hQ:Q (.tup [.str (qbv r).1,.int .i64 (qbv r).2]) H):PC Tryz.prog E 36 [r.av] H Q:=by
 refine qac Tryz.func36 rfl [] [(27,[0,0,0,0,0,0,0,0,0,1])] (by kernel_rfl) (fun hB=>?_);have fin:∀t e,qbv r=(t,e)->Q (.tup [.str t,.int .i64 e]) H:=fun t e h=>by rw[h]at hQ;exact hQ
 obtain⟨z1,z2,z3,z4,z5⟩:=hz;have hme:qke r.meth=(tokB r.meth&&decide (r.meth.length<=24)):=rfl;unfold qbv at fin;clear hQ;simp[Tryz.ntmps36,Tryz.results36,List.replicate_succ,Rq.av,Rq.avs];refine qsp E _ r.meth (by simp only[cap];omega) ?_;rw[<-hme];cases h1:qke r.meth with
 |false=>
  rw[h1,if_pos rfl]at fin;simp;exact aQy hB (h6:=(fin [] 110 rfl))
 |true=>
 rw[h1,if_neg (by simp)]at fin;simp;refine qaB (dpI r H) (fun fr _=>r.targ.length-(ai (aget fr 4)).toNat) ⟨rfl,0,by omega,by simp,friz⟩ ?_;rintro fr K ⟨rfl,i,hi,hall,x,rfl⟩;by_cases h:i<r.targ.length
 ·obtain⟨c,hc⟩:∃c,r.targ[i]? =some c:=⟨_,zqD h⟩
  have la:=qas hc;have w1:IntKind.i64.wrap ((i:Int)+1)=i+1:=wiz;have hst:=qbB (fun c:UInt8=>decide (33<=c.toNat)&&decide (c.toNat<=126)) r.targ i c hc;have hsp:=qcO (fun c:UInt8=>decide (33<=c.toNat)&&decide (c.toNat<=126)) r.targ i c hc;by_cases g1:c.toNat<33
  ·have g1':(c.toNat:Int)<33:=by omega
   have h2:qb8 r.targ=false:=by unfold qb8;rw[hsp (by simp;omega)];simp
   rw[h2,if_pos rfl]at fin;simp[h,la,g1',Rq.avs];exact aQy hB (h6:=(fin [] 111 rfl))
  ·have g1':¬(c.toNat:Int)<33:=by omega
   by_cases g2:126<c.toNat
   ·have g2':(126:Int)<c.toNat:=by omega
    have h2:qb8 r.targ=false:=by unfold qb8;rw[hsp (by simp;omega)];simp
    rw[h2,if_pos rfl]at fin;simp[h,la,g1',g2',Rq.avs];exact aQy hB (h6:=(fin [] 111 rfl))
   ·have g2':¬(126:Int)<c.toNat:=by omega
    simp[h,la,g1',g2',w1,Rq.avs];exact Klz ⟨rfl,i+1,by omega,by rw[hst,hall];simp;omega,friz⟩
 have hi2:i=r.targ.length:=by omega
 subst hi2;rw[List.take_length]at hall;by_cases ht:r.targ=[]
 ·have h2:qb8 r.targ=false:=by unfold qb8;rw[ht];rfl
  rw[h2,if_pos rfl]at fin;simp[Rq.avs,ht];exact aQy hB (h6:=(fin [] 111 rfl))
 have h2:qb8 r.targ=true:=by unfold qb8;rw[hall];simpa using ht
 have ht':(r.targ==[])=false:=by simpa using ht
 rw[h2,if_neg (by simp)]at fin;by_cases h3:r.major=1;rotate_left
 ·have h3':(r.major==1)=false:=by simpa using h3
  have h3'':(r.major !=1)=true:=by simpa using h3
  rw[if_pos (.inl h3)]at fin;simp[Rq.avs,ht',h3',h3''];exact aQy hB (h6:=(fin [] 117 rfl))
 by_cases h4:r.minor=0\/r.minor=1;rotate_left
 ·have h40:(r.minor==0)=false:=by simpa using fun e=>h4 (.inl e)
  have h41:(r.minor==1)=false:=by simpa using fun e=>h4 (.inr e)
  have h40':(r.minor !=0)=true:=by simpa using h40
  have h41':(r.minor !=1)=true:=by simpa using h41
  rw[if_pos (.inr ⟨fun e=>h4 (.inl e),fun e=>h4 (.inr e)⟩)]at fin;simp[Rq.avs,ht',h3,h40,h41,h40',h41'];exact aQy hB (h6:=(fin [] 117 rfl))
 rw[if_neg (fun h=>h.elim (fun h=>h h3) (fun h=>h4.elim h.1 h.2))]at fin
 have hmin:r.minor=0\/((r.minor==0)=false/\(r.minor !=0)=true/\r.minor=1):=by
  rcases h4 with h|h
  ·exact .inl h
  ·exact .inr ⟨by rw[h];decide,by rw[h];decide,h⟩
 rcases hmin with hmi|⟨hm0,hm1,hmi⟩
 ·simp[Rq.avs,ht',h3,hmi];rw[show decide (r.minor=0)=true from by rw[hmi];rfl]at fin;refine qiK E _ _ r.fields (by omega) ?_;have hfl:=qer r.fields;obtain⟨ft,fe,hfp⟩:∃ft fe,qbt r.fields=(ft,fe):=⟨_,_,rfl⟩
  have hpq:preQ r=r.meth++([32]++(r.targ++([32]++([72,84,84,80,47]++([49,46]++(Go.Lib.itoa 0++([13,10]++(ft++[13,10])))))))):=by unfold preQ;rw[hfp,hmi]
  rw[hfp]at fin hfl⊢;simp only at fin hfl;by_cases h5:fe=0;rotate_left
  ·have h5':(fe==0)=false:=by simpa using h5
   have h5'':(fe !=0)=true:=by simpa using h5
   rw[if_pos h5]at fin;simp[Rq.avs,ht',h5',h5''];exact aQy hB (h6:=(fin [] fe rfl))
  subst h5;rw[if_neg (by simp)]at fin;simp[Rq.avs,ht',hmi];refine qe1 E _ _ r.fields _ (by omega) ?_;obtain⟨kd,ln,e0,hFr⟩:∃kd ln e0,qaj r.fields true=(kd,ln,e0):=⟨_,_,_,rfl⟩
  rw[hFr]at fin⊢;simp only at fin;by_cases h6:e0=0;rotate_left
  ·have h6':(e0==0)=false:=by simpa using h6
   have h6'':(e0 !=0)=true:=by simpa using h6
   rw[if_pos h6]at fin;simp[Rq.avs,ht',h6',h6''];exact aQy hB (h6:=(fin [] e0 rfl))
  subst h6;rw[if_neg (by simp)]at fin;by_cases h7:kd=2
  ·subst h7;rw[if_neg (fun h=>h.1 rfl),if_neg (fun h=>h.1 rfl),if_pos rfl]at fin;simp[Rq.avs,ht',];refine PC.argsNil (args':=[.str r.body,.sl false 1 (ints []),.sl false 2 (flds r.trailers)]) ⟨.inl rfl,.inl rfl,.inl rfl,trivial⟩ (by simp) (qiL E _ _ r.body [] r.trailers z4 (by simp) z5 (by simp) ?_);have hel:=qeA r.body r.trailers z4 z5;obtain⟨et,ee,hen⟩:∃et ee,qbh r.body [] r.trailers=(et,ee):=⟨_,_,rfl⟩
   rw[hen]at fin hel⊢;simp only at fin hel;by_cases h8:ee=0;rotate_left
   ·have h8':(ee==0)=false:=by simpa using h8
    have h8'':(ee !=0)=true:=by simpa using h8
    rw[if_pos h8]at fin;simp[Rq.avs,ht',h8',h8''];exact aQy hB (h6:=(fin [] ee rfl))
   subst h8;rw[if_neg (by simp)]at fin;have hil:=(qdi 0 (by decide) (by decide)).1;simp[Rq.avs,ht']
   iterate 3 (rw[if_pos (by unfold maxLen;(try simp only[zqK,zqL,List.length_nil]);omega)];simp[Rq.avs,ht'])
   refine qcw E _ _ 0 (by omega) (by omega) ?_;simp[Rq.avs,ht',KP,qap,qah]
   iterate 5 (rw[if_pos (by unfold maxLen;(try simp only[zqK,zqL,List.length_nil]);omega)];simp[Rq.avs,ht'])
   exact qab hB (v0:= .tup [.str (preQ r++et),.int .i64 0]) (v:= .tup [.str (preQ r++et),.int .i64 0]) (by simp[hpq]) (qaa _) (by simp) (fin _ 0 rfl)
  ·rw[if_neg h7]at fin;have h7':(kd==2)=false:=by simpa using h7
   have h7'':(kd !=2)=true:=by simpa using h7
   by_cases h8:(r.body.length:Int)=ln;rotate_left
   ·have h8':((r.body.length:Int)==ln)=false:=by simpa using h8
    have h8'':((r.body.length:Int) !=ln)=true:=by simpa using h8
    rw[if_pos ⟨h7,h8⟩]at fin;simp[Rq.avs,ht',h7',h7'',h8',h8''];exact aQy hB (h6:=(fin [] 114 rfl))
   rw[if_neg (fun h=>h.2 h8)]at fin;by_cases h9:r.trailers=[]
   rotate_left
   ·have h9':0<r.trailers.length:=List.length_pos_iff.2 h9;have h9'':(0:Int)<r.trailers.length:=by omega
    rw[if_pos ⟨h7,h9⟩]at fin;simp[Rq.avs,ht',h7',h7'',h8,h9',h9''];exact aQy hB (h6:=(fin [] 113 rfl))
   rw[if_neg (fun h=>h.2 h9)]at fin;have h9':r.trailers.length=0:=by rw[h9];rfl
   have hel:r.body.length<=1073741824:=by omega
   simp[Rq.avs,ht',h7',h7'',h8,h9,h9'];have hil:=(qdi 0 (by decide) (by decide)).1
   iterate 3 (rw[if_pos (by unfold maxLen;(try simp only[zqK,zqL,List.length_nil]);omega)];simp[Rq.avs,ht'])
   refine qcw E _ _ 0 (by omega) (by omega) ?_;simp[Rq.avs,ht',KP,qap,qah]
   iterate 5 (rw[if_pos (by unfold maxLen;(try simp only[zqK,zqL,List.length_nil]);omega)];simp[Rq.avs,ht'])
   exact qab hB (v0:= .tup [.str (preQ r++r.body),.int .i64 0]) (v:= .tup [.str (preQ r++r.body),.int .i64 0]) (by simp[hpq]) (qaa _) (by simp) (fin _ 0 rfl)
 ·simp[Rq.avs,ht',h3,hm0,hm1,hmi];rw[show decide (r.minor=0)=false from by rw[hmi];rfl]at fin;refine qiK E _ _ r.fields (by omega) ?_;have hfl:=qer r.fields;obtain⟨ft,fe,hfp⟩:∃ft fe,qbt r.fields=(ft,fe):=⟨_,_,rfl⟩
  have hpq:preQ r=r.meth++([32]++(r.targ++([32]++([72,84,84,80,47]++([49,46]++(Go.Lib.itoa 1++([13,10]++(ft++[13,10])))))))):=by unfold preQ;rw[hfp,hmi]
  rw[hfp]at fin hfl⊢;simp only at fin hfl;by_cases h5:fe=0;rotate_left
  ·have h5':(fe==0)=false:=by simpa using h5
   have h5'':(fe !=0)=true:=by simpa using h5
   rw[if_pos h5]at fin;simp[Rq.avs,ht',h5',h5''];exact aQy hB (h6:=(fin [] fe rfl))
  subst h5;rw[if_neg (by simp)]at fin;simp[Rq.avs,ht',hmi];refine qe1 E _ _ r.fields _ (by omega) ?_;obtain⟨kd,ln,e0,hFr⟩:∃kd ln e0,qaj r.fields false=(kd,ln,e0):=⟨_,_,_,rfl⟩
  rw[hFr]at fin⊢;simp only at fin;by_cases h6:e0=0;rotate_left
  ·have h6':(e0==0)=false:=by simpa using h6
   have h6'':(e0 !=0)=true:=by simpa using h6
   rw[if_pos h6]at fin;simp[Rq.avs,ht',h6',h6''];exact aQy hB (h6:=(fin [] e0 rfl))
  subst h6;rw[if_neg (by simp)]at fin;by_cases h7:kd=2
  ·subst h7;rw[if_neg (fun h=>h.1 rfl),if_neg (fun h=>h.1 rfl),if_pos rfl]at fin;simp[Rq.avs,ht',];refine PC.argsNil (args':=[.str r.body,.sl false 1 (ints []),.sl false 2 (flds r.trailers)]) ⟨.inl rfl,.inl rfl,.inl rfl,trivial⟩ (by simp) (qiL E _ _ r.body [] r.trailers z4 (by simp) z5 (by simp) ?_);have hel:=qeA r.body r.trailers z4 z5;obtain⟨et,ee,hen⟩:∃et ee,qbh r.body [] r.trailers=(et,ee):=⟨_,_,rfl⟩
   rw[hen]at fin hel⊢;simp only at fin hel;by_cases h8:ee=0;rotate_left
   ·have h8':(ee==0)=false:=by simpa using h8
    have h8'':(ee !=0)=true:=by simpa using h8
    rw[if_pos h8]at fin;simp[Rq.avs,ht',h8',h8''];exact aQy hB (h6:=(fin [] ee rfl))
   subst h8;rw[if_neg (by simp)]at fin;have hil:=(qdi 1 (by decide) (by decide)).1;simp[Rq.avs,ht']
   iterate 3 (rw[if_pos (by unfold maxLen;(try simp only[zqK,zqL,List.length_nil]);omega)];simp[Rq.avs,ht'])
   refine qcw E _ _ 1 (by omega) (by omega) ?_;simp[Rq.avs,ht',KP,qap,qah]
   iterate 5 (rw[if_pos (by unfold maxLen;(try simp only[zqK,zqL,List.length_nil]);omega)];simp[Rq.avs,ht'])
   exact qab hB (v0:= .tup [.str (preQ r++et),.int .i64 0]) (v:= .tup [.str (preQ r++et),.int .i64 0]) (by simp[hpq]) (qaa _) (by simp) (fin _ 0 rfl)
  ·rw[if_neg h7]at fin;have h7':(kd==2)=false:=by simpa using h7
   have h7'':(kd !=2)=true:=by simpa using h7
   by_cases h8:(r.body.length:Int)=ln;rotate_left
   ·have h8':((r.body.length:Int)==ln)=false:=by simpa using h8
    have h8'':((r.body.length:Int) !=ln)=true:=by simpa using h8
    rw[if_pos ⟨h7,h8⟩]at fin;simp[Rq.avs,ht',h7',h7'',h8',h8''];exact aQy hB (h6:=(fin [] 114 rfl))
   rw[if_neg (fun h=>h.2 h8)]at fin;by_cases h9:r.trailers=[]
   rotate_left
   ·have h9':0<r.trailers.length:=List.length_pos_iff.2 h9;have h9'':(0:Int)<r.trailers.length:=by omega
    rw[if_pos ⟨h7,h9⟩]at fin;simp[Rq.avs,ht',h7',h7'',h8,h9',h9''];exact aQy hB (h6:=(fin [] 113 rfl))
   rw[if_neg (fun h=>h.2 h9)]at fin;have h9':r.trailers.length=0:=by rw[h9];rfl
   have hel:r.body.length<=1073741824:=by omega
   simp[Rq.avs,ht',h7',h7'',h8,h9,h9'];have hil:=(qdi 1 (by decide) (by decide)).1
   iterate 3 (rw[if_pos (by unfold maxLen;(try simp only[zqK,zqL,List.length_nil]);omega)];simp[Rq.avs,ht'])
   refine qcw E _ _ 1 (by omega) (by omega) ?_;simp[Rq.avs,ht',KP,qap,qah]
   iterate 5 (rw[if_pos (by unfold maxLen;(try simp only[zqK,zqL,List.length_nil]);omega)];simp[Rq.avs,ht'])
   exact qab hB (v0:= .tup [.str (preQ r++r.body),.int .i64 0]) (v:= .tup [.str (preQ r++r.body),.int .i64 0]) (by simp[hpq]) (qaa _) (by simp) (fin _ 0 rfl)
end
end Go.Proofs.YtnnhdehmlkkfjaaGreatDoor
namespace Go.Proofs.YtnnhdehmlkkfjaaGreatDoor
open Go Go.RowKit Go.Proofs Go.Deep
structure QOk (W:World) (cs:Array Value) (r:Rq) (b:Nat):Prop where
 rel:Rel W (fun _=>0) (old W) r.av (.agg cs)
 bnd:Bnd 0 r.av
 ma: -9223372036854775808<=r.major/\r.major<=9223372036854775807
 mi: -9223372036854775808<=r.minor/\r.minor<=9223372036854775807
 bulk:r.meth.length+r.targ.length+r.body.length+(fsz r.fields+r.fields.length)+(fsz r.trailers+r.trailers.length)+1<=b
theorem QOk.sz{W:World}{cs:Array Value}{r:Rq}{b:Nat}(h:QOk W cs r b)(hb:b<=1048576):szQ r:=by
 have:=h.bulk;exact⟨by omega,by omega,by omega,by omega,by omega⟩
theorem qrS{H:Type}{enc:TypeId×Value->H}{W:World}{spare:Nat->Bool}{held:Bool}{fuel:Nat}{cs:List Value}{x:DataW H×List MemPlace}(h:DataW.trod enc Tryz.prog W 0 spare held fuel 26 cs=some x):
  ∃r:Rq,QOk W ⟨cs⟩ r (Rows.uptoBulk x.1):=by
 obtain⟨xs,n',_,rfl,hcl,hxl,hf⟩:=DataW.trod_struct Tryz.underlying26 h;have e0:Tryz.prog.cellsOf 26=7:=by kernel_rfl
 have es:Tryz.prog.cellsOf 9=1:=by kernel_rfl
 have ei:Tryz.prog.cellsOf 3=1:=by kernel_rfl
 have ef:Tryz.prog.cellsOf 24=1:=by kernel_rfl
 rw[e0]at hcl
 obtain⟨c0,c1,c2,c3,c4,c5,c6,rfl⟩:∃c0 c1 c2 c3 c4 c5 c6,cs=[c0,c1,c2,c3,c4,c5,c6]:=by
  match cs,hcl with
  |[a,b,c,d,e,f,g],_=>exact⟨a,b,c,d,e,f,g,rfl⟩
 obtain⟨y0,y1,y2,y3,y4,y5,y6,rfl⟩:∃y0 y1 y2 y3 y4 y5 y6,xs=[y0,y1,y2,y3,y4,y5,y6]:=by
  match xs,hxl with
  |[a,b,c,d,e,f,g],_=>exact⟨a,b,c,d,e,f,g,rfl⟩
 have h0:=hf 0 _ rfl;have h1:=hf 1 _ rfl;have h2:=hf 2 _ rfl;have h3:=hf 3 _ rfl;have h4:=hf 4 _ rfl;have h5:=hf 5 _ rfl;have h6:=hf 6 _ rfl;simp[es]at h0;simp[es]at h1;simp[ei]at h2;simp[ei]at h3;simp[ef]at h4;simp[es]at h5;simp[ef]at h6;obtain⟨me,hs0,hy0,hm0⟩:=DataW.trod_string Tryz.underlying9 h0;obtain⟨ta,hs1,hy1,hm1⟩:=DataW.trod_string Tryz.underlying9 h1;obtain⟨ma,hs2,hy2,hm2⟩:=DataW.trod_int Tryz.underlying3 h2;obtain⟨mi,hs3,hy3,hm3⟩:=DataW.trod_int Tryz.underlying3 h3;obtain⟨bo4,l4,k4,rows4,q41,q42,_,_,q43,q44,q45,q46⟩:=qim (ks:=[.str,.str]) 6 Tryz.underlying24 (by kernel_rfl) (by kernel_rfl) (by decide) h4;obtain⟨fs,rfl,ht4⟩:=qek rows4 q45;obtain⟨bo,hs5,hy5,hm5⟩:=DataW.trod_string Tryz.underlying9 h5;obtain⟨bo6,l6,k6,rows6,q61,q62,_,_,q63,q64,q65,q66⟩:=qim (ks:=[.str,.str]) 6 Tryz.underlying24 (by kernel_rfl) (by kernel_rfl) (by decide) h6;obtain⟨ts,rfl,ht6⟩:=qek rows6 q65;simp at hs0 hs1 hs2 hs3 hs5 q41 q61;subst hs0;subst hs1;subst hs2;subst hs3;subst hs5;subst q41;subst q61;have hb0:me.size+1<=Rows.uptoBulk y0.1:=by rw[hy0];simp[Rows.uptoBulk,qad]
 have hb1:ta.size+1<=Rows.uptoBulk y1.1:=by rw[hy1];simp[Rows.uptoBulk,qad]
 have hw2: -9223372036854775808<=ma/\ma<=9223372036854775807:=by simpa[Lit.wf,IntKind.min,IntKind.max,IntKind.signed,IntKind.bits]using hm2
 have hw3: -9223372036854775808<=mi/\mi<=9223372036854775807:=by simpa[Lit.wf,IntKind.min,IntKind.max,IntKind.signed,IntKind.bits]using hm3
 have hb5:bo.size+1<=Rows.uptoBulk y5.1:=by rw[hy5];simp[Rows.uptoBulk,qad]
 simp at q42 q46 q62 q66;refine⟨⟨me.data.toList,ta.data.toList,ma,mi,fs,bo.data.toList,ts⟩,.agg _ _ rfl (fun x hx=>?_) (fun j x u hx hu=>?_),.agg _ (fun x hx=>Rq.bnd _ 0 x hx),hw2,hw3,?_⟩
 ·simp[Rq.avs]at hx;rcases hx with rfl|rfl|rfl|rfl|rfl|rfl|rfl<;>exact⟨rfl,rfl⟩
 ·match j with
  |0=>simp[Rq.avs]at hx hu;subst hx;subst hu;exact .str _ _ rfl hm0
  |1=>simp[Rq.avs]at hx hu;subst hx;subst hu;exact .str _ _ rfl hm1
  |2=>simp[Rq.avs]at hx hu;subst hx;subst hu;exact .int _ _
  |3=>simp[Rq.avs]at hx hu;subst hx;subst hu;exact .int _ _
  |4=>simp[Rq.avs]at hx hu;subst hx;subst hu;exact q43
  |5=>simp[Rq.avs]at hx hu;subst hx;subst hu;exact .str _ _ rfl hm5
  |6=>simp[Rq.avs]at hx hu;subst hx;subst hu;exact q63
  |j+7=>simp[Rq.avs]at hx
 ·simp only[List.map_cons,List.map_nil,Rows.uptoBulk,Rows.uptoBulkAll,qad];omega
section
variable (E:Env){H:Hp}(Q:AV->Hp->Prop)
end
end Go.Proofs.YtnnhdehmlkkfjaaGreatDoor
