/- Part 7 of the texts below the law. -/
import Derived.Test.YtnnhdehmlkkfjaaGreatDoorPg6
import Derived.Lib.ItoaLen
import Derived.Shelf.Strings.Cut
import Derived.Shelf.Strings.IndexAnyAll
import Derived.Shelf.Strings.Prefix
import Derived.Shelf.Strings.Search3
import Derived.Shelf.Strings.Split
import Derived.Test.YtnnhdehmlkkfjaaGreatDoorProg
import Derived.KernelRfl
set_option maxRecDepth 100000
set_option maxHeartbeats 16000000
set_option linter.unusedVariables false
set_option linter.unnecessarySimpa false
set_option linter.unusedSimpArgs false
set_option linter.unusedSectionVars false
namespace Go.Proofs.YtnnhdehmlkkfjaaGreatDoor
open Go Go.RowKit Go.Proofs
def goD(d:Dec):Prop:=d.done=false/\d.err=0
theorem qcr(d:Dec)(b:UInt8)(s:List UInt8):qav d (b::s)=if(feed1 d b).done=true\/(feed1 d b).err≠0 then(feed1 d b,1)else((qav (feed1 d b) s).1,(qav (feed1 d b) s).2+1):=rfl
theorem qeT{d:Dec}{b:UInt8}(s:List UInt8)(h:goD (feed1 d b)):qav d (b::s)=((qav (feed1 d b) s).1,(qav (feed1 d b) s).2+1):=by
 rw[qcr,if_neg];rintro(h1|h1)
 ·rw[h.1]at h1;cases h1
 ·exact h1 h.2
theorem qlZ{d:Dec}{b:UInt8}(s:List UInt8)(h:(feed1 d b).done=true\/(feed1 d b).err≠0):qav d (b::s)=(feed1 d b,1):=by rw[qcr,if_pos h]
theorem qeU:∀(a:List UInt8) (d e:Dec) (s:List UInt8),qav d a=(e,a.length)->goD e->qav d (a++s)=((qav e s).1,(qav e s).2+a.length)
 |[],d,e,s,h,_=>by cases h;simp
 |b::a,d,e,s,h,hg=>by
  rw[List.cons_append,qcr];rw[qcr]at h;split at h
  ·rename_i hs;have h1:=(Prod.mk.inj h).1;rw[h1]at hs;rcases hs with hs|hs
   ·rw[hg.1]at hs;cases hs
   ·exact absurd hg.2 hs
  ·rename_i hs;rw[if_neg hs];have h1:=Prod.mk.inj h;have h2:(qav (feed1 d b) a).2=a.length:=by have:=h1.2;simp at this;omega
   rw[qeU a (feed1 d b) e s (by rw[<-h1.1,<-h2]) hg];simp;omega
theorem qfD:∀(a:List UInt8) (d:Dec),d.st= .size->goD d->(∀b∈a,b≠10)->d.line.length+a.length<=255->qav d a=({d with line:=d.line++a,total:=d.total+a.length},a.length)
 |[],d,_,_,_,_=>by simp[qav]
 |b::a,d,hs,hg,ha,hl=>by
  have hb:b≠10:=ha b (by simp);simp only[zqL]at hl
  have h1:feed1 d b={d with line:=d.line++[b],total:=d.total+1}:=by
   unfold feed1 qbZ;simp only[hs,qgL,hb,if_pos,ne_eq,not_false_eq_true];rw[if_neg (by simp;omega),<-hg.2]
  have hg':goD (feed1 d b):=by rw[h1];exact hg
  rw[qeT _ hg',h1,qfD a {d with line:=d.line++[b],total:=d.total+1} hs hg (fun c hc=>ha c (by simp[hc])) (by simp;omega)];simp;omega
theorem qex:∀(a:List UInt8) (d:Dec),d.st= .trailer->goD d->(∀b∈a,b≠10)->(d.section_:Int)+a.length<=d.room->qav d a=({d with line:=d.line++a,section_:=d.section_+a.length,total:=d.total+a.length},a.length)
 |[],d,_,_,_,_=>by simp[qav]
 |b::a,d,hs,hg,ha,hl=>by
  have hb:b≠10:=ha b (by simp);simp only[zqL]at hl
  have h1:feed1 d b={d with line:=d.line++[b],section_:=d.section_+1,total:=d.total+1}:=by
   unfold feed1 qbZ;simp only[hs,qbC,hb,if_pos,ne_eq,not_false_eq_true];rw[if_neg (by omega)];simp only[hs,<-hg.2]
  have hg':goD (feed1 d b):=by rw[h1];exact hg
  rw[qeT _ hg',h1,qex a {d with line:=d.line++[b],section_:=d.section_+1,total:=d.total+1} hs hg (fun c hc=>ha c (by simp[hc])) (by simp;omega)];simp;omega
theorem qhF:∀(a:List UInt8) (d:Dec),d.st= .data->goD d->(a.length:Int)<d.left->qav d a=({d with body:=d.body++a,left:=d.left-a.length,total:=d.total+a.length},a.length)
 |[],d,_,_,_=>by simp[qav]
 |b::a,d,hs,hg,hl=>by
  simp only[zqL]at hl
  have h1:feed1 d b={d with body:=d.body++[b],left:=d.left-1,total:=d.total+1}:=by
   unfold feed1 qbZ;simp only[hs,qgs];rw[if_neg (by omega)];simp only[hs,<-hg.2]
  have hg':goD (feed1 d b):=by rw[h1];exact hg
  rw[qeT _ hg',h1,qhF a {d with body:=d.body++[b],left:=d.left-1,total:=d.total+1} hs hg (by simp;omega)];simp;exact⟨by omega,by omega⟩
theorem qnM(a:List UInt8)(d:Dec)(hs:d.st= .data)(hg:goD d)(h0:a≠[])(hl:(a.length:Int)=d.left):qav d a=({d with body:=d.body++a,left:=0,st:= .first,total:=d.total+a.length},a.length):=by
 obtain⟨x,b,rfl⟩:∃x b,a=x++[b]:=⟨a.dropLast,a.getLast h0,(List.dropLast_concat_getLast h0).symm⟩
 rw[zqK]at hl;simp at hl;have hr:=qhF x d hs hg (by omega);rw[qeU x d _ [b] hr hg]
 have h1:feed1 {d with body:=d.body++x,left:=d.left-x.length,total:=d.total+x.length} b={d with body:=d.body++(x++[b]),left:=0,st:= .first,total:=d.total+(x++[b]).length}:=by
  unfold feed1 qbZ;simp only[hs,qgs];rw[if_pos (by omega)];simp[<-hg.2];omega
 rw[qeT [] (by rw[h1];exact hg),h1];simp[qav];omega
theorem qjc(l:List UInt8)(a n:Nat)(h:a+n<=l.length):endL ((l.drop a).take n++[10])=if n=0\/l[a+n-1]? ≠some 13 then none else some ((l.drop a).take (n-1)):=by
 have hlen:((l.drop a).take n).length=n:=by rw[zqJ,zqI];omega
 unfold endL;rw[zqK,hlen];by_cases h0:n=0
 ·subst h0;simp
 ·obtain⟨m,rfl⟩:∃m,n=m+1:=⟨n-1,by omega⟩
  have hat:((l.drop a).take (m+1))[m]? =l[a+m]? :=by rw[zqG (by omega),zqN]
  obtain⟨c,hc⟩:∃c,l[a+m]? =some c:=⟨_,zqD (by omega)⟩
  have hsn:(l.drop a).take (m+1)=(l.drop a).take m++[c]:=by
   rw[List.take_add_one,zqN,hc];rfl
  have hml:((l.drop a).take m).length=m:=by rw[zqJ,zqI];omega
  have e1:m+1+[(10:UInt8)].length-2=m:=by simp
  have e2:a+(m+1)-1=a+m:=by omega
  rw[e1,e2,hc,hsn,List.append_assoc,List.drop_append_of_le_length (by omega),List.drop_of_length_le (by omega),List.take_append_of_le_length (by omega),zqE (by omega)];by_cases hcc:c=13
  ·subst hcc;simp
  ·simp[hcc]
def qlC(d:Dec)(x:Option (List UInt8)):Dec×Int:=match x with
 |none=>({d with line:=[]},100)
 |some s=>if(qak s).2.2≠0 then({d with line:=[]},(qak s).2.2)
  else if d.most-d.body.length<(qak s).1 then({d with line:=[]},102)
  else if(qak s).1=0 then({d with line:=[],st:= .trailer},0)
  else({d with line:=[],left:=(qak s).1,st:= .data},0)
theorem qc3(d:Dec)(hs:d.st= .size):feed1 d 10={(qlC {d with total:=d.total+1} (endL (d.line++[10]))).1 with err:=(qlC {d with total:=d.total+1} (endL (d.line++[10]))).2}:=by
 unfold feed1 qbZ;simp only[hs,qgL,ne_eq,not_true_eq_false,if_false];cases endL (d.line++[10])<;>rfl
def qdt(d:Dec)(x:Option (List UInt8)):Dec×Int:=match x with
 |none=>({d with section_:=d.section_+1,line:=[]},101)
 |some s=>if s=[]then({d with section_:=d.section_+1,line:=[],done:=true},0)
  else if d.fields<=d.trailers.length then({d with section_:=d.section_+1,line:=[]},104)
  else match qbt s with
   |none=>({d with section_:=d.section_+1,line:=[]},101)
   |some f=>if mayB f.name=true then({d with section_:=d.section_+1,line:=[],trailers:=d.trailers++[f]},0)else({d with section_:=d.section_+1,line:=[]},101)
theorem qgp(d:Dec)(hs:d.st= .trailer)(hr:(d.section_:Int)<d.room):feed1 d 10={(qdt {d with total:=d.total+1} (endL (d.line++[10]))).1 with err:=(qdt {d with total:=d.total+1} (endL (d.line++[10]))).2}:=by
 unfold feed1 qbZ;simp only[hs,qbC,ne_eq,not_true_eq_false,if_false];rw[if_neg (by omega)];cases endL (d.line++[10])<;>rfl
theorem qik(l:List UInt8)(h:l.all qag=true):qaH l=[]:=by
 induction l with
 |nil=>rfl
 |cons c l ih=>
  simp only[List.all_cons,Bool.and_eq_true]at h;rw[qfY c h.1,ih h.2]
theorem qfX(l:List UInt8):(qaH l).length<=l.length:=by
 rw[qes];unfold rt lt;rw[List.length_reverse];refine Nat.le_trans (List.dropWhile_sublist _).length_le ?_;rw[List.length_reverse];exact(List.dropWhile_sublist _).length_le
def not10(b:UInt8):Bool:=b !=10
theorem qkG{p:UInt8->Bool}{l:List UInt8}(h:run p l<l.length):∃b,l[run p l]? =some b/\p b=false:=by
 unfold run at h⊢
 induction l with
 |nil=>simp at h
 |cons a l ih=>
  by_cases ha:p a=true
  ·rw[List.takeWhile_cons_of_pos ha]at h⊢;obtain⟨b,h1,h2⟩:=ih (by simpa using h);exact⟨b,by simpa using h1,h2⟩
  ·rw[List.takeWhile_cons_of_neg ha];exact⟨a,rfl,by simpa using ha⟩
theorem qkF{p:UInt8->Bool}{l:List UInt8}{k:Nat}(h:k<=run p l):(l.take k).all p=true:=by
 induction l generalizing k with
 |nil=>simp
 |cons a l ih=>
  cases k with
  |zero=>simp
  |succ k=>
   by_cases ha:p a=true
   ·unfold run at h;rw[List.takeWhile_cons_of_pos ha]at h;simp only[List.take_succ_cons,List.all_cons,ha,Bool.true_and];exact ih (by simpa[run]using h)
   ·unfold run at h;rw[List.takeWhile_cons_of_neg ha]at h;simp at h
theorem run_at{p:UInt8->Bool}{l:List UInt8}{k:Nat}{b:UInt8}(h:k<run p l)(hb:l[k]? =some b):p b=true:=by
 have:=qkF (k:=k+1) (p:=p) (l:=l) (by omega);rw[qbe p l k b hb]at this;simpa using(Bool.and_eq_true _ _▸this).2
section
variable (E:Env)(H:Hp)(Q:AV->Hp->Prop)
def qsb(l:List UInt8)(c:UInt8)(H:Hp)(fr:List AV)(H':Hp):Prop:=H'=H/\∃i:Nat,i<=l.length/\(∀j,j<i->l[j]? ≠some c)/\∃x:Nat->AV,fr=[.str l,.int .u8 (c.toNat:Int),x 2,x 3,x 4,.int .i64 i,x 6,x 7,x 8,x 9,x 10,x 11,x 12,x 13,x 14,x 15,x 16,x 17]
theorem qgn(l:List UInt8)(c:UInt8)(hl:l.length<=cap)(hQ:Q (.int .i64 (Lib.indexByte l c)) H):PC Tryz.prog E 99 [.str l,.int .u8 (c.toNat:Int)] H Q:=by
 simp only[cap]at hl;refine qac Tryz.func99 rfl [] [] (by kernel_rfl) (fun hB=>?_);have fin:∀z:Int,Lib.indexByte l c=z->Q (.int .i64 z) H:=fun z hz=>hz▸hQ;simp[Tryz.ntmps99,Tryz.results99,List.replicate_succ];refine qaB (qsb l c H) (fun fr _=>l.length-(ai (aget fr 5)).toNat) ⟨rfl,0,by omega,(fun j hj=>by omega),friz⟩ ?_;rintro fr H' ⟨rfl,i,hi,hno,x,rfl⟩;by_cases h:i<l.length
 ·obtain⟨b,hb⟩:∃b,l[i]? =some b:=⟨_,zqD h⟩
  have hat:=qap hb;have hw:IntKind.i64.wrap ((i:Int)+1)=i+1:=wiz;by_cases he:b=c
  ·subst he;simp[h,hat];exact aQz hB (h6:=(fin _ (qkZ l b i hb hno)))
  ·have t1:((b.toNat:Int)==(c.toNat:Int))=false:=by
    rw[beq_eq_false_iff_ne];intro hh;exact he (UInt8.toNat_inj.1 (by omega))
   simp[h,hat,t1,hw];refine Klz ⟨rfl,i+1,by omega,(fun j hj=>?_),friz⟩;by_cases hji:j=i
   ·subst hji;rw[hb];intro e;cases e;exact he rfl
   ·exact hno j (by omega)
 ·simp[h];exact aQz hB (h6:=(fin _ (qkY l c (fun j hj=>hno j (by omega)))))
def qq4(l:List UInt8)(c:Nat)(H:Hp)(fr:List AV)(H':Hp):Prop:=H'=H++[[.str [],.str []]]/\∃i:Nat,i<=c/\i<=128/\(l.take i).all qao=true/\∃x:Nat->AV,fr=[.str l,x 1,.ptr (some (H.length,0)),x 3,x 4,.int .i64 c,.int .i64 i,x 7,x 8,x 9,x 10,x 11,x 12,x 13,x 14,x 15,x 16,x 17,x 18,x 19,x 20,x 21,x 22,x 23,x 24,x 25,x 26,x 27,x 28,x 29,x 30,x 31,x 32,x 33,x 34,x 35,x 36,x 37,x 38,x 39,x 40,x 41,x 42,x 43,x 44,x 45,x 46,x 47,x 48,x 49,x 50,x 51,x 52,x 53,x 54,x 55,x 56,x 57,x 58,x 59,x 60,x 61,x 62,x 63,x 64,x 65,x 66,x 67,x 68,x 69,x 70,x 71,x 72,x 73,x 74,x 75,x 76,x 77,x 78,x 79,x 80,x 81,x 82]
def qq3(l:List UInt8)(c:Nat)(H:Hp)(fr:List AV)(H':Hp):Prop:=H'=H++[[.str [],.str []]]/\∃i:Nat,i<=l.length/\c+1<=i/\fldB ((l.drop (c+1)).take (i-(c+1)))=true/\∃x:Nat->AV,fr=[.str l,x 1,.ptr (some (H.length,0)),x 3,x 4,.int .i64 c,x 6,.int .i64 i,x 8,x 9,x 10,x 11,x 12,x 13,x 14,x 15,x 16,x 17,x 18,x 19,x 20,x 21,x 22,x 23,x 24,x 25,x 26,x 27,x 28,x 29,x 30,x 31,x 32,x 33,x 34,x 35,x 36,x 37,x 38,x 39,x 40,x 41,x 42,x 43,x 44,x 45,x 46,x 47,x 48,x 49,x 50,x 51,x 52,x 53,x 54,x 55,x 56,x 57,x 58,x 59,x 60,x 61,x 62,x 63,x 64,x 65,x 66,x 67,x 68,x 69,x 70,x 71,x 72,x 73,x 74,x 75,x 76,x 77,x 78,x 79,x 80,x 81,x 82]
def qq2(l:List UInt8)(c:Nat)(H:Hp)(fr:List AV)(H':Hp):Prop:=H'=H++[[.str [],.str []]]/\∃i:Nat,i<=l.length/\c+1<=i/\((l.drop (c+1)).take (i-(c+1))).all qag=true/\∃x:Nat->AV,fr=[.str l,x 1,.ptr (some (H.length,0)),x 3,x 4,x 5,x 6,x 7,x 8,.int .i64 i,x 10,x 11,x 12,x 13,x 14,x 15,x 16,x 17,x 18,x 19,x 20,x 21,x 22,x 23,x 24,x 25,x 26,x 27,x 28,x 29,x 30,x 31,x 32,x 33,x 34,x 35,x 36,x 37,x 38,x 39,x 40,x 41,x 42,x 43,x 44,x 45,x 46,x 47,x 48,x 49,x 50,x 51,x 52,x 53,x 54,x 55,x 56,x 57,x 58,x 59,x 60,x 61,x 62,x 63,x 64,x 65,x 66,x 67,x 68,x 69,x 70,x 71,x 72,x 73,x 74,x 75,x 76,x 77,x 78,x 79,x 80,x 81,x 82]
theorem qp6(l:List UInt8)(hl:l.length<=cap)(hQ1:∀f,qbt l=some f->Q (.tup [.agg [.str f.name,.str f.value],.int .i64 0,.int .i64 0]) H)(hQ2:qbt l=none->∀pl e,e≠0->Q (.tup [.agg [.str [],.str []],.int .i64 pl,.int .i64 e]) H):
  PC Tryz.prog E 70 [.str l] H Q:=by
 refine qac Tryz.func70 rfl [] [] (by kernel_rfl) (fun hB=>?_);have hl':=hl;simp only[cap]at hl'
 have bad:∀(fr:List AV) (pl e:Int),qbt l=none->e≠0->aget fr 2= .ptr (some (H.length,0))->aget fr 3= .int .i64 pl->aget fr 4= .int .i64 e->qbO Tryz.prog [ResultVar.cell 2 89,ResultVar.tmp 3,ResultVar.tmp 4] H.length Q .ret fr (H++[[.str [],.str []]]):=fun fr pl e h0 he h2 h3 h4=>
  qab hB (v0:= .tup [.agg [.str [],.str []],.int .i64 pl,.int .i64 e]) (by simp[h2,h3,h4]) (qaa _) (by simp) (hQ2 h0 pl e he)
 obtain⟨c,hc⟩:=exz (run ncol l);have hcl:=qbf ncol l;rw[hc]at hcl;have hib:=qch l;rw[hc]at hib
 have hcase:(∃a r,l=a::r/\qag a=true)\/(l=[]\/∃a r,l=a::r/\qag a=false):=by
  cases l with
  |nil=>exact .inr (.inl rfl)
  |cons a r=>
   cases hb:qag a
   ·exact .inr (.inr ⟨a,r,rfl,hb⟩)
   ·exact .inl ⟨a,r,rfl,hb⟩
 have key:∀fr:List AV,(∃x:Nat->AV,fr=[.str l,x 1,.ptr (some (H.length,0)),x 3,x 4,x 5,x 6,x 7,x 8,x 9,x 10,x 11,x 12,x 13,x 14,x 15,x 16,x 17,x 18,x 19,x 20,x 21,x 22,x 23,x 24,x 25,x 26,x 27,x 28,x 29,x 30,x 31,x 32,x 33,x 34,x 35,x 36,x 37,x 38,x 39,x 40,x 41,x 42,x 43,x 44,x 45,x 46,x 47,x 48,x 49,x 50,x 51,x 52,x 53,x 54,x 55,x 56,x 57,x 58,x 59,x 60,x 61,x 62,x 63,x 64,x 65,x 66,x 67,x 68,x 69,x 70,x 71,x 72,x 73,x 74,x 75,x 76,x 77,x 78,x 79,x 80,x 81,x 82])->True:=fun _ _=>trivial;rcases hcase with⟨a,r,rfl,hb⟩|hcase
 ·have hc0:qbt (a::r)=none:=by
   by_cases hz:c=0
   ·exact qdQ (by rw[hc];exact hz)
   ·exact qeK (i:=0) (b:=a) (by omega) rfl (qgZ a hb)
  have hne:(a::r !=[])=true:=rfl;simp[Tryz.ntmps70,Tryz.results70,List.replicate_succ,hne];refine qa1 E _ _ a ?_;simp[hb];exact bad _ 0 63 hc0 (by decide) rfl rfl rfl
 case' inr=>
  rcases hcase with rfl|⟨a,r,hl0,hb⟩
  case' inl=>
   simp[Tryz.ntmps70,Tryz.results70,List.replicate_succ]
  case' inr=>
   have hne:(l !=[])=true:=by rw[hl0];rfl
   have hl1:0<l.length:=by rw[hl0];simp
   have hla:lat l 0=some a:=by rw[hl0];rfl
   simp[Tryz.ntmps70,Tryz.results70,List.replicate_succ,hne,hl1,hla];refine qa1 E _ _ a ?_;simp[hb];clear hne hla hl0
 rotate_left
 ·refine qgn E _ _ [] 58 (by simp[cap]) ?_;rw[show Lib.indexByte [] 58= -1 from rfl];simp;exact bad _ 0 62 (qeb (by simp)) (by decide) rfl rfl rfl
 ·refine qgn E _ _ l 58 hl ?_;rw[hib];by_cases hcc:c<l.length;rotate_left
  ·have hno:=qeb (l:=l) (by omega);simp[hcc];exact bad _ l.length 62 hno (by decide) rfl rfl rfl
  ·by_cases hz:c=0
   ·have hno:=qdQ (l:=l) (by omega);subst hz;simp[hcc];exact bad _ 0 60 hno (by decide) rfl rfl rfl
   ·have hz2:((c:Int)==0)=false:=by simp;omega
    simp[hcc,hz,hz2];refine qaB (qq4 l c H) (fun fr _=>c-(ai (aget fr 6)).toNat) ⟨rfl,0,by omega,by omega,by simp,friz⟩ ?_;rintro fr H' ⟨rfl,i,hi,hi2,hall,x,rfl⟩;by_cases h:i<c
    ·obtain⟨b,hbi⟩:∃b,l[i]? =some b:=⟨_,zqD (by omega)⟩
     have hat:=qap hbi;by_cases h128:i=128
     ·have hno:=qhi (l:=l) (by omega);subst h128;have h':(128:Int)<c:=by omega
      simp[h'];exact bad _ 128 60 hno (by decide) rfl rfl rfl
     ·have h128':((i:Int)==128)=false:=by simp;omega
      have hw:IntKind.i64.wrap ((i:Int)+1)=i+1:=wiz;have hil:i<l.length:=by omega
      simp[h,h128',hat,hil];refine qde E _ _ b ?_;cases hs:qao b with
      |false=>
       have hno:=qeK (by rw[hc];exact h) hbi hs;simp;exact bad _ i 60 hno (by decide) rfl rfl rfl
      |true=>
       simp[hw];exact Klz ⟨rfl,i+1,by omega,by omega,by rw[qbe qao l i b hbi,hall,hs];rfl,friz⟩
    ·obtain rfl:i=c:=by omega
     have hnm:qbH (l.take i)=true:=by
      have:l.take i≠[]:=by intro e;have h2:=congrArg List.length e;rw[zqJ]at h2;have h3:min i l.length=0:=h2;omega
      unfold qbH tokB;rw[hall,decide_eq_true (by rw[zqJ];omega)];simpa using this
     have hw:IntKind.i64.wrap ((i:Int)+1)=((i+1:Nat):Int):=by rw[qah (by omega) (by omega)];omega
     simp[hw,-Int.natCast_add];refine qaB (qq3 l i H) (fun fr _=>l.length-(ai (aget fr 7)).toNat) ⟨rfl,i+1,by omega,by omega,by simp[fldB],friz⟩ ?_;rintro fr H' ⟨rfl,k,hk,hk2,hfl,y,rfl⟩;by_cases hkl:k<l.length
     ·obtain⟨b,hbk⟩:∃b,l[k]? =some b:=⟨_,zqD hkl⟩
      have hat:=qap hbk;have hwk:IntKind.i64.wrap ((k:Int)+1)=k+1:=wiz;have hdk:(l.drop (i+1))[k-(i+1)]? =some b:=by rw[zqN,show i+1+(k-(i+1))=k by omega];exact hbk
      simp[hkl,hat];refine qeN E _ _ b ?_;cases hs:fcB b with
      |false=>
       have hno:qbt l=none:=qiU (by rw[hc];exact qei fcB _ _ b hdk hs);simp;exact bad _ k 61 hno (by decide) rfl rfl rfl
      |true=>
       simp[hwk];refine Klz ⟨rfl,k+1,by omega,by omega,?_,friz⟩;rw[show k+1-(i+1)=k-(i+1)+1 by omega,fldB,qbe fcB _ _ b hdk];rw[fldB]at hfl;rw[hfl,hs];rfl
     ·have hfl':fldB (l.drop (i+1))=true:=by
       rw[zqE (by rw[zqI];omega)]at hfl;exact hfl
      have hi1:i+1<=l.length:=by omega
      simp[hkl,hw,hi1,-Int.natCast_add];refine qcv E _ _ (l.drop (i+1)) (by rw[zqI];omega) ?_;have htl:=qfX (l.drop (i+1));rw[zqI]at htl;by_cases hbig:8192<(qaH (l.drop (i+1))).length
      ·have hno:qbt l=none:=qiV (by rw[hc];exact hbig);have hbig':(8192:Int)<(qaH (l.drop (i+1))).length:=by omega
       simp[hbig',hw,-Int.natCast_add];refine qaB (qq2 l i H) (fun fr _=>l.length-(ai (aget fr 9)).toNat) ⟨rfl,i+1,by omega,by omega,by simp,friz⟩ ?_;rintro fr H' ⟨rfl,m,hm,hm2,hbl,z,rfl⟩
       have hml:m<l.length:=by
        apply Nat.lt_of_not_le;intro hge;rw[zqE (by rw[zqI];omega)]at hbl;rw[qik _ hbl]at hbig;simp at hbig
       obtain⟨b,hbm⟩:∃b,l[m]? =some b:=⟨_,zqD hml⟩
       have hat:=qap hbm;have hwm:IntKind.i64.wrap ((m:Int)+1)=m+1:=wiz;have hwm2:IntKind.i64.wrap ((m:Int)+8192)=m+8192:=wiz;have hdm:(l.drop (i+1))[m-(i+1)]? =some b:=by rw[zqN,show i+1+(m-(i+1))=m by omega];exact hbm
       simp[hml,hat];refine qa1 E _ _ b ?_;cases hs:qag b with
       |false=>
        simp[hwm2];exact bad _ (m+8192) 61 hno (by decide) rfl rfl rfl
       |true=>
        simp[hwm];refine Klz ⟨rfl,m+1,by omega,by omega,?_,friz⟩;rw[show m+1-(i+1)=m-(i+1)+1 by omega,qbe qag _ _ b hdm,hbl,hs];rfl
      ·have hbig':¬(8192:Int)<(qaH (l.drop (i+1))).length:=by omega
       have hf:qbt l=some ⟨l.take i,qaH (l.drop (i+1))⟩:=by
        unfold qbt;rw[hc,if_pos ⟨hcc,hnm,hfl',by omega⟩]
       have hil:i<=l.length:=by omega
       simp[hbig',hil];exact qab hB (v0:= .tup [.agg [.str (l.take i),.str (qaH (l.drop (i+1)))],.int .i64 0,.int .i64 0]) (by simp) (qaa _) (by simp) (hQ1 _ hf)
end
def qcB(l:List UInt8)(a m:Nat):Int:=if a+run not10 (l.drop a)<l.length/\run not10 (l.drop a)<m then((a+run not10 (l.drop a):Nat):Int)else-1
def wkA(t e:Int)(d:Bool)(b:List UInt8)(z:AV):AV:= .agg [.int .i64 t,.int .i64 e,.bool d,.str b,z]
section
variable (E:Env)(H:Hp)(Q:AV->Hp->Prop)
def endInv(l:List UInt8)(a m:Nat)(H:Hp)(fr:List AV)(H':Hp):Prop:=H'=H/\∃n:Nat,a+n<=l.length/\n<=m/\((l.drop a).take n).all not10=true/\∃x:Nat->AV,fr=[.str l,.int .i64 a,.int .i64 m,x 3,x 4,x 5,x 6,.int .i64 (a+n:Nat),x 8,x 9,x 10,x 11,x 12,x 13,x 14,x 15,x 16,x 17,x 18,x 19,x 20,x 21,x 22,x 23,x 24,x 25,x 26]
theorem qjb(l:List UInt8)(a m:Nat)(hl:l.length<=1000000000)(ha:a<=l.length)(hm:m<=1000000000)(hQ:Q (.int .i64 (qcB l a m)) H):PC Tryz.prog E 129 [.str l,.int .i64 a,.int .i64 m] H Q:=by
 refine qac Tryz.func129 rfl [] [] (by kernel_rfl) (fun hB=>?_);simp[Tryz.ntmps129,Tryz.results129,List.replicate_succ];refine qaB (endInv l a m H) (fun fr _=>l.length-(ai (aget fr 7)).toNat) ⟨rfl,0,by omega,by omega,rfl,friz⟩ ?_;rintro fr H' ⟨rfl,n,hn,hnm,hall,x,rfl⟩;obtain⟨i,hi⟩:∃i,i=a+n:=⟨_,rfl⟩
 rw[<-hi]at hn⊢;have hw:IntKind.i64.wrap ((i:Int)+1)=i+1:=wiz;have hw2:IntKind.i64.wrap ((i:Int)-a)=n:=by rw[qah (by omega) (by omega)];omega
 by_cases h:i<l.length
 ·obtain⟨b,hb⟩:∃b,l[i]? =some b:=⟨_,zqD h⟩
  have hb2:(l.drop a)[n]? =some b:=by rw[zqN,<-hi];exact hb
  have hat:=qap hb;by_cases hnm2:n<m
  ·by_cases h10:b=10
   ·subst h10;have hr:run not10 (l.drop a)=n:=qbl not10 _ n hall (by rw[zqI];omega) (fun c hc=>by rw[hb2]at hc;cases hc;rfl);have he:qcB l a m=(i:Int):=by unfold qcB;rw[hr,if_pos ⟨by omega,hnm2⟩,<-hi]
    rw[he]at hQ;simp[h,hw2,hnm2,hat];exact aQz hB (h6:=hQ)
   ·have t1:((b.toNat:Int)==10)=false:=qcP b 10 (by omega) h10;simp[h,hw2,hnm2,hat,t1,hw];exact Klz ⟨rfl,n+1,by omega,by omega,by rw[qbV not10 (l.drop a) n b hb2,hall];simp[not10,h10],qal (by simp;omega)⟩
  ·have he:qcB l a m= -1:=by
    unfold qcB;rw[if_neg];rintro⟨h1,h2⟩;have h3:=qkG (p:=not10) (l:=l.drop a) (by rw[zqI];omega);obtain⟨c,h4,h5⟩:=h3;have:run not10 (l.drop a)<n:=by omega
    have h6:((l.drop a).take n)[run not10 (l.drop a)]? =some c:=by rw[zqG this];exact h4
    rw[qei not10 _ _ c h6 h5]at hall;cases hall
   rw[he]at hQ;simp[h,hw2,hnm2];exact aQz hB (h6:=hQ)
 ·have he:qcB l a m= -1:=by
   have hr:run not10 (l.drop a)=n:=qbl not10 _ n hall (by rw[zqI];omega) (fun c hc=>by rw[zqN]at hc;have:=(zqC.1 hc).1;omega);unfold qcB;rw[hr,if_neg];rintro⟨h1,h2⟩;omega
  rw[he]at hQ;simp[h];exact aQz hB (h6:=hQ)
variable (t e:Int)(d:Bool)(b:List UInt8)(z:AV)(z1:z.dis=z)(z2:z.free=true)(z3:Bnd H.length z)
include z1 z2 z3
theorem qbx(a:Nat)(e':Int)(ha:a<=1000000000)(hQ:Q (wkA (a+1:Nat) e' d b z) H):PC Tryz.prog E 131 [wkA t e d b z,.int .i64 a,.int .i64 e'] H Q:=by
 refine qac Tryz.func131 rfl [] [] (by kernel_rfl) (fun hB=>?_);have hw:IntKind.i64.wrap ((a:Int)+1)=((a+1:Nat):Int):=by rw[qah (by omega) (by omega)];omega
 simp[Tryz.ntmps131,Tryz.results131,List.replicate_succ,wkA,hw,z1,z2,-Int.natCast_add];exact qab hB (v0:=wkA (a+1:Nat) e' d b z) (by simp[wkA,z1,z2,-Int.natCast_add]) (qaa _) (by simp[wkA,z3]) hQ
theorem qjT(l:List UInt8)(a n:Nat)(e':Int)(hl:l.length<=1000000000)(ha:a<=l.length)(hQ1:n<l.length-a->Q (wkA (a+n+1:Nat) e' d b z) H)(hQ2:l.length-a<=n->Q (wkA l.length e d b z) H):
  PC Tryz.prog E 130 [wkA t e d b z,.str l,.int .i64 a,.int .i64 n,.int .i64 e'] H Q:=by
 refine qac Tryz.func130 rfl [] [] (by kernel_rfl) (fun hB=>?_);have hw1:IntKind.i64.wrap ((l.length:Int)-a)=((l.length-a:Nat):Int):=by rw[qah (by omega) (by omega)];omega
 by_cases h:n<l.length-a
 ·have hw2:IntKind.i64.wrap ((a:Int)+n)=((a+n:Nat):Int):=by rw[qah (by omega) (by omega)];omega
  have h':(n:Int)<((l.length-a:Nat):Int):=by omega
  simp[Tryz.ntmps130,Tryz.results130,List.replicate_succ,wkA,hw1,hw2,h',z1,z2,-Int.natCast_add];refine qbx E _ _ t e d b z z1 z2 (z3.mono (by simp)) (a+n) e' (by omega) ?_;simp[wkA,z1,z2,-Int.natCast_add];exact qab hB (v0:=wkA (a+n+1:Nat) e' d b z) (by simp[wkA,z1,z2,-Int.natCast_add]) (qaa _) (by simp[wkA,z3]) (hQ1 h)
 ·have h':¬(n:Int)<((l.length-a:Nat):Int):=by omega
  simp[Tryz.ntmps130,Tryz.results130,List.replicate_succ,wkA,hw1,h',z1,z2,-Int.natCast_add];exact qab hB (v0:=wkA l.length e d b z) (by simp[wkA,z1,z2,-Int.natCast_add]) (qaa _) (by simp[wkA,z3]) (hQ2 (by omega))
end
section
variable (m r f:Int)
def szD(B:List UInt8)(a:Nat):Dec:=⟨m,r,f,.size,[],0,B,[],0,a,false,0⟩
def daD(B:List UInt8)(n:Int)(a:Nat):Dec:=⟨m,r,f,.data,[],n,B,[],0,a,false,0⟩
def phD(i:Nat)(B:List UInt8)(a:Nat):Dec:=⟨m,r,f,if i=0 then .first else if i=1 then .second else .size,[],0,B,[],0,a,false,0⟩
def trD(B:List UInt8)(T:List Fld)(sec:Nat)(a:Nat):Dec:=⟨m,r,f,.trailer,[],0,B,T,sec,a,false,0⟩
def Fw(s:List UInt8)(d:Dec)(a:Nat):Prop:=qav (newD m r f) s=((qav d (s.drop a)).1,(qav d (s.drop a)).2+a)
def Ends(s:List UInt8)(t:Nat)(e:Int)(dn:Bool)(B:List UInt8)(T:List Fld):Prop:=
 (qav (newD m r f) s).2=t/\(qav (newD m r f) s).1.err=e/\(qav (newD m r f) s).1.done=dn/\(qav (newD m r f) s).1.body=B/\(qav (newD m r f) s).1.trailers=T
variable {m r f}{s:List UInt8}{d d1:Dec}{a n:Nat}{b:UInt8}{B:List UInt8}{T:List Fld}{sec:Nat}
theorem fw_new:Fw m r f s (szD m r f [] 0) 0:=rfl
theorem Fw.step(h:Fw m r f s d a)(h1:qav d ((s.drop a).take n)=(d1,((s.drop a).take n).length))(hg:goD d1)(hb:s[a+n]? =some b):
  (goD (feed1 d1 b)->Fw m r f s (feed1 d1 b) (a+n+1))/\((feed1 d1 b).done=true\/(feed1 d1 b).err≠0->qav (newD m r f) s=(feed1 d1 b,a+n+1)):=by
 have hlt:=(zqC.1 hb).1;have hlen:((s.drop a).take n).length=n:=by rw[zqJ,zqI];omega
 have hs:s.drop a=(s.drop a).take n++b::s.drop (a+n+1):=by
  have h2:(s.drop a).drop n=b::s.drop (a+n+1):=by
   rw[List.drop_drop,List.drop_eq_getElem_cons hlt];rw[(zqC.1 hb).2]
  conv=>lhs;rw[<-List.take_append_drop n (s.drop a),h2]
 have hc:=qeU _ d d1 (b::s.drop (a+n+1)) h1 hg;rw[<-hs,hlen]at hc;constructor
 ·intro hg2;unfold Fw at h⊢;rw[h,hc,qeT _ hg2];simp;omega
 ·intro hst;unfold Fw at h;rw[h,hc,qlZ _ hst];simp;omega
theorem Fw.all(h:Fw m r f s d a)(ha:a<=s.length)(h1:qav d (s.drop a)=(d1,(s.drop a).length)):Ends m r f s s.length d1.err d1.done d1.body d1.trailers:=by
 unfold Fw at h;rw[h1]at h;unfold Ends;rw[h];rw[zqI];exact⟨by simp only;omega,rfl,rfl,rfl,rfl⟩
theorem qeg{t:Nat}(h:qav (newD m r f) s=(d1,t)):Ends m r f s t d1.err d1.done d1.body d1.trailers:=by
 unfold Ends;rw[h];exact⟨rfl,rfl,rfl,rfl,rfl⟩
theorem qcq{k:Nat}(h:k<=run not10 (s.drop a)):∀c∈(s.drop a).take k,c≠10:=by
 intro c hc;have:=List.all_eq_true.1 (qkF h) c hc;simpa[not10]using this
theorem at10(hj:a+n<s.length)(hn:run not10 (s.drop a)=n):s[a+n]? =some 10:=by
 obtain⟨c,h1,h2⟩:=qkG (p:=not10) (l:=s.drop a) (by rw[zqI];omega);rw[hn,zqN]at h1;simp[not10]at h2;rw[h1,h2]
theorem ql1(d:Dec)(b:UInt8)(hs:d.st= .size)(hb:b≠10)(hl:d.line.length=255):feed1 d b={d with line:=d.line++[b],total:=d.total+1,err:=100}:=by
 unfold feed1 qbZ;simp only[hs,qgL,hb,if_pos,ne_eq,not_false_eq_true];rw[if_pos (by simp;omega)]
theorem qrv(h:Fw m r f s (szD m r f B a) a)(hl:a+255<s.length)(hn:256<=run not10 (s.drop a)):Ends m r f s (a+256) 100 false B []:=by
 obtain⟨b,hb⟩:∃b,s[a+255]? =some b:=⟨_,zqD hl⟩
 have hlen:((s.drop a).take 255).length=255:=by rw[zqJ,zqI];omega
 have hr:=qfD ((s.drop a).take 255) (szD m r f B a) rfl ⟨rfl,rfl⟩ (qcq (by omega)) (by simp only[szD,hlen];decide)
 have hbn:b≠10:=by
  have:=run_at (p:=not10) (l:=s.drop a) (k:=255) (by omega) (by rw[zqN];exact hb);simpa[not10]using this
 have h1:=ql1 {szD m r f B a with line:=(szD m r f B a).line++(s.drop a).take 255,total:=(szD m r f B a).total+((s.drop a).take 255).length} b rfl hbn (by simp only[szD,List.nil_append];exact hlen);have hst:=h.step hr ⟨rfl,rfl⟩ hb;rw[h1]at hst;exact qeg (hst.2 (.inr (by show(100:Int)≠0;decide)))
theorem qrw(h:Fw m r f s (szD m r f B a) a)(ha:a<=s.length)(hl:s.length-a<=255)(hn:s.length-a<=run not10 (s.drop a)):Ends m r f s s.length 0 false B []:=by
 have hr:=qfD (s.drop a) (szD m r f B a) rfl ⟨rfl,rfl⟩ (by
  have:=qcq (s:=s) (a:=a) (k:=s.length-a) hn
  rwa[zqE (by rw[zqI];omega)]at this) (by rw[zqI];simp only[szD,List.length_nil];omega)
 exact h.all ha hr
section
variable (h:Fw m r f s (szD m r f B a) a)(hj:a+n<s.length)(hn:run not10 (s.drop a)=n)(h256:n<256)
include h hj hn h256
theorem qio:(goD (feed1 {szD m r f B a with line:=(s.drop a).take n,total:=a+n} 10)->Fw m r f s (feed1 {szD m r f B a with line:=(s.drop a).take n,total:=a+n} 10) (a+n+1))/\
  ((feed1 {szD m r f B a with line:=(s.drop a).take n,total:=a+n} 10).done=true\/(feed1 {szD m r f B a with line:=(s.drop a).take n,total:=a+n} 10).err≠0->qav (newD m r f) s=(feed1 {szD m r f B a with line:=(s.drop a).take n,total:=a+n} 10,a+n+1)):=by
 have hlen:((s.drop a).take n).length=n:=by rw[zqJ,zqI];omega
 have hr:=qfD ((s.drop a).take n) (szD m r f B a) rfl ⟨rfl,rfl⟩ (qcq (by omega)) (by rw[hlen];simp only[szD,List.length_nil];omega)
 have he:({szD m r f B a with line:=(szD m r f B a).line++(s.drop a).take n,total:=(szD m r f B a).total+((s.drop a).take n).length}:Dec)={szD m r f B a with line:=(s.drop a).take n,total:=a+n}:=by
  rw[hlen];rfl
 rw[he]at hr;exact h.step hr ⟨rfl,rfl⟩ (at10 hj hn)
theorem qmS(hx:endL ((s.drop a).take n++[10])=none):Ends m r f s (a+n+1) 100 false B []:=by
 have h1:feed1 {szD m r f B a with line:=(s.drop a).take n,total:=a+n} 10={szD m r f B a with line:=[],total:=a+n+1,err:=100}:=by
  rw[qc3 _ rfl];simp only[szD];rw[hx];rfl
 have:=qio h hj hn h256;rw[h1]at this;exact qeg (this.2 (.inr (by simp)))
variable {l:List UInt8}(hx:endL ((s.drop a).take n++[10])=some l)
include hx
theorem sz_bad(he:(qak l).2.2≠0):Ends m r f s (a+n+1) (qak l).2.2 false B []:=by
 have h1:feed1 {szD m r f B a with line:=(s.drop a).take n,total:=a+n} 10={szD m r f B a with line:=[],total:=a+n+1,err:=(qak l).2.2}:=by
  rw[qc3 _ rfl];simp only[szD];rw[hx];simp only[qlC];rw[if_pos he]
 have:=qio h hj hn h256;rw[h1]at this;exact qeg (this.2 (.inr he))
variable (he:(qak l).2.2=0)
include he
theorem qrx(hm:m-B.length<(qak l).1):Ends m r f s (a+n+1) 102 false B []:=by
 have h1:feed1 {szD m r f B a with line:=(s.drop a).take n,total:=a+n} 10={szD m r f B a with line:=[],total:=a+n+1,err:=102}:=by
  rw[qc3 _ rfl];simp only[szD];rw[hx];simp only[qlC];rw[if_neg (by simpa using he),if_pos hm]
 have:=qio h hj hn h256;rw[h1]at this;exact qeg (this.2 (.inr (by simp)))
theorem qpn(hm:¬m-B.length<(qak l).1)(h0:(qak l).1=0):Fw m r f s (trD m r f B [] 0 (a+n+1)) (a+n+1):=by
 have h1:feed1 {szD m r f B a with line:=(s.drop a).take n,total:=a+n} 10=trD m r f B [] 0 (a+n+1):=by
  rw[qc3 _ rfl];simp only[szD];rw[hx];simp only[qlC];rw[if_neg (by simpa using he),if_neg hm,if_pos h0];rfl
 have:=qio h hj hn h256;rw[h1]at this;exact this.1 ⟨rfl,rfl⟩
theorem qry(hm:¬m-B.length<(qak l).1)(h0:(qak l).1≠0):Fw m r f s (daD m r f B (qak l).1 (a+n+1)) (a+n+1):=by
 have h1:feed1 {szD m r f B a with line:=(s.drop a).take n,total:=a+n} 10=daD m r f B (qak l).1 (a+n+1):=by
  rw[qc3 _ rfl];simp only[szD];rw[hx];simp only[qlC];rw[if_neg (by simpa using he),if_neg hm,if_neg h0];rfl
 have:=qio h hj hn h256;rw[h1]at this;exact this.1 ⟨rfl,rfl⟩
end
theorem qsu{k:Int}(h:Fw m r f s (daD m r f B k a) a)(ha:a<=s.length)(hk:((s.length-a:Nat):Int)<k):Ends m r f s s.length 0 false (B++s.drop a) []:=
 h.all ha (qhF (s.drop a) (daD m r f B k a) rfl ⟨rfl,rfl⟩ (by rw[zqI];exact hk))
theorem qsv{k:Nat}(h:Fw m r f s (daD m r f B (k:Int) a) a)(hk:0<k)(hl:a+k<=s.length):Fw m r f s (phD m r f 0 (B++(s.drop a).take k) (a+k)) (a+k):=by
 have hlen:((s.drop a).take k).length=k:=by rw[zqJ,zqI];omega
 have h1:=qnM ((s.drop a).take k) (daD m r f B (k:Int) a) rfl ⟨rfl,rfl⟩ (by intro e;rw[e]at hlen;simp at hlen;omega) (by rw[hlen];rfl);have h2:=qeU _ _ _ (s.drop (a+k)) h1 ⟨rfl,rfl⟩;rw[show(s.drop a).take k++s.drop (a+k)=s.drop a by rw[<-List.drop_drop,List.take_append_drop],hlen]at h2;unfold Fw at h⊢;rw[h,h2];simp only[daD,phD,if_pos];refine Prod.ext rfl ?_;show _+k+a=_+(a+k)
 omega
theorem qrO{i:Nat}(h:Fw m r f s (phD m r f i B a) a)(ha:a=s.length):Ends m r f s s.length 0 false B []:=by
 refine h.all (by omega) (d1:=phD m r f i B a) ?_;rw[List.drop_of_length_le (by omega)];rfl
theorem Fw.one(h:Fw m r f s d a)(hg:goD d)(hb:s[a]? =some b):(goD (feed1 d b)->Fw m r f s (feed1 d b) (a+1))/\((feed1 d b).done=true\/(feed1 d b).err≠0->qav (newD m r f) s=(feed1 d b,a+1)):=
 h.step (n:=0) (by simp[qav]) hg hb
theorem ph_bad{i:Nat}(hi:i<2)(h:Fw m r f s (phD m r f i B a) a)(hb:s[a]? =some b)(hne:b≠if i=0 then 13 else 10):Ends m r f s (a+1) 100 false B []:=by
 have h1:feed1 (phD m r f i B a) b={phD m r f i B a with total:=a+1,err:=100}:=by
  rcases(by omega:i=0\/i=1)with rfl|rfl
  ·simp at hne;simp[feed1,qbZ,phD,qeR,hne]
  ·simp at hne;simp[feed1,qbZ,phD,qdc,hne]
 have:=h.one ⟨rfl,rfl⟩ hb;rw[h1]at this;exact qeg (this.2 (.inr (by simp)))
theorem ph_go{i:Nat}(hi:i<2)(h:Fw m r f s (phD m r f i B a) a)(hb:s[a]? =some (if i=0 then 13 else 10)):Fw m r f s (phD m r f (i+1) B (a+1)) (a+1):=by
 have h1:feed1 (phD m r f i B a) (if i=0 then 13 else 10)=phD m r f (i+1) B (a+1):=by
  rcases(by omega:i=0\/i=1)with rfl|rfl
  ·simp[feed1,qbZ,phD,qeR]
  ·simp[feed1,qbZ,phD,qdc]
 have:=h.one ⟨rfl,rfl⟩ hb;rw[h1]at this;exact this.1 ⟨rfl,rfl⟩
theorem ph_two:phD m r f 2 B a=szD m r f B a:=rfl
theorem qjy(d:Dec)(l:List UInt8)(hl:l≠[])(hf:d.fields<=d.trailers.length):qdt d (some l)=({d with section_:=d.section_+1,line:=[]},104):=by
 simp only[qdt];rw[if_neg hl,if_pos hf]
theorem qly(d:Dec)(l:List UInt8)(hl:l≠[])(hf:¬d.fields<=d.trailers.length)(hb:qbt l=none\/∃g,qbt l=some g/\mayB g.name=false):qdt d (some l)=({d with section_:=d.section_+1,line:=[]},101):=by
 simp only[qdt];rw[if_neg hl,if_neg hf];rcases hb with hb|⟨g,hb,hg⟩
 ·rw[hb]
 ·rw[hb];simp[hg]
theorem qmL(d:Dec)(l:List UInt8)(hl:l≠[])(hf:¬d.fields<=d.trailers.length){g:Fld}(hb:qbt l=some g)(hg:mayB g.name=true):qdt d (some l)=({d with section_:=d.section_+1,line:=[],trailers:=d.trailers++[g]},0):=by
 simp only[qdt];rw[if_neg hl,if_neg hf,hb];simp[hg]
theorem qmM{k:Nat}(h:Fw m r f s (trD m r f B T sec a) a)(hk:r=(sec+k:Nat))(hl:a+k<s.length)(hn:k<=run not10 (s.drop a)):Ends m r f s (a+k+1) 104 false B T:=by
 obtain⟨b,hb⟩:∃b,s[a+k]? =some b:=⟨_,zqD hl⟩
 have hlen:((s.drop a).take k).length=k:=by rw[zqJ,zqI];omega
 have hr:=qex ((s.drop a).take k) (trD m r f B T sec a) rfl ⟨rfl,rfl⟩ (qcq (by omega)) (by rw[hlen];simp only[trD];omega)
 have h1:feed1 {trD m r f B T sec a with line:=(trD m r f B T sec a).line++(s.drop a).take k,section_:=(trD m r f B T sec a).section_+((s.drop a).take k).length,total:=(trD m r f B T sec a).total+((s.drop a).take k).length} b={trD m r f B T sec a with line:=(s.drop a).take k,section_:=sec+k,total:=a+k+1,err:=104}:=by
  unfold feed1 qbZ;simp only[trD,qbC,hlen];rw[if_pos (by omega)];rfl
 have hst:=h.step hr ⟨rfl,rfl⟩ hb;rw[h1]at hst;exact qeg (hst.2 (.inr (by simp)))
theorem qrs(h:Fw m r f s (trD m r f B T sec a) a)(ha:a<=s.length)(hl:((sec+(s.length-a):Nat):Int)<=r)(hn:s.length-a<=run not10 (s.drop a)):Ends m r f s s.length 0 false B T:=by
 have hr:=qex (s.drop a) (trD m r f B T sec a) rfl ⟨rfl,rfl⟩ (by
  have:=qcq (s:=s) (a:=a) (k:=s.length-a) hn
  rwa[zqE (by rw[zqI];omega)]at this) (by rw[zqI];simp only[trD];omega)
 exact h.all ha hr
section
variable (h:Fw m r f s (trD m r f B T sec a) a)(hj:a+n<s.length)(hn:run not10 (s.drop a)=n)(hr:((sec+n:Nat):Int)<r)
include h hj hn hr
theorem qqO:(goD (feed1 {trD m r f B T sec a with line:=(s.drop a).take n,section_:=sec+n,total:=a+n} 10)->Fw m r f s (feed1 {trD m r f B T sec a with line:=(s.drop a).take n,section_:=sec+n,total:=a+n} 10) (a+n+1))/\
  ((feed1 {trD m r f B T sec a with line:=(s.drop a).take n,section_:=sec+n,total:=a+n} 10).done=true\/(feed1 {trD m r f B T sec a with line:=(s.drop a).take n,section_:=sec+n,total:=a+n} 10).err≠0->qav (newD m r f) s=(feed1 {trD m r f B T sec a with line:=(s.drop a).take n,section_:=sec+n,total:=a+n} 10,a+n+1)):=by
 have hlen:((s.drop a).take n).length=n:=by rw[zqJ,zqI];omega
 have hr:=qex ((s.drop a).take n) (trD m r f B T sec a) rfl ⟨rfl,rfl⟩ (qcq (by omega)) (by rw[hlen];simp only[trD];omega)
 have he:({trD m r f B T sec a with line:=(trD m r f B T sec a).line++(s.drop a).take n,section_:=(trD m r f B T sec a).section_+((s.drop a).take n).length,total:=(trD m r f B T sec a).total+((s.drop a).take n).length}:Dec)={trD m r f B T sec a with line:=(s.drop a).take n,section_:=sec+n,total:=a+n}:=by
  rw[hlen];rfl
 rw[he]at hr;exact h.step hr ⟨rfl,rfl⟩ (at10 hj hn)
theorem qhC{e:Int}{dn:Bool}{T':List Fld}(hx:(qdt {trD m r f B T sec a with line:=(s.drop a).take n,section_:=sec+n,total:=a+n+1} (endL ((s.drop a).take n++[10]))).2=e)(hd:(qdt {trD m r f B T sec a with line:=(s.drop a).take n,section_:=sec+n,total:=a+n+1} (endL ((s.drop a).take n++[10]))).1.done=dn)
  (hb:(qdt {trD m r f B T sec a with line:=(s.drop a).take n,section_:=sec+n,total:=a+n+1} (endL ((s.drop a).take n++[10]))).1.body=B) (ht:(qdt {trD m r f B T sec a with line:=(s.drop a).take n,section_:=sec+n,total:=a+n+1} (endL ((s.drop a).take n++[10]))).1.trailers=T') (hst:dn=true\/e≠0):Ends m r f s (a+n+1) e dn B T':=by
 have h1:=qgp {trD m r f B T sec a with line:=(s.drop a).take n,section_:=sec+n,total:=a+n} rfl hr;have h2:=(qqO h hj hn hr).2 (by rw[h1];simp only;rw[hx,hd];exact hst);rw[h1]at h2;have:=qeg h2;simp only at this;rw[hx,hd,hb,ht]at this;exact this
theorem qmN(hx:endL ((s.drop a).take n++[10])=none):Ends m r f s (a+n+1) 101 false B T:=by
 refine qhC h hj hn hr ?_ ?_ ?_ ?_ (.inr (by simp))<;>rw[hx]<;>rfl
theorem qru(hx:endL ((s.drop a).take n++[10])=some []):Ends m r f s (a+n+1) 0 true B T:=by
 refine qhC h hj hn hr ?_ ?_ ?_ ?_ (.inl rfl)<;>rw[hx]<;>rfl
variable {l:List UInt8}(hx:endL ((s.drop a).take n++[10])=some l)(hl:l≠[])
include hx hl
theorem qrt(hf:f<=T.length):Ends m r f s (a+n+1) 104 false B T:=by
 refine qhC h hj hn hr ?_ ?_ ?_ ?_ (.inr (by simp))<;>rw[hx,qjy _ l hl hf]<;>rfl
variable (hf:¬f<=T.length)
include hf
theorem qqP(hb:qbt l=none\/∃g,qbt l=some g/\mayB g.name=false):Ends m r f s (a+n+1) 101 false B T:=by
 refine qhC h hj hn hr ?_ ?_ ?_ ?_ (.inr (by simp))<;>rw[hx,qly _ l hl hf hb]<;>rfl
theorem tr_go{g:Fld}(hb:qbt l=some g)(hg:mayB g.name=true):Fw m r f s (trD m r f B (T++[g]) (sec+n+1) (a+n+1)) (a+n+1):=by
 have h1:=qgp {trD m r f B T sec a with line:=(s.drop a).take n,section_:=sec+n,total:=a+n} rfl hr
 have h3:feed1 {trD m r f B T sec a with line:=(s.drop a).take n,section_:=sec+n,total:=a+n} 10=trD m r f B (T++[g]) (sec+n+1) (a+n+1):=by
  rw[h1];have:=qmL {trD m r f B T sec a with line:=(s.drop a).take n,section_:=sec+n,total:=a+n+1} l hl hf hb hg;rw[<-hx]at this;have e:∀(p:Dec×Int) (q:Dec×Int),p=q->({p.1 with err:=p.2}:Dec)={q.1 with err:=q.2}:=fun p q h=>h▸rfl;exact e _ _ this
 have:=(qqO h hj hn hr).1;rw[h3]at this;exact this ⟨rfl,rfl⟩
end
end
section
variable (E:Env)(H:Hp)(Q:AV->Hp->Prop)
def trInv(m r f:Int)(s:List UInt8)(fm:Nat)(B:List UInt8)(H:Hp)(fr:List AV)(H':Hp):Prop:=
 ∃(J:Hp) (a:Nat) (T:List Fld),H'=H++[.int .i64 0,.int .i64 0,.bool false,.str B,.sl true 2 (flds T)]::[.int .i64 0,.int .i64 0,.bool false,.str [],.nil]::J/\fm<=a/\a<=s.length/\((a-fm:Nat):Int)<=r/\T.length<=a-fm/\Fw m r f s (trD m r f B T (a-fm) a) a/\
  ∃x:Nat->AV,fr=[x 0,.str s,.int .i64 fm,.int .i64 r,.int .i64 f,.ptr (some (H.length,0)),x 6,x 7,x 8,x 9,.ptr (some (H.length+1,0)),.int .i64 a,x 12,x 13,x 14,x 15,x 16,x 17,x 18,x 19,x 20,x 21,x 22,x 23,x 24,x 25,x 26,x 27,x 28,x 29,x 30,x 31,x 32,x 33,x 34,x 35,x 36,x 37,x 38,x 39,x 40,x 41,x 42,x 43,x 44,x 45,x 46,x 47,x 48,x 49,x 50,x 51,x 52,x 53,x 54,x 55,x 56,x 57,x 58,x 59,x 60,x 61,x 62,x 63,x 64,x 65,x 66,x 67,x 68,x 69,x 70,x 71,x 72,x 73,x 74,x 75,x 76,x 77,x 78,x 79,x 80,x 81,x 82,x 83,x 84,x 85,x 86,x 87,x 88,x 89,x 90,x 91,x 92,x 93,x 94]
theorem qeZ{N:Nat}(T:List Fld):Bnd N (.sl false 2 (flds T)):=qcm _ _ T
theorem qpj(m f:Int)(r:Nat)(s:List UInt8)(fm:Nat)(B:List UInt8)(hs:s.length<=1000000000)(hfm:fm<=s.length)(h0:Fw m r f s (trD m r f B [] 0 fm) fm)
  (hQ:∀t e dn T,Ends m r f s t e dn B T->Q (wkA t e dn B (.sl false 2 (flds T))) H):
  PC Tryz.prog E 133 [wkA 0 0 false B .nil,.str s,.int .i64 fm,.int .i64 r,.int .i64 f] H Q:=by
 refine qac Tryz.func133 rfl [88] [] (by kernel_rfl) (fun hB=>?_)
 have fin:∀(fr:List AV) (J:Hp) (c:List AV) (t:Nat) e dn T,Ends m r f s t e dn B T->aget fr 10= .ptr (some (H.length+1,0))->qbO Tryz.prog [ResultVar.cell 10 153] H.length Q .ret fr (H++c::[.int .i64 t,.int .i64 e,.bool dn,.str B,.sl false 2 (flds T)]::J):=fun fr J c t e dn T he h10=>by
  refine qab (J:=c::[.int .i64 t,.int .i64 e,.bool dn,.str B,.sl false 2 (flds T)]::J) hB (v0:=wkA t e dn B (.sl false 2 (flds T))) ?_ (qaa _) (by simp[wkA,qeZ]) (hQ t e dn T he);simp[h10,wkA]
 simp[Tryz.ntmps133,Tryz.results133,List.replicate_succ,wkA];refine qsL H.length _ 4 2 (by simp;rfl) (by rfl) ?_;simp only[List.set_cons_succ,List.set_cons_zero];refine qaB (trInv m r f s fm B H) (fun fr _=>s.length-(ai (aget fr 11)).toNat) ⟨[],fm,[],by simp[flds],by omega,hfm,by omega,by simp,by rw[Nat.sub_self];exact h0,friz⟩ ?_;rintro fr H' ⟨J,a,T,rfl,ha,hal,har,hT,hfw,x,rfl⟩;obtain⟨n,hn⟩:=exz (run not10 (s.drop a));have hnl:=qbf not10 (s.drop a);rw[hn,zqI]at hnl;simp;refine qjb E _ _ s a s.length hs hal hs ?_;by_cases hj:a+n<s.length
 ·have hea:qcB s a s.length=((a+n:Nat):Int):=by unfold qcB;rw[hn,if_pos ⟨hj,by omega⟩]
  rw[hea];obtain⟨j,hjj⟩:∃j,j=a+n:=⟨_,rfl⟩
  rw[<-hjj];have hw1:IntKind.i64.wrap ((j:Int)-fm)=((j-fm:Nat):Int):=by rw[qah (by omega) (by omega)];omega
  by_cases hroom:r<=j-fm
  ·have hr':(r:Int)<=((j-fm:Nat):Int):=by omega
   simp[hw1,hr'];refine qjT E _ _ 0 0 false B (.sl false 2 (flds T)) rfl rfl (qeZ T) s fm r 104 hs hfm (fun hlt=>?_) (fun hge=>by omega);have h1:=qmM (k:=r-(a-fm)) hfw (by omega) (by omega) (by omega);rw[show a+(r-(a-fm))+1=fm+r+1 by omega]at h1;simp[wkA,-Int.natCast_add];exact fin _ _ _ _ _ _ _ h1 rfl
  ·have hr':¬(r:Int)<=((j-fm:Nat):Int):=by omega
   have hsec:(((a-fm)+n:Nat):Int)<r:=by omega
   have hend:=qjc s a n (by omega);by_cases hz:n=0
   ·have hja:j=a:=by omega
    rw[if_pos (.inl hz)]at hend;have h1:=qmN hfw hj hn hsec hend;rw[<-hjj]at h1;have e0:((j:Int)==a)=true:=by simp;omega
    simp[hw1,hr',e0];refine qbx E _ _ 0 0 false B (.sl false 2 (flds T)) rfl rfl (qeZ T) j 101 (by omega) ?_;simp[wkA,-Int.natCast_add];exact fin _ _ _ _ _ _ _ h1 rfl
   ·obtain⟨j1,hj1⟩:∃j1,j=j1+1:=⟨j-1,by omega⟩
    have hw3:IntKind.i64.wrap ((j:Int)-1)=(j1:Int):=by rw[qah (by omega) (by omega)];omega
    have e0:((j:Int)==a)=false:=by simp;omega
    obtain⟨c,hc⟩:∃c,s[j1]? =some c:=⟨_,zqD (by omega)⟩
    have hat:=qap hc;have hj1l:j1<s.length:=by omega
    by_cases h13:c=13
    ·subst h13;rw[show a+n-1=j1 by omega,if_neg (by rw[hc];simp;exact hz),show n-1=j1-a by omega]at hend;obtain⟨ln,hln⟩:=exz ((s.drop a).take (j1-a));have hlnl:ln.length<=s.length:=by rw[<-hln,zqJ,zqI];omega
     rw[hln]at hend;have haj:a<=j1:=by omega
     have hjl:j1<=s.length:=by omega
     by_cases hle:ln=[]
     ·subst hle;have h1:=qru hfw hj hn hsec hend;have hw4:IntKind.i64.wrap ((j:Int)+1)=((a+n+1:Nat):Int):=by rw[qah (by omega) (by omega)];omega
      simp[hw1,hr',e0,hw3,hat,hj1l,hln,haj,hjl,hw4,-Int.natCast_add];exact fin _ _ _ _ _ _ _ h1 rfl
     ·have hle2:(ln==[])=false:=beq_eq_false_iff_ne.2 hle;by_cases hf:f<=T.length
      ·have h1:=qrt hfw hj hn hsec hend hle hf;rw[<-hjj]at h1;simp[hw1,hr',e0,hw3,hat,hj1l,hln,haj,hjl,hle2,hf];refine qbx E _ _ 0 0 false B (.sl false 2 (flds T)) rfl rfl (qeZ T) j 104 (by omega) ?_;simp[wkA,-Int.natCast_add];exact fin _ _ _ _ _ _ _ h1 rfl
      ·simp[hw1,hr',e0,hw3,hat,hj1l,hln,haj,hjl,hle2,hf];refine qp6 E _ _ ln (by simp only[cap];omega) (fun g hg=>?_) (fun hno pl e he=>?_)
       ·have hgn:g.name.length<=cap:=by
         unfold qbt at hg;split at hg
         ·cases hg;simp only[zqJ,cap];omega
         ·cases hg
        simp;refine qlI E _ _ g.name hgn ?_;cases hmt:mayB g.name with
        |true=>
         have h1:=tr_go hfw hj hn hsec hend hle hf hg hmt;have hw4:IntKind.i64.wrap ((j:Int)+1)=((j+1:Nat):Int):=by rw[qah (by omega) (by omega)];omega
         have m3:T.length+1<=maxLen:=by unfold maxLen;omega
         have m4:(T.length+1)*32<=140737488355328:=by omega
         simp[m3,m4,qgl,hw4,-Int.natCast_add];refine Klz ⟨_,j+1,T++[g],by simp;rfl,by omega,by omega,by omega,by simp;omega,?_,friz⟩;rw[show a-fm+n+1=j+1-fm by omega,show a+n+1=j+1 by omega]at h1;exact h1
        |false=>
         have h1:=qqP hfw hj hn hsec hend hle hf (.inr ⟨g,hg,hmt⟩);rw[<-hjj]at h1;simp;refine qbx E _ _ 0 0 false B (.sl false 2 (flds T)) rfl rfl (qeZ T) j 101 (by omega) ?_;simp[wkA,-Int.natCast_add];exact fin _ _ _ _ _ _ _ h1 rfl
       ·have h1:=qqP hfw hj hn hsec hend hle hf (.inl hno);rw[<-hjj]at h1;have he2:(e !=0)=true:=by simpa using he
        simp[he2];refine qbx E _ _ 0 0 false B (.sl false 2 (flds T)) rfl rfl (qeZ T) j 101 (by omega) ?_;simp[wkA,-Int.natCast_add];exact fin _ _ _ _ _ _ _ h1 rfl
    ·rw[show a+n-1=j1 by omega,if_pos (.inr (by rw[hc];simpa using h13))]at hend;have h1:=qmN hfw hj hn hsec hend;rw[<-hjj]at h1;have t1:((c.toNat:Int)==13)=false:=qcP c 13 (by omega) h13;simp[hw1,hr',e0,hw3,hat,hj1l,t1,bne];refine qbx E _ _ 0 0 false B (.sl false 2 (flds T)) rfl rfl (qeZ T) j 101 (by omega) ?_;simp[wkA,-Int.natCast_add];exact fin _ _ _ _ _ _ _ h1 rfl
 ·have hea:qcB s a s.length= -1:=by unfold qcB;rw[hn,if_neg (by omega)]
  rw[hea];simp;refine qjT E _ _ 0 0 false B (.sl false 2 (flds T)) rfl rfl (qeZ T) s fm r 104 hs hfm (fun hlt=>?_) (fun hge=>?_)
  ·have h1:=qmM (k:=r-(a-fm)) hfw (by omega) (by omega) (by omega);rw[show a+(r-(a-fm))+1=fm+r+1 by omega]at h1;simp[wkA,-Int.natCast_add];exact fin _ _ _ _ _ _ _ h1 rfl
  ·have h1:=qrs hfw hal (by omega) (by omega);simp[wkA,-Int.natCast_add];exact fin _ _ _ _ _ _ _ h1 rfl
end
section
variable (E:Env)(H:Hp)(Q:AV->Hp->Prop)
def wkInv(m r f:Int)(s:List UInt8)(H:Hp)(fr:List AV)(H':Hp):Prop:=
 ∃(a:Nat) (B:List UInt8),H'=H++[[.int .i64 0,.int .i64 0,.bool false,.str [],.nil],[.int .i64 0,.int .i64 0,.bool false,.str B,.nil]]/\a<=s.length/\B.length<=a/\Fw m r f s (szD m r f B a) a/\
  ∃x:Nat->AV,fr=[.str s,.int .i64 m,.int .i64 r,.int .i64 f,x 4,x 5,x 6,x 7,.ptr (some (H.length,0)),.ptr (some (H.length+1,0)),.int .i64 a,x 11,x 12,x 13,x 14,x 15,x 16,x 17,x 18,x 19,x 20,x 21,x 22,x 23,x 24,x 25,x 26,x 27,x 28,x 29,x 30,x 31,x 32,x 33,x 34,x 35,x 36,x 37,x 38,x 39,x 40,x 41,x 42,x 43,x 44,x 45,x 46,x 47,x 48,x 49,x 50,x 51,x 52,x 53,x 54,x 55,x 56,x 57,x 58,x 59,x 60,x 61,x 62,x 63,x 64,x 65,x 66,x 67,x 68,x 69,x 70,x 71,x 72,x 73,x 74,x 75,x 76,x 77,x 78,x 79,x 80,x 81,x 82,x 83,x 84,x 85,x 86,x 87,x 88,x 89,x 90,x 91,x 92,x 93,x 94,x 95,x 96,x 97,x 98,x 99,x 100,x 101,x 102,x 103,x 104,x 105,x 106,x 107,x 108,x 109,x 110,x 111,x 112,x 113,x 114,x 115,x 116,x 117,x 118,x 119,x 120,x 121,x 122,x 123,x 124,x 125,x 126,x 127,x 128,x 129]
def wkInv2(m r f:Int)(s:List UInt8)(a0:Nat)(B:List UInt8)(H:Hp)(fr:List AV)(H':Hp):Prop:=
 ∃(i a:Nat),H'=H++[[.int .i64 0,.int .i64 0,.bool false,.str [],.nil],[.int .i64 0,.int .i64 0,.bool false,.str B,.nil]]/\i<=2/\a=a0+i/\a<=s.length/\B.length<=a/\Fw m r f s (phD m r f i B a) a/\
  ∃x:Nat->AV,fr=[.str s,.int .i64 m,.int .i64 r,.int .i64 f,x 4,x 5,x 6,x 7,.ptr (some (H.length,0)),.ptr (some (H.length+1,0)),.int .i64 a,x 11,x 12,x 13,x 14,x 15,x 16,x 17,x 18,x 19,x 20,x 21,x 22,x 23,x 24,x 25,x 26,x 27,x 28,x 29,x 30,x 31,x 32,x 33,x 34,x 35,x 36,x 37,x 38,x 39,x 40,x 41,x 42,x 43,x 44,x 45,x 46,x 47,x 48,x 49,x 50,x 51,x 52,x 53,x 54,x 55,x 56,x 57,x 58,x 59,x 60,x 61,x 62,x 63,x 64,x 65,x 66,x 67,x 68,x 69,x 70,x 71,x 72,x 73,x 74,x 75,x 76,x 77,x 78,x 79,x 80,x 81,x 82,x 83,x 84,x 85,x 86,x 87,x 88,x 89,x 90,x 91,x 92,x 93,x 94,x 95,x 96,x 97,x 98,x 99,x 100,x 101,x 102,x 103,x 104,x 105,.sl true 1 (bts [13,10]),.int .i64 2,.int .i64 i,x 109,x 110,x 111,x 112,x 113,x 114,x 115,x 116,x 117,x 118,x 119,x 120,x 121,x 122,x 123,x 124,x 125,x 126,x 127,x 128,x 129]
theorem qo5(m f:Int)(r:Nat)(s:List UInt8)(hs:s.length<=1000000000)(hm:0<=m/\m<=9223372036854775807)
  (hQ1:∀t e dn B T z,Ends m r f s t e dn B T->(z= .sl false 2 (flds T)\/T=[]/\z= .nil)->Q (wkA t e dn B z) H):
  PC Tryz.prog E 97 [.str s,.int .i64 m,.int .i64 r,.int .i64 f] H Q:=by
 refine qac Tryz.func97 rfl [] [] (by kernel_rfl) (fun hB=>?_)
 have fin:∀(fr:List AV) (J:Hp) (c:List AV) (t:Nat) e dn B T z,Ends m r f s t e dn B T->(z= .sl false 2 (flds T)\/T=[]/\z= .nil)->aget fr 8= .ptr (some (H.length,0))->qbO Tryz.prog [ResultVar.cell 8 153] H.length Q .ret fr (H++[.int .i64 t,.int .i64 e,.bool dn,.str B,z]::J):=fun fr J c t e dn B T z he hz h8=>by
  have hz1:z.dis=z/\z.free=true/\∀N,Bnd N z:=by
   rcases hz with rfl|⟨_,rfl⟩
   ·exact⟨rfl,rfl,fun N=>qeZ T⟩
   ·exact⟨rfl,rfl,fun N=> .nil⟩
  refine qab (J:=[.int .i64 t,.int .i64 e,.bool dn,.str B,z]::J) hB (v0:=wkA t e dn B z) ?_ (qaa _) (by simp[wkA,hz1.2.2]) (hQ1 t e dn B T z he hz);simp[h8,wkA,hz1.1,hz1.2.1]
 have finN:∀(fr:List AV) (J:Hp) (t:Nat) e dn B,Ends m r f s t e dn B []->aget fr 8= .ptr (some (H.length,0))->qbO Tryz.prog [ResultVar.cell 8 153] H.length Q .ret fr (H++[.int .i64 t,.int .i64 e,.bool dn,.str B,.nil]::J):=fun fr J t e dn B he h8=>fin fr J [] t e dn B [] .nil he (.inr ⟨rfl,rfl⟩) h8;simp[Tryz.ntmps97,Tryz.results97,List.replicate_succ];refine qaB (wkInv m r f s H) (fun fr _=>s.length-(ai (aget fr 10)).toNat) ⟨0,[],by simp,by omega,by simp,fw_new,friz⟩ ?_;rintro fr H' ⟨a,B,rfl,hal,hBl,hfw,x,rfl⟩;obtain⟨n,hn⟩:=exz (run not10 (s.drop a));have hnl:=qbf not10 (s.drop a);rw[hn,zqI]at hnl;simp;refine qjb E _ _ s a 256 hs hal (by decide) ?_;by_cases hj:a+n<s.length/\n<256
 ·have hea:qcB s a 256=((a+n:Nat):Int):=by unfold qcB;rw[hn,if_pos hj]
  rw[hea];obtain⟨hj,h256⟩:=hj;obtain⟨j,hjj⟩:∃j,j=a+n:=⟨_,rfl⟩
  rw[<-hjj];have hend:=qjc s a n (by omega);by_cases hz:n=0
  ·rw[if_pos (.inl hz)]at hend;have h1:=qmS hfw hj hn h256 hend;rw[<-hjj]at h1;have e0:((j:Int)==a)=true:=by simp;omega
   simp[e0];refine qbx E _ _ 0 0 false B .nil rfl rfl .nil j 100 (by omega) ?_;simp[wkA,-Int.natCast_add];exact finN _ _ _ _ _ _ h1 rfl
  ·obtain⟨j1,hj1⟩:∃j1,j=j1+1:=⟨j-1,by omega⟩
   have hw3:IntKind.i64.wrap ((j:Int)-1)=(j1:Int):=by rw[qah (by omega) (by omega)];omega
   have e0:((j:Int)==a)=false:=by simp;omega
   obtain⟨c,hc⟩:∃c,s[j1]? =some c:=⟨_,zqD (by omega)⟩
   have hat:=qap hc;have hj1l:j1<s.length:=by omega
   by_cases h13:c=13
   ·subst h13;rw[show a+n-1=j1 by omega,if_neg (by rw[hc];simp;exact hz),show n-1=j1-a by omega]at hend;obtain⟨ln,hln⟩:=exz ((s.drop a).take (j1-a));have hlnl:ln.length<=s.length:=by rw[<-hln,zqJ,zqI];omega
    rw[hln]at hend;have haj:a<=j1:=by omega
    have hjl:j1<=s.length:=by omega
    simp[e0,hw3,hat,hj1l,hln,haj,hjl];refine qp5 E _ _ ln (by simp only[cap];omega) ?_;by_cases he:(qak ln).2.2=0
    ·obtain⟨N,hN⟩:=exz ((qak ln).1);have hrng:=qd6 ln he;rw[hN]at hrng;have hw5:IntKind.i64.wrap (m-(B.length:Int))=m-B.length:=wiz;by_cases hmu:m-B.length<N
     ·have h1:=qrx hfw hj hn h256 hend he (by rw[hN];exact hmu);rw[<-hjj]at h1;simp[he,hN,hw5,hmu];refine qbx E _ _ 0 0 false B .nil rfl rfl .nil j 102 (by omega) ?_;simp[wkA,-Int.natCast_add];exact finN _ _ _ _ _ _ h1 rfl
     ·have hw4:IntKind.i64.wrap ((j:Int)+1)=((j+1:Nat):Int):=by rw[qah (by omega) (by omega)];omega
      by_cases hN0:N=0
      ·have h1:=qpn hfw hj hn h256 hend he (by rw[hN];exact hmu) (by rw[hN];exact hN0);rw[<-hjj]at h1;subst hN0;simp[he,hN,hw5,hmu,hw4,-Int.natCast_add];refine qpj E _ _ m f r s (j+1) B hs (by omega) h1 (fun t e dn T hE=>?_);simp[wkA,-Int.natCast_add];exact fin _ _ [] _ _ _ _ _ _ hE (.inl rfl) rfl
      ·have h1:=qry hfw hj hn h256 hend he (by rw[hN];exact hmu) (by rw[hN];exact hN0);rw[<-hjj,hN]at h1;obtain⟨k,rfl⟩:∃k:Nat,N=k:=⟨N.toNat,by omega⟩
       have hN2:((k:Int)==0)=false:=by simpa using hN0
       obtain⟨a1,ha1⟩:∃a1,a1=j+1:=⟨_,rfl⟩
       rw[<-ha1]at h1 hw4;have hw6:IntKind.i64.wrap ((s.length:Int)-a1)=((s.length-a1:Nat):Int):=by rw[qah (by omega) (by omega)];omega
       have hle1:a1<=s.length:=by omega
       by_cases hlt:s.length-a1<k
       ·have h2:=qsu h1 hle1 (by omega);have hlt':((s.length-a1:Nat):Int)<k:=by omega
        have m3:B.length+(s.length-a1)<=maxLen:=by unfold maxLen;omega
        simp[he,hN,hw5,hmu,hw4,hN2,hw6,hlt',hle1,m3,-Int.natCast_add];exact finN _ _ _ _ _ _ h2 rfl
       ·have hlt':¬((s.length-a1:Nat):Int)<k:=by omega
        have h2:=qsv h1 (by omega) (by omega);obtain⟨a2,ha2⟩:∃a2,a2=a1+k:=⟨_,rfl⟩
        obtain⟨B2,hB2⟩:=exz (B++(s.drop a1).take k);have hB2l:B2.length<=a2:=by rw[<-hB2,zqK,zqJ];omega
        rw[<-ha2,hB2]at h2;have hw7:IntKind.i64.wrap ((a1:Int)+k)=a2:=by rw[qah (by omega) (by omega)];omega
        have hle2:a1<=a2:=by omega
        have hle3:a2<=s.length:=by omega
        have hsl:(s.drop a1).take (a2-a1)=(s.drop a1).take k:=by rw[show a2-a1=k by omega]
        have m4:B.length+min k (s.length-a1)<=maxLen:=by unfold maxLen;omega
        simp[he,hN,hw5,hmu,hw4,hN2,hw6,hlt',hle1,hw7,hle2,hle3,hsl,hB2,m4,(by decide:([0,1]:List Nat)=List.range 2),-Int.natCast_add];refine qaB (wkInv2 m r f s a2 B2 H) (fun fr _=>2-(ai (aget fr 108)).toNat) ⟨0,a2,rfl,by omega,by omega,hle3,hB2l,h2,qal (by simp[bts])⟩ ?_;rintro fr H' ⟨i,b,rfl,hi,hb,hbl,hBb,hph,y,rfl⟩;by_cases hi2:i<2
        ·have hi':(i:Int)<2:=by omega
         have hw8:IntKind.i64.wrap ((i:Int)+1)=i+1:=wiz;have hw9:IntKind.i64.wrap ((b:Int)+1)=((b+1:Nat):Int):=by rw[qah (by omega) (by omega)];omega
         obtain⟨q,hq⟩:∃q:UInt8,q=if i=0 then 13 else 10:=⟨_,rfl⟩
         have hrow:lat (bts [13,10]) i=some [.int .u8 (q.toNat:Int)]:=by
          rcases(by omega:i=0\/i=1)with rfl|rfl
          ·simp at hq;subst hq;rfl
          ·simp at hq;subst hq;rfl
         by_cases hbe:b=s.length
         ·have h3:=qrO hph hbe;have e1:((b:Int)==s.length)=true:=by simp;omega
          rw[<-hbe]at h3;simp[hi',hrow,e1];exact finN _ _ _ _ _ _ h3 rfl
         ·have e1:((b:Int)==s.length)=false:=by simp;omega
          obtain⟨u,hu⟩:∃u,s[b]? =some u:=⟨_,zqD (by omega)⟩
          have hatu:=qap hu;have hbs:b<s.length:=by omega
          by_cases huq:u=q
          ·have h3:=ph_go hi2 hph (by rw[hu,huq,hq]);subst huq;simp[hi',hrow,e1,hatu,hbs,hw8,hw9,-Int.natCast_add];exact Klz ⟨i+1,b+1,rfl,by omega,by omega,by omega,by omega,h3,friz⟩
          ·have h3:=ph_bad hi2 hph hu (by rw[<-hq];exact huq)
           have e2:((u.toNat:Int)==(q.toNat:Int))=false:=by
            rw[beq_eq_false_iff_ne];intro hh;exact huq (UInt8.toNat_inj.1 (by omega))
           simp[hi',hrow,e1,hatu,hbs,e2,bne];refine qbx E _ _ 0 0 false B2 .nil rfl rfl .nil b 100 (by omega) ?_;simp[wkA,-Int.natCast_add];exact finN _ _ _ _ _ _ h3 rfl
        ·obtain rfl:i=2:=by omega
         rw[ph_two]at hph;simp;exact Klz ⟨b,B2,rfl,by omega,hBb,hph,friz⟩
    ·have h1:=sz_bad hfw hj hn h256 hend he;rw[<-hjj]at h1;have he2:((qak ln).2.2 !=0)=true:=by simpa using he
     simp[he2];refine qbx E _ _ 0 0 false B .nil rfl rfl .nil j (qak ln).2.2 (by omega) ?_;simp[wkA,-Int.natCast_add];exact finN _ _ _ _ _ _ h1 rfl
   ·rw[show a+n-1=j1 by omega,if_pos (.inr (by rw[hc];simpa using h13))]at hend;have h1:=qmS hfw hj hn h256 hend;rw[<-hjj]at h1;have t1:((c.toNat:Int)==13)=false:=qcP c 13 (by omega) h13;simp[e0,hw3,hat,hj1l,t1,bne];refine qbx E _ _ 0 0 false B .nil rfl rfl .nil j 100 (by omega) ?_;simp[wkA,-Int.natCast_add];exact finN _ _ _ _ _ _ h1 rfl
 ·have hea:qcB s a 256= -1:=by unfold qcB;rw[hn,if_neg hj]
  rw[hea];simp;refine qjT E _ _ 0 0 false B .nil rfl rfl .nil s a 255 100 hs hal (fun hlt=>?_) (fun hge=>?_)
  ·have h1:=qrv hfw (by omega) (by omega);simp[wkA,-Int.natCast_add];exact finN _ _ _ _ _ _ h1 rfl
  ·have h1:=qrw hfw hal (by omega) (by omega);simp[wkA,-Int.natCast_add];exact finN _ _ _ _ _ _ h1 rfl
theorem qrg(m f:Int)(r:Nat)(s:List UInt8)(hs:s.length<=1000000000)(hm:0<=m/\m<=9223372036854775807)
  (hQ:∀t e dn B T,Ends m r f s t e dn B T->Q (wkA t e dn B (.sl false 2 (flds T))) H):
  PC Tryz.prog E 97 [.str s,.int .i64 m,.int .i64 r,.int .i64 f] H Q:=by
 refine PC.nilD (qo5 E H _ m f r s hs hm (fun t e dn B T z hE hz=>?_));refine⟨wkA t e dn B (.sl false 2 (flds T)),?_,hQ t e dn B T hE⟩;rcases hz with rfl|⟨rfl,rfl⟩
 ·exact .same _
 ·exact qa7 (by simp[flds])
end
section
variable (E:Env)(H:Hp)(Q:AV->Hp->Prop)
end
theorem qfK{x:AV}(h:qlt (.int .i64) x):∃z,x= .int .i64 z/\ -9223372036854775808<=z/\z<=9223372036854775807:=by
 cases x<;>simp[qlt]at h;obtain⟨rfl,h⟩:=h;refine⟨_,rfl,?_⟩;simpa[Lit.wf,IntKind.min,IntKind.max,IntKind.signed,IntKind.bits]using h
def dptr(p:Option Nat):AV:= .ptr (p.map fun i=>(i,0))
theorem qqz{P:Program}{rs:List ResultVar}{n:Nat}{Q:AV->Hp->Prop}{fr:List AV}{H':Hp}{v:AV}(h1:ares P fr H' rs=some v)(h3:n<=H'.length)(h4:BndH H'.length H')(h5:Bnd H'.length v)(h6:Q v H'):
  qbO P rs n Q .ret fr H':=⟨v,v,H',H',[],h1,qaa _,qbT _,(List.append_nil H').symm,h3,h4,h5,h6⟩
theorem qga{P:Program}{E:Env}(S:Nat->Prop){f:FuncId}{fn:Func}{c:Code}(hf:P.funcs[f]? =some fn)(hb:fn.body=some c)(B:List Tmp)(ND:List (Nat×List Nat))(hok:okB P B ND fn=true){args:List AV}{H:Hp}{Q:AV->Hp->Prop}
  (h:∀E':Env,E'.S=S->E'.w0=E.w0->E'.Fix=E.Fix->BndH H.length H->vc P E' B ND c (qbO P fn.results.toList H.length Q) (args++List.replicate (fn.ntmps-args.length) (.raw undef)) H):PC P E f args H Q:=
 PC.env (E:=E) (E':={E with S:=S}) rfl rfl (qac hf hb B ND hok (h _ rfl rfl rfl))
section
variable (E:Env)(H:Hp)(Q:AV->Hp->Prop)
structure COp where
 k:Int
 s:List UInt8
def COp.av(o:COp):List AV:=[.int .i64 o.k,.str o.s]
end
@[simp] theorem dptr_dis (p:Option Nat):(dptr p).dis=dptr p:=rfl
@[simp] theorem dptr_free (p:Option Nat):(dptr p).free=true:=rfl
@[simp] theorem dptr_one (p:Option Nat):(dptr p).one=true:=rfl
def cops(l:List COp):List (List AV):=l.map COp.av
@[simp] theorem cops_len (l:List COp):(cops l).length=l.length:=by simp[cops]
section
variable (E:Env)(H:Hp)(Q:AV->Hp->Prop)
variable {H}
variable (H)
end
def ints(l:List Int):List (List AV):=l.map fun z=>[.int .i64 z]
@[simp] theorem ints_len (l:List Int):(ints l).length=l.length:=by simp[ints]
section
variable (E:Env)(H:Hp)(Q:AV->Hp->Prop)
end
def hx(n:Nat):UInt8:=if n<10 then UInt8.ofNat (48+n)else UInt8.ofNat (87+n)
section
variable (E:Env)(H:Hp)(Q:AV->Hp->Prop)
end
section
variable (E:Env)(H:Hp)(Q:AV->Hp->Prop)
end
def Tz(w:World):Prop:=w.cell? ⟨4,15,none⟩=some (.int .u8 4)
def SZ(E:Env):Prop:=SE E/\E.Fix 4/\Tz E.w0
@[simp] theorem tzc65:tzc Tryz.prog 222=some (List.replicate 65 (.int .u8 0)):=by kernel_rfl
section
variable (E:Env)(H:Hp)(Q:AV->Hp->Prop)
end
section
variable (E:Env)(H:Hp)(Q:AV->Hp->Prop)
end
abbrev TU:TypeId:=5
section
variable (E:Env)(H:Hp)(Q:AV->Hp->Prop)
end
def u8L(l:List UInt8):List AV:=l.map fun b=> .int .u8 (b.toNat:Int)
@[simp] theorem u8L_length (l:List UInt8):(u8L l).length=l.length:=by simp[u8L]
def qmT(strs:List (List UInt8)):List (List AV):=strs.map fun s=>[.str s]
section
variable (E:Env)(H:Hp)(Q:AV->Hp->Prop)
end
@[simp] theorem tblfB:tblf Tryz.prog 120=some TU:=by kernel_rfl
section
variable (E:Env)(H:Hp)(Q:AV->Hp->Prop)
end
def fsz:List Fld->Nat
 |[]=>0
 |f::l=>f.name.length+f.value.length+fsz l
theorem qj9{l:List Fld}{i:Nat}{f:Fld}(h:l[i]? =some f):f.name.length+f.value.length<=fsz l:=by
 induction l generalizing i with
 |nil=>simp at h
 |cons q l ih=>
  cases i with
  |zero=>simp at h;subst h;simp[fsz]
  |succ i=>have:=ih (i:=i) (by simpa using h);simp[fsz];omega
def qj3(a b:List UInt8):Bool:=low a==low b
def allB(l:List Fld)(n:List UInt8):List (List UInt8):=(l.filter fun f=>qj3 f.name n).map fun f=>f.value
theorem qjo(l:List Fld)(n:List UInt8)(i:Nat)(f:Fld)(h:l[i]? =some f):allB (l.take (i+1)) n=allB (l.take i) n++(if qj3 f.name n=true then [f.value]else []):=by
 unfold allB;rw[List.take_add_one,h];simp only[Option.toList,List.filter_append,List.map_append];congr 1;by_cases hl:qj3 f.name n=true
 ·rw[if_pos hl,List.filter_cons,if_pos hl];rfl
 ·rw[if_neg hl,List.filter_cons,if_neg hl];rfl
theorem qlq(l:List Fld)(n:List UInt8):(allB l n).length<=l.length:=by
 unfold allB;rw[List.length_map];exact List.length_filter_le _ _
def vsz:List (List UInt8)->Nat
 |[]=>0
 |x::r=>x.length+1+vsz r
theorem qri(a b:List (List UInt8)):vsz (a++b)=vsz a+vsz b:=by
 induction a with
 |nil=>simp[vsz]
 |cons x a ih=>simp[vsz,ih];omega
theorem qc8(l:List Fld)(n:List UInt8):vsz (allB l n)<=fsz l+l.length:=by
 induction l with
 |nil=>simp[allB,vsz]
 |cons f l ih=>
  unfold allB at ih⊢;rw[List.filter_cons];simp only[fsz,zqL];split
  ·simp only[List.map_cons,vsz];omega
  ·omega
theorem qkx(l:List (List UInt8))(i:Nat):vsz (l.take i)<=vsz l:=by
 have:=congrArg vsz (List.take_append_drop i l);rw[qri]at this;omega
theorem qmz{l:List (List UInt8)}{i:Nat}{x:List UInt8}(h:l[i]? =some x):x.length+1<=vsz l:=by
 induction l generalizing i with
 |nil=>simp at h
 |cons a l ih=>
  cases i with
  |zero=>simp at h;subst h;simp[vsz]
  |succ i=>simp at h;have:=ih h;simp[vsz];omega
theorem qmA(l:List (List UInt8)):l.length<=vsz l:=by
 induction l with
 |nil=>simp
 |cons a l ih=>simp[vsz];omega
def qaU:List (List UInt8)->Option (List (List UInt8))
 |[]=>some []
 |v::r=>match qdu v with
  |none=>none
  |some x=>(qaU r).map (x++·)
theorem qfg:∀(a b:List (List UInt8)),qaU (a++b)=match qaU a with
  |none=>none
  |some x=>(qaU b).map (x++·)
 |[],b=>by
  show qaU b=(qaU b).map (fun y=>[]++y);cases qaU b<;>simp
 |v::a,b=>by
  rw[List.cons_append,qaU,qfg a b,qaU];cases qdu v with
  |none=>rfl
  |some x=>
   cases qaU a with
   |none=>rfl
   |some y=>cases qaU b<;>simp
theorem qgf{vs:List (List UInt8)}{i:Nat}{v:List UInt8}{acc x:List (List UInt8)}(h:vs[i]? =some v)(ha:qaU (vs.take i)=some acc)(hv:qdu v=some x):qaU (vs.take (i+1))=some (acc++x):=by
 rw[List.take_add_one,h,Option.toList,qfg,ha];simp[qaU,hv]
theorem qge{vs:List (List UInt8)}{i:Nat}{v:List UInt8}(h:vs[i]? =some v)(hv:qdu v=none):qaU vs=none:=by
 have hi:=(zqC.1 h).1
 have e:vs=vs.take i++(v::vs.drop (i+1)):=by
  rw[<-(zqC.1 h).2,<-List.drop_eq_getElem_cons hi,List.take_append_drop]
 rw[e,qfg];cases qaU (vs.take i)with
 |none=>rfl
 |some y=>simp[qaU,hv]
theorem qbQ:∀(vs acc:List (List UInt8)),qaU vs=some acc->acc.length<=vsz vs
 |[],acc,h=>by cases h;simp
 |v::r,acc,h=>by
  rw[qaU]at h;cases hv:qdu v with
  |none=>rw[hv]at h;cases h
  |some x=>
   rw[hv]at h;cases hr:qaU r with
   |none=>rw[hr]at h;cases h
   |some y=>
    rw[hr]at h;cases h;have h1:=qgg hv;have h2:=qbQ r y hr;simp[vsz];omega
theorem qc1:∀(vs acc:List (List UInt8)),qaU vs=some acc->∀p∈acc,p.length<=vsz vs
 |[],acc,h=>by cases h;simp
 |v::r,acc,h=>by
  rw[qaU]at h;cases hv:qdu v with
  |none=>rw[hv]at h;cases h
  |some x=>
   rw[hv]at h;cases hr:qaU r with
   |none=>rw[hr]at h;cases h
   |some y=>
    rw[hr]at h;cases h;intro p hp;rcases List.mem_append.1 hp with hp|hp
    ·have:=qnw hv p hp;simp[vsz];omega
    ·have:=qc1 r y hr p hp;simp[vsz];omega
def qcJ(l:List Fld)(n:List UInt8):List (List UInt8)×Int:=match qaU (allB l n)with
 |some x=>(x,0)
 |none=>([],14)
def qbM(l:List Fld)(n:List UInt8):List (List UInt8)×Int:=match qaU (allB l n)with
 |some x=>if x.all tokB=true then(x.map low,0)else([],10)
 |none=>([],14)
def nCL:List UInt8:=[67,111,110,116,101,110,116,45,76,101,110,103,116,104]
def nTE:List UInt8:=[84,114,97,110,115,102,101,114,45,69,110,99,111,100,105,110,103]
def qbJ:List UInt8:=[99,104,117,110,107,101,100]
def decA(x:List UInt8):Int:=if(qae 10 1099511627776 x).2=0 then(qae 10 1099511627776 x).1 else-1
def qaA(l:List Fld):Int×Bool×Int:=if allB l nCL=[]then(0,false,0)else match qaU (allB l nCL)with
 |some (x::r)=>if decA x<0\/(r.all fun y=>decide (decA y=decA x))=false then(0,false,66)else(decA x,true,0)
 |_=>(0,false,66)
def qaD(l:List Fld):List (List UInt8)×Bool×Int:=if allB l nTE=[]then([],false,0)else if(qbM l nTE).2=0 then((qbM l nTE).1,true,0)else([],false,67)
def qa5(l:List Fld)(old:Bool):Int×Int×Int:=
 if(qaD l).2.2≠0\/((qaD l).2.1=true/\(old=true\/(qaD l).1≠[qbJ]))then(0,0,67)
 else if(qaA l).2.2≠0 then(0,0,(qaA l).2.2)
 else if(qaD l).2.1=true/\(qaA l).2.1=true then(0,0,68)
 else if(qaD l).2.1=true then(2,0,0)
 else if(qaA l).2.1=true then(1,(qaA l).1,0)
 else(0,0,0)
inductive HD where
 |ok (fs:List Fld) (e:Nat)
 |bad (n:Int) (e:Int)
 |part
structure Resp where
 status:Int
 reason:List UInt8
 fields:List Fld
 body:List UInt8
structure Mann where
 method:List UInt8
 close:Bool
 old:Bool
 chunked:Bool
 sizes:List Int
 trailers:List Fld
end Go.Proofs.YtnnhdehmlkkfjaaGreatDoor
namespace Go.Proofs.YtnnhdehmlkkfjaaGreatDoor
open Go Go.RowKit
theorem qaw(b:UInt8)(n:Nat)(hn:n<256)(z:Int)(hz:z=n)(h:b≠UInt8.ofNat n):((b.toNat:Int)==z)=false/\((b.toNat:Int) !=z)=true:=by
 subst hz;have:=qcP b n hn h;exact⟨this,by unfold bne;rw[this];rfl⟩
def qcC(c:UInt8):Bool:=(97<=c.toNat&&c.toNat<=122)||(65<=c.toNat&&c.toNat<=90)||(48<=c.toNat&&c.toNat<=57)
def qbv(c:UInt8):Bool:=qcC c||[45,46,95,126].contains c
def qbI(c:UInt8):Bool:=[33,36,38,39,40,41,42,43,44,59,61].contains c
def qcQ(c:UInt8):Bool:=c==58||c==64
def qc4(c:UInt8):Int:=if qbv c then 1 else if qbI c then 2 else if qcQ c then 4 else if c=47 then 8 else if c=63 then 16 else 0
def hexT(c:UInt8):Int:=if 48<=c.toNat/\c.toNat<=57 then c.toNat-48 else if 97<=c.toNat/\c.toNat<=102 then c.toNat-97+10 else if 65<=c.toNat/\c.toNat<=70 then c.toNat-65+10 else-1
def qbs:List UInt8->Bool
 |c::a::b::_=>c==37&&decide (0<=hexT a)&&decide (0<=hexT b)
 |_=>false
def qaE(may:UInt8->Bool)(s:List UInt8):Nat:=match s with
 |[]=>0
 |c::r=>if qbs (c::r)then 3+qaE may (r.drop 2)else if may c then 1+qaE may r else 0
termination_by s.length
def qbW(c:UInt8):Bool:=qbv c||qbI c
def qcw(c:UInt8):Bool:=qbv c||qbI c||qcQ c||c==47
def qdi(c:UInt8):Bool:=qbv c||qbI c||qcQ c||c==47||c==63
def qcE(c:UInt8)(other:Int):Int:=if c=37 then 51 else other
def cut1 (c : UInt8) (s : List UInt8) : List UInt8 × List UInt8 × Bool := (s.takeWhile (· != c), (s.dropWhile (· != c)).drop 1, s.contains c)
def cut2(c:UInt8):List UInt8->List UInt8×List UInt8×Bool
 |a::b::r=>if a=c/\b=c then([],r,true)else((a::(cut2 c (b::r)).1),(cut2 c (b::r)).2)
 |s=>(s,[],false)
def qa9(c:UInt8):List UInt8->List (List UInt8)
 |[]=>[[]]
 |x::r=>if x=c then []::qa9 c r else match qa9 c r with
  |h::t=>(x::h)::t
  |[]=>[[x]]
def qd0(d:List UInt8):Bool:=(qae 10 255 d).2==0&&Go.Lib.itoa (qae 10 255 d).1==d
def dotB(g:List UInt8):Bool:=(qa9 46 g).all qd0&&(qa9 46 g).length==4
def goG(last:Bool):List (List UInt8)->Int->Int×Bool
 |[],n=>(n,true)
 |g::r,n=>if last&&r.isEmpty&&g.contains 46 then(n+2,dotB g)
  else if g.length<1\/4<g.length then(0,false)
  else if g.all (fun c=>decide (0<=hexT c))then goG last r (n+1)else(0,false)
def qbm(s:List UInt8)(last:Bool):Int×Bool:=if s=[]then(0,true)else goG last (qa9 58 s) 0
def qfo(s:List UInt8):Bool:=match cut2 58 s with
 |(_,_,false)=>(qbm s true).2&&(qbm s true).1==8
 |(a,b,true)=>(qbm a false).2&&(qbm b true).2&&decide ((qbm a false).1+(qbm b true).1<=7)
def qed(s:List UInt8):Bool:=if s.head? =some 91 then s.getLast? ==some 93&&qfo ((s.drop 1).dropLast)else !s.isEmpty&&qaE qbW s==s.length
def qbz (s : List UInt8) : List UInt8 × List UInt8 × Bool :=
  if s.head? = some 91 ∧ s.contains 93 then
    let i := (s.takeWhile (· != 93)).length
    (s.take (i + 1), (s.drop (i + 1)).drop 1, (s.drop (i + 1)).isEmpty || (s.drop (i + 1)).head? == some 58)
  else ((cut1 58 s).1, (cut1 58 s).2.1, true)
def qbo(s:List UInt8):List UInt8×Int×Int:=
 if(qbz s).2.2=false\/qed (qbz s).1=false\/5<(qbz s).2.1.length then([],0,52)
 else if(qbz s).2.1=[]then(low (qbz s).1,-1,0)
 else if(qae 10 65535 (qbz s).2.1).2≠0 then([],0,52)else(low (qbz s).1,(qae 10 65535 (qbz s).2.1).1,0)
def behE(s:List UInt8):Int:=match s.drop (qaE qcw s)with
 |[]=>0
 |c::q=>if c≠63 then qcE c 53 else match q.drop (qaE qdi q)with
  |[]=>0
  |d::_=>qcE d 54
def tgtE(m s:List UInt8):Int:=match s with
 |[]=>50
 |c::_=>if m=[67,79,78,78,69,67,84]then(if(qbo s).2.2≠0\/(qbo s).2.1<0 then 52 else 0)
  else if c=47 then behE s
  else if s=[42]/\m=[79,80,84,73,79,78,83]then 0
  else if s.length<7\/low (s.take 7)≠[104,116,116,112,58,47,47]then 50
  else if(qbo ((s.drop 7).takeWhile fun c=>c !=47&&c !=63)).2.2≠0 then(qbo ((s.drop 7).takeWhile fun c=>c !=47&&c !=63)).2.2
  else behE ((s.drop 7).dropWhile fun c=>c !=47&&c !=63)
def qeO(l:List Fld)(old:Bool):List UInt8×Bool×Int:=match allB l [72,111,115,116]with
 |[]=>if old then([],false,0)else([],false,69)
 |[v]=>if v.any (fun b=>decide (b.toNat<33)||decide (126<b.toNat)||[34,35,47,60,62,63,64,92].contains b)then([],false,69)else(v,true,0)
 |_=>([],false,69)
inductive Md where
 |start|startEnd|method|target|line|fields|counted|chunked
deriving DecidableEq
structure Prs where
 lt:Int
 lh:Int
 lf:Int
 lb:Int
 nx:Option Md
 state:Int
 used:Int
 meth:List UInt8
 targ:List UInt8
 major:Int
 minor:Int
 fields:List Fld
 rbody:List UInt8
 trailers:List Fld
 fst_:Int
 ferr:Int
 fat:Int
 text:List UInt8
 head:Int
 begin_:Int
 left:Int
 body:List UInt8
 dec:Option Dec
 bodied:Bool
inductive SR where
 |go (p:Prs) (nx:Option Md)
 |bad (p:Prs) (st err at_:Int)
def qau(p:Prs)(st err:Int):SR:= .bad p st err p.used
def qbw(p:Prs)(c:UInt8):SR:=if c≠10 then qau p 400 111 else .go p (some .start)
def qcy(p:Prs)(c:UInt8):SR:=
 if tokB [c]then(if p.text.length=24 then qau p 501 110 else .go {p with text:=p.text++[c]} (some .method))
 else if c=32/\p.text≠[]then .go {p with meth:=p.text,text:=[]} (some .target)else qau p 400 110
def qdw(p:Prs)(c:UInt8):SR:=if c=13 then .go p (some .startEnd)else qcy {p with state:=1} c
def qda(p:Prs)(c:UInt8):SR:=
 if 33<=c.toNat/\c.toNat<=126 then(if(p.text.length:Int)=p.lt then qau p 414 112 else .go {p with text:=p.text++[c]} (some .target))
 else if c=32/\p.text≠[]then .go {p with targ:=p.text,text:=[]} (some .line)else qau p 400 111
def qaI(n:Nat)(c:UInt8):Bool:=
 if n<5 then([72,84,84,80,47]:List UInt8)[n]? ==some c else if n=5\/n=7 then decide (48<=c.toNat/\c.toNat<=57)else if n=6 then c==46 else if n=8 then c==13 else if n=9 then c==10 else false
def qcR(p:Prs)(c:UInt8):SR:=
 if qaI p.text.length c=false then qau p 400 111
 else if p.text.length<9 then .go {p with text:=p.text++[c]} (some .line)
 else
  let p1:Prs:={p with text:=[],major:=(p.text.getD 5 0).toNat-48,minor:=(p.text.getD 7 0).toNat-48}
  if p1.major≠1\/1<p1.minor then qau p1 505 117
  else if tgtE p.meth p.targ≠0 then qau p1 400 (tgtE p.meth p.targ)
  else .go {p1 with state:=2,begin_:=p.used+1} (some .fields)
def qdI(p:Prs):SR:= .go {p with rbody:=p.body,state:=4} none
def qbi(p:Prs):SR:=
 let old:=decide (p.minor=0)
 let f:=qa5 p.fields old
 if f.2.2=67 then qau p 501 67
 else if f.2.2≠0 then qau p 400 f.2.2
 else if(qeO p.fields old).2.2≠0 then qau p 400 (qeO p.fields old).2.2
 else if(qeO p.fields old).1≠[]/\(qbo (qeO p.fields old).1).2.2≠0 then qau p 400 (qbo (qeO p.fields old).1).2.2
 else if allB p.fields [69,120,112,101,99,116]≠[]/\((qbM p.fields [69,120,112,101,99,116]).2≠0\/(qbM p.fields [69,120,112,101,99,116]).1≠[[49,48,48,45,99,111,110,116,105,110,117,101]])then qau p 417 116
 else if p.lb<f.2.1 then qau p 413 114
 else if f.1=2 then .go {p with state:=3,dec:=some (newD p.lb p.lh p.lf)} (some .chunked)
 else if 0<f.2.1 then .go {p with state:=3,left:=f.2.1} (some .counted)
 else qdI {p with state:=3}
def qb2(p:Prs)(c:UInt8):SR:=
 if p.head=p.lh then qau p 431 113
 else if(p.text.getLast? ==some 13)≠(c==10)then qau {p with head:=p.head+1} 400 111
 else if c≠10 then .go {p with head:=p.head+1,text:=p.text++[c]} (some .fields)
 else
  let p1:Prs:={p with head:=p.head+1,text:=[]}
  let line:=p.text.dropLast
  if line=[]then qbi p1
  else if(p.fields.length:Int)=p.lf then qau p1 431 113
  else if(qaP line).2.2≠0 then .bad p1 400 (qaP line).2.2 (p.begin_+(qaP line).2.1)
  else .go {p1 with fields:=p.fields++[(qaP line).1],begin_:=p.used+1} (some .fields)
def qcj(p:Prs)(c:UInt8):SR:=
 let p1:Prs:={p with body:=p.body++[c],bodied:=true,left:=p.left-1}
 if 0<p1.left then .go p1 (some .counted)else qdI p1
def qbn(p:Prs)(c:UInt8):SR:=match p.dec with
 |none=>qau {p with bodied:=true} 400 103
 |some d=>
  if d.done=true\/d.err≠0 then qau {p with bodied:=true} 400 103
  else
   let d1:=(qav d [c]).1
   let p1:Prs:={p with bodied:=true,dec:=some d1}
   if d1.err=102 then qau p1 413 102
   else if d1.err=104 then qau p1 431 104
   else if d1.err≠0 then qau p1 400 d1.err
   else if d1.done=false then .go p1 (some .chunked)
   else qdI {p1 with body:=d1.body,trailers:=d1.trailers}
def qbN(p:Prs)(m:Md)(c:UInt8):SR:=match m with
 | .start=>qdw p c
 | .startEnd=>qbw p c
 | .method=>qcy p c
 | .target=>qda p c
 | .line=>qcR p c
 | .fields=>qb2 p c
 | .counted=>qcj p c
 | .chunked=>qbn p c
def SR.prs:SR->Prs
 | .go p nx=>{p with nx:=nx,used:=p.used+1}
 | .bad p st err at_=>{p with nx:=none,state:=5,used:=p.used+1,fst_:=st,ferr:=err,fat:=at_}
def qan(p:Prs):List UInt8->Prs×Nat
 |[]=>(p,0)
 |c::r=>match p.nx with
  |none=>(p,0)
  |some m=>match qbN p m c with
   | .go p1 nx=>((qan {p1 with nx:=nx,used:=p1.used+1} r).1,(qan {p1 with nx:=nx,used:=p1.used+1} r).2+1)
   | .bad p1 st err at_=>((SR.bad p1 st err at_).prs,1)
def Md.fid:Md->FuncId
 | .start=>39
 | .startEnd=>60
 | .method=>61
 | .target=>87
 | .line=>119
 | .fields=>145
 | .counted=>198
 | .chunked=>197
def nxV(b:Nat):Option Md->AV
 |none=> .raw .nilFunc
 |some m=> .fn m.fid [.tup [.ptr (some (b,0))]]
def Prs.av(b j:Nat)(p:Prs):List AV:=[.int .i64 p.lt,.int .i64 p.lh,.int .i64 p.lf,.int .i64 p.lb,nxV b p.nx,.int .i64 p.state,.int .i64 p.used,.str p.meth,.str p.targ,.int .i64 p.major,.int .i64 p.minor,.sl true 2 (flds p.fields),.str p.rbody,.sl false 2 (flds p.trailers),
 .int .i64 p.fst_,.int .i64 p.ferr,.int .i64 p.fat,.sl true 1 (bts p.text),.str [],.int .i64 p.head,.int .i64 p.begin_,.int .i64 p.left,.sl true 1 (bts p.body),.ptr (p.dec.map fun _=>(j,0)),.bool p.bodied]
structure PB (H:Hp) (b j:Nat) (p:Prs):Prop where
 row:H[b]? =some (p.av b j)
 dec:∀d,p.dec=some d->j≠b/\H[j]? =some d.av
structure fitP (n:Nat) (p:Prs):Prop where
 a:p.text.length+fsz p.fields+p.fields.length+p.meth.length+p.targ.length<=n
 b:p.body.length<=n
 c:∀d,p.dec=some d->okD d/\d.total<=n
 lt:1<=p.lt/\p.lt<=65536
 lh:2<=p.lh/\p.lh<=1048576
 lf:0<=p.lf/\p.lf<=100
 lb:0<=p.lb/\p.lb<=1073741824
 head:0<=p.head/\p.head<=n
 left: -(n:Int)<=p.left/\p.left<=1073741824
 used:0<=p.used/\p.used<=n
 beg:0<=p.begin_/\p.begin_<=n
 asc:∀c∈p.targ,c.toNat<128
 tx:p.nx=some .target->∀c∈p.text,c.toNat<128
 ln:p.nx=some .line->∀k c,p.text[k]? =some c->qaI k c=true
 tr:p.trailers.length<=n
 rb:p.rbody.length<=n
def OthP(K K':Hp)(b j:Nat)(d:Bool):Prop:=K.length<=K'.length/\∀i,i<K.length->i≠b->(d=true->i≠j)->K'[i]? =K[i]?
end Go.Proofs.YtnnhdehmlkkfjaaGreatDoor
namespace Go.Proofs.YtnnhdehmlkkfjaaGreatDoor
open Go Go.Shelf Go.Proofs
def lrenb:Go.Shelf.Ren:=⟨fun|99=>186|100=>210|101=>187|119=>214|120=>223|129=>182|137=>156|138=>248|143=>242|144=>235|145=>188|146=>234|151=>202|152=>192|153=>165|160=>154|161=>200|169=>75|171=>80|195=>249|197=>201|206=>207|207=>225|208=>208|217=>180|218=>250|219=>224|220=>209|221=>241|224=>215|225=>216|226=>193|227=>174|228=>194|231=>172|232=>173|233=>175|234=>176|235=>177|236=>178|243=>112|246=>141|260=>222|266=>204|267=>233|268=>247|271=>203|283=>158|284=>159|285=>160|286=>161|314=>240|317=>181|318=>183|319=>184|320=>185|337=>205|338=>206|n=>n,fun|0=>0|2=>2|3=>3|4=>4|5=>5|9=>9|20=>20|21=>21|31=>78|37=>82|46=>224|51=>139|53=>198|59=>142|70=>118|72=>120|105=>233|116=>213|117=>214|119=>255|124=>217|127=>157|138=>257|139=>258|146=>262|171=>197|173=>201|212=>221|213=>222|232=>246|233=>247|n=>n,fun|1=>2|3=>5|4=>6|17=>1|18=>3|19=>4|n=>n⟩
theorem laysb99:Go.Proofs.Lays.n99 Tryz.prog lrenb:={
 mixed:=by kernel_rfl
 f99:=lfz Tryz.func186
 f206:=lfz Tryz.func207
 t3:=Tryz.underlying3
 a3:=Tryz.isAgg3
 z3:=Tryz.sizeOf3
 v3:=Tryz.zeroValue3
 t4:=Tryz.underlying4
 a4:=Tryz.isAgg4
 z4:=Tryz.sizeOf4
 v4:=Tryz.zeroValue4
 t9:=Tryz.underlying9
 a9:=Tryz.isAgg9
 z9:=Tryz.sizeOf9
 v9:=Tryz.zeroValue9}
theorem laysb100:Go.Proofs.Lays.n100 Tryz.prog lrenb:={
 mixed:=by kernel_rfl
 f100:=lfz Tryz.func210
 f207:=lfz Tryz.func225
 t3:=Tryz.underlying3
 a3:=Tryz.isAgg3
 z3:=Tryz.sizeOf3
 v3:=Tryz.zeroValue3
 t4:=Tryz.underlying4
 a4:=Tryz.isAgg4
 z4:=Tryz.sizeOf4
 v4:=Tryz.zeroValue4
 t9:=Tryz.underlying9
 a9:=Tryz.isAgg9
 z9:=Tryz.sizeOf9
 v9:=Tryz.zeroValue9}
theorem laysb101:Go.Proofs.Lays.n101 Tryz.prog lrenb:={
 mixed:=by kernel_rfl
 f101:=lfz Tryz.func187
 f206:=lfz Tryz.func207
 f208:=lfz Tryz.func208
 t3:=Tryz.underlying3
 a3:=Tryz.isAgg3
 z3:=Tryz.sizeOf3
 v3:=Tryz.zeroValue3
 t4:=Tryz.underlying4
 a4:=Tryz.isAgg4
 z4:=Tryz.sizeOf4
 v4:=Tryz.zeroValue4
 t9:=Tryz.underlying9
 a9:=Tryz.isAgg9
 z9:=Tryz.sizeOf9
 v9:=Tryz.zeroValue9}
theorem laysb144:Go.Proofs.Lays.n144 Tryz.prog lrenb:={
 mixed:=by kernel_rfl
 f143:=lfz Tryz.func242
 f144:=lfz Tryz.func235
 f217:=lfz Tryz.func180
 f219:=lfz Tryz.func224
 f224:=lfz Tryz.func215
 f225:=lfz Tryz.func216
 f266:=lfz Tryz.func204
 f267:=lfz Tryz.func233
 f314:=lfz Tryz.func240
 t3:=Tryz.underlying3
 a3:=Tryz.isAgg3
 z3:=Tryz.sizeOf3
 v3:=Tryz.zeroValue3
 t4:=Tryz.underlying4
 a4:=Tryz.isAgg4
 z4:=Tryz.sizeOf4
 v4:=Tryz.zeroValue4
 t5:=Tryz.underlying5
 a5:=Tryz.isAgg5
 z5:=Tryz.sizeOf5
 v5:=Tryz.zeroValue5
 t9:=Tryz.underlying9
 a9:=Tryz.isAgg9
 z9:=Tryz.sizeOf9
 v9:=Tryz.zeroValue9
 t46:=Tryz.underlying224
 a46:=Tryz.isAgg224
 z46:=Tryz.sizeOf224
 v46:=Tryz.zeroValue224
 t51:=Tryz.underlying139
 a51:=Tryz.isAgg139
 z51:=Tryz.sizeOf139
 v51:=Tryz.zeroValue139
 t146:=Tryz.underlying262
 a146:=Tryz.isAgg262
 z146:=Tryz.sizeOf262
 v146:=Tryz.zeroValue262
 g1:=by kernel_rfl}
theorem laysb145:Go.Proofs.Lays.n145 Tryz.prog lrenb:={
 mixed:=by kernel_rfl
 f145:=lfz Tryz.func188
 f217:=lfz Tryz.func180
 f219:=lfz Tryz.func224
 f220:=lfz Tryz.func209
 f224:=lfz Tryz.func215
 f225:=lfz Tryz.func216
 f266:=lfz Tryz.func204
 f267:=lfz Tryz.func233
 f314:=lfz Tryz.func240
 t3:=Tryz.underlying3
 a3:=Tryz.isAgg3
 z3:=Tryz.sizeOf3
 v3:=Tryz.zeroValue3
 t4:=Tryz.underlying4
 a4:=Tryz.isAgg4
 z4:=Tryz.sizeOf4
 v4:=Tryz.zeroValue4
 t5:=Tryz.underlying5
 a5:=Tryz.isAgg5
 z5:=Tryz.sizeOf5
 v5:=Tryz.zeroValue5
 t9:=Tryz.underlying9
 a9:=Tryz.isAgg9
 z9:=Tryz.sizeOf9
 v9:=Tryz.zeroValue9
 t46:=Tryz.underlying224
 a46:=Tryz.isAgg224
 z46:=Tryz.sizeOf224
 v46:=Tryz.zeroValue224
 t51:=Tryz.underlying139
 a51:=Tryz.isAgg139
 z51:=Tryz.sizeOf139
 v51:=Tryz.zeroValue139
 t59:=Tryz.underlying142
 a59:=Tryz.isAgg142
 z59:=Tryz.sizeOf142
 v59:=Tryz.zeroValue142
 t146:=Tryz.underlying262
 a146:=Tryz.isAgg262
 z146:=Tryz.sizeOf262
 v146:=Tryz.zeroValue262
 g1:=by kernel_rfl}
theorem laysb146:Go.Proofs.Lays.n146 Tryz.prog lrenb:={
 mixed:=by kernel_rfl
 f138:=lfz Tryz.func248
 f143:=lfz Tryz.func242
 f146:=lfz Tryz.func234
 f195:=lfz Tryz.func249
 f197:=lfz Tryz.func201
 f217:=lfz Tryz.func180
 f218:=lfz Tryz.func250
 f219:=lfz Tryz.func224
 f221:=lfz Tryz.func241
 f224:=lfz Tryz.func215
 f225:=lfz Tryz.func216
 f260:=lfz Tryz.func222
 f266:=lfz Tryz.func204
 f267:=lfz Tryz.func233
 f268:=lfz Tryz.func247
 f314:=lfz Tryz.func240
 t0:=Tryz.underlying0
 a0:=Tryz.isAgg0
 z0:=Tryz.sizeOf0
 v0:=Tryz.zeroValue0
 t3:=Tryz.underlying3
 a3:=Tryz.isAgg3
 z3:=Tryz.sizeOf3
 v3:=Tryz.zeroValue3
 t4:=Tryz.underlying4
 a4:=Tryz.isAgg4
 z4:=Tryz.sizeOf4
 v4:=Tryz.zeroValue4
 t5:=Tryz.underlying5
 a5:=Tryz.isAgg5
 z5:=Tryz.sizeOf5
 v5:=Tryz.zeroValue5
 t9:=Tryz.underlying9
 a9:=Tryz.isAgg9
 z9:=Tryz.sizeOf9
 v9:=Tryz.zeroValue9
 t21:=Tryz.underlying21
 a21:=Tryz.isAgg21
 z21:=Tryz.sizeOf21
 v21:=Tryz.zeroValue21
 t31:=Tryz.underlying78
 a31:=Tryz.isAgg78
 z31:=Tryz.sizeOf78
 v31:=Tryz.zeroValue78
 t46:=Tryz.underlying224
 a46:=Tryz.isAgg224
 z46:=Tryz.sizeOf224
 v46:=Tryz.zeroValue224
 t51:=Tryz.underlying139
 a51:=Tryz.isAgg139
 z51:=Tryz.sizeOf139
 v51:=Tryz.zeroValue139
 t105:=Tryz.underlying233
 a105:=Tryz.isAgg233
 z105:=Tryz.sizeOf233
 v105:=Tryz.zeroValue233
 t119:=Tryz.underlying255
 a119:=Tryz.isAgg255
 z119:=Tryz.sizeOf255
 t138:=Tryz.underlying257
 a138:=Tryz.isAgg257
 z138:=Tryz.sizeOf257
 v138:=Tryz.zeroValue257
 t139:=Tryz.underlying258
 a139:=Tryz.isAgg258
 z139:=Tryz.sizeOf258
 v139:=Tryz.zeroValue258
 t146:=Tryz.underlying262
 a146:=Tryz.isAgg262
 z146:=Tryz.sizeOf262
 v146:=Tryz.zeroValue262
 g1:=by kernel_rfl
 g3:=by kernel_rfl
 g4:=by kernel_rfl}
theorem laysb153:Go.Proofs.Lays.n153 Tryz.prog lrenb:={
 mixed:=by kernel_rfl
 f119:=lfz Tryz.func214
 f137:=lfz Tryz.func156
 f152:=lfz Tryz.func192
 f153:=lfz Tryz.func165
 f217:=lfz Tryz.func180
 f224:=lfz Tryz.func215
 f225:=lfz Tryz.func216
 f226:=lfz Tryz.func193
 f227:=lfz Tryz.func174
 f228:=lfz Tryz.func194
 f266:=lfz Tryz.func204
 t0:=Tryz.underlying0
 a0:=Tryz.isAgg0
 z0:=Tryz.sizeOf0
 v0:=Tryz.zeroValue0
 t3:=Tryz.underlying3
 a3:=Tryz.isAgg3
 z3:=Tryz.sizeOf3
 v3:=Tryz.zeroValue3
 t4:=Tryz.underlying4
 a4:=Tryz.isAgg4
 z4:=Tryz.sizeOf4
 v4:=Tryz.zeroValue4
 t5:=Tryz.underlying5
 a5:=Tryz.isAgg5
 z5:=Tryz.sizeOf5
 v5:=Tryz.zeroValue5
 t9:=Tryz.underlying9
 a9:=Tryz.isAgg9
 z9:=Tryz.sizeOf9
 v9:=Tryz.zeroValue9
 t21:=Tryz.underlying21
 a21:=Tryz.isAgg21
 z21:=Tryz.sizeOf21
 v21:=Tryz.zeroValue21
 t46:=Tryz.underlying224
 a46:=Tryz.isAgg224
 z46:=Tryz.sizeOf224
 v46:=Tryz.zeroValue224
 t116:=Tryz.underlying213
 a116:=Tryz.isAgg213
 z116:=Tryz.sizeOf213
 t117:=Tryz.underlying214
 a117:=Tryz.isAgg214
 z117:=Tryz.sizeOf214
 v117:=Tryz.zeroValue214
 t124:=Tryz.underlying217
 a124:=Tryz.isAgg217
 z124:=Tryz.sizeOf217
 v124:=Tryz.zeroValue217}
end Go.Proofs.YtnnhdehmlkkfjaaGreatDoor
namespace Go.Proofs.YtnnhdehmlkkfjaaGreatDoor
open Go Go.RowKit Go.Shelf
theorem hp1(l:List UInt8)(c:UInt8):Lib.hasPrefix l [c]=(l.head? ==some c):=by
 cases l with
 |nil=>rfl
 |cons a r=>
  by_cases h:a=c
  ·subst h;simp[Lib.hasPrefix,List.isPrefixOf]
  ·have h':(c==a)=false:=by simpa using fun e=>h e.symm
   simp[Lib.hasPrefix,List.isPrefixOf,h',h]
theorem hsf1(l:List UInt8)(c:UInt8):Lib.hasSuffix l [c]=(l.getLast? ==some c):=by
 have h:Lib.hasSuffix l [c]=Lib.hasPrefix l.reverse [c]:=by simp[Lib.hasSuffix,Lib.hasPrefix,List.isSuffixOf]
 rw[h,hp1,List.head?_reverse]
theorem tp1(l:List UInt8)(c:UInt8):Lib.trimPrefix l [c]=if l.head? =some c then l.drop 1 else l:=by
 unfold Lib.trimPrefix;rw[hp1];simp
theorem qj7(b c:UInt8)(l:List UInt8):Lib.indexByte (b::l) c=if b=c then 0 else if Lib.indexByte l c= -1 then-1 else Lib.indexByte l c+1:=by
 simp[Lib.indexByte]
theorem qdD(l:List UInt8)(c:UInt8):decide (0<=Lib.indexByte l c)=l.contains c:=by
 induction l with
 |nil=>rfl
 |cons b l ih=>
  rw[qj7,List.contains_cons,<-ih];have:=Lib.indexByte_ge l c;by_cases h:b=c
  ·subst h;simp
  ·have h':(c==b)=false:=by simpa using fun e=>h e.symm
   rw[if_neg h,h',Bool.false_or];by_cases h2:Lib.indexByte l c= -1
   ·rw[if_pos h2,h2]
   ·rw[if_neg h2,Bool.eq_iff_iff];simp;omega
theorem qfh (l : List UInt8) (c : UInt8) : (0 ≤ Lib.indexByte l c → (Lib.indexByte l c).toNat = (l.takeWhile (· != c)).length ∧ l.dropWhile (· != c) ≠ []) ∧ (Lib.indexByte l c < 0 → l.takeWhile (· != c) = l ∧ l.dropWhile (· != c) = []) := by
  induction l with
  | nil => exact ⟨fun h => by simp [Lib.indexByte] at h, fun _ => ⟨rfl, rfl⟩⟩
  | cons b l ih =>
    rw [qj7]
    have := Lib.indexByte_ge l c
    by_cases h : b = c
    · subst h; simp
    · have h' : (b != c) = true := by simpa using h
      rw [if_neg h, List.takeWhile_cons_of_pos (by simpa using h), List.dropWhile_cons_of_pos (by simpa using h)]
      by_cases h2 : Lib.indexByte l c = -1
      · rw [if_pos h2]
        refine ⟨fun h3 => absurd h3 (by decide), fun _ => ?_⟩
        obtain ⟨i1, i2⟩ := ih.2 (by omega)
        exact ⟨by rw [i1], i2⟩
      · rw [if_neg h2]
        obtain ⟨i1, i2⟩ := ih.1 (by omega)
        refine ⟨fun _ => ⟨by simp only [zqL]; omega, i2⟩, fun h3 => by omega⟩
theorem ix1(l:List UInt8)(c:UInt8):Lib.index l [c]=Lib.indexByte l c:=by
 induction l with
 |nil=>rfl
 |cons b l ih=>
  rw[qj7,Lib.index,ih];by_cases h:b=c
  ·subst h;simp[List.isPrefixOf]
  ·have h':(c==b)=false:=by simpa using fun e=>h e.symm
   simp[List.isPrefixOf,h',h]
theorem qbX(p:UInt8->Bool):∀l:List UInt8,l.take (l.takeWhile p).length=l.takeWhile p/\l.drop (l.takeWhile p).length=l.dropWhile p
 |[]=>⟨rfl,rfl⟩
 |b::l=>by
  by_cases h:p b=true
  ·rw[List.takeWhile_cons_of_pos h,List.dropWhile_cons_of_pos h];simp[qbX p l]
  ·rw[List.takeWhile_cons_of_neg h,List.dropWhile_cons_of_neg h];simp
theorem qlg (l : List UInt8) (c : UInt8) : Lib.cut l [c] = cut1 c l := by
  unfold Lib.cut cut1
  rw [ix1, ← qdD]
  obtain ⟨h1, h2⟩ := qfh l c
  obtain ⟨t1, t2⟩ := qbX (· != c) l
  by_cases h : 0 ≤ Lib.indexByte l c
  · rw [if_pos h, (h1 h).1, t1, ← List.drop_drop, t2]
    simp [h]
  · rw [if_neg h, (h2 (by omega)).1, (h2 (by omega)).2]
    simp [h]
theorem ix2(c:UInt8):∀l:List UInt8,Lib.cut l [c,c]=cut2 c l
 |[]=>rfl
 |[a]=>by simp[Lib.cut,cut2,Lib.index,List.isPrefixOf]
 |a::b::r=>by
  have ih:=ix2 c (b::r);unfold Lib.cut at ih⊢;rw[cut2,<-ih,Lib.index];have hg:=Lib.index_ge (b::r) [c,c];by_cases h:a=c/\b=c
  ·obtain⟨rfl,rfl⟩:=h;simp[List.isPrefixOf]
  ·rw[if_neg h]
   have hp:([c,c]:List UInt8).isPrefixOf (a::b::r)=false:=by
    simp only[List.isPrefixOf,Bool.and_true];rw[Bool.eq_false_iff];intro e;simp at e;exact h ⟨e.1.symm,e.2.symm⟩
   rw[hp];simp only[Bool.false_eq_true,if_false,beq_iff_eq];by_cases h2:Lib.index (b::r) [c,c]= -1
   ·rw[if_pos h2,h2];simp
   ·rw[if_neg h2,if_pos (by omega),if_pos (by omega)];have e1:(Lib.index (b::r) [c,c]+1).toNat=(Lib.index (b::r) [c,c]).toNat+1:=by omega
    rw[e1];simp[Nat.add_right_comm]
theorem qpw (c : UInt8) : ∀ l : List UInt8, qa9 c l = if l.contains c then l.takeWhile (· != c) :: qa9 c ((l.dropWhile (· != c)).drop 1) else [l]
  | [] => rfl
  | b :: l => by
    have ih := qpw c l
    rw [qa9]
    by_cases h : b = c
    · subst h
      simp
    · have h' : (c == b) = false := by simpa using fun e => h e.symm
      have hb : (b != c) = true := by simpa using h
      rw [if_neg h, List.contains_cons, h', Bool.false_or, List.takeWhile_cons_of_pos (p := (· != c)) hb, List.dropWhile_cons_of_pos (p := (· != c)) hb, ih]
      by_cases h2 : l.contains c = true
      · rw [if_pos h2, if_pos h2]
      · rw [if_neg h2, if_neg h2]
def ME(E:Env):Prop:=E.Fix 2/\∃m:Int,E.w0.cell? ⟨2,0,none⟩=some (.int .i64 m)
theorem ME.cell{E:Env}(h:ME E){w:World}(hw:∀b,E.Fix b->w.heap[b]? =E.w0.heap[b]?):∃m:Int,w.cell? ⟨2,0,none⟩=some (.int .i64 m):=by
 obtain⟨h1,m,h2⟩:=h;exact⟨m,(World.cell?_of_block (a:=⟨2,0,none⟩) (hw _ h1)).trans h2⟩
section
variable (E:Env){H:Hp}(Q:AV->Hp->Prop)
theorem qfy(l:List UInt8)(c:UInt8)(hQ:Q (.bool (l.head? ==some c)) H):PC Tryz.prog E 186 [.str l,.str [c]] H Q:=by
 refine qaq (v:= .bool (l.head? ==some c)) (by kernel_rfl) (fun _=>True) (fun w hw=>trivial) (fun w β Rd cargs hS hsz hargs=>?_) (.bool _) rfl hQ;obtain⟨u,v,rfl,hu,hv⟩:=args2 hsz hargs;obtain⟨s,rfl,rfl,hs⟩:=qax hu;obtain⟨t,rfl,ht,_⟩:=qax hv;refine(Any.strings_HasPrefix laysb99 s t w).mono ?_;rintro e w' ⟨rfl,rfl⟩;rw[ht,hp1];exact⟨_,rfl,Frm.refl _ _,.bool _⟩
theorem qi3(l:List UInt8)(c:UInt8)(hQ:Q (.bool (l.getLast? ==some c)) H):PC Tryz.prog E 210 [.str l,.str [c]] H Q:=by
 refine qaq (v:= .bool (l.getLast? ==some c)) (by kernel_rfl) (fun _=>True) (fun w hw=>trivial) (fun w β Rd cargs hS hsz hargs=>?_) (.bool _) rfl hQ;obtain⟨u,v,rfl,hu,hv⟩:=args2 hsz hargs;obtain⟨s,rfl,rfl,hs⟩:=qax hu;obtain⟨t,rfl,ht,_⟩:=qax hv;refine(Any.strings_HasSuffix laysb100 s t w (by unfold maxLen at hs;omega)).mono ?_;rintro e w' ⟨rfl,rfl⟩;rw[ht,hsf1];exact⟨_,rfl,Frm.refl _ _,.bool _⟩
theorem qet(l:List UInt8)(c:UInt8)(hQ:Q (.str (if l.head? =some c then l.drop 1 else l)) H):PC Tryz.prog E 187 [.str l,.str [c]] H Q:=by
 refine qaq (v:= .str (if l.head? =some c then l.drop 1 else l)) (by kernel_rfl) (fun _=>True) (fun w hw=>trivial) (fun w β Rd cargs hS hsz hargs=>?_) (.str _) rfl hQ;obtain⟨u,v,rfl,hu,hv⟩:=args2 hsz hargs;obtain⟨s,rfl,rfl,hs⟩:=qax hu;obtain⟨t,rfl,ht,_⟩:=qax hv;refine(Any.strings_TrimPrefix laysb101 s t w).mono ?_;rintro e w' ⟨rfl,rfl⟩;rw[ht,tp1];refine⟨_,rfl,Frm.refl _ _,qdy _ ?_⟩;rw[<-qad]at hs;split
 ·rw[zqI];omega
 ·exact hs
theorem qol(hM:ME E)(l sep:List UInt8)(hl:l.length<=1073741824)(hQ:Q (.tup [.str (Lib.cut l sep).1,.str (Lib.cut l sep).2.1,.bool (Lib.cut l sep).2.2]) H):PC Tryz.prog E 188 [.str l,.str sep] H Q:=by
 refine qaq (v:= .tup [.str (Lib.cut l sep).1,.str (Lib.cut l sep).2.1,.bool (Lib.cut l sep).2.2]) (by kernel_rfl) (fun w=>∃m:Int,w.cell? ⟨2,0,none⟩=some (.int .i64 m)) (fun w hw=>hM.cell hw) (fun w β Rd cargs hS hsz hargs=>?_) (by simp) rfl hQ;obtain⟨m,hm⟩:=hS;obtain⟨u,v,rfl,hu,hv⟩:=args2 hsz hargs;obtain⟨s,rfl,rfl,hs⟩:=qax hu;obtain⟨t,rfl,rfl,_⟩:=qax hv;rw[qad]at hl;refine(Any.strings_Cut laysb145 s t m w (by omega) hm).mono ?_;rintro e w' ⟨rfl,k,rfl⟩
 have hle:(Lib.cut s.data.toList t.data.toList).1.length<=s.size/\(Lib.cut s.data.toList t.data.toList).2.1.length<=s.size:=by
  rw[<-qad];unfold Lib.cut;split
  ·simp;omega
  ·simp
 refine⟨_,rfl,Frm.drewN _ _ _,.tup _ _ rfl (by simp[AV.free]) fun k x u hx hu=>?_⟩
 match k with
 |0=>simp at hx hu;subst hx;subst hu;exact qdy _ (by omega)
 |1=>simp at hx hu;subst hx;subst hu;exact qdy _ (by omega)
 |2=>simp at hx hu;subst hx;subst hu;exact .bool _
 |k+3=>simp at hx
theorem qkj(l:List UInt8)(c:UInt8)(hQ:Q (.bool (l.contains c)) H):PC Tryz.prog E 235 [.str l,.str [c]] H Q:=by
 refine qaq (v:= .bool (l.contains c)) (by kernel_rfl) (fun _=>True) (fun w hw=>trivial) (fun w β Rd cargs hS hsz hargs=>?_) (.bool _) rfl hQ;obtain⟨u,v,rfl,hu,hv⟩:=args2 hsz hargs;obtain⟨s,rfl,rfl,hs⟩:=qax hu;obtain⟨⟨⟨tl⟩⟩,rfl,ht,_⟩:=qax hv;have ht':tl=[c]:=ht;subst ht';refine(Any.strings_Contains_one laysb144 s c w).mono ?_;rintro e w' ⟨rfl,rfl⟩;rw[qdD];exact⟨_,rfl,Frm.refl _ _,.bool _⟩
theorem qj6(l cs:List UInt8)(hl:l.length<=1073741824)(hcl:cs.length<=1024)(ha:∀b∈l,b.toNat<128)(hc:∀b∈cs,b.toNat<128)(hQ:Q (.int .i64 (Lib.indexAny l cs)) H):PC Tryz.prog E 165 [.str l,.str cs] H Q:=by
 refine qaq (v:= .int .i64 (Lib.indexAny l cs)) (by kernel_rfl) (fun _=>True) (fun w hw=>trivial) (fun w β Rd cargs hS hsz hargs=>?_) (.int _ _) rfl hQ;obtain⟨u,v,rfl,hu,hv⟩:=args2 hsz hargs;obtain⟨s,rfl,rfl,hs⟩:=qax hu;obtain⟨t,rfl,rfl,_⟩:=qax hv;rw[qad]at hl hcl;have h116:(Tryz.prog.info? (lrenb.t 116)).map (fun i=>(i.zero,i.size))=some (some (.agg (Array.replicate 256 (.bool false))),256):=by kernel_rfl
 refine(Any.strings_IndexAny_laid laysb153 h116 s t w (by omega) (by omega) (fun j b hb=>ha b (zqH hb)) (fun j b hb=>hc b (zqH hb))).mono ?_;rintro e w' ⟨rfl,hb⟩;exact⟨_,rfl,qbU hb,.int _ _⟩
end
end Go.Proofs.YtnnhdehmlkkfjaaGreatDoor
namespace Go.Proofs.YtnnhdehmlkkfjaaGreatDoor
open Go Go.RowKit
section
variable (E:Env){H:Hp}(Q:AV->Hp->Prop)
theorem qeV(c:UInt8)(hQ:Q (.int .i64 (hexT c)) H):PC Tryz.prog E 227 [.int .u8 (c.toNat:Int)] H Q:=by
 refine qac Tryz.func227 rfl [] [] (by kernel_rfl) (fun hB=>?_);have h0:=c.toNat_lt;unfold hexT at hQ;rcases(by omega:(0<=c.toNat/\c.toNat<=47)\/(48<=c.toNat/\c.toNat<=57)\/(58<=c.toNat/\c.toNat<=64)\/(65<=c.toNat/\c.toNat<=70)\/(71<=c.toNat/\c.toNat<=96)\/(97<=c.toNat/\c.toNat<=102)\/(103<=c.toNat/\c.toNat<=255))with hr|hr|hr|hr|hr|hr|hr
 ·have f0:¬(48:Int)<=c.toNat:=by omega
  have f1:(c.toNat:Int)<=57:=by omega
  have f2:¬(97:Int)<=c.toNat:=by omega
  have f3:(c.toNat:Int)<=102:=by omega
  have f4:¬(65:Int)<=c.toNat:=by omega
  have f5:(c.toNat:Int)<=70:=by omega
  rw[if_neg (by omega),if_neg (by omega),if_neg (by omega)]at hQ;simp[Tryz.ntmps227,Tryz.results227,List.replicate_succ,f0,f1,f2,f3,f4,f5];exact aQz hB (h6:=hQ)
 ·have f0:(48:Int)<=c.toNat:=by omega
  have f1:(c.toNat:Int)<=57:=by omega
  have f2:¬(97:Int)<=c.toNat:=by omega
  have f3:(c.toNat:Int)<=102:=by omega
  have f4:¬(65:Int)<=c.toNat:=by omega
  have f5:(c.toNat:Int)<=70:=by omega
  have w:IntKind.u8.wrap ((c.toNat:Int)-48)=c.toNat-48:=by rw[IntKind.wrap_u8];omega
  have w2:IntKind.i64.wrap ((c.toNat:Int)-48)=c.toNat-48:=wiz;rw[if_pos (by omega)]at hQ;simp[Tryz.ntmps227,Tryz.results227,List.replicate_succ,f0,f1,f2,f3,f4,f5,w,w2];exact aQz hB (h6:=hQ)
 ·have f0:(48:Int)<=c.toNat:=by omega
  have f1:¬(c.toNat:Int)<=57:=by omega
  have f2:¬(97:Int)<=c.toNat:=by omega
  have f3:(c.toNat:Int)<=102:=by omega
  have f4:¬(65:Int)<=c.toNat:=by omega
  have f5:(c.toNat:Int)<=70:=by omega
  rw[if_neg (by omega),if_neg (by omega),if_neg (by omega)]at hQ;simp[Tryz.ntmps227,Tryz.results227,List.replicate_succ,f0,f1,f2,f3,f4,f5];exact aQz hB (h6:=hQ)
 ·have f0:(48:Int)<=c.toNat:=by omega
  have f1:¬(c.toNat:Int)<=57:=by omega
  have f2:¬(97:Int)<=c.toNat:=by omega
  have f3:(c.toNat:Int)<=102:=by omega
  have f4:(65:Int)<=c.toNat:=by omega
  have f5:(c.toNat:Int)<=70:=by omega
  have w:IntKind.u8.wrap ((c.toNat:Int)-65)=c.toNat-65:=by rw[IntKind.wrap_u8];omega
  have w2:IntKind.i64.wrap ((c.toNat:Int)-65)=c.toNat-65:=wiz;have w3:IntKind.i64.wrap ((c.toNat:Int)-65+10)=c.toNat-65+10:=wiz;rw[if_neg (by omega),if_neg (by omega),if_pos (by omega)]at hQ;simp[Tryz.ntmps227,Tryz.results227,List.replicate_succ,f0,f1,f2,f3,f4,f5,w,w2,w3];exact aQz hB (h6:=hQ)
 ·have f0:(48:Int)<=c.toNat:=by omega
  have f1:¬(c.toNat:Int)<=57:=by omega
  have f2:¬(97:Int)<=c.toNat:=by omega
  have f3:(c.toNat:Int)<=102:=by omega
  have f4:(65:Int)<=c.toNat:=by omega
  have f5:¬(c.toNat:Int)<=70:=by omega
  rw[if_neg (by omega),if_neg (by omega),if_neg (by omega)]at hQ;simp[Tryz.ntmps227,Tryz.results227,List.replicate_succ,f0,f1,f2,f3,f4,f5];exact aQz hB (h6:=hQ)
 ·have f0:(48:Int)<=c.toNat:=by omega
  have f1:¬(c.toNat:Int)<=57:=by omega
  have f2:(97:Int)<=c.toNat:=by omega
  have f3:(c.toNat:Int)<=102:=by omega
  have f4:(65:Int)<=c.toNat:=by omega
  have f5:¬(c.toNat:Int)<=70:=by omega
  have w:IntKind.u8.wrap ((c.toNat:Int)-97)=c.toNat-97:=by rw[IntKind.wrap_u8];omega
  have w2:IntKind.i64.wrap ((c.toNat:Int)-97)=c.toNat-97:=wiz;have w3:IntKind.i64.wrap ((c.toNat:Int)-97+10)=c.toNat-97+10:=wiz;rw[if_neg (by omega),if_pos (by omega)]at hQ;simp[Tryz.ntmps227,Tryz.results227,List.replicate_succ,f0,f1,f2,f3,f4,f5,w,w2,w3];exact aQz hB (h6:=hQ)
 ·have f0:(48:Int)<=c.toNat:=by omega
  have f1:¬(c.toNat:Int)<=57:=by omega
  have f2:(97:Int)<=c.toNat:=by omega
  have f3:¬(c.toNat:Int)<=102:=by omega
  have f4:(65:Int)<=c.toNat:=by omega
  have f5:¬(c.toNat:Int)<=70:=by omega
  rw[if_neg (by omega),if_neg (by omega),if_neg (by omega)]at hQ;simp[Tryz.ntmps227,Tryz.results227,List.replicate_succ,f0,f1,f2,f3,f4,f5];exact aQz hB (h6:=hQ)
theorem qqh(c:UInt8)(hQ:Q (.int .i64 (qc4 c)) H):PC Tryz.prog E 213 [.int .u8 (c.toNat:Int)] H Q:=by
 refine qac Tryz.func213 rfl [] [] (by kernel_rfl) (fun hB=>?_);have h0:=c.toNat_lt;unfold qc4 qbv qbI qcQ at hQ;have i1:=qdD [45,46,95,126] c;have i2:=qdD [33,36,38,39,40,41,42,43,44,59,61] c;rcases(by omega:(0<=c.toNat/\c.toNat<=47)\/(48<=c.toNat/\c.toNat<=57)\/(58<=c.toNat/\c.toNat<=64)\/(65<=c.toNat/\c.toNat<=90)\/(91<=c.toNat/\c.toNat<=96)\/(97<=c.toNat/\c.toNat<=122)\/(123<=c.toNat/\c.toNat<=255))with hr|hr|hr|hr|hr|hr|hr
 ·have f0:¬(97:Int)<=c.toNat:=by omega
  have f1:(c.toNat:Int)<=122:=by omega
  have f2:¬(65:Int)<=c.toNat:=by omega
  have f3:(c.toNat:Int)<=90:=by omega
  have f4:¬(48:Int)<=c.toNat:=by omega
  have f5:(c.toNat:Int)<=57:=by omega
  have g:qcC c=false:=by unfold qcC;simp;omega
  rw[g,Bool.false_or]at hQ;simp[Tryz.ntmps213,Tryz.results213,List.replicate_succ,f0,f1,f2,f3,f4,f5];refine qaz E _ _ _ c ?_;by_cases g1:([45,46,95,126]:List UInt8).contains c=true
  ·have j1:0<=Lib.indexByte [45,46,95,126] c:=by rw[g1]at i1;simpa using i1
   rw[if_pos g1]at hQ;simp[qaj,KP,qaf,j1];exact aQz hB (h6:=hQ)
  ·have j1:¬0<=Lib.indexByte [45,46,95,126] c:=fun h=>g1 (by rw[<-i1];simpa using h);rw[if_neg g1]at hQ;simp[qaj,KP,qaf,j1];refine qaz E _ _ _ c ?_;by_cases g2:([33,36,38,39,40,41,42,43,44,59,61]:List UInt8).contains c=true
   ·have j2:0<=Lib.indexByte [33,36,38,39,40,41,42,43,44,59,61] c:=by rw[g2]at i2;simpa using i2
    rw[if_pos g2]at hQ;simp[qaj,KP,qaf,j2];exact aQz hB (h6:=hQ)
   ·have j2:¬0<=Lib.indexByte [33,36,38,39,40,41,42,43,44,59,61] c:=fun h=>g2 (by rw[<-i2];simpa using h);rw[if_neg g2]at hQ;by_cases e1:c=58
    ·subst e1;simp[qaj,KP,qaf,j2];exact aQz hB (h6:=hQ)
    ·have k1:=(qaw c 58 (by decide) 58 rfl e1).1;by_cases e2:c=64
     ·subst e2;simp[qaj,KP,qaf,j2];exact aQz hB (h6:=hQ)
     ·have k2:=(qaw c 64 (by decide) 64 rfl e2).1;rw[if_neg (by simp[e1,e2])]at hQ;by_cases e3:c=47
      ·subst e3;simp[qaj,KP,qaf,j2];exact aQz hB (h6:=hQ)
      ·have k3:=(qaw c 47 (by decide) 47 rfl e3).1;rw[if_neg e3]at hQ;by_cases e4:c=63
       ·subst e4;simp[qaj,KP,qaf,j2];exact aQz hB (h6:=hQ)
       ·have k4:=(qaw c 63 (by decide) 63 rfl e4).1;rw[if_neg e4]at hQ;simp[qaj,KP,qaf,j2,k1,k2,k3,k4];exact aQz hB (h6:=hQ)
 ·have f0:¬(97:Int)<=c.toNat:=by omega
  have f1:(c.toNat:Int)<=122:=by omega
  have f2:¬(65:Int)<=c.toNat:=by omega
  have f3:(c.toNat:Int)<=90:=by omega
  have f4:(48:Int)<=c.toNat:=by omega
  have f5:(c.toNat:Int)<=57:=by omega
  have g:qcC c=true:=by unfold qcC;simp;omega
  rw[g,Bool.true_or,if_pos rfl]at hQ;simp[Tryz.ntmps213,Tryz.results213,List.replicate_succ,f0,f1,f2,f3,f4,f5];exact aQz hB (h6:=hQ)
 ·have f0:¬(97:Int)<=c.toNat:=by omega
  have f1:(c.toNat:Int)<=122:=by omega
  have f2:¬(65:Int)<=c.toNat:=by omega
  have f3:(c.toNat:Int)<=90:=by omega
  have f4:(48:Int)<=c.toNat:=by omega
  have f5:¬(c.toNat:Int)<=57:=by omega
  have g:qcC c=false:=by unfold qcC;simp;omega
  rw[g,Bool.false_or]at hQ;simp[Tryz.ntmps213,Tryz.results213,List.replicate_succ,f0,f1,f2,f3,f4,f5];refine qaz E _ _ _ c ?_;by_cases g1:([45,46,95,126]:List UInt8).contains c=true
  ·have j1:0<=Lib.indexByte [45,46,95,126] c:=by rw[g1]at i1;simpa using i1
   rw[if_pos g1]at hQ;simp[qaj,KP,qaf,j1];exact aQz hB (h6:=hQ)
  ·have j1:¬0<=Lib.indexByte [45,46,95,126] c:=fun h=>g1 (by rw[<-i1];simpa using h);rw[if_neg g1]at hQ;simp[qaj,KP,qaf,j1];refine qaz E _ _ _ c ?_;by_cases g2:([33,36,38,39,40,41,42,43,44,59,61]:List UInt8).contains c=true
   ·have j2:0<=Lib.indexByte [33,36,38,39,40,41,42,43,44,59,61] c:=by rw[g2]at i2;simpa using i2
    rw[if_pos g2]at hQ;simp[qaj,KP,qaf,j2];exact aQz hB (h6:=hQ)
   ·have j2:¬0<=Lib.indexByte [33,36,38,39,40,41,42,43,44,59,61] c:=fun h=>g2 (by rw[<-i2];simpa using h);rw[if_neg g2]at hQ;by_cases e1:c=58
    ·subst e1;simp[qaj,KP,qaf,j2];exact aQz hB (h6:=hQ)
    ·have k1:=(qaw c 58 (by decide) 58 rfl e1).1;by_cases e2:c=64
     ·subst e2;simp[qaj,KP,qaf,j2];exact aQz hB (h6:=hQ)
     ·have k2:=(qaw c 64 (by decide) 64 rfl e2).1;rw[if_neg (by simp[e1,e2])]at hQ;by_cases e3:c=47
      ·subst e3;simp[qaj,KP,qaf,j2];exact aQz hB (h6:=hQ)
      ·have k3:=(qaw c 47 (by decide) 47 rfl e3).1;rw[if_neg e3]at hQ;by_cases e4:c=63
       ·subst e4;simp[qaj,KP,qaf,j2];exact aQz hB (h6:=hQ)
       ·have k4:=(qaw c 63 (by decide) 63 rfl e4).1;rw[if_neg e4]at hQ;simp[qaj,KP,qaf,j2,k1,k2,k3,k4];exact aQz hB (h6:=hQ)
 ·have f0:¬(97:Int)<=c.toNat:=by omega
  have f1:(c.toNat:Int)<=122:=by omega
  have f2:(65:Int)<=c.toNat:=by omega
  have f3:(c.toNat:Int)<=90:=by omega
  have f4:(48:Int)<=c.toNat:=by omega
  have f5:¬(c.toNat:Int)<=57:=by omega
  have g:qcC c=true:=by unfold qcC;simp;omega
  rw[g,Bool.true_or,if_pos rfl]at hQ;simp[Tryz.ntmps213,Tryz.results213,List.replicate_succ,f0,f1,f2,f3,f4,f5];exact aQz hB (h6:=hQ)
 ·have f0:¬(97:Int)<=c.toNat:=by omega
  have f1:(c.toNat:Int)<=122:=by omega
  have f2:(65:Int)<=c.toNat:=by omega
  have f3:¬(c.toNat:Int)<=90:=by omega
  have f4:(48:Int)<=c.toNat:=by omega
  have f5:¬(c.toNat:Int)<=57:=by omega
  have g:qcC c=false:=by unfold qcC;simp;omega
  rw[g,Bool.false_or]at hQ;simp[Tryz.ntmps213,Tryz.results213,List.replicate_succ,f0,f1,f2,f3,f4,f5];refine qaz E _ _ _ c ?_;by_cases g1:([45,46,95,126]:List UInt8).contains c=true
  ·have j1:0<=Lib.indexByte [45,46,95,126] c:=by rw[g1]at i1;simpa using i1
   rw[if_pos g1]at hQ;simp[qaj,KP,qaf,j1];exact aQz hB (h6:=hQ)
  ·have j1:¬0<=Lib.indexByte [45,46,95,126] c:=fun h=>g1 (by rw[<-i1];simpa using h);rw[if_neg g1]at hQ;simp[qaj,KP,qaf,j1];refine qaz E _ _ _ c ?_;by_cases g2:([33,36,38,39,40,41,42,43,44,59,61]:List UInt8).contains c=true
   ·have j2:0<=Lib.indexByte [33,36,38,39,40,41,42,43,44,59,61] c:=by rw[g2]at i2;simpa using i2
    rw[if_pos g2]at hQ;simp[qaj,KP,qaf,j2];exact aQz hB (h6:=hQ)
   ·have j2:¬0<=Lib.indexByte [33,36,38,39,40,41,42,43,44,59,61] c:=fun h=>g2 (by rw[<-i2];simpa using h);rw[if_neg g2]at hQ;by_cases e1:c=58
    ·subst e1;simp[qaj,KP,qaf,j2];exact aQz hB (h6:=hQ)
    ·have k1:=(qaw c 58 (by decide) 58 rfl e1).1;by_cases e2:c=64
     ·subst e2;simp[qaj,KP,qaf,j2];exact aQz hB (h6:=hQ)
     ·have k2:=(qaw c 64 (by decide) 64 rfl e2).1;rw[if_neg (by simp[e1,e2])]at hQ;by_cases e3:c=47
      ·subst e3;simp[qaj,KP,qaf,j2];exact aQz hB (h6:=hQ)
      ·have k3:=(qaw c 47 (by decide) 47 rfl e3).1;rw[if_neg e3]at hQ;by_cases e4:c=63
       ·subst e4;simp[qaj,KP,qaf,j2];exact aQz hB (h6:=hQ)
       ·have k4:=(qaw c 63 (by decide) 63 rfl e4).1;rw[if_neg e4]at hQ;simp[qaj,KP,qaf,j2,k1,k2,k3,k4];exact aQz hB (h6:=hQ)
 ·have f0:(97:Int)<=c.toNat:=by omega
  have f1:(c.toNat:Int)<=122:=by omega
  have f2:(65:Int)<=c.toNat:=by omega
  have f3:¬(c.toNat:Int)<=90:=by omega
  have f4:(48:Int)<=c.toNat:=by omega
  have f5:¬(c.toNat:Int)<=57:=by omega
  have g:qcC c=true:=by unfold qcC;simp;omega
  rw[g,Bool.true_or,if_pos rfl]at hQ;simp[Tryz.ntmps213,Tryz.results213,List.replicate_succ,f0,f1,f2,f3,f4,f5];exact aQz hB (h6:=hQ)
 ·have f0:(97:Int)<=c.toNat:=by omega
  have f1:¬(c.toNat:Int)<=122:=by omega
  have f2:(65:Int)<=c.toNat:=by omega
  have f3:¬(c.toNat:Int)<=90:=by omega
  have f4:(48:Int)<=c.toNat:=by omega
  have f5:¬(c.toNat:Int)<=57:=by omega
  have g:qcC c=false:=by unfold qcC;simp;omega
  rw[g,Bool.false_or]at hQ;simp[Tryz.ntmps213,Tryz.results213,List.replicate_succ,f0,f1,f2,f3,f4,f5];refine qaz E _ _ _ c ?_;by_cases g1:([45,46,95,126]:List UInt8).contains c=true
  ·have j1:0<=Lib.indexByte [45,46,95,126] c:=by rw[g1]at i1;simpa using i1
   rw[if_pos g1]at hQ;simp[qaj,KP,qaf,j1];exact aQz hB (h6:=hQ)
  ·have j1:¬0<=Lib.indexByte [45,46,95,126] c:=fun h=>g1 (by rw[<-i1];simpa using h);rw[if_neg g1]at hQ;simp[qaj,KP,qaf,j1];refine qaz E _ _ _ c ?_;by_cases g2:([33,36,38,39,40,41,42,43,44,59,61]:List UInt8).contains c=true
   ·have j2:0<=Lib.indexByte [33,36,38,39,40,41,42,43,44,59,61] c:=by rw[g2]at i2;simpa using i2
    rw[if_pos g2]at hQ;simp[qaj,KP,qaf,j2];exact aQz hB (h6:=hQ)
   ·have j2:¬0<=Lib.indexByte [33,36,38,39,40,41,42,43,44,59,61] c:=fun h=>g2 (by rw[<-i2];simpa using h);rw[if_neg g2]at hQ;by_cases e1:c=58
    ·subst e1;simp[qaj,KP,qaf,j2];exact aQz hB (h6:=hQ)
    ·have k1:=(qaw c 58 (by decide) 58 rfl e1).1;by_cases e2:c=64
     ·subst e2;simp[qaj,KP,qaf,j2];exact aQz hB (h6:=hQ)
     ·have k2:=(qaw c 64 (by decide) 64 rfl e2).1;rw[if_neg (by simp[e1,e2])]at hQ;by_cases e3:c=47
      ·subst e3;simp[qaj,KP,qaf,j2];exact aQz hB (h6:=hQ)
      ·have k3:=(qaw c 47 (by decide) 47 rfl e3).1;rw[if_neg e3]at hQ;by_cases e4:c=63
       ·subst e4;simp[qaj,KP,qaf,j2];exact aQz hB (h6:=hQ)
       ·have k4:=(qaw c 63 (by decide) 63 rfl e4).1;rw[if_neg e4]at hQ;simp[qaj,KP,qaf,j2,k1,k2,k3,k4];exact aQz hB (h6:=hQ)
theorem qmK(s:List UInt8)(i:Nat)(hi:i<s.length)(hl:s.length<=1073741824)(hQ:∀v,Q (.tup [.int .u8 v,.bool (qbs (s.drop i))]) H):PC Tryz.prog E 212 [.str s,.int .i64 (i:Int)] H Q:=by
 refine qac Tryz.func212 rfl [] [] (by kernel_rfl) (fun hB=>?_);have w2:IntKind.i64.wrap ((i:Int)+2)=i+2:=wiz;have w1:IntKind.i64.wrap ((i:Int)+1)=i+1:=wiz;by_cases h:i+2<s.length
 ·obtain⟨a,ha⟩:∃a,s[i]? =some a:=⟨_,zqD hi⟩
  obtain⟨b,hb⟩:∃b,s[i+1]? =some b:=⟨_,zqD (by omega)⟩
  obtain⟨c,hc⟩:∃c,s[i+2]? =some c:=⟨_,zqD h⟩
  have la:=qap ha;have lb:=qap hb;have lc:=qap hc;have n1:¬(s.length:Int)<=i+2:=by omega
  have q1:((i:Int)+1).toNat=i+1:=by omega
  have q2:((i:Int)+2).toNat=i+2:=by omega
  have q3:(0:Int)<=i+1:=by omega
  have q4:(0:Int)<=i+2:=by omega
  have hd:s.drop i=a::b::c::s.drop (i+3):=by rw[qar s i a ha,qar s (i+1) b hb,qar s (i+2) c hc]
  rw[hd]at hQ;by_cases h37:a=37
  ·subst h37;simp[Tryz.ntmps212,Tryz.results212,List.replicate_succ,w2,w1,n1,la,lb,lc,q1,q2,q3,q4];refine qeV E _ b ?_;simp[qaj,KP,qaf,w2,w1,lb,lc,q1,q2,q3,q4];refine qeV E _ c ?_;by_cases x1:0<=hexT b
   ·have e:qbs (37::b::c::s.drop (i+3))=decide (0<=hexT c):=by simp[qbs,x1]
    rw[e]at hQ;simp[qaj,KP,qaf,x1];exact aQz hB (h6:=(hQ _))
   ·have e:qbs (37::b::c::s.drop (i+3))=false:=by simp[qbs,x1]
    rw[e]at hQ;simp[qaj,KP,qaf,x1];exact aQz hB (h6:=(hQ _))
  ·have hb2:=(qaw a 37 (by decide) 37 rfl h37).2;simp[Tryz.ntmps212,Tryz.results212,List.replicate_succ,w2,w1,n1,la,lb,lc,q1,q2,q3,q4,hb2];have e:qbs (a::b::c::s.drop (i+3))=false:=by simp[qbs,h37]
   rw[e]at hQ;exact aQz hB (h6:=(hQ 0))
 ·have n1:(s.length:Int)<=i+2:=by omega
  have e:qbs (s.drop i)=false:=by
   have:(s.drop i).length<=2:=by rw[zqI];omega
   match s.drop i,this with
   |[],_=>rfl
   |[_],_=>rfl
   |[_,_],_=>rfl
  rw[e]at hQ;simp[Tryz.ntmps212,Tryz.results212,List.replicate_succ,w2,n1];exact aQz hB (h6:=(hQ 0))
theorem qbk(may:UInt8->Bool)(c:UInt8)(r:List UInt8):qaE may (c::r)=if qbs (c::r)then 3+qaE may (r.drop 2)else if may c then 1+qaE may r else 0:=by
 rw[qaE]
theorem qer{l:List UInt8}(h:qbs l=true):3<=l.length:=by
 match l,h with
 |_::_::_::_,_=>simp
def sgI(H:Hp)(s:List UInt8)(mask:Int)(may:UInt8->Bool)(fr:List AV)(K:Hp):Prop:=K=H/\∃i:Nat,i<=s.length/\qaE may s=i+qaE may (s.drop i)/\
 ∃x:Nat->AV,fr=[.str s,.int .i64 mask,x 2,x 3,x 4,.int .i64 (i:Int),x 6,x 7,x 8,x 9,x 10,x 11,x 12,x 13,x 14,x 15,x 16,x 17,x 18,x 19,x 20,x 21,x 22,x 23,x 24,x 25,x 26,x 27,x 28,x 29,x 30]
theorem qfC(s:List UInt8)(mask:Int)(may:UInt8->Bool)(hm:∀c:UInt8,(IntKind.i64.wrap (((qc4 c%2^IntKind.i64.bits).toNat&&&(mask%2^IntKind.i64.bits).toNat:Nat):Int)==0)=!may c)(hl:s.length<=1073741824)(hQ:Q (.int .i64 (qaE may s)) H):PC Tryz.prog E 190 [.str s,.int .i64 mask] H Q:=by
 refine qac Tryz.func190 rfl [] [] (by kernel_rfl) (fun hB=>?_);simp[Tryz.ntmps190,Tryz.results190,List.replicate_succ];refine qaB (sgI H s mask may) (fun fr _=>s.length-(ai (aget fr 5)).toNat) ⟨rfl,0,by omega,by simp,friz⟩ ?_;rintro fr K ⟨rfl,i,hi,hS,x,rfl⟩;by_cases h:i<s.length
 ·obtain⟨c,hc⟩:∃c,s[i]? =some c:=⟨_,zqD h⟩
  have la:=qap hc;have hd:=qar s i c hc;have w3:IntKind.i64.wrap ((i:Int)+3)=i+3:=wiz;have w1:IntKind.i64.wrap ((i:Int)+1)=i+1:=wiz;simp[h];refine qmK E _ s i h hl (fun v=>?_);rw[hd,qbk]at hS;rw[hd];by_cases ht:qbs (c::s.drop (i+1))=true
  ·have h3:=qer ht;rw[<-hd,zqI]at h3;simp[qaj,KP,ht,w3];rw[if_pos ht,List.drop_drop]at hS;exact Klz ⟨rfl,i+3,by omega,by rw[hS,show i+1+2=i+3 by omega];omega,friz⟩
  ·have ht':qbs (c::s.drop (i+1))=false:=by simpa using ht
   simp[qaj,KP,ht',la];refine qqh E _ c ?_;rw[if_neg ht]at hS;have hmc:=hm c;cases hmay:may c with
   |true=>
    rw[hmay]at hmc hS;simp[qaj,KP,qaf,w1,hmc];exact Klz ⟨rfl,i+1,by omega,by rw[hS,if_pos rfl];omega,friz⟩
   |false=>
    rw[hmay]at hmc hS;rw[if_neg (by simp)]at hS;simp[qaj,KP,qaf,w1,hmc];rw[hS]at hQ;exact aQz hB (h6:=(by simpa using hQ))
 ·simp[h];have e:i=s.length:=by omega
  have hS2:qaE may s=i:=by rw[hS,e,List.drop_length];simp[qaE]
  rw[hS2]at hQ;exact aQz hB (h6:=hQ)
end
end Go.Proofs.YtnnhdehmlkkfjaaGreatDoor
