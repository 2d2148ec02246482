/- Part 6 of the texts below the law. -/
import Derived.Test.YtnnhdehmlkkfjaaGreatDoorPe5
import Derived.Lib.SliceRun
set_option maxRecDepth 100000
set_option maxHeartbeats 16000000
set_option linter.unusedVariables false
set_option linter.unusedSimpArgs false
set_option linter.unusedSectionVars false
namespace Go.Proofs.YtnnhdehmlkkfjaaGreatDoor
open Go Go.RowKit Go.Proofs
theorem qdH(b:UInt8):qaf b=(decide (b.toNat=32)||decide (b.toNat=9)):=by
 have e1:(b==9)=decide (b.toNat=9):=by rw[Bool.eq_iff_iff];simp[<-UInt8.toNat_inj]
 have e2:(b==32)=decide (b.toNat=32):=by rw[Bool.eq_iff_iff];simp[<-UInt8.toNat_inj]
 rw[qaf,e1,e2]
theorem qhk(l:List UInt8)(n:Nat):(l !=[])=!l.isEmpty:=by cases l<;>rfl
section
variable (E:Env)(H:Hp)(Q:AV->Hp->Prop)
end
section
variable (E:Env)(H:Hp)(Q:AV->Hp->Prop)
end
theorem qmf:(fun b:UInt8=>[32,9].contains b)=qaf:=by
 funext b;rw[Bool.eq_iff_iff];simp[qaf]
theorem qp4(p:UInt8->Bool)(c:UInt8)(hc:p c=false):∀r:List UInt8,(r++[c]).dropWhile p=r.dropWhile p++[c]
 |[]=>by simp[List.dropWhile,hc]
 |d::r=>by
  rw[List.cons_append];cases hd:p d
  ·rw[List.dropWhile_cons_of_neg (by rw[hd];simp),List.dropWhile_cons_of_neg (by rw[hd];simp)];rfl
  ·rw[List.dropWhile_cons_of_pos hd,List.dropWhile_cons_of_pos hd];exact qp4 p c hc r
def lt(l:List UInt8):List UInt8:=l.dropWhile qaf
def rt(l:List UInt8):List UInt8:=(l.reverse.dropWhile qaf).reverse
theorem qtP(l:List UInt8):qaJ l=lt (rt l):=by
 unfold qaJ Go.Lib.trimS Go.Lib.trimLeftS Go.Lib.trimRightS lt rt;rw[<-qmf]
theorem qfc:∀l:List UInt8,qaJ l=rt (lt l)
 |[]=>rfl
 |c::r=>by
  cases hc:qaf c
  ·have h1:lt (c::r)=c::r:=by unfold lt;rw[List.dropWhile_cons_of_neg (by rw[hc];simp)]
   rw[h1,qtP];unfold rt;rw[List.reverse_cons,qp4 qaf c hc,List.reverse_append,List.reverse_singleton,List.singleton_append];unfold lt;rw[List.dropWhile_cons_of_neg (by rw[hc];simp)]
  ·rw[qgO c hc,qfc r];have:lt (c::r)=lt r:=by unfold lt;rw[List.dropWhile_cons_of_pos hc]
   rw[this]
theorem qoP(l:List UInt8)(f i k:Nat)(h:f<=i):(l.drop f).take (i-f)++(l.drop i).take k=(l.drop f).take (i+k-f):=by
 rw[show i+k-f=(i-f)+k by omega,List.take_add,List.drop_drop,show f+(i-f)=i by omega]
theorem qt3(l:List UInt8)(f i:Nat)(c:UInt8)(h:f<=i)(hc:l[i]? =some c):(l.drop f).take (i-f)++[c]=(l.drop f).take (i+1-f):=by
 rw[<-qoP l f i 1 h,qay l i c hc];rfl
theorem qt4(l:List UInt8)(i:Nat):(l.drop i).take (i-i)=[]:=by simp
theorem qgS(l:List (List UInt8))(x:List UInt8):strs l++[[AV.str x]]=strs (l++[x]):=by simp[strs]
theorem qcW{l:List (List UInt8)}{i:Nat}{x:List UInt8}(h:l[i]? =some x):lat (strs l) i=some [AV.str x]:=by simp[lat,strs,h]
theorem qnE(l:List (List UInt8))(i:Nat)(x:List UInt8)(h:l[i]? =some x):qco (l.take (i+1))=qco (l.take i)++(if(qaJ x).isEmpty then []else [qaJ x]):=by
 rw[List.take_add_one,h,qpt];congr 1;simp[qco];cases (qaJ x)<;>simp
theorem qjb(l:List (List UInt8)):(qco l).length<=l.length:=by
 unfold qco;refine Nat.le_trans (List.length_filter_le _ _) ?_;rw[List.length_map];exact Nat.le_refl _
theorem qjs:∀(n:Nat) (acc s:List UInt8) (x:List (List UInt8)),s.length<=n->cut acc s=some x->x.length<=s.length+1
 |n,acc,[],x,_,h=>by rw[qlP]at h;cases h;simp
 |0,acc,c::r,x,hn,h=>by simp at hn
 |n+1,acc,c::r,x,hn,h=>by
  simp only[zqL]at hn⊢;by_cases h1:c=44
  ·subst h1;rw[qhE]at h;cases hc:cut [] r with
   |none=>simp[hc]at h
   |some y=>
    simp[hc]at h;subst h;have:=qjs n [] r y (by omega) hc;simp only[zqL];omega
  ·by_cases h2:c=34
   ·subst h2;cases hu:unquote (34::r)with
    |none=>rw[qlQ _ _ hu]at h;cases h
    |some p=>
     have hl:=qbQ (l:=p.1) (k:=p.2) hu;simp only[zqL]at hl;rw[qhB acc r p.1 p.2 hu]at h;have:=qjs n _ _ x (by simp;omega) h;simp at this;omega
   ·rw[qhC _ _ _ h1 h2]at h;have:=qjs n _ _ x (by omega) h;omega
theorem qhD:∀(n:Nat) (acc s:List UInt8) (x:List (List UInt8)),s.length<=n->cut acc s=some x->∀p∈x,p.length<=acc.length+s.length
 |n,acc,[],x,_,h,p,hp=>by rw[qlP]at h;cases h;simp at hp;subst hp;simp
 |0,acc,c::r,x,hn,h,p,hp=>by simp at hn
 |n+1,acc,c::r,x,hn,h,p,hp=>by
  simp only[zqL]at hn⊢;by_cases h1:c=44
  ·subst h1;rw[qhE]at h;cases hc:cut [] r with
   |none=>simp[hc]at h
   |some y=>
    simp[hc]at h;subst h;rcases List.mem_cons.1 hp with rfl|hp
    ·omega
    ·have:=qhD n [] r y (by omega) hc p hp;simp at this;omega
  ·by_cases h2:c=34
   ·subst h2;cases hu:unquote (34::r)with
    |none=>rw[qlQ _ _ hu]at h;cases h
    |some q=>
     have hl:=qbQ (l:=q.1) (k:=q.2) hu;simp only[zqL]at hl;rw[qhB acc r q.1 q.2 hu]at h;have:=qhD n _ _ x (by simp;omega) h p hp;simp at this;omega
   ·rw[qhC _ _ _ h1 h2]at h;have:=qhD n _ _ x (by omega) h p hp;simp at this;omega
theorem qhh{s:List UInt8}{x:List (List UInt8)}(h:qd6 s=some x):x.length<=s.length+1:=by
 unfold qd6 at h;cases hc:cut [] s with
 |none=>simp[hc]at h
 |some y=>
  simp[hc]at h;subst h;exact Nat.le_trans (qjb y) (qjs _ [] s y (Nat.le_refl _) hc)
def qf2(s:List UInt8)(out:List (List UInt8))(f i:Nat):Prop:=cut [] s=(cut ((s.drop f).take (i-f)) (s.drop i)).map (out++·)
theorem qhF(s:List UInt8):qf2 s [] 0 0:=by unfold qf2;simp
section
variable {s:List UInt8}{out:List (List UInt8)}{f i:Nat}(h:qf2 s out f i)(hf:f<=i)
include h hf
theorem qhI(hc:s[i]? =some 44):qf2 s (out++[(s.drop f).take (i-f)]) (i+1) (i+1):=by
 unfold qf2 at h⊢;rw[h,qay s i 44 hc,qhE,qt4];cases cut [] (s.drop (i+1))<;>simp
theorem qhH{c:UInt8}(hc:s[i]? =some c)(h1:c≠44)(h2:c≠34):qf2 s out f (i+1):=by
 unfold qf2 at h⊢;rw[h,qay s i c hc,qhC _ _ _ h1 h2,qt3 s f i c hf hc]
theorem qkO(hc:s[i]? =some 34)(hu:unquote (s.drop i)=none):cut [] s=none:=by
 unfold qf2 at h;rw[qay s i 34 hc]at hu h;rw[h,qlQ _ _ hu];rfl
theorem qhG(hc:s[i]? =some 34){x:List UInt8}{k:Nat}(hu:unquote (s.drop i)=some (x,k)):qf2 s out f (i+k):=by
 unfold qf2 at h⊢;have e:=qay s i 34 hc;rw[e]at hu;rw[h,e,qhB _ _ x k hu,<-e,qoP s f i k hf,List.drop_drop]
theorem qkN(hi:s.length<=i):cut [] s=some (out++[(s.drop f).take (i-f)]):=by
 unfold qf2 at h;rw[h,List.drop_of_length_le hi,qlP];rfl
end
section
variable (E:Env)(H:Hp)(Q:AV->Hp->Prop)
theorem qa9(b:UInt8)(hQ:Q (.bool (qaf b)) H):PC Tryz.prog E 98 [.int .u8 (b.toNat:Int)] H Q:=by
 refine qac Tryz.func98 rfl [] [] (by kernel_rfl) (fun hB=>?_);have fin:∀c:Bool,qaf b=c->Q (.bool c) H:=fun c hc=>hc▸hQ;by_cases h1:b.toNat=32
 ·have t1:((b.toNat:Int)==32)=true:=by simp;omega
  simp[Tryz.ntmps98,Tryz.results98,List.replicate_succ,t1];exact aQz hB (h6:=(fin _ (by rw[qdH];simp[h1])))
 ·have t1:((b.toNat:Int)==32)=false:=by simp;omega
  by_cases h2:b.toNat=9
  ·have t2:((b.toNat:Int)==9)=true:=by simp;omega
   simp[Tryz.ntmps98,Tryz.results98,List.replicate_succ,t1,t2];exact aQz hB (h6:=(fin _ (by rw[qdH];simp[h2])))
  ·have t2:((b.toNat:Int)==9)=false:=by simp;omega
   simp[Tryz.ntmps98,Tryz.results98,List.replicate_succ,t1,t2];exact aQz hB (h6:=(fin _ (by rw[qdH];simp[h1,h2])))
def qll(l:List UInt8)(H:Hp)(fr:List AV)(H':Hp):Prop:=H'=H/\∃c:List UInt8,c.length<=l.length/\lt c=lt l/\∃x:Nat->AV,fr=[.str c,x 1,x 2,x 3,x 4,x 5,x 6,x 7,x 8,x 9,x 10,x 11,x 12,x 13,x 14,x 15,x 16,x 17,x 18,x 19,x 20,x 21,x 22,x 23,x 24,x 25,x 26,x 27,x 28,x 29]
def qlk(l:List UInt8)(H:Hp)(fr:List AV)(H':Hp):Prop:=H'=H/\∃c:List UInt8,c.length<=l.length/\rt c=rt (lt l)/\∃x:Nat->AV,fr=[.str c,x 1,x 2,x 3,x 4,x 5,x 6,x 7,x 8,x 9,x 10,x 11,x 12,x 13,x 14,x 15,x 16,x 17,x 18,x 19,x 20,x 21,x 22,x 23,x 24,x 25,x 26,x 27,x 28,x 29]
def asz:AV->Nat
 | .str l=>l.length
 |_=>0
@[simp] theorem asz_str (l):asz (.str l)=l.length:=rfl
theorem qcm(l:List UInt8)(hl:l.length<=cap)(hQ:Q (.str (qaJ l)) H):PC Tryz.prog E 102 [.str l] H Q:=by
 simp only[cap]at hl;refine qac Tryz.func102 rfl [] [] (by kernel_rfl) (fun hB=>?_);simp[Tryz.ntmps102,Tryz.results102,List.replicate_succ];refine qaB (qll l H) (fun fr _=>asz (aget fr 0)) ⟨rfl,l,Nat.le_refl _,rfl,friz⟩ ?_;rintro fr H' ⟨rfl,c,hcl,hc,x,rfl⟩
 have hcase:c=[]\/(∃a r,c=a::r/\qaf a=false)\/(∃a r,c=a::r/\qaf a=true):=by
  cases c with
  |nil=>exact .inl rfl
  |cons a r=>
   cases hb:qaf a
   ·exact .inr (.inl ⟨a,r,rfl,hb⟩)
   ·exact .inr (.inr ⟨a,r,rfl,hb⟩)
 rcases hcase with rfl|⟨a,r,rfl,hb⟩|⟨a,r,rfl,hb⟩
 rotate_left 2
 ·have hne:(0:Int)<r.length+1:=by omega
  simp[hne];refine qa9 E _ _ a ?_;simp[hb];refine qaH ⟨rfl,r,by simp at hcl;omega,?_,friz⟩ (by simp);rw[<-hc];unfold lt;rw[List.dropWhile_cons_of_pos hb]
 case' inl=>
  have e:([]:List UInt8)=lt l:=by rw[<-hc];rfl
  simp
 case' inr.inl=>
  have e:a::r=lt l:=by rw[<-hc];unfold lt;rw[List.dropWhile_cons_of_neg (by rw[hb];simp)]
  have hne:(0:Int)<r.length+1:=by omega
  simp[hne];refine qa9 E _ _ a ?_;simp[hb]
 all_goals
  refine qaB (qlk l H') (fun fr _=>asz (aget fr 0)) ⟨rfl,_,hcl,by rw[e],friz⟩ ?_;rintro fr H'' ⟨rfl,d,hdl,hd,z,rfl⟩;rcases d.eq_nil_or_concat with rfl|⟨y,b,rfl⟩
  ·have ed:([]:List UInt8)=qaJ l:=by rw[qfc,<-hd];rfl
   simp;refine aQz hB (h6:=?_);show Q (.str []) _;rw[ed];exact hQ
  ·rw[List.concat_eq_append]at hd;simp at hdl;have hat:lat (y++[b]) y.length=some b:=qas (by simp);have hw:IntKind.i64.wrap (y.length:Int)=y.length:=wiz;have hne:(0:Int)<y.length+1:=by omega
   simp[hne,hw,hat];refine qa9 E _ _ b ?_;cases hb2:qaf b
   ·have ed:y++[b]=qaJ l:=by
     rw[qfc,<-hd];unfold rt;rw[List.reverse_append,List.reverse_singleton,List.singleton_append,List.dropWhile_cons_of_neg (by rw[hb2];simp)];simp
    simp;refine aQz hB (h6:=?_);show Q (.str (y++[b])) _;rw[ed];exact hQ
   ·simp[hw];refine qaH ⟨rfl,y,by omega,?_,friz⟩ (by simp);rw[<-hd];unfold rt;rw[List.reverse_append,List.reverse_singleton,List.singleton_append,List.dropWhile_cons_of_pos hb2]
end
theorem qcN{N:Nat}(o k)(l:List (List UInt8)):Bnd N (.sl o k (strs l)):= .sl _ _ _ fun r hr x hx=>by
 obtain⟨c,_,rfl⟩:=List.mem_map.1 hr;simp at hx;subst hx;exact .str _
@[simp high] theorem bnd_strs' {N:Nat} (o k) (l:List (List UInt8)):Bnd N (.sl o k (strs l)):=qcN o k l
@[simp] theorem qtX (l:List (List UInt8)):(strs l).length=l.length:=qmc l
theorem qcg(k:Nat)(y:AV)(h:y.free=true):nilV (.tup [.nil,y]) (.tup [.sl false k [],y]):=
 .inr ⟨_,_,rfl,rfl,⟨.inr ⟨rfl,false,k,rfl⟩,.inl rfl,trivial⟩,by simp[h]⟩
def qdh(l:List UInt8):List (List UInt8)×Int:=match qd6 l with
 |some x=>(x,0)
 |none=>([],14)
theorem qlC{l:List UInt8}(h:cut [] l=none):qdh l=([],14):=by unfold qdh qd6;rw[h];rfl
theorem qnB{l:List UInt8}{x:List (List UInt8)}(h:cut [] l=some x):qdh l=(qco x,0):=by unfold qdh qd6;rw[h];rfl
section
variable (E:Env)(H:Hp)(Q:AV->Hp->Prop)
end
def qc1(b:UInt8):Bool:=(decide (65<=b.toNat)&&decide (b.toNat<=90))||(decide (97<=b.toNat)&&decide (b.toNat<=122))
def sgs:List UInt8:=[33,35,36,37,38,39,42,43,45,46,94,95,96,124,126]
theorem qrx:∀n,n<256->(qbX (UInt8.ofNat n)||qc1 (UInt8.ofNat n)||sgs.contains (UInt8.ofNat n))=qai (UInt8.ofNat n):=by decide
theorem qbc(b:UInt8):(qbX b||qc1 b||sgs.contains b)=qai b:=by
 have:=qrx b.toNat b.toNat_lt;rwa[qce]at this
section
variable (E:Env)(H:Hp)(Q:AV->Hp->Prop)
theorem qbB{α:Type}(p:α->Bool)(l:List α)(k:Nat)(x:α)(h:l[k]? =some x):(l.take (k+1)).all p=((l.take k).all p&&p x):=by
 rw[List.take_add_one,h,List.all_append];simp
theorem qcO{α:Type}(p:α->Bool)(l:List α)(k:Nat)(x:α)(h:l[k]? =some x)(hp:p x=false):l.all p=false:=by
 rw[List.all_eq_false];exact⟨x,zqH h,by rw[hp];simp⟩
theorem qpn{l:List UInt8}{ps:List (List UInt8)}(h:qd6 l=some ps):∀p∈ps,p.length<=l.length:=by
 unfold qd6 at h;cases hc:cut [] l with
 |none=>simp[hc]at h
 |some y=>
  simp[hc]at h;subst h;intro p hp;unfold qco at hp;obtain⟨q,hq,rfl⟩:=List.mem_map.1 (List.mem_filter.1 hp).1;have:=qhD _ [] l y (Nat.le_refl _) hc q hq;have:=qk6 q;simp at*;omega
end
section
variable (E:Env)(H:Hp)(Q:AV->Hp->Prop)
end
theorem quw(W:World)(hS:qh2 W):∀b,b=0->b<W.heap.size:=fun b hb=>hb▸World.block_lt_of_cell? _ _ (hS 0 _ rfl)
def qeL(p:Par):List AV:=[.str p.name,.str p.value,.bool p.has]
def prs(l:List Par):List (List AV):=l.map qeL
@[simp] theorem prs_length (l:List Par):(prs l).length=l.length:=by simp[prs]
theorem prs_at{l:List Par}{i:Nat}{p:Par}(h:l[i]? =some p):lat (prs l) i=some [.str p.name,.str p.value,.bool p.has]:=by simp[lat,prs,h,qeL]
theorem qlT{N:Nat}(o k)(l:List Par):Bnd N (.sl o k (prs l)):= .sl _ _ _ fun r hr x hx=>by
 obtain⟨c,_,rfl⟩:=List.mem_map.1 hr;simp[qeL]at hx;rcases hx with rfl|rfl|rfl
 ·exact .str _
 ·exact .str _
 ·exact .bool _
@[simp high] theorem bnd_prs' {N:Nat} (o k) (l:List Par):Bnd N (.sl o k (prs l)):=qlT o k l
def qbe(l:List UInt8):List Par×Int×Int:=match pars qai l with
 |some p=>(p.1,(p.2:Int),0)
 |none=>([],0,15)
def qdo(l:List UInt8):List UInt8×Int×Bool:=match pval qai l with
 |some p=>(p.1,(p.2:Int),true)
 |none=>([],0,false)
theorem qdB(k:Nat)(y z:AV)(h:y.free=true)(h2:z.free=true):nilV (.tup [.nil,y,z]) (.tup [.sl false k [],y,z]):=
 .inr ⟨_,_,rfl,rfl,⟨.inr ⟨rfl,false,k,rfl⟩,.inl rfl,.inl rfl,trivial⟩,by simp[h,h2]⟩
theorem qo3{l x:List UInt8}{k:Nat}(h:pval qai l=some (x,k)):1<=k/\k<=l.length/\x.length<=k:=by
 unfold pval at h;split at h
 ·cases h;have:=qbp qai l;rw[zqJ];omega
 ·have:=qbQ h;omega
def qdy(l:List UInt8)(out:List Par)(e:Nat):Prop:=pars qai l=(pars qai (l.drop e)).map fun p=>(out++p.1,p.2+e)
theorem qgj(l:List UInt8):qdy l [] 0:=by unfold qdy;cases h:pars qai l<;>simp[h]
section
variable {l:List UInt8}{out:List Par}{e b m n:Nat}(h:qdy l out e)(hb:run qaf (l.drop e)=b)
include h hb
theorem qij(h0:l[e+b]? ≠some 59):qbe l=(out,(e:Int),0):=by
 unfold qdy at h;rw[qfr qai (l.drop e) (by rw[hb,zqN];exact h0)]at h;unfold qbe;rw[h];simp
variable (h0:l[e+b]? =some 59)(hm:run qaf (l.drop (e+b+1))=m)(hn:run qai (l.drop (e+b+1+m))=n)
include h0 hm hn
theorem qgw:(l.drop e)[b]? =some 59/\run qaf ((l.drop e).drop (b+1))=m/\run qai ((l.drop e).drop (b+1+m))=n:=by
 refine⟨by rw[zqN];exact h0,by rw[List.drop_drop,<-Nat.add_assoc];exact hm,by rw[List.drop_drop,<-Nat.add_assoc,<-Nat.add_assoc];exact hn⟩
theorem qha(hz:n=0):qdy l out (e+b+1):=by
 obtain⟨f1,f2,f3⟩:=qgw h hb h0 hm hn;unfold qdy at h⊢;rw[h,qj8 qai (l.drop e) b m n hb f1 f2 f3 hz,List.drop_drop,<-Nat.add_assoc];cases pars qai (l.drop (e+b+1))with
 |none=>rfl
 |some p=>simp;omega
theorem qgk(hz:n≠0)(he:l[e+b+1+m+n]? ≠some 61):qdy l (out++[⟨(l.drop (e+b+1+m)).take n,[],false⟩]) (e+b+1+m+n):=by
 obtain⟨f1,f2,f3⟩:=qgw h hb h0 hm hn;unfold qdy at h⊢;have e1:e+(b+1+m+n)=e+b+1+m+n:=by omega
 have e2:e+(b+1+m)=e+b+1+m:=by omega
 rw[h,qii qai (l.drop e) b m n hb f1 f2 f3 hz (by rw[zqN,e1];exact he),List.drop_drop,List.drop_drop,e1,e2];cases pars qai (l.drop (e+b+1+m+n))with
 |none=>rfl
 |some p=>simp;omega
theorem qik(hz:n≠0)(he:l[e+b+1+m+n]? =some 61)(hv:pval qai (l.drop (e+b+1+m+n+1))=none):qbe l=([],0,15):=by
 obtain⟨f1,f2,f3⟩:=qgw h hb h0 hm hn;unfold qdy at h;have e1:e+(b+1+m+n)=e+b+1+m+n:=by omega
 rw[qms qai (l.drop e) b m n hb f1 f2 f3 hz (by rw[zqN,e1];exact he) (by rw[List.drop_drop,show e+(b+1+m+n+1)=e+b+1+m+n+1 by omega];exact hv)]at h;unfold qbe;rw[h];rfl
theorem qec(hz:n≠0)(he:l[e+b+1+m+n]? =some 61){x:List UInt8}{k:Nat}(hv:pval qai (l.drop (e+b+1+m+n+1))=some (x,k)):qdy l (out++[⟨(l.drop (e+b+1+m)).take n,x,true⟩]) (e+b+1+m+n+1+k):=by
 obtain⟨f1,f2,f3⟩:=qgw h hb h0 hm hn;unfold qdy at h⊢;have e1:e+(b+1+m+n)=e+b+1+m+n:=by omega
 have e2:e+(b+1+m)=e+b+1+m:=by omega
 have e3:e+(b+1+m+n+1+k)=e+b+1+m+n+1+k:=by omega
 rw[h,qih qai (l.drop e) b m n hb f1 f2 f3 hz (by rw[zqN,e1];exact he) (by rw[List.drop_drop,show e+(b+1+m+n+1)=e+b+1+m+n+1 by omega];exact hv),List.drop_drop,List.drop_drop,e2,e3];cases pars qai (l.drop (e+b+1+m+n+1+k))with
 |none=>rfl
 |some p=>simp;omega
end
section
variable (E:Env)(H:Hp)(Q:AV->Hp->Prop)
theorem qiB(b:UInt8)(hQ:Q (.bool (qaf b)) H):PC Tryz.prog E 244 [.int .u8 (b.toNat:Int)] H Q:=by
 refine qac Tryz.func244 rfl [] [] (by kernel_rfl) (fun hB=>?_);have fin:∀c:Bool,qaf b=c->Q (.bool c) H:=fun c hc=>hc▸hQ;by_cases h1:b.toNat=32
 ·have t1:((b.toNat:Int)==32)=true:=by simp;omega
  simp[Tryz.ntmps244,Tryz.results244,List.replicate_succ,t1];exact aQz hB (h6:=(fin _ (by rw[qdH];simp[h1])))
 ·have t1:((b.toNat:Int)==32)=false:=by simp;omega
  by_cases h2:b.toNat=9
  ·have t2:((b.toNat:Int)==9)=true:=by simp;omega
   simp[Tryz.ntmps244,Tryz.results244,List.replicate_succ,t1,t2];exact aQz hB (h6:=(fin _ (by rw[qdH];simp[h2])))
  ·have t2:((b.toNat:Int)==9)=false:=by simp;omega
   simp[Tryz.ntmps244,Tryz.results244,List.replicate_succ,t1,t2];exact aQz hB (h6:=(fin _ (by rw[qdH];simp[h1,h2])))
def runInv(p:UInt8->Bool)(l:List UInt8)(a:Nat)(fid:Nat)(H:Hp)(fr:List AV)(H':Hp):Prop:=H'=H/\∃n:Nat,a+n<=l.length/\((l.drop a).take n).all p=true/\∃x:Nat->AV,fr=[.str l,.int .i64 a,.fn fid [],x 3,x 4,x 5,x 6,.int .i64 n,x 8,x 9,x 10,x 11,x 12,x 13,x 14,x 15,x 16,x 17,x 18,x 19,x 20,x 21,x 22,x 23,x 24,x 25]
theorem qmi(p:UInt8->Bool)(fid:FuncId)(hp:∀(b:UInt8) (Q:AV->Hp->Prop),Q (.bool (p b)) H->PC Tryz.prog E fid [.int .u8 (b.toNat:Int)] H Q)(l:List UInt8)(a:Nat)(hl:l.length<=cap)(ha:a<=l.length)
  (hQ:Q (.int .i64 (run p (l.drop a):Nat)) H):PC Tryz.prog E 243 [.str l,.int .i64 a,.fn fid []] H Q:=by
 simp only[cap]at hl;refine qac Tryz.func243 rfl [] [] (by kernel_rfl) (fun hB=>?_);have fin:∀n:Nat,run p (l.drop a)=n->Q (.int .i64 n) H:=fun n hn=>hn▸hQ;simp[Tryz.ntmps243,Tryz.results243,List.replicate_succ];refine qaB (runInv p l a fid H) (fun fr _=>l.length-(ai (aget fr 7)).toNat) ⟨rfl,0,by omega,rfl,friz⟩ ?_;rintro fr H' ⟨rfl,n,hn,hall,x,rfl⟩;obtain⟨i,hi⟩:∃i,i=a+n:=⟨_,rfl⟩
 have hw0:IntKind.i64.wrap ((a:Int)+n)=(i:Int):=by rw[qak (by omega) (by omega)];omega
 have hw:IntKind.i64.wrap ((n:Int)+1)=n+1:=wiz;by_cases h:i<l.length
 ·obtain⟨b,hb⟩:∃b,l[i]? =some b:=⟨_,zqD h⟩
  have hb2:(l.drop a)[n]? =some b:=by rw[zqN,<-hi];exact hb
  have hat:=qas hb;simp[hw0,h,hat];refine hp b _ ?_;cases hf:p b
  ·simp[hf];refine aQz hB (h6:=(fin n (qby p _ n hall (by rw[zqI];omega) (fun c hc=>?_))));rw[hb2]at hc;cases hc;exact hf
  ·simp[hf,hw];exact Klz ⟨rfl,n+1,by omega,by rw[qbB p (l.drop a) n b hb2,hall,hf];rfl,friz⟩
 ·simp[hw0,h];refine aQz hB (h6:=(fin n (qby p _ n hall (by rw[zqI];omega) (fun c hc=>?_))));rw[zqN]at hc;have:=(zqC.1 hc).1;omega
theorem qrf(hE:SE E)(l:List UInt8)(hl:l.length<=8388608)(hQ:Q (.tup [.str (qdo l).1,.int .i64 (qdo l).2.1,.bool (qdo l).2.2]) H):PC Tryz.prog E 245 [.str l] H Q:=by
 refine qac Tryz.func245 rfl [] [] (by kernel_rfl) (fun hB=>?_);simp[Tryz.ntmps245,Tryz.results245,List.replicate_succ];refine qmi E _ _ qai _ (fun b Q hQ=>qkp E _ Q hE b hQ) l 0 (by simp only[cap];omega) (by omega) ?_;rw[List.drop_zero];obtain⟨n,hn⟩:=exz (run qai l);have hnl:=qbp qai l;rw[hn]at hnl⊢;by_cases h0:0<n
 ·have hv:qdo l=(l.take n,(n:Int),true):=by unfold qdo pval;rw[hn,if_pos h0]
  rw[hv]at hQ;simp[h0,hnl];exact aQz hB (h6:=hQ)
 ·simp[h0];refine qh5 E _ _ l (by omega) ?_;cases hu:unquote l with
  |none=>
   have ha:qaU l=([],0,13):=by unfold qaU;rw[hu]
   have hv:qdo l=([],0,false):=by unfold qdo pval;rw[hn,if_neg h0,hu]
   rw[hv]at hQ;simp[ha];exact aQz hB (h6:=hQ)
  |some p=>
   have ha:qaU l=(p.1,(p.2:Int),0):=by unfold qaU;rw[hu]
   have hv:qdo l=(p.1,(p.2:Int),true):=by unfold qdo pval;rw[hn,if_neg h0,hu]
   rw[hv]at hQ;simp[ha];exact aQz hB (h6:=hQ)
def quk(l:List UInt8)(H:Hp)(fr:List AV)(H':Hp):Prop:=∃(J:Hp) (e:Nat) (out:List Par),H'=H++J/\e<=l.length/\out.length<=e/\qdy l out e/\∃x:Nat->AV,fr=[.str l,x 1,x 2,x 3,x 4,.sl true 3 (prs out),.int .i64 e,x 7,x 8,x 9,x 10,x 11,x 12,x 13,x 14,x 15,x 16,x 17,x 18,x 19,x 20,x 21,x 22,x 23,x 24,x 25,x 26,x 27,x 28,x 29,x 30,x 31,x 32,x 33,x 34,x 35,x 36,x 37,x 38,x 39,x 40,x 41,x 42,x 43,x 44,x 45,x 46,x 47,x 48,x 49,x 50,x 51,x 52,x 53,x 54,x 55,x 56,x 57,x 58,x 59,x 60,x 61,x 62,x 63,x 64,x 65,x 66,x 67,x 68,x 69,x 70,x 71,x 72,x 73,x 74,x 75,x 76,x 77,x 78,x 79,x 80,x 81,x 82,x 83]
theorem qpd(hE:SE E)(l:List UInt8)(hl:l.length<=8388608)(hQ:Q (.tup [.sl false 3 (prs (qbe l).1),.int .i64 (qbe l).2.1,.int .i64 (qbe l).2.2]) H):PC Tryz.prog E 238 [.str l] H Q:=by
 refine qac Tryz.func238 rfl [80] [] (by kernel_rfl) (fun hB=>?_);simp[Tryz.ntmps238,Tryz.results238,List.replicate_succ];refine qeo 5 3 (by rfl) ?_;simp only[List.set_cons_succ,List.set_cons_zero];refine qaB (quk l H) (fun fr _=>l.length-(ai (aget fr 6)).toNat) ⟨[],0,[],by simp,by omega,by simp,qgj l,qag (by simp[prs])⟩ ?_;rintro fr H' ⟨J,e,out,rfl,he,hout,hp,x,rfl⟩;have hcap:l.length<=cap:=by simp only[cap];omega
 have hm:out.length+1<=maxLen/\(out.length+1)*40<=140737488355328:=by unfold maxLen;omega
 obtain⟨H1,hH1⟩:=exz (H++J);simp;refine qmi E _ _ qaf _ (fun b Q hQ=>qiB E _ Q b hQ) l e hcap he ?_;obtain⟨b,hb⟩:=exz (run qaf (l.drop e));have hbl:=qbp qaf (l.drop e);rw[zqI]at hbl;rw[hb]at hbl⊢;obtain⟨a,ha⟩:∃a,a=e+b:=⟨_,rfl⟩
 have hw1:IntKind.i64.wrap ((e:Int)+b)=(a:Int):=by rw[qak (by omega) (by omega)];omega
 have hcase:l[a]? =some 59\/l[a]? ≠some 59:=by
  by_cases h:l[a]? =some 59
  ·exact .inl h
  ·exact .inr h
 rcases hcase with h59|h59
 ·have halt:=(zqC.1 h59).1;have t1:((a:Int)==(l.length:Int))=false:=by simp;omega
  have hat:=qas h59;obtain⟨a1,ha1⟩:∃a1,a1=a+1:=⟨_,rfl⟩
  have hw2:IntKind.i64.wrap ((a:Int)+1)=(a1:Int):=by rw[qak (by omega) (by omega)];omega
  simp[hw1,t1,hat,hw2];refine qmi E _ _ qaf _ (fun b Q hQ=>qiB E _ Q b hQ) l a1 hcap (by omega) ?_;obtain⟨m,hmm⟩:=exz (run qaf (l.drop a1));have hml:=qbp qaf (l.drop a1);rw[zqI]at hml;rw[hmm]at hml⊢;obtain⟨a2,ha2⟩:∃a2,a2=a1+m:=⟨_,rfl⟩
  have hw3:IntKind.i64.wrap ((a1:Int)+m)=(a2:Int):=by rw[qak (by omega) (by omega)];omega
  simp[hw3];refine qmi E _ _ qai _ (fun b Q hQ=>qkp E _ Q hE b hQ) l a2 hcap (by omega) ?_;obtain⟨n,hn⟩:=exz (run qai (l.drop a2));have hnl:=qbp qai (l.drop a2);rw[zqI]at hnl;rw[hn]at hnl⊢;obtain⟨a3,ha3⟩:∃a3,a3=a2+n:=⟨_,rfl⟩
  have hw4:IntKind.i64.wrap ((a2:Int)+n)=(a3:Int):=by rw[qak (by omega) (by omega)];omega
  have x0:l[e+b]? =some 59:=by rw[<-ha];exact h59
  have x1:run qaf (l.drop (e+b+1))=m:=by rw[<-ha,<-ha1];exact hmm
  have x2:run qai (l.drop (e+b+1+m))=n:=by rw[<-ha,<-ha1,<-ha2];exact hn
  have ee:e+b+1+m+n=a3:=by omega
  by_cases hz:n=0
  ·have hsk:=qha hp hb x0 x1 x2 hz;rw[show e+b+1=a1 by omega]at hsk;have t2:((n:Int)==0)=true:=by simp[hz]
   simp[hz];exact Klz ⟨J,a1,out,rfl,by omega,by omega,hsk,friz⟩
  ·have t0:((n:Int)==0)=false:=by simp;omega
   have hnm:(l.drop a2).take (a3-a2)=(l.drop a2).take n:=by rw[show a3-a2=n by omega]
   have hle1:a2<=a3:=by omega
   have hle2:a3<=l.length:=by omega
   by_cases h61:l[a3]? =some 61
   ·have h3:=(zqC.1 h61).1;have hat2:=qas h61;obtain⟨a4,ha4⟩:∃a4,a4=a3+1:=⟨_,rfl⟩
    have hw5:IntKind.i64.wrap ((a3:Int)+1)=(a4:Int):=by rw[qak (by omega) (by omega)];omega
    have hd:(l.drop a4).take (l.length-a4)=l.drop a4:=zqE (by rw[zqI];omega);have ha4l:a4<=l.length:=by omega
    simp[t0,hw4,hle1,hle2,hnm,h3,hat2,hw5,ha4l,hd];refine qrf E _ _ hE (l.drop a4) (by rw[zqI];omega) ?_;cases hv:pval qai (l.drop a4)with
    |none=>
     have hva:qdo (l.drop a4)=([],0,false):=by unfold qdo;rw[hv]
     have hbad:=qik hp hb x0 x1 x2 hz (by rw[ee];exact h61) (by rw[ee,<-ha4];exact hv);rw[hbad]at hQ;simp[hva];exact qab hB rfl (qdB 3 _ _ rfl rfl) (by simp) hQ
    |some q=>
     obtain⟨y,k⟩:=q;have hva:qdo (l.drop a4)=(y,(k:Int),true):=by unfold qdo;rw[hv]
     have hk:=qo3 hv;rw[zqI]at hk;have hvv:=qec hp hb x0 x1 x2 hz (by rw[ee];exact h61) (x:=y) (k:=k) (by rw[ee,<-ha4];exact hv);obtain⟨a5,ha5⟩:∃a5,a5=a3+1+k:=⟨_,rfl⟩
     have hw6:IntKind.i64.wrap (1+(k:Int))=1+k:=wiz;have hw7:IntKind.i64.wrap ((a3:Int)+(1+k))=(a5:Int):=by rw[qak (by omega) (by omega)];omega
     rw[show e+b+1+m=a2 by omega,show a2+n+1+k=a5 by omega]at hvv;simp[hva,hw6,hw7,hm];exact Klz ⟨J++[[.str ((l.drop a2).take n),.str y,.bool true]],a5,_,by simp,by omega,by simp;omega,hvv,qag (by simp[prs,qeL])⟩
   ·have hpl:=qgk hp hb x0 x1 x2 hz (by rw[ee];exact h61);rw[show e+b+1+m=a2 by omega,show a2+n=a3 by omega]at hpl
    have hcase:a3=l.length\/(a3<l.length/\∃c,l[a3]? =some c/\c.toNat≠61):=by
     by_cases h:a3<l.length
     ·obtain⟨c,hc⟩:∃b,l[a3]? =some b:=⟨_,zqD h⟩
      exact .inr ⟨h,c,hc,fun hh=>h61 (by rw[hc,UInt8.toNat_inj.1 (show c.toNat=(61:UInt8).toNat from hh)])⟩
     ·exact .inl (by omega)
    rcases hcase with hE3|⟨h,c,hc,hcn⟩
    ·have hnl3:¬a3<l.length:=by omega
     simp[t0,hw4,hle1,hle2,hnm,hnl3,hm];exact Klz ⟨J++[[.str ((l.drop a2).take n),.str [],.bool false]],a3,_,by simp,by omega,by simp;omega,hpl,qag (by simp[prs,qeL])⟩
    ·have t2:((c.toNat:Int)==61)=false:=by simp;omega
     have hat2:=qas hc;simp[t0,hw4,hle1,hle2,hnm,h,hat2,t2,hm];exact Klz ⟨J++[[.str ((l.drop a2).take n),.str [],.bool false]],a3,_,by simp,by omega,by simp;omega,hpl,qag (by simp[prs,qeL])⟩
 ·have hans:=qij hp hb (by rw[<-ha];exact h59);rw[hans]at hQ
  have hcase:a=l.length\/(a<l.length/\∃c,l[a]? =some c/\c.toNat≠59):=by
   by_cases h:a<l.length
   ·obtain⟨c,hc⟩:∃b,l[a]? =some b:=⟨_,zqD h⟩
    exact .inr ⟨h,c,hc,fun hh=>h59 (by rw[hc,UInt8.toNat_inj.1 (show c.toNat=(59:UInt8).toNat from hh)])⟩
   ·exact .inl (by omega)
  rcases hcase with rfl|⟨h,c,hc,hcn⟩
  ·have t1:((l.length:Int)==(l.length:Int))=true:=by simp
   simp[hw1];exact qab hB rfl (qaa _) (by simp) hQ
  ·have t1:((a:Int)==(l.length:Int))=false:=by simp;omega
   have t2:((c.toNat:Int) !=59)=true:=by simp;omega
   have hat:=qas hc;simp[hw1,t1,hat,t2];exact qab hB rfl (qaa _) (by simp) hQ
end
@[simp] theorem qrp {α:Type} (l:List α) (n:Nat):(l.drop n).take (l.length-n)=l.drop n:=zqE (by rw[zqI];omega)
section
variable (E:Env)(H:Hp)(Q:AV->Hp->Prop)
theorem qpx(l:List UInt8)(most:Int)(hl:l.length<=cap)(hm1: -9223372036854775808<=most)(hm2:most<=9223372036854775807)(hQ:Q (.tup [.int .i64 (qae 16 most l).1,.int .i64 (qae 16 most l).2]) H):
  PC Tryz.prog E 237 [.str l,.int .i64 most] H Q:=by
 refine qau (v:= .tup [.int .i64 (qae 16 most l).1,.int .i64 (qae 16 most l).2]) (by kernel_rfl) (fun _=>True) (fun w hw=>trivial) (fun w β Rd cargs hS hsz hargs=>?_) (by simp) rfl hQ;obtain⟨u,v,rfl,hu,hv⟩:=args2 hsz hargs;obtain⟨s,rfl,rfl,hs⟩:=qaC hu;obtain rfl:=qaD hv;refine(hex_ok s most (by rw[<-qad];exact hl) hm1 hm2 w).mono ?_;rintro e w' ⟨rfl,hF⟩;exact⟨_,rfl,hF,qmn⟩
theorem qaF(l:List UInt8)(c:UInt8)(hQ:Q (.int .i64 (Lib.indexByte l c)) H):PC Tryz.prog E 156 [.str l,.int .u8 (c.toNat:Int)] H Q:=by
 refine qau (v:= .int .i64 (Lib.indexByte l c)) (by kernel_rfl) (fun _=>True) (fun w hw=>trivial) (fun w β Rd cargs hS hsz hargs=>?_) (by simp) rfl hQ;obtain⟨u,v,rfl,hu,hv⟩:=args2 hsz hargs;obtain⟨s,rfl,rfl,hs⟩:=qaC hu;obtain rfl:=qaD hv;refine(qcl s c.toNat w).mono ?_;rintro e w' ⟨rfl,rfl⟩;have:(c.toNat:Int).toNat.toUInt8=c:=by simp
 rw[this];exact⟨_,rfl,Frm.refl _ _,.int _ _⟩
theorem qk7(l:List UInt8)(hl:l.length<=cap)(hQ:∀x,x.length<=l.length->Q (.str x) H):PC Tryz.prog E 200 [.str l,.str [32,9]] H Q:=by
 have hle:(Lib.trimLeftS l [32,9]).length<=l.length:=by
  unfold Lib.trimLeftS;exact(List.dropWhile_sublist _).length_le
 refine qau (v:= .str (Lib.trimLeftS l [32,9])) (by kernel_rfl) (fun _=>True) (fun w hw=>trivial) (fun w β Rd cargs hS hsz hargs=>?_) (.str _) rfl (hQ _ hle);obtain⟨u,v,rfl,hu,hv⟩:=args2 hsz hargs;obtain⟨s,rfl,rfl,hs⟩:=qaC hu;obtain⟨t,rfl,ht,_⟩:=qaC hv;have h116:(Tryz.prog.info? (lren.t 116)).map (fun i=>(i.zero,i.size))=some (some (.agg (Array.replicate 256 (.bool false))),256):=by kernel_rfl
 have htl:t.size=2:=by rw[<-qad,ht];rfl
 refine(Any.strings_TrimLeft_ascii lays161 (zero_of_info h116).1 (zero_of_info h116).2 s t w (by rw[htl];omega) (fun j b hb=>by
  rw[ht]at hb
  match j with
  |0=>simp at hb;subst hb;decide
  |1=>simp at hb;subst hb;decide
  |j+2=>simp at hb)).mono ?_
 rintro e w' ⟨rfl,hb⟩;rw[ht];exact⟨_,rfl,qbM hb,qdv _ (qf4 (Nat.le_trans hle hl))⟩
end
theorem quj:∀(n:Nat) (s:List UInt8) (l:List Par) (k:Nat),s.length<=n->pars qai s=some (l,k)->l.length<=s.length/\k<=s.length:=by
 intro n
 induction n with
 |zero=>
  intro s l k hn h;have:s=[]:=List.length_eq_zero_iff.1 (by omega);subst this;rw[qfr qai [] (by simp)]at h;cases h;simp
 |succ n ih=>
  intro s l k hn h;by_cases h0:s[run qaf s]? =some 59
  ·have hlt:=(zqC.1 h0).1;obtain⟨m,hm⟩:=exz (run qaf (s.drop (run qaf s+1)));obtain⟨j,hj⟩:=exz (run qai (s.drop (run qaf s+1+m)));have hml:=qbp qaf (s.drop (run qaf s+1));rw[hm,zqI]at hml;have hjl:=qbp qai (s.drop (run qaf s+1+m));rw[hj,zqI]at hjl;by_cases hz:j=0
   ·rw[qj8 qai s _ m j rfl h0 hm hj hz]at h;cases hp:pars qai (s.drop (run qaf s+1))with
    |none=>rw[hp]at h;cases h
    |some p=>
     rw[hp]at h;simp at h;obtain⟨rfl,rfl⟩:=h;have:=ih _ p.1 p.2 (by rw[zqI];omega) hp;rw[zqI]at this;omega
   ·by_cases h1:s[run qaf s+1+m+j]? =some 61
    ·have h1l:=(zqC.1 h1).1;cases hv:pval qai (s.drop (run qaf s+1+m+j+1))with
     |none=>rw[qms qai s _ m j rfl h0 hm hj hz h1 hv]at h;cases h
     |some q=>
      have hq:=qo3 (l:=s.drop (run qaf s+1+m+j+1)) (x:=q.1) (k:=q.2) hv;rw[zqI]at hq;rw[qih qai s _ m j rfl h0 hm hj hz h1 (x:=q.1) (k:=q.2) hv]at h;cases hp:pars qai (s.drop (run qaf s+1+m+j+1+q.2))with
      |none=>rw[hp]at h;cases h
      |some p=>
       rw[hp]at h;simp at h;obtain⟨rfl,rfl⟩:=h;have:=ih _ p.1 p.2 (by rw[zqI];omega) hp;rw[zqI]at this;simp;omega
    ·rw[qii qai s _ m j rfl h0 hm hj hz h1]at h;cases hp:pars qai (s.drop (run qaf s+1+m+j))with
     |none=>rw[hp]at h;cases h
     |some p=>
      rw[hp]at h;simp at h;obtain⟨rfl,rfl⟩:=h;have:=ih _ p.1 p.2 (by rw[zqI];omega) hp;rw[zqI]at this;simp;omega
  ·rw[qfr qai s h0]at h;cases h;simp
theorem qj9(l:List UInt8):(qbe l).1.length<=l.length/\∃m:Nat,(qbe l).2.1=m/\m<=l.length:=by
 unfold qbe;cases h:pars qai l with
 |none=>exact⟨by simp,0,rfl,by omega⟩
 |some p=>
  have:=quj _ l p.1 p.2 (Nat.le_refl _) h;exact⟨this.1,p.2,rfl,this.2⟩
theorem qmw(k:Nat)(x z:AV)(h:x.free=true)(h2:z.free=true):nilV (.tup [x,.nil,z]) (.tup [x,.sl false k [],z]):=
 .inr ⟨_,_,rfl,rfl,⟨.inl rfl,.inr ⟨rfl,false,k,rfl⟩,.inl rfl,trivial⟩,by simp[h,h2]⟩
def qam(l:List UInt8):Int×List Par×Int:=
 if run qaT l=0\/254<l.length then(0,[],100)
 else if(qbe (l.drop (run qaT l))).2.2≠0\/qaJ (l.drop (run qaT l+(qbe (l.drop (run qaT l))).2.1.toNat))≠[]then(0,[],100)
 else if(qae 16 1099511627776 (l.take (run qaT l))).2≠0 then(0,[],102)
 else((qae 16 1099511627776 (l.take (run qaT l))).1,(qbe (l.drop (run qaT l))).1,0)
theorem hex1(b:UInt8):(qae 16 15 [b]).2=if qaT b=true then 0 else 11:=by
 have h:=qcy b;have hlt:=qiJ b;unfold qae;simp only[List.cons_ne_nil,if_false];have e1:qaV 16 [b]=decide (0<=dig b/\dig b<16):=by simp[qaV]
 have e2:qbf 16 [b]=dig b:=by simp[qbf]
 rw[e1,<-h,e2];cases hb:qaT b
 ·simp
 ·rw[hb]at h;have:=of_decide_eq_true h.symm;have h15:¬15<dig b:=by omega
  simp[h15]
section
variable (E:Env)(H:Hp)(Q:AV->Hp->Prop)
def szInv(l:List UInt8)(H:Hp)(fr:List AV)(H':Hp):Prop:=H'=H/\∃n:Nat,n<=l.length/\(l.take n).all qaT=true/\∃x:Nat->AV,fr=[.str l,x 1,x 2,x 3,x 4,.int .i64 n,x 6,x 7,x 8,x 9,x 10,x 11,x 12,x 13,x 14,x 15,x 16,x 17,x 18,x 19,x 20,x 21,x 22,x 23,x 24,x 25,x 26,x 27,x 28,x 29,x 30,x 31,x 32,x 33,x 34,x 35,x 36,x 37,x 38,x 39,x 40,x 41,x 42,x 43,x 44,x 45,x 46,x 47,x 48,x 49,x 50,x 51,x 52,x 53,x 54,x 55,x 56,x 57,x 58,x 59,x 60,x 61,x 62,x 63,x 64,x 65]
theorem qj6(hE:SE E)(l:List UInt8)(hl:l.length<=cap)(hQ:Q (.tup [.int .i64 (qam l).1,.sl false 3 (prs (qam l).2.1),.int .i64 (qam l).2.2]) H):PC Tryz.prog E 229 [.str l] H Q:=by
 refine qac Tryz.func229 rfl [] [] (by kernel_rfl) (fun hB=>?_);have hl':=hl;simp only[cap]at hl';simp[Tryz.ntmps229,Tryz.results229,List.replicate_succ];refine qaB (szInv l H) (fun fr _=>l.length-(ai (aget fr 5)).toNat) ⟨rfl,0,by omega,by simp,friz⟩ ?_;rintro fr H' ⟨rfl,n,hn,hall,x,rfl⟩;have hw:IntKind.i64.wrap ((n:Int)+1)=n+1:=wiz
 have hcase:(∃b,l[n]? =some b/\qaT b=true)\/(∃b,l[n]? =some b/\qaT b=false)\/l.length<=n:=by
  cases hb:l[n]? with
  |none=>exact .inr (.inr (List.getElem?_eq_none_iff.1 hb))
  |some b=>
   cases hx:qaT b
   ·exact .inr (.inl ⟨b,rfl,hx⟩)
   ·exact .inl ⟨b,rfl,hx⟩
 rcases hcase with⟨b,hb,hx⟩|⟨b,hb,hx⟩|h
 ·have h:n<l.length:=(zqC.1 hb).1;have t1:((n:Int)+1).toNat=n+1:=by omega
  have t2:(0:Int)<=n+1:=by omega
  have t3:(l.drop n).take 1=[b]:=by rw[qay l n b hb];rfl
  have t4:n+1<=l.length:=by omega
  simp[h,hw,t1,t2,t3,t4];refine qpx E _ _ [b] 15 (by simp[cap]) (by omega) (by omega) ?_;rw[hex1,hx];simp[hw];refine qaH ?_ ?_;rotate_left
  ·simp;omega
  refine⟨rfl,n+1,by omega,?_,friz⟩;rw[qa8 qaT l n b hb,hall,hx];rfl
 case' inr.inl=>
  have h:n<l.length:=(zqC.1 hb).1;have t1:((n:Int)+1).toNat=n+1:=by omega
  have t2:(0:Int)<=n+1:=by omega
  have t3:(l.drop n).take 1=[b]:=by rw[qay l n b hb];rfl
  have t4:n+1<=l.length:=by omega
  simp[h,hw,t1,t2,t3,t4];refine qpx E _ _ [b] 15 (by simp[cap]) (by omega) (by omega) ?_;rw[hex1,hx];have hr:run qaT l=n:=qby qaT l n hall hn (fun c hc=>by rw[hb]at hc;cases hc;exact hx);clear hb hx t1 t2 t3 t4 h hw;simp
 case' inr.inr=>
  have h':¬n<l.length:=by omega
  have hr:run qaT l=n:=qby qaT l n hall hn (fun c hc=>by have:=(zqC.1 hc).1;omega);simp[h'];clear h h' hw
 all_goals
  clear hall
  have bad:∀(fr:List AV) (e:Int),qam l=(0,[],e)->aget fr 2= .int .i64 0->aget fr 3= .nil->aget fr 4= .int .i64 e->qci Tryz.prog [ResultVar.tmp 2,ResultVar.tmp 3,ResultVar.tmp 4] H'.length Q .ret fr H':=fun fr e h0 h1 h2 h3=>by
   rw[h0]at hQ;exact qaw hB (v0:= .tup [.int .i64 0,.nil,.int .i64 e]) (by simp[h1,h2,h3]) (qmw 3 _ _ rfl rfl) (by simp) hQ
  by_cases hn0:n=0
  ·have ha:qam l=(0,[],100):=by unfold qam;rw[if_pos (.inl (by rw[hr];exact hn0))]
   subst hn0;simp;exact bad _ 100 ha rfl rfl rfl
  ·have e0:((n:Int)==0)=false:=by simp;omega
   by_cases hbig:254<l.length
   ·have ha:qam l=(0,[],100):=by unfold qam;rw[if_pos (.inr hbig)]
    have hbig':(254:Int)<l.length:=by omega
    simp[e0,hbig'];exact bad _ 100 ha rfl rfl rfl
   ·have hbig':¬(254:Int)<l.length:=by omega
    obtain⟨hpl,m,hm,hml⟩:=qj9 (l.drop n);rw[zqI]at hml hpl;simp[e0,hbig',hn];refine qpd E _ _ hE (l.drop n) (by rw[zqI];omega) ?_
    have ha0:qam l=if(qbe (l.drop n)).2.2≠0\/qaJ (l.drop (n+m))≠[]then(0,[],100)else if(qae 16 1099511627776 (l.take n)).2≠0 then(0,[],102)else((qae 16 1099511627776 (l.take n)).1,(qbe (l.drop n)).1,0):=by
     unfold qam;rw[hr,if_neg (by omega),hm,Int.toNat_natCast]
    rw[hm];have hw2:IntKind.i64.wrap ((n:Int)+m)=((n+m:Nat):Int):=by rw[qak (by omega) (by omega)];omega
    by_cases he:(qbe (l.drop n)).2.2=0
    ·have hnm:n+m<=l.length:=by omega
     simp[he,hw2,hnm,-Int.natCast_add];refine qgM E _ _ (l.drop (n+m)) (by rw[zqI];simp only[cap];omega) ?_;by_cases ht:qaJ (l.drop (n+m))=[]
     ·rw[ht];simp[hn];refine qpx E _ _ (l.take n) 1099511627776 (by rw[zqJ];simp only[cap];omega) (by omega) (by omega) ?_;by_cases hx:(qae 16 1099511627776 (l.take n)).2=0
      ·have ha:qam l=((qae 16 1099511627776 (l.take n)).1,(qbe (l.drop n)).1,0):=by rw[ha0,if_neg (by simp[he,ht]),if_neg (by simp[hx])]
       rw[ha]at hQ;simp[hx];exact qaw hB (v0:= .tup [.int .i64 (qae 16 1099511627776 (l.take n)).1,.sl false 3 (prs (qbe (l.drop n)).1),.int .i64 0]) (by simp) (qaa _) (by simp[qlT,-qqt]) hQ
      ·have hx2:((qae 16 1099511627776 (l.take n)).2 !=0)=true:=by simpa using hx
       have ha:qam l=(0,[],102):=by rw[ha0,if_neg (by simp[he,ht]),if_pos hx]
       simp[hx2];exact bad _ 102 ha rfl rfl rfl
     ·have ht2:(qaJ (l.drop (n+m)) !=[])=true:=by simpa using ht
      have ha:qam l=(0,[],100):=by rw[ha0,if_pos (.inr ht)]
      simp[ht2];exact bad _ 100 ha rfl rfl rfl
    ·have he2:((qbe (l.drop n)).2.2 !=0)=true:=by simpa using he
     have ha:qam l=(0,[],100):=by rw[ha0,if_pos (.inl he)]
     simp[he2];exact bad _ 100 ha rfl rfl rfl
end
def qbm(l:List UInt8):Bool:=decide (l.length<=128)&&tokB l
def never:List (List UInt8):=[[99,111,110,110,101,99,116,105,111,110],[99,111,110,116,101,110,116,45,101,110,99,111,100,105,110,103],[99,111,110,116,101,110,116,45,108,101,110,103,116,104],[99,111,110,116,101,110,116,45,114,97,110,103,101],[99,111,110,116,101,110,116,45,116,121,112,101],[101,120,112,101,99,116],[104,111,115,116],[107,101,101,112,45,97,108,105,118,101],[116,101],[116,114,97,105,108,101,114],[116,114,97,110,115,102,101,114,45,101,110,99,111,100,105,110,103],[117,112,103,114,97,100,101]]
def mayB(l:List UInt8):Bool:=qbm l&&!never.contains (low l)
section
variable (E:Env)(H:Hp)(Q:AV->Hp->Prop)
theorem qkr(hE:SE E)(l:List UInt8)(hl:l.length<=cap)(hQ:Q (.bool (qbm l)) H):PC Tryz.prog E 104 [.str l] H Q:=by
 refine qac Tryz.func104 rfl [] [] (by kernel_rfl) (fun hB=>?_);by_cases h:l.length<=128
 ·have h':(l.length:Int)<=128:=by omega
  have e:qbm l=tokB l:=by simp[qbm,h]
  rw[e]at hQ;simp[Tryz.ntmps104,Tryz.results104,List.replicate_succ,h'];refine qcb E _ _ hE l hl ?_;simp;exact aQz hB (h6:=hQ)
 ·have h':¬(l.length:Int)<=128:=by omega
  have e:qbm l=false:=by simp[qbm,h]
  rw[e]at hQ;simp[Tryz.ntmps104,Tryz.results104,List.replicate_succ,h'];exact aQz hB (h6:=hQ)
theorem qhb(hE:SE E)(l:List UInt8)(hl:l.length<=cap)(hQ:Q (.bool (mayB l)) H):PC Tryz.prog E 78 [.str l] H Q:=by
 refine qac Tryz.func78 rfl [] [] (by kernel_rfl) (fun hB=>?_);simp[Tryz.ntmps78,Tryz.results78,List.replicate_succ];refine qb3 E _ _ l hl ?_;by_cases h:low l∈never
 ·have e:mayB l=false:=by unfold mayB;rw[List.contains_iff_mem.2 h];simp
  rw[e]at hQ;simp only[never,List.mem_cons,List.not_mem_nil,or_false]at h;rcases h with h|h|h|h|h|h|h|h|h|h|h|h
  all_goals
   rw[h];simp;exact aQz hB (h6:=hQ)
 ·have e:mayB l=qbm l:=by
   unfold mayB;have:never.contains (low l)=false:=Bool.eq_false_iff.2 (fun hh=>h (List.contains_iff_mem.1 hh));rw[this];simp
  rw[e]at hQ;have hb:∀x∈never,(low l==x)=false:=fun x hx=>beq_eq_false_iff_ne.2 (fun e=>h (e▸hx));have b0:=hb [99,111,110,110,101,99,116,105,111,110] (by simp[never]);have b1:=hb [99,111,110,116,101,110,116,45,101,110,99,111,100,105,110,103] (by simp[never]);have b2:=hb [99,111,110,116,101,110,116,45,108,101,110,103,116,104] (by simp[never]);have b3:=hb [99,111,110,116,101,110,116,45,114,97,110,103,101] (by simp[never]);have b4:=hb [99,111,110,116,101,110,116,45,116,121,112,101] (by simp[never]);have b5:=hb [101,120,112,101,99,116] (by simp[never]);have b6:=hb [104,111,115,116] (by simp[never]);have b7:=hb [107,101,101,112,45,97,108,105,118,101] (by simp[never]);have b8:=hb [116,101] (by simp[never]);have b9:=hb [116,114,97,105,108,101,114] (by simp[never]);have b10:=hb [116,114,97,110,115,102,101,114,45,101,110,99,111,100,105,110,103] (by simp[never]);have b11:=hb [117,112,103,114,97,100,101] (by simp[never]);clear hb h e;simp[b0,b1,b2,b3,b4,b5,b6,b7,b8,b9,b10,b11];refine qkr E _ _ hE l hl ?_;simp;exact aQz hB (h6:=hQ)
end
structure Fld where
 name:List UInt8
 value:List UInt8
deriving DecidableEq
def ncol(b:UInt8):Bool:=b !=58
def qbE(l:List UInt8):Option Fld:=
 if run ncol l<l.length/\qbm (l.take (run ncol l))=true/\fldB (l.drop (run ncol l+1))=true/\(qaJ (l.drop (run ncol l+1))).length<=8192 then some ⟨l.take (run ncol l),qaJ (l.drop (run ncol l+1))⟩else none
theorem qcJ(l:List UInt8):Lib.indexByte l 58=if run ncol l<l.length then(run ncol l:Int)else-1:=by
 unfold run
 induction l with
 |nil=>rfl
 |cons a r ih=>
  unfold Lib.indexByte;rw[List.takeWhile_cons];by_cases h:a=58
  ·subst h;rfl
  ·have h1:(a==58)=false:=by simpa using h
   have h2:ncol a=true:=by simp[ncol,h]
   rw[h1,if_pos h2,ih];have hle:(r.takeWhile ncol).length<=r.length:=qbp ncol r;by_cases hh:(r.takeWhile ncol).length<r.length
   ·rw[if_pos hh];have h3:(((r.takeWhile ncol).length:Int)== -1)=false:=by rw[beq_eq_false_iff_ne];omega
    simp[h3,hh]
   ·rw[if_neg hh];simp[hh]
theorem qgy(a:UInt8):(0<=Lib.indexByte [32,9] a)=(qaf a=true):=by
 unfold Lib.indexByte qaf;by_cases h1:a=32
 ·subst h1;decide
 ·by_cases h2:a=9
  ·subst h2;decide
  ·have e1:((32:UInt8)==a)=false:=by rw[beq_eq_false_iff_ne];exact fun e=>h1 e.symm
   have e2:((9:UInt8)==a)=false:=by rw[beq_eq_false_iff_ne];exact fun e=>h2 e.symm
   simp[e1,e2,h1,h2,Lib.indexByte]
theorem qia(a:UInt8)(h:qaf a=true):qai a=false:=by
 unfold qaf at h;simp at h;rcases h with rfl|rfl<;>decide
theorem qi9{l:List UInt8}(h:qbm (l.take (run ncol l))=false):qbE l=none:=by unfold qbE;rw[if_neg (by rw[h];simp)]
theorem qeV{l:List UInt8}(h:l.length<=run ncol l):qbE l=none:=by unfold qbE;rw[if_neg (by omega)]
theorem qkc:qbm []=false:=by decide
theorem qew{l:List UInt8}(h:run ncol l=0):qbE l=none:=qi9 (by rw[h,List.take_zero];exact qkc)
theorem qfw{l:List UInt8}{i:Nat}{b:UInt8}(hi:i<run ncol l)(hb:l[i]? =some b)(hs:qai b=false):qbE l=none:=by
 apply qi9;unfold qbm tokB;rw[qd3 qai (l.take (run ncol l)) i b (by rw[zqG hi];exact hb) hs];simp
theorem qix{l:List UInt8}(hi:128<run ncol l):qbE l=none:=by
 apply qi9;have:=qbp ncol l;unfold qbm;rw[decide_eq_false (by rw[zqJ];omega)];rfl
theorem qkl{l:List UInt8}(h:fldB (l.drop (run ncol l+1))=false):qbE l=none:=by unfold qbE;rw[if_neg (by rw[h];simp)]
theorem qkm{l:List UInt8}(h:8192<(qaJ (l.drop (run ncol l+1))).length):qbE l=none:=by unfold qbE;rw[if_neg (by omega)]
section
variable (E:Env)(H:Hp)(Q:AV->Hp->Prop)
def qtc(l:List UInt8)(H:Hp)(fr:List AV)(H':Hp):Prop:=H'=H++[[.str [],.str []]]/\∃i:Nat,i<=run ncol l/\i<=128/\(l.take i).all qai=true/\∃x:Nat->AV,fr=[.str l,x 1,.ptr (some (H.length,0)),x 3,x 4,.int .i64 (run ncol l:Nat),x 6,x 7,x 8,x 9,x 10,x 11,x 12,x 13,x 14,x 15,x 16,x 17,x 18,x 19,x 20,x 21,x 22,x 23,x 24,x 25,x 26,x 27,x 28,x 29,x 30,x 31,.int .i64 (run ncol l:Nat),.int .i64 i,x 34,x 35,x 36,x 37,x 38,x 39,x 40,x 41,x 42,x 43,x 44,x 45,x 46,x 47,x 48,x 49,x 50,x 51,x 52,x 53,x 54,x 55,x 56,x 57,x 58,x 59,x 60,x 61,x 62,x 63,x 64,x 65,x 66,x 67,x 68,x 69,x 70,x 71,x 72,x 73,x 74,x 75,x 76,x 77,x 78,x 79,x 80,x 81,x 82,x 83,x 84,x 85,x 86,x 87,x 88,x 89,x 90,x 91,x 92]
def qtb(l:List UInt8)(H:Hp)(fr:List AV)(H':Hp):Prop:=H'=H++[[.str [],.str []]]/\∃i:Nat,run ncol l+1<=i/\i<=l.length/\fldB ((l.drop (run ncol l+1)).take (i-(run ncol l+1)))=true/\∃x:Nat->AV,fr=[.str l,x 1,.ptr (some (H.length,0)),x 3,x 4,.int .i64 (run ncol l:Nat),x 6,.int .i64 i,x 8,x 9,x 10,x 11,x 12,x 13,x 14,x 15,x 16,x 17,x 18,x 19,x 20,x 21,x 22,x 23,x 24,x 25,x 26,x 27,x 28,x 29,x 30,x 31,x 32,x 33,x 34,x 35,x 36,x 37,x 38,x 39,x 40,x 41,x 42,x 43,x 44,x 45,x 46,x 47,x 48,x 49,x 50,x 51,x 52,x 53,x 54,x 55,x 56,x 57,x 58,x 59,x 60,x 61,x 62,x 63,x 64,x 65,x 66,x 67,x 68,x 69,x 70,x 71,x 72,x 73,x 74,x 75,x 76,x 77,x 78,x 79,x 80,x 81,x 82,x 83,x 84,x 85,x 86,x 87,x 88,x 89,x 90,x 91,x 92]
theorem qj7(hE:SE E)(l:List UInt8)(hl:l.length<=cap)(hQ1:∀f,qbE l=some f->Q (.tup [.agg [.str f.name,.str f.value],.int .i64 0,.int .i64 0]) H)(hQ2:qbE l=none->∀pl e,e≠0->Q (.tup [.agg [.str [],.str []],.int .i64 pl,.int .i64 e]) H):
  PC Tryz.prog E 167 [.str l] H Q:=by
 refine qac Tryz.func167 rfl [] [] (by kernel_rfl) (fun hB=>?_);have hl':=hl;simp only[cap]at hl';obtain⟨c,hc⟩:=exz (run ncol l);have hcl:=qbp ncol l;rw[hc]at hcl;have hib:=qcJ l;rw[hc]at hib
 have bad:∀(fr:List AV) (pl e:Int),qbE l=none->e≠0->aget fr 2= .ptr (some (H.length,0))->aget fr 3= .int .i64 pl->aget fr 4= .int .i64 e->qci Tryz.prog [ResultVar.cell 2 65,ResultVar.tmp 3,ResultVar.tmp 4] H.length Q .ret fr (H++[[.str [],.str []]]):=fun fr pl e h0 he h2 h3 h4=>
  qab hB (v0:= .tup [.agg [.str [],.str []],.int .i64 pl,.int .i64 e]) (by simp[h2,h3,h4]) (qaa _) (by simp) (hQ2 h0 pl e he)
 have hcase:l=[]\/(∃a r,l=a::r/\qaf a=true)\/(∃a r,l=a::r/\qaf a=false):=by
  cases l with
  |nil=>exact .inl rfl
  |cons a r=>
   cases hb:qaf a
   ·exact .inr (.inr ⟨a,r,rfl,hb⟩)
   ·exact .inr (.inl ⟨a,r,rfl,hb⟩)
 rcases hcase with rfl|⟨a,r,rfl,hb⟩|⟨a,r,hl0,hb⟩
 ·simp[Tryz.ntmps167,Tryz.results167,List.replicate_succ];refine qaF E _ _ [] 58 ?_;have e0:Lib.indexByte [] 58= -1:=rfl;rw[e0];simp;exact bad _ 0 62 (by decide) (by decide) rfl rfl rfl
 ·have hc0:qbE (a::r)=none:=by
   by_cases hz:c=0
   ·exact qew (by rw[hc];exact hz)
   ·exact qfw (i:=0) (b:=a) (by omega) rfl (qia a hb)
  have hib2:0<=Lib.indexByte [32,9] a:=by rw[qgy];exact hb
  have hne:(a::r !=[])=true:=rfl;simp[Tryz.ntmps167,Tryz.results167,List.replicate_succ,hne];refine qaF E _ _ [32,9] a ?_;simp[hib2];exact bad _ 0 63 hc0 (by decide) rfl rfl rfl
 ·have hib2:¬0<=Lib.indexByte [32,9] a:=by rw[qgy,hb];simp
  have hne:(l !=[])=true:=by rw[hl0];rfl
  have hl1:0<l.length:=by rw[hl0];simp
  have hla:lat l 0=some a:=by rw[hl0];rfl
  simp[Tryz.ntmps167,Tryz.results167,List.replicate_succ,hne,hl1,hla];refine qaF E _ _ [32,9] a ?_;simp[hib2];refine qaF E _ _ l 58 ?_;rw[hib];clear hib2 hne hla hl0 hib;by_cases hcc:c<l.length;rotate_left
  ·have hno:=qeV (l:=l) (by omega);simp[hcc];exact bad _ l.length 62 hno (by decide) rfl rfl rfl
  ·by_cases hz:c=0
   ·have hno:=qew (l:=l) (by omega);subst hz;simp[hcc];exact bad _ 0 60 hno (by decide) rfl rfl rfl
   ·have hz2:((c:Int)==0)=false:=by simp;omega
    simp[hcc,hz,hz2];subst hc;refine qaB (qtc l H) (fun fr _=>run ncol l-(ai (aget fr 33)).toNat) ⟨rfl,0,by omega,by omega,by simp,friz⟩ ?_;rintro fr H' ⟨rfl,i,hi,hi2,hall,x,rfl⟩;by_cases h:i<run ncol l
    ·obtain⟨b,hbi⟩:∃b,l[i]? =some b:=⟨_,zqD (by omega)⟩
     by_cases h128:128<=i
     ·have hno:=qix (l:=l) (by omega);have h128':(128:Int)<=i:=by omega
      simp[h,h128'];exact bad _ i 60 hno (by decide) rfl rfl rfl
     ·have h128':¬(128:Int)<=i:=by omega
      have hw:IntKind.i64.wrap ((i:Int)+1)=i+1:=wiz;have t1:((i:Int)+1).toNat=i+1:=by omega
      have t2:(0:Int)<=i+1:=by omega
      have t3:(l.drop i).take 1=[b]:=by rw[qay l i b hbi];rfl
      have t4:i+1<=l.length:=by omega
      have ht:tokB [b]=qai b:=by simp[tokB]
      simp[h,h128',hw,t1,t2,t3,t4];refine qcb E _ _ hE [b] (by simp[cap]) ?_;rw[ht];cases hs:qai b with
      |false=>
       have hno:=qfw h hbi hs;simp;exact bad _ i 60 hno (by decide) rfl rfl rfl
      |true=>
       simp[hw];refine qaH ?_ ?_;rotate_left
       ·simp;omega
       refine⟨rfl,i+1,by omega,by omega,?_,friz⟩;rw[qa8 qai l i b hbi,hall,hs];rfl
    ·obtain rfl:i=run ncol l:=by omega
     have hnm:qbm (l.take (run ncol l))=true:=by
      unfold qbm tokB;rw[hall,decide_eq_true (by rw[zqJ];omega)];have:l.take (run ncol l)≠[]:=by intro e;have h2:=congrArg List.length e;rw[zqJ]at h2;have h3:min (run ncol l) l.length=0:=h2;omega
      cases he:l.take (run ncol l)with
      |nil=>exact absurd he this
      |cons _ _=>rfl
     have hw1:IntKind.i64.wrap (((run ncol l:Nat):Int)+1)=((run ncol l+1:Nat):Int):=by rw[qak (by omega) (by omega)];omega
     clear hall;simp[h,hw1,-Int.natCast_add];refine qaB (qtb l H) (fun fr _=>l.length-(ai (aget fr 7)).toNat) ⟨rfl,run ncol l+1,by omega,by omega,by rw[Nat.sub_self,List.take_zero];rfl,friz⟩ ?_;clear hw1;rintro fr H' ⟨rfl,i,hi1,hi2,hall,x,rfl⟩;by_cases h:i<l.length
     ·obtain⟨b,hbi⟩:∃b,l[i]? =some b:=⟨_,zqD h⟩
      have hbd:(l.drop (run ncol l+1))[i-(run ncol l+1)]? =some b:=by rw[zqN,show run ncol l+1+(i-(run ncol l+1))=i by omega];exact hbi
      have hw:IntKind.i64.wrap ((i:Int)+1)=i+1:=wiz;have t1:((i:Int)+1).toNat=i+1:=by omega
      have t2:(0:Int)<=i+1:=by omega
      have t3:(l.drop i).take 1=[b]:=by rw[qay l i b hbi];rfl
      have t4:i+1<=l.length:=by omega
      have ht:fldB [b]=fcB b:=by simp[fldB]
      simp[h,hw,t1,t2,t3,t4];refine qex E _ _ [b] (by simp[cap]) ?_;rw[ht];cases hs:fcB b with
      |false=>
       have hno:=qkl (l:=l) (qd3 fcB _ _ b hbd hs);simp;exact bad _ i 61 hno (by decide) rfl rfl rfl
      |true=>
       simp[hw];refine qaH ?_ ?_;rotate_left
       ·simp;omega
       refine⟨rfl,i+1,by omega,by omega,?_,friz⟩;rw[show i+1-(run ncol l+1)=(i-(run ncol l+1))+1 by omega];unfold fldB at hall⊢;rw[qa8 fcB _ _ b hbd,hall,hs];rfl
     ·obtain rfl:i=l.length:=by omega
      have hfl:fldB (l.drop (run ncol l+1))=true:=by rw[zqE (by rw[zqI];omega)]at hall;exact hall
      clear hall h;obtain⟨c,hc⟩:=exz (run ncol l);rw[hc]at hcl hcc hz hz2 hnm hfl hi1;have hw1:IntKind.i64.wrap ((c:Int)+1)=((c+1:Nat):Int):=by rw[qak (by omega) (by omega)];omega
      have t4:c+1<=l.length:=by omega
      simp[hc,hw1,t4,-Int.natCast_add];refine qgM E _ _ (l.drop (c+1)) (by rw[zqI];simp only[cap];omega) ?_;by_cases hbig:8192<(qaJ (l.drop (c+1))).length
      ·have hbig':(8192:Int)<(qaJ (l.drop (c+1))).length:=by omega
       have hno:=qkm (l:=l) (by rw[hc];exact hbig);simp[hbig'];refine qk7 E _ _ (l.drop (c+1)) (by rw[zqI];simp only[cap];omega) (fun y hy=>?_);simp;exact bad _ _ 61 hno (by decide) rfl rfl rfl
      ·have hbig':¬(8192:Int)<(qaJ (l.drop (c+1))).length:=by omega
       have hyes:qbE l=some ⟨l.take c,qaJ (l.drop (c+1))⟩:=by
        unfold qbE;rw[hc,if_pos ⟨hcc,hnm,hfl,by omega⟩]
       simp[hbig',hcl];exact qab hB (v0:= .tup [.agg [.str (l.take c),.str (qaJ (l.drop (c+1)))],.int .i64 0,.int .i64 0]) (by simp) (qaa _) (by simp) (hQ1 _ hyes)
end
theorem qbn{H:Hp}(hB:BndH H.length H)(c:Nat){l:List AV}(hl:∀x∈l,Bnd H.length x):BndH (H.set c l).length (H.set c l):=by
 intro m hm x hx;rw[List.length_set];rcases List.mem_or_eq_of_mem_set hm with h|h
 ·exact hB m h x hx
 ·rw[h]at hx;exact hl x hx
theorem qfM{P:Program}{rs:List ResultVar}{Q:AV->Hp->Prop}{fr:List AV}{H J:Hp}{v0 v:AV}{c:Nat}{l:List AV}(hB:BndH H.length H)(h1:ares P fr (H.set c l++J) rs=some v0)(h2:nilV v0 v)(hl:∀x∈l,Bnd H.length x)(h5:Bnd H.length v)(h6:Q v (H.set c l)):
  qci P rs H.length Q .ret fr (H.set c l++J):=qqP h1 h2 (by simp) (qbn hB c hl) (by simpa using h5) h6
theorem qaQ{P:Program}{rs:List ResultVar}{Q:AV->Hp->Prop}{fr:List AV}{H:Hp}{v0 v:AV}{c:Nat}{l:List AV}(hB:BndH H.length H)(h1:ares P fr (H.set c l) rs=some v0)(h2:nilV v0 v)(hl:∀x∈l,Bnd H.length x)(h5:Bnd H.length v)(h6:Q v (H.set c l)):
  qci P rs H.length Q .ret fr (H.set c l):=by
 have:=qfM (J:=[]) (P:=P) (rs:=rs) (Q:=Q) (fr:=fr) hB (by rw[List.append_nil];exact h1) h2 hl h5 h6;rwa[List.append_nil]at this
section
variable {H:Hp}{c:Nat}(h:c<H.length)
include h
theorem hs0(J:Hp):(H++J)[c]? =H[c]? :=zqA h
theorem hs1(x:List AV)(J:Hp):(H.set c x++J)[c]? =some x:=by rw[zqA (by simpa using h),zqO h]
theorem hs2(x y:List AV)(J:Hp):(H.set c x++J).set c y=H.set c y++J:=by rw[List.set_append_left _ _ (by simpa using h),List.set_set]
theorem hs3(y:List AV)(J:Hp):(H++J).set c y=H.set c y++J:=List.set_append_left _ _ h
theorem hs4(x:List AV):(H.set c x)[c]? =some x:=zqO h
theorem hs5(x y:List AV):(H.set c x).set c y=H.set c y:=List.set_set ..
end
theorem qe3{P:Program}{rs:List ResultVar}{Q:AV->Hp->Prop}{fr:List AV}{H J:Hp}{v:AV}{c:Nat}{l l':List AV}(hB:BndH H.length H)(hc:c<H.length)(hn:nilL l l')(h1:ares P fr (H.set c l++J) rs=some v)(hl:∀x∈l',Bnd H.length x)(h5:Bnd H.length v)(h6:Q v (H.set c l')):
  qci P rs H.length Q .ret fr (H.set c l++J):=by
 refine⟨v,v,H.set c l'++J,H.set c l',J,h1,qaa _,?_,rfl,by simp,qbn hB c hl,by simpa using h5,h6⟩;have:=qc8 (H.set c l++J) c l l' (hs1 hc _ _) hn;rw[hs2 hc]at this;exact this
theorem qaP{P:Program}{rs:List ResultVar}{Q:AV->Hp->Prop}{fr:List AV}{H:Hp}{v:AV}{c:Nat}{l l':List AV}(hB:BndH H.length H)(hc:c<H.length)(hn:nilL l l')(h1:ares P fr (H.set c l) rs=some v)(hl:∀x∈l',Bnd H.length x)(h5:Bnd H.length v)(h6:Q v (H.set c l')):
  qci P rs H.length Q .ret fr (H.set c l):=by
 have:=qe3 (J:=[]) (P:=P) (rs:=rs) (Q:=Q) (fr:=fr) hB hc hn (by rw[List.append_nil];exact h1) hl h5 h6;rwa[List.append_nil]at this
def flds(l:List Fld):List (List AV):=l.map fun f=>[.str f.name,.str f.value]
@[simp] theorem qdW (l:List Fld):(flds l).length=l.length:=by simp[flds]
theorem qej(l:List Fld)(f:Fld):flds l++[[.str f.name,.str f.value]]=flds (l++[f]):=by simp[flds]
theorem qdj{l:List Fld}{i:Nat}{f:Fld}(h:l[i]? =some f):lat (flds l) i=some [.str f.name,.str f.value]:=by simp[lat,flds,h]
theorem qdd{N:Nat}(o k)(l:List Fld):Bnd N (.sl o k (flds l)):= .sl _ _ _ fun r hr x hx=>by
 obtain⟨c,_,rfl⟩:=List.mem_map.1 hr;simp at hx;rcases hx with rfl|rfl<;>exact .str _
@[simp] theorem bnd_flds' {N:Nat} (l:List Fld):(∀r∈flds l,∀x∈r,Bnd N x)=True:=eq_true fun r hr x hx=>by
 obtain⟨c,_,rfl⟩:=List.mem_map.1 hr;simp at hx;rcases hx with rfl|rfl<;>exact .str _
@[simp] theorem bnd_bts' {N:Nat} (l:List UInt8):(∀r∈bts l,∀x∈r,Bnd N x)=True:=eq_true (qlU l)
theorem qfi{H:Hp}{i:Nat}{l:List AV}(h:H[i]? =some l):H.set i l=H:=by
 apply List.ext_getElem?;intro j;by_cases hj:i=j
 ·subst hj;rw[zqO (zqC.1 h).1,h]
 ·rw[zqF hj]
theorem qdl(b:UInt8)(n:Nat)(hn:n<256)(h:b≠UInt8.ofNat n):((b.toNat:Int)==n)=false:=by
 rw[beq_eq_false_iff_ne];exact fun e=>h (UInt8.toNat_inj.1 (by rw[UInt8.toNat_ofNat',Nat.mod_eq_of_lt hn];omega))
inductive Stg where
 |size|data|first|second|trailer
deriving DecidableEq
def Stg.fid:Stg->FuncId
 | .size=>217
 | .data=>231
 | .first=>239
 | .second=>246
 | .trailer=>230
structure Dec where
 most:Int
 room:Int
 fields:Int
 st:Stg
 line:List UInt8
 left:Int
 body:List UInt8
 trailers:List Fld
 section_:Nat
 total:Nat
 done:Bool
 err:Int
deriving DecidableEq
def Dec.av(d:Dec):List AV:=[.int .i64 d.most,.int .i64 d.room,.int .i64 d.fields,.fn d.st.fid [],.sl true 1 (bts d.line),.int .i64 d.left,.sl true 1 (bts d.body),.sl true 2 (flds d.trailers),.int .i64 d.section_,.int .i64 d.total,.bool d.done,.int .i64 d.err]
theorem Dec.bnd(d:Dec)(N:Nat):∀x∈d.av,Bnd N x:=by
 intro x hx;simp[Dec.av]at hx;rcases hx with rfl|rfl|rfl|rfl|rfl|rfl|rfl|rfl|rfl|rfl|rfl|rfl<;>simp
def endL(l:List UInt8):Option (List UInt8):=if 2<=l.length/\l.drop (l.length-2)=[13,10]then some (l.take (l.length-2))else none
def qfQ(d:Dec)(b:UInt8):Dec×Int:=
 if b≠10 then({d with line:=d.line++[b]},if 256<=(d.line++[b]).length then 100 else 0)
 else match endL (d.line++[b])with
  |none=>({d with line:=[]},100)
  |some s=>if(qam s).2.2≠0 then({d with line:=[]},(qam s).2.2)
   else if d.most-d.body.length<(qam s).1 then({d with line:=[]},102)
   else if(qam s).1=0 then({d with line:=[],st:= .trailer},0)
   else({d with line:=[],left:=(qam s).1,st:= .data},0)
def qhz(d:Dec)(b:UInt8):Dec×Int:=(if d.left=1 then{d with body:=d.body++[b],left:=0,st:= .first}else{d with body:=d.body++[b],left:=d.left-1},0)
def qeM(d:Dec)(b:UInt8):Dec×Int:=if b≠13 then(d,100)else({d with st:= .second},0)
def qdg(d:Dec)(b:UInt8):Dec×Int:=if b≠10 then(d,100)else({d with st:= .size},0)
def qbr(d:Dec)(b:UInt8):Dec×Int:=
 if d.room<=d.section_ then(d,104)
 else if b≠10 then({d with section_:=d.section_+1,line:=d.line++[b]},0)
 else match endL (d.line++[b])with
  |none=>({d with section_:=d.section_+1,line:=[]},101)
  |some s=>if s=[]then({d with section_:=d.section_+1,line:=[],done:=true},0)
   else if d.fields<=d.trailers.length then({d with section_:=d.section_+1,line:=[]},104)
   else match qbE s with
    |none=>({d with section_:=d.section_+1,line:=[]},101)
    |some f=>if mayB f.name=true then({d with section_:=d.section_+1,line:=[],trailers:=d.trailers++[f]},0)else({d with section_:=d.section_+1,line:=[]},101)
section
variable (E:Env)(H:Hp)(Q:AV->Hp->Prop)(i:Nat)(d:Dec)(hd:H[i]? =some d.av)
include hd
theorem qgp:i<H.length:=(zqC.1 hd).1
theorem qmR(hl:d.line.length<=1073741824)(hQ:Q (match endL d.line with|some s=> .tup [.str s,.bool true]|none=> .tup [.str [],.bool false]) (H.set i ({d with line:=[]}:Dec).av)):
  PC Tryz.prog E 228 [.ptr (some (i,0))] H Q:=by
 have hlt:=qgp H i d hd;refine qac Tryz.func228 rfl [] [] (by kernel_rfl) (fun hB=>?_);have hw:IntKind.i64.wrap ((d.line.length:Int)-2)=d.line.length-2:=wiz;have hm:d.line.length<=maxLen:=by unfold maxLen;omega
 simp[Dec.av]at hd;simp[Tryz.ntmps228,Tryz.results228,List.replicate_succ,hd,hs0 hlt,hs1 hlt,hs2 hlt,hs3 hlt,hs4 hlt,hs5 hlt,hm,hw]
 have hn:nilL [AV.int .i64 d.most,.int .i64 d.room,.int .i64 d.fields,.fn d.st.fid [],.nil,.int .i64 d.left,.sl true 1 (bts d.body),.sl true 2 (flds d.trailers),.int .i64 d.section_,.int .i64 d.total,.bool d.done,.int .i64 d.err] ({d with line:=[]}:Dec).av:=
  ⟨.inl rfl,.inl rfl,.inl rfl,.inl rfl,.inr ⟨rfl,true,1,rfl⟩,.inl rfl,.inl rfl,.inl rfl,.inl rfl,.inl rfl,.inl rfl,.inl rfl,trivial⟩
 by_cases h2:2<=d.line.length
 ·have h2':(2:Int)<=d.line.length:=by omega
  have t1:(0:Int)<=d.line.length-2:=by omega
  have t2:((d.line.length:Int)-2).toNat=d.line.length-2:=by omega
  have t3:d.line.length-2<=d.line.length:=by omega
  by_cases he:d.line.drop (d.line.length-2)=[13,10]
  ·have hE:endL d.line=some (d.line.take (d.line.length-2)):=if_pos ⟨h2,he⟩;rw[hE]at hQ;have he1:(d.line.drop (d.line.length-2)==[13,10])=true:=beq_iff_eq.2 he;simp[h2',t1,t2,t3,he1,h2];exact qaP hB hlt hn (by simp) (({d with line:=[]}:Dec).bnd _) (by simp) hQ
  ·have hE:endL d.line=none:=if_neg (fun h=>he h.2);have he2:(d.line.drop (d.line.length-2)==[13,10])=false:=beq_eq_false_iff_ne.2 he;rw[hE]at hQ;simp[h2',t1,t2,t3,he2,h2];exact qaP hB hlt hn (by simp) (({d with line:=[]}:Dec).bnd _) (by simp) hQ
 ·have h2':¬(2:Int)<=d.line.length:=by omega
  have hE:endL d.line=none:=if_neg (fun h=>h2 h.1);rw[hE]at hQ;simp[h2'];exact qaP hB hlt hn (by simp) (({d with line:=[]}:Dec).bnd _) (by simp) hQ
variable (b:UInt8)
theorem qsj(hQ:Q (.int .i64 (qeM d b).2) (H.set i (qeM d b).1.av)):PC Tryz.prog E 239 [.ptr (some (i,0)),.int .u8 (b.toNat:Int)] H Q:=by
 have hlt:=qgp H i d hd;have hself:H.set i d.av=H:=qfi hd;refine qac Tryz.func239 rfl [] [] (by kernel_rfl) (fun hB=>?_);by_cases hb:b=13
 ·subst hb;have e:qeM d 13=({d with st:= .second},0):=rfl;rw[e]at hQ;simp[Dec.av]at hd;simp[Tryz.ntmps239,Tryz.results239,List.replicate_succ,hd,hs0 hlt,hs1 hlt,hs2 hlt,hs3 hlt,hs4 hlt,hs5 hlt];exact qaQ hB rfl (qaa _) (({d with st:= .second}:Dec).bnd _) (by simp) hQ
 ·have e:qeM d b=(d,100):=if_pos hb;have hb2:((b.toNat:Int)==13)=false:=qdl b 13 (by decide) hb;rw[e]at hQ;simp only[hself]at hQ;simp[Tryz.ntmps239,Tryz.results239,List.replicate_succ,bne,hb2];exact aQz hB (h6:=hQ)
theorem qoQ(hQ:Q (.int .i64 (qdg d b).2) (H.set i (qdg d b).1.av)):PC Tryz.prog E 246 [.ptr (some (i,0)),.int .u8 (b.toNat:Int)] H Q:=by
 have hlt:=qgp H i d hd;have hself:H.set i d.av=H:=qfi hd;refine qac Tryz.func246 rfl [] [] (by kernel_rfl) (fun hB=>?_);by_cases hb:b=10
 ·subst hb;have e:qdg d 10=({d with st:= .size},0):=rfl;rw[e]at hQ;simp[Dec.av]at hd;simp[Tryz.ntmps246,Tryz.results246,List.replicate_succ,hd,hs0 hlt,hs1 hlt,hs2 hlt,hs3 hlt,hs4 hlt,hs5 hlt];exact qaQ hB rfl (qaa _) (({d with st:= .size}:Dec).bnd _) (by simp) hQ
 ·have e:qdg d b=(d,100):=if_pos hb;have hb2:((b.toNat:Int)==10)=false:=qdl b 10 (by decide) hb;rw[e]at hQ;simp only[hself]at hQ;simp[Tryz.ntmps246,Tryz.results246,List.replicate_succ,bne,hb2];exact aQz hB (h6:=hQ)
theorem qu0(hl:d.body.length<=1073741824)(hlf:1<=d.left/\d.left<=1099511627776)(hQ:Q (.int .i64 (qhz d b).2) (H.set i (qhz d b).1.av)):PC Tryz.prog E 231 [.ptr (some (i,0)),.int .u8 (b.toNat:Int)] H Q:=by
 have hlt:=qgp H i d hd;refine qac Tryz.func231 rfl [9] [] (by kernel_rfl) (fun hB=>?_);have hw:IntKind.i64.wrap (d.left-1)=d.left-1:=wiz;have m1:d.body.length+1<=maxLen:=by unfold maxLen;omega
 have m2:d.body.length+1<=140737488355328:=by omega
 simp[Dec.av]at hd;by_cases h1:d.left=1
 ·have e:qhz d b=({d with body:=d.body++[b],left:=0,st:= .first},0):=by unfold qhz;rw[if_pos h1]
  rw[e]at hQ;have hw1:IntKind.i64.wrap 0=0:=rfl;simp[Tryz.ntmps231,Tryz.results231,List.replicate_succ,hd,hs0 hlt,hs1 hlt,hs2 hlt,hs3 hlt,hs4 hlt,hs5 hlt,m1,m2,h1,hw1,qcM];exact qaQ hB rfl (qaa _) (({d with body:=d.body++[b],left:=0,st:= .first}:Dec).bnd _) (by simp) hQ
 ·have e:qhz d b=({d with body:=d.body++[b],left:=d.left-1},0):=by unfold qhz;rw[if_neg h1]
  rw[e]at hQ;have h0:(d.left-1==0)=false:=by rw[beq_eq_false_iff_ne];omega
  simp[Tryz.ntmps231,Tryz.results231,List.replicate_succ,hd,hs0 hlt,hs1 hlt,hs2 hlt,hs3 hlt,hs4 hlt,hs5 hlt,m1,m2,hw,h0,qcM];exact qaQ hB rfl (qaa _) (({d with body:=d.body++[b],left:=d.left-1}:Dec).bnd _) (by simp) hQ
end
theorem qeP(l:List UInt8)(h:(qam l).2.2=0):0<=(qam l).1/\(qam l).1<=1099511627776:=by
 unfold qam at h⊢;split at h
 ·simp at h
 ·rename_i h1;rw[if_neg h1];split at h
  ·simp at h
  ·rename_i h2;rw[if_neg h2];split at h
   ·simp at h
   ·rename_i h3;rw[if_neg h3];simp only[ne_eq,Decidable.not_not]at h3;simp only;unfold qae at h3⊢;split at h3
    ·simp at h3
    ·rename_i g1;rw[if_neg g1];split at h3
     ·simp at h3
     ·rename_i g2;rw[if_neg g2];split at h3
      ·simp at h3
      ·rename_i g3;rw[if_neg g3];have:=qbw 16 (by omega) _ (by simpa using g2);simp only;omega
section
variable (E:Env)(H:Hp)(Q:AV->Hp->Prop)(i:Nat)(d:Dec)(hd:H[i]? =some d.av)(b:UInt8)
include hd
theorem qt1(hE:SE E)(hl:d.line.length<=1000000000)(hbl:d.body.length<=1073741824)(hm:0<=d.most/\d.most<=9223372036854775807)(hQ:Q (.int .i64 (qfQ d b).2) (H.set i (qfQ d b).1.av)):PC Tryz.prog E 217 [.ptr (some (i,0)),.int .u8 (b.toNat:Int)] H Q:=by
 have hlt:=qgp H i d hd;refine qac Tryz.func217 rfl [14] [] (by kernel_rfl) (fun hB=>?_);have m1:d.line.length+1<=maxLen:=by unfold maxLen;omega
 have m2:d.line.length+1<=140737488355328:=by omega
 simp[Dec.av]at hd;by_cases hb:b=10
 ·subst hb
  have e0:qfQ d 10=(match endL (d.line++[10])with
   |none=>({d with line:=[]},100)
   |some s=>if(qam s).2.2≠0 then({d with line:=[]},(qam s).2.2)
    else if d.most-d.body.length<(qam s).1 then({d with line:=[]},102)
    else if(qam s).1=0 then({d with line:=[],st:= .trailer},0)
    else({d with line:=[],left:=(qam s).1,st:= .data},0)):=rfl
  rw[e0]at hQ;clear e0;have hb10:[AV.int .u8 10]=[AV.int .u8 ((10:UInt8).toNat:Int)]:=rfl;have hsn:bts d.line++[[AV.int .u8 10]]=bts (d.line++[10]):=qcM d.line 10;simp[Tryz.ntmps217,Tryz.results217,List.replicate_succ,hd,hs0 hlt,hs1 hlt,hs2 hlt,hs3 hlt,hs4 hlt,hs5 hlt,m1,m2,hsn];refine qmR E _ _ i {d with line:=d.line++[10]} (by rw[zqO hlt];rfl) (by simp;omega) ?_;cases hend:endL (d.line++[10])with
  |none=>
   rw[hend]at hQ;simp;exact qaQ hB rfl (qaa _) (({d with line:=[]}:Dec).bnd _) (by simp) hQ
  |some s=>
   rw[hend]at hQ;simp only at hQ
   have hsl:s.length<=cap:=by
    unfold endL at hend;split at hend
    ·cases hend;rw[zqJ,zqK];simp only[cap];simp;omega
    ·cases hend
   simp;refine qj6 E _ _ hE s hsl ?_;by_cases he:(qam s).2.2=0
   ·rw[if_neg (by simpa using he)]at hQ;have hrg:=qeP s he;have hw:IntKind.i64.wrap (d.most-d.body.length)=d.most-d.body.length:=wiz;by_cases hmu:d.most-d.body.length<(qam s).1
    ·rw[if_pos hmu]at hQ;simp[he,Dec.av,hs0 hlt,hs1 hlt,hs2 hlt,hs3 hlt,hs4 hlt,hs5 hlt,hw,hmu];exact qaQ hB rfl (qaa _) (({d with line:=[]}:Dec).bnd _) (by simp) hQ
    ·rw[if_neg hmu]at hQ;by_cases hz:(qam s).1=0
     ·rw[if_pos hz]at hQ;rw[hz]at hmu;simp[he,Dec.av,hs0 hlt,hs1 hlt,hs2 hlt,hs3 hlt,hs4 hlt,hs5 hlt,hw,hmu,hz];exact qaQ hB rfl (qaa _) (({d with line:=[],st:= .trailer}:Dec).bnd _) (by simp) hQ
     ·rw[if_neg hz]at hQ;have hz2:((qam s).1==0)=false:=beq_eq_false_iff_ne.2 hz;simp[he,Dec.av,hs0 hlt,hs1 hlt,hs2 hlt,hs3 hlt,hs4 hlt,hs5 hlt,hw,hmu,hz2];exact qaQ hB rfl (qaa _) (({d with line:=[],left:=(qam s).1,st:= .data}:Dec).bnd _) (by simp) hQ
   ·rw[if_pos (by simpa using he)]at hQ;have he2:((qam s).2.2 !=0)=true:=by simpa using he
    simp[he2];exact qaQ hB rfl (qaa _) (({d with line:=[]}:Dec).bnd _) (by simp) hQ
 ·have e0:qfQ d b=({d with line:=d.line++[b]},if 256<=(d.line++[b]).length then 100 else 0):=if_pos hb;rw[e0]at hQ;have hb2:((b.toNat:Int)==10)=false:=qdl b 10 (by decide) hb;by_cases h256:256<=(d.line++[b]).length
  ·rw[if_pos h256]at hQ;have h256':(256:Int)<=d.line.length+1:=by simp at h256;omega
   simp[Tryz.ntmps217,Tryz.results217,List.replicate_succ,hd,hs0 hlt,hs1 hlt,hs2 hlt,hs3 hlt,hs4 hlt,hs5 hlt,m1,m2,qcM,bne,hb2,h256'];exact qaQ hB rfl (qaa _) (({d with line:=d.line++[b]}:Dec).bnd _) (by simp) hQ
  ·rw[if_neg h256]at hQ;have h256':¬(256:Int)<=d.line.length+1:=by simp at h256;omega
   simp[Tryz.ntmps217,Tryz.results217,List.replicate_succ,hd,hs0 hlt,hs1 hlt,hs2 hlt,hs3 hlt,hs4 hlt,hs5 hlt,m1,m2,qcM,bne,hb2,h256'];exact qaQ hB rfl (qaa _) (({d with line:=d.line++[b]}:Dec).bnd _) (by simp) hQ
theorem qnh(hE:SE E)(hl:d.line.length<=1000000000)(htl:d.trailers.length<=1073741824)(hsl:d.section_<=1073741824)(hQ:Q (.int .i64 (qbr d b).2) (H.set i (qbr d b).1.av)):PC Tryz.prog E 230 [.ptr (some (i,0)),.int .u8 (b.toNat:Int)] H Q:=by
 have hlt:=qgp H i d hd;have hself:H.set i d.av=H:=qfi hd;refine qac Tryz.func230 rfl [30,78] [] (by kernel_rfl) (fun hB=>?_);have m1:d.line.length+1<=maxLen:=by unfold maxLen;omega
 have m2:d.line.length+1<=140737488355328:=by omega
 have m3:d.trailers.length+1<=maxLen:=by unfold maxLen;omega
 have m4:(d.trailers.length+1)*32<=140737488355328:=by omega
 have hw:IntKind.i64.wrap ((d.section_:Int)+1)=((d.section_+1:Nat):Int):=by rw[qak (by omega) (by omega)];omega
 simp[Dec.av]at hd;by_cases hr:d.room<=d.section_
 ·have e0:qbr d b=(d,104):=if_pos hr;rw[e0]at hQ;simp only[hself]at hQ;simp[Tryz.ntmps230,Tryz.results230,List.replicate_succ,hd,hs0 hlt,hs1 hlt,hs2 hlt,hs3 hlt,hs4 hlt,hs5 hlt,hr];exact aQz hB (h6:=hQ)
 ·by_cases hb:b=10
  ·subst hb
   have e0:qbr d 10=(match endL (d.line++[10])with
    |none=>({d with section_:=d.section_+1,line:=[]},101)
    |some s=>if s=[]then({d with section_:=d.section_+1,line:=[],done:=true},0)
     else if d.fields<=d.trailers.length then({d with section_:=d.section_+1,line:=[]},104)
     else match qbE s with
      |none=>({d with section_:=d.section_+1,line:=[]},101)
      |some f=>if mayB f.name=true then({d with section_:=d.section_+1,line:=[],trailers:=d.trailers++[f]},0)else({d with section_:=d.section_+1,line:=[]},101)):=by
    unfold qbr;rw[if_neg hr];rfl
   rw[e0]at hQ;clear e0;have hsn:bts d.line++[[AV.int .u8 10]]=bts (d.line++[10]):=qcM d.line 10;simp[Tryz.ntmps230,Tryz.results230,List.replicate_succ,hd,hs0 hlt,hs1 hlt,hs2 hlt,hs3 hlt,hs4 hlt,hs5 hlt,hr,m1,m2,hsn,hw,-Int.natCast_add];refine qmR E _ _ i {d with line:=d.line++[10],section_:=d.section_+1} (by rw[zqO hlt];rfl) (by simp;omega) ?_;cases hend:endL (d.line++[10])with
   |none=>
    rw[hend]at hQ;simp;exact qaQ hB rfl (qaa _) (({d with section_:=d.section_+1,line:=[]}:Dec).bnd _) (by simp) hQ
   |some s=>
    rw[hend]at hQ;simp only at hQ
    have hsl:s.length<=cap:=by
     unfold endL at hend;split at hend
     ·cases hend;rw[zqJ,zqK];simp only[cap];simp;omega
     ·cases hend
    by_cases hse:s=[]
    ·rw[if_pos hse]at hQ;subst hse;simp[Dec.av,hs0 hlt,hs1 hlt,hs2 hlt,hs3 hlt,hs4 hlt,hs5 hlt];exact qaQ hB rfl (qaa _) (({d with section_:=d.section_+1,line:=[],done:=true}:Dec).bnd _) (by simp) hQ
    ·rw[if_neg hse]at hQ;have hs02:(s==[])=false:=beq_eq_false_iff_ne.2 hse;by_cases hf:d.fields<=d.trailers.length
     ·rw[if_pos hf]at hQ;simp[Dec.av,hs0 hlt,hs1 hlt,hs2 hlt,hs3 hlt,hs4 hlt,hs5 hlt,hs02,hf];exact qaQ hB rfl (qaa _) (({d with section_:=d.section_+1,line:=[]}:Dec).bnd _) (by simp) hQ
     ·rw[if_neg hf]at hQ;simp[Dec.av,hs0 hlt,hs1 hlt,hs2 hlt,hs3 hlt,hs4 hlt,hs5 hlt,hs02,hf];refine qj7 E _ _ hE s hsl (fun f hlf=>?_) (fun hlf pl e he=>?_)
      ·rw[hlf]at hQ;simp only at hQ
       have hfn:f.name.length<=cap:=by
        unfold qbE at hlf;split at hlf
        ·cases hlf;simp only[zqJ];omega
        ·cases hlf
       simp;refine qhb E _ _ hE f.name hfn ?_;cases hmt:mayB f.name with
       |true=>
        rw[if_pos hmt]at hQ;simp[hs0 hlt,hs1 hlt,hs2 hlt,hs3 hlt,hs4 hlt,hs5 hlt,m3,m4,qej];exact qfM hB rfl (qaa _) (({d with section_:=d.section_+1,line:=[],trailers:=d.trailers++[f]}:Dec).bnd _) (by simp) hQ
       |false=>
        rw[if_neg (by rw[hmt];simp)]at hQ;simp;exact qfM hB rfl (qaa _) (({d with section_:=d.section_+1,line:=[]}:Dec).bnd _) (by simp) hQ
      ·rw[hlf]at hQ;have he2:(e !=0)=true:=by simpa using he
       simp[he2];exact qfM hB rfl (qaa _) (({d with section_:=d.section_+1,line:=[]}:Dec).bnd _) (by simp) hQ
  ·have e0:qbr d b=({d with section_:=d.section_+1,line:=d.line++[b]},0):=by unfold qbr;rw[if_neg hr,if_pos hb]
   rw[e0]at hQ;have hb2:((b.toNat:Int)==10)=false:=qdl b 10 (by decide) hb;simp[Tryz.ntmps230,Tryz.results230,List.replicate_succ,hd,hs0 hlt,hs1 hlt,hs2 hlt,hs3 hlt,hs4 hlt,hs5 hlt,hr,m1,m2,qcM,bne,hb2,hw,-Int.natCast_add];exact qaQ hB rfl (qaa _) (({d with section_:=d.section_+1,line:=d.line++[b]}:Dec).bnd _) (by simp) hQ
end
set_option linter.unnecessarySimpa false
def qbR(d:Dec)(b:UInt8):Dec×Int:=match d.st with
 | .size=>qfQ d b
 | .data=>qhz d b
 | .first=>qeM d b
 | .second=>qdg d b
 | .trailer=>qbr d b
def feed1(d:Dec)(b:UInt8):Dec:={(qbR {d with total:=d.total+1} b).1 with err:=(qbR {d with total:=d.total+1} b).2}
def qat(d:Dec):List UInt8->Dec×Nat
 |[]=>(d,0)
 |b::s=>if(feed1 d b).done=true\/(feed1 d b).err≠0 then(feed1 d b,1)else((qat (feed1 d b) s).1,(qat (feed1 d b) s).2+1)
def okD(d:Dec):Prop:=d.line.length<=d.total/\d.body.length<=d.total/\d.trailers.length<=d.total/\d.section_<=d.total/\(0<=d.most/\d.most<=9223372036854775807)/\(0<=d.room/\d.room<=9223372036854775807)/\(0<=d.fields/\d.fields<=9223372036854775807)/\(d.st= .data->1<=d.left/\d.left<=1099511627776)
theorem qlc(d:Dec)(b:UInt8):(qbR d b).1.total=d.total/\(qbR d b).1.most=d.most/\(qbR d b).1.room=d.room/\(qbR d b).1.fields=d.fields:=by
 unfold qbR qfQ qhz qeM qdg qbr
 (repeat' split)<;>exact⟨rfl,rfl,rfl,rfl⟩
theorem qru(d:Dec)(b:UInt8)(h:okD d)(ht:1<=d.total)(h1:d.line.length+1<=d.total)(h2:d.body.length+1<=d.total)(h3:d.trailers.length+1<=d.total)(h4:d.section_+1<=d.total):okD (qbR d b).1:=by
 obtain⟨a1,a2,a3,a4,a5,a6,a7,a8⟩:=h;unfold qbR;split
 ·unfold qfQ;split
  ·rename_i hst _;exact⟨by simpa using h1,a2,a3,a4,a5,a6,a7,fun e=>by simp only at e;rw[hst]at e;cases e⟩
  ·rename_i hst _;split
   ·exact⟨by simp,a2,a3,a4,a5,a6,a7,fun e=>by simp only at e;rw[hst]at e;cases e⟩
   ·rename_i s hs;split
    ·exact⟨by simp,a2,a3,a4,a5,a6,a7,fun e=>by simp only at e;rw[hst]at e;cases e⟩
    ·rename_i he;split
     ·exact⟨by simp,a2,a3,a4,a5,a6,a7,fun e=>by simp only at e;rw[hst]at e;cases e⟩
     ·split
      ·exact⟨by simp,a2,a3,a4,a5,a6,a7,fun e=>by cases e⟩
      ·rename_i hz;have:=qeP s (by simpa using he);exact⟨by simp,a2,a3,a4,a5,a6,a7,fun e=>by simp only;omega⟩
 ·rename_i hst;have hl:=a8 hst;unfold qhz;split
  ·exact⟨a1,by simpa using h2,a3,a4,a5,a6,a7,fun e=>by cases e⟩
  ·exact⟨a1,by simpa using h2,a3,a4,a5,a6,a7,fun e=>by simp only;omega⟩
 ·rename_i hst;unfold qeM;split
  ·exact⟨a1,a2,a3,a4,a5,a6,a7,a8⟩
  ·exact⟨a1,a2,a3,a4,a5,a6,a7,fun e=>by cases e⟩
 ·rename_i hst;unfold qdg;split
  ·exact⟨a1,a2,a3,a4,a5,a6,a7,a8⟩
  ·exact⟨a1,a2,a3,a4,a5,a6,a7,fun e=>by cases e⟩
 ·rename_i hst;have nd:∀st:Stg,st=d.st->st= .data->1<=d.left/\d.left<=1099511627776:=fun st e e2=>by rw[e,hst]at e2;cases e2
  unfold qbr
  (repeat' split)
  all_goals first
   |exact⟨a1,a2,a3,a4,a5,a6,a7,nd _ rfl⟩
   |exact⟨by simpa using h1,a2,a3,h4,a5,a6,a7,nd _ rfl⟩
   |exact⟨by simp,a2,a3,h4,a5,a6,a7,nd _ rfl⟩
   |exact⟨by simp,a2,by simpa using h3,h4,a5,a6,a7,nd _ rfl⟩
theorem qmQ(d:Dec)(b:UInt8)(h:okD d):okD (feed1 d b)/\(feed1 d b).total=d.total+1:=by
 obtain⟨a1,a2,a3,a4,a5,a6,a7,a8⟩:=h;have h0:okD {d with total:=d.total+1}:=⟨by simp only;omega,by simp only;omega,by simp only;omega,by simp only;omega,a5,a6,a7,a8⟩
 have:=qru {d with total:=d.total+1} b h0 (by simp) (by simpa using a1) (by simpa using a2) (by simpa using a3) (by simpa using a4);exact⟨this,(qlc _ b).1⟩
section
variable (E:Env)(H:Hp)(Q:AV->Hp->Prop)(i:Nat)(d:Dec)(hd:H[i]? =some d.av)(b:UInt8)
include hd
theorem qtY(hE:SE E)(hk:okD d)(ht:d.total<=1000000000)(hQ:Q (.int .i64 (qbR d b).2) (H.set i (qbR d b).1.av)):PC Tryz.prog E d.st.fid [.ptr (some (i,0)),.int .u8 (b.toNat:Int)] H Q:=by
 obtain⟨a1,a2,a3,a4,a5,a6,a7,a8⟩:=hk;unfold qbR at hQ;cases hst:d.st with
 |size=>rw[hst]at hQ;exact qt1 E H Q i d hd b hE (by omega) (by omega) a5 hQ
 |data=>rw[hst]at hQ;exact qu0 E H Q i d hd b (by omega) (a8 hst) hQ
 |first=>rw[hst]at hQ;exact qsj E H Q i d hd b hQ
 |second=>rw[hst]at hQ;exact qoQ E H Q i d hd b hQ
 |trailer=>rw[hst]at hQ;exact qnh E H Q i d hd b hE (by omega) (by omega) (by omega) hQ
end
def feI(H:Hp)(i:Nat)(d:Dec)(s:List UInt8)(fr:List AV)(H':Hp):Prop:=∃(n:Nat) (d':Dec),n<=s.length/\H'=H.set i d'.av/\okD d'/\d'.total=d.total+n/\d'.done=false/\d'.err=0/\qat d s=((qat d' (s.drop n)).1,(qat d' (s.drop n)).2+n)/\
 ∃x:Nat->AV,fr=[.ptr (some (i,0)),.str s,x 2,x 3,x 4,x 5,x 6,x 7,x 8,x 9,x 10,x 11,x 12,x 13,x 14,x 15,x 16,x 17,x 18,x 19,x 20,x 21,.str s,.int .i64 s.length,.int .i64 n,x 25,x 26,x 27,x 28,x 29,x 30,x 31,x 32,x 33,x 34,x 35,x 36,x 37,x 38,x 39,x 40,x 41,x 42,x 43,x 44,x 45,x 46,x 47,x 48,x 49,x 50,x 51,x 52,x 53,x 54,x 55,x 56,x 57,x 58,x 59,x 60,x 61,x 62,x 63,x 64,x 65]
section
variable (E:Env)(H:Hp)(Q:AV->Hp->Prop)(i:Nat)(d:Dec)(hd:H[i]? =some d.av)
include hd
theorem qpV(hE:SE E)(s:List UInt8)(hk:okD d)(ht:d.total+s.length<=1000000000)(hQ1:d.done=false->d.err=0->Q (.tup [.int .i64 (qat d s).2,.int .i64 (qat d s).1.err]) (H.set i (qat d s).1.av))(hQ2:d.done=true\/d.err≠0->Q (.tup [.int .i64 0,.int .i64 103]) H):
  PC Tryz.prog E 218 [.ptr (some (i,0)),.str s] H Q:=by
 have hlt:=qgp H i d hd;have hself:H.set i d.av=H:=qfi hd;have hd':=hd;refine qac Tryz.func218 rfl [] [] (by kernel_rfl) (fun hB=>?_);simp[Dec.av]at hd;by_cases h1:d.done=true
 ·simp[Tryz.ntmps218,Tryz.results218,List.replicate_succ,hd,h1];exact aQz hB (h6:=(hQ2 (.inl h1)))
 ·have h1:d.done=false:=by simpa using h1
  by_cases h2:d.err=0
  ·have hQ:=hQ1 h1 h2;simp[Tryz.ntmps218,Tryz.results218,List.replicate_succ,hd,h1,h2];refine qaB (feI H i d s) (fun fr _=>s.length-(ai (aget fr 24)).toNat) ⟨0,d,by omega,hself.symm,hk,by omega,h1,h2,by simp,friz⟩ ?_;rintro fr H' ⟨n,e,hn,rfl,hke,hte,hde,hee,hfe,x,rfl⟩;have hes:(H.set i e.av)[i]? =some e.av:=zqO hlt;by_cases h:n<s.length
   ·obtain⟨b,hb⟩:∃b,s[n]? =some b:=⟨_,zqD h⟩
    have hat:lat s n=some b:=qas hb;have hw:IntKind.i64.wrap ((e.total:Int)+1)=((e.total+1:Nat):Int):=by rw[qak (by omega) (by omega)];omega
    have hw2:IntKind.i64.wrap ((n:Int)+1)=n+1:=wiz;have hdr:=qay s n b hb;rw[hdr]at hfe;simp[h,hat,hw,hs0 hlt,hs1 hlt,hs2 hlt,hs3 hlt,hs4 hlt,hs5 hlt,Dec.av,-Int.natCast_add];have hes1:(H.set i ({e with total:=e.total+1}:Dec).av)[i]? =some ({e with total:=e.total+1}:Dec).av:=zqO hlt
    have hk1:okD {e with total:=e.total+1}:=by
     obtain⟨a1,a2,a3,a4,a5,a6,a7,a8⟩:=hke;exact⟨by simp only;omega,by simp only;omega,by simp only;omega,by simp only;omega,a5,a6,a7,a8⟩
    refine qtY E _ _ i {e with total:=e.total+1} hes1 b hE hk1 (by simp only;omega) ?_;obtain⟨hf1,hf2⟩:=qmQ e b hke;have hfd:qat e (b::s.drop (n+1))=if(feed1 e b).done=true\/(feed1 e b).err≠0 then(feed1 e b,1)else((qat (feed1 e b) (s.drop (n+1))).1,(qat (feed1 e b) (s.drop (n+1))).2+1):=rfl
    rw[hfd]at hfe;clear hfd hk1 hes1;have hfeq:feed1 e b={(qbR {e with total:=e.total+1} b).1 with err:=(qbR {e with total:=e.total+1} b).2}:=rfl;obtain⟨⟨e2,r⟩,he2⟩:=exz (qbR {e with total:=e.total+1} b);rw[he2]at hfeq⊢;rw[hfeq]at hfe hf1 hf2;clear hfeq he2;simp only at hfe hf1 hf2;by_cases hdn:e2.done=true
    ·rw[if_pos (.inl hdn)]at hfe;rw[hfe]at hQ;simp[hs0 hlt,hs1 hlt,hs2 hlt,hs3 hlt,hs4 hlt,hs5 hlt,Dec.av,hdn,hw2];refine qaQ hB rfl (qaa _) (({e2 with err:=r,done:=true}:Dec).bnd _) (by simp) ?_;simp only at hQ;rw[show((1+n:Nat):Int)=(n:Int)+1 by omega]at hQ;have hav:({e2 with err:=r}:Dec).av=({e2 with err:=r,done:=true}:Dec).av:=by rw[<-hdn]
     rw[hav]at hQ;exact hQ
    ·have hdn:e2.done=false:=by simpa using hdn
     by_cases hr:r=0
     ·rw[if_neg (by rw[hdn,hr];simp)]at hfe;simp[hs0 hlt,hs1 hlt,hs2 hlt,hs3 hlt,hs4 hlt,hs5 hlt,Dec.av,hdn,hr,hw2];refine qaH ?_ ?_;rotate_left
      ·simp;omega
      have hav:({e2 with err:=r}:Dec).av=({e2 with err:=0,done:=false}:Dec).av:=by rw[<-hdn,<-hr]
      subst hr;refine⟨n+1,{e2 with err:=0},by omega,?_,hf1,by rw[hf2];omega,hdn,rfl,?_,friz⟩
      ·rw[hav];rfl
      ·rw[hfe];simp only;rw[Nat.add_assoc,Nat.add_comm 1 n]
     ·have hr2:(r !=0)=true:=by simpa using hr
      rw[if_pos (.inr hr)]at hfe;rw[hfe]at hQ;simp[hs0 hlt,hs1 hlt,hs2 hlt,hs3 hlt,hs4 hlt,hs5 hlt,Dec.av,hdn,hr2,hw2];refine qaQ hB rfl (qaa _) (({e2 with err:=r,done:=false}:Dec).bnd _) (by simp) ?_;simp only at hQ;rw[show((1+n:Nat):Int)=(n:Int)+1 by omega]at hQ;have hav:({e2 with err:=r}:Dec).av=({e2 with err:=r,done:=false}:Dec).av:=by rw[<-hdn]
      rw[hav]at hQ;exact hQ
   ·obtain rfl:n=s.length:=by omega
    rw[List.drop_length]at hfe;have hfd:qat e []=(e,0):=rfl;rw[hfd]at hfe;rw[hfe]at hQ;simp only[hee,Nat.zero_add]at hQ;simp[h];exact qaQ hB rfl (qaa _) (e.bnd _) (by simp) hQ
  ·have h22:(d.err !=0)=true:=by simpa using h2
   simp[Tryz.ntmps218,Tryz.results218,List.replicate_succ,hd,h1,h22];exact aQz hB (h6:=(hQ2 (.inr h2)))
end
theorem Tryz.info65:(Tryz.prog.info? 65).map (fun i=>(i.zero,i.size,i.bytes))=some (some (.agg #[.string ⟨#[]⟩,.string ⟨#[]⟩]),2,32):=by kernel_rfl
theorem qoV{w:World}{k n:Nat}{v:Value}{xs:List Value}(h:RSl w k v n xs)(o:Obj):RSl (w.alloc o) k v n xs:=by
 obtain⟨h1,ao,cap,rfl,h2,h3,h4⟩:=h;refine⟨h1,ao,cap,rfl,h2,h3,fun hn=>?_⟩;obtain⟨g,o',rfl,h5⟩:=h4 hn;refine⟨g,o',rfl,fun j hj=>?_⟩;have h0:=h5 j hj;have hx:xs[j]? =some (xs[j]'(by omega)):=zqD _;rw[hx]at h0⊢;exact Lib.cell?_alloc_some _ h0
theorem qsA{w:World}{ao:Option Addr}{n c:Nat}{xs:List Value}(h:RSl w 2 (.slice ao n c) n xs)(h1:∀u∈xs,u.oneCell'=true)(hn:n<=1073741824):
  Calls Tryz.prog 232 #[.slice ao n c] w fun e w'=>∃bo m d,e= .returned (.slice bo m d)/\((bo=none/\m=0/\d=0/\n=0/\w'=w)\/(m=n/\OSl w' 2 (.slice bo n d) n xs/\(∀g',(Value.slice bo n d).ownBlock=some g'->w.heap.size<=g')/\Frm (fun _=>False) w w')):=by
 obtain⟨i0,hi,hz0,hz1,hz2⟩:=info_parts Tryz.info65;have q22:∀(w:World) (a:Option Addr) (n c n' c':Nat),(binOp .eql 24 (.slice a n c) (.slice none n' c')).run Tryz.prog w= .ok (.bool a.isNone) w:=fun w a n c n' c'=>Lib.run_eql_slice_nil w _ _ a n c n' c' Tryz.underlying24;have HR:=Lib.hid h;have H1:=Lib.hid h1;clear h h1
 go_enter Tryz.func232,Tryz.ntmps232
 cases ao with
 |none=>
  go_wp2
  go_ret
  refine⟨none,0,0,rfl,.inl ⟨rfl,rfl,rfl,?_,rfl⟩⟩;obtain⟨_,_,_,he,_,_,hc⟩:=HR.out;cases he;rcases Nat.eq_zero_or_pos n with h|h
  ·exact h
  ·obtain⟨_,_,h,_⟩:=hc h;cases h
 |some a=>
  have hE:OSl (w.alloc (.cells #[] 65)) 2 (.slice (some ⟨w.heap.size,0,none⟩) 0 0) 0 []:=OSl.new w #[] 65 2 0 0 [] rfl (Nat.le_refl _) (Nat.zero_le _) rfl (fun j hj=>by simp at hj);have HE:=Lib.hid hE;clear hE
  go_wp2_with (at_builtin;refine qfO _ rfl (.tmp 5) (.tmp 6) 24 24 rfl 65 i0 (.agg #[.string ⟨#[]⟩,.string ⟨#[]⟩]) 2 32 Tryz.underlying24 hi hz0 hz1 hz2 rfl _ 0 [] rfl HE.out (.slice (some a) n c) n xs rfl (qgT (P:=Tryz.prog) (qoV HR.out _) H1.out Tryz.underlying24) (by unfold maxLen;omega) (by omega) ?_)
  intro ao4 c4 w4 hs hf hv;have HN4:=Lib.hid (qpI (w:=w) (v':= .slice ao4 n c4) (H:=w.heap.size+1) (Frm.alloc _ w _) (fun g hg=>by simp[Value.ownBlock]at hg;omega) hf (by simpa using hv) (by omega));have hs':=hs
  try simp only[List.nil_append,Nat.zero_add]at hs'
  have HO4:=Lib.hid hs';clear hs' hs hf hv
  go_wp2
  go_ret
  exact⟨ao4,n,c4,by simp,.inr ⟨rfl,HO4.out,HN4.out.1,HN4.out.2⟩⟩
theorem qsh{l:List Fld}{j:Nat}{x:AV}(h:(flds l).flatten[j]? =some x):∃s,x= .str s:=by
 obtain⟨r,hr,hx⟩:=List.mem_flatten.1 (zqH h);obtain⟨f,_,rfl⟩:=List.mem_map.1 hr;simp at hx;rcases hx with rfl|rfl<;>exact⟨_,rfl⟩
theorem qsz(E:Env)(H:Hp)(Q:AV->Hp->Prop)(own:Bool)(l:List Fld)(hl:l.length<=1073741824)(hf:own=false)(hQ:Q (.sl false 2 (flds l)) H):PC Tryz.prog E 232 [.sl own 2 (flds l)] H Q:=by
 refine⟨by kernel_rfl,fun w β Rd Ow cargs hHR hOw hsz hargs=>?_⟩;obtain⟨u,rfl,hu⟩:=args1 hsz (fun t x u hx hu=>(hargs t x u hx hu).1);obtain⟨xs,hk,hx,hd,hfr,hr⟩:=qgd hu;obtain⟨hxl,ao,c,rfl,h2,h3,h4⟩:=id hx;rw[qdW]at hx hxl h2 h4;have hone:∀u∈xs,u.oneCell'=true:=Rel.slOne (own:=own) hk (by rw[qdW];exact hxl) hfr hr;rw[qdW];refine(qsA (ao:=ao) (c:=c) hx hone hl).mono ?_;rintro e w' ⟨bo,m,d,rfl,⟨rfl,rfl,rfl,hn0,rfl⟩|⟨rfl,ho,hnew,hF⟩⟩
 ·have:l=[]:=List.length_eq_zero_iff.1 hn0;subst this
  have hrel:Rel w' β (fun g o=>Rd g o\/False) (.sl false 2 (flds [])) (.slice none 0 0):=
   .sl false 2 _ _ [] (fun r hr=>by simp[flds]at hr) ⟨by simp[flds],none,0,rfl,Nat.le_refl _,Nat.zero_le _,fun h=>by simp[flds]at h⟩ (fun g o n c hv j hj=>by cases hv) (fun h=>by cases h) (fun r hr=>by simp[flds]at hr) (fun j x u hx=>by simp[flds]at hx)
  exact⟨_,_,H,β,_,Ow,rfl,hQ,qcY hHR (Frm.refl _ _) (fun _ _=>False) (fun _ _ h=>h.elim) hrel (by simp[flds]) rfl⟩
 ·have hrel:Rel w' β (fun g o=>Rd g o\/(Value.slice bo l.length d).ownBlock=some g) (.sl false 2 (flds l)) (.slice bo l.length d):=by
   refine .sl false 2 _ _ xs hk (by rw[qdW];exact ho.toR) (fun g o n c hv j hj=> .inr (by rw[hv];rfl)) (fun h=>by cases h) hfr (fun j x u hx' hu'=>?_);obtain⟨t,rfl⟩:=qsh hx';obtain⟨b,rfl,hb1,hb2⟩:=qaC (hr j _ u hx' hu');exact .str _ _ hb1 hb2
  exact⟨_,_,H,β,_,Ow,rfl,hQ,qcY hHR hF (fun g _=>(Value.slice bo l.length d).ownBlock=some g) (fun g o h=>⟨hnew g h,ho.lt g h⟩) hrel (qdd _ _ _) rfl⟩
def newD(most room fields:Int):Dec:=⟨most,room,fields,.size,[],0,[],[],0,0,false,0⟩
section
variable (E:Env)(H:Hp)(Q:AV->Hp->Prop)
theorem qju(most room fields:Int)(hQ1:0<=most->0<=room->0<=fields->Q (.tup [.ptr (some (H.length,0)),.int .i64 0]) (H++[(newD most room fields).av]))(hQ2:most<0\/room<0\/fields<0->Q (.tup [.ptr none,.int .i64 1]) H):
  PC Tryz.prog E 196 [.int .i64 most,.int .i64 room,.int .i64 fields] H Q:=by
 refine qac Tryz.func196 rfl [] [] (by kernel_rfl) (fun hB=>?_);by_cases h1:most<0
 ·simp[Tryz.ntmps196,Tryz.results196,List.replicate_succ,h1];exact aQz hB (h6:=(hQ2 (.inl h1)))
 ·by_cases h2:room<0
  ·simp[Tryz.ntmps196,Tryz.results196,List.replicate_succ,h1,h2];exact aQz hB (h6:=(hQ2 (.inr (.inl h2))))
  ·by_cases h3:fields<0
   ·simp[Tryz.ntmps196,Tryz.results196,List.replicate_succ,h1,h2,h3];exact aQz hB (h6:=(hQ2 (.inr (.inr h3))))
   ·have hQ:=hQ1 (by omega) (by omega) (by omega);simp[Tryz.ntmps196,Tryz.results196,List.replicate_succ,h1,h2,h3]
    have hbn:BndH (H.length+1) (H++[(newD most room fields).av]):=fun l hl x hx=>by
     rcases List.mem_append.1 hl with h'|h'
     ·exact(hB l h' x hx).mono (by omega)
     ·simp at h';subst h';exact(newD most room fields).bnd _ x hx
    exact⟨.tup [.ptr (some (H.length,0)),.int .i64 0],_,H++[(newD most room fields).av],H++[(newD most room fields).av],[],rfl,qaa _,
     qi5 H ⟨⟨.inl rfl,.inl rfl,.inl rfl,.inl rfl,.inr ⟨rfl,true,1,rfl⟩,.inl rfl,.inr ⟨rfl,true,1,rfl⟩,.inr ⟨rfl,true,2,rfl⟩,.inl rfl,.inl rfl,.inl rfl,.inl rfl,trivial⟩,trivial⟩,
     (List.append_nil _).symm,by simp,by simpa using hbn,by simp,hQ⟩
theorem qsl(s:List UInt8)(hQ:Q (.tup [.int .i64 0,.int .i64 103]) H):PC Tryz.prog E 218 [.ptr none,.str s] H Q:=by
 refine qac Tryz.func218 rfl [] [] (by kernel_rfl) (fun hB=>?_);simp[Tryz.ntmps218,Tryz.results218,List.replicate_succ];exact aQz hB (h6:=hQ)
variable (i:Nat)(d:Dec)(hd:H[i]? =some d.av)
include hd
theorem quR(hQ:Q (.bool d.done) H):PC Tryz.prog E 219 [.ptr (some (i,0))] H Q:=by
 have hlt:=qgp H i d hd;refine qac Tryz.func219 rfl [] [] (by kernel_rfl) (fun hB=>?_);simp[Dec.av]at hd;simp[Tryz.ntmps219,Tryz.results219,List.replicate_succ,hd];exact aQz hB (h6:=hQ)
theorem qu7(hl:d.body.length<=1073741824)(hQ:Q (.str d.body) H):PC Tryz.prog E 220 [.ptr (some (i,0))] H Q:=by
 have hm:d.body.length<=maxLen:=by unfold maxLen;omega
 refine qac Tryz.func220 rfl [] [] (by kernel_rfl) (fun hB=>?_);simp[Dec.av]at hd;simp[Tryz.ntmps220,Tryz.results220,List.replicate_succ,hd,hm];exact aQz hB (h6:=hQ)
theorem qk8(hl:d.trailers.length<=1073741824)(hQ:Q (.sl false 2 (flds d.trailers)) H):PC Tryz.prog E 221 [.ptr (some (i,0))] H Q:=by
 refine qac Tryz.func221 rfl [] [] (by kernel_rfl) (fun hB=>?_);simp[Dec.av]at hd;simp[Tryz.ntmps221,Tryz.results221,List.replicate_succ,hd];refine qsz E _ _ false d.trailers hl rfl ?_;simp;exact aQz hB (h6:=hQ)
end
theorem qun(most room fields:Int)(h1:0<=most/\most<=9223372036854775807)(h2:0<=room/\room<=9223372036854775807)(h3:0<=fields/\fields<=9223372036854775807):okD (newD most room fields):=
 ⟨by simp[newD],by simp[newD],by simp[newD],by simp[newD],h1,h2,h3,fun e=>by cases e⟩
theorem qmP(s:List UInt8):∀d,(qat d s).2<=s.length:=by
 induction s with
 |nil=>intro d;exact Nat.le_refl _
 |cons b s ih=>
  intro d;have hfd:qat d (b::s)=if(feed1 d b).done=true\/(feed1 d b).err≠0 then(feed1 d b,1)else((qat (feed1 d b) s).1,(qat (feed1 d b) s).2+1):=rfl
  rw[hfd];split
  ·simp
  ·have:=ih (feed1 d b);simp;omega
theorem qjl(s:List UInt8):∀d,okD d->okD (qat d s).1/\(qat d s).1.total=d.total+(qat d s).2:=by
 induction s with
 |nil=>intro d h;exact⟨h,rfl⟩
 |cons b s ih=>
  intro d h;have hfd:qat d (b::s)=if(feed1 d b).done=true\/(feed1 d b).err≠0 then(feed1 d b,1)else((qat (feed1 d b) s).1,(qat (feed1 d b) s).2+1):=rfl
  obtain⟨h1,h2⟩:=qmQ d b h;rw[hfd];split
  ·exact⟨h1,h2⟩
  ·obtain⟨g1,g2⟩:=ih (feed1 d b) h1;exact⟨g1,by rw[g2,h2];simp only;omega⟩
section
variable (E:Env)(H:Hp)(Q:AV->Hp->Prop)
def qdN(b:UInt8)(H:Hp)(fr:List AV)(H':Hp):Prop:=H'=H/\∃i:Nat,i<=15/\(sgs.take i).contains b=false/\∃x:Nat->AV,fr=[.int .u8 (b.toNat:Int),x 1,x 2,.str sgs,.int .i64 i,x 5,x 6,x 7,x 8,x 9,x 10,x 11,x 12,x 13,x 14,x 15,x 16,x 17,x 18,x 19,x 20,x 21,x 22,x 23,x 24,x 25,x 26,x 27,x 28,x 29,x 30,x 31,x 32,x 33,x 34,x 35,x 36,x 37]
theorem qdM(b:UInt8)(hQ:Q (.bool (qai b)) H):PC Tryz.prog E 100 [.int .u8 (b.toNat:Int)] H Q:=by
 refine qac Tryz.func100 rfl [] [] (by kernel_rfl) (fun hB=>?_);have fin:∀c:Bool,qai b=c->Q (.bool c) H:=fun c hc=>hc▸hQ;have hb:=b.toNat_lt
 have hcase:(48<=b.toNat/\b.toNat<=57)\/(65<=b.toNat/\b.toNat<=90)\/(97<=b.toNat/\b.toNat<=122)\/(qbX b||qc1 b)=false:=by
  by_cases h1:48<=b.toNat/\b.toNat<=57
  ·exact .inl h1
  ·by_cases h2:65<=b.toNat/\b.toNat<=90
   ·exact .inr (.inl h2)
   ·by_cases h3:97<=b.toNat/\b.toNat<=122
    ·exact .inr (.inr (.inl h3))
    ·refine .inr (.inr (.inr ?_));rw[Bool.eq_false_iff];intro hh;simp only[qbX,qc1,Bool.or_eq_true,decide_eq_true_eq,Bool.and_eq_true]at hh;omega
 rcases hcase with h|h|h|h
 ·have h48:(48:Int)<=b.toNat:=by omega
  have h57:(b.toNat:Int)<=57:=by omega
  simp[Tryz.ntmps100,Tryz.results100,List.replicate_succ,h48,h57];refine aQz hB (h6:=(fin _ ?_));rw[<-qbc,show qbX b=true by unfold qbX;simp;omega];simp
 ·have h57:¬(b.toNat:Int)<=57:=by omega
  have h48:(48:Int)<=b.toNat:=by omega
  have h65:(65:Int)<=b.toNat:=by omega
  have h90:(b.toNat:Int)<=90:=by omega
  simp[Tryz.ntmps100,Tryz.results100,List.replicate_succ,h48,h57,h65,h90];refine aQz hB (h6:=(fin _ ?_));rw[<-qbc,show qc1 b=true by unfold qc1;simp;omega];simp
 ·have h57:¬(b.toNat:Int)<=57:=by omega
  have h48:(48:Int)<=b.toNat:=by omega
  have h65:(65:Int)<=b.toNat:=by omega
  have h90:¬(b.toNat:Int)<=90:=by omega
  have h97:(97:Int)<=b.toNat:=by omega
  have h122:(b.toNat:Int)<=122:=by omega
  simp[Tryz.ntmps100,Tryz.results100,List.replicate_succ,h48,h57,h65,h90,h97,h122];refine aQz hB (h6:=(fin _ ?_));rw[<-qbc,show qc1 b=true by unfold qc1;simp;omega];simp
 ·have hno:=h;simp only[Bool.or_eq_false_iff]at h;obtain⟨hd,hl⟩:=h
  have hd':¬((48:Int)<=b.toNat/\(b.toNat:Int)<=57):=fun hh=>by
   have:qbX b=true:=by unfold qbX;simp;omega
   rw[this]at hd;cases hd
  have hl1:¬((65:Int)<=b.toNat/\(b.toNat:Int)<=90):=fun hh=>by
   have:qc1 b=true:=by unfold qc1;simp;omega
   rw[this]at hl;cases hl
  have hl2:¬((97:Int)<=b.toNat/\(b.toNat:Int)<=122):=fun hh=>by
   have:qc1 b=true:=by unfold qc1;simp;omega
   rw[this]at hl;cases hl
  have hc7:((b.toNat:Int)<48)\/(57<(b.toNat:Int)/\(b.toNat:Int)<65)\/(90<(b.toNat:Int)/\(b.toNat:Int)<97)\/(122<(b.toNat:Int)):=by omega
  rcases hc7 with g|g|g|g
  ·have q1:¬(48:Int)<=b.toNat:=by omega
   have q2:¬(65:Int)<=b.toNat:=by omega
   have q3:¬(97:Int)<=b.toNat:=by omega
   simp[Tryz.ntmps100,Tryz.results100,List.replicate_succ,q1,q2,q3];refine qaB (qdN b H) (fun fr _=>15-(ai (aget fr 4)).toNat) ⟨rfl,0,by omega,rfl,qag (by simp[sgs])⟩ ?_;rintro fr H' ⟨rfl,i,hi,hall,x,rfl⟩;have hlen:sgs.length=15:=rfl;by_cases h:i<15
   ·obtain⟨c,hc⟩:∃c,sgs[i]? =some c:=⟨_,zqD (by rw[hlen];exact h)⟩
    have hat:=qas hc;have h15:(i:Int)<15:=by omega
    have hw:IntKind.i64.wrap ((i:Int)+1)=i+1:=wiz;by_cases he:c=b
    ·have t1:((c.toNat:Int)==(b.toNat:Int))=true:=by simp[he]
     simp[hlen,h15,hat,t1];refine aQz hB (h6:=(fin _ ?_));rw[<-qbc,show sgs.contains b=true by rw[List.contains_iff_mem,<-he];exact zqH hc];simp
    ·have t1:((c.toNat:Int)==(b.toNat:Int))=false:=by
      rw[beq_eq_false_iff_ne];intro hh;exact he (UInt8.toNat_inj.1 (by omega))
     simp[hlen,h15,hat,t1,hw];refine Klz ⟨rfl,i+1,by omega,?_,friz⟩;rw[List.take_add_one,hc];simp at hall;simp[hall];exact fun e=>he e.symm
   ·obtain rfl:i=15:=by omega
    simp[hlen];refine aQz hB (h6:=(fin _ ?_));rw[<-qbc,hd,hl];exact hall
  ·have q1:(48:Int)<=b.toNat:=by omega
   have q4:¬(b.toNat:Int)<=57:=by omega
   have q2:¬(65:Int)<=b.toNat:=by omega
   have q3:¬(97:Int)<=b.toNat:=by omega
   simp[Tryz.ntmps100,Tryz.results100,List.replicate_succ,q1,q2,q3,q4];refine qaB (qdN b H) (fun fr _=>15-(ai (aget fr 4)).toNat) ⟨rfl,0,by omega,rfl,qag (by simp[sgs])⟩ ?_;rintro fr H' ⟨rfl,i,hi,hall,x,rfl⟩;have hlen:sgs.length=15:=rfl;by_cases h:i<15
   ·obtain⟨c,hc⟩:∃c,sgs[i]? =some c:=⟨_,zqD (by rw[hlen];exact h)⟩
    have hat:=qas hc;have h15:(i:Int)<15:=by omega
    have hw:IntKind.i64.wrap ((i:Int)+1)=i+1:=wiz;by_cases he:c=b
    ·have t1:((c.toNat:Int)==(b.toNat:Int))=true:=by simp[he]
     simp[hlen,h15,hat,t1];refine aQz hB (h6:=(fin _ ?_));rw[<-qbc,show sgs.contains b=true by rw[List.contains_iff_mem,<-he];exact zqH hc];simp
    ·have t1:((c.toNat:Int)==(b.toNat:Int))=false:=by
      rw[beq_eq_false_iff_ne];intro hh;exact he (UInt8.toNat_inj.1 (by omega))
     simp[hlen,h15,hat,t1,hw];refine Klz ⟨rfl,i+1,by omega,?_,friz⟩;rw[List.take_add_one,hc];simp at hall;simp[hall];exact fun e=>he e.symm
   ·obtain rfl:i=15:=by omega
    simp[hlen];refine aQz hB (h6:=(fin _ ?_));rw[<-qbc,hd,hl];exact hall
  ·have q1:(48:Int)<=b.toNat:=by omega
   have q4:¬(b.toNat:Int)<=57:=by omega
   have q2:(65:Int)<=b.toNat:=by omega
   have q5:¬(b.toNat:Int)<=90:=by omega
   have q3:¬(97:Int)<=b.toNat:=by omega
   simp[Tryz.ntmps100,Tryz.results100,List.replicate_succ,q1,q2,q3,q4,q5];refine qaB (qdN b H) (fun fr _=>15-(ai (aget fr 4)).toNat) ⟨rfl,0,by omega,rfl,qag (by simp[sgs])⟩ ?_;rintro fr H' ⟨rfl,i,hi,hall,x,rfl⟩;have hlen:sgs.length=15:=rfl;by_cases h:i<15
   ·obtain⟨c,hc⟩:∃c,sgs[i]? =some c:=⟨_,zqD (by rw[hlen];exact h)⟩
    have hat:=qas hc;have h15:(i:Int)<15:=by omega
    have hw:IntKind.i64.wrap ((i:Int)+1)=i+1:=wiz;by_cases he:c=b
    ·have t1:((c.toNat:Int)==(b.toNat:Int))=true:=by simp[he]
     simp[hlen,h15,hat,t1];refine aQz hB (h6:=(fin _ ?_));rw[<-qbc,show sgs.contains b=true by rw[List.contains_iff_mem,<-he];exact zqH hc];simp
    ·have t1:((c.toNat:Int)==(b.toNat:Int))=false:=by
      rw[beq_eq_false_iff_ne];intro hh;exact he (UInt8.toNat_inj.1 (by omega))
     simp[hlen,h15,hat,t1,hw];refine Klz ⟨rfl,i+1,by omega,?_,friz⟩;rw[List.take_add_one,hc];simp at hall;simp[hall];exact fun e=>he e.symm
   ·obtain rfl:i=15:=by omega
    simp[hlen];refine aQz hB (h6:=(fin _ ?_));rw[<-qbc,hd,hl];exact hall
  ·have q1:(48:Int)<=b.toNat:=by omega
   have q4:¬(b.toNat:Int)<=57:=by omega
   have q2:(65:Int)<=b.toNat:=by omega
   have q5:¬(b.toNat:Int)<=90:=by omega
   have q3:(97:Int)<=b.toNat:=by omega
   have q6:¬(b.toNat:Int)<=122:=by omega
   simp[Tryz.ntmps100,Tryz.results100,List.replicate_succ,q1,q2,q3,q4,q5,q6];refine qaB (qdN b H) (fun fr _=>15-(ai (aget fr 4)).toNat) ⟨rfl,0,by omega,rfl,qag (by simp[sgs])⟩ ?_;rintro fr H' ⟨rfl,i,hi,hall,x,rfl⟩;have hlen:sgs.length=15:=rfl;by_cases h:i<15
   ·obtain⟨c,hc⟩:∃c,sgs[i]? =some c:=⟨_,zqD (by rw[hlen];exact h)⟩
    have hat:=qas hc;have h15:(i:Int)<15:=by omega
    have hw:IntKind.i64.wrap ((i:Int)+1)=i+1:=wiz;by_cases he:c=b
    ·have t1:((c.toNat:Int)==(b.toNat:Int))=true:=by simp[he]
     simp[hlen,h15,hat,t1];refine aQz hB (h6:=(fin _ ?_));rw[<-qbc,show sgs.contains b=true by rw[List.contains_iff_mem,<-he];exact zqH hc];simp
    ·have t1:((c.toNat:Int)==(b.toNat:Int))=false:=by
      rw[beq_eq_false_iff_ne];intro hh;exact he (UInt8.toNat_inj.1 (by omega))
     simp[hlen,h15,hat,t1,hw];refine Klz ⟨rfl,i+1,by omega,?_,friz⟩;rw[List.take_add_one,hc];simp at hall;simp[hall];exact fun e=>he e.symm
   ·obtain rfl:i=15:=by omega
    simp[hlen];refine aQz hB (h6:=(fin _ ?_));rw[<-qbc,hd,hl];exact hall
def qnu(l:List UInt8)(H:Hp)(fr:List AV)(H':Hp):Prop:=H'=H/\∃i:Nat,i<=l.length/\(l.take i).all qai=true/\∃x:Nat->AV,fr=[.str l,x 1,x 2,.int .i64 i,x 4,x 5,x 6,x 7,x 8,x 9,x 10,x 11,x 12,x 13,x 14,x 15,x 16,x 17]
theorem qge(l:List UInt8)(hl:l.length<=cap)(hQ:Q (.bool (tokB l)) H):PC Tryz.prog E 127 [.str l] H Q:=by
 simp only[cap]at hl;refine qac Tryz.func127 rfl [] [] (by kernel_rfl) (fun hB=>?_);have fin:∀c:Bool,tokB l=c->Q (.bool c) H:=fun c hc=>hc▸hQ;simp[Tryz.ntmps127,Tryz.results127,List.replicate_succ];refine qaB (qnu l H) (fun fr _=>l.length-(ai (aget fr 3)).toNat) ⟨rfl,0,by omega,rfl,friz⟩ ?_;rintro fr H' ⟨rfl,i,hi,hall,x,rfl⟩;by_cases h:i<l.length
 ·obtain⟨b,hb⟩:∃b,l[i]? =some b:=⟨_,zqD h⟩
  have hat:=qas hb;have hw:IntKind.i64.wrap ((i:Int)+1)=i+1:=wiz;simp[h,hat];refine qdM E _ _ b ?_;cases hf:qai b
  ·simp[hf];exact aQz hB (h6:=(fin _ (by rw[tokB,qd3 qai l i b hb hf];rfl)))
  ·simp[hf,hw];refine Klz ⟨rfl,i+1,by omega,?_,friz⟩;rw[qa8 qai l i b hb,hall,hf];rfl
 ·have:l.take i=l:=zqE (by omega);rw[this]at hall
  have ht:tokB l=decide (0<l.length):=by
   rw[tokB,hall];cases l<;>simp
  simp[h];exact aQz hB (h6:=(fin _ ht))
theorem qg1(l:List UInt8)(hl:l.length<=cap)(hQ:Q (.bool (qbm l)) H):PC Tryz.prog E 113 [.str l] H Q:=by
 refine qac Tryz.func113 rfl [] [] (by kernel_rfl) (fun hB=>?_);simp[Tryz.ntmps113,Tryz.results113,List.replicate_succ];refine qge E _ _ l hl ?_;cases ht:tokB l with
 |false=>
  have e:qbm l=false:=by unfold qbm;rw[ht];simp
  rw[e]at hQ;simp;exact aQz hB (h6:=hQ)
 |true=>
  have e:qbm l=decide ((l.length:Int)<=128):=by
   unfold qbm;rw[ht,Bool.and_true];by_cases h:l.length<=128
   ·rw[decide_eq_true h,decide_eq_true (by omega)]
   ·rw[decide_eq_false h,decide_eq_false (by omega)]
  rw[e]at hQ;simp;exact aQz hB (h6:=hQ)
def inInv(ls:List (List UInt8))(s:List UInt8)(H:Hp)(fr:List AV)(H':Hp):Prop:=H'=H/\∃i:Nat,i<=ls.length/\(ls.take i).contains s=false/\∃x:Nat->AV,fr=[x 0,.str s,x 2,x 3,x 4,x 5,x 6,.sl false 1 (strs ls),.int .i64 ls.length,.int .i64 i,x 10,x 11,x 12,x 13,x 14,x 15,x 16]
theorem in_pc(ls:List (List UInt8))(s:List UInt8)(hl:ls.length<=cap)(hQ:Q (.bool (ls.contains s)) H):PC Tryz.prog E 143 [.sl false 1 (strs ls),.str s] H Q:=by
 simp only[cap]at hl;refine qac Tryz.func143 rfl [] [] (by kernel_rfl) (fun hB=>?_);have fin:∀c:Bool,ls.contains s=c->Q (.bool c) H:=fun c hc=>hc▸hQ;simp[Tryz.ntmps143,Tryz.results143,List.replicate_succ,qmc];refine qaB (inInv ls s H) (fun fr _=>ls.length-(ai (aget fr 9)).toNat) ⟨rfl,0,by omega,rfl,friz⟩ ?_;rintro fr H' ⟨rfl,i,hi,hall,x,rfl⟩;by_cases h:i<ls.length
 ·obtain⟨b,hb⟩:∃b,ls[i]? =some b:=⟨_,zqD h⟩
  have hat:=qcW hb;have hw:IntKind.i64.wrap ((i:Int)+1)=i+1:=wiz;by_cases he:b=s
  ·simp[h,hat,he];refine aQz hB (h6:=(fin _ ?_));rw[List.contains_iff_mem,<-he];exact zqH hb
  ·have t1:(b==s)=false:=beq_eq_false_iff_ne.2 he;simp[h,hat,t1,hw];refine Klz ⟨rfl,i+1,by omega,?_,friz⟩;rw[List.take_add_one,hb];simp at hall;simp[hall];exact fun e=>he e.symm
 ·have:ls.take i=ls:=zqE (by omega);rw[this]at hall;simp[h];exact aQz hB (h6:=(fin _ hall))
theorem qie(l:List UInt8)(hl:l.length<=cap)(hQ:Q (.bool (mayB l)) H):PC Tryz.prog E 117 [.str l] H Q:=by
 refine qac Tryz.func117 rfl [] [] (by kernel_rfl) (fun hB=>?_);have hr12:(([0,1,2,3,4,5,6,7,8,9,10,11]:List Nat)=List.range 12)=True:=eq_true (by decide);simp[Tryz.ntmps117,Tryz.results117,List.replicate_succ,hr12];refine qg1 E _ _ l hl ?_;cases hn:qbm l with
 |false=>
  have e:mayB l=false:=by unfold mayB;rw[hn];rfl
  rw[e]at hQ;simp;exact aQz hB (h6:=hQ)
 |true=>
  have e:mayB l=!never.contains (low l):=by unfold mayB;rw[hn];rfl
  rw[e]at hQ;simp;refine qcv E _ _ l hl ?_;simp;refine in_pc E _ _ never (low l) (by simp[never,cap]) ?_;simp[-List.contains_eq_mem];exact aQz hB (h6:=hQ)
end
theorem qlh(W:World)(s:ByteArray)(hs:s.size<=1048576):Rel W (fun _=>0) (old W) (.str s.data.toList) (.string s)/\Bnd 0 (.str s.data.toList)/\(AV.str s.data.toList).free=true:=
 ⟨.str _ _ rfl (by unfold maxLen;omega),.str _,rfl⟩
section
variable (E:Env)(H:Hp)(Q:AV->Hp->Prop)
def qui(l:List UInt8)(a:Nat)(H:Hp)(fr:List AV)(H':Hp):Prop:=H'=H/\∃n:Nat,a+n<=l.length/\((l.drop a).take n).all qaf=true/\∃x:Nat->AV,fr=[.str l,.int .i64 (a+n:Nat),x 2,x 3,x 4,x 5,x 6,x 7,x 8,x 9,x 10,x 11,x 12,x 13,x 14,x 15,x 16,x 17]
theorem qpc(l:List UInt8)(a:Nat)(hl:l.length<=cap)(ha:a<=l.length)(hQ:Q (.int .i64 (a+run qaf (l.drop a):Nat)) H):PC Tryz.prog E 169 [.str l,.int .i64 a] H Q:=by
 simp only[cap]at hl;refine qac Tryz.func169 rfl [] [] (by kernel_rfl) (fun hB=>?_);have fin:∀n:Nat,run qaf (l.drop a)=n->Q (.int .i64 (a+n:Nat)) H:=fun n hn=>hn▸hQ;simp[Tryz.ntmps169,Tryz.results169,List.replicate_succ];refine qaB (qui l a H) (fun fr _=>l.length-(ai (aget fr 1)).toNat) ⟨rfl,0,by omega,rfl,friz⟩ ?_;rintro fr H' ⟨rfl,n,hn,hall,x,rfl⟩;obtain⟨i,hi⟩:∃i,i=a+n:=⟨_,rfl⟩
 rw[<-hi]at hn⊢;have hw:IntKind.i64.wrap ((i:Int)+1)=i+1:=wiz;by_cases h:i<l.length
 ·obtain⟨b,hb⟩:∃b,l[i]? =some b:=⟨_,zqD h⟩
  have hb2:(l.drop a)[n]? =some b:=by rw[zqN,<-hi];exact hb
  have hat:=qas hb;simp[h,hat];refine qa9 E _ _ b ?_;cases hf:qaf b
  ·simp[hf];have:=fin n (qby qaf _ n hall (by rw[zqI];omega) (fun c hc=>by rw[hb2]at hc;cases hc;exact hf));rw[<-hi]at this;exact aQz hB (h6:=this)
  ·simp[hf,hw];exact Klz ⟨rfl,n+1,by omega,by rw[qbB qaf (l.drop a) n b hb2,hall,hf];rfl,qag (by simp;omega)⟩
 ·simp[h];have:=fin n (qby qaf _ n hall (by rw[zqI];omega) (fun c hc=>by rw[zqN]at hc;have:=(zqC.1 hc).1;omega));rw[<-hi]at this;exact aQz hB (h6:=this)
def qnv(p:UInt8->Bool)(l:List UInt8)(a:Nat)(H:Hp)(fr:List AV)(H':Hp):Prop:=H'=H/\∃n:Nat,a+n<=l.length/\((l.drop a).take n).all p=true/\∃x:Nat->AV,fr=[.str l,.int .i64 a,x 2,x 3,x 4,.int .i64 n,x 6,x 7,x 8,x 9,x 10,x 11,x 12,x 13,x 14,x 15,x 16,x 17,x 18,x 19,x 20,x 21,x 22]
theorem qoN(l:List UInt8)(a:Nat)(hl:l.length<=cap)(ha:a<=l.length)(hQ:Q (.int .i64 (run qai (l.drop a):Nat)) H):PC Tryz.prog E 170 [.str l,.int .i64 a] H Q:=by
 simp only[cap]at hl;refine qac Tryz.func170 rfl [] [] (by kernel_rfl) (fun hB=>?_);have fin:∀n:Nat,run qai (l.drop a)=n->Q (.int .i64 n) H:=fun n hn=>hn▸hQ;simp[Tryz.ntmps170,Tryz.results170,List.replicate_succ];refine qaB (qnv qai l a H) (fun fr _=>l.length-(ai (aget fr 5)).toNat) ⟨rfl,0,by omega,rfl,friz⟩ ?_;rintro fr H' ⟨rfl,n,hn,hall,x,rfl⟩;obtain⟨i,hi⟩:∃i,i=a+n:=⟨_,rfl⟩
 have hw0:IntKind.i64.wrap ((a:Int)+n)=(i:Int):=by rw[qak (by omega) (by omega)];omega
 have hw:IntKind.i64.wrap ((n:Int)+1)=n+1:=wiz;by_cases h:i<l.length
 ·obtain⟨b,hb⟩:∃b,l[i]? =some b:=⟨_,zqD h⟩
  have hb2:(l.drop a)[n]? =some b:=by rw[zqN,<-hi];exact hb
  have hat:=qas hb;simp[hw0,h,hat];refine qdM E _ _ b ?_;cases hf:qai b
  ·simp[hf];refine aQz hB (h6:=(fin n (qby qai _ n hall (by rw[zqI];omega) (fun c hc=>?_))));rw[hb2]at hc;cases hc;exact hf
  ·simp[hf,hw];exact Klz ⟨rfl,n+1,by omega,by rw[qbB qai (l.drop a) n b hb2,hall,hf];rfl,friz⟩
 ·simp[hw0,h];refine aQz hB (h6:=(fin n (qby qai _ n hall (by rw[zqI];omega) (fun c hc=>?_))));rw[zqN]at hc;have:=(zqC.1 hc).1;omega
theorem qef(b:UInt8)(hQ:Q (.bool (fcB b)) H):PC Tryz.prog E 101 [.int .u8 (b.toNat:Int)] H Q:=by
 refine qac Tryz.func101 rfl [] [] (by kernel_rfl) (fun hB=>?_);have fin:∀c:Bool,fcB b=c->Q (.bool c) H:=fun c hc=>hc▸hQ;have hb:=b.toNat_lt;have hi:=qhw b;by_cases h9:b.toNat=9
 ·have t1:((b.toNat:Int)==9)=true:=by simp;omega
  simp[Tryz.ntmps101,Tryz.results101,List.replicate_succ,t1];exact aQz hB (h6:=(fin _ (by rw[hi];simp[h9])))
 ·have t1:((b.toNat:Int)==9)=false:=by simp;omega
  by_cases h32:32<=b.toNat
  ·have t2:(32:Int)<=b.toNat:=by omega
   by_cases h127:b.toNat=127
   ·have t3:((b.toNat:Int) !=127)=false:=by simp;omega
    simp[Tryz.ntmps101,Tryz.results101,List.replicate_succ,t1,t2,t3];exact aQz hB (h6:=(fin _ (by rw[hi];simp[h127])))
   ·have t3:((b.toNat:Int) !=127)=true:=by simp;omega
    simp[Tryz.ntmps101,Tryz.results101,List.replicate_succ,t1,t2,t3];exact aQz hB (h6:=(fin _ (by rw[hi];simp[h127,h32])))
  ·have t2:¬(32:Int)<=b.toNat:=by omega
   simp[Tryz.ntmps101,Tryz.results101,List.replicate_succ,t1,t2];exact aQz hB (h6:=(fin _ (by rw[hi];simp[h9,h32])))
def quInv(l:List UInt8)(H:Hp)(fr:List AV)(H':Hp):Prop:=H'=H/\∃(k:Nat) (acc:List UInt8),1<=k/\k<=l.length/\qd8 l acc k/\∃x:Nat->AV,fr=[.str l,x 1,x 2,.int .i64 k,x 4,x 5,x 6,x 7,x 8,x 9,x 10,x 11,x 12,x 13,x 14,x 15,x 16,x 17,x 18,x 19,x 20,x 21,x 22,x 23,x 24,x 25,x 26,x 27,x 28,x 29,x 30]
theorem qjZ(l:List UInt8)(hl:l.length<=35184372088832)(H0:l[0]? =some 34)(hQ:Q (.int .i64 (qaU l).2.1) H):PC Tryz.prog E 162 [.str l] H Q:=by
 refine qac Tryz.func162 rfl [] [] (by kernel_rfl) (fun hB=>?_);have bad:qaU l=([],0,13)->Q (.int .i64 0) H:=fun h=>by rw[h]at hQ;exact hQ
 have hl0:=(zqC.1 H0).1;simp[Tryz.ntmps162,Tryz.results162,List.replicate_succ];refine qaB (quInv l H) (fun fr _=>l.length-(ai (aget fr 3)).toNat) ⟨rfl,1,[],by omega,hl0,qeN l,friz⟩ ?_;rintro fr H' ⟨rfl,k,acc,hk1,hk,hu,x,rfl⟩;have hw:IntKind.i64.wrap ((k:Int)+1)=k+1:=wiz;by_cases h:k<l.length
 ·obtain⟨b,hb⟩:∃b,l[k]? =some b:=⟨_,zqD h⟩
  have hat:=qas hb;by_cases b34:b.toNat=34
  ·have hx34:b=34:=UInt8.toNat_inj.1 b34;have t1:((b.toNat:Int)==34)=true:=by simp;omega
   have ha:=qgJ hu hk1 (by rw[hb,hx34]) H0;rw[ha]at hQ;simp[h,hat,t1,hw];exact aQz hB (h6:=hQ)
  ·have t1:((b.toNat:Int)==34)=false:=by simp;omega
   by_cases b92:b.toNat=92
   ·have hx92:b=92:=UInt8.toNat_inj.1 b92;have t2:((b.toNat:Int)==92)=true:=by simp;omega
    have hb':l[k]? =some 92:=by rw[hb,hx92]
    by_cases h2:k+1<l.length
    ·obtain⟨d,hd⟩:∃d,l[k+1]? =some d:=⟨_,zqD h2⟩
     have hat2:lat l (k+1)=some d:=qas hd;have htn:((k:Int)+1).toNat=k+1:=by omega
     have hge:(((k:Int)+1)==(l.length:Int))=false:=by rw[beq_eq_false_iff_ne];omega
     have h0k:(0:Int)<=(k:Int)+1:=by omega
     have hw2:IntKind.i64.wrap ((k:Int)+1+1)=k+2:=wiz;simp[h,hat,t1,t2,hw,hge,hat2,h0k,htn];refine qef E _ _ d ?_;cases hf:fcB d
     ·simp[hf];exact aQz hB (h6:=(bad (qcu hu (qga hb' hd hf) H0)))
     ·simp[hf,hw2];exact Klz ⟨rfl,k+2,acc++[d],by omega,by omega,qgI hu hk1 hb' hd hf,friz⟩
    ·have hge:(((k:Int)+1)==(l.length:Int))=true:=by rw[beq_iff_eq];omega
     simp[h,hat,t1,t2,hw,hge];exact aQz hB (h6:=(bad (qcu hu (qe7 hb' (by omega)) H0)))
   ·have t2:((b.toNat:Int)==92)=false:=by simp;omega
    have ne1:b≠34:=by rintro rfl;exact b34 rfl
    have ne2:b≠92:=by rintro rfl;exact b92 rfl
    simp[h,hat,t1,t2];refine qef E _ _ b ?_;cases hf:fcB b
    ·simp[hf];exact aQz hB (h6:=(bad (qcu hu (qeJ hb ne1 ne2 hf) H0)))
    ·simp[hf,hat,hw];exact Klz ⟨rfl,k+1,acc++[b],by omega,by omega,qeO hu hk1 hb ne1 ne2 hf,friz⟩
 ·simp[h];exact aQz hB (h6:=(bad (qcu hu (qgb (by omega)) H0)))
theorem qfR{l acc x:List UInt8}{k n:Nat}(hu:qd8 l acc k)(hk:1<=k)(h0:l[0]? =some 34)(hun:unquote l=some (x,n)):∃y m,unq (l.drop k)=some (y,m)/\x=acc++y/\m+k=n/\y.length+1<=m:=by
 unfold qd8 at hu;rw[show l=34::l.drop 1 from qay l 0 34 h0,unquote,if_pos rfl]at hun;rw[hu]at hun;cases hq:unq (l.drop k)with
 |none=>rw[hq]at hun;cases hun
 |some p=>
  rw[hq]at hun;simp at hun;obtain⟨rfl,rfl⟩:=hun;have:=qma _ (l.drop k) p.1 p.2 (Nat.le_refl _) hq;exact⟨p.1,p.2,rfl,rfl,by omega,this.2.2⟩
def saInv(l:List UInt8)(n:Nat)(H:Hp)(fr:List AV)(H':Hp):Prop:=H'=H/\∃(k:Nat) (acc:List UInt8) (z:AV),1<=k/\k+1<=n/\acc.length<=k/\qd8 l acc k/\(z= .sl true 1 (bts acc))/\∃x:Nat->AV,fr=[.str l,.int .i64 n,x 2,x 3,x 4,z,.int .i64 k,x 7,x 8,x 9,x 10,x 11,x 12,x 13,x 14,x 15,x 16,x 17,x 18,x 19,x 20,x 21,x 22,x 23,x 24,x 25,x 26]
theorem qt5(l x:List UInt8)(n:Nat)(hl:l.length<=35184372088832)(H0:l[0]? =some 34)(hun:unquote l=some (x,n))(hQ:Q (.str x) H):PC Tryz.prog E 171 [.str l,.int .i64 n] H Q:=by
 refine qac Tryz.func171 rfl [19] [] (by kernel_rfl) (fun hB=>?_);have hle:=qbQ hun;have hw1:IntKind.i64.wrap ((n:Int)-1)=n-1:=wiz;simp[Tryz.ntmps171,Tryz.results171,List.replicate_succ];refine qeo 5 1 (by rfl) ?_;simp only[List.set_cons_succ,List.set_cons_zero];refine qaB (saInv l n H) (fun fr _=>n-(ai (aget fr 6)).toNat) ⟨rfl,1,[],_,by omega,by omega,by simp,qeN l,rfl,qag (by simp[bts])⟩ ?_;rintro fr H' ⟨rfl,k,acc,z,hk1,hk,hacc,hu,rfl,y,rfl⟩;obtain⟨r,m,hr,hx,hmk,hrm⟩:=qfR hu hk1 H0 hun;have hm1:acc.length+1<=maxLen/\acc.length+1<=140737488355328:=by unfold maxLen;omega
 have hw:IntKind.i64.wrap ((k:Int)+1)=k+1:=wiz;by_cases h:k+1<n
 ·have h':(k:Int)<(n:Int)-1:=by omega
  have hkl:k<l.length:=by omega
  obtain⟨b,hb⟩:∃b,l[k]? =some b:=⟨_,zqD hkl⟩
  have hat:=qas hb;have hd:=qay l k b hb;rw[hd]at hr
  have b34:b≠34:=by
   rintro rfl;rw[show unq (34::l.drop (k+1))=some ([],1)by unfold unq;rw[if_pos rfl]]at hr;cases hr;omega
  by_cases b92:b=92
  ·subst b92;have t2:(((92:UInt8).toNat:Int)==92)=true:=rfl;have h2:k+1<l.length:=by omega
   obtain⟨d,hdd⟩:∃d,l[k+1]? =some d:=⟨_,zqD h2⟩
   have hat2:lat l (k+1)=some d:=qas hdd;have htn:((k:Int)+1).toNat=k+1:=by omega
   have h0k:(0:Int)<=(k:Int)+1:=by omega
   have hw2:IntKind.i64.wrap ((k:Int)+1+1)=k+2:=wiz
   have hf:fcB d=true:=by
    rw[qay l (k+1) d hdd,qiT]at hr;cases hc:fcB d
    ·rw[hc]at hr;simp at hr
    ·rfl
   have hu2:=qgI hu hk1 hb hdd hf;obtain⟨r2,m2,_,_,hmk2,hrm2⟩:=qfR hu2 (by omega) H0 hun;have hsn:bts acc++[[AV.int .u8 (d.toNat:Int)]]=bts (acc++[d]):=qcM acc d;have hat':lat l k=some 92:=hat;simp[hw1,h',hat',hw,hat2,h0k,htn,hm1,hsn,hw2];exact Klz ⟨rfl,k+2,acc++[d],_,by omega,by omega,by simp;omega,hu2,rfl,friz⟩
  ·have t2:((b.toNat:Int)==92)=false:=qdl b 92 (by decide) b92
   have hf:fcB b=true:=by
    rw[qgH _ _ b34 b92]at hr;cases hc:fcB b
    ·rw[hc]at hr;simp at hr
    ·rfl
   have hu2:=qeO hu hk1 hb b34 b92 hf;obtain⟨r2,m2,_,_,hmk2,hrm2⟩:=qfR hu2 (by omega) H0 hun;simp[hw1,h',hat,t2,hw,hm1,qcM];exact Klz ⟨rfl,k+1,acc++[b],_,by omega,by omega,by simp;omega,hu2,rfl,friz⟩
 ·have hn:n=k+1:=by omega
  have hr0:r=[]:=List.length_eq_zero_iff.1 (by omega);have h':¬(k:Int)<(n:Int)-1:=by omega
  have hxa:x=acc:=by rw[hx,hr0,List.append_nil]
  have hml:acc.length<=maxLen:=by unfold maxLen;omega
  rw[hxa]at hQ;simp[hw1,h',hml];exact aQz hB (h6:=hQ)
end
end Go.Proofs.YtnnhdehmlkkfjaaGreatDoor
