/- Part 9 of the texts below the law. -/
import Derived.Test.YtnnhdehmlkkfjaaGreatDoorPe8
import Derived.Shelf.Strings.Cut
import Derived.Shelf.Strings.IndexAnyAll
import Derived.Shelf.Strings.Prefix
import Derived.Shelf.Strings.Search3
import Derived.Shelf.Strings.Split
import Derived.Test.YtnnhdehmlkkfjaaGreatDoorProg
import Derived.KernelRfl
set_option maxRecDepth 100000
set_option maxHeartbeats 16000000
set_option linter.unusedVariables false
set_option linter.unnecessarySimpa false
set_option linter.unusedSimpArgs false
set_option linter.unusedSectionVars false
namespace Go.Proofs.YtnnhdehmlkkfjaaGreatDoor
open Go Go.RowKit Go.Proofs
theorem quY(x:List UInt8):0<=(qae 10 1099511627776 x).1/\(qae 10 1099511627776 x).1<=1099511627776:=by
 unfold qae;split
 ·simp
 ·split
  ·simp
  ·split
   ·simp
   ·rename_i h1 h2 h3;have h:=qbw 10 (by omega) x (by simpa using h2);simp only;omega
theorem qqc{x:List UInt8}(h:(qae 10 1099511627776 x).2=0):decA x=(qae 10 1099511627776 x).1:=by unfold decA;rw[if_pos h]
theorem qjp{x:List UInt8}(h:(qae 10 1099511627776 x).2≠0):decA x= -1:=by unfold decA;rw[if_neg h]
section
variable (E:Env)(H:Hp)(Q:AV->Hp->Prop)
def lenOk(acc:List (List UInt8))(i:Nat)(m:Int):Prop:=(i=0/\m=0)\/(0<i/\0<=m/\∀y∈acc.take i,decA y=m)
def lenInv(acc:List (List UInt8))(b:Nat)(c:Nat)(H3:Hp)(fr:List AV)(H':Hp):Prop:=H'=H3/\∃(i:Nat) (m:Int),i<=acc.length/\lenOk acc i m/\m<=1099511627776/\
 ∃x:Nat->AV,fr=[x 0,x 1,x 2,x 3,x 4,x 5,x 6,.int .i64 m,x 8,x 9,x 10,x 11,x 12,x 13,x 14,x 15,x 16,x 17,x 18,x 19,x 20,x 21,x 22,x 23,x 24,x 25,x 26,x 27,.bx b 0 acc.length c 1,.int .i64 acc.length,.int .i64 i,x 31,x 32,x 33,x 34,x 35,x 36,x 37,x 38,x 39,x 40,x 41,x 42,x 43,x 44,x 45,x 46,x 47,x 48,x 49,x 50,x 51,x 52,x 53]
theorem qpp(l:List Fld)(hl:fsz l+l.length<=4194304)(hQ:Q (.tup [.int .i64 (qaG l).1,.bool (qaG l).2.1,.int .i64 (qaG l).2.2]) H):PC Tryz.prog E 77 [.sl false 2 (flds l)] H Q:=by
 refine qac Tryz.func77 rfl [] [] (by kernel_rfl) (fun hB=>?_);have fin:∀a:Int×Bool×Int,qaG l=a->Q (.tup [.int .i64 a.1,.bool a.2.1,.int .i64 a.2.2]) H:=fun a ha=>ha▸hQ;have hvz:=qdJ l nCL;have hcn:nCL.length<=cap:=by simp[nCL,cap]
 simp[Tryz.ntmps77,Tryz.results77,List.replicate_succ];refine qkV E _ _ l nCL (by omega) hcn ?_;by_cases h0:allB l nCL=[]
 ·have e:qaG l=(0,false,0):=by unfold qaG;rw[if_pos h0]
  have hs0:strs ([]:List (List UInt8))=[]:=rfl;simp[h0,hs0];exact aQz hB (h6:=(fin _ e))
 have h0':(((allB l nCL).length:Int)==0)=false:=by
  rw[beq_eq_false_iff_ne];intro e;exact h0 (List.length_eq_zero_iff.1 (by omega))
 simp[h0'];refine qmN E _ _ l nCL hl hcn (fun hno=>?_) (fun acc v H' hacc hS=>?_)
 ·have e:qaG l=(0,false,66):=by unfold qaG;rw[if_neg h0,hno]
  simp;exact aQz hB (h6:=(fin _ e))
 have hlen:=qca _ _ hacc;have hmem:=qdC _ _ hacc;obtain⟨J,rfl,hJ,⟨rfl,rfl⟩|⟨J1,tail,rfl,rfl,htl⟩⟩:=hS
 ·have e:qaG l=(0,false,66):=by unfold qaG;rw[if_neg h0,hacc]
  simp;exact qab hB rfl (qaa _) (by simp) (fin _ e)
 cases acc with
 |nil=>
  have e:qaG l=(0,false,66):=by unfold qaG;rw[if_neg h0,hacc]
  simp;exact qab hB rfl (qaa _) (by simp) (fin _ e)
 |cons w ws=>
  have e:qaG l=if decA w<0\/(ws.all fun y=>decide (decA y=decA w))=false then(0,false,66)else(decA w,true,0):=by unfold qaG;rw[if_neg h0,hacc]
  obtain⟨acc,ha⟩:=exz (w::ws);have hal:0<acc.length:=by rw[<-ha];simp
  have ha0:acc[0]? =some w:=by rw[<-ha];rfl
  rw[ha]at hlen hmem hJ htl hacc;have hlz:((acc.length:Int)==0)=false:=by rw[beq_eq_false_iff_ne];omega
  rw[ha];simp[hlz];refine qaB (lenInv acc (H.length+J1.length) (acc.length+tail.length) (H++(J1++[strL acc++tail]))) (fun fr _=>acc.length-(ai (aget fr 30)).toNat) ⟨rfl,0,0,by omega,.inl ⟨rfl,rfl⟩,by omega,friz⟩ ?_;rintro fr H' ⟨rfl,i,m,hi,hok,hm,x,rfl⟩;by_cases h:i<acc.length
  ·obtain⟨u,hu⟩:∃u,acc[i]? =some u:=⟨_,zqD h⟩
   have hul:=hmem u (zqH hu);have hget:∀r:List AV,(H++(J1++[r]))[H.length+J1.length]? =some r:=fun r=>by rw[<-List.append_assoc,zqB (by simp)];simp
   have hat:(strL acc++tail)[i]? =some (.str u):=by
    rw[zqA (by rw[qdL];exact h)];unfold strL;rw[List.getElem?_map,hu];rfl
   have hw:IntKind.i64.wrap ((i:Int)+1)=i+1:=wiz;have hrng:=quY u;have hwm:¬m< -9223372036854775808:=by rcases hok with⟨_,h⟩|⟨_,h,_⟩<;>omega
   have hwA:decA w<0\/(ws.all fun y=>decide (decA y=decA w))=false\/∀y∈acc,decA y=decA w:=by
    by_cases h2:(ws.all fun y=>decide (decA y=decA w))=false
    ·exact .inr (.inl h2)
    ·refine .inr (.inr (fun y hy=>?_));rw[<-ha]at hy;rcases List.mem_cons.1 hy with rfl|hy
     ·rfl
     ·rw[Bool.not_eq_false]at h2;have:=List.all_eq_true.1 h2 y hy;simpa using this
   have hbad:(decA u<0\/(0<i/\decA u≠m))->qaG l=(0,false,66):=fun hb=>by
    rw[e];apply if_pos;rcases hwA with h|h|h
    ·exact .inl h
    ·exact .inr h
    ·left;have h1:=h u (zqH hu);rcases hb with hb|⟨hb,hne⟩
     ·omega
     ·exfalso;rcases hok with⟨h0,_⟩|⟨_,_,h3⟩
      ·omega
      ·have h4:=h3 w (zqH (by rw[zqG hb];exact ha0));omega
   simp[h,hget,hat];refine qcU E _ _ u 1099511627776 (by simp only[cap];omega) (by omega) (by omega) ?_;by_cases hd:(qae 10 1099511627776 u).2=0
   ·have hdA:=qqc hd;by_cases hi0:i=0
    ·subst hi0;have hw0:IntKind.i64.wrap 1=1:=by decide
     simp[hd,hw0];refine Klz ⟨rfl,1,_,by omega,.inr ⟨by omega,hrng.1,fun y hy=>?_⟩,hrng.2,friz⟩
     have:acc.take 1=[u]:=by
      rw[show(1:Nat)=0+1 from rfl,List.take_add_one,hu];simp
     rw[this]at hy;simp at hy;subst hy;exact hdA
    ·have hig:0<i:=by omega
     by_cases hne:(qae 10 1099511627776 u).1=m
     ·simp[hd,hig,hne,hw];refine Klz ⟨rfl,i+1,m,by omega,.inr ⟨by omega,by rw[<-hne];exact hrng.1,fun y hy=>?_⟩,hm,friz⟩;rw[List.take_add_one,hu]at hy;rcases List.mem_append.1 hy with hy|hy
      ·rcases hok with⟨h0,_⟩|⟨_,_,h3⟩
       ·omega
       ·exact h3 y hy
      ·simp at hy;subst hy;rw[hdA,hne]
     ·have hne2:((qae 10 1099511627776 u).1 !=m)=true:=by simpa using hne
      simp[hd,hig,hne2];exact qab hB rfl (qaa _) (by simp) (fin _ (hbad (.inr ⟨hig,by rw[hdA];exact hne⟩)))
   ·have hd2:((qae 10 1099511627776 u).2 !=0)=true:=by simpa using hd
    simp[hd2];exact qab hB rfl (qaa _) (by simp) (fin _ (hbad (.inl (by rw[qjp hd];omega))))
  ·obtain rfl:i=acc.length:=by omega
   have hres:qaG l=(m,true,0):=by
    rcases hok with⟨h0,_⟩|⟨_,h2,h3⟩
    ·omega
    ·rw[zqE (Nat.le_refl _)]at h3;have hw0:=h3 w (zqH ha0);rw[e,if_neg,hw0];intro hb;rcases hb with hb|hb
     ·omega
     ·rw[List.all_eq_false]at hb;obtain⟨y,hy,hy2⟩:=hb;have:=h3 y (by rw[<-ha];exact List.mem_cons_of_mem _ hy);exact hy2 (by rw[this,hw0];simp)
   simp;exact qab hB rfl (qaa _) (by simp) (fin _ hres)
theorem qnY(hE:SE E)(l:List Fld)(hl:fsz l+l.length<=4194304)(hQ:Q (.tup [.sl false 1 (strs (qaI l).1),.bool (qaI l).2.1,.int .i64 (qaI l).2.2]) H):PC Tryz.prog E 76 [.sl false 2 (flds l)] H Q:=by
 refine qac Tryz.func76 rfl [] [] (by kernel_rfl) (fun hB=>?_);have fin:∀a:List (List UInt8)×Bool×Int,qaI l=a->Q (.tup [.sl false 1 (strs a.1),.bool a.2.1,.int .i64 a.2.2]) H:=fun a ha=>ha▸hQ;have hcn:nTE.length<=cap:=by simp[nTE,cap]
 simp[Tryz.ntmps76,Tryz.results76,List.replicate_succ];refine qkV E _ _ l nTE (by omega) hcn ?_;by_cases h0:allB l nTE=[]
 ·have e:qaI l=([],false,0):=by unfold qaI;rw[if_pos h0]
  have hs0:strs ([]:List (List UInt8))=[]:=rfl;simp[h0,hs0];exact qaw hB (v0:= .tup [.nil,.bool false,.int .i64 0]) (by simp) (qdB 1 _ _ rfl rfl) (by simp) (fin _ e)
 have h0':(((allB l nTE).length:Int)==0)=false:=by
  rw[beq_eq_false_iff_ne];intro e;exact h0 (List.length_eq_zero_iff.1 (by omega))
 simp[h0'];refine qgQ E _ _ hE l nTE hl hcn ?_;by_cases he:(qb6 l nTE).2=0
 ·have e:qaI l=((qb6 l nTE).1,true,0):=by unfold qaI;rw[if_neg h0,if_pos he]
  simp[he];exact qaw hB (v0:= .tup [.sl false 1 (strs (qb6 l nTE).1),.bool true,.int .i64 0]) (by simp) (qaa _) (by simp[qcN]) (fin _ e)
 ·have e:qaI l=([],false,67):=by unfold qaI;rw[if_neg h0,if_neg he]
  have he2:((qb6 l nTE).2 !=0)=true:=by simpa using he
  simp[he2];exact qaw hB (v0:= .tup [.nil,.bool false,.int .i64 67]) (by simp) (qdB 1 _ _ rfl rfl) (by simp) (fin _ e)
theorem qm0(l:List Fld)(hl:fsz l+l.length<=4194304):(qaI l).1.length<=4194304:=by
 have:=qoF l nTE;unfold qaI;split
 ·simp
 ·split
  ·simp only;omega
  ·simp
theorem qiE{l:List Fld}{old:Bool}{cs:List (List UInt8)}{cd:Bool}{ce n:Int}{tl:Bool}{f:Int}(h1:qaI l=(cs,cd,ce))(h2:qaG l=(n,tl,f)):
  qaj l old=if ce≠0\/(cd=true/\(old=true\/cs≠[qb2]))then(0,0,67)else if f≠0 then(0,0,f)else if cd=true/\tl=true then(0,0,68)else if cd=true then(2,0,0)else if tl=true then(1,n,0)else(0,0,0):=by
 unfold qaj;rw[h1,h2]
theorem qfZ(hE:SE E)(l:List Fld)(old:Bool)(hl:fsz l+l.length<=4194304)(hQ:Q (.tup [.agg [.int .i64 (qaj l old).1,.int .i64 (qaj l old).2.1],.int .i64 (qaj l old).2.2]) H):PC Tryz.prog E 54 [.sl false 2 (flds l),.bool old] H Q:=by
 have fin:∀a:Int×Int×Int,qaj l old=a->Q (.tup [.agg [.int .i64 a.1,.int .i64 a.2.1],.int .i64 a.2.2]) H:=fun a ha=>ha▸hQ;have hcl:=qm0 l hl;refine qac Tryz.func54 rfl [] [] (by kernel_rfl) (fun hB=>?_);simp[Tryz.ntmps54,Tryz.results54,List.replicate_succ];refine qnY E _ _ hE l hl ?_;simp;refine qpp E _ _ l hl ?_;obtain⟨⟨cs,cd,ce⟩,hC⟩:=exz (qaI l);obtain⟨⟨n,tl,f⟩,hL⟩:=exz (qaG l);have hF:=qiE (old:=old) hC hL;rw[hC]at hcl;rw[hC,hL];simp only at hcl⊢;have hce:(ce !=0)=decide (ce≠0):=by rw[Bool.eq_iff_iff];simp
 have hfe:(f !=0)=decide (f≠0):=by rw[Bool.eq_iff_iff];simp
 by_cases h1:ce=0;rotate_left
 ·rw[if_pos (.inl h1)]at hF;have h1':(ce !=0)=true:=by simpa using h1
  simp[h1'];exact qab hB (v0:= .tup [.agg [.int .i64 0,.int .i64 0],.int .i64 67]) (by simp) (qaa _) (by simp) (fin _ hF)
 subst h1;cases cd with
 |true=>
  cases old with
  |true=>
   rw[if_pos (.inr ⟨rfl,.inl rfl⟩)]at hF;simp;exact qab hB (v0:= .tup [.agg [.int .i64 0,.int .i64 0],.int .i64 67]) (by simp) (qaa _) (by simp) (fin _ hF)
  |false=>
   by_cases h2:cs=[qb2]
   ·subst h2;rw[if_neg (by simp)]at hF;have hat:lat (strs [qb2]) 0=some [.str qb2]:=rfl;have hv:(qb2 !=[99,104,117,110,107,101,100])=false:=by decide
    by_cases h3:f=0
    ·subst h3;rw[if_neg (by simp)]at hF;cases tl with
     |true=>
      rw[if_pos ⟨rfl,rfl⟩]at hF;simp[hat,hv];exact qab hB (v0:= .tup [.agg [.int .i64 0,.int .i64 0],.int .i64 68]) (by simp) (qaa _) (by simp) (fin _ hF)
     |false=>
      rw[if_neg (by simp),if_pos rfl]at hF;simp[hat,hv];exact qab hB (v0:= .tup [.agg [.int .i64 2,.int .i64 0],.int .i64 0]) (by simp) (qaa _) (by simp) (fin _ hF)
    ·rw[if_pos h3]at hF;have h3':(f !=0)=true:=by simpa using h3
     simp[hat,hv,h3'];exact qab hB (v0:= .tup [.agg [.int .i64 0,.int .i64 0],.int .i64 f]) (by simp) (qaa _) (by simp) (fin _ hF)
   ·rw[if_pos (.inr ⟨rfl,.inr h2⟩)]at hF
    match cs,h2 with
    |[],_=>
     simp;exact qab hB (v0:= .tup [.agg [.int .i64 0,.int .i64 0],.int .i64 67]) (by simp) (qaa _) (by simp) (fin _ hF)
    |[c],h2=>
     have hat:lat (strs [c]) 0=some [.str c]:=rfl;have hv:(c !=[99,104,117,110,107,101,100])=true:=by simpa[qb2]using h2
     simp[hat,hv];exact qab hB (v0:= .tup [.agg [.int .i64 0,.int .i64 0],.int .i64 67]) (by simp) (qaa _) (by simp) (fin _ hF)
    |c::d::r,_=>
     have hl:((r.length:Int)+1+1 !=1)=true:=by rw[bne_iff_ne];omega
     simp[hl];exact qab hB (v0:= .tup [.agg [.int .i64 0,.int .i64 0],.int .i64 67]) (by simp) (qaa _) (by simp) (fin _ hF)
 |false=>
  by_cases h3:f=0
  ·subst h3;cases tl with
   |true=>
    rw[if_neg (by simp),if_neg (by simp),if_neg (by simp),if_neg (by simp),if_pos rfl]at hF;simp;exact qab hB (v0:= .tup [.agg [.int .i64 1,.int .i64 n],.int .i64 0]) (by simp) (qaa _) (by simp) (fin _ hF)
   |false=>
    rw[if_neg (by simp),if_neg (by simp),if_neg (by simp),if_neg (by simp),if_neg (by simp)]at hF;simp;exact qab hB (v0:= .tup [.agg [.int .i64 0,.int .i64 0],.int .i64 0]) (by simp) (qaa _) (by simp) (fin _ hF)
  ·rw[if_neg (by simp),if_pos h3]at hF;have h3':(f !=0)=true:=by simpa using h3
   simp[h3'];exact qab hB (v0:= .tup [.agg [.int .i64 0,.int .i64 0],.int .i64 f]) (by simp) (qaa _) (by simp) (fin _ hF)
end
theorem qu5(out:List UInt8)(tail:List AV):chop 1 out.length (u8L out++tail)=bts out:=by
 rw[qjv _ _ (by simp),List.take_append_of_le_length (by simp),zqE (by simp)];unfold u8L bts;rw[List.map_map];rfl
theorem qgi{b:List UInt8}(h:b≠[])(n:Int)(ns:List Int):qan b (n::ns)=b.take n.toNat::qan (b.drop n.toNat) ns:=by rw[qan,if_neg h]
theorem qgh{b:List UInt8}(h:b≠[]):qan b []=[b]:=by rw[qan,if_neg h]
theorem qgq(p:List UInt8)(ps:List (List UInt8)):qaq (p::ps)=qbF p++qaq ps:=by simp[qaq]
section
variable (E:Env)(H:Hp)(Q:AV->Hp->Prop)
def quO(body:List UInt8)(ns:List Int)(ts:List Fld)(H:Hp)(fr:List AV)(H':Hp):Prop:=H'=H/\∃i:Nat,i<=ns.length/\qcA (ns.take i)=true/\
 ∃x:Nat->AV,fr=[.str body,.sl false 1 (ints ns),.sl false 2 (flds ts),x 3,x 4,x 5,x 6,x 7,x 8,x 9,x 10,x 11,x 12,x 13,x 14,x 15,x 16,x 17,.sl false 1 (ints ns),.int .i64 ns.length,.int .i64 i,x 21,x 22,x 23,x 24,x 25,x 26,x 27,x 28,x 29,x 30,x 31,x 32,x 33,x 34,x 35,x 36,x 37,x 38,x 39,x 40,x 41,x 42,x 43,x 44,x 45,x 46,x 47,x 48,x 49,x 50,x 51,x 52,x 53,x 54,x 55,x 56,x 57,x 58,x 59,x 60,x 61,x 62,x 63,x 64,x 65,x 66,x 67,x 68,x 69,x 70,x 71,x 72,x 73,x 74,x 75,x 76,x 77,x 78,x 79,x 80,x 81,x 82]
def quN(body:List UInt8)(ns:List Int)(ts:List Fld)(H:Hp)(fr:List AV)(H':Hp):Prop:=∃(J2:Hp) (i:Nat),i<=ts.length/\H'=H++([.bl TB,.bf TU (qav (ts.take i))]::J2)/\(∀l∈J2,∀x∈l,∃s,x= .str s)/\(ts.take i).all qbj=true/\
 ∃x:Nat->AV,fr=[.str body,.sl false 1 (ints ns),x 2,x 3,x 4,x 5,x 6,x 7,x 8,x 9,.ptr (some (H.length,0)),x 11,x 12,x 13,x 14,x 15,x 16,x 17,x 18,x 19,x 20,x 21,x 22,x 23,x 24,x 25,x 26,.sl false 2 (flds ts),.int .i64 ts.length,.int .i64 i,x 30,x 31,x 32,x 33,x 34,x 35,x 36,x 37,x 38,x 39,x 40,x 41,x 42,x 43,x 44,x 45,x 46,x 47,x 48,x 49,x 50,x 51,x 52,x 53,x 54,x 55,x 56,x 57,x 58,x 59,x 60,x 61,x 62,x 63,x 64,x 65,x 66,x 67,x 68,x 69,x 70,x 71,x 72,x 73,x 74,x 75,x 76,x 77,x 78,x 79,x 80,x 81,x 82]
def quM(body:List UInt8)(ns:List Int)(H0:Hp)(hn:Nat)(fr:List AV)(H':Hp):Prop:=∃(i:Nat) (b out:List UInt8) (v:AV),i<=ns.length/\ql3 H0 v out H'/\out++qaq (qan b (ns.drop i))=qaq (qan body ns)/\b.length<=body.length/\
 ∃x:Nat->AV,fr=[.str b,x 1,x 2,x 3,x 4,x 5,x 6,x 7,x 8,x 9,.ptr (some (hn,0)),x 11,x 12,x 13,x 14,v,x 16,x 17,x 18,x 19,x 20,x 21,x 22,x 23,x 24,x 25,x 26,x 27,x 28,x 29,x 30,x 31,x 32,x 33,x 34,x 35,x 36,x 37,x 38,x 39,x 40,x 41,x 42,x 43,x 44,x 45,x 46,x 47,x 48,x 49,.sl false 1 (ints ns),.int .i64 ns.length,.int .i64 i,x 53,x 54,x 55,x 56,x 57,x 58,x 59,x 60,x 61,x 62,x 63,x 64,x 65,x 66,x 67,x 68,x 69,x 70,x 71,x 72,x 73,x 74,x 75,x 76,x 77,x 78,x 79,x 80,x 81,x 82]
theorem qfU{H0:Hp}{v:AV}{out:List UInt8}{H:Hp}(h:ql3 H0 v out H):v.free=true/\v.dis=v:=by
 obtain⟨J,_,_,⟨rfl,_⟩|⟨J1,tail,_,rfl,_⟩⟩:=h<;>exact⟨rfl,rfl⟩
theorem qkK(hE:SZ E)(body:List UInt8)(ns:List Int)(ts:List Fld)(hb:body.length<=1048576)(hn:ns.length<=1048577)(ht:fsz ts+ts.length<=1048577)(hr:∀z∈ns,-9223372036854775808<=z/\z<=9223372036854775807)
  (hQ:Q (.tup [.str (qbh body ns ts).1,.int .i64 (qbh body ns ts).2]) H):PC Tryz.prog E 55 [.str body,.sl false 1 (ints ns),.sl false 2 (flds ts)] H Q:=by
 refine qg5 Tryz.func55 rfl [] [(7,[3]),(27,[5,H.length])] (by kernel_rfl) (fun id m hm=>?_) (fun hB=>?_)
 ·unfold ndOf at hm;split at hm
  ·cases hm
  ·unfold ndOf at hm;split at hm
   ·cases hm;exact Nat.le_refl _
   ·cases hm
 simp[Tryz.ntmps55,Tryz.results55,List.replicate_succ];refine qaB (quO body ns ts H) (fun fr _=>ns.length-(ai (aget fr 20)).toNat) ⟨rfl,0,by omega,rfl,friz⟩ ?_;rintro fr H' ⟨rfl,i,hi,hall,x,rfl⟩;by_cases h:i<ns.length
 ·obtain⟨z,hz⟩:∃z,ns[i]? =some z:=⟨_,zqD h⟩
  have hat:=qjd hz;have hw:IntKind.i64.wrap ((i:Int)+1)=i+1:=wiz
  have hst:qcA (ns.take (i+1))=(qcA (ns.take i)&&decide (1<=z)):=by
   unfold qcA;rw[List.take_add_one,hz,List.all_append];simp
  by_cases hz1:z<1
  ·have e:qbh body ns ts=([],1):=by
    unfold qbh;rw[if_pos];unfold qcA;rw[List.all_eq_false];exact⟨z,zqH hz,by simp;omega⟩
   rw[e]at hQ;simp[h,hat,hz1];exact aQz hB (h6:=hQ)
  ·simp[h,hat,hz1,hw];exact Klz ⟨rfl,i+1,by omega,by rw[hst,hall];simp;omega,friz⟩
 obtain rfl:i=ns.length:=by omega
 rw[zqE (Nat.le_refl _)]at hall;have hns:∀z∈ns,1<=z:=fun z hz=>by have:=List.all_eq_true.1 hall z hz;simpa using this
 clear hi h;simp;refine qaB (quN body ns ts H') (fun fr _=>ts.length-(ai (aget fr 29)).toNat) ⟨[],0,by omega,by simp[qav],by simp,by simp,friz⟩ ?_;rintro fr H2 ⟨J2,i,hi,rfl,hJ2,hts,x,rfl⟩;have hlin:=qcx (ts.take i);have hsz:=qgz ts i;rw[zqJ]at hlin;by_cases h:i<ts.length
 ·obtain⟨f,hf⟩:∃f,ts[i]? =some f:=⟨_,zqD h⟩
  have hat:=qdj hf;have hfm:=qeh hf;have hw:IntKind.i64.wrap ((i:Int)+1)=i+1:=wiz
  have hstop:qbj f=false->qbh body ns ts=([],101):=fun hr=>by
   unfold qbh;rw[if_neg (by rw[hall];simp),if_pos];rw[List.all_eq_false];exact⟨f,zqH hf,by rw[hr];simp⟩
  simp[h,hat];refine qgg E _ _ hE.1 f (by omega) (by omega) ?_;cases hnm:qbm f.name with
  |false=>
   have e:qa6 f=([],60):=by unfold qa6;rw[if_pos hnm]
   have hq:=hstop (by unfold qbj mayB;rw[hnm];simp);rw[hq]at hQ;simp[e];exact qab hB rfl (qaa _) (by simp) hQ
  |true=>
  cases hvl:qbY f.value with
  |false=>
   have e:qa6 f=([],61):=by unfold qa6;rw[if_neg (by rw[hnm];simp),if_pos hvl]
   have hq:=hstop (by unfold qbj;rw[hvl];simp);rw[hq]at hQ;simp[e];exact qab hB rfl (qaa _) (by simp) hQ
  |true=>
  have e:qa6 f=(qax f,0):=by unfold qa6;rw[if_neg (by rw[hnm];simp),if_neg (by rw[hvl];simp)]
  have hlt:=qfv f;simp[e];refine qhb E _ _ hE.1 f.name (by simp only[cap];omega) ?_;cases hmy:mayB f.name with
  |false=>
   have hq:=hstop (by unfold qbj;rw[hmy];simp);rw[hq]at hQ;simp;exact qab hB rfl (qaa _) (by simp) hQ
  |true=>
  have hrt:qbj f=true:=by unfold qbj;rw[hmy,hvl];rfl
  have m1:(qax f).length+1+1<=maxLen:=by unfold maxLen;omega
  have m2:(qax f).length+2<=maxLen:=by unfold maxLen;omega
  simp[m1,m2];refine qok E _ _ H'.length (qav (ts.take i)) (qax f++[13,10]) (by simp) (by simp;omega) ?_;rw[<-qdS ts i f hf];simp[hw];refine Klz ⟨J2++[[.str f.name,.str f.value]],i+1,by omega,by simp,fun l hl y hy=>?_,?_,friz⟩
  ·rcases List.mem_append.1 hl with h|h
   ·exact hJ2 l h y hy
   ·simp at h;subst h;simp at hy;rcases hy with rfl|rfl<;>exact⟨_,rfl⟩
  ·rw[qbB qbj ts i f hf,hts,hrt];rfl
 obtain rfl:i=ts.length:=by omega
 rw[zqE (Nat.le_refl _)]at hts hlin⊢
 have he:qbh body ns ts=(encT (qan body ns) ts,0):=by
  unfold qbh;rw[if_neg (by rw[hall];simp),if_neg (by rw[hts];simp)]
 rw[he]at hQ;simp only at hQ;clear hi h he hall hts;obtain⟨H0,hH0⟩:=exz (H'++([.bl TB,.bf TU (qav ts)]::J2));have hbl:∀J:Hp,(H0++J)[H'.length]? =some [.bl TB,.bf TU (qav ts)]:=fun J=>by rw[<-hH0];simp
 have hlH:H'.length<H0.length:=by rw[<-hH0];simp
 have hBH:∀N,H0.length<=N->∀l∈H0,∀y∈l,Bnd N y:=fun N hN l hl y hy=>by
  rw[<-hH0]at hl;rcases List.mem_append.1 hl with h|h
  ·exact(hB l h y hy).mono (by omega)
  ·rcases List.mem_cons.1 h with rfl|h
   ·simp at hy;rcases hy with rfl|rfl
    ·exact .bl _
    ·exact .bf _ _
   ·obtain⟨s,rfl⟩:=hJ2 l h y hy;exact .str _
 have hpf:(qan body ns).flatten=body:=qdR ns body;have htot:=qeC (qan body ns) (qfq ns body hns) (by rw[hpf];omega);rw[hpf]at htot;rw[hH0];simp;refine qaB (quM body ns H0 H'.length) (fun fr _=>ns.length-(ai (aget fr 52)).toNat) ⟨0,body,[],.nil,by omega,⟨[],by simp,by simp,.inl ⟨rfl,rfl⟩⟩,by simp,by omega,friz⟩ ?_;rintro fr H3 ⟨i,b,out,v,hi,hO,hsum,hbl2,x,rfl⟩
 have hol:out.length<=16*body.length:=by
  have:=congrArg List.length hsum;rw[zqK]at this;omega
 obtain⟨hvf,hvd⟩:=qfU hO;by_cases h:i<ns.length
 ·obtain⟨z,hz⟩:∃z,ns[i]? =some z:=⟨_,zqD h⟩
  have hat:=qjd hz;have hz1:=hns z (zqH hz);have hw:IntKind.i64.wrap ((i:Int)+1)=i+1:=wiz;have hdrop:ns.drop i=z::ns.drop (i+1):=by rw[List.drop_eq_getElem_cons h];simp[(zqC.1 hz).2]
  rw[hdrop]at hsum;by_cases hb0:b=[]
  ·subst hb0;simp[h,hat,hw];exact Klz ⟨i+1,[],out,v,by omega,hO,by rw[<-hsum,qdw,qdw],by simp,friz⟩
  ·have hb1:(b !=[])=true:=by simpa using hb0
   obtain⟨m,hm⟩:∃m:Nat,(if(b.length:Int)<z then(b.length:Int)else z)=m:=⟨(if(b.length:Int)<z then(b.length:Int)else z).toNat,by split<;>omega⟩
   have hml:m<=b.length:=by split at hm<;>omega
   have htk:b.take m=b.take z.toNat:=by
    split at hm
    ·rw[zqE (by omega),zqE (by omega)]
    ·rw[show m=z.toNat by omega]
   have hdk:b.drop m=b.drop z.toNat:=by
    split at hm
    ·rw[List.drop_of_length_le (by omega),List.drop_of_length_le (by omega)]
    ·rw[show m=z.toNat by omega]
   have hsum2:(out++qbF (b.take m))++qaq (qan (b.drop m) (ns.drop (i+1)))=qaq (qan body ns):=by
    rw[<-hsum,htk,hdk,qgi hb0,qgq,List.append_assoc]
   simp[h,hat,hb1,hm,hml,hvd];refine qs9 E _ _ hE H0 v out (b.take m) hO (by rw[zqJ];omega) (by omega) (fun v' H4 hO'=>?_);obtain⟨hvf',hvd'⟩:=qfU hO';have htl:(b.drop m).take (b.length-m)=b.drop m:=zqE (by rw[zqI];omega);simp[hml,hvd',hw,htl];exact Klz ⟨i+1,b.drop m,out++qbF (b.take m),v',by omega,hO',hsum2,by rw[zqI];omega,friz⟩
 obtain rfl:i=ns.length:=by omega
 rw[List.drop_of_length_le (Nat.le_refl _)]at hsum;simp;have fin:∀(x:Nat->AV) (b:List UInt8) (v:AV) (H4:Hp),ql3 H0 v (qaq (qan body ns)) H4->vc Tryz.prog E [] [(7,[3]),(27,[5,H'.length])] (Code.skip) (fun _ _ _=>True) [] []:=fun _ _ _ _ _=>trivial;have hm1:(qaq (qan body ns)).length+1<=maxLen:=by unfold maxLen;omega
 have hm2:(qaq (qan body ns)).length+1+2<=maxLen:=by unfold maxLen;omega
 have hm3:(qaq (qan body ns)).length+1+2+(qav ts).length<=maxLen:=by unfold maxLen;omega
 have hm4:(qaq (qan body ns)).length+1+2+(qav ts).length+2<=maxLen:=by unfold maxLen;omega
 clear fin;by_cases hb0:b=[]
 case' pos=>
  subst hb0;rw[qdw]at hsum
  have hO2:ql3 H0 v (qaq (qan body ns)) H3:=by
   have:out=qaq (qan body ns):=by rw[<-hsum];simp[qaq]
   rw[<-this];exact hO
  simp;clear hO hsum hol hi hbl2
 case' neg=>
  have hb1:(b !=[])=true:=by simpa using hb0
  simp[hb1,hvd];refine qs9 E _ _ hE H0 v out b hO (by omega) (by omega) (fun v' H4 hO'=>?_);obtain⟨hvf',hvd'⟩:=qfU hO'
  have hO2:ql3 H0 v' (qaq (qan body ns)) H4:=by
   have:out++qbF b=qaq (qan body ns):=by rw[<-hsum,qgh hb0,qgq];simp[qaq]
   rw[<-this];exact hO'
  simp[hvd'];clear hO hO' hsum hol hi hbl2 hvf hvd hb0 hb1 hvf' hvd'
 all_goals
  obtain⟨J,rfl,hJ,⟨rfl,hnil⟩|⟨J1,tail,rfl,rfl,htl⟩⟩:=hO2
  ·refine qnb ?_;rw[hnil]at hm1 hm2 hm3 hm4;simp at hm1 hm2 hm3 hm4;simp[hm1,hm2];refine qlS E _ _ H'.length (qav ts) (hbl J) (by omega) ?_;have n1:(qav ts).length+1+1+1+2<=maxLen:=by unfold maxLen;omega
   simp[hm3,hm4,n1];rw[<-hH0,List.append_assoc];have e:encT (qan body ns) ts=48::13::10::(qav ts++[13,10]):=by unfold encT;rw[hnil];rfl
   rw[e]at hQ;exact aQy hB (h6:=hQ)
  ·refine qkY [10,15] (H0++J1) (u8L (qaq (qan body ns))++tail) (by simp) (by simp;omega) ?_ ?_ ?_
   ·intro l' hl' y hy;rcases List.mem_append.1 hl' with h|h
    ·exact hBH _ (by simp) l' h y hy
    ·obtain⟨z,rfl⟩:=hJ l' (List.mem_append_left _ h) y hy;exact .int _ _
   ·intro t ht y hy;simp at ht;rcases ht with rfl|rfl
    ·simp at hy;subst hy;exact .ptr _ _ (by simp;omega)
    ·simp at hy;subst hy;refine .inr ⟨by simp,by omega,by simp,fun y hy=>?_⟩;obtain⟨z,rfl⟩:=hJ (u8L (qaq (qan body ns))++tail) (by simp) y (List.mem_of_mem_drop (List.mem_of_mem_take hy));exact⟨rfl,.int _ _⟩
   ·intro y;simp[qhp,frz,qu5,hm1,hm2];refine qlS E _ _ H'.length (qav ts) (hbl J1) (by omega) ?_;have n1:(qaq (qan body ns)).length+((qav ts).length+1+1+1)+2<=maxLen:=by unfold maxLen;omega
    have n2:(qaq (qan body ns)).length+((qav ts).length+1+1+1)<=maxLen:=by unfold maxLen;omega
    simp[hm3,hm4,n1,n2];rw[<-hH0,List.append_assoc];have e:encT (qan body ns) ts=qaq (qan body ns)++48::13::10::(qav ts++[13,10]):=by unfold encT;simp
    rw[e]at hQ;exact aQy hB (h6:=hQ)
end
section
variable (E:Env)(H:Hp)(Q:AV->Hp->Prop)
end
end Go.Proofs.YtnnhdehmlkkfjaaGreatDoor
namespace Go.Proofs.YtnnhdehmlkkfjaaGreatDoor
open Go Go.RowKit Go.Proofs Go.Deep
@[simp] theorem abin_sleql (P:Program) (t:TypeId) (o:Bool) (k:Nat) (r:List AV) (rs:List (List AV)):abin P .eql t (.sl o k (r::rs)) .nil=if(tsl P t).isSome then some (.bool false)else none:=rfl
@[simp] theorem abin_slneq (P:Program) (t:TypeId) (o:Bool) (k:Nat) (r:List AV) (rs:List (List AV)):abin P .neq t (.sl o k (r::rs)) .nil=if(tsl P t).isSome then some (.bool true)else none:=rfl
@[simp] theorem abin_bxeql (P:Program) (t:TypeId) (i o n c k:Nat):abin P .eql t (.bx i o n c k) .nil=if(tsl P t).isSome then some (.bool false)else none:=rfl
@[simp] theorem abin_bxneq (P:Program) (t:TypeId) (i o n c k:Nat):abin P .neq t (.bx i o n c k) .nil=if(tsl P t).isSome then some (.bool true)else none:=rfl
section
variable (E:Env)(H:Hp)(Q:AV->Hp->Prop)
variable (i:Nat)(d:Dec)(hd:H[i]? =some d.av)
include hd
end
section
variable (E:Env)(H:Hp)(Q:AV->Hp->Prop)
end
end Go.Proofs.YtnnhdehmlkkfjaaGreatDoor
namespace Go.Proofs.YtnnhdehmlkkfjaaGreatDoor
open Go Go.RowKit Go.Proofs
theorem qg4{l:List Fld}(h:l.length<=100){i:Nat}{f:Fld}(hf:l[i]? =some f)(hall:∀g∈l.take i,(qa6 g).2=0)(hne:(qa6 f).2≠0):qbt l=([],(qa6 f).2):=by
 have hi:=(zqC.1 hf).1;have e:l=l.take i++(f::l.drop (i+1)):=by rw[<-(zqC.1 hf).2,<-List.drop_eq_getElem_cons hi,List.take_append_drop]
 have hn:(l.take i).find? (fun f=>decide ((qa6 f).2≠0))=none:=List.find?_eq_none.2 fun g hg=>by simp[hall g hg]
 unfold qbt;rw[if_neg (by omega)]
 have:l.find? (fun f=>decide ((qa6 f).2≠0))=some f:=by
  rw[e,List.find?_append,hn];simp[hne]
 rw[this]
theorem qig{l:List Fld}(h:l.length<=100)(hall:∀g∈l,(qa6 g).2=0):qbt l=(qav l,0):=by
 have hn:l.find? (fun f=>decide ((qa6 f).2≠0))=none:=List.find?_eq_none.2 fun g hg=>by simp[hall g hg]
 unfold qbt;rw[if_neg (by omega),hn]
theorem qmz{f:Fld}(h:(qa6 f).2=0):(qa6 f).1=qax f:=by
 unfold qa6 at h⊢;split
 ·rename_i h1;rw[if_pos h1]at h;cases h
 ·rename_i h1;rw[if_neg h1]at h;split
  ·rename_i h2;rw[if_pos h2]at h;cases h
  ·rfl
section
variable (E:Env)(H:Hp)(Q:AV->Hp->Prop)
def fpInv(l:List Fld)(H:Hp)(fr:List AV)(H':Hp):Prop:=∃(J2:Hp) (i:Nat),i<=l.length/\H'=H++([.bl TB,.bf TU (qav (l.take i))]::J2)/\(∀g∈l.take i,(qa6 g).2=0)/\
 ∃x:Nat->AV,fr=[x 0,x 1,x 2,x 3,.ptr (some (H.length,0)),x 5,x 6,x 7,x 8,x 9,x 10,x 11,.sl false 2 (flds l),.int .i64 l.length,.int .i64 i,x 15,x 16,x 17,x 18,x 19,x 20,x 21,x 22,x 23,x 24,x 25,x 26,x 27,x 28,x 29,x 30]
theorem qkz(hE:SE E)(l:List Fld)(hl:fsz l+l.length<=16777216)(hQ:Q (.tup [.str (qbt l).1,.int .i64 (qbt l).2]) H):PC Tryz.prog E 53 [.sl false 2 (flds l)] H Q:=by
 have fin:∀a:List UInt8×Int,qbt l=a->Q (.tup [.str a.1,.int .i64 a.2]) H:=fun a ha=>ha▸hQ;refine qac Tryz.func53 rfl [] [(3,[3])] (by kernel_rfl) (fun hB=>?_);simp[Tryz.ntmps53,Tryz.results53,List.replicate_succ];by_cases h100:100<l.length
 ·have h1:(100:Int)<l.length:=by omega
  simp[h1];exact qaw hB (v0:= .tup [.str [],.int .i64 65]) (by simp) (qaa _) (by simp) (fin ([],65) (by unfold qbt;rw[if_pos h100]))
 have h1:¬(100:Int)<l.length:=by omega
 simp[h1];refine qaB (fpInv l H) (fun fr _=>l.length-(ai (aget fr 14)).toNat) ⟨[],0,by omega,by simp[qav],by simp,friz⟩ ?_;rintro fr H2 ⟨J2,i,hi,rfl,hall,x,rfl⟩;have hlin:=qcx (l.take i);have hsz:=qgz l i;rw[zqJ]at hlin;by_cases h:i<l.length
 ·obtain⟨f,hf⟩:∃f,l[i]? =some f:=⟨_,zqD h⟩
  have hat:=qdj hf;have hfm:=qeh hf;have hw:IntKind.i64.wrap ((i:Int)+1)=i+1:=wiz;have hlt:=qfv f;simp[h,hat];refine qgg E _ _ hE f (by omega) (by omega) ?_;by_cases hz:(qa6 f).2=0
  ·have hz1:=qmz hz;have m1:(qax f).length+2<=maxLen:=by unfold maxLen;omega
   have m0:(qax f).length+1+1<=maxLen:=by unfold maxLen;omega
   simp[hz,hz1,m1,m0];refine qok E _ _ H.length (qav (l.take i)) (qax f++[13,10]) (by simp) (by simp;omega) ?_;rw[<-qdS l i f hf];simp[hw];refine Klz ⟨_,i+1,by omega,rfl,fun g hg=>?_,friz⟩;rw[List.take_add_one,hf]at hg;rcases List.mem_append.1 hg with hg|hg
   ·exact hall g hg
   ·simp at hg;subst hg;exact hz
  ·have hz2:((qa6 f).2 !=0)=true:=by simpa using hz
   simp[hz2];exact qab hB (v0:= .tup [.str [],.int .i64 (qa6 f).2]) (by simp) (qaa _) (by simp) (fin ([],(qa6 f).2) (qg4 (by omega) hf hall hz))
 ·obtain rfl:i=l.length:=by omega
  rw[zqE (Nat.le_refl _)]at hall hlin⊢;simp;refine qlS E _ _ H.length (qav l) (by simp) (by unfold maxLen;omega) ?_;simp;exact qab hB (v0:= .tup [.str (qav l),.int .i64 0]) (by simp) (qaa _) (by simp) (fin (qav l,0) (qig (by omega) hall))
end
section
variable {r:Resp}{h:Mann}
end
section
variable (E:Env)(H:Hp)(Q:AV->Hp->Prop)
end
section
variable (E:Env)(H:Hp)(Q:AV->Hp->Prop)
end
section
variable (E:Env)(H:Hp)(Q:AV->Hp->Prop)
end
end Go.Proofs.YtnnhdehmlkkfjaaGreatDoor
namespace Go.Proofs.YtnnhdehmlkkfjaaGreatDoor
open Go Go.RowKit Go.Lib
def dgB(k:Nat):UInt8:=UInt8.ofNat (48+k)
theorem qen{u:Nat}(h:u<10):decDigits u=[dgB u]:=by rw[decDigits,dif_pos h];rfl
theorem quZ{u:Nat}(h:¬u<10):decDigits u=decDigits (u/10)++[dgB (u%10)]:=by rw[decDigits,dif_neg h];rfl
def decD(u:Nat):List UInt8:=if u=0 then []else decDigits u
theorem qqb(u:Nat)(h:u≠0):decD u=decD (u/10)++[dgB (u%10)]:=by
 unfold decD;rw[if_neg h];by_cases h10:u<10
 ·rw[qen h10,if_pos (by omega),Nat.mod_eq_of_lt h10];rfl
 ·rw[quZ h10,if_neg (by omega)]
theorem qri:∀k:Nat,k<10->IntKind.u8.wrap (48+(k:Int))=48+k:=by decide
end Go.Proofs.YtnnhdehmlkkfjaaGreatDoor
namespace Go.Proofs.YtnnhdehmlkkfjaaGreatDoor
open Go Go.RowKit Go.Proofs Go.Lib
def d3(n:Int):List UInt8:=[dgB (n.toNat/100),dgB (n.toNat/10%10),dgB (n.toNat%10)]
end Go.Proofs.YtnnhdehmlkkfjaaGreatDoor
namespace Go.Proofs.YtnnhdehmlkkfjaaGreatDoor
open Go Go.RowKit Go.Proofs
@[simp] theorem qth (l:List Int):(ints l).length=l.length:=by simp[ints]
section
variable (E:Env)(H:Hp)(Q:AV->Hp->Prop)
def quP(l:List UInt8)(H:Hp)(fr:List AV)(H':Hp):Prop:=H'=H/\∃i:Nat,i<=l.length/\fldB (l.take i)=true/\∃x:Nat->AV,fr=[.str l,x 1,x 2,.int .i64 i,x 4,x 5,x 6,x 7,x 8,x 9,x 10,x 11,x 12,x 13,x 14,x 15,x 16,x 17,x 18,x 19,x 20,x 21,x 22,x 23]
theorem qkL(l:List UInt8)(hl:l.length<=cap)(hQ:Q (.bool (qbY l)) H):PC Tryz.prog E 114 [.str l] H Q:=by
 have hc:=hl;simp only[cap]at hl;refine qac Tryz.func114 rfl [] [] (by kernel_rfl) (fun hB=>?_);have fin:∀c:Bool,qbY l=c->Q (.bool c) H:=fun c hc=>hc▸hQ;simp[Tryz.ntmps114,Tryz.results114,List.replicate_succ];refine qaB (quP l H) (fun fr _=>l.length-(ai (aget fr 3)).toNat) ⟨rfl,0,by omega,rfl,friz⟩ ?_;rintro fr H' ⟨rfl,i,hi,hall,x,rfl⟩;by_cases h:i<l.length
 ·obtain⟨b,hb⟩:∃b,l[i]? =some b:=⟨_,zqD h⟩
  have hat:=qas hb;have hw:IntKind.i64.wrap ((i:Int)+1)=i+1:=wiz;simp[h,hat];refine qef E _ _ b ?_;cases hf:fcB b
  ·simp[hf];exact aQz hB (h6:=(fin _ (by unfold qbY fldB;rw[qd3 fcB l i b hb hf];simp)))
  ·simp[hf,hw];refine Klz ⟨rfl,i+1,by omega,?_,friz⟩;unfold fldB at hall⊢;rw[qa8 fcB l i b hb,hall,hf];rfl
 ·have:l.take i=l:=zqE (by omega);rw[this]at hall;by_cases h8:l.length<=8192
  ·have h8':(l.length:Int)<=8192:=by omega
   simp[h,h8'];refine qcm E _ _ l hc ?_;simp;exact aQz hB (h6:=(fin _ (by unfold qbY;rw[hall,Bool.eq_iff_iff];simp[h8])))
  ·have h8':¬(l.length:Int)<=8192:=by omega
   simp[h,h8'];exact aQz hB (h6:=(fin _ (by simp[qbY,h8])))
theorem qp5(f:Fld)(h1:f.name.length<=cap)(h2:f.value.length<=cap)(hQ:Q (.bool (qbj f)) H):PC Tryz.prog E 84 [.agg [.str f.name,.str f.value]] H Q:=by
 refine qac Tryz.func84 rfl [] [] (by kernel_rfl) (fun hB=>?_);have fin:∀c:Bool,qbj f=c->Q (.bool c) H:=fun c hc=>hc▸hQ;simp[Tryz.ntmps84,Tryz.results84,List.replicate_succ];refine qie E _ _ f.name h1 ?_;cases hm:mayB f.name
 ·simp;exact qab hB rfl (qaa _) (by simp) (fin _ (by unfold qbj;rw[hm];rfl))
 ·simp;refine qkL E _ _ f.value h2 ?_;simp;exact qab hB rfl (qaa _) (by simp) (fin _ (by unfold qbj;rw[hm];simp))
end
end Go.Proofs.YtnnhdehmlkkfjaaGreatDoor
namespace Go.Proofs.YtnnhdehmlkkfjaaGreatDoor
open Go Go.RowKit Go.Proofs Go.Lib
def okL(f:Fld):Prop:=qbm f.name=true/\qbY f.value=true
theorem qul{f:Fld}:(qa6 f).2=0↔okL f:=by
 unfold qa6 okL;cases h1:qbm f.name with
 |false=>simp
 |true=>cases h2:qbY f.value<;>simp
theorem qnn:∀n,n<256->qai (UInt8.ofNat n)=true->UInt8.ofNat n≠13/\qaf (UInt8.ofNat n)=false:=by decide
theorem qeR{b:UInt8}(h:qai b=true):b≠13/\qaf b=false:=by
 have:=qnn b.toNat b.toNat_lt;rw[qce]at this;exact this h
theorem qsi{l:List UInt8}(h:fldB l=true):∀b∈l,b≠13:=by
 intro b hb e;subst e;have:=List.all_eq_true.1 h 13 hb;exact absurd this (by decide)
theorem qh4{l:List UInt8}(h:qbY l=true):l.length<=8192/\fldB l=true/\qaJ l=l:=by
 unfold qbY at h;simp at h;exact⟨h.1.1,h.1.2,h.2⟩
theorem qlF{f:Fld}(h:okL f):∀b∈qax f,b≠10/\b≠13:=by
 obtain⟨h1,h2⟩:=h;obtain⟨_,h3,_⟩:=qh4 h2;intro b hb;unfold qax at hb;rcases List.mem_append.1 hb with hb|hb
 ·have hs:=qfe (qed h1) b hb;exact⟨(qgv hs).2,(qeR hs).1⟩
 ·rcases List.mem_cons.1 hb with rfl|hb
  ·decide
  ·split at hb
   ·cases hb
   ·rcases List.mem_cons.1 hb with rfl|hb
    ·decide
    ·exact⟨qmO h3 b hb,qsi h3 b hb⟩
theorem qrV{l:List UInt8}(h:qbm l=true):∃a r,l=a::r/\qai a=true:=by
 have ht:=qed h;cases l with
 |nil=>cases ht
 |cons a r=>exact⟨a,r,rfl,qfe ht a (by simp)⟩
theorem qlE{f:Fld}(h:okL f):qaR (qax f)=(f,0,0):=by
 obtain⟨hn,hv⟩:=h;obtain⟨h2,h3,h4⟩:=qh4 hv;have hr:run ncol (qax f)=f.name.length:=qgX ncol f.name 58 _ (fun b hb=>(qgv (qfe (qed hn) b hb)).1) (by decide);have ht:(qax f).take f.name.length=f.name:=by unfold qax;rw[List.take_append_of_le_length (Nat.le_refl _),zqE (Nat.le_refl _)]
 have hd:(qax f).drop (f.name.length+1)=if f.value=[]then []else 32::f.value:=by
  unfold qax;rw[List.drop_append,List.drop_of_length_le (by omega)];simp
 have hlt:f.name.length<(qax f).length:=by unfold qax;simp
 have hf:lnb (qax f)=false:=by
  obtain⟨a,r,e,hs⟩:=qrV hn;unfold qax;rw[e];exact(qeR hs).2
 have htr:qaJ (if f.value=[]then []else 32::f.value)=f.value:=by
  split
  ·rename_i h5;rw[h5]at h4⊢;exact h4
  ·rw[qoA];exact h4
 have hfl:fldB (if f.value=[]then []else 32::f.value)=true:=by
  split
  ·rfl
  ·unfold fldB at h3⊢;rw[List.all_cons,h3];decide
 rw[qhi (hf:=hf) (by rw[hr];exact hlt) (by rw[hr,ht];exact hn) (by rw[hr,hd];exact hfl) (by rw[hr,hd,htr];omega),hr,ht,hd,htr]
theorem qr3{f:Fld}:qax f≠[]:=by unfold qax;simp
theorem qlD(f:Fld)(l:List Fld):qav (f::l)=qax f++(13::10::qav l):=by simp[qav]
section
variable {r:Resp}{h:Mann}
theorem qc9(u:Nat):Go.Lib.itoa (u:Int)=decDigits u:=by unfold Go.Lib.itoa;rw[if_neg (by omega)];simp
end
end Go.Proofs.YtnnhdehmlkkfjaaGreatDoor
namespace Go.Proofs.YtnnhdehmlkkfjaaGreatDoor
open Go Go.RowKit Go.Lib
section
open Go.Lib
variable (E:Env)(H:Hp)(Q:AV->Hp->Prop)
def qrG(n:Int)(H:Hp)(fr:List AV)(H':Hp):Prop:=H'=H/\∃(m:Int) (out:List UInt8),m.natAbs<=n.natAbs/\decD m.natAbs++out=decDigits n.natAbs/\∃x:Nat->AV,fr=[.int .i64 m,x 1,x 2,.bool (decide (n<0)),.str out,x 5,x 6,x 7,x 8,x 9,x 10,x 11,x 12,x 13,x 14,x 15,x 16,x 17,x 18,x 19,x 20,x 21,x 22,x 23,x 24,x 25,x 26,x 27,x 28,x 29,x 30]
theorem qcw(n:Int)(h0: -9223372036854775808<=n)(h1:n<=9223372036854775807)(hQ:Q (.str (itoa n)) H):PC Tryz.prog E 33 [.int .i64 n] H Q:=by
 have hlen:=(qdi n h0 h1).2;refine qac Tryz.func33 rfl [] [] (by kernel_rfl) (fun hB=>?_);by_cases hz:n=0
 ·have e:itoa n=[48]:=by rw[hz];decide+kernel
  rw[e]at hQ;simp[Tryz.ntmps33,Tryz.results33,List.replicate_succ,hz];exact aQz hB (h6:=hQ)
 ·have tz:(n==0)=false:=by simpa using hz
  simp[Tryz.ntmps33,Tryz.results33,List.replicate_succ,tz];refine qaB (qrG n H) (fun fr _=>(ai (aget fr 0)).natAbs) ⟨rfl,n,[],Nat.le_refl _,by unfold decD;rw[if_neg (by omega)];simp,friz⟩ ?_;rintro fr H' ⟨rfl,m,out,hm,hout,x,rfl⟩
  have hol:out.length<=21:=by
   have:=congrArg List.length hout;rw[zqK]at this;omega
  by_cases hmz:m=0
  ·have tm:(m !=0)=false:=by simp[hmz]
   have e:out=decDigits n.natAbs:=by rw[<-hout,hmz];rfl
   have hml:out.length+1<=maxLen/\1+out.length<=maxLen:=by unfold maxLen;omega
   by_cases hn:n<0
   ·have ei:itoa n=45::out:=by unfold itoa;rw[if_pos hn,e]
    rw[ei]at hQ;simp[tm,hn,hml];exact aQz hB (h6:=hQ)
   ·have ei:itoa n=out:=by
     unfold itoa;rw[if_neg hn,e,show n.toNat=n.natAbs by omega]
    rw[ei]at hQ;simp[tm,hn];exact aQz hB (h6:=hQ)
  ·have tm:(m !=0)=true:=by simpa using hmz
   obtain⟨d,hd⟩:=exz (m.tmod 10);obtain⟨q,hq⟩:=exz (m.tdiv 10);have hda:d.natAbs=m.natAbs%10:=by rw[<-hd,Int.natAbs_tmod];rfl
   have hqa:q.natAbs=m.natAbs/10:=by rw[<-hq,Int.natAbs_tdiv];rfl
   have hwq:IntKind.i64.wrap q=q:=wiz;obtain⟨k,hk⟩:=exz (m.natAbs%10);have hk10:k<10:=by rw[<-hk];exact Nat.mod_lt _ (by omega)
   have hw48:IntKind.i64.wrap (48+(k:Int))=48+k:=wiz;have hu8:=qri k hk10;have c1:(0:Int)<=48+k:=by omega
   have c2:(48:Int)+k<256:=by omega
   have htn:((48:Int)+k).toNat=48+k:=by omega
   have hml:out.length+1<=maxLen/\1+out.length<=maxLen:=by unfold maxLen;omega
   have hst:=qqb m.natAbs (by omega);rw[hk,<-hqa]at hst;have hnext:decD q.natAbs++(dgB k::out)=decDigits n.natAbs:=by rw[<-hout,hst];simp
   by_cases hneg:d<0
   ·have hnd:IntKind.i64.wrap (-d)=k:=by rw[qak (by omega) (by omega)];omega
    have hnd2:IntKind.i64.wrap (0-d)=k:=by rw[qak (by omega) (by omega)];omega
    simp[tm,hd,hneg,hnd,hnd2,hw48,hu8,c1,c2,htn,hml,hq,hwq];exact Klz ⟨rfl,q,dgB k::out,by omega,hnext,qag (by simp[dgB])⟩
   ·have hdk:d=k:=by omega
    simp[tm,hd,hneg,hdk,hw48,hu8,c1,c2,htn,hml,hq,hwq];exact Klz ⟨rfl,q,dgB k::out,by omega,hnext,qag (by simp[dgB])⟩
end
end Go.Proofs.YtnnhdehmlkkfjaaGreatDoor
namespace Go.Proofs.YtnnhdehmlkkfjaaGreatDoor
open Go Go.RowKit
theorem qaE(b:UInt8)(n:Nat)(hn:n<256)(z:Int)(hz:z=n)(h:b≠UInt8.ofNat n):((b.toNat:Int)==z)=false/\((b.toNat:Int) !=z)=true:=by
 subst hz;have:=qdl b n hn h;exact⟨this,by unfold bne;rw[this];rfl⟩
def qc4(c:UInt8):Bool:=(97<=c.toNat&&c.toNat<=122)||(65<=c.toNat&&c.toNat<=90)||(48<=c.toNat&&c.toNat<=57)
def qbK(c:UInt8):Bool:=qc4 c||[45,46,95,126].contains c
def qb1(c:UInt8):Bool:=[33,36,38,39,40,41,42,43,44,59,61].contains c
def qdn(c:UInt8):Bool:=c==58||c==64
def qdF(c:UInt8):Int:=if qbK c then 1 else if qb1 c then 2 else if qdn c then 4 else if c=47 then 8 else if c=63 then 16 else 0
def hexT(c:UInt8):Int:=if 48<=c.toNat/\c.toNat<=57 then c.toNat-48 else if 97<=c.toNat/\c.toNat<=102 then c.toNat-97+10 else if 65<=c.toNat/\c.toNat<=70 then c.toNat-65+10 else-1
def qbI:List UInt8->Bool
 |c::a::b::_=>c==37&&decide (0<=hexT a)&&decide (0<=hexT b)
 |_=>false
def qaK(may:UInt8->Bool)(s:List UInt8):Nat:=match s with
 |[]=>0
 |c::r=>if qbI (c::r)then 3+qaK may (r.drop 2)else if may c then 1+qaK may r else 0
termination_by s.length
def qcj(c:UInt8):Bool:=qbK c||qb1 c
def qcZ(c:UInt8):Bool:=qbK c||qb1 c||qdn c||c==47
def qdQ(c:UInt8):Bool:=qbK c||qb1 c||qdn c||c==47||c==63
def qcV(c:UInt8)(other:Int):Int:=if c=37 then 51 else other
def cut1 (c : UInt8) (s : List UInt8) : List UInt8 × List UInt8 × Bool := (s.takeWhile (· != c), (s.dropWhile (· != c)).drop 1, s.contains c)
def cut2(c:UInt8):List UInt8->List UInt8×List UInt8×Bool
 |a::b::r=>if a=c/\b=c then([],r,true)else((a::(cut2 c (b::r)).1),(cut2 c (b::r)).2)
 |s=>(s,[],false)
def qbl(c:UInt8):List UInt8->List (List UInt8)
 |[]=>[[]]
 |x::r=>if x=c then []::qbl c r else match qbl c r with
  |h::t=>(x::h)::t
  |[]=>[[x]]
def qeH(d:List UInt8):Bool:=(qae 10 255 d).2==0&&Go.Lib.itoa (qae 10 255 d).1==d
def dotB(g:List UInt8):Bool:=(qbl 46 g).all qeH&&(qbl 46 g).length==4
def goG(last:Bool):List (List UInt8)->Int->Int×Bool
 |[],n=>(n,true)
 |g::r,n=>if last&&r.isEmpty&&g.contains 46 then(n+2,dotB g)
  else if g.length<1\/4<g.length then(0,false)
  else if g.all (fun c=>decide (0<=hexT c))then goG last r (n+1)else(0,false)
def qbz(s:List UInt8)(last:Bool):Int×Bool:=if s=[]then(0,true)else goG last (qbl 58 s) 0
def qf7(s:List UInt8):Bool:=match cut2 58 s with
 |(_,_,false)=>(qbz s true).2&&(qbz s true).1==8
 |(a,b,true)=>(qbz a false).2&&(qbz b true).2&&decide ((qbz a false).1+(qbz b true).1<=7)
def qeX(s:List UInt8):Bool:=if s.head? =some 91 then s.getLast? ==some 93&&qf7 ((s.drop 1).dropLast)else !s.isEmpty&&qaK qcj s==s.length
def qbP (s : List UInt8) : List UInt8 × List UInt8 × Bool :=
  if s.head? = some 91 ∧ s.contains 93 then
    let i := (s.takeWhile (· != 93)).length
    (s.take (i + 1), (s.drop (i + 1)).drop 1, (s.drop (i + 1)).isEmpty || (s.drop (i + 1)).head? == some 58)
  else ((cut1 58 s).1, (cut1 58 s).2.1, true)
def qbo(s:List UInt8):List UInt8×Int×Int:=
 if(qbP s).2.2=false\/qeX (qbP s).1=false\/5<(qbP s).2.1.length then([],0,52)
 else if(qbP s).2.1=[]then(low (qbP s).1,-1,0)
 else if(qae 10 65535 (qbP s).2.1).2≠0 then([],0,52)else(low (qbP s).1,(qae 10 65535 (qbP s).2.1).1,0)
def behE(s:List UInt8):Int:=match s.drop (qaK qcZ s)with
 |[]=>0
 |c::q=>if c≠63 then qcV c 53 else match q.drop (qaK qdQ q)with
  |[]=>0
  |d::_=>qcV d 54
def tgtE(m s:List UInt8):Int:=match s with
 |[]=>50
 |c::_=>if m=[67,79,78,78,69,67,84]then(if(qbo s).2.2≠0\/(qbo s).2.1<0 then 52 else 0)
  else if c=47 then behE s
  else if s=[42]/\m=[79,80,84,73,79,78,83]then 0
  else if s.length<7\/low (s.take 7)≠[104,116,116,112,58,47,47]then 50
  else if(qbo ((s.drop 7).takeWhile fun c=>c !=47&&c !=63)).2.2≠0 then(qbo ((s.drop 7).takeWhile fun c=>c !=47&&c !=63)).2.2
  else behE ((s.drop 7).dropWhile fun c=>c !=47&&c !=63)
def qd7(l:List Fld)(old:Bool):List UInt8×Bool×Int:=match allB l [72,111,115,116]with
 |[]=>if old then([],false,0)else([],false,69)
 |[v]=>if v.any (fun b=>decide (b.toNat<33)||decide (126<b.toNat)||[34,35,47,60,62,63,64,92].contains b)then([],false,69)else(v,true,0)
 |_=>([],false,69)
inductive Md where
 |start|startEnd|method|target|line|fields|counted|chunked
deriving DecidableEq
structure Prs where
 lt:Int
 lh:Int
 lf:Int
 lb:Int
 nx:Option Md
 state:Int
 used:Int
 meth:List UInt8
 targ:List UInt8
 major:Int
 minor:Int
 fields:List Fld
 rbody:List UInt8
 trailers:List Fld
 fst_:Int
 ferr:Int
 fat:Int
 text:List UInt8
 head:Int
 begin_:Int
 left:Int
 body:List UInt8
 dec:Option Dec
 bodied:Bool
inductive SR where
 |go (p:Prs) (nx:Option Md)
 |bad (p:Prs) (st err at_:Int)
def qaA(p:Prs)(st err:Int):SR:= .bad p st err p.used
def qbL(p:Prs)(c:UInt8):SR:=if c≠10 then qaA p 400 111 else .go p (some .start)
def qbW(p:Prs)(c:UInt8):SR:=
 if tokB [c]then(if p.text.length=24 then qaA p 501 110 else .go {p with text:=p.text++[c]} (some .method))
 else if c=32/\p.text≠[]then .go {p with meth:=p.text,text:=[]} (some .target)else qaA p 400 110
def qdq(p:Prs)(c:UInt8):SR:=if c=13 then .go p (some .startEnd)else qbW {p with state:=1} c
def qb7(p:Prs)(c:UInt8):SR:=
 if 33<=c.toNat/\c.toNat<=126 then(if(p.text.length:Int)=p.lt then qaA p 414 112 else .go {p with text:=p.text++[c]} (some .target))
 else if c=32/\p.text≠[]then .go {p with targ:=p.text,text:=[]} (some .line)else qaA p 400 111
def qaM(n:Nat)(c:UInt8):Bool:=
 if n<5 then([72,84,84,80,47]:List UInt8)[n]? ==some c else if n=5\/n=7 then decide (48<=c.toNat/\c.toNat<=57)else if n=6 then c==46 else if n=8 then c==13 else if n=9 then c==10 else false
def qct(p:Prs)(c:UInt8):SR:=
 if qaM p.text.length c=false then qaA p 400 111
 else if p.text.length<9 then .go {p with text:=p.text++[c]} (some .line)
 else
  let p1:Prs:={p with text:=[],major:=(p.text.getD 5 0).toNat-48,minor:=(p.text.getD 7 0).toNat-48}
  if p1.major≠1\/1<p1.minor then qaA p1 505 117
  else if tgtE p.meth p.targ≠0 then qaA p1 400 (tgtE p.meth p.targ)
  else .go {p1 with state:=2,begin_:=p.used+1} (some .fields)
def qdY(p:Prs):SR:= .go {p with rbody:=p.body,state:=4} none
def qa7(p:Prs):SR:=
 let old:=decide (p.minor=0)
 let f:=qaj p.fields old
 if f.2.2=67 then qaA p 501 67
 else if f.2.2≠0 then qaA p 400 f.2.2
 else if(qd7 p.fields old).2.2≠0 then qaA p 400 (qd7 p.fields old).2.2
 else if(qd7 p.fields old).1≠[]/\(qbo (qd7 p.fields old).1).2.2≠0 then qaA p 400 (qbo (qd7 p.fields old).1).2.2
 else if allB p.fields [69,120,112,101,99,116]≠[]/\((qb6 p.fields [69,120,112,101,99,116]).2≠0\/(qb6 p.fields [69,120,112,101,99,116]).1≠[[49,48,48,45,99,111,110,116,105,110,117,101]])then qaA p 417 116
 else if p.lb<f.2.1 then qaA p 413 114
 else if f.1=2 then .go {p with state:=3,dec:=some (newD p.lb p.lh p.lf)} (some .chunked)
 else if 0<f.2.1 then .go {p with state:=3,left:=f.2.1} (some .counted)
 else qdY {p with state:=3}
def qbg(p:Prs)(c:UInt8):SR:=
 if p.head=p.lh then qaA p 431 113
 else if(p.text.getLast? ==some 13)≠(c==10)then qaA {p with head:=p.head+1} 400 111
 else if c≠10 then .go {p with head:=p.head+1,text:=p.text++[c]} (some .fields)
 else
  let p1:Prs:={p with head:=p.head+1,text:=[]}
  let line:=p.text.dropLast
  if line=[]then qa7 p1
  else if(p.fields.length:Int)=p.lf then qaA p1 431 113
  else if(qaR line).2.2≠0 then .bad p1 400 (qaR line).2.2 (p.begin_+(qaR line).2.1)
  else .go {p1 with fields:=p.fields++[(qaR line).1],begin_:=p.used+1} (some .fields)
def qcL(p:Prs)(c:UInt8):SR:=
 let p1:Prs:={p with body:=p.body++[c],bodied:=true,left:=p.left-1}
 if 0<p1.left then .go p1 (some .counted)else qdY p1
def qbA(p:Prs)(c:UInt8):SR:=match p.dec with
 |none=>qaA {p with bodied:=true} 400 103
 |some d=>
  if d.done=true\/d.err≠0 then qaA {p with bodied:=true} 400 103
  else
   let d1:=(qat d [c]).1
   let p1:Prs:={p with bodied:=true,dec:=some d1}
   if d1.err=102 then qaA p1 413 102
   else if d1.err=104 then qaA p1 431 104
   else if d1.err≠0 then qaA p1 400 d1.err
   else if d1.done=false then .go p1 (some .chunked)
   else qdY {p1 with body:=d1.body,trailers:=d1.trailers}
def qba(p:Prs)(m:Md)(c:UInt8):SR:=match m with
 | .start=>qdq p c
 | .startEnd=>qbL p c
 | .method=>qbW p c
 | .target=>qb7 p c
 | .line=>qct p c
 | .fields=>qbg p c
 | .counted=>qcL p c
 | .chunked=>qbA p c
def SR.prs:SR->Prs
 | .go p nx=>{p with nx:=nx,used:=p.used+1}
 | .bad p st err at_=>{p with nx:=none,state:=5,used:=p.used+1,fst_:=st,ferr:=err,fat:=at_}
def qao(p:Prs):List UInt8->Prs×Nat
 |[]=>(p,0)
 |c::r=>match p.nx with
  |none=>(p,0)
  |some m=>match qba p m c with
   | .go p1 nx=>((qao {p1 with nx:=nx,used:=p1.used+1} r).1,(qao {p1 with nx:=nx,used:=p1.used+1} r).2+1)
   | .bad p1 st err at_=>((SR.bad p1 st err at_).prs,1)
def Md.fid:Md->FuncId
 | .start=>39
 | .startEnd=>60
 | .method=>61
 | .target=>87
 | .line=>119
 | .fields=>145
 | .counted=>198
 | .chunked=>197
def nxV(b:Nat):Option Md->AV
 |none=> .raw .nilFunc
 |some m=> .fn m.fid [.tup [.ptr (some (b,0))]]
def Prs.av(b j:Nat)(p:Prs):List AV:=[.int .i64 p.lt,.int .i64 p.lh,.int .i64 p.lf,.int .i64 p.lb,nxV b p.nx,.int .i64 p.state,.int .i64 p.used,.str p.meth,.str p.targ,.int .i64 p.major,.int .i64 p.minor,.sl true 2 (flds p.fields),.str p.rbody,.sl false 2 (flds p.trailers),
 .int .i64 p.fst_,.int .i64 p.ferr,.int .i64 p.fat,.sl true 1 (bts p.text),.str [],.int .i64 p.head,.int .i64 p.begin_,.int .i64 p.left,.sl true 1 (bts p.body),.ptr (p.dec.map fun _=>(j,0)),.bool p.bodied]
structure PB (H:Hp) (b j:Nat) (p:Prs):Prop where
 row:H[b]? =some (p.av b j)
 dec:∀d,p.dec=some d->j≠b/\H[j]? =some d.av
structure fitP (n:Nat) (p:Prs):Prop where
 a:p.text.length+fsz p.fields+p.fields.length+p.meth.length+p.targ.length<=n
 b:p.body.length<=n
 c:∀d,p.dec=some d->okD d/\d.total<=n
 lt:1<=p.lt/\p.lt<=65536
 lh:2<=p.lh/\p.lh<=1048576
 lf:0<=p.lf/\p.lf<=100
 lb:0<=p.lb/\p.lb<=1073741824
 head:0<=p.head/\p.head<=n
 left: -(n:Int)<=p.left/\p.left<=1073741824
 used:0<=p.used/\p.used<=n
 beg:0<=p.begin_/\p.begin_<=n
 asc:∀c∈p.targ,c.toNat<128
 tx:p.nx=some .target->∀c∈p.text,c.toNat<128
 ln:p.nx=some .line->∀k c,p.text[k]? =some c->qaM k c=true
 tr:p.trailers.length<=n
 rb:p.rbody.length<=n
def OthP(K K':Hp)(b j:Nat)(d:Bool):Prop:=K.length<=K'.length/\∀i,i<K.length->i≠b->(d=true->i≠j)->K'[i]? =K[i]?
end Go.Proofs.YtnnhdehmlkkfjaaGreatDoor
namespace Go.Proofs.YtnnhdehmlkkfjaaGreatDoor
open Go Go.Shelf Go.Proofs
def lrenb:Go.Shelf.Ren:=⟨fun|99=>186|100=>210|101=>187|119=>214|120=>223|129=>182|137=>156|138=>248|143=>242|144=>235|145=>188|146=>234|151=>202|152=>192|153=>165|160=>154|161=>200|169=>75|171=>80|195=>249|197=>201|206=>207|207=>225|208=>208|217=>180|218=>250|219=>224|220=>209|221=>241|224=>215|225=>216|226=>193|227=>174|228=>194|231=>172|232=>173|233=>175|234=>176|235=>177|236=>178|243=>112|246=>141|260=>222|266=>204|267=>233|268=>247|271=>203|283=>158|284=>159|285=>160|286=>161|314=>240|317=>181|318=>183|319=>184|320=>185|337=>205|338=>206|n=>n,fun|0=>0|2=>2|3=>3|4=>4|5=>5|9=>9|20=>20|21=>21|31=>78|37=>82|46=>224|51=>139|53=>198|59=>142|70=>118|72=>120|105=>233|116=>213|117=>214|119=>255|124=>217|127=>157|138=>257|139=>258|146=>262|171=>197|173=>201|212=>221|213=>222|232=>246|233=>247|n=>n,fun|1=>2|3=>5|4=>6|17=>1|18=>3|19=>4|n=>n⟩
theorem laysb99:Go.Proofs.Lays.n99 Tryz.prog lrenb:={
 mixed:=by kernel_rfl
 f99:=lfz Tryz.func186
 f206:=lfz Tryz.func207
 t3:=Tryz.underlying3
 a3:=Tryz.isAgg3
 z3:=Tryz.sizeOf3
 v3:=Tryz.zeroValue3
 t4:=Tryz.underlying4
 a4:=Tryz.isAgg4
 z4:=Tryz.sizeOf4
 v4:=Tryz.zeroValue4
 t9:=Tryz.underlying9
 a9:=Tryz.isAgg9
 z9:=Tryz.sizeOf9
 v9:=Tryz.zeroValue9}
theorem laysb100:Go.Proofs.Lays.n100 Tryz.prog lrenb:={
 mixed:=by kernel_rfl
 f100:=lfz Tryz.func210
 f207:=lfz Tryz.func225
 t3:=Tryz.underlying3
 a3:=Tryz.isAgg3
 z3:=Tryz.sizeOf3
 v3:=Tryz.zeroValue3
 t4:=Tryz.underlying4
 a4:=Tryz.isAgg4
 z4:=Tryz.sizeOf4
 v4:=Tryz.zeroValue4
 t9:=Tryz.underlying9
 a9:=Tryz.isAgg9
 z9:=Tryz.sizeOf9
 v9:=Tryz.zeroValue9}
theorem laysb101:Go.Proofs.Lays.n101 Tryz.prog lrenb:={
 mixed:=by kernel_rfl
 f101:=lfz Tryz.func187
 f206:=lfz Tryz.func207
 f208:=lfz Tryz.func208
 t3:=Tryz.underlying3
 a3:=Tryz.isAgg3
 z3:=Tryz.sizeOf3
 v3:=Tryz.zeroValue3
 t4:=Tryz.underlying4
 a4:=Tryz.isAgg4
 z4:=Tryz.sizeOf4
 v4:=Tryz.zeroValue4
 t9:=Tryz.underlying9
 a9:=Tryz.isAgg9
 z9:=Tryz.sizeOf9
 v9:=Tryz.zeroValue9}
theorem laysb144:Go.Proofs.Lays.n144 Tryz.prog lrenb:={
 mixed:=by kernel_rfl
 f143:=lfz Tryz.func242
 f144:=lfz Tryz.func235
 f217:=lfz Tryz.func180
 f219:=lfz Tryz.func224
 f224:=lfz Tryz.func215
 f225:=lfz Tryz.func216
 f266:=lfz Tryz.func204
 f267:=lfz Tryz.func233
 f314:=lfz Tryz.func240
 t3:=Tryz.underlying3
 a3:=Tryz.isAgg3
 z3:=Tryz.sizeOf3
 v3:=Tryz.zeroValue3
 t4:=Tryz.underlying4
 a4:=Tryz.isAgg4
 z4:=Tryz.sizeOf4
 v4:=Tryz.zeroValue4
 t5:=Tryz.underlying5
 a5:=Tryz.isAgg5
 z5:=Tryz.sizeOf5
 v5:=Tryz.zeroValue5
 t9:=Tryz.underlying9
 a9:=Tryz.isAgg9
 z9:=Tryz.sizeOf9
 v9:=Tryz.zeroValue9
 t46:=Tryz.underlying224
 a46:=Tryz.isAgg224
 z46:=Tryz.sizeOf224
 v46:=Tryz.zeroValue224
 t51:=Tryz.underlying139
 a51:=Tryz.isAgg139
 z51:=Tryz.sizeOf139
 v51:=Tryz.zeroValue139
 t146:=Tryz.underlying262
 a146:=Tryz.isAgg262
 z146:=Tryz.sizeOf262
 v146:=Tryz.zeroValue262
 g1:=by kernel_rfl}
theorem laysb145:Go.Proofs.Lays.n145 Tryz.prog lrenb:={
 mixed:=by kernel_rfl
 f145:=lfz Tryz.func188
 f217:=lfz Tryz.func180
 f219:=lfz Tryz.func224
 f220:=lfz Tryz.func209
 f224:=lfz Tryz.func215
 f225:=lfz Tryz.func216
 f266:=lfz Tryz.func204
 f267:=lfz Tryz.func233
 f314:=lfz Tryz.func240
 t3:=Tryz.underlying3
 a3:=Tryz.isAgg3
 z3:=Tryz.sizeOf3
 v3:=Tryz.zeroValue3
 t4:=Tryz.underlying4
 a4:=Tryz.isAgg4
 z4:=Tryz.sizeOf4
 v4:=Tryz.zeroValue4
 t5:=Tryz.underlying5
 a5:=Tryz.isAgg5
 z5:=Tryz.sizeOf5
 v5:=Tryz.zeroValue5
 t9:=Tryz.underlying9
 a9:=Tryz.isAgg9
 z9:=Tryz.sizeOf9
 v9:=Tryz.zeroValue9
 t46:=Tryz.underlying224
 a46:=Tryz.isAgg224
 z46:=Tryz.sizeOf224
 v46:=Tryz.zeroValue224
 t51:=Tryz.underlying139
 a51:=Tryz.isAgg139
 z51:=Tryz.sizeOf139
 v51:=Tryz.zeroValue139
 t59:=Tryz.underlying142
 a59:=Tryz.isAgg142
 z59:=Tryz.sizeOf142
 v59:=Tryz.zeroValue142
 t146:=Tryz.underlying262
 a146:=Tryz.isAgg262
 z146:=Tryz.sizeOf262
 v146:=Tryz.zeroValue262
 g1:=by kernel_rfl}
theorem laysb146:Go.Proofs.Lays.n146 Tryz.prog lrenb:={
 mixed:=by kernel_rfl
 f138:=lfz Tryz.func248
 f143:=lfz Tryz.func242
 f146:=lfz Tryz.func234
 f195:=lfz Tryz.func249
 f197:=lfz Tryz.func201
 f217:=lfz Tryz.func180
 f218:=lfz Tryz.func250
 f219:=lfz Tryz.func224
 f221:=lfz Tryz.func241
 f224:=lfz Tryz.func215
 f225:=lfz Tryz.func216
 f260:=lfz Tryz.func222
 f266:=lfz Tryz.func204
 f267:=lfz Tryz.func233
 f268:=lfz Tryz.func247
 f314:=lfz Tryz.func240
 t0:=Tryz.underlying0
 a0:=Tryz.isAgg0
 z0:=Tryz.sizeOf0
 v0:=Tryz.zeroValue0
 t3:=Tryz.underlying3
 a3:=Tryz.isAgg3
 z3:=Tryz.sizeOf3
 v3:=Tryz.zeroValue3
 t4:=Tryz.underlying4
 a4:=Tryz.isAgg4
 z4:=Tryz.sizeOf4
 v4:=Tryz.zeroValue4
 t5:=Tryz.underlying5
 a5:=Tryz.isAgg5
 z5:=Tryz.sizeOf5
 v5:=Tryz.zeroValue5
 t9:=Tryz.underlying9
 a9:=Tryz.isAgg9
 z9:=Tryz.sizeOf9
 v9:=Tryz.zeroValue9
 t21:=Tryz.underlying21
 a21:=Tryz.isAgg21
 z21:=Tryz.sizeOf21
 v21:=Tryz.zeroValue21
 t31:=Tryz.underlying78
 a31:=Tryz.isAgg78
 z31:=Tryz.sizeOf78
 v31:=Tryz.zeroValue78
 t46:=Tryz.underlying224
 a46:=Tryz.isAgg224
 z46:=Tryz.sizeOf224
 v46:=Tryz.zeroValue224
 t51:=Tryz.underlying139
 a51:=Tryz.isAgg139
 z51:=Tryz.sizeOf139
 v51:=Tryz.zeroValue139
 t105:=Tryz.underlying233
 a105:=Tryz.isAgg233
 z105:=Tryz.sizeOf233
 v105:=Tryz.zeroValue233
 t119:=Tryz.underlying255
 a119:=Tryz.isAgg255
 z119:=Tryz.sizeOf255
 t138:=Tryz.underlying257
 a138:=Tryz.isAgg257
 z138:=Tryz.sizeOf257
 v138:=Tryz.zeroValue257
 t139:=Tryz.underlying258
 a139:=Tryz.isAgg258
 z139:=Tryz.sizeOf258
 v139:=Tryz.zeroValue258
 t146:=Tryz.underlying262
 a146:=Tryz.isAgg262
 z146:=Tryz.sizeOf262
 v146:=Tryz.zeroValue262
 g1:=by kernel_rfl
 g3:=by kernel_rfl
 g4:=by kernel_rfl}
theorem laysb153:Go.Proofs.Lays.n153 Tryz.prog lrenb:={
 mixed:=by kernel_rfl
 f119:=lfz Tryz.func214
 f137:=lfz Tryz.func156
 f152:=lfz Tryz.func192
 f153:=lfz Tryz.func165
 f217:=lfz Tryz.func180
 f224:=lfz Tryz.func215
 f225:=lfz Tryz.func216
 f226:=lfz Tryz.func193
 f227:=lfz Tryz.func174
 f228:=lfz Tryz.func194
 f266:=lfz Tryz.func204
 t0:=Tryz.underlying0
 a0:=Tryz.isAgg0
 z0:=Tryz.sizeOf0
 v0:=Tryz.zeroValue0
 t3:=Tryz.underlying3
 a3:=Tryz.isAgg3
 z3:=Tryz.sizeOf3
 v3:=Tryz.zeroValue3
 t4:=Tryz.underlying4
 a4:=Tryz.isAgg4
 z4:=Tryz.sizeOf4
 v4:=Tryz.zeroValue4
 t5:=Tryz.underlying5
 a5:=Tryz.isAgg5
 z5:=Tryz.sizeOf5
 v5:=Tryz.zeroValue5
 t9:=Tryz.underlying9
 a9:=Tryz.isAgg9
 z9:=Tryz.sizeOf9
 v9:=Tryz.zeroValue9
 t21:=Tryz.underlying21
 a21:=Tryz.isAgg21
 z21:=Tryz.sizeOf21
 v21:=Tryz.zeroValue21
 t46:=Tryz.underlying224
 a46:=Tryz.isAgg224
 z46:=Tryz.sizeOf224
 v46:=Tryz.zeroValue224
 t116:=Tryz.underlying213
 a116:=Tryz.isAgg213
 z116:=Tryz.sizeOf213
 t117:=Tryz.underlying214
 a117:=Tryz.isAgg214
 z117:=Tryz.sizeOf214
 v117:=Tryz.zeroValue214
 t124:=Tryz.underlying217
 a124:=Tryz.isAgg217
 z124:=Tryz.sizeOf217
 v124:=Tryz.zeroValue217}
end Go.Proofs.YtnnhdehmlkkfjaaGreatDoor
namespace Go.Proofs.YtnnhdehmlkkfjaaGreatDoor
open Go Go.RowKit Go.Shelf
theorem hp1(l:List UInt8)(c:UInt8):Lib.hasPrefix l [c]=(l.head? ==some c):=by
 cases l with
 |nil=>rfl
 |cons a r=>
  by_cases h:a=c
  ·subst h;simp[Lib.hasPrefix,List.isPrefixOf]
  ·have h':(c==a)=false:=by simpa using fun e=>h e.symm
   simp[Lib.hasPrefix,List.isPrefixOf,h',h]
theorem hsf1(l:List UInt8)(c:UInt8):Lib.hasSuffix l [c]=(l.getLast? ==some c):=by
 have h:Lib.hasSuffix l [c]=Lib.hasPrefix l.reverse [c]:=by simp[Lib.hasSuffix,Lib.hasPrefix,List.isSuffixOf]
 rw[h,hp1,List.head?_reverse]
theorem tp1(l:List UInt8)(c:UInt8):Lib.trimPrefix l [c]=if l.head? =some c then l.drop 1 else l:=by
 unfold Lib.trimPrefix;rw[hp1];simp
theorem qlJ(b c:UInt8)(l:List UInt8):Lib.indexByte (b::l) c=if b=c then 0 else if Lib.indexByte l c= -1 then-1 else Lib.indexByte l c+1:=by
 simp[Lib.indexByte]
theorem qeg(l:List UInt8)(c:UInt8):decide (0<=Lib.indexByte l c)=l.contains c:=by
 induction l with
 |nil=>rfl
 |cons b l ih=>
  rw[qlJ,List.contains_cons,<-ih];have:=Lib.indexByte_ge l c;by_cases h:b=c
  ·subst h;simp
  ·have h':(c==b)=false:=by simpa using fun e=>h e.symm
   rw[if_neg h,h',Bool.false_or];by_cases h2:Lib.indexByte l c= -1
   ·rw[if_pos h2,h2]
   ·rw[if_neg h2,Bool.eq_iff_iff];simp;omega
theorem qfY (l : List UInt8) (c : UInt8) : (0 ≤ Lib.indexByte l c → (Lib.indexByte l c).toNat = (l.takeWhile (· != c)).length ∧ l.dropWhile (· != c) ≠ []) ∧ (Lib.indexByte l c < 0 → l.takeWhile (· != c) = l ∧ l.dropWhile (· != c) = []) := by
  induction l with
  | nil => exact ⟨fun h => by simp [Lib.indexByte] at h, fun _ => ⟨rfl, rfl⟩⟩
  | cons b l ih =>
    rw [qlJ]
    have := Lib.indexByte_ge l c
    by_cases h : b = c
    · subst h; simp
    · have h' : (b != c) = true := by simpa using h
      rw [if_neg h, List.takeWhile_cons_of_pos (by simpa using h), List.dropWhile_cons_of_pos (by simpa using h)]
      by_cases h2 : Lib.indexByte l c = -1
      · rw [if_pos h2]
        refine ⟨fun h3 => absurd h3 (by decide), fun _ => ?_⟩
        obtain ⟨i1, i2⟩ := ih.2 (by omega)
        exact ⟨by rw [i1], i2⟩
      · rw [if_neg h2]
        obtain ⟨i1, i2⟩ := ih.1 (by omega)
        refine ⟨fun _ => ⟨by simp only [zqL]; omega, i2⟩, fun h3 => by omega⟩
theorem ix1(l:List UInt8)(c:UInt8):Lib.index l [c]=Lib.indexByte l c:=by
 induction l with
 |nil=>rfl
 |cons b l ih=>
  rw[qlJ,Lib.index,ih];by_cases h:b=c
  ·subst h;simp[List.isPrefixOf]
  ·have h':(c==b)=false:=by simpa using fun e=>h e.symm
   simp[List.isPrefixOf,h',h]
theorem qck(p:UInt8->Bool):∀l:List UInt8,l.take (l.takeWhile p).length=l.takeWhile p/\l.drop (l.takeWhile p).length=l.dropWhile p
 |[]=>⟨rfl,rfl⟩
 |b::l=>by
  by_cases h:p b=true
  ·rw[List.takeWhile_cons_of_pos h,List.dropWhile_cons_of_pos h];simp[qck p l]
  ·rw[List.takeWhile_cons_of_neg h,List.dropWhile_cons_of_neg h];simp
theorem qmZ (l : List UInt8) (c : UInt8) : Lib.cut l [c] = cut1 c l := by
  unfold Lib.cut cut1
  rw [ix1, ← qeg]
  obtain ⟨h1, h2⟩ := qfY l c
  obtain ⟨t1, t2⟩ := qck (· != c) l
  by_cases h : 0 ≤ Lib.indexByte l c
  · rw [if_pos h, (h1 h).1, t1, ← List.drop_drop, t2]
    simp [h]
  · rw [if_neg h, (h2 (by omega)).1, (h2 (by omega)).2]
    simp [h]
theorem ix2(c:UInt8):∀l:List UInt8,Lib.cut l [c,c]=cut2 c l
 |[]=>rfl
 |[a]=>by simp[Lib.cut,cut2,Lib.index,List.isPrefixOf]
 |a::b::r=>by
  have ih:=ix2 c (b::r);unfold Lib.cut at ih⊢;rw[cut2,<-ih,Lib.index];have hg:=Lib.index_ge (b::r) [c,c];by_cases h:a=c/\b=c
  ·obtain⟨rfl,rfl⟩:=h;simp[List.isPrefixOf]
  ·rw[if_neg h]
   have hp:([c,c]:List UInt8).isPrefixOf (a::b::r)=false:=by
    simp only[List.isPrefixOf,Bool.and_true];rw[Bool.eq_false_iff];intro e;simp at e;exact h ⟨e.1.symm,e.2.symm⟩
   rw[hp];simp only[Bool.false_eq_true,if_false,beq_iff_eq];by_cases h2:Lib.index (b::r) [c,c]= -1
   ·rw[if_pos h2,h2];simp
   ·rw[if_neg h2,if_pos (by omega),if_pos (by omega)];have e1:(Lib.index (b::r) [c,c]+1).toNat=(Lib.index (b::r) [c,c]).toNat+1:=by omega
    rw[e1];simp[Nat.add_right_comm]
theorem qrA (c : UInt8) : ∀ l : List UInt8, qbl c l = if l.contains c then l.takeWhile (· != c) :: qbl c ((l.dropWhile (· != c)).drop 1) else [l]
  | [] => rfl
  | b :: l => by
    have ih := qrA c l
    rw [qbl]
    by_cases h : b = c
    · subst h
      simp
    · have h' : (c == b) = false := by simpa using fun e => h e.symm
      have hb : (b != c) = true := by simpa using h
      rw [if_neg h, List.contains_cons, h', Bool.false_or, List.takeWhile_cons_of_pos (p := (· != c)) hb, List.dropWhile_cons_of_pos (p := (· != c)) hb, ih]
      by_cases h2 : l.contains c = true
      · rw [if_pos h2, if_pos h2]
      · rw [if_neg h2, if_neg h2]
def ME(E:Env):Prop:=E.Fix 2/\∃m:Int,E.w0.cell? ⟨2,0,none⟩=some (.int .i64 m)
theorem ME.cell{E:Env}(h:ME E){w:World}(hw:∀b,E.Fix b->w.heap[b]? =E.w0.heap[b]?):∃m:Int,w.cell? ⟨2,0,none⟩=some (.int .i64 m):=by
 obtain⟨h1,m,h2⟩:=h;exact⟨m,(World.cell?_of_block (a:=⟨2,0,none⟩) (hw _ h1)).trans h2⟩
section
variable (E:Env){H:Hp}(Q:AV->Hp->Prop)
theorem qgm(l:List UInt8)(c:UInt8)(hQ:Q (.bool (l.head? ==some c)) H):PC Tryz.prog E 186 [.str l,.str [c]] H Q:=by
 refine qau (v:= .bool (l.head? ==some c)) (by kernel_rfl) (fun _=>True) (fun w hw=>trivial) (fun w β Rd cargs hS hsz hargs=>?_) (.bool _) rfl hQ;obtain⟨u,v,rfl,hu,hv⟩:=args2 hsz hargs;obtain⟨s,rfl,rfl,hs⟩:=qaC hu;obtain⟨t,rfl,ht,_⟩:=qaC hv;refine(Any.strings_HasPrefix laysb99 s t w).mono ?_;rintro e w' ⟨rfl,rfl⟩;rw[ht,hp1];exact⟨_,rfl,Frm.refl _ _,.bool _⟩
theorem qkv(l:List UInt8)(c:UInt8)(hQ:Q (.bool (l.getLast? ==some c)) H):PC Tryz.prog E 210 [.str l,.str [c]] H Q:=by
 refine qau (v:= .bool (l.getLast? ==some c)) (by kernel_rfl) (fun _=>True) (fun w hw=>trivial) (fun w β Rd cargs hS hsz hargs=>?_) (.bool _) rfl hQ;obtain⟨u,v,rfl,hu,hv⟩:=args2 hsz hargs;obtain⟨s,rfl,rfl,hs⟩:=qaC hu;obtain⟨t,rfl,ht,_⟩:=qaC hv;refine(Any.strings_HasSuffix laysb100 s t w (by unfold maxLen at hs;omega)).mono ?_;rintro e w' ⟨rfl,rfl⟩;rw[ht,hsf1];exact⟨_,rfl,Frm.refl _ _,.bool _⟩
theorem qfd(l:List UInt8)(c:UInt8)(hQ:Q (.str (if l.head? =some c then l.drop 1 else l)) H):PC Tryz.prog E 187 [.str l,.str [c]] H Q:=by
 refine qau (v:= .str (if l.head? =some c then l.drop 1 else l)) (by kernel_rfl) (fun _=>True) (fun w hw=>trivial) (fun w β Rd cargs hS hsz hargs=>?_) (.str _) rfl hQ;obtain⟨u,v,rfl,hu,hv⟩:=args2 hsz hargs;obtain⟨s,rfl,rfl,hs⟩:=qaC hu;obtain⟨t,rfl,ht,_⟩:=qaC hv;refine(Any.strings_TrimPrefix laysb101 s t w).mono ?_;rintro e w' ⟨rfl,rfl⟩;rw[ht,tp1];refine⟨_,rfl,Frm.refl _ _,qdv _ ?_⟩;rw[<-qad]at hs;split
 ·rw[zqI];omega
 ·exact hs
theorem qqk(hM:ME E)(l sep:List UInt8)(hl:l.length<=1073741824)(hQ:Q (.tup [.str (Lib.cut l sep).1,.str (Lib.cut l sep).2.1,.bool (Lib.cut l sep).2.2]) H):PC Tryz.prog E 188 [.str l,.str sep] H Q:=by
 refine qau (v:= .tup [.str (Lib.cut l sep).1,.str (Lib.cut l sep).2.1,.bool (Lib.cut l sep).2.2]) (by kernel_rfl) (fun w=>∃m:Int,w.cell? ⟨2,0,none⟩=some (.int .i64 m)) (fun w hw=>hM.cell hw) (fun w β Rd cargs hS hsz hargs=>?_) (by simp) rfl hQ;obtain⟨m,hm⟩:=hS;obtain⟨u,v,rfl,hu,hv⟩:=args2 hsz hargs;obtain⟨s,rfl,rfl,hs⟩:=qaC hu;obtain⟨t,rfl,rfl,_⟩:=qaC hv;rw[qad]at hl;refine(Any.strings_Cut laysb145 s t m w (by omega) hm).mono ?_;rintro e w' ⟨rfl,k,rfl⟩
 have hle:(Lib.cut s.data.toList t.data.toList).1.length<=s.size/\(Lib.cut s.data.toList t.data.toList).2.1.length<=s.size:=by
  rw[<-qad];unfold Lib.cut;split
  ·simp;omega
  ·simp
 refine⟨_,rfl,Frm.drewN _ _ _,.tup _ _ rfl (by simp[AV.free]) fun k x u hx hu=>?_⟩
 match k with
 |0=>simp at hx hu;subst hx;subst hu;exact qdv _ (by omega)
 |1=>simp at hx hu;subst hx;subst hu;exact qdv _ (by omega)
 |2=>simp at hx hu;subst hx;subst hu;exact .bool _
 |k+3=>simp at hx
theorem qlR(l:List UInt8)(c:UInt8)(hQ:Q (.bool (l.contains c)) H):PC Tryz.prog E 235 [.str l,.str [c]] H Q:=by
 refine qau (v:= .bool (l.contains c)) (by kernel_rfl) (fun _=>True) (fun w hw=>trivial) (fun w β Rd cargs hS hsz hargs=>?_) (.bool _) rfl hQ;obtain⟨u,v,rfl,hu,hv⟩:=args2 hsz hargs;obtain⟨s,rfl,rfl,hs⟩:=qaC hu;obtain⟨⟨⟨tl⟩⟩,rfl,ht,_⟩:=qaC hv;have ht':tl=[c]:=ht;subst ht';refine(Any.strings_Contains_one laysb144 s c w).mono ?_;rintro e w' ⟨rfl,rfl⟩;rw[qeg];exact⟨_,rfl,Frm.refl _ _,.bool _⟩
theorem qlI(l cs:List UInt8)(hl:l.length<=1073741824)(hcl:cs.length<=1024)(ha:∀b∈l,b.toNat<128)(hc:∀b∈cs,b.toNat<128)(hQ:Q (.int .i64 (Lib.indexAny l cs)) H):PC Tryz.prog E 165 [.str l,.str cs] H Q:=by
 refine qau (v:= .int .i64 (Lib.indexAny l cs)) (by kernel_rfl) (fun _=>True) (fun w hw=>trivial) (fun w β Rd cargs hS hsz hargs=>?_) (.int _ _) rfl hQ;obtain⟨u,v,rfl,hu,hv⟩:=args2 hsz hargs;obtain⟨s,rfl,rfl,hs⟩:=qaC hu;obtain⟨t,rfl,rfl,_⟩:=qaC hv;rw[qad]at hl hcl;have h116:(Tryz.prog.info? (lrenb.t 116)).map (fun i=>(i.zero,i.size))=some (some (.agg (Array.replicate 256 (.bool false))),256):=by kernel_rfl
 refine(Any.strings_IndexAny_laid laysb153 h116 s t w (by omega) (by omega) (fun j b hb=>ha b (zqH hb)) (fun j b hb=>hc b (zqH hb))).mono ?_;rintro e w' ⟨rfl,hb⟩;exact⟨_,rfl,qbM hb,.int _ _⟩
end
end Go.Proofs.YtnnhdehmlkkfjaaGreatDoor
namespace Go.Proofs.YtnnhdehmlkkfjaaGreatDoor
open Go Go.RowKit
section
variable (E:Env){H:Hp}(Q:AV->Hp->Prop)
theorem qfE(c:UInt8)(hQ:Q (.int .i64 (hexT c)) H):PC Tryz.prog E 227 [.int .u8 (c.toNat:Int)] H Q:=by
 refine qac Tryz.func227 rfl [] [] (by kernel_rfl) (fun hB=>?_);have h0:=c.toNat_lt;unfold hexT at hQ;rcases(by omega:(0<=c.toNat/\c.toNat<=47)\/(48<=c.toNat/\c.toNat<=57)\/(58<=c.toNat/\c.toNat<=64)\/(65<=c.toNat/\c.toNat<=70)\/(71<=c.toNat/\c.toNat<=96)\/(97<=c.toNat/\c.toNat<=102)\/(103<=c.toNat/\c.toNat<=255))with hr|hr|hr|hr|hr|hr|hr
 ·have f0:¬(48:Int)<=c.toNat:=by omega
  have f1:(c.toNat:Int)<=57:=by omega
  have f2:¬(97:Int)<=c.toNat:=by omega
  have f3:(c.toNat:Int)<=102:=by omega
  have f4:¬(65:Int)<=c.toNat:=by omega
  have f5:(c.toNat:Int)<=70:=by omega
  rw[if_neg (by omega),if_neg (by omega),if_neg (by omega)]at hQ;simp[Tryz.ntmps227,Tryz.results227,List.replicate_succ,f0,f1,f2,f3,f4,f5];exact aQz hB (h6:=hQ)
 ·have f0:(48:Int)<=c.toNat:=by omega
  have f1:(c.toNat:Int)<=57:=by omega
  have f2:¬(97:Int)<=c.toNat:=by omega
  have f3:(c.toNat:Int)<=102:=by omega
  have f4:¬(65:Int)<=c.toNat:=by omega
  have f5:(c.toNat:Int)<=70:=by omega
  have w:IntKind.u8.wrap ((c.toNat:Int)-48)=c.toNat-48:=by rw[IntKind.wrap_u8];omega
  have w2:IntKind.i64.wrap ((c.toNat:Int)-48)=c.toNat-48:=wiz;rw[if_pos (by omega)]at hQ;simp[Tryz.ntmps227,Tryz.results227,List.replicate_succ,f0,f1,f2,f3,f4,f5,w,w2];exact aQz hB (h6:=hQ)
 ·have f0:(48:Int)<=c.toNat:=by omega
  have f1:¬(c.toNat:Int)<=57:=by omega
  have f2:¬(97:Int)<=c.toNat:=by omega
  have f3:(c.toNat:Int)<=102:=by omega
  have f4:¬(65:Int)<=c.toNat:=by omega
  have f5:(c.toNat:Int)<=70:=by omega
  rw[if_neg (by omega),if_neg (by omega),if_neg (by omega)]at hQ;simp[Tryz.ntmps227,Tryz.results227,List.replicate_succ,f0,f1,f2,f3,f4,f5];exact aQz hB (h6:=hQ)
 ·have f0:(48:Int)<=c.toNat:=by omega
  have f1:¬(c.toNat:Int)<=57:=by omega
  have f2:¬(97:Int)<=c.toNat:=by omega
  have f3:(c.toNat:Int)<=102:=by omega
  have f4:(65:Int)<=c.toNat:=by omega
  have f5:(c.toNat:Int)<=70:=by omega
  have w:IntKind.u8.wrap ((c.toNat:Int)-65)=c.toNat-65:=by rw[IntKind.wrap_u8];omega
  have w2:IntKind.i64.wrap ((c.toNat:Int)-65)=c.toNat-65:=wiz;have w3:IntKind.i64.wrap ((c.toNat:Int)-65+10)=c.toNat-65+10:=wiz;rw[if_neg (by omega),if_neg (by omega),if_pos (by omega)]at hQ;simp[Tryz.ntmps227,Tryz.results227,List.replicate_succ,f0,f1,f2,f3,f4,f5,w,w2,w3];exact aQz hB (h6:=hQ)
 ·have f0:(48:Int)<=c.toNat:=by omega
  have f1:¬(c.toNat:Int)<=57:=by omega
  have f2:¬(97:Int)<=c.toNat:=by omega
  have f3:(c.toNat:Int)<=102:=by omega
  have f4:(65:Int)<=c.toNat:=by omega
  have f5:¬(c.toNat:Int)<=70:=by omega
  rw[if_neg (by omega),if_neg (by omega),if_neg (by omega)]at hQ;simp[Tryz.ntmps227,Tryz.results227,List.replicate_succ,f0,f1,f2,f3,f4,f5];exact aQz hB (h6:=hQ)
 ·have f0:(48:Int)<=c.toNat:=by omega
  have f1:¬(c.toNat:Int)<=57:=by omega
  have f2:(97:Int)<=c.toNat:=by omega
  have f3:(c.toNat:Int)<=102:=by omega
  have f4:(65:Int)<=c.toNat:=by omega
  have f5:¬(c.toNat:Int)<=70:=by omega
  have w:IntKind.u8.wrap ((c.toNat:Int)-97)=c.toNat-97:=by rw[IntKind.wrap_u8];omega
  have w2:IntKind.i64.wrap ((c.toNat:Int)-97)=c.toNat-97:=wiz;have w3:IntKind.i64.wrap ((c.toNat:Int)-97+10)=c.toNat-97+10:=wiz;rw[if_neg (by omega),if_pos (by omega)]at hQ;simp[Tryz.ntmps227,Tryz.results227,List.replicate_succ,f0,f1,f2,f3,f4,f5,w,w2,w3];exact aQz hB (h6:=hQ)
 ·have f0:(48:Int)<=c.toNat:=by omega
  have f1:¬(c.toNat:Int)<=57:=by omega
  have f2:(97:Int)<=c.toNat:=by omega
  have f3:¬(c.toNat:Int)<=102:=by omega
  have f4:(65:Int)<=c.toNat:=by omega
  have f5:¬(c.toNat:Int)<=70:=by omega
  rw[if_neg (by omega),if_neg (by omega),if_neg (by omega)]at hQ;simp[Tryz.ntmps227,Tryz.results227,List.replicate_succ,f0,f1,f2,f3,f4,f5];exact aQz hB (h6:=hQ)
theorem qsB(c:UInt8)(hQ:Q (.int .i64 (qdF c)) H):PC Tryz.prog E 213 [.int .u8 (c.toNat:Int)] H Q:=by
 refine qac Tryz.func213 rfl [] [] (by kernel_rfl) (fun hB=>?_);have h0:=c.toNat_lt;unfold qdF qbK qb1 qdn at hQ;have i1:=qeg [45,46,95,126] c;have i2:=qeg [33,36,38,39,40,41,42,43,44,59,61] c;rcases(by omega:(0<=c.toNat/\c.toNat<=47)\/(48<=c.toNat/\c.toNat<=57)\/(58<=c.toNat/\c.toNat<=64)\/(65<=c.toNat/\c.toNat<=90)\/(91<=c.toNat/\c.toNat<=96)\/(97<=c.toNat/\c.toNat<=122)\/(123<=c.toNat/\c.toNat<=255))with hr|hr|hr|hr|hr|hr|hr
 ·have f0:¬(97:Int)<=c.toNat:=by omega
  have f1:(c.toNat:Int)<=122:=by omega
  have f2:¬(65:Int)<=c.toNat:=by omega
  have f3:(c.toNat:Int)<=90:=by omega
  have f4:¬(48:Int)<=c.toNat:=by omega
  have f5:(c.toNat:Int)<=57:=by omega
  have g:qc4 c=false:=by unfold qc4;simp;omega
  rw[g,Bool.false_or]at hQ;simp[Tryz.ntmps213,Tryz.results213,List.replicate_succ,f0,f1,f2,f3,f4,f5];refine qaF E _ _ _ c ?_;by_cases g1:([45,46,95,126]:List UInt8).contains c=true
  ·have j1:0<=Lib.indexByte [45,46,95,126] c:=by rw[g1]at i1;simpa using i1
   rw[if_pos g1]at hQ;simp[qap,KP,qah,j1];exact aQz hB (h6:=hQ)
  ·have j1:¬0<=Lib.indexByte [45,46,95,126] c:=fun h=>g1 (by rw[<-i1];simpa using h);rw[if_neg g1]at hQ;simp[qap,KP,qah,j1];refine qaF E _ _ _ c ?_;by_cases g2:([33,36,38,39,40,41,42,43,44,59,61]:List UInt8).contains c=true
   ·have j2:0<=Lib.indexByte [33,36,38,39,40,41,42,43,44,59,61] c:=by rw[g2]at i2;simpa using i2
    rw[if_pos g2]at hQ;simp[qap,KP,qah,j2];exact aQz hB (h6:=hQ)
   ·have j2:¬0<=Lib.indexByte [33,36,38,39,40,41,42,43,44,59,61] c:=fun h=>g2 (by rw[<-i2];simpa using h);rw[if_neg g2]at hQ;by_cases e1:c=58
    ·subst e1;simp[qap,KP,qah,j2];exact aQz hB (h6:=hQ)
    ·have k1:=(qaE c 58 (by decide) 58 rfl e1).1;by_cases e2:c=64
     ·subst e2;simp[qap,KP,qah,j2];exact aQz hB (h6:=hQ)
     ·have k2:=(qaE c 64 (by decide) 64 rfl e2).1;rw[if_neg (by simp[e1,e2])]at hQ;by_cases e3:c=47
      ·subst e3;simp[qap,KP,qah,j2];exact aQz hB (h6:=hQ)
      ·have k3:=(qaE c 47 (by decide) 47 rfl e3).1;rw[if_neg e3]at hQ;by_cases e4:c=63
       ·subst e4;simp[qap,KP,qah,j2];exact aQz hB (h6:=hQ)
       ·have k4:=(qaE c 63 (by decide) 63 rfl e4).1;rw[if_neg e4]at hQ;simp[qap,KP,qah,j2,k1,k2,k3,k4];exact aQz hB (h6:=hQ)
 ·have f0:¬(97:Int)<=c.toNat:=by omega
  have f1:(c.toNat:Int)<=122:=by omega
  have f2:¬(65:Int)<=c.toNat:=by omega
  have f3:(c.toNat:Int)<=90:=by omega
  have f4:(48:Int)<=c.toNat:=by omega
  have f5:(c.toNat:Int)<=57:=by omega
  have g:qc4 c=true:=by unfold qc4;simp;omega
  rw[g,Bool.true_or,if_pos rfl]at hQ;simp[Tryz.ntmps213,Tryz.results213,List.replicate_succ,f0,f1,f2,f3,f4,f5];exact aQz hB (h6:=hQ)
 ·have f0:¬(97:Int)<=c.toNat:=by omega
  have f1:(c.toNat:Int)<=122:=by omega
  have f2:¬(65:Int)<=c.toNat:=by omega
  have f3:(c.toNat:Int)<=90:=by omega
  have f4:(48:Int)<=c.toNat:=by omega
  have f5:¬(c.toNat:Int)<=57:=by omega
  have g:qc4 c=false:=by unfold qc4;simp;omega
  rw[g,Bool.false_or]at hQ;simp[Tryz.ntmps213,Tryz.results213,List.replicate_succ,f0,f1,f2,f3,f4,f5];refine qaF E _ _ _ c ?_;by_cases g1:([45,46,95,126]:List UInt8).contains c=true
  ·have j1:0<=Lib.indexByte [45,46,95,126] c:=by rw[g1]at i1;simpa using i1
   rw[if_pos g1]at hQ;simp[qap,KP,qah,j1];exact aQz hB (h6:=hQ)
  ·have j1:¬0<=Lib.indexByte [45,46,95,126] c:=fun h=>g1 (by rw[<-i1];simpa using h);rw[if_neg g1]at hQ;simp[qap,KP,qah,j1];refine qaF E _ _ _ c ?_;by_cases g2:([33,36,38,39,40,41,42,43,44,59,61]:List UInt8).contains c=true
   ·have j2:0<=Lib.indexByte [33,36,38,39,40,41,42,43,44,59,61] c:=by rw[g2]at i2;simpa using i2
    rw[if_pos g2]at hQ;simp[qap,KP,qah,j2];exact aQz hB (h6:=hQ)
   ·have j2:¬0<=Lib.indexByte [33,36,38,39,40,41,42,43,44,59,61] c:=fun h=>g2 (by rw[<-i2];simpa using h);rw[if_neg g2]at hQ;by_cases e1:c=58
    ·subst e1;simp[qap,KP,qah,j2];exact aQz hB (h6:=hQ)
    ·have k1:=(qaE c 58 (by decide) 58 rfl e1).1;by_cases e2:c=64
     ·subst e2;simp[qap,KP,qah,j2];exact aQz hB (h6:=hQ)
     ·have k2:=(qaE c 64 (by decide) 64 rfl e2).1;rw[if_neg (by simp[e1,e2])]at hQ;by_cases e3:c=47
      ·subst e3;simp[qap,KP,qah,j2];exact aQz hB (h6:=hQ)
      ·have k3:=(qaE c 47 (by decide) 47 rfl e3).1;rw[if_neg e3]at hQ;by_cases e4:c=63
       ·subst e4;simp[qap,KP,qah,j2];exact aQz hB (h6:=hQ)
       ·have k4:=(qaE c 63 (by decide) 63 rfl e4).1;rw[if_neg e4]at hQ;simp[qap,KP,qah,j2,k1,k2,k3,k4];exact aQz hB (h6:=hQ)
 ·have f0:¬(97:Int)<=c.toNat:=by omega
  have f1:(c.toNat:Int)<=122:=by omega
  have f2:(65:Int)<=c.toNat:=by omega
  have f3:(c.toNat:Int)<=90:=by omega
  have f4:(48:Int)<=c.toNat:=by omega
  have f5:¬(c.toNat:Int)<=57:=by omega
  have g:qc4 c=true:=by unfold qc4;simp;omega
  rw[g,Bool.true_or,if_pos rfl]at hQ;simp[Tryz.ntmps213,Tryz.results213,List.replicate_succ,f0,f1,f2,f3,f4,f5];exact aQz hB (h6:=hQ)
 ·have f0:¬(97:Int)<=c.toNat:=by omega
  have f1:(c.toNat:Int)<=122:=by omega
  have f2:(65:Int)<=c.toNat:=by omega
  have f3:¬(c.toNat:Int)<=90:=by omega
  have f4:(48:Int)<=c.toNat:=by omega
  have f5:¬(c.toNat:Int)<=57:=by omega
  have g:qc4 c=false:=by unfold qc4;simp;omega
  rw[g,Bool.false_or]at hQ;simp[Tryz.ntmps213,Tryz.results213,List.replicate_succ,f0,f1,f2,f3,f4,f5];refine qaF E _ _ _ c ?_;by_cases g1:([45,46,95,126]:List UInt8).contains c=true
  ·have j1:0<=Lib.indexByte [45,46,95,126] c:=by rw[g1]at i1;simpa using i1
   rw[if_pos g1]at hQ;simp[qap,KP,qah,j1];exact aQz hB (h6:=hQ)
  ·have j1:¬0<=Lib.indexByte [45,46,95,126] c:=fun h=>g1 (by rw[<-i1];simpa using h);rw[if_neg g1]at hQ;simp[qap,KP,qah,j1];refine qaF E _ _ _ c ?_;by_cases g2:([33,36,38,39,40,41,42,43,44,59,61]:List UInt8).contains c=true
   ·have j2:0<=Lib.indexByte [33,36,38,39,40,41,42,43,44,59,61] c:=by rw[g2]at i2;simpa using i2
    rw[if_pos g2]at hQ;simp[qap,KP,qah,j2];exact aQz hB (h6:=hQ)
   ·have j2:¬0<=Lib.indexByte [33,36,38,39,40,41,42,43,44,59,61] c:=fun h=>g2 (by rw[<-i2];simpa using h);rw[if_neg g2]at hQ;by_cases e1:c=58
    ·subst e1;simp[qap,KP,qah,j2];exact aQz hB (h6:=hQ)
    ·have k1:=(qaE c 58 (by decide) 58 rfl e1).1;by_cases e2:c=64
     ·subst e2;simp[qap,KP,qah,j2];exact aQz hB (h6:=hQ)
     ·have k2:=(qaE c 64 (by decide) 64 rfl e2).1;rw[if_neg (by simp[e1,e2])]at hQ;by_cases e3:c=47
      ·subst e3;simp[qap,KP,qah,j2];exact aQz hB (h6:=hQ)
      ·have k3:=(qaE c 47 (by decide) 47 rfl e3).1;rw[if_neg e3]at hQ;by_cases e4:c=63
       ·subst e4;simp[qap,KP,qah,j2];exact aQz hB (h6:=hQ)
       ·have k4:=(qaE c 63 (by decide) 63 rfl e4).1;rw[if_neg e4]at hQ;simp[qap,KP,qah,j2,k1,k2,k3,k4];exact aQz hB (h6:=hQ)
 ·have f0:(97:Int)<=c.toNat:=by omega
  have f1:(c.toNat:Int)<=122:=by omega
  have f2:(65:Int)<=c.toNat:=by omega
  have f3:¬(c.toNat:Int)<=90:=by omega
  have f4:(48:Int)<=c.toNat:=by omega
  have f5:¬(c.toNat:Int)<=57:=by omega
  have g:qc4 c=true:=by unfold qc4;simp;omega
  rw[g,Bool.true_or,if_pos rfl]at hQ;simp[Tryz.ntmps213,Tryz.results213,List.replicate_succ,f0,f1,f2,f3,f4,f5];exact aQz hB (h6:=hQ)
 ·have f0:(97:Int)<=c.toNat:=by omega
  have f1:¬(c.toNat:Int)<=122:=by omega
  have f2:(65:Int)<=c.toNat:=by omega
  have f3:¬(c.toNat:Int)<=90:=by omega
  have f4:(48:Int)<=c.toNat:=by omega
  have f5:¬(c.toNat:Int)<=57:=by omega
  have g:qc4 c=false:=by unfold qc4;simp;omega
  rw[g,Bool.false_or]at hQ;simp[Tryz.ntmps213,Tryz.results213,List.replicate_succ,f0,f1,f2,f3,f4,f5];refine qaF E _ _ _ c ?_;by_cases g1:([45,46,95,126]:List UInt8).contains c=true
  ·have j1:0<=Lib.indexByte [45,46,95,126] c:=by rw[g1]at i1;simpa using i1
   rw[if_pos g1]at hQ;simp[qap,KP,qah,j1];exact aQz hB (h6:=hQ)
  ·have j1:¬0<=Lib.indexByte [45,46,95,126] c:=fun h=>g1 (by rw[<-i1];simpa using h);rw[if_neg g1]at hQ;simp[qap,KP,qah,j1];refine qaF E _ _ _ c ?_;by_cases g2:([33,36,38,39,40,41,42,43,44,59,61]:List UInt8).contains c=true
   ·have j2:0<=Lib.indexByte [33,36,38,39,40,41,42,43,44,59,61] c:=by rw[g2]at i2;simpa using i2
    rw[if_pos g2]at hQ;simp[qap,KP,qah,j2];exact aQz hB (h6:=hQ)
   ·have j2:¬0<=Lib.indexByte [33,36,38,39,40,41,42,43,44,59,61] c:=fun h=>g2 (by rw[<-i2];simpa using h);rw[if_neg g2]at hQ;by_cases e1:c=58
    ·subst e1;simp[qap,KP,qah,j2];exact aQz hB (h6:=hQ)
    ·have k1:=(qaE c 58 (by decide) 58 rfl e1).1;by_cases e2:c=64
     ·subst e2;simp[qap,KP,qah,j2];exact aQz hB (h6:=hQ)
     ·have k2:=(qaE c 64 (by decide) 64 rfl e2).1;rw[if_neg (by simp[e1,e2])]at hQ;by_cases e3:c=47
      ·subst e3;simp[qap,KP,qah,j2];exact aQz hB (h6:=hQ)
      ·have k3:=(qaE c 47 (by decide) 47 rfl e3).1;rw[if_neg e3]at hQ;by_cases e4:c=63
       ·subst e4;simp[qap,KP,qah,j2];exact aQz hB (h6:=hQ)
       ·have k4:=(qaE c 63 (by decide) 63 rfl e4).1;rw[if_neg e4]at hQ;simp[qap,KP,qah,j2,k1,k2,k3,k4];exact aQz hB (h6:=hQ)
theorem qoz(s:List UInt8)(i:Nat)(hi:i<s.length)(hl:s.length<=1073741824)(hQ:∀v,Q (.tup [.int .u8 v,.bool (qbI (s.drop i))]) H):PC Tryz.prog E 212 [.str s,.int .i64 (i:Int)] H Q:=by
 refine qac Tryz.func212 rfl [] [] (by kernel_rfl) (fun hB=>?_);have w2:IntKind.i64.wrap ((i:Int)+2)=i+2:=wiz;have w1:IntKind.i64.wrap ((i:Int)+1)=i+1:=wiz;by_cases h:i+2<s.length
 ·obtain⟨a,ha⟩:∃a,s[i]? =some a:=⟨_,zqD hi⟩
  obtain⟨b,hb⟩:∃b,s[i+1]? =some b:=⟨_,zqD (by omega)⟩
  obtain⟨c,hc⟩:∃c,s[i+2]? =some c:=⟨_,zqD h⟩
  have la:=qas ha;have lb:=qas hb;have lc:=qas hc;have n1:¬(s.length:Int)<=i+2:=by omega
  have q1:((i:Int)+1).toNat=i+1:=by omega
  have q2:((i:Int)+2).toNat=i+2:=by omega
  have q3:(0:Int)<=i+1:=by omega
  have q4:(0:Int)<=i+2:=by omega
  have hd:s.drop i=a::b::c::s.drop (i+3):=by rw[qay s i a ha,qay s (i+1) b hb,qay s (i+2) c hc]
  rw[hd]at hQ;by_cases h37:a=37
  ·subst h37;simp[Tryz.ntmps212,Tryz.results212,List.replicate_succ,w2,w1,n1,la,lb,lc,q1,q2,q3,q4];refine qfE E _ b ?_;simp[qap,KP,qah,w2,w1,lb,lc,q1,q2,q3,q4];refine qfE E _ c ?_;by_cases x1:0<=hexT b
   ·have e:qbI (37::b::c::s.drop (i+3))=decide (0<=hexT c):=by simp[qbI,x1]
    rw[e]at hQ;simp[qap,KP,qah,x1];exact aQz hB (h6:=(hQ _))
   ·have e:qbI (37::b::c::s.drop (i+3))=false:=by simp[qbI,x1]
    rw[e]at hQ;simp[qap,KP,qah,x1];exact aQz hB (h6:=(hQ _))
  ·have hb2:=(qaE a 37 (by decide) 37 rfl h37).2;simp[Tryz.ntmps212,Tryz.results212,List.replicate_succ,w2,w1,n1,la,lb,lc,q1,q2,q3,q4,hb2];have e:qbI (a::b::c::s.drop (i+3))=false:=by simp[qbI,h37]
   rw[e]at hQ;exact aQz hB (h6:=(hQ 0))
 ·have n1:(s.length:Int)<=i+2:=by omega
  have e:qbI (s.drop i)=false:=by
   have:(s.drop i).length<=2:=by rw[zqI];omega
   match s.drop i,this with
   |[],_=>rfl
   |[_],_=>rfl
   |[_,_],_=>rfl
  rw[e]at hQ;simp[Tryz.ntmps212,Tryz.results212,List.replicate_succ,w2,n1];exact aQz hB (h6:=(hQ 0))
theorem qbx(may:UInt8->Bool)(c:UInt8)(r:List UInt8):qaK may (c::r)=if qbI (c::r)then 3+qaK may (r.drop 2)else if may c then 1+qaK may r else 0:=by
 rw[qaK]
theorem qfb{l:List UInt8}(h:qbI l=true):3<=l.length:=by
 match l,h with
 |_::_::_::_,_=>simp
def sgI(H:Hp)(s:List UInt8)(mask:Int)(may:UInt8->Bool)(fr:List AV)(K:Hp):Prop:=K=H/\∃i:Nat,i<=s.length/\qaK may s=i+qaK may (s.drop i)/\
 ∃x:Nat->AV,fr=[.str s,.int .i64 mask,x 2,x 3,x 4,.int .i64 (i:Int),x 6,x 7,x 8,x 9,x 10,x 11,x 12,x 13,x 14,x 15,x 16,x 17,x 18,x 19,x 20,x 21,x 22,x 23,x 24,x 25,x 26,x 27,x 28,x 29,x 30]
theorem qgu(s:List UInt8)(mask:Int)(may:UInt8->Bool)(hm:∀c:UInt8,(IntKind.i64.wrap (((qdF c%2^IntKind.i64.bits).toNat&&&(mask%2^IntKind.i64.bits).toNat:Nat):Int)==0)=!may c)(hl:s.length<=1073741824)(hQ:Q (.int .i64 (qaK may s)) H):PC Tryz.prog E 190 [.str s,.int .i64 mask] H Q:=by
 refine qac Tryz.func190 rfl [] [] (by kernel_rfl) (fun hB=>?_);simp[Tryz.ntmps190,Tryz.results190,List.replicate_succ];refine qaB (sgI H s mask may) (fun fr _=>s.length-(ai (aget fr 5)).toNat) ⟨rfl,0,by omega,by simp,friz⟩ ?_;rintro fr K ⟨rfl,i,hi,hS,x,rfl⟩;by_cases h:i<s.length
 ·obtain⟨c,hc⟩:∃c,s[i]? =some c:=⟨_,zqD h⟩
  have la:=qas hc;have hd:=qay s i c hc;have w3:IntKind.i64.wrap ((i:Int)+3)=i+3:=wiz;have w1:IntKind.i64.wrap ((i:Int)+1)=i+1:=wiz;simp[h];refine qoz E _ s i h hl (fun v=>?_);rw[hd,qbx]at hS;rw[hd];by_cases ht:qbI (c::s.drop (i+1))=true
  ·have h3:=qfb ht;rw[<-hd,zqI]at h3;simp[qap,KP,ht,w3];rw[if_pos ht,List.drop_drop]at hS;exact Klz ⟨rfl,i+3,by omega,by rw[hS,show i+1+2=i+3 by omega];omega,friz⟩
  ·have ht':qbI (c::s.drop (i+1))=false:=by simpa using ht
   simp[qap,KP,ht',la];refine qsB E _ c ?_;rw[if_neg ht]at hS;have hmc:=hm c;cases hmay:may c with
   |true=>
    rw[hmay]at hmc hS;simp[qap,KP,qah,w1,hmc];exact Klz ⟨rfl,i+1,by omega,by rw[hS,if_pos rfl];omega,friz⟩
   |false=>
    rw[hmay]at hmc hS;rw[if_neg (by simp)]at hS;simp[qap,KP,qah,w1,hmc];rw[hS]at hQ;exact aQz hB (h6:=(by simpa using hQ))
 ·simp[h];have e:i=s.length:=by omega
  have hS2:qaK may s=i:=by rw[hS,e,List.drop_length];simp[qaK]
  rw[hS2]at hQ;exact aQz hB (h6:=hQ)
end
theorem qsa:∀n,n<256->hexT (UInt8.ofNat n)=dig (UInt8.ofNat n):=by decide
theorem qr9(c:UInt8):hexT c=dig c:=by
 have:=qsa c.toNat c.toNat_lt;simpa using this
theorem num4(g:List UInt8)(h:qaV 16 g=true)(hl:g.length<=4):qbf 16 g<=65535:=by
 unfold qbf;unfold qaV at h
 match g,hl,h with
 |[],_,_=>simp
 |[a],_,h=>simp at h⊢;omega
 |[a,b],_,h=>simp at h⊢;omega
 |[a,b,c],_,h=>simp at h⊢;omega
 |[a,b,c,d],_,h=>simp at h⊢;omega
 |_::_::_::_::_::_,hl,_=>simp at hl
theorem qlt(g:List UInt8):qaV 16 g=g.all fun c=>decide (0<=hexT c):=by
 unfold qaV;congr 1;funext c;rw[qr9];have:=qiJ c;rw[Bool.eq_iff_iff];simp;omega
theorem hexOk(g:List UInt8):((qae 16 65535 g).2=0/\g.length<=4)↔(1<=g.length/\g.length<=4/\g.all (fun c=>decide (0<=hexT c))=true):=by
 unfold qae;rw[<-qlt];by_cases h1:g=[]
 ·subst h1;simp
 ·have hp:1<=g.length:=List.length_pos_iff.2 h1;rw[if_neg h1];cases h2:qaV 16 g with
  |false=>simp
  |true=>
   rw[if_neg (by simp)];by_cases h4:g.length<=4
   ·have:=num4 g h2 h4;rw[if_neg (by omega)];simp[h4,hp]
   ·simp[h4]
def hexP(g:List UInt8):Bool:=decide ((qae 16 65535 g).2=0/\g.length<=4)
theorem quQ(g:List UInt8)(h:g.contains 46=true):g.all (fun c=>decide (0<=hexT c))=false:=by
 rw[Bool.eq_false_iff];intro ha;have h46:(46:UInt8)∈g:=by simpa using h
 have:=List.all_eq_true.1 ha 46 h46;revert this;decide
theorem nodot(g:List UInt8)(h:g.contains 46=false):dotB g=false:=by
 unfold dotB;rw[qrA,if_neg (by rw[h];simp)];simp
def goD'(last:Bool):List (List UInt8)->Int->Int
 |[],n=>n
 |g::r,n=>if hexP g then goD' last r (n+1)else if last&&r.isEmpty&&dotB g then goD' last r (n+2)else-1
theorem qpD(last:Bool):∀(l:List (List UInt8)) (n:Int),goD' last l n=if(goG last l n).2 then(goG last l n).1 else-1
 |[],n=>by simp[goD',goG]
 |g::r,n=>by
  have hx:=hexOk g;rw[goD',goG,qpD last r];unfold hexP;by_cases hd:g.contains 46=true
  ·have ha:=quQ g hd;have h0:¬((qae 16 65535 g).2=0/\g.length<=4):=fun h=>by have:=(hx.1 h).2.2;rw[ha]at this;cases this
   rw[if_neg (by simpa using h0)];by_cases hl:(last&&r.isEmpty)=true
   ·rw[hl,hd];have hr:r=[]:=by simp at hl;exact hl.2
    subst hr;cases hb:dotB g<;>simp[goD']
   ·have hl':(last&&r.isEmpty)=false:=by simpa using hl
    rw[hl',ha];simp
  ·have hd':g.contains 46=false:=by simpa using hd
   rw[hd',nodot g hd'];simp only[Bool.and_false];simp only[Bool.false_eq_true,if_false];by_cases h0:(qae 16 65535 g).2=0/\g.length<=4
   ·obtain⟨k1,k2,k3⟩:=hx.1 h0;have q:¬(g.length<1\/4<g.length):=by omega
    have q2:decide ((qae 16 65535 g).2=0/\g.length<=4)=true:=by simpa using h0
    simp only[q2,if_neg q,k3,if_true]
   ·rw[if_neg (by simpa using h0)];by_cases h5:g.length<1\/4<g.length
    ·rw[if_pos h5];simp
    ·rw[if_neg h5]
     have:(g.all fun c=>decide (0<=hexT c))=false:=by
      rw[Bool.eq_false_iff];exact fun h=>h0 (hx.2 ⟨by omega,by omega,h⟩)
     rw[this];simp
theorem qpC(last:Bool):∀(l:List (List UInt8)) (n:Int),0<=n->0<=(goG last l n).1/\(goG last l n).1<=n+2+l.length
 |[],n,h=>by simp[goG];omega
 |g::r,n,h=>by
  have ih:=qpC last r (n+1) (by omega);rw[goG];simp only[zqL];split
  ·simp only;omega
  ·split
   ·simp only;omega
   ·split
    ·omega
    ·simp only;omega
def grpD(s:List UInt8)(last:Bool):Int:=if s=[]then 0 else goD' last (qbl 58 s) 0
theorem qjf(s:List UInt8)(last:Bool):grpD s last=if(qbz s last).2 then(qbz s last).1 else-1:=by
 unfold grpD qbz;by_cases h:s=[]
 ·rw[if_pos h,if_pos h];rfl
 ·rw[if_neg h,if_neg h,qpD]
theorem qez(s:List UInt8)(last:Bool):0<=(qbz s last).1:=by
 unfold qbz;split
 ·simp
 ·exact(qpC last _ 0 (by omega)).1
theorem addrD(s:List UInt8):qf7 s=match cut2 58 s with
  |(_,_,false)=>grpD s true==8
  |(a,b,true)=>decide (0<=grpD a false)&&decide (0<=grpD b true)&&decide (grpD a false+grpD b true<=7):=by
 unfold qf7;rcases hc:cut2 58 s with⟨a,b,h⟩;have n1:=qez a false;have n2:=qez b true;have n3:=qez s true;cases h with
 |false=>
  simp only;rw[qjf];cases h1:(qbz s true).2<;>simp
 |true=>
  simp only;rw[qjf,qjf];cases h1:(qbz a false).2<;>cases h2:(qbz b true).2<;>simp[n1,n2]
theorem dwi(p:UInt8->Bool):∀l:List UInt8,(l.dropWhile p).dropWhile p=l.dropWhile p
 |[]=>rfl
 |a::l=>by
  by_cases h:p a=true
  ·rw[List.dropWhile_cons_of_pos h];exact dwi p l
  ·rw[List.dropWhile_cons_of_neg h,List.dropWhile_cons_of_neg h]
theorem qds(may:UInt8->Bool):qaK may []=0:=by rw[qaK]
theorem qng (c : UInt8) (r : List UInt8) (stop : UInt8) (hs : hexT stop < 0) (hc : c ≠ stop) : qbI (c :: r.takeWhile (· != stop)) = qbI (c :: r) := by
  match r with
  | [] => rfl
  | [a] =>
    by_cases ha : a = stop
    · subst ha; simp [qbI]
    · rw [List.takeWhile_cons_of_pos (by simpa using ha)]; rfl
  | a :: b :: r =>
    by_cases ha : a = stop
    · subst ha
      have : ¬ 0 ≤ hexT a := by omega
      simp [qbI, this]
    · rw [List.takeWhile_cons_of_pos (by simpa using ha)]
      by_cases hb : b = stop
      · subst hb
        have : ¬ 0 ≤ hexT b := by omega
        simp [qbI, this]
      · rw [List.takeWhile_cons_of_pos (by simpa using hb)]; rfl
theorem qeQ (may : UInt8 → Bool) (stop : UInt8) (hm : may stop = false) (hs : hexT stop < 0) (h37 : stop ≠ 37) : ∀ (k : Nat) (s : List UInt8), s.length ≤ k → qaK may (s.takeWhile (· != stop)) = qaK may s
  | _, [], _ => rfl
  | 0, _ :: _, h => by simp at h
  | k + 1, c :: r, h => by
    simp only [zqL] at h
    by_cases hc : c = stop
    · subst hc
      have ht : qbI (c :: r) = false := by
        match r with
        | [] => rfl
        | [_] => rfl
        | _ :: _ :: _ => simp [qbI, h37]
      rw [qbx, if_neg (by rw [ht]; simp), if_neg (by rw [hm]; simp)]
      simp [qds]
    · rw [List.takeWhile_cons_of_pos (by simpa using hc), qbx, qbx, qng c r stop hs hc]
      by_cases ht : qbI (c :: r) = true
      · rw [if_pos ht, if_pos ht]
        have e : (r.takeWhile (· != stop)).drop 2 = (r.drop 2).takeWhile (· != stop) := by
          match r, ht with
          | a :: b :: r, ht =>
            simp [qbI] at ht
            have ha : a ≠ stop := fun e => by subst e; omega
            have hb : b ≠ stop := fun e => by subst e; omega
            rw [List.takeWhile_cons_of_pos (by simpa using ha), List.takeWhile_cons_of_pos (by simpa using hb)]
            rfl
        rw [e, qeQ may stop hm hs h37 k _ (by rw [zqI]; omega)]
      · rw [if_neg ht, if_neg ht]
        by_cases hy : may c = true
        · rw [if_pos hy, if_pos hy, qeQ may stop hm hs h37 k r (by omega)]
        · rw [if_neg hy, if_neg hy]
theorem qdt(may:UInt8->Bool):∀(k:Nat) (s:List UInt8),s.length<=k->qaK may s<=s.length
 |_,[],_=>by simp[qds]
 |0,_::_,h=>by simp at h
 |k+1,c::r,h=>by
  simp only[zqL]at h⊢;rw[qbx];split
  ·rename_i ht;have:=qfb ht;simp only[zqL]at this;have h1:=qdt may k (r.drop 2) (by rw[zqI];omega);rw[zqI]at h1;omega
  ·split
   ·have h1:=qdt may k r (by omega);omega
   ·omega
def qc5(may:UInt8->Bool)(other:Int)(s:List UInt8):Int:=match s.drop (qaK may s)with
 |[]=>0
 |c::_=>qcV c other
theorem behD (s : List UInt8) : behE s = if qc5 qcZ 53 (s.takeWhile (· != 63)) ≠ 0 then qc5 qcZ 53 (s.takeWhile (· != 63)) else qc5 qdQ 54 ((s.dropWhile (· != 63)).drop 1) := by
  obtain ⟨t1, t2⟩ := qck (· != 63) s
  obtain ⟨p, hp⟩ := exz (s.takeWhile (· != 63))
  obtain ⟨q, hq⟩ := exz (s.dropWhile (· != 63))
  have hn := qeQ qcZ 63 (by decide) (by decide) (by decide) _ s (Nat.le_refl _)
  have hs : s = p ++ q := by rw [← hp, ← hq, List.takeWhile_append_dropWhile]
  have hl := qdt qcZ _ p (Nat.le_refl _)
  have hpn : ∀ c ∈ p, c ≠ 63 := fun c hc => by
    rw [← hp] at hc
    have := List.all_takeWhile (p := (· != (63 : UInt8))) (l := s)
    have := List.all_eq_true.1 this c hc
    simpa using this
  rw [hp] at hn ⊢
  rw [hq]
  unfold behE
  rw [← hn]
  have e : s.drop (qaK qcZ p) = p.drop (qaK qcZ p) ++ q := by
    rw [hs, List.drop_append_of_le_length hl]
  rw [e]
  unfold qc5
  cases hd : p.drop (qaK qcZ p) with
  | nil =>
    simp only [List.nil_append]
    rw [if_neg (by simp)]
    cases q with
    | nil => simp [qds]
    | cons c q =>
      have hc : c = 63 := by
        have : ¬ (c != 63) = true := by
          intro h
          have h2 := List.dropWhile_cons_of_pos (p := (· != (63 : UInt8))) (l := q) h
          have h3 : (s.dropWhile (· != 63)).dropWhile (· != 63) = s.dropWhile (· != 63) := dwi _ _
          rw [hq, h2] at h3
          have := congrArg List.length h3
          have h4 : (q.dropWhile (· != 63)).length ≤ q.length := by rw [← (qck (· != 63) q).2, zqI]; omega
          simp only [zqL] at this
          omega
        simpa using this
      subst hc
      simp
      try (cases List.drop (qaK qdQ q) q <;> rfl)
  | cons d r =>
    simp only [List.cons_append]
    have hd63 : d ≠ 63 := hpn d (List.mem_of_mem_drop (by rw [hd]; exact .head _))
    have hw : qcV d 53 ≠ 0 := by unfold qcV; split <;> decide
    rw [if_pos hd63, if_pos hw]
def qf6(s:List UInt8):List UInt8×Int×Int:=
 let fin (host port:List UInt8):List UInt8×Int×Int:=if port=[]then(low host,-1,0)else if(qae 10 65535 port).2≠0\/5<port.length then([],0,52)else(low host,(qae 10 65535 port).1,0)
 if s.head? =some 91 then
  let c:=cut1 93 (s.drop 1)
  if c.2.2=false\/qf7 c.1=false\/(c.2.1≠[]/\c.2.1.head? ≠some 58)then([],0,52)else fin (s.take (c.1.length+2)) (c.2.1.drop 1)
 else
  let c:=cut1 58 s
  if c.1=[]\/qaK qcj c.1≠c.1.length then([],0,52)else fin c.1 c.2.1
theorem qm8(host port:List UInt8):(if 5<port.length then([],0,52)else if port=[]then(low host,-1,0)else if(qae 10 65535 port).2≠0 then([],0,52)else(low host,(qae 10 65535 port).1,0):List UInt8×Int×Int)=
  (if port=[]then(low host,-1,0)else if(qae 10 65535 port).2≠0\/5<port.length then([],0,52)else(low host,(qae 10 65535 port).1,0)):=by
 by_cases h1:port=[]
 ·subst h1;simp
 ·rw[if_neg h1,if_neg h1];by_cases h2:5<port.length
  ·simp[h2]
  ·rw[if_neg h2];simp[h2]
theorem qsL (s inner rest : List UInt8) (hs : s = 91 :: (inner ++ 93 :: rest)) (hin : (93 : UInt8) ∉ inner) : qbP s = (91 :: (inner ++ [93]), rest.drop 1, rest.isEmpty || rest.head? == some 58) := by
  unfold qbP
  have hc : s.contains 93 = true := by rw [hs]; simp
  have htw : s.takeWhile (· != 93) = 91 :: inner := by
    rw [hs, List.takeWhile_cons_of_pos (by decide), List.takeWhile_append_of_pos (fun x hx => by simpa using fun e : x = 93 => hin (by rw [← e]; exact hx)), List.takeWhile_cons_of_neg (by simp), List.append_nil]
  rw [if_pos ⟨by rw [hs]; rfl, hc⟩, htw]
  have h1 : s.take (inner.length + 1 + 1) = 91 :: (inner ++ [93]) := by rw [hs]; simp [List.take_append, zqE]
  have h2 : s.drop (inner.length + 1 + 1) = rest := by rw [hs]; simp
  simp only [zqL, h1, h2]
theorem qsK (s : List UInt8) : qbo s = qf6 s := by
  by_cases h91 : s.head? = some 91
  · obtain ⟨t, rfl⟩ : ∃ t, s = 91 :: t := by
      cases s with
      | nil => simp at h91
      | cons a t => simp at h91; exact ⟨t, by rw [h91]⟩
    have hD : qf6 (91 :: t) = (let c := cut1 93 t
        if c.2.2 = false ∨ qf7 c.1 = false ∨ (c.2.1 ≠ [] ∧ c.2.1.head? ≠ some 58) then ([], 0, 52) else
          if c.2.1.drop 1 = [] then (low ((91 :: t).take (c.1.length + 2)), -1, 0) else if (qae 10 65535 (c.2.1.drop 1)).2 ≠ 0 ∨ 5 < (c.2.1.drop 1).length then ([], 0, 52) else (low ((91 :: t).take (c.1.length + 2)), (qae 10 65535 (c.2.1.drop 1)).1, 0)) := by
      unfold qf6
      dsimp only
      rw [if_pos h91]
      rfl
    rw [hD]
    cases h93 : t.contains 93 with
    | false =>
      have e0 : (cut1 93 t).2.2 = false := h93
      dsimp only
      rw [if_pos (.inl e0)]
      have hcut : qbP (91 :: t) = ((cut1 58 (91 :: t)).1, (cut1 58 (91 :: t)).2.1, true) := by
        unfold qbP
        rw [if_neg]
        rintro ⟨_, h⟩
        rw [List.contains_cons, h93] at h
        simp at h
      have hh : qeX (cut1 58 (91 :: t)).1 = false := by
        have e1 : (cut1 58 (91 :: t)).1 = 91 :: t.takeWhile (· != 58) := by simp [cut1]
        rw [e1]
        unfold qeX
        rw [if_pos (show ((91 : UInt8) :: t.takeWhile (· != 58)).head? = some 91 from rfl)]
        have : (((91 : UInt8) :: t.takeWhile (· != 58)).getLast? == some 93) = false := by
          rw [Bool.eq_false_iff]
          intro h
          have h2 : ((91 : UInt8) :: t.takeWhile (· != 58)).getLast? = some 93 := by simpa using h
          have h3 := List.mem_of_getLast? h2
          simp only [List.mem_cons] at h3
          rcases h3 with h3 | h3
          · cases h3
          · have h4 : (93 : UInt8) ∈ t := (List.takeWhile_sublist _).subset h3
            have : t.contains 93 = true := by simpa using h4
            rw [h93] at this
            cases this
        rw [this]; rfl
      unfold qbo
      rw [hcut]
      dsimp only
      rw [if_pos (.inr (.inl hh))]
    | true =>
      obtain ⟨t1, t2⟩ := qck (· != 93) t
      obtain ⟨inner, hin⟩ := exz (t.takeWhile (· != 93))
      have hni : (93 : UInt8) ∉ inner := fun h => by
        have := List.all_takeWhile (p := (· != (93 : UInt8))) (l := t)
        rw [hin] at this
        have := List.all_eq_true.1 this 93 h
        simp at this
      rw [hin] at t1 t2
      have hne : t.dropWhile (· != 93) ≠ [] := by
        have := qeg t 93
        rw [h93] at this
        exact ((qfY t 93).1 (by simpa using this)).2
      obtain ⟨z, rest, hz⟩ : ∃ z rest, t.dropWhile (· != 93) = z :: rest := by
        cases h : t.dropWhile (· != 93) with
        | nil => exact absurd h hne
        | cons z r => exact ⟨z, r, rfl⟩
      have hz93 : z = 93 := by
        have h3 : (t.dropWhile (· != 93)).dropWhile (· != 93) = t.dropWhile (· != 93) := dwi _ _
        refine Classical.byContradiction fun hn => ?_
        rw [hz, List.dropWhile_cons_of_pos (by simpa using hn)] at h3
        have := congrArg List.length h3
        have h4 : (rest.dropWhile (· != 93)).length ≤ rest.length := by rw [← (qck (· != 93) rest).2, zqI]; omega
        simp only [zqL] at this
        omega
      subst hz93
      have ht : t = inner ++ 93 :: rest := by
        have := List.take_append_drop inner.length t
        rw [t1, t2, hz] at this
        exact this.symm
      have hc1 : (cut1 93 t).1 = inner := hin
      have hc2 : (cut1 93 t).2.1 = rest := by show (t.dropWhile (· != 93)).drop 1 = rest; rw [hz]; rfl
      have hc3 : (cut1 93 t).2.2 = true := h93
      have htk : ((91 : UInt8) :: t).take (inner.length + 2) = 91 :: (inner ++ [93]) := by rw [ht]; simp [List.take_append, zqE]
      dsimp only
      rw [hc1, hc2, hc3, htk]
      unfold qbo
      rw [qsL _ inner rest (by rw [ht]) hni]
      dsimp only
      have hhost : qeX (91 :: (inner ++ [93])) = qf7 inner := by
        unfold qeX
        rw [if_pos (show ((91 : UInt8) :: (inner ++ [93])).head? = some 91 from rfl)]
        have g1 : ((91 : UInt8) :: (inner ++ [93])).getLast? = some 93 := by rw [← List.cons_append, List.getLast?_append]; rfl
        rw [g1]
        simp
      rw [hhost]
      have hor : ((rest.isEmpty || rest.head? == some 58) = false) ↔ (rest ≠ [] ∧ rest.head? ≠ some 58) := by
        cases rest <;> simp
      by_cases hA : (rest.isEmpty || rest.head? == some 58) = false
      · rw [if_pos (.inl hA), if_pos (.inr (.inr (hor.1 hA)))]
      · by_cases hB : qf7 inner = false
        · rw [if_pos (.inr (.inl hB)), if_pos (.inr (.inl hB))]
        · rw [if_neg (show ¬ (true = false ∨ qf7 inner = false ∨ (rest ≠ [] ∧ rest.head? ≠ some 58)) from fun h => h.elim (by simp) fun h => h.elim hB fun h => hA (hor.2 h)), ← qm8]
          by_cases h5 : 5 < (rest.drop 1).length
          · rw [if_pos (.inr (.inr h5)), if_pos h5]
          · rw [if_neg (fun h => h.elim hA fun h => h.elim hB h5), if_neg h5]
  · have hcut : qbP s = ((cut1 58 s).1, (cut1 58 s).2.1, true) := by
      unfold qbP
      rw [if_neg (fun h => h91 h.1)]
    have hh : qeX (cut1 58 s).1 = false ↔ ((cut1 58 s).1 = [] ∨ qaK qcj (cut1 58 s).1 ≠ (cut1 58 s).1.length) := by
      have h0 : (cut1 58 s).1.head? ≠ some 91 := by
        intro h
        apply h91
        cases s with
        | nil => simp [cut1] at h
        | cons a t =>
          by_cases ha : a = 58
          · subst ha; simp [cut1] at h
          · simp [cut1, ha] at h; rw [h]; rfl
      unfold qeX
      rw [if_neg h0]
      by_cases he : (cut1 58 s).1 = []
      · simp [he]
      · simp [he]
    unfold qbo qf6
    rw [hcut, if_neg h91]
    dsimp only
    by_cases hB : qeX (cut1 58 s).1 = false
    · rw [if_pos (.inr (.inl hB)), if_pos (hh.1 hB)]
    · rw [if_neg (fun h => hB (hh.2 h)), ← qm8]
      by_cases h5 : 5 < (cut1 58 s).2.1.length
      · rw [if_pos (.inr (.inr h5)), if_pos h5]
      · rw [if_neg (fun h => h.elim (by simp) fun h => h.elim hB h5), if_neg h5]
theorem qhP(s:List UInt8):(qbo s).2.2=0\/(qbo s).2.2=52:=by
 unfold qbo;split
 ·exact .inr rfl
 ·split
  ·exact .inl rfl
  ·split
   ·exact .inr rfl
   ·exact .inl rfl
end Go.Proofs.YtnnhdehmlkkfjaaGreatDoor
namespace Go.Proofs.YtnnhdehmlkkfjaaGreatDoor
open Go Go.RowKit Go.Shelf
theorem qe2(c:UInt8):(qbK c=true/\qdF c=1)\/(qbK c=false/\qb1 c=true/\qdF c=2)\/(qbK c=false/\qb1 c=false/\qdn c=true/\qdF c=4)\/(qbK c=false/\qb1 c=false/\qdn c=false/\c=47/\qdF c=8)\/(qbK c=false/\qb1 c=false/\qdn c=false/\c=63/\qdF c=16)\/(qbK c=false/\qb1 c=false/\qdn c=false/\c≠47/\c≠63/\qdF c=0):=by
 unfold qdF;by_cases h1:qbK c=true
 ·exact .inl ⟨h1,by rw[if_pos h1]⟩
 ·have h1':qbK c=false:=by simpa using h1
  rw[if_neg h1];by_cases h2:qb1 c=true
  ·exact .inr (.inl ⟨h1',h2,by rw[if_pos h2]⟩)
  ·have h2':qb1 c=false:=by simpa using h2
   rw[if_neg h2];by_cases h3:qdn c=true
   ·exact .inr (.inr (.inl ⟨h1',h2',h3,by rw[if_pos h3]⟩))
   ·have h3':qdn c=false:=by simpa using h3
    rw[if_neg h3];by_cases h4:c=47
    ·exact .inr (.inr (.inr (.inl ⟨h1',h2',h3',h4,by rw[if_pos h4]⟩)))
    ·rw[if_neg h4];by_cases h5:c=63
     ·exact .inr (.inr (.inr (.inr (.inl ⟨h1',h2',h3',h5,by rw[if_pos h5]⟩))))
     ·exact .inr (.inr (.inr (.inr (.inr ⟨h1',h2',h3',h4,h5,by rw[if_neg h5]⟩))))
theorem qpj(c:UInt8):(IntKind.i64.wrap (((qdF c%2^IntKind.i64.bits).toNat&&&((3:Int)%2^IntKind.i64.bits).toNat:Nat):Int)==0)=!qcj c:=by
 unfold qcj;rcases qe2 c with⟨h1,h⟩|⟨h1,h2,h⟩|⟨h1,h2,h3,h⟩|⟨h1,h2,h3,h4,h⟩|⟨h1,h2,h3,h4,h⟩|⟨h1,h2,h3,h4,h5,h⟩
 ·rw[h,h1];simp;decide
 ·rw[h,h1,h2];decide
 ·rw[h,h1,h2];decide
 ·rw[h,h1,h2];decide
 ·rw[h,h1,h2];decide
 ·rw[h,h1,h2];decide
theorem qpi(c:UInt8):(IntKind.i64.wrap (((qdF c%2^IntKind.i64.bits).toNat&&&((15:Int)%2^IntKind.i64.bits).toNat:Nat):Int)==0)=!qcZ c:=by
 unfold qcZ;rcases qe2 c with⟨h1,h⟩|⟨h1,h2,h⟩|⟨h1,h2,h3,h⟩|⟨h1,h2,h3,h4,h⟩|⟨h1,h2,h3,h4,h⟩|⟨h1,h2,h3,h4,h5,h⟩
 ·rw[h,h1];simp;decide
 ·rw[h,h1,h2];simp;decide
 ·rw[h,h1,h2,h3];simp;decide
 ·rw[h,h1,h2,h3,h4];decide
 ·rw[h,h1,h2,h3,h4];decide
 ·have e:(c==47)=false:=by simpa using h4
  rw[h,h1,h2,h3,e];decide
theorem qkf(c:UInt8):(IntKind.i64.wrap (((qdF c%2^IntKind.i64.bits).toNat&&&((31:Int)%2^IntKind.i64.bits).toNat:Nat):Int)==0)=!qdQ c:=by
 unfold qdQ;rcases qe2 c with⟨h1,h⟩|⟨h1,h2,h⟩|⟨h1,h2,h3,h⟩|⟨h1,h2,h3,h4,h⟩|⟨h1,h2,h3,h4,h⟩|⟨h1,h2,h3,h4,h5,h⟩
 ·rw[h,h1];simp;decide
 ·rw[h,h1,h2];simp;decide
 ·rw[h,h1,h2,h3];simp;decide
 ·rw[h,h1,h2,h3,h4];decide
 ·rw[h,h1,h2,h3,h4];decide
 ·have e:(c==47)=false:=by simpa using h4
  have e2:(c==63)=false:=by simpa using h5
  rw[h,h1,h2,h3,e,e2];decide
theorem qjL (c : UInt8) : ∀ (k : Nat) (l : List UInt8), l.length ≤ k → Lib.splitK [c] 0 (Lib.count l [c]) l = qbl c l
  | 0, l, h => by
    have : l = [] := List.length_eq_zero_iff.1 (by omega)
    subst this
    rfl
  | k + 1, l, h => by
    rw [qrA]
    have hg := Lib.indexByte_ge l c
    have hb := qeg l c
    obtain ⟨t1, t2⟩ := qck (· != c) l
    by_cases hc : l.contains c = true
    · rw [hc] at hb
      have h0 : 0 ≤ Lib.indexByte l c := by simpa using hb
      obtain ⟨e1, e2⟩ := (qfY l c).1 h0
      have hi : Lib.index l [c] = ((l.takeWhile (· != c)).length : Nat) := by rw [ix1]; omega
      rw [if_pos hc, Lib.count_hit (by simp) hi, Nat.add_comm, Lib.splitK, hi]
      rw [if_neg (by simp)]
      simp only [Int.toNat_natCast, Nat.add_zero, zqL, List.length_nil, Nat.zero_add]
      rw [t1, ← List.drop_drop, t2]
      have hlen : ((l.dropWhile (· != c)).drop 1).length ≤ k := by
        have h3 : (l.dropWhile (· != c)).length ≤ l.length := by rw [← t2, zqI]; omega
        have h4 : 0 < (l.dropWhile (· != c)).length := List.length_pos_iff.2 e2
        rw [zqI]
        omega
      rw [qjL c k _ hlen]
    · have hc' : l.contains c = false := by simpa using hc
      rw [hc'] at hb
      have h0 : ¬ 0 ≤ Lib.indexByte l c := by simpa using hb
      have hi : Lib.index l [c] = -1 := by rw [ix1]; omega
      rw [if_neg hc, Lib.count_miss hi]
      rfl
section
variable (E:Env){H:Hp}(Q:AV->Hp->Prop)
theorem qgU(sep:ByteArray)(m:Nat):∀(k:Nat) (s:ByteArray),s.size<=m->∀x∈Lib.splitB sep 0 k s,x.size<=m
 |0,s,h,x,hx=>by simp[Lib.splitB]at hx;subst hx;exact h
 |k+1,s,h,x,hx=>by
  unfold Lib.splitB at hx;split at hx
  ·simp at hx;subst hx;exact h
  ·simp only[List.mem_cons]at hx;rcases hx with rfl|hx
   ·simp only[ByteArray.size_extract];omega
   ·exact qgU sep m k _ (by simp only[ByteArray.size_extract];omega) x hx
theorem qme(hM:ME E)(l:List UInt8)(c:UInt8)(hl:l.length<=1073741824)(hQ:Q (.sl false 1 (strs (qbl c l))) H):PC Tryz.prog E 234 [.str l,.str [c]] H Q:=by
 refine⟨by kernel_rfl,fun w β Rd Ow cargs hHR hOw hsz hargs=>?_⟩;obtain⟨m,hm⟩:=hM.cell (w:=w) fun b hb=>(hHR.fix b hb).1;obtain⟨u,v,rfl,hu,hv⟩:=args2 hsz (fun t x u hx hu=>(hargs t x u hx hu).1);obtain⟨s,rfl,rfl,hs⟩:=qaC hu;obtain⟨⟨⟨tl⟩⟩,rfl,ht,_⟩:=qaC hv;have ht':tl=[c]:=ht;subst ht';rw[qad]at hl;have h11:1<=(⟨#[c]⟩:ByteArray).size:=Nat.le_refl _;have hi9:(Tryz.prog.info? (lrenb.t 9)).map (fun i=>(i.zero,i.size,i.bytes))=some (some (.string ByteArray.empty),1,16):=by kernel_rfl
 refine(Any.strings_Split laysb146 hi9 s ⟨#[c]⟩ m w (by omega) hm h11).mono ?_;rintro e w' ⟨rfl,rfl⟩;have hlen:=Lib.splitB_all ⟨#[c]⟩ h11 0 _ s rfl;have hdata:=Lib.splitB_data ⟨#[c]⟩ 0 (Lib.countB s ⟨#[c]⟩) s;have hcs:Lib.splitK (⟨#[c]⟩:ByteArray).data.toList 0 (Lib.countB s ⟨#[c]⟩) s.data.toList=qbl c s.data.toList:=qjL c _ _ (Nat.le_refl _);rw[hcs]at hdata;obtain⟨L,hL⟩:=exz (Lib.splitB ⟨#[c]⟩ 0 (Lib.countB s ⟨#[c]⟩) s);have hle:=Lib.countB_le ⟨#[c]⟩ h11 s.size s (Nat.le_refl _);have hsz2:=qgU ⟨#[c]⟩ s.size (Lib.countB s ⟨#[c]⟩) s (Nat.le_refl _);rw[hL]at hlen hdata hsz2⊢;obtain⟨n,hn⟩:=exz (Lib.countB s ⟨#[c]⟩);rw[hn]at hlen hle⊢;have hN:(strs (qbl c s.data.toList)).length=n+1:=by rw[<-hdata];simp[strs,hlen]
 have hrel:Rel (w.alloc (.cells (L.map Value.string).toArray (lrenb.t 9))) β (fun g o=>Rd g o\/g=w.heap.size) (.sl false 1 (strs (qbl c s.data.toList))) (.slice (some ⟨w.heap.size,0,none⟩) (n+1) (n+1)):=by
  refine .sl false 1 _ _ (L.map Value.string) (fun r hr=>?_) ?_ (fun g o n' c' hv j hj=>?_) (fun h=>by cases h) (fun r hr x hx=>?_) (fun j x u hx hu=>?_)
  ·simp[strs]at hr;obtain⟨_,_,rfl⟩:=hr;rfl
  ·rw[hN];refine⟨by simp[hlen],_,n+1,rfl,Nat.le_refl _,by unfold maxLen;omega,fun _=>⟨_,_,rfl,fun j hj=>?_⟩⟩;rw[Nat.zero_add,World.cell?_alloc_new];simp
  ·cases hv;exact .inr rfl
  ·simp[strs]at hr;obtain⟨_,_,rfl⟩:=hr;simp at hx;subst hx;exact⟨rfl,rfl⟩
  ·have hf:(strs (qbl c s.data.toList)).flatten=L.map fun b=>AV.str b.data.toList:=by
    rw[<-hdata];clear hdata hN hL hsz2 hlen hx hu
    induction L with
    |nil=>rfl
    |cons a L ih=>simp[strs]at ih⊢;exact ih
   rw[hf,List.getElem?_map]at hx;rw[List.getElem?_map]at hu;cases hj:L[j]? with
   |none=>rw[hj]at hx;cases hx
   |some b=>
    rw[hj]at hx hu;simp at hx hu;subst hx;subst hu;exact .str _ _ rfl (by have:=hsz2 b (zqH hj);unfold maxLen;omega)
 refine⟨_,_,H,β,_,Ow,rfl,hQ,qcY hHR (Frm.alloc _ _ _) (fun g _=>g=w.heap.size) (fun g o h=>⟨by omega,by simp;omega⟩) hrel (.sl _ _ _ fun r hr x hx=>?_) rfl⟩;simp[strs]at hr;obtain⟨_,_,rfl⟩:=hr;simp at hx;subst hx;exact .str _
end
end Go.Proofs.YtnnhdehmlkkfjaaGreatDoor
