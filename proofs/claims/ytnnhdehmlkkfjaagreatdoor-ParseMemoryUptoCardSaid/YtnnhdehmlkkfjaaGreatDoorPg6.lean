/- Part 6 of the texts below the law. -/
import Derived.Test.YtnnhdehmlkkfjaaGreatDoorPg5
import Derived.Lib.SliceRun
import Derived.Lib.IndexLaws
set_option maxRecDepth 100000
set_option maxHeartbeats 16000000
set_option linter.unusedVariables false
set_option linter.unusedSimpArgs false
set_option linter.unusedSectionVars false
namespace Go.Proofs.YtnnhdehmlkkfjaaGreatDoor
open Go Go.RowKit Go.Proofs
def qbH(l:List UInt8):Bool:=decide (l.length<=128)&&tokB l
def never:List (List UInt8):=[[99,111,110,110,101,99,116,105,111,110],[99,111,110,116,101,110,116,45,101,110,99,111,100,105,110,103],[99,111,110,116,101,110,116,45,108,101,110,103,116,104],[99,111,110,116,101,110,116,45,114,97,110,103,101],[99,111,110,116,101,110,116,45,116,121,112,101],[101,120,112,101,99,116],[104,111,115,116],[107,101,101,112,45,97,108,105,118,101],[116,101],[116,114,97,105,108,101,114],[116,114,97,110,115,102,101,114,45,101,110,99,111,100,105,110,103],[117,112,103,114,97,100,101]]
def mayB(l:List UInt8):Bool:=qbH l&&!never.contains (low l)
section
variable (E:Env)(H:Hp)(Q:AV->Hp->Prop)
theorem qnC(hE:SE E)(l:List UInt8)(hl:l.length<=cap)(hQ:Q (.bool (qbH l)) H):PC Tryz.prog E 104 [.str l] H Q:=by
 refine qac Tryz.func104 rfl [] [] (by kernel_rfl) (fun hB=>?_);by_cases h:l.length<=128
 ·have h':(l.length:Int)<=128:=by omega
  have e:qbH l=tokB l:=by simp[qbH,h]
  rw[e]at hQ;simp[Tryz.ntmps104,Tryz.results104,List.replicate_succ,h'];refine qc2 E _ _ hE l hl ?_;simp;exact aQz hB (h6:=hQ)
 ·have h':¬(l.length:Int)<=128:=by omega
  have e:qbH l=false:=by simp[qbH,h]
  rw[e]at hQ;simp[Tryz.ntmps104,Tryz.results104,List.replicate_succ,h'];exact aQz hB (h6:=hQ)
theorem qj1(hE:SE E)(l:List UInt8)(hl:l.length<=cap)(hQ:Q (.bool (mayB l)) H):PC Tryz.prog E 78 [.str l] H Q:=by
 refine qac Tryz.func78 rfl [] [] (by kernel_rfl) (fun hB=>?_);simp[Tryz.ntmps78,Tryz.results78,List.replicate_succ];refine qbK E _ _ l hl ?_;by_cases h:low l∈never
 ·have e:mayB l=false:=by unfold mayB;rw[List.contains_iff_mem.2 h];simp
  rw[e]at hQ;simp only[never,List.mem_cons,List.not_mem_nil,or_false]at h;rcases h with h|h|h|h|h|h|h|h|h|h|h|h
  all_goals
   rw[h];simp;exact aQz hB (h6:=hQ)
 ·have e:mayB l=qbH l:=by
   unfold mayB;have:never.contains (low l)=false:=Bool.eq_false_iff.2 (fun hh=>h (List.contains_iff_mem.1 hh));rw[this];simp
  rw[e]at hQ;have hb:∀x∈never,(low l==x)=false:=fun x hx=>beq_eq_false_iff_ne.2 (fun e=>h (e▸hx));have b0:=hb [99,111,110,110,101,99,116,105,111,110] (by simp[never]);have b1:=hb [99,111,110,116,101,110,116,45,101,110,99,111,100,105,110,103] (by simp[never]);have b2:=hb [99,111,110,116,101,110,116,45,108,101,110,103,116,104] (by simp[never]);have b3:=hb [99,111,110,116,101,110,116,45,114,97,110,103,101] (by simp[never]);have b4:=hb [99,111,110,116,101,110,116,45,116,121,112,101] (by simp[never]);have b5:=hb [101,120,112,101,99,116] (by simp[never]);have b6:=hb [104,111,115,116] (by simp[never]);have b7:=hb [107,101,101,112,45,97,108,105,118,101] (by simp[never]);have b8:=hb [116,101] (by simp[never]);have b9:=hb [116,114,97,105,108,101,114] (by simp[never]);have b10:=hb [116,114,97,110,115,102,101,114,45,101,110,99,111,100,105,110,103] (by simp[never]);have b11:=hb [117,112,103,114,97,100,101] (by simp[never]);clear hb h e;simp[b0,b1,b2,b3,b4,b5,b6,b7,b8,b9,b10,b11];refine qnC E _ _ hE l hl ?_;simp;exact aQz hB (h6:=hQ)
end
structure Fld where
 name:List UInt8
 value:List UInt8
deriving DecidableEq
def ncol(b:UInt8):Bool:=b !=58
def qbt(l:List UInt8):Option Fld:=
 if run ncol l<l.length/\qbH (l.take (run ncol l))=true/\fldB (l.drop (run ncol l+1))=true/\(qaH (l.drop (run ncol l+1))).length<=8192 then some ⟨l.take (run ncol l),qaH (l.drop (run ncol l+1))⟩else none
theorem qch(l:List UInt8):Lib.indexByte l 58=if run ncol l<l.length then(run ncol l:Int)else-1:=by
 unfold run
 induction l with
 |nil=>rfl
 |cons a r ih=>
  unfold Lib.indexByte;rw[List.takeWhile_cons];by_cases h:a=58
  ·subst h;rfl
  ·have h1:(a==58)=false:=by simpa using h
   have h2:ncol a=true:=by simp[ncol,h]
   rw[h1,if_pos h2,ih];have hle:(r.takeWhile ncol).length<=r.length:=qbf ncol r;by_cases hh:(r.takeWhile ncol).length<r.length
   ·rw[if_pos hh];have h3:(((r.takeWhile ncol).length:Int)== -1)=false:=by rw[beq_eq_false_iff_ne];omega
    simp[h3,hh]
   ·rw[if_neg hh];simp[hh]
theorem qfL(a:UInt8):(0<=Lib.indexByte [32,9] a)=(qag a=true):=by
 unfold Lib.indexByte qag;by_cases h1:a=32
 ·subst h1;decide
 ·by_cases h2:a=9
  ·subst h2;decide
  ·have e1:((32:UInt8)==a)=false:=by rw[beq_eq_false_iff_ne];exact fun e=>h1 e.symm
   have e2:((9:UInt8)==a)=false:=by rw[beq_eq_false_iff_ne];exact fun e=>h2 e.symm
   simp[e1,e2,h1,h2,Lib.indexByte]
theorem qgZ(a:UInt8)(h:qag a=true):qao a=false:=by
 unfold qag at h;simp at h;rcases h with rfl|rfl<;>decide
theorem qhT{l:List UInt8}(h:qbH (l.take (run ncol l))=false):qbt l=none:=by unfold qbt;rw[if_neg (by rw[h];simp)]
theorem qeb{l:List UInt8}(h:l.length<=run ncol l):qbt l=none:=by unfold qbt;rw[if_neg (by omega)]
theorem qiL:qbH []=false:=by decide
theorem qdQ{l:List UInt8}(h:run ncol l=0):qbt l=none:=qhT (by rw[h,List.take_zero];exact qiL)
theorem qeK{l:List UInt8}{i:Nat}{b:UInt8}(hi:i<run ncol l)(hb:l[i]? =some b)(hs:qao b=false):qbt l=none:=by
 apply qhT;unfold qbH tokB;rw[qei qao (l.take (run ncol l)) i b (by rw[zqG hi];exact hb) hs];simp
theorem qhi{l:List UInt8}(hi:128<run ncol l):qbt l=none:=by
 apply qhT;have:=qbf ncol l;unfold qbH;rw[decide_eq_false (by rw[zqJ];omega)];rfl
theorem qiU{l:List UInt8}(h:fldB (l.drop (run ncol l+1))=false):qbt l=none:=by unfold qbt;rw[if_neg (by rw[h];simp)]
theorem qiV{l:List UInt8}(h:8192<(qaH (l.drop (run ncol l+1))).length):qbt l=none:=by unfold qbt;rw[if_neg (by omega)]
section
variable (E:Env)(H:Hp)(Q:AV->Hp->Prop)
def qqR(l:List UInt8)(H:Hp)(fr:List AV)(H':Hp):Prop:=H'=H++[[.str [],.str []]]/\∃i:Nat,i<=run ncol l/\i<=128/\(l.take i).all qao=true/\∃x:Nat->AV,fr=[.str l,x 1,.ptr (some (H.length,0)),x 3,x 4,.int .i64 (run ncol l:Nat),x 6,x 7,x 8,x 9,x 10,x 11,x 12,x 13,x 14,x 15,x 16,x 17,x 18,x 19,x 20,x 21,x 22,x 23,x 24,x 25,x 26,x 27,x 28,x 29,x 30,x 31,.int .i64 (run ncol l:Nat),.int .i64 i,x 34,x 35,x 36,x 37,x 38,x 39,x 40,x 41,x 42,x 43,x 44,x 45,x 46,x 47,x 48,x 49,x 50,x 51,x 52,x 53,x 54,x 55,x 56,x 57,x 58,x 59,x 60,x 61,x 62,x 63,x 64,x 65,x 66,x 67,x 68,x 69,x 70,x 71,x 72,x 73,x 74,x 75,x 76,x 77,x 78,x 79,x 80,x 81,x 82,x 83,x 84,x 85,x 86,x 87,x 88,x 89,x 90,x 91,x 92]
def qqQ(l:List UInt8)(H:Hp)(fr:List AV)(H':Hp):Prop:=H'=H++[[.str [],.str []]]/\∃i:Nat,run ncol l+1<=i/\i<=l.length/\fldB ((l.drop (run ncol l+1)).take (i-(run ncol l+1)))=true/\∃x:Nat->AV,fr=[.str l,x 1,.ptr (some (H.length,0)),x 3,x 4,.int .i64 (run ncol l:Nat),x 6,.int .i64 i,x 8,x 9,x 10,x 11,x 12,x 13,x 14,x 15,x 16,x 17,x 18,x 19,x 20,x 21,x 22,x 23,x 24,x 25,x 26,x 27,x 28,x 29,x 30,x 31,x 32,x 33,x 34,x 35,x 36,x 37,x 38,x 39,x 40,x 41,x 42,x 43,x 44,x 45,x 46,x 47,x 48,x 49,x 50,x 51,x 52,x 53,x 54,x 55,x 56,x 57,x 58,x 59,x 60,x 61,x 62,x 63,x 64,x 65,x 66,x 67,x 68,x 69,x 70,x 71,x 72,x 73,x 74,x 75,x 76,x 77,x 78,x 79,x 80,x 81,x 82,x 83,x 84,x 85,x 86,x 87,x 88,x 89,x 90,x 91,x 92]
theorem qiH(hE:SE E)(l:List UInt8)(hl:l.length<=cap)(hQ1:∀f,qbt l=some f->Q (.tup [.agg [.str f.name,.str f.value],.int .i64 0,.int .i64 0]) H)(hQ2:qbt l=none->∀pl e,e≠0->Q (.tup [.agg [.str [],.str []],.int .i64 pl,.int .i64 e]) H):
  PC Tryz.prog E 167 [.str l] H Q:=by
 refine qac Tryz.func167 rfl [] [] (by kernel_rfl) (fun hB=>?_);have hl':=hl;simp only[cap]at hl';obtain⟨c,hc⟩:=exz (run ncol l);have hcl:=qbf ncol l;rw[hc]at hcl;have hib:=qch l;rw[hc]at hib
 have bad:∀(fr:List AV) (pl e:Int),qbt l=none->e≠0->aget fr 2= .ptr (some (H.length,0))->aget fr 3= .int .i64 pl->aget fr 4= .int .i64 e->qbO Tryz.prog [ResultVar.cell 2 65,ResultVar.tmp 3,ResultVar.tmp 4] H.length Q .ret fr (H++[[.str [],.str []]]):=fun fr pl e h0 he h2 h3 h4=>
  qab hB (v0:= .tup [.agg [.str [],.str []],.int .i64 pl,.int .i64 e]) (by simp[h2,h3,h4]) (qaa _) (by simp) (hQ2 h0 pl e he)
 have hcase:l=[]\/(∃a r,l=a::r/\qag a=true)\/(∃a r,l=a::r/\qag a=false):=by
  cases l with
  |nil=>exact .inl rfl
  |cons a r=>
   cases hb:qag a
   ·exact .inr (.inr ⟨a,r,rfl,hb⟩)
   ·exact .inr (.inl ⟨a,r,rfl,hb⟩)
 rcases hcase with rfl|⟨a,r,rfl,hb⟩|⟨a,r,hl0,hb⟩
 ·simp[Tryz.ntmps167,Tryz.results167,List.replicate_succ];refine qaz E _ _ [] 58 ?_;have e0:Lib.indexByte [] 58= -1:=rfl;rw[e0];simp;exact bad _ 0 62 (by decide) (by decide) rfl rfl rfl
 ·have hc0:qbt (a::r)=none:=by
   by_cases hz:c=0
   ·exact qdQ (by rw[hc];exact hz)
   ·exact qeK (i:=0) (b:=a) (by omega) rfl (qgZ a hb)
  have hib2:0<=Lib.indexByte [32,9] a:=by rw[qfL];exact hb
  have hne:(a::r !=[])=true:=rfl;simp[Tryz.ntmps167,Tryz.results167,List.replicate_succ,hne];refine qaz E _ _ [32,9] a ?_;simp[hib2];exact bad _ 0 63 hc0 (by decide) rfl rfl rfl
 ·have hib2:¬0<=Lib.indexByte [32,9] a:=by rw[qfL,hb];simp
  have hne:(l !=[])=true:=by rw[hl0];rfl
  have hl1:0<l.length:=by rw[hl0];simp
  have hla:lat l 0=some a:=by rw[hl0];rfl
  simp[Tryz.ntmps167,Tryz.results167,List.replicate_succ,hne,hl1,hla];refine qaz E _ _ [32,9] a ?_;simp[hib2];refine qaz E _ _ l 58 ?_;rw[hib];clear hib2 hne hla hl0 hib;by_cases hcc:c<l.length;rotate_left
  ·have hno:=qeb (l:=l) (by omega);simp[hcc];exact bad _ l.length 62 hno (by decide) rfl rfl rfl
  ·by_cases hz:c=0
   ·have hno:=qdQ (l:=l) (by omega);subst hz;simp[hcc];exact bad _ 0 60 hno (by decide) rfl rfl rfl
   ·have hz2:((c:Int)==0)=false:=by simp;omega
    simp[hcc,hz,hz2];subst hc;refine qaB (qqR l H) (fun fr _=>run ncol l-(ai (aget fr 33)).toNat) ⟨rfl,0,by omega,by omega,by simp,friz⟩ ?_;rintro fr H' ⟨rfl,i,hi,hi2,hall,x,rfl⟩;by_cases h:i<run ncol l
    ·obtain⟨b,hbi⟩:∃b,l[i]? =some b:=⟨_,zqD (by omega)⟩
     by_cases h128:128<=i
     ·have hno:=qhi (l:=l) (by omega);have h128':(128:Int)<=i:=by omega
      simp[h,h128'];exact bad _ i 60 hno (by decide) rfl rfl rfl
     ·have h128':¬(128:Int)<=i:=by omega
      have hw:IntKind.i64.wrap ((i:Int)+1)=i+1:=wiz;have t1:((i:Int)+1).toNat=i+1:=by omega
      have t2:(0:Int)<=i+1:=by omega
      have t3:(l.drop i).take 1=[b]:=by rw[qar l i b hbi];rfl
      have t4:i+1<=l.length:=by omega
      have ht:tokB [b]=qao b:=by simp[tokB]
      simp[h,h128',hw,t1,t2,t3,t4];refine qc2 E _ _ hE [b] (by simp[cap]) ?_;rw[ht];cases hs:qao b with
      |false=>
       have hno:=qeK h hbi hs;simp;exact bad _ i 60 hno (by decide) rfl rfl rfl
      |true=>
       simp[hw];refine qaC ?_ ?_;rotate_left
       ·simp;omega
       refine⟨rfl,i+1,by omega,by omega,?_,friz⟩;rw[qbe qao l i b hbi,hall,hs];rfl
    ·obtain rfl:i=run ncol l:=by omega
     have hnm:qbH (l.take (run ncol l))=true:=by
      unfold qbH tokB;rw[hall,decide_eq_true (by rw[zqJ];omega)];have:l.take (run ncol l)≠[]:=by intro e;have h2:=congrArg List.length e;rw[zqJ]at h2;have h3:min (run ncol l) l.length=0:=h2;omega
      cases he:l.take (run ncol l)with
      |nil=>exact absurd he this
      |cons _ _=>rfl
     have hw1:IntKind.i64.wrap (((run ncol l:Nat):Int)+1)=((run ncol l+1:Nat):Int):=by rw[qah (by omega) (by omega)];omega
     clear hall;simp[h,hw1,-Int.natCast_add];refine qaB (qqQ l H) (fun fr _=>l.length-(ai (aget fr 7)).toNat) ⟨rfl,run ncol l+1,by omega,by omega,by rw[Nat.sub_self,List.take_zero];rfl,friz⟩ ?_;clear hw1;rintro fr H' ⟨rfl,i,hi1,hi2,hall,x,rfl⟩;by_cases h:i<l.length
     ·obtain⟨b,hbi⟩:∃b,l[i]? =some b:=⟨_,zqD h⟩
      have hbd:(l.drop (run ncol l+1))[i-(run ncol l+1)]? =some b:=by rw[zqN,show run ncol l+1+(i-(run ncol l+1))=i by omega];exact hbi
      have hw:IntKind.i64.wrap ((i:Int)+1)=i+1:=wiz;have t1:((i:Int)+1).toNat=i+1:=by omega
      have t2:(0:Int)<=i+1:=by omega
      have t3:(l.drop i).take 1=[b]:=by rw[qar l i b hbi];rfl
      have t4:i+1<=l.length:=by omega
      have ht:fldB [b]=fcB b:=by simp[fldB]
      simp[h,hw,t1,t2,t3,t4];refine qhm E _ _ [b] (by simp[cap]) ?_;rw[ht];cases hs:fcB b with
      |false=>
       have hno:=qiU (l:=l) (qei fcB _ _ b hbd hs);simp;exact bad _ i 61 hno (by decide) rfl rfl rfl
      |true=>
       simp[hw];refine qaC ?_ ?_;rotate_left
       ·simp;omega
       refine⟨rfl,i+1,by omega,by omega,?_,friz⟩;rw[show i+1-(run ncol l+1)=(i-(run ncol l+1))+1 by omega];unfold fldB at hall⊢;rw[qbe fcB _ _ b hbd,hall,hs];rfl
     ·obtain rfl:i=l.length:=by omega
      have hfl:fldB (l.drop (run ncol l+1))=true:=by rw[zqE (by rw[zqI];omega)]at hall;exact hall
      clear hall h;obtain⟨c,hc⟩:=exz (run ncol l);rw[hc]at hcl hcc hz hz2 hnm hfl hi1;have hw1:IntKind.i64.wrap ((c:Int)+1)=((c+1:Nat):Int):=by rw[qah (by omega) (by omega)];omega
      have t4:c+1<=l.length:=by omega
      simp[hc,hw1,t4,-Int.natCast_add];refine qhB E _ _ (l.drop (c+1)) (by rw[zqI];simp only[cap];omega) ?_;by_cases hbig:8192<(qaH (l.drop (c+1))).length
      ·have hbig':(8192:Int)<(qaH (l.drop (c+1))).length:=by omega
       have hno:=qiV (l:=l) (by rw[hc];exact hbig);simp[hbig'];refine qjw E _ _ (l.drop (c+1)) (by rw[zqI];simp only[cap];omega) (fun y hy=>?_);simp;exact bad _ _ 61 hno (by decide) rfl rfl rfl
      ·have hbig':¬(8192:Int)<(qaH (l.drop (c+1))).length:=by omega
       have hyes:qbt l=some ⟨l.take c,qaH (l.drop (c+1))⟩:=by
        unfold qbt;rw[hc,if_pos ⟨hcc,hnm,hfl,by omega⟩]
       simp[hbig',hcl];exact qab hB (v0:= .tup [.agg [.str (l.take c),.str (qaH (l.drop (c+1)))],.int .i64 0,.int .i64 0]) (by simp) (qaa _) (by simp) (hQ1 _ hyes)
end
theorem qbd{H:Hp}(hB:BndH H.length H)(c:Nat){l:List AV}(hl:∀x∈l,Bnd H.length x):BndH (H.set c l).length (H.set c l):=by
 intro m hm x hx;rw[List.length_set];rcases List.mem_or_eq_of_mem_set hm with h|h
 ·exact hB m h x hx
 ·rw[h]at hx;exact hl x hx
theorem qe4{P:Program}{rs:List ResultVar}{Q:AV->Hp->Prop}{fr:List AV}{H J:Hp}{v0 v:AV}{c:Nat}{l:List AV}(hB:BndH H.length H)(h1:ares P fr (H.set c l++J) rs=some v0)(h2:nilV v0 v)(hl:∀x∈l,Bnd H.length x)(h5:Bnd H.length v)(h6:Q v (H.set c l)):
  qbO P rs H.length Q .ret fr (H.set c l++J):=qoL h1 h2 (by simp) (qbd hB c hl) (by simpa using h5) h6
theorem qaM{P:Program}{rs:List ResultVar}{Q:AV->Hp->Prop}{fr:List AV}{H:Hp}{v0 v:AV}{c:Nat}{l:List AV}(hB:BndH H.length H)(h1:ares P fr (H.set c l) rs=some v0)(h2:nilV v0 v)(hl:∀x∈l,Bnd H.length x)(h5:Bnd H.length v)(h6:Q v (H.set c l)):
  qbO P rs H.length Q .ret fr (H.set c l):=by
 have:=qe4 (J:=[]) (P:=P) (rs:=rs) (Q:=Q) (fr:=fr) hB (by rw[List.append_nil];exact h1) h2 hl h5 h6;rwa[List.append_nil]at this
section
variable {H:Hp}{c:Nat}(h:c<H.length)
include h
theorem hs0(J:Hp):(H++J)[c]? =H[c]? :=zqA h
theorem hs1(x:List AV)(J:Hp):(H.set c x++J)[c]? =some x:=by rw[zqA (by simpa using h),zqO h]
theorem hs2(x y:List AV)(J:Hp):(H.set c x++J).set c y=H.set c y++J:=by rw[List.set_append_left _ _ (by simpa using h),List.set_set]
theorem hs3(y:List AV)(J:Hp):(H++J).set c y=H.set c y++J:=List.set_append_left _ _ h
theorem hs4(x:List AV):(H.set c x)[c]? =some x:=zqO h
theorem hs5(x y:List AV):(H.set c x).set c y=H.set c y:=List.set_set ..
end
theorem qej{P:Program}{rs:List ResultVar}{Q:AV->Hp->Prop}{fr:List AV}{H J:Hp}{v:AV}{c:Nat}{l l':List AV}(hB:BndH H.length H)(hc:c<H.length)(hn:nilL l l')(h1:ares P fr (H.set c l++J) rs=some v)(hl:∀x∈l',Bnd H.length x)(h5:Bnd H.length v)(h6:Q v (H.set c l')):
  qbO P rs H.length Q .ret fr (H.set c l++J):=by
 refine⟨v,v,H.set c l'++J,H.set c l',J,h1,qaa _,?_,rfl,by simp,qbd hB c hl,by simpa using h5,h6⟩;have:=qcH (H.set c l++J) c l l' (hs1 hc _ _) hn;rw[hs2 hc]at this;exact this
theorem qaL{P:Program}{rs:List ResultVar}{Q:AV->Hp->Prop}{fr:List AV}{H:Hp}{v:AV}{c:Nat}{l l':List AV}(hB:BndH H.length H)(hc:c<H.length)(hn:nilL l l')(h1:ares P fr (H.set c l) rs=some v)(hl:∀x∈l',Bnd H.length x)(h5:Bnd H.length v)(h6:Q v (H.set c l')):
  qbO P rs H.length Q .ret fr (H.set c l):=by
 have:=qej (J:=[]) (P:=P) (rs:=rs) (Q:=Q) (fr:=fr) hB hc hn (by rw[List.append_nil];exact h1) hl h5 h6;rwa[List.append_nil]at this
def flds(l:List Fld):List (List AV):=l.map fun f=>[.str f.name,.str f.value]
@[simp] theorem qdo (l:List Fld):(flds l).length=l.length:=by simp[flds]
theorem qgl(l:List Fld)(f:Fld):flds l++[[.str f.name,.str f.value]]=flds (l++[f]):=by simp[flds]
theorem qka{l:List Fld}{i:Nat}{f:Fld}(h:l[i]? =some f):lat (flds l) i=some [.str f.name,.str f.value]:=by simp[lat,flds,h]
theorem qcm{N:Nat}(o k)(l:List Fld):Bnd N (.sl o k (flds l)):= .sl _ _ _ fun r hr x hx=>by
 obtain⟨c,_,rfl⟩:=List.mem_map.1 hr;simp at hx;rcases hx with rfl|rfl<;>exact .str _
@[simp] theorem bnd_flds' {N:Nat} (l:List Fld):(∀r∈flds l,∀x∈r,Bnd N x)=True:=eq_true fun r hr x hx=>by
 obtain⟨c,_,rfl⟩:=List.mem_map.1 hr;simp at hx;rcases hx with rfl|rfl<;>exact .str _
@[simp] theorem bnd_bts' {N:Nat} (l:List UInt8):(∀r∈bts l,∀x∈r,Bnd N x)=True:=eq_true (qkl l)
theorem qew{H:Hp}{i:Nat}{l:List AV}(h:H[i]? =some l):H.set i l=H:=by
 apply List.ext_getElem?;intro j;by_cases hj:i=j
 ·subst hj;rw[zqO (zqC.1 h).1,h]
 ·rw[zqF hj]
theorem qcP(b:UInt8)(n:Nat)(hn:n<256)(h:b≠UInt8.ofNat n):((b.toNat:Int)==n)=false:=by
 rw[beq_eq_false_iff_ne];exact fun e=>h (UInt8.toNat_inj.1 (by rw[UInt8.toNat_ofNat',Nat.mod_eq_of_lt hn];omega))
inductive Stg where
 |size|data|first|second|trailer
deriving DecidableEq
def Stg.fid:Stg->FuncId
 | .size=>217
 | .data=>231
 | .first=>239
 | .second=>246
 | .trailer=>230
structure Dec where
 most:Int
 room:Int
 fields:Int
 st:Stg
 line:List UInt8
 left:Int
 body:List UInt8
 trailers:List Fld
 section_:Nat
 total:Nat
 done:Bool
 err:Int
deriving DecidableEq
def Dec.av(d:Dec):List AV:=[.int .i64 d.most,.int .i64 d.room,.int .i64 d.fields,.fn d.st.fid [],.sl true 1 (bts d.line),.int .i64 d.left,.sl true 1 (bts d.body),.sl true 2 (flds d.trailers),.int .i64 d.section_,.int .i64 d.total,.bool d.done,.int .i64 d.err]
theorem Dec.bnd(d:Dec)(N:Nat):∀x∈d.av,Bnd N x:=by
 intro x hx;simp[Dec.av]at hx;rcases hx with rfl|rfl|rfl|rfl|rfl|rfl|rfl|rfl|rfl|rfl|rfl|rfl<;>simp
def endL(l:List UInt8):Option (List UInt8):=if 2<=l.length/\l.drop (l.length-2)=[13,10]then some (l.take (l.length-2))else none
def qgL(d:Dec)(b:UInt8):Dec×Int:=
 if b≠10 then({d with line:=d.line++[b]},if 256<=(d.line++[b]).length then 100 else 0)
 else match endL (d.line++[b])with
  |none=>({d with line:=[]},100)
  |some s=>if(qak s).2.2≠0 then({d with line:=[]},(qak s).2.2)
   else if d.most-d.body.length<(qak s).1 then({d with line:=[]},102)
   else if(qak s).1=0 then({d with line:=[],st:= .trailer},0)
   else({d with line:=[],left:=(qak s).1,st:= .data},0)
def qgs(d:Dec)(b:UInt8):Dec×Int:=(if d.left=1 then{d with body:=d.body++[b],left:=0,st:= .first}else{d with body:=d.body++[b],left:=d.left-1},0)
def qeR(d:Dec)(b:UInt8):Dec×Int:=if b≠13 then(d,100)else({d with st:= .second},0)
def qdc(d:Dec)(b:UInt8):Dec×Int:=if b≠10 then(d,100)else({d with st:= .size},0)
def qbC(d:Dec)(b:UInt8):Dec×Int:=
 if d.room<=d.section_ then(d,104)
 else if b≠10 then({d with section_:=d.section_+1,line:=d.line++[b]},0)
 else match endL (d.line++[b])with
  |none=>({d with section_:=d.section_+1,line:=[]},101)
  |some s=>if s=[]then({d with section_:=d.section_+1,line:=[],done:=true},0)
   else if d.fields<=d.trailers.length then({d with section_:=d.section_+1,line:=[]},104)
   else match qbt s with
    |none=>({d with section_:=d.section_+1,line:=[]},101)
    |some f=>if mayB f.name=true then({d with section_:=d.section_+1,line:=[],trailers:=d.trailers++[f]},0)else({d with section_:=d.section_+1,line:=[]},101)
section
variable (E:Env)(H:Hp)(Q:AV->Hp->Prop)(i:Nat)(d:Dec)(hd:H[i]? =some d.av)
include hd
theorem qfz:i<H.length:=(zqC.1 hd).1
theorem qk8(hl:d.line.length<=1073741824)(hQ:Q (match endL d.line with|some s=> .tup [.str s,.bool true]|none=> .tup [.str [],.bool false]) (H.set i ({d with line:=[]}:Dec).av)):
  PC Tryz.prog E 228 [.ptr (some (i,0))] H Q:=by
 have hlt:=qfz H i d hd;refine qac Tryz.func228 rfl [] [] (by kernel_rfl) (fun hB=>?_);have hw:IntKind.i64.wrap ((d.line.length:Int)-2)=d.line.length-2:=wiz;have hm:d.line.length<=maxLen:=by unfold maxLen;omega
 simp[Dec.av]at hd;simp[Tryz.ntmps228,Tryz.results228,List.replicate_succ,hd,hs0 hlt,hs1 hlt,hs2 hlt,hs3 hlt,hs4 hlt,hs5 hlt,hm,hw]
 have hn:nilL [AV.int .i64 d.most,.int .i64 d.room,.int .i64 d.fields,.fn d.st.fid [],.nil,.int .i64 d.left,.sl true 1 (bts d.body),.sl true 2 (flds d.trailers),.int .i64 d.section_,.int .i64 d.total,.bool d.done,.int .i64 d.err] ({d with line:=[]}:Dec).av:=
  ⟨.inl rfl,.inl rfl,.inl rfl,.inl rfl,.inr ⟨rfl,true,1,rfl⟩,.inl rfl,.inl rfl,.inl rfl,.inl rfl,.inl rfl,.inl rfl,.inl rfl,trivial⟩
 by_cases h2:2<=d.line.length
 ·have h2':(2:Int)<=d.line.length:=by omega
  have t1:(0:Int)<=d.line.length-2:=by omega
  have t2:((d.line.length:Int)-2).toNat=d.line.length-2:=by omega
  have t3:d.line.length-2<=d.line.length:=by omega
  by_cases he:d.line.drop (d.line.length-2)=[13,10]
  ·have hE:endL d.line=some (d.line.take (d.line.length-2)):=if_pos ⟨h2,he⟩;rw[hE]at hQ;have he1:(d.line.drop (d.line.length-2)==[13,10])=true:=beq_iff_eq.2 he;simp[h2',t1,t2,t3,he1,h2];exact qaL hB hlt hn (by simp) (({d with line:=[]}:Dec).bnd _) (by simp) hQ
  ·have hE:endL d.line=none:=if_neg (fun h=>he h.2);have he2:(d.line.drop (d.line.length-2)==[13,10])=false:=beq_eq_false_iff_ne.2 he;rw[hE]at hQ;simp[h2',t1,t2,t3,he2,h2];exact qaL hB hlt hn (by simp) (({d with line:=[]}:Dec).bnd _) (by simp) hQ
 ·have h2':¬(2:Int)<=d.line.length:=by omega
  have hE:endL d.line=none:=if_neg (fun h=>h2 h.1);rw[hE]at hQ;simp[h2'];exact qaL hB hlt hn (by simp) (({d with line:=[]}:Dec).bnd _) (by simp) hQ
variable (b:UInt8)
theorem qp1(hQ:Q (.int .i64 (qeR d b).2) (H.set i (qeR d b).1.av)):PC Tryz.prog E 239 [.ptr (some (i,0)),.int .u8 (b.toNat:Int)] H Q:=by
 have hlt:=qfz H i d hd;have hself:H.set i d.av=H:=qew hd;refine qac Tryz.func239 rfl [] [] (by kernel_rfl) (fun hB=>?_);by_cases hb:b=13
 ·subst hb;have e:qeR d 13=({d with st:= .second},0):=rfl;rw[e]at hQ;simp[Dec.av]at hd;simp[Tryz.ntmps239,Tryz.results239,List.replicate_succ,hd,hs0 hlt,hs1 hlt,hs2 hlt,hs3 hlt,hs4 hlt,hs5 hlt];exact qaM hB rfl (qaa _) (({d with st:= .second}:Dec).bnd _) (by simp) hQ
 ·have e:qeR d b=(d,100):=if_pos hb;have hb2:((b.toNat:Int)==13)=false:=qcP b 13 (by decide) hb;rw[e]at hQ;simp only[hself]at hQ;simp[Tryz.ntmps239,Tryz.results239,List.replicate_succ,bne,hb2];exact aQz hB (h6:=hQ)
theorem qm1(hQ:Q (.int .i64 (qdc d b).2) (H.set i (qdc d b).1.av)):PC Tryz.prog E 246 [.ptr (some (i,0)),.int .u8 (b.toNat:Int)] H Q:=by
 have hlt:=qfz H i d hd;have hself:H.set i d.av=H:=qew hd;refine qac Tryz.func246 rfl [] [] (by kernel_rfl) (fun hB=>?_);by_cases hb:b=10
 ·subst hb;have e:qdc d 10=({d with st:= .size},0):=rfl;rw[e]at hQ;simp[Dec.av]at hd;simp[Tryz.ntmps246,Tryz.results246,List.replicate_succ,hd,hs0 hlt,hs1 hlt,hs2 hlt,hs3 hlt,hs4 hlt,hs5 hlt];exact qaM hB rfl (qaa _) (({d with st:= .size}:Dec).bnd _) (by simp) hQ
 ·have e:qdc d b=(d,100):=if_pos hb;have hb2:((b.toNat:Int)==10)=false:=qcP b 10 (by decide) hb;rw[e]at hQ;simp only[hself]at hQ;simp[Tryz.ntmps246,Tryz.results246,List.replicate_succ,bne,hb2];exact aQz hB (h6:=hQ)
theorem qst(hl:d.body.length<=1073741824)(hlf:1<=d.left/\d.left<=1099511627776)(hQ:Q (.int .i64 (qgs d b).2) (H.set i (qgs d b).1.av)):PC Tryz.prog E 231 [.ptr (some (i,0)),.int .u8 (b.toNat:Int)] H Q:=by
 have hlt:=qfz H i d hd;refine qac Tryz.func231 rfl [9] [] (by kernel_rfl) (fun hB=>?_);have hw:IntKind.i64.wrap (d.left-1)=d.left-1:=wiz;have m1:d.body.length+1<=maxLen:=by unfold maxLen;omega
 have m2:d.body.length+1<=140737488355328:=by omega
 simp[Dec.av]at hd;by_cases h1:d.left=1
 ·have e:qgs d b=({d with body:=d.body++[b],left:=0,st:= .first},0):=by unfold qgs;rw[if_pos h1]
  rw[e]at hQ;have hw1:IntKind.i64.wrap 0=0:=rfl;simp[Tryz.ntmps231,Tryz.results231,List.replicate_succ,hd,hs0 hlt,hs1 hlt,hs2 hlt,hs3 hlt,hs4 hlt,hs5 hlt,m1,m2,h1,hw1,qck];exact qaM hB rfl (qaa _) (({d with body:=d.body++[b],left:=0,st:= .first}:Dec).bnd _) (by simp) hQ
 ·have e:qgs d b=({d with body:=d.body++[b],left:=d.left-1},0):=by unfold qgs;rw[if_neg h1]
  rw[e]at hQ;have h0:(d.left-1==0)=false:=by rw[beq_eq_false_iff_ne];omega
  simp[Tryz.ntmps231,Tryz.results231,List.replicate_succ,hd,hs0 hlt,hs1 hlt,hs2 hlt,hs3 hlt,hs4 hlt,hs5 hlt,m1,m2,hw,h0,qck];exact qaM hB rfl (qaa _) (({d with body:=d.body++[b],left:=d.left-1}:Dec).bnd _) (by simp) hQ
end
theorem qd6(l:List UInt8)(h:(qak l).2.2=0):0<=(qak l).1/\(qak l).1<=1099511627776:=by
 unfold qak at h⊢;split at h
 ·simp at h
 ·rename_i h1;rw[if_neg h1];split at h
  ·simp at h
  ·rename_i h2;rw[if_neg h2];split at h
   ·simp at h
   ·rename_i h3;rw[if_neg h3];simp only[ne_eq,Decidable.not_not]at h3;simp only;unfold qae at h3⊢;split at h3
    ·simp at h3
    ·rename_i g1;rw[if_neg g1];split at h3
     ·simp at h3
     ·rename_i g2;rw[if_neg g2];split at h3
      ·simp at h3
      ·rename_i g3;rw[if_neg g3];have:=qbj 16 (by omega) _ (by simpa using g2);simp only;omega
section
variable (E:Env)(H:Hp)(Q:AV->Hp->Prop)(i:Nat)(d:Dec)(hd:H[i]? =some d.av)(b:UInt8)
include hd
theorem qrD(hE:SE E)(hl:d.line.length<=1000000000)(hbl:d.body.length<=1073741824)(hm:0<=d.most/\d.most<=9223372036854775807)(hQ:Q (.int .i64 (qgL d b).2) (H.set i (qgL d b).1.av)):PC Tryz.prog E 217 [.ptr (some (i,0)),.int .u8 (b.toNat:Int)] H Q:=by
 have hlt:=qfz H i d hd;refine qac Tryz.func217 rfl [14] [] (by kernel_rfl) (fun hB=>?_);have m1:d.line.length+1<=maxLen:=by unfold maxLen;omega
 have m2:d.line.length+1<=140737488355328:=by omega
 simp[Dec.av]at hd;by_cases hb:b=10
 ·subst hb
  have e0:qgL d 10=(match endL (d.line++[10])with
   |none=>({d with line:=[]},100)
   |some s=>if(qak s).2.2≠0 then({d with line:=[]},(qak s).2.2)
    else if d.most-d.body.length<(qak s).1 then({d with line:=[]},102)
    else if(qak s).1=0 then({d with line:=[],st:= .trailer},0)
    else({d with line:=[],left:=(qak s).1,st:= .data},0)):=rfl
  rw[e0]at hQ;clear e0;have hb10:[AV.int .u8 10]=[AV.int .u8 ((10:UInt8).toNat:Int)]:=rfl;have hsn:bts d.line++[[AV.int .u8 10]]=bts (d.line++[10]):=qck d.line 10;simp[Tryz.ntmps217,Tryz.results217,List.replicate_succ,hd,hs0 hlt,hs1 hlt,hs2 hlt,hs3 hlt,hs4 hlt,hs5 hlt,m1,m2,hsn];refine qk8 E _ _ i {d with line:=d.line++[10]} (by rw[zqO hlt];rfl) (by simp;omega) ?_;cases hend:endL (d.line++[10])with
  |none=>
   rw[hend]at hQ;simp;exact qaM hB rfl (qaa _) (({d with line:=[]}:Dec).bnd _) (by simp) hQ
  |some s=>
   rw[hend]at hQ;simp only at hQ
   have hsl:s.length<=cap:=by
    unfold endL at hend;split at hend
    ·cases hend;rw[zqJ,zqK];simp only[cap];simp;omega
    ·cases hend
   simp;refine qiG E _ _ hE s hsl ?_;by_cases he:(qak s).2.2=0
   ·rw[if_neg (by simpa using he)]at hQ;have hrg:=qd6 s he;have hw:IntKind.i64.wrap (d.most-d.body.length)=d.most-d.body.length:=wiz;by_cases hmu:d.most-d.body.length<(qak s).1
    ·rw[if_pos hmu]at hQ;simp[he,Dec.av,hs0 hlt,hs1 hlt,hs2 hlt,hs3 hlt,hs4 hlt,hs5 hlt,hw,hmu];exact qaM hB rfl (qaa _) (({d with line:=[]}:Dec).bnd _) (by simp) hQ
    ·rw[if_neg hmu]at hQ;by_cases hz:(qak s).1=0
     ·rw[if_pos hz]at hQ;rw[hz]at hmu;simp[he,Dec.av,hs0 hlt,hs1 hlt,hs2 hlt,hs3 hlt,hs4 hlt,hs5 hlt,hw,hmu,hz];exact qaM hB rfl (qaa _) (({d with line:=[],st:= .trailer}:Dec).bnd _) (by simp) hQ
     ·rw[if_neg hz]at hQ;have hz2:((qak s).1==0)=false:=beq_eq_false_iff_ne.2 hz;simp[he,Dec.av,hs0 hlt,hs1 hlt,hs2 hlt,hs3 hlt,hs4 hlt,hs5 hlt,hw,hmu,hz2];exact qaM hB rfl (qaa _) (({d with line:=[],left:=(qak s).1,st:= .data}:Dec).bnd _) (by simp) hQ
   ·rw[if_pos (by simpa using he)]at hQ;have he2:((qak s).2.2 !=0)=true:=by simpa using he
    simp[he2];exact qaM hB rfl (qaa _) (({d with line:=[]}:Dec).bnd _) (by simp) hQ
 ·have e0:qgL d b=({d with line:=d.line++[b]},if 256<=(d.line++[b]).length then 100 else 0):=if_pos hb;rw[e0]at hQ;have hb2:((b.toNat:Int)==10)=false:=qcP b 10 (by decide) hb;by_cases h256:256<=(d.line++[b]).length
  ·rw[if_pos h256]at hQ;have h256':(256:Int)<=d.line.length+1:=by simp at h256;omega
   simp[Tryz.ntmps217,Tryz.results217,List.replicate_succ,hd,hs0 hlt,hs1 hlt,hs2 hlt,hs3 hlt,hs4 hlt,hs5 hlt,m1,m2,qck,bne,hb2,h256'];exact qaM hB rfl (qaa _) (({d with line:=d.line++[b]}:Dec).bnd _) (by simp) hQ
  ·rw[if_neg h256]at hQ;have h256':¬(256:Int)<=d.line.length+1:=by simp at h256;omega
   simp[Tryz.ntmps217,Tryz.results217,List.replicate_succ,hd,hs0 hlt,hs1 hlt,hs2 hlt,hs3 hlt,hs4 hlt,hs5 hlt,m1,m2,qck,bne,hb2,h256'];exact qaM hB rfl (qaa _) (({d with line:=d.line++[b]}:Dec).bnd _) (by simp) hQ
theorem qlx(hE:SE E)(hl:d.line.length<=1000000000)(htl:d.trailers.length<=1073741824)(hsl:d.section_<=1073741824)(hQ:Q (.int .i64 (qbC d b).2) (H.set i (qbC d b).1.av)):PC Tryz.prog E 230 [.ptr (some (i,0)),.int .u8 (b.toNat:Int)] H Q:=by
 have hlt:=qfz H i d hd;have hself:H.set i d.av=H:=qew hd;refine qac Tryz.func230 rfl [30,78] [] (by kernel_rfl) (fun hB=>?_);have m1:d.line.length+1<=maxLen:=by unfold maxLen;omega
 have m2:d.line.length+1<=140737488355328:=by omega
 have m3:d.trailers.length+1<=maxLen:=by unfold maxLen;omega
 have m4:(d.trailers.length+1)*32<=140737488355328:=by omega
 have hw:IntKind.i64.wrap ((d.section_:Int)+1)=((d.section_+1:Nat):Int):=by rw[qah (by omega) (by omega)];omega
 simp[Dec.av]at hd;by_cases hr:d.room<=d.section_
 ·have e0:qbC d b=(d,104):=if_pos hr;rw[e0]at hQ;simp only[hself]at hQ;simp[Tryz.ntmps230,Tryz.results230,List.replicate_succ,hd,hs0 hlt,hs1 hlt,hs2 hlt,hs3 hlt,hs4 hlt,hs5 hlt,hr];exact aQz hB (h6:=hQ)
 ·by_cases hb:b=10
  ·subst hb
   have e0:qbC d 10=(match endL (d.line++[10])with
    |none=>({d with section_:=d.section_+1,line:=[]},101)
    |some s=>if s=[]then({d with section_:=d.section_+1,line:=[],done:=true},0)
     else if d.fields<=d.trailers.length then({d with section_:=d.section_+1,line:=[]},104)
     else match qbt s with
      |none=>({d with section_:=d.section_+1,line:=[]},101)
      |some f=>if mayB f.name=true then({d with section_:=d.section_+1,line:=[],trailers:=d.trailers++[f]},0)else({d with section_:=d.section_+1,line:=[]},101)):=by
    unfold qbC;rw[if_neg hr];rfl
   rw[e0]at hQ;clear e0;have hsn:bts d.line++[[AV.int .u8 10]]=bts (d.line++[10]):=qck d.line 10;simp[Tryz.ntmps230,Tryz.results230,List.replicate_succ,hd,hs0 hlt,hs1 hlt,hs2 hlt,hs3 hlt,hs4 hlt,hs5 hlt,hr,m1,m2,hsn,hw,-Int.natCast_add];refine qk8 E _ _ i {d with line:=d.line++[10],section_:=d.section_+1} (by rw[zqO hlt];rfl) (by simp;omega) ?_;cases hend:endL (d.line++[10])with
   |none=>
    rw[hend]at hQ;simp;exact qaM hB rfl (qaa _) (({d with section_:=d.section_+1,line:=[]}:Dec).bnd _) (by simp) hQ
   |some s=>
    rw[hend]at hQ;simp only at hQ
    have hsl:s.length<=cap:=by
     unfold endL at hend;split at hend
     ·cases hend;rw[zqJ,zqK];simp only[cap];simp;omega
     ·cases hend
    by_cases hse:s=[]
    ·rw[if_pos hse]at hQ;subst hse;simp[Dec.av,hs0 hlt,hs1 hlt,hs2 hlt,hs3 hlt,hs4 hlt,hs5 hlt];exact qaM hB rfl (qaa _) (({d with section_:=d.section_+1,line:=[],done:=true}:Dec).bnd _) (by simp) hQ
    ·rw[if_neg hse]at hQ;have hs02:(s==[])=false:=beq_eq_false_iff_ne.2 hse;by_cases hf:d.fields<=d.trailers.length
     ·rw[if_pos hf]at hQ;simp[Dec.av,hs0 hlt,hs1 hlt,hs2 hlt,hs3 hlt,hs4 hlt,hs5 hlt,hs02,hf];exact qaM hB rfl (qaa _) (({d with section_:=d.section_+1,line:=[]}:Dec).bnd _) (by simp) hQ
     ·rw[if_neg hf]at hQ;simp[Dec.av,hs0 hlt,hs1 hlt,hs2 hlt,hs3 hlt,hs4 hlt,hs5 hlt,hs02,hf];refine qiH E _ _ hE s hsl (fun f hlf=>?_) (fun hlf pl e he=>?_)
      ·rw[hlf]at hQ;simp only at hQ
       have hfn:f.name.length<=cap:=by
        unfold qbt at hlf;split at hlf
        ·cases hlf;simp only[zqJ];omega
        ·cases hlf
       simp;refine qj1 E _ _ hE f.name hfn ?_;cases hmt:mayB f.name with
       |true=>
        rw[if_pos hmt]at hQ;simp[hs0 hlt,hs1 hlt,hs2 hlt,hs3 hlt,hs4 hlt,hs5 hlt,m3,m4,qgl];exact qe4 hB rfl (qaa _) (({d with section_:=d.section_+1,line:=[],trailers:=d.trailers++[f]}:Dec).bnd _) (by simp) hQ
       |false=>
        rw[if_neg (by rw[hmt];simp)]at hQ;simp;exact qe4 hB rfl (qaa _) (({d with section_:=d.section_+1,line:=[]}:Dec).bnd _) (by simp) hQ
      ·rw[hlf]at hQ;have he2:(e !=0)=true:=by simpa using he
       simp[he2];exact qe4 hB rfl (qaa _) (({d with section_:=d.section_+1,line:=[]}:Dec).bnd _) (by simp) hQ
  ·have e0:qbC d b=({d with section_:=d.section_+1,line:=d.line++[b]},0):=by unfold qbC;rw[if_neg hr,if_pos hb]
   rw[e0]at hQ;have hb2:((b.toNat:Int)==10)=false:=qcP b 10 (by decide) hb;simp[Tryz.ntmps230,Tryz.results230,List.replicate_succ,hd,hs0 hlt,hs1 hlt,hs2 hlt,hs3 hlt,hs4 hlt,hs5 hlt,hr,m1,m2,qck,bne,hb2,hw,-Int.natCast_add];exact qaM hB rfl (qaa _) (({d with section_:=d.section_+1,line:=d.line++[b]}:Dec).bnd _) (by simp) hQ
end
def lnb(l:List UInt8):Bool:=match l with
 |[]=>false
 |a::_=>qag a
def qaP(l:List UInt8):Fld×Int×Int:=
 if lnb l=true then((⟨[],[]⟩:Fld),0,63)else if l.length<=run ncol l then((⟨[],[]⟩:Fld),l.length,62)else if run ncol l=0 then((⟨[],[]⟩:Fld),0,60)
 else if min (run qao l) 128<run ncol l then((⟨[],[]⟩:Fld),(min (run qao l) 128:Nat),60)
 else if run fcB (l.drop (run ncol l+1))<(l.drop (run ncol l+1)).length then((⟨[],[]⟩:Fld),(run ncol l+1+run fcB (l.drop (run ncol l+1)):Nat),61)
 else if 8192<(qaH (l.drop (run ncol l+1))).length then((⟨[],[]⟩:Fld),(run ncol l+1+run qag (l.drop (run ncol l+1))+8192:Nat),61)
 else(⟨l.take (run ncol l),qaH (l.drop (run ncol l+1))⟩,0,0)
theorem rb_le(l:List UInt8):run qag l<=l.length:=qbf qag l
theorem qpP(l:List UInt8):((l.length:Int)-(Lib.trimLeftS l [32,9]).length)=run qag l:=by
 have e:Lib.trimLeftS l [32,9]=l.dropWhile qag:=by unfold Lib.trimLeftS;rw[qkE]
 rw[e];have h:=congrArg List.length (List.takeWhile_append_dropWhile (p:=qag) (l:=l));rw[zqK]at h;unfold run;omega
theorem qkJ(p:UInt8->Bool):∀(n:Nat) (l:List UInt8),(l.take n).all p=true->n<=l.length->n<=run p l
 |0,_,_,_=>Nat.zero_le _
 |n+1,[],_,h=>by simp at h
 |n+1,a::l,h,hn=>by
  simp only[List.take_succ_cons,List.all_cons,Bool.and_eq_true]at h;have:=qkJ p n l h.2 (by simpa using hn);unfold run at this⊢;rw[List.takeWhile_cons,if_pos h.1];simpa using this
theorem qiu{p:UInt8->Bool}{l:List UInt8}(h:l.all p=true):run p l=l.length:=by
 have:=qkJ p l.length l (by rw[List.take_length];exact h) (Nat.le_refl _);have:=qbf p l;omega
section
variable {l:List UInt8}(hf:lnb l=false)
theorem qiR:qaP []=((⟨[],[]⟩:Fld),0,62):=rfl
theorem qhh(a:UInt8)(r:List UInt8)(h:qag a=true):qaP (a::r)=((⟨[],[]⟩:Fld),0,63):=by unfold qaP;rw[if_pos (show lnb (a::r)=true from h)]
include hf
theorem qgh(h:l.length<=run ncol l):qaP l=((⟨[],[]⟩:Fld),(l.length:Int),62):=by unfold qaP;rw[if_neg (by rw[hf];simp),if_pos h]
theorem qhe(h1:run ncol l<l.length)(h:run ncol l=0):qaP l=((⟨[],[]⟩:Fld),0,60):=by unfold qaP;rw[if_neg (by rw[hf];simp),if_neg (by omega),if_pos h]
theorem qhf(h1:run ncol l<l.length)(h2:run ncol l≠0)(h:min (run qao l) 128<run ncol l):qaP l=((⟨[],[]⟩:Fld),((min (run qao l) 128:Nat):Int),60):=by unfold qaP;rw[if_neg (by rw[hf];simp),if_neg (by omega),if_neg h2,if_pos h]
theorem qhg(h1:run ncol l<l.length)(h2:run ncol l≠0){i:Nat}(hall:(l.take i).all qao=true)(hi:128<=i)(hi2:i<=128)(h:i<run ncol l):qaP l=((⟨[],[]⟩:Fld),(i:Int),60):=by
 have:=qkJ qao i l hall (by omega);have e:min (run qao l) 128=i:=by omega
 rw[qhf hf h1 h2 (by omega),e]
theorem qiT(h1:run ncol l<l.length)(h2:run ncol l≠0){i:Nat}{b:UInt8}(hall:(l.take i).all qao=true)(hi:i<=128)(h:i<run ncol l)(hb:l[i]? =some b)(hs:qao b=false):qaP l=((⟨[],[]⟩:Fld),(i:Int),60):=by
 have:=qbl qao l i hall (by omega) (fun c hc=>by rw[hb]at hc;cases hc;exact hs);have e:min (run qao l) 128=i:=by omega
 rw[qhf hf h1 h2 (by omega),e]
omit hf in
theorem qhP(h1:run ncol l<l.length)(hn:qbH (l.take (run ncol l))=true):¬min (run qao l) 128<run ncol l:=by
 unfold qbH tokB at hn;simp only[Bool.and_eq_true,decide_eq_true_eq]at hn;rw[zqJ]at hn;have:=qkJ qao (run ncol l) l hn.2.1 (by omega);omega
omit hf in
theorem qj0(hn:qbH (l.take (run ncol l))=true):run ncol l≠0:=fun e=>by rw[e,List.take_zero]at hn;rw[qiL]at hn;cases hn
theorem qiP(h1:run ncol l<l.length)(hn:qbH (l.take (run ncol l))=true){i:Nat}{b:UInt8}(hi:run ncol l+1<=i)(hall:fldB ((l.drop (run ncol l+1)).take (i-(run ncol l+1)))=true)(hb:(l.drop (run ncol l+1))[i-(run ncol l+1)]? =some b)(hs:fcB b=false):
  qaP l=((⟨[],[]⟩:Fld),((run ncol l+1+(i-(run ncol l+1)):Nat):Int),61):=by
 have hlt:=(zqC.1 hb).1;have:=qbl fcB (l.drop (run ncol l+1)) _ hall (by omega) (fun c hc=>by rw[hb]at hc;cases hc;exact hs);unfold qaP;rw[if_neg (by rw[hf];simp),if_neg (by omega),if_neg (qj0 hn),if_neg (qhP h1 hn),this,if_pos hlt]
theorem qiS(h1:run ncol l<l.length)(hn:qbH (l.take (run ncol l))=true)(hv:fldB (l.drop (run ncol l+1))=true)(h:8192<(qaH (l.drop (run ncol l+1))).length):
  qaP l=((⟨[],[]⟩:Fld),((run ncol l+1+run qag (l.drop (run ncol l+1))+8192:Nat):Int),61):=by
 have:=qiu hv;unfold qaP;rw[if_neg (by rw[hf];simp),if_neg (by omega),if_neg (qj0 hn),if_neg (qhP h1 hn),if_neg (by omega),if_pos h]
theorem qiO(h1:run ncol l<l.length)(hn:qbH (l.take (run ncol l))=true)(hv:fldB (l.drop (run ncol l+1))=true)(h:¬8192<(qaH (l.drop (run ncol l+1))).length):
  qaP l=(⟨l.take (run ncol l),qaH (l.drop (run ncol l+1))⟩,0,0):=by
 have:=qiu hv;unfold qaP;rw[if_neg (by rw[hf];simp),if_neg (by omega),if_neg (qj0 hn),if_neg (qhP h1 hn),if_neg (by omega),if_neg h]
end
section
variable (E:Env)(H:Hp)(Q:AV->Hp->Prop)
theorem qij(l:List UInt8)(hl:l.length<=cap)(hQ:Q (.str (Lib.trimLeftS l [32,9])) H):PC Tryz.prog E 200 [.str l,.str [32,9]] H Q:=by
 have hle:(Lib.trimLeftS l [32,9]).length<=l.length:=by
  unfold Lib.trimLeftS;exact(List.dropWhile_sublist _).length_le
 refine qaq (v:= .str (Lib.trimLeftS l [32,9])) (by kernel_rfl) (fun _=>True) (fun w hw=>trivial) (fun w β Rd cargs hS hsz hargs=>?_) (.str _) rfl hQ;obtain⟨u,v,rfl,hu,hv⟩:=args2 hsz hargs;obtain⟨s,rfl,rfl,hs⟩:=qax hu;obtain⟨t,rfl,ht,_⟩:=qax hv;have h116:(Tryz.prog.info? (lren.t 116)).map (fun i=>(i.zero,i.size))=some (some (.agg (Array.replicate 256 (.bool false))),256):=by kernel_rfl
 have htl:t.size=2:=by rw[<-qad,ht];rfl
 refine(Any.strings_TrimLeft_ascii lays161 (zero_of_info h116).1 (zero_of_info h116).2 s t w (by rw[htl];omega) (fun j b hb=>by
  rw[ht]at hb
  match j with
  |0=>simp at hb;subst hb;decide
  |1=>simp at hb;subst hb;decide
  |j+2=>simp at hb)).mono ?_
 rintro e w' ⟨rfl,hb⟩;rw[ht];exact⟨_,rfl,qbU hb,qdy _ (qfl (Nat.le_trans hle hl))⟩
theorem qhL(hE:SE E)(l:List UInt8)(hl:l.length<=cap)(hQ:Q (.tup [.agg [.str (qaP l).1.name,.str (qaP l).1.value],.int .i64 (qaP l).2.1,.int .i64 (qaP l).2.2]) H):
  PC Tryz.prog E 167 [.str l] H Q:=by
 refine qac Tryz.func167 rfl [] [] (by kernel_rfl) (fun hB=>?_);have hl':=hl;simp only[cap]at hl';obtain⟨c,hc⟩:=exz (run ncol l);have hcl:=qbf ncol l;rw[hc]at hcl;have hib:=qch l;rw[hc]at hib
 have bad:∀(fr:List AV) (pl e:Int),qaP l=((⟨[],[]⟩:Fld),pl,e)->aget fr 2= .ptr (some (H.length,0))->aget fr 3= .int .i64 pl->aget fr 4= .int .i64 e->qbO Tryz.prog [ResultVar.cell 2 65,ResultVar.tmp 3,ResultVar.tmp 4] H.length Q .ret fr (H++[[.str [],.str []]]):=fun fr pl e h0 h2 h3 h4=>
  qab hB (v0:= .tup [.agg [.str [],.str []],.int .i64 pl,.int .i64 e]) (by simp[h2,h3,h4]) (qaa _) (by simp) (by rw[h0]at hQ;exact hQ)
 have hcase:l=[]\/(∃a r,l=a::r/\qag a=true)\/(∃a r,l=a::r/\qag a=false):=by
  cases l with
  |nil=>exact .inl rfl
  |cons a r=>
   cases hb:qag a
   ·exact .inr (.inr ⟨a,r,rfl,hb⟩)
   ·exact .inr (.inl ⟨a,r,rfl,hb⟩)
 rcases hcase with rfl|⟨a,r,rfl,hb⟩|⟨a,r,hl0,hb⟩
 ·simp[Tryz.ntmps167,Tryz.results167,List.replicate_succ];refine qaz E _ _ [] 58 ?_;have e0:Lib.indexByte [] 58= -1:=rfl;rw[e0];simp;exact bad _ 0 62 qiR rfl rfl rfl
 ·have hc0:=qhh a r hb;have hib2:0<=Lib.indexByte [32,9] a:=by rw[qfL];exact hb
  have hne:(a::r !=[])=true:=rfl;simp[Tryz.ntmps167,Tryz.results167,List.replicate_succ,hne];refine qaz E _ _ [32,9] a ?_;simp[hib2];exact bad _ 0 63 hc0 rfl rfl rfl
 ·have hib2:¬0<=Lib.indexByte [32,9] a:=by rw[qfL,hb];simp
  have hne:(l !=[])=true:=by rw[hl0];rfl
  have hl1:0<l.length:=by rw[hl0];simp
  have hla:lat l 0=some a:=by rw[hl0];rfl
  simp[Tryz.ntmps167,Tryz.results167,List.replicate_succ,hne,hl1,hla];refine qaz E _ _ [32,9] a ?_;simp[hib2];refine qaz E _ _ l 58 ?_;rw[hib];have hnf:lnb l=false:=by rw[hl0];exact hb
  clear hib2 hne hla hl0 hib;by_cases hcc:c<l.length;rotate_left
  ·have hno:=qgh hnf (by omega);simp[hcc];exact bad _ l.length 62 hno rfl rfl rfl
  ·by_cases hz:c=0
   ·have hno:=qhe hnf (by omega) (by omega);subst hz;simp[hcc];exact bad _ 0 60 hno rfl rfl rfl
   ·have hz2:((c:Int)==0)=false:=by simp;omega
    simp[hcc,hz,hz2];subst hc;refine qaB (qqR l H) (fun fr _=>run ncol l-(ai (aget fr 33)).toNat) ⟨rfl,0,by omega,by omega,by simp,friz⟩ ?_;rintro fr H' ⟨rfl,i,hi,hi2,hall,x,rfl⟩;by_cases h:i<run ncol l
    ·obtain⟨b,hbi⟩:∃b,l[i]? =some b:=⟨_,zqD (by omega)⟩
     by_cases h128:128<=i
     ·have hno:=qhg hnf (by omega) (by omega) hall (by omega) (by omega) h;have h128':(128:Int)<=i:=by omega
      simp[h,h128'];exact bad _ i 60 hno rfl rfl rfl
     ·have h128':¬(128:Int)<=i:=by omega
      have hw:IntKind.i64.wrap ((i:Int)+1)=i+1:=wiz;have t1:((i:Int)+1).toNat=i+1:=by omega
      have t2:(0:Int)<=i+1:=by omega
      have t3:(l.drop i).take 1=[b]:=by rw[qar l i b hbi];rfl
      have t4:i+1<=l.length:=by omega
      have ht:tokB [b]=qao b:=by simp[tokB]
      simp[h,h128',hw,t1,t2,t3,t4];refine qc2 E _ _ hE [b] (by simp[cap]) ?_;rw[ht];cases hs:qao b with
      |false=>
       have hno:=qiT hnf (by omega) (by omega) hall (by omega) h hbi hs;simp;exact bad _ i 60 hno rfl rfl rfl
      |true=>
       simp[hw];refine qaC ?_ ?_;rotate_left
       ·simp;omega
       refine⟨rfl,i+1,by omega,by omega,?_,friz⟩;rw[qbe qao l i b hbi,hall,hs];rfl
    ·obtain rfl:i=run ncol l:=by omega
     have hnm:qbH (l.take (run ncol l))=true:=by
      unfold qbH tokB;rw[hall,decide_eq_true (by rw[zqJ];omega)];have:l.take (run ncol l)≠[]:=by intro e;have h2:=congrArg List.length e;rw[zqJ]at h2;have h3:min (run ncol l) l.length=0:=h2;omega
      cases he:l.take (run ncol l)with
      |nil=>exact absurd he this
      |cons _ _=>rfl
     have hw1:IntKind.i64.wrap (((run ncol l:Nat):Int)+1)=((run ncol l+1:Nat):Int):=by rw[qah (by omega) (by omega)];omega
     clear hall;simp[h,hw1,-Int.natCast_add];refine qaB (qqQ l H) (fun fr _=>l.length-(ai (aget fr 7)).toNat) ⟨rfl,run ncol l+1,by omega,by omega,by rw[Nat.sub_self,List.take_zero];rfl,friz⟩ ?_;clear hw1;rintro fr H' ⟨rfl,i,hi1,hi2,hall,x,rfl⟩;by_cases h:i<l.length
     ·obtain⟨b,hbi⟩:∃b,l[i]? =some b:=⟨_,zqD h⟩
      have hbd:(l.drop (run ncol l+1))[i-(run ncol l+1)]? =some b:=by rw[zqN,show run ncol l+1+(i-(run ncol l+1))=i by omega];exact hbi
      have hw:IntKind.i64.wrap ((i:Int)+1)=i+1:=wiz;have t1:((i:Int)+1).toNat=i+1:=by omega
      have t2:(0:Int)<=i+1:=by omega
      have t3:(l.drop i).take 1=[b]:=by rw[qar l i b hbi];rfl
      have t4:i+1<=l.length:=by omega
      have ht:fldB [b]=fcB b:=by simp[fldB]
      simp[h,hw,t1,t2,t3,t4];refine qhm E _ _ [b] (by simp[cap]) ?_;rw[ht];cases hs:fcB b with
      |false=>
       have hno:=qiP hnf (by omega) hnm (by omega) hall hbd hs;simp;exact bad _ i 61 (by rw[hno];congr 2;omega) rfl rfl rfl
      |true=>
       simp[hw];refine qaC ?_ ?_;rotate_left
       ·simp;omega
       refine⟨rfl,i+1,by omega,by omega,?_,friz⟩;rw[show i+1-(run ncol l+1)=(i-(run ncol l+1))+1 by omega];unfold fldB at hall⊢;rw[qbe fcB _ _ b hbd,hall,hs];rfl
     ·obtain rfl:i=l.length:=by omega
      have hfl:fldB (l.drop (run ncol l+1))=true:=by rw[zqE (by rw[zqI];omega)]at hall;exact hall
      clear hall h;obtain⟨c,hc⟩:=exz (run ncol l);rw[hc]at hcl hcc hz hz2 hnm hfl hi1;have hw1:IntKind.i64.wrap ((c:Int)+1)=((c+1:Nat):Int):=by rw[qah (by omega) (by omega)];omega
      have t4:c+1<=l.length:=by omega
      simp[hc,hw1,t4,-Int.natCast_add];refine qhB E _ _ (l.drop (c+1)) (by rw[zqI];simp only[cap];omega) ?_;by_cases hbig:8192<(qaH (l.drop (c+1))).length
      ·have hbig':(8192:Int)<(qaH (l.drop (c+1))).length:=by omega
       have hno:=qiS hnf (by omega) (by rw[hc];exact hnm) (by rw[hc];exact hfl) (by rw[hc];exact hbig);simp[hbig'];refine qij E _ _ (l.drop (c+1)) (by rw[zqI];simp only[cap];omega) ?_;have hle:=rb_le (l.drop (c+1));rw[zqI]at hle;have hdl:(l.drop (c+1)).length=l.length-(c+1):=zqI;obtain⟨rb,hrb⟩:=exz (run qag (l.drop (c+1)));have hld:=qpP (l.drop (c+1));rw[hc,hrb]at hno;rw[hrb]at hle hld;rw[hdl]at hld;have hwA:IntKind.i64.wrap ((c:Int)+1)=c+1:=wiz;have hwB:IntKind.i64.wrap (((l.length-(c+1):Nat):Int)-(Lib.trimLeftS (l.drop (c+1)) [32,9]).length)=rb:=by rw[hld,qah (by omega) (by omega)]
       have hwC:IntKind.i64.wrap ((c:Int)+1+rb)=c+1+rb:=wiz;have hwD:IntKind.i64.wrap ((c:Int)+1+rb+8192)=c+1+rb+8192:=wiz;simp[hwA,hwB,hwC,hwD];exact bad _ ((c:Int)+1+rb+8192) 61 (by rw[hno];simp) rfl rfl rfl
      ·have hbig':¬(8192:Int)<(qaH (l.drop (c+1))).length:=by omega
       have hyes:=qiO hnf (by omega) (by rw[hc];exact hnm) (by rw[hc];exact hfl) (by rw[hc];exact hbig);rw[hc]at hyes;rw[hyes]at hQ;simp[hbig',hcl];exact qab hB (v0:= .tup [.agg [.str (l.take c),.str (qaH (l.drop (c+1)))],.int .i64 0,.int .i64 0]) (by simp) (qaa _) (by simp) hQ
end
set_option linter.unnecessarySimpa false
def qbZ(d:Dec)(b:UInt8):Dec×Int:=match d.st with
 | .size=>qgL d b
 | .data=>qgs d b
 | .first=>qeR d b
 | .second=>qdc d b
 | .trailer=>qbC d b
def feed1(d:Dec)(b:UInt8):Dec:={(qbZ {d with total:=d.total+1} b).1 with err:=(qbZ {d with total:=d.total+1} b).2}
def qav(d:Dec):List UInt8->Dec×Nat
 |[]=>(d,0)
 |b::s=>if(feed1 d b).done=true\/(feed1 d b).err≠0 then(feed1 d b,1)else((qav (feed1 d b) s).1,(qav (feed1 d b) s).2+1)
def okD(d:Dec):Prop:=d.line.length<=d.total/\d.body.length<=d.total/\d.trailers.length<=d.total/\d.section_<=d.total/\(0<=d.most/\d.most<=9223372036854775807)/\(0<=d.room/\d.room<=9223372036854775807)/\(0<=d.fields/\d.fields<=9223372036854775807)/\(d.st= .data->1<=d.left/\d.left<=1099511627776)
theorem qjB(d:Dec)(b:UInt8):(qbZ d b).1.total=d.total/\(qbZ d b).1.most=d.most/\(qbZ d b).1.room=d.room/\(qbZ d b).1.fields=d.fields:=by
 unfold qbZ qgL qgs qeR qdc qbC
 (repeat' split)<;>exact⟨rfl,rfl,rfl,rfl⟩
theorem qpq(d:Dec)(b:UInt8)(h:okD d)(ht:1<=d.total)(h1:d.line.length+1<=d.total)(h2:d.body.length+1<=d.total)(h3:d.trailers.length+1<=d.total)(h4:d.section_+1<=d.total):okD (qbZ d b).1:=by
 obtain⟨a1,a2,a3,a4,a5,a6,a7,a8⟩:=h;unfold qbZ;split
 ·unfold qgL;split
  ·rename_i hst _;exact⟨by simpa using h1,a2,a3,a4,a5,a6,a7,fun e=>by simp only at e;rw[hst]at e;cases e⟩
  ·rename_i hst _;split
   ·exact⟨by simp,a2,a3,a4,a5,a6,a7,fun e=>by simp only at e;rw[hst]at e;cases e⟩
   ·rename_i s hs;split
    ·exact⟨by simp,a2,a3,a4,a5,a6,a7,fun e=>by simp only at e;rw[hst]at e;cases e⟩
    ·rename_i he;split
     ·exact⟨by simp,a2,a3,a4,a5,a6,a7,fun e=>by simp only at e;rw[hst]at e;cases e⟩
     ·split
      ·exact⟨by simp,a2,a3,a4,a5,a6,a7,fun e=>by cases e⟩
      ·rename_i hz;have:=qd6 s (by simpa using he);exact⟨by simp,a2,a3,a4,a5,a6,a7,fun e=>by simp only;omega⟩
 ·rename_i hst;have hl:=a8 hst;unfold qgs;split
  ·exact⟨a1,by simpa using h2,a3,a4,a5,a6,a7,fun e=>by cases e⟩
  ·exact⟨a1,by simpa using h2,a3,a4,a5,a6,a7,fun e=>by simp only;omega⟩
 ·rename_i hst;unfold qeR;split
  ·exact⟨a1,a2,a3,a4,a5,a6,a7,a8⟩
  ·exact⟨a1,a2,a3,a4,a5,a6,a7,fun e=>by cases e⟩
 ·rename_i hst;unfold qdc;split
  ·exact⟨a1,a2,a3,a4,a5,a6,a7,a8⟩
  ·exact⟨a1,a2,a3,a4,a5,a6,a7,fun e=>by cases e⟩
 ·rename_i hst;have nd:∀st:Stg,st=d.st->st= .data->1<=d.left/\d.left<=1099511627776:=fun st e e2=>by rw[e,hst]at e2;cases e2
  unfold qbC
  (repeat' split)
  all_goals first
   |exact⟨a1,a2,a3,a4,a5,a6,a7,nd _ rfl⟩
   |exact⟨by simpa using h1,a2,a3,h4,a5,a6,a7,nd _ rfl⟩
   |exact⟨by simp,a2,a3,h4,a5,a6,a7,nd _ rfl⟩
   |exact⟨by simp,a2,by simpa using h3,h4,a5,a6,a7,nd _ rfl⟩
theorem qk7(d:Dec)(b:UInt8)(h:okD d):okD (feed1 d b)/\(feed1 d b).total=d.total+1:=by
 obtain⟨a1,a2,a3,a4,a5,a6,a7,a8⟩:=h;have h0:okD {d with total:=d.total+1}:=⟨by simp only;omega,by simp only;omega,by simp only;omega,by simp only;omega,a5,a6,a7,a8⟩
 have:=qpq {d with total:=d.total+1} b h0 (by simp) (by simpa using a1) (by simpa using a2) (by simpa using a3) (by simpa using a4);exact⟨this,(qjB _ b).1⟩
section
variable (E:Env)(H:Hp)(Q:AV->Hp->Prop)(i:Nat)(d:Dec)(hd:H[i]? =some d.av)(b:UInt8)
include hd
theorem qrA(hE:SE E)(hk:okD d)(ht:d.total<=1000000000)(hQ:Q (.int .i64 (qbZ d b).2) (H.set i (qbZ d b).1.av)):PC Tryz.prog E d.st.fid [.ptr (some (i,0)),.int .u8 (b.toNat:Int)] H Q:=by
 obtain⟨a1,a2,a3,a4,a5,a6,a7,a8⟩:=hk;unfold qbZ at hQ;cases hst:d.st with
 |size=>rw[hst]at hQ;exact qrD E H Q i d hd b hE (by omega) (by omega) a5 hQ
 |data=>rw[hst]at hQ;exact qst E H Q i d hd b (by omega) (a8 hst) hQ
 |first=>rw[hst]at hQ;exact qp1 E H Q i d hd b hQ
 |second=>rw[hst]at hQ;exact qm1 E H Q i d hd b hQ
 |trailer=>rw[hst]at hQ;exact qlx E H Q i d hd b hE (by omega) (by omega) (by omega) hQ
end
def feI(H:Hp)(i:Nat)(d:Dec)(s:List UInt8)(fr:List AV)(H':Hp):Prop:=∃(n:Nat) (d':Dec),n<=s.length/\H'=H.set i d'.av/\okD d'/\d'.total=d.total+n/\d'.done=false/\d'.err=0/\qav d s=((qav d' (s.drop n)).1,(qav d' (s.drop n)).2+n)/\
 ∃x:Nat->AV,fr=[.ptr (some (i,0)),.str s,x 2,x 3,x 4,x 5,x 6,x 7,x 8,x 9,x 10,x 11,x 12,x 13,x 14,x 15,x 16,x 17,x 18,x 19,x 20,x 21,.str s,.int .i64 s.length,.int .i64 n,x 25,x 26,x 27,x 28,x 29,x 30,x 31,x 32,x 33,x 34,x 35,x 36,x 37,x 38,x 39,x 40,x 41,x 42,x 43,x 44,x 45,x 46,x 47,x 48,x 49,x 50,x 51,x 52,x 53,x 54,x 55,x 56,x 57,x 58,x 59,x 60,x 61,x 62,x 63,x 64,x 65]
section
variable (E:Env)(H:Hp)(Q:AV->Hp->Prop)(i:Nat)(d:Dec)(hd:H[i]? =some d.av)
include hd
theorem qnZ(hE:SE E)(s:List UInt8)(hk:okD d)(ht:d.total+s.length<=1000000000)(hQ1:d.done=false->d.err=0->Q (.tup [.int .i64 (qav d s).2,.int .i64 (qav d s).1.err]) (H.set i (qav d s).1.av))(hQ2:d.done=true\/d.err≠0->Q (.tup [.int .i64 0,.int .i64 103]) H):
  PC Tryz.prog E 218 [.ptr (some (i,0)),.str s] H Q:=by
 have hlt:=qfz H i d hd;have hself:H.set i d.av=H:=qew hd;have hd':=hd;refine qac Tryz.func218 rfl [] [] (by kernel_rfl) (fun hB=>?_);simp[Dec.av]at hd;by_cases h1:d.done=true
 ·simp[Tryz.ntmps218,Tryz.results218,List.replicate_succ,hd,h1];exact aQz hB (h6:=(hQ2 (.inl h1)))
 ·have h1:d.done=false:=by simpa using h1
  by_cases h2:d.err=0
  ·have hQ:=hQ1 h1 h2;simp[Tryz.ntmps218,Tryz.results218,List.replicate_succ,hd,h1,h2];refine qaB (feI H i d s) (fun fr _=>s.length-(ai (aget fr 24)).toNat) ⟨0,d,by omega,hself.symm,hk,by omega,h1,h2,by simp,friz⟩ ?_;rintro fr H' ⟨n,e,hn,rfl,hke,hte,hde,hee,hfe,x,rfl⟩;have hes:(H.set i e.av)[i]? =some e.av:=zqO hlt;by_cases h:n<s.length
   ·obtain⟨b,hb⟩:∃b,s[n]? =some b:=⟨_,zqD h⟩
    have hat:lat s n=some b:=qap hb;have hw:IntKind.i64.wrap ((e.total:Int)+1)=((e.total+1:Nat):Int):=by rw[qah (by omega) (by omega)];omega
    have hw2:IntKind.i64.wrap ((n:Int)+1)=n+1:=wiz;have hdr:=qar s n b hb;rw[hdr]at hfe;simp[h,hat,hw,hs0 hlt,hs1 hlt,hs2 hlt,hs3 hlt,hs4 hlt,hs5 hlt,Dec.av,-Int.natCast_add];have hes1:(H.set i ({e with total:=e.total+1}:Dec).av)[i]? =some ({e with total:=e.total+1}:Dec).av:=zqO hlt
    have hk1:okD {e with total:=e.total+1}:=by
     obtain⟨a1,a2,a3,a4,a5,a6,a7,a8⟩:=hke;exact⟨by simp only;omega,by simp only;omega,by simp only;omega,by simp only;omega,a5,a6,a7,a8⟩
    refine qrA E _ _ i {e with total:=e.total+1} hes1 b hE hk1 (by simp only;omega) ?_;obtain⟨hf1,hf2⟩:=qk7 e b hke;have hfd:qav e (b::s.drop (n+1))=if(feed1 e b).done=true\/(feed1 e b).err≠0 then(feed1 e b,1)else((qav (feed1 e b) (s.drop (n+1))).1,(qav (feed1 e b) (s.drop (n+1))).2+1):=rfl
    rw[hfd]at hfe;clear hfd hk1 hes1;have hfeq:feed1 e b={(qbZ {e with total:=e.total+1} b).1 with err:=(qbZ {e with total:=e.total+1} b).2}:=rfl;obtain⟨⟨e2,r⟩,he2⟩:=exz (qbZ {e with total:=e.total+1} b);rw[he2]at hfeq⊢;rw[hfeq]at hfe hf1 hf2;clear hfeq he2;simp only at hfe hf1 hf2;by_cases hdn:e2.done=true
    ·rw[if_pos (.inl hdn)]at hfe;rw[hfe]at hQ;simp[hs0 hlt,hs1 hlt,hs2 hlt,hs3 hlt,hs4 hlt,hs5 hlt,Dec.av,hdn,hw2];refine qaM hB rfl (qaa _) (({e2 with err:=r,done:=true}:Dec).bnd _) (by simp) ?_;simp only at hQ;rw[show((1+n:Nat):Int)=(n:Int)+1 by omega]at hQ;have hav:({e2 with err:=r}:Dec).av=({e2 with err:=r,done:=true}:Dec).av:=by rw[<-hdn]
     rw[hav]at hQ;exact hQ
    ·have hdn:e2.done=false:=by simpa using hdn
     by_cases hr:r=0
     ·rw[if_neg (by rw[hdn,hr];simp)]at hfe;simp[hs0 hlt,hs1 hlt,hs2 hlt,hs3 hlt,hs4 hlt,hs5 hlt,Dec.av,hdn,hr,hw2];refine qaC ?_ ?_;rotate_left
      ·simp;omega
      have hav:({e2 with err:=r}:Dec).av=({e2 with err:=0,done:=false}:Dec).av:=by rw[<-hdn,<-hr]
      subst hr;refine⟨n+1,{e2 with err:=0},by omega,?_,hf1,by rw[hf2];omega,hdn,rfl,?_,friz⟩
      ·rw[hav];rfl
      ·rw[hfe];simp only;rw[Nat.add_assoc,Nat.add_comm 1 n]
     ·have hr2:(r !=0)=true:=by simpa using hr
      rw[if_pos (.inr hr)]at hfe;rw[hfe]at hQ;simp[hs0 hlt,hs1 hlt,hs2 hlt,hs3 hlt,hs4 hlt,hs5 hlt,Dec.av,hdn,hr2,hw2];refine qaM hB rfl (qaa _) (({e2 with err:=r,done:=false}:Dec).bnd _) (by simp) ?_;simp only at hQ;rw[show((1+n:Nat):Int)=(n:Int)+1 by omega]at hQ;have hav:({e2 with err:=r}:Dec).av=({e2 with err:=r,done:=false}:Dec).av:=by rw[<-hdn]
      rw[hav]at hQ;exact hQ
   ·obtain rfl:n=s.length:=by omega
    rw[List.drop_length]at hfe;have hfd:qav e []=(e,0):=rfl;rw[hfd]at hfe;rw[hfe]at hQ;simp only[hee,Nat.zero_add]at hQ;simp[h];exact qaM hB rfl (qaa _) (e.bnd _) (by simp) hQ
  ·have h22:(d.err !=0)=true:=by simpa using h2
   simp[Tryz.ntmps218,Tryz.results218,List.replicate_succ,hd,h1,h22];exact aQz hB (h6:=(hQ2 (.inr h2)))
end
theorem Tryz.info65:(Tryz.prog.info? 65).map (fun i=>(i.zero,i.size,i.bytes))=some (some (.agg #[.string ⟨#[]⟩,.string ⟨#[]⟩]),2,32):=by kernel_rfl
theorem qm4{w:World}{k n:Nat}{v:Value}{xs:List Value}(h:RSl w k v n xs)(o:Obj):RSl (w.alloc o) k v n xs:=by
 obtain⟨h1,ao,cap,rfl,h2,h3,h4⟩:=h;refine⟨h1,ao,cap,rfl,h2,h3,fun hn=>?_⟩;obtain⟨g,o',rfl,h5⟩:=h4 hn;refine⟨g,o',rfl,fun j hj=>?_⟩;have h0:=h5 j hj;have hx:xs[j]? =some (xs[j]'(by omega)):=zqD _;rw[hx]at h0⊢;exact Lib.cell?_alloc_some _ h0
theorem qqg{w:World}{ao:Option Addr}{n c:Nat}{xs:List Value}(h:RSl w 2 (.slice ao n c) n xs)(h1:∀u∈xs,u.oneCell'=true)(hn:n<=1073741824):
  Calls Tryz.prog 232 #[.slice ao n c] w fun e w'=>∃bo m d,e= .returned (.slice bo m d)/\((bo=none/\m=0/\d=0/\n=0/\w'=w)\/(m=n/\OSl w' 2 (.slice bo n d) n xs/\(∀g',(Value.slice bo n d).ownBlock=some g'->w.heap.size<=g')/\Frm (fun _=>False) w w')):=by
 obtain⟨i0,hi,hz0,hz1,hz2⟩:=info_parts Tryz.info65;have q22:∀(w:World) (a:Option Addr) (n c n' c':Nat),(binOp .eql 24 (.slice a n c) (.slice none n' c')).run Tryz.prog w= .ok (.bool a.isNone) w:=fun w a n c n' c'=>Lib.run_eql_slice_nil w _ _ a n c n' c' Tryz.underlying24;have HR:=Lib.hid h;have H1:=Lib.hid h1;clear h h1
 go_enter Tryz.func232,Tryz.ntmps232
 cases ao with
 |none=>
  go_wp2
  go_ret
  refine⟨none,0,0,rfl,.inl ⟨rfl,rfl,rfl,?_,rfl⟩⟩;obtain⟨_,_,_,he,_,_,hc⟩:=HR.out;cases he;rcases Nat.eq_zero_or_pos n with h|h
  ·exact h
  ·obtain⟨_,_,h,_⟩:=hc h;cases h
 |some a=>
  have hE:OSl (w.alloc (.cells #[] 65)) 2 (.slice (some ⟨w.heap.size,0,none⟩) 0 0) 0 []:=OSl.new w #[] 65 2 0 0 [] rfl (Nat.le_refl _) (Nat.zero_le _) rfl (fun j hj=>by simp at hj);have HE:=Lib.hid hE;clear hE
  go_wp2_with (at_builtin;refine qe6 _ rfl (.tmp 5) (.tmp 6) 24 24 rfl 65 i0 (.agg #[.string ⟨#[]⟩,.string ⟨#[]⟩]) 2 32 Tryz.underlying24 hi hz0 hz1 hz2 rfl _ 0 [] rfl HE.out (.slice (some a) n c) n xs rfl (qf2 (P:=Tryz.prog) (qm4 HR.out _) H1.out Tryz.underlying24) (by unfold maxLen;omega) (by omega) ?_)
  intro ao4 c4 w4 hs hf hv;have HN4:=Lib.hid (qnO (w:=w) (v':= .slice ao4 n c4) (H:=w.heap.size+1) (Frm.alloc _ w _) (fun g hg=>by simp[Value.ownBlock]at hg;omega) hf (by simpa using hv) (by omega));have hs':=hs
  try simp only[List.nil_append,Nat.zero_add]at hs'
  have HO4:=Lib.hid hs';clear hs' hs hf hv
  go_wp2
  go_ret
  exact⟨ao4,n,c4,by simp,.inr ⟨rfl,HO4.out,HN4.out.1,HN4.out.2⟩⟩
theorem qp0{l:List Fld}{j:Nat}{x:AV}(h:(flds l).flatten[j]? =some x):∃s,x= .str s:=by
 obtain⟨r,hr,hx⟩:=List.mem_flatten.1 (zqH h);obtain⟨f,_,rfl⟩:=List.mem_map.1 hr;simp at hx;rcases hx with rfl|rfl<;>exact⟨_,rfl⟩
theorem qqf(E:Env)(H:Hp)(Q:AV->Hp->Prop)(own:Bool)(l:List Fld)(hl:l.length<=1073741824)(hf:own=false)(hQ:Q (.sl false 2 (flds l)) H):PC Tryz.prog E 232 [.sl own 2 (flds l)] H Q:=by
 refine⟨by kernel_rfl,fun w β Rd Ow cargs hHR hOw hsz hargs=>?_⟩;obtain⟨u,rfl,hu⟩:=args1 hsz (fun t x u hx hu=>(hargs t x u hx hu).1);obtain⟨xs,hk,hx,hd,hfr,hr⟩:=qfs hu;obtain⟨hxl,ao,c,rfl,h2,h3,h4⟩:=id hx;rw[qdo]at hx hxl h2 h4;have hone:∀u∈xs,u.oneCell'=true:=Rel.slOne (own:=own) hk (by rw[qdo];exact hxl) hfr hr;rw[qdo];refine(qqg (ao:=ao) (c:=c) hx hone hl).mono ?_;rintro e w' ⟨bo,m,d,rfl,⟨rfl,rfl,rfl,hn0,rfl⟩|⟨rfl,ho,hnew,hF⟩⟩
 ·have:l=[]:=List.length_eq_zero_iff.1 hn0;subst this
  have hrel:Rel w' β (fun g o=>Rd g o\/False) (.sl false 2 (flds [])) (.slice none 0 0):=
   .sl false 2 _ _ [] (fun r hr=>by simp[flds]at hr) ⟨by simp[flds],none,0,rfl,Nat.le_refl _,Nat.zero_le _,fun h=>by simp[flds]at h⟩ (fun g o n c hv j hj=>by cases hv) (fun h=>by cases h) (fun r hr=>by simp[flds]at hr) (fun j x u hx=>by simp[flds]at hx)
  exact⟨_,_,H,β,_,Ow,rfl,hQ,qdk hHR (Frm.refl _ _) (fun _ _=>False) (fun _ _ h=>h.elim) hrel (by simp[flds]) rfl⟩
 ·have hrel:Rel w' β (fun g o=>Rd g o\/(Value.slice bo l.length d).ownBlock=some g) (.sl false 2 (flds l)) (.slice bo l.length d):=by
   refine .sl false 2 _ _ xs hk (by rw[qdo];exact ho.toR) (fun g o n c hv j hj=> .inr (by rw[hv];rfl)) (fun h=>by cases h) hfr (fun j x u hx' hu'=>?_);obtain⟨t,rfl⟩:=qp0 hx';obtain⟨b,rfl,hb1,hb2⟩:=qax (hr j _ u hx' hu');exact .str _ _ hb1 hb2
  exact⟨_,_,H,β,_,Ow,rfl,hQ,qdk hHR hF (fun g _=>(Value.slice bo l.length d).ownBlock=some g) (fun g o h=>⟨hnew g h,ho.lt g h⟩) hrel (qcm _ _ _) rfl⟩
def newD(most room fields:Int):Dec:=⟨most,room,fields,.size,[],0,[],[],0,0,false,0⟩
section
variable (E:Env)(H:Hp)(Q:AV->Hp->Prop)
theorem qia(most room fields:Int)(hQ1:0<=most->0<=room->0<=fields->Q (.tup [.ptr (some (H.length,0)),.int .i64 0]) (H++[(newD most room fields).av]))(hQ2:most<0\/room<0\/fields<0->Q (.tup [.ptr none,.int .i64 1]) H):
  PC Tryz.prog E 196 [.int .i64 most,.int .i64 room,.int .i64 fields] H Q:=by
 refine qac Tryz.func196 rfl [] [] (by kernel_rfl) (fun hB=>?_);by_cases h1:most<0
 ·simp[Tryz.ntmps196,Tryz.results196,List.replicate_succ,h1];exact aQz hB (h6:=(hQ2 (.inl h1)))
 ·by_cases h2:room<0
  ·simp[Tryz.ntmps196,Tryz.results196,List.replicate_succ,h1,h2];exact aQz hB (h6:=(hQ2 (.inr (.inl h2))))
  ·by_cases h3:fields<0
   ·simp[Tryz.ntmps196,Tryz.results196,List.replicate_succ,h1,h2,h3];exact aQz hB (h6:=(hQ2 (.inr (.inr h3))))
   ·have hQ:=hQ1 (by omega) (by omega) (by omega);simp[Tryz.ntmps196,Tryz.results196,List.replicate_succ,h1,h2,h3]
    have hbn:BndH (H.length+1) (H++[(newD most room fields).av]):=fun l hl x hx=>by
     rcases List.mem_append.1 hl with h'|h'
     ·exact(hB l h' x hx).mono (by omega)
     ·simp at h';subst h';exact(newD most room fields).bnd _ x hx
    exact⟨.tup [.ptr (some (H.length,0)),.int .i64 0],_,H++[(newD most room fields).av],H++[(newD most room fields).av],[],rfl,qaa _,
     qhO H ⟨⟨.inl rfl,.inl rfl,.inl rfl,.inl rfl,.inr ⟨rfl,true,1,rfl⟩,.inl rfl,.inr ⟨rfl,true,1,rfl⟩,.inr ⟨rfl,true,2,rfl⟩,.inl rfl,.inl rfl,.inl rfl,.inl rfl,trivial⟩,trivial⟩,
     (List.append_nil _).symm,by simp,by simpa using hbn,by simp,hQ⟩
theorem qp3(s:List UInt8)(hQ:Q (.tup [.int .i64 0,.int .i64 103]) H):PC Tryz.prog E 218 [.ptr none,.str s] H Q:=by
 refine qac Tryz.func218 rfl [] [] (by kernel_rfl) (fun hB=>?_);simp[Tryz.ntmps218,Tryz.results218,List.replicate_succ];exact aQz hB (h6:=hQ)
variable (i:Nat)(d:Dec)(hd:H[i]? =some d.av)
include hd
theorem qsk(hQ:Q (.bool d.done) H):PC Tryz.prog E 219 [.ptr (some (i,0))] H Q:=by
 have hlt:=qfz H i d hd;refine qac Tryz.func219 rfl [] [] (by kernel_rfl) (fun hB=>?_);simp[Dec.av]at hd;simp[Tryz.ntmps219,Tryz.results219,List.replicate_succ,hd];exact aQz hB (h6:=hQ)
theorem qsy(hl:d.body.length<=1073741824)(hQ:Q (.str d.body) H):PC Tryz.prog E 220 [.ptr (some (i,0))] H Q:=by
 have hm:d.body.length<=maxLen:=by unfold maxLen;omega
 refine qac Tryz.func220 rfl [] [] (by kernel_rfl) (fun hB=>?_);simp[Dec.av]at hd;simp[Tryz.ntmps220,Tryz.results220,List.replicate_succ,hd,hm];exact aQz hB (h6:=hQ)
theorem qjx(hl:d.trailers.length<=1073741824)(hQ:Q (.sl false 2 (flds d.trailers)) H):PC Tryz.prog E 221 [.ptr (some (i,0))] H Q:=by
 refine qac Tryz.func221 rfl [] [] (by kernel_rfl) (fun hB=>?_);simp[Dec.av]at hd;simp[Tryz.ntmps221,Tryz.results221,List.replicate_succ,hd];refine qqf E _ _ false d.trailers hl rfl ?_;simp;exact aQz hB (h6:=hQ)
end
theorem qrT(most room fields:Int)(h1:0<=most/\most<=9223372036854775807)(h2:0<=room/\room<=9223372036854775807)(h3:0<=fields/\fields<=9223372036854775807):okD (newD most room fields):=
 ⟨by simp[newD],by simp[newD],by simp[newD],by simp[newD],h1,h2,h3,fun e=>by cases e⟩
theorem qk6(s:List UInt8):∀d,(qav d s).2<=s.length:=by
 induction s with
 |nil=>intro d;exact Nat.le_refl _
 |cons b s ih=>
  intro d;have hfd:qav d (b::s)=if(feed1 d b).done=true\/(feed1 d b).err≠0 then(feed1 d b,1)else((qav (feed1 d b) s).1,(qav (feed1 d b) s).2+1):=rfl
  rw[hfd];split
  ·simp
  ·have:=ih (feed1 d b);simp;omega
theorem qh0(s:List UInt8):∀d,okD d->okD (qav d s).1/\(qav d s).1.total=d.total+(qav d s).2:=by
 induction s with
 |nil=>intro d h;exact⟨h,rfl⟩
 |cons b s ih=>
  intro d h;have hfd:qav d (b::s)=if(feed1 d b).done=true\/(feed1 d b).err≠0 then(feed1 d b,1)else((qav (feed1 d b) s).1,(qav (feed1 d b) s).2+1):=rfl
  obtain⟨h1,h2⟩:=qk7 d b h;rw[hfd];split
  ·exact⟨h1,h2⟩
  ·obtain⟨g1,g2⟩:=ih (feed1 d b) h1;exact⟨g1,by rw[g2,h2];simp only;omega⟩
section
variable (E:Env)(H:Hp)(Q:AV->Hp->Prop)
def qdf(b:UInt8)(H:Hp)(fr:List AV)(H':Hp):Prop:=H'=H/\∃i:Nat,i<=15/\(sgs.take i).contains b=false/\∃x:Nat->AV,fr=[.int .u8 (b.toNat:Int),x 1,x 2,.str sgs,.int .i64 i,x 5,x 6,x 7,x 8,x 9,x 10,x 11,x 12,x 13,x 14,x 15,x 16,x 17,x 18,x 19,x 20,x 21,x 22,x 23,x 24,x 25,x 26,x 27,x 28,x 29,x 30,x 31,x 32,x 33,x 34,x 35,x 36,x 37]
theorem qde(b:UInt8)(hQ:Q (.bool (qao b)) H):PC Tryz.prog E 100 [.int .u8 (b.toNat:Int)] H Q:=by
 refine qac Tryz.func100 rfl [] [] (by kernel_rfl) (fun hB=>?_);have fin:∀c:Bool,qao b=c->Q (.bool c) H:=fun c hc=>hc▸hQ;have hb:=b.toNat_lt
 have hcase:(48<=b.toNat/\b.toNat<=57)\/(65<=b.toNat/\b.toNat<=90)\/(97<=b.toNat/\b.toNat<=122)\/(qbF b||qcz b)=false:=by
  by_cases h1:48<=b.toNat/\b.toNat<=57
  ·exact .inl h1
  ·by_cases h2:65<=b.toNat/\b.toNat<=90
   ·exact .inr (.inl h2)
   ·by_cases h3:97<=b.toNat/\b.toNat<=122
    ·exact .inr (.inr (.inl h3))
    ·refine .inr (.inr (.inr ?_));rw[Bool.eq_false_iff];intro hh;simp only[qbF,qcz,Bool.or_eq_true,decide_eq_true_eq,Bool.and_eq_true]at hh;omega
 rcases hcase with h|h|h|h
 ·have h48:(48:Int)<=b.toNat:=by omega
  have h57:(b.toNat:Int)<=57:=by omega
  simp[Tryz.ntmps100,Tryz.results100,List.replicate_succ,h48,h57];refine aQz hB (h6:=(fin _ ?_));rw[<-qa3,show qbF b=true by unfold qbF;simp;omega];simp
 ·have h57:¬(b.toNat:Int)<=57:=by omega
  have h48:(48:Int)<=b.toNat:=by omega
  have h65:(65:Int)<=b.toNat:=by omega
  have h90:(b.toNat:Int)<=90:=by omega
  simp[Tryz.ntmps100,Tryz.results100,List.replicate_succ,h48,h57,h65,h90];refine aQz hB (h6:=(fin _ ?_));rw[<-qa3,show qcz b=true by unfold qcz;simp;omega];simp
 ·have h57:¬(b.toNat:Int)<=57:=by omega
  have h48:(48:Int)<=b.toNat:=by omega
  have h65:(65:Int)<=b.toNat:=by omega
  have h90:¬(b.toNat:Int)<=90:=by omega
  have h97:(97:Int)<=b.toNat:=by omega
  have h122:(b.toNat:Int)<=122:=by omega
  simp[Tryz.ntmps100,Tryz.results100,List.replicate_succ,h48,h57,h65,h90,h97,h122];refine aQz hB (h6:=(fin _ ?_));rw[<-qa3,show qcz b=true by unfold qcz;simp;omega];simp
 ·have hno:=h;simp only[Bool.or_eq_false_iff]at h;obtain⟨hd,hl⟩:=h
  have hd':¬((48:Int)<=b.toNat/\(b.toNat:Int)<=57):=fun hh=>by
   have:qbF b=true:=by unfold qbF;simp;omega
   rw[this]at hd;cases hd
  have hl1:¬((65:Int)<=b.toNat/\(b.toNat:Int)<=90):=fun hh=>by
   have:qcz b=true:=by unfold qcz;simp;omega
   rw[this]at hl;cases hl
  have hl2:¬((97:Int)<=b.toNat/\(b.toNat:Int)<=122):=fun hh=>by
   have:qcz b=true:=by unfold qcz;simp;omega
   rw[this]at hl;cases hl
  have hc7:((b.toNat:Int)<48)\/(57<(b.toNat:Int)/\(b.toNat:Int)<65)\/(90<(b.toNat:Int)/\(b.toNat:Int)<97)\/(122<(b.toNat:Int)):=by omega
  rcases hc7 with g|g|g|g
  ·have q1:¬(48:Int)<=b.toNat:=by omega
   have q2:¬(65:Int)<=b.toNat:=by omega
   have q3:¬(97:Int)<=b.toNat:=by omega
   simp[Tryz.ntmps100,Tryz.results100,List.replicate_succ,q1,q2,q3];refine qaB (qdf b H) (fun fr _=>15-(ai (aget fr 4)).toNat) ⟨rfl,0,by omega,rfl,qal (by simp[sgs])⟩ ?_;rintro fr H' ⟨rfl,i,hi,hall,x,rfl⟩;have hlen:sgs.length=15:=rfl;by_cases h:i<15
   ·obtain⟨c,hc⟩:∃c,sgs[i]? =some c:=⟨_,zqD (by rw[hlen];exact h)⟩
    have hat:=qap hc;have h15:(i:Int)<15:=by omega
    have hw:IntKind.i64.wrap ((i:Int)+1)=i+1:=wiz;by_cases he:c=b
    ·have t1:((c.toNat:Int)==(b.toNat:Int))=true:=by simp[he]
     simp[hlen,h15,hat,t1];refine aQz hB (h6:=(fin _ ?_));rw[<-qa3,show sgs.contains b=true by rw[List.contains_iff_mem,<-he];exact zqH hc];simp
    ·have t1:((c.toNat:Int)==(b.toNat:Int))=false:=by
      rw[beq_eq_false_iff_ne];intro hh;exact he (UInt8.toNat_inj.1 (by omega))
     simp[hlen,h15,hat,t1,hw];refine Klz ⟨rfl,i+1,by omega,?_,friz⟩;rw[List.take_add_one,hc];simp at hall;simp[hall];exact fun e=>he e.symm
   ·obtain rfl:i=15:=by omega
    simp[hlen];refine aQz hB (h6:=(fin _ ?_));rw[<-qa3,hd,hl];exact hall
  ·have q1:(48:Int)<=b.toNat:=by omega
   have q4:¬(b.toNat:Int)<=57:=by omega
   have q2:¬(65:Int)<=b.toNat:=by omega
   have q3:¬(97:Int)<=b.toNat:=by omega
   simp[Tryz.ntmps100,Tryz.results100,List.replicate_succ,q1,q2,q3,q4];refine qaB (qdf b H) (fun fr _=>15-(ai (aget fr 4)).toNat) ⟨rfl,0,by omega,rfl,qal (by simp[sgs])⟩ ?_;rintro fr H' ⟨rfl,i,hi,hall,x,rfl⟩;have hlen:sgs.length=15:=rfl;by_cases h:i<15
   ·obtain⟨c,hc⟩:∃c,sgs[i]? =some c:=⟨_,zqD (by rw[hlen];exact h)⟩
    have hat:=qap hc;have h15:(i:Int)<15:=by omega
    have hw:IntKind.i64.wrap ((i:Int)+1)=i+1:=wiz;by_cases he:c=b
    ·have t1:((c.toNat:Int)==(b.toNat:Int))=true:=by simp[he]
     simp[hlen,h15,hat,t1];refine aQz hB (h6:=(fin _ ?_));rw[<-qa3,show sgs.contains b=true by rw[List.contains_iff_mem,<-he];exact zqH hc];simp
    ·have t1:((c.toNat:Int)==(b.toNat:Int))=false:=by
      rw[beq_eq_false_iff_ne];intro hh;exact he (UInt8.toNat_inj.1 (by omega))
     simp[hlen,h15,hat,t1,hw];refine Klz ⟨rfl,i+1,by omega,?_,friz⟩;rw[List.take_add_one,hc];simp at hall;simp[hall];exact fun e=>he e.symm
   ·obtain rfl:i=15:=by omega
    simp[hlen];refine aQz hB (h6:=(fin _ ?_));rw[<-qa3,hd,hl];exact hall
  ·have q1:(48:Int)<=b.toNat:=by omega
   have q4:¬(b.toNat:Int)<=57:=by omega
   have q2:(65:Int)<=b.toNat:=by omega
   have q5:¬(b.toNat:Int)<=90:=by omega
   have q3:¬(97:Int)<=b.toNat:=by omega
   simp[Tryz.ntmps100,Tryz.results100,List.replicate_succ,q1,q2,q3,q4,q5];refine qaB (qdf b H) (fun fr _=>15-(ai (aget fr 4)).toNat) ⟨rfl,0,by omega,rfl,qal (by simp[sgs])⟩ ?_;rintro fr H' ⟨rfl,i,hi,hall,x,rfl⟩;have hlen:sgs.length=15:=rfl;by_cases h:i<15
   ·obtain⟨c,hc⟩:∃c,sgs[i]? =some c:=⟨_,zqD (by rw[hlen];exact h)⟩
    have hat:=qap hc;have h15:(i:Int)<15:=by omega
    have hw:IntKind.i64.wrap ((i:Int)+1)=i+1:=wiz;by_cases he:c=b
    ·have t1:((c.toNat:Int)==(b.toNat:Int))=true:=by simp[he]
     simp[hlen,h15,hat,t1];refine aQz hB (h6:=(fin _ ?_));rw[<-qa3,show sgs.contains b=true by rw[List.contains_iff_mem,<-he];exact zqH hc];simp
    ·have t1:((c.toNat:Int)==(b.toNat:Int))=false:=by
      rw[beq_eq_false_iff_ne];intro hh;exact he (UInt8.toNat_inj.1 (by omega))
     simp[hlen,h15,hat,t1,hw];refine Klz ⟨rfl,i+1,by omega,?_,friz⟩;rw[List.take_add_one,hc];simp at hall;simp[hall];exact fun e=>he e.symm
   ·obtain rfl:i=15:=by omega
    simp[hlen];refine aQz hB (h6:=(fin _ ?_));rw[<-qa3,hd,hl];exact hall
  ·have q1:(48:Int)<=b.toNat:=by omega
   have q4:¬(b.toNat:Int)<=57:=by omega
   have q2:(65:Int)<=b.toNat:=by omega
   have q5:¬(b.toNat:Int)<=90:=by omega
   have q3:(97:Int)<=b.toNat:=by omega
   have q6:¬(b.toNat:Int)<=122:=by omega
   simp[Tryz.ntmps100,Tryz.results100,List.replicate_succ,q1,q2,q3,q4,q5,q6];refine qaB (qdf b H) (fun fr _=>15-(ai (aget fr 4)).toNat) ⟨rfl,0,by omega,rfl,qal (by simp[sgs])⟩ ?_;rintro fr H' ⟨rfl,i,hi,hall,x,rfl⟩;have hlen:sgs.length=15:=rfl;by_cases h:i<15
   ·obtain⟨c,hc⟩:∃c,sgs[i]? =some c:=⟨_,zqD (by rw[hlen];exact h)⟩
    have hat:=qap hc;have h15:(i:Int)<15:=by omega
    have hw:IntKind.i64.wrap ((i:Int)+1)=i+1:=wiz;by_cases he:c=b
    ·have t1:((c.toNat:Int)==(b.toNat:Int))=true:=by simp[he]
     simp[hlen,h15,hat,t1];refine aQz hB (h6:=(fin _ ?_));rw[<-qa3,show sgs.contains b=true by rw[List.contains_iff_mem,<-he];exact zqH hc];simp
    ·have t1:((c.toNat:Int)==(b.toNat:Int))=false:=by
      rw[beq_eq_false_iff_ne];intro hh;exact he (UInt8.toNat_inj.1 (by omega))
     simp[hlen,h15,hat,t1,hw];refine Klz ⟨rfl,i+1,by omega,?_,friz⟩;rw[List.take_add_one,hc];simp at hall;simp[hall];exact fun e=>he e.symm
   ·obtain rfl:i=15:=by omega
    simp[hlen];refine aQz hB (h6:=(fin _ ?_));rw[<-qa3,hd,hl];exact hall
def qlJ(l:List UInt8)(H:Hp)(fr:List AV)(H':Hp):Prop:=H'=H/\∃i:Nat,i<=l.length/\(l.take i).all qao=true/\∃x:Nat->AV,fr=[.str l,x 1,x 2,.int .i64 i,x 4,x 5,x 6,x 7,x 8,x 9,x 10,x 11,x 12,x 13,x 14,x 15,x 16,x 17]
theorem qft(l:List UInt8)(hl:l.length<=cap)(hQ:Q (.bool (tokB l)) H):PC Tryz.prog E 127 [.str l] H Q:=by
 simp only[cap]at hl;refine qac Tryz.func127 rfl [] [] (by kernel_rfl) (fun hB=>?_);have fin:∀c:Bool,tokB l=c->Q (.bool c) H:=fun c hc=>hc▸hQ;simp[Tryz.ntmps127,Tryz.results127,List.replicate_succ];refine qaB (qlJ l H) (fun fr _=>l.length-(ai (aget fr 3)).toNat) ⟨rfl,0,by omega,rfl,friz⟩ ?_;rintro fr H' ⟨rfl,i,hi,hall,x,rfl⟩;by_cases h:i<l.length
 ·obtain⟨b,hb⟩:∃b,l[i]? =some b:=⟨_,zqD h⟩
  have hat:=qap hb;have hw:IntKind.i64.wrap ((i:Int)+1)=i+1:=wiz;simp[h,hat];refine qde E _ _ b ?_;cases hf:qao b
  ·simp[hf];exact aQz hB (h6:=(fin _ (by rw[tokB,qei qao l i b hb hf];rfl)))
  ·simp[hf,hw];refine Klz ⟨rfl,i+1,by omega,?_,friz⟩;rw[qbe qao l i b hb,hall,hf];rfl
 ·have:l.take i=l:=zqE (by omega);rw[this]at hall
  have ht:tokB l=decide (0<l.length):=by
   rw[tokB,hall];cases l<;>simp
  simp[h];exact aQz hB (h6:=(fin _ ht))
theorem qjL(l:List UInt8)(hl:l.length<=cap)(hQ:Q (.bool (qbH l)) H):PC Tryz.prog E 113 [.str l] H Q:=by
 refine qac Tryz.func113 rfl [] [] (by kernel_rfl) (fun hB=>?_);simp[Tryz.ntmps113,Tryz.results113,List.replicate_succ];refine qft E _ _ l hl ?_;cases ht:tokB l with
 |false=>
  have e:qbH l=false:=by unfold qbH;rw[ht];simp
  rw[e]at hQ;simp;exact aQz hB (h6:=hQ)
 |true=>
  have e:qbH l=decide ((l.length:Int)<=128):=by
   unfold qbH;rw[ht,Bool.and_true];by_cases h:l.length<=128
   ·rw[decide_eq_true h,decide_eq_true (by omega)]
   ·rw[decide_eq_false h,decide_eq_false (by omega)]
  rw[e]at hQ;simp;exact aQz hB (h6:=hQ)
def inInv(ls:List (List UInt8))(s:List UInt8)(H:Hp)(fr:List AV)(H':Hp):Prop:=H'=H/\∃i:Nat,i<=ls.length/\(ls.take i).contains s=false/\∃x:Nat->AV,fr=[x 0,.str s,x 2,x 3,x 4,x 5,x 6,.sl false 1 (strs ls),.int .i64 ls.length,.int .i64 i,x 10,x 11,x 12,x 13,x 14,x 15,x 16]
theorem in_pc(ls:List (List UInt8))(s:List UInt8)(hl:ls.length<=cap)(hQ:Q (.bool (ls.contains s)) H):PC Tryz.prog E 143 [.sl false 1 (strs ls),.str s] H Q:=by
 simp only[cap]at hl;refine qac Tryz.func143 rfl [] [] (by kernel_rfl) (fun hB=>?_);have fin:∀c:Bool,ls.contains s=c->Q (.bool c) H:=fun c hc=>hc▸hQ;simp[Tryz.ntmps143,Tryz.results143,List.replicate_succ,qkB];refine qaB (inInv ls s H) (fun fr _=>ls.length-(ai (aget fr 9)).toNat) ⟨rfl,0,by omega,rfl,friz⟩ ?_;rintro fr H' ⟨rfl,i,hi,hall,x,rfl⟩;by_cases h:i<ls.length
 ·obtain⟨b,hb⟩:∃b,ls[i]? =some b:=⟨_,zqD h⟩
  have hat:=qct hb;have hw:IntKind.i64.wrap ((i:Int)+1)=i+1:=wiz;by_cases he:b=s
  ·simp[h,hat,he];refine aQz hB (h6:=(fin _ ?_));rw[List.contains_iff_mem,<-he];exact zqH hb
  ·have t1:(b==s)=false:=beq_eq_false_iff_ne.2 he;simp[h,hat,t1,hw];refine Klz ⟨rfl,i+1,by omega,?_,friz⟩;rw[List.take_add_one,hb];simp at hall;simp[hall];exact fun e=>he e.symm
 ·have:ls.take i=ls:=zqE (by omega);rw[this]at hall;simp[h];exact aQz hB (h6:=(fin _ hall))
theorem qlI(l:List UInt8)(hl:l.length<=cap)(hQ:Q (.bool (mayB l)) H):PC Tryz.prog E 117 [.str l] H Q:=by
 refine qac Tryz.func117 rfl [] [] (by kernel_rfl) (fun hB=>?_);have hr12:(([0,1,2,3,4,5,6,7,8,9,10,11]:List Nat)=List.range 12)=True:=eq_true (by decide);simp[Tryz.ntmps117,Tryz.results117,List.replicate_succ,hr12];refine qjL E _ _ l hl ?_;cases hn:qbH l with
 |false=>
  have e:mayB l=false:=by unfold mayB;rw[hn];rfl
  rw[e]at hQ;simp;exact aQz hB (h6:=hQ)
 |true=>
  have e:mayB l=!never.contains (low l):=by unfold mayB;rw[hn];rfl
  rw[e]at hQ;simp;refine qb8 E _ _ l hl ?_;simp;refine in_pc E _ _ never (low l) (by simp[never,cap]) ?_;simp[-List.contains_eq_mem];exact aQz hB (h6:=hQ)
end
theorem qjH(W:World)(s:ByteArray)(hs:s.size<=1048576):Rel W (fun _=>0) (old W) (.str s.data.toList) (.string s)/\Bnd 0 (.str s.data.toList)/\(AV.str s.data.toList).free=true:=
 ⟨.str _ _ rfl (by unfold maxLen;omega),.str _,rfl⟩
section
variable (E:Env)(H:Hp)(Q:AV->Hp->Prop)
def qrP(l:List UInt8)(a:Nat)(H:Hp)(fr:List AV)(H':Hp):Prop:=H'=H/\∃n:Nat,a+n<=l.length/\((l.drop a).take n).all qag=true/\∃x:Nat->AV,fr=[.str l,.int .i64 (a+n:Nat),x 2,x 3,x 4,x 5,x 6,x 7,x 8,x 9,x 10,x 11,x 12,x 13,x 14,x 15,x 16,x 17]
theorem qnk(l:List UInt8)(a:Nat)(hl:l.length<=cap)(ha:a<=l.length)(hQ:Q (.int .i64 (a+run qag (l.drop a):Nat)) H):PC Tryz.prog E 169 [.str l,.int .i64 a] H Q:=by
 simp only[cap]at hl;refine qac Tryz.func169 rfl [] [] (by kernel_rfl) (fun hB=>?_);have fin:∀n:Nat,run qag (l.drop a)=n->Q (.int .i64 (a+n:Nat)) H:=fun n hn=>hn▸hQ;simp[Tryz.ntmps169,Tryz.results169,List.replicate_succ];refine qaB (qrP l a H) (fun fr _=>l.length-(ai (aget fr 1)).toNat) ⟨rfl,0,by omega,rfl,friz⟩ ?_;rintro fr H' ⟨rfl,n,hn,hall,x,rfl⟩;obtain⟨i,hi⟩:∃i,i=a+n:=⟨_,rfl⟩
 rw[<-hi]at hn⊢;have hw:IntKind.i64.wrap ((i:Int)+1)=i+1:=wiz;by_cases h:i<l.length
 ·obtain⟨b,hb⟩:∃b,l[i]? =some b:=⟨_,zqD h⟩
  have hb2:(l.drop a)[n]? =some b:=by rw[zqN,<-hi];exact hb
  have hat:=qap hb;simp[h,hat];refine qa1 E _ _ b ?_;cases hf:qag b
  ·simp[hf];have:=fin n (qbl qag _ n hall (by rw[zqI];omega) (fun c hc=>by rw[hb2]at hc;cases hc;exact hf));rw[<-hi]at this;exact aQz hB (h6:=this)
  ·simp[hf,hw];exact Klz ⟨rfl,n+1,by omega,by rw[qbV qag (l.drop a) n b hb2,hall,hf];rfl,qal (by simp;omega)⟩
 ·simp[h];have:=fin n (qbl qag _ n hall (by rw[zqI];omega) (fun c hc=>by rw[zqN]at hc;have:=(zqC.1 hc).1;omega));rw[<-hi]at this;exact aQz hB (h6:=this)
def qlK(p:UInt8->Bool)(l:List UInt8)(a:Nat)(H:Hp)(fr:List AV)(H':Hp):Prop:=H'=H/\∃n:Nat,a+n<=l.length/\((l.drop a).take n).all p=true/\∃x:Nat->AV,fr=[.str l,.int .i64 a,x 2,x 3,x 4,.int .i64 n,x 6,x 7,x 8,x 9,x 10,x 11,x 12,x 13,x 14,x 15,x 16,x 17,x 18,x 19,x 20,x 21,x 22]
theorem qmY(l:List UInt8)(a:Nat)(hl:l.length<=cap)(ha:a<=l.length)(hQ:Q (.int .i64 (run qao (l.drop a):Nat)) H):PC Tryz.prog E 170 [.str l,.int .i64 a] H Q:=by
 simp only[cap]at hl;refine qac Tryz.func170 rfl [] [] (by kernel_rfl) (fun hB=>?_);have fin:∀n:Nat,run qao (l.drop a)=n->Q (.int .i64 n) H:=fun n hn=>hn▸hQ;simp[Tryz.ntmps170,Tryz.results170,List.replicate_succ];refine qaB (qlK qao l a H) (fun fr _=>l.length-(ai (aget fr 5)).toNat) ⟨rfl,0,by omega,rfl,friz⟩ ?_;rintro fr H' ⟨rfl,n,hn,hall,x,rfl⟩;obtain⟨i,hi⟩:∃i,i=a+n:=⟨_,rfl⟩
 have hw0:IntKind.i64.wrap ((a:Int)+n)=(i:Int):=by rw[qah (by omega) (by omega)];omega
 have hw:IntKind.i64.wrap ((n:Int)+1)=n+1:=wiz;by_cases h:i<l.length
 ·obtain⟨b,hb⟩:∃b,l[i]? =some b:=⟨_,zqD h⟩
  have hb2:(l.drop a)[n]? =some b:=by rw[zqN,<-hi];exact hb
  have hat:=qap hb;simp[hw0,h,hat];refine qde E _ _ b ?_;cases hf:qao b
  ·simp[hf];refine aQz hB (h6:=(fin n (qbl qao _ n hall (by rw[zqI];omega) (fun c hc=>?_))));rw[hb2]at hc;cases hc;exact hf
  ·simp[hf,hw];exact Klz ⟨rfl,n+1,by omega,by rw[qbV qao (l.drop a) n b hb2,hall,hf];rfl,friz⟩
 ·simp[hw0,h];refine aQz hB (h6:=(fin n (qbl qao _ n hall (by rw[zqI];omega) (fun c hc=>?_))));rw[zqN]at hc;have:=(zqC.1 hc).1;omega
theorem qeN(b:UInt8)(hQ:Q (.bool (fcB b)) H):PC Tryz.prog E 101 [.int .u8 (b.toNat:Int)] H Q:=by
 refine qac Tryz.func101 rfl [] [] (by kernel_rfl) (fun hB=>?_);have fin:∀c:Bool,fcB b=c->Q (.bool c) H:=fun c hc=>hc▸hQ;have hb:=b.toNat_lt;have hi:=qgq b;by_cases h9:b.toNat=9
 ·have t1:((b.toNat:Int)==9)=true:=by simp;omega
  simp[Tryz.ntmps101,Tryz.results101,List.replicate_succ,t1];exact aQz hB (h6:=(fin _ (by rw[hi];simp[h9])))
 ·have t1:((b.toNat:Int)==9)=false:=by simp;omega
  by_cases h32:32<=b.toNat
  ·have t2:(32:Int)<=b.toNat:=by omega
   by_cases h127:b.toNat=127
   ·have t3:((b.toNat:Int) !=127)=false:=by simp;omega
    simp[Tryz.ntmps101,Tryz.results101,List.replicate_succ,t1,t2,t3];exact aQz hB (h6:=(fin _ (by rw[hi];simp[h127])))
   ·have t3:((b.toNat:Int) !=127)=true:=by simp;omega
    simp[Tryz.ntmps101,Tryz.results101,List.replicate_succ,t1,t2,t3];exact aQz hB (h6:=(fin _ (by rw[hi];simp[h127,h32])))
  ·have t2:¬(32:Int)<=b.toNat:=by omega
   simp[Tryz.ntmps101,Tryz.results101,List.replicate_succ,t1,t2];exact aQz hB (h6:=(fin _ (by rw[hi];simp[h9,h32])))
def quInv(l:List UInt8)(H:Hp)(fr:List AV)(H':Hp):Prop:=H'=H/\∃(k:Nat) (acc:List UInt8),1<=k/\k<=l.length/\qdv l acc k/\∃x:Nat->AV,fr=[.str l,x 1,x 2,.int .i64 k,x 4,x 5,x 6,x 7,x 8,x 9,x 10,x 11,x 12,x 13,x 14,x 15,x 16,x 17,x 18,x 19,x 20,x 21,x 22,x 23,x 24,x 25,x 26,x 27,x 28,x 29,x 30]
theorem qiD(l:List UInt8)(hl:l.length<=35184372088832)(H0:l[0]? =some 34)(hQ:Q (.int .i64 (qaQ l).2.1) H):PC Tryz.prog E 162 [.str l] H Q:=by
 refine qac Tryz.func162 rfl [] [] (by kernel_rfl) (fun hB=>?_);have bad:qaQ l=([],0,13)->Q (.int .i64 0) H:=fun h=>by rw[h]at hQ;exact hQ
 have hl0:=(zqC.1 H0).1;simp[Tryz.ntmps162,Tryz.results162,List.replicate_succ];refine qaB (quInv l H) (fun fr _=>l.length-(ai (aget fr 3)).toNat) ⟨rfl,1,[],by omega,hl0,qd4 l,friz⟩ ?_;rintro fr H' ⟨rfl,k,acc,hk1,hk,hu,x,rfl⟩;have hw:IntKind.i64.wrap ((k:Int)+1)=k+1:=wiz;by_cases h:k<l.length
 ·obtain⟨b,hb⟩:∃b,l[k]? =some b:=⟨_,zqD h⟩
  have hat:=qap hb;by_cases b34:b.toNat=34
  ·have hx34:b=34:=UInt8.toNat_inj.1 b34;have t1:((b.toNat:Int)==34)=true:=by simp;omega
   have ha:=qfU hu hk1 (by rw[hb,hx34]) H0;rw[ha]at hQ;simp[h,hat,t1,hw];exact aQz hB (h6:=hQ)
  ·have t1:((b.toNat:Int)==34)=false:=by simp;omega
   by_cases b92:b.toNat=92
   ·have hx92:b=92:=UInt8.toNat_inj.1 b92;have t2:((b.toNat:Int)==92)=true:=by simp;omega
    have hb':l[k]? =some 92:=by rw[hb,hx92]
    by_cases h2:k+1<l.length
    ·obtain⟨d,hd⟩:∃d,l[k+1]? =some d:=⟨_,zqD h2⟩
     have hat2:lat l (k+1)=some d:=qap hd;have htn:((k:Int)+1).toNat=k+1:=by omega
     have hge:(((k:Int)+1)==(l.length:Int))=false:=by rw[beq_eq_false_iff_ne];omega
     have h0k:(0:Int)<=(k:Int)+1:=by omega
     have hw2:IntKind.i64.wrap ((k:Int)+1+1)=k+2:=wiz;simp[h,hat,t1,t2,hw,hge,hat2,h0k,htn];refine qeN E _ _ d ?_;cases hf:fcB d
     ·simp[hf];exact aQz hB (h6:=(bad (qb7 hu (qfq hb' hd hf) H0)))
     ·simp[hf,hw2];exact Klz ⟨rfl,k+2,acc++[d],by omega,by omega,qfT hu hk1 hb' hd hf,friz⟩
    ·have hge:(((k:Int)+1)==(l.length:Int))=true:=by rw[beq_iff_eq];omega
     simp[h,hat,t1,t2,hw,hge];exact aQz hB (h6:=(bad (qb7 hu (qen hb' (by omega)) H0)))
   ·have t2:((b.toNat:Int)==92)=false:=by simp;omega
    have ne1:b≠34:=by rintro rfl;exact b34 rfl
    have ne2:b≠92:=by rintro rfl;exact b92 rfl
    simp[h,hat,t1,t2];refine qeN E _ _ b ?_;cases hf:fcB b
    ·simp[hf];exact aQz hB (h6:=(bad (qb7 hu (qd2 hb ne1 ne2 hf) H0)))
    ·simp[hf,hat,hw];exact Klz ⟨rfl,k+1,acc++[b],by omega,by omega,qd5 hu hk1 hb ne1 ne2 hf,friz⟩
 ·simp[h];exact aQz hB (h6:=(bad (qb7 hu (qfr (by omega)) H0)))
theorem qe8{l acc x:List UInt8}{k n:Nat}(hu:qdv l acc k)(hk:1<=k)(h0:l[0]? =some 34)(hun:unquote l=some (x,n)):∃y m,unq (l.drop k)=some (y,m)/\x=acc++y/\m+k=n/\y.length+1<=m:=by
 unfold qdv at hu;rw[show l=34::l.drop 1 from qar l 0 34 h0,unquote,if_pos rfl]at hun;rw[hu]at hun;cases hq:unq (l.drop k)with
 |none=>rw[hq]at hun;cases hun
 |some p=>
  rw[hq]at hun;simp at hun;obtain⟨rfl,rfl⟩:=hun;have:=qkz _ (l.drop k) p.1 p.2 (Nat.le_refl _) hq;exact⟨p.1,p.2,rfl,rfl,by omega,this.2.2⟩
def saInv(l:List UInt8)(n:Nat)(H:Hp)(fr:List AV)(H':Hp):Prop:=H'=H/\∃(k:Nat) (acc:List UInt8) (z:AV),1<=k/\k+1<=n/\acc.length<=k/\qdv l acc k/\(z= .sl true 1 (bts acc))/\∃x:Nat->AV,fr=[.str l,.int .i64 n,x 2,x 3,x 4,z,.int .i64 k,x 7,x 8,x 9,x 10,x 11,x 12,x 13,x 14,x 15,x 16,x 17,x 18,x 19,x 20,x 21,x 22,x 23,x 24,x 25,x 26]
theorem qrG(l x:List UInt8)(n:Nat)(hl:l.length<=35184372088832)(H0:l[0]? =some 34)(hun:unquote l=some (x,n))(hQ:Q (.str x) H):PC Tryz.prog E 171 [.str l,.int .i64 n] H Q:=by
 refine qac Tryz.func171 rfl [19] [] (by kernel_rfl) (fun hB=>?_);have hle:=qbB hun;have hw1:IntKind.i64.wrap ((n:Int)-1)=n-1:=wiz;simp[Tryz.ntmps171,Tryz.results171,List.replicate_succ];refine qd3 5 1 (by rfl) ?_;simp only[List.set_cons_succ,List.set_cons_zero];refine qaB (saInv l n H) (fun fr _=>n-(ai (aget fr 6)).toNat) ⟨rfl,1,[],_,by omega,by omega,by simp,qd4 l,rfl,qal (by simp[bts])⟩ ?_;rintro fr H' ⟨rfl,k,acc,z,hk1,hk,hacc,hu,rfl,y,rfl⟩;obtain⟨r,m,hr,hx,hmk,hrm⟩:=qe8 hu hk1 H0 hun;have hm1:acc.length+1<=maxLen/\acc.length+1<=140737488355328:=by unfold maxLen;omega
 have hw:IntKind.i64.wrap ((k:Int)+1)=k+1:=wiz;by_cases h:k+1<n
 ·have h':(k:Int)<(n:Int)-1:=by omega
  have hkl:k<l.length:=by omega
  obtain⟨b,hb⟩:∃b,l[k]? =some b:=⟨_,zqD hkl⟩
  have hat:=qap hb;have hd:=qar l k b hb;rw[hd]at hr
  have b34:b≠34:=by
   rintro rfl;rw[show unq (34::l.drop (k+1))=some ([],1)by unfold unq;rw[if_pos rfl]]at hr;cases hr;omega
  by_cases b92:b=92
  ·subst b92;have t2:(((92:UInt8).toNat:Int)==92)=true:=rfl;have h2:k+1<l.length:=by omega
   obtain⟨d,hdd⟩:∃d,l[k+1]? =some d:=⟨_,zqD h2⟩
   have hat2:lat l (k+1)=some d:=qap hdd;have htn:((k:Int)+1).toNat=k+1:=by omega
   have h0k:(0:Int)<=(k:Int)+1:=by omega
   have hw2:IntKind.i64.wrap ((k:Int)+1+1)=k+2:=wiz
   have hf:fcB d=true:=by
    rw[qar l (k+1) d hdd,qhA]at hr;cases hc:fcB d
    ·rw[hc]at hr;simp at hr
    ·rfl
   have hu2:=qfT hu hk1 hb hdd hf;obtain⟨r2,m2,_,_,hmk2,hrm2⟩:=qe8 hu2 (by omega) H0 hun;have hsn:bts acc++[[AV.int .u8 (d.toNat:Int)]]=bts (acc++[d]):=qck acc d;have hat':lat l k=some 92:=hat;simp[hw1,h',hat',hw,hat2,h0k,htn,hm1,hsn,hw2];exact Klz ⟨rfl,k+2,acc++[d],_,by omega,by omega,by simp;omega,hu2,rfl,friz⟩
  ·have t2:((b.toNat:Int)==92)=false:=qcP b 92 (by decide) b92
   have hf:fcB b=true:=by
    rw[qfS _ _ b34 b92]at hr;cases hc:fcB b
    ·rw[hc]at hr;simp at hr
    ·rfl
   have hu2:=qd5 hu hk1 hb b34 b92 hf;obtain⟨r2,m2,_,_,hmk2,hrm2⟩:=qe8 hu2 (by omega) H0 hun;simp[hw1,h',hat,t2,hw,hm1,qck];exact Klz ⟨rfl,k+1,acc++[b],_,by omega,by omega,by simp;omega,hu2,rfl,friz⟩
 ·have hn:n=k+1:=by omega
  have hr0:r=[]:=List.length_eq_zero_iff.1 (by omega);have h':¬(k:Int)<(n:Int)-1:=by omega
  have hxa:x=acc:=by rw[hx,hr0,List.append_nil]
  have hml:acc.length<=maxLen:=by unfold maxLen;omega
  rw[hxa]at hQ;simp[hw1,h',hml];exact aQz hB (h6:=hQ)
end
section
variable (E:Env)(H:Hp)(Q:AV->Hp->Prop)
def qp8(l:List UInt8)(H:Hp)(fr:List AV)(H':Hp):Prop:=∃(J:Hp) (e:Nat) (out:List Par),H'=H++J/\e<=l.length/\out.length<=e/\qcX l out e/\∃x:Nat->AV,fr=[.str l,x 1,x 2,x 3,x 4,.sl true 3 (prs out),.int .i64 e,x 7,x 8,x 9,x 10,x 11,x 12,x 13,x 14,x 15,x 16,x 17,x 18,x 19,x 20,x 21,x 22,x 23,x 24,x 25,x 26,x 27,x 28,x 29,x 30,x 31,x 32,x 33,x 34,x 35,x 36,x 37,x 38,x 39,x 40,x 41,x 42,x 43,x 44,x 45,x 46,x 47,x 48,x 49,x 50,x 51,x 52,x 53,x 54,x 55,x 56,x 57,x 58,x 59,x 60,x 61,x 62,x 63,x 64,x 65,x 66,x 67,x 68,x 69,x 70,x 71,x 72,x 73,x 74,x 75,x 76,x 77,x 78,x 79,x 80,x 81,x 82,x 83,x 84,x 85,x 86,x 87,x 88,x 89,x 90,x 91,x 92]
theorem ql5(l:List UInt8)(hl:l.length<=8388608)(hQ:Q (.tup [.sl false 3 (prs (qba l).1),.int .i64 (qba l).2.1,.bool (decide ((qba l).2.2=0))]) H):PC Tryz.prog E 152 [.str l] H Q:=by
 refine qac Tryz.func152 rfl [89] [] (by kernel_rfl) (fun hB=>?_);simp[Tryz.ntmps152,Tryz.results152,List.replicate_succ];refine qd3 5 3 (by rfl) ?_;simp only[List.set_cons_succ,List.set_cons_zero];refine qaB (qp8 l H) (fun fr _=>l.length-(ai (aget fr 6)).toNat) ⟨[],0,[],by simp,by omega,by simp,qfv l,qal (by simp[prs])⟩ ?_;rintro fr H' ⟨J,e,out,rfl,he,hout,hp,x,rfl⟩;have hcap:l.length<=cap:=by simp only[cap];omega
 have hm:out.length+1<=maxLen/\(out.length+1)*40<=140737488355328:=by unfold maxLen;omega
 have bad:∀(fr:List AV) (J':Hp),qba l=([],0,15)->aget fr 2= .nil->aget fr 3= .int .i64 0->aget fr 4= .bool false->qbO Tryz.prog [ResultVar.tmp 2,ResultVar.tmp 3,ResultVar.tmp 4] H.length Q .ret fr (H++J'):=fun fr J' h0 h2 h3 h4=>by
  rw[h0]at hQ;exact qab hB (v0:= .tup [.nil,.int .i64 0,.bool false]) (by simp[h2,h3,h4]) (qc0 3 _ _ rfl rfl) (by simp) hQ
 simp;refine qnk E _ _ l e hcap he ?_;obtain⟨b,hb⟩:=exz (run qag (l.drop e));have hbl:=qbf qag (l.drop e);rw[zqI]at hbl;rw[hb]at hbl⊢;obtain⟨a,ha⟩:∃a,a=e+b:=⟨_,rfl⟩
 rw[<-ha]
 have hcase:l[a]? =some 59\/l[a]? ≠some 59:=by
  by_cases h:l[a]? =some 59
  ·exact .inl h
  ·exact .inr h
 rcases hcase with h59|h59
 ·have halt:=(zqC.1 h59).1;have t1':¬l.length<=a:=by omega
  have hat:=qap h59;obtain⟨a1,ha1⟩:∃a1,a1=a+1:=⟨_,rfl⟩
  have hw2:IntKind.i64.wrap ((a:Int)+1)=(a1:Int):=by rw[qah (by omega) (by omega)];omega
  simp[t1',hat,hw2];refine qnk E _ _ l a1 hcap (by omega) ?_;obtain⟨m,hmm⟩:=exz (run qag (l.drop a1));have hml:=qbf qag (l.drop a1);rw[zqI]at hml;rw[hmm]at hml⊢;obtain⟨a2,ha2⟩:∃a2,a2=a1+m:=⟨_,rfl⟩
  rw[<-ha2];simp;refine qmY E _ _ l a2 hcap (by omega) ?_;obtain⟨n,hn⟩:=exz (run qao (l.drop a2));have hnl:=qbf qao (l.drop a2);rw[zqI]at hnl;rw[hn]at hnl⊢;obtain⟨a3,ha3⟩:∃a3,a3=a2+n:=⟨_,rfl⟩
  have hw4:IntKind.i64.wrap ((a2:Int)+n)=(a3:Int):=by rw[qah (by omega) (by omega)];omega
  have x0:l[e+b]? =some 59:=by rw[<-ha];exact h59
  have x1:run qag (l.drop (e+b+1))=m:=by rw[<-ha,<-ha1];exact hmm
  have x2:run qao (l.drop (e+b+1+m))=n:=by rw[<-ha,<-ha1,<-ha2];exact hn
  have ee:e+b+1+m+n=a3:=by omega
  by_cases hz:n=0
  ·have hsk:=qgc hp hb x0 x1 x2 hz;rw[show e+b+1=a1 by omega]at hsk;simp[hz];exact Klz ⟨J,a1,out,rfl,by omega,by omega,hsk,friz⟩
  ·have t0:((n:Int)==0)=false:=by simp;omega
   have hnm:(l.drop a2).take (a3-a2)=(l.drop a2).take n:=by rw[show a3-a2=n by omega]
   have hle1:a2<=a3:=by omega
   have hle2:a3<=l.length:=by omega
   by_cases h61:l[a3]? =some 61
   ·have h3:=(zqC.1 h61).1;have hat2:=qap h61;obtain⟨a4,ha4⟩:∃a4,a4=a3+1:=⟨_,rfl⟩
    have hw5:IntKind.i64.wrap ((a3:Int)+1)=(a4:Int):=by rw[qah (by omega) (by omega)];omega
    have ha4l:a4<=l.length:=by omega
    have hdl:(l.drop a4).length<=cap:=by rw[zqI];simp only[cap];omega
    simp[t0,hw4,hle1,hle2,hnm,h3,hat2,hw5,ha4l];refine qmY E _ _ (l.drop a4) 0 hdl (by omega) ?_;rw[List.drop_zero];obtain⟨k0,hk0⟩:=exz (run qao (l.drop a4));have hkl:=qbf qao (l.drop a4);rw[zqI]at hkl;rw[hk0]at hkl⊢;by_cases hk:k0=0
    ·have hpv:pval qao (l.drop a4)=unquote (l.drop a4):=by unfold pval;rw[hk0,if_neg (by omega)]
     have hnb:unquote (l.drop a4)=none->qba l=([],0,15):=fun hv=>qg6 hp hb x0 x1 x2 hz (by rw[ee];exact h61) (by rw[ee,<-ha4,hpv];exact hv)
     have hc3:l.drop a4=[]\/(∃c,(l.drop a4)[0]? =some c/\c≠34)\/(l.drop a4)[0]? =some 34:=by
      cases hd:l.drop a4 with
      |nil=>exact .inl rfl
      |cons c r=>
       by_cases hc:c=34
       ·exact .inr (.inr (by rw[hc];rfl))
       ·exact .inr (.inl ⟨c,rfl,hc⟩)
     rcases hc3 with hd|⟨c,hc,hcn⟩|hc
     ·have hbad:=hnb (by rw[hd];rfl);have hlen0:l.length=a4:=by have:=congrArg List.length hd;rw[zqI]at this;simp at this;omega
      simp[hk,hd];exact bad _ _ hbad rfl rfl rfl
     ·have hbad:=hnb (by
       rw[show l.drop a4=c::(l.drop a4).drop 1 from qar _ 0 c hc,unquote,if_neg hcn])
      have hcl:=(zqC.1 hc).1;have hne:(l.drop a4==[])=false:=by rw[beq_eq_false_iff_ne];intro e;rw[e]at hcl;simp at hcl
      have hat0:lat (l.drop a4) 0=some c:=qap hc;have t34:((c.toNat:Int)==34)=false:=qcP c 34 (by decide) hcn;simp[hk,hne,hat0,t34,bne];exact bad _ _ hbad rfl rfl rfl
     ·have hcl:=(zqC.1 hc).1;have hne:(l.drop a4==[])=false:=by rw[beq_eq_false_iff_ne];intro e;rw[e]at hcl;simp at hcl
      have hat0:lat (l.drop a4) 0=some 34:=qap hc;simp[hk,hne,hat0];refine qiD E _ _ (l.drop a4) (by rw[zqI];omega) hc ?_;cases hv:unquote (l.drop a4)with
      |none=>
       have hva:qaQ (l.drop a4)=([],0,13):=by unfold qaQ;rw[hv]
       have hbad:=hnb hv;simp[hva];exact bad _ _ hbad rfl rfl rfl
      |some q=>
       obtain⟨y,k⟩:=q;have hva:qaQ (l.drop a4)=(y,(k:Int),0):=by unfold qaQ;rw[hv]
       have hk2:=qbB hv;rw[zqI]at hk2;have hvv:=qdB hp hb x0 x1 x2 hz (by rw[ee];exact h61) (x:=y) (k:=k) (by rw[ee,<-ha4,hpv];exact hv);have hk0':((k:Int)==0)=false:=by simp;omega
       obtain⟨a6,ha6⟩:∃a6,a6=a3+1+k:=⟨_,rfl⟩
       have hw7:IntKind.i64.wrap (1+(k:Int))=((1+k:Nat):Int):=by rw[qah (by omega) (by omega)];omega
       have hw8:IntKind.i64.wrap ((a3:Int)+((1+k:Nat):Int))=(a6:Int):=by rw[qah (by omega) (by omega)];omega
       rw[show e+b+1+m=a2 by omega,show a2+n+1+k=a6 by omega]at hvv;simp[hva,hk0'];refine qrG E _ _ (l.drop a4) y k (by rw[zqI];omega) hc hv ?_;simp[hw7,hw8,hm,-Int.natCast_add];exact Klz ⟨J++[[.str ((l.drop a2).take n),.str y,.bool true]],a6,_,by simp,by omega,by simp;omega,hvv,qal (by simp[prs,qeH])⟩
    ·have tk:(0:Int)<(k0:Int):=by omega
     have tk':0<k0:=by omega
     have hpv:pval qao (l.drop a4)=some ((l.drop a4).take k0,k0):=by unfold pval;rw[hk0,if_pos (by omega)]
     have hvv:=qdB hp hb x0 x1 x2 hz (by rw[ee];exact h61) (x:=(l.drop a4).take k0) (k:=k0) (by rw[ee,<-ha4];exact hpv);obtain⟨a5,ha5⟩:∃a5,a5=a3+1+k0:=⟨_,rfl⟩
     have hw7:IntKind.i64.wrap (1+(k0:Int))=((1+k0:Nat):Int):=by rw[qah (by omega) (by omega)];omega
     have hw8:IntKind.i64.wrap ((a3:Int)+((1+k0:Nat):Int))=(a5:Int):=by rw[qah (by omega) (by omega)];omega
     have hkd:k0<=l.length-a4:=by omega
     rw[show e+b+1+m=a2 by omega,show a2+n+1+k0=a5 by omega]at hvv;simp[tk',hkd,hw7,hw8,hm,-Int.natCast_add];exact Klz ⟨J++[[.str ((l.drop a2).take n),.str ((l.drop a4).take k0),.bool true]],a5,_,by simp,by omega,by simp;omega,hvv,qal (by simp[prs,qeH])⟩
   ·have hpl:=qfw hp hb x0 x1 x2 hz (by rw[ee];exact h61);rw[show e+b+1+m=a2 by omega,show a2+n=a3 by omega]at hpl
    have hcase:a3=l.length\/(a3<l.length/\∃c,l[a3]? =some c/\c.toNat≠61):=by
     by_cases h:a3<l.length
     ·obtain⟨c,hc⟩:∃b,l[a3]? =some b:=⟨_,zqD h⟩
      exact .inr ⟨h,c,hc,fun hh=>h61 (by rw[hc,UInt8.toNat_inj.1 (show c.toNat=(61:UInt8).toNat from hh)])⟩
     ·exact .inl (by omega)
    rcases hcase with hE3|⟨h,c,hc,hcn⟩
    ·have hnl3:¬a3<l.length:=by omega
     simp[t0,hw4,hle1,hle2,hnm,hnl3,hm];exact Klz ⟨J++[[.str ((l.drop a2).take n),.str [],.bool false]],a3,_,by simp,by omega,by simp;omega,hpl,qal (by simp[prs,qeH])⟩
    ·have t2:((c.toNat:Int)==61)=false:=by simp;omega
     have hat2:=qap hc;simp[t0,hw4,hle1,hle2,hnm,h,hat2,t2,hm];exact Klz ⟨J++[[.str ((l.drop a2).take n),.str [],.bool false]],a3,_,by simp,by omega,by simp;omega,hpl,qal (by simp[prs,qeH])⟩
 ·have hans:=qg5 hp hb (by rw[<-ha];exact h59);rw[hans]at hQ
  have hcase:a=l.length\/(a<l.length/\∃c,l[a]? =some c/\c.toNat≠59):=by
   by_cases h:a<l.length
   ·obtain⟨c,hc⟩:∃b,l[a]? =some b:=⟨_,zqD h⟩
    exact .inr ⟨h,c,hc,fun hh=>h59 (by rw[hc,UInt8.toNat_inj.1 (show c.toNat=(59:UInt8).toNat from hh)])⟩
   ·exact .inl (by omega)
  rcases hcase with rfl|⟨h,c,hc,hcn⟩
  ·simp;exact qab hB rfl (qaa _) (by simp) hQ
  ·have t1:¬l.length<=a:=by omega
   have t2:((c.toNat:Int) !=59)=true:=by simp;omega
   have hat:=qap hc;simp[t1,hat,t2];exact qab hB rfl (qaa _) (by simp) hQ
end
theorem qkZ(l:List UInt8)(c:UInt8)(i:Nat)(h:l[i]? =some c)(hn:∀j,j<i->l[j]? ≠some c):Lib.indexByte l c=i:=by
 have h1:=Lib.indexByte_ge l c;by_cases h0:Lib.indexByte l c= -1
 ·exact absurd h (Lib.indexByte_none h0 i)
 ·obtain⟨o,ho⟩:∃o:Nat,Lib.indexByte l c=o:=⟨(Lib.indexByte l c).toNat,by omega⟩
  obtain⟨g1,g2⟩:=Lib.indexByte_some ho;rw[ho];by_cases hlt:o<i
  ·exact absurd g1 (hn o hlt)
  ·by_cases hgt:i<o
   ·exact absurd h (g2 i hgt)
   ·omega
theorem qkY(l:List UInt8)(c:UInt8)(hn:∀j,j<l.length->l[j]? ≠some c):Lib.indexByte l c= -1:=by
 have h1:=Lib.indexByte_ge l c;by_cases h0:Lib.indexByte l c= -1
 ·exact h0
 ·obtain⟨o,ho⟩:∃o:Nat,Lib.indexByte l c=o:=⟨(Lib.indexByte l c).toNat,by omega⟩
  obtain⟨g1,g2⟩:=Lib.indexByte_some ho;exact absurd g1 (hn o (zqC.1 g1).1)
theorem qho(b:UInt8):(0<=dig b)=(qaS b=true):=by
 have h:=qcA b;have hl:=qht b;rw[h];simp only[decide_eq_true_eq,eq_iff_iff];omega
theorem qg8(l:List UInt8)(h:l.all qaS=true):qaT 16 l=true:=by
 unfold qaT;rw[List.all_eq_true]at h⊢;intro b hb;have:=h b hb;rw[qcA]at this;exact this
section
variable (E:Env)(H:Hp)(Q:AV->Hp->Prop)
def hxInv(c:UInt8)(H:Hp)(fr:List AV)(H':Hp):Prop:=H'=H/\∃i:Nat,i<=16/\(∀j,j<i->digs[j]? ≠some (lowB c))/\∃x:Nat->AV,fr=[.int .u8 (c.toNat:Int),x 1,x 2,.str digs,.int .i64 i,x 5,x 6,x 7,x 8,x 9,x 10,x 11,x 12,x 13,x 14,x 15,x 16,x 17,x 18,x 19]
theorem qj8(c:UInt8)(hQ:Q (.int .i64 (dig c)) H):PC Tryz.prog E 151 [.int .u8 (c.toNat:Int)] H Q:=by
 refine qac Tryz.func151 rfl [] [] (by kernel_rfl) (fun hB=>?_);have fin:∀z:Int,dig c=z->Q (.int .i64 z) H:=fun z hz=>hz▸hQ;simp[Tryz.ntmps151,Tryz.results151,List.replicate_succ];refine qaB (hxInv c H) (fun fr _=>16-(ai (aget fr 4)).toNat) ⟨rfl,0,by omega,(fun j hj=>by omega),qal (by simp[digs])⟩ ?_;rintro fr H' ⟨rfl,i,hi,hno,x,rfl⟩;have hlen:digs.length=16:=rfl;by_cases h:i<16
 ·obtain⟨d,hd⟩:∃d,digs[i]? =some d:=⟨_,zqD (by rw[hlen];exact h)⟩
  have h16:(i:Int)<16:=by omega
  have hw:IntKind.i64.wrap ((i:Int)+1)=i+1:=wiz;have hbt:[[AV.int .u8 (c.toNat:Int)]]=bts [c]:=by simp[bts]
  have t1:((i:Int)+1).toNat=i+1:=by omega
  have t2:(0:Int)<=i+1:=by omega
  have t3:(digs.drop i).take 1=[d]:=by rw[qar digs i d hd];rfl
  have t4:i+1<=16:=by omega
  simp[h16,hw,hbt,t1,t2,t3,t4,hlen];refine qb8 E _ _ [c] (by simp[cap]) ?_;have hlow:low [c]=[lowB c]:=rfl;rw[hlow];by_cases he:lowB c=d
  ·have t5:([lowB c]==[d])=true:=by rw[he];simp
   simp[t5,t3,t4,hlen,h16,hw,t1,t2];exact aQz hB (h6:=(fin i (qkZ digs (lowB c) i (by rw[hd,he]) hno)))
  ·have t5:([lowB c]==[d])=false:=by rw[beq_eq_false_iff_ne];intro hh;cases hh;exact he rfl
   simp[t5,t3,t4,hlen,h16,hw,t1,t2];refine Klz ⟨rfl,i+1,by omega,fun j hj=>?_,friz⟩;by_cases hji:j<i
   ·exact hno j hji
   ·obtain rfl:j=i:=by omega
    rw[hd];exact fun hh=>he (Option.some.inj hh).symm
 ·obtain rfl:i=16:=by omega
  simp;exact aQz hB (h6:=(fin (-1) (qkY digs (lowB c) (fun j hj=>hno j (by rw[hlen]at hj;exact hj)))))
def dszInv(l:List UInt8)(H:Hp)(fr:List AV)(H':Hp):Prop:=H'=H/\∃(k:Nat) (n:Int),k<=l.length/\(l.take k).all qaS=true/\0<=n/\n<=17592186044432/\(qbb 16 (l.take k)<=1099511627776->n=qbb 16 (l.take k))/\(1099511627776<qbb 16 (l.take k)->1099511627776<n)/\
 ∃x:Nat->AV,fr=[.str l,x 1,x 2,x 3,x 4,.int .i64 n,.int .i64 k,x 7,x 8,x 9,x 10,x 11,x 12,x 13,x 14,x 15,x 16,x 17,x 18,x 19,x 20,x 21,x 22,x 23,x 24,x 25,x 26,x 27,x 28,x 29,x 30,x 31,x 32,x 33,x 34,x 35,x 36,x 37,x 38,x 39,x 40,x 41,x 42,x 43,x 44,x 45,x 46,x 47,x 48,x 49,x 50,x 51,x 52,x 53,x 54,x 55,x 56,x 57,x 58,x 59,x 60,x 61]
theorem qp5(l:List UInt8)(hl:l.length<=cap)(hQ:Q (.tup [.int .i64 (qak l).1,.sl false 3 (prs (qak l).2.1),.int .i64 (qak l).2.2]) H):PC Tryz.prog E 132 [.str l] H Q:=by
 refine qac Tryz.func132 rfl [] [] (by kernel_rfl) (fun hB=>?_);have hl':=hl;simp only[cap]at hl'
 have bad:∀(fr:List AV) (e:Int),qak l=(0,[],e)->aget fr 2= .int .i64 0->aget fr 3= .nil->aget fr 4= .int .i64 e->qbO Tryz.prog [ResultVar.tmp 2,ResultVar.tmp 3,ResultVar.tmp 4] H.length Q .ret fr H:=fun fr e h0 h1 h2 h3=>by
  rw[h0]at hQ;exact qas hB (v0:= .tup [.int .i64 0,.nil,.int .i64 e]) (by simp[h1,h2,h3]) (qkS 3 _ _ rfl rfl) (by simp) hQ
 by_cases hbig:254<l.length
 ·have ha:qak l=(0,[],100):=by unfold qak;rw[if_pos (.inr hbig)]
  have hbig':(254:Int)<l.length:=by omega
  simp[Tryz.ntmps132,Tryz.results132,List.replicate_succ,hbig'];exact bad _ 100 ha rfl rfl rfl
 ·have hbig':¬(254:Int)<l.length:=by omega
  simp[Tryz.ntmps132,Tryz.results132,List.replicate_succ,hbig'];refine qaB (dszInv l H) (fun fr _=>l.length-(ai (aget fr 6)).toNat) ⟨rfl,0,0,by omega,by simp,by omega,by omega,fun _=>rfl,(fun h=>by simp[qbb]at h),friz⟩ ?_;rintro fr H' ⟨rfl,k,n,hk,hall,hn0,hn1,hs1,hs2,x,rfl⟩;have hw:IntKind.i64.wrap ((k:Int)+1)=k+1:=wiz
  have hcase:(∃b,l[k]? =some b/\qaS b=true)\/(∃b,l[k]? =some b/\qaS b=false)\/l.length<=k:=by
   cases hb:l[k]? with
   |none=>exact .inr (.inr (List.getElem?_eq_none_iff.1 hb))
   |some b=>
    cases hx:qaS b
    ·exact .inr (.inl ⟨b,rfl,hx⟩)
    ·exact .inl ⟨b,rfl,hx⟩
  rcases hcase with⟨b,hb,hx⟩|⟨b,hb,hx⟩|h
  ·have h:k<l.length:=(zqC.1 hb).1;have hat:=qap hb;have hd0:0<=dig b:=by rw[qho];exact hx
   have hd16:=(qht b).2;have hst:=qco 16 l k b hb;have hnn:=qbj 16 (by omega) (l.take k) (qg8 _ hall);simp[h,hat];refine qj8 E _ _ b ?_;by_cases hle:n<=1099511627776
   ·have hwm:IntKind.i64.wrap (16*n)=16*n:=wiz;have hwa:IntKind.i64.wrap (16*n+dig b)=16*n+dig b:=wiz;simp[hd0,hle,hwm,hat];refine qj8 E _ _ b ?_;simp[hwa,hw];refine Klz ⟨rfl,k+1,16*n+dig b,by omega,by rw[qbe qaS l k b hb,hall,hx];rfl,by omega,by omega,fun hh=>?_,fun hh=>?_,friz⟩
    ·rw[hst]at hh⊢;have:=hs1 (by omega);omega
    ·rw[hst]at hh;by_cases hh2:qbb 16 (l.take k)<=1099511627776
     ·have:=hs1 hh2;omega
     ·have:=hs2 (by omega);omega
   ·simp[hd0,hle,hw]
    have hbg:1099511627776<qbb 16 (l.take k):=by
     by_cases hh2:qbb 16 (l.take k)<=1099511627776
     ·have:=hs1 hh2;omega
     ·omega
    refine Klz ⟨rfl,k+1,n,by omega,by rw[qbe qaS l k b hb,hall,hx];rfl,hn0,hn1,fun hh=>?_,fun _=>by omega,friz⟩;rw[hst]at hh;omega
  case' inr.inl=>
   have h:k<l.length:=(zqC.1 hb).1;have hat:=qap hb;have hd0:¬0<=dig b:=by rw[qho,hx];simp
   have hr:run qaS l=k:=qbl qaS l k hall hk (fun c hc=>by rw[hb]at hc;cases hc;exact hx);simp[h,hat];refine qj8 E _ _ b ?_;simp[hd0,hk]
  case' inr.inr=>
   have h':¬k<l.length:=by omega
   have hr:run qaS l=k:=qbl qaS l k hall hk (fun c hc=>by have:=(zqC.1 hc).1;omega);simp[h',hk]
  all_goals
   obtain⟨hpl,m,hm,hml⟩:=qiJ (l.drop k);rw[zqI]at hml hpl;refine ql5 E _ _ (l.drop k) (by rw[zqI];omega) ?_;rw[hm];have hw2:IntKind.i64.wrap ((k:Int)+m)=((k+m:Nat):Int):=by rw[qah (by omega) (by omega)];omega
   by_cases hn0k:k=0
   ·have ha:qak l=(0,[],100):=by unfold qak;rw[if_pos (.inl (by rw[hr];exact hn0k))]
    simp[hn0k];exact bad _ 100 ha rfl rfl rfl
   ·have e0:((k:Int)==0)=false:=by simp;omega
    have ha0:qak l=if(qba (l.drop k)).2.2≠0\/qaH (l.drop (k+m))≠[]then(0,[],100)else if(qae 16 1099511627776 (l.take k)).2≠0 then(0,[],102)else((qae 16 1099511627776 (l.take k)).1,(qba (l.drop k)).1,0):=by
     unfold qak;rw[hr,if_neg (by omega),hm,Int.toNat_natCast]
    have hna:qae 16 1099511627776 (l.take k)=if 1099511627776<qbb 16 (l.take k)then(0,12)else(qbb 16 (l.take k),0):=by
     have hne:l.take k≠[]:=by intro e;have:=congrArg List.length e;rw[zqJ]at this;have h3:min k l.length=0:=this;omega
     unfold qae;rw[if_neg hne,if_neg (by rw[qg8 _ hall];simp)];by_cases hg:1099511627776<qbb 16 (l.take k)
     ·rw[if_pos (.inr hg),if_pos hg]
     ·rw[if_neg (by omega),if_neg hg]
    by_cases he:(qba (l.drop k)).2.2=0
    ·have hnm:k+m<=l.length:=by omega
     simp[e0,he,hw2,hnm,-Int.natCast_add];refine qcv E _ _ (l.drop (k+m)) (by rw[zqI];simp only[cap];omega) ?_;by_cases ht:qaH (l.drop (k+m))=[]
     ·by_cases hg:1099511627776<n
      ·have hgg:1099511627776<qbb 16 (l.take k):=by
        by_cases hh2:qbb 16 (l.take k)<=1099511627776
        ·have:=hs1 hh2;omega
        ·omega
       have ha:qak l=(0,[],102):=by rw[ha0,if_neg (by simp[he,ht]),hna,if_pos hgg];rfl
       simp[ht,hg];exact bad _ 102 ha rfl rfl rfl
      ·have hgg:¬1099511627776<qbb 16 (l.take k):=fun hh=>hg (hs2 hh);have hnn:=hs1 (by omega);have ha:qak l=(n,(qba (l.drop k)).1,0):=by rw[ha0,if_neg (by simp[he,ht]),hna,if_neg hgg,hnn];rfl
       rw[ha]at hQ;simp[ht,hg];exact qas hB (v0:= .tup [.int .i64 n,.sl false 3 (prs (qba (l.drop k)).1),.int .i64 0]) (by simp) (qaa _) (by simp[qkk,-qoq]) hQ
     ·have ht2:(qaH (l.drop (k+m)) !=[])=true:=by simpa using ht
      have ha:qak l=(0,[],100):=by rw[ha0,if_pos (.inr ht)]
      simp[ht2];exact bad _ 100 ha rfl rfl rfl
    ·have ha:qak l=(0,[],100):=by rw[ha0,if_pos (.inl he)]
     simp[e0,he];exact bad _ 100 ha rfl rfl rfl
end
end Go.Proofs.YtnnhdehmlkkfjaaGreatDoor
namespace Go.Proofs.YtnnhdehmlkkfjaaGreatDoor
open Go Go.RowKit
inductive NilD:AV->AV->Prop
 |same (x):NilD x x
 |nil (k):NilD .nil (.sl false k [])
 |agg (l m:List AV) (hl:l.length=m.length) (h:∀(i:Nat) x y,l[i]? =some x->m[i]? =some y->NilD x y):NilD (.agg l) (.agg m)
 |tup (l m:List AV) (hl:l.length=m.length) (h:∀(i:Nat) x y,l[i]? =some x->m[i]? =some y->NilD x y):NilD (.tup l) (.tup m)
 |sl (k:Nat) (l m:List (List AV)) (hl:l.length=m.length) (hk:∀(i:Nat) r s,l[i]? =some r->m[i]? =some s->r.length=s.length) (h:∀(i j:Nat) r s x y,l[i]? =some r->m[i]? =some s->r[j]? =some x->s[j]? =some y->NilD x y):NilD (.sl false k l) (.sl false k m)
def NilL:List AV->List AV->Prop
 |[],[]=>True
 |x::l,y::m=>NilD x y/\NilL l m
 |_,_=>False
theorem NilL.at:∀{l m:List AV},NilL l m->l.length=m.length/\∀(i:Nat) x y,l[i]? =some x->m[i]? =some y->NilD x y
 |[],[],_=>⟨rfl,fun i x y hx=>by simp at hx⟩
 |x::l,y::m,h=>by
  obtain⟨h1,h2⟩:=NilL.at h.2;refine⟨by simp[h1],fun i a b ha hb=>?_⟩;cases i with
  |zero=>simp at ha hb;subst ha;subst hb;exact h.1
  |succ i=>exact h2 i a b (by simpa using ha) (by simpa using hb)
 |[],_::_,h=>h.elim
 |_::_,[],h=>h.elim
@[simp] theorem NilL_nil:NilL [] []=True:=rfl
@[simp] theorem NilL_cons (x y:AV) (l m:List AV):NilL (x::l) (y::m)=(NilD x y/\NilL l m):=rfl
@[simp] theorem NilD_same (x:AV):NilD x x=True:=eq_true (.same x)
@[simp] theorem NilD_nil (k:Nat):NilD .nil (.sl false k [])=True:=eq_true (.nil k)
theorem qa7{l m:List AV}(h:NilL l m):NilD (.agg l) (.agg m):= .agg l m h.at.1 h.at.2
theorem qdZ{l m:List AV}(h:NilL l m):NilD (.tup l) (.tup m):= .tup l m h.at.1 h.at.2
theorem NilD.one{x y:AV}(h:NilD x y):x.one=true->y.one=true:=by
 cases h with
 |same=>exact id
 |nil=>exact fun _=>rfl
 |agg=>intro h;simp[AV.one]at h
 |tup=>intro h;simp[AV.one]at h
 |sl=>exact fun _=>rfl
theorem NilD.free{x y:AV}(h:NilD x y):x.free=true->y.free=true:=by
 cases h with
 |same=>exact id
 |nil=>exact fun _=>rfl
 |agg=>exact fun _=>rfl
 |tup=>exact fun _=>rfl
 |sl=>exact fun _=>rfl
theorem NilD.own{x y:AV}(h:NilD x y)(v:Value)(g:Nat):own0 y v=some g->own0 x v=some g:=by
 cases h with
 |same=>exact id
 |nil=>intro e;cases e
 |agg=>intro e;cases e
 |tup=>intro e;cases e
 |sl=>intro e;cases e
theorem NilD.dis{x y:AV}(h:NilD x y):x.dis.free=true->y.dis.free=true:=by
 cases h with
 |same=>exact id
 |nil=>exact fun _=>rfl
 |agg=>exact fun _=>rfl
 |tup=>exact fun _=>rfl
 |sl=>exact fun _=>rfl
theorem qb0{α β:Type}{l:List α}{m:List β}(h:l.length=m.length){i:Nat}{y:β}(hy:m[i]? =some y):∃x,l[i]? =some x:=by
 have:=(zqC.1 hy).1;exact⟨l[i],zqD (by omega)⟩
theorem NilD.bnd{N:Nat}{x y:AV}(h:NilD x y):Bnd N x->Bnd N y:=by
 induction h with
 |same=>exact id
 |nil k=>exact fun _=> .sl _ _ _ (by simp)
 |agg l m hl h ih=>
  intro hb;cases hb with
  |agg _ hb=>
   refine .agg _ fun y hy=>?_;obtain⟨i,hi⟩:=List.getElem?_of_mem hy;obtain⟨x,hx⟩:=qb0 hl hi;exact ih i x y hx hi (hb x (qam hx))
 |tup l m hl h ih=>
  intro hb;cases hb with
  |tup _ hb=>
   refine .tup _ fun y hy=>?_;obtain⟨i,hi⟩:=List.getElem?_of_mem hy;obtain⟨x,hx⟩:=qb0 hl hi;exact ih i x y hx hi (hb x (qam hx))
 |sl k l m hl hk h ih=>
  intro hb;cases hb with
  |sl _ _ _ hb=>
   refine .sl _ _ _ fun s hs y hy=>?_;obtain⟨i,hi⟩:=List.getElem?_of_mem hs;obtain⟨j,hj⟩:=List.getElem?_of_mem hy;obtain⟨r,hr⟩:=qb0 hl hi;obtain⟨x,hx⟩:=qb0 (hk i r s hr hi) hj;exact ih i j r s x y hr hi hx hj (hb r (qam hr) x (qam hx))
theorem qi7:∀{l m:List (List AV)},l.length=m.length->(∀(i:Nat) (r s:List AV),l[i]? =some r->m[i]? =some s->r.length=s.length)->l.flatten.length=m.flatten.length/\
  ∀(t:Nat) x y,l.flatten[t]? =some x->m.flatten[t]? =some y->∃(i j:Nat) (r s:List AV),l[i]? =some r/\m[i]? =some s/\r[j]? =some x/\s[j]? =some y
 |[],[],_,_=>⟨rfl,fun t x y hx=>by simp at hx⟩
 |a::l,b::m,hl,hk=>by
  have hab:a.length=b.length:=hk 0 a b rfl rfl;obtain⟨h1,h2⟩:=qi7 (l:=l) (m:=m) (by simpa using hl) (fun i r s hr hs=>hk (i+1) r s (by simpa using hr) (by simpa using hs));refine⟨by simp[h1,hab],fun t x y hx hy=>?_⟩;rw[List.flatten_cons]at hx hy;by_cases ht:t<a.length
  ·rw[zqA ht]at hx;rw[zqA (by omega)]at hy;exact⟨0,t,a,b,rfl,rfl,hx,hy⟩
  ·rw[zqB (by omega)]at hx hy;rw[<-hab]at hy;obtain⟨i,j,r,s,e1,e2,e3,e4⟩:=h2 _ x y hx hy;exact⟨i+1,j,r,s,by simpa using e1,by simpa using e2,e3,e4⟩
 |[],_::_,h,_=>by simp at h
 |_::_,[],h,_=>by simp at h
theorem NilD.rel{w:World}{β:Nat->Nat}{Rd:Nat->Nat->Prop}{x y:AV}(h:NilD x y):∀{v:Value},Rel w β Rd x v->Rel w β Rd y v:=by
 induction h with
 |same=>exact id
 |nil k=>
  intro v hr;obtain rfl:=qhI hr;exact .sl false k [] _ [] (by simp) (OSl.nil w k).toR (fun g o n c hv=>by cases hv) (fun h=>by cases h) (by simp) (fun j x u hx=>by simp at hx)
 |agg l m hl h ih=>
  intro v hr;cases hr with
  |agg _ vs hs hf hr=>
   refine .agg _ vs (by omega) (fun y hy=>?_) (fun j y u hy hu=>?_)
   ·obtain⟨i,hi⟩:=List.getElem?_of_mem hy;obtain⟨x,hx⟩:=qb0 hl hi;obtain⟨f1,f2⟩:=hf x (qam hx);exact⟨(h i x y hx hi).free f1,(h i x y hx hi).one f2⟩
   ·obtain⟨x,hx⟩:=qb0 hl hy;exact ih j x y hx hy (hr j x u hx hu)
 |tup l m hl h ih=>
  intro v hr;cases hr with
  |tup _ vs hs hf hr=>
   refine .tup _ vs (by omega) (fun y hy=>?_) (fun j y u hy hu=>?_)
   ·obtain⟨i,hi⟩:=List.getElem?_of_mem hy;obtain⟨x,hx⟩:=qb0 hl hi;exact(h i x y hx hi).free (hf x (qam hx))
   ·obtain⟨x,hx⟩:=qb0 hl hy;exact ih j x y hx hy (hr j x u hx hu)
 |sl k l m hl hkl h ih=>
  intro v hr;cases hr with
  |sl _ _ _ _ xs hk hx hd ho hf hr=>
   obtain⟨hfl,hfp⟩:=qi7 hl hkl;refine .sl false k m v xs (fun s hs=>?_) (by rw[<-hl];exact hx) (fun g o n c hv j hj=>hd g o n c hv j (by rw[hl];exact hj)) (fun h=>by cases h) (fun s hs y hy=>?_) (fun t y u hy hu=>?_)
   ·obtain⟨i,hi⟩:=List.getElem?_of_mem hs;obtain⟨r,hr⟩:=qb0 hl hi;rw[<-hkl i r s hr hi];exact hk r (qam hr)
   ·obtain⟨i,hi⟩:=List.getElem?_of_mem hs;obtain⟨j,hj⟩:=List.getElem?_of_mem hy;obtain⟨r,hr⟩:=qb0 hl hi;obtain⟨x,hx⟩:=qb0 (hkl i r s hr hi) hj;obtain⟨f1,f2⟩:=hf r (qam hr) x (qam hx);have hn:=h i j r s x y hr hi hx hj;exact⟨hn.free f1,hn.one f2⟩
   ·obtain⟨x,hx⟩:=qb0 hfl hy;obtain⟨i,j,r,s,e1,e2,e3,e4⟩:=hfp t x y hx hy;exact ih i j r s x y e1 e2 e3 e4 (hr t x u hx hu)
theorem PC.nilD{P:Program}{E:Env}{f:FuncId}{args:List AV}{H:Hp}{Q:AV->Hp->Prop}(h:PC P E f args H (fun v H'=>∃v',NilD v v'/\Q v' H')):PC P E f args H Q:=
 ⟨h.1,fun w β Rd Ow cargs h1 h2 h3 h4=>(h.2 w β Rd Ow cargs h1 h2 h3 h4).mono fun e w' ⟨u,v,H',β',Rd',Ow',he,⟨v',hn,hQ⟩,hp⟩=>
  ⟨u,v',H',β',Rd',Ow',he,hQ,hn.rel hp.rel,hn.bnd hp.bnd,fun g hg=>hp.own g (hn.own u g hg),hn.dis hp.ne,hp.hr,hp.old,hp.len,hp.keep,hp.frame,hp.os,hp.tape,hp.output,hp.size⟩⟩
end Go.Proofs.YtnnhdehmlkkfjaaGreatDoor
