/- Part 8 of the texts below the law. -/
import Derived.Test.YtnnhdehmlkkfjaaGreatDoorPb7
import Derived.Lib.ItoaLen
import Derived.Stop.LaidErr
import Derived.WalkKit
import Derived.Defers
import Derived.Recover
import Derived.TacticsInMore
import Derived.Laws.EntriesVeiled
set_option maxRecDepth 100000
set_option maxHeartbeats 16000000
set_option linter.unusedVariables false
set_option linter.unnecessarySimpa false
set_option linter.unusedSimpArgs false
set_option linter.unusedSectionVars false
namespace Go.Proofs.YtnnhdehmlkkfjaaGreatDoor
open Go Go.RowKit Go.Proofs
section
variable (E:Env)(H:Hp)(Q:AV->Hp->Prop)
theorem qi5(s:ByteArray)(most:Int)(hs:s.size<=140737488351232)(hm1: -9223372036854775808<=most)(hm2:most<=9223372036854775807)(W:World):
  Calls Tryz.prog 138 #[.string s,.int .i64 most,.int .i64 10] W fun e w'=>e= .returned (.tuple #[.int .i64 (qah 10 most s.data.toList).1,.int .i64 (qah 10 most s.data.toList).2])/\Frm (fun _=>False) W w':=by
 obtain⟨q,hq⟩:=exz (most.tdiv 10)
 have hq1:0<=most->10*q<=most/\most<10*q+10:=fun h=>by
  rw[Int.tdiv_eq_ediv_of_nonneg h]at hq;omega
 have HQ1:=Lib.hid hq1;clear hq1
 go_enter Tryz.func138,Tryz.ntmps138
 by_cases he:s.data.toList=[]
 ·have hn:qah 10 most s.data.toList=(0,11):=by rw[qah,if_pos he]
  have he':s.toList.isEmpty=true:=by rw[qa2,he];rfl
  go_wp2
  go_ret2
  rw[hn];exact⟨rfl,Frm.refl _ _⟩
 ·have he':s.toList.isEmpty=false:=by rw[qa2];simpa using he
  have HE:=Lib.hid he;clear he
  go_wp2
  clear he'
  go_loopw [8,9,18] (fun n big i wr=>∃(k:Nat) (v:Int) (bg:Bool),k<=s.size/\i= .int .i64 k/\n= .int .i64 v/\big= .bool bg/\qbR 10 (s.data.toList.take k)=true/\bg=decide (most<0\/most<qcy 10 (s.data.toList.take k))/\(bg=false->v=qcy 10 (s.data.toList.take k))/\Frm (fun _=>False) W wr) (fun _ _ i _=>s.size-(intOf i).toNat)
  case atStart=>
   refine⟨0,0,decide (most<0),Nat.zero_le _,rfl,rfl,rfl,rfl,?_,fun _=>rfl,Frm.refl _ _⟩;have:qcy 10 (s.data.toList.take 0)=0:=rfl;rw[this];simp
  case round=>
   obtain⟨k,v,bg,hk,rfl,rfl,rfl,hok,hbg,hv,hf⟩:=hrel;have HF:=Lib.hid hf;have HOK:=Lib.hid hok;have hnn:=qbp 10 (by omega) _ hok;obtain⟨m,hm⟩:∃m,m=qcy 10 (s.data.toList.take k):=⟨_,rfl⟩
   rw[<-hm]at hbg hv hnn;have HM:=Lib.hid hm;clear hf hok hm;by_cases hlt:k<s.size
   ·obtain⟨x,hx⟩:∃x,s.data.toList[k]? =some x:=⟨_,zqD (by rw[qad];omega)⟩
    have HX:=Lib.hid hx;clear hx;have hstep:=qeE 10 _ _ _ HX.out;have hostep:=qdI 10 _ _ _ HX.out;rw[<-HM.out]at hstep;rw[HOK.out,Bool.true_and]at hostep;have HB:=Lib.hid hbg;have HV:=Lib.hid hv;have hx16:=qnb x;obtain⟨d,hd⟩:∃d,d=dig x:=⟨_,rfl⟩
    rw[<-hd]at hstep hostep hx16;have HS:=Lib.hid hstep;have HO:=Lib.hid hostep;clear hbg hv hstep hostep
    go_wp2_with fail
    refine(qg5 _ (Nat.le_trans (qdk _ _ _) hs) wr).mono ?_;rintro e w2 ⟨rfl,hf2⟩;have h1:tx (low (s.extract k (k+1)).data.toList)=⟨#[lowB x]⟩:=by rw[qfX s k x HX.out];rfl
    rw[h1];clear h1;have HF2:=Lib.hid (HF.out.trans hf2);clear hf2
    go_wp2_with fail
    refine(qbz _ _ w2).mono ?_;rintro e w3 ⟨rfl,rfl⟩
    have h2:Lib.indexByte (⟨#[48,49,50,51,52,53,54,55,56,57,97,98,99,100,101,102]⟩:ByteArray).data.toList ((((⟨#[lowB x]⟩:ByteArray)[0]'(by show 0<1;decide)).toNat:Int).toNat.toUInt8)=d:=by
     rw[hd];show Lib.indexByte digs (((lowB x).toNat:Int).toNat.toUInt8)=Lib.indexByte digs (lowB x);simp
    rw[h2];clear h2;have HD:=Lib.hid hd;clear hd
    have hbad:(d<0\/10<=d)->qah 10 most s.data.toList=(0,11):=fun h=>by
     rw[qah,if_neg HE.out,if_pos (qeD 10 _ _ _ HX.out (by rw[<-HD.out];omega))]
    have HBad:=Lib.hid hbad;clear hbad;by_cases hd0:d<0
    ·go_wp2
     go_ret2
     rw[HBad.out (.inl hd0)];exact⟨rfl,HF2.out⟩
    ·by_cases hd1:10<=d
     ·go_wp2
      go_ret2
      rw[HBad.out (.inr hd1)];exact⟨rfl,HF2.out⟩
     ·have HOK':Hid (qbR 10 (s.data.toList.take (k+1))=true):=HO.out.trans (decide_eq_true ⟨by omega,by omega⟩);cases bg with
      |true=>
       go_wp2
       go_roundw
       case rel=>
        refine⟨k+1,v,true,by omega,by go_num,rfl,rfl,HOK'.out,?_,(fun h=>by cases h),HF2.out⟩;have h1:=of_decide_eq_true HB.out.symm;rw[HS.out];exact(decide_eq_true (by omega)).symm
       case measure=>simp[intOf];omega
      |false=>
       have hv:=HV.out rfl;subst hv;have h1:=of_decide_eq_false HB.out.symm;have h1a:0<=most:=by omega
       have h1b:v<=most:=by omega
       have h1c:=(HQ1.out h1a).1;have h1d:=(HQ1.out h1a).2;clear h1;by_cases hA:q<v
       ·go_wp2
        go_roundw
        case rel=>
         refine⟨k+1,v,true,by omega,by go_num,rfl,rfl,HOK'.out,?_,(fun h=>by cases h),HF2.out⟩;rw[HS.out];exact(decide_eq_true (by omega)).symm
        case measure=>simp[intOf];omega
       ·by_cases hB:most-d<v*10
        ·go_wp2
         go_roundw
         case rel=>
          refine⟨k+1,v,true,by omega,by go_num,rfl,rfl,HOK'.out,?_,(fun h=>by cases h),HF2.out⟩;rw[HS.out];exact(decide_eq_true (by omega)).symm
         case measure=>simp[intOf];omega
        ·go_wp2
         go_roundw
         case rel=>
          refine⟨k+1,v*10+d,false,by omega,by go_num,by go_num,rfl,HOK'.out,?_,(fun _=>HS.out.symm),HF2.out⟩;rw[HS.out];exact(decide_eq_false (by omega)).symm
         case measure=>simp[intOf];omega
   ·obtain rfl:k=s.size:=by omega
    have ht:s.data.toList.take s.size=s.data.toList:=zqE (by rw[qad];omega);have hok:=HOK.out;have hm:=HM.out;rw[ht]at hok hm
    have HN:Hid (qah 10 most s.data.toList=if most<0\/most<m then(0,12)else(m,0)):=by
     show qah 10 most s.data.toList=_;rw[qah,if_neg HE.out,if_neg (by rw[hok];decide),<-hm]
    clear hok hm ht;cases bg with
    |true=>
     have h1:=of_decide_eq_true hbg.symm;rw[if_pos h1]at HN;clear hbg hv h1
     go_wp2
     go_ret2
     rw[HN.out];exact⟨rfl,HF.out⟩
    |false=>
     have h1:=of_decide_eq_false hbg.symm;have hv':=hv rfl;subst hv';rw[if_neg h1]at HN;clear hbg hv h1
     go_wp2
     go_ret2
     rw[HN.out];exact⟨rfl,HF.out⟩
theorem qk8(s:ByteArray)(most:Int)(hs:s.size<=140737488351232)(hm1: -9223372036854775808<=most)(hm2:most<=9223372036854775807)(W:World):
  Calls Tryz.prog 109 #[.string s,.int .i64 most] W fun e w'=>e= .returned (.tuple #[.int .i64 (qah 10 most s.data.toList).1,.int .i64 (qah 10 most s.data.toList).2])/\Frm (fun _=>False) W w':=by
 go_enter Tryz.func109,Tryz.ntmps109
 go_wp2_with fail
 refine(qi5 s most hs hm1 hm2 W).mono ?_;rintro e w1 ⟨rfl,hf⟩
 go_wp2
 go_ret2
 exact⟨rfl,hf⟩
theorem qb1(l:List UInt8)(most:Int)(hl:l.length<=cap)(hm1: -9223372036854775808<=most)(hm2:most<=9223372036854775807)(hQ:Q (.tup [.int .i64 (qah 10 most l).1,.int .i64 (qah 10 most l).2]) H):
  PC Tryz.prog E 109 [.str l,.int .i64 most] H Q:=by
 refine qao (v:= .tup [.int .i64 (qah 10 most l).1,.int .i64 (qah 10 most l).2]) (by kernel_rfl) (fun _=>True) (fun w hw=>trivial) (fun w β Rd cargs hS hsz hargs=>?_) (.tup _ (fun x hx=>by simp at hx;rcases hx with rfl|rfl<;>exact .int _ _)) rfl hQ;obtain⟨u,v,rfl,hu,hv⟩:=args2 hsz hargs;obtain⟨s,rfl,rfl,hs⟩:=qaq hu;obtain rfl:=qas hv;refine(qk8 s most (by rw[<-qad];exact hl) hm1 hm2 w).mono ?_;rintro e w' ⟨rfl,hf⟩;exact⟨_,rfl,hf,qjQ⟩
def qoV(l:List UInt8)(H:Hp)(fr:List AV)(H':Hp):Prop:=H'=H/\∃(f i:Nat) (out:List (List UInt8)),f<=i/\i<=l.length/\out.length<=i/\qeK l out f i/\∃x:Nat->AV,fr=[.str l,x 1,x 2,x 3,.sl true 1 (strs out),.int .i64 f,.int .i64 i,x 7,x 8,x 9,x 10,x 11,x 12,x 13,x 14,x 15,x 16,x 17,x 18,x 19,x 20,x 21,x 22,x 23,x 24,x 25,x 26,x 27,x 28,x 29,x 30,x 31,x 32,x 33,x 34,x 35,x 36,x 37,x 38,x 39,x 40,x 41,x 42,x 43,x 44,x 45,x 46,x 47,x 48,x 49,x 50,x 51,x 52,x 53,x 54,x 55,x 56,x 57,x 58,x 59,x 60,x 61,x 62,x 63,x 64,x 65,x 66,x 67,x 68,x 69,x 70,x 71,x 72,x 73]
def qoU(ps:List (List UInt8))(H:Hp)(fr:List AV)(H':Hp):Prop:=H'=H/\∃(i:Nat) (own:Bool),i<=ps.length/\∃x:Nat->AV,fr=[x 0,x 1,x 2,x 3,x 4,x 5,x 6,x 7,x 8,x 9,.sl true 1 (strs (qbA (ps.take i))),x 11,x 12,x 13,x 14,x 15,x 16,x 17,x 18,x 19,x 20,x 21,x 22,x 23,x 24,x 25,x 26,x 27,x 28,x 29,x 30,x 31,x 32,x 33,x 34,x 35,x 36,x 37,x 38,x 39,x 40,x 41,x 42,x 43,x 44,x 45,x 46,x 47,x 48,x 49,x 50,x 51,x 52,x 53,x 54,x 55,x 56,x 57,.sl own 1 (strs ps),.int .i64 ps.length,.int .i64 i,x 61,x 62,x 63,x 64,x 65,x 66,x 67,x 68,x 69,x 70,x 71,x 72,x 73]
theorem qqP(l:List UInt8)(hl:l.length<=4194304)(hQ:Q (.tup [.sl false 1 (strs (qcm l).1),.int .i64 (qcm l).2]) H):PC Tryz.prog E 137 [.str l] H Q:=by
 refine qab Tryz.func137 rfl [43,53,68] [] (by kernel_rfl) (fun hB=>?_);simp[Tryz.ntmps137,Tryz.results137,List.replicate_succ];refine qes 4 1 (by rfl) ?_;simp only[List.set_cons_succ,List.set_cons_zero];refine qaG (qoV l H) (fun fr _=>l.length-(ai (aget fr 6)).toNat) ⟨rfl,0,0,[],by omega,by omega,by simp,qf3 l,qal (by simp[strs])⟩ ?_;rintro fr H' ⟨rfl,f,i,out,hf,hi,hout,hc,x,rfl⟩;have hm:out.length+1<=maxLen/\(out.length+1)*16<=140737488355328:=by unfold maxLen;omega
 by_cases h:i<l.length
 ·have t1:((i:Int)==(l.length:Int))=false:=by simp;omega
  have hw:IntKind.i64.wrap ((i:Int)+1)=i+1:=wiz;obtain⟨b,hb⟩:∃b,l[i]? =some b:=⟨_,zqD h⟩
  have hat:=qaP hb;have hbn:=b.toNat_lt;by_cases b34:b.toNat=34
  ·have hx34:b=34:=UInt8.toNat_inj.1 b34;have hb':l[i]? =some 34:=by rw[hb,hx34]
   have t2:((b.toNat:Int)==34)=true:=by simp;omega
   have hd:(l.drop i).take (l.length-i)=l.drop i:=zqE (by rw[zqI];omega);simp[t1,hat,t2,hd,hi];refine qgp E _ _ (l.drop i) (by rw[zqI];omega) ?_;cases hu:unquote (l.drop i)with
   |none=>
    have ha:qaS (l.drop i)=([],0,13):=by unfold qaS;rw[hu]
    have hbad:=qjb (qit hc hf hb' hu);rw[hbad]at hQ;simp[ha];exact qap hB rfl (qbu 1 _ rfl) (by simp[strs]) hQ
   |some p=>
    obtain⟨y,k⟩:=p;have ha:qaS (l.drop i)=(y,(k:Int),0):=by unfold qaS;rw[hu]
    have hk:=qby hu;rw[zqI]at hk;have hw2:IntKind.i64.wrap ((i:Int)+k)=i+k:=wiz;simp[ha,hw2];exact Klz ⟨rfl,f,i+k,out,by omega,by omega,by omega,qf4 hc hf hb' hu,friz⟩
  ·have t2:((b.toNat:Int)==34)=false:=by simp;omega
   have ne34:b≠34:=by rintro rfl;exact b34 rfl
   by_cases b44:b.toNat=44
   ·have hx44:b=44:=UInt8.toNat_inj.1 b44;have hb':l[i]? =some 44:=by rw[hb,hx44]
    have t3:((b.toNat:Int)==44)=true:=by simp;omega
    simp[t1,hat,t2,t3,hf,hi,hm,hw];exact Klz ⟨rfl,i+1,i+1,out++[(l.drop f).take (i-f)],by omega,by omega,by simp;omega,qf6 hc hf hb',qal (by simp[strs])⟩
   ·have t3:((b.toNat:Int)==44)=false:=by simp;omega
    have ne44:b≠44:=by rintro rfl;exact b44 rfl
    simp[t1,hat,t2,t3,hw];exact Klz ⟨rfl,f,i+1,out,by omega,by omega,by omega,qf5 hc hf hb ne44 ne34,friz⟩
 ·obtain rfl:i=l.length:=by omega
  have hcut:=qis hc hf (Nat.le_refl _);have t1:((l.length:Int)==(l.length:Int))=true:=by simp
  obtain⟨ps,hps⟩:=exz (out++[(l.drop f).take (l.length-f)]);have hpl:ps.length=out.length+1:=by rw[<-hps];simp
  rw[hps]at hcut;have hans:=qkQ hcut;rw[hans]at hQ;simp[hf,hm];refine qes 10 1 (by rfl) ?_;simp only[List.set_cons_succ,List.set_cons_zero];refine qaG (qoU ps H') (fun fr _=>ps.length-(ai (aget fr 60)).toNat) ⟨rfl,0,true,by omega,qal (by rw[hpl,<-hps];simp[strs,qbA])⟩ ?_;rintro fr H'' ⟨rfl,i,own,hi2,y,rfl⟩
  have hkl:(qbA (ps.take i)).length<=ps.length:=by
   have:=qhb (ps.take i);rw[zqJ]at this;omega
  have hm2:(qbA (ps.take i)).length+1<=maxLen/\((qbA (ps.take i)).length+1)*16<=140737488355328:=by unfold maxLen;omega
  by_cases h2:i<ps.length
  ·obtain⟨p,hp⟩:∃b,ps[i]? =some b:=⟨_,zqD h2⟩
   have hat:=qcN hp;have hw:IntKind.i64.wrap ((i:Int)+1)=i+1:=wiz;have hst:=qkV ps i p hp
   have hpl2:p.length<=cap:=by
    have:=qf1 _ [] l ps (Nat.le_refl _) hcut p (zqH hp);simp only[cap];simp at this;omega
   simp[h2,hat];refine qfp E _ _ p hpl2 ?_;cases ht:(qaL p).isEmpty
   ·have hne:(qaL p !=[])=true:=by rw[qfN _ 0,ht];rfl
    rw[ht]at hst;simp[hne,hm2,hw];exact Klz ⟨rfl,i+1,own,by omega,qal (by rw[hst];simp[strs])⟩
   ·have hne:(qaL p !=[])=false:=by rw[qfN _ 0,ht];rfl
    rw[ht]at hst;simp[hne,hw];exact Klz ⟨rfl,i+1,own,by omega,qal (by rw[hst];simp[strs])⟩
  ·have ha:ps.take i=ps:=zqE (by omega);simp[h2];rw[ha];exact aQz hB (h6:=hQ)
theorem qjV(a b:List UInt8)(ha:a.length<=cap)(hb:b.length<=cap)(hQ:Q (.bool (low a==low b)) H):PC Tryz.prog E 88 [.str a,.str b] H Q:=by
 refine qab Tryz.func88 rfl [] [] (by kernel_rfl) (fun hB=>?_);simp[Tryz.ntmps88,Tryz.results88,List.replicate_succ];refine qbn E _ _ a ha ?_;simp;refine qbn E _ _ b hb ?_;simp;exact aQz hB (h6:=hQ)
end
section
open Go.Lib
def SE2(E : Env) : Prop := SE E ∧ E.Fix 1 ∧ TabIs Tryz.prog E.w0 "internal/strconv.uint64pow10" .u64 pow10Tab
theorem qey : Tryz.prog.globalNamed "internal/strconv.uint64pow10" = some 1 := by kernel_rfl
theorem SE2.tab{E : Env}(h : SE2 E){w : World}(hw : ∀ b, E.Fix b → w.heap[b]? = E.w0.heap[b]?) : TabIs Tryz.prog w "internal/strconv.uint64pow10" .u64 pow10Tab := by
 have:=h.2.2;unfold TabIs World.var? at this⊢;rw[qey]at this⊢;simp only[Option.bind_some]at this⊢;rw[hw _ h.2.1];exact this
section
variable (E:Env)(H:Hp)(Q:AV->Hp->Prop)
theorem qcn(n:Int)(h0: -9223372036854775808<=n)(h1:n<=9223372036854775807):(itoa n).length<=21/\(decDigits n.natAbs).length<=21:=by
 have h:=itoa_length_le n h0 h1;refine⟨h,?_⟩;unfold itoa at h;split at h
 ·simp at h;omega
 ·have:n.toNat=n.natAbs:=by omega
  rw[this]at h;exact h
theorem qqT(hE:SE2 E)(n:Int)(h0: -9223372036854775808<=n)(h1:n<=9223372036854775807)(hQ:Q (.str (itoa n)) H):PC Tryz.prog E 80 [.int .i64 n] H Q:=by
 refine qao (v := .str (itoa n)) (by kernel_rfl) (fun w => TabIs Tryz.prog w "internal/strconv.uint64pow10" .u64 pow10Tab) (fun w hw => hE.tab hw) (fun w β Rd cargs hS hsz hargs => ?_) (.str _) rfl hQ
 obtain⟨u,rfl,hu⟩:=args1 hsz hargs;obtain rfl:=qas hu;refine(Any.strconv_Itoa qoX n h0 h1 w hS).mono ?_;rintro e w' ⟨rfl,k,os,rfl⟩;refine⟨_,rfl,⟨rfl,rfl,rfl,by simp[Go.Sort.grow],fun b hb _=>?_⟩,qc5 _ (by have:=(qcn n h0 h1).1;unfold maxLen;omega)⟩;show(w.heap++os)[b]? =_;rw[Array.getElem?_append_left hb]
end
end
def strL(l:List (List UInt8)):List AV:=l.map AV.str
@[simp] theorem qcO (l:List (List UInt8)):(strL l).length=l.length:=by simp[strL]
theorem qjJ(l m:List (List UInt8)):strL (l++m)=strL l++strL m:=by simp[strL]
theorem qex(l:List (List UInt8)):(strs l).flatten=strL l:=by
 induction l with
 |nil=>rfl
 |cons x l ih=>show _::(strs l).flatten=_;rw[ih];rfl
theorem qdY(l:List (List UInt8)):∀x∈strL l,∃s,x= .str s:=fun x hx=>by obtain⟨s,_,rfl⟩:=List.mem_map.1 hx;exact⟨s,rfl⟩
theorem qnq(out:List (List UInt8))(tail:List AV):chop 1 out.length (strL out++tail)=strs out:=by
 rw[qht _ _ (by simp),List.take_append_of_le_length (by simp),zqE (by simp)];unfold strL strs;rw[List.map_map];rfl
def SAt(H0:Hp)(v:AV)(out:List (List UInt8))(H:Hp):Prop:=∃J,H=H0++J/\(∀l∈J,∀x∈l,∃z,x= .str z)/\((v= .nil/\out=[])\/
 ∃J1 tail,J=J1++[strL out++tail]/\v= .bx (H0.length+J1.length) 0 out.length (out.length+tail.length) 1/\out.length+tail.length<=maxLen)
theorem qou{H0:Hp}{v:AV}{out:List (List UInt8)}{H:Hp}(h:SAt H0 v out H):v.free=true/\v.dis=v:=by
 obtain⟨J,_,_,⟨rfl,_⟩|⟨J1,tail,_,rfl,_⟩⟩:=h<;>exact⟨rfl,rfl⟩
theorem qqx{H0:Hp}{v:AV}{out:List (List UInt8)}{H:Hp}(h:SAt H0 v out H):Bnd H.length v:=by
 obtain⟨J,rfl,_,⟨rfl,_⟩|⟨J1,tail,rfl,rfl,_⟩⟩:=h
 ·exact .nil
 ·exact .bx _ _ _ _ _ (by simp)
theorem qov{H0:Hp}{v:AV}{out:List (List UInt8)}{H:Hp}(h:SAt H0 v out H)(hB:BndH H0.length H0):BndH H.length H:=by
 obtain⟨J,rfl,hJ,_⟩:=h;intro l hl y hy;rcases List.mem_append.1 hl with h|h
 ·exact(hB l h y hy).mono (by simp)
 ·obtain⟨s,rfl⟩:=hJ l h y hy;exact .str _
section
variable (E:Env)(H:Hp)(Q:AV->Hp->Prop)
def qp2(l:List Fld)(n:List UInt8)(H:Hp)(fr:List AV)(H':Hp):Prop:=∃(J:Hp) (i:Nat),H'=H++J/\i<=l.length/\∃x:Nat->AV,fr=[x 0,.str n,x 2,x 3,x 4,.sl true 1 (strs (allB (l.take i) n)),x 6,x 7,.sl false 2 (flds l),.int .i64 l.length,.int .i64 i,x 11,x 12,x 13,x 14,x 15,x 16,x 17,x 18,x 19,x 20,x 21,x 22,x 23,x 24]
theorem qiA(l:List Fld)(n:List UInt8)(hl:fsz l+l.length<=16777216)(hn:n.length<=cap)(hQ:Q (.sl false 1 (strs (allB l n))) H):PC Tryz.prog E 63 [.sl false 2 (flds l),.str n] H Q:=by
 refine qab Tryz.func63 rfl [18] [] (by kernel_rfl) (fun hB=>?_);simp[Tryz.ntmps63,Tryz.results63,List.replicate_succ];refine qes 5 1 (by rfl) ?_;simp only[List.set_cons_succ,List.set_cons_zero];refine qaG (qp2 l n H) (fun fr _=>l.length-(ai (aget fr 10)).toNat) ⟨[],0,by simp,by omega,qal (by simp[allB,strs])⟩ ?_;rintro fr H' ⟨J,i,rfl,hi,x,rfl⟩;by_cases h:i<l.length
 ·obtain⟨f,hf⟩:∃f,l[i]? =some f:=⟨_,zqD h⟩
  have hat:=qco hf;have hfm:=qdh hf;have hw:IntKind.i64.wrap ((i:Int)+1)=i+1:=wiz;have hst:=qiB l n i f hf;have hal:=qkp (l.take i) n;rw[zqJ]at hal;simp[h,hat];refine qjV E _ _ f.name n (by simp only[cap];omega) hn ?_;cases he:(low f.name==low n)with
  |false=>
   rw[if_neg (by unfold qja;rw[he];simp),List.append_nil]at hst;simp[hw];exact Klz ⟨_,i+1,rfl,by omega,qal (by simp[hst])⟩
  |true=>
   rw[if_pos (show qja f.name n=true from he)]at hst;have m1:(allB (l.take i) n).length+1<=maxLen:=by unfold maxLen;omega
   have m2:((allB (l.take i) n).length+1)*16<=140737488355328:=by omega
   have hsn:=qft (allB (l.take i) n) f.value;rw[<-hst]at hsn;simp[m1,m2,hsn,hw];exact Klz ⟨_,i+1,rfl,by omega,friz⟩
 ·obtain rfl:i=l.length:=by omega
  simp;exact qac hB (v0:= .sl false 1 (strs (allB l n))) (by simp) (qaa _) (by simp[qbZ]) hQ
def flInv(vs:List (List UInt8))(H:Hp)(fr:List AV)(H':Hp):Prop:=∃(i:Nat) (v:AV) (acc:List (List UInt8)),i<=vs.length/\SAt H v acc H'/\qaM (vs.take i)=some acc/\
 ∃x:Nat->AV,fr=[x 0,x 1,x 2,x 3,x 4,x 5,v,x 7,x 8,x 9,x 10,x 11,x 12,.sl false 1 (strs vs),.int .i64 vs.length,.int .i64 i,x 16,x 17,x 18,x 19,x 20,x 21,x 22,x 23,x 24,x 25,x 26,x 27,x 28,x 29,x 30,x 31]
theorem qj8(l:List Fld)(n:List UInt8)(hl:fsz l+l.length<=4194304)(hn:n.length<=cap)(hQ1:qaM (allB l n)=none->Q (.tup [.sl false 1 [],.int .i64 14]) H)
  (hQ2:∀acc v H',qaM (allB l n)=some acc->SAt H v acc H'->Q (.tup [v,.int .i64 0]) H'):PC Tryz.prog E 108 [.sl false 2 (flds l),.str n] H Q:=by
 have hvz:=qcL l n;refine qab Tryz.func108 rfl [] [(8,[0,0,3])] (by kernel_rfl) (fun hB=>?_);simp[Tryz.ntmps108,Tryz.results108,List.replicate_succ];refine qiA E _ _ l n (by omega) hn ?_
 generalize allB l n=vs at*
 have hvl:=qlC vs;simp;refine qaG (flInv vs H) (fun fr _=>vs.length-(ai (aget fr 15)).toNat) ⟨0,.nil,[],by omega,⟨[],by simp,by simp,.inl ⟨rfl,rfl⟩⟩,rfl,friz⟩ ?_;rintro fr H' ⟨i,v,acc,hi,hS,hacc,x,rfl⟩;obtain⟨hvf,hvd⟩:=qou hS;have hlen:=qbq _ _ hacc;have hvt:=qjE vs i;by_cases h:i<vs.length
 ·obtain⟨s,hs⟩:∃s,vs[i]? =some s:=⟨_,zqD h⟩
  have hat:=qcN hs;have hsz:=qlB hs;have hw:IntKind.i64.wrap ((i:Int)+1)=i+1:=wiz;simp[h,hat];refine qqP E _ _ s (by omega) ?_;cases hlb:qc8 s with
  |none=>
   have e:qcm s=([],14):=by unfold qcm;rw[hlb]
   rw[e];obtain⟨J,rfl,_⟩:=hS;simp;exact qac hB (v0:= .tup [.nil,.int .i64 14]) (by simp) (qbu 1 _ rfl) (by simp) (hQ1 (qfK hs hlb))
  |some y=>
   have e:qcm s=(y,0):=by unfold qcm;rw[hlb]
   rw[e];have hyl:=qfM hlb;have hst:=qfL hs hacc hlb;obtain⟨J,rfl,hJ,⟨rfl,rfl⟩|⟨J1,tail,rfl,rfl,htl⟩⟩:=hS
   ·by_cases hy:y=[]
    ·subst hy;have hs0:strs ([]:List (List UInt8))=[]:=rfl;simp[hw,hs0];exact Klz ⟨i+1,.nil,[],by omega,⟨J,rfl,hJ,.inl ⟨rfl,rfl⟩⟩,by simpa using hst,friz⟩
    ·have m1:y.length<=maxLen:=by unfold maxLen;omega
     have m2:y.length*16<=140737488355328:=by omega
     simp[hy,m1,m2,qex];refine qc4 fun c hc1 hc2=>?_;obtain⟨k,rfl⟩:∃k,c=y.length+k:=⟨c-y.length,by omega⟩
     simp[hw];refine Klz ⟨i+1,.bx (H.length+J.length) 0 y.length (y.length+k) 1,y,by omega,⟨J++[strL y++List.replicate k (.str [])],rfl,fun l hl z hz=>?_,.inr ⟨J,List.replicate k (.str []),rfl,by simp,by simpa using hc2⟩⟩,by simpa using hst,friz⟩;rcases List.mem_append.1 hl with h|h
     ·exact hJ l h z hz
     ·simp only[List.mem_singleton]at h;subst h;rcases List.mem_append.1 hz with h|h
      ·exact qdY _ z h
      ·exact⟨_,(List.mem_replicate.1 h).2⟩
   ·have hget:∀r:List AV,(H++(J1++[r]))[H.length+J1.length]? =some r:=fun r=>by rw[<-List.append_assoc,zqB (by simp)];simp
    have hset:∀r q:List AV,(H++(J1++[r])).set (H.length+J1.length) q=H++(J1++[q]):=fun r q=>by rw[<-List.append_assoc,List.set_append_right _ _ (by simp),List.append_assoc];simp
    have hfree:(∀x∈strL acc,x.free=true)=True:=eq_true fun x hx=>by obtain⟨b,rfl⟩:=qdY _ x hx;rfl
    have htk:List.take acc.length (strL acc)=strL acc:=zqE (by simp);have htu:∀x∈tail,∃z,x= .str z:=fun x hx=>hJ (strL acc++tail) (by simp) x (List.mem_append_right _ hx);have hJ1:∀l∈J1,∀x∈l,∃z,x= .str z:=fun l hl=>hJ l (List.mem_append_left _ hl);have hdr:List.drop (acc.length+y.length) (strL acc++tail)=tail.drop y.length:=by rw[List.drop_append,List.drop_of_length_le (by simp)];simp
    by_cases hroom:y.length<=tail.length
    ·simp[hroom,hfree,hget,hset,htk,hdr,hw,qex];refine Klz ⟨i+1,.bx (H.length+J1.length) 0 (acc.length+y.length) (acc.length+tail.length) 1,acc++y,by omega,⟨J1++[strL (acc++y)++tail.drop y.length],by simp[qjJ],fun l hl z hz=>?_,.inr ⟨J1,tail.drop y.length,rfl,by simp;omega,by simp;omega⟩⟩,hst,friz⟩;rcases List.mem_append.1 hl with h|h
     ·exact hJ1 l h z hz
     ·simp only[List.mem_singleton]at h;subst h;rcases List.mem_append.1 hz with h|h
      ·exact qdY _ z h
      ·exact htu z (List.mem_of_mem_drop h)
    ·have m1:acc.length+y.length<=maxLen:=by unfold maxLen;omega
     have m2:(acc.length+y.length)*16<=140737488355328:=by omega
     simp[hroom,hfree,hget,hset,htk,hdr,hw,qex,m1,m2];refine qc4 fun c hc1 hc2=>?_;obtain⟨k,rfl⟩:∃k,c=acc.length+y.length+k:=⟨c-(acc.length+y.length),by omega⟩
     simp[hw];refine Klz ⟨i+1,.bx (H.length+(J1.length+1)) 0 (acc.length+y.length) (acc.length+y.length+k) 1,acc++y,by omega,⟨(J1++[strL acc++tail])++[strL (acc++y)++List.replicate k (.str [])],by simp[qjJ],fun l hl z hz=>?_,.inr ⟨J1++[strL acc++tail],List.replicate k (.str []),rfl,by simp,by simpa using hc2⟩⟩,hst,friz⟩;rcases List.mem_append.1 hl with h|h
     ·exact hJ l h z hz
     ·simp only[List.mem_singleton]at h;subst h;rcases List.mem_append.1 hz with h|h
      ·exact qdY _ z h
      ·exact⟨_,(List.mem_replicate.1 h).2⟩
 ·obtain rfl:i=vs.length:=by omega
  rw[zqE (Nat.le_refl _)]at hacc;simp[hvd];exact qpA (v:= .tup [v,.int .i64 0]) (by simp[hvd]) (by obtain⟨J,rfl,_⟩:=hS;simp) (qov hS hB) (.tup _ (fun y hy=>by simp at hy;rcases hy with rfl|rfl;exact qqx hS;exact .int _ _)) (hQ2 acc v H' hacc hS)
def mix(acc:List (List UInt8))(i:Nat):List (List UInt8):=(acc.take i).map low++acc.drop i
theorem qg4(acc:List (List UInt8))(i:Nat):(mix acc i).length=acc.length:=by
 unfold mix;simp;omega
theorem qoP(acc:List (List UInt8)):mix acc 0=acc:=by simp[mix]
theorem qqN(acc:List (List UInt8)):mix acc acc.length=acc.map low:=by simp[mix]
theorem mix_at{acc:List (List UInt8)}{i:Nat}{u:List UInt8}(h:acc[i]? =some u)(tail:List AV):(strL (mix acc i)++tail)[i]? =some (.str u):=by
 have hi:=(zqC.1 h).1;rw[zqA (by rw[qcO,qg4];exact hi)];unfold strL mix;rw[List.getElem?_map,zqB (by simp;omega)];simp[h,Nat.min_eq_left (Nat.le_of_lt hi)]
theorem qoQ{acc:List (List UInt8)}{i:Nat}{u:List UInt8}(h:acc[i]? =some u)(tail:List AV):(strL (mix acc i)++tail).set i (.str (low u))=strL (mix acc (i+1))++tail:=by
 have hi:=(zqC.1 h).1
 have e:mix acc (i+1)=(mix acc i).set i (low u):=by
  unfold mix;rw[List.set_append_right _ _ (by simp;omega),List.take_add_one,h];simp only[Option.toList,List.map_append,List.map_cons,List.map_nil,List.length_map,zqJ,Nat.min_eq_left (Nat.le_of_lt hi),Nat.sub_self];rw[List.drop_eq_getElem_cons hi,List.set_cons_zero,List.append_assoc];rfl
 rw[e,List.set_append_left _ _ (by rw[qcO,qg4];exact hi)];unfold strL;rw[List.map_set]
theorem qqM{acc:List (List UInt8)}{i:Nat}{u:List UInt8}(h:acc[i]? =some u)(tail:List AV):(strL (mix acc i)++tail).take i++ .str (low u)::(strL (mix acc i)++tail).drop (i+1)=strL (mix acc (i+1))++tail:=by
 have hi:=(zqC.1 h).1;rw[<-qoQ h tail,List.set_eq_take_append_cons_drop,if_pos (by rw[zqK,qcO,qg4];omega)]
def toInv(acc:List (List UInt8))(J1:Hp)(tail:List AV)(H:Hp)(fr:List AV)(H':Hp):Prop:=∃(i:Nat),i<=acc.length/\H'=H++(J1++[strL (mix acc i)++tail])/\(acc.take i).all tokB=true/\
 ∃x:Nat->AV,fr=[x 0,x 1,x 2,x 3,x 4,x 5,.bx (H.length+J1.length) 0 acc.length (acc.length+tail.length) 1,x 7,x 8,x 9,x 10,x 11,x 12,x 13,x 14,x 15,x 16,x 17,x 18,.bx (H.length+J1.length) 0 acc.length (acc.length+tail.length) 1,.int .i64 acc.length,.int .i64 i,x 22,x 23,x 24,x 25,x 26,x 27,x 28,x 29,x 30,x 31,x 32,x 33,x 34,x 35]
theorem qfr(hE:SE E)(l:List Fld)(n:List UInt8)(hl:fsz l+l.length<=4194304)(hn:n.length<=cap)(hQ:Q (.tup [.sl false 1 (strs (qbw l n).1),.int .i64 (qbw l n).2]) H):PC Tryz.prog E 107 [.sl false 2 (flds l),.str n] H Q:=by
 have hvz:=qcL l n;refine qfG Tryz.func107 rfl [] [(11,[5,H.length])] (by kernel_rfl) (fun id m hm=>?_) (fun hB=>?_)
 ·unfold ndOf at hm;split at hm
  ·cases hm;exact Nat.le_refl _
  ·cases hm
 simp[Tryz.ntmps107,Tryz.results107,List.replicate_succ];refine qj8 E _ _ l n hl hn (fun hno=>?_) (fun acc v H' hacc hS=>?_)
 ·have e:qbw l n=([],14):=by unfold qbw;rw[hno]
  rw[e]at hQ;simp;exact qap hB (v0:= .tup [.nil,.int .i64 14]) (by simp) (qbu 1 _ rfl) (by simp) hQ
 have hmem:=qcB _ _ hacc;have hlen:=qbq _ _ hacc;have e:qbw l n=if acc.all tokB=true then(acc.map low,0)else([],10):=by unfold qbw;rw[hacc]
 rw[e]at hQ;clear e hacc;obtain⟨J,rfl,hJ,⟨rfl,rfl⟩|⟨J1,tail,rfl,rfl,htl⟩⟩:=hS
 ·simp;refine qaG (fun fr H'=>∃J:Hp,H'=H++J/\∃x:Nat->AV,fr=[x 0,x 1,x 2,x 3,x 4,x 5,.nil,x 7,x 8,x 9,x 10,x 11,x 12,x 13,x 14,x 15,x 16,x 17,x 18,.nil,.int .i64 0,.int .i64 0,x 22,x 23,x 24,x 25,x 26,x 27,x 28,x 29,x 30,x 31,x 32,x 33,x 34,x 35]) (fun fr _=>0) ⟨J,rfl,friz⟩ ?_;rintro fr H' ⟨J,rfl,x,rfl⟩;simp;refine qkr ?_;simp;exact qac hB (v0:= .tup [.nil,.int .i64 0]) (by simp) (qbu 1 _ rfl) (by simp) hQ
 ·simp;refine qaG (toInv acc J1 tail H) (fun fr _=>acc.length-(ai (aget fr 21)).toNat) ⟨0,by omega,by rw[qoP],by simp,friz⟩ ?_;rintro fr H' ⟨i,hi,rfl,hall,x,rfl⟩;by_cases h:i<acc.length
  ·obtain⟨u,hu⟩:∃u,acc[i]? =some u:=⟨_,zqD h⟩
   have hw:IntKind.i64.wrap ((i:Int)+1)=i+1:=wiz;have hget:∀r:List AV,(H++(J1++[r]))[H.length+J1.length]? =some r:=fun r=>by rw[<-List.append_assoc,zqB (by simp)];simp
   have hset:∀r q:List AV,(H++(J1++[r])).set (H.length+J1.length) q=H++(J1++[q]):=fun r q=>by rw[<-List.append_assoc,List.set_append_right _ _ (by simp),List.append_assoc];simp
   have hat:=mix_at hu tail;have hst:=qqM hu tail;have hul:=hmem u (zqH hu);simp[h,hget,hat];refine qbr E _ _ hE u (by simp only[cap];omega) ?_;cases ht:tokB u with
   |false=>
    have e:acc.all tokB=false:=qcl tokB acc i u hu ht;rw[if_neg (by rw[e];simp)]at hQ;simp;exact qac hB (v0:= .tup [.nil,.int .i64 10]) (by simp) (qbu 1 _ rfl) (by simp) hQ
   |true=>
    simp;refine qbn E _ _ u (by simp only[cap];omega) ?_;have hle:i+1<=(mix acc i).length+tail.length:=by rw[qg4];omega
    simp[hget,hset,hst,hw,h,hle];exact Klz ⟨i+1,by omega,rfl,by rw[qbv tokB acc i u hu,hall,ht];rfl,friz⟩
  ·obtain rfl:i=acc.length:=by omega
   simp;rw[zqE (Nat.le_refl _)]at hall;rw[if_pos hall]at hQ;rw[qqN];have hJ1:∀l∈J1,∀x∈l,∃z,x= .str z:=fun l hl=>hJ l (List.mem_append_left _ hl);have htu:∀x∈tail,∃z,x= .str z:=fun x hx=>hJ (strL acc++tail) (by simp) x (List.mem_append_right _ hx);have hch:=qnq (acc.map low) tail;rw[List.length_map]at hch;refine qiE [6] (H++J1) (strL (acc.map low)++tail) (by simp) (by simp) (fun l' hl' y hy=>?_) (fun t ht y hy=>?_) (fun y=>?_)
   ·rcases List.mem_append.1 hl' with h|h
    ·exact(hB l' h y hy).mono (by simp)
    ·obtain⟨z,rfl⟩:=hJ1 l' h y hy;exact .str _
   ·simp at ht;subst ht;simp at hy;subst hy;refine .inr ⟨by simp,by omega,by simp,fun y hy=>?_⟩;have hy2:=List.mem_of_mem_drop (List.mem_of_mem_take hy);rcases List.mem_append.1 hy2 with h|h
    ·obtain⟨z,rfl⟩:=qdY _ y h;exact⟨rfl,.str _⟩
    ·obtain⟨z,rfl⟩:=htu y h;exact⟨rfl,.str _⟩
   ·simp[qfT,frz,hch];exact qac hB (v0:= .tup [.sl false 1 (strs (acc.map low)),.int .i64 0]) (by simp) (qaa _) (by simp[qbZ]) hQ
theorem qlN(l:List Fld)(n:List UInt8):(qbw l n).1.length<=fsz l+l.length:=by
 have hvz:=qcL l n;unfold qbw;cases h:qaM (allB l n)with
 |none=>simp
 |some acc=>
  have:=qbq _ _ h;simp only;split
  ·simp;omega
  ·simp
end
theorem qra(x:List UInt8):0<=(qah 10 1099511627776 x).1/\(qah 10 1099511627776 x).1<=1099511627776:=by
 unfold qah;split
 ·simp
 ·split
  ·simp
  ·split
   ·simp
   ·rename_i h1 h2 h3;have h:=qbp 10 (by omega) x (by simpa using h2);simp only;omega
theorem qnh{x:List UInt8}(h:(qah 10 1099511627776 x).2=0):decA x=(qah 10 1099511627776 x).1:=by unfold decA;rw[if_pos h]
theorem qho{x:List UInt8}(h:(qah 10 1099511627776 x).2≠0):decA x= -1:=by unfold decA;rw[if_neg h]
section
variable (E:Env)(H:Hp)(Q:AV->Hp->Prop)
def lenOk(acc:List (List UInt8))(i:Nat)(m:Int):Prop:=(i=0/\m=0)\/(0<i/\0<=m/\∀y∈acc.take i,decA y=m)
def lenInv(acc:List (List UInt8))(b:Nat)(c:Nat)(H3:Hp)(fr:List AV)(H':Hp):Prop:=H'=H3/\∃(i:Nat) (m:Int),i<=acc.length/\lenOk acc i m/\m<=1099511627776/\
 ∃x:Nat->AV,fr=[x 0,x 1,x 2,x 3,x 4,x 5,x 6,.int .i64 m,x 8,x 9,x 10,x 11,x 12,x 13,x 14,x 15,x 16,x 17,x 18,x 19,x 20,x 21,x 22,x 23,x 24,x 25,x 26,x 27,.bx b 0 acc.length c 1,.int .i64 acc.length,.int .i64 i,x 31,x 32,x 33,x 34,x 35,x 36,x 37,x 38,x 39,x 40,x 41,x 42,x 43,x 44,x 45,x 46,x 47,x 48,x 49,x 50,x 51,x 52,x 53]
theorem qmy(l:List Fld)(hl:fsz l+l.length<=4194304)(hQ:Q (.tup [.int .i64 (qat l).1,.bool (qat l).2.1,.int .i64 (qat l).2.2]) H):PC Tryz.prog E 77 [.sl false 2 (flds l)] H Q:=by
 refine qab Tryz.func77 rfl [] [] (by kernel_rfl) (fun hB=>?_);have fin:∀a:Int×Bool×Int,qat l=a->Q (.tup [.int .i64 a.1,.bool a.2.1,.int .i64 a.2.2]) H:=fun a ha=>ha▸hQ;have hvz:=qcL l nCL;have hcn:nCL.length<=cap:=by simp[nCL,cap]
 simp[Tryz.ntmps77,Tryz.results77,List.replicate_succ];refine qiA E _ _ l nCL (by omega) hcn ?_;by_cases h0:allB l nCL=[]
 ·have e:qat l=(0,false,0):=by unfold qat;rw[if_pos h0]
  have hs0:strs ([]:List (List UInt8))=[]:=rfl;simp[h0,hs0];exact aQz hB (h6:=(fin _ e))
 have h0':(((allB l nCL).length:Int)==0)=false:=by
  rw[beq_eq_false_iff_ne];intro e;exact h0 (List.length_eq_zero_iff.1 (by omega))
 simp[h0'];refine qj8 E _ _ l nCL hl hcn (fun hno=>?_) (fun acc v H' hacc hS=>?_)
 ·have e:qat l=(0,false,66):=by unfold qat;rw[if_neg h0,hno]
  simp;exact aQz hB (h6:=(fin _ e))
 have hlen:=qbq _ _ hacc;have hmem:=qcB _ _ hacc;obtain⟨J,rfl,hJ,⟨rfl,rfl⟩|⟨J1,tail,rfl,rfl,htl⟩⟩:=hS
 ·have e:qat l=(0,false,66):=by unfold qat;rw[if_neg h0,hacc]
  simp;exact qac hB rfl (qaa _) (by simp) (fin _ e)
 cases acc with
 |nil=>
  have e:qat l=(0,false,66):=by unfold qat;rw[if_neg h0,hacc]
  simp;exact qac hB rfl (qaa _) (by simp) (fin _ e)
 |cons w ws=>
  have e:qat l=if decA w<0\/(ws.all fun y=>decide (decA y=decA w))=false then(0,false,66)else(decA w,true,0):=by unfold qat;rw[if_neg h0,hacc]
  obtain⟨acc,ha⟩:=exz (w::ws);have hal:0<acc.length:=by rw[<-ha];simp
  have ha0:acc[0]? =some w:=by rw[<-ha];rfl
  rw[ha]at hlen hmem hJ htl hacc;have hlz:((acc.length:Int)==0)=false:=by rw[beq_eq_false_iff_ne];omega
  rw[ha];simp[hlz];refine qaG (lenInv acc (H.length+J1.length) (acc.length+tail.length) (H++(J1++[strL acc++tail]))) (fun fr _=>acc.length-(ai (aget fr 30)).toNat) ⟨rfl,0,0,by omega,.inl ⟨rfl,rfl⟩,by omega,friz⟩ ?_;rintro fr H' ⟨rfl,i,m,hi,hok,hm,x,rfl⟩;by_cases h:i<acc.length
  ·obtain⟨u,hu⟩:∃u,acc[i]? =some u:=⟨_,zqD h⟩
   have hul:=hmem u (zqH hu);have hget:∀r:List AV,(H++(J1++[r]))[H.length+J1.length]? =some r:=fun r=>by rw[<-List.append_assoc,zqB (by simp)];simp
   have hat:(strL acc++tail)[i]? =some (.str u):=by
    rw[zqA (by rw[qcO];exact h)];unfold strL;rw[List.getElem?_map,hu];rfl
   have hw:IntKind.i64.wrap ((i:Int)+1)=i+1:=wiz;have hrng:=qra u;have hwm:¬m< -9223372036854775808:=by rcases hok with⟨_,h⟩|⟨_,h,_⟩<;>omega
   have hwA:decA w<0\/(ws.all fun y=>decide (decA y=decA w))=false\/∀y∈acc,decA y=decA w:=by
    by_cases h2:(ws.all fun y=>decide (decA y=decA w))=false
    ·exact .inr (.inl h2)
    ·refine .inr (.inr (fun y hy=>?_));rw[<-ha]at hy;rcases List.mem_cons.1 hy with rfl|hy
     ·rfl
     ·rw[Bool.not_eq_false]at h2;have:=List.all_eq_true.1 h2 y hy;simpa using this
   have hbad:(decA u<0\/(0<i/\decA u≠m))->qat l=(0,false,66):=fun hb=>by
    rw[e];apply if_pos;rcases hwA with h|h|h
    ·exact .inl h
    ·exact .inr h
    ·left;have h1:=h u (zqH hu);rcases hb with hb|⟨hb,hne⟩
     ·omega
     ·exfalso;rcases hok with⟨h0,_⟩|⟨_,_,h3⟩
      ·omega
      ·have h4:=h3 w (zqH (by rw[zqG hb];exact ha0));omega
   simp[h,hget,hat];refine qb1 E _ _ u 1099511627776 (by simp only[cap];omega) (by omega) (by omega) ?_;by_cases hd:(qah 10 1099511627776 u).2=0
   ·have hdA:=qnh hd;by_cases hi0:i=0
    ·subst hi0;have hw0:IntKind.i64.wrap 1=1:=by decide
     simp[hd,hw0];refine Klz ⟨rfl,1,_,by omega,.inr ⟨by omega,hrng.1,fun y hy=>?_⟩,hrng.2,friz⟩
     have:acc.take 1=[u]:=by
      rw[show(1:Nat)=0+1 from rfl,List.take_add_one,hu];simp
     rw[this]at hy;simp at hy;subst hy;exact hdA
    ·have hig:0<i:=by omega
     by_cases hne:(qah 10 1099511627776 u).1=m
     ·simp[hd,hig,hne,hw];refine Klz ⟨rfl,i+1,m,by omega,.inr ⟨by omega,by rw[<-hne];exact hrng.1,fun y hy=>?_⟩,hm,friz⟩;rw[List.take_add_one,hu]at hy;rcases List.mem_append.1 hy with hy|hy
      ·rcases hok with⟨h0,_⟩|⟨_,_,h3⟩
       ·omega
       ·exact h3 y hy
      ·simp at hy;subst hy;rw[hdA,hne]
     ·have hne2:((qah 10 1099511627776 u).1 !=m)=true:=by simpa using hne
      simp[hd,hig,hne2];exact qac hB rfl (qaa _) (by simp) (fin _ (hbad (.inr ⟨hig,by rw[hdA];exact hne⟩)))
   ·have hd2:((qah 10 1099511627776 u).2 !=0)=true:=by simpa using hd
    simp[hd2];exact qac hB rfl (qaa _) (by simp) (fin _ (hbad (.inl (by rw[qho hd];omega))))
  ·obtain rfl:i=acc.length:=by omega
   have hres:qat l=(m,true,0):=by
    rcases hok with⟨h0,_⟩|⟨_,h2,h3⟩
    ·omega
    ·rw[zqE (Nat.le_refl _)]at h3;have hw0:=h3 w (zqH ha0);rw[e,if_neg,hw0];intro hb;rcases hb with hb|hb
     ·omega
     ·rw[List.all_eq_false]at hb;obtain⟨y,hy,hy2⟩:=hb;have:=h3 y (by rw[<-ha];exact List.mem_cons_of_mem _ hy);exact hy2 (by rw[this,hw0];simp)
   simp;exact qac hB rfl (qaa _) (by simp) (fin _ hres)
theorem qlc(hE:SE E)(l:List Fld)(hl:fsz l+l.length<=4194304)(hQ:Q (.tup [.sl false 1 (strs (qau l).1),.bool (qau l).2.1,.int .i64 (qau l).2.2]) H):PC Tryz.prog E 76 [.sl false 2 (flds l)] H Q:=by
 refine qab Tryz.func76 rfl [] [] (by kernel_rfl) (fun hB=>?_);have fin:∀a:List (List UInt8)×Bool×Int,qau l=a->Q (.tup [.sl false 1 (strs a.1),.bool a.2.1,.int .i64 a.2.2]) H:=fun a ha=>ha▸hQ;have hcn:nTE.length<=cap:=by simp[nTE,cap]
 simp[Tryz.ntmps76,Tryz.results76,List.replicate_succ];refine qiA E _ _ l nTE (by omega) hcn ?_;by_cases h0:allB l nTE=[]
 ·have e:qau l=([],false,0):=by unfold qau;rw[if_pos h0]
  have hs0:strs ([]:List (List UInt8))=[]:=rfl;simp[h0,hs0];exact qap hB (v0:= .tup [.nil,.bool false,.int .i64 0]) (by simp) (qde 1 _ _ rfl rfl) (by simp) (fin _ e)
 have h0':(((allB l nTE).length:Int)==0)=false:=by
  rw[beq_eq_false_iff_ne];intro e;exact h0 (List.length_eq_zero_iff.1 (by omega))
 simp[h0'];refine qfr E _ _ hE l nTE hl hcn ?_;by_cases he:(qbw l nTE).2=0
 ·have e:qau l=((qbw l nTE).1,true,0):=by unfold qau;rw[if_neg h0,if_pos he]
  simp[he];exact qap hB (v0:= .tup [.sl false 1 (strs (qbw l nTE).1),.bool true,.int .i64 0]) (by simp) (qaa _) (by simp[qbZ]) (fin _ e)
 ·have e:qau l=([],false,67):=by unfold qau;rw[if_neg h0,if_neg he]
  have he2:((qbw l nTE).2 !=0)=true:=by simpa using he
  simp[he2];exact qap hB (v0:= .tup [.nil,.bool false,.int .i64 67]) (by simp) (qde 1 _ _ rfl rfl) (by simp) (fin _ e)
theorem qkh(l:List Fld)(hl:fsz l+l.length<=4194304):(qau l).1.length<=4194304:=by
 have:=qlN l nTE;unfold qau;split
 ·simp
 ·split
  ·simp only;omega
  ·simp
theorem qgI{l:List Fld}{old:Bool}{cs:List (List UInt8)}{cd:Bool}{ce n:Int}{tl:Bool}{f:Int}(h1:qau l=(cs,cd,ce))(h2:qat l=(n,tl,f)):
  qaJ l old=if ce≠0\/(cd=true/\(old=true\/cs≠[qbm]))then(0,0,67)else if f≠0 then(0,0,f)else if cd=true/\tl=true then(0,0,68)else if cd=true then(2,0,0)else if tl=true then(1,n,0)else(0,0,0):=by
 unfold qaJ;rw[h1,h2]
theorem qeH(hE:SE E)(l:List Fld)(old:Bool)(hl:fsz l+l.length<=4194304)(hQ:Q (.tup [.agg [.int .i64 (qaJ l old).1,.int .i64 (qaJ l old).2.1],.int .i64 (qaJ l old).2.2]) H):PC Tryz.prog E 54 [.sl false 2 (flds l),.bool old] H Q:=by
 have fin:∀a:Int×Int×Int,qaJ l old=a->Q (.tup [.agg [.int .i64 a.1,.int .i64 a.2.1],.int .i64 a.2.2]) H:=fun a ha=>ha▸hQ;have hcl:=qkh l hl;refine qab Tryz.func54 rfl [] [] (by kernel_rfl) (fun hB=>?_);simp[Tryz.ntmps54,Tryz.results54,List.replicate_succ];refine qlc E _ _ hE l hl ?_;simp;refine qmy E _ _ l hl ?_;obtain⟨⟨cs,cd,ce⟩,hC⟩:=exz (qau l);obtain⟨⟨n,tl,f⟩,hL⟩:=exz (qat l);have hF:=qgI (old:=old) hC hL;rw[hC]at hcl;rw[hC,hL];simp only at hcl⊢;have hce:(ce !=0)=decide (ce≠0):=by rw[Bool.eq_iff_iff];simp
 have hfe:(f !=0)=decide (f≠0):=by rw[Bool.eq_iff_iff];simp
 by_cases h1:ce=0;rotate_left
 ·rw[if_pos (.inl h1)]at hF;have h1':(ce !=0)=true:=by simpa using h1
  simp[h1'];exact qac hB (v0:= .tup [.agg [.int .i64 0,.int .i64 0],.int .i64 67]) (by simp) (qaa _) (by simp) (fin _ hF)
 subst h1;cases cd with
 |true=>
  cases old with
  |true=>
   rw[if_pos (.inr ⟨rfl,.inl rfl⟩)]at hF;simp;exact qac hB (v0:= .tup [.agg [.int .i64 0,.int .i64 0],.int .i64 67]) (by simp) (qaa _) (by simp) (fin _ hF)
  |false=>
   by_cases h2:cs=[qbm]
   ·subst h2;rw[if_neg (by simp)]at hF;have hat:lat (strs [qbm]) 0=some [.str qbm]:=rfl;have hv:(qbm !=[99,104,117,110,107,101,100])=false:=by decide
    by_cases h3:f=0
    ·subst h3;rw[if_neg (by simp)]at hF;cases tl with
     |true=>
      rw[if_pos ⟨rfl,rfl⟩]at hF;simp[hat,hv];exact qac hB (v0:= .tup [.agg [.int .i64 0,.int .i64 0],.int .i64 68]) (by simp) (qaa _) (by simp) (fin _ hF)
     |false=>
      rw[if_neg (by simp),if_pos rfl]at hF;simp[hat,hv];exact qac hB (v0:= .tup [.agg [.int .i64 2,.int .i64 0],.int .i64 0]) (by simp) (qaa _) (by simp) (fin _ hF)
    ·rw[if_pos h3]at hF;have h3':(f !=0)=true:=by simpa using h3
     simp[hat,hv,h3'];exact qac hB (v0:= .tup [.agg [.int .i64 0,.int .i64 0],.int .i64 f]) (by simp) (qaa _) (by simp) (fin _ hF)
   ·rw[if_pos (.inr ⟨rfl,.inr h2⟩)]at hF
    match cs,h2 with
    |[],_=>
     simp;exact qac hB (v0:= .tup [.agg [.int .i64 0,.int .i64 0],.int .i64 67]) (by simp) (qaa _) (by simp) (fin _ hF)
    |[c],h2=>
     have hat:lat (strs [c]) 0=some [.str c]:=rfl;have hv:(c !=[99,104,117,110,107,101,100])=true:=by simpa[qbm]using h2
     simp[hat,hv];exact qac hB (v0:= .tup [.agg [.int .i64 0,.int .i64 0],.int .i64 67]) (by simp) (qaa _) (by simp) (fin _ hF)
    |c::d::r,_=>
     have hl:((r.length:Int)+1+1 !=1)=true:=by rw[bne_iff_ne];omega
     simp[hl];exact qac hB (v0:= .tup [.agg [.int .i64 0,.int .i64 0],.int .i64 67]) (by simp) (qaa _) (by simp) (fin _ hF)
 |false=>
  by_cases h3:f=0
  ·subst h3;cases tl with
   |true=>
    rw[if_neg (by simp),if_neg (by simp),if_neg (by simp),if_neg (by simp),if_pos rfl]at hF;simp;exact qac hB (v0:= .tup [.agg [.int .i64 1,.int .i64 n],.int .i64 0]) (by simp) (qaa _) (by simp) (fin _ hF)
   |false=>
    rw[if_neg (by simp),if_neg (by simp),if_neg (by simp),if_neg (by simp),if_neg (by simp)]at hF;simp;exact qac hB (v0:= .tup [.agg [.int .i64 0,.int .i64 0],.int .i64 0]) (by simp) (qaa _) (by simp) (fin _ hF)
  ·rw[if_neg (by simp),if_pos h3]at hF;have h3':(f !=0)=true:=by simpa using h3
   simp[h3'];exact qac hB (v0:= .tup [.agg [.int .i64 0,.int .i64 0],.int .i64 f]) (by simp) (qaa _) (by simp) (fin _ hF)
end
end Go.Proofs.YtnnhdehmlkkfjaaGreatDoor
namespace Go.Proofs.YtnnhdehmlkkfjaaGreatDoor
open Go Go.RowKit Go.Shelf
def PE(E:Env):Prop:=SE2 E/\ME E
theorem SE2.env{E E':Env}(h:SE2 E)(h0:E'.w0=E.w0)(hF:E'.Fix=E.Fix):SE2 E':=⟨⟨by rw[hF];exact h.1.1,by rw[h0];exact h.1.2⟩,by rw[hF];exact h.2.1,by rw[h0];exact h.2.2⟩
theorem ME.env{E E':Env}(h:ME E)(h0:E'.w0=E.w0)(hF:E'.Fix=E.Fix):ME E':=⟨by rw[hF];exact h.1,by rw[h0];exact h.2⟩
theorem PE.env{E E':Env}(h:PE E)(h0:E'.w0=E.w0)(hF:E'.Fix=E.Fix):PE E':=⟨h.1.env h0 hF,h.2.env h0 hF⟩
theorem qpe{α:Type}(l:List α)(k:Nat)(x:α)(h:l[k]? =some x):l.drop k=x::l.drop (k+1):=by
 have hlt:=(zqC.1 h).1;rw[List.drop_eq_getElem_cons hlt,(zqC.1 h).2]
theorem qdZ(c:UInt8):∀l:List UInt8,(qbf c l).length<=l.length+1/\∀g∈qbf c l,g.length<=l.length
 |[]=>by simp[qbf]
 |x::r=>by
  obtain⟨h1,h2⟩:=qdZ c r;rw[qbf];split
  ·refine⟨by simp;omega,fun g hg=>?_⟩;rcases List.mem_cons.1 hg with rfl|hg
   ·simp
   ·have:=h2 g hg;simp;omega
  ·split
   ·rename_i h t he;rw[he]at h1 h2;refine⟨by simp at h1⊢;omega,fun g hg=>?_⟩;rcases List.mem_cons.1 hg with rfl|hg
    ·have:=h2 h (.head _);simp;omega
    ·have:=h2 g (.tail _ hg);simp;omega
   ·exact⟨by simp,fun g hg=>by simp at hg;subst hg;simp⟩
theorem qcz(l:List UInt8)(m:Int)(hm:0<=m):0<=(qah 10 m l).1/\(qah 10 m l).1<=m:=by
 unfold qah
 repeat' split
 all_goals first
  |exact⟨Int.le_refl _,hm⟩
  |skip
 rename_i h1 h2 h3;exact⟨qbp 10 (by decide) l (by simpa using h2),by simp only;omega⟩
theorem qkf(c:UInt8):∀l:List UInt8,(cut2 c l).1.length<=l.length/\(cut2 c l).2.1.length<=l.length
 |[]=>by simp[cut2]
 |[a]=>by simp[cut2]
 |a::b::r=>by
  obtain⟨h1,h2⟩:=qkf c (b::r);rw[cut2];split
  ·simp;omega
  ·simp only[zqL]at h1 h2⊢;omega
section
open Go.Lib
variable (E:Env){H:Hp}(Q:AV->Hp->Prop)
theorem qcx(hE:SE2 E)(n:Int)(h0: -9223372036854775808<=n)(h1:n<=9223372036854775807)(hQ:Q (.str (itoa n)) H):PC Tryz.prog E 56 [.int .i64 n] H Q:=by
 refine qab Tryz.func56 rfl [] [] (by kernel_rfl) (fun hB=>?_);simp[Tryz.ntmps56,Tryz.results56,List.replicate_succ];refine qqT E H _ hE n h0 h1 ?_;simp;exact aQz hB (h6:=hQ)
theorem qdV(s:List UInt8)(i:Nat)(c:UInt8)(other:Int)(hc:s[i]? =some c)(hQ:Q (.int .i64 (qeO c other)) H):PC Tryz.prog E 191 [.str s,.int .i64 (i:Int),.int .i64 other] H Q:=by
 refine qab Tryz.func191 rfl [] [] (by kernel_rfl) (fun hB=>?_);have la:=qaP hc;unfold qeO at hQ;by_cases h:c=37
 ·subst h;simp[Tryz.ntmps191,Tryz.results191,List.replicate_succ,la];exact aQz hB (h6:=hQ)
 ·have hb:=(qaU c 37 (by decide) 37 rfl h).1;rw[if_neg h]at hQ;simp[Tryz.ntmps191,Tryz.results191,List.replicate_succ,la,hb];exact aQz hB (h6:=hQ)
def dtI(H:Hp)(s:List UInt8)(L:List (List UInt8))(fr:List AV)(K:Hp):Prop:=K=H/\∃i:Nat,i<=L.length/\(L.take i).all qgk=true/\
 ∃x:Nat->AV,fr=[.str s,x 1,x 2,.sl false 1 (strs L),x 4,x 5,x 6,x 7,x 8,x 9,.sl false 1 (strs L),.int .i64 (L.length:Int),.int .i64 (i:Int),x 13,x 14,x 15,x 16,x 17,x 18,x 19,x 20,x 21,x 22,x 23,x 24,x 25,x 26,x 27,x 28,x 29,x 30,x 31,x 32]
theorem qje(hE:PE E)(s:List UInt8)(hl:s.length<=1073741824)(hQ:Q (.bool (dotB s)) H):PC Tryz.prog E 236 [.str s] H Q:=by
 refine qab Tryz.func236 rfl [] [] (by kernel_rfl) (fun hB=>?_);simp[Tryz.ntmps236,Tryz.results236,List.replicate_succ];refine qjK E _ hE.2 s 46 hl ?_;obtain⟨h1,h2⟩:=qdZ 46 s;obtain⟨L,hL⟩:=exz (qbf 46 s);unfold dotB at hQ;rw[hL]at h1 h2 hQ⊢;simp;refine qaG (dtI H s L) (fun fr _=>L.length-(ai (aget fr 12)).toNat) ⟨rfl,0,by omega,by simp,friz⟩ ?_;rintro fr K ⟨rfl,i,hi,hS,x,rfl⟩;by_cases h:i<L.length
 ·obtain⟨g,hg⟩:∃g,L[i]? =some g:=⟨_,zqD h⟩
  have hat:=qcN hg;have hgl:=h2 g (zqH hg);have w1:IntKind.i64.wrap ((i:Int)+1)=i+1:=wiz;have hst:=qbv qgk L i g hg;have hsp:=qcl qgk L i g hg;simp[h,hat];refine qb1 E _ _ g 255 (by simp only[cap];omega) (by decide) (by decide) ?_;have hr:=qcz g 255 (by decide);by_cases he:(qah 10 255 g).2=0
  ·simp[he];refine qcx E _ hE.1 _ (by omega) (by omega) ?_;by_cases hd:itoa (qah 10 255 g).1=g
   ·have hok:qgk g=true:=by unfold qgk;simp[he,hd]
    simp[hd,w1];exact Klz ⟨rfl,i+1,by omega,by rw[hst,hS,hok];rfl,friz⟩
   ·have hok:qgk g=false:=by unfold qgk;simp[he,hd]
    have hd':(itoa (qah 10 255 g).1==g)=false:=by simpa using hd
    have hd2:(itoa (qah 10 255 g).1 !=g)=true:=by simpa using hd
    rw[hsp hok]at hQ;simp[hd',hd2];exact aQz hB (h6:=(by simpa using hQ))
  ·have hok:qgk g=false:=by unfold qgk;simp[he]
   have he1:((qah 10 255 g).2==0)=false:=by simpa using he
   have he2:((qah 10 255 g).2 !=0)=true:=by simpa using he
   rw[hsp hok]at hQ;simp[he1,he2];exact aQz hB (h6:=(by simpa using hQ))
 ·obtain rfl:i=L.length:=by omega
  rw[List.take_length]at hS;rw[hS,Bool.true_and]at hQ;simp;refine aQz hB (h6:=?_);have:((L.length:Int)==4)=(L.length==4):=by rw[Bool.eq_iff_iff];simp;omega
  rw[this];exact hQ
def grI(H:Hp)(s:List UInt8)(last:Bool)(L:List (List UInt8))(fr:List AV)(K:Hp):Prop:=K=H/\∃i:Nat,i<=L.length/\goG last L 0=goG last (L.drop i) (i:Int)/\
 ∃x:Nat->AV,fr=[.str s,.bool last,x 2,x 3,x 4,x 5,.int .i64 (i:Int),.sl false 1 (strs L),x 8,x 9,x 10,x 11,x 12,x 13,x 14,.sl false 1 (strs L),.int .i64 (L.length:Int),.int .i64 (i:Int),x 18,x 19,x 20,x 21,x 22,x 23,x 24,x 25,x 26,x 27,x 28,x 29,x 30,x 31,x 32,x 33,x 34,x 35,x 36,x 37,x 38,x 39,x 40,x 41,x 42,x 43,x 44,x 45,x 46,x 47,x 48,x 49,x 50,x 51,x 52,x 53,x 54,x 55,x 56,x 57,x 58,x 59,x 60]
def grI2(H:Hp)(s:List UInt8)(last:Bool)(L:List (List UInt8))(g:List UInt8)(i:Nat)(fr:List AV)(K:Hp):Prop:=K=H/\∃k:Nat,k<=g.length/\(g.take k).all (fun c=>decide (0<=hexT c))=true/\
 ∃x:Nat->AV,fr=[.str s,.bool last,x 2,x 3,x 4,x 5,.int .i64 (i:Int),.sl false 1 (strs L),x 8,.str g,x 10,x 11,x 12,x 13,x 14,.sl false 1 (strs L),.int .i64 (L.length:Int),.int .i64 (i:Int),x 18,x 19,x 20,x 21,x 22,x 23,x 24,x 25,x 26,x 27,x 28,x 29,x 30,x 31,x 32,x 33,x 34,x 35,x 36,x 37,x 38,x 39,x 40,x 41,x 42,x 43,x 44,x 45,x 46,.int .i64 (g.length:Int),.int .i64 (k:Int),x 49,x 50,x 51,x 52,x 53,x 54,x 55,x 56,x 57,x 58,x 59,x 60]
theorem qfQ(hE:PE E)(s:List UInt8)(last:Bool)(hl:s.length<=1073741824)(hQ:∀v ok,qbC s last=(v,ok)->Q (.tup [.int .i64 v,.bool ok]) H):PC Tryz.prog E 226 [.str s,.bool last] H Q:=by
 refine qab Tryz.func226 rfl [] [] (by kernel_rfl) (fun hB=>?_);by_cases h0:s=[]
 ·subst h0;simp[Tryz.ntmps226,Tryz.results226,List.replicate_succ];exact aQz hB (h6:=(hQ 0 true rfl))
 have h0':(s==[])=false:=by simpa using h0
 simp[Tryz.ntmps226,Tryz.results226,List.replicate_succ,h0'];refine qjK E _ hE.2 s 58 hl ?_;obtain⟨h1,h2⟩:=qdZ 58 s;have fin:∀v ok,goG last (qbf 58 s) 0=(v,ok)->Q (.tup [.int .i64 v,.bool ok]) H:=fun v ok h=>hQ v ok (by unfold qbC;rw[if_neg h0];exact h);obtain⟨L,hL⟩:=exz (qbf 58 s);rw[hL]at h1 h2 fin⊢;clear hQ;simp;refine qaG (grI H s last L) (fun fr _=>L.length-(ai (aget fr 17)).toNat) ⟨rfl,0,by omega,by simp,friz⟩ ?_;rintro fr K ⟨rfl,i,hi,hS,x,rfl⟩;by_cases h:i<L.length
 ·obtain⟨g,hg⟩:∃g,L[i]? =some g:=⟨_,zqD h⟩
  have hat:=qcN hg;have hgl:=h2 g (zqH hg);have w1:IntKind.i64.wrap ((i:Int)+1)=i+1:=wiz;have w2:IntKind.i64.wrap ((i:Int)+2)=i+2:=wiz;have w3:IntKind.i64.wrap ((L.length:Int)-1)=L.length-1:=wiz;rw[qpe L i g hg,goG]at hS
  have hem:(L.drop (i+1)).isEmpty=((i:Int)==(L.length:Int)-1):=by
   rw[Bool.eq_iff_iff];simp;omega
  rw[hem]at hS;by_cases hcd:(last&&((i:Int)==(L.length:Int)-1))=true
  ·have hla:last=true:=by simp only[Bool.and_eq_true]at hcd;exact hcd.1
   have his:((i:Int)==(L.length:Int)-1)=true:=by simp only[Bool.and_eq_true]at hcd;exact hcd.2
   subst hla;rw[his]at hS;simp[h,hat,w3,his];refine qjo E _ g 46 ?_;cases hc46:g.contains 46 with
   |true=>
    rw[hc46,if_pos (by simp)]at hS;simp[w2];refine qje E _ hE g (by omega) ?_;simp;exact aQz hB (h6:=(fin _ _ hS))
   |false=>
    rw[hc46,if_neg (by simp)]at hS;simp;clear his hcd;by_cases hlen:g.length<1\/4<g.length
    ·rw[if_pos hlen]at hS;by_cases q1:g.length<1
     ·have q2:g=[]:=List.length_eq_zero_iff.1 (by omega);simp[q2];exact aQz hB (h6:=(fin _ _ hS))
     ·have q2:¬(g.length:Int)<1:=by omega
      have q3:(4:Int)<g.length:=by omega
      simp[q2,q3];exact aQz hB (h6:=(fin _ _ hS))
    ·rw[if_neg hlen]at hS;have q2:¬(g.length:Int)<1:=by omega
     have q3:¬(4:Int)<g.length:=by omega
     simp[q2,q3];refine qaG (grI2 _ s true L g i) (fun fr _=>g.length-(ai (aget fr 48)).toNat) ⟨rfl,0,by omega,by simp,friz⟩ ?_;rintro fr K ⟨rfl,k,hk,hA,y,rfl⟩;by_cases hkl:k<g.length
     ·obtain⟨c,hc⟩:∃c,g[k]? =some c:=⟨_,zqD hkl⟩
      have la:=qaP hc;have wk:IntKind.i64.wrap ((k:Int)+1)=k+1:=wiz;simp[hkl,la];refine qel E _ c ?_;by_cases hx:0<=hexT c
      ·have hx':¬hexT c<0:=by omega
       have ha:=qbv (fun c=>decide (0<=hexT c)) g k c hc;simp[hx',wk];exact Klz ⟨rfl,k+1,by omega,by rw[ha,hA];simpa using hx,friz⟩
      ·have hx':hexT c<0:=by omega
       have ha:=qcl (fun c=>decide (0<=hexT c)) g k c hc (by simpa using hx);rw[ha,if_neg (by simp)]at hS;simp[hx'];exact aQz hB (h6:=(fin _ _ hS))
     ·obtain rfl:k=g.length:=by omega
      rw[List.take_length]at hA;rw[hA,if_pos rfl]at hS;simp[w1];exact Klz ⟨rfl,i+1,by omega,by rw[hS];simp,friz⟩
  ·have hcd':(last&&((i:Int)==(L.length:Int)-1))=false:=by simpa using hcd
   rw[hcd',Bool.false_and,if_neg (by simp)]at hS
   have hpath:last=false\/(last=true/\((i:Int)==(L.length:Int)-1)=false):=by
    cases last
    ·exact .inl rfl
    ·exact .inr ⟨rfl,by simpa using hcd'⟩
   clear hcd hcd';by_cases hlen:g.length<1\/4<g.length
   ·rw[if_pos hlen]at hS;by_cases q1:g.length<1
    ·have q2:(g.length:Int)<1:=by omega
     rcases hpath with rfl|⟨rfl,his⟩
     ·simp[h,hat,w3,q2];exact aQz hB (h6:=(fin _ _ hS))
     ·simp[h,hat,w3,q2,his];exact aQz hB (h6:=(fin _ _ hS))
    ·have q2:¬(g.length:Int)<1:=by omega
     have q3:(4:Int)<g.length:=by omega
     rcases hpath with rfl|⟨rfl,his⟩
     ·simp[h,hat,w3,q2,q3];exact aQz hB (h6:=(fin _ _ hS))
     ·simp[h,hat,w3,q2,q3,his];exact aQz hB (h6:=(fin _ _ hS))
   ·rw[if_neg hlen]at hS;have q2:¬(g.length:Int)<1:=by omega
    have q3:¬(4:Int)<g.length:=by omega
    rcases hpath with rfl|⟨rfl,his⟩
    ·simp[h,hat,w3,q2,q3];refine qaG (grI2 _ s false L g i) (fun fr _=>g.length-(ai (aget fr 48)).toNat) ⟨rfl,0,by omega,by simp,friz⟩ ?_;rintro fr K ⟨rfl,k,hk,hA,y,rfl⟩;by_cases hkl:k<g.length
     ·obtain⟨c,hc⟩:∃c,g[k]? =some c:=⟨_,zqD hkl⟩
      have la:=qaP hc;have wk:IntKind.i64.wrap ((k:Int)+1)=k+1:=wiz;simp[hkl,la];refine qel E _ c ?_;by_cases hx:0<=hexT c
      ·have hx':¬hexT c<0:=by omega
       have ha:=qbv (fun c=>decide (0<=hexT c)) g k c hc;simp[hx',wk];exact Klz ⟨rfl,k+1,by omega,by rw[ha,hA];simpa using hx,friz⟩
      ·have hx':hexT c<0:=by omega
       have ha:=qcl (fun c=>decide (0<=hexT c)) g k c hc (by simpa using hx);rw[ha,if_neg (by simp)]at hS;simp[hx'];exact aQz hB (h6:=(fin _ _ hS))
     ·obtain rfl:k=g.length:=by omega
      rw[List.take_length]at hA;rw[hA,if_pos rfl]at hS;simp[w1];exact Klz ⟨rfl,i+1,by omega,by rw[hS];simp,friz⟩
    ·simp[h,hat,w3,q2,q3,his];refine qaG (grI2 _ s true L g i) (fun fr _=>g.length-(ai (aget fr 48)).toNat) ⟨rfl,0,by omega,by simp,friz⟩ ?_;rintro fr K ⟨rfl,k,hk,hA,y,rfl⟩;by_cases hkl:k<g.length
     ·obtain⟨c,hc⟩:∃c,g[k]? =some c:=⟨_,zqD hkl⟩
      have la:=qaP hc;have wk:IntKind.i64.wrap ((k:Int)+1)=k+1:=wiz;simp[hkl,la];refine qel E _ c ?_;by_cases hx:0<=hexT c
      ·have hx':¬hexT c<0:=by omega
       have ha:=qbv (fun c=>decide (0<=hexT c)) g k c hc;simp[hx',wk];exact Klz ⟨rfl,k+1,by omega,by rw[ha,hA];simpa using hx,friz⟩
      ·have hx':hexT c<0:=by omega
       have ha:=qcl (fun c=>decide (0<=hexT c)) g k c hc (by simpa using hx);rw[ha,if_neg (by simp)]at hS;simp[hx'];exact aQz hB (h6:=(fin _ _ hS))
     ·obtain rfl:k=g.length:=by omega
      rw[List.take_length]at hA;rw[hA,if_pos rfl]at hS;simp[w1];exact Klz ⟨rfl,i+1,by omega,by rw[hS];simp,friz⟩
 ·obtain rfl:i=L.length:=by omega
  rw[List.drop_length,goG]at hS;simp;exact aQz hB (h6:=(fin _ _ hS))
theorem qfR(s:List UInt8)(last:Bool)(hl:s.length<=1073741824):0<=(qbC s last).1/\(qbC s last).1<=2147483648:=by
 refine⟨qk0 s last,?_⟩;unfold qbC;split
 ·simp
 ·have:=(qmK last (qbf 58 s) 0 (by omega)).2;have:=(qdZ 58 s).1;omega
theorem qid(hE:PE E)(s:List UInt8)(hl:s.length<=1073741824)(hQ:Q (.bool (qrp s)) H):PC Tryz.prog E 211 [.str s] H Q:=by
 refine qab Tryz.func211 rfl [] [] (by kernel_rfl) (fun hB=>?_);simp[Tryz.ntmps211,Tryz.results211,List.replicate_succ];refine qnn E _ hE.2 s [58,58] hl ?_;rw[ix2];unfold qrp at hQ;have hln:=qkf 58 s;rcases hcut:cut2 58 s with⟨a,b,there⟩;rw[hcut]at hQ hln;simp only at hln;cases there with
 |false=>
  dsimp only at hQ;simp;refine qfQ E _ hE s true hl (fun v ok hg=>?_);rw[hg]at hQ;cases ok
  ·simp;exact aQz hB (h6:=hQ)
  ·simp;exact aQz hB (h6:=(by simpa using hQ))
 |true=>
  dsimp only at hQ;simp;have r1:=qfR a false (by omega);have r2:=qfR b true (by omega);refine qfQ E _ hE a false (by omega) (fun v ok hg=>?_);rw[hg]at hQ r1;simp;refine qfQ E _ hE b true (by omega) (fun u ok2 hg2=>?_);rw[hg2]at hQ r2;simp only at r1 r2;have w:IntKind.i64.wrap (v+u)=v+u:=wiz;cases ok
  ·simp;exact aQz hB (h6:=(by simpa using hQ))
  ·cases ok2
   ·simp;exact aQz hB (h6:=(by simpa using hQ))
   ·simp[w];exact aQz hB (h6:=(by simpa using hQ))
theorem qed(hE:PE E)(s:List UInt8)(hl:s.length<=1073741824)(hQ:Q (.bool (qif s)) H):PC Tryz.prog E 189 [.str s] H Q:=by
 refine qab Tryz.func189 rfl [] [] (by kernel_rfl) (fun hB=>?_);simp[Tryz.ntmps189,Tryz.results189,List.replicate_succ];refine qeZ E _ s 91 ?_;unfold qif at hQ;by_cases h91:s.head? =some 91
 ·rw[if_pos h91]at hQ;simp[h91];refine qig E _ s 93 ?_;by_cases h93:s.getLast? =some 93
  ·have h2:2<=s.length:=by
    match s,h91,h93 with
    |[a],h91,h93=>simp at h91 h93;rw[h91]at h93;cases h93
    |_::_::_,_,_=>simp
   have w:IntKind.i64.wrap ((s.length:Int)-1)=((s.length-1:Nat):Int):=by rw[qax (by omega) (by omega)];omega
   have q1:1<=s.length-1:=by omega
   have e:(s.tail.take (s.length-1-1))=s.tail.dropLast:=by rw[List.dropLast_eq_take,List.length_tail]
   rw[h93]at hQ;simp[h93,w,q1,e];refine qid E _ hE _ (by simp;omega) ?_;simp;exact aQz hB (h6:=(by simpa using hQ))
  ·have h93':(s.getLast? ==some 93)=false:=by simpa using h93
   rw[h93']at hQ;simp[h93'];exact aQz hB (h6:=(by simpa using hQ))
 ·rw[if_neg h91]at hQ;have h91':(s.head? ==some 91)=false:=by simpa using h91
  by_cases hne:s=[]
  ·subst hne;simp;exact aQz hB (h6:=(by simpa using hQ))
  ·have hne':(s !=[])=true:=by simpa using hne
   have hie:s.isEmpty=false:=by simpa using hne
   simp[h91',hne'];refine qe6 E _ s 3 qkY qmk hl ?_;have e:((qbg qkY s:Int)==(s.length:Int))=(qbg qkY s==s.length):=by rw[Bool.eq_iff_iff];simp;omega
   rw[hie,Bool.not_false,Bool.true_and,<-e]at hQ;simp;exact aQz hB (h6:=hQ)
def finA(host port:List UInt8):List UInt8×Int×Int:=
 if qif host=false\/5<port.length then([],0,52)else if port=[]then(low host,-1,0)else if(qah 10 65535 port).2≠0 then([],0,52)else(low host,(qah 10 65535 port).1,0)
theorem qqX{s:List UInt8}{c:UInt8}(h:s.head? =some c):lat s 0=some c:=by
 cases s with
 |nil=>cases h
 |cons a r=>simpa[lat]using h
theorem qck (hE : PE E) (s : List UInt8) (hl : s.length ≤ 1073741824) (hQ : ∀ h p e, qbE s = (h, p, e) → -1 ≤ p → p ≤ 65535 → h.length ≤ 1073741824 → Q (.tup [.str h, .int .i64 p, .int .i64 e]) H) : PC Tryz.prog E 163 [.str s] H Q := by
  refine qab Tryz.func163 rfl [] [] (by kernel_rfl) (fun hB => ?_)
  have bad : qbE s = ([], 0, 52) → Q (.tup [.str [], .int .i64 0, .int .i64 52]) H := fun h => hQ _ _ _ h (by decide) (by decide) (by simp)
  simp [Tryz.ntmps163, Tryz.results163, List.replicate_succ]
  refine qar E _ _ s 93 ?_
  simp
  refine qeZ E _ s 91 ?_
  obtain ⟨i1, i2⟩ := qjg s 93
  have ic := qfP s 93
  obtain ⟨t1, t2⟩ := qev (· != 93) s
  by_cases hb : s.head? = some 91 ∧ s.contains 93
  · obtain ⟨h91, h93⟩ := hb
    have h0 : 0 ≤ Lib.indexByte s 93 := by rw [h93] at ic; simpa using ic
    obtain ⟨e1, e2⟩ := i1 h0
    obtain ⟨n, hn⟩ := exz ((s.takeWhile (· != 93)).length)
    rw [hn] at e1 t1 t2
    have hib : Lib.indexByte s 93 = n := by omega
    have hn0 : 0 < n := by
      cases s with
      | nil => cases h91
      | cons a r =>
        simp at h91
        subst h91
        rw [List.takeWhile_cons_of_pos (by decide)] at hn
        rw [← hn]; simp
    have hnl : n < s.length := by
      have : s.drop n ≠ [] := by rw [t2]; exact e2
      rw [Ne, List.drop_eq_nil_iff] at this
      omega
    have w : IntKind.i64.wrap ((n : Int) + 1) = ((n + 1 : Nat) : Int) := by rw [qax (by omega) (by omega)]; omega
    have q1 : n + 1 ≤ s.length := by omega
    have htk : (s.drop (n + 1)).take (s.length - (n + 1)) = s.drop (n + 1) := zqE (by simp)
    have hcutA : qca s = (s.take (n + 1), (s.drop (n + 1)).drop 1, (s.drop (n + 1)).isEmpty || (s.drop (n + 1)).head? == some 58) := by
      unfold qca
      rw [if_pos ⟨h91, h93⟩, hn]
    have hlr : (s.drop (n + 1)).length = s.length - (n + 1) := zqI
    obtain ⟨R, hR⟩ := exz (s.drop (n + 1))
    obtain ⟨T, hT⟩ := exz (s.take (n + 1))
    have hTl : T.length ≤ s.length := by rw [← hT, zqJ]; omega
    rw [hR] at hcutA htk hlr
    rw [hT] at hcutA
    have hl1 : ((R.drop 1).length) ≤ s.length := by rw [zqI]; omega
    by_cases hR0 : R = []
    · subst hR0
      have hA : qbE s = finA T [] := by unfold qbE finA; rw [hcutA]; simp
      simp [h91, hib, hn0, w, q1, htk, hT, hR, -Int.natCast_add]
      refine qdX E _ [] 58 ?_
      obtain ⟨port, hport⟩ := exz ((if ([] : List UInt8).head? = some 58 then List.drop 1 ([] : List UInt8) else []))
      rw [hport]
      have hp00 : port = [] := hport.symm
      rw [← hp00] at hA
      have hpl : port.length ≤ s.length := by rw [hp00]; simp
      clear hport hp00
      simp
      refine qed E _ hE T (by omega) ?_
      cases hh : qif T with
      | false =>
        simp
        exact aQz hB (h6 := (bad (by rw [hA]; unfold finA; rw [if_pos (.inl hh)])))
      | true =>
        by_cases h5 : 5 < port.length
        · have h5' : (5 : Int) < port.length := by omega
          simp [h5']
          exact aQz hB (h6 := (bad (by rw [hA]; unfold finA; rw [if_pos (.inr h5)])))
        · have h5' : ¬ (5 : Int) < port.length := by omega
          by_cases hp0 : port = []
          · have hA2 : qbE s = (low T, -1, 0) := by rw [hA]; unfold finA; rw [if_neg (by rw [hh]; simp [h5]), if_pos hp0]
            simp [h5', hp0]
            refine qbn E _ _ T (by simp only [cap]; omega) ?_
            simp
            exact aQz hB (h6 := (hQ _ _ _ hA2 (by decide) (by decide) (by rw [qaF]; omega)))
          · have hp0' : (port != []) = true := by simpa using hp0
            have hr := qcz port 65535 (by decide)
            simp [h5', hp0']
            refine qb1 E _ _ port 65535 (by simp only [cap]; omega) (by decide) (by decide) ?_
            by_cases he : (qah 10 65535 port).2 = 0
            · have hA2 : qbE s = (low T, (qah 10 65535 port).1, 0) := by rw [hA]; unfold finA; rw [if_neg (by rw [hh]; simp [h5]), if_neg hp0, if_neg (by simp [he])]
              simp [he]
              refine qbn E _ _ T (by simp only [cap]; omega) ?_
              simp
              exact aQz hB (h6 := (hQ _ _ _ hA2 (by omega) (by omega) (by rw [qaF]; omega)))
            · have he' : ((qah 10 65535 port).2 != 0) = true := by simpa using he
              have he2 : ((qah 10 65535 port).2 == 0) = false := by simpa using he
              simp [he', he2]
              exact aQz hB (h6 := (bad (by rw [hA]; unfold finA; rw [if_neg (by rw [hh]; simp [h5]), if_neg hp0, if_pos he])))
    · have hR0' : (R != []) = true := by simpa using hR0
      by_cases h58 : R.head? = some 58
      · have ha := qqX h58
        have hRl : 0 < R.length := List.length_pos_iff.2 hR0
        have hA : qbE s = finA T (R.drop 1) := by unfold qbE finA; rw [hcutA, h58]; simp
        simp [h91, hib, hn0, w, q1, htk, hT, hR, hR0', ha, hRl, -Int.natCast_add]
        refine qdX E _ R 58 ?_
        rw [if_pos h58]
        obtain ⟨port, hport⟩ : ∃ p : List UInt8, R.drop 1 = p := ⟨_, rfl⟩
        rw [hport] at hA hl1 ⊢
        have hpl : port.length ≤ s.length := hl1
        simp
        refine qed E _ hE T (by omega) ?_
        cases hh : qif T with
        | false =>
          simp
          exact aQz hB (h6 := (bad (by rw [hA]; unfold finA; rw [if_pos (.inl hh)])))
        | true =>
          by_cases h5 : 5 < port.length
          · have h5' : (5 : Int) < port.length := by omega
            simp [h5']
            exact aQz hB (h6 := (bad (by rw [hA]; unfold finA; rw [if_pos (.inr h5)])))
          · have h5' : ¬ (5 : Int) < port.length := by omega
            by_cases hp0 : port = []
            · have hA2 : qbE s = (low T, -1, 0) := by rw [hA]; unfold finA; rw [if_neg (by rw [hh]; simp [h5]), if_pos hp0]
              simp [h5', hp0]
              refine qbn E _ _ T (by simp only [cap]; omega) ?_
              simp
              exact aQz hB (h6 := (hQ _ _ _ hA2 (by decide) (by decide) (by rw [qaF]; omega)))
            · have hp0' : (port != []) = true := by simpa using hp0
              have hr := qcz port 65535 (by decide)
              simp [h5', hp0']
              refine qb1 E _ _ port 65535 (by simp only [cap]; omega) (by decide) (by decide) ?_
              by_cases he : (qah 10 65535 port).2 = 0
              · have hA2 : qbE s = (low T, (qah 10 65535 port).1, 0) := by rw [hA]; unfold finA; rw [if_neg (by rw [hh]; simp [h5]), if_neg hp0, if_neg (by simp [he])]
                simp [he]
                refine qbn E _ _ T (by simp only [cap]; omega) ?_
                simp
                exact aQz hB (h6 := (hQ _ _ _ hA2 (by omega) (by omega) (by rw [qaF]; omega)))
              · have he' : ((qah 10 65535 port).2 != 0) = true := by simpa using he
                have he2 : ((qah 10 65535 port).2 == 0) = false := by simpa using he
                simp [he', he2]
                exact aQz hB (h6 := (bad (by rw [hA]; unfold finA; rw [if_neg (by rw [hh]; simp [h5]), if_neg hp0, if_pos he])))
      · obtain ⟨a, r, hRa⟩ : ∃ a r, R = a :: r := by
          cases R with
          | nil => exact absurd rfl hR0
          | cons a r => exact ⟨a, r, rfl⟩
        have ha58 : a ≠ 58 := fun e => h58 (by rw [hRa, e]; rfl)
        have hb2 := (qaU a 58 (by decide) 58 rfl ha58).2
        have ha : lat R 0 = some a := by rw [hRa]; rfl
        have hRl : 0 < R.length := List.length_pos_iff.2 hR0
        simp [h91, hib, hn0, w, q1, htk, hT, hR, hR0', ha, hRl, hb2, -Int.natCast_add]
        refine aQz hB (h6 := (bad ?_))
        unfold qbE
        rw [hcutA, if_pos]
        left
        have h58' : (R.head? == some 58) = false := by simpa using h58
        have hie : R.isEmpty = false := by simpa using hR0
        rw [hie, h58']; rfl
  · have hA : qbE s = finA (cut1 58 s).1 (cut1 58 s).2.1 := by
      unfold qbE finA qca
      rw [if_neg hb]
      simp
    have hcl : (cut1 58 s).1.length ≤ s.length ∧ (cut1 58 s).2.1.length ≤ s.length := by
      obtain ⟨u1, u2⟩ := qev (· != 58) s
      unfold cut1
      simp only
      rw [← u1, ← u2, zqJ, zqI, zqI]
      omega
    have go : ∀ g : Prop, g → g := fun _ h => h
    obtain ⟨T, hT⟩ := exz ((cut1 58 s).1)
    obtain ⟨port, hport⟩ := exz ((cut1 58 s).2.1)
    rw [hT, hport] at hA hcl
    have hpl := hcl.2
    have hTl := hcl.1
    by_cases h91 : s.head? = some 91
    · have h93 : s.contains 93 = false := by simpa using fun h => hb ⟨h91, h⟩
      rw [h93] at ic
      have h0 : ¬ 0 < Lib.indexByte s 93 := by
        have : ¬ 0 ≤ Lib.indexByte s 93 := by simpa using ic
        omega
      simp [h91, h0]
      refine qnn E _ hE.2 s [58] hl ?_
      rw [qkg, hT, hport]
      simp
      refine qed E _ hE T (by omega) ?_
      cases hh : qif T with
      | false =>
        simp
        exact aQz hB (h6 := (bad (by rw [hA]; unfold finA; rw [if_pos (.inl hh)])))
      | true =>
        by_cases h5 : 5 < port.length
        · have h5' : (5 : Int) < port.length := by omega
          simp [h5']
          exact aQz hB (h6 := (bad (by rw [hA]; unfold finA; rw [if_pos (.inr h5)])))
        · have h5' : ¬ (5 : Int) < port.length := by omega
          by_cases hp0 : port = []
          · have hA2 : qbE s = (low T, -1, 0) := by rw [hA]; unfold finA; rw [if_neg (by rw [hh]; simp [h5]), if_pos hp0]
            simp [h5', hp0]
            refine qbn E _ _ T (by simp only [cap]; omega) ?_
            simp
            exact aQz hB (h6 := (hQ _ _ _ hA2 (by decide) (by decide) (by rw [qaF]; omega)))
          · have hp0' : (port != []) = true := by simpa using hp0
            have hr := qcz port 65535 (by decide)
            simp [h5', hp0']
            refine qb1 E _ _ port 65535 (by simp only [cap]; omega) (by decide) (by decide) ?_
            by_cases he : (qah 10 65535 port).2 = 0
            · have hA2 : qbE s = (low T, (qah 10 65535 port).1, 0) := by rw [hA]; unfold finA; rw [if_neg (by rw [hh]; simp [h5]), if_neg hp0, if_neg (by simp [he])]
              simp [he]
              refine qbn E _ _ T (by simp only [cap]; omega) ?_
              simp
              exact aQz hB (h6 := (hQ _ _ _ hA2 (by omega) (by omega) (by rw [qaF]; omega)))
            · have he' : ((qah 10 65535 port).2 != 0) = true := by simpa using he
              have he2 : ((qah 10 65535 port).2 == 0) = false := by simpa using he
              simp [he', he2]
              exact aQz hB (h6 := (bad (by rw [hA]; unfold finA; rw [if_neg (by rw [hh]; simp [h5]), if_neg hp0, if_pos he])))
    · have h91' : (s.head? == some 91) = false := by simpa using h91
      simp [h91']
      refine qnn E _ hE.2 s [58] hl ?_
      rw [qkg, hT, hport]
      simp
      refine qed E _ hE T (by omega) ?_
      cases hh : qif T with
      | false =>
        simp
        exact aQz hB (h6 := (bad (by rw [hA]; unfold finA; rw [if_pos (.inl hh)])))
      | true =>
        by_cases h5 : 5 < port.length
        · have h5' : (5 : Int) < port.length := by omega
          simp [h5']
          exact aQz hB (h6 := (bad (by rw [hA]; unfold finA; rw [if_pos (.inr h5)])))
        · have h5' : ¬ (5 : Int) < port.length := by omega
          by_cases hp0 : port = []
          · have hA2 : qbE s = (low T, -1, 0) := by rw [hA]; unfold finA; rw [if_neg (by rw [hh]; simp [h5]), if_pos hp0]
            simp [h5', hp0]
            refine qbn E _ _ T (by simp only [cap]; omega) ?_
            simp
            exact aQz hB (h6 := (hQ _ _ _ hA2 (by decide) (by decide) (by rw [qaF]; omega)))
          · have hp0' : (port != []) = true := by simpa using hp0
            have hr := qcz port 65535 (by decide)
            simp [h5', hp0']
            refine qb1 E _ _ port 65535 (by simp only [cap]; omega) (by decide) (by decide) ?_
            by_cases he : (qah 10 65535 port).2 = 0
            · have hA2 : qbE s = (low T, (qah 10 65535 port).1, 0) := by rw [hA]; unfold finA; rw [if_neg (by rw [hh]; simp [h5]), if_neg hp0, if_neg (by simp [he])]
              simp [he]
              refine qbn E _ _ T (by simp only [cap]; omega) ?_
              simp
              exact aQz hB (h6 := (hQ _ _ _ hA2 (by omega) (by omega) (by rw [qaF]; omega)))
            · have he' : ((qah 10 65535 port).2 != 0) = true := by simpa using he
              have he2 : ((qah 10 65535 port).2 == 0) = false := by simpa using he
              simp [he', he2]
              exact aQz hB (h6 := (bad (by rw [hA]; unfold finA; rw [if_neg (by rw [hh]; simp [h5]), if_neg hp0, if_pos he])))
def tgV(fm pt:Int)(h pa qu:List UInt8)(hq:Bool):AV:= .agg [.int .i64 fm,.str h,.int .i64 pt,.str pa,.str qu,.bool hq]
theorem qgd(fm pt:Int)(h pa qu:List UInt8)(hq:Bool)(s:List UInt8)(at_:Nat)(hat:at_<=s.length)(hl:s.length<=1073741824)(hhl:h.length<=1073741824)
  (hQ:∀fm pt h pa qu hq v,Q (.tup [tgV fm pt h pa qu hq,.int .i64 v,.int .i64 (behE (s.drop at_))]) H):PC Tryz.prog E 164 [tgV fm pt h pa qu hq,.str s,.int .i64 (at_:Int)] H Q:=by
 refine qab Tryz.func164 rfl [] [] (by kernel_rfl) (fun hB=>?_);obtain⟨u,hu⟩:=exz (s.drop at_);have hul:u.length=s.length-at_:=by rw[<-hu,zqI]
 have htk:u.take (s.length-at_)=u:=zqE (by omega);have hnl:=qda qkL _ u (Nat.le_refl _);rw[hu]at hQ;have hQ':∀e,behE u=e->∀fm pt h pa qu hq v,Q (.tup [.agg [.int .i64 fm,.str h,.int .i64 pt,.str pa,.str qu,.bool hq],.int .i64 v,.int .i64 e]) H:=fun e he fm pt h pa qu hq v=>he▸hQ fm pt h pa qu hq v;clear hQ;simp[Tryz.ntmps164,Tryz.results164,List.replicate_succ,tgV,hat,hu,htk];refine qe6 E _ u 15 qkL qmj (by omega) ?_;obtain⟨n,hn⟩:=exz (qbg qkL u);rw[hn]at hnl⊢;obtain⟨k,hk⟩:=exz (at_+n);have w1:IntKind.i64.wrap ((at_:Int)+(n:Int))=(k:Int):=by rw[qax (by omega) (by omega)];omega
 have w2:IntKind.i64.wrap ((k:Int)+1)=((k+1:Nat):Int):=by rw[qax (by omega) (by omega)];omega
 have q1:at_<=k:=by omega
 have q2:k<=s.length:=by omega
 have hdk:u.drop n=s.drop k:=by rw[<-hu,List.drop_drop,hk]
 have htl:(u.take (k-at_)).length<=1073741824:=by rw[zqJ];omega
 obtain⟨P,hP⟩:=exz (u.take (k-at_));rw[hP]at htl;by_cases hP0:P=[]
 ·simp[w1,q1,q2,hu,hP,hP0];have hnn:True:=trivial;by_cases he:k=s.length
  ·have hb:behE u=0:=by unfold behE;rw[hn,hdk,he,List.drop_length]
   simp[he];exact aQy hB (h6:=(hQ' _ hb fm pt h [47] qu hq 0))
  ·have hks:k<s.length:=by omega
   have he':((k:Int)==(s.length:Int))=false:=by simp;omega
   obtain⟨c,hc⟩:∃c,s[k]? =some c:=⟨_,zqD hks⟩
   have la:=qaP hc;have hcd:=qay s k c hc;by_cases h63:c=63
   ·subst h63;have q3:k+1<=s.length:=hks;obtain⟨v,hv⟩:=exz (s.drop (k+1));have hvl:v.length=s.length-(k+1):=by rw[<-hv,zqI]
    have htv:v.take (s.length-(k+1))=v:=zqE (by omega);simp[he,he',la,w2,q3,hv,htv,-Int.natCast_add];refine qe6 E _ v 31 qgY qh5 (by omega) ?_;have hml:=qda qgY _ v (Nat.le_refl _);obtain⟨m,hm⟩:=exz (qbg qgY v);rw[hm]at hml⊢;obtain⟨k2,hk2⟩:=exz (k+1+m);have w3:IntKind.i64.wrap (((k+1:Nat):Int)+(m:Int))=(k2:Int):=by rw[qax (by omega) (by omega)];omega
    have q4:k+1<=k2:=by omega
    have q5:k2<=s.length:=by omega
    have hdv:v.drop m=s.drop k2:=by rw[<-hv,List.drop_drop,hk2]
    have hbe:behE u=match s.drop k2 with|[]=>0|d::_=>qeO d 54:=by
     unfold behE;rw[hn,hdk,hcd,hv];simp only;rw[hm,hdv,if_neg (by simp)]
     try (cases List.drop k2 s<;>rfl)
    have htl2:(v.take (k2-(k+1))).length<=1073741824:=by rw[zqJ];omega
    by_cases hlt:k2<s.length
    ·obtain⟨d,hd⟩:∃d,s[k2]? =some d:=⟨_,zqD hlt⟩
     rw[qay s k2 d hd]at hbe;simp[w3,q4,q5,hv,hlt,-Int.natCast_add];refine qdV E _ s k2 d 54 hd ?_;simp;exact aQy hB (h6:=(hQ' _ hbe 0 0 [] [] [] false k2))
    ·have:k2=s.length:=by omega
     rw[this,List.drop_length]at hbe;simp[w3,q4,q5,hv,hlt,-Int.natCast_add];exact aQy hB (h6:=(hQ' _ hbe fm pt h [47] (v.take (k2-(k+1))) true 0))
   ·have hb2:=(qaU c 63 (by decide) 63 rfl h63).2
    have hbe:behE u=qeO c 53:=by
     unfold behE;rw[hn,hdk,hcd];simp only;rw[if_pos h63]
    simp[he,he',la,hb2];refine qdV E _ s k c 53 hc ?_;simp;exact aQy hB (h6:=(hQ' _ hbe 0 0 [] [] [] false k))
 ·have hP0':(P==[])=false:=by simpa using hP0
  simp[w1,q1,q2,hu,hP,hP0'];have hnn:True:=trivial;by_cases he:k=s.length
  ·have hb:behE u=0:=by unfold behE;rw[hn,hdk,he,List.drop_length]
   simp[he];exact aQy hB (h6:=(hQ' _ hb fm pt h P qu hq 0))
  ·have hks:k<s.length:=by omega
   have he':((k:Int)==(s.length:Int))=false:=by simp;omega
   obtain⟨c,hc⟩:∃c,s[k]? =some c:=⟨_,zqD hks⟩
   have la:=qaP hc;have hcd:=qay s k c hc;by_cases h63:c=63
   ·subst h63;have q3:k+1<=s.length:=hks;obtain⟨v,hv⟩:=exz (s.drop (k+1));have hvl:v.length=s.length-(k+1):=by rw[<-hv,zqI]
    have htv:v.take (s.length-(k+1))=v:=zqE (by omega);simp[he,he',la,w2,q3,hv,htv,-Int.natCast_add];refine qe6 E _ v 31 qgY qh5 (by omega) ?_;have hml:=qda qgY _ v (Nat.le_refl _);obtain⟨m,hm⟩:=exz (qbg qgY v);rw[hm]at hml⊢;obtain⟨k2,hk2⟩:=exz (k+1+m);have w3:IntKind.i64.wrap (((k+1:Nat):Int)+(m:Int))=(k2:Int):=by rw[qax (by omega) (by omega)];omega
    have q4:k+1<=k2:=by omega
    have q5:k2<=s.length:=by omega
    have hdv:v.drop m=s.drop k2:=by rw[<-hv,List.drop_drop,hk2]
    have hbe:behE u=match s.drop k2 with|[]=>0|d::_=>qeO d 54:=by
     unfold behE;rw[hn,hdk,hcd,hv];simp only;rw[hm,hdv,if_neg (by simp)]
     try (cases List.drop k2 s<;>rfl)
    have htl2:(v.take (k2-(k+1))).length<=1073741824:=by rw[zqJ];omega
    by_cases hlt:k2<s.length
    ·obtain⟨d,hd⟩:∃d,s[k2]? =some d:=⟨_,zqD hlt⟩
     rw[qay s k2 d hd]at hbe;simp[w3,q4,q5,hv,hlt,-Int.natCast_add];refine qdV E _ s k2 d 54 hd ?_;simp;exact aQy hB (h6:=(hQ' _ hbe 0 0 [] [] [] false k2))
    ·have:k2=s.length:=by omega
     rw[this,List.drop_length]at hbe;simp[w3,q4,q5,hv,hlt,-Int.natCast_add];exact aQy hB (h6:=(hQ' _ hbe fm pt h P (v.take (k2-(k+1))) true 0))
   ·have hb2:=(qaU c 63 (by decide) 63 rfl h63).2
    have hbe:behE u=qeO c 53:=by
     unfold behE;rw[hn,hdk,hcd];simp only;rw[if_pos h63]
    simp[he,he',la,hb2];refine qdV E _ s k c 53 hc ?_;simp;exact aQy hB (h6:=(hQ' _ hbe 0 0 [] [] [] false k))
theorem qqV(l:List UInt8):(0<=Lib.indexAny l [47,63]->(Lib.indexAny l [47,63]).toNat=(l.takeWhile fun c=>c !=47&&c !=63).length)/\(Lib.indexAny l [47,63]<0->l.takeWhile (fun c=>c !=47&&c !=63)=l):=by
 induction l with
 |nil=>exact⟨fun h=>by simp[Lib.indexAny]at h,fun _=>rfl⟩
 |cons b l ih=>
  have hg:=Lib.indexAny_ge [47,63] l;rw[Lib.indexAny];by_cases hb:b=47\/b=63
  ·have hc:([47,63]:List UInt8).contains b=true:=by rcases hb with rfl|rfl<;>rfl
   rw[hc,if_pos rfl,List.takeWhile_cons_of_neg (by rcases hb with rfl|rfl<;>simp)];simp
  ·have hc:([47,63]:List UInt8).contains b=false:=by
    rw[Bool.eq_false_iff];intro h;simp at h;exact hb h
   rw[hc,if_neg (by simp),List.takeWhile_cons_of_pos (by simp;exact⟨fun e=>hb (.inl e),fun e=>hb (.inr e)⟩)];by_cases h2:Lib.indexAny l [47,63]= -1
   ·rw[if_pos (by simpa using h2)];exact⟨fun h3=>absurd h3 (by decide),fun _=>by rw[ih.2 (by omega)]⟩
   ·rw[if_neg (by simpa using h2)];refine⟨fun _=>?_,fun h3=>by omega⟩;have:=ih.1 (by omega);simp only[zqL];omega
theorem qlM(hE:PE E)(m s:List UInt8)(hl:s.length<=4194304)(hasc:∀c∈s,c.toNat<128)(hQ:∀fm pt h pa qu hq v,Q (.tup [tgV fm pt h pa qu hq,.int .i64 v,.int .i64 (tgtE m s)]) H):PC Tryz.prog E 144 [.str m,.str s] H Q:=by
 refine qab Tryz.func144 rfl [] [] (by kernel_rfl) (fun hB=>?_);have hQ':∀e,tgtE m s=e->∀fm pt h pa qu hq v,Q (.tup [.agg [.int .i64 fm,.str h,.int .i64 pt,.str pa,.str qu,.bool hq],.int .i64 v,.int .i64 e]) H:=fun e he fm pt h pa qu hq v=>he▸hQ fm pt h pa qu hq v;clear hQ;cases s with
 |nil=>
  simp[Tryz.ntmps144,Tryz.results144,List.replicate_succ];exact aQy hB (h6:=(hQ' 50 rfl 0 0 [] [] [] false 0))
 |cons c r=>
  obtain⟨s,hs⟩:∃s,s=c::r:=⟨_,rfl⟩
  have hT:tgtE m s=if m=[67,79,78,78,69,67,84]then(if(qbE s).2.2≠0\/(qbE s).2.1<0 then 52 else 0)
    else if c=47 then behE s
    else if s=[42]/\m=[79,80,84,73,79,78,83]then 0
    else if s.length<7\/low (s.take 7)≠[104,116,116,112,58,47,47]then 50
    else if(qbE ((s.drop 7).takeWhile fun c=>c !=47&&c !=63)).2.2≠0 then(qbE ((s.drop 7).takeWhile fun c=>c !=47&&c !=63)).2.2
    else behE ((s.drop 7).dropWhile fun c=>c !=47&&c !=63):=by rw[hs];rfl
  have hne:(s==[])=false:=by rw[hs];rfl
  have hla:lat s 0=some c:=by rw[hs];rfl
  have hlp:0<s.length:=by rw[hs];simp
  rw[<-hs]at hl hasc hQ'⊢;by_cases hm:m=[67,79,78,78,69,67,84]
  ·rw[if_pos hm]at hT;simp[Tryz.ntmps144,Tryz.results144,List.replicate_succ,hne,hm];refine qck E _ hE s (by omega) (fun h p e hA p1 p2 hhl=>?_);rw[hA]at hT;simp only at hT;by_cases he:e=0
   ·subst he;by_cases hp:p<0
    ·rw[if_pos (.inr hp)]at hT;simp[hp];exact aQy hB (h6:=(hQ' 52 hT 0 0 [] [] [] false 0))
    ·rw[if_neg (by simp;omega)]at hT;simp[hp];exact aQy hB (h6:=(hQ' 0 hT 3 p h [] [] false 0))
   ·have he':(e==0)=false:=by simpa using he
    have he2:(e !=0)=true:=by simpa using he
    rw[if_pos (.inl he)]at hT;simp[he',he2];exact aQy hB (h6:=(hQ' 52 hT 0 0 [] [] [] false 0))
  ·have hm':(m==[67,79,78,78,69,67,84])=false:=by simpa using hm
   rw[if_neg hm]at hT;by_cases h47:c=47
   ·subst h47;rw[if_pos rfl]at hT;simp[Tryz.ntmps144,Tryz.results144,List.replicate_succ,hne,hm',hla,hlp];refine qgd E _ 1 (-1) [] [] [] false s 0 (by omega) (by omega) (by simp) (fun fm pt h pa qu hq v=>?_);rw[List.drop_zero];simp[tgV];exact aQy hB (h6:=(hQ' _ hT fm pt h pa qu hq v))
   ·have b47:=(qaU c 47 (by decide) 47 rfl h47).1;rw[if_neg h47]at hT;by_cases hast:s=[42]/\m=[79,80,84,73,79,78,83]
    ·obtain⟨ha1,ha2⟩:=hast;rw[if_pos ⟨ha1,ha2⟩]at hT;have ha1':(s==[42])=true:=by simpa using ha1
     have ha2':(m==[79,80,84,73,79,78,83])=true:=by simpa using ha2
     simp[Tryz.ntmps144,Tryz.results144,List.replicate_succ,hne,hm',hla,hlp,b47,ha1',ha2'];exact aQy hB (h6:=(hQ' _ hT 4 (-1) [] [] [] false 0))
    ·rw[if_neg hast]at hT
     have hpath:(s==[42])=false\/((s==[42])=true/\(m==[79,80,84,73,79,78,83])=false):=by
      by_cases h1:s=[42]
      ·exact .inr ⟨by simpa using h1,by simpa using fun h=>hast ⟨h1,h⟩⟩
      ·exact .inl (by simpa using h1)
     by_cases h7:s.length<7
     ·rw[if_pos (.inl h7)]at hT;have h7':(s.length:Int)<7:=by omega
      rcases hpath with hp|⟨hp,hp2⟩
      ·simp[Tryz.ntmps144,Tryz.results144,List.replicate_succ,hne,hm',hla,hlp,b47,hp,h7'];exact aQy hB (h6:=(hQ' _ hT 0 0 [] [] [] false 0))
      ·simp[Tryz.ntmps144,Tryz.results144,List.replicate_succ,hne,hm',hla,hlp,b47,hp,hp2,h7'];exact aQy hB (h6:=(hQ' _ hT 0 0 [] [] [] false 0))
     ·have h7':¬(s.length:Int)<7:=by omega
      have h7'':7<=s.length:=by omega
      have hp:(s==[42])=false:=by
       rcases hpath with hp|⟨hp,_⟩
       ·exact hp
       ·have:s=[42]:=by simpa using hp
        rw[this]at h7;simp at h7
      have htk7:(s.drop 7).take (s.length-7)=s.drop 7:=zqE (by simp);simp[Tryz.ntmps144,Tryz.results144,List.replicate_succ,hne,hm',hla,hlp,b47,hp,h7',h7''];refine qjV E _ _ (s.take 7) [104,116,116,112,58,47,47] (by rw[zqJ];simp only[cap];omega) (by decide) ?_;have hlow:low [104,116,116,112,58,47,47]=[104,116,116,112,58,47,47]:=by decide
      rw[hlow];by_cases hsch:low (s.take 7)=[104,116,116,112,58,47,47]
      ·rw[if_neg (fun h=>h.elim h7 (fun h=>h hsch))]at hT;obtain⟨R,hR⟩:=exz (s.drop 7);have hRl:R.length=s.length-7:=by rw[<-hR,zqI]
       rw[hR]at hT htk7;simp[hsch,h7'',htk7,hR];refine qjf E _ R [47,63] (by omega) (by decide) (fun b hb=>hasc b (by rw[<-hR]at hb;exact List.mem_of_mem_drop hb)) (by decide) ?_;obtain⟨k1,k2⟩:=qqV R;obtain⟨a1,a2⟩:=qev (fun c=>c !=47&&c !=63) R;obtain⟨n,hn⟩:=exz ((R.takeWhile fun c=>c !=47&&c !=63).length);rw[hn]at a1 a2 k1
       have hnl:n<=R.length:=by
        rw[<-hn,<-a1,zqJ];omega
       have hge:=Lib.indexAny_ge [47,63] R;rw[<-a1,<-a2]at hT;have w7:IntKind.i64.wrap (7+(n:Int))=((7+n:Nat):Int):=by rw[qax (by omega) (by omega)];omega
       have hdd:s.drop (7+n)=R.drop n:=by rw[<-hR,List.drop_drop]
       have h7n:7+n<=s.length:=by omega
       have htl:(R.take n).length<=1073741824:=by rw[zqJ];omega
       rcases(by omega:0<=Lib.indexAny R [47,63]\/Lib.indexAny R [47,63]<0)with hi|hi
       ·have hi2:Lib.indexAny R [47,63]=n:=by have:=k1 hi;omega
        have hnn:¬(n:Int)<0:=by omega
        rw[hi2];simp[hnl];refine qck E _ hE (R.take n) htl (fun h p e hA p1 p2 hhl=>?_);rw[hA]at hT;simp only at hT;by_cases he:e=0
        ·subst he;rw[if_neg (by simp)]at hT;simp[w7,-Int.natCast_add];refine qgd E _ 2 p h [] [] false s (7+n) h7n (by omega) hhl (fun fm pt h pa qu hq v=>?_);rw[hdd];simp[tgV];exact aQy hB (h6:=(hQ' _ hT fm pt h pa qu hq v))
        ·have he':(e==0)=false:=by simpa using he
         have he2:(e !=0)=true:=by simpa using he
         rw[if_pos he]at hT;simp[he',he2];exact aQy hB (h6:=(hQ' _ hT 0 0 [] [] [] false 7))
       ·have hnR:R.length=n:=by rw[<-hn,k2 hi]
        have hi2:Lib.indexAny R [47,63]= -1:=by omega
        have htR:R.take R.length=R:=List.take_length;have hnn:(R.length:Int)=(n:Int):=by omega
        rw[hi2];simp[hnR];refine qck E _ hE (R.take n) htl (fun h p e hA p1 p2 hhl=>?_);rw[hA]at hT;simp only at hT;by_cases he:e=0
        ·subst he;rw[if_neg (by simp)]at hT;simp[w7,-Int.natCast_add];refine qgd E _ 2 p h [] [] false s (7+n) h7n (by omega) hhl (fun fm pt h pa qu hq v=>?_);rw[hdd];simp[tgV];exact aQy hB (h6:=(hQ' _ hT fm pt h pa qu hq v))
        ·have he':(e==0)=false:=by simpa using he
         have he2:(e !=0)=true:=by simpa using he
         rw[if_pos he]at hT;simp[he',he2];exact aQy hB (h6:=(hQ' _ hT 0 0 [] [] [] false 7))
      ·have hsch':(low (s.take 7)==[104,116,116,112,58,47,47])=false:=by simpa using hsch
       rw[if_pos (.inr hsch)]at hT;simp[hsch'];exact aQy hB (h6:=(hQ' _ hT 0 0 [] [] [] false 0))
theorem qiC(l:List Fld)(n:List UInt8):∀v∈allB l n,v.length<=fsz l:=by
 intro v hv;unfold allB at hv;obtain⟨f,hf,rfl⟩:=List.mem_map.1 hv;have hf2:=(List.mem_filter.1 hf).1;obtain⟨i,hi,he⟩:=List.mem_iff_getElem.1 hf2;have:=qdh (l:=l) (i:=i) (f:=f) (by rw[<-he];exact zqD hi);omega
def fhI(H:Hp)(l:List Fld)(old:Bool)(v:List UInt8)(fr:List AV)(K:Hp):Prop:=K=H/\∃i:Nat,i<=v.length/\(v.take i).any (fun b=>decide (b.toNat<33)||decide (126<b.toNat)||[34,35,47,60,62,63,64,92].contains b)=false/\
 ∃x:Nat->AV,fr=[.sl false 2 (flds l),.bool old,x 2,x 3,x 4,x 5,x 6,.sl false 1 (strs [v]),x 8,x 9,x 10,x 11,x 12,x 13,x 14,x 15,x 16,x 17,x 18,x 19,x 20,x 21,.int .i64 (v.length:Int),.int .i64 (i:Int),x 24,x 25,x 26,x 27,x 28,x 29,x 30,x 31,x 32,x 33,x 34,x 35,x 36,x 37,x 38,x 39,x 40,x 41,x 42,x 43,x 44,x 45]
theorem qo8(l:List Fld)(old:Bool)(hl:fsz l+l.length<=4194304)(hQ:∀h ok e,qhe l old=(h,ok,e)->Q (.tup [.str h,.bool ok,.int .i64 e]) H):PC Tryz.prog E 195 [.sl false 2 (flds l),.bool old] H Q:=by
 refine qab Tryz.func195 rfl [] [] (by kernel_rfl) (fun hB=>?_);simp[Tryz.ntmps195,Tryz.results195,List.replicate_succ];refine qiA E _ _ l [72,111,115,116] (by omega) (by decide) ?_;unfold qhe at hQ;have hsz:=qiC l [72,111,115,116];rcases hal:allB l [72,111,115,116]with _|⟨v,_|⟨w,t⟩⟩
 ·rw[hal]at hQ;cases old
  ·simp[strs];exact aQz hB (h6:=(hQ _ _ _ rfl))
  ·simp[strs];exact aQz hB (h6:=(hQ _ _ _ rfl))
 ·rw[hal]at hQ hsz;dsimp only at hQ;have hvl:=hsz v (.head _);have hat:lat (strs [v]) 0=some [AV.str v]:=rfl;simp[hat];refine qaG (fhI _ l old v) (fun fr _=>v.length-(ai (aget fr 23)).toNat) ⟨rfl,0,by omega,by simp,qal (by simp[strs])⟩ ?_;rintro fr K ⟨rfl,i,hi,hA,x,rfl⟩;by_cases h:i<v.length
  ·obtain⟨b,hb⟩:∃b,v[i]? =some b:=⟨_,zqD h⟩
   have la:=qaP hb;have w1:IntKind.i64.wrap ((i:Int)+1)=i+1:=wiz
   have hst:(v.take (i+1)).any (fun b=>decide (b.toNat<33)||decide (126<b.toNat)||[34,35,47,60,62,63,64,92].contains b)=((v.take i).any (fun b=>decide (b.toNat<33)||decide (126<b.toNat)||[34,35,47,60,62,63,64,92].contains b)||(decide (b.toNat<33)||decide (126<b.toNat)||[34,35,47,60,62,63,64,92].contains b)):=by
    rw[List.take_add_one,hb,List.any_append];simp
   have hsp:(decide (b.toNat<33)||decide (126<b.toNat)||[34,35,47,60,62,63,64,92].contains b)=true->v.any (fun b=>decide (b.toNat<33)||decide (126<b.toNat)||[34,35,47,60,62,63,64,92].contains b)=true:=fun hh=>List.any_eq_true.2 ⟨b,zqH hb,hh⟩;have i1:=qfP [34,35,47,60,62,63,64,92] b;by_cases h33:b.toNat<33
   ·have g1:(b.toNat:Int)<33:=by omega
    rw[hsp (by simp[h33])]at hQ;simp[h,hat,la,g1];exact aQz hB (h6:=(hQ _ _ _ rfl))
   ·have g1:¬(b.toNat:Int)<33:=by omega
    by_cases h126:126<b.toNat
    ·have g2:(126:Int)<b.toNat:=by omega
     rw[hsp (by simp[h126])]at hQ;simp[h,hat,la,g1,g2];exact aQz hB (h6:=(hQ _ _ _ rfl))
    ·have g2:¬(126:Int)<b.toNat:=by omega
     simp[h,hat,la,g1,g2];refine qar E _ _ _ b ?_;cases hc:([34,35,47,60,62,63,64,92]:List UInt8).contains b with
     |true=>
      rw[hc]at i1;have j1:0<=Lib.indexByte [34,35,47,60,62,63,64,92] b:=by simpa using i1
      rw[hsp (by rw[hc];simp)]at hQ;simp[j1];exact aQz hB (h6:=(hQ _ _ _ rfl))
     |false=>
      rw[hc]at i1;have j1:¬0<=Lib.indexByte [34,35,47,60,62,63,64,92] b:=by simpa using i1
      simp[j1,w1];exact Klz ⟨rfl,i+1,by omega,by rw[hst,hA,hc];simp[h33,h126],qal (by simp[strs])⟩
  ·obtain rfl:i=v.length:=by omega
   rw[List.take_length]at hA;rw[hA]at hQ;simp[hat];exact aQz hB (h6:=(hQ _ _ _ rfl))
 ·rw[hal]at hQ;have g:(1:Int)<(t.length:Int)+1+1:=by omega
  have g0:((t.length:Int)+1+1==0)=false:=by rw[beq_eq_false_iff_ne];omega
  simp[strs,g,g0];exact aQz hB (h6:=(hQ _ _ _ rfl))
end
end Go.Proofs.YtnnhdehmlkkfjaaGreatDoor
namespace Go.Proofs.YtnnhdehmlkkfjaaGreatDoor
open Go Go.RowKit
def SR.us(u:Int):SR->Prop
 | .go p1 _=>p1.used=u
 | .bad p1 _ _ _=>p1.used=u
theorem qmI(p:Prs):(qb7 p).us p.used:=by
 unfold qb7 qek qaz;dsimp only
 repeat' split
 all_goals rfl
theorem qlQ(p:Prs)(m:Md)(c:UInt8):(qfu p m c).us p.used:=by
 cases m
 ·show(qfv p c).us p.used;unfold qfv qcS qaz
  repeat' split
  all_goals rfl
 ·show(qb3 p c).us p.used;unfold qb3 qaz
  repeat' split
  all_goals rfl
 ·show(qcS p c).us p.used;unfold qcS qaz
  repeat' split
  all_goals rfl
 ·show(qdD p c).us p.used;unfold qdD qaz
  repeat' split
  all_goals rfl
 ·show(qc9 p c).us p.used;unfold qc9 qaz;dsimp only
  repeat' split
  all_goals rfl
 ·show(qb8 p c).us p.used;unfold qb8 qaz;dsimp only
  repeat' split
  all_goals first
   |rfl
   |exact qmI _
 ·show(qcZ p c).us p.used;unfold qcZ qek;dsimp only;split<;>rfl
 ·show(qbo p c).us p.used;unfold qbo qek qaz;split
  ·rfl
  ·dsimp only
   repeat' split
   all_goals rfl
theorem qqY{p p1:Prs}{m:Md}{c:UInt8}{st err at_:Int}(hs:qfu p m c= .bad p1 st err at_):p1.used=p.used:=by
 have:=qlQ p m c;rw[hs]at this;exact this
theorem qqk{p p1:Prs}{m:Md}{c:UInt8}{nx:Option Md}(hs:qfu p m c= .go p1 nx):p1.used=p.used:=by
 have:=qlQ p m c;rw[hs]at this;exact this
def SR.fit(n:Nat):SR->Prop
 | .go p1 nx=>fitP (n+1) {p1 with nx:=nx,used:=p1.used+1}
 | .bad ..=>True
theorem fitP.up{n:Nat}{p:Prs}(h:fitP n p)(nx:Option Md)(hnx:nx≠some .target)(hnl:nx≠some .line):fitP (n+1) {p with nx:=nx,used:=p.used+1}:=
 ⟨by have:=h.a;simp only;omega,by have:=h.b;simp only;omega,fun d hd=>⟨(h.c d hd).1,by have:=(h.c d hd).2;omega⟩,h.lt,h.lh,h.lf,h.lb,by have:=h.head;simp only;omega,by have:=h.left;simp only;omega,by have:=h.used;simp only;omega,by have:=h.beg;simp only;omega,h.asc,fun e=>absurd e hnx,fun e=>absurd e hnl,by have:=h.tr;simp only;omega,by have:=h.rb;simp only;omega⟩
theorem qmq{t:List UInt8}{c:UInt8}(h:∀k x,t[k]? =some x->qa5 k x=true)(hc:qa5 t.length c=true)(k:Nat)(x:UInt8)(hx:(t++[c])[k]? =some x):qa5 k x=true:=by
 rcases(by omega:k<t.length\/k=t.length\/t.length<k)with hk|rfl|hk
 ·rw[zqA hk]at hx;exact h k x hx
 ·simp at hx;subst hx;exact hc
 ·rw[zqB (by omega),List.getElem?_eq_none (by simp;omega)]at hx;cases hx
theorem qgB{n:Nat}{p:Prs}(h:fitP n p)(c:UInt8):(qcS p c).fit n:=by
 have ha:=h.a;unfold qcS qaz;split
 ·split
  ·trivial
  ·exact{h.up none (by decide) (by decide)with tx:=(fun e=>by cases e),ln:=(fun e=>by cases e),a:=by simp only[zqK,zqL,List.length_nil];omega}
 ·split
  ·exact{h.up none (by decide) (by decide)with tx:=(fun _ x hx=>by simp at hx),ln:=(fun e=>by cases e),a:=by simp only[List.length_nil];omega}
  ·trivial
theorem qmN(l:List Fld)(f:Fld):fsz (l++[f])=fsz l+(f.name.length+f.value.length):=by
 induction l with
 |nil=>simp[fsz]
 |cons a l ih=>simp only[List.cons_append,fsz,ih];omega
theorem qjY{l:List UInt8}(h:(qa4 l).2.2=0):(qa4 l).1.name.length+(qa4 l).1.value.length+1<=l.length:=by
 unfold qa4 at h⊢;split at h
 ·cases h
 ·split at h
  ·cases h
  ·split at h
   ·cases h
   ·split at h
    ·cases h
    ·split at h
     ·cases h
     ·split at h
      ·cases h
      ·rename_i h1 h2 h3 h4 h5 h6;rw[if_neg h1,if_neg h2,if_neg h3,if_neg h4,if_neg h5,if_neg h6];have:=qiJ (l.drop (run ncol l+1));simp only[zqJ,zqI]at this⊢;omega
theorem qqR(l:List UInt8)(hl:l.length<=8388608):0<=(qa4 l).2.1/\(qa4 l).2.1<=16777216:=by
 have h1:=qbQ ncol l;have h2:=qbQ fcB (l.drop (run ncol l+1));have h3:=qbQ qag (l.drop (run ncol l+1));rw[zqI]at h2 h3;unfold qa4
 repeat' split
 all_goals (simp only;omega)
theorem qkZ{n:Nat}{p:Prs}(h:fitP (n+1) p)(hu:p.used<=n):(qb7 p).fit n:=by
 unfold qb7 qek qaz;dsimp only;have h':∀nx,nx≠some .target->nx≠some .line->fitP (n+1) {p with nx:=nx,used:=p.used+1}:=fun nx hnx hnl=>{h with used:=(by have:=h.used;simp only;omega),tx:=(fun e=>absurd e hnx),ln:=fun e=>absurd e hnl}
 repeat' split
 all_goals first
  |trivial
  |skip
 ·exact{h' none (by decide) (by decide)with tx:=(fun e=>by cases e),ln:=(fun e=>by cases e),c:=fun d hd=>by cases hd;exact⟨qqL _ _ _ (by have:=h.lb;omega) (by have:=h.lh;omega) (by have:=h.lf;omega),Nat.zero_le _⟩}
 ·exact{h' none (by decide) (by decide)with tx:=(fun e=>by cases e),ln:=(fun e=>by cases e),left:=by have:=h.lb;simp only;omega}
 ·exact{h' none (by decide) (by decide)with rb:=h.b,tx:=(fun e=>by cases e),ln:=fun e=>by cases e}
theorem qoo{n:Nat}{p:Prs}(h:fitP n p)(m:Md)(hm:p.nx=some m)(c:UInt8):(qfu p m c).fit n:=by
 have ha:=h.a;have hu:=h.used;cases m
 ·show(qfv p c).fit n;unfold qfv;split
  ·exact h.up _ (by decide) (by decide)
  ·exact qgB (p:={p with state:=1}) {h with} c
 ·show(qb3 p c).fit n;unfold qb3 qaz;split
  ·trivial
  ·exact h.up _ (by decide) (by decide)
 ·exact qgB h c
 ·show(qdD p c).fit n;unfold qdD qaz;split
  ·split
   ·trivial
   ·exact{h.up none (by decide) (by decide)with ln:=(fun e=>by cases e),tx:=(fun _ x hx=>by simp only[List.mem_append,List.mem_singleton]at hx;exact hx.elim (fun hx=>h.tx hm x hx) (fun hx=>by subst hx;omega)),a:=by simp only[zqK,zqL,List.length_nil];omega}
  ·split
   ·exact{h.up none (by decide) (by decide)with tx:=(fun e=>by cases e),ln:=(fun _ k x hx=>by simp at hx),asc:=h.tx hm,a:=by simp only[List.length_nil];omega}
   ·trivial
 ·show(qc9 p c).fit n;unfold qc9 qaz;split
  ·trivial
  ·rename_i hgood;split
   ·exact{h.up none (by decide) (by decide)with tx:=(fun e=>by cases e),ln:=(fun _ k x hx=>qmq (h.ln hm) (by simpa using hgood) k x hx),a:=by simp only[zqK,zqL,List.length_nil];omega}
   ·dsimp only;split
    ·trivial
    ·split
     ·trivial
     ·exact{h.up none (by decide) (by decide)with tx:=(fun e=>by cases e),ln:=(fun e=>by cases e),a:=by simp only[List.length_nil];omega,beg:=by simp only;omega}
 ·show(qb8 p c).fit n;have hh:=h.head;unfold qb8 qaz;split
  ·trivial
  ·split
   ·trivial
   ·split
    ·exact{h.up none (by decide) (by decide)with tx:=(fun e=>by cases e),ln:=(fun e=>by cases e),a:=by simp only[zqK,zqL,List.length_nil];omega,head:=by simp only;omega}
    ·rename_i g1 g2 g3;dsimp only;split
     ·exact qkZ {h with tr:=(by have:=h.tr;simp only;omega),rb:=(by have:=h.rb;simp only;omega),tx:=(fun _ x hx=>by simp at hx),ln:=(fun _ k x hx=>by simp at hx),a:=by simp only[List.length_nil];omega,b:=by have:=h.b;simp only;omega,c:=fun d hd=>⟨(h.c d hd).1,by have:=(h.c d hd).2;omega⟩,head:=by simp only;omega,left:=by have:=h.left;simp only;omega,used:=by simp only;omega,beg:=by have:=h.beg;simp only;omega} hu.2
     ·split
      ·trivial
      ·split
       ·trivial
       ·rename_i g4 g5 g6;have h0:(qa4 p.text.dropLast).2.2=0:=by simpa using g6
        have h1:=qjY h0;rw[List.length_dropLast]at h1;exact{h.up none (by decide) (by decide)with tx:=(fun e=>by cases e),ln:=(fun e=>by cases e),a:=by simp only[qmN,zqK,zqL,List.length_nil];omega,head:=by simp only;omega,beg:=by simp only;omega}
 ·show(qcZ p c).fit n;have hb:=h.b;have hl:=h.left;unfold qcZ qek;dsimp only;split
  ·exact{h.up none (by decide) (by decide)with tx:=(fun e=>by cases e),ln:=(fun e=>by cases e),b:=by simp only[zqK,zqL,List.length_nil];omega,left:=by simp only;omega}
  ·exact{h.up none (by decide) (by decide)with tx:=(fun e=>by cases e),ln:=(fun e=>by cases e),rb:=(by simp only[zqK,zqL,List.length_nil];omega),b:=by simp only[zqK,zqL,List.length_nil];omega,left:=by simp only;omega}
 ·show(qbo p c).fit n;unfold qbo qek qaz;split
  ·trivial
  ·rename_i d hd;obtain⟨k1,k2⟩:=h.c d hd;obtain⟨f1,f2⟩:=qhk [c] d k1;have f3:(qa6 d [c]).2<=1:=by simp only[qa6];split<;>simp
   have hb:(qa6 d [c]).1.body.length<=(qa6 d [c]).1.total:=f1.2.1;have f4:(qa6 d [c]).1.total<=n+1:=by omega
   have f5:(qa6 d [c]).1.body.length<=n+1:=by omega
   have f6:(qa6 d [c]).1.trailers.length<=n+1:=by have:(qa6 d [c]).1.trailers.length<=(qa6 d [c]).1.total:=f1.2.2.1;omega
   have hc:∀d',some (qa6 d [c]).1=some d'->okD d'/\d'.total<=n+1:=fun d' hd'=>by cases hd';exact⟨f1,f4⟩
   dsimp only
   repeat' split
   all_goals first
    |trivial
    |exact{h.up none (by decide) (by decide)with tx:=(fun e=>by cases e),ln:=(fun e=>by cases e),c:=hc}
    |exact{h.up none (by decide) (by decide)with tx:=(fun e=>by cases e),ln:=(fun e=>by cases e),c:=hc,b:=f5,rb:=f5,tr:=f6}
theorem qpW{n:Nat}{p p1:Prs}{m:Md}{c:UInt8}{nx:Option Md}(h:fitP n p)(hm:p.nx=some m)(hs:qfu p m c= .go p1 nx):fitP (n+1) {p1 with nx:=nx,used:=p1.used+1}/\p1.used=p.used:=by
 have:=qoo h m hm c;rw[hs]at this;exact⟨this,qqk hs⟩
def qbS(st err at_:Int):Value:= .iface 29 (.agg #[.int .i64 st,.int .i64 err,.int .i64 at_])
theorem qk5(u:Value)(st err at_:Int)(w:World):Calls Tryz.prog 118 #[u,.int .i64 st,.int .i64 err,.int .i64 at_] w fun e w'=>e= .panicked [{v:=qbS st err at_,recovered:=false}]/\w'=w:=by
 go_enter Tryz.func118,Tryz.ntmps118
 go_wp2
 exact⟨rfl,rfl,rfl⟩
section
variable (E:Env){H:Hp}{Q:AV->Hp->Prop}{R:Value->Hp->Prop}
theorem Post.same{E:Env}{w:World}{β:Nat->Nat}{Rd:Nat->Nat->Prop}{Ow:Nat->Option Hold}{H:Hp}(h:HR E w β Rd Ow H):Post E w β Rd Ow H w β Rd Ow H (.raw undef) undef:=
 ⟨.raw _,.raw _,(fun g hg=>by cases hg),rfl,h,fun _ _=>rfl,Nat.le_refl _,fun g o hg=>⟨hg,rfl⟩,fun b _ h1 h2=>⟨rfl,h2,h1,fun _ h=>h⟩,rfl,rfl,rfl,Nat.le_refl _⟩
theorem qm5(x:AV)(st err at_:Int)(hR:R (qbS st err at_) H):PX Tryz.prog E 118 [x,.int .i64 st,.int .i64 err,.int .i64 at_] H Q R:=by
 refine⟨by kernel_rfl,fun w β Rd Ow cargs hr hcell hsz hargs=>?_⟩
 match cargs,hsz with
 |⟨[u0,u1,u2,u3]⟩,_=>
  have r1:=(hargs 1 _ u1 rfl rfl).1;have r2:=(hargs 2 _ u2 rfl rfl).1;have r3:=(hargs 3 _ u3 rfl rfl).1;cases r1;cases r2;cases r3
  exact(qk5 u0 st err at_ w).mono fun e w' ⟨he,hw⟩=>by
   subst hw;exact .inr ⟨_,H,β,Rd,Ow,he,hR,Post.same hr⟩
end
theorem qle(p q:Value)(w:World):CallsD Tryz.prog 43 #[p,q] .returning w fun e u' w'=>e= .returned (.tuple #[])/\u'= .returning/\w'=w:=by
 refine callsD_of_wpS Tryz.func43 rfl fun c₀ cs hu=>?_;apply wpS_seq;apply wpS_region;simp[wpOpsS,go_sem,recoverD,hu,Tryz.ntmps43,Exit.thenS];apply wpS_seq;apply wpS_region;simp[wpOpsS,go_sem,Array.replicate_succ,Exit.thenS];refine wpS_cond (t:=false) (by simp[Act.eval,Array.replicate]) ?_;simp only[Bool.false_eq_true,if_false];refine wpS_of_wp (wp_skip ?_);cases c₀;simp_all [bodyPostS,results,Tryz.results43]
theorem qkB(st err at_:Int)(X:TypeId)(w:World):(Instr.typeAssert (qbS st err at_) X 29 true).run Tryz.prog w= .ok (.tuple #[.agg #[.int .i64 st,.int .i64 err,.int .i64 at_],.bool true]) w:=by
 unfold Instr.typeAssert qbS;simp[go_sem]
def qnt(w:World)(g gn:Nat)(u n st err at_:Int):World:=
 ((((((w.setCell ⟨g,14,none⟩ (.int .i64 st)).setCell ⟨g,15,none⟩ (.int .i64 err)).setCell ⟨g,16,none⟩ (.int .i64 at_)).setCell ⟨g,5,none⟩ (.int .i64 5)).setCell ⟨g,4,none⟩ .nilFunc).setCell ⟨g,6,none⟩ (.int .i64 (wrap64 (u+1)))).setCell ⟨gn,0,none⟩ (.int .i64 (wrap64 (n+1)))
theorem qf9(gp gn g T T1 T2:Nat)(n u st err at_:Int)(c0 c1 c2 c3 c4 c5 c7 c8 c9 c10 c11 c12 c13 c14 c15 c16 c17 c18 c19 c20 c21 c22 c23 c24:Value)(w:World)(h0:w.heap[gp]? =some (.cells #[.pointer (some ⟨g,0,none⟩)] T1 (0,0)))(h1:w.heap[gn]? =some (.cells #[.int .i64 n] T2 (0,0)))
  (h2:w.heap[g]? =some (.cells #[c0,c1,c2,c3,c4,c5,.int .i64 u,c7,c8,c9,c10,c11,c12,c13,c14,c15,c16,c17,c18,c19,c20,c21,c22,c23,c24] T (0,0))) (hn1:gp≠g) (hn2:gn≠g):
  CallsD Tryz.prog 43 #[.pointer (some ⟨gp,0,none⟩),.pointer (some ⟨gn,0,none⟩)] (.panicking [{v:=qbS st err at_,recovered:=false}]) w fun e u' w'=>
   e= .returned (.tuple #[])/\u'= .panicking [{v:=qbS st err at_,recovered:=true}]/\w'=qnt w g gn u n st err at_:=by
 have k0:w.cell? ⟨gp,0,none⟩=some (.pointer (some ⟨g,0,none⟩)):=by simp[World.cell?,h0]
 have k1:w.cell? ⟨gn,0,none⟩=some (.int .i64 n):=by simp[World.cell?,h1]
 have k2:∀k v, #[c0,c1,c2,c3,c4,c5,.int .i64 u,c7,c8,c9,c10,c11,c12,c13,c14,c15,c16,c17,c18,c19,c20,c21,c22,c23,c24][k]? =some v->w.cell? ⟨g,k,none⟩=some v:=fun k v h=>by simpa[World.cell?,h2]using h
 have z0:∀k,w.frozen? ⟨g,k,none⟩=false:=fun k=>by simp[World.frozen?,h2]
 have z1:∀k,w.frozen? ⟨gn,k,none⟩=false:=fun k=>by simp[World.frozen?,h1]
 have q4:=k2 4 c4 rfl;have q5:=k2 5 c5 rfl;have q6:=k2 6 (.int .i64 u) rfl;have q14:=k2 14 c14 rfl;have q15:=k2 15 c15 rfl;have q16:=k2 16 c16 rfl;refine callsD_of_wpS Tryz.func43 rfl fun c₀ cs0 hu=>?_;apply wpS_seq;apply wpS_region;simp[wpOpsS,go_sem,recoverD,hu,Tryz.ntmps43,Exit.thenS];simp[Array.replicate_succ];refine wpS_of_wp ?_;have ha:=qkB st err at_;unfold qbS at ha⊢
 go_wp2
 exact⟨rfl,_,rfl,.tuple #[],by simp[results,Tryz.results43],rfl,rfl,rfl⟩
inductive Pln:AV->Prop
 |int (k n):Pln (.int k n)
 |bool (b):Pln (.bool b)
 |str (s):Pln (.str s)
 |agg (l) (h:∀x∈l,Pln x):Pln (.agg l)
 |tup (l) (h:∀x∈l,Pln x):Pln (.tup l)
attribute [simp] Pln.int Pln.bool Pln.str
@[simp] theorem pln_agg (l:List AV):Pln (.agg l)↔∀x∈l,Pln x:=⟨fun h=>by cases h;assumption,.agg l⟩
@[simp] theorem pln_tup (l:List AV):Pln (.tup l)↔∀x∈l,Pln x:=⟨fun h=>by cases h;assumption,.tup l⟩
section
variable {P:Program}{E:Env}{w:World}{β:Nat->Nat}{Rd:Nat->Nat->Prop}{Ow:Nat->Option Hold}{H:Hp}
end
section
variable {K:Hp}{c:Nat}(h:c<K.length)
include h
end
theorem qdy{N:Nat}{H J:Hp}(h:BndH N H)(h2:∀l∈J,∀x∈l,Bnd N x):BndH N (H++J):=fun l hl x hx=>by
 rcases List.mem_append.1 hl with h'|h'
 ·exact h l h' x hx
 ·exact h2 l h' x hx
theorem qeL{N M:Nat}{H:Hp}(h:BndH N H)(hm:N<=M):BndH M H:=fun l hl x hx=>(h l hl x hx).mono hm
theorem qen{N:Nat}{H:Hp}(h:BndH N H)(c:Nat){l:List AV}(hl:∀x∈l,Bnd N x):BndH N (H.set c l):=fun m hm x hx=>by
 rcases List.mem_or_eq_of_mem_set hm with h1|rfl
 ·exact h m h1 x hx
 ·exact hl x hx
theorem qa3{P:Program}{rs:List ResultVar}{n:Nat}{Q:AV->Hp->Prop}{fr:List AV}{H':Hp}{v:AV}(h1:ares P fr H' rs=some v)(h3:n<=H'.length)(h4:BndH H'.length H')(h5:Bnd H'.length v)(h6:Q v H'):
  qcc P rs n Q .ret fr H':=⟨v,v,H',H',[],h1,qaa _,qbl _,(List.append_nil H').symm,h3,h4,h5,h6⟩
def smp(y:AV):Prop:=Pln y/\y.one=true
@[simp] theorem smp_int (k n):smp (.int k n):=⟨.int _ _,rfl⟩
@[simp] theorem smp_bool (b):smp (.bool b):=⟨.bool _,rfl⟩
@[simp] theorem smp_str (s):smp (.str s):=⟨.str _,rfl⟩
section
variable {K:Hp}{G:Nat->Prop}{v:AV}{n k:Nat}{C C':Nat->AV->Prop}
end
end Go.Proofs.YtnnhdehmlkkfjaaGreatDoor
