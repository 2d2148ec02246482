/- Part 8 of the texts below the law. -/
import Derived.Test.YtnnhdehmlkkfjaaGreatDoorPe7
import Derived.Lib.ItoaLen
import Derived.Stop.LaidErr
set_option maxRecDepth 100000
set_option maxHeartbeats 16000000
set_option linter.unusedVariables false
set_option linter.unnecessarySimpa false
set_option linter.unusedSimpArgs false
set_option linter.unusedSectionVars false
namespace Go.Proofs.YtnnhdehmlkkfjaaGreatDoor
open Go Go.RowKit Go.Proofs
section
variable (E:Env)(H:Hp)(Q:AV->Hp->Prop)
theorem qlv(s:ByteArray)(most:Int)(hs:s.size<=140737488351232)(hm1: -9223372036854775808<=most)(hm2:most<=9223372036854775807)(W:World):
  Calls Tryz.prog 138 #[.string s,.int .i64 most,.int .i64 10] W fun e w'=>e= .returned (.tuple #[.int .i64 (qae 10 most s.data.toList).1,.int .i64 (qae 10 most s.data.toList).2])/\Frm (fun _=>False) W w':=by
 obtain⟨q,hq⟩:=exz (most.tdiv 10)
 have hq1:0<=most->10*q<=most/\most<10*q+10:=fun h=>by
  rw[Int.tdiv_eq_ediv_of_nonneg h]at hq;omega
 have HQ1:=Lib.hid hq1;clear hq1
 go_enter Tryz.func138,Tryz.ntmps138
 by_cases he:s.data.toList=[]
 ·have hn:qae 10 most s.data.toList=(0,11):=by rw[qae,if_pos he]
  have he':s.toList.isEmpty=true:=by rw[qa1,he];rfl
  go_wp2
  go_ret2
  rw[hn];exact⟨rfl,Frm.refl _ _⟩
 ·have he':s.toList.isEmpty=false:=by rw[qa1];simpa using he
  have HE:=Lib.hid he;clear he
  go_wp2
  clear he'
  go_loopw [8,9,18] (fun n big i wr=>∃(k:Nat) (v:Int) (bg:Bool),k<=s.size/\i= .int .i64 k/\n= .int .i64 v/\big= .bool bg/\qaV 10 (s.data.toList.take k)=true/\bg=decide (most<0\/most<qbf 10 (s.data.toList.take k))/\(bg=false->v=qbf 10 (s.data.toList.take k))/\Frm (fun _=>False) W wr) (fun _ _ i _=>s.size-(intOf i).toNat)
  case atStart=>
   refine⟨0,0,decide (most<0),Nat.zero_le _,rfl,rfl,rfl,rfl,?_,fun _=>rfl,Frm.refl _ _⟩;have:qbf 10 (s.data.toList.take 0)=0:=rfl;rw[this];simp
  case round=>
   obtain⟨k,v,bg,hk,rfl,rfl,rfl,hok,hbg,hv,hf⟩:=hrel;have HF:=Lib.hid hf;have HOK:=Lib.hid hok;have hnn:=qbw 10 (by omega) _ hok;obtain⟨m,hm⟩:∃m,m=qbf 10 (s.data.toList.take k):=⟨_,rfl⟩
   rw[<-hm]at hbg hv hnn;have HM:=Lib.hid hm;clear hf hok hm;by_cases hlt:k<s.size
   ·obtain⟨x,hx⟩:∃x,s.data.toList[k]? =some x:=⟨_,zqD (by rw[qad];omega)⟩
    have HX:=Lib.hid hx;clear hx;have hstep:=qcR 10 _ _ _ HX.out;have hostep:=qc0 10 _ _ _ HX.out;rw[<-HM.out]at hstep;rw[HOK.out,Bool.true_and]at hostep;have HB:=Lib.hid hbg;have HV:=Lib.hid hv;have hx16:=qiJ x;obtain⟨d,hd⟩:∃d,d=dig x:=⟨_,rfl⟩
    rw[<-hd]at hstep hostep hx16;have HS:=Lib.hid hstep;have HO:=Lib.hid hostep;clear hbg hv hstep hostep
    go_wp2_with fail
    refine(qi8 _ (Nat.le_trans (qel _ _ _) hs) wr).mono ?_;rintro e w2 ⟨rfl,hf2⟩;have h1:tx (low (s.extract k (k+1)).data.toList)=⟨#[lowB x]⟩:=by rw[qhx s k x HX.out];rfl
    rw[h1];clear h1;have HF2:=Lib.hid (HF.out.trans hf2);clear hf2
    go_wp2_with fail
    refine(qcl _ _ w2).mono ?_;rintro e w3 ⟨rfl,rfl⟩
    have h2:Lib.indexByte (⟨#[48,49,50,51,52,53,54,55,56,57,97,98,99,100,101,102]⟩:ByteArray).data.toList ((((⟨#[lowB x]⟩:ByteArray)[0]'(by show 0<1;decide)).toNat:Int).toNat.toUInt8)=d:=by
     rw[hd];show Lib.indexByte digs (((lowB x).toNat:Int).toNat.toUInt8)=Lib.indexByte digs (lowB x);simp
    rw[h2];clear h2;have HD:=Lib.hid hd;clear hd
    have hbad:(d<0\/10<=d)->qae 10 most s.data.toList=(0,11):=fun h=>by
     rw[qae,if_neg HE.out,if_pos (qdz 10 _ _ _ HX.out (by rw[<-HD.out];omega))]
    have HBad:=Lib.hid hbad;clear hbad;by_cases hd0:d<0
    ·go_wp2
     go_ret2
     rw[HBad.out (.inl hd0)];exact⟨rfl,HF2.out⟩
    ·by_cases hd1:10<=d
     ·go_wp2
      go_ret2
      rw[HBad.out (.inr hd1)];exact⟨rfl,HF2.out⟩
     ·have HOK':Hid (qaV 10 (s.data.toList.take (k+1))=true):=HO.out.trans (decide_eq_true ⟨by omega,by omega⟩);cases bg with
      |true=>
       go_wp2
       go_roundw
       case rel=>
        refine⟨k+1,v,true,by omega,by go_num,rfl,rfl,HOK'.out,?_,(fun h=>by cases h),HF2.out⟩;have h1:=of_decide_eq_true HB.out.symm;rw[HS.out];exact(decide_eq_true (by omega)).symm
       case measure=>simp[intOf];omega
      |false=>
       have hv:=HV.out rfl;subst hv;have h1:=of_decide_eq_false HB.out.symm;have h1a:0<=most:=by omega
       have h1b:v<=most:=by omega
       have h1c:=(HQ1.out h1a).1;have h1d:=(HQ1.out h1a).2;clear h1;by_cases hA:q<v
       ·go_wp2
        go_roundw
        case rel=>
         refine⟨k+1,v,true,by omega,by go_num,rfl,rfl,HOK'.out,?_,(fun h=>by cases h),HF2.out⟩;rw[HS.out];exact(decide_eq_true (by omega)).symm
        case measure=>simp[intOf];omega
       ·by_cases hB:most-d<v*10
        ·go_wp2
         go_roundw
         case rel=>
          refine⟨k+1,v,true,by omega,by go_num,rfl,rfl,HOK'.out,?_,(fun h=>by cases h),HF2.out⟩;rw[HS.out];exact(decide_eq_true (by omega)).symm
         case measure=>simp[intOf];omega
        ·go_wp2
         go_roundw
         case rel=>
          refine⟨k+1,v*10+d,false,by omega,by go_num,by go_num,rfl,HOK'.out,?_,(fun _=>HS.out.symm),HF2.out⟩;rw[HS.out];exact(decide_eq_false (by omega)).symm
         case measure=>simp[intOf];omega
   ·obtain rfl:k=s.size:=by omega
    have ht:s.data.toList.take s.size=s.data.toList:=zqE (by rw[qad];omega);have hok:=HOK.out;have hm:=HM.out;rw[ht]at hok hm
    have HN:Hid (qae 10 most s.data.toList=if most<0\/most<m then(0,12)else(m,0)):=by
     show qae 10 most s.data.toList=_;rw[qae,if_neg HE.out,if_neg (by rw[hok];decide),<-hm]
    clear hok hm ht;cases bg with
    |true=>
     have h1:=of_decide_eq_true hbg.symm;rw[if_pos h1]at HN;clear hbg hv h1
     go_wp2
     go_ret2
     rw[HN.out];exact⟨rfl,HF.out⟩
    |false=>
     have h1:=of_decide_eq_false hbg.symm;have hv':=hv rfl;subst hv';rw[if_neg h1]at HN;clear hbg hv h1
     go_wp2
     go_ret2
     rw[HN.out];exact⟨rfl,HF.out⟩
theorem qnU(s:ByteArray)(most:Int)(hs:s.size<=140737488351232)(hm1: -9223372036854775808<=most)(hm2:most<=9223372036854775807)(W:World):
  Calls Tryz.prog 109 #[.string s,.int .i64 most] W fun e w'=>e= .returned (.tuple #[.int .i64 (qae 10 most s.data.toList).1,.int .i64 (qae 10 most s.data.toList).2])/\Frm (fun _=>False) W w':=by
 go_enter Tryz.func109,Tryz.ntmps109
 go_wp2_with fail
 refine(qlv s most hs hm1 hm2 W).mono ?_;rintro e w1 ⟨rfl,hf⟩
 go_wp2
 go_ret2
 exact⟨rfl,hf⟩
theorem qcU(l:List UInt8)(most:Int)(hl:l.length<=cap)(hm1: -9223372036854775808<=most)(hm2:most<=9223372036854775807)(hQ:Q (.tup [.int .i64 (qae 10 most l).1,.int .i64 (qae 10 most l).2]) H):
  PC Tryz.prog E 109 [.str l,.int .i64 most] H Q:=by
 refine qau (v:= .tup [.int .i64 (qae 10 most l).1,.int .i64 (qae 10 most l).2]) (by kernel_rfl) (fun _=>True) (fun w hw=>trivial) (fun w β Rd cargs hS hsz hargs=>?_) (.tup _ (fun x hx=>by simp at hx;rcases hx with rfl|rfl<;>exact .int _ _)) rfl hQ;obtain⟨u,v,rfl,hu,hv⟩:=args2 hsz hargs;obtain⟨s,rfl,rfl,hs⟩:=qaC hu;obtain rfl:=qaD hv;refine(qnU s most (by rw[<-qad];exact hl) hm1 hm2 w).mono ?_;rintro e w' ⟨rfl,hf⟩;exact⟨_,rfl,hf,qmn⟩
def qr2(l:List UInt8)(H:Hp)(fr:List AV)(H':Hp):Prop:=H'=H/\∃(f i:Nat) (out:List (List UInt8)),f<=i/\i<=l.length/\out.length<=i/\qf2 l out f i/\∃x:Nat->AV,fr=[.str l,x 1,x 2,x 3,.sl true 1 (strs out),.int .i64 f,.int .i64 i,x 7,x 8,x 9,x 10,x 11,x 12,x 13,x 14,x 15,x 16,x 17,x 18,x 19,x 20,x 21,x 22,x 23,x 24,x 25,x 26,x 27,x 28,x 29,x 30,x 31,x 32,x 33,x 34,x 35,x 36,x 37,x 38,x 39,x 40,x 41,x 42,x 43,x 44,x 45,x 46,x 47,x 48,x 49,x 50,x 51,x 52,x 53,x 54,x 55,x 56,x 57,x 58,x 59,x 60,x 61,x 62,x 63,x 64,x 65,x 66,x 67,x 68,x 69,x 70,x 71,x 72,x 73]
def qr1(ps:List (List UInt8))(H:Hp)(fr:List AV)(H':Hp):Prop:=H'=H/\∃(i:Nat) (own:Bool),i<=ps.length/\∃x:Nat->AV,fr=[x 0,x 1,x 2,x 3,x 4,x 5,x 6,x 7,x 8,x 9,.sl true 1 (strs (qco (ps.take i))),x 11,x 12,x 13,x 14,x 15,x 16,x 17,x 18,x 19,x 20,x 21,x 22,x 23,x 24,x 25,x 26,x 27,x 28,x 29,x 30,x 31,x 32,x 33,x 34,x 35,x 36,x 37,x 38,x 39,x 40,x 41,x 42,x 43,x 44,x 45,x 46,x 47,x 48,x 49,x 50,x 51,x 52,x 53,x 54,x 55,x 56,x 57,.sl own 1 (strs ps),.int .i64 ps.length,.int .i64 i,x 61,x 62,x 63,x 64,x 65,x 66,x 67,x 68,x 69,x 70,x 71,x 72,x 73]
theorem qut(l:List UInt8)(hl:l.length<=4194304)(hQ:Q (.tup [.sl false 1 (strs (qdh l).1),.int .i64 (qdh l).2]) H):PC Tryz.prog E 137 [.str l] H Q:=by
 refine qac Tryz.func137 rfl [43,53,68] [] (by kernel_rfl) (fun hB=>?_);simp[Tryz.ntmps137,Tryz.results137,List.replicate_succ];refine qeo 4 1 (by rfl) ?_;simp only[List.set_cons_succ,List.set_cons_zero];refine qaB (qr2 l H) (fun fr _=>l.length-(ai (aget fr 6)).toNat) ⟨rfl,0,0,[],by omega,by omega,by simp,qhF l,qag (by simp[strs])⟩ ?_;rintro fr H' ⟨rfl,f,i,out,hf,hi,hout,hc,x,rfl⟩;have hm:out.length+1<=maxLen/\(out.length+1)*16<=140737488355328:=by unfold maxLen;omega
 by_cases h:i<l.length
 ·have t1:((i:Int)==(l.length:Int))=false:=by simp;omega
  have hw:IntKind.i64.wrap ((i:Int)+1)=i+1:=wiz;obtain⟨b,hb⟩:∃b,l[i]? =some b:=⟨_,zqD h⟩
  have hat:=qas hb;have hbn:=b.toNat_lt;by_cases b34:b.toNat=34
  ·have hx34:b=34:=UInt8.toNat_inj.1 b34;have hb':l[i]? =some 34:=by rw[hb,hx34]
   have t2:((b.toNat:Int)==34)=true:=by simp;omega
   have hd:(l.drop i).take (l.length-i)=l.drop i:=zqE (by rw[zqI];omega);simp[t1,hat,t2,hd,hi];refine qh5 E _ _ (l.drop i) (by rw[zqI];omega) ?_;cases hu:unquote (l.drop i)with
   |none=>
    have ha:qaU (l.drop i)=([],0,13):=by unfold qaU;rw[hu]
    have hbad:=qlC (qkO hc hf hb' hu);rw[hbad]at hQ;simp[ha];exact qaw hB rfl (qcg 1 _ rfl) (by simp[strs]) hQ
   |some p=>
    obtain⟨y,k⟩:=p;have ha:qaU (l.drop i)=(y,(k:Int),0):=by unfold qaU;rw[hu]
    have hk:=qbQ hu;rw[zqI]at hk;have hw2:IntKind.i64.wrap ((i:Int)+k)=i+k:=wiz;simp[ha,hw2];exact Klz ⟨rfl,f,i+k,out,by omega,by omega,by omega,qhG hc hf hb' hu,friz⟩
  ·have t2:((b.toNat:Int)==34)=false:=by simp;omega
   have ne34:b≠34:=by rintro rfl;exact b34 rfl
   by_cases b44:b.toNat=44
   ·have hx44:b=44:=UInt8.toNat_inj.1 b44;have hb':l[i]? =some 44:=by rw[hb,hx44]
    have t3:((b.toNat:Int)==44)=true:=by simp;omega
    simp[t1,hat,t2,t3,hf,hi,hm,hw];exact Klz ⟨rfl,i+1,i+1,out++[(l.drop f).take (i-f)],by omega,by omega,by simp;omega,qhI hc hf hb',qag (by simp[strs])⟩
   ·have t3:((b.toNat:Int)==44)=false:=by simp;omega
    have ne44:b≠44:=by rintro rfl;exact b44 rfl
    simp[t1,hat,t2,t3,hw];exact Klz ⟨rfl,f,i+1,out,by omega,by omega,by omega,qhH hc hf hb ne44 ne34,friz⟩
 ·obtain rfl:i=l.length:=by omega
  have hcut:=qkN hc hf (Nat.le_refl _);have t1:((l.length:Int)==(l.length:Int))=true:=by simp
  obtain⟨ps,hps⟩:=exz (out++[(l.drop f).take (l.length-f)]);have hpl:ps.length=out.length+1:=by rw[<-hps];simp
  rw[hps]at hcut;have hans:=qnB hcut;rw[hans]at hQ;simp[hf,hm];refine qeo 10 1 (by rfl) ?_;simp only[List.set_cons_succ,List.set_cons_zero];refine qaB (qr1 ps H') (fun fr _=>ps.length-(ai (aget fr 60)).toNat) ⟨rfl,0,true,by omega,qag (by rw[hpl,<-hps];simp[strs,qco])⟩ ?_;rintro fr H'' ⟨rfl,i,own,hi2,y,rfl⟩
  have hkl:(qco (ps.take i)).length<=ps.length:=by
   have:=qjb (ps.take i);rw[zqJ]at this;omega
  have hm2:(qco (ps.take i)).length+1<=maxLen/\((qco (ps.take i)).length+1)*16<=140737488355328:=by unfold maxLen;omega
  by_cases h2:i<ps.length
  ·obtain⟨p,hp⟩:∃b,ps[i]? =some b:=⟨_,zqD h2⟩
   have hat:=qcW hp;have hw:IntKind.i64.wrap ((i:Int)+1)=i+1:=wiz;have hst:=qnE ps i p hp
   have hpl2:p.length<=cap:=by
    have:=qhD _ [] l ps (Nat.le_refl _) hcut p (zqH hp);simp only[cap];simp at this;omega
   simp[h2,hat];refine qgM E _ _ p hpl2 ?_;cases ht:(qaJ p).isEmpty
   ·have hne:(qaJ p !=[])=true:=by rw[qhk _ 0,ht];rfl
    rw[ht]at hst;simp[hne,hm2,hw];exact Klz ⟨rfl,i+1,own,by omega,qag (by rw[hst];simp[strs])⟩
   ·have hne:(qaJ p !=[])=false:=by rw[qhk _ 0,ht];rfl
    rw[ht]at hst;simp[hne,hw];exact Klz ⟨rfl,i+1,own,by omega,qag (by rw[hst];simp[strs])⟩
  ·have ha:ps.take i=ps:=zqE (by omega);simp[h2];rw[ha];exact aQz hB (h6:=hQ)
theorem qmt(a b:List UInt8)(ha:a.length<=cap)(hb:b.length<=cap)(hQ:Q (.bool (low a==low b)) H):PC Tryz.prog E 88 [.str a,.str b] H Q:=by
 refine qac Tryz.func88 rfl [] [] (by kernel_rfl) (fun hB=>?_);simp[Tryz.ntmps88,Tryz.results88,List.replicate_succ];refine qb3 E _ _ a ha ?_;simp;refine qb3 E _ _ b hb ?_;simp;exact aQz hB (h6:=hQ)
end
section
open Go.Lib
def SE2(E : Env) : Prop := SE E ∧ E.Fix 1 ∧ TabIs Tryz.prog E.w0 "internal/strconv.uint64pow10" .u64 pow10Tab
theorem qfT : Tryz.prog.globalNamed "internal/strconv.uint64pow10" = some 1 := by kernel_rfl
theorem SE2.tab{E : Env}(h : SE2 E){w : World}(hw : ∀ b, E.Fix b → w.heap[b]? = E.w0.heap[b]?) : TabIs Tryz.prog w "internal/strconv.uint64pow10" .u64 pow10Tab := by
 have:=h.2.2;unfold TabIs World.var? at this⊢;rw[qfT]at this⊢;simp only[Option.bind_some]at this⊢;rw[hw _ h.2.1];exact this
section
variable (E:Env)(H:Hp)(Q:AV->Hp->Prop)
theorem qdi(n:Int)(h0: -9223372036854775808<=n)(h1:n<=9223372036854775807):(itoa n).length<=21/\(decDigits n.natAbs).length<=21:=by
 have h:=itoa_length_le n h0 h1;refine⟨h,?_⟩;unfold itoa at h;split at h
 ·simp at h;omega
 ·have:n.toNat=n.natAbs:=by omega
  rw[this]at h;exact h
theorem qux(hE:SE2 E)(n:Int)(h0: -9223372036854775808<=n)(h1:n<=9223372036854775807)(hQ:Q (.str (itoa n)) H):PC Tryz.prog E 80 [.int .i64 n] H Q:=by
 refine qau (v := .str (itoa n)) (by kernel_rfl) (fun w => TabIs Tryz.prog w "internal/strconv.uint64pow10" .u64 pow10Tab) (fun w hw => hE.tab hw) (fun w β Rd cargs hS hsz hargs => ?_) (.str _) rfl hQ
 obtain⟨u,rfl,hu⟩:=args1 hsz hargs;obtain rfl:=qaD hu;refine(Any.strconv_Itoa qr6 n h0 h1 w hS).mono ?_;rintro e w' ⟨rfl,k,os,rfl⟩;refine⟨_,rfl,⟨rfl,rfl,rfl,by simp[Go.Sort.grow],fun b hb _=>?_⟩,qdv _ (by have:=(qdi n h0 h1).1;unfold maxLen;omega)⟩;show(w.heap++os)[b]? =_;rw[Array.getElem?_append_left hb]
end
end
end Go.Proofs.YtnnhdehmlkkfjaaGreatDoor
namespace Go.Proofs.YtnnhdehmlkkfjaaGreatDoor
open Go Go.RowKit
theorem qlp(s:ByteArray)(hs:s.size<=140737488351232)(W:World):Calls Tryz.prog 68 #[.string s] W fun e w'=>e= .returned (.string (tx (low s.data.toList)))/\Frm (fun _=>False) W w':=by
 obtain⟨cap,w1,hconv,ho,hf,hw1⟩:=qcH (P:=Tryz.prog) W 9 82 5 s Tryz.underlying9 Tryz.underlying82 Tryz.underlying5 (by simp only[maxLen];omega);have HO:=Lib.hid ho;have HF:=Lib.hid hf;clear ho hf
 go_enter Tryz.func68,Tryz.ntmps68
 go_wp2
 clear hconv
 go_loopw [4] (fun i wr=>∃k:Nat,k<=s.size/\i= .int .i64 k/\OSl wr 1 (.slice (some ⟨W.heap.size,0,none⟩) s.size cap) s.size (u8s (low (s.data.toList.take k)++s.data.toList.drop k))/\Frm (fun _=>False) W wr) (fun i _=>s.size-(intOf i).toNat)
 case atStart=>exact⟨0,Nat.zero_le _,rfl,HO.out,HF.out⟩
 case round=>
  obtain⟨k,hk,rfl,ho,hf⟩:=hrel;have hb:W.heap.size<wr.heap.size:=ho.lt _ rfl;have HR:=Lib.hid ho;have HG:=Lib.hid hf;clear ho hf;by_cases hlt:k<s.size
  ·obtain⟨x,hx⟩:∃x,s.data.toList[k]? =some x:=⟨_,zqD (by rw[qad];omega)⟩
   obtain⟨hc,hz⟩:=HR.out.cellAt k x (qlz _ _ _ hx);rw[Nat.zero_add]at hc hz;have HX:=Lib.hid hx;clear hx;have hx8:x.toNat<256:=x.toNat_lt;by_cases h1:65<=x.toNat
   ·by_cases h2:x.toNat<=90
    ·go_wp2
     go_roundw
     case rel=>
      refine⟨k+1,by omega,by go_num,?_,HG.out.setNew (Nat.le_refl _) _⟩;have:=HR.out.set k hlt (.int .u8 ((lowB x).toNat:Int));rw[qeu x h1 h2,Nat.zero_add]at this;rw[<-qgx _ _ _ HX.out,qk3,qeu x h1 h2];exact this
     case measure=>simp[intOf];omega
    ·go_wp2
     go_roundw
     case rel=>
      refine⟨k+1,by omega,by go_num,?_,HG.out⟩;rw[<-qet _ _ _ HX.out (qfW x (by omega))];exact HR.out
     case measure=>simp[intOf];omega
   ·go_wp2
    go_roundw
    case rel=>
     refine⟨k+1,by omega,by go_num,?_,HG.out⟩;rw[<-qet _ _ _ HX.out (qfW x (by omega))];exact HR.out
    case measure=>simp[intOf];omega
  ·obtain rfl:k=s.size:=by omega
   have hr:=HR.out.toR;rw[zqE (by rw[qad];omega),List.drop_of_length_le (by rw[qad];omega),List.append_nil]at hr;have hback:=qb9 (P:=Tryz.prog) wr 82 9 5 _ _ _ _ Tryz.underlying82 Tryz.underlying5 Tryz.underlying9 hr
   go_wp2
   go_ret
   exact⟨rfl,HG.out⟩
theorem qbd(b:UInt8)(W:World):Calls Tryz.prog 64 #[.int .u8 b.toNat] W fun e w'=>e= .returned (.bool (qbX b))/\w'=W:=by
 go_enter Tryz.func64,Tryz.ntmps64
 have hb:=b.toNat_lt;by_cases h1:48<=b.toNat
 ·by_cases h2:b.toNat<=57
  ·have e1:qbX b=true:=decide_eq_true ⟨h1,h2⟩;rw[e1]
   go_wp2
   go_ret
   exact⟨by first|rfl|(simp<;>omega),rfl⟩
  ·have e1:qbX b=false:=decide_eq_false (fun h=>h2 h.2);rw[e1]
   go_wp2
   go_ret
   exact⟨by first|rfl|(simp<;>omega),rfl⟩
 ·have e1:qbX b=false:=decide_eq_false (fun h=>h1 h.1);rw[e1]
  go_wp2
  go_ret
  exact⟨by first|rfl|(simp<;>omega),rfl⟩
theorem qjY(b:UInt8)(W:World):Calls Tryz.prog 149 #[.int .u8 b.toNat] W fun e w'=>e= .returned (.bool (qaT b))/\w'=W:=by
 have hb:=b.toNat_lt;cases hd:qbX b
 ·by_cases h1:65<=b.toNat
  ·by_cases h2:b.toNat<=70
   ·have e1:qaT b=true:=by rw[qaT,hd];simp<;>omega
    rw[e1]
    go_enter Tryz.func149,Tryz.ntmps149
    go_wp2_with fail
    refine(qbd b W).mono ?_;rintro e w' ⟨rfl,rfl⟩;rw[hd];clear hd e1
    go_wp2
    go_ret
    exact⟨by first|rfl|(simp<;>omega),rfl⟩
   ·by_cases h3:97<=b.toNat
    ·by_cases h4:b.toNat<=102
     ·have e1:qaT b=true:=by rw[qaT,hd];simp<;>omega
      rw[e1]
      go_enter Tryz.func149,Tryz.ntmps149
      go_wp2_with fail
      refine(qbd b W).mono ?_;rintro e w' ⟨rfl,rfl⟩;rw[hd];clear hd e1
      go_wp2
      go_ret
      exact⟨by first|rfl|(simp<;>omega),rfl⟩
     ·have e1:qaT b=false:=by rw[qaT,hd];simp<;>omega
      rw[e1]
      go_enter Tryz.func149,Tryz.ntmps149
      go_wp2_with fail
      refine(qbd b W).mono ?_;rintro e w' ⟨rfl,rfl⟩;rw[hd];clear hd e1
      go_wp2
      go_ret
      exact⟨by first|rfl|(simp<;>omega),rfl⟩
    ·have e1:qaT b=false:=by rw[qaT,hd];simp<;>omega
     rw[e1]
     go_enter Tryz.func149,Tryz.ntmps149
     go_wp2_with fail
     refine(qbd b W).mono ?_;rintro e w' ⟨rfl,rfl⟩;rw[hd];clear hd e1
     go_wp2
     go_ret
     exact⟨by first|rfl|(simp<;>omega),rfl⟩
  ·have e1:qaT b=false:=by rw[qaT,hd];simp<;>omega
   rw[e1]
   go_enter Tryz.func149,Tryz.ntmps149
   go_wp2_with fail
   refine(qbd b W).mono ?_;rintro e w' ⟨rfl,rfl⟩;rw[hd];clear hd e1
   go_wp2
   go_ret
   exact⟨by first|rfl|(simp<;>omega),rfl⟩
 ·have e1:qaT b=true:=by rw[qaT,hd];simp<;>omega
  rw[e1]
  go_enter Tryz.func149,Tryz.ntmps149
  go_wp2_with fail
  refine(qbd b W).mono ?_;rintro e w' ⟨rfl,rfl⟩;rw[hd];clear hd e1
  go_wp2
  go_ret
  exact⟨by first|rfl|(simp<;>omega),rfl⟩
theorem qg2(b:UInt8)(W:World)(h:qaT b=true):Calls Tryz.prog 150 #[.int .u8 b.toNat] W fun e w'=>e= .returned (.int .i64 (val b))/\w'=W:=by
 have hb:=b.toNat_lt
 have h97:qbX b=false->97<=b.toNat\/(65<=b.toNat/\b.toNat<=70):=fun hd=>by
  rw[qaT,hd]at h;simp at h;omega
 have hd48:qbX b=true->48<=b.toNat:=fun hd=>(of_decide_eq_true hd).1;have H97:=Lib.hid h97;have H48:=Lib.hid hd48;clear h97 hd48 h;cases hd:qbX b
 ·have h3:=H97.out hd;have hv:val b=if 97<=b.toNat then(b.toNat:Int)-97+10 else(b.toNat:Int)-65+10:=by rw[val,hd];rfl
  rw[hv];clear hv;by_cases h4:97<=b.toNat
  ·rw[if_pos h4]
   go_enter Tryz.func150,Tryz.ntmps150
   go_wp2_with fail
   refine(qbd b W).mono ?_;rintro e w' ⟨rfl,rfl⟩;rw[hd];clear hd
   go_wp2
   go_ret
   exact⟨by first|rfl|(simp<;>omega),rfl⟩
  ·rw[if_neg h4]
   go_enter Tryz.func150,Tryz.ntmps150
   go_wp2_with fail
   refine(qbd b W).mono ?_;rintro e w' ⟨rfl,rfl⟩;rw[hd];clear hd
   go_wp2
   go_ret
   exact⟨by first|rfl|(simp<;>omega),rfl⟩
 ·have h3:=H48.out hd;have hv:val b=(b.toNat:Int)-48:=by rw[val,hd];rfl
  rw[hv];clear hv
  go_enter Tryz.func150,Tryz.ntmps150
  go_wp2_with fail
  refine(qbd b W).mono ?_;rintro e w' ⟨rfl,rfl⟩;rw[hd];clear hd
  go_wp2
  go_ret
  exact⟨by first|rfl|(simp<;>omega),rfl⟩
theorem qhV(s:ByteArray)(most:Int)(hs:s.size<=140737488351232)(hm1: -9223372036854775808<=most)(hm2:most<=9223372036854775807)(W:World):
  Calls Tryz.prog 124 #[.string s,.int .i64 10,.int .i64 most] W fun e w'=>e= .returned (.tuple #[.int .i64 (qae 10 most s.data.toList).1,.int .i64 (qae 10 most s.data.toList).2])/\w'=W:=by
 go_enter Tryz.func124,Tryz.ntmps124
 by_cases he:s.data.toList=[]
 ·have hn:qae 10 most s.data.toList=(0,11):=by rw[qae,if_pos he]
  have he':s.toList.isEmpty=true:=by rw[qa1,he];rfl
  go_wp2
  go_ret2
  rw[hn];exact⟨rfl,rfl⟩
 ·have he':s.toList.isEmpty=false:=by rw[qa1];simpa using he
  have HE:=Lib.hid he;clear he
  go_wp2
  clear he'
  go_loopw [8] (fun i wr=>∃(k:Nat),k<=s.size/\i= .int .i64 k/\qaV 10 (s.data.toList.take k)=true/\wr=W) (fun i _=>s.size-(intOf i).toNat)
  case atStart=>exact⟨0,Nat.zero_le _,rfl,rfl,rfl⟩
  case round=>
   obtain⟨k,hk,rfl,hok,rfl⟩:=hrel;have HOK:=Lib.hid hok;clear hok;by_cases hlt:k<s.size
   ·obtain⟨x,hx⟩:∃x,s.data.toList[k]? =some x:=⟨_,zqD (by rw[qad];omega)⟩
    have hxb:s[k]'hlt=x:=qh0 s k x hx hlt;have hostep:=qc0 10 _ _ _ hx;rw[HOK.out,Bool.true_and,<-qks]at hostep;have HX:=Lib.hid hx;have HO:=Lib.hid hostep;clear hx hostep
    go_wp2_with fail
    refine(qbd x wr).mono ?_;rintro e w' ⟨rfl,rfl⟩;cases hp:qbX x
    ·have hn:qae 10 most s.data.toList=(0,11):=by
      rw[qae,if_neg HE.out,if_pos (qdz 10 _ _ _ HX.out (of_decide_eq_false ((qks x).symm.trans hp)))]
     have HN:=Lib.hid hn;clear hn hp
     go_wp2
     go_ret2
     rw[HN.out];exact⟨rfl,rfl⟩
    ·have HO2:=Lib.hid (HO.out.trans hp);clear hp
     go_wp2
     go_roundw
     case rel=>exact⟨k+1,by omega,by go_num,HO2.out,by trivial⟩
     case measure=>simp[intOf];omega
   ·obtain rfl:k=s.size:=by omega
    have hall:=HOK.out;rw[zqE (by rw[qad];omega)]at hall;have HALL:=Lib.hid hall;clear hall HOK hlt hk
    go_wp2
    have HN:Hid (qae 10 most s.data.toList=if most<0\/most<qbf 10 s.data.toList then(0,12)else(qbf 10 s.data.toList,0)):=by
     show qae 10 most s.data.toList=_;rw[qae,if_neg HE.out,if_neg (by rw[HALL.out];decide)]
    obtain⟨wo,hwo⟩:∃wo:World,wo=wr:=⟨_,rfl⟩
    subst hwo
    go_loopw [9,10] (fun n i wr=>∃(k:Nat) (v:Int),k<=s.size/\i= .int .i64 k/\n= .int .i64 v/\v=qbf 10 (s.data.toList.take k)/\0<=v/\(0<k->v<=most)/\wr=wo) (fun _ i _=>s.size-(intOf i).toNat)
    case atStart=>exact⟨0,0,Nat.zero_le _,rfl,rfl,rfl,Int.le_refl _,(fun h=>absurd h (by omega)),rfl⟩
    case round=>
     obtain⟨k,v,hk,rfl,rfl,hv,hv0,hvm,rfl⟩:=hrel;have HV:=Lib.hid hv;have HM:=Lib.hid hvm;clear hv hvm;by_cases hlt:k<s.size
     ·obtain⟨x,hx⟩:∃x,s.data.toList[k]? =some x:=⟨_,zqD (by rw[qad];omega)⟩
      have hxb:s[k]'hlt=x:=qh0 s k x hx hlt
      have hd:0<=dig x/\dig x<10:=by
       have h:=HALL.out;unfold qaV at h;exact of_decide_eq_true (List.all_eq_true.1 h x (zqH hx))
      have hstep:=qcR 10 _ _ _ hx;rw[<-HV.out]at hstep;have hval:=qov x hd.1;have hmono:=qio 10 (by omega) s.data.toList HALL.out (k+1);obtain⟨d,hdd⟩:∃d,d=dig x:=⟨_,rfl⟩
      have hhex:qaT x=true:=by rw[qcy];exact decide_eq_true ⟨hd.1,by omega⟩
      rw[<-hdd]at hd hstep hval;rw[hstep]at hmono;obtain⟨q,hq⟩:=exz ((most-d).tdiv 10)
      have hq1:d<=most->10*q<=most-d/\most-d<10*q+10:=fun h=>by
       rw[Int.tdiv_eq_ediv_of_nonneg (by omega)]at hq;omega
      have HS:=Lib.hid hstep;have HQ1:=Lib.hid hq1;have HMono:=Lib.hid hmono;have HHex:=Lib.hid hhex;clear hx hdd hq1 hstep hmono hhex
      go_wp2_with fail
      refine(qg2 x wr HHex.out).mono ?_;rintro e w' ⟨rfl,rfl⟩;rw[hval];clear hval hxb
      have hbig:most<v*10+d->qae 10 most s.data.toList=(0,12):=fun h=>by
       rw[HN.out,if_pos (.inr (by have:=HMono.out;omega))]
      have HBig:=Lib.hid hbig;clear hbig;by_cases h1:most<d
      ·go_wp2
       go_ret2
       rw[HBig.out (by omega)];exact⟨rfl,rfl⟩
      ·have h2a:=(HQ1.out (by omega)).1;have h2b:=(HQ1.out (by omega)).2;by_cases h2:q<v
       ·go_wp2
        go_ret2
        rw[HBig.out (by omega)];exact⟨rfl,rfl⟩
       ·go_wp2
        go_roundw
        case rel=>exact⟨k+1,v*10+d,by omega,by go_num,by go_num,HS.out.symm,by omega,(fun _=>by omega),by trivial⟩
        case measure=>simp[intOf];omega
     ·obtain rfl:k=s.size:=by omega
      have hv:=HV.out;rw[zqE (by rw[qad];omega)]at hv
      have hpos:0<s.size:=by
       have:=HE.out;rcases Nat.eq_zero_or_pos s.size with h|h
       ·rw[<-qad]at h;exact absurd (List.eq_nil_of_length_eq_zero h) this
       ·exact h
      have hle:=HM.out hpos
      have HN2:Hid (qae 10 most s.data.toList=(v,0)):=by
       show _=_;rw[HN.out,<-hv,if_neg (by omega)]
      clear hv
      go_wp2
      go_ret2
      rw[HN2.out];exact⟨rfl,rfl⟩
theorem qhU(s:ByteArray)(most:Int)(hs:s.size<=140737488351232)(hm1: -9223372036854775808<=most)(hm2:most<=9223372036854775807)(W:World):
  Calls Tryz.prog 124 #[.string s,.int .i64 16,.int .i64 most] W fun e w'=>e= .returned (.tuple #[.int .i64 (qae 16 most s.data.toList).1,.int .i64 (qae 16 most s.data.toList).2])/\w'=W:=by
 go_enter Tryz.func124,Tryz.ntmps124
 by_cases he:s.data.toList=[]
 ·have hn:qae 16 most s.data.toList=(0,11):=by rw[qae,if_pos he]
  have he':s.toList.isEmpty=true:=by rw[qa1,he];rfl
  go_wp2
  go_ret2
  rw[hn];exact⟨rfl,rfl⟩
 ·have he':s.toList.isEmpty=false:=by rw[qa1];simpa using he
  have HE:=Lib.hid he;clear he
  go_wp2
  clear he'
  go_loopw [8] (fun i wr=>∃(k:Nat),k<=s.size/\i= .int .i64 k/\qaV 16 (s.data.toList.take k)=true/\wr=W) (fun i _=>s.size-(intOf i).toNat)
  case atStart=>exact⟨0,Nat.zero_le _,rfl,rfl,rfl⟩
  case round=>
   obtain⟨k,hk,rfl,hok,rfl⟩:=hrel;have HOK:=Lib.hid hok;clear hok;by_cases hlt:k<s.size
   ·obtain⟨x,hx⟩:∃x,s.data.toList[k]? =some x:=⟨_,zqD (by rw[qad];omega)⟩
    have hxb:s[k]'hlt=x:=qh0 s k x hx hlt;have hostep:=qc0 16 _ _ _ hx;rw[HOK.out,Bool.true_and,<-qcy]at hostep;have HX:=Lib.hid hx;have HO:=Lib.hid hostep;clear hx hostep
    go_wp2_with fail
    refine(qjY x wr).mono ?_;rintro e w' ⟨rfl,rfl⟩;cases hp:qaT x
    ·have hn:qae 16 most s.data.toList=(0,11):=by
      rw[qae,if_neg HE.out,if_pos (qdz 16 _ _ _ HX.out (of_decide_eq_false ((qcy x).symm.trans hp)))]
     have HN:=Lib.hid hn;clear hn hp
     go_wp2
     go_ret2
     rw[HN.out];exact⟨rfl,rfl⟩
    ·have HO2:=Lib.hid (HO.out.trans hp);clear hp
     go_wp2
     go_roundw
     case rel=>exact⟨k+1,by omega,by go_num,HO2.out,by trivial⟩
     case measure=>simp[intOf];omega
   ·obtain rfl:k=s.size:=by omega
    have hall:=HOK.out;rw[zqE (by rw[qad];omega)]at hall;have HALL:=Lib.hid hall;clear hall HOK hlt hk
    go_wp2
    have HN:Hid (qae 16 most s.data.toList=if most<0\/most<qbf 16 s.data.toList then(0,12)else(qbf 16 s.data.toList,0)):=by
     show qae 16 most s.data.toList=_;rw[qae,if_neg HE.out,if_neg (by rw[HALL.out];decide)]
    obtain⟨wo,hwo⟩:∃wo:World,wo=wr:=⟨_,rfl⟩
    subst hwo
    go_loopw [9,10] (fun n i wr=>∃(k:Nat) (v:Int),k<=s.size/\i= .int .i64 k/\n= .int .i64 v/\v=qbf 16 (s.data.toList.take k)/\0<=v/\(0<k->v<=most)/\wr=wo) (fun _ i _=>s.size-(intOf i).toNat)
    case atStart=>exact⟨0,0,Nat.zero_le _,rfl,rfl,rfl,Int.le_refl _,(fun h=>absurd h (by omega)),rfl⟩
    case round=>
     obtain⟨k,v,hk,rfl,rfl,hv,hv0,hvm,rfl⟩:=hrel;have HV:=Lib.hid hv;have HM:=Lib.hid hvm;clear hv hvm;by_cases hlt:k<s.size
     ·obtain⟨x,hx⟩:∃x,s.data.toList[k]? =some x:=⟨_,zqD (by rw[qad];omega)⟩
      have hxb:s[k]'hlt=x:=qh0 s k x hx hlt
      have hd:0<=dig x/\dig x<16:=by
       have h:=HALL.out;unfold qaV at h;exact of_decide_eq_true (List.all_eq_true.1 h x (zqH hx))
      have hstep:=qcR 16 _ _ _ hx;rw[<-HV.out]at hstep;have hval:=qov x hd.1;have hmono:=qio 16 (by omega) s.data.toList HALL.out (k+1);obtain⟨d,hdd⟩:∃d,d=dig x:=⟨_,rfl⟩
      have hhex:qaT x=true:=by rw[qcy];exact decide_eq_true ⟨hd.1,by omega⟩
      rw[<-hdd]at hd hstep hval;rw[hstep]at hmono;obtain⟨q,hq⟩:=exz ((most-d).tdiv 16)
      have hq1:d<=most->16*q<=most-d/\most-d<16*q+16:=fun h=>by
       rw[Int.tdiv_eq_ediv_of_nonneg (by omega)]at hq;omega
      have HS:=Lib.hid hstep;have HQ1:=Lib.hid hq1;have HMono:=Lib.hid hmono;have HHex:=Lib.hid hhex;clear hx hdd hq1 hstep hmono hhex
      go_wp2_with fail
      refine(qg2 x wr HHex.out).mono ?_;rintro e w' ⟨rfl,rfl⟩;rw[hval];clear hval hxb
      have hbig:most<v*16+d->qae 16 most s.data.toList=(0,12):=fun h=>by
       rw[HN.out,if_pos (.inr (by have:=HMono.out;omega))]
      have HBig:=Lib.hid hbig;clear hbig;by_cases h1:most<d
      ·go_wp2
       go_ret2
       rw[HBig.out (by omega)];exact⟨rfl,rfl⟩
      ·have h2a:=(HQ1.out (by omega)).1;have h2b:=(HQ1.out (by omega)).2;by_cases h2:q<v
       ·go_wp2
        go_ret2
        rw[HBig.out (by omega)];exact⟨rfl,rfl⟩
       ·go_wp2
        go_roundw
        case rel=>exact⟨k+1,v*16+d,by omega,by go_num,by go_num,HS.out.symm,by omega,(fun _=>by omega),by trivial⟩
        case measure=>simp[intOf];omega
     ·obtain rfl:k=s.size:=by omega
      have hv:=HV.out;rw[zqE (by rw[qad];omega)]at hv
      have hpos:0<s.size:=by
       have:=HE.out;rcases Nat.eq_zero_or_pos s.size with h|h
       ·rw[<-qad]at h;exact absurd (List.eq_nil_of_length_eq_zero h) this
       ·exact h
      have hle:=HM.out hpos
      have HN2:Hid (qae 16 most s.data.toList=(v,0)):=by
       show _=_;rw[HN.out,<-hv,if_neg (by omega)]
      clear hv
      go_wp2
      go_ret2
      rw[HN2.out];exact⟨rfl,rfl⟩
theorem qi1(s:ByteArray)(most:Int)(hs:s.size<=140737488351232)(hm1: -9223372036854775808<=most)(hm2:most<=9223372036854775807)(W:World):
  Calls Tryz.prog 92 #[.string s,.int .i64 most] W fun e w'=>e= .returned (.tuple #[.int .i64 (qae 10 most s.data.toList).1,.int .i64 (qae 10 most s.data.toList).2])/\w'=W:=by
 go_enter Tryz.func92,Tryz.ntmps92
 go_wp2_with fail
 refine(qhV s most hs hm1 hm2 W).mono ?_;rintro e w1 ⟨rfl,rfl⟩
 go_wp2
 go_ret2
 exact⟨rfl,rfl⟩
theorem qjX(s:ByteArray)(most:Int)(hs:s.size<=140737488351232)(hm1: -9223372036854775808<=most)(hm2:most<=9223372036854775807)(W:World):
  Calls Tryz.prog 147 #[.string s,.int .i64 most] W fun e w'=>e= .returned (.tuple #[.int .i64 (qae 16 most s.data.toList).1,.int .i64 (qae 16 most s.data.toList).2])/\w'=W:=by
 go_enter Tryz.func147,Tryz.ntmps147
 go_wp2_with fail
 refine(qhU s most hs hm1 hm2 W).mono ?_;rintro e w1 ⟨rfl,rfl⟩
 go_wp2
 go_ret2
 exact⟨rfl,rfl⟩
section
variable (E:Env)(H:Hp)(Q:AV->Hp->Prop)
theorem qdO(l:List UInt8)(hl:l.length<=cap)(hQ:Q (.str (low l)) H):PC Tryz.prog E 68 [.str l] H Q:=by
 refine qau (v:= .str (low l)) (by kernel_rfl) (fun _=>True) (fun w hw=>trivial) (fun w β Rd cargs hS hsz hargs=>?_) (.str _) rfl hQ;obtain⟨u,rfl,hu⟩:=args1 hsz hargs;obtain⟨s,rfl,rfl,hs⟩:=qaC hu;refine(qlp s (by rw[<-qad];exact hl) w).mono ?_;rintro e w' ⟨rfl,hf⟩;exact⟨_,rfl,hf,qdv _ (qf4 (by rw[qaO];exact hl))⟩
theorem qdP(b:UInt8)(hQ:Q (.bool (qbX b)) H):PC Tryz.prog E 64 [.int .u8 (b.toNat:Int)] H Q:=by
 refine qau (v:= .bool (qbX b)) (by kernel_rfl) (fun _=>True) (fun w hw=>trivial) (fun w β Rd cargs hS hsz hargs=>?_) (.bool _) rfl hQ;obtain⟨u,rfl,hu⟩:=args1 hsz hargs;obtain rfl:=qaD hu;refine(qbd b w).mono ?_;rintro e w' ⟨rfl,rfl⟩;exact⟨_,rfl,Frm.refl _ _,.bool _⟩
theorem qgf(b:UInt8)(hQ:Q (.bool (qc1 b)) H):PC Tryz.prog E 65 [.int .u8 (b.toNat:Int)] H Q:=by
 refine qac Tryz.func65 rfl [] [] (by kernel_rfl) (fun hB=>?_);have fin:∀c:Bool,qc1 b=c->Q (.bool c) H:=fun c hc=>hc▸hQ;by_cases h1:65<=b.toNat
 ·have t1:(65:Int)<=b.toNat:=by omega
  by_cases h2:b.toNat<=90
  ·have t2:(b.toNat:Int)<=90:=by omega
   simp[Tryz.ntmps65,Tryz.results65,List.replicate_succ,t1,t2];exact aQz hB (h6:=(fin _ (by simp[qc1,h1,h2])))
  ·have t2:¬(b.toNat:Int)<=90:=by omega
   by_cases h3:97<=b.toNat
   ·have t3:(97:Int)<=b.toNat:=by omega
    by_cases h4:b.toNat<=122
    ·have t4:(b.toNat:Int)<=122:=by omega
     simp[Tryz.ntmps65,Tryz.results65,List.replicate_succ,t1,t2,t3,t4];exact aQz hB (h6:=(fin _ (by simp[qc1,h3,h4])))
    ·have t4:¬(b.toNat:Int)<=122:=by omega
     simp[Tryz.ntmps65,Tryz.results65,List.replicate_succ,t1,t2,t3,t4];exact aQz hB (h6:=(fin _ (by simp[qc1,h2,h4])))
   ·have t3:¬(97:Int)<=b.toNat:=by omega
    simp[Tryz.ntmps65,Tryz.results65,List.replicate_succ,t1,t2,t3];exact aQz hB (h6:=(fin _ (by simp[qc1,h2,h3])))
 ·have t1:¬(65:Int)<=b.toNat:=by omega
  have t3:¬(97:Int)<=b.toNat:=by omega
  simp[Tryz.ntmps65,Tryz.results65,List.replicate_succ,t1,t3];exact aQz hB (h6:=(fin _ (by simp[qc1,h1];omega)))
def qo1(b:UInt8)(H:Hp)(fr:List AV)(H':Hp):Prop:=H'=H/\∃i:Nat,i<=15/\(sgs.take i).contains b=false/\∃x:Nat->AV,fr=[.int .u8 (b.toNat:Int),x 1,x 2,.str sgs,.int .i64 i,x 5,x 6,x 7,x 8,x 9,x 10,x 11,x 12,x 13,x 14,x 15,x 16,x 17,x 18,x 19,x 20,x 21]
theorem qfS(b:UInt8)(hQ:Q (.bool (qai b)) H):PC Tryz.prog E 48 [.int .u8 (b.toNat:Int)] H Q:=by
 refine qac Tryz.func48 rfl [] [] (by kernel_rfl) (fun hB=>?_);have fin:∀c:Bool,qai b=c->Q (.bool c) H:=fun c hc=>hc▸hQ;simp[Tryz.ntmps48,Tryz.results48,List.replicate_succ];refine qdP E _ _ b ?_;cases hd:qbX b
 ·simp;refine qgf E _ _ b ?_;cases hl:qc1 b
  ·simp;refine qaB (qo1 b H) (fun fr _=>15-(ai (aget fr 4)).toNat) ⟨rfl,0,by omega,rfl,qag (by simp[sgs])⟩ ?_;rintro fr H' ⟨rfl,i,hi,hall,x,rfl⟩;have hlen:sgs.length=15:=rfl;by_cases h:i<15
   ·obtain⟨c,hc⟩:∃c,sgs[i]? =some c:=⟨_,zqD (by rw[hlen];exact h)⟩
    have hat:=qas hc;have h15:(i:Int)<15:=by omega
    have hw:IntKind.i64.wrap ((i:Int)+1)=i+1:=wiz;by_cases he:c=b
    ·have t1:((c.toNat:Int)==(b.toNat:Int))=true:=by simp[he]
     simp[hlen,h15,hat,t1];refine aQz hB (h6:=(fin _ ?_));rw[<-qbc,show sgs.contains b=true by rw[List.contains_iff_mem,<-he];exact zqH hc];simp
    ·have t1:((c.toNat:Int)==(b.toNat:Int))=false:=by
      rw[beq_eq_false_iff_ne];intro hh;exact he (UInt8.toNat_inj.1 (by omega))
     simp[hlen,h15,hat,t1,hw];refine Klz ⟨rfl,i+1,by omega,?_,friz⟩;rw[List.take_add_one,hc];simp at hall;simp[hall];exact fun e=>he e.symm
   ·obtain rfl:i=15:=by omega
    simp[hlen];refine aQz hB (h6:=(fin _ ?_));rw[<-qbc,hd,hl];exact hall
  ·simp;refine aQz hB (h6:=(fin _ ?_));rw[<-qbc,hl];simp
 ·simp;refine aQz hB (h6:=(fin _ ?_));rw[<-qbc,hd];simp
def qrF(l:List UInt8)(H:Hp)(fr:List AV)(H':Hp):Prop:=H'=H/\∃i:Nat,i<=l.length/\(l.take i).all qai=true/\∃x:Nat->AV,fr=[.str l,x 1,x 2,.int .i64 i,x 4,x 5,x 6,x 7,x 8,x 9,x 10,x 11,x 12,x 13,x 14,x 15,x 16]
theorem qlo(l:List UInt8)(hl:l.length<=cap)(hQ:Q (.bool (tokB l)) H):PC Tryz.prog E 42 [.str l] H Q:=by
 simp only[cap]at hl;refine qac Tryz.func42 rfl [] [] (by kernel_rfl) (fun hB=>?_);have fin:∀c:Bool,tokB l=c->Q (.bool c) H:=fun c hc=>hc▸hQ;simp[Tryz.ntmps42,Tryz.results42,List.replicate_succ];refine qaB (qrF l H) (fun fr _=>l.length-(ai (aget fr 3)).toNat) ⟨rfl,0,by omega,rfl,friz⟩ ?_;rintro fr H' ⟨rfl,i,hi,hall,x,rfl⟩;by_cases h:i<l.length
 ·obtain⟨b,hb⟩:∃b,l[i]? =some b:=⟨_,zqD h⟩
  have hat:=qas hb;have hw:IntKind.i64.wrap ((i:Int)+1)=i+1:=wiz;simp[h,hat];refine qfS E _ _ b ?_;cases hf:qai b
  ·simp[hf];exact aQz hB (h6:=(fin _ (by rw[tokB,qd3 qai l i b hb hf];rfl)))
  ·simp[hf,hw];refine Klz ⟨rfl,i+1,by omega,?_,friz⟩;rw[qa8 qai l i b hb,hall,hf];rfl
 ·have:l.take i=l:=zqE (by omega);rw[this]at hall;have ht:tokB l=(l !=[]):=by rw[tokB,hall,qhk l 0];simp
  simp[h];exact aQz hB (h6:=(fin _ ht))
end
section
variable (E:Env){H:Hp}(Q:AV->Hp->Prop)
theorem qmq(b:UInt8)(hQ:Q (.bool (qaT b)) H):PC Tryz.prog E 149 [.int .u8 (b.toNat:Int)] H Q:=by
 refine qau (v:= .bool (qaT b)) (by kernel_rfl) (fun _=>True) (fun w hw=>trivial) (fun w β Rd cargs hS hsz hargs=>?_) (.bool _) rfl hQ;obtain⟨u,rfl,hu⟩:=args1 hsz hargs;obtain rfl:=qaD hu;refine(qjY b w).mono ?_;rintro e w' ⟨rfl,rfl⟩;exact⟨_,rfl,Frm.refl _ _,.bool _⟩
theorem qea(l:List UInt8)(most:Int)(hl:l.length<=cap)(hm1: -9223372036854775808<=most)(hm2:most<=9223372036854775807)(hQ:Q (.tup [.int .i64 (qae 10 most l).1,.int .i64 (qae 10 most l).2]) H):
  PC Tryz.prog E 92 [.str l,.int .i64 most] H Q:=by
 refine qau (v:= .tup [.int .i64 (qae 10 most l).1,.int .i64 (qae 10 most l).2]) (by kernel_rfl) (fun _=>True) (fun w hw=>trivial) (fun w β Rd cargs hS hsz hargs=>?_) (.tup _ (fun x hx=>by simp at hx;rcases hx with rfl|rfl<;>exact .int _ _)) rfl hQ;obtain⟨u,v,rfl,hu,hv⟩:=args2 hsz hargs;obtain⟨s,rfl,rfl,hs⟩:=qaC hu;obtain rfl:=qaD hv;rw[qad]at hl;refine(qi1 s most hl hm1 hm2 w).mono ?_;rintro e w' ⟨rfl,hw⟩;refine⟨_,rfl,by first|exact hw|(subst hw;exact Frm.refl _ _),.tup _ _ rfl (by simp[AV.free]) fun k x u hx hu=>?_⟩
 match k with
 |0=>simp at hx hu;subst hx;subst hu;exact .int _ _
 |1=>simp at hx hu;subst hx;subst hu;exact .int _ _
 |k+2=>simp at hx
theorem qln(l:List UInt8)(most:Int)(hl:l.length<=cap)(hm1: -9223372036854775808<=most)(hm2:most<=9223372036854775807)(hQ:Q (.tup [.int .i64 (qae 16 most l).1,.int .i64 (qae 16 most l).2]) H):
  PC Tryz.prog E 147 [.str l,.int .i64 most] H Q:=by
 refine qau (v:= .tup [.int .i64 (qae 16 most l).1,.int .i64 (qae 16 most l).2]) (by kernel_rfl) (fun _=>True) (fun w hw=>trivial) (fun w β Rd cargs hS hsz hargs=>?_) (.tup _ (fun x hx=>by simp at hx;rcases hx with rfl|rfl<;>exact .int _ _)) rfl hQ;obtain⟨u,v,rfl,hu,hv⟩:=args2 hsz hargs;obtain⟨s,rfl,rfl,hs⟩:=qaC hu;obtain rfl:=qaD hv;rw[qad]at hl;refine(qjX s most hl hm1 hm2 w).mono ?_;rintro e w' ⟨rfl,hw⟩;refine⟨_,rfl,by first|exact hw|(subst hw;exact Frm.refl _ _),.tup _ _ rfl (by simp[AV.free]) fun k x u hx hu=>?_⟩
 match k with
 |0=>simp at hx hu;subst hx;subst hu;exact .int _ _
 |1=>simp at hx hu;subst hx;subst hu;exact .int _ _
 |k+2=>simp at hx
end
end Go.Proofs.YtnnhdehmlkkfjaaGreatDoor
namespace Go.Proofs.YtnnhdehmlkkfjaaGreatDoor
open Go Go.RowKit Go.Proofs
def lnb(l:List UInt8):Bool:=match l with
 |[]=>false
 |a::_=>qaf a
def qaR(l:List UInt8):Fld×Int×Int:=
 if lnb l=true then((⟨[],[]⟩:Fld),0,63)else if l.length<=run ncol l then((⟨[],[]⟩:Fld),l.length,62)else if run ncol l=0 then((⟨[],[]⟩:Fld),0,60)
 else if min (run qai l) 128<run ncol l then((⟨[],[]⟩:Fld),(min (run qai l) 128:Nat),60)
 else if run fcB (l.drop (run ncol l+1))<(l.drop (run ncol l+1)).length then((⟨[],[]⟩:Fld),(run ncol l+1+run fcB (l.drop (run ncol l+1)):Nat),61)
 else if 8192<(qaJ (l.drop (run ncol l+1))).length then((⟨[],[]⟩:Fld),(run ncol l+1+run qaf (l.drop (run ncol l+1))+8192:Nat),61)
 else(⟨l.take (run ncol l),qaJ (l.drop (run ncol l+1))⟩,0,0)
theorem rb_le(l:List UInt8):run qaf l<=l.length:=qbp qaf l
theorem qr4(l:List UInt8):((l.length:Int)-(Lib.trimLeftS l [32,9]).length)=run qaf l:=by
 have e:Lib.trimLeftS l [32,9]=l.dropWhile qaf:=by unfold Lib.trimLeftS;rw[qmf]
 rw[e];have h:=congrArg List.length (List.takeWhile_append_dropWhile (p:=qaf) (l:=l));rw[zqK]at h;unfold run;omega
theorem qmk(p:UInt8->Bool):∀(n:Nat) (l:List UInt8),(l.take n).all p=true->n<=l.length->n<=run p l
 |0,_,_,_=>Nat.zero_le _
 |n+1,[],_,h=>by simp at h
 |n+1,a::l,h,hn=>by
  simp only[List.take_succ_cons,List.all_cons,Bool.and_eq_true]at h;have:=qmk p n l h.2 (by simpa using hn);unfold run at this⊢;rw[List.takeWhile_cons,if_pos h.1];simpa using this
theorem qjQ{p:UInt8->Bool}{l:List UInt8}(h:l.all p=true):run p l=l.length:=by
 have:=qmk p l.length l (by rw[List.take_length];exact h) (Nat.le_refl _);have:=qbp p l;omega
section
variable {l:List UInt8}(hf:lnb l=false)
theorem qki:qaR []=((⟨[],[]⟩:Fld),0,62):=rfl
theorem qiw(a:UInt8)(r:List UInt8)(h:qaf a=true):qaR (a::r)=((⟨[],[]⟩:Fld),0,63):=by unfold qaR;rw[if_pos (show lnb (a::r)=true from h)]
include hf
theorem qhj(h:l.length<=run ncol l):qaR l=((⟨[],[]⟩:Fld),(l.length:Int),62):=by unfold qaR;rw[if_neg (by rw[hf];simp),if_pos h]
theorem qit(h1:run ncol l<l.length)(h:run ncol l=0):qaR l=((⟨[],[]⟩:Fld),0,60):=by unfold qaR;rw[if_neg (by rw[hf];simp),if_neg (by omega),if_pos h]
theorem qiu(h1:run ncol l<l.length)(h2:run ncol l≠0)(h:min (run qai l) 128<run ncol l):qaR l=((⟨[],[]⟩:Fld),((min (run qai l) 128:Nat):Int),60):=by unfold qaR;rw[if_neg (by rw[hf];simp),if_neg (by omega),if_neg h2,if_pos h]
theorem qiv(h1:run ncol l<l.length)(h2:run ncol l≠0){i:Nat}(hall:(l.take i).all qai=true)(hi:128<=i)(hi2:i<=128)(h:i<run ncol l):qaR l=((⟨[],[]⟩:Fld),(i:Int),60):=by
 have:=qmk qai i l hall (by omega);have e:min (run qai l) 128=i:=by omega
 rw[qiu hf h1 h2 (by omega),e]
theorem qkk(h1:run ncol l<l.length)(h2:run ncol l≠0){i:Nat}{b:UInt8}(hall:(l.take i).all qai=true)(hi:i<=128)(h:i<run ncol l)(hb:l[i]? =some b)(hs:qai b=false):qaR l=((⟨[],[]⟩:Fld),(i:Int),60):=by
 have:=qby qai l i hall (by omega) (fun c hc=>by rw[hb]at hc;cases hc;exact hs);have e:min (run qai l) 128=i:=by omega
 rw[qiu hf h1 h2 (by omega),e]
omit hf in
theorem qi6(h1:run ncol l<l.length)(hn:qbm (l.take (run ncol l))=true):¬min (run qai l) 128<run ncol l:=by
 unfold qbm tokB at hn;simp only[Bool.and_eq_true,decide_eq_true_eq]at hn;rw[zqJ]at hn;have:=qmk qai (run ncol l) l hn.2.1 (by omega);omega
omit hf in
theorem qly(hn:qbm (l.take (run ncol l))=true):run ncol l≠0:=fun e=>by rw[e,List.take_zero]at hn;rw[qkc]at hn;cases hn
theorem qkg(h1:run ncol l<l.length)(hn:qbm (l.take (run ncol l))=true){i:Nat}{b:UInt8}(hi:run ncol l+1<=i)(hall:fldB ((l.drop (run ncol l+1)).take (i-(run ncol l+1)))=true)(hb:(l.drop (run ncol l+1))[i-(run ncol l+1)]? =some b)(hs:fcB b=false):
  qaR l=((⟨[],[]⟩:Fld),((run ncol l+1+(i-(run ncol l+1)):Nat):Int),61):=by
 have hlt:=(zqC.1 hb).1;have:=qby fcB (l.drop (run ncol l+1)) _ hall (by omega) (fun c hc=>by rw[hb]at hc;cases hc;exact hs);unfold qaR;rw[if_neg (by rw[hf];simp),if_neg (by omega),if_neg (qly hn),if_neg (qi6 h1 hn),this,if_pos hlt]
theorem qkj(h1:run ncol l<l.length)(hn:qbm (l.take (run ncol l))=true)(hv:fldB (l.drop (run ncol l+1))=true)(h:8192<(qaJ (l.drop (run ncol l+1))).length):
  qaR l=((⟨[],[]⟩:Fld),((run ncol l+1+run qaf (l.drop (run ncol l+1))+8192:Nat):Int),61):=by
 have:=qjQ hv;unfold qaR;rw[if_neg (by rw[hf];simp),if_neg (by omega),if_neg (qly hn),if_neg (qi6 h1 hn),if_neg (by omega),if_pos h]
theorem qhi(h1:run ncol l<l.length)(hn:qbm (l.take (run ncol l))=true)(hv:fldB (l.drop (run ncol l+1))=true)(h:¬8192<(qaJ (l.drop (run ncol l+1))).length):
  qaR l=(⟨l.take (run ncol l),qaJ (l.drop (run ncol l+1))⟩,0,0):=by
 have:=qjQ hv;unfold qaR;rw[if_neg (by rw[hf];simp),if_neg (by omega),if_neg (qly hn),if_neg (qi6 h1 hn),if_neg (by omega),if_neg h]
end
section
variable (E:Env)(H:Hp)(Q:AV->Hp->Prop)
theorem qjE(l:List UInt8)(hl:l.length<=cap)(hQ:Q (.str (Lib.trimLeftS l [32,9])) H):PC Tryz.prog E 200 [.str l,.str [32,9]] H Q:=by
 have hle:(Lib.trimLeftS l [32,9]).length<=l.length:=by
  unfold Lib.trimLeftS;exact(List.dropWhile_sublist _).length_le
 refine qau (v:= .str (Lib.trimLeftS l [32,9])) (by kernel_rfl) (fun _=>True) (fun w hw=>trivial) (fun w β Rd cargs hS hsz hargs=>?_) (.str _) rfl hQ;obtain⟨u,v,rfl,hu,hv⟩:=args2 hsz hargs;obtain⟨s,rfl,rfl,hs⟩:=qaC hu;obtain⟨t,rfl,ht,_⟩:=qaC hv;have h116:(Tryz.prog.info? (lren.t 116)).map (fun i=>(i.zero,i.size))=some (some (.agg (Array.replicate 256 (.bool false))),256):=by kernel_rfl
 have htl:t.size=2:=by rw[<-qad,ht];rfl
 refine(Any.strings_TrimLeft_ascii lays161 (zero_of_info h116).1 (zero_of_info h116).2 s t w (by rw[htl];omega) (fun j b hb=>by
  rw[ht]at hb
  match j with
  |0=>simp at hb;subst hb;decide
  |1=>simp at hb;subst hb;decide
  |j+2=>simp at hb)).mono ?_
 rintro e w' ⟨rfl,hb⟩;rw[ht];exact⟨_,rfl,qbM hb,qdv _ (qf4 (Nat.le_trans hle hl))⟩
theorem qi2(hE:SE E)(l:List UInt8)(hl:l.length<=cap)(hQ:Q (.tup [.agg [.str (qaR l).1.name,.str (qaR l).1.value],.int .i64 (qaR l).2.1,.int .i64 (qaR l).2.2]) H):
  PC Tryz.prog E 167 [.str l] H Q:=by
 refine qac Tryz.func167 rfl [] [] (by kernel_rfl) (fun hB=>?_);have hl':=hl;simp only[cap]at hl';obtain⟨c,hc⟩:=exz (run ncol l);have hcl:=qbp ncol l;rw[hc]at hcl;have hib:=qcJ l;rw[hc]at hib
 have bad:∀(fr:List AV) (pl e:Int),qaR l=((⟨[],[]⟩:Fld),pl,e)->aget fr 2= .ptr (some (H.length,0))->aget fr 3= .int .i64 pl->aget fr 4= .int .i64 e->qci Tryz.prog [ResultVar.cell 2 65,ResultVar.tmp 3,ResultVar.tmp 4] H.length Q .ret fr (H++[[.str [],.str []]]):=fun fr pl e h0 h2 h3 h4=>
  qab hB (v0:= .tup [.agg [.str [],.str []],.int .i64 pl,.int .i64 e]) (by simp[h2,h3,h4]) (qaa _) (by simp) (by rw[h0]at hQ;exact hQ)
 have hcase:l=[]\/(∃a r,l=a::r/\qaf a=true)\/(∃a r,l=a::r/\qaf a=false):=by
  cases l with
  |nil=>exact .inl rfl
  |cons a r=>
   cases hb:qaf a
   ·exact .inr (.inr ⟨a,r,rfl,hb⟩)
   ·exact .inr (.inl ⟨a,r,rfl,hb⟩)
 rcases hcase with rfl|⟨a,r,rfl,hb⟩|⟨a,r,hl0,hb⟩
 ·simp[Tryz.ntmps167,Tryz.results167,List.replicate_succ];refine qaF E _ _ [] 58 ?_;have e0:Lib.indexByte [] 58= -1:=rfl;rw[e0];simp;exact bad _ 0 62 qki rfl rfl rfl
 ·have hc0:=qiw a r hb;have hib2:0<=Lib.indexByte [32,9] a:=by rw[qgy];exact hb
  have hne:(a::r !=[])=true:=rfl;simp[Tryz.ntmps167,Tryz.results167,List.replicate_succ,hne];refine qaF E _ _ [32,9] a ?_;simp[hib2];exact bad _ 0 63 hc0 rfl rfl rfl
 ·have hib2:¬0<=Lib.indexByte [32,9] a:=by rw[qgy,hb];simp
  have hne:(l !=[])=true:=by rw[hl0];rfl
  have hl1:0<l.length:=by rw[hl0];simp
  have hla:lat l 0=some a:=by rw[hl0];rfl
  simp[Tryz.ntmps167,Tryz.results167,List.replicate_succ,hne,hl1,hla];refine qaF E _ _ [32,9] a ?_;simp[hib2];refine qaF E _ _ l 58 ?_;rw[hib];have hnf:lnb l=false:=by rw[hl0];exact hb
  clear hib2 hne hla hl0 hib;by_cases hcc:c<l.length;rotate_left
  ·have hno:=qhj hnf (by omega);simp[hcc];exact bad _ l.length 62 hno rfl rfl rfl
  ·by_cases hz:c=0
   ·have hno:=qit hnf (by omega) (by omega);subst hz;simp[hcc];exact bad _ 0 60 hno rfl rfl rfl
   ·have hz2:((c:Int)==0)=false:=by simp;omega
    simp[hcc,hz,hz2];subst hc;refine qaB (qtc l H) (fun fr _=>run ncol l-(ai (aget fr 33)).toNat) ⟨rfl,0,by omega,by omega,by simp,friz⟩ ?_;rintro fr H' ⟨rfl,i,hi,hi2,hall,x,rfl⟩;by_cases h:i<run ncol l
    ·obtain⟨b,hbi⟩:∃b,l[i]? =some b:=⟨_,zqD (by omega)⟩
     by_cases h128:128<=i
     ·have hno:=qiv hnf (by omega) (by omega) hall (by omega) (by omega) h;have h128':(128:Int)<=i:=by omega
      simp[h,h128'];exact bad _ i 60 hno rfl rfl rfl
     ·have h128':¬(128:Int)<=i:=by omega
      have hw:IntKind.i64.wrap ((i:Int)+1)=i+1:=wiz;have t1:((i:Int)+1).toNat=i+1:=by omega
      have t2:(0:Int)<=i+1:=by omega
      have t3:(l.drop i).take 1=[b]:=by rw[qay l i b hbi];rfl
      have t4:i+1<=l.length:=by omega
      have ht:tokB [b]=qai b:=by simp[tokB]
      simp[h,h128',hw,t1,t2,t3,t4];refine qcb E _ _ hE [b] (by simp[cap]) ?_;rw[ht];cases hs:qai b with
      |false=>
       have hno:=qkk hnf (by omega) (by omega) hall (by omega) h hbi hs;simp;exact bad _ i 60 hno rfl rfl rfl
      |true=>
       simp[hw];refine qaH ?_ ?_;rotate_left
       ·simp;omega
       refine⟨rfl,i+1,by omega,by omega,?_,friz⟩;rw[qa8 qai l i b hbi,hall,hs];rfl
    ·obtain rfl:i=run ncol l:=by omega
     have hnm:qbm (l.take (run ncol l))=true:=by
      unfold qbm tokB;rw[hall,decide_eq_true (by rw[zqJ];omega)];have:l.take (run ncol l)≠[]:=by intro e;have h2:=congrArg List.length e;rw[zqJ]at h2;have h3:min (run ncol l) l.length=0:=h2;omega
      cases he:l.take (run ncol l)with
      |nil=>exact absurd he this
      |cons _ _=>rfl
     have hw1:IntKind.i64.wrap (((run ncol l:Nat):Int)+1)=((run ncol l+1:Nat):Int):=by rw[qak (by omega) (by omega)];omega
     clear hall;simp[h,hw1,-Int.natCast_add];refine qaB (qtb l H) (fun fr _=>l.length-(ai (aget fr 7)).toNat) ⟨rfl,run ncol l+1,by omega,by omega,by rw[Nat.sub_self,List.take_zero];rfl,friz⟩ ?_;clear hw1;rintro fr H' ⟨rfl,i,hi1,hi2,hall,x,rfl⟩;by_cases h:i<l.length
     ·obtain⟨b,hbi⟩:∃b,l[i]? =some b:=⟨_,zqD h⟩
      have hbd:(l.drop (run ncol l+1))[i-(run ncol l+1)]? =some b:=by rw[zqN,show run ncol l+1+(i-(run ncol l+1))=i by omega];exact hbi
      have hw:IntKind.i64.wrap ((i:Int)+1)=i+1:=wiz;have t1:((i:Int)+1).toNat=i+1:=by omega
      have t2:(0:Int)<=i+1:=by omega
      have t3:(l.drop i).take 1=[b]:=by rw[qay l i b hbi];rfl
      have t4:i+1<=l.length:=by omega
      have ht:fldB [b]=fcB b:=by simp[fldB]
      simp[h,hw,t1,t2,t3,t4];refine qex E _ _ [b] (by simp[cap]) ?_;rw[ht];cases hs:fcB b with
      |false=>
       have hno:=qkg hnf (by omega) hnm (by omega) hall hbd hs;simp;exact bad _ i 61 (by rw[hno];congr 2;omega) rfl rfl rfl
      |true=>
       simp[hw];refine qaH ?_ ?_;rotate_left
       ·simp;omega
       refine⟨rfl,i+1,by omega,by omega,?_,friz⟩;rw[show i+1-(run ncol l+1)=(i-(run ncol l+1))+1 by omega];unfold fldB at hall⊢;rw[qa8 fcB _ _ b hbd,hall,hs];rfl
     ·obtain rfl:i=l.length:=by omega
      have hfl:fldB (l.drop (run ncol l+1))=true:=by rw[zqE (by rw[zqI];omega)]at hall;exact hall
      clear hall h;obtain⟨c,hc⟩:=exz (run ncol l);rw[hc]at hcl hcc hz hz2 hnm hfl hi1;have hw1:IntKind.i64.wrap ((c:Int)+1)=((c+1:Nat):Int):=by rw[qak (by omega) (by omega)];omega
      have t4:c+1<=l.length:=by omega
      simp[hc,hw1,t4,-Int.natCast_add];refine qgM E _ _ (l.drop (c+1)) (by rw[zqI];simp only[cap];omega) ?_;by_cases hbig:8192<(qaJ (l.drop (c+1))).length
      ·have hbig':(8192:Int)<(qaJ (l.drop (c+1))).length:=by omega
       have hno:=qkj hnf (by omega) (by rw[hc];exact hnm) (by rw[hc];exact hfl) (by rw[hc];exact hbig);simp[hbig'];refine qjE E _ _ (l.drop (c+1)) (by rw[zqI];simp only[cap];omega) ?_;have hle:=rb_le (l.drop (c+1));rw[zqI]at hle;have hdl:(l.drop (c+1)).length=l.length-(c+1):=zqI;obtain⟨rb,hrb⟩:=exz (run qaf (l.drop (c+1)));have hld:=qr4 (l.drop (c+1));rw[hc,hrb]at hno;rw[hrb]at hle hld;rw[hdl]at hld;have hwA:IntKind.i64.wrap ((c:Int)+1)=c+1:=wiz;have hwB:IntKind.i64.wrap (((l.length-(c+1):Nat):Int)-(Lib.trimLeftS (l.drop (c+1)) [32,9]).length)=rb:=by rw[hld,qak (by omega) (by omega)]
       have hwC:IntKind.i64.wrap ((c:Int)+1+rb)=c+1+rb:=wiz;have hwD:IntKind.i64.wrap ((c:Int)+1+rb+8192)=c+1+rb+8192:=wiz;simp[hwA,hwB,hwC,hwD];exact bad _ ((c:Int)+1+rb+8192) 61 (by rw[hno];simp) rfl rfl rfl
      ·have hbig':¬(8192:Int)<(qaJ (l.drop (c+1))).length:=by omega
       have hyes:=qhi hnf (by omega) (by rw[hc];exact hnm) (by rw[hc];exact hfl) (by rw[hc];exact hbig);rw[hc]at hyes;rw[hyes]at hQ;simp[hbig',hcl];exact qab hB (v0:= .tup [.agg [.str (l.take c),.str (qaJ (l.drop (c+1)))],.int .i64 0,.int .i64 0]) (by simp) (qaa _) (by simp) hQ
end
theorem qnp{P:Program}(w:World)(t u ty e:TypeId)(i:TypeInfo)(ht:P.underlying t=some (.slice e))(hu:P.underlying u=some .string)(hi:P.info? e=some i)(hz:i.zero=some (.int .u8 0))
  (hsize:i.size=1) (hby:i.bytes=1) (v:Value) (n:Nat) (xs:List Value) (hown:w.ownsRowF 0 e 1 v n xs) (s:ByteArray) (h63:n+s.size<=maxLen) (hbytes:n+s.size<=140737488355328):
  ∃v' w',(Builtin.append_ #[t,u] ty #[v,.string s]).run P w= .ok v' w'/\w'.ownsRowF 0 e 1 v' (n+s.size) (xs++Lib.strCells s)/\w.grownBy w' v.ownBlock/\∀g,v'.ownBlock=some g->v.ownBlock=some g\/w.heap.size<=g:=by
 rcases hown.2 with⟨rfl,rfl⟩|⟨g,cap,cur,fz,rfl,hbg,hg,hfz,hnc,hcm,hcs,htake⟩
 ·obtain⟨v',w',h1,h2,h3,_⟩:=Lib.run_append_own_stringF (P:=P) w w.heap.size t u ty e i ht hu hi hz hsize hby (.slice none 0 0) 0 xs ⟨hown.1,.inl ⟨rfl,rfl⟩⟩ s h63 hbytes (Nat.le_refl _)
  have h2':w'.ownsRowF 0 e 1 v' (0+s.size) (xs++Lib.strCells s):=by
   obtain⟨a,b⟩:=h2;refine⟨a,b.imp id fun⟨g,cap,cur,fz,r1,r2,r3⟩=>⟨g,cap,cur,fz,r1,Nat.zero_le _,r3⟩⟩
  exact⟨v',w',h1,h2',h3,fun g hg=> .inr (h2.lt g hg).1⟩
 ·have hxl:xs.length=n:=by simpa using hown.1
  have hlen:(xs++Lib.strCells s).length=(n+s.size)*1:=by rw[zqK,hxl,Lib.strCells_length,Nat.mul_one]
  by_cases hroom:n+s.size<=cap
  ·have hcs':cur.size=cap:=by simpa using hcs
   have hr:=Lib.run_append_room_stringF (P:=P) w t u ty e i ht hu hi hsize g n cap cur fz hg (by simpa using hfz) s hroom (by omega);refine⟨_,_,hr,⟨hlen,.inr ⟨g,cap,_,fz,rfl,hbg,setRow_heap w g cur _ e _ hg,by omega,hroom,hcm,?_,?_⟩⟩,⟨rfl,rfl,rfl,by simp,fun k _ hk=>setRow_other w g k _ (fun e=>hk (by simp[Value.ownBlock,e]))⟩,fun g' hg'=> .inl hg'⟩
   ·simp only[List.size_toArray,zqK,zqJ,zqI,Array.length_toList,Lib.strCells_length];omega
   ·have ht':cur.toList.take n=xs:=by simpa using htake
    rw[ht',<-hlen];exact List.take_left
  ·have holds:∀j u,xs[j]? =some u->w.cell? ((⟨g,0,none⟩:Addr).add j)=some u:=hown.cells (g:=g) rfl;have hr:=Lib.run_append_grow_string (P:=P) w t u ty e i (.int .u8 0) ht hu hi hz ⟨g,0,none⟩ n cap xs (by rw[hsize];simpa using hxl) holds s (by omega) (by simp only[maxLen]at h63;omega) (by rw[hby];exact growslice_fits (by omega) (by omega));have hge:=grownCap_ge w (n+s.size) cap e;have hcm2:grownCap w (n+s.size) cap e<=maxLen:=grownCap_le_maxLen w (n+s.size) cap e h63;refine⟨_,_,hr,⟨hlen,.inr ⟨w.heap.size,_,_,(0,0),rfl,Nat.zero_le _,heap_alloc_new w.drew _,Nat.zero_le _,hge,hcm2,?_,?_⟩⟩,⟨rfl,rfl,rfl,by simp,fun k hk _=>heap_alloc_old w.drew _ hk⟩,fun g' hg'=> .inr (by simp[Value.ownBlock]at hg';omega)⟩
   ·have hz1:(Value.int IntKind.u8 0).cells.size=1:=rfl;simp only[Array.size_append,List.size_toArray,size_zeroCells,hz1,hxl,Lib.strCells_length];omega
   ·simp only[Array.toList_append,List.append_assoc];rw[<-List.append_assoc,<-hlen];exact List.take_left
theorem qiS{P:Program}{w:World}{ops:Array Oper}{rest:List Oper}{o:Oper}{a:Act}{Q:Exit->Act->World->Prop}(hgd:o.guard=none)(sl x:Operand)(t u:TypeId)
  (ho:o.op= .call {callee:= .builtin .append,args:= #[sl,x],argTypes:= #[t,u]}) (e:TypeId) (i:TypeInfo) (ht:P.underlying t=some (.slice e)) (hu:P.underlying u=some .string) (hi:P.info? e=some i) (hz:i.zero=some (.int .u8 0))
  (hsize:i.size=1) (hby:i.bytes=1) (v:Value) (n:Nat) (xs:List Value) (hs:a.eval sl=v) (hown:w.ownsRowF 0 e 1 v n xs) (s:ByteArray) (hx:a.eval x= .string s) (h63:n+s.size<=maxLen) (hbytes:n+s.size<=140737488355328)
  (h:∀v' w',w'.ownsRowF 0 e 1 v' (n+s.size) (xs++Lib.strCells s)->w.grownBy w' v.ownBlock->(∀g,v'.ownBlock=some g->v.ownBlock=some g\/w.heap.size<=g)->wpList P ops Q rest (a.put o.dst v') w'):wpList P ops Q (o::rest) a w:=by
 refine wpList_plain hgd fun K hK=>?_;obtain⟨v',w',hr,h2,h3,h4⟩:=qnp (P:=P) w t u o.type e i ht hu hi hz hsize hby v n xs hown s h63 hbytes;unfold Oper.wp execOp;simp only[ho,resolve,invoke,builtin,Sem.run_bind,Sem.run_pure,Result.andThen_ok,List.map_toArray,List.map_cons,List.map_nil,hs,hx,hr];exact hK _ _ (h v' w' h2 h3 h4)
abbrev TB:TypeId:=120
abbrev TU:TypeId:=5
def BB(b:Nat)(u v:Value)(l:List UInt8)(w:World):Prop:=w.heap[b]? =some (.cells #[u,v] TB (0,0))/\(u= .pointer none\/u= .pointer (some ⟨b,0,none⟩))/\w.ownsRowF 0 TU 1 v l.length (qd2 l)/\v.ownBlock≠some b
structure BK (b:Nat) (v:Value) (w w':World):Prop where
 os:w'.os=w.os
 tape:w'.tape=w.tape
 output:w'.output=w.output
 size:w.heap.size<=w'.heap.size
 keep:∀k,k<w.heap.size->k≠b->v.ownBlock≠some k->w'.heap[k]? =w.heap[k]?
theorem bkRefl(b:Nat)(v:Value)(w:World):BK b v w w:=⟨rfl,rfl,rfl,Nat.le_refl _,fun _ _ _ _=>rfl⟩
theorem bb_lt{b:Nat}{u v:Value}{l:List UInt8}{w:World}(h:BB b u v l w):b<w.heap.size:=qdm h.1
theorem qqq(b:Nat)(u v:Value)(l:List UInt8)(w:World)(h:BB b u v l w):Calls Tryz.prog 106 #[.pointer (some ⟨b,0,none⟩)] w fun e w'=>e= .returned (.tuple #[])/\BB b (.pointer (some ⟨b,0,none⟩)) v l w'/\BK b v w w':=by
 obtain⟨h1,h2,h3,h4⟩:=h;have hlt:b<w.heap.size:=qdm h1;have c0:w.cell? ⟨b,0,none⟩=some u:=by rw[Lib.cell_of_heap h1];rfl
 rcases h2 with rfl|rfl
 ·refine(Any.Builder_copyCheck_fresh {lays166 with} lextra.toX72 b w c0 (by simp[World.shape?,h1];rfl) (Lib.frozen_of_heap h1 0)).mono ?_;rintro e w' ⟨rfl,rfl⟩;have hk:∀k,k≠b->(w.setCell ⟨b,0,none⟩ (.pointer (some ⟨b,0,none⟩))).heap[k]? =w.heap[k]? :=fun k hk=>Below.heap_setCell _ _ _ _ hk;refine⟨rfl,⟨by simp[World.setCell,Array.getElem?_modify,h1],.inr rfl,qfn h3 fun g hg=>hk g (fun e=>h4 (e▸hg)),h4⟩,rfl,rfl,rfl,by simp[World.setCell],fun k _ hkb _=>hk k hkb⟩
 ·refine(Any.Builder_copyCheck_used {lays166 with} lextra.toX72 b w c0).mono ?_;rintro e w' ⟨rfl,rfl⟩;exact⟨rfl,⟨h1,.inr rfl,h3,h4⟩,bkRefl _ _ _⟩
theorem bf_str(l:List UInt8)(s:ByteArray):qd2 l++Lib.strCells s=qd2 (l++s.data.toList):=by
 unfold qd2;rw[List.map_append];rfl
theorem qtA(b:Nat)(u v:Value)(l:List UInt8)(s:ByteArray)(w:World)(h:BB b u v l w)(hlen:l.length+s.size<=140737488355328):Calls Tryz.prog 74 #[.pointer (some ⟨b,0,none⟩),.string s] w fun e w'=>
  e= .returned (.tuple #[.int .i64 s.size,.nilIface])/\∃u' v',BB b u' v' (l++s.data.toList) w'/\BK b v w w'/\∀g,v'.ownBlock=some g->v.ownBlock=some g\/w.heap.size<=g:=by
 obtain⟨i0,hi,hz0,hz1,hz2⟩:=info_parts lextra.infoByte
 go_enter Tryz.func74,Tryz.ntmps74
 go_wp2_with (go_at_call 106;refine(qqq b u v l _ h).mono ?_)
 rintro e w1 ⟨rfl,h1,hk1⟩;obtain⟨hbk,_,hown,hne⟩:=h1;have c0:w1.cell? ⟨b,0,none⟩=some (.pointer (some ⟨b,0,none⟩)):=by rw[Lib.cell_of_heap hbk];rfl
 have c1:w1.cell? ⟨b,1,none⟩=some v:=by rw[Lib.cell_of_heap hbk];rfl
 have hlt:b<w1.heap.size:=qdm hbk
 go_wp2_with (at_builtin;refine qiS rfl _ _ 82 9 rfl TU i0 Tryz.underlying82 Tryz.underlying9 hi hz0 hz1 hz2 _ _ _ rfl hown s rfl ?c3 ?c4 ?_)
 case c3=>unfold maxLen;omega
 case c4=>omega
 intro v' w2 hown' hgrow hnew
 have hb2:w2.heap[b]? =some (.cells #[.pointer (some ⟨b,0,none⟩),v] TB (0,0)):=by
  rw[hgrow.block b hlt (fun e=>hne e.symm)];exact hbk
 have d0:w2.cell? ⟨b,0,none⟩=some (.pointer (some ⟨b,0,none⟩)):=by rw[Lib.cell_of_heap hb2];rfl
 have d1:w2.cell? ⟨b,1,none⟩=some v:=by rw[Lib.cell_of_heap hb2];rfl
 have f1:w2.frozen? ⟨b,1,none⟩=false:=Lib.frozen_of_heap hb2 1
 have hne':v'.ownBlock≠some b:=fun e=>by
  rcases hnew b e with h|h
  ·exact hne h
  ·omega
 obtain⟨ao,n',cap,hv'⟩:∃ao n' cap,v'= .slice ao n' cap:=by
  rcases hown'.2 with⟨hv,_⟩|⟨g,cap,cur,fz,hv,_⟩
  ·exact⟨_,_,_,hv⟩
  ·exact⟨_,_,_,hv⟩
 have HH:=Lib.hid (And.intro hown' (And.intro hgrow (And.intro hnew (And.intro hne' hk1))));clear hown' hgrow hnew hne' hk1;subst hv'
 go_wp2
 go_ret2
 obtain⟨hown',hgrow,hnew,hne',hk1⟩:=HH.out;have hk:∀k,k≠b->(w2.setCell ⟨b,1,none⟩ (.slice ao n' cap)).heap[k]? =w2.heap[k]? :=fun k hk=>Below.heap_setCell _ _ _ _ hk;refine⟨rfl,_,_,⟨by simp[World.setCell,Array.getElem?_modify,hb2],.inr rfl,?_,hne'⟩,⟨hgrow.os.trans hk1.os,hgrow.tape.trans hk1.tape,hgrow.output.trans hk1.output,by simp only[World.setCell];simpa using Nat.le_trans hk1.size hgrow.size,fun k h1 h2 h3=>?_⟩,fun g hg=>?_⟩
 ·have e1:(l++s.data.toList).length=l.length+s.size:=by rw[zqK,qad]
  rw[e1,<-bf_str];exact qfn hown' fun g hg=>hk g (fun e=>hne' (e▸hg))
 ·rw[hk k h2,hgrow.block k (Nat.lt_of_lt_of_le h1 hk1.size) (fun e=>h3 e.symm)];exact hk1.keep k h1 h2 h3
 ·exact(hnew g hg).imp id fun h=>Nat.le_trans hk1.size h
theorem qu6(b:Nat)(u v:Value)(l:List UInt8)(w:World)(h:BB b u v l w):Calls Tryz.prog 75 #[.pointer (some ⟨b,0,none⟩)] w fun e w'=>
  e= .returned (.string (tx l))/\BB b u v l w'/\BK b v w w':=by
 have hUN:∀(W:World) (q:Option Addr),(Builtin.unsafeString_ #[157,3] 9 #[.pointer q,.int .i64 0]).run Tryz.prog W= .ok (.string .empty) W:=fun W q=>Lib.run_unsafeString_none W _ _ _ q;have hlt:=bb_lt h;have h':=h;obtain⟨hbk,hu,hown,hne⟩:=h;have H0:=Lib.hid h';have HU:=Lib.hid hu;clear h' hu;rcases hown.2 with⟨rfl,hz⟩|⟨g,cap,cur,fz,rfl,hbg,hg,hfz,hnc,hcm,hcs,htake⟩
 ·obtain rfl:l=[]:=List.eq_nil_of_length_eq_zero hz
  have c1:w.drew.cell? ⟨b,1,none⟩=some (.slice none 0 0):=by
   have:w.drew.heap[b]? =some (.cells #[u,.slice none 0 0] TB (0,0)):=hbk;rw[Lib.cell_of_heap this];rfl
  have hSD:(Builtin.unsafeSliceData_ #[82] 157 #[.slice none 0 0]).run Tryz.prog w.drew= .ok (.pointer none) w.drew:=rfl
  go_enter Tryz.func75,Tryz.ntmps75
  go_wp2
  go_region
  all_goals (go_wp2;go_ret;exact⟨rfl,H0.out,⟨rfl,rfl,rfl,Nat.le_refl _,fun _ _ _ _=>rfl⟩⟩)
 ·by_cases hl0:l=[]
  ·subst hl0;by_cases hc0:cap=0
   ·subst hc0
    have hSD:(Builtin.unsafeSliceData_ #[82] 157 #[.slice (some ⟨g,0,none⟩) 0 0]).run Tryz.prog w.drew= .ok (.pointer (some ⟨w.drew.heap.size,0,none⟩)) (w.drew.alloc (.view ⟨g,0,none⟩ TU)):=
     Lib.run_unsafeSliceData_zero w.drew _ _ TU Tryz.underlying157 ⟨g,0,none⟩ 0 (TU,cur.size) (by have hg':w.drew.heap[g]? =some (.cells cur TU fz):=hg;simp[World.shape?,hg'])
    have c1:w.drew.cell? ⟨b,1,none⟩=some (.slice (some ⟨g,0,none⟩) 0 0):=by
     have:w.drew.heap[b]? =some (.cells #[u,.slice (some ⟨g,0,none⟩) 0 0] TB (0,0)):=hbk;rw[Lib.cell_of_heap this];rfl
    have c2:(w.drew.alloc (.view ⟨g,0,none⟩ TU)).cell? ⟨b,1,none⟩=some (.slice (some ⟨g,0,none⟩) 0 0):=by
     have:(w.drew.alloc (.view ⟨g,0,none⟩ TU)).heap[b]? =_:=(Lib.alloc_old w.drew _ b hlt).trans hbk;rw[Lib.cell_of_heap this];rfl
    have c3:(w.alloc (.view ⟨g,0,none⟩ TU)).drew.cell? ⟨b,1,none⟩=some (.slice (some ⟨g,0,none⟩) 0 0):=c2;have c0:w.cell? ⟨b,1,none⟩=some (.slice (some ⟨g,0,none⟩) 0 0):=c1;have hal:∀k,k<w.heap.size->(w.drew.alloc (.view ⟨g,0,none⟩ TU)).heap[k]? =w.heap[k]? :=fun k hk=>Lib.alloc_old w.drew _ k hk
    have fin:BB b u (.slice (some ⟨g,0,none⟩) 0 0) [] (w.drew.alloc (.view ⟨g,0,none⟩ TU))/\BK b (.slice (some ⟨g,0,none⟩) 0 0) w (w.drew.alloc (.view ⟨g,0,none⟩ TU)):=by
     obtain⟨h1,h2,h3,h4⟩:=H0.out;exact⟨⟨(hal b hlt).trans h1,h2,qfn h3 fun g' hg'=>hal g' (h3.lt g' hg').2,h4⟩,⟨rfl,rfl,rfl,by simp,fun k hk _ _=>hal k hk⟩⟩
    have HF:=Lib.hid fin;clear fin hal
    go_enter Tryz.func75,Tryz.ntmps75
    go_wp2
    go_region
    all_goals (go_wp2;go_ret;exact⟨rfl,HF.out⟩)
   ·have hSD:(Builtin.unsafeSliceData_ #[82] 157 #[.slice (some ⟨g,0,none⟩) 0 cap]).run Tryz.prog w.drew= .ok (.pointer (some ⟨g,0,none⟩)) w.drew:=
     Lib.run_unsafeSliceData_row _ _ _ _ _ _ hc0
    have c1:w.drew.cell? ⟨b,1,none⟩=some (.slice (some ⟨g,0,none⟩) 0 cap):=by
     have:w.drew.heap[b]? =some (.cells #[u,.slice (some ⟨g,0,none⟩) 0 cap] TB (0,0)):=hbk;rw[Lib.cell_of_heap this];rfl
    clear hc0
    go_enter Tryz.func75,Tryz.ntmps75
    go_wp2
    go_region
    all_goals (go_wp2;go_ret;exact⟨rfl,H0.out,⟨rfl,rfl,rfl,Nat.le_refl _,fun _ _ _ _=>rfl⟩⟩)
  ·have hlp:l.length≠0:=fun e=>hl0 (List.length_eq_zero_iff.1 e)
   have c1:w.drew.cell? ⟨b,1,none⟩=some (.slice (some ⟨g,0,none⟩) l.length cap):=by
    have:w.drew.heap[b]? =some (.cells #[u,.slice (some ⟨g,0,none⟩) l.length cap] TB (0,0)):=hbk;rw[Lib.cell_of_heap this];rfl
   have hSD:(Builtin.unsafeSliceData_ #[82] 157 #[.slice (some ⟨g,0,none⟩) l.length cap]).run Tryz.prog w.drew= .ok (.pointer (some ⟨g,0,none⟩)) w.drew:=
    Lib.run_unsafeSliceData_row _ _ _ _ _ _ (by omega)
   have hUS:(Builtin.unsafeString_ #[157,3] 9 #[.pointer (some ⟨g,0,none⟩),.int .i64 l.length]).run Tryz.prog w.drew= .ok (.string ⟨l.toArray⟩) (w.drew.freeze ⟨g,0,none⟩ l.length):=by
    refine Lib.run_unsafeString_row w.drew 157 3 9 TU Tryz.underlying157 lextra.cellsByte g cur.size (by have hg':w.drew.heap[g]? =some (.cells cur TU fz):=hg;simp[World.shape?,hg']) l hl0 (by omega) (by unfold maxLen at hcm;omega) ?_;intro j x hx;exact hown.cells (g:=g) rfl j (.int .u8 x.toNat) (by simp[qd2,hx])
   have hfr:∀k,k≠g->(w.drew.freeze ⟨g,0,none⟩ l.length).heap[k]? =w.heap[k]? :=fun k hk=>by
    unfold World.freeze;split
    ·rfl
    ·simp only[Array.getElem?_modify];rw[if_neg (fun e=>hk e.symm)];rfl
   have fin:BB b u (.slice (some ⟨g,0,none⟩) l.length cap) l (w.drew.freeze ⟨g,0,none⟩ l.length)/\BK b (.slice (some ⟨g,0,none⟩) l.length cap) w (w.drew.freeze ⟨g,0,none⟩ l.length):=by
    have hbl:(qd2 l).length=l.length:=by simp[qd2]
    have hA:Lib.BuilderAtF TB TU 0 b u (qd2 l) w.drew:=⟨Nat.zero_le _,_,hbk,by rw[hbl];exact hown,hne⟩
    have hF:=hA.froze (g:=g) (cap:=cap) (by rw[hbl];exact c1);rw[hbl]at hF;obtain⟨_,v',k1,k2,k3⟩:=hF;have hgb:b≠g:=fun e=>hne (by simp[Value.ownBlock,e]);have k1':=k1;rw[hfr b hgb,hbk]at k1';simp at k1';subst k1';rw[hbl]at k2;refine⟨⟨k1,HU.out,k2,hne⟩,⟨?_,?_,?_,?_,fun k hk h2 h3=>hfr k (fun e=>h3 (by simp[Value.ownBlock,e]))⟩⟩<;>(unfold World.freeze;split<;>first|rfl|exact Nat.le_refl _|(simp only[Array.size_modify];exact Nat.le_refl _))
   have HF:=Lib.hid fin;clear fin hfr
   go_enter Tryz.func75,Tryz.ntmps75
   go_wp2
   go_region
   all_goals (go_wp2;go_ret;exact⟨rfl,HF.out⟩)
theorem qmr{E:Env}{w w':World}{β:Nat->Nat}{Rd:Nat->Nat->Prop}{Ow:Nat->Option Hold}{H:Hp}(hr:HR E w β Rd Ow H){i:Nat}{l l':List UInt8}(hi:H[i]? =some [.bl TB,.bf TU l]){u v u' v':Value}(hb:BB (β i) u v l w)(hb':BB (β i) u' v' l' w')(hk:BK (β i) v w w')
  (hnew:∀g,v'.ownBlock=some g->v.ownBlock=some g\/w.heap.size<=g) {x:AV} {c:Value} (hx:Rel w' β Rd x c) (hxf:x.free=true) (hxb:Bnd H.length x):
  ∃Ow',Post E w β Rd Ow H w' β Rd Ow' (H.set i [.bl TB,.bf TU l']) x c:=by
 have hil:i<H.length:=(zqC.1 hi).1;obtain⟨T,cs,b1,b2,b3⟩:=hr.box i _ hi;have e0:=hb.1;rw[e0]at b1;cases b1;obtain⟨r1,r2,r3⟩:=b3 1 (.bf TU l) v rfl rfl;have hd:∀g,v.ownBlock=some g->∀o,¬Rd g o:=by cases r1;assumption
 have hOv:∀g,v.ownBlock=some g->Ow g=some (.cell i 1):=fun g hg=>r3 g hg
 have hlt:∀j,j<H.length->β j<w.heap.size:=fun j hj=>by
  obtain⟨T,cs,h1,_⟩:=hr.box j _ (zqD hj);exact qdm h1
 have hvb:∀j,j<H.length->v.ownBlock≠some (β j):=fun j hj e=>by have:=hOv _ e;rw[(hr.sep j hj).1]at this;cases this
 have hv'b:∀j,j<H.length->v'.ownBlock≠some (β j):=fun j hj e=>by
  rcases hnew _ e with h|h
  ·exact hvb j hj h
  ·have:=hlt j hj;omega
 have hR:∀g o,Rd g o->Rd g o/\w'.cell? ⟨g,o,none⟩=w.cell? ⟨g,o,none⟩:=fun g o h=>⟨h,World.cell?_of_block (a:=⟨g,o,none⟩) (hk.keep g (hr.rds g o h) (fun e=>(hr.sep i hil).2 o (e▸h)) (fun e=>hd g e o h))⟩
 have hO:∀(j p:Nat) g,(j≠i\/p≠1)->Ow g=some (.cell j p)->w'.heap[g]? =w.heap[g]? /\∀o,Rd g o->Rd g o:=fun j p g hj hg=>⟨hk.keep g (hr.ows g _ hg) (fun e=>by rw[e,(hr.sep i hil).1]at hg;cases hg) (fun e=>by rw[hOv g e]at hg;cases hg;simp at hj),fun _ h=>h⟩
 have hlen:(H.set i [AV.bl TB,.bf TU l']).length=H.length:=by simp
 have hother:∀j,j<H.length->j≠i->w'.heap[β j]? =w.heap[β j]? :=fun j hj hji=>hk.keep _ (hlt j hj) (fun e=>hji (hr.inj j i hj hil e)) (hvb j hj);refine⟨fun g=>if v'.ownBlock=some g then some (.cell i 1)else Ow g,hx,by rw[hlen];exact hxb,fun g hg=>(by rw[qaL hxf]at hg;cases hg),qa3 hxf,?_,fun _ _=>rfl,by rw[hlen];exact Nat.le_refl _,hR,fun b h1 h2 h3=>⟨hk.keep b h1 (fun e=>h2 i hil e.symm) (fun e=>(by rw[hOv b e]at h3;cases h3)),?_,fun j hj=>h2 j (by rwa[hlen]at hj),fun _ h=>h⟩,hk.os,hk.tape,hk.output,hk.size⟩
 ·refine⟨fun j m hm=>?_,fun a b ha hbb=>hr.inj a b (by rwa[hlen]at ha) (by rwa[hlen]at hbb),fun j hj=>⟨?_,(hr.sep j (by rwa[hlen]at hj)).2⟩,fun g k hg=>?_,fun g o h=>Nat.lt_of_lt_of_le (hr.rds g o h) hk.size,fun m hm y hy=>?_,fun b hbf=>?_,fun j m t hm h0=>?_⟩
  ·by_cases hji:i=j
   ·subst hji;rw[zqO hil]at hm;cases hm;refine⟨TB,_,hb'.1,rfl,fun p y z hy hz=>?_⟩
    match p with
    |0=>
     simp at hy hz;subst hy;subst hz;exact⟨.bl _ _ (by rcases hb'.2.1 with rfl|rfl<;>rfl),rfl,fun g hg=>by cases hg⟩
    |1=>
     simp at hy hz;subst hy;subst hz;refine⟨.bf _ _ _ hb'.2.2.1 (fun g hg o ho=>?_),rfl,fun g hg=>?_⟩
     ·rcases hnew g hg with h|h
      ·exact hd g h o ho
      ·have:=hr.rds g o ho;omega
     ·have hg:v'.ownBlock=some g:=hg;simp[hg]
    |p+2=>simp at hy
   ·rw[zqF hji]at hm;have hj:j<H.length:=(zqC.1 hm).1;obtain⟨T2,cs2,c1,c2,c3⟩:=hr.box j m hm;refine⟨T2,cs2,(hother j hj (fun e=>hji e.symm)).trans c1,c2,fun p y z hy hz=>?_⟩;obtain⟨q1,q2,q3⟩:=c3 p y z hy hz;refine⟨q1.move (hr.bnd m (qar hm) y (qar hy)) hR (fun g hg=>hO j p g (.inl fun e=>hji e.symm) (q3 g hg)) hk.size (fun _ _=>rfl),q2,fun g hg=>?_⟩;have hq:=q3 g hg;show(if v'.ownBlock=some g then _ else _)=_;rw[if_neg]
    ·exact hq
    ·intro e;rcases hnew g e with h|h
     ·rw[hOv g h]at hq;cases hq;exact hji rfl
     ·have:=hr.ows g _ hq;omega
  ·rw[hlen]at hj;show(if v'.ownBlock=some (β j)then _ else _)=_;rw[if_neg (hv'b j hj)];exact(hr.sep j hj).1
  ·have hg:(if v'.ownBlock=some g then some (Hold.cell i 1)else Ow g)=some k:=hg;split at hg
   ·rename_i e;exact(hb'.2.2.1.lt g e).2
   ·exact Nat.lt_of_lt_of_le (hr.ows g k hg) hk.size
  ·rw[hlen];rcases List.mem_or_eq_of_mem_set hm with h|h
   ·exact hr.bnd m h y hy
   ·subst h;simp at hy;rcases hy with rfl|rfl
    ·exact .bl _
    ·exact .bf _ _
  ·obtain⟨f1,f2,f3,f4⟩:=hr.fix b hbf;have hvn:v.ownBlock≠some b:=fun e=>by rw[hOv b e]at f2;cases f2
   refine⟨(hk.keep b f4 (fun e=>f3 i hil e.symm) hvn).trans f1,?_,fun j hj=>f3 j (by rwa[hlen]at hj),Nat.lt_of_lt_of_le f4 hk.size⟩;show(if v'.ownBlock=some b then _ else _)=_;rw[if_neg]
   ·exact f2
   ·intro e;rcases hnew b e with h|h
    ·exact hvn h
    ·omega
  ·by_cases hji:i=j
   ·subst hji;rw[zqO hil]at hm;cases hm;simp at h0;subst h0;exact⟨u',v',hb'.1,hb'.2.1⟩
   ·rw[zqF hji]at hm;have hj:j<H.length:=(zqC.1 hm).1;obtain⟨u2,v2,g1,g2⟩:=hr.bld j m t hm h0;exact⟨u2,v2,(hother j hj (fun e=>hji e.symm)).trans g1,g2⟩
 ·show(if v'.ownBlock=some b then _ else _)=_;rw[if_neg]
  ·exact h3
  ·intro e;rcases hnew b e with h|h
   ·rw[hOv b h]at h3;cases h3
   ·omega
theorem bb_of{E:Env}{w:World}{β:Nat->Nat}{Rd:Nat->Nat->Prop}{Ow:Nat->Option Hold}{H:Hp}(hr:HR E w β Rd Ow H){i:Nat}{l:List UInt8}(hi:H[i]? =some [.bl TB,.bf TU l]):∃u v,BB (β i) u v l w:=by
 obtain⟨u,v,h1,h2⟩:=hr.bld i _ TB hi rfl;obtain⟨T,cs,b1,b2,b3⟩:=hr.box i _ hi;rw[h1]at b1;cases b1;obtain⟨r1,r2,r3⟩:=b3 1 (.bf TU l) v rfl rfl;refine⟨u,v,h1,h2,by cases r1;assumption,fun e=>?_⟩;have:=r3 _ e;rw[(hr.sep i (zqC.1 hi).1).1]at this;cases this
section
variable (E:Env)(H:Hp)(Q:AV->Hp->Prop)
theorem qok(i:Nat)(l s:List UInt8)(hi:H[i]? =some [.bl TB,.bf TU l])(hl:l.length+s.length<=140737488355328)(hQ:Q (.tup [.int .i64 s.length,.raw .nilIface]) (H.set i [.bl TB,.bf TU (l++s)])):PC Tryz.prog E 74 [.ptr (some (i,0)),.str s] H Q:=by
 refine⟨by kernel_rfl,fun w β Rd Ow cargs hr hcell hsz hargs=>?_⟩;obtain⟨u,v,hb⟩:=bb_of hr hi;have g0:=hargs 0 _ _ rfl (zqM (by rw[hsz];simp));have g1:=hargs 1 _ _ rfl (zqM (by rw[hsz];simp))
 obtain⟨c0,c1,rfl⟩:∃c0 c1,cargs= #[c0,c1]:=by
  cases cargs with
  |mk l=>
   match l,hsz with
   |[x,y],_=>exact⟨x,y,rfl⟩
 simp at g0 g1;obtain rfl:=qcX g0.1;obtain⟨t,rfl,ht,_⟩:=qaC g1;subst ht;refine(qtA (β i) u v l t w hb (by rw[qad]at hl;exact hl)).mono ?_;rintro e w' ⟨rfl,u',v',h1,h2,h3⟩
 obtain⟨Ow',hP⟩:=qmr hr hi hb h1 h2 h3 (x:= .tup [.int .i64 t.data.toList.length,.raw .nilIface]) (c:= .tuple #[.int .i64 t.size,.nilIface])
  (.tup _ _ rfl (by simp[AV.free]) (fun j x u hx hu=>by
   match j with
   |0=>simp at hx hu;subst hx;subst hu;exact .int _ _
   |1=>simp at hx hu;subst hx;subst hu;exact .raw _
   |j+2=>simp at hx)) rfl (.tup _ (fun x hx=>by simp at hx;rcases hx with rfl|rfl;exact .int _ _;exact .raw _))
 exact⟨_,_,_,β,Rd,Ow',rfl,hQ,hP⟩
theorem qlS(i:Nat)(l:List UInt8)(hi:H[i]? =some [.bl TB,.bf TU l])(hl:l.length<=maxLen)(hQ:Q (.str l) H):PC Tryz.prog E 75 [.ptr (some (i,0))] H Q:=by
 refine⟨by kernel_rfl,fun w β Rd Ow cargs hr hcell hsz hargs=>?_⟩;obtain⟨u,v,hb⟩:=bb_of hr hi;have g0:=hargs 0 _ _ rfl (zqM (by rw[hsz];simp))
 obtain⟨c0,rfl⟩:∃c0,cargs= #[c0]:=by
  cases cargs with
  |mk l=>
   match l,hsz with
   |[x],_=>exact⟨x,rfl⟩
 simp at g0;obtain rfl:=qcX g0.1;refine(qu6 (β i) u v l w hb).mono ?_;rintro e w' ⟨rfl,h1,h2⟩;obtain⟨Ow',hP⟩:=qmr hr hi hb h1 h2 (fun g hg=> .inl hg) (x:= .str l) (c:= .string (tx l)) (qdv _ hl) rfl (.str _)
 have:H.set i [.bl TB,.bf TU l]=H:=by
  apply List.ext_getElem?;intro j;by_cases hj:i=j
  ·subst hj;rw[zqO (zqC.1 hi).1,hi]
  ·rw[zqF hj]
 rw[this]at hP;exact⟨_,_,_,β,Rd,Ow',rfl,hQ,hP⟩
end
theorem PC.argsNil{P:Program}{E:Env}{f:FuncId}{args args':List AV}{H:Hp}{Q:AV->Hp->Prop}(h:nilL args args')(hf:∀x∈args',x.free=true)(hp:PC P E f args' H Q):PC P E f args H Q:=by
 obtain⟨h1,h2⟩:=qeU h;refine⟨hp.1,fun w β Rd Ow cargs hr hcell hsz hargs=>hp.2 w β Rd Ow cargs hr hcell (by rw[hsz,h1]) (fun t y u hy hu=>?_)⟩;obtain⟨x,hx,hn⟩:=h2 t y hy;obtain⟨r1,r2,r3⟩:=hargs t x u hx hu;obtain⟨q1,q2,_⟩:=qfu hn r1 r2;exact⟨q1,q2,hf y (qar hy)⟩
def u8L(l:List UInt8):List AV:=l.map fun b=> .int .u8 (b.toNat:Int)
theorem qtM(l m:List UInt8):u8L (l++m)=u8L l++u8L m:=by simp[u8L]
@[simp] theorem qnf (l:List UInt8):(u8L l).length=l.length:=by simp[u8L]
theorem qqs(l:List UInt8):(bts l).flatten=u8L l:=by
 induction l with
 |nil=>rfl
 |cons b l ih=>
  show _::(bts l).flatten=_;rw[ih];rfl
theorem qgn(strs:List (List UInt8))(j:Nat):(strs.take j).flatten.length<=strs.flatten.length:=by
 have:=congrArg (fun l=>(List.flatten l).length) (List.take_append_drop j strs);simp only[List.flatten_append,zqK]at this;omega
def qcz(strs:List (List UInt8)):List (List AV):=strs.map fun s=>[.str s]
theorem qh8{strs:List (List UInt8)}{j:Nat}{s:List UInt8}(h:strs[j]? =some s):lat (qcz strs) j=some [.str s]:=by simp[lat,qcz,h]
def qo4(H0:Hp)(N0:Nat)(out:List UInt8)(strs:List (List UInt8))(M:Nat)(fr:List AV)(H':Hp):Prop:=
 ∃(J':Hp) (tail:List AV) (j:Nat),j<=strs.length/\H'=H0++(J'++[u8L (out++(strs.take j).flatten)++tail])/\(∀l∈J',∀x∈l,∃z,x= .int .u8 z)/\(∀x∈tail,∃z,x= .int .u8 z)/\N0<=H0.length+J'.length+1/\
  out.length+M<=out.length+(strs.take j).flatten.length+tail.length/\out.length+(strs.take j).flatten.length+tail.length<=maxLen/\
  ∃x:Nat->AV,fr=[.bx (H0.length+J'.length) 0 (out.length+M) (out.length+(strs.take j).flatten.length+tail.length) 1,x 1,x 2,x 3,x 4,x 5,x 6,.int .i64 ((out.length+(strs.take j).flatten.length:Nat):Int),x 8,x 9,x 10,x 11,x 12,x 13,x 14,x 15,x 16,x 17,x 18,x 19,x 20,x 21,x 22,x 23,x 24,x 25,x 26,x 27,.sl true 1 (qcz strs),.int .i64 strs.length,.int .i64 j,x 31,x 32,x 33,x 34,x 35,x 36,x 37,x 38,x 39,x 40,x 41,x 42]
def ql3(H0:Hp)(v:AV)(out:List UInt8)(H:Hp):Prop:=∃J,H=H0++J/\(∀l∈J,∀x∈l,∃z,x= .int .u8 z)/\((v= .nil/\out=[])\/
 ∃J1 tail,J=J1++[u8L out++tail]/\v= .bx (H0.length+J1.length) 0 out.length (out.length+tail.length) 1/\out.length+tail.length<=maxLen)
section
variable (E:Env)(H:Hp)(Q:AV->Hp->Prop)
theorem qeb(hE:SZ E)(n:Nat)(hn:n<=1099511627776)(hQ:Q (.tup [.str (hexD n),.int .i64 0]) H):PC Tryz.prog E 111 [.int .i64 n,.nil] H Q:=by
 have hl:=qbG n hn;refine PC.argsNil (args':=[.int .i64 n,.sl false 3 (prs [])]) ⟨.inl rfl,.inr ⟨rfl,false,3,rfl⟩,trivial⟩ (by simp) (qj3 E H Q hE n [] (by simp[psz]) ?_)
 have e:qfh n []=(hexD n,0):=by
  unfold qfh;rw[if_neg (by omega),if_neg (by simp),if_neg (by simp[prt];omega)];simp[prt]
 rw[e];exact hQ
theorem qs9(hE:SZ E)(H0:Hp)(v:AV)(out p:List UInt8)(hv:ql3 H0 v out H)(hp:p.length<=4194304)(hl:out.length<=1073741824)(hQ:∀v' H',ql3 H0 v' (out++qbF p) H'->Q v' H'):PC Tryz.prog E 79 [v,.str p] H Q:=by
 obtain⟨size,hsz⟩:=exz (hexD p.length);have hs11:=qbG p.length (by omega);rw[hsz]at hs11;obtain⟨J,rfl,hJ,hv⟩:=hv;have hw1:IntKind.i64.wrap ((size.length:Int)+p.length)=((size.length+p.length:Nat):Int):=by rw[qak (by omega) (by omega)];omega
 have hw2:IntKind.i64.wrap (((size.length+p.length:Nat):Int)+4)=((size.length+p.length+4:Nat):Int):=by rw[qak (by omega) (by omega)];omega
 obtain⟨M,hM⟩:=exz (size.length+p.length+4);rw[hM]at hw2;have hM0:¬M=0:=by omega
 have m1:M<=maxLen:=by unfold maxLen;omega
 have m2:M<=140737488355328:=by omega
 have hch:size++([13,10]++(p++[13,10]))=qbF p:=by unfold qbF;rw[hsz];simp
 obtain⟨strs,hstrs⟩:∃strs:List (List UInt8),[size,[13,10],p,[13,10]]=strs:=⟨_,rfl⟩
 have hsl:strs.length=4:=by rw[<-hstrs];rfl
 have hsf:strs.flatten=qbF p:=by rw[<-hstrs,<-hch];simp
 have hsM:strs.flatten.length=M:=by rw[<-hM,<-hstrs];simp;omega
 have hrows:qcz strs=[[AV.str size],[.str [13,10]],[.str p],[.str [13,10]]]:=by rw[<-hstrs];rfl
 have hlast:∀j,j<4->(strs.take j).flatten.length+2<=M:=fun j hj=>by
  have h1:(strs.take j).flatten.length<=(strs.take 3).flatten.length:=by
   have:=qgn (strs.take 3) j;rw[List.take_take,Nat.min_eq_left (by omega)]at this;exact this
  have h2:(strs.take 3).flatten.length=size.length+(2+p.length):=by rw[<-hstrs];simp;omega
  omega
 have hM1:M<=8388608:=by omega
 have r4:(([0,1,2,3]:List Nat)=List.range 4)=True:=eq_true rfl;have hzero:∀(n:Nat) (x:AV),x∈List.replicate n (AV.int .u8 0)->∃z,x= .int .u8 z:=fun n x hx=>⟨0,(List.mem_replicate.1 hx).2⟩
 have hB0:∀N,BndH (H0++J).length (H0++J)->(H0++J).length<=N->∀l∈H0,∀x∈l,Bnd N x:=fun N hB hN l hl x hx=>(hB l (List.mem_append_left _ hl) x hx).mono hN;rcases hv with⟨rfl,hout⟩|⟨J1,tail,rfl,rfl,htl⟩
 case' inl=>
  obtain⟨N0,hN0⟩:=exz (H0.length+J.length);refine qac Tryz.func79 rfl [] [(3,[0,0,0,0,0,0,0,3]),(7,[0,0,0,0,0,3])] (by kernel_rfl) (fun hB=>?_);simp[Tryz.ntmps79,Tryz.results79,List.replicate_succ];refine qeb E _ _ hE p.length (by omega) ?_;rw[hsz];simp[hw1,hw2,m1,m2,hM0,-Int.natCast_add];refine qd4 fun c hc1 hc2=>?_;simp[r4];rw[hN0];refine qaB (qo4 H0 N0 out strs M) (fun fr _=>4-(ai (aget fr 30)).toNat) ?_ ?_
  ·refine⟨J,List.replicate (M+(c-M)) (.int .u8 0),0,by omega,by simp[u8L,hout],hJ,hzero _,by omega,by simp,by simp[hout];omega,qag (by simp[hrows,hsl,hout,hN0];omega)⟩
  have hBN:∀N,N0<=N->∀l∈H0,∀x∈l,Bnd N x:=fun N hN=>hB0 N hB (by simp;omega);clear hJ hB hN0 hc1 hc2 hB0 hout
 case' inr=>
  obtain⟨N0,hN0⟩:=exz (H0.length+(J1.length+1));have hfree:(∀x∈u8L out,x.free=true)=True:=eq_true fun x hx=>by obtain⟨b,_,rfl⟩:=List.mem_map.1 hx;rfl
  have hdrop:List.drop (out.length+M) (u8L out++tail)=tail.drop M:=by rw[List.drop_append,List.drop_of_length_le (by simp only[qnf];omega)];simp
  have htu:∀x∈tail,∃z,x= .int .u8 z:=fun x hx=>hJ (u8L out++tail) (by simp) x (List.mem_append_right _ hx);have hJ1:∀l∈J1,∀x∈l,∃z,x= .int .u8 z:=fun l hl=>hJ l (List.mem_append_left _ hl);have hrow:∀x∈u8L out++tail,∃z,x= .int .u8 z:=hJ _ (by simp);refine qac Tryz.func79 rfl [] [(3,[0,0,0,0,0,0,0,3]),(7,[0,0,0,0,0,3])] (by kernel_rfl) (fun hB=>?_);simp[Tryz.ntmps79,Tryz.results79,List.replicate_succ];refine qeb E _ _ hE p.length (by omega) ?_;rw[hsz];have hBN:∀N,N0<=N->∀l∈H0,∀x∈l,Bnd N x:=fun N hN=>hB0 N hB (by simp;omega);rcases Nat.lt_or_ge (out.length+tail.length) (out.length+M)with hroom|hroom
  case' inr=>
   simp[hw1,hw2,m1,m2,hM0,hroom,hfree,hdrop,r4,-Int.natCast_add];rw[hN0];refine qaB (qo4 H0 N0 out strs M) (fun fr _=>4-(ai (aget fr 30)).toNat) ?_ ?_
   ·refine⟨J1,List.replicate M (.int .u8 0)++tail.drop M,0,by omega,by simp,hJ1,fun x hx=>?_,by omega,by simp,by simp;omega,qag (by simp[hrows,hsl];omega)⟩;rcases List.mem_append.1 hx with h|h
    ·exact hzero _ x h
    ·exact htu x (List.mem_of_mem_drop h)
   clear hJ hB hN0 hfree hdrop htu hJ1 hroom htl hB0 hrow
  case' inl=>
   have hroom':¬out.length+M<=out.length+tail.length:=by omega
   have hm3:out.length+M<=maxLen:=by unfold maxLen;omega
   have hm4:out.length+M<=140737488355328:=by omega
   simp[hw1,hw2,m1,m2,hM0,hroom',hfree,hm3,hm4,-Int.natCast_add];refine qd4 fun c hc1 hc2=>?_;simp[r4];rw[hN0];refine qaB (qo4 H0 N0 out strs M) (fun fr _=>4-(ai (aget fr 30)).toNat) ?_ ?_
   ·refine⟨J1++[u8L out++tail],List.replicate M (.int .u8 0)++List.replicate (c-(out.length+M)) (.int .u8 0),0,by omega,by simp,fun l hl=>?_,fun x hx=>?_,by simp;omega,by simp,by simp;omega,qag (by simp[hrows,hsl];omega)⟩
    ·rcases List.mem_append.1 hl with h|h
     ·exact hJ1 l h
     ·simp at h;subst h;exact hrow
    ·rcases List.mem_append.1 hx with h|h<;>exact hzero _ x h
   clear hJ hB hN0 hfree hdrop htu hJ1 hroom htl hB0 hroom' hm3 hm4 hc1 hc2 hrow
 all_goals
  rintro fr H' ⟨J',tl,j,hj,rfl,hJ',htl',hN,hge,hle,x,rfl⟩;obtain⟨pre,hpre⟩:=exz (out++(strs.take j).flatten);have hpl:out.length+(strs.take j).flatten.length=pre.length:=by rw[<-hpre,zqK]
  rw[hpl]at hge hle⊢;rw[hpre];have hget:∀r:List AV,(H0++(J'++[r]))[H0.length+J'.length]? =some r:=fun r=>by rw[<-List.append_assoc,zqB (by simp)];simp
  have hset:∀r q:List AV,(H0++(J'++[r])).set (H0.length+J'.length) q=H0++(J'++[q]):=fun r q=>by rw[<-List.append_assoc,List.set_append_right _ _ (by simp),List.append_assoc];simp
  by_cases h:j<strs.length
  ·obtain⟨s,hs⟩:∃s,strs[j]? =some s:=⟨_,zqD h⟩
   have hat:=qh8 hs;have hl2:=hlast j (by omega);have hnext:(strs.take (j+1)).flatten=(strs.take j).flatten++s:=by rw[List.take_add_one,hs];simp
   have hpn:pre++s=out++(strs.take (j+1)).flatten:=by rw[hnext,<-hpre];simp
   have hle2:pre.length+s.length<=out.length+M:=by
    have:=qgn strs (j+1);have e:=congrArg List.length hpn;rw[zqK,zqK]at e;omega
   have q1:pre.length<=out.length+M:=by omega
   have q2:out.length+M<=pre.length+tl.length:=by omega
   have q3:¬pre.length+tl.length=pre.length:=by omega
   have q4:s.length<=out.length+M-pre.length:=by omega
   have q5:pre.length+s.length<=pre.length+tl.length:=by omega
   have q6:s.length<=tl.length:=by omega
   have hw3:IntKind.i64.wrap ((pre.length:Int)+s.length)=((pre.length+s.length:Nat):Int):=by rw[qak (by omega) (by omega)];omega
   have hw4:IntKind.i64.wrap ((j:Int)+1)=j+1:=wiz;have hne:¬tl=[]:=fun e=>by rw[e]at q2;simp at q2;omega
   have e1:List.take pre.length (u8L pre++tl)=u8L pre:=by rw[List.take_append_of_le_length (by simp),zqE (by simp)]
   have e2:List.drop (pre.length+s.length) (u8L pre++tl)=tl.drop s.length:=by rw[List.drop_append,List.drop_of_length_le (by simp)];simp
   simp[h,hat,q1,q2,q4,q5,q6,hne,hget,hset,hw3,hw4,e1,e2,qqs,-Int.natCast_add];refine Klz ⟨J',tl.drop s.length,j+1,by omega,by rw[<-hpn,qtM];simp,hJ',fun y hy=>htl' y (List.mem_of_mem_drop hy),hN,?_,?_,qag ?_⟩
   all_goals
    have e3:out.length+(strs.take (j+1)).flatten.length=pre.length+s.length:=by rw[<-zqK,<-hpn,zqK]
    rw[e3]
    try (rw[zqI];omega)
   have e4:pre.length+s.length+(tl.drop s.length).length=pre.length+tl.length:=by rw[zqI];omega
   rw[e4];simp
  ·obtain rfl:j=strs.length:=by omega
   simp;have hfull:out++qbF p=pre:=by rw[<-hpre,zqE (Nat.le_refl _),hsf]
   rw[hfull]at hQ;have hn:out.length+M=pre.length:=by rw[<-hpl,zqE (Nat.le_refl _),hsM]
   rw[hn]
   have hcells:∀y∈u8L pre++tl,∃z,y= .int .u8 z:=fun y hy=>by
    rcases List.mem_append.1 hy with h|h
    ·obtain⟨b,_,rfl⟩:=List.mem_map.1 h;exact⟨_,rfl⟩
    ·exact htl' y h
   have hJall:∀l∈J'++[u8L pre++tl],∀y∈l,∃z,y= .int .u8 z:=fun l hl=>by
    rcases List.mem_append.1 hl with h|h
    ·exact hJ' l h
    ·simp at h;subst h;exact hcells
   refine⟨.bx (H0.length+J'.length) 0 pre.length (pre.length+tl.length) 1,_,_,H0++(J'++[u8L pre++tl]),[],by simp,qaa _,qb0 _,by simp,by simp;omega,fun l hl y hy=>?_,by simp,hQ _ _ ⟨_,rfl,hJall,.inr ⟨J',tl,rfl,rfl,hle⟩⟩⟩;rcases List.mem_append.1 hl with h|h
   ·exact hBN _ (by simp;omega) l h y hy
   ·obtain⟨z,rfl⟩:=hJall l h y hy;exact .int _ _
end
def qa6(f:Fld):List UInt8×Int:=if qbm f.name=false then([],60)else if qbY f.value=false then([],61)else(qax f,0)
@[simp] theorem tblfB:tblf Tryz.prog 120=some TU:=by kernel_rfl
section
variable (E:Env)(H:Hp)(Q:AV->Hp->Prop)
theorem qnF(l:List UInt8)(hl:l.length<=cap)(hQ:Q (.bool (qbY l)) H):PC Tryz.prog E 105 [.str l] H Q:=by
 refine qac Tryz.func105 rfl [] [] (by kernel_rfl) (fun hB=>?_);have fin:∀c:Bool,qbY l=c->Q (.bool c) H:=fun c hc=>hc▸hQ;by_cases h:l.length<=8192
 ·have h':(l.length:Int)<=8192:=by omega
  simp[Tryz.ntmps105,Tryz.results105,List.replicate_succ,h'];refine qex E _ _ l hl ?_;cases hf:fldB l
  ·simp;exact aQz hB (h6:=(fin _ (by simp[qbY,hf])))
  ·simp;refine qgM E _ _ l hl ?_;simp;exact aQz hB (h6:=(fin _ (by unfold qbY;rw[hf,Bool.eq_iff_iff];simp[h])))
 ·have h':¬(l.length:Int)<=8192:=by omega
  simp[Tryz.ntmps105,Tryz.results105,List.replicate_succ,h'];exact aQz hB (h6:=(fin _ (by simp[qbY,h])))
theorem qgg(hE:SE E)(f:Fld)(h1:f.name.length<=16777216)(h2:f.value.length<=16777216)(hQ:Q (.tup [.str (qa6 f).1,.int .i64 (qa6 f).2]) H):PC Tryz.prog E 73 [.agg [.str f.name,.str f.value]] H Q:=by
 refine qac Tryz.func73 rfl [] [] (by kernel_rfl) (fun hB=>?_);have m1:f.name.length+1<=maxLen:=by unfold maxLen;omega
 have m2:f.name.length+2<=maxLen:=by unfold maxLen;omega
 have m3:f.name.length+2+f.value.length<=maxLen:=by unfold maxLen;omega
 have m4:f.name.length+1+1<=maxLen:=by unfold maxLen;omega
 have m5:f.name.length+1+1+f.value.length<=maxLen:=by unfold maxLen;omega
 simp[Tryz.ntmps73,Tryz.results73,List.replicate_succ];refine qkr E _ _ hE f.name (by simp only[cap];omega) ?_;cases hn:qbm f.name with
 |false=>
  have e:qa6 f=([],60):=by unfold qa6;rw[if_pos hn]
  rw[e]at hQ;simp;exact qab hB rfl (qaa _) (by simp) hQ
 |true=>
  simp;refine qnF E _ _ f.value (by simp only[cap];omega) ?_;cases hv:qbY f.value with
  |false=>
   have e:qa6 f=([],61):=by unfold qa6;rw[if_neg (by rw[hn];simp),if_pos hv]
   rw[e]at hQ;simp;exact qab hB rfl (qaa _) (by simp) hQ
  |true=>
   have e:qa6 f=(qax f,0):=by unfold qa6;rw[if_neg (by rw[hn];simp),if_neg (by rw[hv];simp)]
   rw[e]at hQ;by_cases he:f.value=[]
   ·have e2:qax f=f.name++[58]:=by unfold qax;rw[if_pos he]
    rw[e2]at hQ;have he':(f.value==[])=true:=by simpa using he
    simp[he',m1];exact qab hB rfl (qaa _) (by simp) hQ
   ·have e2:qax f=f.name++(58::32::f.value):=by unfold qax;rw[if_neg he]
    rw[e2]at hQ;have he':(f.value==[])=false:=by simpa using he
    simp[he',m2,m3,m4,m5];exact qab hB rfl (qaa _) (by simp) hQ
end
def qcA(ns:List Int):Bool:=ns.all fun n=>decide (1<=n)
def qbh(body:List UInt8)(ns:List Int)(ts:List Fld):List UInt8×Int:=if qcA ns=false then([],1)else if ts.all qbj=false then([],101)else(encT (qan body ns) ts,0)
def fsz:List Fld->Nat
 |[]=>0
 |f::l=>f.name.length+f.value.length+fsz l
theorem qeh{l:List Fld}{i:Nat}{f:Fld}(h:l[i]? =some f):f.name.length+f.value.length<=fsz l:=by
 induction l generalizing i with
 |nil=>simp at h
 |cons q l ih=>
  cases i with
  |zero=>simp at h;subst h;simp[fsz]
  |succ i=>have:=ih (i:=i) (by simpa using h);simp[fsz];omega
theorem qgz(l:List Fld)(i:Nat):fsz (l.take i)<=fsz l:=by
 induction l generalizing i with
 |nil=>simp
 |cons p l ih=>
  cases i with
  |zero=>simp[fsz]
  |succ i=>have:=ih i;simp[fsz];omega
theorem qfv(f:Fld):(qax f).length<=f.name.length+f.value.length+2:=by
 unfold qax;split<;>simp<;>omega
theorem qcx(l:List Fld):(qav l).length<=fsz l+4*l.length:=by
 induction l with
 |nil=>simp[qav]
 |cons f l ih=>
  have e:qav (f::l)=qax f++[13,10]++qav l:=by simp[qav]
  have:=qfv f;rw[e];simp[fsz];omega
theorem qdS(l:List Fld)(i:Nat)(f:Fld)(h:l[i]? =some f):qav (l.take (i+1))=qav (l.take i)++(qax f++[13,10]):=by
 rw[List.take_add_one,h];simp[qav]
theorem qqm(p:List UInt8)(h0:p≠[])(h:p.length<=1099511627776):(qbF p).length<=16*p.length:=by
 have h1:=qbG p.length h;have h2:p.length≠0:=fun e=>h0 (List.length_eq_zero_iff.1 e);unfold qbF;simp;omega
theorem qeC:∀(ps:List (List UInt8)),(∀p∈ps,p≠[])->ps.flatten.length<=1099511627776->(qaq ps).length<=16*ps.flatten.length
 |[],_,_=>by simp[qaq]
 |p::ps,h0,h=>by
  simp only[List.flatten_cons,zqK]at h;have h1:=qqm p (h0 p (by simp)) (by omega);have h2:=qeC ps (fun q hq=>h0 q (by simp[hq])) (by omega);have e:qaq (p::ps)=qbF p++qaq ps:=by simp[qaq]
  rw[e];simp only[List.flatten_cons,zqK];omega
def qlA(a b:List UInt8):Bool:=low a==low b
def allB(l:List Fld)(n:List UInt8):List (List UInt8):=(l.filter fun f=>qlA f.name n).map fun f=>f.value
theorem qkW(l:List Fld)(n:List UInt8)(i:Nat)(f:Fld)(h:l[i]? =some f):allB (l.take (i+1)) n=allB (l.take i) n++(if qlA f.name n=true then [f.value]else []):=by
 unfold allB;rw[List.take_add_one,h];simp only[Option.toList,List.filter_append,List.map_append];congr 1;by_cases hl:qlA f.name n=true
 ·rw[if_pos hl,List.filter_cons,if_pos hl];rfl
 ·rw[if_neg hl,List.filter_cons,if_neg hl];rfl
theorem qm9(l:List Fld)(n:List UInt8):(allB l n).length<=l.length:=by
 unfold allB;rw[List.length_map];exact List.length_filter_le _ _
def vsz:List (List UInt8)->Nat
 |[]=>0
 |x::r=>x.length+1+vsz r
theorem qtD(a b:List (List UInt8)):vsz (a++b)=vsz a+vsz b:=by
 induction a with
 |nil=>simp[vsz]
 |cons x a ih=>simp[vsz,ih];omega
theorem qdJ(l:List Fld)(n:List UInt8):vsz (allB l n)<=fsz l+l.length:=by
 induction l with
 |nil=>simp[allB,vsz]
 |cons f l ih=>
  unfold allB at ih⊢;rw[List.filter_cons];simp only[fsz,zqL];split
  ·simp only[List.map_cons,vsz];omega
  ·omega
theorem ql8(l:List (List UInt8))(i:Nat):vsz (l.take i)<=vsz l:=by
 have:=congrArg vsz (List.take_append_drop i l);rw[qtD]at this;omega
theorem qoo{l:List (List UInt8)}{i:Nat}{x:List UInt8}(h:l[i]? =some x):x.length+1<=vsz l:=by
 induction l generalizing i with
 |nil=>simp at h
 |cons a l ih=>
  cases i with
  |zero=>simp at h;subst h;simp[vsz]
  |succ i=>simp at h;have:=ih h;simp[vsz];omega
theorem qop(l:List (List UInt8)):l.length<=vsz l:=by
 induction l with
 |nil=>simp
 |cons a l ih=>simp[vsz];omega
def qaY:List (List UInt8)->Option (List (List UInt8))
 |[]=>some []
 |v::r=>match qd6 v with
  |none=>none
  |some x=>(qaY r).map (x++·)
theorem qfX:∀(a b:List (List UInt8)),qaY (a++b)=match qaY a with
  |none=>none
  |some x=>(qaY b).map (x++·)
 |[],b=>by
  show qaY b=(qaY b).map (fun y=>[]++y);cases qaY b<;>simp
 |v::a,b=>by
  rw[List.cons_append,qaY,qfX a b,qaY];cases qd6 v with
  |none=>rfl
  |some x=>
   cases qaY a with
   |none=>rfl
   |some y=>cases qaY b<;>simp
theorem qhg{vs:List (List UInt8)}{i:Nat}{v:List UInt8}{acc x:List (List UInt8)}(h:vs[i]? =some v)(ha:qaY (vs.take i)=some acc)(hv:qd6 v=some x):qaY (vs.take (i+1))=some (acc++x):=by
 rw[List.take_add_one,h,Option.toList,qfX,ha];simp[qaY,hv]
theorem qhf{vs:List (List UInt8)}{i:Nat}{v:List UInt8}(h:vs[i]? =some v)(hv:qd6 v=none):qaY vs=none:=by
 have hi:=(zqC.1 h).1
 have e:vs=vs.take i++(v::vs.drop (i+1)):=by
  rw[<-(zqC.1 h).2,<-List.drop_eq_getElem_cons hi,List.take_append_drop]
 rw[e,qfX];cases qaY (vs.take i)with
 |none=>rfl
 |some y=>simp[qaY,hv]
theorem qca:∀(vs acc:List (List UInt8)),qaY vs=some acc->acc.length<=vsz vs
 |[],acc,h=>by cases h;simp
 |v::r,acc,h=>by
  rw[qaY]at h;cases hv:qd6 v with
  |none=>rw[hv]at h;cases h
  |some x=>
   rw[hv]at h;cases hr:qaY r with
   |none=>rw[hr]at h;cases h
   |some y=>
    rw[hr]at h;cases h;have h1:=qhh hv;have h2:=qca r y hr;simp[vsz];omega
theorem qdC:∀(vs acc:List (List UInt8)),qaY vs=some acc->∀p∈acc,p.length<=vsz vs
 |[],acc,h=>by cases h;simp
 |v::r,acc,h=>by
  rw[qaY]at h;cases hv:qd6 v with
  |none=>rw[hv]at h;cases h
  |some x=>
   rw[hv]at h;cases hr:qaY r with
   |none=>rw[hr]at h;cases h
   |some y=>
    rw[hr]at h;cases h;intro p hp;rcases List.mem_append.1 hp with hp|hp
    ·have:=qpn hv p hp;simp[vsz];omega
    ·have:=qdC r y hr p hp;simp[vsz];omega
def qda(l:List Fld)(n:List UInt8):List (List UInt8)×Int:=match qaY (allB l n)with
 |some x=>(x,0)
 |none=>([],14)
def qb6(l:List Fld)(n:List UInt8):List (List UInt8)×Int:=match qaY (allB l n)with
 |some x=>if x.all tokB=true then(x.map low,0)else([],10)
 |none=>([],14)
def nCL:List UInt8:=[67,111,110,116,101,110,116,45,76,101,110,103,116,104]
def nTE:List UInt8:=[84,114,97,110,115,102,101,114,45,69,110,99,111,100,105,110,103]
def qb2:List UInt8:=[99,104,117,110,107,101,100]
def decA(x:List UInt8):Int:=if(qae 10 1099511627776 x).2=0 then(qae 10 1099511627776 x).1 else-1
def qaG(l:List Fld):Int×Bool×Int:=if allB l nCL=[]then(0,false,0)else match qaY (allB l nCL)with
 |some (x::r)=>if decA x<0\/(r.all fun y=>decide (decA y=decA x))=false then(0,false,66)else(decA x,true,0)
 |_=>(0,false,66)
def qaI(l:List Fld):List (List UInt8)×Bool×Int:=if allB l nTE=[]then([],false,0)else if(qb6 l nTE).2=0 then((qb6 l nTE).1,true,0)else([],false,67)
def qaj(l:List Fld)(old:Bool):Int×Int×Int:=
 if(qaI l).2.2≠0\/((qaI l).2.1=true/\(old=true\/(qaI l).1≠[qb2]))then(0,0,67)
 else if(qaG l).2.2≠0 then(0,0,(qaG l).2.2)
 else if(qaI l).2.1=true/\(qaG l).2.1=true then(0,0,68)
 else if(qaI l).2.1=true then(2,0,0)
 else if(qaG l).2.1=true then(1,(qaG l).1,0)
 else(0,0,0)
inductive HD where
 |ok (fs:List Fld) (e:Nat)
 |bad (n:Int) (e:Int)
 |part
structure Resp where
 status:Int
 reason:List UInt8
 fields:List Fld
 body:List UInt8
structure Mann where
 method:List UInt8
 close:Bool
 old:Bool
 chunked:Bool
 sizes:List Int
 trailers:List Fld
@[irreducible] def qbt (l:List Fld):List UInt8×Int:=if 100<l.length then([],65)else match l.find? fun f=>decide ((qa6 f).2≠0)with
 |some f=>([],(qa6 f).2)
 |none=>(qav l,0)
def strL(l:List (List UInt8)):List AV:=l.map AV.str
@[simp] theorem qdL (l:List (List UInt8)):(strL l).length=l.length:=by simp[strL]
theorem qmd(l m:List (List UInt8)):strL (l++m)=strL l++strL m:=by simp[strL]
theorem qfP(l:List (List UInt8)):(strs l).flatten=strL l:=by
 induction l with
 |nil=>rfl
 |cons x l ih=>show _::(strs l).flatten=_;rw[ih];rfl
theorem qff(l:List (List UInt8)):∀x∈strL l,∃s,x= .str s:=fun x hx=>by obtain⟨s,_,rfl⟩:=List.mem_map.1 hx;exact⟨s,rfl⟩
theorem qqn(out:List (List UInt8))(tail:List AV):chop 1 out.length (strL out++tail)=strs out:=by
 rw[qjv _ _ (by simp),List.take_append_of_le_length (by simp),zqE (by simp)];unfold strL strs;rw[List.map_map];rfl
def SAt(H0:Hp)(v:AV)(out:List (List UInt8))(H:Hp):Prop:=∃J,H=H0++J/\(∀l∈J,∀x∈l,∃z,x= .str z)/\((v= .nil/\out=[])\/
 ∃J1 tail,J=J1++[strL out++tail]/\v= .bx (H0.length+J1.length) 0 out.length (out.length+tail.length) 1/\out.length+tail.length<=maxLen)
theorem qrB{H0:Hp}{v:AV}{out:List (List UInt8)}{H:Hp}(h:SAt H0 v out H):v.free=true/\v.dis=v:=by
 obtain⟨J,_,_,⟨rfl,_⟩|⟨J1,tail,_,rfl,_⟩⟩:=h<;>exact⟨rfl,rfl⟩
theorem qt6{H0:Hp}{v:AV}{out:List (List UInt8)}{H:Hp}(h:SAt H0 v out H):Bnd H.length v:=by
 obtain⟨J,rfl,_,⟨rfl,_⟩|⟨J1,tail,rfl,rfl,_⟩⟩:=h
 ·exact .nil
 ·exact .bx _ _ _ _ _ (by simp)
theorem qrC{H0:Hp}{v:AV}{out:List (List UInt8)}{H:Hp}(h:SAt H0 v out H)(hB:BndH H0.length H0):BndH H.length H:=by
 obtain⟨J,rfl,hJ,_⟩:=h;intro l hl y hy;rcases List.mem_append.1 hl with h|h
 ·exact(hB l h y hy).mono (by simp)
 ·obtain⟨s,rfl⟩:=hJ l h y hy;exact .str _
section
variable (E:Env)(H:Hp)(Q:AV->Hp->Prop)
def qts(l:List Fld)(n:List UInt8)(H:Hp)(fr:List AV)(H':Hp):Prop:=∃(J:Hp) (i:Nat),H'=H++J/\i<=l.length/\∃x:Nat->AV,fr=[x 0,.str n,x 2,x 3,x 4,.sl true 1 (strs (allB (l.take i) n)),x 6,x 7,.sl false 2 (flds l),.int .i64 l.length,.int .i64 i,x 11,x 12,x 13,x 14,x 15,x 16,x 17,x 18,x 19,x 20,x 21,x 22,x 23,x 24]
theorem qkV(l:List Fld)(n:List UInt8)(hl:fsz l+l.length<=16777216)(hn:n.length<=cap)(hQ:Q (.sl false 1 (strs (allB l n))) H):PC Tryz.prog E 63 [.sl false 2 (flds l),.str n] H Q:=by
 refine qac Tryz.func63 rfl [18] [] (by kernel_rfl) (fun hB=>?_);simp[Tryz.ntmps63,Tryz.results63,List.replicate_succ];refine qeo 5 1 (by rfl) ?_;simp only[List.set_cons_succ,List.set_cons_zero];refine qaB (qts l n H) (fun fr _=>l.length-(ai (aget fr 10)).toNat) ⟨[],0,by simp,by omega,qag (by simp[allB,strs])⟩ ?_;rintro fr H' ⟨J,i,rfl,hi,x,rfl⟩;by_cases h:i<l.length
 ·obtain⟨f,hf⟩:∃f,l[i]? =some f:=⟨_,zqD h⟩
  have hat:=qdj hf;have hfm:=qeh hf;have hw:IntKind.i64.wrap ((i:Int)+1)=i+1:=wiz;have hst:=qkW l n i f hf;have hal:=qm9 (l.take i) n;rw[zqJ]at hal;simp[h,hat];refine qmt E _ _ f.name n (by simp only[cap];omega) hn ?_;cases he:(low f.name==low n)with
  |false=>
   rw[if_neg (by unfold qlA;rw[he];simp),List.append_nil]at hst;simp[hw];exact Klz ⟨_,i+1,rfl,by omega,qag (by simp[hst])⟩
  |true=>
   rw[if_pos (show qlA f.name n=true from he)]at hst;have m1:(allB (l.take i) n).length+1<=maxLen:=by unfold maxLen;omega
   have m2:((allB (l.take i) n).length+1)*16<=140737488355328:=by omega
   have hsn:=qgS (allB (l.take i) n) f.value;rw[<-hst]at hsn;simp[m1,m2,hsn,hw];exact Klz ⟨_,i+1,rfl,by omega,friz⟩
 ·obtain rfl:i=l.length:=by omega
  simp;exact qab hB (v0:= .sl false 1 (strs (allB l n))) (by simp) (qaa _) (by simp[qcN]) hQ
def flInv(vs:List (List UInt8))(H:Hp)(fr:List AV)(H':Hp):Prop:=∃(i:Nat) (v:AV) (acc:List (List UInt8)),i<=vs.length/\SAt H v acc H'/\qaY (vs.take i)=some acc/\
 ∃x:Nat->AV,fr=[x 0,x 1,x 2,x 3,x 4,x 5,v,x 7,x 8,x 9,x 10,x 11,x 12,.sl false 1 (strs vs),.int .i64 vs.length,.int .i64 i,x 16,x 17,x 18,x 19,x 20,x 21,x 22,x 23,x 24,x 25,x 26,x 27,x 28,x 29,x 30,x 31]
theorem qmN(l:List Fld)(n:List UInt8)(hl:fsz l+l.length<=4194304)(hn:n.length<=cap)(hQ1:qaY (allB l n)=none->Q (.tup [.sl false 1 [],.int .i64 14]) H)
  (hQ2:∀acc v H',qaY (allB l n)=some acc->SAt H v acc H'->Q (.tup [v,.int .i64 0]) H'):PC Tryz.prog E 108 [.sl false 2 (flds l),.str n] H Q:=by
 have hvz:=qdJ l n;refine qac Tryz.func108 rfl [] [(8,[0,0,3])] (by kernel_rfl) (fun hB=>?_);simp[Tryz.ntmps108,Tryz.results108,List.replicate_succ];refine qkV E _ _ l n (by omega) hn ?_
 generalize allB l n=vs at*
 have hvl:=qop vs;simp;refine qaB (flInv vs H) (fun fr _=>vs.length-(ai (aget fr 15)).toNat) ⟨0,.nil,[],by omega,⟨[],by simp,by simp,.inl ⟨rfl,rfl⟩⟩,rfl,friz⟩ ?_;rintro fr H' ⟨i,v,acc,hi,hS,hacc,x,rfl⟩;obtain⟨hvf,hvd⟩:=qrB hS;have hlen:=qca _ _ hacc;have hvt:=ql8 vs i;by_cases h:i<vs.length
 ·obtain⟨s,hs⟩:∃s,vs[i]? =some s:=⟨_,zqD h⟩
  have hat:=qcW hs;have hsz:=qoo hs;have hw:IntKind.i64.wrap ((i:Int)+1)=i+1:=wiz;simp[h,hat];refine qut E _ _ s (by omega) ?_;cases hlb:qd6 s with
  |none=>
   have e:qdh s=([],14):=by unfold qdh;rw[hlb]
   rw[e];obtain⟨J,rfl,_⟩:=hS;simp;exact qab hB (v0:= .tup [.nil,.int .i64 14]) (by simp) (qcg 1 _ rfl) (by simp) (hQ1 (qhf hs hlb))
  |some y=>
   have e:qdh s=(y,0):=by unfold qdh;rw[hlb]
   rw[e];have hyl:=qhh hlb;have hst:=qhg hs hacc hlb;obtain⟨J,rfl,hJ,⟨rfl,rfl⟩|⟨J1,tail,rfl,rfl,htl⟩⟩:=hS
   ·by_cases hy:y=[]
    ·subst hy;have hs0:strs ([]:List (List UInt8))=[]:=rfl;simp[hw,hs0];exact Klz ⟨i+1,.nil,[],by omega,⟨J,rfl,hJ,.inl ⟨rfl,rfl⟩⟩,by simpa using hst,friz⟩
    ·have m1:y.length<=maxLen:=by unfold maxLen;omega
     have m2:y.length*16<=140737488355328:=by omega
     simp[hy,m1,m2,qfP];refine qd4 fun c hc1 hc2=>?_;obtain⟨k,rfl⟩:∃k,c=y.length+k:=⟨c-y.length,by omega⟩
     simp[hw];refine Klz ⟨i+1,.bx (H.length+J.length) 0 y.length (y.length+k) 1,y,by omega,⟨J++[strL y++List.replicate k (.str [])],rfl,fun l hl z hz=>?_,.inr ⟨J,List.replicate k (.str []),rfl,by simp,by simpa using hc2⟩⟩,by simpa using hst,friz⟩;rcases List.mem_append.1 hl with h|h
     ·exact hJ l h z hz
     ·simp only[List.mem_singleton]at h;subst h;rcases List.mem_append.1 hz with h|h
      ·exact qff _ z h
      ·exact⟨_,(List.mem_replicate.1 h).2⟩
   ·have hget:∀r:List AV,(H++(J1++[r]))[H.length+J1.length]? =some r:=fun r=>by rw[<-List.append_assoc,zqB (by simp)];simp
    have hset:∀r q:List AV,(H++(J1++[r])).set (H.length+J1.length) q=H++(J1++[q]):=fun r q=>by rw[<-List.append_assoc,List.set_append_right _ _ (by simp),List.append_assoc];simp
    have hfree:(∀x∈strL acc,x.free=true)=True:=eq_true fun x hx=>by obtain⟨b,rfl⟩:=qff _ x hx;rfl
    have htk:List.take acc.length (strL acc)=strL acc:=zqE (by simp);have htu:∀x∈tail,∃z,x= .str z:=fun x hx=>hJ (strL acc++tail) (by simp) x (List.mem_append_right _ hx);have hJ1:∀l∈J1,∀x∈l,∃z,x= .str z:=fun l hl=>hJ l (List.mem_append_left _ hl);have hdr:List.drop (acc.length+y.length) (strL acc++tail)=tail.drop y.length:=by rw[List.drop_append,List.drop_of_length_le (by simp)];simp
    by_cases hroom:y.length<=tail.length
    ·simp[hroom,hfree,hget,hset,htk,hdr,hw,qfP];refine Klz ⟨i+1,.bx (H.length+J1.length) 0 (acc.length+y.length) (acc.length+tail.length) 1,acc++y,by omega,⟨J1++[strL (acc++y)++tail.drop y.length],by simp[qmd],fun l hl z hz=>?_,.inr ⟨J1,tail.drop y.length,rfl,by simp;omega,by simp;omega⟩⟩,hst,friz⟩;rcases List.mem_append.1 hl with h|h
     ·exact hJ1 l h z hz
     ·simp only[List.mem_singleton]at h;subst h;rcases List.mem_append.1 hz with h|h
      ·exact qff _ z h
      ·exact htu z (List.mem_of_mem_drop h)
    ·have m1:acc.length+y.length<=maxLen:=by unfold maxLen;omega
     have m2:(acc.length+y.length)*16<=140737488355328:=by omega
     simp[hroom,hfree,hget,hset,htk,hdr,hw,qfP,m1,m2];refine qd4 fun c hc1 hc2=>?_;obtain⟨k,rfl⟩:∃k,c=acc.length+y.length+k:=⟨c-(acc.length+y.length),by omega⟩
     simp[hw];refine Klz ⟨i+1,.bx (H.length+(J1.length+1)) 0 (acc.length+y.length) (acc.length+y.length+k) 1,acc++y,by omega,⟨(J1++[strL acc++tail])++[strL (acc++y)++List.replicate k (.str [])],by simp[qmd],fun l hl z hz=>?_,.inr ⟨J1++[strL acc++tail],List.replicate k (.str []),rfl,by simp,by simpa using hc2⟩⟩,hst,friz⟩;rcases List.mem_append.1 hl with h|h
     ·exact hJ l h z hz
     ·simp only[List.mem_singleton]at h;subst h;rcases List.mem_append.1 hz with h|h
      ·exact qff _ z h
      ·exact⟨_,(List.mem_replicate.1 h).2⟩
 ·obtain rfl:i=vs.length:=by omega
  rw[zqE (Nat.le_refl _)]at hacc;simp[hvd];exact qsT (v:= .tup [v,.int .i64 0]) (by simp[hvd]) (by obtain⟨J,rfl,_⟩:=hS;simp) (qrC hS hB) (.tup _ (fun y hy=>by simp at hy;rcases hy with rfl|rfl;exact qt6 hS;exact .int _ _)) (hQ2 acc v H' hacc hS)
def mix(acc:List (List UInt8))(i:Nat):List (List UInt8):=(acc.take i).map low++acc.drop i
theorem qi7(acc:List (List UInt8))(i:Nat):(mix acc i).length=acc.length:=by
 unfold mix;simp;omega
theorem qrW(acc:List (List UInt8)):mix acc 0=acc:=by simp[mix]
theorem quq(acc:List (List UInt8)):mix acc acc.length=acc.map low:=by simp[mix]
theorem mix_at{acc:List (List UInt8)}{i:Nat}{u:List UInt8}(h:acc[i]? =some u)(tail:List AV):(strL (mix acc i)++tail)[i]? =some (.str u):=by
 have hi:=(zqC.1 h).1;rw[zqA (by rw[qdL,qi7];exact hi)];unfold strL mix;rw[List.getElem?_map,zqB (by simp;omega)];simp[h,Nat.min_eq_left (Nat.le_of_lt hi)]
theorem qrX{acc:List (List UInt8)}{i:Nat}{u:List UInt8}(h:acc[i]? =some u)(tail:List AV):(strL (mix acc i)++tail).set i (.str (low u))=strL (mix acc (i+1))++tail:=by
 have hi:=(zqC.1 h).1
 have e:mix acc (i+1)=(mix acc i).set i (low u):=by
  unfold mix;rw[List.set_append_right _ _ (by simp;omega),List.take_add_one,h];simp only[Option.toList,List.map_append,List.map_cons,List.map_nil,List.length_map,zqJ,Nat.min_eq_left (Nat.le_of_lt hi),Nat.sub_self];rw[List.drop_eq_getElem_cons hi,List.set_cons_zero,List.append_assoc];rfl
 rw[e,List.set_append_left _ _ (by rw[qdL,qi7];exact hi)];unfold strL;rw[List.map_set]
theorem qup{acc:List (List UInt8)}{i:Nat}{u:List UInt8}(h:acc[i]? =some u)(tail:List AV):(strL (mix acc i)++tail).take i++ .str (low u)::(strL (mix acc i)++tail).drop (i+1)=strL (mix acc (i+1))++tail:=by
 have hi:=(zqC.1 h).1;rw[<-qrX h tail,List.set_eq_take_append_cons_drop,if_pos (by rw[zqK,qdL,qi7];omega)]
def toInv(acc:List (List UInt8))(J1:Hp)(tail:List AV)(H:Hp)(fr:List AV)(H':Hp):Prop:=∃(i:Nat),i<=acc.length/\H'=H++(J1++[strL (mix acc i)++tail])/\(acc.take i).all tokB=true/\
 ∃x:Nat->AV,fr=[x 0,x 1,x 2,x 3,x 4,x 5,.bx (H.length+J1.length) 0 acc.length (acc.length+tail.length) 1,x 7,x 8,x 9,x 10,x 11,x 12,x 13,x 14,x 15,x 16,x 17,x 18,.bx (H.length+J1.length) 0 acc.length (acc.length+tail.length) 1,.int .i64 acc.length,.int .i64 i,x 22,x 23,x 24,x 25,x 26,x 27,x 28,x 29,x 30,x 31,x 32,x 33,x 34,x 35]
theorem qgQ(hE:SE E)(l:List Fld)(n:List UInt8)(hl:fsz l+l.length<=4194304)(hn:n.length<=cap)(hQ:Q (.tup [.sl false 1 (strs (qb6 l n).1),.int .i64 (qb6 l n).2]) H):PC Tryz.prog E 107 [.sl false 2 (flds l),.str n] H Q:=by
 have hvz:=qdJ l n;refine qg5 Tryz.func107 rfl [] [(11,[5,H.length])] (by kernel_rfl) (fun id m hm=>?_) (fun hB=>?_)
 ·unfold ndOf at hm;split at hm
  ·cases hm;exact Nat.le_refl _
  ·cases hm
 simp[Tryz.ntmps107,Tryz.results107,List.replicate_succ];refine qmN E _ _ l n hl hn (fun hno=>?_) (fun acc v H' hacc hS=>?_)
 ·have e:qb6 l n=([],14):=by unfold qb6;rw[hno]
  rw[e]at hQ;simp;exact qaw hB (v0:= .tup [.nil,.int .i64 14]) (by simp) (qcg 1 _ rfl) (by simp) hQ
 have hmem:=qdC _ _ hacc;have hlen:=qca _ _ hacc;have e:qb6 l n=if acc.all tokB=true then(acc.map low,0)else([],10):=by unfold qb6;rw[hacc]
 rw[e]at hQ;clear e hacc;obtain⟨J,rfl,hJ,⟨rfl,rfl⟩|⟨J1,tail,rfl,rfl,htl⟩⟩:=hS
 ·simp;refine qaB (fun fr H'=>∃J:Hp,H'=H++J/\∃x:Nat->AV,fr=[x 0,x 1,x 2,x 3,x 4,x 5,.nil,x 7,x 8,x 9,x 10,x 11,x 12,x 13,x 14,x 15,x 16,x 17,x 18,.nil,.int .i64 0,.int .i64 0,x 22,x 23,x 24,x 25,x 26,x 27,x 28,x 29,x 30,x 31,x 32,x 33,x 34,x 35]) (fun fr _=>0) ⟨J,rfl,friz⟩ ?_;rintro fr H' ⟨J,rfl,x,rfl⟩;simp;refine qnb ?_;simp;exact qab hB (v0:= .tup [.nil,.int .i64 0]) (by simp) (qcg 1 _ rfl) (by simp) hQ
 ·simp;refine qaB (toInv acc J1 tail H) (fun fr _=>acc.length-(ai (aget fr 21)).toNat) ⟨0,by omega,by rw[qrW],by simp,friz⟩ ?_;rintro fr H' ⟨i,hi,rfl,hall,x,rfl⟩;by_cases h:i<acc.length
  ·obtain⟨u,hu⟩:∃u,acc[i]? =some u:=⟨_,zqD h⟩
   have hw:IntKind.i64.wrap ((i:Int)+1)=i+1:=wiz;have hget:∀r:List AV,(H++(J1++[r]))[H.length+J1.length]? =some r:=fun r=>by rw[<-List.append_assoc,zqB (by simp)];simp
   have hset:∀r q:List AV,(H++(J1++[r])).set (H.length+J1.length) q=H++(J1++[q]):=fun r q=>by rw[<-List.append_assoc,List.set_append_right _ _ (by simp),List.append_assoc];simp
   have hat:=mix_at hu tail;have hst:=qup hu tail;have hul:=hmem u (zqH hu);simp[h,hget,hat];refine qcb E _ _ hE u (by simp only[cap];omega) ?_;cases ht:tokB u with
   |false=>
    have e:acc.all tokB=false:=qcO tokB acc i u hu ht;rw[if_neg (by rw[e];simp)]at hQ;simp;exact qab hB (v0:= .tup [.nil,.int .i64 10]) (by simp) (qcg 1 _ rfl) (by simp) hQ
   |true=>
    simp;refine qb3 E _ _ u (by simp only[cap];omega) ?_;have hle:i+1<=(mix acc i).length+tail.length:=by rw[qi7];omega
    simp[hget,hset,hst,hw,h,hle];exact Klz ⟨i+1,by omega,rfl,by rw[qbB tokB acc i u hu,hall,ht];rfl,friz⟩
  ·obtain rfl:i=acc.length:=by omega
   simp;rw[zqE (Nat.le_refl _)]at hall;rw[if_pos hall]at hQ;rw[quq];have hJ1:∀l∈J1,∀x∈l,∃z,x= .str z:=fun l hl=>hJ l (List.mem_append_left _ hl);have htu:∀x∈tail,∃z,x= .str z:=fun x hx=>hJ (strL acc++tail) (by simp) x (List.mem_append_right _ hx);have hch:=qqn (acc.map low) tail;rw[List.length_map]at hch;refine qkY [6] (H++J1) (strL (acc.map low)++tail) (by simp) (by simp) (fun l' hl' y hy=>?_) (fun t ht y hy=>?_) (fun y=>?_)
   ·rcases List.mem_append.1 hl' with h|h
    ·exact(hB l' h y hy).mono (by simp)
    ·obtain⟨z,rfl⟩:=hJ1 l' h y hy;exact .str _
   ·simp at ht;subst ht;simp at hy;subst hy;refine .inr ⟨by simp,by omega,by simp,fun y hy=>?_⟩;have hy2:=List.mem_of_mem_drop (List.mem_of_mem_take hy);rcases List.mem_append.1 hy2 with h|h
    ·obtain⟨z,rfl⟩:=qff _ y h;exact⟨rfl,.str _⟩
    ·obtain⟨z,rfl⟩:=htu y h;exact⟨rfl,.str _⟩
   ·simp[qhp,frz,hch];exact qab hB (v0:= .tup [.sl false 1 (strs (acc.map low)),.int .i64 0]) (by simp) (qaa _) (by simp[qcN]) hQ
theorem qoF(l:List Fld)(n:List UInt8):(qb6 l n).1.length<=fsz l+l.length:=by
 have hvz:=qdJ l n;unfold qb6;cases h:qaY (allB l n)with
 |none=>simp
 |some acc=>
  have:=qca _ _ h;simp only;split
  ·simp;omega
  ·simp
end
end Go.Proofs.YtnnhdehmlkkfjaaGreatDoor
