/- Part 7 of the texts below the law. -/
import Derived.Test.YtnnhdehmlkkfjaaGreatDoorPf6
import Derived.Lib.ItoaLen
import Derived.Stop.LaidErr
set_option maxRecDepth 100000
set_option maxHeartbeats 16000000
set_option linter.unusedVariables false
set_option linter.unnecessarySimpa false
set_option linter.unusedSimpArgs false
set_option linter.unusedSectionVars false
namespace Go.Proofs.YtnnhdehmlkkfjaaGreatDoor
open Go Go.RowKit Go.Proofs
section
variable (E:Env)(H:Hp)(Q:AV->Hp->Prop)
theorem qjc(s:ByteArray)(most:Int)(hs:s.size<=140737488351232)(hm1: -9223372036854775808<=most)(hm2:most<=9223372036854775807)(W:World):
  Calls Tryz.prog 138 #[.string s,.int .i64 most,.int .i64 10] W fun e w'=>e= .returned (.tuple #[.int .i64 (qag 10 most s.data.toList).1,.int .i64 (qag 10 most s.data.toList).2])/\Frm (fun _=>False) W w':=by
 obtain⟨q,hq⟩:=exz (most.tdiv 10)
 have hq1:0<=most->10*q<=most/\most<10*q+10:=fun h=>by
  rw[Int.tdiv_eq_ediv_of_nonneg h]at hq;omega
 have HQ1:=Lib.hid hq1;clear hq1
 go_enter Tryz.func138,Tryz.ntmps138
 by_cases he:s.data.toList=[]
 ·have hn:qag 10 most s.data.toList=(0,11):=by rw[qag,if_pos he]
  have he':s.toList.isEmpty=true:=by rw[qa7,he];rfl
  go_wp2
  go_ret2
  rw[hn];exact⟨rfl,Frm.refl _ _⟩
 ·have he':s.toList.isEmpty=false:=by rw[qa7];simpa using he
  have HE:=Lib.hid he;clear he
  go_wp2
  clear he'
  go_loopw [8,9,18] (fun n big i wr=>∃(k:Nat) (v:Int) (bg:Bool),k<=s.size/\i= .int .i64 k/\n= .int .i64 v/\big= .bool bg/\qbT 10 (s.data.toList.take k)=true/\bg=decide (most<0\/most<qcD 10 (s.data.toList.take k))/\(bg=false->v=qcD 10 (s.data.toList.take k))/\Frm (fun _=>False) W wr) (fun _ _ i _=>s.size-(intOf i).toNat)
  case atStart=>
   refine⟨0,0,decide (most<0),Nat.zero_le _,rfl,rfl,rfl,rfl,?_,fun _=>rfl,Frm.refl _ _⟩;have:qcD 10 (s.data.toList.take 0)=0:=rfl;rw[this];simp
  case round=>
   obtain⟨k,v,bg,hk,rfl,rfl,rfl,hok,hbg,hv,hf⟩:=hrel;have HF:=Lib.hid hf;have HOK:=Lib.hid hok;have hnn:=qbU 10 (by omega) _ hok;obtain⟨m,hm⟩:∃m,m=qcD 10 (s.data.toList.take k):=⟨_,rfl⟩
   rw[<-hm]at hbg hv hnn;have HM:=Lib.hid hm;clear hf hok hm;by_cases hlt:k<s.size
   ·obtain⟨x,hx⟩:∃x,s.data.toList[k]? =some x:=⟨_,zqD (by rw[qac];omega)⟩
    have HX:=Lib.hid hx;clear hx;have hstep:=qgr 10 _ _ _ HX.out;have hostep:=qfw 10 _ _ _ HX.out;rw[<-HM.out]at hstep;rw[HOK.out,Bool.true_and]at hostep;have HB:=Lib.hid hbg;have HV:=Lib.hid hv;have hx16:=qnB x;obtain⟨d,hd⟩:∃d,d=dig x:=⟨_,rfl⟩
    rw[<-hd]at hstep hostep hx16;have HS:=Lib.hid hstep;have HO:=Lib.hid hostep;clear hbg hv hstep hostep
    go_wp2_with fail
    refine(qg5 _ (Nat.le_trans (qde _ _ _) hs) wr).mono ?_;rintro e w2 ⟨rfl,hf2⟩;have h1:tx (low (s.extract k (k+1)).data.toList)=⟨#[lowB x]⟩:=by rw[qfM s k x HX.out];rfl
    rw[h1];clear h1;have HF2:=Lib.hid (HF.out.trans hf2);clear hf2
    go_wp2_with fail
    refine(qbM _ _ w2).mono ?_;rintro e w3 ⟨rfl,rfl⟩
    have h2:Lib.indexByte (⟨#[48,49,50,51,52,53,54,55,56,57,97,98,99,100,101,102]⟩:ByteArray).data.toList ((((⟨#[lowB x]⟩:ByteArray)[0]'(by show 0<1;decide)).toNat:Int).toNat.toUInt8)=d:=by
     rw[hd];show Lib.indexByte digs (((lowB x).toNat:Int).toNat.toUInt8)=Lib.indexByte digs (lowB x);simp
    rw[h2];clear h2;have HD:=Lib.hid hd;clear hd
    have hbad:(d<0\/10<=d)->qag 10 most s.data.toList=(0,11):=fun h=>by
     rw[qag,if_neg HE.out,if_pos (qgq 10 _ _ _ HX.out (by rw[<-HD.out];omega))]
    have HBad:=Lib.hid hbad;clear hbad;by_cases hd0:d<0
    ·go_wp2
     go_ret2
     rw[HBad.out (.inl hd0)];exact⟨rfl,HF2.out⟩
    ·by_cases hd1:10<=d
     ·go_wp2
      go_ret2
      rw[HBad.out (.inr hd1)];exact⟨rfl,HF2.out⟩
     ·have HOK':Hid (qbT 10 (s.data.toList.take (k+1))=true):=HO.out.trans (decide_eq_true ⟨by omega,by omega⟩);cases bg with
      |true=>
       go_wp2
       go_roundw
       case rel=>
        refine⟨k+1,v,true,by omega,by go_num,rfl,rfl,HOK'.out,?_,(fun h=>by cases h),HF2.out⟩;have h1:=of_decide_eq_true HB.out.symm;rw[HS.out];exact(decide_eq_true (by omega)).symm
       case measure=>simp[intOf];omega
      |false=>
       have hv:=HV.out rfl;subst hv;have h1:=of_decide_eq_false HB.out.symm;have h1a:0<=most:=by omega
       have h1b:v<=most:=by omega
       have h1c:=(HQ1.out h1a).1;have h1d:=(HQ1.out h1a).2;clear h1;by_cases hA:q<v
       ·go_wp2
        go_roundw
        case rel=>
         refine⟨k+1,v,true,by omega,by go_num,rfl,rfl,HOK'.out,?_,(fun h=>by cases h),HF2.out⟩;rw[HS.out];exact(decide_eq_true (by omega)).symm
        case measure=>simp[intOf];omega
       ·by_cases hB:most-d<v*10
        ·go_wp2
         go_roundw
         case rel=>
          refine⟨k+1,v,true,by omega,by go_num,rfl,rfl,HOK'.out,?_,(fun h=>by cases h),HF2.out⟩;rw[HS.out];exact(decide_eq_true (by omega)).symm
         case measure=>simp[intOf];omega
        ·go_wp2
         go_roundw
         case rel=>
          refine⟨k+1,v*10+d,false,by omega,by go_num,by go_num,rfl,HOK'.out,?_,(fun _=>HS.out.symm),HF2.out⟩;rw[HS.out];exact(decide_eq_false (by omega)).symm
         case measure=>simp[intOf];omega
   ·obtain rfl:k=s.size:=by omega
    have ht:s.data.toList.take s.size=s.data.toList:=zqE (by rw[qac];omega);have hok:=HOK.out;have hm:=HM.out;rw[ht]at hok hm
    have HN:Hid (qag 10 most s.data.toList=if most<0\/most<m then(0,12)else(m,0)):=by
     show qag 10 most s.data.toList=_;rw[qag,if_neg HE.out,if_neg (by rw[hok];decide),<-hm]
    clear hok hm ht;cases bg with
    |true=>
     have h1:=of_decide_eq_true hbg.symm;rw[if_pos h1]at HN;clear hbg hv h1
     go_wp2
     go_ret2
     rw[HN.out];exact⟨rfl,HF.out⟩
    |false=>
     have h1:=of_decide_eq_false hbg.symm;have hv':=hv rfl;subst hv';rw[if_neg h1]at HN;clear hbg hv h1
     go_wp2
     go_ret2
     rw[HN.out];exact⟨rfl,HF.out⟩
theorem qlt(s:ByteArray)(most:Int)(hs:s.size<=140737488351232)(hm1: -9223372036854775808<=most)(hm2:most<=9223372036854775807)(W:World):
  Calls Tryz.prog 109 #[.string s,.int .i64 most] W fun e w'=>e= .returned (.tuple #[.int .i64 (qag 10 most s.data.toList).1,.int .i64 (qag 10 most s.data.toList).2])/\Frm (fun _=>False) W w':=by
 go_enter Tryz.func109,Tryz.ntmps109
 go_wp2_with fail
 refine(qjc s most hs hm1 hm2 W).mono ?_;rintro e w1 ⟨rfl,hf⟩
 go_wp2
 go_ret2
 exact⟨rfl,hf⟩
theorem qb9(l:List UInt8)(most:Int)(hl:l.length<=cap)(hm1: -9223372036854775808<=most)(hm2:most<=9223372036854775807)(hQ:Q (.tup [.int .i64 (qag 10 most l).1,.int .i64 (qag 10 most l).2]) H):
  PC Tryz.prog E 109 [.str l,.int .i64 most] H Q:=by
 refine qav (v:= .tup [.int .i64 (qag 10 most l).1,.int .i64 (qag 10 most l).2]) (by kernel_rfl) (fun _=>True) (fun w hw=>trivial) (fun w β Rd cargs hS hsz hargs=>?_) (.tup _ (fun x hx=>by simp at hx;rcases hx with rfl|rfl<;>exact .int _ _)) rfl hQ;obtain⟨u,v,rfl,hu,hv⟩:=args2 hsz hargs;obtain⟨s,rfl,rfl,hs⟩:=qat hu;obtain rfl:=qaw hv;refine(qlt s most (by rw[<-qac];exact hl) hm1 hm2 w).mono ?_;rintro e w' ⟨rfl,hf⟩;exact⟨_,rfl,hf,qj6⟩
def qpj(l:List UInt8)(H:Hp)(fr:List AV)(H':Hp):Prop:=H'=H/\∃(f i:Nat) (out:List (List UInt8)),f<=i/\i<=l.length/\out.length<=i/\qeQ l out f i/\∃x:Nat->AV,fr=[.str l,x 1,x 2,x 3,.sl true 1 (strs out),.int .i64 f,.int .i64 i,x 7,x 8,x 9,x 10,x 11,x 12,x 13,x 14,x 15,x 16,x 17,x 18,x 19,x 20,x 21,x 22,x 23,x 24,x 25,x 26,x 27,x 28,x 29,x 30,x 31,x 32,x 33,x 34,x 35,x 36,x 37,x 38,x 39,x 40,x 41,x 42,x 43,x 44,x 45,x 46,x 47,x 48,x 49,x 50,x 51,x 52,x 53,x 54,x 55,x 56,x 57,x 58,x 59,x 60,x 61,x 62,x 63,x 64,x 65,x 66,x 67,x 68,x 69,x 70,x 71,x 72,x 73]
def qpi(ps:List (List UInt8))(H:Hp)(fr:List AV)(H':Hp):Prop:=H'=H/\∃(i:Nat) (own:Bool),i<=ps.length/\∃x:Nat->AV,fr=[x 0,x 1,x 2,x 3,x 4,x 5,x 6,x 7,x 8,x 9,.sl true 1 (strs (qdb (ps.take i))),x 11,x 12,x 13,x 14,x 15,x 16,x 17,x 18,x 19,x 20,x 21,x 22,x 23,x 24,x 25,x 26,x 27,x 28,x 29,x 30,x 31,x 32,x 33,x 34,x 35,x 36,x 37,x 38,x 39,x 40,x 41,x 42,x 43,x 44,x 45,x 46,x 47,x 48,x 49,x 50,x 51,x 52,x 53,x 54,x 55,x 56,x 57,.sl own 1 (strs ps),.int .i64 ps.length,.int .i64 i,x 61,x 62,x 63,x 64,x 65,x 66,x 67,x 68,x 69,x 70,x 71,x 72,x 73]
theorem qrp(l:List UInt8)(hl:l.length<=4194304)(hQ:Q (.tup [.sl false 1 (strs (qct l).1),.int .i64 (qct l).2]) H):PC Tryz.prog E 137 [.str l] H Q:=by
 refine qad Tryz.func137 rfl [43,53,68] [] (by kernel_rfl) (fun hB=>?_);simp[Tryz.ntmps137,Tryz.results137,List.replicate_succ];refine qkI 4 1 (by rfl) ?_;simp only[List.set_cons_succ,List.set_cons_zero];refine qbd (qpj l H) (fun fr _=>l.length-(ai (aget fr 6)).toNat) ⟨rfl,0,0,[],by omega,by omega,by simp,qjA l,qaD (by simp[strs])⟩ ?_;rintro fr H' ⟨rfl,f,i,out,hf,hi,hout,hc,x,rfl⟩;have hm:out.length+1<=maxLen/\(out.length+1)*16<=140737488355328:=by unfold maxLen;omega
 by_cases h:i<l.length
 ·have t1:((i:Int)==(l.length:Int))=false:=by simp;omega
  have hw:IntKind.i64.wrap ((i:Int)+1)=i+1:=wiz;obtain⟨b,hb⟩:∃b,l[i]? =some b:=⟨_,zqD h⟩
  have hat:=qbE hb;have hbn:=b.toNat_lt;by_cases b34:b.toNat=34
  ·have hx34:b=34:=UInt8.toNat_inj.1 b34;have hb':l[i]? =some 34:=by rw[hb,hx34]
   have t2:((b.toNat:Int)==34)=true:=by simp;omega
   have hd:(l.drop i).take (l.length-i)=l.drop i:=zqE (by rw[zqI];omega);simp[t1,hat,t2,hd,hi];refine qgf E _ _ (l.drop i) (by rw[zqI];omega) ?_;cases hu:unquote (l.drop i)with
   |none=>
    have ha:qa4 (l.drop i)=([],0,13):=by unfold qa4;rw[hu]
    have hbad:=qjk (qnJ hc hf hb' hu);rw[hbad]at hQ;simp[ha];exact qaV hB rfl (qc8 1 _ rfl) (by simp[strs]) hQ
   |some p=>
    obtain⟨y,k⟩:=p;have ha:qa4 (l.drop i)=(y,(k:Int),0):=by unfold qa4;rw[hu]
    have hk:=qb7 hu;rw[zqI]at hk;have hw2:IntKind.i64.wrap ((i:Int)+k)=i+k:=wiz;simp[ha,hw2];exact Klz ⟨rfl,f,i+k,out,by omega,by omega,by omega,qjB hc hf hb' hu,friz⟩
  ·have t2:((b.toNat:Int)==34)=false:=by simp;omega
   have ne34:b≠34:=by rintro rfl;exact b34 rfl
   by_cases b44:b.toNat=44
   ·have hx44:b=44:=UInt8.toNat_inj.1 b44;have hb':l[i]? =some 44:=by rw[hb,hx44]
    have t3:((b.toNat:Int)==44)=true:=by simp;omega
    simp[t1,hat,t2,t3,hf,hi,hm,hw];exact Klz ⟨rfl,i+1,i+1,out++[(l.drop f).take (i-f)],by omega,by omega,by simp;omega,qjD hc hf hb',qaD (by simp[strs])⟩
   ·have t3:((b.toNat:Int)==44)=false:=by simp;omega
    have ne44:b≠44:=by rintro rfl;exact b44 rfl
    simp[t1,hat,t2,t3,hw];exact Klz ⟨rfl,f,i+1,out,by omega,by omega,by omega,qjC hc hf hb ne44 ne34,friz⟩
 ·obtain rfl:i=l.length:=by omega
  have hcut:=qnI hc hf (Nat.le_refl _);have t1:((l.length:Int)==(l.length:Int))=true:=by simp
  obtain⟨ps,hps⟩:=exz (out++[(l.drop f).take (l.length-f)]);have hpl:ps.length=out.length+1:=by rw[<-hps];simp
  rw[hps]at hcut;have hans:=qk9 hcut;rw[hans]at hQ;simp[hf,hm];refine qkI 10 1 (by rfl) ?_;simp only[List.set_cons_succ,List.set_cons_zero];refine qbd (qpi ps H') (fun fr _=>ps.length-(ai (aget fr 60)).toNat) ⟨rfl,0,true,by omega,qaD (by rw[hpl,<-hps];simp[strs,qdb])⟩ ?_;rintro fr H'' ⟨rfl,i,own,hi2,y,rfl⟩
  have hkl:(qdb (ps.take i)).length<=ps.length:=by
   have:=qkm (ps.take i);rw[zqJ]at this;omega
  have hm2:(qdb (ps.take i)).length+1<=maxLen/\((qdb (ps.take i)).length+1)*16<=140737488355328:=by unfold maxLen;omega
  by_cases h2:i<ps.length
  ·obtain⟨p,hp⟩:∃b,ps[i]? =some b:=⟨_,zqD h2⟩
   have hat:=qff hp;have hw:IntKind.i64.wrap ((i:Int)+1)=i+1:=wiz;have hst:=qlf ps i p hp
   have hpl2:p.length<=cap:=by
    have:=qfR _ [] l ps (Nat.le_refl _) hcut p (zqH hp);simp only[cap];simp at this;omega
   simp[h2,hat];refine qfb E _ _ p hpl2 ?_;cases ht:(qa5 p).isEmpty
   ·have hne:(qa5 p !=[])=true:=by rw[qqo _ 0,ht];rfl
    rw[ht]at hst;simp[hne,hm2,hw];exact Klz ⟨rfl,i+1,own,by omega,qaD (by rw[hst];simp[strs])⟩
   ·have hne:(qa5 p !=[])=false:=by rw[qqo _ 0,ht];rfl
    rw[ht]at hst;simp[hne,hw];exact Klz ⟨rfl,i+1,own,by omega,qaD (by rw[hst];simp[strs])⟩
  ·have ha:ps.take i=ps:=zqE (by omega);simp[h2];rw[ha];exact aQz hB (h6:=hQ)
theorem qkb(a b:List UInt8)(ha:a.length<=cap)(hb:b.length<=cap)(hQ:Q (.bool (low a==low b)) H):PC Tryz.prog E 88 [.str a,.str b] H Q:=by
 refine qad Tryz.func88 rfl [] [] (by kernel_rfl) (fun hB=>?_);simp[Tryz.ntmps88,Tryz.results88,List.replicate_succ];refine qbB E _ _ a ha ?_;simp;refine qbB E _ _ b hb ?_;simp;exact aQz hB (h6:=hQ)
end
section
open Go.Lib
def SE2(E : Env) : Prop := SE E ∧ E.Fix 1 ∧ TabIs Tryz.prog E.w0 "internal/strconv.uint64pow10" .u64 pow10Tab
theorem qep : Tryz.prog.globalNamed "internal/strconv.uint64pow10" = some 1 := by kernel_rfl
theorem SE2.tab{E : Env}(h : SE2 E){w : World}(hw : ∀ b, E.Fix b → w.heap[b]? = E.w0.heap[b]?) : TabIs Tryz.prog w "internal/strconv.uint64pow10" .u64 pow10Tab := by
 have:=h.2.2;unfold TabIs World.var? at this⊢;rw[qep]at this⊢;simp only[Option.bind_some]at this⊢;rw[hw _ h.2.1];exact this
section
variable (E:Env)(H:Hp)(Q:AV->Hp->Prop)
theorem qfC(n:Int)(h0: -9223372036854775808<=n)(h1:n<=9223372036854775807):(itoa n).length<=21/\(decDigits n.natAbs).length<=21:=by
 have h:=itoa_length_le n h0 h1;refine⟨h,?_⟩;unfold itoa at h;split at h
 ·simp at h;omega
 ·have:n.toNat=n.natAbs:=by omega
  rw[this]at h;exact h
theorem qrt(hE:SE2 E)(n:Int)(h0: -9223372036854775808<=n)(h1:n<=9223372036854775807)(hQ:Q (.str (itoa n)) H):PC Tryz.prog E 80 [.int .i64 n] H Q:=by
 refine qav (v := .str (itoa n)) (by kernel_rfl) (fun w => TabIs Tryz.prog w "internal/strconv.uint64pow10" .u64 pow10Tab) (fun w hw => hE.tab hw) (fun w β Rd cargs hS hsz hargs => ?_) (.str _) rfl hQ
 obtain⟨u,rfl,hu⟩:=args1 hsz hargs;obtain rfl:=qaw hu;refine(Any.strconv_Itoa qpn n h0 h1 w hS).mono ?_;rintro e w' ⟨rfl,k,os,rfl⟩;refine⟨_,rfl,⟨rfl,rfl,rfl,by simp[Go.Sort.grow],fun b hb _=>?_⟩,qc6 _ (by have:=(qfC n h0 h1).1;unfold maxLen;omega)⟩;show(w.heap++os)[b]? =_;rw[Array.getElem?_append_left hb]
end
end
end Go.Proofs.YtnnhdehmlkkfjaaGreatDoor
namespace Go.Proofs.YtnnhdehmlkkfjaaGreatDoor
open Go Go.RowKit
section
variable (E:Env)(H:Hp)(Q:AV->Hp->Prop)
end
section
variable (E:Env){H:Hp}(Q:AV->Hp->Prop)
end
end Go.Proofs.YtnnhdehmlkkfjaaGreatDoor
namespace Go.Proofs.YtnnhdehmlkkfjaaGreatDoor
open Go Go.RowKit Go.Proofs
def lnb(l:List UInt8):Bool:=match l with
 |[]=>false
 |a::_=>qah a
def qaY(l:List UInt8):Fld×Int×Int:=
 if lnb l=true then((⟨[],[]⟩:Fld),0,63)else if l.length<=run ncol l then((⟨[],[]⟩:Fld),l.length,62)else if run ncol l=0 then((⟨[],[]⟩:Fld),0,60)
 else if min (run qak l) 128<run ncol l then((⟨[],[]⟩:Fld),(min (run qak l) 128:Nat),60)
 else if run fcB (l.drop (run ncol l+1))<(l.drop (run ncol l+1)).length then((⟨[],[]⟩:Fld),(run ncol l+1+run fcB (l.drop (run ncol l+1)):Nat),61)
 else if 8192<(qa5 (l.drop (run ncol l+1))).length then((⟨[],[]⟩:Fld),(run ncol l+1+run qah (l.drop (run ncol l+1))+8192:Nat),61)
 else(⟨l.take (run ncol l),qa5 (l.drop (run ncol l+1))⟩,0,0)
theorem rb_le(l:List UInt8):run qah l<=l.length:=qbY qah l
theorem qpm(l:List UInt8):((l.length:Int)-(Lib.trimLeftS l [32,9]).length)=run qah l:=by
 have e:Lib.trimLeftS l [32,9]=l.dropWhile qah:=by unfold Lib.trimLeftS;rw[qoQ]
 rw[e];have h:=congrArg List.length (List.takeWhile_append_dropWhile (p:=qah) (l:=l));rw[zqK]at h;unfold run;omega
theorem qj3(p:UInt8->Bool):∀(n:Nat) (l:List UInt8),(l.take n).all p=true->n<=l.length->n<=run p l
 |0,_,_,_=>Nat.zero_le _
 |n+1,[],_,h=>by simp at h
 |n+1,a::l,h,hn=>by
  simp only[List.take_succ_cons,List.all_cons,Bool.and_eq_true]at h;have:=qj3 p n l h.2 (by simpa using hn);unfold run at this⊢;rw[List.takeWhile_cons,if_pos h.1];simpa using this
theorem qhP{p:UInt8->Bool}{l:List UInt8}(h:l.all p=true):run p l=l.length:=by
 have:=qj3 p l.length l (by rw[List.take_length];exact h) (Nat.le_refl _);have:=qbY p l;omega
section
variable {l:List UInt8}(hf:lnb l=false)
theorem qmP:qaY []=((⟨[],[]⟩:Fld),0,62):=rfl
theorem qlc(a:UInt8)(r:List UInt8)(h:qah a=true):qaY (a::r)=((⟨[],[]⟩:Fld),0,63):=by unfold qaY;rw[if_pos (show lnb (a::r)=true from h)]
include hf
theorem qjm(h:l.length<=run ncol l):qaY l=((⟨[],[]⟩:Fld),(l.length:Int),62):=by unfold qaY;rw[if_neg (by rw[hf];simp),if_pos h]
theorem qla(h1:run ncol l<l.length)(h:run ncol l=0):qaY l=((⟨[],[]⟩:Fld),0,60):=by unfold qaY;rw[if_neg (by rw[hf];simp),if_neg (by omega),if_pos h]
theorem qgx(h1:run ncol l<l.length)(h2:run ncol l≠0)(h:min (run qak l) 128<run ncol l):qaY l=((⟨[],[]⟩:Fld),((min (run qak l) 128:Nat):Int),60):=by unfold qaY;rw[if_neg (by rw[hf];simp),if_neg (by omega),if_neg h2,if_pos h]
theorem qlb(h1:run ncol l<l.length)(h2:run ncol l≠0){i:Nat}(hall:(l.take i).all qak=true)(hi:128<=i)(hi2:i<=128)(h:i<run ncol l):qaY l=((⟨[],[]⟩:Fld),(i:Int),60):=by
 have:=qj3 qak i l hall (by omega);have e:min (run qak l) 128=i:=by omega
 rw[qgx hf h1 h2 (by omega),e]
theorem qmR(h1:run ncol l<l.length)(h2:run ncol l≠0){i:Nat}{b:UInt8}(hall:(l.take i).all qak=true)(hi:i<=128)(h:i<run ncol l)(hb:l[i]? =some b)(hs:qak b=false):qaY l=((⟨[],[]⟩:Fld),(i:Int),60):=by
 have:=qdk qak l i hall (by omega) (fun c hc=>by rw[hb]at hc;cases hc;exact hs);have e:min (run qak l) 128=i:=by omega
 rw[qgx hf h1 h2 (by omega),e]
omit hf in
theorem qg3(h1:run ncol l<l.length)(hn:qbu (l.take (run ncol l))=true):¬min (run qak l) 128<run ncol l:=by
 unfold qbu tokB at hn;simp only[Bool.and_eq_true,decide_eq_true_eq]at hn;rw[zqJ]at hn;have:=qj3 qak (run ncol l) l hn.2.1 (by omega);omega
omit hf in
theorem qjf(hn:qbu (l.take (run ncol l))=true):run ncol l≠0:=fun e=>by rw[e,List.take_zero]at hn;rw[qh7]at hn;cases hn
theorem qmO(h1:run ncol l<l.length)(hn:qbu (l.take (run ncol l))=true){i:Nat}{b:UInt8}(hi:run ncol l+1<=i)(hall:fldB ((l.drop (run ncol l+1)).take (i-(run ncol l+1)))=true)(hb:(l.drop (run ncol l+1))[i-(run ncol l+1)]? =some b)(hs:fcB b=false):
  qaY l=((⟨[],[]⟩:Fld),((run ncol l+1+(i-(run ncol l+1)):Nat):Int),61):=by
 have hlt:=(zqC.1 hb).1;have:=qdk fcB (l.drop (run ncol l+1)) _ hall (by omega) (fun c hc=>by rw[hb]at hc;cases hc;exact hs);unfold qaY;rw[if_neg (by rw[hf];simp),if_neg (by omega),if_neg (qjf hn),if_neg (qg3 h1 hn),this,if_pos hlt]
theorem qmQ(h1:run ncol l<l.length)(hn:qbu (l.take (run ncol l))=true)(hv:fldB (l.drop (run ncol l+1))=true)(h:8192<(qa5 (l.drop (run ncol l+1))).length):
  qaY l=((⟨[],[]⟩:Fld),((run ncol l+1+run qah (l.drop (run ncol l+1))+8192:Nat):Int),61):=by
 have:=qhP hv;unfold qaY;rw[if_neg (by rw[hf];simp),if_neg (by omega),if_neg (qjf hn),if_neg (qg3 h1 hn),if_neg (by omega),if_pos h]
theorem qic(h1:run ncol l<l.length)(hn:qbu (l.take (run ncol l))=true)(hv:fldB (l.drop (run ncol l+1))=true)(h:¬8192<(qa5 (l.drop (run ncol l+1))).length):
  qaY l=(⟨l.take (run ncol l),qa5 (l.drop (run ncol l+1))⟩,0,0):=by
 have:=qhP hv;unfold qaY;rw[if_neg (by rw[hf];simp),if_neg (by omega),if_neg (qjf hn),if_neg (qg3 h1 hn),if_neg (by omega),if_neg h]
end
section
variable (E:Env)(H:Hp)(Q:AV->Hp->Prop)
theorem qhE(l:List UInt8)(hl:l.length<=cap)(hQ:Q (.str (Lib.trimLeftS l [32,9])) H):PC Tryz.prog E 200 [.str l,.str [32,9]] H Q:=by
 have hle:(Lib.trimLeftS l [32,9]).length<=l.length:=by
  unfold Lib.trimLeftS;exact(List.dropWhile_sublist _).length_le
 refine qav (v:= .str (Lib.trimLeftS l [32,9])) (by kernel_rfl) (fun _=>True) (fun w hw=>trivial) (fun w β Rd cargs hS hsz hargs=>?_) (.str _) rfl hQ;obtain⟨u,v,rfl,hu,hv⟩:=args2 hsz hargs;obtain⟨s,rfl,rfl,hs⟩:=qat hu;obtain⟨t,rfl,ht,_⟩:=qat hv;have h116:(Tryz.prog.info? (lren.t 116)).map (fun i=>(i.zero,i.size))=some (some (.agg (Array.replicate 256 (.bool false))),256):=by kernel_rfl
 have htl:t.size=2:=by rw[<-qac,ht];rfl
 refine(Any.strings_TrimLeft_ascii lays161 (zero_of_info h116).1 (zero_of_info h116).2 s t w (by rw[htl];omega) (fun j b hb=>by
  rw[ht]at hb
  match j with
  |0=>simp at hb;subst hb;decide
  |1=>simp at hb;subst hb;decide
  |j+2=>simp at hb)).mono ?_
 rintro e w' ⟨rfl,hb⟩;rw[ht];exact⟨_,rfl,qbh hb,qc6 _ (qhr (Nat.le_trans hle hl))⟩
theorem qgZ(hE:SE E)(l:List UInt8)(hl:l.length<=cap)(hQ:Q (.tup [.agg [.str (qaY l).1.name,.str (qaY l).1.value],.int .i64 (qaY l).2.1,.int .i64 (qaY l).2.2]) H):
  PC Tryz.prog E 167 [.str l] H Q:=by
 refine qad Tryz.func167 rfl [] [] (by kernel_rfl) (fun hB=>?_);have hl':=hl;simp only[cap]at hl';obtain⟨c,hc⟩:=exz (run ncol l);have hcl:=qbY ncol l;rw[hc]at hcl;have hib:=qd4 l;rw[hc]at hib
 have bad:∀(fr:List AV) (pl e:Int),qaY l=((⟨[],[]⟩:Fld),pl,e)->aget fr 2= .ptr (some (H.length,0))->aget fr 3= .int .i64 pl->aget fr 4= .int .i64 e->qci Tryz.prog [ResultVar.cell 2 65,ResultVar.tmp 3,ResultVar.tmp 4] H.length Q .ret fr (H++[[.str [],.str []]]):=fun fr pl e h0 h2 h3 h4=>
  qab hB (v0:= .tup [.agg [.str [],.str []],.int .i64 pl,.int .i64 e]) (by simp[h2,h3,h4]) (qaa _) (by simp) (by rw[h0]at hQ;exact hQ)
 have hcase:l=[]\/(∃a r,l=a::r/\qah a=true)\/(∃a r,l=a::r/\qah a=false):=by
  cases l with
  |nil=>exact .inl rfl
  |cons a r=>
   cases hb:qah a
   ·exact .inr (.inr ⟨a,r,rfl,hb⟩)
   ·exact .inr (.inl ⟨a,r,rfl,hb⟩)
 rcases hcase with rfl|⟨a,r,rfl,hb⟩|⟨a,r,hl0,hb⟩
 ·simp[Tryz.ntmps167,Tryz.results167,List.replicate_succ];refine qau E _ _ [] 58 ?_;have e0:Lib.indexByte [] 58= -1:=rfl;rw[e0];simp;exact bad _ 0 62 qmP rfl rfl rfl
 ·have hc0:=qlc a r hb;have hib2:0<=Lib.indexByte [32,9] a:=by rw[qeZ];exact hb
  have hne:(a::r !=[])=true:=rfl;simp[Tryz.ntmps167,Tryz.results167,List.replicate_succ,hne];refine qau E _ _ [32,9] a ?_;simp[hib2];exact bad _ 0 63 hc0 rfl rfl rfl
 ·have hib2:¬0<=Lib.indexByte [32,9] a:=by rw[qeZ,hb];simp
  have hne:(l !=[])=true:=by rw[hl0];rfl
  have hl1:0<l.length:=by rw[hl0];simp
  have hla:lat l 0=some a:=by rw[hl0];rfl
  simp[Tryz.ntmps167,Tryz.results167,List.replicate_succ,hne,hl1,hla];refine qau E _ _ [32,9] a ?_;simp[hib2];refine qau E _ _ l 58 ?_;rw[hib];have hnf:lnb l=false:=by rw[hl0];exact hb
  clear hib2 hne hla hl0 hib;by_cases hcc:c<l.length;rotate_left
  ·have hno:=qjm hnf (by omega);simp[hcc];exact bad _ l.length 62 hno rfl rfl rfl
  ·by_cases hz:c=0
   ·have hno:=qla hnf (by omega) (by omega);subst hz;simp[hcc];exact bad _ 0 60 hno rfl rfl rfl
   ·have hz2:((c:Int)==0)=false:=by simp;omega
    simp[hcc,hz,hz2];subst hc;refine qbd (qql l H) (fun fr _=>run ncol l-(ai (aget fr 33)).toNat) ⟨rfl,0,by omega,by omega,by simp,friz⟩ ?_;rintro fr H' ⟨rfl,i,hi,hi2,hall,x,rfl⟩;by_cases h:i<run ncol l
    ·obtain⟨b,hbi⟩:∃b,l[i]? =some b:=⟨_,zqD (by omega)⟩
     by_cases h128:128<=i
     ·have hno:=qlb hnf (by omega) (by omega) hall (by omega) (by omega) h;have h128':(128:Int)<=i:=by omega
      simp[h,h128'];exact bad _ i 60 hno rfl rfl rfl
     ·have h128':¬(128:Int)<=i:=by omega
      have hw:IntKind.i64.wrap ((i:Int)+1)=i+1:=wiz;have t1:((i:Int)+1).toNat=i+1:=by omega
      have t2:(0:Int)<=i+1:=by omega
      have t3:(l.drop i).take 1=[b]:=by rw[qaA l i b hbi];rfl
      have t4:i+1<=l.length:=by omega
      have ht:tokB [b]=qak b:=by simp[tokB]
      simp[h,h128',hw,t1,t2,t3,t4];refine qbF E _ _ hE [b] (by simp[cap]) ?_;rw[ht];cases hs:qak b with
      |false=>
       have hno:=qmR hnf (by omega) (by omega) hall (by omega) h hbi hs;simp;exact bad _ i 60 hno rfl rfl rfl
      |true=>
       simp[hw];refine qaR ?_ ?_;rotate_left
       ·simp;omega
       refine⟨rfl,i+1,by omega,by omega,?_,friz⟩;rw[qcY qak l i b hbi,hall,hs];rfl
    ·obtain rfl:i=run ncol l:=by omega
     have hnm:qbu (l.take (run ncol l))=true:=by
      unfold qbu tokB;rw[hall,decide_eq_true (by rw[zqJ];omega)];have:l.take (run ncol l)≠[]:=by intro e;have h2:=congrArg List.length e;rw[zqJ]at h2;have h3:min (run ncol l) l.length=0:=h2;omega
      cases he:l.take (run ncol l)with
      |nil=>exact absurd he this
      |cons _ _=>rfl
     have hw1:IntKind.i64.wrap (((run ncol l:Nat):Int)+1)=((run ncol l+1:Nat):Int):=by rw[qaE (by omega) (by omega)];omega
     clear hall;simp[h,hw1,-Int.natCast_add];refine qbd (qqk l H) (fun fr _=>l.length-(ai (aget fr 7)).toNat) ⟨rfl,run ncol l+1,by omega,by omega,by rw[Nat.sub_self,List.take_zero];rfl,friz⟩ ?_;clear hw1;rintro fr H' ⟨rfl,i,hi1,hi2,hall,x,rfl⟩;by_cases h:i<l.length
     ·obtain⟨b,hbi⟩:∃b,l[i]? =some b:=⟨_,zqD h⟩
      have hbd:(l.drop (run ncol l+1))[i-(run ncol l+1)]? =some b:=by rw[zqN,show run ncol l+1+(i-(run ncol l+1))=i by omega];exact hbi
      have hw:IntKind.i64.wrap ((i:Int)+1)=i+1:=wiz;have t1:((i:Int)+1).toNat=i+1:=by omega
      have t2:(0:Int)<=i+1:=by omega
      have t3:(l.drop i).take 1=[b]:=by rw[qaA l i b hbi];rfl
      have t4:i+1<=l.length:=by omega
      have ht:fldB [b]=fcB b:=by simp[fldB]
      simp[h,hw,t1,t2,t3,t4];refine qdn E _ _ [b] (by simp[cap]) ?_;rw[ht];cases hs:fcB b with
      |false=>
       have hno:=qmO hnf (by omega) hnm (by omega) hall hbd hs;simp;exact bad _ i 61 (by rw[hno];congr 2;omega) rfl rfl rfl
      |true=>
       simp[hw];refine qaR ?_ ?_;rotate_left
       ·simp;omega
       refine⟨rfl,i+1,by omega,by omega,?_,friz⟩;rw[show i+1-(run ncol l+1)=(i-(run ncol l+1))+1 by omega];unfold fldB at hall⊢;rw[qcY fcB _ _ b hbd,hall,hs];rfl
     ·obtain rfl:i=l.length:=by omega
      have hfl:fldB (l.drop (run ncol l+1))=true:=by rw[zqE (by rw[zqI];omega)]at hall;exact hall
      clear hall h;obtain⟨c,hc⟩:=exz (run ncol l);rw[hc]at hcl hcc hz hz2 hnm hfl hi1;have hw1:IntKind.i64.wrap ((c:Int)+1)=((c+1:Nat):Int):=by rw[qaE (by omega) (by omega)];omega
      have t4:c+1<=l.length:=by omega
      simp[hc,hw1,t4,-Int.natCast_add];refine qfb E _ _ (l.drop (c+1)) (by rw[zqI];simp only[cap];omega) ?_;by_cases hbig:8192<(qa5 (l.drop (c+1))).length
      ·have hbig':(8192:Int)<(qa5 (l.drop (c+1))).length:=by omega
       have hno:=qmQ hnf (by omega) (by rw[hc];exact hnm) (by rw[hc];exact hfl) (by rw[hc];exact hbig);simp[hbig'];refine qhE E _ _ (l.drop (c+1)) (by rw[zqI];simp only[cap];omega) ?_;have hle:=rb_le (l.drop (c+1));rw[zqI]at hle;have hdl:(l.drop (c+1)).length=l.length-(c+1):=zqI;obtain⟨rb,hrb⟩:=exz (run qah (l.drop (c+1)));have hld:=qpm (l.drop (c+1));rw[hc,hrb]at hno;rw[hrb]at hle hld;rw[hdl]at hld;have hwA:IntKind.i64.wrap ((c:Int)+1)=c+1:=wiz;have hwB:IntKind.i64.wrap (((l.length-(c+1):Nat):Int)-(Lib.trimLeftS (l.drop (c+1)) [32,9]).length)=rb:=by rw[hld,qaE (by omega) (by omega)]
       have hwC:IntKind.i64.wrap ((c:Int)+1+rb)=c+1+rb:=wiz;have hwD:IntKind.i64.wrap ((c:Int)+1+rb+8192)=c+1+rb+8192:=wiz;simp[hwA,hwB,hwC,hwD];exact bad _ ((c:Int)+1+rb+8192) 61 (by rw[hno];simp) rfl rfl rfl
      ·have hbig':¬(8192:Int)<(qa5 (l.drop (c+1))).length:=by omega
       have hyes:=qic hnf (by omega) (by rw[hc];exact hnm) (by rw[hc];exact hfl) (by rw[hc];exact hbig);rw[hc]at hyes;rw[hyes]at hQ;simp[hbig',hcl];exact qab hB (v0:= .tup [.agg [.str (l.take c),.str (qa5 (l.drop (c+1)))],.int .i64 0,.int .i64 0]) (by simp) (qaa _) (by simp) hQ
end
theorem qkX{P:Program}(w:World)(t u ty e:TypeId)(i:TypeInfo)(ht:P.underlying t=some (.slice e))(hu:P.underlying u=some .string)(hi:P.info? e=some i)(hz:i.zero=some (.int .u8 0))
  (hsize:i.size=1) (hby:i.bytes=1) (v:Value) (n:Nat) (xs:List Value) (hown:w.ownsRowF 0 e 1 v n xs) (s:ByteArray) (h63:n+s.size<=maxLen) (hbytes:n+s.size<=140737488355328):
  ∃v' w',(Builtin.append_ #[t,u] ty #[v,.string s]).run P w= .ok v' w'/\w'.ownsRowF 0 e 1 v' (n+s.size) (xs++Lib.strCells s)/\w.grownBy w' v.ownBlock/\∀g,v'.ownBlock=some g->v.ownBlock=some g\/w.heap.size<=g:=by
 rcases hown.2 with⟨rfl,rfl⟩|⟨g,cap,cur,fz,rfl,hbg,hg,hfz,hnc,hcm,hcs,htake⟩
 ·obtain⟨v',w',h1,h2,h3,_⟩:=Lib.run_append_own_stringF (P:=P) w w.heap.size t u ty e i ht hu hi hz hsize hby (.slice none 0 0) 0 xs ⟨hown.1,.inl ⟨rfl,rfl⟩⟩ s h63 hbytes (Nat.le_refl _)
  have h2':w'.ownsRowF 0 e 1 v' (0+s.size) (xs++Lib.strCells s):=by
   obtain⟨a,b⟩:=h2;refine⟨a,b.imp id fun⟨g,cap,cur,fz,r1,r2,r3⟩=>⟨g,cap,cur,fz,r1,Nat.zero_le _,r3⟩⟩
  exact⟨v',w',h1,h2',h3,fun g hg=> .inr (h2.lt g hg).1⟩
 ·have hxl:xs.length=n:=by simpa using hown.1
  have hlen:(xs++Lib.strCells s).length=(n+s.size)*1:=by rw[zqK,hxl,Lib.strCells_length,Nat.mul_one]
  by_cases hroom:n+s.size<=cap
  ·have hcs':cur.size=cap:=by simpa using hcs
   have hr:=Lib.run_append_room_stringF (P:=P) w t u ty e i ht hu hi hsize g n cap cur fz hg (by simpa using hfz) s hroom (by omega);refine⟨_,_,hr,⟨hlen,.inr ⟨g,cap,_,fz,rfl,hbg,setRow_heap w g cur _ e _ hg,by omega,hroom,hcm,?_,?_⟩⟩,⟨rfl,rfl,rfl,by simp,fun k _ hk=>setRow_other w g k _ (fun e=>hk (by simp[Value.ownBlock,e]))⟩,fun g' hg'=> .inl hg'⟩
   ·simp only[List.size_toArray,zqK,zqJ,zqI,Array.length_toList,Lib.strCells_length];omega
   ·have ht':cur.toList.take n=xs:=by simpa using htake
    rw[ht',<-hlen];exact List.take_left
  ·have holds:∀j u,xs[j]? =some u->w.cell? ((⟨g,0,none⟩:Addr).add j)=some u:=hown.cells (g:=g) rfl;have hr:=Lib.run_append_grow_string (P:=P) w t u ty e i (.int .u8 0) ht hu hi hz ⟨g,0,none⟩ n cap xs (by rw[hsize];simpa using hxl) holds s (by omega) (by simp only[maxLen]at h63;omega) (by rw[hby];exact growslice_fits (by omega) (by omega));have hge:=grownCap_ge w (n+s.size) cap e;have hcm2:grownCap w (n+s.size) cap e<=maxLen:=grownCap_le_maxLen w (n+s.size) cap e h63;refine⟨_,_,hr,⟨hlen,.inr ⟨w.heap.size,_,_,(0,0),rfl,Nat.zero_le _,heap_alloc_new w.drew _,Nat.zero_le _,hge,hcm2,?_,?_⟩⟩,⟨rfl,rfl,rfl,by simp,fun k hk _=>heap_alloc_old w.drew _ hk⟩,fun g' hg'=> .inr (by simp[Value.ownBlock]at hg';omega)⟩
   ·have hz1:(Value.int IntKind.u8 0).cells.size=1:=rfl;simp only[Array.size_append,List.size_toArray,size_zeroCells,hz1,hxl,Lib.strCells_length];omega
   ·simp only[Array.toList_append,List.append_assoc];rw[<-List.append_assoc,<-hlen];exact List.take_left
theorem qgO{P:Program}{w:World}{ops:Array Oper}{rest:List Oper}{o:Oper}{a:Act}{Q:Exit->Act->World->Prop}(hgd:o.guard=none)(sl x:Operand)(t u:TypeId)
  (ho:o.op= .call {callee:= .builtin .append,args:= #[sl,x],argTypes:= #[t,u]}) (e:TypeId) (i:TypeInfo) (ht:P.underlying t=some (.slice e)) (hu:P.underlying u=some .string) (hi:P.info? e=some i) (hz:i.zero=some (.int .u8 0))
  (hsize:i.size=1) (hby:i.bytes=1) (v:Value) (n:Nat) (xs:List Value) (hs:a.eval sl=v) (hown:w.ownsRowF 0 e 1 v n xs) (s:ByteArray) (hx:a.eval x= .string s) (h63:n+s.size<=maxLen) (hbytes:n+s.size<=140737488355328)
  (h:∀v' w',w'.ownsRowF 0 e 1 v' (n+s.size) (xs++Lib.strCells s)->w.grownBy w' v.ownBlock->(∀g,v'.ownBlock=some g->v.ownBlock=some g\/w.heap.size<=g)->wpList P ops Q rest (a.put o.dst v') w'):wpList P ops Q (o::rest) a w:=by
 refine wpList_plain hgd fun K hK=>?_;obtain⟨v',w',hr,h2,h3,h4⟩:=qkX (P:=P) w t u o.type e i ht hu hi hz hsize hby v n xs hown s h63 hbytes;unfold Oper.wp execOp;simp only[ho,resolve,invoke,builtin,Sem.run_bind,Sem.run_pure,Result.andThen_ok,List.map_toArray,List.map_cons,List.map_nil,hs,hx,hr];exact hK _ _ (h v' w' h2 h3 h4)
abbrev TB:TypeId:=120
abbrev TU:TypeId:=5
def BB(b:Nat)(u v:Value)(l:List UInt8)(w:World):Prop:=w.heap[b]? =some (.cells #[u,v] TB (0,0))/\(u= .pointer none\/u= .pointer (some ⟨b,0,none⟩))/\w.ownsRowF 0 TU 1 v l.length (qcX l)/\v.ownBlock≠some b
structure BK (b:Nat) (v:Value) (w w':World):Prop where
 os:w'.os=w.os
 tape:w'.tape=w.tape
 output:w'.output=w.output
 size:w.heap.size<=w'.heap.size
 keep:∀k,k<w.heap.size->k≠b->v.ownBlock≠some k->w'.heap[k]? =w.heap[k]?
theorem bkRefl(b:Nat)(v:Value)(w:World):BK b v w w:=⟨rfl,rfl,rfl,Nat.le_refl _,fun _ _ _ _=>rfl⟩
theorem bb_lt{b:Nat}{u v:Value}{l:List UInt8}{w:World}(h:BB b u v l w):b<w.heap.size:=qcv h.1
theorem qnO(b:Nat)(u v:Value)(l:List UInt8)(w:World)(h:BB b u v l w):Calls Tryz.prog 106 #[.pointer (some ⟨b,0,none⟩)] w fun e w'=>e= .returned (.tuple #[])/\BB b (.pointer (some ⟨b,0,none⟩)) v l w'/\BK b v w w':=by
 obtain⟨h1,h2,h3,h4⟩:=h;have hlt:b<w.heap.size:=qcv h1;have c0:w.cell? ⟨b,0,none⟩=some u:=by rw[Lib.cell_of_heap h1];rfl
 rcases h2 with rfl|rfl
 ·refine(Any.Builder_copyCheck_fresh {lays166 with} lextra.toX72 b w c0 (by simp[World.shape?,h1];rfl) (Lib.frozen_of_heap h1 0)).mono ?_;rintro e w' ⟨rfl,rfl⟩;have hk:∀k,k≠b->(w.setCell ⟨b,0,none⟩ (.pointer (some ⟨b,0,none⟩))).heap[k]? =w.heap[k]? :=fun k hk=>Below.heap_setCell _ _ _ _ hk;refine⟨rfl,⟨by simp[World.setCell,Array.getElem?_modify,h1],.inr rfl,qdW h3 fun g hg=>hk g (fun e=>h4 (e▸hg)),h4⟩,rfl,rfl,rfl,by simp[World.setCell],fun k _ hkb _=>hk k hkb⟩
 ·refine(Any.Builder_copyCheck_used {lays166 with} lextra.toX72 b w c0).mono ?_;rintro e w' ⟨rfl,rfl⟩;exact⟨rfl,⟨h1,.inr rfl,h3,h4⟩,bkRefl _ _ _⟩
theorem bf_str(l:List UInt8)(s:ByteArray):qcX l++Lib.strCells s=qcX (l++s.data.toList):=by
 unfold qcX;rw[List.map_append];rfl
theorem qqF(b:Nat)(u v:Value)(l:List UInt8)(s:ByteArray)(w:World)(h:BB b u v l w)(hlen:l.length+s.size<=140737488355328):Calls Tryz.prog 74 #[.pointer (some ⟨b,0,none⟩),.string s] w fun e w'=>
  e= .returned (.tuple #[.int .i64 s.size,.nilIface])/\∃u' v',BB b u' v' (l++s.data.toList) w'/\BK b v w w'/\∀g,v'.ownBlock=some g->v.ownBlock=some g\/w.heap.size<=g:=by
 obtain⟨i0,hi,hz0,hz1,hz2⟩:=info_parts lextra.infoByte
 go_enter Tryz.func74,Tryz.ntmps74
 go_wp2_with (go_at_call 106;refine(qnO b u v l _ h).mono ?_)
 rintro e w1 ⟨rfl,h1,hk1⟩;obtain⟨hbk,_,hown,hne⟩:=h1;have c0:w1.cell? ⟨b,0,none⟩=some (.pointer (some ⟨b,0,none⟩)):=by rw[Lib.cell_of_heap hbk];rfl
 have c1:w1.cell? ⟨b,1,none⟩=some v:=by rw[Lib.cell_of_heap hbk];rfl
 have hlt:b<w1.heap.size:=qcv hbk
 go_wp2_with (at_builtin;refine qgO rfl _ _ 82 9 rfl TU i0 Tryz.underlying82 Tryz.underlying9 hi hz0 hz1 hz2 _ _ _ rfl hown s rfl ?c3 ?c4 ?_)
 case c3=>unfold maxLen;omega
 case c4=>omega
 intro v' w2 hown' hgrow hnew
 have hb2:w2.heap[b]? =some (.cells #[.pointer (some ⟨b,0,none⟩),v] TB (0,0)):=by
  rw[hgrow.block b hlt (fun e=>hne e.symm)];exact hbk
 have d0:w2.cell? ⟨b,0,none⟩=some (.pointer (some ⟨b,0,none⟩)):=by rw[Lib.cell_of_heap hb2];rfl
 have d1:w2.cell? ⟨b,1,none⟩=some v:=by rw[Lib.cell_of_heap hb2];rfl
 have f1:w2.frozen? ⟨b,1,none⟩=false:=Lib.frozen_of_heap hb2 1
 have hne':v'.ownBlock≠some b:=fun e=>by
  rcases hnew b e with h|h
  ·exact hne h
  ·omega
 obtain⟨ao,n',cap,hv'⟩:∃ao n' cap,v'= .slice ao n' cap:=by
  rcases hown'.2 with⟨hv,_⟩|⟨g,cap,cur,fz,hv,_⟩
  ·exact⟨_,_,_,hv⟩
  ·exact⟨_,_,_,hv⟩
 have HH:=Lib.hid (And.intro hown' (And.intro hgrow (And.intro hnew (And.intro hne' hk1))));clear hown' hgrow hnew hne' hk1;subst hv'
 go_wp2
 go_ret2
 obtain⟨hown',hgrow,hnew,hne',hk1⟩:=HH.out;have hk:∀k,k≠b->(w2.setCell ⟨b,1,none⟩ (.slice ao n' cap)).heap[k]? =w2.heap[k]? :=fun k hk=>Below.heap_setCell _ _ _ _ hk;refine⟨rfl,_,_,⟨by simp[World.setCell,Array.getElem?_modify,hb2],.inr rfl,?_,hne'⟩,⟨hgrow.os.trans hk1.os,hgrow.tape.trans hk1.tape,hgrow.output.trans hk1.output,by simp only[World.setCell];simpa using Nat.le_trans hk1.size hgrow.size,fun k h1 h2 h3=>?_⟩,fun g hg=>?_⟩
 ·have e1:(l++s.data.toList).length=l.length+s.size:=by rw[zqK,qac]
  rw[e1,<-bf_str];exact qdW hown' fun g hg=>hk g (fun e=>hne' (e▸hg))
 ·rw[hk k h2,hgrow.block k (Nat.lt_of_lt_of_le h1 hk1.size) (fun e=>h3 e.symm)];exact hk1.keep k h1 h2 h3
 ·exact(hnew g hg).imp id fun h=>Nat.le_trans hk1.size h
theorem qrM(b:Nat)(u v:Value)(l:List UInt8)(w:World)(h:BB b u v l w):Calls Tryz.prog 75 #[.pointer (some ⟨b,0,none⟩)] w fun e w'=>
  e= .returned (.string (tx l))/\BB b u v l w'/\BK b v w w':=by
 have hUN:∀(W:World) (q:Option Addr),(Builtin.unsafeString_ #[157,3] 9 #[.pointer q,.int .i64 0]).run Tryz.prog W= .ok (.string .empty) W:=fun W q=>Lib.run_unsafeString_none W _ _ _ q;have hlt:=bb_lt h;have h':=h;obtain⟨hbk,hu,hown,hne⟩:=h;have H0:=Lib.hid h';have HU:=Lib.hid hu;clear h' hu;rcases hown.2 with⟨rfl,hz⟩|⟨g,cap,cur,fz,rfl,hbg,hg,hfz,hnc,hcm,hcs,htake⟩
 ·obtain rfl:l=[]:=List.eq_nil_of_length_eq_zero hz
  have c1:w.drew.cell? ⟨b,1,none⟩=some (.slice none 0 0):=by
   have:w.drew.heap[b]? =some (.cells #[u,.slice none 0 0] TB (0,0)):=hbk;rw[Lib.cell_of_heap this];rfl
  have hSD:(Builtin.unsafeSliceData_ #[82] 157 #[.slice none 0 0]).run Tryz.prog w.drew= .ok (.pointer none) w.drew:=rfl
  go_enter Tryz.func75,Tryz.ntmps75
  go_wp2
  go_region
  all_goals (go_wp2;go_ret;exact⟨rfl,H0.out,⟨rfl,rfl,rfl,Nat.le_refl _,fun _ _ _ _=>rfl⟩⟩)
 ·by_cases hl0:l=[]
  ·subst hl0;by_cases hc0:cap=0
   ·subst hc0
    have hSD:(Builtin.unsafeSliceData_ #[82] 157 #[.slice (some ⟨g,0,none⟩) 0 0]).run Tryz.prog w.drew= .ok (.pointer (some ⟨w.drew.heap.size,0,none⟩)) (w.drew.alloc (.view ⟨g,0,none⟩ TU)):=
     Lib.run_unsafeSliceData_zero w.drew _ _ TU Tryz.underlying157 ⟨g,0,none⟩ 0 (TU,cur.size) (by have hg':w.drew.heap[g]? =some (.cells cur TU fz):=hg;simp[World.shape?,hg'])
    have c1:w.drew.cell? ⟨b,1,none⟩=some (.slice (some ⟨g,0,none⟩) 0 0):=by
     have:w.drew.heap[b]? =some (.cells #[u,.slice (some ⟨g,0,none⟩) 0 0] TB (0,0)):=hbk;rw[Lib.cell_of_heap this];rfl
    have c2:(w.drew.alloc (.view ⟨g,0,none⟩ TU)).cell? ⟨b,1,none⟩=some (.slice (some ⟨g,0,none⟩) 0 0):=by
     have:(w.drew.alloc (.view ⟨g,0,none⟩ TU)).heap[b]? =_:=(Lib.alloc_old w.drew _ b hlt).trans hbk;rw[Lib.cell_of_heap this];rfl
    have c3:(w.alloc (.view ⟨g,0,none⟩ TU)).drew.cell? ⟨b,1,none⟩=some (.slice (some ⟨g,0,none⟩) 0 0):=c2;have c0:w.cell? ⟨b,1,none⟩=some (.slice (some ⟨g,0,none⟩) 0 0):=c1;have hal:∀k,k<w.heap.size->(w.drew.alloc (.view ⟨g,0,none⟩ TU)).heap[k]? =w.heap[k]? :=fun k hk=>Lib.alloc_old w.drew _ k hk
    have fin:BB b u (.slice (some ⟨g,0,none⟩) 0 0) [] (w.drew.alloc (.view ⟨g,0,none⟩ TU))/\BK b (.slice (some ⟨g,0,none⟩) 0 0) w (w.drew.alloc (.view ⟨g,0,none⟩ TU)):=by
     obtain⟨h1,h2,h3,h4⟩:=H0.out;exact⟨⟨(hal b hlt).trans h1,h2,qdW h3 fun g' hg'=>hal g' (h3.lt g' hg').2,h4⟩,⟨rfl,rfl,rfl,by simp,fun k hk _ _=>hal k hk⟩⟩
    have HF:=Lib.hid fin;clear fin hal
    go_enter Tryz.func75,Tryz.ntmps75
    go_wp2
    go_region
    all_goals (go_wp2;go_ret;exact⟨rfl,HF.out⟩)
   ·have hSD:(Builtin.unsafeSliceData_ #[82] 157 #[.slice (some ⟨g,0,none⟩) 0 cap]).run Tryz.prog w.drew= .ok (.pointer (some ⟨g,0,none⟩)) w.drew:=
     Lib.run_unsafeSliceData_row _ _ _ _ _ _ hc0
    have c1:w.drew.cell? ⟨b,1,none⟩=some (.slice (some ⟨g,0,none⟩) 0 cap):=by
     have:w.drew.heap[b]? =some (.cells #[u,.slice (some ⟨g,0,none⟩) 0 cap] TB (0,0)):=hbk;rw[Lib.cell_of_heap this];rfl
    clear hc0
    go_enter Tryz.func75,Tryz.ntmps75
    go_wp2
    go_region
    all_goals (go_wp2;go_ret;exact⟨rfl,H0.out,⟨rfl,rfl,rfl,Nat.le_refl _,fun _ _ _ _=>rfl⟩⟩)
  ·have hlp:l.length≠0:=fun e=>hl0 (List.length_eq_zero_iff.1 e)
   have c1:w.drew.cell? ⟨b,1,none⟩=some (.slice (some ⟨g,0,none⟩) l.length cap):=by
    have:w.drew.heap[b]? =some (.cells #[u,.slice (some ⟨g,0,none⟩) l.length cap] TB (0,0)):=hbk;rw[Lib.cell_of_heap this];rfl
   have hSD:(Builtin.unsafeSliceData_ #[82] 157 #[.slice (some ⟨g,0,none⟩) l.length cap]).run Tryz.prog w.drew= .ok (.pointer (some ⟨g,0,none⟩)) w.drew:=
    Lib.run_unsafeSliceData_row _ _ _ _ _ _ (by omega)
   have hUS:(Builtin.unsafeString_ #[157,3] 9 #[.pointer (some ⟨g,0,none⟩),.int .i64 l.length]).run Tryz.prog w.drew= .ok (.string ⟨l.toArray⟩) (w.drew.freeze ⟨g,0,none⟩ l.length):=by
    refine Lib.run_unsafeString_row w.drew 157 3 9 TU Tryz.underlying157 lextra.cellsByte g cur.size (by have hg':w.drew.heap[g]? =some (.cells cur TU fz):=hg;simp[World.shape?,hg']) l hl0 (by omega) (by unfold maxLen at hcm;omega) ?_;intro j x hx;exact hown.cells (g:=g) rfl j (.int .u8 x.toNat) (by simp[qcX,hx])
   have hfr:∀k,k≠g->(w.drew.freeze ⟨g,0,none⟩ l.length).heap[k]? =w.heap[k]? :=fun k hk=>by
    unfold World.freeze;split
    ·rfl
    ·simp only[Array.getElem?_modify];rw[if_neg (fun e=>hk e.symm)];rfl
   have fin:BB b u (.slice (some ⟨g,0,none⟩) l.length cap) l (w.drew.freeze ⟨g,0,none⟩ l.length)/\BK b (.slice (some ⟨g,0,none⟩) l.length cap) w (w.drew.freeze ⟨g,0,none⟩ l.length):=by
    have hbl:(qcX l).length=l.length:=by simp[qcX]
    have hA:Lib.BuilderAtF TB TU 0 b u (qcX l) w.drew:=⟨Nat.zero_le _,_,hbk,by rw[hbl];exact hown,hne⟩
    have hF:=hA.froze (g:=g) (cap:=cap) (by rw[hbl];exact c1);rw[hbl]at hF;obtain⟨_,v',k1,k2,k3⟩:=hF;have hgb:b≠g:=fun e=>hne (by simp[Value.ownBlock,e]);have k1':=k1;rw[hfr b hgb,hbk]at k1';simp at k1';subst k1';rw[hbl]at k2;refine⟨⟨k1,HU.out,k2,hne⟩,⟨?_,?_,?_,?_,fun k hk h2 h3=>hfr k (fun e=>h3 (by simp[Value.ownBlock,e]))⟩⟩<;>(unfold World.freeze;split<;>first|rfl|exact Nat.le_refl _|(simp only[Array.size_modify];exact Nat.le_refl _))
   have HF:=Lib.hid fin;clear fin hfr
   go_enter Tryz.func75,Tryz.ntmps75
   go_wp2
   go_region
   all_goals (go_wp2;go_ret;exact⟨rfl,HF.out⟩)
theorem qj8{E:Env}{w w':World}{β:Nat->Nat}{Rd:Nat->Nat->Prop}{Ow:Nat->Option Hold}{H:Hp}(hr:HR E w β Rd Ow H){i:Nat}{l l':List UInt8}(hi:H[i]? =some [.bl TB,.bf TU l]){u v u' v':Value}(hb:BB (β i) u v l w)(hb':BB (β i) u' v' l' w')(hk:BK (β i) v w w')
  (hnew:∀g,v'.ownBlock=some g->v.ownBlock=some g\/w.heap.size<=g) {x:AV} {c:Value} (hx:Rel w' β Rd x c) (hxf:x.free=true) (hxb:Bnd H.length x):
  ∃Ow',Post E w β Rd Ow H w' β Rd Ow' (H.set i [.bl TB,.bf TU l']) x c:=by
 have hil:i<H.length:=(zqC.1 hi).1;obtain⟨T,cs,b1,b2,b3⟩:=hr.box i _ hi;have e0:=hb.1;rw[e0]at b1;cases b1;obtain⟨r1,r2,r3⟩:=b3 1 (.bf TU l) v rfl rfl;have hd:∀g,v.ownBlock=some g->∀o,¬Rd g o:=by cases r1;assumption
 have hOv:∀g,v.ownBlock=some g->Ow g=some (.cell i 1):=fun g hg=>r3 g hg
 have hlt:∀j,j<H.length->β j<w.heap.size:=fun j hj=>by
  obtain⟨T,cs,h1,_⟩:=hr.box j _ (zqD hj);exact qcv h1
 have hvb:∀j,j<H.length->v.ownBlock≠some (β j):=fun j hj e=>by have:=hOv _ e;rw[(hr.sep j hj).1]at this;cases this
 have hv'b:∀j,j<H.length->v'.ownBlock≠some (β j):=fun j hj e=>by
  rcases hnew _ e with h|h
  ·exact hvb j hj h
  ·have:=hlt j hj;omega
 have hR:∀g o,Rd g o->Rd g o/\w'.cell? ⟨g,o,none⟩=w.cell? ⟨g,o,none⟩:=fun g o h=>⟨h,World.cell?_of_block (a:=⟨g,o,none⟩) (hk.keep g (hr.rds g o h) (fun e=>(hr.sep i hil).2 o (e▸h)) (fun e=>hd g e o h))⟩
 have hO:∀(j p:Nat) g,(j≠i\/p≠1)->Ow g=some (.cell j p)->w'.heap[g]? =w.heap[g]? /\∀o,Rd g o->Rd g o:=fun j p g hj hg=>⟨hk.keep g (hr.ows g _ hg) (fun e=>by rw[e,(hr.sep i hil).1]at hg;cases hg) (fun e=>by rw[hOv g e]at hg;cases hg;simp at hj),fun _ h=>h⟩
 have hlen:(H.set i [AV.bl TB,.bf TU l']).length=H.length:=by simp
 have hother:∀j,j<H.length->j≠i->w'.heap[β j]? =w.heap[β j]? :=fun j hj hji=>hk.keep _ (hlt j hj) (fun e=>hji (hr.inj j i hj hil e)) (hvb j hj);refine⟨fun g=>if v'.ownBlock=some g then some (.cell i 1)else Ow g,hx,by rw[hlen];exact hxb,fun g hg=>(by rw[qaz hxf]at hg;cases hg),qaM hxf,?_,fun _ _=>rfl,by rw[hlen];exact Nat.le_refl _,hR,fun b h1 h2 h3=>⟨hk.keep b h1 (fun e=>h2 i hil e.symm) (fun e=>(by rw[hOv b e]at h3;cases h3)),?_,fun j hj=>h2 j (by rwa[hlen]at hj),fun _ h=>h⟩,hk.os,hk.tape,hk.output,hk.size⟩
 ·refine⟨fun j m hm=>?_,fun a b ha hbb=>hr.inj a b (by rwa[hlen]at ha) (by rwa[hlen]at hbb),fun j hj=>⟨?_,(hr.sep j (by rwa[hlen]at hj)).2⟩,fun g k hg=>?_,fun g o h=>Nat.lt_of_lt_of_le (hr.rds g o h) hk.size,fun m hm y hy=>?_,fun b hbf=>?_,fun j m t hm h0=>?_⟩
  ·by_cases hji:i=j
   ·subst hji;rw[zqO hil]at hm;cases hm;refine⟨TB,_,hb'.1,rfl,fun p y z hy hz=>?_⟩
    match p with
    |0=>
     simp at hy hz;subst hy;subst hz;exact⟨.bl _ _ (by rcases hb'.2.1 with rfl|rfl<;>rfl),rfl,fun g hg=>by cases hg⟩
    |1=>
     simp at hy hz;subst hy;subst hz;refine⟨.bf _ _ _ hb'.2.2.1 (fun g hg o ho=>?_),rfl,fun g hg=>?_⟩
     ·rcases hnew g hg with h|h
      ·exact hd g h o ho
      ·have:=hr.rds g o ho;omega
     ·have hg:v'.ownBlock=some g:=hg;simp[hg]
    |p+2=>simp at hy
   ·rw[zqF hji]at hm;have hj:j<H.length:=(zqC.1 hm).1;obtain⟨T2,cs2,c1,c2,c3⟩:=hr.box j m hm;refine⟨T2,cs2,(hother j hj (fun e=>hji e.symm)).trans c1,c2,fun p y z hy hz=>?_⟩;obtain⟨q1,q2,q3⟩:=c3 p y z hy hz;refine⟨q1.move (hr.bnd m (qaj hm) y (qaj hy)) hR (fun g hg=>hO j p g (.inl fun e=>hji e.symm) (q3 g hg)) hk.size (fun _ _=>rfl),q2,fun g hg=>?_⟩;have hq:=q3 g hg;show(if v'.ownBlock=some g then _ else _)=_;rw[if_neg]
    ·exact hq
    ·intro e;rcases hnew g e with h|h
     ·rw[hOv g h]at hq;cases hq;exact hji rfl
     ·have:=hr.ows g _ hq;omega
  ·rw[hlen]at hj;show(if v'.ownBlock=some (β j)then _ else _)=_;rw[if_neg (hv'b j hj)];exact(hr.sep j hj).1
  ·have hg:(if v'.ownBlock=some g then some (Hold.cell i 1)else Ow g)=some k:=hg;split at hg
   ·rename_i e;exact(hb'.2.2.1.lt g e).2
   ·exact Nat.lt_of_lt_of_le (hr.ows g k hg) hk.size
  ·rw[hlen];rcases List.mem_or_eq_of_mem_set hm with h|h
   ·exact hr.bnd m h y hy
   ·subst h;simp at hy;rcases hy with rfl|rfl
    ·exact .bl _
    ·exact .bf _ _
  ·obtain⟨f1,f2,f3,f4⟩:=hr.fix b hbf;have hvn:v.ownBlock≠some b:=fun e=>by rw[hOv b e]at f2;cases f2
   refine⟨(hk.keep b f4 (fun e=>f3 i hil e.symm) hvn).trans f1,?_,fun j hj=>f3 j (by rwa[hlen]at hj),Nat.lt_of_lt_of_le f4 hk.size⟩;show(if v'.ownBlock=some b then _ else _)=_;rw[if_neg]
   ·exact f2
   ·intro e;rcases hnew b e with h|h
    ·exact hvn h
    ·omega
  ·by_cases hji:i=j
   ·subst hji;rw[zqO hil]at hm;cases hm;simp at h0;subst h0;exact⟨u',v',hb'.1,hb'.2.1⟩
   ·rw[zqF hji]at hm;have hj:j<H.length:=(zqC.1 hm).1;obtain⟨u2,v2,g1,g2⟩:=hr.bld j m t hm h0;exact⟨u2,v2,(hother j hj (fun e=>hji e.symm)).trans g1,g2⟩
 ·show(if v'.ownBlock=some b then _ else _)=_;rw[if_neg]
  ·exact h3
  ·intro e;rcases hnew b e with h|h
   ·rw[hOv b h]at h3;cases h3
   ·omega
theorem bb_of{E:Env}{w:World}{β:Nat->Nat}{Rd:Nat->Nat->Prop}{Ow:Nat->Option Hold}{H:Hp}(hr:HR E w β Rd Ow H){i:Nat}{l:List UInt8}(hi:H[i]? =some [.bl TB,.bf TU l]):∃u v,BB (β i) u v l w:=by
 obtain⟨u,v,h1,h2⟩:=hr.bld i _ TB hi rfl;obtain⟨T,cs,b1,b2,b3⟩:=hr.box i _ hi;rw[h1]at b1;cases b1;obtain⟨r1,r2,r3⟩:=b3 1 (.bf TU l) v rfl rfl;refine⟨u,v,h1,h2,by cases r1;assumption,fun e=>?_⟩;have:=r3 _ e;rw[(hr.sep i (zqC.1 hi).1).1]at this;cases this
section
variable (E:Env)(H:Hp)(Q:AV->Hp->Prop)
theorem qlS(i:Nat)(l s:List UInt8)(hi:H[i]? =some [.bl TB,.bf TU l])(hl:l.length+s.length<=140737488355328)(hQ:Q (.tup [.int .i64 s.length,.raw .nilIface]) (H.set i [.bl TB,.bf TU (l++s)])):PC Tryz.prog E 74 [.ptr (some (i,0)),.str s] H Q:=by
 refine⟨by kernel_rfl,fun w β Rd Ow cargs hr hcell hsz hargs=>?_⟩;obtain⟨u,v,hb⟩:=bb_of hr hi;have g0:=hargs 0 _ _ rfl (zqM (by rw[hsz];simp));have g1:=hargs 1 _ _ rfl (zqM (by rw[hsz];simp))
 obtain⟨c0,c1,rfl⟩:∃c0 c1,cargs= #[c0,c1]:=by
  cases cargs with
  |mk l=>
   match l,hsz with
   |[x,y],_=>exact⟨x,y,rfl⟩
 simp at g0 g1;obtain rfl:=qcb g0.1;obtain⟨t,rfl,ht,_⟩:=qat g1;subst ht;refine(qqF (β i) u v l t w hb (by rw[qac]at hl;exact hl)).mono ?_;rintro e w' ⟨rfl,u',v',h1,h2,h3⟩
 obtain⟨Ow',hP⟩:=qj8 hr hi hb h1 h2 h3 (x:= .tup [.int .i64 t.data.toList.length,.raw .nilIface]) (c:= .tuple #[.int .i64 t.size,.nilIface])
  (.tup _ _ rfl (by simp[AV.free]) (fun j x u hx hu=>by
   match j with
   |0=>simp at hx hu;subst hx;subst hu;exact .int _ _
   |1=>simp at hx hu;subst hx;subst hu;exact .raw _
   |j+2=>simp at hx)) rfl (.tup _ (fun x hx=>by simp at hx;rcases hx with rfl|rfl;exact .int _ _;exact .raw _))
 exact⟨_,_,_,β,Rd,Ow',rfl,hQ,hP⟩
theorem qjF(i:Nat)(l:List UInt8)(hi:H[i]? =some [.bl TB,.bf TU l])(hl:l.length<=maxLen)(hQ:Q (.str l) H):PC Tryz.prog E 75 [.ptr (some (i,0))] H Q:=by
 refine⟨by kernel_rfl,fun w β Rd Ow cargs hr hcell hsz hargs=>?_⟩;obtain⟨u,v,hb⟩:=bb_of hr hi;have g0:=hargs 0 _ _ rfl (zqM (by rw[hsz];simp))
 obtain⟨c0,rfl⟩:∃c0,cargs= #[c0]:=by
  cases cargs with
  |mk l=>
   match l,hsz with
   |[x],_=>exact⟨x,rfl⟩
 simp at g0;obtain rfl:=qcb g0.1;refine(qrM (β i) u v l w hb).mono ?_;rintro e w' ⟨rfl,h1,h2⟩;obtain⟨Ow',hP⟩:=qj8 hr hi hb h1 h2 (fun g hg=> .inl hg) (x:= .str l) (c:= .string (tx l)) (qc6 _ hl) rfl (.str _)
 have:H.set i [.bl TB,.bf TU l]=H:=by
  apply List.ext_getElem?;intro j;by_cases hj:i=j
  ·subst hj;rw[zqO (zqC.1 hi).1,hi]
  ·rw[zqF hj]
 rw[this]at hP;exact⟨_,_,_,β,Rd,Ow',rfl,hQ,hP⟩
end
theorem PC.argsNil{P:Program}{E:Env}{f:FuncId}{args args':List AV}{H:Hp}{Q:AV->Hp->Prop}(h:nilL args args')(hf:∀x∈args',x.free=true)(hp:PC P E f args' H Q):PC P E f args H Q:=by
 obtain⟨h1,h2⟩:=qdz h;refine⟨hp.1,fun w β Rd Ow cargs hr hcell hsz hargs=>hp.2 w β Rd Ow cargs hr hcell (by rw[hsz,h1]) (fun t y u hy hu=>?_)⟩;obtain⟨x,hx,hn⟩:=h2 t y hy;obtain⟨r1,r2,r3⟩:=hargs t x u hx hu;obtain⟨q1,q2,_⟩:=qd0 hn r1 r2;exact⟨q1,q2,hf y (qaj hy)⟩
def u8L(l:List UInt8):List AV:=l.map fun b=> .int .u8 (b.toNat:Int)
theorem qqT(l m:List UInt8):u8L (l++m)=u8L l++u8L m:=by simp[u8L]
@[simp] theorem qkN (l:List UInt8):(u8L l).length=l.length:=by simp[u8L]
theorem qnQ(l:List UInt8):(bts l).flatten=u8L l:=by
 induction l with
 |nil=>rfl
 |cons b l ih=>
  show _::(bts l).flatten=_;rw[ih];rfl
theorem qeI(strs:List (List UInt8))(j:Nat):(strs.take j).flatten.length<=strs.flatten.length:=by
 have:=congrArg (fun l=>(List.flatten l).length) (List.take_append_drop j strs);simp only[List.flatten_append,zqK]at this;omega
def qen(strs:List (List UInt8)):List (List AV):=strs.map fun s=>[.str s]
theorem qkR{strs:List (List UInt8)}{j:Nat}{s:List UInt8}(h:strs[j]? =some s):lat (qen strs) j=some [.str s]:=by simp[lat,qen,h]
def qmp(H0:Hp)(N0:Nat)(out:List UInt8)(strs:List (List UInt8))(M:Nat)(fr:List AV)(H':Hp):Prop:=
 ∃(J':Hp) (tail:List AV) (j:Nat),j<=strs.length/\H'=H0++(J'++[u8L (out++(strs.take j).flatten)++tail])/\(∀l∈J',∀x∈l,∃z,x= .int .u8 z)/\(∀x∈tail,∃z,x= .int .u8 z)/\N0<=H0.length+J'.length+1/\
  out.length+M<=out.length+(strs.take j).flatten.length+tail.length/\out.length+(strs.take j).flatten.length+tail.length<=maxLen/\
  ∃x:Nat->AV,fr=[.bx (H0.length+J'.length) 0 (out.length+M) (out.length+(strs.take j).flatten.length+tail.length) 1,x 1,x 2,x 3,x 4,x 5,x 6,.int .i64 ((out.length+(strs.take j).flatten.length:Nat):Int),x 8,x 9,x 10,x 11,x 12,x 13,x 14,x 15,x 16,x 17,x 18,x 19,x 20,x 21,x 22,x 23,x 24,x 25,x 26,x 27,.sl true 1 (qen strs),.int .i64 strs.length,.int .i64 j,x 31,x 32,x 33,x 34,x 35,x 36,x 37,x 38,x 39,x 40,x 41,x 42]
def qjO(H0:Hp)(v:AV)(out:List UInt8)(H:Hp):Prop:=∃J,H=H0++J/\(∀l∈J,∀x∈l,∃z,x= .int .u8 z)/\((v= .nil/\out=[])\/
 ∃J1 tail,J=J1++[u8L out++tail]/\v= .bx (H0.length+J1.length) 0 out.length (out.length+tail.length) 1/\out.length+tail.length<=maxLen)
section
variable (E:Env)(H:Hp)(Q:AV->Hp->Prop)
theorem qc7(hE:SZ E)(n:Nat)(hn:n<=1099511627776)(hQ:Q (.tup [.str (hexD n),.int .i64 0]) H):PC Tryz.prog E 111 [.int .i64 n,.nil] H Q:=by
 have hl:=qbG n hn;refine PC.argsNil (args':=[.int .i64 n,.sl false 3 (prs [])]) ⟨.inl rfl,.inr ⟨rfl,false,3,rfl⟩,trivial⟩ (by simp) (qhV E H Q hE n [] (by simp[psz]) ?_)
 have e:qdR n []=(hexD n,0):=by
  unfold qdR;rw[if_neg (by omega),if_neg (by simp),if_neg (by simp[prt];omega)];simp[prt]
 rw[e];exact hQ
theorem qqi(hE:SZ E)(H0:Hp)(v:AV)(out p:List UInt8)(hv:qjO H0 v out H)(hp:p.length<=4194304)(hl:out.length<=1073741824)(hQ:∀v' H',qjO H0 v' (out++qbj p) H'->Q v' H'):PC Tryz.prog E 79 [v,.str p] H Q:=by
 obtain⟨size,hsz⟩:=exz (hexD p.length);have hs11:=qbG p.length (by omega);rw[hsz]at hs11;obtain⟨J,rfl,hJ,hv⟩:=hv;have hw1:IntKind.i64.wrap ((size.length:Int)+p.length)=((size.length+p.length:Nat):Int):=by rw[qaE (by omega) (by omega)];omega
 have hw2:IntKind.i64.wrap (((size.length+p.length:Nat):Int)+4)=((size.length+p.length+4:Nat):Int):=by rw[qaE (by omega) (by omega)];omega
 obtain⟨M,hM⟩:=exz (size.length+p.length+4);rw[hM]at hw2;have hM0:¬M=0:=by omega
 have m1:M<=maxLen:=by unfold maxLen;omega
 have m2:M<=140737488355328:=by omega
 have hch:size++([13,10]++(p++[13,10]))=qbj p:=by unfold qbj;rw[hsz];simp
 obtain⟨strs,hstrs⟩:∃strs:List (List UInt8),[size,[13,10],p,[13,10]]=strs:=⟨_,rfl⟩
 have hsl:strs.length=4:=by rw[<-hstrs];rfl
 have hsf:strs.flatten=qbj p:=by rw[<-hstrs,<-hch];simp
 have hsM:strs.flatten.length=M:=by rw[<-hM,<-hstrs];simp;omega
 have hrows:qen strs=[[AV.str size],[.str [13,10]],[.str p],[.str [13,10]]]:=by rw[<-hstrs];rfl
 have hlast:∀j,j<4->(strs.take j).flatten.length+2<=M:=fun j hj=>by
  have h1:(strs.take j).flatten.length<=(strs.take 3).flatten.length:=by
   have:=qeI (strs.take 3) j;rw[List.take_take,Nat.min_eq_left (by omega)]at this;exact this
  have h2:(strs.take 3).flatten.length=size.length+(2+p.length):=by rw[<-hstrs];simp;omega
  omega
 have hM1:M<=8388608:=by omega
 have r4:(([0,1,2,3]:List Nat)=List.range 4)=True:=eq_true rfl;have hzero:∀(n:Nat) (x:AV),x∈List.replicate n (AV.int .u8 0)->∃z,x= .int .u8 z:=fun n x hx=>⟨0,(List.mem_replicate.1 hx).2⟩
 have hB0:∀N,BndH (H0++J).length (H0++J)->(H0++J).length<=N->∀l∈H0,∀x∈l,Bnd N x:=fun N hB hN l hl x hx=>(hB l (List.mem_append_left _ hl) x hx).mono hN;rcases hv with⟨rfl,hout⟩|⟨J1,tail,rfl,rfl,htl⟩
 case' inl=>
  obtain⟨N0,hN0⟩:=exz (H0.length+J.length);refine qad Tryz.func79 rfl [] [(3,[0,0,0,0,0,0,0,3]),(7,[0,0,0,0,0,3])] (by kernel_rfl) (fun hB=>?_);simp[Tryz.ntmps79,Tryz.results79,List.replicate_succ];refine qc7 E _ _ hE p.length (by omega) ?_;rw[hsz];simp[hw1,hw2,m1,m2,hM0,-Int.natCast_add];refine qcZ fun c hc1 hc2=>?_;simp[r4];rw[hN0];refine qbd (qmp H0 N0 out strs M) (fun fr _=>4-(ai (aget fr 30)).toNat) ?_ ?_
  ·refine⟨J,List.replicate (M+(c-M)) (.int .u8 0),0,by omega,by simp[u8L,hout],hJ,hzero _,by omega,by simp,by simp[hout];omega,qaD (by simp[hrows,hsl,hout,hN0];omega)⟩
  have hBN:∀N,N0<=N->∀l∈H0,∀x∈l,Bnd N x:=fun N hN=>hB0 N hB (by simp;omega);clear hJ hB hN0 hc1 hc2 hB0 hout
 case' inr=>
  obtain⟨N0,hN0⟩:=exz (H0.length+(J1.length+1));have hfree:(∀x∈u8L out,x.free=true)=True:=eq_true fun x hx=>by obtain⟨b,_,rfl⟩:=List.mem_map.1 hx;rfl
  have hdrop:List.drop (out.length+M) (u8L out++tail)=tail.drop M:=by rw[List.drop_append,List.drop_of_length_le (by simp only[qkN];omega)];simp
  have htu:∀x∈tail,∃z,x= .int .u8 z:=fun x hx=>hJ (u8L out++tail) (by simp) x (List.mem_append_right _ hx);have hJ1:∀l∈J1,∀x∈l,∃z,x= .int .u8 z:=fun l hl=>hJ l (List.mem_append_left _ hl);have hrow:∀x∈u8L out++tail,∃z,x= .int .u8 z:=hJ _ (by simp);refine qad Tryz.func79 rfl [] [(3,[0,0,0,0,0,0,0,3]),(7,[0,0,0,0,0,3])] (by kernel_rfl) (fun hB=>?_);simp[Tryz.ntmps79,Tryz.results79,List.replicate_succ];refine qc7 E _ _ hE p.length (by omega) ?_;rw[hsz];have hBN:∀N,N0<=N->∀l∈H0,∀x∈l,Bnd N x:=fun N hN=>hB0 N hB (by simp;omega);rcases Nat.lt_or_ge (out.length+tail.length) (out.length+M)with hroom|hroom
  case' inr=>
   simp[hw1,hw2,m1,m2,hM0,hroom,hfree,hdrop,r4,-Int.natCast_add];rw[hN0];refine qbd (qmp H0 N0 out strs M) (fun fr _=>4-(ai (aget fr 30)).toNat) ?_ ?_
   ·refine⟨J1,List.replicate M (.int .u8 0)++tail.drop M,0,by omega,by simp,hJ1,fun x hx=>?_,by omega,by simp,by simp;omega,qaD (by simp[hrows,hsl];omega)⟩;rcases List.mem_append.1 hx with h|h
    ·exact hzero _ x h
    ·exact htu x (List.mem_of_mem_drop h)
   clear hJ hB hN0 hfree hdrop htu hJ1 hroom htl hB0 hrow
  case' inl=>
   have hroom':¬out.length+M<=out.length+tail.length:=by omega
   have hm3:out.length+M<=maxLen:=by unfold maxLen;omega
   have hm4:out.length+M<=140737488355328:=by omega
   simp[hw1,hw2,m1,m2,hM0,hroom',hfree,hm3,hm4,-Int.natCast_add];refine qcZ fun c hc1 hc2=>?_;simp[r4];rw[hN0];refine qbd (qmp H0 N0 out strs M) (fun fr _=>4-(ai (aget fr 30)).toNat) ?_ ?_
   ·refine⟨J1++[u8L out++tail],List.replicate M (.int .u8 0)++List.replicate (c-(out.length+M)) (.int .u8 0),0,by omega,by simp,fun l hl=>?_,fun x hx=>?_,by simp;omega,by simp,by simp;omega,qaD (by simp[hrows,hsl];omega)⟩
    ·rcases List.mem_append.1 hl with h|h
     ·exact hJ1 l h
     ·simp at h;subst h;exact hrow
    ·rcases List.mem_append.1 hx with h|h<;>exact hzero _ x h
   clear hJ hB hN0 hfree hdrop htu hJ1 hroom htl hB0 hroom' hm3 hm4 hc1 hc2 hrow
 all_goals
  rintro fr H' ⟨J',tl,j,hj,rfl,hJ',htl',hN,hge,hle,x,rfl⟩;obtain⟨pre,hpre⟩:=exz (out++(strs.take j).flatten);have hpl:out.length+(strs.take j).flatten.length=pre.length:=by rw[<-hpre,zqK]
  rw[hpl]at hge hle⊢;rw[hpre];have hget:∀r:List AV,(H0++(J'++[r]))[H0.length+J'.length]? =some r:=fun r=>by rw[<-List.append_assoc,zqB (by simp)];simp
  have hset:∀r q:List AV,(H0++(J'++[r])).set (H0.length+J'.length) q=H0++(J'++[q]):=fun r q=>by rw[<-List.append_assoc,List.set_append_right _ _ (by simp),List.append_assoc];simp
  by_cases h:j<strs.length
  ·obtain⟨s,hs⟩:∃s,strs[j]? =some s:=⟨_,zqD h⟩
   have hat:=qkR hs;have hl2:=hlast j (by omega);have hnext:(strs.take (j+1)).flatten=(strs.take j).flatten++s:=by rw[List.take_add_one,hs];simp
   have hpn:pre++s=out++(strs.take (j+1)).flatten:=by rw[hnext,<-hpre];simp
   have hle2:pre.length+s.length<=out.length+M:=by
    have:=qeI strs (j+1);have e:=congrArg List.length hpn;rw[zqK,zqK]at e;omega
   have q1:pre.length<=out.length+M:=by omega
   have q2:out.length+M<=pre.length+tl.length:=by omega
   have q3:¬pre.length+tl.length=pre.length:=by omega
   have q4:s.length<=out.length+M-pre.length:=by omega
   have q5:pre.length+s.length<=pre.length+tl.length:=by omega
   have q6:s.length<=tl.length:=by omega
   have hw3:IntKind.i64.wrap ((pre.length:Int)+s.length)=((pre.length+s.length:Nat):Int):=by rw[qaE (by omega) (by omega)];omega
   have hw4:IntKind.i64.wrap ((j:Int)+1)=j+1:=wiz;have hne:¬tl=[]:=fun e=>by rw[e]at q2;simp at q2;omega
   have e1:List.take pre.length (u8L pre++tl)=u8L pre:=by rw[List.take_append_of_le_length (by simp),zqE (by simp)]
   have e2:List.drop (pre.length+s.length) (u8L pre++tl)=tl.drop s.length:=by rw[List.drop_append,List.drop_of_length_le (by simp)];simp
   simp[h,hat,q1,q2,q4,q5,q6,hne,hget,hset,hw3,hw4,e1,e2,qnQ,-Int.natCast_add];refine Klz ⟨J',tl.drop s.length,j+1,by omega,by rw[<-hpn,qqT];simp,hJ',fun y hy=>htl' y (List.mem_of_mem_drop hy),hN,?_,?_,qaD ?_⟩
   all_goals
    have e3:out.length+(strs.take (j+1)).flatten.length=pre.length+s.length:=by rw[<-zqK,<-hpn,zqK]
    rw[e3]
    try (rw[zqI];omega)
   have e4:pre.length+s.length+(tl.drop s.length).length=pre.length+tl.length:=by rw[zqI];omega
   rw[e4];simp
  ·obtain rfl:j=strs.length:=by omega
   simp;have hfull:out++qbj p=pre:=by rw[<-hpre,zqE (Nat.le_refl _),hsf]
   rw[hfull]at hQ;have hn:out.length+M=pre.length:=by rw[<-hpl,zqE (Nat.le_refl _),hsM]
   rw[hn]
   have hcells:∀y∈u8L pre++tl,∃z,y= .int .u8 z:=fun y hy=>by
    rcases List.mem_append.1 hy with h|h
    ·obtain⟨b,_,rfl⟩:=List.mem_map.1 h;exact⟨_,rfl⟩
    ·exact htl' y h
   have hJall:∀l∈J'++[u8L pre++tl],∀y∈l,∃z,y= .int .u8 z:=fun l hl=>by
    rcases List.mem_append.1 hl with h|h
    ·exact hJ' l h
    ·simp at h;subst h;exact hcells
   refine⟨.bx (H0.length+J'.length) 0 pre.length (pre.length+tl.length) 1,_,_,H0++(J'++[u8L pre++tl]),[],by simp,qaa _,qby _,by simp,by simp;omega,fun l hl y hy=>?_,by simp,hQ _ _ ⟨_,rfl,hJall,.inr ⟨J',tl,rfl,rfl,hle⟩⟩⟩;rcases List.mem_append.1 hl with h|h
   ·exact hBN _ (by simp;omega) l h y hy
   ·obtain⟨z,rfl⟩:=hJall l h y hy;exact .int _ _
end
def qbo(f:Fld):List UInt8×Int:=if qbu f.name=false then([],60)else if qca f.value=false then([],61)else(qar f,0)
@[simp] theorem tblfB:tblf Tryz.prog 120=some TU:=by kernel_rfl
section
variable (E:Env)(H:Hp)(Q:AV->Hp->Prop)
theorem qlg(l:List UInt8)(hl:l.length<=cap)(hQ:Q (.bool (qca l)) H):PC Tryz.prog E 105 [.str l] H Q:=by
 refine qad Tryz.func105 rfl [] [] (by kernel_rfl) (fun hB=>?_);have fin:∀c:Bool,qca l=c->Q (.bool c) H:=fun c hc=>hc▸hQ;by_cases h:l.length<=8192
 ·have h':(l.length:Int)<=8192:=by omega
  simp[Tryz.ntmps105,Tryz.results105,List.replicate_succ,h'];refine qdn E _ _ l hl ?_;cases hf:fldB l
  ·simp;exact aQz hB (h6:=(fin _ (by simp[qca,hf])))
  ·simp;refine qfb E _ _ l hl ?_;simp;exact aQz hB (h6:=(fin _ (by unfold qca;rw[hf,Bool.eq_iff_iff];simp[h])))
 ·have h':¬(l.length:Int)<=8192:=by omega
  simp[Tryz.ntmps105,Tryz.results105,List.replicate_succ,h'];exact aQz hB (h6:=(fin _ (by simp[qca,h])))
theorem qeF(hE:SE E)(f:Fld)(h1:f.name.length<=16777216)(h2:f.value.length<=16777216)(hQ:Q (.tup [.str (qbo f).1,.int .i64 (qbo f).2]) H):PC Tryz.prog E 73 [.agg [.str f.name,.str f.value]] H Q:=by
 refine qad Tryz.func73 rfl [] [] (by kernel_rfl) (fun hB=>?_);have m1:f.name.length+1<=maxLen:=by unfold maxLen;omega
 have m2:f.name.length+2<=maxLen:=by unfold maxLen;omega
 have m3:f.name.length+2+f.value.length<=maxLen:=by unfold maxLen;omega
 have m4:f.name.length+1+1<=maxLen:=by unfold maxLen;omega
 have m5:f.name.length+1+1+f.value.length<=maxLen:=by unfold maxLen;omega
 simp[Tryz.ntmps73,Tryz.results73,List.replicate_succ];refine qij E _ _ hE f.name (by simp only[cap];omega) ?_;cases hn:qbu f.name with
 |false=>
  have e:qbo f=([],60):=by unfold qbo;rw[if_pos hn]
  rw[e]at hQ;simp;exact qab hB rfl (qaa _) (by simp) hQ
 |true=>
  simp;refine qlg E _ _ f.value (by simp only[cap];omega) ?_;cases hv:qca f.value with
  |false=>
   have e:qbo f=([],61):=by unfold qbo;rw[if_neg (by rw[hn];simp),if_pos hv]
   rw[e]at hQ;simp;exact qab hB rfl (qaa _) (by simp) hQ
  |true=>
   have e:qbo f=(qar f,0):=by unfold qbo;rw[if_neg (by rw[hn];simp),if_neg (by rw[hv];simp)]
   rw[e]at hQ;by_cases he:f.value=[]
   ·have e2:qar f=f.name++[58]:=by unfold qar;rw[if_pos he]
    rw[e2]at hQ;have he':(f.value==[])=true:=by simpa using he
    simp[he',m1];exact qab hB rfl (qaa _) (by simp) hQ
   ·have e2:qar f=f.name++(58::32::f.value):=by unfold qar;rw[if_neg he]
    rw[e2]at hQ;have he':(f.value==[])=false:=by simpa using he
    simp[he',m2,m3,m4,m5];exact qab hB rfl (qaa _) (by simp) hQ
end
def qdy(ns:List Int):Bool:=ns.all fun n=>decide (1<=n)
def qbI(body:List UInt8)(ns:List Int)(ts:List Fld):List UInt8×Int:=if qdy ns=false then([],1)else if ts.all qbv=false then([],101)else(encT (qal body ns) ts,0)
def fsz:List Fld->Nat
 |[]=>0
 |f::l=>f.name.length+f.value.length+fsz l
theorem qhb{l:List Fld}{i:Nat}{f:Fld}(h:l[i]? =some f):f.name.length+f.value.length<=fsz l:=by
 induction l generalizing i with
 |nil=>simp at h
 |cons q l ih=>
  cases i with
  |zero=>simp at h;subst h;simp[fsz]
  |succ i=>have:=ih (i:=i) (by simpa using h);simp[fsz];omega
theorem qks(l:List Fld)(i:Nat):fsz (l.take i)<=fsz l:=by
 induction l generalizing i with
 |nil=>simp
 |cons p l ih=>
  cases i with
  |zero=>simp[fsz]
  |succ i=>have:=ih i;simp[fsz];omega
theorem qg6(f:Fld):(qar f).length<=f.name.length+f.value.length+2:=by
 unfold qar;split<;>simp<;>omega
theorem qcH(l:List Fld):(qas l).length<=fsz l+4*l.length:=by
 induction l with
 |nil=>simp[qas]
 |cons f l ih=>
  have e:qas (f::l)=qar f++[13,10]++qas l:=by simp[qas]
  have:=qg6 f;rw[e];simp[fsz];omega
theorem qfB(l:List Fld)(i:Nat)(f:Fld)(h:l[i]? =some f):qas (l.take (i+1))=qas (l.take i)++(qar f++[13,10]):=by
 rw[List.take_add_one,h];simp[qas]
theorem qnK(p:List UInt8)(h0:p≠[])(h:p.length<=1099511627776):(qbj p).length<=16*p.length:=by
 have h1:=qbG p.length h;have h2:p.length≠0:=fun e=>h0 (List.length_eq_zero_iff.1 e);unfold qbj;simp;omega
theorem qeC:∀(ps:List (List UInt8)),(∀p∈ps,p≠[])->ps.flatten.length<=1099511627776->(qaq ps).length<=16*ps.flatten.length
 |[],_,_=>by simp[qaq]
 |p::ps,h0,h=>by
  simp only[List.flatten_cons,zqK]at h;have h1:=qnK p (h0 p (by simp)) (by omega);have h2:=qeC ps (fun q hq=>h0 q (by simp[hq])) (by omega);have e:qaq (p::ps)=qbj p++qaq ps:=by simp[qaq]
  rw[e];simp only[List.flatten_cons,zqK];omega
def qmK(a b:List UInt8):Bool:=low a==low b
def allB(l:List Fld)(n:List UInt8):List (List UInt8):=(l.filter fun f=>qmK f.name n).map fun f=>f.value
theorem qn7(l:List Fld)(n:List UInt8)(i:Nat)(f:Fld)(h:l[i]? =some f):allB (l.take (i+1)) n=allB (l.take i) n++(if qmK f.name n=true then [f.value]else []):=by
 unfold allB;rw[List.take_add_one,h];simp only[Option.toList,List.filter_append,List.map_append];congr 1;by_cases hl:qmK f.name n=true
 ·rw[if_pos hl,List.filter_cons,if_pos hl];rfl
 ·rw[if_neg hl,List.filter_cons,if_neg hl];rfl
theorem qpZ(l:List Fld)(n:List UInt8):(allB l n).length<=l.length:=by
 unfold allB;rw[List.length_map];exact List.length_filter_le _ _
def vsz:List (List UInt8)->Nat
 |[]=>0
 |x::r=>x.length+1+vsz r
theorem qqJ(a b:List (List UInt8)):vsz (a++b)=vsz a+vsz b:=by
 induction a with
 |nil=>simp[vsz]
 |cons x a ih=>simp[vsz,ih];omega
theorem qeR(l:List Fld)(n:List UInt8):vsz (allB l n)<=fsz l+l.length:=by
 induction l with
 |nil=>simp[allB,vsz]
 |cons f l ih=>
  unfold allB at ih⊢;rw[List.filter_cons];simp only[fsz,zqL];split
  ·simp only[List.map_cons,vsz];omega
  ·omega
theorem qox(l:List (List UInt8))(i:Nat):vsz (l.take i)<=vsz l:=by
 have:=congrArg vsz (List.take_append_drop i l);rw[qqJ]at this;omega
theorem qqH{l:List (List UInt8)}{i:Nat}{x:List UInt8}(h:l[i]? =some x):x.length+1<=vsz l:=by
 induction l generalizing i with
 |nil=>simp at h
 |cons a l ih=>
  cases i with
  |zero=>simp at h;subst h;simp[vsz]
  |succ i=>simp at h;have:=ih h;simp[vsz];omega
theorem qqI(l:List (List UInt8)):l.length<=vsz l:=by
 induction l with
 |nil=>simp
 |cons a l ih=>simp[vsz];omega
def qaX:List (List UInt8)->Option (List (List UInt8))
 |[]=>some []
 |v::r=>match qd1 v with
  |none=>none
  |some x=>(qaX r).map (x++·)
theorem qeu:∀(a b:List (List UInt8)),qaX (a++b)=match qaX a with
  |none=>none
  |some x=>(qaX b).map (x++·)
 |[],b=>by
  show qaX b=(qaX b).map (fun y=>[]++y);cases qaX b<;>simp
 |v::a,b=>by
  rw[List.cons_append,qaX,qeu a b,qaX];cases qd1 v with
  |none=>rfl
  |some x=>
   cases qaX a with
   |none=>rfl
   |some y=>cases qaX b<;>simp
theorem qji{vs:List (List UInt8)}{i:Nat}{v:List UInt8}{acc x:List (List UInt8)}(h:vs[i]? =some v)(ha:qaX (vs.take i)=some acc)(hv:qd1 v=some x):qaX (vs.take (i+1))=some (acc++x):=by
 rw[List.take_add_one,h,Option.toList,qeu,ha];simp[qaX,hv]
theorem qjh{vs:List (List UInt8)}{i:Nat}{v:List UInt8}(h:vs[i]? =some v)(hv:qd1 v=none):qaX vs=none:=by
 have hi:=(zqC.1 h).1
 have e:vs=vs.take i++(v::vs.drop (i+1)):=by
  rw[<-(zqC.1 h).2,<-List.drop_eq_getElem_cons hi,List.take_append_drop]
 rw[e,qeu];cases qaX (vs.take i)with
 |none=>rfl
 |some y=>simp[qaX,hv]
theorem qcG:∀(vs acc:List (List UInt8)),qaX vs=some acc->acc.length<=vsz vs
 |[],acc,h=>by cases h;simp
 |v::r,acc,h=>by
  rw[qaX]at h;cases hv:qd1 v with
  |none=>rw[hv]at h;cases h
  |some x=>
   rw[hv]at h;cases hr:qaX r with
   |none=>rw[hr]at h;cases h
   |some y=>
    rw[hr]at h;cases h;have h1:=qib hv;have h2:=qcG r y hr;simp[vsz];omega
theorem qet:∀(vs acc:List (List UInt8)),qaX vs=some acc->∀p∈acc,p.length<=vsz vs
 |[],acc,h=>by cases h;simp
 |v::r,acc,h=>by
  rw[qaX]at h;cases hv:qd1 v with
  |none=>rw[hv]at h;cases h
  |some x=>
   rw[hv]at h;cases hr:qaX r with
   |none=>rw[hr]at h;cases h
   |some y=>
    rw[hr]at h;cases h;intro p hp;rcases List.mem_append.1 hp with hp|hp
    ·have:=qmM hv p hp;simp[vsz];omega
    ·have:=qet r y hr p hp;simp[vsz];omega
def qc2(l:List Fld)(n:List UInt8):List (List UInt8)×Int:=match qaX (allB l n)with
 |some x=>if x.all tokB=true then(x.map low,0)else([],10)
 |none=>([],14)
def nCL:List UInt8:=[67,111,110,116,101,110,116,45,76,101,110,103,116,104]
def nTE:List UInt8:=[84,114,97,110,115,102,101,114,45,69,110,99,111,100,105,110,103]
def qcL:List UInt8:=[99,104,117,110,107,101,100]
def decA(x:List UInt8):Int:=if(qag 10 1099511627776 x).2=0 then(qag 10 1099511627776 x).1 else-1
def qaU(l:List Fld):Int×Bool×Int:=if allB l nCL=[]then(0,false,0)else match qaX (allB l nCL)with
 |some (x::r)=>if decA x<0\/(r.all fun y=>decide (decA y=decA x))=false then(0,false,66)else(decA x,true,0)
 |_=>(0,false,66)
def qaP(l:List Fld):List (List UInt8)×Bool×Int:=if allB l nTE=[]then([],false,0)else if(qc2 l nTE).2=0 then((qc2 l nTE).1,true,0)else([],false,67)
def qam(l:List Fld)(old:Bool):Int×Int×Int:=
 if(qaP l).2.2≠0\/((qaP l).2.1=true/\(old=true\/(qaP l).1≠[qcL]))then(0,0,67)
 else if(qaU l).2.2≠0 then(0,0,(qaU l).2.2)
 else if(qaP l).2.1=true/\(qaU l).2.1=true then(0,0,68)
 else if(qaP l).2.1=true then(2,0,0)
 else if(qaU l).2.1=true then(1,(qaU l).1,0)
 else(0,0,0)
inductive HD where
 |ok (fs:List Fld) (e:Nat)
 |bad (n:Int) (e:Int)
 |part
structure Resp where
 status:Int
 reason:List UInt8
 fields:List Fld
 body:List UInt8
structure Mann where
 method:List UInt8
 close:Bool
 old:Bool
 chunked:Bool
 sizes:List Int
 trailers:List Fld
@[irreducible] def qbD (l:List Fld):List UInt8×Int:=if 100<l.length then([],65)else match l.find? fun f=>decide ((qbo f).2≠0)with
 |some f=>([],(qbo f).2)
 |none=>(qas l,0)
structure Rep where
 minor:Int
 status:Int
 reason:List UInt8
 fields:List Fld
 body:List UInt8
 trailers:List Fld
 kind:Int
 length:Int
 persist:Bool
def strL(l:List (List UInt8)):List AV:=l.map AV.str
@[simp] theorem qcN (l:List (List UInt8)):(strL l).length=l.length:=by simp[strL]
theorem qjY(l m:List (List UInt8)):strL (l++m)=strL l++strL m:=by simp[strL]
theorem qem(l:List (List UInt8)):(strs l).flatten=strL l:=by
 induction l with
 |nil=>rfl
 |cons x l ih=>show _::(strs l).flatten=_;rw[ih];rfl
theorem qdO(l:List (List UInt8)):∀x∈strL l,∃s,x= .str s:=fun x hx=>by obtain⟨s,_,rfl⟩:=List.mem_map.1 hx;exact⟨s,rfl⟩
theorem qnL(out:List (List UInt8))(tail:List AV):chop 1 out.length (strL out++tail)=strs out:=by
 rw[qhq _ _ (by simp),List.take_append_of_le_length (by simp),zqE (by simp)];unfold strL strs;rw[List.map_map];rfl
def SAt(H0:Hp)(v:AV)(out:List (List UInt8))(H:Hp):Prop:=∃J,H=H0++J/\(∀l∈J,∀x∈l,∃z,x= .str z)/\((v= .nil/\out=[])\/
 ∃J1 tail,J=J1++[strL out++tail]/\v= .bx (H0.length+J1.length) 0 out.length (out.length+tail.length) 1/\out.length+tail.length<=maxLen)
theorem qoT{H0:Hp}{v:AV}{out:List (List UInt8)}{H:Hp}(h:SAt H0 v out H):v.free=true/\v.dis=v:=by
 obtain⟨J,_,_,⟨rfl,_⟩|⟨J1,tail,_,rfl,_⟩⟩:=h<;>exact⟨rfl,rfl⟩
theorem qq4{H0:Hp}{v:AV}{out:List (List UInt8)}{H:Hp}(h:SAt H0 v out H):Bnd H.length v:=by
 obtain⟨J,rfl,_,⟨rfl,_⟩|⟨J1,tail,rfl,rfl,_⟩⟩:=h
 ·exact .nil
 ·exact .bx _ _ _ _ _ (by simp)
theorem qoU{H0:Hp}{v:AV}{out:List (List UInt8)}{H:Hp}(h:SAt H0 v out H)(hB:BndH H0.length H0):BndH H.length H:=by
 obtain⟨J,rfl,hJ,_⟩:=h;intro l hl y hy;rcases List.mem_append.1 hl with h|h
 ·exact(hB l h y hy).mono (by simp)
 ·obtain⟨s,rfl⟩:=hJ l h y hy;exact .str _
section
variable (E:Env)(H:Hp)(Q:AV->Hp->Prop)
def allInv(l:List Fld)(n:List UInt8)(H:Hp)(fr:List AV)(H':Hp):Prop:=∃(J:Hp) (i:Nat),H'=H++J/\i<=l.length/\∃x:Nat->AV,fr=[x 0,.str n,x 2,x 3,x 4,.sl true 1 (strs (allB (l.take i) n)),x 6,x 7,.sl false 2 (flds l),.int .i64 l.length,.int .i64 i,x 11,x 12,x 13,x 14,x 15,x 16,x 17,x 18,x 19,x 20,x 21,x 22,x 23,x 24]
theorem qiJ(l:List Fld)(n:List UInt8)(hl:fsz l+l.length<=16777216)(hn:n.length<=cap)(hQ:Q (.sl false 1 (strs (allB l n))) H):PC Tryz.prog E 63 [.sl false 2 (flds l),.str n] H Q:=by
 refine qad Tryz.func63 rfl [18] [] (by kernel_rfl) (fun hB=>?_);simp[Tryz.ntmps63,Tryz.results63,List.replicate_succ];refine qkI 5 1 (by rfl) ?_;simp only[List.set_cons_succ,List.set_cons_zero];refine qbd (allInv l n H) (fun fr _=>l.length-(ai (aget fr 10)).toNat) ⟨[],0,by simp,by omega,qaD (by simp[allB,strs])⟩ ?_;rintro fr H' ⟨J,i,rfl,hi,x,rfl⟩;by_cases h:i<l.length
 ·obtain⟨f,hf⟩:∃f,l[i]? =some f:=⟨_,zqD h⟩
  have hat:=qez hf;have hfm:=qhb hf;have hw:IntKind.i64.wrap ((i:Int)+1)=i+1:=wiz;have hst:=qn7 l n i f hf;have hal:=qpZ (l.take i) n;rw[zqJ]at hal;simp[h,hat];refine qkb E _ _ f.name n (by simp only[cap];omega) hn ?_;cases he:(low f.name==low n)with
  |false=>
   rw[if_neg (by unfold qmK;rw[he];simp),List.append_nil]at hst;simp[hw];exact Klz ⟨_,i+1,rfl,by omega,qaD (by simp[hst])⟩
  |true=>
   rw[if_pos (show qmK f.name n=true from he)]at hst;have m1:(allB (l.take i) n).length+1<=maxLen:=by unfold maxLen;omega
   have m2:((allB (l.take i) n).length+1)*16<=140737488355328:=by omega
   have hsn:=qhJ (allB (l.take i) n) f.value;rw[<-hst]at hsn;simp[m1,m2,hsn,hw];exact Klz ⟨_,i+1,rfl,by omega,friz⟩
 ·obtain rfl:i=l.length:=by omega
  simp;exact qab hB (v0:= .sl false 1 (strs (allB l n))) (by simp) (qaa _) (by simp[qe3]) hQ
def flInv(vs:List (List UInt8))(H:Hp)(fr:List AV)(H':Hp):Prop:=∃(i:Nat) (v:AV) (acc:List (List UInt8)),i<=vs.length/\SAt H v acc H'/\qaX (vs.take i)=some acc/\
 ∃x:Nat->AV,fr=[x 0,x 1,x 2,x 3,x 4,x 5,v,x 7,x 8,x 9,x 10,x 11,x 12,.sl false 1 (strs vs),.int .i64 vs.length,.int .i64 i,x 16,x 17,x 18,x 19,x 20,x 21,x 22,x 23,x 24,x 25,x 26,x 27,x 28,x 29,x 30,x 31]
theorem qkt(l:List Fld)(n:List UInt8)(hl:fsz l+l.length<=4194304)(hn:n.length<=cap)(hQ1:qaX (allB l n)=none->Q (.tup [.sl false 1 [],.int .i64 14]) H)
  (hQ2:∀acc v H',qaX (allB l n)=some acc->SAt H v acc H'->Q (.tup [v,.int .i64 0]) H'):PC Tryz.prog E 108 [.sl false 2 (flds l),.str n] H Q:=by
 have hvz:=qeR l n;refine qad Tryz.func108 rfl [] [(8,[0,0,3])] (by kernel_rfl) (fun hB=>?_);simp[Tryz.ntmps108,Tryz.results108,List.replicate_succ];refine qiJ E _ _ l n (by omega) hn ?_
 generalize allB l n=vs at*
 have hvl:=qqI vs;simp;refine qbd (flInv vs H) (fun fr _=>vs.length-(ai (aget fr 15)).toNat) ⟨0,.nil,[],by omega,⟨[],by simp,by simp,.inl ⟨rfl,rfl⟩⟩,rfl,friz⟩ ?_;rintro fr H' ⟨i,v,acc,hi,hS,hacc,x,rfl⟩;obtain⟨hvf,hvd⟩:=qoT hS;have hlen:=qcG _ _ hacc;have hvt:=qox vs i;by_cases h:i<vs.length
 ·obtain⟨s,hs⟩:∃s,vs[i]? =some s:=⟨_,zqD h⟩
  have hat:=qff hs;have hsz:=qqH hs;have hw:IntKind.i64.wrap ((i:Int)+1)=i+1:=wiz;simp[h,hat];refine qrp E _ _ s (by omega) ?_;cases hlb:qd1 s with
  |none=>
   have e:qct s=([],14):=by unfold qct;rw[hlb]
   rw[e];obtain⟨J,rfl,_⟩:=hS;simp;exact qab hB (v0:= .tup [.nil,.int .i64 14]) (by simp) (qc8 1 _ rfl) (by simp) (hQ1 (qjh hs hlb))
  |some y=>
   have e:qct s=(y,0):=by unfold qct;rw[hlb]
   rw[e];have hyl:=qib hlb;have hst:=qji hs hacc hlb;obtain⟨J,rfl,hJ,⟨rfl,rfl⟩|⟨J1,tail,rfl,rfl,htl⟩⟩:=hS
   ·by_cases hy:y=[]
    ·subst hy;have hs0:strs ([]:List (List UInt8))=[]:=rfl;simp[hw,hs0];exact Klz ⟨i+1,.nil,[],by omega,⟨J,rfl,hJ,.inl ⟨rfl,rfl⟩⟩,by simpa using hst,friz⟩
    ·have m1:y.length<=maxLen:=by unfold maxLen;omega
     have m2:y.length*16<=140737488355328:=by omega
     simp[hy,m1,m2,qem];refine qcZ fun c hc1 hc2=>?_;obtain⟨k,rfl⟩:∃k,c=y.length+k:=⟨c-y.length,by omega⟩
     simp[hw];refine Klz ⟨i+1,.bx (H.length+J.length) 0 y.length (y.length+k) 1,y,by omega,⟨J++[strL y++List.replicate k (.str [])],rfl,fun l hl z hz=>?_,.inr ⟨J,List.replicate k (.str []),rfl,by simp,by simpa using hc2⟩⟩,by simpa using hst,friz⟩;rcases List.mem_append.1 hl with h|h
     ·exact hJ l h z hz
     ·simp only[List.mem_singleton]at h;subst h;rcases List.mem_append.1 hz with h|h
      ·exact qdO _ z h
      ·exact⟨_,(List.mem_replicate.1 h).2⟩
   ·have hget:∀r:List AV,(H++(J1++[r]))[H.length+J1.length]? =some r:=fun r=>by rw[<-List.append_assoc,zqB (by simp)];simp
    have hset:∀r q:List AV,(H++(J1++[r])).set (H.length+J1.length) q=H++(J1++[q]):=fun r q=>by rw[<-List.append_assoc,List.set_append_right _ _ (by simp),List.append_assoc];simp
    have hfree:(∀x∈strL acc,x.free=true)=True:=eq_true fun x hx=>by obtain⟨b,rfl⟩:=qdO _ x hx;rfl
    have htk:List.take acc.length (strL acc)=strL acc:=zqE (by simp);have htu:∀x∈tail,∃z,x= .str z:=fun x hx=>hJ (strL acc++tail) (by simp) x (List.mem_append_right _ hx);have hJ1:∀l∈J1,∀x∈l,∃z,x= .str z:=fun l hl=>hJ l (List.mem_append_left _ hl);have hdr:List.drop (acc.length+y.length) (strL acc++tail)=tail.drop y.length:=by rw[List.drop_append,List.drop_of_length_le (by simp)];simp
    by_cases hroom:y.length<=tail.length
    ·simp[hroom,hfree,hget,hset,htk,hdr,hw,qem];refine Klz ⟨i+1,.bx (H.length+J1.length) 0 (acc.length+y.length) (acc.length+tail.length) 1,acc++y,by omega,⟨J1++[strL (acc++y)++tail.drop y.length],by simp[qjY],fun l hl z hz=>?_,.inr ⟨J1,tail.drop y.length,rfl,by simp;omega,by simp;omega⟩⟩,hst,friz⟩;rcases List.mem_append.1 hl with h|h
     ·exact hJ1 l h z hz
     ·simp only[List.mem_singleton]at h;subst h;rcases List.mem_append.1 hz with h|h
      ·exact qdO _ z h
      ·exact htu z (List.mem_of_mem_drop h)
    ·have m1:acc.length+y.length<=maxLen:=by unfold maxLen;omega
     have m2:(acc.length+y.length)*16<=140737488355328:=by omega
     simp[hroom,hfree,hget,hset,htk,hdr,hw,qem,m1,m2];refine qcZ fun c hc1 hc2=>?_;obtain⟨k,rfl⟩:∃k,c=acc.length+y.length+k:=⟨c-(acc.length+y.length),by omega⟩
     simp[hw];refine Klz ⟨i+1,.bx (H.length+(J1.length+1)) 0 (acc.length+y.length) (acc.length+y.length+k) 1,acc++y,by omega,⟨(J1++[strL acc++tail])++[strL (acc++y)++List.replicate k (.str [])],by simp[qjY],fun l hl z hz=>?_,.inr ⟨J1++[strL acc++tail],List.replicate k (.str []),rfl,by simp,by simpa using hc2⟩⟩,hst,friz⟩;rcases List.mem_append.1 hl with h|h
     ·exact hJ l h z hz
     ·simp only[List.mem_singleton]at h;subst h;rcases List.mem_append.1 hz with h|h
      ·exact qdO _ z h
      ·exact⟨_,(List.mem_replicate.1 h).2⟩
 ·obtain rfl:i=vs.length:=by omega
  rw[zqE (Nat.le_refl _)]at hacc;simp[hvd];exact qp2 (v:= .tup [v,.int .i64 0]) (by simp[hvd]) (by obtain⟨J,rfl,_⟩:=hS;simp) (qoU hS hB) (.tup _ (fun y hy=>by simp at hy;rcases hy with rfl|rfl;exact qq4 hS;exact .int _ _)) (hQ2 acc v H' hacc hS)
def mix(acc:List (List UInt8))(i:Nat):List (List UInt8):=(acc.take i).map low++acc.drop i
theorem qg4(acc:List (List UInt8))(i:Nat):(mix acc i).length=acc.length:=by
 unfold mix;simp;omega
theorem qpd(acc:List (List UInt8)):mix acc 0=acc:=by simp[mix]
theorem qrl(acc:List (List UInt8)):mix acc acc.length=acc.map low:=by simp[mix]
theorem mix_at{acc:List (List UInt8)}{i:Nat}{u:List UInt8}(h:acc[i]? =some u)(tail:List AV):(strL (mix acc i)++tail)[i]? =some (.str u):=by
 have hi:=(zqC.1 h).1;rw[zqA (by rw[qcN,qg4];exact hi)];unfold strL mix;rw[List.getElem?_map,zqB (by simp;omega)];simp[h,Nat.min_eq_left (Nat.le_of_lt hi)]
theorem qpe{acc:List (List UInt8)}{i:Nat}{u:List UInt8}(h:acc[i]? =some u)(tail:List AV):(strL (mix acc i)++tail).set i (.str (low u))=strL (mix acc (i+1))++tail:=by
 have hi:=(zqC.1 h).1
 have e:mix acc (i+1)=(mix acc i).set i (low u):=by
  unfold mix;rw[List.set_append_right _ _ (by simp;omega),List.take_add_one,h];simp only[Option.toList,List.map_append,List.map_cons,List.map_nil,List.length_map,zqJ,Nat.min_eq_left (Nat.le_of_lt hi),Nat.sub_self];rw[List.drop_eq_getElem_cons hi,List.set_cons_zero,List.append_assoc];rfl
 rw[e,List.set_append_left _ _ (by rw[qcN,qg4];exact hi)];unfold strL;rw[List.map_set]
theorem qrk{acc:List (List UInt8)}{i:Nat}{u:List UInt8}(h:acc[i]? =some u)(tail:List AV):(strL (mix acc i)++tail).take i++ .str (low u)::(strL (mix acc i)++tail).drop (i+1)=strL (mix acc (i+1))++tail:=by
 have hi:=(zqC.1 h).1;rw[<-qpe h tail,List.set_eq_take_append_cons_drop,if_pos (by rw[zqK,qcN,qg4];omega)]
def toInv(acc:List (List UInt8))(J1:Hp)(tail:List AV)(H:Hp)(fr:List AV)(H':Hp):Prop:=∃(i:Nat),i<=acc.length/\H'=H++(J1++[strL (mix acc i)++tail])/\(acc.take i).all tokB=true/\
 ∃x:Nat->AV,fr=[x 0,x 1,x 2,x 3,x 4,x 5,.bx (H.length+J1.length) 0 acc.length (acc.length+tail.length) 1,x 7,x 8,x 9,x 10,x 11,x 12,x 13,x 14,x 15,x 16,x 17,x 18,.bx (H.length+J1.length) 0 acc.length (acc.length+tail.length) 1,.int .i64 acc.length,.int .i64 i,x 22,x 23,x 24,x 25,x 26,x 27,x 28,x 29,x 30,x 31,x 32,x 33,x 34,x 35]
theorem qfd(hE:SE E)(l:List Fld)(n:List UInt8)(hl:fsz l+l.length<=4194304)(hn:n.length<=cap)(hQ:Q (.tup [.sl false 1 (strs (qc2 l n).1),.int .i64 (qc2 l n).2]) H):PC Tryz.prog E 107 [.sl false 2 (flds l),.str n] H Q:=by
 have hvz:=qeR l n;refine qfs Tryz.func107 rfl [] [(11,[5,H.length])] (by kernel_rfl) (fun id m hm=>?_) (fun hB=>?_)
 ·unfold ndOf at hm;split at hm
  ·cases hm;exact Nat.le_refl _
  ·cases hm
 simp[Tryz.ntmps107,Tryz.results107,List.replicate_succ];refine qkt E _ _ l n hl hn (fun hno=>?_) (fun acc v H' hacc hS=>?_)
 ·have e:qc2 l n=([],14):=by unfold qc2;rw[hno]
  rw[e]at hQ;simp;exact qaV hB (v0:= .tup [.nil,.int .i64 14]) (by simp) (qc8 1 _ rfl) (by simp) hQ
 have hmem:=qet _ _ hacc;have hlen:=qcG _ _ hacc;have e:qc2 l n=if acc.all tokB=true then(acc.map low,0)else([],10):=by unfold qc2;rw[hacc]
 rw[e]at hQ;clear e hacc;obtain⟨J,rfl,hJ,⟨rfl,rfl⟩|⟨J1,tail,rfl,rfl,htl⟩⟩:=hS
 ·simp;refine qbd (fun fr H'=>∃J:Hp,H'=H++J/\∃x:Nat->AV,fr=[x 0,x 1,x 2,x 3,x 4,x 5,.nil,x 7,x 8,x 9,x 10,x 11,x 12,x 13,x 14,x 15,x 16,x 17,x 18,.nil,.int .i64 0,.int .i64 0,x 22,x 23,x 24,x 25,x 26,x 27,x 28,x 29,x 30,x 31,x 32,x 33,x 34,x 35]) (fun fr _=>0) ⟨J,rfl,friz⟩ ?_;rintro fr H' ⟨J,rfl,x,rfl⟩;simp;refine qkJ ?_;simp;exact qab hB (v0:= .tup [.nil,.int .i64 0]) (by simp) (qc8 1 _ rfl) (by simp) hQ
 ·simp;refine qbd (toInv acc J1 tail H) (fun fr _=>acc.length-(ai (aget fr 21)).toNat) ⟨0,by omega,by rw[qpd],by simp,friz⟩ ?_;rintro fr H' ⟨i,hi,rfl,hall,x,rfl⟩;by_cases h:i<acc.length
  ·obtain⟨u,hu⟩:∃u,acc[i]? =some u:=⟨_,zqD h⟩
   have hw:IntKind.i64.wrap ((i:Int)+1)=i+1:=wiz;have hget:∀r:List AV,(H++(J1++[r]))[H.length+J1.length]? =some r:=fun r=>by rw[<-List.append_assoc,zqB (by simp)];simp
   have hset:∀r q:List AV,(H++(J1++[r])).set (H.length+J1.length) q=H++(J1++[q]):=fun r q=>by rw[<-List.append_assoc,List.set_append_right _ _ (by simp),List.append_assoc];simp
   have hat:=mix_at hu tail;have hst:=qrk hu tail;have hul:=hmem u (zqH hu);simp[h,hget,hat];refine qbF E _ _ hE u (by simp only[cap];omega) ?_;cases ht:tokB u with
   |false=>
    have e:acc.all tokB=false:=qdp tokB acc i u hu ht;rw[if_neg (by rw[e];simp)]at hQ;simp;exact qab hB (v0:= .tup [.nil,.int .i64 10]) (by simp) (qc8 1 _ rfl) (by simp) hQ
   |true=>
    simp;refine qbB E _ _ u (by simp only[cap];omega) ?_;have hle:i+1<=(mix acc i).length+tail.length:=by rw[qg4];omega
    simp[hget,hset,hst,hw,h,hle];exact Klz ⟨i+1,by omega,rfl,by rw[qcs tokB acc i u hu,hall,ht];rfl,friz⟩
  ·obtain rfl:i=acc.length:=by omega
   simp;rw[zqE (Nat.le_refl _)]at hall;rw[if_pos hall]at hQ;rw[qrl];have hJ1:∀l∈J1,∀x∈l,∃z,x= .str z:=fun l hl=>hJ l (List.mem_append_left _ hl);have htu:∀x∈tail,∃z,x= .str z:=fun x hx=>hJ (strL acc++tail) (by simp) x (List.mem_append_right _ hx);have hch:=qnL (acc.map low) tail;rw[List.length_map]at hch;refine qiM [6] (H++J1) (strL (acc.map low)++tail) (by simp) (by simp) (fun l' hl' y hy=>?_) (fun t ht y hy=>?_) (fun y=>?_)
   ·rcases List.mem_append.1 hl' with h|h
    ·exact(hB l' h y hy).mono (by simp)
    ·obtain⟨z,rfl⟩:=hJ1 l' h y hy;exact .str _
   ·simp at ht;subst ht;simp at hy;subst hy;refine .inr ⟨by simp,by omega,by simp,fun y hy=>?_⟩;have hy2:=List.mem_of_mem_drop (List.mem_of_mem_take hy);rcases List.mem_append.1 hy2 with h|h
    ·obtain⟨z,rfl⟩:=qdO _ y h;exact⟨rfl,.str _⟩
    ·obtain⟨z,rfl⟩:=htu y h;exact⟨rfl,.str _⟩
   ·simp[qfH,frz,hch];exact qab hB (v0:= .tup [.sl false 1 (strs (acc.map low)),.int .i64 0]) (by simp) (qaa _) (by simp[qe3]) hQ
theorem ql7(l:List Fld)(n:List UInt8):(qc2 l n).1.length<=fsz l+l.length:=by
 have hvz:=qeR l n;unfold qc2;cases h:qaX (allB l n)with
 |none=>simp
 |some acc=>
  have:=qcG _ _ h;simp only;split
  ·simp;omega
  ·simp
end
theorem qrI(x:List UInt8):0<=(qag 10 1099511627776 x).1/\(qag 10 1099511627776 x).1<=1099511627776:=by
 unfold qag;split
 ·simp
 ·split
  ·simp
  ·split
   ·simp
   ·rename_i h1 h2 h3;have h:=qbU 10 (by omega) x (by simpa using h2);simp only;omega
theorem qrJ{x:List UInt8}(h:(qag 10 1099511627776 x).2=0):decA x=(qag 10 1099511627776 x).1:=by unfold decA;rw[if_pos h]
theorem qpF{x:List UInt8}(h:(qag 10 1099511627776 x).2≠0):decA x= -1:=by unfold decA;rw[if_neg h]
section
variable (E:Env)(H:Hp)(Q:AV->Hp->Prop)
def lenOk(acc:List (List UInt8))(i:Nat)(m:Int):Prop:=(i=0/\m=0)\/(0<i/\0<=m/\∀y∈acc.take i,decA y=m)
def lenInv(acc:List (List UInt8))(b:Nat)(c:Nat)(H3:Hp)(fr:List AV)(H':Hp):Prop:=H'=H3/\∃(i:Nat) (m:Int),i<=acc.length/\lenOk acc i m/\m<=1099511627776/\
 ∃x:Nat->AV,fr=[x 0,x 1,x 2,x 3,x 4,x 5,x 6,.int .i64 m,x 8,x 9,x 10,x 11,x 12,x 13,x 14,x 15,x 16,x 17,x 18,x 19,x 20,x 21,x 22,x 23,x 24,x 25,x 26,x 27,.bx b 0 acc.length c 1,.int .i64 acc.length,.int .i64 i,x 31,x 32,x 33,x 34,x 35,x 36,x 37,x 38,x 39,x 40,x 41,x 42,x 43,x 44,x 45,x 46,x 47,x 48,x 49,x 50,x 51,x 52,x 53]
theorem qmU(l:List Fld)(hl:fsz l+l.length<=4194304)(hQ:Q (.tup [.int .i64 (qaU l).1,.bool (qaU l).2.1,.int .i64 (qaU l).2.2]) H):PC Tryz.prog E 77 [.sl false 2 (flds l)] H Q:=by
 refine qad Tryz.func77 rfl [] [] (by kernel_rfl) (fun hB=>?_);have fin:∀a:Int×Bool×Int,qaU l=a->Q (.tup [.int .i64 a.1,.bool a.2.1,.int .i64 a.2.2]) H:=fun a ha=>ha▸hQ;have hvz:=qeR l nCL;have hcn:nCL.length<=cap:=by simp[nCL,cap]
 simp[Tryz.ntmps77,Tryz.results77,List.replicate_succ];refine qiJ E _ _ l nCL (by omega) hcn ?_;by_cases h0:allB l nCL=[]
 ·have e:qaU l=(0,false,0):=by unfold qaU;rw[if_pos h0]
  have hs0:strs ([]:List (List UInt8))=[]:=rfl;simp[h0,hs0];exact aQz hB (h6:=(fin _ e))
 have h0':(((allB l nCL).length:Int)==0)=false:=by
  rw[beq_eq_false_iff_ne];intro e;exact h0 (List.length_eq_zero_iff.1 (by omega))
 simp[h0'];refine qkt E _ _ l nCL hl hcn (fun hno=>?_) (fun acc v H' hacc hS=>?_)
 ·have e:qaU l=(0,false,66):=by unfold qaU;rw[if_neg h0,hno]
  simp;exact aQz hB (h6:=(fin _ e))
 have hlen:=qcG _ _ hacc;have hmem:=qet _ _ hacc;obtain⟨J,rfl,hJ,⟨rfl,rfl⟩|⟨J1,tail,rfl,rfl,htl⟩⟩:=hS
 ·have e:qaU l=(0,false,66):=by unfold qaU;rw[if_neg h0,hacc]
  simp;exact qab hB rfl (qaa _) (by simp) (fin _ e)
 cases acc with
 |nil=>
  have e:qaU l=(0,false,66):=by unfold qaU;rw[if_neg h0,hacc]
  simp;exact qab hB rfl (qaa _) (by simp) (fin _ e)
 |cons w ws=>
  have e:qaU l=if decA w<0\/(ws.all fun y=>decide (decA y=decA w))=false then(0,false,66)else(decA w,true,0):=by unfold qaU;rw[if_neg h0,hacc]
  obtain⟨acc,ha⟩:=exz (w::ws);have hal:0<acc.length:=by rw[<-ha];simp
  have ha0:acc[0]? =some w:=by rw[<-ha];rfl
  rw[ha]at hlen hmem hJ htl hacc;have hlz:((acc.length:Int)==0)=false:=by rw[beq_eq_false_iff_ne];omega
  rw[ha];simp[hlz];refine qbd (lenInv acc (H.length+J1.length) (acc.length+tail.length) (H++(J1++[strL acc++tail]))) (fun fr _=>acc.length-(ai (aget fr 30)).toNat) ⟨rfl,0,0,by omega,.inl ⟨rfl,rfl⟩,by omega,friz⟩ ?_;rintro fr H' ⟨rfl,i,m,hi,hok,hm,x,rfl⟩;by_cases h:i<acc.length
  ·obtain⟨u,hu⟩:∃u,acc[i]? =some u:=⟨_,zqD h⟩
   have hul:=hmem u (zqH hu);have hget:∀r:List AV,(H++(J1++[r]))[H.length+J1.length]? =some r:=fun r=>by rw[<-List.append_assoc,zqB (by simp)];simp
   have hat:(strL acc++tail)[i]? =some (.str u):=by
    rw[zqA (by rw[qcN];exact h)];unfold strL;rw[List.getElem?_map,hu];rfl
   have hw:IntKind.i64.wrap ((i:Int)+1)=i+1:=wiz;have hrng:=qrI u;have hwm:¬m< -9223372036854775808:=by rcases hok with⟨_,h⟩|⟨_,h,_⟩<;>omega
   have hwA:decA w<0\/(ws.all fun y=>decide (decA y=decA w))=false\/∀y∈acc,decA y=decA w:=by
    by_cases h2:(ws.all fun y=>decide (decA y=decA w))=false
    ·exact .inr (.inl h2)
    ·refine .inr (.inr (fun y hy=>?_));rw[<-ha]at hy;rcases List.mem_cons.1 hy with rfl|hy
     ·rfl
     ·rw[Bool.not_eq_false]at h2;have:=List.all_eq_true.1 h2 y hy;simpa using this
   have hbad:(decA u<0\/(0<i/\decA u≠m))->qaU l=(0,false,66):=fun hb=>by
    rw[e];apply if_pos;rcases hwA with h|h|h
    ·exact .inl h
    ·exact .inr h
    ·left;have h1:=h u (zqH hu);rcases hb with hb|⟨hb,hne⟩
     ·omega
     ·exfalso;rcases hok with⟨h0,_⟩|⟨_,_,h3⟩
      ·omega
      ·have h4:=h3 w (zqH (by rw[zqG hb];exact ha0));omega
   simp[h,hget,hat];refine qb9 E _ _ u 1099511627776 (by simp only[cap];omega) (by omega) (by omega) ?_;by_cases hd:(qag 10 1099511627776 u).2=0
   ·have hdA:=qrJ hd;by_cases hi0:i=0
    ·subst hi0;have hw0:IntKind.i64.wrap 1=1:=by decide
     simp[hd,hw0];refine Klz ⟨rfl,1,_,by omega,.inr ⟨by omega,hrng.1,fun y hy=>?_⟩,hrng.2,friz⟩
     have:acc.take 1=[u]:=by
      rw[show(1:Nat)=0+1 from rfl,List.take_add_one,hu];simp
     rw[this]at hy;simp at hy;subst hy;exact hdA
    ·have hig:0<i:=by omega
     by_cases hne:(qag 10 1099511627776 u).1=m
     ·simp[hd,hig,hne,hw];refine Klz ⟨rfl,i+1,m,by omega,.inr ⟨by omega,by rw[<-hne];exact hrng.1,fun y hy=>?_⟩,hm,friz⟩;rw[List.take_add_one,hu]at hy;rcases List.mem_append.1 hy with hy|hy
      ·rcases hok with⟨h0,_⟩|⟨_,_,h3⟩
       ·omega
       ·exact h3 y hy
      ·simp at hy;subst hy;rw[hdA,hne]
     ·have hne2:((qag 10 1099511627776 u).1 !=m)=true:=by simpa using hne
      simp[hd,hig,hne2];exact qab hB rfl (qaa _) (by simp) (fin _ (hbad (.inr ⟨hig,by rw[hdA];exact hne⟩)))
   ·have hd2:((qag 10 1099511627776 u).2 !=0)=true:=by simpa using hd
    simp[hd2];exact qab hB rfl (qaa _) (by simp) (fin _ (hbad (.inl (by rw[qpF hd];omega))))
  ·obtain rfl:i=acc.length:=by omega
   have hres:qaU l=(m,true,0):=by
    rcases hok with⟨h0,_⟩|⟨_,h2,h3⟩
    ·omega
    ·rw[zqE (Nat.le_refl _)]at h3;have hw0:=h3 w (zqH ha0);rw[e,if_neg,hw0];intro hb;rcases hb with hb|hb
     ·omega
     ·rw[List.all_eq_false]at hb;obtain⟨y,hy,hy2⟩:=hb;have:=h3 y (by rw[<-ha];exact List.mem_cons_of_mem _ hy);exact hy2 (by rw[this,hw0];simp)
   simp;exact qab hB rfl (qaa _) (by simp) (fin _ hres)
theorem qlv(hE:SE E)(l:List Fld)(hl:fsz l+l.length<=4194304)(hQ:Q (.tup [.sl false 1 (strs (qaP l).1),.bool (qaP l).2.1,.int .i64 (qaP l).2.2]) H):PC Tryz.prog E 76 [.sl false 2 (flds l)] H Q:=by
 refine qad Tryz.func76 rfl [] [] (by kernel_rfl) (fun hB=>?_);have fin:∀a:List (List UInt8)×Bool×Int,qaP l=a->Q (.tup [.sl false 1 (strs a.1),.bool a.2.1,.int .i64 a.2.2]) H:=fun a ha=>ha▸hQ;have hcn:nTE.length<=cap:=by simp[nTE,cap]
 simp[Tryz.ntmps76,Tryz.results76,List.replicate_succ];refine qiJ E _ _ l nTE (by omega) hcn ?_;by_cases h0:allB l nTE=[]
 ·have e:qaP l=([],false,0):=by unfold qaP;rw[if_pos h0]
  have hs0:strs ([]:List (List UInt8))=[]:=rfl;simp[h0,hs0];exact qaV hB (v0:= .tup [.nil,.bool false,.int .i64 0]) (by simp) (qfx 1 _ _ rfl rfl) (by simp) (fin _ e)
 have h0':(((allB l nTE).length:Int)==0)=false:=by
  rw[beq_eq_false_iff_ne];intro e;exact h0 (List.length_eq_zero_iff.1 (by omega))
 simp[h0'];refine qfd E _ _ hE l nTE hl hcn ?_;by_cases he:(qc2 l nTE).2=0
 ·have e:qaP l=((qc2 l nTE).1,true,0):=by unfold qaP;rw[if_neg h0,if_pos he]
  simp[he];exact qaV hB (v0:= .tup [.sl false 1 (strs (qc2 l nTE).1),.bool true,.int .i64 0]) (by simp) (qaa _) (by simp[qe3]) (fin _ e)
 ·have e:qaP l=([],false,67):=by unfold qaP;rw[if_neg h0,if_neg he]
  have he2:((qc2 l nTE).2 !=0)=true:=by simpa using he
  simp[he2];exact qaV hB (v0:= .tup [.nil,.bool false,.int .i64 67]) (by simp) (qfx 1 _ _ rfl rfl) (by simp) (fin _ e)
theorem qpI(l:List Fld)(hl:fsz l+l.length<=4194304):(qaP l).1.length<=4194304:=by
 have:=ql7 l nTE;unfold qaP;split
 ·simp
 ·split
  ·simp only;omega
  ·simp
theorem qln{l:List Fld}{old:Bool}{cs:List (List UInt8)}{cd:Bool}{ce n:Int}{tl:Bool}{f:Int}(h1:qaP l=(cs,cd,ce))(h2:qaU l=(n,tl,f)):
  qam l old=if ce≠0\/(cd=true/\(old=true\/cs≠[qcL]))then(0,0,67)else if f≠0 then(0,0,f)else if cd=true/\tl=true then(0,0,68)else if cd=true then(2,0,0)else if tl=true then(1,n,0)else(0,0,0):=by
 unfold qam;rw[h1,h2]
theorem qey(hE:SE E)(l:List Fld)(old:Bool)(hl:fsz l+l.length<=4194304)(hQ:Q (.tup [.agg [.int .i64 (qam l old).1,.int .i64 (qam l old).2.1],.int .i64 (qam l old).2.2]) H):PC Tryz.prog E 54 [.sl false 2 (flds l),.bool old] H Q:=by
 have fin:∀a:Int×Int×Int,qam l old=a->Q (.tup [.agg [.int .i64 a.1,.int .i64 a.2.1],.int .i64 a.2.2]) H:=fun a ha=>ha▸hQ;have hcl:=qpI l hl;refine qad Tryz.func54 rfl [] [] (by kernel_rfl) (fun hB=>?_);simp[Tryz.ntmps54,Tryz.results54,List.replicate_succ];refine qlv E _ _ hE l hl ?_;simp;refine qmU E _ _ l hl ?_;obtain⟨⟨cs,cd,ce⟩,hC⟩:=exz (qaP l);obtain⟨⟨n,tl,f⟩,hL⟩:=exz (qaU l);have hF:=qln (old:=old) hC hL;rw[hC]at hcl;rw[hC,hL];simp only at hcl⊢;have hce:(ce !=0)=decide (ce≠0):=by rw[Bool.eq_iff_iff];simp
 have hfe:(f !=0)=decide (f≠0):=by rw[Bool.eq_iff_iff];simp
 by_cases h1:ce=0;rotate_left
 ·rw[if_pos (.inl h1)]at hF;have h1':(ce !=0)=true:=by simpa using h1
  simp[h1'];exact qab hB (v0:= .tup [.agg [.int .i64 0,.int .i64 0],.int .i64 67]) (by simp) (qaa _) (by simp) (fin _ hF)
 subst h1;cases cd with
 |true=>
  cases old with
  |true=>
   rw[if_pos (.inr ⟨rfl,.inl rfl⟩)]at hF;simp;exact qab hB (v0:= .tup [.agg [.int .i64 0,.int .i64 0],.int .i64 67]) (by simp) (qaa _) (by simp) (fin _ hF)
  |false=>
   by_cases h2:cs=[qcL]
   ·subst h2;rw[if_neg (by simp)]at hF;have hat:lat (strs [qcL]) 0=some [.str qcL]:=rfl;have hv:(qcL !=[99,104,117,110,107,101,100])=false:=by decide
    by_cases h3:f=0
    ·subst h3;rw[if_neg (by simp)]at hF;cases tl with
     |true=>
      rw[if_pos ⟨rfl,rfl⟩]at hF;simp[hat,hv];exact qab hB (v0:= .tup [.agg [.int .i64 0,.int .i64 0],.int .i64 68]) (by simp) (qaa _) (by simp) (fin _ hF)
     |false=>
      rw[if_neg (by simp),if_pos rfl]at hF;simp[hat,hv];exact qab hB (v0:= .tup [.agg [.int .i64 2,.int .i64 0],.int .i64 0]) (by simp) (qaa _) (by simp) (fin _ hF)
    ·rw[if_pos h3]at hF;have h3':(f !=0)=true:=by simpa using h3
     simp[hat,hv,h3'];exact qab hB (v0:= .tup [.agg [.int .i64 0,.int .i64 0],.int .i64 f]) (by simp) (qaa _) (by simp) (fin _ hF)
   ·rw[if_pos (.inr ⟨rfl,.inr h2⟩)]at hF
    match cs,h2 with
    |[],_=>
     simp;exact qab hB (v0:= .tup [.agg [.int .i64 0,.int .i64 0],.int .i64 67]) (by simp) (qaa _) (by simp) (fin _ hF)
    |[c],h2=>
     have hat:lat (strs [c]) 0=some [.str c]:=rfl;have hv:(c !=[99,104,117,110,107,101,100])=true:=by simpa[qcL]using h2
     simp[hat,hv];exact qab hB (v0:= .tup [.agg [.int .i64 0,.int .i64 0],.int .i64 67]) (by simp) (qaa _) (by simp) (fin _ hF)
    |c::d::r,_=>
     have hl:((r.length:Int)+1+1 !=1)=true:=by rw[bne_iff_ne];omega
     simp[hl];exact qab hB (v0:= .tup [.agg [.int .i64 0,.int .i64 0],.int .i64 67]) (by simp) (qaa _) (by simp) (fin _ hF)
 |false=>
  by_cases h3:f=0
  ·subst h3;cases tl with
   |true=>
    rw[if_neg (by simp),if_neg (by simp),if_neg (by simp),if_neg (by simp),if_pos rfl]at hF;simp;exact qab hB (v0:= .tup [.agg [.int .i64 1,.int .i64 n],.int .i64 0]) (by simp) (qaa _) (by simp) (fin _ hF)
   |false=>
    rw[if_neg (by simp),if_neg (by simp),if_neg (by simp),if_neg (by simp),if_neg (by simp)]at hF;simp;exact qab hB (v0:= .tup [.agg [.int .i64 0,.int .i64 0],.int .i64 0]) (by simp) (qaa _) (by simp) (fin _ hF)
  ·rw[if_neg (by simp),if_pos h3]at hF;have h3':(f !=0)=true:=by simpa using h3
   simp[h3'];exact qab hB (v0:= .tup [.agg [.int .i64 0,.int .i64 0],.int .i64 f]) (by simp) (qaa _) (by simp) (fin _ hF)
end
theorem qrL(out:List UInt8)(tail:List AV):chop 1 out.length (u8L out++tail)=bts out:=by
 rw[qhq _ _ (by simp),List.take_append_of_le_length (by simp),zqE (by simp)];unfold u8L bts;rw[List.map_map];rfl
theorem qhZ{b:List UInt8}(h:b≠[])(n:Int)(ns:List Int):qal b (n::ns)=b.take n.toNat::qal (b.drop n.toNat) ns:=by rw[qal,if_neg h]
theorem qhY{b:List UInt8}(h:b≠[]):qal b []=[b]:=by rw[qal,if_neg h]
theorem qeN(p:List UInt8)(ps:List (List UInt8)):qaq (p::ps)=qbj p++qaq ps:=by simp[qaq]
section
variable (E:Env)(H:Hp)(Q:AV->Hp->Prop)
def qrD(body:List UInt8)(ns:List Int)(ts:List Fld)(H:Hp)(fr:List AV)(H':Hp):Prop:=H'=H/\∃i:Nat,i<=ns.length/\qdy (ns.take i)=true/\
 ∃x:Nat->AV,fr=[.str body,.sl false 1 (ints ns),.sl false 2 (flds ts),x 3,x 4,x 5,x 6,x 7,x 8,x 9,x 10,x 11,x 12,x 13,x 14,x 15,x 16,x 17,.sl false 1 (ints ns),.int .i64 ns.length,.int .i64 i,x 21,x 22,x 23,x 24,x 25,x 26,x 27,x 28,x 29,x 30,x 31,x 32,x 33,x 34,x 35,x 36,x 37,x 38,x 39,x 40,x 41,x 42,x 43,x 44,x 45,x 46,x 47,x 48,x 49,x 50,x 51,x 52,x 53,x 54,x 55,x 56,x 57,x 58,x 59,x 60,x 61,x 62,x 63,x 64,x 65,x 66,x 67,x 68,x 69,x 70,x 71,x 72,x 73,x 74,x 75,x 76,x 77,x 78,x 79,x 80,x 81,x 82]
def qrC(body:List UInt8)(ns:List Int)(ts:List Fld)(H:Hp)(fr:List AV)(H':Hp):Prop:=∃(J2:Hp) (i:Nat),i<=ts.length/\H'=H++([.bl TB,.bf TU (qas (ts.take i))]::J2)/\(∀l∈J2,∀x∈l,∃s,x= .str s)/\(ts.take i).all qbv=true/\
 ∃x:Nat->AV,fr=[.str body,.sl false 1 (ints ns),x 2,x 3,x 4,x 5,x 6,x 7,x 8,x 9,.ptr (some (H.length,0)),x 11,x 12,x 13,x 14,x 15,x 16,x 17,x 18,x 19,x 20,x 21,x 22,x 23,x 24,x 25,x 26,.sl false 2 (flds ts),.int .i64 ts.length,.int .i64 i,x 30,x 31,x 32,x 33,x 34,x 35,x 36,x 37,x 38,x 39,x 40,x 41,x 42,x 43,x 44,x 45,x 46,x 47,x 48,x 49,x 50,x 51,x 52,x 53,x 54,x 55,x 56,x 57,x 58,x 59,x 60,x 61,x 62,x 63,x 64,x 65,x 66,x 67,x 68,x 69,x 70,x 71,x 72,x 73,x 74,x 75,x 76,x 77,x 78,x 79,x 80,x 81,x 82]
def qrB(body:List UInt8)(ns:List Int)(H0:Hp)(hn:Nat)(fr:List AV)(H':Hp):Prop:=∃(i:Nat) (b out:List UInt8) (v:AV),i<=ns.length/\qjO H0 v out H'/\out++qaq (qal b (ns.drop i))=qaq (qal body ns)/\b.length<=body.length/\
 ∃x:Nat->AV,fr=[.str b,x 1,x 2,x 3,x 4,x 5,x 6,x 7,x 8,x 9,.ptr (some (hn,0)),x 11,x 12,x 13,x 14,v,x 16,x 17,x 18,x 19,x 20,x 21,x 22,x 23,x 24,x 25,x 26,x 27,x 28,x 29,x 30,x 31,x 32,x 33,x 34,x 35,x 36,x 37,x 38,x 39,x 40,x 41,x 42,x 43,x 44,x 45,x 46,x 47,x 48,x 49,.sl false 1 (ints ns),.int .i64 ns.length,.int .i64 i,x 53,x 54,x 55,x 56,x 57,x 58,x 59,x 60,x 61,x 62,x 63,x 64,x 65,x 66,x 67,x 68,x 69,x 70,x 71,x 72,x 73,x 74,x 75,x 76,x 77,x 78,x 79,x 80,x 81,x 82]
theorem qer{H0:Hp}{v:AV}{out:List UInt8}{H:Hp}(h:qjO H0 v out H):v.free=true/\v.dis=v:=by
 obtain⟨J,_,_,⟨rfl,_⟩|⟨J1,tail,_,rfl,_⟩⟩:=h<;>exact⟨rfl,rfl⟩
theorem qiA(hE:SZ E)(body:List UInt8)(ns:List Int)(ts:List Fld)(hb:body.length<=1048576)(hn:ns.length<=1048577)(ht:fsz ts+ts.length<=1048577)(hr:∀z∈ns,-9223372036854775808<=z/\z<=9223372036854775807)
  (hQ:Q (.tup [.str (qbI body ns ts).1,.int .i64 (qbI body ns ts).2]) H):PC Tryz.prog E 55 [.str body,.sl false 1 (ints ns),.sl false 2 (flds ts)] H Q:=by
 refine qfs Tryz.func55 rfl [] [(7,[3]),(27,[5,H.length])] (by kernel_rfl) (fun id m hm=>?_) (fun hB=>?_)
 ·unfold ndOf at hm;split at hm
  ·cases hm
  ·unfold ndOf at hm;split at hm
   ·cases hm;exact Nat.le_refl _
   ·cases hm
 simp[Tryz.ntmps55,Tryz.results55,List.replicate_succ];refine qbd (qrD body ns ts H) (fun fr _=>ns.length-(ai (aget fr 20)).toNat) ⟨rfl,0,by omega,rfl,friz⟩ ?_;rintro fr H' ⟨rfl,i,hi,hall,x,rfl⟩;by_cases h:i<ns.length
 ·obtain⟨z,hz⟩:∃z,ns[i]? =some z:=⟨_,zqD h⟩
  have hat:=qm3 hz;have hw:IntKind.i64.wrap ((i:Int)+1)=i+1:=wiz
  have hst:qdy (ns.take (i+1))=(qdy (ns.take i)&&decide (1<=z)):=by
   unfold qdy;rw[List.take_add_one,hz,List.all_append];simp
  by_cases hz1:z<1
  ·have e:qbI body ns ts=([],1):=by
    unfold qbI;rw[if_pos];unfold qdy;rw[List.all_eq_false];exact⟨z,zqH hz,by simp;omega⟩
   rw[e]at hQ;simp[h,hat,hz1];exact aQz hB (h6:=hQ)
  ·simp[h,hat,hz1,hw];exact Klz ⟨rfl,i+1,by omega,by rw[hst,hall];simp;omega,friz⟩
 obtain rfl:i=ns.length:=by omega
 rw[zqE (Nat.le_refl _)]at hall;have hns:∀z∈ns,1<=z:=fun z hz=>by have:=List.all_eq_true.1 hall z hz;simpa using this
 clear hi h;simp;refine qbd (qrC body ns ts H') (fun fr _=>ts.length-(ai (aget fr 29)).toNat) ⟨[],0,by omega,by simp[qas],by simp,by simp,friz⟩ ?_;rintro fr H2 ⟨J2,i,hi,rfl,hJ2,hts,x,rfl⟩;have hlin:=qcH (ts.take i);have hsz:=qks ts i;rw[zqJ]at hlin;by_cases h:i<ts.length
 ·obtain⟨f,hf⟩:∃f,ts[i]? =some f:=⟨_,zqD h⟩
  have hat:=qez hf;have hfm:=qhb hf;have hw:IntKind.i64.wrap ((i:Int)+1)=i+1:=wiz
  have hstop:qbv f=false->qbI body ns ts=([],101):=fun hr=>by
   unfold qbI;rw[if_neg (by rw[hall];simp),if_pos];rw[List.all_eq_false];exact⟨f,zqH hf,by rw[hr];simp⟩
  simp[h,hat];refine qeF E _ _ hE.1 f (by omega) (by omega) ?_;cases hnm:qbu f.name with
  |false=>
   have e:qbo f=([],60):=by unfold qbo;rw[if_pos hnm]
   have hq:=hstop (by unfold qbv mayB;rw[hnm];simp);rw[hq]at hQ;simp[e];exact qab hB rfl (qaa _) (by simp) hQ
  |true=>
  cases hvl:qca f.value with
  |false=>
   have e:qbo f=([],61):=by unfold qbo;rw[if_neg (by rw[hnm];simp),if_pos hvl]
   have hq:=hstop (by unfold qbv;rw[hvl];simp);rw[hq]at hQ;simp[e];exact qab hB rfl (qaa _) (by simp) hQ
  |true=>
  have e:qbo f=(qar f,0):=by unfold qbo;rw[if_neg (by rw[hnm];simp),if_neg (by rw[hvl];simp)]
  have hlt:=qg6 f;simp[e];refine qfz E _ _ hE.1 f.name (by simp only[cap];omega) ?_;cases hmy:mayB f.name with
  |false=>
   have hq:=hstop (by unfold qbv;rw[hmy];simp);rw[hq]at hQ;simp;exact qab hB rfl (qaa _) (by simp) hQ
  |true=>
  have hrt:qbv f=true:=by unfold qbv;rw[hmy,hvl];rfl
  have m1:(qar f).length+1+1<=maxLen:=by unfold maxLen;omega
  have m2:(qar f).length+2<=maxLen:=by unfold maxLen;omega
  simp[m1,m2];refine qlS E _ _ H'.length (qas (ts.take i)) (qar f++[13,10]) (by simp) (by simp;omega) ?_;rw[<-qfB ts i f hf];simp[hw];refine Klz ⟨J2++[[.str f.name,.str f.value]],i+1,by omega,by simp,fun l hl y hy=>?_,?_,friz⟩
  ·rcases List.mem_append.1 hl with h|h
   ·exact hJ2 l h y hy
   ·simp at h;subst h;simp at hy;rcases hy with rfl|rfl<;>exact⟨_,rfl⟩
  ·rw[qcs qbv ts i f hf,hts,hrt];rfl
 obtain rfl:i=ts.length:=by omega
 rw[zqE (Nat.le_refl _)]at hts hlin⊢
 have he:qbI body ns ts=(encT (qal body ns) ts,0):=by
  unfold qbI;rw[if_neg (by rw[hall];simp),if_neg (by rw[hts];simp)]
 rw[he]at hQ;simp only at hQ;clear hi h he hall hts;obtain⟨H0,hH0⟩:=exz (H'++([.bl TB,.bf TU (qas ts)]::J2));have hbl:∀J:Hp,(H0++J)[H'.length]? =some [.bl TB,.bf TU (qas ts)]:=fun J=>by rw[<-hH0];simp
 have hlH:H'.length<H0.length:=by rw[<-hH0];simp
 have hBH:∀N,H0.length<=N->∀l∈H0,∀y∈l,Bnd N y:=fun N hN l hl y hy=>by
  rw[<-hH0]at hl;rcases List.mem_append.1 hl with h|h
  ·exact(hB l h y hy).mono (by omega)
  ·rcases List.mem_cons.1 h with rfl|h
   ·simp at hy;rcases hy with rfl|rfl
    ·exact .bl _
    ·exact .bf _ _
   ·obtain⟨s,rfl⟩:=hJ2 l h y hy;exact .str _
 have hpf:(qal body ns).flatten=body:=qdx ns body;have htot:=qeC (qal body ns) (qfr ns body hns) (by rw[hpf];omega);rw[hpf]at htot;rw[hH0];simp;refine qbd (qrB body ns H0 H'.length) (fun fr _=>ns.length-(ai (aget fr 52)).toNat) ⟨0,body,[],.nil,by omega,⟨[],by simp,by simp,.inl ⟨rfl,rfl⟩⟩,by simp,by omega,friz⟩ ?_;rintro fr H3 ⟨i,b,out,v,hi,hO,hsum,hbl2,x,rfl⟩
 have hol:out.length<=16*body.length:=by
  have:=congrArg List.length hsum;rw[zqK]at this;omega
 obtain⟨hvf,hvd⟩:=qer hO;by_cases h:i<ns.length
 ·obtain⟨z,hz⟩:∃z,ns[i]? =some z:=⟨_,zqD h⟩
  have hat:=qm3 hz;have hz1:=hns z (zqH hz);have hw:IntKind.i64.wrap ((i:Int)+1)=i+1:=wiz;have hdrop:ns.drop i=z::ns.drop (i+1):=by rw[List.drop_eq_getElem_cons h];simp[(zqC.1 hz).2]
  rw[hdrop]at hsum;by_cases hb0:b=[]
  ·subst hb0;simp[h,hat,hw];exact Klz ⟨i+1,[],out,v,by omega,hO,by rw[<-hsum,qeq,qeq],by simp,friz⟩
  ·have hb1:(b !=[])=true:=by simpa using hb0
   obtain⟨m,hm⟩:∃m:Nat,(if(b.length:Int)<z then(b.length:Int)else z)=m:=⟨(if(b.length:Int)<z then(b.length:Int)else z).toNat,by split<;>omega⟩
   have hml:m<=b.length:=by split at hm<;>omega
   have htk:b.take m=b.take z.toNat:=by
    split at hm
    ·rw[zqE (by omega),zqE (by omega)]
    ·rw[show m=z.toNat by omega]
   have hdk:b.drop m=b.drop z.toNat:=by
    split at hm
    ·rw[List.drop_of_length_le (by omega),List.drop_of_length_le (by omega)]
    ·rw[show m=z.toNat by omega]
   have hsum2:(out++qbj (b.take m))++qaq (qal (b.drop m) (ns.drop (i+1)))=qaq (qal body ns):=by
    rw[<-hsum,htk,hdk,qhZ hb0,qeN,List.append_assoc]
   simp[h,hat,hb1,hm,hml,hvd];refine qqi E _ _ hE H0 v out (b.take m) hO (by rw[zqJ];omega) (by omega) (fun v' H4 hO'=>?_);obtain⟨hvf',hvd'⟩:=qer hO';have htl:(b.drop m).take (b.length-m)=b.drop m:=zqE (by rw[zqI];omega);simp[hml,hvd',hw,htl];exact Klz ⟨i+1,b.drop m,out++qbj (b.take m),v',by omega,hO',hsum2,by rw[zqI];omega,friz⟩
 obtain rfl:i=ns.length:=by omega
 rw[List.drop_of_length_le (Nat.le_refl _)]at hsum;simp;have fin:∀(x:Nat->AV) (b:List UInt8) (v:AV) (H4:Hp),qjO H0 v (qaq (qal body ns)) H4->vc Tryz.prog E [] [(7,[3]),(27,[5,H'.length])] (Code.skip) (fun _ _ _=>True) [] []:=fun _ _ _ _ _=>trivial;have hm1:(qaq (qal body ns)).length+1<=maxLen:=by unfold maxLen;omega
 have hm2:(qaq (qal body ns)).length+1+2<=maxLen:=by unfold maxLen;omega
 have hm3:(qaq (qal body ns)).length+1+2+(qas ts).length<=maxLen:=by unfold maxLen;omega
 have hm4:(qaq (qal body ns)).length+1+2+(qas ts).length+2<=maxLen:=by unfold maxLen;omega
 clear fin;by_cases hb0:b=[]
 case' pos=>
  subst hb0;rw[qeq]at hsum
  have hO2:qjO H0 v (qaq (qal body ns)) H3:=by
   have:out=qaq (qal body ns):=by rw[<-hsum];simp[qaq]
   rw[<-this];exact hO
  simp;clear hO hsum hol hi hbl2
 case' neg=>
  have hb1:(b !=[])=true:=by simpa using hb0
  simp[hb1,hvd];refine qqi E _ _ hE H0 v out b hO (by omega) (by omega) (fun v' H4 hO'=>?_);obtain⟨hvf',hvd'⟩:=qer hO'
  have hO2:qjO H0 v' (qaq (qal body ns)) H4:=by
   have:out++qbj b=qaq (qal body ns):=by rw[<-hsum,qhY hb0,qeN];simp[qaq]
   rw[<-this];exact hO'
  simp[hvd'];clear hO hO' hsum hol hi hbl2 hvf hvd hb0 hb1 hvf' hvd'
 all_goals
  obtain⟨J,rfl,hJ,⟨rfl,hnil⟩|⟨J1,tail,rfl,rfl,htl⟩⟩:=hO2
  ·refine qkJ ?_;rw[hnil]at hm1 hm2 hm3 hm4;simp at hm1 hm2 hm3 hm4;simp[hm1,hm2];refine qjF E _ _ H'.length (qas ts) (hbl J) (by omega) ?_;have n1:(qas ts).length+1+1+1+2<=maxLen:=by unfold maxLen;omega
   simp[hm3,hm4,n1];rw[<-hH0,List.append_assoc];have e:encT (qal body ns) ts=48::13::10::(qas ts++[13,10]):=by unfold encT;rw[hnil];rfl
   rw[e]at hQ;exact aQy hB (h6:=hQ)
  ·refine qiM [10,15] (H0++J1) (u8L (qaq (qal body ns))++tail) (by simp) (by simp;omega) ?_ ?_ ?_
   ·intro l' hl' y hy;rcases List.mem_append.1 hl' with h|h
    ·exact hBH _ (by simp) l' h y hy
    ·obtain⟨z,rfl⟩:=hJ l' (List.mem_append_left _ h) y hy;exact .int _ _
   ·intro t ht y hy;simp at ht;rcases ht with rfl|rfl
    ·simp at hy;subst hy;exact .ptr _ _ (by simp;omega)
    ·simp at hy;subst hy;refine .inr ⟨by simp,by omega,by simp,fun y hy=>?_⟩;obtain⟨z,rfl⟩:=hJ (u8L (qaq (qal body ns))++tail) (by simp) y (List.mem_of_mem_drop (List.mem_of_mem_take hy));exact⟨rfl,.int _ _⟩
   ·intro y;simp[qfH,frz,qrL,hm1,hm2];refine qjF E _ _ H'.length (qas ts) (hbl J1) (by omega) ?_;have n1:(qaq (qal body ns)).length+((qas ts).length+1+1+1)+2<=maxLen:=by unfold maxLen;omega
    have n2:(qaq (qal body ns)).length+((qas ts).length+1+1+1)<=maxLen:=by unfold maxLen;omega
    simp[hm3,hm4,n1,n2];rw[<-hH0,List.append_assoc];have e:encT (qal body ns) ts=qaq (qal body ns)++48::13::10::(qas ts++[13,10]):=by unfold encT;simp
    rw[e]at hQ;exact aQy hB (h6:=hQ)
end
section
variable (E:Env)(H:Hp)(Q:AV->Hp->Prop)
end
end Go.Proofs.YtnnhdehmlkkfjaaGreatDoor
namespace Go.Proofs.YtnnhdehmlkkfjaaGreatDoor
open Go Go.RowKit Go.Proofs Go.Deep
@[simp] theorem abin_sleql (P:Program) (t:TypeId) (o:Bool) (k:Nat) (r:List AV) (rs:List (List AV)):abin P .eql t (.sl o k (r::rs)) .nil=if(tsl P t).isSome then some (.bool false)else none:=rfl
@[simp] theorem abin_slneq (P:Program) (t:TypeId) (o:Bool) (k:Nat) (r:List AV) (rs:List (List AV)):abin P .neq t (.sl o k (r::rs)) .nil=if(tsl P t).isSome then some (.bool true)else none:=rfl
@[simp] theorem abin_bxeql (P:Program) (t:TypeId) (i o n c k:Nat):abin P .eql t (.bx i o n c k) .nil=if(tsl P t).isSome then some (.bool false)else none:=rfl
@[simp] theorem abin_bxneq (P:Program) (t:TypeId) (i o n c k:Nat):abin P .neq t (.bx i o n c k) .nil=if(tsl P t).isSome then some (.bool true)else none:=rfl
section
variable (E:Env)(H:Hp)(Q:AV->Hp->Prop)
variable (i:Nat)(d:Dec)(hd:H[i]? =some d.av)
include hd
end
section
variable (E:Env)(H:Hp)(Q:AV->Hp->Prop)
end
end Go.Proofs.YtnnhdehmlkkfjaaGreatDoor
namespace Go.Proofs.YtnnhdehmlkkfjaaGreatDoor
open Go Go.RowKit Go.Proofs
theorem qi8{l:List Fld}(h:l.length<=100){i:Nat}{f:Fld}(hf:l[i]? =some f)(hall:∀g∈l.take i,(qbo g).2=0)(hne:(qbo f).2≠0):qbD l=([],(qbo f).2):=by
 have hi:=(zqC.1 hf).1;have e:l=l.take i++(f::l.drop (i+1)):=by rw[<-(zqC.1 hf).2,<-List.drop_eq_getElem_cons hi,List.take_append_drop]
 have hn:(l.take i).find? (fun f=>decide ((qbo f).2≠0))=none:=List.find?_eq_none.2 fun g hg=>by simp[hall g hg]
 unfold qbD;rw[if_neg (by omega)]
 have:l.find? (fun f=>decide ((qbo f).2≠0))=some f:=by
  rw[e,List.find?_append,hn];simp[hne]
 rw[this]
theorem qk2{l:List Fld}(h:l.length<=100)(hall:∀g∈l,(qbo g).2=0):qbD l=(qas l,0):=by
 have hn:l.find? (fun f=>decide ((qbo f).2≠0))=none:=List.find?_eq_none.2 fun g hg=>by simp[hall g hg]
 unfold qbD;rw[if_neg (by omega),hn]
theorem qpl{f:Fld}(h:(qbo f).2=0):(qbo f).1=qar f:=by
 unfold qbo at h⊢;split
 ·rename_i h1;rw[if_pos h1]at h;cases h
 ·rename_i h1;rw[if_neg h1]at h;split
  ·rename_i h2;rw[if_pos h2]at h;cases h
  ·rfl
section
variable (E:Env)(H:Hp)(Q:AV->Hp->Prop)
def fpInv(l:List Fld)(H:Hp)(fr:List AV)(H':Hp):Prop:=∃(J2:Hp) (i:Nat),i<=l.length/\H'=H++([.bl TB,.bf TU (qas (l.take i))]::J2)/\(∀g∈l.take i,(qbo g).2=0)/\
 ∃x:Nat->AV,fr=[x 0,x 1,x 2,x 3,.ptr (some (H.length,0)),x 5,x 6,x 7,x 8,x 9,x 10,x 11,.sl false 2 (flds l),.int .i64 l.length,.int .i64 i,x 15,x 16,x 17,x 18,x 19,x 20,x 21,x 22,x 23,x 24,x 25,x 26,x 27,x 28,x 29,x 30]
theorem qir(hE:SE E)(l:List Fld)(hl:fsz l+l.length<=16777216)(hQ:Q (.tup [.str (qbD l).1,.int .i64 (qbD l).2]) H):PC Tryz.prog E 53 [.sl false 2 (flds l)] H Q:=by
 have fin:∀a:List UInt8×Int,qbD l=a->Q (.tup [.str a.1,.int .i64 a.2]) H:=fun a ha=>ha▸hQ;refine qad Tryz.func53 rfl [] [(3,[3])] (by kernel_rfl) (fun hB=>?_);simp[Tryz.ntmps53,Tryz.results53,List.replicate_succ];by_cases h100:100<l.length
 ·have h1:(100:Int)<l.length:=by omega
  simp[h1];exact qaV hB (v0:= .tup [.str [],.int .i64 65]) (by simp) (qaa _) (by simp) (fin ([],65) (by unfold qbD;rw[if_pos h100]))
 have h1:¬(100:Int)<l.length:=by omega
 simp[h1];refine qbd (fpInv l H) (fun fr _=>l.length-(ai (aget fr 14)).toNat) ⟨[],0,by omega,by simp[qas],by simp,friz⟩ ?_;rintro fr H2 ⟨J2,i,hi,rfl,hall,x,rfl⟩;have hlin:=qcH (l.take i);have hsz:=qks l i;rw[zqJ]at hlin;by_cases h:i<l.length
 ·obtain⟨f,hf⟩:∃f,l[i]? =some f:=⟨_,zqD h⟩
  have hat:=qez hf;have hfm:=qhb hf;have hw:IntKind.i64.wrap ((i:Int)+1)=i+1:=wiz;have hlt:=qg6 f;simp[h,hat];refine qeF E _ _ hE f (by omega) (by omega) ?_;by_cases hz:(qbo f).2=0
  ·have hz1:=qpl hz;have m1:(qar f).length+2<=maxLen:=by unfold maxLen;omega
   have m0:(qar f).length+1+1<=maxLen:=by unfold maxLen;omega
   simp[hz,hz1,m1,m0];refine qlS E _ _ H.length (qas (l.take i)) (qar f++[13,10]) (by simp) (by simp;omega) ?_;rw[<-qfB l i f hf];simp[hw];refine Klz ⟨_,i+1,by omega,rfl,fun g hg=>?_,friz⟩;rw[List.take_add_one,hf]at hg;rcases List.mem_append.1 hg with hg|hg
   ·exact hall g hg
   ·simp at hg;subst hg;exact hz
  ·have hz2:((qbo f).2 !=0)=true:=by simpa using hz
   simp[hz2];exact qab hB (v0:= .tup [.str [],.int .i64 (qbo f).2]) (by simp) (qaa _) (by simp) (fin ([],(qbo f).2) (qi8 (by omega) hf hall hz))
 ·obtain rfl:i=l.length:=by omega
  rw[zqE (Nat.le_refl _)]at hall hlin⊢;simp;refine qjF E _ _ H.length (qas l) (by simp) (by unfold maxLen;omega) ?_;simp;exact qab hB (v0:= .tup [.str (qas l),.int .i64 0]) (by simp) (qaa _) (by simp) (fin (qas l,0) (qk2 (by omega) hall))
end
section
variable {r:Resp}{h:Mann}
end
section
variable (E:Env)(H:Hp)(Q:AV->Hp->Prop)
end
section
variable (E:Env)(H:Hp)(Q:AV->Hp->Prop)
end
section
variable (E:Env)(H:Hp)(Q:AV->Hp->Prop)
end
structure RM where
 bytes:List UInt8
 err:Int
 over:Bool
 ended:Bool
 most:Int
 asked:List (List UInt8)
 done:List Rep
end Go.Proofs.YtnnhdehmlkkfjaaGreatDoor
namespace Go.Proofs.YtnnhdehmlkkfjaaGreatDoor
open Go Go.RowKit Go.Lib
def dgB(k:Nat):UInt8:=UInt8.ofNat (48+k)
theorem qeb{u:Nat}(h:u<10):decDigits u=[dgB u]:=by rw[decDigits,dif_pos h];rfl
end Go.Proofs.YtnnhdehmlkkfjaaGreatDoor
namespace Go.Proofs.YtnnhdehmlkkfjaaGreatDoor
open Go Go.RowKit Go.Proofs Go.Lib
def d3(n:Int):List UInt8:=[dgB (n.toNat/100),dgB (n.toNat/10%10),dgB (n.toNat%10)]
end Go.Proofs.YtnnhdehmlkkfjaaGreatDoor
namespace Go.Proofs.YtnnhdehmlkkfjaaGreatDoor
open Go Go.RowKit Go.Proofs
@[simp] theorem qqq (l:List Int):(ints l).length=l.length:=by simp[ints]
section
variable (E:Env)(H:Hp)(Q:AV->Hp->Prop)
end
end Go.Proofs.YtnnhdehmlkkfjaaGreatDoor
