/- Part 14 of the texts below the law. -/
import Derived.Test.YtnnhdehmlkkfjaaGreatDoorPe13
import Derived.Test.YtnnhdehmlkkfjaaGreatDoorCards
import Derived.Test.YtnnhdehmlkkfjaaGreatDoorTie
import Derived.Deep.DeepHandedRow
import Derived.Lib.LaidTab
import Derived.ChangeMaps5
import Derived.Lay
import Derived.Stop.LaidErr
import Derived.JoinedCond
set_option maxRecDepth 100000
set_option maxHeartbeats 16000000
set_option linter.unusedVariables false
set_option linter.unusedSimpArgs false
set_option linter.unusedSectionVars false
namespace Go.Proofs.YtnnhdehmlkkfjaaGreatDoor
open Go Go.RowKit Go.Proofs Go.Deep
theorem qif{r:Rq}(h:(qbv r).2≠0):(qbv r).1=[]:=by
 unfold qbv at h⊢;by_cases h1:qke r.meth=false
 ·rw[if_pos h1]
 rw[if_neg h1]at h⊢;by_cases h2:qb8 r.targ=false
 ·rw[if_pos h2]
 rw[if_neg h2]at h⊢;by_cases h3:r.major≠1\/(r.minor≠0/\r.minor≠1)
 ·rw[if_pos h3]
 rw[if_neg h3]at h⊢;by_cases h4:(qbt r.fields).2≠0
 ·rw[if_pos h4]
 rw[if_neg h4]at h⊢;by_cases h5:(qaj r.fields (decide (r.minor=0))).2.2≠0
 ·rw[if_pos h5]
 rw[if_neg h5]at h⊢;by_cases h6:(qaj r.fields (decide (r.minor=0))).1≠2/\(r.body.length:Int)≠(qaj r.fields (decide (r.minor=0))).2.1
 ·rw[if_pos h6]
 rw[if_neg h6]at h⊢;by_cases h7:(qaj r.fields (decide (r.minor=0))).1≠2/\r.trailers≠[]
 ·rw[if_pos h7]
 rw[if_neg h7]at h⊢;by_cases h8:(qaj r.fields (decide (r.minor=0))).1=2
 ·rw[if_pos h8]at h⊢;by_cases h9:(qbh r.body [] r.trailers).2≠0
  ·rw[if_pos h9]
  ·rw[if_neg h9]at h;exact absurd rfl h
 ·rw[if_neg h8]at h;exact absurd rfl h
theorem okL_ne{f:Fld}(h:qbm f.name=true):1<=f.name.length:=by
 rcases hf:f.name with _|⟨c,l⟩
 ·rw[hf]at h;exact absurd h (by decide)
 ·simp
theorem qpG:∀l:List Fld,(∀f∈l,qbm f.name=true)->l.length<=fsz l
 |[],_=>Nat.zero_le _
 |f::l,h=>by
  have h1:=okL_ne (h f (.head _));have h2:=qpG l fun g hg=>h g (.tail _ hg);simp only[fsz,zqL];omega
theorem qnx{r:Rq}(h:(qbv r).2=0){b:Nat}(hb:r.meth.length+r.targ.length+r.body.length+(fsz r.fields+r.fields.length)+(fsz r.trailers+r.trailers.length)<=b)(hb2:b<=1048576):2*(qbv r).1.length<=5*b+400:=by
 obtain⟨ok,hs⟩:=qj4 h;rw[hs]
 have hit:(Go.Lib.itoa r.minor).length=1:=by
  rcases ok.mi with e|e
  ·have:Go.Lib.itoa r.minor=[48]:=by rw[e];exact(qc9 0).trans (qen (by omega))
   rw[this];rfl
  ·have:Go.Lib.itoa r.minor=[49]:=by rw[e];exact(qc9 1).trans (qen (by omega))
   rw[this];rfl
 have hf:=qpG r.fields fun f hf=>(ok.f.2 f hf).1;have hfl:=qcx r.fields
 have hpl:(preQ r).length=r.meth.length+r.targ.length+(qav r.fields).length+14:=by
  unfold preQ;rw[ok.f.1];simp only[zqK,zqL,List.length_nil,hit];omega
 rw[zqK,hpl];by_cases h2:(qaj r.fields (decide (r.minor=0))).1=2
 ·rw[if_pos h2];have hr:=(ok.ch h2).1;have ht:=qpG r.trailers fun g hg=>by have:=hr g hg;unfold qbj mayB at this;simp only[Bool.and_eq_true]at this;exact this.1.1
  have htl:=qcx r.trailers
  have hc:(qaq (qan r.body [])).length<=r.body.length+15:=by
   unfold qan;split
   ·simp[qaq]
   ·have:=qbG r.body.length (by omega);simp only[qaq,qbF,List.flatMap_cons,List.flatMap_nil,List.append_nil,zqK,zqL,List.length_nil];omega
  unfold encT;simp only[zqK,zqL,List.length_nil];omega
 ·rw[if_neg h2];omega
section
variable (E:Env){H:Hp}(Q:AV->Hp->Prop)
theorem qr5(hE:PZ E)(r:Rq)(hz:szQ r)(bh:List UInt8)(hl:(qbv r).1.length+bh.length<=4194304)(hQ:Q (.bool true) H):PC Tryz.prog E 10 [r.av,.str bh] H Q:=by
 refine qac Tryz.func10 rfl [] [(10,[0,0,0,0,0,0,0,0,0,0,0,0,0,0,1])] (by kernel_rfl) (fun hB=>?_);have z3:=hz.f;have z5:=hz.tr;have zb:=hz.b;have hbad:=qif (r:=r);have hrd:(qbv r).2=0->EndQ (newP 65536 1048576 100 1073741824) (qbv r).1 r:=fun h=>qj2 h _ _ _ _ (by omega) (by omega);simp[Tryz.ntmps10,Tryz.results10,List.replicate_succ,Rq.av,Rq.avs];refine qo9 E _ hE r hz ?_;have hD:=fun(H':Hp) (Q':AV->Hp->Prop) h=>qp6 E (H:=H') Q' r hz h;obtain⟨S,hS⟩:=exz ((qbv r).1);obtain⟨e,he⟩:=exz ((qbv r).2);rw[hS,he]at hrd hD hbad;rw[hS]at hl;rw[hS,he];by_cases h0:e=0;rotate_left
 ·have h1:(e==0)=false:=by simpa using h0
  have h2:(e !=0)=true:=by simpa using h0
  obtain rfl:=hbad h0;simp[h1,h2];refine qhe E _ r (by omega) (by omega) ?_;simp[Rq.av,Rq.avs];refine hD _ _ ?_;simp;refine qhl E _ hE.1 ?_;simp[h1,h2];exact aQy hB (v:= .bool true) (h6:=hQ)
 subst h0;have hend:=hrd rfl;clear hrd hbad hD;have hmx:(S.length+bh.length<=maxLen)=True:=lemax (by omega);have hch:chkE 65536 1048576 100 1073741824=0:=by decide
 obtain⟨q,hq⟩:=exz (newP 65536 1048576 100 1073741824);rw[hq]at hend;obtain⟨P,hP⟩:=exz ((qao q S).1)
 have hnx:P.nx=none:=by
  rcases hend with h|h
  ·rw[<-hP];exact h.1
  ·rw[<-hP];exact h.1
 have hfb:qao q (S++bh)=(P,(qao q S).2):=by
  rw[qbN,hP,qbk bh hnx];rfl
 have hW:∀(H':Hp) (Q':AV->Hp->Prop),Q' (.tup [(Rq.if (decide (P.state=4)) P.rq).av,.int .i64 (qao q S).2,fltV P,.int .i64 (qeG P)]) H'->PC Tryz.prog E 12 [limV 65536 1048576 100 1073741824,.str (S++bh)] H' Q':=fun H' Q' h=>qj0 E Q' hE.1 _ _ _ _ _ (by rw[zqK];omega) (by unfold qq7;rw[if_pos hch,hq,hfb];exact h);simp[hmx,limV];refine hW _ _ ?_;rcases hend with⟨_,h5,hok⟩|⟨_,hn,h4,hrq⟩
 ·rw[hP]at h5 hok;have hk:qeG P=2:=by unfold qeG;rw[if_neg (by omega),if_pos h5]
  have hfv:fltV P= .agg [.int .i64 P.fst_,.int .i64 P.ferr,.int .i64 P.fat]:=by unfold fltV;rw[if_pos h5]
  have hd:decide (P.state=4)=false:=by rw[h5];rfl
  have hLk:qaX P=⟨5,P.used,false,.zero,false,P.fst_,P.ferr,P.fat⟩:=by unfold qaX;rw[if_pos h5]
  obtain⟨k1,k2,k3⟩:=hok;have k1':(P.ferr==110)=false:=by simpa using k1
  have k2':(P.ferr==111)=false:=by simpa using k2
  have k3':(P.ferr==117)=false:=by simpa using k3
  have k1'':(P.ferr !=110)=true:=by simpa using k1
  have k2'':(P.ferr !=111)=true:=by simpa using k2
  have k3'':(P.ferr !=117)=true:=by simpa using k3
  rw[hk,hfv,hd];simp[Rq.if,Rq.av,Rq.avs,Rq.zero];refine qnA E _ _ _ _ _ ?_;simp[limV];refine qp3 E _ _ _ _ _ S (by omega) (fun _=>?_) (fun e=>absurd hch e);rw[hq,hP,hLk,hk];simp[Lk.av,Rq.avs,Rq.zero];refine qhl E _ hE.1 ?_;simp[k1',k2',k3',k1'',k2'',k3''];exact aQy hB (v:= .bool true) (h6:=hQ)
 ·rw[hP]at h4 hrq;have hk:qeG P=1:=by unfold qeG;rw[if_pos h4]
  have hfv:fltV P= .agg [.int .i64 0,.int .i64 0,.int .i64 0]:=by unfold fltV;rw[if_neg (by omega)]
  have hd:decide (P.state=4)=true:=by rw[h4];rfl
  rw[hk,hfv,hd,hrq,hn];simp[Rq.if,Rq.av,Rq.avs];refine qhl E _ hE.1 ?_;simp;refine qhe E _ r (by omega) (by omega) ?_;simp[qap,KP,qah,Rq.av,Rq.avs];refine qr0 E _ r (by omega) (by omega) ?_;simp;exact aQy hB (v:= .bool true) (h6:=hQ)
end
theorem qnD(W:World)(cs:Array Value)(r:Rq)(b:Nat)(R:QOk W cs r b)(s:ByteArray)(hb:b+s.size<=1048576)(hT:Tabs W)(hM:qgF W):
  Calls Tryz.prog 10 #[.agg cs,.string s] W fun e w'=>e= .returned (.bool true)/\Frm (fun _=>False) W w':=by
 have hlen:(qbv r).1.length+s.data.toList.length<=4194304:=by
  rw[qad];by_cases h:(qbv r).2=0
  ·have:=qnx h (Nat.le_of_succ_le R.bulk) (by omega);omega
  ·rw[qif h];simp;omega
 refine qsC (args:=[r.av,.str s.data.toList]) hT hM rfl (fun t x u hx hu=>?_) (fun E Q hE h=>qr5 E Q hE r (R.sz (by omega)) s.data.toList hlen h)
 match t with
 |0=>simp at hx hu;subst hx;subst hu;exact⟨R.rel,R.bnd,rfl⟩
 |1=>simp at hx hu;subst hx;subst hu;exact qlh W s (by omega)
 |t+2=>simp at hx
end Go.Proofs.YtnnhdehmlkkfjaaGreatDoor
namespace Go.Proofs.YtnnhdehmlkkfjaaGreatDoor
open Go Go.ChangeShapes Go.WideShapes Go.ChangeAt Go.RowKit Go.Deep
theorem qh9 : Tryz.prog.globalNamed "turnpike/octet.signs" = some 0 := by kernel_rfl
theorem qoM:(Tryz.prog.globals[0]?).map (·.type)=some 140:=by kernel_rfl
theorem qjO{W : World}{rest : List (String × DataW Unit)}(h : laidMet Tryz.prog (("turnpike/octet.signs", Rows.laid_turnpike_octet_signs) :: rest) W) : qh2 W := by
 have ht : Lib.TabIs Tryz.prog W "turnpike/octet.signs" .u32 signTab := Lib.tabIs_of_head (rest := rest) qh9 qoM Tryz.underlying140 Tryz.underlying139 (by kernel_rfl) (by kernel_rfl) h
 intro j z hz;have hj:=(zqC.1 hz).1;have:=ht.cell qh9 j hj;rw[List.getD,hz]at this;exact this
theorem qqe : Tryz.prog.globalNamed "math/bits.deBruijn64tab" = some 4 := by kernel_rfl
theorem dbType:(Tryz.prog.globals[4]?).map (·.type)=some 247:=by kernel_rfl
def dbTab:List Int:=[0,1,56,2,57,49,28,3,61,58,42,50,38,29,17,4,62,47,59,36,45,43,51,22,53,39,33,30,24,18,12,5,63,55,48,27,60,41,37,16,46,35,44,21,52,32,23,11,54,26,40,15,34,20,31,10,25,14,19,9,13,8,7,6]
theorem qoy{W : World}{rest : List (String × DataW Unit)}(h : laidMet Tryz.prog (("math/bits.deBruijn64tab", Rows.laid_math_bits_deBruijn64tab) :: rest) W) : Tz W := by
 have ht : Lib.TabIs Tryz.prog W "math/bits.deBruijn64tab" .u8 dbTab := Lib.tabIs_of_head (rest := rest) qqe dbType Tryz.underlying247 Tryz.underlying5 (by kernel_rfl) (by kernel_rfl) h
 exact ht.cell qqe 15 (by decide)
end Go.Proofs.YtnnhdehmlkkfjaaGreatDoor
