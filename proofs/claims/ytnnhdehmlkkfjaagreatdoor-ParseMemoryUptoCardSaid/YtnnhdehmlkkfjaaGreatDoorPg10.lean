/- Part 10 of the texts below the law. -/
import Derived.Test.YtnnhdehmlkkfjaaGreatDoorPg9
set_option maxRecDepth 100000
set_option maxHeartbeats 16000000
set_option linter.unusedVariables false
set_option linter.unusedSimpArgs false
set_option linter.unusedSectionVars false
namespace Go.Proofs.YtnnhdehmlkkfjaaGreatDoor
open Go Go.RowKit
theorem PC.argsD{P:Program}{E:Env}{f:FuncId}{args args':List AV}{H:Hp}{Q:AV->Hp->Prop}(h:NilL args args')(hp:PC P E f args' H Q):PC P E f args H Q:=by
 obtain⟨h1,h2⟩:=h.at;refine⟨hp.1,fun w β Rd Ow cargs hr hcell hsz hargs=>hp.2 w β Rd Ow cargs hr hcell (by rw[hsz,h1]) (fun t y u hy hu=>?_)⟩;obtain⟨x,hx⟩:=qb0 h1 hy;obtain⟨r1,r2,r3⟩:=hargs t x u hx hu;have hd:=h2 t x y hx hy;exact⟨hd.rel r1,hd.bnd r2,hd.free r3⟩
theorem qrN{H K:Hp}(h1:H.length<=K.length)(h2:∀i,i<H.length->K[i]? =H[i]?):∃J,K=H++J:=by
 refine⟨K.drop H.length,?_⟩;apply List.ext_getElem?;intro i;by_cases hi:i<H.length
 ·rw[zqA hi,h2 i hi]
 ·rw[zqB (by omega),zqN];congr 1;omega
def chkE(a b c d:Int):Int:=if(1<=a/\a<=65536)/\(2<=b/\b<=1048576)/\(0<=c/\c<=100)/\(0<=d/\d<=1073741824)then 0 else 115
def limV(a b c d:Int):AV:= .agg [.int .i64 a,.int .i64 b,.int .i64 c,.int .i64 d]
def Rq.if(c:Bool)(r:Rq):Rq:=if c then r else .zero
theorem Rq.nil(m t b:List UInt8)(ma mi:Int):NilL [.str m,.str t,.int .i64 ma,.int .i64 mi,.nil,.str b,.nil] (Rq.mk m t ma mi [] b []).avs:=⟨.same _,.same _,.same _,.same _,.nil _,.same _,.nil _,trivial⟩
theorem Rq.nilT(m t b:List UInt8)(ma mi:Int)(fs:List Fld):NilL [.str m,.str t,.int .i64 ma,.int .i64 mi,.sl false 2 (flds fs),.str b,.nil] (Rq.mk m t ma mi fs b []).avs:=⟨.same _,.same _,.same _,.same _,.same _,.same _,.nil _,trivial⟩
def fltV(p:Prs):AV:=if p.state=5 then .agg [.int .i64 p.fst_,.int .i64 p.ferr,.int .i64 p.fat]else .agg [.int .i64 0,.int .i64 0,.int .i64 0]
section
variable (E:Env){H:Hp}(Q:AV->Hp->Prop)
theorem qli(n a b:Int)(hQ:Q (.bool (decide (a<=n)&&decide (n<=b))) H):PC Tryz.prog E 40 [.int .i64 n,.int .i64 a,.int .i64 b] H Q:=by
 refine qac Tryz.func40 rfl [] [] (by kernel_rfl) (fun hB=>?_);by_cases h1:a<=n
 ·by_cases h2:n<=b
  ·simp[Tryz.ntmps40,Tryz.results40,List.replicate_succ,h1,h2];exact aQz hB (h6:=(by simpa[h1,h2]using hQ))
  ·simp[Tryz.ntmps40,Tryz.results40,List.replicate_succ,h1,h2];exact aQz hB (h6:=(by simpa[h1,h2]using hQ))
 ·simp[Tryz.ntmps40,Tryz.results40,List.replicate_succ,h1];exact aQz hB (h6:=(by simpa[h1]using hQ))
theorem qni(a b c d:Int)(hQ:Q (.int .i64 (chkE a b c d)) H):PC Tryz.prog E 20 [limV a b c d] H Q:=by
 refine qac Tryz.func20 rfl [] [] (by kernel_rfl) (fun hB=>?_);have fin:∀e,chkE a b c d=e->Q (.int .i64 e) H:=fun e h=>h▸hQ;simp[Tryz.ntmps20,Tryz.results20,List.replicate_succ,limV];refine qli E _ a 1 65536 ?_;by_cases h1:1<=a/\a<=65536
 ·have g1:(decide (1<=a)&&decide (a<=65536))=true:=by simpa using h1
  rw[g1];simp;refine qli E _ b 2 1048576 ?_;by_cases h2:2<=b/\b<=1048576
  ·have g2:(decide (2<=b)&&decide (b<=1048576))=true:=by simpa using h2
   rw[g2];simp;refine qli E _ c 0 100 ?_;by_cases h3:0<=c/\c<=100
   ·have g3:(decide (0<=c)&&decide (c<=100))=true:=by simpa using h3
    rw[g3];simp;refine qli E _ d 0 1073741824 ?_;by_cases h4:0<=d/\d<=1073741824
    ·have g4:(decide (0<=d)&&decide (d<=1073741824))=true:=by simpa using h4
     rw[g4];simp;exact qab hB rfl (qaa _) (by simp) (fin 0 (by unfold chkE;rw[if_pos ⟨h1,h2,h3,h4⟩]))
    ·have g4:(decide (0<=d)&&decide (d<=1073741824))=false:=by rw[Bool.eq_false_iff];intro h;simp at h;exact h4 h
     rw[g4];simp;exact qab hB rfl (qaa _) (by simp) (fin 115 (by unfold chkE;rw[if_neg (fun h=>h4 h.2.2.2)]))
   ·have g3:(decide (0<=c)&&decide (c<=100))=false:=by rw[Bool.eq_false_iff];intro h;simp at h;exact h3 h
    rw[g3];simp;exact qab hB rfl (qaa _) (by simp) (fin 115 (by unfold chkE;rw[if_neg (fun h=>h3 h.2.2.1)]))
  ·have g2:(decide (2<=b)&&decide (b<=1048576))=false:=by rw[Bool.eq_false_iff];intro h;simp at h;exact h2 h
   rw[g2];simp;exact qab hB rfl (qaa _) (by simp) (fin 115 (by unfold chkE;rw[if_neg (fun h=>h2 h.2.1)]))
 ·have g1:(decide (1<=a)&&decide (a<=65536))=false:=by rw[Bool.eq_false_iff];intro h;simp at h;exact h1 h
  rw[g1];simp;exact qab hB rfl (qaa _) (by simp) (fin 115 (by unfold chkE;rw[if_neg (fun h=>h1 h.1)]))
theorem qnf(hQ:Q (limV 8000 16384 100 1048576) H):PC Tryz.prog E 17 [] H Q:=by
 refine qac Tryz.func17 rfl [] [] (by kernel_rfl) (fun hB=>?_);simp[Tryz.ntmps17,Tryz.results17,List.replicate_succ];exact qab hB (v0:=limV 8000 16384 100 1048576) (by simp[limV]) (qaa _) (by simp[limV]) hQ
def nwH(H:Hp)(a b c d:Int):Hp:=H++[[.int .i64 a,.int .i64 b,.int .i64 c,.int .i64 d],(newP a b c d).av (H.length+1) 0]
theorem qqU(H:Hp)(a b c d:Int):PB (nwH H a b c d) (H.length+1) 0 (newP a b c d):=⟨by unfold nwH;rw[zqB (by omega)];simp,fun d hd=>by cases hd⟩
theorem qrS{H:Hp}(hB:BndH H.length H)(a b c d:Int):BndH (nwH H a b c d).length (nwH H a b c d):=by
 have hl:(nwH H a b c d).length=H.length+2:=by unfold nwH;simp
 rw[hl];unfold nwH;refine qbc (qby hB (by omega)) (fun X hX y hy=>?_);simp only[List.mem_cons,List.not_mem_nil,or_false]at hX;rcases hX with rfl|rfl
 ·simp at hy;rcases hy with rfl|rfl|rfl|rfl<;>exact .int _ _
 ·exact Prs.bnd (by omega) (fun d hd=>by cases hd) y hy
theorem qjS(a b c d:Int)(hQ1:chkE a b c d=0->BndH (nwH H a b c d).length (nwH H a b c d)->Q (.tup [.ptr (some (H.length+1,0)),.int .i64 0]) (nwH H a b c d))(hQ2:chkE a b c d≠0->Q (.tup [.ptr none,.int .i64 (chkE a b c d)]) H):PC Tryz.prog E 18 [limV a b c d] H Q:=by
 refine qac Tryz.func18 rfl [] [] (by kernel_rfl) (fun hB=>?_);simp[Tryz.ntmps18,Tryz.results18,List.replicate_succ,limV];refine qni E _ a b c d ?_;by_cases h:chkE a b c d=0
 ·have hbn:=qrS hB a b c d;simp[h];refine⟨.tup [.ptr (some (H.length+1,0)),.int .i64 0],_,nwH H a b c d,nwH H a b c d,[],rfl,qaa _,?_,(List.append_nil _).symm,by unfold nwH;simp,hbn,by unfold nwH;simp,hQ1 h hbn⟩;exact qhO H ⟨qbq _,⟨.inl rfl,.inl rfl,.inl rfl,.inl rfl,.inl rfl,.inl rfl,.inl rfl,.inl rfl,.inl rfl,.inl rfl,.inl rfl,.inr ⟨rfl,true,2,rfl⟩,.inl rfl,.inr ⟨rfl,false,2,rfl⟩,.inl rfl,.inl rfl,.inl rfl,.inr ⟨rfl,true,1,rfl⟩,.inl rfl,.inl rfl,.inl rfl,.inl rfl,.inr ⟨rfl,true,1,rfl⟩,.inl rfl,.inl rfl,trivial⟩,trivial⟩
 ·have h':(chkE a b c d==0)=false:=by simpa using h
  have h2:(chkE a b c d !=0)=true:=by simpa using h
  simp[h',h2];exact qab hB rfl (qaa _) (by simp) (hQ2 h)
section
variable {b j:Nat}{p:Prs}
theorem qeD(hp:PB H b j p)(hQ:Q (.int .i64 p.state) H):PC Tryz.prog E 27 [.ptr (some (b,0))] H Q:=by
 have hrow:=hp.row;simp[Prs.av]at hrow;refine qac Tryz.func27 rfl [] [] (by kernel_rfl) (fun hB=>?_);simp[Tryz.ntmps27,Tryz.results27,List.replicate_succ,hrow];exact aQz hB (h6:=hQ)
theorem qfE(hp:PB H b j p)(hQ:Q (.int .i64 p.used) H):PC Tryz.prog E 28 [.ptr (some (b,0))] H Q:=by
 have hrow:=hp.row;simp[Prs.av]at hrow;refine qac Tryz.func28 rfl [] [] (by kernel_rfl) (fun hB=>?_);simp[Tryz.ntmps28,Tryz.results28,List.replicate_succ,hrow];exact aQz hB (h6:=hQ)
theorem qeC(hp:PB H b j p)(hl:p.state=3->fsz p.fields+p.fields.length<=16777216)(hQ:Q (.bool p.waits) H):PC Tryz.prog E 29 [.ptr (some (b,0))] H Q:=by
 have hrow:=hp.row;simp[Prs.av]at hrow;refine qac Tryz.func29 rfl [] [] (by kernel_rfl) (fun hB=>?_);have fin:∀e,p.waits=e->Q (.bool e) H:=fun e h=>h▸hQ;unfold Prs.waits at fin;by_cases h3:p.state=3
 ·cases hb:p.bodied with
  |true=>
   simp[Tryz.ntmps29,Tryz.results29,List.replicate_succ,hrow,h3,hb];exact aQz hB (h6:=(fin _ (by simp[hb])))
  |false=>
   simp[Tryz.ntmps29,Tryz.results29,List.replicate_succ,hrow,h3,hb];refine qnn E _ hp ?_;by_cases ho:p.minor=0
   ·simp[ho];exact aQz hB (h6:=(fin _ (by simp[ho])))
   ·simp[ho];refine qdG E _ hp (hl h3) ?_;simp;exact aQz hB (h6:=(fin _ (by simp[ho,h3,hb])))
 ·have h3':(p.state==3)=false:=by simpa using h3
  simp[Tryz.ntmps29,Tryz.results29,List.replicate_succ,hrow,h3'];exact aQz hB (h6:=(fin _ (by simp[h3])))
theorem qeX(r:Rq)(h1:r.fields.length<=16777216)(h2:r.trailers.length<=16777216)(hQ:Q r.av H):PC Tryz.prog E 37 [r.av] H Q:=by
 refine qac Tryz.func37 rfl [] [] (by kernel_rfl) (fun hB=>?_);have m1:r.fields.length<=maxLen:=by unfold maxLen;omega
 have m2:r.trailers.length<=maxLen:=by unfold maxLen;omega
 have m3:r.fields.length*32<=140737488355328:=by omega
 have m4:r.trailers.length*32<=140737488355328:=by omega
 simp[Tryz.ntmps37,Tryz.results37,List.replicate_succ,Rq.av,Rq.avs,m1,m2,m3,m4];exact qab hB (v0:=r.av) (by simp[Rq.av,Rq.avs]) (qaa _) (by simp[Rq.av,Rq.avs,qcm]) hQ
theorem qfG(hp:PB H b j p)(h0:p.state≠5->p.fields.length<=16777216/\p.trailers.length<=16777216)(hQ:Q (.tup [(Rq.if (decide (p.state=3)||decide (p.state=4)) p.rqH).av,.bool (decide (p.state=3)||decide (p.state=4))]) H):PC Tryz.prog E 26 [.ptr (some (b,0))] H Q:=by
 refine PC.nilD ?_;have hrow:=hp.row;have hlt:=hp.lt;simp[Prs.av]at hrow;refine qac Tryz.func26 rfl [] [] (by kernel_rfl) (fun hB=>?_);by_cases h34:p.state=3\/p.state=4
 ·have hd:(decide (p.state=3)||decide (p.state=4))=true:=by simpa using h34
  have e:Rq.if true p.rqH=p.rqH:=rfl;rw[hd,e]at hQ
  have done:∀fr:List AV,aget fr 2= .ptr (some (H.length,0))->aget fr 3= .bool true->qbO Tryz.prog [ResultVar.cell 2 26,ResultVar.tmp 3] H.length (fun v H'=>∃v',NilD v v'/\Q v' H') .ret fr (H++[[.str p.meth,.str p.targ,.int .i64 p.major,.int .i64 p.minor,.sl false 2 (flds p.fields),.str [],.nil],[.str p.meth,.str p.targ,.int .i64 p.major,.int .i64 p.minor,.sl false 2 (flds p.fields),.str [],.nil]]):=fun fr e2 e3=>
   qab hB (v0:= .tup [.agg [.str p.meth,.str p.targ,.int .i64 p.major,.int .i64 p.minor,.sl false 2 (flds p.fields),.str [],.nil],.bool true]) (v:= .tup [.agg [.str p.meth,.str p.targ,.int .i64 p.major,.int .i64 p.minor,.sl false 2 (flds p.fields),.str [],.nil],.bool true]) (by simp[e2,e3]) (qaa _) (by simp[qcm]) ⟨.tup [p.rqH.av,.bool true],qdZ (m:=[p.rqH.av,.bool true]) ⟨qa7 (Rq.nilT p.meth p.targ [] p.major p.minor p.fields),.same _,trivial⟩,hQ⟩
  obtain⟨h1,h2⟩:=h0 (by rcases h34 with h|h<;>omega);rcases h34 with h3|h4
  ·simp[Tryz.ntmps26,Tryz.results26,List.replicate_succ,hrow,hs0 hlt,h3];refine qeX E _ p.rq h1 h2 ?_;simp[Rq.av,Rq.avs];exact done _ rfl rfl
  ·simp[Tryz.ntmps26,Tryz.results26,List.replicate_succ,hrow,hs0 hlt,h4];refine qeX E _ p.rq h1 h2 ?_;simp[Rq.av,Rq.avs];exact done _ rfl rfl
 ·have h3:(p.state==3)=false:=by simpa using fun e=>h34 (.inl e)
  have h4:(p.state==4)=false:=by simpa using fun e=>h34 (.inr e)
  have h3':(p.state !=3)=true:=by simpa using h3
  have h4':(p.state !=4)=true:=by simpa using h4
  have hd:(decide (p.state=3)||decide (p.state=4))=false:=by simpa using h34
  have e:Rq.if false p.rqH= .zero:=rfl;rw[hd,e]at hQ;simp[Tryz.ntmps26,Tryz.results26,List.replicate_succ,hrow,hs0 hlt,h3,h3',h4,h4'];exact qab hB (v0:= .tup [.agg [.str [],.str [],.int .i64 0,.int .i64 0,.nil,.str [],.nil],.bool false]) (v:= .tup [.agg [.str [],.str [],.int .i64 0,.int .i64 0,.nil,.str [],.nil],.bool false]) (by simp) (qaa _) (by simp) ⟨.tup [Rq.zero.av,.bool false],qdZ (m:=[Rq.zero.av,.bool false]) ⟨qa7 (Rq.nil [] [] [] 0 0),.same _,trivial⟩,hQ⟩
theorem qdj(hp:PB H b j p)(h0:p.state≠5->p.fields.length<=16777216/\p.trailers.length<=16777216)(hQ:Q (.tup [(Rq.if (decide (p.state=4)) p.rq).av,.bool (decide (p.state=4))]) H):PC Tryz.prog E 24 [.ptr (some (b,0))] H Q:=by
 refine PC.nilD ?_;have hrow:=hp.row;have hlt:=hp.lt;simp[Prs.av]at hrow;refine qac Tryz.func24 rfl [] [] (by kernel_rfl) (fun hB=>?_);by_cases h4:p.state=4
 ·obtain⟨h1,h2⟩:=h0 (by omega);have e:Rq.if (decide (p.state=4)) p.rq=p.rq:=by unfold Rq.if;rw[if_pos (by simpa using h4)]
  rw[e]at hQ;have hd:decide (p.state=4)=true:=by simpa using h4
  rw[hd]at hQ;simp[Tryz.ntmps24,Tryz.results24,List.replicate_succ,hrow,hs0 hlt,h4];refine qeX E _ p.rq h1 h2 ?_;simp[Rq.av,Rq.avs];exact qab hB (v0:= .tup [p.rq.av,.bool true]) (v:= .tup [p.rq.av,.bool true]) (by simp[Rq.av,Rq.avs]) (qaa _) (by simp[Rq.av,Rq.avs,qcm]) ⟨_,.same _,hQ⟩
 ·have h4':(p.state==4)=false:=by simpa using h4
  have h4'':(p.state !=4)=true:=by simpa using h4
  have e:Rq.if (decide (p.state=4)) p.rq= .zero:=by unfold Rq.if;rw[if_neg (by simpa using h4)]
  rw[e]at hQ;simp[Tryz.ntmps24,Tryz.results24,List.replicate_succ,hrow,hs0 hlt,h4',h4''];exact qab hB (v0:= .tup [.agg [.str [],.str [],.int .i64 0,.int .i64 0,.nil,.str [],.nil],.bool false]) (v:= .tup [.agg [.str [],.str [],.int .i64 0,.int .i64 0,.nil,.str [],.nil],.bool false]) (by simp) (qaa _) (by simp) ⟨.tup [Rq.zero.av,.bool false],qdZ (m:=[Rq.zero.av,.bool false]) ⟨qa7 (Rq.nil [] [] [] 0 0),.same _,trivial⟩,by simpa[h4]using hQ⟩
theorem qeE(hp:PB H b j p)(hQ:Q (.tup [fltV p,.bool (decide (p.state=5))]) H):PC Tryz.prog E 25 [.ptr (some (b,0))] H Q:=by
 have hrow:=hp.row;have hlt:=hp.lt;simp[Prs.av]at hrow;refine qac Tryz.func25 rfl [] [] (by kernel_rfl) (fun hB=>?_);unfold fltV at hQ;by_cases h5:p.state=5
 ·rw[if_pos h5]at hQ;simp[Tryz.ntmps25,Tryz.results25,List.replicate_succ,hrow,hs0 hlt,h5];exact qab hB (v0:= .tup [.agg [.int .i64 p.fst_,.int .i64 p.ferr,.int .i64 p.fat],.bool true]) (v:= .tup [.agg [.int .i64 p.fst_,.int .i64 p.ferr,.int .i64 p.fat],.bool true]) (by simp) (qaa _) (by simp) (by simpa[h5]using hQ)
 ·have h5':(p.state==5)=false:=by simpa using h5
  have h5'':(p.state !=5)=true:=by simpa using h5
  rw[if_neg h5]at hQ;simp[Tryz.ntmps25,Tryz.results25,List.replicate_succ,hrow,hs0 hlt,h5',h5''];exact qab hB (v0:= .tup [.agg [.int .i64 0,.int .i64 0,.int .i64 0],.bool false]) (v:= .tup [.agg [.int .i64 0,.int .i64 0,.int .i64 0],.bool false]) (by simp) (qaa _) (by simp) (by simpa[h5]using hQ)
end
end
section
variable (E:Env){H:Hp}(Q:AV->Hp->Prop)
def qhV(p:Prs):Int:=if p.state=4 then 1 else if p.state=5 then 2 else 0
def qrf(a b c d:Int)(s:List UInt8):AV:=if chkE a b c d=0 then
  .tup [(Rq.if (decide ((qan (newP a b c d) s).1.state=4)) (qan (newP a b c d) s).1.rq).av,.int .i64 (qan (newP a b c d) s).2,fltV (qan (newP a b c d) s).1,.int .i64 (qhV (qan (newP a b c d) s).1)]
 else .tup [Rq.zero.av,.int .i64 0,.agg [.int .i64 0,.int .i64 (chkE a b c d),.int .i64 0],.int .i64 2]
theorem qon{a b c d:Int}(h:chkE a b c d=0):(1<=a/\a<=65536)/\(2<=b/\b<=1048576)/\(0<=c/\c<=100)/\(0<=d/\d<=1073741824):=by
 unfold chkE at h;split at h
 ·assumption
 ·cases h
theorem qeJ{a b c d:Int}(h:chkE a b c d=0):fitP 0 (newP a b c d):=by
 obtain⟨h1,h2,h3,h4⟩:=qon h;exact qpH h1 h2 h3 h4
theorem qkc{a b c d:Int}(h:chkE a b c d=0)(s:List UInt8)(hs:s.length<=4194304)(h5:(qan (newP a b c d) s).1.state≠5):fsz (qan (newP a b c d) s).1.fields+(qan (newP a b c d) s).1.fields.length<=4194304/\(qan (newP a b c d) s).1.trailers.length<=4194304:=by
 have hf:=qja s (newP a b c d) 0 (qeJ h) h5;have:=hf.a;have:=hf.tr;have:=qeS (newP a b c d) s;omega
theorem qdX{P:Program}{rs:List ResultVar}{Q:AV->Hp->Prop}{fr:List AV}{H K:Hp}{v0 v:AV}(hB:BndH H.length H)(hle:H.length<=K.length)(hk:∀i,i<H.length->K[i]? =H[i]?)(h1:ares P fr K rs=some v0)(h2:nilV v0 v)(h5:Bnd H.length v)(h6:Q v H):qbO P rs H.length Q .ret fr K:=by
 obtain⟨J,rfl⟩:=qrN hle hk;exact qab hB h1 h2 h5 h6
theorem qnd(hE:PE E)(a b c d:Int)(s:List UInt8)(hs:s.length<=4194304)(hQ:Q (qrf a b c d s) H):PC Tryz.prog E 12 [limV a b c d,.str s] H Q:=by
 refine PC.nilD ?_;refine qga (fun i=>i=H.length+4) Tryz.func12 rfl [] [(9,[0,0,0,0,0,2,2])] (by kernel_rfl) (fun E' hS' h0' hF' hB=>?_);have hE':=hE.env h0' hF';unfold qrf at hQ;simp[Tryz.ntmps12,Tryz.results12,List.replicate_succ,limV];refine qjS E' _ a b c d (fun h0 hBn=>?_) (fun h0=>?_)
 ·rw[if_pos h0]at hQ;simp;obtain⟨H3,hH3⟩:∃H3:Hp,H++[[AV.int .i64 a,AV.int .i64 b,AV.int .i64 c,AV.int .i64 d],[AV.str [],AV.str [],AV.int .i64 0,AV.int .i64 0,AV.nil,AV.str [],AV.nil],[AV.int .i64 0,AV.int .i64 0,AV.int .i64 0]]=H3:=⟨_,rfl⟩
  have hl3:H3.length=H.length+3:=by rw[<-hH3];simp
  have hpb:=qqU H3 a b c d;rw[hH3];rw[show H3.length+1=H.length+4 by omega]at hpb;have hfl:=qeS (newP a b c d) s;refine qhK E' _ hpb (fun _=>qeJ h0) (fun E2 h02 hF2=>qn2 E2 (hE'.env h02 hF2)) s (by omega) (by omega) (fun j1 K1 hp1 hj1 ho1 hB1=>?_);have hfit:=qkc h0 s hs;obtain⟨P,hP⟩:=exz ((qan (newP a b c d) s).1);obtain⟨N,hN⟩:=exz ((qan (newP a b c d) s).2);rw[hP]at hp1 hfit;rw[hP,hN]at hQ;rw[hN];have hlen:H.length+5<=K1.length:=by have:=ho1.1;unfold nwH at this;simp at this;omega
  have hold:∀i,i<H.length+3->K1[i]? =H3[i]? :=fun i hi=>by
   rw[ho1.2 i (by unfold nwH;simp;omega) (by omega) (fun h=>by cases h)];unfold nwH;rw[zqA (by omega)]
  have k1:K1[H.length+1]? =some [AV.str [],AV.str [],AV.int .i64 0,AV.int .i64 0,AV.nil,AV.str [],AV.nil]:=by rw[hold _ (by omega),<-hH3,zqB (by omega)];simp
  have k2:K1[H.length+2]? =some [AV.int .i64 0,AV.int .i64 0,AV.int .i64 0]:=by rw[hold _ (by omega),<-hH3,zqB (by omega)];simp
  have kH:∀i,i<H.length->K1[i]? =H[i]? :=fun i hi=>by rw[hold i (by omega),<-hH3,zqA hi]
  have hrow:=hp1.row;simp[Prs.av]at hrow;have e1:H.length+1<K1.length:=by omega
  have e2:H.length+2<K1.length:=by omega
  have u1:∀x,(K1.set (H.length+1) x)[H.length+2]? =some [AV.int .i64 0,AV.int .i64 0,AV.int .i64 0]:=fun x=>by rw[zqF (by omega)];exact k2
  have u2:∀x,(K1.set (H.length+1) x)[H.length+4]? =K1[H.length+4]? :=fun x=>zqF (by omega);have u3:∀x y,((K1.set (H.length+1) x).set (H.length+2) y)[H.length+1]? =some x:=fun x y=>by rw[zqF (by omega),zqO e1]
  have u4:∀x y,((K1.set (H.length+1) x).set (H.length+2) y)[H.length+2]? =some y:=fun x y=>zqO (by simpa using e2);have kK:∀x y i,i<H.length->((K1.set (H.length+1) x).set (H.length+2) y)[i]? =H[i]? :=fun x y i hi=>by rw[zqF (by omega),zqF (by omega)];exact kH i hi
  by_cases h4:P.state=4
  ·have hk:qhV P=1:=by unfold qhV;rw[if_pos h4]
   have hd:decide (P.state=4)=true:=by simpa using h4
   have hf5:P.state≠5:=by omega
   have hfv:fltV P= .agg [.int .i64 0,.int .i64 0,.int .i64 0]:=by unfold fltV;rw[if_neg hf5]
   have hrq:Rq.if true P.rq=P.rq:=rfl;rw[hk,hd,hfv,hrq]at hQ;have:=hfit hf5;simp[qaj,KP,hrow,h4];refine qeX E' _ P.rq (by show P.fields.length<=_;omega) (by show P.trailers.length<=_;omega) ?_;simp[Rq.av,Rq.avs,k1,k2,u1,u2,u3,u4];exact qdX hB (v0:= .tup [P.rq.av,.int .i64 N,.agg [.int .i64 0,.int .i64 0,.int .i64 0],.int .i64 1]) (v:= .tup [P.rq.av,.int .i64 N,.agg [.int .i64 0,.int .i64 0,.int .i64 0],.int .i64 1]) (by simp;omega) (kK _ _) (by simp[Rq.av,Rq.avs,u3,u4]) (qaa _) (by simp[Rq.av,Rq.avs,qcm]) ⟨_,.same _,hQ⟩
  ·have hd:decide (P.state=4)=false:=by simpa using h4
   have h4':(P.state==4)=false:=by simpa using h4
   have hrq:Rq.if false P.rq= .zero:=rfl;rw[hd,hrq]at hQ;by_cases h5:P.state=5
   ·have hk:qhV P=2:=by unfold qhV;rw[if_neg h4,if_pos h5]
    have hfv:fltV P= .agg [.int .i64 P.fst_,.int .i64 P.ferr,.int .i64 P.fat]:=by unfold fltV;rw[if_pos h5]
    rw[hk,hfv]at hQ;simp[qaj,KP,hrow,h5,hS',k1,k2,u1,u2,u3,u4]
    exact qdX hB (v0:= .tup [.agg [.str [],.str [],.int .i64 0,.int .i64 0,.nil,.str [],.nil],.int .i64 N,.agg [.int .i64 P.fst_,.int .i64 P.ferr,.int .i64 P.fat],.int .i64 2]) (v:= .tup [.agg [.str [],.str [],.int .i64 0,.int .i64 0,.nil,.str [],.nil],.int .i64 N,.agg [.int .i64 P.fst_,.int .i64 P.ferr,.int .i64 P.fat],.int .i64 2]) (by simp;omega) (kK _ _) (by simp[u3,u4]) (qaa _) (by simp)
     ⟨.tup [Rq.zero.av,.int .i64 N,.agg [.int .i64 P.fst_,.int .i64 P.ferr,.int .i64 P.fat],.int .i64 2],qdZ (m:=[Rq.zero.av,.int .i64 N,.agg [.int .i64 P.fst_,.int .i64 P.ferr,.int .i64 P.fat],.int .i64 2]) ⟨qa7 (Rq.nil [] [] [] 0 0),.same _,.same _,.same _,trivial⟩,hQ⟩
   ·have hk:qhV P=0:=by unfold qhV;rw[if_neg h4,if_neg h5]
    have hfv:fltV P= .agg [.int .i64 0,.int .i64 0,.int .i64 0]:=by unfold fltV;rw[if_neg h5]
    have h5':(P.state==5)=false:=by simpa using h5
    rw[hk,hfv]at hQ;simp[qaj,KP,hrow,h4',h5',k1,k2,u1,u2,u3,u4]
    exact qdX hB (v0:= .tup [.agg [.str [],.str [],.int .i64 0,.int .i64 0,.nil,.str [],.nil],.int .i64 N,.agg [.int .i64 0,.int .i64 0,.int .i64 0],.int .i64 0]) (v:= .tup [.agg [.str [],.str [],.int .i64 0,.int .i64 0,.nil,.str [],.nil],.int .i64 N,.agg [.int .i64 0,.int .i64 0,.int .i64 0],.int .i64 0]) (by simp;omega) (kK _ _) (by simp[u3,u4]) (qaa _) (by simp)
     ⟨.tup [Rq.zero.av,.int .i64 N,.agg [.int .i64 0,.int .i64 0,.int .i64 0],.int .i64 0],qdZ (m:=[Rq.zero.av,.int .i64 N,.agg [.int .i64 0,.int .i64 0,.int .i64 0],.int .i64 0]) ⟨qa7 (Rq.nil [] [] [] 0 0),.same _,.same _,.same _,trivial⟩,hQ⟩
 ·rw[if_neg h0]at hQ;have h':(chkE a b c d==0)=false:=by simpa using h0
  have h2:(chkE a b c d !=0)=true:=by simpa using h0
  simp[h',h2]
  exact qab hB (v0:= .tup [.agg [.str [],.str [],.int .i64 0,.int .i64 0,.nil,.str [],.nil],.int .i64 0,.agg [.int .i64 0,.int .i64 (chkE a b c d),.int .i64 0],.int .i64 2]) (v:= .tup [.agg [.str [],.str [],.int .i64 0,.int .i64 0,.nil,.str [],.nil],.int .i64 0,.agg [.int .i64 0,.int .i64 (chkE a b c d),.int .i64 0],.int .i64 2]) (by simp) (qaa _) (by simp)
   ⟨.tup [Rq.zero.av,.int .i64 0,.agg [.int .i64 0,.int .i64 (chkE a b c d),.int .i64 0],.int .i64 2],qdZ (m:=[Rq.zero.av,.int .i64 0,.agg [.int .i64 0,.int .i64 (chkE a b c d),.int .i64 0],.int .i64 2]) ⟨qa7 (Rq.nil [] [] [] 0 0),.same _,.same _,.same _,trivial⟩,hQ⟩
end
end Go.Proofs.YtnnhdehmlkkfjaaGreatDoor
set_option linter.unnecessarySimpa false
namespace Go.Proofs.YtnnhdehmlkkfjaaGreatDoor
open Go Go.RowKit Go.Proofs
section
variable (E:Env)(H:Hp)(Q:AV->Hp->Prop)
end
@[simp] theorem qqW (l:List Int):(ints l).length=l.length:=by simp[ints]
section
variable (E:Env)(H:Hp)(Q:AV->Hp->Prop)
end
end Go.Proofs.YtnnhdehmlkkfjaaGreatDoor
namespace Go.Proofs.YtnnhdehmlkkfjaaGreatDoor
open Go Go.RowKit Go.Proofs Go.Deep
@[simp] theorem abin_sleql (P:Program) (t:TypeId) (o:Bool) (k:Nat) (r:List AV) (rs:List (List AV)):abin P .eql t (.sl o k (r::rs)) .nil=if(tsl P t).isSome then some (.bool false)else none:=rfl
@[simp] theorem abin_slneq (P:Program) (t:TypeId) (o:Bool) (k:Nat) (r:List AV) (rs:List (List AV)):abin P .neq t (.sl o k (r::rs)) .nil=if(tsl P t).isSome then some (.bool true)else none:=rfl
@[simp] theorem abin_bxeql (P:Program) (t:TypeId) (i o n c k:Nat):abin P .eql t (.bx i o n c k) .nil=if(tsl P t).isSome then some (.bool false)else none:=rfl
@[simp] theorem abin_bxneq (P:Program) (t:TypeId) (i o n c k:Nat):abin P .neq t (.bx i o n c k) .nil=if(tsl P t).isSome then some (.bool true)else none:=rfl
section
variable (E:Env)(H:Hp)(Q:AV->Hp->Prop)
variable (i:Nat)(d:Dec)(hd:H[i]? =some d.av)
include hd
end
section
variable (E:Env)(H:Hp)(Q:AV->Hp->Prop)
end
section
variable (E:Env)(H:Hp)(Q:AV->Hp->Prop)
end
end Go.Proofs.YtnnhdehmlkkfjaaGreatDoor
namespace Go.Proofs.YtnnhdehmlkkfjaaGreatDoor
open Go Go.RowKit Go.Proofs
section
variable {K:Hp}{c:Nat}(h:c<K.length)
include h
end
theorem qeQ:∀l:List Fld,(flds l).flatten.length=l.length*2
 |[]=>rfl
 |g::l=>by
  have e:(flds (g::l)).flatten= .str g.name:: .str g.value::(flds l).flatten:=rfl;rw[e];simp only[zqL,qeQ l];omega
section
variable {K:Hp}{N:Nat}{v:AV}{l:List Fld}
end
end Go.Proofs.YtnnhdehmlkkfjaaGreatDoor
namespace Go.Proofs.YtnnhdehmlkkfjaaGreatDoor
open Go Go.RowKit
def difP(v t:AV):Prop:=∀i o n c k i' o' n' c' k',v= .bx i o n c k->t= .bx i' o' n' c' k'->i≠i'
def T2:Nat->AV->Prop:=fun _ _=>True
def LB(K:Hp)(N:Nat)(v:AV)(n:Nat):Prop:=BX K (fun i=>N<=i) 2 v n T2
theorem fcl(l:List Fld){c:Nat}(h:l.length<=c):((flds l).flatten++(List.replicate (c-l.length) [AV.str [],AV.str []]).flatten).length=c*2/\∀y∈(flds l).flatten++(List.replicate (c-l.length) [AV.str [],AV.str []]).flatten,smp y:=by
 constructor
 ·rw[zqK,qeQ,qdS (k:=2) (fun q hq=>by rw[(List.mem_replicate.1 hq).2];rfl),List.length_replicate];omega
 ·intro y hy;rcases List.mem_append.1 hy with hy|hy
  ·obtain⟨r,hr,hyr⟩:=List.mem_flatten.1 hy;obtain⟨f,_,rfl⟩:=List.mem_map.1 hr;simp at hyr;rcases hyr with rfl|rfl<;>exact qmW _
  ·obtain⟨r,hr,hyr⟩:=List.mem_flatten.1 hy;rw[(List.mem_replicate.1 hr).2]at hyr;simp at hyr;subst hyr;exact qmW _
theorem LB.mk'{K:Hp}{N i c:Nat}{l:List Fld}(hi:N<=i)(hK:K[i]? =some ((flds l).flatten++(List.replicate (c-l.length) [AV.str [],AV.str []]).flatten))(hl:l.length<=c)(hc:c<=maxLen):LB K N (.bx i 0 l.length c 2) l.length:=
 .inr ⟨i,c,_,hi,rfl,hK,(fcl l hl).1,hl,hc,(fcl l hl).2,fun _ _ _ _=>trivial⟩
theorem LB.nil{K:Hp}{N:Nat}:LB K N .nil 0:= .inl ⟨rfl,rfl⟩
theorem LB.up{K:Hp}{N M n:Nat}{v:AV}(h:LB K N v n)(hM:M<=N):LB K M v n:=BX.of_eq h (fun _ _ _ _ _ _=>rfl) (fun i o m c k e=>Nat.le_trans hM (BX.lt h i o m c k e).1) (fun _ _ _ _ h=>h)
theorem LB.keep{K K':Hp}{N n:Nat}{v:AV}(h:LB K N v n)(hk:∀i,N<=i->i<K.length->K'[i]? =K[i]?):LB K' N v n:=BX.of_eq h (fun i o m c k e=>hk i (BX.lt h i o m c k e).1 (BX.lt h i o m c k e).2) (fun i o m c k e=>(BX.lt h i o m c k e).1) (fun _ _ _ _ h=>h)
theorem qh2(l:List Fld)(n N:Nat):∀y∈(flds l).flatten++(List.replicate n [AV.str [],AV.str []]).flatten,Bnd N y:=fun y hy=>by
 have h:=(fcl l (c:=l.length+n) (by omega)).2 y (by rw[show l.length+n-l.length=n by omega];exact hy);exact h.bnd N
def rqV(r:Rq)(v t:AV):List AV:=[.str r.meth,.str r.targ,.int .i64 r.major,.int .i64 r.minor,v,.str r.body,t]
section
variable (E:Env){H:Hp}(Q:AV->Hp->Prop)
theorem qeY(r:Rq)(h1:r.fields.length<=16777216)(h2:r.trailers.length<=16777216)
  (hQ:∀(v t:AV) (K:Hp),H.length<=K.length->(∀i,i<H.length->K[i]? =H[i]?)->LB K H.length v r.fields.length->LB K H.length t r.trailers.length->difP v t->BndH K.length K->Q (.agg (rqV r v t)) K):
  PC Tryz.prog E 37 [r.av] H Q:=by
 refine qac Tryz.func37 rfl [] [(1,[0,0,3,0,0]),(2,[0,0,3,0,0])] (by kernel_rfl) (fun hB=>?_);have m1:r.fields.length<=maxLen:=by unfold maxLen;omega
 have m2:r.trailers.length<=maxLen:=by unfold maxLen;omega
 have m3:r.fields.length*32<=140737488355328:=by omega
 have m4:r.trailers.length*32<=140737488355328:=by omega
 have hbd:∀(v t:AV) (J:Hp),Bnd (H.length+2+J.length) v->Bnd (H.length+2+J.length) t->(∀l∈J,∀x∈l,Bnd (H.length+2+J.length) x)->BndH (H++([rqV r v t,rqV r v t]++J)).length (H++([rqV r v t,rqV r v t]++J)):=fun v t J hv ht hJ=>by
  have e:(H++([rqV r v t,rqV r v t]++J)).length=H.length+2+J.length:=by simp;omega
  rw[e];refine qbc (qby hB (by omega)) fun l hl x hx=>?_;rcases List.mem_append.1 hl with hl|hl
  ·have hl':l=rqV r v t:=by simpa using hl
   subst hl';simp only[rqV,List.mem_cons,List.not_mem_nil,or_false]at hx;rcases hx with rfl|rfl|rfl|rfl|rfl|rfl|rfl<;>first|exact hv|exact ht|constructor
  ·exact hJ l hl x hx
 by_cases hf:r.fields=[]
 ·by_cases ht:r.trailers=[]
  ·have l1:(flds r.fields).length=r.fields.length:=by simp[flds]
   have l2:(flds r.trailers).length=r.trailers.length:=by simp[flds]
   have e1:flds r.fields=[]:=by rw[hf];rfl
   have e2:flds r.trailers=[]:=by rw[ht];rfl
   simp[Tryz.ntmps37,Tryz.results37,List.replicate_succ,Rq.av,Rq.avs,e1,e2,l1,l2,m1,m2,m3,m4];have hb1:=hbd .nil .nil [] .nil .nil (by simp);have hq:=hQ .nil .nil (H++([rqV r .nil .nil,rqV r .nil .nil]++[])) (by simp) (fun i hi=>zqA hi) (by rw[hf];exact .nil) (by rw[ht];exact .nil) (fun i o n c k i2 o2 n2 c2 k2 ea eb=>by cases ea) hb1;simp[rqV]at hq hb1;exact qaF (v:= .agg (rqV r .nil .nil)) (by simp[rqV]) (by simp) (by simpa using hb1) (by simp[rqV];try omega) (by simpa[rqV]using hq)
  ·have l1:(flds r.fields).length=r.fields.length:=by simp[flds]
   have l2:(flds r.trailers).length=r.trailers.length:=by simp[flds]
   have e1:flds r.fields=[]:=by rw[hf];rfl
   have n2:1<=r.trailers.length:=by cases h:r.trailers with|nil=>exact absurd h ht|cons=>simp
   have e2:¬r.trailers.length=0:=by omega
   simp[Tryz.ntmps37,Tryz.results37,List.replicate_succ,Rq.av,Rq.avs,e1,e2,l1,l2,m1,m2,m3,m4];refine qbA fun ct hd1 hd2=>?_;simp;have hb1:=hbd .nil (.bx (H.length+2) 0 r.trailers.length ct 2) [((flds r.trailers).flatten++(List.replicate (ct-r.trailers.length) [AV.str [],AV.str []]).flatten)] .nil (.bx _ _ _ _ _ (by simp;try omega)) (fun l hl x hx=>by simp only[List.mem_cons,List.not_mem_nil,or_false]at hl;subst hl;exact qh2 _ _ _ x hx);have hq:=hQ .nil (.bx (H.length+2) 0 r.trailers.length ct 2) (H++([rqV r .nil (.bx (H.length+2) 0 r.trailers.length ct 2),rqV r .nil (.bx (H.length+2) 0 r.trailers.length ct 2)]++[((flds r.trailers).flatten++(List.replicate (ct-r.trailers.length) [AV.str [],AV.str []]).flatten)])) (by simp) (fun i hi=>zqA hi) (by rw[hf];exact .nil) (LB.mk' (by omega) (by simp) hd1 hd2) (fun i o n c k i2 o2 n2 c2 k2 ea eb=>by cases ea) hb1;simp[rqV]at hq hb1;exact qaF (v:= .agg (rqV r .nil (.bx (H.length+2) 0 r.trailers.length ct 2))) (by simp[rqV]) (by simp) (by simpa using hb1) (by simp[rqV];try omega) (by simpa[rqV]using hq)
 ·have n1:1<=r.fields.length:=by cases h:r.fields with|nil=>exact absurd h hf|cons=>simp
  by_cases ht:r.trailers=[]
  ·have l1:(flds r.fields).length=r.fields.length:=by simp[flds]
   have l2:(flds r.trailers).length=r.trailers.length:=by simp[flds]
   have e1:¬r.fields.length=0:=by omega
   have e2:flds r.trailers=[]:=by rw[ht];rfl
   simp[Tryz.ntmps37,Tryz.results37,List.replicate_succ,Rq.av,Rq.avs,e1,e2,l1,l2,m1,m2,m3,m4];refine qbA fun cf hc1 hc2=>?_;simp[Rq.av,Rq.avs,e1,e2,l1,l2,m1,m2,m3,m4];have hb1:=hbd (.bx (H.length+2) 0 r.fields.length cf 2) .nil [((flds r.fields).flatten++(List.replicate (cf-r.fields.length) [AV.str [],AV.str []]).flatten)] (.bx _ _ _ _ _ (by simp;try omega)) .nil (fun l hl x hx=>by simp only[List.mem_cons,List.not_mem_nil,or_false]at hl;subst hl;exact qh2 _ _ _ x hx);have hq:=hQ (.bx (H.length+2) 0 r.fields.length cf 2) .nil (H++([rqV r (.bx (H.length+2) 0 r.fields.length cf 2) .nil,rqV r (.bx (H.length+2) 0 r.fields.length cf 2) .nil]++[((flds r.fields).flatten++(List.replicate (cf-r.fields.length) [AV.str [],AV.str []]).flatten)])) (by simp) (fun i hi=>zqA hi) (LB.mk' (by omega) (by simp) hc1 hc2) (by rw[ht];exact .nil) (fun i o n c k i2 o2 n2 c2 k2 ea eb=>by cases eb) hb1;simp[rqV]at hq hb1;exact qaF (v:= .agg (rqV r (.bx (H.length+2) 0 r.fields.length cf 2) .nil)) (by simp[rqV]) (by simp) (by simpa using hb1) (by simp[rqV];try omega) (by simpa[rqV]using hq)
  ·have l1:(flds r.fields).length=r.fields.length:=by simp[flds]
   have l2:(flds r.trailers).length=r.trailers.length:=by simp[flds]
   have e1:¬r.fields.length=0:=by omega
   have n2:1<=r.trailers.length:=by cases h:r.trailers with|nil=>exact absurd h ht|cons=>simp
   have e2:¬r.trailers.length=0:=by omega
   simp[Tryz.ntmps37,Tryz.results37,List.replicate_succ,Rq.av,Rq.avs,e1,e2,l1,l2,m1,m2,m3,m4];refine qbA fun cf hc1 hc2=>?_;simp[Rq.av,Rq.avs,e1,e2,l1,l2,m1,m2,m3,m4];refine qbA fun ct hd1 hd2=>?_;simp;have hb1:=hbd (.bx (H.length+2) 0 r.fields.length cf 2) (.bx (H.length+3) 0 r.trailers.length ct 2) [((flds r.fields).flatten++(List.replicate (cf-r.fields.length) [AV.str [],AV.str []]).flatten),((flds r.trailers).flatten++(List.replicate (ct-r.trailers.length) [AV.str [],AV.str []]).flatten)] (.bx _ _ _ _ _ (by simp;try omega)) (.bx _ _ _ _ _ (by simp;try omega)) (fun l hl x hx=>by simp only[List.mem_cons,List.not_mem_nil,or_false]at hl;rcases hl with rfl|rfl;exact qh2 _ _ _ x hx;exact qh2 _ _ _ x hx);have hq:=hQ (.bx (H.length+2) 0 r.fields.length cf 2) (.bx (H.length+3) 0 r.trailers.length ct 2) (H++([rqV r (.bx (H.length+2) 0 r.fields.length cf 2) (.bx (H.length+3) 0 r.trailers.length ct 2),rqV r (.bx (H.length+2) 0 r.fields.length cf 2) (.bx (H.length+3) 0 r.trailers.length ct 2)]++[((flds r.fields).flatten++(List.replicate (cf-r.fields.length) [AV.str [],AV.str []]).flatten),((flds r.trailers).flatten++(List.replicate (ct-r.trailers.length) [AV.str [],AV.str []]).flatten)])) (by simp) (fun i hi=>zqA hi) (LB.mk' (by omega) (by simp) hc1 hc2) (LB.mk' (by omega) (by simp) hd1 hd2) (fun i o n c k i2 o2 n2 c2 k2 ea eb=>by cases ea;cases eb;omega) hb1;simp[rqV]at hq hb1;exact qaF (v:= .agg (rqV r (.bx (H.length+2) 0 r.fields.length cf 2) (.bx (H.length+3) 0 r.trailers.length ct 2))) (by simp[rqV]) (by simp) (by simpa using hb1) (by simp[rqV];try omega) (by simpa[rqV]using hq)
variable {b j:Nat}{p:Prs}
theorem qr9(hp:PB H b j p)(h0:p.state≠5->p.fields.length<=16777216/\p.trailers.length<=16777216)
  (hQ:∀(r:Rq) (v:AV) (n:Nat) (h:Bool) (K:Hp),H.length<=K.length->(∀i,i<H.length->K[i]? =H[i]?)->LB K H.length v n->n<=16777216->BndH K.length K->Q (.tup [.agg (rqV r v .nil),.bool h]) K):
  PC Tryz.prog E 26 [.ptr (some (b,0))] H Q:=by
 have hrow:=hp.row;have hlt:=hp.lt;simp[Prs.av]at hrow;refine qac Tryz.func26 rfl [] [] (by kernel_rfl) (fun hB=>?_);by_cases h34:p.state=3\/p.state=4
 ·obtain⟨h1,h2⟩:=h0 (by rcases h34 with h|h<;>omega);rcases h34 with h3|h4
  ·simp[Tryz.ntmps26,Tryz.results26,List.replicate_succ,hrow,hs0 hlt,h3];refine qeY E _ p.rq h1 h2 (fun v t K hl hk hv ht hd hB1=>?_);simp at hl;obtain⟨vf,vo,vd,hv1⟩:=BX.facts hv;obtain⟨tf,to,td,ht1⟩:=BX.facts ht;have k2:K[H.length]? =some [.str [],.str [],.int .i64 0,.int .i64 0,.nil,.str [],.nil]:=by rw[hk _ (by simp)];simp
   have hlt2:H.length<K.length:=by omega
   have kJ:∀J:Hp,(K++J)[H.length]? =some [AV.str [],.str [],.int .i64 0,.int .i64 0,.nil,.str [],.nil]:=fun J=>by rw[zqA hlt2];exact k2
   simp[rqV,qaj,KP,kJ,vf,vo,vd,tf,to,td];have hvb1:Bnd (K.length+1) v:=hv1.mono (by omega)
   have hrw:∀x∈[AV.str p.rq.meth,.str p.rq.targ,.int .i64 p.rq.major,.int .i64 p.rq.minor,v,.str [],.nil],Bnd (K.length+1) x:=fun x hx=>by
    simp only[List.mem_cons,List.not_mem_nil,or_false]at hx;rcases hx with rfl|rfl|rfl|rfl|rfl|rfl|rfl<;>first|exact hvb1|constructor
   have hB2:BndH ((K++[[AV.str p.rq.meth,.str p.rq.targ,.int .i64 p.rq.major,.int .i64 p.rq.minor,v,.str [],.nil]]).set H.length [AV.str p.rq.meth,.str p.rq.targ,.int .i64 p.rq.major,.int .i64 p.rq.minor,v,.str [],.nil]).length ((K++[[AV.str p.rq.meth,.str p.rq.targ,.int .i64 p.rq.major,.int .i64 p.rq.minor,v,.str [],.nil]]).set H.length [AV.str p.rq.meth,.str p.rq.targ,.int .i64 p.rq.major,.int .i64 p.rq.minor,v,.str [],.nil]):=by
    rw[List.length_set];refine qbE (qbc (qby hB1 (by simp)) fun l hl x hx=>?_) _ (by simpa using hrw);simp only[List.mem_cons,List.not_mem_nil,or_false]at hl;subst hl;simpa using hrw x hx
   have hs2:((K++[[AV.str p.rq.meth,.str p.rq.targ,.int .i64 p.rq.major,.int .i64 p.rq.minor,v,.str [],.nil]]).set H.length [AV.str p.rq.meth,.str p.rq.targ,.int .i64 p.rq.major,.int .i64 p.rq.minor,v,.str [],.nil])[H.length]? =some [AV.str p.rq.meth,.str p.rq.targ,.int .i64 p.rq.major,.int .i64 p.rq.minor,v,.str [],.nil]:=zqO (by simp;omega);have hl2:((K++[[AV.str p.rq.meth,.str p.rq.targ,.int .i64 p.rq.major,.int .i64 p.rq.minor,v,.str [],.nil]]).set H.length [AV.str p.rq.meth,.str p.rq.targ,.int .i64 p.rq.major,.int .i64 p.rq.minor,v,.str [],.nil]).length=K.length+1:=by simp
   simp at hv;have hkp:∀i,H.length+1<=i->i<K.length->((K++[[AV.str p.rq.meth,.str p.rq.targ,.int .i64 p.rq.major,.int .i64 p.rq.minor,v,.str [],.nil]]).set H.length [AV.str p.rq.meth,.str p.rq.targ,.int .i64 p.rq.major,.int .i64 p.rq.minor,v,.str [],.nil])[i]? =K[i]? :=fun i h1 h2=>by rw[zqF (by omega),zqA h2]
   have hkq:∀i,i<H.length->((K++[[AV.str p.rq.meth,.str p.rq.targ,.int .i64 p.rq.major,.int .i64 p.rq.minor,v,.str [],.nil]]).set H.length [AV.str p.rq.meth,.str p.rq.targ,.int .i64 p.rq.major,.int .i64 p.rq.minor,v,.str [],.nil])[i]? =H[i]? :=fun i hi=>by rw[zqF (by omega),zqA (by omega),hk i (by simp;omega)];exact zqA hi
   obtain⟨K2,hK2⟩:∃K2:Hp,(K++[[AV.str p.rq.meth,.str p.rq.targ,.int .i64 p.rq.major,.int .i64 p.rq.minor,v,.str [],.nil]]).set H.length [AV.str p.rq.meth,.str p.rq.targ,.int .i64 p.rq.major,.int .i64 p.rq.minor,v,.str [],.nil]=K2:=⟨_,rfl⟩
   rw[hK2]at hB2 hs2 hl2 hkp hkq⊢;exact qaF (v:= .tup [.agg (rqV p.rqH v .nil),.bool true]) (by simp[rqV,Prs.rqH,hs2,vf,vo,vd];simp[Prs.rq]) (by omega) hB2 (by rw[hl2];simp[rqV,hvb1]) (hQ p.rqH v _ true _ (by omega) hkq ((LB.keep hv hkp).up (by omega)) h1 hB2)
  ·simp[Tryz.ntmps26,Tryz.results26,List.replicate_succ,hrow,hs0 hlt,h4];refine qeY E _ p.rq h1 h2 (fun v t K hl hk hv ht hd hB1=>?_);simp at hl;obtain⟨vf,vo,vd,hv1⟩:=BX.facts hv;obtain⟨tf,to,td,ht1⟩:=BX.facts ht;have k2:K[H.length]? =some [.str [],.str [],.int .i64 0,.int .i64 0,.nil,.str [],.nil]:=by rw[hk _ (by simp)];simp
   have hlt2:H.length<K.length:=by omega
   have kJ:∀J:Hp,(K++J)[H.length]? =some [AV.str [],.str [],.int .i64 0,.int .i64 0,.nil,.str [],.nil]:=fun J=>by rw[zqA hlt2];exact k2
   simp[rqV,qaj,KP,kJ,vf,vo,vd,tf,to,td];have hvb1:Bnd (K.length+1) v:=hv1.mono (by omega)
   have hrw:∀x∈[AV.str p.rq.meth,.str p.rq.targ,.int .i64 p.rq.major,.int .i64 p.rq.minor,v,.str [],.nil],Bnd (K.length+1) x:=fun x hx=>by
    simp only[List.mem_cons,List.not_mem_nil,or_false]at hx;rcases hx with rfl|rfl|rfl|rfl|rfl|rfl|rfl<;>first|exact hvb1|constructor
   have hB2:BndH ((K++[[AV.str p.rq.meth,.str p.rq.targ,.int .i64 p.rq.major,.int .i64 p.rq.minor,v,.str [],.nil]]).set H.length [AV.str p.rq.meth,.str p.rq.targ,.int .i64 p.rq.major,.int .i64 p.rq.minor,v,.str [],.nil]).length ((K++[[AV.str p.rq.meth,.str p.rq.targ,.int .i64 p.rq.major,.int .i64 p.rq.minor,v,.str [],.nil]]).set H.length [AV.str p.rq.meth,.str p.rq.targ,.int .i64 p.rq.major,.int .i64 p.rq.minor,v,.str [],.nil]):=by
    rw[List.length_set];refine qbE (qbc (qby hB1 (by simp)) fun l hl x hx=>?_) _ (by simpa using hrw);simp only[List.mem_cons,List.not_mem_nil,or_false]at hl;subst hl;simpa using hrw x hx
   have hs2:((K++[[AV.str p.rq.meth,.str p.rq.targ,.int .i64 p.rq.major,.int .i64 p.rq.minor,v,.str [],.nil]]).set H.length [AV.str p.rq.meth,.str p.rq.targ,.int .i64 p.rq.major,.int .i64 p.rq.minor,v,.str [],.nil])[H.length]? =some [AV.str p.rq.meth,.str p.rq.targ,.int .i64 p.rq.major,.int .i64 p.rq.minor,v,.str [],.nil]:=zqO (by simp;omega);have hl2:((K++[[AV.str p.rq.meth,.str p.rq.targ,.int .i64 p.rq.major,.int .i64 p.rq.minor,v,.str [],.nil]]).set H.length [AV.str p.rq.meth,.str p.rq.targ,.int .i64 p.rq.major,.int .i64 p.rq.minor,v,.str [],.nil]).length=K.length+1:=by simp
   simp at hv;have hkp:∀i,H.length+1<=i->i<K.length->((K++[[AV.str p.rq.meth,.str p.rq.targ,.int .i64 p.rq.major,.int .i64 p.rq.minor,v,.str [],.nil]]).set H.length [AV.str p.rq.meth,.str p.rq.targ,.int .i64 p.rq.major,.int .i64 p.rq.minor,v,.str [],.nil])[i]? =K[i]? :=fun i h1 h2=>by rw[zqF (by omega),zqA h2]
   have hkq:∀i,i<H.length->((K++[[AV.str p.rq.meth,.str p.rq.targ,.int .i64 p.rq.major,.int .i64 p.rq.minor,v,.str [],.nil]]).set H.length [AV.str p.rq.meth,.str p.rq.targ,.int .i64 p.rq.major,.int .i64 p.rq.minor,v,.str [],.nil])[i]? =H[i]? :=fun i hi=>by rw[zqF (by omega),zqA (by omega),hk i (by simp;omega)];exact zqA hi
   obtain⟨K2,hK2⟩:∃K2:Hp,(K++[[AV.str p.rq.meth,.str p.rq.targ,.int .i64 p.rq.major,.int .i64 p.rq.minor,v,.str [],.nil]]).set H.length [AV.str p.rq.meth,.str p.rq.targ,.int .i64 p.rq.major,.int .i64 p.rq.minor,v,.str [],.nil]=K2:=⟨_,rfl⟩
   rw[hK2]at hB2 hs2 hl2 hkp hkq⊢;exact qaF (v:= .tup [.agg (rqV p.rqH v .nil),.bool true]) (by simp[rqV,Prs.rqH,hs2,vf,vo,vd];simp[Prs.rq]) (by omega) hB2 (by rw[hl2];simp[rqV,hvb1]) (hQ p.rqH v _ true _ (by omega) hkq ((LB.keep hv hkp).up (by omega)) h1 hB2)
 ·have h3:(p.state==3)=false:=by simpa using fun e=>h34 (.inl e)
  have h4:(p.state==4)=false:=by simpa using fun e=>h34 (.inr e)
  have h3':(p.state !=3)=true:=by simpa using h3
  have h4':(p.state !=4)=true:=by simpa using h4
  simp[Tryz.ntmps26,Tryz.results26,List.replicate_succ,hrow,hs0 hlt,h3,h3',h4,h4'];have hb1:BndH (H++[[AV.str [],.str [],.int .i64 0,.int .i64 0,.nil,.str [],.nil]]).length (H++[[AV.str [],.str [],.int .i64 0,.int .i64 0,.nil,.str [],.nil]]):=qbc (qby hB (by simp)) (by simp);exact qaF (v:= .tup [.agg (rqV .zero .nil .nil),.bool false]) (by simp[rqV,Rq.zero]) (by simp) hb1 (by simp[rqV,Rq.zero]) (hQ .zero .nil 0 false _ (by simp) (fun i hi=>zqA hi) .nil (by omega) hb1)
theorem qlF(hp:PB H b j p)(h0:p.state≠5->p.fields.length<=16777216/\p.trailers.length<=16777216)
  (hQ:∀(r:Rq) (v t:AV) (n m:Nat) (h:Bool) (K:Hp),H.length<=K.length->(∀i,i<H.length->K[i]? =H[i]?)->LB K H.length v n->LB K H.length t m->difP v t->n<=16777216->m<=16777216->BndH K.length K->Q (.tup [.agg (rqV r v t),.bool h]) K):
  PC Tryz.prog E 24 [.ptr (some (b,0))] H Q:=by
 have hrow:=hp.row;have hlt:=hp.lt;simp[Prs.av]at hrow;refine qac Tryz.func24 rfl [] [] (by kernel_rfl) (fun hB=>?_);by_cases h4:p.state=4
 ·obtain⟨h1,h2⟩:=h0 (by omega);simp[Tryz.ntmps24,Tryz.results24,List.replicate_succ,hrow,hs0 hlt,h4];refine qeY E _ p.rq h1 h2 (fun v t K hl hk hv ht hd hB1=>?_);simp at hl;obtain⟨vf,vo,vd,hv1⟩:=BX.facts hv;obtain⟨tf,to,td,ht1⟩:=BX.facts ht;have k2:K[H.length]? =some [.str [],.str [],.int .i64 0,.int .i64 0,.nil,.str [],.nil]:=by rw[hk _ (by simp)];simp
  have hlt2:H.length<K.length:=by omega
  simp[rqV,qaj,KP,k2,vf,vo,vd,tf,to,td]
  have hB2:BndH (K.set H.length (rqV p.rq v t)).length (K.set H.length (rqV p.rq v t)):=by
   rw[List.length_set];refine qbE hB1 _ fun x hx=>?_;simp only[rqV,List.mem_cons,List.not_mem_nil,or_false]at hx;rcases hx with rfl|rfl|rfl|rfl|rfl|rfl|rfl<;>first|exact hv1|exact ht1|constructor
  have hkp:∀i,H.length+1<=i->i<K.length->(K.set H.length (rqV p.rq v t))[i]? =K[i]? :=fun i h1 _=>zqF (by omega);have hs2:(K.set H.length (rqV p.rq v t))[H.length]? =some (rqV p.rq v t):=zqO hlt2;simp[rqV]at hs2;simp at hv ht;exact qaF (v:= .tup [.agg (rqV p.rq v t),.bool true]) (by simp[rqV,hs2,vf,vo,vd,tf,to,td]) (by simp;omega) hB2 (by rw[List.length_set];simp[rqV,hv1,ht1]) (hQ p.rq v t _ _ true _ (by simp;omega) (fun i hi=>by rw[zqF (by omega),hk i (by simp;omega)];exact zqA hi) ((hv.keep hkp).up (by omega)) ((ht.keep hkp).up (by omega)) hd h1 h2 hB2)
 ·have h4':(p.state==4)=false:=by simpa using h4
  have h4'':(p.state !=4)=true:=by simpa using h4
  simp[Tryz.ntmps24,Tryz.results24,List.replicate_succ,hrow,hs0 hlt,h4',h4''];have hb1:BndH (H++[[AV.str [],.str [],.int .i64 0,.int .i64 0,.nil,.str [],.nil]]).length (H++[[AV.str [],.str [],.int .i64 0,.int .i64 0,.nil,.str [],.nil]]):=qbc (qby hB (by simp)) (by simp);exact qaF (v:= .tup [.agg (rqV .zero .nil .nil),.bool false]) (by simp[rqV,Rq.zero]) (by simp) hb1 (by simp[rqV,Rq.zero]) (hQ .zero .nil .nil 0 0 false _ (by simp) (fun i hi=>zqA hi) .nil .nil (fun i o n c k _ _ _ _ _ e=>by cases e) (by omega) (by omega) hb1)
end
section
variable (E:Env){H:Hp}(Q:AV->Hp->Prop)
theorem qo4(hE:PE E)(a b c d:Int)(s:List UInt8)(hs:s.length<=4194304)(h0:chkE a b c d=0)
  (hQ:∀(r:Rq) (v t:AV) (n m N:Nat) (f1 f2 f3 k:Int) (K:Hp),H.length<=K.length->(∀i,i<H.length->K[i]? =H[i]?)->LB K H.length v n->LB K H.length t m->difP v t->n<=16777216->m<=16777216->BndH K.length K->
   Q (.tup [.agg (rqV r v t),.int .i64 N,.agg [.int .i64 f1,.int .i64 f2,.int .i64 f3],.int .i64 k]) K):PC Tryz.prog E 12 [limV a b c d,.str s] H Q:=by
 refine qga (fun i=>i=H.length+4) Tryz.func12 rfl [] [(9,[0,0,0,0,0,2,2])] (by kernel_rfl) (fun E' hS' h0' hF' hB=>?_);have hE':=hE.env h0' hF';simp[Tryz.ntmps12,Tryz.results12,List.replicate_succ,limV];refine qjS E' _ a b c d (fun _ hBn=>?_) (fun h=>absurd h0 h);simp;obtain⟨H3,hH3⟩:∃H3:Hp,H++[[AV.int .i64 a,AV.int .i64 b,AV.int .i64 c,AV.int .i64 d],[AV.str [],AV.str [],AV.int .i64 0,AV.int .i64 0,AV.nil,AV.str [],AV.nil],[AV.int .i64 0,AV.int .i64 0,AV.int .i64 0]]=H3:=⟨_,rfl⟩
 have hl3:H3.length=H.length+3:=by rw[<-hH3];simp
 have hpb:=qqU H3 a b c d;rw[hH3];rw[show H3.length+1=H.length+4 by omega]at hpb;have hfl:=qeS (newP a b c d) s;refine qhK E' _ hpb (fun _=>qeJ h0) (fun E2 h02 hF2=>qn2 E2 (hE'.env h02 hF2)) s (by omega) (by omega) (fun j1 K1 hp1 hj1 ho1 hB1=>?_);have hfit:=qkc h0 s hs;obtain⟨P,hP⟩:=exz ((qan (newP a b c d) s).1);obtain⟨N,hN⟩:=exz ((qan (newP a b c d) s).2);rw[hP]at hp1 hfit;rw[hN];have hlen:H.length+5<=K1.length:=by have:=ho1.1;unfold nwH at this;simp at this;omega
 have hold:∀i,i<H.length+3->K1[i]? =H3[i]? :=fun i hi=>by
  rw[ho1.2 i (by unfold nwH;simp;omega) (by omega) (fun h=>by cases h)];unfold nwH;rw[zqA (by omega)]
 have k1:K1[H.length+1]? =some [AV.str [],AV.str [],AV.int .i64 0,AV.int .i64 0,AV.nil,AV.str [],AV.nil]:=by rw[hold _ (by omega),<-hH3,zqB (by omega)];simp
 have k2:K1[H.length+2]? =some [AV.int .i64 0,AV.int .i64 0,AV.int .i64 0]:=by rw[hold _ (by omega),<-hH3,zqB (by omega)];simp
 have kH:∀i,i<H.length->K1[i]? =H[i]? :=fun i hi=>by rw[hold i (by omega),<-hH3,zqA hi]
 have hrow:=hp1.row;simp[Prs.av]at hrow
 have put:∀(K:Hp) (r:Rq) (v t:AV) (f1 f2 f3:Int),K1.length<=K.length->(∀i,i<H.length->K[i]? =H[i]?)->BndH K.length K->Bnd K.length v->Bnd K.length t->
   let L:=(K.set (H.length+1) (rqV r v t)).set (H.length+2) [.int .i64 f1,.int .i64 f2,.int .i64 f3]
   L.length=K.length/\BndH L.length L/\(∀i,i<H.length->L[i]? =H[i]?)/\(∀i,H.length+3<=i->L[i]? =K[i]?)/\L[H.length+1]? =some (rqV r v t)/\L[H.length+2]? =some [.int .i64 f1,.int .i64 f2,.int .i64 f3]:=by
  intro K r v t f1 f2 f3 hle hk hBK hv ht L;have hL:L.length=K.length:=by simp[L]
  refine⟨hL,?_,fun i hi=>?_,fun i hi=>?_,?_,?_⟩
  ·rw[hL];refine qbE (qbE hBK _ fun x hx=>?_) _ fun x hx=>?_
   ·simp only[rqV,List.mem_cons,List.not_mem_nil,or_false]at hx;rcases hx with rfl|rfl|rfl|rfl|rfl|rfl|rfl<;>first|exact hv|exact ht|constructor
   ·simp only[List.mem_cons,List.not_mem_nil,or_false]at hx;rcases hx with rfl|rfl|rfl<;>exact .int _ _
  ·simp only[L];rw[zqF (by omega),zqF (by omega)];exact hk i hi
  ·simp only[L];rw[zqF (by omega),zqF (by omega)]
  ·simp only[L];rw[zqF (by omega)];exact zqO (by omega)
  ·simp only[L];exact zqO (by simp;omega)
 by_cases h4:P.state=4
 ·obtain⟨z1,z2⟩:=hfit (by omega);simp[qaj,KP,hrow,h4];refine qeY E' _ P.rq (by show P.fields.length<=_;omega) (by show P.trailers.length<=_;omega) (fun v t K2 hl hk hv ht hd hB2=>?_);obtain⟨vf,vo,vd,hv1⟩:=BX.facts hv;obtain⟨tf,to,td,ht1⟩:=BX.facts ht;have q1:K2[H.length+1]? =some [AV.str [],AV.str [],AV.int .i64 0,AV.int .i64 0,AV.nil,AV.str [],AV.nil]:=by rw[hk _ (by omega)];exact k1
  have q2:K2[H.length+2]? =some [AV.int .i64 0,AV.int .i64 0,AV.int .i64 0]:=by rw[hk _ (by omega)];exact k2
  have u1:∀x,(K2.set (H.length+1) x)[H.length+2]? =some [AV.int .i64 0,AV.int .i64 0,AV.int .i64 0]:=fun x=>by rw[zqF (by omega)];exact q2
  obtain⟨p1,p2,p3,p4,p5,p6⟩:=put K2 P.rq v t 0 0 0 hl (fun i hi=>by rw[hk i (by omega)];exact kH i hi) hB2 hv1 ht1;simp[rqV,qaj,KP,q1,q2,u1,vf,vo,vd,tf,to,td];obtain⟨L,hL⟩:∃L:Hp,(K2.set (H.length+1) (rqV P.rq v t)).set (H.length+2) [.int .i64 0,.int .i64 0,.int .i64 0]=L:=⟨_,rfl⟩
  rw[hL]at p1 p2 p3 p4 p5 p6;simp only[rqV]at hL p5;rw[hL];have hkp:∀i,K1.length<=i->i<K2.length->L[i]? =K2[i]? :=fun i h1 _=>p4 i (by omega);exact qaF (v:= .tup [.agg (rqV P.rq v t),.int .i64 N,.agg [.int .i64 0,.int .i64 0,.int .i64 0],.int .i64 1]) (by simp[rqV,p5,p6,vf,vo,vd,tf,to,td]) (by omega) p2 (by rw[p1];simp[rqV,hv1,ht1]) (hQ P.rq v t _ _ N 0 0 0 1 L (by omega) p3 ((LB.keep hv hkp).up (by omega)) ((LB.keep ht hkp).up (by omega)) hd (by show P.fields.length<=_;omega) (by show P.trailers.length<=_;omega) p2)
 ·have h4':(P.state==4)=false:=by simpa using h4
  have u1:∀x,(K1.set (H.length+1) x)[H.length+2]? =some [AV.int .i64 0,AV.int .i64 0,AV.int .i64 0]:=fun x=>by rw[zqF (by omega)];exact k2
  have u2:∀x,(K1.set (H.length+1) x)[H.length+4]? =K1[H.length+4]? :=fun x=>zqF (by omega)
  have fin:∀(f1 f2 f3 k:Int) (rs:List ResultVar) (fr:List AV),ares Tryz.prog fr ((K1.set (H.length+1) (rqV .zero .nil .nil)).set (H.length+2) [.int .i64 f1,.int .i64 f2,.int .i64 f3]) rs=some (.tup [.agg (rqV .zero .nil .nil),.int .i64 N,.agg [.int .i64 f1,.int .i64 f2,.int .i64 f3],.int .i64 k])->
    qbO Tryz.prog rs H.length Q .ret fr ((K1.set (H.length+1) (rqV .zero .nil .nil)).set (H.length+2) [.int .i64 f1,.int .i64 f2,.int .i64 f3]):=fun f1 f2 f3 k rs fr hres=>by
   obtain⟨p1,p2,p3,p4,p5,p6⟩:=put K1 .zero .nil .nil f1 f2 f3 (Nat.le_refl _) kH hB1 .nil .nil;exact qaF hres (by omega) p2 (by simp[rqV,Rq.zero]) (hQ .zero .nil .nil 0 0 N f1 f2 f3 k _ (by omega) p3 .nil .nil (fun i o n c k _ _ _ _ _ e=>by cases e) (by omega) (by omega) p2)
  have u3:∀x y,((K1.set (H.length+1) x).set (H.length+2) y)[H.length+1]? =some x:=fun x y=>by rw[zqF (by omega),zqO (by omega)]
  have u4:∀x y,((K1.set (H.length+1) x).set (H.length+2) y)[H.length+2]? =some y:=fun x y=>zqO (by simp;omega);by_cases h5:P.state=5
  ·simp[qaj,KP,hrow,h5,hS',k1,k2,u1,u2,u3,u4];exact fin P.fst_ P.ferr P.fat 2 _ _ (by simp[rqV,Rq.zero,u3,u4])
  ·have h5':(P.state==5)=false:=by simpa using h5
   simp[qaj,KP,hrow,h4',h5',k1,k2,u1,u2,u3,u4];exact fin 0 0 0 0 _ _ (by simp[rqV,Rq.zero,u3,u4])
end
theorem qjQ(s:ByteArray)(hs:s.size<=140737488351232)(W:World):Calls Tryz.prog 68 #[.string s] W fun e w'=>e= .returned (.string (tx (low s.data.toList)))/\Frm (fun _=>False) W w':=by
 obtain⟨cap,w1,hconv,ho,hf,hw1⟩:=qcf (P:=Tryz.prog) W 9 82 5 s Tryz.underlying9 Tryz.underlying82 Tryz.underlying5 (by simp only[maxLen];omega);have HO:=Lib.hid ho;have HF:=Lib.hid hf;clear ho hf
 go_enter Tryz.func68,Tryz.ntmps68
 go_wp2
 clear hconv
 go_loopw [4] (fun i wr=>∃k:Nat,k<=s.size/\i= .int .i64 k/\OSl wr 1 (.slice (some ⟨W.heap.size,0,none⟩) s.size cap) s.size (u8s (low (s.data.toList.take k)++s.data.toList.drop k))/\Frm (fun _=>False) W wr) (fun i _=>s.size-(intOf i).toNat)
 case atStart=>exact⟨0,Nat.zero_le _,rfl,HO.out,HF.out⟩
 case round=>
  obtain⟨k,hk,rfl,ho,hf⟩:=hrel;have hb:W.heap.size<wr.heap.size:=ho.lt _ rfl;have HR:=Lib.hid ho;have HG:=Lib.hid hf;clear ho hf;by_cases hlt:k<s.size
  ·obtain⟨x,hx⟩:∃x,s.data.toList[k]? =some x:=⟨_,zqD (by rw[qad];omega)⟩
   obtain⟨hc,hz⟩:=HR.out.cellAt k x (qj2 _ _ _ hx);rw[Nat.zero_add]at hc hz;have HX:=Lib.hid hx;clear hx;have hx8:x.toNat<256:=x.toNat_lt;by_cases h1:65<=x.toNat
   ·by_cases h2:x.toNat<=90
    ·go_wp2
     go_roundw
     case rel=>
      refine⟨k+1,by omega,by go_num,?_,HG.out.setNew (Nat.le_refl _) _⟩;have:=HR.out.set k hlt (.int .u8 ((lowB x).toNat:Int));rw[qdO x h1 h2,Nat.zero_add]at this;rw[<-qfJ _ _ _ HX.out,qjs,qdO x h1 h2];exact this
     case measure=>simp[intOf];omega
    ·go_wp2
     go_roundw
     case rel=>
      refine⟨k+1,by omega,by go_num,?_,HG.out⟩;rw[<-qdN _ _ _ HX.out (qff x (by omega))];exact HR.out
     case measure=>simp[intOf];omega
   ·go_wp2
    go_roundw
    case rel=>
     refine⟨k+1,by omega,by go_num,?_,HG.out⟩;rw[<-qdN _ _ _ HX.out (qff x (by omega))];exact HR.out
    case measure=>simp[intOf];omega
  ·obtain rfl:k=s.size:=by omega
   have hr:=HR.out.toR;rw[zqE (by rw[qad];omega),List.drop_of_length_le (by rw[qad];omega),List.append_nil]at hr;have hback:=qbP (P:=Tryz.prog) wr 82 9 5 _ _ _ _ Tryz.underlying82 Tryz.underlying5 Tryz.underlying9 hr
   go_wp2
   go_ret
   exact⟨rfl,HG.out⟩
theorem qa4(b:UInt8)(W:World):Calls Tryz.prog 64 #[.int .u8 b.toNat] W fun e w'=>e= .returned (.bool (qbF b))/\w'=W:=by
 go_enter Tryz.func64,Tryz.ntmps64
 have hb:=b.toNat_lt;by_cases h1:48<=b.toNat
 ·by_cases h2:b.toNat<=57
  ·have e1:qbF b=true:=decide_eq_true ⟨h1,h2⟩;rw[e1]
   go_wp2
   go_ret
   exact⟨by first|rfl|(simp<;>omega),rfl⟩
  ·have e1:qbF b=false:=decide_eq_false (fun h=>h2 h.2);rw[e1]
   go_wp2
   go_ret
   exact⟨by first|rfl|(simp<;>omega),rfl⟩
 ·have e1:qbF b=false:=decide_eq_false (fun h=>h1 h.1);rw[e1]
  go_wp2
  go_ret
  exact⟨by first|rfl|(simp<;>omega),rfl⟩
theorem qiC(b:UInt8)(W:World):Calls Tryz.prog 149 #[.int .u8 b.toNat] W fun e w'=>e= .returned (.bool (qaS b))/\w'=W:=by
 have hb:=b.toNat_lt;cases hd:qbF b
 ·by_cases h1:65<=b.toNat
  ·by_cases h2:b.toNat<=70
   ·have e1:qaS b=true:=by rw[qaS,hd];simp<;>omega
    rw[e1]
    go_enter Tryz.func149,Tryz.ntmps149
    go_wp2_with fail
    refine(qa4 b W).mono ?_;rintro e w' ⟨rfl,rfl⟩;rw[hd];clear hd e1
    go_wp2
    go_ret
    exact⟨by first|rfl|(simp<;>omega),rfl⟩
   ·by_cases h3:97<=b.toNat
    ·by_cases h4:b.toNat<=102
     ·have e1:qaS b=true:=by rw[qaS,hd];simp<;>omega
      rw[e1]
      go_enter Tryz.func149,Tryz.ntmps149
      go_wp2_with fail
      refine(qa4 b W).mono ?_;rintro e w' ⟨rfl,rfl⟩;rw[hd];clear hd e1
      go_wp2
      go_ret
      exact⟨by first|rfl|(simp<;>omega),rfl⟩
     ·have e1:qaS b=false:=by rw[qaS,hd];simp<;>omega
      rw[e1]
      go_enter Tryz.func149,Tryz.ntmps149
      go_wp2_with fail
      refine(qa4 b W).mono ?_;rintro e w' ⟨rfl,rfl⟩;rw[hd];clear hd e1
      go_wp2
      go_ret
      exact⟨by first|rfl|(simp<;>omega),rfl⟩
    ·have e1:qaS b=false:=by rw[qaS,hd];simp<;>omega
     rw[e1]
     go_enter Tryz.func149,Tryz.ntmps149
     go_wp2_with fail
     refine(qa4 b W).mono ?_;rintro e w' ⟨rfl,rfl⟩;rw[hd];clear hd e1
     go_wp2
     go_ret
     exact⟨by first|rfl|(simp<;>omega),rfl⟩
  ·have e1:qaS b=false:=by rw[qaS,hd];simp<;>omega
   rw[e1]
   go_enter Tryz.func149,Tryz.ntmps149
   go_wp2_with fail
   refine(qa4 b W).mono ?_;rintro e w' ⟨rfl,rfl⟩;rw[hd];clear hd e1
   go_wp2
   go_ret
   exact⟨by first|rfl|(simp<;>omega),rfl⟩
 ·have e1:qaS b=true:=by rw[qaS,hd];simp<;>omega
  rw[e1]
  go_enter Tryz.func149,Tryz.ntmps149
  go_wp2_with fail
  refine(qa4 b W).mono ?_;rintro e w' ⟨rfl,rfl⟩;rw[hd];clear hd e1
  go_wp2
  go_ret
  exact⟨by first|rfl|(simp<;>omega),rfl⟩
theorem qf9(b:UInt8)(W:World)(h:qaS b=true):Calls Tryz.prog 150 #[.int .u8 b.toNat] W fun e w'=>e= .returned (.int .i64 (val b))/\w'=W:=by
 have hb:=b.toNat_lt
 have h97:qbF b=false->97<=b.toNat\/(65<=b.toNat/\b.toNat<=70):=fun hd=>by
  rw[qaS,hd]at h;simp at h;omega
 have hd48:qbF b=true->48<=b.toNat:=fun hd=>(of_decide_eq_true hd).1;have H97:=Lib.hid h97;have H48:=Lib.hid hd48;clear h97 hd48 h;cases hd:qbF b
 ·have h3:=H97.out hd;have hv:val b=if 97<=b.toNat then(b.toNat:Int)-97+10 else(b.toNat:Int)-65+10:=by rw[val,hd];rfl
  rw[hv];clear hv;by_cases h4:97<=b.toNat
  ·rw[if_pos h4]
   go_enter Tryz.func150,Tryz.ntmps150
   go_wp2_with fail
   refine(qa4 b W).mono ?_;rintro e w' ⟨rfl,rfl⟩;rw[hd];clear hd
   go_wp2
   go_ret
   exact⟨by first|rfl|(simp<;>omega),rfl⟩
  ·rw[if_neg h4]
   go_enter Tryz.func150,Tryz.ntmps150
   go_wp2_with fail
   refine(qa4 b W).mono ?_;rintro e w' ⟨rfl,rfl⟩;rw[hd];clear hd
   go_wp2
   go_ret
   exact⟨by first|rfl|(simp<;>omega),rfl⟩
 ·have h3:=H48.out hd;have hv:val b=(b.toNat:Int)-48:=by rw[val,hd];rfl
  rw[hv];clear hv
  go_enter Tryz.func150,Tryz.ntmps150
  go_wp2_with fail
  refine(qa4 b W).mono ?_;rintro e w' ⟨rfl,rfl⟩;rw[hd];clear hd
  go_wp2
  go_ret
  exact⟨by first|rfl|(simp<;>omega),rfl⟩
theorem qgO(s:ByteArray)(most:Int)(hs:s.size<=140737488351232)(hm1: -9223372036854775808<=most)(hm2:most<=9223372036854775807)(W:World):
  Calls Tryz.prog 124 #[.string s,.int .i64 10,.int .i64 most] W fun e w'=>e= .returned (.tuple #[.int .i64 (qae 10 most s.data.toList).1,.int .i64 (qae 10 most s.data.toList).2])/\w'=W:=by
 go_enter Tryz.func124,Tryz.ntmps124
 by_cases he:s.data.toList=[]
 ·have hn:qae 10 most s.data.toList=(0,11):=by rw[qae,if_pos he]
  have he':s.toList.isEmpty=true:=by rw[qaX,he];rfl
  go_wp2
  go_ret2
  rw[hn];exact⟨rfl,rfl⟩
 ·have he':s.toList.isEmpty=false:=by rw[qaX];simpa using he
  have HE:=Lib.hid he;clear he
  go_wp2
  clear he'
  go_loopw [8] (fun i wr=>∃(k:Nat),k<=s.size/\i= .int .i64 k/\qaT 10 (s.data.toList.take k)=true/\wr=W) (fun i _=>s.size-(intOf i).toNat)
  case atStart=>exact⟨0,Nat.zero_le _,rfl,rfl,rfl⟩
  case round=>
   obtain⟨k,hk,rfl,hok,rfl⟩:=hrel;have HOK:=Lib.hid hok;clear hok;by_cases hlt:k<s.size
   ·obtain⟨x,hx⟩:∃x,s.data.toList[k]? =some x:=⟨_,zqD (by rw[qad];omega)⟩
    have hxb:s[k]'hlt=x:=qib s k x hx hlt;have hostep:=qcx 10 _ _ _ hx;rw[HOK.out,Bool.true_and,<-qi1]at hostep;have HX:=Lib.hid hx;have HO:=Lib.hid hostep;clear hx hostep
    go_wp2_with fail
    refine(qa4 x wr).mono ?_;rintro e w' ⟨rfl,rfl⟩;cases hp:qbF x
    ·have hn:qae 10 most s.data.toList=(0,11):=by
      rw[qae,if_neg HE.out,if_pos (qcY 10 _ _ _ HX.out (of_decide_eq_false ((qi1 x).symm.trans hp)))]
     have HN:=Lib.hid hn;clear hn hp
     go_wp2
     go_ret2
     rw[HN.out];exact⟨rfl,rfl⟩
    ·have HO2:=Lib.hid (HO.out.trans hp);clear hp
     go_wp2
     go_roundw
     case rel=>exact⟨k+1,by omega,by go_num,HO2.out,by trivial⟩
     case measure=>simp[intOf];omega
   ·obtain rfl:k=s.size:=by omega
    have hall:=HOK.out;rw[zqE (by rw[qad];omega)]at hall;have HALL:=Lib.hid hall;clear hall HOK hlt hk
    go_wp2
    have HN:Hid (qae 10 most s.data.toList=if most<0\/most<qbb 10 s.data.toList then(0,12)else(qbb 10 s.data.toList,0)):=by
     show qae 10 most s.data.toList=_;rw[qae,if_neg HE.out,if_neg (by rw[HALL.out];decide)]
    obtain⟨wo,hwo⟩:∃wo:World,wo=wr:=⟨_,rfl⟩
    subst hwo
    go_loopw [9,10] (fun n i wr=>∃(k:Nat) (v:Int),k<=s.size/\i= .int .i64 k/\n= .int .i64 v/\v=qbb 10 (s.data.toList.take k)/\0<=v/\(0<k->v<=most)/\wr=wo) (fun _ i _=>s.size-(intOf i).toNat)
    case atStart=>exact⟨0,0,Nat.zero_le _,rfl,rfl,rfl,Int.le_refl _,(fun h=>absurd h (by omega)),rfl⟩
    case round=>
     obtain⟨k,v,hk,rfl,rfl,hv,hv0,hvm,rfl⟩:=hrel;have HV:=Lib.hid hv;have HM:=Lib.hid hvm;clear hv hvm;by_cases hlt:k<s.size
     ·obtain⟨x,hx⟩:∃x,s.data.toList[k]? =some x:=⟨_,zqD (by rw[qad];omega)⟩
      have hxb:s[k]'hlt=x:=qib s k x hx hlt
      have hd:0<=dig x/\dig x<10:=by
       have h:=HALL.out;unfold qaT at h;exact of_decide_eq_true (List.all_eq_true.1 h x (zqH hx))
      have hstep:=qco 10 _ _ _ hx;rw[<-HV.out]at hstep;have hval:=qmG x hd.1;have hmono:=qg9 10 (by omega) s.data.toList HALL.out (k+1);obtain⟨d,hdd⟩:∃d,d=dig x:=⟨_,rfl⟩
      have hhex:qaS x=true:=by rw[qcA];exact decide_eq_true ⟨hd.1,by omega⟩
      rw[<-hdd]at hd hstep hval;rw[hstep]at hmono;obtain⟨q,hq⟩:=exz ((most-d).tdiv 10)
      have hq1:d<=most->10*q<=most-d/\most-d<10*q+10:=fun h=>by
       rw[Int.tdiv_eq_ediv_of_nonneg (by omega)]at hq;omega
      have HS:=Lib.hid hstep;have HQ1:=Lib.hid hq1;have HMono:=Lib.hid hmono;have HHex:=Lib.hid hhex;clear hx hdd hq1 hstep hmono hhex
      go_wp2_with fail
      refine(qf9 x wr HHex.out).mono ?_;rintro e w' ⟨rfl,rfl⟩;rw[hval];clear hval hxb
      have hbig:most<v*10+d->qae 10 most s.data.toList=(0,12):=fun h=>by
       rw[HN.out,if_pos (.inr (by have:=HMono.out;omega))]
      have HBig:=Lib.hid hbig;clear hbig;by_cases h1:most<d
      ·go_wp2
       go_ret2
       rw[HBig.out (by omega)];exact⟨rfl,rfl⟩
      ·have h2a:=(HQ1.out (by omega)).1;have h2b:=(HQ1.out (by omega)).2;by_cases h2:q<v
       ·go_wp2
        go_ret2
        rw[HBig.out (by omega)];exact⟨rfl,rfl⟩
       ·go_wp2
        go_roundw
        case rel=>exact⟨k+1,v*10+d,by omega,by go_num,by go_num,HS.out.symm,by omega,(fun _=>by omega),by trivial⟩
        case measure=>simp[intOf];omega
     ·obtain rfl:k=s.size:=by omega
      have hv:=HV.out;rw[zqE (by rw[qad];omega)]at hv
      have hpos:0<s.size:=by
       have:=HE.out;rcases Nat.eq_zero_or_pos s.size with h|h
       ·rw[<-qad]at h;exact absurd (List.eq_nil_of_length_eq_zero h) this
       ·exact h
      have hle:=HM.out hpos
      have HN2:Hid (qae 10 most s.data.toList=(v,0)):=by
       show _=_;rw[HN.out,<-hv,if_neg (by omega)]
      clear hv
      go_wp2
      go_ret2
      rw[HN2.out];exact⟨rfl,rfl⟩
theorem qgN(s:ByteArray)(most:Int)(hs:s.size<=140737488351232)(hm1: -9223372036854775808<=most)(hm2:most<=9223372036854775807)(W:World):
  Calls Tryz.prog 124 #[.string s,.int .i64 16,.int .i64 most] W fun e w'=>e= .returned (.tuple #[.int .i64 (qae 16 most s.data.toList).1,.int .i64 (qae 16 most s.data.toList).2])/\w'=W:=by
 go_enter Tryz.func124,Tryz.ntmps124
 by_cases he:s.data.toList=[]
 ·have hn:qae 16 most s.data.toList=(0,11):=by rw[qae,if_pos he]
  have he':s.toList.isEmpty=true:=by rw[qaX,he];rfl
  go_wp2
  go_ret2
  rw[hn];exact⟨rfl,rfl⟩
 ·have he':s.toList.isEmpty=false:=by rw[qaX];simpa using he
  have HE:=Lib.hid he;clear he
  go_wp2
  clear he'
  go_loopw [8] (fun i wr=>∃(k:Nat),k<=s.size/\i= .int .i64 k/\qaT 16 (s.data.toList.take k)=true/\wr=W) (fun i _=>s.size-(intOf i).toNat)
  case atStart=>exact⟨0,Nat.zero_le _,rfl,rfl,rfl⟩
  case round=>
   obtain⟨k,hk,rfl,hok,rfl⟩:=hrel;have HOK:=Lib.hid hok;clear hok;by_cases hlt:k<s.size
   ·obtain⟨x,hx⟩:∃x,s.data.toList[k]? =some x:=⟨_,zqD (by rw[qad];omega)⟩
    have hxb:s[k]'hlt=x:=qib s k x hx hlt;have hostep:=qcx 16 _ _ _ hx;rw[HOK.out,Bool.true_and,<-qcA]at hostep;have HX:=Lib.hid hx;have HO:=Lib.hid hostep;clear hx hostep
    go_wp2_with fail
    refine(qiC x wr).mono ?_;rintro e w' ⟨rfl,rfl⟩;cases hp:qaS x
    ·have hn:qae 16 most s.data.toList=(0,11):=by
      rw[qae,if_neg HE.out,if_pos (qcY 16 _ _ _ HX.out (of_decide_eq_false ((qcA x).symm.trans hp)))]
     have HN:=Lib.hid hn;clear hn hp
     go_wp2
     go_ret2
     rw[HN.out];exact⟨rfl,rfl⟩
    ·have HO2:=Lib.hid (HO.out.trans hp);clear hp
     go_wp2
     go_roundw
     case rel=>exact⟨k+1,by omega,by go_num,HO2.out,by trivial⟩
     case measure=>simp[intOf];omega
   ·obtain rfl:k=s.size:=by omega
    have hall:=HOK.out;rw[zqE (by rw[qad];omega)]at hall;have HALL:=Lib.hid hall;clear hall HOK hlt hk
    go_wp2
    have HN:Hid (qae 16 most s.data.toList=if most<0\/most<qbb 16 s.data.toList then(0,12)else(qbb 16 s.data.toList,0)):=by
     show qae 16 most s.data.toList=_;rw[qae,if_neg HE.out,if_neg (by rw[HALL.out];decide)]
    obtain⟨wo,hwo⟩:∃wo:World,wo=wr:=⟨_,rfl⟩
    subst hwo
    go_loopw [9,10] (fun n i wr=>∃(k:Nat) (v:Int),k<=s.size/\i= .int .i64 k/\n= .int .i64 v/\v=qbb 16 (s.data.toList.take k)/\0<=v/\(0<k->v<=most)/\wr=wo) (fun _ i _=>s.size-(intOf i).toNat)
    case atStart=>exact⟨0,0,Nat.zero_le _,rfl,rfl,rfl,Int.le_refl _,(fun h=>absurd h (by omega)),rfl⟩
    case round=>
     obtain⟨k,v,hk,rfl,rfl,hv,hv0,hvm,rfl⟩:=hrel;have HV:=Lib.hid hv;have HM:=Lib.hid hvm;clear hv hvm;by_cases hlt:k<s.size
     ·obtain⟨x,hx⟩:∃x,s.data.toList[k]? =some x:=⟨_,zqD (by rw[qad];omega)⟩
      have hxb:s[k]'hlt=x:=qib s k x hx hlt
      have hd:0<=dig x/\dig x<16:=by
       have h:=HALL.out;unfold qaT at h;exact of_decide_eq_true (List.all_eq_true.1 h x (zqH hx))
      have hstep:=qco 16 _ _ _ hx;rw[<-HV.out]at hstep;have hval:=qmG x hd.1;have hmono:=qg9 16 (by omega) s.data.toList HALL.out (k+1);obtain⟨d,hdd⟩:∃d,d=dig x:=⟨_,rfl⟩
      have hhex:qaS x=true:=by rw[qcA];exact decide_eq_true ⟨hd.1,by omega⟩
      rw[<-hdd]at hd hstep hval;rw[hstep]at hmono;obtain⟨q,hq⟩:=exz ((most-d).tdiv 16)
      have hq1:d<=most->16*q<=most-d/\most-d<16*q+16:=fun h=>by
       rw[Int.tdiv_eq_ediv_of_nonneg (by omega)]at hq;omega
      have HS:=Lib.hid hstep;have HQ1:=Lib.hid hq1;have HMono:=Lib.hid hmono;have HHex:=Lib.hid hhex;clear hx hdd hq1 hstep hmono hhex
      go_wp2_with fail
      refine(qf9 x wr HHex.out).mono ?_;rintro e w' ⟨rfl,rfl⟩;rw[hval];clear hval hxb
      have hbig:most<v*16+d->qae 16 most s.data.toList=(0,12):=fun h=>by
       rw[HN.out,if_pos (.inr (by have:=HMono.out;omega))]
      have HBig:=Lib.hid hbig;clear hbig;by_cases h1:most<d
      ·go_wp2
       go_ret2
       rw[HBig.out (by omega)];exact⟨rfl,rfl⟩
      ·have h2a:=(HQ1.out (by omega)).1;have h2b:=(HQ1.out (by omega)).2;by_cases h2:q<v
       ·go_wp2
        go_ret2
        rw[HBig.out (by omega)];exact⟨rfl,rfl⟩
       ·go_wp2
        go_roundw
        case rel=>exact⟨k+1,v*16+d,by omega,by go_num,by go_num,HS.out.symm,by omega,(fun _=>by omega),by trivial⟩
        case measure=>simp[intOf];omega
     ·obtain rfl:k=s.size:=by omega
      have hv:=HV.out;rw[zqE (by rw[qad];omega)]at hv
      have hpos:0<s.size:=by
       have:=HE.out;rcases Nat.eq_zero_or_pos s.size with h|h
       ·rw[<-qad]at h;exact absurd (List.eq_nil_of_length_eq_zero h) this
       ·exact h
      have hle:=HM.out hpos
      have HN2:Hid (qae 16 most s.data.toList=(v,0)):=by
       show _=_;rw[HN.out,<-hv,if_neg (by omega)]
      clear hv
      go_wp2
      go_ret2
      rw[HN2.out];exact⟨rfl,rfl⟩
theorem qhJ(s:ByteArray)(most:Int)(hs:s.size<=140737488351232)(hm1: -9223372036854775808<=most)(hm2:most<=9223372036854775807)(W:World):
  Calls Tryz.prog 92 #[.string s,.int .i64 most] W fun e w'=>e= .returned (.tuple #[.int .i64 (qae 10 most s.data.toList).1,.int .i64 (qae 10 most s.data.toList).2])/\w'=W:=by
 go_enter Tryz.func92,Tryz.ntmps92
 go_wp2_with fail
 refine(qgO s most hs hm1 hm2 W).mono ?_;rintro e w1 ⟨rfl,rfl⟩
 go_wp2
 go_ret2
 exact⟨rfl,rfl⟩
theorem qiB(s:ByteArray)(most:Int)(hs:s.size<=140737488351232)(hm1: -9223372036854775808<=most)(hm2:most<=9223372036854775807)(W:World):
  Calls Tryz.prog 147 #[.string s,.int .i64 most] W fun e w'=>e= .returned (.tuple #[.int .i64 (qae 16 most s.data.toList).1,.int .i64 (qae 16 most s.data.toList).2])/\w'=W:=by
 go_enter Tryz.func147,Tryz.ntmps147
 go_wp2_with fail
 refine(qgN s most hs hm1 hm2 W).mono ?_;rintro e w1 ⟨rfl,rfl⟩
 go_wp2
 go_ret2
 exact⟨rfl,rfl⟩
section
variable (E:Env)(H:Hp)(Q:AV->Hp->Prop)
theorem qdg(l:List UInt8)(hl:l.length<=cap)(hQ:Q (.str (low l)) H):PC Tryz.prog E 68 [.str l] H Q:=by
 refine qaq (v:= .str (low l)) (by kernel_rfl) (fun _=>True) (fun w hw=>trivial) (fun w β Rd cargs hS hsz hargs=>?_) (.str _) rfl hQ;obtain⟨u,rfl,hu⟩:=args1 hsz hargs;obtain⟨s,rfl,rfl,hs⟩:=qax hu;refine(qjQ s (by rw[<-qad];exact hl) w).mono ?_;rintro e w' ⟨rfl,hf⟩;exact⟨_,rfl,hf,qdy _ (qfl (by rw[qaK];exact hl))⟩
theorem qdh(b:UInt8)(hQ:Q (.bool (qbF b)) H):PC Tryz.prog E 64 [.int .u8 (b.toNat:Int)] H Q:=by
 refine qaq (v:= .bool (qbF b)) (by kernel_rfl) (fun _=>True) (fun w hw=>trivial) (fun w β Rd cargs hS hsz hargs=>?_) (.bool _) rfl hQ;obtain⟨u,rfl,hu⟩:=args1 hsz hargs;obtain rfl:=qay hu;refine(qa4 b w).mono ?_;rintro e w' ⟨rfl,rfl⟩;exact⟨_,rfl,Frm.refl _ _,.bool _⟩
theorem qfu(b:UInt8)(hQ:Q (.bool (qcz b)) H):PC Tryz.prog E 65 [.int .u8 (b.toNat:Int)] H Q:=by
 refine qac Tryz.func65 rfl [] [] (by kernel_rfl) (fun hB=>?_);have fin:∀c:Bool,qcz b=c->Q (.bool c) H:=fun c hc=>hc▸hQ;by_cases h1:65<=b.toNat
 ·have t1:(65:Int)<=b.toNat:=by omega
  by_cases h2:b.toNat<=90
  ·have t2:(b.toNat:Int)<=90:=by omega
   simp[Tryz.ntmps65,Tryz.results65,List.replicate_succ,t1,t2];exact aQz hB (h6:=(fin _ (by simp[qcz,h1,h2])))
  ·have t2:¬(b.toNat:Int)<=90:=by omega
   by_cases h3:97<=b.toNat
   ·have t3:(97:Int)<=b.toNat:=by omega
    by_cases h4:b.toNat<=122
    ·have t4:(b.toNat:Int)<=122:=by omega
     simp[Tryz.ntmps65,Tryz.results65,List.replicate_succ,t1,t2,t3,t4];exact aQz hB (h6:=(fin _ (by simp[qcz,h3,h4])))
    ·have t4:¬(b.toNat:Int)<=122:=by omega
     simp[Tryz.ntmps65,Tryz.results65,List.replicate_succ,t1,t2,t3,t4];exact aQz hB (h6:=(fin _ (by simp[qcz,h2,h4])))
   ·have t3:¬(97:Int)<=b.toNat:=by omega
    simp[Tryz.ntmps65,Tryz.results65,List.replicate_succ,t1,t2,t3];exact aQz hB (h6:=(fin _ (by simp[qcz,h2,h3])))
 ·have t1:¬(65:Int)<=b.toNat:=by omega
  have t3:¬(97:Int)<=b.toNat:=by omega
  simp[Tryz.ntmps65,Tryz.results65,List.replicate_succ,t1,t3];exact aQz hB (h6:=(fin _ (by simp[qcz,h1];omega)))
def qnb(b:UInt8)(H:Hp)(fr:List AV)(H':Hp):Prop:=H'=H/\∃i:Nat,i<=15/\(sgs.take i).contains b=false/\∃x:Nat->AV,fr=[.int .u8 (b.toNat:Int),x 1,x 2,.str sgs,.int .i64 i,x 5,x 6,x 7,x 8,x 9,x 10,x 11,x 12,x 13,x 14,x 15,x 16,x 17,x 18,x 19,x 20,x 21]
theorem qg2(b:UInt8)(hQ:Q (.bool (qao b)) H):PC Tryz.prog E 48 [.int .u8 (b.toNat:Int)] H Q:=by
 refine qac Tryz.func48 rfl [] [] (by kernel_rfl) (fun hB=>?_);have fin:∀c:Bool,qao b=c->Q (.bool c) H:=fun c hc=>hc▸hQ;simp[Tryz.ntmps48,Tryz.results48,List.replicate_succ];refine qdh E _ _ b ?_;cases hd:qbF b
 ·simp;refine qfu E _ _ b ?_;cases hl:qcz b
  ·simp;refine qaB (qnb b H) (fun fr _=>15-(ai (aget fr 4)).toNat) ⟨rfl,0,by omega,rfl,qal (by simp[sgs])⟩ ?_;rintro fr H' ⟨rfl,i,hi,hall,x,rfl⟩;have hlen:sgs.length=15:=rfl;by_cases h:i<15
   ·obtain⟨c,hc⟩:∃c,sgs[i]? =some c:=⟨_,zqD (by rw[hlen];exact h)⟩
    have hat:=qap hc;have h15:(i:Int)<15:=by omega
    have hw:IntKind.i64.wrap ((i:Int)+1)=i+1:=wiz;by_cases he:c=b
    ·have t1:((c.toNat:Int)==(b.toNat:Int))=true:=by simp[he]
     simp[hlen,h15,hat,t1];refine aQz hB (h6:=(fin _ ?_));rw[<-qa3,show sgs.contains b=true by rw[List.contains_iff_mem,<-he];exact zqH hc];simp
    ·have t1:((c.toNat:Int)==(b.toNat:Int))=false:=by
      rw[beq_eq_false_iff_ne];intro hh;exact he (UInt8.toNat_inj.1 (by omega))
     simp[hlen,h15,hat,t1,hw];refine Klz ⟨rfl,i+1,by omega,?_,friz⟩;rw[List.take_add_one,hc];simp at hall;simp[hall];exact fun e=>he e.symm
   ·obtain rfl:i=15:=by omega
    simp[hlen];refine aQz hB (h6:=(fin _ ?_));rw[<-qa3,hd,hl];exact hall
  ·simp;refine aQz hB (h6:=(fin _ ?_));rw[<-qa3,hl];simp
 ·simp;refine aQz hB (h6:=(fin _ ?_));rw[<-qa3,hd];simp
end
section
variable (E:Env){H:Hp}(Q:AV->Hp->Prop)
theorem qkO(b:UInt8)(hQ:Q (.bool (qaS b)) H):PC Tryz.prog E 149 [.int .u8 (b.toNat:Int)] H Q:=by
 refine qaq (v:= .bool (qaS b)) (by kernel_rfl) (fun _=>True) (fun w hw=>trivial) (fun w β Rd cargs hS hsz hargs=>?_) (.bool _) rfl hQ;obtain⟨u,rfl,hu⟩:=args1 hsz hargs;obtain rfl:=qay hu;refine(qiC b w).mono ?_;rintro e w' ⟨rfl,rfl⟩;exact⟨_,rfl,Frm.refl _ _,.bool _⟩
theorem qdz(l:List UInt8)(most:Int)(hl:l.length<=cap)(hm1: -9223372036854775808<=most)(hm2:most<=9223372036854775807)(hQ:Q (.tup [.int .i64 (qae 10 most l).1,.int .i64 (qae 10 most l).2]) H):
  PC Tryz.prog E 92 [.str l,.int .i64 most] H Q:=by
 refine qaq (v:= .tup [.int .i64 (qae 10 most l).1,.int .i64 (qae 10 most l).2]) (by kernel_rfl) (fun _=>True) (fun w hw=>trivial) (fun w β Rd cargs hS hsz hargs=>?_) (.tup _ (fun x hx=>by simp at hx;rcases hx with rfl|rfl<;>exact .int _ _)) rfl hQ;obtain⟨u,v,rfl,hu,hv⟩:=args2 hsz hargs;obtain⟨s,rfl,rfl,hs⟩:=qax hu;obtain rfl:=qay hv;rw[qad]at hl;refine(qhJ s most hl hm1 hm2 w).mono ?_;rintro e w' ⟨rfl,hw⟩;refine⟨_,rfl,by first|exact hw|(subst hw;exact Frm.refl _ _),.tup _ _ rfl (by simp[AV.free]) fun k x u hx hu=>?_⟩
 match k with
 |0=>simp at hx hu;subst hx;subst hu;exact .int _ _
 |1=>simp at hx hu;subst hx;subst hu;exact .int _ _
 |k+2=>simp at hx
theorem qjP(l:List UInt8)(most:Int)(hl:l.length<=cap)(hm1: -9223372036854775808<=most)(hm2:most<=9223372036854775807)(hQ:Q (.tup [.int .i64 (qae 16 most l).1,.int .i64 (qae 16 most l).2]) H):
  PC Tryz.prog E 147 [.str l,.int .i64 most] H Q:=by
 refine qaq (v:= .tup [.int .i64 (qae 16 most l).1,.int .i64 (qae 16 most l).2]) (by kernel_rfl) (fun _=>True) (fun w hw=>trivial) (fun w β Rd cargs hS hsz hargs=>?_) (.tup _ (fun x hx=>by simp at hx;rcases hx with rfl|rfl<;>exact .int _ _)) rfl hQ;obtain⟨u,v,rfl,hu,hv⟩:=args2 hsz hargs;obtain⟨s,rfl,rfl,hs⟩:=qax hu;obtain rfl:=qay hv;rw[qad]at hl;refine(qiB s most hl hm1 hm2 w).mono ?_;rintro e w' ⟨rfl,hw⟩;refine⟨_,rfl,by first|exact hw|(subst hw;exact Frm.refl _ _),.tup _ _ rfl (by simp[AV.free]) fun k x u hx hu=>?_⟩
 match k with
 |0=>simp at hx hu;subst hx;subst hu;exact .int _ _
 |1=>simp at hx hu;subst hx;subst hu;exact .int _ _
 |k+2=>simp at hx
end
end Go.Proofs.YtnnhdehmlkkfjaaGreatDoor
namespace Go.Proofs.YtnnhdehmlkkfjaaGreatDoor
open Go Go.RowKit Go.Proofs
section
variable (E:Env)(H:Hp)(Q:AV->Hp->Prop)
end
section
variable (E:Env)(H:Hp)(Q:AV->Hp->Prop)
end
section
variable {r:Resp}{h:Mann}
end
section
variable (E:Env)(H:Hp)(Q:AV->Hp->Prop)
end
section
variable (E:Env)(H:Hp)(Q:AV->Hp->Prop)
end
section
variable (E:Env)(H:Hp)(Q:AV->Hp->Prop)
end
end Go.Proofs.YtnnhdehmlkkfjaaGreatDoor
namespace Go.Proofs.YtnnhdehmlkkfjaaGreatDoor
open Go Go.RowKit Go.Lib
def dgB(k:Nat):UInt8:=UInt8.ofNat (48+k)
theorem qob{u:Nat}(h:u<10):decDigits u=[dgB u]:=by rw[decDigits,dif_pos h];rfl
theorem qss{u:Nat}(h:¬u<10):decDigits u=decDigits (u/10)++[dgB (u%10)]:=by rw[decDigits,dif_neg h];rfl
def decD(u:Nat):List UInt8:=if u=0 then []else decDigits u
theorem qod(u:Nat)(h:u≠0):decD u=decD (u/10)++[dgB (u%10)]:=by
 unfold decD;rw[if_neg h];by_cases h10:u<10
 ·rw[qob h10,if_pos (by omega),Nat.mod_eq_of_lt h10];rfl
 ·rw[qss h10,if_neg (by omega)]
theorem qpf:∀k:Nat,k<10->IntKind.u8.wrap (48+(k:Int))=48+k:=by decide
end Go.Proofs.YtnnhdehmlkkfjaaGreatDoor
namespace Go.Proofs.YtnnhdehmlkkfjaaGreatDoor
open Go Go.RowKit Go.Proofs Go.Lib
def d3(n:Int):List UInt8:=[dgB (n.toNat/100),dgB (n.toNat/10%10),dgB (n.toNat%10)]
section
variable {r:Resp}{h:Mann}
end
end Go.Proofs.YtnnhdehmlkkfjaaGreatDoor
namespace Go.Proofs.YtnnhdehmlkkfjaaGreatDoor
open Go Go.RowKit Go.Lib
section
open Go.Lib
variable (E:Env)(H:Hp)(Q:AV->Hp->Prop)
def qpB(n:Int)(H:Hp)(fr:List AV)(H':Hp):Prop:=H'=H/\∃(m:Int) (out:List UInt8),m.natAbs<=n.natAbs/\decD m.natAbs++out=decDigits n.natAbs/\∃x:Nat->AV,fr=[.int .i64 m,x 1,x 2,.bool (decide (n<0)),.str out,x 5,x 6,x 7,x 8,x 9,x 10,x 11,x 12,x 13,x 14,x 15,x 16,x 17,x 18,x 19,x 20,x 21,x 22,x 23,x 24,x 25,x 26,x 27,x 28,x 29,x 30]
theorem qdA(n:Int)(h0: -9223372036854775808<=n)(h1:n<=9223372036854775807)(hQ:Q (.str (itoa n)) H):PC Tryz.prog E 33 [.int .i64 n] H Q:=by
 have hlen:=(qhX n h0 h1).2;refine qac Tryz.func33 rfl [] [] (by kernel_rfl) (fun hB=>?_);by_cases hz:n=0
 ·have e:itoa n=[48]:=by rw[hz];decide+kernel
  rw[e]at hQ;simp[Tryz.ntmps33,Tryz.results33,List.replicate_succ,hz];exact aQz hB (h6:=hQ)
 ·have tz:(n==0)=false:=by simpa using hz
  simp[Tryz.ntmps33,Tryz.results33,List.replicate_succ,tz];refine qaB (qpB n H) (fun fr _=>(ai (aget fr 0)).natAbs) ⟨rfl,n,[],Nat.le_refl _,by unfold decD;rw[if_neg (by omega)];simp,friz⟩ ?_;rintro fr H' ⟨rfl,m,out,hm,hout,x,rfl⟩
  have hol:out.length<=21:=by
   have:=congrArg List.length hout;rw[zqK]at this;omega
  by_cases hmz:m=0
  ·have tm:(m !=0)=false:=by simp[hmz]
   have e:out=decDigits n.natAbs:=by rw[<-hout,hmz];rfl
   have hml:out.length+1<=maxLen/\1+out.length<=maxLen:=by unfold maxLen;omega
   by_cases hn:n<0
   ·have ei:itoa n=45::out:=by unfold itoa;rw[if_pos hn,e]
    rw[ei]at hQ;simp[tm,hn,hml];exact aQz hB (h6:=hQ)
   ·have ei:itoa n=out:=by
     unfold itoa;rw[if_neg hn,e,show n.toNat=n.natAbs by omega]
    rw[ei]at hQ;simp[tm,hn];exact aQz hB (h6:=hQ)
  ·have tm:(m !=0)=true:=by simpa using hmz
   obtain⟨d,hd⟩:=exz (m.tmod 10);obtain⟨q,hq⟩:=exz (m.tdiv 10);have hda:d.natAbs=m.natAbs%10:=by rw[<-hd,Int.natAbs_tmod];rfl
   have hqa:q.natAbs=m.natAbs/10:=by rw[<-hq,Int.natAbs_tdiv];rfl
   have hwq:IntKind.i64.wrap q=q:=wiz;obtain⟨k,hk⟩:=exz (m.natAbs%10);have hk10:k<10:=by rw[<-hk];exact Nat.mod_lt _ (by omega)
   have hw48:IntKind.i64.wrap (48+(k:Int))=48+k:=wiz;have hu8:=qpf k hk10;have c1:(0:Int)<=48+k:=by omega
   have c2:(48:Int)+k<256:=by omega
   have htn:((48:Int)+k).toNat=48+k:=by omega
   have hml:out.length+1<=maxLen/\1+out.length<=maxLen:=by unfold maxLen;omega
   have hst:=qod m.natAbs (by omega);rw[hk,<-hqa]at hst;have hnext:decD q.natAbs++(dgB k::out)=decDigits n.natAbs:=by rw[<-hout,hst];simp
   by_cases hneg:d<0
   ·have hnd:IntKind.i64.wrap (-d)=k:=by rw[qah (by omega) (by omega)];omega
    have hnd2:IntKind.i64.wrap (0-d)=k:=by rw[qah (by omega) (by omega)];omega
    simp[tm,hd,hneg,hnd,hnd2,hw48,hu8,c1,c2,htn,hml,hq,hwq];exact Klz ⟨rfl,q,dgB k::out,by omega,hnext,qal (by simp[dgB])⟩
   ·have hdk:d=k:=by omega
    simp[tm,hd,hneg,hdk,hw48,hu8,c1,c2,htn,hml,hq,hwq];exact Klz ⟨rfl,q,dgB k::out,by omega,hnext,qal (by simp[dgB])⟩
end
end Go.Proofs.YtnnhdehmlkkfjaaGreatDoor
namespace Go.Proofs.YtnnhdehmlkkfjaaGreatDoor
open Go Go.RowKit
theorem qmH:∀n,n<256->((qcz (UInt8.ofNat n)||qbF (UInt8.ofNat n))||([45,46,95,126]:List UInt8).contains (UInt8.ofNat n))=qbv (UInt8.ofNat n):=by decide
theorem qpe(b:UInt8):((qcz b||qbF b)||([45,46,95,126]:List UInt8).contains b)=qbv b:=by
 have:=qmH b.toNat b.toNat_lt;rwa[qcc]at this
theorem qr8:∀n,n<256->qaS (UInt8.ofNat n)=decide (0<=hexT (UInt8.ofNat n)):=by decide
theorem qqX(b:UInt8):qaS b=decide (0<=hexT b):=by
 have:=qr8 b.toNat b.toNat_lt;rwa[qcc]at this
section
open Go.Lib
variable (E:Env){H:Hp}(Q:AV->Hp->Prop)
def rfinI(b:UInt8)(l:List UInt8)(H:Hp)(fr:List AV)(K:Hp):Prop:=K=H/\∃i:Nat,i<=l.length/\(l.take i).contains b=false/\∃x:Nat->AV,fr=[.int .u8 (b.toNat:Int),.str l,x 2,x 3,x 4,.int .i64 (i:Int),x 6,x 7,x 8,x 9,x 10,x 11,x 12,x 13,x 14,x 15,x 16]
theorem qhH(b:UInt8)(l:List UInt8)(hl:l.length<=1073741824)(hQ:Q (.bool (l.contains b)) H):PC Tryz.prog E 125 [.int .u8 (b.toNat:Int),.str l] H Q:=by
 refine qac Tryz.func125 rfl [] [] (by kernel_rfl) (fun hB=>?_);have fin:∀c:Bool,l.contains b=c->Q (.bool c) H:=fun c hc=>hc▸hQ;simp[Tryz.ntmps125,Tryz.results125,List.replicate_succ];refine qaB (rfinI b l H) (fun fr _=>l.length-(ai (aget fr 5)).toNat) ⟨rfl,0,by omega,rfl,friz⟩ ?_;rintro fr K ⟨rfl,i,hi,hall,x,rfl⟩;by_cases h:i<l.length
 ·obtain⟨c,hc⟩:∃c,l[i]? =some c:=⟨_,zqD h⟩
  have la:=qap hc;have w1:IntKind.i64.wrap ((i:Int)+1)=i+1:=wiz;by_cases he:c=b
  ·subst he;simp[h,la];exact aQz hB (h6:=(fin _ (by rw[List.contains_iff_mem];exact zqH hc)))
  ·have t1:((c.toNat:Int)==(b.toNat:Int))=false:=by
    rw[beq_eq_false_iff_ne];exact fun hh=>he (UInt8.toNat_inj.1 (by omega))
   simp[h,la,t1,w1];refine Klz ⟨rfl,i+1,by omega,?_,friz⟩;rw[List.take_add_one,hc];simp at hall;simp[hall];exact fun e=>he e.symm
 ·obtain rfl:i=l.length:=by omega
  rw[List.take_length]at hall;simp;exact aQz hB (h6:=(fin _ hall))
theorem qg0(b:UInt8)(hQ:Q (.bool (qbv b)) H):PC Tryz.prog E 122 [.int .u8 (b.toNat:Int)] H Q:=by
 refine qac Tryz.func122 rfl [] [] (by kernel_rfl) (fun hB=>?_);rw[<-qpe]at hQ;simp[Tryz.ntmps122,Tryz.results122,List.replicate_succ];refine qfu E _ _ b ?_;cases h1:qcz b with
 |true=>
  rw[h1]at hQ;simp;exact aQz hB (h6:=(by simpa using hQ))
 |false=>
  rw[h1]at hQ;simp;refine qdh E _ _ b ?_;cases h2:qbF b with
  |true=>
   rw[h2]at hQ;simp;exact aQz hB (h6:=(by simpa using hQ))
  |false=>
   rw[h2]at hQ;simp;refine qhH E _ b [45,46,95,126] (by decide) ?_;rw[Bool.or_false,Bool.false_or]at hQ
   generalize ([45,46,95,126]:List UInt8).contains b=z at hQ⊢
   simp;exact aQz hB (h6:=hQ)
theorem qkK(b:UInt8)(hQ:Q (.bool (qbI b)) H):PC Tryz.prog E 123 [.int .u8 (b.toNat:Int)] H Q:=by
 refine qac Tryz.func123 rfl [] [] (by kernel_rfl) (fun hB=>?_);simp[Tryz.ntmps123,Tryz.results123,List.replicate_succ];refine qhH E _ b [33,36,38,39,40,41,42,43,44,59,61] (by decide) ?_;unfold qbI at hQ
 generalize ([33,36,38,39,40,41,42,43,44,59,61]:List UInt8).contains b=z at hQ⊢
 simp;exact aQz hB (h6:=hQ)
theorem qf7(s:List UInt8)(i:Nat)(hi:i<s.length)(hl:s.length<=1073741824)(hQ:Q (.bool (qbs (s.drop i))) H):PC Tryz.prog E 121 [.str s,.int .i64 (i:Int)] H Q:=by
 refine qac Tryz.func121 rfl [] [] (by kernel_rfl) (fun hB=>?_);have w2:IntKind.i64.wrap ((i:Int)+2)=i+2:=wiz;have w1:IntKind.i64.wrap ((i:Int)+1)=i+1:=wiz;by_cases h:i+2<s.length
 ·obtain⟨a,ha⟩:∃a,s[i]? =some a:=⟨_,zqD hi⟩
  obtain⟨b,hb⟩:∃b,s[i+1]? =some b:=⟨_,zqD (by omega)⟩
  obtain⟨c,hc⟩:∃c,s[i+2]? =some c:=⟨_,zqD h⟩
  have la:=qap ha;have lb:=qap hb;have lc:=qap hc;have n1:(i:Int)+2<s.length:=by omega
  have q1:((i:Int)+1).toNat=i+1:=by omega
  have q2:((i:Int)+2).toNat=i+2:=by omega
  have q3:(0:Int)<=i+1:=by omega
  have q4:(0:Int)<=i+2:=by omega
  have hd:s.drop i=a::b::c::s.drop (i+3):=by rw[qar s i a ha,qar s (i+1) b hb,qar s (i+2) c hc]
  rw[hd]at hQ;by_cases h37:a=37
  ·subst h37;simp[Tryz.ntmps121,Tryz.results121,List.replicate_succ,w2,w1,n1,la,lb,lc,q1,q2,q3,q4];refine qkO E _ b ?_;rw[qqX];by_cases x1:0<=hexT b
   ·simp[x1,lb,lc,q1,q2,q3,q4,w1,w2];refine qkO E _ c ?_;rw[qqX];have e:qbs (37::b::c::s.drop (i+3))=decide (0<=hexT c):=by simp[qbs,x1]
    rw[e]at hQ;simp;exact aQz hB (h6:=hQ)
   ·have e:qbs (37::b::c::s.drop (i+3))=false:=by simp[qbs,x1]
    rw[e]at hQ;simp[x1];exact aQz hB (h6:=hQ)
  ·have hb2:=(qaw a 37 (by decide) 37 rfl h37).1;have e:qbs (a::b::c::s.drop (i+3))=false:=by simp[qbs,h37]
   rw[e]at hQ;simp[Tryz.ntmps121,Tryz.results121,List.replicate_succ,w2,w1,n1,la,hb2];exact aQz hB (h6:=hQ)
 ·have n1:¬(i:Int)+2<s.length:=by omega
  have e:qbs (s.drop i)=false:=by
   have:(s.drop i).length<=2:=by rw[zqI];omega
   match s.drop i,this with
   |[],_=>rfl
   |[_],_=>rfl
   |[_,_],_=>rfl
  rw[e]at hQ;simp[Tryz.ntmps121,Tryz.results121,List.replicate_succ,w2,n1];exact aQz hB (h6:=hQ)
def rfscI(s more:List UInt8)(other:Int)(may:UInt8->Bool)(H:Hp)(fr:List AV)(K:Hp):Prop:=K=H/\∃i:Nat,i<=s.length/\qaE may s=i+qaE may (s.drop i)/\
 ∃x:Nat->AV,fr=[.str s,x 1,.str more,.int .i64 other,x 4,x 5,x 6,x 7,x 8,x 9,.int .i64 (i:Int),x 11,x 12,x 13,x 14,x 15,x 16,x 17,x 18,x 19,x 20,x 21,x 22,x 23,x 24,x 25,x 26,x 27,x 28,x 29,x 30,x 31,x 32,x 33,x 34,x 35,x 36,x 37,x 38,x 39,x 40,x 41,x 42,x 43,x 44,x 45,x 46,x 47,x 48,x 49,x 50,x 51,x 52,x 53,x 54,x 55,x 56,x 57]
theorem qm2{may:UInt8->Bool}{s:List UInt8}{i:Nat}{c:UInt8}(hS:qaE may s=i+qaE may (s.drop i))(hc:s[i]? =some c)(ht:qbs (s.drop i)=false)(hm:may c=false)(other:Int):qcD may other s=qcE c other:=by
 have hd:=qar s i c hc;rw[hd]at hS ht;rw[qbk,if_neg (by rw[ht];simp),if_neg (by rw[hm];simp)]at hS;unfold qcD;rw[hS,Nat.add_zero,hd]
theorem qiv(s more:List UInt8)(other:Int)(may:UInt8->Bool)(hm:∀c,(((qbv c||qbI c)||([58,64]:List UInt8).contains c)||more.contains c)=may c)(h37:may 37=false)(hl:s.length<=1073741824)(hml:more.length<=1024)(hQ:∀v:Int,0<=v->v<=1073741824->Q (.tup [.int .i64 v,.int .i64 (qcD may other s)]) H):PC Tryz.prog E 93 [.str s,.int .i64 0,.str more,.int .i64 other] H Q:=by
 refine qac Tryz.func93 rfl [] [] (by kernel_rfl) (fun hB=>?_);have fin:∀e,qcD may other s=e->∀v:Int,0<=v->v<=1073741824->Q (.tup [.int .i64 v,.int .i64 e]) H:=fun e h v h1 h2=>h▸hQ v h1 h2;simp[Tryz.ntmps93,Tryz.results93,List.replicate_succ];refine qaB (rfscI s more other may H) (fun fr _=>s.length-(ai (aget fr 10)).toNat) ⟨rfl,0,by omega,by simp,friz⟩ ?_;rintro fr K ⟨rfl,i,hi,hS,x,rfl⟩;by_cases h:i<s.length
 ·obtain⟨c,hc⟩:∃c,s[i]? =some c:=⟨_,zqD h⟩
  have la:=qap hc;have hd:=qar s i c hc;have w3:IntKind.i64.wrap ((i:Int)+3)=i+3:=wiz;have w1:IntKind.i64.wrap ((i:Int)+1)=i+1:=wiz;by_cases h3:c=37
  ·subst h3;simp[h,la];refine qf7 E _ s i h hl ?_;cases ht:qbs (s.drop i)with
   |true=>
    have h3:=qer ht;rw[zqI]at h3;rw[hd]at hS ht;rw[qbk,if_pos ht,List.drop_drop]at hS;simp[w3];exact Klz ⟨rfl,i+3,by omega,by rw[hS,show i+1+2=i+3 by omega];omega,friz⟩
   |false=>
    have he:=qm2 hS hc ht h37 other;simp;exact aQz hB (h6:=(fin 51 he _ (by omega) (by omega)))
  ·have h3':=(qaw c 37 (by decide) 37 rfl h3).1
   have ht:qbs (s.drop i)=false:=by
    rw[hd]
    match s.drop (i+1)with
    |[]=>rfl
    |[_]=>rfl
    |_::_::_=>simp[qbs,h3]
   have hmc:=hm c
   have go:may c=true->qaE may s=(i+1)+qaE may (s.drop (i+1)):=fun hy=>by
    rw[hd]at hS ht;rw[hS,qbk,if_neg (by rw[ht];simp),if_pos hy];omega
   simp[h,la,h3'];refine qg0 E _ c ?_;cases u1:qbv c with
   |true=>
    rw[u1]at hmc;simp[w1];exact Klz ⟨rfl,i+1,by omega,go (by rw[<-hmc];rfl),friz⟩
   |false=>
    simp[la];refine qkK E _ c ?_;cases u2:qbI c with
    |true=>
     rw[u1,u2]at hmc;simp[w1];exact Klz ⟨rfl,i+1,by omega,go (by rw[<-hmc];rfl),friz⟩
    |false=>
     simp[la];refine qhH E _ c [58,64] (by decide) ?_;cases u3:([58,64]:List UInt8).contains c with
     |true=>
      rw[u1,u2,u3]at hmc;simp[w1];exact Klz ⟨rfl,i+1,by omega,go (by rw[<-hmc];rfl),friz⟩
     |false=>
      simp[la];refine qhH E _ c more (by omega) ?_;rw[u1,u2,u3,Bool.false_or,Bool.false_or,Bool.false_or]at hmc;rw[hmc];cases u4:may c with
      |true=>
       simp[w1];exact Klz ⟨rfl,i+1,by omega,go u4,friz⟩
      |false=>
       have he:=qm2 hS hc ht u4 other;have hw:qcE c other=other:=by unfold qcE;rw[if_neg h3]
       simp;exact aQz hB (h6:=(fin other (he.trans hw) _ (by omega) (by omega)))
 ·obtain rfl:i=s.length:=by omega
  have h0:qcD may other s=0:=by
   unfold qcD;rw[hS,List.drop_length,qcU,Nat.add_zero,List.drop_length]
  simp;exact aQz hB (h6:=(fin 0 h0 0 (by omega) (by omega)))
def rfcutI(s:List UInt8)(c:UInt8)(H:Hp)(fr:List AV)(K:Hp):Prop:=K=H/\∃i:Nat,i<=s.length/\(∀x∈s.take i,x≠c)/\∃x:Nat->AV,fr=[.str s,.int .u8 (c.toNat:Int),x 2,x 3,x 4,x 5,x 6,.int .i64 (i:Int),x 8,x 9,x 10,x 11,x 12,x 13,x 14,x 15,x 16,x 17,x 18,x 19,x 20,x 21,x 22,x 23,x 24,x 25,x 26]
theorem qqb {s : List UInt8} {c : UInt8} {i : Nat} (h : ∀ x ∈ s.take i, x ≠ c) (hc : s[i]? = some c) : cut1 c s = (s.take i, s.drop (i + 1), true) := by
  have hs : s = s.take i ++ c :: s.drop (i + 1) := by rw [← qar s i c hc, List.take_append_drop]
  have h1 : s.takeWhile (· != c) = s.take i := by
    conv => lhs; rw [hs]
    rw [List.takeWhile_append_of_pos (fun x hx => by simpa using h x hx), List.takeWhile_cons_of_neg (by simp), List.append_nil]
  have h2 : s.dropWhile (· != c) = c :: s.drop (i + 1) := by
    conv => lhs; rw [hs]
    rw [List.dropWhile_append_of_pos (fun x hx => by simpa using h x hx), List.dropWhile_cons_of_neg (by simp)]
  unfold cut1
  rw [h1, h2]
  refine Prod.ext rfl (Prod.ext rfl ?_)
  show s.contains c = true
  rw [List.contains_iff_mem]
  exact zqH hc
theorem qgC {s : List UInt8} {c : UInt8} (h : ∀ x ∈ s, x ≠ c) : cut1 c s = (s, [], false) := by
  have h1 : s.takeWhile (· != c) = s := by
    have := List.takeWhile_append_of_pos (p := (· != c)) (l₁ := s) (l₂ := []) (fun x hx => by simpa using h x hx)
    simpa using this
  have h2 : s.dropWhile (· != c) = [] := by
    have := List.dropWhile_append_of_pos (p := (· != c)) (l₁ := s) (l₂ := []) (fun x hx => by simpa using h x hx)
    simpa using this
  unfold cut1
  rw [h1, h2]
  refine Prod.ext rfl (Prod.ext rfl ?_)
  show s.contains c = false
  rw [Bool.eq_false_iff]
  intro hc
  rw [List.contains_iff_mem] at hc
  exact h c hc rfl
theorem qeB(s:List UInt8)(c:UInt8)(hl:s.length<=1073741824)(hQ:Q (.tup [.str (cut1 c s).1,.str (cut1 c s).2.1,.bool (cut1 c s).2.2]) H):PC Tryz.prog E 89 [.str s,.int .u8 (c.toNat:Int)] H Q:=by
 refine qac Tryz.func89 rfl [] [] (by kernel_rfl) (fun hB=>?_);have fin:∀a b t,cut1 c s=(a,b,t)->Q (.tup [.str a,.str b,.bool t]) H:=fun a b t h=>by rw[h]at hQ;exact hQ
 simp[Tryz.ntmps89,Tryz.results89,List.replicate_succ];refine qaB (rfcutI s c H) (fun fr _=>s.length-(ai (aget fr 7)).toNat) ⟨rfl,0,by omega,by simp,friz⟩ ?_;rintro fr K ⟨rfl,i,hi,hall,x,rfl⟩;by_cases h:i<s.length
 ·obtain⟨b,hb⟩:∃b,s[i]? =some b:=⟨_,zqD h⟩
  have la:=qap hb;have w1:IntKind.i64.wrap ((i:Int)+1)=i+1:=wiz;have w1':IntKind.i64.wrap ((i:Int)+1)=((i+1:Nat):Int):=by rw[w1];omega
  by_cases he:b=c
  ·subst he;have q1:i+1<=s.length:=h;have ht:(s.drop (i+1)).take (s.length-(i+1))=s.drop (i+1):=zqE (by simp);simp[h,la,hi,w1',q1,ht,-Int.natCast_add];exact aQz hB (h6:=(fin _ _ _ (qqb hall hb)))
  ·have t1:((b.toNat:Int)==(c.toNat:Int))=false:=by
    rw[beq_eq_false_iff_ne];exact fun hh=>he (UInt8.toNat_inj.1 (by omega))
   simp[h,la,t1,w1];refine Klz ⟨rfl,i+1,by omega,fun y hy=>?_,friz⟩;rw[List.take_add_one,hb]at hy;rcases List.mem_append.1 hy with hy|hy
   ·exact hall y hy
   ·simp at hy;subst hy;exact he
 ·obtain rfl:i=s.length:=by omega
  rw[List.take_length]at hall;simp;exact aQz hB (h6:=(fin _ _ _ (qgC hall)))
def rfsplI(s:List UInt8)(c:UInt8)(H:Hp)(fr:List AV)(K:Hp):Prop:=K=H/\∃(out:List (List UInt8)) (r:List UInt8),r.length<=s.length/\out.length+r.length<=s.length/\out++qa9 c r=qa9 c s/\∃x:Nat->AV,fr=[.str r,.int .u8 (c.toNat:Int),x 2,x 3,x 4,.sl true 1 (strs out),x 6,x 7,x 8,x 9,x 10,x 11,x 12,x 13,x 14,x 15,x 16,x 17,x 18,x 19,x 20,x 21,x 22,x 23,x 24]
def aslen:AV->Nat
 | .str l=>l.length
 |_=>0
theorem qg1 (s : List UInt8) (c : UInt8) (hl : s.length ≤ 1073741824) (hQ : Q (.sl false 1 (strs (qa9 c s))) H) : PC Tryz.prog E 146 [.str s, .int .u8 (c.toNat : Int)] H Q := by
  refine qac Tryz.func146 rfl [17] [] (by kernel_rfl) (fun hB => ?_)
  simp [Tryz.ntmps146, Tryz.results146, List.replicate_succ]
  refine qaB (rfsplI s c H) (fun fr _ => aslen (aget fr 0)) ⟨rfl, [], s, by omega, by simp, by simp, qal (by simp [strs])⟩ ?_
  rintro fr K ⟨rfl, out, r, hr, hor, hS, x, rfl⟩
  have m1 : out.length + 1 ≤ maxLen := by unfold maxLen; omega
  have m2 : (out.length + 1) * 16 ≤ 140737488355328 := by omega
  have m3 : out.length ≤ maxLen := by unfold maxLen; omega
  have hsn : ∀ a : List UInt8, strs out ++ [[AV.str a]] = strs (out ++ [a]) := fun a => by simp [strs]
  simp
  refine qeB E _ r c (by omega) ?_
  rw [qpw] at hS
  cases hh : r.contains c with
  | true =>
    rw [if_pos hh] at hS
    have e1 : (cut1 c r).1 = r.takeWhile (· != c) := rfl
    have e2 : (cut1 c r).2.1 = (r.dropWhile (· != c)).drop 1 := rfl
    have e3 : (cut1 c r).2.2 = true := hh
    rw [← e1, ← e2] at hS
    have hne : r.dropWhile (· != c) ≠ [] := by
      have := qdD r c
      rw [hh] at this
      exact ((qfh r c).1 (by simpa using this)).2
    have hlt : (cut1 c r).2.1.length < r.length := by
      rw [e2, zqI]
      obtain ⟨t1, t2⟩ := qbX (· != c) r
      have h1 : (r.dropWhile (· != c)).length ≤ r.length := by rw [← t2, zqI]; omega
      have h2 := List.length_pos_iff.2 hne
      omega
    rw [e3]
    generalize (cut1 c r).1 = a at hS ⊢
    generalize (cut1 c r).2.1 = b at hS hlt ⊢
    simp [m1, m2, m3, hsn]
    exact qaC ⟨rfl, out ++ [a], b, by omega, by simp; omega, by rw [← hS]; simp, friz⟩ (by simpa [aslen] using hlt)
  | false =>
    rw [if_neg (by rw [hh]; simp)] at hS
    have e3 : (cut1 c r).2.2 = false := hh
    have e1 : (cut1 c r).1 = r := by
      refine congrArg (·.1) (qgC (c := c) fun x hx e => ?_)
      subst e
      rw [Bool.eq_false_iff] at hh
      exact hh (List.contains_iff_mem.2 hx)
    rw [e3, e1]
    rw [← hS] at hQ
    simp [m1, m2, m3, hsn]
    exact qas hB (v0 := .sl false 1 (strs (out ++ [r]))) (v := .sl false 1 (strs (out ++ [r]))) (by simp) (qaa _) (.sl _ _ _ fun q hq y hy => by simp [strs] at hq; rcases hq with ⟨_, _, rfl⟩ | rfl <;> (simp at hy; subst hy; exact .str _)) hQ
theorem qiy(s:List UInt8)(hl:s.length<=1073741824)(hQ:Q (.bool (qd0 s)) H):PC Tryz.prog E 168 [.str s] H Q:=by
 refine qac Tryz.func168 rfl [] [] (by kernel_rfl) (fun hB=>?_);simp[Tryz.ntmps168,Tryz.results168,List.replicate_succ];refine qdz E _ s 255 (by simp only[cap];omega) (by decide) (by decide) ?_;have hr:=qcp s 255 (by decide);unfold qd0 at hQ;by_cases he:(qae 10 255 s).2=0
 ·simp[he];refine qdA E _ _ _ (by omega) (by omega) ?_;rw[he]at hQ;simp;exact aQz hB (h6:=(by simpa using hQ))
 ·have he1:((qae 10 255 s).2==0)=false:=by simpa using he
  rw[he1]at hQ;simp[he1];exact aQz hB (h6:=(by simpa using hQ))
def rfqI(L:List (List UInt8))(H:Hp)(fr:List AV)(K:Hp):Prop:=K=H/\∃i:Nat,i<=L.length/\(L.take i).all qd0=true/\∃x:Nat->AV,fr=[x 0,x 1,x 2,.sl false 1 (strs L),.int .i64 (i:Int),x 5,x 6,x 7,x 8,x 9,x 10,x 11,x 12,x 13,x 14,x 15,x 16,x 17,x 18,x 19,x 20,x 21]
theorem qiw(s:List UInt8)(hl:s.length<=1073741824)(hQ:Q (.bool (dotB s)) H):PC Tryz.prog E 148 [.str s] H Q:=by
 refine qac Tryz.func148 rfl [] [] (by kernel_rfl) (fun hB=>?_);simp[Tryz.ntmps148,Tryz.results148,List.replicate_succ];refine qg1 E _ s 46 hl ?_;obtain⟨h1,h2⟩:=qcT 46 s;obtain⟨L,hL⟩:=exz (qa9 46 s);unfold dotB at hQ;rw[hL]at h1 h2 hQ⊢;simp;refine qaB (rfqI L H) (fun fr _=>L.length-(ai (aget fr 4)).toNat) ⟨rfl,0,by omega,by simp,friz⟩ ?_;rintro fr K ⟨rfl,i,hi,hS,x,rfl⟩;by_cases h:i<L.length
 ·obtain⟨g,hg⟩:∃g,L[i]? =some g:=⟨_,zqD h⟩
  have hat:=qct hg;have hgl:=h2 g (zqH hg);have w1:IntKind.i64.wrap ((i:Int)+1)=i+1:=wiz;have hst:=qbV qd0 L i g hg;have hsp:=qds qd0 L i g hg;simp[h,hat];refine qiy E _ g (by omega) ?_;cases hd:qd0 g with
  |true=>
   simp[w1];exact Klz ⟨rfl,i+1,by omega,by rw[hst,hS,hd];rfl,friz⟩
  |false=>
   rw[hsp hd]at hQ;simp;exact aQz hB (h6:=(by simpa using hQ))
 ·obtain rfl:i=L.length:=by omega
  rw[List.take_length]at hS;rw[hS,Bool.true_and]at hQ;simp;refine aQz hB (h6:=?_);have:((L.length:Int)==4)=(L.length==4):=by rw[Bool.eq_iff_iff];simp;omega
  rw[this];exact hQ
def rfgI(s:List UInt8)(last:Bool)(L:List (List UInt8))(H:Hp)(fr:List AV)(K:Hp):Prop:=K=H/\∃(i:Nat) (n:Int),i<=L.length/\0<=n/\n<=2*i/\goD' last L 0=goD' last (L.drop i) n/\
 ∃x:Nat->AV,fr=[.str s,.bool last,x 2,x 3,x 4,.sl false 1 (strs L),.int .i64 n,.int .i64 (i:Int),x 8,x 9,x 10,x 11,x 12,x 13,x 14,x 15,x 16,x 17,x 18,x 19,x 20,x 21,x 22,x 23,x 24,x 25,x 26,x 27,x 28,x 29,x 30,x 31,x 32,x 33,x 34,x 35,x 36,x 37,x 38,x 39,x 40,x 41,x 42,x 43,x 44,x 45,x 46,x 47,x 48,x 49,x 50,x 51,x 52,x 53,x 54,x 55,x 56,x 57]
theorem qd9(s:List UInt8)(last:Bool)(hl:s.length<=1073741824)(hQ:∀v,grpD s last=v->Q (.int .i64 v) H):PC Tryz.prog E 120 [.str s,.bool last] H Q:=by
 refine qac Tryz.func120 rfl [] [] (by kernel_rfl) (fun hB=>?_);by_cases h0:s=[]
 ·subst h0;simp[Tryz.ntmps120,Tryz.results120,List.replicate_succ];exact aQz hB (h6:=(hQ 0 rfl))
 have h0':(s==[])=false:=by simpa using h0
 simp[Tryz.ntmps120,Tryz.results120,List.replicate_succ,h0'];refine qg1 E _ s 58 hl ?_;obtain⟨h1,h2⟩:=qcT 58 s;have fin:∀v,goD' last (qa9 58 s) 0=v->Q (.int .i64 v) H:=fun v h=>hQ v (by unfold grpD;rw[if_neg h0];exact h);obtain⟨L,hL⟩:=exz (qa9 58 s);rw[hL]at h1 h2 fin⊢;clear hQ;simp;refine qaB (rfgI s last L H) (fun fr _=>L.length-(ai (aget fr 7)).toNat) ⟨rfl,0,0,by omega,by omega,by omega,by simp,friz⟩ ?_;rintro fr K ⟨rfl,i,n,hi,hn,hn2,hS,x,rfl⟩;by_cases h:i<L.length
 ·obtain⟨g,hg⟩:∃g,L[i]? =some g:=⟨_,zqD h⟩
  have hat:=qct hg;have hgl:=h2 g (zqH hg);have w1:IntKind.i64.wrap ((i:Int)+1)=i+1:=wiz;have v1:IntKind.i64.wrap (n+1)=n+1:=wiz;have v2:IntKind.i64.wrap (n+2)=n+2:=wiz;have w3:IntKind.i64.wrap ((L.length:Int)-1)=L.length-1:=wiz;rw[qla L i g hg,goD']at hS
  have hem:(L.drop (i+1)).isEmpty=((i:Int)==(L.length:Int)-1):=by
   rw[Bool.eq_iff_iff];simp;omega
  rw[hem]at hS;simp[h,hat];refine qjP E _ g 65535 (by simp only[cap];omega) (by decide) (by decide) ?_;have yes:hexP g=true->goD' last L 0=goD' last (L.drop (i+1)) (n+1):=fun hx=>by rw[hS,hx];simp
  have no:hexP g=false->goD' last L 0=if(last&&((i:Int)==(L.length:Int)-1)&&dotB g)=true then goD' last (L.drop (i+1)) (n+2)else-1:=fun hx=>by rw[hS,hx];simp
  have tail:hexP g=false->(last=false\/(last=true/\((i:Int)==(L.length:Int)-1)=false))->goD' last L 0= -1:=fun hx hc=>by
   rw[no hx];rcases hc with rfl|⟨rfl,hc⟩
   ·simp
   ·rw[hc];simp
  have quadC:hexP g=false->last=true->((i:Int)==(L.length:Int)-1)=true->goD' last L 0=if dotB g=true then goD' last (L.drop (i+1)) (n+2)else-1:=fun hx h1 h2=>by
   rw[no hx,h1,h2];simp
  by_cases he:(qae 16 65535 g).2=0
  ·by_cases h4:g.length<=4
   ·have hx:hexP g=true:=by unfold hexP;simp[he,h4]
    have h4':(g.length:Int)<=4:=by omega
    simp[he,h4',hat,v1,w1];exact Klz ⟨rfl,i+1,n+1,by omega,by omega,by omega,yes hx,friz⟩
   ·have hx:hexP g=false:=by unfold hexP;simp[h4]
    have h4':¬(g.length:Int)<=4:=by omega
    by_cases hcd:last=true
    ·by_cases his:((i:Int)==(L.length:Int)-1)=true
     ·have hq:=quadC hx hcd his;subst hcd;simp[he,h4',hat,w3,his];refine qiw E _ g (by omega) ?_;cases hdq:dotB g with
      |true=>
       rw[hdq,if_pos rfl]at hq;simp[v2,w1];exact Klz ⟨rfl,i+1,n+2,by omega,by omega,by omega,hq,friz⟩
      |false=>
       rw[hdq,if_neg (by simp)]at hq;simp;exact aQz hB (h6:=(fin _ hq))
     ·have his':((i:Int)==(L.length:Int)-1)=false:=by simpa using his
      have hq:=tail hx (.inr ⟨hcd,his'⟩);subst hcd;simp[he,h4',hat,w3,his'];exact aQz hB (h6:=(fin _ hq))
    ·have hcd':last=false:=by simpa using hcd
     have hq:=tail hx (.inl hcd');subst hcd';simp[he,h4',hat];exact aQz hB (h6:=(fin _ hq))
  ·have hx:hexP g=false:=by unfold hexP;simp[he]
   have he1:((qae 16 65535 g).2==0)=false:=by simpa using he
   by_cases hcd:last=true
   ·by_cases his:((i:Int)==(L.length:Int)-1)=true
    ·have hq:=quadC hx hcd his;subst hcd;simp[he1,hat,w3,his];refine qiw E _ g (by omega) ?_;cases hdq:dotB g with
     |true=>
      rw[hdq,if_pos rfl]at hq;simp[v2,w1];exact Klz ⟨rfl,i+1,n+2,by omega,by omega,by omega,hq,friz⟩
     |false=>
      rw[hdq,if_neg (by simp)]at hq;simp;exact aQz hB (h6:=(fin _ hq))
    ·have his':((i:Int)==(L.length:Int)-1)=false:=by simpa using his
     have hq:=tail hx (.inr ⟨hcd,his'⟩);subst hcd;simp[he1,hat,w3,his'];exact aQz hB (h6:=(fin _ hq))
   ·have hcd':last=false:=by simpa using hcd
    have hq:=tail hx (.inl hcd');subst hcd';simp[he1,hat];exact aQz hB (h6:=(fin _ hq))
 ·obtain rfl:i=L.length:=by omega
  rw[List.drop_length,goD']at hS;simp;exact aQz hB (h6:=(fin _ hS))
theorem qk1(s:List UInt8)(last:Bool)(hl:s.length<=1073741824): -1<=grpD s last/\grpD s last<=2147483648:=by
 rw[qhY];have:=qee s last hl;split<;>omega
def rfaI(s:List UInt8)(H:Hp)(fr:List AV)(K:Hp):Prop:=K=H/\∃i:Nat,i<=s.length/\cut2 58 s=(s.take i++(cut2 58 (s.drop i)).1,(cut2 58 (s.drop i)).2)/\∃x:Nat->AV,fr=[.str s,x 1,x 2,.int .i64 (i:Int),x 4,x 5,x 6,x 7,x 8,x 9,x 10,x 11,x 12,x 13,x 14,x 15,x 16,x 17,x 18,x 19,x 20,x 21,x 22,x 23,x 24,x 25,x 26,x 27,x 28,x 29,x 30,x 31,x 32,x 33,x 34,x 35,x 36,x 37,x 38,x 39,x 40,x 41,x 42,x 43,x 44,x 45,x 46,x 47]
theorem qm7(s:List UInt8)(hl:s.length<=1073741824)(hQ:Q (.bool (qfo s)) H):PC Tryz.prog E 90 [.str s] H Q:=by
 refine qac Tryz.func90 rfl [] [] (by kernel_rfl) (fun hB=>?_);rw[addrD]at hQ;simp[Tryz.ntmps90,Tryz.results90,List.replicate_succ];refine qaB (rfaI s H) (fun fr _=>s.length-(ai (aget fr 3)).toNat) ⟨rfl,0,by omega,by simp,friz⟩ ?_;rintro fr K ⟨rfl,i,hi,hS,x,rfl⟩;have w1:IntKind.i64.wrap ((i:Int)+1)=i+1:=wiz;have w2:IntKind.i64.wrap ((i:Int)+2)=((i+2:Nat):Int):=by rw[qah (by omega) (by omega)];omega
 by_cases h:i+1<s.length
 ·obtain⟨a,ha⟩:∃a,s[i]? =some a:=⟨_,zqD (by omega)⟩
  obtain⟨b,hb⟩:∃b,s[i+1]? =some b:=⟨_,zqD h⟩
  have la:=qap ha;have lb:=qap hb;have h':(i:Int)+1<s.length:=by omega
  have q1:((i:Int)+1).toNat=i+1:=by omega
  have q3:(0:Int)<=i+1:=by omega
  have hd:s.drop i=a::b::s.drop (i+2):=by rw[qar s i a ha,qar s (i+1) b hb]
  have hd1:s.drop (i+1)=b::s.drop (i+2):=qar s (i+1) b hb
  have next:¬(a=58/\b=58)->cut2 58 s=(s.take (i+1)++(cut2 58 (s.drop (i+1))).1,(cut2 58 (s.drop (i+1))).2):=fun hn=>by
   rw[hS,hd,cut2,if_neg hn,hd1,List.take_add_one,ha];simp
  by_cases h1:a=58
  ·subst h1;by_cases h2:b=58
   ·subst h2
    have hcut:cut2 58 s=(s.take i,s.drop (i+2),true):=by
     rw[hS,hd,cut2,if_pos ⟨rfl,rfl⟩];simp
    rw[hcut]at hQ;dsimp only at hQ;have t1:(s.take i).length<=1073741824:=by rw[zqJ];omega
    have t2:(s.drop (i+2)).length<=1073741824:=by rw[zqI];omega
    have r1:=qk1 (s.take i) false t1;have r2:=qk1 (s.drop (i+2)) true t2;have q5:i+2<=s.length:=h;have ht:(s.drop (i+2)).take (s.length-(i+2))=s.drop (i+2):=zqE (by simp);simp[w1,h',la,lb,q1,q3,hi];refine qd9 E _ (s.take i) false t1 (fun v hv=>?_);simp[w2,q5,ht,-Int.natCast_add];refine qd9 E _ (s.drop (i+2)) true t2 (fun u hu=>?_);rw[hv]at r1 hQ;rw[hu]at r2 hQ;have w:IntKind.i64.wrap (v+u)=v+u:=wiz;by_cases g1:0<=v
    ·by_cases g2:0<=u
     ·simp[g1,g2,w];exact aQz hB (h6:=(by simpa[g1,g2]using hQ))
     ·simp[g1,g2];exact aQz hB (h6:=(by simpa[g1,g2]using hQ))
    ·simp[g1];exact aQz hB (h6:=(by simpa[g1]using hQ))
   ·have hb2:=(qaw b 58 (by decide) 58 rfl h2).1;simp[w1,h',la,lb,q1,q3,hb2];exact Klz ⟨rfl,i+1,by omega,next (fun e=>h2 e.2),friz⟩
  ·have ha2:=(qaw a 58 (by decide) 58 rfl h1).1;simp[w1,h',la,ha2];exact Klz ⟨rfl,i+1,by omega,next (fun e=>h1 e.1),friz⟩
 ·have h':¬(i:Int)+1<s.length:=by omega
  have hlast:(cut2 58 (s.drop i)).2.2=false:=by
   have:(s.drop i).length<=1:=by rw[zqI];omega
   match s.drop i,this with
   |[],_=>rfl
   |[_],_=>rfl
  have hc2:(cut2 58 s).2.2=false:=by rw[hS];exact hlast
  rcases hcut:cut2 58 s with⟨a,b,t⟩;rw[hcut]at hQ hc2;simp only at hc2;subst hc2;dsimp only at hQ;simp[w1,h'];refine qd9 E _ s true hl (fun v hv=>?_);rw[hv]at hQ;simp;exact aQz hB (h6:=hQ)
def rfnI(s:List UInt8)(H:Hp)(fr:List AV)(K:Hp):Prop:=K=H/\∃i:Nat,i<=s.length/\qaE qbW s=i+qaE qbW (s.drop i)/\∃x:Nat->AV,fr=[.str s,x 1,x 2,.int .i64 (i:Int),x 4,x 5,x 6,x 7,x 8,x 9,x 10,x 11,x 12,x 13,x 14,x 15,x 16,x 17,x 18,x 19,x 20,x 21,x 22,x 23,x 24,x 25,x 26,x 27,x 28]
theorem qix(s:List UInt8)(hl:s.length<=1073741824)(hQ:Q (.bool (!s.isEmpty&&qaE qbW s==s.length)) H):PC Tryz.prog E 91 [.str s] H Q:=by
 refine qac Tryz.func91 rfl [] [] (by kernel_rfl) (fun hB=>?_);have fin:∀c:Bool,(!s.isEmpty&&qaE qbW s==s.length)=c->Q (.bool c) H:=fun c h=>h▸hQ;simp[Tryz.ntmps91,Tryz.results91,List.replicate_succ];refine qaB (rfnI s H) (fun fr _=>s.length-(ai (aget fr 3)).toNat) ⟨rfl,0,by omega,by simp,friz⟩ ?_;rintro fr K ⟨rfl,i,hi,hS,x,rfl⟩;by_cases h:i<s.length
 ·obtain⟨c,hc⟩:∃c,s[i]? =some c:=⟨_,zqD h⟩
  have la:=qap hc;have hd:=qar s i c hc;have w3:IntKind.i64.wrap ((i:Int)+3)=i+3:=wiz;have w1:IntKind.i64.wrap ((i:Int)+1)=i+1:=wiz;simp[h];refine qf7 E _ s i h hl ?_;rw[hd,qbk]at hS;rw[hd];by_cases ht:qbs (c::s.drop (i+1))=true
  ·have h3:=qer ht;rw[<-hd,zqI]at h3;simp[ht,w3];rw[if_pos ht,List.drop_drop]at hS;exact Klz ⟨rfl,i+3,by omega,by rw[hS,show i+1+2=i+3 by omega];omega,friz⟩
  ·have ht':qbs (c::s.drop (i+1))=false:=by simpa using ht
   rw[if_neg ht]at hS
   have bad:qbW c=false->(!s.isEmpty&&qaE qbW s==s.length)=false:=fun hm=>by
    rw[hm,if_neg (by simp)]at hS;have:(qaE qbW s==s.length)=false:=by rw[beq_eq_false_iff_ne,hS];omega
    rw[this,Bool.and_false]
   have go:qbW c=true->qaE qbW s=(i+1)+qaE qbW (s.drop (i+1)):=fun hm=>by rw[hm,if_pos rfl]at hS;omega
   simp[ht',la];refine qg0 E _ c ?_;cases u1:qbv c with
   |true=>
    have hm:qbW c=true:=by unfold qbW;rw[u1];rfl
    simp[w1];exact Klz ⟨rfl,i+1,by omega,go hm,friz⟩
   |false=>
    simp[la];refine qkK E _ c ?_;cases u2:qbI c with
    |true=>
     have hm:qbW c=true:=by unfold qbW;rw[u1,u2];rfl
     simp[w1];exact Klz ⟨rfl,i+1,by omega,go hm,friz⟩
    |false=>
     have hm:qbW c=false:=by unfold qbW;rw[u1,u2];rfl
     simp;exact aQz hB (h6:=(fin _ (bad hm)))
 ·obtain rfl:i=s.length:=by omega
  rw[List.drop_length,qcU,Nat.add_zero]at hS;by_cases h0:s=[]
  ·subst h0;simp;exact aQz hB (h6:=(fin _ rfl))
  ·have h0':(s !=[])=true:=by simpa using h0
   simp[h0'];exact aQz hB (h6:=(fin _ (by rw[hS];simpa using h0)))
end
end Go.Proofs.YtnnhdehmlkkfjaaGreatDoor
namespace Go.Proofs.YtnnhdehmlkkfjaaGreatDoor
open Go Go.RowKit Go.Proofs Go.Lib
section
variable (E:Env)(H:Hp)(Q:AV->Hp->Prop)
end
end Go.Proofs.YtnnhdehmlkkfjaaGreatDoor
namespace Go.Proofs.YtnnhdehmlkkfjaaGreatDoor
open Go Go.RowKit Go.Proofs
@[simp] theorem qo3 (l:List (List UInt8)):(qmT l).length=l.length:=by simp[qmT]
section
variable (E:Env)(H:Hp)(Q:AV->Hp->Prop)
end
section
variable (E:Env)(H:Hp)(Q:AV->Hp->Prop)
theorem qog(a b:List UInt8)(ha:a.length<=cap)(hb:b.length<=cap)(hQ:Q (.bool (qj3 a b)) H):PC Tryz.prog E 126 [.str a,.str b] H Q:=by
 refine qac Tryz.func126 rfl [] [] (by kernel_rfl) (fun hB=>?_);simp[Tryz.ntmps126,Tryz.results126,List.replicate_succ];refine qb8 E _ _ a ha ?_;simp;refine qb8 E _ _ b hb ?_;simp;exact aQz hB (h6:=hQ)
end
end Go.Proofs.YtnnhdehmlkkfjaaGreatDoor
