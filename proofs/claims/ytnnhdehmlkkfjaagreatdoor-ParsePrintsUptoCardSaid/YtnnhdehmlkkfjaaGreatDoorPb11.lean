/- Part 11 of the texts below the law. -/
import Derived.Test.YtnnhdehmlkkfjaaGreatDoorPb10
import Derived.Test.YtnnhdehmlkkfjaaGreatDoorCards
import Derived.Test.YtnnhdehmlkkfjaaGreatDoorTie
import Derived.Deep.DeepHandedRow
import Derived.Lib.LaidTab
import Derived.ChangeMaps5
import Derived.Lay
import Derived.Stop.LaidErr
import Derived.JoinedCond
set_option maxRecDepth 100000
set_option maxHeartbeats 16000000
set_option linter.unusedVariables false
set_option linter.unusedSimpArgs false
set_option linter.unusedSectionVars false
namespace Go.Proofs.YtnnhdehmlkkfjaaGreatDoor
open Go Go.RowKit Go.Proofs Go.Deep
structure QOk (W:World) (cs:Array Value) (r:Rq) (b:Nat):Prop where
 rel:Rel W (fun _=>0) (old W) r.av (.agg cs)
 bnd:Bnd 0 r.av
 ma: -9223372036854775808<=r.major/\r.major<=9223372036854775807
 mi: -9223372036854775808<=r.minor/\r.minor<=9223372036854775807
 bulk:r.meth.length+r.targ.length+r.body.length+(fsz r.fields+r.fields.length)+(fsz r.trailers+r.trailers.length)+1<=b
theorem QOk.sz{W:World}{cs:Array Value}{r:Rq}{b:Nat}(h:QOk W cs r b)(hb:b<=1048576):szQ r:=by
 have:=h.bulk;exact⟨by omega,by omega,by omega,by omega,by omega⟩
theorem qoL{H:Type}{enc:TypeId×Value->H}{W:World}{spare:Nat->Bool}{held:Bool}{fuel:Nat}{cs:List Value}{x:DataW H×List MemPlace}(h:DataW.trod enc Tryz.prog W 0 spare held fuel 26 cs=some x):
  ∃r:Rq,QOk W ⟨cs⟩ r (Rows.uptoBulk x.1):=by
 obtain⟨xs,n',_,rfl,hcl,hxl,hf⟩:=DataW.trod_struct Tryz.underlying26 h;have e0:Tryz.prog.cellsOf 26=7:=by kernel_rfl
 have es:Tryz.prog.cellsOf 9=1:=by kernel_rfl
 have ei:Tryz.prog.cellsOf 3=1:=by kernel_rfl
 have ef:Tryz.prog.cellsOf 24=1:=by kernel_rfl
 rw[e0]at hcl
 obtain⟨c0,c1,c2,c3,c4,c5,c6,rfl⟩:∃c0 c1 c2 c3 c4 c5 c6,cs=[c0,c1,c2,c3,c4,c5,c6]:=by
  match cs,hcl with
  |[a,b,c,d,e,f,g],_=>exact⟨a,b,c,d,e,f,g,rfl⟩
 obtain⟨y0,y1,y2,y3,y4,y5,y6,rfl⟩:∃y0 y1 y2 y3 y4 y5 y6,xs=[y0,y1,y2,y3,y4,y5,y6]:=by
  match xs,hxl with
  |[a,b,c,d,e,f,g],_=>exact⟨a,b,c,d,e,f,g,rfl⟩
 have h0:=hf 0 _ rfl;have h1:=hf 1 _ rfl;have h2:=hf 2 _ rfl;have h3:=hf 3 _ rfl;have h4:=hf 4 _ rfl;have h5:=hf 5 _ rfl;have h6:=hf 6 _ rfl;simp[es]at h0;simp[es]at h1;simp[ei]at h2;simp[ei]at h3;simp[ef]at h4;simp[es]at h5;simp[ef]at h6;obtain⟨me,hs0,hy0,hm0⟩:=DataW.trod_string Tryz.underlying9 h0;obtain⟨ta,hs1,hy1,hm1⟩:=DataW.trod_string Tryz.underlying9 h1;obtain⟨ma,hs2,hy2,hm2⟩:=DataW.trod_int Tryz.underlying3 h2;obtain⟨mi,hs3,hy3,hm3⟩:=DataW.trod_int Tryz.underlying3 h3;obtain⟨bo4,l4,k4,rows4,q41,q42,_,_,q43,q44,q45,q46⟩:=qgy (ks:=[.str,.str]) 6 Tryz.underlying24 (by kernel_rfl) (by kernel_rfl) (by decide) h4;obtain⟨fs,rfl,ht4⟩:=qdj rows4 q45;obtain⟨bo,hs5,hy5,hm5⟩:=DataW.trod_string Tryz.underlying9 h5;obtain⟨bo6,l6,k6,rows6,q61,q62,_,_,q63,q64,q65,q66⟩:=qgy (ks:=[.str,.str]) 6 Tryz.underlying24 (by kernel_rfl) (by kernel_rfl) (by decide) h6;obtain⟨ts,rfl,ht6⟩:=qdj rows6 q65;simp at hs0 hs1 hs2 hs3 hs5 q41 q61;subst hs0;subst hs1;subst hs2;subst hs3;subst hs5;subst q41;subst q61;have hb0:me.size+1<=Rows.uptoBulk y0.1:=by rw[hy0];simp[Rows.uptoBulk,qad]
 have hb1:ta.size+1<=Rows.uptoBulk y1.1:=by rw[hy1];simp[Rows.uptoBulk,qad]
 have hw2: -9223372036854775808<=ma/\ma<=9223372036854775807:=by simpa[Lit.wf,IntKind.min,IntKind.max,IntKind.signed,IntKind.bits]using hm2
 have hw3: -9223372036854775808<=mi/\mi<=9223372036854775807:=by simpa[Lit.wf,IntKind.min,IntKind.max,IntKind.signed,IntKind.bits]using hm3
 have hb5:bo.size+1<=Rows.uptoBulk y5.1:=by rw[hy5];simp[Rows.uptoBulk,qad]
 simp at q42 q46 q62 q66;refine⟨⟨me.data.toList,ta.data.toList,ma,mi,fs,bo.data.toList,ts⟩,.agg _ _ rfl (fun x hx=>?_) (fun j x u hx hu=>?_),.agg _ (fun x hx=>Rq.bnd _ 0 x hx),hw2,hw3,?_⟩
 ·simp[Rq.avs]at hx;rcases hx with rfl|rfl|rfl|rfl|rfl|rfl|rfl<;>exact⟨rfl,rfl⟩
 ·match j with
  |0=>simp[Rq.avs]at hx hu;subst hx;subst hu;exact .str _ _ rfl hm0
  |1=>simp[Rq.avs]at hx hu;subst hx;subst hu;exact .str _ _ rfl hm1
  |2=>simp[Rq.avs]at hx hu;subst hx;subst hu;exact .int _ _
  |3=>simp[Rq.avs]at hx hu;subst hx;subst hu;exact .int _ _
  |4=>simp[Rq.avs]at hx hu;subst hx;subst hu;exact q43
  |5=>simp[Rq.avs]at hx hu;subst hx;subst hu;exact .str _ _ rfl hm5
  |6=>simp[Rq.avs]at hx hu;subst hx;subst hu;exact q63
  |j+7=>simp[Rq.avs]at hx
 ·simp only[List.map_cons,List.map_nil,Rows.uptoBulk,Rows.uptoBulkAll,qad];omega
section
variable (E:Env){H:Hp}(Q:AV->Hp->Prop)
theorem qkP(hE:PZ E)(r:Rq)(hz:szQ r)(hQ:Q (.bool true) H):PC Tryz.prog E 9 [r.av] H Q:=by
 refine qab Tryz.func9 rfl [] [] (by kernel_rfl) (fun hB=>?_);have z3:=hz.f;have z5:=hz.tr;simp[Tryz.ntmps9,Tryz.results9,List.replicate_succ,Rq.av,Rq.avs];refine qi9 E _ r (by omega) (by omega) ?_;simp[Rq.av,Rq.avs];refine ql8 E _ hE r hz ?_;simp;refine qna E _ r hz ?_;simp;refine qmA E _ hE.1 ?_;simp;refine qoT E _ r (by omega) (by omega) ?_;simp;exact aQy hB (v:= .bool true) (h6:=hQ)
end
theorem qh6(W:World)(cs:Array Value)(r:Rq)(b:Nat)(R:QOk W cs r b)(hb:b<=1048576)(hT:Tabs W)(hM:qfi W):
  Calls Tryz.prog 9 #[.agg cs] W fun e w'=>e= .returned (.bool true)/\Frm (fun _=>False) W w':=by
 refine qpm (args:=[r.av]) hT hM rfl (fun t x u hx hu=>?_) (fun E Q hE h=>qkP E Q hE r (R.sz hb) h)
 match t with
 |0=>simp at hx hu;subst hx;subst hu;exact⟨R.rel,R.bnd,rfl⟩
 |t+1=>simp at hx
end Go.Proofs.YtnnhdehmlkkfjaaGreatDoor
namespace Go.Proofs.YtnnhdehmlkkfjaaGreatDoor
open Go Go.ChangeShapes Go.WideShapes Go.ChangeAt Go.RowKit Go.Deep
theorem qgs : Tryz.prog.globalNamed "turnpike/octet.signs" = some 0 := by kernel_rfl
theorem qlS:(Tryz.prog.globals[0]?).map (·.type)=some 140:=by kernel_rfl
theorem qhN{W : World}{rest : List (String × DataW Unit)}(h : laidMet Tryz.prog (("turnpike/octet.signs", Rows.laid_turnpike_octet_signs) :: rest) W) : qgn W := by
 have ht : Lib.TabIs Tryz.prog W "turnpike/octet.signs" .u32 signTab := Lib.tabIs_of_head (rest := rest) qgs qlS Tryz.underlying140 Tryz.underlying139 (by kernel_rfl) (by kernel_rfl) h
 intro j z hz;have hj:=(zqC.1 hz).1;have:=ht.cell qgs j hj;rw[List.getD,hz]at this;exact this
theorem qni : Tryz.prog.globalNamed "math/bits.deBruijn64tab" = some 4 := by kernel_rfl
theorem dbType:(Tryz.prog.globals[4]?).map (·.type)=some 247:=by kernel_rfl
def dbTab:List Int:=[0,1,56,2,57,49,28,3,61,58,42,50,38,29,17,4,62,47,59,36,45,43,51,22,53,39,33,30,24,18,12,5,63,55,48,27,60,41,37,16,46,35,44,21,52,32,23,11,54,26,40,15,34,20,31,10,25,14,19,9,13,8,7,6]
theorem qlK{W : World}{rest : List (String × DataW Unit)}(h : laidMet Tryz.prog (("math/bits.deBruijn64tab", Rows.laid_math_bits_deBruijn64tab) :: rest) W) : Tz W := by
 have ht : Lib.TabIs Tryz.prog W "math/bits.deBruijn64tab" .u8 dbTab := Lib.tabIs_of_head (rest := rest) qni dbType Tryz.underlying247 Tryz.underlying5 (by kernel_rfl) (by kernel_rfl) h
 exact ht.cell qni 15 (by decide)
end Go.Proofs.YtnnhdehmlkkfjaaGreatDoor
