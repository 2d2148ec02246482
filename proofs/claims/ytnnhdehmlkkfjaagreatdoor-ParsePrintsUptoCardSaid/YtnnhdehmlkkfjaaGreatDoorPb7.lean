/- Part 7 of the texts below the law. -/
import Derived.Test.YtnnhdehmlkkfjaaGreatDoorPb6
import Derived.Lib.ItoaLen
import Derived.Shelf.Strings.Cut
import Derived.Shelf.Strings.IndexAnyAll
import Derived.Shelf.Strings.Prefix
import Derived.Shelf.Strings.Search3
import Derived.Shelf.Strings.Split
import Derived.Test.YtnnhdehmlkkfjaaGreatDoorProg
import Derived.KernelRfl
import Derived.Stop.LaidErr
set_option maxRecDepth 100000
set_option maxHeartbeats 16000000
set_option linter.unusedVariables false
set_option linter.unnecessarySimpa false
set_option linter.unusedSimpArgs false
set_option linter.unusedSectionVars false
namespace Go.Proofs.YtnnhdehmlkkfjaaGreatDoor
open Go Go.RowKit Go.Proofs
def Tz(w:World):Prop:=w.cell? ⟨4,15,none⟩=some (.int .u8 4)
def SZ(E:Env):Prop:=SE E/\E.Fix 4/\Tz E.w0
theorem SZ.tz{E:Env}(h:SZ E){w:World}(hw:∀b,E.Fix b->w.heap[b]? =E.w0.heap[b]?):Tz w:=by
 unfold Tz;rw[World.cell?_of_block (a:=⟨4,15,none⟩) (hw _ h.2.1)];exact h.2.2
theorem qqo(W:World)(hT:Tz W):Calls Tryz.prog 206 #[.int .u64 16] W fun e w'=>e= .returned (.int .i64 4)/\w'=W:=by
 unfold Tz at hT;have hq:IntKind.u64.wrap (bits BinOp.and IntKind.u64 16 (IntKind.u64.wrap (-16))*285870213051353865)/288230376151711744=15:=by decide
 go_enter Tryz.func206,Tryz.ntmps206
 go_wp2
 go_ret
 exact⟨rfl,rfl⟩
@[simp] theorem tzc65:tzc Tryz.prog 222=some (List.replicate 65 (.int .u8 0)):=by kernel_rfl
section
variable (E:Env)(H:Hp)(Q:AV->Hp->Prop)
theorem qqn(hE:SZ E)(hQ:Q (.int .i64 4) H):PC Tryz.prog E 206 [.int .u64 16] H Q:=by
 refine qao (v:= .int .i64 4) (by kernel_rfl) Tz (fun w hw=>hE.tz hw) (fun w β Rd cargs hS hsz hargs=>?_) (.int _ _) rfl hQ;obtain⟨u,rfl,hu⟩:=args1 hsz hargs;obtain rfl:=qas hu;refine(qqo w hS).mono ?_;rintro e w' ⟨rfl,rfl⟩;exact⟨_,rfl,Frm.refl _ _,.int _ _⟩
theorem tz_pc(hE:SZ E)(hQ:Q (.int .i64 4) H):PC Tryz.prog E 185 [.int .u64 16] H Q:=by
 refine qab Tryz.func185 rfl [] [] (by kernel_rfl) (fun hB=>?_);simp[Tryz.ntmps185,Tryz.results185,List.replicate_succ];refine qqn E _ _ hE ?_;simp;exact aQz hB (h6:=hQ)
theorem qqG(hQ:Q (.bool true) H):PC Tryz.prog E 184 [.int .i64 16] H Q:=by
 refine qab Tryz.func184 rfl [] [] (by kernel_rfl) (fun hB=>?_);simp[Tryz.ntmps184,Tryz.results184,List.replicate_succ];exact aQz hB (h6:=hQ)
def digL:List UInt8:=[48,49,50,51,52,53,54,55,56,57,97,98,99,100,101,102,103,104,105,106,107,108,109,110,111,112,113,114,115,116,117,118,119,120,121,122]
theorem qnc:∀k,k<16->digL[k]? =some (hx k):=by decide
theorem qjD{n:Int}(h0:0<=n)(h1:n<18446744073709551616):IntKind.u64.wrap n=n:=by
 show n%(2^64)=n;omega
theorem and15(u:Nat)(h:u<=1099511627776):IntKind.u64.wrap ((u%2^IntKind.u64.bits&&&15%2^IntKind.u64.bits:Nat):Int)=((u%16:Nat):Int):=by
 have e1:u%2^IntKind.u64.bits=u:=Nat.mod_eq_of_lt (by show u<18446744073709551616;omega);have e2:15%2^IntKind.u64.bits=15:=rfl;have e3:u&&&15=u%16:=Nat.and_two_pow_sub_one_eq_mod u 4;rw[e1,e2,e3];exact qjD (by omega) (by omega)
def fbInv(n:Nat)(H:Hp)(fr:List AV)(H':Hp):Prop:=∃(u i:Nat) (tail:List UInt8) (row:List AV),H'=H++[row]/\row.length=65/\hexD u++tail=hexD n/\u<=n/\i+tail.length=65/\row.drop i=tail.map (fun b=> .int .u8 (b.toNat:Int))/\
 ∃x:Nat->AV,fr=[.nil,.int .u64 u,.int .i64 16,.bool false,.bool false,x 5,x 6,x 7,x 8,x 9,.nil,.str [],.ptr (some (H.length,0)),.int .i64 i,.int .u64 4,.int .u64 16,.int .u64 15,x 17,x 18,x 19,x 20,x 21,x 22,x 23,x 24,x 25,x 26,x 27,x 28,x 29,x 30,x 31,x 32,x 33,x 34,x 35,x 36,x 37,x 38,x 39,x 40,x 41,x 42,x 43,x 44,x 45,x 46,x 47,x 48,x 49,x 50,x 51,x 52,x 53,x 54,x 55,x 56,x 57,x 58,x 59,x 60,x 61,x 62,x 63,x 64,x 65,x 66,x 67,x 68,x 69,x 70,x 71,x 72,x 73,x 74,x 75,x 76,x 77,x 78,x 79,x 80,x 81,x 82,x 83,x 84,x 85,x 86,x 87,x 88,x 89,x 90,x 91,x 92,x 93,x 94,x 95,x 96,x 97,x 98,x 99,x 100,x 101]
theorem qhg(hE:SZ E)(n:Nat)(hn:n<=1099511627776)(hQ:Q (.tup [.nil,.str (hexD n)]) H):PC Tryz.prog E 161 [.nil,.int .u64 n,.int .i64 16,.bool false,.bool false] H Q:=by
 refine qab Tryz.func161 rfl [95] [(30,[0,0,3])] (by kernel_rfl) (fun hB=>?_);simp[Tryz.ntmps161,Tryz.results161,List.replicate_succ];refine qqG E _ _ ?_;simp;refine tz_pc E _ _ hE ?_;simp;refine qaG (fbInv n H) (fun fr _=>(ai (aget fr 1)).toNat) ⟨n,65,[],List.replicate 65 (.int .u8 0),by simp,by simp,by simp,by omega,by simp,by simp,qal (by simp;exact⟨rfl,rfl,rfl⟩)⟩ ?_;rintro fr H' ⟨u,i,tail,row,rfl,hrow,hu,hun,hi,hdr,x,rfl⟩;have hlu:=qo0 u;have hln:=qbB n hn;have hcat:=congrArg List.length hu;rw[zqK]at hcat;obtain⟨j,rfl⟩:∃j,i=j+1:=⟨i-1,by omega⟩
 have hw:IntKind.i64.wrap (j:Int)=j:=wiz;have hw1:IntKind.i64.wrap (((j+1:Nat):Int)-1)=j:=by rw[qax (by omega) (by omega)];omega
 by_cases h:16<=u
 ·have h':(16:Int)<=u:=by omega
  have ha:=and15 u (by omega);have hat:lat [48,49,50,51,52,53,54,55,56,57,97,98,99,100,101,102,103,104,105,106,107,108,109,110,111,112,113,114,115,116,117,118,119,120,121,122] (u%16)=some (hx (u%16)):=qnc _ (Nat.mod_lt _ (by omega));have hj:j<=64:=by omega
  have hj2:j<65:=by omega
  simp[h',hw,hw1,ha,hat,hj,hj2,hrow,-Int.natCast_emod]
  have hsh:(u:Int).fdiv (2^min 4 IntKind.u64.bits)=((u/16:Nat):Int):=by
   show(u:Int).fdiv 16=_;rw[Int.fdiv_eq_ediv_of_nonneg _ (by omega)];omega
  refine qaC ⟨u/16,j,hx (u%16)::tail,_,rfl,by simp[hrow];omega,by rw[<-hu,qfc (show ¬u<16 by omega)];simp,by omega,by simp;omega,?_,qal (by simp[hsh])⟩ (by simp[hsh];omega);rw[List.drop_append_of_le_length (by rw[zqJ];omega),List.drop_of_length_le (by rw[zqJ];omega),hdr];simp
 ·have h':¬(16:Int)<=u:=by omega
  have hat:lat [48,49,50,51,52,53,54,55,56,57,97,98,99,100,101,102,103,104,105,106,107,108,109,110,111,112,113,114,115,116,117,118,119,120,121,122] u=some (hx u):=qnc _ (by omega);have hj:j<=64:=by omega
  have hj2:j<65:=by omega
  have hm:65-j<=maxLen:=by unfold maxLen;omega
  have m65:65<=maxLen:=by unfold maxLen;omega
  have hj3:j<=65:=by omega
  have hj4:¬65=j:=by omega
  have e1:65<=j+(64-j+1):=by omega
  have e2:List.take (65-j) ([AV.int .u8 (hx u).toNat]::List.drop (j+1) (List.map (fun x=>[x]) row))=bts (hx u::tail):=by
   rw[<-List.map_drop,hdr,List.map_map,zqE (by simp;omega)];rfl
  have e3:hexD n=hx u::tail:=by rw[<-hu,qcG (by omega)];rfl
  rw[e3]at hQ;simp[h',hw,hw1,hat,hj,hj2,hj3,hj4,m65,hrow,hm,e1,e2];exact qac hB rfl (qaa _) (by simp) hQ
theorem qhf(hE:SZ E)(n:Nat)(hn:n<=1099511627776)(hQ:Q (.str (hexD n)) H):PC Tryz.prog E 141 [.int .i64 n,.int .i64 16] H Q:=by
 refine qab Tryz.func141 rfl [] [] (by kernel_rfl) (fun hB=>?_);have hw:IntKind.u64.wrap (n:Int)=n:=qjD (by omega) (by omega);simp[Tryz.ntmps141,Tryz.results141,List.replicate_succ,hw];refine qhg E _ _ hE n hn ?_;simp;exact aQz hB (h6:=hQ)
theorem qij(hE:SZ E)(n:Nat)(hn:n<=1099511627776)(hQ:Q (.str (hexD n)) H):PC Tryz.prog E 140 [.int .i64 n,.int .i64 16] H Q:=by
 refine qab Tryz.func140 rfl [] [] (by kernel_rfl) (fun hB=>?_);simp[Tryz.ntmps140,Tryz.results140,List.replicate_succ];refine qhf E _ _ hE n hn ?_;simp;exact aQz hB (h6:=hQ)
def ddInv(n:Nat)(H:Hp)(fr:List AV)(H':Hp):Prop:=H'=H/\∃(u:Nat) (tail:List UInt8),hexD u++tail=hexD n/\u<=n/\∃x:Nat->AV,fr=[.int .i64 u,x 1,x 2,.str tail,x 4,x 5,x 6,x 7,x 8,x 9,x 10,x 11,x 12,x 13,x 14,x 15,x 16]
theorem qqW:∀k,k<16->([48,49,50,51,52,53,54,55,56,57,97,98,99,100,101,102]:List UInt8).drop k=hx k::([48,49,50,51,52,53,54,55,56,57,97,98,99,100,101,102]:List UInt8).drop (k+1):=by decide
theorem qla(n:Nat)(hn:n<=1099511627776)(hQ:Q (.str (hexD n)) H):PC Tryz.prog E 85 [.int .i64 n] H Q:=by
 refine qab Tryz.func85 rfl [] [] (by kernel_rfl) (fun hB=>?_);simp[Tryz.ntmps85,Tryz.results85,List.replicate_succ];refine qaG (ddInv n H) (fun fr _=>(ai (aget fr 0)).toNat) ⟨rfl,n,[],by simp,by omega,friz⟩ ?_;rintro fr H' ⟨rfl,u,tail,hu,hun,x,rfl⟩;have hln:=qbB n hn;have hcat:=congrArg List.length hu;rw[zqK]at hcat;have hmod:(u:Int).tmod 16=((u%16:Nat):Int):=by rw[Int.tmod_eq_emod_of_nonneg (by omega)];omega
 have hdiv:(u:Int).tdiv 16=((u/16:Nat):Int):=by rw[Int.tdiv_eq_ediv_of_nonneg (by omega)];omega
 obtain⟨k,hk⟩:=exz (u%16);have hk16:k<16:=by omega
 have hw:IntKind.i64.wrap ((k:Int)+1)=k+1:=wiz;have hw2:IntKind.i64.wrap ((u/16:Nat):Int)=((u/16:Nat):Int):=wiz;have p1:(0:Int)<=(k:Int)+1:=by omega
 have p2:k+1<=16:=by omega
 have p3:k<=15:=by omega
 have hl:=qqW k hk16;have hm:tail.length+1<=maxLen:=by unfold maxLen;omega
 have hm2:1+tail.length<=maxLen:=by unfold maxLen;omega
 rw[hk]at hmod;by_cases h:u<16
 ·have h0:u/16=0:=by omega
  rw[h0]at hdiv hw2;have e3:hexD n=hx k::tail:=by rw[<-hu,qcG h,<-hk,Nat.mod_eq_of_lt h];rfl
  rw[e3]at hQ;have hw0:IntKind.i64.wrap 0=0:=rfl;simp[hmod,hdiv,hw,hw0,p1,p2,p3,hl,hm,hm2];exact aQz hB (h6:=hQ)
 ·have h0:(((u/16:Nat):Int)==0)=false:=by rw[beq_eq_false_iff_ne];omega
  simp[hmod,hdiv,hw,hw2,p1,p2,p3,hl,hm,hm2,h0,-Int.natCast_ediv];exact Klz ⟨rfl,u/16,hx k::tail,by rw[<-hu,qfc h,<-hk];simp,by omega,friz⟩
def qd1(n:Int)(l:List Par):List UInt8×Int:=
 if n<0\/1099511627776<n then([],1)
 else if l.all (qd9 qaj)=false then([],15)
 else if 254<(hexD n.toNat++prt qaj l).length then([],100)else(hexD n.toNat++prt qaj l,0)
theorem qhU(hE:SZ E)(n:Int)(l:List Par)(hl:psz l+l.length<=1048577)(hQ:Q (.tup [.str (qd1 n l).1,.int .i64 (qd1 n l).2]) H):PC Tryz.prog E 111 [.int .i64 n,.sl false 3 (prs l)] H Q:=by
 refine qab Tryz.func111 rfl [] [] (by kernel_rfl) (fun hB=>?_);by_cases h1:n<0
 ·have e:qd1 n l=([],1):=by unfold qd1;rw[if_pos (.inl h1)]
  rw[e]at hQ;simp[Tryz.ntmps111,Tryz.results111,List.replicate_succ,h1];exact aQz hB (h6:=hQ)
 ·by_cases h2:1099511627776<n
  ·have e:qd1 n l=([],1):=by unfold qd1;rw[if_pos (.inr h2)]
   rw[e]at hQ;simp[Tryz.ntmps111,Tryz.results111,List.replicate_succ,h1,h2];exact aQz hB (h6:=hQ)
  ·obtain⟨m,rfl⟩:∃m:Nat,n=m:=⟨n.toNat,by omega⟩
   have h3:¬1099511627776<(m:Int):=h2;have hln:=qbB m (by omega);have hpl:=qpP l;simp[Tryz.ntmps111,Tryz.results111,List.replicate_succ,h1,h3];refine qoG E _ _ hE.1 l (by omega) ?_;cases hall:l.all (qd9 qaj)with
   |false=>
    have e:qd1 m l=([],15):=by unfold qd1;rw[if_neg (by omega),if_pos hall]
    have e2:qdC l=([],15):=by unfold qdC;rw[if_neg (by rw[hall];simp)]
    rw[e]at hQ;simp[e2];exact aQz hB (h6:=hQ)
   |true=>
    have e2:qdC l=(prt qaj l,0):=by unfold qdC;rw[if_pos hall]
    have hm:(hexD m).length+(prt qaj l).length<=maxLen:=by unfold maxLen;omega
    simp[e2];refine qij E _ _ hE m (by omega) ?_;by_cases h4:254<(hexD m++prt qaj l).length
    ·have e:qd1 m l=([],100):=by unfold qd1;rw[if_neg (by omega),if_neg (by rw[hall];simp),if_pos (by simpa using h4)]
     have h4':(254:Int)<(hexD m).length+(prt qaj l).length:=by rw[zqK]at h4;omega
     rw[e]at hQ;simp[hm,h4'];exact aQz hB (h6:=hQ)
    ·have e:qd1 m l=(hexD m++prt qaj l,0):=by unfold qd1;rw[if_neg (by omega),if_neg (by rw[hall];simp),if_neg (by simpa using h4)];simp
     have h4':¬(254:Int)<(hexD m).length+(prt qaj l).length:=by rw[zqK]at h4;omega
     rw[e]at hQ;simp[hm,h4'];exact aQz hB (h6:=hQ)
end
section
variable (E:Env)(H:Hp)(Q:AV->Hp->Prop)
end
theorem qkC{P:Program}(w:World)(t u ty e:TypeId)(i:TypeInfo)(ht:P.underlying t=some (.slice e))(hu:P.underlying u=some .string)(hi:P.info? e=some i)(hz:i.zero=some (.int .u8 0))
  (hsize:i.size=1) (hby:i.bytes=1) (v:Value) (n:Nat) (xs:List Value) (hown:w.ownsRowF 0 e 1 v n xs) (s:ByteArray) (h63:n+s.size<=maxLen) (hbytes:n+s.size<=140737488355328):
  ∃v' w',(Builtin.append_ #[t,u] ty #[v,.string s]).run P w= .ok v' w'/\w'.ownsRowF 0 e 1 v' (n+s.size) (xs++Lib.strCells s)/\w.grownBy w' v.ownBlock/\∀g,v'.ownBlock=some g->v.ownBlock=some g\/w.heap.size<=g:=by
 rcases hown.2 with⟨rfl,rfl⟩|⟨g,cap,cur,fz,rfl,hbg,hg,hfz,hnc,hcm,hcs,htake⟩
 ·obtain⟨v',w',h1,h2,h3,_⟩:=Lib.run_append_own_stringF (P:=P) w w.heap.size t u ty e i ht hu hi hz hsize hby (.slice none 0 0) 0 xs ⟨hown.1,.inl ⟨rfl,rfl⟩⟩ s h63 hbytes (Nat.le_refl _)
  have h2':w'.ownsRowF 0 e 1 v' (0+s.size) (xs++Lib.strCells s):=by
   obtain⟨a,b⟩:=h2;refine⟨a,b.imp id fun⟨g,cap,cur,fz,r1,r2,r3⟩=>⟨g,cap,cur,fz,r1,Nat.zero_le _,r3⟩⟩
  exact⟨v',w',h1,h2',h3,fun g hg=> .inr (h2.lt g hg).1⟩
 ·have hxl:xs.length=n:=by simpa using hown.1
  have hlen:(xs++Lib.strCells s).length=(n+s.size)*1:=by rw[zqK,hxl,Lib.strCells_length,Nat.mul_one]
  by_cases hroom:n+s.size<=cap
  ·have hcs':cur.size=cap:=by simpa using hcs
   have hr:=Lib.run_append_room_stringF (P:=P) w t u ty e i ht hu hi hsize g n cap cur fz hg (by simpa using hfz) s hroom (by omega);refine⟨_,_,hr,⟨hlen,.inr ⟨g,cap,_,fz,rfl,hbg,setRow_heap w g cur _ e _ hg,by omega,hroom,hcm,?_,?_⟩⟩,⟨rfl,rfl,rfl,by simp,fun k _ hk=>setRow_other w g k _ (fun e=>hk (by simp[Value.ownBlock,e]))⟩,fun g' hg'=> .inl hg'⟩
   ·simp only[List.size_toArray,zqK,zqJ,zqI,Array.length_toList,Lib.strCells_length];omega
   ·have ht':cur.toList.take n=xs:=by simpa using htake
    rw[ht',<-hlen];exact List.take_left
  ·have holds:∀j u,xs[j]? =some u->w.cell? ((⟨g,0,none⟩:Addr).add j)=some u:=hown.cells (g:=g) rfl;have hr:=Lib.run_append_grow_string (P:=P) w t u ty e i (.int .u8 0) ht hu hi hz ⟨g,0,none⟩ n cap xs (by rw[hsize];simpa using hxl) holds s (by omega) (by simp only[maxLen]at h63;omega) (by rw[hby];exact growslice_fits (by omega) (by omega));have hge:=grownCap_ge w (n+s.size) cap e;have hcm2:grownCap w (n+s.size) cap e<=maxLen:=grownCap_le_maxLen w (n+s.size) cap e h63;refine⟨_,_,hr,⟨hlen,.inr ⟨w.heap.size,_,_,(0,0),rfl,Nat.zero_le _,heap_alloc_new w.drew _,Nat.zero_le _,hge,hcm2,?_,?_⟩⟩,⟨rfl,rfl,rfl,by simp,fun k hk _=>heap_alloc_old w.drew _ hk⟩,fun g' hg'=> .inr (by simp[Value.ownBlock]at hg';omega)⟩
   ·have hz1:(Value.int IntKind.u8 0).cells.size=1:=rfl;simp only[Array.size_append,List.size_toArray,size_zeroCells,hz1,hxl,Lib.strCells_length];omega
   ·simp only[Array.toList_append,List.append_assoc];rw[<-List.append_assoc,<-hlen];exact List.take_left
theorem qgT{P:Program}{w:World}{ops:Array Oper}{rest:List Oper}{o:Oper}{a:Act}{Q:Exit->Act->World->Prop}(hgd:o.guard=none)(sl x:Operand)(t u:TypeId)
  (ho:o.op= .call {callee:= .builtin .append,args:= #[sl,x],argTypes:= #[t,u]}) (e:TypeId) (i:TypeInfo) (ht:P.underlying t=some (.slice e)) (hu:P.underlying u=some .string) (hi:P.info? e=some i) (hz:i.zero=some (.int .u8 0))
  (hsize:i.size=1) (hby:i.bytes=1) (v:Value) (n:Nat) (xs:List Value) (hs:a.eval sl=v) (hown:w.ownsRowF 0 e 1 v n xs) (s:ByteArray) (hx:a.eval x= .string s) (h63:n+s.size<=maxLen) (hbytes:n+s.size<=140737488355328)
  (h:∀v' w',w'.ownsRowF 0 e 1 v' (n+s.size) (xs++Lib.strCells s)->w.grownBy w' v.ownBlock->(∀g,v'.ownBlock=some g->v.ownBlock=some g\/w.heap.size<=g)->wpList P ops Q rest (a.put o.dst v') w'):wpList P ops Q (o::rest) a w:=by
 refine wpList_plain hgd fun K hK=>?_;obtain⟨v',w',hr,h2,h3,h4⟩:=qkC (P:=P) w t u o.type e i ht hu hi hz hsize hby v n xs hown s h63 hbytes;unfold Oper.wp execOp;simp only[ho,resolve,invoke,builtin,Sem.run_bind,Sem.run_pure,Result.andThen_ok,List.map_toArray,List.map_cons,List.map_nil,hs,hx,hr];exact hK _ _ (h v' w' h2 h3 h4)
abbrev TB:TypeId:=120
abbrev TU:TypeId:=5
def BB(b:Nat)(u v:Value)(l:List UInt8)(w:World):Prop:=w.heap[b]? =some (.cells #[u,v] TB (0,0))/\(u= .pointer none\/u= .pointer (some ⟨b,0,none⟩))/\w.ownsRowF 0 TU 1 v l.length (qc3 l)/\v.ownBlock≠some b
structure BK (b:Nat) (v:Value) (w w':World):Prop where
 os:w'.os=w.os
 tape:w'.tape=w.tape
 output:w'.output=w.output
 size:w.heap.size<=w'.heap.size
 keep:∀k,k<w.heap.size->k≠b->v.ownBlock≠some k->w'.heap[k]? =w.heap[k]?
theorem bkRefl(b:Nat)(v:Value)(w:World):BK b v w w:=⟨rfl,rfl,rfl,Nat.le_refl _,fun _ _ _ _=>rfl⟩
theorem bb_lt{b:Nat}{u v:Value}{l:List UInt8}{w:World}(h:BB b u v l w):b<w.heap.size:=qcq h.1
theorem qns(b:Nat)(u v:Value)(l:List UInt8)(w:World)(h:BB b u v l w):Calls Tryz.prog 106 #[.pointer (some ⟨b,0,none⟩)] w fun e w'=>e= .returned (.tuple #[])/\BB b (.pointer (some ⟨b,0,none⟩)) v l w'/\BK b v w w':=by
 obtain⟨h1,h2,h3,h4⟩:=h;have hlt:b<w.heap.size:=qcq h1;have c0:w.cell? ⟨b,0,none⟩=some u:=by rw[Lib.cell_of_heap h1];rfl
 rcases h2 with rfl|rfl
 ·refine(Any.Builder_copyCheck_fresh {lays166 with} lextra.toX72 b w c0 (by simp[World.shape?,h1];rfl) (Lib.frozen_of_heap h1 0)).mono ?_;rintro e w' ⟨rfl,rfl⟩;have hk:∀k,k≠b->(w.setCell ⟨b,0,none⟩ (.pointer (some ⟨b,0,none⟩))).heap[k]? =w.heap[k]? :=fun k hk=>Below.heap_setCell _ _ _ _ hk;refine⟨rfl,⟨by simp[World.setCell,Array.getElem?_modify,h1],.inr rfl,qd5 h3 fun g hg=>hk g (fun e=>h4 (e▸hg)),h4⟩,rfl,rfl,rfl,by simp[World.setCell],fun k _ hkb _=>hk k hkb⟩
 ·refine(Any.Builder_copyCheck_used {lays166 with} lextra.toX72 b w c0).mono ?_;rintro e w' ⟨rfl,rfl⟩;exact⟨rfl,⟨h1,.inr rfl,h3,h4⟩,bkRefl _ _ _⟩
theorem bf_str(l:List UInt8)(s:ByteArray):qc3 l++Lib.strCells s=qc3 (l++s.data.toList):=by
 unfold qc3;rw[List.map_append];rfl
theorem qqa(b:Nat)(u v:Value)(l:List UInt8)(s:ByteArray)(w:World)(h:BB b u v l w)(hlen:l.length+s.size<=140737488355328):Calls Tryz.prog 74 #[.pointer (some ⟨b,0,none⟩),.string s] w fun e w'=>
  e= .returned (.tuple #[.int .i64 s.size,.nilIface])/\∃u' v',BB b u' v' (l++s.data.toList) w'/\BK b v w w'/\∀g,v'.ownBlock=some g->v.ownBlock=some g\/w.heap.size<=g:=by
 obtain⟨i0,hi,hz0,hz1,hz2⟩:=info_parts lextra.infoByte
 go_enter Tryz.func74,Tryz.ntmps74
 go_wp2_with (go_at_call 106;refine(qns b u v l _ h).mono ?_)
 rintro e w1 ⟨rfl,h1,hk1⟩;obtain⟨hbk,_,hown,hne⟩:=h1;have c0:w1.cell? ⟨b,0,none⟩=some (.pointer (some ⟨b,0,none⟩)):=by rw[Lib.cell_of_heap hbk];rfl
 have c1:w1.cell? ⟨b,1,none⟩=some v:=by rw[Lib.cell_of_heap hbk];rfl
 have hlt:b<w1.heap.size:=qcq hbk
 go_wp2_with (at_builtin;refine qgT rfl _ _ 82 9 rfl TU i0 Tryz.underlying82 Tryz.underlying9 hi hz0 hz1 hz2 _ _ _ rfl hown s rfl ?c3 ?c4 ?_)
 case c3=>unfold maxLen;omega
 case c4=>omega
 intro v' w2 hown' hgrow hnew
 have hb2:w2.heap[b]? =some (.cells #[.pointer (some ⟨b,0,none⟩),v] TB (0,0)):=by
  rw[hgrow.block b hlt (fun e=>hne e.symm)];exact hbk
 have d0:w2.cell? ⟨b,0,none⟩=some (.pointer (some ⟨b,0,none⟩)):=by rw[Lib.cell_of_heap hb2];rfl
 have d1:w2.cell? ⟨b,1,none⟩=some v:=by rw[Lib.cell_of_heap hb2];rfl
 have f1:w2.frozen? ⟨b,1,none⟩=false:=Lib.frozen_of_heap hb2 1
 have hne':v'.ownBlock≠some b:=fun e=>by
  rcases hnew b e with h|h
  ·exact hne h
  ·omega
 obtain⟨ao,n',cap,hv'⟩:∃ao n' cap,v'= .slice ao n' cap:=by
  rcases hown'.2 with⟨hv,_⟩|⟨g,cap,cur,fz,hv,_⟩
  ·exact⟨_,_,_,hv⟩
  ·exact⟨_,_,_,hv⟩
 have HH:=Lib.hid (And.intro hown' (And.intro hgrow (And.intro hnew (And.intro hne' hk1))));clear hown' hgrow hnew hne' hk1;subst hv'
 go_wp2
 go_ret2
 obtain⟨hown',hgrow,hnew,hne',hk1⟩:=HH.out;have hk:∀k,k≠b->(w2.setCell ⟨b,1,none⟩ (.slice ao n' cap)).heap[k]? =w2.heap[k]? :=fun k hk=>Below.heap_setCell _ _ _ _ hk;refine⟨rfl,_,_,⟨by simp[World.setCell,Array.getElem?_modify,hb2],.inr rfl,?_,hne'⟩,⟨hgrow.os.trans hk1.os,hgrow.tape.trans hk1.tape,hgrow.output.trans hk1.output,by simp only[World.setCell];simpa using Nat.le_trans hk1.size hgrow.size,fun k h1 h2 h3=>?_⟩,fun g hg=>?_⟩
 ·have e1:(l++s.data.toList).length=l.length+s.size:=by rw[zqK,qad]
  rw[e1,<-bf_str];exact qd5 hown' fun g hg=>hk g (fun e=>hne' (e▸hg))
 ·rw[hk k h2,hgrow.block k (Nat.lt_of_lt_of_le h1 hk1.size) (fun e=>h3 e.symm)];exact hk1.keep k h1 h2 h3
 ·exact(hnew g hg).imp id fun h=>Nat.le_trans hk1.size h
theorem qrf(b:Nat)(u v:Value)(l:List UInt8)(w:World)(h:BB b u v l w):Calls Tryz.prog 75 #[.pointer (some ⟨b,0,none⟩)] w fun e w'=>
  e= .returned (.string (tx l))/\BB b u v l w'/\BK b v w w':=by
 have hUN:∀(W:World) (q:Option Addr),(Builtin.unsafeString_ #[157,3] 9 #[.pointer q,.int .i64 0]).run Tryz.prog W= .ok (.string .empty) W:=fun W q=>Lib.run_unsafeString_none W _ _ _ q;have hlt:=bb_lt h;have h':=h;obtain⟨hbk,hu,hown,hne⟩:=h;have H0:=Lib.hid h';have HU:=Lib.hid hu;clear h' hu;rcases hown.2 with⟨rfl,hz⟩|⟨g,cap,cur,fz,rfl,hbg,hg,hfz,hnc,hcm,hcs,htake⟩
 ·obtain rfl:l=[]:=List.eq_nil_of_length_eq_zero hz
  have c1:w.drew.cell? ⟨b,1,none⟩=some (.slice none 0 0):=by
   have:w.drew.heap[b]? =some (.cells #[u,.slice none 0 0] TB (0,0)):=hbk;rw[Lib.cell_of_heap this];rfl
  have hSD:(Builtin.unsafeSliceData_ #[82] 157 #[.slice none 0 0]).run Tryz.prog w.drew= .ok (.pointer none) w.drew:=rfl
  go_enter Tryz.func75,Tryz.ntmps75
  go_wp2
  go_region
  all_goals (go_wp2;go_ret;exact⟨rfl,H0.out,⟨rfl,rfl,rfl,Nat.le_refl _,fun _ _ _ _=>rfl⟩⟩)
 ·by_cases hl0:l=[]
  ·subst hl0;by_cases hc0:cap=0
   ·subst hc0
    have hSD:(Builtin.unsafeSliceData_ #[82] 157 #[.slice (some ⟨g,0,none⟩) 0 0]).run Tryz.prog w.drew= .ok (.pointer (some ⟨w.drew.heap.size,0,none⟩)) (w.drew.alloc (.view ⟨g,0,none⟩ TU)):=
     Lib.run_unsafeSliceData_zero w.drew _ _ TU Tryz.underlying157 ⟨g,0,none⟩ 0 (TU,cur.size) (by have hg':w.drew.heap[g]? =some (.cells cur TU fz):=hg;simp[World.shape?,hg'])
    have c1:w.drew.cell? ⟨b,1,none⟩=some (.slice (some ⟨g,0,none⟩) 0 0):=by
     have:w.drew.heap[b]? =some (.cells #[u,.slice (some ⟨g,0,none⟩) 0 0] TB (0,0)):=hbk;rw[Lib.cell_of_heap this];rfl
    have c2:(w.drew.alloc (.view ⟨g,0,none⟩ TU)).cell? ⟨b,1,none⟩=some (.slice (some ⟨g,0,none⟩) 0 0):=by
     have:(w.drew.alloc (.view ⟨g,0,none⟩ TU)).heap[b]? =_:=(Lib.alloc_old w.drew _ b hlt).trans hbk;rw[Lib.cell_of_heap this];rfl
    have c3:(w.alloc (.view ⟨g,0,none⟩ TU)).drew.cell? ⟨b,1,none⟩=some (.slice (some ⟨g,0,none⟩) 0 0):=c2;have c0:w.cell? ⟨b,1,none⟩=some (.slice (some ⟨g,0,none⟩) 0 0):=c1;have hal:∀k,k<w.heap.size->(w.drew.alloc (.view ⟨g,0,none⟩ TU)).heap[k]? =w.heap[k]? :=fun k hk=>Lib.alloc_old w.drew _ k hk
    have fin:BB b u (.slice (some ⟨g,0,none⟩) 0 0) [] (w.drew.alloc (.view ⟨g,0,none⟩ TU))/\BK b (.slice (some ⟨g,0,none⟩) 0 0) w (w.drew.alloc (.view ⟨g,0,none⟩ TU)):=by
     obtain⟨h1,h2,h3,h4⟩:=H0.out;exact⟨⟨(hal b hlt).trans h1,h2,qd5 h3 fun g' hg'=>hal g' (h3.lt g' hg').2,h4⟩,⟨rfl,rfl,rfl,by simp,fun k hk _ _=>hal k hk⟩⟩
    have HF:=Lib.hid fin;clear fin hal
    go_enter Tryz.func75,Tryz.ntmps75
    go_wp2
    go_region
    all_goals (go_wp2;go_ret;exact⟨rfl,HF.out⟩)
   ·have hSD:(Builtin.unsafeSliceData_ #[82] 157 #[.slice (some ⟨g,0,none⟩) 0 cap]).run Tryz.prog w.drew= .ok (.pointer (some ⟨g,0,none⟩)) w.drew:=
     Lib.run_unsafeSliceData_row _ _ _ _ _ _ hc0
    have c1:w.drew.cell? ⟨b,1,none⟩=some (.slice (some ⟨g,0,none⟩) 0 cap):=by
     have:w.drew.heap[b]? =some (.cells #[u,.slice (some ⟨g,0,none⟩) 0 cap] TB (0,0)):=hbk;rw[Lib.cell_of_heap this];rfl
    clear hc0
    go_enter Tryz.func75,Tryz.ntmps75
    go_wp2
    go_region
    all_goals (go_wp2;go_ret;exact⟨rfl,H0.out,⟨rfl,rfl,rfl,Nat.le_refl _,fun _ _ _ _=>rfl⟩⟩)
  ·have hlp:l.length≠0:=fun e=>hl0 (List.length_eq_zero_iff.1 e)
   have c1:w.drew.cell? ⟨b,1,none⟩=some (.slice (some ⟨g,0,none⟩) l.length cap):=by
    have:w.drew.heap[b]? =some (.cells #[u,.slice (some ⟨g,0,none⟩) l.length cap] TB (0,0)):=hbk;rw[Lib.cell_of_heap this];rfl
   have hSD:(Builtin.unsafeSliceData_ #[82] 157 #[.slice (some ⟨g,0,none⟩) l.length cap]).run Tryz.prog w.drew= .ok (.pointer (some ⟨g,0,none⟩)) w.drew:=
    Lib.run_unsafeSliceData_row _ _ _ _ _ _ (by omega)
   have hUS:(Builtin.unsafeString_ #[157,3] 9 #[.pointer (some ⟨g,0,none⟩),.int .i64 l.length]).run Tryz.prog w.drew= .ok (.string ⟨l.toArray⟩) (w.drew.freeze ⟨g,0,none⟩ l.length):=by
    refine Lib.run_unsafeString_row w.drew 157 3 9 TU Tryz.underlying157 lextra.cellsByte g cur.size (by have hg':w.drew.heap[g]? =some (.cells cur TU fz):=hg;simp[World.shape?,hg']) l hl0 (by omega) (by unfold maxLen at hcm;omega) ?_;intro j x hx;exact hown.cells (g:=g) rfl j (.int .u8 x.toNat) (by simp[qc3,hx])
   have hfr:∀k,k≠g->(w.drew.freeze ⟨g,0,none⟩ l.length).heap[k]? =w.heap[k]? :=fun k hk=>by
    unfold World.freeze;split
    ·rfl
    ·simp only[Array.getElem?_modify];rw[if_neg (fun e=>hk e.symm)];rfl
   have fin:BB b u (.slice (some ⟨g,0,none⟩) l.length cap) l (w.drew.freeze ⟨g,0,none⟩ l.length)/\BK b (.slice (some ⟨g,0,none⟩) l.length cap) w (w.drew.freeze ⟨g,0,none⟩ l.length):=by
    have hbl:(qc3 l).length=l.length:=by simp[qc3]
    have hA:Lib.BuilderAtF TB TU 0 b u (qc3 l) w.drew:=⟨Nat.zero_le _,_,hbk,by rw[hbl];exact hown,hne⟩
    have hF:=hA.froze (g:=g) (cap:=cap) (by rw[hbl];exact c1);rw[hbl]at hF;obtain⟨_,v',k1,k2,k3⟩:=hF;have hgb:b≠g:=fun e=>hne (by simp[Value.ownBlock,e]);have k1':=k1;rw[hfr b hgb,hbk]at k1';simp at k1';subst k1';rw[hbl]at k2;refine⟨⟨k1,HU.out,k2,hne⟩,⟨?_,?_,?_,?_,fun k hk h2 h3=>hfr k (fun e=>h3 (by simp[Value.ownBlock,e]))⟩⟩<;>(unfold World.freeze;split<;>first|rfl|exact Nat.le_refl _|(simp only[Array.size_modify];exact Nat.le_refl _))
   have HF:=Lib.hid fin;clear fin hfr
   go_enter Tryz.func75,Tryz.ntmps75
   go_wp2
   go_region
   all_goals (go_wp2;go_ret;exact⟨rfl,HF.out⟩)
theorem qjT{E:Env}{w w':World}{β:Nat->Nat}{Rd:Nat->Nat->Prop}{Ow:Nat->Option Hold}{H:Hp}(hr:HR E w β Rd Ow H){i:Nat}{l l':List UInt8}(hi:H[i]? =some [.bl TB,.bf TU l]){u v u' v':Value}(hb:BB (β i) u v l w)(hb':BB (β i) u' v' l' w')(hk:BK (β i) v w w')
  (hnew:∀g,v'.ownBlock=some g->v.ownBlock=some g\/w.heap.size<=g) {x:AV} {c:Value} (hx:Rel w' β Rd x c) (hxf:x.free=true) (hxb:Bnd H.length x):
  ∃Ow',Post E w β Rd Ow H w' β Rd Ow' (H.set i [.bl TB,.bf TU l']) x c:=by
 have hil:i<H.length:=(zqC.1 hi).1;obtain⟨T,cs,b1,b2,b3⟩:=hr.box i _ hi;have e0:=hb.1;rw[e0]at b1;cases b1;obtain⟨r1,r2,r3⟩:=b3 1 (.bf TU l) v rfl rfl;have hd:∀g,v.ownBlock=some g->∀o,¬Rd g o:=by cases r1;assumption
 have hOv:∀g,v.ownBlock=some g->Ow g=some (.cell i 1):=fun g hg=>r3 g hg
 have hlt:∀j,j<H.length->β j<w.heap.size:=fun j hj=>by
  obtain⟨T,cs,h1,_⟩:=hr.box j _ (zqD hj);exact qcq h1
 have hvb:∀j,j<H.length->v.ownBlock≠some (β j):=fun j hj e=>by have:=hOv _ e;rw[(hr.sep j hj).1]at this;cases this
 have hv'b:∀j,j<H.length->v'.ownBlock≠some (β j):=fun j hj e=>by
  rcases hnew _ e with h|h
  ·exact hvb j hj h
  ·have:=hlt j hj;omega
 have hR:∀g o,Rd g o->Rd g o/\w'.cell? ⟨g,o,none⟩=w.cell? ⟨g,o,none⟩:=fun g o h=>⟨h,World.cell?_of_block (a:=⟨g,o,none⟩) (hk.keep g (hr.rds g o h) (fun e=>(hr.sep i hil).2 o (e▸h)) (fun e=>hd g e o h))⟩
 have hO:∀(j p:Nat) g,(j≠i\/p≠1)->Ow g=some (.cell j p)->w'.heap[g]? =w.heap[g]? /\∀o,Rd g o->Rd g o:=fun j p g hj hg=>⟨hk.keep g (hr.ows g _ hg) (fun e=>by rw[e,(hr.sep i hil).1]at hg;cases hg) (fun e=>by rw[hOv g e]at hg;cases hg;simp at hj),fun _ h=>h⟩
 have hlen:(H.set i [AV.bl TB,.bf TU l']).length=H.length:=by simp
 have hother:∀j,j<H.length->j≠i->w'.heap[β j]? =w.heap[β j]? :=fun j hj hji=>hk.keep _ (hlt j hj) (fun e=>hji (hr.inj j i hj hil e)) (hvb j hj);refine⟨fun g=>if v'.ownBlock=some g then some (.cell i 1)else Ow g,hx,by rw[hlen];exact hxb,fun g hg=>(by rw[qaw hxf]at hg;cases hg),qaR hxf,?_,fun _ _=>rfl,by rw[hlen];exact Nat.le_refl _,hR,fun b h1 h2 h3=>⟨hk.keep b h1 (fun e=>h2 i hil e.symm) (fun e=>(by rw[hOv b e]at h3;cases h3)),?_,fun j hj=>h2 j (by rwa[hlen]at hj),fun _ h=>h⟩,hk.os,hk.tape,hk.output,hk.size⟩
 ·refine⟨fun j m hm=>?_,fun a b ha hbb=>hr.inj a b (by rwa[hlen]at ha) (by rwa[hlen]at hbb),fun j hj=>⟨?_,(hr.sep j (by rwa[hlen]at hj)).2⟩,fun g k hg=>?_,fun g o h=>Nat.lt_of_lt_of_le (hr.rds g o h) hk.size,fun m hm y hy=>?_,fun b hbf=>?_,fun j m t hm h0=>?_⟩
  ·by_cases hji:i=j
   ·subst hji;rw[zqO hil]at hm;cases hm;refine⟨TB,_,hb'.1,rfl,fun p y z hy hz=>?_⟩
    match p with
    |0=>
     simp at hy hz;subst hy;subst hz;exact⟨.bl _ _ (by rcases hb'.2.1 with rfl|rfl<;>rfl),rfl,fun g hg=>by cases hg⟩
    |1=>
     simp at hy hz;subst hy;subst hz;refine⟨.bf _ _ _ hb'.2.2.1 (fun g hg o ho=>?_),rfl,fun g hg=>?_⟩
     ·rcases hnew g hg with h|h
      ·exact hd g h o ho
      ·have:=hr.rds g o ho;omega
     ·have hg:v'.ownBlock=some g:=hg;simp[hg]
    |p+2=>simp at hy
   ·rw[zqF hji]at hm;have hj:j<H.length:=(zqC.1 hm).1;obtain⟨T2,cs2,c1,c2,c3⟩:=hr.box j m hm;refine⟨T2,cs2,(hother j hj (fun e=>hji e.symm)).trans c1,c2,fun p y z hy hz=>?_⟩;obtain⟨q1,q2,q3⟩:=c3 p y z hy hz;refine⟨q1.move (hr.bnd m (qak hm) y (qak hy)) hR (fun g hg=>hO j p g (.inl fun e=>hji e.symm) (q3 g hg)) hk.size (fun _ _=>rfl),q2,fun g hg=>?_⟩;have hq:=q3 g hg;show(if v'.ownBlock=some g then _ else _)=_;rw[if_neg]
    ·exact hq
    ·intro e;rcases hnew g e with h|h
     ·rw[hOv g h]at hq;cases hq;exact hji rfl
     ·have:=hr.ows g _ hq;omega
  ·rw[hlen]at hj;show(if v'.ownBlock=some (β j)then _ else _)=_;rw[if_neg (hv'b j hj)];exact(hr.sep j hj).1
  ·have hg:(if v'.ownBlock=some g then some (Hold.cell i 1)else Ow g)=some k:=hg;split at hg
   ·rename_i e;exact(hb'.2.2.1.lt g e).2
   ·exact Nat.lt_of_lt_of_le (hr.ows g k hg) hk.size
  ·rw[hlen];rcases List.mem_or_eq_of_mem_set hm with h|h
   ·exact hr.bnd m h y hy
   ·subst h;simp at hy;rcases hy with rfl|rfl
    ·exact .bl _
    ·exact .bf _ _
  ·obtain⟨f1,f2,f3,f4⟩:=hr.fix b hbf;have hvn:v.ownBlock≠some b:=fun e=>by rw[hOv b e]at f2;cases f2
   refine⟨(hk.keep b f4 (fun e=>f3 i hil e.symm) hvn).trans f1,?_,fun j hj=>f3 j (by rwa[hlen]at hj),Nat.lt_of_lt_of_le f4 hk.size⟩;show(if v'.ownBlock=some b then _ else _)=_;rw[if_neg]
   ·exact f2
   ·intro e;rcases hnew b e with h|h
    ·exact hvn h
    ·omega
  ·by_cases hji:i=j
   ·subst hji;rw[zqO hil]at hm;cases hm;simp at h0;subst h0;exact⟨u',v',hb'.1,hb'.2.1⟩
   ·rw[zqF hji]at hm;have hj:j<H.length:=(zqC.1 hm).1;obtain⟨u2,v2,g1,g2⟩:=hr.bld j m t hm h0;exact⟨u2,v2,(hother j hj (fun e=>hji e.symm)).trans g1,g2⟩
 ·show(if v'.ownBlock=some b then _ else _)=_;rw[if_neg]
  ·exact h3
  ·intro e;rcases hnew b e with h|h
   ·rw[hOv b h]at h3;cases h3
   ·omega
theorem bb_of{E:Env}{w:World}{β:Nat->Nat}{Rd:Nat->Nat->Prop}{Ow:Nat->Option Hold}{H:Hp}(hr:HR E w β Rd Ow H){i:Nat}{l:List UInt8}(hi:H[i]? =some [.bl TB,.bf TU l]):∃u v,BB (β i) u v l w:=by
 obtain⟨u,v,h1,h2⟩:=hr.bld i _ TB hi rfl;obtain⟨T,cs,b1,b2,b3⟩:=hr.box i _ hi;rw[h1]at b1;cases b1;obtain⟨r1,r2,r3⟩:=b3 1 (.bf TU l) v rfl rfl;refine⟨u,v,h1,h2,by cases r1;assumption,fun e=>?_⟩;have:=r3 _ e;rw[(hr.sep i (zqC.1 hi).1).1]at this;cases this
section
variable (E:Env)(H:Hp)(Q:AV->Hp->Prop)
theorem qly(i:Nat)(l s:List UInt8)(hi:H[i]? =some [.bl TB,.bf TU l])(hl:l.length+s.length<=140737488355328)(hQ:Q (.tup [.int .i64 s.length,.raw .nilIface]) (H.set i [.bl TB,.bf TU (l++s)])):PC Tryz.prog E 74 [.ptr (some (i,0)),.str s] H Q:=by
 refine⟨by kernel_rfl,fun w β Rd Ow cargs hr hcell hsz hargs=>?_⟩;obtain⟨u,v,hb⟩:=bb_of hr hi;have g0:=hargs 0 _ _ rfl (zqM (by rw[hsz];simp));have g1:=hargs 1 _ _ rfl (zqM (by rw[hsz];simp))
 obtain⟨c0,c1,rfl⟩:∃c0 c1,cargs= #[c0,c1]:=by
  cases cargs with
  |mk l=>
   match l,hsz with
   |[x,y],_=>exact⟨x,y,rfl⟩
 simp at g0 g1;obtain rfl:=qb4 g0.1;obtain⟨t,rfl,ht,_⟩:=qaq g1;subst ht;refine(qqa (β i) u v l t w hb (by rw[qad]at hl;exact hl)).mono ?_;rintro e w' ⟨rfl,u',v',h1,h2,h3⟩
 obtain⟨Ow',hP⟩:=qjT hr hi hb h1 h2 h3 (x:= .tup [.int .i64 t.data.toList.length,.raw .nilIface]) (c:= .tuple #[.int .i64 t.size,.nilIface])
  (.tup _ _ rfl (by simp[AV.free]) (fun j x u hx hu=>by
   match j with
   |0=>simp at hx hu;subst hx;subst hu;exact .int _ _
   |1=>simp at hx hu;subst hx;subst hu;exact .raw _
   |j+2=>simp at hx)) rfl (.tup _ (fun x hx=>by simp at hx;rcases hx with rfl|rfl;exact .int _ _;exact .raw _))
 exact⟨_,_,_,β,Rd,Ow',rfl,hQ,hP⟩
theorem qjp(i:Nat)(l:List UInt8)(hi:H[i]? =some [.bl TB,.bf TU l])(hl:l.length<=maxLen)(hQ:Q (.str l) H):PC Tryz.prog E 75 [.ptr (some (i,0))] H Q:=by
 refine⟨by kernel_rfl,fun w β Rd Ow cargs hr hcell hsz hargs=>?_⟩;obtain⟨u,v,hb⟩:=bb_of hr hi;have g0:=hargs 0 _ _ rfl (zqM (by rw[hsz];simp))
 obtain⟨c0,rfl⟩:∃c0,cargs= #[c0]:=by
  cases cargs with
  |mk l=>
   match l,hsz with
   |[x],_=>exact⟨x,rfl⟩
 simp at g0;obtain rfl:=qb4 g0.1;refine(qrf (β i) u v l w hb).mono ?_;rintro e w' ⟨rfl,h1,h2⟩;obtain⟨Ow',hP⟩:=qjT hr hi hb h1 h2 (fun g hg=> .inl hg) (x:= .str l) (c:= .string (tx l)) (qc5 _ hl) rfl (.str _)
 have:H.set i [.bl TB,.bf TU l]=H:=by
  apply List.ext_getElem?;intro j;by_cases hj:i=j
  ·subst hj;rw[zqO (zqC.1 hi).1,hi]
  ·rw[zqF hj]
 rw[this]at hP;exact⟨_,_,_,β,Rd,Ow',rfl,hQ,hP⟩
end
theorem PC.argsNil{P:Program}{E:Env}{f:FuncId}{args args':List AV}{H:Hp}{Q:AV->Hp->Prop}(h:nilL args args')(hf:∀x∈args',x.free=true)(hp:PC P E f args' H Q):PC P E f args H Q:=by
 obtain⟨h1,h2⟩:=qdJ h;refine⟨hp.1,fun w β Rd Ow cargs hr hcell hsz hargs=>hp.2 w β Rd Ow cargs hr hcell (by rw[hsz,h1]) (fun t y u hy hu=>?_)⟩;obtain⟨x,hx,hn⟩:=h2 t y hy;obtain⟨r1,r2,r3⟩:=hargs t x u hx hu;obtain⟨q1,q2,_⟩:=qea hn r1 r2;exact⟨q1,q2,hf y (qak hy)⟩
def u8L(l:List UInt8):List AV:=l.map fun b=> .int .u8 (b.toNat:Int)
theorem qqm(l m:List UInt8):u8L (l++m)=u8L l++u8L m:=by simp[u8L]
@[simp] theorem qkv (l:List UInt8):(u8L l).length=l.length:=by simp[u8L]
theorem qnu(l:List UInt8):(bts l).flatten=u8L l:=by
 induction l with
 |nil=>rfl
 |cons b l ih=>
  show _::(bts l).flatten=_;rw[ih];rfl
theorem qe0(strs:List (List UInt8))(j:Nat):(strs.take j).flatten.length<=strs.flatten.length:=by
 have:=congrArg (fun l=>(List.flatten l).length) (List.take_append_drop j strs);simp only[List.flatten_append,zqK]at this;omega
def qbM(strs:List (List UInt8)):List (List AV):=strs.map fun s=>[.str s]
theorem qgr{strs:List (List UInt8)}{j:Nat}{s:List UInt8}(h:strs[j]? =some s):lat (qbM strs) j=some [.str s]:=by simp[lat,qbM,h]
def ql4(H0:Hp)(N0:Nat)(out:List UInt8)(strs:List (List UInt8))(M:Nat)(fr:List AV)(H':Hp):Prop:=
 ∃(J':Hp) (tail:List AV) (j:Nat),j<=strs.length/\H'=H0++(J'++[u8L (out++(strs.take j).flatten)++tail])/\(∀l∈J',∀x∈l,∃z,x= .int .u8 z)/\(∀x∈tail,∃z,x= .int .u8 z)/\N0<=H0.length+J'.length+1/\
  out.length+M<=out.length+(strs.take j).flatten.length+tail.length/\out.length+(strs.take j).flatten.length+tail.length<=maxLen/\
  ∃x:Nat->AV,fr=[.bx (H0.length+J'.length) 0 (out.length+M) (out.length+(strs.take j).flatten.length+tail.length) 1,x 1,x 2,x 3,x 4,x 5,x 6,.int .i64 ((out.length+(strs.take j).flatten.length:Nat):Int),x 8,x 9,x 10,x 11,x 12,x 13,x 14,x 15,x 16,x 17,x 18,x 19,x 20,x 21,x 22,x 23,x 24,x 25,x 26,x 27,.sl true 1 (qbM strs),.int .i64 strs.length,.int .i64 j,x 31,x 32,x 33,x 34,x 35,x 36,x 37,x 38,x 39,x 40,x 41,x 42]
def qjy(H0:Hp)(v:AV)(out:List UInt8)(H:Hp):Prop:=∃J,H=H0++J/\(∀l∈J,∀x∈l,∃z,x= .int .u8 z)/\((v= .nil/\out=[])\/
 ∃J1 tail,J=J1++[u8L out++tail]/\v= .bx (H0.length+J1.length) 0 out.length (out.length+tail.length) 1/\out.length+tail.length<=maxLen)
section
variable (E:Env)(H:Hp)(Q:AV->Hp->Prop)
theorem qdd(hE:SZ E)(n:Nat)(hn:n<=1099511627776)(hQ:Q (.tup [.str (hexD n),.int .i64 0]) H):PC Tryz.prog E 111 [.int .i64 n,.nil] H Q:=by
 have hl:=qbB n hn;refine PC.argsNil (args':=[.int .i64 n,.sl false 3 (prs [])]) ⟨.inl rfl,.inr ⟨rfl,false,3,rfl⟩,trivial⟩ (by simp) (qhU E H Q hE n [] (by simp[psz]) ?_)
 have e:qd1 n []=(hexD n,0):=by
  unfold qd1;rw[if_neg (by omega),if_neg (by simp),if_neg (by simp[prt];omega)];simp[prt]
 rw[e];exact hQ
theorem qpO(hE:SZ E)(H0:Hp)(v:AV)(out p:List UInt8)(hv:qjy H0 v out H)(hp:p.length<=4194304)(hl:out.length<=1073741824)(hQ:∀v' H',qjy H0 v' (out++qb9 p) H'->Q v' H'):PC Tryz.prog E 79 [v,.str p] H Q:=by
 obtain⟨size,hsz⟩:=exz (hexD p.length);have hs11:=qbB p.length (by omega);rw[hsz]at hs11;obtain⟨J,rfl,hJ,hv⟩:=hv;have hw1:IntKind.i64.wrap ((size.length:Int)+p.length)=((size.length+p.length:Nat):Int):=by rw[qax (by omega) (by omega)];omega
 have hw2:IntKind.i64.wrap (((size.length+p.length:Nat):Int)+4)=((size.length+p.length+4:Nat):Int):=by rw[qax (by omega) (by omega)];omega
 obtain⟨M,hM⟩:=exz (size.length+p.length+4);rw[hM]at hw2;have hM0:¬M=0:=by omega
 have m1:M<=maxLen:=by unfold maxLen;omega
 have m2:M<=140737488355328:=by omega
 have hch:size++([13,10]++(p++[13,10]))=qb9 p:=by unfold qb9;rw[hsz];simp
 obtain⟨strs,hstrs⟩:∃strs:List (List UInt8),[size,[13,10],p,[13,10]]=strs:=⟨_,rfl⟩
 have hsl:strs.length=4:=by rw[<-hstrs];rfl
 have hsf:strs.flatten=qb9 p:=by rw[<-hstrs,<-hch];simp
 have hsM:strs.flatten.length=M:=by rw[<-hM,<-hstrs];simp;omega
 have hrows:qbM strs=[[AV.str size],[.str [13,10]],[.str p],[.str [13,10]]]:=by rw[<-hstrs];rfl
 have hlast:∀j,j<4->(strs.take j).flatten.length+2<=M:=fun j hj=>by
  have h1:(strs.take j).flatten.length<=(strs.take 3).flatten.length:=by
   have:=qe0 (strs.take 3) j;rw[List.take_take,Nat.min_eq_left (by omega)]at this;exact this
  have h2:(strs.take 3).flatten.length=size.length+(2+p.length):=by rw[<-hstrs];simp;omega
  omega
 have hM1:M<=8388608:=by omega
 have r4:(([0,1,2,3]:List Nat)=List.range 4)=True:=eq_true rfl;have hzero:∀(n:Nat) (x:AV),x∈List.replicate n (AV.int .u8 0)->∃z,x= .int .u8 z:=fun n x hx=>⟨0,(List.mem_replicate.1 hx).2⟩
 have hB0:∀N,BndH (H0++J).length (H0++J)->(H0++J).length<=N->∀l∈H0,∀x∈l,Bnd N x:=fun N hB hN l hl x hx=>(hB l (List.mem_append_left _ hl) x hx).mono hN;rcases hv with⟨rfl,hout⟩|⟨J1,tail,rfl,rfl,htl⟩
 case' inl=>
  obtain⟨N0,hN0⟩:=exz (H0.length+J.length);refine qab Tryz.func79 rfl [] [(3,[0,0,0,0,0,0,0,3]),(7,[0,0,0,0,0,3])] (by kernel_rfl) (fun hB=>?_);simp[Tryz.ntmps79,Tryz.results79,List.replicate_succ];refine qdd E _ _ hE p.length (by omega) ?_;rw[hsz];simp[hw1,hw2,m1,m2,hM0,-Int.natCast_add];refine qc4 fun c hc1 hc2=>?_;simp[r4];rw[hN0];refine qaG (ql4 H0 N0 out strs M) (fun fr _=>4-(ai (aget fr 30)).toNat) ?_ ?_
  ·refine⟨J,List.replicate (M+(c-M)) (.int .u8 0),0,by omega,by simp[u8L,hout],hJ,hzero _,by omega,by simp,by simp[hout];omega,qal (by simp[hrows,hsl,hout,hN0];omega)⟩
  have hBN:∀N,N0<=N->∀l∈H0,∀x∈l,Bnd N x:=fun N hN=>hB0 N hB (by simp;omega);clear hJ hB hN0 hc1 hc2 hB0 hout
 case' inr=>
  obtain⟨N0,hN0⟩:=exz (H0.length+(J1.length+1));have hfree:(∀x∈u8L out,x.free=true)=True:=eq_true fun x hx=>by obtain⟨b,_,rfl⟩:=List.mem_map.1 hx;rfl
  have hdrop:List.drop (out.length+M) (u8L out++tail)=tail.drop M:=by rw[List.drop_append,List.drop_of_length_le (by simp only[qkv];omega)];simp
  have htu:∀x∈tail,∃z,x= .int .u8 z:=fun x hx=>hJ (u8L out++tail) (by simp) x (List.mem_append_right _ hx);have hJ1:∀l∈J1,∀x∈l,∃z,x= .int .u8 z:=fun l hl=>hJ l (List.mem_append_left _ hl);have hrow:∀x∈u8L out++tail,∃z,x= .int .u8 z:=hJ _ (by simp);refine qab Tryz.func79 rfl [] [(3,[0,0,0,0,0,0,0,3]),(7,[0,0,0,0,0,3])] (by kernel_rfl) (fun hB=>?_);simp[Tryz.ntmps79,Tryz.results79,List.replicate_succ];refine qdd E _ _ hE p.length (by omega) ?_;rw[hsz];have hBN:∀N,N0<=N->∀l∈H0,∀x∈l,Bnd N x:=fun N hN=>hB0 N hB (by simp;omega);rcases Nat.lt_or_ge (out.length+tail.length) (out.length+M)with hroom|hroom
  case' inr=>
   simp[hw1,hw2,m1,m2,hM0,hroom,hfree,hdrop,r4,-Int.natCast_add];rw[hN0];refine qaG (ql4 H0 N0 out strs M) (fun fr _=>4-(ai (aget fr 30)).toNat) ?_ ?_
   ·refine⟨J1,List.replicate M (.int .u8 0)++tail.drop M,0,by omega,by simp,hJ1,fun x hx=>?_,by omega,by simp,by simp;omega,qal (by simp[hrows,hsl];omega)⟩;rcases List.mem_append.1 hx with h|h
    ·exact hzero _ x h
    ·exact htu x (List.mem_of_mem_drop h)
   clear hJ hB hN0 hfree hdrop htu hJ1 hroom htl hB0 hrow
  case' inl=>
   have hroom':¬out.length+M<=out.length+tail.length:=by omega
   have hm3:out.length+M<=maxLen:=by unfold maxLen;omega
   have hm4:out.length+M<=140737488355328:=by omega
   simp[hw1,hw2,m1,m2,hM0,hroom',hfree,hm3,hm4,-Int.natCast_add];refine qc4 fun c hc1 hc2=>?_;simp[r4];rw[hN0];refine qaG (ql4 H0 N0 out strs M) (fun fr _=>4-(ai (aget fr 30)).toNat) ?_ ?_
   ·refine⟨J1++[u8L out++tail],List.replicate M (.int .u8 0)++List.replicate (c-(out.length+M)) (.int .u8 0),0,by omega,by simp,fun l hl=>?_,fun x hx=>?_,by simp;omega,by simp,by simp;omega,qal (by simp[hrows,hsl];omega)⟩
    ·rcases List.mem_append.1 hl with h|h
     ·exact hJ1 l h
     ·simp at h;subst h;exact hrow
    ·rcases List.mem_append.1 hx with h|h<;>exact hzero _ x h
   clear hJ hB hN0 hfree hdrop htu hJ1 hroom htl hB0 hroom' hm3 hm4 hc1 hc2 hrow
 all_goals
  rintro fr H' ⟨J',tl,j,hj,rfl,hJ',htl',hN,hge,hle,x,rfl⟩;obtain⟨pre,hpre⟩:=exz (out++(strs.take j).flatten);have hpl:out.length+(strs.take j).flatten.length=pre.length:=by rw[<-hpre,zqK]
  rw[hpl]at hge hle⊢;rw[hpre];have hget:∀r:List AV,(H0++(J'++[r]))[H0.length+J'.length]? =some r:=fun r=>by rw[<-List.append_assoc,zqB (by simp)];simp
  have hset:∀r q:List AV,(H0++(J'++[r])).set (H0.length+J'.length) q=H0++(J'++[q]):=fun r q=>by rw[<-List.append_assoc,List.set_append_right _ _ (by simp),List.append_assoc];simp
  by_cases h:j<strs.length
  ·obtain⟨s,hs⟩:∃s,strs[j]? =some s:=⟨_,zqD h⟩
   have hat:=qgr hs;have hl2:=hlast j (by omega);have hnext:(strs.take (j+1)).flatten=(strs.take j).flatten++s:=by rw[List.take_add_one,hs];simp
   have hpn:pre++s=out++(strs.take (j+1)).flatten:=by rw[hnext,<-hpre];simp
   have hle2:pre.length+s.length<=out.length+M:=by
    have:=qe0 strs (j+1);have e:=congrArg List.length hpn;rw[zqK,zqK]at e;omega
   have q1:pre.length<=out.length+M:=by omega
   have q2:out.length+M<=pre.length+tl.length:=by omega
   have q3:¬pre.length+tl.length=pre.length:=by omega
   have q4:s.length<=out.length+M-pre.length:=by omega
   have q5:pre.length+s.length<=pre.length+tl.length:=by omega
   have q6:s.length<=tl.length:=by omega
   have hw3:IntKind.i64.wrap ((pre.length:Int)+s.length)=((pre.length+s.length:Nat):Int):=by rw[qax (by omega) (by omega)];omega
   have hw4:IntKind.i64.wrap ((j:Int)+1)=j+1:=wiz;have hne:¬tl=[]:=fun e=>by rw[e]at q2;simp at q2;omega
   have e1:List.take pre.length (u8L pre++tl)=u8L pre:=by rw[List.take_append_of_le_length (by simp),zqE (by simp)]
   have e2:List.drop (pre.length+s.length) (u8L pre++tl)=tl.drop s.length:=by rw[List.drop_append,List.drop_of_length_le (by simp)];simp
   simp[h,hat,q1,q2,q4,q5,q6,hne,hget,hset,hw3,hw4,e1,e2,qnu,-Int.natCast_add];refine Klz ⟨J',tl.drop s.length,j+1,by omega,by rw[<-hpn,qqm];simp,hJ',fun y hy=>htl' y (List.mem_of_mem_drop hy),hN,?_,?_,qal ?_⟩
   all_goals
    have e3:out.length+(strs.take (j+1)).flatten.length=pre.length+s.length:=by rw[<-zqK,<-hpn,zqK]
    rw[e3]
    try (rw[zqI];omega)
   have e4:pre.length+s.length+(tl.drop s.length).length=pre.length+tl.length:=by rw[zqI];omega
   rw[e4];simp
  ·obtain rfl:j=strs.length:=by omega
   simp;have hfull:out++qb9 p=pre:=by rw[<-hpre,zqE (Nat.le_refl _),hsf]
   rw[hfull]at hQ;have hn:out.length+M=pre.length:=by rw[<-hpl,zqE (Nat.le_refl _),hsM]
   rw[hn]
   have hcells:∀y∈u8L pre++tl,∃z,y= .int .u8 z:=fun y hy=>by
    rcases List.mem_append.1 hy with h|h
    ·obtain⟨b,_,rfl⟩:=List.mem_map.1 h;exact⟨_,rfl⟩
    ·exact htl' y h
   have hJall:∀l∈J'++[u8L pre++tl],∀y∈l,∃z,y= .int .u8 z:=fun l hl=>by
    rcases List.mem_append.1 hl with h|h
    ·exact hJ' l h
    ·simp at h;subst h;exact hcells
   refine⟨.bx (H0.length+J'.length) 0 pre.length (pre.length+tl.length) 1,_,_,H0++(J'++[u8L pre++tl]),[],by simp,qaa _,qbl _,by simp,by simp;omega,fun l hl y hy=>?_,by simp,hQ _ _ ⟨_,rfl,hJall,.inr ⟨J',tl,rfl,rfl,hle⟩⟩⟩;rcases List.mem_append.1 hl with h|h
   ·exact hBN _ (by simp;omega) l h y hy
   ·obtain⟨z,rfl⟩:=hJall l h y hy;exact .int _ _
end
def qaY(f:Fld):List UInt8×Int:=if qbh f.name=false then([],60)else if qb2 f.value=false then([],61)else(qbi f,0)
@[simp] theorem tblfB:tblf Tryz.prog 120=some TU:=by kernel_rfl
section
variable (E:Env)(H:Hp)(Q:AV->Hp->Prop)
theorem qkW(l:List UInt8)(hl:l.length<=cap)(hQ:Q (.bool (qb2 l)) H):PC Tryz.prog E 105 [.str l] H Q:=by
 refine qab Tryz.func105 rfl [] [] (by kernel_rfl) (fun hB=>?_);have fin:∀c:Bool,qb2 l=c->Q (.bool c) H:=fun c hc=>hc▸hQ;by_cases h:l.length<=8192
 ·have h':(l.length:Int)<=8192:=by omega
  simp[Tryz.ntmps105,Tryz.results105,List.replicate_succ,h'];refine qdt E _ _ l hl ?_;cases hf:fldB l
  ·simp;exact aQz hB (h6:=(fin _ (by simp[qb2,hf])))
  ·simp;refine qfp E _ _ l hl ?_;simp;exact aQz hB (h6:=(fin _ (by unfold qb2;rw[hf,Bool.eq_iff_iff];simp[h])))
 ·have h':¬(l.length:Int)<=8192:=by omega
  simp[Tryz.ntmps105,Tryz.results105,List.replicate_succ,h'];exact aQz hB (h6:=(fin _ (by simp[qb2,h])))
theorem qeV(hE:SE E)(f:Fld)(h1:f.name.length<=16777216)(h2:f.value.length<=16777216)(hQ:Q (.tup [.str (qaY f).1,.int .i64 (qaY f).2]) H):PC Tryz.prog E 73 [.agg [.str f.name,.str f.value]] H Q:=by
 refine qab Tryz.func73 rfl [] [] (by kernel_rfl) (fun hB=>?_);have m1:f.name.length+1<=maxLen:=by unfold maxLen;omega
 have m2:f.name.length+2<=maxLen:=by unfold maxLen;omega
 have m3:f.name.length+2+f.value.length<=maxLen:=by unfold maxLen;omega
 have m4:f.name.length+1+1<=maxLen:=by unfold maxLen;omega
 have m5:f.name.length+1+1+f.value.length<=maxLen:=by unfold maxLen;omega
 simp[Tryz.ntmps73,Tryz.results73,List.replicate_succ];refine qic E _ _ hE f.name (by simp only[cap];omega) ?_;cases hn:qbh f.name with
 |false=>
  have e:qaY f=([],60):=by unfold qaY;rw[if_pos hn]
  rw[e]at hQ;simp;exact qac hB rfl (qaa _) (by simp) hQ
 |true=>
  simp;refine qkW E _ _ f.value (by simp only[cap];omega) ?_;cases hv:qb2 f.value with
  |false=>
   have e:qaY f=([],61):=by unfold qaY;rw[if_neg (by rw[hn];simp),if_pos hv]
   rw[e]at hQ;simp;exact qac hB rfl (qaa _) (by simp) hQ
  |true=>
   have e:qaY f=(qbi f,0):=by unfold qaY;rw[if_neg (by rw[hn];simp),if_neg (by rw[hv];simp)]
   rw[e]at hQ;by_cases he:f.value=[]
   ·have e2:qbi f=f.name++[58]:=by unfold qbi;rw[if_pos he]
    rw[e2]at hQ;have he':(f.value==[])=true:=by simpa using he
    simp[he',m1];exact qac hB rfl (qaa _) (by simp) hQ
   ·have e2:qbi f=f.name++(58::32::f.value):=by unfold qbi;rw[if_neg he]
    rw[e2]at hQ;have he':(f.value==[])=false:=by simpa using he
    simp[he',m2,m3,m4,m5];exact qac hB rfl (qaa _) (by simp) hQ
end
def qb6(ns:List Int):Bool:=ns.all fun n=>decide (1<=n)
def qa9(body:List UInt8)(ns:List Int)(ts:List Fld):List UInt8×Int:=if qb6 ns=false then([],1)else if ts.all qbx=false then([],101)else(encT (qam body ns) ts,0)
def fsz:List Fld->Nat
 |[]=>0
 |f::l=>f.name.length+f.value.length+fsz l
theorem qdh{l:List Fld}{i:Nat}{f:Fld}(h:l[i]? =some f):f.name.length+f.value.length<=fsz l:=by
 induction l generalizing i with
 |nil=>simp at h
 |cons q l ih=>
  cases i with
  |zero=>simp at h;subst h;simp[fsz]
  |succ i=>have:=ih (i:=i) (by simpa using h);simp[fsz];omega
theorem qfd(l:List Fld)(i:Nat):fsz (l.take i)<=fsz l:=by
 induction l generalizing i with
 |nil=>simp
 |cons p l ih=>
  cases i with
  |zero=>simp[fsz]
  |succ i=>have:=ih i;simp[fsz];omega
theorem qeb(f:Fld):(qbi f).length<=f.name.length+f.value.length+2:=by
 unfold qbi;split<;>simp<;>omega
theorem qcC(l:List Fld):(qaB l).length<=fsz l+4*l.length:=by
 induction l with
 |nil=>simp[qaB]
 |cons f l ih=>
  have e:qaB (f::l)=qbi f++[13,10]++qaB l:=by simp[qaB]
  have:=qeb f;rw[e];simp[fsz];omega
theorem qcT(l:List Fld)(i:Nat)(f:Fld)(h:l[i]? =some f):qaB (l.take (i+1))=qaB (l.take i)++(qbi f++[13,10]):=by
 rw[List.take_add_one,h];simp[qaB]
theorem qnp(p:List UInt8)(h0:p≠[])(h:p.length<=1099511627776):(qb9 p).length<=16*p.length:=by
 have h1:=qbB p.length h;have h2:p.length≠0:=fun e=>h0 (List.length_eq_zero_iff.1 e);unfold qb9;simp;omega
theorem qdv:∀(ps:List (List UInt8)),(∀p∈ps,p≠[])->ps.flatten.length<=1099511627776->(qan ps).length<=16*ps.flatten.length
 |[],_,_=>by simp[qan]
 |p::ps,h0,h=>by
  simp only[List.flatten_cons,zqK]at h;have h1:=qnp p (h0 p (by simp)) (by omega);have h2:=qdv ps (fun q hq=>h0 q (by simp[hq])) (by omega);have e:qan (p::ps)=qb9 p++qan ps:=by simp[qan]
  rw[e];simp only[List.flatten_cons,zqK];omega
def qja(a b:List UInt8):Bool:=low a==low b
def allB(l:List Fld)(n:List UInt8):List (List UInt8):=(l.filter fun f=>qja f.name n).map fun f=>f.value
theorem qiB(l:List Fld)(n:List UInt8)(i:Nat)(f:Fld)(h:l[i]? =some f):allB (l.take (i+1)) n=allB (l.take i) n++(if qja f.name n=true then [f.value]else []):=by
 unfold allB;rw[List.take_add_one,h];simp only[Option.toList,List.filter_append,List.map_append];congr 1;by_cases hl:qja f.name n=true
 ·rw[if_pos hl,List.filter_cons,if_pos hl];rfl
 ·rw[if_neg hl,List.filter_cons,if_neg hl];rfl
theorem qkp(l:List Fld)(n:List UInt8):(allB l n).length<=l.length:=by
 unfold allB;rw[List.length_map];exact List.length_filter_le _ _
def vsz:List (List UInt8)->Nat
 |[]=>0
 |x::r=>x.length+1+vsz r
theorem qqd(a b:List (List UInt8)):vsz (a++b)=vsz a+vsz b:=by
 induction a with
 |nil=>simp[vsz]
 |cons x a ih=>simp[vsz,ih];omega
theorem qcL(l:List Fld)(n:List UInt8):vsz (allB l n)<=fsz l+l.length:=by
 induction l with
 |nil=>simp[allB,vsz]
 |cons f l ih=>
  unfold allB at ih⊢;rw[List.filter_cons];simp only[fsz,zqL];split
  ·simp only[List.map_cons,vsz];omega
  ·omega
theorem qjE(l:List (List UInt8))(i:Nat):vsz (l.take i)<=vsz l:=by
 have:=congrArg vsz (List.take_append_drop i l);rw[qqd]at this;omega
theorem qlB{l:List (List UInt8)}{i:Nat}{x:List UInt8}(h:l[i]? =some x):x.length+1<=vsz l:=by
 induction l generalizing i with
 |nil=>simp at h
 |cons a l ih=>
  cases i with
  |zero=>simp at h;subst h;simp[vsz]
  |succ i=>simp at h;have:=ih h;simp[vsz];omega
theorem qlC(l:List (List UInt8)):l.length<=vsz l:=by
 induction l with
 |nil=>simp
 |cons a l ih=>simp[vsz];omega
def qaM:List (List UInt8)->Option (List (List UInt8))
 |[]=>some []
 |v::r=>match qc8 v with
  |none=>none
  |some x=>(qaM r).map (x++·)
theorem qeG:∀(a b:List (List UInt8)),qaM (a++b)=match qaM a with
  |none=>none
  |some x=>(qaM b).map (x++·)
 |[],b=>by
  show qaM b=(qaM b).map (fun y=>[]++y);cases qaM b<;>simp
 |v::a,b=>by
  rw[List.cons_append,qaM,qeG a b,qaM];cases qc8 v with
  |none=>rfl
  |some x=>
   cases qaM a with
   |none=>rfl
   |some y=>cases qaM b<;>simp
theorem qfL{vs:List (List UInt8)}{i:Nat}{v:List UInt8}{acc x:List (List UInt8)}(h:vs[i]? =some v)(ha:qaM (vs.take i)=some acc)(hv:qc8 v=some x):qaM (vs.take (i+1))=some (acc++x):=by
 rw[List.take_add_one,h,Option.toList,qeG,ha];simp[qaM,hv]
theorem qfK{vs:List (List UInt8)}{i:Nat}{v:List UInt8}(h:vs[i]? =some v)(hv:qc8 v=none):qaM vs=none:=by
 have hi:=(zqC.1 h).1
 have e:vs=vs.take i++(v::vs.drop (i+1)):=by
  rw[<-(zqC.1 h).2,<-List.drop_eq_getElem_cons hi,List.take_append_drop]
 rw[e,qeG];cases qaM (vs.take i)with
 |none=>rfl
 |some y=>simp[qaM,hv]
theorem qbq:∀(vs acc:List (List UInt8)),qaM vs=some acc->acc.length<=vsz vs
 |[],acc,h=>by cases h;simp
 |v::r,acc,h=>by
  rw[qaM]at h;cases hv:qc8 v with
  |none=>rw[hv]at h;cases h
  |some x=>
   rw[hv]at h;cases hr:qaM r with
   |none=>rw[hr]at h;cases h
   |some y=>
    rw[hr]at h;cases h;have h1:=qfM hv;have h2:=qbq r y hr;simp[vsz];omega
theorem qcB:∀(vs acc:List (List UInt8)),qaM vs=some acc->∀p∈acc,p.length<=vsz vs
 |[],acc,h=>by cases h;simp
 |v::r,acc,h=>by
  rw[qaM]at h;cases hv:qc8 v with
  |none=>rw[hv]at h;cases h
  |some x=>
   rw[hv]at h;cases hr:qaM r with
   |none=>rw[hr]at h;cases h
   |some y=>
    rw[hr]at h;cases h;intro p hp;rcases List.mem_append.1 hp with hp|hp
    ·have:=qmp hv p hp;simp[vsz];omega
    ·have:=qcB r y hr p hp;simp[vsz];omega
def qci(l:List Fld)(n:List UInt8):List (List UInt8)×Int:=match qaM (allB l n)with
 |some x=>(x,0)
 |none=>([],14)
def qbw(l:List Fld)(n:List UInt8):List (List UInt8)×Int:=match qaM (allB l n)with
 |some x=>if x.all tokB=true then(x.map low,0)else([],10)
 |none=>([],14)
def nCL:List UInt8:=[67,111,110,116,101,110,116,45,76,101,110,103,116,104]
def nTE:List UInt8:=[84,114,97,110,115,102,101,114,45,69,110,99,111,100,105,110,103]
def qbm:List UInt8:=[99,104,117,110,107,101,100]
def decA(x:List UInt8):Int:=if(qah 10 1099511627776 x).2=0 then(qah 10 1099511627776 x).1 else-1
def qat(l:List Fld):Int×Bool×Int:=if allB l nCL=[]then(0,false,0)else match qaM (allB l nCL)with
 |some (x::r)=>if decA x<0\/(r.all fun y=>decide (decA y=decA x))=false then(0,false,66)else(decA x,true,0)
 |_=>(0,false,66)
def qau(l:List Fld):List (List UInt8)×Bool×Int:=if allB l nTE=[]then([],false,0)else if(qbw l nTE).2=0 then((qbw l nTE).1,true,0)else([],false,67)
def qaJ(l:List Fld)(old:Bool):Int×Int×Int:=
 if(qau l).2.2≠0\/((qau l).2.1=true/\(old=true\/(qau l).1≠[qbm]))then(0,0,67)
 else if(qat l).2.2≠0 then(0,0,(qat l).2.2)
 else if(qau l).2.1=true/\(qat l).2.1=true then(0,0,68)
 else if(qau l).2.1=true then(2,0,0)
 else if(qat l).2.1=true then(1,(qat l).1,0)
 else(0,0,0)
inductive HD where
 |ok (fs:List Fld) (e:Nat)
 |bad (n:Int) (e:Int)
 |part
structure Resp where
 status:Int
 reason:List UInt8
 fields:List Fld
 body:List UInt8
structure Mann where
 method:List UInt8
 close:Bool
 old:Bool
 chunked:Bool
 sizes:List Int
 trailers:List Fld
@[irreducible] def qbk (l:List Fld):List UInt8×Int:=if 100<l.length then([],65)else match l.find? fun f=>decide ((qaY f).2≠0)with
 |some f=>([],(qaY f).2)
 |none=>(qaB l,0)
end Go.Proofs.YtnnhdehmlkkfjaaGreatDoor
namespace Go.Proofs.YtnnhdehmlkkfjaaGreatDoor
open Go Go.RowKit
theorem qaU(b:UInt8)(n:Nat)(hn:n<256)(z:Int)(hz:z=n)(h:b≠UInt8.ofNat n):((b.toNat:Int)==z)=false/\((b.toNat:Int) !=z)=true:=by
 subst hz;have:=qgc b n hn h;exact⟨this,by unfold bne;rw[this];rfl⟩
def qcb(c:UInt8):Bool:=(97<=c.toNat&&c.toNat<=122)||(65<=c.toNat&&c.toNat<=90)||(48<=c.toNat&&c.toNat<=57)
def qct(c:UInt8):Bool:=qcb c||[45,46,95,126].contains c
def qc7(c:UInt8):Bool:=[33,36,38,39,40,41,42,43,44,59,61].contains c
def qcr(c:UInt8):Bool:=c==58||c==64
def qcH(c:UInt8):Int:=if qct c then 1 else if qc7 c then 2 else if qcr c then 4 else if c=47 then 8 else if c=63 then 16 else 0
def hexT(c:UInt8):Int:=if 48<=c.toNat/\c.toNat<=57 then c.toNat-48 else if 97<=c.toNat/\c.toNat<=102 then c.toNat-97+10 else if 65<=c.toNat/\c.toNat<=70 then c.toNat-65+10 else-1
def qew:List UInt8->Bool
 |c::a::b::_=>c==37&&decide (0<=hexT a)&&decide (0<=hexT b)
 |_=>false
def qbg(may:UInt8->Bool)(s:List UInt8):Nat:=match s with
 |[]=>0
 |c::r=>if qew (c::r)then 3+qbg may (r.drop 2)else if may c then 1+qbg may r else 0
termination_by s.length
def qkY(c:UInt8):Bool:=qct c||qc7 c
def qkL(c:UInt8):Bool:=qct c||qc7 c||qcr c||c==47
def qgY(c:UInt8):Bool:=qct c||qc7 c||qcr c||c==47||c==63
def qeO(c:UInt8)(other:Int):Int:=if c=37 then 51 else other
def cut1 (c : UInt8) (s : List UInt8) : List UInt8 × List UInt8 × Bool := (s.takeWhile (· != c), (s.dropWhile (· != c)).drop 1, s.contains c)
def cut2(c:UInt8):List UInt8->List UInt8×List UInt8×Bool
 |a::b::r=>if a=c/\b=c then([],r,true)else((a::(cut2 c (b::r)).1),(cut2 c (b::r)).2)
 |s=>(s,[],false)
def qbf(c:UInt8):List UInt8->List (List UInt8)
 |[]=>[[]]
 |x::r=>if x=c then []::qbf c r else match qbf c r with
  |h::t=>(x::h)::t
  |[]=>[[x]]
def qgk(d:List UInt8):Bool:=(qah 10 255 d).2==0&&Go.Lib.itoa (qah 10 255 d).1==d
def dotB(g:List UInt8):Bool:=(qbf 46 g).all qgk&&(qbf 46 g).length==4
def goG(last:Bool):List (List UInt8)->Int->Int×Bool
 |[],n=>(n,true)
 |g::r,n=>if last&&r.isEmpty&&g.contains 46 then(n+2,dotB g)
  else if g.length<1\/4<g.length then(0,false)
  else if g.all (fun c=>decide (0<=hexT c))then goG last r (n+1)else(0,false)
def qbC(s:List UInt8)(last:Bool):Int×Bool:=if s=[]then(0,true)else goG last (qbf 58 s) 0
def qrp(s:List UInt8):Bool:=match cut2 58 s with
 |(_,_,false)=>(qbC s true).2&&(qbC s true).1==8
 |(a,b,true)=>(qbC a false).2&&(qbC b true).2&&decide ((qbC a false).1+(qbC b true).1<=7)
def qif(s:List UInt8):Bool:=if s.head? =some 91 then s.getLast? ==some 93&&qrp ((s.drop 1).dropLast)else !s.isEmpty&&qbg qkY s==s.length
def qca (s : List UInt8) : List UInt8 × List UInt8 × Bool :=
  if s.head? = some 91 ∧ s.contains 93 then
    let i := (s.takeWhile (· != 93)).length
    (s.take (i + 1), (s.drop (i + 1)).drop 1, (s.drop (i + 1)).isEmpty || (s.drop (i + 1)).head? == some 58)
  else ((cut1 58 s).1, (cut1 58 s).2.1, true)
def qbE(s:List UInt8):List UInt8×Int×Int:=
 if(qca s).2.2=false\/qif (qca s).1=false\/5<(qca s).2.1.length then([],0,52)
 else if(qca s).2.1=[]then(low (qca s).1,-1,0)
 else if(qah 10 65535 (qca s).2.1).2≠0 then([],0,52)else(low (qca s).1,(qah 10 65535 (qca s).2.1).1,0)
def behE(s:List UInt8):Int:=match s.drop (qbg qkL s)with
 |[]=>0
 |c::q=>if c≠63 then qeO c 53 else match q.drop (qbg qgY q)with
  |[]=>0
  |d::_=>qeO d 54
def tgtE(m s:List UInt8):Int:=match s with
 |[]=>50
 |c::_=>if m=[67,79,78,78,69,67,84]then(if(qbE s).2.2≠0\/(qbE s).2.1<0 then 52 else 0)
  else if c=47 then behE s
  else if s=[42]/\m=[79,80,84,73,79,78,83]then 0
  else if s.length<7\/low (s.take 7)≠[104,116,116,112,58,47,47]then 50
  else if(qbE ((s.drop 7).takeWhile fun c=>c !=47&&c !=63)).2.2≠0 then(qbE ((s.drop 7).takeWhile fun c=>c !=47&&c !=63)).2.2
  else behE ((s.drop 7).dropWhile fun c=>c !=47&&c !=63)
def qhe(l:List Fld)(old:Bool):List UInt8×Bool×Int:=match allB l [72,111,115,116]with
 |[]=>if old then([],false,0)else([],false,69)
 |[v]=>if v.any (fun b=>decide (b.toNat<33)||decide (126<b.toNat)||[34,35,47,60,62,63,64,92].contains b)then([],false,69)else(v,true,0)
 |_=>([],false,69)
inductive Md where
 |start|startEnd|method|target|line|fields|counted|chunked
deriving DecidableEq
structure Prs where
 lt:Int
 lh:Int
 lf:Int
 lb:Int
 nx:Option Md
 state:Int
 used:Int
 meth:List UInt8
 targ:List UInt8
 major:Int
 minor:Int
 fields:List Fld
 rbody:List UInt8
 trailers:List Fld
 fst_:Int
 ferr:Int
 fat:Int
 text:List UInt8
 head:Int
 begin_:Int
 left:Int
 body:List UInt8
 dec:Option Dec
 bodied:Bool
inductive SR where
 |go (p:Prs) (nx:Option Md)
 |bad (p:Prs) (st err at_:Int)
def qaz(p:Prs)(st err:Int):SR:= .bad p st err p.used
def qb3(p:Prs)(c:UInt8):SR:=if c≠10 then qaz p 400 111 else .go p (some .start)
def qcS(p:Prs)(c:UInt8):SR:=
 if tokB [c]then(if p.text.length=24 then qaz p 501 110 else .go {p with text:=p.text++[c]} (some .method))
 else if c=32/\p.text≠[]then .go {p with meth:=p.text,text:=[]} (some .target)else qaz p 400 110
def qfv(p:Prs)(c:UInt8):SR:=if c=13 then .go p (some .startEnd)else qcS {p with state:=1} c
def qdD(p:Prs)(c:UInt8):SR:=
 if 33<=c.toNat/\c.toNat<=126 then(if(p.text.length:Int)=p.lt then qaz p 414 112 else .go {p with text:=p.text++[c]} (some .target))
 else if c=32/\p.text≠[]then .go {p with targ:=p.text,text:=[]} (some .line)else qaz p 400 111
def qa5(n:Nat)(c:UInt8):Bool:=
 if n<5 then([72,84,84,80,47]:List UInt8)[n]? ==some c else if n=5\/n=7 then decide (48<=c.toNat/\c.toNat<=57)else if n=6 then c==46 else if n=8 then c==13 else if n=9 then c==10 else false
def qc9(p:Prs)(c:UInt8):SR:=
 if qa5 p.text.length c=false then qaz p 400 111
 else if p.text.length<9 then .go {p with text:=p.text++[c]} (some .line)
 else
  let p1:Prs:={p with text:=[],major:=(p.text.getD 5 0).toNat-48,minor:=(p.text.getD 7 0).toNat-48}
  if p1.major≠1\/1<p1.minor then qaz p1 505 117
  else if tgtE p.meth p.targ≠0 then qaz p1 400 (tgtE p.meth p.targ)
  else .go {p1 with state:=2,begin_:=p.used+1} (some .fields)
def qek(p:Prs):SR:= .go {p with rbody:=p.body,state:=4} none
def qb7(p:Prs):SR:=
 let old:=decide (p.minor=0)
 let f:=qaJ p.fields old
 if f.2.2=67 then qaz p 501 67
 else if f.2.2≠0 then qaz p 400 f.2.2
 else if(qhe p.fields old).2.2≠0 then qaz p 400 (qhe p.fields old).2.2
 else if(qhe p.fields old).1≠[]/\(qbE (qhe p.fields old).1).2.2≠0 then qaz p 400 (qbE (qhe p.fields old).1).2.2
 else if allB p.fields [69,120,112,101,99,116]≠[]/\((qbw p.fields [69,120,112,101,99,116]).2≠0\/(qbw p.fields [69,120,112,101,99,116]).1≠[[49,48,48,45,99,111,110,116,105,110,117,101]])then qaz p 417 116
 else if p.lb<f.2.1 then qaz p 413 114
 else if f.1=2 then .go {p with state:=3,dec:=some (newD p.lb p.lh p.lf)} (some .chunked)
 else if 0<f.2.1 then .go {p with state:=3,left:=f.2.1} (some .counted)
 else qek {p with state:=3}
def qb8(p:Prs)(c:UInt8):SR:=
 if p.head=p.lh then qaz p 431 113
 else if(p.text.getLast? ==some 13)≠(c==10)then qaz {p with head:=p.head+1} 400 111
 else if c≠10 then .go {p with head:=p.head+1,text:=p.text++[c]} (some .fields)
 else
  let p1:Prs:={p with head:=p.head+1,text:=[]}
  let line:=p.text.dropLast
  if line=[]then qb7 p1
  else if(p.fields.length:Int)=p.lf then qaz p1 431 113
  else if(qa4 line).2.2≠0 then .bad p1 400 (qa4 line).2.2 (p.begin_+(qa4 line).2.1)
  else .go {p1 with fields:=p.fields++[(qa4 line).1],begin_:=p.used+1} (some .fields)
def qcZ(p:Prs)(c:UInt8):SR:=
 let p1:Prs:={p with body:=p.body++[c],bodied:=true,left:=p.left-1}
 if 0<p1.left then .go p1 (some .counted)else qek p1
def qbo(p:Prs)(c:UInt8):SR:=match p.dec with
 |none=>qaz {p with bodied:=true} 400 103
 |some d=>
  if d.done=true\/d.err≠0 then qaz {p with bodied:=true} 400 103
  else
   let d1:=(qa6 d [c]).1
   let p1:Prs:={p with bodied:=true,dec:=some d1}
   if d1.err=102 then qaz p1 413 102
   else if d1.err=104 then qaz p1 431 104
   else if d1.err≠0 then qaz p1 400 d1.err
   else if d1.done=false then .go p1 (some .chunked)
   else qek {p1 with body:=d1.body,trailers:=d1.trailers}
def qfu(p:Prs)(m:Md)(c:UInt8):SR:=match m with
 | .start=>qfv p c
 | .startEnd=>qb3 p c
 | .method=>qcS p c
 | .target=>qdD p c
 | .line=>qc9 p c
 | .fields=>qb8 p c
 | .counted=>qcZ p c
 | .chunked=>qbo p c
def SR.prs:SR->Prs
 | .go p nx=>{p with nx:=nx,used:=p.used+1}
 | .bad p st err at_=>{p with nx:=none,state:=5,used:=p.used+1,fst_:=st,ferr:=err,fat:=at_}
def qaI(p:Prs):List UInt8->Prs×Nat
 |[]=>(p,0)
 |c::r=>match p.nx with
  |none=>(p,0)
  |some m=>match qfu p m c with
   | .go p1 nx=>((qaI {p1 with nx:=nx,used:=p1.used+1} r).1,(qaI {p1 with nx:=nx,used:=p1.used+1} r).2+1)
   | .bad p1 st err at_=>((SR.bad p1 st err at_).prs,1)
def Md.fid:Md->FuncId
 | .start=>39
 | .startEnd=>60
 | .method=>61
 | .target=>87
 | .line=>119
 | .fields=>145
 | .counted=>198
 | .chunked=>197
def nxV(b:Nat):Option Md->AV
 |none=> .raw .nilFunc
 |some m=> .fn m.fid [.tup [.ptr (some (b,0))]]
def Prs.av(b j:Nat)(p:Prs):List AV:=[.int .i64 p.lt,.int .i64 p.lh,.int .i64 p.lf,.int .i64 p.lb,nxV b p.nx,.int .i64 p.state,.int .i64 p.used,.str p.meth,.str p.targ,.int .i64 p.major,.int .i64 p.minor,.sl true 2 (flds p.fields),.str p.rbody,.sl false 2 (flds p.trailers),
 .int .i64 p.fst_,.int .i64 p.ferr,.int .i64 p.fat,.sl true 1 (bts p.text),.str [],.int .i64 p.head,.int .i64 p.begin_,.int .i64 p.left,.sl true 1 (bts p.body),.ptr (p.dec.map fun _=>(j,0)),.bool p.bodied]
structure PB (H:Hp) (b j:Nat) (p:Prs):Prop where
 row:H[b]? =some (p.av b j)
 dec:∀d,p.dec=some d->j≠b/\H[j]? =some d.av
structure fitP (n:Nat) (p:Prs):Prop where
 a:p.text.length+fsz p.fields+p.fields.length+p.meth.length+p.targ.length<=n
 b:p.body.length<=n
 c:∀d,p.dec=some d->okD d/\d.total<=n
 lt:1<=p.lt/\p.lt<=65536
 lh:2<=p.lh/\p.lh<=1048576
 lf:0<=p.lf/\p.lf<=100
 lb:0<=p.lb/\p.lb<=1073741824
 head:0<=p.head/\p.head<=n
 left: -(n:Int)<=p.left/\p.left<=1073741824
 used:0<=p.used/\p.used<=n
 beg:0<=p.begin_/\p.begin_<=n
 asc:∀c∈p.targ,c.toNat<128
 tx:p.nx=some .target->∀c∈p.text,c.toNat<128
 ln:p.nx=some .line->∀k c,p.text[k]? =some c->qa5 k c=true
 tr:p.trailers.length<=n
 rb:p.rbody.length<=n
def OthP(K K':Hp)(b j:Nat)(d:Bool):Prop:=K.length<=K'.length/\∀i,i<K.length->i≠b->(d=true->i≠j)->K'[i]? =K[i]?
end Go.Proofs.YtnnhdehmlkkfjaaGreatDoor
namespace Go.Proofs.YtnnhdehmlkkfjaaGreatDoor
open Go Go.Shelf Go.Proofs
def lrenb:Go.Shelf.Ren:=⟨fun|99=>186|100=>210|101=>187|119=>214|120=>223|129=>182|137=>156|138=>248|143=>242|144=>235|145=>188|146=>234|151=>202|152=>192|153=>165|160=>154|161=>200|169=>75|171=>80|195=>249|197=>201|206=>207|207=>225|208=>208|217=>180|218=>250|219=>224|220=>209|221=>241|224=>215|225=>216|226=>193|227=>174|228=>194|231=>172|232=>173|233=>175|234=>176|235=>177|236=>178|243=>112|246=>141|260=>222|266=>204|267=>233|268=>247|271=>203|283=>158|284=>159|285=>160|286=>161|314=>240|317=>181|318=>183|319=>184|320=>185|337=>205|338=>206|n=>n,fun|0=>0|2=>2|3=>3|4=>4|5=>5|9=>9|20=>20|21=>21|31=>78|37=>82|46=>224|51=>139|53=>198|59=>142|70=>118|72=>120|105=>233|116=>213|117=>214|119=>255|124=>217|127=>157|138=>257|139=>258|146=>262|171=>197|173=>201|212=>221|213=>222|232=>246|233=>247|n=>n,fun|1=>2|3=>5|4=>6|17=>1|18=>3|19=>4|n=>n⟩
theorem laysb99:Go.Proofs.Lays.n99 Tryz.prog lrenb:={
 mixed:=by kernel_rfl
 f99:=lfz Tryz.func186
 f206:=lfz Tryz.func207
 t3:=Tryz.underlying3
 a3:=Tryz.isAgg3
 z3:=Tryz.sizeOf3
 v3:=Tryz.zeroValue3
 t4:=Tryz.underlying4
 a4:=Tryz.isAgg4
 z4:=Tryz.sizeOf4
 v4:=Tryz.zeroValue4
 t9:=Tryz.underlying9
 a9:=Tryz.isAgg9
 z9:=Tryz.sizeOf9
 v9:=Tryz.zeroValue9}
theorem laysb100:Go.Proofs.Lays.n100 Tryz.prog lrenb:={
 mixed:=by kernel_rfl
 f100:=lfz Tryz.func210
 f207:=lfz Tryz.func225
 t3:=Tryz.underlying3
 a3:=Tryz.isAgg3
 z3:=Tryz.sizeOf3
 v3:=Tryz.zeroValue3
 t4:=Tryz.underlying4
 a4:=Tryz.isAgg4
 z4:=Tryz.sizeOf4
 v4:=Tryz.zeroValue4
 t9:=Tryz.underlying9
 a9:=Tryz.isAgg9
 z9:=Tryz.sizeOf9
 v9:=Tryz.zeroValue9}
theorem laysb101:Go.Proofs.Lays.n101 Tryz.prog lrenb:={
 mixed:=by kernel_rfl
 f101:=lfz Tryz.func187
 f206:=lfz Tryz.func207
 f208:=lfz Tryz.func208
 t3:=Tryz.underlying3
 a3:=Tryz.isAgg3
 z3:=Tryz.sizeOf3
 v3:=Tryz.zeroValue3
 t4:=Tryz.underlying4
 a4:=Tryz.isAgg4
 z4:=Tryz.sizeOf4
 v4:=Tryz.zeroValue4
 t9:=Tryz.underlying9
 a9:=Tryz.isAgg9
 z9:=Tryz.sizeOf9
 v9:=Tryz.zeroValue9}
theorem laysb144:Go.Proofs.Lays.n144 Tryz.prog lrenb:={
 mixed:=by kernel_rfl
 f143:=lfz Tryz.func242
 f144:=lfz Tryz.func235
 f217:=lfz Tryz.func180
 f219:=lfz Tryz.func224
 f224:=lfz Tryz.func215
 f225:=lfz Tryz.func216
 f266:=lfz Tryz.func204
 f267:=lfz Tryz.func233
 f314:=lfz Tryz.func240
 t3:=Tryz.underlying3
 a3:=Tryz.isAgg3
 z3:=Tryz.sizeOf3
 v3:=Tryz.zeroValue3
 t4:=Tryz.underlying4
 a4:=Tryz.isAgg4
 z4:=Tryz.sizeOf4
 v4:=Tryz.zeroValue4
 t5:=Tryz.underlying5
 a5:=Tryz.isAgg5
 z5:=Tryz.sizeOf5
 v5:=Tryz.zeroValue5
 t9:=Tryz.underlying9
 a9:=Tryz.isAgg9
 z9:=Tryz.sizeOf9
 v9:=Tryz.zeroValue9
 t46:=Tryz.underlying224
 a46:=Tryz.isAgg224
 z46:=Tryz.sizeOf224
 v46:=Tryz.zeroValue224
 t51:=Tryz.underlying139
 a51:=Tryz.isAgg139
 z51:=Tryz.sizeOf139
 v51:=Tryz.zeroValue139
 t146:=Tryz.underlying262
 a146:=Tryz.isAgg262
 z146:=Tryz.sizeOf262
 v146:=Tryz.zeroValue262
 g1:=by kernel_rfl}
theorem laysb145:Go.Proofs.Lays.n145 Tryz.prog lrenb:={
 mixed:=by kernel_rfl
 f145:=lfz Tryz.func188
 f217:=lfz Tryz.func180
 f219:=lfz Tryz.func224
 f220:=lfz Tryz.func209
 f224:=lfz Tryz.func215
 f225:=lfz Tryz.func216
 f266:=lfz Tryz.func204
 f267:=lfz Tryz.func233
 f314:=lfz Tryz.func240
 t3:=Tryz.underlying3
 a3:=Tryz.isAgg3
 z3:=Tryz.sizeOf3
 v3:=Tryz.zeroValue3
 t4:=Tryz.underlying4
 a4:=Tryz.isAgg4
 z4:=Tryz.sizeOf4
 v4:=Tryz.zeroValue4
 t5:=Tryz.underlying5
 a5:=Tryz.isAgg5
 z5:=Tryz.sizeOf5
 v5:=Tryz.zeroValue5
 t9:=Tryz.underlying9
 a9:=Tryz.isAgg9
 z9:=Tryz.sizeOf9
 v9:=Tryz.zeroValue9
 t46:=Tryz.underlying224
 a46:=Tryz.isAgg224
 z46:=Tryz.sizeOf224
 v46:=Tryz.zeroValue224
 t51:=Tryz.underlying139
 a51:=Tryz.isAgg139
 z51:=Tryz.sizeOf139
 v51:=Tryz.zeroValue139
 t59:=Tryz.underlying142
 a59:=Tryz.isAgg142
 z59:=Tryz.sizeOf142
 v59:=Tryz.zeroValue142
 t146:=Tryz.underlying262
 a146:=Tryz.isAgg262
 z146:=Tryz.sizeOf262
 v146:=Tryz.zeroValue262
 g1:=by kernel_rfl}
theorem laysb146:Go.Proofs.Lays.n146 Tryz.prog lrenb:={
 mixed:=by kernel_rfl
 f138:=lfz Tryz.func248
 f143:=lfz Tryz.func242
 f146:=lfz Tryz.func234
 f195:=lfz Tryz.func249
 f197:=lfz Tryz.func201
 f217:=lfz Tryz.func180
 f218:=lfz Tryz.func250
 f219:=lfz Tryz.func224
 f221:=lfz Tryz.func241
 f224:=lfz Tryz.func215
 f225:=lfz Tryz.func216
 f260:=lfz Tryz.func222
 f266:=lfz Tryz.func204
 f267:=lfz Tryz.func233
 f268:=lfz Tryz.func247
 f314:=lfz Tryz.func240
 t0:=Tryz.underlying0
 a0:=Tryz.isAgg0
 z0:=Tryz.sizeOf0
 v0:=Tryz.zeroValue0
 t3:=Tryz.underlying3
 a3:=Tryz.isAgg3
 z3:=Tryz.sizeOf3
 v3:=Tryz.zeroValue3
 t4:=Tryz.underlying4
 a4:=Tryz.isAgg4
 z4:=Tryz.sizeOf4
 v4:=Tryz.zeroValue4
 t5:=Tryz.underlying5
 a5:=Tryz.isAgg5
 z5:=Tryz.sizeOf5
 v5:=Tryz.zeroValue5
 t9:=Tryz.underlying9
 a9:=Tryz.isAgg9
 z9:=Tryz.sizeOf9
 v9:=Tryz.zeroValue9
 t21:=Tryz.underlying21
 a21:=Tryz.isAgg21
 z21:=Tryz.sizeOf21
 v21:=Tryz.zeroValue21
 t31:=Tryz.underlying78
 a31:=Tryz.isAgg78
 z31:=Tryz.sizeOf78
 v31:=Tryz.zeroValue78
 t46:=Tryz.underlying224
 a46:=Tryz.isAgg224
 z46:=Tryz.sizeOf224
 v46:=Tryz.zeroValue224
 t51:=Tryz.underlying139
 a51:=Tryz.isAgg139
 z51:=Tryz.sizeOf139
 v51:=Tryz.zeroValue139
 t105:=Tryz.underlying233
 a105:=Tryz.isAgg233
 z105:=Tryz.sizeOf233
 v105:=Tryz.zeroValue233
 t119:=Tryz.underlying255
 a119:=Tryz.isAgg255
 z119:=Tryz.sizeOf255
 t138:=Tryz.underlying257
 a138:=Tryz.isAgg257
 z138:=Tryz.sizeOf257
 v138:=Tryz.zeroValue257
 t139:=Tryz.underlying258
 a139:=Tryz.isAgg258
 z139:=Tryz.sizeOf258
 v139:=Tryz.zeroValue258
 t146:=Tryz.underlying262
 a146:=Tryz.isAgg262
 z146:=Tryz.sizeOf262
 v146:=Tryz.zeroValue262
 g1:=by kernel_rfl
 g3:=by kernel_rfl
 g4:=by kernel_rfl}
theorem laysb153:Go.Proofs.Lays.n153 Tryz.prog lrenb:={
 mixed:=by kernel_rfl
 f119:=lfz Tryz.func214
 f137:=lfz Tryz.func156
 f152:=lfz Tryz.func192
 f153:=lfz Tryz.func165
 f217:=lfz Tryz.func180
 f224:=lfz Tryz.func215
 f225:=lfz Tryz.func216
 f226:=lfz Tryz.func193
 f227:=lfz Tryz.func174
 f228:=lfz Tryz.func194
 f266:=lfz Tryz.func204
 t0:=Tryz.underlying0
 a0:=Tryz.isAgg0
 z0:=Tryz.sizeOf0
 v0:=Tryz.zeroValue0
 t3:=Tryz.underlying3
 a3:=Tryz.isAgg3
 z3:=Tryz.sizeOf3
 v3:=Tryz.zeroValue3
 t4:=Tryz.underlying4
 a4:=Tryz.isAgg4
 z4:=Tryz.sizeOf4
 v4:=Tryz.zeroValue4
 t5:=Tryz.underlying5
 a5:=Tryz.isAgg5
 z5:=Tryz.sizeOf5
 v5:=Tryz.zeroValue5
 t9:=Tryz.underlying9
 a9:=Tryz.isAgg9
 z9:=Tryz.sizeOf9
 v9:=Tryz.zeroValue9
 t21:=Tryz.underlying21
 a21:=Tryz.isAgg21
 z21:=Tryz.sizeOf21
 v21:=Tryz.zeroValue21
 t46:=Tryz.underlying224
 a46:=Tryz.isAgg224
 z46:=Tryz.sizeOf224
 v46:=Tryz.zeroValue224
 t116:=Tryz.underlying213
 a116:=Tryz.isAgg213
 z116:=Tryz.sizeOf213
 t117:=Tryz.underlying214
 a117:=Tryz.isAgg214
 z117:=Tryz.sizeOf214
 v117:=Tryz.zeroValue214
 t124:=Tryz.underlying217
 a124:=Tryz.isAgg217
 z124:=Tryz.sizeOf217
 v124:=Tryz.zeroValue217}
end Go.Proofs.YtnnhdehmlkkfjaaGreatDoor
namespace Go.Proofs.YtnnhdehmlkkfjaaGreatDoor
open Go Go.RowKit Go.Shelf
theorem hp1(l:List UInt8)(c:UInt8):Lib.hasPrefix l [c]=(l.head? ==some c):=by
 cases l with
 |nil=>rfl
 |cons a r=>
  by_cases h:a=c
  ·subst h;simp[Lib.hasPrefix,List.isPrefixOf]
  ·have h':(c==a)=false:=by simpa using fun e=>h e.symm
   simp[Lib.hasPrefix,List.isPrefixOf,h',h]
theorem hsf1(l:List UInt8)(c:UInt8):Lib.hasSuffix l [c]=(l.getLast? ==some c):=by
 have h:Lib.hasSuffix l [c]=Lib.hasPrefix l.reverse [c]:=by simp[Lib.hasSuffix,Lib.hasPrefix,List.isSuffixOf]
 rw[h,hp1,List.head?_reverse]
theorem tp1(l:List UInt8)(c:UInt8):Lib.trimPrefix l [c]=if l.head? =some c then l.drop 1 else l:=by
 unfold Lib.trimPrefix;rw[hp1];simp
theorem qjh(b c:UInt8)(l:List UInt8):Lib.indexByte (b::l) c=if b=c then 0 else if Lib.indexByte l c= -1 then-1 else Lib.indexByte l c+1:=by
 simp[Lib.indexByte]
theorem qfP(l:List UInt8)(c:UInt8):decide (0<=Lib.indexByte l c)=l.contains c:=by
 induction l with
 |nil=>rfl
 |cons b l ih=>
  rw[qjh,List.contains_cons,<-ih];have:=Lib.indexByte_ge l c;by_cases h:b=c
  ·subst h;simp
  ·have h':(c==b)=false:=by simpa using fun e=>h e.symm
   rw[if_neg h,h',Bool.false_or];by_cases h2:Lib.indexByte l c= -1
   ·rw[if_pos h2,h2]
   ·rw[if_neg h2,Bool.eq_iff_iff];simp;omega
theorem qjg (l : List UInt8) (c : UInt8) : (0 ≤ Lib.indexByte l c → (Lib.indexByte l c).toNat = (l.takeWhile (· != c)).length ∧ l.dropWhile (· != c) ≠ []) ∧ (Lib.indexByte l c < 0 → l.takeWhile (· != c) = l ∧ l.dropWhile (· != c) = []) := by
  induction l with
  | nil => exact ⟨fun h => by simp [Lib.indexByte] at h, fun _ => ⟨rfl, rfl⟩⟩
  | cons b l ih =>
    rw [qjh]
    have := Lib.indexByte_ge l c
    by_cases h : b = c
    · subst h; simp
    · have h' : (b != c) = true := by simpa using h
      rw [if_neg h, List.takeWhile_cons_of_pos (by simpa using h), List.dropWhile_cons_of_pos (by simpa using h)]
      by_cases h2 : Lib.indexByte l c = -1
      · rw [if_pos h2]
        refine ⟨fun h3 => absurd h3 (by decide), fun _ => ?_⟩
        obtain ⟨i1, i2⟩ := ih.2 (by omega)
        exact ⟨by rw [i1], i2⟩
      · rw [if_neg h2]
        obtain ⟨i1, i2⟩ := ih.1 (by omega)
        refine ⟨fun _ => ⟨by simp only [zqL]; omega, i2⟩, fun h3 => by omega⟩
theorem ix1(l:List UInt8)(c:UInt8):Lib.index l [c]=Lib.indexByte l c:=by
 induction l with
 |nil=>rfl
 |cons b l ih=>
  rw[qjh,Lib.index,ih];by_cases h:b=c
  ·subst h;simp[List.isPrefixOf]
  ·have h':(c==b)=false:=by simpa using fun e=>h e.symm
   simp[List.isPrefixOf,h',h]
theorem qev(p:UInt8->Bool):∀l:List UInt8,l.take (l.takeWhile p).length=l.takeWhile p/\l.drop (l.takeWhile p).length=l.dropWhile p
 |[]=>⟨rfl,rfl⟩
 |b::l=>by
  by_cases h:p b=true
  ·rw[List.takeWhile_cons_of_pos h,List.dropWhile_cons_of_pos h];simp[qev p l]
  ·rw[List.takeWhile_cons_of_neg h,List.dropWhile_cons_of_neg h];simp
theorem qkg (l : List UInt8) (c : UInt8) : Lib.cut l [c] = cut1 c l := by
  unfold Lib.cut cut1
  rw [ix1, ← qfP]
  obtain ⟨h1, h2⟩ := qjg l c
  obtain ⟨t1, t2⟩ := qev (· != c) l
  by_cases h : 0 ≤ Lib.indexByte l c
  · rw [if_pos h, (h1 h).1, t1, ← List.drop_drop, t2]
    simp [h]
  · rw [if_neg h, (h2 (by omega)).1, (h2 (by omega)).2]
    simp [h]
theorem ix2(c:UInt8):∀l:List UInt8,Lib.cut l [c,c]=cut2 c l
 |[]=>rfl
 |[a]=>by simp[Lib.cut,cut2,Lib.index,List.isPrefixOf]
 |a::b::r=>by
  have ih:=ix2 c (b::r);unfold Lib.cut at ih⊢;rw[cut2,<-ih,Lib.index];have hg:=Lib.index_ge (b::r) [c,c];by_cases h:a=c/\b=c
  ·obtain⟨rfl,rfl⟩:=h;simp[List.isPrefixOf]
  ·rw[if_neg h]
   have hp:([c,c]:List UInt8).isPrefixOf (a::b::r)=false:=by
    simp only[List.isPrefixOf,Bool.and_true];rw[Bool.eq_false_iff];intro e;simp at e;exact h ⟨e.1.symm,e.2.symm⟩
   rw[hp];simp only[Bool.false_eq_true,if_false,beq_iff_eq];by_cases h2:Lib.index (b::r) [c,c]= -1
   ·rw[if_pos h2,h2];simp
   ·rw[if_neg h2,if_pos (by omega),if_pos (by omega)];have e1:(Lib.index (b::r) [c,c]+1).toNat=(Lib.index (b::r) [c,c]).toNat+1:=by omega
    rw[e1];simp[Nat.add_right_comm]
theorem sc_eq (c : UInt8) : ∀ l : List UInt8, qbf c l = if l.contains c then l.takeWhile (· != c) :: qbf c ((l.dropWhile (· != c)).drop 1) else [l]
  | [] => rfl
  | b :: l => by
    have ih := sc_eq c l
    rw [qbf]
    by_cases h : b = c
    · subst h
      simp
    · have h' : (c == b) = false := by simpa using fun e => h e.symm
      have hb : (b != c) = true := by simpa using h
      rw [if_neg h, List.contains_cons, h', Bool.false_or, List.takeWhile_cons_of_pos (p := (· != c)) hb, List.dropWhile_cons_of_pos (p := (· != c)) hb, ih]
      by_cases h2 : l.contains c = true
      · rw [if_pos h2, if_pos h2]
      · rw [if_neg h2, if_neg h2]
def ME(E:Env):Prop:=E.Fix 2/\∃m:Int,E.w0.cell? ⟨2,0,none⟩=some (.int .i64 m)
theorem ME.cell{E:Env}(h:ME E){w:World}(hw:∀b,E.Fix b->w.heap[b]? =E.w0.heap[b]?):∃m:Int,w.cell? ⟨2,0,none⟩=some (.int .i64 m):=by
 obtain⟨h1,m,h2⟩:=h;exact⟨m,(World.cell?_of_block (a:=⟨2,0,none⟩) (hw _ h1)).trans h2⟩
section
variable (E:Env){H:Hp}(Q:AV->Hp->Prop)
theorem qeZ(l:List UInt8)(c:UInt8)(hQ:Q (.bool (l.head? ==some c)) H):PC Tryz.prog E 186 [.str l,.str [c]] H Q:=by
 refine qao (v:= .bool (l.head? ==some c)) (by kernel_rfl) (fun _=>True) (fun w hw=>trivial) (fun w β Rd cargs hS hsz hargs=>?_) (.bool _) rfl hQ;obtain⟨u,v,rfl,hu,hv⟩:=args2 hsz hargs;obtain⟨s,rfl,rfl,hs⟩:=qaq hu;obtain⟨t,rfl,ht,_⟩:=qaq hv;refine(Any.strings_HasPrefix laysb99 s t w).mono ?_;rintro e w' ⟨rfl,rfl⟩;rw[ht,hp1];exact⟨_,rfl,Frm.refl _ _,.bool _⟩
theorem qig(l:List UInt8)(c:UInt8)(hQ:Q (.bool (l.getLast? ==some c)) H):PC Tryz.prog E 210 [.str l,.str [c]] H Q:=by
 refine qao (v:= .bool (l.getLast? ==some c)) (by kernel_rfl) (fun _=>True) (fun w hw=>trivial) (fun w β Rd cargs hS hsz hargs=>?_) (.bool _) rfl hQ;obtain⟨u,v,rfl,hu,hv⟩:=args2 hsz hargs;obtain⟨s,rfl,rfl,hs⟩:=qaq hu;obtain⟨t,rfl,ht,_⟩:=qaq hv;refine(Any.strings_HasSuffix laysb100 s t w (by unfold maxLen at hs;omega)).mono ?_;rintro e w' ⟨rfl,rfl⟩;rw[ht,hsf1];exact⟨_,rfl,Frm.refl _ _,.bool _⟩
theorem qdX(l:List UInt8)(c:UInt8)(hQ:Q (.str (if l.head? =some c then l.drop 1 else l)) H):PC Tryz.prog E 187 [.str l,.str [c]] H Q:=by
 refine qao (v:= .str (if l.head? =some c then l.drop 1 else l)) (by kernel_rfl) (fun _=>True) (fun w hw=>trivial) (fun w β Rd cargs hS hsz hargs=>?_) (.str _) rfl hQ;obtain⟨u,v,rfl,hu,hv⟩:=args2 hsz hargs;obtain⟨s,rfl,rfl,hs⟩:=qaq hu;obtain⟨t,rfl,ht,_⟩:=qaq hv;refine(Any.strings_TrimPrefix laysb101 s t w).mono ?_;rintro e w' ⟨rfl,rfl⟩;rw[ht,tp1];refine⟨_,rfl,Frm.refl _ _,qc5 _ ?_⟩;rw[<-qad]at hs;split
 ·rw[zqI];omega
 ·exact hs
theorem qnn(hM:ME E)(l sep:List UInt8)(hl:l.length<=1073741824)(hQ:Q (.tup [.str (Lib.cut l sep).1,.str (Lib.cut l sep).2.1,.bool (Lib.cut l sep).2.2]) H):PC Tryz.prog E 188 [.str l,.str sep] H Q:=by
 refine qao (v:= .tup [.str (Lib.cut l sep).1,.str (Lib.cut l sep).2.1,.bool (Lib.cut l sep).2.2]) (by kernel_rfl) (fun w=>∃m:Int,w.cell? ⟨2,0,none⟩=some (.int .i64 m)) (fun w hw=>hM.cell hw) (fun w β Rd cargs hS hsz hargs=>?_) (by simp) rfl hQ;obtain⟨m,hm⟩:=hS;obtain⟨u,v,rfl,hu,hv⟩:=args2 hsz hargs;obtain⟨s,rfl,rfl,hs⟩:=qaq hu;obtain⟨t,rfl,rfl,_⟩:=qaq hv;rw[qad]at hl;refine(Any.strings_Cut laysb145 s t m w (by omega) hm).mono ?_;rintro e w' ⟨rfl,k,rfl⟩
 have hle:(Lib.cut s.data.toList t.data.toList).1.length<=s.size/\(Lib.cut s.data.toList t.data.toList).2.1.length<=s.size:=by
  rw[<-qad];unfold Lib.cut;split
  ·simp;omega
  ·simp
 refine⟨_,rfl,Frm.drewN _ _ _,.tup _ _ rfl (by simp[AV.free]) fun k x u hx hu=>?_⟩
 match k with
 |0=>simp at hx hu;subst hx;subst hu;exact qc5 _ (by omega)
 |1=>simp at hx hu;subst hx;subst hu;exact qc5 _ (by omega)
 |2=>simp at hx hu;subst hx;subst hu;exact .bool _
 |k+3=>simp at hx
theorem qjo(l:List UInt8)(c:UInt8)(hQ:Q (.bool (l.contains c)) H):PC Tryz.prog E 235 [.str l,.str [c]] H Q:=by
 refine qao (v:= .bool (l.contains c)) (by kernel_rfl) (fun _=>True) (fun w hw=>trivial) (fun w β Rd cargs hS hsz hargs=>?_) (.bool _) rfl hQ;obtain⟨u,v,rfl,hu,hv⟩:=args2 hsz hargs;obtain⟨s,rfl,rfl,hs⟩:=qaq hu;obtain⟨⟨⟨tl⟩⟩,rfl,ht,_⟩:=qaq hv;have ht':tl=[c]:=ht;subst ht';refine(Any.strings_Contains_one laysb144 s c w).mono ?_;rintro e w' ⟨rfl,rfl⟩;rw[qfP];exact⟨_,rfl,Frm.refl _ _,.bool _⟩
theorem qjf(l cs:List UInt8)(hl:l.length<=1073741824)(hcl:cs.length<=1024)(ha:∀b∈l,b.toNat<128)(hc:∀b∈cs,b.toNat<128)(hQ:Q (.int .i64 (Lib.indexAny l cs)) H):PC Tryz.prog E 165 [.str l,.str cs] H Q:=by
 refine qao (v:= .int .i64 (Lib.indexAny l cs)) (by kernel_rfl) (fun _=>True) (fun w hw=>trivial) (fun w β Rd cargs hS hsz hargs=>?_) (.int _ _) rfl hQ;obtain⟨u,v,rfl,hu,hv⟩:=args2 hsz hargs;obtain⟨s,rfl,rfl,hs⟩:=qaq hu;obtain⟨t,rfl,rfl,_⟩:=qaq hv;rw[qad]at hl hcl;have h116:(Tryz.prog.info? (lrenb.t 116)).map (fun i=>(i.zero,i.size))=some (some (.agg (Array.replicate 256 (.bool false))),256):=by kernel_rfl
 refine(Any.strings_IndexAny_laid laysb153 h116 s t w (by omega) (by omega) (fun j b hb=>ha b (zqH hb)) (fun j b hb=>hc b (zqH hb))).mono ?_;rintro e w' ⟨rfl,hb⟩;exact⟨_,rfl,qbc hb,.int _ _⟩
end
end Go.Proofs.YtnnhdehmlkkfjaaGreatDoor
namespace Go.Proofs.YtnnhdehmlkkfjaaGreatDoor
open Go Go.RowKit
section
variable (E:Env){H:Hp}(Q:AV->Hp->Prop)
theorem qel(c:UInt8)(hQ:Q (.int .i64 (hexT c)) H):PC Tryz.prog E 227 [.int .u8 (c.toNat:Int)] H Q:=by
 refine qab Tryz.func227 rfl [] [] (by kernel_rfl) (fun hB=>?_);have h0:=c.toNat_lt;unfold hexT at hQ;rcases(by omega:(0<=c.toNat/\c.toNat<=47)\/(48<=c.toNat/\c.toNat<=57)\/(58<=c.toNat/\c.toNat<=64)\/(65<=c.toNat/\c.toNat<=70)\/(71<=c.toNat/\c.toNat<=96)\/(97<=c.toNat/\c.toNat<=102)\/(103<=c.toNat/\c.toNat<=255))with hr|hr|hr|hr|hr|hr|hr
 ·have f0:¬(48:Int)<=c.toNat:=by omega
  have f1:(c.toNat:Int)<=57:=by omega
  have f2:¬(97:Int)<=c.toNat:=by omega
  have f3:(c.toNat:Int)<=102:=by omega
  have f4:¬(65:Int)<=c.toNat:=by omega
  have f5:(c.toNat:Int)<=70:=by omega
  rw[if_neg (by omega),if_neg (by omega),if_neg (by omega)]at hQ;simp[Tryz.ntmps227,Tryz.results227,List.replicate_succ,f0,f1,f2,f3,f4,f5];exact aQz hB (h6:=hQ)
 ·have f0:(48:Int)<=c.toNat:=by omega
  have f1:(c.toNat:Int)<=57:=by omega
  have f2:¬(97:Int)<=c.toNat:=by omega
  have f3:(c.toNat:Int)<=102:=by omega
  have f4:¬(65:Int)<=c.toNat:=by omega
  have f5:(c.toNat:Int)<=70:=by omega
  have w:IntKind.u8.wrap ((c.toNat:Int)-48)=c.toNat-48:=by rw[IntKind.wrap_u8];omega
  have w2:IntKind.i64.wrap ((c.toNat:Int)-48)=c.toNat-48:=wiz;rw[if_pos (by omega)]at hQ;simp[Tryz.ntmps227,Tryz.results227,List.replicate_succ,f0,f1,f2,f3,f4,f5,w,w2];exact aQz hB (h6:=hQ)
 ·have f0:(48:Int)<=c.toNat:=by omega
  have f1:¬(c.toNat:Int)<=57:=by omega
  have f2:¬(97:Int)<=c.toNat:=by omega
  have f3:(c.toNat:Int)<=102:=by omega
  have f4:¬(65:Int)<=c.toNat:=by omega
  have f5:(c.toNat:Int)<=70:=by omega
  rw[if_neg (by omega),if_neg (by omega),if_neg (by omega)]at hQ;simp[Tryz.ntmps227,Tryz.results227,List.replicate_succ,f0,f1,f2,f3,f4,f5];exact aQz hB (h6:=hQ)
 ·have f0:(48:Int)<=c.toNat:=by omega
  have f1:¬(c.toNat:Int)<=57:=by omega
  have f2:¬(97:Int)<=c.toNat:=by omega
  have f3:(c.toNat:Int)<=102:=by omega
  have f4:(65:Int)<=c.toNat:=by omega
  have f5:(c.toNat:Int)<=70:=by omega
  have w:IntKind.u8.wrap ((c.toNat:Int)-65)=c.toNat-65:=by rw[IntKind.wrap_u8];omega
  have w2:IntKind.i64.wrap ((c.toNat:Int)-65)=c.toNat-65:=wiz;have w3:IntKind.i64.wrap ((c.toNat:Int)-65+10)=c.toNat-65+10:=wiz;rw[if_neg (by omega),if_neg (by omega),if_pos (by omega)]at hQ;simp[Tryz.ntmps227,Tryz.results227,List.replicate_succ,f0,f1,f2,f3,f4,f5,w,w2,w3];exact aQz hB (h6:=hQ)
 ·have f0:(48:Int)<=c.toNat:=by omega
  have f1:¬(c.toNat:Int)<=57:=by omega
  have f2:¬(97:Int)<=c.toNat:=by omega
  have f3:(c.toNat:Int)<=102:=by omega
  have f4:(65:Int)<=c.toNat:=by omega
  have f5:¬(c.toNat:Int)<=70:=by omega
  rw[if_neg (by omega),if_neg (by omega),if_neg (by omega)]at hQ;simp[Tryz.ntmps227,Tryz.results227,List.replicate_succ,f0,f1,f2,f3,f4,f5];exact aQz hB (h6:=hQ)
 ·have f0:(48:Int)<=c.toNat:=by omega
  have f1:¬(c.toNat:Int)<=57:=by omega
  have f2:(97:Int)<=c.toNat:=by omega
  have f3:(c.toNat:Int)<=102:=by omega
  have f4:(65:Int)<=c.toNat:=by omega
  have f5:¬(c.toNat:Int)<=70:=by omega
  have w:IntKind.u8.wrap ((c.toNat:Int)-97)=c.toNat-97:=by rw[IntKind.wrap_u8];omega
  have w2:IntKind.i64.wrap ((c.toNat:Int)-97)=c.toNat-97:=wiz;have w3:IntKind.i64.wrap ((c.toNat:Int)-97+10)=c.toNat-97+10:=wiz;rw[if_neg (by omega),if_pos (by omega)]at hQ;simp[Tryz.ntmps227,Tryz.results227,List.replicate_succ,f0,f1,f2,f3,f4,f5,w,w2,w3];exact aQz hB (h6:=hQ)
 ·have f0:(48:Int)<=c.toNat:=by omega
  have f1:¬(c.toNat:Int)<=57:=by omega
  have f2:(97:Int)<=c.toNat:=by omega
  have f3:¬(c.toNat:Int)<=102:=by omega
  have f4:(65:Int)<=c.toNat:=by omega
  have f5:¬(c.toNat:Int)<=70:=by omega
  rw[if_neg (by omega),if_neg (by omega),if_neg (by omega)]at hQ;simp[Tryz.ntmps227,Tryz.results227,List.replicate_succ,f0,f1,f2,f3,f4,f5];exact aQz hB (h6:=hQ)
theorem qpl(c:UInt8)(hQ:Q (.int .i64 (qcH c)) H):PC Tryz.prog E 213 [.int .u8 (c.toNat:Int)] H Q:=by
 refine qab Tryz.func213 rfl [] [] (by kernel_rfl) (fun hB=>?_);have h0:=c.toNat_lt;unfold qcH qct qc7 qcr at hQ;have i1:=qfP [45,46,95,126] c;have i2:=qfP [33,36,38,39,40,41,42,43,44,59,61] c;rcases(by omega:(0<=c.toNat/\c.toNat<=47)\/(48<=c.toNat/\c.toNat<=57)\/(58<=c.toNat/\c.toNat<=64)\/(65<=c.toNat/\c.toNat<=90)\/(91<=c.toNat/\c.toNat<=96)\/(97<=c.toNat/\c.toNat<=122)\/(123<=c.toNat/\c.toNat<=255))with hr|hr|hr|hr|hr|hr|hr
 ·have f0:¬(97:Int)<=c.toNat:=by omega
  have f1:(c.toNat:Int)<=122:=by omega
  have f2:¬(65:Int)<=c.toNat:=by omega
  have f3:(c.toNat:Int)<=90:=by omega
  have f4:¬(48:Int)<=c.toNat:=by omega
  have f5:(c.toNat:Int)<=57:=by omega
  have g:qcb c=false:=by unfold qcb;simp;omega
  rw[g,Bool.false_or]at hQ;simp[Tryz.ntmps213,Tryz.results213,List.replicate_succ,f0,f1,f2,f3,f4,f5];refine qar E _ _ _ c ?_;by_cases g1:([45,46,95,126]:List UInt8).contains c=true
  ·have j1:0<=Lib.indexByte [45,46,95,126] c:=by rw[g1]at i1;simpa using i1
   rw[if_pos g1]at hQ;simp[qai,KP,qae,j1];exact aQz hB (h6:=hQ)
  ·have j1:¬0<=Lib.indexByte [45,46,95,126] c:=fun h=>g1 (by rw[<-i1];simpa using h);rw[if_neg g1]at hQ;simp[qai,KP,qae,j1];refine qar E _ _ _ c ?_;by_cases g2:([33,36,38,39,40,41,42,43,44,59,61]:List UInt8).contains c=true
   ·have j2:0<=Lib.indexByte [33,36,38,39,40,41,42,43,44,59,61] c:=by rw[g2]at i2;simpa using i2
    rw[if_pos g2]at hQ;simp[qai,KP,qae,j2];exact aQz hB (h6:=hQ)
   ·have j2:¬0<=Lib.indexByte [33,36,38,39,40,41,42,43,44,59,61] c:=fun h=>g2 (by rw[<-i2];simpa using h);rw[if_neg g2]at hQ;by_cases e1:c=58
    ·subst e1;simp[qai,KP,qae,j2];exact aQz hB (h6:=hQ)
    ·have k1:=(qaU c 58 (by decide) 58 rfl e1).1;by_cases e2:c=64
     ·subst e2;simp[qai,KP,qae,j2];exact aQz hB (h6:=hQ)
     ·have k2:=(qaU c 64 (by decide) 64 rfl e2).1;rw[if_neg (by simp[e1,e2])]at hQ;by_cases e3:c=47
      ·subst e3;simp[qai,KP,qae,j2];exact aQz hB (h6:=hQ)
      ·have k3:=(qaU c 47 (by decide) 47 rfl e3).1;rw[if_neg e3]at hQ;by_cases e4:c=63
       ·subst e4;simp[qai,KP,qae,j2];exact aQz hB (h6:=hQ)
       ·have k4:=(qaU c 63 (by decide) 63 rfl e4).1;rw[if_neg e4]at hQ;simp[qai,KP,qae,j2,k1,k2,k3,k4];exact aQz hB (h6:=hQ)
 ·have f0:¬(97:Int)<=c.toNat:=by omega
  have f1:(c.toNat:Int)<=122:=by omega
  have f2:¬(65:Int)<=c.toNat:=by omega
  have f3:(c.toNat:Int)<=90:=by omega
  have f4:(48:Int)<=c.toNat:=by omega
  have f5:(c.toNat:Int)<=57:=by omega
  have g:qcb c=true:=by unfold qcb;simp;omega
  rw[g,Bool.true_or,if_pos rfl]at hQ;simp[Tryz.ntmps213,Tryz.results213,List.replicate_succ,f0,f1,f2,f3,f4,f5];exact aQz hB (h6:=hQ)
 ·have f0:¬(97:Int)<=c.toNat:=by omega
  have f1:(c.toNat:Int)<=122:=by omega
  have f2:¬(65:Int)<=c.toNat:=by omega
  have f3:(c.toNat:Int)<=90:=by omega
  have f4:(48:Int)<=c.toNat:=by omega
  have f5:¬(c.toNat:Int)<=57:=by omega
  have g:qcb c=false:=by unfold qcb;simp;omega
  rw[g,Bool.false_or]at hQ;simp[Tryz.ntmps213,Tryz.results213,List.replicate_succ,f0,f1,f2,f3,f4,f5];refine qar E _ _ _ c ?_;by_cases g1:([45,46,95,126]:List UInt8).contains c=true
  ·have j1:0<=Lib.indexByte [45,46,95,126] c:=by rw[g1]at i1;simpa using i1
   rw[if_pos g1]at hQ;simp[qai,KP,qae,j1];exact aQz hB (h6:=hQ)
  ·have j1:¬0<=Lib.indexByte [45,46,95,126] c:=fun h=>g1 (by rw[<-i1];simpa using h);rw[if_neg g1]at hQ;simp[qai,KP,qae,j1];refine qar E _ _ _ c ?_;by_cases g2:([33,36,38,39,40,41,42,43,44,59,61]:List UInt8).contains c=true
   ·have j2:0<=Lib.indexByte [33,36,38,39,40,41,42,43,44,59,61] c:=by rw[g2]at i2;simpa using i2
    rw[if_pos g2]at hQ;simp[qai,KP,qae,j2];exact aQz hB (h6:=hQ)
   ·have j2:¬0<=Lib.indexByte [33,36,38,39,40,41,42,43,44,59,61] c:=fun h=>g2 (by rw[<-i2];simpa using h);rw[if_neg g2]at hQ;by_cases e1:c=58
    ·subst e1;simp[qai,KP,qae,j2];exact aQz hB (h6:=hQ)
    ·have k1:=(qaU c 58 (by decide) 58 rfl e1).1;by_cases e2:c=64
     ·subst e2;simp[qai,KP,qae,j2];exact aQz hB (h6:=hQ)
     ·have k2:=(qaU c 64 (by decide) 64 rfl e2).1;rw[if_neg (by simp[e1,e2])]at hQ;by_cases e3:c=47
      ·subst e3;simp[qai,KP,qae,j2];exact aQz hB (h6:=hQ)
      ·have k3:=(qaU c 47 (by decide) 47 rfl e3).1;rw[if_neg e3]at hQ;by_cases e4:c=63
       ·subst e4;simp[qai,KP,qae,j2];exact aQz hB (h6:=hQ)
       ·have k4:=(qaU c 63 (by decide) 63 rfl e4).1;rw[if_neg e4]at hQ;simp[qai,KP,qae,j2,k1,k2,k3,k4];exact aQz hB (h6:=hQ)
 ·have f0:¬(97:Int)<=c.toNat:=by omega
  have f1:(c.toNat:Int)<=122:=by omega
  have f2:(65:Int)<=c.toNat:=by omega
  have f3:(c.toNat:Int)<=90:=by omega
  have f4:(48:Int)<=c.toNat:=by omega
  have f5:¬(c.toNat:Int)<=57:=by omega
  have g:qcb c=true:=by unfold qcb;simp;omega
  rw[g,Bool.true_or,if_pos rfl]at hQ;simp[Tryz.ntmps213,Tryz.results213,List.replicate_succ,f0,f1,f2,f3,f4,f5];exact aQz hB (h6:=hQ)
 ·have f0:¬(97:Int)<=c.toNat:=by omega
  have f1:(c.toNat:Int)<=122:=by omega
  have f2:(65:Int)<=c.toNat:=by omega
  have f3:¬(c.toNat:Int)<=90:=by omega
  have f4:(48:Int)<=c.toNat:=by omega
  have f5:¬(c.toNat:Int)<=57:=by omega
  have g:qcb c=false:=by unfold qcb;simp;omega
  rw[g,Bool.false_or]at hQ;simp[Tryz.ntmps213,Tryz.results213,List.replicate_succ,f0,f1,f2,f3,f4,f5];refine qar E _ _ _ c ?_;by_cases g1:([45,46,95,126]:List UInt8).contains c=true
  ·have j1:0<=Lib.indexByte [45,46,95,126] c:=by rw[g1]at i1;simpa using i1
   rw[if_pos g1]at hQ;simp[qai,KP,qae,j1];exact aQz hB (h6:=hQ)
  ·have j1:¬0<=Lib.indexByte [45,46,95,126] c:=fun h=>g1 (by rw[<-i1];simpa using h);rw[if_neg g1]at hQ;simp[qai,KP,qae,j1];refine qar E _ _ _ c ?_;by_cases g2:([33,36,38,39,40,41,42,43,44,59,61]:List UInt8).contains c=true
   ·have j2:0<=Lib.indexByte [33,36,38,39,40,41,42,43,44,59,61] c:=by rw[g2]at i2;simpa using i2
    rw[if_pos g2]at hQ;simp[qai,KP,qae,j2];exact aQz hB (h6:=hQ)
   ·have j2:¬0<=Lib.indexByte [33,36,38,39,40,41,42,43,44,59,61] c:=fun h=>g2 (by rw[<-i2];simpa using h);rw[if_neg g2]at hQ;by_cases e1:c=58
    ·subst e1;simp[qai,KP,qae,j2];exact aQz hB (h6:=hQ)
    ·have k1:=(qaU c 58 (by decide) 58 rfl e1).1;by_cases e2:c=64
     ·subst e2;simp[qai,KP,qae,j2];exact aQz hB (h6:=hQ)
     ·have k2:=(qaU c 64 (by decide) 64 rfl e2).1;rw[if_neg (by simp[e1,e2])]at hQ;by_cases e3:c=47
      ·subst e3;simp[qai,KP,qae,j2];exact aQz hB (h6:=hQ)
      ·have k3:=(qaU c 47 (by decide) 47 rfl e3).1;rw[if_neg e3]at hQ;by_cases e4:c=63
       ·subst e4;simp[qai,KP,qae,j2];exact aQz hB (h6:=hQ)
       ·have k4:=(qaU c 63 (by decide) 63 rfl e4).1;rw[if_neg e4]at hQ;simp[qai,KP,qae,j2,k1,k2,k3,k4];exact aQz hB (h6:=hQ)
 ·have f0:(97:Int)<=c.toNat:=by omega
  have f1:(c.toNat:Int)<=122:=by omega
  have f2:(65:Int)<=c.toNat:=by omega
  have f3:¬(c.toNat:Int)<=90:=by omega
  have f4:(48:Int)<=c.toNat:=by omega
  have f5:¬(c.toNat:Int)<=57:=by omega
  have g:qcb c=true:=by unfold qcb;simp;omega
  rw[g,Bool.true_or,if_pos rfl]at hQ;simp[Tryz.ntmps213,Tryz.results213,List.replicate_succ,f0,f1,f2,f3,f4,f5];exact aQz hB (h6:=hQ)
 ·have f0:(97:Int)<=c.toNat:=by omega
  have f1:¬(c.toNat:Int)<=122:=by omega
  have f2:(65:Int)<=c.toNat:=by omega
  have f3:¬(c.toNat:Int)<=90:=by omega
  have f4:(48:Int)<=c.toNat:=by omega
  have f5:¬(c.toNat:Int)<=57:=by omega
  have g:qcb c=false:=by unfold qcb;simp;omega
  rw[g,Bool.false_or]at hQ;simp[Tryz.ntmps213,Tryz.results213,List.replicate_succ,f0,f1,f2,f3,f4,f5];refine qar E _ _ _ c ?_;by_cases g1:([45,46,95,126]:List UInt8).contains c=true
  ·have j1:0<=Lib.indexByte [45,46,95,126] c:=by rw[g1]at i1;simpa using i1
   rw[if_pos g1]at hQ;simp[qai,KP,qae,j1];exact aQz hB (h6:=hQ)
  ·have j1:¬0<=Lib.indexByte [45,46,95,126] c:=fun h=>g1 (by rw[<-i1];simpa using h);rw[if_neg g1]at hQ;simp[qai,KP,qae,j1];refine qar E _ _ _ c ?_;by_cases g2:([33,36,38,39,40,41,42,43,44,59,61]:List UInt8).contains c=true
   ·have j2:0<=Lib.indexByte [33,36,38,39,40,41,42,43,44,59,61] c:=by rw[g2]at i2;simpa using i2
    rw[if_pos g2]at hQ;simp[qai,KP,qae,j2];exact aQz hB (h6:=hQ)
   ·have j2:¬0<=Lib.indexByte [33,36,38,39,40,41,42,43,44,59,61] c:=fun h=>g2 (by rw[<-i2];simpa using h);rw[if_neg g2]at hQ;by_cases e1:c=58
    ·subst e1;simp[qai,KP,qae,j2];exact aQz hB (h6:=hQ)
    ·have k1:=(qaU c 58 (by decide) 58 rfl e1).1;by_cases e2:c=64
     ·subst e2;simp[qai,KP,qae,j2];exact aQz hB (h6:=hQ)
     ·have k2:=(qaU c 64 (by decide) 64 rfl e2).1;rw[if_neg (by simp[e1,e2])]at hQ;by_cases e3:c=47
      ·subst e3;simp[qai,KP,qae,j2];exact aQz hB (h6:=hQ)
      ·have k3:=(qaU c 47 (by decide) 47 rfl e3).1;rw[if_neg e3]at hQ;by_cases e4:c=63
       ·subst e4;simp[qai,KP,qae,j2];exact aQz hB (h6:=hQ)
       ·have k4:=(qaU c 63 (by decide) 63 rfl e4).1;rw[if_neg e4]at hQ;simp[qai,KP,qae,j2,k1,k2,k3,k4];exact aQz hB (h6:=hQ)
theorem qlL(s:List UInt8)(i:Nat)(hi:i<s.length)(hl:s.length<=1073741824)(hQ:∀v,Q (.tup [.int .u8 v,.bool (qew (s.drop i))]) H):PC Tryz.prog E 212 [.str s,.int .i64 (i:Int)] H Q:=by
 refine qab Tryz.func212 rfl [] [] (by kernel_rfl) (fun hB=>?_);have w2:IntKind.i64.wrap ((i:Int)+2)=i+2:=wiz;have w1:IntKind.i64.wrap ((i:Int)+1)=i+1:=wiz;by_cases h:i+2<s.length
 ·obtain⟨a,ha⟩:∃a,s[i]? =some a:=⟨_,zqD hi⟩
  obtain⟨b,hb⟩:∃b,s[i+1]? =some b:=⟨_,zqD (by omega)⟩
  obtain⟨c,hc⟩:∃c,s[i+2]? =some c:=⟨_,zqD h⟩
  have la:=qaP ha;have lb:=qaP hb;have lc:=qaP hc;have n1:¬(s.length:Int)<=i+2:=by omega
  have q1:((i:Int)+1).toNat=i+1:=by omega
  have q2:((i:Int)+2).toNat=i+2:=by omega
  have q3:(0:Int)<=i+1:=by omega
  have q4:(0:Int)<=i+2:=by omega
  have hd:s.drop i=a::b::c::s.drop (i+3):=by rw[qay s i a ha,qay s (i+1) b hb,qay s (i+2) c hc]
  rw[hd]at hQ;by_cases h37:a=37
  ·subst h37;simp[Tryz.ntmps212,Tryz.results212,List.replicate_succ,w2,w1,n1,la,lb,lc,q1,q2,q3,q4];refine qel E _ b ?_;simp[qai,KP,qae,w2,w1,lb,lc,q1,q2,q3,q4];refine qel E _ c ?_;by_cases x1:0<=hexT b
   ·have e:qew (37::b::c::s.drop (i+3))=decide (0<=hexT c):=by simp[qew,x1]
    rw[e]at hQ;simp[qai,KP,qae,x1];exact aQz hB (h6:=(hQ _))
   ·have e:qew (37::b::c::s.drop (i+3))=false:=by simp[qew,x1]
    rw[e]at hQ;simp[qai,KP,qae,x1];exact aQz hB (h6:=(hQ _))
  ·have hb2:=(qaU a 37 (by decide) 37 rfl h37).2;simp[Tryz.ntmps212,Tryz.results212,List.replicate_succ,w2,w1,n1,la,lb,lc,q1,q2,q3,q4,hb2];have e:qew (a::b::c::s.drop (i+3))=false:=by simp[qew,h37]
   rw[e]at hQ;exact aQz hB (h6:=(hQ 0))
 ·have n1:(s.length:Int)<=i+2:=by omega
  have e:qew (s.drop i)=false:=by
   have:(s.drop i).length<=2:=by rw[zqI];omega
   match s.drop i,this with
   |[],_=>rfl
   |[_],_=>rfl
   |[_,_],_=>rfl
  rw[e]at hQ;simp[Tryz.ntmps212,Tryz.results212,List.replicate_succ,w2,n1];exact aQz hB (h6:=(hQ 0))
theorem qfz(may:UInt8->Bool)(c:UInt8)(r:List UInt8):qbg may (c::r)=if qew (c::r)then 3+qbg may (r.drop 2)else if may c then 1+qbg may r else 0:=by
 rw[qbg]
theorem qhF{l:List UInt8}(h:qew l=true):3<=l.length:=by
 match l,h with
 |_::_::_::_,_=>simp
def sgI(H:Hp)(s:List UInt8)(mask:Int)(may:UInt8->Bool)(fr:List AV)(K:Hp):Prop:=K=H/\∃i:Nat,i<=s.length/\qbg may s=i+qbg may (s.drop i)/\
 ∃x:Nat->AV,fr=[.str s,.int .i64 mask,x 2,x 3,x 4,.int .i64 (i:Int),x 6,x 7,x 8,x 9,x 10,x 11,x 12,x 13,x 14,x 15,x 16,x 17,x 18,x 19,x 20,x 21,x 22,x 23,x 24,x 25,x 26,x 27,x 28,x 29,x 30]
theorem qe6(s:List UInt8)(mask:Int)(may:UInt8->Bool)(hm:∀c:UInt8,(IntKind.i64.wrap (((qcH c%2^IntKind.i64.bits).toNat&&&(mask%2^IntKind.i64.bits).toNat:Nat):Int)==0)=!may c)(hl:s.length<=1073741824)(hQ:Q (.int .i64 (qbg may s)) H):PC Tryz.prog E 190 [.str s,.int .i64 mask] H Q:=by
 refine qab Tryz.func190 rfl [] [] (by kernel_rfl) (fun hB=>?_);simp[Tryz.ntmps190,Tryz.results190,List.replicate_succ];refine qaG (sgI H s mask may) (fun fr _=>s.length-(ai (aget fr 5)).toNat) ⟨rfl,0,by omega,by simp,friz⟩ ?_;rintro fr K ⟨rfl,i,hi,hS,x,rfl⟩;by_cases h:i<s.length
 ·obtain⟨c,hc⟩:∃c,s[i]? =some c:=⟨_,zqD h⟩
  have la:=qaP hc;have hd:=qay s i c hc;have w3:IntKind.i64.wrap ((i:Int)+3)=i+3:=wiz;have w1:IntKind.i64.wrap ((i:Int)+1)=i+1:=wiz;simp[h];refine qlL E _ s i h hl (fun v=>?_);rw[hd,qfz]at hS;rw[hd];by_cases ht:qew (c::s.drop (i+1))=true
  ·have h3:=qhF ht;rw[<-hd,zqI]at h3;simp[qai,KP,ht,w3];rw[if_pos ht,List.drop_drop]at hS;exact Klz ⟨rfl,i+3,by omega,by rw[hS,show i+1+2=i+3 by omega];omega,friz⟩
  ·have ht':qew (c::s.drop (i+1))=false:=by simpa using ht
   simp[qai,KP,ht',la];refine qpl E _ c ?_;rw[if_neg ht]at hS;have hmc:=hm c;cases hmay:may c with
   |true=>
    rw[hmay]at hmc hS;simp[qai,KP,qae,w1,hmc];exact Klz ⟨rfl,i+1,by omega,by rw[hS,if_pos rfl];omega,friz⟩
   |false=>
    rw[hmay]at hmc hS;rw[if_neg (by simp)]at hS;simp[qai,KP,qae,w1,hmc];rw[hS]at hQ;exact aQz hB (h6:=(by simpa using hQ))
 ·simp[h];have e:i=s.length:=by omega
  have hS2:qbg may s=i:=by rw[hS,e,List.drop_length];simp[qbg]
  rw[hS2]at hQ;exact aQz hB (h6:=hQ)
end
end Go.Proofs.YtnnhdehmlkkfjaaGreatDoor
namespace Go.Proofs.YtnnhdehmlkkfjaaGreatDoor
open Go Go.RowKit Go.Shelf
theorem qdM(c:UInt8):(qct c=true/\qcH c=1)\/(qct c=false/\qc7 c=true/\qcH c=2)\/(qct c=false/\qc7 c=false/\qcr c=true/\qcH c=4)\/(qct c=false/\qc7 c=false/\qcr c=false/\c=47/\qcH c=8)\/(qct c=false/\qc7 c=false/\qcr c=false/\c=63/\qcH c=16)\/(qct c=false/\qc7 c=false/\qcr c=false/\c≠47/\c≠63/\qcH c=0):=by
 unfold qcH;by_cases h1:qct c=true
 ·exact .inl ⟨h1,by rw[if_pos h1]⟩
 ·have h1':qct c=false:=by simpa using h1
  rw[if_neg h1];by_cases h2:qc7 c=true
  ·exact .inr (.inl ⟨h1',h2,by rw[if_pos h2]⟩)
  ·have h2':qc7 c=false:=by simpa using h2
   rw[if_neg h2];by_cases h3:qcr c=true
   ·exact .inr (.inr (.inl ⟨h1',h2',h3,by rw[if_pos h3]⟩))
   ·have h3':qcr c=false:=by simpa using h3
    rw[if_neg h3];by_cases h4:c=47
    ·exact .inr (.inr (.inr (.inl ⟨h1',h2',h3',h4,by rw[if_pos h4]⟩)))
    ·rw[if_neg h4];by_cases h5:c=63
     ·exact .inr (.inr (.inr (.inr (.inl ⟨h1',h2',h3',h5,by rw[if_pos h5]⟩))))
     ·exact .inr (.inr (.inr (.inr (.inr ⟨h1',h2',h3',h4,h5,by rw[if_neg h5]⟩))))
theorem qmk(c:UInt8):(IntKind.i64.wrap (((qcH c%2^IntKind.i64.bits).toNat&&&((3:Int)%2^IntKind.i64.bits).toNat:Nat):Int)==0)=!qkY c:=by
 unfold qkY;rcases qdM c with⟨h1,h⟩|⟨h1,h2,h⟩|⟨h1,h2,h3,h⟩|⟨h1,h2,h3,h4,h⟩|⟨h1,h2,h3,h4,h⟩|⟨h1,h2,h3,h4,h5,h⟩
 ·rw[h,h1];simp;decide
 ·rw[h,h1,h2];decide
 ·rw[h,h1,h2];decide
 ·rw[h,h1,h2];decide
 ·rw[h,h1,h2];decide
 ·rw[h,h1,h2];decide
theorem qmj(c:UInt8):(IntKind.i64.wrap (((qcH c%2^IntKind.i64.bits).toNat&&&((15:Int)%2^IntKind.i64.bits).toNat:Nat):Int)==0)=!qkL c:=by
 unfold qkL;rcases qdM c with⟨h1,h⟩|⟨h1,h2,h⟩|⟨h1,h2,h3,h⟩|⟨h1,h2,h3,h4,h⟩|⟨h1,h2,h3,h4,h⟩|⟨h1,h2,h3,h4,h5,h⟩
 ·rw[h,h1];simp;decide
 ·rw[h,h1,h2];simp;decide
 ·rw[h,h1,h2,h3];simp;decide
 ·rw[h,h1,h2,h3,h4];decide
 ·rw[h,h1,h2,h3,h4];decide
 ·have e:(c==47)=false:=by simpa using h4
  rw[h,h1,h2,h3,e];decide
theorem qh5(c:UInt8):(IntKind.i64.wrap (((qcH c%2^IntKind.i64.bits).toNat&&&((31:Int)%2^IntKind.i64.bits).toNat:Nat):Int)==0)=!qgY c:=by
 unfold qgY;rcases qdM c with⟨h1,h⟩|⟨h1,h2,h⟩|⟨h1,h2,h3,h⟩|⟨h1,h2,h3,h4,h⟩|⟨h1,h2,h3,h4,h⟩|⟨h1,h2,h3,h4,h5,h⟩
 ·rw[h,h1];simp;decide
 ·rw[h,h1,h2];simp;decide
 ·rw[h,h1,h2,h3];simp;decide
 ·rw[h,h1,h2,h3,h4];decide
 ·rw[h,h1,h2,h3,h4];decide
 ·have e:(c==47)=false:=by simpa using h4
  have e2:(c==63)=false:=by simpa using h5
  rw[h,h1,h2,h3,e,e2];decide
theorem qhL (c : UInt8) : ∀ (k : Nat) (l : List UInt8), l.length ≤ k → Lib.splitK [c] 0 (Lib.count l [c]) l = qbf c l
  | 0, l, h => by
    have : l = [] := List.length_eq_zero_iff.1 (by omega)
    subst this
    rfl
  | k + 1, l, h => by
    rw [sc_eq]
    have hg := Lib.indexByte_ge l c
    have hb := qfP l c
    obtain ⟨t1, t2⟩ := qev (· != c) l
    by_cases hc : l.contains c = true
    · rw [hc] at hb
      have h0 : 0 ≤ Lib.indexByte l c := by simpa using hb
      obtain ⟨e1, e2⟩ := (qjg l c).1 h0
      have hi : Lib.index l [c] = ((l.takeWhile (· != c)).length : Nat) := by rw [ix1]; omega
      rw [if_pos hc, Lib.count_hit (by simp) hi, Nat.add_comm, Lib.splitK, hi]
      rw [if_neg (by simp)]
      simp only [Int.toNat_natCast, Nat.add_zero, zqL, List.length_nil, Nat.zero_add]
      rw [t1, ← List.drop_drop, t2]
      have hlen : ((l.dropWhile (· != c)).drop 1).length ≤ k := by
        have h3 : (l.dropWhile (· != c)).length ≤ l.length := by rw [← t2, zqI]; omega
        have h4 : 0 < (l.dropWhile (· != c)).length := List.length_pos_iff.2 e2
        rw [zqI]
        omega
      rw [qhL c k _ hlen]
    · have hc' : l.contains c = false := by simpa using hc
      rw [hc'] at hb
      have h0 : ¬ 0 ≤ Lib.indexByte l c := by simpa using hb
      have hi : Lib.index l [c] = -1 := by rw [ix1]; omega
      rw [if_neg hc, Lib.count_miss hi]
      rfl
section
variable (E:Env){H:Hp}(Q:AV->Hp->Prop)
theorem qfx(sep:ByteArray)(m:Nat):∀(k:Nat) (s:ByteArray),s.size<=m->∀x∈Lib.splitB sep 0 k s,x.size<=m
 |0,s,h,x,hx=>by simp[Lib.splitB]at hx;subst hx;exact h
 |k+1,s,h,x,hx=>by
  unfold Lib.splitB at hx;split at hx
  ·simp at hx;subst hx;exact h
  ·simp only[List.mem_cons]at hx;rcases hx with rfl|hx
   ·simp only[ByteArray.size_extract];omega
   ·exact qfx sep m k _ (by simp only[ByteArray.size_extract];omega) x hx
theorem qjK(hM:ME E)(l:List UInt8)(c:UInt8)(hl:l.length<=1073741824)(hQ:Q (.sl false 1 (strs (qbf c l))) H):PC Tryz.prog E 234 [.str l,.str [c]] H Q:=by
 refine⟨by kernel_rfl,fun w β Rd Ow cargs hHR hOw hsz hargs=>?_⟩;obtain⟨m,hm⟩:=hM.cell (w:=w) fun b hb=>(hHR.fix b hb).1;obtain⟨u,v,rfl,hu,hv⟩:=args2 hsz (fun t x u hx hu=>(hargs t x u hx hu).1);obtain⟨s,rfl,rfl,hs⟩:=qaq hu;obtain⟨⟨⟨tl⟩⟩,rfl,ht,_⟩:=qaq hv;have ht':tl=[c]:=ht;subst ht';rw[qad]at hl;have h11:1<=(⟨#[c]⟩:ByteArray).size:=Nat.le_refl _;have hi9:(Tryz.prog.info? (lrenb.t 9)).map (fun i=>(i.zero,i.size,i.bytes))=some (some (.string ByteArray.empty),1,16):=by kernel_rfl
 refine(Any.strings_Split laysb146 hi9 s ⟨#[c]⟩ m w (by omega) hm h11).mono ?_;rintro e w' ⟨rfl,rfl⟩;have hlen:=Lib.splitB_all ⟨#[c]⟩ h11 0 _ s rfl;have hdata:=Lib.splitB_data ⟨#[c]⟩ 0 (Lib.countB s ⟨#[c]⟩) s;have hcs:Lib.splitK (⟨#[c]⟩:ByteArray).data.toList 0 (Lib.countB s ⟨#[c]⟩) s.data.toList=qbf c s.data.toList:=qhL c _ _ (Nat.le_refl _);rw[hcs]at hdata;obtain⟨L,hL⟩:=exz (Lib.splitB ⟨#[c]⟩ 0 (Lib.countB s ⟨#[c]⟩) s);have hle:=Lib.countB_le ⟨#[c]⟩ h11 s.size s (Nat.le_refl _);have hsz2:=qfx ⟨#[c]⟩ s.size (Lib.countB s ⟨#[c]⟩) s (Nat.le_refl _);rw[hL]at hlen hdata hsz2⊢;obtain⟨n,hn⟩:=exz (Lib.countB s ⟨#[c]⟩);rw[hn]at hlen hle⊢;have hN:(strs (qbf c s.data.toList)).length=n+1:=by rw[<-hdata];simp[strs,hlen]
 have hrel:Rel (w.alloc (.cells (L.map Value.string).toArray (lrenb.t 9))) β (fun g o=>Rd g o\/g=w.heap.size) (.sl false 1 (strs (qbf c s.data.toList))) (.slice (some ⟨w.heap.size,0,none⟩) (n+1) (n+1)):=by
  refine .sl false 1 _ _ (L.map Value.string) (fun r hr=>?_) ?_ (fun g o n' c' hv j hj=>?_) (fun h=>by cases h) (fun r hr x hx=>?_) (fun j x u hx hu=>?_)
  ·simp[strs]at hr;obtain⟨_,_,rfl⟩:=hr;rfl
  ·rw[hN];refine⟨by simp[hlen],_,n+1,rfl,Nat.le_refl _,by unfold maxLen;omega,fun _=>⟨_,_,rfl,fun j hj=>?_⟩⟩;rw[Nat.zero_add,World.cell?_alloc_new];simp
  ·cases hv;exact .inr rfl
  ·simp[strs]at hr;obtain⟨_,_,rfl⟩:=hr;simp at hx;subst hx;exact⟨rfl,rfl⟩
  ·have hf:(strs (qbf c s.data.toList)).flatten=L.map fun b=>AV.str b.data.toList:=by
    rw[<-hdata];clear hdata hN hL hsz2 hlen hx hu
    induction L with
    |nil=>rfl
    |cons a L ih=>simp[strs]at ih⊢;exact ih
   rw[hf,List.getElem?_map]at hx;rw[List.getElem?_map]at hu;cases hj:L[j]? with
   |none=>rw[hj]at hx;cases hx
   |some b=>
    rw[hj]at hx hu;simp at hx hu;subst hx;subst hu;exact .str _ _ rfl (by have:=hsz2 b (zqH hj);unfold maxLen;omega)
 refine⟨_,_,H,β,_,Ow,rfl,hQ,qb5 hHR (Frm.alloc _ _ _) (fun g _=>g=w.heap.size) (fun g o h=>⟨by omega,by simp;omega⟩) hrel (.sl _ _ _ fun r hr x hx=>?_) rfl⟩;simp[strs]at hr;obtain⟨_,_,rfl⟩:=hr;simp at hx;subst hx;exact .str _
end
end Go.Proofs.YtnnhdehmlkkfjaaGreatDoor
namespace Go.Proofs.YtnnhdehmlkkfjaaGreatDoor
open Go Go.RowKit
theorem qmK(last:Bool):∀(l:List (List UInt8)) (n:Int),0<=n->0<=(goG last l n).1/\(goG last l n).1<=n+2+l.length
 |[],n,h=>by simp[goG];omega
 |g::r,n,h=>by
  have ih:=qmK last r (n+1) (by omega);rw[goG];simp only[zqL];split
  ·simp only;omega
  ·split
   ·simp only;omega
   ·split
    ·omega
    ·simp only;omega
theorem qk0(s:List UInt8)(last:Bool):0<=(qbC s last).1:=by
 unfold qbC;split
 ·simp
 ·exact(qmK last _ 0 (by omega)).1
theorem qkz(may:UInt8->Bool):qbg may []=0:=by rw[qbg]
theorem qda(may:UInt8->Bool):∀(k:Nat) (s:List UInt8),s.length<=k->qbg may s<=s.length
 |_,[],_=>by simp[qkz]
 |0,_::_,h=>by simp at h
 |k+1,c::r,h=>by
  simp only[zqL]at h⊢;rw[qfz];split
  ·rename_i ht;have:=qhF ht;simp only[zqL]at this;have h1:=qda may k (r.drop 2) (by rw[zqI];omega);rw[zqI]at h1;omega
  ·split
   ·have h1:=qda may k r (by omega);omega
   ·omega
end Go.Proofs.YtnnhdehmlkkfjaaGreatDoor
