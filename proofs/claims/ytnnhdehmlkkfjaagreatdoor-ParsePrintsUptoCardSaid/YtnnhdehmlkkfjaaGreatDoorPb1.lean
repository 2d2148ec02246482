/- Part 1 of the texts below the law. -/
import Derived.Shelf.Strconv.Itoa3
import Derived.Shelf.Strings.BuilderK
import Derived.Shelf.Strings.OnBuilder
import Derived.Shelf.Strings.SlTrimAscii
import Derived.Test.YtnnhdehmlkkfjaaGreatDoorProg
import Derived.KernelRfl
import Derived.WalkKit
import Derived.WalkSpells
import Derived.WalkLawsBesides
import Derived.Deep.AppendSrc
import Derived.Deep.Upon
import Derived.Deep.MidRow
import Derived.Deep.RegionLaw
import Derived.StillTailTactics
import Derived.Lib.Hide
import Derived.Deep.RegionWith
import Derived.Deep.Quiet
import Derived.Laws.IdiomStrings
import Derived.Lib.SlBytesRow
import Derived.Lib.Strings
import Derived.Maps.Own
import Derived.Maps.OwnSet
import Derived.Maps.Ext
import Derived.Great.BuildSlice
import Derived.Laws.StructEq
import Derived.Great.FillDense
import Derived.Laws.Small
import Derived.Lib.FrozenHead
set_option maxRecDepth 100000
set_option maxHeartbeats 16000000
namespace Go.Proofs.YtnnhdehmlkkfjaaGreatDoor
open Go Go.Shelf Go.Proofs
theorem exz{α:Type _}(a:α):∃x,a=x:=⟨a,rfl⟩
theorem lfz{α:Type _}{o:Option α}{a b:α}(h:o=some a)(h2:a=b:=by kernel_rfl):o=some b:=h.trans (congrArg some h2)
theorem zqA{α:Type _}{l₁ l₂:List α}{i:Nat}(h:i<l₁.length):(l₁++l₂)[i]? =l₁[i]?:=List.getElem?_append_left h
theorem zqB{α:Type _}{l₁ l₂:List α}{i:Nat}(h:l₁.length<=i):(l₁++l₂)[i]? =l₂[i-l₁.length]?:=List.getElem?_append_right h
theorem zqC{α:Type _}{l:List α}{i:Nat}{a:α}:l[i]? =some a↔∃h:i<l.length,l[i]=a:=List.getElem?_eq_some_iff
theorem zqD{α:Type _}{l:List α}{i:Nat}(h:i<l.length):l[i]? =some l[i]:=List.getElem?_eq_getElem h
theorem zqE{α:Type _}{i:Nat}{l:List α}(h:l.length<=i):l.take i=l:=List.take_of_length_le h
theorem zqF{α:Type _}{i j:Nat}(h:i≠j){l:List α}{a:α}:(l.set i a)[j]? =l[j]?:=List.getElem?_set_ne h
theorem zqG{α:Type _}{l:List α}{i j:Nat}(h:i<j):(l.take j)[i]? =l[i]?:=List.getElem?_take_of_lt h
theorem zqH{α:Type _}{l:List α}{i:Nat}{a:α}(h:l[i]? =some a):a∈l:=List.mem_of_getElem? h
theorem zqI{α:Type _}{i:Nat}{l:List α}:(l.drop i).length=l.length-i:=List.length_drop
theorem zqJ{α:Type _}{i:Nat}{l:List α}:(l.take i).length=min i l.length:=List.length_take
theorem zqK{α:Type _}{a b:List α}:(a++b).length=a.length+b.length:=List.length_append
theorem zqL{α:Type _}{a:α}{l:List α}:(a::l).length=l.length+1:=List.length_cons
theorem zqM{α:Type _}{l:Array α}{i:Nat}(h:i<l.size):l[i]? =some l[i]:=Array.getElem?_eq_getElem h
theorem zqN{α:Type _}{l:List α}{i j:Nat}:(l.drop i)[j]? =l[i+j]?:=List.getElem?_drop
theorem zqO{α:Type _}{i:Nat}{l:List α}{a:α}(h:i<l.length):(l.set i a)[i]? =some a:=List.getElem?_set_self h
def lren:Go.Shelf.Ren:=⟨fun|15=>71|20=>103|99=>186|100=>210|101=>187|119=>214|120=>223|129=>182|137=>156|138=>248|143=>242|144=>235|145=>188|146=>234|151=>202|152=>192|153=>165|160=>154|161=>200|166=>74|167=>179|169=>75|171=>80|195=>249|197=>201|206=>207|207=>225|208=>208|217=>180|218=>250|219=>224|220=>209|221=>241|224=>215|225=>216|226=>193|227=>174|228=>194|231=>172|232=>173|233=>175|234=>176|235=>177|236=>178|240=>106|243=>112|246=>141|260=>222|266=>204|267=>233|268=>247|271=>203|276=>136|283=>158|284=>159|285=>160|286=>161|314=>240|315=>103|317=>181|318=>183|319=>184|320=>185|337=>205|338=>206|n=>n,fun|0=>0|2=>2|3=>3|4=>4|5=>5|9=>9|20=>20|21=>21|23=>117|31=>78|37=>82|40=>117|46=>224|51=>139|53=>198|59=>142|70=>118|72=>120|75=>123|80=>126|105=>233|116=>213|117=>214|119=>255|124=>217|127=>157|138=>257|139=>258|146=>262|164=>174|171=>197|173=>201|212=>221|213=>222|232=>246|233=>247|n=>n,fun|1=>2|3=>5|4=>6|17=>1|18=>3|19=>4|n=>n⟩
theorem lays160:Go.Proofs.Lays.n160 Tryz.prog lren:={
 mixed:=by kernel_rfl
 f119:=lfz Tryz.func214
 f120:=lfz Tryz.func223
 f137:=lfz Tryz.func156
 f151:=lfz Tryz.func202
 f152:=lfz Tryz.func192
 f160:=lfz Tryz.func154
 f197:=lfz Tryz.func201
 f217:=lfz Tryz.func180
 f224:=lfz Tryz.func215
 f225:=lfz Tryz.func216
 f227:=lfz Tryz.func174
 f228:=lfz Tryz.func194
 f231:=lfz Tryz.func172
 f232:=lfz Tryz.func173
 f233:=lfz Tryz.func175
 f234:=lfz Tryz.func176
 f235:=lfz Tryz.func177
 f236:=lfz Tryz.func178
 f260:=lfz Tryz.func222
 f266:=lfz Tryz.func204
 f271:=lfz Tryz.func203
 t0:=Tryz.underlying0
 a0:=Tryz.isAgg0
 z0:=Tryz.sizeOf0
 v0:=Tryz.zeroValue0
 t3:=Tryz.underlying3
 a3:=Tryz.isAgg3
 z3:=Tryz.sizeOf3
 v3:=Tryz.zeroValue3
 t4:=Tryz.underlying4
 a4:=Tryz.isAgg4
 z4:=Tryz.sizeOf4
 v4:=Tryz.zeroValue4
 t5:=Tryz.underlying5
 a5:=Tryz.isAgg5
 z5:=Tryz.sizeOf5
 v5:=Tryz.zeroValue5
 t9:=Tryz.underlying9
 a9:=Tryz.isAgg9
 z9:=Tryz.sizeOf9
 v9:=Tryz.zeroValue9
 t21:=Tryz.underlying21
 a21:=Tryz.isAgg21
 z21:=Tryz.sizeOf21
 v21:=Tryz.zeroValue21
 t46:=Tryz.underlying224
 a46:=Tryz.isAgg224
 z46:=Tryz.sizeOf224
 v46:=Tryz.zeroValue224
 t105:=Tryz.underlying233
 a105:=Tryz.isAgg233
 z105:=Tryz.sizeOf233
 v105:=Tryz.zeroValue233
 t116:=Tryz.underlying213
 a116:=Tryz.isAgg213
 z116:=Tryz.sizeOf213
 t117:=Tryz.underlying214
 a117:=Tryz.isAgg214
 z117:=Tryz.sizeOf214
 v117:=Tryz.zeroValue214
 t119:=Tryz.underlying255
 a119:=Tryz.isAgg255
 z119:=Tryz.sizeOf255
 t124:=Tryz.underlying217
 a124:=Tryz.isAgg217
 z124:=Tryz.sizeOf217
 v124:=Tryz.zeroValue217
 t138:=Tryz.underlying257
 a138:=Tryz.isAgg257
 z138:=Tryz.sizeOf257
 v138:=Tryz.zeroValue257
 t139:=Tryz.underlying258
 a139:=Tryz.isAgg258
 z139:=Tryz.sizeOf258
 v139:=Tryz.zeroValue258
 g3:=by kernel_rfl
 g4:=by kernel_rfl}
theorem lays161:Go.Proofs.Lays.n161 Tryz.prog lren:={
 mixed:=by kernel_rfl
 f119:=lfz Tryz.func214
 f137:=lfz Tryz.func156
 f151:=lfz Tryz.func202
 f152:=lfz Tryz.func192
 f161:=lfz Tryz.func200
 f197:=lfz Tryz.func201
 f217:=lfz Tryz.func180
 f224:=lfz Tryz.func215
 f225:=lfz Tryz.func216
 f227:=lfz Tryz.func174
 f228:=lfz Tryz.func194
 f231:=lfz Tryz.func172
 f233:=lfz Tryz.func175
 f235:=lfz Tryz.func177
 f260:=lfz Tryz.func222
 f266:=lfz Tryz.func204
 t0:=Tryz.underlying0
 a0:=Tryz.isAgg0
 z0:=Tryz.sizeOf0
 v0:=Tryz.zeroValue0
 t3:=Tryz.underlying3
 a3:=Tryz.isAgg3
 z3:=Tryz.sizeOf3
 v3:=Tryz.zeroValue3
 t4:=Tryz.underlying4
 a4:=Tryz.isAgg4
 z4:=Tryz.sizeOf4
 v4:=Tryz.zeroValue4
 t5:=Tryz.underlying5
 a5:=Tryz.isAgg5
 z5:=Tryz.sizeOf5
 v5:=Tryz.zeroValue5
 t9:=Tryz.underlying9
 a9:=Tryz.isAgg9
 z9:=Tryz.sizeOf9
 v9:=Tryz.zeroValue9
 t21:=Tryz.underlying21
 a21:=Tryz.isAgg21
 z21:=Tryz.sizeOf21
 v21:=Tryz.zeroValue21
 t46:=Tryz.underlying224
 a46:=Tryz.isAgg224
 z46:=Tryz.sizeOf224
 v46:=Tryz.zeroValue224
 t105:=Tryz.underlying233
 a105:=Tryz.isAgg233
 z105:=Tryz.sizeOf233
 v105:=Tryz.zeroValue233
 t116:=Tryz.underlying213
 a116:=Tryz.isAgg213
 z116:=Tryz.sizeOf213
 t117:=Tryz.underlying214
 a117:=Tryz.isAgg214
 z117:=Tryz.sizeOf214
 v117:=Tryz.zeroValue214
 t119:=Tryz.underlying255
 a119:=Tryz.isAgg255
 z119:=Tryz.sizeOf255
 t124:=Tryz.underlying217
 a124:=Tryz.isAgg217
 z124:=Tryz.sizeOf217
 v124:=Tryz.zeroValue217
 t138:=Tryz.underlying257
 a138:=Tryz.isAgg257
 z138:=Tryz.sizeOf257
 v138:=Tryz.zeroValue257
 t139:=Tryz.underlying258
 a139:=Tryz.isAgg258
 z139:=Tryz.sizeOf258
 v139:=Tryz.zeroValue258
 g3:=by kernel_rfl
 g4:=by kernel_rfl}
theorem lays166:Go.Proofs.Lays.n166 Tryz.prog lren:={
 mixed:=by kernel_rfl
 f166:=lfz Tryz.func74
 f240:=lfz Tryz.func106
 f276:=lfz Tryz.func136
 t0:=Tryz.underlying0
 a0:=Tryz.isAgg0
 z0:=Tryz.sizeOf0
 v0:=Tryz.zeroValue0
 t3:=Tryz.underlying3
 a3:=Tryz.isAgg3
 z3:=Tryz.sizeOf3
 v3:=Tryz.zeroValue3
 t4:=Tryz.underlying4
 a4:=Tryz.isAgg4
 z4:=Tryz.sizeOf4
 v4:=Tryz.zeroValue4
 t9:=Tryz.underlying9
 a9:=Tryz.isAgg9
 z9:=Tryz.sizeOf9
 v9:=Tryz.zeroValue9
 t20:=Tryz.underlying20
 a20:=Tryz.isAgg20
 z20:=Tryz.sizeOf20
 v20:=Tryz.zeroValue20
 t37:=Tryz.underlying82
 a37:=Tryz.isAgg82
 z37:=Tryz.sizeOf82
 v37:=Tryz.zeroValue82
 t70:=Tryz.underlying118
 a70:=Tryz.isAgg118
 z70:=Tryz.sizeOf118
 v70:=Tryz.zeroValue118
 t72:=Tryz.underlying120
 a72:=Tryz.isAgg120
 z72:=Tryz.sizeOf120
 v72:=Tryz.zeroValue120
 t75:=Tryz.underlying123
 a75:=Tryz.isAgg123
 z75:=Tryz.sizeOf123
 v75:=Tryz.zeroValue123
 t164:=Tryz.underlying174
 a164:=Tryz.isAgg174
 z164:=Tryz.sizeOf174
 v164:=Tryz.zeroValue174}
theorem lays167:Go.Proofs.Lays.n167 Tryz.prog lren:={
 mixed:=by kernel_rfl
 f167:=lfz Tryz.func179
 f240:=lfz Tryz.func106
 f276:=lfz Tryz.func136
 t0:=Tryz.underlying0
 a0:=Tryz.isAgg0
 z0:=Tryz.sizeOf0
 v0:=Tryz.zeroValue0
 t4:=Tryz.underlying4
 a4:=Tryz.isAgg4
 z4:=Tryz.sizeOf4
 v4:=Tryz.zeroValue4
 t5:=Tryz.underlying5
 a5:=Tryz.isAgg5
 z5:=Tryz.sizeOf5
 v5:=Tryz.zeroValue5
 t9:=Tryz.underlying9
 a9:=Tryz.isAgg9
 z9:=Tryz.sizeOf9
 v9:=Tryz.zeroValue9
 t20:=Tryz.underlying20
 a20:=Tryz.isAgg20
 z20:=Tryz.sizeOf20
 v20:=Tryz.zeroValue20
 t37:=Tryz.underlying82
 a37:=Tryz.isAgg82
 z37:=Tryz.sizeOf82
 v37:=Tryz.zeroValue82
 t70:=Tryz.underlying118
 a70:=Tryz.isAgg118
 z70:=Tryz.sizeOf118
 v70:=Tryz.zeroValue118
 t72:=Tryz.underlying120
 a72:=Tryz.isAgg120
 z72:=Tryz.sizeOf120
 v72:=Tryz.zeroValue120
 t75:=Tryz.underlying123
 a75:=Tryz.isAgg123
 z75:=Tryz.sizeOf123
 v75:=Tryz.zeroValue123
 t164:=Tryz.underlying174
 a164:=Tryz.isAgg174
 z164:=Tryz.sizeOf174
 v164:=Tryz.zeroValue174}
theorem lays169:Go.Proofs.Lays.n169 Tryz.prog lren:={
 mixed:=by kernel_rfl
 f169:=lfz Tryz.func75
 t0:=Tryz.underlying0
 a0:=Tryz.isAgg0
 z0:=Tryz.sizeOf0
 v0:=Tryz.zeroValue0
 t3:=Tryz.underlying3
 a3:=Tryz.isAgg3
 z3:=Tryz.sizeOf3
 v3:=Tryz.zeroValue3
 t9:=Tryz.underlying9
 a9:=Tryz.isAgg9
 z9:=Tryz.sizeOf9
 v9:=Tryz.zeroValue9
 t37:=Tryz.underlying82
 a37:=Tryz.isAgg82
 z37:=Tryz.sizeOf82
 v37:=Tryz.zeroValue82
 t70:=Tryz.underlying118
 a70:=Tryz.isAgg118
 z70:=Tryz.sizeOf118
 v70:=Tryz.zeroValue118
 t72:=Tryz.underlying120
 a72:=Tryz.isAgg120
 z72:=Tryz.sizeOf120
 v72:=Tryz.zeroValue120
 t127:=Tryz.underlying157
 a127:=Tryz.isAgg157
 z127:=Tryz.sizeOf157
 v127:=Tryz.zeroValue157}
theorem qoX:Go.Proofs.LaysM.n171 Tryz.prog lren:={
 mixed:=by kernel_rfl
 f129:=lfz Tryz.func182
 f171:=lfz Tryz.func80
 f243:=lfz Tryz.func112
 f246:=lfz Tryz.func141
 f283:=lfz Tryz.func158
 f284:=lfz Tryz.func159
 f285:=lfz Tryz.func160
 f286:=lfz Tryz.func161
 f317:=lfz Tryz.func181
 f318:=lfz Tryz.func183
 f319:=lfz Tryz.func184
 f320:=lfz Tryz.func185
 f337:=lfz Tryz.func205
 f338:=lfz Tryz.func206
 t0:=Tryz.underlying0
 a0:=Tryz.isAgg0
 z0:=Tryz.sizeOf0
 v0:=Tryz.zeroValue0
 t2:=Tryz.underlying2
 a2:=Tryz.isAgg2
 z2:=Tryz.sizeOf2
 v2:=Tryz.zeroValue2
 t3:=Tryz.underlying3
 a3:=Tryz.isAgg3
 z3:=Tryz.sizeOf3
 v3:=Tryz.zeroValue3
 t4:=Tryz.underlying4
 a4:=Tryz.isAgg4
 z4:=Tryz.sizeOf4
 v4:=Tryz.zeroValue4
 t5:=Tryz.underlying5
 a5:=Tryz.isAgg5
 z5:=Tryz.sizeOf5
 v5:=Tryz.zeroValue5
 t9:=Tryz.underlying9
 a9:=Tryz.isAgg9
 z9:=Tryz.sizeOf9
 v9:=Tryz.zeroValue9
 t20:=Tryz.underlying20
 a20:=Tryz.isAgg20
 z20:=Tryz.sizeOf20
 v20:=Tryz.zeroValue20
 t37:=Tryz.underlying82
 a37:=Tryz.isAgg82
 z37:=Tryz.sizeOf82
 v37:=Tryz.zeroValue82
 t46:=Tryz.underlying224
 a46:=Tryz.isAgg224
 z46:=Tryz.sizeOf224
 v46:=Tryz.zeroValue224
 t51:=Tryz.underlying139
 a51:=Tryz.isAgg139
 z51:=Tryz.sizeOf139
 v51:=Tryz.zeroValue139
 t53:=Tryz.underlying198
 a53:=Tryz.isAgg198
 z53:=Tryz.sizeOf198
 v53:=Tryz.zeroValue198
 t171:=Tryz.underlying197
 a171:=Tryz.isAgg197
 z171:=Tryz.sizeOf197
 v171:=Tryz.zeroValue197
 t173:=Tryz.underlying201
 a173:=Tryz.isAgg201
 z173:=Tryz.sizeOf201
 v173:=Tryz.zeroValue201
 t212:=Tryz.underlying221
 a212:=Tryz.isAgg221
 z212:=Tryz.sizeOf221
 v212:=Tryz.zeroValue221
 t213:=Tryz.underlying222
 a213:=Tryz.isAgg222
 z213:=Tryz.sizeOf222
 t232:=Tryz.underlying246
 a232:=Tryz.isAgg246
 z232:=Tryz.sizeOf246
 v232:=Tryz.zeroValue246
 t233:=Tryz.underlying247
 a233:=Tryz.isAgg247
 z233:=Tryz.sizeOf247
 v233:=Tryz.zeroValue247
 g17:=by kernel_rfl
 g18:=by kernel_rfl
 g19:=by kernel_rfl
 i0:=by kernel_rfl
 i2:=by kernel_rfl
 i3:=by kernel_rfl
 i4:=by kernel_rfl
 i5:=by kernel_rfl
 i9:=by kernel_rfl
 i20:=by kernel_rfl
 i37:=by kernel_rfl
 i46:=by kernel_rfl
 i51:=by kernel_rfl
 i53:=by kernel_rfl
 i171:=by kernel_rfl
 i173:=by kernel_rfl
 i212:=by kernel_rfl
 i232:=by kernel_rfl
 i233:=by kernel_rfl
 m17:=by kernel_rfl
 m18:=by kernel_rfl
 m19:=by kernel_rfl}
theorem lextra:Builder.Extra Tryz.prog lren:={
 sizeBuilder:=by kernel_rfl
 liesBuilder:=by kernel_rfl
 t5:=Tryz.underlying5
 a5:=Tryz.isAgg5
 z5:=Tryz.sizeOf5
 v5:=Tryz.zeroValue5
 infoByte:=by kernel_rfl
 cellsByte:=by kernel_rfl
 sizeByte:=by kernel_rfl
 neB5:=by decide}
end Go.Proofs.YtnnhdehmlkkfjaaGreatDoor
set_option linter.unusedVariables false
namespace Go.Proofs.YtnnhdehmlkkfjaaGreatDoor
open Go Go.RowKit
structure Frm (S:Nat->Prop) (w w':World):Prop where
 os:w'.os=w.os
 tape:w'.tape=w.tape
 output:w'.output=w.output
 size:w.heap.size<=w'.heap.size
 block:∀k,k<w.heap.size->¬S k->w'.heap[k]? =w.heap[k]?
theorem Frm.refl(S:Nat->Prop)(w:World):Frm S w w:=⟨rfl,rfl,rfl,Nat.le_refl _,fun _ _ _=>rfl⟩
theorem Frm.trans{S:Nat->Prop}{a b c:World}(h:Frm S a b)(k:Frm S b c):Frm S a c:=
 ⟨k.os.trans h.os,k.tape.trans h.tape,k.output.trans h.output,Nat.le_trans h.size k.size,fun i hi hs=>(k.block i (Nat.lt_of_lt_of_le hi h.size) hs).trans (h.block i hi hs)⟩
theorem Frm.mono{S T:Nat->Prop}{a b:World}(h:Frm S a b)(hs:∀k,k<a.heap.size->S k->T k):Frm T a b:=
 ⟨h.os,h.tape,h.output,h.size,fun k hk hn=>h.block k hk (fun s=>hn (hs k hk s))⟩
theorem Frm.then{S T U:Nat->Prop}{a b c:World}(h:Frm S a b)(k:Frm T b c)(hs:∀i,i<a.heap.size->S i->U i)(ht:∀i,i<a.heap.size->T i->U i):Frm U a c:=
 ⟨k.os.trans h.os,k.tape.trans h.tape,k.output.trans h.output,Nat.le_trans h.size k.size,fun i hi hn=>(k.block i (Nat.lt_of_lt_of_le hi h.size) (fun t=>hn (ht i hi t))).trans (h.block i hi (fun s=>hn (hs i hi s)))⟩
theorem Frm.drewN(S:Nat->Prop)(w:World)(n:Nat):Frm S w (w.drewN n):=⟨rfl,rfl,rfl,Nat.le_refl _,fun _ _ _=>rfl⟩
theorem Frm.alloc(S:Nat->Prop)(w:World)(o:Obj):Frm S w (w.alloc o):=⟨rfl,rfl,rfl,by simp,fun k hk _=>heap_alloc_old w o hk⟩
theorem Frm.setNew{S:Nat->Prop}{w w1:World}(h:Frm S w w1){a:Addr}(ha:w.heap.size<=a.block)(u:Value):Frm S w (w1.setCell a u):=
 ⟨h.os,h.tape,h.output,by have:=h.size;simpa[World.setCell]using this,fun k hk hn=>(Below.heap_setCell _ _ _ _ (by omega)).trans (h.block k hk hn)⟩
theorem Frm.fresh{S T:Nat->Prop}{a b c:World}(h:Frm S a b)(k:Frm T b c)(ht:∀i,i<a.heap.size->T i->S i):Frm S a c:=h.then k (fun _ _ h=>h) ht
theorem Frm.toBelow{S:Nat->Prop}{B:Nat}{w w':World}(h:Frm S w w')(hB:B<=w.heap.size)(hs:∀k,k<B->¬S k):Below B w w':=
 ⟨h.os,h.tape,h.output,h.size,fun k hk=>h.block k (Nat.lt_of_lt_of_le hk hB) (hs k hk)⟩
def RSl(w:World)(size:Nat)(v:Value)(n:Nat)(xs:List Value):Prop:=
 xs.length=n*size/\∃ao cap,v= .slice ao n cap/\n<=cap/\cap<=maxLen/\
  (0<n->∃g o,ao=some ⟨g,o,none⟩/\∀j,j<n*size->w.cell? ⟨g,o+j,none⟩=xs[j]?)
def OSl(w:World)(size:Nat)(v:Value)(n:Nat)(xs:List Value):Prop:=
 xs.length=n*size/\((v= .slice none 0 0/\n=0)\/
  ∃g o cap,v= .slice (some ⟨g,o,none⟩) n cap/\n<=cap/\cap<=maxLen/\g<w.heap.size/\
   (∀j,j<n*size->w.cell? ⟨g,o+j,none⟩=xs[j]?)/\
   (∀j,j<cap*size->(w.cell? ⟨g,o+j,none⟩).isSome=true/\w.frozen? ⟨g,o+j,none⟩=false))
theorem OSl.nil(w:World)(size:Nat):OSl w size (.slice none 0 0) 0 []:=⟨by simp,.inl ⟨rfl,rfl⟩⟩
theorem OSl.toR{w:World}{size:Nat}{v:Value}{n:Nat}{xs:List Value}(h:OSl w size v n xs):RSl w size v n xs:=by
 obtain⟨h1,⟨rfl,rfl⟩|⟨g,o,cap,rfl,h2,h3,_,h4,_⟩⟩:=h
 ·exact⟨h1,none,0,rfl,Nat.le_refl _,Nat.zero_le _,fun h=>absurd h (by omega)⟩
 ·exact⟨h1,_,cap,rfl,h2,h3,fun _=>⟨g,o,rfl,h4⟩⟩
theorem OSl.frame{w w':World}{size:Nat}{v:Value}{n:Nat}{xs:List Value}(h:OSl w size v n xs)(hb:∀g,v.ownBlock=some g->g<w.heap.size->w'.heap[g]? =w.heap[g]?):OSl w' size v n xs:=by
 obtain⟨h1,⟨rfl,rfl⟩|⟨g,o,cap,rfl,h2,h3,h6,h4,h5⟩⟩:=h
 ·exact⟨h1,.inl ⟨rfl,rfl⟩⟩
 ·have e:=hb g rfl h6;refine⟨h1,.inr ⟨g,o,cap,rfl,h2,h3,?_,fun j hj=>(World.cell?_of_block (a:=⟨g,o+j,none⟩) e).trans (h4 j hj),fun j hj=>?_⟩⟩
  ·have hl:=zqM h6;rcases Nat.lt_or_ge g w'.heap.size with h'|h'
   ·exact h'
   ·rw[Array.getElem?_eq_none h',hl]at e;exact absurd e (by simp)
  ·rw[World.cell?_of_block (a:=⟨g,o+j,none⟩) e,World.frozen?_of_block (a:=⟨g,o+j,none⟩) e];exact h5 j hj
theorem OSl.lt{w:World}{size:Nat}{v:Value}{n:Nat}{xs:List Value}(h:OSl w size v n xs):∀g,v.ownBlock=some g->g<w.heap.size:=by
 obtain⟨h1,⟨rfl,rfl⟩|⟨g,o,cap,rfl,_,_,h6,_⟩⟩:=h
 ·intro g hg;simp[Value.ownBlock]at hg
 ·intro g' hg;simp[Value.ownBlock]at hg;omega
theorem OSl.shape{w:World}{size:Nat}{v:Value}{n:Nat}{xs:List Value}(h:OSl w size v n xs):∃ao cap,v= .slice ao n cap/\n<=cap/\cap<=maxLen:=by
 obtain⟨h1,⟨rfl,rfl⟩|⟨g,o,cap,rfl,h2,h3,_⟩⟩:=h
 ·exact⟨none,0,rfl,Nat.le_refl _,Nat.zero_le _⟩
 ·exact⟨_,cap,rfl,h2,h3⟩
theorem OSl.at {w : World} {size g o n cap : Nat} {xs : List Value} (h : OSl w size (.slice (some ⟨g, o, none⟩) n cap) n xs) : n ≤ cap ∧ cap ≤ maxLen ∧ g < w.heap.size ∧
      (∀ j, j < n * size → w.cell? ⟨g, o + j, none⟩ = xs[j]?) ∧
      (∀ j, j < cap * size → (w.cell? ⟨g, o + j, none⟩).isSome = true ∧ w.frozen? ⟨g, o + j, none⟩ = false) := by
  obtain ⟨h1, ⟨he, _⟩ | ⟨g', o', cap', he, h2, h3, h6, h4, h5⟩⟩ := h
  · cases he
  · injection he with e1 e2 e3
    injection e1 with e1
    injection e1 with e1 e4
    subst e1; subst e4; subst e3
    exact ⟨h2, h3, h6, h4, h5⟩
theorem OSl.new(w:World)(cur:Array Value)(e size n cap:Nat)(xs:List Value)(hx:xs.length=n*size)(hn:n<=cap)(hm:cap<=maxLen)(hs:cur.size=cap*size)(ht:∀j,j<n*size->cur[j]? =xs[j]?):
  OSl (w.alloc (.cells cur e)) size (.slice (some ⟨w.heap.size,0,none⟩) n cap) n xs:=by
 refine⟨hx,.inr ⟨w.heap.size,0,cap,rfl,hn,hm,by simp,fun j hj=>?_,fun j hj=>?_⟩⟩
 ·rw[Nat.zero_add,World.cell?_alloc_new];exact ht j hj
 ·rw[Nat.zero_add,World.cell?_alloc_new,World.frozen?_alloc_new,zqM (by omega)];exact⟨rfl,rfl⟩
theorem qaH(b:Nat):∀(vs:List Value) (o:Nat) (w:World),(w.setCells b o vs).heap.size=w.heap.size
 |[],_,_=>rfl
 |v::r,o,w=>by rw[World.setCells,qaH b r];simp[World.setCell]
theorem qbW(b:Nat):∀(vs:List Value) (o:Nat) (w:World),(w.setCells b o vs).tape=w.tape
 |[],_,_=>rfl
 |v::r,o,w=>by rw[World.setCells,qbW b r];rfl
theorem qih(b:Nat)(o:Nat)(vs:List Value)(w:World):Frm (fun k=>k=b) w (w.setCells b o vs):=
 ⟨World.os_setCells _ _ _ _,qbW _ _ _ _,World.output_setCells _ _ _ _,by rw[qaH];exact Nat.le_refl _,fun k hk hn=>World.heap_setCells_other _ _ _ _ hk hn⟩
theorem qgh{P:Program}{w:World}{size:Nat}{v:Value}{n:Nat}{xs:List Value}(h:OSl w size v n xs)(t tx ty e:TypeId)(i:TypeInfo)(z:Value)(bytes:Nat)
  (ht:P.underlying t=some (.slice e)) (hi:P.info? e=some i) (hz:i.zero=some z) (hsize:i.size=size) (hby:i.bytes=bytes) (hzs:z.cells.size=size)
  (x:Value) (m:Nat) (news:List Value) (hs:Src P size tx x m news w) (h63:n+m<=maxLen) (hbytes:(n+m)*bytes<=140737488355328):
  ∃v' w',(Builtin.append_ #[t,tx] ty #[v,x]).run P w= .ok v' w'/\OSl w' size v' (n+m) (xs++news)/\Frm (fun k=>v.ownBlock=some k) w w'/\
   (v'.ownBlock=v.ownBlock\/v'.ownBlock=some w.heap.size):=by
 subst hsize;subst hby;have hnl:=hs.newsLen;have hsmall:n+m<=9223372036854775807:=by simp only[maxLen]at h63;omega
 have hlen':(xs++news).length=(n+m)*i.size:=by rw[zqK,h.1,hnl,Nat.add_mul]
 have grow:∀(bs:Option Addr) (sc:Nat),v= .slice bs n sc->sc<n+m->(Builtin.firstCells i.size n (.slice bs n sc)).run P w.drew= .ok xs.toArray w.drew->
   ∃v' w',(Builtin.append_ #[t,tx] ty #[v,x]).run P w= .ok v' w'/\OSl w' i.size v' (n+m) (xs++news)/\Frm (fun k=>v.ownBlock=some k) w w'/\
   (v'.ownBlock=v.ownBlock\/v'.ownBlock=some w.heap.size):=by
  rintro bs sc rfl hg hold;have hrun:=run_append_grow_src (P:=P) w t tx ty e i z ht hi hz bs n sc xs hold x m news hs hg (by omega) (growslice_fits hg hbytes);have hge:=grownCap_ge w (n+m) sc e;have hcm:=grownCap_le_maxLen w (n+m) sc e h63;refine⟨_,_,hrun,?_,⟨rfl,rfl,rfl,by simp,fun k hk _=>heap_alloc_old w.drew _ hk⟩,.inr rfl⟩;refine OSl.new w.drew _ e i.size (n+m) _ _ hlen' hge hcm ?_ ?_
  ·rw[Array.size_append,List.size_toArray,hlen',size_zeroCells,hzs,<-Nat.add_mul];congr 1;omega
  ·intro j hj;rw[Array.getElem?_append_left (by simp only[List.size_toArray];omega),List.getElem?_toArray]
 obtain⟨h1,⟨rfl,rfl⟩|⟨g,o,cap,rfl,h2,h3,h6,h4,h5⟩⟩:=h
 ·obtain rfl:xs=[]:=List.eq_nil_of_length_eq_zero (by simpa using h1);rcases Nat.eq_zero_or_pos m with rfl|hm
  ·obtain rfl:news=[]:=List.eq_nil_of_length_eq_zero (by simpa using hnl);exact⟨_,_,run_append_nothing (P:=P) w t tx ty e i ht hi none 0 0 (Nat.le_refl _) x hs,OSl.nil _ _,Frm.refl _ _,.inl rfl⟩
  ·exact grow none 0 rfl (by omega) (run_firstCells_none w.drew i.size 0 0 0)
 ·by_cases hfit:n+m<=cap
  ·have hmul:(n+m)*i.size<=cap*i.size:=Nat.mul_le_mul_right _ hfit;rw[Nat.add_mul]at hmul
   have hsome:∀j,j<news.length->(w.cell? ⟨g,o+n*i.size+j,none⟩).isSome=true:=fun j hj=>by
    have:=(h5 (n*i.size+j) (by omega)).1;rwa[<-Nat.add_assoc]at this
   have hfree:∀j,j<news.length->w.frozen? ⟨g,o+n*i.size+j,none⟩=false:=fun j hj=>by
    have:=(h5 (n*i.size+j) (by omega)).2;rwa[<-Nat.add_assoc]at this
   have hrun:=run_append_room_src (P:=P) w t tx ty e i ht hi g o n cap x m news hs hfit hsome hfree
   refine⟨_,_,hrun,⟨hlen',.inr ⟨g,o,cap,rfl,hfit,h3,by rw[qaH];exact h6,fun j hj=>?_,fun j hj=>⟨?_,(World.frozen?_setCells g _ _ _ _).trans (h5 j hj).2⟩⟩⟩,
    (qih g _ _ w).mono (fun k _ e=>by simp[Value.ownBlock,e]),.inl rfl⟩
   ·rw[Nat.add_mul]at hj;by_cases hjo:j<n*i.size
    ·rw[World.cell?_setCells_out g _ _ _ _ (fun _ _=>Or.inl (by show o+j<o+n*i.size;omega)),zqA (by omega)];exact h4 j hjo
    ·have hlt:j-n*i.size<news.length:=by omega
     have:=World.cell?_setCells_in g news (o+n*i.size) w hsome (j-n*i.size) hlt;rw[show o+n*i.size+(j-n*i.size)=o+j by omega]at this;rw[this,zqB (by omega),h1,zqD hlt]
   ·by_cases hin:n*i.size<=j/\j<n*i.size+news.length
    ·have:=World.cell?_setCells_in g news (o+n*i.size) w hsome (j-n*i.size) (by omega);rw[show o+n*i.size+(j-n*i.size)=o+j by omega]at this;rw[this];rfl
    ·rw[World.cell?_setCells_out g _ _ _ _ (fun _ _=>by show o+j<o+n*i.size\/o+n*i.size+news.length<=o+j;omega)];exact(h5 j hj).1
  ·refine grow (some ⟨g,o,none⟩) cap rfl (by omega) ?_;refine run_firstCells_some w.drew i.size n ⟨g,o,none⟩ n cap xs h1 (fun j u hu=>?_);rw[Addr.add_mid]
   have hj:j<n*i.size:=by
    have:=(zqC.1 hu).1;omega
   exact(h4 j hj).trans hu
section
variable {P:Program}
theorem qeu{ops:Array Oper}{rest:List Oper}{o:Oper}{a:Act}{Q:Exit->Act->World->Prop}(w:World)(hgd:o.guard=none)(s x:Operand)(t tx:TypeId)
  (ho:o.op= .call {callee:= .builtin .append,args:= #[s,x],argTypes:= #[t,tx]})
  (e:TypeId) (i:TypeInfo) (z:Value) (size bytes:Nat) (ht:P.underlying t=some (.slice e)) (hi:P.info? e=some i) (hz:i.zero=some z) (hsize:i.size=size) (hby:i.bytes=bytes) (hzs:z.cells.size=size)
  (v:Value) (n:Nat) (xs:List Value) (hv:a.eval s=v) (h:OSl w size v n xs)
  (xv:Value) (m:Nat) (news:List Value) (hx:a.eval x=xv) (hs:Src P size tx xv m news w) (h63:n+m<=maxLen) (hbytes:(n+m)*bytes<=140737488355328)
  (hK:∀ao cap w',OSl w' size (.slice ao (n+m) cap) (n+m) (xs++news)->Frm (fun k=>v.ownBlock=some k) w w'->((Value.slice ao (n+m) cap).ownBlock=v.ownBlock\/(Value.slice ao (n+m) cap).ownBlock=some w.heap.size)->
   wpList P ops Q rest (a.put o.dst (.slice ao (n+m) cap)) w'):wpList P ops Q (o::rest) a w:=by
 refine wpList_plain hgd fun K hK'=>?_;obtain⟨v',w',hrun,r1,r2,r3⟩:=qgh (P:=P) h t tx o.type e i z bytes ht hi hz hsize hby hzs xv m news hs h63 hbytes;obtain⟨ao,cap,rfl,_,_⟩:=r1.shape;unfold Oper.wp;simp[execOp,ho,resolve,invoke,builtin,hv,hx,hrun,Result.andThen];exact hK' _ _ (hK _ _ _ r1 r2 r3)
end
end Go.Proofs.YtnnhdehmlkkfjaaGreatDoor
set_option linter.unusedSimpArgs false
namespace Go.Proofs.YtnnhdehmlkkfjaaGreatDoor
open Go
section
variable {P:Program}{ops:Array Oper}
def QF:Exit->Act->World->Prop:=fun _ _ _=>False
def Upd(o:Oper)(a a':Act):Prop:=∃v ds,a'=({a with defers:=ds}:Act).put o.dst v
theorem qgF:¬LetsOut QF:=fun⟨_,_,h⟩=>h
theorem qof{o:Oper}{a:Act}{K:Act->World->Prop}{r:Result Next}(h:o.upon P a K QF r):∃a' w',Upd o a a'/\K a' w':=by
 cases r with
 |ok n w'=>
  cases n<;>simp only[Oper.upon]at h
  case value v=>exact⟨_,_,⟨v,a.defers,rfl⟩,h⟩
  case skip=>exact⟨_,_,⟨undef,a.defers,rfl⟩,h⟩
  case defer d=>exact⟨_,_,⟨undef,d::a.defers,rfl⟩,h⟩
  case enter f args=>
   obtain⟨e,w'',fr,hR,_⟩:=h [];cases e with
   |returned v=>exact⟨_,_,⟨v,a.defers,rfl⟩,hR⟩
   |panicked c=>exact(hR:False).elim
   |outgrown=>exact(qgF hR).elim
  case row row args=>
   obtain⟨v,w'',hR,_⟩:=h default [];exact⟨_,_,⟨v,a.defers,rfl⟩,hR⟩
 |halt x w'=>cases x<;>simp only[Oper.upon]at h<;>exact(h:False).elim
theorem qlz{i:Nat}{o:Oper}{K:Act->World->Prop}{a:Act}{w:World}(hi:ops[i]? =some o):
  wpOp P ops QF i K a w↔(if Region.wanted o (yielded ops a.tmps)then o.wp P a w K QF else K (a.put o.dst undef) w):=by
 unfold wpOp;simp only[hi];split
 ·exact⟨fun h=>h.resolve_right (fun h'=>qgF h'.2),Or.inl⟩
 ·exact Iff.rfl
theorem qpS{i:Nat}{o:Oper}{K:Act->World->Prop}{a:Act}{w:World}(hi:ops[i]? =some o)(h:wpOp P ops QF i K a w):∃a' w',Upd o a a'/\K a' w':=by
 rw[qlz hi]at h;split at h
 ·exact qof h
 ·exact⟨_,_,⟨undef,a.defers,rfl⟩,h⟩
def Lays(P:Program)(m:Sem Next):Prop:=(∃(f:Nat->Value) (o:Obj),∀w,m.run P w= .ok (.value (f w.heap.size)) (w.alloc o))\/(∀w,∃h w',m.run P w= .halt h w')
theorem qgP{x y:Oper}(h:x.apart ops y=true):y.apart ops x=true:=by
 obtain⟨h1,h2,h3⟩:=Oper.apart_spec h;unfold Oper.apart;rw[Bool.and_eq_true];constructor
 ·cases hy:y.dst with
  |none=>rfl
  |some d=>
   have a1:=h3 d hy;have a2:x.dst≠some d:=fun e=>h2 d e hy;simp[a1,a2]
 ·cases hx:x.dst with
  |none=>rfl
  |some d=>simpa using h1 d hx
variable {Inv:World->Prop}{C:Nat->Act->Prop}
end
section
variable {P:Program}{ops:Array Oper}{Inv:World->Prop}{C:Nat->Act->Prop}
def qaA(n:Nat)(listed:Array Bool):List Nat:=(List.range n).filter fun i=>!listed.getD i true
theorem qaV{n i:Nat}{listed:Array Bool}:i∈qaA n listed↔i<n/\listed.getD i true=false:=by
 simp[qaA]
def qiy(ops:Array Oper):Bool:=(List.range ops.size).all fun j=>match ops[j]? with
 |some o=>o.after.toList.all fun e=>!Region.binds .any e||decide (e.on<j)
 |none=>true
def qf7(M:List Nat)(ops:Array Oper):Bool:=(List.range ops.size).all fun j=>match ops[j]? with
 |some o=>(List.range j).all fun k=>!(M.getD j 0).testBit k||o.after.toList.any fun e=>Region.binds .any e&&(e.on==k||(decide (k<e.on)&&(M.getD e.on 0).testBit k))
 |none=>true
def qiF(ops:Array Oper)(listed:Array Bool):Prop:=∀j o,ops[j]? =some o->listed.getD j false=true->∀e∈o.after,Region.binds .any e=true->listed.getD e.on false=true
theorem qeo(h:qiy ops=true){j:Nat}{o:Oper}(ho:ops[j]? =some o){e:Edge}(he:e∈o.after)(hb:Region.binds .any e=true):e.on<j:=by
 have hlt:j<ops.size:=(Array.getElem?_eq_some_iff.1 ho).1;have:=List.all_eq_true.1 h j (List.mem_range.2 hlt);simp only[ho]at this;have:=List.all_eq_true.1 this e (by simpa using he);simpa[hb]using this
theorem qcW{M:List Nat}(hb:qiy ops=true)(hc:qf7 M ops=true){listed:Array Bool}(hcl:qiF ops listed):∀(j:Nat) (o:Oper),ops[j]? =some o->(∀e∈o.after,Region.binds .any e=true->listed.getD e.on false=true)->
  ∀k,k<j->(M.getD j 0).testBit k=true->listed.getD k false=true:=by
 intro j
 induction j using Nat.strongRecOn with
 |_ j ih=>
  intro o ho hall k hk hbit;have hlt:j<ops.size:=(Array.getElem?_eq_some_iff.1 ho).1;have h1:=List.all_eq_true.1 hc j (List.mem_range.2 hlt);simp only[ho]at h1;have h2:=List.all_eq_true.1 h1 k (List.mem_range.2 hk);simp only[hbit,Bool.not_true,Bool.false_or,List.any_eq_true,Bool.and_eq_true,Bool.or_eq_true,beq_iff_eq,decide_eq_true_eq]at h2;obtain⟨e,he,hbe,h3⟩:=h2;have he':e∈o.after:=by simpa using he
  have hlist:=hall e he' hbe;rcases h3 with rfl|⟨hke,h3⟩
  ·exact hlist
  ·have hej:=qeo hb ho he' hbe;obtain⟨oe,hoe⟩:∃oe,ops[e.on]? =some oe:=⟨_,zqM (by omega)⟩
   exact ih e.on hej oe hoe (hcl e.on oe hoe hlist) k hke h3
theorem qiY{n j:Nat}{p:Nat->Bool}(hj:j<n)(hp:p j=true):∃l m,(List.range n).filter p=l++j::m/\(∀i∈l,i<j/\p i=true)/\(List.range n).filter (fun i=>p i&&decide (i≠j))=l++m:=by
 obtain⟨d,rfl⟩:∃d,n=j+(d+1):=⟨n-j-1,by omega⟩
 rw[List.range_add,List.filter_append,List.filter_append]
 have e1:(List.range (d+1)).map (j+·)=j::(List.range d).map (j+1+·):=by
  rw[List.range_succ_eq_map,List.map_cons,List.map_map];simp only[Nat.add_zero,List.cons.injEq,true_and];apply List.map_congr_left;intro a _;simp only[Function.comp];omega
 rw[e1,List.filter_cons_of_pos hp,List.filter_cons_of_neg (by simp)];refine⟨(List.range j).filter p,_,rfl,fun i hi=>?_,?_⟩
 ·rw[List.mem_filter,List.mem_range]at hi;exact hi
 ·congr 1
  ·apply List.filter_congr;intro x hx;have:=List.mem_range.1 hx;simp[show x≠j by omega]
  ·apply List.filter_congr;intro x hx;obtain⟨y,_,rfl⟩:=List.mem_map.1 hx;simp[show j+1+y≠j by omega]
end
section
variable {P:Program}
end
section
variable {P:Program}
end
section
variable {P:Program}
end
section
variable {P:Program}
end
section
variable {P:Program}{ops:Array Oper}
variable {Inv:World->Prop}{E:Nat->Bool}{C:Nat->Act->Prop}
end
section
variable {P:Program}
end
end Go.Proofs.YtnnhdehmlkkfjaaGreatDoor
namespace Go.Proofs.YtnnhdehmlkkfjaaGreatDoor
open Go Go.RowKit
def tx(l:List UInt8):ByteArray:=⟨l.toArray⟩
theorem qd0(s:ByteArray):s.size=s.data.size:=rfl
theorem qiI(l:List UInt8):(tx l).size=l.length:=by rw[qd0];simp[tx]
theorem qad(s:ByteArray):s.data.toList.length=s.size:=by rw[qd0];simp
theorem qa2(s:ByteArray):s.toList=s.data.toList:=Lib.toList_data s
def u8s(l:List UInt8):List Value:=l.map fun b=> .int .u8 (b.toNat:Int)
theorem qb0(l:List UInt8):(u8s l).length=l.length:=by simp[u8s]
theorem qdU(l:List UInt8)(k:Nat):(u8s l)[k]? =(l[k]?).map fun b=>Value.int .u8 (b.toNat:Int):=by simp[u8s]
theorem qlJ(l:List UInt8)(k:Nat)(b:UInt8):u8s (l.set k b)=(u8s l).set k (.int .u8 (b.toNat:Int)):=by simp[u8s,List.map_set]
section
variable {P:Program}
theorem qcP(w:World)(src dst e:TypeId)(s:ByteArray)(hs:P.underlying src=some .string)(hd:P.underlying dst=some (.slice e))(he:P.underlying e=some (.int .u8))(hm:s.size<=maxLen):
  ∃cap w',(convert src dst (.string s)).run P w= .ok (.slice (some ⟨w.heap.size,0,none⟩) s.size cap) w'/\OSl w' 1 (.slice (some ⟨w.heap.size,0,none⟩) s.size cap) s.size (u8s s.data.toList)/\Frm (fun _=>False) w w'/\w'.heap.size=w.heap.size+1:=by
 refine⟨_,_,run_bytes_of_string w src dst e s hs hd he,?_,⟨rfl,rfl,rfl,by simp,fun k hk _=>heap_alloc_old w.drew _ hk⟩,by simp⟩;have hge:=grownCap_ge w s.size 0 e
 have hsz:(bytesRow s (grownCap w s.size 0 e)).size=grownCap w s.size 0 e:=by
  rw[qd0]at hge;simp[bytesRow]at hge⊢;omega
 refine⟨by rw[qb0,qad,Nat.mul_one],.inr ⟨w.heap.size,0,_,rfl,hge,grownCap_le_maxLen w s.size 0 e hm,by simp,fun j hj=>?_,fun j hj=>?_⟩⟩
 ·have hj':j<s.data.size:=by rw[<-qd0];omega
  have e1:=World.cell?_alloc_mark w.drew (bytesRow s (grownCap w s.size 0 e)) e ((bytesRow s (grownCap w s.size 0 e)).size,(bytesRow s (grownCap w s.size 0 e)).size+1) j;rw[Nat.zero_add];refine e1.trans ?_;rw[bytesRow_at s _ j hj',qdU];simp[zqM hj']
 ·have e1:=World.cell?_alloc_mark w.drew (bytesRow s (grownCap w s.size 0 e)) e ((bytesRow s (grownCap w s.size 0 e)).size,(bytesRow s (grownCap w s.size 0 e)).size+1) j;have e2:=World.frozen?_alloc_mark w.drew (bytesRow s (grownCap w s.size 0 e)) e (bytesRow s (grownCap w s.size 0 e)).size ((bytesRow s (grownCap w s.size 0 e)).size+1) j;rw[Nat.zero_add];refine⟨?_,?_⟩
  ·refine(congrArg Option.isSome e1).trans ?_;rw[zqM (by omega)];rfl
  ·refine e2.trans ?_;have:¬(bytesRow s (grownCap w s.size 0 e)).size<=j:=by omega
   simp[this]
theorem qbL(w:World)(src dst e:TypeId)(ao:Option Addr)(n cap:Nat)(l:List UInt8)(hs:P.underlying src=some (.slice e))(he:P.underlying e=some (.int .u8))(hd:P.underlying dst=some .string)
  (h:RSl w 1 (.slice ao n cap) n (u8s l)):(convert src dst (.slice ao n cap)).run P w= .ok (.string (tx l)) w:=by
 obtain⟨h1,ao',cap',he',_,_,hc⟩:=h;cases he';rw[qb0,Nat.mul_one]at h1;subst h1;rcases Nat.eq_zero_or_pos l.length with hz|hp
 ·obtain rfl:l=[]:=List.eq_nil_of_length_eq_zero hz;cases ao with
  |none=>exact run_convert_bytes_nil w src e hs he 0 cap dst hd
  |some a=>exact run_convert_bytes_back w src dst e a cap [] hs he hd (fun j hj=>absurd hj (by simp))
 ·obtain⟨g,o,rfl,hc2⟩:=hc hp;refine run_convert_bytes_back w src dst e ⟨g,o,none⟩ cap l hs he hd (fun j hj=>?_);have:=hc2 j (by omega);rw[qdU,zqD hj]at this;simpa[Addr.add_mid]using this
end
theorem OSl.set{w:World}{g o n cap:Nat}{xs:List Value}(h:OSl w 1 (.slice (some ⟨g,o,none⟩) n cap) n xs)(k:Nat)(hk:k<n)(v:Value):
  OSl (w.setCell ⟨g,o+k,none⟩ v) 1 (.slice (some ⟨g,o,none⟩) n cap) n (xs.set k v):=by
 have hl:=h.1;obtain⟨h2,h3,h6,h4,h5⟩:=h.at;refine⟨by simpa using hl,.inr ⟨g,o,cap,rfl,h2,h3,by simpa[World.setCell]using h6,fun j hj=>?_,fun j hj=>?_⟩⟩
 ·by_cases hjk:j=k
  ·subst hjk;obtain⟨u,hu⟩:=Option.isSome_iff_exists.1 (h5 j (by omega)).1;rw[World.cell?_setCell_same _ _ _ hu,zqO (by omega)]
  ·rw[World.cell?_setCell_other _ _ _ _ (by intro hh;simp at hh<;>omega),zqF (by omega)];exact h4 j hj
 ·refine⟨?_,(World.frozen?_setCell _ _ _ _).trans (h5 j hj).2⟩;by_cases hjk:j=k
  ·subst hjk;obtain⟨u,hu⟩:=Option.isSome_iff_exists.1 (h5 j (by omega)).1;rw[World.cell?_setCell_same _ _ _ hu];rfl
  ·rw[World.cell?_setCell_other _ _ _ _ (by intro hh;simp at hh<;>omega)];exact(h5 j hj).1
theorem OSl.cellAt{w:World}{g o n cap:Nat}{l:List UInt8}(h:OSl w 1 (.slice (some ⟨g,o,none⟩) n cap) n (u8s l))(k:Nat)(x:UInt8)(hk:l[k]? =some x):w.cell? ⟨g,o+k,none⟩=some (.int .u8 (x.toNat:Int))/\w.frozen? ⟨g,o+k,none⟩=false:=by
 have hl:=h.1;obtain⟨h2,h3,h6,h4,h5⟩:=h.at;have hkl:=(zqC.1 hk).1;rw[qb0]at hl;refine⟨?_,(h5 k (by omega)).2⟩;rw[h4 k (by omega),qdU,hk];rfl
def lowB(b:UInt8):UInt8:=if 65<=b.toNat/\b.toNat<=90 then UInt8.ofNat (b.toNat+32)else b
def low(l:List UInt8):List UInt8:=l.map lowB
theorem qfa(b:UInt8)(h1:65<=b.toNat)(h2:b.toNat<=90):((lowB b).toNat:Int)=(b.toNat:Int)+32:=by
 rw[lowB,if_pos ⟨h1,h2⟩,UInt8.toNat_ofNat',Nat.mod_eq_of_lt (by omega)];simp
theorem qg7(b:UInt8)(h:¬(65<=b.toNat/\b.toNat<=90)):lowB b=b:=by rw[lowB,if_neg h]
theorem qaF(l:List UInt8):(low l).length=l.length:=by simp[low]
theorem qg6(l:List UInt8)(k:Nat)(x:UInt8)(h:l[k]? =some x):(low (l.take k)++l.drop k).set k (lowB x)=low (l.take (k+1))++l.drop (k+1):=by
 have hk:=(zqC.1 h).1;have hl:(low (l.take k)).length=k:=by rw[qaF,zqJ];omega
 apply List.ext_getElem?;intro j;rw[List.getElem?_set];by_cases hj:k=j
 ·subst hj;have hl2:k<(low (l.take (k+1))).length:=by rw[qaF,zqJ];omega
  rw[if_pos rfl,if_pos (by rw[zqK,hl,zqI];omega),zqA hl2];unfold low;rw[List.getElem?_map,zqG (by omega),h];rfl
 ·rw[if_neg hj];by_cases hlt:j<k
  ·rw[zqA (by omega),zqA (by rw[qaF,zqJ];omega)];unfold low;rw[List.getElem?_map,List.getElem?_map,zqG hlt,zqG (by omega)]
  ·rw[zqB (by omega),zqB (by rw[qaF,zqJ];omega),hl,qaF,zqJ,zqN,zqN];congr 1;omega
theorem qe9(l:List UInt8)(k:Nat)(x:UInt8)(h:l[k]? =some x)(hx:lowB x=x):low (l.take k)++l.drop k=low (l.take (k+1))++l.drop (k+1):=by
 rw[<-qg6 l k x h,hx];have hk:=(zqC.1 h).1;have hl:(low (l.take k)).length=k:=by rw[qaF,zqJ];omega
 apply List.ext_getElem?;intro j;rw[List.getElem?_set];by_cases hj:k=j
 ·subst hj;rw[if_pos rfl,if_pos (by rw[zqK,hl,zqI];omega),zqB (by omega),hl,Nat.sub_self,zqN,Nat.add_zero,h]
 ·rw[if_neg hj]
theorem qmn(l:List UInt8)(k:Nat)(x:UInt8)(h:l[k]? =some x):(low (l.take k)++l.drop k)[k]? =some x:=by
 have hk:=(zqC.1 h).1;have hl:(low (l.take k)).length=k:=by rw[qaF,zqJ];omega
 rw[zqB (by omega),hl,Nat.sub_self,zqN,Nat.add_zero,h]
theorem qlg(s:ByteArray)(k:Nat)(x:UInt8)(h:s.data.toList[k]? =some x)(hk:k<s.size):s[k]'hk=x:=by
 have:=(zqC.1 h).2;rw[Array.getElem_toList]at this;exact this
theorem qcp(s:ByteArray)(a b:Nat):(s.extract a b).data.toList=(s.data.toList.drop a).take (b-a):=Lib.extract_data s a b
theorem qfX(s:ByteArray)(k:Nat)(x:UInt8)(h:s.data.toList[k]? =some x):(s.extract k (k+1)).data.toList=[x]:=by
 rw[qcp,Nat.add_sub_cancel_left];have hk:=(zqC.1 h)
 rw[List.drop_eq_getElem_cons hk.1,hk.2];rfl
theorem qdk(s:ByteArray)(a b:Nat):(s.extract a b).size<=s.size:=by
 rw[<-qad,qcp,zqJ,zqI,<-qad];omega
section
variable {P:Program}
end
theorem qmP{w w2 w3:World}{v v':Value}{H:Nat}(hF:Frm (fun _=>False) w w2)(hv:∀g,v.ownBlock=some g->w.heap.size<=g)(hf:Frm (fun k=>v.ownBlock=some k) w2 w3)(hv':v'.ownBlock=v.ownBlock\/v'.ownBlock=some H)(hH:w.heap.size<=H):
  (∀g,v'.ownBlock=some g->w.heap.size<=g)/\Frm (fun _=>False) w w3:=by
 refine⟨fun g hg=>?_,hF.fresh hf fun i hi h=>absurd (hv i h) (by omega)⟩;rcases hv' with e|e
 ·exact hv g (by rw[<-e];exact hg)
 ·rw[e]at hg;have:=Option.some.inj hg;omega
set_option linter.unnecessarySimpa false
open Go.WideShapes
open Go.Maps (Keyed has)
open Go.ChangeMaps Go.MapKept
structure qn1 (g:Nat) (w w':World):Prop where
 heap:∀b,b≠g->w'.heap[b]? =w.heap[b]?
 size:w'.heap.size=w.heap.size
 os:w'.os=w.os
 tape:w'.tape=w.tape
 output:w'.output=w.output
def qhT:Value->Option (DataW Unit×List MemPlace)
 | .pointer (some ⟨b,0,none⟩)=>some (.lit (.int .u64 b),[])
 | .pointer none=>some (.nil,[])
 |_=>none
theorem ql7{v:Value}{b:Nat}{ps:List MemPlace}(h:qhT v=some (.lit (.int .u64 b),ps)):v= .pointer (some ⟨b,0,none⟩):=by
 unfold qhT at h;split at h
 ·injection h with h;injection h with h _;injection h with h;injection h with _ h;rw[Int.ofNat_inj.1 h]
 ·injection h with h;injection h with h _;cases h
 ·cases h
theorem ql6{v:Value}{ps:List MemPlace}(h:qhT v=some (.nil,ps)):v= .pointer none:=by
 unfold qhT at h;split at h
 ·injection h with h;injection h with h _;cases h
 ·rfl
 ·cases h
def kvAt(kv:List (Int×Nat))(n:Int):Option Nat:=(kv.find? fun p=>p.1==n).map (·.2)
def qec(kv:List (Int×Nat))(n:Int):List (Int×Nat):=kv.filter fun p=>p.1 !=n
def qh8(kv:List (Int×Nat))(n:Int)(i:Nat):List (Int×Nat):=qec kv n++[(n,i)]
def kvN(kv:List (Int×Nat)):Nat:=kv.foldr (fun p m=>max (p.2+1) m) 0
def kvOk(kv:List (Int×Nat)):Prop:=kv.Pairwise fun p q=>p.1≠q.1
theorem qmB:∀{kv:List (Int×Nat)} {p:Int×Nat},p∈kv->p.2<kvN kv
 |q::kv,p,h=>by
  have e:kvN (q::kv)=max (q.2+1) (kvN kv):=rfl;rcases List.mem_cons.1 h with rfl|h
  ·omega
  ·have:=qmB h;omega
theorem qpU{kv:List (Int×Nat)}{N:Nat}(h:∀p∈kv,p.2<N):kvN kv<=N:=by
 induction kv with
 |nil=>exact Nat.zero_le _
 |cons q kv ih=>
  have e:kvN (q::kv)=max (q.2+1) (kvN kv):=rfl;have h1:=h q (List.mem_cons_self ..);have h2:=ih fun p hp=>h p (List.mem_cons_of_mem _ hp);omega
theorem qj2{kv:List (Int×Nat)}{n:Int}{i:Nat}(h:kvAt kv n=some i):(n,i)∈kv:=by
 unfold kvAt at h;cases hf:kv.find? fun p=>p.1==n with
 |none=>rw[hf]at h;cases h
 |some p=>
  rw[hf]at h;have h1:=List.find?_some hf;have h2:=List.mem_of_find?_eq_some hf;simp at h h1;subst h;subst h1;exact h2
theorem qg9(kv:List (Int×Nat))(n m:Int):kvAt (qec kv n) m=if m=n then none else kvAt kv m:=by
 unfold kvAt qec;rw[List.find?_filter];by_cases h:m=n
 ·rw[if_pos h]
  have:(kv.find? fun a=>decide ((a.1 !=n)=true/\(a.1==m)=true))=none:=by
   rw[List.find?_eq_none];intro p _;simp;omega
  rw[this];rfl
 ·rw[if_neg h];congr 2;funext a;by_cases h2:a.1=m
  ·simp[h2,h]
  ·simp[h2]
theorem qj0{kv:List (Int×Nat)}(h:kvOk kv)(n:Int):kvOk (qec kv n):=List.Pairwise.sublist List.filter_sublist h
theorem qoZ{kv:List (Int×Nat)}(h:kvOk kv)(n:Int)(i:Nat):kvOk (qh8 kv n i):=by
 refine List.pairwise_append.2 ⟨qj0 h n,List.pairwise_singleton ..,fun p hp q hq=>?_⟩;simp at hq;subst hq;have:=(List.mem_filter.1 hp).2;simpa using this
theorem qj1(kv:List (Int×Nat))(n m:Int)(i:Nat):kvAt (qh8 kv n i) m=if m=n then some i else kvAt kv m:=by
 unfold qh8
 have e:kvAt (qec kv n++[(n,i)]) m=(kvAt (qec kv n) m).or (kvAt [(n,i)] m):=by
  unfold kvAt;rw[List.find?_append];cases (qec kv n).find? fun p=>p.1==m<;>simp
 rw[e,qg9];by_cases h:m=n
 ·subst h;simp[kvAt]
 ·rw[if_neg h,if_neg h];have:kvAt [(n,i)] m=none:=by simp[kvAt];omega
  rw[this];simp
theorem qh9{kv:List (Int×Nat)}(h:kvOk kv)(n:Int):(qec kv n).length+(if(kvAt kv n).isSome then 1 else 0)=kv.length:=by
 induction kv with
 |nil=>simp[qec,kvAt]
 |cons q kv ih=>
  obtain⟨h1,h2⟩:=List.pairwise_cons.1 h;have ih:=ih h2;unfold qec kvAt at*;rw[List.filter_cons,List.find?_cons];by_cases e:q.1=n
  ·have e1:(q.1==n)=true:=by simpa using e
   have e2:(q.1 !=n)=false:=by simpa using e
   have hno:(kv.find? fun p=>p.1==n)=none:=by
    rw[List.find?_eq_none];intro p hp;have:=h1 p hp;simp;omega
   rw[hno]at ih;rw[e1,e2];simp at ih⊢;omega
  ·have e1:(q.1==n)=false:=by simpa using e
   have e2:(q.1 !=n)=true:=by simpa using e
   rw[e1,e2];simp at ih⊢;omega
def mapM(P:Program)(k:TypeId)(kv:List (Int×Nat))(w:World)(β:Nat->Nat)(v:Value):Prop:=∃g D,v= .map (some g)/\w.ownsMap P k qhT g kv.length D/\Maps.size D=kv.length/\(∀n:Int,has D (.int .i64 n)=(kvAt kv n).isSome)/\∀n i,kvAt kv n=some i->∀z,D.atKey (.int .i64 n) z= .lit (.int .u64 (β i))
theorem qmm{P:Program}{k:TypeId}{kv:List (Int×Nat)}{w w':World}{β β':Nat->Nat}{g:Nat}(h:mapM P k kv w β (.map (some g)))(hg:w'.heap[g]? =w.heap[g]?)(hβ:∀i,i<kvN kv->β' i=β i):mapM P k kv w' β' (.map (some g)):=by
 obtain⟨g',D,hv,h1,h2,h3,h4⟩:=h;cases hv;obtain⟨es,clock,hb,F⟩:=h1;exact⟨g,D,rfl,⟨es,clock,hg.trans hb,F⟩,h2,h3,fun n i hi z=>by rw[hβ i (qmB (qj2 hi))];exact h4 n i hi z⟩
def ptrV(β:Nat->Nat):Option Nat->Value
 |some i=> .pointer (some ⟨β i,0,none⟩)
 |none=> .pointer none
section
variable {P:Program}{k t e:TypeId}{kv:List (Int×Nat)}{w:World}{β:Nat->Nat}{g:Nat}
theorem qoR(h:mapM P k kv w β (.map (some g)))(hk:P.underlying k=some (.int .i64))(ht:P.underlying t=some (.map k e))(hz:(zeroValue e).run P w= .ok (.pointer none) w)(n:Int)(hn: -9223372036854775808<=n/\n<=9223372036854775807):
  (Instr.lookup t (.map (some g)) (.int .i64 n) true).run P w= .ok (.tuple #[ptrV β (kvAt kv n),.bool (kvAt kv n).isSome]) w:=by
 obtain⟨g',D,hv,h1,h2,h3,h4⟩:=h;cases hv;have hwf:(Lit.int .i64 n).wf=true:=by simp[Lit.wf,IntKind.min,IntKind.max,IntKind.signed,IntKind.bits];omega
 obtain⟨v,ps,hrun,hR⟩:=h1.look_ok (Maps.int_keyed hk) ht hz (R:=qhT) (zd:= .nil) (zp:=[]) rfl (Maps.keyOf_int_mk hk hwf);rw[h3 n]at hrun;rw[hrun];cases hc:kvAt kv n with
 |none=>
  have:has D (.int .i64 n)=false:=by rw[h3 n,hc];rfl
  rw[Maps.atKey_of_not_has this]at hR;rw[ql6 hR];rfl
 |some i=>
  rw[h4 n i hc]at hR;rw[ql7 hR];rfl
theorem qqO(h:mapM P k kv w β (.map (some g)))(ht:P.underlying t=some (.map k e))(ty:TypeId):(Builtin.len_ #[t] ty #[.map (some g)]).run P w= .ok (.int .i64 kv.length) w:=by
 obtain⟨g',D,hv,h1,h2,h3,h4⟩:=h;cases hv;rw[h1.len ht ty,h2]
theorem qeY{w':World}(h:w.mapTurned w' g):qn1 g w w':=by
 obtain⟨es,clock,es',clock',hb,rfl⟩:=h;exact⟨fun b hb'=>heap_setBlock_other hb _ hb',by simp[setBlock],rfl,rfl,rfl⟩
theorem qgx{n:Nat}{D:DataW Unit}(h:w.ownsMap P k qhT g n D):w.ownsMap P k qhT g (Maps.size D) D:=by
 obtain⟨es,clock,hb,F,hs,rfl⟩:=h;refine⟨es,clock,hb,F,?_,rfl⟩;simp[Maps.size,length_sorted]
theorem qml(h:mapM P k kv w β (.map (some g)))(hkv:kvOk kv)(hk:P.underlying k=some (.int .i64))(ht:P.underlying t=some (.map k e))(hl:kv.length<maxLen)(n:Int)(hn: -9223372036854775808<=n/\n<=9223372036854775807)(i:Nat):
  ∃w',(Instr.mapUpdate t (.map (some g)) (.int .i64 n) (.pointer (some ⟨β i,0,none⟩))).run P w= .ok () w'/\qn1 g w w'/\mapM P k (qh8 kv n i) w' β (.map (some g)):=by
 obtain⟨g',D,hv,h1,h2,h3,h4⟩:=h;cases hv;have hwf:(Lit.int .i64 n).wf=true:=by simp[Lit.wf,IntKind.min,IntKind.max,IntKind.signed,IntKind.bits];omega
 have K:Keyed P k:=Maps.int_keyed hk;have hT:=h1.tidy K;have hIs:=h1.isMap;obtain⟨w',hrun,ho,ht'⟩:=h1.store (val:= .pointer (some ⟨β i,0,none⟩)) K ht hl (Maps.keyOf_int_mk hk hwf) rfl
 have hlen:Maps.size (D.put (.int .i64 n) (.lit (.int .u64 (β i))))=(qh8 kv n i).length:=by
  rw[Maps.size_put hT,h3 n,h2];have:=qh9 hkv n;unfold qh8;rw[zqK,List.length_singleton];cases hc:kvAt kv n<;>simp[hc]at this⊢<;>omega
 refine⟨w',hrun,qeY ht',g,_,rfl,by rw[<-hlen];exact qgx ho,hlen,fun m=>?_,fun m j hm z=>?_⟩
 ·rw[qj1];by_cases hmn:m=n
  ·subst hmn;rw[if_pos rfl,Maps.has_put_same (k:= .int .i64 m) hIs (by exact trivial)];rfl
  ·rw[if_neg hmn,Maps.has_put_other (fun e=>hmn (by injection e)),h3 m]
 ·rw[qj1]at hm;by_cases hmn:m=n
  ·subst hmn;rw[if_pos rfl]at hm;cases hm;rw[Maps.atKey_put_same (k:= .int .i64 m) hIs (by exact trivial)]
  ·rw[if_neg hmn]at hm;rw[Maps.atKey_put_other (fun e=>hmn (by injection e))];exact h4 m j hm z
theorem map_drop(h:mapM P k kv w β (.map (some g)))(hkv:kvOk kv)(hk:P.underlying k=some (.int .i64))(ht:P.underlying t=some (.map k e))(n:Int)(hn: -9223372036854775808<=n/\n<=9223372036854775807)(ty:TypeId):
  ∃w',(Builtin.delete_ #[t,k] ty #[.map (some g),.int .i64 n]).run P w= .ok (.tuple #[]) w'/\qn1 g w w'/\mapM P k (qec kv n) w' β (.map (some g)):=by
 obtain⟨g',D,hv,h1,h2,h3,h4⟩:=h;cases hv;have hwf:(Lit.int .i64 n).wf=true:=by simp[Lit.wf,IntKind.min,IntKind.max,IntKind.signed,IntKind.bits];omega
 have K:Keyed P k:=Maps.int_keyed hk;have hT:=h1.tidy K;obtain⟨w',hrun,ho,ht'⟩:=h1.drop K ht (Maps.keyOf_int_mk hk hwf) ty
 have hlen:Maps.size (D.del (.int .i64 n))=(qec kv n).length:=by
  have e1:=Maps.size_del (k:= .int .i64 n) hT;have e2:=qh9 hkv n;rw[h3 n,h2]at e1;omega
 refine⟨w',hrun,qeY ht',g,_,rfl,by rw[<-hlen];exact qgx ho,hlen,fun m=>?_,fun m j hm z=>?_⟩
 ·rw[qg9];by_cases hmn:m=n
  ·subst hmn;rw[if_pos rfl,Maps.has_del_same];rfl
  ·rw[if_neg hmn,Maps.has_del_other (fun e=>hmn (by injection e)),h3 m]
 ·rw[qg9]at hm;by_cases hmn:m=n
  ·rw[if_pos hmn]at hm;cases hm
  ·rw[if_neg hmn]at hm;rw[Maps.atKey_del_other (fun e=>hmn (by injection e))];exact h4 m j hm z
end
end Go.Proofs.YtnnhdehmlkkfjaaGreatDoor
