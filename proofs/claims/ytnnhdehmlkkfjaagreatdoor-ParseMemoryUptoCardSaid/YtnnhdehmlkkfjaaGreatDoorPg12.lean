/- Part 12 of the texts below the law. -/
import Derived.Test.YtnnhdehmlkkfjaaGreatDoorPg11
import Derived.Shelf.Vars
import Derived.Test.YtnnhdehmlkkfjaaGreatDoorCards
import Derived.Test.YtnnhdehmlkkfjaaGreatDoorTie
import Derived.Deep.DeepHandedRow
import Derived.Lib.LaidTab
import Derived.ChangeMaps5
import Derived.Lay
import Derived.Stop.LaidErr
import Derived.JoinedCond
set_option maxRecDepth 100000
set_option maxHeartbeats 16000000
set_option linter.unusedVariables false
set_option linter.unusedSimpArgs false
set_option linter.unusedSectionVars false
namespace Go.Proofs.YtnnhdehmlkkfjaaGreatDoor
open Go Go.RowKit
def nwU(a b c d:Int)(i:Nat):Prs:={newP a b c d with used:=i}
def pM(a b c d:Int)(s:List UInt8)(f i:Nat):Prs:={newP a b c d with used:=i,state:=1,nx:=some .method,text:=(s.drop f).take (i-f)}
def pMs(a b c d:Int)(s:List UInt8)(f i:Nat):Prs:=if i=f then nwU a b c d f else pM a b c d s f i
def mX(a b c d:Int)(s:List UInt8)(f i:Nat):Prs:={pM a b c d s f i with nx:=(if i=f then some .start else some .method)}
def pT(a b c d:Int)(s:List UInt8)(M:List UInt8)(f i:Nat):Prs:={newP a b c d with used:=i,state:=1,nx:=some .target,meth:=M,text:=(s.drop f).take (i-f)}
def pL(a b c d:Int)(s:List UInt8)(M T:List UInt8)(f k:Nat):Prs:={newP a b c d with used:=((f+k:Nat):Int),state:=1,nx:=some .line,meth:=M,targ:=T,text:=(s.drop f).take k}
def pF0(a b c d:Int)(M T:List UInt8)(mj mn:Int)(f:Nat):Prs:={newP a b c d with used:=((f+10:Nat):Int),state:=2,nx:=some .fields,meth:=M,targ:=T,major:=mj,minor:=mn,begin_:=((f+10:Nat):Int)}
theorem qjz(s:List UInt8)(f i:Nat)(c:UInt8)(h:f<=i)(hc:s[i]? =some c):(s.drop f).take (i+1-f)=(s.drop f).take (i-f)++[c]:=by
 rw[show i+1-f=(i-f)+1 by omega,List.take_add_one,zqN,show f+(i-f)=i by omega,hc];rfl
theorem qh7(s:List UInt8)(f i:Nat)(h:f<=i)(hi:i<=s.length):((s.drop f).take (i-f)).length=i-f:=by
 rw[zqJ,zqI];omega
theorem qok(s:List UInt8)(f i:Nat)(h:f<i)(hi:i<=s.length):(s.drop f).take (i-f)≠[]:=fun e=>by
 have:=qh7 s f i (by omega) hi;rw[e]at this;simp at this;omega
theorem qps(p:Prs):qbN p .start 13= .go p (some .startEnd):=by
 show qdw p 13=_;unfold qdw;rw[if_pos rfl]
theorem qjD(p:Prs):qbN p .startEnd 10= .go p (some .start):=by
 show qbw p 10=_;unfold qbw;rw[if_neg (by decide)]
theorem qlB(p:Prs)(x:UInt8)(h:x≠10):qbN p .startEnd x= .bad p 400 111 p.used:=by
 show qbw p x=_;unfold qbw qau;rw[if_pos h]
section
variable {q:Prs}{a b c d:Int}{s:List UInt8}{f i:Nat}{x:UInt8}
theorem qsi(h:Fd q s (nwU a b c d i) i)(hc:s[i]? =some 13):Fd q s (adv (nwU a b c d i) (some .startEnd)) (i+1):=Fd.go h hc rfl (qps _)
theorem qsh(h:Fd q s (nwU a b c d i) i)(hc:s[i]? =some 13)(hd:s[i+1]? =some 10):Fd q s (nwU a b c d (i+2)) (i+2):=by
 have h2:=Fd.go (qsi h hc) hd rfl (qjD _);have e:adv (adv (nwU a b c d i) (some .startEnd)) (some .start)=nwU a b c d (i+2):=by simp[adv,nwU,newP];omega
 rwa[e]at h2
theorem fd_crx(h:Fd q s (nwU a b c d i) i)(hc:s[i]? =some 13)(hd:s[i+1]? =some x)(hx:x≠10):qaO (qan q s).1=⟨5,((i+1:Nat):Int)+1,false,.zero,false,400,111,((i+1:Nat):Int)⟩:=by
 rw[Fd.bad (qsi h hc) hd rfl (qlB _ x hx),qbL];rfl
theorem fd_cr(h:Fd q s (nwU a b c d i) i)(hc:s[i]? =some 13)(he:i+1=s.length):qaO (qan q s).1=⟨0,s.length,false,.zero,false,0,0,0⟩:=by
 have h1:=qsi h hc;rw[he]at h1;rw[Fd.fin h1];simp only[qaO,adv,nwU,newP];simp;omega
theorem fd_0(h:Fd q s (nwU a b c d s.length) s.length):qaO (qan q s).1=⟨0,s.length,false,.zero,false,0,0,0⟩:=by
 rw[Fd.fin h];simp[qaO,nwU,newP]
theorem step_m(hf:f<=i)(h13:i=f->x≠13):qbN (pMs a b c d s f i) (if i=f then .start else .method) x=qcy (mX a b c d s f i) x:=by
 unfold pMs mX;by_cases h:i=f
 ·subst h;simp only[if_true];show qdw _ x=_;unfold qdw;rw[if_neg (h13 rfl)];congr 1;unfold nwU pM;simp[newP]
 ·simp only[if_neg h];rfl
theorem pMs_nx:(pMs a b c d s f i).nx=some (if i=f then .start else .method):=by
 unfold pMs;split<;>rfl
theorem qrX:(mX a b c d s f i).text=(s.drop f).take (i-f):=rfl
theorem qsf(h:Fd q s (pMs a b c d s f s.length) s.length)(hf:f<s.length):qaO (qan q s).1=⟨1,s.length,false,.zero,false,0,0,0⟩:=by
 rw[Fd.fin h];unfold pMs;rw[if_neg (by omega)];simp[qaO,pM,newP]
theorem fd_m(h:Fd q s (pMs a b c d s f i) i)(hc:s[i]? =some x)(hf:f<=i)(hi:i<=s.length)(h13:i=f->x≠13):
  (qao x=true->i-f=24->qaO (qan q s).1=⟨5,(i:Int)+1,false,.zero,false,501,110,i⟩)/\
  (qao x=true->i-f≠24->Fd q s (pMs a b c d s f (i+1)) (i+1))/\
  (qao x=false->x=32->f<i->Fd q s (pT a b c d s ((s.drop f).take (i-f)) (i+1) (i+1)) (i+1))/\
  (qao x=false->¬(x=32/\f<i)->qaO (qan q s).1=⟨5,(i:Int)+1,false,.zero,false,400,110,i⟩):=by
 have hn:=pMs_nx (a:=a) (b:=b) (c:=c) (d:=d) (s:=s) (f:=f) (i:=i);have hs:=step_m (a:=a) (b:=b) (c:=c) (d:=d) (s:=s) hf h13;have hl:=qh7 s f i hf hi;unfold qcy at hs;rw[tok1,qrX,hl]at hs;obtain⟨md,hmd⟩:=exz ((if i=f then Md.start else Md.method));rw[hmd]at hn hs;refine⟨fun h1 h2=>?_,fun h1 h2=>?_,fun h1 h2 h3=>?_,fun h1 h2=>?_⟩
 ·rw[if_pos h1,if_pos h2]at hs;unfold qau at hs;rw[Fd.bad h hc hn hs,qbL];rfl
 ·rw[if_pos h1,if_neg h2]at hs;have hg:=Fd.go h hc hn hs
  have e:adv {mX a b c d s f i with text:=(s.drop f).take (i-f)++[x]} (some .method)=pMs a b c d s f (i+1):=by
   unfold pMs;rw[if_neg (by omega),<-qjz s f i x hf hc];simp[adv,mX,pM]
  rwa[e]at hg
 ·rw[if_neg (by rw[h1];simp),if_pos ⟨h2,qok s f i h3 hi⟩]at hs;have hg:=Fd.go h hc hn hs
  have e:adv {mX a b c d s f i with meth:=(s.drop f).take (i-f),text:=[]} (some .target)=pT a b c d s ((s.drop f).take (i-f)) (i+1) (i+1):=by
   simp[adv,mX,pM,pT]
  rwa[e]at hg
 ·rw[if_neg (by rw[h1];simp),if_neg (fun e=>h2 ⟨e.1,by
   rcases Nat.lt_or_ge f i with h|h
   ·exact h
   ·exact absurd (by rw[show i-f=0 by omega];rfl) e.2⟩)]at hs
  unfold qau at hs;rw[Fd.bad h hc hn hs,qbL];rfl
theorem qse{M:List UInt8}(h:Fd q s (pT a b c d s M f s.length) s.length):qaO (qan q s).1=⟨1,s.length,false,.zero,false,0,0,0⟩:=by
 rw[Fd.fin h];simp[qaO,pT,newP]
theorem fd_t{M:List UInt8}(h:Fd q s (pT a b c d s M f i) i)(hc:s[i]? =some x)(hf:f<=i)(hi:i<=s.length):
  (33<=x.toNat/\x.toNat<=126->((i-f:Nat):Int)=a->qaO (qan q s).1=⟨5,(i:Int)+1,false,.zero,false,414,112,i⟩)/\
  (33<=x.toNat/\x.toNat<=126->((i-f:Nat):Int)≠a->Fd q s (pT a b c d s M f (i+1)) (i+1))/\
  (¬(33<=x.toNat/\x.toNat<=126)->x=32->f<i->Fd q s (pL a b c d s M ((s.drop f).take (i-f)) (i+1) 0) (i+1))/\
  (¬(33<=x.toNat/\x.toNat<=126)->¬(x=32/\f<i)->qaO (qan q s).1=⟨5,(i:Int)+1,false,.zero,false,400,111,i⟩):=by
 have hn:(pT a b c d s M f i).nx=some .target:=rfl;have hs:qbN (pT a b c d s M f i) .target x=qda (pT a b c d s M f i) x:=rfl;have hl:=qh7 s f i hf hi;have ht:(pT a b c d s M f i).text=(s.drop f).take (i-f):=rfl;unfold qda at hs;rw[ht,hl]at hs;refine⟨fun h1 h2=>?_,fun h1 h2=>?_,fun h1 h2 h3=>?_,fun h1 h2=>?_⟩
 ·rw[if_pos h1,if_pos (show((i-f:Nat):Int)=(pT a b c d s M f i).lt from h2)]at hs;unfold qau at hs;rw[Fd.bad h hc hn hs,qbL];rfl
 ·rw[if_pos h1,if_neg (show ¬((i-f:Nat):Int)=(pT a b c d s M f i).lt from h2)]at hs;have hg:=Fd.go h hc hn hs
  have e:adv {pT a b c d s M f i with text:=(s.drop f).take (i-f)++[x]} (some .target)=pT a b c d s M f (i+1):=by
   rw[<-qjz s f i x hf hc];simp[adv,pT]
  rwa[e]at hg
 ·rw[if_neg h1,if_pos ⟨h2,qok s f i h3 hi⟩]at hs;have hg:=Fd.go h hc hn hs
  have e:adv {pT a b c d s M f i with targ:=(s.drop f).take (i-f),text:=[]} (some .line)=pL a b c d s M ((s.drop f).take (i-f)) (i+1) 0:=by
   simp[adv,pT,pL]
  rwa[e]at hg
 ·rw[if_neg h1,if_neg (fun e=>h2 ⟨e.1,by
   rcases Nat.lt_or_ge f i with h|h
   ·exact h
   ·exact absurd (by rw[show i-f=0 by omega];rfl) e.2⟩)]at hs
  unfold qau at hs;rw[Fd.bad h hc hn hs,qbL];rfl
theorem qsg{M T:List UInt8}{k:Nat}(h:Fd q s (pL a b c d s M T f k) s.length)(hk:f+k=s.length):qaO (qan q s).1=⟨1,s.length,false,.zero,false,0,0,0⟩:=by
 rw[Fd.fin h];simp[qaO,pL,newP];omega
theorem fd_l{M T:List UInt8}{k:Nat}(h:Fd q s (pL a b c d s M T f k) (f+k))(hc:s[f+k]? =some x)(hk:k<=9):
  (qaI k x=false->qaO (qan q s).1=⟨5,((f+k:Nat):Int)+1,false,.zero,false,400,111,((f+k:Nat):Int)⟩)/\
  (qaI k x=true->k<9->Fd q s (pL a b c d s M T f (k+1)) (f+(k+1)))/\
  (∀mj mn y z,qaI k x=true->k=9->s[f+5]? =some y->s[f+7]? =some z->(y.toNat:Int)-48=mj->(z.toNat:Int)-48=mn->
   (mj≠1\/1<mn->qaO (qan q s).1=⟨5,((f+9:Nat):Int)+1,false,.zero,false,505,117,((f+9:Nat):Int)⟩)/\
   (¬(mj≠1\/1<mn)->tgtE M T≠0->qaO (qan q s).1=⟨5,((f+9:Nat):Int)+1,false,.zero,false,400,tgtE M T,((f+9:Nat):Int)⟩)/\
   (¬(mj≠1\/1<mn)->tgtE M T=0->Fd q s (pF0 a b c d M T mj mn f) (f+10))):=by
 have hn:(pL a b c d s M T f k).nx=some .line:=rfl;have hs:qbN (pL a b c d s M T f k) .line x=qcR (pL a b c d s M T f k) x:=rfl;have hlt:f+k<s.length:=(zqC.1 hc).1;have hl:((s.drop f).take k).length=k:=by rw[zqJ,zqI];omega
 have ht:(pL a b c d s M T f k).text=(s.drop f).take k:=rfl;have hu:(pL a b c d s M T f k).used=((f+k:Nat):Int):=rfl;unfold qcR at hs;simp only[ht,hl]at hs;refine⟨fun h1=>?_,fun h1 h2=>?_,fun mj mn y z h1 h2 hy hz hmj hmn=>?_⟩
 ·rw[if_pos h1]at hs;unfold qau at hs;rw[Fd.bad h hc hn hs,qbL];rfl
 ·rw[if_neg (by rw[h1];simp),if_pos h2]at hs;have hg:=Fd.go h hc hn hs
  have e:adv {pL a b c d s M T f k with text:=(s.drop f).take k++[x]} (some .line)=pL a b c d s M T f (k+1):=by
   have:=qjz s f (f+k) x (by omega) hc;rw[show f+k+1-f=k+1 by omega,show f+k-f=k by omega]at this;rw[<-this];simp[adv,pL];omega
  rwa[e]at hg
 ·subst h2;rw[if_neg (by rw[h1];simp),if_neg (by omega)]at hs;have g5:((s.drop f).take 9).getD 5 0=y:=by rw[List.getD_eq_getElem?_getD,zqG (by omega),zqN,hy];rfl
  have g7:((s.drop f).take 9).getD 7 0=z:=by rw[List.getD_eq_getElem?_getD,zqG (by omega),zqN,hz];rfl
  rw[g5,g7,hmj,hmn]at hs;refine⟨fun h3=>?_,fun h3 h4=>?_,fun h3 h4=>?_⟩
  ·rw[if_pos h3]at hs;unfold qau at hs;rw[Fd.bad h hc hn hs,qbL];rfl
  ·rw[if_neg h3]at hs;have h4':tgtE (pL a b c d s M T f 9).meth (pL a b c d s M T f 9).targ≠0:=h4;rw[if_pos h4']at hs;unfold qau at hs;rw[Fd.bad h hc hn hs,qbL];rfl
  ·rw[if_neg h3]at hs;have h4':¬tgtE (pL a b c d s M T f 9).meth (pL a b c d s M T f 9).targ≠0:=fun e=>e h4;rw[if_neg h4']at hs;have hg:=Fd.go h hc hn hs
   have e:adv {({pL a b c d s M T f 9 with text:=[],major:=mj,minor:=mn}:Prs)with state:=2,begin_:=(pL a b c d s M T f 9).used+1} (some .fields)=pF0 a b c d M T mj mn f:=by
    have hu9:(pL a b c d s M T f 9).used+1=((f+10:Nat):Int):=by rw[hu];omega
    unfold adv;simp only[hu9];rfl
   rw[show f+9+1=f+10 by omega]at hg;rwa[e]at hg
end
section
open Go.Lib
variable (E:Env){H:Hp}(Q:AV->Hp->Prop)
def daI1(q:Prs)(a b c d:Int)(s:List UInt8)(H:Hp)(fr:List AV)(K:Hp):Prop:=∃i:Nat,i<=s.length/\Fd q s (nwU a b c d i) i/\K=H++[[.int .i64 a,.int .i64 b,.int .i64 c,.int .i64 d],[.int .i64 0,.int .i64 0,.bool false,.str [],.str [],.int .i64 0,.int .i64 0,.nil,.str [],.nil,.bool false,.int .i64 0,.int .i64 0,.int .i64 0]]/\
 ∃x:Nat->AV,fr=[x 0,.str s,.ptr (some (H.length,0)),x 3,.ptr (some (H.length+1,0)),.int .i64 (i:Int),x 6,x 7,x 8,x 9,x 10,x 11,x 12,x 13,x 14,x 15,x 16,x 17,x 18,x 19,x 20,x 21,x 22,x 23,x 24,x 25,x 26,x 27,x 28,x 29,x 30,x 31,x 32,x 33,x 34,x 35,x 36,x 37,x 38,x 39,x 40,x 41,x 42,x 43,x 44,x 45,x 46,x 47,x 48,x 49,x 50,x 51,x 52,x 53,x 54,x 55,x 56,x 57,x 58,x 59,x 60,x 61,x 62,x 63,x 64,x 65,x 66,x 67,x 68,x 69,x 70,x 71,x 72,x 73,x 74,x 75,x 76,x 77,x 78,x 79,x 80,x 81,x 82,x 83,x 84,x 85,x 86,x 87,x 88,x 89,x 90,x 91,x 92,x 93,x 94,x 95,x 96,x 97,x 98,x 99,x 100,x 101,x 102,x 103,x 104,x 105,x 106,x 107,x 108,x 109,x 110,x 111,x 112,x 113,x 114,x 115,x 116,x 117,x 118,x 119,x 120,x 121,x 122,x 123,x 124,x 125,x 126,x 127,x 128,x 129,x 130,x 131,x 132,x 133,x 134,x 135,x 136,x 137,x 138,x 139,x 140,x 141,x 142,x 143,x 144,x 145,x 146,x 147,x 148,x 149,x 150,x 151,x 152,x 153,x 154,x 155,x 156,x 157,x 158,x 159,x 160,x 161,x 162,x 163,x 164,x 165,x 166,x 167,x 168,x 169,x 170,x 171,x 172,x 173,x 174,x 175,x 176,x 177,x 178,x 179,x 180,x 181,x 182,x 183,x 184,x 185,x 186,x 187,x 188,x 189,x 190,x 191,x 192,x 193,x 194,x 195,x 196,x 197,x 198,x 199,x 200,x 201,x 202,x 203,x 204,x 205]
def daI2(q:Prs)(a b c d:Int)(s:List UInt8)(f:Nat)(H:Hp)(fr:List AV)(K:Hp):Prop:=∃i:Nat,f<=i/\i<=s.length/\i-f<=24/\Fd q s (pMs a b c d s f i) i/\K=H++[[.int .i64 a,.int .i64 b,.int .i64 c,.int .i64 d],[.int .i64 0,.int .i64 0,.bool false,.str [],.str [],.int .i64 0,.int .i64 0,.nil,.str [],.nil,.bool false,.int .i64 0,.int .i64 0,.int .i64 0],[.str [],.str [],.int .i64 0,.int .i64 0,.nil,.str [],.nil]]/\
 ∃x:Nat->AV,fr=[x 0,.str s,.ptr (some (H.length,0)),x 3,.ptr (some (H.length+1,0)),.int .i64 (i:Int),.ptr (some (H.length+2,0)),.int .i64 (f:Int),x 8,x 9,x 10,x 11,x 12,x 13,x 14,x 15,x 16,x 17,x 18,x 19,x 20,x 21,x 22,x 23,x 24,x 25,x 26,x 27,x 28,x 29,x 30,x 31,x 32,x 33,x 34,x 35,x 36,x 37,x 38,x 39,x 40,x 41,x 42,x 43,x 44,x 45,x 46,x 47,x 48,x 49,x 50,x 51,x 52,x 53,x 54,x 55,x 56,x 57,x 58,x 59,x 60,x 61,x 62,x 63,x 64,x 65,x 66,x 67,x 68,x 69,x 70,x 71,x 72,x 73,x 74,x 75,x 76,x 77,x 78,x 79,x 80,x 81,x 82,x 83,x 84,x 85,x 86,x 87,x 88,x 89,x 90,x 91,x 92,x 93,x 94,x 95,x 96,x 97,x 98,x 99,x 100,x 101,x 102,x 103,x 104,x 105,x 106,x 107,x 108,x 109,x 110,x 111,x 112,x 113,x 114,x 115,x 116,x 117,x 118,x 119,x 120,x 121,x 122,x 123,x 124,x 125,x 126,x 127,x 128,x 129,x 130,x 131,x 132,x 133,x 134,x 135,x 136,x 137,x 138,x 139,x 140,x 141,x 142,x 143,x 144,x 145,x 146,x 147,x 148,x 149,x 150,x 151,x 152,x 153,x 154,x 155,x 156,x 157,x 158,x 159,x 160,x 161,x 162,x 163,x 164,x 165,x 166,x 167,x 168,x 169,x 170,x 171,x 172,x 173,x 174,x 175,x 176,x 177,x 178,x 179,x 180,x 181,x 182,x 183,x 184,x 185,x 186,x 187,x 188,x 189,x 190,x 191,x 192,x 193,x 194,x 195,x 196,x 197,x 198,x 199,x 200,x 201,x 202,x 203,x 204,x 205]
def daI3(q:Prs)(a b c d:Int)(s M:List UInt8)(f:Nat)(H:Hp)(fr:List AV)(K:Hp):Prop:=∃i:Nat,f<=i/\i<=s.length/\((i-f:Nat):Int)<=a/\Fd q s (pT a b c d s M f i) i/\K=H++[[.int .i64 a,.int .i64 b,.int .i64 c,.int .i64 d],[.int .i64 0,.int .i64 0,.bool false,.str [],.str [],.int .i64 0,.int .i64 0,.nil,.str [],.nil,.bool false,.int .i64 0,.int .i64 0,.int .i64 0],[.str M,.str [],.int .i64 0,.int .i64 0,.nil,.str [],.nil]]/\
 ∃x:Nat->AV,fr=[x 0,.str s,.ptr (some (H.length,0)),x 3,.ptr (some (H.length+1,0)),.int .i64 (i:Int),.ptr (some (H.length+2,0)),.int .i64 (f:Int),x 8,x 9,x 10,x 11,x 12,x 13,x 14,x 15,x 16,x 17,x 18,x 19,x 20,x 21,x 22,x 23,x 24,x 25,x 26,x 27,x 28,x 29,x 30,x 31,x 32,x 33,x 34,x 35,x 36,x 37,x 38,x 39,x 40,x 41,x 42,x 43,x 44,x 45,x 46,x 47,x 48,x 49,x 50,x 51,x 52,x 53,x 54,x 55,x 56,x 57,x 58,x 59,x 60,x 61,x 62,x 63,x 64,x 65,x 66,x 67,x 68,x 69,x 70,x 71,x 72,x 73,x 74,x 75,x 76,x 77,x 78,x 79,x 80,x 81,x 82,x 83,x 84,x 85,x 86,x 87,x 88,x 89,x 90,x 91,x 92,x 93,x 94,x 95,x 96,x 97,x 98,x 99,x 100,x 101,x 102,x 103,x 104,x 105,x 106,x 107,x 108,x 109,x 110,x 111,x 112,x 113,x 114,x 115,x 116,x 117,x 118,x 119,x 120,x 121,x 122,x 123,x 124,x 125,x 126,x 127,x 128,x 129,x 130,x 131,x 132,x 133,x 134,x 135,x 136,x 137,x 138,x 139,x 140,x 141,x 142,x 143,x 144,x 145,x 146,x 147,x 148,x 149,x 150,x 151,x 152,x 153,x 154,x 155,x 156,x 157,x 158,x 159,x 160,x 161,x 162,x 163,x 164,x 165,x 166,x 167,x 168,x 169,x 170,x 171,x 172,x 173,x 174,x 175,x 176,x 177,x 178,x 179,x 180,x 181,x 182,x 183,x 184,x 185,x 186,x 187,x 188,x 189,x 190,x 191,x 192,x 193,x 194,x 195,x 196,x 197,x 198,x 199,x 200,x 201,x 202,x 203,x 204,x 205]
def daI4(q:Prs)(a b c d:Int)(s M T:List UInt8)(f:Nat)(H:Hp)(fr:List AV)(K:Hp):Prop:=∃k m:Nat,k<=10/\(k<=9->m=k)/\m<=9/\f+k<=s.length/\Fd q s (pL a b c d s M T f m) (f+m)/\(k=10->m=9)/\(∀j,j<k->∃x,s[f+j]? =some x/\qaI j x=true)/\K=H++[[.int .i64 a,.int .i64 b,.int .i64 c,.int .i64 d],[.int .i64 0,.int .i64 0,.bool false,.str [],.str [],.int .i64 0,.int .i64 0,.nil,.str [],.nil,.bool false,.int .i64 0,.int .i64 0,.int .i64 0],[.str M,.str T,.int .i64 0,.int .i64 0,.nil,.str [],.nil]]/\
 ∃x:Nat->AV,fr=[x 0,.str s,.ptr (some (H.length,0)),x 3,.ptr (some (H.length+1,0)),.int .i64 ((f+k:Nat):Int),.ptr (some (H.length+2,0)),.int .i64 (f:Int),.int .i64 (k:Int),x 9,x 10,x 11,x 12,x 13,x 14,x 15,x 16,x 17,x 18,x 19,x 20,x 21,x 22,x 23,x 24,x 25,x 26,x 27,x 28,x 29,x 30,x 31,x 32,x 33,x 34,x 35,x 36,x 37,x 38,x 39,x 40,x 41,x 42,x 43,x 44,x 45,x 46,x 47,x 48,x 49,x 50,x 51,x 52,x 53,x 54,x 55,x 56,x 57,x 58,x 59,x 60,x 61,x 62,x 63,x 64,x 65,x 66,x 67,x 68,x 69,x 70,x 71,x 72,x 73,x 74,x 75,x 76,x 77,x 78,x 79,x 80,x 81,x 82,x 83,x 84,x 85,x 86,x 87,x 88,x 89,x 90,x 91,x 92,x 93,x 94,x 95,x 96,x 97,x 98,x 99,x 100,x 101,x 102,x 103,x 104,x 105,x 106,x 107,x 108,x 109,x 110,x 111,x 112,x 113,x 114,x 115,x 116,x 117,x 118,x 119,x 120,x 121,x 122,x 123,x 124,x 125,x 126,x 127,x 128,x 129,x 130,x 131,x 132,x 133,x 134,x 135,x 136,x 137,x 138,x 139,x 140,x 141,x 142,x 143,x 144,x 145,x 146,x 147,x 148,x 149,x 150,x 151,x 152,x 153,x 154,x 155,x 156,x 157,x 158,x 159,x 160,x 161,x 162,x 163,x 164,x 165,x 166,x 167,x 168,x 169,x 170,x 171,x 172,x 173,x 174,x 175,x 176,x 177,x 178,x 179,x 180,x 181,x 182,x 183,x 184,x 185,x 186,x 187,x 188,x 189,x 190,x 191,x 192,x 193,x 194,x 195,x 196,x 197,x 198,x 199,x 200,x 201,x 202,x 203,x 204,x 205]
theorem wrap8{z:Int}(h1:0<=z)(h2:z<=255):IntKind.u8.wrap z=z:=by rw[IntKind.wrap_u8];omega
theorem qn9{k:Nat}{x:UInt8}(hk:k=5\/k=7)(h:qaI k x=true):48<=x.toNat/\x.toNat<=57:=by
 rcases hk with rfl|rfl<;>simpa[qaI]using h
theorem dat_pc(a b c d:Int)(h0:chkE a b c d=0)(s:List UInt8)(hl:s.length<=4194304)(hQ:Q (qaO (qan (newP a b c d) s).1).av H):
  PC Tryz.prog E 31 [limV a b c d,.str s] H Q:=by
 refine qac Tryz.func31 rfl [] [] (by kernel_rfl) (fun hB=>?_);obtain⟨hla,hlb,hlc,hld⟩:=qon h0;obtain⟨q,hq⟩:=exz (newP a b c d);rw[hq]at hQ;have fin:∀x:Lk,qaO (qan q s).1=x->Q x.av H:=fun x hx=>hx▸hQ;clear hQ;simp[Tryz.ntmps31,Tryz.results31,List.replicate_succ,limV];refine qaB (daI1 q a b c d s H) (fun fr _=>s.length-(ai (aget fr 5)).toNat) ⟨0,by omega,by have:=Fd.refl q s;rw[<-hq]at this⊢;exact this,by simp,friz⟩ ?_;rintro fr K ⟨i,hi,hFd,rfl,x,rfl⟩;by_cases hlt:i<s.length;rotate_left
 ·obtain rfl:i=s.length:=by omega
  have hx:=fd_0 hFd;simp[];refine qdV E _ 0 s ?_;simp[Lk.av,Rq.avs,Rq.zero,flds];exact qab (v0:=Lk.av ⟨0,(s.length:Int),false,.zero,false,0,0,0⟩) (v:=Lk.av ⟨0,(s.length:Int),false,.zero,false,0,0,0⟩) hB (by simp[Lk.av,Rq.avs,Rq.zero,flds]) (qaa _) (Lk.bnd ⟨0,(s.length:Int),false,.zero,false,0,0,0⟩ _) (fin ⟨0,(s.length:Int),false,.zero,false,0,0,0⟩ hx)
 obtain⟨y,hy⟩:∃y,s[i]? =some y:=⟨_,zqD hlt⟩
 have la:=qap hy;have hli:(i:Int)<s.length:=by omega
 have hne:((i:Int)==(s.length:Int))=false:=by rw[beq_eq_false_iff_ne];omega
 have w1:IntKind.i64.wrap ((i:Int)+1)=((i+1:Nat):Int):=wiz;by_cases h13:y=13
 ·subst h13;by_cases he:i+1=s.length
  ·have hx:=fd_cr hFd hy he;have he':(((i+1:Nat):Int)==((s.length:Nat):Int))=true:=by rw[beq_iff_eq];omega
   simp[hlt,la,w1,he',-Int.natCast_add];refine qdV E _ 0 s ?_;simp[Lk.av,Rq.avs,Rq.zero,flds];exact qab (v0:=Lk.av ⟨0,(s.length:Int),false,.zero,false,0,0,0⟩) (v:=Lk.av ⟨0,(s.length:Int),false,.zero,false,0,0,0⟩) hB (by simp[Lk.av,Rq.avs,Rq.zero,flds]) (qaa _) (Lk.bnd ⟨0,(s.length:Int),false,.zero,false,0,0,0⟩ _) (fin ⟨0,(s.length:Int),false,.zero,false,0,0,0⟩ hx)
  obtain⟨z,hz⟩:∃z,s[i+1]? =some z:=⟨_,zqD (by omega)⟩
  have lz:=qap hz;have he':(((i+1:Nat):Int)==((s.length:Nat):Int))=false:=by rw[beq_eq_false_iff_ne];omega
  by_cases h10:z=10
  ·subst h10;have w2:IntKind.i64.wrap ((i:Int)+2)=((i+2:Nat):Int):=wiz;have hg:=qsh hFd hy hz;simp[hlt,la,w1,he',lz,w2,-Int.natCast_add];exact Klz ⟨i+2,by have:=(zqC.1 hz).1;omega,hg,rfl,friz⟩
  ·have b1:=(qaw z 10 (by decide) 10 rfl h10).1;have b2:=(qaw z 10 (by decide) 10 rfl h10).2;have hx:=fd_crx hFd hy hz h10;simp[hlt,la,w1,he',lz,b1,b2,-Int.natCast_add];refine qat E _ 400 111 ((i+1:Nat):Int) ((i+1:Nat):Int) (by omega) (by omega) ?_;simp[Lk.av,Rq.avs,Rq.zero,flds,-Int.natCast_add];exact qab (v0:=Lk.av ⟨5,((i+1:Nat):Int)+1,false,.zero,false,400,111,((i+1:Nat):Int)⟩) (v:=Lk.av ⟨5,((i+1:Nat):Int)+1,false,.zero,false,400,111,((i+1:Nat):Int)⟩) hB (by simp[Lk.av,Rq.avs,Rq.zero,flds]) (qaa _) (Lk.bnd ⟨5,((i+1:Nat):Int)+1,false,.zero,false,400,111,((i+1:Nat):Int)⟩ _) (fin ⟨5,((i+1:Nat):Int)+1,false,.zero,false,400,111,((i+1:Nat):Int)⟩ hx)
 have b1:=(qaw y 13 (by decide) 13 rfl h13).1;simp[hlt,la,b1,hne];have h13f:s[i]? ≠some 13:=by rw[hy];simpa using h13
 refine qaB (daI2 q a b c d s i H) (fun fr _=>s.length-(ai (aget fr 5)).toNat) ⟨i,by omega,by omega,by omega,by unfold pMs;rw[if_pos rfl];exact hFd,by simp,friz⟩ ?_;clear hFd hy la hli hne w1 b1 h13 hi;obtain⟨f,hf⟩:∃f,f=i:=⟨i,rfl⟩
 rw[<-hf]at hlt h13f⊢;clear hf i y x;have hfl:=hlt;clear hlt;rintro fr K ⟨i,hfi,hi,hi24,hFd,rfl,x,rfl⟩;by_cases hlt:i<s.length;rotate_left
 ·obtain rfl:i=s.length:=by omega
  have hx:=qsf hFd hfl;simp[];refine qdV E _ 1 s ?_;simp[Lk.av,Rq.avs,Rq.zero,flds];exact qab (v0:=Lk.av ⟨1,(s.length:Int),false,.zero,false,0,0,0⟩) (v:=Lk.av ⟨1,(s.length:Int),false,.zero,false,0,0,0⟩) hB (by simp[Lk.av,Rq.avs,Rq.zero,flds]) (qaa _) (Lk.bnd ⟨1,(s.length:Int),false,.zero,false,0,0,0⟩ _) (fin ⟨1,(s.length:Int),false,.zero,false,0,0,0⟩ hx)
 obtain⟨y,hy⟩:∃y,s[i]? =some y:=⟨_,zqD hlt⟩
 have la:=qap hy;have hne:((i:Int)==(s.length:Int))=false:=by rw[beq_eq_false_iff_ne];omega
 have w1:IntKind.i64.wrap ((i:Int)+1)=((i+1:Nat):Int):=wiz;have w0:IntKind.i64.wrap ((i:Int)-f)=((i-f:Nat):Int):=by rw[qah (by omega) (by omega)];omega
 obtain⟨m1,m2,m3,m4⟩:=fd_m hFd hy hfi hi (fun e=>by subst e;intro e;rw[e]at hy;exact h13f hy);obtain⟨sg,hsg⟩:=exz (qao y);rw[hsg]at m1 m2 m3 m4;by_cases h32:y=32;rotate_left
 ·have b1:=(qaw y 32 (by decide) 32 rfl h32).1;simp[hne,la,b1];refine qg2 E _ _ y ?_;rw[hsg];cases sg with
  |false=>
   have hx:=m4 rfl (fun e=>h32 e.1);simp[];refine qat E _ 400 110 (i:Int) (i:Int) (by omega) (by omega) ?_;simp[Lk.av,Rq.avs,Rq.zero,flds,-Int.natCast_add];exact qab (v0:=Lk.av ⟨5,(i:Int)+1,false,.zero,false,400,110,(i:Int)⟩) (v:=Lk.av ⟨5,(i:Int)+1,false,.zero,false,400,110,(i:Int)⟩) hB (by simp[Lk.av,Rq.avs,Rq.zero,flds]) (qaa _) (Lk.bnd ⟨5,(i:Int)+1,false,.zero,false,400,110,(i:Int)⟩ _) (fin ⟨5,(i:Int)+1,false,.zero,false,400,110,(i:Int)⟩ hx)
  |true=>
   by_cases h24:i-f=24
   ·have hx:=m1 rfl h24;have hge:(24:Int)<=((i-f:Nat):Int):=by omega
    have hge2:24<=i-f:=by omega
    simp[w0,hge,hge2];refine qat E _ 501 110 (i:Int) (i:Int) (by omega) (by omega) ?_;simp[Lk.av,Rq.avs,Rq.zero,flds,-Int.natCast_add];exact qab (v0:=Lk.av ⟨5,(i:Int)+1,false,.zero,false,501,110,(i:Int)⟩) (v:=Lk.av ⟨5,(i:Int)+1,false,.zero,false,501,110,(i:Int)⟩) hB (by simp[Lk.av,Rq.avs,Rq.zero,flds]) (qaa _) (Lk.bnd ⟨5,(i:Int)+1,false,.zero,false,501,110,(i:Int)⟩ _) (fin ⟨5,(i:Int)+1,false,.zero,false,501,110,(i:Int)⟩ hx)
   ·have hg:=m2 rfl h24;have hge:¬(24:Int)<=((i-f:Nat):Int):=by omega
    have hge2:¬24<=i-f:=by omega
    simp[w0,hge,hge2,w1,-Int.natCast_add];exact Klz ⟨i+1,by omega,by omega,by omega,hg,rfl,friz⟩
 subst h32;have e32:sg=false:=by rw[<-hsg];decide
 by_cases hsp:f<i;rotate_left
 ·have hgt:¬(f:Int)<i:=by omega
  have hx:=m4 e32 (fun e=>hsp e.2);simp[hne,la,hsp];refine qg2 E _ _ 32 ?_;rw[hsg,e32];simp[];refine qat E _ 400 110 (i:Int) (i:Int) (by omega) (by omega) ?_;simp[Lk.av,Rq.avs,Rq.zero,flds,-Int.natCast_add];exact qab (v0:=Lk.av ⟨5,(i:Int)+1,false,.zero,false,400,110,(i:Int)⟩) (v:=Lk.av ⟨5,(i:Int)+1,false,.zero,false,400,110,(i:Int)⟩) hB (by simp[Lk.av,Rq.avs,Rq.zero,flds]) (qaa _) (Lk.bnd ⟨5,(i:Int)+1,false,.zero,false,400,110,(i:Int)⟩ _) (fin ⟨5,(i:Int)+1,false,.zero,false,400,110,(i:Int)⟩ hx)
 have hg:=m3 e32 rfl hsp;obtain⟨M,hM⟩:=exz ((s.drop f).take (i-f));rw[hM]at hg;have hMl:M.length<=24:=by rw[<-hM,zqJ];omega
 simp[hne,la,hsp,w1,hfi,hi,hM,-Int.natCast_add];refine qaB (daI3 q a b c d s M (i+1) H) (fun fr _=>s.length-(ai (aget fr 5)).toNat) ⟨i+1,by omega,by omega,by omega,hg,by simp,friz⟩ ?_;clear hg m1 m2 m3 m4 hM w1 w0 hne la hy hFd hsg e32 hi24 h13f hfl;obtain⟨g,hgi⟩:∃g,g=i+1:=⟨_,rfl⟩
 rw[<-hgi];clear hgi hsp hfi hi hlt f i x;obtain⟨f,hff⟩:∃f,f=g:=⟨_,rfl⟩
 rw[<-hff];clear hff g;rintro fr K ⟨i,hfi,hi,hia,hFd,rfl,x,rfl⟩;by_cases hlt:i<s.length;rotate_left
 ·obtain rfl:i=s.length:=by omega
  have hx:=qse hFd;simp[];refine qdV E _ 1 s ?_;simp[Lk.av,Rq.avs,Rq.zero,flds];exact qab (v0:=Lk.av ⟨1,(s.length:Int),false,.zero,false,0,0,0⟩) (v:=Lk.av ⟨1,(s.length:Int),false,.zero,false,0,0,0⟩) hB (by simp[Lk.av,Rq.avs,Rq.zero,flds]) (qaa _) (Lk.bnd ⟨1,(s.length:Int),false,.zero,false,0,0,0⟩ _) (fin ⟨1,(s.length:Int),false,.zero,false,0,0,0⟩ hx)
 obtain⟨y,hy⟩:∃y,s[i]? =some y:=⟨_,zqD hlt⟩
 have la:=qap hy;have hne:((i:Int)==(s.length:Int))=false:=by rw[beq_eq_false_iff_ne];omega
 have w1:IntKind.i64.wrap ((i:Int)+1)=((i+1:Nat):Int):=wiz;have w0:IntKind.i64.wrap ((i:Int)-f)=((i-f:Nat):Int):=by rw[qah (by omega) (by omega)];omega
 obtain⟨m1,m2,m3,m4⟩:=fd_t hFd hy hfi hi;by_cases h32:y=32;rotate_left
 ·have b1:=(qaw y 32 (by decide) 32 rfl h32).1;by_cases h33:y.toNat<33
  ·have i33:(y.toNat:Int)<33:=by omega
   have hx:=m4 (by omega) (fun e=>h32 e.1);simp[hne,la,b1,i33];refine qat E _ 400 111 (i:Int) (i:Int) (by omega) (by omega) ?_;simp[Lk.av,Rq.avs,Rq.zero,flds,-Int.natCast_add];exact qab (v0:=Lk.av ⟨5,(i:Int)+1,false,.zero,false,400,111,(i:Int)⟩) (v:=Lk.av ⟨5,(i:Int)+1,false,.zero,false,400,111,(i:Int)⟩) hB (by simp[Lk.av,Rq.avs,Rq.zero,flds]) (qaa _) (Lk.bnd ⟨5,(i:Int)+1,false,.zero,false,400,111,(i:Int)⟩ _) (fin ⟨5,(i:Int)+1,false,.zero,false,400,111,(i:Int)⟩ hx)
  have j33:¬(y.toNat:Int)<33:=by omega
  by_cases h126:126<y.toNat
  ·have i126:(126:Int)<y.toNat:=by omega
   have hx:=m4 (by omega) (fun e=>h32 e.1);simp[hne,la,b1,j33,i126];refine qat E _ 400 111 (i:Int) (i:Int) (by omega) (by omega) ?_;simp[Lk.av,Rq.avs,Rq.zero,flds,-Int.natCast_add];exact qab (v0:=Lk.av ⟨5,(i:Int)+1,false,.zero,false,400,111,(i:Int)⟩) (v:=Lk.av ⟨5,(i:Int)+1,false,.zero,false,400,111,(i:Int)⟩) hB (by simp[Lk.av,Rq.avs,Rq.zero,flds]) (qaa _) (Lk.bnd ⟨5,(i:Int)+1,false,.zero,false,400,111,(i:Int)⟩ _) (fin ⟨5,(i:Int)+1,false,.zero,false,400,111,(i:Int)⟩ hx)
  have j126:¬(126:Int)<y.toNat:=by omega
  by_cases hfull:((i-f:Nat):Int)=a
  ·have hx:=m1 (by omega) hfull;have hge:a<=((i-f:Nat):Int):=by omega
   simp[hne,la,b1,j33,j126,w0,hge];refine qat E _ 414 112 (i:Int) (i:Int) (by omega) (by omega) ?_;simp[Lk.av,Rq.avs,Rq.zero,flds,-Int.natCast_add];exact qab (v0:=Lk.av ⟨5,(i:Int)+1,false,.zero,false,414,112,(i:Int)⟩) (v:=Lk.av ⟨5,(i:Int)+1,false,.zero,false,414,112,(i:Int)⟩) hB (by simp[Lk.av,Rq.avs,Rq.zero,flds]) (qaa _) (Lk.bnd ⟨5,(i:Int)+1,false,.zero,false,414,112,(i:Int)⟩ _) (fin ⟨5,(i:Int)+1,false,.zero,false,414,112,(i:Int)⟩ hx)
  ·have hg:=m2 (by omega) hfull;have hge:¬a<=((i-f:Nat):Int):=by omega
   simp[hne,la,b1,j33,j126,w0,hge,w1,-Int.natCast_add];exact Klz ⟨i+1,by omega,by omega,by omega,hg,rfl,friz⟩
 subst h32;by_cases hsp:f<i;rotate_left
 ·have hx:=m4 (by decide) (fun e=>hsp e.2);simp[hne,la,hsp];refine qat E _ 400 111 (i:Int) (i:Int) (by omega) (by omega) ?_;simp[Lk.av,Rq.avs,Rq.zero,flds,-Int.natCast_add];exact qab (v0:=Lk.av ⟨5,(i:Int)+1,false,.zero,false,400,111,(i:Int)⟩) (v:=Lk.av ⟨5,(i:Int)+1,false,.zero,false,400,111,(i:Int)⟩) hB (by simp[Lk.av,Rq.avs,Rq.zero,flds]) (qaa _) (Lk.bnd ⟨5,(i:Int)+1,false,.zero,false,400,111,(i:Int)⟩ _) (fin ⟨5,(i:Int)+1,false,.zero,false,400,111,(i:Int)⟩ hx)
 have hg:=m3 (by decide) rfl hsp;obtain⟨T,hT⟩:=exz ((s.drop f).take (i-f));rw[hT]at hg;have hTl:T.length<=65536:=by rw[<-hT,zqJ];omega
 simp[hne,la,hsp,w1,hfi,hi,hT,-Int.natCast_add];refine qaB (daI4 q a b c d s M T (i+1) H) (fun fr _=>10-(ai (aget fr 8)).toNat) ⟨0,0,by omega,fun _=>rfl,by omega,by omega,hg,by omega,fun j hj=>by omega,by simp,friz⟩ ?_;clear hg m1 m2 m3 m4 hT w1 w0 hne la hy hFd hia;obtain⟨g,hgi⟩:∃g,g=i+1:=⟨_,rfl⟩
 rw[<-hgi];clear hgi hsp hfi hi hlt f i x;obtain⟨f,hff⟩:∃f,f=g:=⟨_,rfl⟩
 rw[<-hff];clear hff g;rintro fr K ⟨k,m,hk10,hkm,hm9,hfk,hFd,hk9,hall,rfl,x,rfl⟩;by_cases h10:k<10
 ·obtain rfl:=hkm (by omega);have i10:(m:Int)<10:=by omega
  by_cases hlt:f+m<s.length;rotate_left
  ·have hfm:f+m=s.length:=by omega
   have hx:=qsg (by rw[<-hfm];exact hFd) hfm;have hne:(((f+m:Nat):Int)==(s.length:Int))=true:=by rw[beq_iff_eq];omega
   simp[i10,hne,-Int.natCast_add];refine qdV E _ 1 s ?_;simp[Lk.av,Rq.avs,Rq.zero,flds];exact qab (v0:=Lk.av ⟨1,(s.length:Int),false,.zero,false,0,0,0⟩) (v:=Lk.av ⟨1,(s.length:Int),false,.zero,false,0,0,0⟩) hB (by simp[Lk.av,Rq.avs,Rq.zero,flds]) (qaa _) (Lk.bnd ⟨1,(s.length:Int),false,.zero,false,0,0,0⟩ _) (fin ⟨1,(s.length:Int),false,.zero,false,0,0,0⟩ hx)
  obtain⟨y,hy⟩:∃y,s[f+m]? =some y:=⟨_,zqD hlt⟩
  have la:=qap hy;have hne:(((f+m:Nat):Int)==(s.length:Int))=false:=by rw[beq_eq_false_iff_ne];omega
  have w1:IntKind.i64.wrap (((f+m:Nat):Int)+1)=((f+(m+1):Nat):Int):=by rw[qah (by omega) (by omega)];omega
  have w0:IntKind.i64.wrap ((m:Int)+1)=((m+1:Nat):Int):=by rw[qah (by omega) (by omega)];omega
  obtain⟨l1,l2,_⟩:=fd_l hFd hy hm9;simp[i10,hne,la,-Int.natCast_add];refine qke E _ y m h10 ?_;obtain⟨gd,hgd⟩:=exz (qaI m y);rw[hgd]at l1 l2;rw[hgd];cases gd with
  |false=>
   have hx:=l1 rfl;simp[-Int.natCast_add];refine qat E _ 400 111 ((f+m:Nat):Int) ((f+m:Nat):Int) (by omega) (by omega) ?_;simp[Lk.av,Rq.avs,Rq.zero,flds,-Int.natCast_add];exact qab (v0:=Lk.av ⟨5,((f+m:Nat):Int)+1,false,.zero,false,400,111,((f+m:Nat):Int)⟩) (v:=Lk.av ⟨5,((f+m:Nat):Int)+1,false,.zero,false,400,111,((f+m:Nat):Int)⟩) hB (by simp[Lk.av,Rq.avs,Rq.zero,flds]) (qaa _) (Lk.bnd ⟨5,((f+m:Nat):Int)+1,false,.zero,false,400,111,((f+m:Nat):Int)⟩ _) (fin ⟨5,((f+m:Nat):Int)+1,false,.zero,false,400,111,((f+m:Nat):Int)⟩ hx)
  |true=>
   simp[w1,w0,-Int.natCast_add];by_cases h9:m=9
   ·exact qaC ⟨m+1,m,by omega,by omega,by omega,by omega,hFd,by omega,fun j hj=>by
     rcases(by omega:j<m\/j=m)with h|rfl
     ·exact hall j h
     ·exact⟨y,hy,hgd⟩,rfl,friz⟩ (by simp;omega)
   ·exact qaC ⟨m+1,m+1,by omega,by omega,by omega,by omega,l2 rfl (by omega),by omega,fun j hj=>by
     rcases(by omega:j<m\/j=m)with h|rfl
     ·exact hall j h
     ·exact⟨y,hy,hgd⟩,rfl,friz⟩ (by simp;omega)
 obtain rfl:k=10:=by omega
 obtain rfl:=hk9 rfl;obtain⟨y,hy,hgy⟩:=hall 5 (by omega);obtain⟨z,hz,hgz⟩:=hall 7 (by omega);obtain⟨v,hv,hgv⟩:=hall 9 (by omega);obtain⟨_,_,l3⟩:=fd_l hFd hv (by omega);have dy:=qn9 (.inl rfl) hgy;have dz:=qn9 (.inr rfl) hgz;obtain⟨mj,hmj⟩:∃mj:Int,(y.toNat:Int)-48=mj:=⟨_,rfl⟩
 obtain⟨mn,hmn⟩:∃mn:Int,(z.toNat:Int)-48=mn:=⟨_,rfl⟩
 obtain⟨l5,l6,l7⟩:=l3 mj mn y z hgv rfl hy hz hmj hmn;have ly:=qap hy;have lz:=qap hz;have wy:IntKind.u8.wrap ((y.toNat:Int)-48)=mj:=by rw[hmj];exact wrap8 (by omega) (by omega)
 have wz:IntKind.u8.wrap ((z.toNat:Int)-48)=mn:=by rw[hmn];exact wrap8 (by omega) (by omega)
 have wj:IntKind.i64.wrap mj=mj:=wiz;have wn:IntKind.i64.wrap mn=mn:=wiz;have w5:IntKind.i64.wrap ((f:Int)+5)=((f+5:Nat):Int):=by rw[qah (by omega) (by omega)];omega
 have w7:IntKind.i64.wrap ((f:Int)+7)=((f+7:Nat):Int):=by rw[qah (by omega) (by omega)];omega
 have wm:IntKind.i64.wrap (((f+10:Nat):Int)-1)=((f+9:Nat):Int):=by rw[qah (by omega) (by omega)];omega
 by_cases hv1:mj=1;rotate_left
 ·have hx:=l5 (.inl hv1);have v1:(mj==1)=false:=by simpa using hv1
  have v2:(mj !=1)=true:=by simpa using hv1
  simp[ly,lz,wy,wz,wj,wn,w5,w7,wm,v1,v2,-Int.natCast_add];refine qat E _ 505 117 ((f+9:Nat):Int) ((f+9:Nat):Int) (by omega) (by omega) ?_;simp[Lk.av,Rq.avs,Rq.zero,flds,-Int.natCast_add];exact qab (v0:=Lk.av ⟨5,((f+9:Nat):Int)+1,false,.zero,false,505,117,((f+9:Nat):Int)⟩) (v:=Lk.av ⟨5,((f+9:Nat):Int)+1,false,.zero,false,505,117,((f+9:Nat):Int)⟩) hB (by simp[Lk.av,Rq.avs,Rq.zero,flds]) (qaa _) (Lk.bnd ⟨5,((f+9:Nat):Int)+1,false,.zero,false,505,117,((f+9:Nat):Int)⟩ _) (fin ⟨5,((f+9:Nat):Int)+1,false,.zero,false,505,117,((f+9:Nat):Int)⟩ hx)
 subst hv1;by_cases hv2:1<mn
 ·have hx:=l5 (.inr hv2);simp[ly,lz,wy,wz,wj,wn,w5,w7,wm,hv2,-Int.natCast_add];refine qat E _ 505 117 ((f+9:Nat):Int) ((f+9:Nat):Int) (by omega) (by omega) ?_;simp[Lk.av,Rq.avs,Rq.zero,flds,-Int.natCast_add];exact qab (v0:=Lk.av ⟨5,((f+9:Nat):Int)+1,false,.zero,false,505,117,((f+9:Nat):Int)⟩) (v:=Lk.av ⟨5,((f+9:Nat):Int)+1,false,.zero,false,505,117,((f+9:Nat):Int)⟩) hB (by simp[Lk.av,Rq.avs,Rq.zero,flds]) (qaa _) (Lk.bnd ⟨5,((f+9:Nat):Int)+1,false,.zero,false,505,117,((f+9:Nat):Int)⟩ _) (fin ⟨5,((f+9:Nat):Int)+1,false,.zero,false,505,117,((f+9:Nat):Int)⟩ hx)
 have hnot:¬((1:Int)≠1\/1<mn):=fun e=>by rcases e with e|e<;>omega
 simp[ly,lz,wy,wz,wj,wn,w5,w7,wm,hv2,-Int.natCast_add];refine qlE E _ M T (by omega) (fun fm pt h pa qu hq v=>?_);by_cases hte:tgtE M T=0;rotate_left
 ·have hx:=l6 hnot hte;have t1:(tgtE M T==0)=false:=by simpa using hte
  have t2:(tgtE M T !=0)=true:=by simpa using hte
  simp[t1,t2,tgV,wm,-Int.natCast_add];refine qat E _ 400 (tgtE M T) ((f+9:Nat):Int) ((f+9:Nat):Int) (by omega) (by omega) ?_;simp[Lk.av,Rq.avs,Rq.zero,flds,-Int.natCast_add];exact qab (v0:=Lk.av ⟨5,((f+9:Nat):Int)+1,false,.zero,false,400,(tgtE M T),((f+9:Nat):Int)⟩) (v:=Lk.av ⟨5,((f+9:Nat):Int)+1,false,.zero,false,400,(tgtE M T),((f+9:Nat):Int)⟩) hB (by simp[Lk.av,Rq.avs,Rq.zero,flds]) (qaa _) (Lk.bnd ⟨5,((f+9:Nat):Int)+1,false,.zero,false,400,(tgtE M T),((f+9:Nat):Int)⟩ _) (fin ⟨5,((f+9:Nat):Int)+1,false,.zero,false,400,(tgtE M T),((f+9:Nat):Int)⟩ hx)
 have hg:=l7 hnot hte;simp[hte,tgV,-Int.natCast_add];refine ql6 E _ q (pF0 a b c d M T 1 mn f) s (f+10) hg rfl rfl rfl rfl rfl rfl rfl rfl rfl rfl (by show 0<=b/\b<=1048576;omega) hlc hld (by omega) ?_;obtain⟨X,hX⟩:=exz (qaO (qan q s).1);rw[hX];simp[Lk.av,Rq.avs];exact qab (v0:=Lk.av X) (v:=Lk.av X) hB (by simp[Lk.av,Rq.avs,Rq.zero,flds]) (qaa _) (Lk.bnd X _) (fin X hX)
end
section
variable (E:Env){H:Hp}(Q:AV->Hp->Prop)
def lfI(l:List Fld)(H:Hp)(fr:List AV)(K:Hp):Prop:=K=H/\∃i:Nat,i<=l.length/\∃x:Nat->AV,fr=[.sl false 2 (flds l),.sl false 2 (flds l),x 2,x 3,x 4,.int .i64 (i:Int),x 6,x 7,x 8,x 9,x 10,x 11,x 12,x 13,x 14,x 15,x 16,x 17,x 18,x 19,x 20,x 21,x 22,x 23,x 24,x 25,x 26,x 27,x 28,x 29,x 30,x 31,x 32,x 33,x 34,x 35,x 36,x 37,x 38,x 39,x 40]
theorem qhj(l:List Fld)(hl:l.length<=1073741824)(hQ:Q (.bool true) H):PC Tryz.prog E 38 [.sl false 2 (flds l),.sl false 2 (flds l)] H Q:=by
 refine qac Tryz.func38 rfl [] [] (by kernel_rfl) (fun hB=>?_);simp[Tryz.ntmps38,Tryz.results38,List.replicate_succ];refine qaB (lfI l H) (fun fr _=>l.length-(ai (aget fr 5)).toNat) ⟨rfl,0,by omega,friz⟩ ?_;rintro fr K ⟨rfl,i,hi,x,rfl⟩;by_cases h:i<l.length
 ·obtain⟨f,hf⟩:∃f,l[i]? =some f:=⟨_,zqD h⟩
  have hat:=qka hf;have w1:IntKind.i64.wrap ((i:Int)+1)=i+1:=wiz;simp[h,hat,w1];exact Klz ⟨rfl,i+1,by omega,friz⟩
 ·simp[h];exact aQz hB (h6:=hQ)
theorem qcI(r:Rq)(h1:r.fields.length<=1073741824)(h2:r.trailers.length<=1073741824)(hQ:Q (.bool true) H):PC Tryz.prog E 16 [r.av,r.av] H Q:=by
 refine qac Tryz.func16 rfl [] [] (by kernel_rfl) (fun hB=>?_);simp[Tryz.ntmps16,Tryz.results16,List.replicate_succ,Rq.av,Rq.avs];refine qhj E _ r.fields h1 ?_;simp;refine qhj E _ r.trailers h2 ?_;simp;exact aQy hB (h6:=hQ)
theorem qhd(a b c d:Int)(hQ:Q (limV a b c d) H):PC Tryz.prog E 14 [limV a b c d] H Q:=by
 refine qac Tryz.func14 rfl [] [] (by kernel_rfl) (fun hB=>?_);simp[Tryz.ntmps14,Tryz.results14,List.replicate_succ,limV];exact qab hB (v0:=limV a b c d) (by simp[limV]) (qaa _) (by simp[limV]) hQ
theorem qje(a b c d:Int)(hQ:Q (.int .i64 (chkE a b c d)) H):PC Tryz.prog E 19 [limV a b c d] H Q:=by
 refine qac Tryz.func19 rfl [] [] (by kernel_rfl) (fun hB=>?_);have fin:∀e,chkE a b c d=e->Q (.int .i64 e) H:=fun e h=>h▸hQ;have bad:¬((1<=a/\a<=65536)/\(2<=b/\b<=1048576)/\(0<=c/\c<=100)/\(0<=d/\d<=1073741824))->Q (.int .i64 115) H:=fun h=>fin 115 (by unfold chkE;rw[if_neg h]);by_cases a1:a<1
 ·simp[Tryz.ntmps19,Tryz.results19,List.replicate_succ,limV,a1];exact qab hB rfl (qaa _) (by simp) (bad (by omega))
 by_cases a2:65536<a
 ·simp[Tryz.ntmps19,Tryz.results19,List.replicate_succ,limV,a1,a2];exact qab hB rfl (qaa _) (by simp) (bad (by omega))
 by_cases b1:b<2
 ·simp[Tryz.ntmps19,Tryz.results19,List.replicate_succ,limV,a1,a2,b1];exact qab hB rfl (qaa _) (by simp) (bad (by omega))
 by_cases b2:1048576<b
 ·simp[Tryz.ntmps19,Tryz.results19,List.replicate_succ,limV,a1,a2,b1,b2];exact qab hB rfl (qaa _) (by simp) (bad (by omega))
 by_cases c1:c<0
 ·simp[Tryz.ntmps19,Tryz.results19,List.replicate_succ,limV,a1,a2,b1,b2,c1];exact qab hB rfl (qaa _) (by simp) (bad (by omega))
 by_cases c2:100<c
 ·simp[Tryz.ntmps19,Tryz.results19,List.replicate_succ,limV,a1,a2,b1,b2,c1,c2];exact qab hB rfl (qaa _) (by simp) (bad (by omega))
 by_cases d1:d<0
 ·simp[Tryz.ntmps19,Tryz.results19,List.replicate_succ,limV,a1,a2,b1,b2,c1,c2,d1];exact qab hB rfl (qaa _) (by simp) (bad (by omega))
 by_cases d2:1073741824<d
 ·simp[Tryz.ntmps19,Tryz.results19,List.replicate_succ,limV,a1,a2,b1,b2,c1,c2,d1,d2];exact qab hB rfl (qaa _) (by simp) (bad (by omega))
 ·simp[Tryz.ntmps19,Tryz.results19,List.replicate_succ,limV,a1,a2,b1,b2,c1,c2,d1,d2];exact qab hB rfl (qaa _) (by simp) (fin 0 (by unfold chkE;rw[if_pos (by omega)]))
def awkT:List UInt8:=[71,69,84,32,47,97,32,72,84,84,80,47,49,46,48,13,10,13,10,120]
theorem qqp:(qan (newP 8000 16384 100 1048576) awkT).2=19/\(qan (newP 8000 16384 100 1048576) awkT).1.state=4/\(qan (newP 8000 16384 100 1048576) awkT).1.meth=[71,69,84]/\(qan (newP 8000 16384 100 1048576) awkT).1.targ=[47,97]/\(qan (newP 8000 16384 100 1048576) awkT).1.major=1:=by decide+kernel
theorem qiW(hE:PE E)(hQ:Q (.bool true) H):PC Tryz.prog E 15 [] H Q:=by
 refine qac Tryz.func15 rfl [] [] (by kernel_rfl) (fun hB=>?_);simp[Tryz.ntmps15,Tryz.results15,List.replicate_succ];refine qnf E _ ?_;simp;refine qnd E _ hE 8000 16384 100 1048576 awkT (by decide) ?_;obtain⟨g1,g2,g3,g4,g5⟩:=qqp;have hch:chkE 8000 16384 100 1048576=0:=by decide
 have hk:qhV (qan (newP 8000 16384 100 1048576) awkT).1=1:=by unfold qhV;rw[if_pos g2]
 have hf:fltV (qan (newP 8000 16384 100 1048576) awkT).1= .agg [.int .i64 0,.int .i64 0,.int .i64 0]:=by unfold fltV;rw[if_neg (by omega)]
 unfold qrf;rw[if_pos hch,hk,hf,g1,g2];have hrq:Rq.if (decide ((4:Int)=4)) (qan (newP 8000 16384 100 1048576) awkT).1.rq=(qan (newP 8000 16384 100 1048576) awkT).1.rq:=rfl;rw[hrq];simp[Rq.av,Rq.avs,Prs.rq,g3,g4,g5];exact aQy hB (h6:=hQ)
end
section
variable (E:Env){H:Hp}(Q:AV->Hp->Prop)
end
end Go.Proofs.YtnnhdehmlkkfjaaGreatDoor
namespace Go.Proofs.YtnnhdehmlkkfjaaGreatDoor
open Go Go.RowKit Go.Proofs Go.Deep
def PZ(E:Env):Prop:=PE E/\SZ E
def qfQ(W:World):Prop:=∃m:Int,W.cell? ⟨2,0,none⟩=some (.int .i64 m)
theorem qgd{W:World}(h:W.ShapedOpen Tryz.prog):qfQ W:=
 cell_of_shapedOpen_int (zero:= #[.int .i64 0]) (t:=3) h (of_decide_eq_true (by kernel_rfl)) (by kernel_rfl) rfl (by kernel_rfl) (by kernel_rfl) Tryz.underlying3
theorem qqi{f:FuncId}{args:List AV}{cargs:Array Value}{W:World}(hT:Tabs W)(hM:qfQ W)(hsz:cargs.size=args.length)
  (hargs:∀(t:Nat) x u,args[t]? =some x->cargs[t]? =some u->Rel W (fun _=>0) (old W) x u/\Bnd 0 x/\x.free=true)
  (h:∀(E:Env) (Q:AV->Hp->Prop),PZ E->Q (.bool true) []->PC Tryz.prog E f args [] Q):Calls Tryz.prog f cargs W fun e w'=>e= .returned (.bool true)/\Frm (fun _=>False) W w':=by
 obtain⟨m,hm⟩:=hM
 refine qji (fun b=>b=0\/b=4\/b=1\/b=2)
  (fun b hb=>?_) (old W) (fun _ _ h=>h) hsz hargs
  (fun E Q h0 hf hq=>h E Q ⟨⟨⟨⟨by rw[hf];exact .inl rfl,by rw[h0];exact hT.1⟩,by rw[hf];exact .inr (.inr (.inl rfl)),by rw[h0];exact hT.2.2⟩,⟨by rw[hf];exact .inr (.inr (.inr rfl)),m,by rw[h0];exact hm⟩⟩,⟨by rw[hf];exact .inl rfl,by rw[h0];exact hT.1⟩,by rw[hf];exact .inr (.inl rfl),by rw[h0];exact hT.2.1⟩ hq)
 rcases hb with hb|hb|hb|hb
 ·exact qr4 W hT.1 b hb
 ·exact hb▸World.block_lt_of_cell? _ _ hT.2.1
 ·exact hb▸tab_lt hT.2.2
 ·exact hb▸World.block_lt_of_cell? _ _ hm
theorem qjI{W:World}{cs:Array Value}{ks:List AV}(op:Opened W [.int .i64,.int .i64,.int .i64,.int .i64] cs.toList ks):∃a b c d:Int,
  (-9223372036854775808<=a/\a<=9223372036854775807)/\(-9223372036854775808<=b/\b<=9223372036854775807)/\(-9223372036854775808<=c/\c<=9223372036854775807)/\(-9223372036854775808<=d/\d<=9223372036854775807)/\
  Rel W (fun _=>0) (old W) (limV a b c d) (.agg cs)/\Bnd 0 (limV a b c d)/\(limV a b c d).free=true:=by
 match ks,op.len with
 |[y0,y1,y2,y3],_=>
  obtain⟨z0,rfl,w0⟩:=qfK (op.kind 0 _ _ rfl rfl);obtain⟨z1,rfl,w1⟩:=qfK (op.kind 1 _ _ rfl rfl);obtain⟨z2,rfl,w2⟩:=qfK (op.kind 2 _ _ rfl rfl);obtain⟨z3,rfl,w3⟩:=qfK (op.kind 3 _ _ rfl rfl);refine⟨z0,z1,z2,z3,w0,w1,w2,w3,.agg _ _ (by have:=op.clen;simpa using this) (fun x hx=>?_) (fun j x u hx hu=>?_),?_,rfl⟩
  ·simp at hx;rcases hx with rfl|rfl|rfl|rfl<;>exact⟨rfl,rfl⟩
  ·exact(op.rel j x u hx (by simpa using hu)).2.2.1
  ·simp[limV]
section
variable (E:Env){H:Hp}(Q:AV->Hp->Prop)
variable {b j:Nat}{p:Prs}
def Szd(p:Prs):Prop:=p.state≠5->fsz p.fields+p.fields.length<=4194304/\p.trailers.length<=4194304
theorem qsc{a b c d:Int}(h:chkE a b c d=0)(s:List UInt8)(hs:s.length<=4194304):Szd (qan (newP a b c d) s).1:=fun h5=>qkc h s hs h5
theorem Szd.len(h:Szd p):p.state≠5->p.fields.length<=16777216/\p.trailers.length<=16777216:=fun h5=>by have:=h h5;omega
theorem qlP(hp:PB H b j p)(hz:Szd p)(hQ:Q (.bool true) H):PC Tryz.prog E 32 [.ptr (some (b,0)),(qaO p).av] H Q:=by
 refine qac Tryz.func32 rfl [] [(4,[0,1,0,0,0,0,0,1,0,0,0,0,0,0,1])] (by kernel_rfl) (fun hB=>?_);by_cases h5:p.state=5
 ·have hL:qaO p=⟨5,p.used,false,.zero,false,p.fst_,p.ferr,p.fat⟩:=by unfold qaO;rw[if_pos h5]
  have hfv:fltV p= .agg [.int .i64 p.fst_,.int .i64 p.ferr,.int .i64 p.fat]:=by unfold fltV;rw[if_pos h5]
  have hw:p.waits=false:=by unfold Prs.waits;simp[h5]
  rw[hL];simp[Tryz.ntmps32,Tryz.results32,List.replicate_succ,Lk.av,Rq.avs,Rq.zero,h5];refine qfG E _ (hp.app _) hz.len ?_;simp[Rq.if,Rq.av,Rq.avs,Rq.zero,h5];refine qdj E _ (hp.app _) hz.len ?_;simp[Rq.if,Rq.av,Rq.avs,Rq.zero,h5];refine qeE E _ (hp.app _) ?_;rw[hfv];simp[h5];refine qeD E _ (hp.app _) ?_;simp[qaj,KP,qaf,h5];refine qfE E _ (hp.app _) ?_;simp[qaj,KP,qaf,h5];refine qeC E _ (hp.app _) (fun e=>by have:=(hz (by omega)).1;omega) ?_;rw[hw];simp[qaj,KP,qaf,h5];refine PC.argsD (args':=[Rq.zero.av,Rq.zero.av]) ⟨.same _,qa7 (Rq.nil [] [] [] 0 0),trivial⟩ (qcI E _ .zero (by simp[Rq.zero]) (by simp[Rq.zero]) ?_);simp;refine PC.argsD (args':=[Rq.zero.av,Rq.zero.av]) ⟨.same _,qa7 (Rq.nil [] [] [] 0 0),trivial⟩ (qcI E _ .zero (by simp[Rq.zero]) (by simp[Rq.zero]) ?_);simp;exact aQy hB (v:= .bool true) (h6:=hQ)
 have hfv:fltV p= .agg [.int .i64 0,.int .i64 0,.int .i64 0]:=by unfold fltV;rw[if_neg h5]
 have h5':(p.state==5)=false:=by simpa using h5
 obtain⟨z1,z2⟩:=hz h5;by_cases h4:p.state=4
 ·have hL:qaO p=⟨4,p.used,true,p.rq,false,0,0,0⟩:=by unfold qaO;rw[if_neg h5,if_pos h4]
  have hw:p.waits=false:=by unfold Prs.waits;simp[h4]
  rw[hL];simp[Tryz.ntmps32,Tryz.results32,List.replicate_succ,Lk.av,Rq.avs,Rq.zero,h4];refine qfG E _ (hp.app _) hz.len ?_;simp[Rq.if,Rq.av,Rq.avs,Rq.zero,h4];refine qdj E _ (hp.app _) hz.len ?_;simp[Rq.if,Rq.av,Rq.avs,Rq.zero,h4];refine qeE E _ (hp.app _) ?_;rw[hfv];simp[h4];refine qeD E _ (hp.app _) ?_;simp[qaj,KP,qaf,h4];refine qfE E _ (hp.app _) ?_;simp[qaj,KP,qaf,h4];refine qeC E _ (hp.app _) (fun e=>by have:=(hz (by omega)).1;omega) ?_;rw[hw];simp[qaj,KP,qaf,h4];refine PC.argsD (args':=[p.rqH.av,p.rqH.av]) ⟨.same _,qa7 (Rq.nilT p.meth p.targ [] p.major p.minor p.fields),trivial⟩ (qcI E _ p.rqH (by show p.fields.length<=_;omega) (by show 0<=_;omega) ?_);simp;refine qcI E _ p.rq (by show p.fields.length<=_;omega) (by show p.trailers.length<=_;omega) ?_;simp;exact aQy hB (v:= .bool true) (h6:=hQ)
 have h4':(p.state==4)=false:=by simpa using h4
 by_cases h3:p.state=3
 ·have hL:qaO p=⟨3,p.used,true,p.rqH,p.waits,0,0,0⟩:=by unfold qaO;rw[if_neg h5,if_neg h4,if_pos h3]
  rw[hL];obtain⟨wv,hw⟩:=exz (p.waits);simp[Tryz.ntmps32,Tryz.results32,List.replicate_succ,Lk.av,Rq.avs,Rq.zero,h3,hw];refine qfG E _ (hp.app _) hz.len ?_;simp[Rq.if,Rq.av,Rq.avs,Rq.zero,h3,hw];refine qdj E _ (hp.app _) hz.len ?_;simp[Rq.if,Rq.av,Rq.avs,Rq.zero,h3,hw];refine qeE E _ (hp.app _) ?_;rw[hfv];simp[h3,hw];refine qeD E _ (hp.app _) ?_;simp[qaj,KP,qaf,h3,hw];refine qfE E _ (hp.app _) ?_;simp[qaj,KP,qaf,h3,hw];refine qeC E _ (hp.app _) (fun e=>by have:=(hz (by omega)).1;omega) ?_;rw[hw];simp[qaj,KP,qaf,h3,hw];refine PC.argsD (args':=[p.rqH.av,p.rqH.av]) ⟨.same _,qa7 (Rq.nilT p.meth p.targ [] p.major p.minor p.fields),trivial⟩ (qcI E _ p.rqH (by show p.fields.length<=_;omega) (by show 0<=_;omega) ?_);simp;refine PC.argsD (args':=[Rq.zero.av,Rq.zero.av]) ⟨.same _,qa7 (Rq.nil [] [] [] 0 0),trivial⟩ (qcI E _ .zero (by simp[Rq.zero]) (by simp[Rq.zero]) ?_);simp;exact aQy hB (v:= .bool true) (h6:=hQ)
 have h3':(p.state==3)=false:=by simpa using h3
 have hL:qaO p=⟨p.state,p.used,false,.zero,false,0,0,0⟩:=by unfold qaO;rw[if_neg h5,if_neg h4,if_neg h3]
 have hw:p.waits=false:=by unfold Prs.waits;simp[h3]
 rw[hL];simp[Tryz.ntmps32,Tryz.results32,List.replicate_succ,Lk.av,Rq.avs,Rq.zero,h3,h4,h5,h3',h4',h5'];refine qfG E _ (hp.app _) hz.len ?_;simp[Rq.if,Rq.av,Rq.avs,Rq.zero,h3,h4,h5,h3',h4',h5'];refine qdj E _ (hp.app _) hz.len ?_;simp[Rq.if,Rq.av,Rq.avs,Rq.zero,h3,h4,h5,h3',h4',h5'];refine qeE E _ (hp.app _) ?_;rw[hfv];simp[h3,h4,h5,h3',h4',h5'];refine qeD E _ (hp.app _) ?_;simp[qaj,KP,qaf,h3,h4,h5,h3',h4',h5'];refine qfE E _ (hp.app _) ?_;simp[qaj,KP,qaf,h3,h4,h5,h3',h4',h5'];refine qeC E _ (hp.app _) (fun e=>by have:=(hz (by omega)).1;omega) ?_;rw[hw];simp[qaj,KP,qaf,h3,h4,h5,h3',h4',h5'];refine PC.argsD (args':=[Rq.zero.av,Rq.zero.av]) ⟨.same _,qa7 (Rq.nil [] [] [] 0 0),trivial⟩ (qcI E _ .zero (by simp[Rq.zero]) (by simp[Rq.zero]) ?_);simp;refine PC.argsD (args':=[Rq.zero.av,Rq.zero.av]) ⟨.same _,qa7 (Rq.nil [] [] [] 0 0),trivial⟩ (qcI E _ .zero (by simp[Rq.zero]) (by simp[Rq.zero]) ?_);simp;exact aQy hB (v:= .bool true) (h6:=hQ)
end
section
variable (E:Env){H:Hp}(Q:AV->Hp->Prop)
end
theorem qpK{n:Nat}(h:n<=8589934592):(n<=maxLen)=True:=by unfold maxLen;simp;omega
structure Ent where
 v:AV
 n:Nat
def qd8(l:List Ent):List (List AV):=l.map fun e=>[e.v]
theorem qcu(l:List Ent):(qd8 l).length=l.length:=List.length_map ..
theorem qhG{l:List Ent}{i:Nat}{e:Ent}(h:l[i]? =some e):lat (qd8 l) i=some [e.v]:=by show(qd8 l)[i]? =_;simp[qd8,h]
def mkN(i m:Nat):List UInt8:=[109,97,114,107]++Go.Lib.itoa ((1000*i+m:Nat):Int)
def CM(M:Nat->Nat->Prop)(i:Nat):Nat->AV->Prop:=fun m u=>m%2=0->M i (m/2)->u= .str (mkN i (m/2))
structure MS (K0 K:Hp) (L:List Ent) (M:Nat->Nat->Prop):Prop where
 len:K0.length<=K.length
 keep:∀i,i<K0.length->K[i]? =K0[i]?
 bd:BndH K.length K
 bx:∀(i:Nat) (e:Ent),L[i]? =some e->BX K (fun d=>K0.length<=d) 2 e.v e.n (CM M i)/\e.n<=16777216
 df:∀(i i':Nat) (e e':Ent),i≠i'->L[i]? =some e->L[i']? =some e'->difP e.v e'.v
section
variable {K0 K:Hp}{L:List Ent}{M M':Nat->Nat->Prop}
theorem MS.wk(h:MS K0 K L M)(hM:∀i m,M' i m->M i m):MS K0 K L M':=
 ⟨h.len,h.keep,h.bd,fun i e he=>⟨(h.bx i e he).1.of_eq (fun _ _ _ _ _ _=>rfl) (fun d _ _ _ _ ee=>((h.bx i e he).1.lt _ _ _ _ _ ee).1) (fun m y _ _ hc h1 h2=>hc h1 (hM _ _ h2)),(h.bx i e he).2⟩,h.df⟩
theorem MS.wk2(h:MS K0 K L M)(hM:∀(i:Nat) (e:Ent) (m:Nat),L[i]? =some e->m<e.n->M' i m->M i m):MS K0 K L M':=
 ⟨h.len,h.keep,h.bd,fun i e he=>⟨(h.bx i e he).1.of_eq (fun _ _ _ _ _ _=>rfl) (fun d _ _ _ _ ee=>((h.bx i e he).1.lt _ _ _ _ _ ee).1) (fun m y hm _ hc h1 h2=>hc h1 (hM i e _ he (by omega) h2)),(h.bx i e he).2⟩,h.df⟩
theorem MS.on(h:MS K0 K L M){K':Hp}(hl:K.length<=K'.length)(hk:∀i,i<K.length->K'[i]? =K[i]?)(hB:BndH K'.length K'):MS K0 K' L M:=by
 have:=h.len;exact⟨by omega,fun i hi=>by rw[hk i (by omega)];exact h.keep i hi,hB,fun i e he=>⟨(h.bx i e he).1.of_eq (fun d _ _ _ _ ee=>hk d ((h.bx i e he).1.lt _ _ _ _ _ ee).2) (fun d _ _ _ _ ee=>((h.bx i e he).1.lt _ _ _ _ _ ee).1) (fun _ _ _ _ h=>h),(h.bx i e he).2⟩,h.df⟩
theorem MS.snoc(h:MS K0 K L fun _ _=>False){N:Nat}(hN:N<=K.length)(hN0:K0.length<=N){v:AV}{n:Nat}(hv:LB K N v n)(hn:n<=16777216)(hd:∀(i:Nat) (e:Ent),L[i]? =some e->difP e.v v):MS K0 K (L++[⟨v,n⟩]) fun _ _=>False:=by
 refine⟨h.len,h.keep,h.bd,fun i e he=>?_,fun i i' e e' hi he he'=>?_⟩
 ·by_cases hi:i<L.length
  ·rw[zqA hi]at he;exact h.bx i e he
  ·have hlt:=(zqC.1 he).1;simp at hlt;obtain rfl:i=L.length:=by omega
   simp at he;subst he;exact⟨BX.of_eq hv (fun _ _ _ _ _ _=>rfl) (fun d _ _ _ _ ee=>Nat.le_trans hN0 (BX.lt hv _ _ _ _ _ ee).1) (fun _ _ _ _ _ _ h=>h.elim),hn⟩
 ·have l1:=(zqC.1 he).1;have l2:=(zqC.1 he').1;simp at l1 l2;by_cases h1:i<L.length
  ·rw[zqA h1]at he;by_cases h2:i'<L.length
   ·rw[zqA h2]at he';exact h.df i i' e e' hi he he'
   ·obtain rfl:i'=L.length:=by omega
    simp at he';subst he';exact hd i e he
  ·obtain rfl:i=L.length:=by omega
   rw[zqA (by omega)]at he';simp at he;subst he;exact fun a o n c k b o' n' c' k' ea eb=>Ne.symm (hd i' e' he' b o' n' c' k' a o n c k eb ea)
theorem MS.snoc2(h:MS K0 K L fun _ _=>False){N:Nat}(hN:N<=K.length)(hN0:K0.length<=N){v t:AV}{n m:Nat}(hv:LB K N v n)(ht:LB K N t m)(hn:n<=16777216)(hm:m<=16777216)(hd:difP v t)(hva:∀(i:Nat) (e:Ent),L[i]? =some e->difP e.v v)(hta:∀(i:Nat) (e:Ent),L[i]? =some e->difP e.v t):MS K0 K (L++[⟨v,n⟩]++[⟨t,m⟩]) fun _ _=>False:=by
 refine(h.snoc hN hN0 hv hn hva).snoc hN hN0 ht hm fun i e he=>?_;by_cases hi:i<L.length
 ·rw[zqA hi]at he;exact hta i e he
 ·have hlt:=(zqC.1 he).1;simp at hlt;obtain rfl:i=L.length:=by omega
  simp at he;subst he;exact hd
theorem MS.apart(h:MS K0 K L M){K':Hp}{N:Nat}{v:AV}{n:Nat}(hN:K.length<=N)(hv:LB K' N v n):∀(i:Nat) (e:Ent),L[i]? =some e->difP e.v v:=fun i e he a o n c k b o' n' c' k' ea eb=>by
 have h1:=((h.bx i e he).1.lt _ _ _ _ _ ea).2;have h2:=(BX.lt hv _ _ _ _ _ eb).1;omega
theorem MS.other(h:MS K0 K L M){d:Nat}(hd0:K0.length<=d)(hd:∀(i:Nat) (e:Ent) (o n c k:Nat),L[i]? =some e->e.v≠ .bx d o n c k){X:List AV}(hX:∀y∈X,smp y):MS K0 (K.set d X) L M:=by
 refine⟨by simpa using h.len,fun i hi=>by rw[zqF (by omega)];exact h.keep i hi,by rw[List.length_set];exact qbE h.bd _ fun y hy=>(hX y hy).bnd _,fun i e he=>⟨(h.bx i e he).1.put (fun i' o m c k' ee e2=>hd i e o m c k' he (by rw[e2];exact ee)) X,(h.bx i e he).2⟩,h.df⟩
theorem MS.same(h:MS K0 K L M){i vi n c:Nat}{A X:List AV}(he:L[i]? =some ⟨.bx vi 0 n c 2,n⟩)(hA:K[vi]? =some A)(hXl:X.length=A.length)(hX:∀y∈X,smp y)(hC:∀m,m<n*2->X[m]? =A[m]? ):MS K0 (K.set vi X) L M:=by
 have hb:=(h.bx i _ he).1;have hvi:=hb.lt _ _ _ _ _ rfl;refine⟨by simpa using h.len,fun i hi=>by rw[zqF (by omega)];exact h.keep i hi,by rw[List.length_set];exact qbE h.bd _ fun y hy=>(hX y hy).bnd _,fun i' e' he'=>?_,h.df⟩;by_cases hi:i'=i
 ·subst hi;rw[he]at he';cases he';refine⟨?_,(h.bx i' _ he).2⟩;rcases hb with⟨_,e⟩|⟨i2,c2,A2,h1,e,h2,h3,h4,h5,h6,h7⟩
  ·cases e
  ·cases e;rw[hA]at h2;cases h2;exact .inr ⟨vi,c,X,h1,rfl,zqO hvi.2,by rw[hXl];exact h3,h4,h5,hX,fun m y hm hy=>h7 m y hm (by rw[<-hC m hm];exact hy)⟩
 ·exact⟨(h.bx i' e' he').1.put (fun i2 o m c' k' ee e2=>h.df i i' _ e' (Ne.symm hi) he he' _ _ _ _ _ _ _ _ _ _ rfl ee e2) X,(h.bx i' e' he').2⟩
theorem MS.mark(h:MS K0 K L M){i vi n c j:Nat}{A:List AV}{T:List UInt8}(hT:T=mkN i j)(he:L[i]? =some ⟨.bx vi 0 n c 2,n⟩)(hA:K[vi]? =some A)(hj:j<n)(hM:∀i' m,M' i' m->M i' m\/(i'=i/\m=j)):
  MS K0 (K.set vi (A.take (j*2)++ .str T:: .str []::A.drop (j*2+2))) L M':=by
 subst hT;have hb:=(h.bx i _ he).1;have hvi:=hb.lt _ _ _ _ _ rfl
 obtain⟨b1,b2⟩:=hb.mark hA hj (r:=[.str (mkN i j),.str []]) rfl (by simp) (C':=CM M' i) (fun m y hm hy h1 h2=>by
  split at hy
  ·rename_i hh;have:m=j*2:=by omega
   subst this;simp at hy;rw[show j*2/2=j by omega];exact hy.symm
  ·rename_i hh;rcases hM _ _ h2 with h3|⟨_,h3⟩
   ·exact hy h1 h3
   ·exact absurd ⟨by omega,by omega⟩ hh)
 simp only[List.cons_append,List.nil_append]at b1 b2;refine⟨by simpa using h.len,fun i hi=>by rw[zqF (by omega)];exact h.keep i hi,by rw[List.length_set];exact qbE h.bd _ fun y hy=>(b2 y hy).bnd _,fun i' e' he'=>?_,h.df⟩;by_cases hi:i'=i
 ·subst hi;rw[he]at he';cases he';exact⟨b1,(h.bx i' _ he).2⟩
 ·refine⟨BX.of_eq ((h.bx i' e' he').1.put (fun i2 o m c' k' ee e2=>h.df i i' _ e' (Ne.symm hi) he he' _ _ _ _ _ _ _ _ _ _ rfl ee e2) _) (fun _ _ _ _ _ _=>rfl) (fun d _ _ _ _ ee=>((h.bx i' e' he').1.lt _ _ _ _ _ ee).1) (fun m y hm _ hc h1 h2=>hc h1 ?_),(h.bx i' e' he').2⟩;rcases hM _ _ h2 with h3|⟨h3,_⟩
  ·exact h3
  ·exact absurd h3 hi
end
theorem BX.acells{K:Hp}{G:Nat->Prop}{k n:Nat}{v:AV}{C:Nat->AV->Prop}(h:BX K G k v n C):Go.Proofs.YtnnhdehmlkkfjaaGreatDoor.acells v=some [v]:=by
 rcases h with⟨_,rfl⟩|⟨i,c,A,h1,rfl,_⟩<;>rfl
theorem PB.on{K0 K:Hp}{b j:Nat}{p:Prs}(h:PB K0 b j p)(hk:∀i,i<K0.length->K[i]? =K0[i]?):PB K b j p:=
 ⟨by rw[hk _ (zqC.1 h.row).1];exact h.row,fun d hd=>⟨(h.dec d hd).1,by rw[hk _ (zqC.1 (h.dec d hd).2).1];exact(h.dec d hd).2⟩⟩
def lkR(X:Lk):List AV:=[.int .i64 X.state,.int .i64 X.used,.bool X.head,.str X.r.meth,.str X.r.targ,.int .i64 X.r.major,.int .i64 X.r.minor,.sl false 2 (flds X.r.fields),.str X.r.body,.sl false 2 (flds X.r.trailers),.bool X.waits,.int .i64 X.st,.int .i64 X.err,.int .i64 X.at_]
theorem qrZ(X:Lk)(N:Nat):∀x∈lkR X,Bnd N x:=fun x hx=>by
 simp only[lkR,List.mem_cons,List.not_mem_nil,or_false]at hx;rcases hx with rfl|rfl|rfl|rfl|rfl|rfl|rfl|rfl|rfl|rfl|rfl|rfl|rfl|rfl<;>first|exact qcm _ _ _|constructor
theorem qjF(r:Rq){v t:AV}{N:Nat}(hv:Bnd N v)(ht:Bnd N t):∀x∈rqV r v t,Bnd N x:=fun x hx=>by
 simp only[rqV,List.mem_cons,List.not_mem_nil,or_false]at hx;rcases hx with rfl|rfl|rfl|rfl|rfl|rfl|rfl<;>first|exact hv|exact ht|constructor
section
variable (E:Env){H:Hp}(Q:AV->Hp->Prop)
def lmI1(s:List UInt8)(i8:Nat)(H K0:Hp)(fr:List AV)(K:Hp):Prop:=∃(k:Nat) (L:List Ent),k<=3/\L.length=5*k/\MS K0 K L (fun _ _=>False)/\
 ∃x:Nat->AV,fr=[x 0,.str s,.ptr (some (H.length,0)),x 3,x 4,.ptr (some (H.length+2,0)),x 6,x 7,.ptr (some (i8,0)),.sl true 1 (qd8 L),.int .i64 (k:Int),x 11,x 12,x 13,x 14,x 15,x 16,x 17,x 18,x 19,x 20,x 21,x 22,x 23,x 24,x 25,x 26,x 27,x 28,x 29,x 30,x 31,x 32,x 33,x 34,x 35,x 36,x 37,x 38,x 39,x 40,x 41,x 42,x 43,x 44,x 45,x 46,x 47,x 48,x 49,x 50,x 51,x 52,x 53,x 54,x 55,x 56,x 57,x 58,x 59,x 60,x 61,x 62,x 63,x 64,x 65,x 66,x 67,x 68,x 69,x 70,x 71,x 72,x 73,x 74,x 75,x 76,x 77,x 78,x 79,x 80,x 81,x 82,x 83,x 84,x 85,x 86,x 87,x 88,x 89,x 90,x 91,x 92,x 93,x 94,x 95,x 96,x 97,x 98,x 99,x 100,x 101,x 102,x 103,x 104,x 105,x 106,x 107,x 108,x 109,x 110,x 111,x 112,x 113,x 114,x 115,x 116,x 117,x 118,x 119,x 120,x 121,x 122,x 123,x 124,x 125,x 126,x 127,x 128,x 129,x 130,x 131,x 132,x 133,x 134,x 135,x 136,x 137,x 138,x 139,x 140,x 141,x 142,x 143,x 144,x 145,x 146,x 147,x 148,x 149,x 150,x 151,x 152,x 153,x 154,x 155,x 156,x 157,x 158,x 159,x 160,x 161,x 162,x 163,x 164,x 165,x 166,x 167,x 168,x 169]
def lmI2(i8:Nat)(L:List Ent)(H K0:Hp)(fr:List AV)(K:Hp):Prop:=∃(i:Nat),i<=L.length/\MS K0 K L (fun i' m=>i'<i)/\
 ∃x:Nat->AV,fr=[x 0,x 1,x 2,x 3,x 4,.ptr (some (H.length+2,0)),x 6,x 7,.ptr (some (i8,0)),.sl true 1 (qd8 L),x 10,x 11,x 12,x 13,x 14,x 15,x 16,x 17,x 18,.int .i64 (i:Int),x 20,x 21,x 22,x 23,x 24,x 25,x 26,x 27,x 28,x 29,x 30,x 31,x 32,x 33,x 34,x 35,x 36,x 37,x 38,x 39,x 40,x 41,x 42,x 43,x 44,x 45,x 46,x 47,x 48,x 49,x 50,x 51,x 52,x 53,x 54,x 55,x 56,x 57,x 58,x 59,x 60,x 61,x 62,x 63,x 64,x 65,x 66,x 67,x 68,x 69,x 70,x 71,x 72,x 73,x 74,x 75,x 76,x 77,x 78,x 79,x 80,x 81,x 82,x 83,x 84,x 85,x 86,x 87,x 88,x 89,x 90,x 91,x 92,x 93,x 94,x 95,x 96,x 97,x 98,x 99,x 100,x 101,x 102,x 103,x 104,x 105,x 106,x 107,x 108,x 109,x 110,x 111,x 112,x 113,x 114,x 115,x 116,x 117,x 118,x 119,x 120,x 121,x 122,x 123,x 124,x 125,x 126,x 127,x 128,x 129,x 130,x 131,x 132,x 133,x 134,x 135,x 136,x 137,x 138,x 139,x 140,x 141,x 142,x 143,x 144,x 145,x 146,x 147,x 148,x 149,x 150,x 151,x 152,x 153,x 154,x 155,x 156,x 157,x 158,x 159,x 160,x 161,x 162,x 163,x 164,x 165,x 166,x 167,x 168,x 169]
def lmJ2(i8:Nat)(L:List Ent)(i n:Nat)(H K0:Hp)(fr:List AV)(K:Hp):Prop:=∃(j:Nat),j<=n/\MS K0 K L (fun i' m=>i'<i\/(i'=i/\m<j))/\
 ∃x:Nat->AV,fr=[x 0,x 1,x 2,x 3,x 4,.ptr (some (H.length+2,0)),x 6,x 7,.ptr (some (i8,0)),.sl true 1 (qd8 L),x 10,x 11,x 12,x 13,x 14,x 15,x 16,x 17,x 18,.int .i64 (i:Int),.int .i64 (j:Int),x 21,x 22,x 23,x 24,x 25,x 26,x 27,x 28,x 29,x 30,x 31,x 32,x 33,x 34,x 35,x 36,x 37,x 38,x 39,x 40,x 41,x 42,x 43,x 44,x 45,x 46,x 47,x 48,x 49,x 50,x 51,x 52,x 53,x 54,x 55,x 56,x 57,x 58,x 59,x 60,x 61,x 62,x 63,x 64,x 65,x 66,x 67,x 68,x 69,x 70,x 71,x 72,x 73,x 74,x 75,x 76,x 77,x 78,x 79,x 80,x 81,x 82,x 83,x 84,x 85,x 86,x 87,x 88,x 89,x 90,x 91,x 92,x 93,x 94,x 95,x 96,x 97,x 98,x 99,x 100,x 101,x 102,x 103,x 104,x 105,x 106,x 107,x 108,x 109,x 110,x 111,x 112,x 113,x 114,x 115,x 116,x 117,x 118,x 119,x 120,x 121,x 122,x 123,x 124,x 125,x 126,x 127,x 128,x 129,x 130,x 131,x 132,x 133,x 134,x 135,x 136,x 137,x 138,x 139,x 140,x 141,x 142,x 143,x 144,x 145,x 146,x 147,x 148,x 149,x 150,x 151,x 152,x 153,x 154,x 155,x 156,x 157,x 158,x 159,x 160,x 161,x 162,x 163,x 164,x 165,x 166,x 167,x 168,x 169]
def lmI3(i8:Nat)(L:List Ent)(H K0:Hp)(fr:List AV)(K:Hp):Prop:=∃(i:Nat),i<=L.length/\MS K0 K L (fun _ _=>True)/\
 ∃x:Nat->AV,fr=[x 0,x 1,x 2,x 3,x 4,.ptr (some (H.length+2,0)),x 6,x 7,.ptr (some (i8,0)),.sl true 1 (qd8 L),x 10,x 11,x 12,x 13,x 14,x 15,x 16,x 17,x 18,x 19,x 20,.int .i64 (i:Int),x 22,x 23,x 24,x 25,x 26,x 27,x 28,x 29,x 30,x 31,x 32,x 33,x 34,x 35,x 36,x 37,x 38,x 39,x 40,x 41,x 42,x 43,x 44,x 45,x 46,x 47,x 48,x 49,x 50,x 51,x 52,x 53,x 54,x 55,x 56,x 57,x 58,x 59,x 60,x 61,x 62,x 63,x 64,x 65,x 66,x 67,x 68,x 69,x 70,x 71,x 72,x 73,x 74,x 75,x 76,x 77,x 78,x 79,x 80,x 81,x 82,x 83,x 84,x 85,x 86,x 87,x 88,x 89,x 90,x 91,x 92,x 93,x 94,x 95,x 96,x 97,x 98,x 99,x 100,x 101,x 102,x 103,x 104,x 105,x 106,x 107,x 108,x 109,x 110,x 111,x 112,x 113,x 114,x 115,x 116,x 117,x 118,x 119,x 120,x 121,x 122,x 123,x 124,x 125,x 126,x 127,x 128,x 129,x 130,x 131,x 132,x 133,x 134,x 135,x 136,x 137,x 138,x 139,x 140,x 141,x 142,x 143,x 144,x 145,x 146,x 147,x 148,x 149,x 150,x 151,x 152,x 153,x 154,x 155,x 156,x 157,x 158,x 159,x 160,x 161,x 162,x 163,x 164,x 165,x 166,x 167,x 168,x 169]
def lmJ3(i8:Nat)(L:List Ent)(i n:Nat)(v:AV)(H K0:Hp)(fr:List AV)(K:Hp):Prop:=∃(y:Nat) (g:AV),y<=20/\MS K0 K L (fun _ _=>True)/\
 BX K (fun d=>K0.length<=d/\((∃o n c k,v= .bx d o n c k)\/∀(i':Nat) (e':Ent) (o n c k:Nat),L[i']? =some e'->e'.v≠ .bx d o n c k)) 2 g (n+y) T2/\
 ∃x:Nat->AV,fr=[x 0,x 1,x 2,x 3,x 4,.ptr (some (H.length+2,0)),x 6,x 7,.ptr (some (i8,0)),.sl true 1 (qd8 L),x 10,x 11,x 12,x 13,x 14,x 15,x 16,x 17,x 18,x 19,x 20,.int .i64 (i:Int),g,.int .i64 (y:Int),x 24,x 25,x 26,x 27,x 28,x 29,x 30,x 31,x 32,x 33,x 34,x 35,x 36,x 37,x 38,x 39,x 40,x 41,x 42,x 43,x 44,x 45,x 46,x 47,x 48,x 49,x 50,x 51,x 52,x 53,x 54,x 55,x 56,x 57,x 58,x 59,x 60,x 61,x 62,x 63,x 64,x 65,x 66,x 67,x 68,x 69,x 70,x 71,x 72,x 73,x 74,x 75,x 76,x 77,x 78,x 79,x 80,x 81,x 82,x 83,x 84,x 85,x 86,x 87,x 88,x 89,x 90,x 91,x 92,x 93,x 94,x 95,x 96,x 97,x 98,x 99,x 100,x 101,x 102,x 103,x 104,x 105,x 106,x 107,x 108,x 109,x 110,x 111,x 112,x 113,x 114,x 115,x 116,x 117,x 118,x 119,x 120,x 121,x 122,x 123,x 124,x 125,x 126,x 127,x 128,x 129,x 130,x 131,x 132,x 133,x 134,x 135,x 136,x 137,x 138,x 139,x 140,x 141,x 142,x 143,x 144,x 145,x 146,x 147,x 148,x 149,x 150,x 151,x 152,x 153,x 154,x 155,x 156,x 157,x 158,x 159,x 160,x 161,x 162,x 163,x 164,x 165,x 166,x 167,x 168,x 169]
def lmI4(i8:Nat)(L:List Ent)(H K0 K1:Hp)(fr:List AV)(K:Hp):Prop:=K=K1/\∃(i:Nat),i<=L.length/\
 ∃x:Nat->AV,fr=[x 0,x 1,x 2,x 3,x 4,.ptr (some (H.length+2,0)),x 6,x 7,.ptr (some (i8,0)),.sl true 1 (qd8 L),x 10,x 11,x 12,x 13,x 14,x 15,x 16,x 17,x 18,x 19,x 20,x 21,x 22,x 23,.int .i64 (i:Int),x 25,x 26,x 27,x 28,x 29,x 30,x 31,x 32,x 33,x 34,x 35,x 36,x 37,x 38,x 39,x 40,x 41,x 42,x 43,x 44,x 45,x 46,x 47,x 48,x 49,x 50,x 51,x 52,x 53,x 54,x 55,x 56,x 57,x 58,x 59,x 60,x 61,x 62,x 63,x 64,x 65,x 66,x 67,x 68,x 69,x 70,x 71,x 72,x 73,x 74,x 75,x 76,x 77,x 78,x 79,x 80,x 81,x 82,x 83,x 84,x 85,x 86,x 87,x 88,x 89,x 90,x 91,x 92,x 93,x 94,x 95,x 96,x 97,x 98,x 99,x 100,x 101,x 102,x 103,x 104,x 105,x 106,x 107,x 108,x 109,x 110,x 111,x 112,x 113,x 114,x 115,x 116,x 117,x 118,x 119,x 120,x 121,x 122,x 123,x 124,x 125,x 126,x 127,x 128,x 129,x 130,x 131,x 132,x 133,x 134,x 135,x 136,x 137,x 138,x 139,x 140,x 141,x 142,x 143,x 144,x 145,x 146,x 147,x 148,x 149,x 150,x 151,x 152,x 153,x 154,x 155,x 156,x 157,x 158,x 159,x 160,x 161,x 162,x 163,x 164,x 165,x 166,x 167,x 168,x 169]
def lmJ4(i8:Nat)(L:List Ent)(i n:Nat)(H K0 K1:Hp)(fr:List AV)(K:Hp):Prop:=K=K1/\∃(j:Nat),j<=n/\
 ∃x:Nat->AV,fr=[x 0,x 1,x 2,x 3,x 4,.ptr (some (H.length+2,0)),x 6,x 7,.ptr (some (i8,0)),.sl true 1 (qd8 L),x 10,x 11,x 12,x 13,x 14,x 15,x 16,x 17,x 18,x 19,x 20,x 21,x 22,x 23,.int .i64 (i:Int),.int .i64 (j:Int),x 26,x 27,x 28,x 29,x 30,x 31,x 32,x 33,x 34,x 35,x 36,x 37,x 38,x 39,x 40,x 41,x 42,x 43,x 44,x 45,x 46,x 47,x 48,x 49,x 50,x 51,x 52,x 53,x 54,x 55,x 56,x 57,x 58,x 59,x 60,x 61,x 62,x 63,x 64,x 65,x 66,x 67,x 68,x 69,x 70,x 71,x 72,x 73,x 74,x 75,x 76,x 77,x 78,x 79,x 80,x 81,x 82,x 83,x 84,x 85,x 86,x 87,x 88,x 89,x 90,x 91,x 92,x 93,x 94,x 95,x 96,x 97,x 98,x 99,x 100,x 101,x 102,x 103,x 104,x 105,x 106,x 107,x 108,x 109,x 110,x 111,x 112,x 113,x 114,x 115,x 116,x 117,x 118,x 119,x 120,x 121,x 122,x 123,x 124,x 125,x 126,x 127,x 128,x 129,x 130,x 131,x 132,x 133,x 134,x 135,x 136,x 137,x 138,x 139,x 140,x 141,x 142,x 143,x 144,x 145,x 146,x 147,x 148,x 149,x 150,x 151,x 152,x 153,x 154,x 155,x 156,x 157,x 158,x 159,x 160,x 161,x 162,x 163,x 164,x 165,x 166,x 167,x 168,x 169]
theorem qrY(hE:PE E)(a b c d:Int)(s:List UInt8)(hs:s.length<=4194304)(hQ:Q (.bool true) H):PC Tryz.prog E 6 [limV a b c d,.str s] H Q:=by
 refine qac Tryz.func6 rfl [78,133] [(27,[0,0,0,0,0,0,0,0,0,1]),(35,[0,0,0,3,0]),(42,[0,0,0,0,0,0,0,0,0,0,0,0,1])] (by kernel_rfl) (fun hB=>?_);simp[Tryz.ntmps6,Tryz.results6,List.replicate_succ,limV];refine qjS E _ a b c d (fun h0 hBn=>?_) (fun h0=>?_);rotate_left
 ·have h1:(chkE a b c d==0)=false:=by simpa using h0
  have h2:(chkE a b c d !=0)=true:=by simpa using h0
  simp;refine qhd E _ a b c d ?_;simp;refine qiW E _ hE ?_;simp;refine qje E _ a b c d ?_;simp[h1,h2];exact aQy hB (v:= .bool true) (h6:=hQ)
 simp[nwH];refine qhd E _ a b c d ?_;simp;refine qiW E _ hE ?_;simp;refine qje E _ a b c d ?_;simp[h0];obtain⟨Ka,hKa⟩:∃Ka:Hp,H++[[AV.int .i64 a,AV.int .i64 b,AV.int .i64 c,AV.int .i64 d],[AV.int .i64 a,AV.int .i64 b,AV.int .i64 c,AV.int .i64 d],(newP a b c d).av (H.length+2) 0,[AV.int .i64 a,AV.int .i64 b,AV.int .i64 c,AV.int .i64 d]]=Ka:=⟨_,rfl⟩
 have hla:Ka.length=H.length+4:=by rw[<-hKa];simp
 have hpa:PB Ka (H.length+2) 0 (newP a b c d):=⟨by rw[<-hKa];simp,fun d hd=>by simp[newP]at hd⟩
 have ka0:Ka[H.length]? =some [AV.int .i64 a,AV.int .i64 b,AV.int .i64 c,AV.int .i64 d]:=by rw[<-hKa];simp
 have ka3:Ka[H.length+3]? =some [AV.int .i64 a,AV.int .i64 b,AV.int .i64 c,AV.int .i64 d]:=by rw[<-hKa];simp
 have kaH:∀i,i<H.length->Ka[i]? =H[i]? :=fun i hi=>by rw[<-hKa];exact zqA hi
 rw[hKa];clear hKa hBn;have hfl:=qeS (newP a b c d) s;refine qhK E _ hpa (fun _=>qeJ h0) (fun E2 h02 hF2=>qn2 E2 (hE.env h02 hF2)) s (by omega) (by omega) (fun j Kb hpb hjb hob hBb=>?_);have hlb:=hob.1;have hoth:∀i,i<Ka.length->i≠H.length+2->Kb[i]? =Ka[i]? :=fun i h1 h2=>hob.2 i h1 h2 (fun e=>by simp[newP]at e);have kb3:Kb[H.length+3]? =some [AV.int .i64 a,AV.int .i64 b,AV.int .i64 c,AV.int .i64 d]:=by rw[hoth _ (by omega) (by omega)];exact ka3
 have kb0:Kb[H.length]? =some [AV.int .i64 a,AV.int .i64 b,AV.int .i64 c,AV.int .i64 d]:=by rw[hoth _ (by omega) (by omega)];exact ka0
 have kbH:∀i,i<H.length->Kb[i]? =H[i]? :=fun i hi=>by rw[hoth _ (by omega) (by omega)];exact kaH i hi
 have hzd:=qsc h0 s hs;obtain⟨P,hP⟩:=exz ((qan (newP a b c d) s).1);rw[hP]at hpb hzd;simp[kb3];refine dat_pc E _ a b c d h0 s hs ?_;rw[hP];obtain⟨X,hX⟩:=exz (qaO P);rw[hX];simp[Lk.av,Rq.avs];obtain⟨i8,hi8⟩:=exz (Kb.length);obtain⟨K0,hK0⟩:∃K0:Hp,Kb++[lkR X]=K0:=⟨_,rfl⟩
 have hK0':=hK0;simp only[lkR]at hK0';rw[hK0',hi8];have hl0:K0.length=i8+1:=by rw[<-hK0,<-hi8];simp
 have hp0:PB K0 (H.length+2) j P:=by rw[<-hK0];exact hpb.app _
 have k8:K0[i8]? =some (lkR X):=by rw[<-hK0,<-hi8];simp
 have k00:K0[H.length]? =some [AV.int .i64 a,AV.int .i64 b,AV.int .i64 c,AV.int .i64 d]:=by rw[<-hK0,zqA (by omega)];exact kb0
 have k0H:∀i,i<H.length->K0[i]? =H[i]? :=fun i hi=>by rw[<-hK0,zqA (by omega)];exact kbH i hi
 have hB0:BndH K0.length K0:=by
  rw[<-hK0];exact qbc (qby hBb (by simp)) fun l hl x hx=>by simp only[List.mem_cons,List.not_mem_nil,or_false]at hl;subst hl;exact qrZ X _ x hx
 have hHl:H.length+4<=i8:=by omega
 clear hK0 hK0' hi8 hpb hBb kb3 kb0 kbH hoth hob hjb hlb hla hpa ka0 ka3 kaH hfl
 have stnd:∀(K:Hp) (L:List Ent) (M:Nat->Nat->Prop) (Q':AV->Hp->Prop),MS K0 K L M->Q' (.bool true) K->PC Tryz.prog E 32 [.ptr (some (H.length+2,0)),.agg (lkR X)] K Q':=fun K L M Q' hS hq=>by
  have:=qlP E Q' (hp0.on hS.keep) hzd hq;rw[hX]at this;exact this
 refine qaB (lmI1 s i8 H K0) (fun fr _=>3-(ai (aget fr 10)).toNat) ⟨0,[],by omega,rfl,⟨Nat.le_refl _,fun _ _=>rfl,hB0,(fun i e he=>by simp at he),(fun i i' e e' _ he=>by simp at he)⟩,qal (by simp[qd8])⟩ ?_;rintro fr K ⟨k,L,hk,hLk,hS,x,rfl⟩;have g8:K[i8]? =some (lkR X):=by rw[hS.keep _ (by omega)];exact k8
 have hKl:=hS.len;by_cases hk3:k<3
 ·have hk3':(k:Int)<3:=by omega
  have hw:IntKind.i64.wrap ((k:Int)+1)=k+1:=wiz;have g8':=g8;simp only[lkR]at g8';simp[hk3',g8'];refine stnd K L _ _ hS ?_;simp;refine qr9 E _ (hp0.on hS.keep) hzd.len (fun r1 v1 n1 b1 K1 hl1 hk1 hv1 hn1 hB1=>?_);obtain⟨v1f,v1o,v1d,v1b⟩:=BX.facts hv1;simp[rqV,v1f,v1o,v1d];have A1:=(hS.on hl1 hk1 hB1).snoc hl1 hS.len hv1 hn1 (hS.apart (Nat.le_refl _) hv1);have v1b':Bnd (K1.length+1) v1:=v1b.mono (by omega);obtain⟨Kc,hKc⟩:∃Kc:Hp,K1++[[AV.str r1.meth,.str r1.targ,.int .i64 r1.major,.int .i64 r1.minor,v1,.str r1.body,.nil]]=Kc:=⟨_,rfl⟩
  have hlc:Kc.length=K1.length+1:=by rw[<-hKc];simp
  have kc1:Kc[K1.length]? =some [AV.str r1.meth,.str r1.targ,.int .i64 r1.major,.int .i64 r1.minor,v1,.str r1.body,.nil]:=by rw[<-hKc];simp
  have B1:MS K0 Kc (L++[⟨v1,n1⟩]) (fun _ _=>False):=by
   rw[<-hKc];exact A1.on (by simp) (fun i hi=>zqA hi) (qbc (qby hB1 (by simp)) fun l hl x hx=>by simp only[List.mem_cons,List.not_mem_nil,or_false]at hl;subst hl;exact qjF r1 (v1b.mono (by simp)) .nil x hx)
  rw[hKc];clear A1 hKc;refine qlF E _ (hp0.on B1.keep) hzd.len (fun r2 v2 t2 n2 m2 b2 K2 hl2 hk2 hv2 ht2 hd2 hn2 hm2 hB2=>?_);obtain⟨v2f,v2o,v2d,v2b⟩:=BX.facts hv2;obtain⟨t2f,t2o,t2d,t2b⟩:=BX.facts ht2;simp[rqV,v2f,v2o,v2d,t2f,t2o,t2d];have A2:=(B1.on hl2 hk2 hB2).snoc2 hl2 B1.len hv2 ht2 hn2 hm2 hd2 (B1.apart (Nat.le_refl _) hv2) (B1.apart (Nat.le_refl _) ht2);obtain⟨Kd,hKd⟩:∃Kd:Hp,K2++[[AV.str r2.meth,.str r2.targ,.int .i64 r2.major,.int .i64 r2.minor,v2,.str r2.body,t2]]=Kd:=⟨_,rfl⟩
  have hld:Kd.length=K2.length+1:=by rw[<-hKd];simp
  have kd2:Kd[K2.length]? =some [AV.str r2.meth,.str r2.targ,.int .i64 r2.major,.int .i64 r2.minor,v2,.str r2.body,t2]:=by rw[<-hKd];simp
  have kd1:Kd[K1.length]? =some [AV.str r1.meth,.str r1.targ,.int .i64 r1.major,.int .i64 r1.minor,v1,.str r1.body,.nil]:=by rw[<-hKd,zqA (by omega),hk2 _ (by omega)];exact kc1
  have B2:MS K0 Kd (L++[⟨v1,n1⟩]++[⟨v2,n2⟩]++[⟨t2,m2⟩]) (fun _ _=>False):=by
   rw[<-hKd];exact A2.on (by simp) (fun i hi=>zqA hi) (qbc (qby hB2 (by simp)) fun l hl x hx=>by simp only[List.mem_cons,List.not_mem_nil,or_false]at hl;subst hl;exact qjF r2 (v2b.mono (by simp)) (t2b.mono (by simp)) x hx)
  have kd0:Kd[H.length]? =some [AV.int .i64 a,AV.int .i64 b,AV.int .i64 c,AV.int .i64 d]:=by rw[B2.keep _ (by omega)];exact k00
  rw[hKd];clear A2 hKd;simp[kd0];refine qo4 E _ hE a b c d s hs h0 (fun r3 v3 t3 n3 m3 N f1 f2 f3 kk K3 hl3 hk3 hv3 ht3 hd3 hn3 hm3 hB3=>?_);obtain⟨v3f,v3o,v3d,v3b⟩:=BX.facts hv3;obtain⟨t3f,t3o,t3d,t3b⟩:=BX.facts ht3;have A3:=(B2.on hl3 hk3 hB3).snoc2 hl3 B2.len hv3 ht3 hn3 hm3 hd3 (B2.apart (Nat.le_refl _) hv3) (B2.apart (Nat.le_refl _) ht3);have q1:∀J:Hp,(K3++J)[K1.length]? =some [AV.str r1.meth,.str r1.targ,.int .i64 r1.major,.int .i64 r1.minor,v1,.str r1.body,.nil]:=fun J=>by rw[zqA (by omega),hk3 _ (by omega)];exact kd1
  have q2:∀J:Hp,(K3++J)[K2.length]? =some [AV.str r2.meth,.str r2.targ,.int .i64 r2.major,.int .i64 r2.minor,v2,.str r2.body,t2]:=fun J=>by rw[zqA (by omega),hk3 _ (by omega)];exact kd2
  have m1:L.length+5<=maxLen:=by unfold maxLen;omega
  have m2':(L.length+5)*24<=140737488355328:=by omega
  have hrw:qd8 L++[[v1],[v2],[t2],[v3],[t3]]=qd8 (L++[⟨v1,n1⟩]++[⟨v2,n2⟩]++[⟨t2,m2⟩]++[⟨v3,n3⟩]++[⟨t3,m3⟩]):=by simp[qd8]
  have e1:=BX.acells hv1;have e2:=BX.acells hv2;have e3:=BX.acells ht2;have e4:=BX.acells hv3;have e5:=BX.acells ht3;have e0:∀l:List AV,acells (.agg l)=some l:=fun _=>rfl;simp[rqV,v3f,v3o,v3d,t3f,t3o,t3d,q1,q2,v1f,v1o,v1d,v2f,v2o,v2d,t2f,t2o,t2d,-acells,e0,e1,e2,e3,e4,e5,qcu,m1,m2',hrw,hw,show List.range 5=[0,1,2,3,4]from rfl];refine Klz ⟨k+1,_,by omega,?_,A3.on (K':=K3++[[AV.str r3.meth,.str r3.targ,.int .i64 r3.major,.int .i64 r3.minor,v3,.str r3.body,t3],[AV.int .i64 f1,.int .i64 f2,.int .i64 f3]]) (by simp) (fun i hi=>zqA hi) ?_,friz⟩
  ·simp[hLk];omega
  ·refine qbc (qby hB3 (by simp)) fun l hl x hx=>?_;simp only[List.mem_cons,List.not_mem_nil,or_false]at hl;rcases hl with rfl|rfl
   ·exact qjF r3 (v3b.mono (by simp)) (t3b.mono (by simp)) x hx
   ·simp only[List.mem_cons,List.not_mem_nil,or_false]at hx;rcases hx with rfl|rfl|rfl<;>exact .int _ _
 obtain rfl:k=3:=by omega
 clear hk hk3 g8 hKl
 have hbig:∀e∈L,e.n<=16777216:=fun e he=>by
  obtain⟨i,hi⟩:=List.getElem?_of_mem he;exact(hS.bx i e hi).2
 simp;refine qaB (lmI2 i8 L H K0) (fun fr _=>L.length-(ai (aget fr 19)).toNat) ⟨0,by omega,hS.wk (fun _ _ h=>by omega),friz⟩ ?_;clear hS x;rintro fr K ⟨i,hi,hS,x,rfl⟩;have hw:IntKind.i64.wrap ((i:Int)+1)=i+1:=wiz;by_cases h:i<L.length
 ·obtain⟨⟨v,n⟩,he⟩:∃e,L[i]? =some e:=⟨_,zqD h⟩
  have hat:=qhG he;have hn:=hbig _ (zqH he);simp only at hat hn;simp[h,qcu];refine qaB (lmJ2 i8 L i n H K0) (fun fr _=>n-(ai (aget fr 20)).toNat) ⟨0,by omega,hS.wk (fun _ _ h=>by omega),friz⟩ ?_;clear hS x;rintro fr K ⟨j,hj,hS,x,rfl⟩;have hb:=(hS.bx i _ he).1;simp only at hb;obtain⟨vf,vo,vd,vb⟩:=hb.facts;have hvl:∀t,(tsl Tryz.prog t).isSome=true->alen Tryz.prog t v=some (.int .i64 n):=fun t h=>hb.alen h;have hwj:IntKind.i64.wrap ((j:Int)+1)=j+1:=wiz;by_cases h2:j<n
  ·rcases hb with⟨e0,_⟩|⟨vi,c2,A,q1,rfl,q2,q3,q4,q5,q6,q7⟩
   ·omega
   have hle:j*2+2<=A.length:=by omega
   have w1:IntKind.i64.wrap (1000*(i:Int))=((1000*i:Nat):Int):=by rw[qah (by omega) (by omega)];omega
   have w2:IntKind.i64.wrap (((1000*i:Nat):Int)+(j:Int))=((1000*i+j:Nat):Int):=by rw[qah (by omega) (by omega)];omega
   have il:=(qhX ((1000*i+j:Nat):Int) (by omega) (by omega)).1;have il2:(4+(Go.Lib.itoa ((1000*i+j:Nat):Int)).length<=maxLen)=True:=qpK (by omega);have il3:((Go.Lib.itoa ((1000*i+j:Nat):Int)).length+4<=maxLen)=True:=qpK (by omega);simp[h2,hat,w1,w2,-Int.natCast_add,-Int.natCast_mul];refine qdA E _ _ ((1000*i+j:Nat):Int) (by omega) (by omega) ?_;simp[qaj,KP,qaf,hat,q2,hle,il2,il3,h2,hwj,-Int.natCast_add,-Int.natCast_mul];exact Klz ⟨j+1,by omega,hS.mark rfl he q2 h2 (fun i' m hm=>by omega),friz⟩
  ·simp[-alen,hvl,h2,hat,vd,hw]
   exact qaC ⟨i+1,by omega,hS.wk2 (fun i' e m he' hm1 hm=>by
    by_cases hii:i'=i
    ·subst hii;rw[he]at he';cases he';exact .inr ⟨rfl,by simp only at hm1;omega⟩
    ·exact .inl (by omega)),friz⟩ (by simp;omega)
 have hS1:MS K0 K L (fun _ _=>True):=hS.wk2 (fun i' e m he' _ _=>by have:=(zqC.1 he').1;omega);clear hS;simp[h,qcu];clear h hi hw;refine qaB (lmI3 i8 L H K0) (fun fr _=>L.length-(ai (aget fr 21)).toNat) ⟨0,by omega,hS1,friz⟩ ?_;clear hS1 x;rintro fr K ⟨i,hi,hS,x,rfl⟩;have hw:IntKind.i64.wrap ((i:Int)+1)=i+1:=wiz;by_cases h:i<L.length
 ·obtain⟨⟨v,n⟩,he⟩:∃e,L[i]? =some e:=⟨_,zqD h⟩
  have hat:=qhG he;have hn:=hbig _ (zqH he);have hb:=(hS.bx i _ he).1;simp only at hat hn hb;obtain⟨vf,vo,vd,vb⟩:=hb.facts;simp[h,qcu,hat,vd];refine qaB (lmJ3 i8 L i n v H K0) (fun fr _=>20-(ai (aget fr 23)).toNat) ⟨0,v,by omega,hS,?_,friz⟩ ?_
  ·exact hb.of_eq (fun _ _ _ _ _ _=>rfl) (fun d o n c k ee=>⟨(hb.lt _ _ _ _ _ ee).1,.inl ⟨o,n,c,k,ee⟩⟩) (fun _ _ _ _ _=>trivial)
  clear hS hb vf vo vb x;rintro fr K ⟨y,g,hy,hS,hg,x,rfl⟩;have hwy:IntKind.i64.wrap ((y:Int)+1)=y+1:=wiz;have hKl:=hS.len;by_cases h2:y<20
  ·have h20:(y:Int)<20:=by omega
   obtain⟨q,hq⟩:=exz (n+y);have hq1:n+(y+1)=q+1:=by omega
   rw[hq]at hg;have m0:1<=maxLen:=by unfold maxLen;omega
   have m1:q+1<=maxLen:=by unfold maxLen;omega
   have m2:(q+1)*32<=140737488355328:=by omega
   have hnew:∀(i':Nat) (e':Ent) (o n c k:Nat),L[i']? =some e'->e'.v≠ .bx K.length o n c k:=fun i' e' o n c k he' ee=>by
    have:=((hS.bx i' e' he').1.lt _ _ _ _ _ ee).2;omega
   have hCC:∀(m:Nat) (u:AV),m<(q+1)*2->(if q*2<=m then([.str [103,114,111,119,110],.str []]:List AV)[m-q*2]? =some u else T2 m u)->T2 m u:=fun _ _ _ _=>trivial;rcases id hg with⟨e0,rfl⟩|⟨gi,gc,A,hgi,rfl,hA,g3,g4,g5,g6,g7⟩
   ·subst e0;simp[h20,m0];refine qbA fun cc hc1 hc2=>?_;simp[hwy];obtain⟨b1,b2⟩:=BX.grow (K:=K) (G:=fun d=>K0.length<=d/\((∃o n c k,v= .bx d o n c k)\/∀(i':Nat) (e':Ent) (o n c k:Nat),L[i']? =some e'->e'.v≠ .bx d o n c k)) (n:=0) (k:=2) (C:=T2) (C':=T2) (c':=cc) (L:=[]) (r:=[.str [103,114,111,119,110],.str []]) (z:=[.str [],.str []]) (by simp) (by simp) (fun _ _ h=>by omega) (by omega) hc2 ⟨hKl,.inr hnew⟩ rfl (by simp) rfl (by simp) hCC;simp only[List.nil_append,List.cons_append,Nat.zero_add]at b1 b2;exact Klz ⟨y+1,_,by omega,hS.on (by simp) (fun i hi=>zqA hi) (qbc (qby hS.bd (by simp)) fun l hl z hz=>by simp only[List.mem_cons,List.not_mem_nil,or_false]at hl;subst hl;exact(b2 z hz).bnd _),by rw[hq1];exact b1,friz⟩
   ·have hfree:(∀y∈A.take (q*2),y.free=true)=True:=eq_true fun y hy=>(g6 y (List.mem_of_mem_take hy)).free;have hA1:q*2<=A.length:=by omega
    by_cases hroom:q+1<=gc
    ·have hA3:(q+1)*2<=A.length:=by omega
     simp[h20,hA,hfree,hroom,hA1,hA3,hwy];obtain⟨b1,b2⟩:=hg.room hA hroom (r:=[.str [103,114,111,119,110],.str []]) rfl (by simp) (C':=T2) hCC;simp only[List.nil_append,List.cons_append]at b1 b2;have hlen:(A.take (q*2)++ .str [103,114,111,119,110]:: .str []::A.drop (q*2+2)).length=A.length:=by simp;omega
     have hS2:MS K0 (K.set gi (A.take (q*2)++ .str [103,114,111,119,110]:: .str []::A.drop (q*2+2))) L (fun _ _=>True):=by
      rcases hgi.2 with⟨o,n',c',k',hee⟩|hee
      ·have hb2:=(hS.bx i _ he).1;simp only at hb2;rcases hb2 with⟨_,e1⟩|⟨vi,c2,A2,p1,e1,p2,p3,p4,p5,p6,p7⟩
       ·rw[e1]at hee;cases hee
       ·rw[e1]at hee;cases hee;subst e1;exact hS.same he hA hlen b2 (fun m hm=>by rw[zqA (by rw[zqJ];omega),zqG (by omega)])
      ·exact hS.other hgi.1 hee b2
     exact Klz ⟨y+1,_,by omega,hS2,by rw[hq1];exact b1,friz⟩
    ·simp[h20,hA,hfree,hroom,hA1,m1,m2];refine qbA fun cc hc1 hc2=>?_;simp[hwy];obtain⟨a1,a2,a3,a4,a5,a6,a7,a8,a9⟩:=hg.cells hA;obtain⟨b1,b2⟩:=BX.grow (K:=K) (G:=fun d=>K0.length<=d/\((∃o n c k,v= .bx d o n c k)\/∀(i':Nat) (e':Ent) (o n c k:Nat),L[i']? =some e'->e'.v≠ .bx d o n c k)) (n:=q) (k:=2) (C:=T2) (C':=T2) (c':=cc) (L:=A.take (q*2)) (r:=[.str [103,114,111,119,110],.str []]) (z:=[.str [],.str []]) a1 (fun y hy=>a2 y (List.mem_of_mem_take hy)) (fun _ _ _ _=>trivial) hc1 hc2 ⟨hKl,.inr hnew⟩ rfl (by simp) rfl (by simp) hCC;simp only[List.nil_append,List.cons_append]at b1 b2;exact Klz ⟨y+1,_,by omega,hS.on (by simp) (fun i hi=>zqA hi) (qbc (qby hS.bd (by simp)) fun l hl z hz=>by simp only[List.mem_cons,List.not_mem_nil,or_false]at hl;subst hl;exact(b2 z hz).bnd _),by rw[hq1];exact b1,friz⟩
  ·obtain rfl:y=20:=by omega
   simp[hw];exact Klz ⟨i+1,by omega,hS,friz⟩
 simp[h,qcu];clear h hi hw;have g8:K[i8]? =some (lkR X):=by rw[hS.keep _ (by have:=hS.len;omega)];exact k8
 have hKl:=hS.len;simp only[lkR]at g8;refine qaB (lmI4 i8 L H K0 K) (fun fr _=>L.length-(ai (aget fr 24)).toNat) ⟨rfl,0,by omega,friz⟩ ?_;rintro fr K ⟨rfl,i,hi,x,rfl⟩;have hw:IntKind.i64.wrap ((i:Int)+1)=i+1:=wiz;by_cases h:i<L.length
 ·obtain⟨⟨v,n⟩,he⟩:∃e,L[i]? =some e:=⟨_,zqD h⟩
  have hat:=qhG he;have hn:=hbig _ (zqH he);have hb:=(hS.bx i _ he).1;simp only at hat hn hb;obtain⟨vf,vo,vd,vb⟩:=hb.facts;have hvl:∀t,(tsl Tryz.prog t).isSome=true->alen Tryz.prog t v=some (.int .i64 n):=fun t h=>hb.alen h;simp[h,qcu];refine qaB (lmJ4 i8 L i n H K0 K) (fun fr _=>n-(ai (aget fr 25)).toNat) ⟨rfl,0,by omega,friz⟩ ?_;rintro fr K ⟨rfl,j,hj,x,rfl⟩;have hwj:IntKind.i64.wrap ((j:Int)+1)=j+1:=wiz;by_cases h2:j<n
  ·rcases hb with⟨e0,_⟩|⟨vi,c2,A,q1,rfl,q2,q3,q4,q5,q6,q7⟩
   ·omega
   have hA0:A[j*2]? =some (.str (mkN i j)):=by
    obtain⟨u,hu⟩:∃u,A[j*2]? =some u:=⟨_,zqD (by omega)⟩
    have:=q7 (j*2) u (by omega) hu (by omega) trivial;rw[show j*2/2=j by omega]at this;rw[hu,this]
   have hle:j*2+2<=A.length:=by omega
   have w1:IntKind.i64.wrap (1000*(i:Int))=((1000*i:Nat):Int):=by rw[qah (by omega) (by omega)];omega
   have w2:IntKind.i64.wrap (((1000*i:Nat):Int)+(j:Int))=((1000*i+j:Nat):Int):=by rw[qah (by omega) (by omega)];omega
   have il:=(qhX ((1000*i+j:Nat):Int) (by omega) (by omega)).1;have il2:(4+(Go.Lib.itoa ((1000*i+j:Nat):Int)).length<=maxLen)=True:=qpK (by omega);have il3:((Go.Lib.itoa ((1000*i+j:Nat):Int)).length+4<=maxLen)=True:=qpK (by omega);simp only[mkN,List.cons_append,List.nil_append]at hA0;simp[h2,hat,q2,hA0,hle,w1,w2,-Int.natCast_add,-Int.natCast_mul];refine qdA E _ _ ((1000*i+j:Nat):Int) (by omega) (by omega) ?_;simp[qaj,KP,qaf,hat,q2,hA0,hle,il2,il3,h2,hwj,-Int.natCast_add,-Int.natCast_mul];exact Klz ⟨rfl,j+1,by omega,friz⟩
  ·simp[-alen,hvl,h2,hat,vd,hw];exact Klz ⟨rfl,i+1,by omega,friz⟩
 simp[h,qcu,g8];refine stnd K L _ _ hS ?_;simp;exact qdX hB (by omega) (fun i hi=>by rw[hS.keep _ (by omega)];exact k0H i hi) (by simp) (qaa _) (by simp) hQ
end
theorem qnv(W:World)(cs:Array Value)(ks:List AV)(op:Opened W [.int .i64,.int .i64,.int .i64,.int .i64] cs.toList ks)(s:ByteArray)(hs:s.size<=1048576)(hT:Tabs W)(hM:qfQ W):
  Calls Tryz.prog 6 #[.agg cs,.string s] W fun e w'=>e= .returned (.bool true)/\Frm (fun _=>False) W w':=by
 obtain⟨a,b,c,d,w0,w1,w2,w3,hr⟩:=qjI op;refine qqi (args:=[limV a b c d,.str s.data.toList]) hT hM rfl (fun t x u hx hu=>?_) (fun E Q hE h=>qrY E Q hE.1 a b c d s.data.toList (by rw[qad];omega) h)
 match t with
 |0=>simp at hx hu;subst hx;subst hu;exact hr
 |1=>simp at hx hu;subst hx;subst hu;exact qjH W s hs
 |t+2=>simp at hx
end Go.Proofs.YtnnhdehmlkkfjaaGreatDoor
namespace Go.Proofs.YtnnhdehmlkkfjaaGreatDoor
open Go Go.ChangeShapes Go.WideShapes Go.ChangeAt Go.RowKit Go.Deep
theorem qgY : Tryz.prog.globalNamed "turnpike/octet.signs" = some 0 := by kernel_rfl
theorem qmX:(Tryz.prog.globals[0]?).map (·.type)=some 140:=by kernel_rfl
theorem qis{W : World}{rest : List (String × DataW Unit)}(h : laidMet Tryz.prog (("turnpike/octet.signs", Rows.laid_turnpike_octet_signs) :: rest) W) : qgU W := by
 have ht : Lib.TabIs Tryz.prog W "turnpike/octet.signs" .u32 signTab := Lib.tabIs_of_head (rest := rest) qgY qmX Tryz.underlying140 Tryz.underlying139 (by kernel_rfl) (by kernel_rfl) h
 intro j z hz;have hj:=(zqC.1 hz).1;have:=ht.cell qgY j hj;rw[List.getD,hz]at this;exact this
theorem qof : Tryz.prog.globalNamed "math/bits.deBruijn64tab" = some 4 := by kernel_rfl
theorem dbType:(Tryz.prog.globals[4]?).map (·.type)=some 247:=by kernel_rfl
def dbTab:List Int:=[0,1,56,2,57,49,28,3,61,58,42,50,38,29,17,4,62,47,59,36,45,43,51,22,53,39,33,30,24,18,12,5,63,55,48,27,60,41,37,16,46,35,44,21,52,32,23,11,54,26,40,15,34,20,31,10,25,14,19,9,13,8,7,6]
theorem qmJ{W : World}{rest : List (String × DataW Unit)}(h : laidMet Tryz.prog (("math/bits.deBruijn64tab", Rows.laid_math_bits_deBruijn64tab) :: rest) W) : Tz W := by
 have ht : Lib.TabIs Tryz.prog W "math/bits.deBruijn64tab" .u8 dbTab := Lib.tabIs_of_head (rest := rest) qof dbType Tryz.underlying247 Tryz.underlying5 (by kernel_rfl) (by kernel_rfl) h
 exact ht.cell qof 15 (by decide)
end Go.Proofs.YtnnhdehmlkkfjaaGreatDoor
