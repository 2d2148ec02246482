/- ChunkFeeds, ChunkTwo. -/
import Derived.Test.YtimhofphmgehgaaDoorChZ
set_option linter.unusedVariables false
set_option linter.unnecessarySimpa false
set_option linter.unusedSimpArgs false
set_option linter.unusedSectionVars false
set_option maxRecDepth 100000
namespace Go.Proofs.YtimhofphmgehgaaDoor
open Go Go.RowKit Go.Proofs

@[simp] theorem dptr_dis (p : Option Nat) : (dptr p).dis = dptr p := rfl
@[simp] theorem dptr_free (p : Option Nat) : (dptr p).free = true := rfl
@[simp] theorem dptr_one (p : Option Nat) : (dptr p).one = true := rfl
theorem at_lt {α : Type} {l : List α} {i : Nat} {x : α} (h : l[i]? = some x) : i < l.length := (List.getElem?_eq_some_iff.1 h).1
theorem up_drop {H H' : Hp} (h : H.length ≤ H'.length) (k : ∀ j, j < H.length → H'[j]? = H[j]?) : H' = H ++ H'.drop H.length := by
  refine List.ext_getElem? fun j => ?_
  by_cases hj : j < H.length
  · rw [List.getElem?_append_left hj, k j hj]
  · rw [List.getElem?_append_right (by omega), List.getElem?_drop]; congr 1; omega
theorem aPost_law {P : Program} {rs : List ResultVar} {Q : AV → Hp → Prop} {fr : List AV} {H H' : Hp} {v0 : AV} (hB : BndH H.length H) (hl : H.length ≤ H'.length) (hk : ∀ j, j < H.length → H'[j]? = H[j]?) (h1 : ares P fr H' rs = some v0) (h5 : Bnd H.length v0) (h6 : Q v0 H) :
    aPost P rs H.length Q .ret fr H' := by
  have e := up_drop hl hk
  rw [e] at h1 ⊢
  exact aPost_same hB h1 (nilV_refl _) h5 h6
theorem PlI.of_eq {H H' : Hp} {p : Option Nat} {m r f : Int} {fed : List UInt8} {gone : Bool} (h : PlI H p m r f fed gone) (he : ∀ i, p = some i → H'[i]? = H[i]?) : PlI H' p m r f fed gone := fun i hi => by
  have := h i hi
  rw [he i hi]; exact this
theorem PlI.lt {H : Hp} {p : Option Nat} {m r f : Int} {fed : List UInt8} {gone : Bool} (h : PlI H p m r f fed gone) (i : Nat) (hi : p = some i) : i < H.length := at_lt (h i hi).1
theorem PlI.app {H : Hp} {p : Option Nat} {m r f : Int} {fed : List UInt8} {gone : Bool} (h : PlI H p m r f fed gone) (J : Hp) : PlI (H ++ J) p m r f fed gone :=
  h.of_eq fun i hi => List.getElem?_append_left (h.lt i hi)
theorem PlI.setOther {H : Hp} {p : Option Nat} {m r f : Int} {fed : List UInt8} {gone : Bool} (h : PlI H p m r f fed gone) {k : Nat} (hk : p ≠ some k) (row : List AV) : PlI (H.set k row) p m r f fed gone :=
  h.of_eq fun i hi => List.getElem?_set_ne (fun e => hk (by rw [e]; exact hi))
def prow (p : Option Nat) (m r f : Int) (fed : List UInt8) (gone : Bool) : List AV := [dptr p, .int .i64 m, .int .i64 r, .int .i64 f, .str fed, .bool gone]
def cops (l : List COp) : List (List AV) := l.map COp.av
@[simp] theorem cops_len (l : List COp) : (cops l).length = l.length := by simp [cops]
theorem cops_at {l : List COp} {i : Nat} {o : COp} (h : l[i]? = some o) : lat (cops l) i = some o.av := by simp [lat, cops, h]
def COp.wf (o : COp) : Prop := -9223372036854775808 ≤ o.k ∧ o.k ≤ 9223372036854775807
def txs : List COp → Nat
  | [] => 0
  | o :: l => o.s.length + txs l
theorem txs_drop {l : List COp} {i : Nat} {o : COp} (h : l[i]? = some o) : txs (l.drop i) = o.s.length + txs (l.drop (i + 1)) := by
  rw [List.drop_eq_getElem_cons (at_lt h), (List.getElem?_eq_some_iff.1 h).2]; rfl
section
variable (E : Env) (H : Hp) (Q : AV → Hp → Prop)
theorem pstep_pc (hE : SE E) (p : Option Nat) (m r f : Int) (fed : List UInt8) (gone : Bool) (o : COp) (hI : PlI H p m r f fed gone) (hk : o.wf) (hl : fed.length + o.s.length ≤ 1000000000)
    (hQ : ∀ H' fed' gone', PlI H' p m r f fed' gone' → StI H H' p → fed'.length ≤ fed.length + o.s.length → BndH H'.length H' → Q (.tup [pv p m r f fed' gone', .bool true]) H') :
    PC Tryd.prog E 25 [pv p m r f fed gone, .agg o.av] H Q := by
  cases p with
  | some i => exact step1_pc E H Q hE i m r f fed gone o hI hk hl hQ
  | none => exact PC.bnd (step0_pc E H _ m r f fed gone o hk hl (fun hb _ => hQ H fed gone (fun i h => by cases h) ⟨rfl, fun _ _ => rfl⟩ (by omega) hb))
def feedI (H : Hp) (sc : List COp) (p : Option Nat) (m r f : Int) (b : Nat) (fr : List AV) (H' : Hp) : Prop := ∃ i : Nat, i ≤ sc.length ∧ ∃ fed gone, PlI H' p m r f fed gone ∧ H.length ≤ H'.length ∧ (∀ j, j < H.length → H'[j]? = H[j]?) ∧
  H'[b]? = some (prow p m r f fed gone) ∧ p ≠ some b ∧ H.length ≤ b ∧ (∀ k, p = some k → H.length ≤ k) ∧ fed.length + txs (sc.drop i) ≤ 1048576 ∧
  ∃ x : Nat → AV, fr = [x 0, x 1, x 2, x 3, x 4, .ptr (some (b, 0)), x 6, x 7, x 8, x 9, x 10, x 11, x 12, x 13, x 14, x 15, x 16, x 17, .sl false 2 (cops sc), .int .i64 sc.length, .int .i64 i, x 21, x 22, x 23, x 24, x 25, x 26, x 27, x 28, x 29, x 30, x 31, x 32]
set_option maxHeartbeats 4000000 in
theorem lfeeds_pc (hE : SE E) (m r f : Int) (h1 : m ≤ 9223372036854775807) (h2 : r ≤ 9223372036854775807) (h3 : f ≤ 9223372036854775807) (sc : List COp) (hl : sc.length ≤ 1048576) (hok : ∀ o ∈ sc, o.wf) (ht : txs sc ≤ 1048576) (hQ : Q (.bool true) H) :
    PC Tryd.prog E 6 [.agg [.int .i64 m, .int .i64 r, .int .i64 f], .sl false 2 (cops sc)] H Q := by
  refine pc_enter Tryd.func6 rfl [] [] (by kernel_rfl) (fun hB => ?_)
  simp [Tryd.ntmps6, Tryd.results6, List.replicate_succ]
  refine lawake_pc E _ _ hE ?_
  simp
  refine begun_pc E _ _ m r f h1 h2 h3 (fun p H1 hp0 hpk hlt0 hlen0 hkeep0 hbn0 => ?_)
  simp at hpk hlen0
  have hkp : ∀ j, j < H.length → H1[j]? = H[j]? := fun j hj => by rw [hkeep0 j (by simp; omega), List.getElem?_append_left hj]
  simp [pv]
  refine VL_go (feedI H sc p m r f H1.length) (fun fr _ => sc.length - (ai (aget fr 20)).toNat) ⟨0, by omega, [], false, hp0.app _, by simp; omega, fun j hj => by rw [List.getElem?_append_left (by omega)]; exact hkp j hj, by simp [prow], fun e => by have := hlt0 _ e; omega, by omega, fun k e => by have := hpk k e; omega, by simpa using ht, fr_intro (by simp)⟩ ?_
  rintro fr H' ⟨i, hi, fed, gone, hpl, hlen, hkeep, hb, hpb, hHb, hpk2, htx, x, rfl⟩
  by_cases h : i < sc.length
  · obtain ⟨o, ho⟩ : ∃ o, sc[i]? = some o := ⟨_, List.getElem?_eq_getElem h⟩
    have hat := cops_at ho
    have hoo := hok o (List.mem_of_getElem? ho)
    have hw' : IntKind.i64.wrap ((i : Int) + 1) = i + 1 := wrap_in (by omega) (by omega)
    have hbl := at_lt hb
    have htx2 := txs_drop ho
    have hb' := hb
    simp only [prow] at hb'
    simp [h, hat, COp.av, hb', hs0 hbl]
    refine pstep_pc E _ _ hE p m r f fed gone o (hpl.app _) hoo (by omega) (fun H2 fed2 gone2 hp2 hst hfl hbn2 => ?_)
    obtain ⟨hl2, hst2⟩ := hst
    simp at hl2
    have hb2 : H2[H1.length]? = some (prow p m r f fed gone) := by rw [hst2 _ hpb, List.getElem?_append_left hbl, hb]
    have hbl2 := at_lt hb2
    simp only [prow] at hb2
    simp [pv, hb2, hw']
    refine Kloop_normal ?_ ?_
    rotate_left
    · simp; omega
    refine ⟨i + 1, by omega, fed2, gone2, hp2.setOther hpb _, by simp; omega, fun j hj => ?_, List.getElem?_set_self hbl2, hpb, hHb, hpk2, by omega, fr_intro (by simp)⟩
    rw [List.getElem?_set_ne (by omega), hst2 j (fun e => by have := hpk2 j e; omega), List.getElem?_append_left (by omega)]
    exact hkeep j hj
  · simp [h]
    exact aPost_law hB hlen hkeep rfl (by simp) hQ
structure CTwoI (H H' : Hp) (p q : Option Nat) (a b : Int × Int × Int) (fp fq : List UInt8) (gp gq : Bool) (c d : Nat) : Prop where
  wa : PlI H' p a.1 a.2.1 a.2.2 fp gp
  wb : PlI H' q b.1 b.2.1 b.2.2 fq gq
  len : H.length ≤ H'.length
  keep : ∀ j, j < H.length → H'[j]? = H[j]?
  da : H'[c]? = some (prow p a.1 a.2.1 a.2.2 fp gp)
  db : H'[d]? = some (prow q b.1 b.2.1 b.2.2 fq gq)
  nb : p ≠ some c ∧ p ≠ some d ∧ q ≠ some c ∧ q ≠ some d ∧ c ≠ d
  ns : ∀ k, p = some k → q ≠ some k
  ge : H.length ≤ c ∧ H.length ≤ d ∧ (∀ k, p = some k → H.length ≤ k) ∧ (∀ k, q = some k → H.length ≤ k)
variable {H}
theorem CTwoI.stepA {H' H2 J : Hp} {p q : Option Nat} {a b : Int × Int × Int} {fp fq fp2 : List UInt8} {gp gq gp2 : Bool} {c d : Nat} (h : CTwoI H H' p q a b fp fq gp gq c d) (hr : PlI H2 p a.1 a.2.1 a.2.2 fp2 gp2) (ho : StI (H' ++ J) H2 p) : CTwoI H (H2.set c (prow p a.1 a.2.1 a.2.2 fp2 gp2)) p q a b fp2 fq gp2 gq c d := by
  have hl2 := ho.1
  simp at hl2
  obtain ⟨n1, n2, n3, n4, n5⟩ := h.nb
  obtain ⟨g1, g2, g3, g4⟩ := h.ge
  have hbl := at_lt h.da
  have hdl := at_lt h.db
  have hws : PlI H2 q b.1 b.2.1 b.2.2 fq gq := h.wb.of_eq (fun i e => by rw [ho.2 i (fun e2 => h.ns i e2 e), List.getElem?_append_left (h.wb.lt i e)])
  exact ⟨hr.setOther n1 _, hws.setOther n3 _, by simp; have := h.len; omega, fun j hj => by rw [List.getElem?_set_ne (by omega), ho.2 j (fun e => by have := g3 j e; omega), List.getElem?_append_left (by have := h.len; omega)]; exact h.keep j hj, List.getElem?_set_self (by omega), by rw [List.getElem?_set_ne n5, ho.2 d n2, List.getElem?_append_left hdl]; exact h.db, h.nb, h.ns, h.ge⟩
theorem CTwoI.stepB {H' H2 J : Hp} {p q : Option Nat} {a b : Int × Int × Int} {fp fq fq2 : List UInt8} {gp gq gq2 : Bool} {c d : Nat} (h : CTwoI H H' p q a b fp fq gp gq c d) (hr : PlI H2 q b.1 b.2.1 b.2.2 fq2 gq2) (ho : StI (H' ++ J) H2 q) : CTwoI H (H2.set d (prow q b.1 b.2.1 b.2.2 fq2 gq2)) p q a b fp fq2 gp gq2 c d := by
  have hl2 := ho.1
  simp at hl2
  obtain ⟨n1, n2, n3, n4, n5⟩ := h.nb
  obtain ⟨g1, g2, g3, g4⟩ := h.ge
  have hbl := at_lt h.da
  have hdl := at_lt h.db
  have hwr : PlI H2 p a.1 a.2.1 a.2.2 fp gp := h.wa.of_eq (fun i e => by rw [ho.2 i (fun e2 => h.ns i e e2), List.getElem?_append_left (h.wa.lt i e)])
  exact ⟨hwr.setOther n2 _, hr.setOther n4 _, by simp; have := h.len; omega, fun j hj => by rw [List.getElem?_set_ne (by omega), ho.2 j (fun e => by have := g4 j e; omega), List.getElem?_append_left (by have := h.len; omega)]; exact h.keep j hj, by rw [List.getElem?_set_ne (Ne.symm n5), ho.2 c n3, List.getElem?_append_left hbl]; exact h.da, List.getElem?_set_self (by omega), h.nb, h.ns, h.ge⟩
def ctwI (H : Hp) (sc : List COp) (p q : Option Nat) (a b : Int × Int × Int) (c d : Nat) (fr : List AV) (H' : Hp) : Prop := ∃ i : Nat, i ≤ sc.length ∧ ∃ fp fq gp gq, CTwoI H H' p q a b fp fq gp gq c d ∧ fp.length + txs (sc.drop i) ≤ 1048576 ∧ fq.length + txs (sc.drop i) ≤ 1048576 ∧
  ∃ x : Nat → AV, fr = [x 0, x 1, x 2, x 3, x 4, x 5, x 6, .ptr (some (c, 0)), x 8, .ptr (some (d, 0)), x 10, x 11, x 12, x 13, x 14, x 15, x 16, x 17, x 18, x 19, x 20, x 21, x 22, x 23, x 24, x 25, x 26, x 27, x 28, x 29, x 30, .sl false 2 (cops sc), .int .i64 sc.length, .int .i64 i, x 34, x 35, x 36, x 37, x 38, x 39, x 40, x 41, x 42, x 43, x 44, x 45, x 46, x 47, x 48, x 49, x 50, x 51, x 52, x 53, x 54, x 55]
variable (H)
set_option maxHeartbeats 4000000 in
theorem ltwo_pc (hE : SE E) (a b : Int × Int × Int) (h1 : a.1 ≤ 9223372036854775807 ∧ a.2.1 ≤ 9223372036854775807 ∧ a.2.2 ≤ 9223372036854775807) (h2 : b.1 ≤ 9223372036854775807 ∧ b.2.1 ≤ 9223372036854775807 ∧ b.2.2 ≤ 9223372036854775807) (sc : List COp) (hl : sc.length ≤ 1048576) (hok : ∀ o ∈ sc, o.wf) (ht : txs sc ≤ 1048576) (hQ : Q (.bool true) H) :
    PC Tryd.prog E 7 [.agg [.int .i64 a.1, .int .i64 a.2.1, .int .i64 a.2.2], .agg [.int .i64 b.1, .int .i64 b.2.1, .int .i64 b.2.2], .sl false 2 (cops sc)] H Q := by
  refine pc_enter Tryd.func7 rfl [] [] (by kernel_rfl) (fun hB => ?_)
  simp [Tryd.ntmps7, Tryd.results7, List.replicate_succ]
  refine lawake_pc E _ _ hE ?_
  simp
  refine begun_pc E _ _ a.1 a.2.1 a.2.2 h1.1 h1.2.1 h1.2.2 (fun p H1 hp0 hpk hlt0 hlen0 hkeep0 hbn0 => ?_)
  simp at hpk hlen0
  have hkp : ∀ j, j < H.length → H1[j]? = H[j]? := fun j hj => by rw [hkeep0 j (by simp; omega), List.getElem?_append_left hj]
  have hb4 : H1[H.length + 1]? = some [.int .i64 b.1, .int .i64 b.2.1, .int .i64 b.2.2] := by rw [hkeep0 _ (by simp)]; simp
  simp [pv, hs0 (at_lt hb4), hb4]
  refine begun_pc E _ _ b.1 b.2.1 b.2.2 h2.1 h2.2.1 h2.2.2 (fun q H2 hq0 hqk hlt1 hlen1 hkeep1 hbn1 => ?_)
  simp at hqk hlen1
  simp [pv]
  have hat : ∀ j, j < H1.length → H2[j]? = H1[j]? := fun j hj => by rw [hkeep1 j (by simp; omega), List.getElem?_append_left hj]
  have hbox : H2[H1.length]? = some (prow p a.1 a.2.1 a.2.2 [] false) := by rw [hkeep1 _ (by simp)]; simp [prow]
  have hp2 : PlI H2 p a.1 a.2.1 a.2.2 [] false := hp0.of_eq (fun i e => hat i (hlt0 i e))
  have h0 : CTwoI H (H2 ++ [prow q b.1 b.2.1 b.2.2 [] false]) p q a b [] [] false false H1.length H2.length := by
    refine ⟨hp2.app _, hq0.app _, by simp; omega, fun j hj => by rw [List.getElem?_append_left (by omega), hat j (by omega)]; exact hkp j hj, by rw [List.getElem?_append_left (by omega)]; exact hbox, by simp, ⟨fun e => ?_, fun e => ?_, fun e => ?_, fun e => ?_, by omega⟩, fun k e e2 => ?_, ⟨by omega, by omega, fun k e => ?_, fun k e => ?_⟩⟩
    · have := hlt0 _ e; omega
    · have := hlt0 _ e; omega
    · have := hqk _ e; omega
    · have := hlt1 _ e; omega
    · have := hlt0 k e; have := hqk k e2; omega
    · have := hpk k e; omega
    · have := hqk k e; omega
  refine VL_go (ctwI H sc p q a b H1.length H2.length) (fun fr _ => sc.length - (ai (aget fr 33)).toNat) ⟨0, by omega, _, _, _, _, h0, by simpa using ht, by simpa using ht, fr_intro (by simp)⟩ ?_
  clear h0
  rintro fr H' ⟨i, hi, fp, fq, gp, gq, hm, ht1, ht2, x, rfl⟩
  by_cases h : i < sc.length
  · obtain ⟨o, ho⟩ : ∃ o, sc[i]? = some o := ⟨_, List.getElem?_eq_getElem h⟩
    have hat := cops_at ho
    have hoo := hok o (List.mem_of_getElem? ho)
    have hw' : IntKind.i64.wrap ((i : Int) + 1) = i + 1 := wrap_in (by omega) (by omega)
    have htx2 := txs_drop ho
    by_cases hpar : i % 2 = 0
    · have hp0 : (i : Int).tmod 2 = 0 := by rw [Int.tmod_eq_emod_of_nonneg (by omega)]; omega
      have hda := hm.da
      have hbl := at_lt hda
      have hda' := hda
      simp only [prow] at hda'
      simp [h, hat, COp.av, hda', hs0 hbl, hp0]
      refine pstep_pc E _ _ hE p a.1 a.2.1 a.2.2 fp gp o (hm.wa.app _) hoo (by omega) (fun H3 f2 g2 hr3 ho3 hfl hbn3 => ?_)
      have hx := hm.stepA hr3 ho3
      have hb3 : H3[H1.length]? = some (prow p a.1 a.2.1 a.2.2 fp gp) := by rw [ho3.2 _ hm.nb.1, List.getElem?_append_left hbl, hda]
      simp only [prow] at hb3
      simp [pv, hb3, hw']
      refine Kloop_normal ?_ ?_
      rotate_left
      · simp; omega
      exact ⟨i + 1, by omega, _, _, _, _, hx, by omega, by omega, fr_intro (by simp)⟩
    · have hp0 : (i : Int).tmod 2 = 1 := by rw [Int.tmod_eq_emod_of_nonneg (by omega)]; omega
      have hdb := hm.db
      have hbl := at_lt hdb
      have hdb' := hdb
      simp only [prow] at hdb'
      simp [h, hat, COp.av, hdb', hs0 hbl, hp0]
      refine pstep_pc E _ _ hE q b.1 b.2.1 b.2.2 fq gq o (hm.wb.app _) hoo (by omega) (fun H3 f2 g2 hr3 ho3 hfl hbn3 => ?_)
      have hx := hm.stepB hr3 ho3
      have hb3 : H3[H2.length]? = some (prow q b.1 b.2.1 b.2.2 fq gq) := by rw [ho3.2 _ hm.nb.2.2.2.1, List.getElem?_append_left hbl, hdb]
      simp only [prow] at hb3
      simp [pv, hb3, hw']
      refine Kloop_normal ?_ ?_
      rotate_left
      · simp; omega
      exact ⟨i + 1, by omega, _, _, _, _, hx, by omega, by omega, fr_intro (by simp)⟩
  · simp [h]
    exact aPost_law hB hm.len hm.keep rfl (by simp) hQ
end
end Go.Proofs.YtimhofphmgehgaaDoor
