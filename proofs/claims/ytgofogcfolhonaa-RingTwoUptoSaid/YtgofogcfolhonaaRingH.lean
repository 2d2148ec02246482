/- RingExact, RingTwo. -/
import Derived.Test.YtgofogcfolhonaaRingG
set_option linter.unusedVariables false
set_option linter.unusedSimpArgs false
set_option linter.unusedSectionVars false
set_option maxRecDepth 100000
namespace Go.Proofs.Ytgofogcfolhonaa
open Go Go.RowKit

/-- A nil inside of what came out, within a tuple, is seen as an empty list. -/
theorem PC.nilIn3 {P : Program} {E : Env} {f : FuncId} {args : List AV} {H : Hp} {Q : AV → Hp → Prop} (h : PC P E f args H (fun v H' => ∃ p a c b, v = .tup [p, .agg [a, .nil, c], b] ∧ Q (.tup [p, .agg [a, .sl false 1 [], c], b]) H')) : PC P E f args H Q :=
  ⟨h.1, fun w β Rd Ow cargs h1 h2 h3 h4 => (h.2 w β Rd Ow cargs h1 h2 h3 h4).mono fun e w' ⟨u, v, H', β', Rd', Ow', he, hQ, hp⟩ => by
    obtain ⟨p, a, c, b, rfl, hQ⟩ := hQ
    have hr : Rel w' β' Rd' (.tup [p, .agg [a, .sl false 1 [], c], b]) u := by
      cases hp.rel with
      | tup _ vs hl hf hr =>
        refine .tup _ vs hl (fun x hx => by
          simp at hx
          rcases hx with rfl | rfl | rfl
          · exact hf _ (by simp)
          · rfl
          · exact hf _ (by simp)) (fun j x u hx hu => ?_)
        match j with
        | 0 => exact hr 0 x u hx hu
        | 1 => simp at hx; subst hx; exact nilIn_rel (hr 1 _ u rfl hu)
        | 2 => exact hr 2 x u hx hu
        | j + 3 => simp at hx
    refine ⟨u, _, H', β', Rd', Ow', he, hQ, ⟨hr, ?_, fun g hg => (by cases hg), rfl, hp.hr, hp.old, hp.len, hp.keep, hp.frame, hp.os, hp.tape, hp.output, hp.size⟩⟩
    have := hp.bnd
    simp at this ⊢
    exact this⟩
theorem lmade2_pc (E : Env) (H : Hp) (Q : AV → Hp → Prop) (c : Int) (hQ : ∀ r n H', RW H' r n 0 [] → (∀ i, r = some i → H.length ≤ i) → H.length ≤ H'.length → (∀ j, j < H.length → H'[j]? = H[j]?) → BndH H'.length H' → Q (.tup [rptr r, dR n [] 0, .bool true]) H') :
    PC Try.prog E 37 [.int .i64 c] H Q := by
  refine PC.nilIn3 (PC.bnd (lmade_pc E H _ c (fun n hc h1 h2 b H' hr hb hl hk hbn hbn2 _ => ?_) (fun hbad hbn _ => ?_)))
  · exact ⟨_, _, _, _, rfl, hQ (some b) n H' hr (fun i e => by cases e; exact hb) hl hk hbn⟩
  · exact ⟨_, _, _, _, rfl, hQ none 0 H ⟨rfl, rfl, rfl⟩ (fun i e => by cases e) (Nat.le_refl _) (fun _ _ => rfl) hbn⟩
def rops (l : List RgOp) : List (List AV) := l.map RgOp.av
@[simp] theorem rops_len (l : List RgOp) : (rops l).length = l.length := by simp [rops]
theorem rops_at {l : List RgOp} {i : Nat} {o : RgOp} (h : l[i]? = some o) : lat (rops l) i = some o.av := by simp [lat, rops, h]
def RgOp.ok (o : RgOp) : Prop := o.wf ∧ o.p.length ≤ 1048576
theorem at_lt {α : Type} {l : List α} {i : Nat} {x : α} (h : l[i]? = some x) : i < l.length := (List.getElem?_eq_some_iff.1 h).1
theorem RW.setOther {H : Hp} {r : Option Nat} {cap q : Nat} {l : List UInt8} (h : RW H r cap q l) {k : Nat} (hk : r ≠ some k) (row : List AV) : RW (H.set k row) r cap q l :=
  h.of_eq (fun i e => List.getElem?_set_ne (fun e2 => hk (by rw [e2]; exact e)))
def rxI (H : Hp) (sc : List RgOp) (r : Option Nat) (cap b : Nat) (fr : List AV) (H' : Hp) : Prop := ∃ i : Nat, i ≤ sc.length ∧ ∃ q l, RW H' r cap q l ∧ H.length ≤ H'.length ∧ (∀ j, j < H.length → H'[j]? = H[j]?) ∧
  H'[b]? = some [.int .i64 cap, .sl false 1 (bts l), .int .i64 q] ∧ r ≠ some b ∧ H.length ≤ b ∧ (∀ k, r = some k → H.length ≤ k) ∧
  ∃ x : Nat → AV, fr = [x 0, x 1, x 2, x 3, x 4, rptr r, .ptr (some (b, 0)), x 7, x 8, x 9, x 10, x 11, x 12, x 13, x 14, x 15, x 16, x 17, x 18, x 19, .sl false 4 (rops sc), .int .i64 sc.length, .int .i64 i, x 23, x 24, x 25, x 26, x 27, x 28, x 29, x 30, x 31, x 32, x 33, x 34, x 35]
set_option maxHeartbeats 4000000 in
theorem rexact_pc (E : Env) (H : Hp) (Q : AV → Hp → Prop) (hM : ME E) (c : Int) (sc : List RgOp) (hl : sc.length ≤ 1048576) (hok : ∀ o ∈ sc, o.ok) (hQ : Q (.bool true) H) :
    PC Try.prog E 12 [.int .i64 c, .sl false 4 (rops sc)] H Q := by
  refine pc_enter Try.func12 rfl [] [] (by kernel_rfl) (fun hB => ?_)
  simp [Try.ntmps12, Try.results12, List.replicate_succ]
  refine lawake_pc E H _ ?_
  simp
  refine lmade2_pc E H _ c (fun r cap H1 hr0 hrk hlen0 hkeep0 hbn0 => ?_)
  simp [dR]
  have hr1 := hr0.app [[.int .i64 cap, .sl false 1 (bts []), .int .i64 0]]
  have hlt0 := hr0.lt
  refine VL_go (rxI H sc r cap H1.length) (fun fr _ => sc.length - (ai (aget fr 22)).toNat) ⟨0, by omega, 0, [], hr1, by simp; omega, fun j hj => by rw [List.getElem?_append_left (by omega)]; exact hkeep0 j hj, by simp, fun e => by have := hlt0 _ e; omega, hlen0, hrk, fr_intro (by simp)⟩ ?_
  rintro fr H' ⟨i, hi, q, l, hrw, hlen, hkeep, hb, hrb, hHb, hrk2, x, rfl⟩
  by_cases h : i < sc.length
  · obtain ⟨o, ho⟩ : ∃ o, sc[i]? = some o := ⟨_, List.getElem?_eq_getElem h⟩
    have hat := rops_at ho
    have hoo := hok o (List.mem_of_getElem? ho)
    have hw' : IntKind.i64.wrap ((i : Int) + 1) = i + 1 := wrap_in (by omega) (by omega)
    have hbl := at_lt hb
    have hp := hoo.2
    simp [h, hat, RgOp.av, hb, hs0 hbl]
    refine lstep_pc E _ _ hM r cap q l (hrw.app _) o hoo.1 (by omega) (fun H2 q2 l2 hr2 ho2 hbn2 => ?_)
    have hl2 := ho2.1
    simp at hl2
    have hb2 : H2[H1.length]? = some [.int .i64 cap, .sl false 1 (bts l), .int .i64 q] := by rw [ho2.2 _ hrb, List.getElem?_append_left hbl, hb]
    have hbl2 := at_lt hb2
    simp [dR, hb2, hw']
    refine Kloop_normal ?_ ?_
    rotate_left
    · simp; omega
    refine ⟨i + 1, by omega, q2, l2, hr2.setOther hrb _, by simp; omega, fun j hj => ?_, List.getElem?_set_self hbl2, hrb, hHb, hrk2, fr_intro (by simp)⟩
    rw [List.getElem?_set_ne (by omega), ho2.2 j (fun e => by have := hrk2 j e; omega), List.getElem?_append_left (by omega)]
    exact hkeep j hj
  · simp [h]
    exact aPost_law hB hlen hkeep rfl (by simp) hQ
structure RTwoI (H H' : Hp) (r s : Option Nat) (ca cb qa qb : Nat) (la lb : List UInt8) (b d : Nat) : Prop where
  wa : RW H' r ca qa la
  wb : RW H' s cb qb lb
  len : H.length ≤ H'.length
  keep : ∀ j, j < H.length → H'[j]? = H[j]?
  da : H'[b]? = some [.int .i64 ca, .sl false 1 (bts la), .int .i64 qa]
  db : H'[d]? = some [.int .i64 cb, .sl false 1 (bts lb), .int .i64 qb]
  nb : r ≠ some b ∧ r ≠ some d ∧ s ≠ some b ∧ s ≠ some d ∧ b ≠ d
  ns : ∀ k, r = some k → s ≠ some k
  ge : H.length ≤ b ∧ H.length ≤ d ∧ (∀ k, r = some k → H.length ≤ k) ∧ (∀ k, s = some k → H.length ≤ k)
theorem RTwoI.stepA {H H' H2 J : Hp} {r s : Option Nat} {ca cb qa qb q2 : Nat} {la lb l2 : List UInt8} {b d : Nat} (h : RTwoI H H' r s ca cb qa qb la lb b d) (hr : RW H2 r ca q2 l2) (ho : Oth (H' ++ J) H2 r) : RTwoI H (H2.set b [.int .i64 ca, .sl false 1 (bts l2), .int .i64 q2]) r s ca cb q2 qb l2 lb b d := by
  have hl2 := ho.1
  simp at hl2
  obtain ⟨n1, n2, n3, n4, n5⟩ := h.nb
  obtain ⟨g1, g2, g3, g4⟩ := h.ge
  have hbl := at_lt h.da
  have hdl := at_lt h.db
  have hws : RW H2 s cb qb lb := h.wb.of_eq (fun i e => by rw [ho.2 i (fun e2 => h.ns i e2 e), List.getElem?_append_left (h.wb.lt i e)])
  exact ⟨hr.setOther n1 _, hws.setOther n3 _, by simp; have := h.len; omega, fun j hj => by rw [List.getElem?_set_ne (by omega), ho.2 j (fun e => by have := g3 j e; omega), List.getElem?_append_left (by have := h.len; omega)]; exact h.keep j hj, List.getElem?_set_self (by omega), by rw [List.getElem?_set_ne n5, ho.2 d n2, List.getElem?_append_left hdl]; exact h.db, h.nb, h.ns, h.ge⟩
theorem RTwoI.stepB {H H' H2 J : Hp} {r s : Option Nat} {ca cb qa qb q2 : Nat} {la lb l2 : List UInt8} {b d : Nat} (h : RTwoI H H' r s ca cb qa qb la lb b d) (hr : RW H2 s cb q2 l2) (ho : Oth (H' ++ J) H2 s) : RTwoI H (H2.set d [.int .i64 cb, .sl false 1 (bts l2), .int .i64 q2]) r s ca cb qa q2 la l2 b d := by
  have hl2 := ho.1
  simp at hl2
  obtain ⟨n1, n2, n3, n4, n5⟩ := h.nb
  obtain ⟨g1, g2, g3, g4⟩ := h.ge
  have hbl := at_lt h.da
  have hdl := at_lt h.db
  have hwr : RW H2 r ca qa la := h.wa.of_eq (fun i e => by rw [ho.2 i (fun e2 => h.ns i e e2), List.getElem?_append_left (h.wa.lt i e)])
  exact ⟨hwr.setOther n2 _, hr.setOther n4 _, by simp; have := h.len; omega, fun j hj => by rw [List.getElem?_set_ne (by omega), ho.2 j (fun e => by have := g4 j e; omega), List.getElem?_append_left (by have := h.len; omega)]; exact h.keep j hj, by rw [List.getElem?_set_ne (Ne.symm n5), ho.2 b n3, List.getElem?_append_left hbl]; exact h.da, List.getElem?_set_self (by omega), h.nb, h.ns, h.ge⟩
def rtwI (H : Hp) (sc : List RgOp) (r s : Option Nat) (ca cb b d : Nat) (fr : List AV) (H' : Hp) : Prop := ∃ i : Nat, i ≤ sc.length ∧ ∃ qa qb la lb, RTwoI H H' r s ca cb qa qb la lb b d ∧
  ∃ x : Nat → AV, fr = [x 0, x 1, x 2, x 3, x 4, x 5, x 6, rptr r, .ptr (some (b, 0)), x 9, rptr s, .ptr (some (d, 0)), x 12, x 13, x 14, x 15, x 16, x 17, x 18, x 19, x 20, x 21, x 22, x 23, x 24, x 25, x 26, x 27, x 28, x 29, x 30, x 31, x 32, x 33, x 34, .sl false 4 (rops sc), .int .i64 sc.length, .int .i64 i, x 38, x 39, x 40, x 41, x 42, x 43, x 44, x 45, x 46, x 47, x 48, x 49, x 50, x 51, x 52, x 53, x 54, x 55, x 56, x 57, x 58, x 59, x 60, x 61]
set_option maxHeartbeats 4000000 in
theorem rtwo_pc (E : Env) (H : Hp) (Q : AV → Hp → Prop) (hM : ME E) (c1 c2 : Int) (sc : List RgOp) (hl : sc.length ≤ 1048576) (hok : ∀ o ∈ sc, o.ok) (hQ : Q (.bool true) H) :
    PC Try.prog E 13 [.int .i64 c1, .int .i64 c2, .sl false 4 (rops sc)] H Q := by
  refine pc_enter Try.func13 rfl [] [] (by kernel_rfl) (fun hB => ?_)
  simp [Try.ntmps13, Try.results13, List.replicate_succ]
  refine lawake_pc E H _ ?_
  simp
  refine lmade2_pc E H _ c1 (fun r ca H1 hr0 hrk hlen0 hkeep0 hbn0 => ?_)
  simp [dR]
  have hlt0 := hr0.lt
  refine lmade2_pc E _ _ c2 (fun s cb H2 hs0' hsk hlen1 hkeep1 hbn1 => ?_)
  simp at hsk hlen1
  simp [dR]
  have hlt1 := hs0'.lt
  have hat : ∀ j, j < H1.length → H2[j]? = H1[j]? := fun j hj => by rw [hkeep1 j (by simp; omega), List.getElem?_append_left hj]
  have hbox : H2[H1.length]? = some [.int .i64 ca, .sl false 1 (bts []), .int .i64 0] := by rw [hkeep1 _ (by simp)]; simp
  have hr2 : RW H2 r ca 0 [] := hr0.of_eq (fun i e => hat i (hlt0 i e))
  have h0 : RTwoI H (H2 ++ [[.int .i64 cb, .sl false 1 (bts []), .int .i64 0]]) r s ca cb 0 0 [] [] H1.length H2.length := by
    refine ⟨hr2.app _, hs0'.app _, by simp; omega, fun j hj => by rw [List.getElem?_append_left (by omega), hat j (by omega)]; exact hkeep0 j hj, by rw [List.getElem?_append_left (by omega)]; exact hbox, by simp, ⟨fun e => ?_, fun e => ?_, fun e => ?_, fun e => ?_, by omega⟩, fun k e e2 => ?_, ⟨by omega, by omega, hrk, fun k e => ?_⟩⟩
    · have := hlt0 _ e; omega
    · have := hlt0 _ e; omega
    · have := hsk _ e; omega
    · have := hlt1 _ e; omega
    · have := hlt0 k e; have := hsk k e2; omega
    · have := hsk k e; omega
  refine VL_go (rtwI H sc r s ca cb H1.length H2.length) (fun fr _ => sc.length - (ai (aget fr 37)).toNat) ⟨0, by omega, _, _, _, _, h0, fr_intro (by simp)⟩ ?_
  clear h0
  rintro fr H' ⟨i, hi, qa, qb, la, lb, hm, x, rfl⟩
  by_cases h : i < sc.length
  · obtain ⟨o, ho⟩ : ∃ o, sc[i]? = some o := ⟨_, List.getElem?_eq_getElem h⟩
    have hat := rops_at ho
    have hoo := hok o (List.mem_of_getElem? ho)
    have hw' : IntKind.i64.wrap ((i : Int) + 1) = i + 1 := wrap_in (by omega) (by omega)
    have hp := hoo.2
    by_cases hpar : i % 2 = 0
    · have hp0 : (i : Int).tmod 2 = 0 := by rw [Int.tmod_eq_emod_of_nonneg (by omega)]; omega
      have hda := hm.da
      have hbl := at_lt hda
      simp [h, hat, RgOp.av, hda, hs0 hbl, hp0]
      refine lstep_pc E _ _ hM r ca qa la (hm.wa.app _) o hoo.1 (by omega) (fun H3 q2 l2 hr3 ho3 hbn3 => ?_)
      have hx := hm.stepA hr3 ho3
      have hb3 : H3[H1.length]? = some [.int .i64 ca, .sl false 1 (bts la), .int .i64 qa] := by rw [ho3.2 _ hm.nb.1, List.getElem?_append_left hbl, hda]
      simp [dR, hb3, hw']
      refine Kloop_normal ?_ ?_
      rotate_left
      · simp; omega
      exact ⟨i + 1, by omega, _, _, _, _, hx, fr_intro (by simp)⟩
    · have hp0 : (i : Int).tmod 2 = 1 := by rw [Int.tmod_eq_emod_of_nonneg (by omega)]; omega
      have hdb := hm.db
      have hbl := at_lt hdb
      simp [h, hat, RgOp.av, hdb, hs0 hbl, hp0]
      refine lstep_pc E _ _ hM s cb qb lb (hm.wb.app _) o hoo.1 (by omega) (fun H3 q2 l2 hr3 ho3 hbn3 => ?_)
      have hx := hm.stepB hr3 ho3
      have hb3 : H3[H2.length]? = some [.int .i64 cb, .sl false 1 (bts lb), .int .i64 qb] := by rw [ho3.2 _ hm.nb.2.2.2.1, List.getElem?_append_left hbl, hdb]
      simp [dR, hb3, hw']
      refine Kloop_normal ?_ ?_
      rotate_left
      · simp; omega
      exact ⟨i + 1, by omega, _, _, _, _, hx, fr_intro (by simp)⟩
  · simp [h]
    exact aPost_law hB hm.len hm.keep rfl (by simp) hQ
end Go.Proofs.Ytgofogcfolhonaa
