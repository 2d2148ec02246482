/- Part 6 of the texts below the law: the abstract machine, the functions that it walks, what they compute. -/
import Derived.Test.YtijnohcaeedffaaWm5
import Derived.Carry
import Derived.Test.YtijnohcaeedffaaRows
import Derived.ProofKit
import Derived.OpenShut
import Derived.SizedLaws
import Derived.Deep.Slices
import Derived.Deep.Fields
import Derived.SliceStrings
set_option linter.unusedVariables false
set_option linter.unnecessarySimpa false
set_option linter.unusedSimpArgs false
set_option linter.unusedSectionVars false
set_option maxRecDepth 100000
namespace Go.Proofs.Ytijnohcaeedffaa
open Go Go.RowKit

section
variable {H H' K : Hp} {iw s s2 : Nat} {row row' : List AV} {now : Nat} {st : Int} {g : Nat} {kv : List (Int × Nat)} {Ls : Nat → List Te} {pre suf : List Te} {x : Te} {ts : List Tm}
/-- The lists with x taken off and hung elsewhere. -/
def reL (Ls : Nat → List Te) (s : Nat) (l : List Te) (s2 : Nat) (x : Te) : Nat → List Te := updL (updL Ls s l) s2 (x :: updL Ls s l s2)
theorem Lnk.off (h : Lnk H iw row Ls) (hs : s < 576) (he : Ls s = pre ++ x :: suf) : ∀ s2, s2 < 576 → ∀ y, y ∈ updL Ls s (pre ++ suf) s2 ↔ y ∈ Ls s2 ∧ y.i ≠ x.i := fun s3 hs3 y => by
  have hnd := h.nd s hs
  rw [he] at hnd
  obtain ⟨n1, n2, n3⟩ := List.pairwise_append.1 hnd
  unfold updL
  by_cases e : s3 = s
  · subst e
    rw [if_pos rfl, he]
    constructor
    · intro hy
      rcases List.mem_append.1 hy with h1 | h1
      · exact ⟨List.mem_append_left _ h1, n3 y h1 x (List.mem_cons_self ..)⟩
      · exact ⟨List.mem_append_right _ (List.mem_cons_of_mem _ h1), Ne.symm ((List.pairwise_cons.1 n2).1 y h1)⟩
    · rintro ⟨hy, hne⟩
      rcases List.mem_append.1 hy with h1 | h1
      · exact List.mem_append_left _ h1
      · rcases List.mem_cons.1 h1 with rfl | h1
        · exact absurd rfl hne
        · exact List.mem_append_right _ h1
  · rw [if_neg e]
    refine ⟨fun hy => ⟨hy, ?_⟩, fun hy => hy.1⟩
    obtain ⟨p2, q2, hsp⟩ := List.append_of_mem hy
    exact h.two hs3 hsp hs he e
theorem reL_mem (h : Lnk H iw row Ls) (hs : s < 576) (he : Ls s = pre ++ x :: suf) (hs2 : s2 < 576) : ∀ s3, s3 < 576 → ∀ y, y ∈ reL Ls s (pre ++ suf) s2 x s3 ↔ (s3 = s2 ∧ y = x) ∨ (y ∈ Ls s3 ∧ y.i ≠ x.i) := fun s3 hs3 y => by
  have h1 := h.off hs he
  have e : y ∈ reL Ls s (pre ++ suf) s2 x s3 ↔ (s3 = s2 ∧ y = x) ∨ y ∈ updL Ls s (pre ++ suf) s3 := by
    unfold reL
    rw [show ∀ (L : Nat → List Te) l, updL L s2 l s3 = if s3 = s2 then l else L s3 from fun _ _ => rfl]
    by_cases e : s3 = s2
    · subst e; rw [if_pos rfl]; simp
    · rw [if_neg e]; simp [e]
  rw [e, h1 s3 hs3]
/-- On some list or other. -/
def onL (Ls : Nat → List Te) (y : Te) : Prop := ∃ s, s < 576 ∧ y ∈ Ls s
theorem reL_on (h : Lnk H iw row Ls) (hs : s < 576) (he : Ls s = pre ++ x :: suf) (hs2 : s2 < 576) (y : Te) : onL (reL Ls s (pre ++ suf) s2 x) y ↔ onL Ls y := by
  have hm := reL_mem h hs he hs2
  have hx : x ∈ Ls s := by rw [he]; simp
  constructor
  · rintro ⟨s3, hs3, hy⟩
    rcases (hm s3 hs3 y).1 hy with ⟨_, rfl⟩ | ⟨h1, _⟩
    · exact ⟨s, hs, hx⟩
    · exact ⟨s3, hs3, h1⟩
  · rintro ⟨s3, hs3, hy⟩
    by_cases e : y.i = x.i
    · have : y = x := by
        by_cases e3 : s3 = s
        · subst e3
          obtain ⟨p2, q2, hsp⟩ := List.append_of_mem hy
          have hnd := h.nd s3 hs
          by_cases e4 : y = x
          · exact e4
          · exfalso
            have hp : ∀ {l : List Te}, l.Pairwise (fun x y => x.i ≠ y.i) → ∀ a ∈ l, ∀ b ∈ l, a.i = b.i → a = b := fun {l} hl => by
              induction l with
              | nil => intro a ha; cases ha
              | cons c l ih =>
                intro a ha b hb hab
                obtain ⟨c1, c2⟩ := List.pairwise_cons.1 hl
                rcases List.mem_cons.1 ha with ha1 | ha1
                · rcases List.mem_cons.1 hb with hb1 | hb1
                  · rw [ha1, hb1]
                  · exact absurd (ha1 ▸ hab) (c1 b hb1)
                · rcases List.mem_cons.1 hb with hb1 | hb1
                  · exact absurd (hb1 ▸ hab).symm (c1 a ha1)
                  · exact ih c2 a ha1 b hb1 hab
            exact e4 (hp hnd y hy x hx e)
        · obtain ⟨p2, q2, hsp⟩ := List.append_of_mem hy
          exact absurd e (h.two hs3 hsp hs he e3)
      subst this
      exact ⟨s2, hs2, (hm s2 hs2 y).2 (.inl ⟨rfl, rfl⟩)⟩
    · exact ⟨s3, hs3, (hm s3 hs3 y).2 (.inr ⟨hy, e⟩)⟩
theorem Mine.of_on {Ls Ls' : Nat → List Te} (h : ∀ y, onL Ls' y → onL Ls y) {j : Nat} (hj : Mine iw Ls' j) : Mine iw Ls j := by
  rcases hj with rfl | ⟨s, hs, y, hy, e⟩
  · exact .inl rfl
  · obtain ⟨s', hs', hy'⟩ := h y ⟨s, hs, hy⟩
    exact .inr ⟨s', hs', y, hy', e⟩
theorem Vw.of_on {Ls Ls' : Nat → List Te} (hv : Vw Ls ts) (h : ∀ y, onL Ls' y ↔ onL Ls y) : Vw Ls' ts := by
  refine ⟨hv.nd, fun y => ?_⟩
  rw [hv.mem]
  constructor
  · rintro ⟨s, hs, x, hx, rfl⟩
    obtain ⟨s', hs', hx'⟩ := (h x).2 ⟨s, hs, hx⟩
    exact ⟨s', hs', x, hx', rfl⟩
  · rintro ⟨s, hs, x, hx, rfl⟩
    obtain ⟨s', hs', hx'⟩ := (h x).1 ⟨s, hs, hx⟩
    exact ⟨s', hs', x, hx', rfl⟩
end
def mvI (iw : Nat) (H : Hp) (tick : Nat) (st : Int) (g : Nat) (kv : List (Int × Nat)) (Ls : Nat → List Te) (o : Obj) (v : Value) (L : List (Int × Nat)) (fr : List AV) (K : Hp) : Prop :=
  (∃ row1 Ls1, Lnk K iw row1 Ls1 ∧ row1[0]? = some (.int .i64 tick) ∧ row1[1]? = some (.int .i64 st) ∧ row1[578]? = some (.ob (fixOb g o)) ∧ K.length = H.length ∧ (∀ y, onL Ls1 y ↔ onL Ls y) ∧ (∀ s, s < 576 → ∀ y ∈ Ls1 s, (y.n, y.i) ∉ L → ∃ t : Nat, y.t = (t : Int) ∧ atP tick t s) ∧ (∀ j, ¬ Mine iw Ls j → K[j]? = H[j]?) ∧ BndH H.length K) ∧
  ∃ x : Nat → AV, fr = [.ptr (some (iw, 0)), x 1, x 2, x 3, x 4, x 5, x 6, x 7, x 8, x 9, x 10, x 11, x 12, x 13, x 14, x 15, x 16, x 17, x 18, x 19, x 20, x 21, x 22, .raw v, x 24, x 25, x 26, x 27, x 28, x 29, x 30, x 31, x 32]
section
variable {H : Hp} {iw : Nat} {row : List AV} {now : Nat} {st : Int} {g : Nat} {kv : List (Int × Nat)} {Ls : Nat → List Te} {ts : List Tm} (E : Env) (Q : AV → Hp → Prop)
theorem move_pc (h : Whl H iw row now st g kv Ls) (hv : Vw Ls ts) (tick : Nat) (h1 : now ≤ tick) (h2 : tick ≤ 281474976710656) (hgt : ∀ y ∈ ts, (tick : Int) < y.t)
    (hQ : ∀ H' row' Ls', Whl H' iw row' tick st g kv Ls' → Vw Ls' ts → H'.length = H.length → (∀ j, Mine iw Ls' j → Mine iw Ls j) → (∀ j, ¬ Mine iw Ls j → H'[j]? = H[j]?) → Q (.tup []) H') : PC Try.prog E 27 [.ptr (some (iw, 0)), .int .i64 tick] H Q := by
  have hw := h.lnk.w
  have rm := h.rm
  have r0 := h.r0
  have hwl := ltX hw
  have hrl := h.lnk.l
  have hnow := h.nowle
  have hx := xorI hnow h2
  have hln : 1 ≤ row.length := by omega
  obtain ⟨rw, hrw, e2⟩ : ∃ rw, AV.int .i64 tick :: row.tail = rw ∧ rw = row.set 0 (.int .i64 tick) := ⟨_, rfl, by
    cases row with
    | nil => simp at hrl
    | cons a l => rfl⟩
  have hget : (H.set iw rw)[iw]? = some rw := List.getElem?_set_self hwl
  have rm' : rw[578]? = some (.ob (mapOb Try.prog 3 g kv)) := by rw [e2, List.getElem?_set_ne (by omega)]; exact rm
  have hL1 : Lnk (H.set iw rw) iw rw Ls := by rw [e2]; exact h.lnk.cell (.inl (by omega)) _
  have q0 : rw[0]? = some (.int .i64 tick) := by rw [e2]; exact List.getElem?_set_self (by omega)
  have q1 : rw[1]? = some (.int .i64 st) := by rw [e2, List.getElem?_set_ne (by omega)]; exact h.r1
  have hrl' : rw.length = 579 := by rw [e2]; simpa using hrl
  refine pc_enterRng (D := none) [_, _, _] (p4 := [_, _, _, _]) (k := 3) Try.func27 rfl [] [(3, [0, 0, 0, 3])] (by kernel_rfl) rfl rfl rfl ⟨rfl, rfl, rfl⟩ ⟨rfl, rfl, rfl⟩ ⟨rfl, rfl, rfl⟩ ⟨rfl, rfl, rfl⟩ ⟨rfl, rfl, rfl⟩ ⟨rfl, rfl, rfl⟩ (by decide) 33 (by decide) (fun hB => ?_)
  by_cases hch : now = tick
  · subst hch
    have e3 : rw = row := by rw [e2]; exact set_same r0
    have e4 : H.set iw row = H := set_same hw
    have hxx : now ^^^ now = 0 := Nat.xor_self now
    have hq := hQ H row Ls h hv rfl (fun _ h => h) (fun _ _ => rfl)
    rw [e3] at hrw
    simp [vcPre, ndOf, Try.ntmps27, Try.results27, List.replicate_succ, hw, rm, r0, mapOb, hx, hln, hrw, e4, hxx, (by decide : IntKind.i64.wrap 0 = 0)]
    exact ⟨.tup [], .tup [], H, H, [], rfl, nilV_refl _, nilH_refl _, (List.append_nil H).symm, Nat.le_refl _, hB, .tup _ (by simp), hq⟩
  have hxx : (((now ^^^ tick : Nat) : Int) == 0) = false := beq_eq_false_iff_ne.2 fun e => hch (xor_zero.1 (by omega))
  simp [vcPre, ndOf, Try.ntmps27, Try.results27, List.replicate_succ, hw, rm, r0, mapOb, hx, hln, hrw, hget, rm', hxx]
  have hB1 : BndH H.length (H.set iw rw) := bndX_put hB _ (by rw [e2]; exact bnd_set (bnd_row hB hw) (by simp))
  refine ⟨iw, 578, g, kv, mvI iw H tick st g kv Ls, rfl, by simp [axm, hget, rm', mapOb], fun o v => ?_, fun o v L fr K hi => ?_, fun o v L fr K z j hi hL hzL hz hzo => ?_, fun o v fr K hi => ?_⟩
  · have hgd : (H.set iw rw).getD iw [] = rw := by simp [List.getD, hwl]
    rw [hgd]
    refine ⟨⟨rw.set 578 (.ob (fixOb g o)), Ls, hL1.cell (.inr (Nat.le_refl _)) _, ?_, ?_, List.getElem?_set_self (by omega), by simp, fun y => Iff.rfl, fun s hs y hy hyn => ?_, fun j hj => ?_, bndX_put hB1 _ (bnd_set (bnd_row hB1 hget) (bnd_ob.2 (Nat.zero_le _)))⟩, fr_intro (by simp)⟩
    · rw [List.getElem?_set_ne (by omega)]; exact q0
    · rw [List.getElem?_set_ne (by omega)]; exact q1
    · exact absurd ((h.mem y.n y.i).2 ⟨s, hs, y, hy, rfl, rfl⟩) hyn
    · have hne : iw ≠ j := fun e => hj (.inl e.symm)
      rw [getNX hne, getNX hne]
  · obtain ⟨⟨row1, Ls1, hL1, _, _, r3, _⟩, x, rfl⟩ := hi
    exact ⟨by simp, by simp, row1, hL1.w, r3⟩
  · obtain ⟨⟨row1, Ls1, hL1, r0', r1', r3, hlen, hon, hpl, hfr, hBK⟩, x, rfl⟩ := hi
    obtain ⟨s0, hs0, y, hy0, rfl, rfl⟩ := (h.mem z j).1 hz
    obtain ⟨s, hs, hy⟩ := (hon y).2 ⟨s0, hs0, hy0⟩
    obtain ⟨pre, suf, hsp⟩ := List.append_of_mem hy
    obtain ⟨t, ht, ht1, ht2, ht3, ht4⟩ := h.tick s0 hs0 y hy0
    simp
    refine PC.bnd (take_lnk E _ hL1 hs hsp (fun H2 row2 htk hlen2 hB2 _ => ?_))
    simp [Kcall, KP]
    have hL2 := hL1.took hs hsp htk
    have hoff := hL1.off hs hsp
    have hyi := hL1.ne hs hsp
    have hnd := hL1.nd s hs
    rw [hsp] at hnd
    obtain ⟨n1, n2, n3⟩ := List.pairwise_append.1 hnd
    have hcell : H2[y.i]? = some (tmr y.n t (headI suf) (lastI pre) iw s) := by
      rw [htk.keep y.i hyi (fun b hb => ?_) (fun m hm => ?_), ← ht]
      · exact hL1.links s pre y suf hs hsp
      · obtain ⟨p, hp⟩ := List.getLast?_eq_some_iff.1 hb
        exact Ne.symm (n3 b (by rw [hp]; simp) y (List.mem_cons_self ..))
      · exact (List.pairwise_cons.1 n2).1 m (List.mem_of_mem_head? hm)
    have r0'' : row2[0]? = some (.int .i64 tick) := by rw [htk.row_ne (by omega)]; exact r0'
    refine PC.bnd (hang_lnk E _ hL2 y.i y.n t tick _ _ _ r0'' hyi hcell ht2 h2 (fun s3 hs3 a ha => ((hoff s3 hs3 a).1 ha).2) (fun k s2 K2 hlev hk8 hse hh hlen3 hB3 _ => ?_))
    simp [Kcall, KP]
    have hs2 : s2 < 576 := by have := Nat.mod_lt (t / 64 ^ k) (show 64 > 0 by decide); omega
    have hL3 := hL2.hung (x := ⟨y.i, y.n, t⟩) hs2 (fun s3 hs3 a ha => ((hoff s3 hs3 a).1 ha).2) hh
    have hye : (⟨y.i, y.n, (t : Int)⟩ : Te) = y := by rw [← ht]
    rw [hye] at hL3 hh
    have hm := reL_mem hL1 hs hsp hs2
    have hyL : y ∈ Ls1 s := by rw [hsp]; simp
    refine ⟨⟨row2.set (2 + s2) (.ptr (some (y.i, 0))), reL Ls1 s (pre ++ suf) s2 y, hL3, ?_, ?_, ?_, by omega, fun a => (reL_on hL1 hs hsp hs2 a).trans (hon a), fun s3 hs3 a ha han => ?_, fun j hj => ?_, ?_⟩, fr_intro (by simp)⟩
    · rw [List.getElem?_set_ne (by omega)]; exact r0''
    · rw [List.getElem?_set_ne (by omega), htk.row_ne (by omega)]; exact r1'
    · rw [List.getElem?_set_ne (by omega), htk.row_ne (by omega)]; exact r3
    · rcases (hm s3 hs3 a).1 ha with ⟨rfl, rfl⟩ | ⟨ha1, ha2⟩
      · exact ⟨t, ht, k, hlev, hk8, hse⟩
      · refine hpl s3 hs3 a ha1 fun haL => han (List.mem_filter.2 ⟨haL, ?_⟩)
        simp only [bne_iff_ne, ne_eq]
        intro e
        obtain ⟨s4, hs4, ha4⟩ := (hon a).1 ⟨s3, hs3, ha1⟩
        exact ha2 (h.one hs4 ha4 hs0 hy0 e)
    · have hj1 : ¬ Mine iw Ls1 j := fun hm1 => hj (Mine.of_on (fun a => (hon a).1) hm1)
      have hjw : j ≠ iw := fun e => hj1 (.inl e)
      have hne : ∀ s3, s3 < 576 → ∀ a ∈ Ls1 s3, j ≠ a.i := fun s3 hs3 a ha e => hj1 (.inr ⟨s3, hs3, a, ha, e.symm⟩)
      rw [hh.keep j hjw (hne s hs y hyL) (fun m hmm => hne s2 hs2 m ((hoff s2 hs2 m).1 (List.mem_of_mem_head? hmm)).1), htk.keep j hjw (fun b hb => ?_) (fun m hmm => ?_)]
      · exact hfr j hj
      · obtain ⟨p, hp⟩ := List.getLast?_eq_some_iff.1 hb
        exact hne s hs b (by rw [hsp, hp]; simp)
      · exact hne s hs m (by rw [hsp]; exact List.mem_append_right _ (List.mem_cons_of_mem _ (List.mem_of_mem_head? hmm)))
    · have e : K2.length = H.length := by omega
      rw [← e]; exact hB3
  · obtain ⟨⟨row1, Ls1, hL1, r0', r1', r3, hlen, hon, hpl, hfr, hBK⟩, x, rfl⟩ := hi
    have hKl := ltX hL1.w
    have hgd : K.getD iw [] = row1 := by simp [List.getD, hL1.w]
    rw [hgd]
    have hr1 := hL1.l
    have hkN : kvN kv ≤ H.length := bnd_ob.1 (bnd_row hB hw _ (mem_at rm))
    have hq := hQ (K.set iw (row1.set 578 (.ob (mapOb Try.prog 3 g kv)))) _ Ls1 ⟨hL1.cell (.inr (Nat.le_refl _)) _, by rw [List.getElem?_set_ne (by omega)]; exact r0', by rw [List.getElem?_set_ne (by omega)]; exact r1', List.getElem?_set_self (by omega), h.ok, h.inj, fun n i => ?_, fun s hs y hy => ?_, h.num, h2, h.few⟩ (hv.of_on hon) (by simpa using hlen) (fun j hj => Mine.of_on (fun a => (hon a).1) hj) (fun j hj => ?_)
    · simp [vcOpt]
      exact aPost_unit (by simpa using hlen) (bndX_put hBK _ (bnd_set (bnd_row hBK hL1.w) (bnd_ob.2 hkN))) hq
    · rw [h.mem]
      constructor
      · rintro ⟨s, hs, y, hy, e1, e2⟩
        obtain ⟨s', hs', hy'⟩ := (hon y).2 ⟨s, hs, hy⟩
        exact ⟨s', hs', y, hy', e1, e2⟩
      · rintro ⟨s, hs, y, hy, e1, e2⟩
        obtain ⟨s', hs', hy'⟩ := (hon y).1 ⟨s, hs, hy⟩
        exact ⟨s', hs', y, hy', e1, e2⟩
    · obtain ⟨s', hs', hy'⟩ := (hon y).1 ⟨s, hs, hy⟩
      obtain ⟨t, ht, ht1, ht2, ht3, ht4⟩ := h.tick s' hs' y hy'
      obtain ⟨t', ht', hat⟩ := hpl s hs y hy (by simp)
      have hlt := hgt ⟨y.n, y.t⟩ ((hv.mem _).2 ⟨s', hs', y, hy', rfl⟩)
      simp only at hlt
      exact ⟨t', ht', by omega, by omega, by omega, hat⟩
    · have hne : iw ≠ j := fun e => hj (.inl e.symm)
      rw [getNX hne]; exact hfr j hj
end
end Go.Proofs.Ytijnohcaeedffaa

set_option linter.unusedVariables false
set_option linter.unnecessarySimpa false
set_option linter.unusedSimpArgs false
set_option linter.unusedSectionVars false
set_option maxRecDepth 100000
namespace Go.Proofs.Ytijnohcaeedffaa
open Go Go.RowKit

def leT (a b : Te) : Prop := a.t < b.t ∨ (a.t = b.t ∧ a.n ≤ b.n)
theorem lstT_least {l : List Te} {b : Te} (h : lstT l = some b) : ∀ y ∈ l, leT b y := by
  have key : ∀ (l : List Te) (a : Option Te) (b : Te), l.foldl lstp a = some b → (∀ c, a = some c → leT b c) ∧ ∀ y ∈ l, leT b y := by
    intro l
    induction l with
    | nil =>
      intro a b h
      simp at h
      subst h
      exact ⟨fun c hc => by cases hc; exact .inr ⟨rfl, Int.le_refl _⟩, fun y hy => by cases hy⟩
    | cons x l ih =>
      intro a b h
      obtain ⟨h1, h2⟩ := ih _ _ h
      have tr : ∀ {c d : Te}, leT b c → leT c d → leT b d := fun {c d} a1 a2 => by unfold leT at *; omega
      cases a with
      | none =>
        refine ⟨nofun, fun y hy => ?_⟩
        rcases List.mem_cons.1 hy with rfl | hy
        · exact h1 _ rfl
        · exact h2 y hy
      | some c =>
        by_cases hx : x.t < c.t ∨ (x.t = c.t ∧ x.n < c.n)
        · have e : lstp (some c) x = some x := by simp [lstp, hx]
          have hbx := h1 _ e
          refine ⟨fun d hd => by cases hd; exact tr hbx (by unfold leT; omega), fun y hy => ?_⟩
          rcases List.mem_cons.1 hy with rfl | hy
          · exact hbx
          · exact h2 y hy
        · have e : lstp (some c) x = some c := by simp [lstp, hx]
          have hbc := h1 _ e
          refine ⟨fun d hd => by cases hd; exact hbc, fun y hy => ?_⟩
          rcases List.mem_cons.1 hy with rfl | hy
          · exact tr hbc (by unfold leT; omega)
          · exact h2 y hy
  exact (key l none b h).2
theorem plc_inj {now q q' : Nat} (hq : q < 576) (hq' : q' < 576) (h : plc now q = plc now q') : q = q' := by
  unfold plc at h
  have h1 := Nat.mod_lt (now / 64 ^ (q / 64) + q % 64) (show 64 > 0 by decide)
  have h2 := Nat.mod_lt (now / 64 ^ (q' / 64) + q' % 64) (show 64 > 0 by decide)
  have h3 : q / 64 = q' / 64 := by omega
  rw [h3] at h
  omega
theorem plc_of {now t k : Nat} (h : Lev t now k) (hk : k ≤ 8) (hge : now ≤ t) : plc now (k * 64 + offT t now k) = k * 64 + (t / 64 ^ k) % 64 ∧ k * 64 + offT t now k < 576 ∧ (k * 64 + offT t now k) / 64 = k ∧ (k * 64 + offT t now k) % 64 = offT t now k := by
  obtain ⟨h1, h2, h3⟩ := h.off hge
  have e1 : (k * 64 + offT t now k) / 64 = k := by omega
  have e2 : (k * 64 + offT t now k) % 64 = offT t now k := by omega
  refine ⟨?_, by omega, e1, e2⟩
  unfold plc
  rw [e1, e2, h3]
theorem plc_lt (now q : Nat) (hq : q < 576) : plc now q < 576 := by
  unfold plc
  have h1 := Nat.mod_lt (now / 64 ^ (q / 64) + q % 64) (show 64 > 0 by decide)
  omega
section
variable {H : Hp} {iw : Nat} {row : List AV} {now : Nat} {st : Int} {g : Nat} {kv : List (Int × Nat)} {Ls : Nat → List Te} {ts : List Tm}
/-- The number of a timer's place, as it is looked at. -/
theorem Whl.num_of (h : Whl H iw row now st g kv Ls) {s : Nat} (hs : s < 576) {x : Te} (hx : x ∈ Ls s) : ∃ t k : Nat, x.t = (t : Int) ∧ now ≤ t ∧ Lev t now k ∧ k * 64 + offT t now k < 576 ∧ plc now (k * 64 + offT t now k) = s := by
  obtain ⟨t, ht, h1, h2, h3, k, hlev, hk, hse⟩ := h.tick s hs x hx
  obtain ⟨a1, a2, _⟩ := plc_of hlev hk h1
  exact ⟨t, k, ht, h1, hlev, a2, a1.trans hse.symm⟩
theorem Whl.first (h : Whl H iw row now st g kv Ls) (hv : Vw Ls ts) {q : Nat} {x : Te} (hq : q < 576) (hno : ∀ q', q' < q → Ls (plc now q') = []) (hx : lstT (Ls (plc now q)) = some x) : firstT ts = some ⟨x.n, x.t⟩ := by
  have hxm := lstT_mem hx
  have hps := plc_lt now q hq
  refine firstT_of ((hv.mem _).2 ⟨_, hps, x, hxm, rfl⟩) fun y hy => ?_
  obtain ⟨s, hs, z, hz, rfl⟩ := (hv.mem y).1 hy
  obtain ⟨t, k, ht, ht1, hlev, hlt, hp⟩ := h.num_of hs hz
  obtain ⟨t', k', ht', ht1', hlev', hlt', hp'⟩ := h.num_of hps hxm
  have e' := plc_inj hlt' hq hp'
  have hge : q ≤ k * 64 + offT t now k := Nat.le_of_not_lt fun hl => by
    have := hno _ hl
    rw [hp] at this
    rw [this] at hz
    cases hz
  rcases Nat.lt_or_ge q (k * 64 + offT t now k) with hl | hl
  · refine .inr (.inl ?_)
    have o1 := (hlev.off ht1).1
    have o2 := (hlev'.off ht1').1
    have := lev_lt hlev' hlev ht1' ht1 (by omega)
    show x.t < z.t
    omega
  · have eq : k * 64 + offT t now k = q := by omega
    rw [eq] at hp
    subst hp
    have := lstT_least hx z hz
    unfold leT at this
    unfold tlt
    simp only
    by_cases e1 : x.t = z.t
    · by_cases e2 : x.n = z.n
      · exact .inl (by rw [e1, e2])
      · exact .inr (.inr ⟨e1, by omega⟩)
    · exact .inr (.inl (by omega))
theorem Whl.empty (h : Whl H iw row now st g kv Ls) (hv : Vw Ls ts) (hno : ∀ q, q < 576 → Ls (plc now q) = []) : ts = [] := by
  cases ts with
  | nil => rfl
  | cons y l =>
    obtain ⟨s, hs, z, hz, rfl⟩ := (hv.mem y).1 (List.mem_cons_self ..)
    obtain ⟨t, k, ht, ht1, hlev, hlt, hp⟩ := h.num_of hs hz
    have := hno _ hlt
    rw [hp] at this
    rw [this] at hz
    cases hz
theorem Whl.step (h : Whl H iw row now st g kv Ls) (c : Int) : Whl (H.set iw (stRow row c)) iw (stRow row c) now c g kv Ls := by
  have hl := h.lnk.l
  unfold stRow
  exact ⟨h.lnk.cell (.inl (by omega)) _, by rw [List.getElem?_set_ne (by omega)]; exact h.r0, List.getElem?_set_self (by omega), by rw [List.getElem?_set_ne (by omega)]; exact h.rm, h.ok, h.inj, h.mem, h.tick, h.num, h.nowle, h.few⟩
theorem Lnk.chn (h : Lnk H iw row Ls) {s : Nat} (hs : s < 576) : ∀ (suf pre : List Te), Ls s = pre ++ suf → Chn H iw (headI suf) suf
  | [], _, _ => trivial
  | x :: suf, pre, he => ⟨rfl, headI suf, lastI pre, s, h.links s pre x suf hs he, h.chn hs suf (pre ++ [x]) (by simpa using he)⟩
theorem Whl.len (h : Whl H iw row now st g kv Ls) (hv : Vw Ls ts) : kv.length = ts.length := by
  have h1 : (kv.map Prod.fst).Nodup := List.pairwise_map.2 h.ok
  have h2 : (ts.map Tm.n).Nodup := List.pairwise_map.2 hv.nd
  have h3 : (kv.map Prod.fst).Perm (ts.map Tm.n) := (List.perm_ext_iff_of_nodup h1 h2).2 fun n => by
    rw [List.mem_map, List.mem_map]
    constructor
    · rintro ⟨p, hp, rfl⟩
      obtain ⟨s, hs, x, hx, e1, e2⟩ := (h.mem p.1 p.2).1 hp
      exact ⟨⟨x.n, x.t⟩, (hv.mem _).2 ⟨s, hs, x, hx, rfl⟩, e1⟩
    · rintro ⟨y, hy, rfl⟩
      obtain ⟨s, hs, x, hx, rfl⟩ := (hv.mem y).1 hy
      exact ⟨(x.n, x.i), (h.mem x.n x.i).2 ⟨s, hs, x, hx, rfl, rfl⟩, rfl⟩
  simpa using h3.length_eq
variable (E : Env) (Q : AV → Hp → Prop)
theorem first_vw (h : Whl H iw row now st g kv Ls) (hv : Vw Ls ts) (hst : 0 ≤ st ∧ st ≤ 4611686018427387904) (hne : ts ≠ [])
    (hQ : ∀ (s : Nat) (x : Te) (c : Int), s < 576 → x ∈ Ls s → firstT ts = some ⟨x.n, x.t⟩ → st < c → c ≤ st + 576 → Q (.ptr (some (x.i, 0))) (H.set iw (stRow row c))) : PC Try.prog E 26 [.ptr (some (iw, 0))] H Q := by
  refine first_pc iw H row now st Ls E Q h.lnk.w h.lnk.l h.r0 h.r1 h.nowle hst (fun s => headI (Ls s)) h.lnk.heads (fun s hs => h.lnk.chn hs (Ls s) [] rfl) h.lnk.nd (fun q x hq hno hx => ?_) (fun hno => absurd (h.empty hv hno) hne)
  exact hQ _ x _ (plc_lt now q hq) (lstT_mem hx) (h.first hv hq hno hx) (by omega) (by omega)
end
end Go.Proofs.Ytijnohcaeedffaa

set_option linter.unusedVariables false
set_option linter.unnecessarySimpa false
set_option linter.unusedSimpArgs false
set_option linter.unusedSectionVars false
set_option maxRecDepth 100000
namespace Go.Proofs.Ytijnohcaeedffaa
open Go Go.RowKit

def rowsT (l : List Tm) : List (List AV) := l.map fun y => [.int .i64 y.n, .int .i64 y.t]
theorem rowsT_len (l : List Tm) : (rowsT l).length = l.length := List.length_map ..
theorem rowsT_snoc (l : List Tm) (y : Tm) : rowsT l ++ [[.int .i64 y.n, .int .i64 y.t]] = rowsT (l ++ [y]) := by simp [rowsT]
/-- What has come so far, and what is still set. -/
structure Adv (ts ts1 out : List Tm) (lim : Int) : Prop where
  srt : srt out
  lt : ∀ a ∈ out, ∀ b ∈ ts1, tlt a b
  mem : ∀ y, y ∈ ts ↔ y ∈ out ∨ y ∈ ts1
  le : ∀ a ∈ out, a.t ≤ lim
  sub : ∃ p : Tm → Bool, ts1 = ts.filter p
  len : out.length + ts1.length = ts.length
section
variable {ts ts1 out : List Tm} {lim : Int} {m : Tm}
theorem Adv.zero (ts : List Tm) (lim : Int) : Adv ts ts [] lim := ⟨List.Pairwise.nil, nofun, fun y => ⟨.inr, fun h => h.resolve_left nofun⟩, nofun, ⟨fun _ => true, (List.filter_eq_self.2 fun _ _ => rfl).symm⟩, by simp⟩
theorem Adv.step (h : Adv ts ts1 out lim) (hnd : ts1.Pairwise fun x y => x.n ≠ y.n) (hm : firstT ts1 = some m) (hl : m.t ≤ lim) : Adv ts (offN ts1 m.n) (out ++ [m]) lim := by
  obtain ⟨h1, h2⟩ := firstT_spec hm
  have hoff : ∀ y, y ∈ offN ts1 m.n ↔ y ∈ ts1 ∧ y ≠ m := fun y => by
    unfold offN
    rw [List.mem_filter]
    constructor
    · rintro ⟨a, b⟩
      exact ⟨a, fun e => by rw [e] at b; simp at b⟩
    · rintro ⟨a, b⟩
      refine ⟨a, ?_⟩
      simp only [bne_iff_ne, ne_eq]
      exact fun e => b (nd_of hnd a h1 e)
  refine ⟨List.pairwise_append.2 ⟨h.srt, List.pairwise_singleton .., fun a ha b hb => ?_⟩, fun a ha b hb => ?_, fun y => ?_, fun a ha => ?_, ?_, ?_⟩
  · simp at hb; subst hb; exact h.lt a ha b h1
  · obtain ⟨b1, b2⟩ := (hoff b).1 hb
    rcases List.mem_append.1 ha with ha | ha
    · exact h.lt a ha b b1
    · simp at ha; subst ha; exact (h2 b b1).resolve_left b2
  · rw [h.mem, hoff, List.mem_append, List.mem_singleton]
    constructor
    · rintro (a | a)
      · exact .inl (.inl a)
      · by_cases e : y = m
        · exact .inl (.inr e)
        · exact .inr ⟨a, e⟩
    · rintro ((a | a) | a)
      · exact .inl a
      · exact .inr (a ▸ h1)
      · exact .inr a.1
  · rcases List.mem_append.1 ha with ha | ha
    · exact h.le a ha
    · simp at ha; subst ha; exact hl
  · obtain ⟨p, hp⟩ := h.sub
    exact ⟨fun y => p y && (y.n != m.n), by unfold offN; rw [hp, List.filter_filter]; congr 1; funext y; rw [Bool.and_comm]⟩
  · have : (offN ts1 m.n).length + 1 = ts1.length := by
      obtain ⟨pre, suf, hsp⟩ := List.append_of_mem h1
      have e : offN ts1 m.n = pre ++ suf := by
        rw [hsp] at hnd ⊢
        obtain ⟨n1, n2, n3⟩ := List.pairwise_append.1 hnd
        unfold offN
        rw [List.filter_append, List.filter_cons_of_neg (by simp), List.filter_eq_self.2 (fun y hy => by simpa using n3 y hy m (List.mem_cons_self ..)), List.filter_eq_self.2 (fun y hy => by simpa using Ne.symm ((List.pairwise_cons.1 n2).1 y hy))]
      rw [e, hsp]; simp; omega
    have := h.len
    rw [List.length_append]; simp; omega
theorem Adv.done (h : Adv ts ts1 out lim) (hnd : ts.Nodup) (hgt : ∀ y ∈ ts1, lim < y.t) : out = dueT lim ts ∧ ts1 = leftT lim ts := by
  refine ⟨due_eq hnd h.srt fun y => ?_, ?_⟩
  · constructor
    · exact fun hy => ⟨(h.mem y).2 (.inl hy), h.le y hy⟩
    · rintro ⟨a, b⟩
      rcases (h.mem y).1 a with c | c
      · exact c
      · have := hgt y c; omega
  · obtain ⟨p, hp⟩ := h.sub
    unfold leftT
    rw [hp]
    refine List.filter_congr fun y hy => ?_
    by_cases hpy : p y = true
    · rw [hpy]
      have := hgt y (by rw [hp]; exact List.mem_filter.2 ⟨hy, hpy⟩)
      simp [this]
    · have h1 : y ∈ out := ((h.mem y).1 hy).resolve_right fun e => hpy (by rw [hp] at e; exact (List.mem_filter.1 e).2)
      have := h.le y h1
      have e : p y = false := by simpa using hpy
      rw [e]
      simp; omega
end
def muA (n : Nat) (fr : List AV) : Nat := match aget fr 6 with
  | .sl _ _ rows => n - rows.length
  | _ => 0
def avI (iw : Nat) (H : Hp) (now tick : Nat) (st : Int) (g : Nat) (Ls : Nat → List Te) (ts : List Tm) (fr : List AV) (K : Hp) : Prop :=
  ∃ (row1 : List AV) (st1 : Int) (kv1 : List (Int × Nat)) (Ls1 : Nat → List Te) (ts1 out : List Tm), Whl K iw row1 now st1 g kv1 Ls1 ∧ Vw Ls1 ts1 ∧ Adv ts ts1 out tick ∧ st ≤ st1 ∧ st1 ≤ st + 576 * out.length ∧ (out ≠ [] → st < st1) ∧ K.length = H.length ∧ (∀ j, Mine iw Ls1 j → Mine iw Ls j) ∧ (∀ j, ¬ Mine iw Ls j → K[j]? = H[j]?) ∧ BndH H.length K ∧
  ∃ x : Nat → AV, fr = [.ptr (some (iw, 0)), .int .i64 tick, x 2, x 3, x 4, x 5, .sl true 2 (rowsT out), x 7, x 8, x 9, x 10, x 11, x 12, x 13, x 14, x 15, x 16, x 17, x 18, x 19, x 20, x 21, x 22, x 23, x 24, x 25, x 26, x 27, x 28, x 29, x 30, x 31, x 32, x 33, x 34, x 35, x 36, x 37, x 38, x 39, x 40, x 41, x 42, x 43, x 44, x 45, x 46, x 47, x 48, x 49, x 50, x 51, x 52, x 53, x 54, x 55, x 56, x 57, x 58, x 59, x 60, x 61]
section
variable {H : Hp} {iw : Nat} {row : List AV} {now : Nat} {st : Int} {g : Nat} {kv : List (Int × Nat)} {Ls : Nat → List Te} {ts : List Tm} (E : Env) (Q : AV → Hp → Prop)
theorem advance_pc (h : Whl H iw row now st g kv Ls) (hv : Vw Ls ts) (hst : 0 ≤ st ∧ st + 576 * (ts.length + 1) ≤ 4611686018427387904) (tick : Int)
    (hQ0 : (tick < now ∨ 281474976710656 < tick) → Q (.tup [.sl false 2 [], .int .i64 250]) H)
    (hQ : ∀ (H' : Hp) (row' : List AV) (kv' : List (Int × Nat)) (Ls' : Nat → List Te) (st' : Int) (tk : Nat), tick = tk → now ≤ tk → tk ≤ 281474976710656 → Whl H' iw row' tk st' g kv' Ls' → Vw Ls' (leftT tick ts) → H'.length = H.length → (∀ j, Mine iw Ls' j → Mine iw Ls j) → (∀ j, ¬ Mine iw Ls j → H'[j]? = H[j]?) →
      st ≤ st' → st' ≤ st + 576 * ((dueT tick ts).length + 1) → (dueT tick ts ≠ [] → st < st') → Q (.tup [.sl false 2 (rowsT (dueT tick ts)), .int .i64 0]) H') : PC Try.prog E 13 [.ptr (some (iw, 0)), .int .i64 tick] H Q := by
  have hw := h.lnk.w
  have rm := h.rm
  have r0 := h.r0
  have hwl := ltX hw
  have hrl := h.lnk.l
  have hnow := h.nowle
  refine pc_enter Try.func13 rfl [40] [(4, [0, 0, 0, 3, 3])] (by kernel_rfl) (fun hB => ?_)
  by_cases h1 : tick < now
  · have hq := hQ0 (.inl h1)
    simp [Try.ntmps13, Try.results13, List.replicate_succ, hw, r0, h1]
    exact aPost_same0 hB (v0 := .tup [.nil, .int .i64 250]) (by simp) (.inr ⟨_, [.sl false 2 [], .int .i64 250], rfl, rfl, ⟨.inr ⟨rfl, _, _, rfl⟩, .inl rfl, trivial⟩, by simp [AV.free]⟩) (by simp) hq
  by_cases h2 : 281474976710656 < tick
  · have hq := hQ0 (.inr h2)
    simp [Try.ntmps13, Try.results13, List.replicate_succ, hw, r0, h1, h2]
    exact aPost_same0 hB (v0 := .tup [.nil, .int .i64 250]) (by simp) (.inr ⟨_, [.sl false 2 [], .int .i64 250], rfl, rfl, ⟨.inr ⟨rfl, _, _, rfl⟩, .inl rfl, trivial⟩, by simp [AV.free]⟩) (by simp) hq
  obtain ⟨tk, rfl⟩ : ∃ tk : Nat, tick = tk := ⟨tick.toNat, by omega⟩
  have ht1 : now ≤ tk := by omega
  have ht2 : tk ≤ 281474976710656 := by omega
  simp [Try.ntmps13, Try.results13, List.replicate_succ, hw, r0, h1, h2]
  have hnd : ts.Nodup := hv.nd.imp fun hne e => hne (by rw [e])
  have hlen0 := h.len hv
  have hfew := h.few
  refine VL_nil 6 2 (by rfl) ?_
  simp
  refine VL_go (avI iw H now tk st g Ls ts) (fun fr _ => muA ts.length fr) ⟨row, st, kv, Ls, ts, [], h, hv, Adv.zero ts tk, by omega, by simp, by simp, rfl, fun _ h => h, fun _ _ => rfl, hB, fr_intro (by simp [rowsT])⟩ ?_
  rintro fr K ⟨row1, st1, kv1, Ls1, ts1, out, hW, hV, hA, hs1, hs2, hs3, hl, hmn, hfr, hBK, x, rfl⟩
  have fin : ∀ (K1 : Hp) (row2 : List AV) (c : Int) (Ls2 : Nat → List Te), st ≤ c → c ≤ st + 576 * (out.length + 1) → (out ≠ [] → st < c) → (∀ y ∈ ts1, (tk : Int) < y.t) → Whl K1 iw row2 tk c g kv1 Ls2 → Vw Ls2 ts1 → K1.length = K.length → (∀ j, Mine iw Ls2 j → Mine iw Ls1 j) → (∀ j, ¬ Mine iw Ls1 j → K1[j]? = K[j]?) → Q (.tup [.sl false 2 (rowsT out), .int .i64 0]) K1 := by
    intro K1 row2 c Ls2 a1 a2 a3 a4 a5 a6 a7 a8 a9
    obtain ⟨e1, e2⟩ := hA.done hnd a4
    rw [e1]
    rw [e1] at a2 a3
    exact hQ K1 row2 kv1 Ls2 c tk rfl ht1 ht2 a5 (by rw [← e2]; exact a6) (a7.trans hl) (fun j hj => hmn j (a8 j hj)) (fun j hj => (a9 j fun hm => hj (hmn j hm)).trans (hfr j hj)) a1 a2 a3
  have hw1 := hW.lnk.w
  have rm1 := hW.rm
  have hlen1 := hW.len hV
  cases hts : ts1 with
  | nil =>
    have hk0 : kv1 = [] := List.eq_nil_of_length_eq_zero (by rw [hlen1, hts]; rfl)
    subst hts hk0
    simp [hw1, rm1, mapOb]
    refine PC.bnd (move_pc E _ hW hV tk ht1 ht2 nofun (fun H' row' Ls' hW' hV' hl' hmn' hfr' hB' _ => ?_))
    have hq := fin H' row' st1 Ls' hs1 (by omega) hs3 nofun hW' hV' hl' hmn' hfr'
    simp [Kcall, KP]
    exact aPost_upX rfl (by omega) hB' (by simp [rowsT]) hq
  | cons y0 l0 =>
    have hne : ts1 ≠ [] := by rw [hts]; simp
    have hpos : 0 < kv1.length := by
      rw [hlen1, hts]
      simp
    clear hts
    simp [hw1, rm1, mapOb, hpos]
    have hol : out.length + ts1.length = ts.length := hA.len
    have hpos2 : 0 < ts1.length := by omega
    refine PC.bnd (first_vw E _ hW hV ⟨by omega, by omega⟩ hne (fun s y c hs hy hf hc1 hc2 hB2 _ => ?_))
    have hW2 := hW.step c
    obtain ⟨pre, suf, hsp⟩ := List.append_of_mem hy
    have hyc := hW2.lnk.links s pre y suf hs hsp
    unfold tmr at hyc
    by_cases hgt : (tk : Int) < y.t
    · simp [Kcall, KP, hyc, hgt]
      obtain ⟨f1, f2⟩ := firstT_spec hf
      refine PC.bnd (move_pc E _ hW2 hV tk ht1 ht2 (fun z hz => ?_) (fun H' row' Ls' hW' hV' hl' hmn' hfr' hB' _ => ?_))
      · rcases f2 z hz with rfl | h3
        · exact hgt
        · unfold tlt at h3; simp only at h3; omega
      have hq := fin H' row' c Ls' (by omega) (by omega) (fun ho => by have := hs3 ho; omega) (fun z hz => by
        rcases f2 z hz with rfl | h3
        · exact hgt
        · unfold tlt at h3; simp only at h3; omega) hW' hV' (by simpa using hl') hmn' (fun j hj => by
        rw [hfr' j hj]
        exact getNX (fun e => hj (.inl e.symm)) _)
      simp [Kcall, KP]
      exact aPost_upX rfl (by simp at hl'; omega) hB' (by simp [rowsT]) hq
    · have hap1 : out.length + 1 ≤ maxLen := by unfold maxLen; omega
      have hap2 : (out.length + 1) * 16 ≤ 140737488355328 := by omega
      simp [Kcall, KP, hyc, hgt, rowsT_len, hap1, hap2]
      have hkm := (hW2.mem y.n y.i).2 ⟨s, hs, y, hy, rfl, rfl⟩
      refine PC.bnd (stop_vw E _ hW2 hV y.n (hW2.num _ hkm) (fun K3 row3 Ls3 hW3 hV3 hsub hl3 hf3 hB3 _ => ?_))
      simp [Kcall, KP]
      have hA3 := hA.step hV.nd hf (by simp only; omega)
      refine Kloop_normal ⟨row3, c, kvDel kv1 y.n, Ls3, offN ts1 y.n, out ++ [⟨y.n, y.t⟩], hW3, hV3, hA3, by omega, by simp; omega, fun _ => by omega, ?_, fun j hj => ?_, fun j hj => ?_, ?_, fr_intro (by simp [rowsT])⟩ ?_
      · rw [hl3]; simpa using hl
      · refine hmn j ?_
        rcases hj with rfl | ⟨s2, hs2, z, hz, e⟩
        · exact .inl rfl
        · exact .inr ⟨s2, hs2, z, hsub s2 z hz, e⟩
      · rw [hf3 j fun hm => hj (hmn j hm), getNX (fun e => hj (.inl e.symm))]
        exact hfr j hj
      · have e : K3.length = H.length := by rw [hl3]; simpa using hl
        rw [← e]; exact hB3
      · simp [muA, rowsT_len]
        omega
end
end Go.Proofs.Ytijnohcaeedffaa

set_option linter.unusedVariables false
set_option linter.unnecessarySimpa false
set_option linter.unusedSimpArgs false
set_option maxRecDepth 100000
namespace Go.Proofs.Ytijnohcaeedffaa
open Go Go.RowKit
open Go.Maps (Keyed has)

section
variable {P : Program} {E : Env} {W : World} {F F' : Nat → Prop} {Rd0 : Nat → Nat → Prop} {w w' : World} {β β' β0 : Nat → Nat} {Rd Rd' : Nat → Nat → Prop} {Ow Ow' : Nat → Option Hold} {fr fr' : List AV} {H H' : Hp} {tmps : Array Value} {N N' n r g i p i' p' : Nat} {l : List AV} {X : Ob} {o : Obj} {a : Act} {k : TypeId}
/-- A block that nobody holds becomes a cell's own. -/
theorem S3.obNew (h0 : S3 E W F Rd0 w β Rd Ow fr H tmps) (hi : H[i]? = some l) (hp : l[p]? = some (.mh i' p' g)) (hg : Ow g = none) (hlt : g < w.heap.size) (hbox : ∀ j, j < H.length → β j ≠ g) (hrd : ∀ q, ¬ Rd g q) (hF : ¬ F g) (hE : ¬ E.Fix g) (hX : X.M w β (.map (some g))) (hX2 : X.own (.map (some g)) = some g) (hN : X.N ≤ H.length) :
    S3 E W F Rd0 w β Rd (upd Ow g (some (.cell i p))) fr (H.set i (l.set p (.ob X))) tmps := by
  have h := h0.claim hg (.cell i p) hlt hbox hF hE
  have hil := at_ltA hi
  have hpl := at_ltA hp
  have hlen : (H.set i (l.set p (.ob X))).length = H.length := List.length_set ..
  refine ⟨⟨fun j l' hj => ?_, by rw [hlen]; exact h.hr.inj, by rw [hlen]; exact h.hr.sep, h.hr.ows, h.hr.rds, fun m hm x hx => ?_, by rw [hlen]; exact h.hr.fix, fun j l' t hj h1 => ?_⟩, by rw [hlen]; exact h.ff, by rw [hlen]; exact h.fo, h.ne⟩
  · by_cases hji : j = i
    · subst hji
      rw [List.getElem?_set_self hil] at hj
      cases hj
      obtain ⟨T, cs, c1, c2, c3⟩ := h.hr.box j l hi
      refine ⟨T, cs, c1, by simpa using c2, fun q x u hx hu => ?_⟩
      by_cases hqp : q = p
      · subst hqp
        rw [List.getElem?_set_self hpl] at hx
        cases hx
        obtain ⟨r1, _, _⟩ := c3 q _ u hp hu
        cases rel_mh r1
        exact ⟨.ob X _ hX (fun g' hg' => by rw [hX2] at hg'; cases hg'; exact hrd), rfl, fun g' hg' => by
          have e : X.own (.map (some g)) = some g' := hg'
          rw [hX2] at e; cases e; exact upd_same ..⟩
      · rw [List.getElem?_set_ne (Ne.symm hqp)] at hx
        exact c3 q x u hx hu
    · rw [List.getElem?_set_ne (Ne.symm hji)] at hj
      exact h.hr.box j l' hj
  · rw [hlen]
    rcases List.mem_or_eq_of_mem_set hm with h1 | rfl
    · exact h.hr.bnd m h1 x hx
    · rcases List.mem_or_eq_of_mem_set hx with h1 | rfl
      · exact h.hr.bnd l (mem_at hi) x h1
      · exact .ob X hN
  · by_cases hji : j = i
    · subst hji
      rw [List.getElem?_set_self hil] at hj
      cases hj
      by_cases hp0 : p = 0
      · subst hp0
        rw [List.getElem?_set_self hpl] at h1
        cases h1
      · rw [List.getElem?_set_ne hp0] at h1
        exact h.hr.bld j l t hi h1
    · rw [List.getElem?_set_ne (Ne.symm hji)] at hj
      exact h.hr.bld j l' t hj h1
/-- Block g, o, beside all that is held. -/
def PSt (E : Env) (W : World) (F : Nat → Prop) (Rd0 : Nat → Nat → Prop) (β0 : Nat → Nat) (n g : Nat) (o : Obj) (fr : List AV) (H : Hp) (a : Act) (w : World) : Prop :=
  a.defers = [] ∧ n ≤ H.length ∧ ∃ β Rd Ow, S3 E W F Rd0 w β Rd Ow fr H a.tmps ∧ (∀ j, j < n → β j = β0 j) ∧ Ow g = none ∧ (∀ j, j < H.length → β j ≠ g) ∧ (∀ q, ¬ Rd g q) ∧ ¬ F g ∧ ¬ E.Fix g ∧ w.heap[g]? = some o
theorem PSt.split (h : PSt E W F Rd0 β0 n g o fr H a w) : ∃ F' Rd' β', St E w F' Rd' β' H.length fr H a w ∧ ∀ fr' H' a' w', St E w F' Rd' β' H.length fr' H' a' w' → PSt E W F Rd0 β0 n g o fr' H' a' w' := by
  obtain ⟨hd, hn, β, Rd, Ow, hS, hβ, q1, q2, q3, q4, q5, ho⟩ := h
  have hlt := (Array.getElem?_eq_some_iff.1 ho).1
  have hS' : S3 E w (fun b => F b ∨ b = g) Rd w β Rd Ow fr H a.tmps := by
    refine ⟨hS.hr, hS.ff, ⟨fun b hb => ?_, fun _ _ => rfl, fun b hb => ?_, fun b j hb hj => ?_, fun _ _ _ h => h, rfl, rfl, rfl, Nat.le_refl _, fun _ _ h => ⟨h, rfl⟩⟩, hS.ne⟩
    · rcases hb with hb | rfl
      · exact Nat.lt_of_lt_of_le (hS.fo.lt b hb) hS.fo.size
      · exact hlt
    · rcases hb with hb | rfl
      · exact hS.fo.own b hb
      · exact q1
    · rcases hb with hb | rfl
      · exact hS.fo.box b j hb hj
      · exact q2 j hj
  refine ⟨_, Rd, β, ⟨hd, Nat.le_refl _, β, Rd, Ow, hS', fun _ _ => rfl⟩, ?_⟩
  rintro fr' H' a' w' ⟨hd', hn', β', Rd', Ow', hS2, hβ'⟩
  exact ⟨hd', Nat.le_trans hn hn', β', Rd', Ow', ⟨hS2.hr, hS2.ff, hS.fo.trans hS2.fo fun b hb => .inl hb, hS2.ne⟩, fun j hj => (hβ' j (by omega)).trans (hβ j hj), hS2.fo.own g (.inr rfl), fun j hj => hS2.fo.box g j (.inr rfl) hj, fun q hq => q3 q (hS2.fo.rd g q (.inr rfl) hq), q4, q5, (hS2.fo.same g (.inr rfl)).trans ho⟩
/-- The new map is a cell's own. -/
theorem PSt.held (h : PSt E W F Rd0 β0 n g (.map #[] 0) fr H a w) (hi : H[i]? = some l) (hp : l[p]? = some (.mh i' p' g)) : St E W F Rd0 β0 n fr (H.set i (l.set p (.ob (mapOb P k g [])))) a w := by
  obtain ⟨hd, hn, β, Rd, Ow, hS, hβ, q1, q2, q3, q4, q5, ho⟩ := h
  have hlt := (Array.getElem?_eq_some_iff.1 ho).1
  have hown : w.ownsMap P k ptrEl g 0 (.map [] : DataW Unit) := by
    obtain ⟨es, clock, hb, h2⟩ := World.ownsMap_made (H := Unit) w P k ptrEl
    have e : (w.alloc (.map #[] 0)).heap[w.heap.size]? = some (.map #[] 0) := heap_alloc_new w _
    rw [e] at hb
    cases hb
    exact ⟨#[], 0, ho, h2⟩
  exact ⟨hd, by simpa using hn, β, Rd, _, hS.obNew hi hp q1 hlt q2 q3 q4 q5 (X := mapOb P k g []) ⟨rfl, List.Pairwise.nil, g, .map [], rfl, hown, rfl, fun z => rfl, fun z j hz => by cases hz⟩ rfl (Nat.zero_le _), hβ⟩
theorem mkm_op {ops : Array Oper} {Q : Exit → Act → World → Prop} {rest : List Oper} {op : Oper} {t : TypeId} {m : Nat} (hop : op.op = .makeMap t none) (hd : op.dst = some m) (hg : op.guard = none) (hs : St E W F Rd0 β0 n fr H a w)
    (hK : ∀ g w', PSt E W F Rd0 β0 n g (.map #[] 0) (fr.set m (.mh 0 0 g)) H (a.put (some m) (.map (some g))) w' → wpList P ops Q rest (a.put (some m) (.map (some g))) w') : wpList P ops Q (op :: rest) a w := by
  obtain ⟨hdf, hn, β, Rd, Ow, hS, hβ⟩ := hs
  refine wpList_plain hg fun K' hK' => ?_
  unfold Oper.wp
  have hrun := run_makeMap (P := P) t w
  simp [execOp, hop, hrun, Result.andThen]
  show K' (a.put op.dst _) _
  rw [hd]
  have hsame : ∀ b, b < w.heap.size → (w.alloc (.map #[] 0)).heap[b]? = w.heap[b]? := fun b hb => heap_alloc_old w _ hb
  have hS1 : S3 E W F Rd0 (w.alloc (.map #[] 0)) β Rd Ow fr H a.tmps := hS.move (fun g o hg => ⟨hg, World.cell?_of_block (a := ⟨g, o, none⟩) (hsame g (hS.hr.rds g o hg))⟩) (fun b hb => ⟨hsame b hb, fun _ h => h⟩) (fun g o hg => by have := hS.hr.rds g o hg; simp; omega) (by simp) rfl rfl rfl
  refine hK' _ _ (hK w.heap.size _ ⟨hdf, hn, β, Rd, Ow, hS1.aput (some m) rfl (.mh 0 0 _) (.mh ..) rfl (fun g hg => by cases hg), hβ, ?_, fun j hj e => ?_, fun q hq => ?_, fun hF => ?_, fun hF => ?_, heap_alloc_new w _⟩)
  · cases ho2 : Ow w.heap.size with
    | none => rfl
    | some h => exact absurd (hS.hr.ows _ _ ho2) (Nat.lt_irrefl _)
  · obtain ⟨T', cs', c1, _⟩ := hS.hr.box j _ (List.getElem?_eq_getElem hj)
    have := (Array.getElem?_eq_some_iff.1 c1).1
    omega
  · exact absurd (hS.hr.rds _ _ hq) (Nat.lt_irrefl _)
  · have h1 := hS.fo.lt _ hF
    have h2 := hS.fo.size
    omega
  · exact absurd (hS.hr.fix _ hF).2.2.2 (Nat.lt_irrefl _)
end
def okM (P : Program) (B : List Tmp) (ND : List (Nat × List Nat)) (fn : Func) (l : List Code) (D : Code) : Bool := !(fn.name == "runtime.NumGoroutine") && P.follows .mixedOrders && noFrz ND && l.all (regsB B ND) && regsB B ND D
/-- What is asked where the new map lies in its cell. -/
def VMkm (P : Program) (k : TypeId) (g : Nat) (K : List AV → Hp → Prop) (fr : List AV) (H : Hp) : Prop := ∃ (i p i' p' : Nat) (l : List AV), H[i]? = some l ∧ l[p]? = some (.mh i' p' g) ∧ K fr (H.set i (l.set p (.ob (mapOb P k g []))))
section
variable {P : Program} {E : Env} {H : Hp}
/-- A FUNCTION THAT MAKES A MAP, ENTERED. -/
theorem pc_enterMkm {f : FuncId} {fn : Func} (l : List Code) {i4 : Nat} {ops : Array Oper} {p4 q4 : List Oper} {o0 : Oper} {D : Code} {m : Nat} {t k : TypeId} (hf : P.funcs[f]? = some fn)
    (hb : fn.body = some (preS l (.seq (.region i4 ops false) D))) (B : List Tmp) (ND : List (Nat × List Nat)) (hok : okM P B ND fn l D = true) (e4 : ops.toList = p4 ++ o0 :: q4) (c0 : o0.op = .makeMap t none ∧ o0.dst = some m ∧ o0.guard = none) {args : List AV} {Q : AV → Hp → Prop}
    (h : BndH H.length H → vcPre P E B ND l (aPost P fn.results.toList H.length Q) (fun fr H' => vcl P E B ops (fun fr2 H2 => ∀ g, vcl P E B ops (VMkm P k g (fun fr3 H3 => vc P E B ND D (aPost P fn.results.toList H.length Q) fr3 H3)) [] q4 (fr2.set m (.mh 0 0 g)) H2) (ndOf ND i4) p4 fr H') (args ++ List.replicate (fn.ntmps - args.length) (.raw undef)) H) : PC P E f args H Q := by
  unfold okM at hok
  simp only [Bool.and_eq_true, Bool.not_eq_true'] at hok
  obtain ⟨⟨⟨⟨hname, hm⟩, hz⟩, hl⟩, hD⟩ := hok
  refine pc_enterG hf hb hname (fun hBn W F Rd0 β0 a w hs KC hK => ?_)
  refine pre_ok hm hz hK (fun fr1 H1 a1 w1 hs1 hv => ?_) l _ _ _ _ hl hs (h hBn)
  refine wp_seq (wp_region_list ?_)
  rw [e4]
  refine wpList_vcl_app (n := H.length) (fun fr2 H2 a2 w2 hs2 hv2 => ?_) p4 _ _ _ _ _ hs1 hv
  refine mkm_op c0.1 c0.2.1 c0.2.2 hs2 (fun g w' hP => ?_)
  obtain ⟨F', Rd', β', hs', back⟩ := hP.split
  refine wpList_vcl (K := VMkm P k g (fun fr3 H3 => vc P E B ND D (aPost P fn.results.toList H.length Q) fr3 H3)) (fun fr3 H3 a3 w3 hs3 hk3 => ?_) q4 [] _ _ _ _ hs' (hv2 g)
  obtain ⟨i, p, i', p', l', h1, h2, h3⟩ := hk3
  exact vc_ok hm (fun id m hm2 => absurd hm2 (noFrz_spec hz id m)) D _ _ _ _ _ _ hD ((back _ _ _ _ hs3).held h1 h2) h3 hK
end
end Go.Proofs.Ytijnohcaeedffaa

set_option linter.unusedVariables false
set_option linter.unnecessarySimpa false
set_option linter.unusedSimpArgs false
set_option linter.unusedSectionVars false
set_option maxRecDepth 100000
namespace Go.Proofs.Ytijnohcaeedffaa
open Go Go.RowKit

def zokB (z : List AV) : Bool := z.length == 579 && (match (z[1]? : Option AV) with | some (.int .i64 n) => n == 0 | _ => false) && (match (z[578]? : Option AV) with | some (.raw _) => true | _ => false) && (List.range 576).all fun s => match (z[2 + s]? : Option AV) with
  | some (.ptr none) => true
  | _ => false
theorem zrow : ∃ z, tzc Try.prog 64 = some z ∧ z.length = 579 ∧ z[1]? = some (.int .i64 0) ∧ ∀ s, s < 576 → z[2 + s]? = some (.ptr none) := by
  have h : (tzc Try.prog 64).any zokB = true := by kernel_rfl
  cases hz : tzc Try.prog 64 with
  | none => rw [hz] at h; cases h
  | some z =>
    rw [hz] at h
    have h : zokB z = true := h
    unfold zokB at h
    simp only [Bool.and_eq_true, beq_iff_eq, List.all_eq_true, List.mem_range] at h
    obtain ⟨⟨⟨h1, h2⟩, h3⟩, h4⟩ := h
    refine ⟨z, rfl, h1, ?_, fun s hs => ?_⟩
    · split at h2
      · rename_i n hn
        simp at h2
        rw [hn, h2]
      · cases h2
    · have := h4 s hs
      split at this
      · rename_i e; exact e
      · cases this
section
variable {H : Hp} {iw : Nat} {row : List AV} {now : Nat} {st : Int} {g : Nat} {kv : List (Int × Nat)} {Ls : Nat → List Te} {ts : List Tm} (E : Env) (Q : AV → Hp → Prop)
theorem now_pc (h : Whl H iw row now st g kv Ls) (hQ : Q (.int .i64 now) H) : PC Try.prog E 21 [.ptr (some (iw, 0))] H Q := by
  have hw := h.lnk.w
  have r0 := h.r0
  refine pc_enter Try.func21 rfl [] [] (by kernel_rfl) (fun hB => ?_)
  simp [Try.ntmps21, Try.results21, List.replicate_succ, hw, r0]
  exact aPost_same0 hB rfl (nilV_refl _) (by simp) hQ
theorem new_pc (now : Int) (hQ0 : (now < 0 ∨ 281474976710656 < now) → Q (.tup [.ptr none, .int .i64 250]) H)
    (hQ : ∀ (n : Nat) (row : List AV) (g : Nat), now = n → n ≤ 281474976710656 → Whl (H ++ [row]) H.length row n 0 g [] (fun _ => []) → Q (.tup [.ptr (some (H.length, 0)), .int .i64 0]) (H ++ [row])) : PC Try.prog E 10 [.int .i64 now] H Q := by
  refine pc_enterMkm [_, _] (p4 := [_]) (k := 3) Try.func10 rfl [] [] (by kernel_rfl) rfl ⟨rfl, rfl, rfl⟩ (fun hB => ?_)
  by_cases h1 : now < 0
  · have hq := hQ0 (.inl h1)
    simp [vcPre, ndOf, Try.ntmps10, Try.results10, List.replicate_succ, h1]
    exact aPost_same0 hB (v0 := .tup [.ptr none, .int .i64 250]) (by simp) (nilV_refl _) (by simp) hq
  by_cases h2 : 281474976710656 < now
  · have hq := hQ0 (.inr h2)
    simp [vcPre, ndOf, Try.ntmps10, Try.results10, List.replicate_succ, h1, h2]
    exact aPost_same0 hB (v0 := .tup [.ptr none, .int .i64 250]) (by simp) (nilV_refl _) (by simp) hq
  obtain ⟨n, rfl⟩ : ∃ n : Nat, now = n := ⟨now.toNat, by omega⟩
  obtain ⟨z, hz, hzl, hz1, hz2⟩ := zrow
  simp [vcPre, ndOf, Try.ntmps10, Try.results10, List.replicate_succ, h1, h2, hz, hzl, AV.dis, AV.free]
  intro g
  obtain ⟨L, hL⟩ : ∃ L, AV.int .i64 n :: (List.take 577 z.tail ++ .mh 0 0 g :: List.drop 579 z) = L := ⟨_, rfl⟩
  rw [hL]
  have htl : (List.take 577 z.tail).length = 577 := by simp [hzl]
  have hd0 : List.drop 579 z = [] := List.drop_eq_nil_of_le (by omega)
  rw [hd0] at hL
  have hLl : L.length = 579 := by rw [← hL]; simp [htl]
  have hL8 : L[578]? = some (.mh 0 0 g) := by
    rw [← hL, List.getElem?_cons_succ, List.getElem?_append_right (by omega), htl]; rfl
  have hL0 : L[0]? = some (.int .i64 n) := by rw [← hL]; rfl
  have hLs : ∀ j, j < 577 → L[j + 1]? = z[j + 1]? := fun j hj => by
    rw [← hL, List.getElem?_cons_succ, List.getElem?_append_left (by omega), List.getElem?_take, if_pos hj, List.getElem?_tail]
  have hH : (H ++ [L]).set H.length (L.set 578 (.ob (mapOb Try.prog 3 g []))) = H ++ [L.set 578 (.ob (mapOb Try.prog 3 g []))] := by
    rw [List.set_append_right _ _ (Nat.le_refl _), Nat.sub_self]; rfl
  refine ⟨H.length, 578, 0, 0, L, by simp, hL8, ?_⟩
  rw [hH]
  have hbL : ∀ x ∈ L.set 578 (.ob (mapOb Try.prog 3 g [])), Bnd (H.length + 1) x := by
    intro x hx
    obtain ⟨j, hj⟩ := List.getElem?_of_mem hx
    by_cases h8 : j = 578
    · subst h8
      rw [List.getElem?_set_self (by omega)] at hj
      cases hj
      exact bnd_ob.2 (Nat.zero_le _)
    · rw [List.getElem?_set_ne (Ne.symm h8)] at hj
      have hjl := at_ltA hj
      match j, hj, h8 with
      | 0, hj, _ => rw [hL0] at hj; cases hj; exact .int _ _
      | 1, hj, _ => rw [hLs 0 (by omega), hz1] at hj; cases hj; exact .int _ _
      | j + 2, hj, h8 =>
        rw [hLs (j + 1) (by omega), show j + 1 + 1 = 2 + j by omega, hz2 j (by omega)] at hj
        cases hj
        exact .ptr0
  have hW : Whl (H ++ [L.set 578 (.ob (mapOb Try.prog 3 g []))]) H.length (L.set 578 (.ob (mapOb Try.prog 3 g []))) n 0 g [] (fun _ => []) := by
    refine ⟨⟨by simp, by simpa using hLl, fun s hs => ?_, fun s pre x suf hs he => by simp at he, fun s hs => List.Pairwise.nil⟩, ?_, ?_, List.getElem?_set_self (by omega), List.Pairwise.nil, List.Pairwise.nil, ?_, nofun, nofun, by omega, by simp⟩
    · rw [List.getElem?_set_ne (by omega), show 2 + s = (s + 1) + 1 by omega, hLs (s + 1) (by omega), show s + 1 + 1 = 2 + s by omega, hz2 s hs]
      rfl
    · rw [List.getElem?_set_ne (by omega)]; exact hL0
    · rw [List.getElem?_set_ne (by omega), hLs 0 (by omega)]; exact hz1
    · intro m i
      simp
  have hq := hQ n _ g rfl (by omega) hW
  refine aPost_upX (v := .tup [.ptr (some (H.length, 0)), .int .i64 0]) (by simp) (by simp) (fun l hl => ?_) (by simp) hq
  rw [List.length_append]
  rcases List.mem_append.1 hl with h3 | h3
  · exact fun x hx => (hB l h3 x hx).mono (by simp)
  · simp at h3; subst h3; exact hbL
/-! ### A nil wheel. -/
end
end Go.Proofs.Ytijnohcaeedffaa

set_option linter.unusedVariables false
set_option linter.unnecessarySimpa false
set_option linter.unusedSimpArgs false
set_option linter.unusedSectionVars false
set_option maxRecDepth 100000
namespace Go.Proofs.Ytijnohcaeedffaa
open Go Go.RowKit

/-- A wheel in the boxes M: its own in box iw, its tick, the places looked at, its timers. -/
def Wh (M : Nat → Prop) (H : Hp) (iw now : Nat) (st : Int) (ts : List Tm) : Prop :=
  ∃ row g kv Ls, Whl H iw row now st g kv Ls ∧ Vw Ls ts ∧ (∀ j, Mine iw Ls j → M j) ∧ ∀ j, M j → j < H.length
/-- What a call on it leaves: boxes M' instead of M, all others as they were. -/
structure Lft (M M' : Nat → Prop) (H H' : Hp) : Prop where
  le : H.length ≤ H'.length
  sub : ∀ j, M' j → M j ∨ H.length ≤ j
  keep : ∀ j, j < H.length → ¬ M j → H'[j]? = H[j]?
theorem Lft.refl (M : Nat → Prop) (H : Hp) : Lft M M H H := ⟨Nat.le_refl _, fun _ h => .inl h, fun _ _ _ => rfl⟩
theorem Lft.trans {M M1 M2 : Nat → Prop} {H H1 H2 : Hp} (h : Lft M M1 H H1) (k : Lft M1 M2 H1 H2) : Lft M M2 H H2 :=
  ⟨Nat.le_trans h.le k.le, fun j hj => by
    rcases k.sub j hj with h1 | h1
    · exact h.sub j h1
    · exact .inr (Nat.le_trans h.le h1), fun j hj hM => (k.keep j (Nat.lt_of_lt_of_le hj h.le) fun h1 => by
      rcases h.sub j h1 with h2 | h2
      · exact hM h2
      · omega).trans (h.keep j hj hM)⟩
theorem Lft.new (H : Hp) (row : List AV) : Lft (fun _ => False) (fun j => j = H.length) H (H ++ [row]) :=
  ⟨by simp, fun j hj => .inr (by omega), fun j hj _ => List.getElem?_append_left hj⟩
/-- The boxes H0 are as they were, M are others. -/
structure Ups (H0 H : Hp) (M : Nat → Prop) : Prop where
  le : H0.length ≤ H.length
  keep : ∀ j, j < H0.length → H[j]? = H0[j]?
  abv : ∀ j, M j → H0.length ≤ j
theorem Ups.refl (H : Hp) : Ups H H (fun _ => False) := ⟨Nat.le_refl _, fun _ _ => rfl, nofun⟩
theorem Ups.go {H0 H H' : Hp} {M M' : Nat → Prop} (h : Ups H0 H M) (k : Lft M M' H H') : Ups H0 H' M' :=
  ⟨Nat.le_trans h.le k.le, fun j hj => (k.keep j (Nat.lt_of_lt_of_le hj h.le) fun hm => by have := h.abv j hm; omega).trans (h.keep j hj), fun j hj => by
    rcases k.sub j hj with h1 | h1
    · exact h.abv j h1
    · exact Nat.le_trans h.le h1⟩
theorem Ups.drop {H0 H : Hp} {M : Nat → Prop} (h : Ups H0 H M) : Ups H0 H (fun _ => False) := ⟨h.le, h.keep, nofun⟩
def errSet (n t : Int) : Int := if n < 0 then 251 else if 281474976710656 < t then 250 else 0
def setM (now : Nat) (ts : List Tm) (n t : Int) : List Tm := if n < 0 ∨ 281474976710656 < t then ts else offN ts n ++ [⟨n, setT now t⟩]
def badT (now : Nat) (tick : Int) : Bool := decide (tick < now) || decide (281474976710656 < tick)
section
variable {M : Nat → Prop} {H H' : Hp} {iw now : Nat} {row : List AV} {g : Nat} {kv : List (Int × Nat)} {Ls : Nat → List Te} {st : Int} {ts : List Tm}
theorem Whl.keep (h : Whl H iw row now st g kv Ls) (hk : ∀ j, Mine iw Ls j → H'[j]? = H[j]?) : Whl H' iw row now st g kv Ls :=
  ⟨⟨(hk iw (.inl rfl)).trans h.lnk.w, h.lnk.l, h.lnk.heads, fun s pre x suf hs he => (hk x.i (.inr ⟨s, hs, x, by rw [he]; simp, rfl⟩)).trans (h.lnk.links s pre x suf hs he), h.lnk.nd⟩, h.r0, h.r1, h.rm, h.ok, h.inj, h.mem, h.tick, h.num, h.nowle, h.few⟩
theorem Wh.keep (h : Wh M H iw now st ts) (hl : H.length ≤ H'.length) (hk : ∀ j, M j → H'[j]? = H[j]?) : Wh M H' iw now st ts := by
  obtain ⟨row, g, kv, Ls, h1, h2, h3, h4⟩ := h
  exact ⟨row, g, kv, Ls, h1.keep fun j hj => hk j (h3 j hj), h2, h3, fun j hj => Nat.lt_of_lt_of_le (h4 j hj) hl⟩
theorem Wh.nd (h : Wh M H iw now st ts) : ts.Pairwise fun x y => x.n ≠ y.n := by
  obtain ⟨row, g, kv, Ls, h1, h2, _⟩ := h
  exact h2.nd
theorem Wh.nodup (h : Wh M H iw now st ts) : ts.Nodup := h.nd.imp fun hne e => hne (by rw [e])
theorem Wh.few (h : Wh M H iw now st ts) : ts.length ≤ 1000000000 := by
  obtain ⟨row, g, kv, Ls, h1, h2, _⟩ := h
  rw [← h1.len h2]; exact h1.few
theorem Wh.nowle (h : Wh M H iw now st ts) : now ≤ 281474976710656 := by
  obtain ⟨row, g, kv, Ls, h1, h2, _⟩ := h
  exact h1.nowle
theorem Wh.own (h : Wh M H iw now st ts) : M iw := by
  obtain ⟨row, g, kv, Ls, h1, h2, h3, _⟩ := h
  exact h3 _ (.inl rfl)
theorem Wh.lt (h : Wh M H iw now st ts) : ∀ j, M j → j < H.length := by
  obtain ⟨row, g, kv, Ls, h1, h2, h3, h4⟩ := h
  exact h4
theorem Wh.ok (h : Wh M H iw now st ts) : ∀ y ∈ ts, okKey y.n ∧ okKey y.t ∧ now ≤ y.t ∧ y.t ≤ 281474976710656 ∧ ((now : Int) = y.t → now = 281474976710656) := by
  obtain ⟨row, g, kv, Ls, h1, h2, h3, h4⟩ := h
  intro y hy
  obtain ⟨s, hs, x, hx, rfl⟩ := (h2.mem y).1 hy
  have h5 := h1.num _ ((h1.mem x.n x.i).2 ⟨s, hs, x, hx, rfl, rfl⟩)
  obtain ⟨t, ht, a1, a2, a3, _⟩ := h1.tick s hs x hx
  refine ⟨h5, ?_, ?_, ?_, fun e => ?_⟩
  · unfold okKey; simp only; omega
  · simp only; omega
  · simp only; omega
  · simp only at e; exact a3 (by omega)
variable (E : Env) (Q : AV → Hp → Prop)
theorem wlen_pc (h : Wh M H iw now st ts) (hQ : Q (.int .i64 ts.length) H) : PC Try.prog E 14 [.ptr (some (iw, 0))] H Q := by
  obtain ⟨row, g, kv, Ls, h1, h2, _⟩ := h
  exact len_pc E Q h1 (by rw [h1.len h2]; exact hQ)
theorem wnow_pc (h : Wh M H iw now st ts) (hQ : Q (.int .i64 now) H) : PC Try.prog E 21 [.ptr (some (iw, 0))] H Q := by
  obtain ⟨row, g, kv, Ls, h1, h2, _⟩ := h
  exact now_pc E Q h1 hQ
theorem wstop_pc (h : Wh M H iw now st ts) (n : Int) (hn : okKey n) (hQ : ∀ H', Wh M H' iw now st (offN ts n) → Lft M M H H' → H'.length = H.length → Q (.bool (ofN ts n).isSome) H') : PC Try.prog E 24 [.ptr (some (iw, 0)), .int .i64 n] H Q := by
  obtain ⟨row, g, kv, Ls, h1, h2, h3, h4⟩ := h
  refine stop_vw E Q h1 h2 n hn (fun H' row' Ls' hW hV hsub hl hf => hQ H' ⟨row', g, _, Ls', hW, hV, fun j hj => h3 j ?_, fun j hj => by rw [hl]; exact h4 j hj⟩ ⟨by omega, fun _ h => .inl h, fun j _ hj => hf j fun hm => hj (h3 j hm)⟩ hl)
  rcases hj with rfl | ⟨s, hs, y, hy, e⟩
  · exact .inl rfl
  · exact .inr ⟨s, hs, y, hsub s y hy, e⟩
theorem wset_pc (h : Wh M H iw now st ts) (n t : Int) (hn : okKey n) (ht : okKey t) (few : ts.length < 1000000000)
    (hQ : ∀ H' M', Wh M' H' iw now st (setM now ts n t) → Lft M M' H H' → Q (.int .i64 (errSet n t)) H') : PC Try.prog E 12 [.ptr (some (iw, 0)), .int .i64 n, .int .i64 t] H Q := by
  obtain ⟨row, g, kv, Ls, h1, h2, h3, h4⟩ := h
  refine set_pc E Q h1 h2 n t hn ht (by rw [h1.len h2]; exact few) (fun a => ?_) (fun a b => ?_) (fun H' row' Ls' a b hW hV hl hsub hf => ?_)
  · have e1 : setM now ts n t = ts := if_pos (.inl a)
    have e2 : errSet n t = 251 := if_pos a
    rw [e1, e2] at hQ
    exact hQ H M ⟨row, g, kv, Ls, h1, h2, h3, h4⟩ (Lft.refl M H)
  · have e1 : setM now ts n t = ts := if_pos (.inr b)
    have e2 : errSet n t = 250 := by unfold errSet; rw [if_neg (by omega), if_pos b]
    rw [e1, e2] at hQ
    exact hQ H M ⟨row, g, kv, Ls, h1, h2, h3, h4⟩ (Lft.refl M H)
  · have e1 : setM now ts n t = offN ts n ++ [⟨n, setT now t⟩] := if_neg (by omega)
    have e2 : errSet n t = 0 := by unfold errSet; rw [if_neg (by omega), if_neg (by omega)]
    rw [e1, e2] at hQ
    refine hQ H' (fun j => M j ∨ j = H.length) ⟨row', g, _, Ls', hW, hV, fun j hj => ?_, fun j hj => ?_⟩ ⟨by omega, fun j hj => ?_, fun j hj hM => hf j hj fun hm => hM (h3 j hm)⟩
    · rcases hsub j hj with h5 | h5
      · exact .inl (h3 j h5)
      · exact .inr h5
    · rcases hj with hj | hj
      · have := h4 j hj; omega
      · omega
    · rcases hj with hj | hj
      · exact .inl hj
      · exact .inr (by omega)
theorem wadv_pc (h : Wh M H iw now st ts) (hst : 0 ≤ st ∧ st + 576 * (ts.length + 1) ≤ 4611686018427387904) (tick : Int)
    (hQ0 : badT now tick = true → Q (.tup [.sl false 2 [], .int .i64 250]) H)
    (hQ : ∀ (H' : Hp) (st' : Int) (tk : Nat), tick = tk → badT now tick = false → now ≤ tk → tk ≤ 281474976710656 → Wh M H' iw tk st' (leftT tick ts) → Lft M M H H' → H'.length = H.length →
      st ≤ st' → st' ≤ st + 576 * ((dueT tick ts).length + 1) → (dueT tick ts ≠ [] → st < st') → Q (.tup [.sl false 2 (rowsT (dueT tick ts)), .int .i64 0]) H') : PC Try.prog E 13 [.ptr (some (iw, 0)), .int .i64 tick] H Q := by
  obtain ⟨row, g, kv, Ls, h1, h2, h3, h4⟩ := h
  refine advance_pc E Q h1 h2 hst tick (fun a => hQ0 (by unfold badT; rcases a with a | a <;> simp [a])) (fun H' row' kv' Ls' st' tk e a b hW hV hl hsub hf c1 c2 c3 => hQ H' st' tk e ?_ a b ⟨row', g, kv', Ls', hW, hV, fun j hj => h3 j (hsub j hj), fun j hj => by rw [hl]; exact h4 j hj⟩ ⟨by omega, fun _ h => .inl h, fun j _ hj => hf j fun hm => hj (h3 j hm)⟩ hl c1 c2 c3)
  unfold badT
  rw [decide_eq_false (by omega), decide_eq_false (by omega)]; rfl
theorem wnew_pc (now : Int) (hQ0 : badT 0 now = true → Q (.tup [.ptr none, .int .i64 250]) H)
    (hQ : ∀ (n : Nat) (row : List AV), now = n → n ≤ 281474976710656 → badT 0 now = false → Wh (fun j => j = H.length) (H ++ [row]) H.length n 0 [] → Q (.tup [.ptr (some (H.length, 0)), .int .i64 0]) (H ++ [row])) : PC Try.prog E 10 [.int .i64 now] H Q := by
  refine new_pc E Q now (fun a => hQ0 (by unfold badT; rcases a with a | a <;> simp [a])) (fun n row g e a hW => hQ n row e a ?_ ⟨row, g, [], fun _ => [], hW, ⟨List.Pairwise.nil, fun y => by simp⟩, fun j hj => ?_, fun j hj => by subst hj; simp⟩)
  · unfold badT
    rw [decide_eq_false (by omega), decide_eq_false (by omega)]; rfl
  · rcases hj with rfl | ⟨s, hs, y, hy, _⟩
    · rfl
    · cases hy
end
end Go.Proofs.Ytijnohcaeedffaa

set_option linter.unusedVariables false
set_option linter.unnecessarySimpa false
set_option linter.unusedSimpArgs false
set_option linter.unusedSectionVars false
set_option maxRecDepth 100000
namespace Go.Proofs.Ytijnohcaeedffaa
open Go Go.RowKit

section
variable {H : Hp} (E : Env) (Q : AV → Hp → Prop)
theorem awake_pc (hQ : Q (.bool true) H) : PC Try.prog E 11 [] H Q := by
  refine pc_enter Try.func11 rfl [] [] (by kernel_rfl) (fun hB => ?_)
  simp [Try.ntmps11, Try.results11, List.replicate_succ]
  refine PC.bnd (wnew_pc E _ 0 (fun h => by cases h) (fun n row e _ _ hW hB1 _ => ?_))
  obtain rfl : n = 0 := by omega
  simp [Kcall, KP]
  refine PC.bnd (wset_pc E _ hW 5 20 (by decide) (by decide) (by simp) (fun H2 M2 hW2 hL2 hB2 _ => ?_))
  simp [Kcall, KP, errSet]
  refine PC.bnd (wstop_pc E _ hW2 5 (by decide) (fun H3 hW3 hL3 hl3 hB3 _ => ?_))
  have e3 : (ofN (setM 0 [] 5 20) 5).isSome = true := by decide
  have e4 : offN (setM 0 [] 5 20) 5 = [] := by decide
  rw [e4] at hW3
  rw [e3]
  simp [Kcall, KP]
  refine PC.bnd (wlen_pc E _ hW3 (fun hB4 _ => ?_))
  simp [Kcall, KP]
  refine PC.bnd (wnew_pc E _ 10 (fun h => by cases h) (fun n row2 e _ _ hW5 hB5 _ => ?_))
  obtain rfl : n = 10 := by omega
  simp [Kcall, KP]
  refine PC.bnd (wset_pc E _ hW5 1 12 (by decide) (by decide) (by simp) (fun H6 M6 hW6 hL6 hB6 _ => ?_))
  simp [Kcall, KP, errSet]
  refine PC.bnd (wadv_pc E _ hW6 (by decide) 12 (fun h => by cases h) (fun H7 st' tk e _ _ _ hW7 hL7 hl7 _ _ _ hB7 _ => ?_))
  obtain rfl : tk = 12 := by omega
  have e5 : dueT 12 (setM 10 [] 1 12) = [⟨1, 12⟩] := by decide
  rw [e5]
  simp [Kcall, KP, rowsT]
  have u3 := (((Ups.refl H).go (Lft.new H row)).go hL2).go hL3
  have u7 := ((u3.drop.go (Lft.new H3 row2)).go hL6).go hL7
  refine PC.bnd (wnow_pc E _ hW7 (fun hB8 _ => ?_))
  simp [Kcall, KP]
  exact aPost_lawX hB u7.le u7.keep rfl (by simp) hQ
end
end Go.Proofs.Ytijnohcaeedffaa

set_option linter.unusedVariables false
set_option linter.unusedSimpArgs false
namespace Go.Proofs.Ytijnohcaeedffaa
open Go Go.ChangeShapes Go.WideShapes Go.ChangeAt Go.RowKit Go.Deep

theorem Try.own : ownKnob Try.prog.godebug = none := by kernel_rfl
theorem Try.laidOut : laidOutB Try.prog = true := by kernel_rfl

section
variable {H : Type} {enc : TypeId × Value → H}

/-- ARGUMENTS READ AGAIN where nothing old has turned. -/
theorem Frm.trodAll {P : Program} (hl : laidOutB P = true) {W W' : World} (hF : Frm (fun _ => False) W W') (sp : Nat → Bool) : ∀ {ts : List TypeId} {vs : List Value} {ds : List (DataW H)} {ps : List MemPlace}, (∀ t ∈ ts, P.readableRec t = true ∧ t < P.types.size) → DataW.TrodAll enc P W 0 (fun _ => true) true ts vs ds ps → (∀ p ∈ ps, sp p.block = true) → (∀ p ∈ ps, p.block < W.heap.size) → DataW.TrodAll enc P W' 0 sp true ts vs ds ps
  | [], [], [], _, _, h, _, _ => h
  | _ :: _, _ :: _, _ :: _, _, hT, ⟨p, q, h1, h2, e⟩, hs, hlt =>
    ⟨p, q, WideElems.Trod_stays hl (hT _ (List.mem_cons.2 (Or.inl rfl))).1 (hT _ (List.mem_cons.2 (Or.inl rfl))).2 h1
      (fun x hx => (hF.toBelow (Nat.le_refl _) (fun _ _ => id)).same (hlt x (by rw [e]; exact List.mem_append_left _ hx))) (fun x hx => hs x (by rw [e]; exact List.mem_append_left _ hx)),
      Frm.trodAll hl hF sp (fun t ht => hT t (List.mem_cons.2 (Or.inr ht))) h2 (fun x hx => hs x (by rw [e]; exact List.mem_append_right _ hx)) (fun x hx => hlt x (by rw [e]; exact List.mem_append_right _ hx)), e⟩

/-- THE POST OF A LAW: true, and nothing old has turned. -/
theorem law_post {P : Program} (hl : laidOutB P = true) {f : Func} {s : ChangeSpec} {W W' : World} {args : Array Value} {ds gs : List (DataW H)} {before : List MemPlace} {tb : TypeId} (hb : P.underlying tb = some .bool)
    (hr : f.resultTypes = #[tb]) (hs : s.vars = []) (hT : f.params.all (fun t => P.readableRec t && decide (t < P.types.size)) = true)
    (hspec : s.fn H ds = { results := [.lit (.bool true)], args := ds })
    (hW : DataW.Whole enc P f.params.toList s.vars false W args.toList ds gs before) (hF : Frm (fun _ => False) W W') :
    s.post enc P f false true false false W args (.bool true) W' := by
  have hT' : ∀ t ∈ f.params.toList, P.readableRec t = true ∧ t < P.types.size := by
    intro t ht
    have := Array.all_eq_true_iff_forall_mem.1 hT t (by simpa using ht)
    simpa using this
  have hW' := hW
  obtain ⟨p, q, hA, hV, rfl, hfz, hnd⟩ := hW
  rw [hs] at hV
  obtain ⟨rfl, rfl⟩ := trodVars_none hV
  have hB := hF.toBelow (Nat.le_refl _) (fun _ _ => id)
  simp only [List.append_nil] at hW' hfz
  have hold : ∀ x ∈ p, decide (x.block < W.heap.size) = true := fun x hx => by simpa using hW'.lt x hx
  have hargs : ∀ sp : Nat → Bool, (∀ x ∈ p, sp x.block = true) → DataW.TrodAll enc P W' 0 sp true f.params.toList args.toList ds p := fun sp h => hF.trodAll hl sp hT' hA h (fun x hx => hW'.lt x hx)
  have hres : ∀ (b : Nat) (sp : Nat → Bool) (hd : Bool), DataW.TrodAll enc P W' b sp hd f.resultTypes.toList ((Value.bool true).resultList f.resultTypes.size) [.lit (.bool true)] [] := fun b sp hd => by
    rw [hr]; exact trodAll_mk1 (shut_bool hb true)
  have e1 : (s.fn H (ds ++ [])) = { results := [.lit (.bool true)], args := ds } := by rw [List.append_nil]; exact hspec
  refine ⟨ds, [], p, [], p, [], hW', ?_, ?_, ?_, World.keptBut_mono (fun x hx => hx) (hB.frame _), fun h => by cases h⟩
  · rw [e1]; exact hres _ _ _
  · rw [e1]; exact hargs _ hold
  · rw [e1, hs]; exact rfl

/-- From 'for each i there is' to a list. -/
theorem list_lt {α : Type} {n : Nat} {p : Nat → α → Prop} (h : ∀ i, i < n → ∃ x, p i x) : ∃ l : List α, l.length = n ∧ ∀ i x, l[i]? = some x → p i x := by
  induction n with
  | zero => exact ⟨[], rfl, fun i x hx => by simp at hx⟩
  | succ n ih =>
    obtain ⟨l, hl, hp⟩ := ih (fun i hi => h i (by omega))
    obtain ⟨y, hy⟩ := h n (by omega)
    refine ⟨l ++ [y], by simp [hl], fun i x hx => ?_⟩
    by_cases hi : i < l.length
    · exact hp i x (by rwa [List.getElem?_append_left hi] at hx)
    · rw [List.getElem?_append_right (by omega)] at hx
      have : i - l.length = 0 := by
        have := (List.getElem?_eq_some_iff.1 hx).1
        simp at this; omega
      rw [this] at hx
      simp at hx
      subst hx
      rw [show i = n by omega]; exact hy

/-- AN ARGUMENT OR A CELL THAT IS A SLICE: its rows as a list; the row's cells lie at the slice's own address, which is plain. -/
theorem open_rows {P : Program} {w : World} {base : Nat} {spare : Nat → Bool} {held : Bool} {t e : TypeId} {fuel : Nat} {cs : List Value} {x : DataW H × List MemPlace} {α : Type} (k : Nat) (hk : 0 < k) (q : Addr → α → Prop)
    (ht : P.underlying t = some (.slice e)) (hc : P.cellsOf e = k)
    (hq : ∀ a n cs' d pl, w.cells? base a k = some cs' → DataW.trod enc P w base spare held n e cs' = some (d, pl) → ∃ x, q ⟨a.block, a.off, none⟩ x)
    (h : DataW.trod enc P w base spare held fuel t cs = some x) :
    ∃ (bo : Option Addr) (len cap : Nat) (l : List α), cs = [.slice bo len cap] ∧ l.length = len ∧ len ≤ cap ∧ cap ≤ maxLen ∧ (∀ el sp, x.1 = .slice el sp → len ≤ el.length) ∧ (x.1 = .nil → len = 0) ∧ (x.1 = .nil ∨ ∃ el sp, x.1 = .slice el sp) ∧
      ∀ i x, l[i]? = some x → ∃ g o, bo = some ⟨g, o, none⟩ ∧ q ⟨g, o + i * k, none⟩ x := by
  rcases open_slice ht h with ⟨rfl, rfl⟩ | ⟨a, len, cap, m, n, D, Pl, rfl, hb, hl, hm, hmm, rfl, hi⟩
  · exact ⟨none, 0, 0, [], rfl, rfl, Nat.le_refl _, Nat.zero_le _, (fun _ _ h => by cases h), (fun _ => rfl), .inl rfl, fun i x hx => by simp at hx⟩
  · have hlm : len ≤ m := by rw [hmm]; split <;> omega
    obtain ⟨l, hll, hlx⟩ := list_lt (n := len) (p := fun i x => ∃ g o, some a = some ⟨g, o, none⟩ ∧ q ⟨g, o + i * k, none⟩ x) (fun i hi' => by
      obtain ⟨cs', hcs, htr⟩ := hi i (by omega)
      rw [hc] at hcs
      have h0 := hi 0 (by omega)
      obtain ⟨cs0, hcs0, _⟩ := h0
      rw [hc] at hcs0
      have hspot := World.cell?_spot (((World.cells?_some hcs0).2.2 0 hk).trans (List.getElem?_eq_getElem (by have := (World.cells?_some hcs0).2.1; omega)))
      obtain ⟨b, off, spot⟩ := a
      obtain rfl : spot = none := by simpa [Addr.add] using hspot
      obtain ⟨y, hy⟩ := hq _ n cs' _ _ hcs htr
      refine ⟨y, b, off, rfl, ?_⟩
      rw [add_plain] at hy
      exact hy)
    exact ⟨some a, len, cap, l, rfl, hll, hl, hm, (fun el sp h => by
      simp only [DataW.slice.injEq] at h
      rw [← h.1]; simp), (fun h => by cases h), .inr ⟨_, _, rfl⟩, hlx⟩

theorem cells_one {w : World} {base : Nat} {a : Addr} {cs : List Value} (h : w.cells? base a 1 = some cs) : ∃ v, cs = [v] ∧ w.cell? ⟨a.block, a.off, none⟩ = some v := by
  obtain ⟨_, hl, hc⟩ := World.cells?_some h
  match cs, hl with
  | [v], _ =>
    have h0 := hc 0 (by omega)
    have hs := World.cell?_spot h0
    obtain ⟨b, o, s⟩ := a
    obtain rfl : s = none := by simpa [Addr.add] using hs
    exact ⟨v, rfl, by simpa [Addr.add] using h0⟩

theorem row_int {P : Program} {w : World} {base : Nat} {spare : Nat → Bool} {held : Bool} {e : TypeId} {k : IntKind} (he : P.underlying e = some (.int k)) (a : Addr) (n : Nat) (cs : List Value) (d : DataW H) (pl : List MemPlace)
    (hc : w.cells? base a 1 = some cs) (h : DataW.trod enc P w base spare held n e cs = some (d, pl)) : ∃ z : Int, w.cell? ⟨a.block, a.off, none⟩ = some (.int k z) ∧ (Lit.int k z).wf = true := by
  obtain ⟨v, rfl, hv⟩ := cells_one hc
  obtain ⟨m, hvv, _, hw⟩ := DataW.trod_int he h
  simp only [List.cons.injEq, and_true] at hvv
  exact ⟨m, hvv ▸ hv, hw⟩
theorem row_u8 {P : Program} {w : World} {base : Nat} {spare : Nat → Bool} {held : Bool} {e : TypeId} (he : P.underlying e = some (.int .u8)) (a : Addr) (n : Nat) (cs : List Value) (d : DataW H) (pl : List MemPlace)
    (hc : w.cells? base a 1 = some cs) (h : DataW.trod enc P w base spare held n e cs = some (d, pl)) : ∃ z : UInt8, w.cell? ⟨a.block, a.off, none⟩ = some (.int .u8 (z.toNat : Int)) := by
  obtain ⟨z, hz, hw⟩ := row_int he a n cs d pl hc h
  have hr : 0 ≤ z ∧ z ≤ 255 := by simpa [Lit.wf, IntKind.min, IntKind.max, IntKind.signed, IntKind.bits] using hw
  refine ⟨UInt8.ofNat z.toNat, ?_⟩
  rw [UInt8.toNat_ofNat', Nat.mod_eq_of_lt (by omega), Int.toNat_of_nonneg hr.1]
  exact hz
theorem rsl_rows {w : World} {bo : Option Addr} {len cap : Nat} {l : List UInt8} (hl : l.length = len) (h1 : len ≤ cap) (h2 : cap ≤ maxLen) (hc : ∀ i x, l[i]? = some x → ∃ g o, bo = some ⟨g, o, none⟩ ∧ w.cell? ⟨g, o + i * 1, none⟩ = some (.int .u8 (x.toNat : Int))) :
    RSl w 1 (.slice bo len cap) len (u8s l) := by
  refine ⟨by rw [u8s_length]; omega, bo, cap, rfl, h1, h2, fun hp => ?_⟩
  obtain ⟨g, o, rfl, _⟩ := hc 0 (l[0]'(by omega)) (List.getElem?_eq_getElem (by omega))
  refine ⟨g, o, rfl, fun j hj => ?_⟩
  have hj' : j < l.length := by omega
  obtain ⟨g', o', he, hcell⟩ := hc j (l[j]'hj') (List.getElem?_eq_getElem hj')
  cases he
  rw [Nat.mul_one] at hcell
  rw [hcell, u8s_at, List.getElem?_eq_getElem hj']
  rfl
end
end Go.Proofs.Ytijnohcaeedffaa

set_option linter.unusedVariables false
set_option linter.unusedSimpArgs false
namespace Go.Proofs.Ytijnohcaeedffaa
open Go Go.ChangeShapes Go.WideShapes Go.ChangeAt Go.RowKit Go.Deep

inductive CK where
  | int (k : IntKind)
  | bool
  | str
  | u8s
def KindOf : CK → AV → Prop
  | .int k, .int k' z => k = k' ∧ (Lit.int k z).wf = true
  | .bool, .bool _ => True
  | .str, .str _ => True
  | .u8s, .sl false 1 rows => ∃ l, rows = bts l
  | _, _ => False
def wtA : List AV → Nat
  | [] => 0
  | .str s :: l => s.length + wtA l
  | .sl _ _ r :: l => r.length + wtA l
  | _ :: l => wtA l
theorem wtA_app (l m : List AV) : wtA (l ++ m) = wtA l + wtA m := by
  induction l with
  | nil => simp [wtA]
  | cons x l ih => cases x <;> simp only [List.cons_append, wtA, ih] <;> omega
def shapeL (g : TypeId → Option (List CK)) : Nat → List Field → Option (List CK)
  | _, [] => some []
  | off, f :: r => if f.offset = off then match g f.type with
    | some a => (shapeL g (off + a.length) r).map (a ++ ·)
    | none => none else none
def shape (P : Program) : Nat → TypeId → Option (List CK)
  | 0, _ => none
  | n + 1, t => match P.underlying t with
    | some (.int k) => some [.int k]
    | some .bool => some [.bool]
    | some .string => some [.str]
    | some (.slice e) => match P.underlying e with
      | some (.int .u8) => if P.cellsOf e = 1 then some [.u8s] else none
      | _ => none
    | some (.struct fs) => match shapeL (shape P n) 0 fs.toList with
      | some ks => if ks.length = P.cellsOf t then some ks else none
      | none => none
    | _ => none
structure Opened (W : World) (ks : List CK) (cs : List Value) (avs : List AV) : Prop where
  len : avs.length = ks.length
  clen : cs.length = ks.length
  kind : ∀ (j : Nat) k x, ks[j]? = some k → avs[j]? = some x → KindOf k x
  rel : ∀ (j : Nat) x u, avs[j]? = some x → cs[j]? = some u → x.free = true ∧ x.one = true ∧ Rel W (fun _ => 0) (old W) x u ∧ Bnd 0 x
theorem Opened.one {W : World} {k : CK} {v : Value} {x : AV} (h1 : KindOf k x) (h2 : x.free = true ∧ x.one = true ∧ Rel W (fun _ => 0) (old W) x v ∧ Bnd 0 x) : Opened W [k] [v] [x] := by
  refine ⟨rfl, rfl, fun j k' x' hk hx => ?_, fun j x' u hx hu => ?_⟩
  · cases j with
    | zero => simp at hk hx; subst hk; subst hx; exact h1
    | succ j => simp at hk
  · cases j with
    | zero => simp at hu hx; subst hu; subst hx; exact h2
    | succ j => simp at hu
theorem Opened.app {W : World} {ks ms : List CK} {cs ds : List Value} {av1 bs : List AV} (h : Opened W ks cs av1) (k : Opened W ms ds bs) : Opened W (ks ++ ms) (cs ++ ds) (av1 ++ bs) := by
  refine ⟨by simp [h.len, k.len], by simp [h.clen, k.clen], fun j k' x' hk hx => ?_, fun j x' u hx hu => ?_⟩
  · by_cases hj : j < ks.length
    · rw [List.getElem?_append_left hj] at hk
      rw [List.getElem?_append_left (by rw [h.len]; exact hj)] at hx
      exact h.kind j k' x' hk hx
    · rw [List.getElem?_append_right (by omega)] at hk
      rw [List.getElem?_append_right (by rw [h.len]; omega), h.len] at hx
      exact k.kind _ k' x' hk hx
  · by_cases hj : j < av1.length
    · rw [List.getElem?_append_left hj] at hx
      rw [List.getElem?_append_left (by rw [h.clen, ← h.len]; exact hj)] at hu
      exact h.rel j x' u hx hu
    · rw [List.getElem?_append_right (by omega)] at hx
      rw [List.getElem?_append_right (by rw [h.clen, ← h.len]; omega), h.clen, ← h.len] at hu
      exact k.rel _ x' u hx hu
section
variable {H : Type} {enc : TypeId × Value → H}
theorem bulk_pos (d : DataW H) : 1 ≤ Rows.uptoBulk d := by
  cases d with
  | lit l => cases l <;> simp [Rows.uptoBulk]
  | nil => simp [Rows.uptoBulk]
  | ptr d => simp [Rows.uptoBulk]
  | slice elems spare => simp [Rows.uptoBulk]
  | agg parts => simp [Rows.uptoBulk]
  | iface t d => simp [Rows.uptoBulk]
  | map entries => simp [Rows.uptoBulk]
  | held h => simp [Rows.uptoBulk]
theorem bulk_len : ∀ (l : List (DataW H)), l.length ≤ Rows.uptoBulkAll l
  | [] => by simp [Rows.uptoBulkAll]
  | x :: l => by have := bulk_pos x; have := bulk_len l; simp only [Rows.uptoBulkAll, List.length_cons]; omega
theorem rel_sl_bts {w : World} {β : Nat → Nat} {Rd : Nat → Nat → Prop} {v : Value} {l : List UInt8} (h : RSl w 1 v l.length (u8s l)) (hd : ∀ g o n c, v = .slice (some ⟨g, o, none⟩) n c → ∀ j, j < l.length → Rd g (o + j)) : Rel w β Rd (.sl false 1 (bts l)) v := by
  refine .sl false 1 (bts l) v (u8s l) (fun r hr => by obtain ⟨b, _, rfl⟩ := List.mem_map.1 hr; rfl) (by rw [bts_len]; exact h) (fun g o n c hv j hj => hd g o n c hv j (by simpa [bts_len] using hj)) (fun h => by cases h) (fun r hr x hx => ?_) (fun j x u hx hu => ?_)
  · obtain ⟨b, _, rfl⟩ := List.mem_map.1 hr
    simp at hx; subst hx; exact ⟨rfl, rfl⟩
  · rw [bts_flat] at hx
    rw [u8s_at] at hu
    cases hb : l[j]? with
    | none => rw [hb] at hx; cases hx
    | some b => rw [hb] at hx hu; simp at hx hu; subst hx; subst hu; exact .int _ _
theorem opened_fields {P : Program} {W : World} {base : Nat} {spare : Nat → Bool} {held : Bool} {n' : Nat} {cs : List Value} (g : TypeId → Option (List CK))
    (ih : ∀ {t : TypeId} {ks : List CK} {cs : List Value} {x : DataW H × List MemPlace}, g t = some ks → DataW.trod enc P W base spare held n' t cs = some x → ∃ avs, Opened W ks cs avs ∧ wtA avs + 1 ≤ Rows.uptoBulk x.1) :
    ∀ (l : List Field) (xs : List (DataW H × List MemPlace)) (off : Nat) (ks : List CK), l.length = xs.length → (∀ (j : Nat) f, l[j]? = some f → DataW.trod enc P W base spare held n' f.type ((cs.drop f.offset).take (P.cellsOf f.type)) = xs[j]?) →
      shapeL g off l = some ks → ∃ avs, Opened W ks ((cs.drop off).take ks.length) avs ∧ wtA avs ≤ Rows.uptoBulkAll (xs.map (·.1)) := by
  intro l
  induction l with
  | nil =>
    intro xs off ks hl hx hs
    simp [shapeL] at hs
    subst hs
    exact ⟨[], ⟨rfl, by simp, fun j k x hk => by simp at hk, fun j x u hx => by simp at hx⟩, by simp [wtA]⟩
  | cons f l ihl =>
    intro xs off ks hl hx hs
    cases xs with
    | nil => simp at hl
    | cons y xs =>
      unfold shapeL at hs
      split at hs
      · rename_i ho
        cases hg : g f.type with
        | none => rw [hg] at hs; cases hs
        | some a =>
          rw [hg] at hs
          simp only [Option.map_eq_some_iff] at hs
          obtain ⟨b, hb, rfl⟩ := hs
          have h0 := hx 0 f rfl
          rw [ho] at h0
          obtain ⟨av1, ha, hwa⟩ := ih hg h0
          obtain ⟨bs, hbs, hwb⟩ := ihl xs (off + a.length) b (by simpa using hl) (fun j f' hf => by simpa using hx (j + 1) f' (by simpa using hf)) hb
          have e : (cs.drop off).take (P.cellsOf f.type) = (cs.drop off).take a.length := by
            have hlen := ha.clen
            rw [List.length_take] at hlen
            rw [← hlen]
            by_cases hc : P.cellsOf f.type ≤ (cs.drop off).length
            · rw [Nat.min_eq_left hc]
            · rw [Nat.min_eq_right (by omega), List.take_of_length_le (by omega), List.take_of_length_le (Nat.le_refl _)]
          refine ⟨av1 ++ bs, ?_, ?_⟩
          · rw [e] at ha
            have := ha.app hbs
            rw [List.length_append, List.take_add, List.drop_drop]
            exact this
          · rw [wtA_app]
            simp only [List.map_cons, Rows.uptoBulkAll]
            omega
      · cases hs
theorem opened {P : Program} {W : World} {base : Nat} {spare : Nat → Bool} {held : Bool} (n : Nat) : ∀ {fuel : Nat} {t : TypeId} {ks : List CK} {cs : List Value} {x : DataW H × List MemPlace}, shape P n t = some ks → DataW.trod enc P W base spare held fuel t cs = some x →
    ∃ avs, Opened W ks cs avs ∧ wtA avs + 1 ≤ Rows.uptoBulk x.1 := by
  induction n with
  | zero => intro fuel t ks cs x hs; cases hs
  | succ n ih =>
    intro fuel t ks cs x hs h
    unfold shape at hs
    split at hs
    · rename_i k hu
      cases hs
      obtain ⟨z, rfl, rfl, hw⟩ := DataW.trod_int hu h
      exact ⟨[.int k z], .one ⟨rfl, hw⟩ ⟨rfl, rfl, .int _ _, .int _ _⟩, by simp [wtA, Rows.uptoBulk]⟩
    · rename_i hu
      cases hs
      obtain ⟨z, rfl, rfl⟩ := DataW.trod_bool hu h
      exact ⟨[.bool z], .one trivial ⟨rfl, rfl, .bool _, .bool _⟩, by simp [wtA, Rows.uptoBulk]⟩
    · rename_i hu
      cases hs
      obtain ⟨z, rfl, rfl, hm⟩ := DataW.trod_string hu h
      exact ⟨[.str z.data.toList], .one trivial ⟨rfl, rfl, .str _ _ rfl hm, .str _⟩, by simp [wtA, Rows.uptoBulk]⟩
    · rename_i e hu
      split at hs
      · rename_i he
        split at hs
        · rename_i hce
          cases hs
          obtain ⟨bo, len, cap, l, rfl, hl, h1, h2, hx1, hx2, hx3, hq⟩ := open_rows (α := UInt8) 1 (by decide) (fun a x => W.cell? a = some (.int .u8 ((x : UInt8).toNat : Int))) hu hce (fun a n cs' d pl hc h => row_u8 he a n cs' d pl hc h) h
          have hr := rsl_rows hl h1 h2 hq
          subst hl
          refine ⟨[.sl false 1 (bts l)], .one ⟨l, rfl⟩ ⟨rfl, rfl, rel_sl_bts hr (fun g o n c hv j hj => ?_), bnd_sl_bts _ _ _⟩, ?_⟩
          · obtain ⟨g', o', hb, hc⟩ := hq j l[j] (List.getElem?_eq_getElem hj)
            cases hv
            cases hb
            rw [Nat.mul_one] at hc
            exact old_cell hc
          · simp only [wtA, bts_len]
            rcases hx3 with hn | ⟨el, sp, hs⟩
            · rw [hn, hx2 hn]; simp [Rows.uptoBulk]
            · have := hx1 el sp hs
              have := bulk_len el
              rw [hs]; simp only [Rows.uptoBulk]; omega
        · cases hs
      · cases hs
    · rename_i fs hu
      split at hs
      · rename_i ks' hks
        split at hs
        · rename_i hlen
          cases hs
          obtain ⟨xs, n', _, rfl, hcl, hxl, hf⟩ := DataW.trod_struct hu h
          obtain ⟨avs, ho, hw⟩ := opened_fields (enc := enc) (P := P) (W := W) (base := base) (spare := spare) (held := held) (n' := n') (cs := cs) (shape P n) (fun hg hx => ih hg hx) fs.toList xs 0 _ (by simp [hxl]) (fun j f hj => hf j f (by simpa using hj)) hks
          refine ⟨avs, ?_, ?_⟩
          · rw [List.drop_zero, List.take_of_length_le (by rw [hcl, hlen]; exact Nat.le_refl _)] at ho
            exact ho
          · simp only [Rows.uptoBulk]; omega
        · cases hs
      · cases hs
    · cases hs
theorem bulkAll_range {n : Nat} (D : Nat → DataW H) : ∀ (rows : List (List AV)), rows.length = n → (∀ (i : Nat) r, rows[i]? = some r → wtA r + 1 ≤ Rows.uptoBulk (D i)) → wtA rows.flatten + n ≤ Rows.uptoBulkAll ((List.range n).map D) := by
  induction n with
  | zero =>
    intro rows h hr
    have : rows = [] := List.length_eq_zero_iff.1 h
    subst this
    simp [wtA]
  | succ n ih =>
    intro rows hl hr
    obtain ⟨init, r, rfl⟩ : ∃ init r, rows = init ++ [r] := ⟨rows.dropLast, rows.getLast (by intro h; rw [h] at hl; cases hl), (List.dropLast_concat_getLast _).symm⟩
    simp at hl
    have h1 := ih init hl (fun i q hq => hr i q (by rw [List.getElem?_append_left (List.getElem?_eq_some_iff.1 hq).1]; exact hq))
    have h2 := hr n r (by rw [← hl]; simp)
    have happ : ∀ (a b : List (DataW H)), Rows.uptoBulkAll (a ++ b) = Rows.uptoBulkAll a + Rows.uptoBulkAll b := by
      intro a b
      induction a with
      | nil => simp [Rows.uptoBulkAll]
      | cons x a iha => simp only [List.cons_append, Rows.uptoBulkAll, iha]; omega
    rw [List.range_succ, List.map_append, happ, List.flatten_append, wtA_app]
    simp only [List.map_cons, List.map_nil, Rows.uptoBulkAll, List.flatten_cons, List.flatten_nil, List.append_nil]
    omega
/-- A SLICE OF PLAIN VALUES. -/
theorem open_plain {P : Program} {W : World} {spare : Nat → Bool} {held : Bool} {t e : TypeId} {fuel : Nat} {cs : List Value} {x : DataW H × List MemPlace} {ks : List CK} (n : Nat) (ht : P.underlying t = some (.slice e)) (hs : shape P n e = some ks) (hk : ks.length = P.cellsOf e) (hk0 : 0 < ks.length)
    (h : DataW.trod enc P W 0 spare held fuel t cs = some x) :
    ∃ (bo : Option Addr) (len cap : Nat) (rows : List (List AV)), cs = [.slice bo len cap] ∧ rows.length = len ∧ len ≤ cap ∧ cap ≤ maxLen ∧ Rel W (fun _ => 0) (old W) (.sl false ks.length rows) (.slice bo len cap) ∧ Bnd 0 (.sl false ks.length rows) ∧
      (∀ r ∈ rows, r.length = ks.length ∧ ∀ (j : Nat) k y, ks[j]? = some k → r[j]? = some y → KindOf k y) ∧ wtA rows.flatten + len + 1 ≤ Rows.uptoBulk x.1 := by
  rcases open_slice ht h with ⟨rfl, rfl⟩ | ⟨a, len, cap, m, n', D, Pl, rfl, hb, hl, hm, hmm, rfl, hi⟩
  · refine ⟨none, 0, 0, [], rfl, rfl, Nat.le_refl _, Nat.zero_le _, ?_, .sl _ _ _ (fun r hr => by cases hr), fun r hr => (by cases hr), by simp [wtA, Rows.uptoBulk]⟩
    exact rel_rows _ [] none 0 0 (fun r hr => by cases hr) hk0 rfl (Nat.le_refl _) (Nat.zero_le _) (fun i r hr => by simp at hr)
  · have hlm : len ≤ m := by rw [hmm]; split <;> omega
    obtain ⟨rows, hrl, hrx⟩ := list_lt (n := len) (p := fun i (r : List AV) => ∃ g o cs', some a = some ⟨g, o, none⟩ ∧ (∀ (j : Nat) v, cs'[j]? = some v → W.cell? ⟨g, o + i * ks.length + j, none⟩ = some v) ∧ Opened W ks cs' r ∧ wtA r + 1 ≤ Rows.uptoBulk (D i)) (fun i hi' => by
      obtain ⟨cs', hcs, htr⟩ := hi i (by omega)
      obtain ⟨avs, ho, hw⟩ := opened n hs htr
      obtain ⟨_, hcl, hat⟩ := World.cells?_some hcs
      obtain ⟨cs0, hcs0, _⟩ := hi 0 (by omega)
      have h00 := World.cells?_some hcs0
      have hspot := World.cell?_spot ((h00.2.2 0 (by omega)).trans (List.getElem?_eq_getElem (by have := h00.2.1; omega)))
      obtain ⟨b, off, spot⟩ := a
      obtain rfl : spot = none := by simpa [Addr.add] using hspot
      refine ⟨avs, b, off, cs', rfl, fun j v hj => ?_, ho, hw⟩
      have hjl : j < P.cellsOf e := by have := (List.getElem?_eq_some_iff.1 hj).1; omega
      rw [hk, ← add_plain, ← add_plain, hat j hjl]; exact hj)
    refine ⟨some a, len, cap, rows, rfl, hrl, hl, hm, ?_, ?_, ?_, ?_⟩
    · refine rel_rows _ rows _ len cap (fun r hr => ?_) hk0 hrl hl hm (fun i r hr => ?_)
      · obtain ⟨i, hi'⟩ := List.getElem?_of_mem hr
        obtain ⟨g, o, cs', _, _, ho, _⟩ := hrx i r hi'
        exact ho.len
      · obtain ⟨g, o, cs', hb', hc, ho, _⟩ := hrx i r hr
        refine ⟨g, o, hb', fun j y hy => ?_⟩
        have hjl : j < cs'.length := by have := (List.getElem?_eq_some_iff.1 hy).1; have := ho.len; have := ho.clen; omega
        obtain ⟨h1, h2, h3, h4⟩ := ho.rel j y cs'[j] hy (List.getElem?_eq_getElem hjl)
        exact ⟨h1, h2, _, hc j _ (List.getElem?_eq_getElem hjl), h3⟩
    · refine .sl _ _ _ (fun r hr y hy => ?_)
      obtain ⟨i, hi'⟩ := List.getElem?_of_mem hr
      obtain ⟨j, hj⟩ := List.getElem?_of_mem hy
      obtain ⟨g, o, cs', _, _, ho, _⟩ := hrx i r hi'
      have hjl : j < cs'.length := by have := (List.getElem?_eq_some_iff.1 hj).1; have := ho.len; have := ho.clen; omega
      exact (ho.rel j y cs'[j] hj (List.getElem?_eq_getElem hjl)).2.2.2
    · intro r hr
      obtain ⟨i, hi'⟩ := List.getElem?_of_mem hr
      obtain ⟨g, o, cs', _, _, ho, _⟩ := hrx i r hi'
      exact ⟨ho.len, ho.kind⟩
    · have := bulkAll_range D rows hrl (fun i r hr => by obtain ⟨_, _, _, _, _, _, hw⟩ := hrx i r hr; exact hw)
      simp only [Rows.uptoBulk]
      omega
end
end Go.Proofs.Ytijnohcaeedffaa

set_option linter.unusedVariables false
set_option linter.unnecessarySimpa false
set_option linter.unusedSimpArgs false
set_option linter.unusedSectionVars false
set_option maxRecDepth 100000
namespace Go.Proofs.Ytijnohcaeedffaa
open Go Go.RowKit Go.ChangeShapes Go.WideShapes Go.ChangeAt Go.Deep

/-- Two wheels, apart. -/
structure Two (H K : Hp) (M1 M2 : Nat → Prop) (i1 n1 : Nat) (s1 : Int) (t1 : List Tm) (i2 n2 : Nat) (s2 : Int) (t2 : List Tm) : Prop where
  w1 : Wh M1 K i1 n1 s1 t1
  w2 : Wh M2 K i2 n2 s2 t2
  u1 : Ups H K M1
  a2 : ∀ j, M2 j → H.length ≤ j
  dis : ∀ j, M1 j → ¬ M2 j
section
variable {H K K' : Hp} {M1 M2 M' : Nat → Prop} {i1 n1 i2 n2 n' : Nat} {s1 s2 s' : Int} {t1 t2 t' : List Tm}
theorem Two.go (h : Two H K M1 M2 i1 n1 s1 t1 i2 n2 s2 t2) (hw : Wh M' K' i1 n' s' t') (hl : Lft M1 M' K K') : Two H K' M' M2 i1 n' s' t' i2 n2 s2 t2 :=
  ⟨hw, h.w2.keep hl.le fun j hj => hl.keep j (h.w2.lt j hj) fun hm => h.dis j hm hj, h.u1.go hl, h.a2, fun j hj h2 => by
    rcases hl.sub j hj with h3 | h3
    · exact h.dis j h3 h2
    · have := h.w2.lt j h2; omega⟩
theorem Two.new (h : Wh M1 K i1 n1 s1 t1) (hu : Ups H K M1) {row : List AV} (hw : Wh (fun j => j = K.length) (K ++ [row]) K.length n2 s2 t2) : Two H (K ++ [row]) M1 (fun j => j = K.length) i1 n1 s1 t1 K.length n2 s2 t2 := by
  have hle := hu.le
  have e : ∀ j, j < K.length → (K ++ [row])[j]? = K[j]? := fun j hj => List.getElem?_append_left hj
  refine ⟨h.keep (by simp) fun j hj => e j (h.lt j hj), hw, ⟨by simp; omega, fun j hj => (e j (by omega)).trans (hu.keep j hj), hu.abv⟩, fun j hj => by omega, fun j hj h2 => ?_⟩
  have := h.lt j hj
  omega
end
theorem insT_len (x : Tm) : ∀ l, (insT x l).length = l.length + 1
  | [] => rfl
  | y :: l => by
    unfold insT
    split
    · simp
    · rw [List.length_cons, insT_len x l]; simp
theorem due_len (lim : Int) (ts : List Tm) : (dueT lim ts).length + (leftT lim ts).length = ts.length := by
  have h1 : ∀ (l m : List Tm), (l.foldl (fun l x => insT x l) m).length = l.length + m.length := fun l => by
    induction l with
    | nil => intro m; simp
    | cons x l ih => intro m; rw [List.foldl_cons, ih, insT_len]; simp; omega
  unfold dueT leftT
  rw [h1]
  simp only [List.length_nil, Nat.add_zero]
  induction ts with
  | nil => rfl
  | cons x l ih =>
    rw [List.filter_cons, List.filter_cons]
    by_cases hx : x.t ≤ lim
    · rw [if_pos (by simpa using hx), if_neg (by simp; omega)]; simp; omega
    · rw [if_neg (by simpa using hx), if_pos (by simp; omega)]; simp; omega
theorem rowsT_at {l : List Tm} {i : Nat} {y : Tm} (h : l[i]? = some y) : lat (rowsT l) i = some [.int .i64 y.n, .int .i64 y.t] := by show (rowsT l)[i]? = _; simp [rowsT, h]
theorem setM_len (now : Nat) (ts : List Tm) (n t : Int) : (setM now ts n t).length ≤ ts.length + 1 := by
  unfold setM
  split
  · omega
  · have : (offN ts n).length ≤ ts.length := List.length_filter_le ..
    simp; exact this
theorem okKey_of {n : Int} (h : (Lit.int .i64 n).wf = true) : okKey n := by
  simp [Lit.wf, IntKind.min, IntKind.max, IntKind.signed, IntKind.bits] at h
  unfold okKey; omega
theorem int_kind {z : AV} (h : KindOf (.int .i64) z) : ∃ n, z = .int .i64 n ∧ okKey n := by
  cases z with
  | int k n =>
    obtain ⟨rfl, hw⟩ := h
    exact ⟨n, rfl, okKey_of hw⟩
  | _ => exact h.elim
end Go.Proofs.Ytijnohcaeedffaa

set_option linter.unusedVariables false
set_option linter.unnecessarySimpa false
set_option linter.unusedSimpArgs false
set_option maxRecDepth 100000
namespace Go.Proofs.Ytijnohcaeedffaa
open Go Go.RowKit

/-- x, an answer beside the boxes K, seen as y where H alone are left. -/
def see1 (H K : Hp) (x y : AV) : Prop := (y = x ∧ Bnd H.length x) ∨
  ∃ i o n c k A rows, x = .bx i o n c k ∧ y = .sl false k rows ∧ H.length ≤ i ∧ K[i]? = some A ∧ rows.length = n ∧ (∀ r ∈ rows, r.length = k) ∧ (∀ r ∈ rows, ∀ z ∈ r, z.free = true ∧ Bnd H.length z) ∧ o + n * k ≤ A.length ∧ ∀ j u, rows.flatten[j]? = some u → A[o + j]? = some u
def seeL (H K : Hp) : List AV → List AV → Prop
  | [], [] => True
  | x :: l, y :: m => (see1 H K x y ∨ ∃ a b, x = .agg a ∧ y = .agg b ∧ seeL1 a b) ∧ seeL H K l m
  | _, _ => False
where
  seeL1 : List AV → List AV → Prop
    | [], [] => True
    | x :: l, y :: m => see1 H K x y ∧ seeL1 l m
    | _, _ => False
section
variable {E : Env} {w : World} {β : Nat → Nat} {Rd : Nat → Nat → Prop} {Ow : Nat → Option Hold} {H K : Hp} {x y : AV} {c : Value} {l m : List AV}
/-- What may be read then. -/
def rdK (Rd : Nat → Nat → Prop) (β : Nat → Nat) (H K : Hp) : Nat → Nat → Prop := fun g o => Rd g o ∨ ∃ i, H.length ≤ i ∧ i < K.length ∧ β i = g
theorem own_rdK (h : HR E w β Rd Ow K) {g : Nat} {k : Hold} (hg : Ow g = some k) (o : Nat) (hr : rdK Rd β H K g o) : Rd g o := by
  rcases hr with hr | ⟨i, _, hi, e⟩
  · exact hr
  · have := (h.sep i hi).1
    rw [e, hg] at this; cases this
theorem see1_rel (h : HR E w β Rd Ow K) (hs : see1 H K x y) (hf : x.free = true) (hr : Rel w β Rd x c) : Rel w β (rdK Rd β H K) y c ∧ y.free = true ∧ Bnd H.length y ∧ (x.one = true → y.one = true) := by
  rcases hs with ⟨rfl, hb⟩ | ⟨i, o, n, cp, k, A, rows, rfl, rfl, hi, hA, hn, hk, hz, hlen, hcell⟩
  · exact ⟨hr.move hb (fun g o hg => ⟨.inl hg, rfl⟩) (fun g hg => by rw [own0_free hf] at hg; cases hg) (Nat.le_refl _) (fun _ _ => rfl), hf, hb, id⟩
  · cases hr with
    | bx _ _ _ _ _ hnc hm =>
      obtain ⟨T, cs, hb, hcs, hce⟩ := h.box i A hA
      have hil := ltX hA
      have hfl := flat_len hk
      have hcell2 : ∀ j, j < n * k → w.cell? ⟨β i, o + j, none⟩ = ((cs.toList.drop o).take (n * k))[j]? := fun j hj => by
        rw [cell_blk hb, List.getElem?_take, if_pos hj, List.getElem?_drop, Array.getElem?_toList]
      subst hn
      refine ⟨.sl false k rows _ ((cs.toList.drop o).take (rows.length * k)) hk ⟨?_, _, cp, rfl, hnc, hm, fun _ => ⟨β i, o, rfl, hcell2⟩⟩ (fun g o' n' c' hv' j hj => ?_) (fun h => by cases h) (fun r hr z hz' => ⟨(hz r hr z hz').1, ?_⟩) (fun j z u hz' hu => ?_), rfl, .sl _ _ _ fun r hr z hz' => (hz r hr z hz').2, fun _ => rfl⟩
      · have e : cs.toList.length = cs.size := by simp
        rw [List.length_take, List.length_drop, e]; omega
      · injection hv' with h1 h2 h3
        injection h1 with h1
        injection h1 with h1 h4
        exact .inr ⟨i, hi, hil, h1⟩
      · obtain ⟨j, hj⟩ := List.getElem?_of_mem (List.mem_flatten.2 ⟨r, hr, hz'⟩)
        have hlj := hcell j z hj
        have hj2 : o + j < cs.size := by have := ltX hlj; rw [hcs]; exact this
        exact (hce _ z _ hlj (Array.getElem?_eq_getElem hj2)).2.1
      · obtain ⟨r, hr1, hr2⟩ := flat_mem hz'
        have hj : j < rows.length * k := hfl ▸ (List.getElem?_eq_some_iff.1 hz').1
        have hlj := hcell j z hz'
        have hu2 : cs[o + j]? = some u := by
          rw [List.getElem?_take, if_pos hj, List.getElem?_drop, Array.getElem?_toList] at hu
          exact hu
        exact (hce _ z u hlj hu2).1.move (hz r hr1 z hr2).2 (fun g o hg => ⟨.inl hg, rfl⟩) (fun g hg => by rw [own0_free (hz r hr1 z hr2).1] at hg; cases hg) (Nat.le_refl _) (fun _ _ => rfl)
theorem seeL1_at : ∀ {l m : List AV}, seeL.seeL1 H K l m → l.length = m.length ∧ ∀ (i : Nat) y, m[i]? = some y → ∃ x, l[i]? = some x ∧ see1 H K x y
  | [], [], _ => ⟨rfl, fun i y h => by simp at h⟩
  | x :: l, y :: m, h => by
    obtain ⟨h1, h2⟩ := h
    obtain ⟨h3, h4⟩ := seeL1_at h2
    refine ⟨by simp [h3], fun i z hz => ?_⟩
    cases i with
    | zero => simp at hz; subst hz; exact ⟨x, rfl, h1⟩
    | succ i => exact h4 i z (by simpa using hz)
  | [], _ :: _, h => h.elim
  | _ :: _, [], h => h.elim
theorem seeL_at : ∀ {l m : List AV}, seeL H K l m → l.length = m.length ∧ ∀ (i : Nat) y, m[i]? = some y → ∃ x, l[i]? = some x ∧ (see1 H K x y ∨ ∃ a b, x = .agg a ∧ y = .agg b ∧ seeL.seeL1 H K a b)
  | [], [], _ => ⟨rfl, fun i y h => by simp at h⟩
  | x :: l, y :: m, h => by
    obtain ⟨h1, h2⟩ := h
    obtain ⟨h3, h4⟩ := seeL_at h2
    refine ⟨by simp [h3], fun i z hz => ?_⟩
    cases i with
    | zero => simp at hz; subst hz; exact ⟨x, rfl, h1⟩
    | succ i => exact h4 i z (by simpa using hz)
  | [], _ :: _, h => h.elim
  | _ :: _, [], h => h.elim
theorem seeA_rel (h : HR E w β Rd Ow K) {a b : List AV} (hs : seeL.seeL1 H K a b) (hr : Rel w β Rd (.agg a) c) : Rel w β (rdK Rd β H K) (.agg b) c ∧ Bnd H.length (.agg b) := by
  obtain ⟨hl, hat⟩ := seeL1_at hs
  cases hr with
  | agg _ vs hsz hf hr =>
    have key : ∀ (j : Nat) z, b[j]? = some z → z.free = true ∧ z.one = true ∧ Bnd H.length z ∧ ∀ u, vs[j]? = some u → Rel w β (rdK Rd β H K) z u := fun j z hz => by
      obtain ⟨x, hx, hxz⟩ := hat j z hz
      have hj : j < vs.size := by have := ltX hx; omega
      obtain ⟨f1, f2⟩ := hf x (mem_at hx)
      obtain ⟨r1, r2, r3, r4⟩ := see1_rel h hxz f1 (hr j x _ hx (Array.getElem?_eq_getElem hj))
      refine ⟨r2, r4 f2, r3, fun u hu => ?_⟩
      rw [Array.getElem?_eq_getElem hj] at hu
      cases hu
      exact r1
    refine ⟨.agg b vs (by omega) (fun z hz => ?_) (fun j z u hz hu => (key j z hz).2.2.2 u hu), .agg _ fun z hz => ?_⟩
    · obtain ⟨j, hj⟩ := List.getElem?_of_mem hz
      exact ⟨(key j z hj).1, (key j z hj).2.1⟩
    · obtain ⟨j, hj⟩ := List.getElem?_of_mem hz
      exact (key j z hj).2.2.1
theorem seeT_rel (h : HR E w β Rd Ow K) (hs : seeL H K l m) (hr : Rel w β Rd (.tup l) c) : Rel w β (rdK Rd β H K) (.tup m) c ∧ Bnd H.length (.tup m) := by
  obtain ⟨hl, hat⟩ := seeL_at hs
  cases hr with
  | tup _ vs hsz hf hr =>
    have key : ∀ (j : Nat) z, m[j]? = some z → z.free = true ∧ Bnd H.length z ∧ ∀ u, vs[j]? = some u → Rel w β (rdK Rd β H K) z u := fun j z hz => by
      obtain ⟨x, hx, hxz⟩ := hat j z hz
      have hj : j < vs.size := by have := ltX hx; omega
      have f1 := hf x (mem_at hx)
      have hr1 := hr j x _ hx (Array.getElem?_eq_getElem hj)
      have e : ∀ u, vs[j]? = some u → u = vs[j] := fun u hu => by rw [Array.getElem?_eq_getElem hj] at hu; cases hu; rfl
      rcases hxz with hxz | ⟨a, b, rfl, rfl, hab⟩
      · obtain ⟨r1, r2, r3, _⟩ := see1_rel h hxz f1 hr1
        exact ⟨r2, r3, fun u hu => e u hu ▸ r1⟩
      · obtain ⟨r1, r2⟩ := seeA_rel h hab hr1
        exact ⟨rfl, r2, fun u hu => e u hu ▸ r1⟩
    refine ⟨.tup m vs (by omega) (fun z hz => ?_) (fun j z u hz hu => (key j z hz).2.2 u hu), .tup _ fun z hz => ?_⟩
    · obtain ⟨j, hj⟩ := List.getElem?_of_mem hz
      exact (key j z hj).1
    · obtain ⟨j, hj⟩ := List.getElem?_of_mem hz
      exact (key j z hj).2.1
end
/-- A CALL THAT ANSWERS SLICES OF BOXES IT MADE: they are read on alone. -/
theorem PC.sees {P : Program} {E : Env} {f : FuncId} {args : List AV} {H : Hp} {Q : AV → Hp → Prop} (hB : BndH H.length H) (h : PC P E f args H (fun v K => ∃ l m, v = .tup l ∧ H.length ≤ K.length ∧ (∀ j, j < H.length → K[j]? = H[j]?) ∧ seeL H K l m ∧ Q (.tup m) H)) : PC P E f args H Q :=
  ⟨h.1, fun w β Rd Ow cargs h1 h2 h3 h4 => (h.2 w β Rd Ow cargs h1 h2 h3 h4).mono fun e w' ⟨u, v, K, β', Rd', Ow', he, hQ, hp⟩ => by
    obtain ⟨l, m, rfl, hle, hkeep, hs, hQ⟩ := hQ
    obtain ⟨k1, k2⟩ := seeT_rel hp.hr hs hp.rel
    have hr := hp.hr
    refine ⟨u, _, H, β', rdK Rd' β' H K, Ow', he, hQ, ⟨k1, k2, fun g hg => (by cases hg), rfl, ⟨fun i l hl => ?_, fun i j hi hj => hr.inj i j (by omega) (by omega), fun i hi => ⟨(hr.sep i (by omega)).1, fun o ho => ?_⟩, hr.ows, fun g o hg => ?_, hB, fun b hb => ?_, fun i l t hl h0 => hr.bld i l t ((hkeep i (ltX hl)).trans hl) h0⟩, hp.old, Nat.le_refl _, fun g o hg => ⟨.inl (hp.keep g o hg).1, (hp.keep g o hg).2⟩, fun b q1 q2 q3 => ?_, hp.os, hp.tape, hp.output, hp.size⟩⟩
    · have hil := ltX hl
      obtain ⟨T, cs, c1, c2, c3⟩ := hr.box i l ((hkeep i hil).trans hl)
      refine ⟨T, cs, c1, c2, fun j x u hx hu => ?_⟩
      obtain ⟨r1, r2, r3⟩ := c3 j x u hx hu
      exact ⟨r1.move (hB l (mem_at hl) x (mem_at hx)) (fun g o hg => ⟨.inl hg, rfl⟩) (fun g hg => ⟨rfl, fun o ho => own_rdK hr (r3 g hg) o ho⟩) (Nat.le_refl _) (fun _ _ => rfl), r2, r3⟩
    · rcases ho with ho | ⟨j, hj1, hj2, e⟩
      · exact (hr.sep i (by omega)).2 o ho
      · have := hr.inj j i hj2 (by omega) e
        omega
    · rcases hg with hg | ⟨j, hj1, hj2, rfl⟩
      · exact hr.rds g o hg
      · obtain ⟨T, cs, c1, _⟩ := hr.box j _ (List.getElem?_eq_getElem hj2)
        exact (Array.getElem?_eq_some_iff.1 c1).1
    · obtain ⟨f1, f2, f3, f4⟩ := hr.fix b hb
      exact ⟨f1, f2, fun i hi => f3 i (by omega), f4⟩
    · obtain ⟨f1, f2, f3, f4⟩ := hp.frame b q1 q2 q3
      refine ⟨f1, f2, fun i hi => f3 i (by omega), fun o ho => ?_⟩
      rcases ho with ho | ⟨j, hj1, hj2, e⟩
      · exact f4 o ho
      · exact absurd e (f3 j hj2)⟩
end Go.Proofs.Ytijnohcaeedffaa

set_option linter.unusedVariables false
set_option linter.unnecessarySimpa false
set_option linter.unusedSimpArgs false
set_option linter.unusedSectionVars false
set_option maxRecDepth 100000
namespace Go.Proofs.Ytijnohcaeedffaa
open Go Go.RowKit

/-- The document's wheel. -/
def dwA (now : Int) (ts : List Tm) : AV := .agg [.int .i64 now, .sl false 2 (rowsT ts)]
section
variable {H : Hp} (E : Env) (Q : AV → Hp → Prop)
end
end Go.Proofs.Ytijnohcaeedffaa

set_option linter.unusedVariables false
set_option linter.unnecessarySimpa false
set_option linter.unusedSimpArgs false
set_option linter.unusedSectionVars false
set_option maxRecDepth 100000
namespace Go.Proofs.Ytijnohcaeedffaa
open Go Go.RowKit

def zAl : List AV := [.int .i64 0, .int .i64 0]
theorem flT_len (l : List Tm) : (rowsT l).flatten.length = l.length * 2 := by
  induction l with
  | nil => rfl
  | cons y l ih =>
    show ([AV.int .i64 y.n, .int .i64 y.t] ++ (rowsT l).flatten).length = _
    simp [ih]; omega
theorem flT_snoc (l : List Tm) (y : Tm) : (rowsT (l ++ [y])).flatten = (rowsT l).flatten ++ [.int .i64 y.n, .int .i64 y.t] := by rw [← rowsT_snoc]; simp
theorem flT_at {l : List Tm} {i : Nat} {y : Tm} (h : l[i]? = some y) : (rowsT l).flatten[i * 2]? = some (.int .i64 y.n) ∧ (rowsT l).flatten[i * 2 + 1]? = some (.int .i64 y.t) := by
  induction l generalizing i with
  | nil => simp at h
  | cons x l ih =>
    have e : (rowsT (x :: l)).flatten = .int .i64 x.n :: .int .i64 x.t :: (rowsT l).flatten := rfl
    rw [e]
    cases i with
    | zero => simp at h; subst h; exact ⟨rfl, rfl⟩
    | succ i =>
      have := ih (by simpa using h)
      rw [show (i + 1) * 2 = i * 2 + 1 + 1 by omega]
      exact this
/-- A list that grows behind the boxes P. -/
structure GB (P K : Hp) (v : AV) (l : List Tm) : Prop where
  len : P.length ≤ K.length
  keep : ∀ j, j < P.length → K[j]? = P[j]?
  bx : BX K (fun i => P.length ≤ i) 2 v l.length (fun j u => (rowsT l).flatten[j]? = some u)
  bd : BndH K.length K
section
variable {P K : Hp} {v : AV} {l : List Tm} {y : Tm} {i c c' : Nat} {A : List AV}
theorem GB.zero (hB : BndH P.length P) : GB P (P ++ [[]]) (.bx P.length 0 0 0 2) [] :=
  ⟨by simp, fun j hj => List.getElem?_append_left hj, .inr ⟨P.length, 0, [], Nat.le_refl _, rfl, by simp, rfl, Nat.le_refl _, Nat.zero_le _, nofun, fun j u hj => by simp at hj⟩, bndX_app (bndX_up hB (by simp)) fun l hl x hx => by simp at hl; subst hl; cases hx⟩
theorem GB.cellC (hm : ∀ m u, m < l.length * 2 → A[m]? = some u → (rowsT l).flatten[m]? = some u) : ∀ m u, m < (l.length + 1) * 2 → (if l.length * 2 ≤ m then [AV.int .i64 y.n, .int .i64 y.t][m - l.length * 2]? = some u else (rowsT l).flatten[m]? = some u) → (rowsT (l ++ [y])).flatten[m]? = some u := fun m u hmu hu => by
  rw [flT_snoc]
  by_cases h : l.length * 2 ≤ m
  · rw [if_pos h] at hu
    rw [List.getElem?_append_right (by rw [flT_len]; exact h), flT_len]; exact hu
  · rw [if_neg h] at hu
    rw [List.getElem?_append_left (by rw [flT_len]; omega)]; exact hu
theorem GB.room (h : GB P K (.bx i 0 l.length c 2) l) (hA : K[i]? = some A) (hrm : l.length + 1 ≤ c) (y : Tm) : GB P (K.set i (A.take (l.length * 2) ++ ([.int .i64 y.n, .int .i64 y.t] ++ A.drop (l.length * 2 + 2)))) (.bx i 0 (l.length + 1) c 2) (l ++ [y]) := by
  obtain ⟨b1, b2⟩ := h.bx.room hA hrm (r := [.int .i64 y.n, .int .i64 y.t]) rfl (by simp) (C' := fun j u => (rowsT (l ++ [y])).flatten[j]? = some u) (GB.cellC (A := (rowsT l).flatten) fun _ _ _ h => h)
  have hi := (h.bx.lt _ _ _ _ _ rfl).1
  exact ⟨by simp; exact h.len, fun j hj => by rw [getNX (by omega)]; exact h.keep j hj, by simpa using b1, by rw [List.length_set]; exact bndX_put h.bd _ fun x hx => (b2 x hx).bnd _⟩
theorem GB.grow (h : GB P K (.bx i 0 l.length c 2) l) (hA : K[i]? = some A) (hc1 : l.length + 1 ≤ c') (hc2 : c' ≤ maxLen) (y : Tm) : GB P (K ++ [A.take (l.length * 2) ++ ([.int .i64 y.n, .int .i64 y.t] ++ (List.replicate (c' - (l.length + 1)) zAl).flatten)]) (.bx K.length 0 (l.length + 1) c' 2) (l ++ [y]) := by
  obtain ⟨a1, a2, a3, a4, a5, a6, a7, a8, a9⟩ := h.bx.cells hA
  obtain ⟨b1, b2⟩ := BX.grow (K := K) (G := fun i => P.length ≤ i) (n := l.length) (k := 2) (C := fun j u => (rowsT l).flatten[j]? = some u) (C' := fun j u => (rowsT (l ++ [y])).flatten[j]? = some u) (c' := c') (L := A.take (l.length * 2)) (r := [.int .i64 y.n, .int .i64 y.t]) (z := zAl) a1 (fun y hy => a2 y (List.mem_of_mem_take hy)) a8 hc1 hc2 h.len rfl (by simp) rfl (by simp [zAl]) (GB.cellC (A := (rowsT l).flatten) fun _ _ _ h => h)
  exact ⟨by simp; have := h.len; omega, fun j hj => by rw [List.getElem?_append_left (by have := h.len; omega)]; exact h.keep j hj, by simpa using b1, bndX_app (bndX_up h.bd (by simp)) fun l hl x hx => by simp only [List.mem_cons, List.not_mem_nil, or_false] at hl; subst hl; exact (b2 x hx).bnd _⟩
/-- What stands there. -/
theorem GB.at (h : GB P K (.bx i 0 l.length c 2) l) (hA : K[i]? = some A) {j : Nat} (hy : l[j]? = some y) : A[j * 2]? = some (.int .i64 y.n) ∧ A[j * 2 + 1]? = some (.int .i64 y.t) := by
  obtain ⟨a1, a2, a3, a4, a5, a6, a7, a8, a9⟩ := h.bx.cells hA
  have hj := ltX hy
  obtain ⟨f1, f2⟩ := flT_at hy
  have h1 : j * 2 + 1 < A.length := by omega
  have e1 := a9 (j * 2) _ (by omega) (List.getElem?_eq_getElem (by omega))
  have e2 := a9 (j * 2 + 1) _ (by omega) (List.getElem?_eq_getElem h1)
  rw [f1] at e1
  rw [f2] at e2
  exact ⟨(List.getElem?_eq_getElem (by omega)).trans e1.symm, (List.getElem?_eq_getElem h1).trans e2.symm⟩
/-- It is read on alone. -/
theorem GB.see {H : Hp} (h : GB P K (.bx i 0 l.length c 2) l) (hH : H.length ≤ P.length) : see1 H K (.bx i 0 l.length c 2) (.sl false 2 (rowsT l)) := by
  obtain ⟨hi, hil⟩ := h.bx.lt _ _ _ _ _ rfl
  have hA : K[i]? = some K[i] := List.getElem?_eq_getElem hil
  obtain ⟨a1, a2, a3, a4, a5, a6, a7, a8, a9⟩ := h.bx.cells hA
  refine .inr ⟨i, 0, l.length, c, 2, _, rowsT l, rfl, rfl, by omega, hA, rowsT_len l, fun r hr => ?_, fun r hr z hz => ?_, by omega, fun j u hu => ?_⟩
  · obtain ⟨y, _, rfl⟩ := List.mem_map.1 hr; rfl
  · obtain ⟨y, _, rfl⟩ := List.mem_map.1 hr
    simp at hz
    rcases hz with rfl | rfl <;> exact ⟨rfl, .int _ _⟩
  · have hj : j < l.length * 2 := by have := ltX hu; rw [flT_len] at this; exact this
    have hj2 : j < K[i].length := by omega
    have := a9 j _ hj (List.getElem?_eq_getElem hj2)
    rw [hu] at this
    rw [Nat.zero_add, List.getElem?_eq_getElem hj2]
    exact this.symm
end
theorem bnd_rowsT (N : Nat) (b : Bool) (l : List Tm) : Bnd N (.sl b 2 (rowsT l)) := .sl _ _ _ fun r hr x hx => by
  obtain ⟨y, _, rfl⟩ := List.mem_map.1 hr
  simp at hx
  rcases hx with rfl | rfl <;> exact .int _ _
theorem offN_len {ts : List Tm} (h : ts.Pairwise fun x y => x.n ≠ y.n) (n : Int) : decide ((offN ts n).length < ts.length) = (ofN ts n).isSome := by
  cases ho : ofN ts n with
  | none => rw [offN_none ho]; simp
  | some y =>
    have h1 := List.mem_of_find?_eq_some ho
    have h2 := List.find?_some ho
    have : (offN ts n).length < ts.length := by
      refine Nat.lt_of_le_of_ne (List.length_filter_le ..) fun e => ?_
      have := List.length_filter_eq_length_iff.1 e y h1
      simp at this h2
      exact this h2
    simp [this]
theorem offN_snoc {ts : List Tm} {n : Int} {j : Nat} {z : Tm} (hz : ts[j]? = some z) : offN (ts.take (j + 1)) n = offN (ts.take j) n ++ (if z.n = n then [] else [z]) := by
  rw [List.take_add_one, hz, Option.toList_some]
  unfold offN
  rw [List.filter_append]
  congr 1
  by_cases e : z.n = n <;> simp [e]
def stpI (H P : Hp) (now n : Int) (ts : List Tm) (fr : List AV) (K : Hp) : Prop := ∃ (j i c : Nat), j ≤ ts.length ∧ GB P K (.bx i 0 (offN (ts.take j) n).length c 2) (offN (ts.take j) n) ∧
  ∃ x : Nat → AV, fr = [x 0, .int .i64 n, .ptr (some (H.length, 0)), x 3, .ptr (some (H.length + 1, 0)), x 5, .bx i 0 (offN (ts.take j) n).length c 2, .int .i64 j, x 8, x 9, x 10, x 11, x 12, x 13, x 14, x 15, x 16, x 17, x 18, x 19, x 20, x 21, x 22, x 23, x 24, x 25, x 26, x 27, x 28, x 29, x 30, x 31, x 32, x 33, x 34, x 35, x 36, x 37, x 38, x 39, x 40, x 41]
section
variable {H : Hp} (E : Env) (Q : AV → Hp → Prop)
theorem dstopB_pc (now n : Int) (ts : List Tm) (hnd : ts.Pairwise fun x y => x.n ≠ y.n) (hl : ts.length ≤ 1000000000) (hQ : ∀ K i c, GB H K (.bx i 0 (offN ts n).length c 2) (offN ts n) → Q (.tup [.agg [.int .i64 now, .bx i 0 (offN ts n).length c 2], .bool (ofN ts n).isSome]) K) : PC Try.prog E 28 [dwA now ts, .int .i64 n] H Q := by
  refine pc_enterL (fun i => i = H.length) Try.func28 rfl [] [(1, [3]), (6, [0, 0, 0, 0, 0, 0, 0, 3]), (7, [0, 2, 0, 0, 0, 0, 0, 2, 0, 0, 2])] (by kernel_rfl) (fun E hS hB => ?_)
  simp [Try.ntmps28, Try.results28, List.replicate_succ, dwA]
  obtain ⟨P, hP⟩ : ∃ P, P = H ++ [[AV.int .i64 now, .sl false 2 (rowsT ts)], [.int .i64 0, .nil]] := ⟨_, rfl⟩
  have hPl : P.length = H.length + 2 := by rw [hP]; simp
  have hBP : BndH P.length P := by
    rw [hP]
    refine bndX_app (bndX_up hB (by simp)) fun l hl x hx => ?_
    simp at hl
    rcases hl with rfl | rfl
    · simp at hx
      rcases hx with rfl | rfl
      · exact .int _ _
      · exact bnd_rowsT _ _ _
    · simp at hx
      rcases hx with rfl | rfl
      · exact .int _ _
      · exact .nil
  have hz0 := GB.zero hBP
  have hPH : ∀ j, j < H.length → P[j]? = H[j]? := fun j hj => by rw [hP]; exact List.getElem?_append_left hj
  have hP0 : P[H.length]? = some [.int .i64 now, .sl false 2 (rowsT ts)] := by rw [hP]; simp
  have hP1 : P[H.length + 1]? = some [.int .i64 0, .nil] := by rw [hP]; simp
  rw [show H ++ [[AV.int .i64 now, .sl false 2 (rowsT ts)], [.int .i64 0, .nil], []] = P ++ [[]] by rw [hP]; simp]
  refine VL_go (stpI H P now n ts) (fun fr _ => ts.length - (ai (aget fr 7)).toNat) ⟨0, P.length, 0, by omega, by simpa [offN] using hz0, fr_intro (by simp [hPl, offN])⟩ ?_
  clear hz0 hP
  rintro fr K ⟨j, i, c, hj, hg, x, rfl⟩
  have hw2 : IntKind.i64.wrap ((j : Int) + 1) = j + 1 := wrap_in (by omega) (by omega)
  have hk0 : K[H.length]? = some [.int .i64 now, .sl false 2 (rowsT ts)] := (hg.keep _ (by omega)).trans hP0
  have hk1 : K[H.length + 1]? = some [.int .i64 0, .nil] := (hg.keep _ (by omega)).trans hP1
  have ho : (offN (ts.take j) n).length ≤ j := by
    have : (offN (ts.take j) n).length ≤ (ts.take j).length := List.length_filter_le ..
    rw [List.length_take] at this; omega
  by_cases h : j < ts.length
  · obtain ⟨z, hz⟩ : ∃ z, ts[j]? = some z := ⟨_, List.getElem?_eq_getElem h⟩
    have hat := rowsT_at hz
    have hsn := offN_snoc (n := n) hz
    by_cases e : z.n = n
    · rw [if_pos e, List.append_nil] at hsn
      simp [h, hk0, hat, rowsT_len, e, hw2]
      refine Kloop_normal ⟨j + 1, i, c, by omega, by rw [hsn]; exact hg, fr_intro (by simp [hsn])⟩ (by simp; omega)
    · rw [if_neg e] at hsn
      have e' : (z.n != n) = true := bne_iff_ne.2 e
      obtain ⟨hi, hil⟩ := hg.bx.lt _ _ _ _ _ rfl
      obtain ⟨A, hA⟩ : ∃ A, K[i]? = some A := ⟨_, List.getElem?_eq_getElem hil⟩
      obtain ⟨a1, a2, a3, a4, a5, a6, a7, a8, a9⟩ := hg.bx.cells hA
      have hfree : (∀ y ∈ A.take ((offN (ts.take j) n).length * 2), y.free = true) = True := eq_true fun y hy => (a2 y (List.mem_of_mem_take hy)).free
      have p1 : (offN (ts.take j) n).length + 1 ≤ maxLen := by unfold maxLen; omega
      have p2 : ((offN (ts.take j) n).length + 1) * 16 ≤ 140737488355328 := by omega
      by_cases hroom : (offN (ts.take j) n).length + 1 ≤ c
      · have hle3 : ((offN (ts.take j) n).length + 1) * 2 ≤ A.length := by rw [a4]; exact mul_rows hroom
        simp [h, hk0, hat, rowsT_len, e', hw2, hA, hfree, hroom, a3, hle3]
        have hf := hg.room hA hroom z
        exact Kloop_normal ⟨j + 1, i, c, by omega, by rw [hsn]; simpa using hf, fr_intro (by simp [hsn])⟩ (by simp; omega)
      · simp [h, hk0, hat, rowsT_len, e', hw2, hA, hfree, hroom, a3, p1, p2]
        refine VGrow_intro fun c' hc1 hc2 => ?_
        simp [hw2]
        have hf := hg.grow hA hc1 hc2 z
        exact Kloop_normal ⟨j + 1, K.length, c', by omega, by rw [hsn]; simpa [zAl] using hf, fr_intro (by simp [hsn])⟩ (by simp; omega)
  · have ej : j = ts.length := by omega
    subst ej
    rw [List.take_length] at hg
    simp [h, hk0, hk1, rowsT_len, hS]
    have hi := (hg.bx.lt _ _ _ _ _ rfl)
    have hle := hg.len
    have hg2 : GB H (K.set (H.length + 1) [.int .i64 now, .bx i 0 (offN ts n).length c 2]) (.bx i 0 (offN ts n).length c 2) (offN ts n) := by
      refine ⟨by simp; omega, fun j hj => ?_, ?_, ?_⟩
      · rw [getNX (by omega), hg.keep j (by omega)]; exact hPH j hj
      · exact (hg.bx.put (i := H.length + 1) (fun i' o m c k' e => by cases e; omega) _).of_eq (fun _ _ _ _ _ _ => rfl) (fun i' o m c k' e => by cases e; omega) (fun _ _ _ _ h => h)
      · rw [List.length_set]
        refine bndX_put hg.bd _ fun x hx => ?_
        simp at hx
        rcases hx with rfl | rfl
        · exact .int _ _
        · exact .bx _ _ _ _ _ hi.2
    have hq := hQ _ i c hg2
    rw [offN_len hnd n]
    exact aPost_upX (v := .tup [.agg [.int .i64 now, .bx i 0 (offN ts n).length c 2], .bool (ofN ts n).isSome]) (by simp [hk1, ltX hk1]) (by simp; omega) (hg2.bd) (by simp [hi.2]) hq
end
end Go.Proofs.Ytijnohcaeedffaa

set_option linter.unusedVariables false
set_option linter.unnecessarySimpa false
set_option linter.unusedSimpArgs false
set_option linter.unusedSectionVars false
set_option maxRecDepth 100000
namespace Go.Proofs.Ytijnohcaeedffaa
open Go Go.RowKit

/-- A list of alarms as a box behind H. -/
def BT (H K : Hp) (v : AV) (l : List Tm) : Prop := BX K (fun i => H.length ≤ i) 2 v l.length (fun j u => (rowsT l).flatten[j]? = some u)
section
variable {H K K' : Hp} {v : AV} {l : List Tm} {y : Tm} {i c c' : Nat} {A : List AV}
theorem BT.of (h : BT H K v l) (he : ∀ j, H.length ≤ j → j < K.length → K'[j]? = K[j]?) : BT H K' v l :=
  h.of_eq (fun i _ _ _ _ e => he i (h.lt _ _ _ _ _ e).1 (h.lt _ _ _ _ _ e).2) (fun i _ _ _ _ e => (h.lt _ _ _ _ _ e).1) (fun _ _ _ _ h => h)
theorem BT.first (hc1 : 1 ≤ c) (hc2 : c ≤ maxLen) (hl : H.length ≤ K.length) (y : Tm) : BT H (K ++ [[.int .i64 y.n, .int .i64 y.t] ++ (List.replicate (c - 1) zAl).flatten]) (.bx K.length 0 1 c 2) [y] ∧ ∀ x ∈ [.int .i64 y.n, .int .i64 y.t] ++ (List.replicate (c - 1) zAl).flatten, smp x := by
  obtain ⟨b1, b2⟩ := BX.grow (K := K) (G := fun i => H.length ≤ i) (n := 0) (k := 2) (C := fun j u => (rowsT ([] : List Tm)).flatten[j]? = some u) (C' := fun j u => (rowsT [y]).flatten[j]? = some u) (c' := c) (L := []) (r := [.int .i64 y.n, .int .i64 y.t]) (z := zAl) (by simp) (by simp) (fun _ _ h => by omega) (by omega) hc2 hl rfl (by simp) rfl (by simp [zAl])
    (GB.cellC (l := []) (A := (rowsT ([] : List Tm)).flatten) fun _ _ _ h => h)
  simp only [List.nil_append, Nat.zero_add] at b1 b2
  exact ⟨b1, b2⟩
theorem BT.room (h : BT H K (.bx i 0 l.length c 2) l) (hA : K[i]? = some A) (hrm : l.length + 1 ≤ c) (y : Tm) : BT H (K.set i (A.take (l.length * 2) ++ ([.int .i64 y.n, .int .i64 y.t] ++ A.drop (l.length * 2 + 2)))) (.bx i 0 (l.length + 1) c 2) (l ++ [y]) ∧ ∀ x ∈ A.take (l.length * 2) ++ ([.int .i64 y.n, .int .i64 y.t] ++ A.drop (l.length * 2 + 2)), smp x := by
  obtain ⟨b1, b2⟩ := BX.room h hA hrm (r := [.int .i64 y.n, .int .i64 y.t]) rfl (by simp) (C' := fun j u => (rowsT (l ++ [y])).flatten[j]? = some u) (GB.cellC (A := (rowsT l).flatten) fun _ _ _ h => h)
  exact ⟨by unfold BT; simpa using b1, b2⟩
theorem BT.grow (h : BT H K (.bx i 0 l.length c 2) l) (hA : K[i]? = some A) (hl : H.length ≤ K.length) (hc1 : l.length + 1 ≤ c') (hc2 : c' ≤ maxLen) (y : Tm) : BT H (K ++ [A.take (l.length * 2) ++ ([.int .i64 y.n, .int .i64 y.t] ++ (List.replicate (c' - (l.length + 1)) zAl).flatten)]) (.bx K.length 0 (l.length + 1) c' 2) (l ++ [y]) ∧ ∀ x ∈ A.take (l.length * 2) ++ ([.int .i64 y.n, .int .i64 y.t] ++ (List.replicate (c' - (l.length + 1)) zAl).flatten), smp x := by
  obtain ⟨a1, a2, a3, a4, a5, a6, a7, a8, a9⟩ := BX.cells h hA
  obtain ⟨b1, b2⟩ := BX.grow (K := K) (G := fun i => H.length ≤ i) (n := l.length) (k := 2) (C := fun j u => (rowsT l).flatten[j]? = some u) (C' := fun j u => (rowsT (l ++ [y])).flatten[j]? = some u) (c' := c') (L := A.take (l.length * 2)) (r := [.int .i64 y.n, .int .i64 y.t]) (z := zAl) a1 (fun y hy => a2 y (List.mem_of_mem_take hy)) a8 hc1 hc2 hl rfl (by simp) rfl (by simp [zAl]) (GB.cellC (A := (rowsT l).flatten) fun _ _ _ h => h)
  exact ⟨by unfold BT; simpa using b1, b2⟩
end
section
variable {M : Nat → Prop} {H : Hp} {iw now : Nat} {st : Int} {ts : List Tm} (E : Env) (Q : AV → Hp → Prop)
theorem wfirst_pc (h : Wh M H iw now st ts) (hst : 0 ≤ st ∧ st ≤ 4611686018427387904) (hne : ts ≠ [])
    (hQ : ∀ (K : Hp) (i : Nat) (x : Tm) (a b d : AV) (st' : Int), Wh M K iw now st' ts → Lft M M H K → K.length = H.length → firstT ts = some x → M i → K[i]? = some [.int .i64 x.n, .int .i64 x.t, a, b, d] → st < st' → st' ≤ st + 576 → Q (.ptr (some (i, 0))) K) : PC Try.prog E 26 [.ptr (some (iw, 0))] H Q := by
  obtain ⟨row, g, kv, Ls, h1, h2, h3, h4⟩ := h
  refine first_vw E Q h1 h2 hst hne (fun s x c hs hx hf c1 c2 => ?_)
  obtain ⟨pre, suf, hsp⟩ := List.append_of_mem hx
  have hW := h1.step c
  have hi := hW.lnk.links s pre x suf hs hsp
  unfold tmr at hi
  exact hQ _ x.i ⟨x.n, x.t⟩ _ _ _ c ⟨_, g, kv, Ls, hW, h2, h3, fun j hj => by simpa using h4 j hj⟩ ⟨by simp, fun _ h => .inl h, fun j _ hj => getNX (fun e => hj (h3 j (.inl e.symm))) _⟩ (by simp) hf (h3 _ (.inr ⟨s, hs, x, hx, rfl⟩)) hi c1 c2
theorem wmove_pc (h : Wh M H iw now st ts) (tick : Nat) (h1 : now ≤ tick) (h2 : tick ≤ 281474976710656) (hgt : ∀ y ∈ ts, (tick : Int) < y.t)
    (hQ : ∀ K, Wh M K iw tick st ts → Lft M M H K → K.length = H.length → Q (.tup []) K) : PC Try.prog E 27 [.ptr (some (iw, 0)), .int .i64 tick] H Q := by
  obtain ⟨row, g, kv, Ls, g1, g2, g3, g4⟩ := h
  exact move_pc E Q g1 g2 tick h1 h2 hgt (fun H' row' Ls' hW hV hl hs hf => hQ H' ⟨row', g, kv, Ls', hW, hV, fun j hj => g3 j (hs j hj), fun j hj => by rw [hl]; exact g4 j hj⟩ ⟨by omega, fun _ h => .inl h, fun j _ hj => hf j fun hm => hj (g3 j hm)⟩ hl)
def muBx (n : Nat) (fr : List AV) : Nat := match aget fr 6 with
  | .bx _ _ m _ _ => n - m
  | _ => n
def avB (M : Nat → Prop) (iw : Nat) (H : Hp) (now tick : Nat) (st : Int) (ts : List Tm) (fr : List AV) (K : Hp) : Prop :=
  ∃ (st1 : Int) (ts1 out : List Tm) (v : AV), Wh M K iw now st1 ts1 ∧ Adv ts ts1 out tick ∧ st ≤ st1 ∧ st1 ≤ st + 576 * out.length ∧ (out ≠ [] → st < st1) ∧ Lft M M H K ∧ BT H K v out ∧ BndH K.length K ∧
  ∃ x : Nat → AV, fr = [.ptr (some (iw, 0)), .int .i64 tick, x 2, x 3, x 4, x 5, v, x 7, x 8, x 9, x 10, x 11, x 12, x 13, x 14, x 15, x 16, x 17, x 18, x 19, x 20, x 21, x 22, x 23, x 24, x 25, x 26, x 27, x 28, x 29, x 30, x 31, x 32, x 33, x 34, x 35, x 36, x 37, x 38, x 39, x 40, x 41, x 42, x 43, x 44, x 45, x 46, x 47, x 48, x 49, x 50, x 51, x 52, x 53, x 54, x 55, x 56, x 57, x 58, x 59, x 60, x 61]
set_option maxHeartbeats 4000000 in
theorem wadvB_pc (h : Wh M H iw now st ts) (hst : 0 ≤ st ∧ st + 576 * (ts.length + 1) ≤ 4611686018427387904) (tick : Int)
    (hQ0 : badT now tick = true → Q (.tup [.nil, .int .i64 250]) H)
    (hQ : ∀ (K : Hp) (st' : Int) (tk : Nat) (v : AV), tick = tk → badT now tick = false → now ≤ tk → tk ≤ 281474976710656 → Wh M K iw tk st' (leftT tick ts) → Lft M M H K → BT H K v (dueT tick ts) → BndH K.length K →
      st ≤ st' → st' ≤ st + 576 * ((dueT tick ts).length + 1) → (dueT tick ts ≠ [] → st < st') → Q (.tup [v, .int .i64 0]) K) : PC Try.prog E 13 [.ptr (some (iw, 0)), .int .i64 tick] H Q := by
  have h0 := h
  obtain ⟨row, g, kv, Ls, hW0, hV0, _, _⟩ := h0
  have hw := hW0.lnk.w
  have r0 := hW0.r0
  have hnow := h.nowle
  refine pc_enter Try.func13 rfl [] [(4, [0, 0, 0, 3, 3]), (7, [8, 11, 0, 0, 0, 0, 0, 0, 0, 0, 0, 0, 0, 3])] (by kernel_rfl) (fun hB => ?_)
  by_cases h1 : tick < now
  · have hq := hQ0 (by unfold badT; simp [h1])
    simp [Try.ntmps13, Try.results13, List.replicate_succ, hw, r0, h1]
    exact aPost_same0 hB (v0 := .tup [.nil, .int .i64 250]) (by simp) (nilV_refl _) (by simp) hq
  by_cases h2 : 281474976710656 < tick
  · have hq := hQ0 (by unfold badT; simp [h2])
    simp [Try.ntmps13, Try.results13, List.replicate_succ, hw, r0, h1, h2]
    exact aPost_same0 hB (v0 := .tup [.nil, .int .i64 250]) (by simp) (nilV_refl _) (by simp) hq
  have hbad : badT now tick = false := by unfold badT; rw [decide_eq_false h1, decide_eq_false h2]; rfl
  obtain ⟨tk, rfl⟩ : ∃ tk : Nat, tick = tk := ⟨tick.toNat, by omega⟩
  have ht1 : now ≤ tk := by omega
  have ht2 : tk ≤ 281474976710656 := by omega
  simp [Try.ntmps13, Try.results13, List.replicate_succ, hw, r0, h1, h2]
  have hnd := h.nodup
  have hfew := h.few
  have hMlt := h.lt
  refine VL_go (avB M iw H now tk st ts) (fun fr _ => muBx ts.length fr) ⟨st, ts, [], .nil, h, Adv.zero ts tk, by omega, by simp, by simp, Lft.refl M H, .inl ⟨rfl, rfl⟩, hB, fr_intro (by simp)⟩ ?_
  clear hW0 hV0 hw r0 row
  rintro fr K ⟨st1, ts1, out, v, hW, hA, hs1, hs2, hs3, hL, hv, hBK, x, rfl⟩
  have hol : out.length + ts1.length = ts.length := hA.len
  have hvf := BX.facts hv
  obtain ⟨vf, vo, vd, vb⟩ := hvf
  have hle := hL.le
  have fin : ∀ (K1 : Hp) (c : Int), st ≤ c → c ≤ st + 576 * (out.length + 1) → (out ≠ [] → st < c) → (∀ y ∈ ts1, (tk : Int) < y.t) → Wh M K1 iw tk c ts1 → Lft M M K K1 → BndH K1.length K1 → Q (.tup [v, .int .i64 0]) K1 := by
    intro K1 c a1 a2 a3 a4 a5 a6 a7
    obtain ⟨e1, e2⟩ := hA.done hnd a4
    rw [e1] at a2 a3
    exact hQ K1 c tk v rfl hbad ht1 ht2 (by rw [← e2]; exact a5) (hL.trans a6) (by rw [← e1]; exact BT.of hv fun j hj1 hj2 => a6.keep j hj2 fun hm => by have := hMlt j hm; omega) a7 a1 a2 a3
  obtain ⟨row1, g1, kv1, Ls1, hWl, hV, hMs, _⟩ := id hW
  have hw1 := hWl.lnk.w
  have rm1 := hWl.rm
  have hlen1 := hWl.len hV
  cases hts : ts1 with
  | nil =>
    have hk0 : kv1 = [] := List.eq_nil_of_length_eq_zero (by rw [hlen1, hts]; rfl)
    subst hts hk0
    simp [hw1, rm1, mapOb]
    refine PC.bnd (wmove_pc E _ hW tk ht1 ht2 nofun (fun K1 hW1 hL1 hl1 hB1 _ => ?_))
    have hq := fin K1 st1 hs1 (by omega) hs3 nofun hW1 hL1 hB1
    simp [Kcall, KP, vd]
    exact aPost_upX (v := .tup [v, .int .i64 0]) (by simp [vd]) (by omega) hB1 (by simp [vb.mono (Nat.le_of_eq hl1.symm)]) hq
  | cons y0 l0 =>
    have hne : ts1 ≠ [] := by rw [hts]; simp
    have hpos : 0 < kv1.length := by
      rw [hlen1, hts]
      simp
    clear hts
    simp [hw1, rm1, mapOb, hpos]
    have hpos2 : 0 < ts1.length := by omega
    refine PC.bnd (wfirst_pc E _ hW ⟨by omega, by omega⟩ hne (fun K2 i z a b d st2 hW2 hL2 hl2 hf hMi hyc hc1 hc2 hB2 _ => ?_))
    obtain ⟨f1, f2⟩ := firstT_spec hf
    have hv2 : BT H K2 v out := BT.of hv fun j hj1 hj2 => hL2.keep j hj2 fun hm => by have := hMlt j hm; omega
    by_cases hgt : (tk : Int) < z.t
    · simp [Kcall, KP, hyc, hgt]
      have hall : ∀ y ∈ ts1, (tk : Int) < y.t := fun y hy => by
        rcases f2 y hy with rfl | h3
        · exact hgt
        · unfold tlt at h3; omega
      refine PC.bnd (wmove_pc E _ hW2 tk ht1 ht2 hall (fun K1 hW1 hL1 hl1 hB1 _ => ?_))
      have hq := fin K1 st2 (by omega) (by omega) (fun ho => by have := hs3 ho; omega) hall hW1 (hL2.trans hL1) hB1
      simp [Kcall, KP, vd]
      exact aPost_upX (v := .tup [v, .int .i64 0]) (by simp [vd]) (by omega) hB1 (by simp [vb.mono (Nat.le_of_eq (show K.length = K1.length by omega))]) hq
    · have hap1 : out.length + 1 ≤ maxLen := by unfold maxLen; omega
      have hap2 : (out.length + 1) * 16 ≤ 140737488355328 := by omega
      have hzn := (hW.ok z f1).1
      have hil := ltX hyc
      rcases hv2 with ⟨ho, rfl⟩ | ⟨oi, c, A, hoi, rfl, hA2, hAl, hnc, hcm, hsm, hcell⟩
      · have ho' : out = [] := List.eq_nil_of_length_eq_zero ho
        subst ho'
        have h1m : 1 ≤ maxLen := by unfold maxLen; omega
        simp [Kcall, KP, hyc, hgt, h1m]
        refine VGrow_intro fun c hc3 hc4 => ?_
        simp [getX hil, hyc]
        obtain ⟨b1, b2⟩ := BT.first (H := H) (K := K2) hc3 hc4 (by omega) z
        have hLx : Lft M M K2 (K2 ++ [[.int .i64 z.n, .int .i64 z.t] ++ (List.replicate (c - 1) zAl).flatten]) := ⟨by simp, fun _ h => .inl h, fun j hj _ => List.getElem?_append_left hj⟩
        have hWx : Wh M (K2 ++ [[.int .i64 z.n, .int .i64 z.t] ++ (List.replicate (c - 1) zAl).flatten]) iw now st2 ts1 := hW2.keep (by simp) fun j hj => List.getElem?_append_left (hW2.lt j hj)
        refine PC.bnd (wstop_pc E _ hWx z.n hzn (fun K3 hW3 hL3 hl3 hB3 _ => ?_))
        simp [Kcall, KP]
        have hA3 := hA.step hW.nd hf (by omega)
        exact Kloop_normal ⟨st2, offN ts1 z.n, _, _, hW3, hA3, by omega, by simp; omega, fun _ => by omega, ((hL.trans hL2).trans hLx).trans hL3, BT.of b1 fun j hj1 hj2 => hL3.keep j hj2 fun hm => by have := hMlt j hm; omega, hB3, fr_intro (by simp)⟩ (by simp [muBx]; omega)
      · have hfree : (∀ y ∈ A.take (out.length * 2), y.free = true) = True := eq_true fun y hy => (hsm y (List.mem_of_mem_take hy)).free
        have hv2 : BT H K2 (.bx oi 0 out.length c 2) out := .inr ⟨oi, c, A, hoi, rfl, hA2, hAl, hnc, hcm, hsm, hcell⟩
        have hnei : oi ≠ i := fun e => by have := hMlt i hMi; omega
        have a3 : out.length * 2 ≤ A.length := by rw [hAl]; exact mul_rows hnc
        by_cases hroom : out.length + 1 ≤ c
        · have hle3 : (out.length + 1) * 2 ≤ A.length := by rw [hAl]; exact mul_rows hroom
          simp [Kcall, KP, hyc, hgt, hA2, hfree, a3, hroom, hle3, getNX hnei]
          have hoiM : ¬ M oi := fun hm => by have := hMlt oi hm; omega
          obtain ⟨b1, b2⟩ := hv2.room hA2 hroom z
          have hWx : Wh M (K2.set oi (A.take (out.length * 2) ++ ([.int .i64 z.n, .int .i64 z.t] ++ A.drop (out.length * 2 + 2)))) iw now st2 ts1 := hW2.keep (by simp) fun j hj => getNX (fun e => hoiM (by rw [e]; exact hj)) _
          have hLH : Lft M M H (K2.set oi (A.take (out.length * 2) ++ ([.int .i64 z.n, .int .i64 z.t] ++ A.drop (out.length * 2 + 2)))) := ⟨by simp; omega, fun _ h => .inl h, fun j hj hm => (getNX (by omega) _).trans ((hL.trans hL2).keep j hj hm)⟩
          refine PC.bnd (wstop_pc E _ hWx z.n hzn (fun K3 hW3 hL3 hl3 hB3 _ => ?_))
          simp [Kcall, KP]
          have hA3 := hA.step hW.nd hf (by omega)
          exact Kloop_normal ⟨st2, offN ts1 z.n, _, _, hW3, hA3, by omega, by simp; omega, fun _ => by omega, hLH.trans hL3, BT.of b1 fun j hj1 hj2 => hL3.keep j hj2 fun hm => by have := hMlt j hm; omega, hB3, fr_intro (by simp)⟩ (by simp [muBx]; omega)
        · simp [Kcall, KP, hyc, hgt, hA2, hfree, a3, hroom, hap1, hap2]
          refine VGrow_intro fun c' hc3 hc4 => ?_
          simp [getX hil, hyc]
          obtain ⟨b1, b2⟩ := hv2.grow hA2 (by omega) hc3 hc4 z
          have hLx : Lft M M K2 (K2 ++ [A.take (out.length * 2) ++ ([.int .i64 z.n, .int .i64 z.t] ++ (List.replicate (c' - (out.length + 1)) zAl).flatten)]) := ⟨by simp, fun _ h => .inl h, fun j hj _ => List.getElem?_append_left hj⟩
          have hWx : Wh M (K2 ++ [A.take (out.length * 2) ++ ([.int .i64 z.n, .int .i64 z.t] ++ (List.replicate (c' - (out.length + 1)) zAl).flatten)]) iw now st2 ts1 := hW2.keep (by simp) fun j hj => List.getElem?_append_left (hW2.lt j hj)
          refine PC.bnd (wstop_pc E _ hWx z.n hzn (fun K3 hW3 hL3 hl3 hB3 _ => ?_))
          simp [Kcall, KP]
          have hA3 := hA.step hW.nd hf (by omega)
          exact Kloop_normal ⟨st2, offN ts1 z.n, _, _, hW3, hA3, by omega, by simp; omega, fun _ => by omega, ((hL.trans hL2).trans hLx).trans hL3, BT.of b1 fun j hj1 hj2 => hL3.keep j hj2 fun hm => by have := hMlt j hm; omega, hB3, fr_intro (by simp)⟩ (by simp [muBx]; omega)
end
end Go.Proofs.Ytijnohcaeedffaa

set_option linter.unusedVariables false
set_option linter.unnecessarySimpa false
set_option linter.unusedSimpArgs false
set_option linter.unusedSectionVars false
set_option maxRecDepth 100000
namespace Go.Proofs.Ytijnohcaeedffaa
open Go Go.RowKit

/-- Nils in a struct that comes back ahead of others are seen as empty lists. -/
theorem wnilT_rel {w : World} {β : Nat → Nat} {Rd : Nat → Nat → Prop} {N : Nat} {l l' rest : List AV} {u : Value} (hB : Bnd N (.tup (.agg l :: rest))) (h : Rel w β Rd (.tup (.agg l :: rest)) u) (hn : nilL l l') (hf' : ∀ x ∈ l', x.free = true) :
    Rel w β Rd (.tup (.agg l' :: rest)) u ∧ Bnd N (.tup (.agg l' :: rest)) := by
  obtain ⟨hlen, hat⟩ := nilL_at hn
  have hB2 : ∀ x ∈ l, Bnd N x := by
    cases hB with
    | tup _ hB =>
      have := hB (.agg l) (by simp)
      cases this with
      | agg _ h => exact h
  cases h with
  | tup _ vs hl hf hr =>
    have h0 : ∀ u, vs[0]? = some u → Rel w β Rd (.agg l') u ∧ Bnd N (.agg l') := fun u hu => by
      have h0 := hr 0 (.agg l) u rfl hu
      cases h0 with
      | agg _ vs' hl' hf0 hr0 =>
        have key : ∀ (i : Nat) (y : AV) (c : Value), l'[i]? = some y → vs'[i]? = some c → Rel w β Rd y c ∧ Bnd N y := fun i y c hy hc => by
          obtain ⟨x, hx, h1⟩ := hat i y hy
          obtain ⟨r1, r2, _⟩ := nil1_rel h1 (hr0 i x c hx hc) (hB2 x (mem_at hx))
          exact ⟨r1, r2⟩
        refine ⟨.agg _ vs' (by omega) (fun y hy => ⟨hf' y hy, ?_⟩) (fun i y c hy hc => (key i y c hy hc).1), .agg _ fun y hy => ?_⟩
        · obtain ⟨i, hi⟩ := List.getElem?_of_mem hy
          obtain ⟨x, hx, h1⟩ := hat i y hi
          rcases h1 with rfl | ⟨rfl, b, k, rfl⟩
          · exact (hf0 _ (mem_at hx)).2
          · rfl
        · obtain ⟨i, hi⟩ := List.getElem?_of_mem hy
          have hi2 : i < vs'.size := by have := (List.getElem?_eq_some_iff.1 hi).1; omega
          exact (key i y _ hi (Array.getElem?_eq_getElem hi2)).2
    have hv0 : vs[0]? = some vs[0]! := by
      have : 0 < vs.size := by simp at hl; omega
      simp [this]
    refine ⟨.tup _ vs (by simpa using hl) (fun x hx => ?_) (fun j x u hx hu => ?_), .tup _ fun x hx => ?_⟩
    · rcases List.mem_cons.1 hx with rfl | hx
      · rfl
      · exact hf x (List.mem_cons_of_mem _ hx)
    · cases j with
      | zero => simp at hx; subst hx; exact (h0 u hu).1
      | succ j => exact hr (j + 1) x u (by simpa using hx) hu
    · rcases List.mem_cons.1 hx with rfl | hx
      · exact (h0 _ hv0).2
      · cases hB with
        | tup _ hB => exact hB x (List.mem_cons_of_mem _ hx)
theorem wnilT {P : Program} {E : Env} {f : FuncId} {args : List AV} {H : Hp} {Q : AV → Hp → Prop} (h : PC P E f args H (fun v H' => ∃ l l' rest, v = .tup (.agg l :: rest) ∧ nilL l l' ∧ (∀ x ∈ l', x.free = true) ∧ Q (.tup (.agg l' :: rest)) H')) : PC P E f args H Q :=
  ⟨h.1, fun w β Rd Ow cargs h1 h2 h3 h4 => (h.2 w β Rd Ow cargs h1 h2 h3 h4).mono fun e w' ⟨u, v, H', β', Rd', Ow', he, hQ, hp⟩ => by
    obtain ⟨l, l', rest, rfl, hn, hf, hQ⟩ := hQ
    obtain ⟨k1, k2⟩ := wnilT_rel hp.bnd hp.rel hn hf
    exact ⟨u, _, H', β', Rd', Ow', he, hQ, ⟨k1, k2, fun g hg => (by cases hg), rfl, hp.hr, hp.old, hp.len, hp.keep, hp.frame, hp.os, hp.tape, hp.output, hp.size⟩⟩⟩
section
variable {P K : Hp} {v : AV} {l : List Tm}
/-- A box beside the list's is written. -/
theorem GB.put2 (h : GB P K v l) {j : Nat} {r : List AV} (hne : ∀ i o m c k, v = .bx i o m c k → i ≠ j) (hj : P.length ≤ j) (hb : ∀ x ∈ r, Bnd K.length x) : GB P (K.set j r) v l := by
  have hle := h.len
  refine ⟨by simp; omega, fun i hi => ?_, h.bx.put (i := j) (fun i' o m c k' e => Ne.symm (hne _ _ _ _ _ e)) _, ?_⟩
  · rw [getNX (by omega)]; exact h.keep i hi
  · rw [List.length_set]; exact bndX_put h.bd _ hb
theorem GB.base (h : GB P K v l) {P' : Hp} (hl : P'.length ≤ P.length) (hk : ∀ i, i < P'.length → P[i]? = P'[i]?) : GB P' K v l :=
  ⟨Nat.le_trans hl h.len, fun i hi => (h.keep i (by omega)).trans (hk i hi), h.bx.of_eq (fun _ _ _ _ _ _ => rfl) (fun i' o m c k' e => by have := (h.bx.lt _ _ _ _ _ e).1; omega) (fun _ _ _ _ h => h), h.bd⟩
theorem bnd_dc {N i n c : Nat} {now : Int} (h : i < N) : ∀ x ∈ [AV.int .i64 now, .bx i 0 n c 2], Bnd N x := fun x hx => by
  simp at hx
  rcases hx with rfl | rfl
  · exact .int _ _
  · exact .bx _ _ _ _ _ h
end
theorem bnd_dwA (N : Nat) (now : Int) (l : List Tm) : Bnd N (dwA now l) := .agg _ fun x hx => by
  simp at hx
  rcases hx with rfl | rfl
  · exact .int _ _
  · exact bnd_rowsT _ _ _
theorem bnd_two {N : Nat} {x : AV} {k : IntKind} {n : Int} (h : Bnd N x) : Bnd N (.tup [x, .int k n]) := .tup _ fun y hy => by
  simp at hy
  rcases hy with rfl | rfl
  · exact h
  · exact .int _ _
section
variable {H : Hp} (E : Env) (Q : AV → Hp → Prop)
theorem dsetB_pc (now : Nat) (ts : List Tm) (n t : Int) (hnd : ts.Pairwise fun x y => x.n ≠ y.n) (hl : ts.length ≤ 1000000000) (hnow : now ≤ 281474976710656) 
    (hQ0 : n < 0 ∨ 281474976710656 < t → Q (.tup [dwA now ts, .int .i64 (errSet n t)]) H)
    (hQ : ∀ K i c, 0 ≤ n → t ≤ 281474976710656 → GB H K (.bx i 0 (setM now ts n t).length c 2) (setM now ts n t) → Q (.tup [.agg [.int .i64 now, .bx i 0 (setM now ts n t).length c 2], .int .i64 0]) K) : PC Try.prog E 16 [dwA now ts, .int .i64 n, .int .i64 t] H Q := by
  refine pc_enter Try.func16 rfl [] [(10, [0, 0, 0, 0, 0, 0, 3])] (by kernel_rfl) (fun hB => ?_)
  by_cases h1 : n < 0
  · have hq := hQ0 (.inl h1)
    unfold errSet at hq
    rw [if_pos h1] at hq
    simp [Try.ntmps16, Try.results16, List.replicate_succ, dwA, h1]
    exact aPost_lawX hB (by simp) (fun j hj => List.getElem?_append_left hj) (v0 := .tup [dwA now ts, .int .i64 251]) (by simp [dwA]) (bnd_two (bnd_dwA _ _ _)) hq
  by_cases h2 : 281474976710656 < t
  · have hq := hQ0 (.inr h2)
    unfold errSet at hq
    rw [if_neg h1, if_pos h2] at hq
    simp [Try.ntmps16, Try.results16, List.replicate_succ, dwA, h1, h2]
    exact aPost_lawX hB (by simp) (fun j hj => List.getElem?_append_left hj) (v0 := .tup [dwA now ts, .int .i64 250]) (by simp [dwA]) (bnd_two (bnd_dwA _ _ _)) hq
  have e1 : setM now ts n t = offN ts n ++ [⟨n, setT now t⟩] := if_neg (by omega)
  /- CASES -/
  by_cases h3 : t ≤ now
  · have w1 : IntKind.i64.wrap ((now : Int) + 1) = now + 1 := wrap_in (by omega) (by omega)
    have hs0 : setT now t = min (now + 1) 281474976710656 := if_pos h3
    by_cases hM : now = 281474976710656
    · have hMb : ((now : Int) == 281474976710656) = true := beq_iff_eq.2 (by omega)
      have hset : ((setT now t : Nat) : Int) = 281474976710656 := by
        rw [hs0, Nat.min_eq_right (by omega)]; rfl
      rw [e1, hset] at hQ
      simp [Try.ntmps16, Try.results16, List.replicate_succ, dwA, h1, h2, h3, w1, hMb]
      refine PC.bnd (dstopB_pc E _ now n ts hnd hl (fun K i c hg hBK _ => ?_))
      have hk0 : K[H.length]? = some [.int .i64 now, .sl false 2 (rowsT ts)] := (hg.keep _ (by simp)).trans (by simp)
      have hk1 : K[H.length + 1]? = some [.int .i64 0, .nil] := (hg.keep _ (by simp)).trans (by simp)
      have hl0 := ltX hk0
      have hl1 := ltX hk1
      obtain ⟨hi, hil⟩ := hg.bx.lt _ _ _ _ _ rfl
      have hi2 : H.length + 2 ≤ i := by simpa using hi
      obtain ⟨A, hA⟩ : ∃ A, K[i]? = some A := ⟨_, List.getElem?_eq_getElem hil⟩
      obtain ⟨a1, a2, a3, a4, a5, a6, a7, a8, a9⟩ := hg.bx.cells hA
      have hfree : (∀ y ∈ A.take ((offN ts n).length * 2), y.free = true) = True := eq_true fun y hy => (a2 y (List.mem_of_mem_take hy)).free
      have ho : (offN ts n).length ≤ ts.length := List.length_filter_le ..
      have p1 : (offN ts n).length + 1 ≤ maxLen := by unfold maxLen; omega
      have p2 : ((offN ts n).length + 1) * 16 ≤ 140737488355328 := by omega
      have n1 : ¬ H.length = i := by omega
      have n2 : ¬ i = H.length := by omega
      have n3 : ¬ H.length + 1 = i := by omega
      have n4 : ¬ i = H.length + 1 := by omega
      have hHk : ∀ j, j < H.length → (H ++ [[AV.int .i64 now, .sl false 2 (rowsT ts)], [.int .i64 0, .nil]])[j]? = H[j]? := fun j hj => List.getElem?_append_left hj
      have g1 := (hg.base (P' := H) (by simp) hHk).put2 (j := H.length) (r := [.int .i64 now, .bx i 0 (offN ts n).length c 2]) (fun i' o m c k e => by cases e; omega) (Nat.le_refl _) (bnd_dc hil)
      have hA' : (K.set H.length [.int .i64 now, .bx i 0 (offN ts n).length c 2])[i]? = some A := (getNX n1 _).trans hA
      by_cases hroom : (offN ts n).length + 1 ≤ c
      · have hle3 : ((offN ts n).length + 1) * 2 ≤ A.length := by rw [a4]; exact mul_rows hroom
        simp [Kcall, KP, hk0, hk1, hA, hfree, a3, hroom, hle3, n1, n2, n3, n4, List.getElem?_set_self', List.getElem?_set_ne]
        have g2 := g1.room hA' hroom ⟨n, 281474976710656⟩
        have g3 := g2.put2 (j := H.length) (r := [.int .i64 now, .bx i 0 ((offN ts n).length + 1) c 2]) (fun i' o m c k e => by cases e; omega) (Nat.le_refl _) (bnd_dc (by simpa using hil))
        have g4 := g3.put2 (j := H.length + 1) (r := [.int .i64 now, .bx i 0 ((offN ts n).length + 1) c 2]) (fun i' o m c k e => by cases e; omega) (Nat.le_succ _) (bnd_dc (by simpa using hil))
        have hq := hQ _ i c (by omega) (by omega) (by simpa using g4)
        exact aPost_upX (v := .tup [.agg [.int .i64 now, .bx i 0 ((offN ts n).length + 1) c 2], .int .i64 0]) (by simp [hk0, hk1, hA, n1, n2, n3, n4, List.getElem?_set_self', List.getElem?_set_ne]) (by simp; omega) (by simpa using g4.bd) (by simpa using hil) (by simpa using hq)
      · simp [Kcall, KP, hk0, hk1, hA, hfree, a3, hroom, p1, p2, n1, n2, n3, n4, List.getElem?_set_self', List.getElem?_set_ne]
        refine VGrow_intro fun c' hc1 hc2 => ?_
        simp [hk0, hk1, hA, n1, n2, n3, n4, getX hl0, getX hl1, setX hl0, setX hl1, List.getElem?_set_self', List.getElem?_set_ne]
        have g2 := g1.grow hA' hc1 hc2 ⟨n, 281474976710656⟩
        have g3 := g2.put2 (j := H.length) (r := [.int .i64 now, .bx K.length 0 ((offN ts n).length + 1) c' 2]) (fun i' o m c k e => by cases e; simp; omega) (Nat.le_refl _) (bnd_dc (by simp))
        have g4 := g3.put2 (j := H.length + 1) (r := [.int .i64 now, .bx K.length 0 ((offN ts n).length + 1) c' 2]) (fun i' o m c k e => by cases e; simp; omega) (Nat.le_succ _) (bnd_dc (by simp))
        have e4 : ∀ (R R' R2 L : List AV), (((K.set H.length R) ++ [L]).set H.length R').set (H.length + 1) R2 = (K.set H.length R').set (H.length + 1) R2 ++ [L] := fun R R' R2 L => by
          rw [List.set_append_left _ _ (by simpa using hl0), List.set_set, List.set_append_left _ _ (by simpa using hl1)]
        rw [e4] at g4
        have hq := hQ _ K.length c' (by omega) (by omega) (by simpa [zAl] using g4)
        exact aPost_upX (v := .tup [.agg [.int .i64 now, .bx K.length 0 ((offN ts n).length + 1) c' 2], .int .i64 0]) (by simp [hk0, hk1, hA, n1, n2, n3, n4, getX hl0, getX hl1, List.getElem?_set_self', List.getElem?_set_ne]) (by simp; omega) (by simpa [zAl] using g4.bd) (by simp) (by simpa using hq)
    · have hMb : ((now : Int) == 281474976710656) = false := beq_eq_false_iff_ne.2 (by omega)
      have hset : ((setT now t : Nat) : Int) = (now : Int) + 1 := by
        rw [hs0, Nat.min_eq_left (by omega)]; omega
      rw [e1, hset] at hQ
      simp [Try.ntmps16, Try.results16, List.replicate_succ, dwA, h1, h2, h3, w1, hMb]
      refine PC.bnd (dstopB_pc E _ now n ts hnd hl (fun K i c hg hBK _ => ?_))
      have hk0 : K[H.length]? = some [.int .i64 now, .sl false 2 (rowsT ts)] := (hg.keep _ (by simp)).trans (by simp)
      have hk1 : K[H.length + 1]? = some [.int .i64 0, .nil] := (hg.keep _ (by simp)).trans (by simp)
      have hl0 := ltX hk0
      have hl1 := ltX hk1
      obtain ⟨hi, hil⟩ := hg.bx.lt _ _ _ _ _ rfl
      have hi2 : H.length + 2 ≤ i := by simpa using hi
      obtain ⟨A, hA⟩ : ∃ A, K[i]? = some A := ⟨_, List.getElem?_eq_getElem hil⟩
      obtain ⟨a1, a2, a3, a4, a5, a6, a7, a8, a9⟩ := hg.bx.cells hA
      have hfree : (∀ y ∈ A.take ((offN ts n).length * 2), y.free = true) = True := eq_true fun y hy => (a2 y (List.mem_of_mem_take hy)).free
      have ho : (offN ts n).length ≤ ts.length := List.length_filter_le ..
      have p1 : (offN ts n).length + 1 ≤ maxLen := by unfold maxLen; omega
      have p2 : ((offN ts n).length + 1) * 16 ≤ 140737488355328 := by omega
      have n1 : ¬ H.length = i := by omega
      have n2 : ¬ i = H.length := by omega
      have n3 : ¬ H.length + 1 = i := by omega
      have n4 : ¬ i = H.length + 1 := by omega
      have hHk : ∀ j, j < H.length → (H ++ [[AV.int .i64 now, .sl false 2 (rowsT ts)], [.int .i64 0, .nil]])[j]? = H[j]? := fun j hj => List.getElem?_append_left hj
      have g1 := (hg.base (P' := H) (by simp) hHk).put2 (j := H.length) (r := [.int .i64 now, .bx i 0 (offN ts n).length c 2]) (fun i' o m c k e => by cases e; omega) (Nat.le_refl _) (bnd_dc hil)
      have hA' : (K.set H.length [.int .i64 now, .bx i 0 (offN ts n).length c 2])[i]? = some A := (getNX n1 _).trans hA
      by_cases hroom : (offN ts n).length + 1 ≤ c
      · have hle3 : ((offN ts n).length + 1) * 2 ≤ A.length := by rw [a4]; exact mul_rows hroom
        simp [Kcall, KP, hk0, hk1, hA, hfree, a3, hroom, hle3, n1, n2, n3, n4, List.getElem?_set_self', List.getElem?_set_ne]
        have g2 := g1.room hA' hroom ⟨n, (now : Int) + 1⟩
        have g3 := g2.put2 (j := H.length) (r := [.int .i64 now, .bx i 0 ((offN ts n).length + 1) c 2]) (fun i' o m c k e => by cases e; omega) (Nat.le_refl _) (bnd_dc (by simpa using hil))
        have g4 := g3.put2 (j := H.length + 1) (r := [.int .i64 now, .bx i 0 ((offN ts n).length + 1) c 2]) (fun i' o m c k e => by cases e; omega) (Nat.le_succ _) (bnd_dc (by simpa using hil))
        have hq := hQ _ i c (by omega) (by omega) (by simpa using g4)
        exact aPost_upX (v := .tup [.agg [.int .i64 now, .bx i 0 ((offN ts n).length + 1) c 2], .int .i64 0]) (by simp [hk0, hk1, hA, n1, n2, n3, n4, List.getElem?_set_self', List.getElem?_set_ne]) (by simp; omega) (by simpa using g4.bd) (by simpa using hil) (by simpa using hq)
      · simp [Kcall, KP, hk0, hk1, hA, hfree, a3, hroom, p1, p2, n1, n2, n3, n4, List.getElem?_set_self', List.getElem?_set_ne]
        refine VGrow_intro fun c' hc1 hc2 => ?_
        simp [hk0, hk1, hA, n1, n2, n3, n4, getX hl0, getX hl1, setX hl0, setX hl1, List.getElem?_set_self', List.getElem?_set_ne]
        have g2 := g1.grow hA' hc1 hc2 ⟨n, (now : Int) + 1⟩
        have g3 := g2.put2 (j := H.length) (r := [.int .i64 now, .bx K.length 0 ((offN ts n).length + 1) c' 2]) (fun i' o m c k e => by cases e; simp; omega) (Nat.le_refl _) (bnd_dc (by simp))
        have g4 := g3.put2 (j := H.length + 1) (r := [.int .i64 now, .bx K.length 0 ((offN ts n).length + 1) c' 2]) (fun i' o m c k e => by cases e; simp; omega) (Nat.le_succ _) (bnd_dc (by simp))
        have e4 : ∀ (R R' R2 L : List AV), (((K.set H.length R) ++ [L]).set H.length R').set (H.length + 1) R2 = (K.set H.length R').set (H.length + 1) R2 ++ [L] := fun R R' R2 L => by
          rw [List.set_append_left _ _ (by simpa using hl0), List.set_set, List.set_append_left _ _ (by simpa using hl1)]
        rw [e4] at g4
        have hq := hQ _ K.length c' (by omega) (by omega) (by simpa [zAl] using g4)
        exact aPost_upX (v := .tup [.agg [.int .i64 now, .bx K.length 0 ((offN ts n).length + 1) c' 2], .int .i64 0]) (by simp [hk0, hk1, hA, n1, n2, n3, n4, getX hl0, getX hl1, List.getElem?_set_self', List.getElem?_set_ne]) (by simp; omega) (by simpa [zAl] using g4.bd) (by simp) (by simpa using hq)
  · have hset : ((setT now t : Nat) : Int) = t := by unfold setT; rw [if_neg h3]; omega
    rw [e1, hset] at hQ
    simp [Try.ntmps16, Try.results16, List.replicate_succ, dwA, h1, h2, h3]
    refine PC.bnd (dstopB_pc E _ now n ts hnd hl (fun K i c hg hBK _ => ?_))
    have hk0 : K[H.length]? = some [.int .i64 now, .sl false 2 (rowsT ts)] := (hg.keep _ (by simp)).trans (by simp)
    have hk1 : K[H.length + 1]? = some [.int .i64 0, .nil] := (hg.keep _ (by simp)).trans (by simp)
    have hl0 := ltX hk0
    have hl1 := ltX hk1
    obtain ⟨hi, hil⟩ := hg.bx.lt _ _ _ _ _ rfl
    have hi2 : H.length + 2 ≤ i := by simpa using hi
    obtain ⟨A, hA⟩ : ∃ A, K[i]? = some A := ⟨_, List.getElem?_eq_getElem hil⟩
    obtain ⟨a1, a2, a3, a4, a5, a6, a7, a8, a9⟩ := hg.bx.cells hA
    have hfree : (∀ y ∈ A.take ((offN ts n).length * 2), y.free = true) = True := eq_true fun y hy => (a2 y (List.mem_of_mem_take hy)).free
    have ho : (offN ts n).length ≤ ts.length := List.length_filter_le ..
    have p1 : (offN ts n).length + 1 ≤ maxLen := by unfold maxLen; omega
    have p2 : ((offN ts n).length + 1) * 16 ≤ 140737488355328 := by omega
    have n1 : ¬ H.length = i := by omega
    have n2 : ¬ i = H.length := by omega
    have n3 : ¬ H.length + 1 = i := by omega
    have n4 : ¬ i = H.length + 1 := by omega
    have hHk : ∀ j, j < H.length → (H ++ [[AV.int .i64 now, .sl false 2 (rowsT ts)], [.int .i64 0, .nil]])[j]? = H[j]? := fun j hj => List.getElem?_append_left hj
    have g1 := (hg.base (P' := H) (by simp) hHk).put2 (j := H.length) (r := [.int .i64 now, .bx i 0 (offN ts n).length c 2]) (fun i' o m c k e => by cases e; omega) (Nat.le_refl _) (bnd_dc hil)
    have hA' : (K.set H.length [.int .i64 now, .bx i 0 (offN ts n).length c 2])[i]? = some A := (getNX n1 _).trans hA
    by_cases hroom : (offN ts n).length + 1 ≤ c
    · have hle3 : ((offN ts n).length + 1) * 2 ≤ A.length := by rw [a4]; exact mul_rows hroom
      simp [Kcall, KP, hk0, hk1, hA, hfree, a3, hroom, hle3, n1, n2, n3, n4, List.getElem?_set_self', List.getElem?_set_ne]
      have g2 := g1.room hA' hroom ⟨n, t⟩
      have g3 := g2.put2 (j := H.length) (r := [.int .i64 now, .bx i 0 ((offN ts n).length + 1) c 2]) (fun i' o m c k e => by cases e; omega) (Nat.le_refl _) (bnd_dc (by simpa using hil))
      have g4 := g3.put2 (j := H.length + 1) (r := [.int .i64 now, .bx i 0 ((offN ts n).length + 1) c 2]) (fun i' o m c k e => by cases e; omega) (Nat.le_succ _) (bnd_dc (by simpa using hil))
      have hq := hQ _ i c (by omega) (by omega) (by simpa using g4)
      exact aPost_upX (v := .tup [.agg [.int .i64 now, .bx i 0 ((offN ts n).length + 1) c 2], .int .i64 0]) (by simp [hk0, hk1, hA, n1, n2, n3, n4, List.getElem?_set_self', List.getElem?_set_ne]) (by simp; omega) (by simpa using g4.bd) (by simpa using hil) (by simpa using hq)
    · simp [Kcall, KP, hk0, hk1, hA, hfree, a3, hroom, p1, p2, n1, n2, n3, n4, List.getElem?_set_self', List.getElem?_set_ne]
      refine VGrow_intro fun c' hc1 hc2 => ?_
      simp [hk0, hk1, hA, n1, n2, n3, n4, getX hl0, getX hl1, setX hl0, setX hl1, List.getElem?_set_self', List.getElem?_set_ne]
      have g2 := g1.grow hA' hc1 hc2 ⟨n, t⟩
      have g3 := g2.put2 (j := H.length) (r := [.int .i64 now, .bx K.length 0 ((offN ts n).length + 1) c' 2]) (fun i' o m c k e => by cases e; simp; omega) (Nat.le_refl _) (bnd_dc (by simp))
      have g4 := g3.put2 (j := H.length + 1) (r := [.int .i64 now, .bx K.length 0 ((offN ts n).length + 1) c' 2]) (fun i' o m c k e => by cases e; simp; omega) (Nat.le_succ _) (bnd_dc (by simp))
      have e4 : ∀ (R R' R2 L : List AV), (((K.set H.length R) ++ [L]).set H.length R').set (H.length + 1) R2 = (K.set H.length R').set (H.length + 1) R2 ++ [L] := fun R R' R2 L => by
        rw [List.set_append_left _ _ (by simpa using hl0), List.set_set, List.set_append_left _ _ (by simpa using hl1)]
      rw [e4] at g4
      have hq := hQ _ K.length c' (by omega) (by omega) (by simpa [zAl] using g4)
      exact aPost_upX (v := .tup [.agg [.int .i64 now, .bx K.length 0 ((offN ts n).length + 1) c' 2], .int .i64 0]) (by simp [hk0, hk1, hA, n1, n2, n3, n4, getX hl0, getX hl1, List.getElem?_set_self', List.getElem?_set_ne]) (by simp; omega) (by simpa [zAl] using g4.bd) (by simp) (by simpa using hq)
theorem dset_pc (now : Nat) (ts : List Tm) (n t : Int) (hnd : ts.Pairwise fun x y => x.n ≠ y.n) (hl : ts.length ≤ 1000000000) (hnow : now ≤ 281474976710656) (hB : BndH H.length H)
    (hQ : Q (.tup [dwA now (setM now ts n t), .int .i64 (errSet n t)]) H) : PC Try.prog E 16 [dwA now ts, .int .i64 n, .int .i64 t] H Q := by
  refine PC.sees hB (dsetB_pc E _ now ts n t hnd hl hnow (fun h => ?_) (fun K i c h1 h2 hg => ?_))
  · have e : setM now ts n t = ts := if_pos h
    rw [e] at hQ
    exact ⟨_, [dwA now ts, .int .i64 (errSet n t)], rfl, Nat.le_refl _, fun _ _ => rfl, ⟨.inl (.inl ⟨rfl, bnd_dwA _ _ _⟩), .inl (.inl ⟨rfl, .int _ _⟩), trivial⟩, hQ⟩
  · have e : errSet n t = 0 := by unfold errSet; rw [if_neg (by omega), if_neg (by omega)]
    rw [e] at hQ
    exact ⟨_, [dwA now (setM now ts n t), .int .i64 0], rfl, hg.len, hg.keep, ⟨.inr ⟨_, _, rfl, rfl, .inl ⟨rfl, .int _ _⟩, hg.see (Nat.le_refl _), trivial⟩, .inl (.inl ⟨rfl, .int _ _⟩), trivial⟩, hQ⟩
theorem dnew_pc (now : Int) (hQ0 : badT 0 now = true → Q (.tup [dwA 0 [], .int .i64 250]) H) (hQ : badT 0 now = false → Q (.tup [dwA now [], .int .i64 0]) H) : PC Try.prog E 15 [.int .i64 now] H Q := by
  refine wnilT (P := Try.prog) ?_
  refine pc_enter Try.func15 rfl [] [] (by kernel_rfl) (fun hB => ?_)
  by_cases h1 : now < 0
  · have hq := hQ0 (by unfold badT; simp [h1])
    simp [Try.ntmps15, Try.results15, List.replicate_succ, h1]
    exact aPost_lawX hB (by simp) (fun j hj => List.getElem?_append_left hj) (v0 := .tup [.agg [.int .i64 0, .nil], .int .i64 250]) (by simp) (by simp) ⟨_, [.int .i64 0, .sl false 2 []], _, rfl, ⟨.inl rfl, .inr ⟨rfl, _, _, rfl⟩, trivial⟩, by simp [AV.free], hq⟩
  by_cases h2 : 281474976710656 < now
  · have hq := hQ0 (by unfold badT; simp [h2])
    simp [Try.ntmps15, Try.results15, List.replicate_succ, h1, h2]
    exact aPost_lawX hB (by simp) (fun j hj => List.getElem?_append_left hj) (v0 := .tup [.agg [.int .i64 0, .nil], .int .i64 250]) (by simp) (by simp) ⟨_, [.int .i64 0, .sl false 2 []], _, rfl, ⟨.inl rfl, .inr ⟨rfl, _, _, rfl⟩, trivial⟩, by simp [AV.free], hq⟩
  · have hq := hQ (by unfold badT; simp; omega)
    simp [Try.ntmps15, Try.results15, List.replicate_succ, h1, h2]
    exact aPost_lawX hB (by simp) (fun j hj => List.getElem?_append_left hj) (v0 := .tup [.agg [.int .i64 now, .nil], .int .i64 0]) (by simp) (by simp) ⟨_, [.int .i64 now, .sl false 2 []], _, rfl, ⟨.inl rfl, .inr ⟨rfl, _, _, rfl⟩, trivial⟩, by simp [AV.free], hq⟩
end
end Go.Proofs.Ytijnohcaeedffaa

