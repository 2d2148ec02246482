/- Part 11 of the texts below the law: the abstract machine, the functions that it walks, what they compute. -/
import Derived.Test.YtcdkcaocfioigaaGreatDoorPe10
import Derived.Test.YtcdkcaocfioigaaGreatDoorCards
import Derived.Test.YtcdkcaocfioigaaGreatDoorTie
import Derived.Deep.DeepHandedRow
import Derived.Lib.LaidTab
import Derived.ChangeMaps5
import Derived.Lay
import Derived.Stop.LaidErr
import Derived.JoinedCond
set_option linter.unusedVariables false
set_option linter.unnecessarySimpa false
set_option linter.unusedSimpArgs false
set_option linter.unusedSectionVars false
set_option maxRecDepth 100000
namespace Go.Proofs.YtcdkcaocfioigaaGreatDoor
open Go Go.RowKit Go.Proofs

/-- Nils in the struct that comes back second are seen as empty lists. -/
theorem nilT2_rel {w : World} {β : Nat → Nat} {Rd : Nat → Nat → Prop} {N : Nat} {a c : AV} {l l' : List AV} {u : Value} (hB : Bnd N (.tup [a, .agg l, c])) (h : Rel w β Rd (.tup [a, .agg l, c]) u) (hn : nilL l l') (hf' : ∀ x ∈ l', x.free = true) :
    Rel w β Rd (.tup [a, .agg l', c]) u ∧ Bnd N (.tup [a, .agg l', c]) := by
  cases hB with
  | tup _ hB =>
  cases h with
  | tup _ vs hl hf hr =>
    have hv : vs[1]? = some vs[1]! := by
      have : 1 < vs.size := by simp at hl; omega
      simp [this]
    obtain ⟨k1, k2⟩ := aggNil_rel (hB (.agg l) (by simp)) (hr 1 (.agg l) _ rfl hv) hn hf'
    refine ⟨.tup _ vs (by simpa using hl) (fun x hx => ?_) (fun j x u hx hu => ?_), .tup _ fun x hx => ?_⟩
    · simp at hx
      rcases hx with rfl | rfl | rfl
      · exact hf _ (by simp)
      · rfl
      · exact hf _ (by simp)
    · match j with
      | 0 => exact hr 0 x u hx hu
      | 1 => simp at hx; subst hx; rw [hv] at hu; cases hu; exact k1
      | 2 => exact hr 2 x u hx hu
      | j + 3 => simp at hx
    · simp at hx
      rcases hx with rfl | rfl | rfl
      · exact hB _ (by simp)
      · exact k2
      · exact hB _ (by simp)
theorem PC.nilT2 {P : Program} {E : Env} {f : FuncId} {args : List AV} {H : Hp} {Q : AV → Hp → Prop} (h : PC P E f args H (fun v H' => ∃ a l l' c, v = .tup [a, .agg l, c] ∧ nilL l l' ∧ (∀ x ∈ l', x.free = true) ∧ Q (.tup [a, .agg l', c]) H')) : PC P E f args H Q :=
  ⟨h.1, fun w β Rd Ow cargs h1 h2 h3 h4 => (h.2 w β Rd Ow cargs h1 h2 h3 h4).mono fun e w' ⟨u, v, H', β', Rd', Ow', he, hQ, hp⟩ => by
    obtain ⟨a, l, l', c, rfl, hn, hf, hQ⟩ := hQ
    obtain ⟨k1, k2⟩ := nilT2_rel hp.bnd hp.rel hn hf
    exact ⟨u, _, H', β', Rd', Ow', he, hQ, ⟨k1, k2, fun g hg => (by cases hg), rfl, hp.hr, hp.old, hp.len, hp.keep, hp.frame, hp.os, hp.tape, hp.output, hp.size⟩⟩⟩
section
variable (E : Env) (H : Hp) (Q : AV → Hp → Prop)
theorem drnext_pc (r : RM) (hQ : Q (.tup [.agg (drA (nextM r).1), .agg (nextM r).2.1.avs, .bool (nextM r).2.2]) H) : PC Tryz.prog E 68 [.agg (drA r)] H Q := by
  have fin : ∀ a : RM × Rep × Bool, nextM r = a → Q (.tup [.agg (drA a.1), .agg a.2.1.avs, .bool a.2.2]) H := fun a ha => ha ▸ hQ
  refine PC.nilT2 ?_
  refine pc_enterF (fun i => i = H.length ∨ i = H.length + 3) Tryz.func68 rfl [] [(5, [2, 2, 2, 2])] (by kernel_rfl) (fun E' hS' h0' hF' hB => ?_)
  cases hd : r.done with
  | nil =>
    have e : nextM r = (r, rep0, false) := by unfold nextM; rw [hd]
    have hs0 : repsA ([] : List Rep) = [] := rfl
    simp [Tryz.ntmps68, Tryz.results68, List.replicate_succ, drA, hd, hs0]
    exact aPost_same hB (v0 := .tup [.agg (drA r), .agg rzero, .bool false]) (by simp [drA, rzero, hd, hs0]) (nilV_refl _) (by simp [drA, rzero, bnd_strs, bnd_reps]) ⟨_, _, _, _, rfl, rzero_nil, avs_free _, fin _ e⟩
  | cons y d =>
    have e : nextM r = ({ r with done := d }, y, true) := by unfold nextM; rw [hd]
    have hrs : repsA (y :: d) = y.avs :: repsA d := rfl
    have hlat : lat (y.avs :: repsA d) 0 = some y.avs := rfl
    have hdr : (y.avs :: repsA d).drop 1 = repsA d := rfl
    have htk : List.take d.length (repsA d) = repsA d := List.take_of_length_le (by simp)
    have hl0 : (((d.length : Int) + 1) == 0) = false := by rw [beq_eq_false_iff_ne]; omega
    simp [Tryz.ntmps68, Tryz.results68, List.replicate_succ, drA, hd, hrs, hlat, hl0, hdr, htk, Rep.avs, hS']
    exact aPost_same hB (v0 := .tup [.agg (drA { r with done := d }), .agg y.avs, .bool true]) (by simp [drA, Rep.avs, hdr, htk]) (nilV_refl _) (by simp [drA, Rep.avs, bnd_strs, bnd_reps, bnd_flds]) ⟨_, _, _, _, rfl, nilL_refl _, avs_free _, fin _ e⟩
end
/-- A reader that is over holds no bytes. -/
def ovR (r : RM) : Prop := r.over = true → r.bytes = []
theorem feed_doc {r : RM} (hm : 0 ≤ r.most) (ho : ovR r) (s : List UInt8) : dfeedM r s = feedM r s := by
  unfold dfeedM feedM
  rw [if_neg (by omega)]
  by_cases h : r.err ≠ 0 ∨ r.ended = true
  · rw [if_pos h, if_pos h]
  rw [if_neg h, if_neg h]
  have hen : r.ended = false := by cases he : r.ended with
    | true => exact absurd (.inr he) h
    | false => rfl
  have he0 : r.err = 0 := Classical.byContradiction fun e => h (.inl e)
  cases hov : r.over with
  | true =>
    have hb := ho hov
    have e : drdM (r.put s) = r := by
      unfold drdM
      rw [if_pos (show (r.put s).over = true from hov)]
      show ({ r with bytes := [] } : RM) = r
      rw [← hb]
    rw [if_pos rfl, e, he0]
  | false =>
    have e : drdM (r.put s) = readA (r.put s) := by
      unfold drdM
      rw [if_neg (by show ¬ r.over = true; rw [hov]; simp), if_neg (by show ¬ r.ended = true; rw [hen]; simp)]
    rw [if_neg (by simp), e]
theorem end_doc {r : RM} (hm : 0 ≤ r.most) (ho : ovR r) : dendM r = endM r := by
  unfold dendM endM
  rw [if_neg (by omega)]
  by_cases h : r.err ≠ 0 ∨ r.ended = true
  · rw [if_pos h, if_pos h]
  rw [if_neg h, if_neg h]
  have key : drdM { r with ended := true } = restM (if r.over = true then { r with ended := true } else readA { r with ended := true }) := by
    obtain ⟨by1, er, ov, en, mo, ak, dn⟩ := r
    cases ov with
    | true =>
      have hb : by1 = [] := ho rfl
      subst hb
      simp [drdM, restM]
    | false => simp [drdM]
  rw [key]
end Go.Proofs.YtcdkcaocfioigaaGreatDoor

set_option linter.unusedVariables false
set_option linter.unusedSimpArgs false
namespace Go.Proofs.YtcdkcaocfioigaaGreatDoor
open Go Go.RowKit

def noCall (o : Oper) : Bool := match o.op with
  | .call _ => false
  | _ => true
/-- THE TEST, but for the two operations at i and i + 1. -/
def twoA (i : Nat) (B : List Tmp) (pf : List Nat) (ops : Array Oper) : Bool :=
  let M := (Region.before ops).toList
  backB ops && closeB M ops && decide (i + 1 < ops.size) && ops.toList.all noCall &&
  ((List.range ops.size).all fun j => match ops[j]? with
    | some oj => ((List.range j).all fun k => (M.getD j 0).testBit k || (k == i && j == i + 1) || match ops[k]? with
      | some ok => okP B ops ok oj (pf.getD k 0) (pf.getD j 0)
      | none => false)
    | none => false)
/-- The text's order, with i and i + 1 changed. -/
def swO (n i : Nat) : List Nat := List.range i ++ (i + 1) :: i :: List.range' (i + 2) (n - i - 2)
theorem split_at {σ : List Nat} (hn : σ.Nodup) {k : Nat} (hk : k ∈ σ) {p : Nat → Bool} (hp : p k = true) : ∃ a b, σ = a ++ k :: b ∧ σ.filter p = a.filter p ++ k :: b.filter p ∧ σ.filter (fun i => p i && decide (i ≠ k)) = a.filter p ++ b.filter p := by
  obtain ⟨a, b, rfl⟩ := List.append_of_mem hk
  rw [List.nodup_append] at hn
  obtain ⟨_, h2, h3⟩ := hn
  rw [List.nodup_cons] at h2
  refine ⟨a, b, rfl, ?_, ?_⟩
  · rw [List.filter_append, List.filter_cons_of_pos hp]
  · rw [List.filter_append, List.filter_cons_of_neg (by simp)]
    congr 1
    · refine List.filter_congr fun x hx => ?_
      have : x ≠ k := fun e => h3 x hx k (by simp) e
      simp [this]
    · refine List.filter_congr fun x hx => ?_
      have : x ≠ k := fun e => h2.1 (e ▸ hx)
      simp [this]
theorem range_cut {n i : Nat} (h : i + 1 < n) : List.range n = List.range i ++ i :: (i + 1) :: List.range' (i + 2) (n - i - 2) := by
  obtain ⟨d, rfl⟩ : ∃ d, n = i + (d + 2) := ⟨n - i - 2, by omega⟩
  rw [List.range_add, show i + (d + 2) - i - 2 = d by omega]
  congr 1
  rw [List.range_eq_range', List.map_add_range', Nat.add_zero, List.range'_succ, List.range'_succ]
theorem swO_pair {n i : Nat} : (swO n i).Pairwise fun x y => (x < y ∧ ¬ (x = i ∧ y = i + 1)) ∨ (x = i + 1 ∧ y = i) := by
  unfold swO
  rw [List.pairwise_append]
  refine ⟨List.pairwise_lt_range.imp_of_mem fun {x y} hx hy h => ?_, ?_, ?_⟩
  · rw [List.mem_range] at hx hy
    exact .inl ⟨h, by omega⟩
  · rw [List.pairwise_cons, List.pairwise_cons]
    refine ⟨fun y hy => ?_, fun y hy => ?_, ?_⟩
    · rcases List.mem_cons.1 hy with rfl | hy
      · exact .inr ⟨rfl, rfl⟩
      · rw [List.mem_range'_1] at hy; exact .inl ⟨by omega, by omega⟩
    · rw [List.mem_range'_1] at hy; exact .inl ⟨by omega, by omega⟩
    · refine List.Pairwise.imp_of_mem (R := (· < ·)) (fun {x y} hx hy h => ?_) (by exact List.pairwise_lt_range')
      rw [List.mem_range'_1] at hx hy
      exact .inl ⟨h, by omega⟩
  · intro x hx y hy
    rw [List.mem_range] at hx
    rcases List.mem_cons.1 hy with rfl | hy
    · exact .inl ⟨by omega, by omega⟩
    rcases List.mem_cons.1 hy with rfl | hy
    · exact .inl ⟨by omega, by omega⟩
    · rw [List.mem_range'_1] at hy; exact .inl ⟨by omega, by omega⟩
theorem swO_nodup {n i : Nat} : (swO n i).Nodup := swO_pair.imp fun {x y} h => by omega
theorem swO_mem {n i k : Nat} (h : i + 1 < n) : k ∈ swO n i ↔ k < n := by
  unfold swO
  rw [List.mem_append, List.mem_cons, List.mem_cons, List.mem_range, List.mem_range'_1]
  omega
/-- Behind the second the two orders are one. -/
theorem swO_same {n i : Nat} (h : i + 1 < n) (p : Nat → Bool) (hp : p (i + 1) = false ∨ p i = false) : (swO n i).filter p = (List.range n).filter p := by
  rw [range_cut h]
  unfold swO
  rw [List.filter_append, List.filter_append]
  congr 1
  rcases hp with hp | hp
  · rw [List.filter_cons_of_neg (by simp [hp])]
    cases hi : p i
    · rw [List.filter_cons_of_neg (by simp [hi]), List.filter_cons_of_neg (by simp [hi]), List.filter_cons_of_neg (by simp [hp])]
    · rw [List.filter_cons_of_pos hi, List.filter_cons_of_pos hi, List.filter_cons_of_neg (by simp [hp])]
  · cases hi : p (i + 1)
    · rw [List.filter_cons_of_neg (by simp [hi]), List.filter_cons_of_neg (by simp [hp]), List.filter_cons_of_neg (by simp [hp]), List.filter_cons_of_neg (by simp [hi])]
    · rw [List.filter_cons_of_pos hi, List.filter_cons_of_neg (by simp [hp]), List.filter_cons_of_neg (by simp [hp]), List.filter_cons_of_pos hi]
section
variable {P : Program} {B : List Tmp} {o : Oper} {all : Array Oper} {fr : List AV} {H : Hp} {E : Env} {W : World} {F : Nat → Prop} {Rd0 : Nat → Nat → Prop} {w : World} {β0 : Nat → Nat} {n : Nat} {pf : List Nat} {K : List AV → Hp → Prop}
theorem vop_and {p : Nat} {K1 K2 : List AV → Hp → Prop} (hn : noCall o = true) (h1 : vop P E B all p o K1 fr H) (h2 : vop P E B all p o K2 fr H) : vop P E B all p o (fun fr H => K1 fr H ∧ K2 fr H) fr H := by
  have hc : acall fr o = none := by
    unfold acall
    unfold noCall at hn
    split at hn
    · cases hn
    · split
      · rename_i h1 _ c h2
        exact absurd h2 (h1 c)
      · rfl
  have e : ∀ K, vop P E B all p o K fr H = VWant (wantedA all fr o) (LP p E.S fr o ∧ bindA (aop P B fr H o) fun v fr' H' => K (aput fr' o.dst v) H') (K (aput fr o.dst (.raw undef)) H) := fun K => by
    unfold vop
    rw [hc, VCall_none]
  rw [e] at h1 h2 ⊢
  cases hw : wantedA all fr o with
  | none => rw [hw] at h1; exact h1.elim
  | some b =>
    rw [hw] at h1 h2
    cases b with
    | false => exact ⟨h1, h2⟩
    | true =>
      obtain ⟨g1, g2⟩ := h1
      obtain ⟨_, g3⟩ := h2
      refine ⟨g1, ?_⟩
      cases ha : aop P B fr H o with
      | none => rw [ha] at g2; exact g2.elim
      | some x =>
        rw [ha] at g2 g3
        obtain ⟨v, fr', H'⟩ := x
        exact ⟨g2, g3⟩
theorem twoA_spec {i : Nat} (h : twoA i B pf all = true) : backB all = true ∧ closeB (Region.before all).toList all = true ∧ i + 1 < all.size ∧ (∀ (j : Nat) (o : Oper), all[j]? = some o → noCall o = true) ∧
    ∀ (k j : Nat) (ok oj : Oper), k < j → all[k]? = some ok → all[j]? = some oj → ((Region.before all).toList.getD j 0).testBit k = false → ¬ (k = i ∧ j = i + 1) → okP B all ok oj (pf.getD k 0) (pf.getD j 0) = true := by
  unfold twoA at h
  simp only [Bool.and_eq_true, List.all_eq_true, List.mem_range, decide_eq_true_eq] at h
  obtain ⟨⟨⟨⟨h1, h2⟩, h3⟩, h4⟩, h5⟩ := h
  refine ⟨h1, h2, h3, fun j o ho => h4 o (by simpa using Array.mem_of_getElem? ho), fun k j ok oj hkj hk hj hb hne => ?_⟩
  have := h5 j (Array.getElem?_eq_some_iff.1 hj).1
  rw [hj] at this
  simp only [List.all_eq_true, List.mem_range] at this
  have := this k hkj
  rw [hb, hk] at this
  simp only [Bool.false_or, Bool.or_eq_true, Bool.and_eq_true, beq_iff_eq] at this
  exact this.resolve_left hne
/-- BOTH ORDERS. -/
theorem two_abs {i : Nat} {Q : Exit → Act → World → Prop} (hB : twoA i B pf all = true) (hK : ∀ fr H a w, St E W F Rd0 β0 n fr H a w → K fr H → Q .normal a w) :
    ∀ (fuel : Nat) (listed : Array Bool) (fr : List AV) (H : Hp) (a : Act) (w : World), listed.size = all.size → Closed all listed → (toCome all.size listed).length = fuel → St E W F Rd0 β0 n fr H a w →
      atl P E B all pf K (toCome all.size listed) fr H → (listed.getD i true = false → listed.getD (i + 1) true = false → atl P E B all pf K ((swO all.size i).filter fun x => !listed.getD x true) fr H) → wpAny P .any all Q fuel listed a w := by
  obtain ⟨hb, hc, hi1, hnc, hsw⟩ := twoA_spec hB
  intro fuel
  induction fuel with
  | zero =>
    intro listed fr H a w hs hcl hf hst h _
    have h0 := List.eq_nil_of_length_eq_zero hf
    rw [h0] at h
    refine ⟨?_, hK _ _ _ _ hst h⟩
    rcases hr : Region.ready .any all listed with _ | ⟨x, r⟩
    · rfl
    · exfalso
      have hx : x ∈ Region.ready .any all listed := by rw [hr]; exact List.mem_cons_self ..
      rw [mem_ready] at hx
      obtain ⟨h1, o, ho, _⟩ := hx
      have : x ∈ toCome all.size listed := mem_toCome.2 ⟨(Array.getElem?_eq_some_iff.1 ho).1, h1⟩
      rw [h0] at this
      cases this
  | succ fuel ih =>
    intro listed fr H a w hs hcl hf hst h h'
    have getf : ∀ j, j < all.size → listed.getD j false = listed.getD j true := fun j hj => by
      simp [Array.getD, hs, hj]
    refine ⟨fun hr => ?_, fun j hj => ?_⟩
    · exfalso
      rcases hl : toCome all.size listed with _ | ⟨x, r⟩
      · rw [hl] at hf; cases hf
      · have hx : x ∈ toCome all.size listed := by rw [hl]; exact List.mem_cons_self ..
        obtain ⟨h1, h2⟩ := mem_toCome.1 hx
        have : x ∈ Region.ready .any all listed := by
          rw [mem_ready]
          refine ⟨h2, _, Array.getElem?_eq_getElem h1, fun e he hbe => ?_⟩
          have hex := back_spec hb (Array.getElem?_eq_getElem h1) he hbe
          cases hle : listed.getD e.on false
          · exfalso
            have hle' : listed.getD e.on true = false := by rw [← getf _ (by omega)]; exact hle
            have hm : e.on ∈ toCome all.size listed := mem_toCome.2 ⟨by omega, hle'⟩
            have hsorted : (toCome all.size listed).Pairwise (· < ·) := List.Pairwise.sublist List.filter_sublist List.pairwise_lt_range
            rw [hl] at hm hsorted
            rcases List.mem_cons.1 hm with h' | h'
            · omega
            · have := (List.pairwise_cons.1 hsorted).1 _ h'
              omega
          · rfl
        rw [hr] at this
        cases this
    · have hj' := hj
      rw [mem_ready] at hj'
      obtain ⟨h1, o, ho, hall⟩ := hj'
      have hlt : j < all.size := (Array.getElem?_eq_some_iff.1 ho).1
      have hpj : (!listed.getD j true) = true := by rw [h1]; rfl
      have hset : ∀ σ : List Nat, (∀ x ∈ σ, x < all.size) → (σ.filter fun x => !(listed.setIfInBounds j true).getD x true) = σ.filter fun x => (!listed.getD x true) && decide (x ≠ j) := fun σ hσ => by
        apply List.filter_congr
        intro x hx
        by_cases hxj : x = j
        · subst hxj
          simp [Array.getD, hs, hlt]
        · rw [getD_set_ne true (Ne.symm hxj)]
          simp [hxj]
      have setT : ∀ x, listed.getD x true = true → (listed.setIfInBounds j true).getD x true = true := fun x hx => by
        by_cases hxj : x = j
        · subst hxj
          simp [Array.getD, hs, hlt]
        · rw [getD_set_ne true (Ne.symm hxj)]; exact hx
      have move : ∀ (σ : List Nat), σ.Nodup → (∀ x, x ∈ σ ↔ x < all.size) → (∀ a b x, σ = a ++ j :: b → x ∈ a → listed.getD x true = false → x < j ∧ ¬ (x = i ∧ j = i + 1)) → atl P E B all pf K (σ.filter fun x => !listed.getD x true) fr H →
          vop P E B all (pf.getD j 0) o (atl P E B all pf K (σ.filter fun x => (!listed.getD x true) && decide (x ≠ j))) fr H := fun σ hn hmem hlo h => by
        obtain ⟨l, m, e0, e1, e2⟩ := split_at hn ((hmem j).2 hlt) (p := fun x => !listed.getD x true) hpj
        rw [e1] at h
        rw [e2]
        refine front_any ho (fun x hx => ?_) hst h
        obtain ⟨hx1, hx2⟩ := List.mem_filter.1 hx
        have hxl : listed.getD x true = false := by simpa using hx2
        obtain ⟨hxj, hne⟩ := hlo l m x e0 hx1 hxl
        have hxo : all[x]? = some all[x] := Array.getElem?_eq_getElem (by omega)
        refine ⟨_, hxo, hsw x j _ o hxj hxo ho ?_ hne⟩
        cases hbit : ((Region.before all).toList.getD j 0).testBit x
        · rfl
        · exfalso
          have := fore_listed hb hc hcl j o ho hall x hxj hbit
          rw [getf x (by omega), hxl] at this
          cases this
      have hmem0 : ∀ x, x ∈ List.range all.size ↔ x < all.size := fun x => List.mem_range
      have hmem1 : ∀ x, x ∈ swO all.size i ↔ x < all.size := fun x => swO_mem hi1
      have ord0 : ∀ a b x, List.range all.size = a ++ j :: b → x ∈ a → x < j := fun a b x e hx => by
        have hp : (List.range all.size).Pairwise (· < ·) := List.pairwise_lt_range
        rw [e, List.pairwise_append] at hp
        exact hp.2.2 x hx j (by simp)
      have ord1 : ∀ a b x, swO all.size i = a ++ j :: b → x ∈ a → (x < j ∧ ¬ (x = i ∧ j = i + 1)) ∨ (x = i + 1 ∧ j = i) := fun a b x e hx => by
        have hp := swO_pair (n := all.size) (i := i)
        rw [e, List.pairwise_append] at hp
        exact hp.2.2 x hx j (by simp)
      have next : ∀ {fr' H' a' w'}, St E W F Rd0 β0 n fr' H' a' w' → atl P E B all pf K (toCome all.size (listed.setIfInBounds j true)) fr' H' →
          ((listed.setIfInBounds j true).getD i true = false → (listed.setIfInBounds j true).getD (i + 1) true = false → atl P E B all pf K ((swO all.size i).filter fun x => !(listed.setIfInBounds j true).getD x true) fr' H') → wpAny P .any all Q fuel (listed.setIfInBounds j true) a' w' := fun {fr' H' a' w'} hst' k0 k1 => by
        refine ih _ fr' H' a' w' (by simpa using hs) ?_ ?_ hst' k0 k1
        · intro k ok hok hk e he hbe
          by_cases hkj : k = j
          · subst hkj
            obtain rfl : ok = o := by rw [ho] at hok; simpa using hok.symm
            exact getD_set_true (hall e he hbe)
          · rw [getD_set_ne false (Ne.symm hkj)] at hk
            exact getD_set_true (hcl k ok hok hk e he hbe)
        · obtain ⟨l, m, e0, e1, e2⟩ := split_at List.nodup_range ((hmem0 j).2 hlt) (p := fun x => !listed.getD x true) hpj
          have e3 : toCome all.size (listed.setIfInBounds j true) = l.filter (fun x => !listed.getD x true) ++ m.filter (fun x => !listed.getD x true) := (hset _ fun x hx => (hmem0 x).1 hx).trans e2
          have e4 : toCome all.size listed = l.filter (fun x => !listed.getD x true) ++ j :: m.filter (fun x => !listed.getD x true) := e1
          rw [e4] at hf
          rw [e3]
          simp only [List.length_append, List.length_cons] at hf ⊢
          omega
      have hset0 := hset (List.range all.size) fun x hx => (hmem0 x).1 hx
      have hset1 := hset (swO all.size i) fun x hx => (hmem1 x).1 hx
      by_cases hsp : j = i + 1 ∧ listed.getD i true = false
      · obtain ⟨hji, hil⟩ := hsp
        have h2 := move (swO all.size i) swO_nodup hmem1 (fun a b x e hx _ => (ord1 a b x e hx).resolve_right (by omega)) (h' hil (hji ▸ h1))
        refine vop_wpOp ho hst h2 fun fr' H' a' w' hst' k => next hst' ?_ (fun _ hk => ?_)
        · show atl P E B all pf K ((List.range all.size).filter fun x => !(listed.setIfInBounds j true).getD x true) fr' H'
          rw [hset0]
          rw [swO_same hi1 _ (.inl (by rw [hji]; simp))] at k
          exact k
        · exfalso
          rw [← hji] at hk
          simp [Array.getD, hs, hlt] at hk
      · have h2 := move (List.range all.size) List.nodup_range hmem0 (fun a b x e hx hxl => ⟨ord0 a b x e hx, fun hh => hsp ⟨hh.2, hh.1 ▸ hxl⟩⟩) h
        by_cases hij : j = i ∨ listed.getD i true = true ∨ listed.getD (i + 1) true = true
        · refine vop_wpOp ho hst h2 fun fr' H' a' w' hst' k => next hst' (by
            show atl P E B all pf K ((List.range all.size).filter fun x => !(listed.setIfInBounds j true).getD x true) fr' H'
            rw [hset0]; exact k) (fun hk1 hk2 => ?_)
          exfalso
          rcases hij with hij | hij | hij
          · rw [← hij] at hk1
            simp [Array.getD, hs, hlt] at hk1
          · rw [setT _ hij] at hk1; cases hk1
          · rw [setT _ hij] at hk2; cases hk2
        · have g1 : j ≠ i := fun e => hij (.inl e)
          have g2 : listed.getD i true = false := by cases hh : listed.getD i true with
            | true => exact absurd (.inr (.inl hh)) hij
            | false => rfl
          have g3 : listed.getD (i + 1) true = false := by cases hh : listed.getD (i + 1) true with
            | true => exact absurd (.inr (.inr hh)) hij
            | false => rfl
          have h3 := move (swO all.size i) swO_nodup hmem1 (fun a b x e hx _ => (ord1 a b x e hx).resolve_right (by omega)) (h' g2 g3)
          refine vop_wpOp ho hst (vop_and (hnc j o ho) h2 h3) fun fr' H' a' w' hst' k => next hst' (by
            show atl P E B all pf K ((List.range all.size).filter fun x => !(listed.setIfInBounds j true).getD x true) fr' H'
            rw [hset0]; exact k.1) (fun _ _ => by rw [hset1]; exact k.2)
theorem region_two {i id : Nat} {Q : Exit → Act → World → Prop} {a : Act} (hm : P.follows .mixedOrders = true) (hB : twoA i B pf all = true) (hs : St E W F Rd0 β0 n fr H a w) (h0 : atl P E B all pf K (List.range all.size) fr H) (h1 : atl P E B all pf K (swO all.size i) fr H)
    (hK : ∀ fr H a w, St E W F Rd0 β0 n fr H a w → K fr H → Q .normal a w) : (Code.region id all true).wp P Q a w := by
  refine wp_region_any hm ?_
  have hrep : ∀ i, i < all.size → (Array.replicate all.size false).getD i true = false := fun i hi => by simp [Array.getD, hi]
  have hto : toCome all.size (Array.replicate all.size false) = List.range all.size := by
    unfold toCome
    rw [List.filter_eq_self.2 (fun i hi => by rw [hrep i (by simpa using hi)]; rfl)]
  obtain ⟨_, _, hi1, _, _⟩ := twoA_spec hB
  have hto1 : ((swO all.size i).filter fun x => !(Array.replicate all.size false).getD x true) = swO all.size i :=
    List.filter_eq_self.2 (fun x hx => by rw [hrep x ((swO_mem hi1).1 hx)]; rfl)
  refine two_abs hB hK _ _ fr H a _ (by simp) ?_ ?_ hs.drew' (by rw [hto]; exact h0) (fun _ _ => by rw [hto1]; exact h1)
  · intro j o _ hl
    exfalso
    have : (Array.replicate all.size false).getD j false = false := by
      simp only [Array.getD]
      split <;> simp
    rw [this] at hl
    cases hl
  · rw [hto]; simp
end
section
variable {P : Program} {E : Env} {H : Hp}
/-- A FUNCTION, ENTERED, however its body is walked. -/
theorem pc_enterG {f : FuncId} {fn : Func} {c : Code} (hf : P.funcs[f]? = some fn) (hb : fn.body = some c) (hname : (fn.name == "runtime.NumGoroutine") = false) {args : List AV} {Q : AV → Hp → Prop}
    (h : BndH H.length H → ∀ (W : World) (F : Nat → Prop) (Rd0 : Nat → Nat → Prop) (β0 : Nat → Nat) (a : Act) (w : World), St E W F Rd0 β0 H.length (args ++ List.replicate (fn.ntmps - args.length) (.raw undef)) H a w → ∀ KC : Exit → Act → World → Prop,
      (∀ e fr H1 a w', St E W F Rd0 β0 H.length fr H1 a w' → aPost P fn.results.toList H.length Q e fr H1 → KC e a w') → c.wp P KC a w) : PC P E f args H Q := by
  refine ⟨by simp [hasB, hf, hb, hname], fun w β Rd Ow cargs hr hcell hsz hargs => ?_⟩
  refine calls_of_wp hf hb ?_
  have hS : S3 E w (fun b => b < w.heap.size ∧ (∀ i, i < H.length → β i ≠ b) ∧ Ow b = none) Rd w β Rd Ow (args ++ List.replicate (fn.ntmps - args.length) (.raw undef)) H (cargs ++ Array.replicate (fn.ntmps - cargs.size) undef) := by
    refine ⟨hr, ⟨by simp [hsz], fun t x u hx hu => ?_⟩, ⟨fun b hb => hb.1, fun _ _ => rfl, fun b hb => hb.2.2, fun b i hb hi => hb.2.1 i hi, fun _ _ _ h => h, rfl, rfl, rfl, Nat.le_refl _, fun _ _ h => ⟨h, rfl⟩⟩, fun x hx => ?_⟩
    · by_cases ht : t < args.length
      · rw [List.getElem?_append_left ht] at hx
        rw [Array.getElem?_append_left (by omega)] at hu
        obtain ⟨r1, r2, r3⟩ := hargs t x u hx hu
        exact ⟨r1, r2, fun g hg => by rw [own0_free r3] at hg; cases hg⟩
      · rw [List.getElem?_append_right (by omega), List.getElem?_replicate] at hx
        rw [Array.getElem?_append_right (by omega), Array.getElem?_replicate] at hu
        split at hx
        · cases hx
          split at hu
          · cases hu; exact ⟨.raw _, .raw _, fun g hg => by cases hg⟩
          · cases hu
        · cases hx
    · rcases List.mem_append.1 hx with h1 | h1
      · obtain ⟨j, hj⟩ := List.getElem?_of_mem h1
        have hj' : j < cargs.size := by have := (List.getElem?_eq_some_iff.1 hj).1; omega
        exact dis_free_of_free (hargs j x _ hj (Array.getElem?_eq_getElem hj')).2.2
      · rw [(List.mem_replicate.1 h1).2]; rfl
  refine h hr.bnd _ _ _ _ _ _ ⟨rfl, Nat.le_refl _, β, Rd, Ow, hS, fun _ _ => rfl⟩ _ (fun e fr H1 a w' hs hk => ?_)
  have fin : ∀ v0 v H2 H' J, a.defers = [] → ares P fr H1 fn.results.toList = some v0 → nilV v0 v → nilH H1 H2 → H2 = H' ++ J → H.length ≤ H'.length → BndH H'.length H' → Bnd H'.length v → Q v H' →
      a.defers = [] ∧ ∃ c, (results fn a.tmps).run P w' = .ok c w' ∧ ∃ c' v H' β' Rd' Ow', Ending.returned c = .returned c' ∧ Q v H' ∧ Post E w β Rd Ow H w' β' Rd' Ow' H' v c' := by
    intro v0 v H2 H' J hd hres hnv hnH hH hlen hbH hbv hq
    obtain ⟨_, _, β', Rd', Ow', hS', hβ⟩ := hs
    obtain ⟨c, Ow2, fr2, hrun, hS2, hrel0, hne0, hown0⟩ := ares_ok hS' hres
    have hS2 := hS2.nilTo (nilL_refl _) hnH
    obtain ⟨hrel, hne, hown1⟩ := nilV_ok hnv hrel0 hne0
    have hown : ∀ g, own0 v c = some g → Ow2 g = some (.slot 0) := fun g hg => hown0 g (hown1 g hg)
    have hsub : ∀ i l, H'[i]? = some l → H2[i]? = some l := fun i l hl => by rw [hH, List.getElem?_append_left (List.getElem?_eq_some_iff.1 hl).1]; exact hl
    have hle : H'.length ≤ H2.length := by rw [hH]; simp
    refine ⟨hd, c, hrun, c, v, H', β', Rd', Ow2, rfl, hq, ⟨hrel, hbv, hown, hne, ⟨fun i l hl => hS2.hr.box i l (hsub i l hl), fun i j hi hj => hS2.hr.inj i j (by omega) (by omega), fun i hi => hS2.hr.sep i (by omega), hS2.hr.ows, hS2.hr.rds, hbH, fun b hb => ?_, fun i l t hl h0 => hS2.hr.bld i l t (hsub i l hl) h0⟩,
      hβ, hlen, fun g o hg => hS2.fo.keep g o hg, fun b hb h1 h2 => ?_, hS2.fo.os, hS2.fo.tape, hS2.fo.output, hS2.fo.size⟩⟩
    · obtain ⟨f1, f2, f3, f4⟩ := hS2.hr.fix b hb
      exact ⟨f1, f2, fun i hi => f3 i (by omega), f4⟩
    · have hF : b < w.heap.size ∧ (∀ i, i < H.length → β i ≠ b) ∧ Ow b = none := ⟨hb, h1, h2⟩
      exact ⟨hS2.fo.same b hF, hS2.fo.own b hF, fun i hi => hS2.fo.box b i hF (by omega), fun o ho => hS2.fo.rd b o hF ho⟩
  obtain ⟨hd, _⟩ := hs
  cases e with
  | normal =>
    obtain ⟨v0, v, H2, H', J, h1, h2, h2', h3, h4, h5, h6, h7⟩ := hk
    exact fin v0 v H2 H' J hd h1 h2 h2' h3 h4 h5 h6 h7
  | ret =>
    obtain ⟨v0, v, H2, H', J, h1, h2, h2', h3, h4, h5, h6, h7⟩ := hk
    exact fin v0 v H2 H' J hd h1 h2 h2' h3 h4 h5 h6 h7
  | _ => exact hk.elim
/-- What is asked of a body that begins with A, a region with two new boxes, and R. -/
def okT (P : Program) (B : List Tmp) (ND : List (Nat × List Nat)) (pf : List Nat) (i : Nat) (fn : Func) (A R : Code) (ops : Array Oper) : Bool := !(fn.name == "runtime.NumGoroutine") && P.follows .mixedOrders && noFrz ND && regsB B ND A && regsB B ND R && twoA i B pf ops
def opsOf (all : Array Oper) : List Nat → List Oper
  | [] => []
  | i :: l => match all[i]? with
    | some o => o :: opsOf all l
    | none => opsOf all l
def puOf (pf : List Nat) (l : List Nat) : List Nat := l.map fun i => pf.getD i 0
theorem atl_of {P : Program} {E : Env} {B : List Tmp} {all : Array Oper} {pf : List Nat} {K : List AV → Hp → Prop} : ∀ (l : List Nat) {fr : List AV} {H : Hp}, (∀ p ∈ pf, p ≠ 3) → (∀ i ∈ l, i < all.size) → vcl P E B all K (puOf pf l) (opsOf all l) fr H → atl P E B all pf K l fr H
  | [], fr, H, _, _, h => h
  | i :: l, fr, H, h3, hl, h => by
    have hi : all[i]? = some all[i]! := by
      have := hl i (List.mem_cons_self ..)
      simp [this]
    unfold opsOf at h
    rw [hi] at h
    rw [atl_cons hi]
    have hne : pf.getD i 0 ≠ 3 := by
      rw [List.getD_eq_getElem?_getD]
      cases hp : pf[i]? with
      | none => simp
      | some q => simpa using h3 q (List.mem_of_getElem? hp)
    simp only [puOf, List.map_cons] at h
    rw [vcl] at h
    rw [if_neg (by simpa using hne)] at h
    exact vop_mono h fun fr' H' _ h' => atl_of l h3 (fun j hj => hl j (List.mem_cons_of_mem _ hj)) h'
def KTwo (P : Program) (E : Env) (B : List Tmp) (ND : List (Nat × List Nat)) (pf : List Nat) (i : Nat) (ops : Array Oper) (R : Code) (K : Exit → List AV → Hp → Prop) : Exit → List AV → Hp → Prop := fun e fr H => match e with
  | .normal => atl P E B ops pf (fun fr H => vc P E B ND R K fr H) (List.range ops.size) fr H ∧ atl P E B ops pf (fun fr H => vc P E B ND R K fr H) (swO ops.size i) fr H
  | e => K e fr H
theorem pc_enterT (S : Nat → Prop) {f : FuncId} {fn : Func} {A R : Code} {id : Nat} {ops : Array Oper} (hf : P.funcs[f]? = some fn) (hb : fn.body = some (.seq A (.seq (.region id ops true) R))) (B : List Tmp) (ND : List (Nat × List Nat)) (pf : List Nat) (i : Nat) (hok : okT P B ND pf i fn A R ops = true) {args : List AV} {Q : AV → Hp → Prop}
    (h : ∀ E' : Env, E'.S = S → E'.w0 = E.w0 → E'.Fix = E.Fix → BndH H.length H → vc P E' B ND A (KTwo P E' B ND pf i ops R (aPost P fn.results.toList H.length Q)) (args ++ List.replicate (fn.ntmps - args.length) (.raw undef)) H) : PC P E f args H Q := by
  unfold okT at hok
  simp only [Bool.and_eq_true, Bool.not_eq_true'] at hok
  obtain ⟨⟨⟨⟨⟨hname, hm⟩, hz⟩, hA⟩, hR⟩, hT⟩ := hok
  refine PC.env (E := E) (E' := { E with S := S }) rfl rfl (pc_enterG hf hb hname (fun hB W F Rd0 β0 a w hs KC hK => ?_))
  have hz' : ∀ id m, frzN (ndOf ND id) = some m → H.length ≤ m := fun id m hm => absurd hm (noFrz_spec hz id m)
  have h0 := h { E with S := S } rfl rfl rfl hB
  refine wp_seq (vc_ok hm hz' A _ _ _ H a w hA hs h0 (fun e fr' H' a' w' hs' hk => ?_))
  cases e with
  | normal =>
    refine wp_seq (region_two hm hT hs' hk.1 hk.2 (fun fr2 H2 a2 w2 hs2 hk2 => ?_))
    exact vc_ok hm hz' R _ _ _ H2 a2 w2 hR hs2 hk2 hK
  | _ => exact hK _ _ _ _ _ hs' hk
end
end Go.Proofs.YtcdkcaocfioigaaGreatDoor

set_option linter.unusedVariables false
set_option linter.unnecessarySimpa false
set_option linter.unusedSimpArgs false
set_option linter.unusedSectionVars false
set_option maxRecDepth 100000
namespace Go.Proofs.YtcdkcaocfioigaaGreatDoor
open Go Go.RowKit Go.Proofs

section
variable (E : Env) (H : Hp) (Q : AV → Hp → Prop)
set_option maxHeartbeats 2000000 in
theorem sameReply_pc (r : Rep) (h1 : r.fields.length ≤ 1073741824) (h2 : r.trailers.length ≤ 1073741824) (hQ : Q (.bool true) H) : PC Tryz.prog E 26 [.agg r.avs, .agg r.avs] H Q := by
  refine pc_enterT (fun i => i = H.length ∨ i = H.length + 1) Tryz.func26 rfl [] [] [0, 2, 0, 2, 0, 0, 2, 2] 4 (by kernel_rfl) (fun E' hS' h0' hF' hB => ?_)
  simp [Tryz.ntmps26, Tryz.results26, List.replicate_succ, Rep.avs]
  refine ⟨atl_of _ (by decide) (by decide) ?_, atl_of _ (by decide) (by decide) ?_⟩
  all_goals
    have o0 : List.range 8 = [0, 1, 2, 3, 4, 5, 6, 7] := rfl
    have o1 : swO 8 4 = [0, 1, 2, 3, 5, 4, 6, 7] := rfl
    simp [o0, o1, opsOf, puOf, hS']
    refine same12_pc E' _ _ r.fields h1 ?_
    simp
    refine same12_pc E' _ _ r.trailers h2 ?_
    simp
    exact aPost_same hB rfl (nilV_refl _) (by simp) hQ
end
end Go.Proofs.YtcdkcaocfioigaaGreatDoor

set_option linter.unusedVariables false
set_option linter.unnecessarySimpa false
set_option linter.unusedSimpArgs false
set_option linter.unusedSectionVars false
set_option maxRecDepth 100000
namespace Go.Proofs.YtcdkcaocfioigaaGreatDoor
open Go Go.RowKit Go.Proofs Go.Deep

section
variable (E : Env) (H : Hp) (Q : AV → Hp → Prop)
end
end Go.Proofs.YtcdkcaocfioigaaGreatDoor

set_option linter.unusedVariables false
set_option linter.unnecessarySimpa false
set_option linter.unusedSimpArgs false
set_option linter.unusedSectionVars false
set_option maxRecDepth 100000
namespace Go.Proofs.YtcdkcaocfioigaaGreatDoor
open Go Go.RowKit Go.Proofs Go.Deep

/-- The three tables. -/
def Tabs (W : World) : Prop := Signs W ∧ Tz W ∧ Lib.TabIs Tryz.prog W "internal/strconv.uint64pow10" .u64 Lib.pow10Tab
theorem tab_lt {W : World} (hT : Lib.TabIs Tryz.prog W "internal/strconv.uint64pow10" .u64 Lib.pow10Tab) : 0 < W.heap.size := by
  have := hT
  unfold Lib.TabIs World.var? at this
  rw [pow10Named] at this
  simp only [Option.bind_some] at this
  by_cases h : 0 < W.heap.size
  · exact h
  · rw [Array.getElem?_eq_none (by omega)] at this; cases this
theorem calls_sm {f : FuncId} {args : List AV} {cargs : Array Value} {W : World} (hT : Tabs W) (hsz : cargs.size = args.length)
    (hargs : ∀ (t : Nat) x u, args[t]? = some x → cargs[t]? = some u → Rel W (fun _ => 0) (old W) x u ∧ Bnd 0 x ∧ x.free = true)
    (h : ∀ (E : Env) (Q : AV → Hp → Prop), SM E → Q (.bool true) [] → PC Tryz.prog E f args [] Q) : Calls Tryz.prog f cargs W fun e w' => e = .returned (.bool true) ∧ Frm (fun _ => False) W w' :=
  calls_of_pcF (fun b => b = 1 ∨ b = 3 ∨ b = 0)
    (fun b hb => hb.elim (law_fix W hT.1 b) (fun h => h.elim (fun h => h ▸ World.block_lt_of_cell? _ _ hT.2.1) (fun h => h ▸ tab_lt hT.2.2))) (old W) (fun _ _ h => h) hsz hargs
    (fun E Q h0 hf hq => h E Q ⟨⟨⟨by rw [hf]; exact .inl rfl, by rw [h0]; exact hT.1⟩, by rw [hf]; exact .inr (.inl rfl), by rw [h0]; exact hT.2.1⟩, ⟨by rw [hf]; exact .inl rfl, by rw [h0]; exact hT.1⟩, by rw [hf]; exact .inr (.inr rfl), by rw [h0]; exact hT.2.2⟩ hq)
end Go.Proofs.YtcdkcaocfioigaaGreatDoor

set_option linter.unusedVariables false
set_option linter.unnecessarySimpa false
set_option linter.unusedSimpArgs false
set_option linter.unusedSectionVars false
set_option maxRecDepth 100000
namespace Go.Proofs.YtcdkcaocfioigaaGreatDoor
open Go Go.RowKit Go.Proofs Go.Deep

/-- Two readers that are told alike. -/
structure Alik (a b : RM) : Prop where
  err : a.err = b.err
  over : a.over = b.over
  ended : a.ended = b.ended
  most : a.most = b.most
  asked : a.asked = b.asked
  done : a.done = b.done
  bytes : a.err = 0 → a.bytes = b.bytes
theorem Alik.refl (a : RM) : Alik a a := ⟨rfl, rfl, rfl, rfl, rfl, rfl, fun _ => rfl⟩
theorem Alik.symm {a b : RM} (h : Alik a b) : Alik b a := ⟨h.err.symm, h.over.symm, h.ended.symm, h.most.symm, h.asked.symm, h.done.symm, fun e => (h.bytes (h.err.trans e)).symm⟩
theorem Alik.trans {a b c : RM} (h : Alik a b) (k : Alik b c) : Alik a c :=
  ⟨h.err.trans k.err, h.over.trans k.over, h.ended.trans k.ended, h.most.trans k.most, h.asked.trans k.asked, h.done.trans k.done, fun e => (h.bytes e).trans (k.bytes (h.err.symm.trans e))⟩
theorem put_like {r : RM} (u : List UInt8) (h : r.err ≠ 0) : Alik (r.put u) r := ⟨rfl, rfl, rfl, rfl, rfl, rfl, fun e => absurd e h⟩
theorem put_put (r : RM) (u v : List UInt8) : (r.put u).put v = r.put (u ++ v) := by simp [RM.put]
/-- A reader that is fed a piece, and then the rest, if nothing was wrong: as if it were fed at once. -/
theorem feed_cut {r : RM} (he : r.err = 0) (hn : r.ended = false) (u v : List UInt8) :
    ((feedM r u).2 = 0 → (feedM r u).1.err = 0 ∧ (feedM r u).1.ended = false ∧ feedM (feedM r u).1 v = feedM r (u ++ v)) ∧
    ((feedM r u).2 ≠ 0 → Alik (feedM r (u ++ v)).1 (feedM r u).1 ∧ (feedM r (u ++ v)).2 = (feedM r u).2) := by
  have hne : ¬ (r.err ≠ 0 ∨ r.ended = true) := by rw [he, hn]; simp
  cases ho : r.over with
  | true =>
    have e : ∀ w, feedM r w = (r, 0) := fun w => by unfold feedM; rw [if_neg hne, if_pos ho]
    rw [e u, e (u ++ v)]
    exact ⟨fun _ => ⟨he, hn, e v⟩, fun h => absurd rfl h⟩
  | false =>
    have e : ∀ w, feedM r w = (readA (r.put w), (readA (r.put w)).err) := fun w => by unfold feedM; rw [if_neg hne, if_neg (by rw [ho]; simp)]
    have hk : (readA (r.put u)).ended = r.ended := by
      have key : ∀ (n : Nat) (a : RM), (readR n a).ended = a.ended := fun n => by
        induction n with
        | zero => intro a; rfl
        | succ n ih =>
          intro a
          rw [readR]
          split
          · rw [ih]; exact (oneR_keeps a).1
          · exact (oneR_keeps a).1
      exact key _ _
    obtain ⟨c1, c2, c3⟩ := readA_cut v ((r.put u).bytes.length + 1) (r.put u) (by omega) hn he
    rw [put_put] at c1 c2 c3
    rw [e u, e (u ++ v)]
    refine ⟨fun h => ?_, fun h => ?_⟩
    · simp only at h ⊢
      refine ⟨h, by rw [hk]; exact hn, ?_⟩
      have hne2 : ¬ ((readA (r.put u)).err ≠ 0 ∨ (readA (r.put u)).ended = true) := by rw [h, hk, hn]; simp
      cases ho2 : (readA (r.put u)).over with
      | true =>
        have e2 : readA (r.put (u ++ v)) = readA (r.put u) := (c2 h ho2).resolve_right (by show ¬ r.over = true; rw [ho]; simp)
        have e3 : feedM (readA (r.put u)) v = (readA (r.put u), 0) := by unfold feedM; rw [if_neg hne2, if_pos ho2]
        rw [e2, e3, h]
      | false =>
        have e2 := c3 h ho2
        have e3 : feedM (readA (r.put u)) v = (readA ((readA (r.put u)).put v), (readA ((readA (r.put u)).put v)).err) := by unfold feedM; rw [if_neg hne2, if_neg (by rw [ho2]; simp)]
        rw [e2, e3]
    · simp only at h ⊢
      rw [c1 h]
      exact ⟨put_like v h, rfl⟩
/-- Feeding as long as nothing is wrong. f: what the last feeding said. -/
structure CutI (A : RM) (e : Int) (B : RM) (f : Int) (rest : List UInt8) : Prop where
  go : f = 0 → B.err = 0 ∧ B.ended = false ∧ Alik (feedM B rest).1 A ∧ (feedM B rest).2 = e
  stop : f ≠ 0 → Alik B A ∧ f = e
theorem CutI.step {A B : RM} {e f : Int} {rest : List UInt8} (h : CutI A e B f rest) (hf : f = 0) (n : Nat) : CutI A e (feedM B (rest.take n)).1 (feedM B (rest.take n)).2 (rest.drop n) := by
  obtain ⟨h1, h2, h3, h4⟩ := h.go hf
  obtain ⟨c1, c2⟩ := feed_cut h1 h2 (rest.take n) (rest.drop n)
  rw [List.take_append_drop] at c1 c2
  refine ⟨fun hz => ?_, fun hz => ?_⟩
  · obtain ⟨d1, d2, d3⟩ := c1 hz
    exact ⟨d1, d2, by rw [d3]; exact h3, by rw [d3]; exact h4⟩
  · obtain ⟨d1, d2⟩ := c2 hz
    exact ⟨d1.symm.trans h3, by rw [← d2]; exact h4⟩
theorem CutI.skip {A B : RM} {e f : Int} {rest : List UInt8} (h : CutI A e B f rest) (hf : f ≠ 0) (rest' : List UInt8) : CutI A e B f rest' := ⟨fun e => absurd e hf, h.stop⟩
/-- What a reader holds never grows beyond what was fed. -/
def heldM (r : RM) : Nat := r.bytes.length + r.done.length
theorem oneR_held (r : RM) : heldM (oneR r).1 ≤ heldM r := by
  unfold heldM
  by_cases h0 : r.bytes = [] ∨ r.over = true
  · rw [oneR_none h0]; exact Nat.le_refl _
  cases ha : r.asked with
  | nil => rw [oneR_ask h0 ha]; exact Nat.le_refl _
  | cons m ms =>
    have hb : 0 < r.bytes.length := by
      rcases Nat.eq_zero_or_pos r.bytes.length with h | h
      · exact absurd (.inl (List.length_eq_zero_iff.1 h)) h0
      · exact h
    obtain ⟨p, hp⟩ : ∃ p, parseM m r.bytes r.most r.ended = p := ⟨_, rfl⟩
    rw [oneR_cons h0 ha hp]
    by_cases g1 : p.2.2 = 124
    · rw [if_pos g1]; exact Nat.le_refl _
    rw [if_neg g1]
    by_cases g2 : p.2.2 = 0
    · rw [if_neg (by simpa using g2)]
      obtain ⟨n, hn, h17, hl⟩ := parseM_rng (by rw [hp]; exact g2 : (parseM m r.bytes r.most r.ended).2.2 = 0)
      rw [hp] at hn
      split
      · simp only [List.length_drop, List.length_append, List.length_cons, List.length_nil]; omega
      · split
        · simp only [List.length_nil, List.length_append, List.length_cons]; omega
        · simp only [List.length_drop, List.length_append, List.length_cons, List.length_nil]; omega
    · rw [if_pos g2]; exact Nat.le_refl _
theorem readR_held : ∀ (n : Nat) (r : RM), heldM (readR n r) ≤ heldM r
  | 0, r => Nat.le_refl _
  | n + 1, r => by
    rw [readR]
    split
    · exact Nat.le_trans (readR_held n _) (oneR_held r)
    · exact oneR_held r
theorem feedM_held (r : RM) (s : List UInt8) : heldM (feedM r s).1 ≤ heldM r + s.length := by
  unfold feedM
  split
  · simp only; omega
  · split
    · simp only; omega
    · have := readR_held ((r.put s).bytes.length + 1) (r.put s)
      show heldM (readA (r.put s)) ≤ _
      unfold readA
      have e : heldM (r.put s) = heldM r + s.length := by unfold heldM; simp [RM.put]; omega
      omega
theorem endM_held (r : RM) : heldM (endM r).1 ≤ heldM r := by
  unfold endM
  split
  · exact Nat.le_refl _
  · simp only
    have hr : ∀ a, heldM (restM a) = heldM a := fun a => by unfold restM; split <;> rfl
    rw [hr]
    split
    · exact Nat.le_refl _
    · exact readR_held _ _
theorem feedM_ok {r : RM} {s : List UInt8} (h : okM (r.put s)) : okM (feedM r s).1 := by
  obtain ⟨h1, h2, h3, h4⟩ := id h
  have hr : okM r := ⟨by simp only [RM.put, List.length_append] at h1; omega, h2, h3, h4⟩
  unfold feedM
  split
  · exact hr
  · split
    · exact hr
    · exact readA_ok h
theorem endM_ok {r : RM} (h : okM r) : okM (endM r).1 := by
  have hr : ∀ a, okM a → okM (restM a) := fun a ha => by unfold restM; split <;> exact ha
  unfold endM
  split
  · exact h
  · refine hr _ ?_
    split
    · exact h
    · exact readA_ok h
end Go.Proofs.YtcdkcaocfioigaaGreatDoor

set_option linter.unusedVariables false
set_option linter.unnecessarySimpa false
set_option linter.unusedSimpArgs false
set_option linter.unusedSectionVars false
set_option maxRecDepth 100000
namespace Go.Proofs.YtcdkcaocfioigaaGreatDoor
open Go Go.RowKit Go.Proofs Go.Deep

/-! ### Two readers behind a box -/
section
variable {H : Hp} {S x y z w : List AV} {J : Hp}
end
theorem kind12_pc (E : Env) (H : Hp) (Q : AV → Hp → Prop) (k n : Int) (hn : 1 ≤ n) (hn2 : n ≤ 2305843009213693952) (hk1 : -9223372036854775808 ≤ k) (hk2 : k ≤ 9223372036854775807) (hQ : Q (.int .i64 (k % n)) H) : PC Tryz.prog E 39 [.int .i64 k, .int .i64 n] H Q := by
  refine pc_enter Tryz.func39 rfl [] [] (by kernel_rfl) (fun hB => ?_)
  have hz : ¬ n = 0 := by omega
  have b1 := Int.lt_tmod_of_pos k (by omega : (0 : Int) < n)
  have b2 := Int.tmod_lt_of_pos k (by omega : (0 : Int) < n)
  have p : (k.tmod n + n).tmod n = k % n := by
    rw [Int.tmod_eq_emod_of_nonneg (by omega), Int.add_emod_right, Int.tmod_def, Int.sub_mul_emod_self_left]
  have w1 : IntKind.i64.wrap (k.tmod n) = k.tmod n := wrap_in (by omega) (by omega)
  have w2 : IntKind.i64.wrap (k.tmod n + n) = k.tmod n + n := wrap_in (by omega) (by omega)
  have b3 := Int.emod_lt_of_pos k (by omega : (0 : Int) < n)
  have b4 := Int.emod_nonneg k hz
  have w3 : IntKind.i64.wrap (k % n) = k % n := wrap_in (by omega) (by omega)
  simp [Tryz.ntmps39, Tryz.results39, List.replicate_succ, hz, w1, w2, p, w3]
  exact aPost_same0 hB rfl (nilV_refl _) (by simp) hQ
theorem okM_put {r : RM} (h : okM r) (s : List UInt8) (hl : r.bytes.length + r.done.length + s.length ≤ 100000000) : okM (r.put s) := by
  obtain ⟨h1, h2, h3, h4⟩ := h
  exact ⟨by simp only [RM.put, List.length_append]; omega, h2, h3, h4⟩
theorem okM_done {r : RM} (h : okM r) (d : List Rep) (hd : ∀ y ∈ d, y ∈ r.done) (hl : d.length ≤ r.done.length) : okM { r with done := d } := by
  obtain ⟨h1, h2, h3, h4⟩ := h
  exact ⟨by simp only; omega, h2, h3, fun x hx => h4 x (hd x hx)⟩
/-- A stream that is handed in. -/
structure StrA where
  m : List UInt8
  t : List UInt8
  most : Int
  ended : Bool
def StrA.avs (s : StrA) : List AV := [.str s.m, .str s.t, .int .i64 s.most, .bool s.ended]
section
variable (E : Env) (H : Hp) (Q : AV → Hp → Prop)
end
end Go.Proofs.YtcdkcaocfioigaaGreatDoor

set_option linter.unusedVariables false
set_option linter.unnecessarySimpa false
set_option linter.unusedSimpArgs false
set_option linter.unusedSectionVars false
set_option maxRecDepth 100000
namespace Go.Proofs.YtcdkcaocfioigaaGreatDoor
open Go Go.RowKit Go.Proofs

section
variable (E : Env) (H : Hp) (Q : AV → Hp → Prop)
theorem begun_pc (most : Int) (hQ1 : 0 ≤ most → ∀ x, (∀ y ∈ x, Bnd 0 y) → Q (.tup [.ptr (some (H.length + 2, 0)), .agg (drA (newM most)), .bool true]) (H ++ [x, smB (newM most), rmB (H.length + 1) (newM most)])) (hQ2 : most < 0 → Q (.tup [.ptr none, .agg (drA (newM (-1))), .bool true]) H) : PC Tryz.prog E 37 [.int .i64 most] H Q := by
  refine pc_enter Tryz.func37 rfl [] [] (by kernel_rfl) (fun hB => ?_)
  simp [Tryz.ntmps37, Tryz.results37, List.replicate_succ]
  refine rnew_pc E _ _ most (fun hm => ?_) (fun hm => ?_)
  · have hlt : ¬ most < 0 := by omega
    simp
    refine drnew_pc E _ _ most ?_
    simp [hlt, drA]
    have hbn : BndH (H.length + 3) (H ++ [drA (newM most), smB (newM most), rmB (H.length + 1) (newM most)]) := fun l hl x hx => by
      rcases List.mem_append.1 hl with h' | h'
      · exact (hB l h' x hx).mono (by omega)
      · simp at h'
        rcases h' with rfl | rfl | rfl
        · exact drA_bnd _ _ x hx
        · exact smB_bnd _ _ x hx
        · exact rmB_bnd _ (by omega) x hx
    exact ⟨.tup [.ptr (some (H.length + 2, 0)), .agg (drA (newM most)), .bool true], _, _, H ++ [drA (newM most), smB (newM most), rmB (H.length + 1) (newM most)], [drA (newM most)], by simp [drA], nilV_refl _, nilH_refl _, by simp [drA], by simp, by simpa using hbn, by simp [drA, bnd_strs, bnd_reps], hQ1 hm _ (drA_bnd _ _)⟩
  · simp
    refine drnew_pc E _ _ most ?_
    simp [hm, drA]
    exact aPost_same hB (v0 := .tup [.ptr none, .agg (drA (newM (-1))), .bool true]) (by simp [drA]) (nilV_refl _) (by simp [drA, bnd_strs, bnd_reps]) (hQ2 hm)
end
end Go.Proofs.YtcdkcaocfioigaaGreatDoor

set_option linter.unusedVariables false
set_option linter.unnecessarySimpa false
set_option linter.unusedSimpArgs false
set_option linter.unusedSectionVars false
set_option maxRecDepth 100000
namespace Go.Proofs.YtcdkcaocfioigaaGreatDoor
open Go Go.RowKit Go.Proofs

theorem put2_app {H J : Hp} {c : Nat} (hc : c + 1 < H.length) (a b : List AV) : put2 H c a b ++ J = put2 (H ++ J) c a b := by
  unfold put2
  rw [List.set_append_left _ _ (by omega), List.set_append_left _ _ (by simp; omega)]
theorem PC.atJ {P : Program} {E : Env} {f : FuncId} {args : List AV} {H J : Hp} {c : Nat} {a b : List AV} {Q : AV → Hp → Prop} (hc : c + 1 < H.length) (h : PC P E f args (put2 (H ++ J) c a b) Q) : PC P E f args (put2 H c a b ++ J) Q := by
  rw [put2_app hc]; exact h
/-- What a call makes of a reader. -/
def stepM (r : RM) (k : Int) (s : List UInt8) : RM := if k % 7 = 0 then (feedM r s).1 else if k % 7 = 1 then (daskM r s).1 else if k % 7 = 2 then (endM r).1 else if k % 7 = 3 then (nextM r).1 else r
section
variable (E : Env) (H : Hp) (Q : AV → Hp → Prop) (c : Nat) (r : RM) (hc : c + 1 < H.length)
include hc
set_option maxHeartbeats 4000000 in
theorem step12_pc (hE : SE E) (k : Int) (s : List UInt8) (hk : -9223372036854775808 ≤ k ∧ k ≤ 9223372036854775807) (hok : okM (r.put s)) (hov : ovR r) (hm : 0 ≤ r.most) (hQ : Q (.tup [.agg (drA (stepM r k s)), .bool true]) (put2 H c (smB (stepM r k s)) (rmB c (stepM r k s)))) :
    PC Tryz.prog E 38 [.ptr (some (c + 1, 0)), .agg (drA r), .agg [.int .i64 k, .str s]] (put2 H c (smB r) (rmB c r)) Q := by
  have fin : ∀ a : RM, stepM r k s = a → Q (.tup [.agg (drA a), .bool true]) (put2 H c (smB a) (rmB c a)) := fun a ha => ha ▸ hQ
  have hlen := put2_len H c (smB r) (rmB c r)
  have hok0 : okM r := ⟨by have := hok.1; simp only [RM.put, List.length_append] at this; omega, hok.2.1, hok.2.2.1, hok.2.2.2⟩
  refine pc_enterF (fun i => H.length ≤ i ∧ i ≠ H.length + 2) Tryz.func38 rfl [] [(5, [2, 0, 0, 2, 2, 0, 0, 2]), (8, [2, 0, 0, 2, 2, 0, 0, 2]), (11, [2, 0, 2, 0, 0, 2]), (15, [2, 0, 0, 0, 0, 2, 2, 2, 0, 2]), (17, [2, 0, 2, 0, 2, 0, 0, 2]), (19, [2, 0, 2, 0, 2, 0, 2]), (20, [2, 0, 2, 0, 2, 0, 0, 2, 0, 0, 2])] (by kernel_rfl) (fun E' hS' h0' hF' hB => ?_)
  have hE' : SE E' := ⟨by rw [hF']; exact hE.1, by rw [h0']; exact hE.2⟩
  simp [Tryz.ntmps38, Tryz.results38, List.replicate_succ, hlen, drA]
  refine kind12_pc E' _ _ k 7 (by decide) (by decide) hk.1 hk.2 ?_
  have hk7 := Int.emod_nonneg k (by decide : (7 : Int) ≠ 0)
  have hk8 := Int.emod_lt_of_pos k (by decide : (0 : Int) < 7)
  have hcases : k % 7 = 0 ∨ k % 7 = 1 ∨ k % 7 = 2 ∨ k % 7 = 3 ∨ k % 7 = 4 ∨ k % 7 = 5 ∨ k % 7 = 6 := by omega
  have hS0 : E'.S H.length := by rw [hS']; exact ⟨by omega, by omega⟩
  have hS1 : E'.S (H.length + 1) := by rw [hS']; exact ⟨by omega, by omega⟩
  have hS3 : E'.S (H.length + 3) := by rw [hS']; exact ⟨by omega, by omega⟩
  have hS4 : E'.S (H.length + 4) := by rw [hS']; exact ⟨by omega, by omega⟩
  have hS5 : E'.S (H.length + 5) := by rw [hS']; exact ⟨by omega, by omega⟩
  have hS22 : ¬ E'.S (H.length + 2) := by rw [hS']; exact fun h => h.2 rfl
  have hKP : ∀ (a' b' : List AV) (J : Hp), KP 2 E'.S (put2 H c (smB r) (rmB c r) ++ J) (put2 H c a' b' ++ J) = True := fun a' b' J => eq_true ⟨by simp, fun i hi _ => by
    rw [hS'] at hi
    have hi' : H.length ≤ i := hi.1
    rw [List.getElem?_append_right (by simpa using hi'), List.getElem?_append_right (by simpa using hi')]
    simp⟩
  rcases hcases with h0 | h0 | h0 | h0 | h0 | h0 | h0
  · have e : stepM r k s = (feedM r s).1 := by unfold stepM; rw [if_pos h0]
    rw [h0]
    simp
    refine drfeed_pc E' _ _ r s (fun _ => hok) ?_
    rw [feed_doc hm hov]
    simp [drA]
    refine ⟨hS0, hS1, ?_⟩
    refine PC.atJ hc ?_
    refine rfeed_pc E' _ _ c r (by simp; omega) hE' s hok ?_
    rw [← put2_app hc]
    have hq := fin _ e
    simp [hKP, hS22]
    exact aPost_put2 hc hB (v0 := .tup [.agg (drA (feedM r s).1), .bool true]) (by simp [drA]) (nilV_refl _) (smB_bnd _ _) (rmB_bnd _ (by omega)) (by simp [drA, bnd_strs, bnd_reps]) hq
  · have e : stepM r k s = (daskM r s).1 := by unfold stepM; rw [if_neg (by omega), if_pos h0]
    have hq := fin _ e
    rw [h0]
    simp
    refine drask_pc E' _ _ r s hok.2.1 ?_
    simp [drA]
    refine ⟨hS0, hS1, ?_⟩
    refine PC.atJ hc ?_
    refine rask_pc E' _ _ c r (by simp; omega) hok0 s (fun h64 => ?_) (fun h64 => ?_)
    · have ea : daskM r s = (r, 65) := by unfold daskM; rw [if_neg (by omega), if_pos h64]
      rw [← put2_app hc]
      rw [ea] at hq ⊢
      simp [hKP, hS22]
      exact aPost_put2 hc hB (v0 := .tup [.agg (drA r), .bool true]) (by simp [drA]) (nilV_refl _) (smB_bnd _ _) (rmB_bnd _ (by omega)) (by simp [drA, bnd_strs, bnd_reps]) hq
    · have ea : daskM r s = ({ r with asked := r.asked ++ [s] }, 0) := by unfold daskM; rw [if_neg (by omega), if_neg (by omega)]
      rw [← put2_app hc]
      rw [ea] at hq ⊢
      simp [hKP, hS22]
      exact aPost_put2 hc hB (v0 := .tup [.agg (drA { r with asked := r.asked ++ [s] }), .bool true]) (by simp [drA]) (nilV_refl _) (smB_bnd _ _) (rmB_bnd { r with asked := r.asked ++ [s] } (by omega)) (by simp [drA, bnd_strs, bnd_reps]) hq
  · have e : stepM r k s = (endM r).1 := by unfold stepM; rw [if_neg (by omega), if_neg (by omega), if_pos h0]
    have hq := fin _ e
    rw [h0]
    simp
    refine drend_pc E' _ _ r (fun _ => hok0) ?_
    rw [end_doc hm hov]
    simp [drA]
    refine ⟨hS0, ?_⟩
    refine PC.atJ hc ?_
    refine rend_pc E' _ _ c r (by simp; omega) hE' hok0 ?_
    rw [← put2_app hc]
    simp [hKP, hS22]
    exact aPost_put2 hc hB (v0 := .tup [.agg (drA (endM r).1), .bool true]) (by simp [drA]) (nilV_refl _) (smB_bnd _ _) (rmB_bnd _ (by omega)) (by simp [drA, bnd_strs, bnd_reps]) hq
  · have e : stepM r k s = (nextM r).1 := by unfold stepM; rw [if_neg (by omega), if_neg (by omega), if_neg (by omega), if_pos h0]
    have hq := fin _ e
    have hf : (nextM r).2.1.fields.length ≤ 1073741824 ∧ (nextM r).2.1.trailers.length ≤ 1073741824 := by
      unfold nextM
      cases hd : r.done with
      | nil => exact ⟨by simp [rep0], by simp [rep0]⟩
      | cons y d => exact hok0.2.2.2 y (by rw [hd]; simp)
    rw [h0]
    simp
    refine drnext_pc E' _ _ r ?_
    simp [drA, Rep.avs]
    refine PC.atJ hc ?_
    refine rnext_pc E' _ _ c r (by simp; omega) hok0 ?_
    rw [← put2_app hc]
    simp [Rep.avs, hS3, hS4, hS5]
    refine sameReply_pc E' _ _ (nextM r).2.1 hf.1 hf.2 ?_
    simp [hKP, hS22, hS3]
    exact aPost_put2 hc hB (v0 := .tup [.agg (drA (nextM r).1), .bool true]) (by simp [drA]) (nilV_refl _) (smB_bnd _ _) (rmB_bnd _ (by omega)) (by simp [drA, bnd_strs, bnd_reps]) hq
  · have e : stepM r k s = r := by unfold stepM; rw [if_neg (by omega), if_neg (by omega), if_neg (by omega), if_neg (by omega)]
    have hq := fin _ e
    rw [h0]
    simp
    refine ⟨hS0, ?_⟩
    refine PC.atJ hc ?_
    refine rasked_pc E' _ _ c r (by simp; omega) ?_
    rw [← put2_app hc]
    simp [hKP, hS0, hS22]
    exact aPost_put2 hc hB (v0 := .tup [.agg (drA r), .bool true]) (by simp [drA]) (nilV_refl _) (smB_bnd _ _) (rmB_bnd _ (by omega)) (by simp [drA, bnd_strs, bnd_reps]) hq
  · have e : stepM r k s = r := by unfold stepM; rw [if_neg (by omega), if_neg (by omega), if_neg (by omega), if_neg (by omega)]
    have hq := fin _ e
    rw [h0]
    simp
    refine ⟨hS0, ?_⟩
    refine PC.atJ hc ?_
    refine rerr_pc E' _ _ c r (by simp; omega) ?_
    rw [← put2_app hc]
    simp [hKP, hS0, hS22]
    exact aPost_put2 hc hB (v0 := .tup [.agg (drA r), .bool true]) (by simp [drA]) (nilV_refl _) (smB_bnd _ _) (rmB_bnd _ (by omega)) (by simp [drA, bnd_strs, bnd_reps]) hq
  · have e : stepM r k s = r := by unfold stepM; rw [if_neg (by omega), if_neg (by omega), if_neg (by omega), if_neg (by omega)]
    have hq := fin _ e
    rw [h0]
    simp
    refine ⟨hS0, ?_⟩
    refine PC.atJ hc ?_
    refine rover_pc E' _ _ c r (by simp; omega) ?_
    rw [← put2_app hc]
    cases hov2 : r.over
    all_goals
      simp [hKP, hS0, hS22, hov2]
      exact aPost_put2 hc hB (v0 := .tup [.agg (drA r), .bool true]) (by simp [drA, hov2]) (nilV_refl _) (smB_bnd _ _) (rmB_bnd _ (by omega)) (by simp [drA, bnd_strs, bnd_reps]) hq
end
end Go.Proofs.YtcdkcaocfioigaaGreatDoor

set_option linter.unusedVariables false
set_option linter.unnecessarySimpa false
set_option linter.unusedSimpArgs false
set_option linter.unusedSectionVars false
set_option maxRecDepth 100000
namespace Go.Proofs.YtcdkcaocfioigaaGreatDoor
open Go Go.RowKit Go.Proofs

section
variable (E : Env) (H : Hp) (Q : AV → Hp → Prop)
set_option maxHeartbeats 4000000 in
theorem step12n_pc (k : Int) (s : List UInt8) (hk : -9223372036854775808 ≤ k ∧ k ≤ 9223372036854775807) (hQ : Q (.tup [.agg (drA (newM (-1))), .bool true]) H) :
    PC Tryz.prog E 38 [.ptr none, .agg (drA (newM (-1))), .agg [.int .i64 k, .str s]] H Q := by
  refine pc_enterF (fun i => H.length ≤ i ∧ i ≠ H.length + 2) Tryz.func38 rfl [] [(5, [2, 0, 0, 2, 2, 0, 0, 2]), (8, [2, 0, 0, 2, 2, 0, 0, 2]), (11, [2, 0, 2, 0, 0, 2]), (15, [2, 0, 0, 0, 0, 2, 2, 2, 0, 2]), (17, [2, 0, 2, 0, 2, 0, 0, 2]), (19, [2, 0, 2, 0, 2, 0, 2]), (20, [2, 0, 2, 0, 2, 0, 0, 2, 0, 0, 2])] (by kernel_rfl) (fun E' hS' h0' hF' hB => ?_)
  have hd : drA (newM (-1)) = [.int .i64 (-1), .sl false 1 [], .str [], .sl false 9 [], .int .i64 0, .bool false, .bool false] := rfl
  simp [Tryz.ntmps38, Tryz.results38, List.replicate_succ, hd]
  refine kind12_pc E' _ _ k 7 (by decide) (by decide) hk.1 hk.2 ?_
  have hk7 := Int.emod_nonneg k (by decide : (7 : Int) ≠ 0)
  have hk8 := Int.emod_lt_of_pos k (by decide : (0 : Int) < 7)
  have hcases : k % 7 = 0 ∨ k % 7 = 1 ∨ k % 7 = 2 ∨ k % 7 = 3 ∨ k % 7 = 4 ∨ k % 7 = 5 ∨ k % 7 = 6 := by omega
  have hS0 : E'.S H.length := by rw [hS']; exact ⟨by omega, by omega⟩
  have hS1 : E'.S (H.length + 1) := by rw [hS']; exact ⟨by omega, by omega⟩
  have hS3 : E'.S (H.length + 3) := by rw [hS']; exact ⟨by omega, by omega⟩
  have hS4 : E'.S (H.length + 4) := by rw [hS']; exact ⟨by omega, by omega⟩
  have hS5 : E'.S (H.length + 5) := by rw [hS']; exact ⟨by omega, by omega⟩
  have hS22 : ¬ E'.S (H.length + 2) := by rw [hS']; exact fun h => h.2 rfl
  have ef : dfeedM (newM (-1)) s = (newM (-1), 0) := rfl
  have ea : daskM (newM (-1)) s = (newM (-1), 0) := rfl
  have ee : dendM (newM (-1)) = (newM (-1), 0) := rfl
  have en : nextM (newM (-1)) = (newM (-1), rep0, false) := rfl
  have fin : ∀ fr J, ares Tryz.prog fr (H ++ J) [.cell 6 81, .tmp 7] = some (.tup [.agg (drA (newM (-1))), .bool true]) → aPost Tryz.prog [.cell 6 81, .tmp 7] H.length Q .ret fr (H ++ J) := fun fr J h =>
    aPost_same hB h (nilV_refl _) (by simp [hd]) hQ
  rcases hcases with h0 | h0 | h0 | h0 | h0 | h0 | h0
  · rw [h0]
    simp
    rw [← hd]
    refine drfeed_pc E' _ _ (newM (-1)) s (fun h => absurd h (by decide)) ?_
    rw [ef, hd]
    simp
    refine ⟨hS0, hS1, ?_⟩
    refine rfeed0_pc E' _ _ s ?_
    simp [hS22]
    exact fin _ _ (by simp [hd])
  · rw [h0]
    simp
    rw [← hd]
    refine drask_pc E' _ _ (newM (-1)) s (by simp [newM]) ?_
    rw [ea, hd]
    simp
    refine ⟨hS0, hS1, ?_⟩
    refine rask0_pc E' _ _ s ?_
    simp [hS22]
    exact fin _ _ (by simp [hd])
  · rw [h0]
    simp
    rw [← hd]
    refine drend_pc E' _ _ (newM (-1)) (fun h => absurd h (by decide)) ?_
    rw [ee, hd]
    simp
    refine ⟨hS0, ?_⟩
    refine rend0_pc E' _ _ ?_
    simp [hS22]
    exact fin _ _ (by simp [hd])
  · rw [h0]
    simp
    rw [← hd]
    refine drnext_pc E' _ _ (newM (-1)) ?_
    rw [en, hd]
    simp [Rep.avs]
    refine rnext0_pc E' _ _ ?_
    simp [Rep.avs, hS3, hS4, hS5]
    refine sameReply_pc E' _ _ rep0 (by simp [rep0]) (by simp [rep0]) ?_
    simp [hS22, hS3]
    exact fin _ _ (by simp [hd])
  · rw [h0]
    simp
    refine ⟨hS0, ?_⟩
    refine rasked0_pc E' _ _ ?_
    simp [hS0, hS22]
    exact fin _ _ (by simp [hd])
  · rw [h0]
    simp
    refine ⟨hS0, ?_⟩
    refine rerr0_pc E' _ _ ?_
    simp [hS0, hS22]
    exact fin _ _ (by simp [hd])
  · rw [h0]
    simp
    refine ⟨hS0, ?_⟩
    refine rover0_pc E' _ _ ?_
    simp [hS0, hS22]
    exact fin _ _ (by simp [hd])
end
end Go.Proofs.YtcdkcaocfioigaaGreatDoor

set_option linter.unusedVariables false
set_option linter.unnecessarySimpa false
set_option linter.unusedSimpArgs false
set_option linter.unusedSectionVars false
set_option maxRecDepth 100000
namespace Go.Proofs.YtcdkcaocfioigaaGreatDoor
open Go Go.RowKit Go.Proofs

theorem feed_over {r : RM} (ho : ovR r) (s : List UInt8) : ovR (feedM r s).1 := by
  unfold feedM
  split
  · exact ho
  · split
    · exact ho
    · rename_i h1 h2
      exact readR_over _ _ (fun e => absurd e h2)
theorem end_over {r : RM} (ho : ovR r) : ovR (endM r).1 := by
  have hR : ∀ a : RM, ovR a → ovR (restM a) := fun a ha => by
    unfold restM
    split
    · exact ha
    · exact ha
  unfold endM
  split
  · exact ho
  · simp only
    refine hR _ ?_
    split
    · exact ho
    · rename_i h2
      exact readR_over _ _ (fun e => absurd e h2)
theorem step_over {r : RM} (ho : ovR r) (k : Int) (s : List UInt8) : ovR (stepM r k s) := by
  unfold stepM
  split
  · exact feed_over ho s
  · split
    · unfold daskM
      split
      · exact ho
      · split
        · exact ho
        · exact ho
    · split
      · exact end_over ho
      · split
        · unfold nextM
          split
          · exact ho
          · exact ho
        · exact ho
theorem readR_most : ∀ (n : Nat) (r : RM), (readR n r).most = r.most
  | 0, r => rfl
  | n + 1, r => by
    rw [readR]
    split
    · rw [readR_most n]; exact (oneR_keeps r).2.1
    · exact (oneR_keeps r).2.1
theorem step_most (r : RM) (k : Int) (s : List UInt8) : (stepM r k s).most = r.most := by
  unfold stepM
  split
  · unfold feedM
    split
    · rfl
    · split
      · rfl
      · exact readR_most _ _
  · split
    · unfold daskM
      split
      · rfl
      · split <;> rfl
    · split
      · unfold endM
        split
        · rfl
        · have hR : ∀ a : RM, (restM a).most = a.most := fun a => by unfold restM; split <;> rfl
          simp only
          rw [hR]
          split
          · rfl
          · exact readR_most _ _
      · split
        · unfold nextM
          split <;> rfl
        · rfl
/-- What is held grows by what is fed at the most. -/
theorem step_held (r : RM) (k : Int) (s : List UInt8) : heldM (stepM r k s) ≤ heldM r + s.length := by
  unfold stepM
  split
  · exact feedM_held r s
  · split
    · unfold daskM
      split
      · exact Nat.le_add_right _ _
      · split
        · exact Nat.le_add_right _ _
        · exact Nat.le_add_right _ _
    · split
      · exact Nat.le_trans (endM_held r) (Nat.le_add_right _ _)
      · split
        · unfold nextM heldM
          split
          · exact Nat.le_add_right _ _
          · rename_i x d hd
            simp only [hd, List.length_cons]
            omega
        · exact Nat.le_add_right _ _
theorem step_ok {r : RM} {k : Int} {s : List UInt8} (hok : okM (r.put s)) : okM (stepM r k s) := by
  have hok0 : okM r := ⟨by have := hok.1; simp only [RM.put, List.length_append] at this; omega, hok.2.1, hok.2.2.1, hok.2.2.2⟩
  unfold stepM
  split
  · exact feedM_ok hok
  · split
    · unfold daskM
      split
      · exact hok0
      · split
        · exact hok0
        · rename_i h1 h2
          exact ⟨hok0.1, by simp only [List.length_append, List.length_cons, List.length_nil]; omega, hok0.2.2.1, hok0.2.2.2⟩
    · split
      · exact endM_ok hok0
      · split
        · unfold nextM
          split
          · exact hok0
          · rename_i x d hd
            exact okM_done hok0 d (fun y hy => by rw [hd]; exact List.mem_cons_of_mem _ hy) (by rw [hd]; simp)
        · exact hok0
end Go.Proofs.YtcdkcaocfioigaaGreatDoor

set_option linter.unusedVariables false
set_option linter.unnecessarySimpa false
set_option linter.unusedSimpArgs false
set_option linter.unusedSectionVars false
set_option maxRecDepth 100000
namespace Go.Proofs.YtcdkcaocfioigaaGreatDoor
open Go Go.RowKit Go.Proofs

section
variable {H : Hp} {S x y : List AV} {J : Hp}
theorem p3a (a b : List AV) : put2 (H ++ (S :: x :: y :: J)) (H.length + 1) a b = H ++ (S :: a :: b :: J) := by
  unfold put2
  rw [List.set_append_right _ _ (by omega), List.set_append_right _ _ (by omega), show H.length + 1 - H.length = 1 by omega, show H.length + 1 + 1 - H.length = 2 by omega]
  rfl
theorem PC.at3 {P : Program} {E : Env} {f : FuncId} {args : List AV} {Q : AV → Hp → Prop} (h : PC P E f args (put2 (H ++ (S :: x :: y :: J)) (H.length + 1) x y) Q) : PC P E f args (H ++ (S :: x :: y :: J)) Q := by
  rw [p3a] at h; exact h
end
section
variable (E : Env) (H : Hp) (Q : AV → Hp → Prop)
def mrdI (sc : List COp) (S : List AV) (H : Hp) (fr : List AV) (H' : Hp) : Prop := ∃ (r : RM) (i : Nat) (J : Hp), i ≤ sc.length ∧ okM r ∧ ovR r ∧ 0 ≤ r.most ∧ heldM r + txs (sc.drop i) ≤ 1048577 ∧
  H' = H ++ (S :: smB r :: rmB (H.length + 1) r :: drA r :: J) ∧
  ∃ x : Nat → AV, fr = [x 0, x 1, x 2, x 3, x 4, .ptr (some (H.length + 2, 0)), .ptr (some (H.length + 3, 0)), x 7, x 8, x 9, x 10, x 11, x 12, x 13, x 14, x 15, x 16, x 17, x 18, x 19, .sl false 2 (cops sc), .int .i64 sc.length, .int .i64 i, x 23, x 24, x 25, x 26, x 27, x 28, x 29, x 30, x 31, x 32, x 33, x 34, x 35]
def mrdN (sc : List COp) (H : Hp) (fr : List AV) (H' : Hp) : Prop := ∃ (i : Nat) (J : Hp), i ≤ sc.length ∧ H' = H ++ (drA (newM (-1)) :: J) ∧
  ∃ x : Nat → AV, fr = [x 0, x 1, x 2, x 3, x 4, .ptr none, .ptr (some (H.length, 0)), x 7, x 8, x 9, x 10, x 11, x 12, x 13, x 14, x 15, x 16, x 17, x 18, x 19, .sl false 2 (cops sc), .int .i64 sc.length, .int .i64 i, x 23, x 24, x 25, x 26, x 27, x 28, x 29, x 30, x 31, x 32, x 33, x 34, x 35]
set_option maxHeartbeats 4000000 in
theorem mreads_pc (hE : SM E) (most : Int) (hm : -9223372036854775808 ≤ most ∧ most ≤ 9223372036854775807) (sc : List COp) (hl : sc.length ≤ 1048576) (hok : ∀ o ∈ sc, o.wf) (ht : txs sc ≤ 1048576) (hQ : Q (.bool true) H) :
    PC Tryz.prog E 9 [.int .i64 most, .sl false 2 (cops sc)] H Q := by
  refine pc_enter Tryz.func9 rfl [] [] (by kernel_rfl) (fun hB => ?_)
  simp [Tryz.ntmps9, Tryz.results9, List.replicate_succ]
  refine awake12_pc E _ _ hE ?_
  simp
  refine begun_pc E _ _ most (fun h0 S hS => ?_) (fun h0 => ?_)
  · simp [drA]
    refine VL_go (mrdI sc S H) (fun fr _ => sc.length - (ai (aget fr 22)).toNat) ⟨newM most, 0, [], by omega, ⟨by simp [newM], by simp [newM], ⟨h0, hm.2⟩, by simp [newM]⟩, fun _ => rfl, h0, by simp [heldM, newM]; omega, by simp [drA], fr_intro (by simp)⟩ ?_
    rintro fr H' ⟨r, i, J, hi, hokr, hov, hmr, hh, rfl, x, rfl⟩
    by_cases h : i < sc.length
    · obtain ⟨o, ho⟩ : ∃ o, sc[i]? = some o := ⟨_, List.getElem?_eq_getElem h⟩
      have hat := cops_at ho
      have hoo := hok o (List.mem_of_getElem? ho)
      have htx := txs_drop ho
      have hw : IntKind.i64.wrap ((i : Int) + 1) = i + 1 := wrap_in (by omega) (by omega)
      have hokp : okM (r.put o.s) := okM_put hokr _ (by unfold heldM at hh; omega)
      have hheld := step_held r o.k o.s
      simp [h, hat, COp.av, drA]
      have hr5 : [AV.int .i64 r.most, .sl false 1 (strs r.asked), .str r.bytes, .sl false 9 (repsA r.done), .int .i64 r.err, .bool r.over, .bool r.ended] = drA r := rfl
      rw [hr5]
      refine PC.at3 ?_
      refine step12_pc E _ _ (H.length + 1) r (by simp; omega) hE.1.1 o.k o.s hoo hokp hov hmr ?_
      rw [p3a]
      simp [drA, hw]
      exact Kloop_normal ⟨stepM r o.k o.s, i + 1, _, by omega, step_ok hokp, step_over hov _ _, by rw [step_most]; exact hmr, by omega, by simp [drA]; rfl, fr_intro (by simp)⟩ (by simp; omega)
    · simp [h]
      exact aPost_same hB rfl (nilV_refl _) (by simp) hQ
  · simp [drA]
    refine VL_go (mrdN sc H) (fun fr _ => sc.length - (ai (aget fr 22)).toNat) ⟨0, [], by omega, by simp [drA], fr_intro (by simp)⟩ ?_
    rintro fr H' ⟨i, J, hi, rfl, x, rfl⟩
    by_cases h : i < sc.length
    · obtain ⟨o, ho⟩ : ∃ o, sc[i]? = some o := ⟨_, List.getElem?_eq_getElem h⟩
      have hat := cops_at ho
      have hoo := hok o (List.mem_of_getElem? ho)
      have hw : IntKind.i64.wrap ((i : Int) + 1) = i + 1 := wrap_in (by omega) (by omega)
      simp [h, hat, COp.av, drA]
      refine step12n_pc E _ _ o.k o.s hoo ?_
      simp [drA, hw]
      exact Kloop_normal ⟨i + 1, _, by omega, by simp [drA]; rfl, fr_intro (by simp)⟩ (by simp; omega)
    · simp [h]
      exact aPost_same hB rfl (nilV_refl _) (by simp) hQ
end
end Go.Proofs.YtcdkcaocfioigaaGreatDoor

set_option linter.unusedVariables false
set_option linter.unnecessarySimpa false
set_option linter.unusedSimpArgs false
set_option linter.unusedSectionVars false
set_option maxRecDepth 100000
namespace Go.Proofs.YtcdkcaocfioigaaGreatDoor
open Go Go.RowKit Go.Proofs

section
variable {H : Hp} {S S2 S3 S4 S5 x y : List AV} {J : Hp}
theorem p3b (a b : List AV) : put2 (H ++ (S :: S2 :: x :: y :: J)) (H.length + 2) a b = H ++ (S :: S2 :: a :: b :: J) := by
  unfold put2
  rw [List.set_append_right _ _ (by omega), List.set_append_right _ _ (by omega), show H.length + 2 - H.length = 2 by omega, show H.length + 2 + 1 - H.length = 3 by omega]
  rfl
theorem p3e (a b : List AV) : put2 (H ++ (S :: S2 :: S3 :: S4 :: S5 :: x :: y :: J)) (H.length + 5) a b = H ++ (S :: S2 :: S3 :: S4 :: S5 :: a :: b :: J) := by
  unfold put2
  rw [List.set_append_right _ _ (by omega), List.set_append_right _ _ (by omega), show H.length + 5 - H.length = 5 by omega, show H.length + 5 + 1 - H.length = 6 by omega]
  rfl
theorem PC.at3b {P : Program} {E : Env} {f : FuncId} {args : List AV} {Q : AV → Hp → Prop} (h : PC P E f args (put2 (H ++ (S :: S2 :: x :: y :: J)) (H.length + 2) x y) Q) : PC P E f args (H ++ (S :: S2 :: x :: y :: J)) Q := by
  rw [p3b] at h; exact h
theorem PC.at3e {P : Program} {E : Env} {f : FuncId} {args : List AV} {Q : AV → Hp → Prop} (h : PC P E f args (put2 (H ++ (S :: S2 :: S3 :: S4 :: S5 :: x :: y :: J)) (H.length + 5) x y) Q) : PC P E f args (H ++ (S :: S2 :: S3 :: S4 :: S5 :: x :: y :: J)) Q := by
  rw [p3e] at h; exact h
end
/-- What a reader of a script keeps. -/
structure RdOk (sc : List COp) (i : Nat) (r : RM) : Prop where
  ok : okM r
  over : ovR r
  most : 0 ≤ r.most
  held : heldM r + txs (sc.drop i) ≤ 1048577
theorem RdOk.put {sc : List COp} {i : Nat} {r : RM} (h : RdOk sc i r) {o : COp} (ho : sc[i]? = some o) : okM (r.put o.s) := by
  have := h.held
  have := txs_drop ho
  exact okM_put h.ok _ (by unfold heldM at *; omega)
theorem RdOk.step {sc : List COp} {i : Nat} {r : RM} (h : RdOk sc i r) {o : COp} (ho : sc[i]? = some o) : RdOk sc (i + 1) (stepM r o.k o.s) := by
  have h1 := step_held r o.k o.s
  have h2 := txs_drop ho
  have h3 := h.held
  exact ⟨step_ok (h.put ho), step_over h.over _ _, by rw [step_most]; exact h.most, by omega⟩
theorem RdOk.skip {sc : List COp} {i : Nat} {r : RM} (h : RdOk sc i r) {o : COp} (ho : sc[i]? = some o) : RdOk sc (i + 1) r := by
  have h2 := txs_drop ho
  have h3 := h.held
  exact ⟨h.ok, h.over, h.most, by omega⟩
theorem RdOk.new {sc : List COp} (ht : txs sc ≤ 1048576) {m : Int} (h0 : 0 ≤ m) (hm : m ≤ 9223372036854775807) : RdOk sc 0 (newM m) :=
  ⟨⟨by simp [newM], by simp [newM], ⟨h0, hm⟩, by simp [newM]⟩, fun _ => rfl, h0, by simp [heldM, newM]; omega⟩
section
variable (E : Env) (H : Hp) (Q : AV → Hp → Prop)
def mtI11 (sc : List COp) (S : List AV) (T : List AV) (H : Hp) (fr : List AV) (H' : Hp) : Prop := ∃ (r : RM) (q : RM) (i : Nat) (J : Hp), i ≤ sc.length ∧ RdOk sc i r ∧ RdOk sc i q ∧ H' = H ++ (S :: smB r :: rmB (H.length + 1) r :: drA r :: T :: smB q :: rmB (H.length + 5) q :: drA q :: J) ∧
  ∃ x : Nat → AV, fr = [x 0, x 1, x 2, x 3, x 4, x 5, x 6, .ptr (some (H.length + 2, 0)), .ptr (some (H.length + 3, 0)), x 9, .ptr (some (H.length + 6, 0)), .ptr (some (H.length + 7, 0)), x 12, x 13, x 14, x 15, x 16, x 17, x 18, x 19, x 20, x 21, x 22, x 23, x 24, x 25, x 26, x 27, x 28, x 29, x 30, x 31, x 32, x 33, x 34, .sl false 2 (cops sc), .int .i64 sc.length, .int .i64 i, x 38, x 39, x 40, x 41, x 42, x 43, x 44, x 45, x 46, x 47, x 48, x 49, x 50, x 51, x 52, x 53, x 54, x 55, x 56, x 57, x 58, x 59, x 60, x 61]
def mtI10 (sc : List COp) (S : List AV) (H : Hp) (fr : List AV) (H' : Hp) : Prop := ∃ (r : RM) (i : Nat) (J : Hp), i ≤ sc.length ∧ RdOk sc i r ∧ H' = H ++ (S :: smB r :: rmB (H.length + 1) r :: drA r :: drA (newM (-1)) :: J) ∧
  ∃ x : Nat → AV, fr = [x 0, x 1, x 2, x 3, x 4, x 5, x 6, .ptr (some (H.length + 2, 0)), .ptr (some (H.length + 3, 0)), x 9, .ptr none, .ptr (some (H.length + 4, 0)), x 12, x 13, x 14, x 15, x 16, x 17, x 18, x 19, x 20, x 21, x 22, x 23, x 24, x 25, x 26, x 27, x 28, x 29, x 30, x 31, x 32, x 33, x 34, .sl false 2 (cops sc), .int .i64 sc.length, .int .i64 i, x 38, x 39, x 40, x 41, x 42, x 43, x 44, x 45, x 46, x 47, x 48, x 49, x 50, x 51, x 52, x 53, x 54, x 55, x 56, x 57, x 58, x 59, x 60, x 61]
def mtI01 (sc : List COp) (T : List AV) (H : Hp) (fr : List AV) (H' : Hp) : Prop := ∃ (q : RM) (i : Nat) (J : Hp), i ≤ sc.length ∧ RdOk sc i q ∧ H' = H ++ (drA (newM (-1)) :: T :: smB q :: rmB (H.length + 2) q :: drA q :: J) ∧
  ∃ x : Nat → AV, fr = [x 0, x 1, x 2, x 3, x 4, x 5, x 6, .ptr none, .ptr (some (H.length, 0)), x 9, .ptr (some (H.length + 3, 0)), .ptr (some (H.length + 4, 0)), x 12, x 13, x 14, x 15, x 16, x 17, x 18, x 19, x 20, x 21, x 22, x 23, x 24, x 25, x 26, x 27, x 28, x 29, x 30, x 31, x 32, x 33, x 34, .sl false 2 (cops sc), .int .i64 sc.length, .int .i64 i, x 38, x 39, x 40, x 41, x 42, x 43, x 44, x 45, x 46, x 47, x 48, x 49, x 50, x 51, x 52, x 53, x 54, x 55, x 56, x 57, x 58, x 59, x 60, x 61]
def mtI00 (sc : List COp) (H : Hp) (fr : List AV) (H' : Hp) : Prop := ∃ (i : Nat) (J : Hp), i ≤ sc.length ∧ H' = H ++ (drA (newM (-1)) :: drA (newM (-1)) :: J) ∧
  ∃ x : Nat → AV, fr = [x 0, x 1, x 2, x 3, x 4, x 5, x 6, .ptr none, .ptr (some (H.length, 0)), x 9, .ptr none, .ptr (some (H.length + 1, 0)), x 12, x 13, x 14, x 15, x 16, x 17, x 18, x 19, x 20, x 21, x 22, x 23, x 24, x 25, x 26, x 27, x 28, x 29, x 30, x 31, x 32, x 33, x 34, .sl false 2 (cops sc), .int .i64 sc.length, .int .i64 i, x 38, x 39, x 40, x 41, x 42, x 43, x 44, x 45, x 46, x 47, x 48, x 49, x 50, x 51, x 52, x 53, x 54, x 55, x 56, x 57, x 58, x 59, x 60, x 61]
set_option maxHeartbeats 8000000 in
theorem mtwo_pc (hE : SM E) (m1 m2 : Int) (hm1 : -9223372036854775808 ≤ m1 ∧ m1 ≤ 9223372036854775807) (hm2 : -9223372036854775808 ≤ m2 ∧ m2 ≤ 9223372036854775807) (sc : List COp) (hl : sc.length ≤ 1048576) (hok : ∀ o ∈ sc, o.wf) (ht : txs sc ≤ 1048576) (hQ : Q (.bool true) H) :
    PC Tryz.prog E 10 [.int .i64 m1, .int .i64 m2, .sl false 2 (cops sc)] H Q := by
  refine pc_enter Tryz.func10 rfl [] [] (by kernel_rfl) (fun hB => ?_)
  have hd0 : [AV.int .i64 (-1), .sl false 1 [], .str [], .sl false 9 [], .int .i64 0, .bool false, .bool false] = drA (newM (-1)) := rfl
  have hdr : ∀ r : RM, [AV.int .i64 r.most, .sl false 1 (strs r.asked), .str r.bytes, .sl false 9 (repsA r.done), .int .i64 r.err, .bool r.over, .bool r.ended] = drA r := fun r => rfl
  simp [Tryz.ntmps10, Tryz.results10, List.replicate_succ]
  refine awake12_pc E _ _ hE ?_
  simp
  refine begun_pc E _ _ m1 (fun h1 S hS => ?_) (fun h1 => ?_)
  · simp [drA]
    refine begun_pc E _ _ m2 (fun h2 T hT => ?_) (fun h2 => ?_)
    · simp [drA]
      refine VL_go (mtI11 sc S T H) (fun fr _ => sc.length - (ai (aget fr 37)).toNat) ⟨newM m1, newM m2, 0, [], by omega, .new ht h1 hm1.2, .new ht h2 hm2.2, by simp [drA], fr_intro (by simp)⟩ ?_
      rintro fr H' ⟨r, q, i, J, hi, hr, hq, rfl, x, rfl⟩
      by_cases h : i < sc.length
      · obtain ⟨o, ho⟩ : ∃ o, sc[i]? = some o := ⟨_, List.getElem?_eq_getElem h⟩
        have hat := cops_at ho
        have hoo := hok o (List.mem_of_getElem? ho)
        have hw : IntKind.i64.wrap ((i : Int) + 1) = i + 1 := wrap_in (by omega) (by omega)
        by_cases hpar : i % 2 = 0
        · have hp0 : (i : Int).tmod 2 = 0 := by rw [Int.tmod_eq_emod_of_nonneg (by omega)]; omega
          simp [h, hat, COp.av, drA, hp0]
          rw [hdr r]
          refine PC.at3 ?_
          refine step12_pc E _ _ (H.length + 1) r (by simp; omega) hE.1.1 o.k o.s hoo (hr.put ho) hr.over hr.most ?_
          rw [p3a]
          simp [drA, hw]
          exact Kloop_normal ⟨stepM r o.k o.s, q, i + 1, _, by omega, hr.step ho, hq.skip ho, by simp [drA]; rfl, fr_intro (by simp)⟩ (by simp; omega)
        · have hp0 : (i : Int).tmod 2 = 1 := by rw [Int.tmod_eq_emod_of_nonneg (by omega)]; omega
          simp [h, hat, COp.av, drA, hp0]
          rw [hdr q]
          refine PC.at3e ?_
          refine step12_pc E _ _ (H.length + 5) q (by simp; omega) hE.1.1 o.k o.s hoo (hq.put ho) hq.over hq.most ?_
          rw [p3e]
          simp [drA, hw]
          exact Kloop_normal ⟨r, stepM q o.k o.s, i + 1, _, by omega, hr.skip ho, hq.step ho, by simp [drA]; rfl, fr_intro (by simp)⟩ (by simp; omega)
      · simp [h]
        exact aPost_same hB rfl (nilV_refl _) (by simp) hQ
    · simp [drA]
      refine VL_go (mtI10 sc S H) (fun fr _ => sc.length - (ai (aget fr 37)).toNat) ⟨newM m1, 0, [], by omega, .new ht h1 hm1.2, by simp [drA], fr_intro (by simp)⟩ ?_
      rintro fr H' ⟨r, i, J, hi, hr, rfl, x, rfl⟩
      by_cases h : i < sc.length
      · obtain ⟨o, ho⟩ : ∃ o, sc[i]? = some o := ⟨_, List.getElem?_eq_getElem h⟩
        have hat := cops_at ho
        have hoo := hok o (List.mem_of_getElem? ho)
        have hw : IntKind.i64.wrap ((i : Int) + 1) = i + 1 := wrap_in (by omega) (by omega)
        by_cases hpar : i % 2 = 0
        · have hp0 : (i : Int).tmod 2 = 0 := by rw [Int.tmod_eq_emod_of_nonneg (by omega)]; omega
          simp [h, hat, COp.av, drA, hp0]
          rw [hdr r]
          refine PC.at3 ?_
          refine step12_pc E _ _ (H.length + 1) r (by simp; omega) hE.1.1 o.k o.s hoo (hr.put ho) hr.over hr.most ?_
          rw [p3a]
          simp [drA, hw]
          exact Kloop_normal ⟨stepM r o.k o.s, i + 1, _, by omega, hr.step ho, by simp [drA]; rfl, fr_intro (by simp)⟩ (by simp; omega)
        · have hp0 : (i : Int).tmod 2 = 1 := by rw [Int.tmod_eq_emod_of_nonneg (by omega)]; omega
          simp [h, hat, COp.av, drA, hp0]
          refine step12n_pc E _ _ o.k o.s hoo ?_
          simp [drA, hw]
          exact Kloop_normal ⟨r, i + 1, _, by omega, hr.skip ho, by simp [drA]; rfl, fr_intro (by simp)⟩ (by simp; omega)
      · simp [h]
        exact aPost_same hB rfl (nilV_refl _) (by simp) hQ
  · simp [drA]
    refine begun_pc E _ _ m2 (fun h2 T hT => ?_) (fun h2 => ?_)
    · simp [drA]
      refine VL_go (mtI01 sc T H) (fun fr _ => sc.length - (ai (aget fr 37)).toNat) ⟨newM m2, 0, [], by omega, .new ht h2 hm2.2, by simp [drA], fr_intro (by simp)⟩ ?_
      rintro fr H' ⟨q, i, J, hi, hq, rfl, x, rfl⟩
      by_cases h : i < sc.length
      · obtain ⟨o, ho⟩ : ∃ o, sc[i]? = some o := ⟨_, List.getElem?_eq_getElem h⟩
        have hat := cops_at ho
        have hoo := hok o (List.mem_of_getElem? ho)
        have hw : IntKind.i64.wrap ((i : Int) + 1) = i + 1 := wrap_in (by omega) (by omega)
        by_cases hpar : i % 2 = 0
        · have hp0 : (i : Int).tmod 2 = 0 := by rw [Int.tmod_eq_emod_of_nonneg (by omega)]; omega
          simp [h, hat, COp.av, drA, hp0]
          refine step12n_pc E _ _ o.k o.s hoo ?_
          simp [drA, hw]
          exact Kloop_normal ⟨q, i + 1, _, by omega, hq.skip ho, by simp [drA]; rfl, fr_intro (by simp)⟩ (by simp; omega)
        · have hp0 : (i : Int).tmod 2 = 1 := by rw [Int.tmod_eq_emod_of_nonneg (by omega)]; omega
          simp [h, hat, COp.av, drA, hp0]
          rw [hdr q]
          refine PC.at3b ?_
          refine step12_pc E _ _ (H.length + 2) q (by simp; omega) hE.1.1 o.k o.s hoo (hq.put ho) hq.over hq.most ?_
          rw [p3b]
          simp [drA, hw]
          exact Kloop_normal ⟨stepM q o.k o.s, i + 1, _, by omega, hq.step ho, by simp [drA]; rfl, fr_intro (by simp)⟩ (by simp; omega)
      · simp [h]
        exact aPost_same hB rfl (nilV_refl _) (by simp) hQ
    · simp [drA]
      refine VL_go (mtI00 sc H) (fun fr _ => sc.length - (ai (aget fr 37)).toNat) ⟨0, [], by omega, by simp [drA], fr_intro (by simp)⟩ ?_
      rintro fr H' ⟨i, J, hi, rfl, x, rfl⟩
      by_cases h : i < sc.length
      · obtain ⟨o, ho⟩ : ∃ o, sc[i]? = some o := ⟨_, List.getElem?_eq_getElem h⟩
        have hat := cops_at ho
        have hoo := hok o (List.mem_of_getElem? ho)
        have hw : IntKind.i64.wrap ((i : Int) + 1) = i + 1 := wrap_in (by omega) (by omega)
        by_cases hpar : i % 2 = 0
        · have hp0 : (i : Int).tmod 2 = 0 := by rw [Int.tmod_eq_emod_of_nonneg (by omega)]; omega
          simp [h, hat, COp.av, drA, hp0]
          refine step12n_pc E _ _ o.k o.s hoo ?_
          simp [drA, hw]
          exact Kloop_normal ⟨i + 1, _, by omega, by simp [drA]; rfl, fr_intro (by simp)⟩ (by simp; omega)
        · have hp0 : (i : Int).tmod 2 = 1 := by rw [Int.tmod_eq_emod_of_nonneg (by omega)]; omega
          simp [h, hat, COp.av, drA, hp0]
          refine step12n_pc E _ _ o.k o.s hoo ?_
          simp [drA, hw]
          exact Kloop_normal ⟨i + 1, _, by omega, by simp [drA]; rfl, fr_intro (by simp)⟩ (by simp; omega)
      · simp [h]
        exact aPost_same hB rfl (nilV_refl _) (by simp) hQ
end
end Go.Proofs.YtcdkcaocfioigaaGreatDoor

set_option linter.unusedVariables false
set_option linter.unnecessarySimpa false
set_option linter.unusedSimpArgs false
set_option linter.unusedSectionVars false
set_option maxRecDepth 100000
namespace Go.Proofs.YtcdkcaocfioigaaGreatDoor
open Go Go.RowKit Go.Proofs Go.Deep

theorem mreads_true (W : World) (m : Int) (hm : -9223372036854775808 ≤ m ∧ m ≤ 9223372036854775807) (bo : Option Addr) (len cap : Nat) (rows : List (List AV)) (hr : Rel W (fun _ => 0) (old W) (.sl false 2 rows) (.slice bo len cap)) (hn : Bnd 0 (.sl false 2 rows))
    (hk : ∀ r ∈ rows, r.length = 2 ∧ ∀ (j : Nat) k y, coK[j]? = some k → r[j]? = some y → KindOf k y) (e : rows.length = len) (hb : wtA rows.flatten + len ≤ 1048576) (hT : Tabs W) :
    Calls Tryz.prog 9 #[.int .i64 m, .slice bo len cap] W fun e w' => e = .returned (.bool true) ∧ Frm (fun _ => False) W w' := by
  obtain ⟨sc, rfl, hs, ht⟩ := cops_of_rows rows hk
  refine calls_sm (args := [.int .i64 m, .sl false 2 (cops sc)]) hT rfl (fun t x u hx hu => ?_) (fun E Q hE h => mreads_pc E [] Q hE m hm sc (by simp at e; omega) hs (by omega) h)
  match t with
  | 0 => simp at hx hu; subst hx; subst hu; exact ⟨.int _ _, .int _ _, rfl⟩
  | 1 => simp at hx hu; subst hx; subst hu; exact ⟨hr, hn, rfl⟩
  | t + 2 => simp at hx
theorem mtwo_true (W : World) (m : Int) (hm : -9223372036854775808 ≤ m ∧ m ≤ 9223372036854775807) (m2 : Int) (hm2 : -9223372036854775808 ≤ m2 ∧ m2 ≤ 9223372036854775807) (bo : Option Addr) (len cap : Nat) (rows : List (List AV)) (hr : Rel W (fun _ => 0) (old W) (.sl false 2 rows) (.slice bo len cap)) (hn : Bnd 0 (.sl false 2 rows))
    (hk : ∀ r ∈ rows, r.length = 2 ∧ ∀ (j : Nat) k y, coK[j]? = some k → r[j]? = some y → KindOf k y) (e : rows.length = len) (hb : wtA rows.flatten + len ≤ 1048576) (hT : Tabs W) :
    Calls Tryz.prog 10 #[.int .i64 m, .int .i64 m2, .slice bo len cap] W fun e w' => e = .returned (.bool true) ∧ Frm (fun _ => False) W w' := by
  obtain ⟨sc, rfl, hs, ht⟩ := cops_of_rows rows hk
  refine calls_sm (args := [.int .i64 m, .int .i64 m2, .sl false 2 (cops sc)]) hT rfl (fun t x u hx hu => ?_) (fun E Q hE h => mtwo_pc E [] Q hE m m2 hm hm2 sc (by simp at e; omega) hs (by omega) h)
  match t with
  | 0 => simp at hx hu; subst hx; subst hu; exact ⟨.int _ _, .int _ _, rfl⟩
  | 1 => simp at hx hu; subst hx; subst hu; exact ⟨.int _ _, .int _ _, rfl⟩
  | 2 => simp at hx hu; subst hx; subst hu; exact ⟨hr, hn, rfl⟩
  | t + 3 => simp at hx
end Go.Proofs.YtcdkcaocfioigaaGreatDoor

set_option linter.unusedVariables false
set_option linter.unusedSimpArgs false
namespace Go.Proofs.YtcdkcaocfioigaaGreatDoor
open Go Go.ChangeShapes Go.WideShapes Go.ChangeAt Go.RowKit Go.Deep

theorem signsNamed : Tryz.prog.globalNamed "turnpike/octet.signs" = some 1 := by kernel_rfl
theorem signsType : (Tryz.prog.globals[1]?).map (·.type) = some 244 := by kernel_rfl
theorem signs_of_row {W : World} {rest : List (String × DataW Unit)} (h : laidMet Tryz.prog (("turnpike/octet.signs", Rows.laid_turnpike_octet_signs) :: rest) W) : Signs W := by
  have ht : Lib.TabIs Tryz.prog W "turnpike/octet.signs" .u32 signTab := Lib.tabIs_of_head (rest := rest) signsNamed signsType Tryz.underlying244 Tryz.underlying220 (by kernel_rfl) (by kernel_rfl) h
  intro j z hz
  have hj := (List.getElem?_eq_some_iff.1 hz).1
  have := ht.cell signsNamed j hj
  rw [List.getD, hz] at this
  exact this
end Go.Proofs.YtcdkcaocfioigaaGreatDoor

set_option linter.unusedVariables false
set_option linter.unusedSimpArgs false
namespace Go.Proofs.YtcdkcaocfioigaaGreatDoor
open Go Go.ChangeShapes Go.WideShapes Go.ChangeAt Go.RowKit Go.Deep

theorem dbNamed : Tryz.prog.globalNamed "math/bits.deBruijn64tab" = some 3 := by kernel_rfl
theorem dbType : (Tryz.prog.globals[3]?).map (·.type) = some 256 := by kernel_rfl
def dbTab : List Int := [0, 1, 56, 2, 57, 49, 28, 3, 61, 58, 42, 50, 38, 29, 17, 4, 62, 47, 59, 36, 45, 43, 51, 22, 53, 39, 33, 30, 24, 18, 12, 5, 63, 55, 48, 27, 60, 41, 37, 16, 46, 35, 44, 21, 52, 32, 23, 11, 54, 26, 40, 15, 34, 20, 31, 10, 25, 14, 19, 9, 13, 8, 7, 6]
theorem tz_of_row {W : World} {rest : List (String × DataW Unit)} (h : laidMet Tryz.prog (("math/bits.deBruijn64tab", Rows.laid_math_bits_deBruijn64tab) :: rest) W) : Tz W := by
  have ht : Lib.TabIs Tryz.prog W "math/bits.deBruijn64tab" .u8 dbTab := Lib.tabIs_of_head (rest := rest) dbNamed dbType Tryz.underlying256 Tryz.underlying5 (by kernel_rfl) (by kernel_rfl) h
  exact ht.cell dbNamed 15 (by decide)
end Go.Proofs.YtcdkcaocfioigaaGreatDoor

