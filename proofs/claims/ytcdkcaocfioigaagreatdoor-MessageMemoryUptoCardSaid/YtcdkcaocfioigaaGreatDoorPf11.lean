/- Part 11 of the texts below the law: the abstract machine, the functions that it walks, what they compute. -/
import Derived.Test.YtcdkcaocfioigaaGreatDoorPf10
import Derived.Test.YtcdkcaocfioigaaGreatDoorCards
import Derived.Test.YtcdkcaocfioigaaGreatDoorTie
import Derived.Deep.DeepHandedRow
import Derived.Lib.LaidTab
import Derived.ChangeMaps5
import Derived.Lay
import Derived.Stop.LaidErr
import Derived.JoinedCond
set_option linter.unusedVariables false
set_option linter.unusedSimpArgs false
namespace Go.Proofs.YtcdkcaocfioigaaGreatDoor
open Go Go.RowKit

def noCall (o : Oper) : Bool := match o.op with
  | .call _ => false
  | _ => true
/-- THE TEST, but for the two operations at i and i + 1. -/
def twoA (i : Nat) (B : List Tmp) (pf : List Nat) (ops : Array Oper) : Bool :=
  let M := (Region.before ops).toList
  backB ops && closeB M ops && decide (i + 1 < ops.size) && ops.toList.all noCall &&
  ((List.range ops.size).all fun j => match ops[j]? with
    | some oj => ((List.range j).all fun k => (M.getD j 0).testBit k || (k == i && j == i + 1) || match ops[k]? with
      | some ok => okP B ops ok oj (pf.getD k 0) (pf.getD j 0)
      | none => false)
    | none => false)
/-- The text's order, with i and i + 1 changed. -/
def swO (n i : Nat) : List Nat := List.range i ++ (i + 1) :: i :: List.range' (i + 2) (n - i - 2)
theorem split_at {σ : List Nat} (hn : σ.Nodup) {k : Nat} (hk : k ∈ σ) {p : Nat → Bool} (hp : p k = true) : ∃ a b, σ = a ++ k :: b ∧ σ.filter p = a.filter p ++ k :: b.filter p ∧ σ.filter (fun i => p i && decide (i ≠ k)) = a.filter p ++ b.filter p := by
  obtain ⟨a, b, rfl⟩ := List.append_of_mem hk
  rw [List.nodup_append] at hn
  obtain ⟨_, h2, h3⟩ := hn
  rw [List.nodup_cons] at h2
  refine ⟨a, b, rfl, ?_, ?_⟩
  · rw [List.filter_append, List.filter_cons_of_pos hp]
  · rw [List.filter_append, List.filter_cons_of_neg (by simp)]
    congr 1
    · refine List.filter_congr fun x hx => ?_
      have : x ≠ k := fun e => h3 x hx k (by simp) e
      simp [this]
    · refine List.filter_congr fun x hx => ?_
      have : x ≠ k := fun e => h2.1 (e ▸ hx)
      simp [this]
theorem range_cut {n i : Nat} (h : i + 1 < n) : List.range n = List.range i ++ i :: (i + 1) :: List.range' (i + 2) (n - i - 2) := by
  obtain ⟨d, rfl⟩ : ∃ d, n = i + (d + 2) := ⟨n - i - 2, by omega⟩
  rw [List.range_add, show i + (d + 2) - i - 2 = d by omega]
  congr 1
  rw [List.range_eq_range', List.map_add_range', Nat.add_zero, List.range'_succ, List.range'_succ]
theorem swO_pair {n i : Nat} : (swO n i).Pairwise fun x y => (x < y ∧ ¬ (x = i ∧ y = i + 1)) ∨ (x = i + 1 ∧ y = i) := by
  unfold swO
  rw [List.pairwise_append]
  refine ⟨List.pairwise_lt_range.imp_of_mem fun {x y} hx hy h => ?_, ?_, ?_⟩
  · rw [List.mem_range] at hx hy
    exact .inl ⟨h, by omega⟩
  · rw [List.pairwise_cons, List.pairwise_cons]
    refine ⟨fun y hy => ?_, fun y hy => ?_, ?_⟩
    · rcases List.mem_cons.1 hy with rfl | hy
      · exact .inr ⟨rfl, rfl⟩
      · rw [List.mem_range'_1] at hy; exact .inl ⟨by omega, by omega⟩
    · rw [List.mem_range'_1] at hy; exact .inl ⟨by omega, by omega⟩
    · refine List.Pairwise.imp_of_mem (R := (· < ·)) (fun {x y} hx hy h => ?_) (by exact List.pairwise_lt_range')
      rw [List.mem_range'_1] at hx hy
      exact .inl ⟨h, by omega⟩
  · intro x hx y hy
    rw [List.mem_range] at hx
    rcases List.mem_cons.1 hy with rfl | hy
    · exact .inl ⟨by omega, by omega⟩
    rcases List.mem_cons.1 hy with rfl | hy
    · exact .inl ⟨by omega, by omega⟩
    · rw [List.mem_range'_1] at hy; exact .inl ⟨by omega, by omega⟩
theorem swO_nodup {n i : Nat} : (swO n i).Nodup := swO_pair.imp fun {x y} h => by omega
theorem swO_mem {n i k : Nat} (h : i + 1 < n) : k ∈ swO n i ↔ k < n := by
  unfold swO
  rw [List.mem_append, List.mem_cons, List.mem_cons, List.mem_range, List.mem_range'_1]
  omega
/-- Behind the second the two orders are one. -/
theorem swO_same {n i : Nat} (h : i + 1 < n) (p : Nat → Bool) (hp : p (i + 1) = false ∨ p i = false) : (swO n i).filter p = (List.range n).filter p := by
  rw [range_cut h]
  unfold swO
  rw [List.filter_append, List.filter_append]
  congr 1
  rcases hp with hp | hp
  · rw [List.filter_cons_of_neg (by simp [hp])]
    cases hi : p i
    · rw [List.filter_cons_of_neg (by simp [hi]), List.filter_cons_of_neg (by simp [hi]), List.filter_cons_of_neg (by simp [hp])]
    · rw [List.filter_cons_of_pos hi, List.filter_cons_of_pos hi, List.filter_cons_of_neg (by simp [hp])]
  · cases hi : p (i + 1)
    · rw [List.filter_cons_of_neg (by simp [hi]), List.filter_cons_of_neg (by simp [hp]), List.filter_cons_of_neg (by simp [hp]), List.filter_cons_of_neg (by simp [hi])]
    · rw [List.filter_cons_of_pos hi, List.filter_cons_of_neg (by simp [hp]), List.filter_cons_of_neg (by simp [hp]), List.filter_cons_of_pos hi]
section
variable {P : Program} {B : List Tmp} {o : Oper} {all : Array Oper} {fr : List AV} {H : Hp} {E : Env} {W : World} {F : Nat → Prop} {Rd0 : Nat → Nat → Prop} {w : World} {β0 : Nat → Nat} {n : Nat} {pf : List Nat} {K : List AV → Hp → Prop}
theorem vop_and {p : Nat} {K1 K2 : List AV → Hp → Prop} (hn : noCall o = true) (h1 : vop P E B all p o K1 fr H) (h2 : vop P E B all p o K2 fr H) : vop P E B all p o (fun fr H => K1 fr H ∧ K2 fr H) fr H := by
  have hc : acall fr o = none := by
    unfold acall
    unfold noCall at hn
    split at hn
    · cases hn
    · split
      · rename_i h1 _ c h2
        exact absurd h2 (h1 c)
      · rfl
  have e : ∀ K, vop P E B all p o K fr H = VWant (wantedA all fr o) (LP p E.S fr o ∧ bindA (aop P B fr H o) fun v fr' H' => K (aput fr' o.dst v) H') (K (aput fr o.dst (.raw undef)) H) := fun K => by
    unfold vop
    rw [hc, VCall_none]
  rw [e] at h1 h2 ⊢
  cases hw : wantedA all fr o with
  | none => rw [hw] at h1; exact h1.elim
  | some b =>
    rw [hw] at h1 h2
    cases b with
    | false => exact ⟨h1, h2⟩
    | true =>
      obtain ⟨g1, g2⟩ := h1
      obtain ⟨_, g3⟩ := h2
      refine ⟨g1, ?_⟩
      cases ha : aop P B fr H o with
      | none => rw [ha] at g2; exact g2.elim
      | some x =>
        rw [ha] at g2 g3
        obtain ⟨v, fr', H'⟩ := x
        exact ⟨g2, g3⟩
theorem twoA_spec {i : Nat} (h : twoA i B pf all = true) : backB all = true ∧ closeB (Region.before all).toList all = true ∧ i + 1 < all.size ∧ (∀ (j : Nat) (o : Oper), all[j]? = some o → noCall o = true) ∧
    ∀ (k j : Nat) (ok oj : Oper), k < j → all[k]? = some ok → all[j]? = some oj → ((Region.before all).toList.getD j 0).testBit k = false → ¬ (k = i ∧ j = i + 1) → okP B all ok oj (pf.getD k 0) (pf.getD j 0) = true := by
  unfold twoA at h
  simp only [Bool.and_eq_true, List.all_eq_true, List.mem_range, decide_eq_true_eq] at h
  obtain ⟨⟨⟨⟨h1, h2⟩, h3⟩, h4⟩, h5⟩ := h
  refine ⟨h1, h2, h3, fun j o ho => h4 o (by simpa using Array.mem_of_getElem? ho), fun k j ok oj hkj hk hj hb hne => ?_⟩
  have := h5 j (Array.getElem?_eq_some_iff.1 hj).1
  rw [hj] at this
  simp only [List.all_eq_true, List.mem_range] at this
  have := this k hkj
  rw [hb, hk] at this
  simp only [Bool.false_or, Bool.or_eq_true, Bool.and_eq_true, beq_iff_eq] at this
  exact this.resolve_left hne
/-- BOTH ORDERS. -/
theorem two_abs {i : Nat} {Q : Exit → Act → World → Prop} (hB : twoA i B pf all = true) (hK : ∀ fr H a w, St E W F Rd0 β0 n fr H a w → K fr H → Q .normal a w) :
    ∀ (fuel : Nat) (listed : Array Bool) (fr : List AV) (H : Hp) (a : Act) (w : World), listed.size = all.size → Closed all listed → (toCome all.size listed).length = fuel → St E W F Rd0 β0 n fr H a w →
      atl P E B all pf K (toCome all.size listed) fr H → (listed.getD i true = false → listed.getD (i + 1) true = false → atl P E B all pf K ((swO all.size i).filter fun x => !listed.getD x true) fr H) → wpAny P .any all Q fuel listed a w := by
  obtain ⟨hb, hc, hi1, hnc, hsw⟩ := twoA_spec hB
  intro fuel
  induction fuel with
  | zero =>
    intro listed fr H a w hs hcl hf hst h _
    have h0 := List.eq_nil_of_length_eq_zero hf
    rw [h0] at h
    refine ⟨?_, hK _ _ _ _ hst h⟩
    rcases hr : Region.ready .any all listed with _ | ⟨x, r⟩
    · rfl
    · exfalso
      have hx : x ∈ Region.ready .any all listed := by rw [hr]; exact List.mem_cons_self ..
      rw [mem_ready] at hx
      obtain ⟨h1, o, ho, _⟩ := hx
      have : x ∈ toCome all.size listed := mem_toCome.2 ⟨(Array.getElem?_eq_some_iff.1 ho).1, h1⟩
      rw [h0] at this
      cases this
  | succ fuel ih =>
    intro listed fr H a w hs hcl hf hst h h'
    have getf : ∀ j, j < all.size → listed.getD j false = listed.getD j true := fun j hj => by
      simp [Array.getD, hs, hj]
    refine ⟨fun hr => ?_, fun j hj => ?_⟩
    · exfalso
      rcases hl : toCome all.size listed with _ | ⟨x, r⟩
      · rw [hl] at hf; cases hf
      · have hx : x ∈ toCome all.size listed := by rw [hl]; exact List.mem_cons_self ..
        obtain ⟨h1, h2⟩ := mem_toCome.1 hx
        have : x ∈ Region.ready .any all listed := by
          rw [mem_ready]
          refine ⟨h2, _, Array.getElem?_eq_getElem h1, fun e he hbe => ?_⟩
          have hex := back_spec hb (Array.getElem?_eq_getElem h1) he hbe
          cases hle : listed.getD e.on false
          · exfalso
            have hle' : listed.getD e.on true = false := by rw [← getf _ (by omega)]; exact hle
            have hm : e.on ∈ toCome all.size listed := mem_toCome.2 ⟨by omega, hle'⟩
            have hsorted : (toCome all.size listed).Pairwise (· < ·) := List.Pairwise.sublist List.filter_sublist List.pairwise_lt_range
            rw [hl] at hm hsorted
            rcases List.mem_cons.1 hm with h' | h'
            · omega
            · have := (List.pairwise_cons.1 hsorted).1 _ h'
              omega
          · rfl
        rw [hr] at this
        cases this
    · have hj' := hj
      rw [mem_ready] at hj'
      obtain ⟨h1, o, ho, hall⟩ := hj'
      have hlt : j < all.size := (Array.getElem?_eq_some_iff.1 ho).1
      have hpj : (!listed.getD j true) = true := by rw [h1]; rfl
      have hset : ∀ σ : List Nat, (∀ x ∈ σ, x < all.size) → (σ.filter fun x => !(listed.setIfInBounds j true).getD x true) = σ.filter fun x => (!listed.getD x true) && decide (x ≠ j) := fun σ hσ => by
        apply List.filter_congr
        intro x hx
        by_cases hxj : x = j
        · subst hxj
          simp [Array.getD, hs, hlt]
        · rw [getD_set_ne true (Ne.symm hxj)]
          simp [hxj]
      have setT : ∀ x, listed.getD x true = true → (listed.setIfInBounds j true).getD x true = true := fun x hx => by
        by_cases hxj : x = j
        · subst hxj
          simp [Array.getD, hs, hlt]
        · rw [getD_set_ne true (Ne.symm hxj)]; exact hx
      have move : ∀ (σ : List Nat), σ.Nodup → (∀ x, x ∈ σ ↔ x < all.size) → (∀ a b x, σ = a ++ j :: b → x ∈ a → listed.getD x true = false → x < j ∧ ¬ (x = i ∧ j = i + 1)) → atl P E B all pf K (σ.filter fun x => !listed.getD x true) fr H →
          vop P E B all (pf.getD j 0) o (atl P E B all pf K (σ.filter fun x => (!listed.getD x true) && decide (x ≠ j))) fr H := fun σ hn hmem hlo h => by
        obtain ⟨l, m, e0, e1, e2⟩ := split_at hn ((hmem j).2 hlt) (p := fun x => !listed.getD x true) hpj
        rw [e1] at h
        rw [e2]
        refine front_any ho (fun x hx => ?_) hst h
        obtain ⟨hx1, hx2⟩ := List.mem_filter.1 hx
        have hxl : listed.getD x true = false := by simpa using hx2
        obtain ⟨hxj, hne⟩ := hlo l m x e0 hx1 hxl
        have hxo : all[x]? = some all[x] := Array.getElem?_eq_getElem (by omega)
        refine ⟨_, hxo, hsw x j _ o hxj hxo ho ?_ hne⟩
        cases hbit : ((Region.before all).toList.getD j 0).testBit x
        · rfl
        · exfalso
          have := fore_listed hb hc hcl j o ho hall x hxj hbit
          rw [getf x (by omega), hxl] at this
          cases this
      have hmem0 : ∀ x, x ∈ List.range all.size ↔ x < all.size := fun x => List.mem_range
      have hmem1 : ∀ x, x ∈ swO all.size i ↔ x < all.size := fun x => swO_mem hi1
      have ord0 : ∀ a b x, List.range all.size = a ++ j :: b → x ∈ a → x < j := fun a b x e hx => by
        have hp : (List.range all.size).Pairwise (· < ·) := List.pairwise_lt_range
        rw [e, List.pairwise_append] at hp
        exact hp.2.2 x hx j (by simp)
      have ord1 : ∀ a b x, swO all.size i = a ++ j :: b → x ∈ a → (x < j ∧ ¬ (x = i ∧ j = i + 1)) ∨ (x = i + 1 ∧ j = i) := fun a b x e hx => by
        have hp := swO_pair (n := all.size) (i := i)
        rw [e, List.pairwise_append] at hp
        exact hp.2.2 x hx j (by simp)
      have next : ∀ {fr' H' a' w'}, St E W F Rd0 β0 n fr' H' a' w' → atl P E B all pf K (toCome all.size (listed.setIfInBounds j true)) fr' H' →
          ((listed.setIfInBounds j true).getD i true = false → (listed.setIfInBounds j true).getD (i + 1) true = false → atl P E B all pf K ((swO all.size i).filter fun x => !(listed.setIfInBounds j true).getD x true) fr' H') → wpAny P .any all Q fuel (listed.setIfInBounds j true) a' w' := fun {fr' H' a' w'} hst' k0 k1 => by
        refine ih _ fr' H' a' w' (by simpa using hs) ?_ ?_ hst' k0 k1
        · intro k ok hok hk e he hbe
          by_cases hkj : k = j
          · subst hkj
            obtain rfl : ok = o := by rw [ho] at hok; simpa using hok.symm
            exact getD_set_true (hall e he hbe)
          · rw [getD_set_ne false (Ne.symm hkj)] at hk
            exact getD_set_true (hcl k ok hok hk e he hbe)
        · obtain ⟨l, m, e0, e1, e2⟩ := split_at List.nodup_range ((hmem0 j).2 hlt) (p := fun x => !listed.getD x true) hpj
          have e3 : toCome all.size (listed.setIfInBounds j true) = l.filter (fun x => !listed.getD x true) ++ m.filter (fun x => !listed.getD x true) := (hset _ fun x hx => (hmem0 x).1 hx).trans e2
          have e4 : toCome all.size listed = l.filter (fun x => !listed.getD x true) ++ j :: m.filter (fun x => !listed.getD x true) := e1
          rw [e4] at hf
          rw [e3]
          simp only [List.length_append, List.length_cons] at hf ⊢
          omega
      have hset0 := hset (List.range all.size) fun x hx => (hmem0 x).1 hx
      have hset1 := hset (swO all.size i) fun x hx => (hmem1 x).1 hx
      by_cases hsp : j = i + 1 ∧ listed.getD i true = false
      · obtain ⟨hji, hil⟩ := hsp
        have h2 := move (swO all.size i) swO_nodup hmem1 (fun a b x e hx _ => (ord1 a b x e hx).resolve_right (by omega)) (h' hil (hji ▸ h1))
        refine vop_wpOp ho hst h2 fun fr' H' a' w' hst' k => next hst' ?_ (fun _ hk => ?_)
        · show atl P E B all pf K ((List.range all.size).filter fun x => !(listed.setIfInBounds j true).getD x true) fr' H'
          rw [hset0]
          rw [swO_same hi1 _ (.inl (by rw [hji]; simp))] at k
          exact k
        · exfalso
          rw [← hji] at hk
          simp [Array.getD, hs, hlt] at hk
      · have h2 := move (List.range all.size) List.nodup_range hmem0 (fun a b x e hx hxl => ⟨ord0 a b x e hx, fun hh => hsp ⟨hh.2, hh.1 ▸ hxl⟩⟩) h
        by_cases hij : j = i ∨ listed.getD i true = true ∨ listed.getD (i + 1) true = true
        · refine vop_wpOp ho hst h2 fun fr' H' a' w' hst' k => next hst' (by
            show atl P E B all pf K ((List.range all.size).filter fun x => !(listed.setIfInBounds j true).getD x true) fr' H'
            rw [hset0]; exact k) (fun hk1 hk2 => ?_)
          exfalso
          rcases hij with hij | hij | hij
          · rw [← hij] at hk1
            simp [Array.getD, hs, hlt] at hk1
          · rw [setT _ hij] at hk1; cases hk1
          · rw [setT _ hij] at hk2; cases hk2
        · have g1 : j ≠ i := fun e => hij (.inl e)
          have g2 : listed.getD i true = false := by cases hh : listed.getD i true with
            | true => exact absurd (.inr (.inl hh)) hij
            | false => rfl
          have g3 : listed.getD (i + 1) true = false := by cases hh : listed.getD (i + 1) true with
            | true => exact absurd (.inr (.inr hh)) hij
            | false => rfl
          have h3 := move (swO all.size i) swO_nodup hmem1 (fun a b x e hx _ => (ord1 a b x e hx).resolve_right (by omega)) (h' g2 g3)
          refine vop_wpOp ho hst (vop_and (hnc j o ho) h2 h3) fun fr' H' a' w' hst' k => next hst' (by
            show atl P E B all pf K ((List.range all.size).filter fun x => !(listed.setIfInBounds j true).getD x true) fr' H'
            rw [hset0]; exact k.1) (fun _ _ => by rw [hset1]; exact k.2)
theorem region_two {i id : Nat} {Q : Exit → Act → World → Prop} {a : Act} (hm : P.follows .mixedOrders = true) (hB : twoA i B pf all = true) (hs : St E W F Rd0 β0 n fr H a w) (h0 : atl P E B all pf K (List.range all.size) fr H) (h1 : atl P E B all pf K (swO all.size i) fr H)
    (hK : ∀ fr H a w, St E W F Rd0 β0 n fr H a w → K fr H → Q .normal a w) : (Code.region id all true).wp P Q a w := by
  refine wp_region_any hm ?_
  have hrep : ∀ i, i < all.size → (Array.replicate all.size false).getD i true = false := fun i hi => by simp [Array.getD, hi]
  have hto : toCome all.size (Array.replicate all.size false) = List.range all.size := by
    unfold toCome
    rw [List.filter_eq_self.2 (fun i hi => by rw [hrep i (by simpa using hi)]; rfl)]
  obtain ⟨_, _, hi1, _, _⟩ := twoA_spec hB
  have hto1 : ((swO all.size i).filter fun x => !(Array.replicate all.size false).getD x true) = swO all.size i :=
    List.filter_eq_self.2 (fun x hx => by rw [hrep x ((swO_mem hi1).1 hx)]; rfl)
  refine two_abs hB hK _ _ fr H a _ (by simp) ?_ ?_ hs.drew' (by rw [hto]; exact h0) (fun _ _ => by rw [hto1]; exact h1)
  · intro j o _ hl
    exfalso
    have : (Array.replicate all.size false).getD j false = false := by
      simp only [Array.getD]
      split <;> simp
    rw [this] at hl
    cases hl
  · rw [hto]; simp
end
section
variable {P : Program} {E : Env} {H : Hp}
/-- A FUNCTION, ENTERED, however its body is walked. -/
theorem pc_enterG {f : FuncId} {fn : Func} {c : Code} (hf : P.funcs[f]? = some fn) (hb : fn.body = some c) (hname : (fn.name == "runtime.NumGoroutine") = false) {args : List AV} {Q : AV → Hp → Prop}
    (h : BndH H.length H → ∀ (W : World) (F : Nat → Prop) (Rd0 : Nat → Nat → Prop) (β0 : Nat → Nat) (a : Act) (w : World), St E W F Rd0 β0 H.length (args ++ List.replicate (fn.ntmps - args.length) (.raw undef)) H a w → ∀ KC : Exit → Act → World → Prop,
      (∀ e fr H1 a w', St E W F Rd0 β0 H.length fr H1 a w' → aPost P fn.results.toList H.length Q e fr H1 → KC e a w') → c.wp P KC a w) : PC P E f args H Q := by
  refine ⟨by simp [hasB, hf, hb, hname], fun w β Rd Ow cargs hr hcell hsz hargs => ?_⟩
  refine calls_of_wp hf hb ?_
  have hS : S3 E w (fun b => b < w.heap.size ∧ (∀ i, i < H.length → β i ≠ b) ∧ Ow b = none) Rd w β Rd Ow (args ++ List.replicate (fn.ntmps - args.length) (.raw undef)) H (cargs ++ Array.replicate (fn.ntmps - cargs.size) undef) := by
    refine ⟨hr, ⟨by simp [hsz], fun t x u hx hu => ?_⟩, ⟨fun b hb => hb.1, fun _ _ => rfl, fun b hb => hb.2.2, fun b i hb hi => hb.2.1 i hi, fun _ _ _ h => h, rfl, rfl, rfl, Nat.le_refl _, fun _ _ h => ⟨h, rfl⟩⟩, fun x hx => ?_⟩
    · by_cases ht : t < args.length
      · rw [List.getElem?_append_left ht] at hx
        rw [Array.getElem?_append_left (by omega)] at hu
        obtain ⟨r1, r2, r3⟩ := hargs t x u hx hu
        exact ⟨r1, r2, fun g hg => by rw [own0_free r3] at hg; cases hg⟩
      · rw [List.getElem?_append_right (by omega), List.getElem?_replicate] at hx
        rw [Array.getElem?_append_right (by omega), Array.getElem?_replicate] at hu
        split at hx
        · cases hx
          split at hu
          · cases hu; exact ⟨.raw _, .raw _, fun g hg => by cases hg⟩
          · cases hu
        · cases hx
    · rcases List.mem_append.1 hx with h1 | h1
      · obtain ⟨j, hj⟩ := List.getElem?_of_mem h1
        have hj' : j < cargs.size := by have := (List.getElem?_eq_some_iff.1 hj).1; omega
        exact dis_free_of_free (hargs j x _ hj (Array.getElem?_eq_getElem hj')).2.2
      · rw [(List.mem_replicate.1 h1).2]; rfl
  refine h hr.bnd _ _ _ _ _ _ ⟨rfl, Nat.le_refl _, β, Rd, Ow, hS, fun _ _ => rfl⟩ _ (fun e fr H1 a w' hs hk => ?_)
  have fin : ∀ v0 v H2 H' J, a.defers = [] → ares P fr H1 fn.results.toList = some v0 → nilV v0 v → nilH H1 H2 → H2 = H' ++ J → H.length ≤ H'.length → BndH H'.length H' → Bnd H'.length v → Q v H' →
      a.defers = [] ∧ ∃ c, (results fn a.tmps).run P w' = .ok c w' ∧ ∃ c' v H' β' Rd' Ow', Ending.returned c = .returned c' ∧ Q v H' ∧ Post E w β Rd Ow H w' β' Rd' Ow' H' v c' := by
    intro v0 v H2 H' J hd hres hnv hnH hH hlen hbH hbv hq
    obtain ⟨_, _, β', Rd', Ow', hS', hβ⟩ := hs
    obtain ⟨c, Ow2, fr2, hrun, hS2, hrel0, hne0, hown0⟩ := ares_ok hS' hres
    have hS2 := hS2.nilTo (nilL_refl _) hnH
    obtain ⟨hrel, hne, hown1⟩ := nilV_ok hnv hrel0 hne0
    have hown : ∀ g, own0 v c = some g → Ow2 g = some (.slot 0) := fun g hg => hown0 g (hown1 g hg)
    have hsub : ∀ i l, H'[i]? = some l → H2[i]? = some l := fun i l hl => by rw [hH, List.getElem?_append_left (List.getElem?_eq_some_iff.1 hl).1]; exact hl
    have hle : H'.length ≤ H2.length := by rw [hH]; simp
    refine ⟨hd, c, hrun, c, v, H', β', Rd', Ow2, rfl, hq, ⟨hrel, hbv, hown, hne, ⟨fun i l hl => hS2.hr.box i l (hsub i l hl), fun i j hi hj => hS2.hr.inj i j (by omega) (by omega), fun i hi => hS2.hr.sep i (by omega), hS2.hr.ows, hS2.hr.rds, hbH, fun b hb => ?_, fun i l t hl h0 => hS2.hr.bld i l t (hsub i l hl) h0⟩,
      hβ, hlen, fun g o hg => hS2.fo.keep g o hg, fun b hb h1 h2 => ?_, hS2.fo.os, hS2.fo.tape, hS2.fo.output, hS2.fo.size⟩⟩
    · obtain ⟨f1, f2, f3, f4⟩ := hS2.hr.fix b hb
      exact ⟨f1, f2, fun i hi => f3 i (by omega), f4⟩
    · have hF : b < w.heap.size ∧ (∀ i, i < H.length → β i ≠ b) ∧ Ow b = none := ⟨hb, h1, h2⟩
      exact ⟨hS2.fo.same b hF, hS2.fo.own b hF, fun i hi => hS2.fo.box b i hF (by omega), fun o ho => hS2.fo.rd b o hF ho⟩
  obtain ⟨hd, _⟩ := hs
  cases e with
  | normal =>
    obtain ⟨v0, v, H2, H', J, h1, h2, h2', h3, h4, h5, h6, h7⟩ := hk
    exact fin v0 v H2 H' J hd h1 h2 h2' h3 h4 h5 h6 h7
  | ret =>
    obtain ⟨v0, v, H2, H', J, h1, h2, h2', h3, h4, h5, h6, h7⟩ := hk
    exact fin v0 v H2 H' J hd h1 h2 h2' h3 h4 h5 h6 h7
  | _ => exact hk.elim
/-- What is asked of a body that begins with A, a region with two new boxes, and R. -/
def okT (P : Program) (B : List Tmp) (ND : List (Nat × List Nat)) (pf : List Nat) (i : Nat) (fn : Func) (A R : Code) (ops : Array Oper) : Bool := !(fn.name == "runtime.NumGoroutine") && P.follows .mixedOrders && noFrz ND && regsB B ND A && regsB B ND R && twoA i B pf ops
def opsOf (all : Array Oper) : List Nat → List Oper
  | [] => []
  | i :: l => match all[i]? with
    | some o => o :: opsOf all l
    | none => opsOf all l
def puOf (pf : List Nat) (l : List Nat) : List Nat := l.map fun i => pf.getD i 0
theorem atl_of {P : Program} {E : Env} {B : List Tmp} {all : Array Oper} {pf : List Nat} {K : List AV → Hp → Prop} : ∀ (l : List Nat) {fr : List AV} {H : Hp}, (∀ p ∈ pf, p ≠ 3) → (∀ i ∈ l, i < all.size) → vcl P E B all K (puOf pf l) (opsOf all l) fr H → atl P E B all pf K l fr H
  | [], fr, H, _, _, h => h
  | i :: l, fr, H, h3, hl, h => by
    have hi : all[i]? = some all[i]! := by
      have := hl i (List.mem_cons_self ..)
      simp [this]
    unfold opsOf at h
    rw [hi] at h
    rw [atl_cons hi]
    have hne : pf.getD i 0 ≠ 3 := by
      rw [List.getD_eq_getElem?_getD]
      cases hp : pf[i]? with
      | none => simp
      | some q => simpa using h3 q (List.mem_of_getElem? hp)
    simp only [puOf, List.map_cons] at h
    rw [vcl] at h
    rw [if_neg (by simpa using hne)] at h
    exact vop_mono h fun fr' H' _ h' => atl_of l h3 (fun j hj => hl j (List.mem_cons_of_mem _ hj)) h'
def KTwo (P : Program) (E : Env) (B : List Tmp) (ND : List (Nat × List Nat)) (pf : List Nat) (i : Nat) (ops : Array Oper) (R : Code) (K : Exit → List AV → Hp → Prop) : Exit → List AV → Hp → Prop := fun e fr H => match e with
  | .normal => atl P E B ops pf (fun fr H => vc P E B ND R K fr H) (List.range ops.size) fr H ∧ atl P E B ops pf (fun fr H => vc P E B ND R K fr H) (swO ops.size i) fr H
  | e => K e fr H
theorem pc_enterT (S : Nat → Prop) {f : FuncId} {fn : Func} {A R : Code} {id : Nat} {ops : Array Oper} (hf : P.funcs[f]? = some fn) (hb : fn.body = some (.seq A (.seq (.region id ops true) R))) (B : List Tmp) (ND : List (Nat × List Nat)) (pf : List Nat) (i : Nat) (hok : okT P B ND pf i fn A R ops = true) {args : List AV} {Q : AV → Hp → Prop}
    (h : ∀ E' : Env, E'.S = S → E'.w0 = E.w0 → E'.Fix = E.Fix → BndH H.length H → vc P E' B ND A (KTwo P E' B ND pf i ops R (aPost P fn.results.toList H.length Q)) (args ++ List.replicate (fn.ntmps - args.length) (.raw undef)) H) : PC P E f args H Q := by
  unfold okT at hok
  simp only [Bool.and_eq_true, Bool.not_eq_true'] at hok
  obtain ⟨⟨⟨⟨⟨hname, hm⟩, hz⟩, hA⟩, hR⟩, hT⟩ := hok
  refine PC.env (E := E) (E' := { E with S := S }) rfl rfl (pc_enterG hf hb hname (fun hB W F Rd0 β0 a w hs KC hK => ?_))
  have hz' : ∀ id m, frzN (ndOf ND id) = some m → H.length ≤ m := fun id m hm => absurd hm (noFrz_spec hz id m)
  have h0 := h { E with S := S } rfl rfl rfl hB
  refine wp_seq (vc_ok hm hz' A _ _ _ H a w hA hs h0 (fun e fr' H' a' w' hs' hk => ?_))
  cases e with
  | normal =>
    refine wp_seq (region_two hm hT hs' hk.1 hk.2 (fun fr2 H2 a2 w2 hs2 hk2 => ?_))
    exact vc_ok hm hz' R _ _ _ H2 a2 w2 hR hs2 hk2 hK
  | _ => exact hK _ _ _ _ _ hs' hk
end
end Go.Proofs.YtcdkcaocfioigaaGreatDoor

set_option linter.unusedVariables false
set_option linter.unnecessarySimpa false
set_option linter.unusedSimpArgs false
set_option linter.unusedSectionVars false
set_option maxRecDepth 100000
namespace Go.Proofs.YtcdkcaocfioigaaGreatDoor
open Go Go.RowKit Go.Proofs

section
variable (E : Env) (H : Hp) (Q : AV → Hp → Prop)
set_option maxHeartbeats 2000000 in
theorem sameReply_pc (r : Rep) (h1 : r.fields.length ≤ 1073741824) (h2 : r.trailers.length ≤ 1073741824) (hQ : Q (.bool true) H) : PC Tryz.prog E 26 [.agg r.avs, .agg r.avs] H Q := by
  refine pc_enterT (fun i => i = H.length ∨ i = H.length + 1) Tryz.func26 rfl [] [] [0, 2, 0, 2, 0, 0, 2, 2] 4 (by kernel_rfl) (fun E' hS' h0' hF' hB => ?_)
  simp [Tryz.ntmps26, Tryz.results26, List.replicate_succ, Rep.avs]
  refine ⟨atl_of _ (by decide) (by decide) ?_, atl_of _ (by decide) (by decide) ?_⟩
  all_goals
    have o0 : List.range 8 = [0, 1, 2, 3, 4, 5, 6, 7] := rfl
    have o1 : swO 8 4 = [0, 1, 2, 3, 5, 4, 6, 7] := rfl
    simp [o0, o1, opsOf, puOf, hS']
    refine same12_pc E' _ _ r.fields h1 ?_
    simp
    refine same12_pc E' _ _ r.trailers h2 ?_
    simp
    exact aPost_same hB rfl (nilV_refl _) (by simp) hQ
end
end Go.Proofs.YtcdkcaocfioigaaGreatDoor

set_option linter.unusedVariables false
set_option linter.unnecessarySimpa false
set_option linter.unusedSimpArgs false
set_option linter.unusedSectionVars false
set_option maxRecDepth 100000
namespace Go.Proofs.YtcdkcaocfioigaaGreatDoor
open Go Go.RowKit Go.Proofs Go.Deep

def memT : List UInt8 := [72, 84, 84, 80, 47, 49, 46, 49, 32, 50, 48, 48, 32, 79, 75, 13, 10, 65, 58, 32, 49, 13, 10, 84, 114, 97, 110, 115, 102, 101, 114, 45, 69, 110, 99, 111, 100, 105, 110, 103, 58, 32, 99, 104, 117, 110, 107, 101, 100, 13, 10, 13, 10, 48, 13, 10, 66, 58, 32, 50, 13, 10, 67, 58, 32, 51, 13, 10, 13, 10]
theorem mem_parse : (parseM [71, 69, 84] memT 9 false).2.2 = 0 := by decide +kernel
theorem shareM {I P : List AV → Hp → Prop} {G : Prop} (main : (∀ fr H', I fr H' → P fr H') → G) (tail : ∀ fr H', I fr H' → P fr H') : G := main tail
def nmark : List UInt8 := [109, 97, 114, 107]
def ngrown : List UInt8 := [103, 114, 111, 119, 110]
def ntrail : List UInt8 := [116, 114, 97, 105, 108]
def ntall : List UInt8 := [116, 97, 108, 108]
theorem nmP_step {n : Nat} (i : Nat) (x : List UInt8) : ∀ k s, k < n → (if k < i + 1 then some x else none) = some s → (k = i ∧ s = x) ∨ (k ≠ i ∧ (if k < i then some x else none) = some s) := fun k s _ e => by
  split at e
  · cases e
    by_cases h : k = i
    · exact .inl ⟨h, rfl⟩
    · exact .inr ⟨h, by rw [if_pos (by omega)]⟩
  · cases e
def nmF (m : Nat) (x y : List UInt8) (j : Nat) : Option (List UInt8) := some (if j < m then x else y)
def nmP (k : Nat) (x : List UInt8) (j : Nat) : Option (List UInt8) := if j < k then some x else none
theorem nmF_start (m : Nat) (x y : List UInt8) : ∀ j s, j < m → nmF m x y j = some s → nmP m x j = some s := fun j s hj e => by
  simp only [nmF, if_pos hj] at e
  simp only [nmP, if_pos hj]
  exact e
theorem nmF_at (m : Nat) (x y : List UInt8) (i : Nat) : nmF m x y (m + i) = some y := by unfold nmF; rw [if_neg (by omega)]
section
variable (E : Env) (H : Hp) (Q : AV → Hp → Prop)
def memI1 (a : Nat) (m tx sx : List UInt8) (most : Int) (ended : Bool) (R : Rep) (v0 t0 : AV) (H : Hp) (fr : List AV) (K : Hp) : Prop := ∃ i : Nat, i ≤ R.fields.length ∧ GS H K a [.str m, .str sx, .int .i64 most, .bool ended] R v0 t0 v0 t0 R.fields.length R.trailers.length (nmP i nmark) (fun _ => none) ∧
  ∃ x : Nat → AV, fr = [x 0, .ptr (some (H.length, 0)), x 2, .str tx, x 4, x 5, x 6, .ptr (some (a, 0)), x 8, x 9, .ptr (some (a + 1, 0)), x 11, x 12, .ptr (some (a + 2, 0)), x 14, x 15, x 16, x 17, x 18, x 19, x 20, x 21, x 22, x 23, x 24, x 25, x 26, x 27, x 28, x 29, x 30, x 31, x 32, x 33, x 34, x 35, x 36, x 37, x 38, x 39, x 40, x 41, x 42, x 43, x 44, x 45, x 46, x 47, x 48, x 49, x 50, x 51, x 52, x 53, x 54, x 55, x 56, x 57, x 58, x 59, x 60, x 61, x 62, x 63, x 64, x 65, x 66, x 67, x 68, x 69, x 70, x 71, x 72, x 73, x 74, x 75, x 76, x 77, x 78, x 79, x 80, x 81, x 82, x 83, x 84, x 85, x 86, x 87, x 88, x 89, x 90, .int .i64 R.fields.length, .int .i64 i, x 93, x 94, x 95, x 96, x 97, x 98, x 99, x 100, x 101, x 102, x 103, x 104, x 105, x 106, x 107, x 108, x 109, x 110, x 111, x 112, x 113, x 114, x 115, x 116, x 117, x 118, x 119, x 120, x 121, x 122, x 123, x 124, x 125, x 126, x 127, x 128, x 129, x 130, x 131, x 132, x 133, x 134, x 135, x 136, x 137, x 138, x 139, x 140, x 141, x 142, x 143, x 144, x 145, x 146, x 147, x 148, x 149, x 150, x 151, x 152, x 153, x 154, x 155, x 156, x 157, x 158, x 159, x 160, x 161, x 162, x 163, x 164, x 165, x 166, x 167, x 168, x 169, x 170, x 171, x 172, x 173, x 174, x 175, x 176, x 177, x 178, x 179, x 180, x 181, x 182, x 183, x 184, x 185, x 186, x 187, x 188]
def memI2 (a : Nat) (m tx sx : List UInt8) (most : Int) (ended : Bool) (R : Rep) (v0 t0 : AV) (H : Hp) (fr : List AV) (K : Hp) : Prop := ∃ i : Nat, i ≤ R.trailers.length ∧ GS H K a [.str m, .str sx, .int .i64 most, .bool ended] R v0 t0 v0 t0 R.fields.length R.trailers.length (nmP R.fields.length nmark) (nmP i ntrail) ∧
  ∃ x : Nat → AV, fr = [x 0, .ptr (some (H.length, 0)), x 2, .str tx, x 4, x 5, x 6, .ptr (some (a, 0)), x 8, x 9, .ptr (some (a + 1, 0)), x 11, x 12, .ptr (some (a + 2, 0)), x 14, x 15, x 16, x 17, x 18, x 19, x 20, x 21, x 22, x 23, x 24, x 25, x 26, x 27, x 28, x 29, x 30, x 31, x 32, x 33, x 34, x 35, x 36, x 37, x 38, x 39, x 40, x 41, x 42, x 43, x 44, x 45, x 46, x 47, x 48, x 49, x 50, x 51, x 52, x 53, x 54, x 55, x 56, x 57, x 58, x 59, x 60, x 61, x 62, x 63, x 64, x 65, x 66, x 67, x 68, x 69, x 70, x 71, x 72, x 73, x 74, x 75, x 76, x 77, x 78, x 79, x 80, x 81, x 82, x 83, x 84, x 85, x 86, x 87, x 88, x 89, x 90, x 91, x 92, x 93, x 94, x 95, x 96, x 97, x 98, x 99, x 100, x 101, x 102, x 103, .int .i64 R.trailers.length, .int .i64 i, x 106, x 107, x 108, x 109, x 110, x 111, x 112, x 113, x 114, x 115, x 116, x 117, x 118, x 119, x 120, x 121, x 122, x 123, x 124, x 125, x 126, x 127, x 128, x 129, x 130, x 131, x 132, x 133, x 134, x 135, x 136, x 137, x 138, x 139, x 140, x 141, x 142, x 143, x 144, x 145, x 146, x 147, x 148, x 149, x 150, x 151, x 152, x 153, x 154, x 155, x 156, x 157, x 158, x 159, x 160, x 161, x 162, x 163, x 164, x 165, x 166, x 167, x 168, x 169, x 170, x 171, x 172, x 173, x 174, x 175, x 176, x 177, x 178, x 179, x 180, x 181, x 182, x 183, x 184, x 185, x 186, x 187, x 188]
def memI3 (a : Nat) (m tx sx : List UInt8) (most : Int) (ended : Bool) (R : Rep) (v0 t0 : AV) (H : Hp) (fr : List AV) (K : Hp) : Prop := ∃ (i : Nat) (v t : AV), i ≤ 9 ∧ GS H K a [.str m, .str sx, .int .i64 most, .bool ended] R v0 t0 v t (R.fields.length + i) (R.trailers.length + i) (nmF R.fields.length nmark ngrown) (nmF R.trailers.length ntrail ntall) ∧
  ∃ x : Nat → AV, fr = [x 0, .ptr (some (H.length, 0)), x 2, .str tx, x 4, x 5, x 6, .ptr (some (a, 0)), x 8, x 9, .ptr (some (a + 1, 0)), x 11, x 12, .ptr (some (a + 2, 0)), x 14, x 15, x 16, x 17, v, t, x 20, x 21, x 22, x 23, x 24, x 25, x 26, x 27, x 28, x 29, x 30, x 31, x 32, x 33, x 34, x 35, x 36, x 37, x 38, x 39, x 40, x 41, x 42, x 43, x 44, x 45, x 46, x 47, x 48, x 49, x 50, x 51, x 52, x 53, x 54, x 55, x 56, x 57, x 58, x 59, x 60, x 61, x 62, x 63, x 64, x 65, x 66, x 67, x 68, x 69, x 70, x 71, x 72, x 73, x 74, x 75, x 76, x 77, x 78, x 79, x 80, x 81, x 82, x 83, x 84, x 85, x 86, x 87, x 88, x 89, x 90, x 91, x 92, x 93, x 94, x 95, x 96, x 97, x 98, x 99, x 100, x 101, x 102, x 103, x 104, x 105, x 106, x 107, x 108, x 109, x 110, x 111, x 112, x 113, x 114, x 115, x 116, x 117, x 118, .int .i64 i, x 120, x 121, x 122, x 123, x 124, x 125, x 126, x 127, x 128, x 129, x 130, x 131, x 132, x 133, x 134, x 135, x 136, x 137, x 138, x 139, x 140, x 141, x 142, x 143, x 144, x 145, x 146, x 147, x 148, x 149, x 150, x 151, x 152, x 153, x 154, x 155, x 156, x 157, x 158, x 159, x 160, x 161, x 162, x 163, x 164, x 165, x 166, x 167, x 168, x 169, x 170, x 171, x 172, x 173, x 174, x 175, x 176, x 177, x 178, x 179, x 180, x 181, x 182, x 183, x 184, x 185, x 186, x 187, x 188]
def memI4 (a : Nat) (m tx sx : List UInt8) (most : Int) (ended : Bool) (R : Rep) (v0 t0 : AV) (H : Hp) (fr : List AV) (K : Hp) : Prop := ∃ (i : Nat) (v t : AV), i ≤ R.fields.length + 9 ∧ GS H K a [.str m, .str sx, .int .i64 most, .bool ended] R v0 t0 v t (R.fields.length + 9) (R.trailers.length + 9) (nmF R.fields.length nmark ngrown) (nmF R.trailers.length ntrail ntall) ∧
  ∃ x : Nat → AV, fr = [x 0, .ptr (some (H.length, 0)), x 2, .str tx, x 4, x 5, x 6, .ptr (some (a, 0)), x 8, x 9, .ptr (some (a + 1, 0)), x 11, x 12, .ptr (some (a + 2, 0)), x 14, x 15, x 16, x 17, x 18, t, x 20, x 21, x 22, x 23, x 24, x 25, x 26, x 27, x 28, x 29, x 30, x 31, x 32, x 33, x 34, x 35, x 36, x 37, x 38, x 39, x 40, x 41, x 42, x 43, x 44, x 45, x 46, x 47, x 48, x 49, x 50, x 51, x 52, x 53, x 54, x 55, x 56, x 57, x 58, x 59, x 60, x 61, x 62, x 63, x 64, x 65, x 66, x 67, x 68, x 69, x 70, x 71, x 72, x 73, x 74, x 75, x 76, x 77, x 78, x 79, x 80, x 81, x 82, x 83, x 84, x 85, x 86, x 87, x 88, x 89, x 90, x 91, x 92, x 93, x 94, x 95, x 96, x 97, x 98, x 99, x 100, x 101, x 102, x 103, x 104, x 105, x 106, x 107, x 108, x 109, x 110, x 111, x 112, x 113, x 114, x 115, x 116, x 117, x 118, x 119, x 120, x 121, x 122, x 123, x 124, x 125, x 126, x 127, x 128, x 129, v, .int .i64 (R.fields.length + 9 : Nat), .int .i64 i, x 133, x 134, x 135, x 136, x 137, x 138, x 139, x 140, x 141, x 142, x 143, x 144, x 145, x 146, x 147, x 148, x 149, x 150, x 151, x 152, x 153, x 154, x 155, x 156, x 157, x 158, x 159, x 160, x 161, x 162, x 163, x 164, x 165, x 166, x 167, x 168, x 169, x 170, x 171, x 172, x 173, x 174, x 175, x 176, x 177, x 178, x 179, x 180, x 181, x 182, x 183, x 184, x 185, x 186, x 187, x 188]
def memI5 (a : Nat) (m tx sx : List UInt8) (most : Int) (ended : Bool) (R : Rep) (v0 t0 : AV) (H : Hp) (fr : List AV) (K : Hp) : Prop := ∃ (i : Nat) (v t : AV), i ≤ R.trailers.length + 9 ∧ GS H K a [.str m, .str sx, .int .i64 most, .bool ended] R v0 t0 v t (R.fields.length + 9) (R.trailers.length + 9) (nmF R.fields.length nmark ngrown) (nmF R.trailers.length ntrail ntall) ∧
  ∃ x : Nat → AV, fr = [x 0, .ptr (some (H.length, 0)), x 2, .str tx, x 4, x 5, x 6, .ptr (some (a, 0)), x 8, x 9, .ptr (some (a + 1, 0)), x 11, x 12, .ptr (some (a + 2, 0)), x 14, x 15, x 16, x 17, x 18, x 19, x 20, x 21, x 22, x 23, x 24, x 25, x 26, x 27, x 28, x 29, x 30, x 31, x 32, x 33, x 34, x 35, x 36, x 37, x 38, x 39, x 40, x 41, x 42, x 43, x 44, x 45, x 46, x 47, x 48, x 49, x 50, x 51, x 52, x 53, x 54, x 55, x 56, x 57, x 58, x 59, x 60, x 61, x 62, x 63, x 64, x 65, x 66, x 67, x 68, x 69, x 70, x 71, x 72, x 73, x 74, x 75, x 76, x 77, x 78, x 79, x 80, x 81, x 82, x 83, x 84, x 85, x 86, x 87, x 88, x 89, x 90, x 91, x 92, x 93, x 94, x 95, x 96, x 97, x 98, x 99, x 100, x 101, x 102, x 103, x 104, x 105, x 106, x 107, x 108, x 109, x 110, x 111, x 112, x 113, x 114, x 115, x 116, x 117, x 118, x 119, x 120, x 121, x 122, x 123, x 124, x 125, x 126, x 127, x 128, x 129, x 130, x 131, x 132, x 133, x 134, x 135, x 136, x 137, x 138, x 139, x 140, x 141, x 142, x 143, x 144, x 145, x 146, x 147, t, .int .i64 (R.trailers.length + 9 : Nat), .int .i64 i, x 151, x 152, x 153, x 154, x 155, x 156, x 157, x 158, x 159, x 160, x 161, x 162, x 163, x 164, x 165, x 166, x 167, x 168, x 169, x 170, x 171, x 172, x 173, x 174, x 175, x 176, x 177, x 178, x 179, x 180, x 181, x 182, x 183, x 184, x 185, x 186, x 187, x 188]
/-- What is known behind the two readings. -/
structure SD (m tx : List UInt8) (most : Int) (ended : Bool) (R : Rep) (k : Int) : Prop where
  eq : parseM m tx most ended = (R, k, 0)
  len : tx.length ≤ 2000000
  most : -9223372036854775808 ≤ most ∧ most ≤ 9223372036854775807
theorem SD.lens {m tx : List UInt8} {most : Int} {ended : Bool} {R : Rep} {k : Int} (h : SD m tx most ended R k) : R.fields.length ≤ 1073741824 ∧ R.trailers.length ≤ 1073741824 := by
  have := parseM_lens (m := m) (s := tx) (most := most) (ended := ended) (by have := h.len; omega) h.most.2
  rw [h.eq] at this
  exact this
theorem gs_start {K K' : Hp} {a : Nat} {st : List AV} {R : Rep} {v t : AV} (N : Nat) (hN : H.length + 1 ≤ N) (hlen : H.length < K.length) (ha : a = K.length) (hkeep : ∀ j, j < K.length → K'[j]? = K[j]?) (hk : ∀ j, j < H.length → K[j]? = H[j]?) (k1 : K[H.length]? = some st)
    (ka : K'[a]? = some (rcellsV R.status R.reason v R.body R.minor t R.kind R.length R.persist)) (kb : K'[a + 1]? = some R.avs) (kc : K'[a + 2]? = some R.avs) (hv : FB K N v R.fields) (ht : FB K N t R.trailers) (hvt : apartB v t) (hbd : BndH K'.length K') :
    GS H K' a st R v t v t R.fields.length R.trailers.length (nmP 0 nmark) (fun _ => none) := by
  subst ha
  have g : ∀ (u : AV) (l : List Fld), FB K N u l → ∀ i o n c k, u = .bx i o n c k → gd H K.length i := fun u l hu i o n c k e => by
    have := hu.lt _ _ _ _ _ e
    exact ⟨by omega, by omega, by omega, by omega⟩
  have mono : ∀ (u : AV) (l : List Fld), FB K N u l → FB K' N u l := fun u l hu => hu.of_eq (fun i _ _ _ _ e => hkeep i (hu.lt _ _ _ _ _ e).2) (fun i _ _ _ _ e => (hu.lt _ _ _ _ _ e).1)
  refine ⟨⟨hlen, fun j hj => (hkeep j (by omega)).trans (hk j hj), (hkeep _ hlen).trans k1, ka, kb, kc⟩, ?_, (mono _ _ ht).mb (g _ _ ht), hvt, hbd⟩
  exact ((mono _ _ hv).mb (g _ _ hv)).of_eq (fun _ _ _ _ _ _ => rfl) (fun j s hj e => by simp [nmP] at e)
def memX (H : Hp) (fr : List AV) (K : Hp) : Prop := ∃ (a : Nat) (m tx sx : List UInt8) (most : Int) (ended : Bool) (R : Rep) (k : Int) (v0 t0 : AV), SD m tx most ended R k ∧ GS H K a [.str m, .str sx, .int .i64 most, .bool ended] R v0 t0 v0 t0 R.fields.length R.trailers.length (nmP 0 nmark) (fun _ => none) ∧
  ∃ x : Nat → AV, fr = [x 0, .ptr (some (H.length, 0)), x 2, .str tx, x 4, x 5, x 6, .ptr (some (a, 0)), x 8, x 9, .ptr (some (a + 1, 0)), x 11, x 12, .ptr (some (a + 2, 0)), x 14, x 15, x 16, x 17, x 18, x 19, x 20, x 21, x 22, x 23, x 24, x 25, x 26, x 27, x 28, x 29, x 30, x 31, x 32, x 33, x 34, x 35, x 36, x 37, x 38, x 39, x 40, x 41, x 42, x 43, x 44, x 45, x 46, x 47, x 48, x 49, x 50, x 51, x 52, x 53, x 54, x 55, x 56, x 57, x 58, x 59, x 60, x 61, x 62, x 63, x 64, x 65, x 66, x 67, x 68, x 69, x 70, x 71, x 72, x 73, x 74, x 75, x 76, x 77, x 78, x 79, x 80, x 81, x 82, x 83, x 84, x 85, x 86, x 87, x 88, x 89, x 90, .int .i64 R.fields.length, .int .i64 0, x 93, x 94, x 95, x 96, x 97, x 98, x 99, x 100, x 101, x 102, x 103, x 104, x 105, x 106, x 107, x 108, x 109, x 110, x 111, x 112, x 113, x 114, x 115, x 116, x 117, x 118, x 119, x 120, x 121, x 122, x 123, x 124, x 125, x 126, x 127, x 128, x 129, x 130, x 131, x 132, x 133, x 134, x 135, x 136, x 137, x 138, x 139, x 140, x 141, x 142, x 143, x 144, x 145, x 146, x 147, x 148, x 149, x 150, x 151, x 152, x 153, x 154, x 155, x 156, x 157, x 158, x 159, x 160, x 161, x 162, x 163, x 164, x 165, x 166, x 167, x 168, x 169, x 170, x 171, x 172, x 173, x 174, x 175, x 176, x 177, x 178, x 179, x 180, x 181, x 182, x 183, x 184, x 185, x 186, x 187, x 188]
set_option maxHeartbeats 8000000 in
theorem mmemory_pc (hE : SM E) (s : StrA) (hl : s.m.length + s.t.length ≤ 1048576) (hm : -9223372036854775808 ≤ s.most ∧ s.most ≤ 9223372036854775807) (hQ : Q (.bool true) H) : PC Tryz.prog E 6 [.agg s.avs] H Q := by
  refine pc_enter Tryz.func6 rfl [] [(26, [0, 0, 0, 3]), (27, [0, 0, 0, 3])] (by kernel_rfl) (fun hB => ?_)
  obtain ⟨sm, sx, sn, se⟩ := s
  simp only [StrA.avs] at *
  simp [Tryz.ntmps6, Tryz.results6, List.replicate_succ]
  refine awake12_pc E _ _ hE ?_
  simp
  refine dparse_pc E _ _ sm sx sn se (by omega) hm ?_
  simp [Rep.avs]
  apply shareM (I := memX H)
  · intro hgo
    by_cases he : (parseM sm sx sn se).2.2 = 0
    · simp [he]
      obtain ⟨⟨R, k, e⟩, hP⟩ : ∃ p, parseM sm sx sn se = p := ⟨_, rfl⟩
      rw [hP] at he
      simp only at he
      subst he
      have hSD : SD sm sx sn se R k := ⟨hP, by have := hl; omega, hm⟩
      obtain ⟨hlf, hlt⟩ := hSD.lens
      refine PC.bnd ?_
      refine parse_bx E _ _ hE.1.1 sm sx sn se (by have := hSD.len; omega) hSD.most R k hP (fun v t K g1 g2 hv ht hvt hK hb => ?_)
      simp only [List.length_append, List.length_cons, List.length_nil] at g1 hv ht
      have k1 : K[H.length]? = some [.str sm, .str sx, .int .i64 sn, .bool se] := by rw [g2 _ (by simp)]; simp
      have hc1 := at_lt k1
      obtain ⟨vf, vo, vd, vb⟩ := hv.free
      obtain ⟨tf, to, td, tb⟩ := ht.free
      have hvl : ∀ t, (tsl Tryz.prog t).isSome = true → alen Tryz.prog t v = some (.int .i64 R.fields.length) := fun t h => hv.alen h
      simp [rcellsV, vf, vo, vd, tf, to, td, getL hc1, k1]
      refine parse_pc E _ _ hE.1.1 sm sx sn se (by have := hSD.len; omega) hSD.most ?_
      rw [hP]
      simp [Rep.avs, vf, vo, vd, tf, to, td, getL hc1, k1]
      refine dparse_pc E _ _ sm sx sn se (by have := hSD.len; omega) hSD.most ?_
      rw [hP]
      simp [-alen, hvl, Rep.avs, vf, vo, vd, tf, to, td]
      refine hgo _ _ ⟨K.length, sm, sx, sx, sn, se, R, k, v, t, hSD, gs_start H (K := K) (H.length + 2) (by omega) (by omega) rfl (fun j hj => List.getElem?_append_left hj) (fun j hj => by rw [g2 j (by simp; omega), List.getElem?_append_left hj]) k1 (by simp [rcellsV]) (by simp [Rep.avs]) (by simp [Rep.avs]) hv ht hvt ?_, fr_intro (by simp)⟩
      refine bndH_app2 (bndH_up hK (by simp)) ?_
      simp [vb.mono (Nat.le_add_right _ _), tb.mono (Nat.le_add_right _ _), bnd_flds]
    · have he' : ((parseM sm sx sn se).2.2 == 0) = false := by simpa using he
      simp [he']
      obtain ⟨⟨R, k, e⟩, hP⟩ : ∃ p, parseM [71, 69, 84] memT 9 false = p := ⟨_, rfl⟩
      have he2 := mem_parse
      rw [hP] at he2
      simp only at he2
      subst he2
      have hSD : SD [71, 69, 84] memT 9 false R k := ⟨hP, by decide, ⟨by decide, by decide⟩⟩
      obtain ⟨hlf, hlt⟩ := hSD.lens
      refine PC.bnd ?_
      refine parse_bx E _ _ hE.1.1 [71, 69, 84] memT 9 false (by have := hSD.len; omega) hSD.most R k hP (fun v t K g1 g2 hv ht hvt hK hb => ?_)
      simp only [List.length_append, List.length_cons, List.length_nil] at g1 hv ht
      have k1 : K[H.length]? = some [.str [71, 69, 84], .str [], .int .i64 9, .bool false] := by rw [g2 _ (by simp)]; simp
      have hc1 := at_lt k1
      obtain ⟨vf, vo, vd, vb⟩ := hv.free
      obtain ⟨tf, to, td, tb⟩ := ht.free
      have hvl : ∀ t, (tsl Tryz.prog t).isSome = true → alen Tryz.prog t v = some (.int .i64 R.fields.length) := fun t h => hv.alen h
      simp [rcellsV, vf, vo, vd, tf, to, td, getL hc1, k1]
      refine parse_pc E _ _ hE.1.1 [71, 69, 84] memT 9 false (by have := hSD.len; omega) hSD.most ?_
      rw [hP]
      simp [Rep.avs, vf, vo, vd, tf, to, td, getL hc1, k1]
      refine dparse_pc E _ _ [71, 69, 84] memT 9 false (by have := hSD.len; omega) hSD.most ?_
      rw [hP]
      simp [-alen, hvl, Rep.avs, vf, vo, vd, tf, to, td]
      refine hgo _ _ ⟨K.length, [71, 69, 84], memT, [], 9, false, R, k, v, t, hSD, gs_start H (K := K) (H.length + 2) (by omega) (by omega) rfl (fun j hj => List.getElem?_append_left hj) (fun j hj => by rw [g2 j (by simp; omega), List.getElem?_append_left hj]) k1 (by simp [rcellsV]) (by simp [Rep.avs]) (by simp [Rep.avs]) hv ht hvt ?_, fr_intro (by simp [memT])⟩
      refine bndH_app2 (bndH_up hK (by simp)) ?_
      simp [vb.mono (Nat.le_add_right _ _), tb.mono (Nat.le_add_right _ _), bnd_flds]
  · rintro fr K ⟨a, m, tx, sx', most, ended, R, k, v0, t0, hSD, hgs, x, rfl⟩
    clear hl hm
    obtain ⟨hlf, hlt⟩ := hSD.lens
    obtain ⟨v0f, v0o, v0d, _⟩ := hgs.mv.facts
    obtain ⟨t0f, t0o, t0d, _⟩ := hgs.mt.facts
    have hv0l : ∀ t, (tsl Tryz.prog t).isSome = true → alen Tryz.prog t v0 = some (.int .i64 R.fields.length) := fun t h => hgs.mv.alen h
    have ht0l : ∀ t, (tsl Tryz.prog t).isSome = true → alen Tryz.prog t t0 = some (.int .i64 R.trailers.length) := fun t h => hgs.mt.alen h
    have hw1 : ∀ i : Nat, i ≤ 2000000000 → IntKind.i64.wrap ((i : Int) + 1) = i + 1 := fun i hi => wrap_in (by omega) (by omega)
    refine VL_go (memI1 a m tx sx' most ended R v0 t0 H) (fun fr _ => R.fields.length - (ai (aget fr 92)).toNat) ⟨0, by omega, hgs, fr_intro (by simp)⟩ ?_
    clear hgs
    rintro fr K ⟨i, hi, hgs, x, rfl⟩
    have ka := hgs.mm.ka
    have hca := at_lt ka
    simp only [rcellsV] at ka
    by_cases h : i < R.fields.length
    · have hmv := hgs.mv
      rcases hmv with ⟨h0, _⟩ | ⟨bi, c, A, q1, rfl, q2, q3, q4, q5, q6, q7⟩
      · omega
      have hcb := at_lt q2
      have hle : i * 2 + 2 ≤ A.length := by omega
      simp [h, hw1 i (by omega), ka, q2, hle]
      exact Kloop_normal ⟨i + 1, by omega, hgs.mark q2 h _ _ (nmP_step _ _), fr_intro (by simp)⟩ (by simp; omega)
    obtain rfl : i = R.fields.length := by omega
    obtain ⟨tf, to, td, tb⟩ := hgs.mt.facts
    have htl : ∀ t, (tsl Tryz.prog t).isSome = true → alen Tryz.prog t t0 = some (.int .i64 R.trailers.length) := fun t h => hgs.mt.alen h
    simp [-alen, htl, ka, tf, to, td]
    clear h ka hca tf to td tb htl
    refine VL_go (memI2 a m tx sx' most ended R v0 t0 H) (fun fr _ => R.trailers.length - (ai (aget fr 105)).toNat) ⟨0, by omega, ⟨hgs.mm, hgs.mv, hgs.mt.of_eq (fun _ _ _ _ _ _ => rfl) (fun j s hj e => by simp [nmP] at e), hgs.ap, hgs.bd⟩, fr_intro (by simp)⟩ ?_
    clear hgs
    rintro fr K ⟨i, hi, hgs, x, rfl⟩
    have ka := hgs.mm.ka
    have hca := at_lt ka
    simp only [rcellsV] at ka
    by_cases h : i < R.trailers.length
    · have hmv := hgs.mt
      rcases hmv with ⟨h0, _⟩ | ⟨bi, c, A, q1, rfl, q2, q3, q4, q5, q6, q7⟩
      · omega
      have hcb := at_lt q2
      have hle : i * 2 + 2 ≤ A.length := by omega
      simp [h, hw1 i (by omega), ka, q2, hle]
      exact Kloop_normal ⟨i + 1, by omega, (hgs.swap.mark q2 h _ _ (nmP_step _ _)).swap, fr_intro (by simp)⟩ (by simp; omega)
    obtain rfl : i = R.trailers.length := by omega
    obtain ⟨tf, to, td, tb⟩ := hgs.mt.facts
    obtain ⟨vf, vo, vd, vb⟩ := hgs.mv.facts
    simp [ka, tf, to, td, vf, vo, vd]
    clear h ka hca tf to td tb vf vo vd vb
    refine VL_go (memI3 a m tx sx' most ended R v0 t0 H) (fun fr _ => 9 - (ai (aget fr 119)).toNat) ⟨0, v0, t0, by omega, ⟨hgs.mm, hgs.mv.of_eq (fun _ _ _ _ _ _ => rfl) (nmF_start _ _ _), hgs.mt.of_eq (fun _ _ _ _ _ _ => rfl) (nmF_start _ _ _), hgs.ap, hgs.bd⟩, fr_intro (by simp)⟩ ?_
    clear hgs
    rintro fr K ⟨i, v, t, hi, hgs, x, rfl⟩
    by_cases h : i < 9
    · have h9 : (i : Int) < 9 := by omega
      have hw := hw1 i (by omega)
      have hnf := nmF_at R.fields.length nmark ngrown i
      have hnt := nmF_at R.trailers.length ntrail ntall i
      have m0 : 1 ≤ maxLen := by unfold maxLen; omega
      obtain ⟨nf, hnfe⟩ : ∃ nf, R.fields.length + i = nf := ⟨_, rfl⟩
      obtain ⟨nt, hnte⟩ : ∃ nt, R.trailers.length + i = nt := ⟨_, rfl⟩
      have m1 : nf + 1 ≤ maxLen := by unfold maxLen; omega
      have m2 : (nf + 1) * 32 ≤ 140737488355328 := by omega
      have m3 : nt + 1 ≤ maxLen := by unfold maxLen; omega
      have m4 : (nt + 1) * 32 ≤ 140737488355328 := by omega
      have ef : R.fields.length + (i + 1) = nf + 1 := by omega
      have et : R.trailers.length + (i + 1) = nt + 1 := by omega
      rw [hnfe] at hnf
      rw [hnte] at hnt
      rw [hnfe, hnte] at hgs
      suffices hs : ∀ (fr : List AV) (K : Hp), (∃ v t, GS H K a [.str m, .str sx', .int .i64 most, .bool ended] R v0 t0 v t (nf + 1) (nt + 1) (nmF R.fields.length nmark ngrown) (nmF R.trailers.length ntrail ntall) ∧ ∃ x : Nat → AV, fr = [x 0, .ptr (some (H.length, 0)), x 2, .str tx, x 4, x 5, x 6, .ptr (some (a, 0)), x 8, x 9, .ptr (some (a + 1, 0)), x 11, x 12, .ptr (some (a + 2, 0)), x 14, x 15, x 16, x 17, v, t, x 20, x 21, x 22, x 23, x 24, x 25, x 26, x 27, x 28, x 29, x 30, x 31, x 32, x 33, x 34, x 35, x 36, x 37, x 38, x 39, x 40, x 41, x 42, x 43, x 44, x 45, x 46, x 47, x 48, x 49, x 50, x 51, x 52, x 53, x 54, x 55, x 56, x 57, x 58, x 59, x 60, x 61, x 62, x 63, x 64, x 65, x 66, x 67, x 68, x 69, x 70, x 71, x 72, x 73, x 74, x 75, x 76, x 77, x 78, x 79, x 80, x 81, x 82, x 83, x 84, x 85, x 86, x 87, x 88, x 89, x 90, x 91, x 92, x 93, x 94, x 95, x 96, x 97, x 98, x 99, x 100, x 101, x 102, x 103, x 104, x 105, x 106, x 107, x 108, x 109, x 110, x 111, x 112, x 113, x 114, x 115, x 116, x 117, x 118, .int .i64 (i + 1 : Nat), x 120, x 121, x 122, x 123, x 124, x 125, x 126, x 127, x 128, x 129, x 130, x 131, x 132, x 133, x 134, x 135, x 136, x 137, x 138, x 139, x 140, x 141, x 142, x 143, x 144, x 145, x 146, x 147, x 148, x 149, x 150, x 151, x 152, x 153, x 154, x 155, x 156, x 157, x 158, x 159, x 160, x 161, x 162, x 163, x 164, x 165, x 166, x 167, x 168, x 169, x 170, x 171, x 172, x 173, x 174, x 175, x 176, x 177, x 178, x 179, x 180, x 181, x 182, x 183, x 184, x 185, x 186, x 187, x 188]) → memI3 a m tx sx' most ended R v0 t0 H fr K by
        have go : ∀ {fr : List AV} {K : Hp} {KE : Exit → List AV → Hp → Prop} {z : Nat}, z = 9 - i → (∃ v t, GS H K a [.str m, .str sx', .int .i64 most, .bool ended] R v0 t0 v t (nf + 1) (nt + 1) (nmF R.fields.length nmark ngrown) (nmF R.trailers.length ntrail ntall) ∧ ∃ x : Nat → AV, fr = [x 0, .ptr (some (H.length, 0)), x 2, .str tx, x 4, x 5, x 6, .ptr (some (a, 0)), x 8, x 9, .ptr (some (a + 1, 0)), x 11, x 12, .ptr (some (a + 2, 0)), x 14, x 15, x 16, x 17, v, t, x 20, x 21, x 22, x 23, x 24, x 25, x 26, x 27, x 28, x 29, x 30, x 31, x 32, x 33, x 34, x 35, x 36, x 37, x 38, x 39, x 40, x 41, x 42, x 43, x 44, x 45, x 46, x 47, x 48, x 49, x 50, x 51, x 52, x 53, x 54, x 55, x 56, x 57, x 58, x 59, x 60, x 61, x 62, x 63, x 64, x 65, x 66, x 67, x 68, x 69, x 70, x 71, x 72, x 73, x 74, x 75, x 76, x 77, x 78, x 79, x 80, x 81, x 82, x 83, x 84, x 85, x 86, x 87, x 88, x 89, x 90, x 91, x 92, x 93, x 94, x 95, x 96, x 97, x 98, x 99, x 100, x 101, x 102, x 103, x 104, x 105, x 106, x 107, x 108, x 109, x 110, x 111, x 112, x 113, x 114, x 115, x 116, x 117, x 118, .int .i64 (i + 1 : Nat), x 120, x 121, x 122, x 123, x 124, x 125, x 126, x 127, x 128, x 129, x 130, x 131, x 132, x 133, x 134, x 135, x 136, x 137, x 138, x 139, x 140, x 141, x 142, x 143, x 144, x 145, x 146, x 147, x 148, x 149, x 150, x 151, x 152, x 153, x 154, x 155, x 156, x 157, x 158, x 159, x 160, x 161, x 162, x 163, x 164, x 165, x 166, x 167, x 168, x 169, x 170, x 171, x 172, x 173, x 174, x 175, x 176, x 177, x 178, x 179, x 180, x 181, x 182, x 183, x 184, x 185, x 186, x 187, x 188]) → Kloop (memI3 a m tx sx' most ended R v0 t0 H) z (fun fr _ => 9 - (ai (aget fr 119)).toNat) KE .normal fr K := fun {fr K KE z} hz hx => by
          refine Kloop_normal (hs fr K hx) ?_
          obtain ⟨_, _, _, x, rfl⟩ := hx
          simp
          omega
        have hmv := hgs.mv
        rcases hmv with ⟨hv0, rfl⟩ | ⟨vi, vc, A, q1, rfl, q2, q3, q4, q5, q6, q7⟩
        · have hnf0 : nmF R.fields.length nmark ngrown 0 = some ngrown := by rw [hv0] at hnf; exact hnf
          subst hv0
          have hmt := hgs.mt
          rcases hmt with ⟨ht0, rfl⟩ | ⟨ti, tc, B, r1, rfl, r2, r3, r4, r5, r6, r7⟩
          · have hnt0 : nmF R.trailers.length ntrail ntall 0 = some ntall := by rw [ht0] at hnt; exact hnt
            subst ht0
            simp [h9, hw, m0, m0]
            refine VGrow_intro fun c1 hc1 hc2 => ?_
            simp [h9, hw, m0, m0]
            refine VGrow_intro fun c2 hd1 hd2 => ?_
            simp [h9, hw, m0, m0]
            have s1 := hgs.first ngrown [] hc1 hc2 hnf0
            have s2 := s1.swap.first ntall [] hd1 hd2 hnt0
            have s3 := s2.swap
            refine go (by simp) ⟨_, _, by simpa [ngrown, ntall] using s3, fr_intro (by simp)⟩
          · have hct := at_lt r2
            have hft : (∀ y ∈ B.take (nt * 2), y.free = true) = True := eq_true fun y hy => by obtain ⟨s, rfl⟩ := r6 y (List.mem_of_mem_take hy); rfl
            have hlt1 : nt * 2 ≤ B.length := by omega
            by_cases hrt : nt + 1 ≤ tc
            · have hlt3 : (nt + 1) * 2 ≤ B.length := by omega
              simp [h9, hw, m0, r2, hft, hrt, hlt1, hlt3, setL hct, getL hct]
              refine VGrow_intro fun c1 hc1 hc2 => ?_
              simp [h9, hw, m0, r2, hft, hrt, hlt1, hlt3, setL hct, getL hct]
              have s1 := hgs.first ngrown [] hc1 hc2 hnf0
              have r2b : ∀ J : Hp, (K ++ J)[ti]? = some B := fun J => (getL hct K J rfl).trans r2
              have s2 := s1.swap.room (r2b _) hrt ntall [] hnt
              have s3 := s2.swap
              refine go (by simp) ⟨_, _, by simpa [ngrown, ntall, setL hct] using s3, fr_intro (by simp)⟩
            · skip
              simp [h9, hw, m0, r2, hft, hrt, hlt1, m3, m4, setL hct, getL hct]
              refine VGrow_intro fun c1 hc1 hc2 => ?_
              simp [h9, hw, m0, r2, hft, hrt, hlt1, m3, m4, setL hct, getL hct]
              refine VGrow_intro fun c2 hd1 hd2 => ?_
              simp [h9, hw, m0, r2, hft, hrt, hlt1, m3, m4, setL hct, getL hct]
              have s1 := hgs.first ngrown [] hc1 hc2 hnf0
              have r2b : ∀ J : Hp, (K ++ J)[ti]? = some B := fun J => (getL hct K J rfl).trans r2
              have s2 := s1.swap.grow (r2b _) hd1 hd2 ntall [] hnt
              have s3 := s2.swap
              refine go (by simp) ⟨_, _, by simpa [ngrown, ntall, setL hct] using s3, fr_intro (by simp)⟩
        · have hcv := at_lt q2
          have hfv : (∀ y ∈ A.take (nf * 2), y.free = true) = True := eq_true fun y hy => by obtain ⟨s, rfl⟩ := q6 y (List.mem_of_mem_take hy); rfl
          have hlv1 : nf * 2 ≤ A.length := by omega
          have hmt := hgs.mt
          rcases hmt with ⟨ht0, rfl⟩ | ⟨ti, tc, B, r1, rfl, r2, r3, r4, r5, r6, r7⟩
          · have hnt0 : nmF R.trailers.length ntrail ntall 0 = some ntall := by rw [ht0] at hnt; exact hnt
            subst ht0
            by_cases hrv : nf + 1 ≤ vc
            · have hlv3 : (nf + 1) * 2 ≤ A.length := by omega
              simp [h9, hw, q2, hfv, hrv, hlv1, hlv3, m0, setL hcv, getL hcv]
              refine VGrow_intro fun c2 hd1 hd2 => ?_
              simp [h9, hw, q2, hfv, hrv, hlv1, hlv3, m0, setL hcv, getL hcv]
              have s1 := hgs.room q2 hrv ngrown [] hnf
              have s2 := s1.swap.first ntall [] hd1 hd2 hnt0
              have s3 := s2.swap
              refine go (by simp) ⟨_, _, by simpa [ngrown, ntall] using s3, fr_intro (by simp)⟩
            · skip
              simp [h9, hw, q2, hfv, hrv, hlv1, m1, m2, m0, setL hcv, getL hcv]
              refine VGrow_intro fun c1 hc1 hc2 => ?_
              simp [h9, hw, q2, hfv, hrv, hlv1, m1, m2, m0, setL hcv, getL hcv]
              refine VGrow_intro fun c2 hd1 hd2 => ?_
              simp [h9, hw, q2, hfv, hrv, hlv1, m1, m2, m0, setL hcv, getL hcv]
              have s1 := hgs.grow q2 hc1 hc2 ngrown [] hnf
              have s2 := s1.swap.first ntall [] hd1 hd2 hnt0
              have s3 := s2.swap
              refine go (by simp) ⟨_, _, by simpa [ngrown, ntall] using s3, fr_intro (by simp)⟩
          · have hct := at_lt r2
            have hft : (∀ y ∈ B.take (nt * 2), y.free = true) = True := eq_true fun y hy => by obtain ⟨s, rfl⟩ := r6 y (List.mem_of_mem_take hy); rfl
            have hlt1 : nt * 2 ≤ B.length := by omega
            have ne1 : vi ≠ ti := hgs.ap _ _ _ _ _ _ _ _ _ _ rfl rfl
            have ne2 : ti ≠ vi := Ne.symm ne1
            by_cases hrv : nf + 1 ≤ vc
            · have hlv3 : (nf + 1) * 2 ≤ A.length := by omega
              by_cases hrt : nt + 1 ≤ tc
              · have hlt3 : (nt + 1) * 2 ≤ B.length := by omega
                simp [h9, hw, q2, hfv, hrv, hlv1, hlv3, r2, hft, hrt, hlt1, hlt3, setL hcv, getL hcv, setL hct, getL hct, getN, ne1, ne2]
                have s1 := hgs.room q2 hrv ngrown [] hnf
                have r2b : ∀ X, (K.set vi X)[ti]? = some B := fun X => (getN ne1 X).trans r2
                have s2 := s1.swap.room (r2b _) hrt ntall [] hnt
                have s3 := s2.swap
                refine go (by simp) ⟨_, _, by simpa [ngrown, ntall] using s3, fr_intro (by simp)⟩
              · skip
                simp [h9, hw, q2, hfv, hrv, hlv1, hlv3, r2, hft, hrt, hlt1, m3, m4, setL hcv, getL hcv, setL hct, getL hct, getN, ne1, ne2]
                refine VGrow_intro fun c2 hd1 hd2 => ?_
                simp [h9, hw, q2, hfv, hrv, hlv1, hlv3, r2, hft, hrt, hlt1, m3, m4, setL hcv, getL hcv, setL hct, getL hct, getN, ne1, ne2]
                have s1 := hgs.room q2 hrv ngrown [] hnf
                have r2b : ∀ X, (K.set vi X)[ti]? = some B := fun X => (getN ne1 X).trans r2
                have s2 := s1.swap.grow (r2b _) hd1 hd2 ntall [] hnt
                have s3 := s2.swap
                refine go (by simp) ⟨_, _, by simpa [ngrown, ntall] using s3, fr_intro (by simp)⟩
            · skip
              by_cases hrt : nt + 1 ≤ tc
              · have hlt3 : (nt + 1) * 2 ≤ B.length := by omega
                simp [h9, hw, q2, hfv, hrv, hlv1, m1, m2, r2, hft, hrt, hlt1, hlt3, setL hcv, getL hcv, setL hct, getL hct, getN, ne1, ne2]
                refine VGrow_intro fun c1 hc1 hc2 => ?_
                simp [h9, hw, q2, hfv, hrv, hlv1, m1, m2, r2, hft, hrt, hlt1, hlt3, setL hcv, getL hcv, setL hct, getL hct, getN, ne1, ne2]
                have s1 := hgs.grow q2 hc1 hc2 ngrown [] hnf
                have r2b : ∀ J : Hp, (K ++ J)[ti]? = some B := fun J => (getL hct K J rfl).trans r2
                have s2 := s1.swap.room (r2b _) hrt ntall [] hnt
                have s3 := s2.swap
                refine go (by simp) ⟨_, _, by simpa [ngrown, ntall, setL hct] using s3, fr_intro (by simp)⟩
              · skip
                simp [h9, hw, q2, hfv, hrv, hlv1, m1, m2, r2, hft, hrt, hlt1, m3, m4, setL hcv, getL hcv, setL hct, getL hct, getN, ne1, ne2]
                refine VGrow_intro fun c1 hc1 hc2 => ?_
                simp [h9, hw, q2, hfv, hrv, hlv1, m1, m2, r2, hft, hrt, hlt1, m3, m4, setL hcv, getL hcv, setL hct, getL hct, getN, ne1, ne2]
                refine VGrow_intro fun c2 hd1 hd2 => ?_
                simp [h9, hw, q2, hfv, hrv, hlv1, m1, m2, r2, hft, hrt, hlt1, m3, m4, setL hcv, getL hcv, setL hct, getL hct, getN, ne1, ne2]
                have s1 := hgs.grow q2 hc1 hc2 ngrown [] hnf
                have r2b : ∀ J : Hp, (K ++ J)[ti]? = some B := fun J => (getL hct K J rfl).trans r2
                have s2 := s1.swap.grow (r2b _) hd1 hd2 ntall [] hnt
                have s3 := s2.swap
                refine go (by simp) ⟨_, _, by simpa [ngrown, ntall, setL hct] using s3, fr_intro (by simp)⟩
      · rintro fr K ⟨v, t, hg, hx⟩
        exact ⟨i + 1, v, t, by omega, by rw [ef, et]; exact hg, hx⟩
    obtain rfl : i = 9 := by omega
    obtain ⟨vf, vo, vd, vb⟩ := hgs.mv.facts
    obtain ⟨tf, to, td, tb⟩ := hgs.mt.facts
    have hvl : ∀ t, (tsl Tryz.prog t).isSome = true → alen Tryz.prog t v = some (.int .i64 (R.fields.length + 9 : Nat)) := fun t h => hgs.mv.alen h
    simp [-alen, hvl, vf, vo, vd]
    refine VL_go (memI4 a m tx sx' most ended R v0 t0 H) (fun fr _ => R.fields.length + 9 - (ai (aget fr 132)).toNat) ⟨0, v, t, by omega, hgs, fr_intro (by simp)⟩ ?_
    clear hgs h vf vo vd vb tf to td tb hvl
    rintro fr K ⟨i, v, t, hi, hgs, x, rfl⟩
    have ka := hgs.mm.ka
    have hca := at_lt ka
    simp only [rcellsV] at ka
    by_cases h : i < R.fields.length + 9
    · have hmv := hgs.mv
      rcases hmv with ⟨h0, _⟩ | ⟨bi, c, A, q1, rfl, q2, q3, q4, q5, q6, q7⟩
      · omega
      have hcb := at_lt q2
      have hle : i * 2 + 2 ≤ A.length := by omega
      have hA0 := q7 i _ h rfl
      obtain ⟨y, hA1⟩ : ∃ y, A[i * 2 + 1]? = some (.str y) := by
        have hx : A[i * 2 + 1]? = some (A[i * 2 + 1]'(by omega)) := List.getElem?_eq_getElem _
        obtain ⟨y, hy⟩ := q6 _ (List.mem_of_getElem? hx)
        exact ⟨y, by rw [hx, hy]⟩
      have hi9 : (i : Int) < R.fields.length + 9 := by omega
      by_cases him : i < R.fields.length
      · rw [if_pos him] at hA0
        simp only [nmark] at hA0
        have hp1 := cell2_at hA0 hA1
        have hp2 := cell2_at' hA0 hA1
        simp [-alen, hle, hp1, hp2, hv0l, h, hi9, him, hw1 i (by omega), setL hca, getL hca, getL hcb, ka, v0f, v0o, v0d, q2, hA0, hA1]
        exact Kloop_normal ⟨i + 1, _, t, by omega, hgs.app _ (by simp), fr_intro (by simp)⟩ (by simp; omega)
      · rw [if_neg him] at hA0
        simp only [ngrown] at hA0
        have hp1 := cell2_at hA0 hA1
        have hp2 := cell2_at' hA0 hA1
        simp [-alen, hle, hp1, hp2, hv0l, h, hi9, him, hw1 i (by omega), setL hca, getL hca, getL hcb, ka, v0f, v0o, v0d, q2, hA0, hA1]
        exact Kloop_normal ⟨i + 1, _, t, by omega, hgs.app _ (by simp), fr_intro (by simp)⟩ (by simp; omega)
    obtain rfl : i = R.fields.length + 9 := by omega
    obtain ⟨tf, to, td, tb⟩ := hgs.mt.facts
    have htl : ∀ t', (tsl Tryz.prog t').isSome = true → alen Tryz.prog t' t = some (.int .i64 (R.trailers.length + 9 : Nat)) := fun t h => hgs.mt.alen h
    simp [-alen, htl, tf, to, td]
    refine VL_go (memI5 a m tx sx' most ended R v0 t0 H) (fun fr _ => R.trailers.length + 9 - (ai (aget fr 150)).toNat) ⟨0, v, t, by omega, hgs, fr_intro (by simp)⟩ ?_
    clear hgs h tf to td tb htl ka hca
    rintro fr K ⟨i, v, t, hi, hgs, x, rfl⟩
    have ka := hgs.mm.ka
    have hca := at_lt ka
    simp only [rcellsV] at ka
    by_cases h : i < R.trailers.length + 9
    · have hmv := hgs.mt
      rcases hmv with ⟨h0, _⟩ | ⟨bi, c, A, q1, rfl, q2, q3, q4, q5, q6, q7⟩
      · omega
      have hcb := at_lt q2
      have hle : i * 2 + 2 ≤ A.length := by omega
      have hA0 := q7 i _ h rfl
      obtain ⟨y, hA1⟩ : ∃ y, A[i * 2 + 1]? = some (.str y) := by
        have hx : A[i * 2 + 1]? = some (A[i * 2 + 1]'(by omega)) := List.getElem?_eq_getElem _
        obtain ⟨y, hy⟩ := q6 _ (List.mem_of_getElem? hx)
        exact ⟨y, by rw [hx, hy]⟩
      have hi9 : (i : Int) < R.trailers.length + 9 := by omega
      by_cases him : i < R.trailers.length
      · rw [if_pos him] at hA0
        simp only [ntrail] at hA0
        have hp1 := cell2_at hA0 hA1
        have hp2 := cell2_at' hA0 hA1
        simp [-alen, hle, hp1, hp2, ht0l, h, hi9, him, hw1 i (by omega), setL hca, getL hca, getL hcb, ka, t0f, t0o, t0d, q2, hA0, hA1]
        exact Kloop_normal ⟨i + 1, v, _, by omega, hgs.app _ (by simp), fr_intro (by simp)⟩ (by simp; omega)
      · rw [if_neg him] at hA0
        simp only [ntall] at hA0
        have hp1 := cell2_at hA0 hA1
        have hp2 := cell2_at' hA0 hA1
        simp [-alen, hle, hp1, hp2, ht0l, h, hi9, him, hw1 i (by omega), setL hca, getL hca, getL hcb, ka, t0f, t0o, t0d, q2, hA0, hA1]
        exact Kloop_normal ⟨i + 1, v, _, by omega, hgs.app _ (by simp), fr_intro (by simp)⟩ (by simp; omega)
    obtain rfl : i = R.trailers.length + 9 := by omega
    have k1 := hgs.mm.k1
    have kb := hgs.mm.kb
    have kc := hgs.mm.kc
    have hck := at_lt k1
    have hcb := at_lt kb
    have hcc := at_lt kc
    simp only [Rep.avs] at kb kc
    simp [k1]
    refine parse_pc E _ _ hE.1.1 m tx most ended (by have := hSD.len; omega) hSD.most ?_
    rw [hSD.eq]
    simp [Rep.avs, getL hcb, getL hcc, kb, kc]
    refine sameReply_pc E _ _ R hlf hlt ?_
    simp [getL hcb, getL hcc, kb, kc]
    refine sameReply_pc E _ _ R hlf hlt ?_
    simp
    have hb := hgs.mm.len
    exact aPost_law hB (by simp; omega) (fun j hj => by rw [List.getElem?_append_left (by omega)]; exact hgs.mm.keep j hj) rfl (by simp) hQ
end
end Go.Proofs.YtcdkcaocfioigaaGreatDoor

set_option linter.unusedVariables false
set_option linter.unnecessarySimpa false
set_option linter.unusedSimpArgs false
set_option linter.unusedSectionVars false
set_option maxRecDepth 100000
namespace Go.Proofs.YtcdkcaocfioigaaGreatDoor
open Go Go.RowKit Go.Proofs Go.Deep

theorem mmemory_true (W : World) (cs : Array Value) (ks : List AV) (op : Opened W [.str, .str, .int .i64, .bool] cs.toList ks) (hw : wtA ks + 1 ≤ 1048576) (hT : Tabs W) :
    Calls Tryz.prog 6 #[.agg cs] W fun e w' => e = .returned (.bool true) ∧ Frm (fun _ => False) W w' := by
  obtain ⟨s, rfl, hm, hsl, hrl⟩ := rel_stream op
  refine calls_sm (args := [.agg s.avs]) hT rfl (fun t x u hx hu => ?_) (fun E Q hE h => mmemory_pc E [] Q hE s (by omega) hm h)
  match t with
  | 0 => simp at hx hu; subst hx; subst hu; exact hrl
  | t + 1 => simp at hx
end Go.Proofs.YtcdkcaocfioigaaGreatDoor

set_option linter.unusedVariables false
set_option linter.unusedSimpArgs false
namespace Go.Proofs.YtcdkcaocfioigaaGreatDoor
open Go Go.ChangeShapes Go.WideShapes Go.ChangeAt Go.RowKit Go.Deep

theorem signsNamed : Tryz.prog.globalNamed "turnpike/octet.signs" = some 1 := by kernel_rfl
theorem signsType : (Tryz.prog.globals[1]?).map (·.type) = some 244 := by kernel_rfl
theorem signs_of_row {W : World} {rest : List (String × DataW Unit)} (h : laidMet Tryz.prog (("turnpike/octet.signs", Rows.laid_turnpike_octet_signs) :: rest) W) : Signs W := by
  have ht : Lib.TabIs Tryz.prog W "turnpike/octet.signs" .u32 signTab := Lib.tabIs_of_head (rest := rest) signsNamed signsType Tryz.underlying244 Tryz.underlying220 (by kernel_rfl) (by kernel_rfl) h
  intro j z hz
  have hj := (List.getElem?_eq_some_iff.1 hz).1
  have := ht.cell signsNamed j hj
  rw [List.getD, hz] at this
  exact this
end Go.Proofs.YtcdkcaocfioigaaGreatDoor

set_option linter.unusedVariables false
set_option linter.unusedSimpArgs false
namespace Go.Proofs.YtcdkcaocfioigaaGreatDoor
open Go Go.ChangeShapes Go.WideShapes Go.ChangeAt Go.RowKit Go.Deep

theorem dbNamed : Tryz.prog.globalNamed "math/bits.deBruijn64tab" = some 3 := by kernel_rfl
theorem dbType : (Tryz.prog.globals[3]?).map (·.type) = some 256 := by kernel_rfl
def dbTab : List Int := [0, 1, 56, 2, 57, 49, 28, 3, 61, 58, 42, 50, 38, 29, 17, 4, 62, 47, 59, 36, 45, 43, 51, 22, 53, 39, 33, 30, 24, 18, 12, 5, 63, 55, 48, 27, 60, 41, 37, 16, 46, 35, 44, 21, 52, 32, 23, 11, 54, 26, 40, 15, 34, 20, 31, 10, 25, 14, 19, 9, 13, 8, 7, 6]
theorem tz_of_row {W : World} {rest : List (String × DataW Unit)} (h : laidMet Tryz.prog (("math/bits.deBruijn64tab", Rows.laid_math_bits_deBruijn64tab) :: rest) W) : Tz W := by
  have ht : Lib.TabIs Tryz.prog W "math/bits.deBruijn64tab" .u8 dbTab := Lib.tabIs_of_head (rest := rest) dbNamed dbType Tryz.underlying256 Tryz.underlying5 (by kernel_rfl) (by kernel_rfl) h
  exact ht.cell dbNamed 15 (by decide)
end Go.Proofs.YtcdkcaocfioigaaGreatDoor

