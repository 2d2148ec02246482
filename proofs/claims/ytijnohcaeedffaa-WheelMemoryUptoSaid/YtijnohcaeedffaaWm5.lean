/- Part 5 of the texts below the law: the abstract machine, the functions that it walks, what they compute. -/
import Derived.Test.YtijnohcaeedffaaWm4
import Derived.Test.YtijnohcaeedffaaProg
import Derived.KernelRfl
import Derived.Maps.RangeWalk
set_option linter.unusedVariables false
set_option linter.unnecessarySimpa false
set_option linter.unusedSimpArgs false
set_option maxRecDepth 100000
namespace Go.Proofs.Ytijnohcaeedffaa
open Go Go.RowKit

/-- A value without a heap. -/
inductive Pln : AV → Prop
  | int (k n) : Pln (.int k n)
  | bool (b) : Pln (.bool b)
  | str (s) : Pln (.str s)
  | agg (l) (h : ∀ x ∈ l, Pln x) : Pln (.agg l)
  | tup (l) (h : ∀ x ∈ l, Pln x) : Pln (.tup l)
attribute [simp] Pln.int Pln.bool Pln.str
@[simp] theorem pln_agg (l : List AV) : Pln (.agg l) ↔ ∀ x ∈ l, Pln x := ⟨fun h => by cases h; assumption, .agg l⟩
@[simp] theorem pln_tup (l : List AV) : Pln (.tup l) ↔ ∀ x ∈ l, Pln x := ⟨fun h => by cases h; assumption, .tup l⟩
theorem Pln.rel {w w' : World} {β β' : Nat → Nat} {Rd Rd' : Nat → Nat → Prop} {v : AV} {c : Value} (h : Rel w β Rd v c) (hp : Pln v) : Rel w' β' Rd' v c := by
  induction h with
  | int | bool => constructor
  | str s l h hm => exact .str s l h hm
  | agg l vs hl hf hr ih =>
    cases hp with
    | agg _ hp => exact .agg l vs hl hf (fun j x u hx hu => ih j x u hx hu (hp x (mem_at hx)))
  | tup l vs hl hf hr ih =>
    cases hp with
    | tup _ hp => exact .tup l vs hl hf (fun j x u hx hu => ih j x u hx hu (hp x (mem_at hx)))
  | _ => cases hp
theorem Pln.bnd {v : AV} {N : Nat} (h : Pln v) : Bnd N v := by
  induction h with
  | int | bool | str => constructor
  | agg l h ih => exact .agg l ih
  | tup l h ih => exact .tup l ih
theorem Pln.free {v : AV} (h : Pln v) : v.free = true := by cases h <;> rfl
/-- y: what is read of x. -/
def seesBx (H : Hp) (x y : AV) : Prop := x = y ∨ (x = .nil ∧ ∃ k, y = .sl false k []) ∨ ∃ i o n c k rows l, x = .bx i o n c k ∧ y = .sl false k rows ∧ rows.length = n ∧ (∀ r ∈ rows, r.length = k) ∧ H[i]? = some l ∧ o + n * k ≤ l.length ∧ (∀ j u, rows.flatten[j]? = some u → l[o + j]? = some u) ∧ (∀ r ∈ rows, ∀ x ∈ r, x.free = true)
def seesL (H : Hp) : List AV → List AV → Prop
  | [], [] => True
  | x :: l, y :: m => seesBx H x y ∧ seesL H l m
  | _, _ => False
theorem seesL_at {H : Hp} : ∀ {l m : List AV}, seesL H l m → l.length = m.length ∧ ∀ (i : Nat) y, m[i]? = some y → ∃ x, l[i]? = some x ∧ seesBx H x y
  | [], [], _ => ⟨rfl, fun i y h => by simp at h⟩
  | x :: l, y :: m, h => by
    obtain ⟨h1, h2⟩ := h
    obtain ⟨h3, h4⟩ := seesL_at h2
    refine ⟨by simp [h3], fun i z hz => ?_⟩
    cases i with
    | zero => simp at hz; subst hz; exact ⟨x, rfl, h1⟩
    | succ i => exact h4 i z (by simpa using hz)
  | [], _ :: _, h => h.elim
  | _ :: _, [], h => h.elim
section
variable {P : Program} {E : Env} {w : World} {β : Nat → Nat} {Rd : Nat → Nat → Prop} {Ow : Nat → Option Hold} {H : Hp}
theorem Rel.alone (hHR : HR E w β Rd Ow H) {x : AV} {u : Value} (h : Rel w β Rd x u) (hb : Bnd 0 x) (hf : x.free = true) : Rel w (fun _ => 0) (old w) x u :=
  h.move hb (fun g o hg => ⟨hHR.rds g o hg, rfl⟩) (fun g hg => by rw [own0_free hf] at hg; cases hg) (Nat.le_refl _) (fun i hi => by omega)
theorem seesBx.rel (hHR : HR E w β Rd Ow H) {x y : AV} {u : Value} (hs : seesBx H x y) (h : Rel w β Rd x u) (hb : Bnd 0 y) (hf : y.free = true) : Rel w (fun _ => 0) (old w) y u := by
  rcases hs with rfl | ⟨rfl, k, rfl⟩ | ⟨i, o, n, c, k, rows, l, rfl, rfl, hn, hk, hl, hlen, hat, hfr⟩
  · exact h.alone hHR hb hf
  · exact (nil1_rel (.inr ⟨rfl, false, k, rfl⟩) (h.alone hHR .nil rfl) (Bnd.nil (N := 0))).1
  · cases h with
    | bx _ _ _ _ _ hnc hm =>
      obtain ⟨T, cs, hbk, hcs, hce⟩ := hHR.box i l hl
      have hlt : β i < w.heap.size := (Array.getElem?_eq_some_iff.1 hbk).1
      have hfl := flat_len hk
      have hB : ∀ r ∈ rows, ∀ x ∈ r, Bnd 0 x := by cases hb; assumption
      have hcell : ∀ j, j < n * k → w.cell? ⟨β i, o + j, none⟩ = ((cs.toList.drop o).take (n * k))[j]? := fun j hj => by
        rw [cell_blk hbk, List.getElem?_take, if_pos hj, List.getElem?_drop, Array.getElem?_toList]
      subst hn
      refine .sl false k rows _ ((cs.toList.drop o).take (rows.length * k)) hk ⟨?_, _, c, rfl, hnc, hm, fun _ => ⟨β i, o, rfl, hcell⟩⟩ (fun g o' n' c' hv j hj => ?_) (fun h => by cases h) (fun r hr x hx => ⟨hfr r hr x hx, ?_⟩) (fun j x u hx hu => ?_)
      · have e : cs.toList.length = cs.size := by simp
        rw [List.length_take, List.length_drop, e]; omega
      · injection hv with h1 h2 h3
        injection h1 with h1
        injection h1 with h1 h4
        subst h1
        exact hlt
      · obtain ⟨j, hj⟩ := List.getElem?_of_mem (List.mem_flatten.2 ⟨r, hr, hx⟩)
        have hlj := hat j x hj
        have hj2 : o + j < cs.size := by have := (List.getElem?_eq_some_iff.1 hlj).1; rw [hcs]; exact this
        exact (hce _ x _ hlj (Array.getElem?_eq_getElem hj2)).2.1
      · obtain ⟨r, hr1, hr2⟩ := flat_mem hx
        have hj : j < rows.length * k := hfl ▸ (List.getElem?_eq_some_iff.1 hx).1
        have hlj := hat j x hx
        have hu2 : cs[o + j]? = some u := by
          rw [List.getElem?_take, if_pos hj, List.getElem?_drop, Array.getElem?_toList] at hu
          exact hu
        exact (hce _ x u hlj hu2).1.alone hHR (hB r hr1 x hr2) (hfr r hr1 x hr2)
/-- THE CALL. -/
theorem PC.pure {f : FuncId} {args args' : List AV} {Q : AV → Hp → Prop} {v : AV} (hB : hasB P f = true) (hs : seesL H args args') (hb : ∀ y ∈ args', Bnd 0 y ∧ y.free = true) (hv : Pln v)
    (h : ∀ (E' : Env) (Q' : AV → Hp → Prop), E'.w0 = E.w0 → E'.Fix = E.Fix → Q' v [] → PC P E' f args' [] Q') (hQ : Q v H) : PC P E f args H Q := by
  refine ⟨hB, fun w β Rd Ow cargs hHR hOw hsz hargs => ?_⟩
  obtain ⟨hl, hat⟩ := seesL_at hs
  have hp := h ⟨E.w0, E.Fix, fun _ => True⟩ (fun u H' => u = v) rfl rfl rfl
  refine (hp.2 w (fun _ => 0) (old w) (fun _ => none) cargs ⟨fun i l hl => by simp at hl, fun i j hi => by simp at hi, fun i hi => by simp at hi, fun g h hg => (by cases hg), fun g o hg => hg, fun l hl => by simp at hl, fun b hb => ⟨(hHR.fix b hb).1, rfl, fun i hi => by simp at hi, (hHR.fix b hb).2.2.2⟩, fun i l t hl => by simp at hl⟩ (fun g h hg => by cases hg) (by omega) (fun t y u hy hu => ?_)).mono ?_
  · obtain ⟨x, hx, hxy⟩ := hat t y hy
    have hyb := hb y (mem_at hy)
    exact ⟨hxy.rel hHR (hargs t x u hx hu).1 hyb.1 hyb.2, hyb.1, hyb.2⟩
  · rintro e w' ⟨c, u, H', β', Rd', Ow', rfl, rfl, hP⟩
    have hF : Frm (fun _ => False) w w' := ⟨hP.os, hP.tape, hP.output, hP.size, fun b hb _ => (hP.frame b hb (fun i hi => by simp at hi) rfl).1⟩
    exact ⟨c, u, H, β, _, Ow, rfl, hQ, post_freshP hHR hF (fun _ _ => False) (fun _ _ h => h.elim) (Pln.rel hP.rel hv) hv.bnd hv.free⟩
end
end Go.Proofs.Ytijnohcaeedffaa

set_option linter.unusedVariables false
set_option linter.unnecessarySimpa false
set_option linter.unusedSimpArgs false
set_option maxRecDepth 100000
namespace Go.Proofs.Ytijnohcaeedffaa
open Go Go.RowKit

section
variable {K : Hp} {c : Nat} (h : c < K.length)
include h
theorem setX (L J : Hp) (x : List AV) (hl : L.length = K.length) : (L ++ J).set c x = L.set c x ++ J := List.set_append_left _ _ (by omega)
theorem getX (L J : Hp) (hl : L.length = K.length) : (L ++ J)[c]? = L[c]? := List.getElem?_append_left (by omega)
theorem getSX (L : Hp) (x : List AV) (hl : L.length = K.length) : (L.set c x)[c]? = some x := List.getElem?_set_self (by omega)
end
theorem getNX {L : Hp} {c d : Nat} (h : d ≠ c) (x : List AV) : (L.set d x)[c]? = L[c]? := List.getElem?_set_ne h
theorem ltX {α : Type} {l : List α} {i : Nat} {x : α} (h : l[i]? = some x) : i < l.length := (List.getElem?_eq_some_iff.1 h).1
theorem bndX_app {N : Nat} {H J : Hp} (h : BndH N H) (h2 : ∀ l ∈ J, ∀ x ∈ l, Bnd N x) : BndH N (H ++ J) := fun l hl x hx => by
  rcases List.mem_append.1 hl with h' | h'
  · exact h l h' x hx
  · exact h2 l h' x hx
theorem bndX_up {N M : Nat} {H : Hp} (h : BndH N H) (hm : N ≤ M) : BndH M H := fun l hl x hx => (h l hl x hx).mono hm
theorem bndX_put {N : Nat} {H : Hp} (h : BndH N H) (c : Nat) {l : List AV} (hl : ∀ x ∈ l, Bnd N x) : BndH N (H.set c l) := fun m hm x hx => by
  rcases List.mem_or_eq_of_mem_set hm with h1 | rfl
  · exact h m h1 x hx
  · exact hl x hx
theorem up_dropX {H H' : Hp} (h : H.length ≤ H'.length) (k : ∀ j, j < H.length → H'[j]? = H[j]?) : H' = H ++ H'.drop H.length := by
  refine List.ext_getElem? fun j => ?_
  by_cases hj : j < H.length
  · rw [List.getElem?_append_left hj, k j hj]
  · rw [List.getElem?_append_right (by omega), List.getElem?_drop]; congr 1; omega
theorem aPost_upX {P : Program} {rs : List ResultVar} {n : Nat} {Q : AV → Hp → Prop} {fr : List AV} {H' : Hp} {v : AV} (h1 : ares P fr H' rs = some v) (h3 : n ≤ H'.length) (h4 : BndH H'.length H') (h5 : Bnd H'.length v) (h6 : Q v H') :
    aPost P rs n Q .ret fr H' := ⟨v, v, H', H', [], h1, nilV_refl _, nilH_refl _, (List.append_nil H').symm, h3, h4, h5, h6⟩
theorem aPost_lawX {P : Program} {rs : List ResultVar} {Q : AV → Hp → Prop} {fr : List AV} {H H' : Hp} {v0 : AV} (hB : BndH H.length H) (hl : H.length ≤ H'.length) (hk : ∀ j, j < H.length → H'[j]? = H[j]?) (h1 : ares P fr H' rs = some v0) (h5 : Bnd H.length v0) (h6 : Q v0 H) :
    aPost P rs H.length Q .ret fr H' := by
  have e := up_dropX hl hk
  rw [e] at h1 ⊢
  exact aPost_same hB h1 (nilV_refl _) h5 h6
/-- A plain cell. -/
def smp (y : AV) : Prop := Pln y ∧ y.one = true
@[simp] theorem smp_int (k n) : smp (.int k n) := ⟨.int _ _, rfl⟩
@[simp] theorem smp_bool (b) : smp (.bool b) := ⟨.bool _, rfl⟩
@[simp] theorem smp_str (s) : smp (.str s) := ⟨.str _, rfl⟩
theorem smp.free {y : AV} (h : smp y) : y.free = true := h.1.free
theorem smp.bnd {y : AV} (h : smp y) (N : Nat) : Bnd N y := h.1.bnd
theorem smp.dis {y : AV} (h : smp y) : y.dis = y := dis_of_free h.free
theorem smps_dis {l : List AV} (h : ∀ y ∈ l, smp y) : l.map AV.dis = l := by
  induction l with
  | nil => rfl
  | cons a l ih => simp only [List.map_cons]; rw [ih (fun y hy => h y (List.mem_cons_of_mem _ hy)), (h a (List.mem_cons_self ..)).dis]
/-- A slice of n rows of k plain cells, nil or a box's. -/
def BX (K : Hp) (G : Nat → Prop) (k : Nat) (v : AV) (n : Nat) (C : Nat → AV → Prop) : Prop := (n = 0 ∧ v = .nil) ∨ ∃ i c A, G i ∧ v = .bx i 0 n c k ∧ K[i]? = some A ∧ A.length = c * k ∧ n ≤ c ∧ c ≤ maxLen ∧ (∀ y ∈ A, smp y) ∧ ∀ j y, j < n * k → A[j]? = some y → C j y
section
variable {K : Hp} {G : Nat → Prop} {v : AV} {n k : Nat} {C C' : Nat → AV → Prop}
theorem BX.nil : BX K G k .nil 0 C := .inl ⟨rfl, rfl⟩
theorem BX.lt (h : BX K G k v n C) : ∀ i o m c k', v = .bx i o m c k' → G i ∧ i < K.length := fun i o m c k' e => by
  rcases h with ⟨_, rfl⟩ | ⟨i', c', A, h1, rfl, h2, _⟩
  · cases e
  · cases e; exact ⟨h1, ltX h2⟩
theorem BX.of_eq {K' : Hp} {G' : Nat → Prop} (h : BX K G k v n C) (he : ∀ i o m c k', v = .bx i o m c k' → K'[i]? = K[i]?) (hG : ∀ i o m c k', v = .bx i o m c k' → G' i) (hC : ∀ j y, j < n * k → smp y → C j y → C' j y) : BX K' G' k v n C' := by
  rcases h with h | ⟨i, c, A, h1, rfl, h2, h3, h4, h5, h6, h7⟩
  · exact .inl h
  · exact .inr ⟨i, c, A, hG _ _ _ _ _ rfl, rfl, (he _ _ _ _ _ rfl).trans h2, h3, h4, h5, h6, fun j y hj hy => hC j y hj (h6 y (List.mem_of_getElem? hy)) (h7 j y hj hy)⟩
theorem BX.app (h : BX K G k v n C) (J : Hp) : BX (K ++ J) G k v n C :=
  h.of_eq (fun i _ _ _ _ e => List.getElem?_append_left (h.lt _ _ _ _ _ e).2) (fun i _ _ _ _ e => (h.lt _ _ _ _ _ e).1) (fun _ _ _ _ h => h)
theorem BX.put (h : BX K G k v n C) {i : Nat} (hi : ∀ i' o m c k', v = .bx i' o m c k' → i ≠ i') (A : List AV) : BX (K.set i A) G k v n C :=
  h.of_eq (fun i' _ _ _ _ e => getNX (hi _ _ _ _ _ e) _) (fun i _ _ _ _ e => (h.lt _ _ _ _ _ e).1) (fun _ _ _ _ h => h)
theorem BX.facts (h : BX K G k v n C) : v.free = true ∧ v.one = true ∧ v.dis = v ∧ Bnd K.length v := by
  rcases h with ⟨_, rfl⟩ | ⟨i, c, A, h1, rfl, h2, _⟩
  · exact ⟨rfl, rfl, rfl, .nil⟩
  · exact ⟨rfl, rfl, rfl, .bx _ _ _ _ _ (ltX h2)⟩
theorem BX.alen {P : Program} {t : TypeId} (h : BX K G k v n C) (ht : (tsl P t).isSome = true) : Go.Proofs.Ytijnohcaeedffaa.alen P t v = some (.int .i64 n) := by
  rcases h with ⟨rfl, rfl⟩ | ⟨i, c, A, h1, rfl, _⟩ <;> simp [Go.Proofs.Ytijnohcaeedffaa.alen, ht]
theorem mul_rows {n c k : Nat} (h : n ≤ c) : n * k ≤ c * k := Nat.mul_le_mul_right k h
/-- A row is stored. -/
theorem BX.mark {i c : Nat} {A r : List AV} (h : BX K G k (.bx i 0 n c k) n C) (hA : K[i]? = some A) {j : Nat} (hj : j < n) (hr : r.length = k) (hs : ∀ y ∈ r, smp y)
    (hC : ∀ m y, m < n * k → (if j * k ≤ m ∧ m < j * k + k then r[m - j * k]? = some y else C m y) → C' m y) : BX (K.set i (A.take (j * k) ++ (r ++ A.drop (j * k + k)))) G k (.bx i 0 n c k) n C' ∧ ∀ y ∈ A.take (j * k) ++ (r ++ A.drop (j * k + k)), smp y := by
  rcases h with ⟨_, e⟩ | ⟨i', c', A', h1, e, h2, h3, h4, h5, h6, h7⟩
  · cases e
  cases e
  rw [hA] at h2; cases h2
  have hjk : j * k + k ≤ c * k := by have := mul_rows (k := k) (show j + 1 ≤ c by omega); rw [Nat.add_mul] at this; omega
  have hl : (A.take (j * k)).length = j * k := by rw [List.length_take]; omega
  have hsm : ∀ y ∈ A.take (j * k) ++ (r ++ A.drop (j * k + k)), smp y := fun y hy => by
    rcases List.mem_append.1 hy with h | h
    · exact h6 y (List.mem_of_mem_take h)
    · rcases List.mem_append.1 h with h | h
      · exact hs y h
      · exact h6 y (List.mem_of_mem_drop h)
  refine ⟨.inr ⟨i, c, _, h1, rfl, List.getElem?_set_self (ltX hA), ?_, h4, h5, hsm, fun m y hm hy => hC m y hm ?_⟩, hsm⟩
  · simp only [List.length_append, hl, hr, List.length_drop]; omega
  · by_cases h8 : m < j * k
    · rw [if_neg (by omega)]
      rw [List.getElem?_append_left (by omega), List.getElem?_take_of_lt h8] at hy
      exact h7 m y hm hy
    · rw [List.getElem?_append_right (by omega), hl] at hy
      by_cases h9 : m < j * k + k
      · rw [if_pos ⟨by omega, h9⟩]
        rw [List.getElem?_append_left (by omega)] at hy
        exact hy
      · rw [if_neg (by omega)]
        rw [List.getElem?_append_right (by omega), hr, List.getElem?_drop] at hy
        exact h7 m y hm (by rw [← hy]; congr 1; omega)
/-- A row more, where there is room. -/
theorem BX.room {i c : Nat} {A r : List AV} (h : BX K G k (.bx i 0 n c k) n C) (hA : K[i]? = some A) (hrm : n + 1 ≤ c) (hr : r.length = k) (hs : ∀ y ∈ r, smp y)
    (hC : ∀ m y, m < (n + 1) * k → (if n * k ≤ m then r[m - n * k]? = some y else C m y) → C' m y) : BX (K.set i (A.take (n * k) ++ (r ++ A.drop (n * k + k)))) G k (.bx i 0 (n + 1) c k) (n + 1) C' ∧ ∀ y ∈ A.take (n * k) ++ (r ++ A.drop (n * k + k)), smp y := by
  rcases h with ⟨_, e⟩ | ⟨i', c', A', h1, e, h2, h3, h4, h5, h6, h7⟩
  · cases e
  cases e
  rw [hA] at h2; cases h2
  have hjk : n * k + k ≤ c * k := by have := mul_rows (k := k) hrm; rw [Nat.add_mul] at this; omega
  have hl : (A.take (n * k)).length = n * k := by rw [List.length_take]; omega
  have hsm : ∀ y ∈ A.take (n * k) ++ (r ++ A.drop (n * k + k)), smp y := fun y hy => by
    rcases List.mem_append.1 hy with h | h
    · exact h6 y (List.mem_of_mem_take h)
    · rcases List.mem_append.1 h with h | h
      · exact hs y h
      · exact h6 y (List.mem_of_mem_drop h)
  refine ⟨.inr ⟨i, c, _, h1, rfl, List.getElem?_set_self (ltX hA), ?_, hrm, h5, hsm, fun m y hm hy => hC m y hm ?_⟩, hsm⟩
  · simp only [List.length_append, hl, hr, List.length_drop]; omega
  · by_cases h8 : m < n * k
    · rw [if_neg (by omega)]
      rw [List.getElem?_append_left (by omega), List.getElem?_take_of_lt h8] at hy
      exact h7 m y h8 hy
    · rw [if_pos (by omega)]
      rw [List.getElem?_append_right (by omega), hl, List.getElem?_append_left (by rw [hr]; rw [Nat.add_mul] at hm; omega)] at hy
      exact hy
/-- .. and in a new box: L: what stood there. -/
theorem BX.grow {c' : Nat} {L r z : List AV} (hL : L.length = n * k) (hLs : ∀ y ∈ L, smp y) (hLC : ∀ m y, m < n * k → L[m]? = some y → C m y) (hc1 : n + 1 ≤ c') (hc2 : c' ≤ maxLen) (hG : G K.length) (hr : r.length = k) (hs : ∀ y ∈ r, smp y) (hz : z.length = k) (hzs : ∀ y ∈ z, smp y)
    (hC : ∀ m y, m < (n + 1) * k → (if n * k ≤ m then r[m - n * k]? = some y else C m y) → C' m y) : BX (K ++ [L ++ (r ++ (List.replicate (c' - (n + 1)) z).flatten)]) G k (.bx K.length 0 (n + 1) c' k) (n + 1) C' ∧ ∀ y ∈ L ++ (r ++ (List.replicate (c' - (n + 1)) z).flatten), smp y := by
  have hsm : ∀ y ∈ L ++ (r ++ (List.replicate (c' - (n + 1)) z).flatten), smp y := fun y hy => by
    rcases List.mem_append.1 hy with h | h
    · exact hLs y h
    · rcases List.mem_append.1 h with h | h
      · exact hs y h
      · obtain ⟨q, hq1, hq2⟩ := List.mem_flatten.1 h
        rw [(List.mem_replicate.1 hq1).2] at hq2
        exact hzs y hq2
  refine ⟨.inr ⟨K.length, c', L ++ (r ++ (List.replicate (c' - (n + 1)) z).flatten), hG, rfl, by simp, ?_, hc1, hc2, hsm, fun m y hm hy => hC m y hm ?_⟩, hsm⟩
  · have hf : (List.replicate (c' - (n + 1)) z).flatten.length = (c' - (n + 1)) * k := by
      rw [flat_len (k := k) (fun q hq => by rw [(List.mem_replicate.1 hq).2]; exact hz), List.length_replicate]
    rw [List.length_append, List.length_append, hL, hr, hf, ← Nat.add_assoc, ← Nat.succ_mul, ← Nat.add_mul]
    congr 1; omega
  · by_cases h8 : m < n * k
    · rw [if_neg (by omega)]
      rw [List.getElem?_append_left (by omega)] at hy
      exact hLC m y h8 hy
    · rw [if_pos (by omega)]
      rw [List.getElem?_append_right (by omega), hL, List.getElem?_append_left (by rw [hr]; rw [Nat.add_mul] at hm; omega)] at hy
      exact hy
/-- What stands in a slice. -/
theorem BX.cells {i c : Nat} {A : List AV} (h : BX K G k (.bx i 0 n c k) n C) (hA : K[i]? = some A) : (A.take (n * k)).length = n * k ∧ (∀ y ∈ A, smp y) ∧ n * k ≤ A.length ∧ A.length = c * k ∧ n ≤ c ∧ c ≤ maxLen ∧ G i ∧ (∀ m y, m < n * k → (A.take (n * k))[m]? = some y → C m y) ∧ ∀ m y, m < n * k → A[m]? = some y → C m y := by
  rcases h with ⟨_, e⟩ | ⟨i', c', A', h1, e, h2, h3, h4, h5, h6, h7⟩
  · cases e
  cases e
  rw [hA] at h2; cases h2
  have := mul_rows (k := k) h4
  exact ⟨by rw [List.length_take]; omega, h6, by omega, h3, h4, h5, h1, fun m y hm hy => by rw [List.getElem?_take_of_lt hm] at hy; exact h7 m y hm hy, h7⟩
end
end Go.Proofs.Ytijnohcaeedffaa

set_option linter.unusedVariables false
set_option linter.unnecessarySimpa false
set_option linter.unusedSimpArgs false
set_option maxRecDepth 100000
namespace Go.Proofs.Ytijnohcaeedffaa
open Go Go.RowKit

section
variable {E : Env} {w w' : World} {β : Nat → Nat} {Rd : Nat → Nat → Prop} {Ow : Nat → Option Hold} {H : Hp} {i p g : Nat} {l : List AV} {X X' : Ob} {T : TypeId} {cs : Array Value} {v : Value}
end
end Go.Proofs.Ytijnohcaeedffaa

set_option linter.unusedVariables false
namespace Go.Proofs.Ytijnohcaeedffaa
open Go
@[simp] theorem tf_sz3 : tsz Try.prog 3 = some 1 := by kernel_rfl
@[simp] theorem tf_row3 : trow Try.prog 3 = some false := by kernel_rfl
@[simp] theorem tf_sz22 : tsz Try.prog 22 = some 1 := by kernel_rfl
@[simp] theorem tf_by22 : tby Try.prog 22 = some 24 := by kernel_rfl
@[simp] theorem tf_row22 : trow Try.prog 22 = some false := by kernel_rfl
@[simp] theorem tf_sl22 : tsl Try.prog 22 = some 30 := by kernel_rfl
@[simp] theorem tf_el22 : tel Try.prog 22 = some 2 := by kernel_rfl
@[simp] theorem tf_zc22 : tzc Try.prog 22 = some [.nil] := by kernel_rfl
@[simp] theorem tf_ptr23 : tptr Try.prog 23 = true := by kernel_rfl
@[simp] theorem tf_sz30 : tsz Try.prog 30 = some 2 := by kernel_rfl
@[simp] theorem tf_by30 : tby Try.prog 30 = some 16 := by kernel_rfl
@[simp] theorem tf_row30 : trow Try.prog 30 = some true := by kernel_rfl
@[simp] theorem tf_zc30 : tzc Try.prog 30 = some [.int .i64 0, .int .i64 0] := by kernel_rfl
@[simp] theorem tf_pl30 : tplaces Try.prog 30 = some [(0, 1), (1, 1)] := by kernel_rfl
@[simp] theorem tf_fld30x0 : tfld Try.prog 30 0 = some (0, 1, false) := by kernel_rfl
@[simp] theorem tf_fld30x1 : tfld Try.prog 30 1 = some (1, 1, false) := by kernel_rfl
@[simp] theorem tf_flat30 : tflat Try.prog 30 = some [0, 0] := by kernel_rfl
@[simp] theorem tf_sl37 : tsl Try.prog 37 = some 45 := by kernel_rfl
@[simp] theorem tf_el37 : tel Try.prog 37 = some 3 := by kernel_rfl
@[simp] theorem tf_sz38 : tsz Try.prog 38 = some 1 := by kernel_rfl
@[simp] theorem tf_row38 : trow Try.prog 38 = some false := by kernel_rfl
@[simp] theorem tf_sl38 : tsl Try.prog 38 = some 72 := by kernel_rfl
@[simp] theorem tf_el38 : tel Try.prog 38 = some 2 := by kernel_rfl
@[simp] theorem tf_sz40 : tsz Try.prog 40 = some 2 := by kernel_rfl
@[simp] theorem tf_row40 : trow Try.prog 40 = some true := by kernel_rfl
@[simp] theorem tf_zc40 : tzc Try.prog 40 = some [.int .i64 0, .nil] := by kernel_rfl
@[simp] theorem tf_pl40 : tplaces Try.prog 40 = some [(0, 1), (1, 1)] := by kernel_rfl
@[simp] theorem tf_fld40x0 : tfld Try.prog 40 0 = some (0, 1, false) := by kernel_rfl
@[simp] theorem tf_fld40x1 : tfld Try.prog 40 1 = some (1, 1, false) := by kernel_rfl
@[simp] theorem tf_sl43 : tsl Try.prog 43 = some 22 := by kernel_rfl
@[simp] theorem tf_el43 : tel Try.prog 43 = some 1 := by kernel_rfl
@[simp] theorem tf_sz45 : tsz Try.prog 45 = some 3 := by kernel_rfl
@[simp] theorem tf_row45 : trow Try.prog 45 = some true := by kernel_rfl
@[simp] theorem tf_zc45 : tzc Try.prog 45 = some [.int .i64 0, .int .i64 0, .int .i64 0] := by kernel_rfl
@[simp] theorem tf_fld45x0 : tfld Try.prog 45 0 = some (0, 1, false) := by kernel_rfl
@[simp] theorem tf_fld45x1 : tfld Try.prog 45 1 = some (1, 1, false) := by kernel_rfl
@[simp] theorem tf_fld45x2 : tfld Try.prog 45 2 = some (2, 1, false) := by kernel_rfl
@[simp] theorem tf_row59 : trow Try.prog 59 = some false := by kernel_rfl
@[simp] theorem tf_mapI59 : tmapI Try.prog 59 = some 3 := by kernel_rfl
@[simp] theorem tf_sz60 : tsz Try.prog 60 = some 1 := by kernel_rfl
@[simp] theorem tf_row60 : trow Try.prog 60 = some false := by kernel_rfl
@[simp] theorem tf_ptr60 : tptr Try.prog 60 = true := by kernel_rfl
@[simp] theorem tf_arr61 : tarr Try.prog 61 = some (64, 1, false) := by kernel_rfl
@[simp] theorem tf_arr62 : tarr Try.prog 62 = some (9, 64, true) := by kernel_rfl
@[simp] theorem tf_pl64 : tplaces Try.prog 64 = some [(0, 1), (1, 1), (2, 576), (578, 1)] := by kernel_rfl
@[simp] theorem tf_fld64x0 : tfld Try.prog 64 0 = some (0, 1, false) := by kernel_rfl
@[simp] theorem tf_fld64x1 : tfld Try.prog 64 1 = some (1, 1, false) := by kernel_rfl
@[simp] theorem tf_fld64x2 : tfld Try.prog 64 2 = some (2, 576, true) := by kernel_rfl
@[simp] theorem tf_fld64x3 : tfld Try.prog 64 3 = some (578, 1, false) := by kernel_rfl
@[simp] theorem tf_sz65 : tsz Try.prog 65 = some 1 := by kernel_rfl
@[simp] theorem tf_row65 : trow Try.prog 65 = some false := by kernel_rfl
@[simp] theorem tf_zc67 : tzc Try.prog 67 = some [.int .i64 0, .int .i64 0, .ptr none, .ptr none, .ptr none] := by kernel_rfl
@[simp] theorem tf_pl67 : tplaces Try.prog 67 = some [(0, 1), (1, 1), (2, 1), (3, 1), (4, 1)] := by kernel_rfl
@[simp] theorem tf_fld67x0 : tfld Try.prog 67 0 = some (0, 1, false) := by kernel_rfl
@[simp] theorem tf_fld67x1 : tfld Try.prog 67 1 = some (1, 1, false) := by kernel_rfl
@[simp] theorem tf_fld67x2 : tfld Try.prog 67 2 = some (2, 1, false) := by kernel_rfl
@[simp] theorem tf_fld67x3 : tfld Try.prog 67 3 = some (3, 1, false) := by kernel_rfl
@[simp] theorem tf_fld67x4 : tfld Try.prog 67 4 = some (4, 1, false) := by kernel_rfl
@[simp] theorem tf_sz72 : tsz Try.prog 72 = some 2 := by kernel_rfl
@[simp] theorem tf_by72 : tby Try.prog 72 = some 16 := by kernel_rfl
@[simp] theorem tf_row72 : trow Try.prog 72 = some true := by kernel_rfl
@[simp] theorem tf_zc72 : tzc Try.prog 72 = some [.int .i64 0, .int .i64 0] := by kernel_rfl
@[simp] theorem tf_pl72 : tplaces Try.prog 72 = some [(0, 1), (1, 1)] := by kernel_rfl
@[simp] theorem tf_fld72x0 : tfld Try.prog 72 0 = some (0, 1, false) := by kernel_rfl
@[simp] theorem tf_fld72x1 : tfld Try.prog 72 1 = some (1, 1, false) := by kernel_rfl
end Go.Proofs.Ytijnohcaeedffaa

set_option linter.unusedVariables false
set_option linter.unusedSimpArgs false
namespace Go.Proofs.Ytijnohcaeedffaa

/-- Where two numbers part: the level. -/
structure Lev (t now k : Nat) : Prop where
  up : t / 64 ^ (k + 1) = now / 64 ^ (k + 1)
  dn : 0 < k → t / 64 ^ k ≠ now / 64 ^ k
theorem Lev.le {t now k : Nat} (h : Lev t now k) {m : Nat} (hm : k + 1 ≤ m) : t / 64 ^ m = now / 64 ^ m := by
  obtain ⟨d, rfl⟩ : ∃ d, m = k + 1 + d := ⟨m - (k + 1), by omega⟩
  rw [Nat.pow_add, ← Nat.div_div_eq_div_mul, ← Nat.div_div_eq_div_mul, h.up]
/-- The place in its wheel, counted from now's. -/
def offT (t now k : Nat) : Nat := t / 64 ^ k - now / 64 ^ k
theorem Lev.off {t now k : Nat} (h : Lev t now k) (hge : now ≤ t) : offT t now k < 64 ∧ t / 64 ^ k = now / 64 ^ k + offT t now k ∧ (t / 64 ^ k) % 64 = (now / 64 ^ k + offT t now k) % 64 := by
  have h1 : now / 64 ^ k ≤ t / 64 ^ k := Nat.div_le_div_right hge
  have h2 := h.up
  rw [Nat.pow_succ, ← Nat.div_div_eq_div_mul, ← Nat.div_div_eq_div_mul] at h2
  unfold offT
  have h3 := Nat.div_add_mod (t / 64 ^ k) 64
  have h4 := Nat.div_add_mod (now / 64 ^ k) 64
  have h5 := Nat.mod_lt (t / 64 ^ k) (show 64 > 0 by decide)
  have h6 := Nat.mod_lt (now / 64 ^ k) (show 64 > 0 by decide)
  exact ⟨by omega, by omega, by congr 1; omega⟩
/-- The place of another timer is looked at first only if it comes first. -/
theorem lev_lt {t u now k l : Nat} (h : Lev t now k) (g : Lev u now l) (ht : now ≤ t) (hu : now ≤ u) (hl : k < l ∨ (k = l ∧ offT t now k < offT u now l)) : t < u := by
  rcases hl with hl | ⟨rfl, hl⟩
  · have h1 := h.le (m := l) (by omega)
    have h2 := g.dn (by omega)
    have h3 : now / 64 ^ l ≤ u / 64 ^ l := Nat.div_le_div_right hu
    have h4 : t / 64 ^ l < u / 64 ^ l := by omega
    exact Nat.lt_of_not_le fun h5 => by have := Nat.div_le_div_right (c := 64 ^ l) h5; omega
  · have h1 := (h.off ht).2.1
    have h2 := (g.off hu).2.1
    have h4 : t / 64 ^ k < u / 64 ^ k := by omega
    exact Nat.lt_of_not_le fun h5 => by have := Nat.div_le_div_right (c := 64 ^ k) h5; omega
theorem pow64 (m : Nat) : 64 ^ m = 2 ^ (6 * m) := by rw [show (64 : Nat) = 2 ^ 6 by decide, ← Nat.pow_mul]
theorem xor_div (a b m : Nat) : (a ^^^ b) / 64 ^ m = (a / 64 ^ m) ^^^ (b / 64 ^ m) := by
  rw [pow64, ← Nat.shiftRight_eq_div_pow, ← Nat.shiftRight_eq_div_pow, ← Nat.shiftRight_eq_div_pow, Nat.shiftRight_xor_distrib]
theorem xor_zero {a b : Nat} : a ^^^ b = 0 ↔ a = b := ⟨fun h => by have := congrArg (· ^^^ b) h; simpa [Nat.xor_assoc] using this, fun h => by rw [h, Nat.xor_self]⟩
end Go.Proofs.Ytijnohcaeedffaa

set_option linter.unusedVariables false
set_option linter.unusedSimpArgs false
namespace Go.Proofs.Ytijnohcaeedffaa

/-- A timer: number, tick. -/
structure Tm where
  n : Int
  t : Int
deriving DecidableEq
def tlt (a b : Tm) : Prop := a.t < b.t ∨ (a.t = b.t ∧ a.n < b.n)
instance (a b : Tm) : Decidable (tlt a b) := by unfold tlt; exact inferInstance
theorem tlt_trans {a b c : Tm} (h : tlt a b) (k : tlt b c) : tlt a c := by unfold tlt at *; omega
theorem tlt_irrefl (a : Tm) : ¬ tlt a a := by unfold tlt; omega
theorem tlt_asymm {a b : Tm} (h : tlt a b) : ¬ tlt b a := by unfold tlt at *; omega
theorem tlt_total {a b : Tm} (h : a ≠ b) : tlt a b ∨ tlt b a := by
  obtain ⟨n, t⟩ := a
  obtain ⟨m, u⟩ := b
  unfold tlt
  simp at h ⊢
  by_cases h1 : n = m
  · have := h h1; omega
  · omega
def srt (l : List Tm) : Prop := l.Pairwise tlt
/-- Two sorted lists of the same members are one. -/
theorem srt_eq : ∀ {l m : List Tm}, srt l → srt m → (∀ x, x ∈ l ↔ x ∈ m) → l = m
  | [], [], _, _, _ => rfl
  | [], b :: m, _, _, h => absurd ((h b).2 (List.mem_cons_self ..)) (by simp)
  | a :: l, [], _, _, h => absurd ((h a).1 (List.mem_cons_self ..)) (by simp)
  | a :: l, b :: m, hl, hm, h => by
    obtain ⟨h1, h2⟩ := List.pairwise_cons.1 hl
    obtain ⟨k1, k2⟩ := List.pairwise_cons.1 hm
    have hab : a = b := by
      rcases List.mem_cons.1 ((h a).1 (List.mem_cons_self ..)) with e | e
      · exact e
      · rcases List.mem_cons.1 ((h b).2 (List.mem_cons_self ..)) with e' | e'
        · exact e'.symm
        · exact absurd (k1 a e) (tlt_asymm (h1 b e'))
    subst hab
    congr 1
    refine srt_eq h2 k2 fun x => ⟨fun hx => ?_, fun hx => ?_⟩
    · rcases List.mem_cons.1 ((h x).1 (List.mem_cons_of_mem _ hx)) with e | e
      · subst e; exact absurd (h1 x hx) (tlt_irrefl x)
      · exact e
    · rcases List.mem_cons.1 ((h x).2 (List.mem_cons_of_mem _ hx)) with e | e
      · subst e; exact absurd (k1 x hx) (tlt_irrefl x)
      · exact e
/-- Put into a sorted list, from the right, behind what is not greater. -/
def insT (x : Tm) : List Tm → List Tm
  | [] => [x]
  | a :: l => if tlt x a then x :: a :: l else a :: insT x l
theorem insT_mem (x : Tm) : ∀ (l : List Tm) (y : Tm), y ∈ insT x l ↔ y = x ∨ y ∈ l
  | [], y => by simp [insT]
  | a :: l, y => by
    unfold insT
    split
    · simp
    · simp [insT_mem x l y]
      constructor
      · rintro (h | h | h) <;> simp [h]
      · rintro (h | h | h) <;> simp [h]
theorem insT_srt {x : Tm} : ∀ {l : List Tm}, srt l → x ∉ l → srt (insT x l)
  | [], _, _ => by simp [insT, srt]
  | a :: l, h, hx => by
    obtain ⟨h1, h2⟩ := List.pairwise_cons.1 h
    unfold insT
    split
    · rename_i hlt
      refine List.pairwise_cons.2 ⟨fun y hy => ?_, h⟩
      rcases List.mem_cons.1 hy with rfl | hy
      · exact hlt
      · exact tlt_trans hlt (h1 y hy)
    · rename_i hlt
      refine List.pairwise_cons.2 ⟨fun y hy => ?_, insT_srt h2 (fun e => hx (List.mem_cons_of_mem _ e))⟩
      rcases (insT_mem x l y).1 hy with rfl | hy
      · exact (tlt_total (fun e => hx (by rw [e]; exact List.mem_cons_self ..))).resolve_left hlt
      · exact h1 y hy
/-- The document's sorted list of what is due. -/
def dueT (lim : Int) (ts : List Tm) : List Tm := (ts.filter fun x => decide (x.t ≤ lim)).foldl (fun l x => insT x l) []
def leftT (lim : Int) (ts : List Tm) : List Tm := ts.filter fun x => decide (lim < x.t)
theorem fold_ins : ∀ (ts l : List Tm), srt l → ts.Nodup → (∀ x ∈ ts, x ∉ l) → srt (ts.foldl (fun l x => insT x l) l) ∧ ∀ y, y ∈ ts.foldl (fun l x => insT x l) l ↔ y ∈ ts ∨ y ∈ l
  | [], l, hl, _, _ => ⟨hl, fun y => by simp⟩
  | x :: ts, l, hl, hn, hd => by
    obtain ⟨n1, n2⟩ := List.nodup_cons.1 hn
    have h := fold_ins ts (insT x l) (insT_srt hl (hd x (List.mem_cons_self ..))) n2 (fun y hy e => by
      rcases (insT_mem x l y).1 e with rfl | e
      · exact n1 hy
      · exact hd y (List.mem_cons_of_mem _ hy) e)
    refine ⟨h.1, fun y => (h.2 y).trans ?_⟩
    rw [insT_mem]
    simp
    constructor
    · rintro (h | h | h) <;> simp [h]
    · rintro ((h | h) | h) <;> simp [h]
theorem dueT_spec {lim : Int} {ts : List Tm} (hn : ts.Nodup) : srt (dueT lim ts) ∧ ∀ y, y ∈ dueT lim ts ↔ y ∈ ts ∧ y.t ≤ lim := by
  have h := fold_ins (ts.filter fun x => decide (x.t ≤ lim)) [] List.Pairwise.nil (hn.sublist List.filter_sublist) (by simp)
  exact ⟨h.1, fun y => by rw [show (y ∈ dueT lim ts ↔ _) from h.2 y]; simp⟩
/-- A list of what came, one first timer behind the other, is the document's. -/
theorem due_eq {lim : Int} {ts out : List Tm} (hn : ts.Nodup) (hs : srt out) (hm : ∀ y, y ∈ out ↔ y ∈ ts ∧ y.t ≤ lim) : out = dueT lim ts :=
  srt_eq hs (dueT_spec hn).1 fun y => (hm y).trans ((dueT_spec hn).2 y).symm
/-- The first of some timers. -/
def firstT : List Tm → Option Tm
  | [] => none
  | a :: l => match firstT l with
    | none => some a
    | some b => if tlt b a then some b else some a
theorem firstT_none {l : List Tm} : firstT l = none ↔ l = [] := by
  cases l with
  | nil => simp [firstT]
  | cons a l =>
    simp only [firstT, reduceCtorEq, iff_false]
    cases firstT l with
    | none => simp
    | some b => simp only; split <;> simp
theorem firstT_spec : ∀ {l : List Tm} {m : Tm}, firstT l = some m → m ∈ l ∧ ∀ y ∈ l, y = m ∨ tlt m y
  | [], m, h => by cases h
  | a :: l, m, h => by
    simp only [firstT] at h
    cases hf : firstT l with
    | none =>
      rw [hf] at h
      cases h
      rw [firstT_none.1 hf]
      exact ⟨List.mem_cons_self .., fun y hy => by simp at hy; exact .inl hy⟩
    | some b =>
      rw [hf] at h
      obtain ⟨hb, hall⟩ := firstT_spec hf
      simp only at h
      split at h
      · rename_i hlt
        cases h
        refine ⟨List.mem_cons_of_mem _ hb, fun y hy => ?_⟩
        rcases List.mem_cons.1 hy with rfl | hy
        · exact .inr hlt
        · exact hall y hy
      · rename_i hlt
        cases h
        refine ⟨List.mem_cons_self .., fun y hy => ?_⟩
        rcases List.mem_cons.1 hy with rfl | hy
        · exact .inl rfl
        · by_cases hab : a = y
          · exact .inl hab.symm
          · rcases hall y hy with rfl | h1
            · exact .inr ((tlt_total hab).resolve_right hlt)
            · by_cases hab2 : a = b
              · subst hab2; exact .inr h1
              · exact .inr (tlt_trans ((tlt_total hab2).resolve_right hlt) h1)
/-- The first is the only one that comes before all others. -/
theorem firstT_of {l : List Tm} {m : Tm} (hm : m ∈ l) (h : ∀ y ∈ l, y = m ∨ tlt m y) : firstT l = some m := by
  cases hf : firstT l with
  | none => rw [firstT_none.1 hf] at hm; cases hm
  | some b =>
    obtain ⟨hb, hall⟩ := firstT_spec hf
    rcases h b hb with rfl | h1
    · rfl
    · rcases hall m hm with rfl | h2
      · rfl
      · exact absurd h1 (tlt_asymm h2)
end Go.Proofs.Ytijnohcaeedffaa

set_option linter.unusedVariables false
set_option linter.unnecessarySimpa false
set_option linter.unusedSimpArgs false
set_option linter.unusedSectionVars false
set_option maxRecDepth 100000
namespace Go.Proofs.Ytijnohcaeedffaa
open Go Go.RowKit

/-- A timer's cells: s: the place of its list among the wheel's. -/
def tmr (n t : Int) (nx bk : Option Nat) (iw s : Nat) : List AV := [.int .i64 n, .int .i64 t, ptrA nx, ptrA bk, .ptr (some (iw, 2 + s))]
theorem set_td {l : List AV} {p : Nat} (h : p < l.length) (x : AV) : l.take p ++ x :: l.drop (p + 1) = l.set p x := by
  rw [List.set_eq_take_append_cons_drop, if_pos h]
/-- A function without an answer that has written boxes. -/
theorem aPost_unit {P : Program} {Q : AV → Hp → Prop} {fr : List AV} {H K : Hp} (hl : K.length = H.length) (hB : BndH H.length K) (h : Q (.tup []) K) : aPost P [] H.length Q .normal fr K :=
  ⟨.tup [], .tup [], K, K, [], rfl, nilV_refl _, nilH_refl _, (List.append_nil K).symm, by omega, by rw [hl]; exact hB, .tup _ (by simp), h⟩
theorem bnd_row {N c : Nat} {H : Hp} {l : List AV} (hB : BndH N H) (h : H[c]? = some l) : ∀ x ∈ l, Bnd N x := hB l (mem_at h)
theorem bnd_set {N p : Nat} {l : List AV} {x : AV} (h : ∀ x ∈ l, Bnd N x) (hx : Bnd N x) : ∀ y ∈ l.set p x, Bnd N y := fun y hy => by
  rcases List.mem_or_eq_of_mem_set hy with h1 | rfl
  · exact h y h1
  · exact hx
section
variable (E : Env) (H : Hp) (Q : AV → Hp → Prop) (i iw s : Nat) (n t : Int)
section
variable (row : List AV) (hw : H[iw]? = some row) (hs : 2 + s < row.length) (hiw : i ≠ iw)
include hw hs hiw
theorem take_nn (hi : H[i]? = some (tmr n t none none iw s)) (hQ : Q (.tup []) (H.set iw (row.set (2 + s) (.ptr none)))) : PC Try.prog E 31 [.ptr (some (i, 0))] H Q := by
  have hil := ltX hi
  have hwl := ltX hw
  have hle : 2 + s + 1 ≤ row.length := by omega
  have hst := fun x => set_td hs x
  have hwi := Ne.symm hiw
  simp only [tmr, ptrA] at hi
  refine pc_enter Try.func31 rfl [] [] (by kernel_rfl) (fun hB => ?_)
  simp [Try.ntmps31, Try.results31, List.replicate_succ, hi, hw, hle, hst, getSX hwl, getNX, hwi]
  exact aPost_unit (by simp) (bndX_put hB _ (bnd_set (bnd_row hB hw) (by simp))) hQ
theorem take_nm (m : Nat) (hi : H[i]? = some (tmr n t (some m) none iw s)) (n' t' : Int) (k' : Option Nat) (s' : Nat) (hm : H[m]? = some (tmr n' t' k' (some i) iw s')) (h1 : m ≠ i) (h2 : m ≠ iw)
    (hQ : Q (.tup []) ((H.set iw (row.set (2 + s) (.ptr (some (m, 0))))).set m (tmr n' t' k' none iw s'))) : PC Try.prog E 31 [.ptr (some (i, 0))] H Q := by
  have hil := ltX hi
  have hwl := ltX hw
  have hml := ltX hm
  have hle : 2 + s + 1 ≤ row.length := by omega
  have hst := fun x => set_td hs x
  have hwi := Ne.symm hiw
  have h3 := Ne.symm h2
  have hm0 := hm
  simp only [tmr, ptrA] at hi hm
  refine pc_enter Try.func31 rfl [] [] (by kernel_rfl) (fun hB => ?_)
  simp [Try.ntmps31, Try.results31, List.replicate_succ, hi, hw, hm, hle, hst, getSX hwl, getNX, hwi, h1, h2, h3]
  exact aPost_unit (by simp) (bndX_put (bndX_put hB _ (bnd_set (bnd_row hB hw) (by simp [hml]))) _ (bnd_set (p := 3) (x := .ptr none) (bnd_row hB hm0) (by simp))) hQ
end
theorem take_bn (b : Nat) (hi : H[i]? = some (tmr n t none (some b) iw s)) (n' t' : Int) (k' : Option Nat) (s' : Nat) (hb : H[b]? = some (tmr n' t' (some i) k' iw s')) (h1 : b ≠ i)
    (hQ : Q (.tup []) (H.set b (tmr n' t' none k' iw s'))) : PC Try.prog E 31 [.ptr (some (i, 0))] H Q := by
  have hil := ltX hi
  have hbl := ltX hb
  have h3 := Ne.symm h1
  have hb0 := hb
  simp only [tmr, ptrA] at hi hb
  refine pc_enter Try.func31 rfl [] [] (by kernel_rfl) (fun hB => ?_)
  simp [Try.ntmps31, Try.results31, List.replicate_succ, hi, hb, getSX hbl, getNX, h1, h3]
  exact aPost_unit (by simp) (bndX_put hB _ (bnd_set (p := 2) (x := .ptr none) (bnd_row hB hb0) (by simp))) hQ
theorem take_bm (b m : Nat) (hi : H[i]? = some (tmr n t (some m) (some b) iw s)) (n' t' : Int) (k' : Option Nat) (s' : Nat) (hb : H[b]? = some (tmr n' t' (some i) k' iw s')) (h1 : b ≠ i)
    (n2 t2 : Int) (k2 : Option Nat) (s2 : Nat) (hm : H[m]? = some (tmr n2 t2 k2 (some i) iw s2)) (h2 : m ≠ i) (h3 : b ≠ m)
    (hQ : Q (.tup []) ((H.set b (tmr n' t' (some m) k' iw s')).set m (tmr n2 t2 k2 (some b) iw s2))) : PC Try.prog E 31 [.ptr (some (i, 0))] H Q := by
  have hil := ltX hi
  have hbl := ltX hb
  have hml := ltX hm
  have e1 := Ne.symm h1
  have e2 := Ne.symm h2
  have e3 := Ne.symm h3
  have hb0 := hb
  have hm0 := hm
  simp only [tmr, ptrA] at hi hb hm
  refine pc_enter Try.func31 rfl [] [] (by kernel_rfl) (fun hB => ?_)
  simp [Try.ntmps31, Try.results31, List.replicate_succ, hi, hb, hm, getSX hbl, getSX hml, getNX, h1, h2, h3, e1, e2, e3]
  exact aPost_unit (by simp) (bndX_put (bndX_put hB _ (bnd_set (p := 2) (x := .ptr (some (m, 0))) (bnd_row hB hb0) (by simp [hml]))) _ (bnd_set (p := 3) (x := .ptr (some (b, 0))) (bnd_row hB hm0) (by simp [hbl]))) hQ
end
end Go.Proofs.Ytijnohcaeedffaa

set_option linter.unusedVariables false
set_option linter.unnecessarySimpa false
set_option linter.unusedSimpArgs false
set_option linter.unusedSectionVars false
set_option maxRecDepth 100000
namespace Go.Proofs.Ytijnohcaeedffaa
open Go Go.RowKit

theorem xorI {t now : Nat} (ht : t ≤ 281474976710656) (hn : now ≤ 281474976710656) : IntKind.i64.wrap ((t % 2 ^ IntKind.i64.bits ^^^ now % 2 ^ IntKind.i64.bits : Nat) : Int) = ((t ^^^ now : Nat) : Int) := by
  have e : IntKind.i64.bits = 64 := rfl
  rw [e, Nat.mod_eq_of_lt (by omega), Nat.mod_eq_of_lt (by omega)]
  have h1 : t ^^^ now < 2 ^ 49 := Nat.xor_lt_two_pow (by omega) (by omega)
  exact wrap_in (by omega) (by omega)
theorem shr6 (y : Nat) : ((y : Nat) : Int).fdiv (2 ^ min 6 IntKind.i64.bits) = ((y / 64 : Nat) : Int) := by
  have e : min 6 IntKind.i64.bits = 6 := rfl
  rw [e, show ((2 : Int) ^ 6) = ((64 : Nat) : Int) by decide, Int.ofNat_fdiv]
theorem shrK {t k u : Nat} (hk : k ≤ 8) (hu : t / 64 ^ k = u) : ((t : Nat) : Int).fdiv (2 ^ min (6 * (k : Int)).toNat IntKind.i64.bits) = (u : Int) := by
  have e : IntKind.i64.bits = 64 := rfl
  have e2 : (6 * (k : Int)).toNat = 6 * k := by omega
  rw [e, e2, Nat.min_eq_left (by omega), show ((2 : Int) ^ (6 * k)) = ((2 ^ (6 * k) : Nat) : Int) by simp, ← pow64, ← hu, Int.ofNat_fdiv]
theorem and63 {u : Nat} (h : u ≤ 281474976710656) : IntKind.i64.wrap ((u % 2 ^ IntKind.i64.bits &&& 63 % 2 ^ IntKind.i64.bits : Nat) : Int) = ((u % 64 : Nat) : Int) := by
  have e : IntKind.i64.bits = 64 := rfl
  rw [e, Nat.mod_eq_of_lt (by omega), show 63 % 2 ^ 64 = 2 ^ 6 - 1 by decide, Nat.and_two_pow_sub_one_eq_mod]
  exact wrap_in (by omega) (by omega)
def hgInv (iw i t now : Nat) (H : Hp) (fr : List AV) (H' : Hp) : Prop := H' = H ∧ ∃ k Y : Nat, k ≤ 8 ∧ (0 < k → (t ^^^ now) / 64 ^ k ≠ 0) ∧ (t ^^^ now) / 64 ^ (k + 1) = Y ∧
  ∃ x : Nat → AV, fr = [.ptr (some (iw, 0)), .ptr (some (i, 0)), x 2, x 3, .int .i64 k, .int .i64 (Y : Int), x 6, x 7, x 8, x 9, x 10, x 11, x 12, x 13, x 14, x 15, x 16, x 17, x 18, x 19, x 20, x 21, x 22, x 23, x 24, x 25, x 26, x 27, x 28, x 29, x 30, x 31, x 32, x 33, x 34, x 35, x 36, x 37, x 38, x 39, x 40, x 41, x 42, x 43, x 44, x 45, x 46, x 47, x 48, x 49, x 50, x 51, x 52, x 53, x 54, x 55, x 56, x 57, x 58, x 59, x 60, x 61, x 62, x 63, x 64, x 65, x 66, x 67, x 68]
section
variable (E : Env) (H : Hp) (Q : AV → Hp → Prop) (i iw : Nat) (n : Int) (t now : Nat) (x2 x3 x4 : AV) (row : List AV)
theorem hang_pc (hw : H[iw]? = some row) (hl : row.length = 579) (h0 : row[0]? = some (.int .i64 now)) (hiw : i ≠ iw) (hi : H[i]? = some [.int .i64 n, .int .i64 t, x2, x3, x4]) (ht : t ≤ 281474976710656) (hn : now ≤ 281474976710656)
    (hd : Nat → Option Nat) (hrow : ∀ s, s < 576 → row[2 + s]? = some (ptrA (hd s))) (hm : ∀ s m, s < 576 → hd s = some m → m ≠ i ∧ m ≠ iw ∧ ∃ n' t' k', H[m]? = some (tmr n' t' k' none iw s))
    (hQ1 : ∀ k s, Lev t now k → k ≤ 8 → s = k * 64 + (t / 64 ^ k) % 64 → hd s = none → Q (.tup []) ((H.set i (tmr n t none none iw s)).set iw (row.set (2 + s) (.ptr (some (i, 0))))))
    (hQ2 : ∀ k s m n' t' k', Lev t now k → k ≤ 8 → s = k * 64 + (t / 64 ^ k) % 64 → hd s = some m → H[m]? = some (tmr n' t' k' none iw s) → Q (.tup []) (((H.set i (tmr n t (some m) none iw s)).set m (tmr n' t' k' (some i) iw s)).set iw (row.set (2 + s) (.ptr (some (i, 0)))))) : PC Try.prog E 25 [.ptr (some (iw, 0)), .ptr (some (i, 0))] H Q := by
  have hil := ltX hi
  have hwl := ltX hw
  have hx := xorI ht hn
  have hX : t ^^^ now < 64 ^ 9 := by
    have h1 : t ^^^ now < 2 ^ 49 := Nat.xor_lt_two_pow (by omega) (by omega)
    omega
  refine pc_enter Try.func25 rfl [] [] (by kernel_rfl) (fun hB => ?_)
  simp [Try.ntmps25, Try.results25, List.replicate_succ, hi, hw, h0, hx, shr6]
  refine VL_go (hgInv iw i t now H) (fun fr _ => (ai (aget fr 5)).toNat) ⟨rfl, 0, (t ^^^ now) / 64, by omega, by omega, by simp, fr_intro (by simp)⟩ ?_
  rintro fr H' ⟨rfl, k, Y, hk, hne, hY, x, rfl⟩
  have hwk : IntKind.i64.wrap ((k : Int) + 1) = k + 1 := wrap_in (by omega) (by omega)
  by_cases h : 0 < Y
  · have hk8 : k + 1 ≤ 8 := by
      refine Nat.le_of_not_lt fun h9 => ?_
      have h10 : 64 ^ 9 ≤ 64 ^ (k + 1) := Nat.pow_le_pow_right (by decide) (by omega)
      rw [Nat.div_eq_of_lt (by omega)] at hY
      omega
    have hd : (t ^^^ now) / 64 ^ (k + 1 + 1) = Y / 64 := by rw [← hY, Nat.div_div_eq_div_mul, ← Nat.pow_succ]
    have hlt : Y / 64 < Y := Nat.div_lt_self h (by decide)
    have s6 := shr6 Y
    obtain ⟨Z, hZ⟩ : ∃ Z, Y / 64 = Z := ⟨_, rfl⟩
    rw [hZ] at s6 hd hlt
    simp [h, hwk, s6]
    exact Kloop_normal ⟨rfl, k + 1, Z, hk8, fun _ => by rw [hY]; omega, hd, fr_intro (by simp)⟩ (by simp; omega)
  · obtain rfl : Y = 0 := by omega
    have hlev : Lev t now k := ⟨xor_zero.1 (by rw [← xor_div]; exact hY), fun hk0 e => hne hk0 (by rw [xor_div]; exact xor_zero.2 e)⟩
    have w6 : IntKind.i64.wrap (6 * (k : Int)) = 6 * k := wrap_in (by omega) (by omega)
    have p6 : 0 ≤ 6 * (k : Int) := by omega
    obtain ⟨u, hu⟩ : ∃ u, t / 64 ^ k = u := ⟨_, rfl⟩
    have hsh := shrK hk hu
    have hk9 : k < 9 := by omega
    have hub : u ≤ 281474976710656 := by rw [← hu]; exact Nat.le_trans (Nat.div_le_self _ _) ht
    have h63 := and63 hub
    obtain ⟨j, hj⟩ : ∃ j, u % 64 = j := ⟨_, rfl⟩
    have hj64 : j < 64 := by omega
    rw [hj] at h63
    obtain ⟨s, hs⟩ : ∃ s, k * 64 + j = s := ⟨_, rfl⟩
    have hs5 : s < 576 := by omega
    have hps : 2 + k * 64 + j = 2 + s := by omega
    have hr := hrow s hs5
    have hlt := ltX hr
    have hle : 2 + s + 1 ≤ row.length := by omega
    have hst := fun x => set_td hlt x
    have hwi := Ne.symm hiw
    have hse : s = k * 64 + (t / 64 ^ k) % 64 := by rw [hu, hj]; exact hs.symm
    cases hhd : hd s with
    | none =>
      rw [hhd] at hr
      simp only [ptrA] at hr
      have hq := hQ1 k s hlev hk hse hhd
      simp [hi, hw, h0, w6, p6, hsh, hk9, h63, hj64, hps, hr, getSX hil, getSX hwl, getNX, hiw, hwi, hle, hst]
      exact aPost_unit (by simp) (bndX_put (bndX_put hB _ (by simp [hwl])) _ (bnd_set (bnd_row hB hw) (by simp [hil]))) hq
    | some m =>
      obtain ⟨m1, m2, n', t', k', hm3⟩ := hm s m hs5 hhd
      rw [hhd] at hr
      have hml := ltX hm3
      have hq := hQ2 k s m n' t' k' hlev hk hse hhd hm3
      have hm0 := hm3
      simp only [tmr, ptrA] at hr hm3
      have m1' := Ne.symm m1
      have m2' := Ne.symm m2
      simp [hi, hw, h0, w6, p6, hsh, hk9, h63, hj64, hps, hr, hm3, getSX hil, getSX hwl, getSX hml, getNX, hiw, hwi, m1, m2, m1', m2', hle, hst]
      exact aPost_unit (by simp) (bndX_put (bndX_put (bndX_put hB _ (by simp [hwl, hml])) _ (bnd_set (p := 3) (x := .ptr (some (i, 0))) (bnd_row hB hm0) (by simp [hil]))) _ (bnd_set (bnd_row hB hw) (by simp [hil]))) hq
end
end Go.Proofs.Ytijnohcaeedffaa

set_option linter.unusedVariables false
set_option linter.unnecessarySimpa false
set_option linter.unusedSimpArgs false
set_option linter.unusedSectionVars false
set_option maxRecDepth 100000
namespace Go.Proofs.Ytijnohcaeedffaa
open Go Go.RowKit

theorem and63' {u : Nat} (h : u ≤ 4611686018427387904) : IntKind.i64.wrap ((u % 2 ^ IntKind.i64.bits &&& 63 % 2 ^ IntKind.i64.bits : Nat) : Int) = ((u % 64 : Nat) : Int) := by
  have e : IntKind.i64.bits = 64 := rfl
  rw [e, Nat.mod_eq_of_lt (by omega), show 63 % 2 ^ 64 = 2 ^ 6 - 1 by decide, Nat.and_two_pow_sub_one_eq_mod]
  exact wrap_in (by omega) (by omega)
/-- A timer of a list: its box, number, tick. -/
structure Te where
  i : Nat
  n : Int
  t : Int
/-- A list of timers, linked. -/
def Chn (H : Hp) (iw : Nat) : Option Nat → List Te → Prop
  | none, [] => True
  | some i, x :: l => i = x.i ∧ ∃ nx bk s, H[x.i]? = some (tmr x.n x.t nx bk iw s) ∧ Chn H iw nx l
  | _, _ => False
def lstp (a : Option Te) (x : Te) : Option Te := match a with
  | none => some x
  | some b => if x.t < b.t ∨ (x.t = b.t ∧ x.n < b.n) then some x else some b
def lstT (l : List Te) : Option Te := l.foldl lstp none
theorem lstT_snoc (l : List Te) (x : Te) : lstT (l ++ [x]) = lstp (lstT l) x := by simp [lstT]
theorem lstT_mem : ∀ {l : List Te} {b : Te}, lstT l = some b → b ∈ l := by
  have key : ∀ (l : List Te) (a : Option Te) (b : Te), l.foldl lstp a = some b → a = some b ∨ b ∈ l := by
    intro l
    induction l with
    | nil => intro a b h; exact .inl h
    | cons x l ih =>
      intro a b h
      rcases ih _ _ h with h1 | h1
      · unfold lstp at h1
        split at h1
        · cases h1; exact .inr (List.mem_cons_self ..)
        · split at h1
          · cases h1; exact .inr (List.mem_cons_self ..)
          · exact .inl h1
      · exact .inr (List.mem_cons_of_mem _ h1)
  intro l b h
  rcases key l none b h with h1 | h1
  · cases h1
  · exact h1
theorem lstT_none {l : List Te} (h : lstT l = none) : l = [] := by
  have key : ∀ (l : List Te) (b : Te), l.foldl lstp (some b) ≠ none := by
    intro l
    induction l with
    | nil => intro b h; cases h
    | cons x l ih =>
      intro b
      simp only [List.foldl_cons, lstp]
      split
      · exact ih _
      · exact ih _
  cases l with
  | nil => rfl
  | cons x l => exact absurd h (key l x)
def muL (L : List Te) : AV → Nat
  | .ptr (some (i, _)) => L.length - L.findIdx fun x => x.i == i
  | _ => 0
theorem find_split {pre suf : List Te} {x : Te} (h : ∀ y ∈ pre, y.i ≠ x.i) : (pre ++ x :: suf).findIdx (fun y => y.i == x.i) = pre.length := by
  induction pre with
  | nil => simp [List.findIdx_cons]
  | cons y pre ih =>
    have h1 : (y.i == x.i) = false := by simpa using h y (List.mem_cons_self ..)
    simp only [List.cons_append, List.findIdx_cons, h1, cond_false, List.length_cons]
    rw [ih fun z hz => h z (List.mem_cons_of_mem _ hz)]
theorem mu_lt {H : Hp} {iw : Nat} {L pre suf : List Te} {y : Te} {nx : Option Nat} (hL : L = pre ++ y :: suf) (hp : L.Pairwise fun x y => x.i ≠ y.i) (hc : Chn H iw nx suf) : muL L (ptrA nx) < muL L (.ptr (some (y.i, 0))) := by
  subst hL
  obtain ⟨p1, p2, p3⟩ := List.pairwise_append.1 hp
  have e1 : muL (pre ++ y :: suf) (.ptr (some (y.i, 0))) = suf.length + 1 := by
    simp only [muL, find_split fun z hz => p3 z hz y (List.mem_cons_self ..)]
    simp
  rw [e1]
  cases nx with
  | none => simp [ptrA, muL]
  | some m =>
    cases suf with
    | nil => exact hc.elim
    | cons z suf =>
      obtain ⟨rfl, _⟩ := hc
      have e2 : (pre ++ y :: z :: suf) = (pre ++ [y]) ++ z :: suf := by simp
      have e3 : muL (pre ++ y :: z :: suf) (.ptr (some (z.i, 0))) = suf.length + 1 := by
        rw [e2]
        simp only [muL]
        rw [find_split fun w hw => by
          rcases List.mem_append.1 hw with h1 | h1
          · exact p3 w h1 z (by simp)
          · simp at h1; subst h1
            exact (List.pairwise_cons.1 p2).1 z (List.mem_cons_self ..)]
        simp; omega
      show muL _ (.ptr (some (z.i, 0))) < _
      rw [e3]
      simp
def tePtr (a : Option Te) : AV := match a with
  | none => .ptr none
  | some x => .ptr (some (x.i, 0))
/-- The place that is looked at as number q. -/
def plc (now q : Nat) : Nat := q / 64 * 64 + (now / 64 ^ (q / 64) + q % 64) % 64
def stRow (row : List AV) (c : Int) : List AV := row.set 1 (.int .i64 c)
section
variable (iw : Nat) (H : Hp) (row : List AV) (now : Nat) (st : Int) (Ls : Nat → List Te)
def fiI0 (fr : List AV) (K : Hp) : Prop := ∃ k : Nat, k ≤ 9 ∧ K = H.set iw (stRow row (st + (k * 64 : Nat))) ∧ (∀ q, q < k * 64 → Ls (plc now q) = []) ∧
  ∃ x : Nat → AV, fr = [.ptr (some (iw, 0)), x 1, .ptr none, x 3, x 4, x 5, x 6, .int .i64 k, x 8, x 9, x 10, x 11, x 12, x 13, x 14, x 15, x 16, x 17, x 18, x 19, x 20, x 21, x 22, x 23, x 24, x 25, x 26, x 27, x 28, x 29, x 30, x 31, x 32, x 33, x 34, x 35, x 36, x 37, x 38, x 39, x 40, x 41, x 42, x 43, x 44, x 45, x 46, x 47, x 48, x 49, x 50, x 51, x 52, x 53, x 54, x 55, x 56, x 57, x 58, x 59, x 60, x 61, x 62, x 63, x 64, x 65, x 66, x 67, x 68, x 69, x 70, x 71, x 72, x 73, x 74, x 75, x 76, x 77, x 78, x 79, x 80, x 81, x 82, x 83]
def fiI1 (k : Nat) (fr : List AV) (K : Hp) : Prop := ∃ i : Nat, i ≤ 64 ∧ K = H.set iw (stRow row (st + (k * 64 + i : Nat))) ∧ (∀ q, q < k * 64 + i → Ls (plc now q) = []) ∧
  ∃ x : Nat → AV, fr = [.ptr (some (iw, 0)), x 1, .ptr none, .int .i64 k, x 4, x 5, x 6, .int .i64 k, x 8, x 9, .int .i64 i, x 11, x 12, x 13, x 14, x 15, x 16, x 17, x 18, x 19, x 20, x 21, x 22, x 23, x 24, x 25, x 26, x 27, x 28, x 29, x 30, x 31, x 32, x 33, x 34, x 35, x 36, x 37, x 38, x 39, x 40, x 41, x 42, x 43, x 44, x 45, x 46, x 47, x 48, x 49, x 50, x 51, x 52, x 53, x 54, x 55, x 56, x 57, x 58, x 59, x 60, x 61, x 62, x 63, x 64, x 65, x 66, x 67, x 68, x 69, x 70, x 71, x 72, x 73, x 74, x 75, x 76, x 77, x 78, x 79, x 80, x 81, x 82, x 83]
def fiI2 (k i : Nat) (K0 : Hp) (fr : List AV) (K : Hp) : Prop := K = K0 ∧ ∃ (pre suf : List Te) (hd : Option Nat), Ls (plc now (k * 64 + i)) = pre ++ suf ∧ Chn H iw hd suf ∧ (∀ y ∈ pre, ∃ nx bk s, H[y.i]? = some (tmr y.n y.t nx bk iw s)) ∧
  ∃ x : Nat → AV, fr = [.ptr (some (iw, 0)), x 1, .ptr none, .int .i64 k, .int .i64 i, tePtr (lstT pre), ptrA hd, .int .i64 k, x 8, x 9, .int .i64 i, x 11, x 12, x 13, x 14, x 15, x 16, x 17, x 18, x 19, x 20, x 21, x 22, x 23, x 24, x 25, x 26, x 27, x 28, x 29, x 30, x 31, x 32, x 33, x 34, x 35, x 36, x 37, x 38, x 39, x 40, x 41, x 42, x 43, x 44, x 45, x 46, x 47, x 48, x 49, x 50, x 51, x 52, x 53, x 54, x 55, x 56, x 57, x 58, x 59, x 60, x 61, x 62, x 63, x 64, x 65, x 66, x 67, x 68, x 69, x 70, x 71, x 72, x 73, x 74, x 75, x 76, x 77, x 78, x 79, x 80, x 81, x 82, x 83]
set_option maxHeartbeats 4000000 in
theorem first_pc (E : Env) (Q : AV → Hp → Prop) (hw : H[iw]? = some row) (hl : row.length = 579) (h0 : row[0]? = some (.int .i64 now)) (h1 : row[1]? = some (.int .i64 st)) (hn : now ≤ 281474976710656) (hst : 0 ≤ st ∧ st ≤ 4611686018427387904)
    (hd : Nat → Option Nat) (hrow : ∀ s, s < 576 → row[2 + s]? = some (ptrA (hd s))) (hch : ∀ s, s < 576 → Chn H iw (hd s) (Ls s)) (hnd : ∀ s, s < 576 → (Ls s).Pairwise fun x y => x.i ≠ y.i)
    (hQ1 : ∀ q x, q < 576 → (∀ q', q' < q → Ls (plc now q') = []) → lstT (Ls (plc now q)) = some x → Q (.ptr (some (x.i, 0))) (H.set iw (stRow row (st + (q + 1 : Nat)))))
    (hQ2 : (∀ q, q < 576 → Ls (plc now q) = []) → Q (.ptr none) (H.set iw (stRow row (st + 576)))) : PC Try.prog E 26 [.ptr (some (iw, 0))] H Q := by
  have hwl := ltX hw
  refine pc_enter Try.func26 rfl [] [] (by kernel_rfl) (fun hB => ?_)
  simp [Try.ntmps26, Try.results26, List.replicate_succ]
  have hs0 : H.set iw (stRow row (st + (0 * 64 : Nat))) = H := by
    refine List.ext_getElem? fun j => ?_
    by_cases hj : j = iw
    · subst hj
      rw [List.getElem?_set_self hwl, hw]
      congr 1
      refine List.ext_getElem? fun p => ?_
      unfold stRow
      by_cases hp : p = 1
      · subst hp
        rw [List.getElem?_set_self (by omega), h1]; simp
      · rw [List.getElem?_set_ne (Ne.symm hp)]
    · rw [List.getElem?_set_ne (Ne.symm hj)]
  refine VL_go (fiI0 iw H row now st Ls) (fun fr _ => 9 - (ai (aget fr 7)).toNat) ⟨0, by omega, hs0.symm, by omega, fr_intro (by simp)⟩ ?_
  rintro fr K ⟨k, hk, rfl, hno, x, rfl⟩
  have hwk : IntKind.i64.wrap ((k : Int) + 1) = k + 1 := wrap_in (by omega) (by omega)
  by_cases h : k < 9
  · have h' : (k : Int) < 9 := by omega
    simp [h']
    refine VL_go (fiI1 iw H row now st Ls k) (fun fr _ => 64 - (ai (aget fr 10)).toNat) ⟨0, by omega, by simp, by simpa using hno, fr_intro (by simp)⟩ ?_
    clear hno
    rintro fr K ⟨i, hi, rfl, hno, x, rfl⟩
    have hwi : IntKind.i64.wrap ((i : Int) + 1) = i + 1 := wrap_in (by omega) (by omega)
    by_cases h2 : i < 64
    · have r1 : (stRow row (st + (k * 64 + i : Nat)))[1]? = some (.int .i64 (st + (k * 64 + i : Nat))) := List.getElem?_set_self (by omega)
      have r0 : (stRow row (st + (k * 64 + i : Nat)))[0]? = some (.int .i64 now) := by unfold stRow; rw [List.getElem?_set_ne (by omega)]; exact h0
      have h2' : (i : Int) < 64 := by omega
      have hws : IntKind.i64.wrap (st + (k * 64 + i : Nat) + 1) = st + (k * 64 + (i + 1) : Nat) := by rw [wrap_in (by omega) (by omega)]; omega
      have hlr : (stRow row (st + (k * 64 + i : Nat))).length = 579 := by unfold stRow; simp [hl]
      obtain ⟨R, hR⟩ : ∃ R, stRow row (st + (k * 64 + i : Nat)) = R := ⟨_, rfl⟩
      obtain ⟨c, hc⟩ : ∃ c, st + ((k * 64 + i : Nat) : Int) = c := ⟨_, rfl⟩
      rw [hc] at hR
      rw [hc, hR] at r1 r0 hlr ⊢
      have hle : 1 + 1 ≤ R.length := by omega
      have hst1 := fun x => set_td (l := R) (p := 1) (by omega) x
      have w6 : IntKind.i64.wrap (6 * (k : Int)) = 6 * k := wrap_in (by omega) (by omega)
      have p6 : 0 ≤ 6 * (k : Int) := by omega
      obtain ⟨u, hu⟩ : ∃ u, now / 64 ^ k = u := ⟨_, rfl⟩
      have hsh := shrK (by omega) hu
      have hub : u ≤ 281474976710656 := by rw [← hu]; exact Nat.le_trans (Nat.div_le_self _ _) hn
      obtain ⟨v, hv⟩ : ∃ v, u + i = v := ⟨_, rfl⟩
      have hwv : IntKind.i64.wrap ((u : Int) + i) = (v : Int) := by rw [wrap_in (by omega) (by omega)]; omega
      have h63 := and63' (u := v) (by omega)
      obtain ⟨j, hj⟩ : ∃ j, v % 64 = j := ⟨_, rfl⟩
      have hj64 : j < 64 := by omega
      rw [hj] at h63
      obtain ⟨s, hs⟩ : ∃ s, k * 64 + j = s := ⟨_, rfl⟩
      have hs5 : s < 576 := by omega
      have hps : 2 + k * 64 + j = 2 + s := by omega
      have hplc : plc now (k * 64 + i) = s := by
        unfold plc
        have e1 : (k * 64 + i) / 64 = k := by omega
        have e2 : (k * 64 + i) % 64 = i := by omega
        rw [e1, e2, hu, hv, hj]; exact hs
      obtain ⟨c1, hc1⟩ : ∃ c1, st + ((k * 64 + (i + 1) : Nat) : Int) = c1 := ⟨_, rfl⟩
      rw [hc, hc1] at hws
      have hR1 : R.set 1 (.int .i64 c1) = stRow row c1 := by rw [← hR]; simp [stRow]
      have hr1 : (stRow row c1)[2 + s]? = some (ptrA (hd s)) := by unfold stRow; rw [List.getElem?_set_ne (by omega)]; exact hrow s hs5
      have hr0 : (stRow row c1)[0]? = some (.int .i64 now) := by unfold stRow; rw [List.getElem?_set_ne (by omega)]; exact h0
      obtain ⟨pv, hpv, pf, pd⟩ : ∃ pv, ptrA (hd s) = pv ∧ pv.free = true ∧ pv.dis = pv := ⟨_, rfl, by cases hd s <;> rfl, by cases hd s <;> rfl⟩
      rw [hpv] at hr1
      simp [h2', getSX hwl, r1, r0, hle, hst1, w6, p6, hsh, h, hwv, h63, hj64, hps, hws, hR1, hr1, hr0, pf, pd]
      refine VL_go (fiI2 iw H now Ls k i (H.set iw (stRow row c1))) (fun fr _ => muL (Ls s) (aget fr 6)) ⟨rfl, [], Ls s, hd s, by rw [hplc]; rfl, hch s hs5, by simp, fr_intro (by simp [lstT, tePtr, ← hpv])⟩ ?_
      rintro fr K ⟨rfl, pre, suf, hdv, hsplit, hcn, hpre, x, rfl⟩
      rw [hplc] at hsplit
      have hne : ∀ y nx bk s' (n' t' : Int), H[y]? = some (tmr n' t' nx bk iw s') → iw ≠ y := fun y nx bk s' n' t' e e2 => by
        rw [← e2, hw] at e
        injection e with e
        rw [e] at hl
        simp [tmr] at hl
      cases suf with
      | nil =>
        cases hdv with
        | some m => exact hcn.elim
        | none =>
          rw [List.append_nil] at hsplit
          cases hlt : lstT pre with
          | none =>
            have hp0 := lstT_none hlt
            simp [tePtr, hwi]
            exact Kloop_normal ⟨i + 1, by omega, by rw [hc1], fun q hq => by
              by_cases hq2 : q < k * 64 + i
              · exact hno q hq2
              · rw [show q = k * 64 + i by omega, hplc, hsplit, hp0], fr_intro (by simp)⟩ (by simp; omega)
          | some b =>
            simp [tePtr]
            have hq := hQ1 (k * 64 + i) b (by omega) hno (by rw [hplc, hsplit]; exact hlt)
            obtain ⟨bn, bb, bs, hbx⟩ := hpre b (lstT_mem hlt)
            rw [show st + ((k * 64 + i + 1 : Nat) : Int) = c1 by rw [← hc1]; omega] at hq
            exact aPost_upX (v := .ptr (some (b.i, 0))) (by simp) (by simp) (by rw [List.length_set]; exact bndX_put hB _ (bnd_set (bnd_row hB hw) (by simp))) (by simp; exact ltX hbx) hq
      | cons y suf =>
        cases hdv with
        | none => exact hcn.elim
        | some m =>
          obtain ⟨rfl, nx, bk, s', hy, hcn2⟩ := hcn
          have hyi := hne _ _ _ _ _ _ hy
          obtain ⟨pn, hpn, pnf, pnd⟩ : ∃ pv, ptrA nx = pv ∧ pv.free = true ∧ pv.dis = pv := ⟨_, rfl, by cases nx <;> rfl, by cases nx <;> rfl⟩
          obtain ⟨pb, hpb⟩ : ∃ pv, ptrA bk = pv := ⟨_, rfl⟩
          have hmu := mu_lt (H := H) (iw := iw) (nx := nx) hsplit (hnd s hs5) hcn2
          rw [hpn] at hmu
          have hpre2 : ∀ z ∈ pre ++ [y], ∃ nx bk s, H[z.i]? = some (tmr z.n z.t nx bk iw s) := fun z hz => by
            rcases List.mem_append.1 hz with h1 | h1
            · exact hpre z h1
            · simp at h1; subst h1; exact ⟨nx, bk, s', hy⟩
          have hsp2 : Ls (plc now (k * 64 + i)) = (pre ++ [y]) ++ suf := by rw [hplc, hsplit]; simp
          have hy1 := hy
          unfold tmr at hy1
          rw [hpn, hpb] at hy1
          have hls := lstT_snoc pre y
          cases hlt : lstT pre with
          | none =>
            rw [hlt] at hls
            simp [tePtr, hy1, getNX, hyi, pnf, pnd]
            exact Kloop_normal ⟨rfl, pre ++ [y], suf, nx, hsp2, hcn2, hpre2, fr_intro (by simp [hls, lstp, tePtr, ← hpn])⟩ (by simpa using hmu)
          | some b =>
            rw [hlt] at hls
            obtain ⟨bn, bb, bs, hbx⟩ := hpre b (lstT_mem hlt)
            have hbi := hne _ _ _ _ _ _ hbx
            obtain ⟨qn, hqn⟩ : ∃ pv, ptrA bn = pv := ⟨_, rfl⟩
            obtain ⟨qb, hqb⟩ : ∃ pv, ptrA bb = pv := ⟨_, rfl⟩
            unfold tmr at hbx
            rw [hqn, hqb] at hbx
            by_cases h5 : y.t < b.t
            · have hl2 : lstp (some b) y = some y := by unfold lstp; simp only; rw [if_pos (.inl h5)]
              simp [tePtr, hy1, hbx, getNX, hyi, hbi, pnf, pnd, h5]
              exact Kloop_normal ⟨rfl, pre ++ [y], suf, nx, hsp2, hcn2, hpre2, fr_intro (by simp [hls, hl2, tePtr, ← hpn])⟩ (by simpa using hmu)
            · by_cases h6 : y.t = b.t
              · by_cases h7 : y.n < b.n
                · have hl2 : lstp (some b) y = some y := by unfold lstp; simp only; rw [if_pos (.inr ⟨h6, h7⟩)]
                  simp [tePtr, hy1, hbx, getNX, hyi, hbi, pnf, pnd, h6, h7]
                  exact Kloop_normal ⟨rfl, pre ++ [y], suf, nx, hsp2, hcn2, hpre2, fr_intro (by simp [hls, hl2, tePtr, ← hpn])⟩ (by simpa using hmu)
                · have hl2 : lstp (some b) y = some b := by unfold lstp; simp only; rw [if_neg (by omega)]
                  simp [tePtr, hy1, hbx, getNX, hyi, hbi, pnf, pnd, h6, h7]
                  exact Kloop_normal ⟨rfl, pre ++ [y], suf, nx, hsp2, hcn2, hpre2, fr_intro (by simp [hls, hl2, tePtr, ← hpn])⟩ (by simpa using hmu)
              · have hl2 : lstp (some b) y = some b := by unfold lstp; simp only; rw [if_neg (by omega)]
                have h8 : (y.t == b.t) = false := by simpa using h6
                simp [tePtr, hy1, hbx, getNX, hyi, hbi, pnf, pnd, h5, h8]
                exact Kloop_normal ⟨rfl, pre ++ [y], suf, nx, hsp2, hcn2, hpre2, fr_intro (by simp [hls, hl2, tePtr, ← hpn])⟩ (by simpa using hmu)
    · obtain rfl : i = 64 := by omega
      simp [hwk]
      exact Kloop_normal ⟨k + 1, by omega, by simp [Nat.add_mul], by rw [Nat.add_mul]; exact hno, fr_intro (by simp)⟩ (by simp; omega)
  · obtain rfl : k = 9 := by omega
    simp
    have hq := hQ2 (fun q hq => hno q (by omega))
    exact aPost_upX (v := .ptr none) (by simp) (by simp) (by rw [List.length_set]; exact bndX_put hB _ (bnd_set (bnd_row hB hw) (by simp))) (by simp) hq
end
end Go.Proofs.Ytijnohcaeedffaa

set_option linter.unusedVariables false
set_option linter.unnecessarySimpa false
set_option linter.unusedSimpArgs false
set_option linter.unusedSectionVars false
set_option maxRecDepth 100000
namespace Go.Proofs.Ytijnohcaeedffaa
open Go Go.RowKit

def headI (l : List Te) : Option Nat := l.head?.map (·.i)
def lastI (l : List Te) : Option Nat := l.getLast?.map (·.i)
/-- All lists of a wheel are linked. -/
structure Lnk (H : Hp) (iw : Nat) (row : List AV) (Ls : Nat → List Te) : Prop where
  w : H[iw]? = some row
  l : row.length = 579
  heads : ∀ s, s < 576 → row[2 + s]? = some (ptrA (headI (Ls s)))
  links : ∀ s pre x suf, s < 576 → Ls s = pre ++ x :: suf → H[x.i]? = some (tmr x.n x.t (headI suf) (lastI pre) iw s)
  nd : ∀ s, s < 576 → (Ls s).Pairwise fun x y => x.i ≠ y.i
def updL (Ls : Nat → List Te) (s : Nat) (l : List Te) : Nat → List Te := fun s' => if s' = s then l else Ls s'
theorem tmr_inj {n t n' t' : Int} {a b a' b' : Option Nat} {iw s s' : Nat} (h : tmr n t a b iw s = tmr n' t' a' b' iw s') : s = s' := by
  simp [tmr] at h
  omega
section
variable {H H' : Hp} {iw s : Nat} {row row' : List AV} {Ls : Nat → List Te} {pre suf : List Te} {x : Te}
theorem Lnk.ne (h : Lnk H iw row Ls) (hs : s < 576) (he : Ls s = pre ++ x :: suf) : x.i ≠ iw := fun e => by
  have h1 := h.links s pre x suf hs he
  rw [e, h.w] at h1
  injection h1 with h1
  have h2 := h.l
  rw [h1] at h2
  simp [tmr] at h2
/-- Boxes of two places are two. -/
theorem Lnk.two (h : Lnk H iw row Ls) {s2 : Nat} {pre2 suf2 : List Te} {y : Te} (hs : s < 576) (he : Ls s = pre ++ x :: suf) (hs2 : s2 < 576) (he2 : Ls s2 = pre2 ++ y :: suf2) (hne : s ≠ s2) : x.i ≠ y.i := fun e => by
  have h1 := h.links s pre x suf hs he
  have h2 := h.links s2 pre2 y suf2 hs2 he2
  rw [e, h2] at h1
  injection h1 with h1
  exact hne (tmr_inj h1).symm
/-- What a box with x taken off looks like. -/
structure Took (H H' : Hp) (iw s : Nat) (row row' : List AV) (pre suf : List Te) : Prop where
  keep : ∀ j, j ≠ iw → (∀ b, pre.getLast? = some b → j ≠ b.i) → (∀ m, suf.head? = some m → j ≠ m.i) → H'[j]? = H[j]?
  prev : ∀ p b, pre = p ++ [b] → H'[b.i]? = some (tmr b.n b.t (headI suf) (lastI p) iw s)
  next : ∀ m q, suf = m :: q → H'[m.i]? = some (tmr m.n m.t (headI q) (lastI pre) iw s)
  w : H'[iw]? = some row'
  row0 : pre = [] → row' = row.set (2 + s) (ptrA (headI suf))
  row1 : pre ≠ [] → row' = row
theorem Lnk.took (h : Lnk H iw row Ls) (hs : s < 576) (he : Ls s = pre ++ x :: suf) (ht : Took H H' iw s row row' pre suf) : Lnk H' iw row' (updL Ls s (pre ++ suf)) := by
  have hnd := h.nd s hs
  rw [he] at hnd
  obtain ⟨n1, n2, n3⟩ := List.pairwise_append.1 hnd
  obtain ⟨n4, n5⟩ := List.pairwise_cons.1 n2
  have hl := h.l
  have hrl : row'.length = 579 := by
    by_cases hp : pre = []
    · rw [ht.row0 hp]; simpa using hl
    · rw [ht.row1 hp]; exact hl
  refine ⟨ht.w, hrl, fun s2 hs2 => ?_, fun s2 pre2 y suf2 hs2 he2 => ?_, fun s2 hs2 => ?_⟩
  · unfold updL
    by_cases hp : pre = []
    · rw [ht.row0 hp]
      by_cases e : s2 = s
      · subst e; rw [if_pos rfl, List.getElem?_set_self (by omega), hp]; rfl
      · rw [if_neg e, List.getElem?_set_ne (by omega)]; exact h.heads s2 hs2
    · rw [ht.row1 hp]
      by_cases e : s2 = s
      · subst e
        rw [if_pos rfl, h.heads s2 hs2, he]
        cases pre with
        | nil => exact absurd rfl hp
        | cons p pre => rfl
      · rw [if_neg e]; exact h.heads s2 hs2
  · unfold updL at he2
    by_cases e : s2 = s
    · subst e
      rw [if_pos rfl] at he2
      rcases List.append_eq_append_iff.1 he2 with ⟨q, h1, h2⟩ | ⟨q, h1, h2⟩
      · -- pre2 = pre ++ q, suf = q ++ y :: suf2
        subst h1
        cases q with
        | nil =>
          simp at h2 ⊢
          exact ht.next y suf2 h2
        | cons m q =>
          have hsp : Ls s2 = (pre ++ x :: m :: q) ++ y :: suf2 := by rw [he, h2]; simp
          have hk := ht.keep y.i (h.ne hs hsp) (fun b hb => by
            have : b ∈ pre := List.mem_of_getLast? hb
            exact Ne.symm (n3 b this y (by rw [h2]; simp))) (fun m' hm' => by
            rw [h2] at hm' n5
            simp at hm'; subst hm'
            exact Ne.symm ((List.pairwise_cons.1 n5).1 y (by simp)))
          rw [hk, h.links s2 _ y suf2 hs hsp]
          congr 2
          simp [lastI, List.getLast?_append, List.getLast?_cons]
      · -- pre = pre2 ++ q, y :: suf2 = q ++ suf
        cases q with
        | nil =>
          simp at h1 h2
          subst h1
          have := ht.next y suf2 h2.symm
          exact this
        | cons z q =>
          injection h2 with h2 h3
          subst h2
          cases q with
          | nil =>
            simp at h3
            subst h3
            exact ht.prev pre2 y h1
          | cons z2 q =>
            have hsp : Ls s2 = pre2 ++ y :: (z2 :: q ++ x :: suf) := by rw [he, h1]; simp
            have hk := ht.keep y.i (h.ne hs hsp) (fun b hb => by
              rw [h1] at hb n1
              obtain ⟨m1, m2, m3⟩ := List.pairwise_append.1 n1
              have hb2 : b ∈ z2 :: q := by
                have := List.mem_of_getLast? (l := z2 :: q) (a := b) (by
                  rw [List.getLast?_append] at hb
                  simpa [List.getLast?_cons] using hb)
                exact this
              exact (List.pairwise_cons.1 m2).1 b hb2) (fun m' hm' => by
              have : m' ∈ suf := List.mem_of_mem_head? hm'
              exact n3 y (by rw [h1]; simp) m' (List.mem_cons_of_mem _ this))
            rw [hk, h.links s2 _ y _ hs hsp, h3]
            rfl
    · rw [if_neg e] at he2
      have hk := ht.keep y.i (h.ne hs2 he2) (fun b hb => by
        obtain ⟨p, hp⟩ : ∃ p, pre = p ++ [b] := by
          have := List.getLast?_eq_some_iff.1 hb
          exact this
        exact h.two hs2 he2 hs (pre2 := p) (y := b) (suf2 := x :: suf) (by rw [he, hp]; simp) e) (fun m hm => by
        obtain ⟨q, hq⟩ : ∃ q, suf = m :: q := by
          cases suf with
          | nil => cases hm
          | cons a q => simp at hm; subst hm; exact ⟨q, rfl⟩
        exact h.two hs2 he2 hs (pre2 := pre ++ [x]) (y := m) (suf2 := q) (by rw [he, hq]; simp) e)
      rw [hk]
      exact h.links s2 pre2 y suf2 hs2 he2
  · unfold updL
    by_cases e : s2 = s
    · rw [if_pos e]
      exact List.pairwise_append.2 ⟨n1, n5, fun a ha b hb => n3 a ha b (List.mem_cons_of_mem _ hb)⟩
    · rw [if_neg e]; exact h.nd s2 hs2
theorem take_lnk (E : Env) (Q : AV → Hp → Prop) (h : Lnk H iw row Ls) (hs : s < 576) (he : Ls s = pre ++ x :: suf) (hQ : ∀ H' row', Took H H' iw s row row' pre suf → H'.length = H.length → Q (.tup []) H') : PC Try.prog E 31 [.ptr (some (x.i, 0))] H Q := by
  have hi := h.links s pre x suf hs he
  have hne := h.ne hs he
  have hwl := ltX h.w
  have hnd := h.nd s hs
  rw [he] at hnd
  obtain ⟨n1, n2, n3⟩ := List.pairwise_append.1 hnd
  obtain ⟨n4, n5⟩ := List.pairwise_cons.1 n2
  have hl2 : 2 + s < row.length := by rw [h.l]; omega
  rcases List.eq_nil_or_concat pre with rfl | ⟨p, b, rfl⟩
  · cases suf with
    | nil =>
      refine take_nn E H Q x.i iw s x.n x.t row h.w hl2 hne hi (hQ _ (row.set (2 + s) (.ptr none)) ⟨fun j hj _ _ => getNX (Ne.symm hj) _, fun p b e => (by simp at e), fun m q e => (by cases e), List.getElem?_set_self hwl, fun _ => rfl, fun e => absurd rfl e⟩ (by simp))
    | cons m q =>
      have hsp : Ls s = ([] ++ [x]) ++ m :: q := by rw [he]; simp
      have hm := h.links s _ m q hs hsp
      have hmi := h.ne hs hsp
      have hmx : m.i ≠ x.i := Ne.symm (n4 m (List.mem_cons_self ..))
      refine take_nm E H Q x.i iw s x.n x.t row h.w hl2 hne m.i hi m.n m.t (headI q) s hm hmx hmi (hQ _ (row.set (2 + s) (.ptr (some (m.i, 0)))) ⟨fun j hj _ h3 => ?_, fun p b e => (by simp at e), fun m' q' e => ?_, ?_, fun _ => rfl, fun e => absurd rfl e⟩ (by simp))
      · rw [getNX (Ne.symm (h3 m rfl)), getNX (Ne.symm hj)]
      · cases e
        exact List.getElem?_set_self (by simpa using ltX hm)
      · rw [getNX hmi]; exact List.getElem?_set_self hwl
  · rw [List.concat_eq_append] at *
    have hsp0 : Ls s = p ++ b :: (x :: suf) := by rw [he]; simp
    have hb := h.links s _ b _ hs hsp0
    have hbi := h.ne hs hsp0
    have hbx : b.i ≠ x.i := n3 b (by simp) x (List.mem_cons_self ..)
    have hlast : lastI (p ++ [b]) = some b.i := by simp [lastI]
    rw [hlast] at hi
    cases suf with
    | nil =>
      refine take_bn E H Q x.i iw s x.n x.t b.i hi b.n b.t (lastI p) s hb hbx (hQ _ row ⟨fun j _ h2 _ => getNX (Ne.symm (h2 b (by simp))) _, fun p' b' e => ?_, fun m q e => (by cases e), ?_, fun e => (by simp at e), fun _ => rfl⟩ (by simp))
      · obtain ⟨rfl, e2⟩ := List.append_inj' e rfl
        cases e2
        exact List.getElem?_set_self (ltX hb)
      · rw [getNX hbi]; exact h.w
    | cons m q =>
      have hsp : Ls s = (p ++ [b] ++ [x]) ++ m :: q := by rw [he]; simp
      have hm := h.links s _ m q hs hsp
      have hl3 : lastI (p ++ [b] ++ [x]) = some x.i := by simp [lastI]
      rw [hl3] at hm
      have hmi := h.ne hs hsp
      have hmx : m.i ≠ x.i := Ne.symm (n4 m (List.mem_cons_self ..))
      have hbm : b.i ≠ m.i := n3 b (by simp) m (by simp)
      refine take_bm E H Q x.i iw s x.n x.t b.i m.i hi b.n b.t (lastI p) s hb hbx m.n m.t (headI q) s hm hmx hbm (hQ _ row ⟨fun j _ h2 h3 => ?_, fun p' b' e => ?_, fun m' q' e => ?_, ?_, fun e => (by simp at e), fun _ => rfl⟩ (by simp))
      · rw [getNX (Ne.symm (h3 m rfl)), getNX (Ne.symm (h2 b (by simp)))]
      · obtain ⟨rfl, e2⟩ := List.append_inj' e rfl
        cases e2
        rw [getNX (Ne.symm hbm)]
        exact List.getElem?_set_self (ltX hb)
      · cases e
        rw [List.getElem?_set_self (by simpa using ltX hm), hlast]
      · rw [getNX hmi, getNX hbi]; exact h.w
end
end Go.Proofs.Ytijnohcaeedffaa

set_option linter.unusedVariables false
set_option linter.unnecessarySimpa false
set_option linter.unusedSimpArgs false
set_option linter.unusedSectionVars false
set_option maxRecDepth 100000
namespace Go.Proofs.Ytijnohcaeedffaa
open Go Go.RowKit

section
variable {H H' : Hp} {iw s : Nat} {row : List AV} {Ls : Nat → List Te} {x : Te}
/-- What hanging leaves. -/
structure Hung (H H' : Hp) (iw s : Nat) (row : List AV) (l : List Te) (x : Te) : Prop where
  new : H'[x.i]? = some (tmr x.n x.t (headI l) none iw s)
  next : ∀ m q, l = m :: q → H'[m.i]? = some (tmr m.n m.t (headI q) (some x.i) iw s)
  keep : ∀ j, j ≠ iw → j ≠ x.i → (∀ m, l.head? = some m → j ≠ m.i) → H'[j]? = H[j]?
  w : H'[iw]? = some (row.set (2 + s) (.ptr (some (x.i, 0))))
theorem Lnk.hung (h : Lnk H iw row Ls) (hs : s < 576) (hnot : ∀ s, s < 576 → ∀ y ∈ Ls s, y.i ≠ x.i) (hh : Hung H H' iw s row (Ls s) x) : Lnk H' iw (row.set (2 + s) (.ptr (some (x.i, 0)))) (updL Ls s (x :: Ls s)) := by
  have hl := h.l
  refine ⟨hh.w, by simpa using hl, fun s2 hs2 => ?_, fun s2 pre2 y suf2 hs2 he2 => ?_, fun s2 hs2 => ?_⟩
  · unfold updL
    by_cases e : s2 = s
    · subst e; rw [if_pos rfl, List.getElem?_set_self (by omega)]; rfl
    · rw [if_neg e, List.getElem?_set_ne (by omega)]; exact h.heads s2 hs2
  · unfold updL at he2
    by_cases e : s2 = s
    · subst e
      rw [if_pos rfl] at he2
      cases pre2 with
      | nil =>
        simp at he2
        obtain ⟨rfl, rfl⟩ := he2
        exact hh.new
      | cons z pre2 =>
        simp only [List.cons_append, List.cons.injEq] at he2
        obtain ⟨rfl, he3⟩ := he2
        cases pre2 with
        | nil =>
          rw [hh.next y suf2 (by simpa using he3)]
          rfl
        | cons z2 pre2 =>
          have hsp : Ls s2 = (z2 :: pre2) ++ y :: suf2 := he3
          have hnd := h.nd s2 hs2
          rw [hsp] at hnd
          have n3 := (List.pairwise_append.1 hnd).2.2
          rw [hh.keep y.i (h.ne hs2 hsp) (hnot s2 hs2 y (by rw [hsp]; simp)) (fun m hm => by
            rw [hsp] at hm
            simp at hm; subst hm
            exact Ne.symm (n3 z2 (List.mem_cons_self ..) y (List.mem_cons_self ..))), h.links s2 _ y suf2 hs2 hsp]
          congr 2
    · rw [if_neg e] at he2
      rw [hh.keep y.i (h.ne hs2 he2) (hnot s2 hs2 y (by rw [he2]; simp)) (fun m hm => ?_)]
      · exact h.links s2 pre2 y suf2 hs2 he2
      · obtain ⟨q, hq⟩ : ∃ q, Ls s = m :: q := by
          cases hls : Ls s with
          | nil => rw [hls] at hm; cases hm
          | cons a q => rw [hls] at hm; simp at hm; subst hm; exact ⟨q, rfl⟩
        exact h.two hs2 he2 hs (pre2 := []) (y := m) (suf2 := q) hq e
  · unfold updL
    by_cases e : s2 = s
    · rw [if_pos e]
      exact List.pairwise_cons.2 ⟨fun y hy => Ne.symm (hnot s hs y hy), h.nd s hs⟩
    · rw [if_neg e]; exact h.nd s2 hs2
theorem hang_lnk (E : Env) (Q : AV → Hp → Prop) (h : Lnk H iw row Ls) (i : Nat) (n : Int) (t now : Nat) (x2 x3 x4 : AV) (h0 : row[0]? = some (.int .i64 now)) (hiw : i ≠ iw) (hi : H[i]? = some [.int .i64 n, .int .i64 t, x2, x3, x4]) (ht : t ≤ 281474976710656) (hn : now ≤ 281474976710656)
    (hnot : ∀ s, s < 576 → ∀ y ∈ Ls s, y.i ≠ i)
    (hQ : ∀ k s H', Lev t now k → k ≤ 8 → s = k * 64 + (t / 64 ^ k) % 64 → Hung H H' iw s row (Ls s) ⟨i, n, t⟩ → H'.length = H.length → Q (.tup []) H') : PC Try.prog E 25 [.ptr (some (iw, 0)), .ptr (some (i, 0))] H Q := by
  have hwl := ltX h.w
  have hil := ltX hi
  have hlt : ∀ k s, k ≤ 8 → s = k * 64 + (t / 64 ^ k) % 64 → s < 576 := fun k s hk e => by have := Nat.mod_lt (t / 64 ^ k) (show 64 > 0 by decide); omega
  refine hang_pc E H Q i iw n t now x2 x3 x4 row h.w h.l h0 hiw hi ht hn (fun s => headI (Ls s)) h.heads (fun s m hs hm => ?_) (fun k s hL hk hs hd => ?_) (fun k s m n' t' k' hL hk hs hd hm => ?_)
  · cases hls : Ls s with
    | nil => rw [hls] at hm; cases hm
    | cons a q =>
      rw [hls] at hm
      simp [headI] at hm
      subst hm
      exact ⟨hnot s hs a (by rw [hls]; simp), h.ne hs (pre := []) hls, _, _, _, h.links s [] a q hs hls⟩
  · have hls : Ls s = [] := by
      cases hls : Ls s with
      | nil => rfl
      | cons a q => rw [hls] at hd; cases hd
    refine hQ k s _ hL hk hs ⟨?_, fun m q e => ?_, fun j h1 h2 _ => ?_, List.getElem?_set_self (by simpa using hwl)⟩ (by simp)
    · rw [hls, getNX (Ne.symm hiw)]; exact List.getElem?_set_self hil
    · rw [hls] at e; cases e
    · rw [getNX (Ne.symm h1), getNX (Ne.symm h2)]
  · have hs5 := hlt k s hk hs
    cases hls : Ls s with
    | nil => simp only [hls] at hd; cases hd
    | cons a q =>
      simp only [hls, headI, List.head?_cons, Option.map_some, Option.some.injEq] at hd
      subst hd
      have ha := h.links s [] a q hs5 hls
      have hai := h.ne hs5 (pre := []) hls
      have hax := hnot s hs5 a (by rw [hls]; simp)
      have hal := ltX ha
      have hset : tmr n' t' k' (some i) iw s = tmr a.n a.t (headI q) (some i) iw s := by
        rw [hm] at ha
        injection ha with ha
        have e1 : tmr n' t' k' (some i) iw s = (tmr n' t' k' none iw s).set 3 (.ptr (some (i, 0))) := rfl
        have e2 : tmr a.n a.t (headI q) (some i) iw s = (tmr a.n a.t (headI q) (lastI []) iw s).set 3 (.ptr (some (i, 0))) := rfl
        rw [e1, e2, ha]
      rw [hset]
      refine hQ k s _ hL hk hs ⟨?_, fun m q' e => ?_, fun j h1 h2 h3 => ?_, List.getElem?_set_self (by simpa using hwl)⟩ (by simp)
      · rw [getNX (Ne.symm hiw), getNX hax, hls]; exact List.getElem?_set_self hil
      · rw [hls] at e; cases e
        rw [getNX (Ne.symm hai)]; exact List.getElem?_set_self (by simpa using hal)
      · rw [getNX (Ne.symm h1), getNX (Ne.symm (h3 a (by rw [hls]; rfl))), getNX (Ne.symm h2)]
end
end Go.Proofs.Ytijnohcaeedffaa

set_option linter.unusedVariables false
set_option linter.unnecessarySimpa false
set_option linter.unusedSimpArgs false
set_option linter.unusedSectionVars false
set_option maxRecDepth 100000
namespace Go.Proofs.Ytijnohcaeedffaa
open Go Go.RowKit

/-- The place of a tick in a wheel at now. -/
def atP (now t s : Nat) : Prop := ∃ k, Lev t now k ∧ k ≤ 8 ∧ s = k * 64 + (t / 64 ^ k) % 64
/-- A wheel in box iw. -/
structure Whl (H : Hp) (iw : Nat) (row : List AV) (now : Nat) (st : Int) (g : Nat) (kv : List (Int × Nat)) (Ls : Nat → List Te) : Prop where
  lnk : Lnk H iw row Ls
  r0 : row[0]? = some (.int .i64 now)
  r1 : row[1]? = some (.int .i64 st)
  rm : row[578]? = some (.ob (mapOb Try.prog 3 g kv))
  ok : kvOk kv
  inj : kv.Pairwise fun p q => p.2 ≠ q.2
  mem : ∀ n i, (n, i) ∈ kv ↔ ∃ s, s < 576 ∧ ∃ x ∈ Ls s, x.n = n ∧ x.i = i
  tick : ∀ s, s < 576 → ∀ x ∈ Ls s, ∃ t : Nat, x.t = (t : Int) ∧ now ≤ t ∧ t ≤ 281474976710656 ∧ (now = t → now = 281474976710656) ∧ atP now t s
  num : ∀ p ∈ kv, okKey p.1
  nowle : now ≤ 281474976710656
  few : kv.length ≤ 1000000000
section
variable {H : Hp} {iw : Nat} {row : List AV} {now : Nat} {st : Int} {g : Nat} {kv : List (Int × Nat)} {Ls : Nat → List Te} (E : Env) (Q : AV → Hp → Prop)
theorem len_pc (h : Whl H iw row now st g kv Ls) (hQ : Q (.int .i64 kv.length) H) : PC Try.prog E 14 [.ptr (some (iw, 0))] H Q := by
  have hw := h.lnk.w
  have rm := h.rm
  refine pc_enter Try.func14 rfl [] [(3, [0, 0, 0, 3, 3])] (by kernel_rfl) (fun hB => ?_)
  simp [Try.ntmps14, Try.results14, List.replicate_succ, hw, rm, mapOb]
  exact aPost_same0 hB rfl (nilV_refl _) (by simp) hQ
/-- A timer of the map, on its list. -/
theorem Whl.at (h : Whl H iw row now st g kv Ls) {n : Int} {i : Nat} (hi : kvAt kv n = some i) : ∃ (s : Nat) (pre : List Te) (x : Te) (suf : List Te), s < 576 ∧ Ls s = pre ++ x :: suf ∧ x.n = n ∧ x.i = i ∧ ∃ t : Nat, x.t = (t : Int) ∧ now ≤ t ∧ t ≤ 281474976710656 := by
  obtain ⟨s, hs, x, hx, e1, e2⟩ := (h.mem n i).1 (kvAt_mem hi)
  obtain ⟨pre, suf, hsp⟩ := List.append_of_mem hx
  obtain ⟨t, ht, h1, h2, _⟩ := h.tick s hs x hx
  exact ⟨s, pre, x, suf, hs, hsp, e1, e2, t, ht, h1, h2⟩
end
end Go.Proofs.Ytijnohcaeedffaa

set_option linter.unusedVariables false
set_option linter.unnecessarySimpa false
set_option linter.unusedSimpArgs false
set_option linter.unusedSectionVars false
set_option maxRecDepth 100000
namespace Go.Proofs.Ytijnohcaeedffaa
open Go Go.RowKit

theorem bnd_ob {N : Nat} {X : Ob} : Bnd N (.ob X) ↔ X.N ≤ N := ⟨fun h => by cases h; assumption, .ob X⟩
/-- A box of a wheel. -/
def Mine (iw : Nat) (Ls : Nat → List Te) (j : Nat) : Prop := j = iw ∨ ∃ s, s < 576 ∧ ∃ x ∈ Ls s, x.i = j
theorem pw_eq {l : List (Int × Nat)} (h : l.Pairwise fun p q => p.2 ≠ q.2) {p q : Int × Nat} (hp : p ∈ l) (hq : q ∈ l) (e : p.2 = q.2) : p = q := by
  induction l with
  | nil => cases hp
  | cons a l ih =>
    obtain ⟨h1, h2⟩ := List.pairwise_cons.1 h
    rcases List.mem_cons.1 hp with hp1 | hp1
    · rcases List.mem_cons.1 hq with hq1 | hq1
      · rw [hp1, hq1]
      · exact absurd (hp1 ▸ e) (h1 q hq1)
    · rcases List.mem_cons.1 hq with hq1 | hq1
      · exact absurd (hq1 ▸ e).symm (h1 p hp1)
      · exact ih h2 hp1 hq1
section
variable {H H' : Hp} {iw s : Nat} {row row' : List AV} {now : Nat} {st : Int} {g : Nat} {kv : List (Int × Nat)} {Ls : Nat → List Te} {pre suf : List Te} {x : Te}
theorem Lnk.cell (h : Lnk H iw row Ls) {p : Nat} (hp : p < 2 ∨ 578 ≤ p) (v : AV) : Lnk (H.set iw (row.set p v)) iw (row.set p v) Ls := by
  have hwl := ltX h.w
  refine ⟨List.getElem?_set_self hwl, by simpa using h.l, fun s hs => ?_, fun s pre x suf hs he => ?_, h.nd⟩
  · rw [List.getElem?_set_ne (by omega)]; exact h.heads s hs
  · rw [getNX (Ne.symm (h.ne hs he))]; exact h.links s pre x suf hs he
theorem Took.row_ne (ht : Took H H' iw s row row' pre suf) {p : Nat} (hp : p ≠ 2 + s) : row'[p]? = row[p]? := by
  by_cases e : pre = []
  · rw [ht.row0 e, List.getElem?_set_ne (Ne.symm hp)]
  · rw [ht.row1 e]
theorem Whl.took (h : Whl H iw row now st g kv Ls) (hs : s < 576) (he : Ls s = pre ++ x :: suf) (ht : Took H H' iw s row row' pre suf) :
    Whl (H'.set iw (row'.set 578 (.ob (mapOb Try.prog 3 g (kvDel kv x.n))))) iw (row'.set 578 (.ob (mapOb Try.prog 3 g (kvDel kv x.n)))) now st g (kvDel kv x.n) (updL Ls s (pre ++ suf)) := by
  have hL := h.lnk.took hs he ht
  have hx : x ∈ Ls s := by rw [he]; simp
  have sub : ∀ s2, ∀ y ∈ updL Ls s (pre ++ suf) s2, y ∈ Ls s2 := fun s2 y hy => by
    unfold updL at hy
    by_cases e : s2 = s
    · subst e
      rw [if_pos rfl] at hy
      rw [he]
      rcases List.mem_append.1 hy with h1 | h1
      · exact List.mem_append_left _ h1
      · exact List.mem_append_right _ (List.mem_cons_of_mem _ h1)
    · rw [if_neg e] at hy; exact hy
  have back : ∀ s2, ∀ y ∈ Ls s2, s2 < 576 → y.i ≠ x.i → y ∈ updL Ls s (pre ++ suf) s2 := fun s2 y hy _ hne => by
    unfold updL
    by_cases e : s2 = s
    · subst e
      rw [if_pos rfl]
      rw [he] at hy
      rcases List.mem_append.1 hy with h1 | h1
      · exact List.mem_append_left _ h1
      · rcases List.mem_cons.1 h1 with rfl | h1
        · exact absurd rfl hne
        · exact List.mem_append_right _ h1
    · rw [if_neg e]; exact hy
  have hnot : ∀ s2, s2 < 576 → ∀ y ∈ updL Ls s (pre ++ suf) s2, y.i ≠ x.i := fun s2 hs2 y hy => by
    by_cases e : s2 = s
    · subst e
      unfold updL at hy
      rw [if_pos rfl] at hy
      have hnd := h.lnk.nd s2 hs2
      rw [he] at hnd
      obtain ⟨n1, n2, n3⟩ := List.pairwise_append.1 hnd
      rcases List.mem_append.1 hy with h1 | h1
      · exact n3 y h1 x (List.mem_cons_self ..)
      · exact Ne.symm ((List.pairwise_cons.1 n2).1 y h1)
    · obtain ⟨p2, q2, hsp⟩ := List.append_of_mem (sub s2 y hy)
      exact h.lnk.two hs2 hsp hs he e
  refine ⟨hL.cell (.inr (Nat.le_refl _)) _, ?_, ?_, ?_, kvOk_del h.ok _, h.inj.sublist List.filter_sublist, fun n i => ?_, fun s2 hs2 y hy => h.tick s2 hs2 y (sub s2 y hy), fun p hp => h.num p (List.mem_filter.1 hp).1, h.nowle, Nat.le_trans (List.length_filter_le ..) h.few⟩
  · rw [List.getElem?_set_ne (by omega), ht.row_ne (by omega)]; exact h.r0
  · rw [List.getElem?_set_ne (by omega), ht.row_ne (by omega)]; exact h.r1
  · rw [List.getElem?_set_self (by have := hL.l; omega)]
  · constructor
    · intro hm
      obtain ⟨h1, h2⟩ := List.mem_filter.1 hm
      obtain ⟨s2, hs2, y, hy, e1, e2⟩ := (h.mem n i).1 h1
      refine ⟨s2, hs2, y, back s2 y hy hs2 fun e => ?_, e1, e2⟩
      have hxm := (h.mem x.n x.i).2 ⟨s, hs, x, hx, rfl, rfl⟩
      have hn : n ≠ x.n := by simpa using h2
      have := pw_eq h.inj h1 hxm (by simp only; rw [← e2, e])
      exact hn (congrArg Prod.fst this)
    · rintro ⟨s2, hs2, y, hy, e1, e2⟩
      have h1 := (h.mem n i).2 ⟨s2, hs2, y, sub s2 y hy, e1, e2⟩
      refine List.mem_filter.2 ⟨h1, ?_⟩
      have hne := hnot s2 hs2 y hy
      have hxm := (h.mem x.n x.i).2 ⟨s, hs, x, hx, rfl, rfl⟩
      simp only [bne_iff_ne, ne_eq]
      rintro rfl
      have a1 := kvAt_of h.ok h1
      have a2 := kvAt_of h.ok hxm
      rw [a1] at a2
      injection a2 with a2
      exact hne (e2.trans a2)
end
section
variable {H : Hp} {iw : Nat} {row : List AV} {now : Nat} {st : Int} {g : Nat} {kv : List (Int × Nat)} {Ls : Nat → List Te} (E : Env) (Q : AV → Hp → Prop)
theorem stop_pc (h : Whl H iw row now st g kv Ls) (n : Int) (hn : okKey n) (hQ1 : kvAt kv n = none → Q (.bool false) H)
    (hQ2 : ∀ (s : Nat) (pre : List Te) (x : Te) (suf : List Te) (H' : Hp) (row' : List AV), s < 576 → Ls s = pre ++ x :: suf → x.n = n → kvAt kv n = some x.i → Whl H' iw row' now st g (kvDel kv n) (updL Ls s (pre ++ suf)) → H'.length = H.length → (∀ j, ¬ Mine iw Ls j → H'[j]? = H[j]?) → Q (.bool true) H') : PC Try.prog E 24 [.ptr (some (iw, 0)), .int .i64 n] H Q := by
  have hw := h.lnk.w
  have rm := h.rm
  refine pc_enter Try.func24 rfl [] [(3, [0, 0, 0, 3, 0, 3]), (6, [0, 0, 0, 3, 0, 3])] (by kernel_rfl) (fun hB => ?_)
  cases hk : kvAt kv n with
  | none =>
    simp [Try.ntmps24, Try.results24, List.replicate_succ, hw, rm, mapOb, hn, hk]
    exact aPost_same0 hB rfl (nilV_refl _) (by simp) (hQ1 hk)
  | some i =>
    obtain ⟨s, pre, x, suf, hs, hsp, e1, rfl, _⟩ := h.at hk
    simp [Try.ntmps24, Try.results24, List.replicate_succ, hw, rm, mapOb, hn, hk]
    refine PC.bnd (take_lnk E _ h.lnk hs hsp (fun H' row' ht hlen hB' _ => ?_))
    have hw' := ht.w
    have rm' : row'[578]? = some (.ob (mapOb Try.prog 3 g kv)) := by rw [ht.row_ne (by omega)]; exact rm
    have hW := h.took (x := x) hs hsp ht
    rw [e1] at hW
    have hkv : kvN (kvDel kv n) ≤ H'.length := kvN_le fun p hp => by
      have h1 : Bnd H.length (.ob (mapOb Try.prog 3 g kv)) := bnd_row hB hw _ (mem_at rm)
      have h2 := kvN_lt (List.mem_filter.1 hp).1
      have h3 : kvN kv ≤ H.length := bnd_ob.1 h1
      omega
    have hQ := hQ2 s pre x suf _ _ hs hsp e1 hk hW (by simpa using hlen) (fun j hj => ?_)
    · simp [Kcall, KP, hw', rm', mapOb, hn, hk, hw, rm]
      exact aPost_upX rfl (by simp [hlen]) (by rw [List.length_set]; exact bndX_put hB' _ (bnd_set (bnd_row hB' hw') (bnd_ob.2 hkv))) (by simp) hQ
    · have hne : ∀ s2 p y q, s2 < 576 → Ls s2 = p ++ y :: q → j ≠ y.i := fun s2 p y q hs2 e hjy => hj (.inr ⟨s2, hs2, y, by rw [e]; simp, hjy.symm⟩)
      have hjw : j ≠ iw := fun e => hj (.inl e)
      rw [getNX (Ne.symm hjw)]
      refine ht.keep j hjw (fun b hb => ?_) (fun m hm => ?_)
      · obtain ⟨p, hp⟩ := List.getLast?_eq_some_iff.1 hb
        exact hne s p b (x :: suf) hs (by rw [hsp, hp]; simp)
      · cases suf with
        | nil => cases hm
        | cons a q => simp at hm; subst hm; exact hne s (pre ++ [x]) a q hs (by rw [hsp]; simp)
end
end Go.Proofs.Ytijnohcaeedffaa

set_option linter.unusedVariables false
set_option linter.unnecessarySimpa false
set_option linter.unusedSimpArgs false
set_option linter.unusedSectionVars false
set_option maxRecDepth 100000
namespace Go.Proofs.Ytijnohcaeedffaa
open Go Go.RowKit

/-- The document's timers are those on the lists. -/
structure Vw (Ls : Nat → List Te) (ts : List Tm) : Prop where
  nd : ts.Pairwise fun x y => x.n ≠ y.n
  mem : ∀ y : Tm, y ∈ ts ↔ ∃ s, s < 576 ∧ ∃ x ∈ Ls s, y = ⟨x.n, x.t⟩
def ofN (ts : List Tm) (n : Int) : Option Tm := ts.find? fun y => y.n == n
def offN (ts : List Tm) (n : Int) : List Tm := ts.filter fun y => y.n != n
section
variable {H H' : Hp} {iw s : Nat} {row row' : List AV} {now : Nat} {st : Int} {g : Nat} {kv : List (Int × Nat)} {Ls : Nat → List Te} {pre suf : List Te} {x : Te} {ts : List Tm}
theorem Whl.isSome (h : Whl H iw row now st g kv Ls) (hv : Vw Ls ts) (n : Int) : (kvAt kv n).isSome = (ofN ts n).isSome := by
  cases hk : kvAt kv n with
  | none =>
    cases ho : ofN ts n with
    | none => rfl
    | some y =>
      have h1 := List.find?_some ho
      obtain ⟨s, hs, x, hx, rfl⟩ := (hv.mem y).1 (List.mem_of_find?_eq_some ho)
      have h2 := kvAt_of h.ok ((h.mem x.n x.i).2 ⟨s, hs, x, hx, rfl, rfl⟩)
      simp at h1
      rw [h1, hk] at h2
      cases h2
  | some i =>
    obtain ⟨s, hs, x, hx, e1, e2⟩ := (h.mem n i).1 (kvAt_mem hk)
    have h1 := (hv.mem ⟨x.n, x.t⟩).2 ⟨s, hs, x, hx, rfl⟩
    cases ho : ofN ts n with
    | none => exact absurd e1 (by simpa using List.find?_eq_none.1 ho _ h1)
    | some y => rfl
theorem nd_of {ts : List Tm} (h : ts.Pairwise fun x y => x.n ≠ y.n) {a b : Tm} (ha : a ∈ ts) (hb : b ∈ ts) (e : a.n = b.n) : a = b := by
  induction ts with
  | nil => cases ha
  | cons c l ih =>
    obtain ⟨h1, h2⟩ := List.pairwise_cons.1 h
    rcases List.mem_cons.1 ha with ha1 | ha1
    · rcases List.mem_cons.1 hb with hb1 | hb1
      · rw [ha1, hb1]
      · exact absurd (ha1 ▸ e) (h1 b hb1)
    · rcases List.mem_cons.1 hb with hb1 | hb1
      · exact absurd (hb1 ▸ e).symm (h1 a ha1)
      · exact ih h2 ha1 hb1
theorem offN_nd (h : ts.Pairwise fun x y => x.n ≠ y.n) (n : Int) : (offN ts n).Pairwise fun x y => x.n ≠ y.n := h.sublist List.filter_sublist
/-- One box of a number alone is on the lists. -/
theorem Whl.one (h : Whl H iw row now st g kv Ls) {s1 s2 : Nat} {x y : Te} (h1 : s1 < 576) (hx : x ∈ Ls s1) (h2 : s2 < 576) (hy : y ∈ Ls s2) (e : x.n = y.n) : x.i = y.i := by
  have a1 := kvAt_of h.ok ((h.mem x.n x.i).2 ⟨s1, h1, x, hx, rfl, rfl⟩)
  have a2 := kvAt_of h.ok ((h.mem y.n y.i).2 ⟨s2, h2, y, hy, rfl, rfl⟩)
  rw [e, a2] at a1
  injection a1 with a1
  exact a1.symm
theorem Vw.took (h : Whl H iw row now st g kv Ls) (hv : Vw Ls ts) (hs : s < 576) (he : Ls s = pre ++ x :: suf) : Vw (updL Ls s (pre ++ suf)) (offN ts x.n) := by
  have hx : x ∈ Ls s := by rw [he]; simp
  refine ⟨offN_nd hv.nd _, fun y => ?_⟩
  unfold offN
  rw [List.mem_filter, hv.mem]
  constructor
  · rintro ⟨⟨s2, hs2, z, hz, rfl⟩, hne⟩
    have hne' : z.n ≠ x.n := by simpa using hne
    refine ⟨s2, hs2, z, ?_, rfl⟩
    unfold updL
    by_cases e : s2 = s
    · subst e
      rw [if_pos rfl]
      rw [he] at hz
      rcases List.mem_append.1 hz with h1 | h1
      · exact List.mem_append_left _ h1
      · rcases List.mem_cons.1 h1 with rfl | h1
        · exact absurd rfl hne'
        · exact List.mem_append_right _ h1
    · rw [if_neg e]; exact hz
  · rintro ⟨s2, hs2, z, hz, rfl⟩
    have hz0 : z ∈ Ls s2 := by
      unfold updL at hz
      by_cases e : s2 = s
      · subst e
        rw [if_pos rfl] at hz
        rw [he]
        rcases List.mem_append.1 hz with h1 | h1
        · exact List.mem_append_left _ h1
        · exact List.mem_append_right _ (List.mem_cons_of_mem _ h1)
      · rw [if_neg e] at hz; exact hz
    refine ⟨⟨s2, hs2, z, hz0, rfl⟩, ?_⟩
    simp only [bne_iff_ne, ne_eq]
    intro e
    have hi := h.one hs2 hz0 hs hx e
    by_cases e2 : s2 = s
    · subst e2
      unfold updL at hz
      rw [if_pos rfl] at hz
      have hnd := h.lnk.nd s2 hs2
      rw [he] at hnd
      obtain ⟨n1, n2, n3⟩ := List.pairwise_append.1 hnd
      rcases List.mem_append.1 hz with h1 | h1
      · exact n3 z h1 x (List.mem_cons_self ..) hi
      · exact (List.pairwise_cons.1 n2).1 z h1 hi.symm
    · obtain ⟨p2, q2, hsp⟩ := List.append_of_mem hz0
      exact h.lnk.two hs2 hsp hs he e2 hi
theorem kvDel_none {n : Int} (hk : kvAt kv n = none) : kvDel kv n = kv := by
  unfold kvDel
  rw [List.filter_eq_self]
  intro p hp
  unfold kvAt at hk
  simp only [Option.map_eq_none_iff] at hk
  simpa using List.find?_eq_none.1 hk p hp
theorem offN_none {n : Int} (hk : ofN ts n = none) : offN ts n = ts := by
  unfold offN
  rw [List.filter_eq_self]
  intro p hp
  simpa using List.find?_eq_none.1 hk p hp
end
section
variable {H : Hp} {iw : Nat} {row : List AV} {now : Nat} {st : Int} {g : Nat} {kv : List (Int × Nat)} {Ls : Nat → List Te} {ts : List Tm} (E : Env) (Q : AV → Hp → Prop)
theorem stop_vw (h : Whl H iw row now st g kv Ls) (hv : Vw Ls ts) (n : Int) (hn : okKey n)
    (hQ : ∀ (H' : Hp) (row' : List AV) (Ls' : Nat → List Te), Whl H' iw row' now st g (kvDel kv n) Ls' → Vw Ls' (offN ts n) → (∀ s x, x ∈ Ls' s → x ∈ Ls s) → H'.length = H.length → (∀ j, ¬ Mine iw Ls j → H'[j]? = H[j]?) → Q (.bool (ofN ts n).isSome) H') : PC Try.prog E 24 [.ptr (some (iw, 0)), .int .i64 n] H Q := by
  refine stop_pc E Q h n hn (fun hk => ?_) (fun s pre x suf H' row' hs hsp e1 hk hW hl hf => ?_)
  · have h1 := h.isSome hv n
    rw [hk] at h1
    have h2 : ofN ts n = none := by cases ho : ofN ts n with
      | none => rfl
      | some y => rw [ho] at h1; cases h1
    have := hQ H row Ls (by rw [kvDel_none hk]; exact h) (by rw [offN_none h2]; exact hv) (fun _ _ h => h) rfl (fun _ _ => rfl)
    rw [h2] at this
    exact this
  · have h1 := h.isSome hv n
    rw [hk] at h1
    have hv' := Vw.took h hv hs hsp
    rw [e1] at hv'
    have := hQ H' row' _ hW hv' (fun s2 y hy => by
      unfold updL at hy
      by_cases e : s2 = s
      · subst e
        rw [if_pos rfl] at hy
        rw [hsp]
        rcases List.mem_append.1 hy with h1 | h1
        · exact List.mem_append_left _ h1
        · exact List.mem_append_right _ (List.mem_cons_of_mem _ h1)
      · rw [if_neg e] at hy; exact hy) hl hf
    rw [← h1] at this
    exact this
end
end Go.Proofs.Ytijnohcaeedffaa

set_option linter.unusedVariables false
set_option linter.unnecessarySimpa false
set_option linter.unusedSimpArgs false
set_option linter.unusedSectionVars false
set_option maxRecDepth 100000
namespace Go.Proofs.Ytijnohcaeedffaa
open Go Go.RowKit

section
variable {H K : Hp} {iw s : Nat} {row row' : List AV} {now : Nat} {st : Int} {g : Nat} {kv : List (Int × Nat)} {Ls : Nat → List Te} {ts : List Tm} {x : Te}
theorem getA {H J : Hp} {j : Nat} {l : List AV} (h : H[j]? = some l) : (H ++ J)[j]? = some l := by rw [List.getElem?_append_left (ltX h)]; exact h
theorem Lnk.grow (h : Lnk H iw row Ls) (J : Hp) : Lnk (H ++ J) iw row Ls := ⟨getA h.w, h.l, h.heads, fun s pre x suf hs he => getA (h.links s pre x suf hs he), h.nd⟩
theorem Lnk.lt (h : Lnk H iw row Ls) (hs : s < 576) (hx : x ∈ Ls s) : x.i < H.length := by
  obtain ⟨p, q, e⟩ := List.append_of_mem hx
  exact ltX (h.links s p x q hs e)
theorem kvPut_none {n : Int} {i : Nat} (hk : kvAt kv n = none) : kvPut kv n i = kv ++ [(n, i)] := by unfold kvPut; rw [kvDel_none hk]
theorem kvDel_at (kv : List (Int × Nat)) (n : Int) : kvAt (kvDel kv n) n = none := by rw [kvAt_del, if_pos rfl]
theorem offN_at (ts : List Tm) (n : Int) : ofN (offN ts n) n = none := by
  unfold ofN offN
  rw [List.find?_eq_none]
  intro y hy
  have := (List.mem_filter.1 hy).2
  simpa using this
/-- A wheel with a box more, its number in the map, hung. -/
theorem Whl.hung {i : Nat} {n : Int} {t k : Nat} {rowP : List AV} (h : Whl H iw row now st g kv Ls) (hk : kvAt kv n = none) (hn : okKey n) (hi : ∀ s, s < 576 → ∀ y ∈ Ls s, y.i ≠ i) (hL : Lnk K iw rowP Ls)
    (hr : rowP = row.set 578 (.ob (mapOb Try.prog 3 g (kvPut kv n i)))) {K2 : Hp} (hh : Hung K K2 iw s rowP (Ls s) ⟨i, n, t⟩) (hs : s < 576) (hlev : Lev t now k) (hk8 : k ≤ 8) (hse : s = k * 64 + (t / 64 ^ k) % 64)
    (hnt : now ≤ t) (htM : t ≤ 281474976710656) (hne : now = t → now = 281474976710656) (few : kv.length < 1000000000) :
    Whl K2 iw (rowP.set (2 + s) (.ptr (some (i, 0)))) now st g (kvPut kv n i) (updL Ls s (⟨i, n, t⟩ :: Ls s)) := by
  have hL2 := hL.hung (x := ⟨i, n, t⟩) hs hi hh
  have hrl := h.lnk.l
  have mem1 : ∀ s2 y, y ∈ updL Ls s (⟨i, n, t⟩ :: Ls s) s2 ↔ (s2 = s ∧ y = ⟨i, n, t⟩) ∨ y ∈ Ls s2 := fun s2 y => by
    unfold updL
    by_cases e : s2 = s
    · subst e; rw [if_pos rfl]; simp
    · rw [if_neg e]; simp [e]
  rw [kvPut_none hk] at hr ⊢
  subst hr
  have hni : ∀ p ∈ kv, p.2 ≠ i := fun p hp e => by
    obtain ⟨s2, hs2, y, hy, e1, e2⟩ := (h.mem p.1 p.2).1 hp
    exact hi s2 hs2 y hy (e2.trans e)
  have hnn : ∀ p ∈ kv, p.1 ≠ n := fun p hp e => by
    have := kvAt_of h.ok (n := p.1) (i := p.2) hp
    rw [e, hk] at this
    cases this
  refine ⟨hL2, ?_, ?_, ?_, ?_, ?_, fun m j => ?_, fun s2 hs2 y hy => ?_, fun p hp => ?_, h.nowle, by simp; omega⟩
  · rw [List.getElem?_set_ne (by omega), List.getElem?_set_ne (by omega)]; exact h.r0
  · rw [List.getElem?_set_ne (by omega), List.getElem?_set_ne (by omega)]; exact h.r1
  · rw [List.getElem?_set_ne (by omega), List.getElem?_set_self (by omega)]
  · refine List.pairwise_append.2 ⟨h.ok, List.pairwise_singleton .., fun p hp q hq => ?_⟩
    simp at hq; subst hq
    exact hnn p hp
  · refine List.pairwise_append.2 ⟨h.inj, List.pairwise_singleton .., fun p hp q hq => ?_⟩
    simp at hq; subst hq
    exact hni p hp
  · constructor
    · intro hm
      rcases List.mem_append.1 hm with h1 | h1
      · obtain ⟨s2, hs2, y, hy, e1, e2⟩ := (h.mem m j).1 h1
        exact ⟨s2, hs2, y, (mem1 s2 y).2 (.inr hy), e1, e2⟩
      · simp at h1
        obtain ⟨rfl, rfl⟩ := h1
        exact ⟨s, hs, ⟨j, m, t⟩, (mem1 s _).2 (.inl ⟨rfl, rfl⟩), rfl, rfl⟩
    · rintro ⟨s2, hs2, y, hy, e1, e2⟩
      rcases (mem1 s2 y).1 hy with ⟨rfl, rfl⟩ | hy
      · rw [← e1, ← e2]; simp
      · exact List.mem_append_left _ ((h.mem m j).2 ⟨s2, hs2, y, hy, e1, e2⟩)
  · rcases (mem1 s2 y).1 hy with ⟨rfl, rfl⟩ | hy
    · exact ⟨t, rfl, hnt, htM, hne, k, hlev, hk8, hse⟩
    · exact h.tick s2 hs2 y hy
  · rcases List.mem_append.1 hp with h1 | h1
    · exact h.num p h1
    · simp at h1; subst h1; exact hn
theorem Vw.hung {i : Nat} {n t : Int} (hv : Vw Ls ts) (hs : s < 576) (hno : ofN ts n = none) : Vw (updL Ls s (⟨i, n, t⟩ :: Ls s)) (ts ++ [⟨n, t⟩]) := by
  refine ⟨List.pairwise_append.2 ⟨hv.nd, List.pairwise_singleton .., fun p hp q hq => ?_⟩, fun y => ?_⟩
  · simp at hq; subst hq
    simpa using List.find?_eq_none.1 hno p hp
  · rw [List.mem_append, hv.mem]
    constructor
    · rintro (⟨s2, hs2, z, hz, rfl⟩ | h1)
      · refine ⟨s2, hs2, z, ?_, rfl⟩
        unfold updL
        by_cases e : s2 = s
        · subst e; rw [if_pos rfl]; exact List.mem_cons_of_mem _ hz
        · rw [if_neg e]; exact hz
      · simp at h1; subst h1
        exact ⟨s, hs, ⟨i, n, t⟩, by simp [updL], rfl⟩
    · rintro ⟨s2, hs2, z, hz, rfl⟩
      unfold updL at hz
      by_cases e : s2 = s
      · subst e
        rw [if_pos rfl] at hz
        rcases List.mem_cons.1 hz with rfl | hz
        · exact .inr (by simp)
        · exact .inl ⟨s2, hs2, z, hz, rfl⟩
      · rw [if_neg e] at hz; exact .inl ⟨s2, hs2, z, hz, rfl⟩
end
/-- The tick that a timer is set to. -/
def setT (now : Nat) (t : Int) : Nat := if t ≤ now then min (now + 1) 281474976710656 else t.toNat
section
variable {H : Hp} {iw : Nat} {row : List AV} {now : Nat} {st : Int} {g : Nat} {kv : List (Int × Nat)} {Ls : Nat → List Te} {ts : List Tm} (E : Env) (Q : AV → Hp → Prop)
theorem set_pc (h : Whl H iw row now st g kv Ls) (hv : Vw Ls ts) (n t : Int) (hn : okKey n) (ht : okKey t) (few : kv.length < 1000000000)
    (hQ1 : n < 0 → Q (.int .i64 251) H) (hQ2 : 0 ≤ n → 281474976710656 < t → Q (.int .i64 250) H)
    (hQ : ∀ (H' : Hp) (row' : List AV) (Ls' : Nat → List Te), 0 ≤ n → t ≤ 281474976710656 → Whl H' iw row' now st g (kvPut (kvDel kv n) n H.length) Ls' → Vw Ls' (offN ts n ++ [⟨n, setT now t⟩]) → H'.length = H.length + 1 → (∀ j, Mine iw Ls' j → Mine iw Ls j ∨ j = H.length) → (∀ j, j < H.length → ¬ Mine iw Ls j → H'[j]? = H[j]?) → Q (.int .i64 0) H') : PC Try.prog E 12 [.ptr (some (iw, 0)), .int .i64 n, .int .i64 t] H Q := by
  have hw := h.lnk.w
  have rm := h.rm
  have r0 := h.r0
  have hnow := h.nowle
  refine pc_enter Try.func12 rfl [] [(9, [0, 0, 0, 3, 0, 0, 3])] (by kernel_rfl) (fun hB => ?_)
  by_cases h1 : n < 0
  · have hq := hQ1 h1
    simp [Try.ntmps12, Try.results12, List.replicate_succ, hw, h1]
    exact aPost_same0 hB rfl (nilV_refl _) (by simp) hq
  by_cases h2 : 281474976710656 < t
  · have hq := hQ2 (by omega) h2
    simp [Try.ntmps12, Try.results12, List.replicate_succ, hw, h1, h2]
    exact aPost_same0 hB rfl (nilV_refl _) (by simp) hq
  simp [Try.ntmps12, Try.results12, List.replicate_succ, hw, h1, h2]
  refine PC.bnd (stop_vw E _ h hv n hn (fun H' row' Ls' hW hV hsub hl hf hB' _ => ?_))
  have hw' := hW.lnk.w
  have hwl := ltX hw'
  have rm' := hW.rm
  have r0' := hW.r0
  have hA := fun J : Hp => getA (J := J) hw'
  have w1 : IntKind.i64.wrap ((now : Int) + 1) = now + 1 := wrap_in (by omega) (by omega)
  have few1 : (kvDel kv n).length < 1000000000 := Nat.lt_of_le_of_lt (List.length_filter_le ..) few
  have few' : (kvDel kv n).length < maxLen := by unfold maxLen; omega
  have hl579 := hW.lnk.l
  have hiw : H'.length ≠ iw := by omega
  have hlts : ∀ s, s < 576 → ∀ y ∈ Ls' s, y.i ≠ H'.length := fun s hs y hy e => by have := hW.lnk.lt hs hy; omega
  obtain ⟨rowP, hrP⟩ : ∃ r, row'.set 578 (.ob (mapOb Try.prog 3 g (kvPut (kvDel kv n) n H'.length))) = r := ⟨_, rfl⟩
  have hLK : ∀ c, Lnk ((H' ++ [c]).set iw rowP) iw rowP Ls' := fun c => by rw [← hrP]; exact (hW.lnk.grow [c]).cell (.inr (Nat.le_refl _)) _
  have hr0 : rowP[0]? = some (.int .i64 now) := by rw [← hrP, List.getElem?_set_ne (by omega)]; exact r0'
  have hcell : ∀ c, ((H' ++ [c]).set iw rowP)[H'.length]? = some c := fun c => by rw [getNX (Ne.symm hiw)]; simp
  have fin : ∀ (tt : Nat) (k s : Nat) (K2 : Hp), now ≤ tt → tt ≤ 281474976710656 → (now = tt → now = 281474976710656) → setT now t = tt → t ≤ 281474976710656 → Lev tt now k → k ≤ 8 → s = k * 64 + (tt / 64 ^ k) % 64 → ∀ c, Hung ((H' ++ [c]).set iw rowP) K2 iw s rowP (Ls' s) ⟨H'.length, n, tt⟩ → K2.length = ((H' ++ [c]).set iw rowP).length → Q (.int .i64 0) K2 := by
    intro tt k s K2 a1 a2 a3 a4 a5 a6 a7 a8 c hh hl2
    have hs : s < 576 := by have := Nat.mod_lt (tt / 64 ^ k) (show 64 > 0 by decide); omega
    have hW2 := hW.hung (kvDel_at kv n) hn hlts (hLK c) hrP.symm hh hs a6 a7 a8 a1 a2 a3 few1
    have hV2 := Vw.hung (i := H'.length) (t := (tt : Int)) hV hs (offN_at ts n)
    have hmine : ∀ j, Mine iw Ls' j → Mine iw Ls j := fun j hj => by
      rcases hj with rfl | ⟨s2, hs2, y, hy, e⟩
      · exact .inl rfl
      · exact .inr ⟨s2, hs2, y, hsub s2 y hy, e⟩
    rw [hl] at hW2 hV2
    refine hQ K2 _ _ (by omega) a5 hW2 (by rw [a4]; exact hV2) (by rw [hl2]; simp [hl]) (fun j hj => ?_) (fun j hj hm => ?_)
    · rcases hj with rfl | ⟨s2, hs2, y, hy, e⟩
      · exact .inl (.inl rfl)
      · unfold updL at hy
        by_cases e2 : s2 = s
        · subst e2
          rw [if_pos rfl] at hy
          rcases List.mem_cons.1 hy with rfl | hy
          · exact .inr e.symm
          · exact .inl (hmine j (.inr ⟨s2, hs2, y, hy, e⟩))
        · rw [if_neg e2] at hy
          exact .inl (hmine j (.inr ⟨s2, hs2, y, hy, e⟩))
    · have hm' : ¬ Mine iw Ls' j := fun h => hm (hmine j h)
      rw [hh.keep j (fun e => hm (.inl e)) (by simp only; omega) (fun m hmm e => hm' (.inr ⟨s, hs, m, List.mem_of_mem_head? hmm, e.symm⟩)), getNX (fun e => hm (.inl e.symm)), List.getElem?_append_left (by omega)]
      exact hf j hm
  have e := hrP
  simp only [mapOb] at e
  by_cases h3 : t ≤ now
  · obtain ⟨tt, hset, hc⟩ : ∃ tt, setT now t = tt ∧ ((tt = now + 1 ∧ now + 1 ≤ 281474976710656) ∨ (tt = 281474976710656 ∧ ¬ now + 1 ≤ 281474976710656)) := by
      refine ⟨_, rfl, ?_⟩
      unfold setT
      rw [if_pos h3, Nat.min_def]
      split
      · rename_i hle; exact .inl ⟨rfl, hle⟩
      · rename_i hle; exact .inr ⟨rfl, hle⟩
    have hmin : (if 281474976710656 < (now : Int) + 1 then 281474976710656 else (now : Int) + 1) = (tt : Int) := by
      rcases hc with ⟨c1, c2⟩ | ⟨c1, c2⟩
      · rw [if_neg (by omega), c1]; omega
      · rw [if_pos (by omega), c1]; omega
    simp [Kcall, KP, hA, r0', h3, w1, rm', mapOb, hn, few', hmin, e]
    refine PC.bnd (hang_lnk E _ (hLK _) H'.length n tt now _ _ _ hr0 hiw (hcell _) (by omega) hnow hlts (fun k s K2 hlev hk8 hse hh hl2 hB2 _ => ?_))
    have hq := fin tt k s K2 (by omega) (by omega) (by omega) hset (by omega) hlev hk8 hse _ hh hl2
    simp [Kcall, KP]
    exact aPost_upX rfl (by rw [hl2]; simp; omega) hB2 (by simp) hq
  · obtain ⟨tt, rfl⟩ : ∃ tt : Nat, t = tt := ⟨t.toNat, by omega⟩
    simp [Kcall, KP, hA, r0', h3, w1, rm', mapOb, hn, few', e]
    refine PC.bnd (hang_lnk E _ (hLK _) H'.length n tt now _ _ _ hr0 hiw (hcell _) (by omega) hnow hlts (fun k s K2 hlev hk8 hse hh hl2 hB2 _ => ?_))
    have hq := fin tt k s K2 (by omega) (by omega) (by omega) (by unfold setT; rw [if_neg h3]; omega) (by omega) hlev hk8 hse _ hh hl2
    simp [Kcall, KP]
    exact aPost_upX rfl (by rw [hl2]; simp; omega) hB2 (by simp) hq
end
end Go.Proofs.Ytijnohcaeedffaa

set_option linter.unusedVariables false
set_option linter.unusedSimpArgs false
namespace Go.Proofs.Ytijnohcaeedffaa
open Go Go.RowKit

section
variable {P : Program} {B : List Tmp} {o : Oper} {all : Array Oper} {fr : List AV} {H : Hp} {E : Env} {W : World} {F : Nat → Prop} {Rd0 : Nat → Nat → Prop} {w : World} {β0 : Nat → Nat} {n : Nat} {pf : List Nat} {K : List AV → Hp → Prop}
end
section
variable {P : Program} {E : Env} {H : Hp}
/-- A FUNCTION, ENTERED, however its body is walked. -/
theorem pc_enterG {f : FuncId} {fn : Func} {c : Code} (hf : P.funcs[f]? = some fn) (hb : fn.body = some c) (hname : (fn.name == "runtime.NumGoroutine") = false) {args : List AV} {Q : AV → Hp → Prop}
    (h : BndH H.length H → ∀ (W : World) (F : Nat → Prop) (Rd0 : Nat → Nat → Prop) (β0 : Nat → Nat) (a : Act) (w : World), St E W F Rd0 β0 H.length (args ++ List.replicate (fn.ntmps - args.length) (.raw undef)) H a w → ∀ KC : Exit → Act → World → Prop,
      (∀ e fr H1 a w', St E W F Rd0 β0 H.length fr H1 a w' → aPost P fn.results.toList H.length Q e fr H1 → KC e a w') → c.wp P KC a w) : PC P E f args H Q := by
  refine ⟨by simp [hasB, hf, hb, hname], fun w β Rd Ow cargs hr hcell hsz hargs => ?_⟩
  refine calls_of_wp hf hb ?_
  have hS : S3 E w (fun b => b < w.heap.size ∧ (∀ i, i < H.length → β i ≠ b) ∧ Ow b = none) Rd w β Rd Ow (args ++ List.replicate (fn.ntmps - args.length) (.raw undef)) H (cargs ++ Array.replicate (fn.ntmps - cargs.size) undef) := by
    refine ⟨hr, ⟨by simp [hsz], fun t x u hx hu => ?_⟩, ⟨fun b hb => hb.1, fun _ _ => rfl, fun b hb => hb.2.2, fun b i hb hi => hb.2.1 i hi, fun _ _ _ h => h, rfl, rfl, rfl, Nat.le_refl _, fun _ _ h => ⟨h, rfl⟩⟩, fun x hx => ?_⟩
    · by_cases ht : t < args.length
      · rw [List.getElem?_append_left ht] at hx
        rw [Array.getElem?_append_left (by omega)] at hu
        obtain ⟨r1, r2, r3⟩ := hargs t x u hx hu
        exact ⟨r1, r2, fun g hg => by rw [own0_free r3] at hg; cases hg⟩
      · rw [List.getElem?_append_right (by omega), List.getElem?_replicate] at hx
        rw [Array.getElem?_append_right (by omega), Array.getElem?_replicate] at hu
        split at hx
        · cases hx
          split at hu
          · cases hu; exact ⟨.raw _, .raw _, fun g hg => by cases hg⟩
          · cases hu
        · cases hx
    · rcases List.mem_append.1 hx with h1 | h1
      · obtain ⟨j, hj⟩ := List.getElem?_of_mem h1
        have hj' : j < cargs.size := by have := (List.getElem?_eq_some_iff.1 hj).1; omega
        exact dis_free_of_free (hargs j x _ hj (Array.getElem?_eq_getElem hj')).2.2
      · rw [(List.mem_replicate.1 h1).2]; rfl
  refine h hr.bnd _ _ _ _ _ _ ⟨rfl, Nat.le_refl _, β, Rd, Ow, hS, fun _ _ => rfl⟩ _ (fun e fr H1 a w' hs hk => ?_)
  have fin : ∀ v0 v H2 H' J, a.defers = [] → ares P fr H1 fn.results.toList = some v0 → nilV v0 v → nilH H1 H2 → H2 = H' ++ J → H.length ≤ H'.length → BndH H'.length H' → Bnd H'.length v → Q v H' →
      a.defers = [] ∧ ∃ c, (results fn a.tmps).run P w' = .ok c w' ∧ ∃ c' v H' β' Rd' Ow', Ending.returned c = .returned c' ∧ Q v H' ∧ Post E w β Rd Ow H w' β' Rd' Ow' H' v c' := by
    intro v0 v H2 H' J hd hres hnv hnH hH hlen hbH hbv hq
    obtain ⟨_, _, β', Rd', Ow', hS', hβ⟩ := hs
    obtain ⟨c, Ow2, fr2, hrun, hS2, hrel0, hne0, hown0⟩ := ares_ok hS' hres
    have hS2 := hS2.nilTo (nilL_refl _) hnH
    obtain ⟨hrel, hne, hown1⟩ := nilV_ok hnv hrel0 hne0
    have hown : ∀ g, own0 v c = some g → Ow2 g = some (.slot 0) := fun g hg => hown0 g (hown1 g hg)
    have hsub : ∀ i l, H'[i]? = some l → H2[i]? = some l := fun i l hl => by rw [hH, List.getElem?_append_left (List.getElem?_eq_some_iff.1 hl).1]; exact hl
    have hle : H'.length ≤ H2.length := by rw [hH]; simp
    refine ⟨hd, c, hrun, c, v, H', β', Rd', Ow2, rfl, hq, ⟨hrel, hbv, hown, hne, ⟨fun i l hl => hS2.hr.box i l (hsub i l hl), fun i j hi hj => hS2.hr.inj i j (by omega) (by omega), fun i hi => hS2.hr.sep i (by omega), hS2.hr.ows, hS2.hr.rds, hbH, fun b hb => ?_, fun i l t hl h0 => hS2.hr.bld i l t (hsub i l hl) h0⟩,
      hβ, hlen, fun g o hg => hS2.fo.keep g o hg, fun b hb h1 h2 => ?_, hS2.fo.os, hS2.fo.tape, hS2.fo.output, hS2.fo.size⟩⟩
    · obtain ⟨f1, f2, f3, f4⟩ := hS2.hr.fix b hb
      exact ⟨f1, f2, fun i hi => f3 i (by omega), f4⟩
    · have hF : b < w.heap.size ∧ (∀ i, i < H.length → β i ≠ b) ∧ Ow b = none := ⟨hb, h1, h2⟩
      exact ⟨hS2.fo.same b hF, hS2.fo.own b hF, fun i hi => hS2.fo.box b i hF (by omega), fun o ho => hS2.fo.rd b o hF ho⟩
  obtain ⟨hd, _⟩ := hs
  cases e with
  | normal =>
    obtain ⟨v0, v, H2, H', J, h1, h2, h2', h3, h4, h5, h6, h7⟩ := hk
    exact fin v0 v H2 H' J hd h1 h2 h2' h3 h4 h5 h6 h7
  | ret =>
    obtain ⟨v0, v, H2, H', J, h1, h2, h2', h3, h4, h5, h6, h7⟩ := hk
    exact fin v0 v H2 H' J hd h1 h2 h2' h3 h4 h5 h6 h7
  | _ => exact hk.elim
end
end Go.Proofs.Ytijnohcaeedffaa

set_option linter.unusedVariables false
set_option linter.unnecessarySimpa false
set_option linter.unusedSimpArgs false
set_option maxRecDepth 100000
namespace Go.Proofs.Ytijnohcaeedffaa
open Go Go.RowKit
open Go.Maps (Keyed has)

/-- Block g as it is, held in a cell. -/
def fixOb (g : Nat) (o : Obj) : Ob where
  N := 0
  M := fun w _ v => v = .map (some g) ∧ w.heap[g]? = some o
  own := ownM
  keep := fun w w' β β' v ⟨hv, hg⟩ hk _ => by
    subst hv
    exact ⟨rfl, (hk g rfl).trans hg⟩
  one := fun w β v ⟨hv, _⟩ => by subst hv; rfl
section
variable {P : Program} {E : Env} {W : World} {F F' : Nat → Prop} {Rd0 : Nat → Nat → Prop} {w w' : World} {β β' β0 : Nat → Nat} {Rd Rd' : Nat → Nat → Prop} {Ow Ow' : Nat → Option Hold} {fr fr' : List AV} {H H' : Hp} {tmps : Array Value} {N N' n r g i p : Nat}
theorem FO.trans (h1 : FO W F Rd0 w β Rd Ow N) (h2 : FO w F' Rd w' β' Rd' Ow' N') (hF : ∀ b, F b → F' b) : FO W F Rd0 w' β' Rd' Ow' N' :=
  ⟨h1.lt, fun b hb => (h2.same b (hF b hb)).trans (h1.same b hb), fun b hb => h2.own b (hF b hb), fun b i hb hi => h2.box b i (hF b hb) hi, fun b o hb ho => h1.rd b o hb (h2.rd b o (hF b hb) ho),
    h2.os.trans h1.os, h2.tape.trans h1.tape, h2.output.trans h1.output, Nat.le_trans h1.size h2.size, fun g o hg => by
      obtain ⟨k1, k2⟩ := h1.keep g o hg
      obtain ⟨k3, k4⟩ := h2.keep g o k1
      exact ⟨k3, k4.trans k2⟩⟩
/-- A block beside all that is held turns. -/
theorem S3.beside (h : S3 E W F Rd0 w β Rd Ow fr H tmps) (hr : Ow r = none) (hlt : r < w.heap.size) (hbox : ∀ i, i < H.length → β i ≠ r) (hrd : ∀ o, ¬ Rd r o) (hF : ¬ F r) (hE : ¬ E.Fix r) (hg : w.grownBy w' (some r)) : S3 E W F Rd0 w' β Rd Ow fr H tmps := by
  have h1 := h.claim hr (.slot 0) hlt hbox hF hE
  have no1 : ∀ (t : Nat) x u g, fr[t]? = some x → tmps[t]? = some u → own0 x u = some g → g ≠ r := fun t x u g hx hu hg e => by
    have := (h.ff.rel t x u hx hu).2.2 g hg
    rw [e, hr] at this; cases this
  have no2 : ∀ (i j : Nat) l x u T cs g, H[i]? = some l → l[j]? = some x → w.heap[β i]? = some (.cells cs T (0, 0)) → cs[j]? = some u → own0 x u = some g → g ≠ r := fun i j l x u T cs g hl hx hb hu hg e => by
    obtain ⟨T', cs', c1, c2, c3⟩ := h.hr.box i l hl
    rw [hb] at c1; cases c1
    have := (c3 j x u hx hu).2.2 g hg
    rw [e, hr] at this; cases this
  have hne : ∀ b, b ≠ r → some b ≠ some r := fun b hb e => hb (by injection e)
  have h2 := h1.moveG (w' := w') (Rd' := Rd) (fun b => b = r) (fun b hb => ⟨.slot 0, by rw [hb, upd_same]⟩) no1 no2
    (fun g o ho => ⟨ho, World.cell?_of_block (a := ⟨g, o, none⟩) (hg.block g (h.hr.rds g o ho) (hne g fun e => hrd o (e ▸ ho)))⟩) (fun b hb hbr => ⟨hg.block b hb (hne b hbr), fun _ ho => ho⟩) (fun g o ho => Nat.lt_of_lt_of_le (h.hr.rds g o ho) hg.size) hg.size hg.os hg.tape hg.output
  have hne0 : ∀ i, i < H.length → β i ≠ r := hbox
  have h3 := h2.relabel (g := r) (k := .slot 0) (by rw [upd_same]) none (fun t x u hx hu e => no1 t x u r hx hu e rfl) (fun i j l x u T cs hl hx hb hu e => by
    have hi := at_ltA hl
    obtain ⟨T', cs', c1, c2, c3⟩ := h.hr.box i l hl
    have hb2 := (hg.block (β i) ((Array.getElem?_eq_some_iff.1 c1).1) (hne _ (hbox i hi))).trans c1
    rw [hb] at hb2; cases hb2
    exact no2 i j l x u _ _ r hl hx c1 hu e rfl)
  have e : upd (upd Ow r (some (.slot 0))) r none = Ow := by
    funext b
    by_cases hb : b = r
    · subst hb; rw [upd_same, hr]
    · rw [upd_other hb, upd_other hb]
  rw [e] at h3
  exact h3
/-- A RANGE OVER THE MAP OF BLOCK g UNDER WAY: r the iterator's block, L what is still to come. -/
def RS (P : Program) (E : Env) (W : World) (F : Nat → Prop) (Rd0 : Nat → Nat → Prop) (β0 : Nat → Nat) (n : Nat) (k : TypeId) (i p g r : Nat) (kv : List (Int × Nat)) (o : Obj) (L : List (Int × Nat)) (fr : List AV) (H : Hp) (a : Act) (w : World) : Prop :=
  a.defers = [] ∧ n ≤ H.length ∧ (∃ row, H[i]? = some row ∧ row[p]? = some (.ob (fixOb g o))) ∧ kvN kv ≤ H.length ∧ ∃ β Rd Ow D left cnt, S3 E W F Rd0 w β Rd Ow fr H a.tmps ∧ (∀ j, j < n → β j = β0 j) ∧ Ow r = none ∧ (∀ j, j < H.length → β j ≠ r) ∧ (∀ q, ¬ Rd r q) ∧ ¬ F r ∧ ¬ E.Fix r ∧
    w.ranges P k ptrEl g r kv.length D left cnt ∧ (∀ z, left (.int .i64 z) = (kvAt L z).isSome) ∧ Maps.size D = kv.length ∧ (∀ z, has D (.int .i64 z) = (kvAt kv z).isSome) ∧ ∀ z j, kvAt kv z = some j → ∀ y, D.atKey (.int .i64 z) y = .lit (.int .u64 (β j))
variable {k : TypeId} {kv L : List (Int × Nat)} {o : Obj} {a : Act}
theorem ranges_same {D : DataW Unit} {m : Nat} {left : Lit → Bool} {cnt : Nat} (h : w.ranges P k ptrEl g r m D left cnt) (hg : w'.heap[g]? = w.heap[g]?) (hr : w'.heap[r]? = w.heap[r]?) : w'.ranges P k ptrEl g r m D left cnt := by
  obtain ⟨es, clock, since, seen, c0, hb, F, hs, hD, hit, rest⟩ := h
  exact ⟨es, clock, since, seen, c0, hg.trans hb, F, hs, hD, hr.trans hit, rest⟩
theorem S3.fixed (h : S3 E W F Rd0 w β Rd Ow fr H tmps) (hc : ∃ row, H[i]? = some row ∧ row[p]? = some (.ob (fixOb g o))) : w.heap[g]? = some o ∧ Ow g = some (.cell i p) ∧ ∃ row T cs, H[i]? = some row ∧ row[p]? = some (.ob (fixOb g o)) ∧ w.heap[β i]? = some (.cells cs T (0, 0)) ∧ cs[p]? = some (.map (some g)) := by
  obtain ⟨row, h1, h2⟩ := hc
  obtain ⟨T, cs, v, hb, hs, hv, ⟨rfl, hM⟩, ho⟩ := h.hr.ob h1 h2
  exact ⟨hM, (ho g rfl).1, row, T, cs, h1, h2, hb, hv⟩
/-- Steps that know nothing of the range leave it as it is. -/
theorem RS.split (h : RS P E W F Rd0 β0 n k i p g r kv o L fr H a w) : ∃ F' Rd' β', St E w F' Rd' β' H.length fr H a w ∧ ∀ fr' H' a' w', St E w F' Rd' β' H.length fr' H' a' w' → (∃ row, H'[i]? = some row ∧ row[p]? = some (.ob (fixOb g o))) → RS P E W F Rd0 β0 n k i p g r kv o L fr' H' a' w' ∧ w'.rangeLeft g r = w.rangeLeft g r := by
  obtain ⟨hd, hn, hc, hkn, β, Rd, Ow, D, left, cnt, hS, hβ, q1, q2, q3, q4, q5, hrg, hl, hsz, hhas, hat⟩ := h
  have hS' : S3 E w (fun b => F b ∨ b = r) Rd w β Rd Ow fr H a.tmps := by
    refine ⟨hS.hr, hS.ff, ⟨fun b hb => ?_, fun _ _ => rfl, fun b hb => ?_, fun b j hb hj => ?_, fun _ _ _ h => h, rfl, rfl, rfl, Nat.le_refl _, fun _ _ h => ⟨h, rfl⟩⟩, hS.ne⟩
    · rcases hb with hb | rfl
      · exact Nat.lt_of_lt_of_le (hS.fo.lt b hb) hS.fo.size
      · exact hrg.lt
    · rcases hb with hb | rfl
      · exact hS.fo.own b hb
      · exact q1
    · rcases hb with hb | rfl
      · exact hS.fo.box b j hb hj
      · exact q2 j hj
  refine ⟨_, Rd, β, ⟨hd, Nat.le_refl _, β, Rd, Ow, hS', fun _ _ => rfl⟩, ?_⟩
  rintro fr' H' a' w' ⟨hd', hn', β', Rd', Ow', hS2, hβ'⟩ hc'
  have hg0 := (hS.fixed hc).1
  have hg1 := (hS2.fixed hc').1
  refine ⟨⟨hd', Nat.le_trans hn hn', hc', Nat.le_trans hkn hn', β', Rd', Ow', D, left, cnt, ⟨hS2.hr, hS2.ff, hS.fo.trans hS2.fo fun b hb => .inl hb, hS2.ne⟩, fun j hj => (hβ' j (by omega)).trans (hβ j hj), hS2.fo.own r (.inr rfl), fun j hj => hS2.fo.box r j (.inr rfl) hj, fun q hq => q3 q (hS2.fo.rd r q (.inr rfl) hq), q4, q5,
    ranges_same hrg (hg1.trans hg0.symm) (hS2.fo.same r (.inr rfl)), hl, hsz, hhas, fun z j hz y => ?_⟩, ?_⟩
  · rw [hβ' j (Nat.lt_of_lt_of_le (kvN_lt (kvAt_mem hz)) hkn)]
    exact hat z j hz y
  · unfold World.rangeLeft
    rw [hg1, hg0, hS2.fo.same r (.inr rfl)]
/-- The map may be read and written again. -/
theorem RS.free (h : RS P E W F Rd0 β0 n k i p g r kv o L fr H a w) (hkv : kvOk kv) : St E W F Rd0 β0 n fr (H.set i ((H.getD i []).set p (.ob (mapOb P k g kv)))) a w := by
  obtain ⟨hd, hn, hc, hkn, β, Rd, Ow, D, left, cnt, hS, hβ, q1, q2, q3, q4, q5, hrg, hl, hsz, hhas, hat⟩ := h
  obtain ⟨e1, e2, row, T, cs, h1, h2, h3, h4⟩ := hS.fixed hc
  have hgd : H.getD i [] = row := by simp [List.getD, h1]
  rw [hgd]
  exact ⟨hd, by simpa using hn, β, Rd, Ow, hS.putOb h1 h2 h3 h4 rfl (OnlyB.refl g w) ⟨rfl, hkv, g, D, rfl, hrg.owns, hsz, hhas, hat⟩ rfl hkn, hβ⟩
theorem RS.tmp (h : RS P E W F Rd0 β0 n k i p g r kv o L fr H a w) {t : Nat} {v : Value} (hv : fr[t]? = some (.raw v)) : a.tmps[t]? = some v := by
  obtain ⟨hd, hn, hc, hkn, β, Rd, Ow, D, left, cnt, hS, _⟩ := h
  have ht : t < a.tmps.size := by rw [← hS.ff.len]; exact at_ltA hv
  have := (hS.ff.rel t _ _ hv (Array.getElem?_eq_getElem ht)).1
  cases this
  exact Array.getElem?_eq_getElem ht
theorem RS.put (h : RS P E W F Rd0 β0 n k i p g r kv o L fr H a w) (d : Nat) {x : AV} {v : Value} (hr : ∀ β Rd Ow, S3 E W F Rd0 w β Rd Ow fr H a.tmps → Rel w β Rd x v) (hB : Bnd H.length x) (hf : x.free = true) : RS P E W F Rd0 β0 n k i p g r kv o L (fr.set d x) H (a.put (some d) v) w := by
  obtain ⟨hd, hn, hc, hkn, β, Rd, Ow, D, left, cnt, hS, hrest⟩ := h
  exact ⟨hd, hn, hc, hkn, β, Rd, Ow, D, left, cnt, hS.aput (some d) rfl (hr _ _ _ hS) hB (dis_free_of_free hf) (fun g hg => by rw [own0_free hf] at hg; cases hg), hrest⟩
theorem eval_at {t : Nat} {v : Value} (h : a.tmps[t]? = some v) : a.eval (.tmp t) = v := by
  show a.tmps.getD t undef = v
  rw [Array.getD_eq_getD_getElem?, h]; rfl
theorem put_at {d : Nat} {v : Value} (h : d < a.tmps.size) : (a.put (some d) v).tmps[d]? = some v := by simp [Act.put, h]
theorem put_ne {d t : Nat} {v : Value} (h : d ≠ t) : (a.put (some d) v).tmps[t]? = a.tmps[t]? := by simp [Act.put, Array.getElem?_setIfInBounds_ne h]
theorem put_size {d : Nat} {v : Value} : (a.put (some d) v).tmps.size = a.tmps.size := by simp [Act.put]
section
variable {ops : Array Oper} {Q : Exit → Act → World → Prop} {rest : List Oper} {op : Oper}
theorem extract_op {d j e : Nat} {vs : Array Value} {v : Value} (hop : op.op = .extract (.tmp d) j) (hd : op.dst = some e) (hg : op.guard = none) (hv : a.tmps[d]? = some (.tuple vs)) (hj : vs[j]? = some v) (h : wpList P ops Q rest (a.put (some e) v) w) : wpList P ops Q (op :: rest) a w := by
  refine wpList_plain hg fun K' hK' => ?_
  unfold Oper.wp
  simp [execOp, hop, eval_at hv, Instr.extract, hj, hd, Result.andThen]
  exact hK' _ _ (hd ▸ h)
theorem assign_op {d e : Nat} {v : Value} (hop : op.op = .assign (.tmp d)) (hd : op.dst = some e) (hg : op.guard = none) (hv : a.tmps[d]? = some v) (h : wpList P ops Q rest (a.put (some e) v) w) : wpList P ops Q (op :: rest) a w := by
  refine wpList_plain hg fun K' hK' => ?_
  unfold Oper.wp
  simp [execOp, hop, eval_at hv, hd, Result.andThen]
  exact hK' _ _ (hd ▸ h)
theorem entry_op {d e : Nat} {x v : Value} (hop : op.op = .entry (.tmp d)) (hd : op.dst = some e) (hg : op.guard = none) (hv : a.tmps[d]? = some x) (hrun : (Instr.entry x).run P w = .ok v w) (h : wpList P ops Q rest (a.put (some e) v) w) : wpList P ops Q (op :: rest) a w := by
  refine wpList_plain hg fun K' hK' => ?_
  unfold Oper.wp
  simp [execOp, hop, eval_at hv, hd, hrun, Result.andThen]
  exact hK' _ _ (hd ▸ h)
/-- 'range m'. -/
theorem range_op {t : TypeId} {x : Operand} {it : Nat} (hop : op.op = .range t x) (hd : op.dst = some it) (hg : op.guard = none) (hs : St E W F Rd0 β0 n fr H a w) (hx : aeval fr x = .mh i p g) (hax : axm H i p g = some (P, k, kv)) (ht : tmapI P t = some k)
    (hK : ∀ r o w', kvOk kv → RS P E W F Rd0 β0 n k i p g r kv o kv (fr.set it (.raw (.pointer (some ⟨r, 0, none⟩)))) (H.set i ((H.getD i []).set p (.ob (fixOb g o)))) (a.put (some it) (.pointer (some ⟨r, 0, none⟩))) w' → wpList P ops Q rest (a.put (some it) (.pointer (some ⟨r, 0, none⟩))) w') : wpList P ops Q (op :: rest) a w := by
  obtain ⟨hdf, hn, β, Rd, Ow, hS, hβ⟩ := hs
  obtain ⟨l, X, T, cs, hl, hX, hb, hv, hO, hk, ⟨g', D, hgv, hown, hsz, hhas, hat⟩, hN⟩ := axm_ok hS hax
  cases hgv
  obtain ⟨e, hu, hki, _⟩ := tmapI_spec ht
  have hgd : H.getD i [] = l := by simp [List.getD, hl]
  have hev : a.eval x = .map (some g) := by
    have := (hS.eval rfl x).1
    rw [hx] at this
    exact rel_mh this
  refine wpList_range_own w hg x t hop k e (Maps.int_keyed hki) hu ptrEl g kv.length D hev hown (fun w' hrg hgr hsz' => ?_)
  rw [hd]
  obtain ⟨o, ho⟩ : ∃ o, w'.heap[g]? = some o := by
    have := hrg.owns.lt
    exact ⟨_, Array.getElem?_eq_getElem this⟩
  have hsame : ∀ b, b < w.heap.size → w'.heap[b]? = w.heap[b]? := fun b hb => hgr.block b hb (by simp)
  have hS1 : S3 E W F Rd0 w' β Rd Ow fr H a.tmps := hS.move (fun g o hg => ⟨hg, World.cell?_of_block (a := ⟨g, o, none⟩) (hsame g (hS.hr.rds g o hg))⟩) (fun b hb => ⟨hsame b hb, fun _ h => h⟩) (fun g o hg => Nat.lt_of_lt_of_le (hS.hr.rds g o hg) hgr.size) hgr.size hgr.os hgr.tape hgr.output
  have hb1 : w'.heap[β i]? = some (.cells cs T (0, 0)) := (hsame _ (Array.getElem?_eq_some_iff.1 hb).1).trans hb
  have hS2 := hS1.putOb hl hX hb1 hv hO (OnlyB.refl g w') (X' := fixOb g o) ⟨rfl, ho⟩ rfl (Nat.zero_le _)
  rw [← hgd] at hS2
  have hil := at_ltA hl
  have hpl := at_ltA hX
  have hlen : (H.set i ((H.getD i []).set p (.ob (fixOb g o)))).length = H.length := List.length_set ..
  refine hK w.heap.size o w' hk ⟨hdf, by rw [hlen]; exact hn, ⟨_, List.getElem?_set_self hil, by rw [hgd, List.getElem?_set_self hpl]⟩, by rw [hlen]; exact kvN_le hN, β, Rd, Ow, D, has D, Maps.size D, hS2.aput (some it) rfl (.raw _) (.raw _) rfl (fun g hg => by cases hg), hβ, ?_, fun j hj e => ?_, fun q hq => ?_, fun hF => ?_, fun hF => ?_, hrg, hhas, hsz, hhas, hat⟩
  · cases ho2 : Ow w.heap.size with
    | none => rfl
    | some h => exact absurd (hS.hr.ows _ _ ho2) (Nat.lt_irrefl _)
  · rw [hlen] at hj
    obtain ⟨T', cs', c1, _⟩ := hS.hr.box j _ (List.getElem?_eq_getElem hj)
    have := (Array.getElem?_eq_some_iff.1 c1).1
    omega
  · exact absurd (hS.hr.rds _ _ hq) (Nat.lt_irrefl _)
  · have h1 := hS.fo.lt _ hF
    have h2 := hS.fo.size
    omega
  · exact absurd (hS.hr.fix _ hF).2.2.2 (Nat.lt_irrefl _)
def ptrO : Option Nat → Value
  | some b => .pointer (some ⟨b, 0, none⟩)
  | none => .pointer none
theorem ptrEl_inv {v : Value} {y : DataW Unit × List MemPlace} (h : ptrEl v = some y) : ∃ c, v = ptrO c := by
  unfold ptrEl at h
  split at h
  · exact ⟨some _, rfl⟩
  · exact ⟨none, rfl⟩
  · cases h
/-- The step. -/
theorem next_op {t : TypeId} {it d1 : Nat} (hop : op.op = .next (.tmp it) false) (hd : op.dst = some d1) (hg : op.guard = none) (h : RS P E W F Rd0 β0 n k i p g r kv o L fr H a w) (hit : fr[it]? = some (.raw (.pointer (some ⟨r, 0, none⟩)))) (hLk : ∀ q ∈ L, q ∈ kv) (hkv : kvOk kv) (hL : kvOk L) (ht : tmapI P t = some k)
    (hDone : L = [] → RS P E W F Rd0 β0 n k i p g r kv o L (fr.set d1 (.tup [.bool false])) H (a.put (some d1) (.tuple #[.bool false])) w → wpList P ops Q rest (a.put (some d1) (.tuple #[.bool false])) w)
    (hMore : ∀ z j c w', (z, j) ∈ L → okKey z → w'.rangeLeft g r < w.rangeLeft g r → (Instr.entry (.pointer (some ⟨r, 0, none⟩))).run P w' = .ok (.tuple #[.int .i64 z, c]) w' →
      RS P E W F Rd0 β0 n k i p g r kv o (kvDel L z) (fr.set d1 (.tup [.bool true, .int .i64 z, .ptr (some (j, 0))])) H (a.put (some d1) (.tuple #[.bool true, .int .i64 z, c])) w' → wpList P ops Q rest (a.put (some d1) (.tuple #[.bool true, .int .i64 z, c])) w') : wpList P ops Q (op :: rest) a w := by
  have h0 := h
  obtain ⟨hdf, hn, hcell, hkn, β, Rd, Ow, D, left, cnt, hS, hβ, q1, q2, q3, q4, q5, hrg, hl, hsz, hhas, hat⟩ := h
  obtain ⟨e, hu, hki, _⟩ := tmapI_spec ht
  have hev := eval_at (h0.tmp hit)
  refine wpList_next_ranges w hg (.tmp it) hop k (Maps.int_keyed hki) ptrEl (Value.int .i64) ptrO (fun key kl hkey => by obtain ⟨x, rfl, _⟩ := Maps.keyOf_int_inv hki hkey; exact ⟨x, rfl⟩) (fun v y hv => ptrEl_inv hv) g r kv.length D left cnt hev hrg (fun hc0 hno => ?_) (fun z c kl y w' cnt' hkey hlk hv hatk hrg' hlt hgr hsz' hen => ?_)
  · rw [hd]
    have hL0 : L = [] := by
      cases L with
      | nil => rfl
      | cons q L =>
        have h1 := hno (.int .i64 q.1)
        rw [hl, kvAt_of hL (n := q.1) (i := q.2) (List.mem_cons_self ..)] at h1
        cases h1
    exact hDone hL0 (h0.put d1 (fun β Rd Ow _ => .tup _ _ rfl (by simp [AV.free]) fun j x u hx hu => by
      cases j with
      | zero => simp at hx hu; subst hx; subst hu; exact .bool _
      | succ j => simp at hx) (.tup _ (by simp)) rfl)
  · rw [hd]
    obtain ⟨z', ez, rfl, hwf⟩ := Maps.keyOf_int_inv hki hkey
    cases ez
    have hz : okKey z := by
      simp [Lit.wf, IntKind.min, IntKind.max, IntKind.signed, IntKind.bits] at hwf
      unfold okKey; omega
    rw [hl] at hlk
    obtain ⟨j, hj⟩ := Option.isSome_iff_exists.1 hlk
    have hm := kvAt_mem hj
    have hk := kvAt_of hkv (hLk _ hm)
    have hy := hatk .nil
    rw [hat z j hk] at hy
    have hc : ptrO c = .pointer (some ⟨β j, 0, none⟩) := ptrEl_lit (b := β j) (ps := y.2) (by rw [hv, hy])
    have hjl : j < H.length := Nat.lt_of_lt_of_le (kvN_lt (hLk _ hm)) hkn
    have hS1 := hS.beside q1 hrg.lt q2 q3 q4 q5 hgr
    refine hMore z j (ptrO c) w' hm hz (by rw [hrg'.left_eq, hrg.left_eq]; exact hlt) hen ?_
    have hleft : ∀ z', (left (.int .i64 z') && !(Lit.int .i64 z').sameKey (.int .i64 z)) = (kvAt (kvDel L z) z').isSome := fun z' => by
      rw [kvAt_del, hl]
      by_cases e : z' = z
      · subst e
        simp [Lit.sameKey]
      · rw [if_neg e]
        have : Lit.sameKey (.int .i64 z') (.int .i64 z) = false := by simp [Lit.sameKey, e]
        rw [this]; simp
    rw [hc]
    refine ⟨hdf, hn, hcell, hkn, β, Rd, Ow, D, _, cnt', hS1.aput (some d1) rfl (.tup _ _ rfl (by simp [AV.free]) fun m x u hx hu => ?_) (.tup _ fun x hx => ?_) rfl (fun g hg => by cases hg), hβ, q1, q2, q3, q4, q5, hrg', hleft, hsz, hhas, hat⟩
    · match m with
      | 0 => simp at hx hu; subst hx; subst hu; exact .bool _
      | 1 => simp at hx hu; subst hx; subst hu; exact .int _ _
      | 2 => simp at hx hu; subst hx; subst hu; exact .ptr _ _
      | m + 3 => simp at hx
    · simp at hx
      rcases hx with rfl | rfl | rfl
      · exact .bool _
      · exact .int _ _
      · exact .ptr _ _ hjl
end
/-- A range over a map, its body BODY. -/
def rngCode (b0 i5 b1 i6 d2 : Nat) (ops5 ops6 : Array Oper) (BODY : Code) : Code := .block b0 (.loop (.seq (.region i5 ops5 false) (.seq (.cond (.tmp d2) .skip (.exit b0)) (.block b1 (.seq (.region i6 ops6 false) BODY)))))
/-- THE RANGE, behind 'range m'. -/
theorem wp_rng (hm : P.follows .mixedOrders = true) {B : List Tmp} {ND : List (Nat × List Nat)} (hzf : noFrz ND = true) {b0 i5 b1 i6 it d1 d2 d3 d4 d5 : Nat} {ops5 ops6 : Array Oper} {o1 o2 o3 o4 o5 : Oper} {BODY : Code} (e5 : ops5.toList = [o1, o2]) (e6 : ops6.toList = [o3, o4, o5]) (hreg : regsB B ND BODY = true)
    (c1 : o1.op = .next (.tmp it) false ∧ o1.dst = some d1 ∧ o1.guard = none) (c2 : o2.op = .extract (.tmp d1) 0 ∧ o2.dst = some d2 ∧ o2.guard = none) (c3 : o3.op = .entry (.tmp it) ∧ o3.dst = some d3 ∧ o3.guard = none) (c4 : o4.op = .extract (.tmp d3) 1 ∧ o4.dst = some d4 ∧ o4.guard = none) (c5 : o5.op = .assign (.tmp d4) ∧ o5.dst = some d5 ∧ o5.guard = none)
    (hdis : d1 ≠ it ∧ d2 ≠ it ∧ d2 ≠ d1 ∧ d3 ≠ d1 ∧ d3 ≠ it) {N : Nat} (hN : it < N ∧ d1 < N ∧ d2 < N ∧ d3 < N ∧ d4 < N) {t : TypeId} (ht : tmapI P t = some k) (hkv : kvOk kv)
    (I : Obj → Value → List (Int × Nat) → List AV → Hp → Prop) (Kx : List AV → Hp → Prop) {KC : Exit → Act → World → Prop} (v : Value) (hv : v = .pointer (some ⟨r, 0, none⟩))
    (hI : ∀ L fr H, I o v L fr H → fr.length = N ∧ fr[it]? = some (.raw v) ∧ ∃ row, H[i]? = some row ∧ row[p]? = some (.ob (fixOb g o)))
    (hr : ∀ L fr H z j, I o v L fr H → kvOk L → (z, j) ∈ L → (z, j) ∈ kv → okKey z → vc P E B ND BODY (fun e fr' H' => e = .normal ∧ I o v (kvDel L z) fr' H') (((((fr.set d1 (.tup [.bool true, .int .i64 z, .ptr (some (j, 0))])).set d2 (.bool true)).set d3 (.tup [.int .i64 z, .ptr (some (j, 0))])).set d4 (.ptr (some (j, 0)))).set d5 (.ptr (some (j, 0)))) H)
    (hD : ∀ fr H, I o v [] fr H → Kx ((fr.set d1 (.tup [.bool false])).set d2 (.bool false)) (H.set i ((H.getD i []).set p (.ob (mapOb P k g kv)))))
    (hK : ∀ fr H a w, St E W F Rd0 β0 n fr H a w → Kx fr H → KC .normal a w)
    (hs : RS P E W F Rd0 β0 n k i p g r kv o kv fr H a w) (h0 : I o v kv fr H) : (rngCode b0 i5 b1 i6 d2 ops5 ops6 BODY).wp P KC a w := by
  subst hv
  unfold rngCode
  refine wp_block (wp_loop (fun a w => ∃ L fr H, RS P E W F Rd0 β0 n k i p g r kv o L fr H a w ∧ (∀ q ∈ L, q ∈ kv) ∧ kvOk L ∧ I o (.pointer (some ⟨r, 0, none⟩)) L fr H) (fun _ w => w.rangeLeft g r) ⟨kv, fr, H, hs, fun _ h => h, hkv, h0⟩ ?_)
  rintro a w ⟨L, fr, H, hs, hLk, hL, hi⟩
  obtain ⟨hfl, hit, hcl⟩ := hI L fr H hi
  have hsz : a.tmps.size = N := by
    obtain ⟨_, _, _, _, _, _, _, _, _, _, hS, _⟩ := hs
    rw [← hS.ff.len]; exact hfl
  refine wp_seq (wp_region_list ?_)
  rw [e5]
  refine next_op c1.1 c1.2.1 c1.2.2 hs hit hLk hkv hL ht (fun hL0 h1 => ?_) (fun z j c w' hzj hz hlt hen h1 => ?_)
  · subst hL0
    refine extract_op c2.1 c2.2.1 c2.2.2 (put_at (by omega)) (v := .bool false) rfl ?_
    have h2 := h1.put d2 (x := .bool false) (v := .bool false) (fun _ _ _ _ => .bool _) (.bool _) rfl
    refine wp_seq (wp_cond_false (eval_at (put_at (by rw [put_size]; omega))) (wp_exit ?_))
    show (if b0 = b0 then _ else _)
    rw [if_pos rfl]
    exact hK _ _ _ _ (h2.free hkv) (hD _ _ hi)
  · refine extract_op c2.1 c2.2.1 c2.2.2 (put_at (by omega)) (v := .bool true) rfl ?_
    have h2 := h1.put d2 (x := .bool true) (v := .bool true) (fun _ _ _ _ => .bool _) (.bool _) rfl
    refine wp_seq (wp_cond_true (eval_at (put_at (by rw [put_size]; omega))) (wp_skip ?_))
    refine wp_block (wp_seq (wp_region_list ?_))
    rw [e6]
    have hl1 : (fr.set d1 (.tup [.bool true, .int .i64 z, .ptr (some (j, 0))])).set d2 (.bool true) = _ := rfl
    have f1 : ((fr.set d1 (.tup [.bool true, .int .i64 z, .ptr (some (j, 0))])).set d2 (.bool true))[d1]? = some (.tup [.bool true, .int .i64 z, .ptr (some (j, 0))]) := by
      rw [List.getElem?_set_ne hdis.2.2.1, List.getElem?_set_self (by omega)]
    have f2 : ((fr.set d1 (.tup [.bool true, .int .i64 z, .ptr (some (j, 0))])).set d2 (.bool true))[it]? = some (.raw (.pointer (some ⟨r, 0, none⟩))) := by
      rw [List.getElem?_set_ne hdis.2.1, List.getElem?_set_ne hdis.1]; exact hit
    have t1 : ((a.put (some d1) (.tuple #[.bool true, .int .i64 z, c])).put (some d2) (.bool true)).tmps[d1]? = some (.tuple #[.bool true, .int .i64 z, c]) := by
      rw [put_ne hdis.2.2.1]; exact put_at (by omega)
    have hjl : Bnd H.length (.ptr (some (j, 0))) := by
      obtain ⟨_, _, _, hkn, _⟩ := hs
      exact .ptr _ _ (Nat.lt_of_lt_of_le (kvN_lt (hLk _ hzj)) hkn)
    have comp : ∀ β Rd Ow, S3 E W F Rd0 w' β Rd Ow ((fr.set d1 (.tup [.bool true, .int .i64 z, .ptr (some (j, 0))])).set d2 (.bool true)) H ((a.put (some d1) (.tuple #[.bool true, .int .i64 z, c])).put (some d2) (.bool true)).tmps → Rel w' β Rd (.ptr (some (j, 0))) c := fun β Rd Ow hS => by
      have := (hS.ff.rel d1 _ _ f1 t1).1
      cases this with
      | tup _ _ _ _ hr => exact hr 2 _ _ rfl rfl
    refine entry_op c3.1 c3.2.1 c3.2.2 (h2.tmp f2) hen ?_
    have h3 := h2.put d3 (x := .tup [.int .i64 z, .ptr (some (j, 0))]) (v := .tuple #[.int .i64 z, c]) (fun β Rd Ow hS => .tup _ _ rfl (by simp [AV.free]) fun m x u hx hu => by
      match m with
      | 0 => simp at hx hu; subst hx; subst hu; exact .int _ _
      | 1 => simp at hx hu; subst hx; subst hu; exact comp β Rd Ow hS
      | m + 2 => simp at hx) (.tup _ fun x hx => by
      simp at hx
      rcases hx with rfl | rfl
      · exact .int _ _
      · exact hjl) rfl
    refine extract_op c4.1 c4.2.1 c4.2.2 (put_at (by rw [put_size, put_size]; omega)) (v := c) rfl ?_
    have f3 : (((fr.set d1 (.tup [.bool true, .int .i64 z, .ptr (some (j, 0))])).set d2 (.bool true)).set d3 (.tup [.int .i64 z, .ptr (some (j, 0))]))[d1]? = some (.tup [.bool true, .int .i64 z, .ptr (some (j, 0))]) := by
      rw [List.getElem?_set_ne hdis.2.2.2.1]; exact f1
    have t3 : (((a.put (some d1) (.tuple #[.bool true, .int .i64 z, c])).put (some d2) (.bool true)).put (some d3) (.tuple #[.int .i64 z, c])).tmps[d1]? = some (.tuple #[.bool true, .int .i64 z, c]) := by
      rw [put_ne hdis.2.2.2.1]; exact t1
    have h4 := h3.put d4 (x := .ptr (some (j, 0))) (v := c) (fun β Rd Ow hS => by
      have := (hS.ff.rel d1 _ _ f3 t3).1
      cases this with
      | tup _ _ _ _ hr => exact hr 2 _ _ rfl rfl) hjl rfl
    refine assign_op c5.1 c5.2.1 c5.2.2 (put_at (by rw [put_size, put_size, put_size]; omega)) ?_
    have f4 : ((((fr.set d1 (.tup [.bool true, .int .i64 z, .ptr (some (j, 0))])).set d2 (.bool true)).set d3 (.tup [.int .i64 z, .ptr (some (j, 0))])).set d4 (.ptr (some (j, 0))))[d4]? = some (.ptr (some (j, 0))) := List.getElem?_set_self (by simp; omega)
    have h5 := h4.put d5 (x := .ptr (some (j, 0))) (v := c) (fun β Rd Ow hS => (hS.ff.rel d4 _ _ f4 (put_at (by rw [put_size, put_size, put_size]; omega))).1) hjl rfl
    obtain ⟨F', Rd', β', hs', back⟩ := h5.split
    refine vc_ok hm (fun id m hm2 => absurd hm2 (noFrz_spec hzf id m)) BODY _ _ _ _ _ _ hreg hs' (hr L fr H z j hi hL hzj (hLk _ hzj) hz) (fun e fr' H' a' w'' hs2 hk => ?_)
    obtain ⟨rfl, hi'⟩ := hk
    show _ ∧ _
    obtain ⟨hR, hRl⟩ := back _ _ _ _ hs2 (hI _ _ _ hi').2.2
    refine ⟨⟨kvDel L z, fr', H', hR, fun q hq => hLk _ (List.mem_filter.1 hq).1, kvOk_del hL z, hi'⟩, by rw [hRl]; exact hlt⟩
theorem wpList_vcl_app {B : List Tmp} {all : Array Oper} {K : List AV → Hp → Prop} {KC : Exit → Act → World → Prop} {m : List Oper} (hK : ∀ fr H a w, St E W F Rd0 β0 n fr H a w → K fr H → wpList P all KC m a w) :
    ∀ (l : List Oper) (pu : List Nat) (fr : List AV) (H : Hp) (a : Act) (w : World), St E W F Rd0 β0 n fr H a w → vcl P E B all K pu l fr H → wpList P all KC (l ++ m) a w
  | [], pu, fr, H, a, w, hs, hv => hK fr H a w hs (by rw [vcl] at hv; exact hv)
  | o :: rest, pu, fr, H, a, w, hs, hv => by
    rw [vcl] at hv
    split at hv
    · exact wpList_step fun KK hKK => vx_ok hs hv fun fr H a w hs' hk => hKK _ _ (wpList_vcl_app hK rest _ fr H a w hs' hk)
    · exact wpList_step fun KK hKK => vop_ok hs hv fun fr H a w hs' hk => hKK _ _ (wpList_vcl_app hK rest _ fr H a w hs' hk)
end
/-- What is asked ahead of 'range m'. -/
def VRng (P : Program) (E : Env) (B : List Tmp) (ND : List (Nat × List Nat)) (k : TypeId) (x : Operand) (it d1 d2 d3 d4 d5 N : Nat) (BODY : Code) (Kx : List AV → Hp → Prop) (fr : List AV) (H : Hp) : Prop :=
  ∃ (i p g : Nat) (kv : List (Int × Nat)) (I : Obj → Value → List (Int × Nat) → List AV → Hp → Prop), aeval fr x = .mh i p g ∧ axm H i p g = some (P, k, kv) ∧
    (∀ o v, I o v kv (fr.set it (.raw v)) (H.set i ((H.getD i []).set p (.ob (fixOb g o))))) ∧
    (∀ o v L fr H, I o v L fr H → fr.length = N ∧ fr[it]? = some (.raw v) ∧ ∃ row, H[i]? = some row ∧ row[p]? = some (.ob (fixOb g o))) ∧
    (∀ o v L fr H z j, I o v L fr H → kvOk L → (z, j) ∈ L → (z, j) ∈ kv → okKey z → vc P E B ND BODY (fun e fr' H' => e = .normal ∧ I o v (kvDel L z) fr' H') (((((fr.set d1 (.tup [.bool true, .int .i64 z, .ptr (some (j, 0))])).set d2 (.bool true)).set d3 (.tup [.int .i64 z, .ptr (some (j, 0))])).set d4 (.ptr (some (j, 0)))).set d5 (.ptr (some (j, 0)))) H) ∧
    (∀ o v fr H, I o v [] fr H → Kx ((fr.set d1 (.tup [.bool false])).set d2 (.bool false)) (H.set i ((H.getD i []).set p (.ob (mapOb P k g kv)))))
def preS : List Code → Code → Code
  | [], M => M
  | A :: l, M => .seq A (preS l M)
def vcPre (P : Program) (E : Env) (B : List Tmp) (ND : List (Nat × List Nat)) : List Code → (Exit → List AV → Hp → Prop) → (List AV → Hp → Prop) → List AV → Hp → Prop
  | [], _, K, fr, H => K fr H
  | A :: l, K0, K, fr, H => vc P E B ND A (fun e fr H => match e with
    | .normal => vcPre P E B ND l K0 K fr H
    | e => K0 e fr H) fr H
def optS (M : Code) : Option Code → Code
  | none => M
  | some D => .seq M D
def vcOpt (P : Program) (E : Env) (B : List Tmp) (ND : List (Nat × List Nat)) (K : Exit → List AV → Hp → Prop) : Option Code → List AV → Hp → Prop
  | none, fr, H => K .normal fr H
  | some D, fr, H => vc P E B ND D K fr H
def okOpt (B : List Tmp) (ND : List (Nat × List Nat)) : Option Code → Bool
  | none => true
  | some D => regsB B ND D
def okR (P : Program) (B : List Tmp) (ND : List (Nat × List Nat)) (fn : Func) (l : List Code) (BODY : Code) (D : Option Code) (t k : TypeId) : Bool := !(fn.name == "runtime.NumGoroutine") && P.follows .mixedOrders && noFrz ND && l.all (regsB B ND) && regsB B ND BODY && okOpt B ND D && tmapI P t == some k
section
variable {P : Program} {E : Env} {H : Hp}
theorem pre_ok {B : List Tmp} {ND : List (Nat × List Nat)} (hm : P.follows .mixedOrders = true) (hz : noFrz ND = true) {W : World} {F : Nat → Prop} {Rd0 : Nat → Nat → Prop} {β0 : Nat → Nat} {n : Nat} {KC : Exit → Act → World → Prop} {K0 : Exit → List AV → Hp → Prop} {K : List AV → Hp → Prop} {M : Code} (hK0 : ∀ e fr H a w, St E W F Rd0 β0 n fr H a w → K0 e fr H → KC e a w) (hK : ∀ fr H a w, St E W F Rd0 β0 n fr H a w → K fr H → M.wp P KC a w) :
    ∀ (l : List Code) (fr : List AV) (H : Hp) (a : Act) (w : World), l.all (regsB B ND) = true → St E W F Rd0 β0 n fr H a w → vcPre P E B ND l K0 K fr H → (preS l M).wp P KC a w
  | [], fr, H, a, w, _, hs, h => hK fr H a w hs h
  | A :: l, fr, H, a, w, hreg, hs, h => by
    rw [List.all_cons, Bool.and_eq_true] at hreg
    refine wp_seq (vc_ok hm (fun id m hm2 => absurd hm2 (noFrz_spec hz id m)) A _ _ fr H a w hreg.1 hs h (fun e fr' H' a' w' hs' hk => ?_))
    cases e with
    | normal => exact pre_ok hm hz hK0 hK l fr' H' a' w' hreg.2 hs' hk
    | _ => exact hK0 _ _ _ _ _ hs' hk
/-- A FUNCTION WITH A RANGE OVER A MAP, ENTERED. -/
theorem pc_enterRng {f : FuncId} {fn : Func} (l : List Code) {i4 b0 i5 b1 i6 it d1 d2 d3 d4 d5 : Nat} {ops4 ops5 ops6 : Array Oper} {p4 : List Oper} {o0 o1 o2 o3 o4 o5 : Oper} {BODY : Code} {D : Option Code} {x : Operand} {t k : TypeId} (hf : P.funcs[f]? = some fn)
    (hb : fn.body = some (preS l (optS (.seq (.region i4 ops4 false) (rngCode b0 i5 b1 i6 d2 ops5 ops6 BODY)) D))) (B : List Tmp) (ND : List (Nat × List Nat)) (hok : okR P B ND fn l BODY D t k = true)
    (e4 : ops4.toList = p4 ++ [o0]) (e5 : ops5.toList = [o1, o2]) (e6 : ops6.toList = [o3, o4, o5])
    (c0 : o0.op = .range t x ∧ o0.dst = some it ∧ o0.guard = none)
    (c1 : o1.op = .next (.tmp it) false ∧ o1.dst = some d1 ∧ o1.guard = none) (c2 : o2.op = .extract (.tmp d1) 0 ∧ o2.dst = some d2 ∧ o2.guard = none) (c3 : o3.op = .entry (.tmp it) ∧ o3.dst = some d3 ∧ o3.guard = none) (c4 : o4.op = .extract (.tmp d3) 1 ∧ o4.dst = some d4 ∧ o4.guard = none) (c5 : o5.op = .assign (.tmp d4) ∧ o5.dst = some d5 ∧ o5.guard = none)
    (hdis : d1 ≠ it ∧ d2 ≠ it ∧ d2 ≠ d1 ∧ d3 ≠ d1 ∧ d3 ≠ it) (N : Nat) (hN : it < N ∧ d1 < N ∧ d2 < N ∧ d3 < N ∧ d4 < N) {args : List AV} {Q : AV → Hp → Prop}
    (h : BndH H.length H → vcPre P E B ND l (aPost P fn.results.toList H.length Q) (fun fr H' => vcl P E B ops4 (VRng P E B ND k x it d1 d2 d3 d4 d5 N BODY (vcOpt P E B ND (aPost P fn.results.toList H.length Q) D)) (ndOf ND i4) p4 fr H') (args ++ List.replicate (fn.ntmps - args.length) (.raw undef)) H) : PC P E f args H Q := by
  unfold okR at hok
  simp only [Bool.and_eq_true, Bool.not_eq_true', beq_iff_eq] at hok
  obtain ⟨⟨⟨⟨⟨⟨hname, hm⟩, hz⟩, hl⟩, hB⟩, hD⟩, ht⟩ := hok
  refine pc_enterG hf hb hname (fun hBn W F Rd0 β0 a w hs KC hK => ?_)
  refine pre_ok hm hz hK (fun fr1 H1 a1 w1 hs1 hv => ?_) l _ _ _ _ hl hs (h hBn)
  have key : ∀ KC' : Exit → Act → World → Prop, (∀ fr H a w, St E W F Rd0 β0 _ fr H a w → vcOpt P E B ND (aPost P fn.results.toList _ Q) D fr H → KC' .normal a w) → (Code.seq (.region i4 ops4 false) (rngCode b0 i5 b1 i6 d2 ops5 ops6 BODY)).wp P KC' a1 w1 := fun KC' hK' => by
    refine wp_seq (wp_region_list ?_)
    rw [e4]
    refine wpList_vcl_app (n := H.length) (fun fr2 H2 a2 w2 hs2 hv2 => ?_) p4 _ _ _ _ _ hs1 hv
    obtain ⟨i, p, g, kv, I, q1, q2, q3, q4, q5, q6⟩ := hv2
    refine range_op c0.1 c0.2.1 c0.2.2 hs2 q1 q2 ht (fun r o w' hkv hR => ?_)
    exact wp_rng hm hz e5 e6 hB c1 c2 c3 c4 c5 hdis hN ht hkv I _ _ rfl (fun L fr H => q4 _ _ L fr H) (fun L fr H z j => q5 _ _ L fr H z j) (fun fr H => q6 _ _ fr H) hK' hR (q3 _ _)
  cases D with
  | none => exact key KC fun fr H a w hs2 h2 => hK _ _ _ _ _ hs2 h2
  | some D =>
    refine wp_seq (key _ fun fr H a w hs2 h2 => ?_)
    exact vc_ok hm (fun id m hm2 => absurd hm2 (noFrz_spec hz id m)) D _ _ _ _ _ _ hD hs2 h2 hK
end
end Go.Proofs.Ytijnohcaeedffaa

set_option linter.unusedVariables false
set_option linter.unnecessarySimpa false
set_option linter.unusedSimpArgs false
set_option linter.unusedSectionVars false
set_option maxRecDepth 100000
namespace Go.Proofs.Ytijnohcaeedffaa
open Go Go.RowKit

theorem set_same {α : Type} {l : List α} {i : Nat} {x : α} (h : l[i]? = some x) : l.set i x = l := by
  obtain ⟨h1, rfl⟩ := List.getElem?_eq_some_iff.1 h
  exact List.set_getElem_self h1
/-- The tick of the timer in box i. -/
def tkOf (H : Hp) (i : Nat) : Int := match H[i]? with
  | some (_ :: .int _ t :: _) => t
  | _ => 0
section
variable {H : Hp} {iw : Nat} {row : List AV} {now : Nat} {st : Int} {g : Nat} {kv : List (Int × Nat)} {Ls : Nat → List Te} {ts : List Tm} (E : Env) (Q : AV → Hp → Prop)
theorem Whl.tk (h : Whl H iw row now st g kv Ls) {n : Int} {i : Nat} (hm : (n, i) ∈ kv) : i ≠ iw ∧ ∃ nx bk s, H[i]? = some (tmr n (tkOf H i) nx bk iw s) := by
  obtain ⟨s, hs, x, hx, rfl, rfl⟩ := (h.mem n i).1 hm
  obtain ⟨pre, suf, hsp⟩ := List.append_of_mem hx
  have h1 := h.lnk.links s pre x suf hs hsp
  refine ⟨h.lnk.ne hs hsp, headI suf, lastI pre, s, ?_⟩
  rw [h1]
  unfold tkOf
  rw [h1]
  rfl
theorem Vw.tk (hv : Vw Ls ts) (h : Whl H iw row now st g kv Ls) (y : Tm) : y ∈ ts ↔ ∃ i, (y.n, i) ∈ kv ∧ tkOf H i = y.t := by
  rw [hv.mem]
  constructor
  · rintro ⟨s, hs, x, hx, rfl⟩
    obtain ⟨pre, suf, hsp⟩ := List.append_of_mem hx
    have h1 := h.lnk.links s pre x suf hs hsp
    refine ⟨x.i, (h.mem x.n x.i).2 ⟨s, hs, x, hx, rfl, rfl⟩, ?_⟩
    unfold tkOf
    rw [h1]
    rfl
  · rintro ⟨i, hi, e⟩
    obtain ⟨s, hs, x, hx, e1, rfl⟩ := (h.mem y.n i).1 hi
    obtain ⟨pre, suf, hsp⟩ := List.append_of_mem hx
    have h1 := h.lnk.links s pre x suf hs hsp
    refine ⟨s, hs, x, hx, ?_⟩
    have e2 : tkOf H x.i = x.t := by
      unfold tkOf
      rw [h1]
      rfl
    rw [e2] at e
    cases y
    simp at e1 e
    rw [e1, e]
end
end Go.Proofs.Ytijnohcaeedffaa

