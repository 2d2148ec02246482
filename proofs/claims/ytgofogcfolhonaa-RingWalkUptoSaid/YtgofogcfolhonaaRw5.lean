/- Part 5 of the texts below the law: the abstract machine, the functions that it walks, what they compute. -/
import Derived.Test.YtgofogcfolhonaaRw4
import Derived.Test.YtgofogcfolhonaaProg
import Derived.KernelRfl
import Derived.RangeFuncNested
import Derived.RangeFuncBound
import Derived.RangeFuncCalls
import Derived.RangeFuncLeaves
import Derived.Shelf.Abstract
import Derived.Shelf.RegionOpen
import Derived.WalkKit
import Derived.OwnWalkIn
import Derived.TacticsInMore
import Derived.LoopNIn
import Derived.LoopIn
import Derived.Test.YtgofogcfolhonaaRows
import Derived.ProofKit
import Derived.OpenShut
import Derived.SizedLaws
import Derived.Deep.Slices
import Derived.Deep.Fields
import Derived.SliceStrings
set_option linter.unusedVariables false
set_option linter.unnecessarySimpa false
set_option linter.unusedSimpArgs false
set_option maxRecDepth 100000
namespace Go.Proofs.Ytgofogcfolhonaa
open Go Go.RowKit

/-- A value without a heap. -/
inductive Pln : AV → Prop
  | int (k n) : Pln (.int k n)
  | bool (b) : Pln (.bool b)
  | str (s) : Pln (.str s)
  | agg (l) (h : ∀ x ∈ l, Pln x) : Pln (.agg l)
  | tup (l) (h : ∀ x ∈ l, Pln x) : Pln (.tup l)
attribute [simp] Pln.int Pln.bool Pln.str
@[simp] theorem pln_agg (l : List AV) : Pln (.agg l) ↔ ∀ x ∈ l, Pln x := ⟨fun h => by cases h; assumption, .agg l⟩
@[simp] theorem pln_tup (l : List AV) : Pln (.tup l) ↔ ∀ x ∈ l, Pln x := ⟨fun h => by cases h; assumption, .tup l⟩
theorem Pln.rel {w w' : World} {β β' : Nat → Nat} {Rd Rd' : Nat → Nat → Prop} {v : AV} {c : Value} (h : Rel w β Rd v c) (hp : Pln v) : Rel w' β' Rd' v c := by
  induction h with
  | int | bool => constructor
  | str s l h hm => exact .str s l h hm
  | agg l vs hl hf hr ih =>
    cases hp with
    | agg _ hp => exact .agg l vs hl hf (fun j x u hx hu => ih j x u hx hu (hp x (mem_at hx)))
  | tup l vs hl hf hr ih =>
    cases hp with
    | tup _ hp => exact .tup l vs hl hf (fun j x u hx hu => ih j x u hx hu (hp x (mem_at hx)))
  | _ => cases hp
theorem Pln.bnd {v : AV} {N : Nat} (h : Pln v) : Bnd N v := by
  induction h with
  | int | bool | str => constructor
  | agg l h ih => exact .agg l ih
  | tup l h ih => exact .tup l ih
theorem Pln.free {v : AV} (h : Pln v) : v.free = true := by cases h <;> rfl
/-- y: what is read of x. -/
def seesBx (H : Hp) (x y : AV) : Prop := x = y ∨ (x = .nil ∧ ∃ k, y = .sl false k []) ∨ ∃ i o n c k rows l, x = .bx i o n c k ∧ y = .sl false k rows ∧ rows.length = n ∧ (∀ r ∈ rows, r.length = k) ∧ H[i]? = some l ∧ o + n * k ≤ l.length ∧ (∀ j u, rows.flatten[j]? = some u → l[o + j]? = some u) ∧ (∀ r ∈ rows, ∀ x ∈ r, x.free = true)
def seesL (H : Hp) : List AV → List AV → Prop
  | [], [] => True
  | x :: l, y :: m => seesBx H x y ∧ seesL H l m
  | _, _ => False
theorem seesL_at {H : Hp} : ∀ {l m : List AV}, seesL H l m → l.length = m.length ∧ ∀ (i : Nat) y, m[i]? = some y → ∃ x, l[i]? = some x ∧ seesBx H x y
  | [], [], _ => ⟨rfl, fun i y h => by simp at h⟩
  | x :: l, y :: m, h => by
    obtain ⟨h1, h2⟩ := h
    obtain ⟨h3, h4⟩ := seesL_at h2
    refine ⟨by simp [h3], fun i z hz => ?_⟩
    cases i with
    | zero => simp at hz; subst hz; exact ⟨x, rfl, h1⟩
    | succ i => exact h4 i z (by simpa using hz)
  | [], _ :: _, h => h.elim
  | _ :: _, [], h => h.elim
section
variable {P : Program} {E : Env} {w : World} {β : Nat → Nat} {Rd : Nat → Nat → Prop} {Ow : Nat → Option Hold} {H : Hp}
theorem Rel.alone (hHR : HR E w β Rd Ow H) {x : AV} {u : Value} (h : Rel w β Rd x u) (hb : Bnd 0 x) (hf : x.free = true) : Rel w (fun _ => 0) (old w) x u :=
  h.move hb (fun g o hg => ⟨hHR.rds g o hg, rfl⟩) (fun g hg => by rw [own0_free hf] at hg; cases hg) (Nat.le_refl _) (fun i hi => by omega)
theorem seesBx.rel (hHR : HR E w β Rd Ow H) {x y : AV} {u : Value} (hs : seesBx H x y) (h : Rel w β Rd x u) (hb : Bnd 0 y) (hf : y.free = true) : Rel w (fun _ => 0) (old w) y u := by
  rcases hs with rfl | ⟨rfl, k, rfl⟩ | ⟨i, o, n, c, k, rows, l, rfl, rfl, hn, hk, hl, hlen, hat, hfr⟩
  · exact h.alone hHR hb hf
  · exact (nil1_rel (.inr ⟨rfl, false, k, rfl⟩) (h.alone hHR .nil rfl) (Bnd.nil (N := 0))).1
  · cases h with
    | bx _ _ _ _ _ hnc hm =>
      obtain ⟨T, cs, hbk, hcs, hce⟩ := hHR.box i l hl
      have hlt : β i < w.heap.size := (Array.getElem?_eq_some_iff.1 hbk).1
      have hfl := flat_len hk
      have hB : ∀ r ∈ rows, ∀ x ∈ r, Bnd 0 x := by cases hb; assumption
      have hcell : ∀ j, j < n * k → w.cell? ⟨β i, o + j, none⟩ = ((cs.toList.drop o).take (n * k))[j]? := fun j hj => by
        rw [cell_blk hbk, List.getElem?_take, if_pos hj, List.getElem?_drop, Array.getElem?_toList]
      subst hn
      refine .sl false k rows _ ((cs.toList.drop o).take (rows.length * k)) hk ⟨?_, _, c, rfl, hnc, hm, fun _ => ⟨β i, o, rfl, hcell⟩⟩ (fun g o' n' c' hv j hj => ?_) (fun h => by cases h) (fun r hr x hx => ⟨hfr r hr x hx, ?_⟩) (fun j x u hx hu => ?_)
      · have e : cs.toList.length = cs.size := by simp
        rw [List.length_take, List.length_drop, e]; omega
      · injection hv with h1 h2 h3
        injection h1 with h1
        injection h1 with h1 h4
        subst h1
        exact hlt
      · obtain ⟨j, hj⟩ := List.getElem?_of_mem (List.mem_flatten.2 ⟨r, hr, hx⟩)
        have hlj := hat j x hj
        have hj2 : o + j < cs.size := by have := (List.getElem?_eq_some_iff.1 hlj).1; rw [hcs]; exact this
        exact (hce _ x _ hlj (Array.getElem?_eq_getElem hj2)).2.1
      · obtain ⟨r, hr1, hr2⟩ := flat_mem hx
        have hj : j < rows.length * k := hfl ▸ (List.getElem?_eq_some_iff.1 hx).1
        have hlj := hat j x hx
        have hu2 : cs[o + j]? = some u := by
          rw [List.getElem?_take, if_pos hj, List.getElem?_drop, Array.getElem?_toList] at hu
          exact hu
        exact (hce _ x u hlj hu2).1.alone hHR (hB r hr1 x hr2) (hfr r hr1 x hr2)
/-- THE CALL. -/
theorem PC.pure {f : FuncId} {args args' : List AV} {Q : AV → Hp → Prop} {v : AV} (hB : hasB P f = true) (hs : seesL H args args') (hb : ∀ y ∈ args', Bnd 0 y ∧ y.free = true) (hv : Pln v)
    (h : ∀ (E' : Env) (Q' : AV → Hp → Prop), E'.w0 = E.w0 → E'.Fix = E.Fix → Q' v [] → PC P E' f args' [] Q') (hQ : Q v H) : PC P E f args H Q := by
  refine ⟨hB, fun w β Rd Ow cargs hHR hOw hsz hargs => ?_⟩
  obtain ⟨hl, hat⟩ := seesL_at hs
  have hp := h ⟨E.w0, E.Fix, fun _ => True, fun _ _ => False⟩ (fun u H' => u = v) rfl rfl rfl
  refine (hp.2 w (fun _ => 0) (old w) (fun _ => none) cargs ⟨fun i l hl => by simp at hl, fun i j hi => by simp at hi, fun i hi => by simp at hi, fun g h hg => (by cases hg), fun g o hg => hg, fun l hl => by simp at hl, fun b hb => ⟨(hHR.fix b hb).1, rfl, fun i hi => by simp at hi, (hHR.fix b hb).2.2.2⟩, fun i l t hl => by simp at hl⟩ (fun g h hg => by cases hg) (by omega) (fun t y u hy hu => ?_)).mono ?_
  · obtain ⟨x, hx, hxy⟩ := hat t y hy
    have hyb := hb y (mem_at hy)
    exact ⟨hxy.rel hHR (hargs t x u hx hu).1 hyb.1 hyb.2, hyb.1, hyb.2⟩
  · rintro e w' ⟨c, u, H', β', Rd', Ow', rfl, rfl, hP⟩
    have hF : Frm (fun _ => False) w w' := ⟨hP.os, hP.tape, hP.output, hP.size, fun b hb _ => (hP.frame b hb (fun i hi => by simp at hi) rfl).1⟩
    exact ⟨c, u, H, β, _, Ow, rfl, hQ, post_freshP hHR hF (fun _ _ => False) (fun _ _ h => h.elim) (Pln.rel hP.rel hv) hv.bnd hv.free⟩
end
end Go.Proofs.Ytgofogcfolhonaa

set_option linter.unusedVariables false
set_option linter.unnecessarySimpa false
set_option linter.unusedSimpArgs false
set_option maxRecDepth 100000
namespace Go.Proofs.Ytgofogcfolhonaa
open Go Go.RowKit

section
variable {K : Hp} {c : Nat} (h : c < K.length)
include h
end
theorem getNX {L : Hp} {c d : Nat} (h : d ≠ c) (x : List AV) : (L.set d x)[c]? = L[c]? := List.getElem?_set_ne h
theorem ltX {α : Type} {l : List α} {i : Nat} {x : α} (h : l[i]? = some x) : i < l.length := (List.getElem?_eq_some_iff.1 h).1
theorem bndX_app {N : Nat} {H J : Hp} (h : BndH N H) (h2 : ∀ l ∈ J, ∀ x ∈ l, Bnd N x) : BndH N (H ++ J) := fun l hl x hx => by
  rcases List.mem_append.1 hl with h' | h'
  · exact h l h' x hx
  · exact h2 l h' x hx
theorem bndX_up {N M : Nat} {H : Hp} (h : BndH N H) (hm : N ≤ M) : BndH M H := fun l hl x hx => (h l hl x hx).mono hm
theorem bndX_put {N : Nat} {H : Hp} (h : BndH N H) (c : Nat) {l : List AV} (hl : ∀ x ∈ l, Bnd N x) : BndH N (H.set c l) := fun m hm x hx => by
  rcases List.mem_or_eq_of_mem_set hm with h1 | rfl
  · exact h m h1 x hx
  · exact hl x hx
theorem up_dropX {H H' : Hp} (h : H.length ≤ H'.length) (k : ∀ j, j < H.length → H'[j]? = H[j]?) : H' = H ++ H'.drop H.length := by
  refine List.ext_getElem? fun j => ?_
  by_cases hj : j < H.length
  · rw [List.getElem?_append_left hj, k j hj]
  · rw [List.getElem?_append_right (by omega), List.getElem?_drop]; congr 1; omega
theorem aPost_upX {P : Program} {rs : List ResultVar} {n : Nat} {Q : AV → Hp → Prop} {fr : List AV} {H' : Hp} {v : AV} (h1 : ares P fr H' rs = some v) (h3 : n ≤ H'.length) (h4 : BndH H'.length H') (h5 : Bnd H'.length v) (h6 : Q v H') :
    aPost P rs n Q .ret fr H' := ⟨v, v, H', H', [], h1, nilV_refl _, nilH_refl _, (List.append_nil H').symm, h3, h4, h5, h6⟩
theorem aPost_lawX {P : Program} {rs : List ResultVar} {Q : AV → Hp → Prop} {fr : List AV} {H H' : Hp} {v0 : AV} (hB : BndH H.length H) (hl : H.length ≤ H'.length) (hk : ∀ j, j < H.length → H'[j]? = H[j]?) (h1 : ares P fr H' rs = some v0) (h5 : Bnd H.length v0) (h6 : Q v0 H) :
    aPost P rs H.length Q .ret fr H' := by
  have e := up_dropX hl hk
  rw [e] at h1 ⊢
  exact aPost_same hB h1 (nilV_refl _) h5 h6
/-- A plain cell. -/
def smp (y : AV) : Prop := Pln y ∧ y.one = true
@[simp] theorem smp_int (k n) : smp (.int k n) := ⟨.int _ _, rfl⟩
@[simp] theorem smp_bool (b) : smp (.bool b) := ⟨.bool _, rfl⟩
@[simp] theorem smp_str (s) : smp (.str s) := ⟨.str _, rfl⟩
theorem smp.free {y : AV} (h : smp y) : y.free = true := h.1.free
theorem smp.bnd {y : AV} (h : smp y) (N : Nat) : Bnd N y := h.1.bnd
theorem smp.dis {y : AV} (h : smp y) : y.dis = y := dis_of_free h.free
/-- A slice of n rows of k plain cells, nil or a box's. -/
def BX (K : Hp) (G : Nat → Prop) (k : Nat) (v : AV) (n : Nat) (C : Nat → AV → Prop) : Prop := (n = 0 ∧ v = .nil) ∨ ∃ i c A, G i ∧ v = .bx i 0 n c k ∧ K[i]? = some A ∧ A.length = c * k ∧ n ≤ c ∧ c ≤ maxLen ∧ (∀ y ∈ A, smp y) ∧ ∀ j y, j < n * k → A[j]? = some y → C j y
section
variable {K : Hp} {G : Nat → Prop} {v : AV} {n k : Nat} {C C' : Nat → AV → Prop}
theorem BX.nil : BX K G k .nil 0 C := .inl ⟨rfl, rfl⟩
theorem BX.lt (h : BX K G k v n C) : ∀ i o m c k', v = .bx i o m c k' → G i ∧ i < K.length := fun i o m c k' e => by
  rcases h with ⟨_, rfl⟩ | ⟨i', c', A, h1, rfl, h2, _⟩
  · cases e
  · cases e; exact ⟨h1, ltX h2⟩
theorem BX.of_eq {K' : Hp} {G' : Nat → Prop} (h : BX K G k v n C) (he : ∀ i o m c k', v = .bx i o m c k' → K'[i]? = K[i]?) (hG : ∀ i o m c k', v = .bx i o m c k' → G' i) (hC : ∀ j y, j < n * k → smp y → C j y → C' j y) : BX K' G' k v n C' := by
  rcases h with h | ⟨i, c, A, h1, rfl, h2, h3, h4, h5, h6, h7⟩
  · exact .inl h
  · exact .inr ⟨i, c, A, hG _ _ _ _ _ rfl, rfl, (he _ _ _ _ _ rfl).trans h2, h3, h4, h5, h6, fun j y hj hy => hC j y hj (h6 y (List.mem_of_getElem? hy)) (h7 j y hj hy)⟩
theorem BX.app (h : BX K G k v n C) (J : Hp) : BX (K ++ J) G k v n C :=
  h.of_eq (fun i _ _ _ _ e => List.getElem?_append_left (h.lt _ _ _ _ _ e).2) (fun i _ _ _ _ e => (h.lt _ _ _ _ _ e).1) (fun _ _ _ _ h => h)
theorem BX.put (h : BX K G k v n C) {i : Nat} (hi : ∀ i' o m c k', v = .bx i' o m c k' → i ≠ i') (A : List AV) : BX (K.set i A) G k v n C :=
  h.of_eq (fun i' _ _ _ _ e => getNX (hi _ _ _ _ _ e) _) (fun i _ _ _ _ e => (h.lt _ _ _ _ _ e).1) (fun _ _ _ _ h => h)
theorem BX.alen {P : Program} {t : TypeId} (h : BX K G k v n C) (ht : (tsl P t).isSome = true) : Go.Proofs.Ytgofogcfolhonaa.alen P t v = some (.int .i64 n) := by
  rcases h with ⟨rfl, rfl⟩ | ⟨i, c, A, h1, rfl, _⟩ <;> simp [Go.Proofs.Ytgofogcfolhonaa.alen, ht]
theorem mul_rows {n c k : Nat} (h : n ≤ c) : n * k ≤ c * k := Nat.mul_le_mul_right k h
/-- A row is stored. -/
theorem BX.mark {i c : Nat} {A r : List AV} (h : BX K G k (.bx i 0 n c k) n C) (hA : K[i]? = some A) {j : Nat} (hj : j < n) (hr : r.length = k) (hs : ∀ y ∈ r, smp y)
    (hC : ∀ m y, m < n * k → (if j * k ≤ m ∧ m < j * k + k then r[m - j * k]? = some y else C m y) → C' m y) : BX (K.set i (A.take (j * k) ++ (r ++ A.drop (j * k + k)))) G k (.bx i 0 n c k) n C' ∧ ∀ y ∈ A.take (j * k) ++ (r ++ A.drop (j * k + k)), smp y := by
  rcases h with ⟨_, e⟩ | ⟨i', c', A', h1, e, h2, h3, h4, h5, h6, h7⟩
  · cases e
  cases e
  rw [hA] at h2; cases h2
  have hjk : j * k + k ≤ c * k := by have := mul_rows (k := k) (show j + 1 ≤ c by omega); rw [Nat.add_mul] at this; omega
  have hl : (A.take (j * k)).length = j * k := by rw [List.length_take]; omega
  have hsm : ∀ y ∈ A.take (j * k) ++ (r ++ A.drop (j * k + k)), smp y := fun y hy => by
    rcases List.mem_append.1 hy with h | h
    · exact h6 y (List.mem_of_mem_take h)
    · rcases List.mem_append.1 h with h | h
      · exact hs y h
      · exact h6 y (List.mem_of_mem_drop h)
  refine ⟨.inr ⟨i, c, _, h1, rfl, List.getElem?_set_self (ltX hA), ?_, h4, h5, hsm, fun m y hm hy => hC m y hm ?_⟩, hsm⟩
  · simp only [List.length_append, hl, hr, List.length_drop]; omega
  · by_cases h8 : m < j * k
    · rw [if_neg (by omega)]
      rw [List.getElem?_append_left (by omega), List.getElem?_take_of_lt h8] at hy
      exact h7 m y hm hy
    · rw [List.getElem?_append_right (by omega), hl] at hy
      by_cases h9 : m < j * k + k
      · rw [if_pos ⟨by omega, h9⟩]
        rw [List.getElem?_append_left (by omega)] at hy
        exact hy
      · rw [if_neg (by omega)]
        rw [List.getElem?_append_right (by omega), hr, List.getElem?_drop] at hy
        exact h7 m y hm (by rw [← hy]; congr 1; omega)
/-- A row more, where there is room. -/
theorem BX.room {i c : Nat} {A r : List AV} (h : BX K G k (.bx i 0 n c k) n C) (hA : K[i]? = some A) (hrm : n + 1 ≤ c) (hr : r.length = k) (hs : ∀ y ∈ r, smp y)
    (hC : ∀ m y, m < (n + 1) * k → (if n * k ≤ m then r[m - n * k]? = some y else C m y) → C' m y) : BX (K.set i (A.take (n * k) ++ (r ++ A.drop (n * k + k)))) G k (.bx i 0 (n + 1) c k) (n + 1) C' ∧ ∀ y ∈ A.take (n * k) ++ (r ++ A.drop (n * k + k)), smp y := by
  rcases h with ⟨_, e⟩ | ⟨i', c', A', h1, e, h2, h3, h4, h5, h6, h7⟩
  · cases e
  cases e
  rw [hA] at h2; cases h2
  have hjk : n * k + k ≤ c * k := by have := mul_rows (k := k) hrm; rw [Nat.add_mul] at this; omega
  have hl : (A.take (n * k)).length = n * k := by rw [List.length_take]; omega
  have hsm : ∀ y ∈ A.take (n * k) ++ (r ++ A.drop (n * k + k)), smp y := fun y hy => by
    rcases List.mem_append.1 hy with h | h
    · exact h6 y (List.mem_of_mem_take h)
    · rcases List.mem_append.1 h with h | h
      · exact hs y h
      · exact h6 y (List.mem_of_mem_drop h)
  refine ⟨.inr ⟨i, c, _, h1, rfl, List.getElem?_set_self (ltX hA), ?_, hrm, h5, hsm, fun m y hm hy => hC m y hm ?_⟩, hsm⟩
  · simp only [List.length_append, hl, hr, List.length_drop]; omega
  · by_cases h8 : m < n * k
    · rw [if_neg (by omega)]
      rw [List.getElem?_append_left (by omega), List.getElem?_take_of_lt h8] at hy
      exact h7 m y h8 hy
    · rw [if_pos (by omega)]
      rw [List.getElem?_append_right (by omega), hl, List.getElem?_append_left (by rw [hr]; rw [Nat.add_mul] at hm; omega)] at hy
      exact hy
/-- .. and in a new box: L: what stood there. -/
theorem BX.grow {c' : Nat} {L r z : List AV} (hL : L.length = n * k) (hLs : ∀ y ∈ L, smp y) (hLC : ∀ m y, m < n * k → L[m]? = some y → C m y) (hc1 : n + 1 ≤ c') (hc2 : c' ≤ maxLen) (hG : G K.length) (hr : r.length = k) (hs : ∀ y ∈ r, smp y) (hz : z.length = k) (hzs : ∀ y ∈ z, smp y)
    (hC : ∀ m y, m < (n + 1) * k → (if n * k ≤ m then r[m - n * k]? = some y else C m y) → C' m y) : BX (K ++ [L ++ (r ++ (List.replicate (c' - (n + 1)) z).flatten)]) G k (.bx K.length 0 (n + 1) c' k) (n + 1) C' ∧ ∀ y ∈ L ++ (r ++ (List.replicate (c' - (n + 1)) z).flatten), smp y := by
  have hsm : ∀ y ∈ L ++ (r ++ (List.replicate (c' - (n + 1)) z).flatten), smp y := fun y hy => by
    rcases List.mem_append.1 hy with h | h
    · exact hLs y h
    · rcases List.mem_append.1 h with h | h
      · exact hs y h
      · obtain ⟨q, hq1, hq2⟩ := List.mem_flatten.1 h
        rw [(List.mem_replicate.1 hq1).2] at hq2
        exact hzs y hq2
  refine ⟨.inr ⟨K.length, c', L ++ (r ++ (List.replicate (c' - (n + 1)) z).flatten), hG, rfl, by simp, ?_, hc1, hc2, hsm, fun m y hm hy => hC m y hm ?_⟩, hsm⟩
  · have hf : (List.replicate (c' - (n + 1)) z).flatten.length = (c' - (n + 1)) * k := by
      rw [flat_len (k := k) (fun q hq => by rw [(List.mem_replicate.1 hq).2]; exact hz), List.length_replicate]
    rw [List.length_append, List.length_append, hL, hr, hf, ← Nat.add_assoc, ← Nat.succ_mul, ← Nat.add_mul]
    congr 1; omega
  · by_cases h8 : m < n * k
    · rw [if_neg (by omega)]
      rw [List.getElem?_append_left (by omega)] at hy
      exact hLC m y h8 hy
    · rw [if_pos (by omega)]
      rw [List.getElem?_append_right (by omega), hL, List.getElem?_append_left (by rw [hr]; rw [Nat.add_mul] at hm; omega)] at hy
      exact hy
/-- What stands in a slice. -/
theorem BX.cells {i c : Nat} {A : List AV} (h : BX K G k (.bx i 0 n c k) n C) (hA : K[i]? = some A) : (A.take (n * k)).length = n * k ∧ (∀ y ∈ A, smp y) ∧ n * k ≤ A.length ∧ A.length = c * k ∧ n ≤ c ∧ c ≤ maxLen ∧ G i ∧ (∀ m y, m < n * k → (A.take (n * k))[m]? = some y → C m y) ∧ ∀ m y, m < n * k → A[m]? = some y → C m y := by
  rcases h with ⟨_, e⟩ | ⟨i', c', A', h1, e, h2, h3, h4, h5, h6, h7⟩
  · cases e
  cases e
  rw [hA] at h2; cases h2
  have := mul_rows (k := k) h4
  exact ⟨by rw [List.length_take]; omega, h6, by omega, h3, h4, h5, h1, fun m y hm hy => by rw [List.getElem?_take_of_lt hm] at hy; exact h7 m y hm hy, h7⟩
end
end Go.Proofs.Ytgofogcfolhonaa

set_option linter.unusedVariables false
namespace Go.Proofs.Ytgofogcfolhonaa
open Go
@[simp] theorem tf_sz3 : tsz Try.prog 3 = some 1 := by kernel_rfl
@[simp] theorem tf_by3 : tby Try.prog 3 = some 8 := by kernel_rfl
@[simp] theorem tf_row3 : trow Try.prog 3 = some false := by kernel_rfl
@[simp] theorem tf_zc3 : tzc Try.prog 3 = some [.int .i64 0] := by kernel_rfl
@[simp] theorem tf_sz4 : tsz Try.prog 4 = some 1 := by kernel_rfl
@[simp] theorem tf_row4 : trow Try.prog 4 = some false := by kernel_rfl
@[simp] theorem tf_zc4 : tzc Try.prog 4 = some [.bool false] := by kernel_rfl
@[simp] theorem tf_sz9 : tsz Try.prog 9 = some 1 := by kernel_rfl
@[simp] theorem tf_by9 : tby Try.prog 9 = some 16 := by kernel_rfl
@[simp] theorem tf_row9 : trow Try.prog 9 = some false := by kernel_rfl
@[simp] theorem tf_zc9 : tzc Try.prog 9 = some [.str []] := by kernel_rfl
@[simp] theorem tf_sz23 : tsz Try.prog 23 = some 1 := by kernel_rfl
@[simp] theorem tf_row23 : trow Try.prog 23 = some false := by kernel_rfl
@[simp] theorem tf_sl23 : tsl Try.prog 23 = some 3 := by kernel_rfl
@[simp] theorem tf_el23 : tel Try.prog 23 = some 1 := by kernel_rfl
@[simp] theorem tf_zc23 : tzc Try.prog 23 = some [.nil] := by kernel_rfl
@[simp] theorem tf_ptr37 : tptr Try.prog 37 = true := by kernel_rfl
@[simp] theorem tf_sz41 : tsz Try.prog 41 = some 1 := by kernel_rfl
@[simp] theorem tf_row41 : trow Try.prog 41 = some false := by kernel_rfl
@[simp] theorem tf_sl41 : tsl Try.prog 41 = some 9 := by kernel_rfl
@[simp] theorem tf_el41 : tel Try.prog 41 = some 1 := by kernel_rfl
@[simp] theorem tf_sz54 : tsz Try.prog 54 = some 1 := by kernel_rfl
@[simp] theorem tf_row54 : trow Try.prog 54 = some false := by kernel_rfl
@[simp] theorem tf_ptr54 : tptr Try.prog 54 = true := by kernel_rfl
@[simp] theorem tf_zc54 : tzc Try.prog 54 = some [.ptr none] := by kernel_rfl
@[simp] theorem tf_sz59 : tsz Try.prog 59 = some 1 := by kernel_rfl
@[simp] theorem tf_row59 : trow Try.prog 59 = some false := by kernel_rfl
@[simp] theorem tf_zc59 : tzc Try.prog 59 = some [.raw .nilFunc] := by kernel_rfl
@[simp] theorem tf_func59 : tfunc Try.prog 59 = true := by kernel_rfl
@[simp] theorem tf_zc106 : tzc Try.prog 106 = some [.int .i64 0, .nil] := by kernel_rfl
@[simp] theorem tf_pl106 : tplaces Try.prog 106 = some [(0, 1), (1, 1)] := by kernel_rfl
@[simp] theorem tf_fld106x0 : tfld Try.prog 106 0 = some (0, 1, false) := by kernel_rfl
@[simp] theorem tf_fld106x1 : tfld Try.prog 106 1 = some (1, 1, false) := by kernel_rfl
@[simp] theorem tf_zc111 : tzc Try.prog 111 = some [.int .i64 0, .nil] := by kernel_rfl
@[simp] theorem tf_pl111 : tplaces Try.prog 111 = some [(0, 1), (1, 1)] := by kernel_rfl
@[simp] theorem tf_fld111x0 : tfld Try.prog 111 0 = some (0, 1, false) := by kernel_rfl
@[simp] theorem tf_fld111x1 : tfld Try.prog 111 1 = some (1, 1, false) := by kernel_rfl
end Go.Proofs.Ytgofogcfolhonaa

set_option linter.unusedVariables false
set_option linter.unusedSimpArgs false
set_option linter.unusedSectionVars false
namespace Go.Proofs.Ytgofogcfolhonaa
open Go Go.RowKit

/-- What an operation comes to, whatever the frame is. -/
def OpGo (P : Program) (o : Oper) (a : Act) (w : World) (K : Act → World → Prop) : Prop :=
  (∃ c w', (execOp a.eval o).run P w = .ok (.value c) w' ∧ K (a.put o.dst c) w') ∨ (∃ w', (execOp a.eval o).run P w = .ok .skip w' ∧ K (a.put o.dst undef) w') ∨
  ∃ f args, (execOp a.eval o).run P w = .ok (.enter f args) w ∧ Calls P f args w fun e w' => ∃ v, e = .returned v ∧ K (a.put o.dst v) w'

theorem andThen_defer {α : Type} {r : Result α} {P : Program} {f : α → Deferred} {x : Next} {w' : World} (h : (r.andThen fun d w => (pure (Next.defer (f d)) : Sem Next).run P w) = .ok x w') : ∃ d, x = .defer d := by
  cases r with
  | ok a w => simp [Result.andThen, Sem.run_pure] at h; exact ⟨_, h.1.symm⟩
  | halt e w => simp [Result.andThen] at h
theorem defer_run {P : Program} {o : Oper} {c : Call} {ρ : Operand → Value} {w w' : World} {x : Next} (hc : o.op = .defer c) (h : (execOp ρ o).run P w = .ok x w') : ∃ d, x = .defer d := by
  simp only [execOp, hc, Sem.run_bind] at h
  exact andThen_defer (f := fun d => d) h

theorem OpGo.wpIn {P : Program} {o : Oper} {a : Act} {w : World} {K : Act → World → Prop} {Q : Exit → Act → World → Prop} {m : Nat} (h : OpGo P o a w K) (l : Nat) : o.wpIn (Fence.wide.inRound l) m P a w K Q := by
  have hnd : ∀ c, o.op ≠ .defer c := by
    intro c hc
    rcases h with ⟨_, _, hr, _⟩ | ⟨_, hr, _⟩ | ⟨_, _, hr, _⟩ <;> (obtain ⟨d, hd⟩ := defer_run hc hr; cases hd)
  refine ⟨fun f _ => trivial, ?_⟩
  rw [Fence.inRound_round, Oper.semAt_eq _ _ _ hnd]
  rcases h with ⟨c, w', hr, hk⟩ | ⟨w', hr, hk⟩ | ⟨f, args, hr, hk⟩
  · rw [hr]; exact hk
  · rw [hr]; exact hk
  · rw [hr]
    refine ⟨fun h => (by cases h), ?_⟩
    refine ((callsIn_wide.2 hk).inRound l).mono ?_
    rintro e w' ⟨v, rfl, hv⟩
    exact hv

section
variable {P : Program} {E : Env} {W : World} {F : Nat → Prop} {Rd0 : Nat → Nat → Prop} {w w' : World} {β β0 β' : Nat → Nat} {Rd Rd' : Nat → Nat → Prop} {Ow Ow' : Nat → Option Hold} {fr fr' : List AV} {H H' : Hp} {tmps : Array Value} {N n : Nat} {ds : List Deferred}

theorem vop_go {B : List Tmp} {all : Array Oper} {p : Nat} {o : Oper} {K : List AV → Hp → Prop} {KC : Act → World → Prop} {a : Act} (hs : St ds E W F Rd0 β0 n fr H a w) (hv : vop P E B all p o K fr H)
    (hKK : ∀ fr H a w, St ds E W F Rd0 β0 n fr H a w → K fr H → KC a w) : if Region.wanted o (yielded all a.tmps) then OpGo P o a w KC else KC (a.put o.dst undef) w := by
  obtain ⟨hd, hn, β, Rd, Ow, hS, hβ⟩ := hs
  unfold vop at hv
  unfold VWant at hv
  split at hv
  · rename_i hw
    rw [if_pos (wanted_ok hS hw)]
    unfold VCall at hv
    split at hv
    · rename_i f args hc
      obtain ⟨hB, hpc⟩ := hv.pc
      obtain ⟨cargs, hrun, hl, hargs⟩ := call_run hS hc hB
      refine .inr (.inr ⟨f, cargs, hrun, (hpc w β Rd (fun g => cells (Ow g)) _ (hr_cells hS.hr) cells_cell hl hargs).mono ?_⟩)
      rintro e w' ⟨c, v, H', β', Rd', Ow', rfl, hQ, hp⟩
      refine ⟨c, rfl, hKK _ _ _ _ ⟨?_, Nat.le_trans hn hp.len, β', Rd', _, call_post hS hp o.dst, fun i hi => (hp.old i (by omega)).trans (hβ i hi)⟩ hQ⟩
      cases o.dst <;> exact hd
    · replace hv := hv.2
      unfold bindA at hv
      split at hv
      · rename_i v fr' H' ha
        obtain ⟨r, c, w', β', Rd', Ow', hrun, hr, hS', hβ', hlen⟩ := aop_ok hS ha
        have hfin : St ds E W F Rd0 β0 n (aput fr' o.dst v) H' (a.put o.dst c) w' := ⟨by cases o.dst <;> exact hd, Nat.le_trans hn hlen, β', Rd', Ow', hS', fun i hi => (hβ' i (by omega)).trans (hβ i hi)⟩
        rcases hr with rfl | ⟨rfl, rfl⟩
        · exact .inl ⟨_, _, hrun, hKK _ _ _ _ hfin hv⟩
        · exact .inr (.inl ⟨_, hrun, hKK _ _ _ _ hfin hv⟩)
      · exact hv.elim
  · rename_i hw
    rw [if_neg (by rw [wanted_ok hS hw]; simp)]
    refine hKK _ _ _ _ ⟨by cases o.dst <;> exact hd, hn, β, Rd, Ow, hS.aput o.dst rfl (.raw _) (.raw _) rfl (fun g hg => by cases hg), hβ⟩ hv
  · exact hv.elim

theorem vx_go {all : Array Oper} {o : Oper} {K : List AV → Hp → Prop} {KC : Act → World → Prop} {a : Act} (hs : St ds E W F Rd0 β0 n fr H a w) (hv : vx P E all o K fr H) (hp : acallV o = false)
    (hKK : ∀ fr H a w, St ds E W F Rd0 β0 n fr H a w → K fr H → KC a w) : if Region.wanted o (yielded all a.tmps) then OpGo P o a w KC else KC (a.put o.dst undef) w := by
  obtain ⟨hd, hn, β, Rd, Ow, hS, hβ⟩ := hs
  unfold vx at hv
  unfold VWant at hv
  split at hv
  · rename_i hw
    rw [if_pos (wanted_ok hS hw)]
    have key : ∀ (v : AV) (fr' : List AV) (H' : Hp), StepOk P E W F Rd0 β H.length a o w v fr' H' → K (aput fr' o.dst v) H' → OpGo P o a w KC := fun v fr' H' hst hk => by
      obtain ⟨r, c, w', β', Rd', Ow', hrun, hr, hS', hβ', hlen⟩ := hst
      have hfin : St ds E W F Rd0 β0 n (aput fr' o.dst v) H' (a.put o.dst c) w' := ⟨by cases o.dst <;> exact hd, Nat.le_trans hn hlen, β', Rd', Ow', hS', fun i hi => (hβ' i (by omega)).trans (hβ i hi)⟩
      rcases hr with rfl | ⟨rfl, rfl⟩
      · exact .inl ⟨_, _, hrun, hKK _ _ _ _ hfin hk⟩
      · exact .inr (.inl ⟨_, hrun, hKK _ _ _ _ hfin hk⟩)
    unfold VCall at hv
    split at hv
    · rename_i f args hc
      rw [acall_acallV hc] at hp; cases hp
    unfold bindX at hv
    split at hv
    · rename_i v fr' H' ha
      exact key v fr' H' (abx_ok hS ha) hv
    · rename_i m f ha
      obtain ⟨c, h1, h2, h3⟩ := abx_ok hS ha
      exact key _ _ _ h3 (hv c h1 h2)
    · exact hv.elim
  · rename_i hw
    rw [if_neg (by rw [wanted_ok hS hw]; simp)]
    refine hKK _ _ _ _ ⟨by cases o.dst <;> exact hd, hn, β, Rd, Ow, hS.aput o.dst rfl (.raw _) (.raw _) rfl (fun g hg => by cases hg), hβ⟩ hv
  · exact hv.elim

theorem wpOpsIn_vcl {l m : Nat} {B : List Tmp} {all : Array Oper} {K : List AV → Hp → Prop} {KC : Exit → Act → World → Prop} (hK : ∀ fr H a w, St ds E W F Rd0 β0 n fr H a w → K fr H → KC .normal a w) :
    ∀ (d k : Nat) (pu : List Nat) (fr : List AV) (H : Hp) (a : Act) (w : World), k + d = all.size → nopL pu (all.toList.drop k) = true → St ds E W F Rd0 β0 n fr H a w → vcl P E B all K pu (all.toList.drop k) fr H → wpOpsIn (Fence.wide.inRound l) m P all KC (List.range' k d) a w
  | 0, k, pu, fr, H, a, w, hk, _, hs, hv => by
    have he : all.toList.drop k = [] := List.drop_eq_nil_of_le (by simp; omega)
    rw [he, vcl] at hv
    exact hK fr H a w hs hv
  | d + 1, k, pu, fr, H, a, w, hk, hp, hs, hv => by
    have hlt : k < all.toList.length := by simp; omega
    have h0 : all[k]? = some all.toList[k] := by rw [← Array.getElem?_toList]; exact List.getElem?_eq_getElem hlt
    rw [List.drop_eq_getElem_cons hlt] at hp hv
    unfold nopL at hp
    rw [Bool.and_eq_true] at hp
    rw [vcl] at hv
    rw [List.range'_succ]
    simp only [wpOpsIn, h0]
    split at hv
    · rename_i h3
      have hq : acallV all.toList[k] = false := by have := hp.1; rw [h3] at this; simpa using this
      have := vx_go hs hv hq (KC := fun a w => wpOpsIn (Fence.wide.inRound l) m P all KC (List.range' (k + 1) d) a w) fun fr H a w hs' hk' => wpOpsIn_vcl hK d (k + 1) _ fr H a w (by omega) hp.2 hs' hk'
      split
      · rename_i hw; rw [if_pos hw] at this; exact this.wpIn l
      · rename_i hw; rw [if_neg hw] at this; exact ⟨fun f _ => trivial, this⟩
    · have := vop_go hs hv (KC := fun a w => wpOpsIn (Fence.wide.inRound l) m P all KC (List.range' (k + 1) d) a w) fun fr H a w hs' hk' => wpOpsIn_vcl hK d (k + 1) _ fr H a w (by omega) hp.2 hs' hk'
      split
      · rename_i hw; rw [if_pos hw] at this; exact this.wpIn l
      · rename_i hw; rw [if_neg hw] at this; exact ⟨fun f _ => trivial, this⟩

/-- May code be walked so in a round? -/
def rndB (ND : List (Nat × List Nat)) : Code → Bool
  | .region id ops draw => !draw && (frzN (ndOf ND id)).isNone && (twoN (ndOf ND id)).isNone && nopL (flagsOf (ndOf ND id)) ops.toList
  | .seq a b => rndB ND a && rndB ND b
  | .cond _ a b => rndB ND a && rndB ND b
  | .block _ a => rndB ND a
  | .loop a => rndB ND a
  | .scope _ => false
  | _ => true

open Classical in
theorem vc_okIn {l m : Nat} {B : List Tmp} {ND : List (Nat × List Nat)} : ∀ (c : Code) (K : Exit → List AV → Hp → Prop) (KC : Exit → Act → World → Prop) (fr : List AV) (H : Hp) (a : Act) (w : World), rndB ND c = true → St ds E W F Rd0 β0 n fr H a w → vc P E B ND c K fr H →
    (∀ e fr H a w, St ds E W F Rd0 β0 n fr H a w → K e fr H → KC e a w) → c.wpIn (Fence.wide.inRound l) m P KC a w := by
  intro c
  induction c with
  | skip => intro K KC fr H a w _ hs h hK; exact wpIn_skip (hK _ _ _ _ _ hs h)
  | region id ops draw =>
    intro K KC fr H a w hreg hs h hK
    simp only [rndB, Bool.and_eq_true, Bool.not_eq_true', Option.isNone_iff_eq_none] at hreg
    obtain ⟨⟨⟨rfl, h1⟩, h2⟩, h3⟩ := hreg
    rw [vc, h1] at h
    simp only [h2] at h
    refine wpIn_region ?_
    rw [List.range_eq_range']
    exact wpOpsIn_vcl (fun fr' H' a' w' hs' hk => hK _ _ _ _ _ hs' hk) ops.size 0 _ fr H a w (by omega) h3 hs h
  | seq x y ih1 ih2 =>
    intro K KC fr H a w hreg hs h hK
    rw [vc] at h
    simp only [rndB, Bool.and_eq_true] at hreg
    refine wpIn_seq (ih1 _ _ fr H a w hreg.1 hs h (fun e fr' H' a' w' hs' hk => ?_))
    cases e with
    | normal => exact ih2 _ _ fr' H' a' w' hreg.2 hs' hk hK
    | _ => exact hK _ _ _ _ _ hs' hk
  | cond c x y ih1 ih2 =>
    intro K KC fr H a w hreg hs h hK
    rw [vc] at h
    simp only [rndB, Bool.and_eq_true] at hreg
    unfold VCond at h
    split at h
    · rename_i b hb
      have hs' := hs
      obtain ⟨_, _, β, Rd, Ow, hS, _⟩ := hs'
      have hc := (hS.eval rfl c).1
      rw [hb] at hc
      refine wpIn_cond (rel_bool hc) ?_
      cases b with
      | true => exact ih1 _ _ fr H a w hreg.1 hs (h.1 rfl) hK
      | false => exact ih2 _ _ fr H a w hreg.2 hs (h.2 rfl) hK
    · exact h.elim
  | block id c ih =>
    intro K KC fr H a w hreg hs h hK
    rw [vc] at h
    refine wpIn_block (ih _ _ fr H a w hreg hs h (fun e fr' H' a' w' hs' hk => ?_))
    cases e with
    | exit id' =>
      simp only [Exit.inBlock]
      split
      · rename_i he
        simp only [he, if_true] at hk
        exact hK _ _ _ _ _ hs' hk
      · rename_i he
        simp only [he, if_false] at hk
        exact hK _ _ _ _ _ hs' hk
    | _ => exact hK _ _ _ _ _ hs' hk
  | loop c ih =>
    intro K KC fr H a w hreg hs h hK
    rw [vc] at h
    obtain ⟨I, μ, fr1, H1, hn1, hn2, h0, hround⟩ := h
    have hs := hs.nilTo hn1 hn2
    let p : Act → World → Nat → Prop := fun a w k => ∃ fr H, St ds E W F Rd0 β0 n fr H a w ∧ I fr H ∧ μ fr H = k
    refine wpIn_loop (fun a w => ∃ k, p a w k) (fun a w => if h : ∃ k, p a w k then Classical.choose (least h) else 0) ⟨_, fr1, H1, hs, h0, rfl⟩ (fun a w hI => ?_)
    obtain ⟨⟨fr, H, hs, hI', hμ⟩, _⟩ := Classical.choose_spec (least hI)
    refine ih _ _ fr H a w hreg hs (hround fr H hI') (fun e fr' H' a' w' hs' hk => ?_)
    cases e with
    | normal =>
      obtain ⟨fr1, H1, n1, n2, hk1, hk2⟩ := hk
      have hp : p a' w' (μ fr1 H1) := ⟨fr1, H1, hs'.nilTo n1 n2, hk1, rfl⟩
      refine ⟨⟨_, hp⟩, ?_⟩
      rw [dif_pos hI, dif_pos ⟨_, hp⟩, ← hμ]
      exact Nat.lt_of_le_of_lt ((Classical.choose_spec (least ⟨_, hp⟩)).2 _ hp) hk2
    | _ => exact hK _ _ _ _ _ hs' hk
  | scope c ih => intro K KC fr H a w hreg; simp [rndB] at hreg
  | label l => intro K KC fr H a w _ hs h hK; exact wpIn_label (hK _ _ _ _ _ hs h)
  | exit id => intro K KC fr H a w _ hs h hK; exact wpIn_exit (hK _ _ _ _ _ hs h)
  | ret => intro K KC fr H a w _ hs h hK; exact wpIn_ret (hK _ _ _ _ _ hs h)
  | _ => intro K KC fr H a w _ hs h hK; exact h.elim
end

/-! ### Code that may range over functions -/
theorem putObj_at {w : World} {l b : Nat} {o : Obj} (h : b ≠ l) : (w.putObj l o).heap[b]? = w.heap[b]? := World.putObj_heap_other h
theorem putObj_cell {w : World} {l g o' : Nat} {o : Obj} (h : g ≠ l) : (w.putObj l o).cell? ⟨g, o', none⟩ = w.cell? ⟨g, o', none⟩ := World.cell?_of_block (a := ⟨g, o', none⟩) (putObj_at h)
theorem putObj_two {w : World} {l : Nat} {o o' : Obj} : (w.putObj l o).putObj l o' = w.putObj l o' := by
  unfold World.putObj
  simp only
  congr 1
  apply Array.ext_getElem?
  intro i
  by_cases h : l = i
  · subst h
    by_cases hl : l < w.heap.size
    · simp [hl]
    · simp [hl]
  · simp [Array.getElem?_setIfInBounds_ne h]
theorem putObj_self {w : World} {l : Nat} {o : Obj} (h : w.heap[l]? = some o) : w.putObj l o = w := by
  unfold World.putObj
  have : w.heap.setIfInBounds l o = w.heap := by
    apply Array.ext_getElem?
    intro i
    by_cases hi : l = i
    · subst hi
      have hl := (Array.getElem?_eq_some_iff.1 h).1
      rw [Array.getElem?_setIfInBounds_self_of_lt hl, h]
    · simp [Array.getElem?_setIfInBounds_ne hi]
  rw [this]

section
variable {P : Program} {E : Env} {W W2 : World} {F F2 : Nat → Prop} {Rd0 Rd2 : Nat → Nat → Prop} {w w' : World} {β β0 β' : Nat → Nat} {Rd Rd' : Nat → Nat → Prop} {Ow Ow' : Nat → Option Hold} {fr fr' : List AV} {H H' : Hp} {tmps : Array Value} {N n : Nat} {ds : List Deferred}

/-- A block that nobody holds or reads is turned, in the base as well. -/
theorem S3.putBoth (h : S3 E W F Rd0 w β Rd Ow fr H tmps) {l : Nat} (hb : ∀ i, i < H.length → β i ≠ l) (ho : Ow l = none) (hr : ∀ o, ¬ Rd l o) (hx : ¬ E.Fix l) (hr0 : ∀ o, ¬ Rd0 l o) (o : Obj) : S3 E (W.putObj l o) F Rd0 (w.putObj l o) β Rd Ow fr H tmps := by
  have hR : ∀ g o', Rd g o' → Rd g o' ∧ (w.putObj l o).cell? ⟨g, o', none⟩ = w.cell? ⟨g, o', none⟩ := fun g o' hg => ⟨hg, putObj_cell (fun e : g = l => hr o' (e ▸ hg))⟩
  have hO : ∀ g k, Ow g = some k → (w.putObj l o).heap[g]? = w.heap[g]? ∧ ∀ o', Rd g o' → Rd g o' := fun g k hg => ⟨putObj_at (fun e => by rw [e, ho] at hg; cases hg), fun _ h => h⟩
  refine ⟨⟨fun i ll hl => ?_, h.hr.inj, h.hr.sep, fun g k hg => by rw [World.putObj_size]; exact h.hr.ows g k hg, fun g o' hg => by rw [World.putObj_size]; exact h.hr.rds g o' hg, h.hr.bnd, fun b hb' => ?_, fun i ll t hl h0 => ?_⟩,
    ⟨h.ff.len, fun t x u hx hu => ?_⟩, ⟨fun b hb' => by rw [World.putObj_size]; exact h.fo.lt b hb', fun b hb' => ?_, h.fo.own, h.fo.box, h.fo.rd, h.fo.os, h.fo.tape, h.fo.output, by rw [World.putObj_size, World.putObj_size]; exact h.fo.size, fun g o' hg => ?_⟩, h.ne⟩
  · obtain ⟨T, cs, e1, e2, e3⟩ := h.hr.box i ll hl
    refine ⟨T, cs, (putObj_at (hb i (List.getElem?_eq_some_iff.1 hl).1)).trans e1, e2, fun j x u hx hu => ?_⟩
    obtain ⟨r1, r2, r3⟩ := e3 j x u hx hu
    exact ⟨r1.move (h.hr.bnd ll (mem_at hl) x (mem_at hx)) hR (fun g hg => hO g _ (r3 g hg)) (by simp) (fun _ _ => rfl), r2, r3⟩
  · obtain ⟨f1, f2, f3, f4⟩ := h.hr.fix b hb'
    exact ⟨(putObj_at (fun e : b = l => hx (e ▸ hb'))).trans f1, f2, f3, by rw [World.putObj_size]; exact f4⟩
  · obtain ⟨u, v, g1, g2⟩ := h.hr.bld i ll t hl h0
    exact ⟨u, v, (putObj_at (hb i (List.getElem?_eq_some_iff.1 hl).1)).trans g1, g2⟩
  · obtain ⟨r1, r2, r3⟩ := h.ff.rel t x u hx hu
    exact ⟨r1.move r2 hR (fun g hg => hO g _ (r3 g hg)) (by simp) (fun _ _ => rfl), r2, r3⟩
  · by_cases e : b = l
    · subst e
      rw [World.putObj_heap_same (h.fo.lt b hb'), World.putObj_heap_same (Nat.lt_of_lt_of_le (h.fo.lt b hb') h.fo.size)]
    · rw [putObj_at e, putObj_at e]; exact h.fo.same b hb'
  · have e : g ≠ l := fun e => hr0 o' (e ▸ hg)
    rw [putObj_cell e, putObj_cell e]; exact h.fo.keep g o' hg

/-- Another base, which says more. -/
structure Rb (W W2 : World) (F F2 : Nat → Prop) (Rd0 Rd2 : Nat → Nat → Prop) (n n2 : Nat) (β0 β2 : Nat → Nat) : Prop where
  blk : ∀ b, F b → F2 b ∧ W2.heap[b]? = W.heap[b]?
  rd : ∀ b o, F b → Rd2 b o → Rd0 b o
  keep : ∀ g o, Rd0 g o → Rd2 g o ∧ W2.cell? ⟨g, o, none⟩ = W.cell? ⟨g, o, none⟩
  len : n ≤ n2
  old : ∀ i, i < n → β2 i = β0 i
  os : W2.os = W.os
  tape : W2.tape = W.tape
  output : W2.output = W.output
  size : W.heap.size ≤ W2.heap.size
theorem Rb.refl : Rb W W F F Rd0 Rd0 n n β0 β0 := ⟨fun b hb => ⟨hb, rfl⟩, fun _ _ _ h => h, fun g o h => ⟨h, rfl⟩, Nat.le_refl _, fun _ _ => rfl, rfl, rfl, rfl, Nat.le_refl _⟩

/-- The marks of loops that are over. -/
structure Mks (W0 W2 : World) (F2 : Nat → Prop) (Rd2 : Nat → Nat → Prop) (ds : List Deferred) : Prop where
  all : ∀ d ∈ ds, ∃ D, d = { target := .collected D, args := #[] } ∧ F2 D ∧ W2.heap[D]? = some (.deferred (some [])) ∧ W0.heap.size ≤ D ∧ ∀ o, ¬ Rd2 D o
  ne : ds.Pairwise fun a b => a ≠ b
def fen : Option Nat → Fence
  | none => Fence.wide
  | some l => Fence.wide.inRound l
def St2 (ro : Option Nat) (E : Env) (W : World) (F : Nat → Prop) (Rd0 : Nat → Nat → Prop) (β0 : Nat → Nat) (n : Nat) (fr : List AV) (H : Hp) (a : Act) (w : World) : Prop :=
  ∃ ds W2 F2 Rd2 n2 β2, St ds E W2 F2 Rd2 β2 n2 fr H a w ∧ Rb W W2 F F2 Rd0 Rd2 n n2 β0 β2 ∧ Mks W W2 F2 Rd2 ds ∧ (ro ≠ none → ds = [])
/-- In a round the loop's record lies at its place. -/
def RoOk (ro : Option Nat) (E : Env) (W : World) (F : Nat → Prop) : Prop := ∀ l, ro = some l → F l ∧ ∃ r0, W.heap[l]? = some (.loop r0)
/-- CODE, walked. -/
def Okc (P : Program) (E : Env) (ro : Option Nat) (c : Code) (K : Exit → List AV → Hp → Prop) (fr : List AV) (H : Hp) : Prop :=
  ∀ (W : World) (F : Nat → Prop) (Rd0 : Nat → Nat → Prop) (β0 : Nat → Nat) (n : Nat) (a : Act) (w : World) (KC : Exit → Act → World → Prop), RoOk ro E W F → St2 ro E W F Rd0 β0 n fr H a w →
    (∀ e fr H a w, St2 ro E W F Rd0 β0 n fr H a w → K e fr H → KC e a w) → c.wpIn (fen ro) 0 P KC a w

theorem Okc.mono {ro : Option Nat} {c : Code} {K K' : Exit → List AV → Hp → Prop} (h : Okc P E ro c K fr H) (hk : ∀ e fr H, K e fr H → K' e fr H) : Okc P E ro c K' fr H :=
  fun W F Rd0 β0 n a w KC h1 h2 h3 => h W F Rd0 β0 n a w KC h1 h2 fun e fr H a w hs hK => h3 e fr H a w hs (hk e fr H hK)
theorem Okc.seq {ro : Option Nat} {x y : Code} {K : Exit → List AV → Hp → Prop} (h : Okc P E ro x (fun e fr H => match e with
    | .normal => Okc P E ro y K fr H
    | e => K e fr H) fr H) : Okc P E ro (.seq x y) K fr H := fun W F Rd0 β0 n a w KC h1 h2 h3 => wpIn_seq (h W F Rd0 β0 n a w _ h1 h2 fun e fr' H' a' w' hs hk => by
  cases e with
  | normal => exact hk W F Rd0 β0 n a' w' KC h1 hs h3
  | _ => exact h3 _ _ _ _ _ hs hk)
theorem Okc.block {ro : Option Nat} {id : Nat} {x : Code} {K : Exit → List AV → Hp → Prop} (h : Okc P E ro x (fun e fr H => match e with
    | .exit id' => if id' = id then K .normal fr H else K (.exit id') fr H
    | e => K e fr H) fr H) : Okc P E ro (.block id x) K fr H := fun W F Rd0 β0 n a w KC h1 h2 h3 => wpIn_block (h W F Rd0 β0 n a w _ h1 h2 fun e fr' H' a' w' hs hk => by
  cases e with
  | exit id' =>
    simp only [Exit.inBlock]
    split
    · rename_i he
      simp only [he, if_true] at hk
      exact h3 _ _ _ _ _ hs hk
    · rename_i he
      simp only [he, if_false] at hk
      exact h3 _ _ _ _ _ hs hk
  | _ => exact h3 _ _ _ _ _ hs hk)
/-- Nil slices may be seen as slices of no rows. -/
theorem Okc.nilTo {ro : Option Nat} {c : Code} {K : Exit → List AV → Hp → Prop} {fr1 : List AV} {H1 : Hp} (h : Okc P E ro c K fr1 H1) (hf : nilL fr fr1) (hH : nilH H H1) : Okc P E ro c K fr H :=
  fun W F Rd0 β0 n a w KC h1 ⟨ds, W2, F2, Rd2, n2, β2, hS, h2⟩ h3 => h W F Rd0 β0 n a w KC h1 ⟨ds, W2, F2, Rd2, n2, β2, hS.nilTo hf hH, h2⟩ h3
/-- Code that ranges over no function. -/
theorem Okc.vc {B : List Tmp} {ND : List (Nat × List Nat)} {c : Code} {K : Exit → List AV → Hp → Prop} (hok : (P.follows .mixedOrders && noFrz ND && regsB B ND c && pansB ND c) = true) (h : Go.Proofs.Ytgofogcfolhonaa.vc P E B ND c K fr H) : Okc P E none c K fr H := by
  simp only [Bool.and_eq_true] at hok
  obtain ⟨⟨⟨hm, hz⟩, hreg⟩, hpan⟩ := hok
  intro W F Rd0 β0 n a w KC h1 h2 h3
  obtain ⟨ds, W2, F2, Rd2, n2, β2, hS, hRb, hds, hro⟩ := h2
  exact wpIn_wide.2 (vc_ok hm (fun id m hm => absurd hm (noFrz_spec hz id m)) c K KC fr H a w hreg (.inl hpan) hS h fun e fr' H' a' w' hs hk => h3 _ _ _ _ _ ⟨ds, W2, F2, Rd2, n2, β2, hs, hRb, hds, hro⟩ hk)
/-- .. and what comes behind it. -/
theorem Okc.sq {B : List Tmp} {ND : List (Nat × List Nat)} {x y : Code} {K : Exit → List AV → Hp → Prop} (hok : (P.follows .mixedOrders && noFrz ND && regsB B ND x && pansB ND x) = true) (h : Go.Proofs.Ytgofogcfolhonaa.vc P E B ND x (fun e fr H => match e with
    | .normal => Okc P E none y K fr H
    | e => K e fr H) fr H) : Okc P E none (.seq x y) K fr H := Okc.seq (Okc.vc hok h)
theorem Okc.vcR {l : Nat} {B : List Tmp} {ND : List (Nat × List Nat)} {c : Code} {K : Exit → List AV → Hp → Prop} (hok : rndB ND c = true) (h : Go.Proofs.Ytgofogcfolhonaa.vc P E B ND c K fr H) : Okc P E (some l) c K fr H := by
  intro W F Rd0 β0 n a w KC h1 h2 h3
  obtain ⟨ds, W2, F2, Rd2, n2, β2, hS, hRb, hds, hro⟩ := h2
  exact vc_okIn c K KC fr H a w hok hS h fun e fr' H' a' w' hs hk => h3 _ _ _ _ _ ⟨ds, W2, F2, Rd2, n2, β2, hs, hRb, hds, hro⟩ hk

/-- WHAT AN ITERATOR PROMISES that goes over a slice which it holds in a variable: it hands on each row's number and what stands there. -/
def Iter (P : Program) (gf : Nat) : Prop := ∀ (l : Nat) (J : Nat → World → Prop) (Jx : World → Prop) (B0 : Addr) (v : Value) (xs : List Value) (W : World), W.cell? B0 = some v → (∀ i X, J i X → RSl X 1 v xs.length xs) → xs.length ≤ 9223372036854775807 → (∀ i X, J i X → J i X.drew) →
  (∀ i x X, J i X → xs[i]? = some x → YieldAt Fence.wide 0 P l #[.int .i64 i, x] X fun e X' => (e = .returned (.bool true) ∧ J (i + 1) X') ∨ (e = .returned (.bool false) ∧ Jx X')) → J 0 W →
  CallsIn Fence.wide 0 P gf #[.func (.yield l) #[] #[], .pointer (some B0)] W fun e X => (∃ v, e = .returned v) ∧ (J xs.length X ∨ Jx X)

/-- Entering the loop. -/
theorem enter_run (ro : Option Nat) (fn : FuncId) (tmps : Array Value) (ps : Array Tmp) (assign body : Code) (w : World) (hro : ∀ l, ro = some l → ∃ r0, w.heap[l]? = some (.loop r0)) : ∃ l mark Dr w1, (Instr.enterLoop fn tmps ps assign body (fen ro).round).run P w = .ok (l, mark) w1 ∧
    w1.heap[l]? = some (.loop { state := .ready, pending := none, fn, tmps, params := ps, assign, body, defers := Dr }) ∧ w.heap.size ≤ l ∧ (∀ b, b < w.heap.size → w1.heap[b]? = w.heap[b]?) ∧ w.heap.size ≤ w1.heap.size ∧ w1.os = w.os ∧ w1.tape = w.tape ∧ w1.output = w.output ∧
    ((ro ≠ none ∧ mark = []) ∨ (ro = none ∧ mark = [{ target := .collected Dr, args := #[] }] ∧ w.heap.size ≤ Dr ∧ Dr ≠ l ∧ w1.heap[Dr]? = some (.deferred (some [])))) := by
  cases ro with
  | none =>
    refine ⟨_, _, w.heap.size, _, run_enterLoop_outer fn tmps ps assign body, ?_, by omega, fun b hb => ?_, by simp; omega, rfl, rfl, rfl, .inr ⟨rfl, rfl, Nat.le_refl _, by omega, ?_⟩⟩
    · have := World.alloc_heap_new (w.alloc (.deferred (some []))) (.loop { state := .ready, pending := none, fn, tmps, params := ps, assign, body, defers := w.heap.size })
      rwa [World.size_alloc] at this
    · exact (heap_alloc_old _ _ (by simp; omega)).trans (heap_alloc_old w _ hb)
    · exact (heap_alloc_old _ _ (by simp)).trans (World.alloc_heap_new w _)
  | some l0 =>
    obtain ⟨r0, h0⟩ := hro l0 rfl
    refine ⟨_, _, r0.defers, _, run_enterLoop_inner h0 fn tmps ps assign body, World.alloc_heap_new w _, Nat.le_refl _, fun b hb => heap_alloc_old w _ hb, by simp, rfl, rfl, rfl, .inl ⟨by simp, rfl⟩⟩

/-- A round's end, as the loop sees it. -/
def RK (I : Nat → Hp → Prop) (Ix : Nat → Hp → Prop) (i : Nat) : Exit → List AV → Hp → Prop
  | .normal, _, H => I (i + 1) H
  | .exit id, _, H => Ix id H
  | _, _, _ => False
/-- The frame of a round. -/
def frR (fr : List AV) (p1 p2 : Nat) (i : Nat) (y : AV) : List AV := ((fr.map AV.dis).set p1 (.int .i64 i)).set p2 y

theorem Okc.rf {ro : Option Nat} {o0 : Bool} {g : Operand} {p1 p2 : Tmp} {assign body : Code} {gf b : Nat} {rows : List AV} {K : Exit → List AV → Hp → Prop} (hB : hasB P gf = true) (hg : aeval fr g = .fn gf [.ptr (some (b, 0))]) (hit : Iter P gf)
    (I : Nat → Hp → Prop) (Ix : Nat → Hp → Prop) (h0 : I 0 H) (hb : H[b]? = some [.sl o0 1 (rows.map fun y => [y])])
    (hround : ∀ l i H' y, I i H' → rows[i]? = some y → BndH H'.length H' → Okc P E (some l) assign (fun e fr1 H1 => e = .normal ∧ Okc P E (some l) body (RK I Ix i) fr1 H1) (frR fr p1 p2 i y) H')
    (hdone : ∀ H', I rows.length H' → BndH H'.length H' → H.length ≤ H'.length → K .normal fr H') (hexit : ∀ id H', Ix id H' → BndH H'.length H' → H.length ≤ H'.length → K (.exit id) fr H') : Okc P E ro (.rangeFunc g #[p1, p2] assign body) K fr H := by
  intro W F Rd0 β0 n a w KC hro h2 h3
  obtain ⟨ds, W2, F2, Rd2, n2, β2, ⟨hd, hn, β, Rd, Ow, hS, hβ⟩, hRb, hds, hro2⟩ := h2
  -- the iterator's value
  have hfe := (hS.eval rfl g).1
  rw [hg] at hfe
  obtain ⟨vs, hge, hl, _, hr⟩ : ∃ vs, a.eval g = .func (.func gf) #[] vs ∧ vs.size = 1 ∧ True ∧ ∀ (j : Nat) x u, [AV.ptr (some (b, 0))][j]? = some x → vs[j]? = some u → Rel w β Rd x u := by
    rcases rel_fn hfe with ⟨vs, e1, e2, e3, _, e4⟩ | ⟨x, u, e, _⟩
    · exact ⟨vs, e1, e2, trivial, e4⟩
    · cases e
  have hvs : vs = #[.pointer (some ⟨β b, 0, none⟩)] := by
    match vs, hl with
    | ⟨[u]⟩, _ => have := hr 0 _ u rfl rfl; rw [rel_ptr this]
  subst hvs
  refine wpIn_rangeFunc ?_
  intro fn hfn
  obtain ⟨l, mark, Dr, w1, hrun, hrec, hlge, hold, hsz, hos, htape, hout, hmark⟩ := enter_run (P := P) ro fn a.tmps #[p1, p2] assign body w (fun l0 e => by
    obtain ⟨h1, r0, h2⟩ := hro l0 e
    exact ⟨r0, (hS.fo.same l0 (hRb.blk l0 h1).1).trans ((hRb.blk l0 h1).2.trans h2)⟩)
  have hcf : ∀ args w, (callFunc gf args).run P w = .ok (.enter gf args) w := by
    intro args w
    unfold hasB at hB
    split at hB
    · rename_i fn hfn
      simp only [Bool.and_eq_true, Bool.not_eq_true'] at hB
      obtain ⟨hb1, hb2⟩ := hB
      have hb3 : fn.body.isNone = false := by cases hq : fn.body <;> simp_all
      simp [callFunc, hfn, hb2, hb3]
      split
      · rename_i he; rw [he] at hb2; simp at hb2
      · split
        · rename_i he; rw [he] at hb3; simp at hb3
        · rfl
    · cases hB
  refine ⟨l, mark, w1, { target := .fn (.func gf) #[.pointer (some ⟨β b, 0, none⟩)], args := #[.func (.yield l) #[] #[]] }, w1, gf, #[.func (.yield l) #[] #[], .pointer (some ⟨β b, 0, none⟩)], w1, hrun, ?_, fun _ _ => (by cases ro <;> trivial), ?_, fun h => (by cases ro <;> cases h), ?_⟩
  · simp only [resolve, hge]
    simp [go_sem]
  · simp [invoke, go_sem, hcf]
  -- the new base
  have hlt1 : l < w1.heap.size := (Array.getElem?_eq_some_iff.1 hrec).1
  obtain ⟨F', hF'⟩ : ∃ F' : Nat → Prop, F' = fun b => b < w1.heap.size ∧ (∀ i, i < H.length → β i ≠ b) ∧ Ow b = none := ⟨_, rfl⟩
  have hS1 : S3 E w1 F' Rd w1 β Rd Ow fr H a.tmps := by
    have := hS.move (w' := w1) (Rd' := Rd) (fun g o hg => ⟨hg, World.cell?_of_block (a := ⟨g, o, none⟩) (hold g (hS.hr.rds g o hg))⟩) (fun b hb => ⟨hold b hb, fun _ h => h⟩) (fun g o hg => Nat.lt_of_lt_of_le (hS.hr.rds g o hg) hsz) hsz hos htape hout
    exact ⟨this.hr, this.ff, ⟨fun b hb => by rw [hF'] at hb; exact hb.1, fun _ _ => rfl, fun b hb => by rw [hF'] at hb; exact hb.2.2, fun b i hb hi => by rw [hF'] at hb; exact hb.2.1 i hi, fun _ _ _ h => h, rfl, rfl, rfl, Nat.le_refl _, fun _ _ h => ⟨h, rfl⟩⟩, this.ne⟩
  have hbox : ∀ i, i < H.length → β i < w.heap.size := fun i hi => by
    obtain ⟨T, cs, e1, _⟩ := hS.hr.box i _ (List.getElem?_eq_getElem hi)
    exact blk_lt1 e1
  have fresh : ∀ b, w.heap.size ≤ b → b < w1.heap.size → F' b := fun b h1 h2 => by
    rw [hF']
    refine ⟨h2, fun i hi e => by have := hbox i hi; omega, ?_⟩
    cases ho : Ow b with
    | none => rfl
    | some k => have := hS.hr.ows b k ho; omega
  have hFl := fresh l hlge hlt1
  have hRdl : ∀ o, ¬ Rd l o := fun o h => by have := hS.hr.rds l o h; omega
  have hxl : ¬ E.Fix l := fun h => by have := (hS.hr.fix l h).2.2.2; omega
  have hRb1 : Rb W w1 F F' Rd0 Rd n H.length β0 β := by
    refine ⟨fun b hb => ?_, fun b o hb h => hRb.rd b o hb (hS.fo.rd b o (hRb.blk b hb).1 h), fun g o hg => ?_, Nat.le_trans hRb.len hn, fun i hi => (hβ i (Nat.lt_of_lt_of_le hi hRb.len)).trans (hRb.old i hi), hos.trans (hS.fo.os.trans hRb.os), htape.trans (hS.fo.tape.trans hRb.tape), hout.trans (hS.fo.output.trans hRb.output), Nat.le_trans hRb.size (Nat.le_trans hS.fo.size hsz)⟩
    · obtain ⟨k1, k2⟩ := hRb.blk b hb
      have hbl : b < w.heap.size := Nat.lt_of_lt_of_le (hS.fo.lt b k1) hS.fo.size
      exact ⟨by rw [hF']; exact ⟨by omega, fun i hi => hS.fo.box b i k1 hi, hS.fo.own b k1⟩, (hold b hbl).trans ((hS.fo.same b k1).trans k2)⟩
    · obtain ⟨k1, k2⟩ := hRb.keep g o hg
      obtain ⟨k3, k4⟩ := hS.fo.keep g o k1
      exact ⟨k3, (World.cell?_of_block (a := ⟨g, o, none⟩) (hold g (hS.hr.rds g o k3))).trans (k4.trans k2)⟩
  obtain ⟨rec, hrecd⟩ : ∃ rec : LoopState → Option Code → Loop, rec = fun st pe => { state := st, pending := pe, fn, tmps := a.tmps, params := #[p1, p2], assign, body, defers := Dr } := ⟨_, rfl⟩
  have hrec1 : w1.heap[l]? = some (.loop (rec .ready none)) := by rw [hrecd]; exact hrec
  -- between two rounds
  obtain ⟨J, hJ⟩ : ∃ J : Nat → World → Prop, J = fun i X => ∃ H' β' Rd' Ow', I i H' ∧ S3 E w1 F' Rd X β' Rd' Ow' fr H' a.tmps ∧ (∀ j, j < H.length → β' j = β j) ∧ H.length ≤ H'.length := ⟨_, rfl⟩
  obtain ⟨Jx, hJx⟩ : ∃ Jx : World → Prop, Jx = fun X => ∃ id H' β' Rd' Ow', Ix id H' ∧ S3 E (w1.putObj l (.loop (rec .done (some (.exit id))))) F' Rd X β' Rd' Ow' fr H' a.tmps ∧ (∀ j, j < H.length → β' j = β j) ∧ H.length ≤ H'.length := ⟨_, rfl⟩
  have free : ∀ {Wb X : World} {β' : Nat → Nat} {Rd' : Nat → Nat → Prop} {Ow' : Nat → Option Hold} {fr' : List AV} {H' : Hp} {tm : Array Value}, S3 E Wb F' Rd X β' Rd' Ow' fr' H' tm → (∀ i, i < H'.length → β' i ≠ l) ∧ Ow' l = none ∧ (∀ o, ¬ Rd' l o) := fun h => ⟨fun i hi => h.fo.box l i hFl hi, h.fo.own l hFl, fun o ho => hRdl o (h.fo.rd l o hFl ho)⟩
  -- what the iterator reads
  obtain ⟨T0, cs0, c1, c2, c3⟩ := hS1.hr.box b _ hb
  obtain ⟨v, hv⟩ : ∃ v, cs0[0]? = some v := ⟨_, Array.getElem?_eq_getElem (by rw [c2]; simp)⟩
  have hvc : w1.cell? ⟨β b, 0, none⟩ = some v := by rw [cell_blk c1]; exact hv
  have hrel := (c3 0 _ v rfl hv).1
  obtain ⟨xs, hxl2, hxr, hxd, hxrel⟩ : ∃ xs : List Value, xs.length = rows.length ∧ RSl w1 1 v xs.length xs ∧ (∀ g o n c, v = .slice (some ⟨g, o, none⟩) n c → ∀ j, j < xs.length → Rd g (o + j)) ∧ ∀ (j : Nat) y u, rows[j]? = some y → xs[j]? = some u → Rel w1 β Rd y u ∧ y.free = true := by
    cases hrel with
    | sl _ _ _ _ xs hk hx hdd ho hf hr =>
      have hl0 : (rows.map fun y => [y]).length = rows.length := List.length_map ..
      have hxl3 : xs.length = rows.length := by have := hx.1; rw [hl0] at this; omega
      rw [hl0, ← hxl3] at hx
      refine ⟨xs, hxl3, hx, fun g o n c e j hj => hdd g o n c e j (by rw [hl0, ← hxl3]; omega), fun j y u hy hu => ?_⟩
      have hfl : (rows.map fun y => [y]).flatten = rows := flat1 rows
      refine ⟨hr j y u (by rw [hfl]; exact hy) hu, (hf [y] (List.mem_map.2 ⟨y, mem_at hy, rfl⟩) y (by simp)).1⟩
  have hxm : xs.length ≤ 9223372036854775807 := by
    obtain ⟨_, ao, c, rfl, h1, h2, _⟩ := hxr
    unfold maxLen at h2
    omega
  have hread : ∀ i X, J i X → RSl X 1 v xs.length xs := fun i X hj => by
    rw [hJ] at hj
    obtain ⟨H', β', Rd', Ow', _, hS', _⟩ := hj
    obtain ⟨h1, ao, c, hv', h2, h3, h4⟩ := hxr
    refine ⟨h1, ao, c, hv', h2, h3, fun hn => ?_⟩
    obtain ⟨g, o, rfl, h5⟩ := h4 hn
    exact ⟨g, o, rfl, fun j hj => (hS'.fo.keep g (o + j) (hxd g o _ c hv' j (by omega))).2.trans (h5 j hj)⟩
  have hcall : CallsIn (fen ro) 0 P gf #[.func (.yield l) #[] #[], .pointer (some ⟨β b, 0, none⟩)] w1 fun e X => (∃ v, e = .returned v) ∧ (J xs.length X ∨ Jx X) := by
    have hmain := hit l J Jx ⟨β b, 0, none⟩ v xs w1 hvc hread hxm (fun i X hj => by
      rw [hJ] at hj ⊢
      obtain ⟨H', β', Rd', Ow', k1, k2, k3, k4⟩ := hj
      exact ⟨H', β', Rd', Ow', k1, k2.drew, k3, k4⟩) (fun i x X hj hx => ?_) (by rw [hJ]; exact ⟨H, β, Rd, Ow, h0, hS1, fun _ _ => rfl, Nat.le_refl _⟩)
    · cases ro with
      | none => exact hmain
      | some l0 => exact hmain.inRound l0
    -- a round
    rw [hJ] at hj
    obtain ⟨H', β', Rd', Ow', hI, hS', hβ', hlen'⟩ := hj
    have hX : X.heap[l]? = some (.loop (rec .ready none)) := (hS'.fo.same l hFl).trans hrec1
    have hXl : l < X.heap.size := (Array.getElem?_eq_some_iff.1 hX).1
    have hy := run_yield (P := P) (args := #[.int .i64 i, x]) hX (by rw [hrecd]; rfl)
    rw [hrecd] at hy
    have hir : i < rows.length := by have := (List.getElem?_eq_some_iff.1 hx).1; omega
    obtain ⟨y, hyr⟩ : ∃ y, rows[i]? = some y := ⟨_, List.getElem?_eq_getElem hir⟩
    obtain ⟨hyx, hyf⟩ := hxrel i y x hyr hx
    have hyb : Bnd H.length y := by
      have := hS1.hr.bnd _ (mem_at hb) _ (List.mem_cons_self ..)
      cases this with
      | sl _ _ _ hh => exact hh [y] (List.mem_map.2 ⟨y, mem_at hyr, rfl⟩) y (by simp)
    have hyX : Rel X β' Rd' y x := hyx.move (N := H.length) hyb (fun g o hg => hS'.fo.keep g o hg) (fun g hg => by rw [own0_free hyf] at hg; cases hg) (Nat.le_trans (Nat.le_refl _) hS'.fo.size) hβ'
    refine ⟨fn, _, assign, body, hy, roundIn_of_wpIn (F := Fence.wide) trivial ?_⟩
    clear hy
    -- the frame of the round
    obtain ⟨Fx, hFx⟩ : ∃ Fx : Nat → Prop, Fx = fun b => b < X.heap.size ∧ (∀ i, i < H'.length → β' i ≠ b) ∧ cells (Ow' b) = none := ⟨_, rfl⟩
    have htm : ((#[p1, p2].zip #[Value.int .i64 i, x]).foldl (fun t (p, v) => t.setIfInBounds p v) a.tmps) = (a.tmps.setIfInBounds p1 (.int .i64 i)).setIfInBounds p2 x := by simp
    have hSx : S3 E X Fx Rd' X β' Rd' (fun g => cells (Ow' g)) (frR fr p1 p2 i y) H' ((a.tmps.setIfInBounds p1 (.int .i64 i)).setIfInBounds p2 x) := by
      have b0 : S3 E X Fx Rd' X β' Rd' (fun g => cells (Ow' g)) (fr.map AV.dis) H' a.tmps := by
        refine ⟨hr_cells hS'.hr, ⟨by rw [List.length_map]; exact hS'.ff.len, fun t z u hz hu => ?_⟩, ⟨fun b hb => by rw [hFx] at hb; exact hb.1, fun _ _ => rfl, fun b hb => by rw [hFx] at hb; exact hb.2.2, fun b i hb hi => by rw [hFx] at hb; exact hb.2.1 i hi, fun _ _ _ h => h, rfl, rfl, rfl, Nat.le_refl _, fun _ _ h => ⟨h, rfl⟩⟩, fun z hz => ?_⟩
        · rw [List.getElem?_map] at hz
          obtain ⟨z0, hz0, rfl⟩ := Option.map_eq_some_iff.1 hz
          obtain ⟨r1, r2, r3⟩ := hS'.ff.rel t z0 u hz0 hu
          refine ⟨r1.dis, r2.dis, fun g hg => ?_⟩
          rw [own0_free (hS'.ne z0 (mem_at hz0))] at hg; cases hg
        · obtain ⟨z0, hz0, rfl⟩ := List.mem_map.1 hz
          rw [dis_of_free (hS'.ne z0 hz0)]
          exact hS'.ne z0 hz0
      have b1 := b0.put p1 (v := .int .i64 i) (c := .int .i64 i) (.int _ _) (.int _ _) rfl (fun g hg => by cases hg)
      have b2 := b1.put p2 (v := y) (c := x) hyX (hyb.mono hlen') (by rw [dis_of_free hyf]; exact hyf) (fun g hg => by rw [own0_free hyf] at hg; cases hg)
      exact b2
    have hFxl : Fx l := by
      rw [hFx]
      obtain ⟨k1, k2, k3⟩ := free hS'
      exact ⟨hXl, k1, by rw [k2]; rfl⟩
    have hRdxl : ∀ o, ¬ Rd' l o := (free hS').2.2
    rw [htm]
    have hass := hround l i H' y hI hyr hS'.hr.bnd
    refine hass X Fx Rd' β' H'.length _ X _ (fun l' e => by cases e; exact ⟨hFxl, _, hX⟩) ⟨[], X, Fx, Rd', H'.length, β', ⟨rfl, Nat.le_refl _, β', Rd', _, hSx, fun _ _ => rfl⟩, Rb.refl, ⟨fun d hd => (by cases hd), .nil⟩, fun _ => rfl⟩ ?_
    rintro e fr1 H1 a1 wa hsa ⟨rfl, hbody⟩
    obtain ⟨dsa, Wa, Fa, Rda, na, βa, ⟨hda, hna, βb, Rdb, Owb, hSa, hβa⟩, hRba, hdsa, hroa⟩ := hsa
    have hd0 := hroa (by simp)
    subst hd0
    obtain ⟨ka1, ka2⟩ := hRba.blk l hFxl
    have hwal : wa.heap[l]? = some (.loop (rec .ready none)) := (hSa.fo.same l ka1).trans (ka2.trans hX)
    have hrb := run_beginRound (P := P) hwal (by rw [hrecd])
    refine ⟨_, hrb, ?_⟩
    obtain ⟨bz, hbz⟩ : ∃ bz : Obj, bz = .loop { rec .ready none with state := .busy } := ⟨_, rfl⟩
    rw [← hbz] at hrb ⊢
    have hRdal : ∀ o, ¬ Rda l o := fun o h => hRdxl o (hRba.rd l o hFxl h)
    have hSa2 : S3 E (Wa.putObj l bz) Fa Rda (wa.putObj l bz) βb Rdb Owb fr1 H1 a1.tmps := hSa.putBoth (fun i hi => hSa.fo.box l i ka1 hi) (hSa.fo.own l ka1) (fun o ho => hRdal o (hSa.fo.rd l o ka1 ho)) hxl hRdal bz
    have hRbz : Rb (X.putObj l bz) (Wa.putObj l bz) Fx Fa Rd' Rda H'.length na β' βa := by
      refine ⟨fun b hb => ?_, hRba.rd, fun g o hg => ?_, hRba.len, hRba.old, hRba.os, hRba.tape, hRba.output, by rw [World.putObj_size, World.putObj_size]; exact hRba.size⟩
      · refine ⟨(hRba.blk b hb).1, ?_⟩
        by_cases e : b = l
        · subst e
          rw [World.putObj_heap_same hXl, World.putObj_heap_same (Nat.lt_of_lt_of_le hXl hRba.size)]
        · rw [putObj_at e, putObj_at e]; exact (hRba.blk b hb).2
      · have e : g ≠ l := fun e => hRdxl o (e ▸ hg)
        rw [putObj_cell e, putObj_cell e]; exact hRba.keep g o hg
    refine hbody (X.putObj l bz) Fx Rd' β' H'.length a1 (wa.putObj l bz) _ (fun l' e => by cases e; exact ⟨hFxl, _, by rw [World.putObj_heap_same hXl, hbz]⟩) ⟨[], Wa.putObj l bz, Fa, Rda, na, βa, ⟨hda, hna, βb, Rdb, Owb, hSa2, hβa⟩, hRbz, ⟨fun d hd => (by cases hd), .nil⟩, fun _ => rfl⟩ ?_
    -- the round's end
    rintro e fr3 H3 a3 w3 hs3 hk3
    obtain ⟨ds3, W3, F3, Rd3, n3, β3, ⟨hd3, hn3, βc, Rdc, Owc, hSc, hβc⟩, hRbc, hds3, hro3⟩ := hs3
    have hw3l : w3.heap[l]? = some bz := by
      obtain ⟨k1, k2⟩ := hRbc.blk l hFxl
      exact (hSc.fo.same l k1).trans (k2.trans (World.putObj_heap_same hXl))
    have hXz : S3 E (w1.putObj l bz) F' Rd (X.putObj l bz) β' Rd' Ow' fr H' a.tmps := hS'.putBoth (free hS').1 (free hS').2.1 (free hS').2.2 hxl hRdl bz
    have hlen3 : H'.length ≤ H3.length := Nat.le_trans hRbc.len hn3
    have hpost : Post E (X.putObj l bz) β' Rd' (fun g => cells (Ow' g)) H' w3 βc Rdc Owc H3 (.raw undef) undef := by
      refine ⟨.raw _, .raw _, fun g hg => (by cases hg), rfl, hSc.hr, fun j hj => (hβc j (Nat.lt_of_lt_of_le hj hRbc.len)).trans (hRbc.old j hj), hlen3, fun g o hg => ?_, fun bb hb1 hb2 hb3 => ?_, hSc.fo.os.trans hRbc.os, hSc.fo.tape.trans hRbc.tape, hSc.fo.output.trans hRbc.output, Nat.le_trans hRbc.size hSc.fo.size⟩
      · obtain ⟨k1, k2⟩ := hRbc.keep g o hg
        obtain ⟨k3, k4⟩ := hSc.fo.keep g o k1
        exact ⟨k3, k4.trans k2⟩
      · have hbF : Fx bb := by rw [hFx]; exact ⟨by rw [World.putObj_size] at hb1; exact hb1, hb2, hb3⟩
        obtain ⟨k1, k2⟩ := hRbc.blk bb hbF
        exact ⟨(hSc.fo.same bb k1).trans k2, hSc.fo.own bb k1, fun j hj => hSc.fo.box bb j k1 hj, fun o ho => hRbc.rd bb o hbF (hSc.fo.rd bb o k1 ho)⟩
    have hcp := call_post (a := { a with tmps := a.tmps }) hXz hpost none
    have hcp : S3 E (w1.putObj l bz) F' Rd w3 βc Rdc (fun g => merge none (Ow' g) (Owc g)) fr H3 a.tmps := hcp
    have hβ3 : ∀ j, j < H.length → βc j = β j := fun j hj => (hβc j (Nat.lt_of_lt_of_le (Nat.lt_of_lt_of_le hj hlen') hRbc.len)).trans ((hRbc.old j (Nat.lt_of_lt_of_le hj hlen')).trans (hβ' j hj))
    have fin : ∀ (jump : Option Code), (Instr.endRound l jump).run P w3 = .ok (.bool jump.isNone) (w3.putObj l (.loop (rec (if jump.isNone then .ready else .done) jump))) ∧
        S3 E (w1.putObj l (.loop (rec (if jump.isNone then .ready else .done) jump))) F' Rd (w3.putObj l (.loop (rec (if jump.isNone then .ready else .done) jump))) βc Rdc (fun g => merge none (Ow' g) (Owc g)) fr H3 a.tmps := fun jump => by
      rw [hbz] at hw3l
      have h1 := run_endRound (P := P) jump hw3l
      have h2 := hcp.putBoth (free hcp).1 (free hcp).2.1 (free hcp).2.2 hxl hRdl (.loop (rec (if jump.isNone then .ready else .done) jump))
      rw [putObj_two] at h2
      refine ⟨?_, h2⟩
      rw [h1, hrecd]
    cases e with
    | normal =>
      obtain ⟨h1, h2⟩ := fin none
      rw [show (if (none : Option Code).isNone = true then LoopState.ready else .done) = .ready from rfl, putObj_self hrec1] at h2
      exact ⟨_, _, h1, .inl ⟨rfl, by rw [hJ]; exact ⟨H3, βc, Rdc, _, hk3, h2, hβ3, Nat.le_trans hlen' hlen3⟩⟩⟩
    | exit id =>
      obtain ⟨h1, h2⟩ := fin (some (.exit id))
      exact ⟨_, _, h1, .inr ⟨rfl, by rw [hJx]; exact ⟨id, H3, βc, Rdc, _, hk3, h2, hβ3, Nat.le_trans hlen' hlen3⟩⟩⟩
    | _ => exact hk3.elim
  -- behind the iterator
  have hcall' : CallsIn (fen ro) (0 - 1) P gf #[.func (.yield l) #[] #[], .pointer (some ⟨β b, 0, none⟩)] w1 fun e X => (∃ v, e = .returned v) ∧ (J xs.length X ∨ Jx X) := hcall
  refine hcall'.mono ?_
  have back : ∀ (o o' : Obj) (X : World) (H' : Hp) (β' : Nat → Nat) (Rd' : Nat → Nat → Prop) (Ow' : Nat → Option Hold), S3 E (w1.putObj l o) F' Rd X β' Rd' Ow' fr H' a.tmps → (∀ j, j < H.length → β' j = β j) → H.length ≤ H'.length → St2 ro E W F Rd0 β0 n fr H' { a with defers := mark ++ a.defers } (X.putObj l o') := fun o o' X H' β' Rd' Ow' h hb' hl' => by
    have h1 := h.putBoth (free h).1 (free h).2.1 (free h).2.2 hxl hRdl o'
    rw [putObj_two] at h1
    refine ⟨mark ++ ds, w1.putObj l o', F', Rd, H.length, β, ⟨by rw [← hd], hl', β', Rd', Ow', h1, hb'⟩, ?_, ?_, fun hr => ?_⟩
    · refine ⟨fun b hb => ?_, hRb1.rd, fun g o'' hg => ?_, hRb1.len, hRb1.old, hRb1.os, hRb1.tape, hRb1.output, by rw [World.putObj_size]; exact hRb1.size⟩
      · obtain ⟨k1, k2⟩ := hRb.blk b hb
        have hbl : b < w.heap.size := Nat.lt_of_lt_of_le (hS.fo.lt b k1) hS.fo.size
        exact ⟨(hRb1.blk b hb).1, (putObj_at (by omega)).trans (hRb1.blk b hb).2⟩
      · obtain ⟨k1, k2⟩ := hRb1.keep g o'' hg
        exact ⟨k1, (putObj_cell (fun e : g = l => hRdl o'' (e ▸ k1))).trans k2⟩
    · have old : ∀ d ∈ ds, ∃ D, d = { target := .collected D, args := #[] } ∧ F' D ∧ (w1.putObj l o').heap[D]? = some (.deferred (some [])) ∧ (W.heap.size ≤ D ∧ ∀ o, ¬ Rd D o) ∧ D < w.heap.size := fun d hd => by
        obtain ⟨D, e1, e2, e3, e4, e5⟩ := hds.all d hd
        have hDl : D < w.heap.size := Nat.lt_of_lt_of_le (hS.fo.lt D e2) hS.fo.size
        exact ⟨D, e1, by rw [hF']; exact ⟨by omega, fun i hi => hS.fo.box D i e2 hi, hS.fo.own D e2⟩, (putObj_at (by omega)).trans ((hold D hDl).trans ((hS.fo.same D e2).trans e3)), ⟨e4, fun o h => e5 o (hS.fo.rd D o e2 h)⟩, hDl⟩
      rcases hmark with ⟨_, rfl⟩ | ⟨hm0, rfl, hm1, hm2, hm3⟩
      · exact ⟨fun d hd => by obtain ⟨D, e1, e2, e3, e4, _⟩ := old d hd; exact ⟨D, e1, e2, e3, e4.1, e4.2⟩, hds.ne⟩
      · refine ⟨fun d hd => ?_, List.Pairwise.cons (fun d hd e => ?_) hds.ne⟩
        · rcases List.mem_append.1 hd with hd | hd
          · simp at hd; subst hd
            exact ⟨Dr, rfl, fresh Dr hm1 (Array.getElem?_eq_some_iff.1 hm3).1, (putObj_at hm2).trans hm3, Nat.le_trans (Nat.le_trans hRb.size hS.fo.size) hm1, fun o h => by have := hS.hr.rds Dr o h; omega⟩
          · obtain ⟨D, e1, e2, e3, e4, _⟩ := old d hd; exact ⟨D, e1, e2, e3, e4.1, e4.2⟩
        · obtain ⟨D, e1, e2, e3, e4, e5⟩ := old d hd
          rw [e1] at e
          injection e with e
          injection e with e
          omega
    · rcases hmark with ⟨_, rfl⟩ | ⟨hm0, rfl, hm1, hm2, hm3⟩
      · rw [hro2 hr]; rfl
      · exact absurd hm0 hr
  rintro e X ⟨⟨u, rfl⟩, hX | hX⟩
  · rw [hJ] at hX
    obtain ⟨H', β', Rd', Ow', hI, hS', hb', hl'⟩ := hX
    rw [hxl2] at hI
    have hX : X.heap[l]? = some (.loop (rec .ready none)) := (hS'.fo.same l hFl).trans hrec1
    have he := run_endLoop (P := P) hX (by rw [hrecd]; simp)
    refine ⟨none, _, by rw [he, hrecd], ?_⟩
    refine h3 _ fr H' _ _ (back (.loop (rec .ready none)) _ X H' β' Rd' Ow' (by rw [putObj_self hrec1]; exact hS') hb' hl') (hdone H' hI hS'.hr.bnd hl')
  · rw [hJx] at hX
    obtain ⟨id, H', β', Rd', Ow', hI, hS', hb', hl'⟩ := hX
    have hX : X.heap[l]? = some (.loop (rec .done (some (.exit id)))) := (hS'.fo.same l hFl).trans (World.putObj_heap_same hlt1)
    have he := run_endLoop (P := P) hX (by rw [hrecd]; simp)
    refine ⟨some (.exit id), _, by rw [he, hrecd], ?_⟩
    refine wpIn_exit (h3 _ fr H' _ _ (back _ _ X H' β' Rd' Ow' hS' hb' hl') (hexit id H' hI hS'.hr.bnd hl'))

/-- A FUNCTION THAT RANGES OVER FUNCTIONS, ENTERED. -/
theorem pc_enterM {f : FuncId} {fn : Func} {c : Code} (hf : P.funcs[f]? = some fn) (hb : fn.body = some c) (hname : (fn.name == "runtime.NumGoroutine") = false) {args : List AV} {Q : AV → Hp → Prop}
    (h : BndH H.length H → Okc P E none c (aPost P fn.results.toList H.length Q) (args ++ List.replicate (fn.ntmps - args.length) (.raw undef)) H) : PC P E f args H Q := by
  refine ⟨by simp [hasB, hf, hb, hname], fun w β Rd Ow cargs hr hcell hsz hargs => (callsIn_wide (n := 0)).1 ?_⟩
  refine callsIn_of_wp_marks hf hb trivial ?_
  obtain ⟨F, hF⟩ : ∃ F : Nat → Prop, F = fun b => b < w.heap.size ∧ (∀ i, i < H.length → β i ≠ b) ∧ Ow b = none := ⟨_, rfl⟩
  have hS : S3 E w F Rd w β Rd Ow (args ++ List.replicate (fn.ntmps - args.length) (.raw undef)) H (cargs ++ Array.replicate (fn.ntmps - cargs.size) undef) := by
    rw [hF]
    refine ⟨hr, ⟨by simp [hsz], fun t x u hx hu => ?_⟩, ⟨fun b hb => hb.1, fun _ _ => rfl, fun b hb => hb.2.2, fun b i hb hi => hb.2.1 i hi, fun _ _ _ h => h, rfl, rfl, rfl, Nat.le_refl _, fun _ _ h => ⟨h, rfl⟩⟩, fun x hx => ?_⟩
    · by_cases ht : t < args.length
      · rw [List.getElem?_append_left ht] at hx
        rw [Array.getElem?_append_left (by omega)] at hu
        obtain ⟨r1, r2, r3⟩ := hargs t x u hx hu
        exact ⟨r1, r2, fun g hg => by rw [own0_free r3] at hg; cases hg⟩
      · rw [List.getElem?_append_right (by omega), List.getElem?_replicate] at hx
        rw [Array.getElem?_append_right (by omega), Array.getElem?_replicate] at hu
        split at hx
        · cases hx
          split at hu
          · cases hu; exact ⟨.raw _, .raw _, fun g hg => by cases hg⟩
          · cases hu
        · cases hx
    · rcases List.mem_append.1 hx with h1 | h1
      · obtain ⟨j, hj⟩ := List.getElem?_of_mem h1
        have hj' : j < cargs.size := by have := (List.getElem?_eq_some_iff.1 hj).1; omega
        exact dis_free_of_free (hargs j x _ hj (Array.getElem?_eq_getElem hj')).2.2
      · rw [(List.mem_replicate.1 h1).2]; rfl
  have hFlt : ∀ b, F b → b < w.heap.size := fun b hb => by rw [hF] at hb; exact hb.1
  refine h hr.bnd w F Rd β H.length _ w _ (fun l e => by cases e) ⟨[], w, F, Rd, H.length, β, ⟨rfl, Nat.le_refl _, β, Rd, Ow, hS, fun _ _ => rfl⟩, Rb.refl, ⟨fun d hd => (by cases hd), .nil⟩, fun _ => rfl⟩ (fun e fr H1 a w' hs hk => ?_)
  obtain ⟨ds, W2, F2, Rd2, n2, β2, ⟨hd, hn, β', Rd', Ow', hS', hβ'⟩, hRb, hds, _⟩ := hs
  have fin : ∀ v0 v H2 H' J, ares P fr H1 fn.results.toList = some v0 → nilV v0 v → nilH H1 H2 → H2 = H' ++ J → H.length ≤ H'.length → BndH H'.length H' → Bnd H'.length v → Q v H' →
      ∀ (ds : List Deferred) (W2 w' : World), S3 E W2 F2 Rd2 w' β' Rd' Ow' fr H1 a.tmps → Rb w W2 F F2 Rd Rd2 H.length n2 β β2 → Mks w W2 F2 Rd2 ds →
      LeavesInM Fence.wide 0 P fn a.tmps (fun e w' => ∃ c v H' β' Rd' Ow', e = .returned c ∧ Q v H' ∧ Post E w β Rd Ow H w' β' Rd' Ow' H' v c) ds .returning w' := by
    intro v0 v H2 H' J hres hnv hnH hH hlen hbH hbv hq ds
    induction ds with
    | nil =>
      intro W2 w' hS' hRb _
      obtain ⟨c, Ow2, fr2, hrun, hS2, hrel0, hne0, hown0⟩ := ares_ok (a := a) hS' hres
      have hS2 := hS2.nilTo (nilL_refl _) hnH
      obtain ⟨hrel, hne, hown1⟩ := nilV_ok hnv hrel0 hne0
      have hown : ∀ g, own0 v c = some g → Ow2 g = some (.slot 0) := fun g hg => hown0 g (hown1 g hg)
      have hsub : ∀ i l, H'[i]? = some l → H2[i]? = some l := fun i l hl => by rw [hH, List.getElem?_append_left (List.getElem?_eq_some_iff.1 hl).1]; exact hl
      have hle : H'.length ≤ H2.length := by rw [hH]; simp
      refine ⟨c, hrun, c, v, H', β', Rd', Ow2, rfl, hq, ⟨hrel, hbv, hown, hne, ⟨fun i l hl => hS2.hr.box i l (hsub i l hl), fun i j hi hj => hS2.hr.inj i j (by omega) (by omega), fun i hi => hS2.hr.sep i (by omega), hS2.hr.ows, hS2.hr.rds, hbH, fun b hb => ?_, fun i l t hl h0 => hS2.hr.bld i l t (hsub i l hl) h0⟩,
        fun i hi => (hβ' i (Nat.lt_of_lt_of_le hi hRb.len)).trans (hRb.old i hi), hlen, fun g o hg => ?_, fun b hb h1 h2 => ?_, hS2.fo.os.trans hRb.os, hS2.fo.tape.trans hRb.tape, hS2.fo.output.trans hRb.output, Nat.le_trans hRb.size hS2.fo.size⟩⟩
      · obtain ⟨f1, f2, f3, f4⟩ := hS2.hr.fix b hb
        exact ⟨f1, f2, fun i hi => f3 i (by omega), f4⟩
      · obtain ⟨k1, k2⟩ := hRb.keep g o hg
        obtain ⟨k3, k4⟩ := hS2.fo.keep g o k1
        exact ⟨k3, k4.trans k2⟩
      · have hbF : F b := by rw [hF]; exact ⟨hb, h1, h2⟩
        obtain ⟨k1, k2⟩ := hRb.blk b hbF
        exact ⟨(hS2.fo.same b k1).trans k2, hS2.fo.own b k1, fun i hi => hS2.fo.box b i k1 (by omega), fun o ho => hRb.rd b o hbF (hS2.fo.rd b o k1 ho)⟩
    | cons d ds ih =>
      intro W2 w' hS' hRb hds
      obtain ⟨D, rfl, e2, e3, e4, e5⟩ := hds.all d (List.mem_cons_self ..)
      have hwD : w'.heap[D]? = some (.deferred (some [])) := (hS'.fo.same D e2).trans e3
      refine ⟨by simp, .inl ⟨D, _, rfl, run_takeDeferred hwD, ?_⟩⟩
      have hxD : ¬ E.Fix D := fun h => by have := (hr.fix D h).2.2.2; omega
      have h1 := hS'.putBoth (fun i hi => hS'.fo.box D i e2 hi) (hS'.fo.own D e2) (fun o ho => e5 o (hS'.fo.rd D o e2 ho)) hxD e5 (.deferred none)
      have hnd := hds.ne
      rw [List.pairwise_cons] at hnd
      refine ih _ _ h1 ⟨fun b hb => ?_, hRb.rd, fun g o hg => ?_, hRb.len, hRb.old, hRb.os, hRb.tape, hRb.output, by rw [World.putObj_size]; exact hRb.size⟩ ⟨fun d' hd' => ?_, hnd.2⟩
      · have := hFlt b hb
        exact ⟨(hRb.blk b hb).1, (putObj_at (by omega)).trans (hRb.blk b hb).2⟩
      · obtain ⟨k1, k2⟩ := hRb.keep g o hg
        exact ⟨k1, (putObj_cell (fun e : g = D => e5 o (e ▸ k1))).trans k2⟩
      · obtain ⟨D', g1, g2, g3, g4, g5⟩ := hds.all d' (List.mem_cons_of_mem _ hd')
        have hne : D' ≠ D := fun e => hnd.1 d' hd' (by rw [g1, e])
        exact ⟨D', g1, g2, (putObj_at hne).trans g3, g4, g5⟩
  rw [← hd] at hds
  cases e with
  | normal =>
    obtain ⟨v0, v, H2, H', J, h1, h2, h2', h3, h4, h5, h6, h7⟩ := hk
    exact fin v0 v H2 H' J h1 h2 h2' h3 h4 h5 h6 h7 a.defers W2 w' hS' hRb hds
  | ret =>
    obtain ⟨v0, v, H2, H', J, h1, h2, h2', h3, h4, h5, h6, h7⟩ := hk
    exact fin v0 v H2 H' J h1 h2 h2' h3 h4 h5 h6 h7 a.defers W2 w' hS' hRb hds
  | _ => exact hk.elim
end
end Go.Proofs.Ytgofogcfolhonaa

set_option linter.unusedVariables false
set_option linter.unnecessarySimpa false
set_option linter.unusedSimpArgs false
set_option linter.unusedSectionVars false
set_option maxRecDepth 100000
namespace Go.Proofs.Ytgofogcfolhonaa
open Go Go.RowKit

/-- A queue: box q: its capacity and its list, which is nil or stands in box s. -/
def QB (K : Hp) (q : Nat) (r : Option Nat) (m : Int) (l : List AV) : Prop := match r with
  | none => l = [] ∧ K[q]? = some [.int .i64 m, .nil]
  | some s => s ≠ q ∧ ∃ o c A, K[q]? = some [.int .i64 m, .bx s o l.length c 1] ∧ K[s]? = some A ∧ l.length ≤ c ∧ c ≤ maxLen ∧ o + c ≤ A.length ∧ (∀ y ∈ A, smp y) ∧ ∀ j x, l[j]? = some x → A[o + j]? = some x
def QN (K : Hp) (z : Option (Nat × Option Nat)) (m : Int) (l : List AV) : Prop := match z with
  | none => m = 0 ∧ l = []
  | some (q, r) => QB K q r m l
def qptr (z : Option (Nat × Option Nat)) : AV := .ptr (z.map fun x => (x.1, 0))
/-- The other boxes. -/
def OthQ (K K' : Hp) (q : Nat) (r : Option Nat) : Prop := K.length ≤ K'.length ∧ ∀ j, j < K.length → j ≠ q → r ≠ some j → K'[j]? = K[j]?
theorem OthQ.refl (K : Hp) (q : Nat) (r : Option Nat) : OthQ K K q r := ⟨Nat.le_refl _, fun _ _ _ _ => rfl⟩
theorem QB.lt {K : Hp} {q : Nat} {r : Option Nat} {m : Int} {l : List AV} (h : QB K q r m l) : q < K.length ∧ ∀ s, r = some s → s < K.length ∧ s ≠ q := by
  match r, h with
  | none, ⟨_, h⟩ => exact ⟨ltX h, nofun⟩
  | some s, ⟨hs, o, c, A, h1, h2, _⟩ => exact ⟨ltX h1, fun s' e => by cases e; exact ⟨ltX h2, hs⟩⟩
theorem QB.of_eq {K K' : Hp} {q : Nat} {r : Option Nat} {m : Int} {l : List AV} (h : QB K q r m l) (h1 : K'[q]? = K[q]?) (h2 : ∀ s, r = some s → K'[s]? = K[s]?) : QB K' q r m l := by
  match r, h with
  | none, ⟨a, b⟩ => exact ⟨a, h1.trans b⟩
  | some s, ⟨hs, o, c, A, a1, a2, a3⟩ => exact ⟨hs, o, c, A, h1.trans a1, (h2 s rfl).trans a2, a3⟩
theorem QB.app {K : Hp} {q : Nat} {r : Option Nat} {m : Int} {l : List AV} (h : QB K q r m l) (J : Hp) : QB (K ++ J) q r m l :=
  h.of_eq (List.getElem?_append_left h.lt.1) fun s e => List.getElem?_append_left (h.lt.2 s e).1
theorem QB.put {K : Hp} {q : Nat} {r : Option Nat} {m : Int} {l : List AV} (h : QB K q r m l) {i : Nat} (hi : i ≠ q) (hr : r ≠ some i) (X : List AV) : QB (K.set i X) q r m l :=
  h.of_eq (getNX hi X) fun s e => getNX (fun ee => hr (by rw [e, ee])) X
theorem QB.smp {K : Hp} {q : Nat} {r : Option Nat} {m : Int} {l : List AV} (h : QB K q r m l) : ∀ y ∈ l, smp y := by
  match r, h with
  | none, ⟨e, _⟩ => subst e; intro y hy; cases hy
  | some s, ⟨hs, o, c, A, a1, a2, a3, a4, a5, a6, a7⟩ =>
    intro y hy
    obtain ⟨j, hj⟩ := List.getElem?_of_mem hy
    exact a6 y (List.mem_of_getElem? (a7 j y hj))
theorem QB.row {K : Hp} {q : Nat} {r : Option Nat} {m : Int} {l : List AV} (h : QB K q r m l) : ∃ v, K[q]? = some [.int .i64 m, v] ∧ v.free = true ∧ v.one = true ∧ Bnd K.length v := by
  match r, h with
  | none, ⟨_, h⟩ => exact ⟨_, h, rfl, rfl, .nil⟩
  | some s, ⟨hs, o, c, A, a1, a2, _⟩ => exact ⟨_, a1, rfl, rfl, .bx _ _ _ _ _ (ltX a2)⟩
theorem QN.app {K : Hp} {z : Option (Nat × Option Nat)} {m : Int} {l : List AV} (h : QN K z m l) (J : Hp) : QN (K ++ J) z m l := by
  match z, h with
  | none, h => exact h
  | some (q, r), h => exact QB.app h J
section
variable (E : Env) {K : Hp} (Q : AV → Hp → Prop)
/-! ### string -/
theorem tslen_pc {z : Option (Nat × Option Nat)} {m : Int} {l : List AV} (h : QN K z m l) (hQ : Q (.int .i64 l.length) K) : PC Try.prog E 26 [qptr z] K Q := by
  refine pc_enter Try.func26 rfl [] [] (by kernel_rfl) (fun hB => ?_)
  match z, h with
  | none, ⟨e1, e2⟩ =>
    subst e1; subst e2
    simp [Try.ntmps26, Try.results26, List.replicate_succ, qptr]
    exact aPost_same0 hB rfl (nilV_refl _) (by simp) hQ
  | some (q, none), ⟨e1, h'⟩ =>
    subst e1
    have h : K[q]? = some [AV.int .i64 m, .nil] := h'
    simp [Try.ntmps26, Try.results26, List.replicate_succ, qptr, h]
    exact aPost_same0 hB rfl (nilV_refl _) (by simp) hQ
  | some (q, some s), ⟨hs, o, c, A, a1, a2, a3, a4, a5, a6, a7⟩ =>
    simp [Try.ntmps26, Try.results26, List.replicate_succ, qptr, a1]
    exact aPost_same0 hB rfl (nilV_refl _) (by simp) hQ
theorem tscap_pc {z : Option (Nat × Option Nat)} {m : Int} {l : List AV} (h : QN K z m l) (hQ : Q (.int .i64 m) K) : PC Try.prog E 27 [qptr z] K Q := by
  refine pc_enter Try.func27 rfl [] [] (by kernel_rfl) (fun hB => ?_)
  match z, h with
  | none, ⟨e1, e2⟩ =>
    subst e1; subst e2
    simp [Try.ntmps27, Try.results27, List.replicate_succ, qptr]
    exact aPost_same0 hB rfl (nilV_refl _) (by simp) hQ
  | some (q, none), ⟨e1, h'⟩ =>
    subst e1
    have h : K[q]? = some [AV.int .i64 m, .nil] := h'
    simp [Try.ntmps27, Try.results27, List.replicate_succ, qptr, h]
    exact aPost_same0 hB rfl (nilV_refl _) (by simp) hQ
  | some (q, some s), ⟨hs, o, c, A, a1, a2, a3, a4, a5, a6, a7⟩ =>
    simp [Try.ntmps27, Try.results27, List.replicate_succ, qptr, a1]
    exact aPost_same0 hB rfl (nilV_refl _) (by simp) hQ
def tsatA (l : List AV) (i : Int) : AV := if i < 0 ∨ (l.length : Int) ≤ i then .tup [(AV.str []), .bool false] else .tup [l.getD i.toNat (AV.str []), .bool true]
theorem tsat_pc {z : Option (Nat × Option Nat)} {m : Int} {l : List AV} (h : QN K z m l) (i : Int) (hQ : Q (tsatA l i) K) : PC Try.prog E 25 [qptr z, .int .i64 i] K Q := by
  refine pc_enter Try.func25 rfl [] [] (by kernel_rfl) (fun hB => ?_)
  unfold tsatA at hQ
  by_cases h0 : i < 0
  · rw [if_pos (.inl h0)] at hQ
    simp [Try.ntmps25, Try.results25, List.replicate_succ, h0]
    exact aPost_same0 hB rfl (nilV_refl _) (by simp) hQ
  · by_cases h1 : (l.length : Int) ≤ i
    · rw [if_pos (.inr h1)] at hQ
      simp [Try.ntmps25, Try.results25, List.replicate_succ, h0]
      refine tslen_pc E _ h ?_
      simp [Kcall, KP, preH_refl, h1]
      exact aPost_same0 hB rfl (nilV_refl _) (by simp) hQ
    · rw [if_neg (by omega)] at hQ
      obtain ⟨k, rfl⟩ : ∃ k : Nat, i = k := ⟨i.toNat, by omega⟩
      have hk : k < l.length := by omega
      obtain ⟨x, hx⟩ : ∃ x, l[k]? = some x := ⟨_, List.getElem?_eq_getElem hk⟩
      have hgd : l.getD k (AV.str []) = x := by simp [List.getD, hx]
      rw [Int.toNat_natCast, hgd] at hQ
      simp [Try.ntmps25, Try.results25, List.replicate_succ, h0]
      refine tslen_pc E _ h ?_
      have hnk : ¬ l.length ≤ k := by omega
      match z, h with
      | none, ⟨_, e⟩ => subst e; simp at hk
      | some (q, none), ⟨e, _⟩ => subst e; simp at hk
      | some (q, some s), ⟨hs, o, c, A, a1, a2, a3, a4, a5, a6, a7⟩ =>
        have hA := a7 k x hx
        have hAl : o + (k + 1) ≤ A.length := by omega
        have hAl2 : o + k + 1 ≤ A.length := by omega
        have hsx := a6 x (List.mem_of_getElem? hA)
        have hfx : x.free = true := hsx.free
        have hdx : x.dis = x := hsx.dis
        simp [Kcall, KP, preH_refl, qptr, hnk, hk, a1, a2, hA, hAl, hAl2, hfx, hdx]
        exact aPost_same0 hB (by simp [hdx]) (nilV_refl _) (by simpa using hsx.bnd _) hQ
theorem tsfirst_pc {z : Option (Nat × Option Nat)} {m : Int} {l : List AV} (h : QN K z m l) (hQ : Q (tsatA l 0) K) : PC Try.prog E 24 [qptr z] K Q := by
  refine pc_enter Try.func24 rfl [] [] (by kernel_rfl) (fun hB => ?_)
  simp [Try.ntmps24, Try.results24, List.replicate_succ]
  refine tsat_pc E _ h 0 ?_
  have : ∃ a b, tsatA l 0 = .tup [a, .bool b] ∧ a.dis = a ∧ ∀ N, Bnd N a := by
    unfold tsatA
    split
    · exact ⟨_, _, rfl, rfl, fun _ => by constructor⟩
    · rename_i hc
      have hk : 0 < l.length := by omega
      obtain ⟨x, hx⟩ : ∃ x, l[0]? = some x := ⟨_, List.getElem?_eq_getElem hk⟩
      have hsx : smp x := by
        match z, h with
        | none, ⟨_, e⟩ => subst e; simp at hk
        | some (q, r), h => exact QB.smp h x (List.mem_of_getElem? hx)
      have hgd : l.getD (0 : Int).toNat (AV.str []) = x := by simp [List.getD, hx]
      exact ⟨_, _, rfl, by rw [hgd]; exact hsx.dis, fun N => by rw [hgd]; exact hsx.bnd N⟩
  obtain ⟨a, b, e, hd, hb⟩ := this
  rw [e] at hQ ⊢
  simp [Kcall, KP, preH_refl, hd]
  exact aPost_same0 hB (by simp [hd]) (nilV_refl _) (by simpa using hb _) hQ
theorem tspush_pc {q : Nat} {r : Option Nat} {m : Int} {l : List AV} (h : QB K q r m l) (hB0 : BndH K.length K) (hm : m ≤ 65536) (x : AV) (hx : ∃ y, x = AV.str y) (hl : (l.length : Int) < m)
    (hQ : ∀ K' r', QB K' q r' m (l ++ [x]) → OthQ K K' q r → (∀ s, r' = some s → r = some s ∨ K.length ≤ s) → BndH K'.length K' → Q (.int .i64 0) K') : PC Try.prog E 22 [qptr (some (q, r)), x] K Q := by
  refine pc_enter Try.func22 rfl [] [(3, [0, 0, 0, 0, 0, 0, 0, 3])] (by kernel_rfl) (fun hB => ?_)
  obtain ⟨y, rfl⟩ := hx
  have hq := h.lt.1
  simp [Try.ntmps22, Try.results22, List.replicate_succ]
  refine tslen_pc E _ (z := some (q, r)) h ?_
  simp [Kcall, KP, preH_refl]
  refine tscap_pc E _ (z := some (q, r)) h ?_
  have hnl : ¬ m ≤ (l.length : Int) := by omega
  have m1 : l.length + 1 ≤ maxLen := by unfold maxLen; omega
  have m2 : (l.length + 1) * 16 ≤ 140737488355328 := by omega
  match r, h with
  | none, ⟨e, h'⟩ =>
    subst e
    have h : K[q]? = some [AV.int .i64 m, .nil] := h'
    have m0 : 1 ≤ maxLen := by unfold maxLen; omega
    have hnl : ¬ m ≤ 0 := by simpa using hnl
    simp [Kcall, KP, preH_refl, hnl, qptr, h, m0]
    refine VGrow_intro fun c hc1 hc2 => ?_
    have hlt : ¬ K.length ≤ q := by omega
    have hg : (K ++ [AV.str y :: List.replicate (c - 1) (AV.str [])])[q]? = some [.int .i64 m, .nil] := by rw [List.getElem?_append_left hq, h]
    simp [hg]
    have hA : ∀ z ∈ AV.str y :: List.replicate (c - 1) (AV.str []), smp z := fun z hz => by
      rcases List.mem_cons.1 hz with rfl | hz
      · simp
      · rw [(List.mem_replicate.1 hz).2]; simp
    have hAl : (AV.str y :: List.replicate (c - 1) (AV.str [])).length = c := by simp; omega
    have hset : ∀ X, ((K ++ [AV.str y :: List.replicate (c - 1) (AV.str [])]).set q X)[K.length]? = some (AV.str y :: List.replicate (c - 1) (AV.str [])) := fun X => by
      rw [getNX (by omega), List.getElem?_append_right (Nat.le_refl _)]; simp
    have hb1 : BndH (K.length + 1) ((K ++ [AV.str y :: List.replicate (c - 1) (AV.str [])]).set q [.int .i64 m, .bx K.length 0 1 c 1]) := bndX_put (bndX_app (bndX_up hB (by omega)) fun X hX z hz => by simp only [List.mem_cons, List.not_mem_nil, or_false] at hX; subst hX; exact (hA z hz).bnd _) q fun z hz => by
      simp at hz
      rcases hz with rfl | rfl
      · exact .int _ _
      · exact .bx _ _ _ _ _ (by omega)
    refine aPost_upX rfl (by simp) (by simpa using hb1) (by simp) (hQ _ (some K.length) ⟨by omega, 0, c, _, List.getElem?_set_self (by simp; omega), hset _, hc1, hc2, by omega, hA, fun j x hj => ?_⟩ ⟨by simp, fun j hj hjq _ => by rw [getNX (Ne.symm hjq), List.getElem?_append_left hj]⟩ (fun s e => by cases e; exact .inr (Nat.le_refl _)) (by simpa using hb1))
    cases j with
    | zero => simpa using hj
    | succ j => simp at hj
  | some s, ⟨hs, o, c, A, a1, a2, a3, a4, a5, a6, a7⟩ =>
    have hfree : ((A.drop o).take l.length).all (·.free) = true := List.all_eq_true.2 fun z hz => (a6 z (List.mem_of_mem_drop (List.mem_of_mem_take hz))).free
    have hfree2 : (∀ z ∈ (A.drop o).take l.length, z.free = true) = True := eq_true fun z hz => (a6 z (List.mem_of_mem_drop (List.mem_of_mem_take hz))).free
    have hA1 : o + l.length ≤ A.length := by omega
    have hsl := ltX a2
    by_cases hroom : l.length + 1 ≤ c
    · have hA3 : o + (l.length + 1) ≤ A.length := by omega
      have hA4 : o + l.length + 1 ≤ A.length := by omega
      simp [Kcall, KP, preH_refl, hnl, qptr, a1, a2, hfree2, hroom, hA1, hA3, hA4, getNX hs]
      obtain ⟨A', hA'⟩ : ∃ A', A.take (o + l.length) ++ AV.str y :: A.drop (o + l.length + 1) = A' := ⟨_, rfl⟩
      have hsA : ∀ z ∈ A', smp z := fun z hz => by
        rw [← hA'] at hz
        rcases List.mem_append.1 hz with hz | hz
        · exact a6 z (List.mem_of_mem_take hz)
        · rcases List.mem_cons.1 hz with rfl | hz
          · simp
          · exact a6 z (List.mem_of_mem_drop hz)
      have hlA : A'.length = A.length := by rw [← hA']; simp; omega
      have hat : ∀ j x, (l ++ [AV.str y])[j]? = some x → A'[o + j]? = some x := fun j x hj => by
        rw [← hA']
        by_cases hjl : j < l.length
        · rw [List.getElem?_append_left hjl] at hj
          rw [List.getElem?_append_left (by simp; omega), List.getElem?_take_of_lt (by omega)]
          exact a7 j x hj
        · rw [List.getElem?_append_right (by omega)] at hj
          have hj2 : j - l.length = 0 := by have := ltX hj; simp at this; omega
          rw [hj2] at hj
          rw [List.getElem?_append_right (by simp; omega)]
          have : o + j - (A.take (o + l.length)).length = 0 := by simp; omega
          rw [this]; simpa using hj
      rw [hA'] 
      have hb1 : BndH K.length ((K.set s A').set q [.int .i64 m, .bx s o (l.length + 1) c 1]) := bndX_put (bndX_put hB s fun z hz => (hsA z hz).bnd _) q fun z hz => by
        simp at hz
        rcases hz with rfl | rfl
        · exact .int _ _
        · exact .bx _ _ _ _ _ hsl
      refine aPost_upX rfl (by simp) (by simpa using hb1) (by simp) (hQ _ (some s) ⟨hs, o, c, A', ?_, ?_, by simpa using hroom, a4, by omega, hsA, hat⟩ ⟨by simp, fun j hj hjq hjr => ?_⟩ (fun s' e => .inl e) (by simpa using hb1))
      · rw [List.getElem?_set_self (by simp; omega)]; simp
      · rw [getNX (Ne.symm hs)]; exact List.getElem?_set_self hsl
      · rw [getNX (Ne.symm hjq), getNX (fun e => hjr (by rw [e]))]
    · simp [Kcall, KP, preH_refl, hnl, qptr, a1, a2, hfree2, hroom, hA1, m1, m2]
      refine VGrow_intro fun c' hc1 hc2 => ?_
      obtain ⟨A', hA'⟩ : ∃ A', (A.drop o).take l.length ++ AV.str y :: List.replicate (c' - (l.length + 1)) (AV.str []) = A' := ⟨_, rfl⟩
      have hg : (K ++ [A'])[q]? = some [.int .i64 m, .bx s o l.length c 1] := by rw [List.getElem?_append_left hq, a1]
      have hsA : ∀ z ∈ A', smp z := fun z hz => by
        rw [← hA'] at hz
        rcases List.mem_append.1 hz with hz | hz
        · exact a6 z (List.mem_of_mem_drop (List.mem_of_mem_take hz))
        · rcases List.mem_cons.1 hz with rfl | hz
          · simp
          · rw [(List.mem_replicate.1 hz).2]; simp
      have hlt : ((A.drop o).take l.length).length = l.length := by simp; omega
      have hlA : A'.length = c' := by rw [← hA', List.length_append, hlt]; simp; omega
      have hat : ∀ j x, (l ++ [AV.str y])[j]? = some x → A'[0 + j]? = some x := fun j x hj => by
        rw [← hA', Nat.zero_add]
        by_cases hjl : j < l.length
        · rw [List.getElem?_append_left hjl] at hj
          rw [List.getElem?_append_left (by omega), List.getElem?_take_of_lt hjl, List.getElem?_drop]
          exact a7 j x hj
        · rw [List.getElem?_append_right (by omega)] at hj
          have hj2 : j - l.length = 0 := by have := ltX hj; simp at this; omega
          rw [hj2] at hj
          rw [List.getElem?_append_right (by omega), hlt, hj2]; simpa using hj
      simp [hA', hg]
      have hset : ∀ X, ((K ++ [A']).set q X)[K.length]? = some A' := fun X => by
        rw [getNX (by omega), List.getElem?_append_right (Nat.le_refl _)]; simp
      have hb1 : BndH (K.length + 1) ((K ++ [A']).set q [.int .i64 m, .bx K.length 0 (l.length + 1) c' 1]) := bndX_put (bndX_app (bndX_up hB (by omega)) fun X hX z hz => by simp only [List.mem_cons, List.not_mem_nil, or_false] at hX; subst hX; exact (hsA z hz).bnd _) q fun z hz => by
        simp at hz
        rcases hz with rfl | rfl
        · exact .int _ _
        · exact .bx _ _ _ _ _ (by omega)
      refine aPost_upX rfl (by simp) (by simpa using hb1) (by simp) (hQ _ (some K.length) ⟨by omega, 0, c', A', ?_, hset _, by simpa using hc1, hc2, by omega, hsA, hat⟩ ⟨by simp, fun j hj hjq hjr => by rw [getNX (Ne.symm hjq), List.getElem?_append_left hj]⟩ (fun s e => by cases e; exact .inr (Nat.le_refl _)) (by simpa using hb1))
      rw [List.getElem?_set_self (by simp; omega)]; simp
theorem tspushFull_pc {z : Option (Nat × Option Nat)} {m : Int} {l : List AV} (h : QN K z m l) (x : AV) (hl : m ≤ (l.length : Int)) (hQ : Q (.int .i64 21) K) : PC Try.prog E 22 [qptr z, x] K Q := by
  refine pc_enter Try.func22 rfl [] [(3, [0, 0, 0, 0, 0, 0, 0, 3])] (by kernel_rfl) (fun hB => ?_)
  simp [Try.ntmps22, Try.results22, List.replicate_succ]
  refine tslen_pc E _ h ?_
  simp [Kcall, KP, preH_refl]
  refine tscap_pc E _ h ?_
  simp [Kcall, KP, preH_refl, hl]
  exact aPost_same0 hB rfl (nilV_refl _) (by simp) hQ
theorem tspop_pc {q : Nat} {r : Option Nat} {m : Int} {x : AV} {l : List AV} (h : QB K q r m (x :: l)) (hx : ∃ y, x = AV.str y)
    (hQ : ∀ K', QB K' q r m l → OthQ K K' q r → BndH K'.length K' → Q (.tup [x, .int .i64 0]) K') : PC Try.prog E 23 [qptr (some (q, r))] K Q := by
  refine pc_enter Try.func23 rfl [] [] (by kernel_rfl) (fun hB => ?_)
  obtain ⟨y, rfl⟩ := hx
  simp [Try.ntmps23, Try.results23, List.replicate_succ]
  refine tsfirst_pc E _ (z := some (q, r)) h ?_
  have e : tsatA (AV.str y :: l) 0 = .tup [AV.str y, .bool true] := by
    unfold tsatA
    rw [if_neg (by simp)]; rfl
  rw [e]
  match r, h with
  | none, ⟨e, h⟩ => cases e
  | some s, ⟨hs, o, c, A, a1, a2, a3, a4, a5, a6, a7⟩ =>
    have hsl := ltX a2
    have hql := ltX a1
    have hA0 := a7 0 _ rfl
    rw [Nat.add_zero] at hA0
    simp only [List.length_cons] at a3
    have hA1 : o + 1 ≤ A.length := by omega
    have hc1 : 1 ≤ c := by omega
    have hl0 : 0 < l.length + 1 := by omega
    have hl1 : 1 ≤ l.length + 1 := by omega
    simp [Kcall, KP, preH_refl, qptr, a1, a2, hA0, hA1, hc1, getNX hs, a3]
    obtain ⟨A', hA'⟩ : ∃ A', A.take o ++ (AV.str []) :: A.drop (o + 1) = A' := ⟨_, rfl⟩
    rw [hA']
    have hsA : ∀ z ∈ A', smp z := fun z hz => by
      rw [← hA'] at hz
      rcases List.mem_append.1 hz with hz | hz
      · exact a6 z (List.mem_of_mem_take hz)
      · rcases List.mem_cons.1 hz with rfl | hz
        · simp
        · exact a6 z (List.mem_of_mem_drop hz)
    have hlA : A'.length = A.length := by rw [← hA']; simp; omega
    have hat : ∀ j x, l[j]? = some x → A'[o + 1 + j]? = some x := fun j x hj => by
      rw [← hA', List.getElem?_append_right (by simp; omega)]
      have e2 : o + 1 + j - (A.take o).length = j + 1 := by simp; omega
      rw [e2, List.getElem?_cons_succ, List.getElem?_drop]
      exact (a7 (j + 1) x (by simpa using hj)) ▸ (by rw [show o + (j + 1) = o + 1 + j by omega])
    obtain ⟨o', ho'⟩ : ∃ o', (if c = 1 then o else o + 1) = o' := ⟨_, rfl⟩
    rw [ho']
    have hb1 : BndH K.length ((K.set s A').set q [.int .i64 m, .bx s o' l.length (c - 1) 1]) := bndX_put (bndX_put hB s fun z hz => (hsA z hz).bnd _) q fun z hz => by
      simp at hz
      rcases hz with rfl | rfl
      · exact .int _ _
      · exact .bx _ _ _ _ _ hsl
    have hat' : o' + (c - 1) ≤ A'.length ∧ ∀ j x, l[j]? = some x → A'[o' + j]? = some x := by
      by_cases hc : c = 1
      · rw [if_pos hc] at ho'
        subst ho'
        refine ⟨by omega, fun j x hj => ?_⟩
        have := ltX hj
        omega
      · rw [if_neg hc] at ho'
        subst ho'
        exact ⟨by omega, hat⟩
    refine aPost_upX (v := .tup [AV.str y, .int .i64 0]) (by simp) (by simp) (by simpa using hb1) (by simp) (hQ _ ⟨hs, o', c - 1, A', ?_, ?_, by omega, by omega, hat'.1, hsA, hat'.2⟩ ⟨by simp, fun j hj hjq hjr => ?_⟩ (by simpa using hb1))
    · exact List.getElem?_set_self (by simp; omega)
    · rw [getNX (Ne.symm hs)]; exact List.getElem?_set_self hsl
    · rw [getNX (Ne.symm hjq), getNX (fun e => hjr (by rw [e]))]
theorem tsnew_pc (c : Int) (h1 : 1 ≤ c) (h2 : c ≤ 65536) (hQ : BndH (K.length + 1) (K ++ [[.int .i64 c, .nil]]) → Q (.tup [qptr (some (K.length, none)), .int .i64 0]) (K ++ [[.int .i64 c, .nil]])) : PC Try.prog E 19 [.int .i64 c] K Q := by
  refine pc_enter Try.func19 rfl [] [] (by kernel_rfl) (fun hB => ?_)
  have n1 : ¬ c < 1 := by omega
  have n2 : ¬ 65536 < c := by omega
  simp [Try.ntmps19, Try.results19, List.replicate_succ, n1, n2]
  have hb1 : BndH (K.length + 1) (K ++ [[.int .i64 c, .nil]]) := bndX_app (bndX_up hB (by omega)) fun X hX z hz => by
    simp at hX; subst hX
    simp at hz
    rcases hz with rfl | rfl <;> constructor
  exact aPost_upX (v := .tup [qptr (some (K.length, none)), .int .i64 0]) (by simp [qptr]) (by simp) (by simpa using hb1) (by simp [qptr]) (hQ hb1)
/-! ### int -/
theorem nslen_pc {z : Option (Nat × Option Nat)} {m : Int} {l : List AV} (h : QN K z m l) (hQ : Q (.int .i64 l.length) K) : PC Try.prog E 35 [qptr z] K Q := by
  refine pc_enter Try.func35 rfl [] [] (by kernel_rfl) (fun hB => ?_)
  match z, h with
  | none, ⟨e1, e2⟩ =>
    subst e1; subst e2
    simp [Try.ntmps35, Try.results35, List.replicate_succ, qptr]
    exact aPost_same0 hB rfl (nilV_refl _) (by simp) hQ
  | some (q, none), ⟨e1, h'⟩ =>
    subst e1
    have h : K[q]? = some [AV.int .i64 m, .nil] := h'
    simp [Try.ntmps35, Try.results35, List.replicate_succ, qptr, h]
    exact aPost_same0 hB rfl (nilV_refl _) (by simp) hQ
  | some (q, some s), ⟨hs, o, c, A, a1, a2, a3, a4, a5, a6, a7⟩ =>
    simp [Try.ntmps35, Try.results35, List.replicate_succ, qptr, a1]
    exact aPost_same0 hB rfl (nilV_refl _) (by simp) hQ
theorem nscap_pc {z : Option (Nat × Option Nat)} {m : Int} {l : List AV} (h : QN K z m l) (hQ : Q (.int .i64 m) K) : PC Try.prog E 58 [qptr z] K Q := by
  refine pc_enter Try.func58 rfl [] [] (by kernel_rfl) (fun hB => ?_)
  match z, h with
  | none, ⟨e1, e2⟩ =>
    subst e1; subst e2
    simp [Try.ntmps58, Try.results58, List.replicate_succ, qptr]
    exact aPost_same0 hB rfl (nilV_refl _) (by simp) hQ
  | some (q, none), ⟨e1, h'⟩ =>
    subst e1
    have h : K[q]? = some [AV.int .i64 m, .nil] := h'
    simp [Try.ntmps58, Try.results58, List.replicate_succ, qptr, h]
    exact aPost_same0 hB rfl (nilV_refl _) (by simp) hQ
  | some (q, some s), ⟨hs, o, c, A, a1, a2, a3, a4, a5, a6, a7⟩ =>
    simp [Try.ntmps58, Try.results58, List.replicate_succ, qptr, a1]
    exact aPost_same0 hB rfl (nilV_refl _) (by simp) hQ
def nsatA (l : List AV) (i : Int) : AV := if i < 0 ∨ (l.length : Int) ≤ i then .tup [(AV.int .i64 0), .bool false] else .tup [l.getD i.toNat (AV.int .i64 0), .bool true]
theorem nsat_pc {z : Option (Nat × Option Nat)} {m : Int} {l : List AV} (h : QN K z m l) (i : Int) (hQ : Q (nsatA l i) K) : PC Try.prog E 81 [qptr z, .int .i64 i] K Q := by
  refine pc_enter Try.func81 rfl [] [] (by kernel_rfl) (fun hB => ?_)
  unfold nsatA at hQ
  by_cases h0 : i < 0
  · rw [if_pos (.inl h0)] at hQ
    simp [Try.ntmps81, Try.results81, List.replicate_succ, h0]
    exact aPost_same0 hB rfl (nilV_refl _) (by simp) hQ
  · by_cases h1 : (l.length : Int) ≤ i
    · rw [if_pos (.inr h1)] at hQ
      simp [Try.ntmps81, Try.results81, List.replicate_succ, h0]
      refine nslen_pc E _ h ?_
      simp [Kcall, KP, preH_refl, h1]
      exact aPost_same0 hB rfl (nilV_refl _) (by simp) hQ
    · rw [if_neg (by omega)] at hQ
      obtain ⟨k, rfl⟩ : ∃ k : Nat, i = k := ⟨i.toNat, by omega⟩
      have hk : k < l.length := by omega
      obtain ⟨x, hx⟩ : ∃ x, l[k]? = some x := ⟨_, List.getElem?_eq_getElem hk⟩
      have hgd : l.getD k (AV.int .i64 0) = x := by simp [List.getD, hx]
      rw [Int.toNat_natCast, hgd] at hQ
      simp [Try.ntmps81, Try.results81, List.replicate_succ, h0]
      refine nslen_pc E _ h ?_
      have hnk : ¬ l.length ≤ k := by omega
      match z, h with
      | none, ⟨_, e⟩ => subst e; simp at hk
      | some (q, none), ⟨e, _⟩ => subst e; simp at hk
      | some (q, some s), ⟨hs, o, c, A, a1, a2, a3, a4, a5, a6, a7⟩ =>
        have hA := a7 k x hx
        have hAl : o + (k + 1) ≤ A.length := by omega
        have hAl2 : o + k + 1 ≤ A.length := by omega
        have hsx := a6 x (List.mem_of_getElem? hA)
        have hfx : x.free = true := hsx.free
        have hdx : x.dis = x := hsx.dis
        simp [Kcall, KP, preH_refl, qptr, hnk, hk, a1, a2, hA, hAl, hAl2, hfx, hdx]
        exact aPost_same0 hB (by simp [hdx]) (nilV_refl _) (by simpa using hsx.bnd _) hQ
theorem nsfirst_pc {z : Option (Nat × Option Nat)} {m : Int} {l : List AV} (h : QN K z m l) (hQ : Q (nsatA l 0) K) : PC Try.prog E 60 [qptr z] K Q := by
  refine pc_enter Try.func60 rfl [] [] (by kernel_rfl) (fun hB => ?_)
  simp [Try.ntmps60, Try.results60, List.replicate_succ]
  refine nsat_pc E _ h 0 ?_
  have : ∃ a b, nsatA l 0 = .tup [a, .bool b] ∧ a.dis = a ∧ ∀ N, Bnd N a := by
    unfold nsatA
    split
    · exact ⟨_, _, rfl, rfl, fun _ => by constructor⟩
    · rename_i hc
      have hk : 0 < l.length := by omega
      obtain ⟨x, hx⟩ : ∃ x, l[0]? = some x := ⟨_, List.getElem?_eq_getElem hk⟩
      have hsx : smp x := by
        match z, h with
        | none, ⟨_, e⟩ => subst e; simp at hk
        | some (q, r), h => exact QB.smp h x (List.mem_of_getElem? hx)
      have hgd : l.getD (0 : Int).toNat (AV.int .i64 0) = x := by simp [List.getD, hx]
      exact ⟨_, _, rfl, by rw [hgd]; exact hsx.dis, fun N => by rw [hgd]; exact hsx.bnd N⟩
  obtain ⟨a, b, e, hd, hb⟩ := this
  rw [e] at hQ ⊢
  simp [Kcall, KP, preH_refl, hd]
  exact aPost_same0 hB (by simp [hd]) (nilV_refl _) (by simpa using hb _) hQ
theorem nspush_pc {q : Nat} {r : Option Nat} {m : Int} {l : List AV} (h : QB K q r m l) (hB0 : BndH K.length K) (hm : m ≤ 65536) (x : AV) (hx : ∃ y, x = AV.int .i64 y) (hl : (l.length : Int) < m)
    (hQ : ∀ K' r', QB K' q r' m (l ++ [x]) → OthQ K K' q r → (∀ s, r' = some s → r = some s ∨ K.length ≤ s) → BndH K'.length K' → Q (.int .i64 0) K') : PC Try.prog E 31 [qptr (some (q, r)), x] K Q := by
  refine pc_enter Try.func31 rfl [] [(3, [0, 0, 0, 0, 0, 0, 0, 3])] (by kernel_rfl) (fun hB => ?_)
  obtain ⟨y, rfl⟩ := hx
  have hq := h.lt.1
  simp [Try.ntmps31, Try.results31, List.replicate_succ]
  refine nslen_pc E _ (z := some (q, r)) h ?_
  simp [Kcall, KP, preH_refl]
  refine nscap_pc E _ (z := some (q, r)) h ?_
  have hnl : ¬ m ≤ (l.length : Int) := by omega
  have m1 : l.length + 1 ≤ maxLen := by unfold maxLen; omega
  have m2 : (l.length + 1) * 8 ≤ 140737488355328 := by omega
  match r, h with
  | none, ⟨e, h'⟩ =>
    subst e
    have h : K[q]? = some [AV.int .i64 m, .nil] := h'
    have m0 : 1 ≤ maxLen := by unfold maxLen; omega
    have hnl : ¬ m ≤ 0 := by simpa using hnl
    simp [Kcall, KP, preH_refl, hnl, qptr, h, m0]
    refine VGrow_intro fun c hc1 hc2 => ?_
    have hlt : ¬ K.length ≤ q := by omega
    have hg : (K ++ [AV.int .i64 y :: List.replicate (c - 1) (AV.int .i64 0)])[q]? = some [.int .i64 m, .nil] := by rw [List.getElem?_append_left hq, h]
    simp [hg]
    have hA : ∀ z ∈ AV.int .i64 y :: List.replicate (c - 1) (AV.int .i64 0), smp z := fun z hz => by
      rcases List.mem_cons.1 hz with rfl | hz
      · simp
      · rw [(List.mem_replicate.1 hz).2]; simp
    have hAl : (AV.int .i64 y :: List.replicate (c - 1) (AV.int .i64 0)).length = c := by simp; omega
    have hset : ∀ X, ((K ++ [AV.int .i64 y :: List.replicate (c - 1) (AV.int .i64 0)]).set q X)[K.length]? = some (AV.int .i64 y :: List.replicate (c - 1) (AV.int .i64 0)) := fun X => by
      rw [getNX (by omega), List.getElem?_append_right (Nat.le_refl _)]; simp
    have hb1 : BndH (K.length + 1) ((K ++ [AV.int .i64 y :: List.replicate (c - 1) (AV.int .i64 0)]).set q [.int .i64 m, .bx K.length 0 1 c 1]) := bndX_put (bndX_app (bndX_up hB (by omega)) fun X hX z hz => by simp only [List.mem_cons, List.not_mem_nil, or_false] at hX; subst hX; exact (hA z hz).bnd _) q fun z hz => by
      simp at hz
      rcases hz with rfl | rfl
      · exact .int _ _
      · exact .bx _ _ _ _ _ (by omega)
    refine aPost_upX rfl (by simp) (by simpa using hb1) (by simp) (hQ _ (some K.length) ⟨by omega, 0, c, _, List.getElem?_set_self (by simp; omega), hset _, hc1, hc2, by omega, hA, fun j x hj => ?_⟩ ⟨by simp, fun j hj hjq _ => by rw [getNX (Ne.symm hjq), List.getElem?_append_left hj]⟩ (fun s e => by cases e; exact .inr (Nat.le_refl _)) (by simpa using hb1))
    cases j with
    | zero => simpa using hj
    | succ j => simp at hj
  | some s, ⟨hs, o, c, A, a1, a2, a3, a4, a5, a6, a7⟩ =>
    have hfree : ((A.drop o).take l.length).all (·.free) = true := List.all_eq_true.2 fun z hz => (a6 z (List.mem_of_mem_drop (List.mem_of_mem_take hz))).free
    have hfree2 : (∀ z ∈ (A.drop o).take l.length, z.free = true) = True := eq_true fun z hz => (a6 z (List.mem_of_mem_drop (List.mem_of_mem_take hz))).free
    have hA1 : o + l.length ≤ A.length := by omega
    have hsl := ltX a2
    by_cases hroom : l.length + 1 ≤ c
    · have hA3 : o + (l.length + 1) ≤ A.length := by omega
      have hA4 : o + l.length + 1 ≤ A.length := by omega
      simp [Kcall, KP, preH_refl, hnl, qptr, a1, a2, hfree2, hroom, hA1, hA3, hA4, getNX hs]
      obtain ⟨A', hA'⟩ : ∃ A', A.take (o + l.length) ++ AV.int .i64 y :: A.drop (o + l.length + 1) = A' := ⟨_, rfl⟩
      have hsA : ∀ z ∈ A', smp z := fun z hz => by
        rw [← hA'] at hz
        rcases List.mem_append.1 hz with hz | hz
        · exact a6 z (List.mem_of_mem_take hz)
        · rcases List.mem_cons.1 hz with rfl | hz
          · simp
          · exact a6 z (List.mem_of_mem_drop hz)
      have hlA : A'.length = A.length := by rw [← hA']; simp; omega
      have hat : ∀ j x, (l ++ [AV.int .i64 y])[j]? = some x → A'[o + j]? = some x := fun j x hj => by
        rw [← hA']
        by_cases hjl : j < l.length
        · rw [List.getElem?_append_left hjl] at hj
          rw [List.getElem?_append_left (by simp; omega), List.getElem?_take_of_lt (by omega)]
          exact a7 j x hj
        · rw [List.getElem?_append_right (by omega)] at hj
          have hj2 : j - l.length = 0 := by have := ltX hj; simp at this; omega
          rw [hj2] at hj
          rw [List.getElem?_append_right (by simp; omega)]
          have : o + j - (A.take (o + l.length)).length = 0 := by simp; omega
          rw [this]; simpa using hj
      rw [hA'] 
      have hb1 : BndH K.length ((K.set s A').set q [.int .i64 m, .bx s o (l.length + 1) c 1]) := bndX_put (bndX_put hB s fun z hz => (hsA z hz).bnd _) q fun z hz => by
        simp at hz
        rcases hz with rfl | rfl
        · exact .int _ _
        · exact .bx _ _ _ _ _ hsl
      refine aPost_upX rfl (by simp) (by simpa using hb1) (by simp) (hQ _ (some s) ⟨hs, o, c, A', ?_, ?_, by simpa using hroom, a4, by omega, hsA, hat⟩ ⟨by simp, fun j hj hjq hjr => ?_⟩ (fun s' e => .inl e) (by simpa using hb1))
      · rw [List.getElem?_set_self (by simp; omega)]; simp
      · rw [getNX (Ne.symm hs)]; exact List.getElem?_set_self hsl
      · rw [getNX (Ne.symm hjq), getNX (fun e => hjr (by rw [e]))]
    · simp [Kcall, KP, preH_refl, hnl, qptr, a1, a2, hfree2, hroom, hA1, m1, m2]
      refine VGrow_intro fun c' hc1 hc2 => ?_
      obtain ⟨A', hA'⟩ : ∃ A', (A.drop o).take l.length ++ AV.int .i64 y :: List.replicate (c' - (l.length + 1)) (AV.int .i64 0) = A' := ⟨_, rfl⟩
      have hg : (K ++ [A'])[q]? = some [.int .i64 m, .bx s o l.length c 1] := by rw [List.getElem?_append_left hq, a1]
      have hsA : ∀ z ∈ A', smp z := fun z hz => by
        rw [← hA'] at hz
        rcases List.mem_append.1 hz with hz | hz
        · exact a6 z (List.mem_of_mem_drop (List.mem_of_mem_take hz))
        · rcases List.mem_cons.1 hz with rfl | hz
          · simp
          · rw [(List.mem_replicate.1 hz).2]; simp
      have hlt : ((A.drop o).take l.length).length = l.length := by simp; omega
      have hlA : A'.length = c' := by rw [← hA', List.length_append, hlt]; simp; omega
      have hat : ∀ j x, (l ++ [AV.int .i64 y])[j]? = some x → A'[0 + j]? = some x := fun j x hj => by
        rw [← hA', Nat.zero_add]
        by_cases hjl : j < l.length
        · rw [List.getElem?_append_left hjl] at hj
          rw [List.getElem?_append_left (by omega), List.getElem?_take_of_lt hjl, List.getElem?_drop]
          exact a7 j x hj
        · rw [List.getElem?_append_right (by omega)] at hj
          have hj2 : j - l.length = 0 := by have := ltX hj; simp at this; omega
          rw [hj2] at hj
          rw [List.getElem?_append_right (by omega), hlt, hj2]; simpa using hj
      simp [hA', hg]
      have hset : ∀ X, ((K ++ [A']).set q X)[K.length]? = some A' := fun X => by
        rw [getNX (by omega), List.getElem?_append_right (Nat.le_refl _)]; simp
      have hb1 : BndH (K.length + 1) ((K ++ [A']).set q [.int .i64 m, .bx K.length 0 (l.length + 1) c' 1]) := bndX_put (bndX_app (bndX_up hB (by omega)) fun X hX z hz => by simp only [List.mem_cons, List.not_mem_nil, or_false] at hX; subst hX; exact (hsA z hz).bnd _) q fun z hz => by
        simp at hz
        rcases hz with rfl | rfl
        · exact .int _ _
        · exact .bx _ _ _ _ _ (by omega)
      refine aPost_upX rfl (by simp) (by simpa using hb1) (by simp) (hQ _ (some K.length) ⟨by omega, 0, c', A', ?_, hset _, by simpa using hc1, hc2, by omega, hsA, hat⟩ ⟨by simp, fun j hj hjq hjr => by rw [getNX (Ne.symm hjq), List.getElem?_append_left hj]⟩ (fun s e => by cases e; exact .inr (Nat.le_refl _)) (by simpa using hb1))
      rw [List.getElem?_set_self (by simp; omega)]; simp
theorem nspop_pc {q : Nat} {r : Option Nat} {m : Int} {x : AV} {l : List AV} (h : QB K q r m (x :: l)) (hx : ∃ y, x = AV.int .i64 y)
    (hQ : ∀ K', QB K' q r m l → OthQ K K' q r → BndH K'.length K' → Q (.tup [x, .int .i64 0]) K') : PC Try.prog E 33 [qptr (some (q, r))] K Q := by
  refine pc_enter Try.func33 rfl [] [] (by kernel_rfl) (fun hB => ?_)
  obtain ⟨y, rfl⟩ := hx
  simp [Try.ntmps33, Try.results33, List.replicate_succ]
  refine nsfirst_pc E _ (z := some (q, r)) h ?_
  have e : nsatA (AV.int .i64 y :: l) 0 = .tup [AV.int .i64 y, .bool true] := by
    unfold nsatA
    rw [if_neg (by simp)]; rfl
  rw [e]
  match r, h with
  | none, ⟨e, h⟩ => cases e
  | some s, ⟨hs, o, c, A, a1, a2, a3, a4, a5, a6, a7⟩ =>
    have hsl := ltX a2
    have hql := ltX a1
    have hA0 := a7 0 _ rfl
    rw [Nat.add_zero] at hA0
    simp only [List.length_cons] at a3
    have hA1 : o + 1 ≤ A.length := by omega
    have hc1 : 1 ≤ c := by omega
    have hl0 : 0 < l.length + 1 := by omega
    have hl1 : 1 ≤ l.length + 1 := by omega
    simp [Kcall, KP, preH_refl, qptr, a1, a2, hA0, hA1, hc1, getNX hs, a3]
    obtain ⟨A', hA'⟩ : ∃ A', A.take o ++ (AV.int .i64 0) :: A.drop (o + 1) = A' := ⟨_, rfl⟩
    rw [hA']
    have hsA : ∀ z ∈ A', smp z := fun z hz => by
      rw [← hA'] at hz
      rcases List.mem_append.1 hz with hz | hz
      · exact a6 z (List.mem_of_mem_take hz)
      · rcases List.mem_cons.1 hz with rfl | hz
        · simp
        · exact a6 z (List.mem_of_mem_drop hz)
    have hlA : A'.length = A.length := by rw [← hA']; simp; omega
    have hat : ∀ j x, l[j]? = some x → A'[o + 1 + j]? = some x := fun j x hj => by
      rw [← hA', List.getElem?_append_right (by simp; omega)]
      have e2 : o + 1 + j - (A.take o).length = j + 1 := by simp; omega
      rw [e2, List.getElem?_cons_succ, List.getElem?_drop]
      exact (a7 (j + 1) x (by simpa using hj)) ▸ (by rw [show o + (j + 1) = o + 1 + j by omega])
    obtain ⟨o', ho'⟩ : ∃ o', (if c = 1 then o else o + 1) = o' := ⟨_, rfl⟩
    rw [ho']
    have hb1 : BndH K.length ((K.set s A').set q [.int .i64 m, .bx s o' l.length (c - 1) 1]) := bndX_put (bndX_put hB s fun z hz => (hsA z hz).bnd _) q fun z hz => by
      simp at hz
      rcases hz with rfl | rfl
      · exact .int _ _
      · exact .bx _ _ _ _ _ hsl
    have hat' : o' + (c - 1) ≤ A'.length ∧ ∀ j x, l[j]? = some x → A'[o' + j]? = some x := by
      by_cases hc : c = 1
      · rw [if_pos hc] at ho'
        subst ho'
        refine ⟨by omega, fun j x hj => ?_⟩
        have := ltX hj
        omega
      · rw [if_neg hc] at ho'
        subst ho'
        exact ⟨by omega, hat⟩
    refine aPost_upX (v := .tup [AV.int .i64 y, .int .i64 0]) (by simp) (by simp) (by simpa using hb1) (by simp) (hQ _ ⟨hs, o', c - 1, A', ?_, ?_, by omega, by omega, hat'.1, hsA, hat'.2⟩ ⟨by simp, fun j hj hjq hjr => ?_⟩ (by simpa using hb1))
    · exact List.getElem?_set_self (by simp; omega)
    · rw [getNX (Ne.symm hs)]; exact List.getElem?_set_self hsl
    · rw [getNX (Ne.symm hjq), getNX (fun e => hjr (by rw [e]))]
theorem nsclear_pc {q : Nat} {r : Option Nat} {m : Int} {l : List AV} (h : QB K q r m l) (hQ : ∀ K', QB K' q none m [] → K'.length = K.length → (∀ j, j ≠ q → K'[j]? = K[j]?) → BndH K'.length K' → Q (.tup []) K') : PC Try.prog E 34 [qptr (some (q, r))] K Q := by
  refine pc_enter Try.func34 rfl [] [] (by kernel_rfl) (fun hB => ?_)
  obtain ⟨v, hv, hf, ho, hb⟩ := h.row
  have hql := ltX hv
  simp [Try.ntmps34, Try.results34, List.replicate_succ, qptr, hv]
  have hb1 : BndH K.length (K.set q [.int .i64 m, .nil]) := bndX_put hB q fun z hz => by
    simp at hz
    rcases hz with rfl | rfl <;> constructor
  exact ⟨.tup [], .tup [], _, _, [], rfl, nilV_refl _, nilH_refl _, (List.append_nil _).symm, by simp, by simpa using hb1, by simp, hQ _ ⟨rfl, List.getElem?_set_self hql⟩ (by simp) (fun j hj => getNX (Ne.symm hj) _) (by simpa using hb1)⟩
theorem nsnew_pc (c : Int) (h1 : 1 ≤ c) (h2 : c ≤ 65536) (hQ : BndH (K.length + 1) (K ++ [[.int .i64 c, .nil]]) → Q (.tup [qptr (some (K.length, none)), .int .i64 0]) (K ++ [[.int .i64 c, .nil]])) : PC Try.prog E 30 [.int .i64 c] K Q := by
  refine pc_enter Try.func30 rfl [] [] (by kernel_rfl) (fun hB => ?_)
  have n1 : ¬ c < 1 := by omega
  have n2 : ¬ 65536 < c := by omega
  simp [Try.ntmps30, Try.results30, List.replicate_succ, n1, n2]
  have hb1 : BndH (K.length + 1) (K ++ [[.int .i64 c, .nil]]) := bndX_app (bndX_up hB (by omega)) fun X hX z hz => by
    simp at hX; subst hX
    simp at hz
    rcases hz with rfl | rfl <;> constructor
  exact aPost_upX (v := .tup [qptr (some (K.length, none)), .int .i64 0]) (by simp [qptr]) (by simp) (by simpa using hb1) (by simp [qptr]) (hQ hb1)
theorem nsall_pc {z : Option (Nat × Option Nat)} {m : Int} {l : List AV} (h : QN K z m l) (hl : l.length ≤ 65536) (hQ : ∀ o, Q (.fn 59 [.ptr (some (K.length, 0))]) (K ++ [[.sl o 1 (l.map fun y => [y])]])) : PC Try.prog E 32 [qptr z] K Q := by
  refine pc_enter Try.func32 rfl [6] [] (by kernel_rfl) (fun hB => ?_)
  have hbo : ∀ (o : Bool) (J : List AV), (∀ y ∈ J, smp y) → BndH (K.length + 1) (K ++ [[.sl o 1 (J.map fun y => [y])]]) := fun o J hJ => bndX_app (bndX_up hB (by omega)) fun X hX w hw => by
    simp only [List.mem_cons, List.not_mem_nil, or_false] at hX; subst hX
    simp only [List.mem_cons, List.not_mem_nil, or_false] at hw; subst hw
    exact .sl _ _ _ fun r hr x hx => by obtain ⟨y, hy, rfl⟩ := List.mem_map.1 hr; simp at hx; subst hx; exact (hJ _ hy).bnd _
  match z, h with
  | none, ⟨_, e⟩ =>
    subst e
    simp [Try.ntmps32, Try.results32, List.replicate_succ, qptr]
    exact ⟨_, _, K ++ [[.sl false 1 []]], _, [], rfl, nilV_refl _, nilH_app K ⟨⟨.inr ⟨rfl, _, _, rfl⟩, trivial⟩, trivial⟩, (List.append_nil _).symm, by simp, by simpa using hbo false [] (by simp), by simp, by simpa using hQ false⟩
  | some (q, none), ⟨e, h'⟩ =>
    subst e
    have h : K[q]? = some [AV.int .i64 m, .nil] := h'
    have hq := ltX h
    have hg : ∀ X, (K ++ [X])[q]? = some [.int .i64 m, .nil] := fun X => by rw [List.getElem?_append_left hq, h]
    simp [Try.ntmps32, Try.results32, List.replicate_succ, qptr, h, hg]
    refine aPost_upX (by simp) (by simp) (by simpa using hbo true [] (by simp)) (by simp) (hQ true)
  | some (q, some s), ⟨hs, o, c, A, a1, a2, a3, a4, a5, a6, a7⟩ =>
    have hq := ltX a1
    have hsl := ltX a2
    have hg : ∀ X, (K ++ [X])[q]? = some [.int .i64 m, .bx s o l.length c 1] := fun X => by rw [List.getElem?_append_left hq, a1]
    have hg2 : ∀ X, (K ++ [X])[s]? = some A := fun X => by rw [List.getElem?_append_left hsl, a2]
    have hA1 : o + l.length ≤ A.length := by omega
    have hrows : (A.drop o).take l.length = l := by
      refine List.ext_getElem? fun j => ?_
      by_cases hj : j < l.length
      · rw [List.getElem?_take_of_lt hj, List.getElem?_drop]
        obtain ⟨x, hx⟩ : ∃ x, l[j]? = some x := ⟨_, List.getElem?_eq_getElem hj⟩
        rw [a7 j x hx, hx]
      · rw [List.getElem?_eq_none (by simp; omega), List.getElem?_eq_none (by omega)]
    have hsm : ∀ y ∈ l, smp y := fun y hy => by
      obtain ⟨j, hj⟩ := List.getElem?_of_mem hy
      exact a6 y (List.mem_of_getElem? (a7 j y hj))
    have hfree2 : (∀ z ∈ l, z.free = true) = True := eq_true fun z hz => (hsm z hz).free
    have m1 : l.length ≤ maxLen := by unfold maxLen; omega
    have m2 : l.length * 8 ≤ 140737488355328 := by omega
    simp [Try.ntmps32, Try.results32, List.replicate_succ, qptr, a1, hg, hg2, hA1, hrows, hfree2, m1, m2]
    refine aPost_upX (by simp) (by simp) (by simpa using hbo true l hsm) (by simp) (hQ true)
end
end Go.Proofs.Ytgofogcfolhonaa

set_option linter.unusedVariables false
set_option linter.unusedSimpArgs false
set_option maxRecDepth 100000
namespace Go.Proofs.Ytgofogcfolhonaa
open Go Go.RowKit Go.Shelf

attribute [local go_sem] Oper.semAt_some

set_option maxHeartbeats 2000000 in
theorem ns_iter : Iter Try.prog 59 := by
  intro l J Jx B0 v xs W hB0 hread hlen hdrew hY h0
  have hr0 := hread 0 W h0
  obtain ⟨hxl, ao, cap, rfl, hle, hcap, hat⟩ := hr0
  have h80 : Fence.wide.fn 59 := trivial
  have hro : Fence.wide.round = none := rfl
  obtain ⟨n, hn⟩ : ∃ n, xs.length = n := ⟨_, rfl⟩
  rw [hn] at hread hlen hle hat hB0 ⊢
  clear hxl
  refine callsIn_of_wp Try.func59 rfl h80 ?_ hro
  simp only [Try.ntmps59, List.size_toArray, List.length_cons, List.length_nil, Nat.reduceAdd, Nat.reduceSub, Array.replicate_succ, Array.replicate_zero, List.push_toArray, List.append_toArray, List.nil_append, List.cons_append]
  gi_wp2
  gi_loopw [7] (fun i wr => ∃ k : Nat, k ≤ n ∧ i = .int .i64 k ∧ J k wr) (fun i _ => n - (intOf i).toNat)
  case atStart => exact ⟨0, Nat.zero_le _, rfl, h0⟩
  case round =>
    obtain ⟨k, hk, rfl, hJs⟩ := hrel
    by_cases hlt : k < n
    · obtain ⟨x, hx⟩ : ∃ x, xs[k]? = some x := ⟨_, List.getElem?_eq_getElem (by omega)⟩
      obtain ⟨fn, tmps, assign, body, hy, hR⟩ := hY k x wr hJs hx
      obtain ⟨_, ao', cap', e, _, _, hat'⟩ := hread k wr hJs
      obtain ⟨g, o, e2, hcells⟩ := hat' (by omega)
      cases e
      subst e2
      have hcx : wr.cell? ⟨g, o + k, none⟩ = some x := (hcells k (by omega)).trans hx
      have hk2 : (k : Int) < n := by omega
      clear hcells hat' hat hx
      gi_wp2
      refine ⟨rfl, hR.mono ?_⟩
      rintro e W3 (⟨rfl, hJ3⟩ | ⟨rfl, hJx3⟩)
      · gi_wp2
        go_roundw
        case rel => exact ⟨k + 1, by omega, by simp, hJ3⟩
        case measure => simp [intOf]; omega
      · gi_wp2
        refine bodyPost_ret (results_none rfl _ _ _) rfl ?_
        exact ⟨⟨_, rfl⟩, .inr hJx3⟩
    · obtain rfl : k = n := by omega
      gi_wp2
      go_end0
      exact ⟨⟨_, rfl⟩, .inl hJs⟩
end Go.Proofs.Ytgofogcfolhonaa

set_option linter.unusedVariables false
set_option linter.unnecessarySimpa false
set_option linter.unusedSimpArgs false
set_option linter.unusedSectionVars false
set_option maxRecDepth 100000
namespace Go.Proofs.Ytgofogcfolhonaa
open Go Go.RowKit

section
variable (E : Env) {K : Hp} (Q : AV → Hp → Prop)
end
end Go.Proofs.Ytgofogcfolhonaa

set_option linter.unusedVariables false
set_option linter.unnecessarySimpa false
set_option linter.unusedSimpArgs false
set_option linter.unusedSectionVars false
set_option maxRecDepth 100000
namespace Go.Proofs.Ytgofogcfolhonaa
open Go Go.RowKit

theorem qkind_plain (k n : Int) (hn : 1 ≤ n) : (k.tmod n + n).tmod n = k % n := by
  have h1 := Int.lt_tmod_of_pos k (show 0 < n by omega)
  rw [Int.tmod_eq_emod_of_nonneg (by omega), Int.add_emod_right, Int.tmod_def, Int.sub_mul_emod_self_left]
section
variable (E : Env) {K : Hp} (Q : AV → Hp → Prop)
theorem qkind_pc (k n : Int) (hn : 1 ≤ n) (hn2 : n ≤ 2305843009213693952) (hk1 : -9223372036854775808 ≤ k) (hk2 : k ≤ 9223372036854775807) (hQ : Q (.int .i64 (k % n)) K) : PC Try.prog E 21 [.int .i64 k, .int .i64 n] K Q := by
  refine pc_enter Try.func21 rfl [] [] (by kernel_rfl) (fun hB => ?_)
  have p := qkind_plain k n hn
  have hz : ¬ n = 0 := by omega
  have b1 := Int.lt_tmod_of_pos k (by omega : (0 : Int) < n)
  have b2 := Int.tmod_lt_of_pos k (by omega : (0 : Int) < n)
  have w1 : IntKind.i64.wrap (k.tmod n) = k.tmod n := wrap_in (by omega) (by omega)
  have w2 : IntKind.i64.wrap (k.tmod n + n) = k.tmod n + n := wrap_in (by omega) (by omega)
  have b3 := Int.emod_lt_of_pos k (by omega : (0 : Int) < n)
  have b4 := Int.emod_nonneg k hz
  have w3 : IntKind.i64.wrap (k % n) = k % n := wrap_in (by omega) (by omega)
  simp [Try.ntmps21, Try.results21, List.replicate_succ, hz, w1, w2, p, w3]
  exact aPost_same0 hB rfl (nilV_refl _) (by simp) hQ
theorem steady_pc (hQ : Q (.bool true) K) : PC Try.prog E 14 [] K Q := by
  refine pc_enter Try.func14 rfl [] [] (by kernel_rfl) (fun hB => ?_)
  simp [Try.ntmps14, Try.results14, List.replicate_succ]
  refine tsnew_pc E _ 1 (by omega) (by omega) (fun hb0 => ?_)
  simp [Kcall, KP, qptr]
  have h0 : QB (K ++ [[AV.int .i64 1, .nil]]) K.length none 1 [] := ⟨rfl, by simp⟩
  refine tspush_pc E _ h0 (by simpa using hb0) (by omega) (.str [97]) ⟨_, rfl⟩ (by simp) (fun K1 r1 h1 o1 e1 b1 => ?_)
  simp [Kcall, KP]
  refine tspushFull_pc E _ (z := some (K.length, r1)) h1 (.str [98]) (by simp) ?_
  simp [Kcall, KP]
  refine tspop_pc E _ h1 ⟨_, rfl⟩ (fun K2 h2 o2 b2 => ?_)
  simp [Kcall, KP]
  have l1 := o1.1
  have l2 := o2.1
  simp at l1
  refine aPost_lawX hB (by omega) (fun j hj => ?_) rfl (by simp) hQ
  rw [o2.2 j (by omega) (by omega) (fun e => ?_), o1.2 j (by simp; omega) (by omega) nofun, List.getElem?_append_left hj]
  rcases e1 j e with e | e
  · cases e
  · simp at e; omega
end
end Go.Proofs.Ytgofogcfolhonaa

set_option linter.unusedVariables false
set_option linter.unusedSimpArgs false
namespace Go.Proofs.Ytgofogcfolhonaa
open Go Go.ChangeShapes Go.WideShapes Go.ChangeAt Go.RowKit Go.Deep

theorem Try.own : ownKnob Try.prog.godebug = none := by kernel_rfl
theorem Try.laidOut : laidOutB Try.prog = true := by kernel_rfl

section
variable {H : Type} {enc : TypeId × Value → H}

/-- ARGUMENTS READ AGAIN where nothing old has turned. -/
theorem Frm.trodAll {P : Program} (hl : laidOutB P = true) {W W' : World} (hF : Frm (fun _ => False) W W') (sp : Nat → Bool) : ∀ {ts : List TypeId} {vs : List Value} {ds : List (DataW H)} {ps : List MemPlace}, (∀ t ∈ ts, P.readableRec t = true ∧ t < P.types.size) → DataW.TrodAll enc P W 0 (fun _ => true) true ts vs ds ps → (∀ p ∈ ps, sp p.block = true) → (∀ p ∈ ps, p.block < W.heap.size) → DataW.TrodAll enc P W' 0 sp true ts vs ds ps
  | [], [], [], _, _, h, _, _ => h
  | _ :: _, _ :: _, _ :: _, _, hT, ⟨p, q, h1, h2, e⟩, hs, hlt =>
    ⟨p, q, WideElems.Trod_stays hl (hT _ (List.mem_cons.2 (Or.inl rfl))).1 (hT _ (List.mem_cons.2 (Or.inl rfl))).2 h1
      (fun x hx => (hF.toBelow (Nat.le_refl _) (fun _ _ => id)).same (hlt x (by rw [e]; exact List.mem_append_left _ hx))) (fun x hx => hs x (by rw [e]; exact List.mem_append_left _ hx)),
      Frm.trodAll hl hF sp (fun t ht => hT t (List.mem_cons.2 (Or.inr ht))) h2 (fun x hx => hs x (by rw [e]; exact List.mem_append_right _ hx)) (fun x hx => hlt x (by rw [e]; exact List.mem_append_right _ hx)), e⟩

/-- THE POST OF A LAW: true, and nothing old has turned. -/
theorem law_post {P : Program} (hl : laidOutB P = true) {f : Func} {s : ChangeSpec} {W W' : World} {args : Array Value} {ds gs : List (DataW H)} {before : List MemPlace} {tb : TypeId} (hb : P.underlying tb = some .bool)
    (hr : f.resultTypes = #[tb]) (hs : s.vars = []) (hT : f.params.all (fun t => P.readableRec t && decide (t < P.types.size)) = true)
    (hspec : s.fn H ds = { results := [.lit (.bool true)], args := ds })
    (hW : DataW.Whole enc P f.params.toList s.vars false W args.toList ds gs before) (hF : Frm (fun _ => False) W W') :
    s.post enc P f false true false false W args (.bool true) W' := by
  have hT' : ∀ t ∈ f.params.toList, P.readableRec t = true ∧ t < P.types.size := by
    intro t ht
    have := Array.all_eq_true_iff_forall_mem.1 hT t (by simpa using ht)
    simpa using this
  have hW' := hW
  obtain ⟨p, q, hA, hV, rfl, hfz, hnd⟩ := hW
  rw [hs] at hV
  obtain ⟨rfl, rfl⟩ := trodVars_none hV
  have hB := hF.toBelow (Nat.le_refl _) (fun _ _ => id)
  simp only [List.append_nil] at hW' hfz
  have hold : ∀ x ∈ p, decide (x.block < W.heap.size) = true := fun x hx => by simpa using hW'.lt x hx
  have hargs : ∀ sp : Nat → Bool, (∀ x ∈ p, sp x.block = true) → DataW.TrodAll enc P W' 0 sp true f.params.toList args.toList ds p := fun sp h => hF.trodAll hl sp hT' hA h (fun x hx => hW'.lt x hx)
  have hres : ∀ (b : Nat) (sp : Nat → Bool) (hd : Bool), DataW.TrodAll enc P W' b sp hd f.resultTypes.toList ((Value.bool true).resultList f.resultTypes.size) [.lit (.bool true)] [] := fun b sp hd => by
    rw [hr]; exact trodAll_mk1 (shut_bool hb true)
  have e1 : (s.fn H (ds ++ [])) = { results := [.lit (.bool true)], args := ds } := by rw [List.append_nil]; exact hspec
  refine ⟨ds, [], p, [], p, [], hW', ?_, ?_, ?_, World.keptBut_mono (fun x hx => hx) (hB.frame _), fun h => by cases h⟩
  · rw [e1]; exact hres _ _ _
  · rw [e1]; exact hargs _ hold
  · rw [e1, hs]; exact rfl

/-- From 'for each i there is' to a list. -/
theorem list_lt {α : Type} {n : Nat} {p : Nat → α → Prop} (h : ∀ i, i < n → ∃ x, p i x) : ∃ l : List α, l.length = n ∧ ∀ i x, l[i]? = some x → p i x := by
  induction n with
  | zero => exact ⟨[], rfl, fun i x hx => by simp at hx⟩
  | succ n ih =>
    obtain ⟨l, hl, hp⟩ := ih (fun i hi => h i (by omega))
    obtain ⟨y, hy⟩ := h n (by omega)
    refine ⟨l ++ [y], by simp [hl], fun i x hx => ?_⟩
    by_cases hi : i < l.length
    · exact hp i x (by rwa [List.getElem?_append_left hi] at hx)
    · rw [List.getElem?_append_right (by omega)] at hx
      have : i - l.length = 0 := by
        have := (List.getElem?_eq_some_iff.1 hx).1
        simp at this; omega
      rw [this] at hx
      simp at hx
      subst hx
      rw [show i = n by omega]; exact hy

/-- AN ARGUMENT OR A CELL THAT IS A SLICE: its rows as a list; the row's cells lie at the slice's own address, which is plain. -/
theorem open_rows {P : Program} {w : World} {base : Nat} {spare : Nat → Bool} {held : Bool} {t e : TypeId} {fuel : Nat} {cs : List Value} {x : DataW H × List MemPlace} {α : Type} (k : Nat) (hk : 0 < k) (q : Addr → α → Prop)
    (ht : P.underlying t = some (.slice e)) (hc : P.cellsOf e = k)
    (hq : ∀ a n cs' d pl, w.cells? base a k = some cs' → DataW.trod enc P w base spare held n e cs' = some (d, pl) → ∃ x, q ⟨a.block, a.off, none⟩ x)
    (h : DataW.trod enc P w base spare held fuel t cs = some x) :
    ∃ (bo : Option Addr) (len cap : Nat) (l : List α), cs = [.slice bo len cap] ∧ l.length = len ∧ len ≤ cap ∧ cap ≤ maxLen ∧ (∀ el sp, x.1 = .slice el sp → len ≤ el.length) ∧ (x.1 = .nil → len = 0) ∧ (x.1 = .nil ∨ ∃ el sp, x.1 = .slice el sp) ∧
      ∀ i x, l[i]? = some x → ∃ g o, bo = some ⟨g, o, none⟩ ∧ q ⟨g, o + i * k, none⟩ x := by
  rcases open_slice ht h with ⟨rfl, rfl⟩ | ⟨a, len, cap, m, n, D, Pl, rfl, hb, hl, hm, hmm, rfl, hi⟩
  · exact ⟨none, 0, 0, [], rfl, rfl, Nat.le_refl _, Nat.zero_le _, (fun _ _ h => by cases h), (fun _ => rfl), .inl rfl, fun i x hx => by simp at hx⟩
  · have hlm : len ≤ m := by rw [hmm]; split <;> omega
    obtain ⟨l, hll, hlx⟩ := list_lt (n := len) (p := fun i x => ∃ g o, some a = some ⟨g, o, none⟩ ∧ q ⟨g, o + i * k, none⟩ x) (fun i hi' => by
      obtain ⟨cs', hcs, htr⟩ := hi i (by omega)
      rw [hc] at hcs
      have h0 := hi 0 (by omega)
      obtain ⟨cs0, hcs0, _⟩ := h0
      rw [hc] at hcs0
      have hspot := World.cell?_spot (((World.cells?_some hcs0).2.2 0 hk).trans (List.getElem?_eq_getElem (by have := (World.cells?_some hcs0).2.1; omega)))
      obtain ⟨b, off, spot⟩ := a
      obtain rfl : spot = none := by simpa [Addr.add] using hspot
      obtain ⟨y, hy⟩ := hq _ n cs' _ _ hcs htr
      refine ⟨y, b, off, rfl, ?_⟩
      rw [add_plain] at hy
      exact hy)
    exact ⟨some a, len, cap, l, rfl, hll, hl, hm, (fun el sp h => by
      simp only [DataW.slice.injEq] at h
      rw [← h.1]; simp), (fun h => by cases h), .inr ⟨_, _, rfl⟩, hlx⟩

theorem cells_one {w : World} {base : Nat} {a : Addr} {cs : List Value} (h : w.cells? base a 1 = some cs) : ∃ v, cs = [v] ∧ w.cell? ⟨a.block, a.off, none⟩ = some v := by
  obtain ⟨_, hl, hc⟩ := World.cells?_some h
  match cs, hl with
  | [v], _ =>
    have h0 := hc 0 (by omega)
    have hs := World.cell?_spot h0
    obtain ⟨b, o, s⟩ := a
    obtain rfl : s = none := by simpa [Addr.add] using hs
    exact ⟨v, rfl, by simpa [Addr.add] using h0⟩

theorem row_int {P : Program} {w : World} {base : Nat} {spare : Nat → Bool} {held : Bool} {e : TypeId} {k : IntKind} (he : P.underlying e = some (.int k)) (a : Addr) (n : Nat) (cs : List Value) (d : DataW H) (pl : List MemPlace)
    (hc : w.cells? base a 1 = some cs) (h : DataW.trod enc P w base spare held n e cs = some (d, pl)) : ∃ z : Int, w.cell? ⟨a.block, a.off, none⟩ = some (.int k z) ∧ (Lit.int k z).wf = true := by
  obtain ⟨v, rfl, hv⟩ := cells_one hc
  obtain ⟨m, hvv, _, hw⟩ := DataW.trod_int he h
  simp only [List.cons.injEq, and_true] at hvv
  exact ⟨m, hvv ▸ hv, hw⟩
theorem row_u8 {P : Program} {w : World} {base : Nat} {spare : Nat → Bool} {held : Bool} {e : TypeId} (he : P.underlying e = some (.int .u8)) (a : Addr) (n : Nat) (cs : List Value) (d : DataW H) (pl : List MemPlace)
    (hc : w.cells? base a 1 = some cs) (h : DataW.trod enc P w base spare held n e cs = some (d, pl)) : ∃ z : UInt8, w.cell? ⟨a.block, a.off, none⟩ = some (.int .u8 (z.toNat : Int)) := by
  obtain ⟨z, hz, hw⟩ := row_int he a n cs d pl hc h
  have hr : 0 ≤ z ∧ z ≤ 255 := by simpa [Lit.wf, IntKind.min, IntKind.max, IntKind.signed, IntKind.bits] using hw
  refine ⟨UInt8.ofNat z.toNat, ?_⟩
  rw [UInt8.toNat_ofNat', Nat.mod_eq_of_lt (by omega), Int.toNat_of_nonneg hr.1]
  exact hz
theorem rsl_rows {w : World} {bo : Option Addr} {len cap : Nat} {l : List UInt8} (hl : l.length = len) (h1 : len ≤ cap) (h2 : cap ≤ maxLen) (hc : ∀ i x, l[i]? = some x → ∃ g o, bo = some ⟨g, o, none⟩ ∧ w.cell? ⟨g, o + i * 1, none⟩ = some (.int .u8 (x.toNat : Int))) :
    RSl w 1 (.slice bo len cap) len (u8s l) := by
  refine ⟨by rw [u8s_length]; omega, bo, cap, rfl, h1, h2, fun hp => ?_⟩
  obtain ⟨g, o, rfl, _⟩ := hc 0 (l[0]'(by omega)) (List.getElem?_eq_getElem (by omega))
  refine ⟨g, o, rfl, fun j hj => ?_⟩
  have hj' : j < l.length := by omega
  obtain ⟨g', o', he, hcell⟩ := hc j (l[j]'hj') (List.getElem?_eq_getElem hj')
  cases he
  rw [Nat.mul_one] at hcell
  rw [hcell, u8s_at, List.getElem?_eq_getElem hj']
  rfl
end
end Go.Proofs.Ytgofogcfolhonaa

set_option linter.unusedVariables false
set_option linter.unusedSimpArgs false
namespace Go.Proofs.Ytgofogcfolhonaa
open Go Go.ChangeShapes Go.WideShapes Go.ChangeAt Go.RowKit Go.Deep

inductive CK where
  | int (k : IntKind)
  | bool
  | str
  | u8s
def KindOf : CK → AV → Prop
  | .int k, .int k' z => k = k' ∧ (Lit.int k z).wf = true
  | .bool, .bool _ => True
  | .str, .str _ => True
  | .u8s, .sl false 1 rows => ∃ l, rows = bts l
  | _, _ => False
def wtA : List AV → Nat
  | [] => 0
  | .str s :: l => s.length + wtA l
  | .sl _ _ r :: l => r.length + wtA l
  | _ :: l => wtA l
theorem wtA_app (l m : List AV) : wtA (l ++ m) = wtA l + wtA m := by
  induction l with
  | nil => simp [wtA]
  | cons x l ih => cases x <;> simp only [List.cons_append, wtA, ih] <;> omega
def shapeL (g : TypeId → Option (List CK)) : Nat → List Field → Option (List CK)
  | _, [] => some []
  | off, f :: r => if f.offset = off then match g f.type with
    | some a => (shapeL g (off + a.length) r).map (a ++ ·)
    | none => none else none
def shape (P : Program) : Nat → TypeId → Option (List CK)
  | 0, _ => none
  | n + 1, t => match P.underlying t with
    | some (.int k) => some [.int k]
    | some .bool => some [.bool]
    | some .string => some [.str]
    | some (.slice e) => match P.underlying e with
      | some (.int .u8) => if P.cellsOf e = 1 then some [.u8s] else none
      | _ => none
    | some (.struct fs) => match shapeL (shape P n) 0 fs.toList with
      | some ks => if ks.length = P.cellsOf t then some ks else none
      | none => none
    | _ => none
structure Opened (W : World) (ks : List CK) (cs : List Value) (avs : List AV) : Prop where
  len : avs.length = ks.length
  clen : cs.length = ks.length
  kind : ∀ (j : Nat) k x, ks[j]? = some k → avs[j]? = some x → KindOf k x
  rel : ∀ (j : Nat) x u, avs[j]? = some x → cs[j]? = some u → x.free = true ∧ x.one = true ∧ Rel W (fun _ => 0) (old W) x u ∧ Bnd 0 x
theorem Opened.one {W : World} {k : CK} {v : Value} {x : AV} (h1 : KindOf k x) (h2 : x.free = true ∧ x.one = true ∧ Rel W (fun _ => 0) (old W) x v ∧ Bnd 0 x) : Opened W [k] [v] [x] := by
  refine ⟨rfl, rfl, fun j k' x' hk hx => ?_, fun j x' u hx hu => ?_⟩
  · cases j with
    | zero => simp at hk hx; subst hk; subst hx; exact h1
    | succ j => simp at hk
  · cases j with
    | zero => simp at hu hx; subst hu; subst hx; exact h2
    | succ j => simp at hu
theorem Opened.app {W : World} {ks ms : List CK} {cs ds : List Value} {av1 bs : List AV} (h : Opened W ks cs av1) (k : Opened W ms ds bs) : Opened W (ks ++ ms) (cs ++ ds) (av1 ++ bs) := by
  refine ⟨by simp [h.len, k.len], by simp [h.clen, k.clen], fun j k' x' hk hx => ?_, fun j x' u hx hu => ?_⟩
  · by_cases hj : j < ks.length
    · rw [List.getElem?_append_left hj] at hk
      rw [List.getElem?_append_left (by rw [h.len]; exact hj)] at hx
      exact h.kind j k' x' hk hx
    · rw [List.getElem?_append_right (by omega)] at hk
      rw [List.getElem?_append_right (by rw [h.len]; omega), h.len] at hx
      exact k.kind _ k' x' hk hx
  · by_cases hj : j < av1.length
    · rw [List.getElem?_append_left hj] at hx
      rw [List.getElem?_append_left (by rw [h.clen, ← h.len]; exact hj)] at hu
      exact h.rel j x' u hx hu
    · rw [List.getElem?_append_right (by omega)] at hx
      rw [List.getElem?_append_right (by rw [h.clen, ← h.len]; omega), h.clen, ← h.len] at hu
      exact k.rel _ x' u hx hu
section
variable {H : Type} {enc : TypeId × Value → H}
theorem bulk_pos (d : DataW H) : 1 ≤ Rows.uptoBulk d := by
  cases d with
  | lit l => cases l <;> simp [Rows.uptoBulk]
  | nil => simp [Rows.uptoBulk]
  | ptr d => simp [Rows.uptoBulk]
  | slice elems spare => simp [Rows.uptoBulk]
  | agg parts => simp [Rows.uptoBulk]
  | iface t d => simp [Rows.uptoBulk]
  | map entries => simp [Rows.uptoBulk]
  | held h => simp [Rows.uptoBulk]
theorem bulk_len : ∀ (l : List (DataW H)), l.length ≤ Rows.uptoBulkAll l
  | [] => by simp [Rows.uptoBulkAll]
  | x :: l => by have := bulk_pos x; have := bulk_len l; simp only [Rows.uptoBulkAll, List.length_cons]; omega
theorem rel_sl_bts {w : World} {β : Nat → Nat} {Rd : Nat → Nat → Prop} {v : Value} {l : List UInt8} (h : RSl w 1 v l.length (u8s l)) (hd : ∀ g o n c, v = .slice (some ⟨g, o, none⟩) n c → ∀ j, j < l.length → Rd g (o + j)) : Rel w β Rd (.sl false 1 (bts l)) v := by
  refine .sl false 1 (bts l) v (u8s l) (fun r hr => by obtain ⟨b, _, rfl⟩ := List.mem_map.1 hr; rfl) (by rw [bts_len]; exact h) (fun g o n c hv j hj => hd g o n c hv j (by simpa [bts_len] using hj)) (fun h => by cases h) (fun r hr x hx => ?_) (fun j x u hx hu => ?_)
  · obtain ⟨b, _, rfl⟩ := List.mem_map.1 hr
    simp at hx; subst hx; exact ⟨rfl, rfl⟩
  · rw [bts_flat] at hx
    rw [u8s_at] at hu
    cases hb : l[j]? with
    | none => rw [hb] at hx; cases hx
    | some b => rw [hb] at hx hu; simp at hx hu; subst hx; subst hu; exact .int _ _
theorem opened_fields {P : Program} {W : World} {base : Nat} {spare : Nat → Bool} {held : Bool} {n' : Nat} {cs : List Value} (g : TypeId → Option (List CK))
    (ih : ∀ {t : TypeId} {ks : List CK} {cs : List Value} {x : DataW H × List MemPlace}, g t = some ks → DataW.trod enc P W base spare held n' t cs = some x → ∃ avs, Opened W ks cs avs ∧ wtA avs + 1 ≤ Rows.uptoBulk x.1) :
    ∀ (l : List Field) (xs : List (DataW H × List MemPlace)) (off : Nat) (ks : List CK), l.length = xs.length → (∀ (j : Nat) f, l[j]? = some f → DataW.trod enc P W base spare held n' f.type ((cs.drop f.offset).take (P.cellsOf f.type)) = xs[j]?) →
      shapeL g off l = some ks → ∃ avs, Opened W ks ((cs.drop off).take ks.length) avs ∧ wtA avs ≤ Rows.uptoBulkAll (xs.map (·.1)) := by
  intro l
  induction l with
  | nil =>
    intro xs off ks hl hx hs
    simp [shapeL] at hs
    subst hs
    exact ⟨[], ⟨rfl, by simp, fun j k x hk => by simp at hk, fun j x u hx => by simp at hx⟩, by simp [wtA]⟩
  | cons f l ihl =>
    intro xs off ks hl hx hs
    cases xs with
    | nil => simp at hl
    | cons y xs =>
      unfold shapeL at hs
      split at hs
      · rename_i ho
        cases hg : g f.type with
        | none => rw [hg] at hs; cases hs
        | some a =>
          rw [hg] at hs
          simp only [Option.map_eq_some_iff] at hs
          obtain ⟨b, hb, rfl⟩ := hs
          have h0 := hx 0 f rfl
          rw [ho] at h0
          obtain ⟨av1, ha, hwa⟩ := ih hg h0
          obtain ⟨bs, hbs, hwb⟩ := ihl xs (off + a.length) b (by simpa using hl) (fun j f' hf => by simpa using hx (j + 1) f' (by simpa using hf)) hb
          have e : (cs.drop off).take (P.cellsOf f.type) = (cs.drop off).take a.length := by
            have hlen := ha.clen
            rw [List.length_take] at hlen
            rw [← hlen]
            by_cases hc : P.cellsOf f.type ≤ (cs.drop off).length
            · rw [Nat.min_eq_left hc]
            · rw [Nat.min_eq_right (by omega), List.take_of_length_le (by omega), List.take_of_length_le (Nat.le_refl _)]
          refine ⟨av1 ++ bs, ?_, ?_⟩
          · rw [e] at ha
            have := ha.app hbs
            rw [List.length_append, List.take_add, List.drop_drop]
            exact this
          · rw [wtA_app]
            simp only [List.map_cons, Rows.uptoBulkAll]
            omega
      · cases hs
theorem opened {P : Program} {W : World} {base : Nat} {spare : Nat → Bool} {held : Bool} (n : Nat) : ∀ {fuel : Nat} {t : TypeId} {ks : List CK} {cs : List Value} {x : DataW H × List MemPlace}, shape P n t = some ks → DataW.trod enc P W base spare held fuel t cs = some x →
    ∃ avs, Opened W ks cs avs ∧ wtA avs + 1 ≤ Rows.uptoBulk x.1 := by
  induction n with
  | zero => intro fuel t ks cs x hs; cases hs
  | succ n ih =>
    intro fuel t ks cs x hs h
    unfold shape at hs
    split at hs
    · rename_i k hu
      cases hs
      obtain ⟨z, rfl, rfl, hw⟩ := DataW.trod_int hu h
      exact ⟨[.int k z], .one ⟨rfl, hw⟩ ⟨rfl, rfl, .int _ _, .int _ _⟩, by simp [wtA, Rows.uptoBulk]⟩
    · rename_i hu
      cases hs
      obtain ⟨z, rfl, rfl⟩ := DataW.trod_bool hu h
      exact ⟨[.bool z], .one trivial ⟨rfl, rfl, .bool _, .bool _⟩, by simp [wtA, Rows.uptoBulk]⟩
    · rename_i hu
      cases hs
      obtain ⟨z, rfl, rfl, hm⟩ := DataW.trod_string hu h
      exact ⟨[.str z.data.toList], .one trivial ⟨rfl, rfl, .str _ _ rfl hm, .str _⟩, by simp [wtA, Rows.uptoBulk]⟩
    · rename_i e hu
      split at hs
      · rename_i he
        split at hs
        · rename_i hce
          cases hs
          obtain ⟨bo, len, cap, l, rfl, hl, h1, h2, hx1, hx2, hx3, hq⟩ := open_rows (α := UInt8) 1 (by decide) (fun a x => W.cell? a = some (.int .u8 ((x : UInt8).toNat : Int))) hu hce (fun a n cs' d pl hc h => row_u8 he a n cs' d pl hc h) h
          have hr := rsl_rows hl h1 h2 hq
          subst hl
          refine ⟨[.sl false 1 (bts l)], .one ⟨l, rfl⟩ ⟨rfl, rfl, rel_sl_bts hr (fun g o n c hv j hj => ?_), bnd_sl_bts _ _ _⟩, ?_⟩
          · obtain ⟨g', o', hb, hc⟩ := hq j l[j] (List.getElem?_eq_getElem hj)
            cases hv
            cases hb
            rw [Nat.mul_one] at hc
            exact old_cell hc
          · simp only [wtA, bts_len]
            rcases hx3 with hn | ⟨el, sp, hs⟩
            · rw [hn, hx2 hn]; simp [Rows.uptoBulk]
            · have := hx1 el sp hs
              have := bulk_len el
              rw [hs]; simp only [Rows.uptoBulk]; omega
        · cases hs
      · cases hs
    · rename_i fs hu
      split at hs
      · rename_i ks' hks
        split at hs
        · rename_i hlen
          cases hs
          obtain ⟨xs, n', _, rfl, hcl, hxl, hf⟩ := DataW.trod_struct hu h
          obtain ⟨avs, ho, hw⟩ := opened_fields (enc := enc) (P := P) (W := W) (base := base) (spare := spare) (held := held) (n' := n') (cs := cs) (shape P n) (fun hg hx => ih hg hx) fs.toList xs 0 _ (by simp [hxl]) (fun j f hj => hf j f (by simpa using hj)) hks
          refine ⟨avs, ?_, ?_⟩
          · rw [List.drop_zero, List.take_of_length_le (by rw [hcl, hlen]; exact Nat.le_refl _)] at ho
            exact ho
          · simp only [Rows.uptoBulk]; omega
        · cases hs
      · cases hs
    · cases hs
theorem bulkAll_range {n : Nat} (D : Nat → DataW H) : ∀ (rows : List (List AV)), rows.length = n → (∀ (i : Nat) r, rows[i]? = some r → wtA r + 1 ≤ Rows.uptoBulk (D i)) → wtA rows.flatten + n ≤ Rows.uptoBulkAll ((List.range n).map D) := by
  induction n with
  | zero =>
    intro rows h hr
    have : rows = [] := List.length_eq_zero_iff.1 h
    subst this
    simp [wtA]
  | succ n ih =>
    intro rows hl hr
    obtain ⟨init, r, rfl⟩ : ∃ init r, rows = init ++ [r] := ⟨rows.dropLast, rows.getLast (by intro h; rw [h] at hl; cases hl), (List.dropLast_concat_getLast _).symm⟩
    simp at hl
    have h1 := ih init hl (fun i q hq => hr i q (by rw [List.getElem?_append_left (List.getElem?_eq_some_iff.1 hq).1]; exact hq))
    have h2 := hr n r (by rw [← hl]; simp)
    have happ : ∀ (a b : List (DataW H)), Rows.uptoBulkAll (a ++ b) = Rows.uptoBulkAll a + Rows.uptoBulkAll b := by
      intro a b
      induction a with
      | nil => simp [Rows.uptoBulkAll]
      | cons x a iha => simp only [List.cons_append, Rows.uptoBulkAll, iha]; omega
    rw [List.range_succ, List.map_append, happ, List.flatten_append, wtA_app]
    simp only [List.map_cons, List.map_nil, Rows.uptoBulkAll, List.flatten_cons, List.flatten_nil, List.append_nil]
    omega
/-- A SLICE OF PLAIN VALUES. -/
theorem open_plain {P : Program} {W : World} {spare : Nat → Bool} {held : Bool} {t e : TypeId} {fuel : Nat} {cs : List Value} {x : DataW H × List MemPlace} {ks : List CK} (n : Nat) (ht : P.underlying t = some (.slice e)) (hs : shape P n e = some ks) (hk : ks.length = P.cellsOf e) (hk0 : 0 < ks.length)
    (h : DataW.trod enc P W 0 spare held fuel t cs = some x) :
    ∃ (bo : Option Addr) (len cap : Nat) (rows : List (List AV)), cs = [.slice bo len cap] ∧ rows.length = len ∧ len ≤ cap ∧ cap ≤ maxLen ∧ Rel W (fun _ => 0) (old W) (.sl false ks.length rows) (.slice bo len cap) ∧ Bnd 0 (.sl false ks.length rows) ∧
      (∀ r ∈ rows, r.length = ks.length ∧ ∀ (j : Nat) k y, ks[j]? = some k → r[j]? = some y → KindOf k y) ∧ wtA rows.flatten + len + 1 ≤ Rows.uptoBulk x.1 := by
  rcases open_slice ht h with ⟨rfl, rfl⟩ | ⟨a, len, cap, m, n', D, Pl, rfl, hb, hl, hm, hmm, rfl, hi⟩
  · refine ⟨none, 0, 0, [], rfl, rfl, Nat.le_refl _, Nat.zero_le _, ?_, .sl _ _ _ (fun r hr => by cases hr), fun r hr => (by cases hr), by simp [wtA, Rows.uptoBulk]⟩
    exact rel_rows _ [] none 0 0 (fun r hr => by cases hr) hk0 rfl (Nat.le_refl _) (Nat.zero_le _) (fun i r hr => by simp at hr)
  · have hlm : len ≤ m := by rw [hmm]; split <;> omega
    obtain ⟨rows, hrl, hrx⟩ := list_lt (n := len) (p := fun i (r : List AV) => ∃ g o cs', some a = some ⟨g, o, none⟩ ∧ (∀ (j : Nat) v, cs'[j]? = some v → W.cell? ⟨g, o + i * ks.length + j, none⟩ = some v) ∧ Opened W ks cs' r ∧ wtA r + 1 ≤ Rows.uptoBulk (D i)) (fun i hi' => by
      obtain ⟨cs', hcs, htr⟩ := hi i (by omega)
      obtain ⟨avs, ho, hw⟩ := opened n hs htr
      obtain ⟨_, hcl, hat⟩ := World.cells?_some hcs
      obtain ⟨cs0, hcs0, _⟩ := hi 0 (by omega)
      have h00 := World.cells?_some hcs0
      have hspot := World.cell?_spot ((h00.2.2 0 (by omega)).trans (List.getElem?_eq_getElem (by have := h00.2.1; omega)))
      obtain ⟨b, off, spot⟩ := a
      obtain rfl : spot = none := by simpa [Addr.add] using hspot
      refine ⟨avs, b, off, cs', rfl, fun j v hj => ?_, ho, hw⟩
      have hjl : j < P.cellsOf e := by have := (List.getElem?_eq_some_iff.1 hj).1; omega
      rw [hk, ← add_plain, ← add_plain, hat j hjl]; exact hj)
    refine ⟨some a, len, cap, rows, rfl, hrl, hl, hm, ?_, ?_, ?_, ?_⟩
    · refine rel_rows _ rows _ len cap (fun r hr => ?_) hk0 hrl hl hm (fun i r hr => ?_)
      · obtain ⟨i, hi'⟩ := List.getElem?_of_mem hr
        obtain ⟨g, o, cs', _, _, ho, _⟩ := hrx i r hi'
        exact ho.len
      · obtain ⟨g, o, cs', hb', hc, ho, _⟩ := hrx i r hr
        refine ⟨g, o, hb', fun j y hy => ?_⟩
        have hjl : j < cs'.length := by have := (List.getElem?_eq_some_iff.1 hy).1; have := ho.len; have := ho.clen; omega
        obtain ⟨h1, h2, h3, h4⟩ := ho.rel j y cs'[j] hy (List.getElem?_eq_getElem hjl)
        exact ⟨h1, h2, _, hc j _ (List.getElem?_eq_getElem hjl), h3⟩
    · refine .sl _ _ _ (fun r hr y hy => ?_)
      obtain ⟨i, hi'⟩ := List.getElem?_of_mem hr
      obtain ⟨j, hj⟩ := List.getElem?_of_mem hy
      obtain ⟨g, o, cs', _, _, ho, _⟩ := hrx i r hi'
      have hjl : j < cs'.length := by have := (List.getElem?_eq_some_iff.1 hj).1; have := ho.len; have := ho.clen; omega
      exact (ho.rel j y cs'[j] hj (List.getElem?_eq_getElem hjl)).2.2.2
    · intro r hr
      obtain ⟨i, hi'⟩ := List.getElem?_of_mem hr
      obtain ⟨g, o, cs', _, _, ho, _⟩ := hrx i r hi'
      exact ⟨ho.len, ho.kind⟩
    · have := bulkAll_range D rows hrl (fun i r hr => by obtain ⟨_, _, _, _, _, _, hw⟩ := hrx i r hr; exact hw)
      simp only [Rows.uptoBulk]
      omega
end
end Go.Proofs.Ytgofogcfolhonaa

