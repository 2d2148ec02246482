/- Part 5 of the texts below the law: the abstract machine, the functions that it walks, what they compute. -/
import Derived.Test.YtjphdipbajfojaaDoorOy4
import Derived.Shelf.Strconv.Itoa3
import Derived.Shelf.Strings.BuilderK
import Derived.Shelf.Strings.OnBuilder
import Derived.Shelf.Strings.SlTrimAscii
import Derived.Test.YtjphdipbajfojaaDoorProg
import Derived.KernelRfl
import Derived.Lib.Strings
import Derived.Lib.Slices
import Derived.Lib.Walk
import Derived.Lib.Bytealg
import Derived.Lib.SlTrimSet
import Derived.Lib.Join
import Derived.WalkKit
import Derived.BigCall
import Derived.Test.YtjphdipbajfojaaDoorRows
import Derived.ProofKit
import Derived.OpenShut
import Derived.SizedLaws
import Derived.Deep.Slices
import Derived.Deep.Fields
import Derived.SliceStrings
set_option linter.unusedVariables false
set_option linter.unnecessarySimpa false
set_option linter.unusedSimpArgs false
set_option maxRecDepth 100000
namespace Go.Proofs.YtjphdipbajfojaaDoor
open Go Go.RowKit

/-- A value without a heap. -/
inductive Pln : AV → Prop
  | int (k n) : Pln (.int k n)
  | bool (b) : Pln (.bool b)
  | str (s) : Pln (.str s)
  | agg (l) (h : ∀ x ∈ l, Pln x) : Pln (.agg l)
  | tup (l) (h : ∀ x ∈ l, Pln x) : Pln (.tup l)
attribute [simp] Pln.int Pln.bool Pln.str
@[simp] theorem pln_agg (l : List AV) : Pln (.agg l) ↔ ∀ x ∈ l, Pln x := ⟨fun h => by cases h; assumption, .agg l⟩
@[simp] theorem pln_tup (l : List AV) : Pln (.tup l) ↔ ∀ x ∈ l, Pln x := ⟨fun h => by cases h; assumption, .tup l⟩
theorem Pln.rel {w w' : World} {β β' : Nat → Nat} {Rd Rd' : Nat → Nat → Prop} {v : AV} {c : Value} (h : Rel w β Rd v c) (hp : Pln v) : Rel w' β' Rd' v c := by
  induction h with
  | int | bool => constructor
  | str s l h hm => exact .str s l h hm
  | agg l vs hl hf hr ih =>
    cases hp with
    | agg _ hp => exact .agg l vs hl hf (fun j x u hx hu => ih j x u hx hu (hp x (mem_at hx)))
  | tup l vs hl hf hr ih =>
    cases hp with
    | tup _ hp => exact .tup l vs hl hf (fun j x u hx hu => ih j x u hx hu (hp x (mem_at hx)))
  | _ => cases hp
theorem Pln.bnd {v : AV} {N : Nat} (h : Pln v) : Bnd N v := by
  induction h with
  | int | bool | str => constructor
  | agg l h ih => exact .agg l ih
  | tup l h ih => exact .tup l ih
theorem Pln.free {v : AV} (h : Pln v) : v.free = true := by cases h <;> rfl
/-- y: what is read of x. -/
def seesBx (H : Hp) (x y : AV) : Prop := x = y ∨ (x = .nil ∧ ∃ k, y = .sl false k []) ∨ ∃ i o n c k rows l, x = .bx i o n c k ∧ y = .sl false k rows ∧ rows.length = n ∧ (∀ r ∈ rows, r.length = k) ∧ H[i]? = some l ∧ o + n * k ≤ l.length ∧ (∀ j u, rows.flatten[j]? = some u → l[o + j]? = some u) ∧ (∀ r ∈ rows, ∀ x ∈ r, x.free = true)
def seesL (H : Hp) : List AV → List AV → Prop
  | [], [] => True
  | x :: l, y :: m => seesBx H x y ∧ seesL H l m
  | _, _ => False
theorem seesL_at {H : Hp} : ∀ {l m : List AV}, seesL H l m → l.length = m.length ∧ ∀ (i : Nat) y, m[i]? = some y → ∃ x, l[i]? = some x ∧ seesBx H x y
  | [], [], _ => ⟨rfl, fun i y h => by simp at h⟩
  | x :: l, y :: m, h => by
    obtain ⟨h1, h2⟩ := h
    obtain ⟨h3, h4⟩ := seesL_at h2
    refine ⟨by simp [h3], fun i z hz => ?_⟩
    cases i with
    | zero => simp at hz; subst hz; exact ⟨x, rfl, h1⟩
    | succ i => exact h4 i z (by simpa using hz)
  | [], _ :: _, h => h.elim
  | _ :: _, [], h => h.elim
section
variable {P : Program} {E : Env} {w : World} {β : Nat → Nat} {Rd : Nat → Nat → Prop} {Ow : Nat → Option Hold} {H : Hp}
theorem Rel.alone (hHR : HR E w β Rd Ow H) {x : AV} {u : Value} (h : Rel w β Rd x u) (hb : Bnd 0 x) (hf : x.free = true) : Rel w (fun _ => 0) (old w) x u :=
  h.move hb (fun g o hg => ⟨hHR.rds g o hg, rfl⟩) (fun g hg => by rw [own0_free hf] at hg; cases hg) (Nat.le_refl _) (fun i hi => by omega)
theorem seesBx.rel (hHR : HR E w β Rd Ow H) {x y : AV} {u : Value} (hs : seesBx H x y) (h : Rel w β Rd x u) (hb : Bnd 0 y) (hf : y.free = true) : Rel w (fun _ => 0) (old w) y u := by
  rcases hs with rfl | ⟨rfl, k, rfl⟩ | ⟨i, o, n, c, k, rows, l, rfl, rfl, hn, hk, hl, hlen, hat, hfr⟩
  · exact h.alone hHR hb hf
  · exact (nil1_rel (.inr ⟨rfl, false, k, rfl⟩) (h.alone hHR .nil rfl) (Bnd.nil (N := 0))).1
  · cases h with
    | bx _ _ _ _ _ hnc hm =>
      obtain ⟨T, cs, hbk, hcs, hce⟩ := hHR.box i l hl
      have hlt : β i < w.heap.size := (Array.getElem?_eq_some_iff.1 hbk).1
      have hfl := flat_len hk
      have hB : ∀ r ∈ rows, ∀ x ∈ r, Bnd 0 x := by cases hb; assumption
      have hcell : ∀ j, j < n * k → w.cell? ⟨β i, o + j, none⟩ = ((cs.toList.drop o).take (n * k))[j]? := fun j hj => by
        rw [cell_blk hbk, List.getElem?_take, if_pos hj, List.getElem?_drop, Array.getElem?_toList]
      subst hn
      refine .sl false k rows _ ((cs.toList.drop o).take (rows.length * k)) hk ⟨?_, _, c, rfl, hnc, hm, fun _ => ⟨β i, o, rfl, hcell⟩⟩ (fun g o' n' c' hv j hj => ?_) (fun h => by cases h) (fun r hr x hx => ⟨hfr r hr x hx, ?_⟩) (fun j x u hx hu => ?_)
      · have e : cs.toList.length = cs.size := by simp
        rw [List.length_take, List.length_drop, e]; omega
      · injection hv with h1 h2 h3
        injection h1 with h1
        injection h1 with h1 h4
        subst h1
        exact hlt
      · obtain ⟨j, hj⟩ := List.getElem?_of_mem (List.mem_flatten.2 ⟨r, hr, hx⟩)
        have hlj := hat j x hj
        have hj2 : o + j < cs.size := by have := (List.getElem?_eq_some_iff.1 hlj).1; rw [hcs]; exact this
        exact (hce _ x _ hlj (Array.getElem?_eq_getElem hj2)).2.1
      · obtain ⟨r, hr1, hr2⟩ := flat_mem hx
        have hj : j < rows.length * k := hfl ▸ (List.getElem?_eq_some_iff.1 hx).1
        have hlj := hat j x hx
        have hu2 : cs[o + j]? = some u := by
          rw [List.getElem?_take, if_pos hj, List.getElem?_drop, Array.getElem?_toList] at hu
          exact hu
        exact (hce _ x u hlj hu2).1.alone hHR (hB r hr1 x hr2) (hfr r hr1 x hr2)
/-- THE CALL. -/
theorem PC.pure {f : FuncId} {args args' : List AV} {Q : AV → Hp → Prop} {v : AV} (hB : hasB P f = true) (hs : seesL H args args') (hb : ∀ y ∈ args', Bnd 0 y ∧ y.free = true) (hv : Pln v)
    (h : ∀ (E' : Env) (Q' : AV → Hp → Prop), E'.w0 = E.w0 → E'.Fix = E.Fix → Q' v [] → PC P E' f args' [] Q') (hQ : Q v H) : PC P E f args H Q := by
  refine ⟨hB, fun w β Rd Ow cargs hHR hOw hsz hargs => ?_⟩
  obtain ⟨hl, hat⟩ := seesL_at hs
  have hp := h ⟨E.w0, E.Fix, fun _ => True, fun _ _ => False⟩ (fun u H' => u = v) rfl rfl rfl
  refine (hp.2 w (fun _ => 0) (old w) (fun _ => none) cargs ⟨fun i l hl => by simp at hl, fun i j hi => by simp at hi, fun i hi => by simp at hi, fun g h hg => (by cases hg), fun g o hg => hg, fun l hl => by simp at hl, fun b hb => ⟨(hHR.fix b hb).1, rfl, fun i hi => by simp at hi, (hHR.fix b hb).2.2.2⟩, fun i l t hl => by simp at hl⟩ (fun g h hg => by cases hg) (by omega) (fun t y u hy hu => ?_)).mono ?_
  · obtain ⟨x, hx, hxy⟩ := hat t y hy
    have hyb := hb y (mem_at hy)
    exact ⟨hxy.rel hHR (hargs t x u hx hu).1 hyb.1 hyb.2, hyb.1, hyb.2⟩
  · rintro e w' ⟨c, u, H', β', Rd', Ow', rfl, rfl, hP⟩
    have hF : Frm (fun _ => False) w w' := ⟨hP.os, hP.tape, hP.output, hP.size, fun b hb _ => (hP.frame b hb (fun i hi => by simp at hi) rfl).1⟩
    exact ⟨c, u, H, β, _, Ow, rfl, hQ, post_freshP hHR hF (fun _ _ => False) (fun _ _ h => h.elim) (Pln.rel hP.rel hv) hv.bnd hv.free⟩
end
end Go.Proofs.YtjphdipbajfojaaDoor

set_option linter.unusedVariables false
set_option linter.unnecessarySimpa false
set_option linter.unusedSimpArgs false
set_option maxRecDepth 100000
namespace Go.Proofs.YtjphdipbajfojaaDoor
open Go Go.RowKit

section
variable {K : Hp} {c : Nat} (h : c < K.length)
include h
end
theorem getNX {L : Hp} {c d : Nat} (h : d ≠ c) (x : List AV) : (L.set d x)[c]? = L[c]? := List.getElem?_set_ne h
theorem ltX {α : Type} {l : List α} {i : Nat} {x : α} (h : l[i]? = some x) : i < l.length := (List.getElem?_eq_some_iff.1 h).1
theorem bndX_app {N : Nat} {H J : Hp} (h : BndH N H) (h2 : ∀ l ∈ J, ∀ x ∈ l, Bnd N x) : BndH N (H ++ J) := fun l hl x hx => by
  rcases List.mem_append.1 hl with h' | h'
  · exact h l h' x hx
  · exact h2 l h' x hx
theorem bndX_up {N M : Nat} {H : Hp} (h : BndH N H) (hm : N ≤ M) : BndH M H := fun l hl x hx => (h l hl x hx).mono hm
theorem bndX_put {N : Nat} {H : Hp} (h : BndH N H) (c : Nat) {l : List AV} (hl : ∀ x ∈ l, Bnd N x) : BndH N (H.set c l) := fun m hm x hx => by
  rcases List.mem_or_eq_of_mem_set hm with h1 | rfl
  · exact h m h1 x hx
  · exact hl x hx
theorem up_dropX {H H' : Hp} (h : H.length ≤ H'.length) (k : ∀ j, j < H.length → H'[j]? = H[j]?) : H' = H ++ H'.drop H.length := by
  refine List.ext_getElem? fun j => ?_
  by_cases hj : j < H.length
  · rw [List.getElem?_append_left hj, k j hj]
  · rw [List.getElem?_append_right (by omega), List.getElem?_drop]; congr 1; omega
theorem aPost_upX {P : Program} {rs : List ResultVar} {n : Nat} {Q : AV → Hp → Prop} {fr : List AV} {H' : Hp} {v : AV} (h1 : ares P fr H' rs = some v) (h3 : n ≤ H'.length) (h4 : BndH H'.length H') (h5 : Bnd H'.length v) (h6 : Q v H') :
    aPost P rs n Q .ret fr H' := ⟨v, v, H', H', [], h1, nilV_refl _, nilH_refl _, (List.append_nil H').symm, h3, h4, h5, h6⟩
theorem aPost_lawX {P : Program} {rs : List ResultVar} {Q : AV → Hp → Prop} {fr : List AV} {H H' : Hp} {v0 : AV} (hB : BndH H.length H) (hl : H.length ≤ H'.length) (hk : ∀ j, j < H.length → H'[j]? = H[j]?) (h1 : ares P fr H' rs = some v0) (h5 : Bnd H.length v0) (h6 : Q v0 H) :
    aPost P rs H.length Q .ret fr H' := by
  have e := up_dropX hl hk
  rw [e] at h1 ⊢
  exact aPost_same hB h1 (nilV_refl _) h5 h6
/-- A plain cell. -/
def smp (y : AV) : Prop := Pln y ∧ y.one = true
@[simp] theorem smp_int (k n) : smp (.int k n) := ⟨.int _ _, rfl⟩
@[simp] theorem smp_bool (b) : smp (.bool b) := ⟨.bool _, rfl⟩
@[simp] theorem smp_str (s) : smp (.str s) := ⟨.str _, rfl⟩
theorem smp.free {y : AV} (h : smp y) : y.free = true := h.1.free
theorem smp.bnd {y : AV} (h : smp y) (N : Nat) : Bnd N y := h.1.bnd
theorem smp.dis {y : AV} (h : smp y) : y.dis = y := dis_of_free h.free
/-- A slice of n rows of k plain cells, nil or a box's. -/
def BX (K : Hp) (G : Nat → Prop) (k : Nat) (v : AV) (n : Nat) (C : Nat → AV → Prop) : Prop := (n = 0 ∧ v = .nil) ∨ ∃ i c A, G i ∧ v = .bx i 0 n c k ∧ K[i]? = some A ∧ A.length = c * k ∧ n ≤ c ∧ c ≤ maxLen ∧ (∀ y ∈ A, smp y) ∧ ∀ j y, j < n * k → A[j]? = some y → C j y
section
variable {K : Hp} {G : Nat → Prop} {v : AV} {n k : Nat} {C C' : Nat → AV → Prop}
theorem BX.nil : BX K G k .nil 0 C := .inl ⟨rfl, rfl⟩
theorem BX.lt (h : BX K G k v n C) : ∀ i o m c k', v = .bx i o m c k' → G i ∧ i < K.length := fun i o m c k' e => by
  rcases h with ⟨_, rfl⟩ | ⟨i', c', A, h1, rfl, h2, _⟩
  · cases e
  · cases e; exact ⟨h1, ltX h2⟩
theorem BX.of_eq {K' : Hp} {G' : Nat → Prop} (h : BX K G k v n C) (he : ∀ i o m c k', v = .bx i o m c k' → K'[i]? = K[i]?) (hG : ∀ i o m c k', v = .bx i o m c k' → G' i) (hC : ∀ j y, j < n * k → smp y → C j y → C' j y) : BX K' G' k v n C' := by
  rcases h with h | ⟨i, c, A, h1, rfl, h2, h3, h4, h5, h6, h7⟩
  · exact .inl h
  · exact .inr ⟨i, c, A, hG _ _ _ _ _ rfl, rfl, (he _ _ _ _ _ rfl).trans h2, h3, h4, h5, h6, fun j y hj hy => hC j y hj (h6 y (List.mem_of_getElem? hy)) (h7 j y hj hy)⟩
theorem BX.app (h : BX K G k v n C) (J : Hp) : BX (K ++ J) G k v n C :=
  h.of_eq (fun i _ _ _ _ e => List.getElem?_append_left (h.lt _ _ _ _ _ e).2) (fun i _ _ _ _ e => (h.lt _ _ _ _ _ e).1) (fun _ _ _ _ h => h)
theorem BX.put (h : BX K G k v n C) {i : Nat} (hi : ∀ i' o m c k', v = .bx i' o m c k' → i ≠ i') (A : List AV) : BX (K.set i A) G k v n C :=
  h.of_eq (fun i' _ _ _ _ e => getNX (hi _ _ _ _ _ e) _) (fun i _ _ _ _ e => (h.lt _ _ _ _ _ e).1) (fun _ _ _ _ h => h)
theorem BX.facts (h : BX K G k v n C) : v.free = true ∧ v.one = true ∧ v.dis = v ∧ Bnd K.length v := by
  rcases h with ⟨_, rfl⟩ | ⟨i, c, A, h1, rfl, h2, _⟩
  · exact ⟨rfl, rfl, rfl, .nil⟩
  · exact ⟨rfl, rfl, rfl, .bx _ _ _ _ _ (ltX h2)⟩
theorem BX.alen {P : Program} {t : TypeId} (h : BX K G k v n C) (ht : (tsl P t).isSome = true) : Go.Proofs.YtjphdipbajfojaaDoor.alen P t v = some (.int .i64 n) := by
  rcases h with ⟨rfl, rfl⟩ | ⟨i, c, A, h1, rfl, _⟩ <;> simp [Go.Proofs.YtjphdipbajfojaaDoor.alen, ht]
theorem mul_rows {n c k : Nat} (h : n ≤ c) : n * k ≤ c * k := Nat.mul_le_mul_right k h
/-- A row is stored. -/
theorem BX.mark {i c : Nat} {A r : List AV} (h : BX K G k (.bx i 0 n c k) n C) (hA : K[i]? = some A) {j : Nat} (hj : j < n) (hr : r.length = k) (hs : ∀ y ∈ r, smp y)
    (hC : ∀ m y, m < n * k → (if j * k ≤ m ∧ m < j * k + k then r[m - j * k]? = some y else C m y) → C' m y) : BX (K.set i (A.take (j * k) ++ (r ++ A.drop (j * k + k)))) G k (.bx i 0 n c k) n C' ∧ ∀ y ∈ A.take (j * k) ++ (r ++ A.drop (j * k + k)), smp y := by
  rcases h with ⟨_, e⟩ | ⟨i', c', A', h1, e, h2, h3, h4, h5, h6, h7⟩
  · cases e
  cases e
  rw [hA] at h2; cases h2
  have hjk : j * k + k ≤ c * k := by have := mul_rows (k := k) (show j + 1 ≤ c by omega); rw [Nat.add_mul] at this; omega
  have hl : (A.take (j * k)).length = j * k := by rw [List.length_take]; omega
  have hsm : ∀ y ∈ A.take (j * k) ++ (r ++ A.drop (j * k + k)), smp y := fun y hy => by
    rcases List.mem_append.1 hy with h | h
    · exact h6 y (List.mem_of_mem_take h)
    · rcases List.mem_append.1 h with h | h
      · exact hs y h
      · exact h6 y (List.mem_of_mem_drop h)
  refine ⟨.inr ⟨i, c, _, h1, rfl, List.getElem?_set_self (ltX hA), ?_, h4, h5, hsm, fun m y hm hy => hC m y hm ?_⟩, hsm⟩
  · simp only [List.length_append, hl, hr, List.length_drop]; omega
  · by_cases h8 : m < j * k
    · rw [if_neg (by omega)]
      rw [List.getElem?_append_left (by omega), List.getElem?_take_of_lt h8] at hy
      exact h7 m y hm hy
    · rw [List.getElem?_append_right (by omega), hl] at hy
      by_cases h9 : m < j * k + k
      · rw [if_pos ⟨by omega, h9⟩]
        rw [List.getElem?_append_left (by omega)] at hy
        exact hy
      · rw [if_neg (by omega)]
        rw [List.getElem?_append_right (by omega), hr, List.getElem?_drop] at hy
        exact h7 m y hm (by rw [← hy]; congr 1; omega)
/-- A row more, where there is room. -/
theorem BX.room {i c : Nat} {A r : List AV} (h : BX K G k (.bx i 0 n c k) n C) (hA : K[i]? = some A) (hrm : n + 1 ≤ c) (hr : r.length = k) (hs : ∀ y ∈ r, smp y)
    (hC : ∀ m y, m < (n + 1) * k → (if n * k ≤ m then r[m - n * k]? = some y else C m y) → C' m y) : BX (K.set i (A.take (n * k) ++ (r ++ A.drop (n * k + k)))) G k (.bx i 0 (n + 1) c k) (n + 1) C' ∧ ∀ y ∈ A.take (n * k) ++ (r ++ A.drop (n * k + k)), smp y := by
  rcases h with ⟨_, e⟩ | ⟨i', c', A', h1, e, h2, h3, h4, h5, h6, h7⟩
  · cases e
  cases e
  rw [hA] at h2; cases h2
  have hjk : n * k + k ≤ c * k := by have := mul_rows (k := k) hrm; rw [Nat.add_mul] at this; omega
  have hl : (A.take (n * k)).length = n * k := by rw [List.length_take]; omega
  have hsm : ∀ y ∈ A.take (n * k) ++ (r ++ A.drop (n * k + k)), smp y := fun y hy => by
    rcases List.mem_append.1 hy with h | h
    · exact h6 y (List.mem_of_mem_take h)
    · rcases List.mem_append.1 h with h | h
      · exact hs y h
      · exact h6 y (List.mem_of_mem_drop h)
  refine ⟨.inr ⟨i, c, _, h1, rfl, List.getElem?_set_self (ltX hA), ?_, hrm, h5, hsm, fun m y hm hy => hC m y hm ?_⟩, hsm⟩
  · simp only [List.length_append, hl, hr, List.length_drop]; omega
  · by_cases h8 : m < n * k
    · rw [if_neg (by omega)]
      rw [List.getElem?_append_left (by omega), List.getElem?_take_of_lt h8] at hy
      exact h7 m y h8 hy
    · rw [if_pos (by omega)]
      rw [List.getElem?_append_right (by omega), hl, List.getElem?_append_left (by rw [hr]; rw [Nat.add_mul] at hm; omega)] at hy
      exact hy
/-- .. and in a new box: L: what stood there. -/
theorem BX.grow {c' : Nat} {L r z : List AV} (hL : L.length = n * k) (hLs : ∀ y ∈ L, smp y) (hLC : ∀ m y, m < n * k → L[m]? = some y → C m y) (hc1 : n + 1 ≤ c') (hc2 : c' ≤ maxLen) (hG : G K.length) (hr : r.length = k) (hs : ∀ y ∈ r, smp y) (hz : z.length = k) (hzs : ∀ y ∈ z, smp y)
    (hC : ∀ m y, m < (n + 1) * k → (if n * k ≤ m then r[m - n * k]? = some y else C m y) → C' m y) : BX (K ++ [L ++ (r ++ (List.replicate (c' - (n + 1)) z).flatten)]) G k (.bx K.length 0 (n + 1) c' k) (n + 1) C' ∧ ∀ y ∈ L ++ (r ++ (List.replicate (c' - (n + 1)) z).flatten), smp y := by
  have hsm : ∀ y ∈ L ++ (r ++ (List.replicate (c' - (n + 1)) z).flatten), smp y := fun y hy => by
    rcases List.mem_append.1 hy with h | h
    · exact hLs y h
    · rcases List.mem_append.1 h with h | h
      · exact hs y h
      · obtain ⟨q, hq1, hq2⟩ := List.mem_flatten.1 h
        rw [(List.mem_replicate.1 hq1).2] at hq2
        exact hzs y hq2
  refine ⟨.inr ⟨K.length, c', L ++ (r ++ (List.replicate (c' - (n + 1)) z).flatten), hG, rfl, by simp, ?_, hc1, hc2, hsm, fun m y hm hy => hC m y hm ?_⟩, hsm⟩
  · have hf : (List.replicate (c' - (n + 1)) z).flatten.length = (c' - (n + 1)) * k := by
      rw [flat_len (k := k) (fun q hq => by rw [(List.mem_replicate.1 hq).2]; exact hz), List.length_replicate]
    rw [List.length_append, List.length_append, hL, hr, hf, ← Nat.add_assoc, ← Nat.succ_mul, ← Nat.add_mul]
    congr 1; omega
  · by_cases h8 : m < n * k
    · rw [if_neg (by omega)]
      rw [List.getElem?_append_left (by omega)] at hy
      exact hLC m y h8 hy
    · rw [if_pos (by omega)]
      rw [List.getElem?_append_right (by omega), hL, List.getElem?_append_left (by rw [hr]; rw [Nat.add_mul] at hm; omega)] at hy
      exact hy
/-- What stands in a slice. -/
theorem BX.cells {i c : Nat} {A : List AV} (h : BX K G k (.bx i 0 n c k) n C) (hA : K[i]? = some A) : (A.take (n * k)).length = n * k ∧ (∀ y ∈ A, smp y) ∧ n * k ≤ A.length ∧ A.length = c * k ∧ n ≤ c ∧ c ≤ maxLen ∧ G i ∧ (∀ m y, m < n * k → (A.take (n * k))[m]? = some y → C m y) ∧ ∀ m y, m < n * k → A[m]? = some y → C m y := by
  rcases h with ⟨_, e⟩ | ⟨i', c', A', h1, e, h2, h3, h4, h5, h6, h7⟩
  · cases e
  cases e
  rw [hA] at h2; cases h2
  have := mul_rows (k := k) h4
  exact ⟨by rw [List.length_take]; omega, h6, by omega, h3, h4, h5, h1, fun m y hm hy => by rw [List.getElem?_take_of_lt hm] at hy; exact h7 m y hm hy, h7⟩
end
end Go.Proofs.YtjphdipbajfojaaDoor

set_option linter.unusedVariables false
set_option linter.unnecessarySimpa false
set_option linter.unusedSimpArgs false
set_option linter.unusedSectionVars false
set_option maxRecDepth 100000
namespace Go.Proofs.YtjphdipbajfojaaDoor
open Go Go.RowKit

/-- Rows of k plain cells in a box of one's own, from lo on; or nil. -/
def BR (K : Hp) (lo k : Nat) (v : AV) (rows : List (List AV)) : Prop := BX K (fun j => lo ≤ j) k v rows.length (fun j u => rows.flatten[j]? = some u)
def Kpt (H K : Hp) : Prop := H.length ≤ K.length ∧ ∀ j, j < H.length → K[j]? = H[j]?
theorem Kpt.refl (H : Hp) : Kpt H H := ⟨Nat.le_refl _, fun _ _ => rfl⟩
theorem Kpt.app (H J : Hp) : Kpt H (H ++ J) := ⟨by simp, fun j hj => List.getElem?_append_left hj⟩
theorem Kpt.trans {H K L : Hp} (h : Kpt H K) (h2 : Kpt K L) : Kpt H L := ⟨Nat.le_trans h.1 h2.1, fun j hj => (h2.2 j (Nat.lt_of_lt_of_le hj h.1)).trans (h.2 j hj)⟩
theorem Kpt.set {H K : Hp} (h : Kpt H K) {i : Nat} (hi : H.length ≤ i) (x : List AV) : Kpt H (K.set i x) := ⟨by simpa using h.1, fun j hj => (getNX (by omega) _).trans (h.2 j hj)⟩
theorem Kpt.more {H K : Hp} (h : Kpt H K) (J : Hp) : Kpt H (K ++ J) := h.trans (Kpt.app K J)
theorem flat_snoc {k n : Nat} {rows : List (List AV)} {r : List AV} (hk : ∀ r ∈ rows, r.length = k) (hn : rows.length = n) (hr : r.length = k) (m : Nat) (y : AV) (hm : m < (n + 1) * k) (h : if n * k ≤ m then r[m - n * k]? = some y else rows.flatten[m]? = some y) : (rows ++ [r]).flatten[m]? = some y := by
  have hf : rows.flatten.length = n * k := by rw [flat_len hk, hn]
  rw [List.flatten_append]
  by_cases h1 : n * k ≤ m
  · rw [if_pos h1] at h
    rw [List.getElem?_append_right (by omega), hf]
    simpa using h
  · rw [if_neg h1] at h
    rw [List.getElem?_append_left (by omega)]
    exact h
section
variable {H K K' : Hp} {lo k i c c' : Nat} {v : AV} {rows : List (List AV)} {r z A : List AV}
theorem BR.nil : BR K lo k .nil [] := .inl ⟨rfl, rfl⟩
theorem BR.keep (h : BR K lo k v rows) (hk : ∀ j, j < K.length → K'[j]? = K[j]?) : BR K' lo k v rows :=
  BX.of_eq h (fun i _ _ _ _ e => hk i (BX.lt h _ _ _ _ _ e).2) (fun i _ _ _ _ e => (BX.lt h _ _ _ _ _ e).1) (fun _ _ _ _ h => h)
theorem BR.first (hc1 : 1 ≤ c) (hc2 : c ≤ maxLen) (hlo : lo ≤ K.length) (hr : r.length = k) (hs : ∀ y ∈ r, smp y) (hz : z.length = k) (hzs : ∀ y ∈ z, smp y) : BR (K ++ [r ++ (List.replicate (c - 1) z).flatten]) lo k (.bx K.length 0 1 c k) [r] ∧ ∀ y ∈ r ++ (List.replicate (c - 1) z).flatten, smp y := by
  obtain ⟨b1, b2⟩ := BX.grow (K := K) (G := fun j => lo ≤ j) (n := 0) (k := k) (C := fun j u => ([] : List (List AV)).flatten[j]? = some u) (C' := fun j u => [r].flatten[j]? = some u) (c' := c) (L := []) (r := r) (z := z) (by simp) (by simp) (fun _ _ h => by omega) (by omega) hc2 hlo hr hs hz hzs
    (fun m y hm h => flat_snoc (rows := []) (n := 0) (by simp) rfl hr m y hm h)
  simp only [List.nil_append, Nat.zero_add] at b1 b2
  exact ⟨b1, b2⟩
theorem BR.room (h : BR K lo k (.bx i 0 rows.length c k) rows) (hk : ∀ r ∈ rows, r.length = k) (hA : K[i]? = some A) (hrm : rows.length + 1 ≤ c) (hr : r.length = k) (hs : ∀ y ∈ r, smp y) : BR (K.set i (A.take (rows.length * k) ++ (r ++ A.drop (rows.length * k + k)))) lo k (.bx i 0 (rows.length + 1) c k) (rows ++ [r]) ∧ ∀ y ∈ A.take (rows.length * k) ++ (r ++ A.drop (rows.length * k + k)), smp y := by
  obtain ⟨b1, b2⟩ := BX.room h hA hrm hr hs (C' := fun j u => (rows ++ [r]).flatten[j]? = some u) (fun m y hm h => flat_snoc hk rfl hr m y hm h)
  exact ⟨by unfold BR; simpa using b1, b2⟩
theorem BR.grow (h : BR K lo k (.bx i 0 rows.length c k) rows) (hk : ∀ r ∈ rows, r.length = k) (hA : K[i]? = some A) (hlo : lo ≤ K.length) (hc1 : rows.length + 1 ≤ c') (hc2 : c' ≤ maxLen) (hr : r.length = k) (hs : ∀ y ∈ r, smp y) (hz : z.length = k) (hzs : ∀ y ∈ z, smp y) :
    BR (K ++ [A.take (rows.length * k) ++ (r ++ (List.replicate (c' - (rows.length + 1)) z).flatten)]) lo k (.bx K.length 0 (rows.length + 1) c' k) (rows ++ [r]) ∧ ∀ y ∈ A.take (rows.length * k) ++ (r ++ (List.replicate (c' - (rows.length + 1)) z).flatten), smp y := by
  obtain ⟨a1, a2, a3, a4, a5, a6, a7, a8, a9⟩ := BX.cells h hA
  obtain ⟨b1, b2⟩ := BX.grow (K := K) (G := fun j => lo ≤ j) (n := rows.length) (k := k) (C := fun j u => rows.flatten[j]? = some u) (C' := fun j u => (rows ++ [r]).flatten[j]? = some u) (c' := c') (L := A.take (rows.length * k)) (r := r) (z := z) a1 (fun y hy => a2 y (List.mem_of_mem_take hy)) a8 hc1 hc2 hlo hr hs hz hzs (fun m y hm h => flat_snoc hk rfl hr m y hm h)
  exact ⟨by unfold BR; simpa using b1, b2⟩
/-- What is read of it. -/
theorem BR.sees (h : BR K lo k v rows) (hk : ∀ r ∈ rows, r.length = k) (hf : ∀ r ∈ rows, ∀ x ∈ r, x.free = true) : seesBx K v (.sl false k rows) := by
  rcases h with ⟨h0, rfl⟩ | ⟨i, c, A, h1, rfl, h2, h3, h4, h5, h6, h7⟩
  · have : rows = [] := List.eq_nil_of_length_eq_zero h0
    subst this
    exact .inr (.inl ⟨rfl, k, rfl⟩)
  · have hA2 : rows.length * k ≤ A.length := by rw [h3]; exact mul_rows h4
    refine .inr (.inr ⟨i, 0, rows.length, c, k, rows, A, rfl, rfl, rfl, hk, h2, by omega, fun j u hu => ?_, hf⟩)
    have hj : j < rows.length * k := by have := ltX hu; rw [flat_len hk] at this; exact this
    have hj2 : j < A.length := by omega
    have := h7 j _ hj (List.getElem?_eq_getElem hj2)
    rw [Nat.zero_add, List.getElem?_eq_getElem hj2, ← this, hu]
/-- In boxes one behind the other. -/
def dif (a b : AV) : Prop := ∀ i o n c k i' o' n' c' k', a = .bx i o n c k → b = .bx i' o' n' c' k' → i < i'
theorem dif_of {K K' : Hp} {G G' : Nat → Prop} {v v' : AV} {n n' k k' : Nat} {C C' : Nat → AV → Prop} (h : BX K G k v n C) (h' : BX K' G' k' v' n' C') (hG : ∀ j, G' j → K.length ≤ j) : dif v v' := fun i o n c k i' o' n' c' k' e e' => by
  have h1 := (h.lt _ _ _ _ _ e).2
  have h2 := hG _ (h'.lt _ _ _ _ _ e').1
  omega
theorem BX.wk {G G' : Nat → Prop} {n : Nat} {C C' : Nat → AV → Prop} (h : BX K G k v n C) (hG : ∀ j, G j → G' j) (hC : ∀ j y, j < n * k → smp y → C j y → C' j y) : BX K G' k v n C' :=
  h.of_eq (fun _ _ _ _ _ _ => rfl) (fun i _ _ _ _ e => hG _ (h.lt _ _ _ _ _ e).1) (fun j y hj hs h => hC j y hj hs h)
theorem BX.acells {G : Nat → Prop} {n : Nat} {C : Nat → AV → Prop} (h : BX K G k v n C) : Go.Proofs.YtjphdipbajfojaaDoor.acells v = some [v] := by
  rcases h with ⟨_, rfl⟩ | ⟨i, c, A, h1, rfl, _⟩ <;> rfl
theorem BX.keepPre {G : Nat → Prop} {n j : Nat} {C : Nat → AV → Prop} {A A' : List AV} (h : BX K G k v n C) (hA : K[j]? = some A) (hl : A'.length = A.length) (hs : ∀ y ∈ A', smp y) (hp : ∀ m, m < n * k → A'[m]? = A[m]?) : BX (K.set j A') G k v n C := by
  rcases h with h | ⟨i, c, B, h1, rfl, h2, h3, h4, h5, h6, h7⟩
  · exact .inl h
  · by_cases e : i = j
    · subst e
      rw [hA] at h2; cases h2
      exact .inr ⟨i, c, A', h1, rfl, List.getElem?_set_self (ltX hA), by omega, h4, h5, hs, fun m y hm hy => h7 m y hm (by rw [← hp m hm]; exact hy)⟩
    · exact .inr ⟨i, c, B, h1, rfl, (getNX (Ne.symm e) _).trans h2, h3, h4, h5, h6, h7⟩
/-- How boxes change where a slice grows by a row. -/
def Chg (K K' : Hp) (v : AV) (n k : Nat) : Prop := (∃ X, K' = K ++ [X]) ∨ ∃ d c A X, v = .bx d 0 n c k ∧ K[d]? = some A ∧ K' = K.set d X ∧ X.length = A.length ∧ (∀ y ∈ X, smp y) ∧ ∀ m, m < n * k → X[m]? = A[m]?
/-- append(x, y), whatever room there is. -/
theorem VXapp {P : Program} {E : Env} {B : List Tmp} {all : Array Oper} {KK : List AV → Hp → Prop} {pu : List Nat} {rest : List Oper} {d : Option Tmp} {fr : List AV} {G : Nat → Prop} {n b : Nat} {C C' : Nat → AV → Prop} (hv : BX K G k v n C) (hB : BndH K.length K) (hG : G K.length) (hk0 : 0 < k) (hr : r.length = k) (hs : ∀ y ∈ r, smp y) (hz : z.length = k) (hzs : ∀ y ∈ z, smp y) (hm : n + 1 ≤ maxLen) (hm2 : (n + 1) * b ≤ 140737488355328)
    (hC : ∀ m y, m < (n + 1) * k → (if n * k ≤ m then r[m - n * k]? = some y else C m y) → C' m y)
    (h : ∀ K' v', BX K' G k v' (n + 1) C' → Chg K K' v n k → BndH K'.length K' → vcl P E B all KK pu rest (aput fr d v') K') : VXOp (axapp k b z [r] fr K v) P E B all KK pu rest d fr := by
  have one : ([r] : List (List AV)).flatten = r := by simp
  rcases id hv with ⟨rfl, rfl⟩ | ⟨vi, vc, A, hvi, rfl, hA, h3, h4, h5, h6, h7⟩
  · have e : axapp k b z [r] fr K .nil = some (.grow 1 fun c => (.bx K.length 0 1 c k, K ++ [r ++ (List.replicate (c - 1) z).flatten])) := by
      unfold axapp
      rw [if_neg (by simp), if_pos ⟨by simp; omega, by simp at hm2 ⊢; omega⟩]
      simp
    rw [e]
    intro c hc1 hc2
    obtain ⟨b1, b2⟩ := BX.grow (K := K) (G := G) (n := 0) (k := k) (C := C) (C' := C') (c' := c) (L := []) (r := r) (z := z) (by simp) (by simp) (fun _ _ h => by omega) (by omega) hc2 hG hr hs hz hzs hC
    simp only [List.nil_append, Nat.zero_add] at b1 b2
    exact h _ _ b1 (.inl ⟨_, rfl⟩) (bndX_app (bndX_up hB (by simp)) fun l hl y hy => by simp at hl; subst hl; exact (b2 y hy).bnd _)
  · have hfree : ((A.drop 0).take (n * k)).all (·.free) = true := List.all_eq_true.2 fun y hy => (h6 y (List.mem_of_mem_drop (List.mem_of_mem_take hy))).free
    have hA1 : 0 + n * k ≤ A.length := by rw [h3]; have := mul_rows (k := k) h4; omega
    by_cases hroom : n + 1 ≤ vc
    · have hA3 : (n + 1) * k ≤ A.length := by rw [h3]; exact mul_rows hroom
      obtain ⟨b1, b2⟩ := hv.room hA hroom hr hs hC
      have e : axapp k b z [r] fr K (.bx vi 0 n vc k) = some (.one (.bx vi 0 (n + 1) vc k) fr (K.set vi (A.take (n * k) ++ (r ++ A.drop (n * k + k))))) := by
        unfold axapp
        simp only [hA]
        rw [if_pos ⟨trivial, hA1, hfree⟩, if_pos (by simpa using hroom), if_pos (by simpa using hA3)]
        simp [setR, hr]
      rw [e]
      have hkk : (n + 1) * k = n * k + k := by rw [Nat.add_mul, Nat.one_mul]
      refine h _ _ b1 (.inr ⟨vi, vc, A, _, rfl, hA, rfl, ?_, b2, fun m hm => ?_⟩) (by rw [List.length_set]; exact bndX_put hB _ fun y hy => (b2 y hy).bnd _)
      · simp only [List.length_append, List.length_take, List.length_drop, hr]; omega
      · rw [List.getElem?_append_left (by rw [List.length_take]; omega), List.getElem?_take_of_lt hm]
    · obtain ⟨a1, a2, a3, a4, a5, a6, a7, a8, a9⟩ := hv.cells hA
      have e : axapp k b z [r] fr K (.bx vi 0 n vc k) = some (.grow (n + 1) fun c => (.bx K.length 0 (n + 1) c k, K ++ [A.take (n * k) ++ (r ++ (List.replicate (c - (n + 1)) z).flatten)])) := by
        unfold axapp
        simp only [hA]
        rw [if_pos ⟨trivial, hA1, hfree⟩, if_neg (by simpa using hroom), if_pos ⟨by simpa using hm, by simpa using hm2⟩]
        simp
      rw [e]
      intro c hc1 hc2
      obtain ⟨b1, b2⟩ := BX.grow (K := K) (G := G) (n := n) (k := k) (C := C) (C' := C') (c' := c) (L := A.take (n * k)) (r := r) (z := z) a1 (fun y hy => a2 y (List.mem_of_mem_take hy)) a8 hc1 hc2 hG hr hs hz hzs hC
      exact h _ _ b1 (.inl ⟨_, rfl⟩) (bndX_app (bndX_up hB (by simp)) fun l hl y hy => by simp at hl; subst hl; exact (b2 y hy).bnd _)
theorem Chg.kpt {n : Nat} {H : Hp} (h : Chg K K' v n k) (hK : Kpt H K) (hv : ∀ d o m c k', v = .bx d o m c k' → H.length ≤ d) : Kpt H K' := by
  rcases h with ⟨X, rfl⟩ | ⟨d, c, A, X, rfl, h2, rfl, _⟩
  · exact hK.more _
  · exact hK.set (hv _ _ _ _ _ rfl) _
/-- .. where the rows are known. -/
theorem VXappR {P : Program} {E : Env} {B : List Tmp} {all : Array Oper} {KK : List AV → Hp → Prop} {pu : List Nat} {rest : List Oper} {d : Option Tmp} {fr : List AV} {H : Hp} {b : Nat} (hv : BR K H.length k v rows) (hrk : ∀ r ∈ rows, r.length = k) (hK : Kpt H K) (hB : BndH K.length K) (hk0 : 0 < k) (hr : r.length = k) (hs : ∀ y ∈ r, smp y) (hz : z.length = k) (hzs : ∀ y ∈ z, smp y) (hm : rows.length + 1 ≤ maxLen) (hm2 : (rows.length + 1) * b ≤ 140737488355328)
    (h : ∀ K' v', BR K' H.length k v' (rows ++ [r]) → Kpt H K' → BndH K'.length K' → vcl P E B all KK pu rest (aput fr d v') K') : VXOp (axapp k b z [r] fr K v) P E B all KK pu rest d fr :=
  VXapp hv hB hK.1 hk0 hr hs hz hzs hm hm2 (C' := fun j u => (rows ++ [r]).flatten[j]? = some u) (fun m y hm hy => flat_snoc hrk rfl hr m y hm hy) fun K' v' h1 h2 h3 => h K' v' (by unfold BR; simpa using h1) (h2.kpt hK fun _ _ _ _ _ e => (BX.lt hv _ _ _ _ _ e).1) h3
end
end Go.Proofs.YtjphdipbajfojaaDoor

set_option linter.unusedVariables false
set_option linter.unnecessarySimpa false
set_option linter.unusedSimpArgs false
set_option linter.unusedSectionVars false
set_option maxRecDepth 100000
namespace Go.Proofs.YtjphdipbajfojaaDoor
open Go Go.RowKit

structure Mq where
  v : AV
  n : Nat
def rowsQ (l : List Mq) : List (List AV) := l.map fun e => [e.v]
theorem rowsQ_len (l : List Mq) : (rowsQ l).length = l.length := List.length_map ..
theorem rowsQ_at {l : List Mq} {i : Nat} {e : Mq} (h : l[i]? = some e) : lat (rowsQ l) i = some [e.v] := by show (rowsQ l)[i]? = _; simp [rowsQ, h]
theorem rowsQ_snoc (l : List Mq) (e : Mq) : rowsQ l ++ [[e.v]] = rowsQ (l ++ [e]) := by simp [rowsQ]
theorem rowsQ_snoc2 (l : List Mq) (e e' : Mq) : rowsQ l ++ [[e.v], [e'.v]] = rowsQ (l ++ [e, e']) := by simp [rowsQ]
/-- Two values of different boxes. -/
def dne (a b : AV) : Prop := ∀ i o n c k i' o' n' c' k', a = .bx i o n c k → b = .bx i' o' n' c' k' → i ≠ i'
theorem dif.ne {a b : AV} (h : dif a b) : dne a b := fun i o n c k i' o' n' c' k' e e' => by have := h _ _ _ _ _ _ _ _ _ _ e e'; omega
theorem dne.symm {a b : AV} (h : dne a b) : dne b a := fun i o n c k i' o' n' c' k' e e' => Ne.symm (h _ _ _ _ _ _ _ _ _ _ e' e)
/-- Lists of two kinds, each in its own box from H on. -/
structure OmS (H K : Hp) (L1 : Nat) (LS PS : List Mq) (C D : Nat → Nat → AV → Prop) : Prop where
  kp : Kpt H K
  bx : ∀ i e, LS[i]? = some e → BX K (fun j => H.length ≤ j ∧ j < L1) 1 e.v e.n (C i) ∧ e.n ≤ 1048577
  px : ∀ i e, PS[i]? = some e → BX K (fun j => H.length ≤ j ∧ j < L1) 3 e.v e.n (D i) ∧ e.n ≤ 1048577
  dl : LS.Pairwise fun a b => dne a.v b.v
  dp : PS.Pairwise fun a b => dne a.v b.v
  dx : ∀ e ∈ LS, ∀ e' ∈ PS, dne e.v e'.v
  l1 : L1 ≤ K.length
  h1 : H.length ≤ L1
section
variable {H K K' : Hp} {L1 : Nat} {LS PS : List Mq} {C C' D D' : Nat → Nat → AV → Prop}
theorem OmS.keep (h : OmS H K L1 LS PS C D) (hk : Kpt K K') : OmS H K' L1 LS PS C D :=
  ⟨h.kp.trans hk, fun i e he => ⟨(h.bx i e he).1.of_eq (fun i' _ _ _ _ ee => hk.2 i' ((h.bx i e he).1.lt _ _ _ _ _ ee).2) (fun i' _ _ _ _ ee => ((h.bx i e he).1.lt _ _ _ _ _ ee).1) (fun _ _ _ _ h => h), (h.bx i e he).2⟩,
    fun i e he => ⟨(h.px i e he).1.of_eq (fun i' _ _ _ _ ee => hk.2 i' ((h.px i e he).1.lt _ _ _ _ _ ee).2) (fun i' _ _ _ _ ee => ((h.px i e he).1.lt _ _ _ _ _ ee).1) (fun _ _ _ _ h => h), (h.px i e he).2⟩, h.dl, h.dp, h.dx, by have := h.l1; have := hk.1; omega, h.h1⟩
theorem OmS.up (h : OmS H K L1 LS PS C D) {L2 : Nat} (h1 : L1 ≤ L2) (h2 : L2 ≤ K.length) : OmS H K L2 LS PS C D :=
  ⟨h.kp, fun i e he => ⟨BX.wk (h.bx i e he).1 (fun j hj => ⟨hj.1, by omega⟩) (fun _ _ _ _ h => h), (h.bx i e he).2⟩, fun i e he => ⟨BX.wk (h.px i e he).1 (fun j hj => ⟨hj.1, by omega⟩) (fun _ _ _ _ h => h), (h.px i e he).2⟩, h.dl, h.dp, h.dx, h2, Nat.le_trans h.h1 h1⟩
theorem OmS.wk (h : OmS H K L1 LS PS C D) (hC : ∀ i e j y, LS[i]? = some e → j < e.n → C i j y → C' i j y) (hD : ∀ i e j y, PS[i]? = some e → j < e.n * 3 → D i j y → D' i j y) : OmS H K L1 LS PS C' D' :=
  ⟨h.kp, fun i e he => ⟨BX.wk (h.bx i e he).1 (fun j hj => hj) (fun j y hj _ hc => hC i e j y he (by omega) hc), (h.bx i e he).2⟩, fun i e he => ⟨BX.wk (h.px i e he).1 (fun j hj => hj) (fun j y hj _ hc => hD i e j y he hj hc), (h.px i e he).2⟩, h.dl, h.dp, h.dx, h.l1, h.h1⟩
/-- Three lists more. -/
theorem OmS.more (h : OmS H K L1 LS PS (fun _ _ _ => True) (fun _ _ _ => True)) {K1 K2 K3 : Hp} (k1 : Kpt K K1) (k2 : Kpt K1 K2) (k3 : Kpt K2 K3) {a b c : AV} {ra rb rc : List (List AV)} (ha : BR K1 K.length 1 a ra) (hb : BR K2 K1.length 1 b rb) (hc : BR K3 K2.length 3 c rc) (na : ra.length ≤ 1048577) (nb : rb.length ≤ 1048577) (nc : rc.length ≤ 1048577) :
    OmS H K3 K3.length (LS ++ [⟨a, ra.length⟩, ⟨b, rb.length⟩]) (PS ++ [⟨c, rc.length⟩]) (fun _ _ _ => True) (fun _ _ _ => True) := by
  have k13 := k2.trans k3
  have h3 := (h.keep (k1.trans k13)).up (L2 := K3.length) (by have := h.l1; have := k1.1; have := k13.1; omega) (Nat.le_refl _)
  have hK := h.kp.1
  have l1 := k1.1
  have l2 := k2.1
  have l3 := k3.1
  have ha3 : BX K3 (fun j => H.length ≤ j ∧ j < K3.length) 1 a ra.length (fun _ _ => True) := BX.of_eq ha (fun i _ _ _ _ e => k13.2 i (BX.lt ha _ _ _ _ _ e).2) (fun i _ _ _ _ e => by
    have := BX.lt ha _ _ _ _ _ e
    exact ⟨Nat.le_trans hK this.1, by omega⟩) (fun _ _ _ _ _ => trivial)
  have hb3 : BX K3 (fun j => H.length ≤ j ∧ j < K3.length) 1 b rb.length (fun _ _ => True) := BX.of_eq hb (fun i _ _ _ _ e => k3.2 i (BX.lt hb _ _ _ _ _ e).2) (fun i _ _ _ _ e => by
    have := BX.lt hb _ _ _ _ _ e
    exact ⟨Nat.le_trans (by omega) this.1, by omega⟩) (fun _ _ _ _ _ => trivial)
  have hc3 : BX K3 (fun j => H.length ≤ j ∧ j < K3.length) 3 c rc.length (fun _ _ => True) := BX.of_eq hc (fun _ _ _ _ _ _ => rfl) (fun i _ _ _ _ e => by
    have := BX.lt hc _ _ _ _ _ e
    exact ⟨Nat.le_trans (by omega) this.1, this.2⟩) (fun _ _ _ _ _ => trivial)
  have dab : dne a b := (dif_of ha hb (fun j hj => hj)).ne
  have dac : dne a c := (dif_of ha hc (fun j hj => Nat.le_trans l2 hj)).ne
  have dbc : dne b c := (dif_of hb hc (fun j hj => hj)).ne
  have old : ∀ {x : Mq} {k n : Nat} {G : Nat → Prop} {v : AV} {F : Nat → AV → Prop} {E : Nat → AV → Prop} {k' : Nat} {Kx : Hp}, BX K (fun j => H.length ≤ j ∧ j < L1) k x.v x.n E → BX Kx G k' v n F → (∀ j, G j → K.length ≤ j) → dne x.v v := fun hx hv hG => (dif_of hx hv hG).ne
  refine ⟨h3.kp, fun i e he => ?_, fun i e he => ?_, ?_, ?_, fun e he e' he' => ?_, Nat.le_refl _, by omega⟩
  · rcases List.mem_append.1 (List.mem_of_getElem? he) with hm | hm
    · obtain ⟨j, hj⟩ := List.getElem?_of_mem hm
      exact h3.bx j e hj
    · simp at hm
      rcases hm with rfl | rfl
      · exact ⟨ha3, na⟩
      · exact ⟨hb3, nb⟩
  · rcases List.mem_append.1 (List.mem_of_getElem? he) with hm | hm
    · obtain ⟨j, hj⟩ := List.getElem?_of_mem hm
      exact h3.px j e hj
    · simp at hm; subst hm
      exact ⟨hc3, nc⟩
  · refine List.pairwise_append.2 ⟨h.dl, List.Pairwise.cons (fun y hy => ?_) (List.pairwise_singleton ..), fun x hx y hy => ?_⟩
    · simp at hy; subst hy; exact dab
    · obtain ⟨j, hj⟩ := List.getElem?_of_mem hx
      simp at hy
      rcases hy with rfl | rfl
      · exact old (h.bx j x hj).1 ha (fun j hj => hj)
      · exact old (h.bx j x hj).1 hb (fun j hj => Nat.le_trans l1 hj)
  · refine List.pairwise_append.2 ⟨h.dp, List.pairwise_singleton .., fun x hx y hy => ?_⟩
    obtain ⟨j, hj⟩ := List.getElem?_of_mem hx
    simp at hy; subst hy
    exact old (h.px j x hj).1 hc (fun j hj => Nat.le_trans (Nat.le_trans l1 l2) hj)
  · rcases List.mem_append.1 he with he | he <;> rcases List.mem_append.1 he' with he' | he'
    · exact h.dx e he e' he'
    · obtain ⟨j, hj⟩ := List.getElem?_of_mem he
      simp at he'; subst he'
      exact old (h.bx j e hj).1 hc (fun j hj => Nat.le_trans (Nat.le_trans l1 l2) hj)
    · obtain ⟨j, hj⟩ := List.getElem?_of_mem he'
      simp at he
      rcases he with rfl | rfl
      · exact (old (h.px j e' hj).1 ha (fun j hj => hj)).symm
      · exact (old (h.px j e' hj).1 hb (fun j hj => Nat.le_trans l1 hj)).symm
    · simp at he'; subst he'
      simp at he
      rcases he with rfl | rfl
      · exact dac
      · exact dbc
theorem pw_ne {l : List Mq} (h : l.Pairwise fun a b => dne a.v b.v) {i i' : Nat} {e e' : Mq} (he : l[i]? = some e) (he' : l[i']? = some e') (hi : i ≠ i') : dne e.v e'.v := by
  obtain ⟨g1, g2⟩ := List.getElem?_eq_some_iff.1 he
  obtain ⟨g3, g4⟩ := List.getElem?_eq_some_iff.1 he'
  have hp := List.pairwise_iff_getElem.1 h
  rcases Nat.lt_or_gt_of_ne hi with hl | hl
  · have := hp i i' g1 g3 hl
    rwa [g2, g4] at this
  · have := hp i' i g3 g1 hl
    rw [g2, g4] at this
    exact this.symm
/-- The box of a list of texts is written. -/
theorem OmS.putL (h : OmS H K L1 LS PS C D) {i d : Nat} {e : Mq} (he : LS[i]? = some e) {o n c k : Nat} (hv : e.v = .bx d o n c k) {X : List AV} (hX : BX (K.set d X) (fun j => H.length ≤ j ∧ j < L1) 1 e.v e.n (C' i)) (hC : ∀ i' e', LS[i']? = some e' → i' ≠ i → ∀ j y, j < e'.n → C i' j y → C' i' j y) : OmS H (K.set d X) L1 LS PS C' D := by
  have hd := (h.bx i e he).1.lt _ _ _ _ _ hv
  refine ⟨h.kp.set hd.1.1 _, fun i' e' he' => ?_, fun i' e' he' => ?_, h.dl, h.dp, h.dx, by simpa using h.l1, h.h1⟩
  · by_cases hi : i' = i
    · subst hi
      rw [he] at he'; cases he'
      exact ⟨hX, (h.bx i' e he).2⟩
    · exact ⟨BX.wk ((h.bx i' e' he').1.put (fun d' _ _ _ _ ee => pw_ne h.dl he he' (Ne.symm hi) _ _ _ _ _ _ _ _ _ _ hv ee) X) (fun j hj => hj) (fun j y hj _ hc => hC i' e' he' hi j y (by omega) hc), (h.bx i' e' he').2⟩
  · exact ⟨(h.px i' e' he').1.put (fun d' _ _ _ _ ee => h.dx e (List.mem_of_getElem? he) e' (List.mem_of_getElem? he') _ _ _ _ _ _ _ _ _ _ hv ee) X, (h.px i' e' he').2⟩
/-- .. of a list of parameters. -/
theorem OmS.putP (h : OmS H K L1 LS PS C D) {i d : Nat} {e : Mq} (he : PS[i]? = some e) {o n c k : Nat} (hv : e.v = .bx d o n c k) {X : List AV} (hX : BX (K.set d X) (fun j => H.length ≤ j ∧ j < L1) 3 e.v e.n (D' i)) (hD : ∀ i' e', PS[i']? = some e' → i' ≠ i → ∀ j y, j < e'.n * 3 → D i' j y → D' i' j y) : OmS H (K.set d X) L1 LS PS C D' := by
  have hd := (h.px i e he).1.lt _ _ _ _ _ hv
  refine ⟨h.kp.set hd.1.1 _, fun i' e' he' => ?_, fun i' e' he' => ?_, h.dl, h.dp, h.dx, by simpa using h.l1, h.h1⟩
  · exact ⟨(h.bx i' e' he').1.put (fun d' _ _ _ _ ee => (h.dx e' (List.mem_of_getElem? he') e (List.mem_of_getElem? he)).symm _ _ _ _ _ _ _ _ _ _ hv ee) X, (h.bx i' e' he').2⟩
  · by_cases hi : i' = i
    · subst hi
      rw [he] at he'; cases he'
      exact ⟨hX, (h.px i' e he).2⟩
    · exact ⟨BX.wk ((h.px i' e' he').1.put (fun d' _ _ _ _ ee => pw_ne h.dp he he' (Ne.symm hi) _ _ _ _ _ _ _ _ _ _ hv ee) X) (fun j hj => hj) (fun j y hj _ hc => hD i' e' he' hi j y hj hc), (h.px i' e' he').2⟩
/-- A box behind all of them is written. -/
theorem OmS.putOut (h : OmS H K L1 LS PS C D) {d : Nat} (hd : L1 ≤ d) (hd2 : H.length ≤ d) (X : List AV) : OmS H (K.set d X) L1 LS PS C D := by
  refine ⟨h.kp.set hd2 _, fun i' e' he' => ⟨(h.bx i' e' he').1.put (fun d' _ _ _ _ ee => ?_) X, (h.bx i' e' he').2⟩, fun i' e' he' => ⟨(h.px i' e' he').1.put (fun d' _ _ _ _ ee => ?_) X, (h.px i' e' he').2⟩, h.dl, h.dp, h.dx, by simpa using h.l1, h.h1⟩
  · have := ((h.bx i' e' he').1.lt _ _ _ _ _ ee).1; omega
  · have := ((h.px i' e' he').1.lt _ _ _ _ _ ee).1; omega
end
end Go.Proofs.YtjphdipbajfojaaDoor

namespace Go.Proofs.YtjphdipbajfojaaDoor
open Go Go.Shelf Go.Proofs
def lren : Go.Shelf.Ren := ⟨fun | 119 => 104 | 120 => 97 | 129 => 100 | 137 => 66 | 151 => 87 | 152 => 96 | 156 => 65 | 160 => 63 | 165 => 80 | 166 => 81 | 167 => 51 | 169 => 52 | 171 => 61 | 197 => 86 | 217 => 82 | 224 => 105 | 225 => 106 | 227 => 75 | 228 => 85 | 231 => 73 | 232 => 74 | 233 => 76 | 234 => 77 | 235 => 78 | 236 => 79 | 240 => 70 | 241 => 89 | 243 => 71 | 246 => 84 | 260 => 95 | 266 => 90 | 271 => 88 | 276 => 83 | 277 => 98 | 283 => 91 | 284 => 92 | 285 => 93 | 286 => 94 | 317 => 99 | 318 => 101 | 319 => 102 | 320 => 103 | 337 => 107 | 338 => 108 | n => n, fun | 0 => 0 | 2 => 2 | 3 => 3 | 4 => 4 | 5 => 5 | 9 => 9 | 20 => 20 | 21 => 21 | 31 => 53 | 37 => 65 | 46 => 117 | 51 => 86 | 53 => 105 | 70 => 68 | 72 => 70 | 75 => 72 | 76 => 96 | 80 => 74 | 105 => 101 | 116 => 90 | 117 => 91 | 119 => 119 | 124 => 94 | 127 => 85 | 138 => 121 | 139 => 122 | 164 => 98 | 171 => 104 | 173 => 108 | 212 => 114 | 213 => 115 | 232 => 126 | 233 => 127 | n => n, fun | 3 => 3 | 4 => 4 | 17 => 2 | 18 => 5 | 19 => 6 | n => n⟩
theorem lays160 : Go.Proofs.Lays.n160 Tryd.prog lren := {
  mixed := by kernel_rfl
  f119 := Tryd.func104.trans (congrArg some (by kernel_rfl))
  f120 := Tryd.func97.trans (congrArg some (by kernel_rfl))
  f137 := Tryd.func66.trans (congrArg some (by kernel_rfl))
  f151 := Tryd.func87.trans (congrArg some (by kernel_rfl))
  f152 := Tryd.func96.trans (congrArg some (by kernel_rfl))
  f160 := Tryd.func63.trans (congrArg some (by kernel_rfl))
  f197 := Tryd.func86.trans (congrArg some (by kernel_rfl))
  f217 := Tryd.func82.trans (congrArg some (by kernel_rfl))
  f224 := Tryd.func105.trans (congrArg some (by kernel_rfl))
  f225 := Tryd.func106.trans (congrArg some (by kernel_rfl))
  f227 := Tryd.func75.trans (congrArg some (by kernel_rfl))
  f228 := Tryd.func85.trans (congrArg some (by kernel_rfl))
  f231 := Tryd.func73.trans (congrArg some (by kernel_rfl))
  f232 := Tryd.func74.trans (congrArg some (by kernel_rfl))
  f233 := Tryd.func76.trans (congrArg some (by kernel_rfl))
  f234 := Tryd.func77.trans (congrArg some (by kernel_rfl))
  f235 := Tryd.func78.trans (congrArg some (by kernel_rfl))
  f236 := Tryd.func79.trans (congrArg some (by kernel_rfl))
  f260 := Tryd.func95.trans (congrArg some (by kernel_rfl))
  f266 := Tryd.func90.trans (congrArg some (by kernel_rfl))
  f271 := Tryd.func88.trans (congrArg some (by kernel_rfl))
  t0 := Tryd.underlying0
  a0 := Tryd.isAgg0
  z0 := Tryd.sizeOf0
  v0 := Tryd.zeroValue0
  t3 := Tryd.underlying3
  a3 := Tryd.isAgg3
  z3 := Tryd.sizeOf3
  v3 := Tryd.zeroValue3
  t4 := Tryd.underlying4
  a4 := Tryd.isAgg4
  z4 := Tryd.sizeOf4
  v4 := Tryd.zeroValue4
  t5 := Tryd.underlying5
  a5 := Tryd.isAgg5
  z5 := Tryd.sizeOf5
  v5 := Tryd.zeroValue5
  t9 := Tryd.underlying9
  a9 := Tryd.isAgg9
  z9 := Tryd.sizeOf9
  v9 := Tryd.zeroValue9
  t21 := Tryd.underlying21
  a21 := Tryd.isAgg21
  z21 := Tryd.sizeOf21
  v21 := Tryd.zeroValue21
  t46 := Tryd.underlying117
  a46 := Tryd.isAgg117
  z46 := Tryd.sizeOf117
  v46 := Tryd.zeroValue117
  t105 := Tryd.underlying101
  a105 := Tryd.isAgg101
  z105 := Tryd.sizeOf101
  v105 := Tryd.zeroValue101
  t116 := Tryd.underlying90
  a116 := Tryd.isAgg90
  z116 := Tryd.sizeOf90
  t117 := Tryd.underlying91
  a117 := Tryd.isAgg91
  z117 := Tryd.sizeOf91
  v117 := Tryd.zeroValue91
  t119 := Tryd.underlying119
  a119 := Tryd.isAgg119
  z119 := Tryd.sizeOf119
  t124 := Tryd.underlying94
  a124 := Tryd.isAgg94
  z124 := Tryd.sizeOf94
  v124 := Tryd.zeroValue94
  t138 := Tryd.underlying121
  a138 := Tryd.isAgg121
  z138 := Tryd.sizeOf121
  v138 := Tryd.zeroValue121
  t139 := Tryd.underlying122
  a139 := Tryd.isAgg122
  z139 := Tryd.sizeOf122
  v139 := Tryd.zeroValue122
  g3 := by kernel_rfl
  g4 := by kernel_rfl }
theorem lays167 : Go.Proofs.Lays.n167 Tryd.prog lren := {
  mixed := by kernel_rfl
  f167 := Tryd.func51.trans (congrArg some (by kernel_rfl))
  f240 := Tryd.func70.trans (congrArg some (by kernel_rfl))
  f276 := Tryd.func83.trans (congrArg some (by kernel_rfl))
  t0 := Tryd.underlying0
  a0 := Tryd.isAgg0
  z0 := Tryd.sizeOf0
  v0 := Tryd.zeroValue0
  t4 := Tryd.underlying4
  a4 := Tryd.isAgg4
  z4 := Tryd.sizeOf4
  v4 := Tryd.zeroValue4
  t5 := Tryd.underlying5
  a5 := Tryd.isAgg5
  z5 := Tryd.sizeOf5
  v5 := Tryd.zeroValue5
  t9 := Tryd.underlying9
  a9 := Tryd.isAgg9
  z9 := Tryd.sizeOf9
  v9 := Tryd.zeroValue9
  t20 := Tryd.underlying20
  a20 := Tryd.isAgg20
  z20 := Tryd.sizeOf20
  v20 := Tryd.zeroValue20
  t37 := Tryd.underlying65
  a37 := Tryd.isAgg65
  z37 := Tryd.sizeOf65
  v37 := Tryd.zeroValue65
  t70 := Tryd.underlying68
  a70 := Tryd.isAgg68
  z70 := Tryd.sizeOf68
  v70 := Tryd.zeroValue68
  t72 := Tryd.underlying70
  a72 := Tryd.isAgg70
  z72 := Tryd.sizeOf70
  v72 := Tryd.zeroValue70
  t75 := Tryd.underlying72
  a75 := Tryd.isAgg72
  z75 := Tryd.sizeOf72
  v75 := Tryd.zeroValue72
  t164 := Tryd.underlying98
  a164 := Tryd.isAgg98
  z164 := Tryd.sizeOf98
  v164 := Tryd.zeroValue98 }
theorem lays169 : Go.Proofs.Lays.n169 Tryd.prog lren := {
  mixed := by kernel_rfl
  f169 := Tryd.func52.trans (congrArg some (by kernel_rfl))
  t0 := Tryd.underlying0
  a0 := Tryd.isAgg0
  z0 := Tryd.sizeOf0
  v0 := Tryd.zeroValue0
  t3 := Tryd.underlying3
  a3 := Tryd.isAgg3
  z3 := Tryd.sizeOf3
  v3 := Tryd.zeroValue3
  t9 := Tryd.underlying9
  a9 := Tryd.isAgg9
  z9 := Tryd.sizeOf9
  v9 := Tryd.zeroValue9
  t37 := Tryd.underlying65
  a37 := Tryd.isAgg65
  z37 := Tryd.sizeOf65
  v37 := Tryd.zeroValue65
  t70 := Tryd.underlying68
  a70 := Tryd.isAgg68
  z70 := Tryd.sizeOf68
  v70 := Tryd.zeroValue68
  t72 := Tryd.underlying70
  a72 := Tryd.isAgg70
  z72 := Tryd.sizeOf70
  v72 := Tryd.zeroValue70
  t127 := Tryd.underlying85
  a127 := Tryd.isAgg85
  z127 := Tryd.sizeOf85
  v127 := Tryd.zeroValue85 }
theorem laysM171 : Go.Proofs.LaysM.n171 Tryd.prog lren := {
  mixed := by kernel_rfl
  f129 := Tryd.func100.trans (congrArg some (by kernel_rfl))
  f171 := Tryd.func61.trans (congrArg some (by kernel_rfl))
  f243 := Tryd.func71.trans (congrArg some (by kernel_rfl))
  f246 := Tryd.func84.trans (congrArg some (by kernel_rfl))
  f283 := Tryd.func91.trans (congrArg some (by kernel_rfl))
  f284 := Tryd.func92.trans (congrArg some (by kernel_rfl))
  f285 := Tryd.func93.trans (congrArg some (by kernel_rfl))
  f286 := Tryd.func94.trans (congrArg some (by kernel_rfl))
  f317 := Tryd.func99.trans (congrArg some (by kernel_rfl))
  f318 := Tryd.func101.trans (congrArg some (by kernel_rfl))
  f319 := Tryd.func102.trans (congrArg some (by kernel_rfl))
  f320 := Tryd.func103.trans (congrArg some (by kernel_rfl))
  f337 := Tryd.func107.trans (congrArg some (by kernel_rfl))
  f338 := Tryd.func108.trans (congrArg some (by kernel_rfl))
  t0 := Tryd.underlying0
  a0 := Tryd.isAgg0
  z0 := Tryd.sizeOf0
  v0 := Tryd.zeroValue0
  t2 := Tryd.underlying2
  a2 := Tryd.isAgg2
  z2 := Tryd.sizeOf2
  v2 := Tryd.zeroValue2
  t3 := Tryd.underlying3
  a3 := Tryd.isAgg3
  z3 := Tryd.sizeOf3
  v3 := Tryd.zeroValue3
  t4 := Tryd.underlying4
  a4 := Tryd.isAgg4
  z4 := Tryd.sizeOf4
  v4 := Tryd.zeroValue4
  t5 := Tryd.underlying5
  a5 := Tryd.isAgg5
  z5 := Tryd.sizeOf5
  v5 := Tryd.zeroValue5
  t9 := Tryd.underlying9
  a9 := Tryd.isAgg9
  z9 := Tryd.sizeOf9
  v9 := Tryd.zeroValue9
  t20 := Tryd.underlying20
  a20 := Tryd.isAgg20
  z20 := Tryd.sizeOf20
  v20 := Tryd.zeroValue20
  t37 := Tryd.underlying65
  a37 := Tryd.isAgg65
  z37 := Tryd.sizeOf65
  v37 := Tryd.zeroValue65
  t46 := Tryd.underlying117
  a46 := Tryd.isAgg117
  z46 := Tryd.sizeOf117
  v46 := Tryd.zeroValue117
  t51 := Tryd.underlying86
  a51 := Tryd.isAgg86
  z51 := Tryd.sizeOf86
  v51 := Tryd.zeroValue86
  t53 := Tryd.underlying105
  a53 := Tryd.isAgg105
  z53 := Tryd.sizeOf105
  v53 := Tryd.zeroValue105
  t171 := Tryd.underlying104
  a171 := Tryd.isAgg104
  z171 := Tryd.sizeOf104
  v171 := Tryd.zeroValue104
  t173 := Tryd.underlying108
  a173 := Tryd.isAgg108
  z173 := Tryd.sizeOf108
  v173 := Tryd.zeroValue108
  t212 := Tryd.underlying114
  a212 := Tryd.isAgg114
  z212 := Tryd.sizeOf114
  v212 := Tryd.zeroValue114
  t213 := Tryd.underlying115
  a213 := Tryd.isAgg115
  z213 := Tryd.sizeOf115
  t232 := Tryd.underlying126
  a232 := Tryd.isAgg126
  z232 := Tryd.sizeOf126
  v232 := Tryd.zeroValue126
  t233 := Tryd.underlying127
  a233 := Tryd.isAgg127
  z233 := Tryd.sizeOf127
  v233 := Tryd.zeroValue127
  g17 := by kernel_rfl
  g18 := by kernel_rfl
  g19 := by kernel_rfl
  i0 := by kernel_rfl
  i2 := by kernel_rfl
  i3 := by kernel_rfl
  i4 := by kernel_rfl
  i5 := by kernel_rfl
  i9 := by kernel_rfl
  i20 := by kernel_rfl
  i37 := by kernel_rfl
  i46 := by kernel_rfl
  i51 := by kernel_rfl
  i53 := by kernel_rfl
  i171 := by kernel_rfl
  i173 := by kernel_rfl
  i212 := by kernel_rfl
  i232 := by kernel_rfl
  i233 := by kernel_rfl
  m17 := by kernel_rfl
  m18 := by kernel_rfl
  m19 := by kernel_rfl }
theorem lextra : Builder.Extra Tryd.prog lren := {
  sizeBuilder := by kernel_rfl
  liesBuilder := by kernel_rfl
  t5 := Tryd.underlying5
  a5 := Tryd.isAgg5
  z5 := Tryd.sizeOf5
  v5 := Tryd.zeroValue5
  infoByte := by kernel_rfl
  cellsByte := by kernel_rfl
  sizeByte := by kernel_rfl
  neB5 := by decide }
end Go.Proofs.YtjphdipbajfojaaDoor

set_option linter.unusedVariables false
namespace Go.Proofs.YtjphdipbajfojaaDoor
open Go
@[simp] theorem tf_sz4 : tsz Tryd.prog 4 = some 1 := by kernel_rfl
@[simp] theorem tf_row4 : trow Tryd.prog 4 = some false := by kernel_rfl
@[simp] theorem tf_bool4 : tbool Tryd.prog 4 = true := by kernel_rfl
@[simp] theorem tf_sz5 : tsz Tryd.prog 5 = some 1 := by kernel_rfl
@[simp] theorem tf_by5 : tby Tryd.prog 5 = some 1 := by kernel_rfl
@[simp] theorem tf_zc5 : tzc Tryd.prog 5 = some [.int .u8 0] := by kernel_rfl
@[simp] theorem tf_sz9 : tsz Tryd.prog 9 = some 1 := by kernel_rfl
@[simp] theorem tf_by9 : tby Tryd.prog 9 = some 16 := by kernel_rfl
@[simp] theorem tf_row9 : trow Tryd.prog 9 = some false := by kernel_rfl
@[simp] theorem tf_str9 : tstr Tryd.prog 9 = true := by kernel_rfl
@[simp] theorem tf_zc9 : tzc Tryd.prog 9 = some [.str []] := by kernel_rfl
@[simp] theorem tf_sz40 : tsz Tryd.prog 40 = some 1 := by kernel_rfl
@[simp] theorem tf_by40 : tby Tryd.prog 40 = some 24 := by kernel_rfl
@[simp] theorem tf_row40 : trow Tryd.prog 40 = some false := by kernel_rfl
@[simp] theorem tf_sl40 : tsl Tryd.prog 40 = some 64 := by kernel_rfl
@[simp] theorem tf_el40 : tel Tryd.prog 40 = some 3 := by kernel_rfl
@[simp] theorem tf_zc40 : tzc Tryd.prog 40 = some [.nil] := by kernel_rfl
@[simp] theorem tf_sl43 : tsl Tryd.prog 43 = some 80 := by kernel_rfl
@[simp] theorem tf_el43 : tel Tryd.prog 43 = some 3 := by kernel_rfl
@[simp] theorem tf_sz53 : tsz Tryd.prog 53 = some 1 := by kernel_rfl
@[simp] theorem tf_by53 : tby Tryd.prog 53 = some 24 := by kernel_rfl
@[simp] theorem tf_row53 : trow Tryd.prog 53 = some false := by kernel_rfl
@[simp] theorem tf_sl53 : tsl Tryd.prog 53 = some 9 := by kernel_rfl
@[simp] theorem tf_el53 : tel Tryd.prog 53 = some 1 := by kernel_rfl
@[simp] theorem tf_zc53 : tzc Tryd.prog 53 = some [.nil] := by kernel_rfl
@[simp] theorem tf_sl61 : tsl Tryd.prog 61 = some 53 := by kernel_rfl
@[simp] theorem tf_el61 : tel Tryd.prog 61 = some 1 := by kernel_rfl
@[simp] theorem tf_sl62 : tsl Tryd.prog 62 = some 40 := by kernel_rfl
@[simp] theorem tf_el62 : tel Tryd.prog 62 = some 1 := by kernel_rfl
@[simp] theorem tf_sz64 : tsz Tryd.prog 64 = some 3 := by kernel_rfl
@[simp] theorem tf_by64 : tby Tryd.prog 64 = some 40 := by kernel_rfl
@[simp] theorem tf_row64 : trow Tryd.prog 64 = some true := by kernel_rfl
@[simp] theorem tf_zc64 : tzc Tryd.prog 64 = some [.str [], .str [], .bool false] := by kernel_rfl
@[simp] theorem tf_pl64 : tplaces Tryd.prog 64 = some [(0, 1), (1, 1), (2, 1)] := by kernel_rfl
@[simp] theorem tf_fld64x0 : tfld Tryd.prog 64 0 = some (0, 1, false) := by kernel_rfl
@[simp] theorem tf_fld64x1 : tfld Tryd.prog 64 1 = some (1, 1, false) := by kernel_rfl
@[simp] theorem tf_fld64x2 : tfld Tryd.prog 64 2 = some (2, 1, false) := by kernel_rfl
@[simp] theorem tf_sl65 : tsl Tryd.prog 65 = some 5 := by kernel_rfl
@[simp] theorem tf_bytes65 : tbytes Tryd.prog 65 = true := by kernel_rfl
@[simp] theorem tf_sz80 : tsz Tryd.prog 80 = some 3 := by kernel_rfl
@[simp] theorem tf_by80 : tby Tryd.prog 80 = some 40 := by kernel_rfl
@[simp] theorem tf_row80 : trow Tryd.prog 80 = some true := by kernel_rfl
@[simp] theorem tf_zc80 : tzc Tryd.prog 80 = some [.str [], .str [], .bool false] := by kernel_rfl
@[simp] theorem tf_pl80 : tplaces Tryd.prog 80 = some [(0, 1), (1, 1), (2, 1)] := by kernel_rfl
@[simp] theorem tf_fld80x0 : tfld Tryd.prog 80 0 = some (0, 1, false) := by kernel_rfl
@[simp] theorem tf_fld80x1 : tfld Tryd.prog 80 1 = some (1, 1, false) := by kernel_rfl
@[simp] theorem tf_fld80x2 : tfld Tryd.prog 80 2 = some (2, 1, false) := by kernel_rfl
end Go.Proofs.YtjphdipbajfojaaDoor

set_option linter.unusedVariables false
set_option linter.unusedSimpArgs false
namespace Go.Proofs.YtjphdipbajfojaaDoor
open Go Go.RowKit

set_option maxRecDepth 100000 in
set_option maxHeartbeats 1000000 in
theorem lower_ok (s : ByteArray) (hs : s.size ≤ 140737488351232) (W : World) : Calls Tryd.prog 18 #[.string s] W fun e w' => e = .returned (.string (tx (low s.data.toList))) ∧ Frm (fun _ => False) W w' := by
  obtain ⟨cap, w1, hconv, ho, hf, hw1⟩ := run_bytes_osl (P := Tryd.prog) W 9 65 5 s Tryd.underlying9 Tryd.underlying65 Tryd.underlying5 (by simp only [maxLen]; omega)
  have HO := Lib.hid ho
  have HF := Lib.hid hf
  clear ho hf
  go_enter Tryd.func18, Tryd.ntmps18
  go_wp2
  clear hconv
  go_loopw [10] (fun i wr => ∃ k : Nat, k ≤ s.size ∧ i = .int .i64 k ∧ OSl wr 1 (.slice (some ⟨W.heap.size, 0, none⟩) s.size cap) s.size (u8s (low (s.data.toList.take k) ++ s.data.toList.drop k)) ∧ Frm (fun _ => False) W wr) (fun i _ => s.size - (intOf i).toNat)
  case atStart => exact ⟨0, Nat.zero_le _, rfl, HO.out, HF.out⟩
  case round =>
    obtain ⟨k, hk, rfl, ho, hf⟩ := hrel
    have hb : W.heap.size < wr.heap.size := ho.lt _ rfl
    have HR := Lib.hid ho
    have HG := Lib.hid hf
    clear ho hf
    by_cases hlt : k < s.size
    · obtain ⟨x, hx⟩ : ∃ x, s.data.toList[k]? = some x := ⟨_, List.getElem?_eq_getElem (by rw [size_toList]; omega)⟩
      obtain ⟨hc, hz⟩ := HR.out.cellAt k x (low_mid _ _ _ hx)
      rw [Nat.zero_add] at hc hz
      have HX := Lib.hid hx
      clear hx
      have hx8 : x.toNat < 256 := x.toNat_lt
      by_cases h1 : 65 ≤ x.toNat
      · by_cases h2 : x.toNat ≤ 90
        · go_wp2
          go_roundw
          case rel =>
            refine ⟨k + 1, by omega, by go_num, ?_, HG.out.setNew (Nat.le_refl _) _⟩
            have := HR.out.set k hlt (.int .u8 ((lowB x).toNat : Int))
            rw [lowB_yes x h1 h2, Nat.zero_add] at this
            rw [← low_step _ _ _ HX.out, u8s_set, lowB_yes x h1 h2]
            rw [show (x.toNat : Int) + 97 - 65 = x.toNat + 32 by omega]
            exact this
          case measure => simp [intOf]; omega
        · go_wp2
          go_roundw
          case rel =>
            refine ⟨k + 1, by omega, by go_num, ?_, HG.out⟩
            rw [← low_same _ _ _ HX.out (lowB_no x (by omega))]
            exact HR.out
          case measure => simp [intOf]; omega
      · go_wp2
        go_roundw
        case rel =>
          refine ⟨k + 1, by omega, by go_num, ?_, HG.out⟩
          rw [← low_same _ _ _ HX.out (lowB_no x (by omega))]
          exact HR.out
        case measure => simp [intOf]; omega
    · obtain rfl : k = s.size := by omega
      have hr := HR.out.toR
      rw [List.take_of_length_le (by rw [size_toList]; omega), List.drop_of_length_le (by rw [size_toList]; omega), List.append_nil] at hr
      have hback := run_text_rsl (P := Tryd.prog) wr 65 9 5 _ _ _ _ Tryd.underlying65 Tryd.underlying5 Tryd.underlying9 hr
      go_wp2
      go_ret
      exact ⟨rfl, HG.out⟩
end Go.Proofs.YtjphdipbajfojaaDoor

set_option linter.unusedVariables false
set_option linter.unusedSimpArgs false
namespace Go.Proofs.YtjphdipbajfojaaDoor
open Go Go.RowKit

set_option maxHeartbeats 1000000 in
set_option maxRecDepth 100000 in
theorem lite_indexByte (s : ByteArray) (c : Int) (w : World) :
    Calls Tryd.prog 82 #[.string s, .int .u8 c] w fun e w' => e = .returned (.int .i64 (Lib.indexByte s.data.toList c.toNat.toUInt8)) ∧ w' = w := by
  go_enter Tryd.func82, Tryd.ntmps82
  go_wp2
  rw [run_callFunc_extern Tryd.func90 (by kernel_rfl) (by kernel_rfl) (by kernel_rfl) (e := Extern.BytealgIndexByte.indexByte) (by kernel_rfl), Lib.run_indexByteString]
  simp only [Result.andThen]
  rw [Oper.upon_value]
  go_wp2
  go_ret
  exact ⟨rfl, rfl⟩

set_option maxHeartbeats 1000000 in
theorem strings_indexByte (s : ByteArray) (c : Int) (w : World) :
    Calls Tryd.prog 66 #[.string s, .int .u8 c] w fun e w' => e = .returned (.int .i64 (Lib.indexByte s.data.toList c.toNat.toUInt8)) ∧ w' = w := by
  go_enter Tryd.func66, Tryd.ntmps66
  go_wp2_with (go_at_call 82; refine (lite_indexByte _ _ _).mono ?_; rintro e w' ⟨rfl, rfl⟩)
  go_ret
  exact ⟨rfl, rfl⟩
end Go.Proofs.YtjphdipbajfojaaDoor

set_option linter.unusedVariables false
set_option linter.unusedSimpArgs false
namespace Go.Proofs.YtjphdipbajfojaaDoor
open Go Go.RowKit

/-- The digits, in their order. -/
def digs : List UInt8 := [48, 49, 50, 51, 52, 53, 54, 55, 56, 57, 97, 98, 99, 100, 101, 102]
/-- What a digit says; -1: it is none. -/
def dig (b : UInt8) : Int := Lib.indexByte digs (lowB b)
set_option maxRecDepth 100000 in
theorem dig_all : ∀ n, n < 256 → (let b := UInt8.ofNat n; -1 ≤ dig b ∧ dig b < 16) := by decide
theorem dig_lt (b : UInt8) : -1 ≤ dig b ∧ dig b < 16 := by
  have := dig_all b.toNat b.toNat_lt
  simpa using this
/-- Every digit is one of the base. -/
def okDigs (base : Int) (l : List UInt8) : Bool := l.all fun b => decide (0 ≤ dig b ∧ dig b < base)
/-- The number. -/
def numOf (base : Int) (l : List UInt8) : Int := l.foldl (fun n b => n * base + dig b) 0
theorem numOf_step (base : Int) (l : List UInt8) (k : Nat) (x : UInt8) (h : l[k]? = some x) : numOf base (l.take (k + 1)) = numOf base (l.take k) * base + dig x := by
  unfold numOf
  rw [List.take_add_one, h, List.foldl_append]
  rfl
theorem okDigs_step (base : Int) (l : List UInt8) (k : Nat) (x : UInt8) (h : l[k]? = some x) : okDigs base (l.take (k + 1)) = (okDigs base (l.take k) && decide (0 ≤ dig x ∧ dig x < base)) := by
  unfold okDigs
  rw [List.take_add_one, h, List.all_append]
  simp
theorem okDigs_bad (base : Int) (l : List UInt8) (k : Nat) (x : UInt8) (h : l[k]? = some x) (hx : ¬ (0 ≤ dig x ∧ dig x < base)) : okDigs base l = false := by
  unfold okDigs
  rw [List.all_eq_false]
  exact ⟨x, List.mem_of_getElem? h, by simpa using hx⟩
/-- What 'number' answers: the number, and the error's number. -/
def numAns (base most : Int) (l : List UInt8) : Int × Int :=
  if l = [] then (0, 11) else if okDigs base l = false then (0, 11) else if most < 0 ∨ most < numOf base l then (0, 12) else (numOf base l, 0)
theorem numOf_nonneg (base : Int) (hb : 0 ≤ base) : ∀ (l : List UInt8), okDigs base l = true → 0 ≤ numOf base l := by
  intro l h
  unfold numOf
  have : ∀ (l : List UInt8) (n : Int), 0 ≤ n → okDigs base l = true → 0 ≤ l.foldl (fun n b => n * base + dig b) n := by
    intro l
    induction l with
    | nil => intro n hn _; exact hn
    | cons b l ih =>
      intro n hn hl
      unfold okDigs at hl ih
      rw [List.all_cons, Bool.and_eq_true] at hl
      have hb' := of_decide_eq_true hl.1
      refine ih _ ?_ hl.2
      have := Int.mul_nonneg hn hb
      show 0 ≤ n * base + dig b
      omega
  exact this l 0 (Int.le_refl 0) h

set_option maxRecDepth 100000 in
set_option maxHeartbeats 4000000 in
theorem number_ok10 (s : ByteArray) (most : Int) (hs : s.size ≤ 140737488351232) (hm1 : -9223372036854775808 ≤ most) (hm2 : most ≤ 9223372036854775807) (W : World) :
    Calls Tryd.prog 49 #[.string s, .int .i64 most, .int .i64 10] W fun e w' => e = .returned (.tuple #[.int .i64 (numAns 10 most s.data.toList).1, .int .i64 (numAns 10 most s.data.toList).2]) ∧ Frm (fun _ => False) W w' := by
  obtain ⟨q, hq⟩ : ∃ q, most.tdiv 10 = q := ⟨_, rfl⟩
  have hq1 : 0 ≤ most → 10 * q ≤ most ∧ most < 10 * q + 10 := fun h => by
    rw [Int.tdiv_eq_ediv_of_nonneg h] at hq
    omega
  have HQ1 := Lib.hid hq1
  clear hq1
  go_enter Tryd.func49, Tryd.ntmps49
  by_cases he : s.data.toList = []
  · have hn : numAns 10 most s.data.toList = (0, 11) := by rw [numAns, if_pos he]
    have he' : s.toList.isEmpty = true := by rw [ba_toList, he]; rfl
    go_wp2
    go_ret2
    rw [hn]
    exact ⟨rfl, Frm.refl _ _⟩
  · have he' : s.toList.isEmpty = false := by rw [ba_toList]; simpa using he
    have HE := Lib.hid he
    clear he
    go_wp2
    clear he'
    go_loopw [8, 9, 18] (fun n big i wr => ∃ (k : Nat) (v : Int) (bg : Bool), k ≤ s.size ∧ i = .int .i64 k ∧ n = .int .i64 v ∧ big = .bool bg ∧ okDigs 10 (s.data.toList.take k) = true ∧ bg = decide (most < 0 ∨ most < numOf 10 (s.data.toList.take k)) ∧ (bg = false → v = numOf 10 (s.data.toList.take k)) ∧ Frm (fun _ => False) W wr) (fun _ _ i _ => s.size - (intOf i).toNat)
    case atStart =>
      refine ⟨0, 0, decide (most < 0), Nat.zero_le _, rfl, rfl, rfl, rfl, ?_, fun _ => rfl, Frm.refl _ _⟩
      have : numOf 10 (s.data.toList.take 0) = 0 := rfl
      rw [this]; simp
    case round =>
      obtain ⟨k, v, bg, hk, rfl, rfl, rfl, hok, hbg, hv, hf⟩ := hrel
      have HF := Lib.hid hf
      have HOK := Lib.hid hok
      have hnn := numOf_nonneg 10 (by omega) _ hok
      obtain ⟨m, hm⟩ : ∃ m, m = numOf 10 (s.data.toList.take k) := ⟨_, rfl⟩
      rw [← hm] at hbg hv hnn
      have HM := Lib.hid hm
      clear hf hok hm
      by_cases hlt : k < s.size
      · obtain ⟨x, hx⟩ : ∃ x, s.data.toList[k]? = some x := ⟨_, List.getElem?_eq_getElem (by rw [size_toList]; omega)⟩
        have HX := Lib.hid hx
        clear hx
        have hstep := numOf_step 10 _ _ _ HX.out
        have hostep := okDigs_step 10 _ _ _ HX.out
        rw [← HM.out] at hstep
        rw [HOK.out, Bool.true_and] at hostep
        have HB := Lib.hid hbg
        have HV := Lib.hid hv
        have hx16 := dig_lt x
        obtain ⟨d, hd⟩ : ∃ d, d = dig x := ⟨_, rfl⟩
        rw [← hd] at hstep hostep hx16
        have HS := Lib.hid hstep
        have HO := Lib.hid hostep
        clear hbg hv hstep hostep
        go_wp2_with fail
        refine (lower_ok _ (Nat.le_trans (extract_size _ _ _) hs) wr).mono ?_
        rintro e w2 ⟨rfl, hf2⟩
        have h1 : tx (low (s.extract k (k + 1)).data.toList) = ⟨#[lowB x]⟩ := by rw [extract_one s k x HX.out]; rfl
        rw [h1]
        clear h1
        have HF2 := Lib.hid (HF.out.trans hf2)
        clear hf2
        go_wp2_with fail
        refine (strings_indexByte _ _ w2).mono ?_
        rintro e w3 ⟨rfl, rfl⟩
        have h2 : Lib.indexByte (⟨#[48, 49, 50, 51, 52, 53, 54, 55, 56, 57, 97, 98, 99, 100, 101, 102]⟩ : ByteArray).data.toList ((((⟨#[lowB x]⟩ : ByteArray)[0]'(by show 0 < 1; decide)).toNat : Int).toNat.toUInt8) = d := by
          rw [hd]
          show Lib.indexByte digs (((lowB x).toNat : Int).toNat.toUInt8) = Lib.indexByte digs (lowB x)
          simp
        rw [h2]
        clear h2
        have HD := Lib.hid hd
        clear hd
        have hbad : (d < 0 ∨ 10 ≤ d) → numAns 10 most s.data.toList = (0, 11) := fun h => by
          rw [numAns, if_neg HE.out, if_pos (okDigs_bad 10 _ _ _ HX.out (by rw [← HD.out]; omega))]
        have HBad := Lib.hid hbad
        clear hbad
        by_cases hd0 : d < 0
        · go_wp2
          go_ret2
          rw [HBad.out (.inl hd0)]
          exact ⟨rfl, HF2.out⟩
        · by_cases hd1 : 10 ≤ d
          · go_wp2
            go_ret2
            rw [HBad.out (.inr hd1)]
            exact ⟨rfl, HF2.out⟩
          · have HOK' : Hid (okDigs 10 (s.data.toList.take (k + 1)) = true) := HO.out.trans (decide_eq_true ⟨by omega, by omega⟩)
            cases bg with
            | true =>
              go_wp2
              go_roundw
              case rel =>
                refine ⟨k + 1, v, true, by omega, by go_num, rfl, rfl, HOK'.out, ?_, (fun h => by cases h), HF2.out⟩
                have h1 := of_decide_eq_true HB.out.symm
                rw [HS.out]
                exact (decide_eq_true (by omega)).symm
              case measure => simp [intOf]; omega
            | false =>
              have hv := HV.out rfl
              subst hv
              have h1 := of_decide_eq_false HB.out.symm
              have h1a : 0 ≤ most := by omega
              have h1b : v ≤ most := by omega
              have h1c := (HQ1.out h1a).1
              have h1d := (HQ1.out h1a).2
              clear h1
              by_cases hA : q < v
              · go_wp2
                go_roundw
                case rel =>
                  refine ⟨k + 1, v, true, by omega, by go_num, rfl, rfl, HOK'.out, ?_, (fun h => by cases h), HF2.out⟩
                  rw [HS.out]
                  exact (decide_eq_true (by omega)).symm
                case measure => simp [intOf]; omega
              · by_cases hB : most - d < v * 10
                · go_wp2
                  go_roundw
                  case rel =>
                    refine ⟨k + 1, v, true, by omega, by go_num, rfl, rfl, HOK'.out, ?_, (fun h => by cases h), HF2.out⟩
                    rw [HS.out]
                    exact (decide_eq_true (by omega)).symm
                  case measure => simp [intOf]; omega
                · go_wp2
                  go_roundw
                  case rel =>
                    refine ⟨k + 1, v * 10 + d, false, by omega, by go_num, by go_num, rfl, HOK'.out, ?_, (fun _ => HS.out.symm), HF2.out⟩
                    rw [HS.out]
                    exact (decide_eq_false (by omega)).symm
                  case measure => simp [intOf]; omega
      · obtain rfl : k = s.size := by omega
        have ht : s.data.toList.take s.size = s.data.toList := List.take_of_length_le (by rw [size_toList]; omega)
        have hok := HOK.out
        have hm := HM.out
        rw [ht] at hok hm
        have HN : Hid (numAns 10 most s.data.toList = if most < 0 ∨ most < m then (0, 12) else (m, 0)) := by
          show numAns 10 most s.data.toList = _
          rw [numAns, if_neg HE.out, if_neg (by rw [hok]; decide), ← hm]
        clear hok hm ht
        cases bg with
        | true =>
          have h1 := of_decide_eq_true hbg.symm
          rw [if_pos h1] at HN
          clear hbg hv h1
          go_wp2
          go_ret2
          rw [HN.out]
          exact ⟨rfl, HF.out⟩
        | false =>
          have h1 := of_decide_eq_false hbg.symm
          have hv' := hv rfl
          subst hv'
          rw [if_neg h1] at HN
          clear hbg hv h1
          go_wp2
          go_ret2
          rw [HN.out]
          exact ⟨rfl, HF.out⟩

end Go.Proofs.YtjphdipbajfojaaDoor
set_option linter.unusedVariables false
set_option linter.unusedSimpArgs false
namespace Go.Proofs.YtjphdipbajfojaaDoor
open Go Go.RowKit

def isDig (b : UInt8) : Bool := decide (48 ≤ b.toNat ∧ b.toNat ≤ 57)
/-- What the document's 'value' says. -/
def val (b : UInt8) : Int := if isDig b then (b.toNat : Int) - 48 else if 97 ≤ b.toNat then (b.toNat : Int) - 97 + 10 else (b.toNat : Int) - 65 + 10
theorem u8_ofNat (b : UInt8) : UInt8.ofNat b.toNat = b := by simp
set_option maxRecDepth 100000 in
set_option maxHeartbeats 1000000 in
theorem ref_digit_ok (b : UInt8) (W : World) : Calls Tryd.prog 67 #[.int .u8 b.toNat] W fun e w' => e = .returned (.bool (isDig b)) ∧ w' = W := by
  go_enter Tryd.func67, Tryd.ntmps67
  have hb := b.toNat_lt
  by_cases h1 : 48 ≤ b.toNat
  · by_cases h2 : b.toNat ≤ 57
    · have e1 : isDig b = true := decide_eq_true ⟨h1, h2⟩
      rw [e1]
      go_wp2
      go_ret
      exact ⟨by first | rfl | (simp <;> omega), rfl⟩
    · have e1 : isDig b = false := decide_eq_false (fun h => h2 h.2)
      rw [e1]
      go_wp2
      go_ret
      exact ⟨by first | rfl | (simp <;> omega), rfl⟩
  · have e1 : isDig b = false := decide_eq_false (fun h => h1 h.1)
    rw [e1]
    go_wp2
    go_ret
    exact ⟨by first | rfl | (simp <;> omega), rfl⟩

end Go.Proofs.YtjphdipbajfojaaDoor
set_option linter.unusedVariables false
set_option linter.unusedSimpArgs false
namespace Go.Proofs.YtjphdipbajfojaaDoor
open Go Go.RowKit

set_option maxRecDepth 100000 in
set_option maxHeartbeats 1000000 in
theorem decimal_ok (s : ByteArray) (most : Int) (hs : s.size ≤ 140737488351232) (hm1 : -9223372036854775808 ≤ most) (hm2 : most ≤ 9223372036854775807) (W : World) :
    Calls Tryd.prog 19 #[.string s, .int .i64 most] W fun e w' => e = .returned (.tuple #[.int .i64 (numAns 10 most s.data.toList).1, .int .i64 (numAns 10 most s.data.toList).2]) ∧ Frm (fun _ => False) W w' := by
  go_enter Tryd.func19, Tryd.ntmps19
  go_wp2_with fail
  refine (number_ok10 s most hs hm1 hm2 W).mono ?_
  rintro e w1 ⟨rfl, hf⟩
  go_wp2
  go_ret2
  exact ⟨rfl, hf⟩

end Go.Proofs.YtjphdipbajfojaaDoor

set_option linter.unusedVariables false
set_option linter.unusedSimpArgs false
namespace Go.Proofs.YtjphdipbajfojaaDoor
open Go Go.RowKit

def signTab : List Int := [0, 67071226, 3355443198, 1476395007]
/-- The table lies in its block. -/
def Signs (w : World) : Prop := ∀ j z, signTab[j]? = some z → w.cell? ⟨0, j, none⟩ = some (.int .u32 z)
theorem Signs.frm {w w' : World} (h : Signs w) (hf : Frm (fun _ => False) w w') : Signs w' := fun j z hj =>
  (hf.cell (p := ⟨0, j, none⟩) (World.block_lt_of_cell? _ _ (h j z hj)) (fun h => h)).trans (h j z hj)

/-- A sign of tokens. -/
def signB (b : UInt8) : Bool := decide (b.toNat < 128) && decide ((signTab.getD (b.toNat / 32) 0).toNat >>> (b.toNat % 32) % 2 = 1)

set_option maxRecDepth 100000 in
theorem sign_all : ∀ n, n < 128 → (bits .and .u32 (signTab.getD (n / 32) 0 / 2 ^ (n % 32)) 1 == 1) = signB (UInt8.ofNat n) := by decide
theorem sign_at (b : UInt8) (j : Nat) (z : Int) (h : b.toNat < 128) (hj : b.toNat / 32 = j) (hz : signTab.getD j 0 = z) : (bits .and .u32 (z / 2 ^ (b.toNat % 32)) 1 == 1) = signB b := by
  have := sign_all b.toNat h
  rw [u8_ofNat, hj, hz] at this
  exact this

set_option maxRecDepth 100000 in
set_option maxHeartbeats 1000000 in
theorem isSign_ok (b : UInt8) (W : World) (hS : Signs W) : Calls Tryd.prog 57 #[.int .u8 b.toNat] W fun e w' => e = .returned (.bool (signB b)) ∧ w' = W := by
  have hb := b.toNat_lt
  by_cases h1 : b.toNat < 128
  · by_cases h2 : b.toNat < 32
    · have hq : (b.toNat : Int).tdiv 32 = 0 := by rw [Int.tdiv_eq_ediv_of_nonneg (by omega)]; omega
      have hc := hS 0 0 rfl
      go_enter Tryd.func57, Tryd.ntmps57
      go_wp2
      go_ret
      exact ⟨congrArg (fun x => Ending.returned (.bool x)) (by have := sign_at b 0 0 h1 (by omega) rfl; rw [Int.zero_ediv] at this; exact this), rfl⟩
    · by_cases h3 : b.toNat < 64
      · have hq : (b.toNat : Int).tdiv 32 = 1 := by rw [Int.tdiv_eq_ediv_of_nonneg (by omega)]; omega
        have hc := hS 1 67071226 rfl
        go_enter Tryd.func57, Tryd.ntmps57
        go_wp2
        go_ret
        exact ⟨congrArg (fun x => Ending.returned (.bool x)) (sign_at b 1 67071226 h1 (by omega) rfl), rfl⟩
      · by_cases h4 : b.toNat < 96
        · have hq : (b.toNat : Int).tdiv 32 = 2 := by rw [Int.tdiv_eq_ediv_of_nonneg (by omega)]; omega
          have hc := hS 2 3355443198 rfl
          go_enter Tryd.func57, Tryd.ntmps57
          go_wp2
          go_ret
          exact ⟨congrArg (fun x => Ending.returned (.bool x)) (sign_at b 2 3355443198 h1 (by omega) rfl), rfl⟩
        · have hq : (b.toNat : Int).tdiv 32 = 3 := by rw [Int.tdiv_eq_ediv_of_nonneg (by omega)]; omega
          have hc := hS 3 1476395007 rfl
          go_enter Tryd.func57, Tryd.ntmps57
          go_wp2
          go_ret
          exact ⟨congrArg (fun x => Ending.returned (.bool x)) (sign_at b 3 1476395007 h1 (by omega) rfl), rfl⟩
  · go_enter Tryd.func57, Tryd.ntmps57
    go_wp2
    go_ret
    refine ⟨?_, rfl⟩
    have : signB b = false := by simp [signB, h1]
    rw [this]
    rfl

/-- A token. -/
def tokB (l : List UInt8) : Bool := l.all signB && !l.isEmpty
theorem all_take (p : UInt8 → Bool) (l : List UInt8) (k : Nat) (x : UInt8) (h : l[k]? = some x) : (l.take (k + 1)).all p = ((l.take k).all p && p x) := by
  rw [List.take_add_one, h, List.all_append]
  simp
theorem all_bad (p : UInt8 → Bool) (l : List UInt8) (k : Nat) (x : UInt8) (h : l[k]? = some x) (hp : p x = false) : l.all p = false := by
  rw [List.all_eq_false]
  exact ⟨x, List.mem_of_getElem? h, by rw [hp]; simp⟩
set_option maxRecDepth 100000 in
set_option maxHeartbeats 2000000 in
theorem isToken_ok (s : ByteArray) (hs : s.size ≤ 140737488351232) (W : World) (hS : Signs W) : Calls Tryd.prog 36 #[.string s] W fun e w' => e = .returned (.bool (tokB s.data.toList)) ∧ w' = W := by
  have HS := Lib.hid hS
  clear hS
  go_enter Tryd.func36, Tryd.ntmps36
  go_wp2
  go_loopw [6] (fun i wr => ∃ k : Nat, k ≤ s.size ∧ i = .int .i64 k ∧ (s.data.toList.take k).all signB = true ∧ wr = W) (fun i _ => s.size - (intOf i).toNat)
  case atStart => exact ⟨0, Nat.zero_le _, rfl, rfl, rfl⟩
  case round =>
    obtain ⟨k, hk, rfl, hok, rfl⟩ := hrel
    have HOK := Lib.hid hok
    clear hok
    by_cases hlt : k < s.size
    · obtain ⟨x, hx⟩ : ∃ x, s.data.toList[k]? = some x := ⟨_, List.getElem?_eq_getElem (by rw [size_toList]; omega)⟩
      have hxb : s[k]'hlt = x := ba_at s k x hx hlt
      have hst := all_take signB _ _ _ hx
      rw [HOK.out, Bool.true_and] at hst
      have HST := Lib.hid hst
      have HX := Lib.hid hx
      clear hx hst
      go_wp2_with fail
      refine (isSign_ok x wr HS.out).mono ?_
      rintro e w' ⟨rfl, rfl⟩
      cases hp : signB x
      · have HN : Hid (tokB s.data.toList = false) := by
          show _ = _
          rw [tokB, all_bad signB _ _ _ HX.out hp]; rfl
        clear hp
        go_wp2
        go_ret
        exact ⟨by rw [HN.out]; rfl, rfl⟩
      · have HO2 := Lib.hid (HST.out.trans hp)
        clear hp
        go_wp2
        go_roundw
        case rel => exact ⟨k + 1, by omega, by go_num, HO2.out, by trivial⟩
        case measure => simp [intOf]; omega
    · obtain rfl : k = s.size := by omega
      have hall := HOK.out
      rw [List.take_of_length_le (by rw [size_toList]; omega)] at hall
      have HN : Hid (tokB s.data.toList = !s.data.toList.isEmpty) := by
        show _ = _
        rw [tokB, hall, Bool.true_and]
      clear hall HOK
      go_wp2
      go_ret
      refine ⟨?_, rfl⟩
      rw [HN.out, ← ba_toList]
      rfl
end Go.Proofs.YtjphdipbajfojaaDoor

set_option linter.unusedVariables false
set_option linter.unusedSimpArgs false
namespace Go.Proofs.YtjphdipbajfojaaDoor
open Go Go.RowKit

set_option maxRecDepth 100000 in
theorem num12 : numAns 10 12 ((⟨#[49, 50]⟩ : ByteArray).data.toList) = (12, 0) := by decide
set_option maxRecDepth 100000 in
theorem tokx : tokB ((⟨#[120]⟩ : ByteArray).data.toList) = true := by decide

set_option maxRecDepth 100000 in
set_option maxHeartbeats 1000000 in
theorem awake_ok (W : World) (hS : Signs W) : Calls Tryd.prog 15 #[] W fun e w' => e = .returned (.bool true) ∧ Frm (fun _ => False) W w' := by
  have HS := Lib.hid hS
  clear hS
  go_enter Tryd.func15, Tryd.ntmps15
  go_wp2_with fail
  refine (decimal_ok ⟨#[49, 50]⟩ 12 (by decide) (by decide) (by decide) W).mono ?_
  rintro e w1 ⟨rfl, hf1⟩
  rw [num12]
  go_wp2_with fail
  refine (lower_ok ⟨#[97, 66]⟩ (by decide) w1).mono ?_
  rintro e w2 ⟨rfl, hf2⟩
  have h1 : tx (low ((⟨#[97, 66]⟩ : ByteArray).data.toList)) = ⟨#[97, 98]⟩ := rfl
  rw [h1]
  clear h1
  go_wp2_with fail
  refine (isToken_ok ⟨#[120]⟩ (by decide) w2 (HS.out.frm (hf1.trans hf2))).mono ?_
  rintro e w3 ⟨rfl, rfl⟩
  rw [tokx]
  go_wp2
  go_ret
  exact ⟨rfl, hf1.trans hf2⟩

end Go.Proofs.YtjphdipbajfojaaDoor

set_option linter.unusedVariables false
set_option linter.unusedSimpArgs false
namespace Go.Proofs.YtjphdipbajfojaaDoor

/-- A byte that may stand in a field; a blank. -/
def fcB (b : UInt8) : Bool := b == 9 || (decide (32 ≤ b.toNat) && b != 127)
def blankB (b : UInt8) : Bool := b == 32 || b == 9
/-- What stands behind a quote mark: what it says, how many bytes, the closing mark too. -/
def unq : List UInt8 → Option (List UInt8 × Nat)
  | [] => none
  | c :: r => if c = 34 then some ([], 1) else if c = 92 then (match r with
      | [] => none
      | d :: r' => if fcB d then (unq r').map fun p => (d :: p.1, p.2 + 2) else none)
    else if fcB c then (unq r).map fun p => (c :: p.1, p.2 + 1) else none
/-- A quoted text at the front: what it says, how many bytes; 0: there is none. -/
def unquote (s : List UInt8) : Option (List UInt8 × Nat) := match s with
  | [] => none
  | c :: r => if c = 34 then (unq r).map fun p => (p.1, p.2 + 1) else none
theorem unq_le : ∀ (n : Nat) (s l : List UInt8) (k : Nat), s.length ≤ n → unq s = some (l, k) → 1 ≤ k ∧ k ≤ s.length ∧ l.length + 1 ≤ k
  | n, [], l, k, _, h => by simp [unq] at h
  | 0, c :: r, l, k, hn, h => by simp at hn
  | n + 1, c :: r, l, k, hn, h => by
    simp only [List.length_cons] at hn
    unfold unq at h
    split at h
    · simp at h; obtain ⟨rfl, rfl⟩ := h; simp
    · split at h
      · cases r with
        | nil => simp at h
        | cons d r' =>
          simp only [List.length_cons] at hn
          simp only at h
          split at h
          · cases hu : unq r' with
            | none => simp [hu] at h
            | some p =>
              simp [hu] at h
              obtain ⟨rfl, rfl⟩ := h
              have := unq_le n r' p.1 p.2 (by omega) hu
              simp only [List.length_cons]; omega
          · cases h
      · split at h
        · cases hu : unq r with
          | none => simp [hu] at h
          | some p =>
            simp [hu] at h
            obtain ⟨rfl, rfl⟩ := h
            have := unq_le n r p.1 p.2 (by omega) hu
            simp only [List.length_cons]; omega
        · cases h
theorem unquote_le {s l : List UInt8} {k : Nat} (h : unquote s = some (l, k)) : 2 ≤ k ∧ k ≤ s.length ∧ l.length + 2 ≤ k := by
  unfold unquote at h
  split at h
  · cases h
  · rename_i c r
    split at h
    · cases hu : unq r with
      | none => simp [hu] at h
      | some p =>
        simp [hu] at h
        obtain ⟨rfl, rfl⟩ := h
        have := unq_le _ r p.1 p.2 (Nat.le_refl _) hu
        simp only [List.length_cons]; omega
    · cases h
/-! ### Lists -/
def trimB (l : List UInt8) : List UInt8 := Go.Lib.trimS l [32, 9]
/-- The pieces between the commas that stand outside quoted texts. acc: what stands in the first piece already. -/
def cut (acc : List UInt8) (s : List UInt8) : Option (List (List UInt8)) := match s with
  | [] => some [acc]
  | c :: r => if c = 44 then (cut [] r).map (acc :: ·) else if c = 34 then (match unquote (c :: r) with
      | none => none
      | some p => cut (acc ++ (c :: r).take p.2) (r.drop (p.2 - 1)))
    else cut (acc ++ [c]) r
termination_by s.length
decreasing_by all_goals (simp only [List.length_cons, List.length_drop]; omega)
def keepB (l : List (List UInt8)) : List (List UInt8) := (l.map trimB).filter fun x => !x.isEmpty
def listB (s : List UInt8) : Option (List (List UInt8)) := (cut [] s).map keepB

theorem cut_nil (acc : List UInt8) : cut acc [] = some [acc] := by rw [cut]
theorem cut_comma (acc r : List UInt8) : cut acc (44 :: r) = (cut [] r).map (acc :: ·) := by rw [cut]; simp
theorem cut_plain (acc r : List UInt8) (c : UInt8) (h1 : c ≠ 44) (h2 : c ≠ 34) : cut acc (c :: r) = cut (acc ++ [c]) r := by rw [cut, if_neg h1, if_neg h2]
theorem cut_bad (acc r : List UInt8) (h : unquote (34 :: r) = none) : cut acc (34 :: r) = none := by rw [cut]; simp [h]
theorem cut_quote (acc r l : List UInt8) (k : Nat) (h : unquote (34 :: r) = some (l, k)) : cut acc (34 :: r) = cut (acc ++ (34 :: r).take k) ((34 :: r).drop k) := by
  rw [cut]
  have := (unquote_le h).1
  simp only [h]
  rw [if_neg (by decide), if_pos trivial]
  congr 1
  obtain ⟨j, rfl⟩ : ∃ j, k = j + 1 := ⟨k - 1, by omega⟩
  simp

theorem keepB_app (a b : List (List UInt8)) : keepB (a ++ b) = keepB a ++ keepB b := by simp [keepB]
/-- A blank ahead of a text has no part. -/
theorem trimB_blank (c : UInt8) (hc : blankB c = true) (l : List UInt8) : trimB (c :: l) = trimB l := by
  have hcs : [32, 9].contains c = true := by
    unfold blankB at hc
    simpa using hc
  unfold trimB Go.Lib.trimS Go.Lib.trimLeftS Go.Lib.trimRightS
  rw [List.reverse_cons]
  generalize hr : l.reverse = r
  have : ∀ r : List UInt8, (((r ++ [c]).dropWhile ([32, 9].contains ·)).reverse).dropWhile ([32, 9].contains ·) = ((r.dropWhile ([32, 9].contains ·)).reverse).dropWhile ([32, 9].contains ·) := by
    intro r
    induction r with
    | nil => rw [List.nil_append, List.dropWhile_cons_of_pos hcs]
    | cons d r ih =>
      rw [List.cons_append]
      by_cases hd : [32, 9].contains d = true
      · rw [List.dropWhile_cons_of_pos hd, List.dropWhile_cons_of_pos hd]; exact ih
      · rw [List.dropWhile_cons_of_neg hd, List.dropWhile_cons_of_neg hd, ← List.cons_append, List.reverse_append, List.reverse_singleton, List.singleton_append, List.dropWhile_cons_of_pos hcs]
  exact this r
end Go.Proofs.YtjphdipbajfojaaDoor
set_option linter.unusedVariables false
set_option linter.unusedSimpArgs false
namespace Go.Proofs.YtjphdipbajfojaaDoor

structure Par where
  name : List UInt8
  value : List UInt8
  has : Bool
deriving DecidableEq

def run (p : UInt8 → Bool) (l : List UInt8) : Nat := (l.takeWhile p).length
theorem run_le (p : UInt8 → Bool) (l : List UInt8) : run p l ≤ l.length := by
  unfold run
  induction l with
  | nil => simp
  | cons a l ih => rw [List.takeWhile_cons]; split <;> simp <;> omega
theorem run_app (p : UInt8 → Bool) (l x : List UInt8) (h : l.all p = true) (hx : ∀ c, x.head? = some c → p c = false) : run p (l ++ x) = l.length := by
  unfold run
  induction l with
  | nil =>
    cases x with
    | nil => rfl
    | cons c x => rw [List.nil_append, List.takeWhile_cons, hx c rfl]; rfl
  | cons a l ih =>
    rw [List.all_cons, Bool.and_eq_true] at h
    rw [List.cons_append, List.takeWhile_cons, h.1]
    simp [ih h.2]
theorem run_step (p : UInt8 → Bool) (l : List UInt8) (n : Nat) (h : (l.take n).all p = true) (hn : n ≤ l.length) (hs : ∀ c, l[n]? = some c → p c = false) : run p l = n := by
  have := run_app p (l.take n) (l.drop n) h (fun c hc => hs c (by rw [List.head?_drop] at hc; exact hc))
  rw [List.take_append_drop] at this
  rw [this, List.length_take]; omega

section
variable (sg : UInt8 → Bool)
/-- A value at the front. -/
def pval (v : List UInt8) : Option (List UInt8 × Nat) := if 0 < run sg v then some (v.take (run sg v), run sg v) else unquote v
def pars (s : List UInt8) : Option (List Par × Nat) := match h : s.drop (run blankB s) with
  | [] => some ([], 0)
  | c :: q => if c ≠ 59 then some ([], 0) else
      if run sg (q.drop (run blankB q)) = 0 then (pars q).map fun p => (p.1, p.2 + (run blankB s + 1)) else
      match (q.drop (run blankB q)).drop (run sg (q.drop (run blankB q))) with
      | [] => some ([⟨(q.drop (run blankB q)).take (run sg (q.drop (run blankB q))), [], false⟩], run blankB s + 1 + run blankB q + run sg (q.drop (run blankB q)))
      | d :: v => if d = 61 then (match pval sg v with
          | none => none
          | some x => (pars (q.drop (run blankB q + run sg (q.drop (run blankB q)) + 1 + x.2))).map fun p => (⟨(q.drop (run blankB q)).take (run sg (q.drop (run blankB q))), x.1, true⟩ :: p.1, p.2 + (run blankB s + 1 + run blankB q + run sg (q.drop (run blankB q)) + 1 + x.2)))
        else (pars (q.drop (run blankB q + run sg (q.drop (run blankB q))))).map fun p => (⟨(q.drop (run blankB q)).take (run sg (q.drop (run blankB q))), [], false⟩ :: p.1, p.2 + (run blankB s + 1 + run blankB q + run sg (q.drop (run blankB q))))
termination_by s.length
decreasing_by all_goals (have hl := congrArg List.length h; simp only [List.length_drop, List.length_cons] at hl ⊢; omega)

/-- No parameter: no semicolon stands behind the blanks. -/
theorem pars_end (s : List UInt8) (h : s[run blankB s]? ≠ some 59) : pars sg s = some ([], 0) := by
  rw [pars]
  split
  · rfl
  · rename_i c q hq
    have : s[run blankB s]? = some c := by rw [← List.head?_drop, hq]; rfl
    rw [if_pos (fun e => h (by rw [this, e]))]
variable (s : List UInt8) (b m n : Nat) (hb : run blankB s = b) (h0 : s[b]? = some 59) (hm : run blankB (s.drop (b + 1)) = m) (hn : run sg (s.drop (b + 1 + m)) = n)
theorem drop59 (h0 : s[b]? = some 59) : s.drop b = 59 :: s.drop (b + 1) := by
  have hlt := (List.getElem?_eq_some_iff.1 h0).1
  rw [List.drop_eq_getElem_cons hlt, (List.getElem?_eq_some_iff.1 h0).2]
include hb h0 hm hn in
theorem pars_skip (h : n = 0) : pars sg s = (pars sg (s.drop (b + 1))).map fun p => (p.1, p.2 + (b + 1)) := by
  subst hb hm
  rw [pars]
  have h1 := drop59 s _ h0
  split
  · rename_i hq; rw [h1] at hq; cases hq
  · rename_i c q hq
    rw [h1] at hq; cases hq
    rw [if_neg (by decide), List.drop_drop, hn, if_pos h]
include hb h0 hm hn in
theorem pars_plain (h : n ≠ 0) (he : s[b + 1 + m + n]? ≠ some 61) : pars sg s = (pars sg (s.drop (b + 1 + m + n))).map fun p => (⟨(s.drop (b + 1 + m)).take n, [], false⟩ :: p.1, p.2 + (b + 1 + m + n)) := by
  subst hb hm
  rw [pars]
  have h1 := drop59 s _ h0
  split
  · rename_i hq; rw [h1] at hq; cases hq
  · rename_i c q hq
    rw [h1] at hq; cases hq
    rw [if_neg (by decide), List.drop_drop, hn, if_neg h, List.drop_drop]
    split
    · rename_i hd
      rw [hd, pars_end sg [] (by simp)]
      simp
    · rename_i d v hd
      have : s[run blankB s + 1 + run blankB (s.drop (run blankB s + 1)) + n]? = some d := by rw [← List.head?_drop, hd]; rfl
      rw [if_neg (fun e => he (by rw [this, e]))]
      rw [List.drop_drop]
      congr 2
      rw [Nat.add_assoc, Nat.add_assoc, Nat.add_assoc]
include hb h0 hm hn in
theorem pars_bad (h : n ≠ 0) (he : s[b + 1 + m + n]? = some 61) (hv : pval sg (s.drop (b + 1 + m + n + 1)) = none) : pars sg s = none := by
  subst hb hm
  rw [pars]
  have h1 := drop59 s _ h0
  split
  · rename_i hq; rw [h1] at hq; cases hq
  · rename_i c q hq
    rw [h1] at hq; cases hq
    rw [if_neg (by decide), List.drop_drop, hn, if_neg h, List.drop_drop]
    split
    · rename_i hd
      rw [← List.head?_drop, hd] at he; cases he
    · rename_i d v hd
      have hlt := (List.getElem?_eq_some_iff.1 he).1
      rw [List.drop_eq_getElem_cons hlt, (List.getElem?_eq_some_iff.1 he).2] at hd
      cases hd
      rw [if_pos rfl, hv]
include hb h0 hm hn in
theorem pars_value (h : n ≠ 0) (he : s[b + 1 + m + n]? = some 61) {x : List UInt8} {k : Nat} (hv : pval sg (s.drop (b + 1 + m + n + 1)) = some (x, k)) :
    pars sg s = (pars sg (s.drop (b + 1 + m + n + 1 + k))).map fun p => (⟨(s.drop (b + 1 + m)).take n, x, true⟩ :: p.1, p.2 + (b + 1 + m + n + 1 + k)) := by
  subst hb hm
  rw [pars]
  have h1 := drop59 s _ h0
  split
  · rename_i hq; rw [h1] at hq; cases hq
  · rename_i c q hq
    rw [h1] at hq; cases hq
    rw [if_neg (by decide), List.drop_drop, hn, if_neg h, List.drop_drop]
    split
    · rename_i hd
      rw [← List.head?_drop, hd] at he; cases he
    · rename_i d v hd
      have hlt := (List.getElem?_eq_some_iff.1 he).1
      rw [List.drop_eq_getElem_cons hlt, (List.getElem?_eq_some_iff.1 he).2] at hd
      cases hd
      rw [if_pos rfl, hv]
      simp only
      rw [List.drop_drop]
      congr 3
      omega
end

/-! ### Printed -/
section
variable (sg : UInt8 → Bool)
end
end Go.Proofs.YtjphdipbajfojaaDoor

set_option linter.unusedVariables false
set_option linter.unusedSimpArgs false
namespace Go.Proofs.YtjphdipbajfojaaDoor
open Go Go.RowKit

section
variable {w : World} {β : Nat → Nat} {Rd : Nat → Nat → Prop}
theorem args1 {x : AV} {cargs : Array Value} (hsz : cargs.size = 1) (h : ∀ (t : Nat) y u, [x][t]? = some y → cargs[t]? = some u → Rel w β Rd y u) : ∃ u, cargs = #[u] ∧ Rel w β Rd x u := by
  match cargs, hsz with
  | ⟨[u]⟩, _ => exact ⟨u, rfl, h 0 x u rfl rfl⟩
theorem args2 {x y : AV} {cargs : Array Value} (hsz : cargs.size = 2) (h : ∀ (t : Nat) z u, [x, y][t]? = some z → cargs[t]? = some u → Rel w β Rd z u) : ∃ u v, cargs = #[u, v] ∧ Rel w β Rd x u ∧ Rel w β Rd y v := by
  match cargs, hsz with
  | ⟨[u, v]⟩, _ => exact ⟨u, v, rfl, h 0 x u rfl rfl, h 1 y v rfl rfl⟩
theorem rel_tx (l : List UInt8) (h : l.length ≤ maxLen) : Rel w β Rd (.str l) (.string (tx l)) := .str _ _ rfl (by rw [tx_size]; exact h)
end

/-- The environment's fixed blocks hold the table of signs. -/
def SE (E : Env) : Prop := E.Fix 0 ∧ Signs E.w0
theorem SE.signs {E : Env} (h : SE E) {w : World} (hw : ∀ b, E.Fix b → w.heap[b]? = E.w0.heap[b]?) : Signs w := fun j z hj => by
  rw [World.cell?_of_block (a := ⟨0, j, none⟩) (hw _ h.1)]
  exact h.2 j z hj

def cap : Nat := 140737488351232
theorem cap_max {n : Nat} (h : n ≤ cap) : n ≤ maxLen := by simp only [cap] at h; simp only [maxLen]; omega

section
variable (E : Env) (H : Hp) (Q : AV → Hp → Prop)
theorem isSign_pc (hE : SE E) (b : UInt8) (hQ : Q (.bool (signB b)) H) : PC Tryd.prog E 57 [.int .u8 (b.toNat : Int)] H Q := by
  refine pc_of_calls (v := .bool (signB b)) (by kernel_rfl) Signs (fun w hw => hE.signs hw) (fun w β Rd cargs hS hsz hargs => ?_) (.bool _) rfl hQ
  obtain ⟨u, rfl, hu⟩ := args1 hsz hargs
  obtain rfl := rel_int hu
  refine (isSign_ok b w hS).mono ?_
  rintro e w' ⟨rfl, rfl⟩
  exact ⟨_, rfl, Frm.refl _ _, .bool _⟩
theorem isToken_pc (hE : SE E) (l : List UInt8) (hl : l.length ≤ cap) (hQ : Q (.bool (tokB l)) H) : PC Tryd.prog E 36 [.str l] H Q := by
  refine pc_of_calls (v := .bool (tokB l)) (by kernel_rfl) Signs (fun w hw => hE.signs hw) (fun w β Rd cargs hS hsz hargs => ?_) (.bool _) rfl hQ
  obtain ⟨u, rfl, hu⟩ := args1 hsz hargs
  obtain ⟨s, rfl, rfl, hs⟩ := rel_str hu
  refine (isToken_ok s (by rw [← size_toList]; exact hl) w hS).mono ?_
  rintro e w' ⟨rfl, rfl⟩
  exact ⟨_, rfl, Frm.refl _ _, .bool _⟩
theorem awake_pc (hE : SE E) (hQ : Q (.bool true) H) : PC Tryd.prog E 15 [] H Q := by
  refine pc_of_calls (v := .bool true) (by kernel_rfl) Signs (fun w hw => hE.signs hw) (fun w β Rd cargs hS hsz hargs => ?_) (.bool _) rfl hQ
  obtain rfl : cargs = #[] := by simpa using hsz
  refine (awake_ok w hS).mono ?_
  rintro e w' ⟨rfl, hf⟩
  exact ⟨_, rfl, hf, .bool _⟩
end
end Go.Proofs.YtjphdipbajfojaaDoor

set_option linter.unusedVariables false
set_option linter.unusedSimpArgs false
namespace Go.Proofs.YtjphdipbajfojaaDoor
open Go Go.RowKit Go.Proofs

abbrev Bld (B b : Nat) (bs : List Value) (w : World) : Prop := Lib.IsBuilderF 70 5 B b bs w
theorem wbyte_ok (B b : Nat) (bs : List Value) (c : Int) (w : World) (h : Bld B b bs w) (hlen : bs.length + 1 ≤ 140737488355328) (hB : B ≤ w.heap.size) :
    Calls Tryd.prog 51 #[.pointer (some ⟨b, 0, none⟩), .int .u8 c] w fun e w' => e = .returned .nilIface ∧ Bld B b (bs ++ [.int .u8 c]) w' ∧ Below B w w' ∧ B ≤ w'.heap.size := by
  refine (Any.Builder_WriteByte_k lays167 lextra B b bs c w h hlen hB).mono ?_
  rintro e w' ⟨rfl, h1, h2, h3⟩
  exact ⟨rfl, .inr h1, h2, Nat.le_trans hB h2.size⟩
theorem btext_ok (B b : Nat) (l : List UInt8) (w : World) (h : Bld B b (Lib.byteCells l) w) (hB : B ≤ w.heap.size) :
    Calls Tryd.prog 52 #[.pointer (some ⟨b, 0, none⟩)] w fun e w' => e = .returned (.string (tx l)) ∧ Below B w w' := by
  refine (Any.Builder_String_any_k lays169 lextra B b l w h hB).mono ?_
  rintro e w' ⟨rfl, h1, h2, h3⟩
  exact ⟨rfl, h2⟩
theorem frm_below {w w' : World} (h : Below w.heap.size w w') : Frm (fun _ => False) w w' := ⟨h.os, h.tape, h.output, h.size, fun k hk _ => h.block k hk⟩
theorem fcB_iff (b : UInt8) : fcB b = (decide (b.toNat = 9) || (decide (32 ≤ b.toNat) && decide (b.toNat ≠ 127))) := by
  have e1 : (b == 9) = decide (b.toNat = 9) := by rw [Bool.eq_iff_iff]; simp [← UInt8.toNat_inj]
  have e2 : (b != 127) = decide (b.toNat ≠ 127) := by rw [Bool.eq_iff_iff]; simp [← UInt8.toNat_inj]
  rw [fcB, e1, e2]

set_option maxRecDepth 100000 in
set_option maxHeartbeats 1000000 in
theorem isFieldByte_ok (b : UInt8) (W : World) : Calls Tryd.prog 53 #[.int .u8 b.toNat] W fun e w' => e = .returned (.bool (fcB b)) ∧ w' = W := by
  have hb := b.toNat_lt
  by_cases h1 : b.toNat = 9
  · have e : fcB b = true := by rw [fcB_iff]; simp [h1]
    rw [e]
    go_enter Tryd.func53, Tryd.ntmps53
    go_wp2
    go_ret
    exact ⟨rfl, rfl⟩
  · by_cases h2 : 32 ≤ b.toNat
    · by_cases h3 : b.toNat = 127
      · have e : fcB b = false := by rw [fcB_iff]; simp [h3]
        rw [e]
        go_enter Tryd.func53, Tryd.ntmps53
        go_wp2
        go_ret
        exact ⟨rfl, rfl⟩
      · have e : fcB b = true := by rw [fcB_iff]; simp [h2, h3]
        rw [e]
        have n9 : ((b.toNat : Int) == 9) = false := by simp; omega
        have n127 : ((b.toNat : Int) != 127) = true := by simp; omega
        go_enter Tryd.func53, Tryd.ntmps53
        go_wp2
        go_ret
        exact ⟨rfl, rfl⟩
    · have e : fcB b = false := by rw [fcB_iff]; simp [h1, h2]
      rw [e]
      have n9 : ((b.toNat : Int) == 9) = false := by simp; omega
      go_enter Tryd.func53, Tryd.ntmps53
      go_wp2
      go_ret
      exact ⟨rfl, rfl⟩

end Go.Proofs.YtjphdipbajfojaaDoor
set_option linter.unusedVariables false
set_option linter.unusedSimpArgs false
namespace Go.Proofs.YtjphdipbajfojaaDoor
open Go Go.RowKit Go.Proofs

theorem bcells (l : List UInt8) (c : UInt8) : Lib.byteCells l ++ [.int .u8 (c.toNat : Int)] = Lib.byteCells (l ++ [c]) := by simp [Lib.byteCells]
end Go.Proofs.YtjphdipbajfojaaDoor
set_option linter.unusedVariables false
set_option linter.unusedSimpArgs false
namespace Go.Proofs.YtjphdipbajfojaaDoor
open Go Go.RowKit Go.Proofs

def unqAns (l : List UInt8) : List UInt8 × Int × Int := match unquote l with
  | some p => (p.1, (p.2 : Int), 0)
  | none => ([], 0, 13)
/-- Where the loop stands: what the rest says, behind acc. -/
def unqIs (l acc : List UInt8) (k : Nat) : Prop := unq (l.drop 1) = (unq (l.drop k)).map fun p => (acc ++ p.1, p.2 + (k - 1))
theorem unqIs_start (l : List UInt8) : unqIs l [] 1 := by
  unfold unqIs
  cases unq (l.drop 1) <;> simp
theorem drop_at (l : List UInt8) (k : Nat) (x : UInt8) (h : l[k]? = some x) : l.drop k = x :: l.drop (k + 1) := by
  have hlt := (List.getElem?_eq_some_iff.1 h).1
  rw [List.drop_eq_getElem_cons hlt, (List.getElem?_eq_some_iff.1 h).2]
theorem unqIs_close {l acc : List UInt8} {k : Nat} (h : unqIs l acc k) (hk : 1 ≤ k) (hx : l[k]? = some 34) (h0 : l[0]? = some 34) : unqAns l = (acc, (k : Int) + 1, 0) := by
  unfold unqIs at h
  have e : unquote l = some (acc, k + 1) := by
    rw [show l = 34 :: l.drop 1 from drop_at l 0 34 h0, unquote]
    rw [if_pos rfl]
    rw [drop_at l k 34 hx] at h
    rw [show unq (34 :: l.drop (k + 1)) = some ([], 1) by unfold unq; rw [if_pos rfl]] at h
    rw [h]
    simp; omega
  unfold unqAns
  rw [e]; simp
theorem unqAns_none {l : List UInt8} (h : unq (l.drop 1) = none) (h0 : l[0]? = some 34) : unqAns l = ([], 0, 13) := by
  have e : unquote l = none := by
    rw [show l = 34 :: l.drop 1 from drop_at l 0 34 h0, unquote, if_pos rfl, h]; rfl
  unfold unqAns
  rw [e]
theorem unqIs_bad {l acc : List UInt8} {k : Nat} (h : unqIs l acc k) (hn : unq (l.drop k) = none) (h0 : l[0]? = some 34) : unqAns l = ([], 0, 13) := by
  unfold unqIs at h
  rw [hn] at h
  exact unqAns_none h h0
theorem unq_plain (x : UInt8) (r : List UInt8) (h1 : x ≠ 34) (h2 : x ≠ 92) : unq (x :: r) = if fcB x = true then (unq r).map (fun p => (x :: p.1, p.2 + 1)) else none := by
  conv => lhs; unfold unq
  rw [if_neg h1, if_neg h2]
theorem unq_esc1 (x : UInt8) (r : List UInt8) : unq (92 :: x :: r) = if fcB x = true then (unq r).map (fun p => (x :: p.1, p.2 + 2)) else none := by
  conv => lhs; unfold unq
  rw [if_neg (by decide), if_pos rfl]
theorem unqIs_plain {l acc : List UInt8} {k : Nat} {x : UInt8} (h : unqIs l acc k) (hk : 1 ≤ k) (hx : l[k]? = some x) (h1 : x ≠ 34) (h2 : x ≠ 92) (hf : fcB x = true) : unqIs l (acc ++ [x]) (k + 1) := by
  unfold unqIs at h ⊢
  rw [h, drop_at l k x hx, unq_plain _ _ h1 h2, if_pos hf]
  cases unq (l.drop (k + 1)) with
  | none => rfl
  | some p => simp; omega
theorem unqIs_esc {l acc : List UInt8} {k : Nat} {x : UInt8} (h : unqIs l acc k) (hk : 1 ≤ k) (hx : l[k]? = some 92) (hy : l[k + 1]? = some x) (hf : fcB x = true) : unqIs l (acc ++ [x]) (k + 2) := by
  unfold unqIs at h ⊢
  rw [h, drop_at l k 92 hx, drop_at l (k + 1) x hy, unq_esc1, if_pos hf]
  rw [show k + 1 + 1 = k + 2 from rfl]
  cases unq (l.drop (k + 2)) with
  | none => rfl
  | some p => simp; omega
theorem unq_none_plain {l : List UInt8} {k : Nat} {x : UInt8} (hx : l[k]? = some x) (h1 : x ≠ 34) (h2 : x ≠ 92) (hf : fcB x = false) : unq (l.drop k) = none := by
  rw [drop_at l k x hx, unq_plain _ _ h1 h2, if_neg (by rw [hf]; simp)]
theorem unq_none_esc {l : List UInt8} {k : Nat} {x : UInt8} (hx : l[k]? = some 92) (hy : l[k + 1]? = some x) (hf : fcB x = false) : unq (l.drop k) = none := by
  rw [drop_at l k 92 hx, drop_at l (k + 1) x hy, unq_esc1, if_neg (by rw [hf]; simp)]
theorem unq_none_last {l : List UInt8} {k : Nat} (hx : l[k]? = some 92) (hl : l.length = k + 1) : unq (l.drop k) = none := by
  rw [drop_at l k 92 hx, List.drop_of_length_le (by omega)]
  rfl
theorem unq_none_end {l : List UInt8} {k : Nat} (hl : l.length ≤ k) : unq (l.drop k) = none := by
  rw [List.drop_of_length_le hl]; rfl

set_option maxRecDepth 100000 in
set_option maxHeartbeats 1000000 in
theorem unquote_ok (s : ByteArray) (hs : s.size ≤ 35184372088832) (W : World) : Calls Tryd.prog 25 #[.string s] W fun e w' => e = .returned (.tuple #[.string (tx (unqAns s.data.toList).1), .int .i64 (unqAns s.data.toList).2.1, .int .i64 (unqAns s.data.toList).2.2]) ∧ Frm (fun _ => False) W w' := by
  by_cases he : s.data.toList = []
  · have hn : unqAns s.data.toList = ([], 0, 13) := by rw [he]; rfl
    have he' : s.toList.isEmpty = true := by rw [ba_toList, he]; rfl
    rw [hn]
    go_enter Tryd.func25, Tryd.ntmps25
    go_wp2
    go_ret3
    exact ⟨rfl, Frm.refl _ _⟩
  · have he' : s.toList.isEmpty = false := by rw [ba_toList]; simpa using he
    have h0s : 0 < s.size := by
      rw [← size_toList]
      exact List.length_pos_iff.2 he
    obtain ⟨c, hc⟩ : ∃ x, s.data.toList[0]? = some x := ⟨_, List.getElem?_eq_getElem (by rw [size_toList]; omega)⟩
    have hcb : s[0]'h0s = c := ba_at s 0 c hc h0s
    clear he
    by_cases h34 : c.toNat = 34
    · have hc34 : c = 34 := UInt8.toNat_inj.1 h34
      have t34 : ((c.toNat : Int) != 34) = false := by simp; omega
      have H0 : Hid (s.data.toList[0]? = some 34) := Lib.hid (by rw [hc, hc34])
      have f0 : Bld W.heap.size W.heap.size (Lib.byteCells []) (W.alloc (.cells #[.pointer none, .slice none 0 0] 70)) := Lib.IsBuilderF.of (Lib.fresh_isBuilder 70 5 W)
      have F0 := Lib.hid f0
      have B0 := Lib.hid (Below.alloc (Below.refl _ W) (Nat.le_refl _) (.cells #[.pointer none, .slice none 0 0] 70))
      clear hc hc34 h34 f0
      go_enter Tryd.func25, Tryd.ntmps25
      go_wp2
      clear t34 hcb he'
      go_loopw [6] (fun i wr => ∃ (k : Nat) (acc : List UInt8), 1 ≤ k ∧ k ≤ s.size ∧ i = .int .i64 k ∧ Bld W.heap.size W.heap.size (Lib.byteCells acc) wr ∧ Below W.heap.size W wr ∧ W.heap.size ≤ wr.heap.size ∧ unqIs s.data.toList acc k ∧ acc.length ≤ k) (fun i _ => s.size - (intOf i).toNat)
      case atStart => exact ⟨1, [], by omega, by omega, rfl, F0.out, B0.out, by simp, unqIs_start _, by simp⟩
      case round =>
        clear F0 B0
        obtain ⟨k, acc, hk1, hk, rfl, hB, hb, hsz, hu, hacc⟩ := hrel
        have HB := Lib.hid hB
        have Hb := Lib.hid hb
        have HU := Lib.hid hu
        clear hB hb hu
        by_cases hlt : k < s.size
        · obtain ⟨x, hx⟩ : ∃ x, s.data.toList[k]? = some x := ⟨_, List.getElem?_eq_getElem (by rw [size_toList]; omega)⟩
          have hxb : s[k]'hlt = x := ba_at s k x hx hlt
          have HX := Lib.hid hx
          clear hx
          by_cases h34 : x.toNat = 34
          · have hx34 : x = 34 := UInt8.toNat_inj.1 h34
            have t1 : ((x.toNat : Int) == 34) = true := by simp; omega
            have HN := Lib.hid (unqIs_close HU.out hk1 (by rw [HX.out, hx34]) H0.out)
            clear h34 hx34
            go_wp2_with fail
            clear t1
            refine (btext_ok W.heap.size W.heap.size _ _ HB.out hsz).mono ?_
            rintro e w2 ⟨rfl, b2⟩
            have K3 := Lib.hid (Hb.out.trans b2)
            clear b2
            go_wp2
            go_ret3
            rw [HN.out]
            refine ⟨?_, frm_below K3.out⟩
            rfl
          · have t1 : ((x.toNat : Int) == 34) = false := by simp; omega
            by_cases h92 : x.toNat = 92
            · have hx92 : x = 92 := UInt8.toNat_inj.1 h92
              have t2 : ((x.toNat : Int) == 92) = true := by simp; omega
              have hx92' := Lib.hid (show s.data.toList[k]? = some 92 by rw [HX.out, hx92])
              clear h34 h92 hx92
              by_cases hl2 : k + 1 = s.size
              · have HN := Lib.hid (unqIs_bad HU.out (unq_none_last hx92'.out (by rw [size_toList]; omega)) H0.out)
                have t3 : ((k : Int) + 1 == (s.size : Int)) = true := by simp; omega
                go_wp2
                go_ret3
                rw [HN.out]
                exact ⟨rfl, frm_below Hb.out⟩
              · have hlt2 : k + 1 < s.size := by omega
                have t3 : ((k : Int) + 1 == (s.size : Int)) = false := by simp; omega
                obtain ⟨y, hy⟩ : ∃ x, s.data.toList[k + 1]? = some x := ⟨_, List.getElem?_eq_getElem (by rw [size_toList]; omega)⟩
                have hyb : s[k + 1]'hlt2 = y := ba_at s (k + 1) y hy hlt2
                have HY := Lib.hid hy
                clear hy
                have hif := isFieldByte_ok y wr
                cases hf : fcB y
                · rw [hf] at hif
                  have HN := Lib.hid (unqIs_bad HU.out (unq_none_esc hx92'.out HY.out hf) H0.out)
                  clear hf
                  go_wp2_with fail
                  clear t1 t2 t3
                  refine hif.mono ?_
                  rintro e w2 ⟨rfl, rfl⟩
                  go_wp2
                  go_ret3
                  rw [HN.out]
                  exact ⟨rfl, frm_below Hb.out⟩
                · rw [hf] at hif
                  have HS := Lib.hid (unqIs_esc HU.out hk1 hx92'.out HY.out hf)
                  clear hf
                  go_wp2_with fail
                  clear t1 t2 t3
                  refine hif.mono ?_
                  rintro e w2 ⟨rfl, rfl⟩
                  go_wp2_with fail
                  refine (wbyte_ok W.heap.size W.heap.size _ _ _ HB.out (by rw [Lib.byteCells_length]; omega) hsz).mono ?_
                  rintro e w3 ⟨rfl, h2, b2, s2⟩
                  rw [bcells] at h2
                  have L1 := Lib.hid h2
                  have L2 := Lib.hid (Hb.out.trans b2)
                  clear h2 b2
                  go_wp2
                  go_roundw
                  case rel => exact ⟨k + 2, _, by omega, by omega, by go_num, L1.out, L2.out, s2, HS.out, by simp; omega⟩
                  case measure => simp [intOf]; omega
            · have t2 : ((x.toNat : Int) == 92) = false := by simp; omega
              have ne1 : x ≠ 34 := by rintro rfl; exact h34 rfl
              have ne2 : x ≠ 92 := by rintro rfl; exact h92 rfl
              clear h34 h92
              have hif := isFieldByte_ok x wr
              cases hf : fcB x
              · rw [hf] at hif
                have HN := Lib.hid (unqIs_bad HU.out (unq_none_plain HX.out ne1 ne2 hf) H0.out)
                clear hf ne1 ne2
                go_wp2_with fail
                clear t1 t2
                refine hif.mono ?_
                rintro e w2 ⟨rfl, rfl⟩
                go_wp2
                go_ret3
                rw [HN.out]
                exact ⟨rfl, frm_below Hb.out⟩
              · rw [hf] at hif
                have HS := Lib.hid (unqIs_plain HU.out hk1 HX.out ne1 ne2 hf)
                clear hf ne1 ne2
                go_wp2_with fail
                clear t1 t2
                refine hif.mono ?_
                rintro e w2 ⟨rfl, rfl⟩
                go_wp2_with fail
                refine (wbyte_ok W.heap.size W.heap.size _ _ _ HB.out (by rw [Lib.byteCells_length]; omega) hsz).mono ?_
                rintro e w3 ⟨rfl, h2, b2, s2⟩
                rw [bcells] at h2
                have L1 := Lib.hid h2
                have L2 := Lib.hid (Hb.out.trans b2)
                clear h2 b2
                go_wp2
                go_roundw
                case rel => exact ⟨k + 1, _, by omega, by omega, by go_num, L1.out, L2.out, s2, HS.out, by simp; omega⟩
                case measure => simp [intOf]; omega
        · have HN := Lib.hid (unqIs_bad HU.out (unq_none_end (by rw [size_toList]; omega)) H0.out)
          go_wp2
          go_ret3
          rw [HN.out]
          exact ⟨rfl, frm_below Hb.out⟩
    · have hn : unqAns s.data.toList = ([], 0, 13) := by
        have : unquote s.data.toList = none := by
          rw [show s.data.toList = c :: s.data.toList.drop 1 from drop_at _ 0 c hc, unquote, if_neg]
          rintro rfl; exact h34 rfl
        unfold unqAns; rw [this]
      have HN := Lib.hid hn
      have t34 : ((c.toNat : Int) != 34) = true := by simp; omega
      clear hn hc h34
      go_enter Tryd.func25, Tryd.ntmps25
      go_wp2
      go_ret3
      rw [HN.out]
      exact ⟨rfl, Frm.refl _ _⟩
end Go.Proofs.YtjphdipbajfojaaDoor

set_option linter.unusedVariables false
set_option linter.unusedSimpArgs false
namespace Go.Proofs.YtjphdipbajfojaaDoor
open Go Go.RowKit Go.Proofs

/-- Texts as rows. -/
def strs (l : List (List UInt8)) : List (List AV) := l.map fun x => [.str x]
theorem strs_len (l : List (List UInt8)) : (strs l).length = l.length := by simp [strs]
theorem strs_flat (l : List (List UInt8)) (j : Nat) : (strs l).flatten[j]? = (l[j]?).map AV.str := by
  induction l generalizing j with
  | nil => simp [strs]
  | cons b l ih =>
    have e : (strs (b :: l)).flatten = .str b :: (strs l).flatten := rfl
    rw [e]
    cases j with
    | zero => rfl
    | succ j => rw [List.getElem?_cons_succ, List.getElem?_cons_succ, ih]

section
variable {w : World} {β : Nat → Nat} {Rd : Nat → Nat → Prop}
theorem rel_tup_sii {a : List UInt8} {k k' : IntKind} {n m : Int} (h : a.length ≤ maxLen) : Rel w β Rd (.tup [.str a, .int k n, .int k' m]) (.tuple #[.string (tx a), .int k n, .int k' m]) := by
  refine .tup _ _ rfl (by simp [AV.free]) (fun j x u hx hu => ?_)
  match j with
  | 0 => simp at hx hu; subst hx; subst hu; exact rel_tx a h
  | 1 => simp at hx hu; subst hx; subst hu; exact .int _ _
  | 2 => simp at hx hu; subst hx; subst hu; exact .int _ _
  | j + 3 => simp at hx
end

theorem trim_le (l : List UInt8) : (trimB l).length ≤ l.length := by
  have dw : ∀ (p : UInt8 → Bool) (l : List UInt8), (l.dropWhile p).length ≤ l.length := fun p l => (List.dropWhile_sublist p).length_le
  unfold trimB Go.Lib.trimS Go.Lib.trimLeftS Go.Lib.trimRightS
  refine Nat.le_trans (dw _ _) ?_
  rw [List.length_reverse]
  refine Nat.le_trans (dw _ _) ?_
  rw [List.length_reverse]; exact Nat.le_refl _
theorem unqAns_le (l : List UInt8) : (unqAns l).1.length ≤ l.length := by
  unfold unqAns
  cases h : unquote l with
  | none => simp
  | some p => have := unquote_le (l := p.1) (k := p.2) h; simp; omega

section
variable (E : Env) (H : Hp) (Q : AV → Hp → Prop)
theorem trim0_pc (l : List UInt8) (hl : l.length ≤ cap) (hQ : Q (.str (trimB l)) H) : PC Tryd.prog E 63 [.str l, .str [32, 9]] H Q := by
  refine pc_of_calls (v := .str (trimB l)) (by kernel_rfl) (fun _ => True) (fun w hw => trivial) (fun w β Rd cargs hS hsz hargs => ?_) (.str _) rfl hQ
  obtain ⟨u, v, rfl, hu, hv⟩ := args2 hsz hargs
  obtain ⟨s, rfl, rfl, hs⟩ := rel_str hu
  obtain ⟨t, rfl, ht, _⟩ := rel_str hv
  have h116 : (Tryd.prog.info? (lren.t 116)).map (fun i => (i.zero, i.size)) = some (some (.agg (Array.replicate 256 (.bool false))), 256) := by kernel_rfl
  have htl : t.size = 2 := by rw [← size_toList, ht]; rfl
  refine (Any.strings_Trim_ascii lays160 (zero_of_info h116).1 (zero_of_info h116).2 s t w (by rw [← size_toList]; simp only [cap] at hl; omega) (by rw [htl]; omega) (fun j b hb => by
    rw [ht] at hb
    match j with
    | 0 => simp at hb; subst hb; decide
    | 1 => simp at hb; subst hb; decide
    | j + 2 => simp at hb)).mono ?_
  rintro e w' ⟨rfl, hb⟩
  rw [ht]
  exact ⟨_, rfl, frm_below hb, rel_tx (trimB s.data.toList) (cap_max (Nat.le_trans (trim_le _) hl))⟩
theorem trim_pc (l : List UInt8) (hl : l.length ≤ cap) (hQ : Q (.str (trimB l)) H) : PC Tryd.prog E 40 [.str l] H Q := by
  refine pc_enter Tryd.func40 rfl [] [] (by kernel_rfl) (fun hB => ?_)
  simp [Tryd.ntmps40, Tryd.results40, List.replicate_succ]
  refine trim0_pc E H _ l hl ?_
  simp [Tryd.results40]
  exact aPost_same0 hB rfl (nilV_refl _) (by simp) hQ
theorem unquote_pc (l : List UInt8) (hl : l.length ≤ 35184372088832) (hQ : Q (.tup [.str (unqAns l).1, .int .i64 (unqAns l).2.1, .int .i64 (unqAns l).2.2]) H) : PC Tryd.prog E 25 [.str l] H Q := by
  refine pc_of_calls (v := .tup [.str (unqAns l).1, .int .i64 (unqAns l).2.1, .int .i64 (unqAns l).2.2]) (by kernel_rfl) (fun _ => True) (fun w hw => trivial) (fun w β Rd cargs hS hsz hargs => ?_) (.tup _ (fun x hx => by simp at hx; rcases hx with rfl | rfl | rfl; exact .str _; exact .int _ _; exact .int _ _)) rfl hQ
  obtain ⟨u, rfl, hu⟩ := args1 hsz hargs
  obtain ⟨s, rfl, rfl, hs⟩ := rel_str hu
  refine (unquote_ok s (by rw [← size_toList]; exact hl) w).mono ?_
  rintro e w' ⟨rfl, hf⟩
  exact ⟨_, rfl, hf, rel_tup_sii (Nat.le_trans (unqAns_le _) (by simp only [maxLen]; omega))⟩
end
end Go.Proofs.YtjphdipbajfojaaDoor

set_option linter.unusedVariables false
set_option linter.unusedSimpArgs false
set_option maxRecDepth 100000
namespace Go.Proofs.YtjphdipbajfojaaDoor
open Go Go.RowKit

theorem blank_iff (b : UInt8) : blankB b = (decide (b.toNat = 32) || decide (b.toNat = 9)) := by
  have e1 : (b == 9) = decide (b.toNat = 9) := by rw [Bool.eq_iff_iff]; simp [← UInt8.toNat_inj]
  have e2 : (b == 32) = decide (b.toNat = 32) := by rw [Bool.eq_iff_iff]; simp [← UInt8.toNat_inj]
  rw [blankB, e1, e2]
theorem len_ne (l : List UInt8) (n : Nat) : (l != []) = !l.isEmpty := by cases l <;> rfl

section
variable (E : Env) (H : Hp) (Q : AV → Hp → Prop)
theorem ref_byte_pc (b : UInt8) (hQ : Q (.bool (fcB b)) H) : PC Tryd.prog E 54 [.int .u8 (b.toNat : Int)] H Q := by
  refine pc_enter Tryd.func54 rfl [] [] (by kernel_rfl) (fun hB => ?_)
  have fin : ∀ c : Bool, fcB b = c → Q (.bool c) H := fun c hc => hc ▸ hQ
  by_cases h1 : b.toNat = 9
  · have t1 : ((b.toNat : Int) == 9) = true := by simp; omega
    simp [Tryd.ntmps54, Tryd.results54, List.replicate_succ, t1]
    exact aPost_same0 hB rfl (nilV_refl _) (by simp) (fin _ (by rw [fcB_iff]; simp [h1]))
  · have t1 : ((b.toNat : Int) == 9) = false := by simp; omega
    by_cases h2 : 32 ≤ b.toNat
    · have t2 : (32 : Int) ≤ b.toNat := by omega
      by_cases h3 : b.toNat = 127
      · have t3 : ((b.toNat : Int) != 127) = false := by simp; omega
        simp [Tryd.ntmps54, Tryd.results54, List.replicate_succ, t1, t2, t3]
        exact aPost_same0 hB rfl (nilV_refl _) (by simp) (fin _ (by rw [fcB_iff]; simp [h3]))
      · have t3 : ((b.toNat : Int) != 127) = true := by simp; omega
        simp [Tryd.ntmps54, Tryd.results54, List.replicate_succ, t1, t2, t3]
        exact aPost_same0 hB rfl (nilV_refl _) (by simp) (fin _ (by rw [fcB_iff]; simp [h2, h3]))
    · have t2 : ¬ (32 : Int) ≤ b.toNat := by omega
      simp [Tryd.ntmps54, Tryd.results54, List.replicate_succ, t1, t2]
      exact aPost_same0 hB rfl (nilV_refl _) (by simp) (fin _ (by rw [fcB_iff]; simp [h1, h2]))

end
end Go.Proofs.YtjphdipbajfojaaDoor
set_option linter.unusedVariables false
set_option linter.unusedSimpArgs false
set_option maxRecDepth 100000
namespace Go.Proofs.YtjphdipbajfojaaDoor
open Go Go.RowKit

section
variable (E : Env) (H : Hp) (Q : AV → Hp → Prop)
def refUnqInv (l : List UInt8) (H : Hp) (fr : List AV) (H' : Hp) : Prop := H' = H ∧ ∃ (k : Nat) (acc : List UInt8), 1 ≤ k ∧ k ≤ l.length ∧ acc.length ≤ k ∧ unqIs l acc k ∧ ∃ x : Nat → AV, fr = [.str l, x 1, x 2, x 3, x 4, .sl true 1 (bts acc), .int .i64 k, x 7, x 8, x 9, x 10, x 11, x 12, x 13, x 14, x 15, x 16, x 17, x 18, x 19, x 20, x 21, x 22, x 23, x 24, x 25, x 26, x 27, x 28, x 29, x 30, x 31, x 32, x 33, x 34, x 35, x 36, x 37, x 38, x 39, x 40, x 41, x 42, x 43, x 44, x 45, x 46, x 47, x 48, x 49, x 50, x 51]
theorem ref_unquote_pc (l : List UInt8) (hl : l.length ≤ 35184372088832) (hQ : Q (.tup [.str (unqAns l).1, .int .i64 (unqAns l).2.1, .int .i64 (unqAns l).2.2]) H) : PC Tryd.prog E 26 [.str l] H Q := by
  refine pc_enter Tryd.func26 rfl [44] [] (by kernel_rfl) (fun hB => ?_)
  have bad : unqAns l = ([], 0, 13) → Q (.tup [.str [], .int .i64 0, .int .i64 13]) H := fun h => by rw [h] at hQ; exact hQ
  by_cases he : l = []
  · subst he
    simp [Tryd.ntmps26, Tryd.results26, List.replicate_succ]
    exact aPost_same0 hB rfl (nilV_refl _) (by simp) (bad rfl)
  · obtain ⟨c, hc⟩ : ∃ c, l[0]? = some c := ⟨_, List.getElem?_eq_getElem (List.length_pos_iff.2 he)⟩
    have hcn := c.toNat_lt
    have hat0 : lat l 0 = some c := lat_eq hc
    have hbe : (l == []) = false := by simpa using he
    by_cases h34 : c.toNat = 34
    · have hc34 : c = 34 := UInt8.toNat_inj.1 h34
      have t34 : ((c.toNat : Int) != 34) = false := by simp; omega
      have H0 : l[0]? = some 34 := by rw [hc, hc34]
      simp [Tryd.ntmps26, Tryd.results26, List.replicate_succ, hbe, hat0, t34]
      refine VL_go (refUnqInv l H) (fun fr _ => l.length - (ai (aget fr 6)).toNat) ⟨rfl, 1, [], by omega, List.length_pos_iff.2 he, by simp, unqIs_start l, fr_intro (by simp [bts])⟩ ?_
      rintro fr H' ⟨rfl, k, acc, hk1, hk, hacc, hu, x, rfl⟩
      have hm1 : acc.length + 1 ≤ maxLen ∧ acc.length + 1 ≤ 140737488355328 := by unfold maxLen; omega
      have hw : IntKind.i64.wrap ((k : Int) + 1) = k + 1 := wrap_in (by omega) (by omega)
      by_cases h : k < l.length
      · obtain ⟨b, hb⟩ : ∃ b, l[k]? = some b := ⟨_, List.getElem?_eq_getElem h⟩
        have hat := lat_eq hb
        have hbn := b.toNat_lt
        by_cases b34 : b.toNat = 34
        · have hx34 : b = 34 := UInt8.toNat_inj.1 b34
          have t1 : ((b.toNat : Int) == 34) = true := by simp; omega
          have ha := unqIs_close hu hk1 (by rw [hb, hx34]) H0
          rw [ha] at hQ
          simp [h, hat, t1, hw]
          exact aPost_same0 hB rfl (nilV_refl _) (by simp) hQ
        · have t1 : ((b.toNat : Int) == 34) = false := by simp; omega
          by_cases b92 : b.toNat = 92
          · have hx92 : b = 92 := UInt8.toNat_inj.1 b92
            have t2 : ((b.toNat : Int) == 92) = true := by simp; omega
            have hb' : l[k]? = some 92 := by rw [hb, hx92]
            by_cases h2 : k + 1 < l.length
            · obtain ⟨d, hd⟩ : ∃ d, l[k + 1]? = some d := ⟨_, List.getElem?_eq_getElem h2⟩
              have hat2 : lat l (k + 1) = some d := lat_eq hd
              have htn : ((k : Int) + 1).toNat = k + 1 := by omega
              have hge : ¬ (l.length : Int) ≤ (k : Int) + 1 := by omega
              have h0k : (0 : Int) ≤ (k : Int) + 1 := by omega
              have hw2 : IntKind.i64.wrap ((k : Int) + 1 + 1) = k + 2 := wrap_in (by omega) (by omega)
              simp [h, hat, t1, t2, hw, hge, hat2, h0k, htn]
              refine ref_byte_pc E _ _ d ?_
              cases hf : fcB d
              · simp [hf]
                exact aPost_same0 hB rfl (nilV_refl _) (by simp) (bad (unqIs_bad hu (unq_none_esc hb' hd hf) H0))
              · simp [hf, hat2, h0k, hm1, hw2, htn]
                exact Kloop_normal ⟨rfl, k + 2, acc ++ [d], by omega, by omega, by simp; omega, unqIs_esc hu hk1 hb' hd hf, fr_intro (by simp [bts])⟩ (by simp; omega)
            · have hge : (l.length : Int) ≤ (k : Int) + 1 := by omega
              simp [h, hat, t1, t2, hw, hge]
              exact aPost_same0 hB rfl (nilV_refl _) (by simp) (bad (unqIs_bad hu (unq_none_last hb' (by omega)) H0))
          · have t2 : ((b.toNat : Int) == 92) = false := by simp; omega
            have ne1 : b ≠ 34 := by rintro rfl; exact b34 rfl
            have ne2 : b ≠ 92 := by rintro rfl; exact b92 rfl
            have hge : ¬ (l.length : Int) ≤ (k : Int) := by omega
            simp [h, hat, t1, t2, hge]
            refine ref_byte_pc E _ _ b ?_
            cases hf : fcB b
            · simp [hf]
              exact aPost_same0 hB rfl (nilV_refl _) (by simp) (bad (unqIs_bad hu (unq_none_plain hb ne1 ne2 hf) H0))
            · simp [hf, hat, hm1, hw]
              exact Kloop_normal ⟨rfl, k + 1, acc ++ [b], by omega, by omega, by simp; omega, unqIs_plain hu hk1 hb ne1 ne2 hf, fr_intro (by simp [bts])⟩ (by simp; omega)
      · simp [h]
        exact aPost_same0 hB rfl (nilV_refl _) (by simp) (bad (unqIs_bad hu (unq_none_end (by omega)) H0))
    · have t34 : ((c.toNat : Int) != 34) = true := by simp; omega
      have hbad : unqAns l = ([], 0, 13) := by
        have : unquote l = none := by
          rw [show l = c :: l.drop 1 from drop_at _ 0 c hc, unquote, if_neg]
          rintro rfl; exact h34 rfl
        unfold unqAns; rw [this]
      simp [Tryd.ntmps26, Tryd.results26, List.replicate_succ, hbe, hat0, t34]
      exact aPost_same0 hB rfl (nilV_refl _) (by simp) (bad hbad)
end
end Go.Proofs.YtjphdipbajfojaaDoor

set_option linter.unusedVariables false
set_option linter.unusedSimpArgs false
set_option linter.unusedSectionVars false
set_option maxRecDepth 100000
namespace Go.Proofs.YtjphdipbajfojaaDoor
open Go Go.RowKit

/-! ### Plain -/
theorem sp_blank : (fun b : UInt8 => [32, 9].contains b) = blankB := by
  funext b
  rw [Bool.eq_iff_iff]
  simp [blankB]
theorem dw_snoc (p : UInt8 → Bool) (c : UInt8) (hc : p c = false) : ∀ r : List UInt8, (r ++ [c]).dropWhile p = r.dropWhile p ++ [c]
  | [] => by simp [List.dropWhile, hc]
  | d :: r => by
    rw [List.cons_append]
    cases hd : p d
    · rw [List.dropWhile_cons_of_neg (by rw [hd]; simp), List.dropWhile_cons_of_neg (by rw [hd]; simp)]; rfl
    · rw [List.dropWhile_cons_of_pos hd, List.dropWhile_cons_of_pos hd]; exact dw_snoc p c hc r
def lt (l : List UInt8) : List UInt8 := l.dropWhile blankB
def rt (l : List UInt8) : List UInt8 := (l.reverse.dropWhile blankB).reverse
theorem trim_eq (l : List UInt8) : trimB l = lt (rt l) := by
  unfold trimB Go.Lib.trimS Go.Lib.trimLeftS Go.Lib.trimRightS lt rt
  rw [← sp_blank]
theorem trim_comm : ∀ l : List UInt8, trimB l = rt (lt l)
  | [] => rfl
  | c :: r => by
    cases hc : blankB c
    · have h1 : lt (c :: r) = c :: r := by unfold lt; rw [List.dropWhile_cons_of_neg (by rw [hc]; simp)]
      rw [h1, trim_eq]
      unfold rt
      rw [List.reverse_cons, dw_snoc blankB c hc, List.reverse_append, List.reverse_singleton, List.singleton_append]
      unfold lt
      rw [List.dropWhile_cons_of_neg (by rw [hc]; simp)]
    · rw [trimB_blank c hc, trim_comm r]
      have : lt (c :: r) = lt r := by unfold lt; rw [List.dropWhile_cons_of_pos hc]
      rw [this]
theorem seg_app (l : List UInt8) (f i k : Nat) (h : f ≤ i) : (l.drop f).take (i - f) ++ (l.drop i).take k = (l.drop f).take (i + k - f) := by
  rw [show i + k - f = (i - f) + k by omega, List.take_add, List.drop_drop, show f + (i - f) = i by omega]
theorem seg_one (l : List UInt8) (f i : Nat) (c : UInt8) (h : f ≤ i) (hc : l[i]? = some c) : (l.drop f).take (i - f) ++ [c] = (l.drop f).take (i + 1 - f) := by
  rw [← seg_app l f i 1 h, drop_at l i c hc]; rfl
theorem seg_nil (l : List UInt8) (i : Nat) : (l.drop i).take (i - i) = [] := by simp
theorem strs_at {l : List (List UInt8)} {i : Nat} {x : List UInt8} (h : l[i]? = some x) : lat (strs l) i = some [AV.str x] := by simp [lat, strs, h]
theorem keepB_take (l : List (List UInt8)) (i : Nat) (x : List UInt8) (h : l[i]? = some x) : keepB (l.take (i + 1)) = keepB (l.take i) ++ (if (trimB x).isEmpty then [] else [trimB x]) := by
  rw [List.take_add_one, h, keepB_app]
  congr 1
  simp [keepB]
  cases (trimB x) <;> simp
theorem keepB_le (l : List (List UInt8)) : (keepB l).length ≤ l.length := by
  unfold keepB
  refine Nat.le_trans (List.length_filter_le _ _) ?_
  rw [List.length_map]; exact Nat.le_refl _
theorem cut_len : ∀ (n : Nat) (acc s : List UInt8) (x : List (List UInt8)), s.length ≤ n → cut acc s = some x → x.length ≤ s.length + 1
  | n, acc, [], x, _, h => by rw [cut_nil] at h; cases h; simp
  | 0, acc, c :: r, x, hn, h => by simp at hn
  | n + 1, acc, c :: r, x, hn, h => by
    simp only [List.length_cons] at hn ⊢
    by_cases h1 : c = 44
    · subst h1
      rw [cut_comma] at h
      cases hc : cut [] r with
      | none => simp [hc] at h
      | some y =>
        simp [hc] at h; subst h
        have := cut_len n [] r y (by omega) hc
        simp only [List.length_cons]; omega
    · by_cases h2 : c = 34
      · subst h2
        cases hu : unquote (34 :: r) with
        | none => rw [cut_bad _ _ hu] at h; cases h
        | some p =>
          have hl := unquote_le (l := p.1) (k := p.2) hu
          simp only [List.length_cons] at hl
          rw [cut_quote acc r p.1 p.2 hu] at h
          have := cut_len n _ _ x (by simp; omega) h
          simp at this; omega
      · rw [cut_plain _ _ _ h1 h2] at h
        have := cut_len n _ _ x (by omega) h
        omega
theorem cut_mem : ∀ (n : Nat) (acc s : List UInt8) (x : List (List UInt8)), s.length ≤ n → cut acc s = some x → ∀ p ∈ x, p.length ≤ acc.length + s.length
  | n, acc, [], x, _, h, p, hp => by rw [cut_nil] at h; cases h; simp at hp; subst hp; simp
  | 0, acc, c :: r, x, hn, h, p, hp => by simp at hn
  | n + 1, acc, c :: r, x, hn, h, p, hp => by
    simp only [List.length_cons] at hn ⊢
    by_cases h1 : c = 44
    · subst h1
      rw [cut_comma] at h
      cases hc : cut [] r with
      | none => simp [hc] at h
      | some y =>
        simp [hc] at h; subst h
        rcases List.mem_cons.1 hp with rfl | hp
        · omega
        · have := cut_mem n [] r y (by omega) hc p hp
          simp at this; omega
    · by_cases h2 : c = 34
      · subst h2
        cases hu : unquote (34 :: r) with
        | none => rw [cut_bad _ _ hu] at h; cases h
        | some q =>
          have hl := unquote_le (l := q.1) (k := q.2) hu
          simp only [List.length_cons] at hl
          rw [cut_quote acc r q.1 q.2 hu] at h
          have := cut_mem n _ _ x (by simp; omega) h p hp
          simp at this; omega
      · rw [cut_plain _ _ _ h1 h2] at h
        have := cut_mem n _ _ x (by omega) h p hp
        simp at this; omega
theorem listB_len {s : List UInt8} {x : List (List UInt8)} (h : listB s = some x) : x.length ≤ s.length + 1 := by
  unfold listB at h
  cases hc : cut [] s with
  | none => simp [hc] at h
  | some y =>
    simp [hc] at h; subst h
    exact Nat.le_trans (keepB_le y) (cut_len _ [] s y (Nat.le_refl _) hc)

/-- Where a loop over the text stands. -/
def cutIs (s : List UInt8) (out : List (List UInt8)) (f i : Nat) : Prop := cut [] s = (cut ((s.drop f).take (i - f)) (s.drop i)).map (out ++ ·)
theorem cutIs_start (s : List UInt8) : cutIs s [] 0 0 := by unfold cutIs; simp
section
variable {s : List UInt8} {out : List (List UInt8)} {f i : Nat} (h : cutIs s out f i) (hf : f ≤ i)
include h hf
theorem cutIs_comma (hc : s[i]? = some 44) : cutIs s (out ++ [(s.drop f).take (i - f)]) (i + 1) (i + 1) := by
  unfold cutIs at h ⊢
  rw [h, drop_at s i 44 hc, cut_comma, seg_nil]
  cases cut [] (s.drop (i + 1)) <;> simp
theorem cutIs_plain {c : UInt8} (hc : s[i]? = some c) (h1 : c ≠ 44) (h2 : c ≠ 34) : cutIs s out f (i + 1) := by
  unfold cutIs at h ⊢
  rw [h, drop_at s i c hc, cut_plain _ _ _ h1 h2, seg_one s f i c hf hc]
theorem cutIs_bad (hc : s[i]? = some 34) (hu : unquote (s.drop i) = none) : cut [] s = none := by
  unfold cutIs at h
  rw [drop_at s i 34 hc] at hu h
  rw [h, cut_bad _ _ hu]; rfl
theorem cutIs_quote (hc : s[i]? = some 34) {x : List UInt8} {k : Nat} (hu : unquote (s.drop i) = some (x, k)) : cutIs s out f (i + k) := by
  unfold cutIs at h ⊢
  have e := drop_at s i 34 hc
  rw [e] at hu
  rw [h, e, cut_quote _ _ x k hu, ← e, seg_app s f i k hf, List.drop_drop]
theorem cutIs_end (hi : s.length ≤ i) : cut [] s = some (out ++ [(s.drop f).take (i - f)]) := by
  unfold cutIs at h
  rw [h, List.drop_of_length_le hi, cut_nil]; rfl
end

section
variable (E : Env) (H : Hp) (Q : AV → Hp → Prop)
theorem ref_blank_pc (b : UInt8) (hQ : Q (.bool (blankB b)) H) : PC Tryd.prog E 64 [.int .u8 (b.toNat : Int)] H Q := by
  refine pc_enter Tryd.func64 rfl [] [] (by kernel_rfl) (fun hB => ?_)
  have fin : ∀ c : Bool, blankB b = c → Q (.bool c) H := fun c hc => hc ▸ hQ
  by_cases h1 : b.toNat = 32
  · have t1 : ((b.toNat : Int) == 32) = true := by simp; omega
    simp [Tryd.ntmps64, Tryd.results64, List.replicate_succ, t1]
    exact aPost_same0 hB rfl (nilV_refl _) (by simp) (fin _ (by rw [blank_iff]; simp [h1]))
  · have t1 : ((b.toNat : Int) == 32) = false := by simp; omega
    by_cases h2 : b.toNat = 9
    · have t2 : ((b.toNat : Int) == 9) = true := by simp; omega
      simp [Tryd.ntmps64, Tryd.results64, List.replicate_succ, t1, t2]
      exact aPost_same0 hB rfl (nilV_refl _) (by simp) (fin _ (by rw [blank_iff]; simp [h2]))
    · have t2 : ((b.toNat : Int) == 9) = false := by simp; omega
      simp [Tryd.ntmps64, Tryd.results64, List.replicate_succ, t1, t2]
      exact aPost_same0 hB rfl (nilV_refl _) (by simp) (fin _ (by rw [blank_iff]; simp [h1, h2]))

def refTrimInv1 (l : List UInt8) (H : Hp) (fr : List AV) (H' : Hp) : Prop := H' = H ∧ ∃ c : List UInt8, c.length ≤ l.length ∧ lt c = lt l ∧ ∃ x : Nat → AV, fr = [.str c, x 1, x 2, x 3, x 4, x 5, x 6, x 7, x 8, x 9, x 10, x 11, x 12, x 13, x 14, x 15, x 16, x 17, x 18, x 19, x 20, x 21, x 22, x 23, x 24, x 25, x 26, x 27]
def refTrimInv2 (l : List UInt8) (H : Hp) (fr : List AV) (H' : Hp) : Prop := H' = H ∧ ∃ c : List UInt8, c.length ≤ l.length ∧ rt c = rt (lt l) ∧ ∃ x : Nat → AV, fr = [.str c, x 1, x 2, x 3, x 4, x 5, x 6, x 7, x 8, x 9, x 10, x 11, x 12, x 13, x 14, x 15, x 16, x 17, x 18, x 19, x 20, x 21, x 22, x 23, x 24, x 25, x 26, x 27]
def asz : AV → Nat
  | .str l => l.length
  | _ => 0
@[simp] theorem asz_str (l) : asz (.str l) = l.length := rfl
theorem ref_trim_pc (l : List UInt8) (hl : l.length ≤ cap) (hQ : Q (.str (trimB l)) H) : PC Tryd.prog E 41 [.str l] H Q := by
  simp only [cap] at hl
  refine pc_enter Tryd.func41 rfl [] [] (by kernel_rfl) (fun hB => ?_)
  simp [Tryd.ntmps41, Tryd.results41, List.replicate_succ]
  refine VL_go (refTrimInv1 l H) (fun fr _ => asz (aget fr 0)) ⟨rfl, l, Nat.le_refl _, rfl, fr_intro (by simp)⟩ ?_
  rintro fr H' ⟨rfl, c, hcl, hc, x, rfl⟩
  have hcase : c = [] ∨ (∃ a r, c = a :: r ∧ blankB a = false) ∨ (∃ a r, c = a :: r ∧ blankB a = true) := by
    cases c with
    | nil => exact .inl rfl
    | cons a r =>
      cases hb : blankB a
      · exact .inr (.inl ⟨a, r, rfl, hb⟩)
      · exact .inr (.inr ⟨a, r, rfl, hb⟩)
  rcases hcase with rfl | ⟨a, r, rfl, hb⟩ | ⟨a, r, rfl, hb⟩
  rotate_left 2
  · have hne : (a :: r != []) = true := rfl
    simp [hne]
    refine ref_blank_pc E _ _ a ?_
    simp [hb]
    refine Kloop_normal ⟨rfl, r, by simp at hcl; omega, ?_, fr_intro (by simp)⟩ (by simp)
    rw [← hc]; unfold lt; rw [List.dropWhile_cons_of_pos hb]
  case' inl =>
    have e : ([] : List UInt8) = lt l := by rw [← hc]; rfl
    simp
  case' inr.inl =>
    have e : a :: r = lt l := by rw [← hc]; unfold lt; rw [List.dropWhile_cons_of_neg (by rw [hb]; simp)]
    have hne : (a :: r != []) = true := rfl
    simp [hne]
    refine ref_blank_pc E _ _ a ?_
    simp [hb]
  all_goals
    refine VL_go (refTrimInv2 l H') (fun fr _ => asz (aget fr 0)) ⟨rfl, _, hcl, by rw [e], fr_intro (by simp)⟩ ?_
    rintro fr H'' ⟨rfl, d, hdl, hd, z, rfl⟩
    rcases d.eq_nil_or_concat with rfl | ⟨y, b, rfl⟩
    · have ed : ([] : List UInt8) = trimB l := by rw [trim_comm, ← hd]; rfl
      simp
      refine aPost_same0 hB rfl (nilV_refl _) (by simp) ?_
      show Q (.str []) _
      rw [ed]; exact hQ
    · rw [List.concat_eq_append] at hd
      simp at hdl
      have hat : lat (y ++ [b]) y.length = some b := lat_eq (by simp)
      have hw : IntKind.i64.wrap (y.length : Int) = y.length := wrap_in (by omega) (by omega)
      have hne : ((y ++ [b]) != []) = true := by simp
      simp [hne, hw, hat]
      refine ref_blank_pc E _ _ b ?_
      cases hb2 : blankB b
      · have ed : y ++ [b] = trimB l := by
          rw [trim_comm, ← hd]
          unfold rt
          rw [List.reverse_append, List.reverse_singleton, List.singleton_append, List.dropWhile_cons_of_neg (by rw [hb2]; simp)]
          simp
        simp
        refine aPost_same0 hB rfl (nilV_refl _) (by simp) ?_
        show Q (.str (y ++ [b])) _
        rw [ed]; exact hQ
      · simp [hw]
        refine Kloop_normal ⟨rfl, y, by omega, ?_, fr_intro (by simp)⟩ (by simp)
        rw [← hd]
        unfold rt
        rw [List.reverse_append, List.reverse_singleton, List.singleton_append, List.dropWhile_cons_of_pos hb2]
end
end Go.Proofs.YtjphdipbajfojaaDoor
set_option linter.unusedVariables false
set_option linter.unusedSimpArgs false
set_option maxRecDepth 100000
namespace Go.Proofs.YtjphdipbajfojaaDoor
open Go Go.RowKit

theorem bnd_strs {N : Nat} (o k) (l : List (List UInt8)) : Bnd N (.sl o k (strs l)) := .sl _ _ _ fun r hr x hx => by
  obtain ⟨c, _, rfl⟩ := List.mem_map.1 hr
  simp at hx; subst hx; exact .str _
@[simp high] theorem bnd_strs' {N : Nat} (o k) (l : List (List UInt8)) : Bnd N (.sl o k (strs l)) := bnd_strs o k l
@[simp] theorem strs_length (l : List (List UInt8)) : (strs l).length = l.length := strs_len l

theorem nilV_tup2 (k : Nat) (y : AV) (h : y.free = true) : nilV (.tup [.nil, y]) (.tup [.sl false k [], y]) :=
  .inr ⟨_, _, rfl, rfl, ⟨.inr ⟨rfl, false, k, rfl⟩, .inl rfl, trivial⟩, by simp [h]⟩
def listAns (l : List UInt8) : List (List UInt8) × Int := match listB l with
  | some x => (x, 0)
  | none => ([], 14)
def tokAns (l : List UInt8) : List (List UInt8) × Int := match listB l with
  | some x => if x.all tokB = true then (x, 0) else ([], 10)
  | none => ([], 14)
theorem listAns_len (l : List UInt8) : (listAns l).1.length ≤ l.length + 1 := by
  unfold listAns
  cases h : listB l with
  | none => simp
  | some x => exact listB_len h
theorem listAns_bad {l : List UInt8} (h : cut [] l = none) : listAns l = ([], 14) := by unfold listAns listB; rw [h]; rfl
theorem listAns_ok {l : List UInt8} {x : List (List UInt8)} (h : cut [] l = some x) : listAns l = (keepB x, 0) := by unfold listAns listB; rw [h]; rfl

section
variable (E : Env) (H : Hp) (Q : AV → Hp → Prop)
def sameInv (a b : List (List UInt8)) (H : Hp) (fr : List AV) (H' : Hp) : Prop := H' = H ∧ ∃ i : Nat, i ≤ a.length ∧ a.take i = b.take i ∧ ∃ x : Nat → AV, fr = [.sl false 1 (strs a), .sl false 1 (strs b), x 2, x 3, x 4, .int .i64 i, x 6, x 7, x 8, x 9, x 10, x 11, x 12, x 13, x 14, x 15, x 16, x 17, x 18, x 19, x 20, x 21, x 22, x 23, x 24, x 25]
theorem same_pc (a b : List (List UInt8)) (ha : a.length ≤ cap) (hQ : Q (.bool (decide (a = b))) H) : PC Tryd.prog E 43 [.sl false 1 (strs a), .sl false 1 (strs b)] H Q := by
  simp only [cap] at ha
  refine pc_enter Tryd.func43 rfl [] [] (by kernel_rfl) (fun hB => ?_)
  have fin : ∀ c : Bool, decide (a = b) = c → Q (.bool c) H := fun c hc => hc ▸ hQ
  by_cases hl : a.length = b.length
  · have t1 : ((a.length : Int) != (b.length : Int)) = false := by simp; omega
    simp [Tryd.ntmps43, Tryd.results43, List.replicate_succ, t1]
    refine VL_go (sameInv a b H) (fun fr _ => a.length - (ai (aget fr 5)).toNat) ⟨rfl, 0, by omega, rfl, fr_intro (by simp)⟩ ?_
    rintro fr H' ⟨rfl, i, hi, hab, x, rfl⟩
    by_cases h : i < a.length
    · obtain ⟨u, hu⟩ : ∃ u, a[i]? = some u := ⟨_, List.getElem?_eq_getElem h⟩
      obtain ⟨v, hv⟩ : ∃ u, b[i]? = some u := ⟨_, List.getElem?_eq_getElem (by omega)⟩
      have hat1 := strs_at hu
      have hat2 := strs_at hv
      have hw : IntKind.i64.wrap ((i : Int) + 1) = i + 1 := wrap_in (by omega) (by omega)
      by_cases huv : u = v
      · have t2 : (u != v) = false := by simp [huv]
        simp [h, hat1, hat2, t2, hw]
        refine Kloop_normal ⟨rfl, i + 1, by omega, ?_, fr_intro (by simp)⟩ (by simp; omega)
        rw [List.take_add_one, List.take_add_one, hab, hu, hv, huv]
      · have t2 : (u != v) = true := by simpa using huv
        simp [h, hat1, hat2, t2]
        refine aPost_same0 hB rfl (nilV_refl _) (by simp) (fin false (decide_eq_false fun e => huv ?_))
        rw [e, hv] at hu; exact (Option.some.inj hu).symm
    · simp [h]
      refine aPost_same0 hB rfl (nilV_refl _) (by simp) (fin true (decide_eq_true ?_))
      rw [List.take_of_length_le (by omega), List.take_of_length_le (by omega)] at hab
      exact hab
  · have t1 : ((a.length : Int) != (b.length : Int)) = true := by simp; omega
    simp [Tryd.ntmps43, Tryd.results43, List.replicate_succ, t1]
    exact aPost_same0 hB rfl (nilV_refl _) (by simp) (fin false (decide_eq_false fun e => hl (by rw [e])))

def listInv1 (l : List UInt8) (H : Hp) (fr : List AV) (H' : Hp) : Prop := H' = H ∧ ∃ (f i : Nat) (out : List (List UInt8)), f ≤ i ∧ i ≤ l.length ∧ out.length ≤ i ∧ cutIs l out f i ∧ ∃ x : Nat → AV, fr = [.str l, x 1, x 2, x 3, .sl true 1 (strs out), .int .i64 f, .int .i64 i, x 7, x 8, x 9, x 10, x 11, x 12, x 13, x 14, x 15, x 16, x 17, x 18, x 19, x 20, x 21, x 22, x 23, x 24, x 25, x 26, x 27, x 28, x 29, x 30, x 31, x 32, x 33, x 34, x 35, x 36, x 37, x 38, x 39, x 40, x 41, x 42, x 43, x 44, x 45, x 46, x 47, x 48, x 49, x 50, x 51, x 52, x 53, x 54, x 55, x 56, x 57, x 58, x 59, x 60, x 61, x 62, x 63, x 64, x 65, x 66, x 67, x 68, x 69, x 70, x 71, x 72, x 73]
def listInv2 (ps : List (List UInt8)) (H : Hp) (fr : List AV) (H' : Hp) : Prop := H' = H ∧ ∃ (i : Nat) (own : Bool), i ≤ ps.length ∧ ∃ x : Nat → AV, fr = [x 0, x 1, x 2, x 3, x 4, x 5, x 6, x 7, x 8, x 9, .sl true 1 (strs (keepB (ps.take i))), x 11, x 12, x 13, x 14, x 15, x 16, x 17, x 18, x 19, x 20, x 21, x 22, x 23, x 24, x 25, x 26, x 27, x 28, x 29, x 30, x 31, x 32, x 33, x 34, x 35, x 36, x 37, x 38, x 39, x 40, x 41, x 42, x 43, x 44, x 45, x 46, x 47, x 48, x 49, x 50, x 51, x 52, x 53, x 54, x 55, x 56, x 57, .sl own 1 (strs ps), .int .i64 ps.length, .int .i64 i, x 61, x 62, x 63, x 64, x 65, x 66, x 67, x 68, x 69, x 70, x 71, x 72, x 73]
theorem list_pc (l : List UInt8) (hl : l.length ≤ 4194304) (hQ : Q (.tup [.sl false 1 (strs (listAns l).1), .int .i64 (listAns l).2]) H) : PC Tryd.prog E 42 [.str l] H Q := by
  refine pc_enter Tryd.func42 rfl [43, 53, 68] [] (by kernel_rfl) (fun hB => ?_)
  simp [Tryd.ntmps42, Tryd.results42, List.replicate_succ]
  refine VL_nil 4 1 (by rfl) ?_
  simp only [List.set_cons_succ, List.set_cons_zero]
  refine VL_go (listInv1 l H) (fun fr _ => l.length - (ai (aget fr 6)).toNat) ⟨rfl, 0, 0, [], by omega, by omega, by simp, cutIs_start l, fr_intro (by simp [strs])⟩ ?_
  rintro fr H' ⟨rfl, f, i, out, hf, hi, hout, hc, x, rfl⟩
  have hm : out.length + 1 ≤ maxLen ∧ (out.length + 1) * 16 ≤ 140737488355328 := by unfold maxLen; omega
  by_cases h : i < l.length
  · have t1 : ((i : Int) == (l.length : Int)) = false := by simp; omega
    have hw : IntKind.i64.wrap ((i : Int) + 1) = i + 1 := wrap_in (by omega) (by omega)
    obtain ⟨b, hb⟩ : ∃ b, l[i]? = some b := ⟨_, List.getElem?_eq_getElem h⟩
    have hat := lat_eq hb
    have hbn := b.toNat_lt
    by_cases b34 : b.toNat = 34
    · have hx34 : b = 34 := UInt8.toNat_inj.1 b34
      have hb' : l[i]? = some 34 := by rw [hb, hx34]
      have t2 : ((b.toNat : Int) == 34) = true := by simp; omega
      have hd : (l.drop i).take (l.length - i) = l.drop i := List.take_of_length_le (by rw [List.length_drop]; omega)
      simp [t1, hat, t2, hd, hi]
      refine unquote_pc E _ _ (l.drop i) (by rw [List.length_drop]; omega) ?_
      cases hu : unquote (l.drop i) with
      | none =>
        have ha : unqAns (l.drop i) = ([], 0, 13) := by unfold unqAns; rw [hu]
        have hbad := listAns_bad (cutIs_bad hc hf hb' hu)
        rw [hbad] at hQ
        simp [ha]
        exact aPost_same0 hB rfl (nilV_tup2 1 _ rfl) (by simp [strs]) hQ
      | some p =>
        obtain ⟨y, k⟩ := p
        have ha : unqAns (l.drop i) = (y, (k : Int), 0) := by unfold unqAns; rw [hu]
        have hk := unquote_le hu
        rw [List.length_drop] at hk
        have hw2 : IntKind.i64.wrap ((i : Int) + k) = i + k := wrap_in (by omega) (by omega)
        simp [ha, hw2]
        exact Kloop_normal ⟨rfl, f, i + k, out, by omega, by omega, by omega, cutIs_quote hc hf hb' hu, fr_intro (by simp)⟩ (by simp; omega)
    · have t2 : ((b.toNat : Int) == 34) = false := by simp; omega
      have ne34 : b ≠ 34 := by rintro rfl; exact b34 rfl
      by_cases b44 : b.toNat = 44
      · have hx44 : b = 44 := UInt8.toNat_inj.1 b44
        have hb' : l[i]? = some 44 := by rw [hb, hx44]
        have t3 : ((b.toNat : Int) == 44) = true := by simp; omega
        simp [t1, hat, t2, t3, hf, hi, hm, hw]
        exact Kloop_normal ⟨rfl, i + 1, i + 1, out ++ [(l.drop f).take (i - f)], by omega, by omega, by simp; omega, cutIs_comma hc hf hb', fr_intro (by simp [strs])⟩ (by simp; omega)
      · have t3 : ((b.toNat : Int) == 44) = false := by simp; omega
        have ne44 : b ≠ 44 := by rintro rfl; exact b44 rfl
        simp [t1, hat, t2, t3, hw]
        exact Kloop_normal ⟨rfl, f, i + 1, out, by omega, by omega, by omega, cutIs_plain hc hf hb ne44 ne34, fr_intro (by simp)⟩ (by simp; omega)
  · obtain rfl : i = l.length := by omega
    have hcut := cutIs_end hc hf (Nat.le_refl _)
    have t1 : ((l.length : Int) == (l.length : Int)) = true := by simp
    obtain ⟨ps, hps⟩ : ∃ ps, out ++ [(l.drop f).take (l.length - f)] = ps := ⟨_, rfl⟩
    have hpl : ps.length = out.length + 1 := by rw [← hps]; simp
    rw [hps] at hcut
    have hans := listAns_ok hcut
    rw [hans] at hQ
    simp [hf, hm]
    refine VL_nil 10 1 (by rfl) ?_
    simp only [List.set_cons_succ, List.set_cons_zero]
    refine VL_go (listInv2 ps H') (fun fr _ => ps.length - (ai (aget fr 60)).toNat) ⟨rfl, 0, true, by omega, fr_intro (by rw [hpl, ← hps]; simp [strs, keepB])⟩ ?_
    rintro fr H'' ⟨rfl, i, own, hi2, y, rfl⟩
    have hkl : (keepB (ps.take i)).length ≤ ps.length := by
      have := keepB_le (ps.take i)
      rw [List.length_take] at this; omega
    have hm2 : (keepB (ps.take i)).length + 1 ≤ maxLen ∧ ((keepB (ps.take i)).length + 1) * 16 ≤ 140737488355328 := by unfold maxLen; omega
    by_cases h2 : i < ps.length
    · obtain ⟨p, hp⟩ : ∃ b, ps[i]? = some b := ⟨_, List.getElem?_eq_getElem h2⟩
      have hat := strs_at hp
      have hw : IntKind.i64.wrap ((i : Int) + 1) = i + 1 := wrap_in (by omega) (by omega)
      have hst := keepB_take ps i p hp
      have hpl2 : p.length ≤ cap := by
        have := cut_mem _ [] l ps (Nat.le_refl _) hcut p (List.mem_of_getElem? hp)
        simp only [cap]; simp at this; omega
      simp [h2, hat]
      refine trim_pc E _ _ p hpl2 ?_
      cases ht : (trimB p).isEmpty
      · have hne : (trimB p != []) = true := by rw [len_ne _ 0, ht]; rfl
        rw [ht] at hst
        simp [hne, hm2, hw]
        exact Kloop_normal ⟨rfl, i + 1, own, by omega, fr_intro (by rw [hst]; simp [strs])⟩ (by simp; omega)
      · have hne : (trimB p != []) = false := by rw [len_ne _ 0, ht]; rfl
        rw [ht] at hst
        simp [hne, hw]
        exact Kloop_normal ⟨rfl, i + 1, own, by omega, fr_intro (by rw [hst]; simp [strs])⟩ (by simp; omega)
    · have ha : ps.take i = ps := List.take_of_length_le (by omega)
      simp [h2]
      rw [ha]
      exact aPost_same0 hB rfl (nilV_refl _) (by simp) hQ
end
end Go.Proofs.YtjphdipbajfojaaDoor
set_option linter.unusedVariables false
set_option linter.unusedSimpArgs false
set_option maxRecDepth 100000
namespace Go.Proofs.YtjphdipbajfojaaDoor
open Go Go.RowKit

def isLet (b : UInt8) : Bool := (decide (65 ≤ b.toNat) && decide (b.toNat ≤ 90)) || (decide (97 ≤ b.toNat) && decide (b.toNat ≤ 122))
def sgs : List UInt8 := [33, 35, 36, 37, 38, 39, 42, 43, 45, 46, 94, 95, 96, 124, 126]
theorem sign_ref : ∀ n, n < 256 → (isDig (UInt8.ofNat n) || isLet (UInt8.ofNat n) || sgs.contains (UInt8.ofNat n)) = signB (UInt8.ofNat n) := by decide
theorem sign_refB (b : UInt8) : (isDig b || isLet b || sgs.contains b) = signB b := by
  have := sign_ref b.toNat b.toNat_lt
  rwa [u8_ofNat] at this

section
variable (E : Env) (H : Hp) (Q : AV → Hp → Prop)
theorem ref_digit_pc (b : UInt8) (hQ : Q (.bool (isDig b)) H) : PC Tryd.prog E 67 [.int .u8 (b.toNat : Int)] H Q := by
  refine pc_of_calls (v := .bool (isDig b)) (by kernel_rfl) (fun _ => True) (fun w hw => trivial) (fun w β Rd cargs hS hsz hargs => ?_) (.bool _) rfl hQ
  obtain ⟨u, rfl, hu⟩ := args1 hsz hargs
  obtain rfl := rel_int hu
  refine (ref_digit_ok b w).mono ?_
  rintro e w' ⟨rfl, rfl⟩
  exact ⟨_, rfl, Frm.refl _ _, .bool _⟩
theorem ref_letter_pc (b : UInt8) (hQ : Q (.bool (isLet b)) H) : PC Tryd.prog E 72 [.int .u8 (b.toNat : Int)] H Q := by
  refine pc_enter Tryd.func72 rfl [] [] (by kernel_rfl) (fun hB => ?_)
  have fin : ∀ c : Bool, isLet b = c → Q (.bool c) H := fun c hc => hc ▸ hQ
  by_cases h1 : 65 ≤ b.toNat
  · have t1 : (65 : Int) ≤ b.toNat := by omega
    by_cases h2 : b.toNat ≤ 90
    · have t2 : (b.toNat : Int) ≤ 90 := by omega
      simp [Tryd.ntmps72, Tryd.results72, List.replicate_succ, t1, t2]
      exact aPost_same0 hB rfl (nilV_refl _) (by simp) (fin _ (by simp [isLet, h1, h2]))
    · have t2 : ¬ (b.toNat : Int) ≤ 90 := by omega
      by_cases h3 : 97 ≤ b.toNat
      · have t3 : (97 : Int) ≤ b.toNat := by omega
        by_cases h4 : b.toNat ≤ 122
        · have t4 : (b.toNat : Int) ≤ 122 := by omega
          simp [Tryd.ntmps72, Tryd.results72, List.replicate_succ, t1, t2, t3, t4]
          exact aPost_same0 hB rfl (nilV_refl _) (by simp) (fin _ (by simp [isLet, h3, h4]))
        · have t4 : ¬ (b.toNat : Int) ≤ 122 := by omega
          simp [Tryd.ntmps72, Tryd.results72, List.replicate_succ, t1, t2, t3, t4]
          exact aPost_same0 hB rfl (nilV_refl _) (by simp) (fin _ (by simp [isLet, h2, h4]))
      · have t3 : ¬ (97 : Int) ≤ b.toNat := by omega
        simp [Tryd.ntmps72, Tryd.results72, List.replicate_succ, t1, t2, t3]
        exact aPost_same0 hB rfl (nilV_refl _) (by simp) (fin _ (by simp [isLet, h2, h3]))
  · have t1 : ¬ (65 : Int) ≤ b.toNat := by omega
    have t3 : ¬ (97 : Int) ≤ b.toNat := by omega
    simp [Tryd.ntmps72, Tryd.results72, List.replicate_succ, t1, t3]
    exact aPost_same0 hB rfl (nilV_refl _) (by simp) (fin _ (by simp [isLet, h1]; omega))
def refSignInv (b : UInt8) (H : Hp) (fr : List AV) (H' : Hp) : Prop := H' = H ∧ ∃ i : Nat, i ≤ 15 ∧ (sgs.take i).contains b = false ∧ ∃ x : Nat → AV, fr = [.int .u8 (b.toNat : Int), x 1, x 2, .str sgs, .int .i64 i, x 5, x 6, x 7, x 8, x 9, x 10, x 11, x 12, x 13, x 14, x 15, x 16, x 17, x 18, x 19, x 20, x 21]
theorem ref_sign_pc (b : UInt8) (hQ : Q (.bool (signB b)) H) : PC Tryd.prog E 62 [.int .u8 (b.toNat : Int)] H Q := by
  refine pc_enter Tryd.func62 rfl [] [] (by kernel_rfl) (fun hB => ?_)
  have fin : ∀ c : Bool, signB b = c → Q (.bool c) H := fun c hc => hc ▸ hQ
  simp [Tryd.ntmps62, Tryd.results62, List.replicate_succ]
  refine ref_digit_pc E _ _ b ?_
  cases hd : isDig b
  · simp
    refine ref_letter_pc E _ _ b ?_
    cases hl : isLet b
    · simp
      refine VL_go (refSignInv b H) (fun fr _ => 15 - (ai (aget fr 4)).toNat) ⟨rfl, 0, by omega, rfl, fr_intro (by simp [sgs])⟩ ?_
      rintro fr H' ⟨rfl, i, hi, hall, x, rfl⟩
      have hlen : sgs.length = 15 := rfl
      by_cases h : i < 15
      · obtain ⟨c, hc⟩ : ∃ c, sgs[i]? = some c := ⟨_, List.getElem?_eq_getElem (by rw [hlen]; exact h)⟩
        have hat := lat_eq hc
        have h15 : (i : Int) < 15 := by omega
        have hw : IntKind.i64.wrap ((i : Int) + 1) = i + 1 := wrap_in (by omega) (by omega)
        by_cases he : c = b
        · have t1 : ((c.toNat : Int) == (b.toNat : Int)) = true := by simp [he]
          simp [hlen, h15, hat, t1]
          refine aPost_same0 hB rfl (nilV_refl _) (by simp) (fin _ ?_)
          rw [← sign_refB, show sgs.contains b = true by rw [List.contains_iff_mem, ← he]; exact List.mem_of_getElem? hc]
          simp
        · have t1 : ((c.toNat : Int) == (b.toNat : Int)) = false := by
            rw [beq_eq_false_iff_ne]
            intro hh
            exact he (UInt8.toNat_inj.1 (by omega))
          simp [hlen, h15, hat, t1, hw]
          refine Kloop_normal ⟨rfl, i + 1, by omega, ?_, fr_intro (by simp)⟩ (by simp; omega)
          rw [List.take_add_one, hc]
          simp at hall
          simp [hall]
          exact fun e => he e.symm
      · obtain rfl : i = 15 := by omega
        simp [hlen]
        refine aPost_same0 hB rfl (nilV_refl _) (by simp) (fin _ ?_)
        rw [← sign_refB, hd, hl]
        exact hall
    · simp
      refine aPost_same0 hB rfl (nilV_refl _) (by simp) (fin _ ?_)
      rw [← sign_refB, hl]; simp
  · simp
    refine aPost_same0 hB rfl (nilV_refl _) (by simp) (fin _ ?_)
    rw [← sign_refB, hd]; simp
def refTokInv (l : List UInt8) (H : Hp) (fr : List AV) (H' : Hp) : Prop := H' = H ∧ ∃ i : Nat, i ≤ l.length ∧ (l.take i).all signB = true ∧ ∃ x : Nat → AV, fr = [.str l, x 1, x 2, .int .i64 i, x 4, x 5, x 6, x 7, x 8, x 9, x 10, x 11, x 12, x 13, x 14, x 15, x 16]
theorem ref_token_pc (l : List UInt8) (hl : l.length ≤ cap) (hQ : Q (.bool (tokB l)) H) : PC Tryd.prog E 37 [.str l] H Q := by
  simp only [cap] at hl
  refine pc_enter Tryd.func37 rfl [] [] (by kernel_rfl) (fun hB => ?_)
  have fin : ∀ c : Bool, tokB l = c → Q (.bool c) H := fun c hc => hc ▸ hQ
  simp [Tryd.ntmps37, Tryd.results37, List.replicate_succ]
  refine VL_go (refTokInv l H) (fun fr _ => l.length - (ai (aget fr 3)).toNat) ⟨rfl, 0, by omega, rfl, fr_intro (by simp)⟩ ?_
  rintro fr H' ⟨rfl, i, hi, hall, x, rfl⟩
  by_cases h : i < l.length
  · obtain ⟨b, hb⟩ : ∃ b, l[i]? = some b := ⟨_, List.getElem?_eq_getElem h⟩
    have hat := lat_eq hb
    have hw : IntKind.i64.wrap ((i : Int) + 1) = i + 1 := wrap_in (by omega) (by omega)
    simp [h, hat]
    refine ref_sign_pc E _ _ b ?_
    cases hf : signB b
    · simp [hf]
      exact aPost_same0 hB rfl (nilV_refl _) (by simp) (fin _ (by rw [tokB, all_bad signB l i b hb hf]; rfl))
    · simp [hf, hw]
      refine Kloop_normal ⟨rfl, i + 1, by omega, ?_, fr_intro (by simp)⟩ (by simp; omega)
      rw [all_take signB l i b hb, hall, hf]; rfl
  · have : l.take i = l := List.take_of_length_le (by omega)
    rw [this] at hall
    have ht : tokB l = (l != []) := by rw [tokB, hall, len_ne l 0]; simp
    simp [h]
    exact aPost_same0 hB rfl (nilV_refl _) (by simp) (fin _ ht)

def tokInv (ps : List (List UInt8)) (H : Hp) (fr : List AV) (H' : Hp) : Prop := H' = H ∧ ∃ i : Nat, i ≤ ps.length ∧ (ps.take i).all tokB = true ∧ ∃ x : Nat → AV, fr = [x 0, x 1, x 2, x 3, .sl false 1 (strs ps), x 5, x 6, x 7, x 8, x 9, x 10, x 11, x 12, x 13, x 14, x 15, .sl false 1 (strs ps), .int .i64 ps.length, .int .i64 i, x 19, x 20, x 21, x 22, x 23, x 24, x 25, x 26]
theorem all_step {α : Type} (p : α → Bool) (l : List α) (k : Nat) (x : α) (h : l[k]? = some x) : (l.take (k + 1)).all p = ((l.take k).all p && p x) := by
  rw [List.take_add_one, h, List.all_append]
  simp
theorem all_stop {α : Type} (p : α → Bool) (l : List α) (k : Nat) (x : α) (h : l[k]? = some x) (hp : p x = false) : l.all p = false := by
  rw [List.all_eq_false]
  exact ⟨x, List.mem_of_getElem? h, by rw [hp]; simp⟩
theorem listB_mem {l : List UInt8} {ps : List (List UInt8)} (h : listB l = some ps) : ∀ p ∈ ps, p.length ≤ l.length := by
  unfold listB at h
  cases hc : cut [] l with
  | none => simp [hc] at h
  | some y =>
    simp [hc] at h; subst h
    intro p hp
    unfold keepB at hp
    obtain ⟨q, hq, rfl⟩ := List.mem_map.1 (List.mem_filter.1 hp).1
    have := cut_mem _ [] l y (Nat.le_refl _) hc q hq
    have := trim_le q
    simp at *; omega
theorem tokens_pc (hE : SE E) (l : List UInt8) (hl : l.length ≤ 4194304) (hQ : Q (.tup [.sl false 1 (strs (tokAns l).1), .int .i64 (tokAns l).2]) H) : PC Tryd.prog E 45 [.str l] H Q := by
  refine pc_enter Tryd.func45 rfl [] [] (by kernel_rfl) (fun hB => ?_)
  simp [Tryd.ntmps45, Tryd.results45, List.replicate_succ]
  refine list_pc E _ _ l hl ?_
  have bad : ∀ e : Int, tokAns l = ([], e) → Q (.tup [.sl false 1 [], .int .i64 e]) H := fun e h => by rw [h] at hQ; exact hQ
  cases hb : listB l with
  | none =>
    have ha : listAns l = ([], 14) := by unfold listAns; rw [hb]
    have ht : tokAns l = ([], 14) := by unfold tokAns; rw [hb]
    simp [ha]
    exact aPost_same0 hB rfl (nilV_tup2 1 _ rfl) (by simp) (bad _ ht)
  | some ps =>
    have ha : listAns l = (ps, 0) := by unfold listAns; rw [hb]
    have hpl := listB_len hb
    simp [ha]
    refine VL_go (tokInv ps H) (fun fr _ => ps.length - (ai (aget fr 18)).toNat) ⟨rfl, 0, by omega, rfl, fr_intro (by simp)⟩ ?_
    rintro fr H' ⟨rfl, i, hi, hall, x, rfl⟩
    by_cases h : i < ps.length
    · obtain ⟨p, hp⟩ : ∃ b, ps[i]? = some b := ⟨_, List.getElem?_eq_getElem h⟩
      have hat := strs_at hp
      have hw : IntKind.i64.wrap ((i : Int) + 1) = i + 1 := wrap_in (by omega) (by omega)
      have hpm := listB_mem hb p (List.mem_of_getElem? hp)
      simp [h, hat]
      refine isToken_pc E _ _ hE p (by simp only [cap]; omega) ?_
      cases hf : tokB p
      · have ht : tokAns l = ([], 10) := by unfold tokAns; rw [hb]; simp only [all_stop tokB ps i p hp hf]; rfl
        simp [hf]
        exact aPost_same0 hB rfl (nilV_tup2 1 _ rfl) (by simp) (bad _ ht)
      · simp [hf, hw]
        exact Kloop_normal ⟨rfl, i + 1, by omega, by rw [all_step tokB ps i p hp, hall, hf]; rfl, fr_intro (by simp)⟩ (by simp; omega)
    · rw [List.take_of_length_le (by omega)] at hall
      have ht : tokAns l = (ps, 0) := by unfold tokAns; rw [hb]; simp only [hall]; rfl
      rw [ht] at hQ
      simp [h]
      exact aPost_same0 hB rfl (nilV_refl _) (by simp) hQ
end
end Go.Proofs.YtjphdipbajfojaaDoor

