/- Part 5 of the texts below the law: the abstract machine, the functions that it walks, what they compute. -/
import Derived.Test.YtgofogcfolhonaaRm4
import Derived.Test.YtgofogcfolhonaaProg
import Derived.KernelRfl
import Derived.Test.YtgofogcfolhonaaRows
import Derived.ProofKit
import Derived.OpenShut
import Derived.SizedLaws
import Derived.Deep.Slices
import Derived.Deep.Fields
import Derived.SliceStrings
import Derived.Deep.RegionHeld
import Derived.Shelf.Bytes.SlIndexWhole
import Derived.Lib.IndexBytes
set_option linter.unusedVariables false
set_option linter.unnecessarySimpa false
set_option linter.unusedSimpArgs false
set_option maxRecDepth 100000
namespace Go.Proofs.Ytgofogcfolhonaa
open Go Go.RowKit

/-- A value without a heap. -/
inductive Pln : AV → Prop
  | int (k n) : Pln (.int k n)
  | bool (b) : Pln (.bool b)
  | str (s) : Pln (.str s)
  | agg (l) (h : ∀ x ∈ l, Pln x) : Pln (.agg l)
  | tup (l) (h : ∀ x ∈ l, Pln x) : Pln (.tup l)
attribute [simp] Pln.int Pln.bool Pln.str
@[simp] theorem pln_agg (l : List AV) : Pln (.agg l) ↔ ∀ x ∈ l, Pln x := ⟨fun h => by cases h; assumption, .agg l⟩
@[simp] theorem pln_tup (l : List AV) : Pln (.tup l) ↔ ∀ x ∈ l, Pln x := ⟨fun h => by cases h; assumption, .tup l⟩
theorem Pln.rel {w w' : World} {β β' : Nat → Nat} {Rd Rd' : Nat → Nat → Prop} {v : AV} {c : Value} (h : Rel w β Rd v c) (hp : Pln v) : Rel w' β' Rd' v c := by
  induction h with
  | int | bool => constructor
  | str s l h hm => exact .str s l h hm
  | agg l vs hl hf hr ih =>
    cases hp with
    | agg _ hp => exact .agg l vs hl hf (fun j x u hx hu => ih j x u hx hu (hp x (mem_at hx)))
  | tup l vs hl hf hr ih =>
    cases hp with
    | tup _ hp => exact .tup l vs hl hf (fun j x u hx hu => ih j x u hx hu (hp x (mem_at hx)))
  | _ => cases hp
theorem Pln.bnd {v : AV} {N : Nat} (h : Pln v) : Bnd N v := by
  induction h with
  | int | bool | str => constructor
  | agg l h ih => exact .agg l ih
  | tup l h ih => exact .tup l ih
theorem Pln.free {v : AV} (h : Pln v) : v.free = true := by cases h <;> rfl
/-- y: what is read of x. -/
def seesBx (H : Hp) (x y : AV) : Prop := x = y ∨ (x = .nil ∧ ∃ k, y = .sl false k []) ∨ ∃ i o n c k rows l, x = .bx i o n c k ∧ y = .sl false k rows ∧ rows.length = n ∧ (∀ r ∈ rows, r.length = k) ∧ H[i]? = some l ∧ o + n * k ≤ l.length ∧ (∀ j u, rows.flatten[j]? = some u → l[o + j]? = some u) ∧ (∀ r ∈ rows, ∀ x ∈ r, x.free = true)
def seesL (H : Hp) : List AV → List AV → Prop
  | [], [] => True
  | x :: l, y :: m => seesBx H x y ∧ seesL H l m
  | _, _ => False
theorem seesL_at {H : Hp} : ∀ {l m : List AV}, seesL H l m → l.length = m.length ∧ ∀ (i : Nat) y, m[i]? = some y → ∃ x, l[i]? = some x ∧ seesBx H x y
  | [], [], _ => ⟨rfl, fun i y h => by simp at h⟩
  | x :: l, y :: m, h => by
    obtain ⟨h1, h2⟩ := h
    obtain ⟨h3, h4⟩ := seesL_at h2
    refine ⟨by simp [h3], fun i z hz => ?_⟩
    cases i with
    | zero => simp at hz; subst hz; exact ⟨x, rfl, h1⟩
    | succ i => exact h4 i z (by simpa using hz)
  | [], _ :: _, h => h.elim
  | _ :: _, [], h => h.elim
section
variable {P : Program} {E : Env} {w : World} {β : Nat → Nat} {Rd : Nat → Nat → Prop} {Ow : Nat → Option Hold} {H : Hp}
theorem Rel.alone (hHR : HR E w β Rd Ow H) {x : AV} {u : Value} (h : Rel w β Rd x u) (hb : Bnd 0 x) (hf : x.free = true) : Rel w (fun _ => 0) (old w) x u :=
  h.move hb (fun g o hg => ⟨hHR.rds g o hg, rfl⟩) (fun g hg => by rw [own0_free hf] at hg; cases hg) (Nat.le_refl _) (fun i hi => by omega)
theorem seesBx.rel (hHR : HR E w β Rd Ow H) {x y : AV} {u : Value} (hs : seesBx H x y) (h : Rel w β Rd x u) (hb : Bnd 0 y) (hf : y.free = true) : Rel w (fun _ => 0) (old w) y u := by
  rcases hs with rfl | ⟨rfl, k, rfl⟩ | ⟨i, o, n, c, k, rows, l, rfl, rfl, hn, hk, hl, hlen, hat, hfr⟩
  · exact h.alone hHR hb hf
  · exact (nil1_rel (.inr ⟨rfl, false, k, rfl⟩) (h.alone hHR .nil rfl) (Bnd.nil (N := 0))).1
  · cases h with
    | bx _ _ _ _ _ hnc hm =>
      obtain ⟨T, cs, hbk, hcs, hce⟩ := hHR.box i l hl
      have hlt : β i < w.heap.size := (Array.getElem?_eq_some_iff.1 hbk).1
      have hfl := flat_len hk
      have hB : ∀ r ∈ rows, ∀ x ∈ r, Bnd 0 x := by cases hb; assumption
      have hcell : ∀ j, j < n * k → w.cell? ⟨β i, o + j, none⟩ = ((cs.toList.drop o).take (n * k))[j]? := fun j hj => by
        rw [cell_blk hbk, List.getElem?_take, if_pos hj, List.getElem?_drop, Array.getElem?_toList]
      subst hn
      refine .sl false k rows _ ((cs.toList.drop o).take (rows.length * k)) hk ⟨?_, _, c, rfl, hnc, hm, fun _ => ⟨β i, o, rfl, hcell⟩⟩ (fun g o' n' c' hv j hj => ?_) (fun h => by cases h) (fun r hr x hx => ⟨hfr r hr x hx, ?_⟩) (fun j x u hx hu => ?_)
      · have e : cs.toList.length = cs.size := by simp
        rw [List.length_take, List.length_drop, e]; omega
      · injection hv with h1 h2 h3
        injection h1 with h1
        injection h1 with h1 h4
        subst h1
        exact hlt
      · obtain ⟨j, hj⟩ := List.getElem?_of_mem (List.mem_flatten.2 ⟨r, hr, hx⟩)
        have hlj := hat j x hj
        have hj2 : o + j < cs.size := by have := (List.getElem?_eq_some_iff.1 hlj).1; rw [hcs]; exact this
        exact (hce _ x _ hlj (Array.getElem?_eq_getElem hj2)).2.1
      · obtain ⟨r, hr1, hr2⟩ := flat_mem hx
        have hj : j < rows.length * k := hfl ▸ (List.getElem?_eq_some_iff.1 hx).1
        have hlj := hat j x hx
        have hu2 : cs[o + j]? = some u := by
          rw [List.getElem?_take, if_pos hj, List.getElem?_drop, Array.getElem?_toList] at hu
          exact hu
        exact (hce _ x u hlj hu2).1.alone hHR (hB r hr1 x hr2) (hfr r hr1 x hr2)
/-- THE CALL. -/
theorem PC.pure {f : FuncId} {args args' : List AV} {Q : AV → Hp → Prop} {v : AV} (hB : hasB P f = true) (hs : seesL H args args') (hb : ∀ y ∈ args', Bnd 0 y ∧ y.free = true) (hv : Pln v)
    (h : ∀ (E' : Env) (Q' : AV → Hp → Prop), E'.w0 = E.w0 → E'.Fix = E.Fix → Q' v [] → PC P E' f args' [] Q') (hQ : Q v H) : PC P E f args H Q := by
  refine ⟨hB, fun w β Rd Ow cargs hHR hOw hsz hargs => ?_⟩
  obtain ⟨hl, hat⟩ := seesL_at hs
  have hp := h ⟨E.w0, E.Fix, fun _ => True⟩ (fun u H' => u = v) rfl rfl rfl
  refine (hp.2 w (fun _ => 0) (old w) (fun _ => none) cargs ⟨fun i l hl => by simp at hl, fun i j hi => by simp at hi, fun i hi => by simp at hi, fun g h hg => (by cases hg), fun g o hg => hg, fun l hl => by simp at hl, fun b hb => ⟨(hHR.fix b hb).1, rfl, fun i hi => by simp at hi, (hHR.fix b hb).2.2.2⟩, fun i l t hl => by simp at hl⟩ (fun g h hg => by cases hg) (by omega) (fun t y u hy hu => ?_)).mono ?_
  · obtain ⟨x, hx, hxy⟩ := hat t y hy
    have hyb := hb y (mem_at hy)
    exact ⟨hxy.rel hHR (hargs t x u hx hu).1 hyb.1 hyb.2, hyb.1, hyb.2⟩
  · rintro e w' ⟨c, u, H', β', Rd', Ow', rfl, rfl, hP⟩
    have hF : Frm (fun _ => False) w w' := ⟨hP.os, hP.tape, hP.output, hP.size, fun b hb _ => (hP.frame b hb (fun i hi => by simp at hi) rfl).1⟩
    exact ⟨c, u, H, β, _, Ow, rfl, hQ, post_freshP hHR hF (fun _ _ => False) (fun _ _ h => h.elim) (Pln.rel hP.rel hv) hv.bnd hv.free⟩
end
end Go.Proofs.Ytgofogcfolhonaa

set_option linter.unusedVariables false
set_option linter.unnecessarySimpa false
set_option linter.unusedSimpArgs false
set_option maxRecDepth 100000
namespace Go.Proofs.Ytgofogcfolhonaa
open Go Go.RowKit

section
variable {K : Hp} {c : Nat} (h : c < K.length)
include h
end
theorem getNX {L : Hp} {c d : Nat} (h : d ≠ c) (x : List AV) : (L.set d x)[c]? = L[c]? := List.getElem?_set_ne h
theorem ltX {α : Type} {l : List α} {i : Nat} {x : α} (h : l[i]? = some x) : i < l.length := (List.getElem?_eq_some_iff.1 h).1
theorem bndX_app {N : Nat} {H J : Hp} (h : BndH N H) (h2 : ∀ l ∈ J, ∀ x ∈ l, Bnd N x) : BndH N (H ++ J) := fun l hl x hx => by
  rcases List.mem_append.1 hl with h' | h'
  · exact h l h' x hx
  · exact h2 l h' x hx
theorem bndX_up {N M : Nat} {H : Hp} (h : BndH N H) (hm : N ≤ M) : BndH M H := fun l hl x hx => (h l hl x hx).mono hm
theorem bndX_put {N : Nat} {H : Hp} (h : BndH N H) (c : Nat) {l : List AV} (hl : ∀ x ∈ l, Bnd N x) : BndH N (H.set c l) := fun m hm x hx => by
  rcases List.mem_or_eq_of_mem_set hm with h1 | rfl
  · exact h m h1 x hx
  · exact hl x hx
theorem up_dropX {H H' : Hp} (h : H.length ≤ H'.length) (k : ∀ j, j < H.length → H'[j]? = H[j]?) : H' = H ++ H'.drop H.length := by
  refine List.ext_getElem? fun j => ?_
  by_cases hj : j < H.length
  · rw [List.getElem?_append_left hj, k j hj]
  · rw [List.getElem?_append_right (by omega), List.getElem?_drop]; congr 1; omega
theorem aPost_upX {P : Program} {rs : List ResultVar} {n : Nat} {Q : AV → Hp → Prop} {fr : List AV} {H' : Hp} {v : AV} (h1 : ares P fr H' rs = some v) (h3 : n ≤ H'.length) (h4 : BndH H'.length H') (h5 : Bnd H'.length v) (h6 : Q v H') :
    aPost P rs n Q .ret fr H' := ⟨v, v, H', H', [], h1, nilV_refl _, nilH_refl _, (List.append_nil H').symm, h3, h4, h5, h6⟩
theorem aPost_lawX {P : Program} {rs : List ResultVar} {Q : AV → Hp → Prop} {fr : List AV} {H H' : Hp} {v0 : AV} (hB : BndH H.length H) (hl : H.length ≤ H'.length) (hk : ∀ j, j < H.length → H'[j]? = H[j]?) (h1 : ares P fr H' rs = some v0) (h5 : Bnd H.length v0) (h6 : Q v0 H) :
    aPost P rs H.length Q .ret fr H' := by
  have e := up_dropX hl hk
  rw [e] at h1 ⊢
  exact aPost_same hB h1 (nilV_refl _) h5 h6
/-- A plain cell. -/
def smp (y : AV) : Prop := Pln y ∧ y.one = true
@[simp] theorem smp_int (k n) : smp (.int k n) := ⟨.int _ _, rfl⟩
@[simp] theorem smp_bool (b) : smp (.bool b) := ⟨.bool _, rfl⟩
@[simp] theorem smp_str (s) : smp (.str s) := ⟨.str _, rfl⟩
theorem smp.free {y : AV} (h : smp y) : y.free = true := h.1.free
theorem smp.bnd {y : AV} (h : smp y) (N : Nat) : Bnd N y := h.1.bnd
theorem smp.dis {y : AV} (h : smp y) : y.dis = y := dis_of_free h.free
/-- A slice of n rows of k plain cells, nil or a box's. -/
def BX (K : Hp) (G : Nat → Prop) (k : Nat) (v : AV) (n : Nat) (C : Nat → AV → Prop) : Prop := (n = 0 ∧ v = .nil) ∨ ∃ i c A, G i ∧ v = .bx i 0 n c k ∧ K[i]? = some A ∧ A.length = c * k ∧ n ≤ c ∧ c ≤ maxLen ∧ (∀ y ∈ A, smp y) ∧ ∀ j y, j < n * k → A[j]? = some y → C j y
section
variable {K : Hp} {G : Nat → Prop} {v : AV} {n k : Nat} {C C' : Nat → AV → Prop}
theorem BX.nil : BX K G k .nil 0 C := .inl ⟨rfl, rfl⟩
theorem BX.lt (h : BX K G k v n C) : ∀ i o m c k', v = .bx i o m c k' → G i ∧ i < K.length := fun i o m c k' e => by
  rcases h with ⟨_, rfl⟩ | ⟨i', c', A, h1, rfl, h2, _⟩
  · cases e
  · cases e; exact ⟨h1, ltX h2⟩
theorem BX.of_eq {K' : Hp} {G' : Nat → Prop} (h : BX K G k v n C) (he : ∀ i o m c k', v = .bx i o m c k' → K'[i]? = K[i]?) (hG : ∀ i o m c k', v = .bx i o m c k' → G' i) (hC : ∀ j y, j < n * k → smp y → C j y → C' j y) : BX K' G' k v n C' := by
  rcases h with h | ⟨i, c, A, h1, rfl, h2, h3, h4, h5, h6, h7⟩
  · exact .inl h
  · exact .inr ⟨i, c, A, hG _ _ _ _ _ rfl, rfl, (he _ _ _ _ _ rfl).trans h2, h3, h4, h5, h6, fun j y hj hy => hC j y hj (h6 y (List.mem_of_getElem? hy)) (h7 j y hj hy)⟩
theorem BX.app (h : BX K G k v n C) (J : Hp) : BX (K ++ J) G k v n C :=
  h.of_eq (fun i _ _ _ _ e => List.getElem?_append_left (h.lt _ _ _ _ _ e).2) (fun i _ _ _ _ e => (h.lt _ _ _ _ _ e).1) (fun _ _ _ _ h => h)
theorem BX.put (h : BX K G k v n C) {i : Nat} (hi : ∀ i' o m c k', v = .bx i' o m c k' → i ≠ i') (A : List AV) : BX (K.set i A) G k v n C :=
  h.of_eq (fun i' _ _ _ _ e => getNX (hi _ _ _ _ _ e) _) (fun i _ _ _ _ e => (h.lt _ _ _ _ _ e).1) (fun _ _ _ _ h => h)
theorem BX.facts (h : BX K G k v n C) : v.free = true ∧ v.one = true ∧ v.dis = v ∧ Bnd K.length v := by
  rcases h with ⟨_, rfl⟩ | ⟨i, c, A, h1, rfl, h2, _⟩
  · exact ⟨rfl, rfl, rfl, .nil⟩
  · exact ⟨rfl, rfl, rfl, .bx _ _ _ _ _ (ltX h2)⟩
theorem BX.alen {P : Program} {t : TypeId} (h : BX K G k v n C) (ht : (tsl P t).isSome = true) : Go.Proofs.Ytgofogcfolhonaa.alen P t v = some (.int .i64 n) := by
  rcases h with ⟨rfl, rfl⟩ | ⟨i, c, A, h1, rfl, _⟩ <;> simp [Go.Proofs.Ytgofogcfolhonaa.alen, ht]
theorem mul_rows {n c k : Nat} (h : n ≤ c) : n * k ≤ c * k := Nat.mul_le_mul_right k h
/-- A row is stored. -/
theorem BX.mark {i c : Nat} {A r : List AV} (h : BX K G k (.bx i 0 n c k) n C) (hA : K[i]? = some A) {j : Nat} (hj : j < n) (hr : r.length = k) (hs : ∀ y ∈ r, smp y)
    (hC : ∀ m y, m < n * k → (if j * k ≤ m ∧ m < j * k + k then r[m - j * k]? = some y else C m y) → C' m y) : BX (K.set i (A.take (j * k) ++ (r ++ A.drop (j * k + k)))) G k (.bx i 0 n c k) n C' ∧ ∀ y ∈ A.take (j * k) ++ (r ++ A.drop (j * k + k)), smp y := by
  rcases h with ⟨_, e⟩ | ⟨i', c', A', h1, e, h2, h3, h4, h5, h6, h7⟩
  · cases e
  cases e
  rw [hA] at h2; cases h2
  have hjk : j * k + k ≤ c * k := by have := mul_rows (k := k) (show j + 1 ≤ c by omega); rw [Nat.add_mul] at this; omega
  have hl : (A.take (j * k)).length = j * k := by rw [List.length_take]; omega
  have hsm : ∀ y ∈ A.take (j * k) ++ (r ++ A.drop (j * k + k)), smp y := fun y hy => by
    rcases List.mem_append.1 hy with h | h
    · exact h6 y (List.mem_of_mem_take h)
    · rcases List.mem_append.1 h with h | h
      · exact hs y h
      · exact h6 y (List.mem_of_mem_drop h)
  refine ⟨.inr ⟨i, c, _, h1, rfl, List.getElem?_set_self (ltX hA), ?_, h4, h5, hsm, fun m y hm hy => hC m y hm ?_⟩, hsm⟩
  · simp only [List.length_append, hl, hr, List.length_drop]; omega
  · by_cases h8 : m < j * k
    · rw [if_neg (by omega)]
      rw [List.getElem?_append_left (by omega), List.getElem?_take_of_lt h8] at hy
      exact h7 m y hm hy
    · rw [List.getElem?_append_right (by omega), hl] at hy
      by_cases h9 : m < j * k + k
      · rw [if_pos ⟨by omega, h9⟩]
        rw [List.getElem?_append_left (by omega)] at hy
        exact hy
      · rw [if_neg (by omega)]
        rw [List.getElem?_append_right (by omega), hr, List.getElem?_drop] at hy
        exact h7 m y hm (by rw [← hy]; congr 1; omega)
/-- A row more, where there is room. -/
theorem BX.room {i c : Nat} {A r : List AV} (h : BX K G k (.bx i 0 n c k) n C) (hA : K[i]? = some A) (hrm : n + 1 ≤ c) (hr : r.length = k) (hs : ∀ y ∈ r, smp y)
    (hC : ∀ m y, m < (n + 1) * k → (if n * k ≤ m then r[m - n * k]? = some y else C m y) → C' m y) : BX (K.set i (A.take (n * k) ++ (r ++ A.drop (n * k + k)))) G k (.bx i 0 (n + 1) c k) (n + 1) C' ∧ ∀ y ∈ A.take (n * k) ++ (r ++ A.drop (n * k + k)), smp y := by
  rcases h with ⟨_, e⟩ | ⟨i', c', A', h1, e, h2, h3, h4, h5, h6, h7⟩
  · cases e
  cases e
  rw [hA] at h2; cases h2
  have hjk : n * k + k ≤ c * k := by have := mul_rows (k := k) hrm; rw [Nat.add_mul] at this; omega
  have hl : (A.take (n * k)).length = n * k := by rw [List.length_take]; omega
  have hsm : ∀ y ∈ A.take (n * k) ++ (r ++ A.drop (n * k + k)), smp y := fun y hy => by
    rcases List.mem_append.1 hy with h | h
    · exact h6 y (List.mem_of_mem_take h)
    · rcases List.mem_append.1 h with h | h
      · exact hs y h
      · exact h6 y (List.mem_of_mem_drop h)
  refine ⟨.inr ⟨i, c, _, h1, rfl, List.getElem?_set_self (ltX hA), ?_, hrm, h5, hsm, fun m y hm hy => hC m y hm ?_⟩, hsm⟩
  · simp only [List.length_append, hl, hr, List.length_drop]; omega
  · by_cases h8 : m < n * k
    · rw [if_neg (by omega)]
      rw [List.getElem?_append_left (by omega), List.getElem?_take_of_lt h8] at hy
      exact h7 m y h8 hy
    · rw [if_pos (by omega)]
      rw [List.getElem?_append_right (by omega), hl, List.getElem?_append_left (by rw [hr]; rw [Nat.add_mul] at hm; omega)] at hy
      exact hy
/-- .. and in a new box: L: what stood there. -/
theorem BX.grow {c' : Nat} {L r z : List AV} (hL : L.length = n * k) (hLs : ∀ y ∈ L, smp y) (hLC : ∀ m y, m < n * k → L[m]? = some y → C m y) (hc1 : n + 1 ≤ c') (hc2 : c' ≤ maxLen) (hG : G K.length) (hr : r.length = k) (hs : ∀ y ∈ r, smp y) (hz : z.length = k) (hzs : ∀ y ∈ z, smp y)
    (hC : ∀ m y, m < (n + 1) * k → (if n * k ≤ m then r[m - n * k]? = some y else C m y) → C' m y) : BX (K ++ [L ++ (r ++ (List.replicate (c' - (n + 1)) z).flatten)]) G k (.bx K.length 0 (n + 1) c' k) (n + 1) C' ∧ ∀ y ∈ L ++ (r ++ (List.replicate (c' - (n + 1)) z).flatten), smp y := by
  have hsm : ∀ y ∈ L ++ (r ++ (List.replicate (c' - (n + 1)) z).flatten), smp y := fun y hy => by
    rcases List.mem_append.1 hy with h | h
    · exact hLs y h
    · rcases List.mem_append.1 h with h | h
      · exact hs y h
      · obtain ⟨q, hq1, hq2⟩ := List.mem_flatten.1 h
        rw [(List.mem_replicate.1 hq1).2] at hq2
        exact hzs y hq2
  refine ⟨.inr ⟨K.length, c', L ++ (r ++ (List.replicate (c' - (n + 1)) z).flatten), hG, rfl, by simp, ?_, hc1, hc2, hsm, fun m y hm hy => hC m y hm ?_⟩, hsm⟩
  · have hf : (List.replicate (c' - (n + 1)) z).flatten.length = (c' - (n + 1)) * k := by
      rw [flat_len (k := k) (fun q hq => by rw [(List.mem_replicate.1 hq).2]; exact hz), List.length_replicate]
    rw [List.length_append, List.length_append, hL, hr, hf, ← Nat.add_assoc, ← Nat.succ_mul, ← Nat.add_mul]
    congr 1; omega
  · by_cases h8 : m < n * k
    · rw [if_neg (by omega)]
      rw [List.getElem?_append_left (by omega)] at hy
      exact hLC m y h8 hy
    · rw [if_pos (by omega)]
      rw [List.getElem?_append_right (by omega), hL, List.getElem?_append_left (by rw [hr]; rw [Nat.add_mul] at hm; omega)] at hy
      exact hy
/-- What stands in a slice. -/
theorem BX.cells {i c : Nat} {A : List AV} (h : BX K G k (.bx i 0 n c k) n C) (hA : K[i]? = some A) : (A.take (n * k)).length = n * k ∧ (∀ y ∈ A, smp y) ∧ n * k ≤ A.length ∧ A.length = c * k ∧ n ≤ c ∧ c ≤ maxLen ∧ G i ∧ (∀ m y, m < n * k → (A.take (n * k))[m]? = some y → C m y) ∧ ∀ m y, m < n * k → A[m]? = some y → C m y := by
  rcases h with ⟨_, e⟩ | ⟨i', c', A', h1, e, h2, h3, h4, h5, h6, h7⟩
  · cases e
  cases e
  rw [hA] at h2; cases h2
  have := mul_rows (k := k) h4
  exact ⟨by rw [List.length_take]; omega, h6, by omega, h3, h4, h5, h1, fun m y hm hy => by rw [List.getElem?_take_of_lt hm] at hy; exact h7 m y hm hy, h7⟩
end
end Go.Proofs.Ytgofogcfolhonaa

set_option linter.unusedVariables false
namespace Go.Proofs.Ytgofogcfolhonaa
open Go
@[simp] theorem tf_sz3 : tsz Try.prog 3 = some 1 := by kernel_rfl
@[simp] theorem tf_row3 : trow Try.prog 3 = some false := by kernel_rfl
@[simp] theorem tf_bool4 : tbool Try.prog 4 = true := by kernel_rfl
@[simp] theorem tf_sz5 : tsz Try.prog 5 = some 1 := by kernel_rfl
@[simp] theorem tf_by5 : tby Try.prog 5 = some 1 := by kernel_rfl
@[simp] theorem tf_row5 : trow Try.prog 5 = some false := by kernel_rfl
@[simp] theorem tf_int5 : tint Try.prog 5 = some .u8 := by kernel_rfl
@[simp] theorem tf_zc5 : tzc Try.prog 5 = some [.int .u8 0] := by kernel_rfl
@[simp] theorem tf_str9 : tstr Try.prog 9 = true := by kernel_rfl
@[simp] theorem tf_sl64 : tsl Try.prog 64 = some 66 := by kernel_rfl
@[simp] theorem tf_el64 : tel Try.prog 64 = some 1 := by kernel_rfl
@[simp] theorem tf_ptr65 : tptr Try.prog 65 = true := by kernel_rfl
@[simp] theorem tf_sz66 : tsz Try.prog 66 = some 1 := by kernel_rfl
@[simp] theorem tf_by66 : tby Try.prog 66 = some 24 := by kernel_rfl
@[simp] theorem tf_row66 : trow Try.prog 66 = some false := by kernel_rfl
@[simp] theorem tf_sl66 : tsl Try.prog 66 = some 5 := by kernel_rfl
@[simp] theorem tf_el66 : tel Try.prog 66 = some 1 := by kernel_rfl
@[simp] theorem tf_bytes66 : tbytes Try.prog 66 = true := by kernel_rfl
@[simp] theorem tf_zc66 : tzc Try.prog 66 = some [.nil] := by kernel_rfl
@[simp] theorem tf_sz68 : tsz Try.prog 68 = some 3 := by kernel_rfl
@[simp] theorem tf_row68 : trow Try.prog 68 = some true := by kernel_rfl
@[simp] theorem tf_zc68 : tzc Try.prog 68 = some [.int .i64 0, .nil, .int .i64 0] := by kernel_rfl
@[simp] theorem tf_pl68 : tplaces Try.prog 68 = some [(0, 1), (1, 1), (2, 1)] := by kernel_rfl
@[simp] theorem tf_fld68x0 : tfld Try.prog 68 0 = some (0, 1, false) := by kernel_rfl
@[simp] theorem tf_fld68x1 : tfld Try.prog 68 1 = some (1, 1, false) := by kernel_rfl
@[simp] theorem tf_fld68x2 : tfld Try.prog 68 2 = some (2, 1, false) := by kernel_rfl
@[simp] theorem tf_sl83 : tsl Try.prog 83 = some 85 := by kernel_rfl
@[simp] theorem tf_el83 : tel Try.prog 83 = some 4 := by kernel_rfl
@[simp] theorem tf_sz85 : tsz Try.prog 85 = some 4 := by kernel_rfl
@[simp] theorem tf_row85 : trow Try.prog 85 = some true := by kernel_rfl
@[simp] theorem tf_zc85 : tzc Try.prog 85 = some [.int .i64 0, .int .i64 0, .int .i64 0, .nil] := by kernel_rfl
@[simp] theorem tf_fld85x0 : tfld Try.prog 85 0 = some (0, 1, false) := by kernel_rfl
@[simp] theorem tf_fld85x1 : tfld Try.prog 85 1 = some (1, 1, false) := by kernel_rfl
@[simp] theorem tf_fld85x2 : tfld Try.prog 85 2 = some (2, 1, false) := by kernel_rfl
@[simp] theorem tf_fld85x3 : tfld Try.prog 85 3 = some (3, 1, false) := by kernel_rfl
@[simp] theorem tf_zc117 : tzc Try.prog 117 = some [.nil, .int .i64 0, .int .i64 0] := by kernel_rfl
@[simp] theorem tf_pl117 : tplaces Try.prog 117 = some [(0, 1), (1, 1), (2, 1)] := by kernel_rfl
@[simp] theorem tf_fld117x0 : tfld Try.prog 117 0 = some (0, 1, false) := by kernel_rfl
@[simp] theorem tf_fld117x1 : tfld Try.prog 117 1 = some (1, 1, false) := by kernel_rfl
@[simp] theorem tf_fld117x2 : tfld Try.prog 117 2 = some (2, 1, false) := by kernel_rfl
end Go.Proofs.Ytgofogcfolhonaa

set_option linter.unusedVariables false
set_option linter.unnecessarySimpa false
set_option linter.unusedSimpArgs false
set_option linter.unusedSectionVars false
set_option maxRecDepth 100000
namespace Go.Proofs.Ytgofogcfolhonaa
open Go Go.RowKit

/-- Bytes as cells. -/
def c8 (l : List UInt8) : List AV := l.map fun b => .int .u8 (b.toNat : Int)
@[simp] theorem c8_nil : c8 [] = [] := rfl
theorem c8_len (l : List UInt8) : (c8 l).length = l.length := List.length_map ..
theorem c8_take (l : List UInt8) (n : Nat) : (c8 l).take n = c8 (l.take n) := (List.map_take ..).symm
theorem c8_drop (l : List UInt8) (n : Nat) : (c8 l).drop n = c8 (l.drop n) := (List.map_drop ..).symm
theorem c8_app (l m : List UInt8) : c8 (l ++ m) = c8 l ++ c8 m := List.map_append ..
theorem c8_smp (l : List UInt8) : ∀ y ∈ c8 l, smp y := fun y hy => by obtain ⟨b, _, rfl⟩ := List.mem_map.1 hy; exact smp_int _ _
theorem c8_free (l : List UInt8) : (c8 l).all (·.free) = true := List.all_eq_true.2 fun y hy => (c8_smp l y hy).free
theorem c8_bts (l : List UInt8) : (c8 l).map (fun x => [x]) = bts l := by simp [c8, bts]
theorem bts_c8 (l : List UInt8) : (bts l).flatten = c8 l := by rw [← c8_bts, flat1]
theorem bts_takeE (l : List UInt8) (n : Nat) : (bts l).take n = bts (l.take n) := (List.map_take ..).symm
/-- What waits stands in the store. -/
def Wait (st : List UInt8) (cap q : Nat) (l : List UInt8) : Prop := ∀ j x, l[j]? = some x → st[(q + j) % cap]? = some x
/-- A ring: box i its struct, box s its store. -/
def RB (K : Hp) (i s cap q : Nat) (l : List UInt8) : Prop := i ≠ s ∧ 0 < cap ∧ cap ≤ 1048576 ∧ q < cap ∧ l.length ≤ cap ∧ ∃ st : List UInt8, st.length = cap ∧ K[i]? = some [.bx s 0 cap cap 1, .int .i64 q, .int .i64 l.length] ∧ K[s]? = some (c8 st) ∧ Wait st cap q l
def RN (K : Hp) (r : Option (Nat × Nat)) (cap q : Nat) (l : List UInt8) : Prop := match r with
  | none => cap = 0 ∧ q = 0 ∧ l = []
  | some (i, s) => RB K i s cap q l
def nptr (r : Option (Nat × Nat)) : AV := .ptr (r.map fun x => (x.1, 0))
theorem RB.of_eq {K K' : Hp} {i s cap q : Nat} {l : List UInt8} (h : RB K i s cap q l) (h1 : K'[i]? = K[i]?) (h2 : K'[s]? = K[s]?) : RB K' i s cap q l := by
  obtain ⟨a, b, c, d, e, st, f, g, h', k⟩ := h
  exact ⟨a, b, c, d, e, st, f, h1.trans g, h2.trans h', k⟩
theorem RB.lt {K : Hp} {i s cap q : Nat} {l : List UInt8} (h : RB K i s cap q l) : i < K.length ∧ s < K.length := by
  obtain ⟨a, b, c, d, e, st, f, g, h', k⟩ := h
  exact ⟨ltX g, ltX h'⟩
theorem RN.of_eq {K K' : Hp} {r : Option (Nat × Nat)} {cap q : Nat} {l : List UInt8} (h : RN K r cap q l) (he : ∀ i s, r = some (i, s) → K'[i]? = K[i]? ∧ K'[s]? = K[s]?) : RN K' r cap q l := by
  match r, h with
  | none, h => exact h
  | some (i, s), h => exact RB.of_eq h (he i s rfl).1 (he i s rfl).2
theorem RN.lt {K : Hp} {r : Option (Nat × Nat)} {cap q : Nat} {l : List UInt8} (h : RN K r cap q l) : ∀ i s, r = some (i, s) → i < K.length ∧ s < K.length := fun i s e => by subst e; exact RB.lt h
theorem RN.app {K : Hp} {r : Option (Nat × Nat)} {cap q : Nat} {l : List UInt8} (h : RN K r cap q l) (J : Hp) : RN (K ++ J) r cap q l :=
  h.of_eq fun i s e => ⟨List.getElem?_append_left (h.lt i s e).1, List.getElem?_append_left (h.lt i s e).2⟩
theorem RN.put {K : Hp} {r : Option (Nat × Nat)} {cap q : Nat} {l : List UInt8} (h : RN K r cap q l) {j : Nat} (hj : ∀ i s, r = some (i, s) → j ≠ i ∧ j ≠ s) (x : List AV) : RN (K.set j x) r cap q l :=
  h.of_eq fun i s e => ⟨getNX (hj i s e).1 _, getNX (hj i s e).2 _⟩
theorem RN.fits {K : Hp} {r : Option (Nat × Nat)} {cap q : Nat} {l : List UInt8} (h : RN K r cap q l) : cap ≤ 1048576 ∧ l.length ≤ cap ∧ q ≤ cap ∧ (r = none → l = []) := by
  match r, h with
  | none, ⟨h1, h2, h3⟩ => subst h1; subst h2; subst h3; exact ⟨by omega, by simp, by omega, fun _ => rfl⟩
  | some (i, s), h =>
    obtain ⟨a, b, c, d, e, _⟩ := h
    exact ⟨c, e, by omega, nofun⟩
/-- The two parts of what waits. -/
theorem wait_parts {st l : List UInt8} {cap q : Nat} (hst : st.length = cap) (hq : q < cap) (hl : l.length ≤ cap) (h : Wait st cap q l) : (st.drop q).take (Nat.min l.length (cap - q)) = l.take (Nat.min l.length (cap - q)) ∧ st.take (l.length - Nat.min l.length (cap - q)) = l.drop (Nat.min l.length (cap - q)) := by
  obtain ⟨ka, hka⟩ : ∃ ka, Nat.min l.length (cap - q) = ka := ⟨_, rfl⟩
  rw [hka]
  have h1 : ka ≤ l.length := by rw [← hka]; exact Nat.min_le_left _ _
  have h2 : ka ≤ cap - q := by rw [← hka]; exact Nat.min_le_right _ _
  have h3 : ka = l.length ∨ ka = cap - q := by
    rw [← hka]
    rcases Nat.le_total l.length (cap - q) with h | h
    · exact .inl (Nat.min_eq_left h)
    · exact .inr (Nat.min_eq_right h)
  constructor
  · refine List.ext_getElem? fun j => ?_
    by_cases hj : j < ka
    · rw [List.getElem?_take_of_lt hj, List.getElem?_take_of_lt hj, List.getElem?_drop]
      have := h j _ (List.getElem?_eq_getElem (by omega))
      rw [Nat.mod_eq_of_lt (by omega)] at this
      rw [this, List.getElem?_eq_getElem (by omega)]
    · rw [List.getElem?_eq_none (by rw [List.length_take, List.length_drop]; omega), List.getElem?_eq_none (by rw [List.length_take]; omega)]
  · refine List.ext_getElem? fun j => ?_
    by_cases hj : j < l.length - ka
    · rw [List.getElem?_take_of_lt hj, List.getElem?_drop]
      have := h (ka + j) _ (List.getElem?_eq_getElem (by omega))
      rw [show (q + (ka + j)) % cap = j by
        rcases h3 with h3 | h3
        · omega
        · rw [h3, show q + (cap - q + j) = cap + j by omega, Nat.add_mod_left, Nat.mod_eq_of_lt (by omega)]] at this
      rw [this, List.getElem?_eq_getElem (by omega)]
    · rw [List.getElem?_eq_none (by rw [List.length_take]; omega), List.getElem?_eq_none (by rw [List.length_drop]; omega)]
/-- What the store is behind a Put of p, p short enough. -/
def putS (st : List UInt8) (cap at' : Nat) (p : List UInt8) : List UInt8 :=
  if at' + p.length ≤ cap then st.take at' ++ p ++ st.drop (at' + p.length) else p.drop (cap - at') ++ (st.take at').drop (p.length - (cap - at')) ++ p.take (cap - at')
theorem putS_len {st p : List UInt8} {cap a : Nat} (hst : st.length = cap) (ha : a < cap) (hp : p.length ≤ cap) : (putS st cap a p).length = cap := by
  unfold putS
  split <;> simp only [List.length_append, List.length_take, List.length_drop] <;> omega
theorem putS_at {st p : List UInt8} {cap a : Nat} (hst : st.length = cap) (ha : a < cap) (hp : p.length ≤ cap) (j : Nat) (hj : j < cap) : (putS st cap a p)[j]? = if a ≤ j ∧ j - a < p.length then p[j - a]? else if j < a ∧ j + cap - a < p.length then p[j + cap - a]? else st[j]? := by
  unfold putS
  by_cases h1 : a + p.length ≤ cap
  · rw [if_pos h1]
    by_cases h2 : a ≤ j ∧ j - a < p.length
    · rw [if_pos h2, List.getElem?_append_left (by rw [List.length_append, List.length_take]; omega), List.getElem?_append_right (by rw [List.length_take]; omega), List.length_take]
      congr 1; omega
    · rw [if_neg h2, if_neg (by omega)]
      by_cases h3 : j < a
      · rw [List.append_assoc, List.getElem?_append_left (by rw [List.length_take]; omega), List.getElem?_take_of_lt h3]
      · rw [List.getElem?_append_right (by rw [List.length_append, List.length_take]; omega), List.getElem?_drop, List.length_append, List.length_take]
        congr 1; omega
  · rw [if_neg h1]
    by_cases h2 : a ≤ j
    · rw [if_pos ⟨h2, by omega⟩, List.getElem?_append_right (by simp only [List.length_append, List.length_take, List.length_drop]; omega)]
      simp only [List.length_append, List.length_take, List.length_drop]
      rw [List.getElem?_take_of_lt (by omega)]
      congr 1; omega
    · rw [if_neg (by omega)]
      by_cases h3 : j + cap - a < p.length
      · rw [if_pos ⟨by omega, h3⟩, List.append_assoc, List.getElem?_append_left (by rw [List.length_drop]; omega), List.getElem?_drop]
        congr 1; omega
      · rw [if_neg (by omega), List.getElem?_append_left (by simp only [List.length_append, List.length_take, List.length_drop]; omega), List.getElem?_append_right (by rw [List.length_drop]; omega), List.length_drop, List.getElem?_drop, List.getElem?_take_of_lt (by omega)]
        congr 1; omega
theorem wait_put {st l p : List UInt8} {cap q : Nat} (hst : st.length = cap) (hq : q < cap) (hl : l.length + p.length ≤ cap) (h : Wait st cap q l) : Wait (putS st cap ((q + l.length) % cap) p) cap q (l ++ p) := fun j x hx => by
  have hj : j < l.length + p.length := by have := ltX hx; rw [List.length_append] at this; exact this
  have e1 : (q + l.length) % cap = if q + l.length < cap then q + l.length else q + l.length - cap := by
    split
    · exact Nat.mod_eq_of_lt (by assumption)
    · rw [Nat.mod_eq_sub_mod (by omega), Nat.mod_eq_of_lt (by omega)]
  have e2 : (q + j) % cap = if q + j < cap then q + j else q + j - cap := by
    split
    · exact Nat.mod_eq_of_lt (by assumption)
    · rw [Nat.mod_eq_sub_mod (by omega), Nat.mod_eq_of_lt (by omega)]
  rw [putS_at hst (Nat.mod_lt _ (by omega)) (by omega) _ (Nat.mod_lt _ (by omega))]
  by_cases h1 : j < l.length
  · rw [List.getElem?_append_left h1] at hx
    rw [← h j x hx]
    rw [e1, e2]
    split <;> split <;> (rw [if_neg (by omega), if_neg (by omega)])
  · rw [List.getElem?_append_right (by omega)] at hx
    rw [← hx, e1, e2]
    split <;> split
    · rw [if_pos (by omega)]; congr 1; omega
    · rw [if_neg (by omega), if_pos (by omega)]; congr 1; omega
    · omega
    · rw [if_pos (by omega)]; congr 1; omega
theorem wait_drop {st l : List UInt8} {cap q n : Nat} (h : Wait st cap q l) : Wait st cap ((q + n) % cap) (l.drop n) := fun j x hx => by
  rw [List.getElem?_drop] at hx
  rw [← h _ x hx]
  congr 1
  rw [Nat.mod_add_mod]; congr 1; omega
end Go.Proofs.Ytgofogcfolhonaa

set_option linter.unusedVariables false
set_option linter.unusedSimpArgs false
namespace Go.Proofs.Ytgofogcfolhonaa
open Go Go.RowKit

theorem blk_lt {w : World} {b T : Nat} {c : Array Value} {fr : Nat × Nat} (h : w.heap[b]? = some (.cells c T fr)) : b < w.heap.size := by
  rcases Nat.lt_or_ge b w.heap.size with h' | h'
  · exact h'
  · rw [Array.getElem?_eq_none h'] at h; cases h
theorem three_cell {w : World} {b T : Nat} {u v x : Value} (h : w.heap[b]? = some (.cells #[u, v, x] T (0, 0))) : w.cell? ⟨b, 0, none⟩ = some u ∧ w.cell? ⟨b, 1, none⟩ = some v ∧ w.cell? ⟨b, 2, none⟩ = some x := by simp [World.cell?, h]
theorem blk_free {w : World} {b T : Nat} {c : Array Value} (h : w.heap[b]? = some (.cells c T (0, 0))) (o : Nat) : w.frozen? ⟨b, o, none⟩ = false := by simp [World.frozen?, h]
theorem blk_set {w : World} {b T : Nat} {c : Array Value} {fr : Nat × Nat} (h : w.heap[b]? = some (.cells c T fr)) (i : Nat) (x : Value) : (w.setCell ⟨b, i, none⟩ x).heap[b]? = some (.cells (c.setIfInBounds i x) T fr) := by
  have hlt := blk_lt h
  have h' : w.heap[b] = .cells c T fr := by simpa [Array.getElem?_eq_getElem hlt] using h
  show (w.heap.modify b _)[b]? = _
  rw [Array.getElem?_eq_getElem (by simpa using hlt), Array.getElem_modify_self, h']
  rfl

/-- A RING: block b is its struct, block g its store; the bytes l wait, from the place h on. -/
structure RAt (w : World) (b T g cap h : Nat) (l : List UInt8) : Prop where
  blk : w.heap[b]? = some (.cells #[.slice (some ⟨g, 0, none⟩) cap cap, .int .i64 (h : Int), .int .i64 (l.length : Int)] T (0, 0))
  ne : b ≠ g
  pos : 0 < cap
  max : cap ≤ 1048576
  head : h < cap
  fits : l.length ≤ cap
  store : ∃ st, OSl w 1 (.slice (some ⟨g, 0, none⟩) cap cap) cap (u8s st) ∧ ∀ i x, l[i]? = some x → st[(h + i) % cap]? = some x

theorem RAt.frm {S : Nat → Prop} {w w' : World} {b T g cap h : Nat} {l : List UInt8} (r : RAt w b T g cap h l) (hf : Frm S w w') (h1 : ¬ S b) (h2 : ¬ S g) : RAt w' b T g cap h l :=
  ⟨(hf.block b (blk_lt r.blk) h1).trans r.blk, r.ne, r.pos, r.max, r.head, r.fits, let ⟨st, ho, hs⟩ := r.store; ⟨st, ho.frm hf (fun k hk => by simp [Value.ownBlock] at hk; subst hk; exact h2), hs⟩⟩
theorem RAt.same {w w' : World} {b T g cap h : Nat} {l : List UInt8} (r : RAt w b T g cap h l) (hf : Frm (fun _ => False) w w') : RAt w' b T g cap h l := r.frm hf (fun h => h) (fun h => h)
theorem RAt.glt {w : World} {b T g cap h : Nat} {l : List UInt8} (r : RAt w b T g cap h l) : g < w.heap.size := let ⟨_, ho, _⟩ := r.store; ho.lt g rfl

set_option maxRecDepth 100000 in
set_option maxHeartbeats 400000 in
theorem ring_len {w : World} {b T g cap h : Nat} {l : List UInt8} (r : RAt w b T g cap h l) :
    Calls Try.prog 42 #[.pointer (some ⟨b, 0, none⟩)] w fun e w' => e = .returned (.int .i64 l.length) ∧ w = w' := by
  obtain ⟨c0, c1, c2⟩ := three_cell r.blk
  clear r
  go_enter Try.func42, Try.ntmps42
  go_wp2
  go_ret
  exact ⟨rfl, rfl⟩

set_option maxRecDepth 100000 in
set_option maxHeartbeats 400000 in
theorem ring_cap {w : World} {b T g cap h : Nat} {l : List UInt8} (r : RAt w b T g cap h l) :
    Calls Try.prog 66 #[.pointer (some ⟨b, 0, none⟩)] w fun e w' => e = .returned (.int .i64 cap) ∧ w = w' := by
  obtain ⟨c0, c1, c2⟩ := three_cell r.blk
  clear r
  go_enter Try.func66, Try.ntmps66
  go_wp2
  go_ret
  exact ⟨rfl, rfl⟩

set_option maxRecDepth 100000 in
set_option maxHeartbeats 400000 in
theorem ring_head {w : World} {b T g cap h : Nat} {l : List UInt8} (r : RAt w b T g cap h l) :
    Calls Try.prog 51 #[.pointer (some ⟨b, 0, none⟩)] w fun e w' => e = .returned (.int .i64 h) ∧ w = w' := by
  obtain ⟨c0, c1, c2⟩ := three_cell r.blk
  clear r
  go_enter Try.func51, Try.ntmps51
  go_wp2
  go_ret
  exact ⟨rfl, rfl⟩

set_option maxRecDepth 100000 in
set_option maxHeartbeats 400000 in
theorem ring_free {w : World} {b T g cap h : Nat} {l : List UInt8} (r : RAt w b T g cap h l) :
    Calls Try.prog 46 #[.pointer (some ⟨b, 0, none⟩)] w fun e w' => e = .returned (.int .i64 ((cap - l.length : Nat) : Int)) ∧ w = w' := by
  have h1 := r.fits
  have h2 := r.max
  go_enter Try.func46, Try.ntmps46
  go_wp2_with fail
  refine (ring_cap r).mono ?_
  rintro e w' ⟨rfl, rfl⟩
  go_wp2_with fail
  refine (ring_len r).mono ?_
  rintro e w' ⟨rfl, rfl⟩
  go_wp2
  go_ret
  exact ⟨by simp <;> omega, rfl⟩

set_option maxRecDepth 100000 in
set_option maxHeartbeats 400000 in
theorem ring_place {w : World} {b T g cap h : Nat} {l : List UInt8} (r : RAt w b T g cap h l) (i : Nat) (hi : i ≤ 1048576) :
    Calls Try.prog 62 #[.pointer (some ⟨b, 0, none⟩), .int .i64 i] w fun e w' => e = .returned (.int .i64 ((h + i) % cap : Nat)) ∧ w' = w.drew := by
  obtain ⟨c0, c1, c2⟩ := three_cell r.blk
  have h1 := r.head
  have h2 := r.max
  have h3 := r.pos
  have hm : ((h : Int) + i).tmod cap = ((h + i) % cap : Nat) := by
    rw [Int.tmod_eq_emod_of_nonneg (by omega)]; simp
  clear r
  go_enter Try.func62, Try.ntmps62
  go_wp2
  refine region_text [1, 5, 7, 10] (by kernel_rfl) (by kernel_rfl) (fun K hK => ?_)
  go_wp2
  refine ⟨by first | kernel_rfl | (simp [finB, condB]; refine ⟨?_, ?_, ?_, ?_⟩ <;> rfl), ?_⟩
  go_wp2
  go_ret
  exact ⟨rfl, rfl⟩
end Go.Proofs.Ytgofogcfolhonaa

set_option linter.unusedVariables false
set_option linter.unusedSimpArgs false
namespace Go.Proofs.Ytgofogcfolhonaa
open Go Go.RowKit

theorem mod2 (x c : Nat) (hc : 0 < c) (h : x < 2 * c) : x % c = if x < c then x else x - c := by
  by_cases hx : x < c
  · rw [if_pos hx, Nat.mod_eq_of_lt hx]
  · rw [if_neg hx, Nat.mod_eq_sub_mod (by omega), Nat.mod_eq_of_lt (by omega)]

theorem put_plain (st l p : List UInt8) (cap h : Nat) (hst : st.length = cap) (hh : h < cap) (hl : l.length + p.length ≤ cap) (hs : ∀ i x, l[i]? = some x → st[(h + i) % cap]? = some x) (hp : 0 < p.length) (at' f : Nat) (hat : at' = (h + l.length) % cap) (hf : f = Nat.min p.length (cap - at')) :
    ∀ i x, (l ++ p)[i]? = some x → (splice (splice st at' (p.take f)) 0 (p.drop f))[(h + i) % cap]? = some x := by
  intro i x hx
  have hil := (List.getElem?_eq_some_iff.1 hx).1
  rw [List.length_append] at hil
  have hm1 := mod2 (h + l.length) cap (by omega) (by omega)
  have hm2 := mod2 (h + i) cap (by omega) (by omega)
  rw [← hat] at hm1
  obtain ⟨k, hk⟩ : ∃ k, (h + i) % cap = k := ⟨_, rfl⟩
  rw [hk] at hm2
  have hk' : (h + i < cap ∧ k = h + i) ∨ (¬ h + i < cap ∧ k = h + i - cap) := by
    by_cases h1 : h + i < cap
    · rw [if_pos h1] at hm2; exact .inl ⟨h1, hm2⟩
    · rw [if_neg h1] at hm2; exact .inr ⟨h1, hm2⟩
  have ha' : (h + l.length < cap ∧ at' = h + l.length) ∨ (¬ h + l.length < cap ∧ at' = h + l.length - cap) := by
    by_cases h1 : h + l.length < cap
    · rw [if_pos h1] at hm1; exact .inl ⟨h1, hm1⟩
    · rw [if_neg h1] at hm1; exact .inr ⟨h1, hm1⟩
  have hf1 : f ≤ p.length ∧ f ≤ cap - at' ∧ (f = p.length ∨ f = cap - at') := by
    rw [hf]
    exact ⟨Nat.min_le_left _ _, Nat.min_le_right _ _, by
      rcases Nat.le_total p.length (cap - at') with h | h
      · left; exact Nat.min_eq_left h
      · right; exact Nat.min_eq_right h⟩
  have hat' : at' < cap := by rw [hat]; exact Nat.mod_lt _ (by omega)
  have lt : (p.take f).length = f := by rw [List.length_take]; omega
  have ld : (p.drop f).length = p.length - f := List.length_drop
  have s1 := splice_length st at' (p.take f) (by omega)
  rw [hk, splice_at _ 0 (p.drop f) (by rw [s1, ld, hst]; omega), splice_at st at' (p.take f) (by omega), ld, lt]
  clear hm1 hm2
  by_cases hi : i < l.length
  · rw [List.getElem?_append_left hi] at hx
    have := hs i x hx
    rw [hk] at this
    rw [if_neg (by omega), if_neg (by omega)]
    exact this
  · rw [List.getElem?_append_right (by omega)] at hx
    by_cases h1 : k < p.length - f ∧ ¬ h + i < cap ∧ h + l.length < cap
    · rw [if_pos (by omega), List.getElem?_drop, ← hx]
      congr 1; omega
    · rw [if_neg (by omega), if_pos (by omega), List.getElem?_take_of_lt (by omega), ← hx]
      congr 1; omega

/-- What a call that changes a ring leaves. -/
def RNext (w : World) (b T g cap h : Nat) (l : List UInt8) (w' : World) : Prop := RAt w' b T g cap h l ∧ Frm (fun k => k = b ∨ k = g) w w'

theorem Try.info5 : (Try.prog.info? 5).map (fun i => (i.zero, i.size, i.bytes)) = some (some (.int .u8 0), 1, 1) := by kernel_rfl
set_option maxRecDepth 100000 in
set_option maxHeartbeats 2000000 in
theorem ring_put {w : World} {b T g cap q : Nat} {l : List UInt8} (r : RAt w b T g cap q l) {ao : Option Addr} {m c : Nat} {pl : List UInt8} (hp : RSl w 1 (.slice ao m c) m (u8s pl)) (hpg : (Value.slice ao m c).ownBlock ≠ some g) :
    Calls Try.prog 38 #[.pointer (some ⟨b, 0, none⟩), .slice ao m c] w fun e w' => e = .returned (.int .i64 (Nat.min m (cap - l.length) : Nat)) ∧ RNext w b T g cap q (l ++ pl.take (cap - l.length)) w' := by
  have hpl : pl.length = m := by have := hp.1; rwa [u8s_length, Nat.mul_one] at this
  have hmc : m ≤ c ∧ c ≤ maxLen := by obtain ⟨_, _, _, he, h1, h2, _⟩ := hp; cases he; exact ⟨h1, h2⟩
  obtain ⟨hmc, hcm⟩ := hmc
  obtain ⟨n, hn⟩ : ∃ n : Nat, n = Nat.min m (cap - l.length) := ⟨_, rfl⟩
  have htk : pl.take (cap - l.length) = pl.take n := by
    rw [hn, ← hpl]
    rcases Nat.le_total pl.length (cap - l.length) with h | h
    · rw [List.take_of_length_le h, show Nat.min pl.length (cap - l.length) = pl.length from Nat.min_eq_left h, List.take_length]
    · rw [show Nat.min pl.length (cap - l.length) = cap - l.length from Nat.min_eq_right h]
  rw [← hn, htk]
  have hnm : n ≤ m := by rw [hn]; exact Nat.min_le_left _ _
  have hnf : n ≤ cap - l.length := by rw [hn]; exact Nat.min_le_right _ _
  have hmin : min (m : Int) ((cap - l.length : Nat) : Int) = n := by
    have : (min m (cap - l.length) : Nat) = n := hn.symm
    omega
  clear htk
  have hfit := r.fits
  have hmax := r.max
  have hpos := r.pos
  have hhead := r.head
  have hm63 : m ≤ 9223372036854775807 := by simp only [maxLen] at hcm; omega
  have HN := Lib.hid hn
  have HP := Lib.hid hp
  clear hn hp
  go_enter Try.func38, Try.ntmps38
  rcases Nat.eq_zero_or_pos n with hz | hnp
  · subst hz
    go_wp2_with fail
    refine (ring_free r).mono ?_
    rintro e w' ⟨rfl, rfl⟩
    go_wp2
    go_ret
    refine ⟨rfl, ?_⟩
    rw [List.take_zero, List.append_nil]
    exact ⟨r, Frm.refl _ _⟩
  · have hn0 : ((n : Int) == 0) = false := by simp; omega
    go_wp2_with fail
    refine (ring_free r).mono ?_
    rintro e w' ⟨rfl, rfl⟩
    obtain ⟨c0, c1, c2⟩ := three_cell r.blk
    go_wp2_with fail
    refine (ring_place r l.length (by omega)).mono ?_
    rintro e w' ⟨rfl, rfl⟩
    obtain ⟨at', hat⟩ : ∃ a, a = (q + l.length) % cap := ⟨_, rfl⟩
    rw [← hat]
    have hlt : at' < cap := by rw [hat]; exact Nat.mod_lt _ hpos
    have HAT := Lib.hid hat
    clear hat
    obtain ⟨pg, po, hao⟩ : ∃ pg po, ao = some ⟨pg, po, none⟩ := by
      obtain ⟨_, _, _, he, _, _, hc⟩ := HP.out
      cases he
      obtain ⟨g', o', he', _⟩ := hc (by omega)
      exact ⟨g', o', he'⟩
    subst hao
    have hpg' : pg ≠ g := fun e => hpg (by rw [e]; rfl)
    obtain ⟨st, ho, hst⟩ := r.store
    obtain ⟨i0, hi, hz0, hz1, hz2⟩ := info_parts Try.info5
    have hsz : (Try.prog.info? 5).map (·.size) = some 1 := by rw [hi]; simp [hz1]
    have hs1 : RSl w.drew.drew 1 (.slice (some ⟨pg, po, none⟩) n c) n (u8s ((pl.drop 0).take n)) := (HP.out.frame (w' := w.drew.drew) (fun _ _ => rfl)).part 0 n c _ (by omega) (by omega) hcm (fun _ => rfl)
    rw [List.drop_zero] at hs1
    obtain ⟨w2, hr2, ho2, hf2⟩ := run_copy_u8 (P := Try.prog) ho.drew.drew hs1 at' (cap - at') (cap - at') (by omega) 66 66 3 5 Try.underlying66 hsz
    have HO2 := Lib.hid ho2
    have HF2 := Lib.hid hf2
    have HS1 := Lib.hid hs1
    have HST := Lib.hid hst
    have HO := Lib.hid ho
    clear ho2 hf2 hs1 hst ho hi hz0 hz1 hz2
    obtain ⟨f, hf⟩ : ∃ f, f = Nat.min n (cap - at') := ⟨_, rfl⟩
    rw [← hf] at hr2
    have hf1 : f ≤ n ∧ f ≤ cap - at' := by rw [hf]; exact ⟨Nat.min_le_left _ _, Nat.min_le_right _ _⟩
    obtain ⟨hf1, hf2⟩ := hf1
    have HFf0 := Lib.hid hf
    clear hf
    have hblt : b < w.drew.drew.heap.size := blk_lt r.blk
    have hB2 : w2.heap[b]? = some (.cells #[.slice (some ⟨g, 0, none⟩) cap cap, .int .i64 (q : Int), .int .i64 (l.length : Int)] T (0, 0)) := (HF2.out.block b hblt r.ne).trans r.blk
    have HB2 := Lib.hid hB2
    obtain ⟨d0, d1, d2⟩ := three_cell hB2
    have hpr : RSl w2.drew 1 (.slice (some ⟨pg, po, none⟩) m c) m (u8s pl) := HP.out.frame fun k hk => by
      have hk' : pg = k := by simpa [Value.ownBlock] using hk
      subst hk'
      have hlt : pg < w.heap.size := by
        obtain ⟨_, _, _, he, _, _, hc⟩ := HP.out
        cases he
        obtain ⟨g', o', he', hcell⟩ := hc (by omega)
        cases he'
        have h0 := hcell 0 (by omega)
        rw [u8s_at, List.getElem?_eq_getElem (by omega)] at h0
        exact World.block_lt_of_cell? _ _ h0
      exact HF2.out.block pg hlt hpg'
    have hS2 : ∀ ao', (0 < n - f → ao' = some ⟨pg, po + f, none⟩) → RSl w2.drew 1 (.slice ao' (n - f) (c - f)) (n - f) (u8s ((pl.take n).drop f)) := fun ao' ha => by
      have := hpr.part f (n - f) (c - f) ao' (by omega) (by omega) (by omega) ha
      rw [List.drop_take]
      exact this
    have HS2a := hS2 (some ⟨pg, po + f, none⟩) (fun _ => rfl)
    have HS2b : n - f = 0 → RSl w2.drew 1 (.slice (some ⟨pg, po, none⟩) (n - f) (c - f)) (n - f) (u8s ((pl.take n).drop f)) := fun e => hS2 _ (fun h => by omega)
    have HA := Lib.hid HS2a
    have HB := Lib.hid HS2b
    clear hB2 hpr hS2 HS2a HS2b
    go_wp2
    refine region_text0 (by kernel_rfl) (by kernel_rfl) (fun K hK => ?_)
    go_wp2_with (at_builtin; refine wpList_copy_eq _ rfl (.tmp 26) (.tmp 29) 66 66 rfl _ _ rfl rfl hr2 ?_)
    clear hr2
    refine region_text0 (by kernel_rfl) (by kernel_rfl) (fun K2 hK2 => ?_)
    have hf := HFf0.out
    by_cases hfc : f < c
    · have HS2a := HA.out
      obtain ⟨w3, hr3, ho3, hf3⟩ := run_copy_u8 (P := Try.prog) HO2.out.drew (sv := .slice (some ⟨pg, po + f, none⟩) (n - f) (c - f)) (m := n - f) (src := (pl.take n).drop f) HS2a 0 cap cap (by omega) 66 66 3 5 Try.underlying66 hsz
      have hmin2 : Nat.min (n - f) cap = n - f := Nat.min_eq_left (by omega)
      rw [hmin2] at hr3 ho3
      rw [List.take_of_length_le (i := n - f) (by rw [List.length_drop, List.length_take]; omega), hf] at ho3
      have HO3 := Lib.hid ho3
      have HF3 := Lib.hid hf3
      have HFf := Lib.hid hf
      clear ho3 hf3 hf hmin2
      have hB3 : w3.heap[b]? = some (.cells #[.slice (some ⟨g, 0, none⟩) cap cap, .int .i64 (q : Int), .int .i64 (l.length : Int)] T (0, 0)) := (HF3.out.block b (Nat.lt_of_lt_of_le hblt HF2.out.size) r.ne).trans HB2.out
      have HB3 := Lib.hid hB3
      obtain ⟨e0, e1, e2⟩ := three_cell hB3
      have e3 := blk_free hB3 2
      clear hB3
      go_wp2_with (at_builtin; refine wpList_copy_eq _ rfl (.tmp 34) (.tmp 38) 66 66 rfl _ _ rfl rfl hr3 ?_)
      go_ret
      refine ⟨rfl, ⟨?_, r.ne, hpos, hmax, hhead, ?_, splice (splice st at' ((pl.take n).take f)) 0 ((pl.take n).drop f), ?_, ?_⟩, ?_⟩
      · have := blk_set HB3.out 2 (.int .i64 ((l.length : Int) + n))
        rw [List.length_append, List.length_take, Nat.min_eq_left (by omega : n ≤ pl.length)]
        refine this.trans ?_
        congr 2
      · rw [List.length_append, List.length_take]; omega
      · have e4 := HO3.out
        rw [← HFf.out] at e4
        exact e4.frame fun k hk _ => Below.heap_setCell _ _ _ _ (fun e => r.ne (by have hk' : g = k := (by simpa [Value.ownBlock] using hk); exact (hk'.trans e).symm))
      · exact put_plain st l (pl.take n) cap q (by have := HO.out.1; rwa [u8s_length, Nat.mul_one] at this) hhead (by rw [List.length_take]; omega) HST.out (by rw [List.length_take]; omega) at' f HAT.out (by rw [List.length_take, Nat.min_eq_left (by omega : n ≤ pl.length)]; exact HFf.out)
      · have f1 : Frm (fun k => k = b ∨ k = g) w w2 := (((Frm.drew (fun _ => False) w).trans (Frm.drew _ _)).then (U := fun k => k = b ∨ k = g) HF2.out (fun _ _ h => h.elim) (fun _ _ h => .inr h))
        have f2 : Frm (fun k => k = b ∨ k = g) w w3 := f1.then (U := fun k => k = b ∨ k = g) ((Frm.drew (fun k => k = g) w2).trans HF3.out) (fun _ _ h => h) (fun _ _ h => .inr h)
        exact f2.setIn (.inl rfl) _
    · have HS2b := HB.out (by omega)
      obtain ⟨w3, hr3, ho3, hf3⟩ := run_copy_u8 (P := Try.prog) HO2.out.drew (sv := .slice (some ⟨pg, po, none⟩) (n - f) (c - f)) (m := n - f) (src := (pl.take n).drop f) HS2b 0 cap cap (by omega) 66 66 3 5 Try.underlying66 hsz
      have hmin2 : Nat.min (n - f) cap = n - f := Nat.min_eq_left (by omega)
      rw [hmin2] at hr3 ho3
      rw [List.take_of_length_le (i := n - f) (by rw [List.length_drop, List.length_take]; omega), hf] at ho3
      have HO3 := Lib.hid ho3
      have HF3 := Lib.hid hf3
      have HFf := Lib.hid hf
      clear ho3 hf3 hf hmin2
      have hB3 : w3.heap[b]? = some (.cells #[.slice (some ⟨g, 0, none⟩) cap cap, .int .i64 (q : Int), .int .i64 (l.length : Int)] T (0, 0)) := (HF3.out.block b (Nat.lt_of_lt_of_le hblt HF2.out.size) r.ne).trans HB2.out
      have HB3 := Lib.hid hB3
      obtain ⟨e0, e1, e2⟩ := three_cell hB3
      have e3 := blk_free hB3 2
      clear hB3
      go_wp2_with (at_builtin; refine wpList_copy_eq _ rfl (.tmp 34) (.tmp 38) 66 66 rfl _ _ rfl rfl hr3 ?_)
      go_ret
      refine ⟨rfl, ⟨?_, r.ne, hpos, hmax, hhead, ?_, splice (splice st at' ((pl.take n).take f)) 0 ((pl.take n).drop f), ?_, ?_⟩, ?_⟩
      · have := blk_set HB3.out 2 (.int .i64 ((l.length : Int) + n))
        rw [List.length_append, List.length_take, Nat.min_eq_left (by omega : n ≤ pl.length)]
        refine this.trans ?_
        congr 2
      · rw [List.length_append, List.length_take]; omega
      · have e4 := HO3.out
        rw [← HFf.out] at e4
        exact e4.frame fun k hk _ => Below.heap_setCell _ _ _ _ (fun e => r.ne (by have hk' : g = k := (by simpa [Value.ownBlock] using hk); exact (hk'.trans e).symm))
      · exact put_plain st l (pl.take n) cap q (by have := HO.out.1; rwa [u8s_length, Nat.mul_one] at this) hhead (by rw [List.length_take]; omega) HST.out (by rw [List.length_take]; omega) at' f HAT.out (by rw [List.length_take, Nat.min_eq_left (by omega : n ≤ pl.length)]; exact HFf.out)
      · have f1 : Frm (fun k => k = b ∨ k = g) w w2 := (((Frm.drew (fun _ => False) w).trans (Frm.drew _ _)).then (U := fun k => k = b ∨ k = g) HF2.out (fun _ _ h => h.elim) (fun _ _ h => .inr h))
        have f2 : Frm (fun k => k = b ∨ k = g) w w3 := f1.then (U := fun k => k = b ∨ k = g) ((Frm.drew (fun k => k = g) w2).trans HF3.out) (fun _ _ h => h) (fun _ _ h => .inr h)
        exact f2.setIn (.inl rfl) _

set_option maxRecDepth 100000 in
set_option maxHeartbeats 1000000 in
theorem ring_putAll_full {w : World} {b T g cap q : Nat} {l : List UInt8} (r : RAt w b T g cap q l) {ao : Option Addr} {m c : Nat} (hm : cap < l.length + m) (hm63 : m ≤ 9223372036854775807) :
    Calls Try.prog 44 #[.pointer (some ⟨b, 0, none⟩), .slice ao m c] w fun e w' => e = .returned (.int .i64 21) ∧ w = w' := by
  have hmax := r.max
  have hfit := r.fits
  go_enter Try.func44, Try.ntmps44
  go_wp2_with fail
  refine (ring_free r).mono ?_
  rintro e w' ⟨rfl, rfl⟩
  go_wp2
  go_ret
  exact ⟨rfl, rfl⟩
end Go.Proofs.Ytgofogcfolhonaa

set_option linter.unusedVariables false
set_option linter.unusedSimpArgs false
namespace Go.Proofs.Ytgofogcfolhonaa
open Go Go.RowKit

theorem at_nat {st l : List UInt8} {cap q : Nat} (hs : ∀ i x, l[i]? = some x → st[(q + i) % cap]? = some x) (hq : q < cap) (i : Nat) (x : UInt8) (h : l[i]? = some x) (hl : l.length ≤ cap) : st[if q + i < cap then q + i else q + i - cap]? = some x := by
  have hi := (List.getElem?_eq_some_iff.1 h).1
  rw [← mod2 (q + i) cap (by omega) (by omega)]
  exact hs i x h

set_option maxRecDepth 100000 in
set_option maxHeartbeats 2000000 in
theorem ring_two {w : World} {b T g cap q : Nat} {l : List UInt8} (r : RAt w b T g cap q l) :
    Calls Try.prog 65 #[.pointer (some ⟨b, 0, none⟩)] w fun e w' => Frm (fun _ => False) w w' ∧
      ((l = [] ∧ e = .returned (.tuple #[.slice none 0 0, .slice none 0 0])) ∨
       (0 < l.length ∧ ∃ k, k = Nat.min l.length (cap - q) ∧ e = .returned (.tuple #[.slice (some ⟨g, q, none⟩) k k, .slice (some ⟨g, 0, none⟩) (l.length - k) (l.length - k)]) ∧
         RSl w' 1 (.slice (some ⟨g, q, none⟩) k k) k (u8s (l.take k)) ∧ RSl w' 1 (.slice (some ⟨g, 0, none⟩) (l.length - k) (l.length - k)) (l.length - k) (u8s (l.drop k)))) := by
  obtain ⟨c0, c1, c2⟩ := three_cell r.blk
  have hmax := r.max
  have hfit := r.fits
  have hpos := r.pos
  have hhead := r.head
  rcases Nat.eq_zero_or_pos l.length with hz | hlp
  · have hl : l = [] := List.eq_nil_of_length_eq_zero hz
    go_enter Try.func65, Try.ntmps65
    go_wp2_with fail
    refine (ring_len r).mono ?_
    rintro e w' ⟨rfl, rfl⟩
    have h0 : ((l.length : Int) == 0) = true := by simp; omega
    go_wp2
    go_ret2
    exact ⟨Frm.refl _ _, .inl ⟨hl, rfl⟩⟩
  · obtain ⟨k, hk⟩ : ∃ k, k = Nat.min l.length (cap - q) := ⟨_, rfl⟩
    have hk1 : k ≤ l.length ∧ k ≤ cap - q ∧ 0 < k := by
      rw [hk]; exact ⟨Nat.min_le_left _ _, Nat.min_le_right _ _, Nat.lt_min.2 ⟨hlp, by omega⟩⟩
    obtain ⟨hk1, hk2, hk3⟩ := hk1
    have hmin : min ((q : Int) + l.length) cap = ((q + k : Nat) : Int) := by
      rcases Nat.le_total l.length (cap - q) with h | h
      · rw [show Nat.min l.length (cap - q) = l.length from Nat.min_eq_left h] at hk
        rw [Int.min_eq_left (by omega)]; omega
      · rw [show Nat.min l.length (cap - q) = cap - q from Nat.min_eq_right h] at hk
        rw [Int.min_eq_right (by omega)]; omega
    have h0 : ((l.length : Int) == 0) = false := by rw [beq_eq_false_iff_ne]; omega
    have HK := Lib.hid hk
    clear hk
    have hqk : q + k - q = k := by omega
    have hrest : (l.length : Int) - ((q + k : Nat) - q) = ((l.length - k : Nat) : Int) := by omega
    go_enter Try.func65, Try.ntmps65
    go_wp2_with fail
    refine (ring_len r).mono ?_
    rintro e w' ⟨rfl, rfl⟩
    go_wp2
    refine region_text [1, 5, 8, 10, 13] (by kernel_rfl) (by kernel_rfl) (fun K hK => ?_)
    go_wp2
    refine ⟨by kernel_rfl, ?_⟩
    go_wp2
    refine region_text [1, 6, 9] (by kernel_rfl) (by kernel_rfl) (fun K hK => ?_)
    go_wp2
    refine ⟨by kernel_rfl, ?_⟩
    go_wp2
    refine region_text [1, 5, 12] (by kernel_rfl) (by kernel_rfl) (fun K hK => ?_)
    go_wp2
    refine ⟨by kernel_rfl, ?_⟩
    go_wp2
    rw [hqk]
    go_ret2
    obtain ⟨st, ho, hst⟩ := r.store
    have hstl : st.length = cap := by have := ho.1; rwa [u8s_length, Nat.mul_one] at this
    have hd := ho.toR.frame (w' := w.drew.drew.drew) (fun _ _ => rfl)
    have p1 := hd.part q k k (some ⟨g, q, none⟩) (by omega) (Nat.le_refl _) (by unfold maxLen; omega) (fun _ => by rw [Nat.zero_add])
    have p2 := hd.part 0 (l.length - k) (l.length - k) (some ⟨g, 0, none⟩) (by omega) (Nat.le_refl _) (by unfold maxLen; omega) (fun _ => rfl)
    have e1 : (st.drop q).take k = l.take k := by
      apply List.ext_getElem?
      intro i
      by_cases hi : i < k
      · rw [List.getElem?_take_of_lt hi, List.getElem?_take_of_lt hi, List.getElem?_drop]
        obtain ⟨x, hx⟩ : ∃ x, l[i]? = some x := ⟨_, List.getElem?_eq_getElem (by omega)⟩
        have := at_nat hst hhead i x hx hfit
        rw [if_pos (by omega)] at this
        rw [this, hx]
      · rw [List.getElem?_eq_none (by rw [List.length_take]; omega), List.getElem?_eq_none (by rw [List.length_take]; omega)]
    have e2 : (st.drop 0).take (l.length - k) = l.drop k := by
      apply List.ext_getElem?
      intro i
      by_cases hi : i < l.length - k
      · rw [List.getElem?_take_of_lt hi, List.getElem?_drop, List.getElem?_drop]
        obtain ⟨x, hx⟩ : ∃ x, l[k + i]? = some x := ⟨_, List.getElem?_eq_getElem (by omega)⟩
        have := at_nat hst hhead (k + i) x hx hfit
        have hkc : k = cap - q := by
          have := HK.out
          rcases Nat.le_total l.length (cap - q) with h | h
          · rw [show Nat.min l.length (cap - q) = l.length from Nat.min_eq_left h] at this; omega
          · rw [show Nat.min l.length (cap - q) = cap - q from Nat.min_eq_right h] at this; omega
        rw [if_neg (by omega), show q + (k + i) - cap = 0 + i by omega] at this
        rw [this, hx]
      · rw [List.getElem?_eq_none (by rw [List.length_take, List.length_drop]; omega), List.getElem?_eq_none (by rw [List.length_drop]; omega)]
    rw [e1] at p1
    rw [e2] at p2
    exact ⟨((Frm.drew _ w).trans (Frm.drew _ _)).trans (Frm.drew _ _), .inr ⟨hlp, k, HK.out, rfl, p1, p2⟩⟩

/-- A ring's struct, turned in one cell. -/
theorem RAt.put {w : World} {b T g cap q q' : Nat} {l l' : List UInt8} (r : RAt w b T g cap q l) {w' : World} (hb : w'.heap[b]? = some (.cells #[.slice (some ⟨g, 0, none⟩) cap cap, .int .i64 (q' : Int), .int .i64 (l'.length : Int)] T (0, 0)))
    (hg : w'.heap[g]? = w.heap[g]?) (hq : q' < cap) (hl : l'.length ≤ cap) (hs : ∀ st : List UInt8, st.length = cap → (∀ i x, l[i]? = some x → st[(q + i) % cap]? = some x) → ∀ i x, l'[i]? = some x → st[(q' + i) % cap]? = some x) : RAt w' b T g cap q' l' :=
  ⟨hb, r.ne, r.pos, r.max, hq, hl, let ⟨st, ho, hst⟩ := r.store; ⟨st, ho.frame (fun k hk _ => by have hk' : g = k := (by simpa [Value.ownBlock] using hk); rw [← hk']; exact hg), hs st (by have := ho.1; rwa [u8s_length, Nat.mul_one] at this) hst⟩⟩

theorem drop_plain (st l : List UInt8) (cap q n : Nat) (hq : q < cap) (hn : n ≤ l.length) (hs : ∀ i x, l[i]? = some x → st[(q + i) % cap]? = some x) : ∀ i x, (l.drop n)[i]? = some x → st[((q + n) % cap + i) % cap]? = some x := by
  intro i x hx
  rw [List.getElem?_drop] at hx
  have := hs (n + i) x hx
  rw [Nat.mod_add_mod, Nat.add_assoc]
  exact this

set_option maxRecDepth 100000 in
set_option maxHeartbeats 2000000 in
theorem ring_drop {w : World} {b T g cap q : Nat} {l : List UInt8} (r : RAt w b T g cap q l) (n : Int) (hn1 : -9223372036854775808 ≤ n) (hn2 : n ≤ 9223372036854775807) :
    Calls Try.prog 50 #[.pointer (some ⟨b, 0, none⟩), .int .i64 n] w fun e w' => e = .returned (.int .i64 (Nat.min n.toNat l.length : Nat)) ∧ RAt w' b T g cap ((q + Nat.min n.toNat l.length) % cap) (l.drop n.toNat) ∧ Frm (fun k => k = b) w w' := by
  obtain ⟨k, hk⟩ : ∃ k, k = Nat.min n.toNat l.length := ⟨_, rfl⟩
  have hdr : l.drop n.toNat = l.drop k := by
    rw [hk]
    rcases Nat.le_total n.toNat l.length with h | h
    · rw [show Nat.min n.toNat l.length = n.toNat from Nat.min_eq_left h]
    · rw [show Nat.min n.toNat l.length = l.length from Nat.min_eq_right h, List.drop_of_length_le h, List.drop_length]
  have hmin : min (max n 0) (l.length : Int) = k := by
    rcases Nat.le_total n.toNat l.length with h | h
    · rw [show Nat.min n.toNat l.length = n.toNat from Nat.min_eq_left h] at hk
      rw [Int.min_eq_left (by omega)]; omega
    · rw [show Nat.min n.toNat l.length = l.length from Nat.min_eq_right h] at hk
      rw [Int.min_eq_right (by omega)]; omega
  have hkl : k ≤ l.length := by rw [hk]; exact Nat.min_le_right _ _
  rw [hdr, ← hk]
  clear hk hdr
  have hmax := r.max
  have hfit := r.fits
  have hpos := r.pos
  have hhead := r.head
  rcases Nat.eq_zero_or_pos k with hz | hkp
  · subst hz
    go_enter Try.func50, Try.ntmps50
    go_wp2_with fail
    refine (ring_len r).mono ?_
    rintro e w' ⟨rfl, rfl⟩
    go_wp2
    go_ret
    refine ⟨rfl, ?_, Frm.refl _ _⟩
    rw [Nat.add_zero, Nat.mod_eq_of_lt hhead, List.drop_zero]
    exact r
  · have hk0 : ((k : Int) == 0) = false := by simp; omega
    go_enter Try.func50, Try.ntmps50
    go_wp2_with fail
    refine (ring_len r).mono ?_
    rintro e w' ⟨rfl, rfl⟩
    go_wp2_with fail
    refine (ring_place r k (by omega)).mono ?_
    rintro e w' ⟨rfl, rfl⟩
    obtain ⟨q2, hq2⟩ : ∃ q2, q2 = (q + k) % cap := ⟨_, rfl⟩
    rw [← hq2]
    have HQ2 := Lib.hid hq2
    clear hq2
    obtain ⟨c0, c1, c2⟩ := three_cell r.blk
    have e1 := blk_free r.blk 1
    have e2 := blk_free r.blk 2
    go_wp2
    go_ret
    have hB := blk_set (blk_set r.blk 1 (.int .i64 (q2 : Int))) 2 (.int .i64 ((l.length : Int) - k))
    refine ⟨rfl, ?_, (((Frm.refl (fun k => k = b) w).setIn (a := ⟨b, 1, none⟩) rfl _).setIn (a := ⟨b, 2, none⟩) rfl _).drewR⟩
    rw [← HQ2.out]
    refine r.put (l' := l.drop k) (hB.trans ?_) ?_ (by rw [HQ2.out]; exact Nat.mod_lt _ hpos) (by rw [List.length_drop]; omega) (fun st hst hs => ?_)
    · rw [List.length_drop, Int.natCast_sub hkl]; rfl
    · exact (Below.heap_setCell _ _ _ _ (fun e => r.ne e.symm)).trans (Below.heap_setCell _ _ _ _ (fun e => r.ne e.symm))
    · rw [HQ2.out]; exact drop_plain st l cap q k hhead hkl hs
end Go.Proofs.Ytgofogcfolhonaa

set_option linter.unusedVariables false
set_option linter.unusedSimpArgs false
namespace Go.Proofs.Ytgofogcfolhonaa
open Go Go.RowKit

set_option maxRecDepth 100000 in
set_option maxHeartbeats 1000000 in
theorem ring_new (w : World) (c : Nat) (h1 : 1 ≤ c) (h2 : c ≤ 1048576) :
    Calls Try.prog 43 #[.int .i64 c] w fun e w' => e = .returned (.tuple #[.pointer (some ⟨w.heap.size + 1, 0, none⟩), .int .i64 0]) ∧ RAt w' (w.heap.size + 1) 117 w.heap.size c 0 [] ∧ Frm (fun _ => False) w w' := by
  obtain ⟨i0, hi, hz0, hz1, hz2⟩ := info_parts Try.info5
  obtain ⟨w1, hms, ho, hf, hw1⟩ := run_make_osl (P := Try.prog) w 66 5 i0 Try.underlying66 hi hz0 hz1 hz2 c c (Nat.le_refl _) (by omega)
  have HO := Lib.hid ho
  have HF := Lib.hid hf
  clear ho hf
  go_enter Try.func43, Try.ntmps43
  go_wp2
  go_ret2
  refine ⟨rfl, ⟨?_, by omega, by omega, h2, by omega, Nat.zero_le _, List.replicate c 0, HO.out.alloc _, fun i x h => by simp at h⟩, HF.out.allocR _⟩
  rw [← hw1]
  exact heap_alloc_new w1 _

theorem peek_plain (l : List UInt8) (fr n k ka t : Nat) (hk : k = Nat.min n (l.length - fr)) (ht : t = Nat.min ka (fr + k) - fr) (hA : fr < ka) (hka : ka ≤ l.length) :
    ((l.take ka).drop fr).take t ++ ((l.drop ka).drop 0).take (k - t) = (l.drop fr).take n := by
  have hk1 : k ≤ n ∧ k ≤ l.length - fr ∧ (k = n ∨ k = l.length - fr) := by
    rw [hk]
    exact ⟨Nat.min_le_left _ _, Nat.min_le_right _ _, by
      rcases Nat.le_total n (l.length - fr) with h | h
      · left; exact Nat.min_eq_left h
      · right; exact Nat.min_eq_right h⟩
  have ht1 : (t = ka - fr ∧ ka ≤ fr + k) ∨ (t = k ∧ fr + k ≤ ka) := by
    rw [ht]
    rcases Nat.le_total ka (fr + k) with h | h
    · left; rw [show Nat.min ka (fr + k) = ka from Nat.min_eq_left h]; exact ⟨rfl, h⟩
    · right; rw [show Nat.min ka (fr + k) = fr + k from Nat.min_eq_right h]; exact ⟨by omega, h⟩
  clear hk ht
  have hl1 : (((l.take ka).drop fr).take t).length = t := by rw [List.length_take, List.length_drop, List.length_take]; omega
  apply List.ext_getElem?
  intro i
  by_cases h1 : i < t
  · rw [List.getElem?_append_left (by omega), List.getElem?_take_of_lt h1, List.getElem?_drop, List.getElem?_take_of_lt (by omega), List.getElem?_take_of_lt (by omega), List.getElem?_drop]
  · rw [List.getElem?_append_right (by omega), hl1]
    by_cases h2 : i < k
    · rw [List.getElem?_take_of_lt (by omega), List.getElem?_drop, List.getElem?_drop, List.getElem?_take_of_lt (by omega), List.getElem?_drop]
      congr 1; omega
    · rw [List.getElem?_eq_none (by rw [List.length_take, List.length_drop, List.length_drop]; omega), List.getElem?_eq_none (by rw [List.length_take, List.length_drop]; omega)]

set_option maxRecDepth 100000 in
set_option maxHeartbeats 2000000 in
theorem ring_peek {w : World} {b T g cap q : Nat} {l : List UInt8} (r : RAt w b T g cap q l) (fr n : Nat) (hf : fr ≤ l.length) (hn63 : n ≤ 9223372036854775807) :
    Calls Try.prog 41 #[.pointer (some ⟨b, 0, none⟩), .int .i64 fr, .int .i64 n] w fun e w' => ∃ ao c k, e = .returned (.slice ao k c) ∧ OSl w' 1 (.slice ao k c) k (u8s ((l.drop fr).take n)) ∧ (∀ g', (Value.slice ao k c).ownBlock = some g' → w.heap.size ≤ g') ∧ Frm (fun _ => False) w w' := by
  have hfit := r.fits
  have hmax := r.max
  obtain ⟨k, hk⟩ : ∃ k, k = Nat.min n (l.length - fr) := ⟨_, rfl⟩
  have hmin : min (n : Int) ((l.length : Int) - fr) = k := by
    rcases Nat.le_total n (l.length - fr) with h | h
    · rw [show Nat.min n (l.length - fr) = n from Nat.min_eq_left h] at hk
      rw [Int.min_eq_left (by omega)]; omega
    · rw [show Nat.min n (l.length - fr) = l.length - fr from Nat.min_eq_right h] at hk
      rw [Int.min_eq_right (by omega)]; omega
  have hk1 : k ≤ n ∧ k ≤ l.length - fr := by rw [hk]; exact ⟨Nat.min_le_left _ _, Nat.min_le_right _ _⟩
  obtain ⟨hk1, hk2⟩ := hk1
  have HK := Lib.hid hk
  clear hk
  obtain ⟨i0, hi, hz0, hz1, hz2⟩ := info_parts Try.info5
  go_enter Try.func41, Try.ntmps41
  go_wp2_with fail
  refine (ring_len r).mono ?_
  rintro e w' ⟨rfl, rfl⟩
  go_wp2_with fail
  refine (ring_len r).mono ?_
  rintro e w' ⟨rfl, rfl⟩
  go_wp2_with fail
  refine (ring_two r).mono ?_
  rintro e w1 ⟨hf1, ⟨rfl, rfl⟩ | ⟨hlp, ka, hka, rfl, hra, hrb⟩⟩
  · obtain rfl : fr = 0 := by simpa using hf
    have hk0 : k = 0 := by simpa using hk2
    subst hk0
    obtain ⟨w2, hms0, ho, hf2, hw2⟩ := run_make_osl (P := Try.prog) w1 66 5 i0 Try.underlying66 hi hz0 hz1 hz2 0 0 (Nat.le_refl _) (by omega)
    have hms : (Instr.makeSlice 66 (.int .i64 0) (.int .i64 0)).run Try.prog w1 = .ok (.slice (some ⟨w1.heap.size, 0, none⟩) 0 0) w2 := hms0
    have HO := Lib.hid ho
    have HF := Lib.hid (hf1.trans hf2)
    have HSZ := Lib.hid hf1.size
    clear ho hf2 hf1 r hmin hms0
    go_wp2_with (at_builtin; refine wpList_append_osl _ rfl (.tmp 56) (.tmp 65) 66 66 rfl 5 i0 (.int .u8 0) 1 1 Try.underlying66 hi hz0 hz1 hz2 rfl _ 0 [] rfl HO.out _ 0 [] rfl (Src.ofNil _ Try.underlying66 _) (by unfold maxLen; omega) (by omega) ?_)
    intro ao' c' w3 hs3 hf3 hv3
    go_wp2
    go_ret
    have hfa := fresh_app (v' := .slice ao' 0 c') (H := w1.heap.size + 1) HF.out (fun g hg => by simp [Value.ownBlock] at hg; have := HSZ.out; omega) hf3 hv3 (by have := HSZ.out; omega)
    refine ⟨_, _, _, rfl, ?_, hfa.1, hfa.2⟩
    rw [List.drop_nil, List.take_nil]
    exact hs3
  · have hka1 : ka ≤ l.length ∧ ka ≤ cap - q := by rw [hka]; exact ⟨Nat.min_le_left _ _, Nat.min_le_right _ _⟩
    obtain ⟨hka1, hka2⟩ := hka1
    clear hka
    have HRA := Lib.hid hra
    have HRB := Lib.hid hrb
    have hhead := r.head
    obtain ⟨w2, hms0, ho, hf2, hw2⟩ := run_make_osl (P := Try.prog) w1 66 5 i0 Try.underlying66 hi hz0 hz1 hz2 0 k (Nat.zero_le _) (by omega)
    have hms : (Instr.makeSlice 66 (.int .i64 0) (.int .i64 k)).run Try.prog w1 = .ok (.slice (some ⟨w1.heap.size, 0, none⟩) 0 k) w2 := hms0
    have hgw : g < w1.heap.size := Nat.lt_of_lt_of_le r.glt hf1.size
    have HO := Lib.hid ho
    have HF2 := Lib.hid hf2
    have HF := Lib.hid (hf1.trans hf2)
    have HSZ := Lib.hid hf1.size
    clear ho hf2 hf1 r hms0 hra hrb
    by_cases hA : fr < ka
    · obtain ⟨t, ht⟩ : ∃ t, t = Nat.min ka (fr + k) - fr := ⟨_, rfl⟩
      have hmn : fr ≤ Nat.min ka (fr + k) := Nat.le_min.2 ⟨by omega, by omega⟩
      have hmin2 : min (ka : Int) ((fr : Int) + k) = ((fr + t : Nat) : Int) := by
        rcases Nat.le_total ka (fr + k) with h | h
        · rw [show Nat.min ka (fr + k) = ka from Nat.min_eq_left h] at ht
          rw [Int.min_eq_left (by omega)]; omega
        · rw [show Nat.min ka (fr + k) = fr + k from Nat.min_eq_right h] at ht
          rw [Int.min_eq_right (by omega)]; omega
      have ht1 : fr + t ≤ ka ∧ t ≤ k := by
        have a1 : Nat.min ka (fr + k) ≤ ka := Nat.min_le_left _ _
        have a2 : Nat.min ka (fr + k) ≤ fr + k := Nat.min_le_right _ _
        omega
      obtain ⟨ht1, ht2⟩ := ht1
      have HT := Lib.hid ht
      clear ht hmn
      have hs1 := (HRA.out.frame (w' := w2) (fun k hk => by have hk' : g = k := (by simpa [Value.ownBlock] using hk); subst hk'; exact HF2.out.block g hgw (fun h => h))).part fr t (ka - fr) (some ⟨g, q + fr, none⟩) (by omega) (by omega) (by unfold maxLen; omega) (fun _ => rfl)
      have HS1 := Lib.hid (src_u8 (P := Try.prog) hs1 (tx := 66) Try.underlying66)
      clear hs1
      go_wp2_with (at_builtin; refine wpList_append_osl _ rfl (.tmp 39) (.tmp 48) 66 66 rfl 5 i0 (.int .u8 0) 1 1 Try.underlying66 hi hz0 hz1 hz2 rfl _ 0 _ rfl HO.out (.slice (some ⟨g, q + fr, none⟩) t (ka - fr)) t _ ?c1 HS1.out (by unfold maxLen; omega) (by omega) ?_)
      case c1 => simp [Act.eval]
      intro ao' c' w3 hs3 hf3 hv3
      have hfa := fresh_app (v' := .slice ao' t c') (H := w1.heap.size + 1) HF.out (fun g hg => by simp [Value.ownBlock] at hg; have := HSZ.out; omega) hf3 hv3 (by have := HSZ.out; omega)
      have hs2 := (HRB.out.frame (w' := w3) (fun k2 hk => by
        have hk' : g = k2 := (by simpa [Value.ownBlock] using hk)
        subst hk'
        exact (hf3.block g (by omega) (fun h => by simp [Value.ownBlock] at h; omega)).trans (HF2.out.block g hgw (fun h => h)))).part 0 (k - t) (l.length - ka) (some ⟨g, 0, none⟩) (by omega) (by omega) (by unfold maxLen; omega) (fun _ => rfl)
      have HS2 := Lib.hid (src_u8 (P := Try.prog) hs2 (tx := 66) Try.underlying66)
      have HS3 := Lib.hid hs3
      have HFA := Lib.hid hfa
      have hB3 : ∀ g', (Value.slice ao' t c').ownBlock = some g' → g' < w3.heap.size := hs3.lt
      have hsz3 : w.heap.size ≤ w3.heap.size := hfa.2.size
      have HSZ3 := Lib.hid hsz3
      clear hs2 hs3 hf3 hv3 hfa hB3 hsz3
      go_wp2_with (at_builtin; refine wpList_append_osl _ rfl (.tmp 56) (.tmp 65) 66 66 rfl 5 i0 (.int .u8 0) 1 1 Try.underlying66 hi hz0 hz1 hz2 rfl _ t _ rfl HS3.out (.slice (some ⟨g, 0, none⟩) (k - t) (l.length - ka)) (k - t) _ ?c2 HS2.out (by unfold maxLen; omega) (by omega) ?_)
      case c2 => simp [Act.eval]
      intro ao2 c2 w4 hs4 hf4 hv4
      go_wp2
      go_ret
      have hfb := fresh_app (v' := .slice ao2 k c2) (H := w3.heap.size) HFA.out.2 HFA.out.1 hf4 hv4 HSZ3.out
      refine ⟨_, _, _, rfl, ?_, hfb.1, hfb.2⟩
      have e1 := peek_plain l fr n k ka t HK.out HT.out hA hka1
      rw [← e1, u8s_append]
      exact hs4
    · have hs2 := fun ao h => (HRB.out.frame (w' := w2) (fun k2 hk => by
        have hk' : g = k2 := (by simpa [Value.ownBlock] using hk)
        subst hk'
        exact HF2.out.block g hgw (fun h => h))).part (fr - ka) k (l.length - ka - (fr - ka)) ao (by omega) (by omega) (by unfold maxLen; omega) h
      have e1 : ((l.drop ka).drop (fr - ka)).take k = (l.drop fr).take n := by
        rw [List.drop_drop, show ka + (fr - ka) = fr by omega]
        have := HK.out
        rcases Nat.le_total n (l.length - fr) with h | h
        · rw [this, show Nat.min n (l.length - fr) = n from Nat.min_eq_left h]
        · rw [this, show Nat.min n (l.length - fr) = l.length - fr from Nat.min_eq_right h, List.take_of_length_le (by rw [List.length_drop]; omega), List.take_of_length_le (by rw [List.length_drop]; omega)]
      rw [e1] at hs2
      have HS := Lib.hid hs2
      clear hs2 e1
      have hfk : (fr : Int) - ka = ((fr - ka : Nat) : Int) := by omega
      by_cases hB : fr - ka < l.length - ka
      · have HS2 := Lib.hid (src_u8 (P := Try.prog) (HS.out (some ⟨g, fr - ka, none⟩) (fun _ => by rw [Nat.zero_add])) (tx := 66) Try.underlying66)
        go_wp2_with (at_builtin; refine wpList_append_osl _ rfl (.tmp 56) (.tmp 65) 66 66 rfl 5 i0 (.int .u8 0) 1 1 Try.underlying66 hi hz0 hz1 hz2 rfl _ 0 _ rfl HO.out (.slice (some ⟨g, fr - ka, none⟩) k (l.length - ka - (fr - ka))) k _ ?c3 HS2.out (by unfold maxLen; omega) (by omega) ?_)
        case c3 => simp [Act.eval]; try omega
        intro ao2 c2 w4 hs4 hf4 hv4
        go_wp2
        go_ret
        have hfb := fresh_app (v' := .slice ao2 k c2) (H := w1.heap.size + 1) HF.out (fun g hg => by simp [Value.ownBlock] at hg; have := HSZ.out; omega) hf4 hv4 (by have := HSZ.out; omega)
        refine ⟨_, _, _, rfl, ?_, hfb.1, hfb.2⟩
        exact hs4
      · obtain rfl : fr = l.length := by omega
        obtain rfl : k = 0 := by omega
        have hms' : (Instr.makeSlice 66 (.int .i64 0) (.int .i64 0)).run Try.prog w1 = .ok (.slice (some ⟨w1.heap.size, 0, none⟩) 0 0) w2 := hms
        have hmin' : min (n : Int) 0 = 0 := by have := Int.natCast_nonneg n; rw [Int.min_eq_right this]
        clear hms hmin hk2 HK HS hB
        go_wp2_with (at_builtin; refine wpList_append_osl _ rfl (.tmp 56) (.tmp 65) 66 66 rfl 5 i0 (.int .u8 0) 1 1 Try.underlying66 hi hz0 hz1 hz2 rfl _ 0 _ rfl HO.out _ 0 [] rfl (Src.ofSlice _ Try.underlying66 _ 0 _ [] rfl (fun j u h => by simp at h) (by simp)) (by unfold maxLen; omega) (by omega) ?_)
        intro ao2 c2 w4 hs4 hf4 hv4
        go_wp2
        go_ret
        have hfb := fresh_app (v' := .slice ao2 0 c2) (H := w1.heap.size + 1) HF.out (fun g hg => by simp [Value.ownBlock] at hg; have := HSZ.out; omega) hf4 hv4 (by have := HSZ.out; omega)
        refine ⟨_, _, _, rfl, ?_, hfb.1, hfb.2⟩
        rw [List.drop_length, List.take_nil]
        exact hs4

set_option maxRecDepth 100000 in
set_option maxHeartbeats 2000000 in
theorem ring_take {w : World} {b T g cap q : Nat} {l : List UInt8} (r : RAt w b T g cap q l) (n : Int) (hn1 : -9223372036854775808 ≤ n) (hn2 : n ≤ 9223372036854775807) :
    Calls Try.prog 45 #[.pointer (some ⟨b, 0, none⟩), .int .i64 n] w fun e w' => ∃ ao c k, e = .returned (.slice ao k c) ∧ OSl w' 1 (.slice ao k c) k (u8s (l.take n.toNat)) ∧ (∀ g', (Value.slice ao k c).ownBlock = some g' → w.heap.size ≤ g') ∧
      RAt w' b T g cap ((q + Nat.min n.toNat l.length) % cap) (l.drop n.toNat) ∧ Frm (fun k => k = b) w w' := by
  obtain ⟨m, hm⟩ : ∃ m : Nat, m = n.toNat := ⟨_, rfl⟩
  have hmx : max n 0 = (m : Int) := by omega
  have hm63 : m ≤ 9223372036854775807 := by omega
  rw [← hm]
  have HM := Lib.hid hm
  clear hm
  go_enter Try.func45, Try.ntmps45
  go_wp2_with fail
  refine (ring_peek r 0 m (Nat.zero_le _) hm63).mono ?_
  rintro e w1 ⟨ao, c, k, rfl, ho, hb, hf⟩
  rw [List.drop_zero] at ho
  have HO := Lib.hid ho
  have HB := Lib.hid hb
  have HF := Lib.hid hf
  clear ho hb hf
  go_wp2_with fail
  refine (ring_drop (r.same HF.out) n hn1 hn2).mono ?_
  rintro e w2 ⟨rfl, hr, hf2⟩
  rw [← HM.out] at hr ⊢
  go_wp2
  go_ret
  have hblt := blk_lt r.blk
  refine ⟨_, _, _, rfl, HO.out.frm hf2 (fun g' hg' e => ?_), HB.out, hr, HF.out.then hf2 (fun _ _ h => h.elim) (fun _ _ h => h)⟩
  have := HB.out g' hg'
  omega

end Go.Proofs.Ytgofogcfolhonaa

set_option linter.unusedVariables false
set_option linter.unnecessarySimpa false
set_option linter.unusedSimpArgs false
set_option linter.unusedSectionVars false
set_option maxRecDepth 100000
namespace Go.Proofs.Ytgofogcfolhonaa
open Go Go.RowKit

/-- All but a ring's boxes are as they were. -/
def OthR (H H' : Hp) (r : Option (Nat × Nat)) : Prop := H'.length = H.length ∧ ∀ j, (∀ i s, r = some (i, s) → j ≠ i ∧ j ≠ s) → H'[j]? = H[j]?
theorem OthR.refl (H : Hp) (r : Option (Nat × Nat)) : OthR H H r := ⟨rfl, fun _ _ => rfl⟩
theorem OthR.trans {H H' H2 : Hp} {r : Option (Nat × Nat)} (h : OthR H H' r) (h2 : OthR H' H2 r) : OthR H H2 r := ⟨h2.1.trans h.1, fun j hj => (h2.2 j hj).trans (h.2 j hj)⟩
/-- Bytes in a box of one's own, from lo on. -/
def B8 (K : Hp) (lo : Nat) (v : AV) (l : List UInt8) : Prop := BX K (fun j => lo ≤ j) 1 v l.length (fun j u => (c8 l)[j]? = some u)
/-- In boxes one behind the other. -/
def dif (a b : AV) : Prop := ∀ i o n c k i' o' n' c' k', a = .bx i o n c k → b = .bx i' o' n' c' k' → i < i'
def Kpt (H K : Hp) : Prop := H.length ≤ K.length ∧ ∀ j, j < H.length → K[j]? = H[j]?
theorem Kpt.refl (H : Hp) : Kpt H H := ⟨Nat.le_refl _, fun _ _ => rfl⟩
theorem Kpt.app (H J : Hp) : Kpt H (H ++ J) := ⟨by simp, fun j hj => List.getElem?_append_left hj⟩
theorem Kpt.trans {H K L : Hp} (h : Kpt H K) (h2 : Kpt K L) : Kpt H L := ⟨Nat.le_trans h.1 h2.1, fun j hj => (h2.2 j (Nat.lt_of_lt_of_le hj h.1)).trans (h.2 j hj)⟩
theorem B8.of_box {K : Hp} {lo i c n : Nat} {A : List AV} {l : List UInt8} (hlo : lo ≤ i) (hA : K[i]? = some A) (hl : l.length = n) (hp : A.take n = c8 l) (hn : n ≤ c) (hm : c ≤ maxLen) (hc : A.length = c) (hs : ∀ y ∈ A, smp y := by simp) : B8 K lo (.bx i 0 n c 1) l := by
  subst hl
  refine .inr ⟨i, c, A, hlo, rfl, hA, by rw [hc, Nat.mul_one], hn, hm, hs, fun j y hj hy => ?_⟩
  show (c8 l)[j]? = some y
  rw [← hp, List.getElem?_take_of_lt (by omega)]
  exact hy
theorem B8.nil (K : Hp) (lo : Nat) : B8 K lo .nil [] := .inl ⟨rfl, rfl⟩
section
variable {H : Hp} {r : Option (Nat × Nat)} {i s cap q : Nat} {l : List UInt8} (E : Env) (Q : AV → Hp → Prop)
theorem nlen_pc (h : RN H r cap q l) (hQ : Q (.int .i64 l.length) H) : PC Try.prog E 42 [nptr r] H Q := by
  refine pc_enter Try.func42 rfl [] [] (by kernel_rfl) (fun hB => ?_)
  match r, h with
  | none, ⟨_, _, h3⟩ =>
    subst h3
    simp [Try.ntmps42, Try.results42, List.replicate_succ, nptr]
    exact aPost_same0 hB rfl (nilV_refl _) (by simp) hQ
  | some (i, s), ⟨h1, h2, h3, h4, h5, st, h6, h7, h8, h9⟩ =>
    simp [Try.ntmps42, Try.results42, List.replicate_succ, nptr, h7]
    exact aPost_same0 hB rfl (nilV_refl _) (by simp) hQ
theorem ncap_pc (h : RN H r cap q l) (hQ : Q (.int .i64 cap) H) : PC Try.prog E 66 [nptr r] H Q := by
  refine pc_enter Try.func66 rfl [] [] (by kernel_rfl) (fun hB => ?_)
  match r, h with
  | none, ⟨h3, _, _⟩ =>
    subst h3
    simp [Try.ntmps66, Try.results66, List.replicate_succ, nptr]
    exact aPost_same0 hB rfl (nilV_refl _) (by simp) hQ
  | some (i, s), ⟨h1, h2, h3, h4, h5, st, h6, h7, h8, h9⟩ =>
    simp [Try.ntmps66, Try.results66, List.replicate_succ, nptr, h7]
    exact aPost_same0 hB rfl (nilV_refl _) (by simp) hQ
theorem nfree_pc (h : RN H r cap q l) (hQ : Q (.int .i64 (cap - l.length : Nat)) H) : PC Try.prog E 46 [nptr r] H Q := by
  obtain ⟨f1, f2, f3, f4⟩ := h.fits
  have hw : IntKind.i64.wrap ((cap : Int) - l.length) = (cap - l.length : Nat) := by rw [wrap_in (by omega) (by omega)]; omega
  refine pc_enter Try.func46 rfl [] [] (by kernel_rfl) (fun hB => ?_)
  simp [Try.ntmps46, Try.results46, List.replicate_succ]
  refine ncap_pc E _ h ?_
  simp [Kcall, KP]
  refine nlen_pc E _ h ?_
  simp [Kcall, KP, hw]
  exact aPost_same0 hB rfl (nilV_refl _) (by simp) hQ
theorem nplace_pc (h : RB H i s cap q l) (n : Nat) (hn : n ≤ 1048576) (hQ : Q (.int .i64 ((q + n) % cap : Nat)) H) : PC Try.prog E 62 [.ptr (some (i, 0)), .int .i64 n] H Q := by
  obtain ⟨h1, h2, h3, h4, h5, st, h6, h7, h8, h9⟩ := h
  obtain ⟨p, hp⟩ : ∃ p, (q + n) % cap = p := ⟨_, rfl⟩
  have hlt : p < cap := by rw [← hp]; exact Nat.mod_lt _ h2
  have hw : IntKind.i64.wrap ((q : Int) + n) = q + n := wrap_in (by omega) (by omega)
  have hm : ((q : Int) + n).tmod cap = p := by rw [Int.tmod_eq_emod_of_nonneg (by omega), ← hp]; simp
  have hwp : IntKind.i64.wrap (p : Int) = p := wrap_in (by omega) (by omega)
  have hc0 : ¬ (cap : Int) = 0 := by omega
  have hc1 : ¬ cap = 0 := by omega
  rw [hp] at hQ
  clear hp
  refine pc_enter Try.func62 rfl [] [] (by kernel_rfl) (fun hB => ?_)
  simp [Try.ntmps62, Try.results62, List.replicate_succ, h7, hw, hm, hwp, hc0, hc1]
  exact aPost_same0 hB rfl (nilV_refl _) (by simp) hQ
theorem ntwo0_pc (h : RN H r cap q []) (hQ : Q (.tup [.nil, .nil]) H) : PC Try.prog E 65 [nptr r] H Q := by
  refine pc_enter Try.func65 rfl [] [] (by kernel_rfl) (fun hB => ?_)
  simp [Try.ntmps65, Try.results65, List.replicate_succ]
  refine nlen_pc E _ h ?_
  simp [Kcall, KP]
  exact aPost_same0 hB rfl (nilV_refl _) (by simp) hQ
/-- What waits, as it stands in the store. -/
theorem ntwo_pc (h : RB H i s cap q l) (hl : l ≠ []) (hQ : ∀ st ka, st.length = cap → H[s]? = some (c8 st) → ka = Nat.min l.length (cap - q) → 0 < ka → ka ≤ l.length → (st.drop q).take ka = l.take ka → st.take (l.length - ka) = l.drop ka → Q (.tup [.bx s q ka ka 1, .bx s 0 (l.length - ka) (l.length - ka) 1]) H) : PC Try.prog E 65 [.ptr (some (i, 0))] H Q := by
  have hn := h
  have hlt := h.lt
  obtain ⟨h1, h2, h3, h4, h5, st, h6, h7, h8, h9⟩ := h
  have hp : 0 < l.length := List.length_pos_iff.2 hl
  obtain ⟨ka, hka⟩ : ∃ ka, ka = Nat.min l.length (cap - q) := ⟨_, rfl⟩
  obtain ⟨w1, w2⟩ := wait_parts h6 h4 h5 h9
  rw [← hka] at w1 w2
  have k1 : ka ≤ l.length := by rw [hka]; exact Nat.min_le_left _ _
  have k2 : ka ≤ cap - q := by rw [hka]; exact Nat.min_le_right _ _
  have k3 : ka = l.length ∨ ka = cap - q := by
    rw [hka]
    rcases Nat.le_total l.length (cap - q) with h | h
    · exact .inl (Nat.min_eq_left h)
    · exact .inr (Nat.min_eq_right h)
  have hQ' := hQ st ka h6 h8 hka (by omega) k1 w1 w2
  clear hQ hka w1 w2 h9
  obtain ⟨m, hm⟩ : ∃ m, l.length = m := ⟨_, rfl⟩
  have hn2 : RN H (some (i, s)) cap q l := hn
  have e1 : IntKind.i64.wrap ((q : Int) + m) = q + m := wrap_in (by omega) (by omega)
  have e2 : (if (cap : Int) < q + m then (cap : Int) else q + m) = ((q + ka : Nat) : Int) := by split <;> omega
  have e3 : IntKind.i64.wrap (((q + ka : Nat) : Int) - q) = ka := by rw [wrap_in (by omega) (by omega)]; omega
  have e4 : IntKind.i64.wrap ((m : Int) - ka) = (m - ka : Nat) := by rw [wrap_in (by omega) (by omega)]; omega
  have m0 : ((m : Int) == 0) = false := beq_eq_false_iff_ne.2 (by omega)
  obtain ⟨en, hen⟩ : ∃ en, en = q + ka := ⟨_, rfl⟩
  rw [← hen] at e2 e3
  have c1 : q ≤ en ∧ en ≤ cap ∧ ¬ en = q ∧ en - q = ka ∧ m - ka ≤ cap := by omega
  obtain ⟨c1, c2, c3, c4, c5⟩ := c1
  rw [hm] at h7 hQ'
  refine pc_enter Try.func65 rfl [] [] (by kernel_rfl) (fun hB => ?_)
  simp [Try.ntmps65, Try.results65, List.replicate_succ]
  refine nlen_pc E _ hn2 ?_
  obtain ⟨rs, hrs⟩ : ∃ rs, m - ka = rs := ⟨_, rfl⟩
  rw [hrs] at e4 hQ' c5
  clear hen k3 hn hn2 h5 hrs
  simp [Kcall, KP, hm, m0, h7, e1, e2, e3, e4, c1, c2, c3, c4, c5]
  exact aPost_same0 hB rfl (nilV_refl _) (by simp [hlt.2]) hQ'
set_option maxHeartbeats 1000000 in
theorem nput_pc (h : RN H r cap q l) (p : List UInt8) {b c : Nat} {A : List AV} (hr : ∀ i s, r = some (i, s) → b ≠ i ∧ b ≠ s) (hA : H[b]? = some A) (hAp : A.take p.length = c8 p) (hc : p.length ≤ c) (hl : p.length ≤ A.length)
    (hQ : ∀ H', RN H' r cap q (l ++ p.take (cap - l.length)) → OthR H H' r → Q (.int .i64 (Nat.min p.length (cap - l.length) : Nat)) H') : PC Try.prog E 38 [nptr r, .bx b 0 p.length c 1] H Q := by
  have hfit := h.fits
  obtain ⟨n, hn⟩ : ∃ n, Nat.min p.length (cap - l.length) = n := ⟨_, rfl⟩
  have n1 : n ≤ p.length := by rw [← hn]; exact Nat.min_le_left _ _
  have n2 : n ≤ cap - l.length := by rw [← hn]; exact Nat.min_le_right _ _
  have n3 : n = p.length ∨ n = cap - l.length := by
    rw [← hn]
    rcases Nat.le_total p.length (cap - l.length) with h | h
    · exact .inl (Nat.min_eq_left h)
    · exact .inr (Nat.min_eq_right h)
  have hpt : p.take (cap - l.length) = p.take n := by
    rcases n3 with h | h
    · rw [h, List.take_of_length_le (Nat.le_refl _), List.take_of_length_le (by omega)]
    · rw [h]
  rw [hn, hpt] at hQ
  obtain ⟨fre, hfre⟩ : ∃ fre, cap - l.length = fre := ⟨_, rfl⟩
  have e1 : (if fre < p.length then (fre : Int) else p.length) = (n : Int) := by split <;> omega
  refine pc_enter Try.func38 rfl [] [(5, [8, 9, 0, 0, 0, 0, 0, 0, 0, 0, 0, 3, 0]), (6, [8, 8, 0, 0, 0, 0, 0, 0, 0, 0, 3])] (by kernel_rfl) (fun hB => ?_)
  simp [Try.ntmps38, Try.results38, List.replicate_succ]
  refine nfree_pc E _ h ?_
  clear hpt
  rcases Nat.eq_zero_or_pos n with h0 | h0
  · have ez : ((n : Int) == 0) = true := by rw [h0]; rfl
    simp [Kcall, KP, hfre, e1, ez]
    refine aPost_same0 hB rfl (nilV_refl _) (by simp) ?_
    have := hQ H (by rw [h0, List.take_zero, List.append_nil]; exact h) (OthR.refl _ _)
    rw [h0] at this
    exact this
  have ez : ((n : Int) == 0) = false := beq_eq_false_iff_ne.2 (by omega)
  match r, h, hr with
  | none, ⟨h1, _, h2⟩, _ => subst h1; omega
  | some (i, s), h, hr =>
  have h' := h
  obtain ⟨h1, h2, h3, h4, h5, st, h6, h7, h8, h9⟩ := h'
  obtain ⟨hbi, hbs⟩ := hr i s rfl
  have hsl := ltX h8
  have hil := ltX h7
  simp [Kcall, KP, hfre, e1, ez, nptr, h7]
  refine nplace_pc E _ h l.length (by omega) ?_
  obtain ⟨a, ha⟩ : ∃ a, (q + l.length) % cap = a := ⟨_, rfl⟩
  have hac : a < cap := by rw [← ha]; exact Nat.mod_lt _ h2
  have hw := wait_put (p := p.take n) h6 h4 (by rw [List.length_take]; omega) h9
  rw [ha] at hw
  have hwl := putS_len (p := p.take n) h6 hac (by rw [List.length_take]; omega)
  have hAn : A.take n = c8 (p.take n) := by
    have : A.take n = (A.take p.length).take n := by rw [List.take_take]; congr 1; omega
    rw [this, hAp, c8_take]
  have hAl : n ≤ A.length := by omega
  obtain ⟨m, hm⟩ : ∃ m, l.length = m := ⟨_, rfl⟩
  have hwi : IntKind.i64.wrap ((m : Int) + n) = m + n := wrap_in (by omega) (by omega)
  have hplen : (p.take n).length = n := by rw [List.length_take]; omega
  have hac2 : ¬ cap = a := by omega
  have hac3 : a ≤ cap := by omega
  have hc2 : n ≤ c := by omega
  rw [hm] at h7
  have fin : ∀ stx : List UInt8, stx = putS st cap a (p.take n) → Q (.int .i64 n) ((H.set s (c8 stx)).set i [.bx s 0 cap cap 1, .int .i64 q, .int .i64 ((m : Int) + n)]) := fun stx hs => by
    subst hs
    refine hQ _ ⟨h1, h2, h3, h4, by rw [List.length_append, hplen]; omega, _, hwl, ?_, ?_, hw⟩ ⟨by simp, fun j hj => ?_⟩
    · rw [List.getElem?_set_self (by simpa using hil), List.length_append, hplen, hm]; simp
    · rw [getNX h1, List.getElem?_set_self hsl]
    · obtain ⟨q1, q2⟩ := hj i s rfl
      rw [getNX (Ne.symm q1), getNX (Ne.symm q2)]
  clear hQ hw hwl h9 hn e1 hfit
  simp only [ha]
  clear ha
  have gi : ∀ X, (H.set s X)[i]? = some [.bx s 0 cap cap 1, .int .i64 q, .int .i64 m] := fun X => (getNX (Ne.symm h1) X).trans h7
  have gb : ∀ X, (H.set s X)[b]? = some A := fun X => (getNX (Ne.symm hbs) X).trans hA
  have gs : ∀ X, (H.set s X)[s]? = some X := fun X => List.getElem?_set_self hsl
  have bnd : ∀ X : List UInt8, BndH ((H.set s (c8 X)).set i [.bx s 0 cap cap 1, .int .i64 q, .int .i64 ((m : Int) + n)]).length ((H.set s (c8 X)).set i [.bx s 0 cap cap 1, .int .i64 q, .int .i64 ((m : Int) + n)]) := fun X => by
    rw [List.length_set, List.length_set]
    refine bndX_put (bndX_put hB s fun y hy => (c8_smp _ y hy).bnd _) i fun y hy => ?_
    simp at hy
    rcases hy with rfl | rfl | rfl
    · exact .bx _ _ _ _ _ hsl
    · exact .int _ _
    · exact .int _ _
  by_cases hwr : n ≤ cap - a
  · have k1 : a + n ≤ cap := by omega
    have hoff : (if c = n then 0 else n) ≤ A.length := by split <;> omega
    have fin' := fin (st.take a ++ (p.take n ++ st.drop (a + n))) (by unfold putS; rw [hplen, if_pos k1, List.append_assoc])
    have bnd' := bnd (st.take a ++ (p.take n ++ st.drop (a + n)))
    simp only [c8_app, ← c8_take, ← c8_drop] at fin' bnd'
    simp [Kcall, KP, h7, h8, hA, hAl, hAn, hc2, hac2, hac3, hwi, hwr, c8_len, hplen, k1, c8_free, bts_c8, c8_bts, h6, gi, gb, gs, hoff]
    exact aPost_upX rfl (by simp) (by simpa [c8_take] using bnd') (by simp) (by simpa [c8_take] using fin')
  · obtain ⟨f, hf⟩ : ∃ f, cap - a = f := ⟨_, rfl⟩
    have hwr2 : f < n := by omega
    have hwr3 : ¬ n ≤ f := by omega
    have hf2 : f ≤ n := by omega
    have hcf : ¬ c = f := by omega
    have hAd : (A.drop f).take (n - f) = c8 ((p.take n).drop f) := by rw [← List.drop_take, hAn, c8_drop]
    have k2 : f + (n - f) ≤ A.length := by omega
    have k3 : n - f ≤ cap := by omega
    have k4 : a + f ≤ cap := by omega
    have hmn : min f n = f := by omega
    have fin' := fin ((p.take n).drop f ++ (st.take a ++ ((p.take n).take f ++ st.drop (a + f))).drop (n - f)) (by
      unfold putS
      rw [hplen, if_neg (by omega), hf, List.drop_append_of_le_length (by rw [List.length_take]; omega), List.drop_of_length_le (l := st) (by omega), List.append_nil, List.append_assoc])
    have bnd' := bnd ((p.take n).drop f ++ (st.take a ++ ((p.take n).take f ++ st.drop (a + f))).drop (n - f))
    have k5 : n ≤ a + (f + (cap - (a + f))) + f := by omega
    simp only [c8_app, ← c8_take, ← c8_drop] at fin' bnd'
    simp [Kcall, KP, h7, h8, hA, hAl, hAn, hc2, hac2, hac3, hwi, hwr3, c8_len, hplen, hwr2, c8_free, bts_c8, c8_bts, bts_takeE, h6, gi, gb, gs, hf, hmn, hcf, hf2, hAd, k2, k3, k4, k5]
    simp only [c8_app, ← c8_take, ← c8_drop]
    exact aPost_upX rfl (by simp) bnd' (by simp) fin'
theorem ndrop_pc (h : RN H r cap q l) (n : Int) (h1 : -9223372036854775808 ≤ n) (h2 : n ≤ 9223372036854775807) (hQ : ∀ H' q', RN H' r cap q' (l.drop n.toNat) → OthR H H' r → Q (.int .i64 (Nat.min n.toNat l.length : Nat)) H') : PC Try.prog E 50 [nptr r, .int .i64 n] H Q := by
  have hfit := h.fits
  obtain ⟨m, hm⟩ : ∃ m, Nat.min n.toNat l.length = m := ⟨_, rfl⟩
  have m1 : m ≤ n.toNat := by rw [← hm]; exact Nat.min_le_left _ _
  have m2 : m ≤ l.length := by rw [← hm]; exact Nat.min_le_right _ _
  have m3 : m = n.toNat ∨ m = l.length := by
    rw [← hm]
    rcases Nat.le_total n.toNat l.length with h | h
    · exact .inl (Nat.min_eq_left h)
    · exact .inr (Nat.min_eq_right h)
  have hdr : l.drop n.toNat = l.drop m := by
    rcases m3 with h | h
    · rw [h]
    · rw [h, List.drop_length, List.drop_of_length_le (by omega)]
  rw [hm, hdr] at hQ
  obtain ⟨k, hk⟩ : ∃ k, l.length = k := ⟨_, rfl⟩
  obtain ⟨x, hx⟩ : ∃ x : Int, (if n < 0 then 0 else n) = x := ⟨_, rfl⟩
  have hx2 : x = n.toNat := by rw [← hx]; split <;> omega
  have e1 : (if (k : Int) < x then (k : Int) else x) = (m : Int) := by split <;> omega
  clear hm hdr
  refine pc_enter Try.func50 rfl [] [] (by kernel_rfl) (fun hB => ?_)
  simp [Try.ntmps50, Try.results50, List.replicate_succ, hx]
  refine nlen_pc E _ h ?_
  rcases Nat.eq_zero_or_pos m with h0 | h0
  · have ez : ((m : Int) == 0) = true := by rw [h0]; rfl
    simp [Kcall, KP, hk, e1, ez]
    refine aPost_same0 hB rfl (nilV_refl _) (by simp) ?_
    have := hQ H q (by rw [h0]; exact h) (OthR.refl _ _)
    rw [h0] at this
    exact this
  have ez : ((m : Int) == 0) = false := beq_eq_false_iff_ne.2 (by omega)
  match r, h with
  | none, ⟨_, _, h3⟩ => subst h3; simp at hk; omega
  | some (i, s), h =>
  have h' := h
  obtain ⟨g1, g2, g3, g4, g5, st, g6, g7, g8, g9⟩ := h'
  have hsl := ltX g8
  have hil := ltX g7
  rw [hk] at g7
  simp [Kcall, KP, hk, e1, ez, nptr, g7]
  refine nplace_pc E _ h m (by omega) ?_
  obtain ⟨a, ha⟩ : ∃ a, (q + m) % cap = a := ⟨_, rfl⟩
  have hac : a < cap := by rw [← ha]; exact Nat.mod_lt _ g2
  have hw := wait_drop (n := m) g9
  rw [ha] at hw
  have hwi : IntKind.i64.wrap ((k : Int) - m) = ((k - m : Nat) : Int) := by rw [wrap_in (by omega) (by omega)]; omega
  obtain ⟨km, hkm⟩ : ∃ km, k - m = km := ⟨_, rfl⟩
  rw [hkm] at hwi
  have gi : ∀ X, (H.set i X)[i]? = some X := fun X => List.getElem?_set_self hil
  have fin : Q (.int .i64 m) (H.set i [.bx s 0 cap cap 1, .int .i64 a, .int .i64 km]) := hQ _ a ⟨g1, g2, g3, hac, by rw [List.length_drop]; omega, st, g6, by rw [List.getElem?_set_self hil, List.length_drop, hk, hkm], by rw [getNX g1]; exact g8, hw⟩ ⟨by simp, fun j hj => getNX (Ne.symm (hj i s rfl).1) _⟩
  clear hQ hw g9
  simp only [ha]
  simp [Kcall, KP, g7, gi, hwi]
  refine aPost_upX rfl (by simp) ?_ (by simp) fin
  rw [List.length_set]
  refine bndX_put hB i fun y hy => ?_
  simp at hy
  rcases hy with rfl | rfl | rfl
  · exact .bx _ _ _ _ _ hsl
  · exact .int _ _
  · exact .int _ _
/-- Bytes in a new box. -/
def peekB (l : List UInt8) (fr n : Int) : List UInt8 := if fr < 0 ∨ n < 0 ∨ (l.length : Int) < fr then [] else (l.drop fr.toNat).take n.toNat
theorem npeek0_pc (h : RN H r cap q l) (fr n : Int) (hbad : fr < 0 ∨ n < 0 ∨ (l.length : Int) < fr) (hQ : Q .nil H) : PC Try.prog E 41 [nptr r, .int .i64 fr, .int .i64 n] H Q := by
  refine pc_enter Try.func41 rfl [39, 56] [(5, [0, 3, 0]), (7, [0, 0, 0, 0, 0, 0, 0, 0, 0, 0, 3, 0]), (10, [0, 0, 0, 0, 0, 0, 0, 0, 0, 0, 3, 0])] (by kernel_rfl) (fun hB => ?_)
  by_cases b1 : fr < 0
  · simp [Try.ntmps41, Try.results41, List.replicate_succ, b1]
    exact aPost_same0 hB rfl (nilV_refl _) (by simp) hQ
  by_cases b2 : n < 0
  · simp [Try.ntmps41, Try.results41, List.replicate_succ, b1, b2]
    exact aPost_same0 hB rfl (nilV_refl _) (by simp) hQ
  have b3 : (l.length : Int) < fr := by rcases hbad with h | h | h <;> omega
  simp [Try.ntmps41, Try.results41, List.replicate_succ, b1, b2]
  refine nlen_pc E _ h ?_
  simp [Kcall, KP, b3]
  exact aPost_same0 hB rfl (nilV_refl _) (by simp) hQ
set_option maxHeartbeats 1000000 in
theorem npeek_pc (h : RN H r cap q l) (fr : Nat) (n : Int) (hn0 : 0 ≤ n) (hn1 : n ≤ 9223372036854775807) (hfr : fr ≤ l.length)
    (hQ : ∀ k, k = ((l.drop fr).take n.toNat).length → Q (.bx H.length 0 k k 1) (H ++ [c8 ((l.drop fr).take n.toNat)])) : PC Try.prog E 41 [nptr r, .int .i64 fr, .int .i64 n] H Q := by
  have hfit := h.fits
  obtain ⟨k, hk⟩ : ∃ k, ((l.drop fr).take n.toNat).length = k := ⟨_, rfl⟩
  have hk2 : k = Nat.min n.toNat (l.length - fr) := by rw [← hk, List.length_take, List.length_drop]
  have k1 : k ≤ l.length - fr := by rw [hk2]; exact Nat.min_le_right _ _
  have k2 : k ≤ n.toNat := by rw [hk2]; exact Nat.min_le_left _ _
  have k3 : k = n.toNat ∨ k = l.length - fr := by
    rw [hk2]
    rcases Nat.le_total n.toNat (l.length - fr) with h | h
    · exact .inl (Nat.min_eq_left h)
    · exact .inr (Nat.min_eq_right h)
  have hQ' := hQ k hk.symm
  clear hQ
  obtain ⟨m, hm⟩ : ∃ m, l.length = m := ⟨_, rfl⟩
  have b1 : ¬ (fr : Int) < 0 := by omega
  have b2 : ¬ n < 0 := by omega
  have b3 : ¬ m < fr := by omega
  have w1 : IntKind.i64.wrap ((m : Int) - fr) = m - fr := wrap_in (by omega) (by omega)
  have e1 : (if (m : Int) - fr < n then (m : Int) - fr else n) = (k : Int) := by split <;> omega
  have hkm : (k : Int) ≤ 140737488355328 := by omega
  refine pc_enter Try.func41 rfl [39, 56] [(5, [0, 3, 0]), (7, [0, 0, 0, 0, 0, 0, 0, 0, 0, 0, 3, 0]), (10, [0, 0, 0, 0, 0, 0, 0, 0, 0, 0, 3, 0])] (by kernel_rfl) (fun hB => ?_)
  simp [Try.ntmps41, Try.results41, List.replicate_succ, b1, b2]
  refine nlen_pc E _ h ?_
  simp [Kcall, KP, hm, b3]
  refine nlen_pc E _ h ?_
  simp [Kcall, KP, hm, w1, e1]
  have w0 : IntKind.i64.wrap 0 = 0 := rfl
  have hHn : ∀ X : List AV, (H ++ [X])[H.length]? = some X := fun X => by simp
  have hHs : ∀ X Y : List AV, (H ++ [X]).set H.length Y = H ++ [Y] := fun X Y => by simp
  have bnd : ∀ L : List UInt8, BndH (H ++ [c8 L]).length (H ++ [c8 L]) := fun L => bndX_app (bndX_up hB (by simp)) fun X hX y hy => by
    simp at hX; subst hX
    exact (c8_smp _ y hy).bnd _
  by_cases hl0 : l = []
  · subst hl0
    refine ntwo0_pc E _ h ?_
    simp at hm
    subst hm
    obtain rfl : fr = 0 := by omega
    obtain rfl : k = 0 := by omega
    simp [Kcall, KP, w0, hHn, hHs]
    refine aPost_upX rfl (by simp) (bnd []) (by simp) (by simpa [c8] using hQ')
  · match r, h with
    | none, ⟨_, _, h3⟩ => exact absurd h3 hl0
    | some (i, s), h =>
    refine ntwo_pc E _ h hl0 (fun st ka g1 g2 g3 g4 g5 g6 g7 => ?_)
    rw [hm] at g5 g7
    have hsl := ltX g2
    have gs : ∀ J, (H ++ J)[s]? = some (c8 st) := fun J => (List.getElem?_append_left hsl).trans g2
    rw [hm]
    have hrep : List.replicate k (AV.int .u8 0) = c8 (List.replicate k 0) := by simp [c8]
    have hmc : m ≤ cap := by omega
    have q1 : q < cap := by obtain ⟨_, _, _, q1, _⟩ := h; exact q1
    have q2 : ka ≤ cap - q := by rw [g3]; exact Nat.min_le_right _ _
    by_cases hA : fr < ka
    · obtain ⟨te, hte⟩ : ∃ te, Nat.min ka (fr + k) = te := ⟨_, rfl⟩
      have t1 : te ≤ ka := by rw [← hte]; exact Nat.min_le_left _ _
      have t2 : te ≤ fr + k := by rw [← hte]; exact Nat.min_le_right _ _
      have t3 : te = ka ∨ te = fr + k := by
        rw [← hte]
        rcases Nat.le_total ka (fr + k) with h | h
        · exact .inl (Nat.min_eq_left h)
        · exact .inr (Nat.min_eq_right h)
      obtain ⟨t, ht⟩ : ∃ t, te - fr = t := ⟨_, rfl⟩
      have tfr : fr ≤ te := by omega
      have w2 : IntKind.i64.wrap ((fr : Int) + k) = fr + k := wrap_in (by omega) (by omega)
      have e2 : (if (fr : Int) + k < ka then (fr : Int) + k else ka) = (te : Int) := by split <;> omega
      have w3 : IntKind.i64.wrap (k : Int) = k := wrap_in (by omega) (by omega)
      have w4 : IntKind.i64.wrap ((k : Int) - t) = (k - t : Nat) := by rw [wrap_in (by omega) (by omega)]; omega
      obtain ⟨u, hu⟩ : ∃ u, k - t = u := ⟨_, rfl⟩
      rw [hu] at w4
      have hS1 : ((c8 st).drop (q + fr)).take t = c8 (((l.take ka).drop fr).take t) := by
        rw [← g6, List.drop_take, List.drop_drop, List.take_take, c8_drop, c8_take, Nat.min_eq_left (by omega)]
      have hS2 : (c8 st).take u = c8 (((l.drop ka).drop 0).take u) := by
        rw [← g7, List.drop_zero, List.take_take, c8_take, Nat.min_eq_left (by omega)]
      have hfin := peek_plain l fr n.toNat k ka t hk2 (by rw [hte, ht]) hA (by omega)
      rw [hu] at hfin
      have l1 : (((l.take ka).drop fr).take t).length = t := by rw [List.length_take, List.length_drop, List.length_take]; omega
      have l2 : (((l.drop ka).drop 0).take u).length = u := by rw [List.length_take, List.length_drop, List.length_drop]; omega
      obtain ⟨A1, hA1⟩ : ∃ A1, ((l.take ka).drop fr).take t = A1 := ⟨_, rfl⟩
      obtain ⟨A2, hA2⟩ : ∃ A2, ((l.drop ka).drop 0).take u = A2 := ⟨_, rfl⟩
      rw [hA1] at hS1 l1 hfin
      rw [hA2] at hS2 l2 hfin
      have d1 : ¬ ka = fr := by omega
      have d2 : q + fr + t ≤ cap := by omega
      have d3 : t ≤ k := by omega
      have d4 : u ≤ m - ka := by omega
      have d5 : u ≤ cap := by omega
      have d6 : t + u = k := by omega
      clear hte t3
      simp [Kcall, KP, hkm, hA, w2, e2, w0, w3, w4, tfr, t1, d1, d2, d3, d4, d5, d6, ht, hS1, hS2, gs, g1, c8_len, c8_free, c8_bts, bts_c8, hHn, hHs, l1, l2]
      have hz : List.drop k (c8 A1 ++ List.replicate (k - t) (AV.int .u8 0)) = [] := List.drop_of_length_le (by rw [List.length_append, c8_len, List.length_replicate]; omega)
      rw [hz, List.append_nil, ← c8_app, hfin]
      exact aPost_upX rfl (by simp) (bnd _) (by simp) hQ'
    · obtain ⟨f, hf⟩ : ∃ f, fr - ka = f := ⟨_, rfl⟩
      obtain ⟨g, hg⟩ : ∃ g, f + k = g := ⟨_, rfl⟩
      have w2 : IntKind.i64.wrap ((fr : Int) - ka) = f := by rw [wrap_in (by omega) (by omega)]; omega
      have w3 : IntKind.i64.wrap ((f : Int) + k) = g := by rw [wrap_in (by omega) (by omega)]; omega
      have w4 : IntKind.i64.wrap (g : Int) = g := wrap_in (by omega) (by omega)
      have hS : ((c8 st).drop (if m - ka = f then 0 else f)).take k = c8 ((l.drop fr).take n.toNat) := by
        have e0 : (l.drop fr).take n.toNat = (l.drop fr).take k := by
          rcases k3 with h | h
          · rw [h]
          · rw [List.take_of_length_le (by rw [List.length_drop]; omega), List.take_of_length_le (by rw [List.length_drop]; omega)]
        rw [e0]
        by_cases h0 : m - ka = f
        · obtain rfl : k = 0 := by omega
          simp [c8]
        · rw [if_neg h0, c8_drop, c8_take, show fr = ka + f by omega, ← List.drop_drop, ← g7, List.drop_take, List.take_take, Nat.min_eq_left (by omega)]
      have hoff : (if m - ka = f then 0 else f) + k ≤ cap := by split <;> omega
      obtain ⟨off, ho⟩ : ∃ off, (if m - ka = f then 0 else f) = off := ⟨_, rfl⟩
      rw [ho] at hS hoff
      have d1 : f ≤ g := by omega
      have d2 : g ≤ m - ka := by omega
      have d3 : g - f = k := by omega
      obtain ⟨L, hL⟩ : ∃ L, (l.drop fr).take n.toNat = L := ⟨_, rfl⟩
      rw [hL] at hS hk hQ'
      clear hg hf
      simp [Kcall, KP, hkm, hA, w0, w2, w3, w4, d1, d2, d3, ho, hS, hoff, gs, g1, c8_len, c8_free, c8_bts, bts_c8, hHn, hHs, hk]
      exact aPost_upX rfl (by simp) (bnd _) (by simp) hQ'
set_option maxHeartbeats 1000000 in
theorem nparts_pc (h : RN H r cap q l) (hQ : ∀ (K : Hp) (a b : AV) (la lb : List UInt8), la ++ lb = l → B8 K H.length a la → B8 K H.length b lb → dif a b → Kpt H K → BndH K.length K → Q (.tup [a, b]) K) : PC Try.prog E 52 [nptr r] H Q := by
  have hfit := h.fits
  refine pc_enter Try.func52 rfl [11, 14] [(2, [3, 0, 3, 3, 0, 3, 0, 0])] (by kernel_rfl) (fun hB => ?_)
  simp [Try.ntmps52, Try.results52, List.replicate_succ]
  by_cases hl0 : l = []
  · subst hl0
    refine ntwo0_pc E _ h ?_
    simp [Kcall, KP]
    have hb : BndH (H ++ [[], []]).length (H ++ [[], []]) := bndX_app (bndX_up hB (by simp)) fun X hX y hy => by
      simp at hX; subst hX; cases hy
    refine aPost_upX rfl (by simp) hb (by simp) (hQ _ _ _ [] [] rfl ?_ ?_ (fun i o n c k i' o' n' c' k' e e' => by cases e; cases e'; omega) (Kpt.app _ _) hb)
    · exact B8.of_box (A := []) (by simp) (by simp) (by simp) (by simp [c8]) (by simp) (by unfold maxLen; omega) (by simp)
    · exact B8.of_box (A := []) (by simp) (by simp) (by simp) (by simp [c8]) (by simp) (by unfold maxLen; omega) (by simp)
  · match r, h with
    | none, ⟨_, _, h3⟩ => exact absurd h3 hl0
    | some (i, s), h =>
    refine ntwo_pc E _ h hl0 (fun st ka g1 g2 g3 g4 g5 g6 g7 => ?_)
    have hsl := ltX g2
    have gs : ∀ J, (H ++ J)[s]? = some (c8 st) := fun J => (List.getElem?_append_left hsl).trans g2
    have q1 : q < cap := by obtain ⟨_, _, _, q1, _⟩ := h; exact q1
    have q2 : ka ≤ cap - q := by rw [g3]; exact Nat.min_le_right _ _
    obtain ⟨la, hla⟩ : ∃ la, l.take ka = la := ⟨_, rfl⟩
    obtain ⟨lb, hlb⟩ : ∃ lb, l.drop ka = lb := ⟨_, rfl⟩
    have hab : la ++ lb = l := by rw [← hla, ← hlb, List.take_append_drop]
    have l1 : la.length = ka := by rw [← hla, List.length_take]; omega
    have l2 : lb.length = l.length - ka := by rw [← hlb, List.length_drop]
    obtain ⟨kb, hkb⟩ : ∃ kb, l.length - ka = kb := ⟨_, rfl⟩
    have hS1 : ((c8 st).drop q).take ka = c8 la := by rw [c8_drop, c8_take, g6, hla]
    have hS2 : (c8 st).take kb = c8 lb := by rw [c8_take, ← hkb, g7, hlb]
    have d1 : q + ka ≤ cap := by omega
    have d2 : kb ≤ cap := by omega
    have d3 : ¬ bts la = [] := fun e => by have := congrArg List.length e; rw [bts_len] at this; simp at this; rw [this] at l1; simp at l1; omega
    have d4 : ka ≤ maxLen ∧ ka ≤ 140737488355328 := by unfold maxLen; omega
    have d5 : ka ≤ 140737488355328 := d4.2
    have d6 : kb ≤ maxLen := by unfold maxLen; omega
    have d7 : kb ≤ 140737488355328 := by omega
    have d0 : ¬ ka = 0 := by omega
    rw [hkb] at l2 ⊢
    simp [Kcall, KP, gs, g1, hS1, hS2, d1, d2, d3, d4.1, d5, d0, c8_len, l1, l2, c8_bts, bts_c8, c8_free]
    refine VGrow_intro fun c hc1 hc2 => ?_
    have sm1 : ∀ y ∈ c8 la ++ List.replicate (c - ka) (AV.int .u8 0), smp y := fun y hy => by
      rcases List.mem_append.1 hy with h | h
      · exact c8_smp _ y h
      · rw [(List.mem_replicate.1 h).2]; exact smp_int _ _
    have p1 : (c8 la ++ List.replicate (c - ka) (AV.int .u8 0)).take ka = c8 la := by rw [List.take_append_of_le_length (by rw [c8_len]; omega), List.take_of_length_le (by rw [c8_len]; omega)]
    have ln1 : (c8 la ++ List.replicate (c - ka) (AV.int .u8 0)).length = c := by rw [List.length_append, c8_len, List.length_replicate]; omega
    obtain ⟨B1, hB1⟩ : ∃ B1, c8 la ++ List.replicate (c - ka) (AV.int .u8 0) = B1 := ⟨_, rfl⟩
    rw [hB1] at sm1 p1 ln1
    by_cases hk0 : kb = 0
    · subst hk0
      obtain rfl : lb = [] := List.eq_nil_of_length_eq_zero l2
      simp [Kcall, KP, gs, g1, hS1, hS2, d1, d2, d3, d4.1, d5, d0, c8_len, l1, l2, c8_bts, bts_c8, c8_free, hB1]
      have hb : BndH (H ++ [[], B1, []]).length (H ++ [[], B1, []]) := bndX_app (bndX_up hB (by simp)) fun X hX y hy => by
        simp at hX
        rcases hX with rfl | rfl | rfl
        · cases hy
        · exact (sm1 y hy).bnd _
        · cases hy
      refine aPost_upX rfl (by simp) hb (by simp) (hQ _ _ _ la [] hab ?_ ?_ (fun i o n c k i' o' n' c' k' e e' => by cases e; cases e'; omega) (Kpt.app _ _) hb)
      · exact B8.of_box (by omega) (A := B1) (by simp) l1 p1 hc1 hc2 ln1 sm1
      · exact B8.of_box (A := []) (by omega) (by simp) (by simp) (by simp [c8]) (by simp) (by unfold maxLen; omega) (by simp)
    · have d8 : ¬ bts lb = [] := fun e => by have := congrArg List.length e; rw [bts_len] at this; simp at this; rw [this] at l2; simp at l2; omega
      simp [Kcall, KP, gs, g1, hS1, hS2, d1, d2, d3, d4.1, d5, d0, d6, d7, d8, hk0, c8_len, l1, l2, c8_bts, bts_c8, c8_free, hB1]
      refine VGrow_intro fun c2 hc3 hc4 => ?_
      have sm2 : ∀ y ∈ c8 lb ++ List.replicate (c2 - kb) (AV.int .u8 0), smp y := fun y hy => by
        rcases List.mem_append.1 hy with h | h
        · exact c8_smp _ y h
        · rw [(List.mem_replicate.1 h).2]; exact smp_int _ _
      have p2 : (c8 lb ++ List.replicate (c2 - kb) (AV.int .u8 0)).take kb = c8 lb := by rw [List.take_append_of_le_length (by rw [c8_len]; omega), List.take_of_length_le (by rw [c8_len]; omega)]
      have ln2 : (c8 lb ++ List.replicate (c2 - kb) (AV.int .u8 0)).length = c2 := by rw [List.length_append, c8_len, List.length_replicate]; omega
      obtain ⟨B2, hB2⟩ : ∃ B2, c8 lb ++ List.replicate (c2 - kb) (AV.int .u8 0) = B2 := ⟨_, rfl⟩
      rw [hB2] at sm2 p2 ln2
      simp [hB1, hB2]
      have hb : BndH (H ++ [[], B1, [], B2]).length (H ++ [[], B1, [], B2]) := bndX_app (bndX_up hB (by simp)) fun X hX y hy => by
        simp at hX
        rcases hX with rfl | rfl | rfl | rfl
        · cases hy
        · exact (sm1 y hy).bnd _
        · cases hy
        · exact (sm2 y hy).bnd _
      refine aPost_upX rfl (by simp) hb (by simp) (hQ _ _ _ la lb hab ?_ ?_ (fun i o n c k i' o' n' c' k' e e' => by cases e; cases e'; omega) (Kpt.app _ _) hb)
      · exact B8.of_box (by omega) (A := B1) (by simp) l1 p1 hc1 hc2 ln1 sm1
      · exact B8.of_box (by omega) (A := B2) (by simp) l2 p2 hc3 hc4 ln2 sm2
/-- Peek and Take, their answer a box of one's own. -/
theorem npeekB_pc (h : RN H r cap q l) (fr n : Int) (h1 : -9223372036854775808 ≤ fr) (h2 : fr ≤ 9223372036854775807) (h3 : n ≤ 9223372036854775807)
    (hQ : ∀ (K : Hp) (a : AV), B8 K H.length a (peekB l fr n) → Kpt H K → BndH K.length K → RN K r cap q l → Q a K) : PC Try.prog E 41 [nptr r, .int .i64 fr, .int .i64 n] H Q := by
  by_cases hb : fr < 0 ∨ n < 0 ∨ (l.length : Int) < fr
  · refine PC.bnd (npeek0_pc E _ h fr n hb (fun hb1 _ => hQ H .nil ?_ (Kpt.refl _) hb1 h))
    rw [peekB, if_pos hb]
    exact B8.nil _ _
  · obtain ⟨f, rfl⟩ : ∃ f : Nat, fr = f := ⟨fr.toNat, by omega⟩
    refine PC.bnd (npeek_pc E _ h f n (by omega) h3 (by omega) (fun k hk hb1 _ => hQ _ _ ?_ (Kpt.app _ _) hb1 (h.app _)))
    rw [peekB, if_neg hb]
    have hkm : k ≤ 1048576 := by
      have := h.fits
      rw [hk, List.length_take, List.length_drop]; omega
    exact B8.of_box (A := c8 ((l.drop f).take n.toNat)) (Nat.le_refl _) (by simp) hk.symm (by rw [hk, c8_take, List.take_length]; rfl) (Nat.le_refl _) (by unfold maxLen; omega) (by rw [c8_len, hk]) (c8_smp _)
theorem ntakeB_pc (h : RN H r cap q l) (n : Int) (h1 : -9223372036854775808 ≤ n) (h2 : n ≤ 9223372036854775807)
    (hQ : ∀ (K : Hp) (a : AV) (q' : Nat), B8 K H.length a (l.take n.toNat) → H.length ≤ K.length → (∀ j, j < H.length → (∀ i s, r = some (i, s) → j ≠ i ∧ j ≠ s) → K[j]? = H[j]?) → BndH K.length K → RN K r cap q' (l.drop n.toNat) → Q a K) : PC Try.prog E 45 [nptr r, .int .i64 n] H Q := by
  obtain ⟨x, hx⟩ : ∃ x : Int, (if n < 0 then 0 else n) = x := ⟨_, rfl⟩
  have hx2 : x = n.toNat := by rw [← hx]; split <;> omega
  have hlt := h.lt
  refine pc_enter Try.func45 rfl [] [] (by kernel_rfl) (fun hB => ?_)
  simp [Try.ntmps45, Try.results45, List.replicate_succ, hx]
  refine npeekB_pc E _ h 0 x (by omega) (by omega) (by omega) (fun K a hB8 hK hb1 hR => ?_)
  obtain ⟨vf, vo, vd, vb⟩ := hB8.facts
  have hpk : peekB l 0 x = l.take n.toNat := by
    rw [peekB, if_neg (by omega), show x.toNat = n.toNat by omega]
    rfl
  rw [hpk] at hB8
  simp [Kcall, KP, vd]
  refine PC.bnd (ndrop_pc E _ hR n h1 h2 (fun H' q' hR' ho hb2 _ => ?_))
  have hB' : B8 H' H.length a (l.take n.toNat) := BX.of_eq hB8 (fun i' _ _ _ _ e => ho.2 _ fun i s e' => by
    have e1 := (BX.lt hB8 _ _ _ _ _ e).1
    have e2 := hlt i s e'
    have e3 : H.length ≤ i' := e1
    omega) (fun i' _ _ _ _ e => (BX.lt hB8 _ _ _ _ _ e).1) (fun _ _ _ _ h => h)
  simp [Kcall, KP, vd]
  refine aPost_upX rfl (by have := ho.1; have := hK.1; omega) hb2 ?_ (hQ H' a q' hB' (by have := ho.1; have := hK.1; omega) (fun j hj hjr => (ho.2 j hjr).trans (hK.2 j hj)) hb2 hR')
  exact (BX.facts hB').2.2.2
theorem nnew_pc (c : Int) (hQ1 : ∀ n : Nat, c = n → 1 ≤ n → n ≤ 1048576 → RN (H ++ [c8 (List.replicate n 0), [.bx H.length 0 n n 1, .int .i64 0, .int .i64 0]]) (some (H.length + 1, H.length)) n 0 [] → Q (.tup [nptr (some (H.length + 1, H.length)), .int .i64 0]) (H ++ [c8 (List.replicate n 0), [.bx H.length 0 n n 1, .int .i64 0, .int .i64 0]]))
    (hQ2 : c < 1 ∨ 1048576 < c → Q (.tup [nptr none, .int .i64 20]) H) : PC Try.prog E 43 [.int .i64 c] H Q := by
  refine pc_enter Try.func43 rfl [] [(3, [0, 3, 0, 0, 0, 0])] (by kernel_rfl) (fun hB => ?_)
  by_cases b1 : c < 1
  · simp [Try.ntmps43, Try.results43, List.replicate_succ, b1]
    exact aPost_same0 hB rfl (nilV_refl _) (by simp) (hQ2 (.inl b1))
  by_cases b2 : 1048576 < c
  · simp [Try.ntmps43, Try.results43, List.replicate_succ, b1, b2]
    exact aPost_same0 hB rfl (nilV_refl _) (by simp) (hQ2 (.inr b2))
  obtain ⟨n, rfl⟩ : ∃ n : Nat, c = n := ⟨c.toNat, by omega⟩
  have d1 : (n : Int) ≤ 140737488355328 := by omega
  have d2 : ¬ (n : Int) < 1 := by omega
  have d3 : ¬ (1048576 : Int) < n := by omega
  have d4 : ¬ 1048576 < n := by omega
  have d5 : ¬ n = 0 := by omega
  simp [Try.ntmps43, Try.results43, List.replicate_succ, d1, d2, d3, d4, d5]
  have hrep : List.replicate n (AV.int .u8 0) = c8 (List.replicate n 0) := by simp [c8]
  rw [hrep]
  refine aPost_upX rfl (by simp) ?_ (by simp) (hQ1 n rfl (by omega) (by omega) ⟨by omega, by omega, by omega, by omega, by simp, List.replicate n 0, by simp, by simp, by simp, fun j x hx => by simp at hx⟩)
  refine bndX_app (bndX_up hB (by simp)) fun X hX y hy => ?_
  simp at hX
  rcases hX with rfl | rfl
  · exact (c8_smp _ y hy).bnd _
  · simp at hy
    rcases hy with rfl | rfl
    · exact .bx _ _ _ _ _ (by simp)
    · exact .int _ _
end
end Go.Proofs.Ytgofogcfolhonaa

set_option linter.unusedVariables false
set_option linter.unusedSimpArgs false
namespace Go.Proofs.Ytgofogcfolhonaa
open Go Go.ChangeShapes Go.WideShapes Go.ChangeAt Go.RowKit Go.Deep

theorem Try.own : ownKnob Try.prog.godebug = none := by kernel_rfl
theorem Try.laidOut : laidOutB Try.prog = true := by kernel_rfl

section
variable {H : Type} {enc : TypeId × Value → H}

/-- ARGUMENTS READ AGAIN where nothing old has turned. -/
theorem Frm.trodAll {P : Program} (hl : laidOutB P = true) {W W' : World} (hF : Frm (fun _ => False) W W') (sp : Nat → Bool) : ∀ {ts : List TypeId} {vs : List Value} {ds : List (DataW H)} {ps : List MemPlace}, (∀ t ∈ ts, P.readableRec t = true ∧ t < P.types.size) → DataW.TrodAll enc P W 0 (fun _ => true) true ts vs ds ps → (∀ p ∈ ps, sp p.block = true) → (∀ p ∈ ps, p.block < W.heap.size) → DataW.TrodAll enc P W' 0 sp true ts vs ds ps
  | [], [], [], _, _, h, _, _ => h
  | _ :: _, _ :: _, _ :: _, _, hT, ⟨p, q, h1, h2, e⟩, hs, hlt =>
    ⟨p, q, WideElems.Trod_stays hl (hT _ (List.mem_cons.2 (Or.inl rfl))).1 (hT _ (List.mem_cons.2 (Or.inl rfl))).2 h1
      (fun x hx => (hF.toBelow (Nat.le_refl _) (fun _ _ => id)).same (hlt x (by rw [e]; exact List.mem_append_left _ hx))) (fun x hx => hs x (by rw [e]; exact List.mem_append_left _ hx)),
      Frm.trodAll hl hF sp (fun t ht => hT t (List.mem_cons.2 (Or.inr ht))) h2 (fun x hx => hs x (by rw [e]; exact List.mem_append_right _ hx)) (fun x hx => hlt x (by rw [e]; exact List.mem_append_right _ hx)), e⟩

/-- THE POST OF A LAW: true, and nothing old has turned. -/
theorem law_post {P : Program} (hl : laidOutB P = true) {f : Func} {s : ChangeSpec} {W W' : World} {args : Array Value} {ds gs : List (DataW H)} {before : List MemPlace} {tb : TypeId} (hb : P.underlying tb = some .bool)
    (hr : f.resultTypes = #[tb]) (hs : s.vars = []) (hT : f.params.all (fun t => P.readableRec t && decide (t < P.types.size)) = true)
    (hspec : s.fn H ds = { results := [.lit (.bool true)], args := ds })
    (hW : DataW.Whole enc P f.params.toList s.vars false W args.toList ds gs before) (hF : Frm (fun _ => False) W W') :
    s.post enc P f false true false false W args (.bool true) W' := by
  have hT' : ∀ t ∈ f.params.toList, P.readableRec t = true ∧ t < P.types.size := by
    intro t ht
    have := Array.all_eq_true_iff_forall_mem.1 hT t (by simpa using ht)
    simpa using this
  have hW' := hW
  obtain ⟨p, q, hA, hV, rfl, hfz, hnd⟩ := hW
  rw [hs] at hV
  obtain ⟨rfl, rfl⟩ := trodVars_none hV
  have hB := hF.toBelow (Nat.le_refl _) (fun _ _ => id)
  simp only [List.append_nil] at hW' hfz
  have hold : ∀ x ∈ p, decide (x.block < W.heap.size) = true := fun x hx => by simpa using hW'.lt x hx
  have hargs : ∀ sp : Nat → Bool, (∀ x ∈ p, sp x.block = true) → DataW.TrodAll enc P W' 0 sp true f.params.toList args.toList ds p := fun sp h => hF.trodAll hl sp hT' hA h (fun x hx => hW'.lt x hx)
  have hres : ∀ (b : Nat) (sp : Nat → Bool) (hd : Bool), DataW.TrodAll enc P W' b sp hd f.resultTypes.toList ((Value.bool true).resultList f.resultTypes.size) [.lit (.bool true)] [] := fun b sp hd => by
    rw [hr]; exact trodAll_mk1 (shut_bool hb true)
  have e1 : (s.fn H (ds ++ [])) = { results := [.lit (.bool true)], args := ds } := by rw [List.append_nil]; exact hspec
  refine ⟨ds, [], p, [], p, [], hW', ?_, ?_, ?_, World.keptBut_mono (fun x hx => hx) (hB.frame _), fun h => by cases h⟩
  · rw [e1]; exact hres _ _ _
  · rw [e1]; exact hargs _ hold
  · rw [e1, hs]; exact rfl

/-- From 'for each i there is' to a list. -/
theorem list_lt {α : Type} {n : Nat} {p : Nat → α → Prop} (h : ∀ i, i < n → ∃ x, p i x) : ∃ l : List α, l.length = n ∧ ∀ i x, l[i]? = some x → p i x := by
  induction n with
  | zero => exact ⟨[], rfl, fun i x hx => by simp at hx⟩
  | succ n ih =>
    obtain ⟨l, hl, hp⟩ := ih (fun i hi => h i (by omega))
    obtain ⟨y, hy⟩ := h n (by omega)
    refine ⟨l ++ [y], by simp [hl], fun i x hx => ?_⟩
    by_cases hi : i < l.length
    · exact hp i x (by rwa [List.getElem?_append_left hi] at hx)
    · rw [List.getElem?_append_right (by omega)] at hx
      have : i - l.length = 0 := by
        have := (List.getElem?_eq_some_iff.1 hx).1
        simp at this; omega
      rw [this] at hx
      simp at hx
      subst hx
      rw [show i = n by omega]; exact hy

/-- AN ARGUMENT OR A CELL THAT IS A SLICE: its rows as a list; the row's cells lie at the slice's own address, which is plain. -/
theorem open_rows {P : Program} {w : World} {base : Nat} {spare : Nat → Bool} {held : Bool} {t e : TypeId} {fuel : Nat} {cs : List Value} {x : DataW H × List MemPlace} {α : Type} (k : Nat) (hk : 0 < k) (q : Addr → α → Prop)
    (ht : P.underlying t = some (.slice e)) (hc : P.cellsOf e = k)
    (hq : ∀ a n cs' d pl, w.cells? base a k = some cs' → DataW.trod enc P w base spare held n e cs' = some (d, pl) → ∃ x, q ⟨a.block, a.off, none⟩ x)
    (h : DataW.trod enc P w base spare held fuel t cs = some x) :
    ∃ (bo : Option Addr) (len cap : Nat) (l : List α), cs = [.slice bo len cap] ∧ l.length = len ∧ len ≤ cap ∧ cap ≤ maxLen ∧ (∀ el sp, x.1 = .slice el sp → len ≤ el.length) ∧ (x.1 = .nil → len = 0) ∧ (x.1 = .nil ∨ ∃ el sp, x.1 = .slice el sp) ∧
      ∀ i x, l[i]? = some x → ∃ g o, bo = some ⟨g, o, none⟩ ∧ q ⟨g, o + i * k, none⟩ x := by
  rcases open_slice ht h with ⟨rfl, rfl⟩ | ⟨a, len, cap, m, n, D, Pl, rfl, hb, hl, hm, hmm, rfl, hi⟩
  · exact ⟨none, 0, 0, [], rfl, rfl, Nat.le_refl _, Nat.zero_le _, (fun _ _ h => by cases h), (fun _ => rfl), .inl rfl, fun i x hx => by simp at hx⟩
  · have hlm : len ≤ m := by rw [hmm]; split <;> omega
    obtain ⟨l, hll, hlx⟩ := list_lt (n := len) (p := fun i x => ∃ g o, some a = some ⟨g, o, none⟩ ∧ q ⟨g, o + i * k, none⟩ x) (fun i hi' => by
      obtain ⟨cs', hcs, htr⟩ := hi i (by omega)
      rw [hc] at hcs
      have h0 := hi 0 (by omega)
      obtain ⟨cs0, hcs0, _⟩ := h0
      rw [hc] at hcs0
      have hspot := World.cell?_spot (((World.cells?_some hcs0).2.2 0 hk).trans (List.getElem?_eq_getElem (by have := (World.cells?_some hcs0).2.1; omega)))
      obtain ⟨b, off, spot⟩ := a
      obtain rfl : spot = none := by simpa [Addr.add] using hspot
      obtain ⟨y, hy⟩ := hq _ n cs' _ _ hcs htr
      refine ⟨y, b, off, rfl, ?_⟩
      rw [add_plain] at hy
      exact hy)
    exact ⟨some a, len, cap, l, rfl, hll, hl, hm, (fun el sp h => by
      simp only [DataW.slice.injEq] at h
      rw [← h.1]; simp), (fun h => by cases h), .inr ⟨_, _, rfl⟩, hlx⟩

theorem cells_one {w : World} {base : Nat} {a : Addr} {cs : List Value} (h : w.cells? base a 1 = some cs) : ∃ v, cs = [v] ∧ w.cell? ⟨a.block, a.off, none⟩ = some v := by
  obtain ⟨_, hl, hc⟩ := World.cells?_some h
  match cs, hl with
  | [v], _ =>
    have h0 := hc 0 (by omega)
    have hs := World.cell?_spot h0
    obtain ⟨b, o, s⟩ := a
    obtain rfl : s = none := by simpa [Addr.add] using hs
    exact ⟨v, rfl, by simpa [Addr.add] using h0⟩

theorem row_int {P : Program} {w : World} {base : Nat} {spare : Nat → Bool} {held : Bool} {e : TypeId} {k : IntKind} (he : P.underlying e = some (.int k)) (a : Addr) (n : Nat) (cs : List Value) (d : DataW H) (pl : List MemPlace)
    (hc : w.cells? base a 1 = some cs) (h : DataW.trod enc P w base spare held n e cs = some (d, pl)) : ∃ z : Int, w.cell? ⟨a.block, a.off, none⟩ = some (.int k z) ∧ (Lit.int k z).wf = true := by
  obtain ⟨v, rfl, hv⟩ := cells_one hc
  obtain ⟨m, hvv, _, hw⟩ := DataW.trod_int he h
  simp only [List.cons.injEq, and_true] at hvv
  exact ⟨m, hvv ▸ hv, hw⟩
theorem row_u8 {P : Program} {w : World} {base : Nat} {spare : Nat → Bool} {held : Bool} {e : TypeId} (he : P.underlying e = some (.int .u8)) (a : Addr) (n : Nat) (cs : List Value) (d : DataW H) (pl : List MemPlace)
    (hc : w.cells? base a 1 = some cs) (h : DataW.trod enc P w base spare held n e cs = some (d, pl)) : ∃ z : UInt8, w.cell? ⟨a.block, a.off, none⟩ = some (.int .u8 (z.toNat : Int)) := by
  obtain ⟨z, hz, hw⟩ := row_int he a n cs d pl hc h
  have hr : 0 ≤ z ∧ z ≤ 255 := by simpa [Lit.wf, IntKind.min, IntKind.max, IntKind.signed, IntKind.bits] using hw
  refine ⟨UInt8.ofNat z.toNat, ?_⟩
  rw [UInt8.toNat_ofNat', Nat.mod_eq_of_lt (by omega), Int.toNat_of_nonneg hr.1]
  exact hz
theorem rsl_rows {w : World} {bo : Option Addr} {len cap : Nat} {l : List UInt8} (hl : l.length = len) (h1 : len ≤ cap) (h2 : cap ≤ maxLen) (hc : ∀ i x, l[i]? = some x → ∃ g o, bo = some ⟨g, o, none⟩ ∧ w.cell? ⟨g, o + i * 1, none⟩ = some (.int .u8 (x.toNat : Int))) :
    RSl w 1 (.slice bo len cap) len (u8s l) := by
  refine ⟨by rw [u8s_length]; omega, bo, cap, rfl, h1, h2, fun hp => ?_⟩
  obtain ⟨g, o, rfl, _⟩ := hc 0 (l[0]'(by omega)) (List.getElem?_eq_getElem (by omega))
  refine ⟨g, o, rfl, fun j hj => ?_⟩
  have hj' : j < l.length := by omega
  obtain ⟨g', o', he, hcell⟩ := hc j (l[j]'hj') (List.getElem?_eq_getElem hj')
  cases he
  rw [Nat.mul_one] at hcell
  rw [hcell, u8s_at, List.getElem?_eq_getElem hj']
  rfl
end
end Go.Proofs.Ytgofogcfolhonaa

set_option linter.unusedVariables false
set_option linter.unusedSimpArgs false
namespace Go.Proofs.Ytgofogcfolhonaa
open Go Go.ChangeShapes Go.WideShapes Go.ChangeAt Go.RowKit Go.Deep

inductive CK where
  | int (k : IntKind)
  | bool
  | str
  | u8s
def KindOf : CK → AV → Prop
  | .int k, .int k' z => k = k' ∧ (Lit.int k z).wf = true
  | .bool, .bool _ => True
  | .str, .str _ => True
  | .u8s, .sl false 1 rows => ∃ l, rows = bts l
  | _, _ => False
def wtA : List AV → Nat
  | [] => 0
  | .str s :: l => s.length + wtA l
  | .sl _ _ r :: l => r.length + wtA l
  | _ :: l => wtA l
theorem wtA_app (l m : List AV) : wtA (l ++ m) = wtA l + wtA m := by
  induction l with
  | nil => simp [wtA]
  | cons x l ih => cases x <;> simp only [List.cons_append, wtA, ih] <;> omega
def shapeL (g : TypeId → Option (List CK)) : Nat → List Field → Option (List CK)
  | _, [] => some []
  | off, f :: r => if f.offset = off then match g f.type with
    | some a => (shapeL g (off + a.length) r).map (a ++ ·)
    | none => none else none
def shape (P : Program) : Nat → TypeId → Option (List CK)
  | 0, _ => none
  | n + 1, t => match P.underlying t with
    | some (.int k) => some [.int k]
    | some .bool => some [.bool]
    | some .string => some [.str]
    | some (.slice e) => match P.underlying e with
      | some (.int .u8) => if P.cellsOf e = 1 then some [.u8s] else none
      | _ => none
    | some (.struct fs) => match shapeL (shape P n) 0 fs.toList with
      | some ks => if ks.length = P.cellsOf t then some ks else none
      | none => none
    | _ => none
structure Opened (W : World) (ks : List CK) (cs : List Value) (avs : List AV) : Prop where
  len : avs.length = ks.length
  clen : cs.length = ks.length
  kind : ∀ (j : Nat) k x, ks[j]? = some k → avs[j]? = some x → KindOf k x
  rel : ∀ (j : Nat) x u, avs[j]? = some x → cs[j]? = some u → x.free = true ∧ x.one = true ∧ Rel W (fun _ => 0) (old W) x u ∧ Bnd 0 x
theorem Opened.one {W : World} {k : CK} {v : Value} {x : AV} (h1 : KindOf k x) (h2 : x.free = true ∧ x.one = true ∧ Rel W (fun _ => 0) (old W) x v ∧ Bnd 0 x) : Opened W [k] [v] [x] := by
  refine ⟨rfl, rfl, fun j k' x' hk hx => ?_, fun j x' u hx hu => ?_⟩
  · cases j with
    | zero => simp at hk hx; subst hk; subst hx; exact h1
    | succ j => simp at hk
  · cases j with
    | zero => simp at hu hx; subst hu; subst hx; exact h2
    | succ j => simp at hu
theorem Opened.app {W : World} {ks ms : List CK} {cs ds : List Value} {av1 bs : List AV} (h : Opened W ks cs av1) (k : Opened W ms ds bs) : Opened W (ks ++ ms) (cs ++ ds) (av1 ++ bs) := by
  refine ⟨by simp [h.len, k.len], by simp [h.clen, k.clen], fun j k' x' hk hx => ?_, fun j x' u hx hu => ?_⟩
  · by_cases hj : j < ks.length
    · rw [List.getElem?_append_left hj] at hk
      rw [List.getElem?_append_left (by rw [h.len]; exact hj)] at hx
      exact h.kind j k' x' hk hx
    · rw [List.getElem?_append_right (by omega)] at hk
      rw [List.getElem?_append_right (by rw [h.len]; omega), h.len] at hx
      exact k.kind _ k' x' hk hx
  · by_cases hj : j < av1.length
    · rw [List.getElem?_append_left hj] at hx
      rw [List.getElem?_append_left (by rw [h.clen, ← h.len]; exact hj)] at hu
      exact h.rel j x' u hx hu
    · rw [List.getElem?_append_right (by omega)] at hx
      rw [List.getElem?_append_right (by rw [h.clen, ← h.len]; omega), h.clen, ← h.len] at hu
      exact k.rel _ x' u hx hu
section
variable {H : Type} {enc : TypeId × Value → H}
theorem bulk_pos (d : DataW H) : 1 ≤ Rows.uptoBulk d := by
  cases d with
  | lit l => cases l <;> simp [Rows.uptoBulk]
  | nil => simp [Rows.uptoBulk]
  | ptr d => simp [Rows.uptoBulk]
  | slice elems spare => simp [Rows.uptoBulk]
  | agg parts => simp [Rows.uptoBulk]
  | iface t d => simp [Rows.uptoBulk]
  | map entries => simp [Rows.uptoBulk]
  | held h => simp [Rows.uptoBulk]
theorem bulk_len : ∀ (l : List (DataW H)), l.length ≤ Rows.uptoBulkAll l
  | [] => by simp [Rows.uptoBulkAll]
  | x :: l => by have := bulk_pos x; have := bulk_len l; simp only [Rows.uptoBulkAll, List.length_cons]; omega
theorem rel_sl_bts {w : World} {β : Nat → Nat} {Rd : Nat → Nat → Prop} {v : Value} {l : List UInt8} (h : RSl w 1 v l.length (u8s l)) (hd : ∀ g o n c, v = .slice (some ⟨g, o, none⟩) n c → ∀ j, j < l.length → Rd g (o + j)) : Rel w β Rd (.sl false 1 (bts l)) v := by
  refine .sl false 1 (bts l) v (u8s l) (fun r hr => by obtain ⟨b, _, rfl⟩ := List.mem_map.1 hr; rfl) (by rw [bts_len]; exact h) (fun g o n c hv j hj => hd g o n c hv j (by simpa [bts_len] using hj)) (fun h => by cases h) (fun r hr x hx => ?_) (fun j x u hx hu => ?_)
  · obtain ⟨b, _, rfl⟩ := List.mem_map.1 hr
    simp at hx; subst hx; exact ⟨rfl, rfl⟩
  · rw [bts_flat] at hx
    rw [u8s_at] at hu
    cases hb : l[j]? with
    | none => rw [hb] at hx; cases hx
    | some b => rw [hb] at hx hu; simp at hx hu; subst hx; subst hu; exact .int _ _
theorem opened_fields {P : Program} {W : World} {base : Nat} {spare : Nat → Bool} {held : Bool} {n' : Nat} {cs : List Value} (g : TypeId → Option (List CK))
    (ih : ∀ {t : TypeId} {ks : List CK} {cs : List Value} {x : DataW H × List MemPlace}, g t = some ks → DataW.trod enc P W base spare held n' t cs = some x → ∃ avs, Opened W ks cs avs ∧ wtA avs + 1 ≤ Rows.uptoBulk x.1) :
    ∀ (l : List Field) (xs : List (DataW H × List MemPlace)) (off : Nat) (ks : List CK), l.length = xs.length → (∀ (j : Nat) f, l[j]? = some f → DataW.trod enc P W base spare held n' f.type ((cs.drop f.offset).take (P.cellsOf f.type)) = xs[j]?) →
      shapeL g off l = some ks → ∃ avs, Opened W ks ((cs.drop off).take ks.length) avs ∧ wtA avs ≤ Rows.uptoBulkAll (xs.map (·.1)) := by
  intro l
  induction l with
  | nil =>
    intro xs off ks hl hx hs
    simp [shapeL] at hs
    subst hs
    exact ⟨[], ⟨rfl, by simp, fun j k x hk => by simp at hk, fun j x u hx => by simp at hx⟩, by simp [wtA]⟩
  | cons f l ihl =>
    intro xs off ks hl hx hs
    cases xs with
    | nil => simp at hl
    | cons y xs =>
      unfold shapeL at hs
      split at hs
      · rename_i ho
        cases hg : g f.type with
        | none => rw [hg] at hs; cases hs
        | some a =>
          rw [hg] at hs
          simp only [Option.map_eq_some_iff] at hs
          obtain ⟨b, hb, rfl⟩ := hs
          have h0 := hx 0 f rfl
          rw [ho] at h0
          obtain ⟨av1, ha, hwa⟩ := ih hg h0
          obtain ⟨bs, hbs, hwb⟩ := ihl xs (off + a.length) b (by simpa using hl) (fun j f' hf => by simpa using hx (j + 1) f' (by simpa using hf)) hb
          have e : (cs.drop off).take (P.cellsOf f.type) = (cs.drop off).take a.length := by
            have hlen := ha.clen
            rw [List.length_take] at hlen
            rw [← hlen]
            by_cases hc : P.cellsOf f.type ≤ (cs.drop off).length
            · rw [Nat.min_eq_left hc]
            · rw [Nat.min_eq_right (by omega), List.take_of_length_le (by omega), List.take_of_length_le (Nat.le_refl _)]
          refine ⟨av1 ++ bs, ?_, ?_⟩
          · rw [e] at ha
            have := ha.app hbs
            rw [List.length_append, List.take_add, List.drop_drop]
            exact this
          · rw [wtA_app]
            simp only [List.map_cons, Rows.uptoBulkAll]
            omega
      · cases hs
theorem opened {P : Program} {W : World} {base : Nat} {spare : Nat → Bool} {held : Bool} (n : Nat) : ∀ {fuel : Nat} {t : TypeId} {ks : List CK} {cs : List Value} {x : DataW H × List MemPlace}, shape P n t = some ks → DataW.trod enc P W base spare held fuel t cs = some x →
    ∃ avs, Opened W ks cs avs ∧ wtA avs + 1 ≤ Rows.uptoBulk x.1 := by
  induction n with
  | zero => intro fuel t ks cs x hs; cases hs
  | succ n ih =>
    intro fuel t ks cs x hs h
    unfold shape at hs
    split at hs
    · rename_i k hu
      cases hs
      obtain ⟨z, rfl, rfl, hw⟩ := DataW.trod_int hu h
      exact ⟨[.int k z], .one ⟨rfl, hw⟩ ⟨rfl, rfl, .int _ _, .int _ _⟩, by simp [wtA, Rows.uptoBulk]⟩
    · rename_i hu
      cases hs
      obtain ⟨z, rfl, rfl⟩ := DataW.trod_bool hu h
      exact ⟨[.bool z], .one trivial ⟨rfl, rfl, .bool _, .bool _⟩, by simp [wtA, Rows.uptoBulk]⟩
    · rename_i hu
      cases hs
      obtain ⟨z, rfl, rfl, hm⟩ := DataW.trod_string hu h
      exact ⟨[.str z.data.toList], .one trivial ⟨rfl, rfl, .str _ _ rfl hm, .str _⟩, by simp [wtA, Rows.uptoBulk]⟩
    · rename_i e hu
      split at hs
      · rename_i he
        split at hs
        · rename_i hce
          cases hs
          obtain ⟨bo, len, cap, l, rfl, hl, h1, h2, hx1, hx2, hx3, hq⟩ := open_rows (α := UInt8) 1 (by decide) (fun a x => W.cell? a = some (.int .u8 ((x : UInt8).toNat : Int))) hu hce (fun a n cs' d pl hc h => row_u8 he a n cs' d pl hc h) h
          have hr := rsl_rows hl h1 h2 hq
          subst hl
          refine ⟨[.sl false 1 (bts l)], .one ⟨l, rfl⟩ ⟨rfl, rfl, rel_sl_bts hr (fun g o n c hv j hj => ?_), bnd_sl_bts _ _ _⟩, ?_⟩
          · obtain ⟨g', o', hb, hc⟩ := hq j l[j] (List.getElem?_eq_getElem hj)
            cases hv
            cases hb
            rw [Nat.mul_one] at hc
            exact old_cell hc
          · simp only [wtA, bts_len]
            rcases hx3 with hn | ⟨el, sp, hs⟩
            · rw [hn, hx2 hn]; simp [Rows.uptoBulk]
            · have := hx1 el sp hs
              have := bulk_len el
              rw [hs]; simp only [Rows.uptoBulk]; omega
        · cases hs
      · cases hs
    · rename_i fs hu
      split at hs
      · rename_i ks' hks
        split at hs
        · rename_i hlen
          cases hs
          obtain ⟨xs, n', _, rfl, hcl, hxl, hf⟩ := DataW.trod_struct hu h
          obtain ⟨avs, ho, hw⟩ := opened_fields (enc := enc) (P := P) (W := W) (base := base) (spare := spare) (held := held) (n' := n') (cs := cs) (shape P n) (fun hg hx => ih hg hx) fs.toList xs 0 _ (by simp [hxl]) (fun j f hj => hf j f (by simpa using hj)) hks
          refine ⟨avs, ?_, ?_⟩
          · rw [List.drop_zero, List.take_of_length_le (by rw [hcl, hlen]; exact Nat.le_refl _)] at ho
            exact ho
          · simp only [Rows.uptoBulk]; omega
        · cases hs
      · cases hs
    · cases hs
theorem bulkAll_range {n : Nat} (D : Nat → DataW H) : ∀ (rows : List (List AV)), rows.length = n → (∀ (i : Nat) r, rows[i]? = some r → wtA r + 1 ≤ Rows.uptoBulk (D i)) → wtA rows.flatten + n ≤ Rows.uptoBulkAll ((List.range n).map D) := by
  induction n with
  | zero =>
    intro rows h hr
    have : rows = [] := List.length_eq_zero_iff.1 h
    subst this
    simp [wtA]
  | succ n ih =>
    intro rows hl hr
    obtain ⟨init, r, rfl⟩ : ∃ init r, rows = init ++ [r] := ⟨rows.dropLast, rows.getLast (by intro h; rw [h] at hl; cases hl), (List.dropLast_concat_getLast _).symm⟩
    simp at hl
    have h1 := ih init hl (fun i q hq => hr i q (by rw [List.getElem?_append_left (List.getElem?_eq_some_iff.1 hq).1]; exact hq))
    have h2 := hr n r (by rw [← hl]; simp)
    have happ : ∀ (a b : List (DataW H)), Rows.uptoBulkAll (a ++ b) = Rows.uptoBulkAll a + Rows.uptoBulkAll b := by
      intro a b
      induction a with
      | nil => simp [Rows.uptoBulkAll]
      | cons x a iha => simp only [List.cons_append, Rows.uptoBulkAll, iha]; omega
    rw [List.range_succ, List.map_append, happ, List.flatten_append, wtA_app]
    simp only [List.map_cons, List.map_nil, Rows.uptoBulkAll, List.flatten_cons, List.flatten_nil, List.append_nil]
    omega
/-- A SLICE OF PLAIN VALUES. -/
theorem open_plain {P : Program} {W : World} {spare : Nat → Bool} {held : Bool} {t e : TypeId} {fuel : Nat} {cs : List Value} {x : DataW H × List MemPlace} {ks : List CK} (n : Nat) (ht : P.underlying t = some (.slice e)) (hs : shape P n e = some ks) (hk : ks.length = P.cellsOf e) (hk0 : 0 < ks.length)
    (h : DataW.trod enc P W 0 spare held fuel t cs = some x) :
    ∃ (bo : Option Addr) (len cap : Nat) (rows : List (List AV)), cs = [.slice bo len cap] ∧ rows.length = len ∧ len ≤ cap ∧ cap ≤ maxLen ∧ Rel W (fun _ => 0) (old W) (.sl false ks.length rows) (.slice bo len cap) ∧ Bnd 0 (.sl false ks.length rows) ∧
      (∀ r ∈ rows, r.length = ks.length ∧ ∀ (j : Nat) k y, ks[j]? = some k → r[j]? = some y → KindOf k y) ∧ wtA rows.flatten + len + 1 ≤ Rows.uptoBulk x.1 := by
  rcases open_slice ht h with ⟨rfl, rfl⟩ | ⟨a, len, cap, m, n', D, Pl, rfl, hb, hl, hm, hmm, rfl, hi⟩
  · refine ⟨none, 0, 0, [], rfl, rfl, Nat.le_refl _, Nat.zero_le _, ?_, .sl _ _ _ (fun r hr => by cases hr), fun r hr => (by cases hr), by simp [wtA, Rows.uptoBulk]⟩
    exact rel_rows _ [] none 0 0 (fun r hr => by cases hr) hk0 rfl (Nat.le_refl _) (Nat.zero_le _) (fun i r hr => by simp at hr)
  · have hlm : len ≤ m := by rw [hmm]; split <;> omega
    obtain ⟨rows, hrl, hrx⟩ := list_lt (n := len) (p := fun i (r : List AV) => ∃ g o cs', some a = some ⟨g, o, none⟩ ∧ (∀ (j : Nat) v, cs'[j]? = some v → W.cell? ⟨g, o + i * ks.length + j, none⟩ = some v) ∧ Opened W ks cs' r ∧ wtA r + 1 ≤ Rows.uptoBulk (D i)) (fun i hi' => by
      obtain ⟨cs', hcs, htr⟩ := hi i (by omega)
      obtain ⟨avs, ho, hw⟩ := opened n hs htr
      obtain ⟨_, hcl, hat⟩ := World.cells?_some hcs
      obtain ⟨cs0, hcs0, _⟩ := hi 0 (by omega)
      have h00 := World.cells?_some hcs0
      have hspot := World.cell?_spot ((h00.2.2 0 (by omega)).trans (List.getElem?_eq_getElem (by have := h00.2.1; omega)))
      obtain ⟨b, off, spot⟩ := a
      obtain rfl : spot = none := by simpa [Addr.add] using hspot
      refine ⟨avs, b, off, cs', rfl, fun j v hj => ?_, ho, hw⟩
      have hjl : j < P.cellsOf e := by have := (List.getElem?_eq_some_iff.1 hj).1; omega
      rw [hk, ← add_plain, ← add_plain, hat j hjl]; exact hj)
    refine ⟨some a, len, cap, rows, rfl, hrl, hl, hm, ?_, ?_, ?_, ?_⟩
    · refine rel_rows _ rows _ len cap (fun r hr => ?_) hk0 hrl hl hm (fun i r hr => ?_)
      · obtain ⟨i, hi'⟩ := List.getElem?_of_mem hr
        obtain ⟨g, o, cs', _, _, ho, _⟩ := hrx i r hi'
        exact ho.len
      · obtain ⟨g, o, cs', hb', hc, ho, _⟩ := hrx i r hr
        refine ⟨g, o, hb', fun j y hy => ?_⟩
        have hjl : j < cs'.length := by have := (List.getElem?_eq_some_iff.1 hy).1; have := ho.len; have := ho.clen; omega
        obtain ⟨h1, h2, h3, h4⟩ := ho.rel j y cs'[j] hy (List.getElem?_eq_getElem hjl)
        exact ⟨h1, h2, _, hc j _ (List.getElem?_eq_getElem hjl), h3⟩
    · refine .sl _ _ _ (fun r hr y hy => ?_)
      obtain ⟨i, hi'⟩ := List.getElem?_of_mem hr
      obtain ⟨j, hj⟩ := List.getElem?_of_mem hy
      obtain ⟨g, o, cs', _, _, ho, _⟩ := hrx i r hi'
      have hjl : j < cs'.length := by have := (List.getElem?_eq_some_iff.1 hj).1; have := ho.len; have := ho.clen; omega
      exact (ho.rel j y cs'[j] hj (List.getElem?_eq_getElem hjl)).2.2.2
    · intro r hr
      obtain ⟨i, hi'⟩ := List.getElem?_of_mem hr
      obtain ⟨g, o, cs', _, _, ho, _⟩ := hrx i r hi'
      exact ⟨ho.len, ho.kind⟩
    · have := bulkAll_range D rows hrl (fun i r hr => by obtain ⟨_, _, _, _, _, _, hw⟩ := hrx i r hr; exact hw)
      simp only [Rows.uptoBulk]
      omega
end
end Go.Proofs.Ytgofogcfolhonaa

set_option linter.unusedVariables false
set_option linter.unusedSimpArgs false
namespace Go.Proofs.Ytgofogcfolhonaa
open Go Go.RowKit

set_option maxRecDepth 100000 in
set_option maxHeartbeats 1000000 in
theorem lsame_ok {w : World} {ao bo : Option Addr} {n c m d : Nat} {la lb : List UInt8} (ha : RSl w 1 (.slice ao n c) n (u8s la)) (hb : RSl w 1 (.slice bo m d) m (u8s lb)) :
    Calls Try.prog 40 #[.slice ao n c, .slice bo m d] w fun e w' => e = .returned (.bool (decide (la = lb))) ∧ w' = w := by
  have h1 := run_text_rsl (P := Try.prog) w 66 9 5 _ _ _ _ Try.underlying66 Try.underlying5 Try.underlying9 ha
  have h2 := run_text_rsl (P := Try.prog) w 66 9 5 _ _ _ _ Try.underlying66 Try.underlying5 Try.underlying9 hb
  go_enter Try.func40, Try.ntmps40
  go_wp2
  go_ret
  refine ⟨?_, rfl⟩
  rw [← tx_beq]
  rfl

theorem kind_plain (k n : Int) (hn : 1 ≤ n) : (k.tmod n + n).tmod n = k % n := by
  have h1 : -n < k.tmod n := by
    have := Int.lt_tmod_of_pos k (show 0 < n by omega)
    omega
  rw [Int.tmod_eq_emod_of_nonneg (by omega), Int.add_emod_right, Int.tmod_def, Int.sub_mul_emod_self_left]

theorem lit_osl (w : World) (e : TypeId) (l : List UInt8) (hl : l.length ≤ maxLen) : OSl (w.alloc (.cells (u8s l).toArray e)) 1 (.slice (some ⟨w.heap.size, 0, none⟩) l.length l.length) l.length (u8s l) :=
  OSl.new w _ e 1 _ _ _ (by rw [u8s_length, Nat.mul_one]) (Nat.le_refl _) hl (by simp [u8s_length]) (fun j hj => by simp)

set_option maxRecDepth 100000 in
set_option maxHeartbeats 1000000 in
theorem lawake_ok (W : World) : Calls Try.prog 36 #[] W fun e w' => e = .returned (.bool true) ∧ Frm (fun _ => False) W w' := by
  go_enter Try.func36, Try.ntmps36
  go_wp2_with fail
  refine (ring_new W 2 (by decide) (by decide)).mono ?_
  rintro e w1 ⟨rfl, r1, hf1⟩
  have hl : RSl (w1.alloc (.cells #[.int .u8 7, .int .u8 8, .int .u8 9] 5)) 1 (.slice (some ⟨w1.heap.size, 0, none⟩) 3 3) 3 (u8s [7, 8, 9]) := (lit_osl w1 5 [7, 8, 9] (by decide)).toR
  have hgl := r1.glt
  have hbl := blk_lt r1.blk
  go_wp2_with fail
  refine (ring_put (r1.same (Frm.alloc _ w1 _)) hl (by simp [Value.ownBlock]; omega)).mono ?_
  rintro e w2 ⟨rfl, r2, hf2⟩
  have hl2 : ([] : List UInt8) ++ [7, 8, 9].take (2 - ([] : List UInt8).length) = [7, 8] := rfl
  rw [hl2] at r2
  have HF2 := Lib.hid ((hf1.trans (Frm.alloc _ w1 _)).fresh hf2 (fun i hi h => by rcases h with rfl | rfl <;> omega))
  clear hl hl2 hf2 r1
  go_wp2_with fail
  refine (ring_take r2 2 (by decide) (by decide)).mono ?_
  rintro e w3 ⟨ao, c, k, rfl, ho, hb, r3, hf3⟩
  have hl3 : ([7, 8] : List UInt8).take (2 : Int).toNat = [7, 8] := rfl
  have hl4 : ([7, 8] : List UInt8).drop (2 : Int).toNat = [] := rfl
  have hl5 : (0 + Nat.min (2 : Int).toNat ([7, 8] : List UInt8).length) % 2 = 0 := rfl
  rw [hl3] at ho
  rw [hl4, hl5] at r3
  have HF3 := Lib.hid (HF2.out.fresh hf3 (fun i hi h => by subst h; omega))
  have HO := Lib.hid ho
  have hl6 : RSl (w3.alloc (.cells #[.int .u8 7, .int .u8 8] 5)) 1 (.slice (some ⟨w3.heap.size, 0, none⟩) 2 2) 2 (u8s [7, 8]) := (lit_osl w3 5 [7, 8] (by decide)).toR
  clear ho hb hf3 r2 hl3 hl4 hl5
  go_wp2_with fail
  refine (lsame_ok (HO.out.alloc _).toR hl6).mono ?_
  rintro e w4 ⟨rfl, rfl⟩
  rw [decide_eq_true rfl]
  go_wp2_with fail
  refine (ring_head (r3.same (Frm.alloc _ w3 _))).mono ?_
  rintro e w5 ⟨rfl, rfl⟩
  go_wp2_with fail
  refine (ring_putAll_full (r3.same ((Frm.alloc _ w3 _).allocR _)) (m := 3) (by decide) (by decide)).mono ?_
  rintro e w5 ⟨rfl, rfl⟩
  go_wp2
  go_ret
  exact ⟨rfl, (HF3.out.allocR _).allocR _⟩
end Go.Proofs.Ytgofogcfolhonaa

set_option linter.unusedVariables false
set_option linter.unusedSimpArgs false
namespace Go.Proofs.Ytgofogcfolhonaa
open Go Go.RowKit

end Go.Proofs.Ytgofogcfolhonaa

set_option linter.unusedVariables false
set_option linter.unusedSimpArgs false
set_option linter.unusedSectionVars false
set_option maxRecDepth 100000
namespace Go.Proofs.Ytgofogcfolhonaa
open Go Go.RowKit

section
variable {w : World} {β : Nat → Nat} {Rd : Nat → Nat → Prop}
end

/-- A ring's box: box i of H: a ring of capacity cap whose head is q, and in which l waits. -/
def RO (H : Hp) (i cap q : Nat) (l : List UInt8) : Prop := 0 < cap ∧ cap ≤ 1048576 ∧ q < cap ∧ l.length ≤ cap ∧ ∃ st : List UInt8, st.length = cap ∧ H[i]? = some [.ex 1 (u8s st), .int .i64 (q : Int), .int .i64 (l.length : Int)] ∧ ∀ j x, l[j]? = some x → st[(q + j) % cap]? = some x
theorem RO.lt {H : Hp} {i cap q : Nat} {l : List UInt8} (h : RO H i cap q l) : i < H.length := let ⟨_, _, _, _, st, _, h, _⟩ := h; (List.getElem?_eq_some_iff.1 h).1
theorem RO.app {H : Hp} {i cap q : Nat} {l : List UInt8} (h : RO H i cap q l) (J : Hp) : RO (H ++ J) i cap q l := by
  have := h.lt
  obtain ⟨a, b, c, d, st, e, f, g⟩ := h
  exact ⟨a, b, c, d, st, e, by rw [List.getElem?_append_left this]; exact f, g⟩
theorem RO.of_eq {H H' : Hp} {i cap q : Nat} {l : List UInt8} (h : RO H i cap q l) (he : H'[i]? = H[i]?) : RO H' i cap q l := by
  obtain ⟨a, b, c, d, st, e, f, g⟩ := h
  exact ⟨a, b, c, d, st, e, he.trans f, g⟩

section
variable {E : Env} {w w' : World} {β : Nat → Nat} {Rd : Nat → Nat → Prop} {Ow : Nat → Option Hold} {H : Hp} {i cap q : Nat} {l : List UInt8}
/-- What the box is in the world. -/
theorem RO.at (h : RO H i cap q l) (hHR : HR E w β Rd Ow H) : ∃ T g, RAt w (β i) T g cap q l ∧ Ow g = some (.cell i 0) ∧ (∀ o, ¬ Rd g o) ∧ Ow (β i) = none ∧ (∀ o, ¬ Rd (β i) o) ∧ β i < w.heap.size := by
  have hlt := h.lt
  obtain ⟨h1, h2, h3, h4, st, h5, h6, h7⟩ := h
  obtain ⟨T, cs, e1, e2, e3⟩ := hHR.box i _ h6
  simp at e2
  match cs, e2 with
  | ⟨[v0, v1, v2]⟩, _ =>
    obtain ⟨r0, _, o0⟩ := e3 0 _ _ rfl rfl
    obtain ⟨r1, _, _⟩ := e3 1 _ _ rfl rfl
    obtain ⟨r2, _, _⟩ := e3 2 _ _ rfl rfl
    obtain rfl := rel_int r1
    obtain rfl := rel_int r2
    cases r0 with
    | ex _ _ n _ ho hd hs =>
      obtain ⟨g, rfl⟩ := hs
      have hn : n = cap := by have := ho.1; rw [u8s_length] at this; omega
      subst hn
      have hw := o0 g rfl
      refine ⟨T, g, ⟨e1, fun e => ?_, h1, h2, h3, h4, st, ho, h7⟩, hw, fun o => hd g rfl o, (hHR.sep i hlt).1, (hHR.sep i hlt).2, blk_lt e1⟩
      have := (hHR.sep i hlt).1
      rw [e, hw] at this; cases this

end
end Go.Proofs.Ytgofogcfolhonaa

set_option linter.unusedVariables false
set_option linter.unusedSimpArgs false
set_option linter.unusedSectionVars false
set_option maxRecDepth 100000
namespace Go.Proofs.Ytgofogcfolhonaa
open Go Go.RowKit

section
variable {E : Env} {H : Hp} {i cap q : Nat} {l : List UInt8} {Q : AV → Hp → Prop} {f : FuncId} {args : List AV} {v : AV}
end
section
variable {w w' : World} {β : Nat → Nat} {Rd : Nat → Nat → Prop}
end

/-- What came out may be shared. -/
theorem PC.dis {P : Program} {E : Env} {f : FuncId} {args : List AV} {H : Hp} {Q : AV → Hp → Prop} (h : PC P E f args H (fun v H' => Q v.dis H')) : PC P E f args H Q :=
  ⟨h.1, fun w β Rd Ow cargs h1 h2 h3 h4 => (h.2 w β Rd Ow cargs h1 h2 h3 h4).mono fun e w' ⟨c, v, H', β', Rd', Ow', he, hQ, hp⟩ =>
    ⟨c, v.dis, H', β', Rd', Ow', he, hQ, ⟨hp.rel.dis, hp.bnd.dis, fun g hg => hp.own g (by cases v <;> simp_all [AV.dis, own0]), by have := hp.ne; cases v <;> simp_all [AV.dis, AV.free], hp.hr, hp.old, hp.len, hp.keep, hp.frame, hp.os, hp.tape, hp.output, hp.size⟩⟩⟩
/-- A ring or nil. -/
def RW (H : Hp) (r : Option Nat) (cap q : Nat) (l : List UInt8) : Prop := match r with
  | some i => RO H i cap q l
  | none => cap = 0 ∧ q = 0 ∧ l = []
theorem RW.app {H : Hp} {r : Option Nat} {cap q : Nat} {l : List UInt8} (h : RW H r cap q l) (J : Hp) : RW (H ++ J) r cap q l := by
  cases r with
  | some i => exact RO.app h J
  | none => exact h
theorem RW.fits {H : Hp} {r : Option Nat} {cap q : Nat} {l : List UInt8} (h : RW H r cap q l) : cap ≤ 1048576 ∧ l.length ≤ cap ∧ q ≤ cap ∧ (r = none → cap = 0) ∧ (r ≠ none → 0 < cap ∧ q < cap) := by
  cases r with
  | some i => obtain ⟨a, b, c, d, _⟩ := h; exact ⟨b, d, by omega, (fun h => by cases h), fun _ => ⟨a, c⟩⟩
  | none => obtain ⟨rfl, rfl, rfl⟩ := h; exact ⟨by omega, by simp, by omega, fun _ => rfl, fun h => absurd rfl h⟩
/-- H' has the other boxes of H as they were. -/
def Oth (H H' : Hp) (r : Option Nat) : Prop := H'.length = H.length ∧ ∀ j, r ≠ some j → H'[j]? = H[j]?

section
variable (E : Env) (H : Hp) (r : Option Nat) (cap q : Nat) (l : List UInt8) (Q : AV → Hp → Prop) (h : RW H r cap q l)
include h
end
end Go.Proofs.Ytgofogcfolhonaa

set_option linter.unusedVariables false
set_option linter.unusedSimpArgs false
namespace Go.Proofs.Ytgofogcfolhonaa
open Go Go.RowKit

end Go.Proofs.Ytgofogcfolhonaa

namespace Go.Proofs.Ytgofogcfolhonaa
open Go Go.Shelf Go.Proofs
end Go.Proofs.Ytgofogcfolhonaa

set_option linter.unusedVariables false
set_option linter.unusedSimpArgs false
namespace Go.Proofs.Ytgofogcfolhonaa
open Go Go.RowKit Go.Proofs

end Go.Proofs.Ytgofogcfolhonaa

set_option linter.unusedVariables false
set_option linter.unusedSimpArgs false
namespace Go.Proofs.Ytgofogcfolhonaa
open Go Go.RowKit

/-- What 'piece' copies. -/
def pieceL (l : List UInt8) (fr n : Int) : List UInt8 := if fr < 0 ∨ n ≤ 0 then [] else (l.drop fr.toNat).take n.toNat

end Go.Proofs.Ytgofogcfolhonaa

set_option linter.unusedVariables false
set_option linter.unusedSimpArgs false
namespace Go.Proofs.Ytgofogcfolhonaa
open Go Go.RowKit

end Go.Proofs.Ytgofogcfolhonaa

set_option linter.unusedVariables false
set_option linter.unusedSimpArgs false
namespace Go.Proofs.Ytgofogcfolhonaa
open Go Go.RowKit

end Go.Proofs.Ytgofogcfolhonaa

set_option linter.unusedVariables false
set_option linter.unusedSimpArgs false
namespace Go.Proofs.Ytgofogcfolhonaa
open Go Go.RowKit

end Go.Proofs.Ytgofogcfolhonaa

set_option linter.unusedVariables false
set_option linter.unusedSimpArgs false
set_option linter.unusedSectionVars false
set_option maxRecDepth 100000
namespace Go.Proofs.Ytgofogcfolhonaa
open Go Go.RowKit

section
variable {w w' : World} {β : Nat → Nat} {Rd : Nat → Nat → Prop}
end

section
variable (E : Env) (H : Hp) (r : Option Nat) (cap q : Nat) (l : List UInt8) (Q : AV → Hp → Prop) (h : RW H r cap q l)
include h
end
section
variable (E : Env) (H : Hp) (Q : AV → Hp → Prop)
end
section
variable (E : Env) (H : Hp) (r : Option Nat) (cap q : Nat) (l : List UInt8) (Q : AV → Hp → Prop) (h : RW H r cap q l)
include h
end
end Go.Proofs.Ytgofogcfolhonaa

