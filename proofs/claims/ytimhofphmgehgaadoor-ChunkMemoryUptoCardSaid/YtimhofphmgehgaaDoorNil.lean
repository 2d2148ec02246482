/- THE ABSTRACT MACHINE: nil slices, wherever they stand in an answer, may be seen as slices of no rows. For every program. -/
import Derived.Test.YtimhofphmgehgaaDoorAmr
set_option linter.unusedVariables false
set_option linter.unusedSimpArgs false
namespace Go.Proofs.YtimhofphmgehgaaDoor
open Go Go.RowKit

inductive NilD : AV → AV → Prop
  | same (x) : NilD x x
  | nil (k) : NilD .nil (.sl false k [])
  | agg (l m : List AV) (hl : l.length = m.length) (h : ∀ (i : Nat) x y, l[i]? = some x → m[i]? = some y → NilD x y) : NilD (.agg l) (.agg m)
  | tup (l m : List AV) (hl : l.length = m.length) (h : ∀ (i : Nat) x y, l[i]? = some x → m[i]? = some y → NilD x y) : NilD (.tup l) (.tup m)
  | sl (k : Nat) (l m : List (List AV)) (hl : l.length = m.length) (hk : ∀ (i : Nat) r s, l[i]? = some r → m[i]? = some s → r.length = s.length) (h : ∀ (i j : Nat) r s x y, l[i]? = some r → m[i]? = some s → r[j]? = some x → s[j]? = some y → NilD x y) : NilD (.sl false k l) (.sl false k m)

def NilL : List AV → List AV → Prop
  | [], [] => True
  | x :: l, y :: m => NilD x y ∧ NilL l m
  | _, _ => False
theorem NilL.at : ∀ {l m : List AV}, NilL l m → l.length = m.length ∧ ∀ (i : Nat) x y, l[i]? = some x → m[i]? = some y → NilD x y
  | [], [], _ => ⟨rfl, fun i x y hx => by simp at hx⟩
  | x :: l, y :: m, h => by
    obtain ⟨h1, h2⟩ := NilL.at h.2
    refine ⟨by simp [h1], fun i a b ha hb => ?_⟩
    cases i with
    | zero => simp at ha hb; subst ha; subst hb; exact h.1
    | succ i => exact h2 i a b (by simpa using ha) (by simpa using hb)
  | [], _ :: _, h => h.elim
  | _ :: _, [], h => h.elim
@[simp] theorem NilL_nil : NilL [] [] = True := rfl
@[simp] theorem NilL_cons (x y : AV) (l m : List AV) : NilL (x :: l) (y :: m) = (NilD x y ∧ NilL l m) := rfl
@[simp] theorem NilD_same (x : AV) : NilD x x = True := eq_true (.same x)
@[simp] theorem NilD_nil (k : Nat) : NilD .nil (.sl false k []) = True := eq_true (.nil k)
theorem NilD_agg {l m : List AV} (h : NilL l m) : NilD (.agg l) (.agg m) := .agg l m h.at.1 h.at.2
theorem NilD_tup {l m : List AV} (h : NilL l m) : NilD (.tup l) (.tup m) := .tup l m h.at.1 h.at.2

theorem NilD.one {x y : AV} (h : NilD x y) : x.one = true → y.one = true := by
  cases h with
  | same => exact id
  | nil => exact fun _ => rfl
  | agg => intro h; simp [AV.one] at h
  | tup => intro h; simp [AV.one] at h
  | sl => exact fun _ => rfl
theorem NilD.free {x y : AV} (h : NilD x y) : x.free = true → y.free = true := by
  cases h with
  | same => exact id
  | nil => exact fun _ => rfl
  | agg => exact fun _ => rfl
  | tup => exact fun _ => rfl
  | sl => exact fun _ => rfl
theorem NilD.own {x y : AV} (h : NilD x y) (v : Value) (g : Nat) : own0 y v = some g → own0 x v = some g := by
  cases h with
  | same => exact id
  | nil => intro e; cases e
  | agg => intro e; cases e
  | tup => intro e; cases e
  | sl => intro e; cases e
theorem NilD.dis {x y : AV} (h : NilD x y) : x.dis.free = true → y.dis.free = true := by
  cases h with
  | same => exact id
  | nil => exact fun _ => rfl
  | agg => exact fun _ => rfl
  | tup => exact fun _ => rfl
  | sl => exact fun _ => rfl
theorem pair_at {α β : Type} {l : List α} {m : List β} (h : l.length = m.length) {i : Nat} {y : β} (hy : m[i]? = some y) : ∃ x, l[i]? = some x := by
  have := (List.getElem?_eq_some_iff.1 hy).1
  exact ⟨l[i], List.getElem?_eq_getElem (by omega)⟩
theorem NilD.bnd {N : Nat} {x y : AV} (h : NilD x y) : Bnd N x → Bnd N y := by
  induction h with
  | same => exact id
  | nil k => exact fun _ => .sl _ _ _ (by simp)
  | agg l m hl h ih =>
    intro hb
    cases hb with
    | agg _ hb =>
      refine .agg _ fun y hy => ?_
      obtain ⟨i, hi⟩ := List.getElem?_of_mem hy
      obtain ⟨x, hx⟩ := pair_at hl hi
      exact ih i x y hx hi (hb x (mem_at hx))
  | tup l m hl h ih =>
    intro hb
    cases hb with
    | tup _ hb =>
      refine .tup _ fun y hy => ?_
      obtain ⟨i, hi⟩ := List.getElem?_of_mem hy
      obtain ⟨x, hx⟩ := pair_at hl hi
      exact ih i x y hx hi (hb x (mem_at hx))
  | sl k l m hl hk h ih =>
    intro hb
    cases hb with
    | sl _ _ _ hb =>
      refine .sl _ _ _ fun s hs y hy => ?_
      obtain ⟨i, hi⟩ := List.getElem?_of_mem hs
      obtain ⟨j, hj⟩ := List.getElem?_of_mem hy
      obtain ⟨r, hr⟩ := pair_at hl hi
      obtain ⟨x, hx⟩ := pair_at (hk i r s hr hi) hj
      exact ih i j r s x y hr hi hx hj (hb r (mem_at hr) x (mem_at hx))
theorem flat_pair : ∀ {l m : List (List AV)}, l.length = m.length → (∀ (i : Nat) (r s : List AV), l[i]? = some r → m[i]? = some s → r.length = s.length) → l.flatten.length = m.flatten.length ∧
    ∀ (t : Nat) x y, l.flatten[t]? = some x → m.flatten[t]? = some y → ∃ (i j : Nat) (r s : List AV), l[i]? = some r ∧ m[i]? = some s ∧ r[j]? = some x ∧ s[j]? = some y
  | [], [], _, _ => ⟨rfl, fun t x y hx => by simp at hx⟩
  | a :: l, b :: m, hl, hk => by
    have hab : a.length = b.length := hk 0 a b rfl rfl
    obtain ⟨h1, h2⟩ := flat_pair (l := l) (m := m) (by simpa using hl) (fun i r s hr hs => hk (i + 1) r s (by simpa using hr) (by simpa using hs))
    refine ⟨by simp [h1, hab], fun t x y hx hy => ?_⟩
    rw [List.flatten_cons] at hx hy
    by_cases ht : t < a.length
    · rw [List.getElem?_append_left ht] at hx
      rw [List.getElem?_append_left (by omega)] at hy
      exact ⟨0, t, a, b, rfl, rfl, hx, hy⟩
    · rw [List.getElem?_append_right (by omega)] at hx hy
      rw [← hab] at hy
      obtain ⟨i, j, r, s, e1, e2, e3, e4⟩ := h2 _ x y hx hy
      exact ⟨i + 1, j, r, s, by simpa using e1, by simpa using e2, e3, e4⟩
  | [], _ :: _, h, _ => by simp at h
  | _ :: _, [], h, _ => by simp at h
theorem NilD.rel {w : World} {β : Nat → Nat} {Rd : Nat → Nat → Prop} {x y : AV} (h : NilD x y) : ∀ {v : Value}, Rel w β Rd x v → Rel w β Rd y v := by
  induction h with
  | same => exact id
  | nil k =>
    intro v hr
    obtain rfl := rel_nil hr
    exact .sl false k [] _ [] (by simp) (OSl.nil w k).toR (fun g o n c hv => by cases hv) (fun h => by cases h) (by simp) (fun j x u hx => by simp at hx)
  | agg l m hl h ih =>
    intro v hr
    cases hr with
    | agg _ vs hs hf hr =>
      refine .agg _ vs (by omega) (fun y hy => ?_) (fun j y u hy hu => ?_)
      · obtain ⟨i, hi⟩ := List.getElem?_of_mem hy
        obtain ⟨x, hx⟩ := pair_at hl hi
        obtain ⟨f1, f2⟩ := hf x (mem_at hx)
        exact ⟨(h i x y hx hi).free f1, (h i x y hx hi).one f2⟩
      · obtain ⟨x, hx⟩ := pair_at hl hy
        exact ih j x y hx hy (hr j x u hx hu)
  | tup l m hl h ih =>
    intro v hr
    cases hr with
    | tup _ vs hs hf hr =>
      refine .tup _ vs (by omega) (fun y hy => ?_) (fun j y u hy hu => ?_)
      · obtain ⟨i, hi⟩ := List.getElem?_of_mem hy
        obtain ⟨x, hx⟩ := pair_at hl hi
        exact (h i x y hx hi).free (hf x (mem_at hx))
      · obtain ⟨x, hx⟩ := pair_at hl hy
        exact ih j x y hx hy (hr j x u hx hu)
  | sl k l m hl hkl h ih =>
    intro v hr
    cases hr with
    | sl _ _ _ _ xs hk hx hd ho hf hr =>
      obtain ⟨hfl, hfp⟩ := flat_pair hl hkl
      refine .sl false k m v xs (fun s hs => ?_) (by rw [← hl]; exact hx) (fun g o n c hv j hj => hd g o n c hv j (by rw [hl]; exact hj)) (fun h => by cases h) (fun s hs y hy => ?_) (fun t y u hy hu => ?_)
      · obtain ⟨i, hi⟩ := List.getElem?_of_mem hs
        obtain ⟨r, hr⟩ := pair_at hl hi
        rw [← hkl i r s hr hi]; exact hk r (mem_at hr)
      · obtain ⟨i, hi⟩ := List.getElem?_of_mem hs
        obtain ⟨j, hj⟩ := List.getElem?_of_mem hy
        obtain ⟨r, hr⟩ := pair_at hl hi
        obtain ⟨x, hx⟩ := pair_at (hkl i r s hr hi) hj
        obtain ⟨f1, f2⟩ := hf r (mem_at hr) x (mem_at hx)
        have hn := h i j r s x y hr hi hx hj
        exact ⟨hn.free f1, hn.one f2⟩
      · obtain ⟨x, hx⟩ := pair_at hfl hy
        obtain ⟨i, j, r, s, e1, e2, e3, e4⟩ := hfp t x y hx hy
        exact ih i j r s x y e1 e2 e3 e4 (hr t x u hx hu)

/-- A CONTRACT whose answer has nil lists. -/
theorem PC.nilD {P : Program} {E : Env} {f : FuncId} {args : List AV} {H : Hp} {Q : AV → Hp → Prop} (h : PC P E f args H (fun v H' => ∃ v', NilD v v' ∧ Q v' H')) : PC P E f args H Q :=
  ⟨h.1, fun w β Rd Ow cargs h1 h2 h3 h4 => (h.2 w β Rd Ow cargs h1 h2 h3 h4).mono fun e w' ⟨u, v, H', β', Rd', Ow', he, ⟨v', hn, hQ⟩, hp⟩ =>
    ⟨u, v', H', β', Rd', Ow', he, hQ, hn.rel hp.rel, hn.bnd hp.bnd, fun g hg => hp.own g (hn.own u g hg), hn.dis hp.ne, hp.hr, hp.old, hp.len, hp.keep, hp.frame, hp.os, hp.tape, hp.output, hp.size⟩⟩
end Go.Proofs.YtimhofphmgehgaaDoor
