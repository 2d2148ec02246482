/- THE ABSTRACT MACHINE: values without a heap, and what it means that one stands for a Go value in a world. For every program. -/
import Derived.Test.YtimhofphmgehgaaDoorByt2
import Derived.Great.BuildSlice
set_option linter.unusedVariables false
set_option linter.unusedSimpArgs false
namespace Go.Proofs.YtimhofphmgehgaaDoor
open Go Go.RowKit

inductive AV where
  | int (k : IntKind) (n : Int)
  | bool (b : Bool)
  | str (s : List UInt8)
  /-- a box's number, a cell's -/
  | ptr (p : Option (Nat × Nat))
  /-- the address of a part of a row: what stands there -/
  | elt (cells : List AV)
  /-- a slice that may be read: its rows of k cells; own: its spare room is its holder's alone -/
  | sl (own : Bool) (k : Nat) (rows : List (List AV))
  /-- a slice that nobody else reads or writes -/
  | ex (k : Nat) (cells : List Value)
  | nil
  | agg (cells : List AV)
  | tup (vs : List AV)
  | fn (f : FuncId) (caps : List AV)
  | raw (v : Value)
instance : Inhabited AV := ⟨.nil⟩

def AV.free : AV → Bool
  | .sl own _ _ => !own
  | .ex _ _ => false
  | _ => true
def AV.one : AV → Bool
  | .agg _ | .tup _ => false
  | .raw v => v.oneCell'
  | _ => true
def AV.dis : AV → AV
  | .sl _ k r => .sl false k r
  | x => x
/-- The block that a holder of the value alone may write. -/
def own0 : AV → Value → Option Nat
  | .sl true _ _, v => v.ownBlock
  | .ex _ _, v => v.ownBlock
  | _, _ => none

inductive Bnd (N : Nat) : AV → Prop
  | int (k n) : Bnd N (.int k n)
  | bool (b) : Bnd N (.bool b)
  | str (s) : Bnd N (.str s)
  | ptr0 : Bnd N (.ptr none)
  | ptr (i o) (h : i < N) : Bnd N (.ptr (some (i, o)))
  | elt (l) (h : ∀ x ∈ l, Bnd N x) : Bnd N (.elt l)
  | sl (b k r) (h : ∀ l ∈ r, ∀ x ∈ l, Bnd N x) : Bnd N (.sl b k r)
  | ex (k l) : Bnd N (.ex k l)
  | nil : Bnd N .nil
  | agg (l) (h : ∀ x ∈ l, Bnd N x) : Bnd N (.agg l)
  | tup (l) (h : ∀ x ∈ l, Bnd N x) : Bnd N (.tup l)
  | fn (f l) (h : ∀ x ∈ l, Bnd N x) : Bnd N (.fn f l)
  | raw (v) : Bnd N (.raw v)

theorem Bnd.mono {N M : Nat} (hNM : N ≤ M) {x : AV} (h : Bnd N x) : Bnd M x := by
  induction h with
  | int | bool | str | ptr0 | ex | nil | raw => constructor
  | ptr i o h => exact .ptr i o (by omega)
  | elt l _ ih => exact .elt l ih
  | sl b k r _ ih => exact .sl b k r ih
  | agg l _ ih => exact .agg l ih
  | tup l _ ih => exact .tup l ih
  | fn f l _ ih => exact .fn f l ih
theorem Bnd.dis {N : Nat} {x : AV} (h : Bnd N x) : Bnd N x.dis := by
  cases h with
  | sl b k r h => exact .sl _ k r h
  | _ => first | assumption | (constructor <;> assumption)
theorem AV.dis_free (x : AV) : x.dis.free = true ∨ ∃ k l, x = .ex k l := by
  cases x <;> simp [AV.dis, AV.free]

/-- x STANDS FOR v in the world w: β: where the boxes lie; Rd: the cells that slices read, which nobody writes any more. -/
inductive Rel (w : World) (β : Nat → Nat) (Rd : Nat → Nat → Prop) : AV → Value → Prop
  | int (k n) : Rel w β Rd (.int k n) (.int k n)
  | bool (b) : Rel w β Rd (.bool b) (.bool b)
  | str (s : ByteArray) (l : List UInt8) (h : s.data.toList = l) (hm : s.size ≤ maxLen) : Rel w β Rd (.str l) (.string s)
  | ptr0 : Rel w β Rd (.ptr none) (.pointer none)
  | ptr (i o) : Rel w β Rd (.ptr (some (i, o))) (.pointer (some ⟨β i, o, none⟩))
  | elt (cells : List AV) (g o : Nat) (us : List Value) (hl : us.length = cells.length) (hc : ∀ j, j < us.length → Rd g (o + j) ∧ w.cell? ⟨g, o + j, none⟩ = us[j]?)
      (hf : ∀ x ∈ cells, x.free = true ∧ x.one = true) (hr : ∀ (j : Nat) (x : AV) (u : Value), cells[j]? = some x → us[j]? = some u → Rel w β Rd x u) : Rel w β Rd (.elt cells) (.pointer (some ⟨g, o, none⟩))
  | nil : Rel w β Rd .nil (.slice none 0 0)
  | sl (own : Bool) (k : Nat) (rows : List (List AV)) (v : Value) (xs : List Value) (hk : ∀ r ∈ rows, r.length = k) (hx : RSl w k v rows.length xs)
      (hd : ∀ g o n c, v = .slice (some ⟨g, o, none⟩) n c → ∀ j, j < rows.length * k → Rd g (o + j))
      (ho : own = true → OSl w k v rows.length xs ∧ ∀ g o n c, v = .slice (some ⟨g, o, none⟩) n c → ∀ j, rows.length * k ≤ j → j < c * k → ¬ Rd g (o + j))
      (hf : ∀ r ∈ rows, ∀ x ∈ r, x.free = true ∧ x.one = true) (hr : ∀ (j : Nat) (x : AV) (u : Value), rows.flatten[j]? = some x → xs[j]? = some u → Rel w β Rd x u) : Rel w β Rd (.sl own k rows) v
  | ex (k : Nat) (cells : List Value) (n : Nat) (v : Value) (h : OSl w k v n cells) (hd : ∀ g, v.ownBlock = some g → ∀ o, ¬ Rd g o) (hs : ∃ g, v = .slice (some ⟨g, 0, none⟩) n n) : Rel w β Rd (.ex k cells) v
  | agg (cells : List AV) (vs : Array Value) (hl : vs.size = cells.length) (hf : ∀ x ∈ cells, x.free = true ∧ x.one = true)
      (hr : ∀ (j : Nat) (x : AV) (u : Value), cells[j]? = some x → vs[j]? = some u → Rel w β Rd x u) : Rel w β Rd (.agg cells) (.agg vs)
  | tup (cells : List AV) (vs : Array Value) (hl : vs.size = cells.length) (hf : ∀ x ∈ cells, x.free = true)
      (hr : ∀ (j : Nat) (x : AV) (u : Value), cells[j]? = some x → vs[j]? = some u → Rel w β Rd x u) : Rel w β Rd (.tup cells) (.tuple vs)
  | fn (f : FuncId) (caps : List AV) (vs : Array Value) (hl : vs.size = caps.length) (hf : ∀ x ∈ caps, x.free = true)
      (hr : ∀ (j : Nat) (x : AV) (u : Value), caps[j]? = some x → vs[j]? = some u → Rel w β Rd x u) : Rel w β Rd (.fn f caps) (.func (.func f) #[] vs)
  | raw (v) : Rel w β Rd (.raw v) v

theorem own0_free {x : AV} (h : x.free = true) (v : Value) : own0 x v = none := by
  cases x with
  | sl own k r => cases own <;> simp_all [AV.free, own0]
  | ex k l => simp [AV.free] at h
  | _ => rfl

section
variable {w w' : World} {β β' : Nat → Nat} {Rd Rd' : Nat → Nat → Prop}

theorem mem_at {α : Type} {l : List α} {j : Nat} {x : α} (h : l[j]? = some x) : x ∈ l := List.mem_of_getElem? h
theorem flat_mem {l : List (List AV)} {j : Nat} {x : AV} (h : l.flatten[j]? = some x) : ∃ r ∈ l, x ∈ r := List.mem_flatten.1 (mem_at h)

/-- WHAT A VALUE STANDS FOR is the same behind a step that leaves the cells that are read, and the value's own block. -/
theorem Rel.move {N : Nat} {x : AV} {v : Value} (h : Rel w β Rd x v) (hB : Bnd N x)
    (hR : ∀ g o, Rd g o → Rd' g o ∧ w'.cell? ⟨g, o, none⟩ = w.cell? ⟨g, o, none⟩)
    (hO : ∀ g, own0 x v = some g → w'.heap[g]? = w.heap[g]? ∧ ∀ o, Rd' g o → Rd g o) (hs : w.heap.size ≤ w'.heap.size) (hβ : ∀ i, i < N → β' i = β i) : Rel w' β' Rd' x v := by
  induction h with
  | int | bool | ptr0 | nil | raw => constructor
  | str s l h hm => exact .str s l h hm
  | ptr i o =>
    cases hB with
    | ptr _ _ hi => rw [← hβ i hi]; exact .ptr i o
  | elt cells g o us hl hc hf hr ih =>
    cases hB with
    | elt _ hB =>
      refine .elt cells g o us hl (fun j hj => ?_) hf (fun j x u hx hu => ih j x u hx hu (hB x (mem_at hx)) (fun g hg => ?_))
      · obtain ⟨h1, h2⟩ := hc j hj
        exact ⟨(hR _ _ h1).1, (hR _ _ h1).2.trans h2⟩
      · rw [own0_free (hf x (mem_at hx)).1] at hg; cases hg
  | sl own k rows v xs hk hx hd ho hf hr ih =>
    cases hB with
    | sl _ _ _ hB =>
      refine .sl own k rows v xs hk ?_ (fun g o n c hv j hj => (hR _ _ (hd g o n c hv j hj)).1) (fun hown => ?_) hf (fun j x u hx hu => ?_)
      · obtain ⟨h1, ao, c, hv, h2, h3, h4⟩ := hx
        refine ⟨h1, ao, c, hv, h2, h3, fun hn => ?_⟩
        obtain ⟨g, o, rfl, h5⟩ := h4 hn
        exact ⟨g, o, rfl, fun j hj => (hR _ _ (hd g o _ c hv j hj)).2.trans (h5 j hj)⟩
      · subst hown
        obtain ⟨h1, h2⟩ := ho rfl
        refine ⟨h1.frame fun g hg _ => (hO g hg).1, fun g o n c hv j h3 h4 h5 => h2 g o n c hv j h3 h4 ((hO g ?_).2 _ h5)⟩
        rw [hv]; rfl
      · obtain ⟨r, hr1, hr2⟩ := flat_mem hx
        exact ih j x u hx hu (hB r hr1 x hr2) (fun g hg => by rw [own0_free (hf r hr1 x hr2).1] at hg; cases hg)
  | ex k cells n v h hd hs => exact .ex k cells n v (h.frame fun g hg _ => (hO g hg).1) (fun g hg o hr => hd g hg o ((hO g hg).2 o hr)) hs
  | agg cells vs hl hf hr ih =>
    cases hB with
    | agg _ hB => exact .agg cells vs hl hf (fun j x u hx hu => ih j x u hx hu (hB x (mem_at hx)) (fun g hg => by rw [own0_free (hf x (mem_at hx)).1] at hg; cases hg))
  | tup cells vs hl hf hr ih =>
    cases hB with
    | tup _ hB => exact .tup cells vs hl hf (fun j x u hx hu => ih j x u hx hu (hB x (mem_at hx)) (fun g hg => by rw [own0_free (hf x (mem_at hx))] at hg; cases hg))
  | fn f cells vs hl hf hr ih =>
    cases hB with
    | fn _ _ hB => exact .fn f cells vs hl hf (fun j x u hx hu => ih j x u hx hu (hB x (mem_at hx)) (fun g hg => by rw [own0_free (hf x (mem_at hx))] at hg; cases hg))

theorem Rel.dis {x : AV} {v : Value} (h : Rel w β Rd x v) : Rel w β Rd x.dis v := by
  cases h with
  | sl own k rows _ xs hk hx hd ho hf hr => exact .sl false k rows v xs hk hx hd (fun h => by cases h) hf hr
  | int k n => exact .int k n
  | bool b => exact .bool b
  | str s l h hm => exact .str s l h hm
  | ptr0 => exact .ptr0
  | ptr i o => exact .ptr i o
  | elt cells g o us hl hc hf hr => exact .elt cells g o us hl hc hf hr
  | nil => exact .nil
  | ex k cells n _ h hd hs => exact .ex k cells n v h hd hs
  | agg cells vs hl hf hr => exact .agg cells vs hl hf hr
  | tup cells vs hl hf hr => exact .tup cells vs hl hf hr
  | fn f caps vs hl hf hr => exact .fn f caps vs hl hf hr
  | raw => exact .raw v

/-- One-cell abstract values stand for one-cell values. -/
theorem Rel.oneCell {x : AV} {v : Value} (h : Rel w β Rd x v) (h1 : x.one = true) : v.oneCell' = true := by
  cases h with
  | int | bool | str | ptr0 | ptr | elt | nil | fn => rfl
  | sl own k rows _ xs hk hx => obtain ⟨_, ao, c, rfl, _⟩ := hx; rfl
  | ex k cells n _ h => obtain ⟨ao, c, rfl, _⟩ := h.shape; rfl
  | agg => simp [AV.one] at h1
  | tup => simp [AV.one] at h1
  | raw => simpa [AV.one] using h1
end

/-- Globals, and other blocks that stay as they are in the world w0. -/
structure Env where
  w0 : World
  Fix : Nat → Prop
  /-- the boxes that a flagged load may read -/
  S : Nat → Prop := fun _ => True

inductive Hold where
  | slot (t : Nat)
  | cell (i j : Nat)

abbrev Hp := List (List AV)

/-- THE BOXES H IN THE WORLD w. Ow: who may write a row. -/
structure HR (E : Env) (w : World) (β : Nat → Nat) (Rd : Nat → Nat → Prop) (Ow : Nat → Option Hold) (H : Hp) : Prop where
  box : ∀ (i : Nat) l, H[i]? = some l → ∃ T cs, w.heap[β i]? = some (.cells cs T (0, 0)) ∧ cs.size = l.length ∧
    ∀ (j : Nat) x u, l[j]? = some x → cs[j]? = some u → Rel w β Rd x u ∧ x.one = true ∧ ∀ g, own0 x u = some g → Ow g = some (.cell i j)
  inj : ∀ i j, i < H.length → j < H.length → β i = β j → i = j
  sep : ∀ i, i < H.length → Ow (β i) = none ∧ ∀ o, ¬ Rd (β i) o
  ows : ∀ g h, Ow g = some h → g < w.heap.size
  rds : ∀ g o, Rd g o → g < w.heap.size
  bnd : ∀ l ∈ H, ∀ x ∈ l, Bnd H.length x
  fix : ∀ b, E.Fix b → w.heap[b]? = E.w0.heap[b]? ∧ Ow b = none ∧ (∀ i, i < H.length → β i ≠ b) ∧ b < w.heap.size

/-- THE FRAME. -/
structure FR (w : World) (β : Nat → Nat) (Rd : Nat → Nat → Prop) (Ow : Nat → Option Hold) (N : Nat) (fr : List AV) (tmps : Array Value) : Prop where
  len : fr.length = tmps.size
  rel : ∀ (t : Nat) x u, fr[t]? = some x → tmps[t]? = some u → Rel w β Rd x u ∧ Bnd N x ∧ ∀ g, own0 x u = some g → Ow g = some (.slot t)

/-- What the activation must leave alone: the blocks F, as they were in W. -/
structure FO (W : World) (F : Nat → Prop) (Rd0 : Nat → Nat → Prop) (w : World) (β : Nat → Nat) (Rd : Nat → Nat → Prop) (Ow : Nat → Option Hold) (N : Nat) : Prop where
  lt : ∀ b, F b → b < W.heap.size
  same : ∀ b, F b → w.heap[b]? = W.heap[b]?
  own : ∀ b, F b → Ow b = none
  box : ∀ b i, F b → i < N → β i ≠ b
  rd : ∀ b o, F b → Rd b o → Rd0 b o
  os : w.os = W.os
  tape : w.tape = W.tape
  output : w.output = W.output
  size : W.heap.size ≤ w.heap.size
  keep : ∀ g o, Rd0 g o → Rd g o ∧ w.cell? ⟨g, o, none⟩ = W.cell? ⟨g, o, none⟩
end Go.Proofs.YtimhofphmgehgaaDoor
