/- Part 1 of the texts below the law: the abstract machine, the functions that it walks, what they compute. -/
import Derived.WalkKit
import Derived.WalkSpells
import Derived.WalkLawsBesides
import Derived.Deep.AppendSrc
import Derived.Deep.Upon
import Derived.Deep.MidRow
import Derived.Deep.RegionLaw
import Derived.StillTailTactics
import Derived.Lib.Hide
import Derived.Deep.RegionWith
import Derived.Deep.Quiet
import Derived.KernelRfl
import Derived.Laws.IdiomStrings
import Derived.Lib.SlBytesRow
import Derived.Lib.Strings
import Derived.Maps.Own
import Derived.Maps.OwnSet
import Derived.Maps.Ext
import Derived.Great.BuildSlice
import Derived.Laws.StructEq
import Derived.Great.FillDense
import Derived.Laws.Small
import Derived.Lib.FrozenHead
set_option linter.unusedVariables false
namespace Go.Proofs.Ytgofogcfolhonaa
open Go Go.RowKit

/-- What a call leaves alone: every block that existed and is not among S. -/
structure Frm (S : Nat → Prop) (w w' : World) : Prop where
  os : w'.os = w.os
  tape : w'.tape = w.tape
  output : w'.output = w.output
  size : w.heap.size ≤ w'.heap.size
  block : ∀ k, k < w.heap.size → ¬ S k → w'.heap[k]? = w.heap[k]?

theorem Frm.refl (S : Nat → Prop) (w : World) : Frm S w w := ⟨rfl, rfl, rfl, Nat.le_refl _, fun _ _ _ => rfl⟩
theorem Frm.trans {S : Nat → Prop} {a b c : World} (h : Frm S a b) (k : Frm S b c) : Frm S a c :=
  ⟨k.os.trans h.os, k.tape.trans h.tape, k.output.trans h.output, Nat.le_trans h.size k.size, fun i hi hs => (k.block i (Nat.lt_of_lt_of_le hi h.size) hs).trans (h.block i hi hs)⟩
theorem Frm.mono {S T : Nat → Prop} {a b : World} (h : Frm S a b) (hs : ∀ k, k < a.heap.size → S k → T k) : Frm T a b :=
  ⟨h.os, h.tape, h.output, h.size, fun k hk hn => h.block k hk (fun s => hn (hs k hk s))⟩
/-- Two steps; what the second may write is new or may be written by the whole. -/
theorem Frm.then {S T U : Nat → Prop} {a b c : World} (h : Frm S a b) (k : Frm T b c) (hs : ∀ i, i < a.heap.size → S i → U i) (ht : ∀ i, i < a.heap.size → T i → U i) : Frm U a c :=
  ⟨k.os.trans h.os, k.tape.trans h.tape, k.output.trans h.output, Nat.le_trans h.size k.size, fun i hi hn => (k.block i (Nat.lt_of_lt_of_le hi h.size) (fun t => hn (ht i hi t))).trans (h.block i hi (fun s => hn (hs i hi s)))⟩
theorem Frm.drew (S : Nat → Prop) (w : World) : Frm S w w.drew := ⟨rfl, rfl, rfl, Nat.le_refl _, fun _ _ _ => rfl⟩
theorem Frm.alloc (S : Nat → Prop) (w : World) (o : Obj) : Frm S w (w.alloc o) := ⟨rfl, rfl, rfl, by simp, fun k hk _ => heap_alloc_old w o hk⟩
theorem Frm.setCell {S : Nat → Prop} (w : World) (a : Addr) (u : Value) (h : S a.block) : Frm S w (w.setCell a u) :=
  ⟨rfl, rfl, rfl, by simp [World.setCell], fun k _ hn => Below.heap_setCell _ _ _ _ (fun e => hn (e ▸ h))⟩
theorem Frm.allocR {S : Nat → Prop} {w w1 : World} (h : Frm S w w1) (o : Obj) : Frm S w (w1.alloc o) := h.trans (Frm.alloc S w1 o)
theorem Frm.drewR {S : Nat → Prop} {w w1 : World} (h : Frm S w w1) : Frm S w w1.drew := h.trans (Frm.drew S w1)
theorem Frm.setIn {S : Nat → Prop} {w w1 : World} (h : Frm S w w1) {a : Addr} (ha : S a.block) (u : Value) : Frm S w (w1.setCell a u) := h.trans (Frm.setCell w1 a u ha)
/-- A step that writes new blocks alone. -/
theorem Frm.fresh {S T : Nat → Prop} {a b c : World} (h : Frm S a b) (k : Frm T b c) (ht : ∀ i, i < a.heap.size → T i → S i) : Frm S a c := h.then k (fun _ _ h => h) ht
theorem Frm.toBelow {S : Nat → Prop} {B : Nat} {w w' : World} (h : Frm S w w') (hB : B ≤ w.heap.size) (hs : ∀ k, k < B → ¬ S k) : Below B w w' :=
  ⟨h.os, h.tape, h.output, h.size, fun k hk => h.block k (Nat.lt_of_lt_of_le hk hB) (hs k hk)⟩
theorem Frm.cell {S : Nat → Prop} {w w' : World} (h : Frm S w w') {p : Addr} (hp : p.block < w.heap.size) (hn : ¬ S p.block) : w'.cell? p = w.cell? p := World.cell?_of_block (w := w) (h.block p.block hp hn)
/-- THE SLICE VALUE v, of n elements of 'size' cells each, READS AS the cells xs. -/
def RSl (w : World) (size : Nat) (v : Value) (n : Nat) (xs : List Value) : Prop :=
  xs.length = n * size ∧ ∃ ao cap, v = .slice ao n cap ∧ n ≤ cap ∧ cap ≤ maxLen ∧
    (0 < n → ∃ g o, ao = some ⟨g, o, none⟩ ∧ ∀ j, j < n * size → w.cell? ⟨g, o + j, none⟩ = xs[j]?)

/-- .. AND ITS CELLS, UP TO ITS CAPACITY, MAY BE WRITTEN. -/
def OSl (w : World) (size : Nat) (v : Value) (n : Nat) (xs : List Value) : Prop :=
  xs.length = n * size ∧ ((v = .slice none 0 0 ∧ n = 0) ∨
    ∃ g o cap, v = .slice (some ⟨g, o, none⟩) n cap ∧ n ≤ cap ∧ cap ≤ maxLen ∧ g < w.heap.size ∧
      (∀ j, j < n * size → w.cell? ⟨g, o + j, none⟩ = xs[j]?) ∧
      (∀ j, j < cap * size → (w.cell? ⟨g, o + j, none⟩).isSome = true ∧ w.frozen? ⟨g, o + j, none⟩ = false))

theorem OSl.nil (w : World) (size : Nat) : OSl w size (.slice none 0 0) 0 [] := ⟨by simp, .inl ⟨rfl, rfl⟩⟩

theorem OSl.toR {w : World} {size : Nat} {v : Value} {n : Nat} {xs : List Value} (h : OSl w size v n xs) : RSl w size v n xs := by
  obtain ⟨h1, ⟨rfl, rfl⟩ | ⟨g, o, cap, rfl, h2, h3, _, h4, _⟩⟩ := h
  · exact ⟨h1, none, 0, rfl, Nat.le_refl _, Nat.zero_le _, fun h => absurd h (by omega)⟩
  · exact ⟨h1, _, cap, rfl, h2, h3, fun _ => ⟨g, o, rfl, h4⟩⟩

theorem RSl.frame {w w' : World} {size : Nat} {v : Value} {n : Nat} {xs : List Value} (h : RSl w size v n xs) (hb : ∀ g, v.ownBlock = some g → w'.heap[g]? = w.heap[g]?) : RSl w' size v n xs := by
  obtain ⟨h1, ao, cap, rfl, h2, h3, h4⟩ := h
  refine ⟨h1, ao, cap, rfl, h2, h3, fun hn => ?_⟩
  obtain ⟨g, o, rfl, h5⟩ := h4 hn
  exact ⟨g, o, rfl, fun j hj => (World.cell?_of_block (a := ⟨g, o + j, none⟩) (hb g rfl)).trans (h5 j hj)⟩

theorem OSl.frame {w w' : World} {size : Nat} {v : Value} {n : Nat} {xs : List Value} (h : OSl w size v n xs) (hb : ∀ g, v.ownBlock = some g → g < w.heap.size → w'.heap[g]? = w.heap[g]?) : OSl w' size v n xs := by
  obtain ⟨h1, ⟨rfl, rfl⟩ | ⟨g, o, cap, rfl, h2, h3, h6, h4, h5⟩⟩ := h
  · exact ⟨h1, .inl ⟨rfl, rfl⟩⟩
  · have e := hb g rfl h6
    refine ⟨h1, .inr ⟨g, o, cap, rfl, h2, h3, ?_, fun j hj => (World.cell?_of_block (a := ⟨g, o + j, none⟩) e).trans (h4 j hj), fun j hj => ?_⟩⟩
    · have hl := Array.getElem?_eq_getElem h6
      rcases Nat.lt_or_ge g w'.heap.size with h' | h'
      · exact h'
      · rw [Array.getElem?_eq_none h', hl] at e; exact absurd e (by simp)
    · rw [World.cell?_of_block (a := ⟨g, o + j, none⟩) e, World.frozen?_of_block (a := ⟨g, o + j, none⟩) e]
      exact h5 j hj

theorem OSl.alloc {w : World} {size : Nat} {v : Value} {n : Nat} {xs : List Value} (h : OSl w size v n xs) (o : Obj) : OSl (w.alloc o) size v n xs :=
  h.frame fun g _ hg => heap_alloc_old w o hg
theorem OSl.drew {w : World} {size : Nat} {v : Value} {n : Nat} {xs : List Value} (h : OSl w size v n xs) : OSl w.drew size v n xs := h.frame fun _ _ _ => rfl
theorem OSl.frm {S : Nat → Prop} {w w' : World} {size : Nat} {v : Value} {n : Nat} {xs : List Value} (h : OSl w size v n xs) (hf : Frm S w w') (hs : ∀ g, v.ownBlock = some g → ¬ S g) : OSl w' size v n xs :=
  h.frame fun g hg hl => hf.block g hl (hs g hg)
theorem OSl.lt {w : World} {size : Nat} {v : Value} {n : Nat} {xs : List Value} (h : OSl w size v n xs) : ∀ g, v.ownBlock = some g → g < w.heap.size := by
  obtain ⟨h1, ⟨rfl, rfl⟩ | ⟨g, o, cap, rfl, _, _, h6, _⟩⟩ := h
  · intro g hg; simp [Value.ownBlock] at hg
  · intro g' hg; simp [Value.ownBlock] at hg; omega
theorem OSl.shape {w : World} {size : Nat} {v : Value} {n : Nat} {xs : List Value} (h : OSl w size v n xs) : ∃ ao cap, v = .slice ao n cap ∧ n ≤ cap ∧ cap ≤ maxLen := by
  obtain ⟨h1, ⟨rfl, rfl⟩ | ⟨g, o, cap, rfl, h2, h3, _⟩⟩ := h
  · exact ⟨none, 0, rfl, Nat.le_refl _, Nat.zero_le _⟩
  · exact ⟨_, cap, rfl, h2, h3⟩
theorem OSl.at {w : World} {size g o n cap : Nat} {xs : List Value} (h : OSl w size (.slice (some ⟨g, o, none⟩) n cap) n xs) : n ≤ cap ∧ cap ≤ maxLen ∧ g < w.heap.size ∧
      (∀ j, j < n * size → w.cell? ⟨g, o + j, none⟩ = xs[j]?) ∧
      (∀ j, j < cap * size → (w.cell? ⟨g, o + j, none⟩).isSome = true ∧ w.frozen? ⟨g, o + j, none⟩ = false) := by
  obtain ⟨h1, ⟨he, _⟩ | ⟨g', o', cap', he, h2, h3, h6, h4, h5⟩⟩ := h
  · cases he
  · injection he with e1 e2 e3
    injection e1 with e1
    injection e1 with e1 e4
    subst e1; subst e4; subst e3
    exact ⟨h2, h3, h6, h4, h5⟩

/-- A NEW ROW, WHOLE: n elements, room for cap. -/
theorem OSl.new (w : World) (cur : Array Value) (e size n cap : Nat) (xs : List Value) (hx : xs.length = n * size) (hn : n ≤ cap) (hm : cap ≤ maxLen) (hs : cur.size = cap * size) (ht : ∀ j, j < n * size → cur[j]? = xs[j]?) :
    OSl (w.alloc (.cells cur e)) size (.slice (some ⟨w.heap.size, 0, none⟩) n cap) n xs := by
  refine ⟨hx, .inr ⟨w.heap.size, 0, cap, rfl, hn, hm, by simp, fun j hj => ?_, fun j hj => ?_⟩⟩
  · rw [Nat.zero_add, World.cell?_alloc_new]; exact ht j hj
  · rw [Nat.zero_add, World.cell?_alloc_new, World.frozen?_alloc_new, Array.getElem?_eq_getElem (by omega)]; exact ⟨rfl, rfl⟩

theorem heap_size_setCells (b : Nat) : ∀ (vs : List Value) (o : Nat) (w : World), (w.setCells b o vs).heap.size = w.heap.size
  | [], _, _ => rfl
  | v :: r, o, w => by rw [World.setCells, heap_size_setCells b r]; simp [World.setCell]
theorem tape_setCells (b : Nat) : ∀ (vs : List Value) (o : Nat) (w : World), (w.setCells b o vs).tape = w.tape
  | [], _, _ => rfl
  | v :: r, o, w => by rw [World.setCells, tape_setCells b r]; rfl
theorem frm_setCells (b : Nat) (o : Nat) (vs : List Value) (w : World) : Frm (fun k => k = b) w (w.setCells b o vs) :=
  ⟨World.os_setCells _ _ _ _, tape_setCells _ _ _ _, World.output_setCells _ _ _ _, by rw [heap_size_setCells]; exact Nat.le_refl _, fun k hk hn => World.heap_setCells_other _ _ _ _ hk hn⟩

/-- append ONTO AN OWNED SLICE, from whatever source. -/
theorem run_append_osl {P : Program} {w : World} {size : Nat} {v : Value} {n : Nat} {xs : List Value} (h : OSl w size v n xs) (t tx ty e : TypeId) (i : TypeInfo) (z : Value) (bytes : Nat)
    (ht : P.underlying t = some (.slice e)) (hi : P.info? e = some i) (hz : i.zero = some z) (hsize : i.size = size) (hby : i.bytes = bytes) (hzs : z.cells.size = size)
    (x : Value) (m : Nat) (news : List Value) (hs : Src P size tx x m news w) (h63 : n + m ≤ maxLen) (hbytes : (n + m) * bytes ≤ 140737488355328) :
    ∃ v' w', (Builtin.append_ #[t, tx] ty #[v, x]).run P w = .ok v' w' ∧ OSl w' size v' (n + m) (xs ++ news) ∧ Frm (fun k => v.ownBlock = some k) w w' ∧
      (v'.ownBlock = v.ownBlock ∨ v'.ownBlock = some w.heap.size) := by
  subst hsize
  subst hby
  have hnl := hs.newsLen
  have hsmall : n + m ≤ 9223372036854775807 := by simp only [maxLen] at h63; omega
  have hlen' : (xs ++ news).length = (n + m) * i.size := by rw [List.length_append, h.1, hnl, Nat.add_mul]
  have grow : ∀ (bs : Option Addr) (sc : Nat), v = .slice bs n sc → sc < n + m → (Builtin.firstCells i.size n (.slice bs n sc)).run P w.drew = .ok xs.toArray w.drew →
      ∃ v' w', (Builtin.append_ #[t, tx] ty #[v, x]).run P w = .ok v' w' ∧ OSl w' i.size v' (n + m) (xs ++ news) ∧ Frm (fun k => v.ownBlock = some k) w w' ∧
      (v'.ownBlock = v.ownBlock ∨ v'.ownBlock = some w.heap.size) := by
    rintro bs sc rfl hg hold
    have hrun := run_append_grow_src (P := P) w t tx ty e i z ht hi hz bs n sc xs hold x m news hs hg (by omega) (growslice_fits hg hbytes)
    have hge := grownCap_ge w (n + m) sc e
    have hcm := grownCap_le_maxLen w (n + m) sc e h63
    refine ⟨_, _, hrun, ?_, ⟨rfl, rfl, rfl, by simp, fun k hk _ => heap_alloc_old w.drew _ hk⟩, .inr rfl⟩
    refine OSl.new w.drew _ e i.size (n + m) _ _ hlen' hge hcm ?_ ?_
    · rw [Array.size_append, List.size_toArray, hlen', size_zeroCells, hzs, ← Nat.add_mul]
      congr 1
      omega
    · intro j hj
      rw [Array.getElem?_append_left (by simp only [List.size_toArray]; omega), List.getElem?_toArray]
  obtain ⟨h1, ⟨rfl, rfl⟩ | ⟨g, o, cap, rfl, h2, h3, h6, h4, h5⟩⟩ := h
  · obtain rfl : xs = [] := List.eq_nil_of_length_eq_zero (by simpa using h1)
    rcases Nat.eq_zero_or_pos m with rfl | hm
    · obtain rfl : news = [] := List.eq_nil_of_length_eq_zero (by simpa using hnl)
      exact ⟨_, _, run_append_nothing (P := P) w t tx ty e i ht hi none 0 0 (Nat.le_refl _) x hs, OSl.nil _ _, Frm.refl _ _, .inl rfl⟩
    · exact grow none 0 rfl (by omega) (run_firstCells_none w.drew i.size 0 0 0)
  · by_cases hfit : n + m ≤ cap
    · have hmul : (n + m) * i.size ≤ cap * i.size := Nat.mul_le_mul_right _ hfit
      rw [Nat.add_mul] at hmul
      have hsome : ∀ j, j < news.length → (w.cell? ⟨g, o + n * i.size + j, none⟩).isSome = true := fun j hj => by
        have := (h5 (n * i.size + j) (by omega)).1; rwa [← Nat.add_assoc] at this
      have hfree : ∀ j, j < news.length → w.frozen? ⟨g, o + n * i.size + j, none⟩ = false := fun j hj => by
        have := (h5 (n * i.size + j) (by omega)).2; rwa [← Nat.add_assoc] at this
      have hrun := run_append_room_src (P := P) w t tx ty e i ht hi g o n cap x m news hs hfit hsome hfree
      refine ⟨_, _, hrun, ⟨hlen', .inr ⟨g, o, cap, rfl, hfit, h3, by rw [heap_size_setCells]; exact h6, fun j hj => ?_, fun j hj => ⟨?_, (World.frozen?_setCells g _ _ _ _).trans (h5 j hj).2⟩⟩⟩,
        (frm_setCells g _ _ w).mono (fun k _ e => by simp [Value.ownBlock, e]), .inl rfl⟩
      · rw [Nat.add_mul] at hj
        by_cases hjo : j < n * i.size
        · rw [World.cell?_setCells_out g _ _ _ _ (fun _ _ => Or.inl (by show o + j < o + n * i.size; omega)), List.getElem?_append_left (by omega)]
          exact h4 j hjo
        · have hlt : j - n * i.size < news.length := by omega
          have := World.cell?_setCells_in g news (o + n * i.size) w hsome (j - n * i.size) hlt
          rw [show o + n * i.size + (j - n * i.size) = o + j by omega] at this
          rw [this, List.getElem?_append_right (by omega), h1, List.getElem?_eq_getElem hlt]
      · by_cases hin : n * i.size ≤ j ∧ j < n * i.size + news.length
        · have := World.cell?_setCells_in g news (o + n * i.size) w hsome (j - n * i.size) (by omega)
          rw [show o + n * i.size + (j - n * i.size) = o + j by omega] at this
          rw [this]; rfl
        · rw [World.cell?_setCells_out g _ _ _ _ (fun _ _ => by show o + j < o + n * i.size ∨ o + n * i.size + news.length ≤ o + j; omega)]
          exact (h5 j hj).1
    · refine grow (some ⟨g, o, none⟩) cap rfl (by omega) ?_
      refine run_firstCells_some w.drew i.size n ⟨g, o, none⟩ n cap xs h1 (fun j u hu => ?_)
      rw [Addr.add_mid]
      have hj : j < n * i.size := by
        have := (List.getElem?_eq_some_iff.1 hu).1
        omega
      exact (h4 j hj).trans hu

section
variable {P : Program}
/-- .. AT A PLACE OF A LIST OF OPERATIONS. -/
theorem wpList_append_osl {ops : Array Oper} {rest : List Oper} {o : Oper} {a : Act} {Q : Exit → Act → World → Prop} (w : World) (hgd : o.guard = none) (s x : Operand) (t tx : TypeId)
    (ho : o.op = .call { callee := .builtin .append, args := #[s, x], argTypes := #[t, tx] })
    (e : TypeId) (i : TypeInfo) (z : Value) (size bytes : Nat) (ht : P.underlying t = some (.slice e)) (hi : P.info? e = some i) (hz : i.zero = some z) (hsize : i.size = size) (hby : i.bytes = bytes) (hzs : z.cells.size = size)
    (v : Value) (n : Nat) (xs : List Value) (hv : a.eval s = v) (h : OSl w size v n xs)
    (xv : Value) (m : Nat) (news : List Value) (hx : a.eval x = xv) (hs : Src P size tx xv m news w) (h63 : n + m ≤ maxLen) (hbytes : (n + m) * bytes ≤ 140737488355328)
    (hK : ∀ ao cap w', OSl w' size (.slice ao (n + m) cap) (n + m) (xs ++ news) → Frm (fun k => v.ownBlock = some k) w w' → ((Value.slice ao (n + m) cap).ownBlock = v.ownBlock ∨ (Value.slice ao (n + m) cap).ownBlock = some w.heap.size) →
      wpList P ops Q rest (a.put o.dst (.slice ao (n + m) cap)) w') : wpList P ops Q (o :: rest) a w := by
  refine wpList_plain hgd fun K hK' => ?_
  obtain ⟨v', w', hrun, r1, r2, r3⟩ := run_append_osl (P := P) h t tx o.type e i z bytes ht hi hz hsize hby hzs xv m news hs h63 hbytes
  obtain ⟨ao, cap, rfl, _, _⟩ := r1.shape
  unfold Oper.wp
  simp [execOp, ho, resolve, invoke, builtin, hv, hx, hrun, Result.andThen]
  exact hK' _ _ (hK _ _ _ r1 r2 r3)

end
end Go.Proofs.Ytgofogcfolhonaa
set_option linter.unusedVariables false
set_option linter.unusedSimpArgs false
namespace Go.Proofs.Ytgofogcfolhonaa
open Go

section
variable {P : Program} {ops : Array Oper}

def QF : Exit → Act → World → Prop := fun _ _ _ => False
def Upd (o : Oper) (a a' : Act) : Prop := ∃ v ds, a' = ({ a with defers := ds } : Act).put o.dst v
theorem letsOut_QF : ¬ LetsOut QF := fun ⟨_, _, h⟩ => h

theorem upon_mono {o : Oper} {a : Act} {K K' : Act → World → Prop} {r : Result Next} (h : o.upon P a K QF r) (hk : ∀ a' w', Upd o a a' → K a' w' → K' a' w') : o.upon P a K' QF r := by
  cases r with
  | ok n w' =>
    cases n <;> simp only [Oper.upon] at h ⊢
    case value v => exact hk _ _ ⟨v, a.defers, rfl⟩ h
    case skip => exact hk _ _ ⟨undef, a.defers, rfl⟩ h
    case defer d => exact hk _ _ ⟨undef, d :: a.defers, rfl⟩ h
    case enter f args =>
      refine Calls.mono h fun e w'' he => ?_
      cases e with
      | returned v => exact hk _ _ ⟨v, a.defers, rfl⟩ he
      | panicked c => exact he
      | outgrown => exact he
    case row row args => exact Rows.mono h fun v w'' he => hk _ _ ⟨v, a.defers, rfl⟩ he
  | halt x w' => cases x <;> simp only [Oper.upon] at h ⊢ <;> exact h

theorem upon_out {o : Oper} {a : Act} {K : Act → World → Prop} {r : Result Next} (h : o.upon P a K QF r) : ∃ a' w', Upd o a a' ∧ K a' w' := by
  cases r with
  | ok n w' =>
    cases n <;> simp only [Oper.upon] at h
    case value v => exact ⟨_, _, ⟨v, a.defers, rfl⟩, h⟩
    case skip => exact ⟨_, _, ⟨undef, a.defers, rfl⟩, h⟩
    case defer d => exact ⟨_, _, ⟨undef, d :: a.defers, rfl⟩, h⟩
    case enter f args =>
      obtain ⟨e, w'', fr, hR, _⟩ := h []
      cases e with
      | returned v => exact ⟨_, _, ⟨v, a.defers, rfl⟩, hR⟩
      | panicked c => exact (hR : False).elim
      | outgrown => exact (letsOut_QF hR).elim
    case row row args =>
      obtain ⟨v, w'', hR, _⟩ := h default []
      exact ⟨_, _, ⟨v, a.defers, rfl⟩, hR⟩
  | halt x w' => cases x <;> simp only [Oper.upon] at h <;> exact (h : False).elim

theorem upon_put {o : Oper} {a : Act} {d : Option Tmp} {v : Value} {K : Act → World → Prop} {r : Result Next} (hne : ∀ e, d = some e → o.dst ≠ some e) :
    o.upon P (a.put d v) K QF r ↔ o.upon P a (fun a' w' => K (a'.put d v) w') QF r := by
  cases r with
  | ok n w' =>
    cases n <;> simp only [Oper.upon]
    case value u => rw [Act.put_comm a v u hne]
    case skip => rw [Act.put_comm a v undef hne]
    case defer dd => rw [Act.put_defers, Act.put_comm _ v undef hne]
    case enter f args =>
      constructor
      · refine fun h => Calls.mono h fun e w'' he => ?_
        cases e with
        | returned u => exact (congrArg (fun x => K x w'') (Act.put_comm a v u hne)).mp he
        | panicked c => exact he
        | outgrown => exact he
      · refine fun h => Calls.mono h fun e w'' he => ?_
        cases e with
        | returned u => exact (congrArg (fun x => K x w'') (Act.put_comm a v u hne)).mpr he
        | panicked c => exact he
        | outgrown => exact he
    case row row args =>
      constructor
      · exact fun h => Rows.mono h fun u w'' he => by rw [Act.put_comm a v u hne] at he; exact he
      · exact fun h => Rows.mono h fun u w'' he => by rw [Act.put_comm a v u hne]; exact he
  | halt x w' => cases x <;> simp only [Oper.upon, QF]

theorem wpOp_some {i : Nat} {o : Oper} {K : Act → World → Prop} {a : Act} {w : World} (hi : ops[i]? = some o) :
    wpOp P ops QF i K a w ↔ (if Region.wanted o (yielded ops a.tmps) then o.wp P a w K QF else K (a.put o.dst undef) w) := by
  unfold wpOp
  simp only [hi]
  split
  · exact ⟨fun h => h.resolve_right (fun h' => letsOut_QF h'.2), Or.inl⟩
  · exact Iff.rfl

theorem op_mono {i : Nat} {o : Oper} {K K' : Act → World → Prop} {a : Act} {w : World} (hi : ops[i]? = some o) (h : wpOp P ops QF i K a w) (hk : ∀ a' w', Upd o a a' → K a' w' → K' a' w') : wpOp P ops QF i K' a w := by
  rw [wpOp_some hi] at *
  split
  · rename_i hw; rw [if_pos hw] at h; exact upon_mono h hk
  · rename_i hw; rw [if_neg hw] at h; exact hk _ _ ⟨undef, a.defers, rfl⟩ h
theorem op_out {i : Nat} {o : Oper} {K : Act → World → Prop} {a : Act} {w : World} (hi : ops[i]? = some o) (h : wpOp P ops QF i K a w) : ∃ a' w', Upd o a a' ∧ K a' w' := by
  rw [wpOp_some hi] at h
  split at h
  · exact upon_out h
  · exact ⟨_, _, ⟨undef, a.defers, rfl⟩, h⟩
theorem op_put {j : Nat} {oi oj : Oper} {v : Value} {K : Act → World → Prop} {a : Act} {w : World} (hj : ops[j]? = some oj) (hap : oi.apart ops oj = true) (hsj : ∀ cs b, oj.op ≠ .select cs b) :
    wpOp P ops QF j K (a.put oi.dst v) w ↔ wpOp P ops QF j (fun a' w' => K (a'.put oi.dst v) w') a w := by
  obtain ⟨h1, h2, h3⟩ := Oper.apart_spec hap
  rw [wpOp_some hj, wpOp_some hj, wanted_put oj a oi.dst v h1]
  split
  · unfold Oper.wp
    rw [execOp_put oj hsj a oi.dst v h1]
    exact upon_put h2
  · rw [Act.put_comm a v undef h2]

/-- An operation that looks at no tape and at no memory. -/
def Calm (P : Program) {α : Type} (m : Sem α) : Prop := (∃ v, ∀ w, m.run P w = .ok v w) ∨ (∀ w, ∃ h w', m.run P w = .halt h w')
def CalmV (P : Program) (m : Sem Next) : Prop := (∃ v, ∀ w, m.run P w = .ok (.value v) w) ∨ (∀ w, ∃ h w', m.run P w = .halt h w')
/-- An operation that leaves the world alone. -/
def Reads (P : Program) (m : Sem Next) : Prop := ∀ w, (∃ v, m.run P w = .ok (.value v) w) ∨ (∃ h w', m.run P w = .halt h w')
/-- An operation that lays one new block. -/
def Lays (P : Program) (m : Sem Next) : Prop := (∃ (f : Nat → Value) (o : Obj), ∀ w, m.run P w = .ok (.value (f w.heap.size)) (w.alloc o)) ∨ (∀ w, ∃ h w', m.run P w = .halt h w')

theorem upon_halt {o : Oper} {a : Act} {K : Act → World → Prop} {h : Halt} {w' : World} : ¬ o.upon P a K QF (.halt h w') := by
  cases h <;> simp only [Oper.upon, QF] <;> exact fun h => h

theorem calm_yields {i : Nat} {o : Oper} {K : Act → World → Prop} {a : Act} {w : World} (hi : ops[i]? = some o) (hc : CalmV P (execOp a.eval o)) (h : wpOp P ops QF i K a w) : ∃ v, Yields P ops o v a ∧ K (a.put o.dst v) w := by
  rw [wpOp_some hi] at h
  split at h
  · rename_i hw
    rcases hc with ⟨v, hv⟩ | hh
    · refine ⟨v, .inl ⟨hw, hv⟩, ?_⟩
      simpa only [Oper.wp, hv w, Oper.upon] using h
    · obtain ⟨x, w', hr⟩ := hh w
      unfold Oper.wp at h
      rw [hr] at h
      exact (upon_halt h).elim
  · rename_i hw
    exact ⟨undef, .inr ⟨by simpa using hw, rfl⟩, h⟩
theorem yields_app {i : Nat} {o : Oper} {v : Value} {K : Act → World → Prop} {a : Act} {w : World} (hi : ops[i]? = some o) (hy : Yields P ops o v a) (h : wpOp P ops QF i K a w) : K (a.put o.dst v) w := by
  rw [wpOp_some hi] at h
  rcases hy with ⟨hw, hv⟩ | ⟨hw, rfl⟩
  · rw [if_pos hw] at h; simpa only [Oper.wp, hv w, Oper.upon] using h
  · rw [if_neg (by simp [hw])] at h; exact h

theorem upd_eval {oi oj : Oper} {a a' : Act} (hu : Upd oj a a') (hap : oi.apart ops oj = true) (hsi : ∀ cs b, oi.op ≠ .select cs b) :
    execOp a'.eval oi = execOp a.eval oi ∧ Region.wanted oi (yielded ops a'.tmps) = Region.wanted oi (yielded ops a.tmps) ∧ ∀ x ∈ oi.op.operands, a'.eval x = a.eval x := by
  obtain ⟨h1, h2, h3⟩ := Oper.apart_spec hap
  obtain ⟨v, ds, rfl⟩ := hu
  refine ⟨(execOp_put oi hsi { a with defers := ds } oj.dst v h3).trans rfl, (wanted_put oi { a with defers := ds } oj.dst v h3).trans rfl, fun x hx => ?_⟩
  refine (Act.eval_put fun d hd hxd => h3 d hd ?_).trans rfl
  subst hxd
  exact List.mem_append_left _ (List.mem_filterMap.2 ⟨.tmp d, by simpa using hx, rfl⟩)

theorem apart_comm {x y : Oper} (h : x.apart ops y = true) : y.apart ops x = true := by
  obtain ⟨h1, h2, h3⟩ := Oper.apart_spec h
  unfold Oper.apart
  rw [Bool.and_eq_true]
  constructor
  · cases hy : y.dst with
    | none => rfl
    | some d =>
      have a1 := h3 d hy
      have a2 : x.dst ≠ some d := fun e => h2 d e hy
      simp [a1, a2]
  · cases hx : x.dst with
    | none => rfl
    | some d => simpa using h1 d hx

/-- What a reading operation yields in the world w. -/
def ReadAt (P : Program) (ops : Array Oper) (o : Oper) (v : Value) (a : Act) (w : World) : Prop :=
  (Region.wanted o (yielded ops a.tmps) = true ∧ (execOp a.eval o).run P w = .ok (.value v) w) ∨ (Region.wanted o (yielded ops a.tmps) = false ∧ v = undef)
theorem read_out {i : Nat} {o : Oper} {K : Act → World → Prop} {a : Act} {w : World} (hi : ops[i]? = some o) (hc : Reads P (execOp a.eval o)) (h : wpOp P ops QF i K a w) : ∃ v, ReadAt P ops o v a w ∧ K (a.put o.dst v) w := by
  rw [wpOp_some hi] at h
  split at h
  · rename_i hw
    rcases hc w with ⟨v, hv⟩ | ⟨x, w', hr⟩
    · refine ⟨v, .inl ⟨hw, hv⟩, ?_⟩
      simpa only [Oper.wp, hv, Oper.upon] using h
    · unfold Oper.wp at h
      rw [hr] at h
      exact (upon_halt h).elim
  · rename_i hw
    exact ⟨undef, .inr ⟨by simpa using hw, rfl⟩, h⟩
theorem read_in {i : Nat} {o : Oper} {v : Value} {K : Act → World → Prop} {a : Act} {w : World} (hi : ops[i]? = some o) (hr : ReadAt P ops o v a w) (h : K (a.put o.dst v) w) : wpOp P ops QF i K a w := by
  rw [wpOp_some hi]
  rcases hr with ⟨hw, hv⟩ | ⟨hw, rfl⟩
  · rw [if_pos hw]; simpa only [Oper.wp, hv, Oper.upon] using h
  · rw [if_neg (by simp [hw])]; exact h
theorem read_one {o : Oper} {v u : Value} {a : Act} {w : World} (h : ReadAt P ops o v a w) (k : ReadAt P ops o u a w) : v = u := by
  rcases h with ⟨h1, h2⟩ | ⟨h1, rfl⟩ <;> rcases k with ⟨k1, k2⟩ | ⟨k1, rfl⟩
  · rw [h2] at k2; simpa using k2
  · rw [h1] at k1; cases k1
  · rw [h1] at k1; cases k1
  · rfl
theorem read_upd {oi oj : Oper} {v : Value} {a a' : Act} {w : World} (hu : Upd oj a a') (hap : oi.apart ops oj = true) (hsi : ∀ cs b, oi.op ≠ .select cs b) : ReadAt P ops oi v a' w ↔ ReadAt P ops oi v a w := by
  obtain ⟨e1, e2, _⟩ := upd_eval hu hap hsi
  unfold ReadAt
  rw [e1, e2]

/-- The text's order, with what holds of every world on the way (Inv) and ahead of each operation (C). -/
def TOrd (P : Program) (ops : Array Oper) (Inv : World → Prop) (C : Nat → Act → Prop) : List Nat → (Act → World → Prop) → Act → World → Prop
  | [], K, a, w => Inv w ∧ K a w
  | i :: l, K, a, w => Inv w ∧ C i a ∧ wpOp P ops QF i (TOrd P ops Inv C l K) a w

variable {Inv : World → Prop} {C : Nat → Act → Prop}
theorem TOrd.inv {l : List Nat} {K : Act → World → Prop} {a : Act} {w : World} (h : TOrd P ops Inv C l K a w) : Inv w := by
  cases l <;> exact h.1

/-- What lets two operations change places. -/
inductive Swaps (P : Program) (ops : Array Oper) (Inv : World → Prop) (C : Nat → Act → Prop) (i j : Nat) (oi oj : Oper) : Prop
  | calm1 (h : ∀ a, C i a → CalmV P (execOp a.eval oi))
  | calm2 (h : ∀ a, C j a → CalmV P (execOp a.eval oj))
  | reads (h : ∀ a : Act, Reads P (execOp a.eval oi)) (k : ∀ a : Act, Reads P (execOp a.eval oj))
  | lays (h : ∀ a : Act, Reads P (execOp a.eval oi)) (k : ∀ a : Act, Lays P (execOp a.eval oj))
      (s : ∀ (a : Act) w o v, (execOp a.eval oi).run P w = .ok (.value v) w → (execOp a.eval oi).run P (w.alloc o) = .ok (.value v) (w.alloc o))
  | held1 (h : ∀ a : Act, Reads P (execOp a.eval oi)) (s : ∀ a w w' v, C i a → Inv w → Inv w' → (execOp a.eval oi).run P w = .ok (.value v) w → (execOp a.eval oi).run P w' = .ok (.value v) w')
  | held2 (h : ∀ a : Act, Reads P (execOp a.eval oj)) (s : ∀ a w w' v, C j a → Inv w → Inv w' → (execOp a.eval oj).run P w = .ok (.value v) w → (execOp a.eval oj).run P w' = .ok (.value v) w')

theorem TOrd.swap {i j : Nat} {oi oj : Oper} {l : List Nat} {K : Act → World → Prop} {a : Act} {w : World} (hi : ops[i]? = some oi) (hj : ops[j]? = some oj) (hap : oi.apart ops oj = true)
    (hsi : ∀ cs b, oi.op ≠ .select cs b) (hsj : ∀ cs b, oj.op ≠ .select cs b)
    (hC : ∀ k o a a', ops[k]? = some o → (∀ x ∈ o.op.operands, a'.eval x = a.eval x) → (C k a' ↔ C k a))
    (hs : Swaps P ops Inv C i j oi oj) (h : TOrd P ops Inv C (i :: j :: l) K a w) : TOrd P ops Inv C (j :: i :: l) K a w := by
  have hpa := apart_comm hap
  obtain ⟨hI, hCi, h⟩ := h
  have hXI : ∀ a' w', TOrd P ops Inv C l K a' w' → Inv w' := fun _ _ h => h.inv
  have hCj : C j a := by
    obtain ⟨a', w', hu, h'⟩ := op_out hi h
    exact (hC j oj a a' hj (upd_eval hu hpa hsj).2.2).1 h'.2.1
  refine ⟨hI, hCj, ?_⟩
  cases hs with
  | calm1 hc =>
    obtain ⟨v, hy, h1⟩ := calm_yields hi (hc a hCi) h
    have h2 := (op_put hj hap hsj).1 h1.2.2
    refine op_mono hj h2 fun a' w' hu hX => ?_
    obtain ⟨e1, e2, e3⟩ := upd_eval hu hap hsi
    exact ⟨hXI _ _ hX, (hC i oi a a' hi e3).2 hCi, (hy.of_same e1 e2).wpOp hi hX⟩
  | calm2 hc =>
    obtain ⟨a1, w1, hu1, h1⟩ := op_out hi h
    obtain ⟨v, hy1, _⟩ := calm_yields hj (hc a1 h1.2.1) h1.2.2
    obtain ⟨e1, e2, e3⟩ := upd_eval hu1 hpa hsj
    have hy : Yields P ops oj v a := hy1.of_same e1.symm e2.symm
    have h2 : wpOp P ops QF i (fun a' w' => TOrd P ops Inv C l K (a'.put oj.dst v) w') a w := op_mono hi h fun a' w' hu hX => by
      obtain ⟨f1, f2, _⟩ := upd_eval hu hpa hsj
      exact yields_app hj (hy.of_same f1 f2) hX.2.2
    have h3 := (op_put hi hpa hsi).2 h2
    refine hy.wpOp hj ⟨hI, ?_, h3⟩
    exact (hC i oi a _ hi (upd_eval ⟨v, a.defers, rfl⟩ hap hsi).2.2).2 hCi
  | reads hr hr' =>
    obtain ⟨v, hv, h1⟩ := read_out hi (hr a) h
    obtain ⟨u, hu, h2⟩ := read_out hj (hr' _) h1.2.2
    have hu' : ReadAt P ops oj u a w := (read_upd ⟨v, a.defers, rfl⟩ hpa hsj).1 hu
    refine read_in hj hu' ⟨hI, (hC i oi a _ hi (upd_eval ⟨u, a.defers, rfl⟩ hap hsi).2.2).2 hCi, ?_⟩
    refine read_in hi ((read_upd ⟨u, a.defers, rfl⟩ hap hsi).2 hv) ?_
    rw [Act.put_comm a u v (Oper.apart_spec hpa).2.1]
    exact h2
  | lays hr hl hst =>
    obtain ⟨v, hv, h1⟩ := read_out hi (hr a) h
    have h2 := (op_put hj hap hsj).1 h1.2.2
    have key : ∀ a' w', Upd oj a a' → ReadAt P ops oi v a' w' → TOrd P ops Inv C l K (a'.put oi.dst v) w' → Inv w' ∧ C i a' ∧ wpOp P ops QF i (TOrd P ops Inv C l K) a' w' := fun a' w' hu hre hX =>
      ⟨hXI _ _ hX, (hC i oi a a' hi (upd_eval hu hap hsi).2.2).2 hCi, read_in hi hre hX⟩
    rw [wpOp_some hj] at h2 ⊢
    split
    · rename_i hw
      rw [if_pos hw] at h2
      unfold Oper.wp at h2 ⊢
      rcases hl a with ⟨f, o, hrun⟩ | hh
      · rw [hrun w] at h2 ⊢
        simp only [Oper.upon] at h2 ⊢
        refine key _ _ ⟨_, a.defers, rfl⟩ ((read_upd ⟨_, a.defers, rfl⟩ hap hsi).2 ?_) h2
        rcases hv with ⟨v1, v2⟩ | hv
        · exact .inl ⟨v1, hst a w o v v2⟩
        · exact .inr hv
      · obtain ⟨x, w', hr⟩ := hh w
        rw [hr] at h2
        exact (upon_halt h2).elim
    · rename_i hw
      rw [if_neg hw] at h2
      exact key _ _ ⟨undef, a.defers, rfl⟩ ((read_upd ⟨_, a.defers, rfl⟩ hap hsi).2 hv) h2
  | held1 hr hst =>
    obtain ⟨v, hv, h1⟩ := read_out hi (hr a) h
    have h2 := (op_put hj hap hsj).1 h1.2.2
    refine op_mono hj h2 fun a' w' hu hX => ⟨hXI _ _ hX, (hC i oi a a' hi (upd_eval hu hap hsi).2.2).2 hCi, read_in hi ((read_upd hu hap hsi).2 ?_) hX⟩
    rcases hv with ⟨v1, v2⟩ | hv
    · exact .inl ⟨v1, hst a w w' v hCi hI (hXI _ _ hX) v2⟩
    · exact .inr hv
  | held2 hr hst =>
    have back : ∀ {u : Value} {w' : World}, Inv w' → ReadAt P ops oj u a w' → ReadAt P ops oj u a w := fun hI' hu => by
      rcases hu with ⟨v1, v2⟩ | hu
      · exact .inl ⟨v1, hst a _ w _ hCj hI' hI v2⟩
      · exact .inr hu
    obtain ⟨a1, w1, hu1, h1⟩ := op_out hi h
    obtain ⟨v, hv1, _⟩ := read_out hj (hr a1) h1.2.2
    have hv : ReadAt P ops oj v a w := back h1.1 ((read_upd hu1 hpa hsj).1 hv1)
    have h2 : wpOp P ops QF i (fun a' w' => TOrd P ops Inv C l K (a'.put oj.dst v) w') a w := op_mono hi h fun a' w' hu hX => by
      obtain ⟨u, hu2, hX2⟩ := read_out hj (hr a') hX.2.2
      have : u = v := read_one (back hX.1 ((read_upd hu hpa hsj).1 hu2)) hv
      subst this
      exact hX2
    have h3 := (op_put hi hpa hsi).2 h2
    exact read_in hj hv ⟨hI, (hC i oi a _ hi (upd_eval ⟨v, a.defers, rfl⟩ hap hsi).2.2).2 hCi, h3⟩
end
end Go.Proofs.Ytgofogcfolhonaa
set_option linter.unusedVariables false
set_option linter.unusedSimpArgs false
namespace Go.Proofs.Ytgofogcfolhonaa
open Go

section
variable {P : Program} {ops : Array Oper} {Inv : World → Prop} {C : Nat → Act → Prop}

theorem TOrd.mono {l : List Nat} {K K' : Act → World → Prop} (hk : ∀ a w, Inv w → K a w → K' a w) : ∀ {a : Act} {w : World}, (∀ i ∈ l, ∃ o, ops[i]? = some o) → TOrd P ops Inv C l K a w → TOrd P ops Inv C l K' a w := by
  induction l with
  | nil => exact fun _ h => ⟨h.1, hk _ _ h.1 h.2⟩
  | cons i l ih =>
    intro a w hl h
    obtain ⟨o, ho⟩ := hl i (List.mem_cons_self ..)
    exact ⟨h.1, h.2.1, op_mono ho h.2.2 fun a' w' _ h' => ih (fun j hj => hl j (List.mem_cons_of_mem _ hj)) h'⟩

theorem TOrd.append {l m : List Nat} {K : Act → World → Prop} : ∀ {a : Act} {w : World}, (∀ i ∈ l, ∃ o, ops[i]? = some o) → (TOrd P ops Inv C (l ++ m) K a w ↔ TOrd P ops Inv C l (TOrd P ops Inv C m K) a w) := by
  induction l with
  | nil => exact fun _ => ⟨fun h => ⟨h.inv, h⟩, fun h => h.2⟩
  | cons i l ih =>
    intro a w hl
    obtain ⟨o, ho⟩ := hl i (List.mem_cons_self ..)
    have hl' : ∀ i ∈ l, ∃ o, ops[i]? = some o := fun j hj => hl j (List.mem_cons_of_mem _ hj)
    exact ⟨fun h => ⟨h.1, h.2.1, op_mono ho h.2.2 fun a' w' _ h' => (ih hl').1 h'⟩, fun h => ⟨h.1, h.2.1, op_mono ho h.2.2 fun a' w' _ h' => (ih hl').2 h'⟩⟩

/-- The one that is taken moves to the front. -/
theorem TOrd.front {j : Nat} {oj : Oper} {m : List Nat} {K : Act → World → Prop} (hj : ops[j]? = some oj)
    (hsel : ∀ (i : Nat) (o : Oper) cs b, ops[i]? = some o → o.op ≠ .select cs b)
    (hC : ∀ k o a a', ops[k]? = some o → (∀ x ∈ o.op.operands, a'.eval x = a.eval x) → (C k a' ↔ C k a)) :
    ∀ (l : List Nat) {a : Act} {w : World}, (∀ i ∈ l, ∃ oi, ops[i]? = some oi ∧ oi.apart ops oj = true ∧ Swaps P ops Inv C i j oi oj) →
      TOrd P ops Inv C (l ++ j :: m) K a w → TOrd P ops Inv C (j :: (l ++ m)) K a w := by
  intro l
  induction l with
  | nil => exact fun _ h => h
  | cons i l ih =>
    intro a w hl h
    obtain ⟨oi, hi, hap, hs⟩ := hl i (List.mem_cons_self ..)
    refine TOrd.swap hi hj hap (fun cs b => hsel i oi cs b hi) (fun cs b => hsel j oj cs b hj) hC hs ?_
    exact ⟨h.1, h.2.1, op_mono hi h.2.2 fun a' w' _ h' => ih (fun k hk => hl k (List.mem_cons_of_mem _ hk)) h'⟩

theorem wpOp_weak {i : Nat} {K K' : Act → World → Prop} {Q : Exit → Act → World → Prop} {a : Act} {w : World} (hk : ∀ a w, K a w → K' a w) (h : wpOp P ops QF i K a w) : wpOp P ops Q i K' a w := by
  unfold wpOp at *
  split
  · rename_i ho; simp only [ho] at h; exact hk _ _ h
  · rename_i o ho
    simp only [ho] at h
    split
    · rename_i hw
      simp only [hw, if_true] at h
      refine .inl ?_
      have h := h.resolve_right (fun h' => letsOut_QF h'.2)
      unfold Oper.wp at *
      generalize (execOp a.eval o).run P w = r at *
      cases r with
      | ok n w' =>
        cases n <;> simp only [Oper.upon] at h ⊢ <;>
          first
            | exact hk _ _ h
            | exact Calls.mono h (fun e w'' he => by cases e <;> first | exact hk _ _ he | exact (he : False).elim | exact (letsOut_QF he).elim)
            | exact Rows.mono h (fun _ _ he => hk _ _ he)
      | halt x w' => exact (upon_halt h).elim
    · rename_i hw; simp only [hw] at h; exact hk _ _ h

/-- What is still to come, in the text's order. -/
def toCome (n : Nat) (listed : Array Bool) : List Nat := (List.range n).filter fun i => !listed.getD i true
theorem mem_toCome {n i : Nat} {listed : Array Bool} : i ∈ toCome n listed ↔ i < n ∧ listed.getD i true = false := by
  simp [toCome]

/-- Every edge leads back. -/
def backB (ops : Array Oper) : Bool := (List.range ops.size).all fun j => match ops[j]? with
  | some o => o.after.toList.all fun e => !Region.binds .any e || decide (e.on < j)
  | none => true
/-- What the table M says of i's forerunners leads along edges. -/
def closeB (M : List Nat) (ops : Array Oper) : Bool := (List.range ops.size).all fun j => match ops[j]? with
  | some o => (List.range j).all fun k => !(M.getD j 0).testBit k || o.after.toList.any fun e => Region.binds .any e && (e.on == k || (decide (k < e.on) && (M.getD e.on 0).testBit k))
  | none => true

def Closed (ops : Array Oper) (listed : Array Bool) : Prop := ∀ j o, ops[j]? = some o → listed.getD j false = true → ∀ e ∈ o.after, Region.binds .any e = true → listed.getD e.on false = true

theorem back_spec (h : backB ops = true) {j : Nat} {o : Oper} (ho : ops[j]? = some o) {e : Edge} (he : e ∈ o.after) (hb : Region.binds .any e = true) : e.on < j := by
  have hlt : j < ops.size := (Array.getElem?_eq_some_iff.1 ho).1
  have := List.all_eq_true.1 h j (List.mem_range.2 hlt)
  simp only [ho] at this
  have := List.all_eq_true.1 this e (by simpa using he)
  simpa [hb] using this

theorem fore_listed {M : List Nat} (hb : backB ops = true) (hc : closeB M ops = true) {listed : Array Bool} (hcl : Closed ops listed) : ∀ (j : Nat) (o : Oper), ops[j]? = some o → (∀ e ∈ o.after, Region.binds .any e = true → listed.getD e.on false = true) →
    ∀ k, k < j → (M.getD j 0).testBit k = true → listed.getD k false = true := by
  intro j
  induction j using Nat.strongRecOn with
  | _ j ih =>
    intro o ho hall k hk hbit
    have hlt : j < ops.size := (Array.getElem?_eq_some_iff.1 ho).1
    have h1 := List.all_eq_true.1 hc j (List.mem_range.2 hlt)
    simp only [ho] at h1
    have h2 := List.all_eq_true.1 h1 k (List.mem_range.2 hk)
    simp only [hbit, Bool.not_true, Bool.false_or, List.any_eq_true, Bool.and_eq_true, Bool.or_eq_true, beq_iff_eq, decide_eq_true_eq] at h2
    obtain ⟨e, he, hbe, h3⟩ := h2
    have he' : e ∈ o.after := by simpa using he
    have hlist := hall e he' hbe
    rcases h3 with rfl | ⟨hke, h3⟩
    · exact hlist
    · have hej := back_spec hb ho he' hbe
      obtain ⟨oe, hoe⟩ : ∃ oe, ops[e.on]? = some oe := ⟨_, Array.getElem?_eq_getElem (by omega)⟩
      exact ih e.on hej oe hoe (hcl e.on oe hoe hlist) k hke h3

theorem range_split {n j : Nat} {p : Nat → Bool} (hj : j < n) (hp : p j = true) : ∃ l m, (List.range n).filter p = l ++ j :: m ∧ (∀ i ∈ l, i < j ∧ p i = true) ∧ (List.range n).filter (fun i => p i && decide (i ≠ j)) = l ++ m := by
  obtain ⟨d, rfl⟩ : ∃ d, n = j + (d + 1) := ⟨n - j - 1, by omega⟩
  rw [List.range_add, List.filter_append, List.filter_append]
  have e1 : (List.range (d + 1)).map (j + ·) = j :: (List.range d).map (j + 1 + ·) := by
    rw [List.range_succ_eq_map, List.map_cons, List.map_map]
    simp only [Nat.add_zero, List.cons.injEq, true_and]
    apply List.map_congr_left
    intro a _
    simp only [Function.comp]
    omega
  rw [e1, List.filter_cons_of_pos hp, List.filter_cons_of_neg (by simp)]
  refine ⟨(List.range j).filter p, _, rfl, fun i hi => ?_, ?_⟩
  · rw [List.mem_filter, List.mem_range] at hi; exact hi
  · congr 1
    · apply List.filter_congr
      intro x hx
      have := List.mem_range.1 hx
      simp [show x ≠ j by omega]
    · apply List.filter_congr
      intro x hx
      obtain ⟨y, _, rfl⟩ := List.mem_map.1 hx
      simp [show j + 1 + y ≠ j by omega]

theorem any_of_text {M : List Nat} {Q : Exit → Act → World → Prop} (hb : backB ops = true) (hc : closeB M ops = true)
    (hsel : ∀ (i : Nat) (o : Oper) cs b, ops[i]? = some o → o.op ≠ .select cs b)
    (hC : ∀ k o a a', ops[k]? = some o → (∀ x ∈ o.op.operands, a'.eval x = a.eval x) → (C k a' ↔ C k a))
    (hsw : ∀ (i j : Nat) (oi oj : Oper), i < j → ops[i]? = some oi → ops[j]? = some oj → (M.getD j 0).testBit i = false → oi.apart ops oj = true ∧ Swaps P ops Inv C i j oi oj) :
    ∀ (fuel : Nat) (listed : Array Bool) (a : Act) (w : World), listed.size = ops.size → Closed ops listed → (toCome ops.size listed).length = fuel →
      TOrd P ops Inv C (toCome ops.size listed) (Q .normal) a w → wpAny P .any ops Q fuel listed a w := by
  intro fuel
  induction fuel with
  | zero =>
    intro listed a w hs hcl hf h
    have h0 := List.eq_nil_of_length_eq_zero hf
    rw [h0] at h
    refine ⟨?_, h.2⟩
    rcases hr : Region.ready .any ops listed with _ | ⟨x, r⟩
    · rfl
    · exfalso
      have hx : x ∈ Region.ready .any ops listed := by rw [hr]; exact List.mem_cons_self ..
      rw [mem_ready] at hx
      obtain ⟨h1, o, ho, _⟩ := hx
      have : x ∈ toCome ops.size listed := mem_toCome.2 ⟨(Array.getElem?_eq_some_iff.1 ho).1, h1⟩
      rw [h0] at this
      cases this
  | succ fuel ih =>
    intro listed a w hs hcl hf h
    have getf : ∀ j, j < ops.size → listed.getD j false = listed.getD j true := fun j hj => by
      simp [Array.getD, hs, hj]
    refine ⟨fun hr => ?_, fun j hj => ?_⟩
    · exfalso
      rcases hl : toCome ops.size listed with _ | ⟨x, r⟩
      · rw [hl] at hf; cases hf
      · have hx : x ∈ toCome ops.size listed := by rw [hl]; exact List.mem_cons_self ..
        obtain ⟨h1, h2⟩ := mem_toCome.1 hx
        have : x ∈ Region.ready .any ops listed := by
          rw [mem_ready]
          refine ⟨h2, _, Array.getElem?_eq_getElem h1, fun e he hbe => ?_⟩
          have hex := back_spec hb (Array.getElem?_eq_getElem h1) he hbe
          cases hle : listed.getD e.on false
          · exfalso
            have hle' : listed.getD e.on true = false := by rw [← getf _ (by omega)]; exact hle
            have hm : e.on ∈ toCome ops.size listed := mem_toCome.2 ⟨by omega, hle'⟩
            have hsorted : (toCome ops.size listed).Pairwise (· < ·) := List.Pairwise.sublist List.filter_sublist List.pairwise_lt_range
            rw [hl] at hm hsorted
            rcases List.mem_cons.1 hm with h' | h'
            · omega
            · have := (List.pairwise_cons.1 hsorted).1 _ h'
              omega
          · rfl
        rw [hr] at this
        cases this
    · have hj' := hj
      rw [mem_ready] at hj'
      obtain ⟨h1, o, ho, hall⟩ := hj'
      have hlt : j < ops.size := (Array.getElem?_eq_some_iff.1 ho).1
      obtain ⟨l, m, e1, e2, e3⟩ := range_split (p := fun i => !listed.getD i true) hlt (by simp only [h1]; rfl)
      have e1' : toCome ops.size listed = l ++ j :: m := e1
      rw [e1'] at h
      have hset : toCome ops.size (listed.setIfInBounds j true) = l ++ m := by
        rw [← e3]
        unfold toCome
        apply List.filter_congr
        intro x hx
        by_cases hxj : x = j
        · subst hxj
          simp [Array.getD, hs, hlt]
        · rw [getD_set_ne true (Ne.symm hxj)]
          simp [hxj]
      have h2 := TOrd.front (Inv := Inv) (C := C) ho hsel hC l (fun i hi => by
        obtain ⟨hij, hil⟩ := e2 i hi
        have hio : ops[i]? = some ops[i] := Array.getElem?_eq_getElem (by omega)
        refine ⟨_, hio, hsw i j _ o hij hio ho ?_⟩
        cases hbit : (M.getD j 0).testBit i
        · rfl
        · exfalso
          have := fore_listed hb hc hcl j o ho hall i hij hbit
          rw [getf i (by omega)] at this
          rw [this] at hil
          exact absurd hil (by simp)) h
      refine wpOp_weak (fun a' w' h' => ?_) h2.2.2
      refine ih _ a' w' (by simpa using hs) ?_ ?_ (by rw [hset]; exact h')
      · intro k ok hok hk e he hbe
        by_cases hkj : k = j
        · subst hkj
          obtain rfl : ok = o := by rw [ho] at hok; simpa using hok.symm
          exact getD_set_true (hall e he hbe)
        · rw [getD_set_ne false (Ne.symm hkj)] at hk
          exact getD_set_true (hcl k ok hok hk e he hbe)
      · rw [hset]
        rw [e1'] at hf
        simp only [List.length_append, List.length_cons] at hf ⊢
        omega
end
end Go.Proofs.Ytgofogcfolhonaa
set_option linter.unusedVariables false
set_option linter.unusedSimpArgs false
namespace Go.Proofs.Ytgofogcfolhonaa
open Go

section
variable {P : Program}

def Halts (P : Program) {α : Type} (m : Sem α) : Prop := ∀ w, ∃ h w', m.run P w = .halt h w'
theorem Halts.left {α β : Type} {m : Sem α} {f : α → Sem β} (h : Halts P m) : Halts P (m >>= f) := fun w => by
  obtain ⟨x, w', e⟩ := h w
  exact ⟨x, w', by rw [Sem.run_bind, e]; rfl⟩
theorem Halts.right {α β : Type} {m : Sem α} {f : α → Sem β} (h : ∀ v, Halts P (f v)) : Halts P (m >>= f) := fun w => by
  rw [Sem.run_bind]
  cases e : m.run P w with
  | ok v w' => exact h v w'
  | halt x w' => exact ⟨x, w', rfl⟩
theorem Halts.calm {α : Type} {m : Sem α} (h : Halts P m) : Calm P m := .inr h
theorem calm_pure {α : Type} (v : α) : Calm P (pure v : Sem α) := .inl ⟨v, fun _ => rfl⟩
theorem halts_stuck {α : Type} (s : String) : Halts P (stuck s : Sem α) := fun w => ⟨_, _, rfl⟩
theorem halts_unsupported {α : Type} (s : Unsupported) : Halts P (unsupported s : Sem α) := fun w => ⟨_, _, rfl⟩
theorem halts_panic {α : Type} (v : Value) : Halts P (goPanic v : Sem α) := fun w => ⟨_, _, rfl⟩
theorem calm_program : Calm P program := .inl ⟨P, fun _ => rfl⟩
theorem calm_bind {α β : Type} {m : Sem α} {f : α → Sem β} (hm : Calm P m) (hf : ∀ v, Calm P (f v)) : Calm P (m >>= f) := by
  rcases hm with ⟨v, hv⟩ | hh
  · rcases hf v with ⟨u, hu⟩ | h2
    · exact .inl ⟨u, fun w => by rw [Sem.run_bind, hv w]; exact hu w⟩
    · exact .inr fun w => by rw [Sem.run_bind, hv w]; exact h2 w
  · exact .inr (Halts.left hh)
theorem calmV {m : Sem Value} (h : Calm P m) : CalmV P (do pure (.value (← m)) : Sem Next) := by
  rcases h with ⟨v, hv⟩ | hh
  · exact .inl ⟨v, fun w => by rw [Sem.run_bind, hv w]; rfl⟩
  · exact .inr (Halts.left hh)

theorem calm_underlying (t : TypeId) : Calm P (underlying t) := by
  unfold underlying
  refine calm_bind calm_program fun p => ?_
  split
  · exact calm_pure _
  · exact (halts_stuck _).calm
theorem calm_typeInfo (t : TypeId) : Calm P (typeInfo t) := by
  unfold typeInfo
  refine calm_bind calm_program fun p => ?_
  split
  · exact calm_pure _
  · exact (halts_stuck _).calm
theorem calm_sizeOf (t : TypeId) : Calm P (sizeOf t) := calm_bind (calm_typeInfo t) fun _ => calm_pure _
theorem calm_isAgg (t : TypeId) : Calm P (isAgg t) := by
  unfold isAgg
  refine calm_bind (calm_underlying t) fun p => ?_
  split <;> exact calm_pure _
theorem calm_zeroValue (t : TypeId) : Calm P (zeroValue t) := by
  unfold zeroValue
  refine calm_bind (calm_typeInfo t) fun p => ?_
  split
  · exact calm_pure _
  · exact (halts_unsupported _).calm
theorem halts_runtimePanic {α : Type} (e : RuntimeError) : Halts P (runtimePanic e : Sem α) := by
  unfold runtimePanic
  refine Halts.right fun p => ?_
  cases e with
  | typeAssertion i c a m => exact Halts.right fun _ => Halts.right fun _ => halts_panic _
  | panicNil => exact Halts.right fun _ => Halts.right fun _ => halts_panic _
  | _ => exact halts_panic _
theorem halts_boundsPanic {α : Type} (k : IntKind) (x y : Int) (c : BoundsCode) : Halts P (boundsPanic k x y c : Sem α) := by
  unfold boundsPanic
  dsimp only
  split <;> exact Halts.right fun _ => halts_runtimePanic _
theorem calm_asIntOf (v : Value) : Calm P (asIntOf v) := by
  unfold asIntOf
  split
  · exact calm_pure _
  · exact (halts_unsupported _).calm
  · exact (halts_stuck _).calm
theorem calm_asBool (v : Value) : Calm P (asBool v) := by
  unfold asBool
  split
  · exact calm_pure _
  · exact (halts_stuck _).calm
theorem calm_asAgg (v : Value) : Calm P (asAgg v) := by
  unfold asAgg
  split
  · exact calm_pure _
  · exact (halts_stuck _).calm
theorem calm_asAddr (v : Value) : Calm P (asAddr v) := by
  unfold asAddr
  split
  · exact calm_pure _
  · exact (halts_runtimePanic _).calm
  · exact (halts_stuck _).calm
theorem calm_sureAddr (v : Value) : Calm P (Instr.sureAddr v) := by
  unfold Instr.sureAddr
  split
  · exact calm_pure _
  · exact (halts_stuck _).calm
theorem calm_part (t : TypeId) (cs : Array Value) (off : Nat) : Calm P (part t cs off) := by
  unfold part
  refine calm_bind (calm_isAgg t) fun b => ?_
  split
  · exact calm_bind (calm_sizeOf t) fun _ => calm_pure _
  · split
    · exact calm_pure _
    · exact (halts_stuck _).calm
theorem calm_field (t : TypeId) (x : Value) (f : Nat) : Calm P (Instr.field t x f) := by
  unfold Instr.field
  refine calm_bind (calm_underlying t) fun d => ?_
  split
  · split
    · exact calm_bind (calm_asAgg x) fun _ => calm_part _ _ _
    · exact (halts_stuck _).calm
  · exact (halts_stuck _).calm
theorem calm_extract (x : Value) (i : Nat) : Calm P (Instr.extract x i) := by
  unfold Instr.extract
  split
  · split
    · exact calm_pure _
    · exact (halts_stuck _).calm
  · exact (halts_stuck _).calm
theorem calm_index (t : TypeId) (x i : Value) : Calm P (Instr.index t x i) := by
  unfold Instr.index
  refine calm_bind (calm_asIntOf i) fun k => ?_
  refine calm_bind (calm_underlying t) fun d => ?_
  split
  · split
    · exact calm_bind (calm_sizeOf _) fun _ => calm_part _ _ _
    · exact (halts_boundsPanic _ _ _ _).calm
  · split
    · exact calm_pure _
    · exact (halts_boundsPanic _ _ _ _).calm
  · exact (halts_stuck _).calm
theorem calm_sliceBound (x : Value) (y : Nat) (c : BoundsCode) : Calm P (Instr.sliceBound x y c) := by
  unfold Instr.sliceBound
  refine calm_bind (calm_asIntOf x) fun k => ?_
  dsimp only
  split
  · exact calm_pure _
  · exact (halts_boundsPanic _ _ _ _).calm
theorem calm_sliceBounds (b : Bool) (l c : Nat) (lo hi mx : Option Value) : Calm P (Instr.sliceBounds b l c lo hi mx) := by
  unfold Instr.sliceBounds
  dsimp only
  have hl : ∀ h m : Nat, Calm P (match lo with
        | some v => do
          let l ← Instr.sliceBound v h (if mx.isSome = true then BoundsCode.slice3C else BoundsCode.sliceB)
          pure (l, h, m)
        | none => do
          let l ← pure 0
          pure (l, h, m)) := fun h m => by
    split
    · exact calm_bind (calm_sliceBound _ _ _) fun _ => calm_pure _
    · exact calm_bind (calm_pure _) fun _ => calm_pure _
  split <;> refine calm_bind (by first | exact calm_sliceBound _ _ _ | exact calm_pure _) fun m => ?_
  all_goals
    split <;> first
      | exact calm_bind (calm_sliceBound _ _ _) fun _ => hl _ _
      | exact calm_bind (calm_pure _) fun _ => hl _ _
      | exact ((halts_stuck _).left).calm
theorem calm_sliceAt (t : TypeId) (x : Value) (lo hi mx : Option Value) : Calm P (Instr.sliceAt t x lo hi mx) := by
  unfold Instr.sliceAt
  refine calm_bind (calm_underlying t) fun d => ?_
  split
  · refine calm_bind (calm_sureAddr _) fun a => calm_bind (calm_sliceBounds _ _ _ _ _ _) fun r => calm_bind (calm_sizeOf _) fun s => calm_pure _
  · unfold Instr.slice
    refine calm_bind (calm_underlying t) fun d => ?_
    split
    · split
      · exact (halts_stuck _).left.calm
      · refine calm_bind (calm_sliceBounds _ _ _ _ _ _) fun r => ?_
        obtain ⟨l, h, m⟩ := r
        exact calm_pure _
    · exact calm_bind (calm_sliceBounds _ _ _ _ _ _) fun r => calm_bind (calm_sizeOf _) fun s => calm_pure _
    · refine calm_bind (calm_asAddr _) fun a => calm_bind (calm_underlying _) fun d => ?_
      split
      · exact calm_bind (calm_sliceBounds _ _ _ _ _ _) fun r => calm_bind (calm_sizeOf _) fun s => calm_pure _
      · exact (halts_stuck _).calm
    · exact (halts_stuck _).calm
def fieldB (P : Program) (s : TypeId) (f : Nat) : Bool := match P.underlying s with
  | some (.struct fs) => match fs[f]? with
    | some fl => match P.info? fl.type with
      | some i => i.size != 0
      | none => false
    | none => false
  | _ => false
theorem run_underlying' {t : TypeId} {d : TypeDesc} (h : P.underlying t = some d) (w : World) : (underlying t).run P w = .ok d w := run_underlying h w
theorem calm_fieldAt (t : TypeId) (x : Value) (f : Nat) (hb : fieldB P t f = true) : Calm P (Instr.fieldAt t x f) := by
  unfold fieldB at hb
  split at hb
  · rename_i fs hu
    split at hb
    · rename_i fl hf
      split at hb
      · rename_i i hi
        have hne : i.size ≠ 0 := by simpa using hb
        rcases calm_sureAddr (P := P) x with ⟨a, ha⟩ | hh
        · refine .inl ⟨.pointer (some (a.add fl.offset)), fun w => ?_⟩
          have hs : (sizeOf fl.type).run P w = .ok i.size w := by simp [sizeOf, typeInfo, hi]
          simp only [Instr.fieldAt, Sem.run_bind, run_underlying' hu, Result.andThen_ok, hf, ha w, fieldPlace, hs, hne, if_false]
          rfl
        · refine .inr fun w => ?_
          obtain ⟨y, w', hy⟩ := hh w
          exact ⟨y, w', by simp only [Instr.fieldAt, Sem.run_bind, run_underlying' hu, Result.andThen_ok, hf, hy]; rfl⟩
      · cases hb
    · cases hb
  · cases hb
theorem calm_indexAt (t : TypeId) (x i : Value) : Calm P (Instr.indexAt t x i) := by
  have tail : ∀ (k : IntKind) (i : Int) (base : Option Addr) (len : Nat) (elem : TypeId) (tiny : Bool), Calm P (match base with
    | some a =>
      if 0 ≤ i ∧ i < len then (do pure (.pointer (some (a.add (i.toNat * (← sizeOf elem))))) : Sem Value)
      else if tiny then unsupported (.noEntry "op/indexAddr.an index out of range at an array of length 0 or 1 (ledger 616)")
      else boundsPanic k i len .index
    | none => boundsPanic k i 0 .index) := fun k i base len elem tiny => by
    split
    · split
      · exact calm_bind (calm_sizeOf _) fun _ => calm_pure _
      · split
        · exact (halts_unsupported _).calm
        · exact (halts_boundsPanic _ _ _ _).calm
    · exact (halts_boundsPanic _ _ _ _).calm
  unfold Instr.indexAt
  refine calm_bind (calm_asIntOf i) fun k => ?_
  refine calm_bind (calm_underlying t) fun d => ?_
  dsimp only
  split
  · refine calm_bind (calm_sureAddr _) fun a => calm_bind (calm_pure _) fun r => ?_
    refine calm_bind (calm_underlying t) fun d => ?_
    exact tail _ _ _ _ _ _
  · refine calm_bind (calm_pure _) fun r => calm_bind (calm_underlying t) fun d => ?_
    exact tail _ _ _ _ _ _
  · exact (Halts.left (halts_stuck _)).calm
theorem calm_intArith (op : BinOp) (k : IntKind) (x y : Int) : Calm P (Op.intArith op k x y) := by
  unfold Op.intArith
  split <;> first | exact calm_pure _ | exact (halts_stuck _).calm
theorem calm_intBits (op : BinOp) (k : IntKind) (x y : Int) : Calm P (Op.intBits op k x y) := by
  unfold Op.intBits
  split <;> first | exact calm_pure _ | exact (halts_stuck _).calm
theorem calm_intCmp (op : BinOp) (x y : Int) : Calm P (Op.intCmp op x y) := by
  unfold Op.intCmp
  split <;> first | exact calm_pure _ | exact (halts_stuck _).calm
theorem calm_intDiv (op : BinOp) (k : IntKind) (x y : Int) : Calm P (Op.intDiv op k x y) := by
  unfold Op.intDiv
  repeat' split
  all_goals first | exact calm_pure _ | exact (halts_stuck _).calm | exact (halts_runtimePanic _).calm
theorem calm_shift (op : BinOp) (k : IntKind) (x : Int) (j : IntKind) (y : Int) : Calm P (Op.shift op k x j y) := by
  unfold Op.shift
  dsimp only
  repeat' split
  all_goals first | exact calm_pure _ | exact (halts_stuck _).calm | exact (halts_runtimePanic _).calm
theorem calm_stringOp (op : BinOp) (x y : ByteArray) : Calm P (Op.stringOp op x y) := by
  unfold Op.stringOp
  dsimp only
  repeat' split
  all_goals first | exact calm_pure _ | exact (halts_stuck _).calm | exact (halts_unsupported _).calm
theorem calm_unary (op : UnOp) (x : Value) : Calm P (Op.unary op x) := by
  unfold Op.unary
  split <;> first | exact calm_pure _ | exact calm_intArith _ _ _ _ | exact calm_intBits _ _ _ _ | exact (halts_unsupported _).calm | exact (halts_stuck _).calm
end
end Go.Proofs.Ytgofogcfolhonaa
set_option linter.unusedVariables false
set_option linter.unusedSimpArgs false
namespace Go.Proofs.Ytgofogcfolhonaa
open Go

section
variable {P : Program}

/-- Operands that are compared or reckoned with without a look at memory. -/
def plainPair (op : BinOp) (a b : Value) : Bool :=
  match a, b with
  | .int .., .int .. => true
  | .string _, .string _ => true
  | .tuple _, _ => true
  | _, .tuple _ => true
  | .bool _, .bool _ | .pointer none, .pointer _ | .pointer _, .pointer none | .nilIface, .nilIface | .iface .., .nilIface | .nilIface, .iface .. | .slice none _ _, .slice .. | .slice .., .slice none _ _
  | .map none, .map _ | .map _, .map none | .nilFunc, .nilFunc | .nilFunc, .func .. | .func .., .nilFunc => (match op with | .eql | .neq => true | _ => false)
  | _, _ => false


theorem calm_eqPtr1 (d : Nat) (t : TypeId) (b : Option Addr) : Calm P (Op.equalIn d t (.pointer none) (.pointer b)) := by
  cases d with
  | zero => exact (halts_unsupported _).calm
  | succ d =>
    unfold Op.equalIn
    refine calm_bind (calm_underlying t) fun u => ?_
    split <;> simp_all only [Value.pointer.injEq, Value.slice.injEq, Value.map.injEq, Value.bool.injEq, Value.func.injEq, Value.iface.injEq, Value.tuple.injEq, reduceCtorEq, false_and, and_false, and_true, true_and]
    all_goals first | exact calm_pure _ | exact (halts_stuck _).calm | exact (halts_unsupported _).calm | skip
    all_goals first | (rename_i h1 h2; subst h1; subst h2; unfold samePointer; split <;> simp_all only [reduceCtorEq] <;> exact calm_pure _) | (rename_i h1 h2; subst h1; unfold samePointer; split <;> simp_all only [reduceCtorEq] <;> exact calm_pure _) | trace_state
theorem calm_eqPtr2 (d : Nat) (t : TypeId) (b : Option Addr) : Calm P (Op.equalIn d t (.pointer b) (.pointer none)) := by
  cases d with
  | zero => exact (halts_unsupported _).calm
  | succ d =>
    unfold Op.equalIn
    refine calm_bind (calm_underlying t) fun u => ?_
    split <;> simp_all only [Value.pointer.injEq, Value.slice.injEq, Value.map.injEq, Value.bool.injEq, Value.func.injEq, Value.iface.injEq, Value.tuple.injEq, reduceCtorEq, false_and, and_false, and_true, true_and]
    all_goals first | exact calm_pure _ | exact (halts_stuck _).calm | exact (halts_unsupported _).calm | skip
    all_goals first | (rename_i h1 h2; subst h1; subst h2; unfold samePointer; split <;> simp_all only [reduceCtorEq] <;> exact calm_pure _) | (rename_i h1 h2; subst h1; unfold samePointer; split <;> simp_all only [reduceCtorEq] <;> exact calm_pure _) | trace_state
theorem calm_eqIface0 (d : Nat) (t : TypeId)  : Calm P (Op.equalIn d t .nilIface .nilIface) := by
  cases d with
  | zero => exact (halts_unsupported _).calm
  | succ d =>
    unfold Op.equalIn
    refine calm_bind (calm_underlying t) fun u => ?_
    split <;> simp_all only [Value.pointer.injEq, Value.slice.injEq, Value.map.injEq, Value.bool.injEq, Value.func.injEq, Value.iface.injEq, Value.tuple.injEq, reduceCtorEq, false_and, and_false, and_true, true_and]
    all_goals first | exact calm_pure _ | exact (halts_stuck _).calm | exact (halts_unsupported _).calm | skip
    all_goals first | (rename_i h1 h2; subst h1; subst h2; unfold samePointer; split <;> simp_all only [reduceCtorEq] <;> exact calm_pure _) | (rename_i h1 h2; subst h1; unfold samePointer; split <;> simp_all only [reduceCtorEq] <;> exact calm_pure _) | trace_state
theorem calm_eqIface1 (d : Nat) (t : TypeId) (u : TypeId) (v : Value) : Calm P (Op.equalIn d t (.iface u v) .nilIface) := by
  cases d with
  | zero => exact (halts_unsupported _).calm
  | succ d =>
    unfold Op.equalIn
    refine calm_bind (calm_underlying t) fun u => ?_
    split <;> simp_all only [Value.pointer.injEq, Value.slice.injEq, Value.map.injEq, Value.bool.injEq, Value.func.injEq, Value.iface.injEq, Value.tuple.injEq, reduceCtorEq, false_and, and_false, and_true, true_and]
    all_goals first | exact calm_pure _ | exact (halts_stuck _).calm | exact (halts_unsupported _).calm | skip
    all_goals first | (rename_i h1 h2; subst h1; subst h2; unfold samePointer; split <;> simp_all only [reduceCtorEq] <;> exact calm_pure _) | (rename_i h1 h2; subst h1; unfold samePointer; split <;> simp_all only [reduceCtorEq] <;> exact calm_pure _) | trace_state
theorem calm_eqIface2 (d : Nat) (t : TypeId) (u : TypeId) (v : Value) : Calm P (Op.equalIn d t .nilIface (.iface u v)) := by
  cases d with
  | zero => exact (halts_unsupported _).calm
  | succ d =>
    unfold Op.equalIn
    refine calm_bind (calm_underlying t) fun u => ?_
    split <;> simp_all only [Value.pointer.injEq, Value.slice.injEq, Value.map.injEq, Value.bool.injEq, Value.func.injEq, Value.iface.injEq, Value.tuple.injEq, reduceCtorEq, false_and, and_false, and_true, true_and]
    all_goals first | exact calm_pure _ | exact (halts_stuck _).calm | exact (halts_unsupported _).calm | skip
    all_goals first | (rename_i h1 h2; subst h1; subst h2; unfold samePointer; split <;> simp_all only [reduceCtorEq] <;> exact calm_pure _) | (rename_i h1 h2; subst h1; unfold samePointer; split <;> simp_all only [reduceCtorEq] <;> exact calm_pure _) | trace_state
theorem calm_eqSl1 (d : Nat) (t : TypeId) (n c : Nat) (b : Option Addr) (m k : Nat) : Calm P (Op.equalIn d t (.slice none n c) (.slice b m k)) := by
  cases d with
  | zero => exact (halts_unsupported _).calm
  | succ d =>
    unfold Op.equalIn
    refine calm_bind (calm_underlying t) fun u => ?_
    split <;> simp_all only [Value.pointer.injEq, Value.slice.injEq, Value.map.injEq, Value.bool.injEq, Value.func.injEq, Value.iface.injEq, Value.tuple.injEq, reduceCtorEq, false_and, and_false, and_true, true_and]
    all_goals first | exact calm_pure _ | exact (halts_stuck _).calm | exact (halts_unsupported _).calm | skip
    all_goals first | (rename_i h1 h2; subst h1; subst h2; unfold samePointer; split <;> simp_all only [reduceCtorEq] <;> exact calm_pure _) | (rename_i h1 h2; subst h1; unfold samePointer; split <;> simp_all only [reduceCtorEq] <;> exact calm_pure _) | trace_state
theorem calm_eqSl2 (d : Nat) (t : TypeId) (n c : Nat) (b : Option Addr) (m k : Nat) : Calm P (Op.equalIn d t (.slice b m k) (.slice none n c)) := by
  cases d with
  | zero => exact (halts_unsupported _).calm
  | succ d =>
    unfold Op.equalIn
    refine calm_bind (calm_underlying t) fun u => ?_
    split <;> simp_all only [Value.pointer.injEq, Value.slice.injEq, Value.map.injEq, Value.bool.injEq, Value.func.injEq, Value.iface.injEq, Value.tuple.injEq, reduceCtorEq, false_and, and_false, and_true, true_and]
    all_goals first | exact calm_pure _ | exact (halts_stuck _).calm | exact (halts_unsupported _).calm | skip
    all_goals first | (rename_i h1 h2; subst h1; subst h2; unfold samePointer; split <;> simp_all only [reduceCtorEq] <;> exact calm_pure _) | (rename_i h1 h2; subst h1; unfold samePointer; split <;> simp_all only [reduceCtorEq] <;> exact calm_pure _) | trace_state
theorem calm_eqMap1 (d : Nat) (t : TypeId) (b : Option Nat) : Calm P (Op.equalIn d t (.map none) (.map b)) := by
  cases d with
  | zero => exact (halts_unsupported _).calm
  | succ d =>
    unfold Op.equalIn
    refine calm_bind (calm_underlying t) fun u => ?_
    split <;> simp_all only [Value.pointer.injEq, Value.slice.injEq, Value.map.injEq, Value.bool.injEq, Value.func.injEq, Value.iface.injEq, Value.tuple.injEq, reduceCtorEq, false_and, and_false, and_true, true_and]
    all_goals first | exact calm_pure _ | exact (halts_stuck _).calm | exact (halts_unsupported _).calm | skip
    all_goals first | (rename_i h1 h2; subst h1; subst h2; unfold samePointer; split <;> simp_all only [reduceCtorEq] <;> exact calm_pure _) | (rename_i h1 h2; subst h1; unfold samePointer; split <;> simp_all only [reduceCtorEq] <;> exact calm_pure _) | trace_state
theorem calm_eqMap2 (d : Nat) (t : TypeId) (b : Option Nat) : Calm P (Op.equalIn d t (.map b) (.map none)) := by
  cases d with
  | zero => exact (halts_unsupported _).calm
  | succ d =>
    unfold Op.equalIn
    refine calm_bind (calm_underlying t) fun u => ?_
    split <;> simp_all only [Value.pointer.injEq, Value.slice.injEq, Value.map.injEq, Value.bool.injEq, Value.func.injEq, Value.iface.injEq, Value.tuple.injEq, reduceCtorEq, false_and, and_false, and_true, true_and]
    all_goals first | exact calm_pure _ | exact (halts_stuck _).calm | exact (halts_unsupported _).calm | skip
    all_goals first | (rename_i h1 h2; subst h1; subst h2; unfold samePointer; split <;> simp_all only [reduceCtorEq] <;> exact calm_pure _) | (rename_i h1 h2; subst h1; unfold samePointer; split <;> simp_all only [reduceCtorEq] <;> exact calm_pure _) | trace_state
theorem calm_eqFunc0 (d : Nat) (t : TypeId)  : Calm P (Op.equalIn d t .nilFunc .nilFunc) := by
  cases d with
  | zero => exact (halts_unsupported _).calm
  | succ d =>
    unfold Op.equalIn
    refine calm_bind (calm_underlying t) fun u => ?_
    split <;> simp_all only [Value.pointer.injEq, Value.slice.injEq, Value.map.injEq, Value.bool.injEq, Value.func.injEq, Value.iface.injEq, Value.tuple.injEq, reduceCtorEq, false_and, and_false, and_true, true_and]
    all_goals first | exact calm_pure _ | exact (halts_stuck _).calm | exact (halts_unsupported _).calm | skip
    all_goals first | (rename_i h1 h2; subst h1; subst h2; unfold samePointer; split <;> simp_all only [reduceCtorEq] <;> exact calm_pure _) | (rename_i h1 h2; subst h1; unfold samePointer; split <;> simp_all only [reduceCtorEq] <;> exact calm_pure _) | trace_state
theorem calm_eqFunc1 (d : Nat) (t : TypeId) (f : Fn) (x y : Array Value) : Calm P (Op.equalIn d t .nilFunc (.func f x y)) := by
  cases d with
  | zero => exact (halts_unsupported _).calm
  | succ d =>
    unfold Op.equalIn
    refine calm_bind (calm_underlying t) fun u => ?_
    split <;> simp_all only [Value.pointer.injEq, Value.slice.injEq, Value.map.injEq, Value.bool.injEq, Value.func.injEq, Value.iface.injEq, Value.tuple.injEq, reduceCtorEq, false_and, and_false, and_true, true_and]
    all_goals first | exact calm_pure _ | exact (halts_stuck _).calm | exact (halts_unsupported _).calm | skip
    all_goals first | (rename_i h1 h2; subst h1; subst h2; unfold samePointer; split <;> simp_all only [reduceCtorEq] <;> exact calm_pure _) | (rename_i h1 h2; subst h1; unfold samePointer; split <;> simp_all only [reduceCtorEq] <;> exact calm_pure _) | trace_state
theorem calm_eqFunc2 (d : Nat) (t : TypeId) (f : Fn) (x y : Array Value) : Calm P (Op.equalIn d t (.func f x y) .nilFunc) := by
  cases d with
  | zero => exact (halts_unsupported _).calm
  | succ d =>
    unfold Op.equalIn
    refine calm_bind (calm_underlying t) fun u => ?_
    split <;> simp_all only [Value.pointer.injEq, Value.slice.injEq, Value.map.injEq, Value.bool.injEq, Value.func.injEq, Value.iface.injEq, Value.tuple.injEq, reduceCtorEq, false_and, and_false, and_true, true_and]
    all_goals first | exact calm_pure _ | exact (halts_stuck _).calm | exact (halts_unsupported _).calm | skip
    all_goals first | (rename_i h1 h2; subst h1; subst h2; unfold samePointer; split <;> simp_all only [reduceCtorEq] <;> exact calm_pure _) | (rename_i h1 h2; subst h1; unfold samePointer; split <;> simp_all only [reduceCtorEq] <;> exact calm_pure _) | trace_state
theorem calm_eqBool (d : Nat) (t : TypeId) (x y : Bool) : Calm P (Op.equalIn d t (.bool x) (.bool y)) := by
  cases d with
  | zero => exact (halts_unsupported _).calm
  | succ d =>
    unfold Op.equalIn
    refine calm_bind (calm_underlying t) fun u => ?_
    split <;> simp_all only [Value.pointer.injEq, Value.slice.injEq, Value.map.injEq, Value.bool.injEq, Value.func.injEq, Value.iface.injEq, Value.tuple.injEq, reduceCtorEq, false_and, and_false, and_true, true_and]
    all_goals first | exact calm_pure _ | exact (halts_stuck _).calm | exact (halts_unsupported _).calm | skip
    all_goals first | (rename_i h1 h2; subst h1; subst h2; unfold samePointer; split <;> simp_all only [reduceCtorEq] <;> exact calm_pure _) | (rename_i h1 h2; subst h1; unfold samePointer; split <;> simp_all only [reduceCtorEq] <;> exact calm_pure _) | trace_state
theorem calm_eqTup1 (d : Nat) (t : TypeId) (x : Array Value) (y : Value) : Calm P (Op.equalIn d t (.tuple x) y) := by
  cases d with
  | zero => exact (halts_unsupported _).calm
  | succ d =>
    unfold Op.equalIn
    refine calm_bind (calm_underlying t) fun u => ?_
    split <;> simp_all only [Value.pointer.injEq, Value.slice.injEq, Value.map.injEq, Value.bool.injEq, Value.func.injEq, Value.iface.injEq, Value.tuple.injEq, reduceCtorEq, false_and, and_false, and_true, true_and]
    all_goals first | exact calm_pure _ | exact (halts_stuck _).calm | exact (halts_unsupported _).calm | skip
    all_goals first | (rename_i h1 h2; subst h1; subst h2; unfold samePointer; split <;> simp_all only [reduceCtorEq] <;> exact calm_pure _) | (rename_i h1 h2; subst h1; unfold samePointer; split <;> simp_all only [reduceCtorEq] <;> exact calm_pure _) | trace_state
theorem calm_eqTup2 (d : Nat) (t : TypeId) (x : Array Value) (y : Value) : Calm P (Op.equalIn d t y (.tuple x)) := by
  cases d with
  | zero => exact (halts_unsupported _).calm
  | succ d =>
    unfold Op.equalIn
    refine calm_bind (calm_underlying t) fun u => ?_
    split <;> simp_all only [Value.pointer.injEq, Value.slice.injEq, Value.map.injEq, Value.bool.injEq, Value.func.injEq, Value.iface.injEq, Value.tuple.injEq, reduceCtorEq, false_and, and_false, and_true, true_and]
    all_goals first | exact calm_pure _ | exact (halts_stuck _).calm | exact (halts_unsupported _).calm | skip
    all_goals first | (rename_i h1 h2; subst h1; subst h2; unfold samePointer; split <;> simp_all only [reduceCtorEq] <;> exact calm_pure _) | (rename_i h1 h2; subst h1; unfold samePointer; split <;> simp_all only [reduceCtorEq] <;> exact calm_pure _) | trace_state
end
end Go.Proofs.Ytgofogcfolhonaa
set_option linter.unusedVariables false
set_option linter.unusedSimpArgs false
namespace Go.Proofs.Ytgofogcfolhonaa
open Go

section
variable {P : Program}

theorem calm_eqGuardIn_nil (d : Nat) (t : TypeId) : Calm P (Op.eqGuardIn d t .nilIface .nilIface) := by
  cases d with
  | zero => exact (halts_unsupported _).calm
  | succ d =>
    unfold Op.eqGuardIn
    refine calm_bind (calm_underlying t) fun u => ?_
    split <;> simp_all only [reduceCtorEq]
    all_goals exact calm_pure _

theorem calm_eqGuard (op : BinOp) (t : TypeId) (x y : Operand) (a b : Value) (h : ∀ xs ys, a = .agg xs → b = .agg ys → False) : Calm P (eqGuard op t x y a b) := by
  have core : Calm P (match a, b with
    | .nilIface, .nilIface =>
      if (x matches .const _) || (y matches .const _) then (pure () : Sem Unit) else do
      if ← Op.eqGuardIn Op.maxDepth t a b then unsupported (.noEntry "binop/eql: two nil values of an interface type with methods, neither of them the literal nil")
    | .agg _, .agg _ => do
      if !(← program).eqGuardType (← program).depth t then return
      if ← Op.eqGuardIn Op.maxDepth t a b then unsupported (.noEntry "binop/eql: two nil values of an interface type with methods, in a part of a struct or an array")
    | _, _ => pure ()) := by
    split
    · have k : ∀ c : Bool, Calm P (if c = true then (pure () : Sem Unit) else do
          if ← Op.eqGuardIn Op.maxDepth t .nilIface .nilIface then unsupported (.noEntry "binop/eql: two nil values of an interface type with methods, neither of them the literal nil")) := fun c => by
        split
        · exact calm_pure _
        · refine calm_bind (calm_eqGuardIn_nil _ _) fun r => ?_
          split
          · exact (halts_unsupported _).calm
          · exact calm_pure _
      exact k _
    · exact (h _ _ rfl rfl).elim
    · exact calm_pure _
  cases op <;> first | exact core | exact calm_pure _
theorem calm_eqlB {t : TypeId} {a b : Value} (h : Calm P (Op.equal t a b)) : Calm P (do pure (.bool (← Op.equal t a b)) : Sem Value) := calm_bind h fun _ => calm_pure _
theorem calm_neqB {t : TypeId} {a b : Value} (h : Calm P (Op.equal t a b)) : Calm P (do pure (.bool (!(← Op.equal t a b))) : Sem Value) := calm_bind h fun _ => calm_pure _

theorem calm_binInt (op : BinOp) (t : TypeId) (k : IntKind) (x : Int) (j : IntKind) (y : Int) : Calm P (binOp op t (.int k x) (.int j y)) := by
  cases op <;> simp only [binOp] <;> first
    | exact calm_shift _ _ _ _ _
    | (split <;> first | exact (halts_stuck _).calm | exact calm_intArith _ _ _ _ | exact calm_intDiv _ _ _ _ | exact calm_intBits _ _ _ _ | exact calm_intCmp _ _ _)
theorem calm_binStr (op : BinOp) (t : TypeId) (x y : ByteArray) : Calm P (binOp op t (.string x) (.string y)) := by
  cases op <;> simp only [binOp] <;> exact calm_stringOp _ _ _
theorem calm_binTup1 (op : BinOp) (t : TypeId) (x : Array Value) (y : Value) : Calm P (binOp op t (.tuple x) y) := by
  cases op <;> cases y <;> simp only [binOp] <;> first
    | exact (halts_stuck _).calm
    | exact (halts_unsupported _).calm
    | exact calm_eqlB (calm_eqTup1 _ _ _ _)
    | exact calm_neqB (calm_eqTup1 _ _ _ _)
theorem calm_binTup2 (op : BinOp) (t : TypeId) (x : Array Value) (y : Value) : Calm P (binOp op t y (.tuple x)) := by
  cases op <;> cases y <;> simp only [binOp] <;> first
    | exact (halts_stuck _).calm
    | exact (halts_unsupported _).calm
    | exact calm_eqlB (calm_eqTup2 _ _ _ _)
    | exact calm_neqB (calm_eqTup2 _ _ _ _)
    | (rename_i z; cases z <;> simp only [] <;> first | exact (halts_stuck _).calm | exact (halts_unsupported _).calm)

theorem calm_binOp (op : BinOp) (t : TypeId) (a b : Value) (h : plainPair op a b = true) : Calm P (binOp op t a b) := by
  unfold plainPair at h
  split at h
  · exact calm_binInt _ _ _ _ _ _
  · exact calm_binStr _ _ _ _
  · exact calm_binTup1 _ _ _ _
  · exact calm_binTup2 _ _ _ _
  · cases op <;> simp only [Bool.false_eq_true] at h <;> simp only [binOp] <;> first | exact calm_eqlB (calm_eqBool _ _ _ _) | exact calm_neqB (calm_eqBool _ _ _ _)
  · cases op <;> simp only [Bool.false_eq_true] at h <;> simp only [binOp] <;> first | exact calm_eqlB (calm_eqPtr1 _ _ _) | exact calm_neqB (calm_eqPtr1 _ _ _)
  · cases op <;> simp only [Bool.false_eq_true] at h <;> simp only [binOp] <;> first | exact calm_eqlB (calm_eqPtr2 _ _ _) | exact calm_neqB (calm_eqPtr2 _ _ _)
  · cases op <;> simp only [Bool.false_eq_true] at h <;> simp only [binOp] <;> first | exact calm_eqlB (calm_eqIface0 _ _) | exact calm_neqB (calm_eqIface0 _ _)
  · cases op <;> simp only [Bool.false_eq_true] at h <;> simp only [binOp] <;> first | exact calm_eqlB (calm_eqIface1 _ _ _ _) | exact calm_neqB (calm_eqIface1 _ _ _ _)
  · cases op <;> simp only [Bool.false_eq_true] at h <;> simp only [binOp] <;> first | exact calm_eqlB (calm_eqIface2 _ _ _ _) | exact calm_neqB (calm_eqIface2 _ _ _ _)
  · cases op <;> simp only [Bool.false_eq_true] at h <;> simp only [binOp] <;> first | exact calm_eqlB (calm_eqSl1 _ _ _ _ _ _ _) | exact calm_neqB (calm_eqSl1 _ _ _ _ _ _ _)
  · cases op <;> simp only [Bool.false_eq_true] at h <;> simp only [binOp] <;> first | exact calm_eqlB (calm_eqSl2 _ _ _ _ _ _ _) | exact calm_neqB (calm_eqSl2 _ _ _ _ _ _ _)
  · cases op <;> simp only [Bool.false_eq_true] at h <;> simp only [binOp] <;> first | exact calm_eqlB (calm_eqMap1 _ _ _) | exact calm_neqB (calm_eqMap1 _ _ _)
  · cases op <;> simp only [Bool.false_eq_true] at h <;> simp only [binOp] <;> first | exact calm_eqlB (calm_eqMap2 _ _ _) | exact calm_neqB (calm_eqMap2 _ _ _)
  · cases op <;> simp only [Bool.false_eq_true] at h <;> simp only [binOp] <;> first | exact calm_eqlB (calm_eqFunc0 _ _) | exact calm_neqB (calm_eqFunc0 _ _)
  · cases op <;> simp only [Bool.false_eq_true] at h <;> simp only [binOp] <;> first | exact calm_eqlB (calm_eqFunc1 _ _ _ _ _) | exact calm_neqB (calm_eqFunc1 _ _ _ _ _)
  · cases op <;> simp only [Bool.false_eq_true] at h <;> simp only [binOp] <;> first | exact calm_eqlB (calm_eqFunc2 _ _ _ _ _) | exact calm_neqB (calm_eqFunc2 _ _ _ _ _)
  · cases h

theorem plain_noAgg {op : BinOp} {a b : Value} (h : plainPair op a b = true) : ∀ xs ys, a = .agg xs → b = .agg ys → False := by
  rintro xs ys rfl rfl
  simp [plainPair] at h

def lenB (v : Value) : Bool := match v with
  | .slice .. | .string _ | .tuple _ => true
  | _ => false
theorem calm_len (ts : Array TypeId) (t : TypeId) (args : Array Value) (h : (args[0]?).all lenB = true) : Calm P (Builtin.len_ ts t args) := by
  unfold Builtin.len_
  split
  · rename_i pr tt xx heq
    have hx : lenB xx = true := by
      have e : args[0]? = some xx := (Prod.mk.inj heq).2
      simpa [e] using h
    refine calm_bind (calm_underlying _) fun d => ?_
    split <;> first
      | exact calm_pure _
      | exact (halts_stuck _).calm
      | (refine calm_bind (calm_underlying _) fun d => ?_; split <;> first | exact calm_pure _ | exact (halts_stuck _).calm)
      | (exfalso; simp [lenB] at hx)
  · exact (halts_stuck _).calm
theorem calm_cap (ts : Array TypeId) (t : TypeId) (args : Array Value) (h : (args[0]?).all lenB = true) : Calm P (Builtin.cap_ ts t args) := by
  unfold Builtin.cap_
  split
  · rename_i pr tt xx heq
    have hx : lenB xx = true := by
      have e : args[0]? = some xx := (Prod.mk.inj heq).2
      simpa [e] using h
    refine calm_bind (calm_underlying _) fun d => ?_
    split <;> first
      | exact calm_pure _
      | exact (halts_stuck _).calm
      | (refine calm_bind (calm_underlying _) fun d => ?_; split <;> first | exact calm_pure _ | exact (halts_stuck _).calm)
      | (exfalso; simp [lenB] at hx)
  · exact (halts_stuck _).calm
def intB (v : Value) : Bool := match v with
  | .int .. | .tuple _ => true
  | _ => false
theorem calm_foldM (f : Value → Value → Sem Value) (hf : ∀ x y, intB x = true → intB y = true → Calm P (f x y) ∧ ∀ v w w', (f x y).run P w = .ok v w' → intB v = true) : ∀ (l : List Value) (x : Value), intB x = true → l.all intB = true → Calm P (l.foldlM f x)
  | [], x, _, _ => calm_pure _
  | y :: l, x, hx, hl => by
    rw [List.foldlM_cons]
    simp only [List.all_cons, Bool.and_eq_true] at hl
    obtain ⟨h1, h2⟩ := hf x y hx hl.1
    rcases h1 with ⟨v, hv⟩ | hh
    · rcases calm_foldM f hf l v (h2 v default default (hv default)) hl.2 with ⟨u, hu⟩ | h3
      · exact .inl ⟨u, fun w => by rw [Sem.run_bind, hv w]; exact hu w⟩
      · exact .inr fun w => by rw [Sem.run_bind, hv w]; exact h3 w
    · exact .inr (Halts.left hh)
theorem calm_min (ts : Array TypeId) (t : TypeId) (args : Array Value) (h : args.toList.all intB = true) : Calm P (Builtin.min_ ts t args) := by
  unfold Builtin.min_
  split
  · exact (halts_stuck _).calm
  · rename_i x rest heq
    rw [heq] at h
    simp only [List.all_cons, Bool.and_eq_true] at h
    refine calm_foldM _ (fun x y hx hy => ?_) rest x h.1 h.2
    cases x <;> simp [intB] at hx <;> cases y <;> simp [intB] at hy
    · exact ⟨calm_pure _, fun v w w' hr => by
        have : _ = v := (by simpa [Builtin.min2] using hr : _ ∧ _).1
        rw [← this]; rfl⟩
    · exact ⟨(halts_stuck _).calm, fun v w w' hr => by cases hr⟩
    · exact ⟨(halts_stuck _).calm, fun v w w' hr => by cases hr⟩
    · exact ⟨(halts_stuck _).calm, fun v w w' hr => by cases hr⟩
theorem calm_max (ts : Array TypeId) (t : TypeId) (args : Array Value) (h : args.toList.all intB = true) : Calm P (Builtin.max_ ts t args) := by
  unfold Builtin.max_
  split
  · exact (halts_stuck _).calm
  · rename_i x rest heq
    rw [heq] at h
    simp only [List.all_cons, Bool.and_eq_true] at h
    refine calm_foldM _ (fun x y hx hy => ?_) rest x h.1 h.2
    cases x <;> simp [intB] at hx <;> cases y <;> simp [intB] at hy
    · exact ⟨calm_pure _, fun v w w' hr => by
        have : _ = v := (by simpa [Builtin.max2] using hr : _ ∧ _).1
        rw [← this]; rfl⟩
    · exact ⟨(halts_stuck _).calm, fun v w w' hr => by cases hr⟩
    · exact ⟨(halts_stuck _).calm, fun v w w' hr => by cases hr⟩
    · exact ⟨(halts_stuck _).calm, fun v w w' hr => by cases hr⟩
end
end Go.Proofs.Ytgofogcfolhonaa
set_option linter.unusedVariables false
set_option linter.unusedSimpArgs false
namespace Go.Proofs.Ytgofogcfolhonaa
open Go

section
variable {P : Program}

/-- Always calm. -/
def kA (P : Program) (o : Oper) : Bool := match o.op with
  | .move _ | .assign _ | .pick .. | .unOp .. | .field .. | .indexAddr .. | .index .. | .slice .. | .extract .. => true
  | .fieldAddr s _ f => fieldB P s f
  | _ => false
/-- Calm, if its operands are plain. -/
def kD (P : Program) (o : Oper) : Bool := match o.op with
  | .binOp .. | .nilCheck _ => true
  | .convert s d _ => (match P.underlying s, P.underlying d with | some (.int _), some (.int _) => true | _, _ => false)
  | .call { callee := .builtin .len, .. } | .call { callee := .builtin .cap, .. } | .call { callee := .builtin .min, .. } | .call { callee := .builtin .max, .. } => true
  | _ => false
def kL (o : Oper) : Bool := match o.op with | .load .. => true | _ => false
def kM (o : Oper) : Bool := match o.op with | .alloc _ | .box .. | .buildSlice .. => true | _ => false
/-- .. that they are plain. -/
def condB (o : Oper) (ρ : Operand → Value) : Bool := match o.op with
  | .binOp op _ x y _ => plainPair op (ρ x) (ρ y)
  | .nilCheck x => (match ρ x with | .func (.method _) _ _ => false | _ => true)
  | .convert _ _ x => intB (ρ x)
  | .call { callee := .builtin .len, args, .. } | .call { callee := .builtin .cap, args, .. } => ((args.map ρ)[0]?).all lenB
  | .call { callee := .builtin .min, args, .. } | .call { callee := .builtin .max, args, .. } => (args.map ρ).toList.all intB
  | _ => true

theorem kA_calm {o : Oper} (h : kA P o = true) (ρ : Operand → Value) : CalmV P (execOp ρ o) := by
  unfold kA at h
  unfold execOp
  split at h <;> simp_all only [Bool.false_eq_true]
  · exact .inl ⟨_, fun _ => rfl⟩
  · exact .inl ⟨_, fun _ => rfl⟩
  · rename_i c a b _
    rcases calm_asBool (P := P) (ρ c) with ⟨v, hv⟩ | hh
    · exact .inl ⟨_, fun w => by rw [Sem.run_bind, hv w]; rfl⟩
    · exact .inr (Halts.left hh)
  · exact calmV (calm_unary _ _)
  · exact calmV (calm_field _ _ _)
  · exact calmV (calm_indexAt _ _ _)
  · exact calmV (calm_index _ _ _)
  · exact calmV (calm_sliceAt _ _ _ _ _)
  · exact calmV (calm_extract _ _)
  · exact calmV (calm_fieldAt _ _ _ h)

theorem calm_convert {s d : TypeId} {x : Value} (hx : intB x = true) (hs : ∃ k, P.underlying s = some (.int k)) (hd : ∃ k, P.underlying d = some (.int k)) : Calm P (convert s d x) := by
  obtain ⟨k, hs⟩ := hs
  obtain ⟨j, hd⟩ := hd
  cases x <;> simp [intB] at hx
  · rename_i q n
    exact .inl ⟨.int j (j.wrap n), fun w => by simp [convert, run_underlying' hs, run_underlying' hd, Sem.run_bind, Conv.intToInt]⟩
  · exact .inr fun w => ⟨.unsupported (.noEntry "convert/other"), w, by simp [convert, run_underlying' hs, run_underlying' hd, Sem.run_bind]⟩

theorem kD_calm {o : Oper} (h : kD P o = true) (ρ : Operand → Value) (hc : condB o ρ = true) : CalmV P (execOp ρ o) := by
  unfold kD at h
  unfold condB at hc
  unfold execOp
  split at h <;> simp_all only [Bool.false_eq_true]
  · exact calmV (calm_bind (calm_eqGuard _ _ _ _ _ _ (plain_noAgg hc)) fun _ => calm_binOp _ _ _ _ hc)
  · rename_i z x heq
    generalize ρ x = v at *
    cases v with
    | pointer a =>
      cases a
      · exact .inr (halts_runtimePanic _)
      · exact .inl ⟨_, fun _ => rfl⟩
    | func f a b =>
      cases f <;> simp only [Bool.false_eq_true] at hc <;> exact .inl ⟨_, fun _ => rfl⟩
    | nilIface => exact .inr (halts_runtimePanic _)
    | nilFunc => exact .inr (halts_runtimePanic _)
    | _ => exact .inl ⟨_, fun _ => rfl⟩
  · rename_i z s d x heq
    split at h
    · rename_i k j hs hd
      exact calmV (calm_convert hc ⟨_, hs⟩ ⟨_, hd⟩)
    · cases h
  · rename_i z az ts heq
    have e := calmV (calm_len (P := P) ts o.type _ hc)
    simpa [resolve, invoke, builtin] using e
  · rename_i z az ts heq
    have e := calmV (calm_cap (P := P) ts o.type _ hc)
    simpa [resolve, invoke, builtin] using e
  · rename_i z az ts heq
    have e := calmV (calm_min (P := P) ts o.type _ hc)
    simpa [resolve, invoke, builtin] using e
  · rename_i z az ts heq
    have e := calmV (calm_max (P := P) ts o.type _ hc)
    simpa [resolve, invoke, builtin] using e

/-! Loads. -/
theorem run_load_eq (a : Addr) (w : World) : (load a).run P w = match w.cell? a with
    | some v => .ok v w
    | none => match w.farLoad P a (Mode.plain == Mode.atomic) with
      | .ok r => .ok r.1 w
      | .error h => .halt h w := by
  unfold load
  simp only [Sem.run]
  cases w.cell? a with
  | some v => rfl
  | none => cases w.farLoad P a (Mode.plain == Mode.atomic) <;> rfl
theorem load_world (a : Addr) (w : World) : (∃ v, (load a).run P w = .ok v w) ∨ (∃ h w', (load a).run P w = .halt h w') := by
  rw [run_load_eq]
  cases w.cell? a with
  | some v => exact .inl ⟨v, rfl⟩
  | none =>
    cases hf : w.farLoad P a (Mode.plain == Mode.atomic) with
    | ok r => exact .inl ⟨r.1, by simp only [hf]⟩
    | error h => exact .inr ⟨h, w, by simp only [hf]⟩
theorem loadCellsFrom_world (a : Addr) : ∀ (n i : Nat) (acc : Array Value) (w : World), (∃ v, (loadCellsFrom a i n acc).run P w = .ok v w) ∨ (∃ h w', (loadCellsFrom a i n acc).run P w = .halt h w')
  | 0, i, acc, w => .inl ⟨acc, rfl⟩
  | n + 1, i, acc, w => by
    simp only [loadCellsFrom, Sem.run_bind]
    rcases load_world (P := P) (a.add i) w with ⟨v, hv⟩ | ⟨h, w', hh⟩
    · rw [hv]; exact loadCellsFrom_world a n (i + 1) _ w
    · rw [hh]; exact .inr ⟨h, w', rfl⟩

/-- Two worlds in which a load gives the same: whatever a single load gives in the first, it gives in the second. -/
def Like (P : Program) (a : Addr) (w w' : World) : Prop := ∀ i v, (load (a.add i)).run P w = .ok v w → (load (a.add i)).run P w' = .ok v w'

theorem loadCellsFrom_like {a : Addr} {w w' : World} (hl : Like P a w w') : ∀ (n i : Nat) (acc r : Array Value), (loadCellsFrom a i n acc).run P w = .ok r w → (loadCellsFrom a i n acc).run P w' = .ok r w'
  | 0, i, acc, r, h => by
    have : acc = r := by simpa [loadCellsFrom] using h
    subst this; rfl
  | n + 1, i, acc, r, h => by
    simp only [loadCellsFrom, Sem.run_bind] at h ⊢
    rcases load_world (P := P) (a.add i) w with ⟨v, hv⟩ | ⟨x, w1, hh⟩
    · rw [hv] at h
      rw [hl i v hv]
      exact loadCellsFrom_like hl n (i + 1) _ r h
    · rw [hh] at h; cases h

theorem loadVar_world (t : TypeId) (a : Addr) (w : World) : (∃ v, (loadVar t a).run P w = .ok v w) ∨ (∃ h w', (loadVar t a).run P w = .halt h w') := by
  unfold loadVar
  rw [Sem.run_bind]
  rcases calm_isAgg (P := P) t with ⟨b, hb⟩ | hh
  · rw [hb w]
    simp only [Result.andThen_ok]
    cases b
    · exact load_world a w
    · simp only [if_true, Sem.run_bind]
      rcases calm_sizeOf (P := P) t with ⟨n, hn⟩ | hh
      · rw [hn w]
        simp only [Result.andThen_ok, Sem.run_bind, loadCells]
        rcases loadCellsFrom_world (P := P) a n 0 #[] w with ⟨v, hv⟩ | ⟨h, w', hh⟩
        · rw [hv]; exact .inl ⟨_, rfl⟩
        · rw [hh]; exact .inr ⟨h, w', rfl⟩
      · obtain ⟨y, w', e⟩ := hh w
        rw [e]; exact .inr ⟨y, w', rfl⟩
  · obtain ⟨y, w', e⟩ := hh w
    rw [e]; exact .inr ⟨y, w', rfl⟩
theorem Addr.add_zero (a : Addr) : a.add 0 = a := by simp [Addr.add]
theorem loadVar_like {t : TypeId} {a : Addr} {w w' : World} (hl : Like P a w w') {v : Value} (h : (loadVar t a).run P w = .ok v w) : (loadVar t a).run P w' = .ok v w' := by
  unfold loadVar at h ⊢
  rw [Sem.run_bind] at h ⊢
  rcases calm_isAgg (P := P) t with ⟨b, hb⟩ | hh
  · rw [hb w] at h
    rw [hb w']
    simp only [Result.andThen_ok] at h ⊢
    cases b
    · have := hl 0 v
      rw [Addr.add_zero] at this
      exact this h
    · simp only [if_true, Sem.run_bind] at h ⊢
      rcases calm_sizeOf (P := P) t with ⟨n, hn⟩ | hh
      · rw [hn w] at h
        rw [hn w']
        simp only [Result.andThen_ok, Sem.run_bind, loadCells] at h ⊢
        rcases loadCellsFrom_world (P := P) a n 0 #[] w with ⟨r, hr⟩ | ⟨x, w1, hh⟩
        · rw [hr] at h
          rw [loadCellsFrom_like hl n 0 _ r hr]
          have : Value.agg r = v := by simpa using h
          subst this
          rfl
        · rw [hh] at h; cases h
      · obtain ⟨y, w1, e⟩ := hh w
        rw [e] at h; cases h
  · obtain ⟨y, w1, e⟩ := hh w
    rw [e] at h; cases h

theorem exec_load {o : Oper} {t : TypeId} {x : Operand} (ho : o.op = .load t x) (ρ : Operand → Value) (w : World) :
    (execOp ρ o).run P w = ((Instr.loadAt t (ρ x)).run P w).andThen fun v w' => .ok (.value v) w' := by
  unfold execOp
  simp only [ho, Sem.run_bind]
  rfl
theorem kL_spec {o : Oper} (h : kL o = true) : ∃ t x, o.op = .load t x := by
  unfold kL at h
  split at h
  · exact ⟨_, _, ‹_›⟩
  · cases h
theorem kL_reads {o : Oper} (h : kL o = true) (ρ : Operand → Value) : Reads P (execOp ρ o) := by
  obtain ⟨t, x, ho⟩ := kL_spec h
  intro w
  rw [exec_load ho]
  have key : (∃ v, (Instr.loadAt t (ρ x)).run P w = .ok v w) ∨ (∃ h w', (Instr.loadAt t (ρ x)).run P w = .halt h w') := by
    unfold Instr.loadAt
    rw [Sem.run_bind]
    rcases calm_sureAddr (P := P) (ρ x) with ⟨a, ha⟩ | hh
    · rw [ha w]; exact loadVar_world t a w
    · obtain ⟨y, w', e⟩ := hh w
      rw [e]; exact .inr ⟨y, w', rfl⟩
  rcases key with ⟨v, hv⟩ | ⟨h, w', hh⟩
  · rw [hv]; exact .inl ⟨v, rfl⟩
  · rw [hh]; exact .inr ⟨h, w', rfl⟩
theorem kL_like {o : Oper} {t : TypeId} {x : Operand} (ho : o.op = .load t x) {ρ : Operand → Value} {w w' : World} (hl : ∀ a, ρ x = .pointer (some a) → Like P a w w') {v : Value} (h : (execOp ρ o).run P w = .ok (.value v) w) : (execOp ρ o).run P w' = .ok (.value v) w' := by
  rw [exec_load ho] at h ⊢
  unfold Instr.loadAt at h ⊢
  rw [Sem.run_bind] at h ⊢
  cases hx : ρ x with
  | pointer a =>
    cases a with
    | none => rw [hx] at h; cases h
    | some a =>
      rw [hx] at h
      have hs : ∀ w : World, (Instr.sureAddr (.pointer (some a))).run P w = .ok a w := fun _ => rfl
      rw [hs w] at h
      rw [hs w']
      simp only [Result.andThen_ok] at h ⊢
      rcases loadVar_world (P := P) t a w with ⟨u, hu⟩ | ⟨y, w1, hh⟩
      · rw [hu] at h
        have : u = v := by simpa using h
        subst this
        rw [loadVar_like (hl a hx) hu]
        rfl
      · rw [hh] at h; cases h
  | _ => rw [hx] at h; cases h

/-- A load of a row of cells looks at that row alone. -/
theorem like_of_row {a : Addr} {w w' : World} {c : Array Value} {t : TypeId} {f : Nat × Nat} (h : w.heap[a.block]? = some (.cells c t f)) (h' : w'.heap[a.block]? = some (.cells c t f)) : Like P a w w' := by
  intro i v hv
  have hb : (a.add i).block = a.block := by unfold Addr.add; split <;> rfl
  have hc : w'.cell? (a.add i) = w.cell? (a.add i) := World.cell?_of_block (by rw [hb, h, h'])
  rw [run_load_eq] at hv ⊢
  rw [hc]
  cases hw : w.cell? (a.add i) with
  | some u =>
    rw [hw] at hv
    have : u = v := by simpa using hv
    subst this; rfl
  | none =>
    rw [hw] at hv
    have : w.farLoad P (a.add i) (Mode.plain == Mode.atomic) = .error (w.noCell (a.add i) "load: no such cell") := by
      unfold World.farLoad
      rw [hb, h]
    rw [this] at hv
    cases hv

/-- A new block hides nothing. -/
theorem like_alloc (a : Addr) (w : World) (o : Obj) : Like P a w (w.alloc o) := by
  intro i v hv
  generalize a.add i = b at *
  rw [run_load_eq] at hv ⊢
  have hlt : ∀ k, k < w.heap.size → (w.alloc o).heap[k]? = w.heap[k]? := fun k hk => heap_alloc_old w o hk
  by_cases hb : b.block < w.heap.size
  · have hc : (w.alloc o).cell? b = w.cell? b := World.cell?_of_block (hlt _ hb)
    rw [hc]
    cases hw : w.cell? b with
    | some u =>
      rw [hw] at hv
      have : u = v := by simpa using hv
      subst this; rfl
    | none =>
      rw [hw] at hv
      have hf : ∀ r, w.farLoad P b (Mode.plain == Mode.atomic) = .ok r → (w.alloc o).farLoad P b (Mode.plain == Mode.atomic) = .ok r := by
        intro r hr
        unfold World.farLoad at hr ⊢
        rw [hlt _ hb]
        split at hr
        · rename_i at_ u hq
          have hv2 : ∀ q, w.viewLoad P at_ u b (Mode.plain == Mode.atomic) = .ok q → (w.alloc o).viewLoad P at_ u b (Mode.plain == Mode.atomic) = .ok q := by
            intro q hq
            have hs : at_.block < w.heap.size := by
              rcases Nat.lt_or_ge at_.block w.heap.size with h | h
              · exact h
              · exfalso
                have hnone : w.heap[at_.block]? = none := Array.getElem?_eq_none h
                have hs : ∃ e, w.seen P at_ u b (Mode.plain == Mode.atomic) = .error e := by
                  unfold World.seen
                  simp only [hnone, bind, Except.bind]
                  repeat' split
                  all_goals exact ⟨_, rfl⟩
                obtain ⟨e, hs⟩ := hs
                unfold World.viewLoad at hq
                rw [hs] at hq
                cases hq
            have : (w.alloc o).viewLoad P at_ u b (Mode.plain == Mode.atomic) = w.viewLoad P at_ u b (Mode.plain == Mode.atomic) := by
              unfold World.viewLoad World.seen
              rw [hlt _ hs]
            rw [this]; exact hq
          cases hw2 : w.viewLoad P at_ u b (Mode.plain == Mode.atomic) with
          | ok q => rw [hw2] at hr; rw [hv2 q hw2]; exact hr
          | error e => rw [hw2] at hr; cases hr
        · cases hr
      cases hw2 : w.farLoad P b (Mode.plain == Mode.atomic) with
      | ok r => rw [hw2] at hv; rw [hf r hw2]; have : r.1 = v := by simpa using hv
                subst this; rfl
      | error e => rw [hw2] at hv; cases hv
  · exfalso
    have hnone : w.heap[b.block]? = none := Array.getElem?_eq_none (by omega)
    have h1 : w.cell? b = none := by simp [World.cell?, hnone]
    have h2 : ∃ e, w.farLoad P b (Mode.plain == Mode.atomic) = .error e := by
      unfold World.farLoad
      rw [hnone]
      exact ⟨_, rfl⟩
    obtain ⟨e, h2⟩ := h2
    rw [h1, h2] at hv
    cases hv
end
end Go.Proofs.Ytgofogcfolhonaa
set_option linter.unusedVariables false
set_option linter.unusedSimpArgs false
namespace Go.Proofs.Ytgofogcfolhonaa
open Go

section
variable {P : Program} {ops : Array Oper}

theorem run_newRow (e : TypeId) (c : Array Value) (w : World) : (newRow e c).run P w = .ok ⟨w.heap.size, 0, none⟩ (w.alloc (.cells c e)) := by
  unfold newRow newObj
  rfl
theorem lays_of {m : Sem Value} (h : (∃ (f : Nat → Value) (o : Obj), ∀ w, m.run P w = .ok (f w.heap.size) (w.alloc o)) ∨ Halts P m) : Lays P (do pure (.value (← m)) : Sem Next) := by
  rcases h with ⟨f, o, h⟩ | h
  · exact .inl ⟨f, o, fun w => by rw [Sem.run_bind, h w]; rfl⟩
  · exact .inr (Halts.left h)
theorem lays_newVar (t : TypeId) (v : Value) : (∃ (f : Nat → Value) (o : Obj), ∀ w, (do pure (.pointer (some (← newVar t v))) : Sem Value).run P w = .ok (f w.heap.size) (w.alloc o)) :=
  ⟨fun n => .pointer (some ⟨n, 0, none⟩), .cells v.cells t, fun w => by rw [Sem.run_bind]; unfold newVar; rw [run_newRow]; rfl⟩
def sliceOf (e : TypeId) (n : Nat) (c : Option (Array Value)) : Sem Value := match c with
  | some cells => do pure (.slice (some (← newRow e cells)) n n)
  | _ => stuck "buildSlice: a part of the wrong size"
theorem kM_lays {o : Oper} (h : kM o = true) (ρ : Operand → Value) : Lays P (execOp ρ o) := by
  unfold kM at h
  unfold execOp
  split at h
  · rename_i z t heq
    simp only [heq]
    apply lays_of
    unfold Instr.alloc
    rcases calm_zeroValue (P := P) t with ⟨v, hv⟩ | hh
    · obtain ⟨f, o, hf⟩ := lays_newVar (P := P) t v
      exact .inl ⟨f, o, fun w => by rw [Sem.run_bind, hv w]; exact hf w⟩
    · exact .inr (Halts.left hh)
  · rename_i z t x heq
    simp only [heq]
    exact lays_of (.inl (lays_newVar t _))
  · rename_i z t n ps heq
    simp only [heq]
    apply lays_of
    unfold Instr.buildSlice
    rcases calm_underlying (P := P) t with ⟨d, hd⟩ | hh
    · have tail : ∀ (e : TypeId) (c : Option (Array Value)), ((∃ (f : Nat → Value) (o : Obj), ∀ w : World, (sliceOf e n c).run P w = Result.ok (f w.heap.size) (w.alloc o)) ∨ Halts P (sliceOf e n c)) := fun e c => by
        cases c with
        | some cells => exact .inl ⟨fun k => .slice (some ⟨k, 0, none⟩) n n, .cells cells e, fun w => by unfold sliceOf; rw [Sem.run_bind, run_newRow]; rfl⟩
        | none => exact .inr (halts_stuck _)
      have go : ∀ {α : Type} {m : Sem α} {f : α → Sem Value}, Calm P m → (∀ v, ((∃ (g : Nat → Value) (o : Obj), ∀ w, (f v).run P w = .ok (g w.heap.size) (w.alloc o)) ∨ Halts P (f v))) → ((∃ (g : Nat → Value) (o : Obj), ∀ w, (m >>= f).run P w = .ok (g w.heap.size) (w.alloc o)) ∨ Halts P (m >>= f)) := by
        intro α m f hm hf
        rcases hm with ⟨v, hv⟩ | hh
        · rcases hf v with ⟨g, o, h⟩ | h
          · exact .inl ⟨g, o, fun w => by rw [Sem.run_bind, hv w]; exact h w⟩
          · exact .inr fun w => by rw [Sem.run_bind, hv w]; exact h w
        · exact .inr (Halts.left hh)
      refine go (calm_underlying t) fun d => ?_
      split
      · refine go (calm_sizeOf _) fun sz => ?_
        dsimp only
        split
        · exact .inr (Halts.left (halts_unsupported _))
        · split
          · exact go (calm_pure _) fun z => tail _ _
          · exact go (calm_zeroValue _) fun z => go (calm_pure _) fun z => tail _ _
      · exact .inr (halts_stuck _)
    · exact .inr (Halts.left hh)
  · cases h

/-! The two theorems. -/
def tmpOps (o : Oper) : List Tmp := o.op.operands.toList.filterMap fun | .tmp t => some t | _ => none
def swB (P : Program) (ops : Array Oper) (mode : Bool) (oi oj : Oper) : Bool :=
  oi.apart ops oj && (kA P oi || kA P oj || kD P oi || kD P oj || (kL oi && kL oj) || (kL oi && kM oj) || (mode && (kL oi || kL oj)))
/-- THE TEST: 'need': the operations whose operands must be seen to be plain. -/
def regB (P : Program) (mode : Bool) (need : List Nat) (l : List Oper) : Bool :=
  let ops := l.toArray
  let M := (Region.before ops).toList
  Region.noSelect ops && backB ops && closeB M ops &&
  ((List.range l.length).all fun j => match ops[j]? with
    | some oj => ((List.range j).all fun i => (M.getD j 0).testBit i || match ops[i]? with
      | some oi => swB P ops mode oi oj && (kA P oi || kA P oj || (if kD P oi then need.contains i else if kD P oj then need.contains j else true))
      | none => false)
    | none => false) &&
  ((List.range l.length).all fun i => match ops[i]? with
    | some oi => (!(need.contains i || (mode && kL oi)) || (List.range l.length).all fun j => decide (j < i) || (match (ops[j]?).bind (·.dst) with | some d => !(tmpOps oi).contains d | none => true)) &&
        (!mode || !kD P oi || need.contains i)
    | none => false)
/-- .. that they are. -/
def finB (need : List Nat) (l : List Oper) (a : Act) : Bool := need.all fun i => match l[i]? with
  | some o => condB o a.eval
  | none => true
def inS (S : Nat → Prop) (o : Oper) (a : Act) : Prop := match o.op with
  | .load _ x => (match a.eval x with | .pointer (some ad) => S ad.block | _ => True)
  | _ => True
/-- The conditions ahead of each operation. -/
def condC (mode : Bool) (S : Nat → Prop) (need : List Nat) (l : List Oper) (i : Nat) (a : Act) : Prop := match l[i]? with
  | some o => (i ∈ need → condB o a.eval = true) ∧ (mode = true → inS S o a)
  | none => True

theorem condB_congr {o : Oper} {ρ ρ' : Operand → Value} (h : ∀ x ∈ o.op.operands, ρ' x = ρ x) : condB o ρ' = condB o ρ := by
  unfold condB
  split <;> rename_i heq <;> simp only [heq, Op.operands, Call.operands] at h
  · rw [h _ (by simp), h _ (by simp)]
  · rw [h _ (by simp)]
  · rw [h _ (by simp)]
  all_goals first
    | rfl
    | (rename_i args ts
       have e : args.map ρ' = args.map ρ := Array.map_congr_left fun x hx => h x (by simp [hx])
       rw [e])
theorem inS_congr {S : Nat → Prop} {o : Oper} {a a' : Act} (h : ∀ x ∈ o.op.operands, a'.eval x = a.eval x) : inS S o a' ↔ inS S o a := by
  unfold inS
  split
  · rename_i heq
    simp only [heq, Op.operands] at h
    rw [h _ (by simp)]
  · exact Iff.rfl

/-- The text's order without the conditions; behind each effect what holds of the world. -/
def UOrd (P : Program) (ops : Array Oper) (Inv : World → Prop) (E : Nat → Bool) : List Nat → (Act → World → Prop) → Act → World → Prop
  | [], K, a, w => K a w
  | i :: l, K, a, w => wpOp P ops QF i (fun a' w' => (E i = true → Inv w') ∧ UOrd P ops Inv E l K a' w') a w
variable {Inv : World → Prop} {E : Nat → Bool} {C : Nat → Act → Prop}

theorem UOrd.mono {l : List Nat} {K K' : Act → World → Prop} (hk : ∀ a w, K a w → K' a w) : ∀ {a : Act} {w : World}, (∀ i ∈ l, ∃ o, ops[i]? = some o) → UOrd P ops Inv E l K a w → UOrd P ops Inv E l K' a w := by
  induction l with
  | nil => exact fun _ h => hk _ _ h
  | cons i l ih =>
    intro a w hl h
    obtain ⟨o, ho⟩ := hl i (List.mem_cons_self ..)
    exact op_mono ho h fun a' w' _ h' => ⟨h'.1, ih (fun j hj => hl j (List.mem_cons_of_mem _ hj)) h'.2⟩
theorem UOrd.append {l m : List Nat} {K : Act → World → Prop} : ∀ {a : Act} {w : World}, (∀ i ∈ l, ∃ o, ops[i]? = some o) → UOrd P ops Inv E l (UOrd P ops Inv E m K) a w → UOrd P ops Inv E (l ++ m) K a w := by
  induction l with
  | nil => exact fun _ h => h
  | cons i l ih =>
    intro a w hl h
    obtain ⟨o, ho⟩ := hl i (List.mem_cons_self ..)
    exact op_mono ho h fun a' w' _ h' => ⟨h'.1, ih (fun j hj => hl j (List.mem_cons_of_mem _ hj)) h'.2⟩
theorem upd_tmps {o : Oper} {a a' : Act} (h : Upd o a a') {t : Tmp} (ht : o.dst ≠ some t) : a'.tmps.getD t undef = a.tmps.getD t undef := by
  obtain ⟨v, ds, rfl⟩ := h
  cases hd : o.dst with
  | none => rfl
  | some d =>
    have hne : d ≠ t := fun e => ht (by rw [hd, e])
    simp [Act.put, Array.getElem?_setIfInBounds_ne hne]
theorem UOrd.out {l : List Nat} {K : Act → World → Prop} : ∀ {a : Act} {w : World}, (∀ i ∈ l, ∃ o, ops[i]? = some o) → UOrd P ops Inv E l K a w →
    ∃ a' w', K a' w' ∧ ∀ t, (∀ i ∈ l, ∀ o, ops[i]? = some o → o.dst ≠ some t) → a'.tmps.getD t undef = a.tmps.getD t undef := by
  induction l with
  | nil => exact fun _ h => ⟨_, _, h, fun _ _ => rfl⟩
  | cons i l ih =>
    intro a w hl h
    obtain ⟨o, ho⟩ := hl i (List.mem_cons_self ..)
    obtain ⟨a1, w1, hu, h1⟩ := op_out ho h
    obtain ⟨a', w', hK, ht⟩ := ih (fun j hj => hl j (List.mem_cons_of_mem _ hj)) h1.2
    refine ⟨a', w', hK, fun t hn => ?_⟩
    rw [ht t fun j hj => hn j (List.mem_cons_of_mem _ hj)]
    exact upd_tmps hu (hn i (List.mem_cons_self ..) o ho)
theorem wpOp_strict {i : Nat} {K : Act → World → Prop} {Q : Exit → Act → World → Prop} {a : Act} {w : World} (hp : ∀ c a w, ¬ Q (.panic c) a w) (hl : ∀ a w, ¬ Q .outgrown a w) (h : wpOp P ops Q i K a w) : wpOp P ops QF i K a w := by
  unfold wpOp at *
  split
  · rename_i ho; simp only [ho] at h; exact h
  · rename_i o ho
    simp only [ho] at h
    split
    · rename_i hw
      simp only [hw, if_true] at h
      have h := h.resolve_right (fun ⟨_, a, w, h⟩ => hl a w h)
      refine .inl ?_
      unfold Oper.wp at *
      generalize (execOp a.eval o).run P w = r at *
      cases r with
      | ok n w' =>
        cases n <;> simp only [Oper.upon] at h ⊢ <;>
          first
            | exact h
            | exact Calls.mono h (fun e w'' he => by cases e <;> first | exact he | exact (hp _ _ _ he).elim | exact (Exists.elim he fun a h => Exists.elim h fun w h => hl a w h).elim)
            | exact Rows.mono h (fun _ _ he => he)
      | halt x w' => cases x <;> simp only [Oper.upon] at h ⊢ <;> exact (hp _ _ _ h).elim
    · rename_i hw; simp only [hw] at h; exact h

/-- What a walk of a part of the text leaves. -/
def KX (X : Act → World → Prop) : Exit → Act → World → Prop
  | .normal, a, w => X a w
  | _, _, _ => False
theorem UOrd.of_ops {X : Act → World → Prop} : ∀ (m k : Nat) {a : Act} {w : World}, k + m ≤ ops.size → ((∀ w, Inv w) ∨ (∀ a w, X a w → Inv w)) → ((∀ w, Inv w) ∨ (∀ i, k ≤ i → i + 1 < k + m → E i = false)) →
    wpOps P ops (KX X) (List.range' k m) a w → UOrd P ops Inv E (List.range' k m) X a w
  | 0, k, a, w, _, _, _, h => h
  | m + 1, k, a, w, hs, hX, hE, h => by
    rw [List.range'_succ] at h ⊢
    rw [wpOps_cons] at h
    have h1 := wpOp_strict (Q := KX X) (fun _ _ _ h => h) (fun _ _ h => h) h
    have hk : ops[k]? = some ops[k] := Array.getElem?_eq_getElem (by omega)
    refine op_mono hk h1 fun a' w' _ h2 => ⟨fun he => ?_, UOrd.of_ops m (k + 1) (by omega) hX (hE.imp id fun h i h1 h2 => h i (by omega) (by omega)) h2⟩
    rcases hE with hE | hE
    · exact hE w'
    · rcases Nat.eq_zero_or_pos m with rfl | hm
      · rcases hX with hX | hX
        · exact hX w'
        · exact hX a' w' h2
      · rw [hE k (Nat.le_refl _) (by omega)] at he; cases he

theorem TOrd.of_U {F : Act → Prop} {K : Act → World → Prop}
    (hC : ∀ k o a a', ops[k]? = some o → (∀ x ∈ o.op.operands, a'.eval x = a.eval x) → (C k a' ↔ C k a))
    (hF : ∀ k a, k < ops.size → F a → C k a)
    (hstay : ∀ i j oi oj, ops[i]? = some oi → ops[j]? = some oj → i ≤ j → (∀ a, C i a) ∨ ∀ d, oj.dst = some d → d ∉ tmpOps oi)
    (hI : ∀ i o (a : Act) (w : World) (K : Act → World → Prop), ops[i]? = some o → E i = false → C i a → Inv w → wpOp P ops QF i K a w → wpOp P ops QF i (fun a' w' => Inv w' ∧ K a' w') a w) :
    ∀ (m k : Nat) {a : Act} {w : World}, k + m = ops.size → Inv w → UOrd P ops Inv E (List.range' k m) (fun a w => F a ∧ K a w) a w → TOrd P ops Inv C (List.range' k m) K a w
  | 0, k, a, w, _, hi, h => ⟨hi, h.2⟩
  | m + 1, k, a, w, hs, hi, h => by
    have hk : ops[k]? = some ops[k] := Array.getElem?_eq_getElem (by omega)
    have hex : ∀ i ∈ List.range' k (m + 1), ∃ o, ops[i]? = some o := fun i hi => by
      have := List.mem_range'_1.1 hi
      exact ⟨_, Array.getElem?_eq_getElem (by omega)⟩
    have hCk : C k a := by
      obtain ⟨a', w', hK, ht⟩ := UOrd.out hex h
      have hc := hF k a' (by omega) hK.1
      refine (Classical.em (∀ a, C k a)).elim (fun h => h a) fun hn => ?_
      refine (hC k _ a a' hk fun x hx => ?_).1 hc
      cases x with
      | tmp t =>
        refine ht t fun i hi o ho hd => ?_
        rcases hstay k i _ o hk ho (List.mem_range'_1.1 hi).1 with h | h
        · exact hn h
        · exact h t hd (List.mem_filterMap.2 ⟨.tmp t, by simpa using hx, rfl⟩)
      | _ => rfl
    rw [List.range'_succ] at h ⊢
    refine ⟨hi, hCk, ?_⟩
    have step : ∀ a' w', Inv w' → UOrd P ops Inv E (List.range' (k + 1) m) (fun a w => F a ∧ K a w) a' w' → TOrd P ops Inv C (List.range' (k + 1) m) K a' w' := fun a' w' hi h => TOrd.of_U hC hF hstay hI m (k + 1) (by omega) hi h
    cases hE : E k
    · exact op_mono hk (hI k _ a w _ hk hE hCk hi h) fun a' w' _ h' => step a' w' h'.1 h'.2.2
    · exact op_mono hk h fun a' w' _ h' => step a' w' (h'.1 hE) h'.2
end
end Go.Proofs.Ytgofogcfolhonaa
set_option linter.unusedVariables false
set_option linter.unusedSimpArgs false
namespace Go.Proofs.Ytgofogcfolhonaa
open Go

section
variable {P : Program}

structure RegOk (P : Program) (mode : Bool) (need : List Nat) (l : List Oper) : Prop where
  sel : ∀ (i : Nat) (o : Oper) cs b, l.toArray[i]? = some o → o.op ≠ .select cs b
  back : backB l.toArray = true
  close : closeB (Region.before l.toArray).toList l.toArray = true
  pairs : ∀ (i j : Nat) (oi oj : Oper), i < j → l.toArray[i]? = some oi → l.toArray[j]? = some oj → ((Region.before l.toArray).toList.getD j 0).testBit i = false →
    swB P l.toArray mode oi oj = true ∧ (kA P oi || kA P oj || (if kD P oi then need.contains i else if kD P oj then need.contains j else true)) = true
  stay : ∀ (i j : Nat) (oi oj : Oper), l.toArray[i]? = some oi → l.toArray[j]? = some oj → i ≤ j → (need.contains i || (mode && kL oi)) = true → ∀ d, oj.dst = some d → d ∉ tmpOps oi
  held : mode = true → ∀ (i : Nat) (oi : Oper), l.toArray[i]? = some oi → kD P oi = true → need.contains i = true

theorem regB_ok {mode : Bool} {need : List Nat} {l : List Oper} (h : regB P mode need l = true) : RegOk P mode need l := by
  unfold regB at h
  simp only [Bool.and_eq_true, List.all_eq_true, List.mem_range] at h
  obtain ⟨⟨⟨⟨h1, h2⟩, h3⟩, h4⟩, h5⟩ := h
  refine ⟨Region.noSelect_spec h1, h2, h3, fun i j oi oj hij hi hj hb => ?_, fun i j oi oj hi hj hij hn d hd => ?_, fun hm i oi hi hk => ?_⟩
  · have hjl : j < l.length := by have := (Array.getElem?_eq_some_iff.1 hj).1; simpa using this
    have := h4 j hjl
    rw [hj] at this
    simp only [List.all_eq_true, List.mem_range] at this
    have := this i hij
    rw [hb, hi] at this
    simpa only [Bool.false_or, Bool.and_eq_true] using this
  · have hil : i < l.length := by have := (Array.getElem?_eq_some_iff.1 hi).1; simpa using this
    have hjl : j < l.length := by have := (Array.getElem?_eq_some_iff.1 hj).1; simpa using this
    have := h5 i hil
    rw [hi] at this
    simp only [Bool.and_eq_true] at this
    have := this.1
    rw [hn] at this
    simp only [Bool.not_true, Bool.false_or, List.all_eq_true, List.mem_range] at this
    have := this j hjl
    rw [hj] at this
    simp only [Option.bind_some, hd, Bool.or_eq_true, decide_eq_true_eq, Bool.not_eq_true'] at this
    rcases this with h | h
    · omega
    · simpa using h
  · have hil : i < l.length := by have := (Array.getElem?_eq_some_iff.1 hi).1; simpa using this
    have := h5 i hil
    rw [hi] at this
    simp only [Bool.and_eq_true] at this
    have := this.2
    rw [hm, hk] at this
    simpa using this

theorem condC_congr {mode : Bool} {S : Nat → Prop} {need : List Nat} {l : List Oper} : ∀ (k : Nat) (o : Oper) (a a' : Act), l.toArray[k]? = some o → (∀ x ∈ o.op.operands, a'.eval x = a.eval x) → (condC mode S need l k a' ↔ condC mode S need l k a) := by
  intro k o a a' hk hx
  have hk' : l[k]? = some o := by simpa using hk
  unfold condC
  rw [hk']
  dsimp only
  rw [condB_congr hx, inS_congr hx]

theorem text_core {mode : Bool} {need : List Nat} {l : List Oper} {S : Nat → Prop} {w0 : World} (hr : RegOk P mode need l) (hS : ∀ b, S b → ∃ c t f, w0.heap[b]? = some (.cells c t f))
    {id : Nat} {Q : Exit → Act → World → Prop} {a : Act} {w : World} (hm : P.follows .mixedOrders = true)
    (h : TOrd P l.toArray (fun w => ∀ b, S b → w.heap[b]? = w0.heap[b]?) (condC mode S need l) (List.range' 0 l.length) (Q .normal) a w.drew) : (Code.region id l.toArray true).wp P Q a w := by
  refine wp_region_any hm ?_
  have hrep : ∀ i, i < l.length → (Array.replicate l.toArray.size false).getD i true = false := fun i hi => by simp [Array.getD, hi]
  have hto : toCome l.toArray.size (Array.replicate l.toArray.size false) = List.range' 0 l.length := by
    unfold toCome
    rw [List.filter_eq_self.2 (fun i hi => by rw [hrep i (by simpa using hi)]; rfl), List.range_eq_range']
    simp
  refine any_of_text (M := (Region.before l.toArray).toList) hr.back hr.close hr.sel condC_congr ?_ _ _ _ _ (by simp) ?_ ?_ ?_ (Inv := fun w => ∀ b, S b → w.heap[b]? = w0.heap[b]?) (C := condC mode S need l)
  · intro i j oi oj hij hi hj hb
    obtain ⟨h1, h2⟩ := hr.pairs i j oi oj hij hi hj hb
    have hi' : l[i]? = some oi := by simpa using hi
    have hj' : l[j]? = some oj := by simpa using hj
    unfold swB at h1
    simp only [Bool.and_eq_true] at h1
    refine ⟨h1.1, ?_⟩
    have cond : ∀ {k : Nat} {o : Oper} {a : Act}, l[k]? = some o → condC mode S need l k a → need.contains k = true → condB o a.eval = true := fun hk hc hn => by
      unfold condC at hc
      rw [hk] at hc
      exact hc.1 (by simpa using hn)
    have stable : ∀ {k : Nat} {o : Oper}, mode = true → l[k]? = some o → kL o = true → ∀ (a : Act) w w' v, condC mode S need l k a → (∀ b, S b → w.heap[b]? = w0.heap[b]?) → (∀ b, S b → w'.heap[b]? = w0.heap[b]?) → (execOp a.eval o).run P w = .ok (.value v) w → (execOp a.eval o).run P w' = .ok (.value v) w' := by
      intro k o hmode hk hl a w w' v hc hw hw' hrun
      obtain ⟨t, x, ho⟩ := kL_spec hl
      refine kL_like ho (fun ad had => ?_) hrun
      unfold condC at hc
      rw [hk] at hc
      have := hc.2 hmode
      unfold inS at this
      rw [ho] at this
      simp only [had] at this
      obtain ⟨c, t, f, e⟩ := hS _ this
      exact like_of_row ((hw _ this).trans e) ((hw' _ this).trans e)
    by_cases a1 : kA P oi = true
    · exact .calm1 fun a _ => kA_calm a1 _
    by_cases a2 : kA P oj = true
    · exact .calm2 fun a _ => kA_calm a2 _
    by_cases d1 : kD P oi = true
    · have hn : need.contains i = true := by simpa [a1, a2, d1] using h2
      exact .calm1 fun a hc => kD_calm d1 _ (cond hi' hc hn)
    by_cases d2 : kD P oj = true
    · have hn : need.contains j = true := by simpa [a1, a2, d1, d2] using h2
      exact .calm2 fun a hc => kD_calm d2 _ (cond hj' hc hn)
    have h3 := h1.2
    simp only [a1, a2, d1, d2, Bool.false_or, Bool.or_eq_true, Bool.and_eq_true] at h3
    rcases h3 with (h3 | h3) | h3
    · exact .reads (fun a => kL_reads h3.1 _) (fun a => kL_reads h3.2 _)
    · obtain ⟨t, x, ho⟩ := kL_spec h3.1
      exact .lays (fun a => kL_reads h3.1 _) (fun a => kM_lays h3.2 _) (fun a w o v hrun => kL_like ho (fun ad _ => like_alloc ad w o) hrun)
    · rcases h3.2 with h4 | h4
      · exact .held1 (fun a => kL_reads h4 _) (stable h3.1 hi' h4)
      · exact .held2 (fun a => kL_reads h4 _) (stable h3.1 hj' h4)
  · intro j o _ hl
    exfalso
    have : (Array.replicate l.toArray.size false).getD j false = false := by
      simp only [Array.getD]
      split <;> simp
    rw [this] at hl
    cases hl
  · rw [hto]; simp
  · rw [hto]; exact h

theorem finB_get {need : List Nat} {l : List Oper} {a : Act} (h : finB need l a = true) {i : Nat} {o : Oper} (hi : l[i]? = some o) (hn : i ∈ need) : condB o a.eval = true := by
  have := List.all_eq_true.1 h i hn
  rwa [hi] at this

theorem wpList_ops {l : List Oper} {Q : Exit → Act → World → Prop} (c : List Oper) : ∀ (k : Nat), (∀ j, j < c.length → l.toArray[k + j]? = c[j]?) → ∀ {a : Act} {w : World}, wpList P l.toArray Q c a w → wpOps P l.toArray Q (List.range' k c.length) a w := by
  induction c with
  | nil => exact fun k _ a w h => h
  | cons o c ih =>
    intro k hk a w h
    rw [List.length_cons, List.range'_succ, wpOps_cons]
    have h0 : l.toArray[k]? = some o := hk 0 (by simp)
    unfold wpOp
    simp only [h0]
    unfold wpList at h
    have ih' : ∀ (a : Act) (w : World), wpList P l.toArray Q c a w → wpOps P l.toArray Q (List.range' (k + 1) c.length) a w := fun a w h => ih (k + 1) (fun j hj => by have := hk (j + 1) (by simp; omega); rw [Nat.add_assoc, Nat.add_comm 1 j]; simpa using this) h
    split at h
    · rename_i hw
      rw [if_pos hw]
      exact h.imp (Oper.wp_mono ih') id
    · rename_i hw
      rw [if_neg hw]
      exact ih' _ _ h

theorem ops_of_list {l : List Oper} {Q : Exit → Act → World → Prop} {k m : Nat} {a : Act} {w : World} (hkm : k + m ≤ l.length) (h : wpList P l.toArray Q ((l.drop k).take m) a w) : wpOps P l.toArray Q (List.range' k m) a w := by
  have hl : ((l.drop k).take m).length = m := by simp; omega
  have := wpList_ops ((l.drop k).take m) k (fun j hj => by
    rw [hl] at hj
    simp only [List.getElem?_toArray]
    rw [List.getElem?_take_of_lt hj, List.getElem?_drop]) h
  rwa [hl] at this

theorem stay_of {mode : Bool} {need : List Nat} {l : List Oper} {S : Nat → Prop} (hr : RegOk P mode need l) (hSF : mode = false ∨ True) (i j : Nat) (oi oj : Oper) (hi : l.toArray[i]? = some oi) (hj : l.toArray[j]? = some oj) (hij : i ≤ j) :
    (∀ a, condC mode S need l i a) ∨ ∀ d, oj.dst = some d → d ∉ tmpOps oi := by
  have hi' : l[i]? = some oi := by simpa using hi
  cases hn : (need.contains i || (mode && kL oi))
  · left
    intro a
    unfold condC
    rw [hi']
    simp only [Bool.or_eq_false_iff, Bool.and_eq_false_iff] at hn
    refine ⟨fun h => ?_, fun hm => ?_⟩
    · have : need.contains i = true := by simpa using h
      rw [hn.1] at this; cases this
    · rcases hn.2 with h | h
      · rw [hm] at h; cases h
      · unfold inS
        split
        · rename_i t x h2
          simp [kL, h2] at h
        · trivial
  · exact .inr (hr.stay i j oi oj hi hj hij hn)

/-- A REGION THAT DRAWS ITS ORDER, IN THE ORDER OF THE TEXT. 'need': the operations whose operands must be seen to be plain (most often none). -/
theorem region_text {id : Nat} {Q : Exit → Act → World → Prop} {a : Act} {w : World} {l : List Oper} (need : List Nat) (hm : P.follows .mixedOrders = true) (hB : regB P false need l = true)
    (h : ∀ K : Exit → Act → World → Prop, (∀ a' w', finB need l a' = true ∧ Q .normal a' w' → K .normal a' w') → wpList P l.toArray K l a w.drew) : (Code.region id l.toArray true).wp P Q a w := by
  have hr := regB_ok hB
  refine text_core (S := fun _ => False) (w0 := w) hr (fun _ h => h.elim) hm ?_
  have h1 := h (KX fun a w => finB need l a = true ∧ Q .normal a w) (fun a' w' h => h)
  have h2 := ops_of_list (l := l) (k := 0) (m := l.length) (by omega) (by simpa using h1)
  have h3 := UOrd.of_ops (Inv := fun w' => ∀ b, (fun _ : Nat => False) b → w'.heap[b]? = w.heap[b]?) (E := fun _ => false) l.length 0 (by simp) (.inl fun _ _ h => h.elim) (.inl fun _ _ h => h.elim) h2
  refine TOrd.of_U (F := fun a => finB need l a = true) condC_congr (fun k a _ hf => ?_) (fun i j oi oj hi hj hij => stay_of hr (.inr trivial) i j oi oj hi hj hij) (fun i o a w K hi _ _ _ h => op_mono hi h fun a' w' _ h => ⟨fun _ h => h.elim, h⟩) l.length 0 (by simp) (fun _ h => h.elim) h3
  unfold condC
  split
  · rename_i o ho
    exact ⟨fun hn => finB_get hf ho hn, fun h => by cases h⟩
  · trivial

theorem region_text0 {id : Nat} {Q : Exit → Act → World → Prop} {a : Act} {w : World} {l : List Oper} (hm : P.follows .mixedOrders = true) (hB : regB P false [] l = true)
    (h : ∀ K : Exit → Act → World → Prop, (∀ a' w', Q .normal a' w' → K .normal a' w') → wpList P l.toArray K l a w.drew) : (Code.region id l.toArray true).wp P Q a w :=
  region_text [] hm hB fun K hK => h K fun a' w' hq => hK a' w' ⟨rfl, hq⟩

end
end Go.Proofs.Ytgofogcfolhonaa
set_option linter.unusedVariables false
set_option linter.unusedSimpArgs false
namespace Go.Proofs.Ytgofogcfolhonaa
open Go Go.RowKit

/-- A text of bytes. -/
def tx (l : List UInt8) : ByteArray := ⟨l.toArray⟩
theorem tx_data (l : List UInt8) : (tx l).data.toList = l := rfl
theorem size_data (s : ByteArray) : s.size = s.data.size := rfl
theorem tx_size (l : List UInt8) : (tx l).size = l.length := by rw [size_data]; simp [tx]
theorem size_toList (s : ByteArray) : s.data.toList.length = s.size := by rw [size_data]; simp
theorem tx_toList (l : List UInt8) : (tx l).toList = l := by rw [Lib.toList_data, tx_data]
theorem ba_toList (s : ByteArray) : s.toList = s.data.toList := Lib.toList_data s
theorem beq_dec {α : Type} [BEq α] [LawfulBEq α] [DecidableEq α] (a b : α) : (a == b) = decide (a = b) := by
  by_cases h : a = b
  · subst h; simp
  · simp [h]
theorem tx_beq (a b : List UInt8) : ((tx a).toList == (tx b).toList) = decide (a = b) := by rw [tx_toList, tx_toList, beq_dec]
/-- The cells that hold them. -/
def u8s (l : List UInt8) : List Value := l.map fun b => .int .u8 (b.toNat : Int)
theorem u8s_length (l : List UInt8) : (u8s l).length = l.length := by simp [u8s]
theorem u8s_at (l : List UInt8) (k : Nat) : (u8s l)[k]? = (l[k]?).map fun b => Value.int .u8 (b.toNat : Int) := by simp [u8s]
theorem u8s_append (a b : List UInt8) : u8s (a ++ b) = u8s a ++ u8s b := by simp [u8s]
section
variable {P : Program}
/-- '[]byte(s)': a new row, owned. -/
theorem run_bytes_osl (w : World) (src dst e : TypeId) (s : ByteArray) (hs : P.underlying src = some .string) (hd : P.underlying dst = some (.slice e)) (he : P.underlying e = some (.int .u8)) (hm : s.size ≤ maxLen) :
    ∃ cap w', (convert src dst (.string s)).run P w = .ok (.slice (some ⟨w.heap.size, 0, none⟩) s.size cap) w' ∧ OSl w' 1 (.slice (some ⟨w.heap.size, 0, none⟩) s.size cap) s.size (u8s s.data.toList) ∧ Frm (fun _ => False) w w' ∧ w'.heap.size = w.heap.size + 1 := by
  refine ⟨_, _, run_bytes_of_string w src dst e s hs hd he, ?_, ⟨rfl, rfl, rfl, by simp, fun k hk _ => heap_alloc_old w.drew _ hk⟩, by simp⟩
  have hge := grownCap_ge w s.size 0 e
  have hsz : (bytesRow s (grownCap w s.size 0 e)).size = grownCap w s.size 0 e := by
    rw [size_data] at hge
    simp [bytesRow] at hge ⊢; omega
  refine ⟨by rw [u8s_length, size_toList, Nat.mul_one], .inr ⟨w.heap.size, 0, _, rfl, hge, grownCap_le_maxLen w s.size 0 e hm, by simp, fun j hj => ?_, fun j hj => ?_⟩⟩
  · have hj' : j < s.data.size := by rw [← size_data]; omega
    have e1 := World.cell?_alloc_mark w.drew (bytesRow s (grownCap w s.size 0 e)) e ((bytesRow s (grownCap w s.size 0 e)).size, (bytesRow s (grownCap w s.size 0 e)).size + 1) j
    rw [Nat.zero_add]
    refine e1.trans ?_
    rw [bytesRow_at s _ j hj', u8s_at]
    simp [Array.getElem?_eq_getElem hj']
  · have e1 := World.cell?_alloc_mark w.drew (bytesRow s (grownCap w s.size 0 e)) e ((bytesRow s (grownCap w s.size 0 e)).size, (bytesRow s (grownCap w s.size 0 e)).size + 1) j
    have e2 := World.frozen?_alloc_mark w.drew (bytesRow s (grownCap w s.size 0 e)) e (bytesRow s (grownCap w s.size 0 e)).size ((bytesRow s (grownCap w s.size 0 e)).size + 1) j
    rw [Nat.zero_add]
    refine ⟨?_, ?_⟩
    · refine (congrArg Option.isSome e1).trans ?_
      rw [Array.getElem?_eq_getElem (by omega)]
      rfl
    · refine e2.trans ?_
      have : ¬ (bytesRow s (grownCap w s.size 0 e)).size ≤ j := by omega
      simp [this]

/-- 'string(b)'. -/
theorem run_text_rsl (w : World) (src dst e : TypeId) (ao : Option Addr) (n cap : Nat) (l : List UInt8) (hs : P.underlying src = some (.slice e)) (he : P.underlying e = some (.int .u8)) (hd : P.underlying dst = some .string)
    (h : RSl w 1 (.slice ao n cap) n (u8s l)) : (convert src dst (.slice ao n cap)).run P w = .ok (.string (tx l)) w := by
  obtain ⟨h1, ao', cap', he', _, _, hc⟩ := h
  cases he'
  rw [u8s_length, Nat.mul_one] at h1
  subst h1
  rcases Nat.eq_zero_or_pos l.length with hz | hp
  · obtain rfl : l = [] := List.eq_nil_of_length_eq_zero hz
    cases ao with
    | none => exact run_convert_bytes_nil w src e hs he 0 cap dst hd
    | some a => exact run_convert_bytes_back w src dst e a cap [] hs he hd (fun j hj => absurd hj (by simp))
  · obtain ⟨g, o, rfl, hc2⟩ := hc hp
    refine run_convert_bytes_back w src dst e ⟨g, o, none⟩ cap l hs he hd (fun j hj => ?_)
    have := hc2 j (by omega)
    rw [u8s_at, List.getElem?_eq_getElem hj] at this
    simpa [Addr.add_mid] using this
end

/-- A STORE INTO AN OWNED ROW. -/
theorem OSl.set {w : World} {g o n cap : Nat} {xs : List Value} (h : OSl w 1 (.slice (some ⟨g, o, none⟩) n cap) n xs) (k : Nat) (hk : k < n) (v : Value) :
    OSl (w.setCell ⟨g, o + k, none⟩ v) 1 (.slice (some ⟨g, o, none⟩) n cap) n (xs.set k v) := by
  have hl := h.1
  obtain ⟨h2, h3, h6, h4, h5⟩ := h.at
  refine ⟨by simpa using hl, .inr ⟨g, o, cap, rfl, h2, h3, by simpa [World.setCell] using h6, fun j hj => ?_, fun j hj => ?_⟩⟩
  · by_cases hjk : j = k
    · subst hjk
      obtain ⟨u, hu⟩ := Option.isSome_iff_exists.1 (h5 j (by omega)).1
      rw [World.cell?_setCell_same _ _ _ hu, List.getElem?_set_self (by omega)]
    · rw [World.cell?_setCell_other _ _ _ _ (by intro hh; simp at hh <;> omega), List.getElem?_set_ne (by omega)]
      exact h4 j hj
  · refine ⟨?_, (World.frozen?_setCell _ _ _ _).trans (h5 j hj).2⟩
    by_cases hjk : j = k
    · subst hjk
      obtain ⟨u, hu⟩ := Option.isSome_iff_exists.1 (h5 j (by omega)).1
      rw [World.cell?_setCell_same _ _ _ hu]; rfl
    · rw [World.cell?_setCell_other _ _ _ _ (by intro hh; simp at hh <;> omega)]
      exact (h5 j hj).1
theorem ba_at (s : ByteArray) (k : Nat) (x : UInt8) (h : s.data.toList[k]? = some x) (hk : k < s.size) : s[k]'hk = x := by
  have := (List.getElem?_eq_some_iff.1 h).2
  rw [Array.getElem_toList] at this
  exact this
theorem extract_toList (s : ByteArray) (a b : Nat) : (s.extract a b).data.toList = (s.data.toList.drop a).take (b - a) := Lib.extract_data s a b
theorem extract_size (s : ByteArray) (a b : Nat) : (s.extract a b).size ≤ s.size := by
  rw [← size_toList, extract_toList, List.length_take, List.length_drop, ← size_toList]; omega
end Go.Proofs.Ytgofogcfolhonaa
set_option linter.unusedVariables false
set_option linter.unusedSimpArgs false
namespace Go.Proofs.Ytgofogcfolhonaa
open Go Go.RowKit

section
variable {P : Program}
theorem u8s_one (l : List UInt8) : ∀ u ∈ u8s l, u.oneCell' = true := by
  intro u hu
  obtain ⟨b, _, rfl⟩ := List.mem_map.1 hu
  rfl
/-- What an append, a copy reads of a slice of bytes. -/
theorem src_u8 {w : World} {v : Value} {n : Nat} {l : List UInt8} (h : RSl w 1 v n (u8s l)) {tx e' : TypeId} (hk : P.underlying tx = some (.slice e')) : Src P 1 tx v n (u8s l) w := by
  obtain ⟨h1, ao, cap, rfl, _, _, hc⟩ := h
  rcases Nat.eq_zero_or_pos n with rfl | hp
  · have hl : u8s l = [] := List.eq_nil_of_length_eq_zero (by simpa using h1)
    rw [hl]
    cases ao with
    | none => exact Src.ofNil w hk cap
    | some a => exact Src.ofSlice w hk a 0 cap [] rfl (fun j u hj => by simp at hj) (by simp)
  · obtain ⟨g, o, rfl, hc2⟩ := hc hp
    refine Src.ofSlice w hk ⟨g, o, none⟩ n cap _ h1 (fun j u hj => ?_) (u8s_one l)
    have hj' := (List.getElem?_eq_some_iff.1 hj).1
    rw [Addr.add_mid, hc2 j (by omega), hj]

/-- The operation 'copy(d, s)' in the walk, where its run is known. -/
theorem wpList_copy_eq (w : World) {ops : Array Oper} {rest : List Oper} {o : Oper} {a : Act} {Q : Exit → Act → World → Prop} (hgd : o.guard = none) (d s : Operand) (t t' : TypeId)
    (ho : o.op = .call { callee := .builtin .copy, args := #[d, s], argTypes := #[t, t'] }) (v u : Value) (hd : a.eval d = v) (hs : a.eval s = u) {v' : Value} {w' : World}
    (hr : (Builtin.copy_ #[t, t'] o.type #[v, u]).run P w = .ok v' w') (h : wpList P ops Q rest (a.put o.dst v') w') : wpList P ops Q (o :: rest) a w := by
  refine wpList_plain hgd fun K hK => ?_
  unfold Oper.wp
  simp [execOp, ho, resolve, invoke, builtin, hd, hs, hr, Result.andThen]
  exact hK _ _ h

/-- A part of a readable slice of bytes. -/
theorem RSl.part {w : World} {g o n cap : Nat} {l : List UInt8} (h : RSl w 1 (.slice (some ⟨g, o, none⟩) n cap) n (u8s l)) (i m cap' : Nat) (ao : Option Addr) (hi : i + m ≤ n) (hm : m ≤ cap') (hc : cap' ≤ maxLen) (ha : 0 < m → ao = some ⟨g, o + i, none⟩) :
    RSl w 1 (.slice ao m cap') m (u8s ((l.drop i).take m)) := by
  obtain ⟨h1, ao', cap0, he, _, _, hc0⟩ := h
  cases he
  rw [u8s_length, Nat.mul_one] at h1
  refine ⟨by rw [u8s_length, List.length_take, List.length_drop]; omega, ao, cap', rfl, hm, hc, fun hp => ⟨g, o + i, ha hp, fun j hj => ?_⟩⟩
  obtain ⟨g', o', he', hcell⟩ := hc0 (by omega)
  cases he'
  rw [Nat.add_assoc, hcell (i + j) (by omega), u8s_at, u8s_at, List.getElem?_take_of_lt (by omega), List.getElem?_drop]

/-- l written over st, from o on. -/
def splice (st : List UInt8) (o : Nat) (l : List UInt8) : List UInt8 := st.take o ++ l ++ st.drop (o + l.length)
theorem splice_length (st : List UInt8) (o : Nat) (l : List UInt8) (h : o + l.length ≤ st.length) : (splice st o l).length = st.length := by
  simp [splice]; omega
theorem splice_at (st : List UInt8) (o : Nat) (l : List UInt8) (h : o + l.length ≤ st.length) (j : Nat) : (splice st o l)[j]? = if o ≤ j ∧ j < o + l.length then l[j - o]? else st[j]? := by
  unfold splice
  have h1 : (st.take o).length = o := by rw [List.length_take]; omega
  by_cases h2 : j < o
  · rw [if_neg (by omega), List.append_assoc, List.getElem?_append_left (by omega), List.getElem?_take_of_lt h2]
  · by_cases h3 : j < o + l.length
    · rw [if_pos ⟨by omega, h3⟩, List.append_assoc, List.getElem?_append_right (by omega), h1, List.getElem?_append_left (by omega)]
    · rw [if_neg (by omega), List.getElem?_append_right (by rw [List.length_append, h1]; omega), List.length_append, h1, List.getElem?_drop]
      congr 1; omega
theorem splice_nil (st : List UInt8) (o : Nat) : splice st o [] = st := by simp [splice]

/-- copy INTO AN OWNED ROW OF BYTES: all is read before anything is written. -/
theorem run_copy_u8 {w : World} {g n cap : Nat} {st : List UInt8} (h : OSl w 1 (.slice (some ⟨g, 0, none⟩) n cap) n (u8s st)) {sv : Value} {m : Nat} {src : List UInt8} (hs : RSl w 1 sv m (u8s src)) (o d dc : Nat) (hd : o + d ≤ n)
    (dT sT ty e : TypeId) (hu : P.underlying dT = some (.slice e)) (he : (P.info? e).map (·.size) = some 1) :
    ∃ w', (Builtin.copy_ #[dT, sT] ty #[.slice (some ⟨g, o, none⟩) d dc, sv]).run P w = .ok (.int .i64 (Nat.min m d : Nat)) w' ∧ OSl w' 1 (.slice (some ⟨g, 0, none⟩) n cap) n (u8s (splice st o (src.take (Nat.min m d)))) ∧ Frm (fun k => k = g) w w' := by
  have hst := h.1
  rw [u8s_length, Nat.mul_one] at hst
  obtain ⟨h2, h3, h6, h4, h5⟩ := h.at
  obtain ⟨k1, ao, sc, rfl, _, _, kc⟩ := hs
  rw [u8s_length, Nat.mul_one] at k1
  rcases Nat.eq_zero_or_pos (Nat.min m d) with hz | hp
  · refine ⟨w, ?_, ?_, Frm.refl _ _⟩
    · rw [run_copy_none w dT sT ty e _ ao d dc m sc hu he hz, hz]; rfl
    · rw [hz, List.take_zero, splice_nil]; exact h
  · have hmm : Nat.min m d ≤ m := Nat.min_le_left m d
    have hmd : Nat.min m d ≤ d := Nat.min_le_right m d
    have hm0 : 0 < m := by omega
    obtain ⟨sg, so, rfl, kc2⟩ := kc hm0
    have hlen : (src.take (Nat.min m d)).length = Nat.min m d := by rw [List.length_take]; omega
    have hlen' : (u8s (src.take (Nat.min m d))).length = Nat.min m d := by rw [u8s_length, hlen]
    have hin : ∀ j, j < Nat.min m d → (w.cell? ⟨g, o + j, none⟩).isSome = true ∧ w.frozen? ⟨g, o + j, none⟩ = false := fun j hj => by
      have := h5 (o + j) (by omega)
      rwa [Nat.zero_add] at this
    have hrun := run_copy_cells (P := P) w dT sT ty e g o d dc ⟨sg, so, none⟩ m sc (u8s (src.take (Nat.min m d))) hu he hlen' (fun j v hj => by
        have hj' := (List.getElem?_eq_some_iff.1 hj).1
        rw [Addr.add_mid, kc2 j (by omega)]
        rw [u8s_at, List.getElem?_take_of_lt (by omega)] at hj
        rw [u8s_at]; exact hj)
      (fun j hj => (hin j (by omega)).1) (fun j hj => (hin j (by omega)).2) (u8s_one _)
    refine ⟨_, by rw [hrun, hlen']; rfl, ?_, frm_setCells g o _ w⟩
    have hsp := splice_at st o (src.take (Nat.min m d)) (by omega)
    have hspl := splice_length st o (src.take (Nat.min m d)) (by omega)
    have hsome : ∀ j, j < (u8s (src.take (Nat.min m d))).length → (w.cell? ⟨g, o + j, none⟩).isSome = true := fun j hj => (hin j (by omega)).1
    refine ⟨by rw [u8s_length, hspl]; omega, .inr ⟨g, 0, cap, rfl, h2, h3, by rw [heap_size_setCells]; exact h6, fun j hj => ?_, fun j hj => ⟨?_, (World.frozen?_setCells g _ _ _ _).trans (h5 j hj).2⟩⟩⟩
    · rw [Nat.zero_add, u8s_at, hsp j, hlen]
      by_cases hjo : o ≤ j ∧ j < o + Nat.min m d
      · have := World.cell?_setCells_in g (u8s (src.take (Nat.min m d))) o w hsome (j - o) (by omega)
        rw [show o + (j - o) = j by omega] at this
        rw [this, if_pos hjo, ← List.getElem?_eq_getElem, u8s_at]
      · rw [World.cell?_setCells_out g _ _ _ _ (fun _ _ => by show j < o ∨ o + _ ≤ j; rw [hlen']; omega), if_neg hjo]
        have := h4 j hj
        rw [Nat.zero_add, u8s_at] at this
        exact this
    · rw [Nat.zero_add]
      by_cases hjo : o ≤ j ∧ j < o + Nat.min m d
      · have := World.cell?_setCells_in g (u8s (src.take (Nat.min m d))) o w hsome (j - o) (by omega)
        rw [show o + (j - o) = j by omega] at this
        rw [this]; rfl
      · rw [World.cell?_setCells_out g _ _ _ _ (fun _ _ => by show j < o ∨ o + _ ≤ j; rw [hlen']; omega)]
        have := (h5 j hj).1
        rwa [Nat.zero_add] at this

theorem made_at (n j : Nat) (h : j < n) : (madeCells (Value.int .u8 0).cells (n * 1))[j]? = some (.int .u8 0) := by
  simp [madeCells, Value.cells, h, Nat.mod_one]
/-- 'make([]byte, l, c)'. -/
theorem run_make_osl (w : World) (t e : TypeId) (i : TypeInfo) (ht : P.underlying t = some (.slice e)) (hi : P.info? e = some i) (hz : i.zero = some (.int .u8 0)) (hs : i.size = 1) (hb : i.bytes = 1) (l c : Nat) (hl : l ≤ c) (hc : c ≤ 281474976710656) :
    ∃ w', (Instr.makeSlice t (.int .i64 l) (.int .i64 c)).run P w = .ok (.slice (some ⟨w.heap.size, 0, none⟩) l c) w' ∧ OSl w' 1 (.slice (some ⟨w.heap.size, 0, none⟩) l c) l (u8s (List.replicate l 0)) ∧ Frm (fun _ => False) w w' ∧ w'.heap.size = w.heap.size + 1 := by
  have hr := run_make (P := P) w t e i _ ht hi hz .i64 .i64 l c (by omega) (by omega) (by rw [hb]; omega) (by omega)
  simp only [Int.toNat_natCast, hs] at hr
  refine ⟨_, hr, ?_, Frm.alloc _ w _, by simp⟩
  refine OSl.new w _ e 1 l c _ (by rw [u8s_length, List.length_replicate, Nat.mul_one]) hl (by unfold maxLen; omega) (by rw [size_madeCells]) (fun j hj => ?_)
  rw [made_at c j (by omega), u8s_at, List.getElem?_replicate, if_pos (by omega)]
  rfl
end

/-- Behind an append onto what is new, what it gave is new, and nothing old has turned. -/
theorem fresh_app {w w2 w3 : World} {v v' : Value} {H : Nat} (hF : Frm (fun _ => False) w w2) (hv : ∀ g, v.ownBlock = some g → w.heap.size ≤ g) (hf : Frm (fun k => v.ownBlock = some k) w2 w3) (hv' : v'.ownBlock = v.ownBlock ∨ v'.ownBlock = some H) (hH : w.heap.size ≤ H) :
    (∀ g, v'.ownBlock = some g → w.heap.size ≤ g) ∧ Frm (fun _ => False) w w3 := by
  refine ⟨fun g hg => ?_, hF.fresh hf fun i hi h => absurd (hv i h) (by omega)⟩
  rcases hv' with e | e
  · exact hv g (by rw [← e]; exact hg)
  · rw [e] at hg; have := Option.some.inj hg; omega

/-- 's[:n]'. -/
theorem RSl.pre {w : World} {ao : Option Addr} {n c : Nat} {l : List UInt8} (h : RSl w 1 (.slice ao n c) n (u8s l)) (m : Nat) (hm : m ≤ n) : RSl w 1 (.slice ao m c) m (u8s (l.take m)) := by
  obtain ⟨h1, ao', c', he, h2, h3, hc⟩ := h
  cases he
  rw [u8s_length, Nat.mul_one] at h1
  refine ⟨by rw [u8s_length, List.length_take]; omega, ao, c, rfl, by omega, h3, fun hp => ?_⟩
  obtain ⟨g, o, rfl, hc2⟩ := hc (by omega)
  refine ⟨g, o, rfl, fun j hj => ?_⟩
  rw [hc2 j (by omega), u8s_at, u8s_at, List.getElem?_take_of_lt (by omega)]
theorem RSl.len {w : World} {v : Value} {n : Nat} {l : List UInt8} (h : RSl w 1 v n (u8s l)) : l.length = n := by
  have := h.1
  rwa [u8s_length, Nat.mul_one] at this
theorem RSl.caps {w : World} {ao : Option Addr} {n c : Nat} {xs : List Value} (h : RSl w 1 (.slice ao n c) n xs) : n ≤ c ∧ c ≤ maxLen := by
  obtain ⟨_, _, _, he, h1, h2, _⟩ := h
  cases he
  exact ⟨h1, h2⟩
end Go.Proofs.Ytgofogcfolhonaa

set_option linter.unusedVariables false
set_option linter.unnecessarySimpa false
set_option linter.unusedSimpArgs false
set_option maxRecDepth 100000
namespace Go.Proofs.Ytgofogcfolhonaa
open Go Go.RowKit
open Go.WideShapes
open Go.Maps (Keyed has)
open Go.ChangeMaps Go.MapKept

/-- Block g alone has turned. -/
structure OnlyB (g : Nat) (w w' : World) : Prop where
  heap : ∀ b, b ≠ g → w'.heap[b]? = w.heap[b]?
  size : w'.heap.size = w.heap.size
  os : w'.os = w.os
  tape : w'.tape = w.tape
  output : w'.output = w.output
theorem OnlyB.refl (g : Nat) (w : World) : OnlyB g w w := ⟨fun _ _ => rfl, rfl, rfl, rfl, rfl⟩
theorem OnlyB.trans {g : Nat} {w w' w'' : World} (h : OnlyB g w w') (k : OnlyB g w' w'') : OnlyB g w w'' :=
  ⟨fun b hb => (k.heap b hb).trans (h.heap b hb), k.size.trans h.size, k.os.trans h.os, k.tape.trans h.tape, k.output.trans h.output⟩
/-- How a pointer to a box reads. -/
def ptrEl : Value → Option (DataW Unit × List MemPlace)
  | .pointer (some ⟨b, 0, none⟩) => some (.lit (.int .u64 b), [])
  | .pointer none => some (.nil, [])
  | _ => none
theorem ptrEl_lit {v : Value} {b : Nat} {ps : List MemPlace} (h : ptrEl v = some (.lit (.int .u64 b), ps)) : v = .pointer (some ⟨b, 0, none⟩) := by
  unfold ptrEl at h
  split at h
  · injection h with h; injection h with h _; injection h with h; injection h with _ h; rw [Int.ofNat_inj.1 h]
  · injection h with h; injection h with h _; cases h
  · cases h
theorem ptrEl_nil {v : Value} {ps : List MemPlace} (h : ptrEl v = some (.nil, ps)) : v = .pointer none := by
  unfold ptrEl at h
  split at h
  · injection h with h; injection h with h _; cases h
  · rfl
  · cases h
/-- Which box a number has. -/
def kvAt (kv : List (Int × Nat)) (n : Int) : Option Nat := (kv.find? fun p => p.1 == n).map (·.2)
def kvDel (kv : List (Int × Nat)) (n : Int) : List (Int × Nat) := kv.filter fun p => p.1 != n
def kvPut (kv : List (Int × Nat)) (n : Int) (i : Nat) : List (Int × Nat) := kvDel kv n ++ [(n, i)]
def kvN (kv : List (Int × Nat)) : Nat := kv.foldr (fun p m => max (p.2 + 1) m) 0
def kvOk (kv : List (Int × Nat)) : Prop := kv.Pairwise fun p q => p.1 ≠ q.1
theorem kvN_lt : ∀ {kv : List (Int × Nat)} {p : Int × Nat}, p ∈ kv → p.2 < kvN kv
  | q :: kv, p, h => by
    have e : kvN (q :: kv) = max (q.2 + 1) (kvN kv) := rfl
    rcases List.mem_cons.1 h with rfl | h
    · omega
    · have := kvN_lt h; omega
theorem kvN_le {kv : List (Int × Nat)} {N : Nat} (h : ∀ p ∈ kv, p.2 < N) : kvN kv ≤ N := by
  induction kv with
  | nil => exact Nat.zero_le _
  | cons q kv ih =>
    have e : kvN (q :: kv) = max (q.2 + 1) (kvN kv) := rfl
    have h1 := h q (List.mem_cons_self ..)
    have h2 := ih fun p hp => h p (List.mem_cons_of_mem _ hp)
    omega
theorem kvAt_mem {kv : List (Int × Nat)} {n : Int} {i : Nat} (h : kvAt kv n = some i) : (n, i) ∈ kv := by
  unfold kvAt at h
  cases hf : kv.find? fun p => p.1 == n with
  | none => rw [hf] at h; cases h
  | some p =>
    rw [hf] at h
    have h1 := List.find?_some hf
    have h2 := List.mem_of_find?_eq_some hf
    simp at h h1
    subst h; subst h1
    exact h2
theorem kvAt_del (kv : List (Int × Nat)) (n m : Int) : kvAt (kvDel kv n) m = if m = n then none else kvAt kv m := by
  unfold kvAt kvDel
  rw [List.find?_filter]
  by_cases h : m = n
  · rw [if_pos h]
    have : (kv.find? fun a => decide ((a.1 != n) = true ∧ (a.1 == m) = true)) = none := by
      rw [List.find?_eq_none]
      intro p _
      simp
      omega
    rw [this]; rfl
  · rw [if_neg h]
    congr 2
    funext a
    by_cases h2 : a.1 = m
    · simp [h2, h]
    · simp [h2]
theorem kvOk_del {kv : List (Int × Nat)} (h : kvOk kv) (n : Int) : kvOk (kvDel kv n) := List.Pairwise.sublist List.filter_sublist h
theorem kvOk_put {kv : List (Int × Nat)} (h : kvOk kv) (n : Int) (i : Nat) : kvOk (kvPut kv n i) := by
  refine List.pairwise_append.2 ⟨kvOk_del h n, List.pairwise_singleton .., fun p hp q hq => ?_⟩
  simp at hq; subst hq
  have := (List.mem_filter.1 hp).2
  simpa using this
theorem kvAt_put (kv : List (Int × Nat)) (n m : Int) (i : Nat) : kvAt (kvPut kv n i) m = if m = n then some i else kvAt kv m := by
  unfold kvPut
  have e : kvAt (kvDel kv n ++ [(n, i)]) m = (kvAt (kvDel kv n) m).or (kvAt [(n, i)] m) := by
    unfold kvAt
    rw [List.find?_append]
    cases (kvDel kv n).find? fun p => p.1 == m <;> simp
  rw [e, kvAt_del]
  by_cases h : m = n
  · subst h; simp [kvAt]
  · rw [if_neg h, if_neg h]
    have : kvAt [(n, i)] m = none := by simp [kvAt]; omega
    rw [this]; simp
theorem kvDel_len {kv : List (Int × Nat)} (h : kvOk kv) (n : Int) : (kvDel kv n).length + (if (kvAt kv n).isSome then 1 else 0) = kv.length := by
  induction kv with
  | nil => simp [kvDel, kvAt]
  | cons q kv ih =>
    obtain ⟨h1, h2⟩ := List.pairwise_cons.1 h
    have ih := ih h2
    unfold kvDel kvAt at *
    rw [List.filter_cons, List.find?_cons]
    by_cases e : q.1 = n
    · have e1 : (q.1 == n) = true := by simpa using e
      have e2 : (q.1 != n) = false := by simpa using e
      have hno : (kv.find? fun p => p.1 == n) = none := by
        rw [List.find?_eq_none]
        intro p hp
        have := h1 p hp
        simp; omega
      rw [hno] at ih
      rw [e1, e2]
      simp at ih ⊢
      omega
    · have e1 : (q.1 == n) = false := by simpa using e
      have e2 : (q.1 != n) = true := by simpa using e
      rw [e1, e2]
      simp at ih ⊢
      omega
/-- A map value, in a world whose boxes lie at β. -/
def mapM (P : Program) (k : TypeId) (kv : List (Int × Nat)) (w : World) (β : Nat → Nat) (v : Value) : Prop := ∃ g D, v = .map (some g) ∧ w.ownsMap P k ptrEl g kv.length D ∧ Maps.size D = kv.length ∧ (∀ n : Int, has D (.int .i64 n) = (kvAt kv n).isSome) ∧ ∀ n i, kvAt kv n = some i → ∀ z, D.atKey (.int .i64 n) z = .lit (.int .u64 (β i))
theorem mapM_keep {P : Program} {k : TypeId} {kv : List (Int × Nat)} {w w' : World} {β β' : Nat → Nat} {g : Nat} (h : mapM P k kv w β (.map (some g))) (hg : w'.heap[g]? = w.heap[g]?) (hβ : ∀ i, i < kvN kv → β' i = β i) : mapM P k kv w' β' (.map (some g)) := by
  obtain ⟨g', D, hv, h1, h2, h3, h4⟩ := h
  cases hv
  obtain ⟨es, clock, hb, F⟩ := h1
  exact ⟨g, D, rfl, ⟨es, clock, hg.trans hb, F⟩, h2, h3, fun n i hi z => by rw [hβ i (kvN_lt (kvAt_mem hi))]; exact h4 n i hi z⟩
def ptrV (β : Nat → Nat) : Option Nat → Value
  | some i => .pointer (some ⟨β i, 0, none⟩)
  | none => .pointer none
section
variable {P : Program} {k t e : TypeId} {kv : List (Int × Nat)} {w : World} {β : Nat → Nat} {g : Nat}
theorem map_look (h : mapM P k kv w β (.map (some g))) (hk : P.underlying k = some (.int .i64)) (ht : P.underlying t = some (.map k e)) (hz : (zeroValue e).run P w = .ok (.pointer none) w) (n : Int) (hn : -9223372036854775808 ≤ n ∧ n ≤ 9223372036854775807) :
    (Instr.lookup t (.map (some g)) (.int .i64 n) true).run P w = .ok (.tuple #[ptrV β (kvAt kv n), .bool (kvAt kv n).isSome]) w := by
  obtain ⟨g', D, hv, h1, h2, h3, h4⟩ := h
  cases hv
  have hwf : (Lit.int .i64 n).wf = true := by simp [Lit.wf, IntKind.min, IntKind.max, IntKind.signed, IntKind.bits]; omega
  obtain ⟨v, ps, hrun, hR⟩ := h1.look_ok (Maps.int_keyed hk) ht hz (R := ptrEl) (zd := .nil) (zp := []) rfl (Maps.keyOf_int_mk hk hwf)
  rw [h3 n] at hrun
  rw [hrun]
  cases hc : kvAt kv n with
  | none =>
    have : has D (.int .i64 n) = false := by rw [h3 n, hc]; rfl
    rw [Maps.atKey_of_not_has this] at hR
    rw [ptrEl_nil hR]; rfl
  | some i =>
    rw [h4 n i hc] at hR
    rw [ptrEl_lit hR]; rfl
theorem map_len (h : mapM P k kv w β (.map (some g))) (ht : P.underlying t = some (.map k e)) (ty : TypeId) : (Builtin.len_ #[t] ty #[.map (some g)]).run P w = .ok (.int .i64 kv.length) w := by
  obtain ⟨g', D, hv, h1, h2, h3, h4⟩ := h
  cases hv
  rw [h1.len ht ty, h2]
theorem onlyB_turned {w' : World} (h : w.mapTurned w' g) : OnlyB g w w' := by
  obtain ⟨es, clock, es', clock', hb, rfl⟩ := h
  exact ⟨fun b hb' => heap_setBlock_other hb _ hb', by simp [setBlock], rfl, rfl, rfl⟩
theorem own_shrink {n : Nat} {D : DataW Unit} (h : w.ownsMap P k ptrEl g n D) : w.ownsMap P k ptrEl g (Maps.size D) D := by
  obtain ⟨es, clock, hb, F, hs, rfl⟩ := h
  refine ⟨es, clock, hb, F, ?_, rfl⟩
  simp [Maps.size, length_sorted]
theorem map_store (h : mapM P k kv w β (.map (some g))) (hkv : kvOk kv) (hk : P.underlying k = some (.int .i64)) (ht : P.underlying t = some (.map k e)) (hl : kv.length < maxLen) (n : Int) (hn : -9223372036854775808 ≤ n ∧ n ≤ 9223372036854775807) (i : Nat) :
    ∃ w', (Instr.mapUpdate t (.map (some g)) (.int .i64 n) (.pointer (some ⟨β i, 0, none⟩))).run P w = .ok () w' ∧ OnlyB g w w' ∧ mapM P k (kvPut kv n i) w' β (.map (some g)) := by
  obtain ⟨g', D, hv, h1, h2, h3, h4⟩ := h
  cases hv
  have hwf : (Lit.int .i64 n).wf = true := by simp [Lit.wf, IntKind.min, IntKind.max, IntKind.signed, IntKind.bits]; omega
  have K : Keyed P k := Maps.int_keyed hk
  have hT := h1.tidy K
  have hIs := h1.isMap
  obtain ⟨w', hrun, ho, ht'⟩ := h1.store (val := .pointer (some ⟨β i, 0, none⟩)) K ht hl (Maps.keyOf_int_mk hk hwf) rfl
  have hlen : Maps.size (D.put (.int .i64 n) (.lit (.int .u64 (β i)))) = (kvPut kv n i).length := by
    rw [Maps.size_put hT, h3 n, h2]
    have := kvDel_len hkv n
    unfold kvPut
    rw [List.length_append, List.length_singleton]
    cases hc : kvAt kv n <;> simp [hc] at this ⊢ <;> omega
  refine ⟨w', hrun, onlyB_turned ht', g, _, rfl, by rw [← hlen]; exact own_shrink ho, hlen, fun m => ?_, fun m j hm z => ?_⟩
  · rw [kvAt_put]
    by_cases hmn : m = n
    · subst hmn; rw [if_pos rfl, Maps.has_put_same (k := .int .i64 m) hIs (by exact trivial)]; rfl
    · rw [if_neg hmn, Maps.has_put_other (fun e => hmn (by injection e)), h3 m]
  · rw [kvAt_put] at hm
    by_cases hmn : m = n
    · subst hmn
      rw [if_pos rfl] at hm; cases hm
      rw [Maps.atKey_put_same (k := .int .i64 m) hIs (by exact trivial)]
    · rw [if_neg hmn] at hm
      rw [Maps.atKey_put_other (fun e => hmn (by injection e))]
      exact h4 m j hm z
theorem map_drop (h : mapM P k kv w β (.map (some g))) (hkv : kvOk kv) (hk : P.underlying k = some (.int .i64)) (ht : P.underlying t = some (.map k e)) (n : Int) (hn : -9223372036854775808 ≤ n ∧ n ≤ 9223372036854775807) (ty : TypeId) :
    ∃ w', (Builtin.delete_ #[t, k] ty #[.map (some g), .int .i64 n]).run P w = .ok (.tuple #[]) w' ∧ OnlyB g w w' ∧ mapM P k (kvDel kv n) w' β (.map (some g)) := by
  obtain ⟨g', D, hv, h1, h2, h3, h4⟩ := h
  cases hv
  have hwf : (Lit.int .i64 n).wf = true := by simp [Lit.wf, IntKind.min, IntKind.max, IntKind.signed, IntKind.bits]; omega
  have K : Keyed P k := Maps.int_keyed hk
  have hT := h1.tidy K
  obtain ⟨w', hrun, ho, ht'⟩ := h1.drop K ht (Maps.keyOf_int_mk hk hwf) ty
  have hlen : Maps.size (D.del (.int .i64 n)) = (kvDel kv n).length := by
    have e1 := Maps.size_del (k := .int .i64 n) hT
    have e2 := kvDel_len hkv n
    rw [h3 n, h2] at e1
    omega
  refine ⟨w', hrun, onlyB_turned ht', g, _, rfl, by rw [← hlen]; exact own_shrink ho, hlen, fun m => ?_, fun m j hm z => ?_⟩
  · rw [kvAt_del]
    by_cases hmn : m = n
    · subst hmn; rw [if_pos rfl, Maps.has_del_same]; rfl
    · rw [if_neg hmn, Maps.has_del_other (fun e => hmn (by injection e)), h3 m]
  · rw [kvAt_del] at hm
    by_cases hmn : m = n
    · rw [if_pos hmn] at hm; cases hm
    · rw [if_neg hmn] at hm
      rw [Maps.atKey_del_other (fun e => hmn (by injection e))]
      exact h4 m j hm z
end
end Go.Proofs.Ytgofogcfolhonaa

