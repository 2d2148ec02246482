/- Lemmas on memory for the walks of this seat, over any program and any world: what a slice value reads as, and what the builtin append leaves. No condition beyond those written at each lemma. -/
import Derived.WalkKit
import Derived.WalkSpells
import Derived.WalkLawsBesides
import Derived.Deep.AppendSrc
import Derived.Deep.Upon
import Derived.Deep.MidRow
import Derived.Deep.RegionLaw
import Derived.StillTailTactics
import Derived.Lib.Hide
set_option linter.unusedVariables false
namespace Go.Proofs.YtimhofphmgehgaaDoor
open Go Go.RowKit

/-- What a call leaves alone: every block that existed and is not among S. -/
structure Frm (S : Nat → Prop) (w w' : World) : Prop where
  os : w'.os = w.os
  tape : w'.tape = w.tape
  output : w'.output = w.output
  size : w.heap.size ≤ w'.heap.size
  block : ∀ k, k < w.heap.size → ¬ S k → w'.heap[k]? = w.heap[k]?

theorem Frm.refl (S : Nat → Prop) (w : World) : Frm S w w := ⟨rfl, rfl, rfl, Nat.le_refl _, fun _ _ _ => rfl⟩
theorem Frm.trans {S : Nat → Prop} {a b c : World} (h : Frm S a b) (k : Frm S b c) : Frm S a c :=
  ⟨k.os.trans h.os, k.tape.trans h.tape, k.output.trans h.output, Nat.le_trans h.size k.size, fun i hi hs => (k.block i (Nat.lt_of_lt_of_le hi h.size) hs).trans (h.block i hi hs)⟩
theorem Frm.mono {S T : Nat → Prop} {a b : World} (h : Frm S a b) (hs : ∀ k, k < a.heap.size → S k → T k) : Frm T a b :=
  ⟨h.os, h.tape, h.output, h.size, fun k hk hn => h.block k hk (fun s => hn (hs k hk s))⟩
/-- Two steps; what the second may write is new or may be written by the whole. -/
theorem Frm.then {S T U : Nat → Prop} {a b c : World} (h : Frm S a b) (k : Frm T b c) (hs : ∀ i, i < a.heap.size → S i → U i) (ht : ∀ i, i < a.heap.size → T i → U i) : Frm U a c :=
  ⟨k.os.trans h.os, k.tape.trans h.tape, k.output.trans h.output, Nat.le_trans h.size k.size, fun i hi hn => (k.block i (Nat.lt_of_lt_of_le hi h.size) (fun t => hn (ht i hi t))).trans (h.block i hi (fun s => hn (hs i hi s)))⟩
theorem Frm.drew (S : Nat → Prop) (w : World) : Frm S w w.drew := ⟨rfl, rfl, rfl, Nat.le_refl _, fun _ _ _ => rfl⟩
theorem Frm.drewN (S : Nat → Prop) (w : World) (n : Nat) : Frm S w (w.drewN n) := ⟨rfl, rfl, rfl, Nat.le_refl _, fun _ _ _ => rfl⟩
theorem Frm.alloc (S : Nat → Prop) (w : World) (o : Obj) : Frm S w (w.alloc o) := ⟨rfl, rfl, rfl, by simp, fun k hk _ => heap_alloc_old w o hk⟩
theorem Frm.setCell {S : Nat → Prop} (w : World) (a : Addr) (u : Value) (h : S a.block) : Frm S w (w.setCell a u) :=
  ⟨rfl, rfl, rfl, by simp [World.setCell], fun k _ hn => Below.heap_setCell _ _ _ _ (fun e => hn (e ▸ h))⟩
/-- A store into what is new. -/
theorem Frm.setNew {S : Nat → Prop} {w w1 : World} (h : Frm S w w1) {a : Addr} (ha : w.heap.size ≤ a.block) (u : Value) : Frm S w (w1.setCell a u) :=
  ⟨h.os, h.tape, h.output, by have := h.size; simpa [World.setCell] using this, fun k hk hn => (Below.heap_setCell _ _ _ _ (by omega)).trans (h.block k hk hn)⟩
theorem Frm.allocR {S : Nat → Prop} {w w1 : World} (h : Frm S w w1) (o : Obj) : Frm S w (w1.alloc o) := h.trans (Frm.alloc S w1 o)
theorem Frm.drewR {S : Nat → Prop} {w w1 : World} (h : Frm S w w1) : Frm S w w1.drew := h.trans (Frm.drew S w1)
theorem Frm.setIn {S : Nat → Prop} {w w1 : World} (h : Frm S w w1) {a : Addr} (ha : S a.block) (u : Value) : Frm S w (w1.setCell a u) := h.trans (Frm.setCell w1 a u ha)
/-- A step that writes new blocks alone. -/
theorem Frm.fresh {S T : Nat → Prop} {a b c : World} (h : Frm S a b) (k : Frm T b c) (ht : ∀ i, i < a.heap.size → T i → S i) : Frm S a c := h.then k (fun _ _ h => h) ht
theorem Frm.below {B : Nat} {w w' : World} (h : Below B w w') : Frm (fun k => B ≤ k) w w' := ⟨h.os, h.tape, h.output, h.size, fun k _ hn => h.block k (by omega)⟩
theorem Frm.toBelow {S : Nat → Prop} {B : Nat} {w w' : World} (h : Frm S w w') (hB : B ≤ w.heap.size) (hs : ∀ k, k < B → ¬ S k) : Below B w w' :=
  ⟨h.os, h.tape, h.output, h.size, fun k hk => h.block k (Nat.lt_of_lt_of_le hk hB) (hs k hk)⟩
theorem Frm.grown {w w' : World} {row : Option Nat} (h : w.grownBy w' row) : Frm (fun k => row = some k) w w' :=
  ⟨h.os, h.tape, h.output, h.size, fun k hk hn => h.block k hk (fun e => hn e.symm)⟩
theorem Frm.cell {S : Nat → Prop} {w w' : World} (h : Frm S w w') {p : Addr} (hp : p.block < w.heap.size) (hn : ¬ S p.block) : w'.cell? p = w.cell? p := World.cell?_of_block (w := w) (h.block p.block hp hn)
theorem Frm.frozen {S : Nat → Prop} {w w' : World} (h : Frm S w w') {p : Addr} (hp : p.block < w.heap.size) (hn : ¬ S p.block) : w'.frozen? p = w.frozen? p := World.frozen?_of_block (w := w) (h.block p.block hp hn)

/-- THE SLICE VALUE v, of n elements of 'size' cells each, READS AS the cells xs. -/
def RSl (w : World) (size : Nat) (v : Value) (n : Nat) (xs : List Value) : Prop :=
  xs.length = n * size ∧ ∃ ao cap, v = .slice ao n cap ∧ n ≤ cap ∧ cap ≤ maxLen ∧
    (0 < n → ∃ g o, ao = some ⟨g, o, none⟩ ∧ ∀ j, j < n * size → w.cell? ⟨g, o + j, none⟩ = xs[j]?)

/-- .. AND ITS CELLS, UP TO ITS CAPACITY, MAY BE WRITTEN. -/
def OSl (w : World) (size : Nat) (v : Value) (n : Nat) (xs : List Value) : Prop :=
  xs.length = n * size ∧ ((v = .slice none 0 0 ∧ n = 0) ∨
    ∃ g o cap, v = .slice (some ⟨g, o, none⟩) n cap ∧ n ≤ cap ∧ cap ≤ maxLen ∧ g < w.heap.size ∧
      (∀ j, j < n * size → w.cell? ⟨g, o + j, none⟩ = xs[j]?) ∧
      (∀ j, j < cap * size → (w.cell? ⟨g, o + j, none⟩).isSome = true ∧ w.frozen? ⟨g, o + j, none⟩ = false))

theorem OSl.nil (w : World) (size : Nat) : OSl w size (.slice none 0 0) 0 [] := ⟨by simp, .inl ⟨rfl, rfl⟩⟩

theorem OSl.toR {w : World} {size : Nat} {v : Value} {n : Nat} {xs : List Value} (h : OSl w size v n xs) : RSl w size v n xs := by
  obtain ⟨h1, ⟨rfl, rfl⟩ | ⟨g, o, cap, rfl, h2, h3, _, h4, _⟩⟩ := h
  · exact ⟨h1, none, 0, rfl, Nat.le_refl _, Nat.zero_le _, fun h => absurd h (by omega)⟩
  · exact ⟨h1, _, cap, rfl, h2, h3, fun _ => ⟨g, o, rfl, h4⟩⟩

theorem RSl.frame {w w' : World} {size : Nat} {v : Value} {n : Nat} {xs : List Value} (h : RSl w size v n xs) (hb : ∀ g, v.ownBlock = some g → w'.heap[g]? = w.heap[g]?) : RSl w' size v n xs := by
  obtain ⟨h1, ao, cap, rfl, h2, h3, h4⟩ := h
  refine ⟨h1, ao, cap, rfl, h2, h3, fun hn => ?_⟩
  obtain ⟨g, o, rfl, h5⟩ := h4 hn
  exact ⟨g, o, rfl, fun j hj => (World.cell?_of_block (a := ⟨g, o + j, none⟩) (hb g rfl)).trans (h5 j hj)⟩

theorem OSl.frame {w w' : World} {size : Nat} {v : Value} {n : Nat} {xs : List Value} (h : OSl w size v n xs) (hb : ∀ g, v.ownBlock = some g → g < w.heap.size → w'.heap[g]? = w.heap[g]?) : OSl w' size v n xs := by
  obtain ⟨h1, ⟨rfl, rfl⟩ | ⟨g, o, cap, rfl, h2, h3, h6, h4, h5⟩⟩ := h
  · exact ⟨h1, .inl ⟨rfl, rfl⟩⟩
  · have e := hb g rfl h6
    refine ⟨h1, .inr ⟨g, o, cap, rfl, h2, h3, ?_, fun j hj => (World.cell?_of_block (a := ⟨g, o + j, none⟩) e).trans (h4 j hj), fun j hj => ?_⟩⟩
    · have hl := Array.getElem?_eq_getElem h6
      rcases Nat.lt_or_ge g w'.heap.size with h' | h'
      · exact h'
      · rw [Array.getElem?_eq_none h', hl] at e; exact absurd e (by simp)
    · rw [World.cell?_of_block (a := ⟨g, o + j, none⟩) e, World.frozen?_of_block (a := ⟨g, o + j, none⟩) e]
      exact h5 j hj

theorem OSl.alloc {w : World} {size : Nat} {v : Value} {n : Nat} {xs : List Value} (h : OSl w size v n xs) (o : Obj) : OSl (w.alloc o) size v n xs :=
  h.frame fun g _ hg => heap_alloc_old w o hg
theorem OSl.drew {w : World} {size : Nat} {v : Value} {n : Nat} {xs : List Value} (h : OSl w size v n xs) : OSl w.drew size v n xs := h.frame fun _ _ _ => rfl
theorem OSl.frm {S : Nat → Prop} {w w' : World} {size : Nat} {v : Value} {n : Nat} {xs : List Value} (h : OSl w size v n xs) (hf : Frm S w w') (hs : ∀ g, v.ownBlock = some g → ¬ S g) : OSl w' size v n xs :=
  h.frame fun g hg hl => hf.block g hl (hs g hg)
theorem OSl.lt {w : World} {size : Nat} {v : Value} {n : Nat} {xs : List Value} (h : OSl w size v n xs) : ∀ g, v.ownBlock = some g → g < w.heap.size := by
  obtain ⟨h1, ⟨rfl, rfl⟩ | ⟨g, o, cap, rfl, _, _, h6, _⟩⟩ := h
  · intro g hg; simp [Value.ownBlock] at hg
  · intro g' hg; simp [Value.ownBlock] at hg; omega
theorem OSl.shape {w : World} {size : Nat} {v : Value} {n : Nat} {xs : List Value} (h : OSl w size v n xs) : ∃ ao cap, v = .slice ao n cap ∧ n ≤ cap ∧ cap ≤ maxLen := by
  obtain ⟨h1, ⟨rfl, rfl⟩ | ⟨g, o, cap, rfl, h2, h3, _⟩⟩ := h
  · exact ⟨none, 0, rfl, Nat.le_refl _, Nat.zero_le _⟩
  · exact ⟨_, cap, rfl, h2, h3⟩
theorem OSl.shapePos {w : World} {size : Nat} {v : Value} {n : Nat} {xs : List Value} (h : OSl w size v n xs) (hn : 0 < n) : ∃ g o cap, v = .slice (some ⟨g, o, none⟩) n cap ∧ n ≤ cap ∧ cap ≤ maxLen ∧ g < w.heap.size ∧
      (∀ j, j < n * size → w.cell? ⟨g, o + j, none⟩ = xs[j]?) ∧
      (∀ j, j < cap * size → (w.cell? ⟨g, o + j, none⟩).isSome = true ∧ w.frozen? ⟨g, o + j, none⟩ = false) := by
  obtain ⟨h1, ⟨rfl, rfl⟩ | ⟨g, o, cap, rfl, h2, h3, h6, h4, h5⟩⟩ := h
  · omega
  · exact ⟨g, o, cap, rfl, h2, h3, h6, h4, h5⟩

theorem OSl.at {w : World} {size g o n cap : Nat} {xs : List Value} (h : OSl w size (.slice (some ⟨g, o, none⟩) n cap) n xs) : n ≤ cap ∧ cap ≤ maxLen ∧ g < w.heap.size ∧
      (∀ j, j < n * size → w.cell? ⟨g, o + j, none⟩ = xs[j]?) ∧
      (∀ j, j < cap * size → (w.cell? ⟨g, o + j, none⟩).isSome = true ∧ w.frozen? ⟨g, o + j, none⟩ = false) := by
  obtain ⟨h1, ⟨he, _⟩ | ⟨g', o', cap', he, h2, h3, h6, h4, h5⟩⟩ := h
  · cases he
  · injection he with e1 e2 e3
    injection e1 with e1
    injection e1 with e1 e4
    subst e1; subst e4; subst e3
    exact ⟨h2, h3, h6, h4, h5⟩

/-- A NEW ROW, WHOLE: n elements, room for cap. -/
theorem OSl.new (w : World) (cur : Array Value) (e size n cap : Nat) (xs : List Value) (hx : xs.length = n * size) (hn : n ≤ cap) (hm : cap ≤ maxLen) (hs : cur.size = cap * size) (ht : ∀ j, j < n * size → cur[j]? = xs[j]?) :
    OSl (w.alloc (.cells cur e)) size (.slice (some ⟨w.heap.size, 0, none⟩) n cap) n xs := by
  refine ⟨hx, .inr ⟨w.heap.size, 0, cap, rfl, hn, hm, by simp, fun j hj => ?_, fun j hj => ?_⟩⟩
  · rw [Nat.zero_add, World.cell?_alloc_new]; exact ht j hj
  · rw [Nat.zero_add, World.cell?_alloc_new, World.frozen?_alloc_new, Array.getElem?_eq_getElem (by omega)]; exact ⟨rfl, rfl⟩

theorem heap_size_setCells (b : Nat) : ∀ (vs : List Value) (o : Nat) (w : World), (w.setCells b o vs).heap.size = w.heap.size
  | [], _, _ => rfl
  | v :: r, o, w => by rw [World.setCells, heap_size_setCells b r]; simp [World.setCell]
theorem tape_setCells (b : Nat) : ∀ (vs : List Value) (o : Nat) (w : World), (w.setCells b o vs).tape = w.tape
  | [], _, _ => rfl
  | v :: r, o, w => by rw [World.setCells, tape_setCells b r]; rfl
theorem frm_setCells (b : Nat) (o : Nat) (vs : List Value) (w : World) : Frm (fun k => k = b) w (w.setCells b o vs) :=
  ⟨World.os_setCells _ _ _ _, tape_setCells _ _ _ _, World.output_setCells _ _ _ _, by rw [heap_size_setCells]; exact Nat.le_refl _, fun k hk hn => World.heap_setCells_other _ _ _ _ hk hn⟩

/-- append ONTO AN OWNED SLICE, from whatever source. -/
theorem run_append_osl {P : Program} {w : World} {size : Nat} {v : Value} {n : Nat} {xs : List Value} (h : OSl w size v n xs) (t tx ty e : TypeId) (i : TypeInfo) (z : Value) (bytes : Nat)
    (ht : P.underlying t = some (.slice e)) (hi : P.info? e = some i) (hz : i.zero = some z) (hsize : i.size = size) (hby : i.bytes = bytes) (hzs : z.cells.size = size)
    (x : Value) (m : Nat) (news : List Value) (hs : Src P size tx x m news w) (h63 : n + m ≤ maxLen) (hbytes : (n + m) * bytes ≤ 140737488355328) :
    ∃ v' w', (Builtin.append_ #[t, tx] ty #[v, x]).run P w = .ok v' w' ∧ OSl w' size v' (n + m) (xs ++ news) ∧ Frm (fun k => v.ownBlock = some k) w w' ∧
      (v'.ownBlock = v.ownBlock ∨ v'.ownBlock = some w.heap.size) := by
  subst hsize
  subst hby
  have hnl := hs.newsLen
  have hsmall : n + m ≤ 9223372036854775807 := by simp only [maxLen] at h63; omega
  have hlen' : (xs ++ news).length = (n + m) * i.size := by rw [List.length_append, h.1, hnl, Nat.add_mul]
  have grow : ∀ (bs : Option Addr) (sc : Nat), v = .slice bs n sc → sc < n + m → (Builtin.firstCells i.size n (.slice bs n sc)).run P w.drew = .ok xs.toArray w.drew →
      ∃ v' w', (Builtin.append_ #[t, tx] ty #[v, x]).run P w = .ok v' w' ∧ OSl w' i.size v' (n + m) (xs ++ news) ∧ Frm (fun k => v.ownBlock = some k) w w' ∧
      (v'.ownBlock = v.ownBlock ∨ v'.ownBlock = some w.heap.size) := by
    rintro bs sc rfl hg hold
    have hrun := run_append_grow_src (P := P) w t tx ty e i z ht hi hz bs n sc xs hold x m news hs hg (by omega) (growslice_fits hg hbytes)
    have hge := grownCap_ge w (n + m) sc e
    have hcm := grownCap_le_maxLen w (n + m) sc e h63
    refine ⟨_, _, hrun, ?_, ⟨rfl, rfl, rfl, by simp, fun k hk _ => heap_alloc_old w.drew _ hk⟩, .inr rfl⟩
    refine OSl.new w.drew _ e i.size (n + m) _ _ hlen' hge hcm ?_ ?_
    · rw [Array.size_append, List.size_toArray, hlen', size_zeroCells, hzs, ← Nat.add_mul]
      congr 1
      omega
    · intro j hj
      rw [Array.getElem?_append_left (by simp only [List.size_toArray]; omega), List.getElem?_toArray]
  obtain ⟨h1, ⟨rfl, rfl⟩ | ⟨g, o, cap, rfl, h2, h3, h6, h4, h5⟩⟩ := h
  · obtain rfl : xs = [] := List.eq_nil_of_length_eq_zero (by simpa using h1)
    rcases Nat.eq_zero_or_pos m with rfl | hm
    · obtain rfl : news = [] := List.eq_nil_of_length_eq_zero (by simpa using hnl)
      exact ⟨_, _, run_append_nothing (P := P) w t tx ty e i ht hi none 0 0 (Nat.le_refl _) x hs, OSl.nil _ _, Frm.refl _ _, .inl rfl⟩
    · exact grow none 0 rfl (by omega) (run_firstCells_none w.drew i.size 0 0 0)
  · by_cases hfit : n + m ≤ cap
    · have hmul : (n + m) * i.size ≤ cap * i.size := Nat.mul_le_mul_right _ hfit
      rw [Nat.add_mul] at hmul
      have hsome : ∀ j, j < news.length → (w.cell? ⟨g, o + n * i.size + j, none⟩).isSome = true := fun j hj => by
        have := (h5 (n * i.size + j) (by omega)).1; rwa [← Nat.add_assoc] at this
      have hfree : ∀ j, j < news.length → w.frozen? ⟨g, o + n * i.size + j, none⟩ = false := fun j hj => by
        have := (h5 (n * i.size + j) (by omega)).2; rwa [← Nat.add_assoc] at this
      have hrun := run_append_room_src (P := P) w t tx ty e i ht hi g o n cap x m news hs hfit hsome hfree
      refine ⟨_, _, hrun, ⟨hlen', .inr ⟨g, o, cap, rfl, hfit, h3, by rw [heap_size_setCells]; exact h6, fun j hj => ?_, fun j hj => ⟨?_, (World.frozen?_setCells g _ _ _ _).trans (h5 j hj).2⟩⟩⟩,
        (frm_setCells g _ _ w).mono (fun k _ e => by simp [Value.ownBlock, e]), .inl rfl⟩
      · rw [Nat.add_mul] at hj
        by_cases hjo : j < n * i.size
        · rw [World.cell?_setCells_out g _ _ _ _ (fun _ _ => Or.inl (by show o + j < o + n * i.size; omega)), List.getElem?_append_left (by omega)]
          exact h4 j hjo
        · have hlt : j - n * i.size < news.length := by omega
          have := World.cell?_setCells_in g news (o + n * i.size) w hsome (j - n * i.size) hlt
          rw [show o + n * i.size + (j - n * i.size) = o + j by omega] at this
          rw [this, List.getElem?_append_right (by omega), h1, List.getElem?_eq_getElem hlt]
      · by_cases hin : n * i.size ≤ j ∧ j < n * i.size + news.length
        · have := World.cell?_setCells_in g news (o + n * i.size) w hsome (j - n * i.size) (by omega)
          rw [show o + n * i.size + (j - n * i.size) = o + j by omega] at this
          rw [this]; rfl
        · rw [World.cell?_setCells_out g _ _ _ _ (fun _ _ => by show o + j < o + n * i.size ∨ o + n * i.size + news.length ≤ o + j; omega)]
          exact (h5 j hj).1
    · refine grow (some ⟨g, o, none⟩) cap rfl (by omega) ?_
      refine run_firstCells_some w.drew i.size n ⟨g, o, none⟩ n cap xs h1 (fun j u hu => ?_)
      rw [Addr.add_mid]
      have hj : j < n * i.size := by
        have := (List.getElem?_eq_some_iff.1 hu).1
        omega
      exact (h4 j hj).trans hu

/-- A REGION THAT DRAWS: n operations that only read, then a tail in one forced order. -/
theorem region_tail {P : Program} {id : Nat} {Q : Exit → Act → World → Prop} {a : Act} {w : World} {l : List Oper} (n : Nat) (hm : P.follows .mixedOrders = true) (hB : Region.lexTailB .any l.toArray n = true)
    (h : ∀ K : Act → Prop, (∀ a', wpList P l.toArray Q (l.drop n) a' w.drew → K a') → wpStill P l.toArray w.drew K (l.take n) a) : (Code.region id l.toArray true).wp P Q a w :=
  wp_region_still_tail n hm hB (h _ fun _ h => h)

section
variable {P : Program}
/-- .. AT A PLACE OF A LIST OF OPERATIONS. -/
theorem wpList_append_osl {ops : Array Oper} {rest : List Oper} {o : Oper} {a : Act} {Q : Exit → Act → World → Prop} (w : World) (hgd : o.guard = none) (s x : Operand) (t tx : TypeId)
    (ho : o.op = .call { callee := .builtin .append, args := #[s, x], argTypes := #[t, tx] })
    (e : TypeId) (i : TypeInfo) (z : Value) (size bytes : Nat) (ht : P.underlying t = some (.slice e)) (hi : P.info? e = some i) (hz : i.zero = some z) (hsize : i.size = size) (hby : i.bytes = bytes) (hzs : z.cells.size = size)
    (v : Value) (n : Nat) (xs : List Value) (hv : a.eval s = v) (h : OSl w size v n xs)
    (xv : Value) (m : Nat) (news : List Value) (hx : a.eval x = xv) (hs : Src P size tx xv m news w) (h63 : n + m ≤ maxLen) (hbytes : (n + m) * bytes ≤ 140737488355328)
    (hK : ∀ ao cap w', OSl w' size (.slice ao (n + m) cap) (n + m) (xs ++ news) → Frm (fun k => v.ownBlock = some k) w w' → ((Value.slice ao (n + m) cap).ownBlock = v.ownBlock ∨ (Value.slice ao (n + m) cap).ownBlock = some w.heap.size) →
      wpList P ops Q rest (a.put o.dst (.slice ao (n + m) cap)) w') : wpList P ops Q (o :: rest) a w := by
  refine wpList_plain hgd fun K hK' => ?_
  obtain ⟨v', w', hrun, r1, r2, r3⟩ := run_append_osl (P := P) h t tx o.type e i z bytes ht hi hz hsize hby hzs xv m news hs h63 hbytes
  obtain ⟨ao, cap, rfl, _, _⟩ := r1.shape
  unfold Oper.wp
  simp [execOp, ho, resolve, invoke, builtin, hv, hx, hrun, Result.andThen]
  exact hK' _ _ (hK _ _ _ r1 r2 r3)

/-- .. AT A STEP OF A REGION THAT DRAWS. -/
theorem step_append_osl {ops : Array Oper} {o : Oper} {a : Act} {w : World} {K : Act → World → Prop} {Q : Exit → Act → World → Prop} {E : Prop} (hgd : o.guard = none) (s x : Operand) (t tx : TypeId)
    (ho : o.op = .call { callee := .builtin .append, args := #[s, x], argTypes := #[t, tx] })
    (e : TypeId) (i : TypeInfo) (z : Value) (size bytes : Nat) (ht : P.underlying t = some (.slice e)) (hi : P.info? e = some i) (hz : i.zero = some z) (hsize : i.size = size) (hby : i.bytes = bytes) (hzs : z.cells.size = size)
    (v : Value) (n : Nat) (xs : List Value) (hv : a.eval s = v) (h : OSl w size v n xs)
    (xv : Value) (m : Nat) (news : List Value) (hx : a.eval x = xv) (hs : Src P size tx xv m news w) (h63 : n + m ≤ maxLen) (hbytes : (n + m) * bytes ≤ 140737488355328)
    (hK : ∀ ao cap w', OSl w' size (.slice ao (n + m) cap) (n + m) (xs ++ news) → Frm (fun k => v.ownBlock = some k) w w' → ((Value.slice ao (n + m) cap).ownBlock = v.ownBlock ∨ (Value.slice ao (n + m) cap).ownBlock = some w.heap.size) →
      K (a.put o.dst (.slice ao (n + m) cap)) w') :
    if Region.wanted o (yielded ops a.tmps) = true then Oper.wp P o a w K Q else E := by
  have hw : Region.wanted o (yielded ops a.tmps) = true := by simp [Region.wanted, hgd]
  rw [if_pos hw]
  obtain ⟨v', w', hrun, r1, r2, r3⟩ := run_append_osl (P := P) h t tx o.type e i z bytes ht hi hz hsize hby hzs xv m news hs h63 hbytes
  obtain ⟨ao, cap, rfl, _, _⟩ := r1.shape
  unfold Oper.wp
  simp [execOp, ho, resolve, invoke, builtin, hv, hx, hrun, Result.andThen]
  exact hK _ _ _ r1 r2 r3
end
end Go.Proofs.YtimhofphmgehgaaDoor
