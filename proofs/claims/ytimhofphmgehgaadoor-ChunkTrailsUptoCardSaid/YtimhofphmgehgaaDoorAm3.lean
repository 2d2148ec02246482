/- THE ABSTRACT MACHINE's STATE: a box is new, a box is written, a row is grown. For every program. -/
import Derived.Test.YtimhofphmgehgaaDoorAm2
set_option linter.unusedVariables false
set_option linter.unusedSimpArgs false
namespace Go.Proofs.YtimhofphmgehgaaDoor
open Go Go.RowKit

/-- append ONTO AN OWNED SLICE, and where the new slice lies. -/
theorem run_append_am {P : Program} {w : World} {size : Nat} {v : Value} {n : Nat} {xs : List Value} (h : OSl w size v n xs) (t tx ty e : TypeId) (i : TypeInfo) (z : Value) (bytes : Nat)
    (ht : P.underlying t = some (.slice e)) (hi : P.info? e = some i) (hz : i.zero = some z) (hsize : i.size = size) (hby : i.bytes = bytes) (hzs : z.cells.size = size)
    (x : Value) (m : Nat) (news : List Value) (hs : Src P size tx x m news w) (h63 : n + m ≤ maxLen) (hbytes : (n + m) * bytes ≤ 140737488355328) :
    ∃ v' w', (Builtin.append_ #[t, tx] ty #[v, x]).run P w = .ok v' w' ∧ OSl w' size v' (n + m) (xs ++ news) ∧
      ((v' = v ∧ w' = w ∧ news = []) ∨ (∃ g o cap, v = .slice (some ⟨g, o, none⟩) n cap ∧ v' = .slice (some ⟨g, o, none⟩) (n + m) cap ∧ n + m ≤ cap ∧ w' = w.setCells g (o + n * size) news) ∨
        (∃ cap, v' = .slice (some ⟨w.heap.size, 0, none⟩) (n + m) cap ∧ Frm (fun _ => False) w w' ∧ w.heap.size < w'.heap.size)) := by
  subst hsize
  subst hby
  have hnl := hs.newsLen
  have hlen' : (xs ++ news).length = (n + m) * i.size := by rw [List.length_append, h.1, hnl, Nat.add_mul]
  have grow : ∀ (bs : Option Addr) (sc : Nat), v = .slice bs n sc → sc < n + m → (Builtin.firstCells i.size n (.slice bs n sc)).run P w.drew = .ok xs.toArray w.drew →
      ∃ v' w', (Builtin.append_ #[t, tx] ty #[v, x]).run P w = .ok v' w' ∧ OSl w' i.size v' (n + m) (xs ++ news) ∧ (∃ cap, v' = .slice (some ⟨w.heap.size, 0, none⟩) (n + m) cap ∧ Frm (fun _ => False) w w' ∧ w.heap.size < w'.heap.size) := by
    rintro bs sc rfl hg hold
    have hrun := run_append_grow_src (P := P) w t tx ty e i z ht hi hz bs n sc xs hold x m news hs hg (by simp only [maxLen] at h63; omega) (growslice_fits hg hbytes)
    have hge := grownCap_ge w (n + m) sc e
    have hcm := grownCap_le_maxLen w (n + m) sc e h63
    refine ⟨_, _, hrun, ?_, _, rfl, ⟨rfl, rfl, rfl, by simp, fun k hk _ => heap_alloc_old w.drew _ hk⟩, by simp⟩
    refine OSl.new w.drew _ e i.size (n + m) _ _ hlen' hge hcm ?_ ?_
    · rw [Array.size_append, List.size_toArray, hlen', size_zeroCells, hzs, ← Nat.add_mul]
      congr 1
      omega
    · intro j hj
      rw [Array.getElem?_append_left (by simp only [List.size_toArray]; omega), List.getElem?_toArray]
  obtain ⟨h1, ⟨rfl, rfl⟩ | ⟨g, o, cap, rfl, h2, h3, h6, h4, h5⟩⟩ := h
  · obtain rfl : xs = [] := List.eq_nil_of_length_eq_zero (by simpa using h1)
    rcases Nat.eq_zero_or_pos m with rfl | hm
    · obtain rfl : news = [] := List.eq_nil_of_length_eq_zero (by simpa using hnl)
      exact ⟨_, _, run_append_nothing (P := P) w t tx ty e i ht hi none 0 0 (Nat.le_refl _) x hs, OSl.nil _ _, .inl ⟨rfl, rfl, rfl⟩⟩
    · obtain ⟨v', w', r1, r2, r3⟩ := grow none 0 rfl (by omega) (run_firstCells_none w.drew i.size 0 0 0)
      exact ⟨v', w', r1, r2, .inr (.inr r3)⟩
  · by_cases hfit : n + m ≤ cap
    · have hmul : (n + m) * i.size ≤ cap * i.size := Nat.mul_le_mul_right _ hfit
      rw [Nat.add_mul] at hmul
      have hsome : ∀ j, j < news.length → (w.cell? ⟨g, o + n * i.size + j, none⟩).isSome = true := fun j hj => by
        have := (h5 (n * i.size + j) (by omega)).1; rwa [← Nat.add_assoc] at this
      have hfree : ∀ j, j < news.length → w.frozen? ⟨g, o + n * i.size + j, none⟩ = false := fun j hj => by
        have := (h5 (n * i.size + j) (by omega)).2; rwa [← Nat.add_assoc] at this
      have hrun := run_append_room_src (P := P) w t tx ty e i ht hi g o n cap x m news hs hfit hsome hfree
      refine ⟨_, _, hrun, ⟨hlen', .inr ⟨g, o, cap, rfl, hfit, h3, by rw [heap_size_setCells]; exact h6, fun j hj => ?_, fun j hj => ⟨?_, (World.frozen?_setCells g _ _ _ _).trans (h5 j hj).2⟩⟩⟩,
        .inr (.inl ⟨g, o, cap, rfl, rfl, hfit, rfl⟩)⟩
      · rw [Nat.add_mul] at hj
        by_cases hjo : j < n * i.size
        · rw [World.cell?_setCells_out g _ _ _ _ (fun _ _ => Or.inl (by show o + j < o + n * i.size; omega)), List.getElem?_append_left (by omega)]
          exact h4 j hjo
        · have hlt : j - n * i.size < news.length := by omega
          have := World.cell?_setCells_in g news (o + n * i.size) w hsome (j - n * i.size) hlt
          rw [show o + n * i.size + (j - n * i.size) = o + j by omega] at this
          rw [this, List.getElem?_append_right (by omega), h1, List.getElem?_eq_getElem hlt]
      · by_cases hin : n * i.size ≤ j ∧ j < n * i.size + news.length
        · have := World.cell?_setCells_in g news (o + n * i.size) w hsome (j - n * i.size) (by omega)
          rw [show o + n * i.size + (j - n * i.size) = o + j by omega] at this
          rw [this]; rfl
        · rw [World.cell?_setCells_out g _ _ _ _ (fun _ _ => by show o + j < o + n * i.size ∨ o + n * i.size + news.length ≤ o + j; omega)]
          exact (h5 j hj).1
    · obtain ⟨v', w', r1, r2, r3⟩ := grow (some ⟨g, o, none⟩) cap rfl (by omega) (by
        refine run_firstCells_some w.drew i.size n ⟨g, o, none⟩ n cap xs h1 (fun j u hu => ?_)
        rw [Addr.add_mid]
        have hj : j < n * i.size := by
          have := (List.getElem?_eq_some_iff.1 hu).1
          omega
        exact (h4 j hj).trans hu)
      exact ⟨v', w', r1, r2, .inr (.inr r3)⟩

/-- l with cs written over it from o on. -/
def setR {α : Type} (l : List α) (o : Nat) (cs : List α) : List α := l.take o ++ cs ++ l.drop (o + cs.length)
theorem setR_length {α : Type} (l : List α) (o : Nat) (cs : List α) (h : o + cs.length ≤ l.length) : (setR l o cs).length = l.length := by simp [setR]; omega
theorem setR_at {α : Type} (l : List α) (o : Nat) (cs : List α) (h : o + cs.length ≤ l.length) (j : Nat) : (setR l o cs)[j]? = if o ≤ j ∧ j < o + cs.length then cs[j - o]? else l[j]? := by
  unfold setR
  have h1 : (l.take o).length = o := by rw [List.length_take]; omega
  by_cases h2 : j < o
  · rw [if_neg (by omega), List.append_assoc, List.getElem?_append_left (by omega), List.getElem?_take_of_lt h2]
  · by_cases h3 : j < o + cs.length
    · rw [if_pos ⟨by omega, h3⟩, List.append_assoc, List.getElem?_append_right (by omega), h1, List.getElem?_append_left (by omega)]
    · rw [if_neg (by omega), List.getElem?_append_right (by rw [List.length_append, h1]; omega), List.length_append, h1, List.getElem?_drop]
      congr 1; omega
theorem setR_mem {α : Type} {l : List α} {o : Nat} {cs : List α} {x : α} (h : x ∈ setR l o cs) : x ∈ l ∨ x ∈ cs := by
  unfold setR at h
  rcases List.mem_append.1 h with h | h
  · rcases List.mem_append.1 h with h | h
    · exact .inl (List.mem_of_mem_take h)
    · exact .inr h
  · exact .inl (List.mem_of_mem_drop h)

theorem blk_lt1 {w : World} {b T : Nat} {c : Array Value} {fr : Nat × Nat} (h : w.heap[b]? = some (.cells c T fr)) : b < w.heap.size := by
  rcases Nat.lt_or_ge b w.heap.size with h' | h'
  · exact h'
  · rw [Array.getElem?_eq_none h'] at h; cases h
theorem blk_set1 {w : World} {b T : Nat} {c : Array Value} {fr : Nat × Nat} (h : w.heap[b]? = some (.cells c T fr)) (i : Nat) (x : Value) : (w.setCell ⟨b, i, none⟩ x).heap[b]? = some (.cells (c.setIfInBounds i x) T fr) := by
  have hlt := blk_lt1 h
  have h' : w.heap[b] = .cells c T fr := by simpa [Array.getElem?_eq_getElem hlt] using h
  show (w.heap.modify b _)[b]? = _
  rw [Array.getElem?_eq_getElem (by simpa using hlt), Array.getElem_modify_self, h']
  rfl
theorem blk_setCells {b T : Nat} {fr : Nat × Nat} : ∀ (vs : List Value) (o : Nat) (w : World) (c : Array Value), w.heap[b]? = some (.cells c T fr) → ∃ c', (w.setCells b o vs).heap[b]? = some (.cells c' T fr) ∧ c'.size = c.size
  | [], _, w, c, h => ⟨c, h, rfl⟩
  | v :: r, o, w, c, h => by
    obtain ⟨c', h1, h2⟩ := blk_setCells r (o + 1) (w.setCell ⟨b, o, none⟩ v) _ (blk_set1 h o v)
    exact ⟨c', h1, by simpa using h2⟩
theorem cell_blk {w : World} {b T : Nat} {c : Array Value} {fr : Nat × Nat} (h : w.heap[b]? = some (.cells c T fr)) (j : Nat) : w.cell? ⟨b, j, none⟩ = c[j]? := by simp [World.cell?, h]
theorem free_blk {w : World} {b T : Nat} {c : Array Value} (h : w.heap[b]? = some (.cells c T (0, 0))) (j : Nat) : w.frozen? ⟨b, j, none⟩ = false := by simp [World.frozen?, h]

section
variable {E : Env} {W : World} {F : Nat → Prop} {Rd0 : Nat → Nat → Prop} {w w' : World} {β β' : Nat → Nat} {Rd Rd' : Nat → Nat → Prop} {Ow Ow' : Nat → Option Hold} {fr : List AV} {H : Hp} {tmps : Array Value}

def bup (β : Nat → Nat) (n b : Nat) : Nat → Nat := fun i => if i = n then b else β i
theorem bup_old {β : Nat → Nat} {n b i : Nat} (h : i < n) : bup β n b i = β i := by simp [bup]; intro h'; omega
theorem bup_new (β : Nat → Nat) (n b : Nat) : bup β n b n = b := by simp [bup]

/-- A BOX IS NEW. -/
theorem S3.newBox (h : S3 E W F Rd0 w β Rd Ow fr H tmps) (l : List AV) (cs : Array Value) (T : TypeId) (hl : cs.size = l.length)
    (hc : ∀ (j : Nat) x u, l[j]? = some x → cs[j]? = some u → Rel w β Rd x u ∧ x.one = true ∧ Bnd H.length x ∧ ∀ g, own0 x u = some g → Ow g = some (.cell H.length j)) (hn : ∀ k, Ow w.heap.size ≠ some k) :
    S3 E W F Rd0 (w.alloc (.cells cs T)) (bup β H.length w.heap.size) Rd Ow fr (H ++ [l]) tmps := by
  have hR : ∀ g o, Rd g o → Rd g o ∧ (w.alloc (.cells cs T)).cell? ⟨g, o, none⟩ = w.cell? ⟨g, o, none⟩ := fun g o hg => ⟨hg, World.cell?_of_block (a := ⟨g, o, none⟩) (heap_alloc_old w _ (h.hr.rds g o hg))⟩
  have hO : ∀ b, b < w.heap.size → (w.alloc (.cells cs T)).heap[b]? = w.heap[b]? ∧ ∀ o, Rd b o → Rd b o := fun b hb => ⟨heap_alloc_old w _ hb, fun _ h => h⟩
  have hsz : (w.alloc (.cells cs T)).heap.size = w.heap.size + 1 := by simp
  have hβ : ∀ i, i < H.length → bup β H.length w.heap.size i = β i := fun i hi => bup_old hi
  have hβlt : ∀ i, i < H.length → β i < w.heap.size := fun i hi => by
    obtain ⟨T, cs, h1, _⟩ := h.hr.box i _ (List.getElem?_eq_getElem hi)
    exact blk_lt1 h1
  have hlen : (H ++ [l]).length = H.length + 1 := by simp
  refine ⟨⟨fun i l' hl' => ?_, fun i j hi hj he => ?_, fun i hi => ?_, fun g k hg => by rw [hsz]; exact Nat.lt_succ_of_lt (h.hr.ows g k hg), fun g o ho => by rw [hsz]; exact Nat.lt_succ_of_lt (h.hr.rds g o ho), fun l' hl' x hx => ?_, fun b hb => ?_⟩,
    ⟨h.ff.len, fun t x u hx hu => ?_⟩, ⟨h.fo.lt, fun b hb => ?_, h.fo.own, fun b i hb hi => ?_, h.fo.rd, h.fo.os, h.fo.tape, h.fo.output, by rw [hsz]; exact Nat.le_succ_of_le h.fo.size, fun g o ho => ?_⟩, h.ne⟩
  · by_cases hi : i < H.length
    · rw [List.getElem?_append_left hi] at hl'
      obtain ⟨T', cs', h1, h2, h3⟩ := h.hr.box i l' hl'
      refine ⟨T', cs', by rw [hβ i hi]; exact (hO _ (blk_lt1 h1)).1.trans h1, h2, fun j x u hx hu => ?_⟩
      obtain ⟨r1, r2, r3⟩ := h3 j x u hx hu
      exact ⟨r1.move (h.hr.bnd l' (mem_at hl') x (mem_at hx)) hR (fun g hg => hO g (h.hr.ows g _ (r3 g hg))) (by rw [hsz]; omega) hβ, r2, r3⟩
    · rw [List.getElem?_append_right (by omega)] at hl'
      have hi' : i = H.length := by have := (List.getElem?_eq_some_iff.1 hl').1; simp at this; omega
      subst hi'
      rw [Nat.sub_self] at hl'
      simp at hl'
      subst hl'
      refine ⟨T, cs, by rw [bup_new]; exact heap_alloc_new w _, hl, fun j x u hx hu => ?_⟩
      obtain ⟨r1, r2, r3, r4⟩ := hc j x u hx hu
      exact ⟨r1.move r3 hR (fun g hg => hO g (h.hr.ows g _ (r4 g hg))) (by rw [hsz]; omega) hβ, r2, r4⟩
  · rw [hlen] at hi hj
    by_cases h1 : i < H.length <;> by_cases h2 : j < H.length
    · rw [hβ i h1, hβ j h2] at he; exact h.hr.inj i j h1 h2 he
    · obtain rfl : j = H.length := by omega
      rw [hβ i h1, bup_new] at he
      have := hβlt i h1; omega
    · obtain rfl : i = H.length := by omega
      rw [hβ j h2, bup_new] at he
      have := hβlt j h2; omega
    · omega
  · rw [hlen] at hi
    by_cases h1 : i < H.length
    · rw [hβ i h1]; exact h.hr.sep i h1
    · obtain rfl : i = H.length := by omega
      rw [bup_new]
      refine ⟨?_, fun o ho => by have := h.hr.rds _ o ho; omega⟩
      cases hk : Ow w.heap.size with
      | none => rfl
      | some k => exact absurd hk (hn k)
  · rw [hlen]
    rcases List.mem_append.1 hl' with h1 | h1
    · exact (h.hr.bnd l' h1 x hx).mono (by omega)
    · simp at h1; subst h1
      obtain ⟨j, hj⟩ := List.getElem?_of_mem hx
      have hj' : j < cs.size := by have := (List.getElem?_eq_some_iff.1 hj).1; omega
      exact (hc j x _ hj (Array.getElem?_eq_getElem hj')).2.2.1.mono (by omega)
  · obtain ⟨f1, f2, f3, f4⟩ := h.hr.fix b hb
    refine ⟨(hO b f4).1.trans f1, f2, fun i hi => ?_, by rw [hsz]; omega⟩
    rw [hlen] at hi
    by_cases h1 : i < H.length
    · rw [hβ i h1]; exact f3 i h1
    · obtain rfl : i = H.length := by omega
      rw [bup_new]; omega
  · obtain ⟨r1, r2, r3⟩ := h.ff.rel t x u hx hu
    exact ⟨r1.move r2 hR (fun g hg => hO g (h.hr.ows g _ (r3 g hg))) (by rw [hsz]; omega) hβ, r2.mono (by rw [hlen]; omega), r3⟩
  · exact (hO b (Nat.lt_of_lt_of_le (h.fo.lt b hb) h.fo.size)).1.trans (h.fo.same b hb)
  · rw [hlen] at hi
    by_cases h1 : i < H.length
    · rw [hβ i h1]; exact h.fo.box b i hb h1
    · obtain rfl : i = H.length := by omega
      rw [bup_new]
      have := h.fo.lt b hb; have := h.fo.size; omega
  · obtain ⟨k1, k2⟩ := h.fo.keep g o ho
    exact ⟨k1, (hR g o k1).2.trans k2⟩

/-- A BOX IS WRITTEN, from its cell o on. -/
theorem S3.store (h : S3 E W F Rd0 w β Rd Ow fr H tmps) (i : Nat) (l : List AV) (hl : H[i]? = some l) (o : Nat) (cs : List AV) (us : List Value) (hus : us.length = cs.length) (ho : o + cs.length ≤ l.length)
    (hc : ∀ (j : Nat) x u, cs[j]? = some x → us[j]? = some u → Rel w β Rd x u ∧ x.one = true ∧ Bnd H.length x ∧ ∀ g, own0 x u = some g → Ow g = some (.cell i (o + j))) :
    S3 E W F Rd0 (w.setCells (β i) o us) β Rd Ow fr (H.set i (setR l o cs)) tmps := by
  have hi : i < H.length := (List.getElem?_eq_some_iff.1 hl).1
  obtain ⟨T, c, h1, h2, h3⟩ := h.hr.box i l hl
  have hsep := h.hr.sep i hi
  have hother : ∀ b, b ≠ β i → (w.setCells (β i) o us).heap[b]? = w.heap[b]? := fun b hb => by
    by_cases hlt : b < w.heap.size
    · exact World.heap_setCells_other _ _ _ _ hlt hb
    · rw [Array.getElem?_eq_none (by rw [heap_size_setCells]; omega), Array.getElem?_eq_none (by omega)]
  have hsz : (w.setCells (β i) o us).heap.size = w.heap.size := heap_size_setCells _ _ _ _
  have hR : ∀ g o', Rd g o' → Rd g o' ∧ (w.setCells (β i) o us).cell? ⟨g, o', none⟩ = w.cell? ⟨g, o', none⟩ := fun g o' hg =>
    ⟨hg, World.cell?_of_block (a := ⟨g, o', none⟩) (hother g (fun e => hsep.2 o' (e ▸ hg)))⟩
  have hO : ∀ g k, Ow g = some k → (w.setCells (β i) o us).heap[g]? = w.heap[g]? ∧ ∀ o, Rd g o → Rd g o := fun g k hg =>
    ⟨hother g (fun e => by rw [e, hsep.1] at hg; cases hg), fun _ h => h⟩
  have hlen : (H.set i (setR l o cs)).length = H.length := by simp
  obtain ⟨c', k1, k2⟩ := blk_setCells us o w c h1
  refine ⟨⟨fun i' l' hl' => ?_, fun a b ha hb he => h.hr.inj a b (by rwa [hlen] at ha) (by rwa [hlen] at hb) he, fun a ha => h.hr.sep a (by rwa [hlen] at ha), fun g k hg => by rw [hsz]; exact h.hr.ows g k hg, fun g o' ho' => by rw [hsz]; exact h.hr.rds g o' ho', fun l' hl' x hx => ?_, fun b hb => ?_⟩,
    ⟨h.ff.len, fun t x u hx hu => ?_⟩, ⟨h.fo.lt, fun b hb => ?_, h.fo.own, fun b a hb ha => h.fo.box b a hb (by rwa [hlen] at ha), h.fo.rd, (World.os_setCells _ _ _ _).trans h.fo.os, (tape_setCells _ _ _ _).trans h.fo.tape, (World.output_setCells _ _ _ _).trans h.fo.output, by rw [hsz]; exact h.fo.size, fun g o' ho' => ?_⟩, h.ne⟩
  · by_cases hii : i = i'
    · subst hii
      rw [List.getElem?_set_self hi] at hl'
      cases hl'
      refine ⟨T, c', k1, by rw [k2, h2, setR_length _ _ _ ho], fun j x u hx hu => ?_⟩
      have hcell : (w.setCells (β i) o us).cell? ⟨β i, j, none⟩ = some u := (cell_blk k1 j).trans hu
      rw [setR_at _ _ _ ho] at hx
      split at hx
      · rename_i hj
        have hsome : ∀ j, j < us.length → (w.cell? ⟨β i, o + j, none⟩).isSome = true := fun j hj => by
          rw [cell_blk h1, Array.getElem?_eq_getElem (by omega)]; rfl
        have := World.cell?_setCells_in (β i) us o w hsome (j - o) (by omega)
        rw [show o + (j - o) = j by omega, hcell] at this
        have hu' : us[j - o]? = some u := by rw [List.getElem?_eq_getElem (by omega)]; exact this.symm
        obtain ⟨r1, r2, r3, r4⟩ := hc (j - o) x u hx hu'
        rw [show o + (j - o) = j by omega] at r4
        exact ⟨r1.move r3 hR (fun g hg => hO g _ (r4 g hg)) (by rw [hsz]; omega) (fun _ _ => rfl), r2, r4⟩
      · rename_i hj
        have : (w.setCells (β i) o us).cell? ⟨β i, j, none⟩ = w.cell? ⟨β i, j, none⟩ := World.cell?_setCells_out (β i) us o w _ (fun _ _ => by show j < o ∨ o + us.length ≤ j; omega)
        rw [hcell, cell_blk h1] at this
        obtain ⟨r1, r2, r3⟩ := h3 j x u hx this.symm
        exact ⟨r1.move (h.hr.bnd l (mem_at hl) x (mem_at hx)) hR (fun g hg => hO g _ (r3 g hg)) (by rw [hsz]; omega) (fun _ _ => rfl), r2, r3⟩
    · rw [List.getElem?_set_ne hii] at hl'
      obtain ⟨T', cs', g1, g2, g3⟩ := h.hr.box i' l' hl'
      have hi' : i' < H.length := (List.getElem?_eq_some_iff.1 hl').1
      refine ⟨T', cs', (hother _ (fun e => hii (h.hr.inj i i' hi hi' e.symm))).trans g1, g2, fun j x u hx hu => ?_⟩
      obtain ⟨r1, r2, r3⟩ := g3 j x u hx hu
      exact ⟨r1.move (h.hr.bnd l' (mem_at hl') x (mem_at hx)) hR (fun g hg => hO g _ (r3 g hg)) (by rw [hsz]; omega) (fun _ _ => rfl), r2, r3⟩
  · rw [hlen]
    rcases List.mem_or_eq_of_mem_set hl' with h4 | h4
    · exact h.hr.bnd l' h4 x hx
    · subst h4
      rcases setR_mem hx with h5 | h5
      · exact h.hr.bnd l (mem_at hl) x h5
      · obtain ⟨j, hj⟩ := List.getElem?_of_mem h5
        have hj' : j < us.length := by have := (List.getElem?_eq_some_iff.1 hj).1; omega
        exact (hc j x _ hj (List.getElem?_eq_getElem hj')).2.2.1
  · obtain ⟨f1, f2, f3, f4⟩ := h.hr.fix b hb
    exact ⟨(hother b (fun e => f3 i hi e.symm)).trans f1, f2, fun a ha => f3 a (by rwa [hlen] at ha), by rw [hsz]; exact f4⟩
  · obtain ⟨r1, r2, r3⟩ := h.ff.rel t x u hx hu
    exact ⟨r1.move r2 hR (fun g hg => hO g _ (r3 g hg)) (by rw [hsz]; omega) (fun _ _ => rfl), by rw [hlen]; exact r2, r3⟩
  · exact (hother b (fun e => h.fo.box b i hb hi e.symm)).trans (h.fo.same b hb)
  · obtain ⟨g1, g2⟩ := h.fo.keep g o' ho'
    exact ⟨g1, (hR g o' g1).2.trans g2⟩
end
end Go.Proofs.YtimhofphmgehgaaDoor
