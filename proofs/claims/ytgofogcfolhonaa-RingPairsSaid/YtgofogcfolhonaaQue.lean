/- The calls on a queue: what each does to the world, for pairs, texts and ints. -/
import Derived.Test.YtgofogcfolhonaaProg
import Derived.Test.YtgofogcfolhonaaMem
import Derived.Test.YtgofogcfolhonaaText3
import Derived.KernelRfl
set_option linter.unusedVariables false
set_option linter.unusedSimpArgs false
namespace Go.Proofs.Ytgofogcfolhonaa
open Go Go.RowKit

/-- A QUEUE: block b holds its capacity m and its list v, which owns the n elements xs. -/
def QAt (w : World) (b T size : Nat) (m : Int) (v : Value) (n : Nat) (xs : List Value) : Prop :=
  w.heap[b]? = some (.cells #[.int .i64 m, v] T (0, 0)) ∧ OSl w size v n xs ∧ v.ownBlock ≠ some b

theorem two_cell0 {w : World} {b T : Nat} {u v : Value} (h : w.heap[b]? = some (.cells #[u, v] T (0, 0))) : w.cell? ⟨b, 0, none⟩ = some u := by simp [World.cell?, h]
theorem two_cell1 {w : World} {b T : Nat} {u v : Value} (h : w.heap[b]? = some (.cells #[u, v] T (0, 0))) : w.cell? ⟨b, 1, none⟩ = some v := by simp [World.cell?, h]
theorem two_free {w : World} {b T : Nat} {u v : Value} (h : w.heap[b]? = some (.cells #[u, v] T (0, 0))) (o : Nat) : w.frozen? ⟨b, o, none⟩ = false := by simp [World.frozen?, h]
theorem two_set1 {w : World} {b T : Nat} {u v x : Value} (h : w.heap[b]? = some (.cells #[u, v] T (0, 0))) : (w.setCell ⟨b, 1, none⟩ x).heap[b]? = some (.cells #[u, x] T (0, 0)) := by
  have hlt := lt_of_block h
  have h' : w.heap[b] = .cells #[u, v] T (0, 0) := by simpa [Array.getElem?_eq_getElem hlt] using h
  show (w.heap.modify b _)[b]? = _
  rw [Array.getElem?_eq_getElem (by simpa using hlt), Array.getElem_modify_self, h']
  rfl

theorem QAt.alloc {w : World} {b T size : Nat} {m : Int} {v : Value} {n : Nat} {xs : List Value} (h : QAt w b T size m v n xs) (o : Obj) : QAt (w.alloc o) b T size m v n xs :=
  ⟨(heap_alloc_old w o (lt_of_block h.1)).trans h.1, h.2.1.alloc o, h.2.2⟩
theorem QAt.drew {w : World} {b T size : Nat} {m : Int} {v : Value} {n : Nat} {xs : List Value} (h : QAt w b T size m v n xs) : QAt w.drew b T size m v n xs := ⟨h.1, h.2.1.drew, h.2.2⟩
theorem QAt.frm {S : Nat → Prop} {w w' : World} {b T size : Nat} {m : Int} {v : Value} {n : Nat} {xs : List Value} (h : QAt w b T size m v n xs) (hf : Frm S w w') (h1 : ¬ S b) (h2 : ∀ g, v.ownBlock = some g → ¬ S g) : QAt w' b T size m v n xs :=
  ⟨(hf.block b (lt_of_block h.1) h1).trans h.1, h.2.1.frm hf h2, h.2.2⟩
theorem QAt.same {w w' : World} {b T size : Nat} {m : Int} {v : Value} {n : Nat} {xs : List Value} (h : QAt w b T size m v n xs) (hf : Frm (fun _ => False) w w') : QAt w' b T size m v n xs := h.frm hf (fun h => h) (fun _ _ h => h)

/-- What a call that changes a queue leaves. -/
def QNext (w : World) (b T size : Nat) (m : Int) (v : Value) (n : Nat) (xs : List Value) (w' : World) : Prop :=
  ∃ v', QAt w' b T size m v' n xs ∧ Frm (fun k => k = b ∨ v.ownBlock = some k) w w' ∧ ∀ g, v'.ownBlock = some g → v.ownBlock = some g ∨ w.heap.size ≤ g

theorem QAt.set {w1 : World} {b T size : Nat} {m : Int} {v v' : Value} {n' : Nat} {xs' : List Value} (hW : w1.heap[b]? = some (.cells #[.int .i64 m, v] T (0, 0))) (hs : OSl w1 size v' n' xs') (hne : v'.ownBlock ≠ some b) :
    QAt (w1.setCell ⟨b, 1, none⟩ v') b T size m v' n' xs' :=
  ⟨two_set1 hW, hs.frame fun g hg _ => Below.heap_setCell _ _ _ _ (fun e => hne (by rw [hg, e])), hne⟩

/-- The end of a call that stores a list: w0: the world ahead of the append, in which nothing old has turned. -/
theorem QNext.store {w w0 w1 : World} {b T size : Nat} {m : Int} {v v' : Value} {n n' : Nat} {xs xs' : List Value} (h : QAt w b T size m v n xs) (h0 : Frm (fun _ => False) w w0)
    (hW : w1.heap[b]? = some (.cells #[.int .i64 m, v] T (0, 0))) (hs : OSl w1 size v' n' xs') (hf : Frm (fun k => v.ownBlock = some k) w0 w1)
    {H : Nat} (hv : v'.ownBlock = v.ownBlock ∨ v'.ownBlock = some H) (hH : w0.heap.size = H) : QNext w b T size m v n' xs' (w1.setCell ⟨b, 1, none⟩ v') := by
  have hlt := lt_of_block h.1
  have hsz := h0.size
  rw [hH] at hsz
  have hne : v'.ownBlock ≠ some b := by
    rcases hv with e | e
    · rw [e]; exact h.2.2
    · rw [e]; intro h; have := Option.some.inj h; omega
  refine ⟨v', QAt.set hW hs hne, ?_, fun g hg => ?_⟩
  · exact ((h0.mono (T := fun k => k = b ∨ v.ownBlock = some k) (fun _ _ h => h.elim)).then hf (fun _ _ h => h) (fun _ _ h => .inr h)).then (Frm.setCell (S := fun k => k = b) w1 ⟨b, 1, none⟩ v' rfl) (fun _ _ h => h) (fun _ _ h => .inl h)
  · rcases hv with e | e
    · left; rw [← e]; exact hg
    · right; rw [e] at hg; have := Option.some.inj hg; omega

/-- The first element goes: what is left, in a world in which the later cells are as they were. -/
theorem OSl.tail {w w' : World} {size g o n cap : Nat} {ys xs : List Value} (h : OSl w size (.slice (some ⟨g, o, none⟩) (n + 1) cap) (n + 1) (ys ++ xs)) (hy : ys.length = size) (hsz : w.heap.size ≤ w'.heap.size)
    (hc : ∀ j, size ≤ j → w'.cell? ⟨g, o + j, none⟩ = w.cell? ⟨g, o + j, none⟩) (hz : ∀ j, size ≤ j → w'.frozen? ⟨g, o + j, none⟩ = w.frozen? ⟨g, o + j, none⟩) :
    OSl w' size (.slice (some (if cap = 1 then ⟨g, o, none⟩ else ⟨g, o + size, none⟩)) n (cap - 1)) n xs := by
  obtain ⟨h1, ⟨he, _⟩ | ⟨g', o', cap', he, h2, h3, h6, h4, h5⟩⟩ := h
  · cases he
  · injection he with e1 e2 e3
    injection e1 with e1
    injection e1 with e1 e4
    subst e1; subst e4; subst e3
    have hl : xs.length = n * size := by
      rw [List.length_append, hy, Nat.add_mul] at h1; omega
    by_cases hcap : cap = 1
    · subst hcap
      obtain rfl : n = 0 := by omega
      rw [if_pos rfl]
      exact ⟨hl, .inr ⟨g, o, 0, rfl, Nat.le_refl _, Nat.zero_le _, by omega, fun j hj => by omega, fun j hj => by omega⟩⟩
    · rw [if_neg hcap]
      refine ⟨hl, .inr ⟨g, o + size, cap - 1, rfl, by omega, by omega, by omega, fun j hj => ?_, fun j hj => ?_⟩⟩
      · rw [Nat.add_assoc, hc _ (by omega)]
        rw [h4 (size + j) (by rw [Nat.add_mul]; omega), List.getElem?_append_right (by omega), hy]
        congr 1; omega
      · have hm : (cap - 1) * size + size = cap * size := by
          rw [← Nat.succ_mul]; congr 1; omega
        rw [Nat.add_assoc, hc _ (by omega), hz _ (by omega)]
        exact h5 _ (by omega)

/-- .. of the queue. -/
theorem QAt.pop {w w2 : World} {b T size : Nat} {m : Int} {g o n c : Nat} {ys xs : List Value} (h : QAt w b T size m (.slice (some ⟨g, o, none⟩) (n + 1) c) (n + 1) (ys ++ xs)) (hy : ys.length = size) (hw : Frm (fun k => k = g) w w2)
    (hc : ∀ j, size ≤ j → w2.cell? ⟨g, o + j, none⟩ = w.cell? ⟨g, o + j, none⟩) (hz : ∀ j, size ≤ j → w2.frozen? ⟨g, o + j, none⟩ = w.frozen? ⟨g, o + j, none⟩) :
    QAt (w2.setCell ⟨b, 1, none⟩ (.slice (some (if c = 1 then ⟨g, o, none⟩ else ⟨g, o + size, none⟩)) n (c - 1))) b T size m (.slice (some (if c = 1 then ⟨g, o, none⟩ else ⟨g, o + size, none⟩)) n (c - 1)) n xs := by
  have hgb : ¬ b = g := fun e => h.2.2 (by rw [e]; rfl)
  refine QAt.set ((hw.block b (lt_of_block h.1) hgb).trans h.1) (h.2.1.tail hy hw.size hc hz) ?_
  split <;> exact h.2.2
theorem own_pop {g o size n c k : Nat} (h : (Value.slice (some (if c = 1 then ⟨g, o, none⟩ else ⟨g, o + size, none⟩)) n (c - 1)).ownBlock = some k) : k = g := by
  split at h <;> exact (Option.some.inj h).symm
theorem frozen_setCell' (w : World) (a x : Addr) (u : Value) : (w.setCell a u).frozen? x = w.frozen? x := World.frozen?_setCell ..

/-! ELEMENTS: turnpike/turnpikelaw02.Pair -/
theorem Try.info30 : (Try.prog.info? 30).map (fun i => (i.zero, i.size, i.bytes)) = some (some (.agg #[.int .i64 0, .string ⟨#[]⟩]), 2, 24) := by kernel_rfl

set_option maxHeartbeats 400000 in
theorem pair_len {w : World} {b T size : Nat} {m : Int} {v : Value} {n : Nat} {xs : List Value} (h : QAt w b T size m v n xs) :
    Calls Try.prog 18 #[.pointer (some ⟨b, 0, none⟩)] w fun e w' => e = .returned (.int .i64 n) ∧ w = w' := by
  obtain ⟨ao, c, rfl, _, _⟩ := h.2.1.shape
  have h1 := two_cell1 h.1
  clear h
  go_enter Try.func18, Try.ntmps18
  go_wp2
  go_ret
  exact ⟨rfl, rfl⟩

set_option maxHeartbeats 400000 in
theorem pair_cap {w : World} {b T size : Nat} {m : Int} {v : Value} {n : Nat} {xs : List Value} (h : QAt w b T size m v n xs) :
    Calls Try.prog 55 #[.pointer (some ⟨b, 0, none⟩)] w fun e w' => e = .returned (.int .i64 m) ∧ w = w' := by
  have h1 := two_cell0 h.1
  clear h
  go_enter Try.func55, Try.ntmps55
  go_wp2
  go_ret
  exact ⟨rfl, rfl⟩

set_option maxRecDepth 100000 in
set_option maxHeartbeats 400000 in
theorem pair_push {w : World} {b T : Nat} {m : Int} {v : Value} {n : Nat} {xs : List Value} (h : QAt w b T 2 m v n xs) (hn : (n : Int) < m) (hm : m ≤ 65536) (x : Int) (s : ByteArray) :
    Calls Try.prog 16 #[.pointer (some ⟨b, 0, none⟩), .agg #[.int .i64 x, .string s]] w fun e w' => e = .returned (.int .i64 0) ∧ QNext w b T 2 m v (n + 1) (xs ++ [.int .i64 x, .string s]) w' := by
  obtain ⟨i0, hi, hz0, hz1, hz2⟩ := info_parts Try.info30
  obtain ⟨ao, c, rfl, _, _⟩ := h.2.1.shape
  have h1 := two_cell1 h.1
  have hf := two_free h.1 1
  have hlt := lt_of_block h.1
  have hne : ¬ (Value.slice ao n c).ownBlock = some b := h.2.2
  go_enter Try.func16, Try.ntmps16
  go_wp2_with (first
    | (go_at_call 18; refine (pair_len (h.alloc _)).mono ?_; rintro e w' ⟨rfl, rfl⟩)
    | (go_at_call 55; refine (pair_cap (h.alloc _)).mono ?_; rintro e w' ⟨rfl, rfl⟩))
  refine region_text [2] (by kernel_rfl) (by kernel_rfl) (fun K hK => ?_)
  go_wp2_with (first
    | (at_builtin; refine wpList_append_osl _ rfl (.tmp 14) (.tmp 16) 22 22 rfl 30 i0 (.agg #[.int .i64 0, .string ⟨#[]⟩]) 2 24 Try.underlying22 hi hz0 hz1 hz2 rfl (.slice ao n c) n xs rfl (((h.2.1.alloc _).alloc _).drew) _ 1 [.int .i64 x, .string s] rfl (Src.ofSlice _ Try.underlying22 ⟨w.heap.size + 1, 0, none⟩ 1 1 _ rfl (by intro j u hj; match j, hj with | 0, hj => (simp at hj; subst hj; simp [Addr.add]) | 1, hj => (simp at hj; subst hj; simp [Addr.add])) (by simp [Value.oneCell'])) (by unfold maxLen; omega) (by omega) ?_))
  intro ao' c' w1 hs1 hf1 hv1
  have hW : w1.heap[b]? = some (.cells #[.int .i64 m, .slice ao n c] T (0, 0)) := (hf1.block b (by simp; omega) hne).trans ((heap_alloc_old _ _ (by simp; omega)).trans ((heap_alloc_old w _ hlt).trans h.1))
  have hc1 := two_cell1 hW
  have hfr1 := two_free hW 1
  go_wp2
  refine ⟨rfl, ?_⟩
  go_wp2
  go_ret
  exact ⟨rfl, QNext.store h (((Frm.alloc _ w _).trans (Frm.alloc _ _ _)).trans (Frm.drew _ _)) hW hs1 hf1 hv1 (by simp)⟩

set_option maxRecDepth 100000 in
set_option maxHeartbeats 400000 in
theorem pair_push_full {w : World} {b T : Nat} {m : Int} {v : Value} {n : Nat} {xs : List Value} (h : QAt w b T 2 m v n xs) (hn : m ≤ (n : Int)) (x : Int) (s : ByteArray) :
    Calls Try.prog 16 #[.pointer (some ⟨b, 0, none⟩), .agg #[.int .i64 x, .string s]] w fun e w' => e = .returned (.int .i64 21) ∧ Frm (fun _ => False) w w' := by
  go_enter Try.func16, Try.ntmps16
  go_wp2_with (first
    | (go_at_call 18; refine (pair_len (h.alloc _)).mono ?_; rintro e w' ⟨rfl, rfl⟩)
    | (go_at_call 55; refine (pair_cap (h.alloc _)).mono ?_; rintro e w' ⟨rfl, rfl⟩))
  go_ret
  exact ⟨rfl, Frm.alloc _ w _⟩

set_option maxRecDepth 100000 in
set_option maxHeartbeats 400000 in
theorem pair_at_in {w : World} {b T : Nat} {m : Int} {v : Value} {n : Nat} {xs : List Value} (h : QAt w b T 2 m v n xs) {i : Nat} (hin : i < n) (x : Int) (s : ByteArray) (hx : xs[i * 2]? = some (.int .i64 x)) (hs : xs[i * 2 + 1]? = some (.string s)) :
    Calls Try.prog 79 #[.pointer (some ⟨b, 0, none⟩), .int .i64 i] w fun e w' => e = .returned (.tuple #[.agg #[.int .i64 x, .string s], .bool true]) ∧ Frm (fun _ => False) w w' := by
  obtain ⟨g, o, c, rfl, hle, hmx, hg, hcl, hfr⟩ := h.2.1.shapePos (by omega)
  unfold maxLen at hmx
  have h1 := two_cell1 h.1
  have hlt := lt_of_block h.1
  have c0 : w.cell? ⟨g, o + i * 2, none⟩ = some (.int .i64 x) := (hcl (i * 2) (by omega)).trans hx
  have c1 : w.cell? ⟨g, o + i * 2 + 1, none⟩ = some (.string s) := by rw [Nat.add_assoc]; exact (hcl (i * 2 + 1) (by omega)).trans hs
  clear hcl hfr
  go_enter Try.func79, Try.ntmps79
  go_wp2_with (first
    | (go_at_call 18; refine (pair_len ((h.alloc _).alloc _)).mono ?_; rintro e w' ⟨rfl, rfl⟩))
  exact bodyPost_ret (v := .tuple #[.agg #[.int .i64 x, .string s], .bool true]) (by simp [results, Try.results79, go_sem]) rfl ⟨rfl, (Frm.alloc _ w _).trans (Frm.alloc _ _ _)⟩

set_option maxRecDepth 100000 in
set_option maxHeartbeats 400000 in
theorem pair_at_out {w : World} {b T : Nat} {m : Int} {v : Value} {n : Nat} {xs : List Value} (h : QAt w b T 2 m v n xs) {i : Int} (hout : i < 0 ∨ (n : Int) ≤ i) :
    Calls Try.prog 79 #[.pointer (some ⟨b, 0, none⟩), .int .i64 i] w fun e w' => e = .returned (.tuple #[.agg #[.int .i64 0, .string ⟨#[]⟩], .bool false]) ∧ Frm (fun _ => False) w w' := by
  by_cases hi : i < 0
  all_goals
    go_enter Try.func79, Try.ntmps79
    go_wp2_with (first
      | (go_at_call 18; refine (pair_len ((h.alloc _).alloc _)).mono ?_; rintro e w' ⟨rfl, rfl⟩))
    exact bodyPost_ret (v := .tuple #[.agg #[.int .i64 0, .string ⟨#[]⟩], .bool false]) (by simp [results, Try.results79, go_sem]) rfl ⟨rfl, (Frm.alloc _ w _).trans (Frm.alloc _ _ _)⟩

set_option maxRecDepth 100000 in
set_option maxHeartbeats 400000 in
theorem pair_first_in {w : World} {b T : Nat} {m : Int} {v : Value} {n : Nat} (x : Int) (s : ByteArray) {xs : List Value} (h : QAt w b T 2 m v (n + 1) (.int .i64 x :: .string s :: xs)) :
    Calls Try.prog 56 #[.pointer (some ⟨b, 0, none⟩)] w fun e w' => e = .returned (.tuple #[.agg #[.int .i64 x, .string s], .bool true]) ∧ Frm (fun _ => False) w w' := by
  have hat := fun w1 (h1 : QAt w1 b T 2 m v (n + 1) (.int .i64 x :: .string s :: xs)) => pair_at_in h1 (i := 0) (by omega) x s rfl rfl
  go_enter Try.func56, Try.ntmps56
  go_wp2_with (first
    | (go_at_call 79; refine (hat _ (h.alloc _)).mono ?_; rintro e w1 ⟨rfl, hf1⟩; have hz := hf1.size; have hzf := Frm.frozen hf1 (p := ⟨w.heap.size, 0, none⟩) (by simp) (fun h => h); have hzf1 := Frm.frozen hf1 (p := ⟨w.heap.size, 1, none⟩) (by simp) (fun h => h); have hzc := Frm.cell hf1 (p := ⟨w.heap.size, 0, none⟩) (by simp) (fun h => h); have hzc1 := Frm.cell hf1 (p := ⟨w.heap.size, 1, none⟩) (by simp) (fun h => h); simp at hz hzf hzf1 hzc hzc1; have hz2 : w.heap.size < w1.heap.size := by omega))
  exact bodyPost_ret (v := .tuple #[.agg #[.int .i64 x, .string s], .bool true]) (by simp [results, Try.results56, go_sem, hzc, hzc1]) rfl ⟨rfl, (((Frm.alloc _ w _).trans hf1).setNew (by simp) _).setNew (by simp) _⟩

set_option maxRecDepth 100000 in
set_option maxHeartbeats 400000 in
theorem pair_first_out {w : World} {b T : Nat} {m : Int} {v : Value} {xs : List Value} (h : QAt w b T 2 m v 0 xs) :
    Calls Try.prog 56 #[.pointer (some ⟨b, 0, none⟩)] w fun e w' => e = .returned (.tuple #[.agg #[.int .i64 0, .string ⟨#[]⟩], .bool false]) ∧ Frm (fun _ => False) w w' := by
  have hat := fun w1 (h1 : QAt w1 b T 2 m v 0 xs) => pair_at_out h1 (i := 0) (by omega)
  go_enter Try.func56, Try.ntmps56
  go_wp2_with (first
    | (go_at_call 79; refine (hat _ (h.alloc _)).mono ?_; rintro e w1 ⟨rfl, hf1⟩; have hz := hf1.size; have hzf := Frm.frozen hf1 (p := ⟨w.heap.size, 0, none⟩) (by simp) (fun h => h); have hzf1 := Frm.frozen hf1 (p := ⟨w.heap.size, 1, none⟩) (by simp) (fun h => h); have hzc := Frm.cell hf1 (p := ⟨w.heap.size, 0, none⟩) (by simp) (fun h => h); have hzc1 := Frm.cell hf1 (p := ⟨w.heap.size, 1, none⟩) (by simp) (fun h => h); simp at hz hzf hzf1 hzc hzc1; have hz2 : w.heap.size < w1.heap.size := by omega))
  exact bodyPost_ret (v := .tuple #[.agg #[.int .i64 0, .string ⟨#[]⟩], .bool false]) (by simp [results, Try.results56, go_sem, hzc, hzc1]) rfl ⟨rfl, (((Frm.alloc _ w _).trans hf1).setNew (by simp) _).setNew (by simp) _⟩

set_option maxRecDepth 100000 in
set_option maxHeartbeats 400000 in
/-- What is left of a queue whose first element has gone. -/
theorem pair_pop {w : World} {b T : Nat} {m : Int} {v : Value} {n : Nat} (x : Int) (s : ByteArray) {xs : List Value} (h : QAt w b T 2 m v (n + 1) (.int .i64 x :: .string s :: xs)) :
    Calls Try.prog 17 #[.pointer (some ⟨b, 0, none⟩)] w fun e w' => e = .returned (.tuple #[.agg #[.int .i64 x, .string s], .int .i64 0]) ∧ QNext w b T 2 m v n xs w' := by
  have hfi := fun w1 (h1 : QAt w1 b T 2 m v (n + 1) (.int .i64 x :: .string s :: xs)) => pair_first_in x s h1
  obtain ⟨g, o, c, rfl, hle, hmx, hg, hcl, hfr⟩ := h.2.1.shapePos (by omega)
  unfold maxLen at hmx
  have hlt := lt_of_block h.1
  have hgb : g ≠ b := fun e => h.2.2 (by rw [e]; rfl)
  by_cases hc1 : c = 1
  all_goals
    go_enter Try.func17, Try.ntmps17
    go_wp2_with (first
      | (go_at_call 56; refine (hfi _ (h.alloc _)).mono ?_; rintro e w1 ⟨rfl, hf1⟩; have h2 := (h.alloc _).same hf1; have h1 := two_cell1 h2.1; have hf := two_free h2.1 1; obtain ⟨_, _, hg1, hcl1, hfr1⟩ := h2.2.1.at; have hb1 := lt_of_block h2.1; have c0 : w1.cell? ⟨g, o, none⟩ = some _ := hcl1 0 (by omega); have c1 : w1.cell? ⟨g, o + 1, none⟩ = some _ := hcl1 1 (by omega); have f0 : w1.frozen? ⟨g, o, none⟩ = false := (hfr1 0 (by omega)).2; have f1 : w1.frozen? ⟨g, o + 1, none⟩ = false := (hfr1 1 (by omega)).2; have hz := hf1.size; have hzf := Frm.frozen hf1 (p := ⟨w.heap.size, 0, none⟩) (by simp) (fun h => h); have hzf1 := Frm.frozen hf1 (p := ⟨w.heap.size, 1, none⟩) (by simp) (fun h => h); have hzc := Frm.cell hf1 (p := ⟨w.heap.size, 0, none⟩) (by simp) (fun h => h); have hzc1 := Frm.cell hf1 (p := ⟨w.heap.size, 1, none⟩) (by simp) (fun h => h); simp at hz hzf hzf1 hzc hzc1; clear hcl1 hfr1))
    clear hcl hfr
    refine region_text [1] (by kernel_rfl) (by kernel_rfl) (fun K hK => ?_)
    go_wp2
    refine ⟨rfl, ?_⟩
    have H2 := Lib.hid h2
    have H1 := Lib.hid hf1
    have hz' : w.heap.size < w1.heap.size := by omega
    have hgz : g ≠ w.heap.size := by omega
    have hbz : b ≠ w.heap.size := by omega
    clear hfi h2 hf1 h
    go_wp2
    have hQ := QAt.pop (ys := [_, _]) (w2 := (w1.setCell ⟨g, o, none⟩ (.int .i64 0)).setCell ⟨g, o + 1, none⟩ (.string ⟨#[]⟩)) H2.out rfl (((Frm.refl (fun k => k = g) w1).setIn (a := ⟨g, o, none⟩) rfl _).setIn (a := ⟨g, o + 1, none⟩) rfl _)
      (fun j hj => by rw [World.cell?_setCell_other _ _ _ _ (by simp <;> omega), World.cell?_setCell_other _ _ _ _ (by simp <;> omega)]) (fun j _ => by rw [World.frozen?_setCell, World.frozen?_setCell])
    have hQ2 := ((((hQ.frm ((Frm.refl (fun k => k = w.heap.size) _).setIn (a := ⟨w.heap.size, 0, none⟩) rfl (.int .i64 x)) (by omega) (fun k hk => by rw [own_pop hk]; omega)).frm ((Frm.refl (fun k => k = w.heap.size) _).setIn (a := ⟨w.heap.size, 1, none⟩) rfl (.string s)) (by omega) (fun k hk => by rw [own_pop hk]; omega)).alloc (.cells #[.int .i64 x, .string s] 30)).alloc (.cells #[.int .i64 0, .string ⟨#[]⟩] 30)).drew
    simp [hc1] at hQ2
    refine bodyPost_ret (v := .tuple #[.agg #[.int .i64 x, .string s], .int .i64 0]) (by simp [results, Try.results17, go_sem, hzc, hzc1, hz', hgz, hbz]) rfl ⟨rfl, _, hQ2, ?_, fun k hk => .inl hk⟩
    exact ((((((((Frm.alloc _ w _).trans (H1.out.mono (fun _ _ h => h.elim))).setIn (a := ⟨g, o, none⟩) (.inr rfl) _).setIn (a := ⟨g, o + 1, none⟩) (.inr rfl) _).setIn (a := ⟨b, 1, none⟩) (.inl rfl) _).setNew (by simp) _).setNew (by simp) _).allocR _).allocR _ |>.drewR

set_option maxRecDepth 100000 in
set_option maxHeartbeats 400000 in
theorem pair_pop_none {w : World} {b T : Nat} {m : Int} {v : Value} {xs : List Value} (h : QAt w b T 2 m v 0 xs) :
    Calls Try.prog 17 #[.pointer (some ⟨b, 0, none⟩)] w fun e w' => e = .returned (.tuple #[.agg #[.int .i64 0, .string ⟨#[]⟩], .int .i64 22]) ∧ Frm (fun _ => False) w w' := by
  have hfi := fun w1 (h1 : QAt w1 b T 2 m v 0 xs) => pair_first_out h1
  go_enter Try.func17, Try.ntmps17
  go_wp2_with (first
    | (go_at_call 56; refine (hfi _ (h.alloc _)).mono ?_; rintro e w1 ⟨rfl, hf1⟩; have hz := hf1.size; have hzf := Frm.frozen hf1 (p := ⟨w.heap.size, 0, none⟩) (by simp) (fun h => h); have hzf1 := Frm.frozen hf1 (p := ⟨w.heap.size, 1, none⟩) (by simp) (fun h => h); have hzc := Frm.cell hf1 (p := ⟨w.heap.size, 0, none⟩) (by simp) (fun h => h); have hzc1 := Frm.cell hf1 (p := ⟨w.heap.size, 1, none⟩) (by simp) (fun h => h); simp at hz hzf hzf1 hzc hzc1; have hz2 : w.heap.size < w1.heap.size := by omega))
  exact bodyPost_ret (v := .tuple #[.agg #[.int .i64 0, .string ⟨#[]⟩], .int .i64 22]) (by simp [results, Try.results17, go_sem, hzc, hzc1, hz2]) rfl ⟨rfl, ((((Frm.alloc _ w _).trans hf1).setNew (by simp) _).setNew (by simp) _).allocR _⟩

set_option maxRecDepth 100000 in
set_option maxHeartbeats 400000 in
theorem pair_new {w : World} {c : Int} (h1 : 1 ≤ c) (h2 : c ≤ 65536) :
    Calls Try.prog 15 #[.int .i64 c] w fun e w' => e = .returned (.tuple #[.pointer (some ⟨w.heap.size, 0, none⟩), .int .i64 0]) ∧ w.alloc (.cells #[.int .i64 c, .slice none 0 0] 102) = w' := by
  go_enter Try.func15, Try.ntmps15
  go_wp2
  go_ret2
  exact ⟨rfl, rfl⟩

set_option maxRecDepth 100000 in
set_option maxHeartbeats 400000 in
theorem pair_new_bad {w : World} {c : Int} (h : c < 1 ∨ 65536 < c) :
    Calls Try.prog 15 #[.int .i64 c] w fun e w' => e = .returned (.tuple #[.pointer none, .int .i64 20]) ∧ w = w' := by
  by_cases h1 : c < 1
  all_goals
    go_enter Try.func15, Try.ntmps15
    go_wp2
    go_ret2
    exact ⟨rfl, rfl⟩

/-! ELEMENTS: string -/
theorem Try.info9 : (Try.prog.info? 9).map (fun i => (i.zero, i.size, i.bytes)) = some (some (.string ⟨#[]⟩), 1, 16) := by kernel_rfl

set_option maxHeartbeats 400000 in
theorem text_len {w : World} {b T size : Nat} {m : Int} {v : Value} {n : Nat} {xs : List Value} (h : QAt w b T size m v n xs) :
    Calls Try.prog 26 #[.pointer (some ⟨b, 0, none⟩)] w fun e w' => e = .returned (.int .i64 n) ∧ w = w' := by
  obtain ⟨ao, c, rfl, _, _⟩ := h.2.1.shape
  have h1 := two_cell1 h.1
  clear h
  go_enter Try.func26, Try.ntmps26
  go_wp2
  go_ret
  exact ⟨rfl, rfl⟩

set_option maxHeartbeats 400000 in
theorem text_cap {w : World} {b T size : Nat} {m : Int} {v : Value} {n : Nat} {xs : List Value} (h : QAt w b T size m v n xs) :
    Calls Try.prog 27 #[.pointer (some ⟨b, 0, none⟩)] w fun e w' => e = .returned (.int .i64 m) ∧ w = w' := by
  have h1 := two_cell0 h.1
  clear h
  go_enter Try.func27, Try.ntmps27
  go_wp2
  go_ret
  exact ⟨rfl, rfl⟩

set_option maxRecDepth 100000 in
set_option maxHeartbeats 400000 in
theorem text_push {w : World} {b T : Nat} {m : Int} {v : Value} {n : Nat} {xs : List Value} (h : QAt w b T 1 m v n xs) (hn : (n : Int) < m) (hm : m ≤ 65536) (s : ByteArray) :
    Calls Try.prog 22 #[.pointer (some ⟨b, 0, none⟩), .string s] w fun e w' => e = .returned (.int .i64 0) ∧ QNext w b T 1 m v (n + 1) (xs ++ [.string s]) w' := by
  obtain ⟨i0, hi, hz0, hz1, hz2⟩ := info_parts Try.info9
  obtain ⟨ao, c, rfl, _, _⟩ := h.2.1.shape
  have h1 := two_cell1 h.1
  have hf := two_free h.1 1
  have hlt := lt_of_block h.1
  have hne : ¬ (Value.slice ao n c).ownBlock = some b := h.2.2
  go_enter Try.func22, Try.ntmps22
  go_wp2_with (first
    | (go_at_call 26; refine (text_len h).mono ?_; rintro e w' ⟨rfl, rfl⟩)
    | (go_at_call 27; refine (text_cap h).mono ?_; rintro e w' ⟨rfl, rfl⟩)
    | (at_builtin; refine wpList_append_osl _ rfl (.tmp 14) (.tmp 16) 41 41 rfl 9 i0 (.string ⟨#[]⟩) 1 16 Try.underlying41 hi hz0 hz1 hz2 rfl (.slice ao n c) n xs rfl ((h.2.1.alloc _)) _ 1 [.string s] rfl (Src.ofSlice _ Try.underlying41 ⟨w.heap.size, 0, none⟩ 1 1 _ rfl (by intro j u hj; match j, hj with | 0, hj => (simp at hj; subst hj; simp [Addr.add])) (by simp [Value.oneCell'])) (by unfold maxLen; omega) (by omega) ?_))
  intro ao' c' w1 hs1 hf1 hv1
  have hW : w1.heap[b]? = some (.cells #[.int .i64 m, .slice ao n c] T (0, 0)) := (hf1.block b (by simp; omega) hne).trans ((heap_alloc_old w _ hlt).trans h.1)
  have hc1 := two_cell1 hW
  have hfr1 := two_free hW 1
  go_wp2

  go_ret
  exact ⟨rfl, QNext.store h (Frm.alloc _ w _) hW hs1 hf1 hv1 (by simp)⟩

set_option maxRecDepth 100000 in
set_option maxHeartbeats 400000 in
theorem text_push_full {w : World} {b T : Nat} {m : Int} {v : Value} {n : Nat} {xs : List Value} (h : QAt w b T 1 m v n xs) (hn : m ≤ (n : Int)) (s : ByteArray) :
    Calls Try.prog 22 #[.pointer (some ⟨b, 0, none⟩), .string s] w fun e w' => e = .returned (.int .i64 21) ∧ Frm (fun _ => False) w w' := by
  go_enter Try.func22, Try.ntmps22
  go_wp2_with (first
    | (go_at_call 26; refine (text_len h).mono ?_; rintro e w' ⟨rfl, rfl⟩)
    | (go_at_call 27; refine (text_cap h).mono ?_; rintro e w' ⟨rfl, rfl⟩))
  go_ret
  exact ⟨rfl, Frm.refl _ w⟩

set_option maxRecDepth 100000 in
set_option maxHeartbeats 400000 in
theorem text_at_in {w : World} {b T : Nat} {m : Int} {v : Value} {n : Nat} {xs : List Value} (h : QAt w b T 1 m v n xs) {i : Nat} (hin : i < n) (s : ByteArray) (hx : xs[i]? = some (.string s)) :
    Calls Try.prog 25 #[.pointer (some ⟨b, 0, none⟩), .int .i64 i] w fun e w' => e = .returned (.tuple #[.string s, .bool true]) ∧ w = w' := by
  obtain ⟨g, o, c, rfl, hle, hmx, hg, hcl, hfr⟩ := h.2.1.shapePos (by omega)
  unfold maxLen at hmx
  have h1 := two_cell1 h.1
  have hlt := lt_of_block h.1
  have c0 : w.cell? ⟨g, o + i, none⟩ = some (.string s) := (hcl i (by omega)).trans hx
  clear hcl hfr
  go_enter Try.func25, Try.ntmps25
  go_wp2_with (first
    | (go_at_call 26; refine (text_len h).mono ?_; rintro e w' ⟨rfl, rfl⟩))
  go_ret2
  exact ⟨rfl, rfl⟩

set_option maxRecDepth 100000 in
set_option maxHeartbeats 400000 in
theorem text_at_out {w : World} {b T : Nat} {m : Int} {v : Value} {n : Nat} {xs : List Value} (h : QAt w b T 1 m v n xs) {i : Int} (hout : i < 0 ∨ (n : Int) ≤ i) :
    Calls Try.prog 25 #[.pointer (some ⟨b, 0, none⟩), .int .i64 i] w fun e w' => e = .returned (.tuple #[.string ⟨#[]⟩, .bool false]) ∧ w = w' := by
  by_cases hi : i < 0
  all_goals
    go_enter Try.func25, Try.ntmps25
    go_wp2_with (first
      | (go_at_call 26; refine (text_len h).mono ?_; rintro e w' ⟨rfl, rfl⟩))
    go_ret2
    exact ⟨rfl, rfl⟩

set_option maxRecDepth 100000 in
set_option maxHeartbeats 400000 in
theorem text_first_in {w : World} {b T : Nat} {m : Int} {v : Value} {n : Nat} (s : ByteArray) {xs : List Value} (h : QAt w b T 1 m v (n + 1) (.string s :: xs)) :
    Calls Try.prog 24 #[.pointer (some ⟨b, 0, none⟩)] w fun e w' => e = .returned (.tuple #[.string s, .bool true]) ∧ w = w' := by
  have hat := fun w1 (h1 : QAt w1 b T 1 m v (n + 1) (.string s :: xs)) => text_at_in h1 (i := 0) (by omega) s rfl
  go_enter Try.func24, Try.ntmps24
  go_wp2_with (first
    | (go_at_call 25; refine (hat _ h).mono ?_; rintro e w1 ⟨rfl, rfl⟩))
  go_ret2
  exact ⟨rfl, rfl⟩

set_option maxRecDepth 100000 in
set_option maxHeartbeats 400000 in
theorem text_first_out {w : World} {b T : Nat} {m : Int} {v : Value} {xs : List Value} (h : QAt w b T 1 m v 0 xs) :
    Calls Try.prog 24 #[.pointer (some ⟨b, 0, none⟩)] w fun e w' => e = .returned (.tuple #[.string ⟨#[]⟩, .bool false]) ∧ w = w' := by
  have hat := fun w1 (h1 : QAt w1 b T 1 m v 0 xs) => text_at_out h1 (i := 0) (by omega)
  go_enter Try.func24, Try.ntmps24
  go_wp2_with (first
    | (go_at_call 25; refine (hat _ h).mono ?_; rintro e w1 ⟨rfl, rfl⟩))
  go_ret2
  exact ⟨rfl, rfl⟩

set_option maxRecDepth 100000 in
set_option maxHeartbeats 400000 in
/-- What is left of a queue whose first element has gone. -/
theorem text_pop {w : World} {b T : Nat} {m : Int} {v : Value} {n : Nat} (s : ByteArray) {xs : List Value} (h : QAt w b T 1 m v (n + 1) (.string s :: xs)) :
    Calls Try.prog 23 #[.pointer (some ⟨b, 0, none⟩)] w fun e w' => e = .returned (.tuple #[.string s, .int .i64 0]) ∧ QNext w b T 1 m v n xs w' := by
  have hfi := fun w1 (h1 : QAt w1 b T 1 m v (n + 1) (.string s :: xs)) => text_first_in s h1
  obtain ⟨g, o, c, rfl, hle, hmx, hg, hcl, hfr⟩ := h.2.1.shapePos (by omega)
  unfold maxLen at hmx
  have hlt := lt_of_block h.1
  have hgb : g ≠ b := fun e => h.2.2 (by rw [e]; rfl)
  by_cases hc1 : c = 1
  all_goals
    go_enter Try.func23, Try.ntmps23
    go_wp2_with (first
      | (go_at_call 24; refine (hfi _ h).mono ?_; rintro e w1 ⟨rfl, rfl⟩; have h1 := two_cell1 h.1; have hf := two_free h.1 1; have c0 : w.cell? ⟨g, o, none⟩ = some _ := hcl 0 (by omega); have f0 : w.frozen? ⟨g, o, none⟩ = false := (hfr 0 (by omega)).2))
    go_ret2
    have hQ := QAt.pop (ys := [_]) (w2 := w.setCell ⟨g, o, none⟩ (.string ⟨#[]⟩)) h rfl (Frm.setCell (S := fun k => k = g) w ⟨g, o, none⟩ _ rfl) (fun j hj => World.cell?_setCell_other _ _ _ _ (by simp <;> omega)) (fun j _ => World.frozen?_setCell ..)
    simp [hc1] at hQ
    exact ⟨rfl, _, hQ, ((Frm.refl _ w).setIn (a := ⟨g, o, none⟩) (.inr rfl) _).setIn (a := ⟨b, 1, none⟩) (.inl rfl) _, fun k hk => .inl hk⟩

set_option maxRecDepth 100000 in
set_option maxHeartbeats 400000 in
theorem text_pop_none {w : World} {b T : Nat} {m : Int} {v : Value} {xs : List Value} (h : QAt w b T 1 m v 0 xs) :
    Calls Try.prog 23 #[.pointer (some ⟨b, 0, none⟩)] w fun e w' => e = .returned (.tuple #[.string ⟨#[]⟩, .int .i64 22]) ∧ w = w' := by
  have hfi := fun w1 (h1 : QAt w1 b T 1 m v 0 xs) => text_first_out h1
  go_enter Try.func23, Try.ntmps23
  go_wp2_with (first
    | (go_at_call 24; refine (hfi _ h).mono ?_; rintro e w1 ⟨rfl, rfl⟩))
  go_ret2
  exact ⟨rfl, rfl⟩

set_option maxRecDepth 100000 in
set_option maxHeartbeats 400000 in
theorem text_new {w : World} {c : Int} (h1 : 1 ≤ c) (h2 : c ≤ 65536) :
    Calls Try.prog 19 #[.int .i64 c] w fun e w' => e = .returned (.tuple #[.pointer (some ⟨w.heap.size, 0, none⟩), .int .i64 0]) ∧ w.alloc (.cells #[.int .i64 c, .slice none 0 0] 106) = w' := by
  go_enter Try.func19, Try.ntmps19
  go_wp2
  go_ret2
  exact ⟨rfl, rfl⟩

set_option maxRecDepth 100000 in
set_option maxHeartbeats 400000 in
theorem text_new_bad {w : World} {c : Int} (h : c < 1 ∨ 65536 < c) :
    Calls Try.prog 19 #[.int .i64 c] w fun e w' => e = .returned (.tuple #[.pointer none, .int .i64 20]) ∧ w = w' := by
  by_cases h1 : c < 1
  all_goals
    go_enter Try.func19, Try.ntmps19
    go_wp2
    go_ret2
    exact ⟨rfl, rfl⟩

/-! ELEMENTS: int -/
theorem Try.info3 : (Try.prog.info? 3).map (fun i => (i.zero, i.size, i.bytes)) = some (some (.int .i64 0), 1, 8) := by kernel_rfl

set_option maxHeartbeats 400000 in
theorem num_len {w : World} {b T size : Nat} {m : Int} {v : Value} {n : Nat} {xs : List Value} (h : QAt w b T size m v n xs) :
    Calls Try.prog 35 #[.pointer (some ⟨b, 0, none⟩)] w fun e w' => e = .returned (.int .i64 n) ∧ w = w' := by
  obtain ⟨ao, c, rfl, _, _⟩ := h.2.1.shape
  have h1 := two_cell1 h.1
  clear h
  go_enter Try.func35, Try.ntmps35
  go_wp2
  go_ret
  exact ⟨rfl, rfl⟩

set_option maxHeartbeats 400000 in
theorem num_cap {w : World} {b T size : Nat} {m : Int} {v : Value} {n : Nat} {xs : List Value} (h : QAt w b T size m v n xs) :
    Calls Try.prog 58 #[.pointer (some ⟨b, 0, none⟩)] w fun e w' => e = .returned (.int .i64 m) ∧ w = w' := by
  have h1 := two_cell0 h.1
  clear h
  go_enter Try.func58, Try.ntmps58
  go_wp2
  go_ret
  exact ⟨rfl, rfl⟩

set_option maxRecDepth 100000 in
set_option maxHeartbeats 400000 in
theorem num_push {w : World} {b T : Nat} {m : Int} {v : Value} {n : Nat} {xs : List Value} (h : QAt w b T 1 m v n xs) (hn : (n : Int) < m) (hm : m ≤ 65536) (x : Int) :
    Calls Try.prog 31 #[.pointer (some ⟨b, 0, none⟩), .int .i64 x] w fun e w' => e = .returned (.int .i64 0) ∧ QNext w b T 1 m v (n + 1) (xs ++ [.int .i64 x]) w' := by
  obtain ⟨i0, hi, hz0, hz1, hz2⟩ := info_parts Try.info3
  obtain ⟨ao, c, rfl, _, _⟩ := h.2.1.shape
  have h1 := two_cell1 h.1
  have hf := two_free h.1 1
  have hlt := lt_of_block h.1
  have hne : ¬ (Value.slice ao n c).ownBlock = some b := h.2.2
  go_enter Try.func31, Try.ntmps31
  go_wp2_with (first
    | (go_at_call 35; refine (num_len h).mono ?_; rintro e w' ⟨rfl, rfl⟩)
    | (go_at_call 58; refine (num_cap h).mono ?_; rintro e w' ⟨rfl, rfl⟩)
    | (at_builtin; refine wpList_append_osl _ rfl (.tmp 14) (.tmp 16) 23 23 rfl 3 i0 (.int .i64 0) 1 8 Try.underlying23 hi hz0 hz1 hz2 rfl (.slice ao n c) n xs rfl ((h.2.1.alloc _)) _ 1 [.int .i64 x] rfl (Src.ofSlice _ Try.underlying23 ⟨w.heap.size, 0, none⟩ 1 1 _ rfl (by intro j u hj; match j, hj with | 0, hj => (simp at hj; subst hj; simp [Addr.add])) (by simp [Value.oneCell'])) (by unfold maxLen; omega) (by omega) ?_))
  intro ao' c' w1 hs1 hf1 hv1
  have hW : w1.heap[b]? = some (.cells #[.int .i64 m, .slice ao n c] T (0, 0)) := (hf1.block b (by simp; omega) hne).trans ((heap_alloc_old w _ hlt).trans h.1)
  have hc1 := two_cell1 hW
  have hfr1 := two_free hW 1
  go_wp2

  go_ret
  exact ⟨rfl, QNext.store h (Frm.alloc _ w _) hW hs1 hf1 hv1 (by simp)⟩

set_option maxRecDepth 100000 in
set_option maxHeartbeats 400000 in
theorem num_push_full {w : World} {b T : Nat} {m : Int} {v : Value} {n : Nat} {xs : List Value} (h : QAt w b T 1 m v n xs) (hn : m ≤ (n : Int)) (x : Int) :
    Calls Try.prog 31 #[.pointer (some ⟨b, 0, none⟩), .int .i64 x] w fun e w' => e = .returned (.int .i64 21) ∧ Frm (fun _ => False) w w' := by
  go_enter Try.func31, Try.ntmps31
  go_wp2_with (first
    | (go_at_call 35; refine (num_len h).mono ?_; rintro e w' ⟨rfl, rfl⟩)
    | (go_at_call 58; refine (num_cap h).mono ?_; rintro e w' ⟨rfl, rfl⟩))
  go_ret
  exact ⟨rfl, Frm.refl _ w⟩

set_option maxRecDepth 100000 in
set_option maxHeartbeats 400000 in
theorem num_at_in {w : World} {b T : Nat} {m : Int} {v : Value} {n : Nat} {xs : List Value} (h : QAt w b T 1 m v n xs) {i : Nat} (hin : i < n) (x : Int) (hx : xs[i]? = some (.int .i64 x)) :
    Calls Try.prog 81 #[.pointer (some ⟨b, 0, none⟩), .int .i64 i] w fun e w' => e = .returned (.tuple #[.int .i64 x, .bool true]) ∧ w = w' := by
  obtain ⟨g, o, c, rfl, hle, hmx, hg, hcl, hfr⟩ := h.2.1.shapePos (by omega)
  unfold maxLen at hmx
  have h1 := two_cell1 h.1
  have hlt := lt_of_block h.1
  have c0 : w.cell? ⟨g, o + i, none⟩ = some (.int .i64 x) := (hcl i (by omega)).trans hx
  clear hcl hfr
  go_enter Try.func81, Try.ntmps81
  go_wp2_with (first
    | (go_at_call 35; refine (num_len h).mono ?_; rintro e w' ⟨rfl, rfl⟩))
  go_ret2
  exact ⟨rfl, rfl⟩

set_option maxRecDepth 100000 in
set_option maxHeartbeats 400000 in
theorem num_at_out {w : World} {b T : Nat} {m : Int} {v : Value} {n : Nat} {xs : List Value} (h : QAt w b T 1 m v n xs) {i : Int} (hout : i < 0 ∨ (n : Int) ≤ i) :
    Calls Try.prog 81 #[.pointer (some ⟨b, 0, none⟩), .int .i64 i] w fun e w' => e = .returned (.tuple #[.int .i64 0, .bool false]) ∧ w = w' := by
  by_cases hi : i < 0
  all_goals
    go_enter Try.func81, Try.ntmps81
    go_wp2_with (first
      | (go_at_call 35; refine (num_len h).mono ?_; rintro e w' ⟨rfl, rfl⟩))
    go_ret2
    exact ⟨rfl, rfl⟩

set_option maxRecDepth 100000 in
set_option maxHeartbeats 400000 in
theorem num_first_in {w : World} {b T : Nat} {m : Int} {v : Value} {n : Nat} (x : Int) {xs : List Value} (h : QAt w b T 1 m v (n + 1) (.int .i64 x :: xs)) :
    Calls Try.prog 60 #[.pointer (some ⟨b, 0, none⟩)] w fun e w' => e = .returned (.tuple #[.int .i64 x, .bool true]) ∧ w = w' := by
  have hat := fun w1 (h1 : QAt w1 b T 1 m v (n + 1) (.int .i64 x :: xs)) => num_at_in h1 (i := 0) (by omega) x rfl
  go_enter Try.func60, Try.ntmps60
  go_wp2_with (first
    | (go_at_call 81; refine (hat _ h).mono ?_; rintro e w1 ⟨rfl, rfl⟩))
  go_ret2
  exact ⟨rfl, rfl⟩

set_option maxRecDepth 100000 in
set_option maxHeartbeats 400000 in
theorem num_first_out {w : World} {b T : Nat} {m : Int} {v : Value} {xs : List Value} (h : QAt w b T 1 m v 0 xs) :
    Calls Try.prog 60 #[.pointer (some ⟨b, 0, none⟩)] w fun e w' => e = .returned (.tuple #[.int .i64 0, .bool false]) ∧ w = w' := by
  have hat := fun w1 (h1 : QAt w1 b T 1 m v 0 xs) => num_at_out h1 (i := 0) (by omega)
  go_enter Try.func60, Try.ntmps60
  go_wp2_with (first
    | (go_at_call 81; refine (hat _ h).mono ?_; rintro e w1 ⟨rfl, rfl⟩))
  go_ret2
  exact ⟨rfl, rfl⟩

set_option maxRecDepth 100000 in
set_option maxHeartbeats 400000 in
/-- What is left of a queue whose first element has gone. -/
theorem num_pop {w : World} {b T : Nat} {m : Int} {v : Value} {n : Nat} (x : Int) {xs : List Value} (h : QAt w b T 1 m v (n + 1) (.int .i64 x :: xs)) :
    Calls Try.prog 33 #[.pointer (some ⟨b, 0, none⟩)] w fun e w' => e = .returned (.tuple #[.int .i64 x, .int .i64 0]) ∧ QNext w b T 1 m v n xs w' := by
  have hfi := fun w1 (h1 : QAt w1 b T 1 m v (n + 1) (.int .i64 x :: xs)) => num_first_in x h1
  obtain ⟨g, o, c, rfl, hle, hmx, hg, hcl, hfr⟩ := h.2.1.shapePos (by omega)
  unfold maxLen at hmx
  have hlt := lt_of_block h.1
  have hgb : g ≠ b := fun e => h.2.2 (by rw [e]; rfl)
  by_cases hc1 : c = 1
  all_goals
    go_enter Try.func33, Try.ntmps33
    go_wp2_with (first
      | (go_at_call 60; refine (hfi _ h).mono ?_; rintro e w1 ⟨rfl, rfl⟩; have h1 := two_cell1 h.1; have hf := two_free h.1 1; have c0 : w.cell? ⟨g, o, none⟩ = some _ := hcl 0 (by omega); have f0 : w.frozen? ⟨g, o, none⟩ = false := (hfr 0 (by omega)).2))
    go_ret2
    have hQ := QAt.pop (ys := [_]) (w2 := w.setCell ⟨g, o, none⟩ (.int .i64 0)) h rfl (Frm.setCell (S := fun k => k = g) w ⟨g, o, none⟩ _ rfl) (fun j hj => World.cell?_setCell_other _ _ _ _ (by simp <;> omega)) (fun j _ => World.frozen?_setCell ..)
    simp [hc1] at hQ
    exact ⟨rfl, _, hQ, ((Frm.refl _ w).setIn (a := ⟨g, o, none⟩) (.inr rfl) _).setIn (a := ⟨b, 1, none⟩) (.inl rfl) _, fun k hk => .inl hk⟩

set_option maxRecDepth 100000 in
set_option maxHeartbeats 400000 in
theorem num_pop_none {w : World} {b T : Nat} {m : Int} {v : Value} {xs : List Value} (h : QAt w b T 1 m v 0 xs) :
    Calls Try.prog 33 #[.pointer (some ⟨b, 0, none⟩)] w fun e w' => e = .returned (.tuple #[.int .i64 0, .int .i64 22]) ∧ w = w' := by
  have hfi := fun w1 (h1 : QAt w1 b T 1 m v 0 xs) => num_first_out h1
  go_enter Try.func33, Try.ntmps33
  go_wp2_with (first
    | (go_at_call 60; refine (hfi _ h).mono ?_; rintro e w1 ⟨rfl, rfl⟩))
  go_ret2
  exact ⟨rfl, rfl⟩

set_option maxRecDepth 100000 in
set_option maxHeartbeats 400000 in
theorem num_new {w : World} {c : Int} (h1 : 1 ≤ c) (h2 : c ≤ 65536) :
    Calls Try.prog 30 #[.int .i64 c] w fun e w' => e = .returned (.tuple #[.pointer (some ⟨w.heap.size, 0, none⟩), .int .i64 0]) ∧ w.alloc (.cells #[.int .i64 c, .slice none 0 0] 111) = w' := by
  go_enter Try.func30, Try.ntmps30
  go_wp2
  go_ret2
  exact ⟨rfl, rfl⟩

set_option maxRecDepth 100000 in
set_option maxHeartbeats 400000 in
theorem num_new_bad {w : World} {c : Int} (h : c < 1 ∨ 65536 < c) :
    Calls Try.prog 30 #[.int .i64 c] w fun e w' => e = .returned (.tuple #[.pointer none, .int .i64 20]) ∧ w = w' := by
  by_cases h1 : c < 1
  all_goals
    go_enter Try.func30, Try.ntmps30
    go_wp2
    go_ret2
    exact ⟨rfl, rfl⟩
end Go.Proofs.Ytgofogcfolhonaa
