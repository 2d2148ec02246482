/- Ring: what its functions answer, each once. -/
import Derived.Test.YtgofogcfolhonaaProg
import Derived.Test.YtgofogcfolhonaaByt2
import Derived.KernelRfl
set_option linter.unusedVariables false
set_option linter.unusedSimpArgs false
namespace Go.Proofs.Ytgofogcfolhonaa
open Go Go.RowKit

theorem blk_lt {w : World} {b T : Nat} {c : Array Value} {fr : Nat × Nat} (h : w.heap[b]? = some (.cells c T fr)) : b < w.heap.size := by
  rcases Nat.lt_or_ge b w.heap.size with h' | h'
  · exact h'
  · rw [Array.getElem?_eq_none h'] at h; cases h
theorem three_cell {w : World} {b T : Nat} {u v x : Value} (h : w.heap[b]? = some (.cells #[u, v, x] T (0, 0))) : w.cell? ⟨b, 0, none⟩ = some u ∧ w.cell? ⟨b, 1, none⟩ = some v ∧ w.cell? ⟨b, 2, none⟩ = some x := by simp [World.cell?, h]
theorem blk_free {w : World} {b T : Nat} {c : Array Value} (h : w.heap[b]? = some (.cells c T (0, 0))) (o : Nat) : w.frozen? ⟨b, o, none⟩ = false := by simp [World.frozen?, h]
theorem blk_set {w : World} {b T : Nat} {c : Array Value} {fr : Nat × Nat} (h : w.heap[b]? = some (.cells c T fr)) (i : Nat) (x : Value) : (w.setCell ⟨b, i, none⟩ x).heap[b]? = some (.cells (c.setIfInBounds i x) T fr) := by
  have hlt := blk_lt h
  have h' : w.heap[b] = .cells c T fr := by simpa [Array.getElem?_eq_getElem hlt] using h
  show (w.heap.modify b _)[b]? = _
  rw [Array.getElem?_eq_getElem (by simpa using hlt), Array.getElem_modify_self, h']
  rfl

/-- A RING: block b is its struct, block g its store; the bytes l wait, from the place h on. -/
structure RAt (w : World) (b T g cap h : Nat) (l : List UInt8) : Prop where
  blk : w.heap[b]? = some (.cells #[.slice (some ⟨g, 0, none⟩) cap cap, .int .i64 (h : Int), .int .i64 (l.length : Int)] T (0, 0))
  ne : b ≠ g
  pos : 0 < cap
  max : cap ≤ 1048576
  head : h < cap
  fits : l.length ≤ cap
  store : ∃ st, OSl w 1 (.slice (some ⟨g, 0, none⟩) cap cap) cap (u8s st) ∧ ∀ i x, l[i]? = some x → st[(h + i) % cap]? = some x

theorem RAt.frm {S : Nat → Prop} {w w' : World} {b T g cap h : Nat} {l : List UInt8} (r : RAt w b T g cap h l) (hf : Frm S w w') (h1 : ¬ S b) (h2 : ¬ S g) : RAt w' b T g cap h l :=
  ⟨(hf.block b (blk_lt r.blk) h1).trans r.blk, r.ne, r.pos, r.max, r.head, r.fits, let ⟨st, ho, hs⟩ := r.store; ⟨st, ho.frm hf (fun k hk => by simp [Value.ownBlock] at hk; subst hk; exact h2), hs⟩⟩
theorem RAt.same {w w' : World} {b T g cap h : Nat} {l : List UInt8} (r : RAt w b T g cap h l) (hf : Frm (fun _ => False) w w') : RAt w' b T g cap h l := r.frm hf (fun h => h) (fun h => h)
theorem RAt.glt {w : World} {b T g cap h : Nat} {l : List UInt8} (r : RAt w b T g cap h l) : g < w.heap.size := let ⟨_, ho, _⟩ := r.store; ho.lt g rfl

set_option maxRecDepth 100000 in
set_option maxHeartbeats 400000 in
theorem ring_len {w : World} {b T g cap h : Nat} {l : List UInt8} (r : RAt w b T g cap h l) :
    Calls Try.prog 42 #[.pointer (some ⟨b, 0, none⟩)] w fun e w' => e = .returned (.int .i64 l.length) ∧ w = w' := by
  obtain ⟨c0, c1, c2⟩ := three_cell r.blk
  clear r
  go_enter Try.func42, Try.ntmps42
  go_wp2
  go_ret
  exact ⟨rfl, rfl⟩

set_option maxRecDepth 100000 in
set_option maxHeartbeats 400000 in
theorem ring_cap {w : World} {b T g cap h : Nat} {l : List UInt8} (r : RAt w b T g cap h l) :
    Calls Try.prog 66 #[.pointer (some ⟨b, 0, none⟩)] w fun e w' => e = .returned (.int .i64 cap) ∧ w = w' := by
  obtain ⟨c0, c1, c2⟩ := three_cell r.blk
  clear r
  go_enter Try.func66, Try.ntmps66
  go_wp2
  go_ret
  exact ⟨rfl, rfl⟩

set_option maxRecDepth 100000 in
set_option maxHeartbeats 400000 in
theorem ring_head {w : World} {b T g cap h : Nat} {l : List UInt8} (r : RAt w b T g cap h l) :
    Calls Try.prog 51 #[.pointer (some ⟨b, 0, none⟩)] w fun e w' => e = .returned (.int .i64 h) ∧ w = w' := by
  obtain ⟨c0, c1, c2⟩ := three_cell r.blk
  clear r
  go_enter Try.func51, Try.ntmps51
  go_wp2
  go_ret
  exact ⟨rfl, rfl⟩

set_option maxRecDepth 100000 in
set_option maxHeartbeats 400000 in
theorem ring_free {w : World} {b T g cap h : Nat} {l : List UInt8} (r : RAt w b T g cap h l) :
    Calls Try.prog 46 #[.pointer (some ⟨b, 0, none⟩)] w fun e w' => e = .returned (.int .i64 ((cap - l.length : Nat) : Int)) ∧ w = w' := by
  have h1 := r.fits
  have h2 := r.max
  go_enter Try.func46, Try.ntmps46
  go_wp2_with fail
  refine (ring_cap r).mono ?_
  rintro e w' ⟨rfl, rfl⟩
  go_wp2_with fail
  refine (ring_len r).mono ?_
  rintro e w' ⟨rfl, rfl⟩
  go_wp2
  go_ret
  exact ⟨by simp <;> omega, rfl⟩

set_option maxRecDepth 100000 in
set_option maxHeartbeats 400000 in
theorem ring_place {w : World} {b T g cap h : Nat} {l : List UInt8} (r : RAt w b T g cap h l) (i : Nat) (hi : i ≤ 1048576) :
    Calls Try.prog 62 #[.pointer (some ⟨b, 0, none⟩), .int .i64 i] w fun e w' => e = .returned (.int .i64 ((h + i) % cap : Nat)) ∧ w' = w.drew := by
  obtain ⟨c0, c1, c2⟩ := three_cell r.blk
  have h1 := r.head
  have h2 := r.max
  have h3 := r.pos
  have hm : ((h : Int) + i).tmod cap = ((h + i) % cap : Nat) := by
    rw [Int.tmod_eq_emod_of_nonneg (by omega)]; simp
  clear r
  go_enter Try.func62, Try.ntmps62
  go_wp2
  refine region_text [1, 5, 7, 10] (by kernel_rfl) (by kernel_rfl) (fun K hK => ?_)
  go_wp2
  refine ⟨by first | kernel_rfl | (simp [finB, condB]; refine ⟨?_, ?_, ?_, ?_⟩ <;> rfl), ?_⟩
  go_wp2
  go_ret
  exact ⟨rfl, rfl⟩
end Go.Proofs.Ytgofogcfolhonaa
