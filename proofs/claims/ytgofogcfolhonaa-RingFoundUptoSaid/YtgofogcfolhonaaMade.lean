/- made: a ring and the document's. . -/
import Derived.Test.YtgofogcfolhonaaRef3
set_option linter.unusedVariables false
set_option linter.unusedSimpArgs false
namespace Go.Proofs.Ytgofogcfolhonaa
open Go Go.RowKit

set_option maxRecDepth 100000 in
set_option maxHeartbeats 400000 in
theorem made_ok (w : World) (cap : Nat) (h1 : 1 ≤ cap) (h2 : cap ≤ 1048576) :
    Calls Try.prog 37 #[.int .i64 cap] w fun e w' => ∃ b g, e = .returned (.tuple #[.pointer (some ⟨b, 0, none⟩), .agg #[.int .i64 cap, .slice none 0 0, .int .i64 0], .bool true]) ∧ RAt w' b 117 g cap 0 [] ∧ w.heap.size ≤ g ∧ w.heap.size ≤ b ∧ Frm (fun _ => False) w w' := by
  go_enter Try.func37, Try.ntmps37
  go_wp2_with fail
  refine (ring_new _ cap h1 h2).mono ?_
  rintro e w1 ⟨rfl, r1, hf1⟩
  go_wp2_with fail
  refine (ref_new w1 cap h1 h2).mono ?_
  rintro e w2 ⟨rfl, hf2⟩
  have R2 := Lib.hid (r1.same hf2)
  have hB0 : (w.alloc (.cells #[.int .i64 0, .slice none 0 0, .int .i64 0] 68)).heap[w.heap.size]? = some (.cells #[.int .i64 0, .slice none 0 0, .int .i64 0] 68 (0, 0)) := heap_alloc_new w _
  have hlt0 := blk_lt hB0
  have hB2 := (hf2.block _ (Nat.lt_of_lt_of_le hlt0 hf1.size) (fun h => h)).trans ((hf1.block _ hlt0 (fun h => h)).trans hB0)
  obtain ⟨b0, b1, b2⟩ := three_cell hB2
  have g0 := blk_free hB2 0
  have g1 := blk_free hB2 1
  have g2 := blk_free hB2 2
  have hbl : w.heap.size < w2.heap.size := blk_lt hB2
  have HF := Lib.hid (((Frm.alloc (fun _ => False) w (.cells #[.int .i64 0, .slice none 0 0, .int .i64 0] 68)).trans hf1).trans hf2)
  have HB2 := Lib.hid hB2
  clear hB0 hlt0 hB2 r1 hf1 hf2
  go_wp2
  go_region
  go_wp2
  have hw1 : (w.alloc (.cells #[.int .i64 0, .slice none 0 0, .int .i64 0] 68)).heap.size = w.heap.size + 1 := by simp
  have hR := R2.out
  rw [hw1] at hR
  have hfin : Frm (fun k => k = w.heap.size) w2 (((((w2.setCell ⟨w.heap.size, 0, none⟩ (.int .i64 (cap : Int))).setCell ⟨w.heap.size, 1, none⟩ (.slice none 0 0)).setCell ⟨w.heap.size, 2, none⟩ (.int .i64 0)).alloc (.cells #[.int .i64 (cap : Int), .slice none 0 0, .int .i64 0] 68)).drew) :=
    (((((Frm.refl (fun k => k = w.heap.size) w2).setIn (a := ⟨w.heap.size, 0, none⟩) rfl _).setIn (a := ⟨w.heap.size, 1, none⟩) rfl _).setIn (a := ⟨w.heap.size, 2, none⟩) rfl _).allocR _).drewR
  have hX := (heap_alloc_old (((w2.setCell ⟨w.heap.size, 0, none⟩ (.int .i64 (cap : Int))).setCell ⟨w.heap.size, 1, none⟩ (.slice none 0 0)).setCell ⟨w.heap.size, 2, none⟩ (.int .i64 0)) (.cells #[.int .i64 (cap : Int), .slice none 0 0, .int .i64 0] 68) (by simpa [World.setCell] using hbl)).trans (blk_set (blk_set (blk_set HB2.out 0 (.int .i64 (cap : Int))) 1 (.slice none 0 0)) 2 (.int .i64 0))
  obtain ⟨x0, x1, x2⟩ := three_cell (u := .int .i64 (cap : Int)) (v := .slice none 0 0) (x := .int .i64 0) hX
  refine bodyPost_ret (v := .tuple #[.pointer (some ⟨w.heap.size + 1 + 1, 0, none⟩), .agg #[.int .i64 (cap : Int), .slice none 0 0, .int .i64 0], .bool true]) (by simp [results, Try.results37, go_sem, x0, x1, x2]) rfl ⟨w.heap.size + 1 + 1, w.heap.size + 1, rfl, hR.frm hfin (fun e => by omega) (fun e => by omega), by omega, by omega, HF.out.fresh hfin (fun i hi h => by omega)⟩

set_option maxRecDepth 100000 in
set_option maxHeartbeats 400000 in
theorem ring_new_bad (w : World) (c : Int) (h : c < 1 ∨ 1048576 < c) :
    Calls Try.prog 43 #[.int .i64 c] w fun e w' => e = .returned (.tuple #[.pointer none, .int .i64 20]) ∧ w' = w := by
  go_enter Try.func43, Try.ntmps43
  by_cases h2 : c < 1
  · go_wp2
    go_ret2
    exact ⟨rfl, rfl⟩
  · have h3 : 1048576 < c := by omega
    go_wp2
    go_ret2
    exact ⟨rfl, rfl⟩

set_option maxRecDepth 100000 in
set_option maxHeartbeats 400000 in
theorem made_bad (w : World) (cap : Int) (h : cap < 1 ∨ 1048576 < cap) :
    Calls Try.prog 37 #[.int .i64 cap] w fun e w' => e = .returned (.tuple #[.pointer none, .agg #[.int .i64 0, .slice none 0 0, .int .i64 0], .bool true]) ∧ Frm (fun _ => False) w w' := by
  go_enter Try.func37, Try.ntmps37
  go_wp2_with fail
  refine (ring_new_bad _ cap h).mono ?_
  rintro e w1 ⟨rfl, rfl⟩
  go_wp2_with fail
  refine (ref_new_bad _ cap h).mono ?_
  rintro e w2 ⟨rfl, hf2⟩
  have hB0 : (w.alloc (.cells #[.int .i64 0, .slice none 0 0, .int .i64 0] 68)).heap[w.heap.size]? = some (.cells #[.int .i64 0, .slice none 0 0, .int .i64 0] 68 (0, 0)) := heap_alloc_new w _
  have hlt0 := blk_lt hB0
  have hB2 := (hf2.block _ hlt0 (fun h => h)).trans hB0
  obtain ⟨b0, b1, b2⟩ := three_cell hB2
  have g0 := blk_free hB2 0
  have g1 := blk_free hB2 1
  have g2 := blk_free hB2 2
  have hbl : w.heap.size < w2.heap.size := blk_lt hB2
  have HF := Lib.hid ((Frm.alloc (fun _ => False) w (.cells #[.int .i64 0, .slice none 0 0, .int .i64 0] 68)).trans hf2)
  have HB2 := Lib.hid hB2
  clear hB0 hlt0 hB2 hf2
  go_wp2
  go_region
  go_wp2
  have hfin : Frm (fun k => k = w.heap.size) w2 (((((w2.setCell ⟨w.heap.size, 0, none⟩ (.int .i64 0)).setCell ⟨w.heap.size, 1, none⟩ (.slice none 0 0)).setCell ⟨w.heap.size, 2, none⟩ (.int .i64 0)).alloc (.cells #[.int .i64 0, .slice none 0 0, .int .i64 0] 68)).drew) :=
    (((((Frm.refl (fun k => k = w.heap.size) w2).setIn (a := ⟨w.heap.size, 0, none⟩) rfl _).setIn (a := ⟨w.heap.size, 1, none⟩) rfl _).setIn (a := ⟨w.heap.size, 2, none⟩) rfl _).allocR _).drewR
  have hX := (heap_alloc_old (((w2.setCell ⟨w.heap.size, 0, none⟩ (.int .i64 0)).setCell ⟨w.heap.size, 1, none⟩ (.slice none 0 0)).setCell ⟨w.heap.size, 2, none⟩ (.int .i64 0)) (.cells #[.int .i64 0, .slice none 0 0, .int .i64 0] 68) (by simpa [World.setCell] using hbl)).trans (blk_set (blk_set (blk_set HB2.out 0 (.int .i64 0)) 1 (.slice none 0 0)) 2 (.int .i64 0))
  obtain ⟨x0, x1, x2⟩ := three_cell (u := .int .i64 0) (v := .slice none 0 0) (x := .int .i64 0) hX
  exact bodyPost_ret (v := .tuple #[.pointer none, .agg #[.int .i64 0, .slice none 0 0, .int .i64 0], .bool true]) (by simp [results, Try.results37, go_sem, x0, x1, x2]) rfl ⟨rfl, HF.out.fresh hfin (fun i hi h => by omega)⟩
end Go.Proofs.Ytgofogcfolhonaa
