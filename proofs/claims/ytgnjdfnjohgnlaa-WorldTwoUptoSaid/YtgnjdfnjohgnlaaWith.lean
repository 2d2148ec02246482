/- The document's world: another connection in a place (concretely), as the abstract machine has it. -/
import Derived.Test.YtgnjdfnjohgnlaaWld10
import Derived.Test.YtgnjdfnjohgnlaaOpen
set_option linter.unusedVariables false
set_option linter.unusedSimpArgs false
set_option linter.unusedSectionVars false
set_option maxRecDepth 100000
namespace Go.Proofs.Ytgnjdfnjohgnlaa
open Go Go.RowKit

theorem eleven {cs : List Value} (h : cs.length = 11) : ∃ a0 a1 a2 a3 a4 a5 a6 a7 a8 a9 aa, cs = [a0, a1, a2, a3, a4, a5, a6, a7, a8, a9, aa] := by
  match cs, h with
  | [a0, a1, a2, a3, a4, a5, a6, a7, a8, a9, aa], _ => exact ⟨_, _, _, _, _, _, _, _, _, _, _, rfl⟩
theorem src_rows {P : Program} {w : World} {ao : Option Addr} {n c size : Nat} {xs : List Value} (h : RSl w size (.slice ao n c) n xs) {tx e' : TypeId} (hk : P.underlying tx = some (.slice e')) (h1 : ∀ u ∈ xs, u.oneCell' = true) : Src P size tx (.slice ao n c) n xs w := by
  obtain ⟨hx, ao', c', he, h2, h3, h4⟩ := h
  cases he
  rcases Nat.eq_zero_or_pos n with rfl | hp
  · have hl : xs = [] := List.eq_nil_of_length_eq_zero (by simpa using hx)
    subst hl
    cases ao with
    | none => exact Src.ofNil w hk _
    | some a => exact Src.ofSlice w hk a 0 _ [] (by simp) (fun j u hj => by simp at hj) (by simp)
  · obtain ⟨g, o, rfl, hc2⟩ := h4 hp
    refine Src.ofSlice w hk ⟨g, o, none⟩ n _ _ hx (fun j u hj => ?_) h1
    have hj' := (List.getElem?_eq_some_iff.1 hj).1
    rw [Addr.add_mid, hc2 j (by omega), hj]
theorem RSl.same {w w' : World} {k : Nat} {v : Value} {n : Nat} {xs : List Value} (h : RSl w k v n xs) (hk : 0 < k) (hf : Frm (fun _ => False) w w') : RSl w' k v n xs := by
  obtain ⟨h1, ao, cap, rfl, h2, h3, h4⟩ := h
  refine ⟨h1, ao, cap, rfl, h2, h3, fun hn => ?_⟩
  obtain ⟨g, o, rfl, h5⟩ := h4 hn
  refine ⟨g, o, rfl, fun j hj => ?_⟩
  have h0 := h5 j hj
  rw [List.getElem?_eq_getElem (by omega)] at h0
  rw [hf.cell (p := ⟨g, o + j, none⟩) (old_cell h0) (fun h => h)]
  exact h5 j hj
theorem connInfo : (Try.prog.info? 98).map (fun i => (i.zero, i.size, i.bytes)) = some (some (.agg #[.string ⟨#[]⟩, .string ⟨#[]⟩, .int .i64 0, .bool false, .bool false, .bool false, .bool false, .bool false, .bool false, .int .i64 0, .int .i64 0]), 11, 64) := by kernel_rfl
theorem empty_osl11 (w : World) (e : TypeId) (k : Nat) : OSl (w.alloc (.cells #[] e)) k (.slice (some ⟨w.heap.size, 0, none⟩) 0 0) 0 [] := by
  refine ⟨by simp, .inr ⟨_, 0, 0, rfl, Nat.le_refl _, Nat.zero_le _, by simp, fun j hj => by simp at hj, fun j hj => by simp at hj⟩⟩
set_option maxHeartbeats 4000000 in
theorem with_ok {w : World} (nb : Bool) {ao : Option Addr} {n c : Nat} {xs : List Value} (hl : RSl w 11 (.slice ao n c) n xs) (h1 : ∀ u ∈ xs, u.oneCell' = true) (hn : n ≤ 4096) (i : Nat) (hi : i < n) (s0 s1 : ByteArray) (rd rg wg : Int) (b0 b1 b2 b3 b4 b5 : Bool) :
    Calls Try.prog 48 #[.agg #[.bool nb, .slice ao n c], .int .i64 i, .agg #[.string s0, .string s1, .int .i64 rd, .bool b0, .bool b1, .bool b2, .bool b3, .bool b4, .bool b5, .int .i64 rg, .int .i64 wg]] w fun e w' =>
      ∃ g o c', e = .returned (.agg #[.bool nb, .slice (some ⟨g, o, none⟩) n c']) ∧ w.heap.size ≤ g ∧ g < w'.heap.size ∧ n ≤ c' ∧ c' ≤ maxLen ∧ Frm (fun _ => False) w w' ∧
        (∀ j, j < n * 11 → w'.cell? ⟨g, o + j, none⟩ = if i * 11 ≤ j ∧ j < i * 11 + 11 then [Value.string s0, .string s1, .int .i64 rd, .bool b0, .bool b1, .bool b2, .bool b3, .bool b4, .bool b5, .int .i64 rg, .int .i64 wg][j - i * 11]? else xs[j]?) := by
  obtain ⟨i0, hinf, hz0, hz1, hz2⟩ := info_parts connInfo
  go_enter Try.func48, Try.ntmps48
  obtain ⟨w3, hw3⟩ : ∃ w3, w3 = ((w.alloc (.cells #[.bool nb, .slice ao n c] 56)).alloc (.cells #[.string s0, .string s1, .int .i64 rd, .bool b0, .bool b1, .bool b2, .bool b3, .bool b4, .bool b5, .int .i64 rg, .int .i64 wg] 98)).alloc (.cells #[.bool false, .slice none 0 0] 56) := ⟨_, rfl⟩
  have hsz : w3.heap.size = w.heap.size + 1 + 1 + 1 := by rw [hw3]; simp
  have HL := Lib.hid hl
  have H1 := Lib.hid h1
  have HW3 := Lib.hid hw3
  have HSZ := Lib.hid hsz
  clear hl h1 hw3 hsz
  have HFr := Lib.hid (show Frm (fun _ => False) w w3 by rw [HW3.out]; exact ((Frm.alloc _ w _).allocR _).allocR _)
  go_wp2_with (at_builtin; refine wpList_append_osl _ rfl (.tmp 8) (.tmp 10) 54 54 rfl 98 i0 _ 11 64 Try.underlying54 hinf hz0 hz1 hz2 rfl (.slice (some ⟨w.heap.size + 1 + 1 + 1, 0, none⟩) 0 0) 0 [] rfl (by rw [← HW3.out, ← HSZ.out]; exact empty_osl11 w3 _ 11) (.slice ao n c) n xs rfl (src_rows (P := Try.prog) (by rw [← HW3.out]; exact HL.out.same (by omega) (HFr.out.allocR _)) Try.underlying54 H1.out) (by unfold maxLen; omega) (by omega) ?_)
  rw [← HW3.out, ← HSZ.out]
  intro ao4 c4 w4 hs hf hv
  have hblk : ∀ (k : Nat) b, k < w3.heap.size → w3.heap[k]? = some b → w4.heap[k]? = some b := fun k b hk hb => by
    rw [hf.block k (by simp; omega) (by simp [Value.ownBlock]; omega), heap_alloc_old w3 _ hk]; exact hb
  have hA : w4.heap[w.heap.size]? = some (.cells #[.bool nb, .slice ao n c] 56 (0, 0)) := by
    refine hblk _ _ (by rw [HSZ.out]; omega) ?_
    rw [HW3.out, heap_alloc_old _ _ (by simp; omega), heap_alloc_old _ _ (by simp), heap_alloc_new]
  have hB : w4.heap[w.heap.size + 1]? = some (.cells #[.string s0, .string s1, .int .i64 rd, .bool b0, .bool b1, .bool b2, .bool b3, .bool b4, .bool b5, .int .i64 rg, .int .i64 wg] 98 (0, 0)) := by
    refine hblk _ _ (by rw [HSZ.out]; omega) ?_
    rw [HW3.out, heap_alloc_old _ _ (by simp)]
    have := heap_alloc_new (w.alloc (.cells #[.bool nb, .slice ao n c] 56)) (.cells #[.string s0, .string s1, .int .i64 rd, .bool b0, .bool b1, .bool b2, .bool b3, .bool b4, .bool b5, .int .i64 rg, .int .i64 wg] 98)
    rw [show (w.alloc (.cells #[.bool nb, .slice ao n c] 56)).heap.size = w.heap.size + 1 by simp] at this
    exact this
  have hC : w4.heap[w.heap.size + 1 + 1]? = some (.cells #[.bool false, .slice none 0 0] 56 (0, 0)) := by
    refine hblk _ _ (by rw [HSZ.out]; omega) ?_
    rw [HW3.out]
    have := heap_alloc_new ((w.alloc (.cells #[.bool nb, .slice ao n c] 56)).alloc (.cells #[.string s0, .string s1, .int .i64 rd, .bool b0, .bool b1, .bool b2, .bool b3, .bool b4, .bool b5, .int .i64 rg, .int .i64 wg] 98)) (.cells #[.bool false, .slice none 0 0] 56)
    rw [show ((w.alloc (.cells #[.bool nb, .slice ao n c] 56)).alloc (.cells #[.string s0, .string s1, .int .i64 rd, .bool b0, .bool b1, .bool b2, .bool b3, .bool b4, .bool b5, .int .i64 rg, .int .i64 wg] 98)).heap.size = w.heap.size + 1 + 1 by simp] at this
    exact this
  obtain ⟨g, o, c4', he, h2, h3, hg, hc1, hc2⟩ := hs.shapePos (by omega)
  injection he with he1 he2 he3
  subst he1; subst he3
  have hgn : w3.heap.size ≤ g := by simp [Value.ownBlock] at hv; omega
  have a0 : w4.cell? ⟨w.heap.size, 0, none⟩ = some (.bool nb) := by simp [World.cell?, hA]
  have a1 : w4.cell? ⟨w.heap.size, 1, none⟩ = some (.slice ao n c) := by simp [World.cell?, hA]
  have fa : ∀ j, w4.frozen? ⟨w.heap.size, j, none⟩ = false := fun j => by simp [World.frozen?, hA]
  have d0 : w4.cell? ⟨w.heap.size + 1, 0, none⟩ = some (.string s0) := by simp [World.cell?, hB]
  have d1 : w4.cell? ⟨w.heap.size + 1, 1, none⟩ = some (.string s1) := by simp [World.cell?, hB]
  have d2 : w4.cell? ⟨w.heap.size + 1, 2, none⟩ = some (.int .i64 rd) := by simp [World.cell?, hB]
  have d3 : w4.cell? ⟨w.heap.size + 1, 3, none⟩ = some (.bool b0) := by simp [World.cell?, hB]
  have d4 : w4.cell? ⟨w.heap.size + 1, 4, none⟩ = some (.bool b1) := by simp [World.cell?, hB]
  have d5 : w4.cell? ⟨w.heap.size + 1, 5, none⟩ = some (.bool b2) := by simp [World.cell?, hB]
  have d6 : w4.cell? ⟨w.heap.size + 1, 6, none⟩ = some (.bool b3) := by simp [World.cell?, hB]
  have d7 : w4.cell? ⟨w.heap.size + 1, 7, none⟩ = some (.bool b4) := by simp [World.cell?, hB]
  have d8 : w4.cell? ⟨w.heap.size + 1, 8, none⟩ = some (.bool b5) := by simp [World.cell?, hB]
  have d9 : w4.cell? ⟨w.heap.size + 1, 9, none⟩ = some (.int .i64 rg) := by simp [World.cell?, hB]
  have d10 : w4.cell? ⟨w.heap.size + 1, 10, none⟩ = some (.int .i64 wg) := by simp [World.cell?, hB]
  have c0 : w4.cell? ⟨w.heap.size + 1 + 1, 0, none⟩ = some (.bool false) := by simp [World.cell?, hC]
  have c1 : w4.cell? ⟨w.heap.size + 1 + 1, 1, none⟩ = some (.slice none 0 0) := by simp [World.cell?, hC]
  have fc : ∀ j, w4.frozen? ⟨w.heap.size + 1 + 1, j, none⟩ = false := fun j => by simp [World.frozen?, hC]
  have hne1 : ¬ g = w.heap.size := by have := HSZ.out; omega
  have hne2 : ¬ g = w.heap.size + 1 + 1 := by have := HSZ.out; omega
  have hne3 : ¬ w.heap.size = g := by have := HSZ.out; omega
  have hne4 : ¬ w.heap.size + 1 + 1 = g := by have := HSZ.out; omega
  have hi11 : i * 11 + 11 ≤ n * 11 := by omega
  have hcl : n * 11 ≤ c4 * 11 := by omega
  have hsome : ∀ j, j < 11 → (w4.cell? ⟨g, o + i * 11 + j, none⟩).isSome = true := fun j hj => by
    have := (hc2 (i * 11 + j) (by omega)).1; rwa [← Nat.add_assoc] at this
  have hfree : ∀ j, j < 11 → w4.frozen? ⟨g, o + i * 11 + j, none⟩ = false := fun j hj => by
    have := (hc2 (i * 11 + j) (by omega)).2; rwa [← Nat.add_assoc] at this
  obtain ⟨e0, k0⟩ : ∃ e, w4.cell? ⟨g, o + i * 11, none⟩ = some e := Option.isSome_iff_exists.1 (hsome 0 (by omega))
  have q0 : w4.frozen? ⟨g, o + i * 11, none⟩ = false := hfree 0 (by omega)
  obtain ⟨e1, k1⟩ : ∃ e, w4.cell? ⟨g, o + i * 11 + 1, none⟩ = some e := Option.isSome_iff_exists.1 (hsome 1 (by omega))
  have q1 : w4.frozen? ⟨g, o + i * 11 + 1, none⟩ = false := hfree 1 (by omega)
  obtain ⟨e2, k2⟩ : ∃ e, w4.cell? ⟨g, o + i * 11 + 2, none⟩ = some e := Option.isSome_iff_exists.1 (hsome 2 (by omega))
  have q2 : w4.frozen? ⟨g, o + i * 11 + 2, none⟩ = false := hfree 2 (by omega)
  obtain ⟨e3, k3⟩ : ∃ e, w4.cell? ⟨g, o + i * 11 + 3, none⟩ = some e := Option.isSome_iff_exists.1 (hsome 3 (by omega))
  have q3 : w4.frozen? ⟨g, o + i * 11 + 3, none⟩ = false := hfree 3 (by omega)
  obtain ⟨e4, k4⟩ : ∃ e, w4.cell? ⟨g, o + i * 11 + 4, none⟩ = some e := Option.isSome_iff_exists.1 (hsome 4 (by omega))
  have q4 : w4.frozen? ⟨g, o + i * 11 + 4, none⟩ = false := hfree 4 (by omega)
  obtain ⟨e5, k5⟩ : ∃ e, w4.cell? ⟨g, o + i * 11 + 5, none⟩ = some e := Option.isSome_iff_exists.1 (hsome 5 (by omega))
  have q5 : w4.frozen? ⟨g, o + i * 11 + 5, none⟩ = false := hfree 5 (by omega)
  obtain ⟨e6, k6⟩ : ∃ e, w4.cell? ⟨g, o + i * 11 + 6, none⟩ = some e := Option.isSome_iff_exists.1 (hsome 6 (by omega))
  have q6 : w4.frozen? ⟨g, o + i * 11 + 6, none⟩ = false := hfree 6 (by omega)
  obtain ⟨e7, k7⟩ : ∃ e, w4.cell? ⟨g, o + i * 11 + 7, none⟩ = some e := Option.isSome_iff_exists.1 (hsome 7 (by omega))
  have q7 : w4.frozen? ⟨g, o + i * 11 + 7, none⟩ = false := hfree 7 (by omega)
  obtain ⟨e8, k8⟩ : ∃ e, w4.cell? ⟨g, o + i * 11 + 8, none⟩ = some e := Option.isSome_iff_exists.1 (hsome 8 (by omega))
  have q8 : w4.frozen? ⟨g, o + i * 11 + 8, none⟩ = false := hfree 8 (by omega)
  obtain ⟨e9, k9⟩ : ∃ e, w4.cell? ⟨g, o + i * 11 + 9, none⟩ = some e := Option.isSome_iff_exists.1 (hsome 9 (by omega))
  have q9 : w4.frozen? ⟨g, o + i * 11 + 9, none⟩ = false := hfree 9 (by omega)
  obtain ⟨e10, k10⟩ : ∃ e, w4.cell? ⟨g, o + i * 11 + 10, none⟩ = some e := Option.isSome_iff_exists.1 (hsome 10 (by omega))
  have q10 : w4.frozen? ⟨g, o + i * 11 + 10, none⟩ = false := hfree 10 (by omega)
  have HA := Lib.hid hA
  have HB := Lib.hid hB
  have HC := Lib.hid hC
  have HS := Lib.hid hs
  have HF := Lib.hid hf
  have HC1 := Lib.hid hc1
  have HC2 := Lib.hid hc2
  have HSM := Lib.hid hsome
  have HFR := Lib.hid hfree
  have HGN := Lib.hid hgn
  clear hA hB hC hs hf hc1 hc2 hblk hv hsome hfree he2 hgn
  go_wp2_with fail
  have hgw : w.heap.size ≤ g := by have := HGN.out; have := HSZ.out; omega
  obtain ⟨w5, hw5⟩ : ∃ w5, w5 = w4.setCells g (o + i * 11) [Value.string s0, .string s1, .int .i64 rd, .bool b0, .bool b1, .bool b2, .bool b3, .bool b4, .bool b5, .int .i64 rg, .int .i64 wg] := ⟨_, rfl⟩
  refine bodyPost_ret (v := .agg #[.bool nb, .slice (some ⟨g, o, none⟩) n c4]) (by simp [results, Try.results48, go_sem, c0, c1, a0, a1, fc, fa, hne1, hne2, hne3, hne4]) rfl ⟨g, o, c4, rfl, hgw, ?_, h2, h3, ?_, fun j hj => ?_⟩
  · simpa [World.setCell] using hg
  · have f4 : Frm (fun _ => False) w w4 := (HFr.out.allocR _).fresh HF.out (fun k hk h => by simp [Value.ownBlock] at h; have := HSZ.out; omega)
    have f5 : Frm (fun _ => False) w w5 := by
      rw [hw5]; exact f4.fresh (frm_setCells g (o + i * 11) _ w4) (fun k hk h => by omega)
    have f6 := ((f5.setNew (a := ⟨w.heap.size, 1, none⟩) (Nat.le_refl _) (.slice (some ⟨g, o, none⟩) n c4)).setNew (a := ⟨w.heap.size + 1 + 1, 0, none⟩) (by simp; omega) (.bool nb)).setNew (a := ⟨w.heap.size + 1 + 1, 1, none⟩) (by simp; omega) (.slice (some ⟨g, o, none⟩) n c4)
    rw [hw5] at f6
    exact f6
  · have hcell : w5.cell? ⟨g, o + j, none⟩ = if i * 11 ≤ j ∧ j < i * 11 + 11 then [Value.string s0, .string s1, .int .i64 rd, .bool b0, .bool b1, .bool b2, .bool b3, .bool b4, .bool b5, .int .i64 rg, .int .i64 wg][j - i * 11]? else xs[j]? := by
      rw [hw5]
      split
      · rename_i hin
        have hlt : j - i * 11 < 11 := by omega
        have := World.cell?_setCells_in g [Value.string s0, .string s1, .int .i64 rd, .bool b0, .bool b1, .bool b2, .bool b3, .bool b4, .bool b5, .int .i64 rg, .int .i64 wg] (o + i * 11) w4 (fun j hj => HSM.out j (by simpa using hj)) (j - i * 11) hlt
        rw [show o + i * 11 + (j - i * 11) = o + j by omega] at this
        rw [this, List.getElem?_eq_getElem hlt]
      · rename_i hout
        rw [World.cell?_setCells_out g _ _ _ _ (fun _ _ => by show o + j < o + i * 11 ∨ o + i * 11 + 11 ≤ o + j; omega)]
        exact HC1.out j hj
    rw [← hcell]
    have e1 : ∀ (W : World) (b k : Nat) (u : Value), g ≠ b → (W.setCell ⟨b, k, none⟩ u).cell? ⟨g, o + j, none⟩ = W.cell? ⟨g, o + j, none⟩ := fun W b k u hne => World.cell?_of_block (a := ⟨g, o + j, none⟩) (Below.heap_setCell _ _ _ _ hne)
    rw [e1 _ _ _ _ (by omega), e1 _ _ _ _ (by omega), e1 _ _ _ _ (by omega), hw5]
    rfl

/-- What a call leaves that makes new blocks alone and holds nothing. -/
theorem post_fresh {E : Env} {w w' : World} {β : Nat → Nat} {Rd : Nat → Nat → Prop} {Ow : Nat → Option Hold} {H : Hp} (hHR : HR E w β Rd Ow H) (hf : Frm (fun _ => False) w w') (N : Nat → Nat → Prop) (hN : ∀ g o, N g o → w.heap.size ≤ g ∧ g < w'.heap.size) {v : AV} {c : Value}
    (hrel : Rel w' β (fun g o => Rd g o ∨ N g o) v c) (hb : Bnd H.length v) (hfree : v.free = true) : Post E w β Rd Ow H w' β (fun g o => Rd g o ∨ N g o) Ow H v c := by
  have h3 : S3 E w (fun _ => False) Rd w β Rd Ow [] H #[] := ⟨hHR, ⟨rfl, fun t x u hx => by simp at hx⟩, ⟨fun _ h => h.elim, fun _ h => h.elim, fun _ h => h.elim, fun _ _ h => h.elim, fun _ _ h => h.elim, rfl, rfl, rfl, Nat.le_refl _, fun g o h => ⟨h, rfl⟩⟩, fun x hx => by cases hx⟩
  have h4 : S3 E w (fun _ => False) Rd w' β (fun g o => Rd g o ∨ N g o) Ow [] H #[] := h3.move
    (fun g o hg => ⟨.inl hg, World.cell?_of_block (a := ⟨g, o, none⟩) (hf.block g (hHR.rds g o hg) (fun h => h))⟩)
    (fun b hb' => ⟨hf.block b hb' (fun h => h), fun o ho => ho.resolve_right (fun e => by have := (hN _ _ e).1; omega)⟩)
    (fun g o ho => by
      rcases ho with h1 | h1
      · exact Nat.lt_of_lt_of_le (hHR.rds g o h1) hf.size
      · exact (hN _ _ h1).2) hf.size hf.os hf.tape hf.output
  refine ⟨hrel, hb, fun g hg => ?_, ?_, h4.hr, fun _ _ => rfl, Nat.le_refl _, fun g o hg => ⟨.inl hg, World.cell?_of_block (a := ⟨g, o, none⟩) (hf.block g (hHR.rds g o hg) (fun h => h))⟩,
    fun b hb' hbox how => ⟨hf.block b hb' (fun h => h), how, hbox, fun o ho => ho.resolve_right (fun e => by have := (hN _ _ e).1; omega)⟩, hf.os, hf.tape, hf.output, hf.size⟩
  · rw [own0_free hfree] at hg; cases hg
  · cases v <;> simp_all [AV.dis, AV.free]

/-- A connection of the document's, as its cells. -/
structure RC where
  del : List UInt8
  tak : List UInt8
  rd : Int
  acc : Bool
  ended : Bool
  rst : Bool
  cls : Bool
  ri : Bool
  wi : Bool
  rg : Int
  wg : Int
def RC.av (m : RC) : List AV := [.str m.del, .str m.tak, .int .i64 m.rd, .bool m.acc, .bool m.ended, .bool m.rst, .bool m.cls, .bool m.ri, .bool m.wi, .int .i64 m.rg, .int .i64 m.wg]
def rcs (l : List RC) : List (List AV) := l.map RC.av
theorem rcs_row (l : List RC) : ∀ r ∈ rcs l, r.length = 11 := fun r hr => by obtain ⟨m, _, rfl⟩ := List.mem_map.1 hr; rfl
theorem rcs_free (l : List RC) : ∀ r ∈ rcs l, ∀ x ∈ r, x.free = true ∧ x.one = true := fun r hr x hx => by
  obtain ⟨m, _, rfl⟩ := List.mem_map.1 hr
  simp [RC.av] at hx
  rcases hx with rfl | rfl | rfl | rfl | rfl | rfl | rfl | rfl | rfl | rfl | rfl <;> exact ⟨rfl, rfl⟩
theorem rcs_bnd (N : Nat) (l : List RC) : ∀ r ∈ rcs l, ∀ x ∈ r, Bnd N x := fun r hr x hx => by
  obtain ⟨m, _, rfl⟩ := List.mem_map.1 hr
  simp [RC.av] at hx
  rcases hx with rfl | rfl | rfl | rfl | rfl | rfl | rfl | rfl | rfl | rfl | rfl <;> simp
theorem with_pc (E : Env) (H : Hp) (Q : AV → Hp → Prop) (nb : Bool) (l : List RC) (hl : l.length ≤ 4096) (i : Nat) (hi : i < l.length) (m : RC) (hQ : Q (.agg [.bool nb, .sl false 11 (rcs (l.set i m))]) H) :
    PC Try.prog E 48 [.agg [.bool nb, .sl false 11 (rcs l)], .int .i64 i, .agg m.av] H Q := by
  refine ⟨by kernel_rfl, fun w β Rd Ow cargs hHR hOw hsz hargs => ?_⟩
  obtain ⟨v0, v1, v2, rfl⟩ : ∃ v0 v1 v2, cargs = #[v0, v1, v2] := by
    obtain ⟨l⟩ := cargs
    match l, hsz with
    | [v0, v1, v2], _ => exact ⟨v0, v1, v2, rfl⟩
  obtain ⟨r0, -, -⟩ := hargs 0 _ v0 rfl rfl
  obtain ⟨r1, -, -⟩ := hargs 1 _ v1 rfl rfl
  obtain ⟨r2, -, -⟩ := hargs 2 _ v2 rfl rfl
  obtain rfl := rel_int r1
  cases r0 with
  | agg _ vs0 hs0 _ hr0 =>
  cases r2 with
  | agg _ vs2 hs2 _ hr2 =>
  obtain ⟨u0, u1, rfl⟩ : ∃ u0 u1, vs0 = #[u0, u1] := by
    obtain ⟨q⟩ := vs0
    match q, hs0 with
    | [u0, u1], _ => exact ⟨u0, u1, rfl⟩
  obtain ⟨a0, a1, a2, a3, a4, a5, a6, a7, a8, a9, aa, ha⟩ := eleven (cs := vs2.toList) (by simpa [RC.av] using hs2)
  obtain rfl : vs2 = #[a0, a1, a2, a3, a4, a5, a6, a7, a8, a9, aa] := by rw [← ha]
  obtain rfl := rel_bool (hr0 0 _ u0 rfl rfl)
  have hsl := hr0 1 _ u1 rfl rfl
  obtain ⟨s0, rfl, z0, y0⟩ := rel_str (hr2 0 _ a0 rfl rfl)
  obtain ⟨s1, rfl, z1, y1⟩ := rel_str (hr2 1 _ a1 rfl rfl)
  obtain rfl := rel_int (hr2 2 _ a2 rfl rfl)
  obtain rfl := rel_bool (hr2 3 _ a3 rfl rfl)
  obtain rfl := rel_bool (hr2 4 _ a4 rfl rfl)
  obtain rfl := rel_bool (hr2 5 _ a5 rfl rfl)
  obtain rfl := rel_bool (hr2 6 _ a6 rfl rfl)
  obtain rfl := rel_bool (hr2 7 _ a7 rfl rfl)
  obtain rfl := rel_bool (hr2 8 _ a8 rfl rfl)
  obtain rfl := rel_int (hr2 9 _ a9 rfl rfl)
  obtain rfl := rel_int (hr2 10 _ aa rfl rfl)
  obtain ⟨xs, hk, hx, hd, hf, hr⟩ := rel_sl hsl
  have hxl := hx.1
  obtain ⟨n, hn⟩ : ∃ n, (rcs l).length = n := ⟨_, rfl⟩
  have hnl : n = l.length := by rw [← hn]; simp [rcs]
  have hone : ∀ u ∈ xs, u.oneCell' = true := Rel.slOne (own := false) (k := 11) (rows := rcs l) hk hxl (rcs_free l) hr
  rw [hn] at hx hxl hd
  obtain ⟨_, ao, cap, rfl, h2, h3, h4⟩ := id hx
  refine (with_ok nb hx hone (by omega) i (by omega) s0 s1 m.rd m.rg m.wg m.acc m.ended m.rst m.cls m.ri m.wi).mono ?_
  rintro e w' ⟨g, o, c', rfl, hg1, hg2, hc1, hc2, hF, hcell⟩
  refine ⟨_, _, H, β, _, Ow, rfl, hQ, post_fresh hHR hF (fun g' o' => g' = g ∧ o ≤ o' ∧ o' < o + n * 11) (fun g' o' h => ⟨by omega, by omega⟩) ?_ ?_ rfl⟩
  · have hlen' : (rcs (l.set i m)).length = n := by rw [hnl]; simp [rcs]
    have hR : ∀ g' o', Rd g' o' → (Rd g' o' ∨ (g' = g ∧ o ≤ o' ∧ o' < o + n * 11)) ∧ w'.cell? ⟨g', o', none⟩ = w.cell? ⟨g', o', none⟩ := fun g' o' hg' =>
      ⟨.inl hg', World.cell?_of_block (a := ⟨g', o', none⟩) (hF.block g' (hHR.rds g' o' hg') (fun h => h))⟩
    obtain ⟨us, hul, hus⟩ : ∃ us : List Value, us.length = n * 11 ∧ ∀ j, j < n * 11 → us[j]? = w'.cell? ⟨g, o + j, none⟩ := by
      refine ⟨(List.range (n * 11)).map fun j => (w'.cell? ⟨g, o + j, none⟩).getD (.bool false), by simp, fun j hj => ?_⟩
      have : ∃ u, w'.cell? ⟨g, o + j, none⟩ = some u := by
        rw [hcell j hj]
        split
        · exact ⟨_, List.getElem?_eq_getElem (by simp; omega)⟩
        · exact ⟨_, List.getElem?_eq_getElem (by omega)⟩
      obtain ⟨u, hu⟩ := this
      simp [hj, hu]
    have hmove : ∀ {x : AV} {u : Value}, Rel w β Rd x u → Bnd H.length x → x.free = true → Rel w' β (fun g' o' => Rd g' o' ∨ (g' = g ∧ o ≤ o' ∧ o' < o + n * 11)) x u := fun h hb hfr =>
      h.move hb hR (fun g' hg' => by rw [own0_free hfr] at hg'; cases hg') hF.size (fun _ _ => rfl)
    refine .agg _ _ rfl ?_ ?_
    · intro x hx; simp at hx; rcases hx with rfl | rfl <;> exact ⟨rfl, rfl⟩
    · intro j x u hx hu
      match j with
      | 0 => simp at hx hu; subst hx; subst hu; exact .bool _
      | 1 =>
        simp at hx hu; subst hx; subst hu
        refine .sl false 11 _ _ us (rcs_row _) ?_ ?_ (fun h => by cases h) (rcs_free _) ?_
        · rw [hlen']
          exact ⟨hul, _, c', rfl, hc1, hc2, fun _ => ⟨g, o, rfl, fun j hj => (hus j hj).symm⟩⟩
        · intro g' o' n' c'' he j hj
          cases he
          rw [hlen'] at hj
          exact .inr ⟨rfl, by omega, by omega⟩
        · intro j x u hx hu
          have hj : j < n * 11 := by have := (List.getElem?_eq_some_iff.1 hu).1; omega
          rw [hus j hj, hcell j hj] at hu
          have hq : j / 11 < l.length := by omega
          obtain ⟨y, hy⟩ : ∃ y, (rcs (l.set i m))[j / 11]? = some y := ⟨_, List.getElem?_eq_getElem (by rw [hlen']; omega)⟩
          have hfx := flat_row (rcs_row (l.set i m)) hy (j % 11) (by omega)
          rw [show j / 11 * 11 + j % 11 = j by omega, hx] at hfx
          have hy' : y = if j / 11 = i then m.av else (l[j / 11]).av := by
            simp only [rcs, List.getElem?_map, List.getElem?_set] at hy
            by_cases hqi : i = j / 11
            · rw [if_pos hqi, if_pos hi] at hy
              simp at hy
              rw [if_pos hqi.symm]; exact hy.symm
            · rw [if_neg hqi, List.getElem?_eq_getElem hq] at hy
              simp at hy
              rw [if_neg (Ne.symm hqi)]; exact hy.symm
          by_cases hqi : j / 11 = i
          · rw [if_pos hqi] at hy'
            rw [if_pos (by omega)] at hu
            subst hy'
            have hr := hr2 (j % 11) x u hfx.symm (by
              rw [show j % 11 = j - i * 11 by omega, ← hu]; simp)
            have hmem : [x] = [x] := rfl
            exact hmove hr (by
              have : m.av ∈ rcs [m] := by simp [rcs]
              exact rcs_bnd _ [m] _ this x (List.mem_of_getElem? hfx.symm)) (rcs_free [m] m.av (by simp [rcs]) x (List.mem_of_getElem? hfx.symm)).1
          · rw [if_neg hqi] at hy'
            rw [if_neg (by omega)] at hu
            subst hy'
            have hmemr : (l[j / 11]).av ∈ rcs l := List.mem_map.2 ⟨_, List.getElem_mem _, rfl⟩
            have hfo := flat_row (rcs_row l) (i := j / 11) (r := (l[j / 11]).av) (by simp [rcs, List.getElem?_eq_getElem hq]) (j % 11) (by omega)
            rw [show j / 11 * 11 + j % 11 = j by omega] at hfo
            have hr := hr j x u (by rw [hfo, ← hfx]) hu
            exact hmove hr (rcs_bnd _ l _ hmemr x (List.mem_of_getElem? hfx.symm)) (rcs_free l _ hmemr x (List.mem_of_getElem? hfx.symm)).1
      | j + 2 => simp at hx
  · refine .agg _ (fun x hx => ?_)
    simp at hx; rcases hx with rfl | rfl
    · exact .bool _
    · exact .sl _ _ _ (rcs_bnd _ _)
end Go.Proofs.Ytgnjdfnjohgnlaa
