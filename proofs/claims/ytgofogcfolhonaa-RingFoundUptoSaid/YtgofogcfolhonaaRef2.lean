/- The document's ring: Free, Put. -/
import Derived.Test.YtgofogcfolhonaaRef
set_option linter.unusedVariables false
set_option linter.unusedSimpArgs false
namespace Go.Proofs.Ytgofogcfolhonaa
open Go Go.RowKit

set_option maxRecDepth 100000 in
set_option maxHeartbeats 1000000 in
theorem ref_free (w : World) (cap : Nat) (lo : Option Addr) (ln lc : Nat) (gone : Int) (h1 : cap ≤ 1048576) (h2 : ln ≤ 1048576) :
    Calls Try.prog 63 #[.agg #[.int .i64 cap, .slice lo ln lc, .int .i64 gone]] w fun e w' => e = .returned (.int .i64 ((cap : Int) - ln)) ∧ Frm (fun _ => False) w w' := by
  go_enter Try.func63, Try.ntmps63
  go_wp2
  go_ret
  exact ⟨rfl, Frm.alloc _ w _⟩

set_option maxRecDepth 100000 in
set_option maxHeartbeats 1000000 in
theorem ref_put {w : World} (cap : Nat) {lo : Option Addr} {ln lc : Nat} {l : List UInt8} (gone : Int) (h1 : cap ≤ 1048576) (hl : RSl w 1 (.slice lo ln lc) ln (u8s l)) (h2 : ln ≤ cap) {po : Option Addr} {pn pc : Nat} {p : List UInt8} (hp : RSl w 1 (.slice po pn pc) pn (u8s p)) (h3 : pn ≤ 140737488351232) :
    Calls Try.prog 39 #[.agg #[.int .i64 cap, .slice lo ln lc, .int .i64 gone], .slice po pn pc] w fun e w' => ∃ ao c k, e = .returned (.tuple #[.agg #[.int .i64 cap, .slice ao k c, .int .i64 gone], .int .i64 (Nat.min pn (cap - ln) : Nat)]) ∧
      OSl w' 1 (.slice ao k c) k (u8s (l ++ p.take (cap - ln))) ∧ (∀ g', (Value.slice ao k c).ownBlock = some g' → w.heap.size ≤ g') ∧ Frm (fun _ => False) w w' := by
  obtain ⟨i0, hi, hz0, hz1, hz2⟩ := info_parts Try.info5
  have HL := Lib.hid hl
  have HP := Lib.hid hp
  clear hl hp
  obtain ⟨w0, hw0⟩ : ∃ w0, w0 = (w.alloc (.cells #[.int .i64 (cap : Int), .slice lo ln lc, .int .i64 gone] 68)).alloc (.cells #[.int .i64 0, .slice none 0 0, .int .i64 0] 68) := ⟨_, rfl⟩
  have hF0 : Frm (fun _ => False) w w0 := by rw [hw0]; exact (Frm.alloc _ w _).allocR _
  have hA0 : w0.heap[w.heap.size]? = some (.cells #[.int .i64 (cap : Int), .slice lo ln lc, .int .i64 gone] 68 (0, 0)) := by
    rw [hw0]; exact (heap_alloc_old _ _ (by simp)).trans (heap_alloc_new w _)
  have hB0 : w0.heap[w.heap.size + 1]? = some (.cells #[.int .i64 0, .slice none 0 0, .int .i64 0] 68 (0, 0)) := by
    rw [hw0]
    have := heap_alloc_new (w.alloc (.cells #[.int .i64 (cap : Int), .slice lo ln lc, .int .i64 gone] 68)) (.cells #[.int .i64 0, .slice none 0 0, .int .i64 0] 68)
    rw [show (w.alloc (.cells #[.int .i64 (cap : Int), .slice lo ln lc, .int .i64 gone] 68)).heap.size = w.heap.size + 1 by simp] at this
    exact this
  have HA0 := Lib.hid hA0
  have HB0 := Lib.hid hB0
  have HF0 := Lib.hid hF0
  have HW0 := Lib.hid hw0
  clear hA0 hB0 hF0 hw0
  by_cases hbig : cap - ln < pn
  · go_enter Try.func39, Try.ntmps39
    go_wp2_with fail
    rw [← HW0.out]
    refine (ref_free w0 cap lo ln lc gone h1 (by omega)).mono ?_
    rintro e w1 ⟨rfl, hf1⟩
    have hA1 := (hf1.block _ (blk_lt HA0.out) (fun h => h)).trans HA0.out
    obtain ⟨a0, a1, a2⟩ := three_cell hA1
    have HF1 := Lib.hid (HF0.out.trans hf1)
    have HB1 := Lib.hid ((hf1.block _ (blk_lt HB0.out) (fun h => h)).trans HB0.out)
    have HA1 := Lib.hid hA1
    clear hA1 hf1
    obtain ⟨nn, hnn⟩ : ∃ nn, nn = cap - ln := ⟨_, rfl⟩
    have hcl : (cap : Int) - ln = (nn : Int) := by omega
    have hnn1 : ln + nn ≤ cap := by omega
    have hnn2 : nn < pn := by omega
    have HNN := Lib.hid hnn
    clear hnn
    rw [hcl]
    have HCL := Lib.hid hcl
    clear hcl
    go_wp2_with fail
    refine (ref_free w1 cap lo ln lc gone h1 (by omega)).mono ?_
    rintro e w1b ⟨rfl, hf1b⟩
    rw [HCL.out]
    have hA1b := (hf1b.block _ (blk_lt HA1.out) (fun h => h)).trans HA1.out
    obtain ⟨a0, a1, a2⟩ := three_cell hA1b
    have HF1b := Lib.hid (HF1.out.trans hf1b)
    have HB1b := Lib.hid ((hf1b.block _ (blk_lt HB1.out) (fun h => h)).trans HB1.out)
    have HA1b := Lib.hid hA1b
    clear hA1b hf1b
    have hll := HL.out.len
    have hpl := HP.out.len
    go_wp2_with fail
    refine (piece_ok (HL.out.sameU HF1b.out) (by omega) 0 ln (by omega) (by omega) (by omega) (by omega)).mono ?_
    rintro e w2 ⟨a2o, c2, k2, rfl, ho2, hb2, hf2⟩
    have e2 : pieceL l 0 ln = l := by
      unfold pieceL
      rcases Nat.eq_zero_or_pos ln with hz | hz
      · rw [if_pos (.inr (by omega))]; exact (List.eq_nil_of_length_eq_zero (by omega)).symm
      · rw [if_neg (by omega), Int.toNat_natCast]; exact List.take_of_length_le (by simp; omega)
    rw [e2] at ho2
    have hk2 : k2 = ln := by have := ho2.toR.len; omega
    subst hk2
    have HO2 := Lib.hid ho2
    have HB2 := Lib.hid hb2
    have HF2 := Lib.hid (HF1b.out.trans hf2)
    have HF12 := Lib.hid hf2
    clear ho2 hb2 hf2 e2
    go_wp2_with fail
    refine (piece_ok (HP.out.sameU HF2.out) (by omega) 0 nn (by omega) (by omega) (by omega) (by omega)).mono ?_
    rintro e w3 ⟨a3o, c3, k3, rfl, ho3, hb3, hf3⟩
    have e3 : pieceL p 0 nn = p.take nn := by
      unfold pieceL
      rcases Nat.eq_zero_or_pos nn with hz | hz
      · rw [if_pos (.inr (by omega)), hz]; rfl
      · rw [if_neg (by omega), Int.toNat_natCast]; rfl
    rw [e3] at ho3
    have hk3 : k3 = nn := by have := ho3.toR.len; rw [List.length_take] at this; omega
    subst hk3
    have HO3 := Lib.hid ho3
    have HO23 := Lib.hid (HO2.out.frm hf3 (fun _ _ h => h))
    have HF3 := Lib.hid (HF2.out.trans hf3)
    have HSZ23 := Lib.hid hf3.size
    have HA3 := Lib.hid ((hf3.block _ (Nat.lt_of_lt_of_le (blk_lt HA1b.out) HF12.out.size) (fun h => h)).trans ((HF12.out.block _ (blk_lt HA1b.out) (fun h => h)).trans HA1b.out))
    have HB3 := Lib.hid ((hf3.block _ (Nat.lt_of_lt_of_le (blk_lt HB1b.out) HF12.out.size) (fun h => h)).trans ((HF12.out.block _ (blk_lt HB1b.out) (fun h => h)).trans HB1b.out))
    clear ho3 hb3 hf3 e3 a0 a1 a2 HO2
    have hsz12 : w.heap.size + 1 < w1b.heap.size := blk_lt HB1b.out
    go_wp2_with (at_builtin; refine wpList_append_osl _ rfl (.tmp 20) (.tmp 23) 66 66 rfl 5 i0 (.int .u8 0) 1 1 Try.underlying66 hi hz0 hz1 hz2 rfl _ k2 _ rfl HO23.out (.slice a3o k3 c3) k3 _ rfl (src_u8 (P := Try.prog) HO3.out.toR Try.underlying66) (by unfold maxLen; omega) (by omega) ?_)
    intro ao4 c4 w4 hs hf hv
    rw [← u8s_append] at hs
    have hnA : ¬ (Value.slice a2o k2 c2).ownBlock = some w.heap.size := fun h => by have := HB2.out _ h; omega
    have hnB : ¬ (Value.slice a2o k2 c2).ownBlock = some (w.heap.size + 1) := fun h => by have := HB2.out _ h; omega
    have hA4 := (hf.block _ (blk_lt HA3.out) hnA).trans HA3.out
    have hB4 := (hf.block _ (blk_lt HB3.out) hnB).trans HB3.out
    obtain ⟨a0, a1, a2⟩ := three_cell hA4
    obtain ⟨b0, b1, b2⟩ := three_cell hB4
    have f1 := blk_free hA4 1
    have g0 := blk_free hB4 0
    have g1 := blk_free hB4 1
    have g2 := blk_free hB4 2
    have HS := Lib.hid hs
    have HFF := Lib.hid hf
    have HV := Lib.hid hv
    clear hs hf hv hA4 hB4
    go_wp2
    have hmn : Nat.min pn (cap - k2) = k3 := by rw [← HNN.out]; exact Nat.min_eq_right (by omega)
    have htk : p.take (cap - k2) = p.take k3 := by rw [← HNN.out]
    have hsz13 : w1b.heap.size ≤ w3.heap.size := Nat.le_trans HF12.out.size HSZ23.out
    have hown : ∀ g', (Value.slice ao4 (k2 + k3) c4).ownBlock = some g' → w1b.heap.size ≤ g' := fun g' h => by
      rcases HV.out with e | e
      · exact HB2.out g' (by rw [← e]; exact h)
      · rw [e] at h; have := Option.some.inj h; omega
    have hfin : Frm (fun k => k = w.heap.size ∨ k = w.heap.size + 1) w4 ((((w4.setCell ⟨w.heap.size, 1, none⟩ (.slice ao4 (k2 + k3) c4)).setCell ⟨w.heap.size + 1, 0, none⟩ (.int .i64 (cap : Int))).setCell ⟨w.heap.size + 1, 1, none⟩ (.slice ao4 (k2 + k3) c4)).setCell ⟨w.heap.size + 1, 2, none⟩ (.int .i64 gone)) :=
      ((((Frm.refl (fun k => k = w.heap.size ∨ k = w.heap.size + 1) w4).setIn (a := ⟨w.heap.size, 1, none⟩) (.inl rfl) _).setIn (a := ⟨w.heap.size + 1, 0, none⟩) (.inr rfl) _).setIn (a := ⟨w.heap.size + 1, 1, none⟩) (.inr rfl) _).setIn (a := ⟨w.heap.size + 1, 2, none⟩) (.inr rfl) _
    refine bodyPost_ret (v := .tuple #[.agg #[.int .i64 (cap : Int), .slice ao4 (k2 + k3) c4, .int .i64 gone], .int .i64 (k3 : Int)]) (by simp [results, Try.results39, go_sem, a0, a1, a2, b0, b1, b2]) rfl ⟨ao4, c4, k2 + k3, ?_, ?_, fun g' h => by have := hown g' h; omega, ?_⟩
    · rw [hmn]
    · rw [htk]
      exact HS.out.frm hfin (fun g' h e => by have := hown g' h; omega)
    · exact (HF3.out.fresh HFF.out (fun i hi h => by have := HB2.out i h; omega)).fresh hfin (fun i hi h => by omega)
  · go_enter Try.func39, Try.ntmps39
    go_wp2_with fail
    rw [← HW0.out]
    refine (ref_free w0 cap lo ln lc gone h1 (by omega)).mono ?_
    rintro e w1 ⟨rfl, hf1⟩
    have hA1 := (hf1.block _ (blk_lt HA0.out) (fun h => h)).trans HA0.out
    obtain ⟨a0, a1, a2⟩ := three_cell hA1
    have HF1 := Lib.hid (HF0.out.trans hf1)
    have HB1 := Lib.hid ((hf1.block _ (blk_lt HB0.out) (fun h => h)).trans HB0.out)
    have HA1 := Lib.hid hA1
    clear hA1 hf1
    have hll := HL.out.len
    have hpl := HP.out.len
    go_wp2_with fail
    refine (piece_ok (HL.out.sameU HF1.out) (by omega) 0 ln (by omega) (by omega) (by omega) (by omega)).mono ?_
    rintro e w2 ⟨a2o, c2, k2, rfl, ho2, hb2, hf2⟩
    have e2 : pieceL l 0 ln = l := by
      unfold pieceL
      rcases Nat.eq_zero_or_pos ln with hz | hz
      · rw [if_pos (.inr (by omega))]; exact (List.eq_nil_of_length_eq_zero (by omega)).symm
      · rw [if_neg (by omega), Int.toNat_natCast]; exact List.take_of_length_le (by simp; omega)
    rw [e2] at ho2
    have hk2 : k2 = ln := by have := ho2.toR.len; omega
    subst hk2
    have HO2 := Lib.hid ho2
    have HB2 := Lib.hid hb2
    have HF2 := Lib.hid (HF1.out.trans hf2)
    have HF12 := Lib.hid hf2
    clear ho2 hb2 hf2 e2
    go_wp2_with fail
    refine (piece_ok (HP.out.sameU HF2.out) (by omega) 0 pn (by omega) (by omega) (by omega) (by omega)).mono ?_
    rintro e w3 ⟨a3o, c3, k3, rfl, ho3, hb3, hf3⟩
    have e3 : pieceL p 0 pn = p := by
      unfold pieceL
      rcases Nat.eq_zero_or_pos pn with hz | hz
      · rw [if_pos (.inr (by omega))]; exact (List.eq_nil_of_length_eq_zero (by omega)).symm
      · rw [if_neg (by omega), Int.toNat_natCast]; exact List.take_of_length_le (by simp; omega)
    rw [e3] at ho3
    have hk3 : k3 = pn := by have := ho3.toR.len; omega
    subst hk3
    have HO3 := Lib.hid ho3
    have HO23 := Lib.hid (HO2.out.frm hf3 (fun _ _ h => h))
    have HF3 := Lib.hid (HF2.out.trans hf3)
    have HSZ23 := Lib.hid hf3.size
    have HA3 := Lib.hid ((hf3.block _ (Nat.lt_of_lt_of_le (blk_lt HA1.out) HF12.out.size) (fun h => h)).trans ((HF12.out.block _ (blk_lt HA1.out) (fun h => h)).trans HA1.out))
    have HB3 := Lib.hid ((hf3.block _ (Nat.lt_of_lt_of_le (blk_lt HB1.out) HF12.out.size) (fun h => h)).trans ((HF12.out.block _ (blk_lt HB1.out) (fun h => h)).trans HB1.out))
    clear ho3 hb3 hf3 e3 a0 a1 a2 HO2
    have hsz12 : w.heap.size + 1 < w1.heap.size := blk_lt HB1.out
    go_wp2_with (at_builtin; refine wpList_append_osl _ rfl (.tmp 20) (.tmp 23) 66 66 rfl 5 i0 (.int .u8 0) 1 1 Try.underlying66 hi hz0 hz1 hz2 rfl _ k2 _ rfl HO23.out (.slice a3o k3 c3) k3 _ rfl (src_u8 (P := Try.prog) HO3.out.toR Try.underlying66) (by unfold maxLen; omega) (by omega) ?_)
    intro ao4 c4 w4 hs hf hv
    rw [← u8s_append] at hs
    have hnA : ¬ (Value.slice a2o k2 c2).ownBlock = some w.heap.size := fun h => by have := HB2.out _ h; omega
    have hnB : ¬ (Value.slice a2o k2 c2).ownBlock = some (w.heap.size + 1) := fun h => by have := HB2.out _ h; omega
    have hA4 := (hf.block _ (blk_lt HA3.out) hnA).trans HA3.out
    have hB4 := (hf.block _ (blk_lt HB3.out) hnB).trans HB3.out
    obtain ⟨a0, a1, a2⟩ := three_cell hA4
    obtain ⟨b0, b1, b2⟩ := three_cell hB4
    have f1 := blk_free hA4 1
    have g0 := blk_free hB4 0
    have g1 := blk_free hB4 1
    have g2 := blk_free hB4 2
    have HS := Lib.hid hs
    have HFF := Lib.hid hf
    have HV := Lib.hid hv
    clear hs hf hv hA4 hB4
    go_wp2
    have hmn : Nat.min k3 (cap - k2) = k3 := Nat.min_eq_left (by omega)
    have htk : p.take (cap - k2) = p := List.take_of_length_le (by omega)
    have hsz13 : w1.heap.size ≤ w3.heap.size := Nat.le_trans HF12.out.size HSZ23.out
    have hown : ∀ g', (Value.slice ao4 (k2 + k3) c4).ownBlock = some g' → w1.heap.size ≤ g' := fun g' h => by
      rcases HV.out with e | e
      · exact HB2.out g' (by rw [← e]; exact h)
      · rw [e] at h; have := Option.some.inj h; omega
    have hfin : Frm (fun k => k = w.heap.size ∨ k = w.heap.size + 1) w4 ((((w4.setCell ⟨w.heap.size, 1, none⟩ (.slice ao4 (k2 + k3) c4)).setCell ⟨w.heap.size + 1, 0, none⟩ (.int .i64 (cap : Int))).setCell ⟨w.heap.size + 1, 1, none⟩ (.slice ao4 (k2 + k3) c4)).setCell ⟨w.heap.size + 1, 2, none⟩ (.int .i64 gone)) :=
      ((((Frm.refl (fun k => k = w.heap.size ∨ k = w.heap.size + 1) w4).setIn (a := ⟨w.heap.size, 1, none⟩) (.inl rfl) _).setIn (a := ⟨w.heap.size + 1, 0, none⟩) (.inr rfl) _).setIn (a := ⟨w.heap.size + 1, 1, none⟩) (.inr rfl) _).setIn (a := ⟨w.heap.size + 1, 2, none⟩) (.inr rfl) _
    refine bodyPost_ret (v := .tuple #[.agg #[.int .i64 (cap : Int), .slice ao4 (k2 + k3) c4, .int .i64 gone], .int .i64 (k3 : Int)]) (by simp [results, Try.results39, go_sem, a0, a1, a2, b0, b1, b2]) rfl ⟨ao4, c4, k2 + k3, ?_, ?_, fun g' h => by have := hown g' h; omega, ?_⟩
    · rw [hmn]
    · rw [htk]
      exact HS.out.frm hfin (fun g' h e => by have := hown g' h; omega)
    · exact (HF3.out.fresh HFF.out (fun i hi h => by have := HB2.out i h; omega)).fresh hfin (fun i hi h => by omega)
end Go.Proofs.Ytgofogcfolhonaa
