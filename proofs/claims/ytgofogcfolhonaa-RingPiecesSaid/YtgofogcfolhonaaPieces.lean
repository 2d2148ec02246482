/- 'RingPieces' answers true at every input, and nothing old has turned. -/
import Derived.Test.YtgofogcfolhonaaRingLaw
set_option linter.unusedVariables false
set_option linter.unusedSimpArgs false
namespace Go.Proofs.Ytgofogcfolhonaa
open Go Go.RowKit

/-- Behind k pieces, p bytes put: what is left, the ring that has it all, and the one that has p bytes. -/
def PcInv (W : World) (R ba ga bb gb N : Nat) (tl : List UInt8) (p : Nat) (o c : Nat) (wr : World) : Prop :=
  RSl wr 1 (.slice (some ⟨R, o, none⟩) (N - p) c) (N - p) (u8s (tl.drop p)) ∧ RAt wr bb 117 gb N 0 (tl.take p) ∧ RAt wr ba 117 ga N 0 tl ∧ Frm (fun _ => False) W wr

set_option maxRecDepth 100000 in
set_option maxHeartbeats 400000 in
theorem pieces_true (W : World) (ta : Option Addr) (N tc : Nat) (co : Option Addr) (M D : Nat) (tl : List UInt8) (zs : List Int) (hN1 : 1 ≤ N) (hN2 : N ≤ 1048576) (hM : M ≤ 70368744177664) (ht : RSl W 1 (.slice ta N tc) N (u8s tl)) (hzs : zs.length = M)
    (hz : ∀ k z, zs[k]? = some z → ∃ g o, co = some ⟨g, o, none⟩ ∧ W.cell? ⟨g, o + k, none⟩ = some (.int .i64 z)) (hz2 : ∀ z ∈ zs, -9223372036854775808 ≤ z ∧ z ≤ 9223372036854775807) :
    Calls Try.prog 7 #[.slice ta N tc, .slice co M D] W fun e w' => e = .returned (.bool true) ∧ Frm (fun _ => False) W w' := by
  obtain ⟨i0, hi, hz0, hz1, hz2'⟩ := info_parts Try.info5
  have htl := ht.len
  have HT := Lib.hid ht
  have HZ := Lib.hid hz
  have HZ2 := Lib.hid hz2
  clear ht hz hz2
  have hz2 := hz2'
  clear hz2'
  go_enter Try.func7, Try.ntmps7
  go_wp2_with fail
  refine (lawake_ok W).mono ?_
  rintro e w1 ⟨rfl, hf1⟩
  have HF1 := Lib.hid hf1
  clear hf1
  go_wp2_with fail
  refine (ring_new w1 N hN1 hN2).mono ?_
  rintro e w2 ⟨rfl, ra, hf2⟩
  obtain ⟨ga, hga⟩ : ∃ ga, ga = w1.heap.size := ⟨_, rfl⟩
  obtain ⟨ba, hba⟩ : ∃ ba, ba = w1.heap.size + 1 := ⟨_, rfl⟩
  rw [← hba] at ra ⊢
  rw [← hga] at ra
  have HRA := Lib.hid ra
  have HF2 := Lib.hid hf2
  have hga1 : ga < w2.heap.size := ra.glt
  have hba1 : ba < w2.heap.size := blk_lt ra.blk
  have hba2 : ga < ba := by omega
  have hW1 : W.heap.size ≤ ga := by rw [hga]; exact HF1.out.size
  clear ra hf2 hba hga
  go_wp2_with fail
  refine (ring_new w2 N hN1 hN2).mono ?_
  rintro e w3 ⟨rfl, rb, hf3⟩
  obtain ⟨gb, hgb⟩ : ∃ gb, gb = w2.heap.size := ⟨_, rfl⟩
  obtain ⟨bb, hbb⟩ : ∃ bb, bb = w2.heap.size + 1 := ⟨_, rfl⟩
  rw [← hbb] at rb ⊢
  rw [← hgb] at rb
  have HRB := Lib.hid rb
  have HRA3 := Lib.hid (HRA.out.same hf3)
  have HF3 := Lib.hid ((HF1.out.trans HF2.out).trans hf3)
  have hgb1 : gb < w3.heap.size := rb.glt
  have hbb1 : bb < w3.heap.size := blk_lt rb.blk
  have hbb2 : gb < bb := by omega
  have hgb2 : ga < gb ∧ ba < gb := by omega
  obtain ⟨hgb2, hgb3⟩ := hgb2
  clear rb hf3 hbb hgb HRA HF1 HF2
  go_wp2_with (at_builtin; refine wpList_append_osl _ rfl (.tmp 50) (.tmp 51) 66 66 rfl 5 i0 (.int .u8 0) 1 1 Try.underlying66 hi hz0 hz1 hz2 rfl _ 0 [] rfl (empty_osl w3 5) (.slice ta N tc) (N) _ rfl (src_u8 (P := Try.prog) ((HT.out.sameU HF3.out).sameU (Frm.alloc _ w3 _)) Try.underlying66) (by unfold maxLen; omega) (by omega) ?_)
  intro ao4 c4 w4 hs hf hv
  have HN4 := Lib.hid (fresh_app (w := w3) (v' := .slice ao4 (N) c4) (H := w3.heap.size + 1) (Frm.alloc _ w3 _) (fun g hg => by simp [Value.ownBlock] at hg; omega) hf (by simpa using hv) (by omega))
  have hs' := hs
  try simp only [List.nil_append, Nat.zero_add] at hs'
  have HO4 := Lib.hid hs'
  clear hs'
  clear hs hf hv
  go_wp2_with fail
  refine (ring_putAll (HRA3.out.same HN4.out.2) HO4.out.toR (fun h => by have := HN4.out.1 _ h; omega) (by simp <;> omega)).mono ?_
  rintro e w5 ⟨rfl, hn5⟩
  rw [List.nil_append] at hn5
  have HRA5 := Lib.hid hn5.1
  have HRB5 := Lib.hid ((HRB.out.same HN4.out.2).frm hn5.2 (fun h => by omega) (fun h => by omega))
  have HF5 := Lib.hid ((HF3.out.trans HN4.out.2).fresh hn5.2 (fun i hi h => by omega))
  have hs5 : w3.heap.size ≤ w5.heap.size := Nat.le_trans HN4.out.2.size hn5.2.size
  clear hn5 HRA3 HRB HF3 HN4 HO4
  go_wp2_with (at_builtin; refine wpList_append_osl _ rfl (.tmp 55) (.tmp 56) 66 66 rfl 5 i0 (.int .u8 0) 1 1 Try.underlying66 hi hz0 hz1 hz2 rfl _ 0 [] rfl (empty_osl w5 5) (.slice ta N tc) (N) _ rfl (src_u8 (P := Try.prog) ((HT.out.sameU HF5.out).sameU (Frm.alloc _ w5 _)) Try.underlying66) (by unfold maxLen; omega) (by omega) ?_)
  intro ao6 c6 w6 hs hf hv
  have HN6 := Lib.hid (fresh_app (w := w5) (v' := .slice ao6 (N) c6) (H := w5.heap.size + 1) (Frm.alloc _ w5 _) (fun g hg => by simp [Value.ownBlock] at hg; omega) hf (by simpa using hv) (by omega))
  have hs' := hs
  try simp only [List.nil_append, Nat.zero_add] at hs'
  have HO6 := Lib.hid hs'
  clear hs'
  clear hs hf hv
  obtain ⟨R, o0, hR⟩ : ∃ R o, ao6 = some ⟨R, o, none⟩ := by
    obtain ⟨_, _, _, he, _⟩ := HO6.out.shapePos (by omega)
    cases he
    exact ⟨_, _, rfl⟩
  subst hR
  have hR1 : w3.heap.size ≤ R := Nat.le_trans hs5 (HN6.out.1 R rfl)
  have hinv : PcInv W R ba ga bb gb N tl 0 o0 c6 w6 := ⟨HO6.out.toR, HRB5.out.same HN6.out.2, HRA5.out.same HN6.out.2, HF5.out.trans HN6.out.2⟩
  have HI := Lib.hid hinv
  clear hinv HRA5 HRB5 HF5 HN6 HO6
  have hRa : R ≠ ga ∧ R ≠ ba := by omega
  have hRb : R ≠ gb ∧ R ≠ bb := by omega
  clear hs5
  go_wp2
  go_loopw [9, 60] (fun r i wr => ∃ k p o c : Nat, k ≤ M ∧ i = .int .i64 k ∧ p ≤ N ∧ r = .slice (some ⟨R, o, none⟩) (N - p) c ∧ PcInv W R ba ga bb gb N tl p o c wr) (fun _ i _ => M - (intOf i).toNat)
  case atStart => exact ⟨0, 0, o0, c6, Nat.zero_le _, rfl, Nat.zero_le _, rfl, HI.out⟩
  case round =>
    obtain ⟨k, p, o, c, hk, rfl, hp, rfl, hR, hB, hA, hF⟩ := hrel
    obtain ⟨hc1, hc2⟩ := hR.caps
    have HR := Lib.hid hR
    have HB := Lib.hid hB
    have HA := Lib.hid hA
    have HF := Lib.hid hF
    clear hR hB hA hF
    by_cases hkM : k < M
    · obtain ⟨z, hzz⟩ : ∃ z, zs[k]? = some z := ⟨_, List.getElem?_eq_getElem (by omega)⟩
      obtain ⟨g2, o2, hbo, cz⟩ := HZ.out k z hzz
      obtain ⟨hz3, hz4⟩ := HZ2.out z (List.mem_of_getElem? hzz)
      have hg2 : g2 < W.heap.size := World.block_lt_of_cell? _ _ cz
      have cz4 : wr.cell? ⟨g2, o2 + k, none⟩ = some (.int .i64 z) := (HF.out.cell (p := ⟨g2, o2 + k, none⟩) hg2 (fun h => h)).trans cz
      clear cz hzz
      subst hbo
      have hm0 : 0 ≤ z % (((N - p : Nat) : Int) + 1) := Int.emod_nonneg z (by omega)
      have hm1 : z % (((N - p : Nat) : Int) + 1) < ((N - p : Nat) : Int) + 1 := Int.emod_lt_of_pos z (by omega)
      go_wp2_with fail
      refine (kind_ok z (((N - p : Nat) : Int) + 1) (by omega) (by omega) hz3 hz4 wr).mono ?_
      rintro e w' ⟨rfl, rfl⟩
      obtain ⟨n, hn⟩ : ∃ n : Nat, z % (((N - p : Nat) : Int) + 1) = n := ⟨_, (Int.toNat_of_nonneg hm0).symm⟩
      rw [hn]
      rw [hn] at hm0 hm1
      have hnp : n ≤ N - p := by omega
      clear hn hm0 hm1 cz4 HZ2
      go_wp2_with (at_builtin; refine wpList_append_osl _ rfl (.tmp 70) (.tmp 73) 66 66 rfl 5 i0 (.int .u8 0) 1 1 Try.underlying66 hi hz0 hz1 hz2 rfl _ 0 [] rfl (empty_osl w' 5) (.slice (some ⟨R, o, none⟩) n c) (n) _ rfl (src_u8 (P := Try.prog) (((HR.out.pre n hnp)).sameU (Frm.alloc _ w' _)) Try.underlying66) (by unfold maxLen; omega) (by omega) ?_)
      intro ao7 c7 w7 hs hf hv
      have HN7 := Lib.hid (fresh_app (w := w') (v' := .slice ao7 (n) c7) (H := w'.heap.size + 1) (Frm.alloc _ w' _) (fun g hg => by simp [Value.ownBlock] at hg; omega) hf (by simpa using hv) (by omega))
      have hs' := hs
      try simp only [List.nil_append, Nat.zero_add] at hs'
      have HO7 := Lib.hid hs'
      clear hs'
      clear hs hf hv
      have hpl : (tl.take p).length = p := by rw [List.length_take]; omega
      have hRlt : ∀ g', (Value.slice ao7 n c7).ownBlock = some g' → g' ≠ gb := fun g' h e => by
        have h1 := HN7.out.1 g' h
        have h2 := HB.out.glt
        omega
      go_wp2_with fail
      refine (ring_put (HB.out.same HN7.out.2) HO7.out.toR (fun h => hRlt gb h rfl)).mono ?_
      rintro e w8 ⟨rfl, hn8⟩
      have hmn : Nat.min n (N - (tl.take p).length) = n := by rw [hpl]; exact Nat.min_eq_left hnp
      rw [hmn]
      have hlist : tl.take p ++ ((tl.drop p).take n).take (N - (tl.take p).length) = tl.take (p + n) := by
        rw [List.take_of_length_le (l := (tl.drop p).take n) (by rw [List.length_take, hpl]; omega), List.take_add]
      rw [hlist] at hn8
      have hsize : W.heap.size ≤ w'.heap.size := HF.out.size
      have hWgb : W.heap.size ≤ gb := by omega
      have RB2 := Lib.hid hn8.1
      have RA2 := Lib.hid ((HA.out.same HN7.out.2).frm hn8.2 (fun h => by omega) (fun h => by omega))
      have HF2 := Lib.hid ((HF.out.trans HN7.out.2).fresh hn8.2 (fun i hi h => by omega))
      have HR2 := Lib.hid ((HR.out.sameU HN7.out.2).frmU hn8.2 (fun g' h => by have h' : R = g' := (by simpa [Value.ownBlock] using h); subst h'; omega))
      have hslice : ∀ ao, (0 < N - (p + n) → ao = some ⟨R, o + n, none⟩) → RSl w8 1 (.slice ao (N - (p + n)) (c - n)) (N - (p + n)) (u8s (tl.drop (p + n))) := fun ao h => by
        have h2 := HR2.out.part n (N - (p + n)) (c - n) ao (by omega) (by omega) (by omega) h
        rw [List.drop_drop, List.take_of_length_le (by rw [List.length_drop]; omega)] at h2
        exact h2
      have HSL := Lib.hid hslice
      have hsub : N - p - n = N - (p + n) := by omega
      clear hn8 HB HA HF HN7 HO7 hRlt hmn hlist hslice HR HR2 hpl
      by_cases hnc : n < c
      · go_wp2
        go_roundw
        case rel => exact ⟨k + 1, p + n, o + n, c - n, by omega, by go_num, by omega, by first | rfl | rw [hsub], HSL.out _ (fun _ => rfl), RB2.out, RA2.out, HF2.out⟩
        case measure => simp [intOf]; omega
      · go_wp2
        go_roundw
        case rel => exact ⟨k + 1, p + n, o, c - n, by omega, by go_num, by omega, by first | rfl | rw [hsub], HSL.out _ (fun h => by omega), RB2.out, RA2.out, HF2.out⟩
        case measure => simp [intOf]; omega
    · obtain rfl : k = M := by omega
      have hpl : (tl.take p).length = p := by rw [List.length_take]; omega
      go_wp2_with fail
      refine (ring_putAll HB.out HR.out (fun h => by have h' : R = gb := (by simpa [Value.ownBlock] using h); omega) (by omega)).mono ?_
      rintro e w7 ⟨rfl, hn7⟩
      rw [List.take_append_drop] at hn7
      have RB := Lib.hid hn7.1
      have RA := Lib.hid (HA.out.frm hn7.2 (fun h => by omega) (fun h => by omega))
      have HF7 := Lib.hid (HF.out.fresh hn7.2 (fun i hi h => by omega))
      clear hn7 HB HA HF HR hpl
      go_wp2_with fail
      refine (ring_peek RA.out 0 N (Nat.zero_le _) (by omega)).mono ?_
      rintro e w8 ⟨ao8, c8, k8, rfl, ho8, hb8, hf8⟩
      rw [List.drop_zero, List.take_of_length_le (by omega)] at ho8
      have HO8 := Lib.hid ho8
      have RB8 := Lib.hid (RB.out.same hf8)
      have RA8 := Lib.hid (RA.out.same hf8)
      have HF8 := Lib.hid (HF7.out.trans hf8)
      clear ho8 hb8 hf8 RA RB HF7
      go_wp2_with fail
      refine (lsame_ok HO8.out.toR (HT.out.sameU HF8.out)).mono ?_
      rintro e w9 ⟨rfl, rfl⟩
      rw [decide_eq_true rfl]
      go_wp2_with fail
      refine (ring_take RB8.out N (by omega) (by omega)).mono ?_
      rintro e w10 ⟨ao9, c9, k9, rfl, ho9, hb9, hr9, hf9⟩
      rw [Int.toNat_natCast, List.take_of_length_le (by omega)] at ho9
      rw [Int.toNat_natCast, List.drop_of_length_le (by omega)] at hr9
      have HO9 := Lib.hid ho9
      have RB9 := Lib.hid hr9
      have hWgb : W.heap.size ≤ gb := by omega
      have RA9 := Lib.hid (RA8.out.frm hf9 (fun h => by omega) (fun h => by omega))
      have HF9 := Lib.hid (HF8.out.fresh hf9 (fun i hi h => by omega))
      clear ho9 hb9 hr9 hf9 RA8 RB8 HF8 HO8
      go_wp2_with fail
      refine (lsame_ok HO9.out.toR (HT.out.sameU HF9.out)).mono ?_
      rintro e w11 ⟨rfl, rfl⟩
      rw [decide_eq_true rfl]
      have ha0 : N - tl.length = 0 := by omega
      have hb0 : N - ([] : List UInt8).length = N := rfl
      go_wp2_with fail
      refine (ring_free RA9.out).mono ?_
      rintro e w12 ⟨rfl, rfl⟩
      rw [ha0]
      go_wp2_with fail
      refine (ring_free RB9.out).mono ?_
      rintro e w12 ⟨rfl, rfl⟩
      rw [hb0]
      go_wp2
      go_ret
      exact ⟨by simp, HF9.out⟩

set_option maxRecDepth 100000 in
set_option maxHeartbeats 400000 in
theorem pieces_short (W : World) (ta : Option Addr) (N tc : Nat) (z : Value) (hN : N < 1 ∨ 1048576 < N) (hN2 : N ≤ 9223372036854775807) :
    Calls Try.prog 7 #[.slice ta N tc, z] W fun e w' => e = .returned (.bool true) ∧ Frm (fun _ => False) W w' := by
  go_enter Try.func7, Try.ntmps7
  by_cases h1 : N < 1
  · go_wp2_with fail
    refine (lawake_ok W).mono ?_
    rintro e w1 ⟨rfl, hf1⟩
    go_wp2
    go_ret
    exact ⟨rfl, hf1⟩
  · have h2 : 1048576 < N := by omega
    go_wp2_with fail
    refine (lawake_ok W).mono ?_
    rintro e w1 ⟨rfl, hf1⟩
    go_wp2
    go_ret
    exact ⟨rfl, hf1⟩
end Go.Proofs.Ytgofogcfolhonaa
