/- 'RingRound' answers true at every input, and nothing old has turned. -/
import Derived.Test.YtgofogcfolhonaaRingLaw
import Derived.Test.YtgofogcfolhonaaRing5
set_option linter.unusedVariables false
set_option linter.unusedSimpArgs false
namespace Go.Proofs.Ytgofogcfolhonaa
open Go Go.RowKit

/-- A ring of d bytes whose first stands at h. -/
def RdInv (W : World) (b g cap h d : Nat) (wr : World) : Prop := ∃ l : List UInt8, l.length = d ∧ RAt wr b 117 g cap h l ∧ Frm (fun _ => False) W wr

set_option maxRecDepth 100000 in
set_option maxHeartbeats 4000000 in
theorem round_true (W : World) (cap : Nat) (cz : Option Addr) (M D : Nat) (zs : List Int) (hc1 : 1 ≤ cap) (hc2 : cap ≤ 4096) (hM : M ≤ 70368744177664) (hzs : zs.length = M)
    (hz : ∀ k z, zs[k]? = some z → ∃ g o, cz = some ⟨g, o, none⟩ ∧ W.cell? ⟨g, o + k, none⟩ = some (.int .i64 z)) (hz2 : ∀ z ∈ zs, -9223372036854775808 ≤ z ∧ z ≤ 9223372036854775807) :
    Calls Try.prog 10 #[.int .i64 cap, .slice cz M D] W fun e w' => e = .returned (.bool true) ∧ Frm (fun _ => False) W w' := by
  obtain ⟨i0, hi, hz0, hz1, hz2'⟩ := info_parts Try.info5
  have HZ := Lib.hid hz
  have HZ2 := Lib.hid hz2
  clear hz hz2
  have hz2 := hz2'
  clear hz2'
  go_enter Try.func10, Try.ntmps10
  go_wp2_with fail
  refine (lawake_ok W).mono ?_
  rintro e w1 ⟨rfl, hf1⟩
  have HF1 := Lib.hid hf1
  clear hf1
  go_wp2_with fail
  refine (ring_new w1 cap hc1 (by omega)).mono ?_
  rintro e w2 ⟨rfl, ra, hf2⟩
  obtain ⟨g, hg⟩ : ∃ g, g = w1.heap.size := ⟨_, rfl⟩
  obtain ⟨b, hb⟩ : ∃ b, b = w1.heap.size + 1 := ⟨_, rfl⟩
  rw [← hb] at ra ⊢
  rw [← hg] at ra
  have hgb : g < b := by omega
  have hW1 : W.heap.size ≤ g := by rw [hg]; exact HF1.out.size
  have hinv : RdInv W b g cap 0 0 w2 := ⟨[], rfl, ra, HF1.out.trans hf2⟩
  have HI := Lib.hid hinv
  clear ra hf2 hb hg HF1 hinv
  go_wp2
  go_loopw [7, 8, 9, 37] (fun he ha mk i wr => ∃ (k h d : Nat) (x : UInt8), k ≤ M ∧ i = .int .i64 k ∧ he = .int .i64 h ∧ ha = .int .i64 d ∧ mk = .int .u8 (x.toNat : Int) ∧ RdInv W b g cap h d wr) (fun _ _ _ i _ => M - (intOf i).toNat)
  case atStart => exact ⟨0, 0, 0, 0, Nat.zero_le _, rfl, rfl, rfl, rfl, HI.out⟩
  case round =>
    obtain ⟨k, h, d, x, hk, rfl, rfl, rfl, rfl, l, hl, hA, hF⟩ := hrel
    have hx8 : x.toNat < 256 := x.toNat_lt
    have hdc : d ≤ cap := by have := hA.fits; omega
    have hh : h < cap := hA.head
    have HA := Lib.hid hA
    have HF := Lib.hid hF
    have HL := Lib.hid hl
    clear hA hF hl
    by_cases hkM : k < M
    · obtain ⟨z, hzz⟩ : ∃ z, zs[k]? = some z := ⟨_, List.getElem?_eq_getElem (by omega)⟩
      obtain ⟨g2, o2, hbo, cz⟩ := HZ.out k z hzz
      obtain ⟨hz3, hz4⟩ := HZ2.out z (List.mem_of_getElem? hzz)
      have hg2 : g2 < W.heap.size := World.block_lt_of_cell? _ _ cz
      have cz4 : wr.cell? ⟨g2, o2 + k, none⟩ = some (.int .i64 z) := (HF.out.cell (p := ⟨g2, o2 + k, none⟩) hg2 (fun h => h)).trans cz
      clear cz hzz
      subst hbo
      have hm0 : 0 ≤ z % ((cap : Int) + 1) := Int.emod_nonneg z (by omega)
      have hm1 : z % ((cap : Int) + 1) < (cap : Int) + 1 := Int.emod_lt_of_pos z (by omega)
      go_wp2_with fail
      refine (kind_ok z ((cap : Int) + 1) (by omega) (by omega) hz3 hz4 wr).mono ?_
      rintro e w' ⟨rfl, rfl⟩
      obtain ⟨n, hn⟩ : ∃ n : Nat, z % ((cap : Int) + 1) = n := ⟨_, (Int.toNat_of_nonneg hm0).symm⟩
      rw [hn]
      rw [hn] at hm0 hm1
      have hnc : n ≤ cap := by omega
      clear hn hm0 hm1 cz4
      obtain ⟨dr, hdr⟩ : ∃ dr, dr = Nat.min n d := ⟨_, rfl⟩
      have hdr1 : dr ≤ n ∧ dr ≤ d := by rw [hdr]; exact ⟨Nat.min_le_left _ _, Nat.min_le_right _ _⟩
      obtain ⟨hdr1, hdr2⟩ := hdr1
      have hmin : min (n : Int) (d : Int) = dr := by
        rcases Nat.le_total n d with h | h
        · rw [show Nat.min n d = n from Nat.min_eq_left h] at hdr
          rw [Int.min_eq_left (by omega)]; omega
        · rw [show Nat.min n d = d from Nat.min_eq_right h] at hdr
          rw [Int.min_eq_right (by omega)]; omega
      have HDr := Lib.hid hdr
      clear hdr
      obtain ⟨h2, hh2⟩ : ∃ h2, h2 = (h + dr) % cap := ⟨_, rfl⟩
      have hrem : ((h : Int) + dr).tmod cap = h2 := by
        rw [Int.tmod_eq_emod_of_nonneg (by omega), hh2]; simp
      have hh2c : h2 < cap := by rw [hh2]; exact Nat.mod_lt _ (by omega)
      have HH2 := Lib.hid hh2
      clear hh2
      go_wp2_with fail
      refine (ring_drop HA.out n (by omega) (by omega)).mono ?_
      rintro e w8 ⟨rfl, hr8, hf8⟩
      rw [Int.toNat_natCast, HL.out, ← HDr.out] at hr8 ⊢
      rw [← HH2.out] at hr8
      have hl2 : (l.drop n).length = d - dr := by
        have := HDr.out
        have hll := HL.out
        rw [List.length_drop]
        rcases Nat.le_total n d with h | h
        · rw [show Nat.min n d = n from Nat.min_eq_left h] at this; omega
        · rw [show Nat.min n d = d from Nat.min_eq_right h] at this; omega
      have hsub : (d : Int) - dr = ((d - dr : Nat) : Int) := by omega
      have hI8 : RdInv W b g cap h2 (d - dr) w8 := ⟨_, hl2, hr8, HF.out.fresh hf8 (fun i hi h => by omega)⟩
      have HI8 := Lib.hid hI8
      clear hr8 hf8 hl2 hI8 HA HF HL
      go_wp2
      obtain ⟨wo, hwo⟩ : ∃ wo : World, wo = w8 := ⟨_, rfl⟩
      go_loopw [8, 9, 12] (fun ha mk nn wr => ∃ (d2 n2 : Nat) (y : UInt8), d2 ≤ cap ∧ n2 ≤ cap ∧ ha = .int .i64 d2 ∧ mk = .int .u8 (y.toNat : Int) ∧ nn = .int .i64 n2 ∧ RdInv W b g cap h2 d2 wr) (fun _ _ nn _ => (intOf nn).toNat)
      case atStart => exact ⟨d - dr, n, x, by omega, hnc, rfl, rfl, rfl, HI8.out⟩
      case round =>
        clear hwo wo HI8 hmin hsub hrem
        obtain ⟨d2, n2, y, hd2, hn2, rfl, rfl, rfl, l2, hl2, hA2, hF2⟩ := hrel
        have HA2 := Lib.hid hA2
        have HF2 := Lib.hid hF2
        have HL2 := Lib.hid hl2
        have hy8 : y.toNat < 256 := y.toNat_lt
        have hglt := hA2.glt
        clear hA2 hF2 hl2
        by_cases hi1 : d2 < cap
        · by_cases hi2 : 0 < n2
          · have hls : RSl (wr.alloc (.cells #[.int .u8 (y.toNat : Int)] 5)) 1 (.slice (some ⟨wr.heap.size, 0, none⟩) 1 1) 1 (u8s [y]) := (lit_osl wr 5 [y] (by show 1 ≤ maxLen; decide)).toR
            have HLS := Lib.hid hls
            clear hls
            go_wp2_with fail
            refine (ring_put (HA2.out.same (Frm.alloc _ wr _)) HLS.out (by simp [Value.ownBlock]; omega)).mono ?_
            rintro e w9 ⟨rfl, hn9⟩
            rw [HL2.out] at hn9 ⊢
            rw [show Nat.min 1 (cap - d2) = 1 from Nat.min_eq_left (by omega)]
            rw [List.take_of_length_le (l := [y]) (by simp; omega)] at hn9
            have hI9 : RdInv W b g cap h2 (d2 + 1) w9 := ⟨_, by rw [List.length_append, HL2.out]; rfl, hn9.1, (HF2.out.allocR _).fresh hn9.2 (fun i hi h => by omega)⟩
            have HI9 := Lib.hid hI9
            clear hn9 hI9 HA2 HF2 HLS
            go_wp2
            go_roundw
            case rel =>
              refine ⟨d2 + 1, n2 - 1, UInt8.ofNat (y.toNat + 1), by omega, by omega, by go_num, ?_, by go_num, HI9.out⟩
              rw [UInt8.toNat_ofNat']
              first | rfl | (congr 1; simp) | (congr 1; omega)
            case measure => simp [intOf]; omega
          · go_wp2_with fail
            refine (ring_head HA2.out).mono ?_
            rintro e w' ⟨rfl, rfl⟩
            go_wp2_with fail
            refine (ring_len HA2.out).mono ?_
            rintro e w' ⟨rfl, rfl⟩
            rw [HL2.out]
            go_wp2_with fail
            refine (ring_parts HA2.out).mono ?_
            rintro e w5 ⟨pa, ca, ka, pb, cb, kb, rfl, hoa, hob, hba, hbb, hf5⟩
            have hka : ka = Nat.min (cap - h2) d2 := by
              have h1 := hoa.toR.len
              rw [List.length_take, HL2.out] at h1
              exact h1.symm
            have hkb : kb = d2 - (cap - h2) := by
              have h1 := hob.toR.len
              rw [List.length_drop, HL2.out] at h1
              exact h1.symm
            have hk1 : ka ≤ cap - h2 := by rw [hka]; exact Nat.min_le_left _ _
            have hk2 : 0 < kb → ka = cap - h2 := fun h => by rw [hka]; exact Nat.min_eq_left (by omega)
            have hk3 : ka + kb = d2 := by
              rcases Nat.le_total (cap - h2) d2 with h | h
              · rw [show Nat.min (cap - h2) d2 = cap - h2 from Nat.min_eq_left h] at hka; omega
              · rw [show Nat.min (cap - h2) d2 = d2 from Nat.min_eq_right h] at hka; omega
            have HOA := Lib.hid hoa
            have HOB := Lib.hid hob
            have HK2 := Lib.hid hk2
            have HF5 := Lib.hid (HF2.out.trans hf5)
            have HA5 := Lib.hid (HA2.out.same hf5)
            clear hka hkb hk2 hoa hob hba hbb hf5 HF2 HA2
            go_wp2_with (at_builtin; refine wpList_append_osl _ rfl (.tmp 94) (.tmp 95) 66 66 rfl 5 i0 (.int .u8 0) 1 1 Try.underlying66 hi hz0 hz1 hz2 rfl _ 0 [] rfl (empty_osl w5 5) (.slice pa ka ca) (ka) _ rfl (src_u8 (P := Try.prog) ((HOA.out.toR).sameU (Frm.alloc _ w5 _)) Try.underlying66) (by unfold maxLen; omega) (by omega) ?_)
            intro aow6 cw6 w6 hs hf hv
            have HNw6 := Lib.hid (fresh_app (w := w5) (v' := .slice aow6 (ka) cw6) (H := w5.heap.size + 1) (Frm.alloc _ w5 _) (fun g hg => by simp [Value.ownBlock] at hg; omega) hf (by simpa using hv) (by omega))
            have hs' := hs
            try simp only [List.nil_append, Nat.zero_add] at hs'
            have HOw6 := Lib.hid hs'
            clear hs' hs hf hv
            have HOB6 := Lib.hid (HOB.out.frm HNw6.out.2 (fun _ _ h => h))
            go_wp2_with (at_builtin; refine wpList_append_osl _ rfl (.tmp 96) (.tmp 97) 66 66 rfl 5 i0 (.int .u8 0) 1 1 Try.underlying66 hi hz0 hz1 hz2 rfl _ ka _ rfl HOw6.out (.slice pb kb cb) kb _ rfl (src_u8 (P := Try.prog) HOB6.out.toR Try.underlying66) (by unfold maxLen; omega) (by omega) ?_)
            intro ao7 c7 w7 hs hf hv
            rw [← u8s_append, List.take_append_drop] at hs
            have hfa := fresh_app (w := w5) HNw6.out.2 HNw6.out.1 hf hv HNw6.out.2.size
            have HO7 := Lib.hid hs
            have HF7 := Lib.hid (HF5.out.trans hfa.2)
            have HA7 := Lib.hid (HA5.out.same hfa.2)
            clear hs hf hv hfa HOB6 HNw6 HOw6 HOA HOB HF5 HA5
            go_wp2_with fail
            refine (ring_len HA7.out).mono ?_
            rintro e w' ⟨rfl, rfl⟩
            rw [HL2.out]
            go_wp2_with fail
            refine (ring_peek HA7.out 0 d2 (Nat.zero_le _) (by omega)).mono ?_
            rintro e w8 ⟨ao8, c8, k8, rfl, ho8, hb8, hf8⟩
            rw [List.drop_zero, List.take_of_length_le (by rw [HL2.out]; exact Nat.le_refl _)] at ho8
            have HO8 := Lib.hid ho8
            have HO78 := Lib.hid (HO7.out.frm hf8 (fun _ _ h => h))
            have HF8 := Lib.hid (HF7.out.trans hf8)
            have HI9 : Hid (RdInv W b g cap h2 d2 w8) := ⟨_, HL2.out, HA7.out.same hf8, HF8.out⟩
            clear ho8 hb8 hf8 HO7 HF7 HA7
            go_wp2_with fail
            refine (lsame_ok HO78.out.toR HO8.out.toR).mono ?_
            rintro e w' ⟨rfl, rfl⟩
            rw [decide_eq_true rfl]
            by_cases hkb0 : 0 < kb
            · have hkc : ((ka : Int) != (cap : Int) - h2) = false := by
                have := HK2.out hkb0
                rw [bne_eq_false_iff_eq]; omega
              go_wp2
              go_roundw
              case rel => exact ⟨k + 1, h2, d2, y, by omega, by go_num, rfl, rfl, rfl, HI9.out⟩
              case measure => simp [intOf]; omega
            · go_wp2
              go_roundw
              case rel => exact ⟨k + 1, h2, d2, y, by omega, by go_num, rfl, rfl, rfl, HI9.out⟩
              case measure => simp [intOf]; omega
        · go_wp2_with fail
          refine (ring_head HA2.out).mono ?_
          rintro e w' ⟨rfl, rfl⟩
          go_wp2_with fail
          refine (ring_len HA2.out).mono ?_
          rintro e w' ⟨rfl, rfl⟩
          rw [HL2.out]
          go_wp2_with fail
          refine (ring_parts HA2.out).mono ?_
          rintro e w5 ⟨pa, ca, ka, pb, cb, kb, rfl, hoa, hob, hba, hbb, hf5⟩
          have hka : ka = Nat.min (cap - h2) d2 := by
            have h1 := hoa.toR.len
            rw [List.length_take, HL2.out] at h1
            exact h1.symm
          have hkb : kb = d2 - (cap - h2) := by
            have h1 := hob.toR.len
            rw [List.length_drop, HL2.out] at h1
            exact h1.symm
          have hk1 : ka ≤ cap - h2 := by rw [hka]; exact Nat.min_le_left _ _
          have hk2 : 0 < kb → ka = cap - h2 := fun h => by rw [hka]; exact Nat.min_eq_left (by omega)
          have hk3 : ka + kb = d2 := by
            rcases Nat.le_total (cap - h2) d2 with h | h
            · rw [show Nat.min (cap - h2) d2 = cap - h2 from Nat.min_eq_left h] at hka; omega
            · rw [show Nat.min (cap - h2) d2 = d2 from Nat.min_eq_right h] at hka; omega
          have HOA := Lib.hid hoa
          have HOB := Lib.hid hob
          have HK2 := Lib.hid hk2
          have HF5 := Lib.hid (HF2.out.trans hf5)
          have HA5 := Lib.hid (HA2.out.same hf5)
          clear hka hkb hk2 hoa hob hba hbb hf5 HF2 HA2
          go_wp2_with (at_builtin; refine wpList_append_osl _ rfl (.tmp 94) (.tmp 95) 66 66 rfl 5 i0 (.int .u8 0) 1 1 Try.underlying66 hi hz0 hz1 hz2 rfl _ 0 [] rfl (empty_osl w5 5) (.slice pa ka ca) (ka) _ rfl (src_u8 (P := Try.prog) ((HOA.out.toR).sameU (Frm.alloc _ w5 _)) Try.underlying66) (by unfold maxLen; omega) (by omega) ?_)
          intro aow6 cw6 w6 hs hf hv
          have HNw6 := Lib.hid (fresh_app (w := w5) (v' := .slice aow6 (ka) cw6) (H := w5.heap.size + 1) (Frm.alloc _ w5 _) (fun g hg => by simp [Value.ownBlock] at hg; omega) hf (by simpa using hv) (by omega))
          have hs' := hs
          try simp only [List.nil_append, Nat.zero_add] at hs'
          have HOw6 := Lib.hid hs'
          clear hs' hs hf hv
          have HOB6 := Lib.hid (HOB.out.frm HNw6.out.2 (fun _ _ h => h))
          go_wp2_with (at_builtin; refine wpList_append_osl _ rfl (.tmp 96) (.tmp 97) 66 66 rfl 5 i0 (.int .u8 0) 1 1 Try.underlying66 hi hz0 hz1 hz2 rfl _ ka _ rfl HOw6.out (.slice pb kb cb) kb _ rfl (src_u8 (P := Try.prog) HOB6.out.toR Try.underlying66) (by unfold maxLen; omega) (by omega) ?_)
          intro ao7 c7 w7 hs hf hv
          rw [← u8s_append, List.take_append_drop] at hs
          have hfa := fresh_app (w := w5) HNw6.out.2 HNw6.out.1 hf hv HNw6.out.2.size
          have HO7 := Lib.hid hs
          have HF7 := Lib.hid (HF5.out.trans hfa.2)
          have HA7 := Lib.hid (HA5.out.same hfa.2)
          clear hs hf hv hfa HOB6 HNw6 HOw6 HOA HOB HF5 HA5
          go_wp2_with fail
          refine (ring_len HA7.out).mono ?_
          rintro e w' ⟨rfl, rfl⟩
          rw [HL2.out]
          go_wp2_with fail
          refine (ring_peek HA7.out 0 d2 (Nat.zero_le _) (by omega)).mono ?_
          rintro e w8 ⟨ao8, c8, k8, rfl, ho8, hb8, hf8⟩
          rw [List.drop_zero, List.take_of_length_le (by rw [HL2.out]; exact Nat.le_refl _)] at ho8
          have HO8 := Lib.hid ho8
          have HO78 := Lib.hid (HO7.out.frm hf8 (fun _ _ h => h))
          have HF8 := Lib.hid (HF7.out.trans hf8)
          have HI9 : Hid (RdInv W b g cap h2 d2 w8) := ⟨_, HL2.out, HA7.out.same hf8, HF8.out⟩
          clear ho8 hb8 hf8 HO7 HF7 HA7
          go_wp2_with fail
          refine (lsame_ok HO78.out.toR HO8.out.toR).mono ?_
          rintro e w' ⟨rfl, rfl⟩
          rw [decide_eq_true rfl]
          by_cases hkb0 : 0 < kb
          · have hkc : ((ka : Int) != (cap : Int) - h2) = false := by
              have := HK2.out hkb0
              rw [bne_eq_false_iff_eq]; omega
            go_wp2
            go_roundw
            case rel => exact ⟨k + 1, h2, d2, y, by omega, by go_num, rfl, rfl, rfl, HI9.out⟩
            case measure => simp [intOf]; omega
          · go_wp2
            go_roundw
            case rel => exact ⟨k + 1, h2, d2, y, by omega, by go_num, rfl, rfl, rfl, HI9.out⟩
            case measure => simp [intOf]; omega
    · obtain rfl : k = M := by omega
      have hfit := HA.out.fits
      have hsum : (d : Int) + ((cap - d : Nat) : Int) = cap := by omega
      go_wp2_with fail
      refine (ring_len HA.out).mono ?_
      rintro e w' ⟨rfl, rfl⟩
      rw [HL.out]
      go_wp2_with fail
      refine (ring_free HA.out).mono ?_
      rintro e w' ⟨rfl, rfl⟩
      rw [HL.out]
      go_wp2
      go_ret
      exact ⟨by first | rfl | (simp <;> omega), HF.out⟩

set_option maxRecDepth 100000 in
set_option maxHeartbeats 400000 in
theorem round_short (W : World) (cap : Int) (z : Value) (hN : cap < 1 ∨ 4096 < cap) :
    Calls Try.prog 10 #[.int .i64 cap, z] W fun e w' => e = .returned (.bool true) ∧ Frm (fun _ => False) W w' := by
  go_enter Try.func10, Try.ntmps10
  by_cases h1 : cap < 1
  · go_wp2_with fail
    refine (lawake_ok W).mono ?_
    rintro e w1 ⟨rfl, hf1⟩
    go_wp2
    go_ret
    exact ⟨rfl, hf1⟩
  · have h2 : 4096 < cap := by omega
    go_wp2_with fail
    refine (lawake_ok W).mono ?_
    rintro e w1 ⟨rfl, hf1⟩
    go_wp2
    go_ret
    exact ⟨rfl, hf1⟩
end Go.Proofs.Ytgofogcfolhonaa
