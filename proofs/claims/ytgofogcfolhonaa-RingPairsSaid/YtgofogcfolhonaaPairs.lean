/- 'RingPairs' answers true at every input, and nothing old has turned. -/
import Derived.Test.YtgofogcfolhonaaSteady
set_option linter.unusedVariables false
set_option linter.unusedSimpArgs false
namespace Go.Proofs.Ytgofogcfolhonaa
open Go Go.RowKit

def prs (ps : List (Int × ByteArray)) : List Value := ps.flatMap fun p => [.int .i64 p.1, .string p.2]
def qs (ps : List (Int × ByteArray)) (o k : Nat) : List Value := prs ((ps.drop o).take (k - o))
theorem qs_nil (ps : List (Int × ByteArray)) (o : Nat) : qs ps o o = [] := by simp [qs, prs]
theorem qs_push (ps : List (Int × ByteArray)) (o k : Nat) (x : Int) (s : ByteArray) (ho : o ≤ k) (hk : ps[k]? = some (x, s)) : qs ps o (k + 1) = qs ps o k ++ [.int .i64 x, .string s] := by
  unfold qs prs
  have : (ps.drop o).take (k + 1 - o) = (ps.drop o).take (k - o) ++ [(x, s)] := by
    rw [show k + 1 - o = (k - o) + 1 by omega, List.take_add_one, List.getElem?_drop, show o + (k - o) = k by omega, hk]
    rfl
  rw [this, List.flatMap_append]
  rfl
theorem qs_pop (ps : List (Int × ByteArray)) (o k : Nat) (x : Int) (s : ByteArray) (ho : o < k) (hk : ps[o]? = some (x, s)) : qs ps o k = .int .i64 x :: .string s :: qs ps (o + 1) k := by
  unfold qs prs
  have hl : o < ps.length := (List.getElem?_eq_some_iff.1 hk).1
  have hv : ps[o] = (x, s) := (List.getElem?_eq_some_iff.1 hk).2
  rw [List.drop_eq_getElem_cons hl, hv, show k - o = (k - (o + 1)) + 1 by omega, List.take_succ_cons]
  rfl

/-- Behind k rounds, p taken out: the queue holds the pairs from p up to k; nothing old has turned. -/
def PInv (W : World) (b T : Nat) (cap : Int) (ps : List (Int × ByteArray)) (k p : Nat) (wr : World) : Prop :=
  ∃ v, QAt wr b T 2 cap v (k - p) (qs ps p k) ∧ (∀ g, v.ownBlock = some g → W.heap.size ≤ g) ∧ Frm (fun _ => False) W wr

set_option maxRecDepth 100000 in
set_option maxHeartbeats 4000000 in
theorem pairs_true (W : World) (cap : Int) (g o : Nat) (N C : Nat) (bo : Option Addr) (M D : Nat) (ps : List (Int × ByteArray)) (zs : List Int) (hN : N ≤ 70368744177664) (hM : M ≤ 70368744177664) (hps : ps.length = N) (hzs : zs.length = M)
    (hp : ∀ k x s, ps[k]? = some (x, s) → W.cell? ⟨g, o + k * 2, none⟩ = some (.int .i64 x) ∧ W.cell? ⟨g, o + k * 2 + 1, none⟩ = some (.string s))
    (hz : ∀ k z, zs[k]? = some z → ∃ g o, bo = some ⟨g, o, none⟩ ∧ W.cell? ⟨g, o + k, none⟩ = some (.int .i64 z)) (hc1 : 1 ≤ cap) (hc2 : cap ≤ 65536) :
    Calls Try.prog 3 #[.int .i64 cap, .slice (some ⟨g, o, none⟩) N C, .slice bo M D] W fun e w' => e = .returned (.bool true) ∧ Frm (fun _ => False) W w' := by
  have HP := Lib.hid hp
  have HZ := Lib.hid hz
  clear hp hz
  go_enter Try.func3, Try.ntmps3
  go_wp2_with (first
    | (go_at_call 14; refine (steady_true _).mono ?_; rintro e w1 ⟨rfl, hf1⟩)
    | (go_at_call 15; refine (pair_new hc1 hc2).mono ?_; rintro e w1 ⟨rfl, rfl⟩))
  have hb : W.heap.size ≤ w1.heap.size := hf1.size
  have HQ0 := Lib.hid (QAt.fresh w1 102 2 cap)
  have HF1 := Lib.hid hf1
  clear hf1
  go_loopw [9, 10, 41] (fun t o i wr => ∃ k p : Nat, p ≤ k ∧ k ≤ N ∧ (k : Int) - p ≤ cap ∧ t = .int .i64 k ∧ o = .int .i64 p ∧ i = .int .i64 k ∧ PInv W w1.heap.size 102 cap ps k p wr) (fun _ _ i _ => N - (intOf i).toNat)
  case atStart =>
    refine ⟨0, 0, Nat.le_refl _, Nat.zero_le _, by omega, rfl, rfl, rfl, .slice none 0 0, ?_, ?_, HF1.out.trans (Frm.alloc _ _ _)⟩
    · rw [qs_nil]; exact HQ0.out
    · intro g hg; cases hg
  case round =>
    obtain ⟨k, p, hpk, hkN, hkc, rfl, rfl, rfl, v, hQ, hv, hF⟩ := hrel
    have hbr : w1.heap.size < wr.heap.size := lt_of_block hQ.1
    have HL := Lib.hid hQ.2.1.lt
    have HQ := Lib.hid hQ
    have HF := Lib.hid hF
    have HV := Lib.hid hv
    clear hQ hF hv
    by_cases hlt : k < N
    · obtain ⟨q, hxs⟩ : ∃ q, ps[k]? = some q := ⟨_, List.getElem?_eq_getElem (by omega)⟩
      obtain ⟨x, s⟩ := q
      obtain ⟨cx, cs⟩ := HP.out k x s hxs
      have hgW : g < W.heap.size := World.block_lt_of_cell? _ _ cx
      have cx' : wr.cell? ⟨g, o + k * 2, none⟩ = some (.int .i64 x) := (HF.out.cell (p := ⟨g, o + k * 2, none⟩) hgW (fun h => h)).trans cx
      have cs' : wr.cell? ⟨g, o + k * 2 + 1, none⟩ = some (.string s) := (HF.out.cell (p := ⟨g, o + k * 2 + 1, none⟩) hgW (fun h => h)).trans cs
      have HX := Lib.hid hxs
      clear cx cs hxs
      by_cases hfull : (k : Int) - p = cap
      · have hfb : ((k : Int) - p == cap) = true := by simpa using hfull
        have HFull := Lib.hid hfull
        clear hfull
        go_wp2_with (first
          | (go_at_call 16; refine (pair_push_full (HQ.out.alloc _) (by have := HFull.out; omega) _ _).mono ?_; rintro e w2 ⟨rfl, hf2⟩))
        have hpk2 : p < k := by have := HFull.out; omega
        have HQ2 := Lib.hid ((HQ.out.alloc (.cells #[.int .i64 x, .string s] 30)).same hf2)
        have HF2 := Lib.hid ((HF.out.allocR (.cells #[.int .i64 x, .string s] 30)).trans hf2)
        have hs2 := hf2.size
        have H2 := Lib.hid hf2
        clear hf2
        obtain ⟨qw3, hqw3⟩ : ∃ q, ps[p]? = some q := ⟨_, List.getElem?_eq_getElem (by omega)⟩
        obtain ⟨xw3, sw3⟩ := qw3
        obtain ⟨cxw3, csw3⟩ := HP.out (p) xw3 sw3 hqw3
        have hQw3 : QAt w2 w1.heap.size 102 2 cap v (k - (p + 1) + 1) (.int .i64 xw3 :: .string sw3 :: qs ps (p + 1) (k)) := by
          rw [← qs_pop ps (p) (k) xw3 sw3 (by omega) hqw3, show k - (p + 1) + 1 = k - (p) by omega]; exact HQ2.out
        have HXw3 := Lib.hid hqw3
        have HQw3 := Lib.hid hQw3
        have HCxw3 := Lib.hid cxw3
        have HCsw3 := Lib.hid csw3
        clear hQw3 hqw3 cxw3 csw3
        refine (pair_pop xw3 sw3 HQw3.out).mono ?_
        rintro e w3 ⟨rfl, v3, hqw3', hfw3, hvw3⟩
        have HF3 := Lib.hid (HF2.out.fresh hfw3 (fun i hi h => by
          rcases h with rfl | h
          · omega
          · exact absurd (HV.out i h) (by omega)))
        have HQ3 := Lib.hid hqw3'
        have HV3 : Hid (∀ g, v3.ownBlock = some g → W.heap.size ≤ g) := fun g hg => by
          rcases hvw3 g hg with h | h
          · exact HV.out g h
          · have := HF2.out.size; omega
        have hs3 := hfw3.size
        simp at hs2
        have hs3' : wr.heap.size < w3.heap.size := by omega
        have hnS : ¬ (wr.heap.size = w1.heap.size ∨ v.ownBlock = some wr.heap.size) := fun h => by
          rcases h with h | h
          · omega
          · have := HL.out _ h; omega
        have bx3 : w3.cell? ⟨wr.heap.size, 0, none⟩ = some (.int .i64 x) := (hfw3.cell (p := ⟨wr.heap.size, 0, none⟩) (by show wr.heap.size < _; omega) hnS).trans ((H2.out.cell (p := ⟨wr.heap.size, 0, none⟩) (by simp) (fun h => h)).trans (by simp))
        have bs3 : w3.cell? ⟨wr.heap.size, 1, none⟩ = some (.string s) := (hfw3.cell (p := ⟨wr.heap.size, 1, none⟩) (by show wr.heap.size < _; omega) hnS).trans ((H2.out.cell (p := ⟨wr.heap.size, 1, none⟩) (by simp) (fun h => h)).trans (by simp))
        have cx3 : w3.cell? ⟨g, o + p * 2, none⟩ = some (.int .i64 xw3) := (HF3.out.cell (p := ⟨g, o + p * 2, none⟩) hgW (fun h => h)).trans HCxw3.out
        have cs3 : w3.cell? ⟨g, o + p * 2 + 1, none⟩ = some (.string sw3) := (HF3.out.cell (p := ⟨g, o + p * 2 + 1, none⟩) hgW (fun h => h)).trans HCsw3.out
        have hgw3 : g < w3.heap.size := Nat.lt_of_lt_of_le hgW HF3.out.size
        have hbw3 : w1.heap.size < w3.heap.size := by omega
        have hpN : p < N := by omega
        clear hfw3 hqw3' hvw3 hs2 hs3 cx' cs' hnS
        go_wp2
        refine region_text0 (by kernel_rfl) (by kernel_rfl) (fun K hK => ?_)
        go_wp2_with fail
        refine (pair_push ((HQ3.out.alloc _).drew) (by have := HFull.out; omega) hc2 _ _).mono ?_
        rintro e w4 ⟨rfl, v4, hq4, hf4, hv4⟩
        have HF4 := Lib.hid (((HF3.out.allocR (.cells #[.int .i64 xw3, .string sw3] 30)).drewR).fresh hf4 (fun i hi h => by
          rcases h with rfl | h
          · omega
          · exact absurd (HV3.out i h) (by omega)))
        have HQ4 : Hid (QAt w4 w1.heap.size 102 2 cap v4 (k + 1 - (p + 1)) (qs ps (p + 1) (k + 1))) := by
          rw [qs_push ps (p + 1) k x s (by omega) HX.out, show k + 1 - (p + 1) = k - (p + 1) + 1 by omega]; exact hq4
        have HV4 : Hid (∀ g, v4.ownBlock = some g → W.heap.size ≤ g) := fun g hg => by
          rcases hv4 g hg with h | h
          · exact HV3.out g h
          · have := HF3.out.size; simp at h; omega
        clear hq4 hf4 hv4 bx3 bs3 cx3 cs3
        have hkc2 : (k : Int) + 1 - (p + 1) ≤ cap := by omega
        by_cases hkM : k < M
        · obtain ⟨z, hzz⟩ : ∃ z, zs[k]? = some z := ⟨_, List.getElem?_eq_getElem (by omega)⟩
          obtain ⟨g2, o2, hbo, cz⟩ := HZ.out k z hzz
          have hg2 : g2 < W.heap.size := World.block_lt_of_cell? _ _ cz
          have cz4 : w4.cell? ⟨g2, o2 + k, none⟩ = some (.int .i64 z) := (HF4.out.cell (p := ⟨g2, o2 + k, none⟩) hg2 (fun h => h)).trans cz
          clear cz hzz
          subst hbo
          by_cases hev : (z.tmod 2 == 0) = true
          · go_wp2_with fail
            obtain ⟨qw5, hqw5⟩ : ∃ q, ps[p + 1]? = some q := ⟨_, List.getElem?_eq_getElem (by omega)⟩
            obtain ⟨xw5, sw5⟩ := qw5
            obtain ⟨cxw5, csw5⟩ := HP.out (p + 1) xw5 sw5 hqw5
            have hQw5 : QAt w4 w1.heap.size 102 2 cap v4 (k + 1 - (p + 1 + 1) + 1) (.int .i64 xw5 :: .string sw5 :: qs ps (p + 1 + 1) (k + 1)) := by
              rw [← qs_pop ps (p + 1) (k + 1) xw5 sw5 (by omega) hqw5, show k + 1 - (p + 1 + 1) + 1 = k + 1 - (p + 1) by omega]; exact HQ4.out
            have HXw5 := Lib.hid hqw5
            have HQw5 := Lib.hid hQw5
            have HCxw5 := Lib.hid cxw5
            have HCsw5 := Lib.hid csw5
            clear hQw5 hqw5 cxw5 csw5
            refine (pair_pop xw5 sw5 HQw5.out).mono ?_
            rintro e w5 ⟨rfl, v5, hqw5', hfw5, hvw5⟩
            have HF5 := Lib.hid (HF4.out.fresh hfw5 (fun i hi h => by
              rcases h with rfl | h
              · omega
              · exact absurd (HV4.out i h) (by omega)))
            have HQ5 := Lib.hid hqw5'
            have HV5 : Hid (∀ g, v5.ownBlock = some g → W.heap.size ≤ g) := fun g hg => by
              rcases hvw5 g hg with h | h
              · exact HV4.out g h
              · have := HF4.out.size; omega
            have cx5 : w5.cell? ⟨g, o + (p + 1) * 2, none⟩ = some (.int .i64 xw5) := (HF5.out.cell (p := ⟨g, o + (p + 1) * 2, none⟩) hgW (fun h => h)).trans HCxw5.out
            have cs5 : w5.cell? ⟨g, o + (p + 1) * 2 + 1, none⟩ = some (.string sw5) := (HF5.out.cell (p := ⟨g, o + (p + 1) * 2 + 1, none⟩) hgW (fun h => h)).trans HCsw5.out
            have hgw5 : g < w5.heap.size := Nat.lt_of_lt_of_le hgW HF5.out.size
            clear hfw5 hqw5' hvw5 cz4
            have hpN : p + 1 < N := by omega
            go_wp2
            refine region_text0 (by kernel_rfl) (by kernel_rfl) (fun K hK => ?_)
            go_wp2
            go_roundw
            case rel => exact ⟨k + 1, p + 1 + 1, by omega, by omega, by omega, by go_num, by go_num, by go_num, v5, ((HQ5.out.alloc _).drew), HV5.out, (HF5.out.allocR _).drewR⟩
            case measure => simp [intOf]; omega
          · go_wp2
            go_roundw
            case rel => exact ⟨k + 1, p + 1, by omega, by omega, by omega, by go_num, by go_num, by go_num, v4, HQ4.out, HV4.out, HF4.out⟩
            case measure => simp [intOf]; omega
        · go_wp2
          go_roundw
          case rel => exact ⟨k + 1, p + 1, by omega, by omega, by omega, by go_num, by go_num, by go_num, v4, HQ4.out, HV4.out, HF4.out⟩
          case measure => simp [intOf]; omega
      · have hfb : ((k : Int) - p == cap) = false := by simpa using hfull
        have HFull := Lib.hid hfull
        clear hfull
        go_wp2_with fail
        refine (pair_push (HQ.out.alloc _) (by have := HFull.out; omega) hc2 _ _).mono ?_
        rintro e w4 ⟨rfl, v4, hq4, hf4, hv4⟩
        have HF4 := Lib.hid ((HF.out.allocR (.cells #[.int .i64 x, .string s] 30)).fresh hf4 (fun i hi h => by
          rcases h with rfl | h
          · omega
          · exact absurd (HV.out i h) (by omega)))
        have HQ4 : Hid (QAt w4 w1.heap.size 102 2 cap v4 (k + 1 - p) (qs ps p (k + 1))) := by
          rw [qs_push ps p k x s (by omega) HX.out, show k + 1 - p = k - p + 1 by omega]; exact hq4
        have HV4 : Hid (∀ g, v4.ownBlock = some g → W.heap.size ≤ g) := fun g hg => by
          rcases hv4 g hg with h | h
          · exact HV.out g h
          · have := HF.out.size; simp at h; omega
        have hkc2 : (k : Int) + 1 - p ≤ cap := by have := HFull.out; omega
        clear hq4 hf4 hv4 cx' cs'
        by_cases hkM : k < M
        · obtain ⟨z, hzz⟩ : ∃ z, zs[k]? = some z := ⟨_, List.getElem?_eq_getElem (by omega)⟩
          obtain ⟨g2, o2, hbo, cz⟩ := HZ.out k z hzz
          have hg2 : g2 < W.heap.size := World.block_lt_of_cell? _ _ cz
          have cz4 : w4.cell? ⟨g2, o2 + k, none⟩ = some (.int .i64 z) := (HF4.out.cell (p := ⟨g2, o2 + k, none⟩) hg2 (fun h => h)).trans cz
          clear cz hzz
          subst hbo
          by_cases hev : (z.tmod 2 == 0) = true
          · go_wp2_with fail
            obtain ⟨qw5, hqw5⟩ : ∃ q, ps[p]? = some q := ⟨_, List.getElem?_eq_getElem (by omega)⟩
            obtain ⟨xw5, sw5⟩ := qw5
            obtain ⟨cxw5, csw5⟩ := HP.out (p) xw5 sw5 hqw5
            have hQw5 : QAt w4 w1.heap.size 102 2 cap v4 (k + 1 - (p + 1) + 1) (.int .i64 xw5 :: .string sw5 :: qs ps (p + 1) (k + 1)) := by
              rw [← qs_pop ps (p) (k + 1) xw5 sw5 (by omega) hqw5, show k + 1 - (p + 1) + 1 = k + 1 - (p) by omega]; exact HQ4.out
            have HXw5 := Lib.hid hqw5
            have HQw5 := Lib.hid hQw5
            have HCxw5 := Lib.hid cxw5
            have HCsw5 := Lib.hid csw5
            clear hQw5 hqw5 cxw5 csw5
            refine (pair_pop xw5 sw5 HQw5.out).mono ?_
            rintro e w5 ⟨rfl, v5, hqw5', hfw5, hvw5⟩
            have HF5 := Lib.hid (HF4.out.fresh hfw5 (fun i hi h => by
              rcases h with rfl | h
              · omega
              · exact absurd (HV4.out i h) (by omega)))
            have HQ5 := Lib.hid hqw5'
            have HV5 : Hid (∀ g, v5.ownBlock = some g → W.heap.size ≤ g) := fun g hg => by
              rcases hvw5 g hg with h | h
              · exact HV4.out g h
              · have := HF4.out.size; omega
            have cx5 : w5.cell? ⟨g, o + (p) * 2, none⟩ = some (.int .i64 xw5) := (HF5.out.cell (p := ⟨g, o + (p) * 2, none⟩) hgW (fun h => h)).trans HCxw5.out
            have cs5 : w5.cell? ⟨g, o + (p) * 2 + 1, none⟩ = some (.string sw5) := (HF5.out.cell (p := ⟨g, o + (p) * 2 + 1, none⟩) hgW (fun h => h)).trans HCsw5.out
            have hgw5 : g < w5.heap.size := Nat.lt_of_lt_of_le hgW HF5.out.size
            clear hfw5 hqw5' hvw5 cz4
            have hpN : p < N := by omega
            go_wp2
            refine region_text0 (by kernel_rfl) (by kernel_rfl) (fun K hK => ?_)
            go_wp2
            go_roundw
            case rel => exact ⟨k + 1, p + 1, by omega, by omega, by omega, by go_num, by go_num, by go_num, v5, ((HQ5.out.alloc _).drew), HV5.out, (HF5.out.allocR _).drewR⟩
            case measure => simp [intOf]; omega
          · go_wp2
            go_roundw
            case rel => exact ⟨k + 1, p, by omega, by omega, by omega, by go_num, by go_num, by go_num, v4, HQ4.out, HV4.out, HF4.out⟩
            case measure => simp [intOf]; omega
        · go_wp2
          go_roundw
          case rel => exact ⟨k + 1, p, by omega, by omega, by omega, by go_num, by go_num, by go_num, v4, HQ4.out, HV4.out, HF4.out⟩
          case measure => simp [intOf]; omega
    · obtain rfl : k = N := by omega
      have hne : (((k - p : Nat) : Int) != (k : Int) - p) = false := by
        have : ((k - p : Nat) : Int) = (k : Int) - p := by omega
        rw [this]; simp
      go_wp2_with (go_at_call 18; refine (pair_len HQ.out).mono ?_; rintro e w' ⟨rfl, rfl⟩)
      obtain ⟨wo, hwo⟩ : ∃ wo : World, wo = wr := ⟨_, rfl⟩
      subst hwo
      clear hne
      go_loopw [10] (fun o wr => ∃ p : Nat, p ≤ k ∧ o = .int .i64 p ∧ PInv W w1.heap.size 102 cap ps k p wr) (fun o _ => k - (intOf o).toNat)
      case atStart => exact ⟨p, hpk, rfl, v, HQ.out, HV.out, HF.out⟩
      case round =>
        clear HQ HV HF HL hbr
        obtain ⟨p, hpk, rfl, v, hQ, hv, hF⟩ := hrel
        have hbr : w1.heap.size < wr.heap.size := lt_of_block hQ.1
        have HQ := Lib.hid hQ
        have HF := Lib.hid hF
        have HV := Lib.hid hv
        clear hQ hF hv
        by_cases hpk2 : p < k
        · go_wp2_with fail
          obtain ⟨qw5, hqw5⟩ : ∃ q, ps[p]? = some q := ⟨_, List.getElem?_eq_getElem (by omega)⟩
          obtain ⟨xw5, sw5⟩ := qw5
          obtain ⟨cxw5, csw5⟩ := HP.out (p) xw5 sw5 hqw5
          have hQw5 : QAt wr w1.heap.size 102 2 cap v (k - (p + 1) + 1) (.int .i64 xw5 :: .string sw5 :: qs ps (p + 1) (k)) := by
            rw [← qs_pop ps (p) (k) xw5 sw5 (by omega) hqw5, show k - (p + 1) + 1 = k - (p) by omega]; exact HQ.out
          have HXw5 := Lib.hid hqw5
          have HQw5 := Lib.hid hQw5
          have HCxw5 := Lib.hid cxw5
          have HCsw5 := Lib.hid csw5
          clear hQw5 hqw5 cxw5 csw5
          refine (pair_pop xw5 sw5 HQw5.out).mono ?_
          rintro e w5 ⟨rfl, v5, hqw5', hfw5, hvw5⟩
          have HF5 := Lib.hid (HF.out.fresh hfw5 (fun i hi h => by
            rcases h with rfl | h
            · omega
            · exact absurd (HV.out i h) (by omega)))
          have HQ5 := Lib.hid hqw5'
          have HV5 : Hid (∀ g, v5.ownBlock = some g → W.heap.size ≤ g) := fun g hg => by
            rcases hvw5 g hg with h | h
            · exact HV.out g h
            · have := HF.out.size; omega
          have hgW : g < W.heap.size := World.block_lt_of_cell? _ _ HCxw5.out
          have cx5 : w5.cell? ⟨g, o + p * 2, none⟩ = some (.int .i64 xw5) := (HF5.out.cell (p := ⟨g, o + p * 2, none⟩) hgW (fun h => h)).trans HCxw5.out
          have cs5 : w5.cell? ⟨g, o + p * 2 + 1, none⟩ = some (.string sw5) := (HF5.out.cell (p := ⟨g, o + p * 2 + 1, none⟩) hgW (fun h => h)).trans HCsw5.out
          have hgw5 : g < w5.heap.size := Nat.lt_of_lt_of_le hgW HF5.out.size
          clear hfw5 hqw5' hvw5
          go_wp2
          refine region_text0 (by kernel_rfl) (by kernel_rfl) (fun K hK => ?_)
          go_wp2
          go_roundw
          case rel => exact ⟨p + 1, by omega, by go_num, v5, ((HQ5.out.alloc _).drew), HV5.out, (HF5.out.allocR _).drewR⟩
          case measure => simp [intOf]; omega
        · obtain rfl : p = k := by omega
          have HQ0' : Hid (QAt wr w1.heap.size 102 2 cap v 0 (qs ps p p)) := by
            have := HQ.out
            rw [Nat.sub_self] at this
            exact this
          go_wp2_with (go_at_call 17; refine (pair_pop_none HQ0'.out).mono ?_; rintro e w5 ⟨rfl, hf5⟩)
          go_ret
          exact ⟨rfl, HF.out.trans hf5⟩
end Go.Proofs.Ytgofogcfolhonaa
