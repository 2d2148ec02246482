/- 'RingStream' answers true at every input, and nothing old has turned. -/
import Derived.Test.YtgofogcfolhonaaRingLaw
set_option linter.unusedVariables false
set_option linter.unusedSimpArgs false
namespace Go.Proofs.Ytgofogcfolhonaa
open Go Go.RowKit

/-- a bytes have come out, m wait, d are left. -/
def StInv (W : World) (R b g cap : Nat) (tl : List UInt8) (a m d : Nat) (ao : Option Addr) (co : Nat) (o c : Nat) (wr : World) : Prop :=
  RSl wr 1 (.slice (some ⟨R, o, none⟩) d c) d (u8s (tl.drop (a + m))) ∧ (∃ q, RAt wr b 117 g cap q ((tl.drop a).take m)) ∧ OSl wr 1 (.slice ao a co) a (u8s (tl.take a)) ∧
    (∀ g', (Value.slice ao a co).ownBlock = some g' → W.heap.size ≤ g' ∧ g' ≠ g ∧ g' ≠ b ∧ g' ≠ R) ∧ Frm (fun _ => False) W wr

set_option maxRecDepth 100000 in
set_option maxHeartbeats 4000000 in
theorem stream_true (W : World) (cap : Nat) (ta : Option Addr) (N tc : Nat) (cz : Option Addr) (M D : Nat) (tl : List UInt8) (zs : List Int) (hc1 : 1 ≤ cap) (hc2 : cap ≤ 1048576) (hN : N ≤ 140737488351232) (hM : M ≤ 70368744177664) (ht : RSl W 1 (.slice ta N tc) N (u8s tl)) (hzs : zs.length = M)
    (hz : ∀ k z, zs[k]? = some z → ∃ g o, cz = some ⟨g, o, none⟩ ∧ W.cell? ⟨g, o + k, none⟩ = some (.int .i64 z)) (hz2 : ∀ z ∈ zs, -9223372036854775808 ≤ z ∧ z ≤ 9223372036854775807) :
    Calls Try.prog 8 #[.int .i64 cap, .slice ta N tc, .slice cz M D] W fun e w' => e = .returned (.bool true) ∧ Frm (fun _ => False) W w' := by
  obtain ⟨i0, hi, hz0, hz1, hz2'⟩ := info_parts Try.info5
  have htl := ht.len
  have htc := ht.caps
  obtain ⟨htc1, htc2⟩ := htc
  have HT := Lib.hid ht
  have HZ := Lib.hid hz
  have HZ2 := Lib.hid hz2
  clear ht hz hz2
  have hz2 := hz2'
  clear hz2'
  go_enter Try.func8, Try.ntmps8
  go_wp2_with fail
  refine (lawake_ok W).mono ?_
  rintro e w1 ⟨rfl, hf1⟩
  have HF1 := Lib.hid hf1
  clear hf1
  go_wp2_with fail
  refine (ring_new w1 cap hc1 hc2).mono ?_
  rintro e w2 ⟨rfl, ra, hf2⟩
  obtain ⟨g, hg⟩ : ∃ g, g = w1.heap.size := ⟨_, rfl⟩
  obtain ⟨b, hb⟩ : ∃ b, b = w1.heap.size + 1 := ⟨_, rfl⟩
  rw [← hb] at ra ⊢
  rw [← hg] at ra
  have HRA := Lib.hid ra
  have HF2 := Lib.hid (HF1.out.trans hf2)
  have hg1 : g < w2.heap.size := ra.glt
  have hb1 : b < w2.heap.size := blk_lt ra.blk
  have hgb : g < b := by omega
  have hW1 : W.heap.size ≤ g := by rw [hg]; exact HF1.out.size
  clear ra hf2 hb hg HF1
  go_wp2_with (at_builtin; refine wpList_append_osl _ rfl (.tmp 36) (.tmp 37) 66 66 rfl 5 i0 (.int .u8 0) 1 1 Try.underlying66 hi hz0 hz1 hz2 rfl _ 0 [] rfl (empty_osl w2 5) (.slice ta N tc) (N) _ rfl (src_u8 (P := Try.prog) ((HT.out.sameU HF2.out).sameU (Frm.alloc _ w2 _)) Try.underlying66) (by unfold maxLen; omega) (by omega) ?_)
  intro aow3 cw3 w3 hs hf hv
  have HNw3 := Lib.hid (fresh_app (w := w2) (v' := .slice aow3 (N) cw3) (H := w2.heap.size + 1) (Frm.alloc _ w2 _) (fun g hg => by simp [Value.ownBlock] at hg; omega) hf (by simpa using hv) (by omega))
  have hs' := hs
  try simp only [List.nil_append, Nat.zero_add] at hs'
  have HOw3 := Lib.hid hs'
  clear hs' 
  obtain ⟨R, o0, hR⟩ : ∃ R o, aow3 = some ⟨R, o, none⟩ := by
    have hsome : aow3 ≠ none := by
      rintro rfl
      rcases hv with h | h <;> simp [Value.ownBlock] at h
    obtain ⟨_, ⟨he, _⟩ | ⟨g', o', c', he, _⟩⟩ := HOw3.out
    · cases he; exact absurd rfl hsome
    · cases he; exact ⟨_, _, rfl⟩
  subst hR
  clear hs hf hv
  have hR1 : w2.heap.size ≤ R := HNw3.out.1 R rfl
  have hR2 : R < w3.heap.size := HOw3.out.lt R rfl
  have hinv : StInv W R b g cap tl 0 0 N none 0 o0 cw3 w3 := ⟨HOw3.out.toR, ⟨0, HRA.out.same HNw3.out.2⟩, OSl.nil _ _, (fun g' h => by simp [Value.ownBlock] at h), HF2.out.trans HNw3.out.2⟩
  have HI := Lib.hid hinv
  clear hinv HRA HF2 HNw3 HOw3
  have hRa : R ≠ g ∧ R ≠ b := by omega
  go_wp2
  go_loopw [9, 10, 41] (fun r ou i wr => ∃ (k a m d : Nat) (ao : Option Addr) (co o c : Nat), k ≤ M ∧ i = .int .i64 k ∧ a + m + d = N ∧ r = .slice (some ⟨R, o, none⟩) d c ∧ ou = .slice ao a co ∧ R < wr.heap.size ∧ StInv W R b g cap tl a m d ao co o c wr) (fun _ _ i _ => M - (intOf i).toNat)
  case atStart => exact ⟨0, 0, 0, N, none, 0, o0, cw3, Nat.zero_le _, rfl, by omega, rfl, rfl, hR2, HI.out⟩
  case round =>
    obtain ⟨k, a, m, d, ao, co, o, c, hk, rfl, hamd, rfl, rfl, hRs, hR, ⟨q, hA⟩, hO, hOb, hF⟩ := hrel
    obtain ⟨hcc1, hcc2⟩ := hR.caps
    obtain ⟨hco1, hco2⟩ := hO.toR.caps
    have hLl : ((tl.drop a).take m).length = m := by rw [List.length_take, List.length_drop]; omega
    have hmcap : m ≤ cap := by have := hA.fits; omega
    have HR := Lib.hid hR
    have HA := Lib.hid hA
    have HOut := Lib.hid hO
    have HOb := Lib.hid hOb
    have HF := Lib.hid hF
    have HLl := Lib.hid hLl
    clear hR hA hO hOb hF hLl
    by_cases hkM : k < M
    · obtain ⟨z, hzz⟩ : ∃ z, zs[k]? = some z := ⟨_, List.getElem?_eq_getElem (by omega)⟩
      obtain ⟨g2, o2, hbo, cz⟩ := HZ.out k z hzz
      obtain ⟨hz3, hz4⟩ := HZ2.out z (List.mem_of_getElem? hzz)
      have hg2 : g2 < W.heap.size := World.block_lt_of_cell? _ _ cz
      have cz4 : wr.cell? ⟨g2, o2 + k, none⟩ = some (.int .i64 z) := (HF.out.cell (p := ⟨g2, o2 + k, none⟩) hg2 (fun h => h)).trans cz
      clear cz hzz
      subst hbo
      by_cases hodd : k % 2 = 1
      · have hod : ((k : Int) % 2 == 1) = true := by simp; omega
        have hm0 : 0 ≤ z % ((m : Int) + 1) := Int.emod_nonneg z (by omega)
        have hm1 : z % ((m : Int) + 1) < (m : Int) + 1 := Int.emod_lt_of_pos z (by omega)
        go_wp2_with fail
        refine (ring_len HA.out).mono ?_
        rintro e w' ⟨rfl, rfl⟩
        rw [HLl.out]
        go_wp2_with fail
        refine (kind_ok z ((m : Int) + 1) (by omega) (by omega) hz3 hz4 wr).mono ?_
        rintro e w' ⟨rfl, rfl⟩
        obtain ⟨n, hn⟩ : ∃ n : Nat, z % ((m : Int) + 1) = n := ⟨_, (Int.toNat_of_nonneg hm0).symm⟩
        rw [hn]
        rw [hn] at hm0 hm1
        have hnm : n ≤ m := by omega
        clear hn hm0 hm1 cz4 HZ2
        go_wp2_with fail
        refine (ring_take HA.out n (by omega) (by omega)).mono ?_
        rintro e w8 ⟨al, cl, k8, rfl, ho8, hb8, hr8, hf8⟩
        rw [Int.toNat_natCast] at ho8 hr8
        have hk8 : k8 = n := by
          have h1 := ho8.toR.len
          rw [List.length_take, HLl.out] at h1
          omega
        subst hk8
        have HL := Lib.hid ho8
        have hnow : ∀ g', (Value.slice ao a co).ownBlock = some g' → ¬ g' = b := fun g' h => (HOb.out g' h).2.2.1
        have HOut8 := Lib.hid (HOut.out.frm hf8 hnow)
        have HR8 := Lib.hid (HR.out.frmU hf8 (fun g' h => by have h' : R = g' := (by simpa [Value.ownBlock] using h); subst h'; omega))
        have HA8 := Lib.hid hr8
        have HF8 := Lib.hid (HF.out.fresh hf8 (fun i hi h => by omega))
        have hR8 : R < w8.heap.size := Nat.lt_of_lt_of_le hRs hf8.size
        have hWs : W.heap.size ≤ w8.heap.size := HF8.out.size
        clear ho8 hb8 hr8 hf8 hnow HOut HR HA HF
        have HOut := HOut8
        go_wp2_with (at_builtin; refine wpList_append_osl _ rfl (.tmp 61) (.tmp 62) 66 66 rfl 5 i0 (.int .u8 0) 1 1 Try.underlying66 hi hz0 hz1 hz2 rfl _ a _ rfl HOut8.out (.slice al k8 cl) k8 _ rfl (src_u8 (P := Try.prog) HL.out.toR Try.underlying66) (by unfold maxLen; omega) (by omega) ?_)
        intro ao2 co2 w9 hs hf hv
        rw [← u8s_append] at hs
        have hlist : tl.take a ++ ((tl.drop a).take m).take k8 = tl.take (a + k8) := by
          rw [List.take_take, Nat.min_eq_left hnm, List.take_add]
        rw [hlist] at hs
        have hlist2 : ((tl.drop a).take m).drop k8 = (tl.drop (a + k8)).take (m - k8) := by
          rw [List.drop_take, List.drop_drop]
        have hA9 := HA8.out.frm hf (fun h => (HOb.out b h).2.2.1 rfl) (fun h => (HOb.out g h).2.1 rfl)
        rw [hlist2] at hA9
        have hR9 := HR8.out.frmU hf (fun g' h h2 => by have h' : R = g' := (by simpa [Value.ownBlock] using h); subst h'; exact (HOb.out R h2).2.2.2 rfl)
        rw [show a + m = a + k8 + (m - k8) by omega] at hR9
        have hinv : StInv W R b g cap tl (a + k8) (m - k8) d ao2 co2 o c w9 := ⟨hR9, ⟨_, hA9⟩, hs, (fun g' h => by
          rcases hv with e | e
          · exact HOb.out g' (by rw [← e]; exact h)
          · rw [e] at h
            have h' := Option.some.inj h
            exact ⟨by omega, by omega, by omega, by omega⟩), HF8.out.fresh hf (fun i hi h => absurd (HOb.out i h).1 (by omega))⟩
        have HI9 := Lib.hid hinv
        have hR9' : R < w9.heap.size := Nat.lt_of_lt_of_le hR8 hf.size
        clear hs hf hv hlist hlist2 hA9 hR9 hinv HOut HOut8 HR8 HA8 HF8 HOb
        go_wp2
        go_roundw
        case rel => exact ⟨k + 1, a + k8, m - k8, d, ao2, co2, o, c, by omega, by go_num, by omega, rfl, rfl, hR9', HI9.out⟩
        case measure => simp [intOf]; omega
      · have hod : ((k : Int) % 2 == 1) = false := by simp; omega
        have hm0 : 0 ≤ z % ((d : Int) + 1) := Int.emod_nonneg z (by omega)
        have hm1 : z % ((d : Int) + 1) < (d : Int) + 1 := Int.emod_lt_of_pos z (by omega)
        go_wp2_with fail
        refine (kind_ok z ((d : Int) + 1) (by omega) (by omega) hz3 hz4 wr).mono ?_
        rintro e w' ⟨rfl, rfl⟩
        obtain ⟨n, hn⟩ : ∃ n : Nat, z % ((d : Int) + 1) = n := ⟨_, (Int.toNat_of_nonneg hm0).symm⟩
        rw [hn]
        rw [hn] at hm0 hm1
        have hnd : n ≤ d := by omega
        clear hn hm0 hm1 cz4 HZ2
        obtain ⟨fr, hfr⟩ : ∃ fr, fr = cap - m := ⟨_, rfl⟩
        have hfr1 : m + fr ≤ cap := by omega
        have hfr2 : cap ≤ m + fr := by omega
        have HFr := Lib.hid hfr
        clear hfr
        go_wp2_with fail
        refine (ring_free HA.out).mono ?_
        rintro e w' ⟨rfl, rfl⟩
        rw [HLl.out, ← HFr.out]
        by_cases hfn : fr < n
        · have htc : fr ≤ d ∧ m + fr ≤ cap := by omega
          obtain ⟨htd, htm⟩ := htc
          go_wp2_with fail
          refine (ring_free HA.out).mono ?_
          rintro e w' ⟨rfl, rfl⟩
          rw [HLl.out, ← HFr.out]
          go_wp2_with (at_builtin; refine wpList_append_osl _ rfl (.tmp 77) (.tmp 80) 66 66 rfl 5 i0 (.int .u8 0) 1 1 Try.underlying66 hi hz0 hz1 hz2 rfl _ 0 [] rfl (empty_osl w' 5) (.slice (some ⟨R, o, none⟩) n c) (n) _ rfl (src_u8 (P := Try.prog) (((HR.out.pre n hnd)).sameU (Frm.alloc _ w' _)) Try.underlying66) (by unfold maxLen; omega) (by omega) ?_)
          intro aow7 cw7 w7 hs hf hv
          have HNw7 := Lib.hid (fresh_app (w := w') (v' := .slice aow7 (n) cw7) (H := w'.heap.size + 1) (Frm.alloc _ w' _) (fun g hg => by simp [Value.ownBlock] at hg; omega) hf (by simpa using hv) (by omega))
          have hs' := hs
          try simp only [List.nil_append, Nat.zero_add] at hs'
          have HOw7 := Lib.hid hs'
          clear hs' 
          have hsz7 : W.heap.size ≤ w'.heap.size := HF.out.size
          have hnow : ∀ g', (Value.slice aow7 n cw7).ownBlock = some g' → g' ≠ g := fun g' h e => by
            have h1 := HNw7.out.1 g' h
            have h2 := HA.out.glt
            omega
          clear hs hf hv
          go_wp2_with fail
          refine (ring_put (HA.out.same HNw7.out.2) HOw7.out.toR (fun h => hnow g h rfl)).mono ?_
          rintro e w8 ⟨rfl, hn8⟩
          have hmn : Nat.min n (cap - ((tl.drop a).take m).length) = fr := by
            rw [HLl.out]
            rw [show Nat.min n (cap - m) = cap - m from Nat.min_eq_right (by omega)]; omega
          rw [hmn]
          have hlist : (tl.drop a).take m ++ ((tl.drop (a + m)).take n).take (cap - ((tl.drop a).take m).length) = (tl.drop a).take (m + fr) := by
            rw [HLl.out, List.take_take, show min (cap - m) n = fr by omega, List.take_add, List.drop_drop]
          rw [hlist] at hn8
          have hLl8 : ((tl.drop a).take (m + fr)).length = m + fr := by rw [List.length_take, List.length_drop]; omega
          have HLl8 := Lib.hid hLl8
          have HA8 := Lib.hid hn8.1
          have HOut8 := Lib.hid ((HOut.out.frm HNw7.out.2 (fun _ _ h => h)).frm hn8.2 (fun g' h h2 => by have := HOb.out g' h; omega))
          have HF8 := Lib.hid ((HF.out.trans HNw7.out.2).fresh hn8.2 (fun i hi h => by omega))
          have HR8 := Lib.hid ((HR.out.sameU HNw7.out.2).frmU hn8.2 (fun g' h => by have h' : R = g' := (by simpa [Value.ownBlock] using h); subst h'; omega))
          have hR8 : R < w8.heap.size := Nat.lt_of_lt_of_le (Nat.lt_of_lt_of_le hRs HNw7.out.2.size) hn8.2.size
          have hslice : ∀ a2, (0 < d - fr → a2 = some ⟨R, o + fr, none⟩) → RSl w8 1 (.slice a2 (d - fr) (c - fr)) (d - fr) (u8s (tl.drop (a + (m + fr)))) := fun a2 h => by
            have h2 := HR8.out.part fr (d - fr) (c - fr) a2 (by omega) (by omega) (by omega) h
            rw [List.drop_drop, List.take_of_length_le (by rw [List.length_drop]; omega), Nat.add_assoc] at h2
            exact h2
          have HSL := Lib.hid hslice
          have hsum : ((a : Int) + ((m : Int) + (fr : Int)) + ((d - fr : Nat) : Int) != (N : Int)) = false := by
            rw [bne_eq_false_iff_eq]; omega
          clear hn8 hmn hlist hLl8 hslice HA HOut HF HR HNw7 HOw7 hnow
          by_cases htc2 : fr < c
          · go_wp2_with fail
            refine (ring_len HA8.out).mono ?_
            rintro e w' ⟨rfl, rfl⟩
            rw [HLl8.out]
            go_wp2_with fail
            refine (ring_len HA8.out).mono ?_
            rintro e w' ⟨rfl, rfl⟩
            rw [HLl8.out]
            go_wp2
            go_roundw
            case rel => exact ⟨k + 1, a, m + fr, d - fr, ao, co, o + fr, c - fr, by omega, by go_num, by omega, rfl, rfl, hR8, HSL.out _ (fun _ => rfl), ⟨_, HA8.out⟩, HOut8.out, HOb.out, HF8.out⟩
            case measure => simp [intOf]; omega
          · omega
        · have htc : n ≤ d ∧ m + n ≤ cap := by omega
          obtain ⟨htd, htm⟩ := htc
          go_wp2_with (at_builtin; refine wpList_append_osl _ rfl (.tmp 77) (.tmp 80) 66 66 rfl 5 i0 (.int .u8 0) 1 1 Try.underlying66 hi hz0 hz1 hz2 rfl _ 0 [] rfl (empty_osl w' 5) (.slice (some ⟨R, o, none⟩) n c) (n) _ rfl (src_u8 (P := Try.prog) (((HR.out.pre n hnd)).sameU (Frm.alloc _ w' _)) Try.underlying66) (by unfold maxLen; omega) (by omega) ?_)
          intro aow7 cw7 w7 hs hf hv
          have HNw7 := Lib.hid (fresh_app (w := w') (v' := .slice aow7 (n) cw7) (H := w'.heap.size + 1) (Frm.alloc _ w' _) (fun g hg => by simp [Value.ownBlock] at hg; omega) hf (by simpa using hv) (by omega))
          have hs' := hs
          try simp only [List.nil_append, Nat.zero_add] at hs'
          have HOw7 := Lib.hid hs'
          clear hs' 
          have hsz7 : W.heap.size ≤ w'.heap.size := HF.out.size
          have hnow : ∀ g', (Value.slice aow7 n cw7).ownBlock = some g' → g' ≠ g := fun g' h e => by
            have h1 := HNw7.out.1 g' h
            have h2 := HA.out.glt
            omega
          clear hs hf hv
          go_wp2_with fail
          refine (ring_put (HA.out.same HNw7.out.2) HOw7.out.toR (fun h => hnow g h rfl)).mono ?_
          rintro e w8 ⟨rfl, hn8⟩
          have hmn : Nat.min n (cap - ((tl.drop a).take m).length) = n := by
            rw [HLl.out]
            exact Nat.min_eq_left (by omega)
          rw [hmn]
          have hlist : (tl.drop a).take m ++ ((tl.drop (a + m)).take n).take (cap - ((tl.drop a).take m).length) = (tl.drop a).take (m + n) := by
            rw [HLl.out, List.take_take, show min (cap - m) n = n by omega, List.take_add, List.drop_drop]
          rw [hlist] at hn8
          have hLl8 : ((tl.drop a).take (m + n)).length = m + n := by rw [List.length_take, List.length_drop]; omega
          have HLl8 := Lib.hid hLl8
          have HA8 := Lib.hid hn8.1
          have HOut8 := Lib.hid ((HOut.out.frm HNw7.out.2 (fun _ _ h => h)).frm hn8.2 (fun g' h h2 => by have := HOb.out g' h; omega))
          have HF8 := Lib.hid ((HF.out.trans HNw7.out.2).fresh hn8.2 (fun i hi h => by omega))
          have HR8 := Lib.hid ((HR.out.sameU HNw7.out.2).frmU hn8.2 (fun g' h => by have h' : R = g' := (by simpa [Value.ownBlock] using h); subst h'; omega))
          have hR8 : R < w8.heap.size := Nat.lt_of_lt_of_le (Nat.lt_of_lt_of_le hRs HNw7.out.2.size) hn8.2.size
          have hslice : ∀ a2, (0 < d - n → a2 = some ⟨R, o + n, none⟩) → RSl w8 1 (.slice a2 (d - n) (c - n)) (d - n) (u8s (tl.drop (a + (m + n)))) := fun a2 h => by
            have h2 := HR8.out.part n (d - n) (c - n) a2 (by omega) (by omega) (by omega) h
            rw [List.drop_drop, List.take_of_length_le (by rw [List.length_drop]; omega), Nat.add_assoc] at h2
            exact h2
          have HSL := Lib.hid hslice
          have hsum : ((a : Int) + ((m : Int) + (n : Int)) + ((d - n : Nat) : Int) != (N : Int)) = false := by
            rw [bne_eq_false_iff_eq]; omega
          clear hn8 hmn hlist hLl8 hslice HA HOut HF HR HNw7 HOw7 hnow
          by_cases htc2 : n < c
          · go_wp2_with fail
            refine (ring_len HA8.out).mono ?_
            rintro e w' ⟨rfl, rfl⟩
            rw [HLl8.out]
            go_wp2_with fail
            refine (ring_len HA8.out).mono ?_
            rintro e w' ⟨rfl, rfl⟩
            rw [HLl8.out]
            go_wp2
            go_roundw
            case rel => exact ⟨k + 1, a, m + n, d - n, ao, co, o + n, c - n, by omega, by go_num, by omega, rfl, rfl, hR8, HSL.out _ (fun _ => rfl), ⟨_, HA8.out⟩, HOut8.out, HOb.out, HF8.out⟩
            case measure => simp [intOf]; omega
          · go_wp2_with fail
            refine (ring_len HA8.out).mono ?_
            rintro e w' ⟨rfl, rfl⟩
            rw [HLl8.out]
            go_wp2_with fail
            refine (ring_len HA8.out).mono ?_
            rintro e w' ⟨rfl, rfl⟩
            rw [HLl8.out]
            go_wp2
            go_roundw
            case rel => exact ⟨k + 1, a, m + n, d - n, ao, co, o, c - n, by omega, by go_num, by omega, rfl, rfl, hR8, HSL.out _ (fun h => by omega), ⟨_, HA8.out⟩, HOut8.out, HOb.out, HF8.out⟩
            case measure => simp [intOf]; omega
    · obtain rfl : k = M := by omega
      go_wp2_with fail
      refine (ring_len HA.out).mono ?_
      rintro e w' ⟨rfl, rfl⟩
      rw [HLl.out]
      go_wp2_with fail
      refine (ring_take HA.out m (by omega) (by omega)).mono ?_
      rintro e w8 ⟨al, cl, k8, rfl, ho8, hb8, hr8, hf8⟩
      rw [Int.toNat_natCast] at ho8 hr8
      have hk8 : k8 = m := by
        have h1 := ho8.toR.len
        rw [List.length_take, HLl.out] at h1
        omega
      subst hk8
      have HL := Lib.hid ho8
      have HOut8 := Lib.hid (HOut.out.frm hf8 (fun g' h => (HOb.out g' h).2.2.1))
      have HA8 := Lib.hid hr8
      have HF8 := Lib.hid (HF.out.fresh hf8 (fun i hi h => by omega))
      clear ho8 hb8 hr8 hf8 HOut HR HA HF
      go_wp2_with (at_builtin; refine wpList_append_osl _ rfl (.tmp 106) (.tmp 110) 66 66 rfl 5 i0 (.int .u8 0) 1 1 Try.underlying66 hi hz0 hz1 hz2 rfl _ a _ rfl HOut8.out (.slice al k8 cl) k8 _ rfl (src_u8 (P := Try.prog) HL.out.toR Try.underlying66) (by unfold maxLen; omega) (by omega) ?_)
      intro ao2 co2 w9 hs hf hv
      rw [← u8s_append] at hs
      have hlist : tl.take a ++ ((tl.drop a).take k8).take k8 = tl.take (a + k8) := by
        rw [List.take_take, Nat.min_self, List.take_add]
      rw [hlist] at hs
      have hdr : ((tl.drop a).take k8).drop k8 = [] := List.drop_of_length_le (by rw [HLl.out]; exact Nat.le_refl _)
      have hA9 := HA8.out.frm hf (fun h => (HOb.out b h).2.2.1 rfl) (fun h => (HOb.out g h).2.1 rfl)
      rw [hdr] at hA9
      have HA9 := Lib.hid hA9
      have HO9 := Lib.hid hs
      have HF9 := Lib.hid (HF8.out.fresh hf (fun i hi h => absurd (HOb.out i h).1 (by omega)))
      clear hs hf hv hlist hdr hA9 HOut8 HA8 HF8
      have hsum : ((a : Int) + (k8 : Int) + (d : Int) == (N : Int)) = true := by
        rw [beq_iff_eq]; omega
      go_wp2_with fail
      refine (lsame_ok HO9.out.toR ((HT.out.sameU HF9.out).pre (a + k8) (by omega))).mono ?_
      rintro e w' ⟨rfl, rfl⟩
      rw [decide_eq_true rfl]
      go_wp2_with fail
      refine (ring_len HA9.out).mono ?_
      rintro e w' ⟨rfl, rfl⟩
      go_wp2
      go_ret
      exact ⟨by first | rfl | simp, HF9.out⟩

set_option maxRecDepth 100000 in
set_option maxHeartbeats 400000 in
theorem stream_short (W : World) (cap : Int) (y z : Value) (hN : cap < 1 ∨ 1048576 < cap) :
    Calls Try.prog 8 #[.int .i64 cap, y, z] W fun e w' => e = .returned (.bool true) ∧ Frm (fun _ => False) W w' := by
  go_enter Try.func8, Try.ntmps8
  by_cases h1 : cap < 1
  · go_wp2_with fail
    refine (lawake_ok W).mono ?_
    rintro e w1 ⟨rfl, hf1⟩
    go_wp2
    go_ret
    exact ⟨rfl, hf1⟩
  · have h2 : 1048576 < cap := by omega
    go_wp2_with fail
    refine (lawake_ok W).mono ?_
    rintro e w1 ⟨rfl, hf1⟩
    go_wp2
    go_ret
    exact ⟨rfl, hf1⟩
end Go.Proofs.Ytgofogcfolhonaa
