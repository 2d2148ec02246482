/- Ring: New, Peek, Take, Parts, Clear. -/
import Derived.Test.YtgofogcfolhonaaRing3
set_option linter.unusedVariables false
set_option linter.unusedSimpArgs false
namespace Go.Proofs.Ytgofogcfolhonaa
open Go Go.RowKit

set_option maxRecDepth 100000 in
set_option maxHeartbeats 1000000 in
theorem ring_new (w : World) (c : Nat) (h1 : 1 ≤ c) (h2 : c ≤ 1048576) :
    Calls Try.prog 43 #[.int .i64 c] w fun e w' => e = .returned (.tuple #[.pointer (some ⟨w.heap.size + 1, 0, none⟩), .int .i64 0]) ∧ RAt w' (w.heap.size + 1) 117 w.heap.size c 0 [] ∧ Frm (fun _ => False) w w' := by
  obtain ⟨i0, hi, hz0, hz1, hz2⟩ := info_parts Try.info5
  obtain ⟨w1, hms, ho, hf, hw1⟩ := run_make_osl (P := Try.prog) w 66 5 i0 Try.underlying66 hi hz0 hz1 hz2 c c (Nat.le_refl _) (by omega)
  have HO := Lib.hid ho
  have HF := Lib.hid hf
  clear ho hf
  go_enter Try.func43, Try.ntmps43
  go_wp2
  go_ret2
  refine ⟨rfl, ⟨?_, by omega, by omega, h2, by omega, Nat.zero_le _, List.replicate c 0, HO.out.alloc _, fun i x h => by simp at h⟩, HF.out.allocR _⟩
  rw [← hw1]
  exact heap_alloc_new w1 _

theorem peek_plain (l : List UInt8) (fr n k ka t : Nat) (hk : k = Nat.min n (l.length - fr)) (ht : t = Nat.min ka (fr + k) - fr) (hA : fr < ka) (hka : ka ≤ l.length) :
    ((l.take ka).drop fr).take t ++ ((l.drop ka).drop 0).take (k - t) = (l.drop fr).take n := by
  have hk1 : k ≤ n ∧ k ≤ l.length - fr ∧ (k = n ∨ k = l.length - fr) := by
    rw [hk]
    exact ⟨Nat.min_le_left _ _, Nat.min_le_right _ _, by
      rcases Nat.le_total n (l.length - fr) with h | h
      · left; exact Nat.min_eq_left h
      · right; exact Nat.min_eq_right h⟩
  have ht1 : (t = ka - fr ∧ ka ≤ fr + k) ∨ (t = k ∧ fr + k ≤ ka) := by
    rw [ht]
    rcases Nat.le_total ka (fr + k) with h | h
    · left; rw [show Nat.min ka (fr + k) = ka from Nat.min_eq_left h]; exact ⟨rfl, h⟩
    · right; rw [show Nat.min ka (fr + k) = fr + k from Nat.min_eq_right h]; exact ⟨by omega, h⟩
  clear hk ht
  have hl1 : (((l.take ka).drop fr).take t).length = t := by rw [List.length_take, List.length_drop, List.length_take]; omega
  apply List.ext_getElem?
  intro i
  by_cases h1 : i < t
  · rw [List.getElem?_append_left (by omega), List.getElem?_take_of_lt h1, List.getElem?_drop, List.getElem?_take_of_lt (by omega), List.getElem?_take_of_lt (by omega), List.getElem?_drop]
  · rw [List.getElem?_append_right (by omega), hl1]
    by_cases h2 : i < k
    · rw [List.getElem?_take_of_lt (by omega), List.getElem?_drop, List.getElem?_drop, List.getElem?_take_of_lt (by omega), List.getElem?_drop]
      congr 1; omega
    · rw [List.getElem?_eq_none (by rw [List.length_take, List.length_drop, List.length_drop]; omega), List.getElem?_eq_none (by rw [List.length_take, List.length_drop]; omega)]

set_option maxRecDepth 100000 in
set_option maxHeartbeats 2000000 in
theorem ring_peek {w : World} {b T g cap q : Nat} {l : List UInt8} (r : RAt w b T g cap q l) (fr n : Nat) (hf : fr ≤ l.length) (hn63 : n ≤ 9223372036854775807) :
    Calls Try.prog 41 #[.pointer (some ⟨b, 0, none⟩), .int .i64 fr, .int .i64 n] w fun e w' => ∃ ao c k, e = .returned (.slice ao k c) ∧ OSl w' 1 (.slice ao k c) k (u8s ((l.drop fr).take n)) ∧ (∀ g', (Value.slice ao k c).ownBlock = some g' → w.heap.size ≤ g') ∧ Frm (fun _ => False) w w' := by
  have hfit := r.fits
  have hmax := r.max
  obtain ⟨k, hk⟩ : ∃ k, k = Nat.min n (l.length - fr) := ⟨_, rfl⟩
  have hmin : min (n : Int) ((l.length : Int) - fr) = k := by
    rcases Nat.le_total n (l.length - fr) with h | h
    · rw [show Nat.min n (l.length - fr) = n from Nat.min_eq_left h] at hk
      rw [Int.min_eq_left (by omega)]; omega
    · rw [show Nat.min n (l.length - fr) = l.length - fr from Nat.min_eq_right h] at hk
      rw [Int.min_eq_right (by omega)]; omega
  have hk1 : k ≤ n ∧ k ≤ l.length - fr := by rw [hk]; exact ⟨Nat.min_le_left _ _, Nat.min_le_right _ _⟩
  obtain ⟨hk1, hk2⟩ := hk1
  have HK := Lib.hid hk
  clear hk
  obtain ⟨i0, hi, hz0, hz1, hz2⟩ := info_parts Try.info5
  go_enter Try.func41, Try.ntmps41
  go_wp2_with fail
  refine (ring_len r).mono ?_
  rintro e w' ⟨rfl, rfl⟩
  go_wp2_with fail
  refine (ring_len r).mono ?_
  rintro e w' ⟨rfl, rfl⟩
  go_wp2_with fail
  refine (ring_two r).mono ?_
  rintro e w1 ⟨hf1, ⟨rfl, rfl⟩ | ⟨hlp, ka, hka, rfl, hra, hrb⟩⟩
  · obtain rfl : fr = 0 := by simpa using hf
    have hk0 : k = 0 := by simpa using hk2
    subst hk0
    obtain ⟨w2, hms0, ho, hf2, hw2⟩ := run_make_osl (P := Try.prog) w1 66 5 i0 Try.underlying66 hi hz0 hz1 hz2 0 0 (Nat.le_refl _) (by omega)
    have hms : (Instr.makeSlice 66 (.int .i64 0) (.int .i64 0)).run Try.prog w1 = .ok (.slice (some ⟨w1.heap.size, 0, none⟩) 0 0) w2 := hms0
    have HO := Lib.hid ho
    have HF := Lib.hid (hf1.trans hf2)
    have HSZ := Lib.hid hf1.size
    clear ho hf2 hf1 r hmin hms0
    go_wp2_with (at_builtin; refine wpList_append_osl _ rfl (.tmp 56) (.tmp 65) 66 66 rfl 5 i0 (.int .u8 0) 1 1 Try.underlying66 hi hz0 hz1 hz2 rfl _ 0 [] rfl HO.out _ 0 [] rfl (Src.ofNil _ Try.underlying66 _) (by unfold maxLen; omega) (by omega) ?_)
    intro ao' c' w3 hs3 hf3 hv3
    go_wp2
    go_ret
    have hfa := fresh_app (v' := .slice ao' 0 c') (H := w1.heap.size + 1) HF.out (fun g hg => by simp [Value.ownBlock] at hg; have := HSZ.out; omega) hf3 hv3 (by have := HSZ.out; omega)
    refine ⟨_, _, _, rfl, ?_, hfa.1, hfa.2⟩
    rw [List.drop_nil, List.take_nil]
    exact hs3
  · have hka1 : ka ≤ l.length ∧ ka ≤ cap - q := by rw [hka]; exact ⟨Nat.min_le_left _ _, Nat.min_le_right _ _⟩
    obtain ⟨hka1, hka2⟩ := hka1
    clear hka
    have HRA := Lib.hid hra
    have HRB := Lib.hid hrb
    have hhead := r.head
    obtain ⟨w2, hms0, ho, hf2, hw2⟩ := run_make_osl (P := Try.prog) w1 66 5 i0 Try.underlying66 hi hz0 hz1 hz2 0 k (Nat.zero_le _) (by omega)
    have hms : (Instr.makeSlice 66 (.int .i64 0) (.int .i64 k)).run Try.prog w1 = .ok (.slice (some ⟨w1.heap.size, 0, none⟩) 0 k) w2 := hms0
    have hgw : g < w1.heap.size := Nat.lt_of_lt_of_le r.glt hf1.size
    have HO := Lib.hid ho
    have HF2 := Lib.hid hf2
    have HF := Lib.hid (hf1.trans hf2)
    have HSZ := Lib.hid hf1.size
    clear ho hf2 hf1 r hms0 hra hrb
    by_cases hA : fr < ka
    · obtain ⟨t, ht⟩ : ∃ t, t = Nat.min ka (fr + k) - fr := ⟨_, rfl⟩
      have hmn : fr ≤ Nat.min ka (fr + k) := Nat.le_min.2 ⟨by omega, by omega⟩
      have hmin2 : min (ka : Int) ((fr : Int) + k) = ((fr + t : Nat) : Int) := by
        rcases Nat.le_total ka (fr + k) with h | h
        · rw [show Nat.min ka (fr + k) = ka from Nat.min_eq_left h] at ht
          rw [Int.min_eq_left (by omega)]; omega
        · rw [show Nat.min ka (fr + k) = fr + k from Nat.min_eq_right h] at ht
          rw [Int.min_eq_right (by omega)]; omega
      have ht1 : fr + t ≤ ka ∧ t ≤ k := by
        have a1 : Nat.min ka (fr + k) ≤ ka := Nat.min_le_left _ _
        have a2 : Nat.min ka (fr + k) ≤ fr + k := Nat.min_le_right _ _
        omega
      obtain ⟨ht1, ht2⟩ := ht1
      have HT := Lib.hid ht
      clear ht hmn
      have hs1 := (HRA.out.frame (w' := w2) (fun k hk => by have hk' : g = k := (by simpa [Value.ownBlock] using hk); subst hk'; exact HF2.out.block g hgw (fun h => h))).part fr t (ka - fr) (some ⟨g, q + fr, none⟩) (by omega) (by omega) (by unfold maxLen; omega) (fun _ => rfl)
      have HS1 := Lib.hid (src_u8 (P := Try.prog) hs1 (tx := 66) Try.underlying66)
      clear hs1
      go_wp2_with (at_builtin; refine wpList_append_osl _ rfl (.tmp 39) (.tmp 48) 66 66 rfl 5 i0 (.int .u8 0) 1 1 Try.underlying66 hi hz0 hz1 hz2 rfl _ 0 _ rfl HO.out (.slice (some ⟨g, q + fr, none⟩) t (ka - fr)) t _ ?c1 HS1.out (by unfold maxLen; omega) (by omega) ?_)
      case c1 => simp [Act.eval]
      intro ao' c' w3 hs3 hf3 hv3
      have hfa := fresh_app (v' := .slice ao' t c') (H := w1.heap.size + 1) HF.out (fun g hg => by simp [Value.ownBlock] at hg; have := HSZ.out; omega) hf3 hv3 (by have := HSZ.out; omega)
      have hs2 := (HRB.out.frame (w' := w3) (fun k2 hk => by
        have hk' : g = k2 := (by simpa [Value.ownBlock] using hk)
        subst hk'
        exact (hf3.block g (by omega) (fun h => by simp [Value.ownBlock] at h; omega)).trans (HF2.out.block g hgw (fun h => h)))).part 0 (k - t) (l.length - ka) (some ⟨g, 0, none⟩) (by omega) (by omega) (by unfold maxLen; omega) (fun _ => rfl)
      have HS2 := Lib.hid (src_u8 (P := Try.prog) hs2 (tx := 66) Try.underlying66)
      have HS3 := Lib.hid hs3
      have HFA := Lib.hid hfa
      have hB3 : ∀ g', (Value.slice ao' t c').ownBlock = some g' → g' < w3.heap.size := hs3.lt
      have hsz3 : w.heap.size ≤ w3.heap.size := hfa.2.size
      have HSZ3 := Lib.hid hsz3
      clear hs2 hs3 hf3 hv3 hfa hB3 hsz3
      go_wp2_with (at_builtin; refine wpList_append_osl _ rfl (.tmp 56) (.tmp 65) 66 66 rfl 5 i0 (.int .u8 0) 1 1 Try.underlying66 hi hz0 hz1 hz2 rfl _ t _ rfl HS3.out (.slice (some ⟨g, 0, none⟩) (k - t) (l.length - ka)) (k - t) _ ?c2 HS2.out (by unfold maxLen; omega) (by omega) ?_)
      case c2 => simp [Act.eval]
      intro ao2 c2 w4 hs4 hf4 hv4
      go_wp2
      go_ret
      have hfb := fresh_app (v' := .slice ao2 k c2) (H := w3.heap.size) HFA.out.2 HFA.out.1 hf4 hv4 HSZ3.out
      refine ⟨_, _, _, rfl, ?_, hfb.1, hfb.2⟩
      have e1 := peek_plain l fr n k ka t HK.out HT.out hA hka1
      rw [← e1, u8s_append]
      exact hs4
    · have hs2 := fun ao h => (HRB.out.frame (w' := w2) (fun k2 hk => by
        have hk' : g = k2 := (by simpa [Value.ownBlock] using hk)
        subst hk'
        exact HF2.out.block g hgw (fun h => h))).part (fr - ka) k (l.length - ka - (fr - ka)) ao (by omega) (by omega) (by unfold maxLen; omega) h
      have e1 : ((l.drop ka).drop (fr - ka)).take k = (l.drop fr).take n := by
        rw [List.drop_drop, show ka + (fr - ka) = fr by omega]
        have := HK.out
        rcases Nat.le_total n (l.length - fr) with h | h
        · rw [this, show Nat.min n (l.length - fr) = n from Nat.min_eq_left h]
        · rw [this, show Nat.min n (l.length - fr) = l.length - fr from Nat.min_eq_right h, List.take_of_length_le (by rw [List.length_drop]; omega), List.take_of_length_le (by rw [List.length_drop]; omega)]
      rw [e1] at hs2
      have HS := Lib.hid hs2
      clear hs2 e1
      have hfk : (fr : Int) - ka = ((fr - ka : Nat) : Int) := by omega
      by_cases hB : fr - ka < l.length - ka
      · have HS2 := Lib.hid (src_u8 (P := Try.prog) (HS.out (some ⟨g, fr - ka, none⟩) (fun _ => by rw [Nat.zero_add])) (tx := 66) Try.underlying66)
        go_wp2_with (at_builtin; refine wpList_append_osl _ rfl (.tmp 56) (.tmp 65) 66 66 rfl 5 i0 (.int .u8 0) 1 1 Try.underlying66 hi hz0 hz1 hz2 rfl _ 0 _ rfl HO.out (.slice (some ⟨g, fr - ka, none⟩) k (l.length - ka - (fr - ka))) k _ ?c3 HS2.out (by unfold maxLen; omega) (by omega) ?_)
        case c3 => simp [Act.eval]; try omega
        intro ao2 c2 w4 hs4 hf4 hv4
        go_wp2
        go_ret
        have hfb := fresh_app (v' := .slice ao2 k c2) (H := w1.heap.size + 1) HF.out (fun g hg => by simp [Value.ownBlock] at hg; have := HSZ.out; omega) hf4 hv4 (by have := HSZ.out; omega)
        refine ⟨_, _, _, rfl, ?_, hfb.1, hfb.2⟩
        exact hs4
      · obtain rfl : fr = l.length := by omega
        obtain rfl : k = 0 := by omega
        have hms' : (Instr.makeSlice 66 (.int .i64 0) (.int .i64 0)).run Try.prog w1 = .ok (.slice (some ⟨w1.heap.size, 0, none⟩) 0 0) w2 := hms
        have hmin' : min (n : Int) 0 = 0 := by have := Int.natCast_nonneg n; rw [Int.min_eq_right this]
        clear hms hmin hk2 HK HS hB
        go_wp2_with (at_builtin; refine wpList_append_osl _ rfl (.tmp 56) (.tmp 65) 66 66 rfl 5 i0 (.int .u8 0) 1 1 Try.underlying66 hi hz0 hz1 hz2 rfl _ 0 _ rfl HO.out _ 0 [] rfl (Src.ofSlice _ Try.underlying66 _ 0 _ [] rfl (fun j u h => by simp at h) (by simp)) (by unfold maxLen; omega) (by omega) ?_)
        intro ao2 c2 w4 hs4 hf4 hv4
        go_wp2
        go_ret
        have hfb := fresh_app (v' := .slice ao2 0 c2) (H := w1.heap.size + 1) HF.out (fun g hg => by simp [Value.ownBlock] at hg; have := HSZ.out; omega) hf4 hv4 (by have := HSZ.out; omega)
        refine ⟨_, _, _, rfl, ?_, hfb.1, hfb.2⟩
        rw [List.drop_length, List.take_nil]
        exact hs4

set_option maxRecDepth 100000 in
set_option maxHeartbeats 2000000 in
theorem ring_take {w : World} {b T g cap q : Nat} {l : List UInt8} (r : RAt w b T g cap q l) (n : Int) (hn1 : -9223372036854775808 ≤ n) (hn2 : n ≤ 9223372036854775807) :
    Calls Try.prog 45 #[.pointer (some ⟨b, 0, none⟩), .int .i64 n] w fun e w' => ∃ ao c k, e = .returned (.slice ao k c) ∧ OSl w' 1 (.slice ao k c) k (u8s (l.take n.toNat)) ∧ (∀ g', (Value.slice ao k c).ownBlock = some g' → w.heap.size ≤ g') ∧
      RAt w' b T g cap ((q + Nat.min n.toNat l.length) % cap) (l.drop n.toNat) ∧ Frm (fun k => k = b) w w' := by
  obtain ⟨m, hm⟩ : ∃ m : Nat, m = n.toNat := ⟨_, rfl⟩
  have hmx : max n 0 = (m : Int) := by omega
  have hm63 : m ≤ 9223372036854775807 := by omega
  rw [← hm]
  have HM := Lib.hid hm
  clear hm
  go_enter Try.func45, Try.ntmps45
  go_wp2_with fail
  refine (ring_peek r 0 m (Nat.zero_le _) hm63).mono ?_
  rintro e w1 ⟨ao, c, k, rfl, ho, hb, hf⟩
  rw [List.drop_zero] at ho
  have HO := Lib.hid ho
  have HB := Lib.hid hb
  have HF := Lib.hid hf
  clear ho hb hf
  go_wp2_with fail
  refine (ring_drop (r.same HF.out) n hn1 hn2).mono ?_
  rintro e w2 ⟨rfl, hr, hf2⟩
  rw [← HM.out] at hr ⊢
  go_wp2
  go_ret
  have hblt := blk_lt r.blk
  refine ⟨_, _, _, rfl, HO.out.frm hf2 (fun g' hg' e => ?_), HB.out, hr, HF.out.then hf2 (fun _ _ h => h.elim) (fun _ _ h => h)⟩
  have := HB.out g' hg'
  omega

set_option maxRecDepth 100000 in
set_option maxHeartbeats 2000000 in
theorem ring_clear {w : World} {b T g cap q : Nat} {l : List UInt8} (r : RAt w b T g cap q l) :
    Calls Try.prog 75 #[.pointer (some ⟨b, 0, none⟩)] w fun e w' => e = .returned (.tuple #[]) ∧ RAt w' b T g cap 0 [] ∧ Frm (fun k => k = b) w w' := by
  obtain ⟨c0, c1, c2⟩ := three_cell r.blk
  have e1 := blk_free r.blk 1
  have e2 := blk_free r.blk 2
  have hB := blk_set (blk_set r.blk 1 (.int .i64 0)) 2 (.int .i64 0)
  have HB := Lib.hid hB
  clear hB
  go_enter Try.func75, Try.ntmps75
  go_wp2
  go_end0
  refine ⟨rfl, r.put (l' := []) HB.out ?_ r.pos (Nat.zero_le _) (fun st hst hs i x h => by simp at h), ((Frm.refl (fun k => k = b) w).setIn (a := ⟨b, 1, none⟩) rfl _).setIn (a := ⟨b, 2, none⟩) rfl _⟩
  exact (Below.heap_setCell _ _ _ _ (fun e => r.ne e.symm)).trans (Below.heap_setCell _ _ _ _ (fun e => r.ne e.symm))

end Go.Proofs.Ytgofogcfolhonaa
