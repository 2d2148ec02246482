/- Ring: Parts. -/
import Derived.Test.YtgofogcfolhonaaRing4
set_option linter.unusedVariables false
set_option linter.unusedSimpArgs false
namespace Go.Proofs.Ytgofogcfolhonaa
open Go Go.RowKit

set_option maxRecDepth 100000 in
set_option maxHeartbeats 1000000 in
theorem ring_parts {w : World} {b T g cap q : Nat} {l : List UInt8} (r : RAt w b T g cap q l) :
    Calls Try.prog 52 #[.pointer (some ⟨b, 0, none⟩)] w fun e w' => ∃ ao c ka bo d kb, e = .returned (.tuple #[.slice ao ka c, .slice bo kb d]) ∧ OSl w' 1 (.slice ao ka c) ka (u8s (l.take (cap - q))) ∧ OSl w' 1 (.slice bo kb d) kb (u8s (l.drop (cap - q))) ∧
      (∀ g', (Value.slice ao ka c).ownBlock = some g' → w.heap.size ≤ g') ∧ (∀ g', (Value.slice bo kb d).ownBlock = some g' → w.heap.size ≤ g' ∧ (Value.slice ao ka c).ownBlock ≠ some g') ∧ Frm (fun _ => False) w w' := by
  have hfit := r.fits
  have hmax := r.max
  obtain ⟨i0, hi, hz0, hz1, hz2⟩ := info_parts Try.info5
  go_enter Try.func52, Try.ntmps52
  go_wp2_with fail
  refine (ring_two r).mono ?_
  rintro e w1 ⟨hf1, ⟨rfl, rfl⟩ | ⟨hlp, ka, hka, rfl, hra, hrb⟩⟩
  · go_wp2_with fail
    go_ret2
    have hsz := hf1.size
    refine ⟨_, _, _, _, _, _, rfl, ?_, ?_, ?_, ?_, (hf1.allocR _).allocR _⟩
    · rw [List.take_nil]; exact (empty_osl w1 5).alloc _
    · rw [List.drop_nil]
      have h := empty_osl (w1.alloc (.cells #[] 5)) 5
      rw [show (w1.alloc (.cells #[] 5)).heap.size = w1.heap.size + 1 by simp] at h
      exact h
    · intro g' h; simp [Value.ownBlock] at h; omega
    · intro g' h; simp [Value.ownBlock] at h ⊢; omega
  · have hka1 : ka ≤ l.length := by rw [hka]; exact Nat.min_le_left _ _
    have hta : l.take (cap - q) = l.take ka ∧ l.drop (cap - q) = l.drop ka := by
      rw [hka]
      rcases Nat.le_total l.length (cap - q) with h | h
      · rw [show Nat.min l.length (cap - q) = l.length from Nat.min_eq_left h, List.take_length, List.drop_length, List.take_of_length_le h, List.drop_of_length_le h]
        exact ⟨rfl, rfl⟩
      · rw [show Nat.min l.length (cap - q) = cap - q from Nat.min_eq_right h]
        exact ⟨rfl, rfl⟩
    have HT := Lib.hid hta
    have HRA := Lib.hid hra
    have HRB := Lib.hid hrb
    have HF1 := Lib.hid hf1
    have hsz1 := hf1.size
    clear hka hta hra hrb hf1
    go_wp2_with (at_builtin; refine wpList_append_osl _ rfl (.tmp 11) (.tmp 12) 66 66 rfl 5 i0 (.int .u8 0) 1 1 Try.underlying66 hi hz0 hz1 hz2 rfl _ 0 [] rfl (empty_osl w1 5) (.slice (some ⟨g, q, none⟩) ka ka) (ka) _ rfl (src_u8 (P := Try.prog) ((HRA.out).sameU (Frm.alloc _ w1 _)) Try.underlying66) (by unfold maxLen; omega) (by omega) ?_)
    intro aow2 cw2 w2 hs hf hv
    have HNw2 := Lib.hid (fresh_app (w := w1) (v' := .slice aow2 (ka) cw2) (H := w1.heap.size + 1) (Frm.alloc _ w1 _) (fun g hg => by simp [Value.ownBlock] at hg; omega) hf (by simpa using hv) (by omega))
    have hs' := hs
    try simp only [List.nil_append, Nat.zero_add] at hs'
    have HOw2 := Lib.hid hs'
    clear hs' hs hf hv
    have hsz2 : w1.heap.size ≤ w2.heap.size := HNw2.out.2.size
    go_wp2_with (at_builtin; refine wpList_append_osl _ rfl (.tmp 14) (.tmp 15) 66 66 rfl 5 i0 (.int .u8 0) 1 1 Try.underlying66 hi hz0 hz1 hz2 rfl _ 0 [] rfl (empty_osl w2 5) (.slice (some ⟨g, 0, none⟩) (l.length - ka) (l.length - ka)) (l.length - ka) _ rfl (src_u8 (P := Try.prog) ((HRB.out.sameU HNw2.out.2).sameU (Frm.alloc _ w2 _)) Try.underlying66) (by unfold maxLen; omega) (by omega) ?_)
    intro aow3 cw3 w3 hs hf hv
    have HNw3 := Lib.hid (fresh_app (w := w2) (v' := .slice aow3 (l.length - ka) cw3) (H := w2.heap.size + 1) (Frm.alloc _ w2 _) (fun g hg => by simp [Value.ownBlock] at hg; omega) hf (by simpa using hv) (by omega))
    have hs' := hs
    try simp only [List.nil_append, Nat.zero_add] at hs'
    have HOw3 := Lib.hid hs'
    clear hs' hs hf hv
    go_wp2
    go_ret2
    rw [HT.out.1, HT.out.2]
    refine ⟨_, _, _, _, _, _, rfl, HOw2.out.frm HNw3.out.2 (fun _ _ h => h), HOw3.out, fun g' h => Nat.le_trans hsz1 (HNw2.out.1 g' h), fun g' h => ⟨?_, fun h2 => ?_⟩, (HF1.out.trans HNw2.out.2).trans HNw3.out.2⟩
    · have := HNw3.out.1 g' h; omega
    · have a1 := HNw3.out.1 g' h
      have a2 := HOw2.out.lt g' h2
      omega
end Go.Proofs.Ytgofogcfolhonaa
