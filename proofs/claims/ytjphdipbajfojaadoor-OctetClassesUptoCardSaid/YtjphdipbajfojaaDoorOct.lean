/- The octet layer's functions and the document's, each once: what they answer. -/
import Derived.Test.YtjphdipbajfojaaDoorProg
import Derived.Test.YtjphdipbajfojaaDoorByt
import Derived.KernelRfl
set_option linter.unusedVariables false
set_option linter.unusedSimpArgs false
namespace Go.Proofs.YtjphdipbajfojaaDoor
open Go Go.RowKit

set_option maxRecDepth 100000 in
set_option maxHeartbeats 1000000 in
theorem lower_ok (s : ByteArray) (hs : s.size ≤ 140737488351232) (W : World) : Calls Tryd.prog 18 #[.string s] W fun e w' => e = .returned (.string (tx (low s.data.toList))) ∧ Frm (fun _ => False) W w' := by
  obtain ⟨cap, w1, hconv, ho, hf, hw1⟩ := run_bytes_osl (P := Tryd.prog) W 9 65 5 s Tryd.underlying9 Tryd.underlying65 Tryd.underlying5 (by simp only [maxLen]; omega)
  have HO := Lib.hid ho
  have HF := Lib.hid hf
  clear ho hf
  go_enter Tryd.func18, Tryd.ntmps18
  go_wp2
  clear hconv
  go_loopw [10] (fun i wr => ∃ k : Nat, k ≤ s.size ∧ i = .int .i64 k ∧ OSl wr 1 (.slice (some ⟨W.heap.size, 0, none⟩) s.size cap) s.size (u8s (low (s.data.toList.take k) ++ s.data.toList.drop k)) ∧ Frm (fun _ => False) W wr) (fun i _ => s.size - (intOf i).toNat)
  case atStart => exact ⟨0, Nat.zero_le _, rfl, HO.out, HF.out⟩
  case round =>
    obtain ⟨k, hk, rfl, ho, hf⟩ := hrel
    have hb : W.heap.size < wr.heap.size := ho.lt _ rfl
    have HR := Lib.hid ho
    have HG := Lib.hid hf
    clear ho hf
    by_cases hlt : k < s.size
    · obtain ⟨x, hx⟩ : ∃ x, s.data.toList[k]? = some x := ⟨_, List.getElem?_eq_getElem (by rw [size_toList]; omega)⟩
      obtain ⟨hc, hz⟩ := HR.out.cellAt k x (low_mid _ _ _ hx)
      rw [Nat.zero_add] at hc hz
      have HX := Lib.hid hx
      clear hx
      have hx8 : x.toNat < 256 := x.toNat_lt
      by_cases h1 : 65 ≤ x.toNat
      · by_cases h2 : x.toNat ≤ 90
        · go_wp2
          go_roundw
          case rel =>
            refine ⟨k + 1, by omega, by go_num, ?_, HG.out.setNew (Nat.le_refl _) _⟩
            have := HR.out.set k hlt (.int .u8 ((lowB x).toNat : Int))
            rw [lowB_yes x h1 h2, Nat.zero_add] at this
            rw [← low_step _ _ _ HX.out, u8s_set, lowB_yes x h1 h2]
            rw [show (x.toNat : Int) + 97 - 65 = x.toNat + 32 by omega]
            exact this
          case measure => simp [intOf]; omega
        · go_wp2
          go_roundw
          case rel =>
            refine ⟨k + 1, by omega, by go_num, ?_, HG.out⟩
            rw [← low_same _ _ _ HX.out (lowB_no x (by omega))]
            exact HR.out
          case measure => simp [intOf]; omega
      · go_wp2
        go_roundw
        case rel =>
          refine ⟨k + 1, by omega, by go_num, ?_, HG.out⟩
          rw [← low_same _ _ _ HX.out (lowB_no x (by omega))]
          exact HR.out
        case measure => simp [intOf]; omega
    · obtain rfl : k = s.size := by omega
      have hr := HR.out.toR
      rw [List.take_of_length_le (by rw [size_toList]; omega), List.drop_of_length_le (by rw [size_toList]; omega), List.append_nil] at hr
      have hback := run_text_rsl (P := Tryd.prog) wr 65 9 5 _ _ _ _ Tryd.underlying65 Tryd.underlying5 Tryd.underlying9 hr
      go_wp2
      go_ret
      exact ⟨rfl, HG.out⟩
set_option maxRecDepth 100000 in
set_option maxHeartbeats 1000000 in
theorem ref_lower_ok (s : ByteArray) (hs : s.size ≤ 140737488351232) (W : World) : Calls Tryd.prog 39 #[.string s] W fun e w' => e = .returned (.string (tx (low s.data.toList))) ∧ Frm (fun _ => False) W w' := by
  obtain ⟨cap, w1, hconv, ho, hf, hw1⟩ := run_bytes_osl (P := Tryd.prog) W 9 65 5 s Tryd.underlying9 Tryd.underlying65 Tryd.underlying5 (by simp only [maxLen]; omega)
  have HO := Lib.hid ho
  have HF := Lib.hid hf
  clear ho hf
  go_enter Tryd.func39, Tryd.ntmps39
  go_wp2
  clear hconv
  go_loopw [4] (fun i wr => ∃ k : Nat, k ≤ s.size ∧ i = .int .i64 k ∧ OSl wr 1 (.slice (some ⟨W.heap.size, 0, none⟩) s.size cap) s.size (u8s (low (s.data.toList.take k) ++ s.data.toList.drop k)) ∧ Frm (fun _ => False) W wr) (fun i _ => s.size - (intOf i).toNat)
  case atStart => exact ⟨0, Nat.zero_le _, rfl, HO.out, HF.out⟩
  case round =>
    obtain ⟨k, hk, rfl, ho, hf⟩ := hrel
    have hb : W.heap.size < wr.heap.size := ho.lt _ rfl
    have HR := Lib.hid ho
    have HG := Lib.hid hf
    clear ho hf
    by_cases hlt : k < s.size
    · obtain ⟨x, hx⟩ : ∃ x, s.data.toList[k]? = some x := ⟨_, List.getElem?_eq_getElem (by rw [size_toList]; omega)⟩
      obtain ⟨hc, hz⟩ := HR.out.cellAt k x (low_mid _ _ _ hx)
      rw [Nat.zero_add] at hc hz
      have HX := Lib.hid hx
      clear hx
      have hx8 : x.toNat < 256 := x.toNat_lt
      by_cases h1 : 65 ≤ x.toNat
      · by_cases h2 : x.toNat ≤ 90
        · go_wp2
          go_roundw
          case rel =>
            refine ⟨k + 1, by omega, by go_num, ?_, HG.out.setNew (Nat.le_refl _) _⟩
            have := HR.out.set k hlt (.int .u8 ((lowB x).toNat : Int))
            rw [lowB_yes x h1 h2, Nat.zero_add] at this
            rw [← low_step _ _ _ HX.out, u8s_set, lowB_yes x h1 h2]
            exact this
          case measure => simp [intOf]; omega
        · go_wp2
          go_roundw
          case rel =>
            refine ⟨k + 1, by omega, by go_num, ?_, HG.out⟩
            rw [← low_same _ _ _ HX.out (lowB_no x (by omega))]
            exact HR.out
          case measure => simp [intOf]; omega
      · go_wp2
        go_roundw
        case rel =>
          refine ⟨k + 1, by omega, by go_num, ?_, HG.out⟩
          rw [← low_same _ _ _ HX.out (lowB_no x (by omega))]
          exact HR.out
        case measure => simp [intOf]; omega
    · obtain rfl : k = s.size := by omega
      have hr := HR.out.toR
      rw [List.take_of_length_le (by rw [size_toList]; omega), List.drop_of_length_le (by rw [size_toList]; omega), List.append_nil] at hr
      have hback := run_text_rsl (P := Tryd.prog) wr 65 9 5 _ _ _ _ Tryd.underlying65 Tryd.underlying5 Tryd.underlying9 hr
      go_wp2
      go_ret
      exact ⟨rfl, HG.out⟩

set_option maxRecDepth 100000 in
set_option maxHeartbeats 1000000 in
theorem same_ok (a b : ByteArray) (ha : a.size ≤ 140737488351232) (hb : b.size ≤ 140737488351232) (W : World) : Calls Tryd.prog 16 #[.string a, .string b] W fun e w' => e = .returned (.bool (decide (low a.data.toList = low b.data.toList))) ∧ Frm (fun _ => False) W w' := by
  go_enter Tryd.func16, Tryd.ntmps16
  go_wp2_with fail
  refine (lower_ok a ha W).mono ?_
  rintro e w1 ⟨rfl, hf1⟩
  go_wp2_with fail
  refine (lower_ok b hb w1).mono ?_
  rintro e w2 ⟨rfl, hf2⟩
  go_wp2
  go_ret
  refine ⟨?_, hf1.trans hf2⟩
  rw [← tx_beq]
  rfl
set_option maxRecDepth 100000 in
set_option maxHeartbeats 1000000 in
theorem ref_same_ok (a b : ByteArray) (ha : a.size ≤ 140737488351232) (hb : b.size ≤ 140737488351232) (W : World) : Calls Tryd.prog 17 #[.string a, .string b] W fun e w' => e = .returned (.bool (decide (low a.data.toList = low b.data.toList))) ∧ Frm (fun _ => False) W w' := by
  go_enter Tryd.func17, Tryd.ntmps17
  go_wp2_with fail
  refine (ref_lower_ok a ha W).mono ?_
  rintro e w1 ⟨rfl, hf1⟩
  go_wp2_with fail
  refine (ref_lower_ok b hb w1).mono ?_
  rintro e w2 ⟨rfl, hf2⟩
  go_wp2
  go_ret
  refine ⟨?_, hf1.trans hf2⟩
  rw [← tx_beq]
  rfl
end Go.Proofs.YtjphdipbajfojaaDoor
