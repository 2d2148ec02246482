/- The octet layer's functions over a strings.Builder, walked over the shelf's contracts. -/
import Derived.Test.YtjphdipbajfojaaDoorLays
import Derived.Test.YtjphdipbajfojaaDoorOctA
import Derived.WalkKit
import Derived.BigCall
set_option linter.unusedVariables false
set_option linter.unusedSimpArgs false
namespace Go.Proofs.YtjphdipbajfojaaDoor
open Go Go.RowKit Go.Proofs

abbrev Bld (B b : Nat) (bs : List Value) (w : World) : Prop := Lib.IsBuilderF 70 5 B b bs w
theorem wbyte_ok (B b : Nat) (bs : List Value) (c : Int) (w : World) (h : Bld B b bs w) (hlen : bs.length + 1 ≤ 140737488355328) (hB : B ≤ w.heap.size) :
    Calls Tryd.prog 51 #[.pointer (some ⟨b, 0, none⟩), .int .u8 c] w fun e w' => e = .returned .nilIface ∧ Bld B b (bs ++ [.int .u8 c]) w' ∧ Below B w w' ∧ B ≤ w'.heap.size := by
  refine (Any.Builder_WriteByte_k lays167 lextra B b bs c w h hlen hB).mono ?_
  rintro e w' ⟨rfl, h1, h2, h3⟩
  exact ⟨rfl, .inr h1, h2, Nat.le_trans hB h2.size⟩
theorem wstring_ok (B b : Nat) (bs : List Value) (s : ByteArray) (w : World) (h : Bld B b bs w) (hlen : bs.length + s.size ≤ 140737488355328) (hB : B ≤ w.heap.size) :
    Calls Tryd.prog 81 #[.pointer (some ⟨b, 0, none⟩), .string s] w fun e w' => e = .returned (.tuple #[.int .i64 s.size, .nilIface]) ∧ Bld B b (bs ++ Lib.strCells s) w' ∧ Below B w w' ∧ B ≤ w'.heap.size := by
  refine (Any.Builder_WriteString_k lays166 lextra B b bs s w h hlen hB).mono ?_
  rintro e w' ⟨rfl, h1, h2, h3⟩
  exact ⟨rfl, .inr h1, h2, Nat.le_trans hB h2.size⟩
theorem btext_ok (B b : Nat) (l : List UInt8) (w : World) (h : Bld B b (Lib.byteCells l) w) (hB : B ≤ w.heap.size) :
    Calls Tryd.prog 52 #[.pointer (some ⟨b, 0, none⟩)] w fun e w' => e = .returned (.string (tx l)) ∧ Below B w w' := by
  refine (Any.Builder_String_any_k lays169 lextra B b l w h hB).mono ?_
  rintro e w' ⟨rfl, h1, h2, h3⟩
  exact ⟨rfl, h2⟩
theorem frm_below {w w' : World} (h : Below w.heap.size w w') : Frm (fun _ => False) w w' := ⟨h.os, h.tape, h.output, h.size, fun k hk _ => h.block k hk⟩
theorem below_frm {B : Nat} {w w' : World} (h : Frm (fun _ => False) w w') (hB : B ≤ w.heap.size) : Below B w w' := ⟨h.os, h.tape, h.output, h.size, fun k hk => h.block k (by omega) (fun h => h)⟩

theorem fcB_iff (b : UInt8) : fcB b = (decide (b.toNat = 9) || (decide (32 ≤ b.toNat) && decide (b.toNat ≠ 127))) := by
  have e1 : (b == 9) = decide (b.toNat = 9) := by rw [Bool.eq_iff_iff]; simp [← UInt8.toNat_inj]
  have e2 : (b != 127) = decide (b.toNat ≠ 127) := by rw [Bool.eq_iff_iff]; simp [← UInt8.toNat_inj]
  rw [fcB, e1, e2]

set_option maxRecDepth 100000 in
set_option maxHeartbeats 1000000 in
theorem isFieldByte_ok (b : UInt8) (W : World) : Calls Tryd.prog 53 #[.int .u8 b.toNat] W fun e w' => e = .returned (.bool (fcB b)) ∧ w' = W := by
  have hb := b.toNat_lt
  by_cases h1 : b.toNat = 9
  · have e : fcB b = true := by rw [fcB_iff]; simp [h1]
    rw [e]
    go_enter Tryd.func53, Tryd.ntmps53
    go_wp2
    go_ret
    exact ⟨rfl, rfl⟩
  · by_cases h2 : 32 ≤ b.toNat
    · by_cases h3 : b.toNat = 127
      · have e : fcB b = false := by rw [fcB_iff]; simp [h3]
        rw [e]
        go_enter Tryd.func53, Tryd.ntmps53
        go_wp2
        go_ret
        exact ⟨rfl, rfl⟩
      · have e : fcB b = true := by rw [fcB_iff]; simp [h2, h3]
        rw [e]
        have n9 : ((b.toNat : Int) == 9) = false := by simp; omega
        have n127 : ((b.toNat : Int) != 127) = true := by simp; omega
        go_enter Tryd.func53, Tryd.ntmps53
        go_wp2
        go_ret
        exact ⟨rfl, rfl⟩
    · have e : fcB b = false := by rw [fcB_iff]; simp [h1, h2]
      rw [e]
      have n9 : ((b.toNat : Int) == 9) = false := by simp; omega
      go_enter Tryd.func53, Tryd.ntmps53
      go_wp2
      go_ret
      exact ⟨rfl, rfl⟩

set_option maxRecDepth 100000 in
set_option maxHeartbeats 2000000 in
theorem isField_ok (s : ByteArray) (hs : s.size ≤ 140737488351232) (W : World) : Calls Tryd.prog 38 #[.string s] W fun e w' => e = .returned (.bool (fldB s.data.toList)) ∧ w' = W := by
  go_enter Tryd.func38, Tryd.ntmps38
  go_wp2
  go_loopw [6] (fun i wr => wr = W ∧ ∃ k : Nat, k ≤ s.size ∧ i = .int .i64 k ∧ fldB (s.data.toList.take k) = true) (fun i _ => s.size - (intOf i).toNat)
  case atStart => exact ⟨rfl, 0, Nat.zero_le _, rfl, rfl⟩
  case round =>
    obtain ⟨rfl, k, hk, rfl, hall⟩ := hrel
    have HA := Lib.hid hall
    clear hall
    by_cases hlt : k < s.size
    · obtain ⟨x, hx⟩ : ∃ x, s.data.toList[k]? = some x := ⟨_, List.getElem?_eq_getElem (by rw [size_toList]; omega)⟩
      have hx' : s[k]'hlt = x := by
        have : s.data.toList[k]? = some (s[k]'hlt) := by simp [ByteArray.getElem_eq_getElem_data, hlt]
        rw [this] at hx; exact Option.some.inj hx
      cases hf : fcB x
      · go_wp2_with (go_at_call 53; refine (isFieldByte_ok x _).mono ?_; rw [hf]; rintro e w' ⟨rfl, rfl⟩)
        go_ret
        exact ⟨by rw [show fldB s.data.toList = false from all_bad fcB _ k x hx hf]; rfl, rfl⟩
      · go_wp2_with (go_at_call 53; refine (isFieldByte_ok x _).mono ?_; rw [hf]; rintro e w' ⟨rfl, rfl⟩)
        go_roundw
        case rel => exact ⟨by trivial, k + 1, by omega, by go_num, by unfold fldB; rw [all_take fcB _ k x hx]; have := HA.out; unfold fldB at this; rw [this, hf]; rfl⟩
        case measure => simp [intOf]; omega
    · obtain rfl : k = s.size := by omega
      have ha := HA.out
      rw [List.take_of_length_le (by rw [size_toList]; omega)] at ha
      go_wp2
      go_ret
      exact ⟨by rw [ha]; rfl, rfl⟩
end Go.Proofs.YtjphdipbajfojaaDoor
