/- Numbers in digits: the document's reading. -/
import Derived.Test.YtjphdipbajfojaaDoorNum
set_option linter.unusedVariables false
set_option linter.unusedSimpArgs false
namespace Go.Proofs.YtjphdipbajfojaaDoor
open Go Go.RowKit

def isDig (b : UInt8) : Bool := decide (48 ≤ b.toNat ∧ b.toNat ≤ 57)
def isHex (b : UInt8) : Bool := isDig b || decide (65 ≤ b.toNat ∧ b.toNat ≤ 70) || decide (97 ≤ b.toNat ∧ b.toNat ≤ 102)
set_option maxRecDepth 100000 in
theorem dig_dec : ∀ n, n < 256 → (isDig (UInt8.ofNat n) = decide (0 ≤ dig (UInt8.ofNat n) ∧ dig (UInt8.ofNat n) < 10)) := by decide
set_option maxRecDepth 100000 in
theorem dig_hex : ∀ n, n < 256 → (isHex (UInt8.ofNat n) = decide (0 ≤ dig (UInt8.ofNat n) ∧ dig (UInt8.ofNat n) < 16)) := by decide
/-- What the document's 'value' says. -/
def val (b : UInt8) : Int := if isDig b then (b.toNat : Int) - 48 else if 97 ≤ b.toNat then (b.toNat : Int) - 97 + 10 else (b.toNat : Int) - 65 + 10
set_option maxRecDepth 100000 in
theorem dig_val : ∀ n, n < 256 → 0 ≤ dig (UInt8.ofNat n) → val (UInt8.ofNat n) = dig (UInt8.ofNat n) := by decide
theorem u8_ofNat (b : UInt8) : UInt8.ofNat b.toNat = b := by simp
theorem isDig_dig (b : UInt8) : isDig b = decide (0 ≤ dig b ∧ dig b < 10) := by have := dig_dec b.toNat b.toNat_lt; rwa [u8_ofNat] at this
theorem isHex_dig (b : UInt8) : isHex b = decide (0 ≤ dig b ∧ dig b < 16) := by have := dig_hex b.toNat b.toNat_lt; rwa [u8_ofNat] at this
theorem val_dig (b : UInt8) (h : 0 ≤ dig b) : val b = dig b := by have := dig_val b.toNat b.toNat_lt; rw [u8_ofNat] at this; exact this h

set_option maxRecDepth 100000 in
set_option maxHeartbeats 1000000 in
theorem ref_digit_ok (b : UInt8) (W : World) : Calls Tryd.prog 67 #[.int .u8 b.toNat] W fun e w' => e = .returned (.bool (isDig b)) ∧ w' = W := by
  go_enter Tryd.func67, Tryd.ntmps67
  have hb := b.toNat_lt
  by_cases h1 : 48 ≤ b.toNat
  · by_cases h2 : b.toNat ≤ 57
    · have e1 : isDig b = true := decide_eq_true ⟨h1, h2⟩
      rw [e1]
      go_wp2
      go_ret
      exact ⟨by first | rfl | (simp <;> omega), rfl⟩
    · have e1 : isDig b = false := decide_eq_false (fun h => h2 h.2)
      rw [e1]
      go_wp2
      go_ret
      exact ⟨by first | rfl | (simp <;> omega), rfl⟩
  · have e1 : isDig b = false := decide_eq_false (fun h => h1 h.1)
    rw [e1]
    go_wp2
    go_ret
    exact ⟨by first | rfl | (simp <;> omega), rfl⟩

set_option maxRecDepth 100000 in
set_option maxHeartbeats 2000000 in
theorem ref_hex_ok (b : UInt8) (W : World) : Calls Tryd.prog 68 #[.int .u8 b.toNat] W fun e w' => e = .returned (.bool (isHex b)) ∧ w' = W := by
  have hb := b.toNat_lt
  cases hd : isDig b
  · by_cases h1 : 65 ≤ b.toNat
    · by_cases h2 : b.toNat ≤ 70
      · have e1 : isHex b = true := by rw [isHex, hd]; simp <;> omega
        rw [e1]
        go_enter Tryd.func68, Tryd.ntmps68
        go_wp2_with fail
        refine (ref_digit_ok b W).mono ?_
        rintro e w' ⟨rfl, rfl⟩
        rw [hd]
        clear hd e1
        go_wp2
        go_ret
        exact ⟨by first | rfl | (simp <;> omega), rfl⟩
      · by_cases h3 : 97 ≤ b.toNat
        · by_cases h4 : b.toNat ≤ 102
          · have e1 : isHex b = true := by rw [isHex, hd]; simp <;> omega
            rw [e1]
            go_enter Tryd.func68, Tryd.ntmps68
            go_wp2_with fail
            refine (ref_digit_ok b W).mono ?_
            rintro e w' ⟨rfl, rfl⟩
            rw [hd]
            clear hd e1
            go_wp2
            go_ret
            exact ⟨by first | rfl | (simp <;> omega), rfl⟩
          · have e1 : isHex b = false := by rw [isHex, hd]; simp <;> omega
            rw [e1]
            go_enter Tryd.func68, Tryd.ntmps68
            go_wp2_with fail
            refine (ref_digit_ok b W).mono ?_
            rintro e w' ⟨rfl, rfl⟩
            rw [hd]
            clear hd e1
            go_wp2
            go_ret
            exact ⟨by first | rfl | (simp <;> omega), rfl⟩
        · have e1 : isHex b = false := by rw [isHex, hd]; simp <;> omega
          rw [e1]
          go_enter Tryd.func68, Tryd.ntmps68
          go_wp2_with fail
          refine (ref_digit_ok b W).mono ?_
          rintro e w' ⟨rfl, rfl⟩
          rw [hd]
          clear hd e1
          go_wp2
          go_ret
          exact ⟨by first | rfl | (simp <;> omega), rfl⟩
    · have e1 : isHex b = false := by rw [isHex, hd]; simp <;> omega
      rw [e1]
      go_enter Tryd.func68, Tryd.ntmps68
      go_wp2_with fail
      refine (ref_digit_ok b W).mono ?_
      rintro e w' ⟨rfl, rfl⟩
      rw [hd]
      clear hd e1
      go_wp2
      go_ret
      exact ⟨by first | rfl | (simp <;> omega), rfl⟩
  · have e1 : isHex b = true := by rw [isHex, hd]; simp <;> omega
    rw [e1]
    go_enter Tryd.func68, Tryd.ntmps68
    go_wp2_with fail
    refine (ref_digit_ok b W).mono ?_
    rintro e w' ⟨rfl, rfl⟩
    rw [hd]
    clear hd e1
    go_wp2
    go_ret
    exact ⟨by first | rfl | (simp <;> omega), rfl⟩

set_option maxRecDepth 100000 in
set_option maxHeartbeats 1000000 in
theorem ref_value_ok (b : UInt8) (W : World) (h : isHex b = true) : Calls Tryd.prog 69 #[.int .u8 b.toNat] W fun e w' => e = .returned (.int .i64 (val b)) ∧ w' = W := by
  have hb := b.toNat_lt
  have h97 : isDig b = false → 97 ≤ b.toNat ∨ (65 ≤ b.toNat ∧ b.toNat ≤ 70) := fun hd => by
    rw [isHex, hd] at h
    simp at h
    omega
  have hd48 : isDig b = true → 48 ≤ b.toNat := fun hd => (of_decide_eq_true hd).1
  have H97 := Lib.hid h97
  have H48 := Lib.hid hd48
  clear h97 hd48 h
  cases hd : isDig b
  · have h3 := H97.out hd
    have hv : val b = if 97 ≤ b.toNat then (b.toNat : Int) - 97 + 10 else (b.toNat : Int) - 65 + 10 := by rw [val, hd]; rfl
    rw [hv]
    clear hv
    by_cases h4 : 97 ≤ b.toNat
    · rw [if_pos h4]
      go_enter Tryd.func69, Tryd.ntmps69
      go_wp2_with fail
      refine (ref_digit_ok b W).mono ?_
      rintro e w' ⟨rfl, rfl⟩
      rw [hd]
      clear hd
      go_wp2
      go_ret
      exact ⟨by first | rfl | (simp <;> omega), rfl⟩
    · rw [if_neg h4]
      go_enter Tryd.func69, Tryd.ntmps69
      go_wp2_with fail
      refine (ref_digit_ok b W).mono ?_
      rintro e w' ⟨rfl, rfl⟩
      rw [hd]
      clear hd
      go_wp2
      go_ret
      exact ⟨by first | rfl | (simp <;> omega), rfl⟩
  · have h3 := H48.out hd
    have hv : val b = (b.toNat : Int) - 48 := by rw [val, hd]; rfl
    rw [hv]
    clear hv
    go_enter Tryd.func69, Tryd.ntmps69
    go_wp2_with fail
    refine (ref_digit_ok b W).mono ?_
    rintro e w' ⟨rfl, rfl⟩
    rw [hd]
    clear hd
    go_wp2
    go_ret
    exact ⟨by first | rfl | (simp <;> omega), rfl⟩
end Go.Proofs.YtjphdipbajfojaaDoor
