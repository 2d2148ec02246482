/- 'awake', 'OctetSame', 'OctetNumbers': true at every input, nothing old turned. -/
import Derived.Test.YtjphdipbajfojaaDoorSign
set_option linter.unusedVariables false
set_option linter.unusedSimpArgs false
namespace Go.Proofs.YtjphdipbajfojaaDoor
open Go Go.RowKit

set_option maxRecDepth 100000 in
theorem num12 : numAns 10 12 ((⟨#[49, 50]⟩ : ByteArray).data.toList) = (12, 0) := by decide
set_option maxRecDepth 100000 in
theorem tokx : tokB ((⟨#[120]⟩ : ByteArray).data.toList) = true := by decide

set_option maxRecDepth 100000 in
set_option maxHeartbeats 1000000 in
theorem awake_ok (W : World) (hS : Signs W) : Calls Tryd.prog 15 #[] W fun e w' => e = .returned (.bool true) ∧ Frm (fun _ => False) W w' := by
  have HS := Lib.hid hS
  clear hS
  go_enter Tryd.func15, Tryd.ntmps15
  go_wp2_with fail
  refine (decimal_ok ⟨#[49, 50]⟩ 12 (by decide) (by decide) (by decide) W).mono ?_
  rintro e w1 ⟨rfl, hf1⟩
  rw [num12]
  go_wp2_with fail
  refine (lower_ok ⟨#[97, 66]⟩ (by decide) w1).mono ?_
  rintro e w2 ⟨rfl, hf2⟩
  have h1 : tx (low ((⟨#[97, 66]⟩ : ByteArray).data.toList)) = ⟨#[97, 98]⟩ := rfl
  rw [h1]
  clear h1
  go_wp2_with fail
  refine (isToken_ok ⟨#[120]⟩ (by decide) w2 (HS.out.frm (hf1.trans hf2))).mono ?_
  rintro e w3 ⟨rfl, rfl⟩
  rw [tokx]
  go_wp2
  go_ret
  exact ⟨rfl, hf1.trans hf2⟩

set_option maxRecDepth 100000 in
set_option maxHeartbeats 1000000 in
theorem octetSame_true (a b : ByteArray) (ha : a.size ≤ 140737488351232) (hb : b.size ≤ 140737488351232) (W : World) (hS : Signs W) : Calls Tryd.prog 3 #[.string a, .string b] W fun e w' => e = .returned (.bool true) ∧ Frm (fun _ => False) W w' := by
  go_enter Tryd.func3, Tryd.ntmps3
  have la : (tx (low a.data.toList)).size ≤ 140737488351232 := by rw [tx_size, low_length, size_toList]; exact ha
  have lb : (tx (low b.data.toList)).size ≤ 140737488351232 := by rw [tx_size, low_length, size_toList]; exact hb
  go_wp2_with fail
  refine (awake_ok W hS).mono ?_
  rintro e w1 ⟨rfl, hf1⟩
  go_wp2_with fail
  refine (same_ok a b ha hb w1).mono ?_
  rintro e w2 ⟨rfl, hf2⟩
  go_wp2_with fail
  refine (ref_same_ok a b ha hb w2).mono ?_
  rintro e w3 ⟨rfl, hf3⟩
  obtain ⟨t, ht⟩ : ∃ t, decide (low a.data.toList = low b.data.toList) = t := ⟨_, rfl⟩
  rw [ht]
  clear ht
  go_wp2_with fail
  refine (lower_ok a ha w3).mono ?_
  rintro e w4 ⟨rfl, hf4⟩
  go_wp2_with fail
  refine (same_ok a _ ha la w4).mono ?_
  rintro e w5 ⟨rfl, hf5⟩
  rw [tx_data, low_low, decide_eq_true rfl]
  go_wp2_with fail
  refine (lower_ok b hb w5).mono ?_
  rintro e w6 ⟨rfl, hf6⟩
  go_wp2_with fail
  refine (same_ok _ b lb hb w6).mono ?_
  rintro e w7 ⟨rfl, hf7⟩
  rw [tx_data, low_low, decide_eq_true rfl]
  go_wp2
  go_ret
  exact ⟨rfl, (((((hf1.trans hf2).trans hf3).trans hf4).trans hf5).trans hf6).trans hf7⟩

set_option maxRecDepth 100000 in
set_option maxHeartbeats 1000000 in
theorem octetNumbers_true (s : ByteArray) (most : Int) (hs : s.size ≤ 140737488351232) (hm1 : -9223372036854775808 ≤ most) (hm2 : most ≤ 9223372036854775807) (W : World) (hS : Signs W) : Calls Tryd.prog 4 #[.string s, .int .i64 most] W fun e w' => e = .returned (.bool true) ∧ Frm (fun _ => False) W w' := by
  have HS := Lib.hid hS
  clear hS
  go_enter Tryd.func4, Tryd.ntmps4
  go_wp2_with fail
  refine (decimal_ok s most hs hm1 hm2 W).mono ?_
  rintro e w1 ⟨rfl, hf1⟩
  obtain ⟨⟨n1, e1⟩, h1⟩ : ∃ p, numAns 10 most s.data.toList = p := ⟨_, rfl⟩
  have H1 := Lib.hid h1
  rw [h1]
  clear h1
  go_wp2_with fail
  refine (ref_decimal_ok s most hs hm1 hm2 w1).mono ?_
  rintro e w' ⟨rfl, rfl⟩
  rw [H1.out]
  go_wp2_with fail
  refine (hex_ok s most hs hm1 hm2 w').mono ?_
  rintro e w2 ⟨rfl, hf2⟩
  obtain ⟨⟨n2, e2⟩, h2⟩ : ∃ p, numAns 16 most s.data.toList = p := ⟨_, rfl⟩
  have H2 := Lib.hid h2
  rw [h2]
  clear h2
  go_wp2_with fail
  refine (ref_hexnum_ok s most hs hm1 hm2 w2).mono ?_
  rintro e w3 ⟨rfl, rfl⟩
  rw [H2.out]
  go_wp2_with fail
  refine (awake_ok w3 (HS.out.frm (hf1.trans hf2))).mono ?_
  rintro e w4 ⟨rfl, hf4⟩
  go_wp2
  go_ret
  exact ⟨rfl, (hf1.trans hf2).trans hf4⟩
end Go.Proofs.YtjphdipbajfojaaDoor
