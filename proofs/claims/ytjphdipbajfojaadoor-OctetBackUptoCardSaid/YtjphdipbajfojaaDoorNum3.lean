/- Numbers in digits: the document's 'number'. -/
import Derived.Test.YtjphdipbajfojaaDoorNum2
set_option linter.unusedVariables false
set_option linter.unusedSimpArgs false
namespace Go.Proofs.YtjphdipbajfojaaDoor
open Go Go.RowKit

theorem foldl_le (base : Int) (hb : 1 ≤ base) : ∀ (l : List UInt8) (n : Int), 0 ≤ n → okDigs base l = true → n ≤ l.foldl (fun n b => n * base + dig b) n
  | [], n, _, _ => Int.le_refl n
  | b :: l, n, hn, h => by
    unfold okDigs at h
    rw [List.all_cons, Bool.and_eq_true] at h
    have hd := of_decide_eq_true h.1
    have hmul : n ≤ n * base := by
      have := Int.mul_le_mul_of_nonneg_left hb hn
      omega
    have h0 : 0 ≤ n * base + dig b := by omega
    have := foldl_le base hb l (n * base + dig b) h0 h.2
    show n ≤ l.foldl (fun n b => n * base + dig b) (n * base + dig b)
    omega
theorem okDigs_take (base : Int) (l : List UInt8) (k : Nat) (h : okDigs base l = true) : okDigs base (l.take k) = true := by
  unfold okDigs at *
  rw [List.all_eq_true] at *
  exact fun x hx => h x (List.mem_of_mem_take hx)
theorem numOf_mono (base : Int) (hb : 1 ≤ base) (l : List UInt8) (h : okDigs base l = true) (k : Nat) : numOf base (l.take k) ≤ numOf base l := by
  have e : l = l.take k ++ l.drop k := (List.take_append_drop k l).symm
  have hd : okDigs base (l.drop k) = true := by
    unfold okDigs at *
    rw [List.all_eq_true] at *
    exact fun x hx => h x (List.mem_of_mem_drop hx)
  conv => rhs; rw [e]
  unfold numOf
  rw [List.foldl_append]
  exact foldl_le base hb _ _ (numOf_nonneg base (by omega) _ (okDigs_take base l k h)) hd

set_option maxRecDepth 100000 in
set_option maxHeartbeats 4000000 in
theorem ref_number_ok10 (s : ByteArray) (most : Int) (hs : s.size ≤ 140737488351232) (hm1 : -9223372036854775808 ≤ most) (hm2 : most ≤ 9223372036854775807) (W : World) :
    Calls Tryd.prog 50 #[.string s, .int .i64 10, .int .i64 most] W fun e w' => e = .returned (.tuple #[.int .i64 (numAns 10 most s.data.toList).1, .int .i64 (numAns 10 most s.data.toList).2]) ∧ w' = W := by
  go_enter Tryd.func50, Tryd.ntmps50
  by_cases he : s.data.toList = []
  · have hn : numAns 10 most s.data.toList = (0, 11) := by rw [numAns, if_pos he]
    have he' : s.toList.isEmpty = true := by rw [ba_toList, he]; rfl
    go_wp2
    go_ret2
    rw [hn]
    exact ⟨rfl, rfl⟩
  · have he' : s.toList.isEmpty = false := by rw [ba_toList]; simpa using he
    have HE := Lib.hid he
    clear he
    go_wp2
    clear he'
    go_loopw [8] (fun i wr => ∃ (k : Nat), k ≤ s.size ∧ i = .int .i64 k ∧ okDigs 10 (s.data.toList.take k) = true ∧ wr = W) (fun i _ => s.size - (intOf i).toNat)
    case atStart => exact ⟨0, Nat.zero_le _, rfl, rfl, rfl⟩
    case round =>
      obtain ⟨k, hk, rfl, hok, rfl⟩ := hrel
      have HOK := Lib.hid hok
      clear hok
      by_cases hlt : k < s.size
      · obtain ⟨x, hx⟩ : ∃ x, s.data.toList[k]? = some x := ⟨_, List.getElem?_eq_getElem (by rw [size_toList]; omega)⟩
        have hxb : s[k]'hlt = x := ba_at s k x hx hlt
        have hostep := okDigs_step 10 _ _ _ hx
        rw [HOK.out, Bool.true_and, ← isDig_dig] at hostep
        have HX := Lib.hid hx
        have HO := Lib.hid hostep
        clear hx hostep
        go_wp2_with fail
        refine (ref_digit_ok x wr).mono ?_
        rintro e w' ⟨rfl, rfl⟩
        cases hp : isDig x
        · have hn : numAns 10 most s.data.toList = (0, 11) := by
            rw [numAns, if_neg HE.out, if_pos (okDigs_bad 10 _ _ _ HX.out (of_decide_eq_false ((isDig_dig x).symm.trans hp)))]
          have HN := Lib.hid hn
          clear hn hp
          go_wp2
          go_ret2
          rw [HN.out]
          exact ⟨rfl, rfl⟩
        · have HO2 := Lib.hid (HO.out.trans hp)
          clear hp
          go_wp2
          go_roundw
          case rel => exact ⟨k + 1, by omega, by go_num, HO2.out, by trivial⟩
          case measure => simp [intOf]; omega
      · obtain rfl : k = s.size := by omega
        have hall := HOK.out
        rw [List.take_of_length_le (by rw [size_toList]; omega)] at hall
        have HALL := Lib.hid hall
        clear hall HOK hlt hk
        go_wp2
        have HN : Hid (numAns 10 most s.data.toList = if most < 0 ∨ most < numOf 10 s.data.toList then (0, 12) else (numOf 10 s.data.toList, 0)) := by
          show numAns 10 most s.data.toList = _
          rw [numAns, if_neg HE.out, if_neg (by rw [HALL.out]; decide)]
        obtain ⟨wo, hwo⟩ : ∃ wo : World, wo = wr := ⟨_, rfl⟩
        subst hwo
        go_loopw [9, 10] (fun n i wr => ∃ (k : Nat) (v : Int), k ≤ s.size ∧ i = .int .i64 k ∧ n = .int .i64 v ∧ v = numOf 10 (s.data.toList.take k) ∧ 0 ≤ v ∧ (0 < k → v ≤ most) ∧ wr = wo) (fun _ i _ => s.size - (intOf i).toNat)
        case atStart => exact ⟨0, 0, Nat.zero_le _, rfl, rfl, rfl, Int.le_refl _, (fun h => absurd h (by omega)), rfl⟩
        case round =>
          obtain ⟨k, v, hk, rfl, rfl, hv, hv0, hvm, rfl⟩ := hrel
          have HV := Lib.hid hv
          have HM := Lib.hid hvm
          clear hv hvm
          by_cases hlt : k < s.size
          · obtain ⟨x, hx⟩ : ∃ x, s.data.toList[k]? = some x := ⟨_, List.getElem?_eq_getElem (by rw [size_toList]; omega)⟩
            have hxb : s[k]'hlt = x := ba_at s k x hx hlt
            have hd : 0 ≤ dig x ∧ dig x < 10 := by
              have h := HALL.out
              unfold okDigs at h
              exact of_decide_eq_true (List.all_eq_true.1 h x (List.mem_of_getElem? hx))
            have hstep := numOf_step 10 _ _ _ hx
            rw [← HV.out] at hstep
            have hval := val_dig x hd.1
            have hmono := numOf_mono 10 (by omega) s.data.toList HALL.out (k + 1)
            obtain ⟨d, hdd⟩ : ∃ d, d = dig x := ⟨_, rfl⟩
            have hhex : isHex x = true := by rw [isHex_dig]; exact decide_eq_true ⟨hd.1, by omega⟩
            rw [← hdd] at hd hstep hval
            rw [hstep] at hmono
            obtain ⟨q, hq⟩ : ∃ q, (most - d).tdiv 10 = q := ⟨_, rfl⟩
            have hq1 : d ≤ most → 10 * q ≤ most - d ∧ most - d < 10 * q + 10 := fun h => by
              rw [Int.tdiv_eq_ediv_of_nonneg (by omega)] at hq
              omega
            have HS := Lib.hid hstep
            have HQ1 := Lib.hid hq1
            have HMono := Lib.hid hmono
            have HHex := Lib.hid hhex
            clear hx hdd hq1 hstep hmono hhex
            go_wp2_with fail
            refine (ref_value_ok x wr HHex.out).mono ?_
            rintro e w' ⟨rfl, rfl⟩
            rw [hval]
            clear hval hxb
            have hbig : most < v * 10 + d → numAns 10 most s.data.toList = (0, 12) := fun h => by
              rw [HN.out, if_pos (.inr (by have := HMono.out; omega))]
            have HBig := Lib.hid hbig
            clear hbig
            by_cases h1 : most < d
            · go_wp2
              go_ret2
              rw [HBig.out (by omega)]
              exact ⟨rfl, rfl⟩
            · have h2a := (HQ1.out (by omega)).1
              have h2b := (HQ1.out (by omega)).2
              by_cases h2 : q < v
              · go_wp2
                go_ret2
                rw [HBig.out (by omega)]
                exact ⟨rfl, rfl⟩
              · go_wp2
                go_roundw
                case rel => exact ⟨k + 1, v * 10 + d, by omega, by go_num, by go_num, HS.out.symm, by omega, (fun _ => by omega), by trivial⟩
                case measure => simp [intOf]; omega
          · obtain rfl : k = s.size := by omega
            have hv := HV.out
            rw [List.take_of_length_le (by rw [size_toList]; omega)] at hv
            have hpos : 0 < s.size := by
              have := HE.out
              rcases Nat.eq_zero_or_pos s.size with h | h
              · rw [← size_toList] at h
                exact absurd (List.eq_nil_of_length_eq_zero h) this
              · exact h
            have hle := HM.out hpos
            have HN2 : Hid (numAns 10 most s.data.toList = (v, 0)) := by
              show _ = _
              rw [HN.out, ← hv, if_neg (by omega)]
            clear hv
            go_wp2
            go_ret2
            rw [HN2.out]
            exact ⟨rfl, rfl⟩

set_option maxRecDepth 100000 in
set_option maxHeartbeats 4000000 in
theorem ref_number_ok16 (s : ByteArray) (most : Int) (hs : s.size ≤ 140737488351232) (hm1 : -9223372036854775808 ≤ most) (hm2 : most ≤ 9223372036854775807) (W : World) :
    Calls Tryd.prog 50 #[.string s, .int .i64 16, .int .i64 most] W fun e w' => e = .returned (.tuple #[.int .i64 (numAns 16 most s.data.toList).1, .int .i64 (numAns 16 most s.data.toList).2]) ∧ w' = W := by
  go_enter Tryd.func50, Tryd.ntmps50
  by_cases he : s.data.toList = []
  · have hn : numAns 16 most s.data.toList = (0, 11) := by rw [numAns, if_pos he]
    have he' : s.toList.isEmpty = true := by rw [ba_toList, he]; rfl
    go_wp2
    go_ret2
    rw [hn]
    exact ⟨rfl, rfl⟩
  · have he' : s.toList.isEmpty = false := by rw [ba_toList]; simpa using he
    have HE := Lib.hid he
    clear he
    go_wp2
    clear he'
    go_loopw [8] (fun i wr => ∃ (k : Nat), k ≤ s.size ∧ i = .int .i64 k ∧ okDigs 16 (s.data.toList.take k) = true ∧ wr = W) (fun i _ => s.size - (intOf i).toNat)
    case atStart => exact ⟨0, Nat.zero_le _, rfl, rfl, rfl⟩
    case round =>
      obtain ⟨k, hk, rfl, hok, rfl⟩ := hrel
      have HOK := Lib.hid hok
      clear hok
      by_cases hlt : k < s.size
      · obtain ⟨x, hx⟩ : ∃ x, s.data.toList[k]? = some x := ⟨_, List.getElem?_eq_getElem (by rw [size_toList]; omega)⟩
        have hxb : s[k]'hlt = x := ba_at s k x hx hlt
        have hostep := okDigs_step 16 _ _ _ hx
        rw [HOK.out, Bool.true_and, ← isHex_dig] at hostep
        have HX := Lib.hid hx
        have HO := Lib.hid hostep
        clear hx hostep
        go_wp2_with fail
        refine (ref_hex_ok x wr).mono ?_
        rintro e w' ⟨rfl, rfl⟩
        cases hp : isHex x
        · have hn : numAns 16 most s.data.toList = (0, 11) := by
            rw [numAns, if_neg HE.out, if_pos (okDigs_bad 16 _ _ _ HX.out (of_decide_eq_false ((isHex_dig x).symm.trans hp)))]
          have HN := Lib.hid hn
          clear hn hp
          go_wp2
          go_ret2
          rw [HN.out]
          exact ⟨rfl, rfl⟩
        · have HO2 := Lib.hid (HO.out.trans hp)
          clear hp
          go_wp2
          go_roundw
          case rel => exact ⟨k + 1, by omega, by go_num, HO2.out, by trivial⟩
          case measure => simp [intOf]; omega
      · obtain rfl : k = s.size := by omega
        have hall := HOK.out
        rw [List.take_of_length_le (by rw [size_toList]; omega)] at hall
        have HALL := Lib.hid hall
        clear hall HOK hlt hk
        go_wp2
        have HN : Hid (numAns 16 most s.data.toList = if most < 0 ∨ most < numOf 16 s.data.toList then (0, 12) else (numOf 16 s.data.toList, 0)) := by
          show numAns 16 most s.data.toList = _
          rw [numAns, if_neg HE.out, if_neg (by rw [HALL.out]; decide)]
        obtain ⟨wo, hwo⟩ : ∃ wo : World, wo = wr := ⟨_, rfl⟩
        subst hwo
        go_loopw [9, 10] (fun n i wr => ∃ (k : Nat) (v : Int), k ≤ s.size ∧ i = .int .i64 k ∧ n = .int .i64 v ∧ v = numOf 16 (s.data.toList.take k) ∧ 0 ≤ v ∧ (0 < k → v ≤ most) ∧ wr = wo) (fun _ i _ => s.size - (intOf i).toNat)
        case atStart => exact ⟨0, 0, Nat.zero_le _, rfl, rfl, rfl, Int.le_refl _, (fun h => absurd h (by omega)), rfl⟩
        case round =>
          obtain ⟨k, v, hk, rfl, rfl, hv, hv0, hvm, rfl⟩ := hrel
          have HV := Lib.hid hv
          have HM := Lib.hid hvm
          clear hv hvm
          by_cases hlt : k < s.size
          · obtain ⟨x, hx⟩ : ∃ x, s.data.toList[k]? = some x := ⟨_, List.getElem?_eq_getElem (by rw [size_toList]; omega)⟩
            have hxb : s[k]'hlt = x := ba_at s k x hx hlt
            have hd : 0 ≤ dig x ∧ dig x < 16 := by
              have h := HALL.out
              unfold okDigs at h
              exact of_decide_eq_true (List.all_eq_true.1 h x (List.mem_of_getElem? hx))
            have hstep := numOf_step 16 _ _ _ hx
            rw [← HV.out] at hstep
            have hval := val_dig x hd.1
            have hmono := numOf_mono 16 (by omega) s.data.toList HALL.out (k + 1)
            obtain ⟨d, hdd⟩ : ∃ d, d = dig x := ⟨_, rfl⟩
            have hhex : isHex x = true := by rw [isHex_dig]; exact decide_eq_true ⟨hd.1, by omega⟩
            rw [← hdd] at hd hstep hval
            rw [hstep] at hmono
            obtain ⟨q, hq⟩ : ∃ q, (most - d).tdiv 16 = q := ⟨_, rfl⟩
            have hq1 : d ≤ most → 16 * q ≤ most - d ∧ most - d < 16 * q + 16 := fun h => by
              rw [Int.tdiv_eq_ediv_of_nonneg (by omega)] at hq
              omega
            have HS := Lib.hid hstep
            have HQ1 := Lib.hid hq1
            have HMono := Lib.hid hmono
            have HHex := Lib.hid hhex
            clear hx hdd hq1 hstep hmono hhex
            go_wp2_with fail
            refine (ref_value_ok x wr HHex.out).mono ?_
            rintro e w' ⟨rfl, rfl⟩
            rw [hval]
            clear hval hxb
            have hbig : most < v * 16 + d → numAns 16 most s.data.toList = (0, 12) := fun h => by
              rw [HN.out, if_pos (.inr (by have := HMono.out; omega))]
            have HBig := Lib.hid hbig
            clear hbig
            by_cases h1 : most < d
            · go_wp2
              go_ret2
              rw [HBig.out (by omega)]
              exact ⟨rfl, rfl⟩
            · have h2a := (HQ1.out (by omega)).1
              have h2b := (HQ1.out (by omega)).2
              by_cases h2 : q < v
              · go_wp2
                go_ret2
                rw [HBig.out (by omega)]
                exact ⟨rfl, rfl⟩
              · go_wp2
                go_roundw
                case rel => exact ⟨k + 1, v * 16 + d, by omega, by go_num, by go_num, HS.out.symm, by omega, (fun _ => by omega), by trivial⟩
                case measure => simp [intOf]; omega
          · obtain rfl : k = s.size := by omega
            have hv := HV.out
            rw [List.take_of_length_le (by rw [size_toList]; omega)] at hv
            have hpos : 0 < s.size := by
              have := HE.out
              rcases Nat.eq_zero_or_pos s.size with h | h
              · rw [← size_toList] at h
                exact absurd (List.eq_nil_of_length_eq_zero h) this
              · exact h
            have hle := HM.out hpos
            have HN2 : Hid (numAns 16 most s.data.toList = (v, 0)) := by
              show _ = _
              rw [HN.out, ← hv, if_neg (by omega)]
            clear hv
            go_wp2
            go_ret2
            rw [HN2.out]
            exact ⟨rfl, rfl⟩

set_option maxRecDepth 100000 in
set_option maxHeartbeats 1000000 in
theorem decimal_ok (s : ByteArray) (most : Int) (hs : s.size ≤ 140737488351232) (hm1 : -9223372036854775808 ≤ most) (hm2 : most ≤ 9223372036854775807) (W : World) :
    Calls Tryd.prog 19 #[.string s, .int .i64 most] W fun e w' => e = .returned (.tuple #[.int .i64 (numAns 10 most s.data.toList).1, .int .i64 (numAns 10 most s.data.toList).2]) ∧ Frm (fun _ => False) W w' := by
  go_enter Tryd.func19, Tryd.ntmps19
  go_wp2_with fail
  refine (number_ok10 s most hs hm1 hm2 W).mono ?_
  rintro e w1 ⟨rfl, hf⟩
  go_wp2
  go_ret2
  exact ⟨rfl, hf⟩

set_option maxRecDepth 100000 in
set_option maxHeartbeats 1000000 in
theorem hex_ok (s : ByteArray) (most : Int) (hs : s.size ≤ 140737488351232) (hm1 : -9223372036854775808 ≤ most) (hm2 : most ≤ 9223372036854775807) (W : World) :
    Calls Tryd.prog 21 #[.string s, .int .i64 most] W fun e w' => e = .returned (.tuple #[.int .i64 (numAns 16 most s.data.toList).1, .int .i64 (numAns 16 most s.data.toList).2]) ∧ Frm (fun _ => False) W w' := by
  go_enter Tryd.func21, Tryd.ntmps21
  go_wp2_with fail
  refine (number_ok16 s most hs hm1 hm2 W).mono ?_
  rintro e w1 ⟨rfl, hf⟩
  go_wp2
  go_ret2
  exact ⟨rfl, hf⟩

set_option maxRecDepth 100000 in
set_option maxHeartbeats 1000000 in
theorem ref_decimal_ok (s : ByteArray) (most : Int) (hs : s.size ≤ 140737488351232) (hm1 : -9223372036854775808 ≤ most) (hm2 : most ≤ 9223372036854775807) (W : World) :
    Calls Tryd.prog 20 #[.string s, .int .i64 most] W fun e w' => e = .returned (.tuple #[.int .i64 (numAns 10 most s.data.toList).1, .int .i64 (numAns 10 most s.data.toList).2]) ∧ w' = W := by
  go_enter Tryd.func20, Tryd.ntmps20
  go_wp2_with fail
  refine (ref_number_ok10 s most hs hm1 hm2 W).mono ?_
  rintro e w1 ⟨rfl, rfl⟩
  go_wp2
  go_ret2
  exact ⟨rfl, rfl⟩

set_option maxRecDepth 100000 in
set_option maxHeartbeats 1000000 in
theorem ref_hexnum_ok (s : ByteArray) (most : Int) (hs : s.size ≤ 140737488351232) (hm1 : -9223372036854775808 ≤ most) (hm2 : most ≤ 9223372036854775807) (W : World) :
    Calls Tryd.prog 22 #[.string s, .int .i64 most] W fun e w' => e = .returned (.tuple #[.int .i64 (numAns 16 most s.data.toList).1, .int .i64 (numAns 16 most s.data.toList).2]) ∧ w' = W := by
  go_enter Tryd.func22, Tryd.ntmps22
  go_wp2_with fail
  refine (ref_number_ok16 s most hs hm1 hm2 W).mono ?_
  rintro e w1 ⟨rfl, rfl⟩
  go_wp2
  go_ret2
  exact ⟨rfl, rfl⟩
end Go.Proofs.YtjphdipbajfojaaDoor
