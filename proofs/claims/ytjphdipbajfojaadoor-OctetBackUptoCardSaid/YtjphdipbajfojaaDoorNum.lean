/- Numbers in digits: what 'number' reads, the program's and the document's. -/
import Derived.Test.YtjphdipbajfojaaDoorOct
import Derived.Test.YtjphdipbajfojaaDoorShelf
set_option linter.unusedVariables false
set_option linter.unusedSimpArgs false
namespace Go.Proofs.YtjphdipbajfojaaDoor
open Go Go.RowKit

/-- The digits, in their order. -/
def digs : List UInt8 := [48, 49, 50, 51, 52, 53, 54, 55, 56, 57, 97, 98, 99, 100, 101, 102]
/-- What a digit says; -1: it is none. -/
def dig (b : UInt8) : Int := Lib.indexByte digs (lowB b)
set_option maxRecDepth 100000 in
theorem dig_all : ∀ n, n < 256 → (let b := UInt8.ofNat n; -1 ≤ dig b ∧ dig b < 16) := by decide
theorem dig_lt (b : UInt8) : -1 ≤ dig b ∧ dig b < 16 := by
  have := dig_all b.toNat b.toNat_lt
  simpa using this
/-- Every digit is one of the base. -/
def okDigs (base : Int) (l : List UInt8) : Bool := l.all fun b => decide (0 ≤ dig b ∧ dig b < base)
/-- The number. -/
def numOf (base : Int) (l : List UInt8) : Int := l.foldl (fun n b => n * base + dig b) 0
theorem numOf_step (base : Int) (l : List UInt8) (k : Nat) (x : UInt8) (h : l[k]? = some x) : numOf base (l.take (k + 1)) = numOf base (l.take k) * base + dig x := by
  unfold numOf
  rw [List.take_add_one, h, List.foldl_append]
  rfl
theorem okDigs_step (base : Int) (l : List UInt8) (k : Nat) (x : UInt8) (h : l[k]? = some x) : okDigs base (l.take (k + 1)) = (okDigs base (l.take k) && decide (0 ≤ dig x ∧ dig x < base)) := by
  unfold okDigs
  rw [List.take_add_one, h, List.all_append]
  simp
theorem okDigs_bad (base : Int) (l : List UInt8) (k : Nat) (x : UInt8) (h : l[k]? = some x) (hx : ¬ (0 ≤ dig x ∧ dig x < base)) : okDigs base l = false := by
  unfold okDigs
  rw [List.all_eq_false]
  exact ⟨x, List.mem_of_getElem? h, by simpa using hx⟩
/-- What 'number' answers: the number, and the error's number. -/
def numAns (base most : Int) (l : List UInt8) : Int × Int :=
  if l = [] then (0, 11) else if okDigs base l = false then (0, 11) else if most < 0 ∨ most < numOf base l then (0, 12) else (numOf base l, 0)
theorem numOf_nonneg (base : Int) (hb : 0 ≤ base) : ∀ (l : List UInt8), okDigs base l = true → 0 ≤ numOf base l := by
  intro l h
  unfold numOf
  have : ∀ (l : List UInt8) (n : Int), 0 ≤ n → okDigs base l = true → 0 ≤ l.foldl (fun n b => n * base + dig b) n := by
    intro l
    induction l with
    | nil => intro n hn _; exact hn
    | cons b l ih =>
      intro n hn hl
      unfold okDigs at hl ih
      rw [List.all_cons, Bool.and_eq_true] at hl
      have hb' := of_decide_eq_true hl.1
      refine ih _ ?_ hl.2
      have := Int.mul_nonneg hn hb
      show 0 ≤ n * base + dig b
      omega
  exact this l 0 (Int.le_refl 0) h

set_option maxRecDepth 100000 in
set_option maxHeartbeats 4000000 in
theorem number_ok10 (s : ByteArray) (most : Int) (hs : s.size ≤ 140737488351232) (hm1 : -9223372036854775808 ≤ most) (hm2 : most ≤ 9223372036854775807) (W : World) :
    Calls Tryd.prog 49 #[.string s, .int .i64 most, .int .i64 10] W fun e w' => e = .returned (.tuple #[.int .i64 (numAns 10 most s.data.toList).1, .int .i64 (numAns 10 most s.data.toList).2]) ∧ Frm (fun _ => False) W w' := by
  obtain ⟨q, hq⟩ : ∃ q, most.tdiv 10 = q := ⟨_, rfl⟩
  have hq1 : 0 ≤ most → 10 * q ≤ most ∧ most < 10 * q + 10 := fun h => by
    rw [Int.tdiv_eq_ediv_of_nonneg h] at hq
    omega
  have HQ1 := Lib.hid hq1
  clear hq1
  go_enter Tryd.func49, Tryd.ntmps49
  by_cases he : s.data.toList = []
  · have hn : numAns 10 most s.data.toList = (0, 11) := by rw [numAns, if_pos he]
    have he' : s.toList.isEmpty = true := by rw [ba_toList, he]; rfl
    go_wp2
    go_ret2
    rw [hn]
    exact ⟨rfl, Frm.refl _ _⟩
  · have he' : s.toList.isEmpty = false := by rw [ba_toList]; simpa using he
    have HE := Lib.hid he
    clear he
    go_wp2
    clear he'
    go_loopw [8, 9, 18] (fun n big i wr => ∃ (k : Nat) (v : Int) (bg : Bool), k ≤ s.size ∧ i = .int .i64 k ∧ n = .int .i64 v ∧ big = .bool bg ∧ okDigs 10 (s.data.toList.take k) = true ∧ bg = decide (most < 0 ∨ most < numOf 10 (s.data.toList.take k)) ∧ (bg = false → v = numOf 10 (s.data.toList.take k)) ∧ Frm (fun _ => False) W wr) (fun _ _ i _ => s.size - (intOf i).toNat)
    case atStart =>
      refine ⟨0, 0, decide (most < 0), Nat.zero_le _, rfl, rfl, rfl, rfl, ?_, fun _ => rfl, Frm.refl _ _⟩
      have : numOf 10 (s.data.toList.take 0) = 0 := rfl
      rw [this]; simp
    case round =>
      obtain ⟨k, v, bg, hk, rfl, rfl, rfl, hok, hbg, hv, hf⟩ := hrel
      have HF := Lib.hid hf
      have HOK := Lib.hid hok
      have hnn := numOf_nonneg 10 (by omega) _ hok
      obtain ⟨m, hm⟩ : ∃ m, m = numOf 10 (s.data.toList.take k) := ⟨_, rfl⟩
      rw [← hm] at hbg hv hnn
      have HM := Lib.hid hm
      clear hf hok hm
      by_cases hlt : k < s.size
      · obtain ⟨x, hx⟩ : ∃ x, s.data.toList[k]? = some x := ⟨_, List.getElem?_eq_getElem (by rw [size_toList]; omega)⟩
        have HX := Lib.hid hx
        clear hx
        have hstep := numOf_step 10 _ _ _ HX.out
        have hostep := okDigs_step 10 _ _ _ HX.out
        rw [← HM.out] at hstep
        rw [HOK.out, Bool.true_and] at hostep
        have HB := Lib.hid hbg
        have HV := Lib.hid hv
        have hx16 := dig_lt x
        obtain ⟨d, hd⟩ : ∃ d, d = dig x := ⟨_, rfl⟩
        rw [← hd] at hstep hostep hx16
        have HS := Lib.hid hstep
        have HO := Lib.hid hostep
        clear hbg hv hstep hostep
        go_wp2_with fail
        refine (lower_ok _ (Nat.le_trans (extract_size _ _ _) hs) wr).mono ?_
        rintro e w2 ⟨rfl, hf2⟩
        have h1 : tx (low (s.extract k (k + 1)).data.toList) = ⟨#[lowB x]⟩ := by rw [extract_one s k x HX.out]; rfl
        rw [h1]
        clear h1
        have HF2 := Lib.hid (HF.out.trans hf2)
        clear hf2
        go_wp2_with fail
        refine (strings_indexByte _ _ w2).mono ?_
        rintro e w3 ⟨rfl, rfl⟩
        have h2 : Lib.indexByte (⟨#[48, 49, 50, 51, 52, 53, 54, 55, 56, 57, 97, 98, 99, 100, 101, 102]⟩ : ByteArray).data.toList ((((⟨#[lowB x]⟩ : ByteArray)[0]'(by show 0 < 1; decide)).toNat : Int).toNat.toUInt8) = d := by
          rw [hd]
          show Lib.indexByte digs (((lowB x).toNat : Int).toNat.toUInt8) = Lib.indexByte digs (lowB x)
          simp
        rw [h2]
        clear h2
        have HD := Lib.hid hd
        clear hd
        have hbad : (d < 0 ∨ 10 ≤ d) → numAns 10 most s.data.toList = (0, 11) := fun h => by
          rw [numAns, if_neg HE.out, if_pos (okDigs_bad 10 _ _ _ HX.out (by rw [← HD.out]; omega))]
        have HBad := Lib.hid hbad
        clear hbad
        by_cases hd0 : d < 0
        · go_wp2
          go_ret2
          rw [HBad.out (.inl hd0)]
          exact ⟨rfl, HF2.out⟩
        · by_cases hd1 : 10 ≤ d
          · go_wp2
            go_ret2
            rw [HBad.out (.inr hd1)]
            exact ⟨rfl, HF2.out⟩
          · have HOK' : Hid (okDigs 10 (s.data.toList.take (k + 1)) = true) := HO.out.trans (decide_eq_true ⟨by omega, by omega⟩)
            cases bg with
            | true =>
              go_wp2
              go_roundw
              case rel =>
                refine ⟨k + 1, v, true, by omega, by go_num, rfl, rfl, HOK'.out, ?_, (fun h => by cases h), HF2.out⟩
                have h1 := of_decide_eq_true HB.out.symm
                rw [HS.out]
                exact (decide_eq_true (by omega)).symm
              case measure => simp [intOf]; omega
            | false =>
              have hv := HV.out rfl
              subst hv
              have h1 := of_decide_eq_false HB.out.symm
              have h1a : 0 ≤ most := by omega
              have h1b : v ≤ most := by omega
              have h1c := (HQ1.out h1a).1
              have h1d := (HQ1.out h1a).2
              clear h1
              by_cases hA : q < v
              · go_wp2
                go_roundw
                case rel =>
                  refine ⟨k + 1, v, true, by omega, by go_num, rfl, rfl, HOK'.out, ?_, (fun h => by cases h), HF2.out⟩
                  rw [HS.out]
                  exact (decide_eq_true (by omega)).symm
                case measure => simp [intOf]; omega
              · by_cases hB : most - d < v * 10
                · go_wp2
                  go_roundw
                  case rel =>
                    refine ⟨k + 1, v, true, by omega, by go_num, rfl, rfl, HOK'.out, ?_, (fun h => by cases h), HF2.out⟩
                    rw [HS.out]
                    exact (decide_eq_true (by omega)).symm
                  case measure => simp [intOf]; omega
                · go_wp2
                  go_roundw
                  case rel =>
                    refine ⟨k + 1, v * 10 + d, false, by omega, by go_num, by go_num, rfl, HOK'.out, ?_, (fun _ => HS.out.symm), HF2.out⟩
                    rw [HS.out]
                    exact (decide_eq_false (by omega)).symm
                  case measure => simp [intOf]; omega
      · obtain rfl : k = s.size := by omega
        have ht : s.data.toList.take s.size = s.data.toList := List.take_of_length_le (by rw [size_toList]; omega)
        have hok := HOK.out
        have hm := HM.out
        rw [ht] at hok hm
        have HN : Hid (numAns 10 most s.data.toList = if most < 0 ∨ most < m then (0, 12) else (m, 0)) := by
          show numAns 10 most s.data.toList = _
          rw [numAns, if_neg HE.out, if_neg (by rw [hok]; decide), ← hm]
        clear hok hm ht
        cases bg with
        | true =>
          have h1 := of_decide_eq_true hbg.symm
          rw [if_pos h1] at HN
          clear hbg hv h1
          go_wp2
          go_ret2
          rw [HN.out]
          exact ⟨rfl, HF.out⟩
        | false =>
          have h1 := of_decide_eq_false hbg.symm
          have hv' := hv rfl
          subst hv'
          rw [if_neg h1] at HN
          clear hbg hv h1
          go_wp2
          go_ret2
          rw [HN.out]
          exact ⟨rfl, HF.out⟩

set_option maxRecDepth 100000 in
set_option maxHeartbeats 4000000 in
theorem number_ok16 (s : ByteArray) (most : Int) (hs : s.size ≤ 140737488351232) (hm1 : -9223372036854775808 ≤ most) (hm2 : most ≤ 9223372036854775807) (W : World) :
    Calls Tryd.prog 49 #[.string s, .int .i64 most, .int .i64 16] W fun e w' => e = .returned (.tuple #[.int .i64 (numAns 16 most s.data.toList).1, .int .i64 (numAns 16 most s.data.toList).2]) ∧ Frm (fun _ => False) W w' := by
  obtain ⟨q, hq⟩ : ∃ q, most.tdiv 16 = q := ⟨_, rfl⟩
  have hq1 : 0 ≤ most → 16 * q ≤ most ∧ most < 16 * q + 16 := fun h => by
    rw [Int.tdiv_eq_ediv_of_nonneg h] at hq
    omega
  have HQ1 := Lib.hid hq1
  clear hq1
  go_enter Tryd.func49, Tryd.ntmps49
  by_cases he : s.data.toList = []
  · have hn : numAns 16 most s.data.toList = (0, 11) := by rw [numAns, if_pos he]
    have he' : s.toList.isEmpty = true := by rw [ba_toList, he]; rfl
    go_wp2
    go_ret2
    rw [hn]
    exact ⟨rfl, Frm.refl _ _⟩
  · have he' : s.toList.isEmpty = false := by rw [ba_toList]; simpa using he
    have HE := Lib.hid he
    clear he
    go_wp2
    clear he'
    go_loopw [8, 9, 18] (fun n big i wr => ∃ (k : Nat) (v : Int) (bg : Bool), k ≤ s.size ∧ i = .int .i64 k ∧ n = .int .i64 v ∧ big = .bool bg ∧ okDigs 16 (s.data.toList.take k) = true ∧ bg = decide (most < 0 ∨ most < numOf 16 (s.data.toList.take k)) ∧ (bg = false → v = numOf 16 (s.data.toList.take k)) ∧ Frm (fun _ => False) W wr) (fun _ _ i _ => s.size - (intOf i).toNat)
    case atStart =>
      refine ⟨0, 0, decide (most < 0), Nat.zero_le _, rfl, rfl, rfl, rfl, ?_, fun _ => rfl, Frm.refl _ _⟩
      have : numOf 16 (s.data.toList.take 0) = 0 := rfl
      rw [this]; simp
    case round =>
      obtain ⟨k, v, bg, hk, rfl, rfl, rfl, hok, hbg, hv, hf⟩ := hrel
      have HF := Lib.hid hf
      have HOK := Lib.hid hok
      have hnn := numOf_nonneg 16 (by omega) _ hok
      obtain ⟨m, hm⟩ : ∃ m, m = numOf 16 (s.data.toList.take k) := ⟨_, rfl⟩
      rw [← hm] at hbg hv hnn
      have HM := Lib.hid hm
      clear hf hok hm
      by_cases hlt : k < s.size
      · obtain ⟨x, hx⟩ : ∃ x, s.data.toList[k]? = some x := ⟨_, List.getElem?_eq_getElem (by rw [size_toList]; omega)⟩
        have HX := Lib.hid hx
        clear hx
        have hstep := numOf_step 16 _ _ _ HX.out
        have hostep := okDigs_step 16 _ _ _ HX.out
        rw [← HM.out] at hstep
        rw [HOK.out, Bool.true_and] at hostep
        have HB := Lib.hid hbg
        have HV := Lib.hid hv
        have hx16 := dig_lt x
        obtain ⟨d, hd⟩ : ∃ d, d = dig x := ⟨_, rfl⟩
        rw [← hd] at hstep hostep hx16
        have HS := Lib.hid hstep
        have HO := Lib.hid hostep
        clear hbg hv hstep hostep
        go_wp2_with fail
        refine (lower_ok _ (Nat.le_trans (extract_size _ _ _) hs) wr).mono ?_
        rintro e w2 ⟨rfl, hf2⟩
        have h1 : tx (low (s.extract k (k + 1)).data.toList) = ⟨#[lowB x]⟩ := by rw [extract_one s k x HX.out]; rfl
        rw [h1]
        clear h1
        have HF2 := Lib.hid (HF.out.trans hf2)
        clear hf2
        go_wp2_with fail
        refine (strings_indexByte _ _ w2).mono ?_
        rintro e w3 ⟨rfl, rfl⟩
        have h2 : Lib.indexByte (⟨#[48, 49, 50, 51, 52, 53, 54, 55, 56, 57, 97, 98, 99, 100, 101, 102]⟩ : ByteArray).data.toList ((((⟨#[lowB x]⟩ : ByteArray)[0]'(by show 0 < 1; decide)).toNat : Int).toNat.toUInt8) = d := by
          rw [hd]
          show Lib.indexByte digs (((lowB x).toNat : Int).toNat.toUInt8) = Lib.indexByte digs (lowB x)
          simp
        rw [h2]
        clear h2
        have HD := Lib.hid hd
        clear hd
        have hbad : (d < 0 ∨ 16 ≤ d) → numAns 16 most s.data.toList = (0, 11) := fun h => by
          rw [numAns, if_neg HE.out, if_pos (okDigs_bad 16 _ _ _ HX.out (by rw [← HD.out]; omega))]
        have HBad := Lib.hid hbad
        clear hbad
        by_cases hd0 : d < 0
        · go_wp2
          go_ret2
          rw [HBad.out (.inl hd0)]
          exact ⟨rfl, HF2.out⟩
        · by_cases hd1 : 16 ≤ d
          · go_wp2
            go_ret2
            rw [HBad.out (.inr hd1)]
            exact ⟨rfl, HF2.out⟩
          · have HOK' : Hid (okDigs 16 (s.data.toList.take (k + 1)) = true) := HO.out.trans (decide_eq_true ⟨by omega, by omega⟩)
            cases bg with
            | true =>
              go_wp2
              go_roundw
              case rel =>
                refine ⟨k + 1, v, true, by omega, by go_num, rfl, rfl, HOK'.out, ?_, (fun h => by cases h), HF2.out⟩
                have h1 := of_decide_eq_true HB.out.symm
                rw [HS.out]
                exact (decide_eq_true (by omega)).symm
              case measure => simp [intOf]; omega
            | false =>
              have hv := HV.out rfl
              subst hv
              have h1 := of_decide_eq_false HB.out.symm
              have h1a : 0 ≤ most := by omega
              have h1b : v ≤ most := by omega
              have h1c := (HQ1.out h1a).1
              have h1d := (HQ1.out h1a).2
              clear h1
              by_cases hA : q < v
              · go_wp2
                go_roundw
                case rel =>
                  refine ⟨k + 1, v, true, by omega, by go_num, rfl, rfl, HOK'.out, ?_, (fun h => by cases h), HF2.out⟩
                  rw [HS.out]
                  exact (decide_eq_true (by omega)).symm
                case measure => simp [intOf]; omega
              · by_cases hB : most - d < v * 16
                · go_wp2
                  go_roundw
                  case rel =>
                    refine ⟨k + 1, v, true, by omega, by go_num, rfl, rfl, HOK'.out, ?_, (fun h => by cases h), HF2.out⟩
                    rw [HS.out]
                    exact (decide_eq_true (by omega)).symm
                  case measure => simp [intOf]; omega
                · go_wp2
                  go_roundw
                  case rel =>
                    refine ⟨k + 1, v * 16 + d, false, by omega, by go_num, by go_num, rfl, HOK'.out, ?_, (fun _ => HS.out.symm), HF2.out⟩
                    rw [HS.out]
                    exact (decide_eq_false (by omega)).symm
                  case measure => simp [intOf]; omega
      · obtain rfl : k = s.size := by omega
        have ht : s.data.toList.take s.size = s.data.toList := List.take_of_length_le (by rw [size_toList]; omega)
        have hok := HOK.out
        have hm := HM.out
        rw [ht] at hok hm
        have HN : Hid (numAns 16 most s.data.toList = if most < 0 ∨ most < m then (0, 12) else (m, 0)) := by
          show numAns 16 most s.data.toList = _
          rw [numAns, if_neg HE.out, if_neg (by rw [hok]; decide), ← hm]
        clear hok hm ht
        cases bg with
        | true =>
          have h1 := of_decide_eq_true hbg.symm
          rw [if_pos h1] at HN
          clear hbg hv h1
          go_wp2
          go_ret2
          rw [HN.out]
          exact ⟨rfl, HF.out⟩
        | false =>
          have h1 := of_decide_eq_false hbg.symm
          have hv' := hv rfl
          subst hv'
          rw [if_neg h1] at HN
          clear hbg hv h1
          go_wp2
          go_ret2
          rw [HN.out]
          exact ⟨rfl, HF.out⟩
end Go.Proofs.YtjphdipbajfojaaDoor
