/- Numbers in digits: what 'number' reads, the program's and the document's. Numbers in digits: the document's reading. Numbers in digits: the document's 'number'. -/
import Derived.Test.YtjphdipbajfojaaDoorOct
import Derived.Test.YtjphdipbajfojaaDoorShelf
set_option linter.unusedVariables false
set_option linter.unusedSimpArgs false
namespace Go.Proofs.YtjphdipbajfojaaDoor
open Go Go.RowKit

/-- The digits, in their order. -/
def digs : List UInt8 := [48, 49, 50, 51, 52, 53, 54, 55, 56, 57, 97, 98, 99, 100, 101, 102]
/-- What a digit says; -1: it is none. -/
def dig (b : UInt8) : Int := Lib.indexByte digs (lowB b)
set_option maxRecDepth 100000 in
theorem dig_all : ∀ n, n < 256 → (let b := UInt8.ofNat n; -1 ≤ dig b ∧ dig b < 16) := by decide
theorem dig_lt (b : UInt8) : -1 ≤ dig b ∧ dig b < 16 := by
  have := dig_all b.toNat b.toNat_lt
  simpa using this
/-- Every digit is one of the base. -/
def okDigs (base : Int) (l : List UInt8) : Bool := l.all fun b => decide (0 ≤ dig b ∧ dig b < base)
/-- The number. -/
def numOf (base : Int) (l : List UInt8) : Int := l.foldl (fun n b => n * base + dig b) 0
theorem numOf_step (base : Int) (l : List UInt8) (k : Nat) (x : UInt8) (h : l[k]? = some x) : numOf base (l.take (k + 1)) = numOf base (l.take k) * base + dig x := by
  unfold numOf
  rw [List.take_add_one, h, List.foldl_append]
  rfl
theorem okDigs_step (base : Int) (l : List UInt8) (k : Nat) (x : UInt8) (h : l[k]? = some x) : okDigs base (l.take (k + 1)) = (okDigs base (l.take k) && decide (0 ≤ dig x ∧ dig x < base)) := by
  unfold okDigs
  rw [List.take_add_one, h, List.all_append]
  simp
theorem okDigs_bad (base : Int) (l : List UInt8) (k : Nat) (x : UInt8) (h : l[k]? = some x) (hx : ¬ (0 ≤ dig x ∧ dig x < base)) : okDigs base l = false := by
  unfold okDigs
  rw [List.all_eq_false]
  exact ⟨x, List.mem_of_getElem? h, by simpa using hx⟩
/-- What 'number' answers: the number, and the error's number. -/
def numAns (base most : Int) (l : List UInt8) : Int × Int :=
  if l = [] then (0, 11) else if okDigs base l = false then (0, 11) else if most < 0 ∨ most < numOf base l then (0, 12) else (numOf base l, 0)
theorem numOf_nonneg (base : Int) (hb : 0 ≤ base) : ∀ (l : List UInt8), okDigs base l = true → 0 ≤ numOf base l := by
  intro l h
  unfold numOf
  have : ∀ (l : List UInt8) (n : Int), 0 ≤ n → okDigs base l = true → 0 ≤ l.foldl (fun n b => n * base + dig b) n := by
    intro l
    induction l with
    | nil => intro n hn _; exact hn
    | cons b l ih =>
      intro n hn hl
      unfold okDigs at hl ih
      rw [List.all_cons, Bool.and_eq_true] at hl
      have hb' := of_decide_eq_true hl.1
      refine ih _ ?_ hl.2
      have := Int.mul_nonneg hn hb
      show 0 ≤ n * base + dig b
      omega
  exact this l 0 (Int.le_refl 0) h

set_option maxRecDepth 100000 in
set_option maxHeartbeats 4000000 in
theorem number_ok10 (s : ByteArray) (most : Int) (hs : s.size ≤ 140737488351232) (hm1 : -9223372036854775808 ≤ most) (hm2 : most ≤ 9223372036854775807) (W : World) :
    Calls Tryd.prog 49 #[.string s, .int .i64 most, .int .i64 10] W fun e w' => e = .returned (.tuple #[.int .i64 (numAns 10 most s.data.toList).1, .int .i64 (numAns 10 most s.data.toList).2]) ∧ Frm (fun _ => False) W w' := by
  obtain ⟨q, hq⟩ : ∃ q, most.tdiv 10 = q := ⟨_, rfl⟩
  have hq1 : 0 ≤ most → 10 * q ≤ most ∧ most < 10 * q + 10 := fun h => by
    rw [Int.tdiv_eq_ediv_of_nonneg h] at hq
    omega
  have HQ1 := Lib.hid hq1
  clear hq1
  go_enter Tryd.func49, Tryd.ntmps49
  by_cases he : s.data.toList = []
  · have hn : numAns 10 most s.data.toList = (0, 11) := by rw [numAns, if_pos he]
    have he' : s.toList.isEmpty = true := by rw [ba_toList, he]; rfl
    go_wp2
    go_ret2
    rw [hn]
    exact ⟨rfl, Frm.refl _ _⟩
  · have he' : s.toList.isEmpty = false := by rw [ba_toList]; simpa using he
    have HE := Lib.hid he
    clear he
    go_wp2
    clear he'
    go_loopw [8, 9, 18] (fun n big i wr => ∃ (k : Nat) (v : Int) (bg : Bool), k ≤ s.size ∧ i = .int .i64 k ∧ n = .int .i64 v ∧ big = .bool bg ∧ okDigs 10 (s.data.toList.take k) = true ∧ bg = decide (most < 0 ∨ most < numOf 10 (s.data.toList.take k)) ∧ (bg = false → v = numOf 10 (s.data.toList.take k)) ∧ Frm (fun _ => False) W wr) (fun _ _ i _ => s.size - (intOf i).toNat)
    case atStart =>
      refine ⟨0, 0, decide (most < 0), Nat.zero_le _, rfl, rfl, rfl, rfl, ?_, fun _ => rfl, Frm.refl _ _⟩
      have : numOf 10 (s.data.toList.take 0) = 0 := rfl
      rw [this]; simp
    case round =>
      obtain ⟨k, v, bg, hk, rfl, rfl, rfl, hok, hbg, hv, hf⟩ := hrel
      have HF := Lib.hid hf
      have HOK := Lib.hid hok
      have hnn := numOf_nonneg 10 (by omega) _ hok
      obtain ⟨m, hm⟩ : ∃ m, m = numOf 10 (s.data.toList.take k) := ⟨_, rfl⟩
      rw [← hm] at hbg hv hnn
      have HM := Lib.hid hm
      clear hf hok hm
      by_cases hlt : k < s.size
      · obtain ⟨x, hx⟩ : ∃ x, s.data.toList[k]? = some x := ⟨_, List.getElem?_eq_getElem (by rw [size_toList]; omega)⟩
        have HX := Lib.hid hx
        clear hx
        have hstep := numOf_step 10 _ _ _ HX.out
        have hostep := okDigs_step 10 _ _ _ HX.out
        rw [← HM.out] at hstep
        rw [HOK.out, Bool.true_and] at hostep
        have HB := Lib.hid hbg
        have HV := Lib.hid hv
        have hx16 := dig_lt x
        obtain ⟨d, hd⟩ : ∃ d, d = dig x := ⟨_, rfl⟩
        rw [← hd] at hstep hostep hx16
        have HS := Lib.hid hstep
        have HO := Lib.hid hostep
        clear hbg hv hstep hostep
        go_wp2_with fail
        refine (lower_ok _ (Nat.le_trans (extract_size _ _ _) hs) wr).mono ?_
        rintro e w2 ⟨rfl, hf2⟩
        have h1 : tx (low (s.extract k (k + 1)).data.toList) = ⟨#[lowB x]⟩ := by rw [extract_one s k x HX.out]; rfl
        rw [h1]
        clear h1
        have HF2 := Lib.hid (HF.out.trans hf2)
        clear hf2
        go_wp2_with fail
        refine (strings_indexByte _ _ w2).mono ?_
        rintro e w3 ⟨rfl, rfl⟩
        have h2 : Lib.indexByte (⟨#[48, 49, 50, 51, 52, 53, 54, 55, 56, 57, 97, 98, 99, 100, 101, 102]⟩ : ByteArray).data.toList ((((⟨#[lowB x]⟩ : ByteArray)[0]'(by show 0 < 1; decide)).toNat : Int).toNat.toUInt8) = d := by
          rw [hd]
          show Lib.indexByte digs (((lowB x).toNat : Int).toNat.toUInt8) = Lib.indexByte digs (lowB x)
          simp
        rw [h2]
        clear h2
        have HD := Lib.hid hd
        clear hd
        have hbad : (d < 0 ∨ 10 ≤ d) → numAns 10 most s.data.toList = (0, 11) := fun h => by
          rw [numAns, if_neg HE.out, if_pos (okDigs_bad 10 _ _ _ HX.out (by rw [← HD.out]; omega))]
        have HBad := Lib.hid hbad
        clear hbad
        by_cases hd0 : d < 0
        · go_wp2
          go_ret2
          rw [HBad.out (.inl hd0)]
          exact ⟨rfl, HF2.out⟩
        · by_cases hd1 : 10 ≤ d
          · go_wp2
            go_ret2
            rw [HBad.out (.inr hd1)]
            exact ⟨rfl, HF2.out⟩
          · have HOK' : Hid (okDigs 10 (s.data.toList.take (k + 1)) = true) := HO.out.trans (decide_eq_true ⟨by omega, by omega⟩)
            cases bg with
            | true =>
              go_wp2
              go_roundw
              case rel =>
                refine ⟨k + 1, v, true, by omega, by go_num, rfl, rfl, HOK'.out, ?_, (fun h => by cases h), HF2.out⟩
                have h1 := of_decide_eq_true HB.out.symm
                rw [HS.out]
                exact (decide_eq_true (by omega)).symm
              case measure => simp [intOf]; omega
            | false =>
              have hv := HV.out rfl
              subst hv
              have h1 := of_decide_eq_false HB.out.symm
              have h1a : 0 ≤ most := by omega
              have h1b : v ≤ most := by omega
              have h1c := (HQ1.out h1a).1
              have h1d := (HQ1.out h1a).2
              clear h1
              by_cases hA : q < v
              · go_wp2
                go_roundw
                case rel =>
                  refine ⟨k + 1, v, true, by omega, by go_num, rfl, rfl, HOK'.out, ?_, (fun h => by cases h), HF2.out⟩
                  rw [HS.out]
                  exact (decide_eq_true (by omega)).symm
                case measure => simp [intOf]; omega
              · by_cases hB : most - d < v * 10
                · go_wp2
                  go_roundw
                  case rel =>
                    refine ⟨k + 1, v, true, by omega, by go_num, rfl, rfl, HOK'.out, ?_, (fun h => by cases h), HF2.out⟩
                    rw [HS.out]
                    exact (decide_eq_true (by omega)).symm
                  case measure => simp [intOf]; omega
                · go_wp2
                  go_roundw
                  case rel =>
                    refine ⟨k + 1, v * 10 + d, false, by omega, by go_num, by go_num, rfl, HOK'.out, ?_, (fun _ => HS.out.symm), HF2.out⟩
                    rw [HS.out]
                    exact (decide_eq_false (by omega)).symm
                  case measure => simp [intOf]; omega
      · obtain rfl : k = s.size := by omega
        have ht : s.data.toList.take s.size = s.data.toList := List.take_of_length_le (by rw [size_toList]; omega)
        have hok := HOK.out
        have hm := HM.out
        rw [ht] at hok hm
        have HN : Hid (numAns 10 most s.data.toList = if most < 0 ∨ most < m then (0, 12) else (m, 0)) := by
          show numAns 10 most s.data.toList = _
          rw [numAns, if_neg HE.out, if_neg (by rw [hok]; decide), ← hm]
        clear hok hm ht
        cases bg with
        | true =>
          have h1 := of_decide_eq_true hbg.symm
          rw [if_pos h1] at HN
          clear hbg hv h1
          go_wp2
          go_ret2
          rw [HN.out]
          exact ⟨rfl, HF.out⟩
        | false =>
          have h1 := of_decide_eq_false hbg.symm
          have hv' := hv rfl
          subst hv'
          rw [if_neg h1] at HN
          clear hbg hv h1
          go_wp2
          go_ret2
          rw [HN.out]
          exact ⟨rfl, HF.out⟩

set_option maxRecDepth 100000 in
set_option maxHeartbeats 4000000 in
theorem number_ok16 (s : ByteArray) (most : Int) (hs : s.size ≤ 140737488351232) (hm1 : -9223372036854775808 ≤ most) (hm2 : most ≤ 9223372036854775807) (W : World) :
    Calls Tryd.prog 49 #[.string s, .int .i64 most, .int .i64 16] W fun e w' => e = .returned (.tuple #[.int .i64 (numAns 16 most s.data.toList).1, .int .i64 (numAns 16 most s.data.toList).2]) ∧ Frm (fun _ => False) W w' := by
  obtain ⟨q, hq⟩ : ∃ q, most.tdiv 16 = q := ⟨_, rfl⟩
  have hq1 : 0 ≤ most → 16 * q ≤ most ∧ most < 16 * q + 16 := fun h => by
    rw [Int.tdiv_eq_ediv_of_nonneg h] at hq
    omega
  have HQ1 := Lib.hid hq1
  clear hq1
  go_enter Tryd.func49, Tryd.ntmps49
  by_cases he : s.data.toList = []
  · have hn : numAns 16 most s.data.toList = (0, 11) := by rw [numAns, if_pos he]
    have he' : s.toList.isEmpty = true := by rw [ba_toList, he]; rfl
    go_wp2
    go_ret2
    rw [hn]
    exact ⟨rfl, Frm.refl _ _⟩
  · have he' : s.toList.isEmpty = false := by rw [ba_toList]; simpa using he
    have HE := Lib.hid he
    clear he
    go_wp2
    clear he'
    go_loopw [8, 9, 18] (fun n big i wr => ∃ (k : Nat) (v : Int) (bg : Bool), k ≤ s.size ∧ i = .int .i64 k ∧ n = .int .i64 v ∧ big = .bool bg ∧ okDigs 16 (s.data.toList.take k) = true ∧ bg = decide (most < 0 ∨ most < numOf 16 (s.data.toList.take k)) ∧ (bg = false → v = numOf 16 (s.data.toList.take k)) ∧ Frm (fun _ => False) W wr) (fun _ _ i _ => s.size - (intOf i).toNat)
    case atStart =>
      refine ⟨0, 0, decide (most < 0), Nat.zero_le _, rfl, rfl, rfl, rfl, ?_, fun _ => rfl, Frm.refl _ _⟩
      have : numOf 16 (s.data.toList.take 0) = 0 := rfl
      rw [this]; simp
    case round =>
      obtain ⟨k, v, bg, hk, rfl, rfl, rfl, hok, hbg, hv, hf⟩ := hrel
      have HF := Lib.hid hf
      have HOK := Lib.hid hok
      have hnn := numOf_nonneg 16 (by omega) _ hok
      obtain ⟨m, hm⟩ : ∃ m, m = numOf 16 (s.data.toList.take k) := ⟨_, rfl⟩
      rw [← hm] at hbg hv hnn
      have HM := Lib.hid hm
      clear hf hok hm
      by_cases hlt : k < s.size
      · obtain ⟨x, hx⟩ : ∃ x, s.data.toList[k]? = some x := ⟨_, List.getElem?_eq_getElem (by rw [size_toList]; omega)⟩
        have HX := Lib.hid hx
        clear hx
        have hstep := numOf_step 16 _ _ _ HX.out
        have hostep := okDigs_step 16 _ _ _ HX.out
        rw [← HM.out] at hstep
        rw [HOK.out, Bool.true_and] at hostep
        have HB := Lib.hid hbg
        have HV := Lib.hid hv
        have hx16 := dig_lt x
        obtain ⟨d, hd⟩ : ∃ d, d = dig x := ⟨_, rfl⟩
        rw [← hd] at hstep hostep hx16
        have HS := Lib.hid hstep
        have HO := Lib.hid hostep
        clear hbg hv hstep hostep
        go_wp2_with fail
        refine (lower_ok _ (Nat.le_trans (extract_size _ _ _) hs) wr).mono ?_
        rintro e w2 ⟨rfl, hf2⟩
        have h1 : tx (low (s.extract k (k + 1)).data.toList) = ⟨#[lowB x]⟩ := by rw [extract_one s k x HX.out]; rfl
        rw [h1]
        clear h1
        have HF2 := Lib.hid (HF.out.trans hf2)
        clear hf2
        go_wp2_with fail
        refine (strings_indexByte _ _ w2).mono ?_
        rintro e w3 ⟨rfl, rfl⟩
        have h2 : Lib.indexByte (⟨#[48, 49, 50, 51, 52, 53, 54, 55, 56, 57, 97, 98, 99, 100, 101, 102]⟩ : ByteArray).data.toList ((((⟨#[lowB x]⟩ : ByteArray)[0]'(by show 0 < 1; decide)).toNat : Int).toNat.toUInt8) = d := by
          rw [hd]
          show Lib.indexByte digs (((lowB x).toNat : Int).toNat.toUInt8) = Lib.indexByte digs (lowB x)
          simp
        rw [h2]
        clear h2
        have HD := Lib.hid hd
        clear hd
        have hbad : (d < 0 ∨ 16 ≤ d) → numAns 16 most s.data.toList = (0, 11) := fun h => by
          rw [numAns, if_neg HE.out, if_pos (okDigs_bad 16 _ _ _ HX.out (by rw [← HD.out]; omega))]
        have HBad := Lib.hid hbad
        clear hbad
        by_cases hd0 : d < 0
        · go_wp2
          go_ret2
          rw [HBad.out (.inl hd0)]
          exact ⟨rfl, HF2.out⟩
        · by_cases hd1 : 16 ≤ d
          · go_wp2
            go_ret2
            rw [HBad.out (.inr hd1)]
            exact ⟨rfl, HF2.out⟩
          · have HOK' : Hid (okDigs 16 (s.data.toList.take (k + 1)) = true) := HO.out.trans (decide_eq_true ⟨by omega, by omega⟩)
            cases bg with
            | true =>
              go_wp2
              go_roundw
              case rel =>
                refine ⟨k + 1, v, true, by omega, by go_num, rfl, rfl, HOK'.out, ?_, (fun h => by cases h), HF2.out⟩
                have h1 := of_decide_eq_true HB.out.symm
                rw [HS.out]
                exact (decide_eq_true (by omega)).symm
              case measure => simp [intOf]; omega
            | false =>
              have hv := HV.out rfl
              subst hv
              have h1 := of_decide_eq_false HB.out.symm
              have h1a : 0 ≤ most := by omega
              have h1b : v ≤ most := by omega
              have h1c := (HQ1.out h1a).1
              have h1d := (HQ1.out h1a).2
              clear h1
              by_cases hA : q < v
              · go_wp2
                go_roundw
                case rel =>
                  refine ⟨k + 1, v, true, by omega, by go_num, rfl, rfl, HOK'.out, ?_, (fun h => by cases h), HF2.out⟩
                  rw [HS.out]
                  exact (decide_eq_true (by omega)).symm
                case measure => simp [intOf]; omega
              · by_cases hB : most - d < v * 16
                · go_wp2
                  go_roundw
                  case rel =>
                    refine ⟨k + 1, v, true, by omega, by go_num, rfl, rfl, HOK'.out, ?_, (fun h => by cases h), HF2.out⟩
                    rw [HS.out]
                    exact (decide_eq_true (by omega)).symm
                  case measure => simp [intOf]; omega
                · go_wp2
                  go_roundw
                  case rel =>
                    refine ⟨k + 1, v * 16 + d, false, by omega, by go_num, by go_num, rfl, HOK'.out, ?_, (fun _ => HS.out.symm), HF2.out⟩
                    rw [HS.out]
                    exact (decide_eq_false (by omega)).symm
                  case measure => simp [intOf]; omega
      · obtain rfl : k = s.size := by omega
        have ht : s.data.toList.take s.size = s.data.toList := List.take_of_length_le (by rw [size_toList]; omega)
        have hok := HOK.out
        have hm := HM.out
        rw [ht] at hok hm
        have HN : Hid (numAns 16 most s.data.toList = if most < 0 ∨ most < m then (0, 12) else (m, 0)) := by
          show numAns 16 most s.data.toList = _
          rw [numAns, if_neg HE.out, if_neg (by rw [hok]; decide), ← hm]
        clear hok hm ht
        cases bg with
        | true =>
          have h1 := of_decide_eq_true hbg.symm
          rw [if_pos h1] at HN
          clear hbg hv h1
          go_wp2
          go_ret2
          rw [HN.out]
          exact ⟨rfl, HF.out⟩
        | false =>
          have h1 := of_decide_eq_false hbg.symm
          have hv' := hv rfl
          subst hv'
          rw [if_neg h1] at HN
          clear hbg hv h1
          go_wp2
          go_ret2
          rw [HN.out]
          exact ⟨rfl, HF.out⟩
end Go.Proofs.YtjphdipbajfojaaDoor
set_option linter.unusedVariables false
set_option linter.unusedSimpArgs false
namespace Go.Proofs.YtjphdipbajfojaaDoor
open Go Go.RowKit

def isDig (b : UInt8) : Bool := decide (48 ≤ b.toNat ∧ b.toNat ≤ 57)
def isHex (b : UInt8) : Bool := isDig b || decide (65 ≤ b.toNat ∧ b.toNat ≤ 70) || decide (97 ≤ b.toNat ∧ b.toNat ≤ 102)
set_option maxRecDepth 100000 in
theorem dig_dec : ∀ n, n < 256 → (isDig (UInt8.ofNat n) = decide (0 ≤ dig (UInt8.ofNat n) ∧ dig (UInt8.ofNat n) < 10)) := by decide
set_option maxRecDepth 100000 in
theorem dig_hex : ∀ n, n < 256 → (isHex (UInt8.ofNat n) = decide (0 ≤ dig (UInt8.ofNat n) ∧ dig (UInt8.ofNat n) < 16)) := by decide
/-- What the document's 'value' says. -/
def val (b : UInt8) : Int := if isDig b then (b.toNat : Int) - 48 else if 97 ≤ b.toNat then (b.toNat : Int) - 97 + 10 else (b.toNat : Int) - 65 + 10
set_option maxRecDepth 100000 in
theorem dig_val : ∀ n, n < 256 → 0 ≤ dig (UInt8.ofNat n) → val (UInt8.ofNat n) = dig (UInt8.ofNat n) := by decide
theorem u8_ofNat (b : UInt8) : UInt8.ofNat b.toNat = b := by simp
theorem isDig_dig (b : UInt8) : isDig b = decide (0 ≤ dig b ∧ dig b < 10) := by have := dig_dec b.toNat b.toNat_lt; rwa [u8_ofNat] at this
theorem isHex_dig (b : UInt8) : isHex b = decide (0 ≤ dig b ∧ dig b < 16) := by have := dig_hex b.toNat b.toNat_lt; rwa [u8_ofNat] at this
theorem val_dig (b : UInt8) (h : 0 ≤ dig b) : val b = dig b := by have := dig_val b.toNat b.toNat_lt; rw [u8_ofNat] at this; exact this h

set_option maxRecDepth 100000 in
set_option maxHeartbeats 1000000 in
theorem ref_digit_ok (b : UInt8) (W : World) : Calls Tryd.prog 67 #[.int .u8 b.toNat] W fun e w' => e = .returned (.bool (isDig b)) ∧ w' = W := by
  go_enter Tryd.func67, Tryd.ntmps67
  have hb := b.toNat_lt
  by_cases h1 : 48 ≤ b.toNat
  · by_cases h2 : b.toNat ≤ 57
    · have e1 : isDig b = true := decide_eq_true ⟨h1, h2⟩
      rw [e1]
      go_wp2
      go_ret
      exact ⟨by first | rfl | (simp <;> omega), rfl⟩
    · have e1 : isDig b = false := decide_eq_false (fun h => h2 h.2)
      rw [e1]
      go_wp2
      go_ret
      exact ⟨by first | rfl | (simp <;> omega), rfl⟩
  · have e1 : isDig b = false := decide_eq_false (fun h => h1 h.1)
    rw [e1]
    go_wp2
    go_ret
    exact ⟨by first | rfl | (simp <;> omega), rfl⟩

set_option maxRecDepth 100000 in
set_option maxHeartbeats 2000000 in
theorem ref_hex_ok (b : UInt8) (W : World) : Calls Tryd.prog 68 #[.int .u8 b.toNat] W fun e w' => e = .returned (.bool (isHex b)) ∧ w' = W := by
  have hb := b.toNat_lt
  cases hd : isDig b
  · by_cases h1 : 65 ≤ b.toNat
    · by_cases h2 : b.toNat ≤ 70
      · have e1 : isHex b = true := by rw [isHex, hd]; simp <;> omega
        rw [e1]
        go_enter Tryd.func68, Tryd.ntmps68
        go_wp2_with fail
        refine (ref_digit_ok b W).mono ?_
        rintro e w' ⟨rfl, rfl⟩
        rw [hd]
        clear hd e1
        go_wp2
        go_ret
        exact ⟨by first | rfl | (simp <;> omega), rfl⟩
      · by_cases h3 : 97 ≤ b.toNat
        · by_cases h4 : b.toNat ≤ 102
          · have e1 : isHex b = true := by rw [isHex, hd]; simp <;> omega
            rw [e1]
            go_enter Tryd.func68, Tryd.ntmps68
            go_wp2_with fail
            refine (ref_digit_ok b W).mono ?_
            rintro e w' ⟨rfl, rfl⟩
            rw [hd]
            clear hd e1
            go_wp2
            go_ret
            exact ⟨by first | rfl | (simp <;> omega), rfl⟩
          · have e1 : isHex b = false := by rw [isHex, hd]; simp <;> omega
            rw [e1]
            go_enter Tryd.func68, Tryd.ntmps68
            go_wp2_with fail
            refine (ref_digit_ok b W).mono ?_
            rintro e w' ⟨rfl, rfl⟩
            rw [hd]
            clear hd e1
            go_wp2
            go_ret
            exact ⟨by first | rfl | (simp <;> omega), rfl⟩
        · have e1 : isHex b = false := by rw [isHex, hd]; simp <;> omega
          rw [e1]
          go_enter Tryd.func68, Tryd.ntmps68
          go_wp2_with fail
          refine (ref_digit_ok b W).mono ?_
          rintro e w' ⟨rfl, rfl⟩
          rw [hd]
          clear hd e1
          go_wp2
          go_ret
          exact ⟨by first | rfl | (simp <;> omega), rfl⟩
    · have e1 : isHex b = false := by rw [isHex, hd]; simp <;> omega
      rw [e1]
      go_enter Tryd.func68, Tryd.ntmps68
      go_wp2_with fail
      refine (ref_digit_ok b W).mono ?_
      rintro e w' ⟨rfl, rfl⟩
      rw [hd]
      clear hd e1
      go_wp2
      go_ret
      exact ⟨by first | rfl | (simp <;> omega), rfl⟩
  · have e1 : isHex b = true := by rw [isHex, hd]; simp <;> omega
    rw [e1]
    go_enter Tryd.func68, Tryd.ntmps68
    go_wp2_with fail
    refine (ref_digit_ok b W).mono ?_
    rintro e w' ⟨rfl, rfl⟩
    rw [hd]
    clear hd e1
    go_wp2
    go_ret
    exact ⟨by first | rfl | (simp <;> omega), rfl⟩

set_option maxRecDepth 100000 in
set_option maxHeartbeats 1000000 in
theorem ref_value_ok (b : UInt8) (W : World) (h : isHex b = true) : Calls Tryd.prog 69 #[.int .u8 b.toNat] W fun e w' => e = .returned (.int .i64 (val b)) ∧ w' = W := by
  have hb := b.toNat_lt
  have h97 : isDig b = false → 97 ≤ b.toNat ∨ (65 ≤ b.toNat ∧ b.toNat ≤ 70) := fun hd => by
    rw [isHex, hd] at h
    simp at h
    omega
  have hd48 : isDig b = true → 48 ≤ b.toNat := fun hd => (of_decide_eq_true hd).1
  have H97 := Lib.hid h97
  have H48 := Lib.hid hd48
  clear h97 hd48 h
  cases hd : isDig b
  · have h3 := H97.out hd
    have hv : val b = if 97 ≤ b.toNat then (b.toNat : Int) - 97 + 10 else (b.toNat : Int) - 65 + 10 := by rw [val, hd]; rfl
    rw [hv]
    clear hv
    by_cases h4 : 97 ≤ b.toNat
    · rw [if_pos h4]
      go_enter Tryd.func69, Tryd.ntmps69
      go_wp2_with fail
      refine (ref_digit_ok b W).mono ?_
      rintro e w' ⟨rfl, rfl⟩
      rw [hd]
      clear hd
      go_wp2
      go_ret
      exact ⟨by first | rfl | (simp <;> omega), rfl⟩
    · rw [if_neg h4]
      go_enter Tryd.func69, Tryd.ntmps69
      go_wp2_with fail
      refine (ref_digit_ok b W).mono ?_
      rintro e w' ⟨rfl, rfl⟩
      rw [hd]
      clear hd
      go_wp2
      go_ret
      exact ⟨by first | rfl | (simp <;> omega), rfl⟩
  · have h3 := H48.out hd
    have hv : val b = (b.toNat : Int) - 48 := by rw [val, hd]; rfl
    rw [hv]
    clear hv
    go_enter Tryd.func69, Tryd.ntmps69
    go_wp2_with fail
    refine (ref_digit_ok b W).mono ?_
    rintro e w' ⟨rfl, rfl⟩
    rw [hd]
    clear hd
    go_wp2
    go_ret
    exact ⟨by first | rfl | (simp <;> omega), rfl⟩
end Go.Proofs.YtjphdipbajfojaaDoor
set_option linter.unusedVariables false
set_option linter.unusedSimpArgs false
namespace Go.Proofs.YtjphdipbajfojaaDoor
open Go Go.RowKit

theorem foldl_le (base : Int) (hb : 1 ≤ base) : ∀ (l : List UInt8) (n : Int), 0 ≤ n → okDigs base l = true → n ≤ l.foldl (fun n b => n * base + dig b) n
  | [], n, _, _ => Int.le_refl n
  | b :: l, n, hn, h => by
    unfold okDigs at h
    rw [List.all_cons, Bool.and_eq_true] at h
    have hd := of_decide_eq_true h.1
    have hmul : n ≤ n * base := by
      have := Int.mul_le_mul_of_nonneg_left hb hn
      omega
    have h0 : 0 ≤ n * base + dig b := by omega
    have := foldl_le base hb l (n * base + dig b) h0 h.2
    show n ≤ l.foldl (fun n b => n * base + dig b) (n * base + dig b)
    omega
theorem okDigs_take (base : Int) (l : List UInt8) (k : Nat) (h : okDigs base l = true) : okDigs base (l.take k) = true := by
  unfold okDigs at *
  rw [List.all_eq_true] at *
  exact fun x hx => h x (List.mem_of_mem_take hx)
theorem numOf_mono (base : Int) (hb : 1 ≤ base) (l : List UInt8) (h : okDigs base l = true) (k : Nat) : numOf base (l.take k) ≤ numOf base l := by
  have e : l = l.take k ++ l.drop k := (List.take_append_drop k l).symm
  have hd : okDigs base (l.drop k) = true := by
    unfold okDigs at *
    rw [List.all_eq_true] at *
    exact fun x hx => h x (List.mem_of_mem_drop hx)
  conv => rhs; rw [e]
  unfold numOf
  rw [List.foldl_append]
  exact foldl_le base hb _ _ (numOf_nonneg base (by omega) _ (okDigs_take base l k h)) hd

set_option maxRecDepth 100000 in
set_option maxHeartbeats 4000000 in
theorem ref_number_ok10 (s : ByteArray) (most : Int) (hs : s.size ≤ 140737488351232) (hm1 : -9223372036854775808 ≤ most) (hm2 : most ≤ 9223372036854775807) (W : World) :
    Calls Tryd.prog 50 #[.string s, .int .i64 10, .int .i64 most] W fun e w' => e = .returned (.tuple #[.int .i64 (numAns 10 most s.data.toList).1, .int .i64 (numAns 10 most s.data.toList).2]) ∧ w' = W := by
  go_enter Tryd.func50, Tryd.ntmps50
  by_cases he : s.data.toList = []
  · have hn : numAns 10 most s.data.toList = (0, 11) := by rw [numAns, if_pos he]
    have he' : s.toList.isEmpty = true := by rw [ba_toList, he]; rfl
    go_wp2
    go_ret2
    rw [hn]
    exact ⟨rfl, rfl⟩
  · have he' : s.toList.isEmpty = false := by rw [ba_toList]; simpa using he
    have HE := Lib.hid he
    clear he
    go_wp2
    clear he'
    go_loopw [8] (fun i wr => ∃ (k : Nat), k ≤ s.size ∧ i = .int .i64 k ∧ okDigs 10 (s.data.toList.take k) = true ∧ wr = W) (fun i _ => s.size - (intOf i).toNat)
    case atStart => exact ⟨0, Nat.zero_le _, rfl, rfl, rfl⟩
    case round =>
      obtain ⟨k, hk, rfl, hok, rfl⟩ := hrel
      have HOK := Lib.hid hok
      clear hok
      by_cases hlt : k < s.size
      · obtain ⟨x, hx⟩ : ∃ x, s.data.toList[k]? = some x := ⟨_, List.getElem?_eq_getElem (by rw [size_toList]; omega)⟩
        have hxb : s[k]'hlt = x := ba_at s k x hx hlt
        have hostep := okDigs_step 10 _ _ _ hx
        rw [HOK.out, Bool.true_and, ← isDig_dig] at hostep
        have HX := Lib.hid hx
        have HO := Lib.hid hostep
        clear hx hostep
        go_wp2_with fail
        refine (ref_digit_ok x wr).mono ?_
        rintro e w' ⟨rfl, rfl⟩
        cases hp : isDig x
        · have hn : numAns 10 most s.data.toList = (0, 11) := by
            rw [numAns, if_neg HE.out, if_pos (okDigs_bad 10 _ _ _ HX.out (of_decide_eq_false ((isDig_dig x).symm.trans hp)))]
          have HN := Lib.hid hn
          clear hn hp
          go_wp2
          go_ret2
          rw [HN.out]
          exact ⟨rfl, rfl⟩
        · have HO2 := Lib.hid (HO.out.trans hp)
          clear hp
          go_wp2
          go_roundw
          case rel => exact ⟨k + 1, by omega, by go_num, HO2.out, by trivial⟩
          case measure => simp [intOf]; omega
      · obtain rfl : k = s.size := by omega
        have hall := HOK.out
        rw [List.take_of_length_le (by rw [size_toList]; omega)] at hall
        have HALL := Lib.hid hall
        clear hall HOK hlt hk
        go_wp2
        have HN : Hid (numAns 10 most s.data.toList = if most < 0 ∨ most < numOf 10 s.data.toList then (0, 12) else (numOf 10 s.data.toList, 0)) := by
          show numAns 10 most s.data.toList = _
          rw [numAns, if_neg HE.out, if_neg (by rw [HALL.out]; decide)]
        obtain ⟨wo, hwo⟩ : ∃ wo : World, wo = wr := ⟨_, rfl⟩
        subst hwo
        go_loopw [9, 10] (fun n i wr => ∃ (k : Nat) (v : Int), k ≤ s.size ∧ i = .int .i64 k ∧ n = .int .i64 v ∧ v = numOf 10 (s.data.toList.take k) ∧ 0 ≤ v ∧ (0 < k → v ≤ most) ∧ wr = wo) (fun _ i _ => s.size - (intOf i).toNat)
        case atStart => exact ⟨0, 0, Nat.zero_le _, rfl, rfl, rfl, Int.le_refl _, (fun h => absurd h (by omega)), rfl⟩
        case round =>
          obtain ⟨k, v, hk, rfl, rfl, hv, hv0, hvm, rfl⟩ := hrel
          have HV := Lib.hid hv
          have HM := Lib.hid hvm
          clear hv hvm
          by_cases hlt : k < s.size
          · obtain ⟨x, hx⟩ : ∃ x, s.data.toList[k]? = some x := ⟨_, List.getElem?_eq_getElem (by rw [size_toList]; omega)⟩
            have hxb : s[k]'hlt = x := ba_at s k x hx hlt
            have hd : 0 ≤ dig x ∧ dig x < 10 := by
              have h := HALL.out
              unfold okDigs at h
              exact of_decide_eq_true (List.all_eq_true.1 h x (List.mem_of_getElem? hx))
            have hstep := numOf_step 10 _ _ _ hx
            rw [← HV.out] at hstep
            have hval := val_dig x hd.1
            have hmono := numOf_mono 10 (by omega) s.data.toList HALL.out (k + 1)
            obtain ⟨d, hdd⟩ : ∃ d, d = dig x := ⟨_, rfl⟩
            have hhex : isHex x = true := by rw [isHex_dig]; exact decide_eq_true ⟨hd.1, by omega⟩
            rw [← hdd] at hd hstep hval
            rw [hstep] at hmono
            obtain ⟨q, hq⟩ : ∃ q, (most - d).tdiv 10 = q := ⟨_, rfl⟩
            have hq1 : d ≤ most → 10 * q ≤ most - d ∧ most - d < 10 * q + 10 := fun h => by
              rw [Int.tdiv_eq_ediv_of_nonneg (by omega)] at hq
              omega
            have HS := Lib.hid hstep
            have HQ1 := Lib.hid hq1
            have HMono := Lib.hid hmono
            have HHex := Lib.hid hhex
            clear hx hdd hq1 hstep hmono hhex
            go_wp2_with fail
            refine (ref_value_ok x wr HHex.out).mono ?_
            rintro e w' ⟨rfl, rfl⟩
            rw [hval]
            clear hval hxb
            have hbig : most < v * 10 + d → numAns 10 most s.data.toList = (0, 12) := fun h => by
              rw [HN.out, if_pos (.inr (by have := HMono.out; omega))]
            have HBig := Lib.hid hbig
            clear hbig
            by_cases h1 : most < d
            · go_wp2
              go_ret2
              rw [HBig.out (by omega)]
              exact ⟨rfl, rfl⟩
            · have h2a := (HQ1.out (by omega)).1
              have h2b := (HQ1.out (by omega)).2
              by_cases h2 : q < v
              · go_wp2
                go_ret2
                rw [HBig.out (by omega)]
                exact ⟨rfl, rfl⟩
              · go_wp2
                go_roundw
                case rel => exact ⟨k + 1, v * 10 + d, by omega, by go_num, by go_num, HS.out.symm, by omega, (fun _ => by omega), by trivial⟩
                case measure => simp [intOf]; omega
          · obtain rfl : k = s.size := by omega
            have hv := HV.out
            rw [List.take_of_length_le (by rw [size_toList]; omega)] at hv
            have hpos : 0 < s.size := by
              have := HE.out
              rcases Nat.eq_zero_or_pos s.size with h | h
              · rw [← size_toList] at h
                exact absurd (List.eq_nil_of_length_eq_zero h) this
              · exact h
            have hle := HM.out hpos
            have HN2 : Hid (numAns 10 most s.data.toList = (v, 0)) := by
              show _ = _
              rw [HN.out, ← hv, if_neg (by omega)]
            clear hv
            go_wp2
            go_ret2
            rw [HN2.out]
            exact ⟨rfl, rfl⟩

set_option maxRecDepth 100000 in
set_option maxHeartbeats 4000000 in
theorem ref_number_ok16 (s : ByteArray) (most : Int) (hs : s.size ≤ 140737488351232) (hm1 : -9223372036854775808 ≤ most) (hm2 : most ≤ 9223372036854775807) (W : World) :
    Calls Tryd.prog 50 #[.string s, .int .i64 16, .int .i64 most] W fun e w' => e = .returned (.tuple #[.int .i64 (numAns 16 most s.data.toList).1, .int .i64 (numAns 16 most s.data.toList).2]) ∧ w' = W := by
  go_enter Tryd.func50, Tryd.ntmps50
  by_cases he : s.data.toList = []
  · have hn : numAns 16 most s.data.toList = (0, 11) := by rw [numAns, if_pos he]
    have he' : s.toList.isEmpty = true := by rw [ba_toList, he]; rfl
    go_wp2
    go_ret2
    rw [hn]
    exact ⟨rfl, rfl⟩
  · have he' : s.toList.isEmpty = false := by rw [ba_toList]; simpa using he
    have HE := Lib.hid he
    clear he
    go_wp2
    clear he'
    go_loopw [8] (fun i wr => ∃ (k : Nat), k ≤ s.size ∧ i = .int .i64 k ∧ okDigs 16 (s.data.toList.take k) = true ∧ wr = W) (fun i _ => s.size - (intOf i).toNat)
    case atStart => exact ⟨0, Nat.zero_le _, rfl, rfl, rfl⟩
    case round =>
      obtain ⟨k, hk, rfl, hok, rfl⟩ := hrel
      have HOK := Lib.hid hok
      clear hok
      by_cases hlt : k < s.size
      · obtain ⟨x, hx⟩ : ∃ x, s.data.toList[k]? = some x := ⟨_, List.getElem?_eq_getElem (by rw [size_toList]; omega)⟩
        have hxb : s[k]'hlt = x := ba_at s k x hx hlt
        have hostep := okDigs_step 16 _ _ _ hx
        rw [HOK.out, Bool.true_and, ← isHex_dig] at hostep
        have HX := Lib.hid hx
        have HO := Lib.hid hostep
        clear hx hostep
        go_wp2_with fail
        refine (ref_hex_ok x wr).mono ?_
        rintro e w' ⟨rfl, rfl⟩
        cases hp : isHex x
        · have hn : numAns 16 most s.data.toList = (0, 11) := by
            rw [numAns, if_neg HE.out, if_pos (okDigs_bad 16 _ _ _ HX.out (of_decide_eq_false ((isHex_dig x).symm.trans hp)))]
          have HN := Lib.hid hn
          clear hn hp
          go_wp2
          go_ret2
          rw [HN.out]
          exact ⟨rfl, rfl⟩
        · have HO2 := Lib.hid (HO.out.trans hp)
          clear hp
          go_wp2
          go_roundw
          case rel => exact ⟨k + 1, by omega, by go_num, HO2.out, by trivial⟩
          case measure => simp [intOf]; omega
      · obtain rfl : k = s.size := by omega
        have hall := HOK.out
        rw [List.take_of_length_le (by rw [size_toList]; omega)] at hall
        have HALL := Lib.hid hall
        clear hall HOK hlt hk
        go_wp2
        have HN : Hid (numAns 16 most s.data.toList = if most < 0 ∨ most < numOf 16 s.data.toList then (0, 12) else (numOf 16 s.data.toList, 0)) := by
          show numAns 16 most s.data.toList = _
          rw [numAns, if_neg HE.out, if_neg (by rw [HALL.out]; decide)]
        obtain ⟨wo, hwo⟩ : ∃ wo : World, wo = wr := ⟨_, rfl⟩
        subst hwo
        go_loopw [9, 10] (fun n i wr => ∃ (k : Nat) (v : Int), k ≤ s.size ∧ i = .int .i64 k ∧ n = .int .i64 v ∧ v = numOf 16 (s.data.toList.take k) ∧ 0 ≤ v ∧ (0 < k → v ≤ most) ∧ wr = wo) (fun _ i _ => s.size - (intOf i).toNat)
        case atStart => exact ⟨0, 0, Nat.zero_le _, rfl, rfl, rfl, Int.le_refl _, (fun h => absurd h (by omega)), rfl⟩
        case round =>
          obtain ⟨k, v, hk, rfl, rfl, hv, hv0, hvm, rfl⟩ := hrel
          have HV := Lib.hid hv
          have HM := Lib.hid hvm
          clear hv hvm
          by_cases hlt : k < s.size
          · obtain ⟨x, hx⟩ : ∃ x, s.data.toList[k]? = some x := ⟨_, List.getElem?_eq_getElem (by rw [size_toList]; omega)⟩
            have hxb : s[k]'hlt = x := ba_at s k x hx hlt
            have hd : 0 ≤ dig x ∧ dig x < 16 := by
              have h := HALL.out
              unfold okDigs at h
              exact of_decide_eq_true (List.all_eq_true.1 h x (List.mem_of_getElem? hx))
            have hstep := numOf_step 16 _ _ _ hx
            rw [← HV.out] at hstep
            have hval := val_dig x hd.1
            have hmono := numOf_mono 16 (by omega) s.data.toList HALL.out (k + 1)
            obtain ⟨d, hdd⟩ : ∃ d, d = dig x := ⟨_, rfl⟩
            have hhex : isHex x = true := by rw [isHex_dig]; exact decide_eq_true ⟨hd.1, by omega⟩
            rw [← hdd] at hd hstep hval
            rw [hstep] at hmono
            obtain ⟨q, hq⟩ : ∃ q, (most - d).tdiv 16 = q := ⟨_, rfl⟩
            have hq1 : d ≤ most → 16 * q ≤ most - d ∧ most - d < 16 * q + 16 := fun h => by
              rw [Int.tdiv_eq_ediv_of_nonneg (by omega)] at hq
              omega
            have HS := Lib.hid hstep
            have HQ1 := Lib.hid hq1
            have HMono := Lib.hid hmono
            have HHex := Lib.hid hhex
            clear hx hdd hq1 hstep hmono hhex
            go_wp2_with fail
            refine (ref_value_ok x wr HHex.out).mono ?_
            rintro e w' ⟨rfl, rfl⟩
            rw [hval]
            clear hval hxb
            have hbig : most < v * 16 + d → numAns 16 most s.data.toList = (0, 12) := fun h => by
              rw [HN.out, if_pos (.inr (by have := HMono.out; omega))]
            have HBig := Lib.hid hbig
            clear hbig
            by_cases h1 : most < d
            · go_wp2
              go_ret2
              rw [HBig.out (by omega)]
              exact ⟨rfl, rfl⟩
            · have h2a := (HQ1.out (by omega)).1
              have h2b := (HQ1.out (by omega)).2
              by_cases h2 : q < v
              · go_wp2
                go_ret2
                rw [HBig.out (by omega)]
                exact ⟨rfl, rfl⟩
              · go_wp2
                go_roundw
                case rel => exact ⟨k + 1, v * 16 + d, by omega, by go_num, by go_num, HS.out.symm, by omega, (fun _ => by omega), by trivial⟩
                case measure => simp [intOf]; omega
          · obtain rfl : k = s.size := by omega
            have hv := HV.out
            rw [List.take_of_length_le (by rw [size_toList]; omega)] at hv
            have hpos : 0 < s.size := by
              have := HE.out
              rcases Nat.eq_zero_or_pos s.size with h | h
              · rw [← size_toList] at h
                exact absurd (List.eq_nil_of_length_eq_zero h) this
              · exact h
            have hle := HM.out hpos
            have HN2 : Hid (numAns 16 most s.data.toList = (v, 0)) := by
              show _ = _
              rw [HN.out, ← hv, if_neg (by omega)]
            clear hv
            go_wp2
            go_ret2
            rw [HN2.out]
            exact ⟨rfl, rfl⟩

set_option maxRecDepth 100000 in
set_option maxHeartbeats 1000000 in
theorem decimal_ok (s : ByteArray) (most : Int) (hs : s.size ≤ 140737488351232) (hm1 : -9223372036854775808 ≤ most) (hm2 : most ≤ 9223372036854775807) (W : World) :
    Calls Tryd.prog 19 #[.string s, .int .i64 most] W fun e w' => e = .returned (.tuple #[.int .i64 (numAns 10 most s.data.toList).1, .int .i64 (numAns 10 most s.data.toList).2]) ∧ Frm (fun _ => False) W w' := by
  go_enter Tryd.func19, Tryd.ntmps19
  go_wp2_with fail
  refine (number_ok10 s most hs hm1 hm2 W).mono ?_
  rintro e w1 ⟨rfl, hf⟩
  go_wp2
  go_ret2
  exact ⟨rfl, hf⟩

set_option maxRecDepth 100000 in
set_option maxHeartbeats 1000000 in
theorem hex_ok (s : ByteArray) (most : Int) (hs : s.size ≤ 140737488351232) (hm1 : -9223372036854775808 ≤ most) (hm2 : most ≤ 9223372036854775807) (W : World) :
    Calls Tryd.prog 21 #[.string s, .int .i64 most] W fun e w' => e = .returned (.tuple #[.int .i64 (numAns 16 most s.data.toList).1, .int .i64 (numAns 16 most s.data.toList).2]) ∧ Frm (fun _ => False) W w' := by
  go_enter Tryd.func21, Tryd.ntmps21
  go_wp2_with fail
  refine (number_ok16 s most hs hm1 hm2 W).mono ?_
  rintro e w1 ⟨rfl, hf⟩
  go_wp2
  go_ret2
  exact ⟨rfl, hf⟩

set_option maxRecDepth 100000 in
set_option maxHeartbeats 1000000 in
theorem ref_decimal_ok (s : ByteArray) (most : Int) (hs : s.size ≤ 140737488351232) (hm1 : -9223372036854775808 ≤ most) (hm2 : most ≤ 9223372036854775807) (W : World) :
    Calls Tryd.prog 20 #[.string s, .int .i64 most] W fun e w' => e = .returned (.tuple #[.int .i64 (numAns 10 most s.data.toList).1, .int .i64 (numAns 10 most s.data.toList).2]) ∧ w' = W := by
  go_enter Tryd.func20, Tryd.ntmps20
  go_wp2_with fail
  refine (ref_number_ok10 s most hs hm1 hm2 W).mono ?_
  rintro e w1 ⟨rfl, rfl⟩
  go_wp2
  go_ret2
  exact ⟨rfl, rfl⟩

set_option maxRecDepth 100000 in
set_option maxHeartbeats 1000000 in
theorem ref_hexnum_ok (s : ByteArray) (most : Int) (hs : s.size ≤ 140737488351232) (hm1 : -9223372036854775808 ≤ most) (hm2 : most ≤ 9223372036854775807) (W : World) :
    Calls Tryd.prog 22 #[.string s, .int .i64 most] W fun e w' => e = .returned (.tuple #[.int .i64 (numAns 16 most s.data.toList).1, .int .i64 (numAns 16 most s.data.toList).2]) ∧ w' = W := by
  go_enter Tryd.func22, Tryd.ntmps22
  go_wp2_with fail
  refine (ref_number_ok16 s most hs hm1 hm2 W).mono ?_
  rintro e w1 ⟨rfl, rfl⟩
  go_wp2
  go_ret2
  exact ⟨rfl, rfl⟩
end Go.Proofs.YtjphdipbajfojaaDoor
