/- The octet layer, walked concretely, as the chunk layer calls it. -/
import Derived.Test.YtimhofphmgehgaaDoorProg
import Derived.Test.YtimhofphmgehgaaDoorMem
import Derived.KernelRfl
import Derived.Lib.Strings
import Derived.Lib.Slices
import Derived.Lib.Walk
import Derived.Lib.Bytealg
set_option linter.unusedVariables false
set_option linter.unusedSimpArgs false
set_option linter.unusedSectionVars false
set_option maxRecDepth 100000
namespace Go.Proofs.YtimhofphmgehgaaDoor
open Go Go.RowKit Go.Proofs

set_option maxRecDepth 100000 in
set_option maxHeartbeats 1000000 in
theorem lower_ok (s : ByteArray) (hs : s.size ≤ 140737488351232) (W : World) : Calls Tryd.prog 48 #[.string s] W fun e w' => e = .returned (.string (tx (low s.data.toList))) ∧ Frm (fun _ => False) W w' := by
  obtain ⟨cap, w1, hconv, ho, hf, hw1⟩ := run_bytes_osl (P := Tryd.prog) W 9 104 5 s Tryd.underlying9 Tryd.underlying104 Tryd.underlying5 (by simp only [maxLen]; omega)
  have HO := Lib.hid ho
  have HF := Lib.hid hf
  clear ho hf
  go_enter Tryd.func48, Tryd.ntmps48
  go_wp2
  clear hconv
  go_loopw [10] (fun i wr => ∃ k : Nat, k ≤ s.size ∧ i = .int .i64 k ∧ OSl wr 1 (.slice (some ⟨W.heap.size, 0, none⟩) s.size cap) s.size (u8s (low (s.data.toList.take k) ++ s.data.toList.drop k)) ∧ Frm (fun _ => False) W wr) (fun i _ => s.size - (intOf i).toNat)
  case atStart => exact ⟨0, Nat.zero_le _, rfl, HO.out, HF.out⟩
  case round =>
    obtain ⟨k, hk, rfl, ho, hf⟩ := hrel
    have hb : W.heap.size < wr.heap.size := ho.lt _ rfl
    have HR := Lib.hid ho
    have HG := Lib.hid hf
    clear ho hf
    by_cases hlt : k < s.size
    · obtain ⟨x, hx⟩ : ∃ x, s.data.toList[k]? = some x := ⟨_, List.getElem?_eq_getElem (by rw [size_toList]; omega)⟩
      obtain ⟨hc, hz⟩ := HR.out.cellAt k x (low_mid _ _ _ hx)
      rw [Nat.zero_add] at hc hz
      have HX := Lib.hid hx
      clear hx
      have hx8 : x.toNat < 256 := x.toNat_lt
      by_cases h1 : 65 ≤ x.toNat
      · by_cases h2 : x.toNat ≤ 90
        · go_wp2
          go_roundw
          case rel =>
            refine ⟨k + 1, by omega, by go_num, ?_, HG.out.setNew (Nat.le_refl _) _⟩
            have := HR.out.set k hlt (.int .u8 ((lowB x).toNat : Int))
            rw [lowB_yes x h1 h2, Nat.zero_add] at this
            rw [← low_step _ _ _ HX.out, u8s_set, lowB_yes x h1 h2]
            rw [show (x.toNat : Int) + 97 - 65 = x.toNat + 32 by omega]
            exact this
          case measure => simp [intOf]; omega
        · go_wp2
          go_roundw
          case rel =>
            refine ⟨k + 1, by omega, by go_num, ?_, HG.out⟩
            rw [← low_same _ _ _ HX.out (lowB_no x (by omega))]
            exact HR.out
          case measure => simp [intOf]; omega
      · go_wp2
        go_roundw
        case rel =>
          refine ⟨k + 1, by omega, by go_num, ?_, HG.out⟩
          rw [← low_same _ _ _ HX.out (lowB_no x (by omega))]
          exact HR.out
        case measure => simp [intOf]; omega
    · obtain rfl : k = s.size := by omega
      have hr := HR.out.toR
      rw [List.take_of_length_le (by rw [size_toList]; omega), List.drop_of_length_le (by rw [size_toList]; omega), List.append_nil] at hr
      have hback := run_text_rsl (P := Tryd.prog) wr 104 9 5 _ _ _ _ Tryd.underlying104 Tryd.underlying5 Tryd.underlying9 hr
      go_wp2
      go_ret
      exact ⟨rfl, HG.out⟩
set_option maxRecDepth 100000 in
set_option maxHeartbeats 1000000 in
theorem ref_lower_ok (s : ByteArray) (hs : s.size ≤ 140737488351232) (W : World) : Calls Tryd.prog 52 #[.string s] W fun e w' => e = .returned (.string (tx (low s.data.toList))) ∧ Frm (fun _ => False) W w' := by
  obtain ⟨cap, w1, hconv, ho, hf, hw1⟩ := run_bytes_osl (P := Tryd.prog) W 9 104 5 s Tryd.underlying9 Tryd.underlying104 Tryd.underlying5 (by simp only [maxLen]; omega)
  have HO := Lib.hid ho
  have HF := Lib.hid hf
  clear ho hf
  go_enter Tryd.func52, Tryd.ntmps52
  go_wp2
  clear hconv
  go_loopw [4] (fun i wr => ∃ k : Nat, k ≤ s.size ∧ i = .int .i64 k ∧ OSl wr 1 (.slice (some ⟨W.heap.size, 0, none⟩) s.size cap) s.size (u8s (low (s.data.toList.take k) ++ s.data.toList.drop k)) ∧ Frm (fun _ => False) W wr) (fun i _ => s.size - (intOf i).toNat)
  case atStart => exact ⟨0, Nat.zero_le _, rfl, HO.out, HF.out⟩
  case round =>
    obtain ⟨k, hk, rfl, ho, hf⟩ := hrel
    have hb : W.heap.size < wr.heap.size := ho.lt _ rfl
    have HR := Lib.hid ho
    have HG := Lib.hid hf
    clear ho hf
    by_cases hlt : k < s.size
    · obtain ⟨x, hx⟩ : ∃ x, s.data.toList[k]? = some x := ⟨_, List.getElem?_eq_getElem (by rw [size_toList]; omega)⟩
      obtain ⟨hc, hz⟩ := HR.out.cellAt k x (low_mid _ _ _ hx)
      rw [Nat.zero_add] at hc hz
      have HX := Lib.hid hx
      clear hx
      have hx8 : x.toNat < 256 := x.toNat_lt
      by_cases h1 : 65 ≤ x.toNat
      · by_cases h2 : x.toNat ≤ 90
        · go_wp2
          go_roundw
          case rel =>
            refine ⟨k + 1, by omega, by go_num, ?_, HG.out.setNew (Nat.le_refl _) _⟩
            have := HR.out.set k hlt (.int .u8 ((lowB x).toNat : Int))
            rw [lowB_yes x h1 h2, Nat.zero_add] at this
            rw [← low_step _ _ _ HX.out, u8s_set, lowB_yes x h1 h2]
            exact this
          case measure => simp [intOf]; omega
        · go_wp2
          go_roundw
          case rel =>
            refine ⟨k + 1, by omega, by go_num, ?_, HG.out⟩
            rw [← low_same _ _ _ HX.out (lowB_no x (by omega))]
            exact HR.out
          case measure => simp [intOf]; omega
      · go_wp2
        go_roundw
        case rel =>
          refine ⟨k + 1, by omega, by go_num, ?_, HG.out⟩
          rw [← low_same _ _ _ HX.out (lowB_no x (by omega))]
          exact HR.out
        case measure => simp [intOf]; omega
    · obtain rfl : k = s.size := by omega
      have hr := HR.out.toR
      rw [List.take_of_length_le (by rw [size_toList]; omega), List.drop_of_length_le (by rw [size_toList]; omega), List.append_nil] at hr
      have hback := run_text_rsl (P := Tryd.prog) wr 104 9 5 _ _ _ _ Tryd.underlying104 Tryd.underlying5 Tryd.underlying9 hr
      go_wp2
      go_ret
      exact ⟨rfl, HG.out⟩
set_option maxHeartbeats 1000000 in
set_option maxRecDepth 100000 in
theorem lite_indexByte (s : ByteArray) (c : Int) (w : World) :
    Calls Tryd.prog 117 #[.string s, .int .u8 c] w fun e w' => e = .returned (.int .i64 (Lib.indexByte s.data.toList c.toNat.toUInt8)) ∧ w' = w := by
  go_enter Tryd.func117, Tryd.ntmps117
  go_wp2
  rw [run_callFunc_extern Tryd.func130 (by kernel_rfl) (by kernel_rfl) (by kernel_rfl) (e := Extern.BytealgIndexByte.indexByte) (by kernel_rfl), Lib.run_indexByteString]
  simp only [Result.andThen]
  rw [Oper.upon_value]
  go_wp2
  go_ret
  exact ⟨rfl, rfl⟩
set_option maxHeartbeats 1000000 in
theorem strings_indexByte (s : ByteArray) (c : Int) (w : World) :
    Calls Tryd.prog 96 #[.string s, .int .u8 c] w fun e w' => e = .returned (.int .i64 (Lib.indexByte s.data.toList c.toNat.toUInt8)) ∧ w' = w := by
  go_enter Tryd.func96, Tryd.ntmps96
  go_wp2_with (go_at_call 117; refine (lite_indexByte _ _ _).mono ?_; rintro e w' ⟨rfl, rfl⟩)
  go_ret
  exact ⟨rfl, rfl⟩
/-- The digits, in their order. -/
def digs : List UInt8 := [48, 49, 50, 51, 52, 53, 54, 55, 56, 57, 97, 98, 99, 100, 101, 102]
/-- What a digit says; -1: it is none. -/
def dig (b : UInt8) : Int := Lib.indexByte digs (lowB b)
set_option maxRecDepth 100000 in
theorem dig_all : ∀ n, n < 256 → (let b := UInt8.ofNat n; -1 ≤ dig b ∧ dig b < 16) := by decide
theorem dig_lt (b : UInt8) : -1 ≤ dig b ∧ dig b < 16 := by
  have := dig_all b.toNat b.toNat_lt
  simpa using this
/-- Every digit is one of the base. -/
def okDigs (base : Int) (l : List UInt8) : Bool := l.all fun b => decide (0 ≤ dig b ∧ dig b < base)
/-- The number. -/
def numOf (base : Int) (l : List UInt8) : Int := l.foldl (fun n b => n * base + dig b) 0
theorem numOf_step (base : Int) (l : List UInt8) (k : Nat) (x : UInt8) (h : l[k]? = some x) : numOf base (l.take (k + 1)) = numOf base (l.take k) * base + dig x := by
  unfold numOf
  rw [List.take_add_one, h, List.foldl_append]
  rfl
theorem okDigs_step (base : Int) (l : List UInt8) (k : Nat) (x : UInt8) (h : l[k]? = some x) : okDigs base (l.take (k + 1)) = (okDigs base (l.take k) && decide (0 ≤ dig x ∧ dig x < base)) := by
  unfold okDigs
  rw [List.take_add_one, h, List.all_append]
  simp
theorem okDigs_bad (base : Int) (l : List UInt8) (k : Nat) (x : UInt8) (h : l[k]? = some x) (hx : ¬ (0 ≤ dig x ∧ dig x < base)) : okDigs base l = false := by
  unfold okDigs
  rw [List.all_eq_false]
  exact ⟨x, List.mem_of_getElem? h, by simpa using hx⟩
/-- What 'number' answers: the number, and the error's number. -/
def numAns (base most : Int) (l : List UInt8) : Int × Int :=
  if l = [] then (0, 11) else if okDigs base l = false then (0, 11) else if most < 0 ∨ most < numOf base l then (0, 12) else (numOf base l, 0)
theorem numOf_nonneg (base : Int) (hb : 0 ≤ base) : ∀ (l : List UInt8), okDigs base l = true → 0 ≤ numOf base l := by
  intro l h
  unfold numOf
  have : ∀ (l : List UInt8) (n : Int), 0 ≤ n → okDigs base l = true → 0 ≤ l.foldl (fun n b => n * base + dig b) n := by
    intro l
    induction l with
    | nil => intro n hn _; exact hn
    | cons b l ih =>
      intro n hn hl
      unfold okDigs at hl ih
      rw [List.all_cons, Bool.and_eq_true] at hl
      have hb' := of_decide_eq_true hl.1
      refine ih _ ?_ hl.2
      have := Int.mul_nonneg hn hb
      show 0 ≤ n * base + dig b
      omega
  exact this l 0 (Int.le_refl 0) h
set_option maxRecDepth 100000 in
set_option maxHeartbeats 4000000 in
theorem number_ok16 (s : ByteArray) (most : Int) (hs : s.size ≤ 140737488351232) (hm1 : -9223372036854775808 ≤ most) (hm2 : most ≤ 9223372036854775807) (W : World) :
    Calls Tryd.prog 68 #[.string s, .int .i64 most, .int .i64 16] W fun e w' => e = .returned (.tuple #[.int .i64 (numAns 16 most s.data.toList).1, .int .i64 (numAns 16 most s.data.toList).2]) ∧ Frm (fun _ => False) W w' := by
  obtain ⟨q, hq⟩ : ∃ q, most.tdiv 16 = q := ⟨_, rfl⟩
  have hq1 : 0 ≤ most → 16 * q ≤ most ∧ most < 16 * q + 16 := fun h => by
    rw [Int.tdiv_eq_ediv_of_nonneg h] at hq
    omega
  have HQ1 := Lib.hid hq1
  clear hq1
  go_enter Tryd.func68, Tryd.ntmps68
  by_cases he : s.data.toList = []
  · have hn : numAns 16 most s.data.toList = (0, 11) := by rw [numAns, if_pos he]
    have he' : s.toList.isEmpty = true := by rw [ba_toList, he]; rfl
    go_wp2
    go_ret2
    rw [hn]
    exact ⟨rfl, Frm.refl _ _⟩
  · have he' : s.toList.isEmpty = false := by rw [ba_toList]; simpa using he
    have HE := Lib.hid he
    clear he
    go_wp2
    clear he'
    go_loopw [8, 9, 18] (fun n big i wr => ∃ (k : Nat) (v : Int) (bg : Bool), k ≤ s.size ∧ i = .int .i64 k ∧ n = .int .i64 v ∧ big = .bool bg ∧ okDigs 16 (s.data.toList.take k) = true ∧ bg = decide (most < 0 ∨ most < numOf 16 (s.data.toList.take k)) ∧ (bg = false → v = numOf 16 (s.data.toList.take k)) ∧ Frm (fun _ => False) W wr) (fun _ _ i _ => s.size - (intOf i).toNat)
    case atStart =>
      refine ⟨0, 0, decide (most < 0), Nat.zero_le _, rfl, rfl, rfl, rfl, ?_, fun _ => rfl, Frm.refl _ _⟩
      have : numOf 16 (s.data.toList.take 0) = 0 := rfl
      rw [this]; simp
    case round =>
      obtain ⟨k, v, bg, hk, rfl, rfl, rfl, hok, hbg, hv, hf⟩ := hrel
      have HF := Lib.hid hf
      have HOK := Lib.hid hok
      have hnn := numOf_nonneg 16 (by omega) _ hok
      obtain ⟨m, hm⟩ : ∃ m, m = numOf 16 (s.data.toList.take k) := ⟨_, rfl⟩
      rw [← hm] at hbg hv hnn
      have HM := Lib.hid hm
      clear hf hok hm
      by_cases hlt : k < s.size
      · obtain ⟨x, hx⟩ : ∃ x, s.data.toList[k]? = some x := ⟨_, List.getElem?_eq_getElem (by rw [size_toList]; omega)⟩
        have HX := Lib.hid hx
        clear hx
        have hstep := numOf_step 16 _ _ _ HX.out
        have hostep := okDigs_step 16 _ _ _ HX.out
        rw [← HM.out] at hstep
        rw [HOK.out, Bool.true_and] at hostep
        have HB := Lib.hid hbg
        have HV := Lib.hid hv
        have hx16 := dig_lt x
        obtain ⟨d, hd⟩ : ∃ d, d = dig x := ⟨_, rfl⟩
        rw [← hd] at hstep hostep hx16
        have HS := Lib.hid hstep
        have HO := Lib.hid hostep
        clear hbg hv hstep hostep
        go_wp2_with fail
        refine (lower_ok _ (Nat.le_trans (extract_size _ _ _) hs) wr).mono ?_
        rintro e w2 ⟨rfl, hf2⟩
        have h1 : tx (low (s.extract k (k + 1)).data.toList) = ⟨#[lowB x]⟩ := by rw [extract_one s k x HX.out]; rfl
        rw [h1]
        clear h1
        have HF2 := Lib.hid (HF.out.trans hf2)
        clear hf2
        go_wp2_with fail
        refine (strings_indexByte _ _ w2).mono ?_
        rintro e w3 ⟨rfl, rfl⟩
        have h2 : Lib.indexByte (⟨#[48, 49, 50, 51, 52, 53, 54, 55, 56, 57, 97, 98, 99, 100, 101, 102]⟩ : ByteArray).data.toList ((((⟨#[lowB x]⟩ : ByteArray)[0]'(by show 0 < 1; decide)).toNat : Int).toNat.toUInt8) = d := by
          rw [hd]
          show Lib.indexByte digs (((lowB x).toNat : Int).toNat.toUInt8) = Lib.indexByte digs (lowB x)
          simp
        rw [h2]
        clear h2
        have HD := Lib.hid hd
        clear hd
        have hbad : (d < 0 ∨ 16 ≤ d) → numAns 16 most s.data.toList = (0, 11) := fun h => by
          rw [numAns, if_neg HE.out, if_pos (okDigs_bad 16 _ _ _ HX.out (by rw [← HD.out]; omega))]
        have HBad := Lib.hid hbad
        clear hbad
        by_cases hd0 : d < 0
        · go_wp2
          go_ret2
          rw [HBad.out (.inl hd0)]
          exact ⟨rfl, HF2.out⟩
        · by_cases hd1 : 16 ≤ d
          · go_wp2
            go_ret2
            rw [HBad.out (.inr hd1)]
            exact ⟨rfl, HF2.out⟩
          · have HOK' : Hid (okDigs 16 (s.data.toList.take (k + 1)) = true) := HO.out.trans (decide_eq_true ⟨by omega, by omega⟩)
            cases bg with
            | true =>
              go_wp2
              go_roundw
              case rel =>
                refine ⟨k + 1, v, true, by omega, by go_num, rfl, rfl, HOK'.out, ?_, (fun h => by cases h), HF2.out⟩
                have h1 := of_decide_eq_true HB.out.symm
                rw [HS.out]
                exact (decide_eq_true (by omega)).symm
              case measure => simp [intOf]; omega
            | false =>
              have hv := HV.out rfl
              subst hv
              have h1 := of_decide_eq_false HB.out.symm
              have h1a : 0 ≤ most := by omega
              have h1b : v ≤ most := by omega
              have h1c := (HQ1.out h1a).1
              have h1d := (HQ1.out h1a).2
              clear h1
              by_cases hA : q < v
              · go_wp2
                go_roundw
                case rel =>
                  refine ⟨k + 1, v, true, by omega, by go_num, rfl, rfl, HOK'.out, ?_, (fun h => by cases h), HF2.out⟩
                  rw [HS.out]
                  exact (decide_eq_true (by omega)).symm
                case measure => simp [intOf]; omega
              · by_cases hB : most - d < v * 16
                · go_wp2
                  go_roundw
                  case rel =>
                    refine ⟨k + 1, v, true, by omega, by go_num, rfl, rfl, HOK'.out, ?_, (fun h => by cases h), HF2.out⟩
                    rw [HS.out]
                    exact (decide_eq_true (by omega)).symm
                  case measure => simp [intOf]; omega
                · go_wp2
                  go_roundw
                  case rel =>
                    refine ⟨k + 1, v * 16 + d, false, by omega, by go_num, by go_num, rfl, HOK'.out, ?_, (fun _ => HS.out.symm), HF2.out⟩
                    rw [HS.out]
                    exact (decide_eq_false (by omega)).symm
                  case measure => simp [intOf]; omega
      · obtain rfl : k = s.size := by omega
        have ht : s.data.toList.take s.size = s.data.toList := List.take_of_length_le (by rw [size_toList]; omega)
        have hok := HOK.out
        have hm := HM.out
        rw [ht] at hok hm
        have HN : Hid (numAns 16 most s.data.toList = if most < 0 ∨ most < m then (0, 12) else (m, 0)) := by
          show numAns 16 most s.data.toList = _
          rw [numAns, if_neg HE.out, if_neg (by rw [hok]; decide), ← hm]
        clear hok hm ht
        cases bg with
        | true =>
          have h1 := of_decide_eq_true hbg.symm
          rw [if_pos h1] at HN
          clear hbg hv h1
          go_wp2
          go_ret2
          rw [HN.out]
          exact ⟨rfl, HF.out⟩
        | false =>
          have h1 := of_decide_eq_false hbg.symm
          have hv' := hv rfl
          subst hv'
          rw [if_neg h1] at HN
          clear hbg hv h1
          go_wp2
          go_ret2
          rw [HN.out]
          exact ⟨rfl, HF.out⟩
def isDig (b : UInt8) : Bool := decide (48 ≤ b.toNat ∧ b.toNat ≤ 57)
def isHex (b : UInt8) : Bool := isDig b || decide (65 ≤ b.toNat ∧ b.toNat ≤ 70) || decide (97 ≤ b.toNat ∧ b.toNat ≤ 102)
set_option maxRecDepth 100000 in
theorem dig_dec : ∀ n, n < 256 → (isDig (UInt8.ofNat n) = decide (0 ≤ dig (UInt8.ofNat n) ∧ dig (UInt8.ofNat n) < 10)) := by decide
set_option maxRecDepth 100000 in
theorem dig_hex : ∀ n, n < 256 → (isHex (UInt8.ofNat n) = decide (0 ≤ dig (UInt8.ofNat n) ∧ dig (UInt8.ofNat n) < 16)) := by decide
/-- What the document's 'value' says. -/
def val (b : UInt8) : Int := if isDig b then (b.toNat : Int) - 48 else if 97 ≤ b.toNat then (b.toNat : Int) - 97 + 10 else (b.toNat : Int) - 65 + 10
set_option maxRecDepth 100000 in
theorem dig_val : ∀ n, n < 256 → 0 ≤ dig (UInt8.ofNat n) → val (UInt8.ofNat n) = dig (UInt8.ofNat n) := by decide
theorem u8_ofNat (b : UInt8) : UInt8.ofNat b.toNat = b := by simp
theorem isDig_dig (b : UInt8) : isDig b = decide (0 ≤ dig b ∧ dig b < 10) := by have := dig_dec b.toNat b.toNat_lt; rwa [u8_ofNat] at this
theorem isHex_dig (b : UInt8) : isHex b = decide (0 ≤ dig b ∧ dig b < 16) := by have := dig_hex b.toNat b.toNat_lt; rwa [u8_ofNat] at this
theorem val_dig (b : UInt8) (h : 0 ≤ dig b) : val b = dig b := by have := dig_val b.toNat b.toNat_lt; rw [u8_ofNat] at this; exact this h
theorem foldl_le (base : Int) (hb : 1 ≤ base) : ∀ (l : List UInt8) (n : Int), 0 ≤ n → okDigs base l = true → n ≤ l.foldl (fun n b => n * base + dig b) n
  | [], n, _, _ => Int.le_refl n
  | b :: l, n, hn, h => by
    unfold okDigs at h
    rw [List.all_cons, Bool.and_eq_true] at h
    have hd := of_decide_eq_true h.1
    have hmul : n ≤ n * base := by
      have := Int.mul_le_mul_of_nonneg_left hb hn
      omega
    have h0 : 0 ≤ n * base + dig b := by omega
    have := foldl_le base hb l (n * base + dig b) h0 h.2
    show n ≤ l.foldl (fun n b => n * base + dig b) (n * base + dig b)
    omega
theorem okDigs_take (base : Int) (l : List UInt8) (k : Nat) (h : okDigs base l = true) : okDigs base (l.take k) = true := by
  unfold okDigs at *
  rw [List.all_eq_true] at *
  exact fun x hx => h x (List.mem_of_mem_take hx)
theorem numOf_mono (base : Int) (hb : 1 ≤ base) (l : List UInt8) (h : okDigs base l = true) (k : Nat) : numOf base (l.take k) ≤ numOf base l := by
  have e : l = l.take k ++ l.drop k := (List.take_append_drop k l).symm
  have hd : okDigs base (l.drop k) = true := by
    unfold okDigs at *
    rw [List.all_eq_true] at *
    exact fun x hx => h x (List.mem_of_mem_drop hx)
  conv => rhs; rw [e]
  unfold numOf
  rw [List.foldl_append]
  exact foldl_le base hb _ _ (numOf_nonneg base (by omega) _ (okDigs_take base l k h)) hd
set_option maxRecDepth 100000 in
set_option maxHeartbeats 1000000 in
theorem hex_ok (s : ByteArray) (most : Int) (hs : s.size ≤ 140737488351232) (hm1 : -9223372036854775808 ≤ most) (hm2 : most ≤ 9223372036854775807) (W : World) :
    Calls Tryd.prog 42 #[.string s, .int .i64 most] W fun e w' => e = .returned (.tuple #[.int .i64 (numAns 16 most s.data.toList).1, .int .i64 (numAns 16 most s.data.toList).2]) ∧ Frm (fun _ => False) W w' := by
  go_enter Tryd.func42, Tryd.ntmps42
  go_wp2_with fail
  refine (number_ok16 s most hs hm1 hm2 W).mono ?_
  rintro e w1 ⟨rfl, hf⟩
  go_wp2
  go_ret2
  exact ⟨rfl, hf⟩
def signTab : List Int := [0, 67071226, 3355443198, 1476395007]
/-- The table lies in its block. -/
def Signs (w : World) : Prop := ∀ j z, signTab[j]? = some z → w.cell? ⟨0, j, none⟩ = some (.int .u32 z)
theorem Signs.frm {w w' : World} (h : Signs w) (hf : Frm (fun _ => False) w w') : Signs w' := fun j z hj =>
  (hf.cell (p := ⟨0, j, none⟩) (World.block_lt_of_cell? _ _ (h j z hj)) (fun h => h)).trans (h j z hj)
/-- A sign of tokens. -/
def signB (b : UInt8) : Bool := decide (b.toNat < 128) && decide ((signTab.getD (b.toNat / 32) 0).toNat >>> (b.toNat % 32) % 2 = 1)
set_option maxRecDepth 100000 in
theorem sign_all : ∀ n, n < 128 → (bits .and .u32 (signTab.getD (n / 32) 0 / 2 ^ (n % 32)) 1 == 1) = signB (UInt8.ofNat n) := by decide
theorem sign_at (b : UInt8) (j : Nat) (z : Int) (h : b.toNat < 128) (hj : b.toNat / 32 = j) (hz : signTab.getD j 0 = z) : (bits .and .u32 (z / 2 ^ (b.toNat % 32)) 1 == 1) = signB b := by
  have := sign_all b.toNat h
  rw [u8_ofNat, hj, hz] at this
  exact this
set_option maxRecDepth 100000 in
set_option maxHeartbeats 1000000 in
theorem isSign_ok (b : UInt8) (W : World) (hS : Signs W) : Calls Tryd.prog 71 #[.int .u8 b.toNat] W fun e w' => e = .returned (.bool (signB b)) ∧ w' = W := by
  have hb := b.toNat_lt
  by_cases h1 : b.toNat < 128
  · by_cases h2 : b.toNat < 32
    · have hq : (b.toNat : Int).tdiv 32 = 0 := by rw [Int.tdiv_eq_ediv_of_nonneg (by omega)]; omega
      have hc := hS 0 0 rfl
      go_enter Tryd.func71, Tryd.ntmps71
      go_wp2
      go_ret
      exact ⟨congrArg (fun x => Ending.returned (.bool x)) (by have := sign_at b 0 0 h1 (by omega) rfl; rw [Int.zero_ediv] at this; exact this), rfl⟩
    · by_cases h3 : b.toNat < 64
      · have hq : (b.toNat : Int).tdiv 32 = 1 := by rw [Int.tdiv_eq_ediv_of_nonneg (by omega)]; omega
        have hc := hS 1 67071226 rfl
        go_enter Tryd.func71, Tryd.ntmps71
        go_wp2
        go_ret
        exact ⟨congrArg (fun x => Ending.returned (.bool x)) (sign_at b 1 67071226 h1 (by omega) rfl), rfl⟩
      · by_cases h4 : b.toNat < 96
        · have hq : (b.toNat : Int).tdiv 32 = 2 := by rw [Int.tdiv_eq_ediv_of_nonneg (by omega)]; omega
          have hc := hS 2 3355443198 rfl
          go_enter Tryd.func71, Tryd.ntmps71
          go_wp2
          go_ret
          exact ⟨congrArg (fun x => Ending.returned (.bool x)) (sign_at b 2 3355443198 h1 (by omega) rfl), rfl⟩
        · have hq : (b.toNat : Int).tdiv 32 = 3 := by rw [Int.tdiv_eq_ediv_of_nonneg (by omega)]; omega
          have hc := hS 3 1476395007 rfl
          go_enter Tryd.func71, Tryd.ntmps71
          go_wp2
          go_ret
          exact ⟨congrArg (fun x => Ending.returned (.bool x)) (sign_at b 3 1476395007 h1 (by omega) rfl), rfl⟩
  · go_enter Tryd.func71, Tryd.ntmps71
    go_wp2
    go_ret
    refine ⟨?_, rfl⟩
    have : signB b = false := by simp [signB, h1]
    rw [this]
    rfl
/-- A token. -/
def tokB (l : List UInt8) : Bool := l.all signB && !l.isEmpty
theorem all_take (p : UInt8 → Bool) (l : List UInt8) (k : Nat) (x : UInt8) (h : l[k]? = some x) : (l.take (k + 1)).all p = ((l.take k).all p && p x) := by
  rw [List.take_add_one, h, List.all_append]
  simp
theorem all_bad (p : UInt8 → Bool) (l : List UInt8) (k : Nat) (x : UInt8) (h : l[k]? = some x) (hp : p x = false) : l.all p = false := by
  rw [List.all_eq_false]
  exact ⟨x, List.mem_of_getElem? h, by rw [hp]; simp⟩
set_option maxRecDepth 100000 in
set_option maxHeartbeats 2000000 in
theorem isToken_ok (s : ByteArray) (hs : s.size ≤ 140737488351232) (W : World) (hS : Signs W) : Calls Tryd.prog 79 #[.string s] W fun e w' => e = .returned (.bool (tokB s.data.toList)) ∧ w' = W := by
  have HS := Lib.hid hS
  clear hS
  go_enter Tryd.func79, Tryd.ntmps79
  go_wp2
  go_loopw [6] (fun i wr => ∃ k : Nat, k ≤ s.size ∧ i = .int .i64 k ∧ (s.data.toList.take k).all signB = true ∧ wr = W) (fun i _ => s.size - (intOf i).toNat)
  case atStart => exact ⟨0, Nat.zero_le _, rfl, rfl, rfl⟩
  case round =>
    obtain ⟨k, hk, rfl, hok, rfl⟩ := hrel
    have HOK := Lib.hid hok
    clear hok
    by_cases hlt : k < s.size
    · obtain ⟨x, hx⟩ : ∃ x, s.data.toList[k]? = some x := ⟨_, List.getElem?_eq_getElem (by rw [size_toList]; omega)⟩
      have hxb : s[k]'hlt = x := ba_at s k x hx hlt
      have hst := all_take signB _ _ _ hx
      rw [HOK.out, Bool.true_and] at hst
      have HST := Lib.hid hst
      have HX := Lib.hid hx
      clear hx hst
      go_wp2_with fail
      refine (isSign_ok x wr HS.out).mono ?_
      rintro e w' ⟨rfl, rfl⟩
      cases hp : signB x
      · have HN : Hid (tokB s.data.toList = false) := by
          show _ = _
          rw [tokB, all_bad signB _ _ _ HX.out hp]; rfl
        clear hp
        go_wp2
        go_ret
        exact ⟨by rw [HN.out]; rfl, rfl⟩
      · have HO2 := Lib.hid (HST.out.trans hp)
        clear hp
        go_wp2
        go_roundw
        case rel => exact ⟨k + 1, by omega, by go_num, HO2.out, by trivial⟩
        case measure => simp [intOf]; omega
    · obtain rfl : k = s.size := by omega
      have hall := HOK.out
      rw [List.take_of_length_le (by rw [size_toList]; omega)] at hall
      have HN : Hid (tokB s.data.toList = !s.data.toList.isEmpty) := by
        show _ = _
        rw [tokB, hall, Bool.true_and]
      clear hall HOK
      go_wp2
      go_ret
      refine ⟨?_, rfl⟩
      rw [HN.out, ← ba_toList]
      rfl
end Go.Proofs.YtimhofphmgehgaaDoor
