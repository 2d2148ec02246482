/- WorldStreams. -/
import Derived.Test.YtgnjdfnjohgnlaaWldR
import Derived.Test.YtgnjdfnjohgnlaaAdapt
set_option linter.unusedVariables false
set_option linter.unusedSimpArgs false
set_option linter.unusedSectionVars false
set_option maxRecDepth 100000
namespace Go.Proofs.Ytgnjdfnjohgnlaa
open Go Go.RowKit

def ints (l : List Int) : List (List AV) := l.map fun z => [.int .i64 z]
@[simp] theorem ints_len (l : List Int) : (ints l).length = l.length := by simp [ints]
theorem ints_at {l : List Int} {i : Nat} {z : Int} (h : l[i]? = some z) : lat (ints l) i = some [.int .i64 z] := by simp [lat, ints, h]
def strM (text tak : List UInt8) (rd : Nat) (rg wg : Int) : Cn := { del := text, rd := rd, rg := rg, tak := tak, wg := wg, acc := true, ended := true, rst := false, cls := false, ri := true, wi := true }
section
variable (text tak rest : List UInt8) (rd : Nat) (wg : Int) (n : Nat) (hn : 1 ≤ n)
include hn
theorem str_do5 : mDo false [strM text tak rd 0 wg] 5 0 n [] = ([strM text tak rd n wg], 0) := by
  have : ¬ (n : Int) < 1 := by omega
  simp [mDo, cEvent, strM, this]
theorem str_do6 : mDo false [strM text tak rd 0 wg] 6 0 n [] = ([strM text tak rd 0 n], 0) := by
  have : ¬ (n : Int) < 1 := by omega
  simp [mDo, cEvent, strM, this]
theorem str_ready : mReady [strM text tak rd n wg] = [rdyRow 0 false true (decide (0 < wg)) false] := by
  have : 0 < n := hn
  simp [mReady, rdyTo, rdy, strM, mCount, mWaits, this]
theorem str_live (rg : Int) : mLive [strM text tak rd rg wg] 0 = 0 := mLive_nat (i := 0) (m := strM text tak rd rg wg) rfl rfl rfl rfl
theorem str_read (hn2 : n ≤ 1048576) (h : rd < text.length) : mRead [strM text tak rd n wg] 0 1073741824 = ([strM text tak (rd + ((text.drop rd).take n).length) 0 wg], (text.drop rd).take n, false, 0) := by
  unfold mRead
  rw [if_pos (str_live text tak rd wg n hn n)]
  have h1 : ¬ n = 0 := by omega
  have h2 : (min (1073741824 : Int) n).toNat = n := by omega
  simp [cRead, strM, h1, h2, h]
theorem str_read_end (hn2 : n ≤ 1048576) (h : ¬ rd < text.length) : mRead [strM text tak rd n wg] 0 1073741824 = ([strM text tak rd 0 wg], [], true, 0) := by
  unfold mRead
  rw [if_pos (str_live text tak rd wg n hn n)]
  have h1 : ¬ n = 0 := by omega
  simp [cRead, strM, h1, h]
theorem str_write_none : mWrite [strM text tak rd 0 n] 0 [] = ([strM text tak rd 0 n], 0, 244) := by
  unfold mWrite
  rw [if_pos (str_live text tak rd n n hn 0)]
  simp [cWrite, strM]
theorem str_write (hr : rest ≠ []) : mWrite [strM text tak rd 0 n] 0 rest = ([strM text (tak ++ rest.take n) rd 0 0], (rest.take n).length, 0) := by
  unfold mWrite
  rw [if_pos (str_live text tak rd n n hn 0)]
  have h1 : ¬ n = 0 := by omega
  have h2 : (n : Int).toNat = n := by omega
  simp [cWrite, strM, hr, h1, h2]
omit hn in
theorem str_write_x : mWrite [strM text tak rd 0 0] 0 [120] = ([strM text tak rd 0 0], 0, 244) := by
  unfold mWrite
  rw [if_pos (str_live text tak rd 0 1 (by omega) 0)]
  simp [cWrite, strM]
end
structure StrI (H H' : Hp) (text answer : List UInt8) (rd : Nat) (tak rest : List UInt8) (wg : Int) : Prop where
  wo : ∃ cs, WO H' (some H.length) cs [strM text tak rd 0 wg] ∧ ∀ c ∈ cs, H.length ≤ c
  len : H.length ≤ H'.length
  keep : ∀ j, j < H.length → H'[j]? = H[j]?
  hrd : rd ≤ text.length
  hwg : 0 ≤ wg
  ans : tak ++ rest = answer
  wgr : wg = 0 ∨ rest = []
theorem StrI.next {H H' H2 : Hp} {text answer : List UInt8} {rd rd' : Nat} {tak rest tak' rest' : List UInt8} {wg wg' : Int} {cs cs2 : List Nat} (h : StrI H H' text answer rd tak rest wg) (hu : Up H' (some H.length) cs H2 cs2) (hc : ∀ c ∈ cs, H.length ≤ c)
    (hw : WO H2 (some H.length) cs2 [strM text tak' rd' 0 wg']) (h1 : rd' ≤ text.length) (h2 : 0 ≤ wg') (h3 : tak' ++ rest' = answer) (h4 : wg' = 0 ∨ rest' = []) : StrI H H2 text answer rd' tak' rest' wg' := by
  refine ⟨⟨cs2, hw, fun c hc' => ?_⟩, Nat.le_trans h.len hu.len, fun j hj => ?_, h1, h2, h3, h4⟩
  · rcases hu.new c hc' with h' | h'
    · exact hc c h'
    · exact Nat.le_trans h.len h'
  · rw [hu.keep j (Nat.lt_of_lt_of_le hj h.len) (by simp; omega) (fun hm => by have := hc j hm; omega)]
    exact h.keep j hj
def strI (H : Hp) (text answer : List UInt8) (gs : List Int) (fr : List AV) (H' : Hp) : Prop := ∃ i : Nat, i ≤ gs.length ∧ ∃ rd tak rest wg, StrI H H' text answer rd tak rest wg ∧
  ∃ x : Nat → AV, fr = [.str text, .str answer, x 2, x 3, x 4, x 5, x 6, .ptr (some (H.length, 0)), x 8, x 9, .str (text.take rd), .str rest, x 12, x 13, x 14, x 15, x 16, x 17, x 18, x 19, x 20, x 21, x 22, x 23, x 24, x 25, x 26, x 27, x 28, x 29, x 30, x 31, x 32, x 33, x 34, x 35, x 36, x 37, x 38, x 39, x 40, x 41, x 42, x 43, x 44, x 45, x 46, x 47, x 48, x 49, x 50, x 51, x 52, x 53, x 54, x 55, x 56, x 57, x 58, x 59, x 60, x 61, x 62, x 63, .sl false 1 (ints gs), .int .i64 gs.length, .int .i64 i, x 67, x 68, x 69, x 70, x 71, x 72, x 73, x 74, x 75, x 76, x 77, x 78, x 79, x 80, x 81, x 82, x 83, x 84, x 85, x 86, x 87, x 88, x 89, x 90, x 91, x 92, x 93, x 94, x 95, x 96, x 97, x 98, x 99, x 100, x 101, x 102, x 103, x 104, x 105, x 106, x 107, x 108, x 109, x 110, x 111, x 112, x 113, x 114, x 115, x 116, x 117, x 118, x 119, x 120, x 121, x 122, x 123, x 124, x 125, x 126, x 127, x 128, x 129, x 130, x 131, x 132, x 133, x 134, x 135, x 136, x 137, x 138, x 139, x 140, x 141, x 142, x 143, x 144, x 145, x 146, x 147, x 148, x 149, x 150, x 151, x 152, x 153, x 154, x 155, x 156, x 157, x 158, x 159, x 160, x 161, x 162, x 163, x 164, x 165, x 166, x 167, x 168, x 169, x 170, x 171, x 172, x 173, x 174, x 175, x 176, x 177, x 178, x 179, x 180, x 181, x 182, x 183, x 184, x 185, x 186, x 187, x 188, x 189, x 190, x 191, x 192, x 193]

set_option maxHeartbeats 8000000 in
theorem streams_pc (E : Env) (H : Hp) (Q : AV → Hp → Prop) (text answer : List UInt8) (gs : List Int) (ht : text.length ≤ 140737488351232) (ha : answer.length ≤ 140737488351232) (hg : gs.length ≤ 140737488351232) (hQ : Q (.bool true) H) :
    PC Try.prog E 5 [.str text, .str answer, .sl false 1 (ints gs)] H Q := by
  refine pc_enter Try.func5 rfl [] [] (by kernel_rfl) (fun hB => ?_)
  simp [Try.ntmps5, Try.results5, List.replicate_succ]
  refine awake_pc E H _ ?_
  simp
  refine new_pc E H _ ?_
  simp
  refine do2_pc E _ (some H.length) [] [] _ (WO.new H) (by simp) 1 0 0 [] (fun j m _ h => by simp at h) (fun H1 cs1 hw1 hu1 => ?_)
  have e1 : mDo false [] 1 0 0 [] = ([Cn.new], 0) := rfl
  change WO _ _ _ (Prod.fst (mDo false [] 1 0 0 [])) at hw1
  rw [e1] at hw1
  simp [e1]
  refine do2_pc E _ (some H.length) cs1 [Cn.new] _ hw1 (by simp) 2 0 0 text (fun j m _ h => by cases j <;> simp at h; subst h; simp [Cn.new]; omega) (fun H2 cs2 hw2 hu2 => ?_)
  have e2 : mDo false [Cn.new] 2 0 0 text = ([{ Cn.new with del := text }], 0) := by simp [mDo, cEvent, Cn.new]
  change WO _ _ _ (Prod.fst (mDo false [Cn.new] 2 0 0 text)) at hw2
  rw [e2] at hw2
  simp [e2]
  refine do2_pc E _ (some H.length) cs2 _ _ hw2 (by simp) 3 0 0 [] (fun j m _ h => by cases j <;> simp at h; subst h; simp [Cn.new]; omega) (fun H3 cs3 hw3 hu3 => ?_)
  have e3 : mDo false [{ Cn.new with del := text }] 3 0 0 [] = ([{ Cn.new with del := text, ended := true }], 0) := rfl
  change WO _ _ _ (Prod.fst (mDo false [{ Cn.new with del := text }] 3 0 0 [])) at hw3
  rw [e3] at hw3
  simp [e3]
  refine accept2_pc E _ (some H.length) cs3 _ _ hw3 (by simp) (fun H4 cs4 hw4 hu4 => ?_)
  have e4 : mAccept [{ Cn.new with del := text, ended := true }] = ([{ Cn.new with del := text, ended := true, acc := true }], 0, 0) := rfl
  change WO _ _ _ (Prod.fst (mAccept [{ Cn.new with del := text, ended := true }])) at hw4
  rw [e4] at hw4
  simp [e4]
  refine interest2_pc E _ (some H.length) cs4 _ _ hw4 (by simp) 0 true true (fun H5 cs5 hw5 hu5 => ?_)
  have e5 : mInterest [{ Cn.new with del := text, ended := true, acc := true }] 0 true true = ([strM text [] 0 0 0], 0) := rfl
  change WO _ _ _ (Prod.fst (mInterest [{ Cn.new with del := text, ended := true, acc := true }] 0 true true)) at hw5
  rw [e5] at hw5
  simp [e5]
  have hu := (((hu1.trans hu2).trans hu3).trans hu4).trans hu5
  have hlen := hu.len
  simp at hlen
  have hi0 : StrI H H5 text answer 0 [] answer 0 := ⟨⟨cs5, hw5, fun c hc => by have := hu.new c hc; simp at this; omega⟩, by omega, fun j hj => by rw [hu.keep j (by simp; omega) (by simp; omega) (by simp), List.getElem?_append_left hj], by omega, by omega, rfl, .inl rfl⟩
  refine VL_go (strI H text answer gs) (fun fr _ => gs.length - (ai (aget fr 66)).toNat) ⟨0, by omega, 0, [], answer, 0, hi0, fr_intro (by simp)⟩ ?_
  clear hi0 hu hw5 hu5 hw4 hu4 hw3 hu3 hw2 hu2 hw1 hu1 hlen
  rintro fr H' ⟨i, hi, rd, tak, rest, wg, hm, x, rfl⟩
  obtain ⟨cs, hwo, hcs⟩ := hm.wo
  by_cases h : i < gs.length
  · obtain ⟨g, hgi⟩ : ∃ g, gs[i]? = some g := ⟨_, List.getElem?_eq_getElem h⟩
    have hat := ints_at hgi
    have hw2' : IntKind.i64.wrap ((i : Int) + 1) = i + 1 := wrap_in (by omega) (by omega)
    simp [h, hat]
    refine kind_pc E _ _ g 1048576 (by omega) ?_
    obtain ⟨n, hn⟩ : ∃ n : Nat, g % 1048576 + 1 = n := ⟨(g % 1048576 + 1).toNat, by omega⟩
    have hw3 : IntKind.i64.wrap (g % 1048576 + 1) = n := by rw [wrap_in (by omega) (by omega)]; exact hn
    by_cases hpar : i % 2 = 0
    · have hp0 : (i : Int).tmod 2 = 0 := by rw [Int.tmod_eq_emod_of_nonneg (by omega)]; omega
      simp [hw3, hp0]
      refine do2_pc E _ (some H.length) cs _ _ hwo (by simp) 5 0 n [] (fun j m _ h => by cases j <;> simp at h; subst h; simp [strM]; omega) (fun H1 cs1 hw1 hu1 => ?_)
      have e1 := str_do5 text tak rd wg n (by omega)
      change WO _ _ _ (Prod.fst (mDo false [strM text tak rd 0 wg] 5 0 n [])) at hw1
      rw [e1] at hw1
      simp [e1]
      refine ready_pc E _ (some H.length) cs1 _ _ hw1 (by simp) ?_
      rw [str_ready text tak rd wg n (by omega)]
      simp [rdyRow]
      refine read2_pc E _ (some H.length) cs1 _ _ hw1 (by simp) 0 1073741824 (fun j m _ h => by cases j <;> simp at h; subst h; simp [Cn.ok, strM]; have := hm.hrd; have := hm.hwg; have := congrArg List.length hm.ans; simp at this; omega) (fun H2 cs2 hw2 hu2 => ?_)
      by_cases hrd : rd < text.length
      · have e2 := str_read text tak rd wg n (by omega) (by omega) hrd
        rw [e2] at hw2
        have f1 : ¬ n < min n (text.length - rd) := by omega
        have f2 : (text.take rd == text) = false := by
          rw [beq_eq_false_iff_ne]; intro he; have := congrArg List.length he; simp at this; omega
        have f3 : IntKind.i64.wrap ((text.length : Int) - rd) = (text.length - rd : Nat) := by rw [wrap_in (by omega) (by omega)]; omega
        have f4 : min rd text.length = rd := by omega
        have f5 : (((min n (text.length - rd) : Nat) : Int) != if text.length - rd < n then ((text.length - rd : Nat) : Int) else n) = false := by simp; split <;> omega
        have f6 : rd + min n (text.length - rd) ≤ maxLen := by unfold maxLen; omega
        have f7 : text.take rd ++ (text.drop rd).take n = text.take (rd + min n (text.length - rd)) := by
          rw [List.take_add]; congr 1
          rw [← List.length_drop, ← List.take_eq_take_min]
        simp [e2, f1, f2, f3, f4, f5, f6, f7, hw2']
        refine Kloop_normal ?_ ?_
        rotate_left
        · simp; omega
        simp only [List.length_take, List.length_drop] at hw2
        exact ⟨i + 1, by omega, _, tak, rest, wg, hm.next ((hu1.trans hu2)) hcs hw2 (by omega) hm.hwg hm.ans hm.wgr, fr_intro (by simp)⟩
      · have e2 := str_read_end text tak rd wg n (by omega) (by omega) hrd
        have f0 : rd = text.length := by have := hm.hrd; omega
        subst f0
        rw [e2] at hw2
        have f1 : 0 < n := by omega
        have f2 : IntKind.i64.wrap 0 = 0 := by decide
        have f3 : text.length ≤ maxLen := by unfold maxLen; omega
        simp [e2, f1, f2, f3, hw2']
        refine Kloop_normal ?_ ?_
        rotate_left
        · simp; omega
        exact ⟨i + 1, by omega, _, tak, rest, wg, hm.next ((hu1.trans hu2)) hcs hw2 (by omega) hm.hwg hm.ans hm.wgr, fr_intro (by simp)⟩
    · have hp0 : (i : Int).tmod 2 = 1 := by rw [Int.tmod_eq_emod_of_nonneg (by omega)]; omega
      simp [hw3, hp0]
      refine do2_pc E _ (some H.length) cs _ _ hwo (by simp) 6 0 n [] (fun j m _ h => by cases j <;> simp at h; subst h; simp [strM]; omega) (fun H1 cs1 hw1 hu1 => ?_)
      have e1 := str_do6 text tak rd wg n (by omega)
      change WO _ _ _ (Prod.fst (mDo false [strM text tak rd 0 wg] 6 0 n [])) at hw1
      rw [e1] at hw1
      simp [e1]
      refine write2_pc E _ (some H.length) cs1 _ _ hw1 (by simp) 0 rest (fun j m _ h => by cases j <;> simp at h; subst h; simp [strM]; have := congrArg List.length hm.ans; simp at this; omega) (fun j m _ h => by cases j <;> simp at h; subst h; simp [Cn.ok, strM]; have := hm.hrd; have := hm.hwg; have := congrArg List.length hm.ans; simp at this; omega) (fun H2 cs2 hw2 hu2 => ?_)
      by_cases hr : rest = []
      · subst hr
        have e2 := str_write_none text tak rd n (by omega)
        rw [e2] at hw2
        simp [e2, hw2']
        refine Kloop_normal ?_ ?_
        rotate_left
        · simp; omega
        exact ⟨i + 1, by omega, _, tak, _, n, hm.next ((hu1.trans hu2)) hcs hw2 hm.hrd (by omega) hm.ans (.inr rfl), fr_intro (by simp)⟩
      · have e2 := str_write text tak rest rd n (by omega) hr
        rw [e2] at hw2
        have f1 : rest.isEmpty = false := by simp [hr]
        have f2 : (((min n rest.length : Nat) : Int) != if rest.length < n then (rest.length : Int) else n) = false := by simp; split <;> omega
        have f4 : rest.drop (min n rest.length) = rest.drop n := by
          by_cases hc : n ≤ rest.length
          · rw [Nat.min_eq_left hc]
          · rw [Nat.min_eq_right (by omega), List.drop_of_length_le (Nat.le_refl _), List.drop_of_length_le (by omega)]
        have f5 : min n rest.length ≤ rest.length := Nat.min_le_right _ _
        have f6 : (rest.drop n).take (rest.length - min n rest.length) = rest.drop n := List.take_of_length_le (by simp; omega)
        simp [e2, f1, f2, f4, f5, f6]
        refine write2_pc E _ (some H.length) cs2 _ _ hw2 (by simp) 0 [120] (fun j m _ h => by cases j <;> simp at h; subst h; simp [strM]; have := congrArg List.length hm.ans; simp at this; omega) (fun j m _ h => by cases j <;> simp at h; subst h; simp [Cn.ok, strM]; have := hm.hrd; have := hm.hwg; have := congrArg List.length hm.ans; simp at this; omega) (fun H3 cs3 hw3 hu3 => ?_)
        have e3 := str_write_x text (tak ++ rest.take n) rd
        change WO _ _ _ (Prod.fst (mWrite [strM text (tak ++ rest.take n) rd 0 0] 0 [120])) at hw3
        rw [e3] at hw3
        simp [e3, hw2']
        refine Kloop_normal ?_ ?_
        rotate_left
        · simp; omega
        exact ⟨i + 1, by omega, _, _, rest.drop n, 0, hm.next ((hu1.trans hu2).trans hu3) hcs hw3 hm.hrd (by omega) (by rw [List.append_assoc, List.take_append_drop]; exact hm.ans) (.inl rfl), fr_intro (by simp)⟩
  · have f1 : min rd text.length = rd := by have := hm.hrd; omega
    have f2 : rd ≤ text.length := hm.hrd
    have f3 : tak.length + rest.length ≤ maxLen := by have := congrArg List.length hm.ans; simp at this; unfold maxLen; omega
    simp [h, f1, f2]
    refine taken_pc E _ (some H.length) cs _ _ 0 hwo (by simp) (fun hn => absurd hn (by simp)) (fun j m hj hm' => ?_)
    obtain rfl : j = 0 := by omega
    simp at hm'
    subst hm'
    have f4 : tak ++ rest = answer := hm.ans
    simp [strM, f3, f4]
    refine delivered_pc E _ (some H.length) cs _ _ 0 hwo (by simp) (fun hn => absurd hn (by simp)) (fun j m hj hm' => ?_)
    obtain rfl : j = 0 := by omega
    simp at hm'
    subst hm'
    simp [strM]
    exact aPost_law hB hm.len hm.keep rfl (by simp) hQ

theorem streams_true (W : World) (x0 x1 : ByteArray) (bo : Option Addr) (len cap : Nat) (l : List Int) (h0 : x0.size ≤ 140737488351232) (h1 : x1.size ≤ 140737488351232) (h2 : len ≤ 140737488351232) (e : l.length = len) (le : len ≤ cap) (lm : cap ≤ maxLen)
    (hc : ∀ i x, l[i]? = some x → ∃ g o, bo = some ⟨g, o, none⟩ ∧ W.cell? ⟨g, o + i, none⟩ = some (.int .i64 x)) :
    Calls Try.prog 5 #[.string x0, .string x1, .slice bo len cap] W fun e w' => e = .returned (.bool true) ∧ Frm (fun _ => False) W w' :=
  calls_of_pc (args := [.str x0.data.toList, .str x1.data.toList, .sl false 1 (ints l)]) (old W) (fun _ _ h => h) rfl (fun t x u hx hu => by
    match t with
    | 0 => simp at hx hu; subst hx; subst hu; exact ⟨rel_string _ (by unfold maxLen; omega), .str _, rfl⟩
    | 1 => simp at hx hu; subst hx; subst hu; exact ⟨rel_string _ (by unfold maxLen; omega), .str _, rfl⟩
    | 2 =>
      simp at hx hu; subst hx; subst hu
      refine ⟨rel_ints l bo len cap e le lm hc, .sl _ _ _ ?_, rfl⟩
      intro r hr y hy
      obtain ⟨z, _, rfl⟩ := List.mem_map.1 hr
      simp at hy; subst hy; exact .int _ _
    | t + 3 => simp at hx) (fun E Q h => streams_pc E [] Q _ _ l (by simpa using h0) (by simpa using h1) (by omega) h)
end Go.Proofs.Ytgnjdfnjohgnlaa
