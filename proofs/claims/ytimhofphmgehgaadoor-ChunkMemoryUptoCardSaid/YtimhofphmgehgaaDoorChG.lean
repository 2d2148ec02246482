/- The chunk layer's plain functions: names and lines of fields. -/
import Derived.Test.YtimhofphmgehgaaDoorChF
set_option linter.unusedVariables false
set_option linter.unusedSimpArgs false
set_option linter.unusedSectionVars false
set_option maxRecDepth 100000
namespace Go.Proofs.YtimhofphmgehgaaDoor
open Go Go.RowKit Go.Proofs

def nameB (l : List UInt8) : Bool := decide (l.length ≤ 128) && tokB l
/-- The names that no trailer has. -/
def never : List (List UInt8) := [[99, 111, 110, 110, 101, 99, 116, 105, 111, 110], [99, 111, 110, 116, 101, 110, 116, 45, 101, 110, 99, 111, 100, 105, 110, 103], [99, 111, 110, 116, 101, 110, 116, 45, 108, 101, 110, 103, 116, 104], [99, 111, 110, 116, 101, 110, 116, 45, 114, 97, 110, 103, 101], [99, 111, 110, 116, 101, 110, 116, 45, 116, 121, 112, 101], [101, 120, 112, 101, 99, 116], [104, 111, 115, 116], [107, 101, 101, 112, 45, 97, 108, 105, 118, 101], [116, 101], [116, 114, 97, 105, 108, 101, 114], [116, 114, 97, 110, 115, 102, 101, 114, 45, 101, 110, 99, 111, 100, 105, 110, 103], [117, 112, 103, 114, 97, 100, 101]]
def mayB (l : List UInt8) : Bool := nameB l && !never.contains (low l)
section
variable (E : Env) (H : Hp) (Q : AV → Hp → Prop)
theorem isName_pc (hE : SE E) (l : List UInt8) (hl : l.length ≤ cap) (hQ : Q (.bool (nameB l)) H) : PC Tryd.prog E 49 [.str l] H Q := by
  refine pc_enter Tryd.func49 rfl [] [] (by kernel_rfl) (fun hB => ?_)
  by_cases h : l.length ≤ 128
  · have h' : (l.length : Int) ≤ 128 := by omega
    have e : nameB l = tokB l := by simp [nameB, h]
    rw [e] at hQ
    simp [Tryd.ntmps49, Tryd.results49, List.replicate_succ, h']
    refine isToken_pc E _ _ hE l hl ?_
    simp
    exact aPost_same0 hB rfl (nilV_refl _) (by simp) hQ
  · have h' : ¬ (l.length : Int) ≤ 128 := by omega
    have e : nameB l = false := by simp [nameB, h]
    rw [e] at hQ
    simp [Tryd.ntmps49, Tryd.results49, List.replicate_succ, h']
    exact aPost_same0 hB rfl (nilV_refl _) (by simp) hQ
theorem mayTrail_pc (hE : SE E) (l : List UInt8) (hl : l.length ≤ cap) (hQ : Q (.bool (mayB l)) H) : PC Tryd.prog E 19 [.str l] H Q := by
  refine pc_enter Tryd.func19 rfl [] [] (by kernel_rfl) (fun hB => ?_)
  simp [Tryd.ntmps19, Tryd.results19, List.replicate_succ]
  refine lower_pc E _ _ l hl ?_
  by_cases h : low l ∈ never
  · have e : mayB l = false := by unfold mayB; rw [List.contains_iff_mem.2 h]; simp
    rw [e] at hQ
    simp only [never, List.mem_cons, List.not_mem_nil, or_false] at h
    rcases h with h | h | h | h | h | h | h | h | h | h | h | h
    all_goals
      rw [h]
      simp
      exact aPost_same0 hB rfl (nilV_refl _) (by simp) hQ
  · have e : mayB l = nameB l := by
      unfold mayB
      have : never.contains (low l) = false := Bool.eq_false_iff.2 (fun hh => h (List.contains_iff_mem.1 hh))
      rw [this]; simp
    rw [e] at hQ
    have hb : ∀ x ∈ never, (low l == x) = false := fun x hx => beq_eq_false_iff_ne.2 (fun e => h (e ▸ hx))
    have b0 := hb [99, 111, 110, 110, 101, 99, 116, 105, 111, 110] (by simp [never])
    have b1 := hb [99, 111, 110, 116, 101, 110, 116, 45, 101, 110, 99, 111, 100, 105, 110, 103] (by simp [never])
    have b2 := hb [99, 111, 110, 116, 101, 110, 116, 45, 108, 101, 110, 103, 116, 104] (by simp [never])
    have b3 := hb [99, 111, 110, 116, 101, 110, 116, 45, 114, 97, 110, 103, 101] (by simp [never])
    have b4 := hb [99, 111, 110, 116, 101, 110, 116, 45, 116, 121, 112, 101] (by simp [never])
    have b5 := hb [101, 120, 112, 101, 99, 116] (by simp [never])
    have b6 := hb [104, 111, 115, 116] (by simp [never])
    have b7 := hb [107, 101, 101, 112, 45, 97, 108, 105, 118, 101] (by simp [never])
    have b8 := hb [116, 101] (by simp [never])
    have b9 := hb [116, 114, 97, 105, 108, 101, 114] (by simp [never])
    have b10 := hb [116, 114, 97, 110, 115, 102, 101, 114, 45, 101, 110, 99, 111, 100, 105, 110, 103] (by simp [never])
    have b11 := hb [117, 112, 103, 114, 97, 100, 101] (by simp [never])
    clear hb h e
    simp [b0, b1, b2, b3, b4, b5, b6, b7, b8, b9, b10, b11]
    refine isName_pc E _ _ hE l hl ?_
    simp
    exact aPost_same0 hB rfl (nilV_refl _) (by simp) hQ
end
structure Fld where
  name : List UInt8
  value : List UInt8
deriving DecidableEq
def ncol (b : UInt8) : Bool := b != 58
/-- What a line says: the field, if it is one. -/
def lineF (l : List UInt8) : Option Fld :=
  if run ncol l < l.length ∧ nameB (l.take (run ncol l)) = true ∧ fldB (l.drop (run ncol l + 1)) = true ∧ (trimB (l.drop (run ncol l + 1))).length ≤ 8192 then some ⟨l.take (run ncol l), trimB (l.drop (run ncol l + 1))⟩ else none
theorem indexByte_run (l : List UInt8) : Lib.indexByte l 58 = if run ncol l < l.length then (run ncol l : Int) else -1 := by
  unfold run
  induction l with
  | nil => rfl
  | cons a r ih =>
    unfold Lib.indexByte
    rw [List.takeWhile_cons]
    by_cases h : a = 58
    · subst h; rfl
    · have h1 : (a == 58) = false := by simpa using h
      have h2 : ncol a = true := by simp [ncol, h]
      rw [h1, if_pos h2, ih]
      have hle : (r.takeWhile ncol).length ≤ r.length := run_le ncol r
      by_cases hh : (r.takeWhile ncol).length < r.length
      · rw [if_pos hh]
        have h3 : (((r.takeWhile ncol).length : Int) == -1) = false := by rw [beq_eq_false_iff_ne]; omega
        simp [h3, hh]
      · rw [if_neg hh]
        simp [hh]
theorem ib_blank (a : UInt8) : (0 ≤ Lib.indexByte [32, 9] a) = (blankB a = true) := by
  unfold Lib.indexByte blankB
  by_cases h1 : a = 32
  · subst h1; decide
  · by_cases h2 : a = 9
    · subst h2; decide
    · have e1 : ((32 : UInt8) == a) = false := by rw [beq_eq_false_iff_ne]; exact fun e => h1 e.symm
      have e2 : ((9 : UInt8) == a) = false := by rw [beq_eq_false_iff_ne]; exact fun e => h2 e.symm
      simp [e1, e2, h1, h2, Lib.indexByte]
theorem sign_blank (a : UInt8) (h : blankB a = true) : signB a = false := by
  unfold blankB at h
  simp at h
  rcases h with rfl | rfl <;> decide
theorem lineF_no {l : List UInt8} (h : nameB (l.take (run ncol l)) = false) : lineF l = none := by unfold lineF; rw [if_neg (by rw [h]; simp)]
theorem lineF_nocol {l : List UInt8} (h : l.length ≤ run ncol l) : lineF l = none := by unfold lineF; rw [if_neg (by omega)]
theorem nameB_nil : nameB [] = false := by decide
theorem lineF_zero {l : List UInt8} (h : run ncol l = 0) : lineF l = none := lineF_no (by rw [h, List.take_zero]; exact nameB_nil)
theorem lineF_bad {l : List UInt8} {i : Nat} {b : UInt8} (hi : i < run ncol l) (hb : l[i]? = some b) (hs : signB b = false) : lineF l = none := by
  apply lineF_no
  unfold nameB tokB
  rw [all_bad signB (l.take (run ncol l)) i b (by rw [List.getElem?_take_of_lt hi]; exact hb) hs]
  simp
theorem lineF_long {l : List UInt8} (hi : 128 < run ncol l) : lineF l = none := by
  apply lineF_no
  have := run_le ncol l
  unfold nameB
  rw [decide_eq_false (by rw [List.length_take]; omega)]; rfl
theorem lineF_val {l : List UInt8} (h : fldB (l.drop (run ncol l + 1)) = false) : lineF l = none := by unfold lineF; rw [if_neg (by rw [h]; simp)]
theorem lineF_big {l : List UInt8} (h : 8192 < (trimB (l.drop (run ncol l + 1))).length) : lineF l = none := by unfold lineF; rw [if_neg (by omega)]
section
variable (E : Env) (H : Hp) (Q : AV → Hp → Prop)
def plInv1 (l : List UInt8) (H : Hp) (fr : List AV) (H' : Hp) : Prop := H' = H ++ [[.str [], .str []]] ∧ ∃ i : Nat, i ≤ run ncol l ∧ i ≤ 128 ∧ (l.take i).all signB = true ∧ ∃ x : Nat → AV, fr = [.str l, x 1, .ptr (some (H.length, 0)), x 3, x 4, .int .i64 (run ncol l : Nat), x 6, x 7, x 8, x 9, x 10, x 11, x 12, x 13, x 14, x 15, x 16, x 17, x 18, x 19, x 20, x 21, x 22, x 23, x 24, x 25, x 26, x 27, x 28, x 29, x 30, x 31, .int .i64 (run ncol l : Nat), .int .i64 i, x 34, x 35, x 36, x 37, x 38, x 39, x 40, x 41, x 42, x 43, x 44, x 45, x 46, x 47, x 48, x 49, x 50, x 51, x 52, x 53, x 54, x 55, x 56, x 57, x 58, x 59, x 60, x 61, x 62, x 63, x 64, x 65, x 66, x 67, x 68, x 69, x 70, x 71, x 72, x 73, x 74, x 75, x 76, x 77, x 78, x 79, x 80, x 81, x 82, x 83, x 84, x 85, x 86, x 87, x 88, x 89, x 90, x 91, x 92]
def plInv2 (l : List UInt8) (H : Hp) (fr : List AV) (H' : Hp) : Prop := H' = H ++ [[.str [], .str []]] ∧ ∃ i : Nat, run ncol l + 1 ≤ i ∧ i ≤ l.length ∧ fldB ((l.drop (run ncol l + 1)).take (i - (run ncol l + 1))) = true ∧ ∃ x : Nat → AV, fr = [.str l, x 1, .ptr (some (H.length, 0)), x 3, x 4, .int .i64 (run ncol l : Nat), x 6, .int .i64 i, x 8, x 9, x 10, x 11, x 12, x 13, x 14, x 15, x 16, x 17, x 18, x 19, x 20, x 21, x 22, x 23, x 24, x 25, x 26, x 27, x 28, x 29, x 30, x 31, x 32, x 33, x 34, x 35, x 36, x 37, x 38, x 39, x 40, x 41, x 42, x 43, x 44, x 45, x 46, x 47, x 48, x 49, x 50, x 51, x 52, x 53, x 54, x 55, x 56, x 57, x 58, x 59, x 60, x 61, x 62, x 63, x 64, x 65, x 66, x 67, x 68, x 69, x 70, x 71, x 72, x 73, x 74, x 75, x 76, x 77, x 78, x 79, x 80, x 81, x 82, x 83, x 84, x 85, x 86, x 87, x 88, x 89, x 90, x 91, x 92]
set_option maxHeartbeats 1000000 in
theorem parseLine_pc (hE : SE E) (l : List UInt8) (hl : l.length ≤ cap) (hQ1 : ∀ f, lineF l = some f → Q (.tup [.agg [.str f.name, .str f.value], .int .i64 0, .int .i64 0]) H) (hQ2 : lineF l = none → ∀ pl e, e ≠ 0 → Q (.tup [.agg [.str [], .str []], .int .i64 pl, .int .i64 e]) H) :
    PC Tryd.prog E 108 [.str l] H Q := by
  refine pc_enter Tryd.func108 rfl [] [] (by kernel_rfl) (fun hB => ?_)
  have hl' := hl
  simp only [cap] at hl'
  obtain ⟨c, hc⟩ : ∃ c, run ncol l = c := ⟨_, rfl⟩
  have hcl := run_le ncol l
  rw [hc] at hcl
  have hib := indexByte_run l
  rw [hc] at hib
  have bad : ∀ (fr : List AV) (pl e : Int), lineF l = none → e ≠ 0 → aget fr 2 = .ptr (some (H.length, 0)) → aget fr 3 = .int .i64 pl → aget fr 4 = .int .i64 e → aPost Tryd.prog [ResultVar.cell 2 75, ResultVar.tmp 3, ResultVar.tmp 4] H.length Q .ret fr (H ++ [[.str [], .str []]]) := fun fr pl e h0 he h2 h3 h4 =>
    aPost_same hB (v0 := .tup [.agg [.str [], .str []], .int .i64 pl, .int .i64 e]) (by simp [h2, h3, h4]) (nilV_refl _) (by simp) (hQ2 h0 pl e he)
  have hcase : l = [] ∨ (∃ a r, l = a :: r ∧ blankB a = true) ∨ (∃ a r, l = a :: r ∧ blankB a = false) := by
    cases l with
    | nil => exact .inl rfl
    | cons a r =>
      cases hb : blankB a
      · exact .inr (.inr ⟨a, r, rfl, hb⟩)
      · exact .inr (.inl ⟨a, r, rfl, hb⟩)
  rcases hcase with rfl | ⟨a, r, rfl, hb⟩ | ⟨a, r, hl0, hb⟩
  · simp [Tryd.ntmps108, Tryd.results108, List.replicate_succ]
    refine indexByte_pc E _ _ [] 58 ?_
    have e0 : Lib.indexByte [] 58 = -1 := rfl
    rw [e0]
    simp
    exact bad _ 0 62 (by decide) (by decide) rfl rfl rfl
  · have hc0 : lineF (a :: r) = none := by
      by_cases hz : c = 0
      · exact lineF_zero (by rw [hc]; exact hz)
      · exact lineF_bad (i := 0) (b := a) (by omega) rfl (sign_blank a hb)
    have hib2 : 0 ≤ Lib.indexByte [32, 9] a := by rw [ib_blank]; exact hb
    have hne : (a :: r != []) = true := rfl
    simp [Tryd.ntmps108, Tryd.results108, List.replicate_succ, hne]
    refine indexByte_pc E _ _ [32, 9] a ?_
    simp [hib2]
    exact bad _ 0 63 hc0 (by decide) rfl rfl rfl
  · have hib2 : ¬ 0 ≤ Lib.indexByte [32, 9] a := by rw [ib_blank, hb]; simp
    have hne : (l != []) = true := by rw [hl0]; rfl
    have hl1 : 0 < l.length := by rw [hl0]; simp
    have hla : lat l 0 = some a := by rw [hl0]; rfl
    simp [Tryd.ntmps108, Tryd.results108, List.replicate_succ, hne, hl1, hla]
    refine indexByte_pc E _ _ [32, 9] a ?_
    simp [hib2]
    refine indexByte_pc E _ _ l 58 ?_
    rw [hib]
    clear hib2 hne hla hl0 hib
    by_cases hcc : c < l.length
    rotate_left
    · have hno := lineF_nocol (l := l) (by omega)
      simp [hcc]
      exact bad _ l.length 62 hno (by decide) rfl rfl rfl
    · by_cases hz : c = 0
      · have hno := lineF_zero (l := l) (by omega)
        subst hz
        simp [hcc]
        exact bad _ 0 60 hno (by decide) rfl rfl rfl
      · have hz2 : ((c : Int) == 0) = false := by simp; omega
        simp [hcc, hz, hz2]
        subst hc
        refine VL_go (plInv1 l H) (fun fr _ => run ncol l - (ai (aget fr 33)).toNat) ⟨rfl, 0, by omega, by omega, by simp, fr_intro (by simp)⟩ ?_
        rintro fr H' ⟨rfl, i, hi, hi2, hall, x, rfl⟩
        by_cases h : i < run ncol l
        · obtain ⟨b, hbi⟩ : ∃ b, l[i]? = some b := ⟨_, List.getElem?_eq_getElem (by omega)⟩
          by_cases h128 : 128 ≤ i
          · have hno := lineF_long (l := l) (by omega)
            have h128' : (128 : Int) ≤ i := by omega
            simp [h, h128']
            exact bad _ i 60 hno (by decide) rfl rfl rfl
          · have h128' : ¬ (128 : Int) ≤ i := by omega
            have hw : IntKind.i64.wrap ((i : Int) + 1) = i + 1 := wrap_in (by omega) (by omega)
            have t1 : ((i : Int) + 1).toNat = i + 1 := by omega
            have t2 : (0 : Int) ≤ i + 1 := by omega
            have t3 : (l.drop i).take 1 = [b] := by rw [drop_at l i b hbi]; rfl
            have t4 : i + 1 ≤ l.length := by omega
            have ht : tokB [b] = signB b := by simp [tokB]
            simp [h, h128', hw, t1, t2, t3, t4]
            refine isToken_pc E _ _ hE [b] (by simp [cap]) ?_
            rw [ht]
            cases hs : signB b with
            | false =>
              have hno := lineF_bad h hbi hs
              simp
              exact bad _ i 60 hno (by decide) rfl rfl rfl
            | true =>
              simp [hw]
              refine Kloop_normal ?_ ?_
              rotate_left
              · simp; omega
              refine ⟨rfl, i + 1, by omega, by omega, ?_, fr_intro (by simp)⟩
              rw [all_take signB l i b hbi, hall, hs]; rfl
        · obtain rfl : i = run ncol l := by omega
          have hnm : nameB (l.take (run ncol l)) = true := by
            unfold nameB tokB
            rw [hall, decide_eq_true (by rw [List.length_take]; omega)]
            have : l.take (run ncol l) ≠ [] := by intro e; have h2 := congrArg List.length e; rw [List.length_take] at h2; have h3 : min (run ncol l) l.length = 0 := h2; omega
            cases he : l.take (run ncol l) with
            | nil => exact absurd he this
            | cons _ _ => rfl
          have hw1 : IntKind.i64.wrap (((run ncol l : Nat) : Int) + 1) = ((run ncol l + 1 : Nat) : Int) := by rw [wrap_in (by omega) (by omega)]; omega
          clear hall
          simp [h, hw1, -Int.natCast_add]
          refine VL_go (plInv2 l H) (fun fr _ => l.length - (ai (aget fr 7)).toNat) ⟨rfl, run ncol l + 1, by omega, by omega, by rw [Nat.sub_self, List.take_zero]; rfl, fr_intro (by simp)⟩ ?_
          clear hw1
          rintro fr H' ⟨rfl, i, hi1, hi2, hall, x, rfl⟩
          by_cases h : i < l.length
          · obtain ⟨b, hbi⟩ : ∃ b, l[i]? = some b := ⟨_, List.getElem?_eq_getElem h⟩
            have hbd : (l.drop (run ncol l + 1))[i - (run ncol l + 1)]? = some b := by rw [List.getElem?_drop, show run ncol l + 1 + (i - (run ncol l + 1)) = i by omega]; exact hbi
            have hw : IntKind.i64.wrap ((i : Int) + 1) = i + 1 := wrap_in (by omega) (by omega)
            have t1 : ((i : Int) + 1).toNat = i + 1 := by omega
            have t2 : (0 : Int) ≤ i + 1 := by omega
            have t3 : (l.drop i).take 1 = [b] := by rw [drop_at l i b hbi]; rfl
            have t4 : i + 1 ≤ l.length := by omega
            have ht : fldB [b] = fcB b := by simp [fldB]
            simp [h, hw, t1, t2, t3, t4]
            refine isField_pc E _ _ [b] (by simp [cap]) ?_
            rw [ht]
            cases hs : fcB b with
            | false =>
              have hno := lineF_val (l := l) (all_bad fcB _ _ b hbd hs)
              simp
              exact bad _ i 61 hno (by decide) rfl rfl rfl
            | true =>
              simp [hw]
              refine Kloop_normal ?_ ?_
              rotate_left
              · simp; omega
              refine ⟨rfl, i + 1, by omega, by omega, ?_, fr_intro (by simp)⟩
              rw [show i + 1 - (run ncol l + 1) = (i - (run ncol l + 1)) + 1 by omega]
              unfold fldB at hall ⊢
              rw [all_take fcB _ _ b hbd, hall, hs]; rfl
          · obtain rfl : i = l.length := by omega
            have hfl : fldB (l.drop (run ncol l + 1)) = true := by rw [List.take_of_length_le (by rw [List.length_drop]; omega)] at hall; exact hall
            clear hall h
            obtain ⟨c, hc⟩ : ∃ c, run ncol l = c := ⟨_, rfl⟩
            rw [hc] at hcl hcc hz hz2 hnm hfl hi1
            have hw1 : IntKind.i64.wrap ((c : Int) + 1) = ((c + 1 : Nat) : Int) := by rw [wrap_in (by omega) (by omega)]; omega
            have t4 : c + 1 ≤ l.length := by omega
            simp [hc, hw1, t4, -Int.natCast_add]
            refine trim_pc E _ _ (l.drop (c + 1)) (by rw [List.length_drop]; simp only [cap]; omega) ?_
            by_cases hbig : 8192 < (trimB (l.drop (c + 1))).length
            · have hbig' : (8192 : Int) < (trimB (l.drop (c + 1))).length := by omega
              have hno := lineF_big (l := l) (by rw [hc]; exact hbig)
              simp [hbig']
              refine trimLeft_pc E _ _ (l.drop (c + 1)) (by rw [List.length_drop]; simp only [cap]; omega) (fun y hy => ?_)
              simp
              exact bad _ _ 61 hno (by decide) rfl rfl rfl
            · have hbig' : ¬ (8192 : Int) < (trimB (l.drop (c + 1))).length := by omega
              have hyes : lineF l = some ⟨l.take c, trimB (l.drop (c + 1))⟩ := by
                unfold lineF
                rw [hc, if_pos ⟨hcc, hnm, hfl, by omega⟩]
              simp [hbig', hcl]
              exact aPost_same hB (v0 := .tup [.agg [.str (l.take c), .str (trimB (l.drop (c + 1)))], .int .i64 0, .int .i64 0]) (by simp) (nilV_refl _) (by simp) (hQ1 _ hyes)
end
end Go.Proofs.YtimhofphmgehgaaDoor
