/- The document's lines of fields; where a line ends; what failed, what is open. -/
import Derived.Test.YtimhofphmgehgaaDoorChS
set_option linter.unusedVariables false
set_option linter.unnecessarySimpa false
set_option linter.unusedSimpArgs false
set_option linter.unusedSectionVars false
set_option maxRecDepth 100000
namespace Go.Proofs.YtimhofphmgehgaaDoor
open Go Go.RowKit Go.Proofs

theorem trimB_all (l : List UInt8) (h : l.all blankB = true) : trimB l = [] := by
  induction l with
  | nil => rfl
  | cons c l ih =>
    simp only [List.all_cons, Bool.and_eq_true] at h
    rw [trimB_blank c h.1, ih h.2]
theorem trimB_len (l : List UInt8) : (trimB l).length ≤ l.length := by
  rw [trim_comm]
  unfold rt lt
  rw [List.length_reverse]
  refine Nat.le_trans (List.dropWhile_sublist _).length_le ?_
  rw [List.length_reverse]
  exact (List.dropWhile_sublist _).length_le
def not10 (b : UInt8) : Bool := b != 10
theorem run_stop {p : UInt8 → Bool} {l : List UInt8} (h : run p l < l.length) : ∃ b, l[run p l]? = some b ∧ p b = false := by
  unfold run at h ⊢
  induction l with
  | nil => simp at h
  | cons a l ih =>
    by_cases ha : p a = true
    · rw [List.takeWhile_cons_of_pos ha] at h ⊢
      obtain ⟨b, h1, h2⟩ := ih (by simpa using h)
      exact ⟨b, by simpa using h1, h2⟩
    · rw [List.takeWhile_cons_of_neg ha]
      exact ⟨a, rfl, by simpa using ha⟩
theorem run_take {p : UInt8 → Bool} {l : List UInt8} {k : Nat} (h : k ≤ run p l) : (l.take k).all p = true := by
  induction l generalizing k with
  | nil => simp
  | cons a l ih =>
    cases k with
    | zero => simp
    | succ k =>
      by_cases ha : p a = true
      · unfold run at h
        rw [List.takeWhile_cons_of_pos ha] at h
        simp only [List.take_succ_cons, List.all_cons, ha, Bool.true_and]
        exact ih (by simpa [run] using h)
      · unfold run at h
        rw [List.takeWhile_cons_of_neg ha] at h
        simp at h
theorem run_at {p : UInt8 → Bool} {l : List UInt8} {k : Nat} {b : UInt8} (h : k < run p l) (hb : l[k]? = some b) : p b = true := by
  have := run_take (k := k + 1) (p := p) (l := l) (by omega)
  rw [all_take p l k b hb] at this
  simpa using (Bool.and_eq_true _ _ ▸ this).2
section
variable (E : Env) (H : Hp) (Q : AV → Hp → Prop)
def findInv (l : List UInt8) (c : UInt8) (H : Hp) (fr : List AV) (H' : Hp) : Prop := H' = H ∧ ∃ i : Nat, i ≤ l.length ∧ (∀ j, j < i → l[j]? ≠ some c) ∧ ∃ x : Nat → AV, fr = [.str l, .int .u8 (c.toNat : Int), x 2, x 3, x 4, .int .i64 i, x 6, x 7, x 8, x 9, x 10, x 11, x 12, x 13, x 14, x 15, x 16, x 17]
theorem find_pc (l : List UInt8) (c : UInt8) (hl : l.length ≤ cap) (hQ : Q (.int .i64 (Lib.indexByte l c)) H) : PC Tryd.prog E 122 [.str l, .int .u8 (c.toNat : Int)] H Q := by
  simp only [cap] at hl
  refine pc_enter Tryd.func122 rfl [] [] (by kernel_rfl) (fun hB => ?_)
  have fin : ∀ z : Int, Lib.indexByte l c = z → Q (.int .i64 z) H := fun z hz => hz ▸ hQ
  simp [Tryd.ntmps122, Tryd.results122, List.replicate_succ]
  refine VL_go (findInv l c H) (fun fr _ => l.length - (ai (aget fr 5)).toNat) ⟨rfl, 0, by omega, (fun j hj => by omega), fr_intro (by simp)⟩ ?_
  rintro fr H' ⟨rfl, i, hi, hno, x, rfl⟩
  by_cases h : i < l.length
  · obtain ⟨b, hb⟩ : ∃ b, l[i]? = some b := ⟨_, List.getElem?_eq_getElem h⟩
    have hat := lat_eq hb
    have hw : IntKind.i64.wrap ((i : Int) + 1) = i + 1 := wrap_in (by omega) (by omega)
    by_cases he : b = c
    · subst he
      simp [h, hat]
      exact aPost_same0 hB rfl (nilV_refl _) (by simp) (fin _ (index_at l b i hb hno))
    · have t1 : ((b.toNat : Int) == (c.toNat : Int)) = false := by
        rw [beq_eq_false_iff_ne]
        intro hh
        exact he (UInt8.toNat_inj.1 (by omega))
      simp [h, hat, t1, hw]
      refine Kloop_normal ⟨rfl, i + 1, by omega, (fun j hj => ?_), fr_intro (by simp)⟩ (by simp; omega)
      by_cases hji : j = i
      · subst hji; rw [hb]; intro e; cases e; exact he rfl
      · exact hno j (by omega)
  · simp [h]
    exact aPost_same0 hB rfl (nilV_refl _) (by simp) (fin _ (index_no l c (fun j hj => hno j (by omega))))
def dlInv1 (l : List UInt8) (c : Nat) (H : Hp) (fr : List AV) (H' : Hp) : Prop := H' = H ++ [[.str [], .str []]] ∧ ∃ i : Nat, i ≤ c ∧ i ≤ 128 ∧ (l.take i).all signB = true ∧ ∃ x : Nat → AV, fr = [.str l, x 1, .ptr (some (H.length, 0)), x 3, x 4, .int .i64 c, .int .i64 i, x 7, x 8, x 9, x 10, x 11, x 12, x 13, x 14, x 15, x 16, x 17, x 18, x 19, x 20, x 21, x 22, x 23, x 24, x 25, x 26, x 27, x 28, x 29, x 30, x 31, x 32, x 33, x 34, x 35, x 36, x 37, x 38, x 39, x 40, x 41, x 42, x 43, x 44, x 45, x 46, x 47, x 48, x 49, x 50, x 51, x 52, x 53, x 54, x 55, x 56, x 57, x 58, x 59, x 60, x 61, x 62, x 63, x 64, x 65, x 66, x 67, x 68, x 69, x 70, x 71, x 72, x 73, x 74, x 75, x 76, x 77, x 78, x 79, x 80, x 81, x 82]
def dlInv2 (l : List UInt8) (c : Nat) (H : Hp) (fr : List AV) (H' : Hp) : Prop := H' = H ++ [[.str [], .str []]] ∧ ∃ i : Nat, i ≤ l.length ∧ c + 1 ≤ i ∧ fldB ((l.drop (c + 1)).take (i - (c + 1))) = true ∧ ∃ x : Nat → AV, fr = [.str l, x 1, .ptr (some (H.length, 0)), x 3, x 4, .int .i64 c, x 6, .int .i64 i, x 8, x 9, x 10, x 11, x 12, x 13, x 14, x 15, x 16, x 17, x 18, x 19, x 20, x 21, x 22, x 23, x 24, x 25, x 26, x 27, x 28, x 29, x 30, x 31, x 32, x 33, x 34, x 35, x 36, x 37, x 38, x 39, x 40, x 41, x 42, x 43, x 44, x 45, x 46, x 47, x 48, x 49, x 50, x 51, x 52, x 53, x 54, x 55, x 56, x 57, x 58, x 59, x 60, x 61, x 62, x 63, x 64, x 65, x 66, x 67, x 68, x 69, x 70, x 71, x 72, x 73, x 74, x 75, x 76, x 77, x 78, x 79, x 80, x 81, x 82]
def dlInv3 (l : List UInt8) (c : Nat) (H : Hp) (fr : List AV) (H' : Hp) : Prop := H' = H ++ [[.str [], .str []]] ∧ ∃ i : Nat, i ≤ l.length ∧ c + 1 ≤ i ∧ ((l.drop (c + 1)).take (i - (c + 1))).all blankB = true ∧ ∃ x : Nat → AV, fr = [.str l, x 1, .ptr (some (H.length, 0)), x 3, x 4, x 5, x 6, x 7, x 8, .int .i64 i, x 10, x 11, x 12, x 13, x 14, x 15, x 16, x 17, x 18, x 19, x 20, x 21, x 22, x 23, x 24, x 25, x 26, x 27, x 28, x 29, x 30, x 31, x 32, x 33, x 34, x 35, x 36, x 37, x 38, x 39, x 40, x 41, x 42, x 43, x 44, x 45, x 46, x 47, x 48, x 49, x 50, x 51, x 52, x 53, x 54, x 55, x 56, x 57, x 58, x 59, x 60, x 61, x 62, x 63, x 64, x 65, x 66, x 67, x 68, x 69, x 70, x 71, x 72, x 73, x 74, x 75, x 76, x 77, x 78, x 79, x 80, x 81, x 82]
set_option maxHeartbeats 1000000 in
theorem dline_pc (l : List UInt8) (hl : l.length ≤ cap) (hQ1 : ∀ f, lineF l = some f → Q (.tup [.agg [.str f.name, .str f.value], .int .i64 0, .int .i64 0]) H) (hQ2 : lineF l = none → ∀ pl e, e ≠ 0 → Q (.tup [.agg [.str [], .str []], .int .i64 pl, .int .i64 e]) H) :
    PC Tryd.prog E 107 [.str l] H Q := by
  refine pc_enter Tryd.func107 rfl [] [] (by kernel_rfl) (fun hB => ?_)
  have hl' := hl
  simp only [cap] at hl'
  have bad : ∀ (fr : List AV) (pl e : Int), lineF l = none → e ≠ 0 → aget fr 2 = .ptr (some (H.length, 0)) → aget fr 3 = .int .i64 pl → aget fr 4 = .int .i64 e → aPost Tryd.prog [ResultVar.cell 2 78, ResultVar.tmp 3, ResultVar.tmp 4] H.length Q .ret fr (H ++ [[.str [], .str []]]) := fun fr pl e h0 he h2 h3 h4 =>
    aPost_same hB (v0 := .tup [.agg [.str [], .str []], .int .i64 pl, .int .i64 e]) (by simp [h2, h3, h4]) (nilV_refl _) (by simp) (hQ2 h0 pl e he)
  obtain ⟨c, hc⟩ : ∃ c, run ncol l = c := ⟨_, rfl⟩
  have hcl := run_le ncol l
  rw [hc] at hcl
  have hib := indexByte_run l
  rw [hc] at hib
  have hcase : (∃ a r, l = a :: r ∧ blankB a = true) ∨ (l = [] ∨ ∃ a r, l = a :: r ∧ blankB a = false) := by
    cases l with
    | nil => exact .inr (.inl rfl)
    | cons a r =>
      cases hb : blankB a
      · exact .inr (.inr ⟨a, r, rfl, hb⟩)
      · exact .inl ⟨a, r, rfl, hb⟩
  have key : ∀ fr : List AV, (∃ x : Nat → AV, fr = [.str l, x 1, .ptr (some (H.length, 0)), x 3, x 4, x 5, x 6, x 7, x 8, x 9, x 10, x 11, x 12, x 13, x 14, x 15, x 16, x 17, x 18, x 19, x 20, x 21, x 22, x 23, x 24, x 25, x 26, x 27, x 28, x 29, x 30, x 31, x 32, x 33, x 34, x 35, x 36, x 37, x 38, x 39, x 40, x 41, x 42, x 43, x 44, x 45, x 46, x 47, x 48, x 49, x 50, x 51, x 52, x 53, x 54, x 55, x 56, x 57, x 58, x 59, x 60, x 61, x 62, x 63, x 64, x 65, x 66, x 67, x 68, x 69, x 70, x 71, x 72, x 73, x 74, x 75, x 76, x 77, x 78, x 79, x 80, x 81, x 82]) → True := fun _ _ => trivial
  rcases hcase with ⟨a, r, rfl, hb⟩ | hcase
  · have hc0 : lineF (a :: r) = none := by
      by_cases hz : c = 0
      · exact lineF_zero (by rw [hc]; exact hz)
      · exact lineF_bad (i := 0) (b := a) (by omega) rfl (sign_blank a hb)
    have hne : (a :: r != []) = true := rfl
    simp [Tryd.ntmps107, Tryd.results107, List.replicate_succ, hne]
    refine ref_blank_pc E _ _ a ?_
    simp [hb]
    exact bad _ 0 63 hc0 (by decide) rfl rfl rfl
  case' inr =>
    rcases hcase with rfl | ⟨a, r, hl0, hb⟩
    case' inl =>
      simp [Tryd.ntmps107, Tryd.results107, List.replicate_succ]
    case' inr =>
      have hne : (l != []) = true := by rw [hl0]; rfl
      have hl1 : 0 < l.length := by rw [hl0]; simp
      have hla : lat l 0 = some a := by rw [hl0]; rfl
      simp [Tryd.ntmps107, Tryd.results107, List.replicate_succ, hne, hl1, hla]
      refine ref_blank_pc E _ _ a ?_
      simp [hb]
      clear hne hla hl0
  rotate_left
  · refine find_pc E _ _ [] 58 (by simp [cap]) ?_
    rw [show Lib.indexByte [] 58 = -1 from rfl]
    simp
    exact bad _ 0 62 (lineF_nocol (by simp)) (by decide) rfl rfl rfl
  · refine find_pc E _ _ l 58 hl ?_
    rw [hib]
    by_cases hcc : c < l.length
    rotate_left
    · have hno := lineF_nocol (l := l) (by omega)
      simp [hcc]
      exact bad _ l.length 62 hno (by decide) rfl rfl rfl
    · by_cases hz : c = 0
      · have hno := lineF_zero (l := l) (by omega)
        subst hz
        simp [hcc]
        exact bad _ 0 60 hno (by decide) rfl rfl rfl
      · have hz2 : ((c : Int) == 0) = false := by simp; omega
        simp [hcc, hz, hz2]
        refine VL_go (dlInv1 l c H) (fun fr _ => c - (ai (aget fr 6)).toNat) ⟨rfl, 0, by omega, by omega, by simp, fr_intro (by simp)⟩ ?_
        rintro fr H' ⟨rfl, i, hi, hi2, hall, x, rfl⟩
        by_cases h : i < c
        · obtain ⟨b, hbi⟩ : ∃ b, l[i]? = some b := ⟨_, List.getElem?_eq_getElem (by omega)⟩
          have hat := lat_eq hbi
          by_cases h128 : i = 128
          · have hno := lineF_long (l := l) (by omega)
            subst h128
            have h' : (128 : Int) < c := by omega
            simp [h']
            exact bad _ 128 60 hno (by decide) rfl rfl rfl
          · have h128' : ((i : Int) == 128) = false := by simp; omega
            have hw : IntKind.i64.wrap ((i : Int) + 1) = i + 1 := wrap_in (by omega) (by omega)
            have hil : i < l.length := by omega
            simp [h, h128', hat, hil]
            refine ref_sign_pc E _ _ b ?_
            cases hs : signB b with
            | false =>
              have hno := lineF_bad (by rw [hc]; exact h) hbi hs
              simp
              exact bad _ i 60 hno (by decide) rfl rfl rfl
            | true =>
              simp [hw]
              exact Kloop_normal ⟨rfl, i + 1, by omega, by omega, by rw [all_take signB l i b hbi, hall, hs]; rfl, fr_intro (by simp)⟩ (by simp; omega)
        · obtain rfl : i = c := by omega
          have hnm : nameB (l.take i) = true := by
            have : l.take i ≠ [] := by intro e; have h2 := congrArg List.length e; rw [List.length_take] at h2; have h3 : min i l.length = 0 := h2; omega
            unfold nameB tokB
            rw [hall, decide_eq_true (by rw [List.length_take]; omega)]
            simpa using this
          have hw : IntKind.i64.wrap ((i : Int) + 1) = ((i + 1 : Nat) : Int) := by rw [wrap_in (by omega) (by omega)]; omega
          simp [hw, -Int.natCast_add]
          refine VL_go (dlInv2 l i H) (fun fr _ => l.length - (ai (aget fr 7)).toNat) ⟨rfl, i + 1, by omega, by omega, by simp [fldB], fr_intro (by simp)⟩ ?_
          rintro fr H' ⟨rfl, k, hk, hk2, hfl, y, rfl⟩
          by_cases hkl : k < l.length
          · obtain ⟨b, hbk⟩ : ∃ b, l[k]? = some b := ⟨_, List.getElem?_eq_getElem hkl⟩
            have hat := lat_eq hbk
            have hwk : IntKind.i64.wrap ((k : Int) + 1) = k + 1 := wrap_in (by omega) (by omega)
            have hdk : (l.drop (i + 1))[k - (i + 1)]? = some b := by rw [List.getElem?_drop, show i + 1 + (k - (i + 1)) = k by omega]; exact hbk
            simp [hkl, hat]
            refine inside_pc E _ _ b ?_
            cases hs : fcB b with
            | false =>
              have hno : lineF l = none := lineF_val (by rw [hc]; exact all_bad fcB _ _ b hdk hs)
              simp
              exact bad _ k 61 hno (by decide) rfl rfl rfl
            | true =>
              simp [hwk]
              refine Kloop_normal ⟨rfl, k + 1, by omega, by omega, ?_, fr_intro (by simp)⟩ (by simp; omega)
              rw [show k + 1 - (i + 1) = k - (i + 1) + 1 by omega, fldB, all_take fcB _ _ b hdk]
              rw [fldB] at hfl
              rw [hfl, hs]; rfl
          · have hfl' : fldB (l.drop (i + 1)) = true := by
              rw [List.take_of_length_le (by rw [List.length_drop]; omega)] at hfl; exact hfl
            have hi1 : i + 1 ≤ l.length := by omega
            simp [hkl, hw, hi1, -Int.natCast_add]
            refine ref_trim_pc E _ _ (l.drop (i + 1)) (by rw [List.length_drop]; omega) ?_
            have htl := trimB_len (l.drop (i + 1))
            rw [List.length_drop] at htl
            by_cases hbig : 8192 < (trimB (l.drop (i + 1))).length
            · have hno : lineF l = none := lineF_big (by rw [hc]; exact hbig)
              have hbig' : (8192 : Int) < (trimB (l.drop (i + 1))).length := by omega
              simp [hbig', hw, -Int.natCast_add]
              refine VL_go (dlInv3 l i H) (fun fr _ => l.length - (ai (aget fr 9)).toNat) ⟨rfl, i + 1, by omega, by omega, by simp, fr_intro (by simp)⟩ ?_
              rintro fr H' ⟨rfl, m, hm, hm2, hbl, z, rfl⟩
              have hml : m < l.length := by
                apply Nat.lt_of_not_le
                intro hge
                rw [List.take_of_length_le (by rw [List.length_drop]; omega)] at hbl
                rw [trimB_all _ hbl] at hbig
                simp at hbig
              obtain ⟨b, hbm⟩ : ∃ b, l[m]? = some b := ⟨_, List.getElem?_eq_getElem hml⟩
              have hat := lat_eq hbm
              have hwm : IntKind.i64.wrap ((m : Int) + 1) = m + 1 := wrap_in (by omega) (by omega)
              have hwm2 : IntKind.i64.wrap ((m : Int) + 8192) = m + 8192 := wrap_in (by omega) (by omega)
              have hdm : (l.drop (i + 1))[m - (i + 1)]? = some b := by rw [List.getElem?_drop, show i + 1 + (m - (i + 1)) = m by omega]; exact hbm
              simp [hml, hat]
              refine ref_blank_pc E _ _ b ?_
              cases hs : blankB b with
              | false =>
                simp [hwm2]
                exact bad _ (m + 8192) 61 hno (by decide) rfl rfl rfl
              | true =>
                simp [hwm]
                refine Kloop_normal ⟨rfl, m + 1, by omega, by omega, ?_, fr_intro (by simp)⟩ (by simp; omega)
                rw [show m + 1 - (i + 1) = m - (i + 1) + 1 by omega, all_take blankB _ _ b hdm, hbl, hs]; rfl
            · have hbig' : ¬ (8192 : Int) < (trimB (l.drop (i + 1))).length := by omega
              have hf : lineF l = some ⟨l.take i, trimB (l.drop (i + 1))⟩ := by
                unfold lineF; rw [hc, if_pos ⟨hcc, hnm, hfl', by omega⟩]
              have hil : i ≤ l.length := by omega
              simp [hbig', hil]
              exact aPost_same hB (v0 := .tup [.agg [.str (l.take i), .str (trimB (l.drop (i + 1)))], .int .i64 0, .int .i64 0]) (by simp) (nilV_refl _) (by simp) (hQ1 _ hf)
end
end Go.Proofs.YtimhofphmgehgaaDoor
