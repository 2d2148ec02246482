/- The document's names, and ChunkTrails. -/
import Derived.Test.YtimhofphmgehgaaDoorChM
set_option linter.unusedVariables false
set_option linter.unnecessarySimpa false
set_option linter.unusedSimpArgs false
set_option linter.unusedSectionVars false
set_option maxRecDepth 100000
namespace Go.Proofs.YtimhofphmgehgaaDoor
open Go Go.RowKit Go.Proofs

section
variable (E : Env) (H : Hp) (Q : AV → Hp → Prop)
def ref6SignInv (b : UInt8) (H : Hp) (fr : List AV) (H' : Hp) : Prop := H' = H ∧ ∃ i : Nat, i ≤ 15 ∧ (sgs.take i).contains b = false ∧ ∃ x : Nat → AV, fr = [.int .u8 (b.toNat : Int), x 1, x 2, .str sgs, .int .i64 i, x 5, x 6, x 7, x 8, x 9, x 10, x 11, x 12, x 13, x 14, x 15, x 16, x 17, x 18, x 19, x 20, x 21, x 22, x 23, x 24, x 25, x 26, x 27, x 28, x 29, x 30, x 31, x 32, x 33, x 34, x 35, x 36, x 37]
theorem ref_sign_pc (b : UInt8) (hQ : Q (.bool (signB b)) H) : PC Tryd.prog E 105 [.int .u8 (b.toNat : Int)] H Q := by
  refine pc_enter Tryd.func105 rfl [] [] (by kernel_rfl) (fun hB => ?_)
  have fin : ∀ c : Bool, signB b = c → Q (.bool c) H := fun c hc => hc ▸ hQ
  have hb := b.toNat_lt
  have hcase : (48 ≤ b.toNat ∧ b.toNat ≤ 57) ∨ (65 ≤ b.toNat ∧ b.toNat ≤ 90) ∨ (97 ≤ b.toNat ∧ b.toNat ≤ 122) ∨ (isDig b || isLet b) = false := by
    by_cases h1 : 48 ≤ b.toNat ∧ b.toNat ≤ 57
    · exact .inl h1
    · by_cases h2 : 65 ≤ b.toNat ∧ b.toNat ≤ 90
      · exact .inr (.inl h2)
      · by_cases h3 : 97 ≤ b.toNat ∧ b.toNat ≤ 122
        · exact .inr (.inr (.inl h3))
        · refine .inr (.inr (.inr ?_))
          rw [Bool.eq_false_iff]
          intro hh
          simp only [isDig, isLet, Bool.or_eq_true, decide_eq_true_eq, Bool.and_eq_true] at hh
          omega
  rcases hcase with h | h | h | h
  · have h48 : (48 : Int) ≤ b.toNat := by omega
    have h57 : (b.toNat : Int) ≤ 57 := by omega
    simp [Tryd.ntmps105, Tryd.results105, List.replicate_succ, h48, h57]
    refine aPost_same0 hB rfl (nilV_refl _) (by simp) (fin _ ?_)
    rw [← sign_refB, show isDig b = true by unfold isDig; simp; omega]; simp
  · have h57 : ¬ (b.toNat : Int) ≤ 57 := by omega
    have h48 : (48 : Int) ≤ b.toNat := by omega
    have h65 : (65 : Int) ≤ b.toNat := by omega
    have h90 : (b.toNat : Int) ≤ 90 := by omega
    simp [Tryd.ntmps105, Tryd.results105, List.replicate_succ, h48, h57, h65, h90]
    refine aPost_same0 hB rfl (nilV_refl _) (by simp) (fin _ ?_)
    rw [← sign_refB, show isLet b = true by unfold isLet; simp; omega]; simp
  · have h57 : ¬ (b.toNat : Int) ≤ 57 := by omega
    have h48 : (48 : Int) ≤ b.toNat := by omega
    have h65 : (65 : Int) ≤ b.toNat := by omega
    have h90 : ¬ (b.toNat : Int) ≤ 90 := by omega
    have h97 : (97 : Int) ≤ b.toNat := by omega
    have h122 : (b.toNat : Int) ≤ 122 := by omega
    simp [Tryd.ntmps105, Tryd.results105, List.replicate_succ, h48, h57, h65, h90, h97, h122]
    refine aPost_same0 hB rfl (nilV_refl _) (by simp) (fin _ ?_)
    rw [← sign_refB, show isLet b = true by unfold isLet; simp; omega]; simp
  · have hno := h
    simp only [Bool.or_eq_false_iff] at h
    obtain ⟨hd, hl⟩ := h
    have hd' : ¬ ((48 : Int) ≤ b.toNat ∧ (b.toNat : Int) ≤ 57) := fun hh => by
      have : isDig b = true := by unfold isDig; simp; omega
      rw [this] at hd; cases hd
    have hl1 : ¬ ((65 : Int) ≤ b.toNat ∧ (b.toNat : Int) ≤ 90) := fun hh => by
      have : isLet b = true := by unfold isLet; simp; omega
      rw [this] at hl; cases hl
    have hl2 : ¬ ((97 : Int) ≤ b.toNat ∧ (b.toNat : Int) ≤ 122) := fun hh => by
      have : isLet b = true := by unfold isLet; simp; omega
      rw [this] at hl; cases hl
    have hc7 : ((b.toNat : Int) < 48) ∨ (57 < (b.toNat : Int) ∧ (b.toNat : Int) < 65) ∨ (90 < (b.toNat : Int) ∧ (b.toNat : Int) < 97) ∨ (122 < (b.toNat : Int)) := by omega
    rcases hc7 with g | g | g | g
    · have q1 : ¬ (48 : Int) ≤ b.toNat := by omega
      have q2 : ¬ (65 : Int) ≤ b.toNat := by omega
      have q3 : ¬ (97 : Int) ≤ b.toNat := by omega
      simp [Tryd.ntmps105, Tryd.results105, List.replicate_succ, q1, q2, q3]
      refine VL_go (ref6SignInv b H) (fun fr _ => 15 - (ai (aget fr 4)).toNat) ⟨rfl, 0, by omega, rfl, fr_intro (by simp [sgs])⟩ ?_
      rintro fr H' ⟨rfl, i, hi, hall, x, rfl⟩
      have hlen : sgs.length = 15 := rfl
      by_cases h : i < 15
      · obtain ⟨c, hc⟩ : ∃ c, sgs[i]? = some c := ⟨_, List.getElem?_eq_getElem (by rw [hlen]; exact h)⟩
        have hat := lat_eq hc
        have h15 : (i : Int) < 15 := by omega
        have hw : IntKind.i64.wrap ((i : Int) + 1) = i + 1 := wrap_in (by omega) (by omega)
        by_cases he : c = b
        · have t1 : ((c.toNat : Int) == (b.toNat : Int)) = true := by simp [he]
          simp [hlen, h15, hat, t1]
          refine aPost_same0 hB rfl (nilV_refl _) (by simp) (fin _ ?_)
          rw [← sign_refB, show sgs.contains b = true by rw [List.contains_iff_mem, ← he]; exact List.mem_of_getElem? hc]
          simp
        · have t1 : ((c.toNat : Int) == (b.toNat : Int)) = false := by
            rw [beq_eq_false_iff_ne]
            intro hh
            exact he (UInt8.toNat_inj.1 (by omega))
          simp [hlen, h15, hat, t1, hw]
          refine Kloop_normal ⟨rfl, i + 1, by omega, ?_, fr_intro (by simp)⟩ (by simp; omega)
          rw [List.take_add_one, hc]
          simp at hall
          simp [hall]
          exact fun e => he e.symm
      · obtain rfl : i = 15 := by omega
        simp [hlen]
        refine aPost_same0 hB rfl (nilV_refl _) (by simp) (fin _ ?_)
        rw [← sign_refB, hd, hl]
        exact hall
    · have q1 : (48 : Int) ≤ b.toNat := by omega
      have q4 : ¬ (b.toNat : Int) ≤ 57 := by omega
      have q2 : ¬ (65 : Int) ≤ b.toNat := by omega
      have q3 : ¬ (97 : Int) ≤ b.toNat := by omega
      simp [Tryd.ntmps105, Tryd.results105, List.replicate_succ, q1, q2, q3, q4]
      refine VL_go (ref6SignInv b H) (fun fr _ => 15 - (ai (aget fr 4)).toNat) ⟨rfl, 0, by omega, rfl, fr_intro (by simp [sgs])⟩ ?_
      rintro fr H' ⟨rfl, i, hi, hall, x, rfl⟩
      have hlen : sgs.length = 15 := rfl
      by_cases h : i < 15
      · obtain ⟨c, hc⟩ : ∃ c, sgs[i]? = some c := ⟨_, List.getElem?_eq_getElem (by rw [hlen]; exact h)⟩
        have hat := lat_eq hc
        have h15 : (i : Int) < 15 := by omega
        have hw : IntKind.i64.wrap ((i : Int) + 1) = i + 1 := wrap_in (by omega) (by omega)
        by_cases he : c = b
        · have t1 : ((c.toNat : Int) == (b.toNat : Int)) = true := by simp [he]
          simp [hlen, h15, hat, t1]
          refine aPost_same0 hB rfl (nilV_refl _) (by simp) (fin _ ?_)
          rw [← sign_refB, show sgs.contains b = true by rw [List.contains_iff_mem, ← he]; exact List.mem_of_getElem? hc]
          simp
        · have t1 : ((c.toNat : Int) == (b.toNat : Int)) = false := by
            rw [beq_eq_false_iff_ne]
            intro hh
            exact he (UInt8.toNat_inj.1 (by omega))
          simp [hlen, h15, hat, t1, hw]
          refine Kloop_normal ⟨rfl, i + 1, by omega, ?_, fr_intro (by simp)⟩ (by simp; omega)
          rw [List.take_add_one, hc]
          simp at hall
          simp [hall]
          exact fun e => he e.symm
      · obtain rfl : i = 15 := by omega
        simp [hlen]
        refine aPost_same0 hB rfl (nilV_refl _) (by simp) (fin _ ?_)
        rw [← sign_refB, hd, hl]
        exact hall
    · have q1 : (48 : Int) ≤ b.toNat := by omega
      have q4 : ¬ (b.toNat : Int) ≤ 57 := by omega
      have q2 : (65 : Int) ≤ b.toNat := by omega
      have q5 : ¬ (b.toNat : Int) ≤ 90 := by omega
      have q3 : ¬ (97 : Int) ≤ b.toNat := by omega
      simp [Tryd.ntmps105, Tryd.results105, List.replicate_succ, q1, q2, q3, q4, q5]
      refine VL_go (ref6SignInv b H) (fun fr _ => 15 - (ai (aget fr 4)).toNat) ⟨rfl, 0, by omega, rfl, fr_intro (by simp [sgs])⟩ ?_
      rintro fr H' ⟨rfl, i, hi, hall, x, rfl⟩
      have hlen : sgs.length = 15 := rfl
      by_cases h : i < 15
      · obtain ⟨c, hc⟩ : ∃ c, sgs[i]? = some c := ⟨_, List.getElem?_eq_getElem (by rw [hlen]; exact h)⟩
        have hat := lat_eq hc
        have h15 : (i : Int) < 15 := by omega
        have hw : IntKind.i64.wrap ((i : Int) + 1) = i + 1 := wrap_in (by omega) (by omega)
        by_cases he : c = b
        · have t1 : ((c.toNat : Int) == (b.toNat : Int)) = true := by simp [he]
          simp [hlen, h15, hat, t1]
          refine aPost_same0 hB rfl (nilV_refl _) (by simp) (fin _ ?_)
          rw [← sign_refB, show sgs.contains b = true by rw [List.contains_iff_mem, ← he]; exact List.mem_of_getElem? hc]
          simp
        · have t1 : ((c.toNat : Int) == (b.toNat : Int)) = false := by
            rw [beq_eq_false_iff_ne]
            intro hh
            exact he (UInt8.toNat_inj.1 (by omega))
          simp [hlen, h15, hat, t1, hw]
          refine Kloop_normal ⟨rfl, i + 1, by omega, ?_, fr_intro (by simp)⟩ (by simp; omega)
          rw [List.take_add_one, hc]
          simp at hall
          simp [hall]
          exact fun e => he e.symm
      · obtain rfl : i = 15 := by omega
        simp [hlen]
        refine aPost_same0 hB rfl (nilV_refl _) (by simp) (fin _ ?_)
        rw [← sign_refB, hd, hl]
        exact hall
    · have q1 : (48 : Int) ≤ b.toNat := by omega
      have q4 : ¬ (b.toNat : Int) ≤ 57 := by omega
      have q2 : (65 : Int) ≤ b.toNat := by omega
      have q5 : ¬ (b.toNat : Int) ≤ 90 := by omega
      have q3 : (97 : Int) ≤ b.toNat := by omega
      have q6 : ¬ (b.toNat : Int) ≤ 122 := by omega
      simp [Tryd.ntmps105, Tryd.results105, List.replicate_succ, q1, q2, q3, q4, q5, q6]
      refine VL_go (ref6SignInv b H) (fun fr _ => 15 - (ai (aget fr 4)).toNat) ⟨rfl, 0, by omega, rfl, fr_intro (by simp [sgs])⟩ ?_
      rintro fr H' ⟨rfl, i, hi, hall, x, rfl⟩
      have hlen : sgs.length = 15 := rfl
      by_cases h : i < 15
      · obtain ⟨c, hc⟩ : ∃ c, sgs[i]? = some c := ⟨_, List.getElem?_eq_getElem (by rw [hlen]; exact h)⟩
        have hat := lat_eq hc
        have h15 : (i : Int) < 15 := by omega
        have hw : IntKind.i64.wrap ((i : Int) + 1) = i + 1 := wrap_in (by omega) (by omega)
        by_cases he : c = b
        · have t1 : ((c.toNat : Int) == (b.toNat : Int)) = true := by simp [he]
          simp [hlen, h15, hat, t1]
          refine aPost_same0 hB rfl (nilV_refl _) (by simp) (fin _ ?_)
          rw [← sign_refB, show sgs.contains b = true by rw [List.contains_iff_mem, ← he]; exact List.mem_of_getElem? hc]
          simp
        · have t1 : ((c.toNat : Int) == (b.toNat : Int)) = false := by
            rw [beq_eq_false_iff_ne]
            intro hh
            exact he (UInt8.toNat_inj.1 (by omega))
          simp [hlen, h15, hat, t1, hw]
          refine Kloop_normal ⟨rfl, i + 1, by omega, ?_, fr_intro (by simp)⟩ (by simp; omega)
          rw [List.take_add_one, hc]
          simp at hall
          simp [hall]
          exact fun e => he e.symm
      · obtain rfl : i = 15 := by omega
        simp [hlen]
        refine aPost_same0 hB rfl (nilV_refl _) (by simp) (fin _ ?_)
        rw [← sign_refB, hd, hl]
        exact hall
def ref6TokInv (l : List UInt8) (H : Hp) (fr : List AV) (H' : Hp) : Prop := H' = H ∧ ∃ i : Nat, i ≤ l.length ∧ (l.take i).all signB = true ∧ ∃ x : Nat → AV, fr = [.str l, x 1, x 2, .int .i64 i, x 4, x 5, x 6, x 7, x 8, x 9, x 10, x 11, x 12, x 13, x 14, x 15, x 16, x 17]
theorem ref_token_pc (l : List UInt8) (hl : l.length ≤ cap) (hQ : Q (.bool (tokB l)) H) : PC Tryd.prog E 80 [.str l] H Q := by
  simp only [cap] at hl
  refine pc_enter Tryd.func80 rfl [] [] (by kernel_rfl) (fun hB => ?_)
  have fin : ∀ c : Bool, tokB l = c → Q (.bool c) H := fun c hc => hc ▸ hQ
  simp [Tryd.ntmps80, Tryd.results80, List.replicate_succ]
  refine VL_go (ref6TokInv l H) (fun fr _ => l.length - (ai (aget fr 3)).toNat) ⟨rfl, 0, by omega, rfl, fr_intro (by simp)⟩ ?_
  rintro fr H' ⟨rfl, i, hi, hall, x, rfl⟩
  by_cases h : i < l.length
  · obtain ⟨b, hb⟩ : ∃ b, l[i]? = some b := ⟨_, List.getElem?_eq_getElem h⟩
    have hat := lat_eq hb
    have hw : IntKind.i64.wrap ((i : Int) + 1) = i + 1 := wrap_in (by omega) (by omega)
    simp [h, hat]
    refine ref_sign_pc E _ _ b ?_
    cases hf : signB b
    · simp [hf]
      exact aPost_same0 hB rfl (nilV_refl _) (by simp) (fin _ (by rw [tokB, all_bad signB l i b hb hf]; rfl))
    · simp [hf, hw]
      refine Kloop_normal ⟨rfl, i + 1, by omega, ?_, fr_intro (by simp)⟩ (by simp; omega)
      rw [all_take signB l i b hb, hall, hf]; rfl
  · have : l.take i = l := List.take_of_length_le (by omega)
    rw [this] at hall
    have ht : tokB l = decide (0 < l.length) := by
      rw [tokB, hall]
      cases l <;> simp
    simp [h]
    exact aPost_same0 hB rfl (nilV_refl _) (by simp) (fin _ ht)
theorem ref_name_pc (l : List UInt8) (hl : l.length ≤ cap) (hQ : Q (.bool (nameB l)) H) : PC Tryd.prog E 50 [.str l] H Q := by
  refine pc_enter Tryd.func50 rfl [] [] (by kernel_rfl) (fun hB => ?_)
  simp [Tryd.ntmps50, Tryd.results50, List.replicate_succ]
  refine ref_token_pc E _ _ l hl ?_
  cases ht : tokB l with
  | false =>
    have e : nameB l = false := by unfold nameB; rw [ht]; simp
    rw [e] at hQ
    simp
    exact aPost_same0 hB rfl (nilV_refl _) (by simp) hQ
  | true =>
    have e : nameB l = decide ((l.length : Int) ≤ 128) := by
      unfold nameB; rw [ht, Bool.and_true]
      by_cases h : l.length ≤ 128
      · rw [decide_eq_true h, decide_eq_true (by omega)]
      · rw [decide_eq_false h, decide_eq_false (by omega)]
    rw [e] at hQ
    simp
    exact aPost_same0 hB rfl (nilV_refl _) (by simp) hQ
def inInv (ls : List (List UInt8)) (s : List UInt8) (H : Hp) (fr : List AV) (H' : Hp) : Prop := H' = H ∧ ∃ i : Nat, i ≤ ls.length ∧ (ls.take i).contains s = false ∧ ∃ x : Nat → AV, fr = [x 0, .str s, x 2, x 3, x 4, x 5, x 6, .sl false 1 (strs ls), .int .i64 ls.length, .int .i64 i, x 10, x 11, x 12, x 13, x 14, x 15, x 16]
theorem in_pc (ls : List (List UInt8)) (s : List UInt8) (hl : ls.length ≤ cap) (hQ : Q (.bool (ls.contains s)) H) : PC Tryd.prog E 51 [.sl false 1 (strs ls), .str s] H Q := by
  simp only [cap] at hl
  refine pc_enter Tryd.func51 rfl [] [] (by kernel_rfl) (fun hB => ?_)
  have fin : ∀ c : Bool, ls.contains s = c → Q (.bool c) H := fun c hc => hc ▸ hQ
  simp [Tryd.ntmps51, Tryd.results51, List.replicate_succ, strs_len]
  refine VL_go (inInv ls s H) (fun fr _ => ls.length - (ai (aget fr 9)).toNat) ⟨rfl, 0, by omega, rfl, fr_intro (by simp)⟩ ?_
  rintro fr H' ⟨rfl, i, hi, hall, x, rfl⟩
  by_cases h : i < ls.length
  · obtain ⟨b, hb⟩ : ∃ b, ls[i]? = some b := ⟨_, List.getElem?_eq_getElem h⟩
    have hat := strs_at hb
    have hw : IntKind.i64.wrap ((i : Int) + 1) = i + 1 := wrap_in (by omega) (by omega)
    by_cases he : b = s
    · simp [h, hat, he]
      refine aPost_same0 hB rfl (nilV_refl _) (by simp) (fin _ ?_)
      rw [List.contains_iff_mem, ← he]; exact List.mem_of_getElem? hb
    · have t1 : (b == s) = false := beq_eq_false_iff_ne.2 he
      simp [h, hat, t1, hw]
      refine Kloop_normal ⟨rfl, i + 1, by omega, ?_, fr_intro (by simp)⟩ (by simp; omega)
      rw [List.take_add_one, hb]
      simp at hall
      simp [hall]
      exact fun e => he e.symm
  · have : ls.take i = ls := List.take_of_length_le (by omega)
    rw [this] at hall
    simp [h]
    exact aPost_same0 hB rfl (nilV_refl _) (by simp) (fin _ hall)
theorem ref_may_pc (l : List UInt8) (hl : l.length ≤ cap) (hQ : Q (.bool (mayB l)) H) : PC Tryd.prog E 20 [.str l] H Q := by
  refine pc_enter Tryd.func20 rfl [] [] (by kernel_rfl) (fun hB => ?_)
  have hr12 : (([0, 1, 2, 3, 4, 5, 6, 7, 8, 9, 10, 11] : List Nat) = List.range 12) = True := eq_true (by decide)
  simp [Tryd.ntmps20, Tryd.results20, List.replicate_succ, hr12]
  refine ref_name_pc E _ _ l hl ?_
  cases hn : nameB l with
  | false =>
    have e : mayB l = false := by unfold mayB; rw [hn]; rfl
    rw [e] at hQ
    simp
    exact aPost_same0 hB rfl (nilV_refl _) (by simp) hQ
  | true =>
    have e : mayB l = !never.contains (low l) := by unfold mayB; rw [hn]; rfl
    rw [e] at hQ
    simp
    refine ref_lower_pc E _ _ l hl ?_
    simp
    refine in_pc E _ _ never (low l) (by simp [never, cap]) ?_
    simp [-List.contains_eq_mem]
    exact aPost_same0 hB rfl (nilV_refl _) (by simp) hQ
theorem lawake_pc (hE : SE E) (hQ : Q (.bool true) H) : PC Tryd.prog E 15 [] H Q := by
  refine pc_enter Tryd.func15 rfl [] [] (by kernel_rfl) (fun hB => ?_)
  simp [Tryd.ntmps15, Tryd.results15, List.replicate_succ]
  refine decode_pc E _ _ hE awk 2 8 1 (by simp [awk]) (by omega) (by omega) (by omega) ?_
  rw [awk_dec]
  simp
  exact aPost_same0 hB rfl (nilV_refl _) (by simp) hQ
theorem ltrails_pc (hE : SE E) (l : List UInt8) (hl : l.length ≤ cap) (hQ : Q (.bool true) H) : PC Tryd.prog E 4 [.str l] H Q := by
  refine pc_enter Tryd.func4 rfl [] [] (by kernel_rfl) (fun hB => ?_)
  simp [Tryd.ntmps4, Tryd.results4, List.replicate_succ]
  refine lawake_pc E _ _ hE ?_
  simp
  refine mayTrail_pc E _ _ hE l hl ?_
  simp
  refine ref_may_pc E _ _ l hl ?_
  simp
  exact aPost_same0 hB rfl (nilV_refl _) (by simp) hQ
end
end Go.Proofs.YtimhofphmgehgaaDoor
