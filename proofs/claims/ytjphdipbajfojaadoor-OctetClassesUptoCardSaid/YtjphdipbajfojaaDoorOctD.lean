/- The document's octet layer in the abstract machine: bytes of fields, quoted texts. The document's Unquote in the abstract machine. -/
import Derived.Test.YtjphdipbajfojaaDoorOctC
set_option linter.unusedVariables false
set_option linter.unusedSimpArgs false
set_option maxRecDepth 100000
namespace Go.Proofs.YtjphdipbajfojaaDoor
open Go Go.RowKit

theorem blank_iff (b : UInt8) : blankB b = (decide (b.toNat = 32) || decide (b.toNat = 9)) := by
  have e1 : (b == 9) = decide (b.toNat = 9) := by rw [Bool.eq_iff_iff]; simp [← UInt8.toNat_inj]
  have e2 : (b == 32) = decide (b.toNat = 32) := by rw [Bool.eq_iff_iff]; simp [← UInt8.toNat_inj]
  rw [blankB, e1, e2]
theorem len_ne (l : List UInt8) (n : Nat) : (l != []) = !l.isEmpty := by cases l <;> rfl

section
variable (E : Env) (H : Hp) (Q : AV → Hp → Prop)
theorem ref_byte_pc (b : UInt8) (hQ : Q (.bool (fcB b)) H) : PC Tryd.prog E 54 [.int .u8 (b.toNat : Int)] H Q := by
  refine pc_enter Tryd.func54 rfl [] [] (by kernel_rfl) (fun hB => ?_)
  have fin : ∀ c : Bool, fcB b = c → Q (.bool c) H := fun c hc => hc ▸ hQ
  by_cases h1 : b.toNat = 9
  · have t1 : ((b.toNat : Int) == 9) = true := by simp; omega
    simp [Tryd.ntmps54, Tryd.results54, List.replicate_succ, t1]
    exact aPost_same0 hB rfl (nilV_refl _) (by simp) (fin _ (by rw [fcB_iff]; simp [h1]))
  · have t1 : ((b.toNat : Int) == 9) = false := by simp; omega
    by_cases h2 : 32 ≤ b.toNat
    · have t2 : (32 : Int) ≤ b.toNat := by omega
      by_cases h3 : b.toNat = 127
      · have t3 : ((b.toNat : Int) != 127) = false := by simp; omega
        simp [Tryd.ntmps54, Tryd.results54, List.replicate_succ, t1, t2, t3]
        exact aPost_same0 hB rfl (nilV_refl _) (by simp) (fin _ (by rw [fcB_iff]; simp [h3]))
      · have t3 : ((b.toNat : Int) != 127) = true := by simp; omega
        simp [Tryd.ntmps54, Tryd.results54, List.replicate_succ, t1, t2, t3]
        exact aPost_same0 hB rfl (nilV_refl _) (by simp) (fin _ (by rw [fcB_iff]; simp [h2, h3]))
    · have t2 : ¬ (32 : Int) ≤ b.toNat := by omega
      simp [Tryd.ntmps54, Tryd.results54, List.replicate_succ, t1, t2]
      exact aPost_same0 hB rfl (nilV_refl _) (by simp) (fin _ (by rw [fcB_iff]; simp [h1, h2]))

def refFieldInv (l : List UInt8) (H : Hp) (fr : List AV) (H' : Hp) : Prop := H' = H ∧ ∃ i : Nat, i ≤ l.length ∧ fldB (l.take i) = true ∧ ∃ x : Nat → AV, fr = [.str l, x 1, x 2, .int .i64 i, x 4, x 5, x 6, x 7, x 8, x 9, x 10, x 11, x 12, x 13, x 14]
theorem ref_field_pc (l : List UInt8) (hl : l.length ≤ cap) (hQ : Q (.bool (fldB l)) H) : PC Tryd.prog E 27 [.str l] H Q := by
  simp only [cap] at hl
  refine pc_enter Tryd.func27 rfl [] [] (by kernel_rfl) (fun hB => ?_)
  have fin : ∀ c : Bool, fldB l = c → Q (.bool c) H := fun c hc => hc ▸ hQ
  simp [Tryd.ntmps27, Tryd.results27, List.replicate_succ]
  refine VL_go (refFieldInv l H) (fun fr _ => l.length - (ai (aget fr 3)).toNat) ⟨rfl, 0, by omega, rfl, fr_intro (by simp)⟩ ?_
  rintro fr H' ⟨rfl, i, hi, hall, x, rfl⟩
  by_cases h : i < l.length
  · obtain ⟨b, hb⟩ : ∃ b, l[i]? = some b := ⟨_, List.getElem?_eq_getElem h⟩
    have hat := lat_eq hb
    have hw : IntKind.i64.wrap ((i : Int) + 1) = i + 1 := wrap_in (by omega) (by omega)
    simp [h, hat]
    refine ref_byte_pc E _ _ b ?_
    cases hf : fcB b
    · simp [hf]
      exact aPost_same0 hB rfl (nilV_refl _) (by simp) (fin _ (all_bad fcB l i b hb hf))
    · simp [hf, hw]
      refine Kloop_normal ⟨rfl, i + 1, by omega, ?_, fr_intro (by simp)⟩ (by simp; omega)
      unfold fldB at hall ⊢
      rw [all_take fcB l i b hb, hall, hf]; rfl
  · simp [h]
    have : l.take i = l := List.take_of_length_le (by omega)
    rw [this] at hall
    exact aPost_same0 hB rfl (nilV_refl _) (by simp) (fin _ hall)

def refQuoteInv (l : List UInt8) (H : Hp) (fr : List AV) (H' : Hp) : Prop := H' = H ∧ ∃ i : Nat, i ≤ l.length ∧ ∃ x : Nat → AV, fr = [.str l, x 1, x 2, x 3, .sl true 1 (bts (34 :: esc (l.take i))), .int .i64 i, x 6, x 7, x 8, x 9, x 10, x 11, x 12, x 13, x 14, x 15, x 16, x 17, x 18, x 19, x 20, x 21, x 22, x 23, x 24, x 25, x 26, x 27, x 28, x 29, x 30, x 31, x 32, x 33, x 34, x 35, x 36, x 37, x 38]
theorem ref_quote_pc (l : List UInt8) (hl : l.length ≤ 35184372088832) (hQ : Q (.tup [.str (quoteAns l).1, .int .i64 (quoteAns l).2]) H) : PC Tryd.prog E 24 [.str l] H Q := by
  refine pc_enter Tryd.func24 rfl [26, 29, 35] [] (by kernel_rfl) (fun hB => ?_)
  simp [Tryd.ntmps24, Tryd.results24, List.replicate_succ]
  refine ref_field_pc E _ _ l (by simp only [cap]; omega) ?_
  cases hf : fldB l with
  | false =>
    have hq : quoteAns l = ([], 13) := by rw [quoteAns, if_neg (by rw [hf]; simp)]
    rw [hq] at hQ
    simp
    exact aPost_same0 hB rfl (nilV_refl _) (by simp) hQ
  | true =>
    have hq : quoteAns l = (quoted l, 0) := by rw [quoteAns, if_pos hf]
    rw [hq] at hQ
    simp
    refine VL_go (refQuoteInv l H) (fun fr _ => l.length - (ai (aget fr 5)).toNat) ⟨rfl, 0, by omega, fr_intro (by simp [esc, bts])⟩ ?_
    rintro fr H' ⟨rfl, i, hi, x, rfl⟩
    obtain ⟨out, hout⟩ : ∃ out, 34 :: esc (l.take i) = out := ⟨_, rfl⟩
    have hlen : out.length ≤ 2 * i + 1 := by
      rw [← hout]
      have := esc_le (l.take i)
      rw [List.length_take] at this
      simp; omega
    rw [hout]
    have hm : ∀ n, n ≤ 2 * i + 3 → n ≤ maxLen ∧ n ≤ 140737488355328 := fun n hn => by unfold maxLen; omega
    have hm1 := hm (out.length + 1) (by omega)
    have hm2 := hm (out.length + 1 + 1) (by omega)
    by_cases h : i < l.length
    · obtain ⟨b, hb⟩ : ∃ b, l[i]? = some b := ⟨_, List.getElem?_eq_getElem h⟩
      have hat := lat_eq hb
      have hst := esc_step l i b hb
      have hw : IntKind.i64.wrap ((i : Int) + 1) = i + 1 := wrap_in (by omega) (by omega)
      have hbn := b.toNat_lt
      by_cases h34 : b.toNat = 34 ∨ b.toNat = 92
      · have he : escB b = [92, b] := by
          rw [escB, if_pos (h34.imp (fun h => UInt8.toNat_inj.1 h) (fun h => UInt8.toNat_inj.1 h))]
        rw [he] at hst
        have hor : ∃ c : Bool, ((b.toNat : Int) == 34) = c ∧ (c = false → ((b.toNat : Int) == 92) = true) := ⟨_, rfl, fun h => by simp at h ⊢; omega⟩
        obtain ⟨c, hc1, hc2⟩ := hor
        have fin : 34 :: esc (l.take (i + 1)) = out ++ [92, b] := by rw [hst, ← hout]; simp
        cases c
        · have hc2 := hc2 rfl
          simp [h, hat, hc1, hc2, hw, hm1, hm2]
          exact Kloop_normal ⟨rfl, i + 1, by omega, fr_intro (by rw [fin]; simp [bts])⟩ (by simp; omega)
        · simp [h, hat, hc1, hw, hm1, hm2]
          exact Kloop_normal ⟨rfl, i + 1, by omega, fr_intro (by rw [fin]; simp [bts])⟩ (by simp; omega)
      · have he : escB b = [b] := by
          rw [escB, if_neg]
          rintro (rfl | rfl)
          · exact h34 (.inl rfl)
          · exact h34 (.inr rfl)
        rw [he] at hst
        have fin : 34 :: esc (l.take (i + 1)) = out ++ [b] := by rw [hst, ← hout]; simp
        have n1 : ((b.toNat : Int) == 34) = false := by simp; omega
        have n2 : ((b.toNat : Int) == 92) = false := by simp; omega
        simp [h, hat, n1, n2, hw, hm1]
        exact Kloop_normal ⟨rfl, i + 1, by omega, fr_intro (by rw [fin]; simp [bts])⟩ (by simp; omega)
    · have hq : quoted l = out ++ [34] := by rw [← hout, List.take_of_length_le (by omega)]; simp [quoted]
      have hub : ubytes (bts out ++ [[.int .u8 34]]) = some (quoted l) := by
        rw [hq]; exact (bts_snoc out 34) ▸ ubytes_bts (out ++ [34])
      simp [h, hm1, hub]
      exact aPost_same0 hB rfl (nilV_refl _) (by simp) hQ
end
end Go.Proofs.YtjphdipbajfojaaDoor
set_option linter.unusedVariables false
set_option linter.unusedSimpArgs false
set_option maxRecDepth 100000
namespace Go.Proofs.YtjphdipbajfojaaDoor
open Go Go.RowKit

section
variable (E : Env) (H : Hp) (Q : AV → Hp → Prop)
def refUnqInv (l : List UInt8) (H : Hp) (fr : List AV) (H' : Hp) : Prop := H' = H ∧ ∃ (k : Nat) (acc : List UInt8), 1 ≤ k ∧ k ≤ l.length ∧ acc.length ≤ k ∧ unqIs l acc k ∧ ∃ x : Nat → AV, fr = [.str l, x 1, x 2, x 3, x 4, .sl true 1 (bts acc), .int .i64 k, x 7, x 8, x 9, x 10, x 11, x 12, x 13, x 14, x 15, x 16, x 17, x 18, x 19, x 20, x 21, x 22, x 23, x 24, x 25, x 26, x 27, x 28, x 29, x 30, x 31, x 32, x 33, x 34, x 35, x 36, x 37, x 38, x 39, x 40, x 41, x 42, x 43, x 44, x 45, x 46, x 47, x 48, x 49, x 50, x 51]
theorem ref_unquote_pc (l : List UInt8) (hl : l.length ≤ 35184372088832) (hQ : Q (.tup [.str (unqAns l).1, .int .i64 (unqAns l).2.1, .int .i64 (unqAns l).2.2]) H) : PC Tryd.prog E 26 [.str l] H Q := by
  refine pc_enter Tryd.func26 rfl [44] [] (by kernel_rfl) (fun hB => ?_)
  have bad : unqAns l = ([], 0, 13) → Q (.tup [.str [], .int .i64 0, .int .i64 13]) H := fun h => by rw [h] at hQ; exact hQ
  by_cases he : l = []
  · subst he
    simp [Tryd.ntmps26, Tryd.results26, List.replicate_succ]
    exact aPost_same0 hB rfl (nilV_refl _) (by simp) (bad rfl)
  · obtain ⟨c, hc⟩ : ∃ c, l[0]? = some c := ⟨_, List.getElem?_eq_getElem (List.length_pos_iff.2 he)⟩
    have hcn := c.toNat_lt
    have hat0 : lat l 0 = some c := lat_eq hc
    have hbe : (l == []) = false := by simpa using he
    by_cases h34 : c.toNat = 34
    · have hc34 : c = 34 := UInt8.toNat_inj.1 h34
      have t34 : ((c.toNat : Int) != 34) = false := by simp; omega
      have H0 : l[0]? = some 34 := by rw [hc, hc34]
      simp [Tryd.ntmps26, Tryd.results26, List.replicate_succ, hbe, hat0, t34]
      refine VL_go (refUnqInv l H) (fun fr _ => l.length - (ai (aget fr 6)).toNat) ⟨rfl, 1, [], by omega, List.length_pos_iff.2 he, by simp, unqIs_start l, fr_intro (by simp [bts])⟩ ?_
      rintro fr H' ⟨rfl, k, acc, hk1, hk, hacc, hu, x, rfl⟩
      have hm1 : acc.length + 1 ≤ maxLen ∧ acc.length + 1 ≤ 140737488355328 := by unfold maxLen; omega
      have hw : IntKind.i64.wrap ((k : Int) + 1) = k + 1 := wrap_in (by omega) (by omega)
      by_cases h : k < l.length
      · obtain ⟨b, hb⟩ : ∃ b, l[k]? = some b := ⟨_, List.getElem?_eq_getElem h⟩
        have hat := lat_eq hb
        have hbn := b.toNat_lt
        by_cases b34 : b.toNat = 34
        · have hx34 : b = 34 := UInt8.toNat_inj.1 b34
          have t1 : ((b.toNat : Int) == 34) = true := by simp; omega
          have ha := unqIs_close hu hk1 (by rw [hb, hx34]) H0
          rw [ha] at hQ
          simp [h, hat, t1, hw]
          exact aPost_same0 hB rfl (nilV_refl _) (by simp) hQ
        · have t1 : ((b.toNat : Int) == 34) = false := by simp; omega
          by_cases b92 : b.toNat = 92
          · have hx92 : b = 92 := UInt8.toNat_inj.1 b92
            have t2 : ((b.toNat : Int) == 92) = true := by simp; omega
            have hb' : l[k]? = some 92 := by rw [hb, hx92]
            by_cases h2 : k + 1 < l.length
            · obtain ⟨d, hd⟩ : ∃ d, l[k + 1]? = some d := ⟨_, List.getElem?_eq_getElem h2⟩
              have hat2 : lat l (k + 1) = some d := lat_eq hd
              have htn : ((k : Int) + 1).toNat = k + 1 := by omega
              have hge : ¬ (l.length : Int) ≤ (k : Int) + 1 := by omega
              have h0k : (0 : Int) ≤ (k : Int) + 1 := by omega
              have hw2 : IntKind.i64.wrap ((k : Int) + 1 + 1) = k + 2 := wrap_in (by omega) (by omega)
              simp [h, hat, t1, t2, hw, hge, hat2, h0k, htn]
              refine ref_byte_pc E _ _ d ?_
              cases hf : fcB d
              · simp [hf]
                exact aPost_same0 hB rfl (nilV_refl _) (by simp) (bad (unqIs_bad hu (unq_none_esc hb' hd hf) H0))
              · simp [hf, hat2, h0k, hm1, hw2, htn]
                exact Kloop_normal ⟨rfl, k + 2, acc ++ [d], by omega, by omega, by simp; omega, unqIs_esc hu hk1 hb' hd hf, fr_intro (by simp [bts])⟩ (by simp; omega)
            · have hge : (l.length : Int) ≤ (k : Int) + 1 := by omega
              simp [h, hat, t1, t2, hw, hge]
              exact aPost_same0 hB rfl (nilV_refl _) (by simp) (bad (unqIs_bad hu (unq_none_last hb' (by omega)) H0))
          · have t2 : ((b.toNat : Int) == 92) = false := by simp; omega
            have ne1 : b ≠ 34 := by rintro rfl; exact b34 rfl
            have ne2 : b ≠ 92 := by rintro rfl; exact b92 rfl
            have hge : ¬ (l.length : Int) ≤ (k : Int) := by omega
            simp [h, hat, t1, t2, hge]
            refine ref_byte_pc E _ _ b ?_
            cases hf : fcB b
            · simp [hf]
              exact aPost_same0 hB rfl (nilV_refl _) (by simp) (bad (unqIs_bad hu (unq_none_plain hb ne1 ne2 hf) H0))
            · simp [hf, hat, hm1, hw]
              exact Kloop_normal ⟨rfl, k + 1, acc ++ [b], by omega, by omega, by simp; omega, unqIs_plain hu hk1 hb ne1 ne2 hf, fr_intro (by simp [bts])⟩ (by simp; omega)
      · simp [h]
        exact aPost_same0 hB rfl (nilV_refl _) (by simp) (bad (unqIs_bad hu (unq_none_end (by omega)) H0))
    · have t34 : ((c.toNat : Int) != 34) = true := by simp; omega
      have hbad : unqAns l = ([], 0, 13) := by
        have : unquote l = none := by
          rw [show l = c :: l.drop 1 from drop_at _ 0 c hc, unquote, if_neg]
          rintro rfl; exact h34 rfl
        unfold unqAns; rw [this]
      simp [Tryd.ntmps26, Tryd.results26, List.replicate_succ, hbe, hat0, t34]
      exact aPost_same0 hB rfl (nilV_refl _) (by simp) (bad hbad)
end
end Go.Proofs.YtjphdipbajfojaaDoor
