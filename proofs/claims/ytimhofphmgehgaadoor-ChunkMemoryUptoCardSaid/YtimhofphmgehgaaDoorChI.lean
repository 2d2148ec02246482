/- The chunk layer's decoder: the size line and the trailer section. -/
import Derived.Test.YtimhofphmgehgaaDoorChH
set_option linter.unusedVariables false
set_option linter.unusedSimpArgs false
set_option linter.unusedSectionVars false
set_option maxRecDepth 100000
namespace Go.Proofs.YtimhofphmgehgaaDoor
open Go Go.RowKit Go.Proofs

theorem sizeAns_rng (l : List UInt8) (h : (sizeAns l).2.2 = 0) : 0 ≤ (sizeAns l).1 ∧ (sizeAns l).1 ≤ 1099511627776 := by
  unfold sizeAns at h ⊢
  split at h
  · simp at h
  · rename_i h1
    rw [if_neg h1]
    split at h
    · simp at h
    · rename_i h2
      rw [if_neg h2]
      split at h
      · simp at h
      · rename_i h3
        rw [if_neg h3]
        simp only [ne_eq, Decidable.not_not] at h3
        simp only
        unfold numAns at h3 ⊢
        split at h3
        · simp at h3
        · rename_i g1
          rw [if_neg g1]
          split at h3
          · simp at h3
          · rename_i g2
            rw [if_neg g2]
            split at h3
            · simp at h3
            · rename_i g3
              rw [if_neg g3]
              have := numOf_nonneg 16 (by omega) _ (by simpa using g2)
              simp only
              omega
section
variable (E : Env) (H : Hp) (Q : AV → Hp → Prop) (i : Nat) (d : Dec) (hd : H[i]? = some d.av) (b : UInt8)
include hd
theorem size_pc (hE : SE E) (hl : d.line.length ≤ 1000000000) (hbl : d.body.length ≤ 1073741824) (hm : 0 ≤ d.most ∧ d.most ≤ 9223372036854775807) (hQ : Q (.int .i64 (sizeD d b).2) (H.set i (sizeD d b).1.av)) : PC Tryd.prog E 56 [.ptr (some (i, 0)), .int .u8 (b.toNat : Int)] H Q := by
  have hlt := dec_lt H i d hd
  refine pc_enter Tryd.func56 rfl [14] [] (by kernel_rfl) (fun hB => ?_)
  have m1 : d.line.length + 1 ≤ maxLen := by unfold maxLen; omega
  have m2 : d.line.length + 1 ≤ 140737488355328 := by omega
  simp [Dec.av] at hd
  by_cases hb : b = 10
  · subst hb
    have e0 : sizeD d 10 = (match endL (d.line ++ [10]) with
      | none => ({ d with line := [] }, 100)
      | some s => if (sizeAns s).2.2 ≠ 0 then ({ d with line := [] }, (sizeAns s).2.2)
        else if d.most - d.body.length < (sizeAns s).1 then ({ d with line := [] }, 102)
        else if (sizeAns s).1 = 0 then ({ d with line := [], st := .trailer }, 0)
        else ({ d with line := [], left := (sizeAns s).1, st := .data }, 0)) := rfl
    rw [e0] at hQ
    clear e0
    have hb10 : [AV.int .u8 10] = [AV.int .u8 ((10 : UInt8).toNat : Int)] := rfl
    have hsn : bts d.line ++ [[AV.int .u8 10]] = bts (d.line ++ [10]) := bts_snoc d.line 10
    simp [Tryd.ntmps56, Tryd.results56, List.replicate_succ, hd, hs0 hlt, hs1 hlt, hs2 hlt, hs3 hlt, hs4 hlt, hs5 hlt, m1, m2, hsn]
    refine ended_pc E _ _ i { d with line := d.line ++ [10] } (by rw [List.getElem?_set_self hlt]; rfl) (by simp; omega) ?_
    cases hend : endL (d.line ++ [10]) with
    | none =>
      rw [hend] at hQ
      simp
      exact aPost_set0 hB rfl (nilV_refl _) (({ d with line := [] } : Dec).bnd _) (by simp) hQ
    | some s =>
      rw [hend] at hQ
      simp only at hQ
      have hsl : s.length ≤ cap := by
        unfold endL at hend
        split at hend
        · cases hend
          rw [List.length_take, List.length_append]
          simp only [cap]; simp; omega
        · cases hend
      simp
      refine parseSize_pc E _ _ hE s hsl ?_
      by_cases he : (sizeAns s).2.2 = 0
      · rw [if_neg (by simpa using he)] at hQ
        have hrg := sizeAns_rng s he
        have hw : IntKind.i64.wrap (d.most - d.body.length) = d.most - d.body.length := wrap_in (by omega) (by omega)
        by_cases hmu : d.most - d.body.length < (sizeAns s).1
        · rw [if_pos hmu] at hQ
          simp [he, Dec.av, hs0 hlt, hs1 hlt, hs2 hlt, hs3 hlt, hs4 hlt, hs5 hlt, hw, hmu]
          exact aPost_set0 hB rfl (nilV_refl _) (({ d with line := [] } : Dec).bnd _) (by simp) hQ
        · rw [if_neg hmu] at hQ
          by_cases hz : (sizeAns s).1 = 0
          · rw [if_pos hz] at hQ
            rw [hz] at hmu
            simp [he, Dec.av, hs0 hlt, hs1 hlt, hs2 hlt, hs3 hlt, hs4 hlt, hs5 hlt, hw, hmu, hz]
            exact aPost_set0 hB rfl (nilV_refl _) (({ d with line := [], st := .trailer } : Dec).bnd _) (by simp) hQ
          · rw [if_neg hz] at hQ
            have hz2 : ((sizeAns s).1 == 0) = false := beq_eq_false_iff_ne.2 hz
            simp [he, Dec.av, hs0 hlt, hs1 hlt, hs2 hlt, hs3 hlt, hs4 hlt, hs5 hlt, hw, hmu, hz2]
            exact aPost_set0 hB rfl (nilV_refl _) (({ d with line := [], left := (sizeAns s).1, st := .data } : Dec).bnd _) (by simp) hQ
      · rw [if_pos (by simpa using he)] at hQ
        have he2 : ((sizeAns s).2.2 != 0) = true := by simpa using he
        simp [he2]
        exact aPost_set0 hB rfl (nilV_refl _) (({ d with line := [] } : Dec).bnd _) (by simp) hQ
  · have e0 : sizeD d b = ({ d with line := d.line ++ [b] }, if 256 ≤ (d.line ++ [b]).length then 100 else 0) := if_pos hb
    rw [e0] at hQ
    have hb2 : ((b.toNat : Int) == 10) = false := byte_ne b 10 (by decide) hb
    by_cases h256 : 256 ≤ (d.line ++ [b]).length
    · rw [if_pos h256] at hQ
      have h256' : (256 : Int) ≤ d.line.length + 1 := by simp at h256; omega
      simp [Tryd.ntmps56, Tryd.results56, List.replicate_succ, hd, hs0 hlt, hs1 hlt, hs2 hlt, hs3 hlt, hs4 hlt, hs5 hlt, m1, m2, bts_snoc, bne, hb2, h256']
      exact aPost_set0 hB rfl (nilV_refl _) (({ d with line := d.line ++ [b] } : Dec).bnd _) (by simp) hQ
    · rw [if_neg h256] at hQ
      have h256' : ¬ (256 : Int) ≤ d.line.length + 1 := by simp at h256; omega
      simp [Tryd.ntmps56, Tryd.results56, List.replicate_succ, hd, hs0 hlt, hs1 hlt, hs2 hlt, hs3 hlt, hs4 hlt, hs5 hlt, m1, m2, bts_snoc, bne, hb2, h256']
      exact aPost_set0 hB rfl (nilV_refl _) (({ d with line := d.line ++ [b] } : Dec).bnd _) (by simp) hQ
theorem trailer_pc (hE : SE E) (hl : d.line.length ≤ 1000000000) (htl : d.trailers.length ≤ 1073741824) (hsl : d.section_ ≤ 1073741824) (hQ : Q (.int .i64 (trailerD d b).2) (H.set i (trailerD d b).1.av)) : PC Tryd.prog E 86 [.ptr (some (i, 0)), .int .u8 (b.toNat : Int)] H Q := by
  have hlt := dec_lt H i d hd
  have hself : H.set i d.av = H := set_self hd
  refine pc_enter Tryd.func86 rfl [30, 78] [] (by kernel_rfl) (fun hB => ?_)
  have m1 : d.line.length + 1 ≤ maxLen := by unfold maxLen; omega
  have m2 : d.line.length + 1 ≤ 140737488355328 := by omega
  have m3 : d.trailers.length + 1 ≤ maxLen := by unfold maxLen; omega
  have m4 : (d.trailers.length + 1) * 32 ≤ 140737488355328 := by omega
  have hw : IntKind.i64.wrap ((d.section_ : Int) + 1) = ((d.section_ + 1 : Nat) : Int) := by rw [wrap_in (by omega) (by omega)]; omega
  simp [Dec.av] at hd
  by_cases hr : d.room ≤ d.section_
  · have e0 : trailerD d b = (d, 104) := if_pos hr
    rw [e0] at hQ
    simp only [hself] at hQ
    simp [Tryd.ntmps86, Tryd.results86, List.replicate_succ, hd, hs0 hlt, hs1 hlt, hs2 hlt, hs3 hlt, hs4 hlt, hs5 hlt, hr]
    exact aPost_same0 hB rfl (nilV_refl _) (by simp) hQ
  · by_cases hb : b = 10
    · subst hb
      have e0 : trailerD d 10 = (match endL (d.line ++ [10]) with
        | none => ({ d with section_ := d.section_ + 1, line := [] }, 101)
        | some s => if s = [] then ({ d with section_ := d.section_ + 1, line := [], done := true }, 0)
          else if d.fields ≤ d.trailers.length then ({ d with section_ := d.section_ + 1, line := [] }, 104)
          else match lineF s with
            | none => ({ d with section_ := d.section_ + 1, line := [] }, 101)
            | some f => if mayB f.name = true then ({ d with section_ := d.section_ + 1, line := [], trailers := d.trailers ++ [f] }, 0) else ({ d with section_ := d.section_ + 1, line := [] }, 101)) := by
        unfold trailerD
        rw [if_neg hr]; rfl
      rw [e0] at hQ
      clear e0
      have hsn : bts d.line ++ [[AV.int .u8 10]] = bts (d.line ++ [10]) := bts_snoc d.line 10
      simp [Tryd.ntmps86, Tryd.results86, List.replicate_succ, hd, hs0 hlt, hs1 hlt, hs2 hlt, hs3 hlt, hs4 hlt, hs5 hlt, hr, m1, m2, hsn, hw, -Int.natCast_add]
      refine ended_pc E _ _ i { d with line := d.line ++ [10], section_ := d.section_ + 1 } (by rw [List.getElem?_set_self hlt]; rfl) (by simp; omega) ?_
      cases hend : endL (d.line ++ [10]) with
      | none =>
        rw [hend] at hQ
        simp
        exact aPost_set0 hB rfl (nilV_refl _) (({ d with section_ := d.section_ + 1, line := [] } : Dec).bnd _) (by simp) hQ
      | some s =>
        rw [hend] at hQ
        simp only at hQ
        have hsl : s.length ≤ cap := by
          unfold endL at hend
          split at hend
          · cases hend
            rw [List.length_take, List.length_append]
            simp only [cap]; simp; omega
          · cases hend
        by_cases hse : s = []
        · rw [if_pos hse] at hQ
          subst hse
          simp [Dec.av, hs0 hlt, hs1 hlt, hs2 hlt, hs3 hlt, hs4 hlt, hs5 hlt]
          exact aPost_set0 hB rfl (nilV_refl _) (({ d with section_ := d.section_ + 1, line := [], done := true } : Dec).bnd _) (by simp) hQ
        · rw [if_neg hse] at hQ
          have hs02 : (s == []) = false := beq_eq_false_iff_ne.2 hse
          by_cases hf : d.fields ≤ d.trailers.length
          · rw [if_pos hf] at hQ
            simp [Dec.av, hs0 hlt, hs1 hlt, hs2 hlt, hs3 hlt, hs4 hlt, hs5 hlt, hs02, hf]
            exact aPost_set0 hB rfl (nilV_refl _) (({ d with section_ := d.section_ + 1, line := [] } : Dec).bnd _) (by simp) hQ
          · rw [if_neg hf] at hQ
            simp [Dec.av, hs0 hlt, hs1 hlt, hs2 hlt, hs3 hlt, hs4 hlt, hs5 hlt, hs02, hf]
            refine parseLine_pc E _ _ hE s hsl (fun f hlf => ?_) (fun hlf pl e he => ?_)
            · rw [hlf] at hQ
              simp only at hQ
              have hfn : f.name.length ≤ cap := by
                unfold lineF at hlf
                split at hlf
                · cases hlf
                  simp only [List.length_take]; omega
                · cases hlf
              simp
              refine mayTrail_pc E _ _ hE f.name hfn ?_
              cases hmt : mayB f.name with
              | true =>
                rw [if_pos hmt] at hQ
                simp [hs0 hlt, hs1 hlt, hs2 hlt, hs3 hlt, hs4 hlt, hs5 hlt, m3, m4, flds_snoc]
                exact aPost_set hB rfl (nilV_refl _) (({ d with section_ := d.section_ + 1, line := [], trailers := d.trailers ++ [f] } : Dec).bnd _) (by simp) hQ
              | false =>
                rw [if_neg (by rw [hmt]; simp)] at hQ
                simp
                exact aPost_set hB rfl (nilV_refl _) (({ d with section_ := d.section_ + 1, line := [] } : Dec).bnd _) (by simp) hQ
            · rw [hlf] at hQ
              have he2 : (e != 0) = true := by simpa using he
              simp [he2]
              exact aPost_set hB rfl (nilV_refl _) (({ d with section_ := d.section_ + 1, line := [] } : Dec).bnd _) (by simp) hQ
    · have e0 : trailerD d b = ({ d with section_ := d.section_ + 1, line := d.line ++ [b] }, 0) := by unfold trailerD; rw [if_neg hr, if_pos hb]
      rw [e0] at hQ
      have hb2 : ((b.toNat : Int) == 10) = false := byte_ne b 10 (by decide) hb
      simp [Tryd.ntmps86, Tryd.results86, List.replicate_succ, hd, hs0 hlt, hs1 hlt, hs2 hlt, hs3 hlt, hs4 hlt, hs5 hlt, hr, m1, m2, bts_snoc, bne, hb2, hw, -Int.natCast_add]
      exact aPost_set0 hB rfl (nilV_refl _) (({ d with section_ := d.section_ + 1, line := d.line ++ [b] } : Dec).bnd _) (by simp) hQ
end
end Go.Proofs.YtimhofphmgehgaaDoor
