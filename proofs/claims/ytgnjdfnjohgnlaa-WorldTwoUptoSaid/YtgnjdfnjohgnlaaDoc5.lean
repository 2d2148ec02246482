/- The document's world: Poll. -/
import Derived.Test.YtgnjdfnjohgnlaaDoc4
set_option linter.unusedVariables false
set_option linter.unusedSimpArgs false
set_option linter.unusedSectionVars false
set_option maxRecDepth 100000
namespace Go.Proofs.Ytgnjdfnjohgnlaa
open Go Go.RowKit

section
variable (E : Env) (H : Hp) (nb : Bool) (ms : List Cn) (Q : AV → Hp → Prop) (hl : ms.length ≤ 4096)
include hl
def dpI (R0 : List (List AV)) (H : Hp) (ms : List Cn) (fr : List AV) (H' : Hp) : Prop := ∃ J, H' = H ++ J ∧ ∃ i : Nat, i ≤ ms.length ∧ ∃ rows, rows = R0 ++ rdyTo ms i ∧
  ∃ x : Nat → AV, fr = [x 0, x 1, x 2, .sl true 5 rows, x 4, x 5, x 6, x 7, x 8, x 9, x 10, x 11, x 12, x 13, x 14, x 15, x 16, x 17, x 18, x 19, x 20, .sl false 11 (dRows ms), .int .i64 ms.length, .int .i64 i, x 24, x 25, x 26, x 27, x 28, x 29, x 30, x 31, x 32, x 33, x 34, x 35, x 36, x 37, x 38, x 39, x 40, x 41, x 42, x 43, x 44, x 45, x 46, x 47, x 48, x 49, x 50, x 51, x 52, x 53, x 54, x 55, x 56, x 57, x 58, x 59, x 60, x 61, x 62, x 63, x 64, x 65, x 66, x 67, x 68, x 69, x 70, x 71, x 72, x 73]
set_option maxHeartbeats 8000000 in
theorem dpoll_pc (hQ : Q (.sl false 5 (mReady ms)) H) : PC Try.prog E 26 [dW nb ms] H Q := by
  refine pc_enter Try.func26 rfl [16, 68] [] (by kernel_rfl) (fun hB => ?_)
  simp [Try.ntmps26, Try.results26, List.replicate_succ, dW]
  refine dwaiting_pc E _ nb ms _ hl ?_
  have hm1 : 1 ≤ maxLen := by unfold maxLen; omega
  obtain ⟨R0, hR0, hR1, hR2⟩ : ∃ R0, mReady ms = R0 ++ rdyTo ms ms.length ∧ R0.length ≤ 1 ∧ ∀ r ∈ R0, ∀ x ∈ r, Bnd H.length x := ⟨_, rfl, by split <;> simp, by split <;> simp [rdyRow]⟩
  have e0 : R0 = if 0 < mCount ms ms.length then [rdyRow (-1) true false false false] else [] := by
    have : mReady ms = (if 0 < mCount ms ms.length then [rdyRow (-1) true false false false] else []) ++ rdyTo ms ms.length := rfl
    rw [hR0] at this; exact List.append_cancel_right this
  by_cases hc : 0 < mCount ms ms.length
  case' pos =>
    rw [if_pos hc] at e0
    simp [hc, hm1]
  case' neg =>
    rw [if_neg hc] at e0
    simp [hc]
    refine VL_nil 3 5 (by rfl) ?_
    simp only [List.set_cons_succ, List.set_cons_zero]
  all_goals
    refine VL_go (dpI R0 H ms) (fun fr _ => ms.length - (ai (aget fr 23)).toNat) ⟨_, rfl, 0, by omega, _, rfl, fr_intro (by simp [e0, rdyTo, rdyRow])⟩ ?_
    clear e0
    rintro fr H' ⟨J, rfl, i, hi, rows, hrows, x, rfl⟩
    by_cases h : i < ms.length
    · obtain ⟨m, hm⟩ : ∃ m, ms[i]? = some m := ⟨_, List.getElem?_eq_getElem h⟩
      have hat := dRows_at hm
      unfold dRow at hat
      have hw : IntKind.i64.wrap ((i : Int) + 1) = i + 1 := wrap_in (by omega) (by omega)
      have hstep : rdyTo ms (i + 1) = rdyTo ms i ++ rdy i m := by rw [rdyTo, hm]
      have hrl : rows.length ≤ i + 1 := by rw [hrows, List.length_append]; have := rdyTo_len ms i; omega
      have hm2 : rows.length + 1 ≤ maxLen := by unfold maxLen; omega
      have hm3 : (rows.length + 1) * 16 ≤ 140737488355328 := by omega
      cases ha : m.acc
      · rw [ha] at hat
        have hr : rdy i m = [] := by simp [rdy, ha]
        simp [h, hat, hw]
        refine Kloop_normal ?_ ?_
        rotate_left
        · simp; omega
        exact ⟨_, rfl, i + 1, by omega, rows, by rw [hstep, hr, List.append_nil]; exact hrows, fr_intro (by simp)⟩
      · cases hcl : m.cls
        rotate_left
        · rw [ha, hcl] at hat
          have hr : rdy i m = [] := by simp [rdy, hcl]
          simp [h, hat, hw]
          refine Kloop_normal ?_ ?_
          rotate_left
          · simp; omega
          exact ⟨_, rfl, i + 1, by omega, rows, by rw [hstep, hr, List.append_nil]; exact hrows, fr_intro (by simp)⟩
        · cases hrs : m.rst
          rotate_left
          · rw [ha, hcl, hrs] at hat
            have hr : rdy i m = [rdyRow i false false false true] := by simp [rdy, ha, hcl, hrs]
            simp [h, hat, hw, hm2, hm3]
            refine Kloop_normal ?_ ?_
            rotate_left
            · simp; omega
            exact ⟨_, rfl, i + 1, by omega, rows ++ rdy i m, by rw [hstep, ← List.append_assoc, ← hrows], fr_intro (by simp [hr, rdyRow])⟩
          · have key : ∀ (r wr : Bool), r = (m.ri && decide (0 < m.rg)) → wr = (m.wi && decide (0 < m.wg)) → rdy i m = if r || wr then [rdyRow i false r wr false] else [] := by
              rintro r wr rfl rfl
              unfold rdy
              rw [if_neg (by simp [ha, hcl]), hrs]
              simp
            rw [ha, hcl, hrs] at hat
            simp [h, hat, hw]
            cases hri : m.ri
            all_goals (rw [hri] at key; simp)
            all_goals (cases hwi : m.wi)
            all_goals (rw [hwi] at key; simp)
            all_goals (by_cases hg : 0 < m.rg <;> by_cases hg2 : 0 < m.wg)
            all_goals
              have hr := key _ _ rfl rfl
              simp [hg, hg2] at hr
              simp [hg, hg2, hm2, hm3, hw]
              refine Kloop_normal ?_ ?_
              rotate_left
              · simp; omega
              exact ⟨_, rfl, i + 1, by omega, rows ++ rdy i m, by rw [hstep, ← List.append_assoc, ← hrows], fr_intro (by simp [hr, rdyRow])⟩
    · simp [h]
      have : i = ms.length := by omega
      subst this
      rw [hR0, ← hrows] at hQ
      refine aPost_same hB rfl (nilV_refl _) ?_ hQ
      rw [hrows]
      refine .sl _ _ _ ?_
      intro r hr y hy
      rcases List.mem_append.1 hr with hr | hr
      · exact hR2 r hr y hy
      · exact rdyTo_bnd _ ms _ r hr y hy
end
end Go.Proofs.Ytgnjdfnjohgnlaa
