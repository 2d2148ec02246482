/- The laws' own functions: looked. -/
import Derived.Test.YtgnjdfnjohgnlaaDoc6
set_option linter.unusedVariables false
set_option linter.unusedSimpArgs false
set_option linter.unusedSectionVars false
set_option maxRecDepth 100000
namespace Go.Proofs.Ytgnjdfnjohgnlaa
open Go Go.RowKit

theorem zero_row : [AV.str [], .str [], .int .i64 0, .bool false, .bool false, .bool false, .bool false, .bool false, .bool false, .int .i64 0, .int .i64 0] = dRow Cn.new := rfl
section
variable (E : Env) (H : Hp) (w : Option Nat) (cs : List Nat) (ms : List Cn) (Q : AV → Hp → Prop) (hw : WO H w cs ms) (hl : ms.length ≤ 4096)
include hw hl
set_option maxHeartbeats 4000000 in
theorem looked_pc (o : OpA) (hQ : Q (.bool true) H) : PC Try.prog E 41 [wpt w, dW w.isNone ms, .agg o.av] H Q := by
  refine pc_enterL (fun i => H.length ≤ i) Try.func41 rfl [] [(6, [0, 0, 0, 2, 0, 2, 0, 0, 0, 0, 0, 2, 0, 2])] (by kernel_rfl) (fun E' hE hB => ?_)
  have hnone : w.isNone = true → ms = [] := fun h => by cases w with | none => exact hw.2 | some w => cases h
  obtain ⟨kk, hkk⟩ : ∃ m : Nat, o.kind % 11 = m := ⟨(o.kind % 11).toNat, by omega⟩
  by_cases hin : 0 ≤ o.conn ∧ o.conn < ms.length
  · have hnb : w.isNone = false := by
      cases hb : w.isNone
      · rfl
      · rw [hnone hb] at hin; simp at hin; omega
    obtain ⟨j, hj⟩ : ∃ j : Nat, o.conn = j := ⟨o.conn.toNat, by omega⟩
    obtain ⟨m, hm⟩ : ∃ m, ms[j]? = some m := ⟨_, List.getElem?_eq_getElem (by omega)⟩
    have hjl : j < ms.length := by omega
    have hat := dRows_at hm
    unfold dRow at hat
    rw [hnb]
    simp [Try.ntmps41, Try.results41, List.replicate_succ, dW, OpA.av, hj, hjl, hat]
    refine kind_pc E' _ _ o.kind 11 (by omega) ?_
    rw [hkk]
    simp only [Kcall_eq, KP_false, true_and]
    by_cases h10 : kk = 10
    · subst h10
      simp
      refine delivered_pc E' _ w cs ms _ _ (hw.app2 _) hl (fun hn => absurd hn (by omega)) (fun j' m' hj' hm' => ?_)
      obtain rfl : j = j' := by omega
      rw [hm] at hm'; cases hm'
      simp [hE]
      refine taken_pc E' _ w cs ms _ _ (hw.app2 _) hl (fun hn => absurd hn (by omega)) (fun j' m' hj' hm' => ?_)
      obtain rfl : j = j' := by omega
      rw [hm] at hm'; cases hm'
      simp [hE]
      exact aPost_same hB rfl (nilV_refl _) (by simp) hQ
    · have h10' : ((kk : Int) == 10) = false := by simp; omega
      simp [h10']
      refine line_pc E' _ w cs ms _ _ (hw.app2 _) hl (fun hn => absurd hn (by omega)) (fun j' m' hj' hm' => ?_)
      obtain rfl : j = j' := by omega
      rw [hm] at hm'; cases hm'
      simp [Cn.line]
      refine sameLine_pc E' _ _ m ?_
      simp
      exact aPost_same hB rfl (nilV_refl _) (by simp) hQ
  · have hcond : w.isNone = true ∨ (w.isNone = false ∧ ¬ 0 ≤ o.conn) ∨ (w.isNone = false ∧ 0 ≤ o.conn ∧ ¬ o.conn < ms.length) := by
      cases w.isNone <;> simp <;> omega
    have hgo : ∀ (K : List AV → Hp → Prop), True := fun _ => trivial
    rcases hcond with hc | ⟨hc, hc2⟩ | ⟨hc, hc2, hc3⟩
    case' inl => rw [hc]; simp [Try.ntmps41, Try.results41, List.replicate_succ, dW, OpA.av]
    case' inr.inl => rw [hc]; simp [Try.ntmps41, Try.results41, List.replicate_succ, dW, OpA.av, hc2]
    case' inr.inr => rw [hc]; simp [Try.ntmps41, Try.results41, List.replicate_succ, dW, OpA.av, hc2, hc3]
    all_goals
      refine kind_pc E' _ _ o.kind 11 (by omega) ?_
      rw [hkk]
      simp only [Kcall_eq, KP_false, true_and]
      by_cases h10 : kk = 10
      · subst h10
        simp
        refine delivered_pc E' _ w cs ms _ _ (hw.app2 _) hl (fun hn => ?_) (fun j' m' hj' hm' => absurd (List.getElem?_eq_some_iff.1 hm').1 (by omega))
        simp [hE]
        refine taken_pc E' _ w cs ms _ _ (hw.app2 _) hl (fun hn => ?_) (fun j' m' hj' hm' => absurd (List.getElem?_eq_some_iff.1 hm').1 (by omega))
        simp [hE]
        exact aPost_same hB rfl (nilV_refl _) (by simp) hQ
      · have h10' : ((kk : Int) == 10) = false := by simp; omega
        simp [h10']
        refine line_pc E' _ w cs ms _ _ (hw.app2 _) hl (fun hn => ?_) (fun j' m' hj' hm' => absurd (List.getElem?_eq_some_iff.1 hm').1 (by omega))
        simp [Cn.line]
        rw [zero_row]
        refine sameLine_pc E' _ _ Cn.new ?_
        simp
        exact aPost_same hB rfl (nilV_refl _) (by simp) hQ
end
end Go.Proofs.Ytgnjdfnjohgnlaa
