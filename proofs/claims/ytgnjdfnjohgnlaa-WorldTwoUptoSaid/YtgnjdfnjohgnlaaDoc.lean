/- The document's world. -/
import Derived.Test.YtgnjdfnjohgnlaaWith
set_option linter.unusedVariables false
set_option linter.unusedSimpArgs false
set_option linter.unusedSectionVars false
set_option maxRecDepth 100000
namespace Go.Proofs.Ytgnjdfnjohgnlaa
open Go Go.RowKit

def rcOf (m : Cn) : RC := ⟨m.del, m.tak, m.rd, m.acc, m.ended, m.rst, m.cls, m.ri, m.wi, m.rg, m.wg⟩
def dRows (ms : List Cn) : List (List AV) := rcs (ms.map rcOf)
def dW (nb : Bool) (ms : List Cn) : AV := .agg [.bool nb, .sl false 11 (dRows ms)]
def dRow (m : Cn) : List AV := [.str m.del, .str m.tak, .int .i64 m.rd, .bool m.acc, .bool m.ended, .bool m.rst, .bool m.cls, .bool m.ri, .bool m.wi, .int .i64 m.rg, .int .i64 m.wg]
@[simp] theorem dRows_len (ms : List Cn) : (dRows ms).length = ms.length := by simp [dRows, rcs]
theorem dRows_at {ms : List Cn} {i : Nat} {m : Cn} (h : ms[i]? = some m) : lat (dRows ms) i = some (dRow m) := by simp [lat, dRows, rcs, h]; rfl
theorem dW_bnd (N : Nat) (nb : Bool) (ms : List Cn) : Bnd N (.sl false 11 (dRows ms)) := .sl _ _ _ (rcs_bnd _ _)
@[simp] theorem dRows_bnd (N : Nat) (ms : List Cn) : (∀ r ∈ dRows ms, ∀ x ∈ r, Bnd N x) = True := eq_true (rcs_bnd _ _)
theorem withm_pc (E : Env) (H : Hp) (Q : AV → Hp → Prop) (nb : Bool) (ms : List Cn) (hl : ms.length ≤ 4096) (i : Nat) (hi : i < ms.length) (m : Cn) (hQ : Q (dW nb (ms.set i m)) H) :
    PC Try.prog E 48 [.agg [.bool nb, .sl false 11 (dRows ms)], .int .i64 i, .agg (dRow m)] H Q :=
  with_pc E H Q nb (ms.map rcOf) (by simpa using hl) i (by simpa using hi) (rcOf m) (by rw [← List.map_set]; exact hQ)
section
variable (E : Env) (H : Hp) (nb : Bool) (ms : List Cn) (Q : AV → Hp → Prop) (hl : ms.length ≤ 4096)
include hl
def dThere (nb : Bool) (ms : List Cn) (n : Int) : Bool := !nb && decide (0 ≤ n) && decide (n < ms.length)
theorem there_pc (n : Int) (hQ : Q (.bool (dThere nb ms n)) H) : PC Try.prog E 47 [dW nb ms, .int .i64 n] H Q := by
  refine pc_enter Try.func47 rfl [] [] (by kernel_rfl) (fun hB => ?_)
  cases nb
  · by_cases h0 : 0 ≤ n
    · by_cases h1 : n < ms.length
      · simp [Try.ntmps47, Try.results47, List.replicate_succ, dW, h0, h1]
        rw [show dThere false ms n = true by simp [dThere, h0, h1]] at hQ
        exact aPost_same hB rfl (nilV_refl _) (by simp) hQ
      · simp [Try.ntmps47, Try.results47, List.replicate_succ, dW, h0, h1]
        rw [show dThere false ms n = false by simp [dThere, h0, h1]] at hQ
        exact aPost_same hB rfl (nilV_refl _) (by simp) hQ
    · simp [Try.ntmps47, Try.results47, List.replicate_succ, dW, h0]
      rw [show dThere false ms n = false by simp [dThere, h0]] at hQ
      exact aPost_same hB rfl (nilV_refl _) (by simp) hQ
  · simp [Try.ntmps47, Try.results47, List.replicate_succ, dW]
    exact aPost_same hB rfl (nilV_refl _) (by simp) hQ
/-- What a call that names a connection asks first; where it goes on: the connection. -/
theorem dserved_pc (n : Int) (hnb : nb = true → ms = []) (h0 : mServed ms n ≠ 0 → Q (.int .i64 (mServed ms n)) H) (h1 : ∀ (i : Nat) m, n = i → ms[i]? = some m → mServed ms n = 0 → Q (.int .i64 0) H) :
    PC Try.prog E 49 [dW nb ms, .int .i64 n] H Q := by
  refine pc_enter Try.func49 rfl [] [] (by kernel_rfl) (fun hB => ?_)
  simp [Try.ntmps49, Try.results49, List.replicate_succ, dW]
  refine there_pc E _ nb ms _ hl n ?_
  by_cases ht : dThere nb ms n = true
  · have hn : nb = false ∧ 0 ≤ n ∧ n < ms.length := by simpa [dThere, and_assoc] using ht
    obtain ⟨hn0, hn1, hn2⟩ := hn
    obtain ⟨i, rfl⟩ : ∃ i : Nat, n = i := ⟨n.toNat, by omega⟩
    obtain ⟨m, hm⟩ : ∃ m, ms[i]? = some m := ⟨_, List.getElem?_eq_getElem (by omega)⟩
    have hat := dRows_at hm
    unfold dRow at hat
    have hs := mServed_nat hm
    cases ha : m.acc <;> rw [ha] at hat hs
    · simp [ht, hat]
      simp at hs
      have := h0 (by rw [hs]; omega)
      rw [hs] at this
      exact aPost_same hB rfl (nilV_refl _) (by simp) this
    · cases hc : m.cls <;> rw [hc] at hat hs
      · simp [ht, hat]
        simp at hs
        exact aPost_same hB rfl (nilV_refl _) (by simp) (h1 i m rfl hm hs)
      · simp [ht, hat]
        simp at hs
        have := h0 (by rw [hs]; omega)
        rw [hs] at this
        exact aPost_same hB rfl (nilV_refl _) (by simp) this
  · have hs : mServed ms n = 240 := by
      cases nb with
      | true => rw [hnb rfl]; simp [mServed]
      | false =>
        have : ¬ (0 ≤ n ∧ n < ms.length) := fun h => ht (by simp [dThere, h])
        unfold mServed; rw [if_neg this]
    have ht' : dThere nb ms n = false := by simpa using ht
    simp [ht']
    have := h0 (by rw [hs]; omega)
    rw [hs] at this
    exact aPost_same hB rfl (nilV_refl _) (by simp) this
end
end Go.Proofs.Ytgnjdfnjohgnlaa
