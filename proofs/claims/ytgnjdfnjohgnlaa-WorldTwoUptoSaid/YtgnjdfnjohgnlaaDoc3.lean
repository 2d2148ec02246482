/- The document's world: Write, Do. -/
import Derived.Test.YtgnjdfnjohgnlaaDoc2
set_option linter.unusedVariables false
set_option linter.unusedSimpArgs false
set_option linter.unusedSectionVars false
set_option maxRecDepth 100000
namespace Go.Proofs.Ytgnjdfnjohgnlaa
open Go Go.RowKit

theorem dRows_app (ms : List Cn) (m : Cn) : dRows ms ++ [dRow m] = dRows (ms ++ [m]) := by simp [dRows, rcs]; rfl
section
variable (E : Env) (H : Hp) (nb : Bool) (ms : List Cn) (Q : AV → Hp → Prop) (hl : ms.length ≤ 4096) (hnb : nb = true → ms = [])
include hl hnb
set_option maxHeartbeats 1000000 in
theorem dwrite_pc (n : Int) (s : List UInt8) (hsl : ∀ (i : Nat) m, n = i → ms[i]? = some m → m.tak.length + s.length ≤ 140737488355328) (hok : ∀ (i : Nat) m, n = i → ms[i]? = some m → m.ok)
    (hQ : Q (.tup [dW nb (mWrite ms n s).1, .int .i64 (mWrite ms n s).2.1, .int .i64 (mWrite ms n s).2.2]) H) :
    PC Try.prog E 39 [dW nb ms, .int .i64 n, .str s] H Q := by
  refine pc_enter Try.func39 rfl [] [] (by kernel_rfl) (fun hB => ?_)
  simp [Try.ntmps39, Try.results39, List.replicate_succ, dW]
  refine dserved_pc E _ nb ms _ hl n hnb (fun hs => ?_) (fun i m hi hm hs => ?_)
  · have e : mWrite ms n s = (ms, 0, mServed ms n) := by unfold mWrite; rw [mLive_served hs, if_neg hs]
    rw [e] at hQ
    have hb : (mServed ms n != 0) = true := by simp [hs]
    simp [hb]
    exact aPost_same hB (by simp [dW]) (nilV_refl _) (by simp) hQ
  · subst hi
    have hlt := (List.getElem?_eq_some_iff.1 hm).1
    have hat := dRows_at hm
    unfold dRow at hat
    have hv := mLive_at hm hs
    replace hsl := hsl i m rfl hm
    obtain ⟨o1, o2, o3, o4, o5⟩ := hok i m rfl hm
    cases hr : m.rst <;> rw [hr] at hat hv <;> simp at hv
    · have e : mWrite ms i s = (ms.set i (cWrite m s).1, (cWrite m s).2) := by unfold mWrite; rw [if_pos hv, Int.toNat_natCast, hm]
      rw [e] at hQ
      by_cases k1 : m.wg = 0
      · have e1 : cWrite m s = (m, 0, 244) := by simp [cWrite, k1]
        rw [e1] at hQ
        simp only [set_sameL hm] at hQ
        rw [k1] at hat
        simp [hat]
        exact aPost_same hB (by simp [dW]) (nilV_refl _) (by simp) hQ
      · have k1' : (m.wg == 0) = false := by simp [k1]
        by_cases k2 : s = []
        · subst k2
          have e1 : cWrite m [] = (m, 0, 244) := by simp [cWrite]
          rw [e1] at hQ
          simp only [set_sameL hm] at hQ
          simp [hat, k1']
          exact aPost_same hB (by simp [dW]) (nilV_refl _) (by simp) hQ
        · have k2' : (s == []) = false := by simp [k2]
          have k2'' : s.isEmpty = false := by simp [k2]
          obtain ⟨g, hg⟩ : ∃ g : Nat, m.wg = g := ⟨m.wg.toNat, by omega⟩
          have e : s.take m.wg.toNat = s.take g := by rw [hg]; rfl
          have e1 : cWrite m s = ({ m with wg := 0, tak := m.tak ++ s.take g }, (s.take g).length, 0) := by simp [cWrite, k1, k2, e]
          rw [e1] at hQ
          rw [hg] at hat
          replace k1' : ((g : Int) == 0) = false := by simp; omega
          have hm1 : m.tak.length + (s.take g).length ≤ maxLen := by unfold maxLen; have := List.length_take_le' g s; omega
          by_cases k3 : s.length < g
          · have e3 : s.take g = s := List.take_of_length_le (by omega)
            rw [e3] at hm1 hQ
            simp [hat, k1', k2', k2'', k3, hm1]
            refine withr_pc E _ _ nb ms hl i hlt { m with wg := 0, tak := m.tak ++ s } (by simp [dRow, hr]) ?_
            simp [dW]
            exact aPost_same hB (by simp [dW]) (nilV_refl _) (by simp) hQ
          · have hl3 : (s.take g).length = g := by rw [List.length_take]; omega
            have hgl : g ≤ s.length := by omega
            rw [hl3] at hm1 hQ
            have hmin : min g s.length = g := by omega
            simp [hat, k1', k2', k2'', k3, hm1, hgl, hmin]
            refine withr_pc E _ _ nb ms hl i hlt { m with wg := 0, tak := m.tak ++ s.take g } (by simp [dRow, hr]) ?_
            simp [dW]
            exact aPost_same hB (by simp [dW]) (nilV_refl _) (by simp) hQ
    · have e : mWrite ms i s = (ms, 0, 243) := by unfold mWrite; rw [hv]; rfl
      rw [e] at hQ
      simp [hat]
      exact aPost_same hB (by simp [dW]) (nilV_refl _) (by simp) hQ
set_option maxHeartbeats 2000000 in
theorem ddo_pc (k n i : Int) (d : List UInt8) (hsz : ∀ (j : Nat) m, n = j → ms[j]? = some m → m.del.length + d.length ≤ 140737488355328)
    (hQ : Q (.tup [dW nb (mDo nb ms k n i d).1, .int .i64 (mDo nb ms k n i d).2]) H) :
    PC Try.prog E 33 [dW nb ms, evA k n i d] H Q := by
  cases nb with
  | true =>
    refine pc_enter Try.func33 rfl [27, 30] [] (by kernel_rfl) (fun hB => ?_)
    simp [Try.ntmps33, Try.results33, List.replicate_succ, dW, evA]
    have e : mDo true ms k n i d = (ms, 240) := by simp [mDo]
    rw [e] at hQ
    exact aPost_same hB (by simp [dW]) (nilV_refl _) (by simp) hQ
  | false =>
    by_cases hk : 1 ≤ k ∧ k ≤ 6
    rotate_left
    · have e : mDo false ms k n i d = (ms, 241) := by simp [mDo, hk]
      rw [e] at hQ
      refine pc_enter Try.func33 rfl [27, 30] [] (by kernel_rfl) (fun hB => ?_)
      by_cases h1 : k < 1
      · simp [Try.ntmps33, Try.results33, List.replicate_succ, dW, evA, h1]
        exact aPost_same hB (by simp [dW]) (nilV_refl _) (by simp) hQ
      · have h2 : 6 < k := by omega
        simp [Try.ntmps33, Try.results33, List.replicate_succ, dW, evA, h1, h2]
        exact aPost_same hB (by simp [dW]) (nilV_refl _) (by simp) hQ
    have h1 : ¬ k < 1 := by omega
    have h2 : ¬ 6 < k := by omega
    by_cases hk1 : k = 1
    · subst hk1
      by_cases hf : ms.length = 4096
      · have e : mDo false ms 1 n i d = (ms, 65) := by simp [mDo, hf]
        rw [e] at hQ
        refine pc_enter Try.func33 rfl [27, 30] [] (by kernel_rfl) (fun hB => ?_)
        simp [Try.ntmps33, Try.results33, List.replicate_succ, dW, evA, hf]
        exact aPost_same hB (by simp [dW]) (nilV_refl _) (by simp) hQ
      · have e : mDo false ms 1 n i d = (ms ++ [Cn.new], 0) := by simp [mDo, hf]
        rw [e] at hQ
        refine pc_enter Try.func33 rfl [27, 30] [] (by kernel_rfl) (fun hB => ?_)
        have hf' : ¬ (4096 : Int) ≤ ms.length := by omega
        have hm1 : ms.length ≤ maxLen := by unfold maxLen; omega
        have hm2 : ms.length + 1 ≤ maxLen := by unfold maxLen; omega
        have hm3 : ms.length * 64 ≤ 140737488355328 := by omega
        have hm4 : (ms.length + 1) * 64 ≤ 140737488355328 := by omega
        simp [Try.ntmps33, Try.results33, List.replicate_succ, dW, evA, hf', hm1, hm2, hm3, hm4]
        exact aPost_same hB (by simp [dW, ← dRows_app, dRow, Cn.new]) (nilV_refl _) (by simp) hQ
    · have hk1' : (k == 1) = false := by simp [hk1]
      refine pc_enter Try.func33 rfl [27, 30] [] (by kernel_rfl) (fun hB => ?_)
      simp [Try.ntmps33, Try.results33, List.replicate_succ, dW, evA, h1, h2, hk1']
      refine there_pc E _ false ms _ hl n ?_
      by_cases ht : dThere false ms n = true
      rotate_left
      · have hn : ¬ (0 ≤ n ∧ n < ms.length) := fun h => ht (by simp [dThere, h])
        have e : mDo false ms k n i d = (ms, 240) := by simp [mDo, hk, hk1, hn]
        rw [e] at hQ
        have ht' : dThere false ms n = false := by simpa using ht
        simp [ht']
        exact aPost_same hB (by simp [dW]) (nilV_refl _) (by simp) hQ
      · have hn : 0 ≤ n ∧ n < ms.length := by simpa [dThere] using ht
        obtain ⟨j, rfl⟩ : ∃ j : Nat, n = j := ⟨n.toNat, by omega⟩
        obtain ⟨m, hm⟩ : ∃ m, ms[j]? = some m := ⟨_, List.getElem?_eq_getElem (by omega)⟩
        have hlt := (List.getElem?_eq_some_iff.1 hm).1
        have hat := dRows_at hm
        unfold dRow at hat
        have hsz' := hsz j m rfl hm
        have e : mDo false ms k j i d = match cEvent m k i d with
          | some m' => (ms.set j m', 0)
          | none => (ms, 241) := by
          simp only [mDo, Bool.false_eq_true, if_false, hk, not_true_eq_false, hk1, hn, and_self, if_true, Int.toNat_natCast, hm]
          cases cEvent m k i d <;> rfl
        by_cases hrc : m.rst = true ∨ m.cls = true
        · have e2 : cEvent m k i d = none := by simp [cEvent, hrc]
          rw [e2] at e
          rw [e] at hQ
          cases hr : m.rst
          · have hc : m.cls = true := by simpa [hr] using hrc
            rw [hr, hc] at hat
            simp [ht, hat]
            exact aPost_same hB (by simp [dW]) (nilV_refl _) (by simp) hQ
          · rw [hr] at hat
            simp [ht, hat]
            exact aPost_same hB (by simp [dW]) (nilV_refl _) (by simp) hQ
        · have hr : m.rst = false := by simp at hrc; exact hrc.1
          have hc : m.cls = false := by simp at hrc; exact hrc.2
          rw [hr, hc] at hat
          have hmx : m.del.length + d.length ≤ maxLen := by unfold maxLen; omega
          rcases (by omega : k = 2 ∨ k = 3 ∨ k = 4 ∨ k = 5 ∨ k = 6) with rfl | rfl | rfl | rfl | rfl
          · cases he : m.ended
            · rw [he] at hat
              have e2 : cEvent m 2 i d = some { m with del := m.del ++ d } := by simp [cEvent, hr, hc, he]
              rw [e2] at e
              rw [e] at hQ
              simp [ht, hat, hmx]
              refine withr_pc E _ _ false ms hl j hlt { m with del := m.del ++ d } (by simp [dRow, hr, hc, he]) ?_
              simp [dW]
              exact aPost_same hB (by simp [dW]) (nilV_refl _) (by simp) hQ
            · rw [he] at hat
              have e2 : cEvent m 2 i d = none := by simp [cEvent, hr, hc, he]
              rw [e2] at e
              rw [e] at hQ
              simp [ht, hat]
              exact aPost_same hB (by simp [dW]) (nilV_refl _) (by simp) hQ
          · cases he : m.ended
            · rw [he] at hat
              have e2 : cEvent m 3 i d = some { m with ended := true } := by simp [cEvent, hr, hc, he]
              rw [e2] at e
              rw [e] at hQ
              simp [ht, hat]
              refine withr_pc E _ _ false ms hl j hlt { m with ended := true } (by simp [dRow, hr, hc, he]) ?_
              simp [dW]
              exact aPost_same hB (by simp [dW]) (nilV_refl _) (by simp) hQ
            · rw [he] at hat
              have e2 : cEvent m 3 i d = none := by simp [cEvent, hr, hc, he]
              rw [e2] at e
              rw [e] at hQ
              simp [ht, hat]
              exact aPost_same hB (by simp [dW]) (nilV_refl _) (by simp) hQ
          · have e2 : cEvent m 4 i d = some { m with rst := true } := by simp [cEvent, hr, hc]
            rw [e2] at e
            rw [e] at hQ
            simp [ht, hat]
            refine withr_pc E _ _ false ms hl j hlt { m with rst := true } (by simp [dRow, hr, hc]) ?_
            simp [dW]
            exact aPost_same hB (by simp [dW]) (nilV_refl _) (by simp) hQ
          · by_cases hi : i < 1
            · have e2 : cEvent m 5 i d = none := by simp [cEvent, hr, hc, hi]
              rw [e2] at e
              rw [e] at hQ
              simp [ht, hat, hi]
              exact aPost_same hB (by simp [dW]) (nilV_refl _) (by simp) hQ
            · have e2 : cEvent m 5 i d = some { m with rg := i } := by simp [cEvent, hr, hc, hi]
              rw [e2] at e
              rw [e] at hQ
              simp [ht, hat, hi]
              refine withr_pc E _ _ false ms hl j hlt { m with rg := i } (by simp [dRow, hr, hc]) ?_
              simp [dW]
              exact aPost_same hB (by simp [dW]) (nilV_refl _) (by simp) hQ
          · by_cases hi : i < 1
            · have e2 : cEvent m 6 i d = none := by simp [cEvent, hr, hc, hi]
              rw [e2] at e
              rw [e] at hQ
              simp [ht, hat, hi]
              exact aPost_same hB (by simp [dW]) (nilV_refl _) (by simp) hQ
            · have e2 : cEvent m 6 i d = some { m with wg := i } := by simp [cEvent, hr, hc, hi]
              rw [e2] at e
              rw [e] at hQ
              simp [ht, hat, hi]
              refine withr_pc E _ _ false ms hl j hlt { m with wg := i } (by simp [dRow, hr, hc]) ?_
              simp [dW]
              exact aPost_same hB (by simp [dW]) (nilV_refl _) (by simp) hQ
end
end Go.Proofs.Ytgnjdfnjohgnlaa
