/- Part 6 of the texts below the law: the abstract machine, the functions that it walks, what they compute. -/
import Derived.Test.YtgnjdfnjohgnlaaWm5
import Derived.JoinedCond
set_option linter.unusedVariables false
set_option linter.unusedSimpArgs false
set_option linter.unusedSectionVars false
set_option maxRecDepth 100000
namespace Go.Proofs.Ytgnjdfnjohgnlaa
open Go Go.RowKit

@[simp] theorem bnd_dW (N : Nat) (nb : Bool) (ms : List Cn) : Bnd N (dW nb ms) := .agg _ (fun x hx => by simp at hx; rcases hx with rfl | rfl <;> simp)
theorem set_sameL {α : Type} {l : List α} {c : Nat} {x : α} (h : l[c]? = some x) : l.set c x = l := by
  refine List.ext_getElem? fun j => ?_
  by_cases hj : j = c
  · subst hj; rw [List.getElem?_set_self (List.getElem?_eq_some_iff.1 h).1, h]
  · rw [List.getElem?_set_ne (Ne.symm hj)]
theorem withr_pc (E : Env) (H : Hp) (Q : AV → Hp → Prop) (nb : Bool) (ms : List Cn) (hl : ms.length ≤ 4096) (i : Nat) (hi : i < ms.length) (m : Cn) {row : List AV} (hrow : row = dRow m) (hQ : Q (dW nb (ms.set i m)) H) :
    PC Try.prog E 48 [.agg [.bool nb, .sl false 11 (dRows ms)], .int .i64 i, .agg row] H Q := by
  subst hrow; exact withm_pc E H Q nb ms hl i hi m hQ
theorem mLive_served {ms : List Cn} {n : Int} (h : mServed ms n ≠ 0) : mLive ms n = mServed ms n := by unfold mLive; rw [if_neg h]
theorem mLive_at {ms : List Cn} {i : Nat} {m : Cn} (hm : ms[i]? = some m) (h : mServed ms i = 0) : mLive ms i = if m.rst then 243 else 0 := by unfold mLive; rw [if_pos h, Int.toNat_natCast, hm]
section
variable (E : Env) (H : Hp) (nb : Bool) (ms : List Cn) (Q : AV → Hp → Prop) (hl : ms.length ≤ 4096) (hnb : nb = true → ms = [])
include hl hnb
theorem dclose_pc (n : Int) (hQ : Q (.tup [dW nb (mClose ms n).1, .int .i64 (mClose ms n).2]) H) : PC Try.prog E 40 [dW nb ms, .int .i64 n] H Q := by
  refine pc_enter Try.func40 rfl [] [] (by kernel_rfl) (fun hB => ?_)
  simp [Try.ntmps40, Try.results40, List.replicate_succ, dW]
  refine dserved_pc E _ nb ms _ hl n hnb (fun hs => ?_) (fun i m hi hm hs => ?_)
  · have e : mClose ms n = (ms, mServed ms n) := by unfold mClose; rw [if_neg hs]
    rw [e] at hQ
    have hb : (mServed ms n != 0) = true := by simp [hs]
    simp [hb]
    exact aPost_same hB (by simp [dW]) (nilV_refl _) (by simp) hQ
  · subst hi
    have hlt := (List.getElem?_eq_some_iff.1 hm).1
    have e : mClose ms i = (ms.set i { m with cls := true, ri := false, wi := false, rg := 0, wg := 0 }, 0) := by unfold mClose; rw [if_pos hs, Int.toNat_natCast, hm]
    rw [e] at hQ
    have hat := dRows_at hm
    unfold dRow at hat
    simp [hat]
    refine withm_pc E _ _ nb ms hl i hlt { m with cls := true, ri := false, wi := false, rg := 0, wg := 0 } ?_
    simp [dW]
    exact aPost_same hB (by simp [dW]) (nilV_refl _) (by simp) hQ
theorem dinterest_pc (n : Int) (r w : Bool) (hQ : Q (.tup [dW nb (mInterest ms n r w).1, .int .i64 (mInterest ms n r w).2]) H) : PC Try.prog E 37 [dW nb ms, .int .i64 n, .bool r, .bool w] H Q := by
  refine pc_enter Try.func37 rfl [] [] (by kernel_rfl) (fun hB => ?_)
  simp [Try.ntmps37, Try.results37, List.replicate_succ, dW]
  refine dserved_pc E _ nb ms _ hl n hnb (fun hs => ?_) (fun i m hi hm hs => ?_)
  · have e : mInterest ms n r w = (ms, mServed ms n) := by unfold mInterest; rw [mLive_served hs, if_neg hs]
    rw [e] at hQ
    have hb : (mServed ms n != 0) = true := by simp [hs]
    simp [hb]
    exact aPost_same hB (by simp [dW]) (nilV_refl _) (by simp) hQ
  · subst hi
    have hlt := (List.getElem?_eq_some_iff.1 hm).1
    have hat := dRows_at hm
    unfold dRow at hat
    have hv := mLive_at hm hs
    cases hr : m.rst <;> rw [hr] at hat hv <;> simp at hv
    · have e : mInterest ms i r w = (ms.set i { m with ri := r, wi := w }, 0) := by unfold mInterest; rw [if_pos hv, Int.toNat_natCast, hm]
      rw [e] at hQ
      simp [hat]
      refine withr_pc E _ _ nb ms hl i hlt { m with ri := r, wi := w } (by simp [dRow, hr]) ?_
      simp [dW]
      exact aPost_same hB (by simp [dW]) (nilV_refl _) (by simp) hQ
    · have e : mInterest ms i r w = (ms, 243) := by unfold mInterest; rw [hv]; rfl
      rw [e] at hQ
      simp [hat]
      exact aPost_same hB (by simp [dW]) (nilV_refl _) (by simp) hQ
theorem dread_pc (n k : Int) (hok : ∀ (i : Nat) m, n = i → ms[i]? = some m → m.ok) (hQ : Q (.tup [dW nb (mRead ms n k).1, .str (mRead ms n k).2.1, .bool (mRead ms n k).2.2.1, .int .i64 (mRead ms n k).2.2.2]) H) :
    PC Try.prog E 38 [dW nb ms, .int .i64 n, .int .i64 k] H Q := by
  refine pc_enter Try.func38 rfl [] [] (by kernel_rfl) (fun hB => ?_)
  simp [Try.ntmps38, Try.results38, List.replicate_succ, dW]
  refine dserved_pc E _ nb ms _ hl n hnb (fun hs => ?_) (fun i m hi hm hs => ?_)
  · have e : mRead ms n k = (ms, [], false, mServed ms n) := by unfold mRead; rw [mLive_served hs, if_neg hs]
    rw [e] at hQ
    have hb : (mServed ms n != 0) = true := by simp [hs]
    simp [hb]
    exact aPost_same hB (by simp [dW]) (nilV_refl _) (by simp) hQ
  · subst hi
    have hlt := (List.getElem?_eq_some_iff.1 hm).1
    have hat := dRows_at hm
    unfold dRow at hat
    have hv := mLive_at hm hs
    obtain ⟨o1, o2, o3, o4, o5⟩ := hok i m rfl hm
    cases hr : m.rst <;> rw [hr] at hat hv <;> simp at hv
    · have e : mRead ms i k = (ms.set i (cRead m k).1, (cRead m k).2) := by unfold mRead; rw [if_pos hv, Int.toNat_natCast, hm]
      rw [e] at hQ
      by_cases k1 : k < 1
      · have e1 : cRead m k = (m, [], false, 1) := by simp [cRead, k1]
        rw [e1] at hQ
        simp only [set_sameL hm] at hQ
        simp [hat, k1]
        exact aPost_same hB (by simp [dW]) (nilV_refl _) (by simp) hQ
      · by_cases k2 : m.rg = 0
        · have e1 : cRead m k = (m, [], false, 244) := by simp [cRead, k1, k2]
          rw [e1] at hQ
          simp only [set_sameL hm] at hQ
          rw [k2] at hat
          simp [hat, k1]
          exact aPost_same hB (by simp [dW]) (nilV_refl _) (by simp) hQ
        · have k2' : (m.rg == 0) = false := by simp [k2]
          by_cases k5 : m.rg < k
          · obtain ⟨q, hq⟩ : ∃ q : Nat, m.rg = q := ⟨m.rg.toNat, by omega⟩
            have htq : (min k m.rg).toNat = q := by omega
            have hq0 : 0 < q := by omega
            rw [hq] at hat
            have k6 : (q : Int) < k := by omega
            replace k2' : ((q : Int) == 0) = false := by simp; omega
            have hdl : (m.del.drop m.rd).length = m.del.length - m.rd := List.length_drop ..
            by_cases k3 : m.rd < m.del.length
            · have hne : (m.del.drop m.rd == []) = false := by
                rw [beq_eq_false_iff_ne]; intro h; have := congrArg List.length h; simp at this; omega
              have hne2 : (m.del.drop m.rd).isEmpty = false := by simpa using hne
              by_cases k4 : m.del.length - m.rd < q
              · have e1 : cRead m k = ({ m with rg := 0, rd := m.del.length }, m.del.drop m.rd, false, 0) := by
                  have e1 : (m.del.drop m.rd).take q = m.del.drop m.rd := List.take_of_length_le (by simp; omega)
                  simp [cRead, k1, k2, k3, htq, e1]; omega
                rw [e1] at hQ
                have hw1 : IntKind.i64.wrap ((m.rd : Int) + (m.del.length - m.rd : Nat)) = (m.del.length : Nat) := by rw [wrap_in (by omega) (by omega)]; omega
                have htk : (m.del.drop m.rd).take (m.del.length - m.rd) = m.del.drop m.rd := List.take_of_length_le (by simp)
                simp [hat, k1, k2', k6, hne, hne2, k4, hw1, htk, o1, -Int.natCast_add]
                refine withr_pc E _ _ nb ms hl i hlt { m with rg := 0, rd := m.del.length } (by simp [dRow, hr]) ?_
                simp [dW, htk, o1]
                exact aPost_same hB (by simp [dW]) (nilV_refl _) (by simp) hQ
              · have e1 : cRead m k = ({ m with rg := 0, rd := m.rd + q }, (m.del.drop m.rd).take q, false, 0) := by
                  simp [cRead, k1, k2, k3, htq, (by omega : q ≤ m.del.length - m.rd)]
                rw [e1] at hQ
                have hw1 : IntKind.i64.wrap ((m.rd : Int) + (q : Nat)) = (m.rd + q : Nat) := wrap_in (by omega) (by omega)
                have htk : (m.del.drop m.rd).take (m.del.length - m.rd) = m.del.drop m.rd := List.take_of_length_le (by simp)
                have hql : q ≤ m.del.length - m.rd := by omega
                simp [hat, k1, k2', k6, hne, hne2, k4, hw1, htk, o1, hql, -Int.natCast_add]
                refine withr_pc E _ _ nb ms hl i hlt { m with rg := 0, rd := m.rd + q } (by simp [dRow, hr]) ?_
                simp [dW, htk, o1, hql]
                exact aPost_same hB (by simp [dW]) (nilV_refl _) (by simp) hQ
            · have hd : m.del.drop m.rd = [] := List.drop_of_length_le (by omega)
              have hrd : m.rd = m.del.length := by omega
              cases he : m.ended <;> rw [he] at hat
              · have e1 : cRead m k = ({ m with rg := 0 }, [], false, 244) := by simp [cRead, k1, k2, k3, he]
                rw [e1] at hQ
                simp [hat, k1, k2', k6, hd, o1]
                refine withr_pc E _ _ nb ms hl i hlt { m with rg := 0 } (by simp [dRow, hr, he]) ?_
                simp [dW]
                exact aPost_same hB (by simp [dW]) (nilV_refl _) (by simp) hQ
              · have e1 : cRead m k = ({ m with rg := 0 }, [], true, 0) := by simp [cRead, k1, k2, k3, he]
                rw [e1] at hQ
                simp [hat, k1, k2', k6, hd, o1]
                refine withr_pc E _ _ nb ms hl i hlt { m with rg := 0 } (by simp [dRow, hr, he]) ?_
                simp [dW]
                exact aPost_same hB (by simp [dW]) (nilV_refl _) (by simp) hQ
          · obtain ⟨q, hq⟩ : ∃ q : Nat, k = q := ⟨k.toNat, by omega⟩
            subst hq
            have htq : (min (q : Int) m.rg).toNat = q := by omega
            have hq0 : 0 < q := by omega
            have k6 : ¬ m.rg < (q : Int) := by omega
            replace k1 : ¬ q < 1 := by omega
            have k1' : ¬ (q : Int) < 1 := by omega
            have hdl : (m.del.drop m.rd).length = m.del.length - m.rd := List.length_drop ..
            by_cases k3 : m.rd < m.del.length
            · have hne : (m.del.drop m.rd == []) = false := by
                rw [beq_eq_false_iff_ne]; intro h; have := congrArg List.length h; simp at this; omega
              have hne2 : (m.del.drop m.rd).isEmpty = false := by simpa using hne
              by_cases k4 : m.del.length - m.rd < q
              · have e1 : cRead m q = ({ m with rg := 0, rd := m.del.length }, m.del.drop m.rd, false, 0) := by
                  have e1 : (m.del.drop m.rd).take q = m.del.drop m.rd := List.take_of_length_le (by simp; omega)
                  simp [cRead, k1, k1', k2, k3, htq, e1]; omega
                rw [e1] at hQ
                have hw1 : IntKind.i64.wrap ((m.rd : Int) + (m.del.length - m.rd : Nat)) = (m.del.length : Nat) := by rw [wrap_in (by omega) (by omega)]; omega
                have htk : (m.del.drop m.rd).take (m.del.length - m.rd) = m.del.drop m.rd := List.take_of_length_le (by simp)
                simp [hat, k1, k1', k2', k6, hne, hne2, k4, hw1, htk, o1, -Int.natCast_add]
                refine withr_pc E _ _ nb ms hl i hlt { m with rg := 0, rd := m.del.length } (by simp [dRow, hr]) ?_
                simp [dW, htk, o1]
                exact aPost_same hB (by simp [dW]) (nilV_refl _) (by simp) hQ
              · have e1 : cRead m q = ({ m with rg := 0, rd := m.rd + q }, (m.del.drop m.rd).take q, false, 0) := by
                  simp [cRead, k1, k1', k2, k3, htq, (by omega : q ≤ m.del.length - m.rd)]
                rw [e1] at hQ
                have hw1 : IntKind.i64.wrap ((m.rd : Int) + (q : Nat)) = (m.rd + q : Nat) := wrap_in (by omega) (by omega)
                have htk : (m.del.drop m.rd).take (m.del.length - m.rd) = m.del.drop m.rd := List.take_of_length_le (by simp)
                have hql : q ≤ m.del.length - m.rd := by omega
                simp [hat, k1, k1', k2', k6, hne, hne2, k4, hw1, htk, o1, hql, -Int.natCast_add]
                refine withr_pc E _ _ nb ms hl i hlt { m with rg := 0, rd := m.rd + q } (by simp [dRow, hr]) ?_
                simp [dW, htk, o1, hql]
                exact aPost_same hB (by simp [dW]) (nilV_refl _) (by simp) hQ
            · have hd : m.del.drop m.rd = [] := List.drop_of_length_le (by omega)
              have hrd : m.rd = m.del.length := by omega
              cases he : m.ended <;> rw [he] at hat
              · have e1 : cRead m q = ({ m with rg := 0 }, [], false, 244) := by simp [cRead, k1, k1', k2, k3, he]
                rw [e1] at hQ
                simp [hat, k1, k1', k2', k6, hd, o1]
                refine withr_pc E _ _ nb ms hl i hlt { m with rg := 0 } (by simp [dRow, hr, he]) ?_
                simp [dW]
                exact aPost_same hB (by simp [dW]) (nilV_refl _) (by simp) hQ
              · have e1 : cRead m q = ({ m with rg := 0 }, [], true, 0) := by simp [cRead, k1, k1', k2, k3, he]
                rw [e1] at hQ
                simp [hat, k1, k1', k2', k6, hd, o1]
                refine withr_pc E _ _ nb ms hl i hlt { m with rg := 0 } (by simp [dRow, hr, he]) ?_
                simp [dW]
                exact aPost_same hB (by simp [dW]) (nilV_refl _) (by simp) hQ
    · have e : mRead ms i k = (ms, [], false, 243) := by unfold mRead; rw [hv]; rfl
      rw [e] at hQ
      simp [hat]
      exact aPost_same hB (by simp [dW]) (nilV_refl _) (by simp) hQ
end
end Go.Proofs.Ytgnjdfnjohgnlaa

set_option linter.unusedVariables false
set_option linter.unusedSimpArgs false
set_option linter.unusedSectionVars false
set_option maxRecDepth 100000
namespace Go.Proofs.Ytgnjdfnjohgnlaa
open Go Go.RowKit

theorem dRows_app (ms : List Cn) (m : Cn) : dRows ms ++ [dRow m] = dRows (ms ++ [m]) := by simp [dRows, rcs]; rfl
section
variable (E : Env) (H : Hp) (nb : Bool) (ms : List Cn) (Q : AV → Hp → Prop) (hl : ms.length ≤ 4096) (hnb : nb = true → ms = [])
include hl hnb
set_option maxHeartbeats 1000000 in
theorem dwrite_pc (n : Int) (s : List UInt8) (hsl : ∀ (i : Nat) m, n = i → ms[i]? = some m → m.tak.length + s.length ≤ 140737488355328) (hok : ∀ (i : Nat) m, n = i → ms[i]? = some m → m.ok)
    (hQ : Q (.tup [dW nb (mWrite ms n s).1, .int .i64 (mWrite ms n s).2.1, .int .i64 (mWrite ms n s).2.2]) H) :
    PC Try.prog E 39 [dW nb ms, .int .i64 n, .str s] H Q := by
  refine pc_enter Try.func39 rfl [] [] (by kernel_rfl) (fun hB => ?_)
  simp [Try.ntmps39, Try.results39, List.replicate_succ, dW]
  refine dserved_pc E _ nb ms _ hl n hnb (fun hs => ?_) (fun i m hi hm hs => ?_)
  · have e : mWrite ms n s = (ms, 0, mServed ms n) := by unfold mWrite; rw [mLive_served hs, if_neg hs]
    rw [e] at hQ
    have hb : (mServed ms n != 0) = true := by simp [hs]
    simp [hb]
    exact aPost_same hB (by simp [dW]) (nilV_refl _) (by simp) hQ
  · subst hi
    have hlt := (List.getElem?_eq_some_iff.1 hm).1
    have hat := dRows_at hm
    unfold dRow at hat
    have hv := mLive_at hm hs
    replace hsl := hsl i m rfl hm
    obtain ⟨o1, o2, o3, o4, o5⟩ := hok i m rfl hm
    cases hr : m.rst <;> rw [hr] at hat hv <;> simp at hv
    · have e : mWrite ms i s = (ms.set i (cWrite m s).1, (cWrite m s).2) := by unfold mWrite; rw [if_pos hv, Int.toNat_natCast, hm]
      rw [e] at hQ
      by_cases k1 : m.wg = 0
      · have e1 : cWrite m s = (m, 0, 244) := by simp [cWrite, k1]
        rw [e1] at hQ
        simp only [set_sameL hm] at hQ
        rw [k1] at hat
        simp [hat]
        exact aPost_same hB (by simp [dW]) (nilV_refl _) (by simp) hQ
      · have k1' : (m.wg == 0) = false := by simp [k1]
        by_cases k2 : s = []
        · subst k2
          have e1 : cWrite m [] = (m, 0, 244) := by simp [cWrite]
          rw [e1] at hQ
          simp only [set_sameL hm] at hQ
          simp [hat, k1']
          exact aPost_same hB (by simp [dW]) (nilV_refl _) (by simp) hQ
        · have k2' : (s == []) = false := by simp [k2]
          have k2'' : s.isEmpty = false := by simp [k2]
          obtain ⟨g, hg⟩ : ∃ g : Nat, m.wg = g := ⟨m.wg.toNat, by omega⟩
          have e : s.take m.wg.toNat = s.take g := by rw [hg]; rfl
          have e1 : cWrite m s = ({ m with wg := 0, tak := m.tak ++ s.take g }, (s.take g).length, 0) := by simp [cWrite, k1, k2, e]
          rw [e1] at hQ
          rw [hg] at hat
          replace k1' : ((g : Int) == 0) = false := by simp; omega
          have hm1 : m.tak.length + (s.take g).length ≤ maxLen := by unfold maxLen; have := List.length_take_le' g s; omega
          by_cases k3 : s.length < g
          · have e3 : s.take g = s := List.take_of_length_le (by omega)
            rw [e3] at hm1 hQ
            simp [hat, k1', k2', k2'', k3, hm1]
            refine withr_pc E _ _ nb ms hl i hlt { m with wg := 0, tak := m.tak ++ s } (by simp [dRow, hr]) ?_
            simp [dW]
            exact aPost_same hB (by simp [dW]) (nilV_refl _) (by simp) hQ
          · have hl3 : (s.take g).length = g := by rw [List.length_take]; omega
            have hgl : g ≤ s.length := by omega
            rw [hl3] at hm1 hQ
            have hmin : min g s.length = g := by omega
            simp [hat, k1', k2', k2'', k3, hm1, hgl, hmin]
            refine withr_pc E _ _ nb ms hl i hlt { m with wg := 0, tak := m.tak ++ s.take g } (by simp [dRow, hr]) ?_
            simp [dW]
            exact aPost_same hB (by simp [dW]) (nilV_refl _) (by simp) hQ
    · have e : mWrite ms i s = (ms, 0, 243) := by unfold mWrite; rw [hv]; rfl
      rw [e] at hQ
      simp [hat]
      exact aPost_same hB (by simp [dW]) (nilV_refl _) (by simp) hQ
set_option maxHeartbeats 2000000 in
theorem ddo_pc (k n i : Int) (d : List UInt8) (hsz : ∀ (j : Nat) m, n = j → ms[j]? = some m → m.del.length + d.length ≤ 140737488355328)
    (hQ : Q (.tup [dW nb (mDo nb ms k n i d).1, .int .i64 (mDo nb ms k n i d).2]) H) :
    PC Try.prog E 33 [dW nb ms, evA k n i d] H Q := by
  cases nb with
  | true =>
    refine pc_enter Try.func33 rfl [27, 30] [] (by kernel_rfl) (fun hB => ?_)
    simp [Try.ntmps33, Try.results33, List.replicate_succ, dW, evA]
    have e : mDo true ms k n i d = (ms, 240) := by simp [mDo]
    rw [e] at hQ
    exact aPost_same hB (by simp [dW]) (nilV_refl _) (by simp) hQ
  | false =>
    by_cases hk : 1 ≤ k ∧ k ≤ 6
    rotate_left
    · have e : mDo false ms k n i d = (ms, 241) := by simp [mDo, hk]
      rw [e] at hQ
      refine pc_enter Try.func33 rfl [27, 30] [] (by kernel_rfl) (fun hB => ?_)
      by_cases h1 : k < 1
      · simp [Try.ntmps33, Try.results33, List.replicate_succ, dW, evA, h1]
        exact aPost_same hB (by simp [dW]) (nilV_refl _) (by simp) hQ
      · have h2 : 6 < k := by omega
        simp [Try.ntmps33, Try.results33, List.replicate_succ, dW, evA, h1, h2]
        exact aPost_same hB (by simp [dW]) (nilV_refl _) (by simp) hQ
    have h1 : ¬ k < 1 := by omega
    have h2 : ¬ 6 < k := by omega
    by_cases hk1 : k = 1
    · subst hk1
      by_cases hf : ms.length = 4096
      · have e : mDo false ms 1 n i d = (ms, 65) := by simp [mDo, hf]
        rw [e] at hQ
        refine pc_enter Try.func33 rfl [27, 30] [] (by kernel_rfl) (fun hB => ?_)
        simp [Try.ntmps33, Try.results33, List.replicate_succ, dW, evA, hf]
        exact aPost_same hB (by simp [dW]) (nilV_refl _) (by simp) hQ
      · have e : mDo false ms 1 n i d = (ms ++ [Cn.new], 0) := by simp [mDo, hf]
        rw [e] at hQ
        refine pc_enter Try.func33 rfl [27, 30] [] (by kernel_rfl) (fun hB => ?_)
        have hf' : ¬ (4096 : Int) ≤ ms.length := by omega
        have hm1 : ms.length ≤ maxLen := by unfold maxLen; omega
        have hm2 : ms.length + 1 ≤ maxLen := by unfold maxLen; omega
        have hm3 : ms.length * 64 ≤ 140737488355328 := by omega
        have hm4 : (ms.length + 1) * 64 ≤ 140737488355328 := by omega
        simp [Try.ntmps33, Try.results33, List.replicate_succ, dW, evA, hf', hm1, hm2, hm3, hm4]
        exact aPost_same hB (by simp [dW, ← dRows_app, dRow, Cn.new]) (nilV_refl _) (by simp) hQ
    · have hk1' : (k == 1) = false := by simp [hk1]
      refine pc_enter Try.func33 rfl [27, 30] [] (by kernel_rfl) (fun hB => ?_)
      simp [Try.ntmps33, Try.results33, List.replicate_succ, dW, evA, h1, h2, hk1']
      refine there_pc E _ false ms _ hl n ?_
      by_cases ht : dThere false ms n = true
      rotate_left
      · have hn : ¬ (0 ≤ n ∧ n < ms.length) := fun h => ht (by simp [dThere, h])
        have e : mDo false ms k n i d = (ms, 240) := by simp [mDo, hk, hk1, hn]
        rw [e] at hQ
        have ht' : dThere false ms n = false := by simpa using ht
        simp [ht']
        exact aPost_same hB (by simp [dW]) (nilV_refl _) (by simp) hQ
      · have hn : 0 ≤ n ∧ n < ms.length := by simpa [dThere] using ht
        obtain ⟨j, rfl⟩ : ∃ j : Nat, n = j := ⟨n.toNat, by omega⟩
        obtain ⟨m, hm⟩ : ∃ m, ms[j]? = some m := ⟨_, List.getElem?_eq_getElem (by omega)⟩
        have hlt := (List.getElem?_eq_some_iff.1 hm).1
        have hat := dRows_at hm
        unfold dRow at hat
        have hsz' := hsz j m rfl hm
        have e : mDo false ms k j i d = match cEvent m k i d with
          | some m' => (ms.set j m', 0)
          | none => (ms, 241) := by
          simp only [mDo, Bool.false_eq_true, if_false, hk, not_true_eq_false, hk1, hn, and_self, if_true, Int.toNat_natCast, hm]
          cases cEvent m k i d <;> rfl
        by_cases hrc : m.rst = true ∨ m.cls = true
        · have e2 : cEvent m k i d = none := by simp [cEvent, hrc]
          rw [e2] at e
          rw [e] at hQ
          cases hr : m.rst
          · have hc : m.cls = true := by simpa [hr] using hrc
            rw [hr, hc] at hat
            simp [ht, hat]
            exact aPost_same hB (by simp [dW]) (nilV_refl _) (by simp) hQ
          · rw [hr] at hat
            simp [ht, hat]
            exact aPost_same hB (by simp [dW]) (nilV_refl _) (by simp) hQ
        · have hr : m.rst = false := by simp at hrc; exact hrc.1
          have hc : m.cls = false := by simp at hrc; exact hrc.2
          rw [hr, hc] at hat
          have hmx : m.del.length + d.length ≤ maxLen := by unfold maxLen; omega
          rcases (by omega : k = 2 ∨ k = 3 ∨ k = 4 ∨ k = 5 ∨ k = 6) with rfl | rfl | rfl | rfl | rfl
          · cases he : m.ended
            · rw [he] at hat
              have e2 : cEvent m 2 i d = some { m with del := m.del ++ d } := by simp [cEvent, hr, hc, he]
              rw [e2] at e
              rw [e] at hQ
              simp [ht, hat, hmx]
              refine withr_pc E _ _ false ms hl j hlt { m with del := m.del ++ d } (by simp [dRow, hr, hc, he]) ?_
              simp [dW]
              exact aPost_same hB (by simp [dW]) (nilV_refl _) (by simp) hQ
            · rw [he] at hat
              have e2 : cEvent m 2 i d = none := by simp [cEvent, hr, hc, he]
              rw [e2] at e
              rw [e] at hQ
              simp [ht, hat]
              exact aPost_same hB (by simp [dW]) (nilV_refl _) (by simp) hQ
          · cases he : m.ended
            · rw [he] at hat
              have e2 : cEvent m 3 i d = some { m with ended := true } := by simp [cEvent, hr, hc, he]
              rw [e2] at e
              rw [e] at hQ
              simp [ht, hat]
              refine withr_pc E _ _ false ms hl j hlt { m with ended := true } (by simp [dRow, hr, hc, he]) ?_
              simp [dW]
              exact aPost_same hB (by simp [dW]) (nilV_refl _) (by simp) hQ
            · rw [he] at hat
              have e2 : cEvent m 3 i d = none := by simp [cEvent, hr, hc, he]
              rw [e2] at e
              rw [e] at hQ
              simp [ht, hat]
              exact aPost_same hB (by simp [dW]) (nilV_refl _) (by simp) hQ
          · have e2 : cEvent m 4 i d = some { m with rst := true } := by simp [cEvent, hr, hc]
            rw [e2] at e
            rw [e] at hQ
            simp [ht, hat]
            refine withr_pc E _ _ false ms hl j hlt { m with rst := true } (by simp [dRow, hr, hc]) ?_
            simp [dW]
            exact aPost_same hB (by simp [dW]) (nilV_refl _) (by simp) hQ
          · by_cases hi : i < 1
            · have e2 : cEvent m 5 i d = none := by simp [cEvent, hr, hc, hi]
              rw [e2] at e
              rw [e] at hQ
              simp [ht, hat, hi]
              exact aPost_same hB (by simp [dW]) (nilV_refl _) (by simp) hQ
            · have e2 : cEvent m 5 i d = some { m with rg := i } := by simp [cEvent, hr, hc, hi]
              rw [e2] at e
              rw [e] at hQ
              simp [ht, hat, hi]
              refine withr_pc E _ _ false ms hl j hlt { m with rg := i } (by simp [dRow, hr, hc]) ?_
              simp [dW]
              exact aPost_same hB (by simp [dW]) (nilV_refl _) (by simp) hQ
          · by_cases hi : i < 1
            · have e2 : cEvent m 6 i d = none := by simp [cEvent, hr, hc, hi]
              rw [e2] at e
              rw [e] at hQ
              simp [ht, hat, hi]
              exact aPost_same hB (by simp [dW]) (nilV_refl _) (by simp) hQ
            · have e2 : cEvent m 6 i d = some { m with wg := i } := by simp [cEvent, hr, hc, hi]
              rw [e2] at e
              rw [e] at hQ
              simp [ht, hat, hi]
              refine withr_pc E _ _ false ms hl j hlt { m with wg := i } (by simp [dRow, hr, hc]) ?_
              simp [dW]
              exact aPost_same hB (by simp [dW]) (nilV_refl _) (by simp) hQ
end
end Go.Proofs.Ytgnjdfnjohgnlaa

set_option linter.unusedVariables false
set_option linter.unusedSimpArgs false
set_option linter.unusedSectionVars false
set_option maxRecDepth 100000
namespace Go.Proofs.Ytgnjdfnjohgnlaa
open Go Go.RowKit

/-- The first that waits among the first i. -/
def mFirst (ms : List Cn) (i : Nat) : Int := match (ms.take i).findIdx? mWaits with
  | some j => j
  | none => -1
theorem mFirst_step {ms : List Cn} {i : Nat} {m : Cn} (h : ms[i]? = some m) : mFirst ms (i + 1) = if mCount ms i = 0 ∧ mWaits m = true then (i : Int) else mFirst ms i := by
  have hlt := (List.getElem?_eq_some_iff.1 h).1
  unfold mFirst mCount
  rw [List.take_add_one, h, List.findIdx?_append]
  cases hf : (ms.take i).findIdx? mWaits with
  | some j =>
    have hc : ¬ (ms.take i).countP mWaits = 0 := by
      obtain ⟨hj, hg⟩ := List.findIdx?_eq_some_iff_getElem.1 hf
      intro h0
      have := List.countP_eq_zero.1 h0 _ (List.getElem_mem hj)
      exact this hg.1
    simp [hc]
  | none =>
    have hc : (ms.take i).countP mWaits = 0 := by
      rw [List.countP_eq_zero]
      intro a ha
      simpa using List.findIdx?_eq_none_iff.1 hf a ha
    cases hw : mWaits m <;> simp [hc, hw]
    omega
theorem mCount_step {ms : List Cn} {i : Nat} {m : Cn} (h : ms[i]? = some m) : mCount ms (i + 1) = mCount ms i + (if mWaits m then 1 else 0) := by
  unfold mCount
  rw [List.take_add_one, h, List.countP_append]
  cases hw : mWaits m <;> simp [hw]
theorem mCount_lei (ms : List Cn) (i : Nat) : mCount ms i ≤ i := by
  unfold mCount
  have := List.countP_le_length (p := mWaits) (l := ms.take i)
  rw [List.length_take] at this
  omega
section
variable (E : Env) (H : Hp) (nb : Bool) (ms : List Cn) (Q : AV → Hp → Prop) (hl : ms.length ≤ 4096)
include hl
def dwI (H : Hp) (ms : List Cn) (fr : List AV) (H' : Hp) : Prop := ∃ J, H' = H ++ J ∧ ∃ i : Nat, i ≤ ms.length ∧
  ∃ x : Nat → AV, fr = [x 0, x 1, x 2, x 3, .int .i64 (mCount ms i), .int .i64 (mFirst ms i), x 6, x 7, x 8, .sl false 11 (dRows ms), .int .i64 ms.length, .int .i64 i, x 12, x 13, x 14, x 15, x 16, x 17, x 18, x 19, x 20, x 21, x 22, x 23, x 24, x 25, x 26, x 27, x 28, x 29, x 30, x 31]
theorem dwaiting_pc (hQ : Q (.tup [.int .i64 (mCount ms ms.length), .int .i64 (mFirst ms ms.length)]) H) : PC Try.prog E 35 [dW nb ms] H Q := by
  refine pc_enter Try.func35 rfl [] [] (by kernel_rfl) (fun hB => ?_)
  simp [Try.ntmps35, Try.results35, List.replicate_succ, dW]
  refine VL_go (dwI H ms) (fun fr _ => ms.length - (ai (aget fr 11)).toNat) ⟨_, rfl, 0, by omega, fr_intro (by simp [mCount, mFirst])⟩ ?_
  rintro fr H' ⟨J, rfl, i, hi, x, rfl⟩
  by_cases h : i < ms.length
  · obtain ⟨m, hm⟩ : ∃ m, ms[i]? = some m := ⟨_, List.getElem?_eq_getElem h⟩
    have hat := dRows_at hm
    unfold dRow at hat
    have hw : IntKind.i64.wrap ((i : Int) + 1) = i + 1 := wrap_in (by omega) (by omega)
    have hcs := mCount_step hm
    have hfs := mFirst_step hm
    have hcl := mCount_lei ms i
    have hw2 : IntKind.i64.wrap ((mCount ms i : Int) + 1) = mCount ms i + 1 := wrap_in (by omega) (by omega)
    obtain ⟨cnt, hcnt⟩ : ∃ cnt, mCount ms i = cnt := ⟨_, rfl⟩
    rw [hcnt] at hcs hfs hw2 ⊢
    by_cases hwt : mWaits m = true
    · rw [hwt] at hcs hfs
      have ha : m.acc = false := by simp [mWaits] at hwt; exact hwt.1
      have hr : m.rst = false := by simp [mWaits] at hwt; exact hwt.2
      rw [ha, hr] at hat
      simp at hcs
      by_cases h0 : cnt = 0
      · subst h0
        simp at hfs
        simp [h, hat, hw, hw2]
        refine Kloop_normal ?_ ?_
        rotate_left
        · simp; omega
        refine ⟨_, rfl, i + 1, by omega, fr_intro ?_⟩
        simp [hcs, hfs]
        first | rfl | decide | skip
      · have h0' : ((cnt : Int) == 0) = false := by simp [h0]
        simp [h0] at hfs
        simp [h, hat, hw, hw2, h0']
        refine Kloop_normal ?_ ?_
        rotate_left
        · simp; omega
        exact ⟨_, rfl, i + 1, by omega, fr_intro (by simp [hcs, hfs])⟩
    · have hwt' : mWaits m = false := by simpa using hwt
      rw [hwt'] at hcs hfs
      simp at hcs hfs
      cases ha : m.acc
      · have hr : m.rst = true := by simpa [mWaits, ha] using hwt'
        rw [ha, hr] at hat
        simp [h, hat, hw]
        refine Kloop_normal ?_ ?_
        rotate_left
        · simp; omega
        exact ⟨_, rfl, i + 1, by omega, fr_intro (by simp [hcs, hfs, hcnt])⟩
      · rw [ha] at hat
        simp [h, hat, hw]
        refine Kloop_normal ?_ ?_
        rotate_left
        · simp; omega
        exact ⟨_, rfl, i + 1, by omega, fr_intro (by simp [hcs, hfs, hcnt])⟩
  · obtain rfl : i = ms.length := by omega
    simp
    exact aPost_same hB rfl (nilV_refl _) (by simp) hQ
theorem daccept_pc (hQ : Q (.tup [dW nb (mAccept ms).1, .int .i64 (mAccept ms).2.1, .int .i64 (mAccept ms).2.2]) H) : PC Try.prog E 36 [dW nb ms] H Q := by
  refine pc_enter Try.func36 rfl [] [] (by kernel_rfl) (fun hB => ?_)
  simp [Try.ntmps36, Try.results36, List.replicate_succ, dW]
  refine dwaiting_pc E _ nb ms _ hl ?_
  cases hf : ms.findIdx? mWaits with
  | none =>
    have e : mAccept ms = (ms, -1, 244) := by unfold mAccept; rw [hf]
    have e1 : mFirst ms ms.length = -1 := by unfold mFirst; rw [List.take_of_length_le (Nat.le_refl _), hf]
    rw [e] at hQ
    simp [e1]
    exact aPost_same hB (by simp [dW]) (nilV_refl _) (by simp) hQ
  | some j =>
    obtain ⟨hj, _⟩ := List.findIdx?_eq_some_iff_getElem.1 hf
    obtain ⟨m, hm⟩ : ∃ m, ms[j]? = some m := ⟨_, List.getElem?_eq_getElem hj⟩
    have e : mAccept ms = (ms.set j { m with acc := true }, (j : Int), 0) := by unfold mAccept; rw [hf]; dsimp only; rw [hm]
    have e1 : mFirst ms ms.length = j := by unfold mFirst; rw [List.take_of_length_le (Nat.le_refl _), hf]
    rw [e] at hQ
    have hat := dRows_at hm
    unfold dRow at hat
    simp [e1, hat]
    refine withr_pc E _ _ nb ms hl j hj { m with acc := true } (by simp [dRow]) ?_
    simp [dW]
    exact aPost_same hB (by simp [dW]) (nilV_refl _) (by simp) hQ
end
end Go.Proofs.Ytgnjdfnjohgnlaa

set_option linter.unusedVariables false
set_option linter.unusedSimpArgs false
set_option linter.unusedSectionVars false
set_option maxRecDepth 100000
namespace Go.Proofs.Ytgnjdfnjohgnlaa
open Go Go.RowKit

section
variable (E : Env) (H : Hp) (nb : Bool) (ms : List Cn) (Q : AV → Hp → Prop) (hl : ms.length ≤ 4096)
include hl
def dpI (R0 : List (List AV)) (H : Hp) (ms : List Cn) (fr : List AV) (H' : Hp) : Prop := ∃ J, H' = H ++ J ∧ ∃ i : Nat, i ≤ ms.length ∧ ∃ rows, rows = R0 ++ rdyTo ms i ∧
  ∃ x : Nat → AV, fr = [x 0, x 1, x 2, .sl true 5 rows, x 4, x 5, x 6, x 7, x 8, x 9, x 10, x 11, x 12, x 13, x 14, x 15, x 16, x 17, x 18, x 19, x 20, .sl false 11 (dRows ms), .int .i64 ms.length, .int .i64 i, x 24, x 25, x 26, x 27, x 28, x 29, x 30, x 31, x 32, x 33, x 34, x 35, x 36, x 37, x 38, x 39, x 40, x 41, x 42, x 43, x 44, x 45, x 46, x 47, x 48, x 49, x 50, x 51, x 52, x 53, x 54, x 55, x 56, x 57, x 58, x 59, x 60, x 61, x 62, x 63, x 64, x 65, x 66, x 67, x 68, x 69, x 70, x 71, x 72, x 73]
set_option maxHeartbeats 8000000 in
theorem dpoll_pc (hQ : Q (.sl false 5 (mReady ms)) H) : PC Try.prog E 26 [dW nb ms] H Q := by
  refine pc_enter Try.func26 rfl [16, 68] [] (by kernel_rfl) (fun hB => ?_)
  simp [Try.ntmps26, Try.results26, List.replicate_succ, dW]
  refine dwaiting_pc E _ nb ms _ hl ?_
  have hm1 : 1 ≤ maxLen := by unfold maxLen; omega
  obtain ⟨R0, hR0, hR1, hR2⟩ : ∃ R0, mReady ms = R0 ++ rdyTo ms ms.length ∧ R0.length ≤ 1 ∧ ∀ r ∈ R0, ∀ x ∈ r, Bnd H.length x := ⟨_, rfl, by split <;> simp, by split <;> simp [rdyRow]⟩
  have e0 : R0 = if 0 < mCount ms ms.length then [rdyRow (-1) true false false false] else [] := by
    have : mReady ms = (if 0 < mCount ms ms.length then [rdyRow (-1) true false false false] else []) ++ rdyTo ms ms.length := rfl
    rw [hR0] at this; exact List.append_cancel_right this
  by_cases hc : 0 < mCount ms ms.length
  case' pos =>
    rw [if_pos hc] at e0
    simp [hc, hm1]
  case' neg =>
    rw [if_neg hc] at e0
    simp [hc]
    refine VL_nil 3 5 (by rfl) ?_
    simp only [List.set_cons_succ, List.set_cons_zero]
  all_goals
    refine VL_go (dpI R0 H ms) (fun fr _ => ms.length - (ai (aget fr 23)).toNat) ⟨_, rfl, 0, by omega, _, rfl, fr_intro (by simp [e0, rdyTo, rdyRow])⟩ ?_
    clear e0
    rintro fr H' ⟨J, rfl, i, hi, rows, hrows, x, rfl⟩
    by_cases h : i < ms.length
    · obtain ⟨m, hm⟩ : ∃ m, ms[i]? = some m := ⟨_, List.getElem?_eq_getElem h⟩
      have hat := dRows_at hm
      unfold dRow at hat
      have hw : IntKind.i64.wrap ((i : Int) + 1) = i + 1 := wrap_in (by omega) (by omega)
      have hstep : rdyTo ms (i + 1) = rdyTo ms i ++ rdy i m := by rw [rdyTo, hm]
      have hrl : rows.length ≤ i + 1 := by rw [hrows, List.length_append]; have := rdyTo_len ms i; omega
      have hm2 : rows.length + 1 ≤ maxLen := by unfold maxLen; omega
      have hm3 : (rows.length + 1) * 16 ≤ 140737488355328 := by omega
      cases ha : m.acc
      · rw [ha] at hat
        have hr : rdy i m = [] := by simp [rdy, ha]
        simp [h, hat, hw]
        refine Kloop_normal ?_ ?_
        rotate_left
        · simp; omega
        exact ⟨_, rfl, i + 1, by omega, rows, by rw [hstep, hr, List.append_nil]; exact hrows, fr_intro (by simp)⟩
      · cases hcl : m.cls
        rotate_left
        · rw [ha, hcl] at hat
          have hr : rdy i m = [] := by simp [rdy, hcl]
          simp [h, hat, hw]
          refine Kloop_normal ?_ ?_
          rotate_left
          · simp; omega
          exact ⟨_, rfl, i + 1, by omega, rows, by rw [hstep, hr, List.append_nil]; exact hrows, fr_intro (by simp)⟩
        · cases hrs : m.rst
          rotate_left
          · rw [ha, hcl, hrs] at hat
            have hr : rdy i m = [rdyRow i false false false true] := by simp [rdy, ha, hcl, hrs]
            simp [h, hat, hw, hm2, hm3]
            refine Kloop_normal ?_ ?_
            rotate_left
            · simp; omega
            exact ⟨_, rfl, i + 1, by omega, rows ++ rdy i m, by rw [hstep, ← List.append_assoc, ← hrows], fr_intro (by simp [hr, rdyRow])⟩
          · have key : ∀ (r wr : Bool), r = (m.ri && decide (0 < m.rg)) → wr = (m.wi && decide (0 < m.wg)) → rdy i m = if r || wr then [rdyRow i false r wr false] else [] := by
              rintro r wr rfl rfl
              unfold rdy
              rw [if_neg (by simp [ha, hcl]), hrs]
              simp
            rw [ha, hcl, hrs] at hat
            simp [h, hat, hw]
            cases hri : m.ri
            all_goals (rw [hri] at key; simp)
            all_goals (cases hwi : m.wi)
            all_goals (rw [hwi] at key; simp)
            all_goals (by_cases hg : 0 < m.rg <;> by_cases hg2 : 0 < m.wg)
            all_goals
              have hr := key _ _ rfl rfl
              simp [hg, hg2] at hr
              simp [hg, hg2, hm2, hm3, hw]
              refine Kloop_normal ?_ ?_
              rotate_left
              · simp; omega
              exact ⟨_, rfl, i + 1, by omega, rows ++ rdy i m, by rw [hstep, ← List.append_assoc, ← hrows], fr_intro (by simp [hr, rdyRow])⟩
    · simp [h]
      have : i = ms.length := by omega
      subst this
      rw [hR0, ← hrows] at hQ
      refine aPost_same hB rfl (nilV_refl _) ?_ hQ
      rw [hrows]
      refine .sl _ _ _ ?_
      intro r hr y hy
      rcases List.mem_append.1 hr with hr | hr
      · exact hR2 r hr y hy
      · exact rdyTo_bnd _ ms _ r hr y hy
end
end Go.Proofs.Ytgnjdfnjohgnlaa

set_option linter.unusedVariables false
set_option linter.unusedSimpArgs false
set_option linter.unusedSectionVars false
set_option maxRecDepth 100000
namespace Go.Proofs.Ytgnjdfnjohgnlaa
open Go Go.RowKit

def accs (i : Nat) : List Cn := List.replicate i { Cn.new with acc := true }
@[simp] theorem accs_len (i : Nat) : (accs i).length = i := by simp [accs]
theorem WO.app2 {H : Hp} {w : Option Nat} {cs : List Nat} {ms : List Cn} (hw : WO H w cs ms) (J : Hp) : WO (H ++ J) w cs ms := by
  cases w with
  | none => exact hw
  | some w => exact ⟨by rw [hs0 (at_lt hw.box)]; exact hw.box, hw.len, fun i c m hc hm => by rw [hs0 (at_lt (hw.conn i c m hc hm))]; exact hw.conn i c m hc hm, hw.nd⟩
@[simp] theorem line_len (m : Cn) : m.line.length = 11 := rfl
structure ApI (H H' : Hp) (cs : List Nat) (ms : List Cn) : Prop where
  wo : WO H' (some H.length) cs ms
  cs : ∀ c ∈ cs, H.length ≤ c
  len : H.length ≤ H'.length
  keep : ∀ j, j < H.length → H'[j]? = H[j]?
theorem ApI.app {H H' : Hp} {cs : List Nat} {ms : List Cn} (h : ApI H H' cs ms) (J : Hp) : ApI H (H' ++ J) cs ms :=
  ⟨h.wo.app2 J, h.cs, by simp; have := h.len; omega, fun j hj => by rw [List.getElem?_append_left (Nat.lt_of_lt_of_le hj h.len)]; exact h.keep j hj⟩
def opK : List CK := [.int .i64, .int .i64, .int .i64, .int .i64, .str, .int .i64, .int .i64, .str, .bool, .bool]
theorem kind_int {k : IntKind} {x : AV} (h : KindOf (.int k) x) : ∃ z, x = .int k z := by
  cases x <;> simp [KindOf] at h
  exact ⟨_, by rw [h.1]⟩
theorem kind_bool {x : AV} (h : KindOf .bool x) : ∃ z, x = .bool z := by
  cases x <;> simp [KindOf] at h
  exact ⟨_, rfl⟩
theorem kind_str {x : AV} (h : KindOf .str x) : ∃ z, x = .str z := by
  cases x <;> simp [KindOf] at h
  exact ⟨_, rfl⟩
theorem op_of_row {r : List AV} (hl : r.length = 10) (hk : ∀ (j : Nat) k y, opK[j]? = some k → r[j]? = some y → KindOf k y) : ∃ o : OpA, r = o.av := by
  match r, hl with
  | [a0, a1, a2, a3, a4, a5, a6, a7, a8, a9], _ =>
    obtain ⟨z0, rfl⟩ := kind_int (hk 0 _ _ rfl rfl)
    obtain ⟨z1, rfl⟩ := kind_int (hk 1 _ _ rfl rfl)
    obtain ⟨z2, rfl⟩ := kind_int (hk 2 _ _ rfl rfl)
    obtain ⟨z3, rfl⟩ := kind_int (hk 3 _ _ rfl rfl)
    obtain ⟨z4, rfl⟩ := kind_str (hk 4 _ _ rfl rfl)
    obtain ⟨z5, rfl⟩ := kind_int (hk 5 _ _ rfl rfl)
    obtain ⟨z6, rfl⟩ := kind_int (hk 6 _ _ rfl rfl)
    obtain ⟨z7, rfl⟩ := kind_str (hk 7 _ _ rfl rfl)
    obtain ⟨z8, rfl⟩ := kind_bool (hk 8 _ _ rfl rfl)
    obtain ⟨z9, rfl⟩ := kind_bool (hk 9 _ _ rfl rfl)
    exact ⟨⟨z0, z1, z2, z3, z4, z5, z6, z7, z8, z9⟩, rfl⟩
theorem ops_of_rows : ∀ (rows : List (List AV)), (∀ r ∈ rows, r.length = 10 ∧ ∀ (j : Nat) k y, opK[j]? = some k → r[j]? = some y → KindOf k y) → ∃ sc : List OpA, rows = ops sc ∧ opw sc = wtA rows.flatten
  | [], _ => ⟨[], rfl, rfl⟩
  | r :: rows, h => by
    obtain ⟨sc, rfl, hw⟩ := ops_of_rows rows (fun q hq => h q (List.mem_cons_of_mem _ hq))
    obtain ⟨h1, h2⟩ := h r (List.mem_cons_self ..)
    obtain ⟨o, rfl⟩ := op_of_row h1 h2
    refine ⟨o :: sc, rfl, ?_⟩
    rw [List.flatten_cons, wtA_app, ← hw]
    simp [opw, OpA.av, wtA]
end Go.Proofs.Ytgnjdfnjohgnlaa

set_option linter.unusedVariables false
set_option linter.unusedSimpArgs false
set_option linter.unusedSectionVars false
set_option maxRecDepth 100000
namespace Go.Proofs.Ytgnjdfnjohgnlaa
open Go Go.RowKit

section
variable (E : Env) (H : Hp) (Q : AV → Hp → Prop)
theorem event_pc (k n i : Int) (d : List UInt8) (hQ : Q (evA k n i d) H) : PC Try.prog E 34 [evA k n i d] H Q := by
  refine pc_enter Try.func34 rfl [] [] (by kernel_rfl) (fun hB => ?_)
  simp [Try.ntmps34, Try.results34, List.replicate_succ, evA]
  exact aPost_same hB (by simp [evA]) (nilV_refl _) (by simp [evA]) hQ
def row5 (r : List AV) : Prop := ∃ i a b c d, r = rdyRow i a b c d
theorem rdy_row5 (i : Nat) (m : Cn) : ∀ r ∈ rdy i m, row5 r := by
  unfold rdy
  split
  · simp
  · dsimp only
    split
    · intro r hr; simp at hr; subst hr; exact ⟨_, _, _, _, _, rfl⟩
    · simp
theorem rdyTo_row5 (ms : List Cn) : ∀ i, ∀ r ∈ rdyTo ms i, row5 r
  | 0 => by simp [rdyTo]
  | i + 1 => by
    intro r hr
    rw [rdyTo] at hr
    rcases List.mem_append.1 hr with h | h
    · exact rdyTo_row5 ms i r h
    · split at h
      · exact rdy_row5 i _ r h
      · cases h
theorem mReady_row5 (ms : List Cn) : ∀ r ∈ mReady ms, row5 r := fun r hr => by
  rcases List.mem_append.1 hr with h | h
  · split at h
    · simp at h; subst h; exact ⟨_, _, _, _, _, rfl⟩
    · cases h
  · exact rdyTo_row5 ms _ r h
def srI (H : Hp) (rows : List (List AV)) (fr : List AV) (H' : Hp) : Prop := ∃ J, H' = H ++ J ∧ ∃ i : Nat, i ≤ rows.length ∧
  ∃ x : Nat → AV, fr = [x 0, .sl false 5 rows, x 2, x 3, x 4, x 5, x 6, x 7, x 8, x 9, x 10, x 11, .sl false 5 rows, .int .i64 rows.length, .int .i64 i, x 15, x 16, x 17, x 18, x 19, x 20, x 21, x 22, x 23, x 24, x 25, x 26, x 27, x 28, x 29, x 30, x 31, x 32, x 33, x 34, x 35]
theorem sameReady_pc (rows : List (List AV)) (hr : ∀ r ∈ rows, row5 r) (hl : rows.length ≤ 8192) (hQ : Q (.bool true) H) : PC Try.prog E 25 [.sl false 5 rows, .sl false 5 rows] H Q := by
  refine pc_enter Try.func25 rfl [] [] (by kernel_rfl) (fun hB => ?_)
  simp [Try.ntmps25, Try.results25, List.replicate_succ]
  refine VL_go (srI H rows) (fun fr _ => rows.length - (ai (aget fr 14)).toNat) ⟨[], by simp, 0, by omega, fr_intro (by simp)⟩ ?_
  rintro fr H' ⟨J, rfl, i, hi, x, rfl⟩
  by_cases h : i < rows.length
  · obtain ⟨k, a, b, c, d, hrow⟩ := hr rows[i] (List.getElem_mem _)
    have hat : lat rows i = some [.int .i64 k, .bool a, .bool b, .bool c, .bool d] := by
      unfold lat; rw [List.getElem?_eq_getElem h, hrow]; rfl
    have hw : IntKind.i64.wrap ((i : Int) + 1) = i + 1 := wrap_in (by omega) (by omega)
    simp [h, hat, hw]
    refine Kloop_normal ?_ ?_
    rotate_left
    · simp; omega
    exact ⟨_, rfl, i + 1, by omega, fr_intro (by simp)⟩
  · simp [h]
    exact aPost_same hB rfl (nilV_refl _) (by simp) hQ
theorem sameLine_pc (m : Cn) (hQ : Q (.bool true) H) : PC Try.prog E 50 [.agg m.line, .agg (dRow m)] H Q := by
  refine pc_enter Try.func50 rfl [] [] (by kernel_rfl) (fun hB => ?_)
  simp [Try.ntmps50, Try.results50, List.replicate_succ, Cn.line, dRow]
  exact aPost_same hB rfl (nilV_refl _) (by simp) hQ
end
end Go.Proofs.Ytgnjdfnjohgnlaa

set_option linter.unusedVariables false
set_option linter.unusedSimpArgs false
set_option linter.unusedSectionVars false
set_option maxRecDepth 100000
namespace Go.Proofs.Ytgnjdfnjohgnlaa
open Go Go.RowKit

theorem zero_row : [AV.str [], .str [], .int .i64 0, .bool false, .bool false, .bool false, .bool false, .bool false, .bool false, .int .i64 0, .int .i64 0] = dRow Cn.new := rfl
section
variable (E : Env) (H : Hp) (w : Option Nat) (cs : List Nat) (ms : List Cn) (Q : AV → Hp → Prop) (hw : WO H w cs ms) (hl : ms.length ≤ 4096)
include hw hl
set_option maxHeartbeats 4000000 in
theorem looked_pc (o : OpA) (hQ : Q (.bool true) H) : PC Try.prog E 41 [wpt w, dW w.isNone ms, .agg o.av] H Q := by
  refine pc_enterL (fun i => H.length ≤ i) Try.func41 rfl [] [(6, [0, 0, 0, 2, 0, 2, 0, 0, 0, 0, 0, 2, 0, 2])] (by kernel_rfl) (fun E' hE hB => ?_)
  have hnone : w.isNone = true → ms = [] := fun h => by cases w with | none => exact hw.2 | some w => cases h
  obtain ⟨kk, hkk⟩ : ∃ m : Nat, o.kind % 11 = m := ⟨(o.kind % 11).toNat, by omega⟩
  by_cases hin : 0 ≤ o.conn ∧ o.conn < ms.length
  · have hnb : w.isNone = false := by
      cases hb : w.isNone
      · rfl
      · rw [hnone hb] at hin; simp at hin; omega
    obtain ⟨j, hj⟩ : ∃ j : Nat, o.conn = j := ⟨o.conn.toNat, by omega⟩
    obtain ⟨m, hm⟩ : ∃ m, ms[j]? = some m := ⟨_, List.getElem?_eq_getElem (by omega)⟩
    have hjl : j < ms.length := by omega
    have hat := dRows_at hm
    unfold dRow at hat
    rw [hnb]
    simp [Try.ntmps41, Try.results41, List.replicate_succ, dW, OpA.av, hj, hjl, hat]
    refine kind_pc E' _ _ o.kind 11 (by omega) ?_
    rw [hkk]
    simp only [Kcall_eq, KP_false, true_and]
    by_cases h10 : kk = 10
    · subst h10
      simp
      refine delivered_pc E' _ w cs ms _ _ (hw.app2 _) hl (fun hn => absurd hn (by omega)) (fun j' m' hj' hm' => ?_)
      obtain rfl : j = j' := by omega
      rw [hm] at hm'; cases hm'
      simp [hE]
      refine taken_pc E' _ w cs ms _ _ (hw.app2 _) hl (fun hn => absurd hn (by omega)) (fun j' m' hj' hm' => ?_)
      obtain rfl : j = j' := by omega
      rw [hm] at hm'; cases hm'
      simp [hE]
      exact aPost_same hB rfl (nilV_refl _) (by simp) hQ
    · have h10' : ((kk : Int) == 10) = false := by simp; omega
      simp [h10']
      refine line_pc E' _ w cs ms _ _ (hw.app2 _) hl (fun hn => absurd hn (by omega)) (fun j' m' hj' hm' => ?_)
      obtain rfl : j = j' := by omega
      rw [hm] at hm'; cases hm'
      simp [Cn.line]
      refine sameLine_pc E' _ _ m ?_
      simp
      exact aPost_same hB rfl (nilV_refl _) (by simp) hQ
  · have hcond : w.isNone = true ∨ (w.isNone = false ∧ ¬ 0 ≤ o.conn) ∨ (w.isNone = false ∧ 0 ≤ o.conn ∧ ¬ o.conn < ms.length) := by
      cases w.isNone <;> simp <;> omega
    have hgo : ∀ (K : List AV → Hp → Prop), True := fun _ => trivial
    rcases hcond with hc | ⟨hc, hc2⟩ | ⟨hc, hc2, hc3⟩
    case' inl => rw [hc]; simp [Try.ntmps41, Try.results41, List.replicate_succ, dW, OpA.av]
    case' inr.inl => rw [hc]; simp [Try.ntmps41, Try.results41, List.replicate_succ, dW, OpA.av, hc2]
    case' inr.inr => rw [hc]; simp [Try.ntmps41, Try.results41, List.replicate_succ, dW, OpA.av, hc2, hc3]
    all_goals
      refine kind_pc E' _ _ o.kind 11 (by omega) ?_
      rw [hkk]
      simp only [Kcall_eq, KP_false, true_and]
      by_cases h10 : kk = 10
      · subst h10
        simp
        refine delivered_pc E' _ w cs ms _ _ (hw.app2 _) hl (fun hn => ?_) (fun j' m' hj' hm' => absurd (List.getElem?_eq_some_iff.1 hm').1 (by omega))
        simp [hE]
        refine taken_pc E' _ w cs ms _ _ (hw.app2 _) hl (fun hn => ?_) (fun j' m' hj' hm' => absurd (List.getElem?_eq_some_iff.1 hm').1 (by omega))
        simp [hE]
        exact aPost_same hB rfl (nilV_refl _) (by simp) hQ
      · have h10' : ((kk : Int) == 10) = false := by simp; omega
        simp [h10']
        refine line_pc E' _ w cs ms _ _ (hw.app2 _) hl (fun hn => ?_) (fun j' m' hj' hm' => absurd (List.getElem?_eq_some_iff.1 hm').1 (by omega))
        simp [Cn.line]
        rw [zero_row]
        refine sameLine_pc E' _ _ Cn.new ?_
        simp
        exact aPost_same hB rfl (nilV_refl _) (by simp) hQ
end
end Go.Proofs.Ytgnjdfnjohgnlaa

set_option linter.unusedVariables false
set_option linter.unusedSimpArgs false
set_option linter.unusedSectionVars false
set_option maxRecDepth 100000
namespace Go.Proofs.Ytgnjdfnjohgnlaa
open Go Go.RowKit

theorem mDo_len {none : Bool} {ms : List Cn} {k n i : Int} {d : List UInt8} (hl : ms.length ≤ 4096) : (mDo none ms k n i d).1.length ≤ 4096 := by
  unfold mDo
  repeat' split
  all_goals first | exact hl | (simp; omega)
theorem mAccept_len (ms : List Cn) : (mAccept ms).1.length = ms.length := by
  unfold mAccept
  repeat' split
  all_goals simp
theorem mReady_len {ms : List Cn} (hl : ms.length ≤ 4096) : (mReady ms).length ≤ 8192 := by
  have := rdyTo_len ms ms.length
  unfold mReady
  rw [List.length_append]
  split <;> simp <;> omega
theorem WO.lt {H : Hp} {w : Option Nat} {cs : List Nat} {ms : List Cn} (hw : WO H w cs ms) : (∀ c ∈ cs, c < H.length) ∧ ∀ b, w = some b → b < H.length := by
  cases w with
  | none => exact ⟨fun c hc => (by rw [hw.1] at hc; cases hc), fun b hb => by cases hb⟩
  | some b =>
    refine ⟨fun c hc => ?_, fun b' hb => by cases hb; exact at_lt hw.box⟩
    obtain ⟨j, hj⟩ := List.getElem?_of_mem hc
    obtain ⟨m, hm⟩ : ∃ m, ms[j]? = some m := ⟨_, List.getElem?_eq_getElem (by have := (List.getElem?_eq_some_iff.1 hj).1; have := WO.len (w := some b) hw; omega)⟩
    exact at_lt (hw.conn j c m hj hm)
theorem up_local {H L H1 : Hp} {w : Option Nat} {cs cs1 : List Nat} {ms : List Cn} (hw : WO H w cs ms) (hu : Up (H ++ L) w cs H1 cs1) : ∀ i, H.length ≤ i → i < (H ++ L).length → H1[i]? = (H ++ L)[i]? := fun i h1 h2 =>
  hu.keep i h2 (fun h => by have := hw.lt.2 i h; omega) (fun h => by have := hw.lt.1 i h; omega)
theorem up_local3 {H H1 : Hp} {a b c : List AV} {w : Option Nat} {cs cs1 : List Nat} {ms : List Cn} (hw : WO H w cs ms) (hu : Up (H ++ [a, b, c]) w cs H1 cs1) : H1[H.length]? = some a ∧ H1[H.length + 1]? = some b ∧ H1[H.length + 2]? = some c ∧ H.length + 3 ≤ H1.length := by
  have h := up_local hw hu
  have hl := hu.len
  simp at hl
  refine ⟨?_, ?_, ?_, hl⟩
  · rw [h _ (Nat.le_refl _) (by simp), List.getElem?_append_right (Nat.le_refl _)]; simp
  · rw [h _ (by omega) (by simp), List.getElem?_append_right (by omega)]; simp
  · rw [h _ (by omega) (by simp), List.getElem?_append_right (by omega)]; simp
theorem up_local4 {H H1 : Hp} {a b c d : List AV} {w : Option Nat} {cs cs1 : List Nat} {ms : List Cn} (hw : WO H w cs ms) (hu : Up (H ++ [a, b, c, d]) w cs H1 cs1) : H1[H.length + 2]? = some c ∧ H1[H.length + 3]? = some d ∧ H.length + 4 ≤ H1.length := by
  have h := up_local hw hu
  have hl := hu.len
  simp at hl
  refine ⟨?_, ?_, hl⟩
  · rw [h _ (by omega) (by simp), List.getElem?_append_right (by omega)]; simp
  · rw [h _ (by omega) (by simp), List.getElem?_append_right (by omega)]; simp
theorem up_kp {H H1 L : Hp} {w : Option Nat} {cs cs1 : List Nat} {ms : List Cn} {S : Nat → Prop} (hw : WO H w cs ms) (hu : Up (H ++ L) w cs H1 cs1) (hS : S = fun i => H.length ≤ i ∧ i < H.length + 2) : KP 2 S (H ++ L) H1 := by
  subst hS
  exact ⟨hu.len, fun i hi hl => up_local hw hu i hi.1 hl⟩
/-- Where a call ends that has changed the world. -/
theorem step_end {P : Program} {rs : List ResultVar} {Q : AV → Hp → Prop} {fr : List AV} {H H1 L : Hp} {v0 : AV} {w : Option Nat} {cs cs1 : List Nat} {ms ms1 : List Cn} {row : List AV} {k : Nat} (hw : WO H w cs ms) (hw1 : WO H1 w cs1 ms1) (hu : Up (H ++ L) w cs H1 cs1) (hB1 : BndH H1.length H1)
    (hk1 : H.length ≤ k) (hk2 : k < (H ++ L).length) (hrow : ∀ x ∈ row, Bnd H1.length x) (h1 : ares P fr (H1.set k row) rs = some v0) (h5 : Bnd H1.length v0)
    (hQ : WO (H1.set k row) w cs1 ms1 → Up H w cs (H1.set k row) cs1 → BndH (H1.set k row).length (H1.set k row) → Q v0 (H1.set k row)) : aPost P rs H.length Q .ret fr (H1.set k row) := by
  have hcs1 : ∀ c ∈ cs1, c ≠ k := fun c hc => by
    rcases hu.new c hc with h | h
    · have := hw.lt.1 c h; omega
    · omega
  have hwk : w ≠ some k := fun h => by have := hw.lt.2 k h; omega
  have hB2 : BndH (H1.set k row).length (H1.set k row) := bndH_set hB1 k hrow
  have hl := hu.len
  have hl2 : H.length ≤ (H1.set k row).length := by simp at hl ⊢; omega
  refine ⟨v0, v0, H1.set k row, H1.set k row, [], h1, nilV_refl _, nilH_refl _, (List.append_nil _).symm, hl2, hB2, by simpa using h5, hQ ?_ ?_ hB2⟩
  · cases w with
    | none => exact hw1
    | some b => exact ⟨by rw [List.getElem?_set_ne (fun e => hwk (by rw [e]))]; exact hw1.box, hw1.len, fun i c m hc hm => by rw [List.getElem?_set_ne (fun e => hcs1 c (mem_at hc) e.symm)]; exact hw1.conn i c m hc hm, hw1.nd⟩
  · refine ⟨hl2, fun j hj hjw hjc => ?_, fun c hc => ?_⟩
    · rw [List.getElem?_set_ne (by omega), hu.keep j (by simp; omega) hjw hjc, List.getElem?_append_left hj]
    · rcases hu.new c hc with h | h
      · exact .inl h
      · right; simp at h; omega
section
variable (E : Env) (H : Hp) (w : Option Nat) (cs : List Nat) (ms : List Cn) (Q : AV → Hp → Prop) (hw : WO H w cs ms) (hl : ms.length ≤ 4096)
include hw hl
set_option maxHeartbeats 8000000 in
theorem step_pc (o : OpA) (B : Nat) (hg : goods B ms) (hsz : B + o.ed.length + o.s.length ≤ 140737488355328)
    (hQ : ∀ H' cs' ms', WO H' w cs' ms' → Up H w cs H' cs' → goods (B + (o.ed.length + o.s.length)) ms' → ms'.length ≤ 4096 → BndH H'.length H' → Q (.tup [dW w.isNone ms', .bool true]) H') :
    PC Try.prog E 24 [wpt w, dW w.isNone ms, .agg o.av] H Q := by
  refine pc_enterL (fun i => H.length ≤ i ∧ i < H.length + 2) Try.func24 rfl [] [(4, [2, 0, 0, 2]), (5, [2, 0, 0, 0, 2]), (8, [2, 0, 2]), (14, [2, 0, 2, 2, 2, 2]), (17, [2, 0, 0, 0, 0, 0, 0, 0, 2]), (28, [2, 0, 0, 0, 2]), (30, [2, 0, 2, 0, 2, 0, 0, 2]), (31, [2, 0, 0, 0, 2])] (by kernel_rfl) (fun E' hE hB => ?_)
  have hnone : w.isNone = true → ms = [] := fun h => by cases w with | none => exact hw.2 | some w => cases h
  obtain ⟨nb, hnb⟩ : ∃ nb, w.isNone = nb := ⟨_, rfl⟩
  rw [hnb] at hnone hQ ⊢
  obtain ⟨kk, hkk⟩ : ∃ m : Nat, o.kind % 11 = m := ⟨(o.kind % 11).toNat, by omega⟩
  have hkl : kk < 11 := by omega
  have same : Q (.tup [dW nb ms, .bool true]) H := hQ H cs ms hw (Up.refl _ _ _) (hg.mono (Nat.le_add_right _ _)) hl hB
  simp [Try.ntmps24, Try.results24, List.replicate_succ, dW, OpA.av]
  refine kind_pc E' _ _ o.kind 11 (by omega) ?_
  rw [hkk]
  simp only [Kcall_eq, KP_false, true_and]
  by_cases k0 : kk = 0
  · subst k0
    simp [hE]
    refine event_pc E' _ _ _ _ _ _ ?_
    simp [evA]
    refine ddo_pc E' _ nb ms _ hl hnone _ _ _ _ (fun j m _ h => by have := (hg.at h).2.2.2.1; omega) ?_
    simp [dW, hE]
    refine PC.bnd ?_
    refine do2_pc E' _ w cs ms _ (hw.app2 _) hl o.ek o.ec o.en o.ed (fun j m _ h => by have := (hg.at h).2.2.2.1; omega) (fun H1 cs1 hw1 hu1 hB1 _ => ?_)
    obtain ⟨l4, l5, l6, l7⟩ := up_local3 hw hu1
    refine ⟨up_kp hw hu1 hE, ?_⟩
    simp [hnb, l6]
    rw [hnb] at hw1
    exact step_end hw hw1 hu1 hB1 (by omega) (by simp) (by simp) (v0 := .tup [dW nb (mDo nb ms o.ek o.ec o.en o.ed).1, .bool true]) (by simp [hs4 (by omega : H.length + 2 < H1.length), dW]) (by simp) (fun q1 q2 q3 => hQ _ _ _ q1 q2 ((mDo_good hg).mono (by omega)) (mDo_len hl) q3)
  by_cases k1 : kk = 1
  · subst k1
    simp [hE]
    refine dwaiting_pc E' _ nb ms _ hl ?_
    simp [hE]
    refine waiting_pc E' _ w cs ms _ (hw.app2 _) hl ?_
    simp [hE]
    exact aPost_same hB (by simp [dW]) (nilV_refl _) (by simp) same
  by_cases k2 : kk = 2
  · subst k2
    simp [hE]
    refine daccept_pc E' _ nb ms _ hl ?_
    simp [dW, hE]
    refine PC.bnd ?_
    refine accept2_pc E' _ w cs ms _ (hw.app2 _) hl (fun H1 cs1 hw1 hu1 hB1 _ => ?_)
    obtain ⟨l4, l5, l6, l7⟩ := up_local3 hw hu1
    simp [l4, l6]
    exact step_end hw hw1 hu1 hB1 (by omega) (by simp) (by simp) (v0 := .tup [dW nb (mAccept ms).1, .bool true]) (by simp [hs4 (by omega : H.length + 2 < H1.length), dW]) (by simp) (fun q1 q2 q3 => hQ _ _ _ q1 q2 ((mAccept_good hg).mono (by omega)) (by rw [mAccept_len]; exact hl) q3)
  by_cases k3 : kk = 3
  · subst k3
    simp [hE]
    refine ready_pc E' _ w cs ms _ (hw.app2 _) hl ?_
    simp [hE]
    refine dpoll_pc E' _ nb ms _ hl ?_
    simp [hE]
    refine sameReady_pc E' _ _ (mReady ms) (mReady_row5 ms) (mReady_len hl) ?_
    simp [hE]
    exact aPost_same hB (by simp [dW]) (nilV_refl _) (by simp) same
  by_cases k4 : kk = 4
  · subst k4
    simp [hE]
    refine dinterest_pc E' _ nb ms _ hl hnone _ _ _ ?_
    simp [dW, hE]
    refine PC.bnd ?_
    refine interest2_pc E' _ w cs ms _ (hw.app2 _) hl _ _ _ (fun H1 cs1 hw1 hu1 hB1 _ => ?_)
    obtain ⟨l4, l5, l6, l7⟩ := up_local3 hw hu1
    refine ⟨up_kp hw hu1 hE, ?_⟩
    simp [l6]
    exact step_end hw hw1 hu1 hB1 (by omega) (by simp) (by simp) (v0 := .tup [dW nb (mInterest ms o.conn o.r o.w).1, .bool true]) (by simp [hs4 (by omega : H.length + 2 < H1.length), dW]) (by simp) (fun q1 q2 q3 => hQ _ _ _ q1 q2 ((mInterest_good hg).mono (by omega)) (by rw [(mInterest_only _ _ _ _).1]; exact hl) q3)
  by_cases k5 : kk = 5
  · subst k5
    simp [hE]
    refine dread_pc E' _ nb ms _ hl hnone _ _ (fun j m _ h => (hg.at h).ok (by omega)) ?_
    simp [dW, hE]
    refine PC.bnd ?_
    refine read2_pc E' _ w cs ms _ (hw.app2 _) hl _ _ (fun j m _ h => (hg.at h).ok (by omega)) (fun H1 cs1 hw1 hu1 hB1 _ => ?_)
    obtain ⟨l6, l12, l7⟩ := up_local4 hw hu1
    simp [l6, l12]
    exact step_end hw hw1 hu1 hB1 (by omega) (by simp) (by simp) (v0 := .tup [dW nb (mRead ms o.conn o.n).1, .bool true]) (by simp [hs4 (by omega : H.length + 2 < H1.length), dW]) (by simp) (fun q1 q2 q3 => hQ _ _ _ q1 q2 ((mRead_good hg).mono (by omega)) (by rw [(mRead_only _ _ _).1]; exact hl) q3)
  by_cases k6 : kk = 6
  · subst k6
    simp [hE]
    refine dwrite_pc E' _ nb ms _ hl hnone _ _ (fun j m _ h => by have := (hg.at h).2.2.2.2; omega) (fun j m _ h => (hg.at h).ok (by omega)) ?_
    simp [dW, hE]
    refine PC.bnd ?_
    refine write2_pc E' _ w cs ms _ (hw.app2 _) hl _ _ (fun j m _ h => by have := (hg.at h).2.2.2.2; omega) (fun j m _ h => (hg.at h).ok (by omega)) (fun H1 cs1 hw1 hu1 hB1 _ => ?_)
    obtain ⟨l4, l5, l6, l7⟩ := up_local3 hw hu1
    simp [l4, l6]
    exact step_end hw hw1 hu1 hB1 (by omega) (by simp) (by simp) (v0 := .tup [dW nb (mWrite ms o.conn o.s).1, .bool true]) (by simp [hs4 (by omega : H.length + 2 < H1.length), dW]) (by simp) (fun q1 q2 q3 => hQ _ _ _ q1 q2 ((mWrite_good hg).mono (by omega)) (by rw [(mWrite_only _ _ _).1]; exact hl) q3)
  by_cases k7 : kk = 7
  · subst k7
    simp [hE]
    refine dclose_pc E' _ nb ms _ hl hnone _ ?_
    simp [dW, hE]
    refine PC.bnd ?_
    refine close2_pc E' _ w cs ms _ (hw.app2 _) hl _ (fun H1 cs1 hw1 hu1 hB1 _ => ?_)
    obtain ⟨l4, l5, l6, l7⟩ := up_local3 hw hu1
    refine ⟨up_kp hw hu1 hE, ?_⟩
    simp [l6]
    exact step_end hw hw1 hu1 hB1 (by omega) (by simp) (by simp) (v0 := .tup [dW nb (mClose ms o.conn).1, .bool true]) (by simp [hs4 (by omega : H.length + 2 < H1.length), dW]) (by simp) (fun q1 q2 q3 => hQ _ _ _ q1 q2 ((mClose_good hg).mono (by omega)) (by rw [(mClose_only _ _).1]; exact hl) q3)
  by_cases k8 : kk = 8
  · subst k8
    simp [hE]
    refine conns_pc E' _ w cs ms _ (hw.app2 _) hl ?_
    simp [hE]
    exact aPost_same hB (by simp [dW]) (nilV_refl _) (by simp) same
  · have z0 : ((kk : Int) == 0) = false := by simp [k0]
    have z1 : ((kk : Int) == 1) = false := by simp; omega
    have z2 : ((kk : Int) == 2) = false := by simp; omega
    have z3 : ((kk : Int) == 3) = false := by simp; omega
    have z4 : ((kk : Int) == 4) = false := by simp; omega
    have z5 : ((kk : Int) == 5) = false := by simp; omega
    have z6 : ((kk : Int) == 6) = false := by simp; omega
    have z7 : ((kk : Int) == 7) = false := by simp; omega
    have z8 : ((kk : Int) == 8) = false := by simp; omega
    simp [z0, z1, z2, z3, z4, z5, z6, z7, z8, hE]
    rw [← hnb]
    refine looked_pc E' _ w cs ms _ (hw.app2 _) hl o ?_
    simp [hE, hnb]
    exact aPost_same hB (by simp [dW]) (nilV_refl _) (by simp) same
end
end Go.Proofs.Ytgnjdfnjohgnlaa

set_option linter.unusedVariables false
set_option linter.unusedSimpArgs false
set_option linter.unusedSectionVars false
set_option maxRecDepth 100000
namespace Go.Proofs.Ytgnjdfnjohgnlaa
open Go Go.RowKit

/-- A world's first value has no list at all. -/
def dW0 (nb : Bool) : AV := .agg [.bool nb, .nil]
theorem PC.weak1 {P : Program} {E : Env} {f : FuncId} {H : Hp} {Q : AV → Hp → Prop} {a b b' c : AV} (h : PC P E f [a, b', c] H Q) (hr : ∀ w β Rd u, Rel w β Rd b u → Rel w β Rd b' u) (hb : Bnd H.length b') (hf : b'.free = true) : PC P E f [a, b, c] H Q := by
  refine ⟨h.1, fun w β Rd Ow cargs h1 h2 h3 h4 => h.2 w β Rd Ow cargs h1 h2 h3 (fun t x u hx hu => ?_)⟩
  match t with
  | 0 => exact h4 0 x u hx hu
  | 1 =>
    simp at hx; subst hx
    exact ⟨hr _ _ _ _ (h4 1 b u rfl hu).1, hb, hf⟩
  | 2 => exact h4 2 x u hx hu
  | t + 3 => simp at hx
theorem dW0_rel (nb : Bool) (w : World) (β : Nat → Nat) (Rd : Nat → Nat → Prop) (u : Value) (h : Rel w β Rd (dW0 nb) u) : Rel w β Rd (dW nb []) u := by
  cases h with
  | agg _ vs hl hf hr =>
    refine .agg _ vs hl (fun x hx => by simp [dRows, rcs] at hx; rcases hx with rfl | rfl <;> exact ⟨rfl, rfl⟩) (fun j x u hx hu => ?_)
    match j with
    | 0 => exact hr 0 x u hx hu
    | 1 =>
      simp at hx; subst hx
      have := hr 1 .nil u rfl hu
      cases this
      exact .sl false 11 _ _ [] (fun r hr => by simp [dRows, rcs] at hr) ⟨by simp [dRows, rcs], none, 0, rfl, Nat.le_refl _, Nat.zero_le _, fun h => by simp [dRows, rcs] at h⟩ (fun g o n c hv j hj => by cases hv) (fun h => by cases h) (fun r hr => by simp [dRows, rcs] at hr) (fun j x u hx => by simp [dRows, rcs] at hx)
    | j + 2 => simp at hx
/-- The document's value: as it was made, or with a list. -/
def DV (nb : Bool) (ms : List Cn) (v : List AV) : Prop := v = [.bool nb, .sl false 11 (dRows ms)] ∨ (v = [.bool nb, .nil] ∧ ms = [])
theorem step3_pc (E : Env) (H : Hp) (w : Option Nat) (cs : List Nat) (ms : List Cn) (Q : AV → Hp → Prop) (hw : WO H w cs ms) (hl : ms.length ≤ 4096) {v : List AV} (hv : DV w.isNone ms v) (o : OpA) (B : Nat) (hg : goods B ms) (hsz : B + o.ed.length + o.s.length ≤ 140737488355328)
    (hQ : ∀ H' cs' ms', WO H' w cs' ms' → Up H w cs H' cs' → goods (B + (o.ed.length + o.s.length)) ms' → ms'.length ≤ 4096 → BndH H'.length H' → Q (.tup [dW w.isNone ms', .bool true]) H') :
    PC Try.prog E 24 [wpt w, .agg v, .agg o.av] H Q := by
  have h := step_pc E H w cs ms Q hw hl o B hg hsz hQ
  rcases hv with rfl | ⟨rfl, rfl⟩
  · exact h
  · exact h.weak1 (fun w' β Rd u hr => dW0_rel _ w' β Rd u hr) (by simp) rfl
theorem WO.setOther {H : Hp} {w : Option Nat} {cs : List Nat} {ms : List Cn} (h : WO H w cs ms) {k : Nat} (hk : k ∉ cs) (hw : w ≠ some k) (row : List AV) : WO (H.set k row) w cs ms := by
  cases w with
  | none => exact h
  | some b => exact ⟨by rw [List.getElem?_set_ne (fun e => hw (by rw [e]))]; exact h.box, h.len, fun i c m hc hm => by rw [List.getElem?_set_ne (fun e => hk (by rw [e]; exact mem_at hc))]; exact h.conn i c m hc hm, h.nd⟩
structure TwoI (H H' : Hp) (n : Nat) (cs cs' : List Nat) (ms ms' : List Cn) (u u' : List AV) : Prop where
  wa : WO H' (some H.length) cs ms
  wb : WO H' (some (H.length + 1)) cs' ms'
  len : H.length + 4 ≤ H'.length
  keep : ∀ j, j < H.length → H'[j]? = H[j]?
  la : ms.length ≤ 4096
  lb : ms'.length ≤ 4096
  ga : goods n ms
  gb : goods n ms'
  da : H'[H.length + 2]? = some u
  db : H'[H.length + 3]? = some u'
  va : DV false ms u
  vb : DV false ms' u'
  ca : ∀ c ∈ cs, H.length + 4 ≤ c
  cb : ∀ c ∈ cs', H.length + 4 ≤ c
  dis : ∀ c ∈ cs', c ∉ cs
theorem TwoI.app {H H' : Hp} {n : Nat} {cs cs' : List Nat} {ms ms' : List Cn} {u u' : List AV} (h : TwoI H H' n cs cs' ms ms' u u') (J : Hp) : TwoI H (H' ++ J) n cs cs' ms ms' u u' :=
  ⟨WO.app2 h.wa J, WO.app2 h.wb J, by simp; have := h.len; omega, fun j hj => by rw [List.getElem?_append_left (by have := h.len; omega)]; exact h.keep j hj, h.la, h.lb, h.ga, h.gb, by rw [hs0 (at_lt h.da)]; exact h.da, by rw [hs0 (at_lt h.db)]; exact h.db, h.va, h.vb, h.ca, h.cb, h.dis⟩
end Go.Proofs.Ytgnjdfnjohgnlaa

set_option linter.unusedVariables false
set_option linter.unnecessarySimpa false
set_option linter.unusedSimpArgs false
set_option maxRecDepth 100000
namespace Go.Proofs.Ytgnjdfnjohgnlaa
open Go Go.RowKit

/-- A value without a heap. -/
inductive Pln : AV → Prop
  | int (k n) : Pln (.int k n)
  | bool (b) : Pln (.bool b)
  | str (s) : Pln (.str s)
  | agg (l) (h : ∀ x ∈ l, Pln x) : Pln (.agg l)
  | tup (l) (h : ∀ x ∈ l, Pln x) : Pln (.tup l)
attribute [simp] Pln.int Pln.bool Pln.str
@[simp] theorem pln_agg (l : List AV) : Pln (.agg l) ↔ ∀ x ∈ l, Pln x := ⟨fun h => by cases h; assumption, .agg l⟩
@[simp] theorem pln_tup (l : List AV) : Pln (.tup l) ↔ ∀ x ∈ l, Pln x := ⟨fun h => by cases h; assumption, .tup l⟩
theorem Pln.rel {w w' : World} {β β' : Nat → Nat} {Rd Rd' : Nat → Nat → Prop} {v : AV} {c : Value} (h : Rel w β Rd v c) (hp : Pln v) : Rel w' β' Rd' v c := by
  induction h with
  | int | bool => constructor
  | str s l h hm => exact .str s l h hm
  | agg l vs hl hf hr ih =>
    cases hp with
    | agg _ hp => exact .agg l vs hl hf (fun j x u hx hu => ih j x u hx hu (hp x (mem_at hx)))
  | tup l vs hl hf hr ih =>
    cases hp with
    | tup _ hp => exact .tup l vs hl hf (fun j x u hx hu => ih j x u hx hu (hp x (mem_at hx)))
  | _ => cases hp
theorem Pln.bnd {v : AV} {N : Nat} (h : Pln v) : Bnd N v := by
  induction h with
  | int | bool | str => constructor
  | agg l h ih => exact .agg l ih
  | tup l h ih => exact .tup l ih
theorem Pln.free {v : AV} (h : Pln v) : v.free = true := by cases h <;> rfl
/-- y: what is read of x. -/
def seesBx (H : Hp) (x y : AV) : Prop := x = y ∨ (x = .nil ∧ ∃ k, y = .sl false k []) ∨ ∃ i o n c k rows l, x = .bx i o n c k ∧ y = .sl false k rows ∧ rows.length = n ∧ (∀ r ∈ rows, r.length = k) ∧ H[i]? = some l ∧ o + n * k ≤ l.length ∧ (∀ j u, rows.flatten[j]? = some u → l[o + j]? = some u) ∧ (∀ r ∈ rows, ∀ x ∈ r, x.free = true)
def seesL (H : Hp) : List AV → List AV → Prop
  | [], [] => True
  | x :: l, y :: m => seesBx H x y ∧ seesL H l m
  | _, _ => False
theorem seesL_at {H : Hp} : ∀ {l m : List AV}, seesL H l m → l.length = m.length ∧ ∀ (i : Nat) y, m[i]? = some y → ∃ x, l[i]? = some x ∧ seesBx H x y
  | [], [], _ => ⟨rfl, fun i y h => by simp at h⟩
  | x :: l, y :: m, h => by
    obtain ⟨h1, h2⟩ := h
    obtain ⟨h3, h4⟩ := seesL_at h2
    refine ⟨by simp [h3], fun i z hz => ?_⟩
    cases i with
    | zero => simp at hz; subst hz; exact ⟨x, rfl, h1⟩
    | succ i => exact h4 i z (by simpa using hz)
  | [], _ :: _, h => h.elim
  | _ :: _, [], h => h.elim
section
variable {P : Program} {E : Env} {w : World} {β : Nat → Nat} {Rd : Nat → Nat → Prop} {Ow : Nat → Option Hold} {H : Hp}
theorem Rel.alone (hHR : HR E w β Rd Ow H) {x : AV} {u : Value} (h : Rel w β Rd x u) (hb : Bnd 0 x) (hf : x.free = true) : Rel w (fun _ => 0) (old w) x u :=
  h.move hb (fun g o hg => ⟨hHR.rds g o hg, rfl⟩) (fun g hg => by rw [own0_free hf] at hg; cases hg) (Nat.le_refl _) (fun i hi => by omega)
theorem seesBx.rel (hHR : HR E w β Rd Ow H) {x y : AV} {u : Value} (hs : seesBx H x y) (h : Rel w β Rd x u) (hb : Bnd 0 y) (hf : y.free = true) : Rel w (fun _ => 0) (old w) y u := by
  rcases hs with rfl | ⟨rfl, k, rfl⟩ | ⟨i, o, n, c, k, rows, l, rfl, rfl, hn, hk, hl, hlen, hat, hfr⟩
  · exact h.alone hHR hb hf
  · exact (nil1_rel (.inr ⟨rfl, false, k, rfl⟩) (h.alone hHR .nil rfl) (Bnd.nil (N := 0))).1
  · cases h with
    | bx _ _ _ _ _ hnc hm =>
      obtain ⟨T, cs, hbk, hcs, hce⟩ := hHR.box i l hl
      have hlt : β i < w.heap.size := (Array.getElem?_eq_some_iff.1 hbk).1
      have hfl := flat_len hk
      have hB : ∀ r ∈ rows, ∀ x ∈ r, Bnd 0 x := by cases hb; assumption
      have hcell : ∀ j, j < n * k → w.cell? ⟨β i, o + j, none⟩ = ((cs.toList.drop o).take (n * k))[j]? := fun j hj => by
        rw [cell_blk hbk, List.getElem?_take, if_pos hj, List.getElem?_drop, Array.getElem?_toList]
      subst hn
      refine .sl false k rows _ ((cs.toList.drop o).take (rows.length * k)) hk ⟨?_, _, c, rfl, hnc, hm, fun _ => ⟨β i, o, rfl, hcell⟩⟩ (fun g o' n' c' hv j hj => ?_) (fun h => by cases h) (fun r hr x hx => ⟨hfr r hr x hx, ?_⟩) (fun j x u hx hu => ?_)
      · have e : cs.toList.length = cs.size := by simp
        rw [List.length_take, List.length_drop, e]; omega
      · injection hv with h1 h2 h3
        injection h1 with h1
        injection h1 with h1 h4
        subst h1
        exact hlt
      · obtain ⟨j, hj⟩ := List.getElem?_of_mem (List.mem_flatten.2 ⟨r, hr, hx⟩)
        have hlj := hat j x hj
        have hj2 : o + j < cs.size := by have := (List.getElem?_eq_some_iff.1 hlj).1; rw [hcs]; exact this
        exact (hce _ x _ hlj (Array.getElem?_eq_getElem hj2)).2.1
      · obtain ⟨r, hr1, hr2⟩ := flat_mem hx
        have hj : j < rows.length * k := hfl ▸ (List.getElem?_eq_some_iff.1 hx).1
        have hlj := hat j x hx
        have hu2 : cs[o + j]? = some u := by
          rw [List.getElem?_take, if_pos hj, List.getElem?_drop, Array.getElem?_toList] at hu
          exact hu
        exact (hce _ x u hlj hu2).1.alone hHR (hB r hr1 x hr2) (hfr r hr1 x hr2)
/-- THE CALL. -/
theorem PC.pure {f : FuncId} {args args' : List AV} {Q : AV → Hp → Prop} {v : AV} (hB : hasB P f = true) (hs : seesL H args args') (hb : ∀ y ∈ args', Bnd 0 y ∧ y.free = true) (hv : Pln v)
    (h : ∀ (E' : Env) (Q' : AV → Hp → Prop), E'.w0 = E.w0 → E'.Fix = E.Fix → Q' v [] → PC P E' f args' [] Q') (hQ : Q v H) : PC P E f args H Q := by
  refine ⟨hB, fun w β Rd Ow cargs hHR hOw hsz hargs => ?_⟩
  obtain ⟨hl, hat⟩ := seesL_at hs
  have hp := h ⟨E.w0, E.Fix, fun _ => True⟩ (fun u H' => u = v) rfl rfl rfl
  refine (hp.2 w (fun _ => 0) (old w) (fun _ => none) cargs ⟨fun i l hl => by simp at hl, fun i j hi => by simp at hi, fun i hi => by simp at hi, fun g h hg => (by cases hg), fun g o hg => hg, fun l hl => by simp at hl, fun b hb => ⟨(hHR.fix b hb).1, rfl, fun i hi => by simp at hi, (hHR.fix b hb).2.2.2⟩, fun i l t hl => by simp at hl⟩ (fun g h hg => by cases hg) (by omega) (fun t y u hy hu => ?_)).mono ?_
  · obtain ⟨x, hx, hxy⟩ := hat t y hy
    have hyb := hb y (mem_at hy)
    exact ⟨hxy.rel hHR (hargs t x u hx hu).1 hyb.1 hyb.2, hyb.1, hyb.2⟩
  · rintro e w' ⟨c, u, H', β', Rd', Ow', rfl, rfl, hP⟩
    have hF : Frm (fun _ => False) w w' := ⟨hP.os, hP.tape, hP.output, hP.size, fun b hb _ => (hP.frame b hb (fun i hi => by simp at hi) rfl).1⟩
    exact ⟨c, u, H, β, _, Ow, rfl, hQ, post_freshP hHR hF (fun _ _ => False) (fun _ _ h => h.elim) (Pln.rel hP.rel hv) hv.bnd hv.free⟩
end
end Go.Proofs.Ytgnjdfnjohgnlaa

set_option linter.unusedVariables false
set_option linter.unnecessarySimpa false
set_option linter.unusedSimpArgs false
set_option maxRecDepth 100000
namespace Go.Proofs.Ytgnjdfnjohgnlaa
open Go Go.RowKit

section
variable {K : Hp} {c : Nat} (h : c < K.length)
include h
theorem setX (L J : Hp) (x : List AV) (hl : L.length = K.length) : (L ++ J).set c x = L.set c x ++ J := List.set_append_left _ _ (by omega)
theorem getX (L J : Hp) (hl : L.length = K.length) : (L ++ J)[c]? = L[c]? := List.getElem?_append_left (by omega)
end
theorem getNX {L : Hp} {c d : Nat} (h : d ≠ c) (x : List AV) : (L.set d x)[c]? = L[c]? := List.getElem?_set_ne h
theorem ltX {α : Type} {l : List α} {i : Nat} {x : α} (h : l[i]? = some x) : i < l.length := (List.getElem?_eq_some_iff.1 h).1
theorem bndX_app {N : Nat} {H J : Hp} (h : BndH N H) (h2 : ∀ l ∈ J, ∀ x ∈ l, Bnd N x) : BndH N (H ++ J) := fun l hl x hx => by
  rcases List.mem_append.1 hl with h' | h'
  · exact h l h' x hx
  · exact h2 l h' x hx
theorem bndX_up {N M : Nat} {H : Hp} (h : BndH N H) (hm : N ≤ M) : BndH M H := fun l hl x hx => (h l hl x hx).mono hm
theorem bndX_put {N : Nat} {H : Hp} (h : BndH N H) (c : Nat) {l : List AV} (hl : ∀ x ∈ l, Bnd N x) : BndH N (H.set c l) := fun m hm x hx => by
  rcases List.mem_or_eq_of_mem_set hm with h1 | rfl
  · exact h m h1 x hx
  · exact hl x hx
theorem aPost_upX {P : Program} {rs : List ResultVar} {n : Nat} {Q : AV → Hp → Prop} {fr : List AV} {H' : Hp} {v : AV} (h1 : ares P fr H' rs = some v) (h3 : n ≤ H'.length) (h4 : BndH H'.length H') (h5 : Bnd H'.length v) (h6 : Q v H') :
    aPost P rs n Q .ret fr H' := ⟨v, v, H', H', [], h1, nilV_refl _, nilH_refl _, (List.append_nil H').symm, h3, h4, h5, h6⟩
/-- A plain cell. -/
def smp (y : AV) : Prop := Pln y ∧ y.one = true
@[simp] theorem smp_int (k n) : smp (.int k n) := ⟨.int _ _, rfl⟩
@[simp] theorem smp_bool (b) : smp (.bool b) := ⟨.bool _, rfl⟩
@[simp] theorem smp_str (s) : smp (.str s) := ⟨.str _, rfl⟩
theorem smp.free {y : AV} (h : smp y) : y.free = true := h.1.free
theorem smp.bnd {y : AV} (h : smp y) (N : Nat) : Bnd N y := h.1.bnd
theorem smp.dis {y : AV} (h : smp y) : y.dis = y := dis_of_free h.free
/-- A slice of n rows of k plain cells, nil or a box's. -/
def BX (K : Hp) (G : Nat → Prop) (k : Nat) (v : AV) (n : Nat) (C : Nat → AV → Prop) : Prop := (n = 0 ∧ v = .nil) ∨ ∃ i c A, G i ∧ v = .bx i 0 n c k ∧ K[i]? = some A ∧ A.length = c * k ∧ n ≤ c ∧ c ≤ maxLen ∧ (∀ y ∈ A, smp y) ∧ ∀ j y, j < n * k → A[j]? = some y → C j y
section
variable {K : Hp} {G : Nat → Prop} {v : AV} {n k : Nat} {C C' : Nat → AV → Prop}
theorem BX.nil : BX K G k .nil 0 C := .inl ⟨rfl, rfl⟩
theorem BX.lt (h : BX K G k v n C) : ∀ i o m c k', v = .bx i o m c k' → G i ∧ i < K.length := fun i o m c k' e => by
  rcases h with ⟨_, rfl⟩ | ⟨i', c', A, h1, rfl, h2, _⟩
  · cases e
  · cases e; exact ⟨h1, ltX h2⟩
theorem BX.of_eq {K' : Hp} {G' : Nat → Prop} (h : BX K G k v n C) (he : ∀ i o m c k', v = .bx i o m c k' → K'[i]? = K[i]?) (hG : ∀ i o m c k', v = .bx i o m c k' → G' i) (hC : ∀ j y, j < n * k → smp y → C j y → C' j y) : BX K' G' k v n C' := by
  rcases h with h | ⟨i, c, A, h1, rfl, h2, h3, h4, h5, h6, h7⟩
  · exact .inl h
  · exact .inr ⟨i, c, A, hG _ _ _ _ _ rfl, rfl, (he _ _ _ _ _ rfl).trans h2, h3, h4, h5, h6, fun j y hj hy => hC j y hj (h6 y (List.mem_of_getElem? hy)) (h7 j y hj hy)⟩
theorem BX.app (h : BX K G k v n C) (J : Hp) : BX (K ++ J) G k v n C :=
  h.of_eq (fun i _ _ _ _ e => List.getElem?_append_left (h.lt _ _ _ _ _ e).2) (fun i _ _ _ _ e => (h.lt _ _ _ _ _ e).1) (fun _ _ _ _ h => h)
theorem BX.put (h : BX K G k v n C) {i : Nat} (hi : ∀ i' o m c k', v = .bx i' o m c k' → i ≠ i') (A : List AV) : BX (K.set i A) G k v n C :=
  h.of_eq (fun i' _ _ _ _ e => getNX (hi _ _ _ _ _ e) _) (fun i _ _ _ _ e => (h.lt _ _ _ _ _ e).1) (fun _ _ _ _ h => h)
theorem BX.facts (h : BX K G k v n C) : v.free = true ∧ v.one = true ∧ v.dis = v ∧ Bnd K.length v := by
  rcases h with ⟨_, rfl⟩ | ⟨i, c, A, h1, rfl, h2, _⟩
  · exact ⟨rfl, rfl, rfl, .nil⟩
  · exact ⟨rfl, rfl, rfl, .bx _ _ _ _ _ (ltX h2)⟩
theorem BX.alen {P : Program} {t : TypeId} (h : BX K G k v n C) (ht : (tsl P t).isSome = true) : Go.Proofs.Ytgnjdfnjohgnlaa.alen P t v = some (.int .i64 n) := by
  rcases h with ⟨rfl, rfl⟩ | ⟨i, c, A, h1, rfl, _⟩ <;> simp [Go.Proofs.Ytgnjdfnjohgnlaa.alen, ht]
theorem mul_rows {n c k : Nat} (h : n ≤ c) : n * k ≤ c * k := Nat.mul_le_mul_right k h
/-- A row is stored. -/
theorem BX.mark {i c : Nat} {A r : List AV} (h : BX K G k (.bx i 0 n c k) n C) (hA : K[i]? = some A) {j : Nat} (hj : j < n) (hr : r.length = k) (hs : ∀ y ∈ r, smp y)
    (hC : ∀ m y, m < n * k → (if j * k ≤ m ∧ m < j * k + k then r[m - j * k]? = some y else C m y) → C' m y) : BX (K.set i (A.take (j * k) ++ (r ++ A.drop (j * k + k)))) G k (.bx i 0 n c k) n C' ∧ ∀ y ∈ A.take (j * k) ++ (r ++ A.drop (j * k + k)), smp y := by
  rcases h with ⟨_, e⟩ | ⟨i', c', A', h1, e, h2, h3, h4, h5, h6, h7⟩
  · cases e
  cases e
  rw [hA] at h2; cases h2
  have hjk : j * k + k ≤ c * k := by have := mul_rows (k := k) (show j + 1 ≤ c by omega); rw [Nat.add_mul] at this; omega
  have hl : (A.take (j * k)).length = j * k := by rw [List.length_take]; omega
  have hsm : ∀ y ∈ A.take (j * k) ++ (r ++ A.drop (j * k + k)), smp y := fun y hy => by
    rcases List.mem_append.1 hy with h | h
    · exact h6 y (List.mem_of_mem_take h)
    · rcases List.mem_append.1 h with h | h
      · exact hs y h
      · exact h6 y (List.mem_of_mem_drop h)
  refine ⟨.inr ⟨i, c, _, h1, rfl, List.getElem?_set_self (ltX hA), ?_, h4, h5, hsm, fun m y hm hy => hC m y hm ?_⟩, hsm⟩
  · simp only [List.length_append, hl, hr, List.length_drop]; omega
  · by_cases h8 : m < j * k
    · rw [if_neg (by omega)]
      rw [List.getElem?_append_left (by omega), List.getElem?_take_of_lt h8] at hy
      exact h7 m y hm hy
    · rw [List.getElem?_append_right (by omega), hl] at hy
      by_cases h9 : m < j * k + k
      · rw [if_pos ⟨by omega, h9⟩]
        rw [List.getElem?_append_left (by omega)] at hy
        exact hy
      · rw [if_neg (by omega)]
        rw [List.getElem?_append_right (by omega), hr, List.getElem?_drop] at hy
        exact h7 m y hm (by rw [← hy]; congr 1; omega)
/-- A row more, where there is room. -/
theorem BX.room {i c : Nat} {A r : List AV} (h : BX K G k (.bx i 0 n c k) n C) (hA : K[i]? = some A) (hrm : n + 1 ≤ c) (hr : r.length = k) (hs : ∀ y ∈ r, smp y)
    (hC : ∀ m y, m < (n + 1) * k → (if n * k ≤ m then r[m - n * k]? = some y else C m y) → C' m y) : BX (K.set i (A.take (n * k) ++ (r ++ A.drop (n * k + k)))) G k (.bx i 0 (n + 1) c k) (n + 1) C' ∧ ∀ y ∈ A.take (n * k) ++ (r ++ A.drop (n * k + k)), smp y := by
  rcases h with ⟨_, e⟩ | ⟨i', c', A', h1, e, h2, h3, h4, h5, h6, h7⟩
  · cases e
  cases e
  rw [hA] at h2; cases h2
  have hjk : n * k + k ≤ c * k := by have := mul_rows (k := k) hrm; rw [Nat.add_mul] at this; omega
  have hl : (A.take (n * k)).length = n * k := by rw [List.length_take]; omega
  have hsm : ∀ y ∈ A.take (n * k) ++ (r ++ A.drop (n * k + k)), smp y := fun y hy => by
    rcases List.mem_append.1 hy with h | h
    · exact h6 y (List.mem_of_mem_take h)
    · rcases List.mem_append.1 h with h | h
      · exact hs y h
      · exact h6 y (List.mem_of_mem_drop h)
  refine ⟨.inr ⟨i, c, _, h1, rfl, List.getElem?_set_self (ltX hA), ?_, hrm, h5, hsm, fun m y hm hy => hC m y hm ?_⟩, hsm⟩
  · simp only [List.length_append, hl, hr, List.length_drop]; omega
  · by_cases h8 : m < n * k
    · rw [if_neg (by omega)]
      rw [List.getElem?_append_left (by omega), List.getElem?_take_of_lt h8] at hy
      exact h7 m y h8 hy
    · rw [if_pos (by omega)]
      rw [List.getElem?_append_right (by omega), hl, List.getElem?_append_left (by rw [hr]; rw [Nat.add_mul] at hm; omega)] at hy
      exact hy
/-- .. and in a new box: L: what stood there. -/
theorem BX.grow {c' : Nat} {L r z : List AV} (hL : L.length = n * k) (hLs : ∀ y ∈ L, smp y) (hLC : ∀ m y, m < n * k → L[m]? = some y → C m y) (hc1 : n + 1 ≤ c') (hc2 : c' ≤ maxLen) (hG : G K.length) (hr : r.length = k) (hs : ∀ y ∈ r, smp y) (hz : z.length = k) (hzs : ∀ y ∈ z, smp y)
    (hC : ∀ m y, m < (n + 1) * k → (if n * k ≤ m then r[m - n * k]? = some y else C m y) → C' m y) : BX (K ++ [L ++ (r ++ (List.replicate (c' - (n + 1)) z).flatten)]) G k (.bx K.length 0 (n + 1) c' k) (n + 1) C' ∧ ∀ y ∈ L ++ (r ++ (List.replicate (c' - (n + 1)) z).flatten), smp y := by
  have hsm : ∀ y ∈ L ++ (r ++ (List.replicate (c' - (n + 1)) z).flatten), smp y := fun y hy => by
    rcases List.mem_append.1 hy with h | h
    · exact hLs y h
    · rcases List.mem_append.1 h with h | h
      · exact hs y h
      · obtain ⟨q, hq1, hq2⟩ := List.mem_flatten.1 h
        rw [(List.mem_replicate.1 hq1).2] at hq2
        exact hzs y hq2
  refine ⟨.inr ⟨K.length, c', L ++ (r ++ (List.replicate (c' - (n + 1)) z).flatten), hG, rfl, by simp, ?_, hc1, hc2, hsm, fun m y hm hy => hC m y hm ?_⟩, hsm⟩
  · have hf : (List.replicate (c' - (n + 1)) z).flatten.length = (c' - (n + 1)) * k := by
      rw [flat_len (k := k) (fun q hq => by rw [(List.mem_replicate.1 hq).2]; exact hz), List.length_replicate]
    rw [List.length_append, List.length_append, hL, hr, hf, ← Nat.add_assoc, ← Nat.succ_mul, ← Nat.add_mul]
    congr 1; omega
  · by_cases h8 : m < n * k
    · rw [if_neg (by omega)]
      rw [List.getElem?_append_left (by omega)] at hy
      exact hLC m y h8 hy
    · rw [if_pos (by omega)]
      rw [List.getElem?_append_right (by omega), hL, List.getElem?_append_left (by rw [hr]; rw [Nat.add_mul] at hm; omega)] at hy
      exact hy
/-- What stands in a slice. -/
theorem BX.cells {i c : Nat} {A : List AV} (h : BX K G k (.bx i 0 n c k) n C) (hA : K[i]? = some A) : (A.take (n * k)).length = n * k ∧ (∀ y ∈ A, smp y) ∧ n * k ≤ A.length ∧ A.length = c * k ∧ n ≤ c ∧ c ≤ maxLen ∧ G i ∧ (∀ m y, m < n * k → (A.take (n * k))[m]? = some y → C m y) ∧ ∀ m y, m < n * k → A[m]? = some y → C m y := by
  rcases h with ⟨_, e⟩ | ⟨i', c', A', h1, e, h2, h3, h4, h5, h6, h7⟩
  · cases e
  cases e
  rw [hA] at h2; cases h2
  have := mul_rows (k := k) h4
  exact ⟨by rw [List.length_take]; omega, h6, by omega, h3, h4, h5, h1, fun m y hm hy => by rw [List.getElem?_take_of_lt hm] at hy; exact h7 m y hm hy, h7⟩
end
end Go.Proofs.Ytgnjdfnjohgnlaa

set_option linter.unusedVariables false
set_option linter.unnecessarySimpa false
set_option linter.unusedSimpArgs false
set_option linter.unusedSectionVars false
set_option maxRecDepth 100000
namespace Go.Proofs.Ytgnjdfnjohgnlaa
open Go Go.RowKit

theorem rdyRow_smp (i : Int) (a r w b : Bool) : ∀ y ∈ rdyRow i a r w b, smp y := by simp [rdyRow]
def zRow : List AV := [.int .i64 0, .bool false, .bool false, .bool false, .bool false]
/-- What is known of a list that grows behind H. -/
structure RB (H K : Hp) (v : AV) (n : Nat) : Prop where
  len : H.length ≤ K.length
  keep : ∀ j, j < H.length → K[j]? = H[j]?
  bx : BX K (fun i => H.length ≤ i) 5 v n (fun _ _ => True)
  bd : BndH K.length K
theorem shareW {I P : List AV → Hp → Prop} {G : Prop} (main : (∀ fr H', I fr H' → P fr H') → G) (tail : ∀ fr H', I fr H' → P fr H') : G := main tail
section
variable {H K : Hp} {v : AV} {n : Nat}
theorem RB.app (h : RB H K v n) (J : Hp) (hJ : ∀ l ∈ J, ∀ y ∈ l, smp y) : RB H (K ++ J) v n :=
  ⟨by simp; have := h.len; omega, fun j hj => by rw [List.getElem?_append_left (by have := h.len; omega)]; exact h.keep j hj, h.bx.app J, bndX_app (bndX_up h.bd (by simp)) fun l hl x hx => (hJ l hl x hx).bnd _⟩
theorem RB.first (h : RB H K .nil 0) {c : Nat} (hc1 : 1 ≤ c) (hc2 : c ≤ maxLen) (r : List AV) (hr : r.length = 5) (hs : ∀ y ∈ r, smp y) : RB H (K ++ [r ++ (List.replicate (c - 1) zRow).flatten]) (.bx K.length 0 1 c 5) 1 := by
  obtain ⟨b1, b2⟩ := BX.grow (K := K) (G := fun i => H.length ≤ i) (n := 0) (k := 5) (C := fun _ _ => True) (C' := fun _ _ => True) (c' := c) (L := []) (r := r) (z := zRow) (by simp) (by simp) (fun _ _ _ _ => trivial) (by omega) hc2 h.len hr hs rfl (by simp [zRow]) (fun _ _ _ _ => trivial)
  simp only [List.nil_append, Nat.zero_add] at b1 b2
  exact ⟨by simp; have := h.len; omega, fun j hj => by rw [List.getElem?_append_left (by have := h.len; omega)]; exact h.keep j hj, b1, bndX_app (bndX_up h.bd (by simp)) fun l hl x hx => by simp at hl; subst hl; exact (b2 x (by simpa using hx)).bnd _⟩
theorem RB.room {i c : Nat} {A : List AV} (h : RB H K (.bx i 0 n c 5) n) (hA : K[i]? = some A) (hrm : n + 1 ≤ c) (r : List AV) (hr : r.length = 5) (hs : ∀ y ∈ r, smp y) : RB H (K.set i (A.take (n * 5) ++ (r ++ A.drop (n * 5 + 5)))) (.bx i 0 (n + 1) c 5) (n + 1) := by
  obtain ⟨b1, b2⟩ := h.bx.room hA hrm hr hs (C' := fun _ _ => True) (fun _ _ _ _ => trivial)
  have hi := (h.bx.lt _ _ _ _ _ rfl).1
  exact ⟨by simp; exact h.len, fun j hj => by rw [getNX (by omega)]; exact h.keep j hj, b1, by rw [List.length_set]; exact bndX_put h.bd _ fun x hx => (b2 x hx).bnd _⟩
theorem RB.mark {i c : Nat} {A : List AV} (h : RB H K (.bx i 0 n c 5) n) (hA : K[i]? = some A) {j : Nat} (hj : j < n) (r : List AV) (hr : r.length = 5) (hs : ∀ y ∈ r, smp y) : RB H (K.set i (A.take (j * 5) ++ (r ++ A.drop (j * 5 + 5)))) (.bx i 0 n c 5) n := by
  obtain ⟨b1, b2⟩ := h.bx.mark hA hj hr hs (C' := fun _ _ => True) (fun _ _ _ _ => trivial)
  have hi := (h.bx.lt _ _ _ _ _ rfl).1
  exact ⟨by simp; exact h.len, fun j hj => by rw [getNX (by omega)]; exact h.keep j hj, b1, by rw [List.length_set]; exact bndX_put h.bd _ fun x hx => (b2 x hx).bnd _⟩
theorem RB.grow {i c c' : Nat} {A : List AV} (h : RB H K (.bx i 0 n c 5) n) (hA : K[i]? = some A) (hc1 : n + 1 ≤ c') (hc2 : c' ≤ maxLen) (r : List AV) (hr : r.length = 5) (hs : ∀ y ∈ r, smp y) : RB H (K ++ [A.take (n * 5) ++ (r ++ (List.replicate (c' - (n + 1)) zRow).flatten)]) (.bx K.length 0 (n + 1) c' 5) (n + 1) := by
  obtain ⟨a1, a2, _⟩ := h.bx.cells hA
  obtain ⟨b1, b2⟩ := BX.grow (K := K) (G := fun i => H.length ≤ i) (n := n) (k := 5) (C := fun _ _ => True) (C' := fun _ _ => True) (c' := c') (L := A.take (n * 5)) (r := r) (z := zRow) a1 (fun y hy => a2 y (List.mem_of_mem_take hy)) (fun _ _ _ _ => trivial) hc1 hc2 h.len hr hs rfl (by simp [zRow]) (fun _ _ _ _ => trivial)
  exact ⟨by simp; have := h.len; omega, fun j hj => by rw [List.getElem?_append_left (by have := h.len; omega)]; exact h.keep j hj, b1, bndX_app (bndX_up h.bd (by simp)) fun l hl x hx => by simp only [List.mem_cons, List.not_mem_nil, or_false] at hl; subst hl; exact (b2 x hx).bnd _⟩
end
def rdbInv (w : Nat) (cs : List Nat) (ms : List Cn) (R0 : List (List AV)) (H : Hp) (fr : List AV) (K : Hp) : Prop := ∃ (i n : Nat) (v : AV), i ≤ cs.length ∧ n = (R0 ++ rdyTo ms i).length ∧ RB H K v n ∧
  ∃ x : Nat → AV, fr = [.ptr (some (w, 0)), x 1, x 2, v, x 4, x 5, x 6, x 7, x 8, x 9, x 10, x 11, x 12, x 13, x 14, x 15, x 16, x 17, x 18, .sl false 1 (ptrs cs), .int .i64 cs.length, .int .i64 i, x 22, x 23, x 24, x 25, x 26, x 27, x 28, x 29, x 30, x 31, x 32, x 33, x 34, x 35, x 36, x 37, x 38, x 39, x 40, x 41, x 42, x 43, x 44, x 45, x 46, x 47, x 48, x 49, x 50, x 51, x 52, x 53, x 54, x 55, x 56, x 57, x 58, x 59, x 60, x 61, x 62, x 63, x 64, x 65, x 66, x 67, x 68, x 69, x 70, x 71, x 72, x 73, x 74, x 75, x 76, x 77, x 78, x 79, x 80, x 81]
section
variable (E : Env) (H : Hp) (w : Option Nat) (cs : List Nat) (ms : List Cn) (Q : AV → Hp → Prop) (hw : WO H w cs ms) (hl : ms.length ≤ 4096)
include hw hl
set_option maxHeartbeats 16000000 in
theorem ready_bx (hQ : ∀ v K, RB H K v (mReady ms).length → Q v K) : PC Try.prog E 23 [wpt w] H Q := by
  cases w with
  | none =>
    refine pc_enter Try.func23 rfl [] [(5, [0, 0, 0, 3]), (16, [0, 0, 0, 3])] (by kernel_rfl) (fun hB => ?_)
    simp [Try.ntmps23, Try.results23, List.replicate_succ, wpt]
    have e : mReady ms = [] := by rw [hw.2]; rfl
    have hq := hQ .nil H ⟨Nat.le_refl _, fun _ _ => rfl, by rw [e]; exact .nil, hB⟩
    exact aPost_same0 hB rfl (nilV_refl _) (by simp) hq
  | some w =>
    have hbx := hw.box
    have hlen := hw.len
    have hwl := at_lt hbx
    refine pc_enter Try.func23 rfl [] [(5, [0, 0, 0, 3]), (16, [0, 0, 0, 3])] (by kernel_rfl) (fun hB => ?_)
    simp [Try.ntmps23, Try.results23, List.replicate_succ, wpt]
    refine waiting_pc E H (some w) cs ms _ hw hl ?_
    have hm1 : 1 ≤ maxLen := by unfold maxLen; omega
    obtain ⟨R0, hR0, hR1⟩ : ∃ R0, mReady ms = R0 ++ rdyTo ms ms.length ∧ R0.length ≤ 1 := ⟨_, rfl, by split <;> simp⟩
    apply shareW (I := rdbInv w cs ms R0 H)
    · intro hgo
      by_cases hc : 0 < mCount ms ms.length
      · have e0 : R0 = [rdyRow (-1) true false false false] := by
          have : mReady ms = [rdyRow (-1) true false false false] ++ rdyTo ms ms.length := by unfold mReady; rw [if_pos hc]
          rw [hR0] at this; exact List.append_cancel_right this
        simp [hc, hm1]
        refine VGrow_intro fun c hc1 hc2 => ?_
        simp [getX hwl, hbx, ptrs_len]
        have hf := RB.first (H := H) (K := H) ⟨Nat.le_refl _, fun _ _ => rfl, .nil, hB⟩ hc1 hc2 _ rfl (rdyRow_smp (-1) true false false false)
        exact hgo _ _ ⟨0, 1, _, by omega, by rw [e0]; simp [rdyTo], by simpa [rdyRow, zRow] using hf, fr_intro (by simp)⟩
      · have e0 : R0 = [] := by
          have : mReady ms = [] ++ rdyTo ms ms.length := by unfold mReady; rw [if_neg hc]
          rw [hR0] at this; exact List.append_cancel_right this
        simp [hc, hbx, ptrs_len]
        exact hgo _ _ ⟨0, 0, .nil, by omega, by rw [e0]; simp [rdyTo], ⟨Nat.le_refl _, fun _ _ => rfl, .nil, hB⟩, fr_intro (by simp)⟩
    · intro fr K hI
      refine VL_go (rdbInv w cs ms R0 H) (fun fr _ => cs.length - (ai (aget fr 21)).toNat) hI ?_
      clear hI
      rintro fr K ⟨i, n, v, hi, hn, hrb, x, rfl⟩
      by_cases h : i < cs.length
      · obtain ⟨c, hcc⟩ : ∃ c, cs[i]? = some c := ⟨_, List.getElem?_eq_getElem h⟩
        obtain ⟨m, hm⟩ : ∃ m, ms[i]? = some m := ⟨_, List.getElem?_eq_getElem (by omega)⟩
        have hat := ptrs_at hcc
        have hw2 : IntKind.i64.wrap ((i : Int) + 1) = i + 1 := wrap_in (by omega) (by omega)
        have hcm0 := hw.conn i c m hcc hm
        have hcm : K[c]? = some m.av := (hrb.keep c (at_lt hcm0)).trans hcm0
        have hlt := at_lt hcm
        have hstep : rdyTo ms (i + 1) = rdyTo ms i ++ rdy i m := by rw [rdyTo, hm]
        have hrl : n ≤ i + 1 := by rw [hn, List.length_append]; have := rdyTo_len ms i; omega
        have hm2 : n + 1 ≤ maxLen := by unfold maxLen; omega
        have hm3 : (n + 1) * 16 ≤ 140737488355328 := by omega
        have hnil : rdy i m = [] → (R0 ++ rdyTo ms (i + 1)).length = n := fun e => by rw [hstep, e, hn]; simp
        have hone : ∀ r, rdy i m = [r] → (R0 ++ rdyTo ms (i + 1)).length = n + 1 := fun r e => by rw [hstep, e, hn]; simp; omega
        have hv : (n = 0 ∧ v = .nil) ∨ ∃ vi vc A, v = .bx vi 0 n vc 5 ∧ K[vi]? = some A ∧ n * 5 ≤ A.length ∧ A.length = vc * 5 ∧ (∀ y ∈ A, smp y) := by
          rcases hrb.bx with h | ⟨vi, vc, A, h1, h2, h3, h4, h5, h6, h7, _⟩
          · exact .inl h
          · exact .inr ⟨vi, vc, A, h2, h3, by have := mul_rows (k := 5) h5; omega, h4, h7⟩
        unfold Cn.av at hcm
        cases ha : m.acc
        · rw [ha] at hcm
          have hr : rdy i m = [] := by simp [rdy, ha]
          simp [h, hat, hcm, hw2]
          refine Kloop_normal ?_ ?_
          rotate_left
          · simp; omega
          exact ⟨i + 1, n, v, by omega, (hnil hr).symm, hrb, fr_intro (by simp)⟩
        · cases hcl : m.cls
          · cases hrs : m.rst
            · have key : ∀ (r wr : Bool), r = (m.ri && decide (0 < m.rg)) → wr = (m.wi && decide (0 < m.wg)) → rdy i m = if r || wr then [rdyRow i false r wr false] else [] := by
                rintro r wr rfl rfl
                unfold rdy
                rw [if_neg (by simp [ha, hcl]), hrs]
                simp
              cases hri : m.ri <;> cases hwi : m.wi <;> by_cases hg : 0 < m.rg <;> by_cases hg2 : 0 < m.wg <;> rw [ha, hcl, hrs, hri, hwi] at hcm <;> rw [hri, hwi] at key <;>
                (have hr := key _ _ rfl rfl
                 simp [hg, hg2] at hr
                 first
                 | (have hlen1 := hnil hr
                    simp [h, hat, getX hlt, hcm, hw2, hg, hg2]
                    refine Kloop_normal ?_ ?_
                    rotate_left
                    · simp; omega
                    exact ⟨i + 1, n, v, by omega, hlen1.symm, hrb.app _ (by simp), fr_intro (by simp)⟩)
                 | (have hlen1 := hone _ hr
                    first
                    | (rcases hv with ⟨hn0, rfl⟩ | ⟨vi, vc, A, rfl, hA, hA1, hA2, hA3⟩
                       · have hm4 : 1 ≤ maxLen := hm1
                         have hj : RB H (K ++ [[AV.int .i64 i, .bool false, .bool false, .bool true, .bool false]]) .nil 0 := by have := hrb.app [[AV.int .i64 i, .bool false, .bool false, .bool true, .bool false]] (by simp); rwa [hn0] at this
                         simp [h, hat, getX hlt, hcm, hw2, hm4, hg, hg2]
                         refine VGrow_intro fun c' hc1 hc2 => ?_
                         simp [h, hat, getX hlt, hcm, hw2, hg, hg2]
                         have hf := hj.first hc1 hc2 [AV.int .i64 i, .bool false, .bool false, .bool true, .bool false] rfl (by simp)
                         refine Kloop_normal ?_ ?_
                         rotate_left
                         · simp; omega
                         exact ⟨i + 1, 1, _, by omega, by rw [hlen1, hn0], by simpa [zRow] using hf, fr_intro (by simp)⟩
                       · have hAl := at_lt hA
                         have hfree : (∀ y ∈ A.take (n * 5), y.free = true) = True := eq_true fun y hy => (hA3 y (List.mem_of_mem_take hy)).free
                         have hj := hrb.app [[AV.int .i64 i, .bool false, .bool false, .bool true, .bool false]] (by simp)
                         have hA' : (K ++ [[AV.int .i64 i, .bool false, .bool false, .bool true, .bool false]])[vi]? = some A := (getX hAl K _ rfl).trans hA
                         by_cases hroom : n + 1 ≤ vc
                         · have hle3 : (n + 1) * 5 ≤ A.length := by rw [hA2]; exact mul_rows hroom
                           simp [h, hat, getX hlt, hcm, hw2, hg, hg2, setX hAl, getX hAl, hA, hfree, hroom, hA1, hle3]
                           have hf := hj.room hA' hroom [AV.int .i64 i, .bool false, .bool false, .bool true, .bool false] rfl (by simp)
                           refine Kloop_normal ?_ ?_
                           rotate_left
                           · simp; omega
                           exact ⟨i + 1, n + 1, _, by omega, hlen1.symm, by simpa [setX hAl] using hf, fr_intro (by simp)⟩
                         · simp [h, hat, getX hlt, hcm, hw2, hg, hg2, setX hAl, getX hAl, hA, hfree, hroom, hA1, hm2, hm3]
                           refine VGrow_intro fun c' hc1 hc2 => ?_
                           simp [h, hat, getX hlt, hcm, hw2, hg, hg2]
                           have hf := hj.grow hA' hc1 hc2 [AV.int .i64 i, .bool false, .bool false, .bool true, .bool false] rfl (by simp)
                           refine Kloop_normal ?_ ?_
                           rotate_left
                           · simp; omega
                           exact ⟨i + 1, n + 1, _, by omega, hlen1.symm, by simpa [zRow] using hf, fr_intro (by simp)⟩)
                    | (rcases hv with ⟨hn0, rfl⟩ | ⟨vi, vc, A, rfl, hA, hA1, hA2, hA3⟩
                       · have hm4 : 1 ≤ maxLen := hm1
                         have hj : RB H (K ++ [[AV.int .i64 i, .bool false, .bool true, .bool false, .bool false]]) .nil 0 := by have := hrb.app [[AV.int .i64 i, .bool false, .bool true, .bool false, .bool false]] (by simp); rwa [hn0] at this
                         simp [h, hat, getX hlt, hcm, hw2, hm4, hg, hg2]
                         refine VGrow_intro fun c' hc1 hc2 => ?_
                         simp [h, hat, getX hlt, hcm, hw2, hg, hg2]
                         have hf := hj.first hc1 hc2 [AV.int .i64 i, .bool false, .bool true, .bool false, .bool false] rfl (by simp)
                         refine Kloop_normal ?_ ?_
                         rotate_left
                         · simp; omega
                         exact ⟨i + 1, 1, _, by omega, by rw [hlen1, hn0], by simpa [zRow] using hf, fr_intro (by simp)⟩
                       · have hAl := at_lt hA
                         have hfree : (∀ y ∈ A.take (n * 5), y.free = true) = True := eq_true fun y hy => (hA3 y (List.mem_of_mem_take hy)).free
                         have hj := hrb.app [[AV.int .i64 i, .bool false, .bool true, .bool false, .bool false]] (by simp)
                         have hA' : (K ++ [[AV.int .i64 i, .bool false, .bool true, .bool false, .bool false]])[vi]? = some A := (getX hAl K _ rfl).trans hA
                         by_cases hroom : n + 1 ≤ vc
                         · have hle3 : (n + 1) * 5 ≤ A.length := by rw [hA2]; exact mul_rows hroom
                           simp [h, hat, getX hlt, hcm, hw2, hg, hg2, setX hAl, getX hAl, hA, hfree, hroom, hA1, hle3]
                           have hf := hj.room hA' hroom [AV.int .i64 i, .bool false, .bool true, .bool false, .bool false] rfl (by simp)
                           refine Kloop_normal ?_ ?_
                           rotate_left
                           · simp; omega
                           exact ⟨i + 1, n + 1, _, by omega, hlen1.symm, by simpa [setX hAl] using hf, fr_intro (by simp)⟩
                         · simp [h, hat, getX hlt, hcm, hw2, hg, hg2, setX hAl, getX hAl, hA, hfree, hroom, hA1, hm2, hm3]
                           refine VGrow_intro fun c' hc1 hc2 => ?_
                           simp [h, hat, getX hlt, hcm, hw2, hg, hg2]
                           have hf := hj.grow hA' hc1 hc2 [AV.int .i64 i, .bool false, .bool true, .bool false, .bool false] rfl (by simp)
                           refine Kloop_normal ?_ ?_
                           rotate_left
                           · simp; omega
                           exact ⟨i + 1, n + 1, _, by omega, hlen1.symm, by simpa [zRow] using hf, fr_intro (by simp)⟩)
                    | (rcases hv with ⟨hn0, rfl⟩ | ⟨vi, vc, A, rfl, hA, hA1, hA2, hA3⟩
                       · have hm4 : 1 ≤ maxLen := hm1
                         have hj : RB H (K ++ [[AV.int .i64 i, .bool false, .bool true, .bool true, .bool false]]) .nil 0 := by have := hrb.app [[AV.int .i64 i, .bool false, .bool true, .bool true, .bool false]] (by simp); rwa [hn0] at this
                         simp [h, hat, getX hlt, hcm, hw2, hm4, hg, hg2]
                         refine VGrow_intro fun c' hc1 hc2 => ?_
                         simp [h, hat, getX hlt, hcm, hw2, hg, hg2]
                         have hf := hj.first hc1 hc2 [AV.int .i64 i, .bool false, .bool true, .bool true, .bool false] rfl (by simp)
                         refine Kloop_normal ?_ ?_
                         rotate_left
                         · simp; omega
                         exact ⟨i + 1, 1, _, by omega, by rw [hlen1, hn0], by simpa [zRow] using hf, fr_intro (by simp)⟩
                       · have hAl := at_lt hA
                         have hfree : (∀ y ∈ A.take (n * 5), y.free = true) = True := eq_true fun y hy => (hA3 y (List.mem_of_mem_take hy)).free
                         have hj := hrb.app [[AV.int .i64 i, .bool false, .bool true, .bool true, .bool false]] (by simp)
                         have hA' : (K ++ [[AV.int .i64 i, .bool false, .bool true, .bool true, .bool false]])[vi]? = some A := (getX hAl K _ rfl).trans hA
                         by_cases hroom : n + 1 ≤ vc
                         · have hle3 : (n + 1) * 5 ≤ A.length := by rw [hA2]; exact mul_rows hroom
                           simp [h, hat, getX hlt, hcm, hw2, hg, hg2, setX hAl, getX hAl, hA, hfree, hroom, hA1, hle3]
                           have hf := hj.room hA' hroom [AV.int .i64 i, .bool false, .bool true, .bool true, .bool false] rfl (by simp)
                           refine Kloop_normal ?_ ?_
                           rotate_left
                           · simp; omega
                           exact ⟨i + 1, n + 1, _, by omega, hlen1.symm, by simpa [setX hAl] using hf, fr_intro (by simp)⟩
                         · simp [h, hat, getX hlt, hcm, hw2, hg, hg2, setX hAl, getX hAl, hA, hfree, hroom, hA1, hm2, hm3]
                           refine VGrow_intro fun c' hc1 hc2 => ?_
                           simp [h, hat, getX hlt, hcm, hw2, hg, hg2]
                           have hf := hj.grow hA' hc1 hc2 [AV.int .i64 i, .bool false, .bool true, .bool true, .bool false] rfl (by simp)
                           refine Kloop_normal ?_ ?_
                           rotate_left
                           · simp; omega
                           exact ⟨i + 1, n + 1, _, by omega, hlen1.symm, by simpa [zRow] using hf, fr_intro (by simp)⟩)))
            · rw [ha, hcl, hrs] at hcm
              have hr : rdy i m = [rdyRow i false false false true] := by simp [rdy, ha, hcl, hrs]
              have hlen1 := hone _ hr
              rcases hv with ⟨hn0, rfl⟩ | ⟨vi, vc, A, rfl, hA, hA1, hA2, hA3⟩
              · have hm4 : 1 ≤ maxLen := hm1
                have hj : RB H (K ++ [[AV.int .i64 i, .bool false, .bool false, .bool false, .bool true]]) .nil 0 := by have := hrb.app [[AV.int .i64 i, .bool false, .bool false, .bool false, .bool true]] (by simp); rwa [hn0] at this
                simp [h, hat, getX hlt, hcm, hw2, hm4]
                refine VGrow_intro fun c' hc1 hc2 => ?_
                simp [h, hat, getX hlt, hcm, hw2]
                have hf := hj.first hc1 hc2 [AV.int .i64 i, .bool false, .bool false, .bool false, .bool true] rfl (by simp)
                refine Kloop_normal ?_ ?_
                rotate_left
                · simp; omega
                exact ⟨i + 1, 1, _, by omega, by rw [hlen1, hn0], by simpa [zRow] using hf, fr_intro (by simp)⟩
              · have hAl := at_lt hA
                have hfree : (∀ y ∈ A.take (n * 5), y.free = true) = True := eq_true fun y hy => (hA3 y (List.mem_of_mem_take hy)).free
                have hj := hrb.app [[AV.int .i64 i, .bool false, .bool false, .bool false, .bool true]] (by simp)
                have hA' : (K ++ [[AV.int .i64 i, .bool false, .bool false, .bool false, .bool true]])[vi]? = some A := (getX hAl K _ rfl).trans hA
                by_cases hroom : n + 1 ≤ vc
                · have hle3 : (n + 1) * 5 ≤ A.length := by rw [hA2]; exact mul_rows hroom
                  simp [h, hat, getX hlt, hcm, hw2, setX hAl, getX hAl, hA, hfree, hroom, hA1, hle3]
                  have hf := hj.room hA' hroom [AV.int .i64 i, .bool false, .bool false, .bool false, .bool true] rfl (by simp)
                  refine Kloop_normal ?_ ?_
                  rotate_left
                  · simp; omega
                  exact ⟨i + 1, n + 1, _, by omega, hlen1.symm, by simpa [setX hAl] using hf, fr_intro (by simp)⟩
                · simp [h, hat, getX hlt, hcm, hw2, setX hAl, getX hAl, hA, hfree, hroom, hA1, hm2, hm3]
                  refine VGrow_intro fun c' hc1 hc2 => ?_
                  simp [h, hat, getX hlt, hcm, hw2]
                  have hf := hj.grow hA' hc1 hc2 [AV.int .i64 i, .bool false, .bool false, .bool false, .bool true] rfl (by simp)
                  refine Kloop_normal ?_ ?_
                  rotate_left
                  · simp; omega
                  exact ⟨i + 1, n + 1, _, by omega, hlen1.symm, by simpa [zRow] using hf, fr_intro (by simp)⟩
          · rw [ha, hcl] at hcm
            have hr : rdy i m = [] := by simp [rdy, hcl]
            simp [h, hat, hcm, hw2]
            refine Kloop_normal ?_ ?_
            rotate_left
            · simp; omega
            exact ⟨i + 1, n, v, by omega, (hnil hr).symm, hrb, fr_intro (by simp)⟩
      · simp [h]
        have : i = ms.length := by omega
        subst this
        rw [← hR0] at hn
        have hq := hQ v K (by rw [← hn]; exact hrb)
        obtain ⟨vf, vo, vd, vb⟩ := hrb.bx.facts
        exact aPost_upX (v := v) (by simp [vd]) hrb.len hrb.bd vb hq
end
end Go.Proofs.Ytgnjdfnjohgnlaa

set_option linter.unusedVariables false
set_option linter.unnecessarySimpa false
set_option linter.unusedSimpArgs false
set_option linter.unusedSectionVars false
set_option maxRecDepth 100000
namespace Go.Proofs.Ytgnjdfnjohgnlaa
open Go Go.RowKit

theorem WO.keepH {K K2 : Hp} {w : Option Nat} {cs : List Nat} {ms : List Cn} (h : WO K w cs ms) (hk : ∀ j, j < K.length → K2[j]? = K[j]?) : WO K2 w cs ms := by
  cases w with
  | none => exact h
  | some b => exact ⟨(hk b (at_lt h.box)).trans h.box, h.len, fun i c m hc hm => (hk c (at_lt (h.conn i c m hc hm))).trans (h.conn i c m hc hm), h.nd⟩
def wmI (H : Hp) (sc : List OpA) (fr : List AV) (H' : Hp) : Prop := ∃ i : Nat, i ≤ sc.length ∧ ∃ cs ms v, WO H' (some H.length) cs ms ∧ (∀ c ∈ cs, H.length ≤ c) ∧ H.length ≤ H'.length ∧ (∀ j, j < H.length → H'[j]? = H[j]?) ∧ ms.length ≤ 4096 ∧ goods (opw (sc.take i)) ms ∧
  H'[H.length + 1]? = some v ∧ DV false ms v ∧ H.length + 1 ∉ cs ∧
  ∃ x : Nat → AV, fr = [x 0, x 1, x 2, .ptr (some (H.length, 0)), .ptr (some (H.length + 1, 0)), x 5, x 6, x 7, x 8, x 9, x 10, x 11, x 12, x 13, x 14, x 15, x 16, .sl false 10 (ops sc), .int .i64 sc.length, .int .i64 i, x 20, x 21, x 22, x 23, x 24, x 25, x 26, x 27, x 28, x 29, x 30, x 31, x 32, x 33, x 34, x 35, x 36, x 37, x 38, x 39, x 40, x 41, x 42, x 43, x 44, x 45, x 46, x 47, x 48, x 49, x 50, x 51, x 52, x 53, x 54, x 55, x 56, x 57, x 58, x 59, x 60, x 61, x 62, x 63, x 64, x 65, x 66, x 67, x 68, x 69, x 70, x 71, x 72, x 73, x 74]
/-- Inside: K1: the boxes where the lists came out. -/
def wmA (H K1 : Hp) (sc : List OpA) (ms : List Cn) (i : Nat) (fr : List AV) (K : Hp) : Prop := ∃ (j : Nat) (v : AV), j ≤ (mReady ms).length ∧ RB K1 K v (mReady ms).length ∧
  ∃ x : Nat → AV, fr = [x 0, x 1, x 2, .ptr (some (H.length, 0)), .ptr (some (H.length + 1, 0)), x 5, x 6, x 7, v, .sl false 5 (mReady ms), x 10, x 11, x 12, x 13, x 14, x 15, x 16, .sl false 10 (ops sc), .int .i64 sc.length, .int .i64 i, x 20, x 21, x 22, x 23, x 24, x 25, x 26, x 27, x 28, x 29, x 30, x 31, x 32, x 33, x 34, x 35, x 36, .int .i64 (mReady ms).length, .int .i64 j, x 39, x 40, x 41, x 42, x 43, x 44, x 45, x 46, x 47, x 48, x 49, x 50, x 51, x 52, x 53, x 54, x 55, x 56, x 57, x 58, x 59, x 60, x 61, x 62, x 63, x 64, x 65, x 66, x 67, x 68, x 69, x 70, x 71, x 72, x 73, x 74]
def wmB (H K1 : Hp) (sc : List OpA) (ms : List Cn) (i : Nat) (fr : List AV) (K : Hp) : Prop := ∃ (j : Nat) (v : AV), j ≤ 9 ∧ RB K1 K v ((mReady ms).length + j) ∧
  ∃ x : Nat → AV, fr = [x 0, x 1, x 2, .ptr (some (H.length, 0)), .ptr (some (H.length + 1, 0)), x 5, x 6, x 7, v, .sl false 5 (mReady ms), x 10, x 11, x 12, x 13, x 14, x 15, x 16, .sl false 10 (ops sc), .int .i64 sc.length, .int .i64 i, x 20, x 21, x 22, x 23, x 24, x 25, x 26, x 27, x 28, x 29, x 30, x 31, x 32, x 33, x 34, x 35, x 36, x 37, x 38, x 39, x 40, x 41, x 42, x 43, x 44, x 45, .int .i64 j, x 47, x 48, x 49, x 50, x 51, x 52, x 53, x 54, x 55, x 56, x 57, x 58, x 59, x 60, x 61, x 62, x 63, x 64, x 65, x 66, x 67, x 68, x 69, x 70, x 71, x 72, x 73, x 74]
set_option maxHeartbeats 8000000 in
theorem wmemory_pc (E : Env) (H : Hp) (Q : AV → Hp → Prop) (sc : List OpA) (hl : sc.length ≤ 1048576) (hsz : opw sc ≤ 1048576) (hQ : Q (.bool true) H) :
    PC Try.prog E 8 [.sl false 10 (ops sc)] H Q := by
  refine pc_enter Try.func8 rfl [] [(21, [0, 0, 0, 3]), (23, [0, 0, 0, 0, 0, 0, 0, 1])] (by kernel_rfl) (fun hB => ?_)
  simp [Try.ntmps8, Try.results8, List.replicate_succ]
  refine awake_pc E H _ ?_
  simp
  refine new_pc E H _ ?_
  simp
  have hwn := WO.new H
  refine VL_go (wmI H sc) (fun fr _ => sc.length - (ai (aget fr 19)).toNat) ⟨0, by omega, [], [], [.bool false, .nil], by have := WO.app2 hwn [[.bool false, .nil]]; rw [List.append_assoc] at this; exact this, by simp, by simp, fun j hj => by rw [List.getElem?_append_left hj], by simp, (fun m hm => by cases hm), by simp, .inr ⟨rfl, rfl⟩, by simp, fr_intro (by simp)⟩ ?_
  clear hwn
  rintro fr H' ⟨i, hi, cs, ms, v, hwo, hcs, hlen, hkeep, hml, hg, hb, hdv, hbc, x, rfl⟩
  by_cases h : i < sc.length
  · obtain ⟨o, ho⟩ : ∃ o, sc[i]? = some o := ⟨_, List.getElem?_eq_getElem h⟩
    have hat := ops_at ho
    have hw' : IntKind.i64.wrap ((i : Int) + 1) = i + 1 := wrap_in (by omega) (by omega)
    have hbl := at_lt hb
    have htk := opw_take ho
    have hle := opw_le sc (i + 1)
    have hwb : (some H.length : Option Nat) ≠ some (H.length + 1) := by simp
    rcases hdv with rfl | ⟨rfl, rfl⟩
    all_goals
      simp [h, hat, OpA.av, hb, hs0 hbl]
      refine step3_pc E _ _ cs _ _ (WO.app2 hwo _) hml (v := _) (by first | exact .inl rfl | exact .inr ⟨rfl, rfl⟩) o _ hg (by omega) (fun H2 cs2 ms2 hw2 hu2 hg2 hl2 hB2 => ?_)
      obtain ⟨hb2, hbc2⟩ := hu2.kept (by rw [List.getElem?_append_left hbl]; exact hb) hwb hbc
      have hbl2 := at_lt hb2
      have hlen2 := hu2.len
      simp at hlen2
      simp [dW, hb2]
      obtain ⟨K1, hK1⟩ : ∃ K1, H2.set (H.length + 1) [.bool false, .sl false 11 (dRows ms2)] = K1 := ⟨_, rfl⟩
      have hw3 : WO K1 (some H.length) cs2 ms2 := by rw [← hK1]; exact hw2.setOther hbc2 hwb _
      have hk1l : K1.length = H2.length := by rw [← hK1]; simp
      have hk1b : K1[H.length + 1]? = some [.bool false, .sl false 11 (dRows ms2)] := by rw [← hK1]; exact List.getElem?_set_self hbl2
      have hk1k : ∀ j, j < H.length → K1[j]? = H[j]? := fun j hj => by
        rw [← hK1, List.getElem?_set_ne (by omega), hu2.keep j (by simp; omega) (fun e => by cases e; omega) (fun e => by have := hcs j e; omega), List.getElem?_append_left (by omega)]
        exact hkeep j hj
      have hcs2 : ∀ c ∈ cs2, H.length ≤ c := fun c hc => by
        rcases hu2.new c hc with h' | h'
        · exact hcs c h'
        · simp at h'; omega
      rw [hK1]
      refine ready_bx E K1 (some H.length) cs2 ms2 _ hw3 hl2 (fun v K hrb => ?_)
      obtain ⟨vf, vo, vd, vb⟩ := hrb.bx.facts
      simp [vd]
      refine ready_pc E K (some H.length) cs2 ms2 _ (hw3.keepH hrb.keep) hl2 ?_
      have hvl : ∀ t, (tsl Try.prog t).isSome = true → alen Try.prog t v = some (.int .i64 (mReady ms2).length) := fun t h => hrb.bx.alen h
      simp [-alen, hvl, vd]
      have hml5 := mReady_len hl2
      refine VL_go (wmA H K1 sc ms2 i) (fun fr _ => (mReady ms2).length - (ai (aget fr 38)).toNat) ⟨0, v, by omega, hrb, fr_intro (by simp)⟩ ?_
      clear hrb vf vo vd vb hvl
      rintro fr K ⟨j, v, hj, hrb, x, rfl⟩
      by_cases hlt : j < (mReady ms2).length
      · rcases id hrb.bx with ⟨h0, _⟩ | ⟨vi, vc, A, h1, rfl, hA, h3, h4, h5, h6, _⟩
        · omega
        have hjl : j * 5 + 5 ≤ A.length := by rw [h3]; have := mul_rows (k := 5) (show j + 1 ≤ vc by omega); omega
        have hwj : IntKind.i64.wrap ((j : Int) + 1) = j + 1 := wrap_in (by omega) (by omega)
        simp [hlt, hA, hjl, hwj]
        have hf := hrb.mark hA hlt [.int .i64 77, .bool false, .bool false, .bool false, .bool false] rfl (by simp)
        exact Kloop_normal ⟨j + 1, _, by omega, hf, fr_intro (by simp)⟩ (by simp; omega)
      obtain rfl : j = (mReady ms2).length := by omega
      simp
      refine VL_go (wmB H K1 sc ms2 i) (fun fr _ => 9 - (ai (aget fr 46)).toNat) ⟨0, v, by omega, hrb, fr_intro (by simp)⟩ ?_
      clear hrb hlt hj
      rintro fr K ⟨j, v, hj, hrb, x, rfl⟩
      by_cases hlt : j < 9
      · have h9 : (j : Int) < 9 := by omega
        have hwj : IntKind.i64.wrap ((j : Int) + 1) = j + 1 := wrap_in (by omega) (by omega)
        obtain ⟨n, hn⟩ : ∃ n, (mReady ms2).length + j = n := ⟨_, rfl⟩
        have hn1 : (mReady ms2).length + (j + 1) = n + 1 := by omega
        rw [hn] at hrb
        have m1 : n + 1 ≤ maxLen := by unfold maxLen; omega
        have m2 : (n + 1) * 16 ≤ 140737488355328 := by omega
        rcases id hrb.bx with ⟨h0, rfl⟩ | ⟨vi, vc, A, h1, rfl, hA, h3, h4, h5, h6, _⟩
        · subst h0
          have m0 : 1 ≤ maxLen := by unfold maxLen; omega
          simp [h9, m0]
          refine VGrow_intro fun c hc1 hc2 => ?_
          simp [hwj]
          have hf := hrb.first hc1 hc2 [.int .i64 99, .bool false, .bool false, .bool false, .bool false] rfl (by simp)
          exact Kloop_normal ⟨j + 1, _, by omega, by rw [hn1]; simpa [zRow] using hf, fr_intro (by simp)⟩ (by simp; omega)
        · have hfree : (∀ y ∈ A.take (n * 5), y.free = true) = True := eq_true fun y hy => (h6 y (List.mem_of_mem_take hy)).free
          have hA1 : n * 5 ≤ A.length := by rw [h3]; exact mul_rows h4
          by_cases hroom : n + 1 ≤ vc
          · have hA3 : (n + 1) * 5 ≤ A.length := by rw [h3]; exact mul_rows hroom
            simp [h9, hA, hfree, hroom, hA1, hA3, hwj]
            have hf := hrb.room hA hroom [.int .i64 99, .bool false, .bool false, .bool false, .bool false] rfl (by simp)
            exact Kloop_normal ⟨j + 1, _, by omega, by rw [hn1]; simpa using hf, fr_intro (by simp)⟩ (by simp; omega)
          · simp [h9, hA, hfree, hroom, hA1, m1, m2]
            refine VGrow_intro fun c hc1 hc2 => ?_
            simp [hwj]
            have hf := hrb.grow hA hc1 hc2 [.int .i64 99, .bool false, .bool false, .bool false, .bool false] rfl (by simp)
            exact Kloop_normal ⟨j + 1, _, by omega, by rw [hn1]; simpa [zRow] using hf, fr_intro (by simp)⟩ (by simp; omega)
      obtain rfl : j = 9 := by omega
      have hkb : K[H.length + 1]? = some [.bool false, .sl false 11 (dRows ms2)] := (hrb.keep _ (at_lt hk1b)).trans hk1b
      have hw4 := hw3.keepH hrb.keep
      obtain ⟨vf, vo, vd, vb⟩ := hrb.bx.facts
      have hvl : ∀ t, (tsl Try.prog t).isSome = true → alen Try.prog t v = some (.int .i64 ((mReady ms2).length + 9 : Nat)) := fun t h => hrb.bx.alen h
      have hw9 : IntKind.i64.wrap (((mReady ms2).length : Int) + 9) = (mReady ms2).length + 9 := wrap_in (by omega) (by omega)
      simp [hkb]
      refine dpoll_pc E _ false ms2 _ hl2 ?_
      simp
      refine sameReady_pc E _ _ (mReady ms2) (mReady_row5 ms2) (mReady_len hl2) ?_
      simp
      refine ready_pc E K (some H.length) cs2 ms2 _ hw4 hl2 ?_
      simp [hkb]
      refine dpoll_pc E _ false ms2 _ hl2 ?_
      simp
      refine sameReady_pc E _ _ (mReady ms2) (mReady_row5 ms2) (mReady_len hl2) ?_
      have hbl5 : ∀ t, (tsl Try.prog t).isSome = true → alen Try.prog t (.sl false 5 (mReady ms2)) = some (.int .i64 (mReady ms2).length) := fun t h => by simp [alen, h]
      simp [-alen, hvl, hbl5, vd, hw9, hw']
      refine Kloop_normal ?_ ?_
      rotate_left
      · simp; omega
      refine ⟨i + 1, by omega, cs2, ms2, _, hw4, hcs2, by have := hrb.len; omega, fun j hj => (hrb.keep j (by omega)).trans (hk1k j hj), hl2, by rw [htk]; exact hg2, hkb, .inl rfl, hbc2, fr_intro (by simp)⟩
  · simp [h]
    exact aPost_law hB hlen hkeep rfl (by simp) hQ
theorem wmemory_true (W : World) (bo : Option Addr) (len cap : Nat) (rows : List (List AV)) (hr : Rel W (fun _ => 0) (old W) (.sl false 10 rows) (.slice bo len cap)) (hn : Bnd 0 (.sl false 10 rows))
    (hk : ∀ r ∈ rows, r.length = 10 ∧ ∀ (j : Nat) k y, opK[j]? = some k → r[j]? = some y → KindOf k y) (e : rows.length = len) (hb : wtA rows.flatten + len ≤ 1048576) :
    Calls Try.prog 8 #[.slice bo len cap] W fun e w' => e = .returned (.bool true) ∧ Frm (fun _ => False) W w' := by
  obtain ⟨sc, rfl, hw⟩ := ops_of_rows rows hk
  refine calls_of_pc (args := [.sl false 10 (ops sc)]) (old W) (fun _ _ h => h) rfl (fun t x u hx hu => ?_) (fun E Q h => wmemory_pc E [] Q sc (by simp at e; omega) (by omega) h)
  match t with
  | 0 => simp at hx hu; subst hx; subst hu; exact ⟨hr, hn, rfl⟩
  | t + 1 => simp at hx
end Go.Proofs.Ytgnjdfnjohgnlaa

