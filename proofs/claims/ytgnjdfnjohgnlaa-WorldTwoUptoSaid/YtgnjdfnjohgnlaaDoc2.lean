/- The document's world: Interest, Close, Read, Write. -/
import Derived.Test.YtgnjdfnjohgnlaaDoc
set_option linter.unusedVariables false
set_option linter.unusedSimpArgs false
set_option linter.unusedSectionVars false
set_option maxRecDepth 100000
namespace Go.Proofs.Ytgnjdfnjohgnlaa
open Go Go.RowKit

@[simp] theorem bnd_dW (N : Nat) (nb : Bool) (ms : List Cn) : Bnd N (dW nb ms) := .agg _ (fun x hx => by simp at hx; rcases hx with rfl | rfl <;> simp)
theorem set_sameL {α : Type} {l : List α} {c : Nat} {x : α} (h : l[c]? = some x) : l.set c x = l := by
  refine List.ext_getElem? fun j => ?_
  by_cases hj : j = c
  · subst hj; rw [List.getElem?_set_self (List.getElem?_eq_some_iff.1 h).1, h]
  · rw [List.getElem?_set_ne (Ne.symm hj)]
theorem withr_pc (E : Env) (H : Hp) (Q : AV → Hp → Prop) (nb : Bool) (ms : List Cn) (hl : ms.length ≤ 4096) (i : Nat) (hi : i < ms.length) (m : Cn) {row : List AV} (hrow : row = dRow m) (hQ : Q (dW nb (ms.set i m)) H) :
    PC Try.prog E 48 [.agg [.bool nb, .sl false 11 (dRows ms)], .int .i64 i, .agg row] H Q := by
  subst hrow; exact withm_pc E H Q nb ms hl i hi m hQ
theorem mLive_served {ms : List Cn} {n : Int} (h : mServed ms n ≠ 0) : mLive ms n = mServed ms n := by unfold mLive; rw [if_neg h]
theorem mLive_at {ms : List Cn} {i : Nat} {m : Cn} (hm : ms[i]? = some m) (h : mServed ms i = 0) : mLive ms i = if m.rst then 243 else 0 := by unfold mLive; rw [if_pos h, Int.toNat_natCast, hm]
section
variable (E : Env) (H : Hp) (nb : Bool) (ms : List Cn) (Q : AV → Hp → Prop) (hl : ms.length ≤ 4096) (hnb : nb = true → ms = [])
include hl hnb
theorem dclose_pc (n : Int) (hQ : Q (.tup [dW nb (mClose ms n).1, .int .i64 (mClose ms n).2]) H) : PC Try.prog E 40 [dW nb ms, .int .i64 n] H Q := by
  refine pc_enter Try.func40 rfl [] [] (by kernel_rfl) (fun hB => ?_)
  simp [Try.ntmps40, Try.results40, List.replicate_succ, dW]
  refine dserved_pc E _ nb ms _ hl n hnb (fun hs => ?_) (fun i m hi hm hs => ?_)
  · have e : mClose ms n = (ms, mServed ms n) := by unfold mClose; rw [if_neg hs]
    rw [e] at hQ
    have hb : (mServed ms n != 0) = true := by simp [hs]
    simp [hb]
    exact aPost_same hB (by simp [dW]) (nilV_refl _) (by simp) hQ
  · subst hi
    have hlt := (List.getElem?_eq_some_iff.1 hm).1
    have e : mClose ms i = (ms.set i { m with cls := true, ri := false, wi := false, rg := 0, wg := 0 }, 0) := by unfold mClose; rw [if_pos hs, Int.toNat_natCast, hm]
    rw [e] at hQ
    have hat := dRows_at hm
    unfold dRow at hat
    simp [hat]
    refine withm_pc E _ _ nb ms hl i hlt { m with cls := true, ri := false, wi := false, rg := 0, wg := 0 } ?_
    simp [dW]
    exact aPost_same hB (by simp [dW]) (nilV_refl _) (by simp) hQ
theorem dinterest_pc (n : Int) (r w : Bool) (hQ : Q (.tup [dW nb (mInterest ms n r w).1, .int .i64 (mInterest ms n r w).2]) H) : PC Try.prog E 37 [dW nb ms, .int .i64 n, .bool r, .bool w] H Q := by
  refine pc_enter Try.func37 rfl [] [] (by kernel_rfl) (fun hB => ?_)
  simp [Try.ntmps37, Try.results37, List.replicate_succ, dW]
  refine dserved_pc E _ nb ms _ hl n hnb (fun hs => ?_) (fun i m hi hm hs => ?_)
  · have e : mInterest ms n r w = (ms, mServed ms n) := by unfold mInterest; rw [mLive_served hs, if_neg hs]
    rw [e] at hQ
    have hb : (mServed ms n != 0) = true := by simp [hs]
    simp [hb]
    exact aPost_same hB (by simp [dW]) (nilV_refl _) (by simp) hQ
  · subst hi
    have hlt := (List.getElem?_eq_some_iff.1 hm).1
    have hat := dRows_at hm
    unfold dRow at hat
    have hv := mLive_at hm hs
    cases hr : m.rst <;> rw [hr] at hat hv <;> simp at hv
    · have e : mInterest ms i r w = (ms.set i { m with ri := r, wi := w }, 0) := by unfold mInterest; rw [if_pos hv, Int.toNat_natCast, hm]
      rw [e] at hQ
      simp [hat]
      refine withr_pc E _ _ nb ms hl i hlt { m with ri := r, wi := w } (by simp [dRow, hr]) ?_
      simp [dW]
      exact aPost_same hB (by simp [dW]) (nilV_refl _) (by simp) hQ
    · have e : mInterest ms i r w = (ms, 243) := by unfold mInterest; rw [hv]; rfl
      rw [e] at hQ
      simp [hat]
      exact aPost_same hB (by simp [dW]) (nilV_refl _) (by simp) hQ
theorem dread_pc (n k : Int) (hok : ∀ (i : Nat) m, n = i → ms[i]? = some m → m.ok) (hQ : Q (.tup [dW nb (mRead ms n k).1, .str (mRead ms n k).2.1, .bool (mRead ms n k).2.2.1, .int .i64 (mRead ms n k).2.2.2]) H) :
    PC Try.prog E 38 [dW nb ms, .int .i64 n, .int .i64 k] H Q := by
  refine pc_enter Try.func38 rfl [] [] (by kernel_rfl) (fun hB => ?_)
  simp [Try.ntmps38, Try.results38, List.replicate_succ, dW]
  refine dserved_pc E _ nb ms _ hl n hnb (fun hs => ?_) (fun i m hi hm hs => ?_)
  · have e : mRead ms n k = (ms, [], false, mServed ms n) := by unfold mRead; rw [mLive_served hs, if_neg hs]
    rw [e] at hQ
    have hb : (mServed ms n != 0) = true := by simp [hs]
    simp [hb]
    exact aPost_same hB (by simp [dW]) (nilV_refl _) (by simp) hQ
  · subst hi
    have hlt := (List.getElem?_eq_some_iff.1 hm).1
    have hat := dRows_at hm
    unfold dRow at hat
    have hv := mLive_at hm hs
    obtain ⟨o1, o2, o3, o4, o5⟩ := hok i m rfl hm
    cases hr : m.rst <;> rw [hr] at hat hv <;> simp at hv
    · have e : mRead ms i k = (ms.set i (cRead m k).1, (cRead m k).2) := by unfold mRead; rw [if_pos hv, Int.toNat_natCast, hm]
      rw [e] at hQ
      by_cases k1 : k < 1
      · have e1 : cRead m k = (m, [], false, 1) := by simp [cRead, k1]
        rw [e1] at hQ
        simp only [set_sameL hm] at hQ
        simp [hat, k1]
        exact aPost_same hB (by simp [dW]) (nilV_refl _) (by simp) hQ
      · by_cases k2 : m.rg = 0
        · have e1 : cRead m k = (m, [], false, 244) := by simp [cRead, k1, k2]
          rw [e1] at hQ
          simp only [set_sameL hm] at hQ
          rw [k2] at hat
          simp [hat, k1]
          exact aPost_same hB (by simp [dW]) (nilV_refl _) (by simp) hQ
        · have k2' : (m.rg == 0) = false := by simp [k2]
          by_cases k5 : m.rg < k
          · obtain ⟨q, hq⟩ : ∃ q : Nat, m.rg = q := ⟨m.rg.toNat, by omega⟩
            have htq : (min k m.rg).toNat = q := by omega
            have hq0 : 0 < q := by omega
            rw [hq] at hat
            have k6 : (q : Int) < k := by omega
            replace k2' : ((q : Int) == 0) = false := by simp; omega
            have hdl : (m.del.drop m.rd).length = m.del.length - m.rd := List.length_drop ..
            by_cases k3 : m.rd < m.del.length
            · have hne : (m.del.drop m.rd == []) = false := by
                rw [beq_eq_false_iff_ne]; intro h; have := congrArg List.length h; simp at this; omega
              have hne2 : (m.del.drop m.rd).isEmpty = false := by simpa using hne
              by_cases k4 : m.del.length - m.rd < q
              · have e1 : cRead m k = ({ m with rg := 0, rd := m.del.length }, m.del.drop m.rd, false, 0) := by
                  have e1 : (m.del.drop m.rd).take q = m.del.drop m.rd := List.take_of_length_le (by simp; omega)
                  simp [cRead, k1, k2, k3, htq, e1]; omega
                rw [e1] at hQ
                have hw1 : IntKind.i64.wrap ((m.rd : Int) + (m.del.length - m.rd : Nat)) = (m.del.length : Nat) := by rw [wrap_in (by omega) (by omega)]; omega
                have htk : (m.del.drop m.rd).take (m.del.length - m.rd) = m.del.drop m.rd := List.take_of_length_le (by simp)
                simp [hat, k1, k2', k6, hne, hne2, k4, hw1, htk, o1, -Int.natCast_add]
                refine withr_pc E _ _ nb ms hl i hlt { m with rg := 0, rd := m.del.length } (by simp [dRow, hr]) ?_
                simp [dW, htk, o1]
                exact aPost_same hB (by simp [dW]) (nilV_refl _) (by simp) hQ
              · have e1 : cRead m k = ({ m with rg := 0, rd := m.rd + q }, (m.del.drop m.rd).take q, false, 0) := by
                  simp [cRead, k1, k2, k3, htq, (by omega : q ≤ m.del.length - m.rd)]
                rw [e1] at hQ
                have hw1 : IntKind.i64.wrap ((m.rd : Int) + (q : Nat)) = (m.rd + q : Nat) := wrap_in (by omega) (by omega)
                have htk : (m.del.drop m.rd).take (m.del.length - m.rd) = m.del.drop m.rd := List.take_of_length_le (by simp)
                have hql : q ≤ m.del.length - m.rd := by omega
                simp [hat, k1, k2', k6, hne, hne2, k4, hw1, htk, o1, hql, -Int.natCast_add]
                refine withr_pc E _ _ nb ms hl i hlt { m with rg := 0, rd := m.rd + q } (by simp [dRow, hr]) ?_
                simp [dW, htk, o1, hql]
                exact aPost_same hB (by simp [dW]) (nilV_refl _) (by simp) hQ
            · have hd : m.del.drop m.rd = [] := List.drop_of_length_le (by omega)
              have hrd : m.rd = m.del.length := by omega
              cases he : m.ended <;> rw [he] at hat
              · have e1 : cRead m k = ({ m with rg := 0 }, [], false, 244) := by simp [cRead, k1, k2, k3, he]
                rw [e1] at hQ
                simp [hat, k1, k2', k6, hd, o1]
                refine withr_pc E _ _ nb ms hl i hlt { m with rg := 0 } (by simp [dRow, hr, he]) ?_
                simp [dW]
                exact aPost_same hB (by simp [dW]) (nilV_refl _) (by simp) hQ
              · have e1 : cRead m k = ({ m with rg := 0 }, [], true, 0) := by simp [cRead, k1, k2, k3, he]
                rw [e1] at hQ
                simp [hat, k1, k2', k6, hd, o1]
                refine withr_pc E _ _ nb ms hl i hlt { m with rg := 0 } (by simp [dRow, hr, he]) ?_
                simp [dW]
                exact aPost_same hB (by simp [dW]) (nilV_refl _) (by simp) hQ
          · obtain ⟨q, hq⟩ : ∃ q : Nat, k = q := ⟨k.toNat, by omega⟩
            subst hq
            have htq : (min (q : Int) m.rg).toNat = q := by omega
            have hq0 : 0 < q := by omega
            have k6 : ¬ m.rg < (q : Int) := by omega
            replace k1 : ¬ q < 1 := by omega
            have k1' : ¬ (q : Int) < 1 := by omega
            have hdl : (m.del.drop m.rd).length = m.del.length - m.rd := List.length_drop ..
            by_cases k3 : m.rd < m.del.length
            · have hne : (m.del.drop m.rd == []) = false := by
                rw [beq_eq_false_iff_ne]; intro h; have := congrArg List.length h; simp at this; omega
              have hne2 : (m.del.drop m.rd).isEmpty = false := by simpa using hne
              by_cases k4 : m.del.length - m.rd < q
              · have e1 : cRead m q = ({ m with rg := 0, rd := m.del.length }, m.del.drop m.rd, false, 0) := by
                  have e1 : (m.del.drop m.rd).take q = m.del.drop m.rd := List.take_of_length_le (by simp; omega)
                  simp [cRead, k1, k1', k2, k3, htq, e1]; omega
                rw [e1] at hQ
                have hw1 : IntKind.i64.wrap ((m.rd : Int) + (m.del.length - m.rd : Nat)) = (m.del.length : Nat) := by rw [wrap_in (by omega) (by omega)]; omega
                have htk : (m.del.drop m.rd).take (m.del.length - m.rd) = m.del.drop m.rd := List.take_of_length_le (by simp)
                simp [hat, k1, k1', k2', k6, hne, hne2, k4, hw1, htk, o1, -Int.natCast_add]
                refine withr_pc E _ _ nb ms hl i hlt { m with rg := 0, rd := m.del.length } (by simp [dRow, hr]) ?_
                simp [dW, htk, o1]
                exact aPost_same hB (by simp [dW]) (nilV_refl _) (by simp) hQ
              · have e1 : cRead m q = ({ m with rg := 0, rd := m.rd + q }, (m.del.drop m.rd).take q, false, 0) := by
                  simp [cRead, k1, k1', k2, k3, htq, (by omega : q ≤ m.del.length - m.rd)]
                rw [e1] at hQ
                have hw1 : IntKind.i64.wrap ((m.rd : Int) + (q : Nat)) = (m.rd + q : Nat) := wrap_in (by omega) (by omega)
                have htk : (m.del.drop m.rd).take (m.del.length - m.rd) = m.del.drop m.rd := List.take_of_length_le (by simp)
                have hql : q ≤ m.del.length - m.rd := by omega
                simp [hat, k1, k1', k2', k6, hne, hne2, k4, hw1, htk, o1, hql, -Int.natCast_add]
                refine withr_pc E _ _ nb ms hl i hlt { m with rg := 0, rd := m.rd + q } (by simp [dRow, hr]) ?_
                simp [dW, htk, o1, hql]
                exact aPost_same hB (by simp [dW]) (nilV_refl _) (by simp) hQ
            · have hd : m.del.drop m.rd = [] := List.drop_of_length_le (by omega)
              have hrd : m.rd = m.del.length := by omega
              cases he : m.ended <;> rw [he] at hat
              · have e1 : cRead m q = ({ m with rg := 0 }, [], false, 244) := by simp [cRead, k1, k1', k2, k3, he]
                rw [e1] at hQ
                simp [hat, k1, k1', k2', k6, hd, o1]
                refine withr_pc E _ _ nb ms hl i hlt { m with rg := 0 } (by simp [dRow, hr, he]) ?_
                simp [dW]
                exact aPost_same hB (by simp [dW]) (nilV_refl _) (by simp) hQ
              · have e1 : cRead m q = ({ m with rg := 0 }, [], true, 0) := by simp [cRead, k1, k1', k2, k3, he]
                rw [e1] at hQ
                simp [hat, k1, k1', k2', k6, hd, o1]
                refine withr_pc E _ _ nb ms hl i hlt { m with rg := 0 } (by simp [dRow, hr, he]) ?_
                simp [dW]
                exact aPost_same hB (by simp [dW]) (nilV_refl _) (by simp) hQ
    · have e : mRead ms i k = (ms, [], false, 243) := by unfold mRead; rw [hv]; rfl
      rw [e] at hQ
      simp [hat]
      exact aPost_same hB (by simp [dW]) (nilV_refl _) (by simp) hQ
end
end Go.Proofs.Ytgnjdfnjohgnlaa
