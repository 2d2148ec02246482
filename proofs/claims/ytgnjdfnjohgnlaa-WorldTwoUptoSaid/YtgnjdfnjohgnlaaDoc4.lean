/- The document's world: Waiting, Accept, Poll. -/
import Derived.Test.YtgnjdfnjohgnlaaDoc3
set_option linter.unusedVariables false
set_option linter.unusedSimpArgs false
set_option linter.unusedSectionVars false
set_option maxRecDepth 100000
namespace Go.Proofs.Ytgnjdfnjohgnlaa
open Go Go.RowKit

/-- The first that waits among the first i. -/
def mFirst (ms : List Cn) (i : Nat) : Int := match (ms.take i).findIdx? mWaits with
  | some j => j
  | none => -1
theorem mFirst_step {ms : List Cn} {i : Nat} {m : Cn} (h : ms[i]? = some m) : mFirst ms (i + 1) = if mCount ms i = 0 ∧ mWaits m = true then (i : Int) else mFirst ms i := by
  have hlt := (List.getElem?_eq_some_iff.1 h).1
  unfold mFirst mCount
  rw [List.take_add_one, h, List.findIdx?_append]
  cases hf : (ms.take i).findIdx? mWaits with
  | some j =>
    have hc : ¬ (ms.take i).countP mWaits = 0 := by
      obtain ⟨hj, hg⟩ := List.findIdx?_eq_some_iff_getElem.1 hf
      intro h0
      have := List.countP_eq_zero.1 h0 _ (List.getElem_mem hj)
      exact this hg.1
    simp [hc]
  | none =>
    have hc : (ms.take i).countP mWaits = 0 := by
      rw [List.countP_eq_zero]
      intro a ha
      simpa using List.findIdx?_eq_none_iff.1 hf a ha
    cases hw : mWaits m <;> simp [hc, hw]
    omega
theorem mCount_step {ms : List Cn} {i : Nat} {m : Cn} (h : ms[i]? = some m) : mCount ms (i + 1) = mCount ms i + (if mWaits m then 1 else 0) := by
  unfold mCount
  rw [List.take_add_one, h, List.countP_append]
  cases hw : mWaits m <;> simp [hw]
theorem mCount_lei (ms : List Cn) (i : Nat) : mCount ms i ≤ i := by
  unfold mCount
  have := List.countP_le_length (p := mWaits) (l := ms.take i)
  rw [List.length_take] at this
  omega
section
variable (E : Env) (H : Hp) (nb : Bool) (ms : List Cn) (Q : AV → Hp → Prop) (hl : ms.length ≤ 4096)
include hl
def dwI (H : Hp) (ms : List Cn) (fr : List AV) (H' : Hp) : Prop := ∃ J, H' = H ++ J ∧ ∃ i : Nat, i ≤ ms.length ∧
  ∃ x : Nat → AV, fr = [x 0, x 1, x 2, x 3, .int .i64 (mCount ms i), .int .i64 (mFirst ms i), x 6, x 7, x 8, .sl false 11 (dRows ms), .int .i64 ms.length, .int .i64 i, x 12, x 13, x 14, x 15, x 16, x 17, x 18, x 19, x 20, x 21, x 22, x 23, x 24, x 25, x 26, x 27, x 28, x 29, x 30, x 31]
theorem dwaiting_pc (hQ : Q (.tup [.int .i64 (mCount ms ms.length), .int .i64 (mFirst ms ms.length)]) H) : PC Try.prog E 35 [dW nb ms] H Q := by
  refine pc_enter Try.func35 rfl [] [] (by kernel_rfl) (fun hB => ?_)
  simp [Try.ntmps35, Try.results35, List.replicate_succ, dW]
  refine VL_go (dwI H ms) (fun fr _ => ms.length - (ai (aget fr 11)).toNat) ⟨_, rfl, 0, by omega, fr_intro (by simp [mCount, mFirst])⟩ ?_
  rintro fr H' ⟨J, rfl, i, hi, x, rfl⟩
  by_cases h : i < ms.length
  · obtain ⟨m, hm⟩ : ∃ m, ms[i]? = some m := ⟨_, List.getElem?_eq_getElem h⟩
    have hat := dRows_at hm
    unfold dRow at hat
    have hw : IntKind.i64.wrap ((i : Int) + 1) = i + 1 := wrap_in (by omega) (by omega)
    have hcs := mCount_step hm
    have hfs := mFirst_step hm
    have hcl := mCount_lei ms i
    have hw2 : IntKind.i64.wrap ((mCount ms i : Int) + 1) = mCount ms i + 1 := wrap_in (by omega) (by omega)
    obtain ⟨cnt, hcnt⟩ : ∃ cnt, mCount ms i = cnt := ⟨_, rfl⟩
    rw [hcnt] at hcs hfs hw2 ⊢
    by_cases hwt : mWaits m = true
    · rw [hwt] at hcs hfs
      have ha : m.acc = false := by simp [mWaits] at hwt; exact hwt.1
      have hr : m.rst = false := by simp [mWaits] at hwt; exact hwt.2
      rw [ha, hr] at hat
      simp at hcs
      by_cases h0 : cnt = 0
      · subst h0
        simp at hfs
        simp [h, hat, hw, hw2]
        refine Kloop_normal ?_ ?_
        rotate_left
        · simp; omega
        refine ⟨_, rfl, i + 1, by omega, fr_intro ?_⟩
        simp [hcs, hfs]
        first | rfl | decide | skip
      · have h0' : ((cnt : Int) == 0) = false := by simp [h0]
        simp [h0] at hfs
        simp [h, hat, hw, hw2, h0']
        refine Kloop_normal ?_ ?_
        rotate_left
        · simp; omega
        exact ⟨_, rfl, i + 1, by omega, fr_intro (by simp [hcs, hfs])⟩
    · have hwt' : mWaits m = false := by simpa using hwt
      rw [hwt'] at hcs hfs
      simp at hcs hfs
      cases ha : m.acc
      · have hr : m.rst = true := by simpa [mWaits, ha] using hwt'
        rw [ha, hr] at hat
        simp [h, hat, hw]
        refine Kloop_normal ?_ ?_
        rotate_left
        · simp; omega
        exact ⟨_, rfl, i + 1, by omega, fr_intro (by simp [hcs, hfs, hcnt])⟩
      · rw [ha] at hat
        simp [h, hat, hw]
        refine Kloop_normal ?_ ?_
        rotate_left
        · simp; omega
        exact ⟨_, rfl, i + 1, by omega, fr_intro (by simp [hcs, hfs, hcnt])⟩
  · obtain rfl : i = ms.length := by omega
    simp
    exact aPost_same hB rfl (nilV_refl _) (by simp) hQ
theorem daccept_pc (hQ : Q (.tup [dW nb (mAccept ms).1, .int .i64 (mAccept ms).2.1, .int .i64 (mAccept ms).2.2]) H) : PC Try.prog E 36 [dW nb ms] H Q := by
  refine pc_enter Try.func36 rfl [] [] (by kernel_rfl) (fun hB => ?_)
  simp [Try.ntmps36, Try.results36, List.replicate_succ, dW]
  refine dwaiting_pc E _ nb ms _ hl ?_
  cases hf : ms.findIdx? mWaits with
  | none =>
    have e : mAccept ms = (ms, -1, 244) := by unfold mAccept; rw [hf]
    have e1 : mFirst ms ms.length = -1 := by unfold mFirst; rw [List.take_of_length_le (Nat.le_refl _), hf]
    rw [e] at hQ
    simp [e1]
    exact aPost_same hB (by simp [dW]) (nilV_refl _) (by simp) hQ
  | some j =>
    obtain ⟨hj, _⟩ := List.findIdx?_eq_some_iff_getElem.1 hf
    obtain ⟨m, hm⟩ : ∃ m, ms[j]? = some m := ⟨_, List.getElem?_eq_getElem hj⟩
    have e : mAccept ms = (ms.set j { m with acc := true }, (j : Int), 0) := by unfold mAccept; rw [hf]; dsimp only; rw [hm]
    have e1 : mFirst ms ms.length = j := by unfold mFirst; rw [List.take_of_length_le (Nat.le_refl _), hf]
    rw [e] at hQ
    have hat := dRows_at hm
    unfold dRow at hat
    simp [e1, hat]
    refine withr_pc E _ _ nb ms hl j hj { m with acc := true } (by simp [dRow]) ?_
    simp [dW]
    exact aPost_same hB (by simp [dW]) (nilV_refl _) (by simp) hQ
end
end Go.Proofs.Ytgnjdfnjohgnlaa
