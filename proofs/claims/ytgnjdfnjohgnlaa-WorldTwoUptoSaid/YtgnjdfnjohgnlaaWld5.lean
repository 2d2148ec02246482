/- World: Waiting, Accept, Conns, New, Line, Do. -/
import Derived.Test.YtgnjdfnjohgnlaaWld4
set_option linter.unusedVariables false
set_option linter.unusedSimpArgs false
set_option linter.unusedSectionVars false
set_option maxRecDepth 100000
namespace Go.Proofs.Ytgnjdfnjohgnlaa
open Go Go.RowKit

def mWaits (m : Cn) : Bool := !m.acc && !m.rst
def mCount (ms : List Cn) (i : Nat) : Nat := (ms.take i).countP mWaits
theorem mCount_succ {ms : List Cn} {i : Nat} {m : Cn} (h : ms[i]? = some m) : mCount ms (i + 1) = mCount ms i + if mWaits m then 1 else 0 := by
  unfold mCount
  rw [List.take_add_one, h]
  simp [List.countP_append]
theorem mCount_le (ms : List Cn) (i : Nat) : mCount ms i ≤ i := Nat.le_trans List.countP_le_length (List.length_take_le _ _)
def waitInv (w : Nat) (cs : List Nat) (ms : List Cn) (H : Hp) (fr : List AV) (H' : Hp) : Prop := H' = H ∧ ∃ i : Nat, i ≤ cs.length ∧ ∃ x : Nat → AV, fr = [.ptr (some (w, 0)), x 1, x 2, .int .i64 (mCount ms i : Nat), x 4, x 5, x 6, x 7, x 8, x 9, x 10, .sl false 1 (ptrs cs), .int .i64 cs.length, .int .i64 i,
  x 14, x 15, x 16, x 17, x 18, x 19, x 20, x 21, x 22]

section
variable (E : Env) (H : Hp) (w : Option Nat) (cs : List Nat) (ms : List Cn) (Q : AV → Hp → Prop) (hw : WO H w cs ms) (hl : ms.length ≤ 4096)
include hw hl
theorem waiting_pc (hQ : Q (.int .i64 (mCount ms ms.length : Nat)) H) : PC Try.prog E 14 [wpt w] H Q := by
  refine pc_enter Try.func14 rfl [] [] (by kernel_rfl) (fun hB => ?_)
  cases w with
  | none =>
    simp [Try.ntmps14, Try.results14, List.replicate_succ, wpt]
    rw [hw.2] at hQ
    exact aPost_same0 hB rfl (nilV_refl _) (by simp) hQ
  | some w =>
    have hbx := hw.box
    have hlen := hw.len
    simp [Try.ntmps14, Try.results14, List.replicate_succ, wpt, hbx, ptrs_len]
    refine VL_go (waitInv w cs ms H) (fun fr _ => cs.length - (ai (aget fr 13)).toNat) ⟨rfl, 0, Nat.zero_le _, fr_intro (by simp [mCount])⟩ ?_
    rintro fr H' ⟨rfl, i, hi, x, rfl⟩
    by_cases h : i < cs.length
    · obtain ⟨c, hc⟩ : ∃ c, cs[i]? = some c := ⟨_, List.getElem?_eq_getElem h⟩
      obtain ⟨m, hm⟩ : ∃ m, ms[i]? = some m := ⟨_, List.getElem?_eq_getElem (by omega)⟩
      have hat := ptrs_at hc
      have hw2 : IntKind.i64.wrap ((i : Int) + 1) = i + 1 := wrap_in (by omega) (by omega)
      have hcl := mCount_le ms i
      have hw3 : IntKind.i64.wrap ((mCount ms i : Int) + 1) = mCount ms i + 1 := wrap_in (by omega) (by omega)
      have hsucc := mCount_succ hm
      simp [h, hat]
      refine waits_pc E _ c m _ (hw.conn i c m hc hm) ?_
      cases hwt : mWaits m
      · have : (!m.acc && !m.rst) = false := hwt
        rw [this]
        rw [hwt] at hsucc
        simp [hw2]
        refine Kloop_normal ?_ ?_
        rotate_left
        · simp; omega
        exact ⟨rfl, i + 1, by omega, fr_intro (by simp [hsucc])⟩
      · have : (!m.acc && !m.rst) = true := hwt
        rw [this]
        rw [hwt] at hsucc
        simp [hw2, hw3]
        refine Kloop_normal ?_ ?_
        rotate_left
        · simp; omega
        exact ⟨rfl, i + 1, by omega, fr_intro (by simp [hsucc])⟩
    · simp [h]
      have : i = ms.length := by omega
      subst this
      exact aPost_same0 hB rfl (nilV_refl _) (by simp) hQ
theorem conns_pc (hQ : Q (.int .i64 ms.length) H) : PC Try.prog E 13 [wpt w] H Q := by
  refine pc_enter Try.func13 rfl [] [] (by kernel_rfl) (fun hB => ?_)
  cases w with
  | none =>
    simp [Try.ntmps13, Try.results13, List.replicate_succ, wpt]
    rw [hw.2] at hQ
    exact aPost_same0 hB rfl (nilV_refl _) (by simp) hQ
  | some w =>
    have hbx := hw.box
    have hlen := hw.len
    simp [Try.ntmps13, Try.results13, List.replicate_succ, wpt, hbx, ptrs_len, hlen]
    exact aPost_same0 hB rfl (nilV_refl _) (by simp) hQ
end
def accInv (w : Nat) (cs : List Nat) (ms : List Cn) (H : Hp) (fr : List AV) (H' : Hp) : Prop := H' = H ∧ ∃ i : Nat, i ≤ cs.length ∧ (∀ j m, j < i → ms[j]? = some m → mWaits m = false) ∧ ∃ x : Nat → AV, fr = [.ptr (some (w, 0)), x 1, x 2, x 3, x 4, x 5, x 6, x 7, x 8, x 9, x 10, .sl false 1 (ptrs cs), .int .i64 cs.length, .int .i64 i,
  x 14, x 15, x 16, x 17, x 18, x 19, x 20, x 21, x 22, x 23, x 24]
section
variable (E : Env) (H : Hp) (w : Option Nat) (cs : List Nat) (ms : List Cn) (Q : AV → Hp → Prop) (hw : WO H w cs ms) (hl : ms.length ≤ 4096)
include hw hl
theorem accept_pc (h0 : (∀ m ∈ ms, mWaits m = false) → Q (.tup [.int .i64 (-1), .int .i64 244]) H)
    (h1 : ∀ (i c : Nat) m, (∀ j m, j < i → ms[j]? = some m → mWaits m = false) → cs[i]? = some c → ms[i]? = some m → mWaits m = true → H[c]? = some m.av → Q (.tup [.int .i64 i, .int .i64 0]) (H.set c { m with acc := true }.av)) : PC Try.prog E 15 [wpt w] H Q := by
  refine pc_enter Try.func15 rfl [] [] (by kernel_rfl) (fun hB => ?_)
  cases w with
  | none =>
    simp [Try.ntmps15, Try.results15, List.replicate_succ, wpt]
    exact aPost_same0 hB rfl (nilV_refl _) (by simp) (h0 (by rw [hw.2]; simp))
  | some w =>
    have hbx := hw.box
    have hlen := hw.len
    simp [Try.ntmps15, Try.results15, List.replicate_succ, wpt, hbx, ptrs_len]
    refine VL_go (accInv w cs ms H) (fun fr _ => cs.length - (ai (aget fr 13)).toNat) ⟨rfl, 0, Nat.zero_le _, fun j m hj => by omega, fr_intro (by simp)⟩ ?_
    rintro fr H' ⟨rfl, i, hi, hbef, x, rfl⟩
    by_cases h : i < cs.length
    · obtain ⟨c, hc⟩ : ∃ c, cs[i]? = some c := ⟨_, List.getElem?_eq_getElem h⟩
      obtain ⟨m, hm⟩ : ∃ m, ms[i]? = some m := ⟨_, List.getElem?_eq_getElem (by omega)⟩
      have hat := ptrs_at hc
      have hw2 : IntKind.i64.wrap ((i : Int) + 1) = i + 1 := wrap_in (by omega) (by omega)
      have hcm := hw.conn i c m hc hm
      simp [h, hat]
      refine waits_pc E _ c m _ hcm ?_
      cases hwt : mWaits m
      · have : (!m.acc && !m.rst) = false := hwt
        rw [this]
        simp [hw2]
        refine Kloop_normal ?_ ?_
        rotate_left
        · simp; omega
        refine ⟨rfl, i + 1, by omega, fun j m' hj hm' => ?_, fr_intro (by simp)⟩
        by_cases hji : j < i
        · exact hbef j m' hji hm'
        · obtain rfl : j = i := by omega
          rw [hm] at hm'; cases hm'; exact hwt
      · have : (!m.acc && !m.rst) = true := hwt
        rw [this]
        have hlt := at_lt hcm
        have hq := h1 i c m hbef hc hm hwt hcm
        unfold Cn.av at hcm
        simp [hcm, hs0 hlt, hs1 hlt, hs2 hlt, hs3 hlt, hs4 hlt, hs5 hlt]
        exact aPost_set0 hB rfl (nilV_refl _) (by simp) (by simp) hq
    · simp [h]
      refine aPost_same0 hB rfl (nilV_refl _) (by simp) (h0 fun m hm => ?_)
      obtain ⟨j, hj⟩ := List.getElem?_of_mem hm
      exact hbef j m (by have := (List.getElem?_eq_some_iff.1 hj).1; omega) hj
end
end Go.Proofs.Ytgnjdfnjohgnlaa
