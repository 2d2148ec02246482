/- World: what a connection's cells hold, and its methods. -/
import Derived.Test.YtgnjdfnjohgnlaaTypes
set_option linter.unusedVariables false
set_option linter.unusedSimpArgs false
set_option linter.unusedSectionVars false
set_option maxRecDepth 100000
namespace Go.Proofs.Ytgnjdfnjohgnlaa
open Go Go.RowKit

theorem bndH_set {H : Hp} (hB : BndH H.length H) (c : Nat) {l : List AV} (hl : ∀ x ∈ l, Bnd H.length x) : BndH (H.set c l).length (H.set c l) := by
  intro m hm x hx
  rw [List.length_set]
  rcases List.mem_or_eq_of_mem_set hm with h | h
  · exact hB m h x hx
  · rw [h] at hx; exact hl x hx
theorem aPost_set {P : Program} {rs : List ResultVar} {Q : AV → Hp → Prop} {fr : List AV} {H J : Hp} {v0 v : AV} {c : Nat} {l : List AV} (hB : BndH H.length H) (h1 : ares P fr (H.set c l ++ J) rs = some v0) (h2 : nilV v0 v) (hl : ∀ x ∈ l, Bnd H.length x) (h5 : Bnd H.length v) (h6 : Q v (H.set c l)) :
    aPost P rs H.length Q .ret fr (H.set c l ++ J) := aPost_end h1 h2 (by simp) (bndH_set hB c hl) (by simpa using h5) h6
theorem aPost_set0 {P : Program} {rs : List ResultVar} {Q : AV → Hp → Prop} {fr : List AV} {H : Hp} {v0 v : AV} {c : Nat} {l : List AV} (hB : BndH H.length H) (h1 : ares P fr (H.set c l) rs = some v0) (h2 : nilV v0 v) (hl : ∀ x ∈ l, Bnd H.length x) (h5 : Bnd H.length v) (h6 : Q v (H.set c l)) :
    aPost P rs H.length Q .ret fr (H.set c l) := by
  have := aPost_set (J := []) (P := P) (rs := rs) (Q := Q) (fr := fr) hB (by rw [List.append_nil]; exact h1) h2 hl h5 h6
  rwa [List.append_nil] at this

section
variable {H : Hp} {c : Nat} (h : c < H.length)
include h
theorem hs0 (J : Hp) : (H ++ J)[c]? = H[c]? := List.getElem?_append_left h
theorem hs1 (x : List AV) (J : Hp) : (H.set c x ++ J)[c]? = some x := by rw [List.getElem?_append_left (by simpa using h), List.getElem?_set_self h]
theorem hs2 (x y : List AV) (J : Hp) : (H.set c x ++ J).set c y = H.set c y ++ J := by rw [List.set_append_left _ _ (by simpa using h), List.set_set]
theorem hs3 (y : List AV) (J : Hp) : (H ++ J).set c y = H.set c y ++ J := List.set_append_left _ _ h
theorem hs4 (x : List AV) : (H.set c x)[c]? = some x := List.getElem?_set_self h

theorem hs5 (x y : List AV) : (H.set c x).set c y = H.set c y := List.set_set ..
end
/-- A connection. -/
structure Cn where
  del : List UInt8
  rd : Nat
  rg : Int
  tak : List UInt8
  wg : Int
  acc : Bool
  ended : Bool
  rst : Bool
  cls : Bool
  ri : Bool
  wi : Bool
def Cn.av (m : Cn) : List AV := [.sl true 1 (bts m.del), .int .i64 m.rd, .int .i64 m.rg, .sl true 1 (bts m.tak), .int .i64 0, .int .i64 m.wg, .bool m.acc, .bool m.ended, .bool m.rst, .bool m.cls, .bool m.ri, .bool m.wi]
theorem Cn.bnd (m : Cn) (N : Nat) : ∀ x ∈ m.av, Bnd N x := by simp [Cn.av]
def evA (k c n : Int) (d : List UInt8) : AV := .agg [.int .i64 k, .int .i64 c, .int .i64 n, .str d]
theorem at_lt {H : Hp} {c : Nat} {l : List AV} (h : H[c]? = some l) : c < H.length := (List.getElem?_eq_some_iff.1 h).1

variable (E : Env) (H : Hp) (c : Nat) (m : Cn) (Q : AV → Hp → Prop)
theorem waits_pc (hc : H[c]? = some m.av) (hQ : Q (.bool (!m.acc && !m.rst)) H) : PC Try.prog E 29 [.ptr (some (c, 0))] H Q := by
  refine pc_enter Try.func29 rfl [] [] (by kernel_rfl) (fun hB => ?_)
  unfold Cn.av at hc
  have hlt := at_lt hc
  cases ha : m.acc <;> rw [ha] at hQ hc <;> simp [Try.ntmps29, Try.results29, List.replicate_succ, hc]
  · exact aPost_same0 hB rfl (nilV_refl _) (by simp) hQ
  · exact aPost_same0 hB rfl (nilV_refl _) (by simp) hQ
theorem end_pc (ev : AV) (hc : H[c]? = some m.av) (hQ : Q (.bool (!m.ended)) (H.set c { m with ended := true }.av)) (h : ∃ k n i d, ev = evA k n i d) : PC Try.prog E 43 [.ptr (some (c, 0)), ev] H Q := by
  obtain ⟨k, n, i, d, rfl⟩ := h
  refine pc_enter Try.func43 rfl [] [] (by kernel_rfl) (fun hB => ?_)
  unfold Cn.av at hc
  have hlt := at_lt hc
  simp [Try.ntmps43, Try.results43, List.replicate_succ, hc, evA, hs0 hlt, hs1 hlt, hs2 hlt, hs3 hlt, hs4 hlt, hs5 hlt]
  exact aPost_set hB rfl (nilV_refl _) (by simp) (by simp) hQ
theorem broken_pc (ev : AV) (hc : H[c]? = some m.av) (hQ : Q (.bool true) (H.set c { m with rst := true }.av)) (h : ∃ k n i d, ev = evA k n i d) : PC Try.prog E 44 [.ptr (some (c, 0)), ev] H Q := by
  obtain ⟨k, n, i, d, rfl⟩ := h
  refine pc_enter Try.func44 rfl [] [] (by kernel_rfl) (fun hB => ?_)
  unfold Cn.av at hc
  have hlt := at_lt hc
  simp [Try.ntmps44, Try.results44, List.replicate_succ, hc, evA, hs0 hlt, hs1 hlt, hs2 hlt, hs3 hlt, hs4 hlt, hs5 hlt]
  exact aPost_set hB rfl (nilV_refl _) (by simp) (by simp) hQ
theorem cread_pc (k n i : Int) (d : List UInt8) (hc : H[c]? = some m.av) (h0 : i < 1 → Q (.bool false) H) (h1 : 1 ≤ i → Q (.bool true) (H.set c { m with rg := i }.av)) : PC Try.prog E 45 [.ptr (some (c, 0)), evA k n i d] H Q := by
  refine pc_enter Try.func45 rfl [] [] (by kernel_rfl) (fun hB => ?_)
  unfold Cn.av at hc
  have hlt := at_lt hc
  by_cases hi : i < 1 <;> simp [Try.ntmps45, Try.results45, List.replicate_succ, hc, evA, hs0 hlt, hs1 hlt, hs2 hlt, hs3 hlt, hs4 hlt, hs5 hlt, hi]
  · exact aPost_same hB rfl (nilV_refl _) (by simp) (h0 hi)
  · exact aPost_set hB rfl (nilV_refl _) (by simp) (by simp) (h1 (by omega))
theorem cwrite_pc (k n i : Int) (d : List UInt8) (hc : H[c]? = some m.av) (h0 : i < 1 → Q (.bool false) H) (h1 : 1 ≤ i → Q (.bool true) (H.set c { m with wg := i }.av)) : PC Try.prog E 46 [.ptr (some (c, 0)), evA k n i d] H Q := by
  refine pc_enter Try.func46 rfl [] [] (by kernel_rfl) (fun hB => ?_)
  unfold Cn.av at hc
  have hlt := at_lt hc
  by_cases hi : i < 1 <;> simp [Try.ntmps46, Try.results46, List.replicate_succ, hc, evA, hs0 hlt, hs1 hlt, hs2 hlt, hs3 hlt, hs4 hlt, hs5 hlt, hi]
  · exact aPost_same hB rfl (nilV_refl _) (by simp) (h0 hi)
  · exact aPost_set hB rfl (nilV_refl _) (by simp) (by simp) (h1 (by omega))
theorem data_pc (k n i : Int) (d : List UInt8) (hc : H[c]? = some m.av) (hsz : m.del.length + d.length ≤ 140737488355328) (h0 : m.ended = true → Q (.bool false) H) (h1 : m.ended = false → Q (.bool true) (H.set c { m with del := m.del ++ d }.av)) : PC Try.prog E 42 [.ptr (some (c, 0)), evA k n i d] H Q := by
  refine pc_enter Try.func42 rfl [15] [] (by kernel_rfl) (fun hB => ?_)
  unfold Cn.av at hc
  have hlt := at_lt hc
  have hm1 : m.del.length + d.length ≤ maxLen := by unfold maxLen; omega
  cases he : m.ended <;> rw [he] at hc <;> simp [Try.ntmps42, Try.results42, List.replicate_succ, hc, evA, hs0 hlt, hs1 hlt, hs2 hlt, hs3 hlt, hs4 hlt, hs5 hlt, hm1, hsz]
  · refine aPost_set hB rfl (nilV_refl _) ?_ (by simp) ?_
    · simp [bts_app]
    · have := h1 he
      simp only [Cn.av, he] at this
      simpa [bts_app] using this
  · exact aPost_same hB rfl (nilV_refl _) (by simp) (h0 he)
end Go.Proofs.Ytgnjdfnjohgnlaa
