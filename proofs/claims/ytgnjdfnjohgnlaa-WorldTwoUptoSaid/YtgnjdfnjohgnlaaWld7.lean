/- World: Do. -/
import Derived.Test.YtgnjdfnjohgnlaaWld6
set_option linter.unusedVariables false
set_option linter.unusedSimpArgs false
set_option linter.unusedSectionVars false
set_option maxRecDepth 100000
namespace Go.Proofs.Ytgnjdfnjohgnlaa
open Go Go.RowKit

theorem ptrs_snoc (cs : List Nat) (c : Nat) : ptrs cs ++ [[.ptr (some (c, 0))]] = ptrs (cs ++ [c]) := by simp [ptrs]
theorem nil1r (x : AV) : nil1 x x := .inl rfl
section
variable (E : Env) (H : Hp) (w : Option Nat) (cs : List Nat) (ms : List Cn) (Q : AV → Hp → Prop) (hw : WO H w cs ms) (hl : ms.length ≤ 4096)
include hw hl
theorem WO.app (J : Hp) : WO (H ++ J) w cs ms := by
  cases w with
  | none => exact hw
  | some w => exact ⟨by rw [hs0 (at_lt hw.box)]; exact hw.box, hw.len, fun i c m hc hm => by rw [hs0 (at_lt (hw.conn i c m hc hm))]; exact hw.conn i c m hc hm, hw.nd⟩
theorem do_pc (k n i : Int) (d : List UInt8) (hsz : ∀ (j : Nat) m, n = j → ms[j]? = some m → m.del.length + d.length ≤ 140737488355328) (h0 : w = none → Q (.int .i64 240) H) (h1 : w ≠ none → ¬ (1 ≤ k ∧ k ≤ 6) → Q (.int .i64 241) H)
    (h2 : w ≠ none → k = 1 → ms.length = 4096 → Q (.int .i64 65) H) (h3 : ∀ w', w = some w' → k = 1 → ms.length < 4096 → Q (.int .i64 0) (H.set w' [.sl true 1 (ptrs (cs ++ [H.length + 1]))] ++ [[.int .i64 k, .int .i64 n, .int .i64 i, .str d], Cn.new.av]))
    (h4 : w ≠ none → 2 ≤ k ∧ k ≤ 6 → ¬ (0 ≤ n ∧ n < ms.length) → Q (.int .i64 240) H)
    (h5 : w ≠ none → 2 ≤ k ∧ k ≤ 6 → ∀ (j : Nat) m, n = j → ms[j]? = some m → cEvent m k i d = none → Q (.int .i64 241) H)
    (h6 : w ≠ none → 2 ≤ k ∧ k ≤ 6 → ∀ (j c : Nat) m m', n = j → cs[j]? = some c → ms[j]? = some m → H[c]? = some m.av → cEvent m k i d = some m' → Q (.int .i64 0) (H.set c m'.av)) :
    PC Try.prog E 11 [wpt w, evA k n i d] H Q := by
  refine pc_enter Try.func11 rfl [32] [(13, [0, 0, 0, 0, 0, 0, 0, 0, 0, 0, 0, 0, 0, 1])] (by kernel_rfl) (fun hB => ?_)
  cases w with
  | none =>
    simp [Try.ntmps11, Try.results11, List.replicate_succ, wpt, evA]
    exact aPost_same hB rfl (nilV_refl _) (by simp) (h0 rfl)
  | some w =>
    have hbx := hw.box
    have hlen := hw.len
    have hwl := at_lt hbx
    have h1 := h1 (by simp)
    have h2 := h2 (by simp)
    have h4 := h4 (by simp)
    have h5 := h5 (by simp)
    have h6 := h6 (by simp)
    by_cases k1 : k < 1
    · simp [Try.ntmps11, Try.results11, List.replicate_succ, wpt, evA, k1]
      exact aPost_same hB rfl (nilV_refl _) (by simp) (h1 (by omega))
    · by_cases k2 : 6 < k
      · simp [Try.ntmps11, Try.results11, List.replicate_succ, wpt, evA, k1, k2]
        exact aPost_same hB rfl (nilV_refl _) (by simp) (h1 (by omega))
      · by_cases k3 : k = 1
        · subst k3
          have hm1 : cs.length + 1 ≤ maxLen := by unfold maxLen; omega
          have hm2 : (cs.length + 1) * 8 ≤ 140737488355328 := by omega
          by_cases hmax : (4096 : Int) ≤ cs.length
          · simp [Try.ntmps11, Try.results11, List.replicate_succ, wpt, evA, hbx, ptrs_len, hmax, hs0 hwl]
            exact aPost_same hB rfl (nilV_refl _) (by simp) (h2 rfl (by omega))
          · simp [Try.ntmps11, Try.results11, List.replicate_succ, wpt, evA, hbx, ptrs_len, hmax, hs0 hwl, hs1 hwl, hs2 hwl, hs3 hwl, hm1, hm2]
            rw [ptrs_snoc]
            have hq := h3 w rfl rfl (by omega)
            have h0 : nil1 .nil (.sl true 1 (bts [])) := .inr ⟨rfl, _, _, rfl⟩
            refine ⟨.int .i64 0, .int .i64 0, _, _, [], rfl, nilV_refl _, nilH_app _ (show nilH _ [[.int .i64 1, .int .i64 n, .int .i64 i, .str d], Cn.new.av] from ⟨nilL_refl _, ⟨h0, nil1r _, nil1r _, h0, nil1r _, nil1r _, nil1r _, nil1r _, nil1r _, nil1r _, nil1r _, nil1r _, trivial⟩, trivial⟩), (List.append_nil _).symm, by simp, ?_, by simp, hq⟩
            intro l hl' x hx
            rcases List.mem_append.1 hl' with h | h
            · rcases List.mem_or_eq_of_mem_set h with h | h
              · exact (hB l h x hx).mono (by simp)
              · subst h
                simp at hx; subst hx
                simp only [bnd_sl']
                intro r hr y hy
                simp only [ptrs, List.mem_map, List.mem_append] at hr
                obtain ⟨c, hc, rfl⟩ := hr
                simp at hy; subst hy
                simp only [bnd_ptr', List.length_append, List.length_set]
                rcases hc with hc | hc
                · obtain ⟨j, hj⟩ := List.getElem?_of_mem hc
                  obtain ⟨m, hm⟩ : ∃ m, ms[j]? = some m := ⟨_, List.getElem?_eq_getElem (by have := (List.getElem?_eq_some_iff.1 hj).1; omega)⟩
                  have := at_lt (hw.conn j c m hj hm)
                  simp; omega
                · simp at hc; subst hc; simp
            · simp at h
              rcases h with rfl | rfl
              · simp at hx; rcases hx with rfl | rfl | rfl | rfl <;> simp
              · exact Cn.bnd _ _ x hx
        · simp [Try.ntmps11, Try.results11, List.replicate_succ, wpt, evA, k1, k2, (by simp [k3] : (k == 1) = false)]
          refine at_pc E _ (some w) cs ms _ n (WO.app H (some w) cs ms hw hl _) hl (fun hn => ?_) (fun j c m hj hc hm hcm => ?_)
          · simp
            exact aPost_same hB rfl (nilV_refl _) (by simp) (h4 (by omega) hn)
          · subst hj
            have hcm2 := hw.conn j c m hc hm
            have hlt := at_lt hcm2
            have h5 := h5 (by omega) j m rfl hm
            have h6 := h6 (by omega) j c m
            have hsz := hsz j m rfl hm
            unfold Cn.av at hcm
            cases hr : m.rst
            · cases hcl : m.cls
              · rw [hr, hcl] at hcm
                simp [hcm]
                refine acts_pc E _ (some w) cs ms _ (WO.app H (some w) cs ms hw hl _) hl k (by omega) ?_
                have hcm3 : ∀ J, (H ++ J)[c]? = some m.av := fun J => by rw [hs0 hlt]; exact hcm2
                have hc5 : k = 2 ∨ k = 3 ∨ k = 4 ∨ k = 5 ∨ k = 6 := by omega
                have fin : ∀ (m' : Cn) fr J, cEvent m k i d = some m' → ares Try.prog fr (H.set c m'.av ++ J) [ResultVar.tmp 4] = some (.int .i64 0) → aPost Try.prog [ResultVar.tmp 4] H.length Q .ret fr (H.set c m'.av ++ J) := fun m' fr J he hr =>
                  aPost_set hB hr (nilV_refl _) (Cn.bnd _ _) (by simp) (h6 m' rfl hc hm hcm2 he)
                have fin0 : ∀ fr J, cEvent m k i d = none → ares Try.prog fr (H ++ J) [ResultVar.tmp 4] = some (.int .i64 241) → aPost Try.prog [ResultVar.tmp 4] H.length Q .ret fr (H ++ J) := fun fr J he hr =>
                  aPost_same hB hr (nilV_refl _) (by simp) (h5 he)
                rcases hc5 with rfl | rfl | rfl | rfl | rfl
                · simp
                  refine data_pc E _ c m _ _ _ _ d (hcm3 _) hsz (fun he => ?_) (fun he => ?_)
                  · simp
                    exact fin0 _ _ (by simp [cEvent, hr, hcl, he]) rfl
                  · simp [hs3 hlt]
                    exact fin _ _ _ (by simp [cEvent, hr, hcl, he]) rfl
                · simp
                  refine end_pc E _ c m _ _ (hcm3 _) ?_ ⟨_, _, _, _, rfl⟩
                  cases he : m.ended
                  · simp [hs3 hlt]
                    exact fin _ _ _ (by simp [cEvent, hr, hcl, he]) rfl
                  · simp [hs3 hlt]
                    have e : H.set c { m with ended := true }.av = H := by
                      have : { m with ended := true } = m := by rw [← he]
                      rw [this]; exact set_same hcm2
                    rw [e]
                    exact fin0 _ _ (by simp [cEvent, hr, hcl, he]) rfl
                · simp
                  refine broken_pc E _ c m _ _ (hcm3 _) ?_ ⟨_, _, _, _, rfl⟩
                  simp [hs3 hlt]
                  exact fin _ _ _ (by simp [cEvent, hr, hcl]) rfl
                · simp
                  refine cread_pc E _ c m _ _ _ _ d (hcm3 _) (fun he => ?_) (fun he => ?_)
                  · simp
                    exact fin0 _ _ (by simp [cEvent, hr, hcl, he]) rfl
                  · simp [hs3 hlt]
                    exact fin _ _ _ (by simp [cEvent, hr, hcl]; omega) rfl
                · simp
                  refine cwrite_pc E _ c m _ _ _ _ d (hcm3 _) (fun he => ?_) (fun he => ?_)
                  · simp
                    exact fin0 _ _ (by simp [cEvent, hr, hcl, he]) rfl
                  · simp [hs3 hlt]
                    exact fin _ _ _ (by simp [cEvent, hr, hcl]; omega) rfl
              · rw [hr, hcl] at hcm
                simp [hcm]
                exact aPost_same hB rfl (nilV_refl _) (by simp) (h5 (by simp [cEvent, hcl]))
            · rw [hr] at hcm
              simp [hcm]
              exact aPost_same hB rfl (nilV_refl _) (by simp) (h5 (by simp [cEvent, hr]))
end
end Go.Proofs.Ytgnjdfnjohgnlaa
