/- World: Read and Write. -/
import Derived.Test.YtgnjdfnjohgnlaaWld3
set_option linter.unusedVariables false
set_option linter.unusedSimpArgs false
set_option linter.unusedSectionVars false
set_option maxRecDepth 100000
namespace Go.Proofs.Ytgnjdfnjohgnlaa
open Go Go.RowKit

section
variable (E : Env) (H : Hp) (w : Option Nat) (cs : List Nat) (ms : List Cn) (Q : AV → Hp → Prop) (n : Int) (hw : WO H w cs ms) (hl : ms.length ≤ 4096)
include hw hl
theorem read_pc (k : Int) (hok : ∀ (i : Nat) m, n = i → ms[i]? = some m → m.ok) (h0 : mLive ms n ≠ 0 → Q (.tup [.str [], .bool false, .int .i64 (mLive ms n)]) H)
    (h1 : ∀ (i c : Nat) m m' s b e, n = i → cs[i]? = some c → ms[i]? = some m → H[c]? = some m.av → mLive ms n = 0 → cRead m k = (m', s, b, e) → Q (.tup [.str s, .bool b, .int .i64 e]) (H.set c m'.av)) :
    PC Try.prog E 18 [wpt w, .int .i64 n, .int .i64 k] H Q := by
  refine pc_enter Try.func18 rfl [] [] (by kernel_rfl) (fun hB => ?_)
  simp [Try.ntmps18, Try.results18, List.replicate_succ]
  refine live_pc E H w cs ms _ n hw hl (fun hn => ?_) (fun i c m hi hc hm hcm ha hcl hr => ?_)
  · simp
    refine VC_split (fun _ => ?_) (fun h => absurd h (by simp [hn]))
    simp
    exact aPost_same0 hB rfl (nilV_refl _) (by simp) (h0 hn)
  · subst hi
    have hlt := at_lt hcm
    obtain ⟨o1, o2, o3, o4, o5⟩ := hok i m rfl hm
    have hq := fun m' s b e h => h1 i c m m' s b e rfl hc hm hcm (mLive_nat hm ha hcl hr) h
    have hcm' := hcm
    unfold Cn.av at hcm
    by_cases k1 : k < 1
    · simp [k1]
      have := hq m [] false 1 (by simp [cRead, k1])
      rw [set_same hcm'] at this
      exact aPost_same0 hB rfl (nilV_refl _) (by simp) this
    · by_cases k2 : m.rg = 0
      · rw [k2] at hcm
        simp [k1, hcm]
        have := hq m [] false 244 (by simp [cRead, k1, k2])
        rw [set_same hcm'] at this
        exact aPost_same0 hB rfl (nilV_refl _) (by simp) this
      · have k2' : (m.rg == 0) = false := by simp [k2]
        simp [k1, hcm, k2']
        refine granted_pc E H _ c 0 _ m.rg hcm rfl (fun _ => by simp) ?_
        have htk : (m.del.drop m.rd).take (m.del.length - m.rd) = m.del.drop m.rd := List.take_of_length_le (by simp)
        simp [hs0 hlt, hs1 hlt, hs2 hlt, hs3 hlt, hs4 hlt, hs5 hlt, bts_drop, bts_take, htk, o1]
        obtain ⟨q, hmin, hq0, hqk⟩ : ∃ q : Nat, (if m.rg < k then m.rg else k) = q ∧ 0 < q ∧ (q : Int) = min k m.rg := ⟨(min k m.rg).toNat, by split <;> omega, by omega, by omega⟩
        have htq : (min k m.rg).toNat = q := by omega
        by_cases k3 : m.rd < m.del.length
        · have hp : (0 < m.del.length - m.rd) = True := eq_true (by omega)
          by_cases k4 : m.del.length - m.rd < q
          · have hw1 : IntKind.i64.wrap ((m.rd : Int) + (m.del.length - m.rd : Nat)) = (m.rd + (m.del.length - m.rd) : Nat) := by rw [wrap_in (by omega) (by omega)]; omega
            simp [hp, hmin, k4, bts_take, htk, hs0 hlt, hs1 hlt, hs2 hlt, hs3 hlt, hs4 hlt, hs5 hlt, hw1]
            have := hq { m with rg := 0, rd := m.rd + (m.del.length - m.rd) } (m.del.drop m.rd) false 0 (by
              have e1 : (m.del.drop m.rd).take q = m.del.drop m.rd := List.take_of_length_le (by simp; omega)
              simp [cRead, k1, k2, k3, htq, e1])
            exact aPost_set0 hB rfl (nilV_refl _) (by simp) (by simp) this
          · have hw1 : IntKind.i64.wrap ((m.rd : Int) + (q : Nat)) = (m.rd + q : Nat) := by rw [wrap_in (by omega) (by omega)]; omega
            have hl1 : ((m.del.drop m.rd).take q).length = q := by rw [List.length_take, List.length_drop]; omega
            have hmq : Nat.min q (m.del.length - m.rd) = q := Nat.min_eq_left (by omega)
            simp [hp, hmin, k4, bts_take, htk, hs0 hlt, hs1 hlt, hs2 hlt, hs3 hlt, hs4 hlt, hs5 hlt, hw1, (by omega : q ≤ m.del.length - m.rd), hmq]
            have := hq { m with rg := 0, rd := m.rd + q } ((m.del.drop m.rd).take q) false 0 (by
              simp [cRead, k1, k2, k3, htq, (by omega : q ≤ m.del.length - m.rd)])
            exact aPost_set0 hB rfl (nilV_refl _) (by simp) (by simp) this
        · have hp : (0 < m.del.length - m.rd) = False := eq_false (by omega)
          simp [hp, hs0 hlt, hs1 hlt, hs2 hlt, hs3 hlt, hs4 hlt, hs5 hlt]
          cases he : m.ended
          · simp
            have := hq { m with rg := 0 } [] false 244 (by simp [cRead, k1, k2, k3, he])
            simp only [Cn.av, he] at this
            exact aPost_set0 hB rfl (nilV_refl _) (by simp) (by simp) this
          · simp
            have := hq { m with rg := 0 } [] true 0 (by simp [cRead, k1, k2, k3, he])
            simp only [Cn.av, he] at this
            exact aPost_set0 hB rfl (nilV_refl _) (by simp) (by simp) this
theorem write_pc (s : List UInt8) (hsl : ∀ (i : Nat) m, n = i → ms[i]? = some m → m.tak.length + s.length ≤ 140737488355328) (hok : ∀ (i : Nat) m, n = i → ms[i]? = some m → m.ok) (h0 : mLive ms n ≠ 0 → Q (.tup [.int .i64 0, .int .i64 (mLive ms n)]) H)
    (h1 : ∀ (i c : Nat) m m' (r : Nat) e, n = i → cs[i]? = some c → ms[i]? = some m → H[c]? = some m.av → mLive ms n = 0 → cWrite m s = (m', r, e) → Q (.tup [.int .i64 r, .int .i64 e]) (H.set c m'.av)) :
    PC Try.prog E 19 [wpt w, .int .i64 n, .str s] H Q := by
  refine pc_enter Try.func19 rfl [48] [] (by kernel_rfl) (fun hB => ?_)
  simp [Try.ntmps19, Try.results19, List.replicate_succ]
  refine live_pc E H w cs ms _ n hw hl (fun hn => ?_) (fun i c m hi hc hm hcm ha hcl hr => ?_)
  · simp
    refine VC_split (fun _ => ?_) (fun h => absurd h (by simp [hn]))
    simp
    exact aPost_same0 hB rfl (nilV_refl _) (by simp) (h0 hn)
  · subst hi
    have hlt := at_lt hcm
    obtain ⟨o1, o2, o3, o4, o5⟩ := hok i m rfl hm
    have hq := fun m' r e h => h1 i c m m' r e rfl hc hm hcm (mLive_nat hm ha hcl hr) h
    have hcm' := hcm
    replace hsl := hsl i m rfl hm
    unfold Cn.av at hcm
    by_cases k1 : m.wg = 0
    · rw [k1] at hcm
      simp [hcm]
      have := hq m 0 244 (by simp [cWrite, k1])
      rw [set_same hcm'] at this
      exact aPost_same0 hB rfl (nilV_refl _) (by simp) this
    · have k1' : (m.wg == 0) = false := by simp [k1]
      by_cases k2 : s = []
      · subst k2
        simp [hcm, k1']
        have := hq m 0 244 (by simp [cWrite])
        rw [set_same hcm'] at this
        exact aPost_same0 hB rfl (nilV_refl _) (by simp) this
      · have k2' : (s == []) = false := by simp [k2]
        simp [hcm, k1', k2']
        refine granted_pc E H _ c 3 _ m.wg hcm rfl (fun _ => by simp) ?_
        obtain ⟨g, hg⟩ : ∃ g : Nat, m.wg = g := ⟨m.wg.toNat, by omega⟩
        rw [hg]
        have hm1 : m.tak.length + (s.take g).length ≤ maxLen := by unfold maxLen; have := List.length_take_le g s; have := List.length_take_le' g s; omega
        have hm2 : m.tak.length + (s.take g).length ≤ 140737488355328 := by have := List.length_take_le' g s; omega
        have e : s.take m.wg.toNat = s.take g := by rw [hg]; rfl
        have := hq { m with wg := 0, tak := m.tak ++ s.take g } (s.take g).length 0 (by simp [cWrite, k1, k2, e])
        by_cases k3 : g < s.length
        · have hl3 : (s.take g).length = g := by rw [List.length_take]; omega
          rw [hl3] at hm1 hm2 this
          simp [hs0 hlt, hs1 hlt, hs2 hlt, hs3 hlt, hs4 hlt, hs5 hlt, k3, (by omega : g ≤ s.length), hm1, hm2, bts_app]
          exact aPost_set0 hB rfl (nilV_refl _) (by simp) (by simp) this
        · have e3 : s.take g = s := List.take_of_length_le (by omega)
          rw [e3] at hm1 hm2 this
          simp [hs0 hlt, hs1 hlt, hs2 hlt, hs3 hlt, hs4 hlt, hs5 hlt, k3, hm1, hm2, bts_app]
          exact aPost_set0 hB rfl (nilV_refl _) (by simp) (by simp) this
end
end Go.Proofs.Ytgnjdfnjohgnlaa
