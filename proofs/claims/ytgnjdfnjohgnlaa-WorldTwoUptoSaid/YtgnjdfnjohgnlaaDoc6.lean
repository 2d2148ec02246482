/- The laws' own functions: event, sameReady, sameLine, looked. -/
import Derived.Test.YtgnjdfnjohgnlaaDoc5
import Derived.Test.YtgnjdfnjohgnlaaWApart
set_option linter.unusedVariables false
set_option linter.unusedSimpArgs false
set_option linter.unusedSectionVars false
set_option maxRecDepth 100000
namespace Go.Proofs.Ytgnjdfnjohgnlaa
open Go Go.RowKit

section
variable (E : Env) (H : Hp) (Q : AV → Hp → Prop)
theorem event_pc (k n i : Int) (d : List UInt8) (hQ : Q (evA k n i d) H) : PC Try.prog E 34 [evA k n i d] H Q := by
  refine pc_enter Try.func34 rfl [] [] (by kernel_rfl) (fun hB => ?_)
  simp [Try.ntmps34, Try.results34, List.replicate_succ, evA]
  exact aPost_same hB (by simp [evA]) (nilV_refl _) (by simp [evA]) hQ
def row5 (r : List AV) : Prop := ∃ i a b c d, r = rdyRow i a b c d
theorem rdy_row5 (i : Nat) (m : Cn) : ∀ r ∈ rdy i m, row5 r := by
  unfold rdy
  split
  · simp
  · dsimp only
    split
    · intro r hr; simp at hr; subst hr; exact ⟨_, _, _, _, _, rfl⟩
    · simp
theorem rdyTo_row5 (ms : List Cn) : ∀ i, ∀ r ∈ rdyTo ms i, row5 r
  | 0 => by simp [rdyTo]
  | i + 1 => by
    intro r hr
    rw [rdyTo] at hr
    rcases List.mem_append.1 hr with h | h
    · exact rdyTo_row5 ms i r h
    · split at h
      · exact rdy_row5 i _ r h
      · cases h
theorem mReady_row5 (ms : List Cn) : ∀ r ∈ mReady ms, row5 r := fun r hr => by
  rcases List.mem_append.1 hr with h | h
  · split at h
    · simp at h; subst h; exact ⟨_, _, _, _, _, rfl⟩
    · cases h
  · exact rdyTo_row5 ms _ r h
def srI (H : Hp) (rows : List (List AV)) (fr : List AV) (H' : Hp) : Prop := ∃ J, H' = H ++ J ∧ ∃ i : Nat, i ≤ rows.length ∧
  ∃ x : Nat → AV, fr = [x 0, .sl false 5 rows, x 2, x 3, x 4, x 5, x 6, x 7, x 8, x 9, x 10, x 11, .sl false 5 rows, .int .i64 rows.length, .int .i64 i, x 15, x 16, x 17, x 18, x 19, x 20, x 21, x 22, x 23, x 24, x 25, x 26, x 27, x 28, x 29, x 30, x 31, x 32, x 33, x 34, x 35]
theorem sameReady_pc (rows : List (List AV)) (hr : ∀ r ∈ rows, row5 r) (hl : rows.length ≤ 8192) (hQ : Q (.bool true) H) : PC Try.prog E 25 [.sl false 5 rows, .sl false 5 rows] H Q := by
  refine pc_enter Try.func25 rfl [] [] (by kernel_rfl) (fun hB => ?_)
  simp [Try.ntmps25, Try.results25, List.replicate_succ]
  refine VL_go (srI H rows) (fun fr _ => rows.length - (ai (aget fr 14)).toNat) ⟨[], by simp, 0, by omega, fr_intro (by simp)⟩ ?_
  rintro fr H' ⟨J, rfl, i, hi, x, rfl⟩
  by_cases h : i < rows.length
  · obtain ⟨k, a, b, c, d, hrow⟩ := hr rows[i] (List.getElem_mem _)
    have hat : lat rows i = some [.int .i64 k, .bool a, .bool b, .bool c, .bool d] := by
      unfold lat; rw [List.getElem?_eq_getElem h, hrow]; rfl
    have hw : IntKind.i64.wrap ((i : Int) + 1) = i + 1 := wrap_in (by omega) (by omega)
    simp [h, hat, hw]
    refine Kloop_normal ?_ ?_
    rotate_left
    · simp; omega
    exact ⟨_, rfl, i + 1, by omega, fr_intro (by simp)⟩
  · simp [h]
    exact aPost_same hB rfl (nilV_refl _) (by simp) hQ
theorem sameLine_pc (m : Cn) (hQ : Q (.bool true) H) : PC Try.prog E 50 [.agg m.line, .agg (dRow m)] H Q := by
  refine pc_enter Try.func50 rfl [] [] (by kernel_rfl) (fun hB => ?_)
  simp [Try.ntmps50, Try.results50, List.replicate_succ, Cn.line, dRow]
  exact aPost_same hB rfl (nilV_refl _) (by simp) hQ
end
end Go.Proofs.Ytgnjdfnjohgnlaa
