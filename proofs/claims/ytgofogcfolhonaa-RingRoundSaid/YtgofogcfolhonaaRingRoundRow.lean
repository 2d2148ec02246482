/- 'RingRound' answers true at every input: the given statement, with no condition ahead of it. -/
import Derived.Test.YtgofogcfolhonaaRound
import Derived.Test.YtgofogcfolhonaaLaw
set_option linter.unusedVariables false
set_option linter.unusedSimpArgs false
namespace Go.Proofs.Ytgofogcfolhonaa
open Go Go.ChangeShapes Go.WideShapes Go.ChangeAt Go.RowKit Go.Deep

set_option maxRecDepth 100000 in
set_option maxHeartbeats 1000000 in
theorem ringRound_lifted (os : Os) (started : os.Started) (H : Type) (enc : TypeId × Value → H) :
    ReturnsInHanded {} Try.checked os 10 .any (Rows.ringRoundSpec.pre6 enc Try.prog Try.f10 Rows.ringRoundRow.domain false) (Rows.ringRoundSpec.post enc Try.prog Try.f10 false true false false) := by
  refine returnsInHanded_of_change_sized (C := Try.checked) Try.own started (by kernel_rfl) Try.func10
    (ChangeSpec.witness6 (enc := enc) (C := Try.checked) false ⟨#[], #[.int .i64 0, .slice none 0 0], []⟩ 8 (by kernel_rfl) (by kernel_rfl) (by kernel_rfl) (by kernel_rfl)) ?_
  intro W base args ds gs before hval0 hW hcnd hsz0 _
  have hval : ∀ (j : Nat) t v, Try.f10.params[j]? = some t → args[j]? = some v → Value.okWide Try.prog W .any base t v := hval0
  have hsz : (DataW.weightsEach Try.prog (Try.f10.params.toList ++ Rows.ringRoundSpec.plain.varTypes Try.prog) (ds ++ gs)).all (· ≤ reachBytes) = true := hsz0
  have hW' := hW
  obtain ⟨p, q, hA0, hV, rfl, hfz, hnd⟩ := hW
  have hA : DataW.TrodAll enc Try.prog W 0 (fun _ => true) true Try.f10.params.toList args.toList ds p := hA0
  rw [Try.params10] at hA hval hsz
  obtain ⟨v0, v1, d0, d1, p0, p1, rfl, rfl, rfl, h0, h1⟩ := trodAll_two hA
  obtain ⟨rfl, rfl⟩ := trodVars_none hV
  obtain ⟨x0, rfl, rfl, rfl, w0⟩ := open_int Try.underlying3 (hval 0 3 v0 rfl rfl) h0
  have r0 : -9223372036854775808 ≤ x0 ∧ x0 ≤ 9223372036854775807 := by simpa [Lit.wf, IntKind.min, IntKind.max, IntKind.signed, IntKind.bits] using w0
  obtain ⟨a1, l1, c1, rfl⟩ := okWide_slice Try.underlying23 (hval 1 23 v1 rfl rfl)
  obtain ⟨n1, h1⟩ := h1
  obtain ⟨a1', l1', c1', xs1, hcs1, e1, le1, lm1, hx1, hy1, hz1, q1⟩ := open_rows (α := Int) 1 (by decide) (fun a x => W.cell? a = some (.int .i64 x) ∧ (-9223372036854775808 ≤ x ∧ x ≤ 9223372036854775807)) Try.underlying23 (by kernel_rfl)
    (fun a n cs' d pl hc h => by
      obtain ⟨z, hz, hw⟩ := row_int Try.underlying3 a n cs' d pl hc h
      exact ⟨z, hz, by simpa [Lit.wf, IntKind.min, IntKind.max, IntKind.signed, IntKind.bits] using hw⟩) h1
  simp [Value.cells] at hcs1
  obtain ⟨rfl, rfl, rfl⟩ := hcs1
  have hb1 := rows_fit (j := 1) (b := 8) hsz rfl rfl Try.underlying23 (by kernel_rfl) hx1 hy1 hz1
  simp only [Nat.mul_one] at q1
  have walk : Calls Try.prog 10 #[.int .i64 x0, .slice a1 l1 c1] W fun e w' => e = .returned (.bool true) ∧ Frm (fun _ => False) W w' := by
    by_cases hs : x0 < 1 ∨ 4096 < x0
    · exact round_short W x0 _ hs
    · obtain ⟨y0, rfl⟩ : ∃ y0 : Nat, x0 = y0 := ⟨x0.toNat, by omega⟩
      exact round_true W y0 a1 l1 c1 xs1 (by omega) (by omega) (by omega) e1 (fun k z hk => by
        obtain ⟨g, o, h1, h2⟩ := q1 k z hk
        exact ⟨g, o, h1, h2.1⟩) (fun z hz => by
        obtain ⟨i, hi⟩ := List.getElem?_of_mem hz
        obtain ⟨_, _, _, _, h3⟩ := q1 i z hi
        exact h3)
  refine walk.mono fun e W' ⟨he, hF⟩ => ?_
  subst he
  exact ⟨_, rfl, law_post Try.laidOut (by kernel_rfl) rfl rfl (by kernel_rfl) rfl hW' hF⟩

theorem ringRound_said : Rows.RingRoundSaid :=
  OpenClaim.holds_of_wide 10 Try.f10 rfl rfl rfl rfl rfl rfl rfl ⟨rfl, rfl, rfl, rfl, rfl⟩ rfl rfl rfl rfl rfl (by kernel_rfl) Try.func10 (by kernel_rfl)
    (of_decide_eq_true (by kernel_rfl)) (by unfold Func.isWrapper; first | (rw [if_pos (by decide +kernel)]; kernel_rfl) | (rw [if_neg (by decide +kernel)]; exact ⟨rfl, rfl⟩))
    (fun os started H enc _ => ringRound_lifted os started H enc)
end Go.Proofs.Ytgofogcfolhonaa
