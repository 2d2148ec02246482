/- 'RingPieces' answers true at every input: the given statement, with no condition ahead of it. -/
import Derived.Test.YtgofogcfolhonaaPieces
import Derived.Test.YtgofogcfolhonaaLaw
set_option linter.unusedVariables false
set_option linter.unusedSimpArgs false
namespace Go.Proofs.Ytgofogcfolhonaa
open Go Go.ChangeShapes Go.WideShapes Go.ChangeAt Go.RowKit Go.Deep

set_option maxRecDepth 100000 in
set_option maxHeartbeats 1000000 in
theorem ringPieces_lifted (os : Os) (started : os.Started) (H : Type) (enc : TypeId × Value → H) :
    ReturnsInHanded {} Try.checked os 7 .any (Rows.ringPiecesSpec.pre6 enc Try.prog Try.f7 Rows.ringPiecesRow.domain false) (Rows.ringPiecesSpec.post enc Try.prog Try.f7 false true false false) := by
  refine returnsInHanded_of_change_sized (C := Try.checked) Try.own started (by kernel_rfl) Try.func7
    (ChangeSpec.witness6 (enc := enc) (C := Try.checked) false ⟨#[], #[.slice none 0 0, .slice none 0 0], []⟩ 8 (by kernel_rfl) (by kernel_rfl) (by kernel_rfl) (by kernel_rfl)) ?_
  intro W base args ds gs before hval0 hW hcnd hsz0 _
  have hval : ∀ (j : Nat) t v, Try.f7.params[j]? = some t → args[j]? = some v → Value.okWide Try.prog W .any base t v := hval0
  have hsz : (DataW.weightsEach Try.prog (Try.f7.params.toList ++ Rows.ringPiecesSpec.plain.varTypes Try.prog) (ds ++ gs)).all (· ≤ reachBytes) = true := hsz0
  have hW' := hW
  obtain ⟨p, q, hA0, hV, rfl, hfz, hnd⟩ := hW
  have hA : DataW.TrodAll enc Try.prog W 0 (fun _ => true) true Try.f7.params.toList args.toList ds p := hA0
  rw [Try.params7] at hA hval hsz
  obtain ⟨v0, v1, d0, d1, p0, p1, rfl, rfl, rfl, h0, h1⟩ := trodAll_two hA
  obtain ⟨rfl, rfl⟩ := trodVars_none hV
  obtain ⟨a0, l0, c0, rfl⟩ := okWide_slice Try.underlying66 (hval 0 66 v0 rfl rfl)
  obtain ⟨n0, h0⟩ := h0
  obtain ⟨a0', l0', c0', xs0, hcs0, e0, le0, lm0, hx0, hy0, hz0, q0⟩ := open_rows (α := UInt8) 1 (by decide) (fun a x => W.cell? a = some (.int .u8 ((x : UInt8).toNat : Int))) Try.underlying66 (by kernel_rfl)
    (fun a n cs' d pl hc h => row_u8 Try.underlying5 a n cs' d pl hc h) h0
  simp [Value.cells] at hcs0
  obtain ⟨rfl, rfl, rfl⟩ := hcs0
  have hb0 := rows_fit (j := 0) (b := 1) hsz rfl rfl Try.underlying66 (by kernel_rfl) hx0 hy0 hz0
  have r0 := rsl_rows e0 le0 lm0 q0
  obtain ⟨a1, l1, c1, rfl⟩ := okWide_slice Try.underlying23 (hval 1 23 v1 rfl rfl)
  obtain ⟨n1, h1⟩ := h1
  obtain ⟨a1', l1', c1', xs1, hcs1, e1, le1, lm1, hx1, hy1, hz1, q1⟩ := open_rows (α := Int) 1 (by decide) (fun a x => W.cell? a = some (.int .i64 x) ∧ (-9223372036854775808 ≤ x ∧ x ≤ 9223372036854775807)) Try.underlying23 (by kernel_rfl)
    (fun a n cs' d pl hc h => by
      obtain ⟨z, hz, hw⟩ := row_int Try.underlying3 a n cs' d pl hc h
      exact ⟨z, hz, by simpa [Lit.wf, IntKind.min, IntKind.max, IntKind.signed, IntKind.bits] using hw⟩) h1
  simp [Value.cells] at hcs1
  obtain ⟨rfl, rfl, rfl⟩ := hcs1
  have hb1 := rows_fit (j := 1) (b := 8) hsz rfl rfl Try.underlying23 (by kernel_rfl) hx1 hy1 hz1
  simp only [Nat.mul_one] at q1
  have walk : Calls Try.prog 7 #[.slice a0 l0 c0, .slice a1 l1 c1] W fun e w' => e = .returned (.bool true) ∧ Frm (fun _ => False) W w' := by
    by_cases hs : l0 < 1 ∨ 1048576 < l0
    · exact pieces_short W a0 l0 c0 _ hs (by have := r0.caps.2; simp only [maxLen] at this; omega)
    · exact pieces_true W a0 l0 c0 a1 l1 c1 xs0 xs1 (by omega) (by omega) (by omega) r0 e1 (fun k z hk => by
        obtain ⟨g, o, h1, h2⟩ := q1 k z hk
        exact ⟨g, o, h1, h2.1⟩) (fun z hz => by
        obtain ⟨i, hi⟩ := List.getElem?_of_mem hz
        obtain ⟨_, _, _, _, h3⟩ := q1 i z hi
        exact h3)
  refine walk.mono fun e W' ⟨he, hF⟩ => ?_
  subst he
  exact ⟨_, rfl, law_post Try.laidOut (by kernel_rfl) rfl rfl (by kernel_rfl) rfl hW' hF⟩

theorem ringPieces_said : Rows.RingPiecesSaid :=
  OpenClaim.holds_of_wide 7 Try.f7 rfl rfl rfl rfl rfl rfl rfl ⟨rfl, rfl, rfl, rfl, rfl⟩ rfl rfl rfl rfl rfl (by kernel_rfl) Try.func7 (by kernel_rfl)
    (of_decide_eq_true (by kernel_rfl)) (by unfold Func.isWrapper; first | (rw [if_pos (by decide +kernel)]; kernel_rfl) | (rw [if_neg (by decide +kernel)]; exact ⟨rfl, rfl⟩))
    (fun os started H enc _ => ringPieces_lifted os started H enc)
end Go.Proofs.Ytgofogcfolhonaa
