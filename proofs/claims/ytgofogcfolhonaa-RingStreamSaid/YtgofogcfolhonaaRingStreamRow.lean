/- 'RingStream' answers true at every input: the given statement, with no condition ahead of it. -/
import Derived.Test.YtgofogcfolhonaaStream
import Derived.Test.YtgofogcfolhonaaLaw
set_option linter.unusedVariables false
set_option linter.unusedSimpArgs false
namespace Go.Proofs.Ytgofogcfolhonaa
open Go Go.ChangeShapes Go.WideShapes Go.ChangeAt Go.RowKit Go.Deep

set_option maxRecDepth 100000 in
set_option maxHeartbeats 1000000 in
theorem ringStream_lifted (os : Os) (started : os.Started) (H : Type) (enc : TypeId × Value → H) :
    ReturnsInHanded {} Try.checked os 8 .any (Rows.ringStreamSpec.pre6 enc Try.prog Try.f8 Rows.ringStreamRow.domain false) (Rows.ringStreamSpec.post enc Try.prog Try.f8 false true false false) := by
  refine returnsInHanded_of_change_sized (C := Try.checked) Try.own started (by kernel_rfl) Try.func8
    (ChangeSpec.witness6 (enc := enc) (C := Try.checked) false ⟨#[], #[.int .i64 0, .slice none 0 0, .slice none 0 0], []⟩ 8 (by kernel_rfl) (by kernel_rfl) (by kernel_rfl) (by kernel_rfl)) ?_
  intro W base args ds gs before hval0 hW hcnd hsz0 _
  have hval : ∀ (j : Nat) t v, Try.f8.params[j]? = some t → args[j]? = some v → Value.okWide Try.prog W .any base t v := hval0
  have hsz : (DataW.weightsEach Try.prog (Try.f8.params.toList ++ Rows.ringStreamSpec.plain.varTypes Try.prog) (ds ++ gs)).all (· ≤ reachBytes) = true := hsz0
  have hW' := hW
  obtain ⟨p, q, hA0, hV, rfl, hfz, hnd⟩ := hW
  have hA : DataW.TrodAll enc Try.prog W 0 (fun _ => true) true Try.f8.params.toList args.toList ds p := hA0
  rw [Try.params8] at hA hval hsz
  obtain ⟨v0, v1, v2, d0, d1, d2, p0, p1, p2, rfl, rfl, rfl, h0, h1, h2⟩ := trodAll_three hA
  obtain ⟨rfl, rfl⟩ := trodVars_none hV
  obtain ⟨x0, rfl, rfl, rfl, w0⟩ := open_int Try.underlying3 (hval 0 3 v0 rfl rfl) h0
  have r0 : -9223372036854775808 ≤ x0 ∧ x0 ≤ 9223372036854775807 := by simpa [Lit.wf, IntKind.min, IntKind.max, IntKind.signed, IntKind.bits] using w0
  obtain ⟨a1, l1, c1, rfl⟩ := okWide_slice Try.underlying66 (hval 1 66 v1 rfl rfl)
  obtain ⟨n1, h1⟩ := h1
  obtain ⟨a1', l1', c1', xs1, hcs1, e1, le1, lm1, hx1, hy1, hz1, q1⟩ := open_rows (α := UInt8) 1 (by decide) (fun a x => W.cell? a = some (.int .u8 ((x : UInt8).toNat : Int))) Try.underlying66 (by kernel_rfl)
    (fun a n cs' d pl hc h => row_u8 Try.underlying5 a n cs' d pl hc h) h1
  simp [Value.cells] at hcs1
  obtain ⟨rfl, rfl, rfl⟩ := hcs1
  have hb1 := rows_fit (j := 1) (b := 1) hsz rfl rfl Try.underlying66 (by kernel_rfl) hx1 hy1 hz1
  have r1 := rsl_rows e1 le1 lm1 q1
  obtain ⟨a2, l2, c2, rfl⟩ := okWide_slice Try.underlying23 (hval 2 23 v2 rfl rfl)
  obtain ⟨n2, h2⟩ := h2
  obtain ⟨a2', l2', c2', xs2, hcs2, e2, le2, lm2, hx2, hy2, hz2, q2⟩ := open_rows (α := Int) 1 (by decide) (fun a x => W.cell? a = some (.int .i64 x) ∧ (-9223372036854775808 ≤ x ∧ x ≤ 9223372036854775807)) Try.underlying23 (by kernel_rfl)
    (fun a n cs' d pl hc h => by
      obtain ⟨z, hz, hw⟩ := row_int Try.underlying3 a n cs' d pl hc h
      exact ⟨z, hz, by simpa [Lit.wf, IntKind.min, IntKind.max, IntKind.signed, IntKind.bits] using hw⟩) h2
  simp [Value.cells] at hcs2
  obtain ⟨rfl, rfl, rfl⟩ := hcs2
  have hb2 := rows_fit (j := 2) (b := 8) hsz rfl rfl Try.underlying23 (by kernel_rfl) hx2 hy2 hz2
  simp only [Nat.mul_one] at q2
  have walk : Calls Try.prog 8 #[.int .i64 x0, .slice a1 l1 c1, .slice a2 l2 c2] W fun e w' => e = .returned (.bool true) ∧ Frm (fun _ => False) W w' := by
    by_cases hs : x0 < 1 ∨ 1048576 < x0
    · exact stream_short W x0 _ _ hs
    · obtain ⟨y0, rfl⟩ : ∃ y0 : Nat, x0 = y0 := ⟨x0.toNat, by omega⟩
      exact stream_true W y0 a1 l1 c1 a2 l2 c2 xs1 xs2 (by omega) (by omega) (by omega) (by omega) r1 e2 (fun k z hk => by
        obtain ⟨g, o, h1, h2⟩ := q2 k z hk
        exact ⟨g, o, h1, h2.1⟩) (fun z hz => by
        obtain ⟨i, hi⟩ := List.getElem?_of_mem hz
        obtain ⟨_, _, _, _, h3⟩ := q2 i z hi
        exact h3)
  refine walk.mono fun e W' ⟨he, hF⟩ => ?_
  subst he
  exact ⟨_, rfl, law_post Try.laidOut (by kernel_rfl) rfl rfl (by kernel_rfl) rfl hW' hF⟩

theorem ringStream_said : Rows.RingStreamSaid :=
  OpenClaim.holds_of_wide 8 Try.f8 rfl rfl rfl rfl rfl rfl rfl ⟨rfl, rfl, rfl, rfl, rfl⟩ rfl rfl rfl rfl rfl (by kernel_rfl) Try.func8 (by kernel_rfl)
    (of_decide_eq_true (by kernel_rfl)) (by unfold Func.isWrapper; first | (rw [if_pos (by decide +kernel)]; kernel_rfl) | (rw [if_neg (by decide +kernel)]; exact ⟨rfl, rfl⟩))
    (fun os started H enc _ => ringStream_lifted os started H enc)
end Go.Proofs.Ytgofogcfolhonaa
