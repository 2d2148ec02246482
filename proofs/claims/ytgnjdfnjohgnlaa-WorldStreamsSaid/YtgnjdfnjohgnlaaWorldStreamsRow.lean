/- 'WorldStreams' answers true at every input: the given statement, with no condition ahead of it. -/
import Derived.Test.YtgnjdfnjohgnlaaWStreams
import Derived.Test.YtgnjdfnjohgnlaaLaw
set_option linter.unusedVariables false
set_option linter.unusedSimpArgs false
namespace Go.Proofs.Ytgnjdfnjohgnlaa
open Go Go.ChangeShapes Go.WideShapes Go.ChangeAt Go.RowKit Go.Deep

set_option maxRecDepth 100000 in
set_option maxHeartbeats 1000000 in
theorem worldStreams_lifted (os : Os) (started : os.Started) (H : Type) (enc : TypeId × Value → H) :
    ReturnsInHanded {} Try.checked os 5 .any (Rows.worldStreamsSpec.pre6 enc Try.prog Try.f5 Rows.worldStreamsRow.domain false) (Rows.worldStreamsSpec.post enc Try.prog Try.f5 false true false false) := by
  refine returnsInHanded_of_change_sized (C := Try.checked) Try.own started (by kernel_rfl) Try.func5
    (ChangeSpec.witness6 (enc := enc) (C := Try.checked) false ⟨#[], #[.string ⟨#[]⟩, .string ⟨#[]⟩, .slice none 0 0], []⟩ 8 (by kernel_rfl) (by kernel_rfl) (by kernel_rfl) (by kernel_rfl)) ?_
  intro W base args ds gs before hval0 hW hcnd hsz0 _
  have hval : ∀ (j : Nat) t v, Try.f5.params[j]? = some t → args[j]? = some v → Value.okWide Try.prog W .any base t v := hval0
  have hsz : (DataW.weightsEach Try.prog (Try.f5.params.toList ++ Rows.worldStreamsSpec.plain.varTypes Try.prog) (ds ++ gs)).all (· ≤ reachBytes) = true := hsz0
  have hW' := hW
  obtain ⟨p, q, hA0, hV, rfl, hfz, hnd⟩ := hW
  have hA : DataW.TrodAll enc Try.prog W 0 (fun _ => true) true Try.f5.params.toList args.toList ds p := hA0
  rw [Try.params5] at hA hval hsz
  obtain ⟨v0, v1, v2, d0, d1, d2, p0, p1, p2, rfl, rfl, rfl, h0, h1, h2⟩ := trodAll_three hA
  obtain ⟨rfl, rfl⟩ := trodVars_none hV
  obtain ⟨x0, rfl, rfl, rfl, w0⟩ := Go.ChangeMaps.open_string Try.underlying9 (hval 0 9 v0 rfl rfl) h0
  have b0 : x0.size ≤ 140737488351232 := by
    have := sized_string hsz (j := 0) rfl rfl
    rw [size_toList] at this
    exact this
  obtain ⟨x1, rfl, rfl, rfl, w1⟩ := Go.ChangeMaps.open_string Try.underlying9 (hval 1 9 v1 rfl rfl) h1
  have b1 : x1.size ≤ 140737488351232 := by
    have := sized_string hsz (j := 1) rfl rfl
    rw [size_toList] at this
    exact this
  obtain ⟨a2, l2, c2, rfl⟩ := okWide_slice Try.underlying48 (hval 2 48 v2 rfl rfl)
  obtain ⟨n2, h2⟩ := h2
  obtain ⟨a2', l2', c2', xs2, hcs2, e2, le2, lm2, hx2, hy2, hz2, q2⟩ := open_rows (α := Int) 1 (by decide) (fun a x => W.cell? a = some (.int .i64 x) ∧ (-9223372036854775808 ≤ x ∧ x ≤ 9223372036854775807)) Try.underlying48 (by kernel_rfl)
    (fun a n cs' d pl hc h => by
      obtain ⟨z, hz, hw⟩ := row_int Try.underlying3 a n cs' d pl hc h
      exact ⟨z, hz, by simpa [Lit.wf, IntKind.min, IntKind.max, IntKind.signed, IntKind.bits] using hw⟩) h2
  simp [Value.cells] at hcs2
  obtain ⟨rfl, rfl, rfl⟩ := hcs2
  have hb2 := rows_fit (j := 2) (b := 8) hsz rfl rfl Try.underlying48 (by kernel_rfl) hx2 hy2 hz2
  simp only [Nat.mul_one] at q2
  have walk : Calls Try.prog 5 #[.string x0, .string x1, .slice a2 l2 c2] W fun e w' => e = .returned (.bool true) ∧ Frm (fun _ => False) W w' := by
    exact streams_true W x0 x1 a2 l2 c2 xs2 b0 b1 (by omega) e2 le2 lm2 (fun k z hk => by
      obtain ⟨g, o, h1, h2⟩ := q2 k z hk
      exact ⟨g, o, h1, h2.1⟩)
  refine walk.mono fun e W' ⟨he, hF⟩ => ?_
  subst he
  exact ⟨_, rfl, law_post Try.laidOut (by kernel_rfl) rfl rfl (by kernel_rfl) rfl hW' hF⟩

theorem worldStreams_said : Rows.WorldStreamsSaid :=
  OpenClaim.holds_of_wide 5 Try.f5 rfl rfl rfl rfl rfl rfl rfl ⟨rfl, rfl, rfl, rfl, rfl⟩ rfl rfl rfl rfl rfl (by kernel_rfl) Try.func5 (by kernel_rfl)
    (of_decide_eq_true (by kernel_rfl)) (by unfold Func.isWrapper; first | (rw [if_pos (by decide +kernel)]; kernel_rfl) | (rw [if_neg (by decide +kernel)]; exact ⟨rfl, rfl⟩))
    (fun os started H enc _ => worldStreams_lifted os started H enc)
end Go.Proofs.Ytgnjdfnjohgnlaa
