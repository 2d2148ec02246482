/- 'WheelTwo' answers true at every input of bulk at most 1048576: the given second form, with no other condition ahead of it. -/
import Derived.Test.YtijnohcaeedffaaWt7
import Derived.JoinedCond
set_option linter.unusedVariables false
set_option linter.unusedSimpArgs false
namespace Go.Proofs.Ytijnohcaeedffaa
open Go Go.ChangeShapes Go.WideShapes Go.ChangeAt Go.RowKit Go.Deep

set_option maxRecDepth 100000 in
set_option maxHeartbeats 1000000 in
theorem wheelTwo_lifted (os : Os) (started : os.Started) (H : Type) (enc : TypeId × Value → H) (F : Stop.Interp) :
    ReturnsInHanded {} Try.checked os 7 .any ((Rows.OpenSpec.upto Rows.wheelTwoSpec).pre6 enc Try.prog Try.f7 Rows.wheelTwoUptoRow.domain false) (((Rows.OpenSpec.upto Rows.wheelTwoSpec).at F).post enc Try.prog Try.f7 false true false false) := by
  refine returnsInHanded_of_cond (C := Try.checked) (s := Rows.OpenSpec.upto Rows.wheelTwoSpec) (k := Rows.uptoSmall) rfl Try.own started (by kernel_rfl) Try.func7
    (OpenSpec.witness (enc := enc) (C := Try.checked) (s := Rows.OpenSpec.upto Rows.wheelTwoSpec) (k := Rows.uptoSmall) rfl false ⟨#[], #[.int .i64 0, .slice none 0 0, .slice none 0 0], []⟩ 8 (by kernel_rfl) (by kernel_rfl) (by kernel_rfl)
      (x := ([.lit (.int .i64 0), .nil, .nil], [], [])) (by kernel_rfl) rfl (by kernel_rfl)) ?_
  intro W base args ds gs before hval0 hW _ hsm _
  have hval : ∀ (j : Nat) t v, Try.f7.params[j]? = some t → args[j]? = some v → Value.okWide Try.prog W .any base t v := hval0
  have hW' := hW
  obtain ⟨p, q, hA0, hV, rfl, hfz, hnd⟩ := hW
  have hA : DataW.TrodAll enc Try.prog W 0 (fun _ => true) true Try.f7.params.toList args.toList ds p := hA0
  rw [Try.params7] at hA hval
  obtain ⟨v0, v1, v2, d0, d1, d2, p0, p1, p2, rfl, rfl, rfl, h0, h1, h2⟩ := trodAll_three hA
  obtain ⟨rfl, rfl⟩ := trodVars_none hV
  have hbk : Rows.uptoBulkAll _ ≤ 1048576 := of_decide_eq_true hsm
  simp only [List.append_nil] at hbk
  obtain ⟨x0, rfl, rfl, rfl, w0⟩ := open_int Try.underlying3 (hval 0 3 v0 rfl rfl) h0
  have r0 : -9223372036854775808 ≤ x0 ∧ x0 ≤ 9223372036854775807 := by simpa [Lit.wf, IntKind.min, IntKind.max, IntKind.signed, IntKind.bits] using w0
  obtain ⟨a1, b1, c1', rfl⟩ := okWide_slice Try.underlying37 (hval 1 37 v1 rfl rfl)
  obtain ⟨n1, h1⟩ := h1
  obtain ⟨bo1, l1, c1, rows1, hcs1, e1, le1, lm1, hr1, hn1, hk1, hb1⟩ := open_plain (ks := [.int .i64, .int .i64, .int .i64]) 6 Try.underlying37 (by kernel_rfl) (by kernel_rfl) (by decide) h1
  dsimp only at hb1
  simp [Value.cells] at hcs1
  obtain ⟨rfl, rfl, rfl⟩ := hcs1
  obtain ⟨a2, b2, c2', rfl⟩ := okWide_slice Try.underlying37 (hval 2 37 v2 rfl rfl)
  obtain ⟨n2, h2⟩ := h2
  obtain ⟨bo2, l2, c2, rows2, hcs2, e2, le2, lm2, hr2, hn2, hk2, hb2⟩ := open_plain (ks := [.int .i64, .int .i64, .int .i64]) 6 Try.underlying37 (by kernel_rfl) (by kernel_rfl) (by decide) h2
  dsimp only at hb2
  simp [Value.cells] at hcs2
  obtain ⟨rfl, rfl, rfl⟩ := hcs2
  have walk : Calls Try.prog 7 #[.int .i64 x0, .slice a1 b1 c1', .slice a2 b2 c2'] W fun e w' => e = .returned (.bool true) ∧ Frm (fun _ => False) W w' := by
    exact wtwo_true W x0 a1 b1 c1' rows1 a2 b2 c2' rows2 r0 hr1 hn1 hk1 e1 hr2 hn2 hk2 e2 (by simp only [Rows.uptoBulkAll] at hbk; omega)
  refine walk.mono fun e W' ⟨he, hF⟩ => ?_
  subst he
  exact ⟨_, rfl, law_post Try.laidOut (by kernel_rfl) rfl rfl (by kernel_rfl) rfl hW' hF⟩

theorem wheelTwo_upto : Rows.WheelTwoUptoSaid :=
  OpenClaim.holds_of_cond 7 Try.f7 rfl rfl rfl rfl rfl rfl rfl ⟨rfl, rfl, rfl, rfl, rfl⟩ rfl rfl rfl rfl rfl (by kernel_rfl) Try.func7 (by kernel_rfl)
    (of_decide_eq_true (by kernel_rfl)) (by unfold Func.isWrapper; first | (rw [if_pos (by decide +kernel)]; kernel_rfl) | (rw [if_neg (by decide +kernel)]; exact ⟨rfl, rfl⟩))
    (fun os started H enc _ F => wheelTwo_lifted os started H enc F)
end Go.Proofs.Ytijnohcaeedffaa

