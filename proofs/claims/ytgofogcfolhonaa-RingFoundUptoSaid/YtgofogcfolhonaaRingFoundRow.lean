/- 'RingFound' answers true at every input of bulk at most 1048576: the given second form, with no other condition ahead of it. -/
import Derived.Test.YtgofogcfolhonaaRingJ
import Derived.Test.YtgofogcfolhonaaOpen
import Derived.Lay
import Derived.Deep.DeepHandedRow
import Derived.Stop.LaidErr
set_option linter.unusedVariables false
set_option linter.unusedSimpArgs false
namespace Go.Proofs.Ytgofogcfolhonaa
open Go Go.ChangeShapes Go.WideShapes Go.ChangeAt Go.RowKit Go.Deep

theorem ringFound_laid (os : Os) : laidMet Try.prog Rows.ringFoundUptoRow.laid ((World.laidAll Try.prog os Rows.ringFoundUptoRow.laid).forCall (fun _ _ => 0) ⟨#[], #[.slice none 0 0, .agg #[.slice none 0 0, .int .i64 0, .int .i64 0]], []⟩).memory :=
  laidMet_laidAll _ (by kernel_rfl) (by kernel_rfl)
theorem ringFound_reads (os : Os) {H : Type} (enc : TypeId × Value → H) : ∃ places, DataW.whole enc Try.prog ((World.laidAll Try.prog os Rows.ringFoundUptoRow.laid).forCall (fun _ _ => 0) ⟨#[], #[.slice none 0 0, .agg #[.slice none 0 0, .int .i64 0, .int .i64 0]], []⟩).memory Try.f11.params.toList Rows.ringFoundSpec.vars false #[Value.slice none 0 0, Value.agg #[.slice none 0 0, .int .i64 0, .int .i64 0]].toList 8 = some ([.nil, .agg [.nil, .lit (.int .i64 0), .lit (.int .i64 0)]], [], places) :=
  ⟨[], by kernel_rfl⟩

set_option maxRecDepth 100000 in
set_option maxHeartbeats 1000000 in
theorem ringFound_lifted (os : Os) (started : os.Started) (H : Type) (enc : TypeId × Value → H) (F : Stop.Interp) :
    ReturnsInHanded {} Try.checked os 11 .any ((Rows.OpenSpec.upto Rows.ringFoundSpec).preRow enc Try.prog Try.f11 Rows.ringFoundUptoRow.domain false Rows.ringFoundUptoRow.laid) (((Rows.OpenSpec.upto Rows.ringFoundSpec).at F).post enc Try.prog Try.f11 false true false false) := by
  obtain ⟨places, hx⟩ := ringFound_reads os enc
  refine returnsInHanded_of_row (C := Try.checked) (s := Rows.OpenSpec.upto Rows.ringFoundSpec) Try.own started (by kernel_rfl) Try.func11
    (witness_row_at (enc := enc) (C := Try.checked) false (World.laidAll Try.prog os Rows.ringFoundUptoRow.laid) #[.slice none 0 0, .agg #[.slice none 0 0, .int .i64 0, .int .i64 0]] (World.laidAll_os _ _ _) (by kernel_rfl) (by kernel_rfl) (by kernel_rfl)
      (OpenSpec.preRow_of_cond 8 hx (by kernel_rfl) (fun k hk => by cases hk; kernel_rfl) (by kernel_rfl) (ringFound_laid os))) ?_
  intro W base args ds gs before hval0 hW _ hcond hsz0 _ hsh _
  have hM : MaxLenAt W := maxLen_of_shape hsh
  have hval : ∀ (j : Nat) t v, Try.f11.params[j]? = some t → args[j]? = some v → Value.okWide Try.prog W .any base t v := hval0
  have hbk : Rows.uptoBulkAll (ds ++ gs) ≤ 1048576 := of_decide_eq_true (hcond _ rfl)
  have hW' := hW
  obtain ⟨p, q, hA0, hV, rfl, hfz, hnd⟩ := hW
  have hA : DataW.TrodAll enc Try.prog W 0 (fun _ => true) true Try.f11.params.toList args.toList ds p := hA0
  rw [Try.params11] at hA hval
  obtain ⟨v0, v1, d0, d1, p0, p1, rfl, rfl, rfl, h0, h1⟩ := trodAll_two hA
  obtain ⟨rfl, rfl⟩ := trodVars_none hV
  simp only [List.append_nil] at hbk
  obtain ⟨a0, b0, c0', rfl⟩ := okWide_slice Try.underlying66 (hval 0 66 v0 rfl rfl)
  obtain ⟨n0, h0⟩ := h0
  obtain ⟨ks0, op0, hb0⟩ := opened (enc := enc) (ks := [.u8s]) 6 (by kernel_rfl) h0
  obtain ⟨n1, h1⟩ := h1
  obtain ⟨ks1, op1, hb1⟩ := opened (enc := enc) (ks := [.u8s, .int .i64, .int .i64]) 6 (by kernel_rfl) h1
  obtain ⟨cs1, rfl, _⟩ := okWide_struct Try.underlying95 (hval 1 95 v1 rfl rfl)
  have bb0 : wtA ks0 + 1 ≤ 1048576 := by
    simp only [Rows.uptoBulkAll] at hbk
    dsimp only at hb0
    omega
  have bb1 : wtA ks1 + 1 ≤ 1048576 := by
    simp only [Rows.uptoBulkAll] at hbk
    dsimp only at hb1
    omega
  have walk : Calls Try.prog 11 #[.slice a0 b0 c0', .agg cs1] W fun e w' => e = .returned (.bool true) ∧ Frm (fun _ => False) W w' := rfound_true W a0 b0 c0' ks0 op0 bb0 cs1 ks1 op1 bb1 hM
  refine walk.mono fun e W' ⟨he, hF⟩ => ?_
  subst he
  exact ⟨_, rfl, law_post Try.laidOut (by kernel_rfl) rfl rfl (by kernel_rfl) rfl hW' hF⟩

theorem ringFound_upto : Rows.RingFoundUptoSaid :=
  OpenClaim.holds_of_cond 11 Try.f11 rfl rfl rfl rfl rfl rfl rfl ⟨rfl, rfl, rfl, rfl, rfl⟩ rfl rfl rfl rfl rfl (by kernel_rfl) Try.func11 (by kernel_rfl)
    (of_decide_eq_true (by kernel_rfl)) (by unfold Func.isWrapper; first | (rw [if_pos (by decide +kernel)]; kernel_rfl) | (rw [if_neg (by decide +kernel)]; exact ⟨rfl, rfl⟩))
    (fun os started H enc _ F => by rw [OpenClaim.pre_eq_preRow]; exact ringFound_lifted os started H enc F)
end Go.Proofs.Ytgofogcfolhonaa
