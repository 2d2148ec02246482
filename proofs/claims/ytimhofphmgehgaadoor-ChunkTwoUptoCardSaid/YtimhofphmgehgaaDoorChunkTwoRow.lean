/- 'ChunkTwo' answers true at every input of bulk at most 1048576: the given card of the second form, proved with no condition beside that and the table that the row lists. -/
import Derived.Test.YtimhofphmgehgaaDoorCiB
import Derived.Test.YtimhofphmgehgaaDoorChLay
import Derived.Test.YtimhofphmgehgaaDoorOpen
import Derived.Lay
import Derived.Stop.LaidErr
import Derived.JoinedCond
set_option linter.unusedVariables false
set_option linter.unusedSimpArgs false
namespace Go.Proofs.YtimhofphmgehgaaDoor
open Go Go.ChangeShapes Go.WideShapes Go.ChangeAt Go.RowKit Go.Deep

theorem chunkTwo_laid (os : Os) : laidMet Tryd.prog Rows.chunkTwoUptoRow.laid ((World.laidAll Tryd.prog os Rows.chunkTwoUptoRow.laid).forCall (fun _ _ => 0) ⟨#[], #[.agg #[.int .i64 0, .int .i64 0, .int .i64 0], .agg #[.int .i64 0, .int .i64 0, .int .i64 0], .slice none 0 0], []⟩).memory :=
  laidMet_laidAll _ (by kernel_rfl) (by kernel_rfl)
theorem chunkTwo_reads (os : Os) {H : Type} (enc : TypeId × Value → H) : ∃ places, DataW.whole enc Tryd.prog ((World.laidAll Tryd.prog os Rows.chunkTwoUptoRow.laid).forCall (fun _ _ => 0) ⟨#[], #[.agg #[.int .i64 0, .int .i64 0, .int .i64 0], .agg #[.int .i64 0, .int .i64 0, .int .i64 0], .slice none 0 0], []⟩).memory Tryd.f7.params.toList Rows.chunkTwoSpec.vars false #[Value.agg #[.int .i64 0, .int .i64 0, .int .i64 0], Value.agg #[.int .i64 0, .int .i64 0, .int .i64 0], Value.slice none 0 0].toList 8 = some ([.agg [.lit (.int .i64 0), .lit (.int .i64 0), .lit (.int .i64 0)], .agg [.lit (.int .i64 0), .lit (.int .i64 0), .lit (.int .i64 0)], .nil], [], places) :=
  ⟨[], by kernel_rfl⟩

set_option maxRecDepth 100000 in
set_option maxHeartbeats 1000000 in
theorem chunkTwo_lifted (os : Os) (started : os.Started) (H : Type) (enc : TypeId × Value → H) (F : Stop.Interp) :
    ReturnsInHanded {} Tryd.checked os 7 .any ((Rows.OpenSpec.upto Rows.chunkTwoSpec).preRow enc Tryd.prog Tryd.f7 Rows.chunkTwoUptoRow.domain false Rows.chunkTwoUptoRow.laid) (((Rows.OpenSpec.upto Rows.chunkTwoSpec).at F).post enc Tryd.prog Tryd.f7 false true false false) := by
  obtain ⟨places, hx⟩ := chunkTwo_reads os enc
  refine returnsInHanded_of_row (C := Tryd.checked) (s := Rows.OpenSpec.upto Rows.chunkTwoSpec) Tryd.own started (by kernel_rfl) Tryd.func7
    (witness_row_at (enc := enc) (C := Tryd.checked) false (World.laidAll Tryd.prog os Rows.chunkTwoUptoRow.laid) #[.agg #[.int .i64 0, .int .i64 0, .int .i64 0], .agg #[.int .i64 0, .int .i64 0, .int .i64 0], .slice none 0 0] (World.laidAll_os _ _ _) (by kernel_rfl) (by kernel_rfl) (by kernel_rfl)
      (OpenSpec.preRow_of_cond 8 hx (by kernel_rfl) (fun k hk => by cases hk; kernel_rfl) (by kernel_rfl) (chunkTwo_laid os))) ?_
  intro W base args ds gs before hval0 hW _ hcond hsz0 hL _ _
  have hS : Signs W := signs_of_row (laidMet.tail hL)
  have hval : ∀ (j : Nat) t v, Tryd.f7.params[j]? = some t → args[j]? = some v → Value.okWide Tryd.prog W .any base t v := hval0
  have hbk : Rows.uptoBulkAll (ds ++ gs) ≤ 1048576 := of_decide_eq_true (hcond _ rfl)
  have hW' := hW
  obtain ⟨p, q, hA0, hV, rfl, hfz, hnd⟩ := hW
  have hA : DataW.TrodAll enc Tryd.prog W 0 (fun _ => true) true Tryd.f7.params.toList args.toList ds p := hA0
  rw [Tryd.params7] at hA hval
  obtain ⟨v0, v1, v2, d0, d1, d2, p0, p1, p2, rfl, rfl, rfl, h0, h1, h2⟩ := trodAll_three hA
  obtain ⟨rfl, rfl⟩ := trodVars_none hV
  simp only [List.append_nil] at hbk
  obtain ⟨n0, h0⟩ := h0
  obtain ⟨ks0, op0, hb0⟩ := opened (enc := enc) (ks := [.int .i64, .int .i64, .int .i64]) 6 (by kernel_rfl) h0
  obtain ⟨cs0, rfl, _⟩ := okWide_struct Tryd.underlying33 (hval 0 33 v0 rfl rfl)
  obtain ⟨n1, h1⟩ := h1
  obtain ⟨ks1, op1, hb1⟩ := opened (enc := enc) (ks := [.int .i64, .int .i64, .int .i64]) 6 (by kernel_rfl) h1
  obtain ⟨cs1, rfl, _⟩ := okWide_struct Tryd.underlying33 (hval 1 33 v1 rfl rfl)
  obtain ⟨a2, b2, c2', rfl⟩ := okWide_slice Tryd.underlying42 (hval 2 42 v2 rfl rfl)
  obtain ⟨n2, h2⟩ := h2
  obtain ⟨bo2, l2, c2, rows2, hcs2, e2, le2, lm2, hr2, hn2, hk2, hb2⟩ := open_plain (ks := [.int .i64, .str]) 6 Tryd.underlying42 (by kernel_rfl) (by kernel_rfl) (by decide) h2
  dsimp only at hb2
  simp [Value.cells] at hcs2
  obtain ⟨rfl, rfl, rfl⟩ := hcs2
  have bb0 : wtA ks0 + 1 ≤ 1048576 := by
    simp only [Rows.uptoBulkAll] at hbk
    dsimp only at hb0
    omega
  have bb1 : wtA ks1 + 1 ≤ 1048576 := by
    simp only [Rows.uptoBulkAll] at hbk
    dsimp only at hb1
    omega
  have bb2 : wtA rows2.flatten + b2 ≤ 1048576 := by
    simp only [Rows.uptoBulkAll] at hbk
    omega
  have walk : Calls Tryd.prog 7 #[.agg cs0, .agg cs1, .slice a2 b2 c2'] W fun e w' => e = .returned (.bool true) ∧ Frm (fun _ => False) W w' := ctwo_true W cs0 ks0 op0 cs1 ks1 op1 a2 b2 c2' rows2 hr2 hn2 hk2 e2 bb2 hS
  refine walk.mono fun e W' ⟨he, hF⟩ => ?_
  subst he
  exact ⟨_, rfl, law_post Tryd.laidOut (by kernel_rfl) rfl rfl (by kernel_rfl) rfl hW' hF⟩

theorem chunkTwo_said2 : Rows.ChunkTwoUptoSaid :=
  OpenClaim.holds_of_cond 7 Tryd.f7 rfl rfl rfl rfl rfl rfl rfl ⟨rfl, rfl, rfl, rfl, rfl⟩ rfl rfl rfl rfl rfl (by kernel_rfl) Tryd.func7 (by kernel_rfl)
    (of_decide_eq_true (by kernel_rfl)) (by unfold Func.isWrapper; first | (rw [if_pos (by decide +kernel)]; kernel_rfl) | (rw [if_neg (by decide +kernel)]; exact ⟨rfl, rfl⟩))
    (fun os started H enc _ F => by rw [OpenClaim.pre_eq_preRow]; exact chunkTwo_lifted os started H enc F)

theorem chunkTwo_plain (f : FuncId) (fn : Func) (hf : Tryd.pinned.checked.prog.funcNamed "turnpike/turnpikelaw10.ChunkTwo" = some f) (hfn : Tryd.pinned.checked.prog.funcs[f]? = some fn) :
    false = Tryd.pinned.checked.prog.looks [] ∧ ∀ (j : Nat) t, fn.params[j]? = some t → Tryd.pinned.checked.prog.wantsStandIn t = false := by
  obtain rfl : f = 7 := Option.some.inj ((show Tryd.prog.funcNamed "turnpike/turnpikelaw10.ChunkTwo" = some 7 by kernel_rfl).symm.trans hf) |>.symm
  obtain rfl : fn = Tryd.f7 := (Option.some.inj (Tryd.func7.symm.trans hfn)).symm
  have all : Tryd.f7.params.all (fun t => Tryd.prog.wantsStandIn t == false) = true := by kernel_rfl
  refine ⟨by kernel_rfl, fun j t ht => ?_⟩
  have := Array.all_eq_true_iff_forall_mem.1 all t (Array.mem_of_getElem? ht)
  exact beq_iff_eq.1 this

/-- THE CARD. -/
theorem chunkTwo_card2 : Rows.ChunkTwoUptoCardSaid :=
  Claim7.holds_tied_plain_at .later [] _ _ _ _ chunkTwo_said2 (fun _ h => by cases h) (by kernel_rfl) (fun _ h => by cases h) chunkTwoUpto_row_tie rfl ⟨rfl, rfl⟩ (by kernel_rfl) rfl chunkTwo_plain (by kernel_rfl)
end Go.Proofs.YtimhofphmgehgaaDoor
