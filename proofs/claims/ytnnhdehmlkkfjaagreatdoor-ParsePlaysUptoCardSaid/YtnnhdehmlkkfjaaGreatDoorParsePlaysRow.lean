/- 'ParsePlays' answers true at every input of bulk at most 1048576: the given card of the second form, proved with no condition beside that and the table that the row lists. -/
import Derived.Test.YtnnhdehmlkkfjaaGreatDoorPd12
import Derived.Lay
import Derived.Stop.LaidErr
import Derived.JoinedCond
set_option linter.unusedVariables false
set_option linter.unusedSimpArgs false
namespace Go.Proofs.YtnnhdehmlkkfjaaGreatDoor
open Go Go.ChangeShapes Go.WideShapes Go.ChangeAt Go.RowKit Go.Deep

theorem qgx (os : Os) : laidMet Tryz.prog Rows.parsePlaysUptoRow.laid ((World.laidAll Tryz.prog os Rows.parsePlaysUptoRow.laid).forCall (fun _ _ => 0) ⟨#[], #[.agg #[.int .i64 0, .int .i64 0, .int .i64 0, .int .i64 0], .slice none 0 0], []⟩).memory :=
  laidMet_laidAll _ (by kernel_rfl) (by kernel_rfl)
theorem qfV (os : Os) {H : Type} (enc : TypeId × Value → H) : ∃ places, DataW.whole enc Tryz.prog ((World.laidAll Tryz.prog os Rows.parsePlaysUptoRow.laid).forCall (fun _ _ => 0) ⟨#[], #[.agg #[.int .i64 0, .int .i64 0, .int .i64 0, .int .i64 0], .slice none 0 0], []⟩).memory Tryz.f7.params.toList Rows.parsePlaysSpec.vars false #[Value.agg #[.int .i64 0, .int .i64 0, .int .i64 0, .int .i64 0], Value.slice none 0 0].toList 8 = some ([.agg [.lit (.int .i64 0), .lit (.int .i64 0), .lit (.int .i64 0), .lit (.int .i64 0)], .nil], [], places) :=
  ⟨[], by kernel_rfl⟩

set_option maxRecDepth 100000 in
set_option maxHeartbeats 1000000 in
theorem qfp (os : Os) (started : os.Started) (H : Type) (enc : TypeId × Value → H) (F : Stop.Interp) :
    ReturnsInHanded {} Tryz.checked os 7 .any ((Rows.OpenSpec.upto Rows.parsePlaysSpec).preRow enc Tryz.prog Tryz.f7 Rows.parsePlaysUptoRow.domain false Rows.parsePlaysUptoRow.laid) (((Rows.OpenSpec.upto Rows.parsePlaysSpec).at F).post enc Tryz.prog Tryz.f7 false true false false) := by
  obtain ⟨places, hx⟩ := qfV os enc
  refine returnsInHanded_of_row (C := Tryz.checked) (s := Rows.OpenSpec.upto Rows.parsePlaysSpec) Tryz.own started (by kernel_rfl) Tryz.func7
    (witness_row_at (enc := enc) (C := Tryz.checked) false (World.laidAll Tryz.prog os Rows.parsePlaysUptoRow.laid) #[.agg #[.int .i64 0, .int .i64 0, .int .i64 0, .int .i64 0], .slice none 0 0] (World.laidAll_os _ _ _) (by kernel_rfl) (by kernel_rfl) (by kernel_rfl)
      (OpenSpec.preRow_of_cond 8 hx (by kernel_rfl) (fun k hk => by cases hk; kernel_rfl) (by kernel_rfl) (qgx os))) ?_
  intro W base args ds gs before hval0 hW _ hcond hsz0 hL hsh _
  have hT : Tabs W := ⟨qdN (laidMet.tail (laidMet.tail (laidMet.tail (laidMet.tail hL)))), qgf (laidMet.tail hL), Lib.tabIs_of_head (rest := _) qc8 (by kernel_rfl) Tryz.underlying221 Tryz.underlying198 (by kernel_rfl) (by kernel_rfl) (laidMet.tail (laidMet.tail hL))⟩
  have hM : qcW W := qcG hsh
  have hval : ∀ (j : Nat) t v, Tryz.f7.params[j]? = some t → args[j]? = some v → Value.okWide Tryz.prog W .any base t v := hval0
  have hbk : Rows.uptoBulkAll (ds ++ gs) ≤ 1048576 := of_decide_eq_true (hcond _ rfl)
  have hW' := hW
  obtain ⟨p, q, hA0, hV, rfl, hfz, hnd⟩ := hW
  have hA : DataW.TrodAll enc Tryz.prog W 0 (fun _ => true) true Tryz.f7.params.toList args.toList ds p := hA0
  rw [Tryz.params7] at hA hval
  obtain ⟨v0, v1, d0, d1, p0, p1, rfl, rfl, rfl, h0, h1⟩ := trodAll_two hA
  obtain ⟨rfl, rfl⟩ := trodVars_none hV
  simp only [List.append_nil] at hbk
  obtain ⟨n0, h0⟩ := h0
  obtain ⟨ks0, op0, hb0⟩ := opened (enc := enc) (ks := [.int .i64, .int .i64, .int .i64, .int .i64]) 6 (by kernel_rfl) h0
  obtain ⟨cs0, rfl, _⟩ := okWide_struct Tryz.underlying23 (hval 0 23 v0 rfl rfl)
  obtain ⟨a1, b1, c1', rfl⟩ := okWide_slice Tryz.underlying66 (hval 1 66 v1 rfl rfl)
  obtain ⟨n1, h1⟩ := h1
  obtain ⟨bo1, l1, c1, rows1, hcs1, e1, le1, lm1, hr1, hn1, hk1, hb1⟩ := qhC (ks := [.bool, .str]) 6 Tryz.underlying66 (by kernel_rfl) (by kernel_rfl) (by decide) h1
  dsimp only at hb1
  simp [Value.cells] at hcs1
  obtain ⟨rfl, rfl, rfl⟩ := hcs1
  have bb0 : wtA ks0 + 1 ≤ 1048576 := by
    simp only [Rows.uptoBulkAll] at hbk
    dsimp only at hb0
    omega
  have bb1 : wtA rows1.flatten + b1 ≤ 1048576 := by
    simp only [Rows.uptoBulkAll] at hbk
    omega
  have walk : Calls Tryz.prog 7 #[.agg cs0, .slice a1 b1 c1'] W fun e w' => e = .returned (.bool true) ∧ Frm (fun _ => False) W w' := qkx W cs0 ks0 op0 a1 b1 c1' rows1 hr1 hn1 hk1 e1 bb1 hT hM
  refine walk.mono fun e W' ⟨he, hF⟩ => ?_
  subst he
  exact ⟨_, rfl, qin Tryz.laidOut (by kernel_rfl) rfl rfl (by kernel_rfl) rfl hW' hF⟩

set_option maxRecDepth 100000 in
set_option maxHeartbeats 16000000 in
theorem qfq : joinedFacts Tryz.pinned.checked.prog 7 Tryz.f7 (Rows.OpenSpec.upto Rows.parsePlaysSpec).bare Rows.parsePlaysUptoRow = true := by
  unfold joinedFacts
  simp only [Bool.and_eq_true]
  and_intros
  all_goals as_aux_lemma => kernel_rfl
set_option maxRecDepth 100000 in
theorem qfU : Rows.ParsePlaysUptoSaid :=
  OpenClaim.holds_of_cond 7 Tryz.f7 rfl rfl rfl rfl rfl rfl rfl ⟨rfl, rfl, rfl, rfl, rfl⟩ rfl rfl rfl rfl rfl (by kernel_rfl) Tryz.func7 qfq
    (of_decide_eq_true (by kernel_rfl)) (by unfold Func.isWrapper; first | (rw [if_pos (by decide +kernel)]; kernel_rfl) | (rw [if_neg (by decide +kernel)]; exact ⟨rfl, rfl⟩))
    (fun os started H enc _ F => by rw [OpenClaim.pre_eq_preRow]; exact qfp os started H enc F)

theorem qfW (f : FuncId) (fn : Func) (hf : Tryz.pinned.checked.prog.funcNamed "turnpike/turnpikelaw11.ParsePlays" = some f) (hfn : Tryz.pinned.checked.prog.funcs[f]? = some fn) :
    true = Tryz.pinned.checked.prog.looks [] ∧ ∀ (j : Nat) t, fn.params[j]? = some t → Tryz.pinned.checked.prog.wantsStandIn t = false := by
  obtain rfl : f = 7 := Option.some.inj ((show Tryz.prog.funcNamed "turnpike/turnpikelaw11.ParsePlays" = some 7 by kernel_rfl).symm.trans hf) |>.symm
  obtain rfl : fn = Tryz.f7 := (Option.some.inj (Tryz.func7.symm.trans hfn)).symm
  have all : Tryz.f7.params.all (fun t => Tryz.prog.wantsStandIn t == false) = true := by kernel_rfl
  refine ⟨by kernel_rfl, fun j t ht => ?_⟩
  have := Array.all_eq_true_iff_forall_mem.1 all t (Array.mem_of_getElem? ht)
  exact beq_iff_eq.1 this

/-- THE CARD. -/
theorem parsePlays_card2 : Rows.ParsePlaysUptoCardSaid :=
  Claim7.holds_tied_plain_at .later [] _ _ _ _ qfU (fun _ h => by cases h) (by kernel_rfl) (fun _ h => by cases h) parsePlaysUpto_row_tie rfl ⟨rfl, rfl⟩ (by kernel_rfl) rfl qfW (by kernel_rfl)
end Go.Proofs.YtnnhdehmlkkfjaaGreatDoor

