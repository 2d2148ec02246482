/- 'ParseCuts' answers true at every input of bulk at most 1048576: the given card of the second form, proved with no condition beside that and the table that the row lists. -/
import Derived.Test.YtnnhdehmlkkfjaaGreatDoorPd12
import Derived.Lay
import Derived.Stop.LaidErr
import Derived.JoinedCond
set_option linter.unusedVariables false
set_option linter.unusedSimpArgs false
namespace Go.Proofs.YtnnhdehmlkkfjaaGreatDoor
open Go Go.ChangeShapes Go.WideShapes Go.ChangeAt Go.RowKit Go.Deep

theorem qhi (os : Os) : laidMet Tryz.prog Rows.parseCutsUptoRow.laid ((World.laidAll Tryz.prog os Rows.parseCutsUptoRow.laid).forCall (fun _ _ => 0) ⟨#[], #[.agg #[.int .i64 0, .int .i64 0, .int .i64 0, .int .i64 0], .string ⟨#[]⟩, .slice none 0 0], []⟩).memory :=
  laidMet_laidAll _ (by kernel_rfl) (by kernel_rfl)
theorem qgz (os : Os) {H : Type} (enc : TypeId × Value → H) : ∃ places, DataW.whole enc Tryz.prog ((World.laidAll Tryz.prog os Rows.parseCutsUptoRow.laid).forCall (fun _ _ => 0) ⟨#[], #[.agg #[.int .i64 0, .int .i64 0, .int .i64 0, .int .i64 0], .string ⟨#[]⟩, .slice none 0 0], []⟩).memory Tryz.f5.params.toList Rows.parseCutsSpec.vars false #[Value.agg #[.int .i64 0, .int .i64 0, .int .i64 0, .int .i64 0], Value.string ⟨#[]⟩, Value.slice none 0 0].toList 8 = some ([.agg [.lit (.int .i64 0), .lit (.int .i64 0), .lit (.int .i64 0), .lit (.int .i64 0)], .lit (.string []), .nil], [], places) :=
  ⟨[], by kernel_rfl⟩

set_option maxRecDepth 100000 in
set_option maxHeartbeats 1000000 in
theorem qfX (os : Os) (started : os.Started) (H : Type) (enc : TypeId × Value → H) (F : Stop.Interp) :
    ReturnsInHanded {} Tryz.checked os 5 .any ((Rows.OpenSpec.upto Rows.parseCutsSpec).preRow enc Tryz.prog Tryz.f5 Rows.parseCutsUptoRow.domain false Rows.parseCutsUptoRow.laid) (((Rows.OpenSpec.upto Rows.parseCutsSpec).at F).post enc Tryz.prog Tryz.f5 false true false false) := by
  obtain ⟨places, hx⟩ := qgz os enc
  refine returnsInHanded_of_row (C := Tryz.checked) (s := Rows.OpenSpec.upto Rows.parseCutsSpec) Tryz.own started (by kernel_rfl) Tryz.func5
    (witness_row_at (enc := enc) (C := Tryz.checked) false (World.laidAll Tryz.prog os Rows.parseCutsUptoRow.laid) #[.agg #[.int .i64 0, .int .i64 0, .int .i64 0, .int .i64 0], .string ⟨#[]⟩, .slice none 0 0] (World.laidAll_os _ _ _) (by kernel_rfl) (by kernel_rfl) (by kernel_rfl)
      (OpenSpec.preRow_of_cond 8 hx (by kernel_rfl) (fun k hk => by cases hk; kernel_rfl) (by kernel_rfl) (qhi os))) ?_
  intro W base args ds gs before hval0 hW _ hcond hsz0 hL hsh _
  have hT : Tabs W := ⟨qdN (laidMet.tail (laidMet.tail (laidMet.tail (laidMet.tail hL)))), qgf (laidMet.tail hL), Lib.tabIs_of_head (rest := _) qc8 (by kernel_rfl) Tryz.underlying221 Tryz.underlying198 (by kernel_rfl) (by kernel_rfl) (laidMet.tail (laidMet.tail hL))⟩
  have hM : qcW W := qcG hsh
  have hval : ∀ (j : Nat) t v, Tryz.f5.params[j]? = some t → args[j]? = some v → Value.okWide Tryz.prog W .any base t v := hval0
  have hbk : Rows.uptoBulkAll (ds ++ gs) ≤ 1048576 := of_decide_eq_true (hcond _ rfl)
  have hW' := hW
  obtain ⟨p, q, hA0, hV, rfl, hfz, hnd⟩ := hW
  have hA : DataW.TrodAll enc Tryz.prog W 0 (fun _ => true) true Tryz.f5.params.toList args.toList ds p := hA0
  rw [Tryz.params5] at hA hval
  obtain ⟨v0, v1, v2, d0, d1, d2, p0, p1, p2, rfl, rfl, rfl, h0, h1, h2⟩ := trodAll_three hA
  obtain ⟨rfl, rfl⟩ := trodVars_none hV
  simp only [List.append_nil] at hbk
  obtain ⟨n0, h0⟩ := h0
  obtain ⟨ks0, op0, hb0⟩ := opened (enc := enc) (ks := [.int .i64, .int .i64, .int .i64, .int .i64]) 6 (by kernel_rfl) h0
  obtain ⟨cs0, rfl, _⟩ := okWide_struct Tryz.underlying23 (hval 0 23 v0 rfl rfl)
  obtain ⟨x1, rfl, rfl, rfl, w1⟩ := Go.ChangeMaps.open_string Tryz.underlying9 (hval 1 9 v1 rfl rfl) h1
  obtain ⟨a2, b2, c2', rfl⟩ := okWide_slice Tryz.underlying51 (hval 2 51 v2 rfl rfl)
  obtain ⟨n2, h2⟩ := h2
  obtain ⟨bo2, l2, c2, rows2, hcs2, e2, le2, lm2, hr2, hn2, hk2, hb2⟩ := qhC (ks := [.int .i64]) 6 Tryz.underlying51 (by kernel_rfl) (by kernel_rfl) (by decide) h2
  dsimp only at hb2
  simp [Value.cells] at hcs2
  obtain ⟨rfl, rfl, rfl⟩ := hcs2
  have bb0 : wtA ks0 + 1 ≤ 1048576 := by
    simp only [Rows.uptoBulkAll] at hbk
    dsimp only at hb0
    omega
  have s1 : x1.size ≤ 1048576 := by
    have := hbk
    simp only [Rows.uptoBulkAll, Rows.uptoBulk, qad] at this
    omega
  have bb2 : wtA rows2.flatten + b2 ≤ 1048576 := by
    simp only [Rows.uptoBulkAll] at hbk
    omega
  have walk : Calls Tryz.prog 5 #[.agg cs0, .string x1, .slice a2 b2 c2'] W fun e w' => e = .returned (.bool true) ∧ Frm (fun _ => False) W w' := qms W cs0 ks0 op0 x1 s1 a2 b2 c2' rows2 hr2 hn2 hk2 e2 bb2 hT hM
  refine walk.mono fun e W' ⟨he, hF⟩ => ?_
  subst he
  exact ⟨_, rfl, qin Tryz.laidOut (by kernel_rfl) rfl rfl (by kernel_rfl) rfl hW' hF⟩

theorem qgy : Rows.ParseCutsUptoSaid :=
  OpenClaim.holds_of_cond 5 Tryz.f5 rfl rfl rfl rfl rfl rfl rfl ⟨rfl, rfl, rfl, rfl, rfl⟩ rfl rfl rfl rfl rfl (by kernel_rfl) Tryz.func5 (by kernel_rfl)
    (of_decide_eq_true (by kernel_rfl)) (by unfold Func.isWrapper; first | (rw [if_pos (by decide +kernel)]; kernel_rfl) | (rw [if_neg (by decide +kernel)]; exact ⟨rfl, rfl⟩))
    (fun os started H enc _ F => by rw [OpenClaim.pre_eq_preRow]; exact qfX os started H enc F)

theorem qgA (f : FuncId) (fn : Func) (hf : Tryz.pinned.checked.prog.funcNamed "turnpike/turnpikelaw11.ParseCuts" = some f) (hfn : Tryz.pinned.checked.prog.funcs[f]? = some fn) :
    true = Tryz.pinned.checked.prog.looks [] ∧ ∀ (j : Nat) t, fn.params[j]? = some t → Tryz.pinned.checked.prog.wantsStandIn t = false := by
  obtain rfl : f = 5 := Option.some.inj ((show Tryz.prog.funcNamed "turnpike/turnpikelaw11.ParseCuts" = some 5 by kernel_rfl).symm.trans hf) |>.symm
  obtain rfl : fn = Tryz.f5 := (Option.some.inj (Tryz.func5.symm.trans hfn)).symm
  have all : Tryz.f5.params.all (fun t => Tryz.prog.wantsStandIn t == false) = true := by kernel_rfl
  refine ⟨by kernel_rfl, fun j t ht => ?_⟩
  have := Array.all_eq_true_iff_forall_mem.1 all t (Array.mem_of_getElem? ht)
  exact beq_iff_eq.1 this

/-- THE CARD. -/
theorem parseCuts_card2 : Rows.ParseCutsUptoCardSaid :=
  Claim7.holds_tied_plain_at .later [] _ _ _ _ qgy (fun _ h => by cases h) (by kernel_rfl) (fun _ h => by cases h) parseCutsUpto_row_tie rfl ⟨rfl, rfl⟩ (by kernel_rfl) rfl qgA (by kernel_rfl)
end Go.Proofs.YtnnhdehmlkkfjaaGreatDoor

