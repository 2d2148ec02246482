/- Common to the rows that name internal/bytealg.MaxLen. -/
import Derived.Test.YtgofogcfolhonaaRingF
import Derived.Shelf.Vars
set_option linter.unusedVariables false
set_option linter.unusedSimpArgs false
set_option linter.unusedSectionVars false
set_option maxRecDepth 100000
namespace Go.Proofs.Ytgofogcfolhonaa
open Go Go.RowKit

theorem kind_i64 {x : AV} (h : KindOf (.int .i64) x) : ∃ z, x = .int .i64 z ∧ -9223372036854775808 ≤ z ∧ z ≤ 9223372036854775807 := by
  cases x <;> simp [KindOf] at h
  obtain ⟨rfl, h⟩ := h
  refine ⟨_, rfl, ?_⟩
  simpa [Lit.wf, IntKind.min, IntKind.max, IntKind.signed, IntKind.bits] using h
theorem kind_u8s {x : AV} (h : KindOf .u8s x) : ∃ l, x = .sl false 1 (bts l) := by
  match x, h with
  | .sl false 1 rows, h =>
    obtain ⟨l, rfl⟩ := h
    exact ⟨l, rfl⟩
/-- The cell of the greatest length that the machine's own search knows. -/
def MaxLenAt (W : World) : Prop := ∃ m, W.cell? ⟨0, 0, none⟩ = some (.int .i64 m)
theorem maxLen_of_shape {W : World} (h : W.ShapedOpen Try.prog) : MaxLenAt W :=
  cell_of_shapedOpen_int (zero := #[.int .i64 0]) (t := 3) h (of_decide_eq_true (by kernel_rfl)) (by kernel_rfl) rfl (by kernel_rfl) (by kernel_rfl) Try.underlying3
theorem calls_ring {f : FuncId} {args : List AV} {cargs : Array Value} {W : World} (hm : MaxLenAt W) (hsz : cargs.size = args.length)
    (hargs : ∀ (t : Nat) x u, args[t]? = some x → cargs[t]? = some u → Rel W (fun _ => 0) (old W) x u ∧ Bnd 0 x ∧ x.free = true)
    (h : ∀ (E : Env) (Q : AV → Hp → Prop), ME E → Q (.bool true) [] → PC Try.prog E f args [] Q) : Calls Try.prog f cargs W fun e w' => e = .returned (.bool true) ∧ Frm (fun _ => False) W w' := by
  obtain ⟨m, hm⟩ := hm
  refine calls_of_pcF (fun b => b = 0) (fun b hb => ?_) (old W) (fun _ _ h => h) hsz hargs (fun E Q h0 hf hq => h E Q ⟨by rw [hf], m, by rw [h0]; exact hm⟩ hq)
  subst hb
  exact World.block_lt_of_cell? _ _ hm
end Go.Proofs.Ytgofogcfolhonaa
