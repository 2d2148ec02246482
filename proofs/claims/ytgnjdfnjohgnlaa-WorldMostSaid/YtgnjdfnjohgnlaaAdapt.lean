/- THE ABSTRACT MACHINE: out of it. For every program. -/
import Derived.Test.YtgnjdfnjohgnlaaAm15
set_option linter.unusedVariables false
set_option linter.unusedSimpArgs false
namespace Go.Proofs.Ytgnjdfnjohgnlaa
open Go Go.RowKit

/-- A LAW: it returns true, and nothing that was there has turned. -/
theorem calls_of_pc {P : Program} {f : FuncId} {args : List AV} {cargs : Array Value} {W : World} (Rd : Nat → Nat → Prop) (hrd : ∀ g o, Rd g o → g < W.heap.size) (hsz : cargs.size = args.length)
    (hargs : ∀ (t : Nat) x u, args[t]? = some x → cargs[t]? = some u → Rel W (fun _ => 0) Rd x u ∧ Bnd 0 x ∧ x.free = true)
    (h : ∀ (E : Env) (Q : AV → Hp → Prop), Q (.bool true) [] → PC P E f args [] Q) : Calls P f cargs W fun e w' => e = .returned (.bool true) ∧ Frm (fun _ => False) W w' := by
  have hp := h ⟨W, fun _ => False⟩ (fun v H' => v = .bool true) rfl
  refine (hp.2 W (fun _ => 0) Rd (fun _ => none) cargs ⟨fun i l hl => by simp at hl, fun i j hi => by simp at hi, fun i hi => by simp at hi, fun g h hg => (by cases hg), hrd, fun l hl => by simp at hl, fun b hb => hb.elim⟩ (fun g h hg => by cases hg) hsz hargs).mono ?_
  rintro e w' ⟨c, v, H', β', Rd', Ow', rfl, rfl, hP⟩
  refine ⟨by rw [rel_bool hP.rel], ?_⟩
  exact ⟨hP.os, hP.tape, hP.output, hP.size, fun b hb _ => (hP.frame b hb (fun i hi => by simp at hi) rfl).1⟩
end Go.Proofs.Ytgnjdfnjohgnlaa
