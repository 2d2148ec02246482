/- ChunkTrails answers true: out of the abstract machine. -/
import Derived.Test.YtimhofphmgehgaaDoorChN
set_option linter.unusedVariables false
set_option linter.unnecessarySimpa false
set_option linter.unusedSimpArgs false
set_option linter.unusedSectionVars false
set_option maxRecDepth 100000
namespace Go.Proofs.YtimhofphmgehgaaDoor
open Go Go.RowKit Go.Proofs

/-- A law over values that were handed in, the table of signs lying. -/
theorem calls_signs {f : FuncId} {args : List AV} {cargs : Array Value} {W : World} (hS : Signs W) (hsz : cargs.size = args.length)
    (hargs : ∀ (t : Nat) x u, args[t]? = some x → cargs[t]? = some u → Rel W (fun _ => 0) (old W) x u ∧ Bnd 0 x ∧ x.free = true)
    (h : ∀ (E : Env) (Q : AV → Hp → Prop), SE E → Q (.bool true) [] → PC Tryd.prog E f args [] Q) : Calls Tryd.prog f cargs W fun e w' => e = .returned (.bool true) ∧ Frm (fun _ => False) W w' :=
  calls_of_pcF (fun b => b = 0) (law_fix W hS) (old W) (fun _ _ h => h) hsz hargs (fun E Q h0 hf hq => h E Q ⟨by rw [hf], by rw [h0]; exact hS⟩ hq)
theorem rel_stringW (W : World) (s : ByteArray) (hs : s.size ≤ 1048576) : Rel W (fun _ => 0) (old W) (.str s.data.toList) (.string s) ∧ Bnd 0 (.str s.data.toList) ∧ (AV.str s.data.toList).free = true :=
  ⟨.str _ _ rfl (by unfold maxLen; omega), .str _, rfl⟩
theorem ctrails_true (W : World) (s : ByteArray) (hs : s.size ≤ 1048576) (hS : Signs W) : Calls Tryd.prog 4 #[.string s] W fun e w' => e = .returned (.bool true) ∧ Frm (fun _ => False) W w' :=
  calls_signs (args := [.str s.data.toList]) hS rfl (fun t x u hx hu => by
    match t with
    | 0 => simp at hx hu; subst hx; subst hu; exact rel_stringW W s hs
    | t + 1 => simp at hx) (fun E Q hE h => ltrails_pc E [] Q hE s.data.toList (by rw [size_toList]; simp only [cap]; omega) h)
end Go.Proofs.YtimhofphmgehgaaDoor
