/- OctetClasses answers true. -/
import Derived.Test.YtjphdipbajfojaaDoorOctE
import Derived.Test.YtjphdipbajfojaaDoorOctQ
set_option linter.unusedVariables false
set_option linter.unusedSimpArgs false
set_option maxRecDepth 100000
namespace Go.Proofs.YtjphdipbajfojaaDoor
open Go Go.RowKit

theorem classes_pc (E : Env) (H : Hp) (Q : AV → Hp → Prop) (hE : SE E) (l : List UInt8) (hl : l.length ≤ 1048576) (hQ : Q (.bool true) H) : PC Tryd.prog E 10 [.str l] H Q := by
  have hc : l.length ≤ cap := by simp only [cap]; omega
  refine pc_enter Tryd.func10 rfl [] [] (by kernel_rfl) (fun hB => ?_)
  simp [Tryd.ntmps10, Tryd.results10, List.replicate_succ]
  refine awake_pc E _ _ hE ?_
  simp
  refine isToken_pc E _ _ hE l hc ?_
  simp
  refine ref_token_pc E _ _ l hc ?_
  simp
  refine isField_pc E _ _ l hc ?_
  simp
  refine ref_field_pc E _ _ l hc ?_
  simp
  refine lower_pc E _ _ l hc ?_
  simp
  refine ref_lower_pc E _ _ l hc ?_
  simp
  refine trim_pc E _ _ l hc ?_
  simp
  refine ref_trim_pc E _ _ l hc ?_
  simp
  exact aPost_same0 hB rfl (nilV_refl _) (by simp) hQ
theorem classes_true (W : World) (s : ByteArray) (hs : s.size ≤ 1048576) (hS : Signs W) : Calls Tryd.prog 10 #[.string s] W fun e w' => e = .returned (.bool true) ∧ Frm (fun _ => False) W w' := by
  refine calls_of_pcF (args := [.str s.data.toList]) (fun b => b = 0) (law_fix W hS) (old W) (fun _ _ h => h) rfl (fun t x u hx hu => ?_) (fun E Q e1 e2 h => classes_pc E [] Q ⟨by rw [e2], by rw [e1]; exact hS⟩ _ (by rw [size_toList]; exact hs) h)
  match t with
  | 0 => simp at hx hu; subst hx; subst hu; exact ⟨rel_string _ (by unfold maxLen; omega), .str _, rfl⟩
  | t + 1 => simp at hx
end Go.Proofs.YtjphdipbajfojaaDoor
