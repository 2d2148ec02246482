/- OctetQuotes and OctetBack answer true. -/
import Derived.Test.YtjphdipbajfojaaDoorOctD
import Derived.Test.YtjphdipbajfojaaDoorOctLay
import Derived.Test.YtjphdipbajfojaaDoorOpen
set_option linter.unusedVariables false
set_option linter.unusedSimpArgs false
set_option maxRecDepth 100000
namespace Go.Proofs.YtjphdipbajfojaaDoor
open Go Go.RowKit

section
variable (E : Env) (H : Hp) (Q : AV → Hp → Prop)
theorem quotes_pc (hE : SE E) (l : List UInt8) (hl : l.length ≤ 1048576) (hQ : Q (.bool true) H) : PC Tryd.prog E 5 [.str l] H Q := by
  refine pc_enter Tryd.func5 rfl [] [] (by kernel_rfl) (fun hB => ?_)
  simp [Tryd.ntmps5, Tryd.results5, List.replicate_succ]
  refine quote_pc E _ _ l (by omega) ?_
  simp
  refine ref_quote_pc E _ _ l (by omega) ?_
  simp
  refine unquote_pc E _ _ l (by omega) ?_
  simp
  refine ref_unquote_pc E _ _ l (by omega) ?_
  simp
  refine awake_pc E _ _ hE ?_
  simp
  exact aPost_same0 hB rfl (nilV_refl _) (by simp) hQ
theorem back_pc (hE : SE E) (l b : List UInt8) (hl : l.length ≤ 1048576) (hb : b.length ≤ 1048576) (hQ : Q (.bool true) H) : PC Tryd.prog E 6 [.str l, .str b] H Q := by
  refine pc_enter Tryd.func6 rfl [] [] (by kernel_rfl) (fun hB => ?_)
  simp [Tryd.ntmps6, Tryd.results6, List.replicate_succ]
  refine quote_pc E _ _ l (by omega) ?_
  cases hf : fldB l with
  | false =>
    have hq : quoteAns l = ([], 13) := by rw [quoteAns, if_neg (by rw [hf]; simp)]
    simp [hq]
    refine ref_field_pc E _ _ l (by simp only [cap]; omega) ?_
    simp [hf]
    refine awake_pc E _ _ hE ?_
    simp
    exact aPost_same0 hB rfl (nilV_refl _) (by simp) hQ
  | true =>
    have hq : quoteAns l = (quoted l, 0) := by rw [quoteAns, if_pos hf]
    have hql := quoted_le l
    have hu : unqAns (quoted l ++ b) = (l, ((quoted l).length : Int), 0) := by
      unfold unqAns
      rw [unquote_quoted l b hf]
    have hm : (quoted l).length + b.length ≤ maxLen := by unfold maxLen; omega
    simp [hq]
    refine ref_field_pc E _ _ l (by simp only [cap]; omega) ?_
    simp [hf, hm]
    refine unquote_pc E _ _ (quoted l ++ b) (by rw [List.length_append]; omega) ?_
    simp [hu]
    refine awake_pc E _ _ hE ?_
    simp
    exact aPost_same0 hB rfl (nilV_refl _) (by simp) hQ
end
theorem law_fix (W : World) (hS : Signs W) : ∀ b, b = 0 → b < W.heap.size := fun b hb => hb ▸ World.block_lt_of_cell? _ _ (hS 0 _ rfl)
theorem quotes_true (W : World) (s : ByteArray) (hs : s.size ≤ 1048576) (hS : Signs W) : Calls Tryd.prog 5 #[.string s] W fun e w' => e = .returned (.bool true) ∧ Frm (fun _ => False) W w' := by
  refine calls_of_pcF (args := [.str s.data.toList]) (fun b => b = 0) (law_fix W hS) (old W) (fun _ _ h => h) rfl (fun t x u hx hu => ?_) (fun E Q e1 e2 h => quotes_pc E [] Q ⟨by rw [e2], by rw [e1]; exact hS⟩ _ (by rw [size_toList]; exact hs) h)
  match t with
  | 0 => simp at hx hu; subst hx; subst hu; exact ⟨rel_string _ (by unfold maxLen; omega), .str _, rfl⟩
  | t + 1 => simp at hx
theorem back_true (W : World) (s b : ByteArray) (hs : s.size ≤ 1048576) (hb : b.size ≤ 1048576) (hS : Signs W) : Calls Tryd.prog 6 #[.string s, .string b] W fun e w' => e = .returned (.bool true) ∧ Frm (fun _ => False) W w' := by
  refine calls_of_pcF (args := [.str s.data.toList, .str b.data.toList]) (fun b => b = 0) (law_fix W hS) (old W) (fun _ _ h => h) rfl (fun t x u hx hu => ?_) (fun E Q e1 e2 h => back_pc E [] Q ⟨by rw [e2], by rw [e1]; exact hS⟩ _ _ (by rw [size_toList]; exact hs) (by rw [size_toList]; exact hb) h)
  match t with
  | 0 => simp at hx hu; subst hx; subst hu; exact ⟨rel_string _ (by unfold maxLen; omega), .str _, rfl⟩
  | 1 => simp at hx hu; subst hx; subst hu; exact ⟨rel_string _ (by unfold maxLen; omega), .str _, rfl⟩
  | t + 2 => simp at hx
end Go.Proofs.YtjphdipbajfojaaDoor
