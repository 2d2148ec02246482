/- The octet layer in the abstract machine, as the chunk layer calls it. -/
import Derived.Test.YtimhofphmgehgaaDoorAmr
import Derived.Test.YtimhofphmgehgaaDoorTypes
import Derived.Test.YtimhofphmgehgaaDoorChA
import Derived.Test.YtimhofphmgehgaaDoorOctP
set_option linter.unusedVariables false
set_option linter.unusedSimpArgs false
set_option linter.unusedSectionVars false
set_option maxRecDepth 100000
namespace Go.Proofs.YtimhofphmgehgaaDoor
open Go Go.RowKit Go.Proofs

section
variable {w : World} {β : Nat → Nat} {Rd : Nat → Nat → Prop}
theorem args1 {x : AV} {cargs : Array Value} (hsz : cargs.size = 1) (h : ∀ (t : Nat) y u, [x][t]? = some y → cargs[t]? = some u → Rel w β Rd y u) : ∃ u, cargs = #[u] ∧ Rel w β Rd x u := by
  match cargs, hsz with
  | ⟨[u]⟩, _ => exact ⟨u, rfl, h 0 x u rfl rfl⟩
theorem args2 {x y : AV} {cargs : Array Value} (hsz : cargs.size = 2) (h : ∀ (t : Nat) z u, [x, y][t]? = some z → cargs[t]? = some u → Rel w β Rd z u) : ∃ u v, cargs = #[u, v] ∧ Rel w β Rd x u ∧ Rel w β Rd y v := by
  match cargs, hsz with
  | ⟨[u, v]⟩, _ => exact ⟨u, v, rfl, h 0 x u rfl rfl, h 1 y v rfl rfl⟩
theorem rel_tup2 {k1 k2 : IntKind} {a b : Int} : Rel w β Rd (.tup [.int k1 a, .int k2 b]) (.tuple #[.int k1 a, .int k2 b]) := by
  refine .tup _ _ rfl (by simp [AV.free]) (fun j x u hx hu => ?_)
  match j with
  | 0 => simp at hx hu; subst hx; subst hu; exact .int _ _
  | 1 => simp at hx hu; subst hx; subst hu; exact .int _ _
  | j + 2 => simp at hx
theorem rel_tx (l : List UInt8) (h : l.length ≤ maxLen) : Rel w β Rd (.str l) (.string (tx l)) := .str _ _ rfl (by rw [tx_size]; exact h)
end
/-- The environment's fixed blocks hold the table of signs. -/
def SE (E : Env) : Prop := E.Fix 0 ∧ Signs E.w0
theorem SE.signs {E : Env} (h : SE E) {w : World} (hw : ∀ b, E.Fix b → w.heap[b]? = E.w0.heap[b]?) : Signs w := fun j z hj => by
  rw [World.cell?_of_block (a := ⟨0, j, none⟩) (hw _ h.1)]
  exact h.2 j z hj
def cap : Nat := 140737488351232
theorem cap_max {n : Nat} (h : n ≤ cap) : n ≤ maxLen := by simp only [cap] at h; simp only [maxLen]; omega
section
variable (E : Env) (H : Hp) (Q : AV → Hp → Prop)
theorem isSign_pc (hE : SE E) (b : UInt8) (hQ : Q (.bool (signB b)) H) : PC Tryd.prog E 71 [.int .u8 (b.toNat : Int)] H Q := by
  refine pc_of_calls (v := .bool (signB b)) (by kernel_rfl) Signs (fun w hw => hE.signs hw) (fun w β Rd cargs hS hsz hargs => ?_) (.bool _) rfl hQ
  obtain ⟨u, rfl, hu⟩ := args1 hsz hargs
  obtain rfl := rel_int hu
  refine (isSign_ok b w hS).mono ?_
  rintro e w' ⟨rfl, rfl⟩
  exact ⟨_, rfl, Frm.refl _ _, .bool _⟩
theorem isToken_pc (hE : SE E) (l : List UInt8) (hl : l.length ≤ cap) (hQ : Q (.bool (tokB l)) H) : PC Tryd.prog E 79 [.str l] H Q := by
  refine pc_of_calls (v := .bool (tokB l)) (by kernel_rfl) Signs (fun w hw => hE.signs hw) (fun w β Rd cargs hS hsz hargs => ?_) (.bool _) rfl hQ
  obtain ⟨u, rfl, hu⟩ := args1 hsz hargs
  obtain ⟨s, rfl, rfl, hs⟩ := rel_str hu
  refine (isToken_ok s (by rw [← size_toList]; exact hl) w hS).mono ?_
  rintro e w' ⟨rfl, rfl⟩
  exact ⟨_, rfl, Frm.refl _ _, .bool _⟩
theorem lower_pc (l : List UInt8) (hl : l.length ≤ cap) (hQ : Q (.str (low l)) H) : PC Tryd.prog E 48 [.str l] H Q := by
  refine pc_of_calls (v := .str (low l)) (by kernel_rfl) (fun _ => True) (fun w hw => trivial) (fun w β Rd cargs hS hsz hargs => ?_) (.str _) rfl hQ
  obtain ⟨u, rfl, hu⟩ := args1 hsz hargs
  obtain ⟨s, rfl, rfl, hs⟩ := rel_str hu
  refine (lower_ok s (by rw [← size_toList]; exact hl) w).mono ?_
  rintro e w' ⟨rfl, hf⟩
  exact ⟨_, rfl, hf, rel_tx _ (cap_max (by rw [low_length]; exact hl))⟩
theorem ref_lower_pc (l : List UInt8) (hl : l.length ≤ cap) (hQ : Q (.str (low l)) H) : PC Tryd.prog E 52 [.str l] H Q := by
  refine pc_of_calls (v := .str (low l)) (by kernel_rfl) (fun _ => True) (fun w hw => trivial) (fun w β Rd cargs hS hsz hargs => ?_) (.str _) rfl hQ
  obtain ⟨u, rfl, hu⟩ := args1 hsz hargs
  obtain ⟨s, rfl, rfl, hs⟩ := rel_str hu
  refine (ref_lower_ok s (by rw [← size_toList]; exact hl) w).mono ?_
  rintro e w' ⟨rfl, hf⟩
  exact ⟨_, rfl, hf, rel_tx _ (cap_max (by rw [low_length]; exact hl))⟩
end
end Go.Proofs.YtimhofphmgehgaaDoor
