/- A world in which octet's table lies, and what a row that lists it gives. -/
import Derived.Test.YtimhofphmgehgaaDoorCards
import Derived.Test.YtimhofphmgehgaaDoorTie
import Derived.Test.YtimhofphmgehgaaDoorLaw
import Derived.Test.YtimhofphmgehgaaDoorChA
import Derived.Deep.DeepHandedRow
import Derived.Lib.LaidTab
import Derived.ChangeMaps5
set_option linter.unusedVariables false
set_option linter.unusedSimpArgs false
namespace Go.Proofs.YtimhofphmgehgaaDoor
open Go Go.ChangeShapes Go.WideShapes Go.ChangeAt Go.RowKit Go.Deep

theorem signsNamed : Tryd.prog.globalNamed "turnpike/octet.signs" = some 0 := by kernel_rfl
theorem signsType : (Tryd.prog.globals[0]?).map (·.type) = some 141 := by kernel_rfl
/-- The settled world, the table laid. -/
noncomputable def signsWorld (os : Os) : World :=
  { World.holding Tryd.prog os ⟨#[], #[], []⟩ with heap := (World.holding Tryd.prog os ⟨#[], #[], []⟩).heap.modify 0 fun
      | .cells _ t frozen => .cells #[.int .u32 0, .int .u32 67071226, .int .u32 3355443198, .int .u32 1476395007] t frozen
      | o => o }
theorem signs_of_row {W : World} {rest : List (String × DataW Unit)} (h : laidMet Tryd.prog (("turnpike/octet.signs", Rows.laid_turnpike_octet_signs) :: rest) W) : Signs W := by
  have ht : Lib.TabIs Tryd.prog W "turnpike/octet.signs" .u32 signTab := Lib.tabIs_of_head (rest := rest) signsNamed signsType Tryd.underlying141 Tryd.underlying140 (by kernel_rfl) (by kernel_rfl) h
  intro j z hz
  have hj := (List.getElem?_eq_some_iff.1 hz).1
  have := ht.cell signsNamed j hj
  rw [List.getD, hz] at this
  exact this
end Go.Proofs.YtimhofphmgehgaaDoor
