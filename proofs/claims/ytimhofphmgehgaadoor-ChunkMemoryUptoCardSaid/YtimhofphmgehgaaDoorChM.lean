/- The chunk layer's law is awake. -/
import Derived.Test.YtimhofphmgehgaaDoorChL
set_option linter.unusedVariables false
set_option linter.unnecessarySimpa false
set_option linter.unusedSimpArgs false
set_option linter.unusedSectionVars false
set_option maxRecDepth 100000
namespace Go.Proofs.YtimhofphmgehgaaDoor
open Go Go.RowKit Go.Proofs

theorem parAns_nil : parAns [] = ([], 0, 0) := by unfold parAns; rw [pars_end signB [] (by simp)]; rfl
theorem sizeAns_2 : sizeAns [50] = (2, [], 0) := by
  have h1 : run isHex [50] = 1 := by decide
  unfold sizeAns
  rw [h1, if_neg (by decide), show List.drop 1 [(50 : UInt8)] = [] from rfl, parAns_nil, if_neg (by decide)]
  decide
theorem sizeAns_0 : sizeAns [48] = (0, [], 0) := by
  have h1 : run isHex [48] = 1 := by decide
  unfold sizeAns
  rw [h1, if_neg (by decide), show List.drop 1 [(48 : UInt8)] = [] from rfl, parAns_nil, if_neg (by decide)]
  decide
theorem lineF_A : lineF [65, 58, 32, 49] = some ⟨[65], [49]⟩ := by decide
theorem mayB_A : mayB [65] = true := by decide
def awk : List UInt8 := [50, 13, 10, 97, 98, 13, 10, 48, 13, 10, 65, 58, 32, 49, 13, 10, 13, 10, 120]
theorem awk_dec : decodeD awk 2 8 1 = ([97, 98], [⟨[65], [49]⟩], 18, 0) := by
  simp [decodeD, awk, feedD, feed1, stepD, sizeD, dataD, firstD, secondD, trailerD, endL, newD, sizeAns_2, sizeAns_0, lineF_A, mayB_A]
end Go.Proofs.YtimhofphmgehgaaDoor
