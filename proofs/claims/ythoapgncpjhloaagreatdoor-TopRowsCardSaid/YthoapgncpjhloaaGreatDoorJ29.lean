/- Part 29 of the proof that TopRows returns true for every input of its row (no condition beyond the row). -/
import Derived.Test.YthoapgncpjhloaaGreatDoorJ21
set_option linter.unusedVariables false
set_option linter.unusedSimpArgs false
set_option linter.unusedSectionVars false
set_option linter.all false
section
open Go.Proofs
set_option maxRecDepth 100000
namespace Go.Abs
theorem kSf01_7 : runSt false (casS ⟨(false, false, 0), 4, (18, 55, 73, 55)⟩ 0 1) = true := by kernel_rfl
theorem kSf01_8 : runSt false (casS ⟨(false, false, 2), 4, (33, 73, 111, 93)⟩ 0 1) = true := by kernel_rfl
theorem kSf01_9 : runSt false (casS ⟨(true, true, 0), 5, (25, 97, 100, 83)⟩ 0 1) = true := by kernel_rfl
theorem kSf01_10 : runSt false (casS ⟨(true, true, 2), 5, (40, 134, 137, 120)⟩ 0 1) = true := by kernel_rfl
theorem kSf01_11 : runSt false (casS ⟨(true, false, 3), 6, (37, 137, 169, 152)⟩ 0 1) = true := by kernel_rfl
end Go.Abs
end
