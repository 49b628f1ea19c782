/- Part 28 of the proof that TopRows returns true for every input of its row (no condition beyond the row). -/
import Derived.Test.YthoapgncpjhloaaGreatDoorJ21
set_option linter.unusedVariables false
set_option linter.unusedSimpArgs false
set_option linter.unusedSectionVars false
set_option linter.all false
section
open Go.Proofs
set_option maxRecDepth 100000
namespace Go.Abs
theorem kSf01_1 : runSt false (casS ⟨(true, false, 0), 1, (19, 70, 83, 65)⟩ 0 1) = true := by kernel_rfl
theorem kSf01_2 : runSt false (casS ⟨(true, false, 0), 3, (19, 78, 81, 64)⟩ 0 1) = true := by kernel_rfl
theorem kSf01_4 : runSt false (casS ⟨(true, false, 2), 1, (34, 90, 121, 103)⟩ 0 1) = true := by kernel_rfl
theorem kSf01_5 : runSt false (casS ⟨(true, false, 2), 3, (34, 98, 120, 102)⟩ 0 1) = true := by kernel_rfl
theorem kSf01_6 : runSt false (casS ⟨(true, false, 2), 7, (34, 148, 153, 136)⟩ 0 1) = true := by kernel_rfl
end Go.Abs
end
