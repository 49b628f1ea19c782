/- Part 30 of the proof that TopRows returns true for every input of its row (no condition beyond the row). -/
import Derived.Test.YthoapgncpjhloaaGreatDoorJ21
set_option linter.unusedVariables false
set_option linter.unusedSimpArgs false
set_option linter.unusedSectionVars false
set_option linter.all false
section
open Go.Proofs
set_option maxRecDepth 100000
namespace Go.Abs
theorem kSf11_1 : runSt false (casS ⟨(true, false, 0), 1, (19, 70, 83, 65)⟩ 1 1) = true := by kernel_rfl
theorem kSf11_2 : runSt false (casS ⟨(true, false, 0), 3, (19, 78, 81, 64)⟩ 1 1) = true := by kernel_rfl
theorem kSf11_4 : runSt false (casS ⟨(true, false, 2), 1, (34, 90, 121, 103)⟩ 1 1) = true := by kernel_rfl
theorem kSf11_5 : runSt false (casS ⟨(true, false, 2), 3, (34, 98, 120, 102)⟩ 1 1) = true := by kernel_rfl
theorem kSf11_6 : runSt false (casS ⟨(true, false, 2), 7, (34, 148, 153, 136)⟩ 1 1) = true := by kernel_rfl
theorem kSf11_7 : runSt false (casS ⟨(false, false, 0), 4, (18, 55, 73, 55)⟩ 1 1) = true := by kernel_rfl
theorem kSf11_8 : runSt false (casS ⟨(false, false, 2), 4, (33, 73, 111, 93)⟩ 1 1) = true := by kernel_rfl
theorem kSf11_9 : runSt false (casS ⟨(true, true, 0), 5, (25, 97, 100, 83)⟩ 1 1) = true := by kernel_rfl
theorem kSf11_10 : runSt false (casS ⟨(true, true, 2), 5, (40, 134, 137, 120)⟩ 1 1) = true := by kernel_rfl
theorem kSf11_11 : runSt false (casS ⟨(true, false, 3), 6, (37, 137, 169, 152)⟩ 1 1) = true := by kernel_rfl
end Go.Abs
end
