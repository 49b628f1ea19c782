/- Part 27 of the proof that TopRows returns true for every input of its row (no condition beyond the row). -/
import Derived.Test.YthoapgncpjhloaaGreatDoorJ21
set_option linter.unusedVariables false
set_option linter.unusedSimpArgs false
set_option linter.unusedSectionVars false
set_option linter.all false
section
open Go.Proofs
set_option maxRecDepth 100000
namespace Go.Abs
theorem kSt_s : runSt true (casS0) = true := by kernel_rfl
theorem kSt_e : runSt true (casSe false 0 3) = true := by kernel_rfl
theorem kSt_0 : runSt true (casS ⟨(true, false, 0), 0, (19, 0, 0, 19)⟩ 0 0) = true := by kernel_rfl
theorem kSt_3 : runSt true (casS ⟨(true, false, 2), 0, (34, 0, 0, 34)⟩ 0 0) = true := by kernel_rfl
theorem kSf_s : runSt false (casS0) = true := by kernel_rfl
theorem kSf_e0 : runSt false (casSe true 0 4) = true := by kernel_rfl
theorem kSf_e1 : runSt false (casSe true 1 4) = true := by kernel_rfl
theorem kSf_e2 : runSt false (casSe false 1 4) = true := by kernel_rfl
theorem kSf00_0 : runSt false (casS ⟨(true, false, 0), 0, (19, 0, 0, 19)⟩ 0 0) = true := by kernel_rfl
theorem kSf00_3 : runSt false (casS ⟨(true, false, 2), 0, (34, 0, 0, 34)⟩ 0 0) = true := by kernel_rfl
theorem kSf11_0 : runSt false (casS ⟨(true, false, 0), 0, (19, 0, 0, 19)⟩ 1 1) = true := by kernel_rfl
theorem kSf11_3 : runSt false (casS ⟨(true, false, 2), 0, (34, 0, 0, 34)⟩ 1 1) = true := by kernel_rfl
end Go.Abs
end
