/- Part 23 of the proof that TopRows returns true for every input of its row (no condition beyond the row). -/
import Derived.Test.YthoapgncpjhloaaGreatDoorJ13
set_option linter.unusedVariables false
set_option linter.unusedSimpArgs false
set_option linter.unusedSectionVars false
set_option linter.all false
section
open Go.Proofs
set_option maxRecDepth 100000
namespace Go.Abs
theorem kVr_0 : runVr (some ⟨(true, false, 0), none, 1⟩) = true := by kernel_rfl
theorem kVr_1 : runVr (some ⟨(true, false, 0), none, 3⟩) = true := by kernel_rfl
theorem kVr_2 : runVr (some ⟨(true, false, 2), none, 1⟩) = true := by kernel_rfl
theorem kVr_3 : runVr (some ⟨(true, false, 2), none, 3⟩) = true := by kernel_rfl
theorem kVr_n : runVr none = true := by kernel_rfl
end Go.Abs
end
