/- Part 24 of the proof that TopRows returns true for every input of its row (no condition beyond the row). -/
import Derived.Test.YthoapgncpjhloaaGreatDoorJ13
set_option linter.unusedVariables false
set_option linter.unusedSimpArgs false
set_option linter.unusedSectionVars false
set_option linter.all false
section
open Go.Proofs
set_option maxRecDepth 100000
namespace Go.Abs
theorem kVr_4 : runVr (some ⟨(true, false, 2), some 113, 7⟩) = true := by kernel_rfl
theorem kVr_5 : runVr (some ⟨(false, false, 0), none, 4⟩) = true := by kernel_rfl
theorem kVr_6 : runVr (some ⟨(false, false, 2), none, 4⟩) = true := by kernel_rfl
theorem kVr_7 : runVr (some ⟨(true, true, 0), none, 5⟩) = true := by kernel_rfl
theorem kVr_l : runVl = true := by kernel_rfl
end Go.Abs
end
