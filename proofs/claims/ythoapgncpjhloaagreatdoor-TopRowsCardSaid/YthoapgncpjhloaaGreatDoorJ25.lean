/- Part 25 of the proof that TopRows returns true for every input of its row (no condition beyond the row). -/
import Derived.Test.YthoapgncpjhloaaGreatDoorJ13
set_option linter.unusedVariables false
set_option linter.unusedSimpArgs false
set_option linter.unusedSectionVars false
set_option linter.all false
section
open Go.Proofs
set_option maxRecDepth 100000
namespace Go.Abs
theorem kVr_8 : runVr (some ⟨(true, true, 2), some 120, 5⟩) = true := by kernel_rfl
theorem kVr_9 : runVr (some ⟨(true, true, 2), some 121, 5⟩) = true := by kernel_rfl
theorem kVr_10 : runVr (some ⟨(true, true, 2), some 122, 5⟩) = true := by kernel_rfl
theorem kVr_11 : runVr (some ⟨(true, false, 3), none, 6⟩) = true := by kernel_rfl
end Go.Abs
end
