/- Part 9c of the proof that TopRows returns true for every input of its row (no condition beyond the row). -/
import Derived.Test.YthoapgncpjhloaaGreatDoorJ9d
set_option linter.unusedVariables false
set_option linter.unusedSimpArgs false
set_option linter.unusedSectionVars false
set_option linter.all false
section
open Go.Proofs
set_option maxRecDepth 100000
namespace Go.Abs
theorem kH_60 : shapes.all (runH false (6, 0)) = true := by kernel_rfl
theorem kH_61 : shapes.all (runH false (6, 1)) = true := by kernel_rfl
theorem kH_62 : shapes.all (runH false (6, 2)) = true := by kernel_rfl
theorem kH_63 : shapes.all (runH false (6, 3)) = true := by kernel_rfl
theorem kH_64 : shapes.all (runH false (6, 4)) = true := by kernel_rfl
theorem kH_65 : shapes.all (runH false (6, 5)) = true := by kernel_rfl
end Go.Abs
end
