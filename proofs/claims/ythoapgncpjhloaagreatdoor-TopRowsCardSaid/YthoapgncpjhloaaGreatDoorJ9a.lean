/- Part 9a of the proof that TopRows returns true for every input of its row (no condition beyond the row). -/
import Derived.Test.YthoapgncpjhloaaGreatDoorJ9d
set_option linter.unusedVariables false
set_option linter.unusedSimpArgs false
set_option linter.unusedSectionVars false
set_option linter.all false
section
open Go.Proofs
set_option maxRecDepth 100000
namespace Go.Abs
theorem kH_00 : shapes.all (runH false (0, 0)) = true := by kernel_rfl
theorem kH_10 : shapes.all (runH false (1, 0)) = true := by kernel_rfl
theorem kH_20 : shapes.all (runH false (2, 0)) = true := by kernel_rfl
theorem kH_21 : shapes.all (runH false (2, 1)) = true := by kernel_rfl
theorem kH_30 : shapes.all (runH false (3, 0)) = true := by kernel_rfl
theorem kH_31 : shapes.all (runH false (3, 1)) = true := by kernel_rfl
theorem kH_32 : shapes.all (runH false (3, 2)) = true := by kernel_rfl
theorem kH_40 : shapes.all (runH false (4, 0)) = true := by kernel_rfl
theorem kH_41 : shapes.all (runH false (4, 1)) = true := by kernel_rfl
theorem kH_42 : shapes.all (runH false (4, 2)) = true := by kernel_rfl
theorem kH_43 : shapes.all (runH false (4, 3)) = true := by kernel_rfl
end Go.Abs
end
