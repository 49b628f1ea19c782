/- Part 9b of the proof that TopRows returns true for every input of its row (no condition beyond the row). -/
import Derived.Test.YthoapgncpjhloaaGreatDoorJ9d
set_option linter.unusedVariables false
set_option linter.unusedSimpArgs false
set_option linter.unusedSectionVars false
set_option linter.all false
section
open Go.Proofs
set_option maxRecDepth 100000
namespace Go.Abs
theorem kH_50 : shapes.all (runH false (5, 0)) = true := by kernel_rfl
theorem kH_51 : shapes.all (runH false (5, 1)) = true := by kernel_rfl
theorem kH_52 : shapes.all (runH false (5, 2)) = true := by kernel_rfl
theorem kH_53 : shapes.all (runH false (5, 3)) = true := by kernel_rfl
theorem kH_54 : shapes.all (runH false (5, 4)) = true := by kernel_rfl
theorem kHalf_10 : shapes.all (runH true (1, 0)) = true := by kernel_rfl
theorem kHalf_20 : shapes.all (runH true (2, 0)) = true := by kernel_rfl
theorem kHalf_30 : shapes.all (runH true (3, 0)) = true := by kernel_rfl
theorem kHalf_40 : shapes.all (runH true (4, 0)) = true := by kernel_rfl
theorem kHalf_50 : shapes.all (runH true (5, 0)) = true := by kernel_rfl
theorem kHalf_60 : shapes.all (runH true (6, 0)) = true := by kernel_rfl
end Go.Abs
end
