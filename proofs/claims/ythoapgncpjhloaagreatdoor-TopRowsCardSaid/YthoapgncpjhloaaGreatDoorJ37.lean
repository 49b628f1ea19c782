/- Part 37 of the proof that TopRows returns true for every input of its row (no condition beyond the row). -/
import Derived.Test.YthoapgncpjhloaaGreatDoorCards
import Derived.ProofKit
import Derived.SevenTiedAt
set_option linter.unusedVariables false
set_option linter.unusedSimpArgs false
section
namespace Go.Proofs.YthoapgncpjhloaaGreatDoor
open Go
set_option maxRecDepth 100000
theorem r1a : Rows.topRowsRow.wfByText (OpenSpec.ofChange Rows.topRowsSpec) = true := by kernel_rfl
theorem r1b : Tryz.prog.mainIs = some (true, "ae610f23b470fa698518de3688c6e4543b71355a2c5f2833cc5c3bd8d708430d".toList) := by kernel_rfl
theorem r1c : ([3, 24, 28].all fun u => !Tryz.prog.wantsStandIn u) = true := by kernel_rfl
theorem r1d : Tryz.prog.funcNamed "datakit/datakittop.TopRows" = some 3 := by kernel_rfl
theorem r2a : true = Tryz.prog.looks [] := by kernel_rfl
theorem r3a : false = Rows.topRowsRow.goesBy Tryz.prog := by kernel_rfl
end Go.Proofs.YthoapgncpjhloaaGreatDoor
end
