/- Part 8b of the proof that TopRows returns true for every input of its row (no condition beyond the row). -/
import Derived.Test.YthoapgncpjhloaaGreatDoorJ7
set_option linter.unusedVariables false
set_option linter.unusedSimpArgs false
set_option linter.unusedSectionVars false
set_option linter.all false
section
open Go.Proofs
set_option maxRecDepth 100000
namespace Go.Abs
theorem k60_700 : allFrom (fun i => runs 60 [.lit (.int .i64 (i : Nat))] (.lit (.string (numeral i)))) 100 700 = true := by kernel_rfl
theorem k60_800 : allFrom (fun i => runs 60 [.lit (.int .i64 (i : Nat))] (.lit (.string (numeral i)))) 100 800 = true := by kernel_rfl
theorem k60_900 : allFrom (fun i => runs 60 [.lit (.int .i64 (i : Nat))] (.lit (.string (numeral i)))) 100 900 = true := by kernel_rfl
theorem k60_1000 : allFrom (fun i => runs 60 [.lit (.int .i64 (i : Nat))] (.lit (.string (numeral i)))) 100 1000 = true := by kernel_rfl
theorem k60_1100 : allFrom (fun i => runs 60 [.lit (.int .i64 (i : Nat))] (.lit (.string (numeral i)))) 100 1100 = true := by kernel_rfl
end Go.Abs
end
