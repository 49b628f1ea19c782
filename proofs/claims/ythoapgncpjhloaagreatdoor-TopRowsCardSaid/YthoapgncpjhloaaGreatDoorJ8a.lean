/- Part 8a of the proof that TopRows returns true for every input of its row (no condition beyond the row). -/
import Derived.Test.YthoapgncpjhloaaGreatDoorJ7
set_option linter.unusedVariables false
set_option linter.unusedSimpArgs false
set_option linter.unusedSectionVars false
set_option linter.all false
section
open Go.Proofs
set_option maxRecDepth 100000
namespace Go.Abs
theorem k60_0 : allFrom (fun i => runs 60 [.lit (.int .i64 (i : Nat))] (.lit (.string (numeral i)))) 100 0 = true := by kernel_rfl
theorem k60_100 : allFrom (fun i => runs 60 [.lit (.int .i64 (i : Nat))] (.lit (.string (numeral i)))) 100 100 = true := by kernel_rfl
theorem k60_200 : allFrom (fun i => runs 60 [.lit (.int .i64 (i : Nat))] (.lit (.string (numeral i)))) 100 200 = true := by kernel_rfl
theorem k60_300 : allFrom (fun i => runs 60 [.lit (.int .i64 (i : Nat))] (.lit (.string (numeral i)))) 100 300 = true := by kernel_rfl
theorem k60_400 : allFrom (fun i => runs 60 [.lit (.int .i64 (i : Nat))] (.lit (.string (numeral i)))) 100 400 = true := by kernel_rfl
theorem k60_500 : allFrom (fun i => runs 60 [.lit (.int .i64 (i : Nat))] (.lit (.string (numeral i)))) 100 500 = true := by kernel_rfl
theorem k60_600 : allFrom (fun i => runs 60 [.lit (.int .i64 (i : Nat))] (.lit (.string (numeral i)))) 100 600 = true := by kernel_rfl
end Go.Abs
end
