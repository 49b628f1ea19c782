/- Part 8 of the proof that TopRows returns true for every input of its row (no condition beyond the row). -/
import Derived.Test.YthoapgncpjhloaaGreatDoorJ8a
import Derived.Test.YthoapgncpjhloaaGreatDoorJ8b
set_option linter.unusedVariables false
set_option linter.unusedSimpArgs false
set_option linter.unusedSectionVars false
set_option linter.all false
section
open Go.Proofs
set_option maxRecDepth 100000
namespace Go.Abs
theorem itoa_cs (i : Nat) (hi : i < 1200) : CS Tryz.prog 60 [.lit (.int .i64 (i : Nat))] (.lit (.string (numeral i))) := by
  refine runs_cs ?_ rfl rfl (by simp; exact .lit) .lit
  by_cases h0 : i < 100
  · exact allFrom_at k60_0 i (by omega) (by omega)
  by_cases h100 : i < 200
  · exact allFrom_at k60_100 i (by omega) (by omega)
  by_cases h200 : i < 300
  · exact allFrom_at k60_200 i (by omega) (by omega)
  by_cases h300 : i < 400
  · exact allFrom_at k60_300 i (by omega) (by omega)
  by_cases h400 : i < 500
  · exact allFrom_at k60_400 i (by omega) (by omega)
  by_cases h500 : i < 600
  · exact allFrom_at k60_500 i (by omega) (by omega)
  by_cases h600 : i < 700
  · exact allFrom_at k60_600 i (by omega) (by omega)
  by_cases h700 : i < 800
  · exact allFrom_at k60_700 i (by omega) (by omega)
  by_cases h800 : i < 900
  · exact allFrom_at k60_800 i (by omega) (by omega)
  by_cases h900 : i < 1000
  · exact allFrom_at k60_900 i (by omega) (by omega)
  by_cases h1000 : i < 1100
  · exact allFrom_at k60_1000 i (by omega) (by omega)
  exact allFrom_at k60_1100 i (by omega) (by omega)
end Go.Abs
end
