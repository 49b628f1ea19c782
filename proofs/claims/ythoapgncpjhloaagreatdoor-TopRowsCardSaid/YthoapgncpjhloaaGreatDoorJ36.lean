/- Part 36 of the proof that TopRows returns true for every input of its row (no condition beyond the row). -/
import Derived.Test.YthoapgncpjhloaaGreatDoorRows
import Derived.ProofKit
import Derived.JoinedOf
set_option linter.unusedVariables false
set_option linter.unusedSimpArgs false
section
namespace Go.Proofs.YthoapgncpjhloaaGreatDoor
open Go
set_option maxRecDepth 100000
theorem q3a : (Rows.topRowsRow.inPlace == Tryz.prog.inPlace 3) = true := by kernel_rfl
theorem q4a : (Rows.topRowsRow.unfollowed == Tryz.prog.unfollowed 3) = true := by kernel_rfl
theorem q4b : (Rows.topRowsRow.recurses == Tryz.prog.recurses 3) = true := by kernel_rfl
theorem q5a : (Rows.topRowsRow.named == Tryz.prog.varsNamed 3) = true := by kernel_rfl
theorem and_t {a b : Bool} (ha : a = true) (hb : b = true) : (a && b) = true := by rw [ha, hb]; rfl
theorem jfQ : joinedFacts Tryz.prog 3 Tryz.f3 Rows.topRowsSpec Rows.topRowsRow = true := by
  unfold joinedFacts
  iterate 19 (refine and_t ?_ (by kernel_rfl))
  refine and_t (and_t (and_t (and_t ?_ q3a) q4a) q4b) q5a
  kernel_rfl
end Go.Proofs.YthoapgncpjhloaaGreatDoor
end
