/- Part 15 of the proof that TopRows returns true for every input of its row (no condition beyond the row). -/
import Derived.Test.YthoapgncpjhloaaGreatDoorJ13
set_option linter.unusedVariables false
set_option linter.unusedSimpArgs false
set_option linter.unusedSectionVars false
set_option linter.all false
section
open Go.Proofs
set_option maxRecDepth 100000
namespace Go.Abs
theorem kA1_0 : runA1 ⟨(true, false, 0), 0, (19, 0, 0, 19)⟩ = true := by kernel_rfl
theorem kA1_1 : runA1 ⟨(true, false, 0), 1, (19, 70, 83, 65)⟩ = true := by kernel_rfl
theorem kA1_2 : runA1 ⟨(true, false, 0), 3, (19, 78, 81, 64)⟩ = true := by kernel_rfl
theorem kA1_3 : runA1 ⟨(true, false, 2), 0, (34, 0, 0, 34)⟩ = true := by kernel_rfl
theorem kA1_4 : runA1 ⟨(true, false, 2), 1, (34, 90, 121, 103)⟩ = true := by kernel_rfl
theorem kA1_5 : runA1 ⟨(true, false, 2), 3, (34, 98, 120, 102)⟩ = true := by kernel_rfl
theorem kA1_6 : runA1 ⟨(true, false, 2), 7, (34, 148, 153, 136)⟩ = true := by kernel_rfl
theorem kA1_7 : runA1 ⟨(false, false, 0), 4, (18, 55, 73, 55)⟩ = true := by kernel_rfl
theorem kA1_8 : runA1 ⟨(false, false, 2), 4, (33, 73, 111, 93)⟩ = true := by kernel_rfl
theorem kA1_9 : runA1 ⟨(true, true, 0), 5, (25, 97, 100, 83)⟩ = true := by kernel_rfl
theorem kA1_10 : runA1 ⟨(true, true, 2), 5, (40, 134, 137, 120)⟩ = true := by kernel_rfl
theorem kA1_11 : runA1 ⟨(true, false, 3), 6, (37, 137, 169, 152)⟩ = true := by kernel_rfl
theorem kA1 {c : ClE} (h : c ∈ clsE) : runA1 c = true := by
  simp only [clsE, List.mem_cons, List.not_mem_nil, or_false] at h
  rcases h with rfl | rfl | rfl | rfl | rfl | rfl | rfl | rfl | rfl | rfl | rfl | rfl
  · exact kA1_0
  · exact kA1_1
  · exact kA1_2
  · exact kA1_3
  · exact kA1_4
  · exact kA1_5
  · exact kA1_6
  · exact kA1_7
  · exact kA1_8
  · exact kA1_9
  · exact kA1_10
  · exact kA1_11
end Go.Abs
end
