/- Part 16 of the proof that TopRows returns true for every input of its row (no condition beyond the row). -/
import Derived.Test.YthoapgncpjhloaaGreatDoorJ13
set_option linter.unusedVariables false
set_option linter.unusedSimpArgs false
set_option linter.unusedSectionVars false
set_option linter.all false
section
open Go.Proofs
set_option maxRecDepth 100000
namespace Go.Abs
theorem kA2_0 : runA2 ⟨(true, false, 0), 0, (19, 0, 0, 19)⟩ = true := by kernel_rfl
theorem kA2_1 : runA2 ⟨(true, false, 0), 1, (19, 70, 83, 65)⟩ = true := by kernel_rfl
theorem kA2_2 : runA2 ⟨(true, false, 0), 3, (19, 78, 81, 64)⟩ = true := by kernel_rfl
theorem kA2_3 : runA2 ⟨(true, false, 2), 0, (34, 0, 0, 34)⟩ = true := by kernel_rfl
theorem kA2_4 : runA2 ⟨(true, false, 2), 1, (34, 90, 121, 103)⟩ = true := by kernel_rfl
theorem kA2_5 : runA2 ⟨(true, false, 2), 3, (34, 98, 120, 102)⟩ = true := by kernel_rfl
theorem kA2_6 : runA2 ⟨(true, false, 2), 7, (34, 148, 153, 136)⟩ = true := by kernel_rfl
theorem kA2_7 : runA2 ⟨(false, false, 0), 4, (18, 55, 73, 55)⟩ = true := by kernel_rfl
theorem kA2_8 : runA2 ⟨(false, false, 2), 4, (33, 73, 111, 93)⟩ = true := by kernel_rfl
theorem kA2_9 : runA2 ⟨(true, true, 0), 5, (25, 97, 100, 83)⟩ = true := by kernel_rfl
theorem kA2_10 : runA2 ⟨(true, true, 2), 5, (40, 134, 137, 120)⟩ = true := by kernel_rfl
theorem kA2_11 : runA2 ⟨(true, false, 3), 6, (37, 137, 169, 152)⟩ = true := by kernel_rfl
theorem kA2 {c : ClE} (h : c ∈ clsE) : runA2 c = true := by
  simp only [clsE, List.mem_cons, List.not_mem_nil, or_false] at h
  rcases h with rfl | rfl | rfl | rfl | rfl | rfl | rfl | rfl | rfl | rfl | rfl | rfl
  · exact kA2_0
  · exact kA2_1
  · exact kA2_2
  · exact kA2_3
  · exact kA2_4
  · exact kA2_5
  · exact kA2_6
  · exact kA2_7
  · exact kA2_8
  · exact kA2_9
  · exact kA2_10
  · exact kA2_11
end Go.Abs
end
