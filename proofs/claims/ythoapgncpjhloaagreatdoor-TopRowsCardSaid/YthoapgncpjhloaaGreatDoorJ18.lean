/- Part 18 of the proof that TopRows returns true for every input of its row (no condition beyond the row). -/
import Derived.Test.YthoapgncpjhloaaGreatDoorJ13
set_option linter.unusedVariables false
set_option linter.unusedSimpArgs false
set_option linter.unusedSectionVars false
set_option linter.all false
section
open Go.Proofs
set_option maxRecDepth 100000
namespace Go.Abs
theorem kA4_0 : runA4 ⟨(true, false, 0), 0, (19, 0, 0, 19)⟩ = true := by kernel_rfl
theorem kA4_1 : runA4 ⟨(true, false, 0), 1, (19, 70, 83, 65)⟩ = true := by kernel_rfl
theorem kA4_2 : runA4 ⟨(true, false, 0), 3, (19, 78, 81, 64)⟩ = true := by kernel_rfl
theorem kA4_3 : runA4 ⟨(true, false, 2), 0, (34, 0, 0, 34)⟩ = true := by kernel_rfl
theorem kA4_4 : runA4 ⟨(true, false, 2), 1, (34, 90, 121, 103)⟩ = true := by kernel_rfl
theorem kA4_5 : runA4 ⟨(true, false, 2), 3, (34, 98, 120, 102)⟩ = true := by kernel_rfl
theorem kA4_6 : runA4 ⟨(true, false, 2), 7, (34, 148, 153, 136)⟩ = true := by kernel_rfl
theorem kA4_7 : runA4 ⟨(false, false, 0), 4, (18, 55, 73, 55)⟩ = true := by kernel_rfl
theorem kA4_8 : runA4 ⟨(false, false, 2), 4, (33, 73, 111, 93)⟩ = true := by kernel_rfl
theorem kA4_9 : runA4 ⟨(true, true, 0), 5, (25, 97, 100, 83)⟩ = true := by kernel_rfl
theorem kA4_10 : runA4 ⟨(true, true, 2), 5, (40, 134, 137, 120)⟩ = true := by kernel_rfl
theorem kA4_11 : runA4 ⟨(true, false, 3), 6, (37, 137, 169, 152)⟩ = true := by kernel_rfl
theorem kA4 {c : ClE} (h : c ∈ clsE) : runA4 c = true := by
  simp only [clsE, List.mem_cons, List.not_mem_nil, or_false] at h
  rcases h with rfl | rfl | rfl | rfl | rfl | rfl | rfl | rfl | rfl | rfl | rfl | rfl
  · exact kA4_0
  · exact kA4_1
  · exact kA4_2
  · exact kA4_3
  · exact kA4_4
  · exact kA4_5
  · exact kA4_6
  · exact kA4_7
  · exact kA4_8
  · exact kA4_9
  · exact kA4_10
  · exact kA4_11
end Go.Abs
end
