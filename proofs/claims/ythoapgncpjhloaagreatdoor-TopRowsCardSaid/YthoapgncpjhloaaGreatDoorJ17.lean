/- Part 17 of the proof that TopRows returns true for every input of its row (no condition beyond the row). -/
import Derived.Test.YthoapgncpjhloaaGreatDoorJ13
set_option linter.unusedVariables false
set_option linter.unusedSimpArgs false
set_option linter.unusedSectionVars false
set_option linter.all false
section
open Go.Proofs
set_option maxRecDepth 100000
namespace Go.Abs
theorem kA3_0 : runA3 ⟨(true, false, 0), 0, (19, 0, 0, 19)⟩ = true := by kernel_rfl
theorem kA3_1 : runA3 ⟨(true, false, 0), 1, (19, 70, 83, 65)⟩ = true := by kernel_rfl
theorem kA3_2 : runA3 ⟨(true, false, 0), 3, (19, 78, 81, 64)⟩ = true := by kernel_rfl
theorem kA3_3 : runA3 ⟨(true, false, 2), 0, (34, 0, 0, 34)⟩ = true := by kernel_rfl
theorem kA3_4 : runA3 ⟨(true, false, 2), 1, (34, 90, 121, 103)⟩ = true := by kernel_rfl
theorem kA3_5 : runA3 ⟨(true, false, 2), 3, (34, 98, 120, 102)⟩ = true := by kernel_rfl
theorem kA3_6 : runA3 ⟨(true, false, 2), 7, (34, 148, 153, 136)⟩ = true := by kernel_rfl
theorem kA3_7 : runA3 ⟨(false, false, 0), 4, (18, 55, 73, 55)⟩ = true := by kernel_rfl
theorem kA3_8 : runA3 ⟨(false, false, 2), 4, (33, 73, 111, 93)⟩ = true := by kernel_rfl
theorem kA3_9 : runA3 ⟨(true, true, 0), 5, (25, 97, 100, 83)⟩ = true := by kernel_rfl
theorem kA3_10 : runA3 ⟨(true, true, 2), 5, (40, 134, 137, 120)⟩ = true := by kernel_rfl
theorem kA3_11 : runA3 ⟨(true, false, 3), 6, (37, 137, 169, 152)⟩ = true := by kernel_rfl
theorem kA3 {c : ClE} (h : c ∈ clsE) : runA3 c = true := by
  simp only [clsE, List.mem_cons, List.not_mem_nil, or_false] at h
  rcases h with rfl | rfl | rfl | rfl | rfl | rfl | rfl | rfl | rfl | rfl | rfl | rfl
  · exact kA3_0
  · exact kA3_1
  · exact kA3_2
  · exact kA3_3
  · exact kA3_4
  · exact kA3_5
  · exact kA3_6
  · exact kA3_7
  · exact kA3_8
  · exact kA3_9
  · exact kA3_10
  · exact kA3_11
end Go.Abs
end
