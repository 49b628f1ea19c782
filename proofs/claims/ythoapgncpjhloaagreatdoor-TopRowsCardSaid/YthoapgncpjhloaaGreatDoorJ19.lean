/- Part 19 of the proof that TopRows returns true for every input of its row (no condition beyond the row). -/
import Derived.Test.YthoapgncpjhloaaGreatDoorJ13
set_option linter.unusedVariables false
set_option linter.unusedSimpArgs false
set_option linter.unusedSectionVars false
set_option linter.all false
section
open Go.Proofs
set_option maxRecDepth 100000
namespace Go.Abs
def H5E : HL := (20, some (.arr false 3 [stN (ni 100)])) :: H2E
def cmA5 (c : ClE) : CmT := match isK c.k 0 with
  | true => (25, argE c ++ [.sl 20 3 0 1], H5E, 22, nilS, [memo2], c.t.2.2.2)
  | false => (25, argE c ++ [.sl 20 3 0 1], H5E, 22, .sl (c.t.2.2.1 + 3) 3 0 1, [memo2, (c.t.2.1 + 3, some (.arr false 3 (pathE c))), (c.t.2.2.1 + 3, some (.arr false 3 [.sl (c.t.2.1 + 3) 3 0 (pathE c).length :: (failN c).drop 1]))], c.t.2.2.2)
noncomputable def runA5 (c : ClE) : Bool := okCm (cfRw c) Tryz.prog (cmA5 c)
theorem kA5_0 : runA5 ⟨(true, false, 0), 0, (19, 0, 0, 19)⟩ = true := by kernel_rfl
theorem kA5_1 : runA5 ⟨(true, false, 0), 1, (19, 70, 83, 65)⟩ = true := by kernel_rfl
theorem kA5_2 : runA5 ⟨(true, false, 0), 3, (19, 78, 81, 64)⟩ = true := by kernel_rfl
theorem kA5_3 : runA5 ⟨(true, false, 2), 0, (34, 0, 0, 34)⟩ = true := by kernel_rfl
theorem kA5_4 : runA5 ⟨(true, false, 2), 1, (34, 90, 121, 103)⟩ = true := by kernel_rfl
theorem kA5_5 : runA5 ⟨(true, false, 2), 3, (34, 98, 120, 102)⟩ = true := by kernel_rfl
theorem kA5_6 : runA5 ⟨(true, false, 2), 7, (34, 148, 153, 136)⟩ = true := by kernel_rfl
theorem kA5_7 : runA5 ⟨(false, false, 0), 4, (18, 55, 73, 55)⟩ = true := by kernel_rfl
theorem kA5_8 : runA5 ⟨(false, false, 2), 4, (33, 73, 111, 93)⟩ = true := by kernel_rfl
theorem kA5_9 : runA5 ⟨(true, true, 0), 5, (25, 97, 100, 83)⟩ = true := by kernel_rfl
theorem kA5_10 : runA5 ⟨(true, true, 2), 5, (40, 134, 137, 120)⟩ = true := by kernel_rfl
theorem kA5_11 : runA5 ⟨(true, false, 3), 6, (37, 137, 169, 152)⟩ = true := by kernel_rfl
theorem kA5 {c : ClE} (h : c ∈ clsE) : runA5 c = true := by
  simp only [clsE, List.mem_cons, List.not_mem_nil, or_false] at h
  rcases h with rfl | rfl | rfl | rfl | rfl | rfl | rfl | rfl | rfl | rfl | rfl | rfl
  · exact kA5_0
  · exact kA5_1
  · exact kA5_2
  · exact kA5_3
  · exact kA5_4
  · exact kA5_5
  · exact kA5_6
  · exact kA5_7
  · exact kA5_8
  · exact kA5_9
  · exact kA5_10
  · exact kA5_11
end Go.Abs
end
