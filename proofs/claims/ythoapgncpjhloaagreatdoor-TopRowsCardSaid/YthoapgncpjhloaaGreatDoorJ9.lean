/- Part 9 of the proof that TopRows returns true for every input of its row (no condition beyond the row). -/
import Derived.Test.YthoapgncpjhloaaGreatDoorJ9a
import Derived.Test.YthoapgncpjhloaaGreatDoorJ9b
import Derived.Test.YthoapgncpjhloaaGreatDoorJ9c
set_option linter.unusedVariables false
set_option linter.unusedSimpArgs false
set_option linter.unusedSectionVars false
set_option linter.all false
section
open Go.Proofs
set_option maxRecDepth 100000
namespace Go.Abs
theorem kH (p : Nat × Nat) (h : p ∈ shapes) : shapes.all (runH false p) = true := by
  simp only [shapes, rng, List.flatMap_cons, List.flatMap_nil, List.map_cons, List.map_nil, List.mem_cons, List.append_nil, List.cons_append, List.nil_append, List.not_mem_nil, or_false] at h
  rcases h with rfl | rfl | rfl | rfl | rfl | rfl | rfl | rfl | rfl | rfl | rfl | rfl | rfl | rfl | rfl | rfl | rfl | rfl | rfl | rfl | rfl | rfl
  · exact kH_00
  · exact kH_10
  · exact kH_20
  · exact kH_21
  · exact kH_30
  · exact kH_31
  · exact kH_32
  · exact kH_40
  · exact kH_41
  · exact kH_42
  · exact kH_43
  · exact kH_50
  · exact kH_51
  · exact kH_52
  · exact kH_53
  · exact kH_54
  · exact kH_60
  · exact kH_61
  · exact kH_62
  · exact kH_63
  · exact kH_64
  · exact kH_65
theorem kHalf (k : Nat) (h1 : 1 ≤ k) (h6 : k ≤ 6) : shapes.all (runH true (k, 0)) = true := by
  have : k = 1 ∨ k = 2 ∨ k = 3 ∨ k = 4 ∨ k = 5 ∨ k = 6 := by omega
  rcases this with rfl | rfl | rfl | rfl | rfl | rfl
  · exact kHalf_10
  · exact kHalf_20
  · exact kHalf_30
  · exact kHalf_40
  · exact kHalf_50
  · exact kHalf_60
end Go.Abs
end
