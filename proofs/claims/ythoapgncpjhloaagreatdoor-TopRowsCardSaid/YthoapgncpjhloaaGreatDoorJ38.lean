/- Part 38 of the proof that TopRows returns true for every input of its row (no condition beyond the row). -/
import Derived.Test.YthoapgncpjhloaaGreatDoorJ35
import Derived.Test.YthoapgncpjhloaaGreatDoorJ36
import Derived.Test.YthoapgncpjhloaaGreatDoorJ37
set_option linter.unusedVariables false
set_option linter.unusedSimpArgs false
set_option linter.unusedSectionVars false
set_option linter.all false
section
namespace Go.Proofs.YthoapgncpjhloaaGreatDoor
open Go Go.ChangeShapes Go.WideShapes Go.ChangeAt Go.RowKit Go.Abs
set_option maxRecDepth 100000
theorem topRows_holds : Rows.TopRowsSaid :=
  OpenClaim.holds_of_wide 3 Tryz.f3 rfl rfl rfl rfl rfl rfl rfl ⟨rfl, rfl, rfl, rfl, rfl⟩ rfl rfl rfl rfl rfl (by kernel_rfl) Tryz.func3 jfQ
    (of_decide_eq_true (by kernel_rfl)) (by unfold Func.isWrapper; first | (rw [if_pos (by decide +kernel)]; kernel_rfl) | (rw [if_neg (by decide +kernel)]; exact ⟨rfl, rfl⟩))
    (fun os started H enc _ => lifted os started H enc)
theorem topRows_card : Rows.TopRowsCardSaid :=
  Claim7.holds_tied_plain_at .later [] [.data, .data, .data, .data, .sentinel, .sentinel, .pinned] true (true, "ae610f23b470fa698518de3688c6e4543b71355a2c5f2833cc5c3bd8d708430d") true topRows_holds (fun _ h => by cases h) r1a (fun _ h => by cases h) topRows_row_tie rfl ⟨rfl, rfl⟩ r1b rfl
    (fun f fn hf hfn => by
      obtain rfl : f = 3 := Option.some.inj (r1d.symm.trans hf) |>.symm
      obtain rfl : fn = Tryz.f3 := (Option.some.inj (Tryz.func3.symm.trans hfn)).symm
      exact ⟨r2a, fun j t ht => by
        rw [Tryz.params3] at ht
        have hm : t ∈ [3, 24, 28] := by simpa using Array.mem_of_getElem? ht
        exact (show Tryz.prog.wantsStandIn t = false by simpa using List.all_eq_true.1 r1c t hm)⟩)
    r3a
end Go.Proofs.YthoapgncpjhloaaGreatDoor
end
