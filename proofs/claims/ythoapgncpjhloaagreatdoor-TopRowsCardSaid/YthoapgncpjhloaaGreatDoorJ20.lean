/- Part 20 of the proof that TopRows returns true for every input of its row (no condition beyond the row). -/
import Derived.Test.YthoapgncpjhloaaGreatDoorJ13
set_option linter.unusedVariables false
set_option linter.unusedSimpArgs false
set_option linter.unusedSectionVars false
set_option linter.all false
section
open Go.Proofs
set_option maxRecDepth 100000
namespace Go.Abs
/-- the reasons: the list is too long, then what is wrong with rows -/
def leadF (l : Bool) : List (List AV) := match l with
  | true => [longF]
  | false => []
def flsOf (l : Bool) (ps : List (Nat × Nat)) : List (List AV) := leadF l ++ ps.map fun p => failP p.1 (lI p.2)
def cfFd : Cfg := { cfg0 with bd := [(100, 0, 1199), (101, 0, 1199)] }
def flsN (l : Bool) (ks : List Nat) : List (List AV) := leadF l ++ match ks with
  | [] => []
  | [p] => [failP p (ni 100)]
  | p :: q :: _ => [failP p (ni 100), failP q (ni 101)]
noncomputable def runFd (l : Bool) (ks : List Nat) : Bool := okTop (topF cfFd [] Tryz.prog 100 10 [.ro 3 (flsN l ks), .ro 3 (flsN l ks)]) (lB true)
def kinds7 : List Nat := [1, 2, 3, 4, 5, 6, 7]
theorem kFd0 : runFd true [] = true := by kernel_rfl
theorem kFd1 : (kinds7.all fun p => runFd false [p] && runFd true [p]) = true := by kernel_rfl
theorem kFd2 : (kinds7.all fun p => kinds7.all fun q => runFd false [p, q]) = true := by kernel_rfl
theorem kFd3 : (kinds7.all fun p => kinds7.all fun q => runFd true [p, q]) = true := by kernel_rfl
theorem kFdn : okTop (topF cfg0 [] Tryz.prog 100 10 [nilS, nilS]) (lB true) = true := by kernel_rfl
abbrev vlFd (i j : Nat) : VL := ⟨fun a => if a = 100 then (i : Int) else if a = 101 then (j : Int) else 0, fun _ => [], fun _ => false, fun _ => [], fun _ => .emp, fun _ _ _ => False⟩
theorem cfFd_ok {i j : Nat} (hi : i ≤ 1199) (hj : j ≤ 1199) : @Cfg.OK (vlFd i j) cfFd := by
  refine cfgOK_of (fun p hp => ?_) (fun f hf => by cases hf) (fun a row h => by cases h) rfl (fun p hp => by cases hp) (fun p hp => by cases hp) (fun p hp => by cases hp)
  simp only [cfFd, List.mem_cons, List.not_mem_nil, or_false] at hp
  rcases hp with rfl | rfl
  · show (0 : Int) ≤ (i : Int) ∧ (i : Int) ≤ 1199; omega
  · show (0 : Int) ≤ (j : Int) ∧ (j : Int) ≤ 1199; omega
theorem failP_den19 [VL] (q : Nat) (n : AV) : (failP q n).map (denA 19) = failP q (denA 18 n) := by
  unfold failP
  split <;> rfl
theorem flsOf_pure (l : Bool) (ps : List (Nat × Nat)) : Pure (.ro 3 (flsOf l ps)) := by
  refine .ro fun r hr x hx => ?_
  rcases List.mem_append.1 hr with hr | hr
  · cases l with
    | false => cases hr
    | true =>
      have hr : r ∈ [longF] := hr
      simp only [List.mem_cons, List.not_mem_nil, or_false] at hr
      subst hr
      have : longF.all (pureB 20) = true := rfl
      exact pureB_ok (List.all_eq_true.1 this x hx)
  · obtain ⟨p, _, rfl⟩ := List.mem_map.1 hr
    have : (failP p.1 (lI p.2)).all (pureB 20) = true := by
      unfold failP
      split <;> rfl
    exact pureB_ok (List.all_eq_true.1 this x hx)
theorem failed_of {l : Bool} {ks : List Nat} {ps : List (Nat × Nat)} {i j : Nat} (hi : i ≤ 1199) (hj : j ≤ 1199) (hk : runFd l ks = true) (hd : @denA (vlFd i j) 20 (.ro 3 (flsN l ks)) = .ro 3 (flsOf l ps)) :
    CS Tryz.prog 10 [.ro 3 (flsOf l ps), .ro 3 (flsOf l ps)] (lB true) := by
  have ok := cfFd_ok hi hj
  refine @cs_of (vlFd i j) cfFd [] ok (@tellOf (vlFd i j) cfFd ok rfl rfl fun f xs r h => by cases h) (by simp) 100 10 _ _ hk _ _ ?_ rfl (two_pure (flsOf_pure l ps) (flsOf_pure l ps)) .lit
  show [@denA (vlFd i j) 20 (.ro 3 (flsN l ks)), @denA (vlFd i j) 20 (.ro 3 (flsN l ks))] = _
  rw [hd]
theorem mem_k7 {k : Nat} (h : 1 ≤ k ∧ k ≤ 7) : k ∈ kinds7 := by
  simp only [kinds7, List.mem_cons, List.not_mem_nil, or_false]; omega
theorem lead_den [VL] (l : Bool) (r : List (List AV)) : (leadF l ++ r).map (fun row => row.map (denA 19)) = leadF l ++ r.map fun row => row.map (denA 19) := by
  rw [List.map_append]
  cases l <;> rfl
theorem failed_cs {l : Bool} {ps : List (Nat × Nat)} (h2 : ps.length ≤ 2) (h : ∀ p, p ∈ ps → (1 ≤ p.1 ∧ p.1 ≤ 7) ∧ p.2 ≤ 1199) (hne : l = true ∨ ps ≠ []) :
    CS Tryz.prog 10 [.ro 3 (flsOf l ps), .ro 3 (flsOf l ps)] (lB true) := by
  have i0 : ∀ i j m, @denA (vlFd i j) (m + 1) (ni 100) = lI i := fun i j m => @ni_den (vlFd i j) m 100
  have i1 : ∀ i j m, @denA (vlFd i j) (m + 1) (ni 101) = lI j := fun i j m => @ni_den (vlFd i j) m 101
  match ps, h2, h, hne with
  | [], _, _, hne =>
    have hl : l = true := by rcases hne with h | h; exact h; exact absurd rfl h
    subst hl
    refine failed_of (i := 0) (j := 0) (by omega) (by omega) kFd0 ?_
    show AV.ro 3 ((leadF true ++ []).map _) = _
    rw [@lead_den (vlFd 0 0)]; rfl
  | [p], _, h, _ =>
    have hp := h p (by simp)
    have hk := List.all_eq_true.1 kFd1 p.1 (mem_k7 hp.1)
    simp only [Bool.and_eq_true] at hk
    refine failed_of (ks := [p.1]) (i := p.2) (j := 0) hp.2 (by omega) (by cases l; exact hk.1; exact hk.2) ?_
    show AV.ro 3 ((leadF l ++ [failP p.1 (ni 100)]).map _) = _
    rw [@lead_den (vlFd p.2 0), List.map_cons, List.map_nil, @failP_den19 (vlFd p.2 0), i0 p.2 0 17]; rfl
  | [p, q], _, h, _ =>
    have hp := h p (by simp)
    have hq := h q (by simp)
    have hk : runFd l [p.1, q.1] = true := by
      cases l
      · exact List.all_eq_true.1 (List.all_eq_true.1 kFd2 p.1 (mem_k7 hp.1)) q.1 (mem_k7 hq.1)
      · exact List.all_eq_true.1 (List.all_eq_true.1 kFd3 p.1 (mem_k7 hp.1)) q.1 (mem_k7 hq.1)
    refine failed_of (i := p.2) (j := q.2) hp.2 hq.2 hk ?_
    show AV.ro 3 ((leadF l ++ [failP p.1 (ni 100), failP q.1 (ni 101)]).map _) = _
    rw [@lead_den (vlFd p.2 q.2), List.map_cons, List.map_cons, List.map_nil, @failP_den19 (vlFd p.2 q.2), @failP_den19 (vlFd p.2 q.2), i0 p.2 q.2 17, i1 p.2 q.2 17]; rfl
theorem failed_nil : CS Tryz.prog 10 [nilS, nilS] (lB true) := by
  have ok : @Cfg.OK (vlFd 0 0) cfg0 := cfgOK_of (fun p hp => by cases hp) (fun f hf => by cases hf) (fun a row h => by cases h) rfl (fun p hp => by cases hp) (fun p hp => by cases hp) (fun p hp => by cases hp)
  exact @cs_of (vlFd 0 0) cfg0 [] ok (@tellOf (vlFd 0 0) cfg0 ok rfl rfl fun f xs r h => by cases h) (by simp) 100 10 _ _ kFdn _ _ rfl rfl (two_pure .lit .lit) .lit
end Go.Abs
end
