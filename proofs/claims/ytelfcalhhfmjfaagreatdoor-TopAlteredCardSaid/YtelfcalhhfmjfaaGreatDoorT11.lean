/- Part 11 of the proof that TopAltered returns true for every input of its row (no condition beyond the row). -/
import Derived.Test.YtelfcalhhfmjfaaGreatDoorT10
set_option linter.unusedVariables false
set_option linter.unusedSimpArgs false
namespace Go.Abs
open Go.Proofs
set_option maxRecDepth 100000
set_option maxHeartbeats 8000000

abbrev atFn (tk : List Bool) : AV := .fn 56 [.P 0, .P 1, .rp [.ro 1 (rowsOf boolCells tk)] 0]
abbrev atIn (tk : List Bool) (fd : List Cft) : List (Nat × Blk) := [(0, .box [atFn tk]), (1, .box [.sl 2 4 0 fd.length]), (2, .arr false 4 (rowsOf Cft.cells fd))]
abbrev atOut (tk : List Bool) (fd : List Cft) : List (Nat × Blk) := [(0, .box [atFn tk]), (1, .box [.sl 3 4 0 fd.length]), (3, .arr false 4 (rowsOf Cft.cells fd))]
abbrev atArgs (tk : List Bool) (p : List Stp) (b o t : Option T) : List AV := [.ro 3 (rowsOf Stp.cells p), optP b, optP o, optP t, .P 0, .P 1, .rp [.ro 1 (rowsOf boolCells tk)] 0]
def AtH (tk : List Bool) (d : Nat) : Prop := ∀ (p : List Stp) (b o t : Option T) (fd : List Cft), okTri d b o t → p.length + d ≤ 10000 → (atM tk d p b o t fd).2.length ≤ 100000 →
  FSpec Tryz.prog 56 3 (atArgs tk p b o t) (hpOf (atIn tk fd)) (fun r h => r = optP (atM tk d p b o t fd).1 ∧ h = hpOf (atOut tk (atM tk d p b o t fd).2))
theorem at_Y {tk : List Bool} {d : Nat} (ih : AtH tk d) (p : List Stp) (b o t : Option T) (fd : List Cft) (h1 : okTri d b o t) (h2 : p.length + d ≤ 10000) (h3 : (atM tk d p b o t fd).2.length ≤ 100000) (hs : (atM tk d p b o t fd).1.isSome = true) :
    FSpec Tryz.prog 56 3 (atArgs tk p b o t) (hpOf (atIn tk fd)) (fun r h => r = .rp (encX ((atM tk d p b o t fd).1.getD T.nul)) 0 ∧ h = hpOf (atOut tk (atM tk d p b o t fd).2)) := by
  have h := ih p b o t fd h1 h2 h3
  rw [← some_getD (d := T.nul) hs] at h
  exact h
theorem at_N {tk : List Bool} {d : Nat} (ih : AtH tk d) (p : List Stp) (b o t : Option T) (fd : List Cft) (h1 : okTri d b o t) (h2 : p.length + d ≤ 10000) (h3 : (atM tk d p b o t fd).2.length ≤ 100000) (hs : (atM tk d p b o t fd).1.isSome = false) :
    FSpec Tryz.prog 56 3 (atArgs tk p b o t) (hpOf (atIn tk fd)) (fun r h => r = .lit (.pointer none) ∧ h = hpOf (atOut tk (atM tk d p b o t fd).2)) := by
  have h := ih p b o t fd h1 h2 h3
  rw [none_of hs] at h
  exact h
theorem atEnd1 {tk : List Bool} {d : Nat} {p : List Stp} {b o t : Option T} {fd : List Cft} {r : Option T × List Cft} (h : atM tk d p b o t fd = r) : optP r.1 = optP (atM tk d p b o t fd).1 := by rw [h]
theorem atEnd2 {tk : List Bool} {d : Nat} {p : List Stp} {b o t : Option T} {fd : List Cft} {r : Option T × List Cft} (h : atM tk d p b o t fd = r) : hpOf (atOut tk r.2) = hpOf (atOut tk (atM tk d p b o t fd).2) := by rw [h]
theorem tok_fit {d : Nat} {x : T} (hd : d ≤ 900) (h : T.ok (d + 6) x) : x.fit := T.ok_le h (by omega)

theorem ag53 : isAggT Tryz.prog 53 = some false := by kernel_rfl
def an56_16 : List Nat := [0, 0, 2, 0, 14, 0, 62, 0, 254, 510, 1022, 2047, 4095]
def zv93 : Value := .agg #[.slice none 0 0, .slice none 0 0, .slice none 0 0, .slice none 0 0]
theorem zt93 : (Tryz.prog.info? 93).bind (·.zero) = some zv93 := by kernel_rfl
theorem pl93 : placesOf Tryz.prog 93 = some [(0, 1), (1, 1), (2, 1), (3, 1)] := by kernel_rfl
theorem el53 : ElT Tryz.prog 53 93 4 96 := ⟨by kernel_rfl, by kernel_rfl, by decide⟩
theorem sz53 : (Tryz.prog.info? 53).map (·.size) = some 1 := by kernel_rfl
theorem ag52 : isAggT Tryz.prog 52 = some false := by kernel_rfl
theorem ut52 : Tryz.prog.underlying 52 = some (.slice 4) := by kernel_rfl
theorem sz4 : (Tryz.prog.info? 4).map (·.size) = some 1 := by kernel_rfl
def an56_10 : List Nat := [0, 0, 0, 4, 12, 30, 0, 0, 254, 0, 0, 2046, 0, 0, 16382, 32767, 65535]
theorem ag111 : isAggT Tryz.prog 111 = some false := by kernel_rfl
def an56_12 : List Nat := [0, 1, 0, 0, 8, 24, 56, 124, 3, 0, 1023, 2047, 4095, 2047, 10239]

theorem at000_spec (tk : List Bool) (htk : tk.length ≤ 100000) (d : Nat) (hd9 : d ≤ 900) (ih : AtH tk d) (p : List Stp) (fd : List Cft) (hk : okTri (d + 1) none none none) (hp : p.length + (d + 1) ≤ 10000) (hB : (atM tk (d + 1) p none none none fd).2.length ≤ 100000) : FSpec Tryz.prog 56 3 (atArgs tk p none none none) (hpOf (atIn tk fd)) (fun r h => r = optP (atM tk (d + 1) p none none none fd).1 ∧ h = hpOf (atOut tk (atM tk (d + 1) p none none none fd).2)) := by
  have hfd : fd.length ≤ 100000 := Nat.le_trans (atM_grows tk (d + 1) p none none none fd) hB
  refine FSpec.intro Tryz.func56 rfl (nl rfl) (nl rfl) fun s0 w0 hs0 hn0 => ?_
  refine .ws 3 [(0, .ro 3 (rowsOf Stp.cells p)), (1, .lit (.pointer none)), (2, .lit (.pointer none)), (3, .lit (.pointer none)), (4, .P 0), (5, .P 1), (6, .rp [.ro 1 (rowsOf boolCells tk)] 0)] [(0, .box [.fn 56 [.P 0, .P 1, .rp [.ro 1 (rowsOf boolCells tk)] 0]]), (1, .box [.sl 2 4 0 fd.length]), (2, .arr false 4 (rowsOf Cft.cells fd))] <| .seq <| .region <| .p (.assign Z Z) <| .nil <| .seq <| .block <| .seq <| .region <| .p (.move Z Z) <| .p (.move Z Z) <| .p (.call0 [] false (meq00_spec ) Tryz.func57 (hv := by exact (.same Z))) ?_
  refine .p (.move Z Z) <| .nT Z Z (Eq.refl true) Z <| .nT Z Z (Eq.refl true) Z <| .nT Z Z (Eq.refl true) Z <| .p (.pick Z Z Z) <| .p (.assign Z Z) <| .nil <| .cT Z Z <| .seq <| .region <| .p (.move Z Z) <| .p (.assign Z Z) ?_
  refine .nil <| .ret ?_
  have hd : atM tk (d + 1) p none none none fd = (none, fd) := by
    simp only [atM]
    first | exact if_pos (by simp_all [eqO]) | (rw [if_neg (by simp_all [eqO])]; exact if_pos (by simp_all [eqO]))
  exact ⟨_, _, _, _, rfl, ALe.of false [(3, 2)] 4
      [(0, .lit (.pointer none))]
      [(0, .box [.fn 56 [.P 0, .P 1, .rp [.ro 1 (rowsOf boolCells tk)] 0]]), (1, .box [.sl 3 4 0 fd.length]), (3, .arr false 4 (rowsOf Cft.cells fd))]
      (.cons rfl (.boxL (.cons (.fnL (.cons .ptrR (.cons .ptrR (.cons (.same rfl) .nil)))) .nil)) (.cons rfl (.boxL (.cons .slR .nil)) (.cons rfl (.arr rfl) .nil)))
      (.s .nil)
      (by simp), atEnd1 hd, atEnd2 hd⟩

theorem at001_spec (tk : List Bool) (htk : tk.length ≤ 100000) (d : Nat) (hd9 : d ≤ 900) (ih : AtH tk d) (p : List Stp) (t : T) (fd : List Cft) (hk : okTri (d + 1) none none (some t)) (hp : p.length + (d + 1) ≤ 10000) (hB : (atM tk (d + 1) p none none (some t) fd).2.length ≤ 100000) : FSpec Tryz.prog 56 3 (atArgs tk p none none (some t)) (hpOf (atIn tk fd)) (fun r h => r = optP (atM tk (d + 1) p none none (some t) fd).1 ∧ h = hpOf (atOut tk (atM tk (d + 1) p none none (some t) fd).2)) := by
  have hfd : fd.length ≤ 100000 := Nat.le_trans (atM_grows tk (d + 1) p none none (some t) fd) hB
  have hft : t.fit := tok_fit hd9 (hk.2.2.1 _ rfl)
  refine FSpec.intro Tryz.func56 rfl (nl rfl) (nl rfl) fun s0 w0 hs0 hn0 => ?_
  refine .ws 3 [(0, .ro 3 (rowsOf Stp.cells p)), (1, .lit (.pointer none)), (2, .lit (.pointer none)), (3, .rp (encX t) 0), (4, .P 0), (5, .P 1), (6, .rp [.ro 1 (rowsOf boolCells tk)] 0)] [(0, .box [.fn 56 [.P 0, .P 1, .rp [.ro 1 (rowsOf boolCells tk)] 0]]), (1, .box [.sl 2 4 0 fd.length]), (2, .arr false 4 (rowsOf Cft.cells fd))] <| .seq <| .region <| .p (.assign Z Z) <| .nil <| .seq <| .block <| .seq <| .region <| .p (.move Z Z) <| .p (.move Z Z) <| .p (.call0 [] false (meq01_spec t) Tryz.func57 (hv := by exact (.same Z))) ?_
  refine .p (.move Z Z) <| .yF (.move Z Z) Z Z (Eq.refl false) <| .yF (.move Z Z) Z Z (Eq.refl false) <| .yF (.call0 [] false (meq10_spec t) Tryz.func57 (hv := by exact (.same Z))) Z Z (Eq.refl false) ?_
  refine .p (.pick Z Z Z) <| .p (.assign Z Z) <| .nil <| .cF Z Z <| .seq <| .region <| .p (.move Z Z) <| .p (.move Z Z) <| .p (.call0 [] false (meq00_spec ) Tryz.func57 (hv := by exact (.same Z))) ?_
  refine .p (.assign Z Z) <| .nil <| .cT Z Z <| .seq <| .region <| .p (.move Z Z) <| .p (.assign Z Z) <| .nil <| .ret ?_
  have hd : atM tk (d + 1) p none none (some t) fd = ((some t), fd) := by
    simp only [atM]
    first | exact if_pos (by simp_all [eqO]) | (rw [if_neg (by simp_all [eqO])]; exact if_pos (by simp_all [eqO]))
  exact ⟨_, _, _, _, rfl, ALe.of false [(3, 2)] 4
      [(0, .rp (encX t) 0)]
      [(0, .box [.fn 56 [.P 0, .P 1, .rp [.ro 1 (rowsOf boolCells tk)] 0]]), (1, .box [.sl 3 4 0 fd.length]), (3, .arr false 4 (rowsOf Cft.cells fd))]
      (.cons rfl (.boxL (.cons (.fnL (.cons .ptrR (.cons .ptrR (.cons (.same rfl) .nil)))) .nil)) (.cons rfl (.boxL (.cons .slR .nil)) (.cons rfl (.arr rfl) .nil)))
      (.s .nil)
      (by simp), atEnd1 hd, atEnd2 hd⟩

theorem at010_spec (tk : List Bool) (htk : tk.length ≤ 100000) (d : Nat) (hd9 : d ≤ 900) (ih : AtH tk d) (p : List Stp) (o : T) (fd : List Cft) (hk : okTri (d + 1) none (some o) none) (hp : p.length + (d + 1) ≤ 10000) (hB : (atM tk (d + 1) p none (some o) none fd).2.length ≤ 100000) : FSpec Tryz.prog 56 3 (atArgs tk p none (some o) none) (hpOf (atIn tk fd)) (fun r h => r = optP (atM tk (d + 1) p none (some o) none fd).1 ∧ h = hpOf (atOut tk (atM tk (d + 1) p none (some o) none fd).2)) := by
  have hfd : fd.length ≤ 100000 := Nat.le_trans (atM_grows tk (d + 1) p none (some o) none fd) hB
  have hfo : o.fit := tok_fit hd9 (hk.2.1 _ rfl)
  refine FSpec.intro Tryz.func56 rfl (nl rfl) (nl rfl) fun s0 w0 hs0 hn0 => ?_
  refine .ws 3 [(0, .ro 3 (rowsOf Stp.cells p)), (1, .lit (.pointer none)), (2, .rp (encX o) 0), (3, .lit (.pointer none)), (4, .P 0), (5, .P 1), (6, .rp [.ro 1 (rowsOf boolCells tk)] 0)] [(0, .box [.fn 56 [.P 0, .P 1, .rp [.ro 1 (rowsOf boolCells tk)] 0]]), (1, .box [.sl 2 4 0 fd.length]), (2, .arr false 4 (rowsOf Cft.cells fd))] <| .seq <| .region <| .p (.assign Z Z) <| .nil <| .seq <| .block <| .seq <| .region <| .p (.move Z Z) <| .p (.move Z Z) <| .p (.call0 [] false (meq10_spec o) Tryz.func57 (hv := by exact (.same Z))) ?_
  refine .p (.move Z Z) <| .yF (.move Z Z) Z Z (Eq.refl false) <| .yF (.move Z Z) Z Z (Eq.refl false) <| .yF (.call0 [] false (meq00_spec ) Tryz.func57 (hv := by exact (.same Z))) Z Z (Eq.refl false) ?_
  refine .p (.pick Z Z Z) <| .p (.assign Z Z) <| .nil <| .cT Z Z <| .seq <| .region <| .p (.move Z Z) <| .p (.assign Z Z) <| .nil <| .ret ?_
  have hd : atM tk (d + 1) p none (some o) none fd = ((some o), fd) := by
    simp only [atM]
    first | exact if_pos (by simp_all [eqO]) | (rw [if_neg (by simp_all [eqO])]; exact if_pos (by simp_all [eqO]))
  exact ⟨_, _, _, _, rfl, ALe.of false [(3, 2)] 4
      [(0, .rp (encX o) 0)]
      [(0, .box [.fn 56 [.P 0, .P 1, .rp [.ro 1 (rowsOf boolCells tk)] 0]]), (1, .box [.sl 3 4 0 fd.length]), (3, .arr false 4 (rowsOf Cft.cells fd))]
      (.cons rfl (.boxL (.cons (.fnL (.cons .ptrR (.cons .ptrR (.cons (.same rfl) .nil)))) .nil)) (.cons rfl (.boxL (.cons .slR .nil)) (.cons rfl (.arr rfl) .nil)))
      (.s .nil)
      (by simp), atEnd1 hd, atEnd2 hd⟩

theorem at100_spec (tk : List Bool) (htk : tk.length ≤ 100000) (d : Nat) (hd9 : d ≤ 900) (ih : AtH tk d) (p : List Stp) (b : T) (fd : List Cft) (hk : okTri (d + 1) (some b) none none) (hp : p.length + (d + 1) ≤ 10000) (hB : (atM tk (d + 1) p (some b) none none fd).2.length ≤ 100000) : FSpec Tryz.prog 56 3 (atArgs tk p (some b) none none) (hpOf (atIn tk fd)) (fun r h => r = optP (atM tk (d + 1) p (some b) none none fd).1 ∧ h = hpOf (atOut tk (atM tk (d + 1) p (some b) none none fd).2)) := by
  have hfd : fd.length ≤ 100000 := Nat.le_trans (atM_grows tk (d + 1) p (some b) none none fd) hB
  have hfb : b.fit := tok_fit hd9 (hk.1 _ rfl)
  refine FSpec.intro Tryz.func56 rfl (nl rfl) (nl rfl) fun s0 w0 hs0 hn0 => ?_
  refine .ws 3 [(0, .ro 3 (rowsOf Stp.cells p)), (1, .rp (encX b) 0), (2, .lit (.pointer none)), (3, .lit (.pointer none)), (4, .P 0), (5, .P 1), (6, .rp [.ro 1 (rowsOf boolCells tk)] 0)] [(0, .box [.fn 56 [.P 0, .P 1, .rp [.ro 1 (rowsOf boolCells tk)] 0]]), (1, .box [.sl 2 4 0 fd.length]), (2, .arr false 4 (rowsOf Cft.cells fd))] <| .seq <| .region <| .p (.assign Z Z) <| .nil <| .seq <| .block <| .seq <| .region <| .p (.move Z Z) <| .p (.move Z Z) <| .p (.call0 [] false (meq00_spec ) Tryz.func57 (hv := by exact (.same Z))) ?_
  refine .p (.move Z Z) <| .nT Z Z (Eq.refl true) Z <| .nT Z Z (Eq.refl true) Z <| .nT Z Z (Eq.refl true) Z <| .p (.pick Z Z Z) <| .p (.assign Z Z) <| .nil <| .cT Z Z <| .seq <| .region <| .p (.move Z Z) <| .p (.assign Z Z) ?_
  refine .nil <| .ret ?_
  have hd : atM tk (d + 1) p (some b) none none fd = (none, fd) := by
    simp only [atM]
    first | exact if_pos (by simp_all [eqO]) | (rw [if_neg (by simp_all [eqO])]; exact if_pos (by simp_all [eqO]))
  exact ⟨_, _, _, _, rfl, ALe.of false [(3, 2)] 4
      [(0, .lit (.pointer none))]
      [(0, .box [.fn 56 [.P 0, .P 1, .rp [.ro 1 (rowsOf boolCells tk)] 0]]), (1, .box [.sl 3 4 0 fd.length]), (3, .arr false 4 (rowsOf Cft.cells fd))]
      (.cons rfl (.boxL (.cons (.fnL (.cons .ptrR (.cons .ptrR (.cons (.same rfl) .nil)))) .nil)) (.cons rfl (.boxL (.cons .slR .nil)) (.cons rfl (.arr rfl) .nil)))
      (.s .nil)
      (by simp), atEnd1 hd, atEnd2 hd⟩

theorem at101_spec (tk : List Bool) (htk : tk.length ≤ 100000) (d : Nat) (hd9 : d ≤ 900) (ih : AtH tk d) (p : List Stp) (b t : T) (fd : List Cft) (hk : okTri (d + 1) (some b) none (some t)) (hp : p.length + (d + 1) ≤ 10000) (hB : (atM tk (d + 1) p (some b) none (some t) fd).2.length ≤ 100000) : FSpec Tryz.prog 56 3 (atArgs tk p (some b) none (some t)) (hpOf (atIn tk fd)) (fun r h => r = optP (atM tk (d + 1) p (some b) none (some t) fd).1 ∧ h = hpOf (atOut tk (atM tk (d + 1) p (some b) none (some t) fd).2)) := by
  have hfd : fd.length ≤ 100000 := Nat.le_trans (atM_grows tk (d + 1) p (some b) none (some t) fd) hB
  have hfb : b.fit := tok_fit hd9 (hk.1 _ rfl)
  have hft : t.fit := tok_fit hd9 (hk.2.2.1 _ rfl)
  refine FSpec.intro Tryz.func56 rfl (nl rfl) (nl rfl) fun s0 w0 hs0 hn0 => ?_
  refine .ws 3 [(0, .ro 3 (rowsOf Stp.cells p)), (1, .rp (encX b) 0), (2, .lit (.pointer none)), (3, .rp (encX t) 0), (4, .P 0), (5, .P 1), (6, .rp [.ro 1 (rowsOf boolCells tk)] 0)] [(0, .box [.fn 56 [.P 0, .P 1, .rp [.ro 1 (rowsOf boolCells tk)] 0]]), (1, .box [.sl 2 4 0 fd.length]), (2, .arr false 4 (rowsOf Cft.cells fd))] <| .seq <| .region <| .p (.assign Z Z) <| .nil <| .seq <| .block <| .seq <| .region <| .p (.move Z Z) <| .p (.move Z Z) <| .p (.call0 [] false (meq01_spec t) Tryz.func57 (hv := by exact (.same Z))) ?_
  refine .p (.move Z Z) <| .yF (.move Z Z) Z Z (Eq.refl false) <| .yF (.move Z Z) Z Z (Eq.refl false) <| .yF (.call0 [] false (meq11_spec t b hft hfb) Tryz.func57 (hv := by exact (.same Z))) Z Z (Eq.refl false) ?_
  refine .p (.pick Z Z Z) <| .p (.assign Z Z) <| .nil ?_
  rcases Bool.eq_false_or_eq_true (sameM 1000 t b) with h1 | h1
  refine .cT Z h1 <| .seq <| .region <| .p (.move Z Z) <| .p (.assign Z Z) <| .nil <| .ret ?_
  have hd : atM tk (d + 1) p (some b) none (some t) fd = (none, fd) := by
    simp only [atM]
    first | exact if_pos (by simp_all [eqO]) | (rw [if_neg (by simp_all [eqO])]; exact if_pos (by simp_all [eqO]))
  exact ⟨_, _, _, _, rfl, ALe.of false [(3, 2)] 4
      [(0, .lit (.pointer none))]
      [(0, .box [.fn 56 [.P 0, .P 1, .rp [.ro 1 (rowsOf boolCells tk)] 0]]), (1, .box [.sl 3 4 0 fd.length]), (3, .arr false 4 (rowsOf Cft.cells fd))]
      (.cons rfl (.boxL (.cons (.fnL (.cons .ptrR (.cons .ptrR (.cons (.same rfl) .nil)))) .nil)) (.cons rfl (.boxL (.cons .slR .nil)) (.cons rfl (.arr rfl) .nil)))
      (.s .nil)
      (by simp), atEnd1 hd, atEnd2 hd⟩
  refine .cF Z h1 <| .seq <| .region <| .p (.move Z Z) <| .p (.move Z Z) <| .p (.call0 [] false (meq01_spec b) Tryz.func57 (hv := by exact (.same Z))) ?_
  refine .p (.assign Z Z) <| .nil <| .cF Z Z <| .skip <| .seq <| .seq <| .region <| .p (.move Z Z) <| .p (.pneq0 ut86 Z Z Z) <| .p (.move Z Z) <| .nF Z Z (Eq.refl false) Z <| .nF Z Z (Eq.refl false) Z ?_
  refine .p (.pick Z Z Z) <| .p (.move Z Z) <| .nF Z Z (Eq.refl false) Z <| .nF Z Z (Eq.refl false) Z <| .nF Z Z (Eq.refl false) Z <| .nF Z Z (Eq.refl false) Z <| .nF Z Z (Eq.refl false) Z <| .p (.pick Z Z Z) <| .p (.move Z Z) <| .nF Z Z (Eq.refl false) Z <| .nF Z Z (Eq.refl false) Z <| .nF Z Z (Eq.refl false) Z ?_
  refine .nF Z Z (Eq.refl false) Z <| .nF Z Z (Eq.refl false) Z <| .p (.pick Z Z Z) <| .p (.move Z Z) <| .nF Z Z (Eq.refl false) Z <| .nF Z Z (Eq.refl false) Z <| .nF Z Z (Eq.refl false) Z <| .cons_unasked Z Z Z Z <| .cons_unasked Z Z Z Z <| .cons_unasked Z Z Z Z <| .cons_unasked Z Z Z Z <| .cons_unasked Z Z Z Z ?_
  refine .nF Z Z (Eq.refl false) Z <| .p (.pick Z Z Z) <| .nil <| .ws 3 [(0, .ro 3 (rowsOf Stp.cells p)), (1, .rp (encX b) 0), (2, .lit (.pointer none)), (3, .rp (encX t) 0), (4, .P 0), (5, .P 1), (6, .rp [.ro 1 (rowsOf boolCells tk)] 0), (62, .B false)] [(0, .box [.fn 56 [.P 0, .P 1, .rp [.ro 1 (rowsOf boolCells tk)] 0]]), (1, .box [.sl 2 4 0 fd.length]), (2, .arr false 4 (rowsOf Cft.cells fd))] <| .cF Z Z <| .skip <| .seq <| .region <| .p (.load1 ag53 Z Z Z Z) <| .p (.len_sl ut53 Z Z (Option.some_ne_none _)) <| .p (.assign Z Z) <| .nil ?_
  refine .seq <| .region_p fol an56_16 (by kernel_rfl) Z ?_
  refine .p [1] (.load1 ag53 Z Z Z Z) <| .p [] (.move Z Z) <| .p [] (.call0 [] false (Join_spec p [] (by omega) (by simp)) Tryz.func41 (hv := by exact (.cons (.same Z) (.cons (.nilRo Z) .nil)))) ?_
  refine .p [] (.move Z Z) <| .p [] (.call0 [] false (some1_spec b hfb) Tryz.func60 (hv := by exact (.same Z))) ?_
  refine .p [] (.move Z Z) <| .p [] (.call0 [] false (some0_spec ) Tryz.func60 (hv := by exact (.same Z))) ?_
  refine .p [] (.move Z Z) <| .p [] (.call0 [] false (some1_spec t hft) Tryz.func60 (hv := by exact (.same Z))) ?_
  refine .p [] (.build Z zt93 Z pl93 Z Z) <| .c 4 [] (.buildSlice 3 true [[.ro 3 (rowsOf Stp.cells (p ++ [])), .ro 13 (encL [b]), .ro 13 (encL []), .ro 13 (encL [t])]] ut53 sz93 zt93 Z Z (by decide) (by decide) Z Z Z Z Z Z Z) ?_
  refine .c 5 [2, 3] (.appendN (n2 := (fd.length + 1)) 4 el53 Z Z Z (by first | rfl | (simp; done) | (simp; omega)) (.sl Z Z (nl Z) (by simp)) (by simp only [rowsOf, encF_len, List.length_map, List.length_append, List.length_cons, List.length_nil, List.length_take, List.length_drop]; omega) (by simp only [rowsOf, encF_len, List.length_map, List.length_append, List.length_cons, List.length_nil, List.length_take, List.length_drop]; omega) (by first | rfl | (simp; done) | (simp; omega))) ?_
  refine .c 5 [1] (.store sz53 Z Z Z Z (notup Z) Z Z (nl Z)) <| .nil (by kernel_rfl) ?_
  refine .seq <| .seq <| .region <| .p (.move Z Z) <| .p (.rload1 ag52 Z Z Z) <| .p (.len_ro (n := tk.length) ut52 Z (.inl Z) (by simp)) ?_
  refine .p (.ilss Z Z Z) <| .p (.move Z Z) ?_
  by_cases p3 : ((fd.length : Nat) : Int) < ((tk.length : Nat) : Int)
  have h2 := decide_eq_true p3
  refine .yT (.rload1 ag52 Z Z Z) Z Z h2 <| .yT (.move Z Z) Z Z h2 <| .yT (.iaddr_ro (row := [.B (nthG tk fd.length)]) ut52 sz4 Z Z Z Z (rows_nth (f := boolCells) (by omega))) Z Z h2 ?_
  refine .yT (.rload1 ag4 Z Z Z) Z Z h2 <| .p (.pickE Z Z h2 Z) <| .nil ?_
  rcases Bool.eq_false_or_eq_true (nthG tk fd.length) with h4 | h4
  refine .cT Z h4 <| .seq <| .region <| .p (.move Z Z) <| .p (.assign Z Z) <| .nil <| .ret ?_
  have hd : atM tk (d + 1) p (some b) none (some t) fd = ((some t), (fd ++ [(⟨(p ++ []), [b], [], [t]⟩ : Cft)])) := by
    simp only [atM]
    rw [if_neg (by simp_all [eqO]), if_neg (by simp_all [eqO])]
    simp only [cftM, optL, List.append_nil]
    first | (rw [if_pos ⟨by omega, by assumption⟩]; done) | (rw [if_neg (by first | omega | simp_all)]; done)
  exact ⟨_, _, _, _, rfl, ALe.of false [(3, 4)] 4
      [(0, .rp (encX t) 0)]
      [(0, .box [.fn 56 [.P 0, .P 1, .rp [.ro 1 (rowsOf boolCells tk)] 0]]), (1, .box [.sl 3 4 0 (fd ++ [(⟨(p ++ []), [b], [], [t]⟩ : Cft)]).length]), (3, .arr false 4 (rowsOf Cft.cells (fd ++ [(⟨(p ++ []), [b], [], [t]⟩ : Cft)])))]
      (.cons rfl (.boxL (.cons (.fnL (.cons .ptrR (.cons .ptrR (.cons (.same rfl) .nil)))) .nil)) (.cons rfl (.boxL (.cons (.slE (by first | rfl | (simp; done))) .nil)) (.cons rfl (.arr (by exact (rows_append (f := Cft.cells) fd [(⟨(p ++ []), [b], [], [t]⟩ : Cft)]).symm)) .nil)))
      (.s .nil)
      (by simp), atEnd1 hd, atEnd2 hd⟩
  refine .cF Z h4 <| .skip <| .seq <| .region <| .p (.move Z Z) <| .p (.assign Z Z) <| .nil <| .ret ?_
  have hd : atM tk (d + 1) p (some b) none (some t) fd = (none, (fd ++ [(⟨(p ++ []), [b], [], [t]⟩ : Cft)])) := by
    simp only [atM]
    rw [if_neg (by simp_all [eqO]), if_neg (by simp_all [eqO])]
    simp only [cftM, optL, List.append_nil]
    first | (rw [if_pos ⟨by omega, by assumption⟩]; done) | (rw [if_neg (by first | omega | simp_all)]; done)
  exact ⟨_, _, _, _, rfl, ALe.of false [(3, 4)] 4
      [(0, .lit (.pointer none))]
      [(0, .box [.fn 56 [.P 0, .P 1, .rp [.ro 1 (rowsOf boolCells tk)] 0]]), (1, .box [.sl 3 4 0 (fd ++ [(⟨(p ++ []), [b], [], [t]⟩ : Cft)]).length]), (3, .arr false 4 (rowsOf Cft.cells (fd ++ [(⟨(p ++ []), [b], [], [t]⟩ : Cft)])))]
      (.cons rfl (.boxL (.cons (.fnL (.cons .ptrR (.cons .ptrR (.cons (.same rfl) .nil)))) .nil)) (.cons rfl (.boxL (.cons (.slE (by first | rfl | (simp; done))) .nil)) (.cons rfl (.arr (by exact (rows_append (f := Cft.cells) fd [(⟨(p ++ []), [b], [], [t]⟩ : Cft)]).symm)) .nil)))
      (.s .nil)
      (by simp), atEnd1 hd, atEnd2 hd⟩
  have h2 := decide_eq_false p3
  refine .nF Z Z h2 Z <| .nF Z Z h2 Z <| .nF Z Z h2 Z <| .nF Z Z h2 Z <| .p (.pickE Z Z h2 Z) <| .nil <| .cF Z Z <| .skip <| .seq <| .region <| .p (.move Z Z) <| .p (.assign Z Z) ?_
  refine .nil <| .ret ?_
  have hd : atM tk (d + 1) p (some b) none (some t) fd = (none, (fd ++ [(⟨(p ++ []), [b], [], [t]⟩ : Cft)])) := by
    simp only [atM]
    rw [if_neg (by simp_all [eqO]), if_neg (by simp_all [eqO])]
    simp only [cftM, optL, List.append_nil]
    first | (rw [if_pos ⟨by omega, by assumption⟩]; done) | (rw [if_neg (by first | omega | simp_all)]; done)
  exact ⟨_, _, _, _, rfl, ALe.of false [(3, 4)] 4
      [(0, .lit (.pointer none))]
      [(0, .box [.fn 56 [.P 0, .P 1, .rp [.ro 1 (rowsOf boolCells tk)] 0]]), (1, .box [.sl 3 4 0 (fd ++ [(⟨(p ++ []), [b], [], [t]⟩ : Cft)]).length]), (3, .arr false 4 (rowsOf Cft.cells (fd ++ [(⟨(p ++ []), [b], [], [t]⟩ : Cft)])))]
      (.cons rfl (.boxL (.cons (.fnL (.cons .ptrR (.cons .ptrR (.cons (.same rfl) .nil)))) .nil)) (.cons rfl (.boxL (.cons (.slE (by first | rfl | (simp; done))) .nil)) (.cons rfl (.arr (by exact (rows_append (f := Cft.cells) fd [(⟨(p ++ []), [b], [], [t]⟩ : Cft)]).symm)) .nil)))
      (.s .nil)
      (by simp), atEnd1 hd, atEnd2 hd⟩

theorem at110_spec (tk : List Bool) (htk : tk.length ≤ 100000) (d : Nat) (hd9 : d ≤ 900) (ih : AtH tk d) (p : List Stp) (b o : T) (fd : List Cft) (hk : okTri (d + 1) (some b) (some o) none) (hp : p.length + (d + 1) ≤ 10000) (hB : (atM tk (d + 1) p (some b) (some o) none fd).2.length ≤ 100000) : FSpec Tryz.prog 56 3 (atArgs tk p (some b) (some o) none) (hpOf (atIn tk fd)) (fun r h => r = optP (atM tk (d + 1) p (some b) (some o) none fd).1 ∧ h = hpOf (atOut tk (atM tk (d + 1) p (some b) (some o) none fd).2)) := by
  have hfd : fd.length ≤ 100000 := Nat.le_trans (atM_grows tk (d + 1) p (some b) (some o) none fd) hB
  have hfb : b.fit := tok_fit hd9 (hk.1 _ rfl)
  have hfo : o.fit := tok_fit hd9 (hk.2.1 _ rfl)
  refine FSpec.intro Tryz.func56 rfl (nl rfl) (nl rfl) fun s0 w0 hs0 hn0 => ?_
  refine .ws 3 [(0, .ro 3 (rowsOf Stp.cells p)), (1, .rp (encX b) 0), (2, .rp (encX o) 0), (3, .lit (.pointer none)), (4, .P 0), (5, .P 1), (6, .rp [.ro 1 (rowsOf boolCells tk)] 0)] [(0, .box [.fn 56 [.P 0, .P 1, .rp [.ro 1 (rowsOf boolCells tk)] 0]]), (1, .box [.sl 2 4 0 fd.length]), (2, .arr false 4 (rowsOf Cft.cells fd))] <| .seq <| .region <| .p (.assign Z Z) <| .nil <| .seq <| .block <| .seq <| .region <| .p (.move Z Z) <| .p (.move Z Z) <| .p (.call0 [] false (meq10_spec o) Tryz.func57 (hv := by exact (.same Z))) ?_
  refine .p (.move Z Z) <| .yF (.move Z Z) Z Z (Eq.refl false) <| .yF (.move Z Z) Z Z (Eq.refl false) <| .yF (.call0 [] false (meq01_spec b) Tryz.func57 (hv := by exact (.same Z))) Z Z (Eq.refl false) ?_
  refine .p (.pick Z Z Z) <| .p (.assign Z Z) <| .nil <| .cF Z Z <| .seq <| .region <| .p (.move Z Z) <| .p (.move Z Z) <| .p (.call0 [] false (meq11_spec o b hfo hfb) Tryz.func57 (hv := by exact (.same Z))) ?_
  refine .p (.assign Z Z) <| .nil ?_
  rcases Bool.eq_false_or_eq_true (sameM 1000 o b) with h1 | h1
  refine .cT Z h1 <| .seq <| .region <| .p (.move Z Z) <| .p (.assign Z Z) <| .nil <| .ret ?_
  have hd : atM tk (d + 1) p (some b) (some o) none fd = (none, fd) := by
    simp only [atM]
    first | exact if_pos (by simp_all [eqO]) | (rw [if_neg (by simp_all [eqO])]; exact if_pos (by simp_all [eqO]))
  exact ⟨_, _, _, _, rfl, ALe.of false [(3, 2)] 4
      [(0, .lit (.pointer none))]
      [(0, .box [.fn 56 [.P 0, .P 1, .rp [.ro 1 (rowsOf boolCells tk)] 0]]), (1, .box [.sl 3 4 0 fd.length]), (3, .arr false 4 (rowsOf Cft.cells fd))]
      (.cons rfl (.boxL (.cons (.fnL (.cons .ptrR (.cons .ptrR (.cons (.same rfl) .nil)))) .nil)) (.cons rfl (.boxL (.cons .slR .nil)) (.cons rfl (.arr rfl) .nil)))
      (.s .nil)
      (by simp), atEnd1 hd, atEnd2 hd⟩
  refine .cF Z h1 <| .skip <| .seq <| .seq <| .region <| .p (.move Z Z) <| .p (.pneq ut86 Z Z Z Z) <| .p (.move Z Z) <| .yT (.move Z Z) Z Z (Eq.refl true) <| .yT (.pneq0 ut86 Z Z Z) Z Z (Eq.refl true) <| .p (.pick Z Z Z) <| .p (.move Z Z) ?_
  refine .nF Z Z (Eq.refl false) Z <| .nF Z Z (Eq.refl false) Z <| .nF Z Z (Eq.refl false) Z <| .nF Z Z (Eq.refl false) Z <| .nF Z Z (Eq.refl false) Z <| .p (.pick Z Z Z) <| .p (.move Z Z) <| .nF Z Z (Eq.refl false) Z <| .nF Z Z (Eq.refl false) Z <| .nF Z Z (Eq.refl false) Z <| .nF Z Z (Eq.refl false) Z <| .nF Z Z (Eq.refl false) Z ?_
  refine .p (.pick Z Z Z) <| .p (.move Z Z) <| .nF Z Z (Eq.refl false) Z <| .nF Z Z (Eq.refl false) Z <| .nF Z Z (Eq.refl false) Z <| .cons_unasked Z Z Z Z <| .cons_unasked Z Z Z Z <| .cons_unasked Z Z Z Z <| .cons_unasked Z Z Z Z <| .cons_unasked Z Z Z Z <| .nF Z Z (Eq.refl false) Z <| .p (.pick Z Z Z) ?_
  refine .nil <| .ws 3 [(0, .ro 3 (rowsOf Stp.cells p)), (1, .rp (encX b) 0), (2, .rp (encX o) 0), (3, .lit (.pointer none)), (4, .P 0), (5, .P 1), (6, .rp [.ro 1 (rowsOf boolCells tk)] 0), (62, .B false)] [(0, .box [.fn 56 [.P 0, .P 1, .rp [.ro 1 (rowsOf boolCells tk)] 0]]), (1, .box [.sl 2 4 0 fd.length]), (2, .arr false 4 (rowsOf Cft.cells fd))] <| .cF Z Z <| .skip <| .seq <| .region <| .p (.load1 ag53 Z Z Z Z) <| .p (.len_sl ut53 Z Z (Option.some_ne_none _)) <| .p (.assign Z Z) <| .nil <| .seq <| .region_p fol an56_16 (by kernel_rfl) Z ?_
  refine .p [1] (.load1 ag53 Z Z Z Z) <| .p [] (.move Z Z) <| .p [] (.call0 [] false (Join_spec p [] (by omega) (by simp)) Tryz.func41 (hv := by exact (.cons (.same Z) (.cons (.nilRo Z) .nil)))) ?_
  refine .p [] (.move Z Z) <| .p [] (.call0 [] false (some1_spec b hfb) Tryz.func60 (hv := by exact (.same Z))) ?_
  refine .p [] (.move Z Z) <| .p [] (.call0 [] false (some1_spec o hfo) Tryz.func60 (hv := by exact (.same Z))) ?_
  refine .p [] (.move Z Z) <| .p [] (.call0 [] false (some0_spec ) Tryz.func60 (hv := by exact (.same Z))) ?_
  refine .p [] (.build Z zt93 Z pl93 Z Z) <| .c 4 [] (.buildSlice 3 true [[.ro 3 (rowsOf Stp.cells (p ++ [])), .ro 13 (encL [b]), .ro 13 (encL [o]), .ro 13 (encL [])]] ut53 sz93 zt93 Z Z (by decide) (by decide) Z Z Z Z Z Z Z) ?_
  refine .c 5 [2, 3] (.appendN (n2 := (fd.length + 1)) 4 el53 Z Z Z (by first | rfl | (simp; done) | (simp; omega)) (.sl Z Z (nl Z) (by simp)) (by simp only [rowsOf, encF_len, List.length_map, List.length_append, List.length_cons, List.length_nil, List.length_take, List.length_drop]; omega) (by simp only [rowsOf, encF_len, List.length_map, List.length_append, List.length_cons, List.length_nil, List.length_take, List.length_drop]; omega) (by first | rfl | (simp; done) | (simp; omega))) ?_
  refine .c 5 [1] (.store sz53 Z Z Z Z (notup Z) Z Z (nl Z)) <| .nil (by kernel_rfl) ?_
  refine .seq <| .seq <| .region <| .p (.move Z Z) <| .p (.rload1 ag52 Z Z Z) <| .p (.len_ro (n := tk.length) ut52 Z (.inl Z) (by simp)) ?_
  refine .p (.ilss Z Z Z) <| .p (.move Z Z) ?_
  by_cases p3 : ((fd.length : Nat) : Int) < ((tk.length : Nat) : Int)
  have h2 := decide_eq_true p3
  refine .yT (.rload1 ag52 Z Z Z) Z Z h2 <| .yT (.move Z Z) Z Z h2 <| .yT (.iaddr_ro (row := [.B (nthG tk fd.length)]) ut52 sz4 Z Z Z Z (rows_nth (f := boolCells) (by omega))) Z Z h2 ?_
  refine .yT (.rload1 ag4 Z Z Z) Z Z h2 <| .p (.pickE Z Z h2 Z) <| .nil ?_
  rcases Bool.eq_false_or_eq_true (nthG tk fd.length) with h4 | h4
  refine .cT Z h4 <| .seq <| .region <| .p (.move Z Z) <| .p (.assign Z Z) <| .nil <| .ret ?_
  have hd : atM tk (d + 1) p (some b) (some o) none fd = (none, (fd ++ [(⟨(p ++ []), [b], [o], []⟩ : Cft)])) := by
    simp only [atM]
    rw [if_neg (by simp_all [eqO]), if_neg (by simp_all [eqO])]
    simp only [cftM, optL, List.append_nil]
    first | (rw [if_pos ⟨by omega, by assumption⟩]; done) | (rw [if_neg (by first | omega | simp_all)]; done)
  exact ⟨_, _, _, _, rfl, ALe.of false [(3, 4)] 4
      [(0, .lit (.pointer none))]
      [(0, .box [.fn 56 [.P 0, .P 1, .rp [.ro 1 (rowsOf boolCells tk)] 0]]), (1, .box [.sl 3 4 0 (fd ++ [(⟨(p ++ []), [b], [o], []⟩ : Cft)]).length]), (3, .arr false 4 (rowsOf Cft.cells (fd ++ [(⟨(p ++ []), [b], [o], []⟩ : Cft)])))]
      (.cons rfl (.boxL (.cons (.fnL (.cons .ptrR (.cons .ptrR (.cons (.same rfl) .nil)))) .nil)) (.cons rfl (.boxL (.cons (.slE (by first | rfl | (simp; done))) .nil)) (.cons rfl (.arr (by exact (rows_append (f := Cft.cells) fd [(⟨(p ++ []), [b], [o], []⟩ : Cft)]).symm)) .nil)))
      (.s .nil)
      (by simp), atEnd1 hd, atEnd2 hd⟩
  refine .cF Z h4 <| .skip <| .seq <| .region <| .p (.move Z Z) <| .p (.assign Z Z) <| .nil <| .ret ?_
  have hd : atM tk (d + 1) p (some b) (some o) none fd = ((some o), (fd ++ [(⟨(p ++ []), [b], [o], []⟩ : Cft)])) := by
    simp only [atM]
    rw [if_neg (by simp_all [eqO]), if_neg (by simp_all [eqO])]
    simp only [cftM, optL, List.append_nil]
    first | (rw [if_pos ⟨by omega, by assumption⟩]; done) | (rw [if_neg (by first | omega | simp_all)]; done)
  exact ⟨_, _, _, _, rfl, ALe.of false [(3, 4)] 4
      [(0, .rp (encX o) 0)]
      [(0, .box [.fn 56 [.P 0, .P 1, .rp [.ro 1 (rowsOf boolCells tk)] 0]]), (1, .box [.sl 3 4 0 (fd ++ [(⟨(p ++ []), [b], [o], []⟩ : Cft)]).length]), (3, .arr false 4 (rowsOf Cft.cells (fd ++ [(⟨(p ++ []), [b], [o], []⟩ : Cft)])))]
      (.cons rfl (.boxL (.cons (.fnL (.cons .ptrR (.cons .ptrR (.cons (.same rfl) .nil)))) .nil)) (.cons rfl (.boxL (.cons (.slE (by first | rfl | (simp; done))) .nil)) (.cons rfl (.arr (by exact (rows_append (f := Cft.cells) fd [(⟨(p ++ []), [b], [o], []⟩ : Cft)]).symm)) .nil)))
      (.s .nil)
      (by simp), atEnd1 hd, atEnd2 hd⟩
  have h2 := decide_eq_false p3
  refine .nF Z Z h2 Z <| .nF Z Z h2 Z <| .nF Z Z h2 Z <| .nF Z Z h2 Z <| .p (.pickE Z Z h2 Z) <| .nil <| .cF Z Z <| .skip <| .seq <| .region <| .p (.move Z Z) <| .p (.assign Z Z) ?_
  refine .nil <| .ret ?_
  have hd : atM tk (d + 1) p (some b) (some o) none fd = ((some o), (fd ++ [(⟨(p ++ []), [b], [o], []⟩ : Cft)])) := by
    simp only [atM]
    rw [if_neg (by simp_all [eqO]), if_neg (by simp_all [eqO])]
    simp only [cftM, optL, List.append_nil]
    first | (rw [if_pos ⟨by omega, by assumption⟩]; done) | (rw [if_neg (by first | omega | simp_all)]; done)
  exact ⟨_, _, _, _, rfl, ALe.of false [(3, 4)] 4
      [(0, .rp (encX o) 0)]
      [(0, .box [.fn 56 [.P 0, .P 1, .rp [.ro 1 (rowsOf boolCells tk)] 0]]), (1, .box [.sl 3 4 0 (fd ++ [(⟨(p ++ []), [b], [o], []⟩ : Cft)]).length]), (3, .arr false 4 (rowsOf Cft.cells (fd ++ [(⟨(p ++ []), [b], [o], []⟩ : Cft)])))]
      (.cons rfl (.boxL (.cons (.fnL (.cons .ptrR (.cons .ptrR (.cons (.same rfl) .nil)))) .nil)) (.cons rfl (.boxL (.cons (.slE (by first | rfl | (simp; done))) .nil)) (.cons rfl (.arr (by exact (rows_append (f := Cft.cells) fd [(⟨(p ++ []), [b], [o], []⟩ : Cft)]).symm)) .nil)))
      (.s .nil)
      (by simp), atEnd1 hd, atEnd2 hd⟩

theorem at111_spec (tk : List Bool) (htk : tk.length ≤ 100000) (d : Nat) (hd9 : d ≤ 900) (ih : AtH tk d) (p : List Stp) (b o t : T) (fd : List Cft) (hk : okTri (d + 1) (some b) (some o) (some t)) (hp : p.length + (d + 1) ≤ 10000) (hB : (atM tk (d + 1) p (some b) (some o) (some t) fd).2.length ≤ 100000) : FSpec Tryz.prog 56 3 (atArgs tk p (some b) (some o) (some t)) (hpOf (atIn tk fd)) (fun r h => r = optP (atM tk (d + 1) p (some b) (some o) (some t) fd).1 ∧ h = hpOf (atOut tk (atM tk (d + 1) p (some b) (some o) (some t) fd).2)) := by
  have hfd : fd.length ≤ 100000 := Nat.le_trans (atM_grows tk (d + 1) p (some b) (some o) (some t) fd) hB
  have hfb : b.fit := tok_fit hd9 (hk.1 _ rfl)
  have hfo : o.fit := tok_fit hd9 (hk.2.1 _ rfl)
  have hft : t.fit := tok_fit hd9 (hk.2.2.1 _ rfl)
  refine FSpec.intro Tryz.func56 rfl (nl rfl) (nl rfl) fun s0 w0 hs0 hn0 => ?_
  refine .ws 3 [(0, .ro 3 (rowsOf Stp.cells p)), (1, .rp (encX b) 0), (2, .rp (encX o) 0), (3, .rp (encX t) 0), (4, .P 0), (5, .P 1), (6, .rp [.ro 1 (rowsOf boolCells tk)] 0)] [(0, .box [.fn 56 [.P 0, .P 1, .rp [.ro 1 (rowsOf boolCells tk)] 0]]), (1, .box [.sl 2 4 0 fd.length]), (2, .arr false 4 (rowsOf Cft.cells fd))] <| .seq <| .region <| .p (.assign Z Z) <| .nil <| .seq <| .block <| .seq <| .region <| .p (.move Z Z) <| .p (.move Z Z) <| .p (.call0 [] false (meq11_spec o t hfo hft) Tryz.func57 (hv := by exact (.same Z))) ?_
  refine .p (.move Z Z) ?_
  rcases Bool.eq_false_or_eq_true (sameM 1000 o t) with h1 | h1
  refine .nT Z Z h1 Z <| .nT Z Z h1 Z <| .nT Z Z h1 Z <| .p (.pickE Z Z h1 Z) <| .p (.assign Z Z) <| .nil <| .cT Z Z <| .seq <| .region <| .p (.move Z Z) <| .p (.assign Z Z) <| .nil ?_
  refine .ret ?_
  have hd : atM tk (d + 1) p (some b) (some o) (some t) fd = ((some o), fd) := by
    simp only [atM]
    first | exact if_pos (by simp_all [eqO]) | (rw [if_neg (by simp_all [eqO])]; exact if_pos (by simp_all [eqO]))
  exact ⟨_, _, _, _, rfl, ALe.of false [(3, 2)] 4
      [(0, .rp (encX o) 0)]
      [(0, .box [.fn 56 [.P 0, .P 1, .rp [.ro 1 (rowsOf boolCells tk)] 0]]), (1, .box [.sl 3 4 0 fd.length]), (3, .arr false 4 (rowsOf Cft.cells fd))]
      (.cons rfl (.boxL (.cons (.fnL (.cons .ptrR (.cons .ptrR (.cons (.same rfl) .nil)))) .nil)) (.cons rfl (.boxL (.cons .slR .nil)) (.cons rfl (.arr rfl) .nil)))
      (.s .nil)
      (by simp), atEnd1 hd, atEnd2 hd⟩
  refine .yF (.move Z Z) Z Z h1 <| .yF (.move Z Z) Z Z h1 <| .yF (.call0 [] false (meq11_spec t b hft hfb) Tryz.func57 (hv := by exact (.same Z))) Z Z h1 ?_
  refine .p (.pickE Z Z h1 Z) <| .p (.assign Z Z) <| .nil ?_
  rcases Bool.eq_false_or_eq_true (sameM 1000 t b) with h2 | h2
  refine .cT Z h2 <| .seq <| .region <| .p (.move Z Z) <| .p (.assign Z Z) <| .nil <| .ret ?_
  have hd : atM tk (d + 1) p (some b) (some o) (some t) fd = ((some o), fd) := by
    simp only [atM]
    first | exact if_pos (by simp_all [eqO]) | (rw [if_neg (by simp_all [eqO])]; exact if_pos (by simp_all [eqO]))
  exact ⟨_, _, _, _, rfl, ALe.of false [(3, 2)] 4
      [(0, .rp (encX o) 0)]
      [(0, .box [.fn 56 [.P 0, .P 1, .rp [.ro 1 (rowsOf boolCells tk)] 0]]), (1, .box [.sl 3 4 0 fd.length]), (3, .arr false 4 (rowsOf Cft.cells fd))]
      (.cons rfl (.boxL (.cons (.fnL (.cons .ptrR (.cons .ptrR (.cons (.same rfl) .nil)))) .nil)) (.cons rfl (.boxL (.cons .slR .nil)) (.cons rfl (.arr rfl) .nil)))
      (.s .nil)
      (by simp), atEnd1 hd, atEnd2 hd⟩
  refine .cF Z h2 <| .seq <| .region <| .p (.move Z Z) <| .p (.move Z Z) <| .p (.call0 [] false (meq11_spec o b hfo hfb) Tryz.func57 (hv := by exact (.same Z))) ?_
  refine .p (.assign Z Z) <| .nil ?_
  rcases Bool.eq_false_or_eq_true (sameM 1000 o b) with h3 | h3
  refine .cT Z h3 <| .seq <| .region <| .p (.move Z Z) <| .p (.assign Z Z) <| .nil <| .ret ?_
  have hd : atM tk (d + 1) p (some b) (some o) (some t) fd = ((some t), fd) := by
    simp only [atM]
    first | exact if_pos (by simp_all [eqO]) | (rw [if_neg (by simp_all [eqO])]; exact if_pos (by simp_all [eqO]))
  exact ⟨_, _, _, _, rfl, ALe.of false [(3, 2)] 4
      [(0, .rp (encX t) 0)]
      [(0, .box [.fn 56 [.P 0, .P 1, .rp [.ro 1 (rowsOf boolCells tk)] 0]]), (1, .box [.sl 3 4 0 fd.length]), (3, .arr false 4 (rowsOf Cft.cells fd))]
      (.cons rfl (.boxL (.cons (.fnL (.cons .ptrR (.cons .ptrR (.cons (.same rfl) .nil)))) .nil)) (.cons rfl (.boxL (.cons .slR .nil)) (.cons rfl (.arr rfl) .nil)))
      (.s .nil)
      (by simp), atEnd1 hd, atEnd2 hd⟩
  refine .cF Z h3 <| .skip <| .seq <| .seq <| .region <| .p (.move Z Z) <| .p (.pneq ut86 Z Z Z Z) <| .p (.move Z Z) <| .yT (.move Z Z) Z Z (Eq.refl true) <| .yT (.pneq ut86 Z Z Z Z) Z Z (Eq.refl true) <| .p (.pick Z Z Z) <| .p (.move Z Z) ?_
  refine .yT (.move Z Z) Z Z (Eq.refl true) <| .yT (.nilCheck Z Z Z) Z Z (Eq.refl true) <| .yT (.faddr_rp fo35_0 Z Z) Z Z (Eq.refl true) <| .yT (.rload1 ag3 Z Z Z) Z Z (Eq.refl true) <| .yT (.ieql Z Z Z) Z Z (Eq.refl true) <| .p (.pick Z Z Z) <| .p (.move Z Z) ?_
  by_cases p5 : o.kind = 7
  have h4 := decide_eq_true p5
  refine .yT (.move Z Z) Z Z h4 <| .yT (.nilCheck Z Z Z) Z Z h4 <| .yT (.faddr_rp fo35_0 Z Z) Z Z h4 <| .yT (.rload1 ag3 Z Z Z) Z Z h4 <| .yT (.ieql Z Z Z) Z Z h4 <| .p (.pickE Z Z h4 Z) <| .p (.move Z Z) ?_
  by_cases p7 : t.kind = 7
  have h6 := decide_eq_true p7
  refine .yT (.move Z Z) Z Z h6 <| .yT (.peql ut86 Z Z Z Z) Z Z h6 <| .yT (.move Z Z) Z Z h6 <| .yF (.move Z Z) Z Z (Eq.refl false) <| .yF (.nilCheck Z Z Z) Z Z (Eq.refl false) <| .yF (.faddr_rp fo35_0 Z Z) Z Z (Eq.refl false) <| .yF (.rload1 ag3 Z Z Z) Z Z (Eq.refl false) <| .yF (.ieql Z Z Z) Z Z (Eq.refl false) <| .yT (.pick Z Z Z) Z Z h6 <| .p (.pickE Z Z h6 Z) <| .nil <| .ws 3 [(0, .ro 3 (rowsOf Stp.cells p)), (1, .rp (encX b) 0), (2, .rp (encX o) 0), (3, .rp (encX t) 0), (4, .P 0), (5, .P 1), (6, .rp [.ro 1 (rowsOf boolCells tk)] 0), (62, .B (decide (b.kind = 7)))] [(0, .box [.fn 56 [.P 0, .P 1, .rp [.ro 1 (rowsOf boolCells tk)] 0]]), (1, .box [.sl 2 4 0 fd.length]), (2, .arr false 4 (rowsOf Cft.cells fd))] ?_
  by_cases p9 : b.kind = 7
  have h8 := decide_eq_true p9
  refine .cT Z h8 <| .seq <| .region <| .p (.build Z zt35 Z pl35 Z Z) <| .c1 (.alloc 3 Z zt35 Z) <| .c0 (.store sz35 Z Z Z Z (notup Z) Z Z (nl Z)) <| .nil ?_
  obtain ⟨hkeys, hk9⟩ := hk.2.2.2.2 _ _ _ rfl rfl rfl (by assumption) (by assumption) (by assumption)
  have hkl := keysM_len b o t
  have hBB : (foldK (atM tk d) p b o t (keysM b o t) [] fd).2.length ≤ 100000 := by simp only [atM] at hB; rw [if_neg (by simp_all [eqO]), if_neg (by simp_all [eqO]), if_pos ⟨by assumption, by assumption, by assumption⟩] at hB; exact hB
  refine .ws 4 [(0, .ro 3 (rowsOf Stp.cells p)), (1, .rp (encX b) 0), (2, .rp (encX o) 0), (3, .rp (encX t) 0), (4, .P 0), (12, .P 3)] [(0, .box [.fn 56 [.P 0, .P 1, .rp [.ro 1 (rowsOf boolCells tk)] 0]]), (1, .box [.sl 2 4 0 fd.length]), (2, .arr false 4 (rowsOf Cft.cells fd)), (3, .box [.I 7, .B false, .B false, .S ⟨#[]⟩, .I 0, .I 0, .I 0, .I 0, .I 0, .S ⟨#[]⟩, .O, .O, .O])] <| .seq <| .seq <| .region <| .p (.move Z Z) <| .p (.move Z Z) <| .p (.move Z Z) <| .p (.call0 [] false (keys58_spec b o t hkeys) Tryz.func58 (hv := by exact (.same Z))) ?_
  refine .p (.len_ro (n := (keysM b o t).length) ut113 Z (.inl Z) (by simp)) ?_
  refine .p (.move Z Z) <| .nil <| .block <| .openCell 3 12 14 false ?_
  refine AWP.loop (G := { g : Nat × List Fl × List Cft // g.1 ≤ (keysM b o t).length ∧ foldK (atM tk d) p b o t ((keysM b o t).drop g.1) g.2.1 g.2.2 = foldK (atM tk d) p b o t (keysM b o t) [] fd ∧ (g.2.1).length ≤ g.1 }) (fun g => envOf [(0, .ro 3 (rowsOf Stp.cells p)), (1, .rp (encX b) 0), (2, .rp (encX o) 0), (3, .rp (encX t) 0), (4, .P 0), (12, .P 3), (67, .ro 1 (rowsOf strCells (keysM b o t))), (68, .N ((keysM b o t).length)), (69, .N g.1.1)]) (fun g => hpOf [(0, .box [.fn 56 [.P 0, .P 1, .rp [.ro 1 (rowsOf boolCells tk)] 0]]), (1, .box [.sl 91 4 0 g.1.2.2.length]), (3, .box [.I 7, .B false, .B false, .S ⟨#[]⟩, .I 0, .I 0, .I 0, .I 0, .I 0, .S ⟨#[]⟩, .O, .O, .sl 90 14 0 g.1.2.1.length]), (90, .arr false 14 (encF g.1.2.1)), (91, .arr false 4 (rowsOf Cft.cells g.1.2.2))]) (fun _ => 92) (fun g => (keysM b o t).length - g.1.1) ⟨(0, [], fd), (by dsimp only; exact ⟨Nat.zero_le _, rfl, by simp⟩)⟩ (ALe.of false [(90, 4), (91, 2)] 92
      _
      _
      (.cons rfl (.boxL (.cons (.fnL (.cons .ptrR (.cons .ptrR (.cons (.same rfl) .nil)))) .nil)) (.cons rfl (.boxL (.cons .slR .nil)) (.cons rfl (.boxL (.cons (.same rfl) (.cons (.same rfl) (.cons (.same rfl) (.cons (.same rfl) (.cons (.same rfl) (.cons (.same rfl) (.cons (.same rfl) (.cons (.same rfl) (.cons (.same rfl) (.cons (.same rfl) (.cons (.same rfl) (.cons (.same rfl) (.cons (.slE (by rfl)) .nil)))))))))))))) (.cons rfl (.arr (by rfl)) (.cons rfl (.arr rfl) .nil)))))
      (.s (.s (.s (.s (.cons rfl .ptrR (.cons rfl .ptrR (.s (.s (.s .nil)))))))))
      (by simp)) ?_
  rintro ⟨⟨i, fs, fd1⟩, hg⟩
  try dsimp only at hg
  obtain ⟨g1, g2, g3⟩ := hg
  refine .ws 92 [(0, .ro 3 (rowsOf Stp.cells p)), (1, .rp (encX b) 0), (2, .rp (encX o) 0), (3, .rp (encX t) 0), (4, .P 0), (12, .P 3), (67, .ro 1 (rowsOf strCells (keysM b o t))), (68, .N ((keysM b o t).length)), (69, .N i)] [(0, .box [.fn 56 [.P 0, .P 1, .rp [.ro 1 (rowsOf boolCells tk)] 0]]), (1, .box [.sl 91 4 0 fd1.length]), (3, .box [.I 7, .B false, .B false, .S ⟨#[]⟩, .I 0, .I 0, .I 0, .I 0, .I 0, .S ⟨#[]⟩, .O, .O, .sl 90 14 0 fs.length]), (90, .arr false 14 (encF fs)), (91, .arr false 4 (rowsOf Cft.cells fd1))] <| .seq <| .region <| .p (.ilss Z Z Z) <| .nil <| .seq ?_
  by_cases p11 : ((i : Nat) : Int) < (((keysM b o t).length : Nat) : Int)
  have h10 := decide_eq_true p11
  refine .cT Z h10 <| .skip <| .seq <| .block <| .seq <| .region <| .p (.iaddr_ro (row := [.S (nthG (keysM b o t) i)]) ut113 sz9 Z Z Z Z (rows_nth (f := strCells) (by omega))) ?_
  refine .p (.rload1 ag9 Z Z Z) <| .p (.assign Z Z) <| .nil <| .seq <| .region_p fol an56_10 (by kernel_rfl) Z ?_
  refine .p [0] (.load1 ag111 Z Z Z Z) <| .p [] (.move Z Z) <| .p [] (.move Z Z) <| .p [] (.call0 [] false (Key_spec (nthG (keysM b o t) i)) Tryz.func59 (hv := by exact (.same Z))) ?_
  refine .c 93 [] (.buildSlice 92 true [[.B false, .S (nthG (keysM b o t) i), .I 0]] ut76 sz75 zt75 Z Z (by decide) (by decide) Z Z Z Z Z Z Z) ?_
  refine .p [92] (.call0 [] true (Join_spec p [⟨false, (nthG (keysM b o t) i), 0⟩] (by omega) (by simp)) Tryz.func41 (hv := by exact (.cons (.same Z) (.cons (.bslR (els := [[.B false, .S (nthG (keysM b o t) i), .I 0]]) (by simp) Z) .nil)))) ?_
  refine .p [] (.move Z Z) <| .p [] (.move Z Z) ?_
  rcases Bool.eq_false_or_eq_true (fieldM (nthG (keysM b o t) i) b.fields).isSome with h12 | h12
  refine .p [] (.call0 [] false (mfieldY_spec b (nthG (keysM b o t) i) hfb (by assumption) h12) Tryz.func29 (hv := by exact (.same Z))) ?_
  refine .p [] (.move Z Z) <| .p [] (.move Z Z) ?_
  rcases Bool.eq_false_or_eq_true (fieldM (nthG (keysM b o t) i) o.fields).isSome with h13 | h13
  refine .p [] (.call0 [] false (mfieldY_spec o (nthG (keysM b o t) i) hfo (by assumption) h13) Tryz.func29 (hv := by exact (.same Z))) ?_
  refine .p [] (.move Z Z) <| .p [] (.move Z Z) ?_
  rcases Bool.eq_false_or_eq_true (fieldM (nthG (keysM b o t) i) t.fields).isSome with h14 | h14
  refine .p [] (.call0 [] false (mfieldY_spec t (nthG (keysM b o t) i) hft (by assumption) h14) Tryz.func29 (hv := by exact (.same Z))) ?_
  rcases Bool.eq_false_or_eq_true (atM tk d (p ++ [⟨false, (nthG (keysM b o t) i), 0⟩]) (some ((fieldM (nthG (keysM b o t) i) b.fields).getD T.nul)) (some ((fieldM (nthG (keysM b o t) i) o.fields).getD T.nul)) (some ((fieldM (nthG (keysM b o t) i) t.fields).getD T.nul)) fd1).1.isSome with h15 | h15
  refine .c 94 [0, 1, 91] (.callN [0, 1, 91, 93] [93] false (at_Y ih (p ++ [⟨false, (nthG (keysM b o t) i), 0⟩]) (some ((fieldM (nthG (keysM b o t) i) b.fields).getD T.nul)) (some ((fieldM (nthG (keysM b o t) i) o.fields).getD T.nul)) (some ((fieldM (nthG (keysM b o t) i) t.fields).getD T.nul)) fd1 (by have h9 := hk9 (nthG (keysM b o t) i); rw [← some_getD (d := T.nul) h12, ← some_getD (d := T.nul) h13, ← some_getD (d := T.nul) h14] at h9; exact h9) (by simp; omega) (by have h9 := foldK_bd (atM_grows tk d) (p := p) (b := b) (o := o) (t := t) (ks := keysM b o t) (i := i) (N := 100000) (fs := fs) (fd := fd1) (by omega) (by rw [g2]; exact hBB); rw [← some_getD (d := T.nul) h12, ← some_getD (d := T.nul) h13, ← some_getD (d := T.nul) h14] at h9; exact h9) h15) Tryz.func56 (hc := by exact (.cons (.cons (.cons .nil Z Z Z (.boxL (.cons (.fnL (.cons (.ptr (nl Z) Z) (.cons (.ptr (nl Z) Z) (.cons (.same Z) .nil)))) .nil))) Z Z Z (.boxL (.cons (.sl (nl Z) Z Z) .nil))) Z Z Z (.arrE Z))) (hv := by exact (.cons .fr (.cons (.same Z) (.cons (.same Z) (.cons (.same Z) (.cons (.ptr (nl Z) Z) (.cons (.ptr (nl Z) Z) (.cons (.same Z) .nil))))))))) ?_
  refine .p [] (.assign Z Z) <| .nil (by kernel_rfl) ?_
  refine .seq <| .region <| .p (.move Z Z) <| .p (.pneq ut86 Z Z Z Z) <| .nil <| .cT Z Z <| .region_p fol an56_12 (by kernel_rfl) Z ?_
  refine .p [] (.faddr fo35_7 Z Z) <| .p [3] (.load1 ag33 Z Z Z Z) <| .p [] (.move Z Z) <| .p [] (.move Z Z) <| .p [] (.nilCheck Z Z Z) <| .p [] (.rloadN ag35 sz35 Z Z (nl Z)) <| .p [] (.call0 [] false (Copy_spec ((atM tk d (p ++ [⟨false, (nthG (keysM b o t) i), 0⟩]) (some ((fieldM (nthG (keysM b o t) i) b.fields).getD T.nul)) (some ((fieldM (nthG (keysM b o t) i) o.fields).getD T.nul)) (some ((fieldM (nthG (keysM b o t) i) t.fields).getD T.nul)) fd1).1.getD T.nul) (T.ok_le (atM_ok tk d _ _ _ _ _ (by have h9 := hk9 (nthG (keysM b o t) i); rw [← some_getD (d := T.nul) h12, ← some_getD (d := T.nul) h13, ← some_getD (d := T.nul) h14] at h9; exact h9) _ (some_getD ‹_›).symm) (by omega))) Tryz.func27 (hv := by exact (.cons (.aggL (.same Z)) .nil))) ?_
  refine .p [] (.build Z zt72 Z pl72 Z Z) <| .p [90] (.len_sl ut33 Z Z (Option.some_ne_none _)) <| .c 95 [] (.buildSlice 94 true [[.S ⟨#[]⟩, .I 0, .B false, .B false, .S ⟨#[]⟩, .I 0, .I 0, .I 0, .I 0, .I 0, .S ⟨#[]⟩, .O, .O, .O]] ut33 sz72 zt72 Z Z (by decide) (by decide) Z Z Z Z Z Z Z) ?_
  refine .c 96 [90, 94] (.appendN (n2 := (fs.length + 1)) 95 el33 Z Z Z (by first | rfl | (simp; done) | (simp; omega)) (.sl Z Z (nl Z) (by simp)) (by simp only [rowsOf, encF_len, List.length_map, List.length_append, List.length_cons, List.length_nil, List.length_take, List.length_drop]; omega) (by simp only [rowsOf, encF_len, List.length_map, List.length_append, List.length_cons, List.length_nil, List.length_take, List.length_drop]; omega) (by first | rfl | (simp; done) | (simp; omega))) ?_
  refine .p [95] (.iaddr_sl0 ut33 sz72 Z Z Z Z (by omega) (Option.some_ne_none _)) ?_
  refine .c 96 [95] (.astoreE (row := [.S ⟨#[]⟩, .I 0, .B false, .B false, .S ⟨#[]⟩, .I 0, .I 0, .I 0, .I 0, .I 0, .S ⟨#[]⟩, .O, .O, .O]) sz72 Z Z Z Z (snoc_at (by simp)) (notup Z) Z Z (nl Z) (snoc_set (by simp))) ?_
  refine .p [] (.faddr fo35_7 Z Z) <| .c 96 [3] (.store sz33 Z Z Z Z (notup Z) Z Z (nl Z)) <| .nil (by kernel_rfl) ?_
  refine .region <| .p (.iadd (r := (((i + 1) : Nat) : Int)) Z Z Z (wi (by omega) (by first | rfl | omega | (simp; done)))) ?_
  refine .p (.move Z Z) <| .nil ?_
  have hq : (i + 1) ≤ (keysM b o t).length ∧ foldK (atM tk d) p b o t ((keysM b o t).drop (i + 1)) (fs ++ [((nthG (keysM b o t) i), ((atM tk d (p ++ [⟨false, (nthG (keysM b o t) i), 0⟩]) (some ((fieldM (nthG (keysM b o t) i) b.fields).getD T.nul)) (some ((fieldM (nthG (keysM b o t) i) o.fields).getD T.nul)) (some ((fieldM (nthG (keysM b o t) i) t.fields).getD T.nul)) fd1).1.getD T.nul))]) (atM tk d (p ++ [⟨false, (nthG (keysM b o t) i), 0⟩]) (some ((fieldM (nthG (keysM b o t) i) b.fields).getD T.nul)) (some ((fieldM (nthG (keysM b o t) i) o.fields).getD T.nul)) (some ((fieldM (nthG (keysM b o t) i) t.fields).getD T.nul)) fd1).2 = foldK (atM tk d) p b o t (keysM b o t) [] fd ∧ ((fs ++ [((nthG (keysM b o t) i), ((atM tk d (p ++ [⟨false, (nthG (keysM b o t) i), 0⟩]) (some ((fieldM (nthG (keysM b o t) i) b.fields).getD T.nul)) (some ((fieldM (nthG (keysM b o t) i) o.fields).getD T.nul)) (some ((fieldM (nthG (keysM b o t) i) t.fields).getD T.nul)) fd1).1.getD T.nul))])).length ≤ (i + 1) := by
    refine ⟨by omega, ?_, by first | omega | (simp; omega)⟩
    rw [foldK_nth (by omega)] at g2
    rw [← some_getD (d := T.nul) h12, ← some_getD (d := T.nul) h13, ← some_getD (d := T.nul) h14] at g2
    unfold keepK at g2
    rw [if_pos h15] at g2
    exact g2
  exact ⟨⟨((i + 1), (fs ++ [((nthG (keysM b o t) i), ((atM tk d (p ++ [⟨false, (nthG (keysM b o t) i), 0⟩]) (some ((fieldM (nthG (keysM b o t) i) b.fields).getD T.nul)) (some ((fieldM (nthG (keysM b o t) i) o.fields).getD T.nul)) (some ((fieldM (nthG (keysM b o t) i) t.fields).getD T.nul)) fd1).1.getD T.nul))]), (atM tk d (p ++ [⟨false, (nthG (keysM b o t) i), 0⟩]) (some ((fieldM (nthG (keysM b o t) i) b.fields).getD T.nul)) (some ((fieldM (nthG (keysM b o t) i) o.fields).getD T.nul)) (some ((fieldM (nthG (keysM b o t) i) t.fields).getD T.nul)) fd1).2), hq⟩, (by simp; omega), (ALe.of false [(90, 95), (91, 93)] 92
      _
      _
      (.cons rfl (.boxL (.cons (.fnL (.cons .ptrR (.cons .ptrR (.cons (.same rfl) .nil)))) .nil)) (.cons rfl (.boxL (.cons .slR .nil)) (.cons rfl (.boxL (.cons (.same rfl) (.cons (.same rfl) (.cons (.same rfl) (.cons (.same rfl) (.cons (.same rfl) (.cons (.same rfl) (.cons (.same rfl) (.cons (.same rfl) (.cons (.same rfl) (.cons (.same rfl) (.cons (.same rfl) (.cons (.same rfl) (.cons (.slE (by first | rfl | (simp; done))) .nil)))))))))))))) (.cons rfl (.arr (by exact (encF_snoc fs ((nthG (keysM b o t) i), ((atM tk d (p ++ [⟨false, (nthG (keysM b o t) i), 0⟩]) (some ((fieldM (nthG (keysM b o t) i) b.fields).getD T.nul)) (some ((fieldM (nthG (keysM b o t) i) o.fields).getD T.nul)) (some ((fieldM (nthG (keysM b o t) i) t.fields).getD T.nul)) fd1).1.getD T.nul))))) (.cons rfl (.arr rfl) .nil)))))
      (.s (.s (.s (.s (.cons rfl .ptrR (.cons rfl .ptrR (.s (.s (.s .nil)))))))))
      (by simp))⟩
  refine .c 94 [0, 1, 91] (.callN [0, 1, 91, 93] [93] false (at_N ih (p ++ [⟨false, (nthG (keysM b o t) i), 0⟩]) (some ((fieldM (nthG (keysM b o t) i) b.fields).getD T.nul)) (some ((fieldM (nthG (keysM b o t) i) o.fields).getD T.nul)) (some ((fieldM (nthG (keysM b o t) i) t.fields).getD T.nul)) fd1 (by have h9 := hk9 (nthG (keysM b o t) i); rw [← some_getD (d := T.nul) h12, ← some_getD (d := T.nul) h13, ← some_getD (d := T.nul) h14] at h9; exact h9) (by simp; omega) (by have h9 := foldK_bd (atM_grows tk d) (p := p) (b := b) (o := o) (t := t) (ks := keysM b o t) (i := i) (N := 100000) (fs := fs) (fd := fd1) (by omega) (by rw [g2]; exact hBB); rw [← some_getD (d := T.nul) h12, ← some_getD (d := T.nul) h13, ← some_getD (d := T.nul) h14] at h9; exact h9) h15) Tryz.func56 (hc := by exact (.cons (.cons (.cons .nil Z Z Z (.boxL (.cons (.fnL (.cons (.ptr (nl Z) Z) (.cons (.ptr (nl Z) Z) (.cons (.same Z) .nil)))) .nil))) Z Z Z (.boxL (.cons (.sl (nl Z) Z Z) .nil))) Z Z Z (.arrE Z))) (hv := by exact (.cons .fr (.cons (.same Z) (.cons (.same Z) (.cons (.same Z) (.cons (.ptr (nl Z) Z) (.cons (.ptr (nl Z) Z) (.cons (.same Z) .nil))))))))) ?_
  refine .p [] (.assign Z Z) <| .nil (by kernel_rfl) ?_
  refine .seq <| .region <| .p (.move Z Z) <| .p (.pneq0 ut86 Z Z Z) <| .nil <| .cF Z Z <| .skip <| .region <| .p (.iadd (r := (((i + 1) : Nat) : Int)) Z Z Z (wi (by omega) (by first | rfl | omega | (simp; done)))) ?_
  refine .p (.move Z Z) <| .nil ?_
  have hq : (i + 1) ≤ (keysM b o t).length ∧ foldK (atM tk d) p b o t ((keysM b o t).drop (i + 1)) fs (atM tk d (p ++ [⟨false, (nthG (keysM b o t) i), 0⟩]) (some ((fieldM (nthG (keysM b o t) i) b.fields).getD T.nul)) (some ((fieldM (nthG (keysM b o t) i) o.fields).getD T.nul)) (some ((fieldM (nthG (keysM b o t) i) t.fields).getD T.nul)) fd1).2 = foldK (atM tk d) p b o t (keysM b o t) [] fd ∧ (fs).length ≤ (i + 1) := by
    refine ⟨by omega, ?_, by first | omega | (simp; omega)⟩
    rw [foldK_nth (by omega)] at g2
    rw [← some_getD (d := T.nul) h12, ← some_getD (d := T.nul) h13, ← some_getD (d := T.nul) h14] at g2
    unfold keepK at g2
    rw [if_neg (by rw [h15]; exact Bool.false_ne_true)] at g2
    exact g2
  exact ⟨⟨((i + 1), fs, (atM tk d (p ++ [⟨false, (nthG (keysM b o t) i), 0⟩]) (some ((fieldM (nthG (keysM b o t) i) b.fields).getD T.nul)) (some ((fieldM (nthG (keysM b o t) i) o.fields).getD T.nul)) (some ((fieldM (nthG (keysM b o t) i) t.fields).getD T.nul)) fd1).2), hq⟩, (by simp; omega), (ALe.of false [(91, 93)] 92
      _
      _
      (.cons rfl (.boxL (.cons (.fnL (.cons .ptrR (.cons .ptrR (.cons (.same rfl) .nil)))) .nil)) (.cons rfl (.boxL (.cons .slR .nil)) (.cons rfl (.boxL (.cons (.same rfl) (.cons (.same rfl) (.cons (.same rfl) (.cons (.same rfl) (.cons (.same rfl) (.cons (.same rfl) (.cons (.same rfl) (.cons (.same rfl) (.cons (.same rfl) (.cons (.same rfl) (.cons (.same rfl) (.cons (.same rfl) (.cons .slR .nil)))))))))))))) (.cons rfl (.arr rfl) (.cons rfl (.arr rfl) .nil)))))
      (.s (.s (.s (.s (.cons rfl .ptrR (.cons rfl .ptrR (.s (.s (.s .nil)))))))))
      (by simp))⟩
  refine .p [] (.call0 [] false (mfieldN_spec t (nthG (keysM b o t) i) hft (by assumption) h14) Tryz.func29 (hv := by exact (.same Z))) ?_
  rcases Bool.eq_false_or_eq_true (atM tk d (p ++ [⟨false, (nthG (keysM b o t) i), 0⟩]) (some ((fieldM (nthG (keysM b o t) i) b.fields).getD T.nul)) (some ((fieldM (nthG (keysM b o t) i) o.fields).getD T.nul)) none fd1).1.isSome with h16 | h16
  refine .c 94 [0, 1, 91] (.callN [0, 1, 91, 93] [93] false (at_Y ih (p ++ [⟨false, (nthG (keysM b o t) i), 0⟩]) (some ((fieldM (nthG (keysM b o t) i) b.fields).getD T.nul)) (some ((fieldM (nthG (keysM b o t) i) o.fields).getD T.nul)) none fd1 (by have h9 := hk9 (nthG (keysM b o t) i); rw [← some_getD (d := T.nul) h12, ← some_getD (d := T.nul) h13, none_of h14] at h9; exact h9) (by simp; omega) (by have h9 := foldK_bd (atM_grows tk d) (p := p) (b := b) (o := o) (t := t) (ks := keysM b o t) (i := i) (N := 100000) (fs := fs) (fd := fd1) (by omega) (by rw [g2]; exact hBB); rw [← some_getD (d := T.nul) h12, ← some_getD (d := T.nul) h13, none_of h14] at h9; exact h9) h16) Tryz.func56 (hc := by exact (.cons (.cons (.cons .nil Z Z Z (.boxL (.cons (.fnL (.cons (.ptr (nl Z) Z) (.cons (.ptr (nl Z) Z) (.cons (.same Z) .nil)))) .nil))) Z Z Z (.boxL (.cons (.sl (nl Z) Z Z) .nil))) Z Z Z (.arrE Z))) (hv := by exact (.cons .fr (.cons (.same Z) (.cons (.same Z) (.cons (.same Z) (.cons (.ptr (nl Z) Z) (.cons (.ptr (nl Z) Z) (.cons (.same Z) .nil))))))))) ?_
  refine .p [] (.assign Z Z) <| .nil (by kernel_rfl) ?_
  refine .seq <| .region <| .p (.move Z Z) <| .p (.pneq ut86 Z Z Z Z) <| .nil <| .cT Z Z <| .region_p fol an56_12 (by kernel_rfl) Z ?_
  refine .p [] (.faddr fo35_7 Z Z) <| .p [3] (.load1 ag33 Z Z Z Z) <| .p [] (.move Z Z) <| .p [] (.move Z Z) <| .p [] (.nilCheck Z Z Z) <| .p [] (.rloadN ag35 sz35 Z Z (nl Z)) <| .p [] (.call0 [] false (Copy_spec ((atM tk d (p ++ [⟨false, (nthG (keysM b o t) i), 0⟩]) (some ((fieldM (nthG (keysM b o t) i) b.fields).getD T.nul)) (some ((fieldM (nthG (keysM b o t) i) o.fields).getD T.nul)) none fd1).1.getD T.nul) (T.ok_le (atM_ok tk d _ _ _ _ _ (by have h9 := hk9 (nthG (keysM b o t) i); rw [← some_getD (d := T.nul) h12, ← some_getD (d := T.nul) h13, none_of h14] at h9; exact h9) _ (some_getD ‹_›).symm) (by omega))) Tryz.func27 (hv := by exact (.cons (.aggL (.same Z)) .nil))) ?_
  refine .p [] (.build Z zt72 Z pl72 Z Z) <| .p [90] (.len_sl ut33 Z Z (Option.some_ne_none _)) <| .c 95 [] (.buildSlice 94 true [[.S ⟨#[]⟩, .I 0, .B false, .B false, .S ⟨#[]⟩, .I 0, .I 0, .I 0, .I 0, .I 0, .S ⟨#[]⟩, .O, .O, .O]] ut33 sz72 zt72 Z Z (by decide) (by decide) Z Z Z Z Z Z Z) ?_
  refine .c 96 [90, 94] (.appendN (n2 := (fs.length + 1)) 95 el33 Z Z Z (by first | rfl | (simp; done) | (simp; omega)) (.sl Z Z (nl Z) (by simp)) (by simp only [rowsOf, encF_len, List.length_map, List.length_append, List.length_cons, List.length_nil, List.length_take, List.length_drop]; omega) (by simp only [rowsOf, encF_len, List.length_map, List.length_append, List.length_cons, List.length_nil, List.length_take, List.length_drop]; omega) (by first | rfl | (simp; done) | (simp; omega))) ?_
  refine .p [95] (.iaddr_sl0 ut33 sz72 Z Z Z Z (by omega) (Option.some_ne_none _)) ?_
  refine .c 96 [95] (.astoreE (row := [.S ⟨#[]⟩, .I 0, .B false, .B false, .S ⟨#[]⟩, .I 0, .I 0, .I 0, .I 0, .I 0, .S ⟨#[]⟩, .O, .O, .O]) sz72 Z Z Z Z (snoc_at (by simp)) (notup Z) Z Z (nl Z) (snoc_set (by simp))) ?_
  refine .p [] (.faddr fo35_7 Z Z) <| .c 96 [3] (.store sz33 Z Z Z Z (notup Z) Z Z (nl Z)) <| .nil (by kernel_rfl) ?_
  refine .region <| .p (.iadd (r := (((i + 1) : Nat) : Int)) Z Z Z (wi (by omega) (by first | rfl | omega | (simp; done)))) ?_
  refine .p (.move Z Z) <| .nil ?_
  have hq : (i + 1) ≤ (keysM b o t).length ∧ foldK (atM tk d) p b o t ((keysM b o t).drop (i + 1)) (fs ++ [((nthG (keysM b o t) i), ((atM tk d (p ++ [⟨false, (nthG (keysM b o t) i), 0⟩]) (some ((fieldM (nthG (keysM b o t) i) b.fields).getD T.nul)) (some ((fieldM (nthG (keysM b o t) i) o.fields).getD T.nul)) none fd1).1.getD T.nul))]) (atM tk d (p ++ [⟨false, (nthG (keysM b o t) i), 0⟩]) (some ((fieldM (nthG (keysM b o t) i) b.fields).getD T.nul)) (some ((fieldM (nthG (keysM b o t) i) o.fields).getD T.nul)) none fd1).2 = foldK (atM tk d) p b o t (keysM b o t) [] fd ∧ ((fs ++ [((nthG (keysM b o t) i), ((atM tk d (p ++ [⟨false, (nthG (keysM b o t) i), 0⟩]) (some ((fieldM (nthG (keysM b o t) i) b.fields).getD T.nul)) (some ((fieldM (nthG (keysM b o t) i) o.fields).getD T.nul)) none fd1).1.getD T.nul))])).length ≤ (i + 1) := by
    refine ⟨by omega, ?_, by first | omega | (simp; omega)⟩
    rw [foldK_nth (by omega)] at g2
    rw [← some_getD (d := T.nul) h12, ← some_getD (d := T.nul) h13, none_of h14] at g2
    unfold keepK at g2
    rw [if_pos h16] at g2
    exact g2
  exact ⟨⟨((i + 1), (fs ++ [((nthG (keysM b o t) i), ((atM tk d (p ++ [⟨false, (nthG (keysM b o t) i), 0⟩]) (some ((fieldM (nthG (keysM b o t) i) b.fields).getD T.nul)) (some ((fieldM (nthG (keysM b o t) i) o.fields).getD T.nul)) none fd1).1.getD T.nul))]), (atM tk d (p ++ [⟨false, (nthG (keysM b o t) i), 0⟩]) (some ((fieldM (nthG (keysM b o t) i) b.fields).getD T.nul)) (some ((fieldM (nthG (keysM b o t) i) o.fields).getD T.nul)) none fd1).2), hq⟩, (by simp; omega), (ALe.of false [(90, 95), (91, 93)] 92
      _
      _
      (.cons rfl (.boxL (.cons (.fnL (.cons .ptrR (.cons .ptrR (.cons (.same rfl) .nil)))) .nil)) (.cons rfl (.boxL (.cons .slR .nil)) (.cons rfl (.boxL (.cons (.same rfl) (.cons (.same rfl) (.cons (.same rfl) (.cons (.same rfl) (.cons (.same rfl) (.cons (.same rfl) (.cons (.same rfl) (.cons (.same rfl) (.cons (.same rfl) (.cons (.same rfl) (.cons (.same rfl) (.cons (.same rfl) (.cons (.slE (by first | rfl | (simp; done))) .nil)))))))))))))) (.cons rfl (.arr (by exact (encF_snoc fs ((nthG (keysM b o t) i), ((atM tk d (p ++ [⟨false, (nthG (keysM b o t) i), 0⟩]) (some ((fieldM (nthG (keysM b o t) i) b.fields).getD T.nul)) (some ((fieldM (nthG (keysM b o t) i) o.fields).getD T.nul)) none fd1).1.getD T.nul))))) (.cons rfl (.arr rfl) .nil)))))
      (.s (.s (.s (.s (.cons rfl .ptrR (.cons rfl .ptrR (.s (.s (.s .nil)))))))))
      (by simp))⟩
  refine .c 94 [0, 1, 91] (.callN [0, 1, 91, 93] [93] false (at_N ih (p ++ [⟨false, (nthG (keysM b o t) i), 0⟩]) (some ((fieldM (nthG (keysM b o t) i) b.fields).getD T.nul)) (some ((fieldM (nthG (keysM b o t) i) o.fields).getD T.nul)) none fd1 (by have h9 := hk9 (nthG (keysM b o t) i); rw [← some_getD (d := T.nul) h12, ← some_getD (d := T.nul) h13, none_of h14] at h9; exact h9) (by simp; omega) (by have h9 := foldK_bd (atM_grows tk d) (p := p) (b := b) (o := o) (t := t) (ks := keysM b o t) (i := i) (N := 100000) (fs := fs) (fd := fd1) (by omega) (by rw [g2]; exact hBB); rw [← some_getD (d := T.nul) h12, ← some_getD (d := T.nul) h13, none_of h14] at h9; exact h9) h16) Tryz.func56 (hc := by exact (.cons (.cons (.cons .nil Z Z Z (.boxL (.cons (.fnL (.cons (.ptr (nl Z) Z) (.cons (.ptr (nl Z) Z) (.cons (.same Z) .nil)))) .nil))) Z Z Z (.boxL (.cons (.sl (nl Z) Z Z) .nil))) Z Z Z (.arrE Z))) (hv := by exact (.cons .fr (.cons (.same Z) (.cons (.same Z) (.cons (.same Z) (.cons (.ptr (nl Z) Z) (.cons (.ptr (nl Z) Z) (.cons (.same Z) .nil))))))))) ?_
  refine .p [] (.assign Z Z) <| .nil (by kernel_rfl) ?_
  refine .seq <| .region <| .p (.move Z Z) <| .p (.pneq0 ut86 Z Z Z) <| .nil <| .cF Z Z <| .skip <| .region <| .p (.iadd (r := (((i + 1) : Nat) : Int)) Z Z Z (wi (by omega) (by first | rfl | omega | (simp; done)))) ?_
  refine .p (.move Z Z) <| .nil ?_
  have hq : (i + 1) ≤ (keysM b o t).length ∧ foldK (atM tk d) p b o t ((keysM b o t).drop (i + 1)) fs (atM tk d (p ++ [⟨false, (nthG (keysM b o t) i), 0⟩]) (some ((fieldM (nthG (keysM b o t) i) b.fields).getD T.nul)) (some ((fieldM (nthG (keysM b o t) i) o.fields).getD T.nul)) none fd1).2 = foldK (atM tk d) p b o t (keysM b o t) [] fd ∧ (fs).length ≤ (i + 1) := by
    refine ⟨by omega, ?_, by first | omega | (simp; omega)⟩
    rw [foldK_nth (by omega)] at g2
    rw [← some_getD (d := T.nul) h12, ← some_getD (d := T.nul) h13, none_of h14] at g2
    unfold keepK at g2
    rw [if_neg (by rw [h16]; exact Bool.false_ne_true)] at g2
    exact g2
  exact ⟨⟨((i + 1), fs, (atM tk d (p ++ [⟨false, (nthG (keysM b o t) i), 0⟩]) (some ((fieldM (nthG (keysM b o t) i) b.fields).getD T.nul)) (some ((fieldM (nthG (keysM b o t) i) o.fields).getD T.nul)) none fd1).2), hq⟩, (by simp; omega), (ALe.of false [(91, 93)] 92
      _
      _
      (.cons rfl (.boxL (.cons (.fnL (.cons .ptrR (.cons .ptrR (.cons (.same rfl) .nil)))) .nil)) (.cons rfl (.boxL (.cons .slR .nil)) (.cons rfl (.boxL (.cons (.same rfl) (.cons (.same rfl) (.cons (.same rfl) (.cons (.same rfl) (.cons (.same rfl) (.cons (.same rfl) (.cons (.same rfl) (.cons (.same rfl) (.cons (.same rfl) (.cons (.same rfl) (.cons (.same rfl) (.cons (.same rfl) (.cons .slR .nil)))))))))))))) (.cons rfl (.arr rfl) (.cons rfl (.arr rfl) .nil)))))
      (.s (.s (.s (.s (.cons rfl .ptrR (.cons rfl .ptrR (.s (.s (.s .nil)))))))))
      (by simp))⟩
  refine .p [] (.call0 [] false (mfieldN_spec o (nthG (keysM b o t) i) hfo (by assumption) h13) Tryz.func29 (hv := by exact (.same Z))) ?_
  refine .p [] (.move Z Z) <| .p [] (.move Z Z) ?_
  rcases Bool.eq_false_or_eq_true (fieldM (nthG (keysM b o t) i) t.fields).isSome with h17 | h17
  refine .p [] (.call0 [] false (mfieldY_spec t (nthG (keysM b o t) i) hft (by assumption) h17) Tryz.func29 (hv := by exact (.same Z))) ?_
  rcases Bool.eq_false_or_eq_true (atM tk d (p ++ [⟨false, (nthG (keysM b o t) i), 0⟩]) (some ((fieldM (nthG (keysM b o t) i) b.fields).getD T.nul)) none (some ((fieldM (nthG (keysM b o t) i) t.fields).getD T.nul)) fd1).1.isSome with h18 | h18
  refine .c 94 [0, 1, 91] (.callN [0, 1, 91, 93] [93] false (at_Y ih (p ++ [⟨false, (nthG (keysM b o t) i), 0⟩]) (some ((fieldM (nthG (keysM b o t) i) b.fields).getD T.nul)) none (some ((fieldM (nthG (keysM b o t) i) t.fields).getD T.nul)) fd1 (by have h9 := hk9 (nthG (keysM b o t) i); rw [← some_getD (d := T.nul) h12, none_of h13, ← some_getD (d := T.nul) h17] at h9; exact h9) (by simp; omega) (by have h9 := foldK_bd (atM_grows tk d) (p := p) (b := b) (o := o) (t := t) (ks := keysM b o t) (i := i) (N := 100000) (fs := fs) (fd := fd1) (by omega) (by rw [g2]; exact hBB); rw [← some_getD (d := T.nul) h12, none_of h13, ← some_getD (d := T.nul) h17] at h9; exact h9) h18) Tryz.func56 (hc := by exact (.cons (.cons (.cons .nil Z Z Z (.boxL (.cons (.fnL (.cons (.ptr (nl Z) Z) (.cons (.ptr (nl Z) Z) (.cons (.same Z) .nil)))) .nil))) Z Z Z (.boxL (.cons (.sl (nl Z) Z Z) .nil))) Z Z Z (.arrE Z))) (hv := by exact (.cons .fr (.cons (.same Z) (.cons (.same Z) (.cons (.same Z) (.cons (.ptr (nl Z) Z) (.cons (.ptr (nl Z) Z) (.cons (.same Z) .nil))))))))) ?_
  refine .p [] (.assign Z Z) <| .nil (by kernel_rfl) ?_
  refine .seq <| .region <| .p (.move Z Z) <| .p (.pneq ut86 Z Z Z Z) <| .nil <| .cT Z Z <| .region_p fol an56_12 (by kernel_rfl) Z ?_
  refine .p [] (.faddr fo35_7 Z Z) <| .p [3] (.load1 ag33 Z Z Z Z) <| .p [] (.move Z Z) <| .p [] (.move Z Z) <| .p [] (.nilCheck Z Z Z) <| .p [] (.rloadN ag35 sz35 Z Z (nl Z)) <| .p [] (.call0 [] false (Copy_spec ((atM tk d (p ++ [⟨false, (nthG (keysM b o t) i), 0⟩]) (some ((fieldM (nthG (keysM b o t) i) b.fields).getD T.nul)) none (some ((fieldM (nthG (keysM b o t) i) t.fields).getD T.nul)) fd1).1.getD T.nul) (T.ok_le (atM_ok tk d _ _ _ _ _ (by have h9 := hk9 (nthG (keysM b o t) i); rw [← some_getD (d := T.nul) h12, none_of h13, ← some_getD (d := T.nul) h17] at h9; exact h9) _ (some_getD ‹_›).symm) (by omega))) Tryz.func27 (hv := by exact (.cons (.aggL (.same Z)) .nil))) ?_
  refine .p [] (.build Z zt72 Z pl72 Z Z) <| .p [90] (.len_sl ut33 Z Z (Option.some_ne_none _)) <| .c 95 [] (.buildSlice 94 true [[.S ⟨#[]⟩, .I 0, .B false, .B false, .S ⟨#[]⟩, .I 0, .I 0, .I 0, .I 0, .I 0, .S ⟨#[]⟩, .O, .O, .O]] ut33 sz72 zt72 Z Z (by decide) (by decide) Z Z Z Z Z Z Z) ?_
  refine .c 96 [90, 94] (.appendN (n2 := (fs.length + 1)) 95 el33 Z Z Z (by first | rfl | (simp; done) | (simp; omega)) (.sl Z Z (nl Z) (by simp)) (by simp only [rowsOf, encF_len, List.length_map, List.length_append, List.length_cons, List.length_nil, List.length_take, List.length_drop]; omega) (by simp only [rowsOf, encF_len, List.length_map, List.length_append, List.length_cons, List.length_nil, List.length_take, List.length_drop]; omega) (by first | rfl | (simp; done) | (simp; omega))) ?_
  refine .p [95] (.iaddr_sl0 ut33 sz72 Z Z Z Z (by omega) (Option.some_ne_none _)) ?_
  refine .c 96 [95] (.astoreE (row := [.S ⟨#[]⟩, .I 0, .B false, .B false, .S ⟨#[]⟩, .I 0, .I 0, .I 0, .I 0, .I 0, .S ⟨#[]⟩, .O, .O, .O]) sz72 Z Z Z Z (snoc_at (by simp)) (notup Z) Z Z (nl Z) (snoc_set (by simp))) ?_
  refine .p [] (.faddr fo35_7 Z Z) <| .c 96 [3] (.store sz33 Z Z Z Z (notup Z) Z Z (nl Z)) <| .nil (by kernel_rfl) ?_
  refine .region <| .p (.iadd (r := (((i + 1) : Nat) : Int)) Z Z Z (wi (by omega) (by first | rfl | omega | (simp; done)))) ?_
  refine .p (.move Z Z) <| .nil ?_
  have hq : (i + 1) ≤ (keysM b o t).length ∧ foldK (atM tk d) p b o t ((keysM b o t).drop (i + 1)) (fs ++ [((nthG (keysM b o t) i), ((atM tk d (p ++ [⟨false, (nthG (keysM b o t) i), 0⟩]) (some ((fieldM (nthG (keysM b o t) i) b.fields).getD T.nul)) none (some ((fieldM (nthG (keysM b o t) i) t.fields).getD T.nul)) fd1).1.getD T.nul))]) (atM tk d (p ++ [⟨false, (nthG (keysM b o t) i), 0⟩]) (some ((fieldM (nthG (keysM b o t) i) b.fields).getD T.nul)) none (some ((fieldM (nthG (keysM b o t) i) t.fields).getD T.nul)) fd1).2 = foldK (atM tk d) p b o t (keysM b o t) [] fd ∧ ((fs ++ [((nthG (keysM b o t) i), ((atM tk d (p ++ [⟨false, (nthG (keysM b o t) i), 0⟩]) (some ((fieldM (nthG (keysM b o t) i) b.fields).getD T.nul)) none (some ((fieldM (nthG (keysM b o t) i) t.fields).getD T.nul)) fd1).1.getD T.nul))])).length ≤ (i + 1) := by
    refine ⟨by omega, ?_, by first | omega | (simp; omega)⟩
    rw [foldK_nth (by omega)] at g2
    rw [← some_getD (d := T.nul) h12, none_of h13, ← some_getD (d := T.nul) h17] at g2
    unfold keepK at g2
    rw [if_pos h18] at g2
    exact g2
  exact ⟨⟨((i + 1), (fs ++ [((nthG (keysM b o t) i), ((atM tk d (p ++ [⟨false, (nthG (keysM b o t) i), 0⟩]) (some ((fieldM (nthG (keysM b o t) i) b.fields).getD T.nul)) none (some ((fieldM (nthG (keysM b o t) i) t.fields).getD T.nul)) fd1).1.getD T.nul))]), (atM tk d (p ++ [⟨false, (nthG (keysM b o t) i), 0⟩]) (some ((fieldM (nthG (keysM b o t) i) b.fields).getD T.nul)) none (some ((fieldM (nthG (keysM b o t) i) t.fields).getD T.nul)) fd1).2), hq⟩, (by simp; omega), (ALe.of false [(90, 95), (91, 93)] 92
      _
      _
      (.cons rfl (.boxL (.cons (.fnL (.cons .ptrR (.cons .ptrR (.cons (.same rfl) .nil)))) .nil)) (.cons rfl (.boxL (.cons .slR .nil)) (.cons rfl (.boxL (.cons (.same rfl) (.cons (.same rfl) (.cons (.same rfl) (.cons (.same rfl) (.cons (.same rfl) (.cons (.same rfl) (.cons (.same rfl) (.cons (.same rfl) (.cons (.same rfl) (.cons (.same rfl) (.cons (.same rfl) (.cons (.same rfl) (.cons (.slE (by first | rfl | (simp; done))) .nil)))))))))))))) (.cons rfl (.arr (by exact (encF_snoc fs ((nthG (keysM b o t) i), ((atM tk d (p ++ [⟨false, (nthG (keysM b o t) i), 0⟩]) (some ((fieldM (nthG (keysM b o t) i) b.fields).getD T.nul)) none (some ((fieldM (nthG (keysM b o t) i) t.fields).getD T.nul)) fd1).1.getD T.nul))))) (.cons rfl (.arr rfl) .nil)))))
      (.s (.s (.s (.s (.cons rfl .ptrR (.cons rfl .ptrR (.s (.s (.s .nil)))))))))
      (by simp))⟩
  refine .c 94 [0, 1, 91] (.callN [0, 1, 91, 93] [93] false (at_N ih (p ++ [⟨false, (nthG (keysM b o t) i), 0⟩]) (some ((fieldM (nthG (keysM b o t) i) b.fields).getD T.nul)) none (some ((fieldM (nthG (keysM b o t) i) t.fields).getD T.nul)) fd1 (by have h9 := hk9 (nthG (keysM b o t) i); rw [← some_getD (d := T.nul) h12, none_of h13, ← some_getD (d := T.nul) h17] at h9; exact h9) (by simp; omega) (by have h9 := foldK_bd (atM_grows tk d) (p := p) (b := b) (o := o) (t := t) (ks := keysM b o t) (i := i) (N := 100000) (fs := fs) (fd := fd1) (by omega) (by rw [g2]; exact hBB); rw [← some_getD (d := T.nul) h12, none_of h13, ← some_getD (d := T.nul) h17] at h9; exact h9) h18) Tryz.func56 (hc := by exact (.cons (.cons (.cons .nil Z Z Z (.boxL (.cons (.fnL (.cons (.ptr (nl Z) Z) (.cons (.ptr (nl Z) Z) (.cons (.same Z) .nil)))) .nil))) Z Z Z (.boxL (.cons (.sl (nl Z) Z Z) .nil))) Z Z Z (.arrE Z))) (hv := by exact (.cons .fr (.cons (.same Z) (.cons (.same Z) (.cons (.same Z) (.cons (.ptr (nl Z) Z) (.cons (.ptr (nl Z) Z) (.cons (.same Z) .nil))))))))) ?_
  refine .p [] (.assign Z Z) <| .nil (by kernel_rfl) ?_
  refine .seq <| .region <| .p (.move Z Z) <| .p (.pneq0 ut86 Z Z Z) <| .nil <| .cF Z Z <| .skip <| .region <| .p (.iadd (r := (((i + 1) : Nat) : Int)) Z Z Z (wi (by omega) (by first | rfl | omega | (simp; done)))) ?_
  refine .p (.move Z Z) <| .nil ?_
  have hq : (i + 1) ≤ (keysM b o t).length ∧ foldK (atM tk d) p b o t ((keysM b o t).drop (i + 1)) fs (atM tk d (p ++ [⟨false, (nthG (keysM b o t) i), 0⟩]) (some ((fieldM (nthG (keysM b o t) i) b.fields).getD T.nul)) none (some ((fieldM (nthG (keysM b o t) i) t.fields).getD T.nul)) fd1).2 = foldK (atM tk d) p b o t (keysM b o t) [] fd ∧ (fs).length ≤ (i + 1) := by
    refine ⟨by omega, ?_, by first | omega | (simp; omega)⟩
    rw [foldK_nth (by omega)] at g2
    rw [← some_getD (d := T.nul) h12, none_of h13, ← some_getD (d := T.nul) h17] at g2
    unfold keepK at g2
    rw [if_neg (by rw [h18]; exact Bool.false_ne_true)] at g2
    exact g2
  exact ⟨⟨((i + 1), fs, (atM tk d (p ++ [⟨false, (nthG (keysM b o t) i), 0⟩]) (some ((fieldM (nthG (keysM b o t) i) b.fields).getD T.nul)) none (some ((fieldM (nthG (keysM b o t) i) t.fields).getD T.nul)) fd1).2), hq⟩, (by simp; omega), (ALe.of false [(91, 93)] 92
      _
      _
      (.cons rfl (.boxL (.cons (.fnL (.cons .ptrR (.cons .ptrR (.cons (.same rfl) .nil)))) .nil)) (.cons rfl (.boxL (.cons .slR .nil)) (.cons rfl (.boxL (.cons (.same rfl) (.cons (.same rfl) (.cons (.same rfl) (.cons (.same rfl) (.cons (.same rfl) (.cons (.same rfl) (.cons (.same rfl) (.cons (.same rfl) (.cons (.same rfl) (.cons (.same rfl) (.cons (.same rfl) (.cons (.same rfl) (.cons .slR .nil)))))))))))))) (.cons rfl (.arr rfl) (.cons rfl (.arr rfl) .nil)))))
      (.s (.s (.s (.s (.cons rfl .ptrR (.cons rfl .ptrR (.s (.s (.s .nil)))))))))
      (by simp))⟩
  refine .p [] (.call0 [] false (mfieldN_spec t (nthG (keysM b o t) i) hft (by assumption) h17) Tryz.func29 (hv := by exact (.same Z))) ?_
  rcases Bool.eq_false_or_eq_true (atM tk d (p ++ [⟨false, (nthG (keysM b o t) i), 0⟩]) (some ((fieldM (nthG (keysM b o t) i) b.fields).getD T.nul)) none none fd1).1.isSome with h19 | h19
  refine .c 94 [0, 1, 91] (.callN [0, 1, 91, 93] [93] false (at_Y ih (p ++ [⟨false, (nthG (keysM b o t) i), 0⟩]) (some ((fieldM (nthG (keysM b o t) i) b.fields).getD T.nul)) none none fd1 (by have h9 := hk9 (nthG (keysM b o t) i); rw [← some_getD (d := T.nul) h12, none_of h13, none_of h17] at h9; exact h9) (by simp; omega) (by have h9 := foldK_bd (atM_grows tk d) (p := p) (b := b) (o := o) (t := t) (ks := keysM b o t) (i := i) (N := 100000) (fs := fs) (fd := fd1) (by omega) (by rw [g2]; exact hBB); rw [← some_getD (d := T.nul) h12, none_of h13, none_of h17] at h9; exact h9) h19) Tryz.func56 (hc := by exact (.cons (.cons (.cons .nil Z Z Z (.boxL (.cons (.fnL (.cons (.ptr (nl Z) Z) (.cons (.ptr (nl Z) Z) (.cons (.same Z) .nil)))) .nil))) Z Z Z (.boxL (.cons (.sl (nl Z) Z Z) .nil))) Z Z Z (.arrE Z))) (hv := by exact (.cons .fr (.cons (.same Z) (.cons (.same Z) (.cons (.same Z) (.cons (.ptr (nl Z) Z) (.cons (.ptr (nl Z) Z) (.cons (.same Z) .nil))))))))) ?_
  refine .p [] (.assign Z Z) <| .nil (by kernel_rfl) ?_
  refine .seq <| .region <| .p (.move Z Z) <| .p (.pneq ut86 Z Z Z Z) <| .nil <| .cT Z Z <| .region_p fol an56_12 (by kernel_rfl) Z ?_
  refine .p [] (.faddr fo35_7 Z Z) <| .p [3] (.load1 ag33 Z Z Z Z) <| .p [] (.move Z Z) <| .p [] (.move Z Z) <| .p [] (.nilCheck Z Z Z) <| .p [] (.rloadN ag35 sz35 Z Z (nl Z)) <| .p [] (.call0 [] false (Copy_spec ((atM tk d (p ++ [⟨false, (nthG (keysM b o t) i), 0⟩]) (some ((fieldM (nthG (keysM b o t) i) b.fields).getD T.nul)) none none fd1).1.getD T.nul) (T.ok_le (atM_ok tk d _ _ _ _ _ (by have h9 := hk9 (nthG (keysM b o t) i); rw [← some_getD (d := T.nul) h12, none_of h13, none_of h17] at h9; exact h9) _ (some_getD ‹_›).symm) (by omega))) Tryz.func27 (hv := by exact (.cons (.aggL (.same Z)) .nil))) ?_
  refine .p [] (.build Z zt72 Z pl72 Z Z) <| .p [90] (.len_sl ut33 Z Z (Option.some_ne_none _)) <| .c 95 [] (.buildSlice 94 true [[.S ⟨#[]⟩, .I 0, .B false, .B false, .S ⟨#[]⟩, .I 0, .I 0, .I 0, .I 0, .I 0, .S ⟨#[]⟩, .O, .O, .O]] ut33 sz72 zt72 Z Z (by decide) (by decide) Z Z Z Z Z Z Z) ?_
  refine .c 96 [90, 94] (.appendN (n2 := (fs.length + 1)) 95 el33 Z Z Z (by first | rfl | (simp; done) | (simp; omega)) (.sl Z Z (nl Z) (by simp)) (by simp only [rowsOf, encF_len, List.length_map, List.length_append, List.length_cons, List.length_nil, List.length_take, List.length_drop]; omega) (by simp only [rowsOf, encF_len, List.length_map, List.length_append, List.length_cons, List.length_nil, List.length_take, List.length_drop]; omega) (by first | rfl | (simp; done) | (simp; omega))) ?_
  refine .p [95] (.iaddr_sl0 ut33 sz72 Z Z Z Z (by omega) (Option.some_ne_none _)) ?_
  refine .c 96 [95] (.astoreE (row := [.S ⟨#[]⟩, .I 0, .B false, .B false, .S ⟨#[]⟩, .I 0, .I 0, .I 0, .I 0, .I 0, .S ⟨#[]⟩, .O, .O, .O]) sz72 Z Z Z Z (snoc_at (by simp)) (notup Z) Z Z (nl Z) (snoc_set (by simp))) ?_
  refine .p [] (.faddr fo35_7 Z Z) <| .c 96 [3] (.store sz33 Z Z Z Z (notup Z) Z Z (nl Z)) <| .nil (by kernel_rfl) ?_
  refine .region <| .p (.iadd (r := (((i + 1) : Nat) : Int)) Z Z Z (wi (by omega) (by first | rfl | omega | (simp; done)))) ?_
  refine .p (.move Z Z) <| .nil ?_
  have hq : (i + 1) ≤ (keysM b o t).length ∧ foldK (atM tk d) p b o t ((keysM b o t).drop (i + 1)) (fs ++ [((nthG (keysM b o t) i), ((atM tk d (p ++ [⟨false, (nthG (keysM b o t) i), 0⟩]) (some ((fieldM (nthG (keysM b o t) i) b.fields).getD T.nul)) none none fd1).1.getD T.nul))]) (atM tk d (p ++ [⟨false, (nthG (keysM b o t) i), 0⟩]) (some ((fieldM (nthG (keysM b o t) i) b.fields).getD T.nul)) none none fd1).2 = foldK (atM tk d) p b o t (keysM b o t) [] fd ∧ ((fs ++ [((nthG (keysM b o t) i), ((atM tk d (p ++ [⟨false, (nthG (keysM b o t) i), 0⟩]) (some ((fieldM (nthG (keysM b o t) i) b.fields).getD T.nul)) none none fd1).1.getD T.nul))])).length ≤ (i + 1) := by
    refine ⟨by omega, ?_, by first | omega | (simp; omega)⟩
    rw [foldK_nth (by omega)] at g2
    rw [← some_getD (d := T.nul) h12, none_of h13, none_of h17] at g2
    unfold keepK at g2
    rw [if_pos h19] at g2
    exact g2
  exact ⟨⟨((i + 1), (fs ++ [((nthG (keysM b o t) i), ((atM tk d (p ++ [⟨false, (nthG (keysM b o t) i), 0⟩]) (some ((fieldM (nthG (keysM b o t) i) b.fields).getD T.nul)) none none fd1).1.getD T.nul))]), (atM tk d (p ++ [⟨false, (nthG (keysM b o t) i), 0⟩]) (some ((fieldM (nthG (keysM b o t) i) b.fields).getD T.nul)) none none fd1).2), hq⟩, (by simp; omega), (ALe.of false [(90, 95), (91, 93)] 92
      _
      _
      (.cons rfl (.boxL (.cons (.fnL (.cons .ptrR (.cons .ptrR (.cons (.same rfl) .nil)))) .nil)) (.cons rfl (.boxL (.cons .slR .nil)) (.cons rfl (.boxL (.cons (.same rfl) (.cons (.same rfl) (.cons (.same rfl) (.cons (.same rfl) (.cons (.same rfl) (.cons (.same rfl) (.cons (.same rfl) (.cons (.same rfl) (.cons (.same rfl) (.cons (.same rfl) (.cons (.same rfl) (.cons (.same rfl) (.cons (.slE (by first | rfl | (simp; done))) .nil)))))))))))))) (.cons rfl (.arr (by exact (encF_snoc fs ((nthG (keysM b o t) i), ((atM tk d (p ++ [⟨false, (nthG (keysM b o t) i), 0⟩]) (some ((fieldM (nthG (keysM b o t) i) b.fields).getD T.nul)) none none fd1).1.getD T.nul))))) (.cons rfl (.arr rfl) .nil)))))
      (.s (.s (.s (.s (.cons rfl .ptrR (.cons rfl .ptrR (.s (.s (.s .nil)))))))))
      (by simp))⟩
  refine .c 94 [0, 1, 91] (.callN [0, 1, 91, 93] [93] false (at_N ih (p ++ [⟨false, (nthG (keysM b o t) i), 0⟩]) (some ((fieldM (nthG (keysM b o t) i) b.fields).getD T.nul)) none none fd1 (by have h9 := hk9 (nthG (keysM b o t) i); rw [← some_getD (d := T.nul) h12, none_of h13, none_of h17] at h9; exact h9) (by simp; omega) (by have h9 := foldK_bd (atM_grows tk d) (p := p) (b := b) (o := o) (t := t) (ks := keysM b o t) (i := i) (N := 100000) (fs := fs) (fd := fd1) (by omega) (by rw [g2]; exact hBB); rw [← some_getD (d := T.nul) h12, none_of h13, none_of h17] at h9; exact h9) h19) Tryz.func56 (hc := by exact (.cons (.cons (.cons .nil Z Z Z (.boxL (.cons (.fnL (.cons (.ptr (nl Z) Z) (.cons (.ptr (nl Z) Z) (.cons (.same Z) .nil)))) .nil))) Z Z Z (.boxL (.cons (.sl (nl Z) Z Z) .nil))) Z Z Z (.arrE Z))) (hv := by exact (.cons .fr (.cons (.same Z) (.cons (.same Z) (.cons (.same Z) (.cons (.ptr (nl Z) Z) (.cons (.ptr (nl Z) Z) (.cons (.same Z) .nil))))))))) ?_
  refine .p [] (.assign Z Z) <| .nil (by kernel_rfl) ?_
  refine .seq <| .region <| .p (.move Z Z) <| .p (.pneq0 ut86 Z Z Z) <| .nil <| .cF Z Z <| .skip <| .region <| .p (.iadd (r := (((i + 1) : Nat) : Int)) Z Z Z (wi (by omega) (by first | rfl | omega | (simp; done)))) ?_
  refine .p (.move Z Z) <| .nil ?_
  have hq : (i + 1) ≤ (keysM b o t).length ∧ foldK (atM tk d) p b o t ((keysM b o t).drop (i + 1)) fs (atM tk d (p ++ [⟨false, (nthG (keysM b o t) i), 0⟩]) (some ((fieldM (nthG (keysM b o t) i) b.fields).getD T.nul)) none none fd1).2 = foldK (atM tk d) p b o t (keysM b o t) [] fd ∧ (fs).length ≤ (i + 1) := by
    refine ⟨by omega, ?_, by first | omega | (simp; omega)⟩
    rw [foldK_nth (by omega)] at g2
    rw [← some_getD (d := T.nul) h12, none_of h13, none_of h17] at g2
    unfold keepK at g2
    rw [if_neg (by rw [h19]; exact Bool.false_ne_true)] at g2
    exact g2
  exact ⟨⟨((i + 1), fs, (atM tk d (p ++ [⟨false, (nthG (keysM b o t) i), 0⟩]) (some ((fieldM (nthG (keysM b o t) i) b.fields).getD T.nul)) none none fd1).2), hq⟩, (by simp; omega), (ALe.of false [(91, 93)] 92
      _
      _
      (.cons rfl (.boxL (.cons (.fnL (.cons .ptrR (.cons .ptrR (.cons (.same rfl) .nil)))) .nil)) (.cons rfl (.boxL (.cons .slR .nil)) (.cons rfl (.boxL (.cons (.same rfl) (.cons (.same rfl) (.cons (.same rfl) (.cons (.same rfl) (.cons (.same rfl) (.cons (.same rfl) (.cons (.same rfl) (.cons (.same rfl) (.cons (.same rfl) (.cons (.same rfl) (.cons (.same rfl) (.cons (.same rfl) (.cons .slR .nil)))))))))))))) (.cons rfl (.arr rfl) (.cons rfl (.arr rfl) .nil)))))
      (.s (.s (.s (.s (.cons rfl .ptrR (.cons rfl .ptrR (.s (.s (.s .nil)))))))))
      (by simp))⟩
  refine .p [] (.call0 [] false (mfieldN_spec b (nthG (keysM b o t) i) hfb (by assumption) h12) Tryz.func29 (hv := by exact (.same Z))) ?_
  refine .p [] (.move Z Z) <| .p [] (.move Z Z) ?_
  rcases Bool.eq_false_or_eq_true (fieldM (nthG (keysM b o t) i) o.fields).isSome with h20 | h20
  refine .p [] (.call0 [] false (mfieldY_spec o (nthG (keysM b o t) i) hfo (by assumption) h20) Tryz.func29 (hv := by exact (.same Z))) ?_
  refine .p [] (.move Z Z) <| .p [] (.move Z Z) ?_
  rcases Bool.eq_false_or_eq_true (fieldM (nthG (keysM b o t) i) t.fields).isSome with h21 | h21
  refine .p [] (.call0 [] false (mfieldY_spec t (nthG (keysM b o t) i) hft (by assumption) h21) Tryz.func29 (hv := by exact (.same Z))) ?_
  rcases Bool.eq_false_or_eq_true (atM tk d (p ++ [⟨false, (nthG (keysM b o t) i), 0⟩]) none (some ((fieldM (nthG (keysM b o t) i) o.fields).getD T.nul)) (some ((fieldM (nthG (keysM b o t) i) t.fields).getD T.nul)) fd1).1.isSome with h22 | h22
  refine .c 94 [0, 1, 91] (.callN [0, 1, 91, 93] [93] false (at_Y ih (p ++ [⟨false, (nthG (keysM b o t) i), 0⟩]) none (some ((fieldM (nthG (keysM b o t) i) o.fields).getD T.nul)) (some ((fieldM (nthG (keysM b o t) i) t.fields).getD T.nul)) fd1 (by have h9 := hk9 (nthG (keysM b o t) i); rw [none_of h12, ← some_getD (d := T.nul) h20, ← some_getD (d := T.nul) h21] at h9; exact h9) (by simp; omega) (by have h9 := foldK_bd (atM_grows tk d) (p := p) (b := b) (o := o) (t := t) (ks := keysM b o t) (i := i) (N := 100000) (fs := fs) (fd := fd1) (by omega) (by rw [g2]; exact hBB); rw [none_of h12, ← some_getD (d := T.nul) h20, ← some_getD (d := T.nul) h21] at h9; exact h9) h22) Tryz.func56 (hc := by exact (.cons (.cons (.cons .nil Z Z Z (.boxL (.cons (.fnL (.cons (.ptr (nl Z) Z) (.cons (.ptr (nl Z) Z) (.cons (.same Z) .nil)))) .nil))) Z Z Z (.boxL (.cons (.sl (nl Z) Z Z) .nil))) Z Z Z (.arrE Z))) (hv := by exact (.cons .fr (.cons (.same Z) (.cons (.same Z) (.cons (.same Z) (.cons (.ptr (nl Z) Z) (.cons (.ptr (nl Z) Z) (.cons (.same Z) .nil))))))))) ?_
  refine .p [] (.assign Z Z) <| .nil (by kernel_rfl) ?_
  refine .seq <| .region <| .p (.move Z Z) <| .p (.pneq ut86 Z Z Z Z) <| .nil <| .cT Z Z <| .region_p fol an56_12 (by kernel_rfl) Z ?_
  refine .p [] (.faddr fo35_7 Z Z) <| .p [3] (.load1 ag33 Z Z Z Z) <| .p [] (.move Z Z) <| .p [] (.move Z Z) <| .p [] (.nilCheck Z Z Z) <| .p [] (.rloadN ag35 sz35 Z Z (nl Z)) <| .p [] (.call0 [] false (Copy_spec ((atM tk d (p ++ [⟨false, (nthG (keysM b o t) i), 0⟩]) none (some ((fieldM (nthG (keysM b o t) i) o.fields).getD T.nul)) (some ((fieldM (nthG (keysM b o t) i) t.fields).getD T.nul)) fd1).1.getD T.nul) (T.ok_le (atM_ok tk d _ _ _ _ _ (by have h9 := hk9 (nthG (keysM b o t) i); rw [none_of h12, ← some_getD (d := T.nul) h20, ← some_getD (d := T.nul) h21] at h9; exact h9) _ (some_getD ‹_›).symm) (by omega))) Tryz.func27 (hv := by exact (.cons (.aggL (.same Z)) .nil))) ?_
  refine .p [] (.build Z zt72 Z pl72 Z Z) <| .p [90] (.len_sl ut33 Z Z (Option.some_ne_none _)) <| .c 95 [] (.buildSlice 94 true [[.S ⟨#[]⟩, .I 0, .B false, .B false, .S ⟨#[]⟩, .I 0, .I 0, .I 0, .I 0, .I 0, .S ⟨#[]⟩, .O, .O, .O]] ut33 sz72 zt72 Z Z (by decide) (by decide) Z Z Z Z Z Z Z) ?_
  refine .c 96 [90, 94] (.appendN (n2 := (fs.length + 1)) 95 el33 Z Z Z (by first | rfl | (simp; done) | (simp; omega)) (.sl Z Z (nl Z) (by simp)) (by simp only [rowsOf, encF_len, List.length_map, List.length_append, List.length_cons, List.length_nil, List.length_take, List.length_drop]; omega) (by simp only [rowsOf, encF_len, List.length_map, List.length_append, List.length_cons, List.length_nil, List.length_take, List.length_drop]; omega) (by first | rfl | (simp; done) | (simp; omega))) ?_
  refine .p [95] (.iaddr_sl0 ut33 sz72 Z Z Z Z (by omega) (Option.some_ne_none _)) ?_
  refine .c 96 [95] (.astoreE (row := [.S ⟨#[]⟩, .I 0, .B false, .B false, .S ⟨#[]⟩, .I 0, .I 0, .I 0, .I 0, .I 0, .S ⟨#[]⟩, .O, .O, .O]) sz72 Z Z Z Z (snoc_at (by simp)) (notup Z) Z Z (nl Z) (snoc_set (by simp))) ?_
  refine .p [] (.faddr fo35_7 Z Z) <| .c 96 [3] (.store sz33 Z Z Z Z (notup Z) Z Z (nl Z)) <| .nil (by kernel_rfl) ?_
  refine .region <| .p (.iadd (r := (((i + 1) : Nat) : Int)) Z Z Z (wi (by omega) (by first | rfl | omega | (simp; done)))) ?_
  refine .p (.move Z Z) <| .nil ?_
  have hq : (i + 1) ≤ (keysM b o t).length ∧ foldK (atM tk d) p b o t ((keysM b o t).drop (i + 1)) (fs ++ [((nthG (keysM b o t) i), ((atM tk d (p ++ [⟨false, (nthG (keysM b o t) i), 0⟩]) none (some ((fieldM (nthG (keysM b o t) i) o.fields).getD T.nul)) (some ((fieldM (nthG (keysM b o t) i) t.fields).getD T.nul)) fd1).1.getD T.nul))]) (atM tk d (p ++ [⟨false, (nthG (keysM b o t) i), 0⟩]) none (some ((fieldM (nthG (keysM b o t) i) o.fields).getD T.nul)) (some ((fieldM (nthG (keysM b o t) i) t.fields).getD T.nul)) fd1).2 = foldK (atM tk d) p b o t (keysM b o t) [] fd ∧ ((fs ++ [((nthG (keysM b o t) i), ((atM tk d (p ++ [⟨false, (nthG (keysM b o t) i), 0⟩]) none (some ((fieldM (nthG (keysM b o t) i) o.fields).getD T.nul)) (some ((fieldM (nthG (keysM b o t) i) t.fields).getD T.nul)) fd1).1.getD T.nul))])).length ≤ (i + 1) := by
    refine ⟨by omega, ?_, by first | omega | (simp; omega)⟩
    rw [foldK_nth (by omega)] at g2
    rw [none_of h12, ← some_getD (d := T.nul) h20, ← some_getD (d := T.nul) h21] at g2
    unfold keepK at g2
    rw [if_pos h22] at g2
    exact g2
  exact ⟨⟨((i + 1), (fs ++ [((nthG (keysM b o t) i), ((atM tk d (p ++ [⟨false, (nthG (keysM b o t) i), 0⟩]) none (some ((fieldM (nthG (keysM b o t) i) o.fields).getD T.nul)) (some ((fieldM (nthG (keysM b o t) i) t.fields).getD T.nul)) fd1).1.getD T.nul))]), (atM tk d (p ++ [⟨false, (nthG (keysM b o t) i), 0⟩]) none (some ((fieldM (nthG (keysM b o t) i) o.fields).getD T.nul)) (some ((fieldM (nthG (keysM b o t) i) t.fields).getD T.nul)) fd1).2), hq⟩, (by simp; omega), (ALe.of false [(90, 95), (91, 93)] 92
      _
      _
      (.cons rfl (.boxL (.cons (.fnL (.cons .ptrR (.cons .ptrR (.cons (.same rfl) .nil)))) .nil)) (.cons rfl (.boxL (.cons .slR .nil)) (.cons rfl (.boxL (.cons (.same rfl) (.cons (.same rfl) (.cons (.same rfl) (.cons (.same rfl) (.cons (.same rfl) (.cons (.same rfl) (.cons (.same rfl) (.cons (.same rfl) (.cons (.same rfl) (.cons (.same rfl) (.cons (.same rfl) (.cons (.same rfl) (.cons (.slE (by first | rfl | (simp; done))) .nil)))))))))))))) (.cons rfl (.arr (by exact (encF_snoc fs ((nthG (keysM b o t) i), ((atM tk d (p ++ [⟨false, (nthG (keysM b o t) i), 0⟩]) none (some ((fieldM (nthG (keysM b o t) i) o.fields).getD T.nul)) (some ((fieldM (nthG (keysM b o t) i) t.fields).getD T.nul)) fd1).1.getD T.nul))))) (.cons rfl (.arr rfl) .nil)))))
      (.s (.s (.s (.s (.cons rfl .ptrR (.cons rfl .ptrR (.s (.s (.s .nil)))))))))
      (by simp))⟩
  refine .c 94 [0, 1, 91] (.callN [0, 1, 91, 93] [93] false (at_N ih (p ++ [⟨false, (nthG (keysM b o t) i), 0⟩]) none (some ((fieldM (nthG (keysM b o t) i) o.fields).getD T.nul)) (some ((fieldM (nthG (keysM b o t) i) t.fields).getD T.nul)) fd1 (by have h9 := hk9 (nthG (keysM b o t) i); rw [none_of h12, ← some_getD (d := T.nul) h20, ← some_getD (d := T.nul) h21] at h9; exact h9) (by simp; omega) (by have h9 := foldK_bd (atM_grows tk d) (p := p) (b := b) (o := o) (t := t) (ks := keysM b o t) (i := i) (N := 100000) (fs := fs) (fd := fd1) (by omega) (by rw [g2]; exact hBB); rw [none_of h12, ← some_getD (d := T.nul) h20, ← some_getD (d := T.nul) h21] at h9; exact h9) h22) Tryz.func56 (hc := by exact (.cons (.cons (.cons .nil Z Z Z (.boxL (.cons (.fnL (.cons (.ptr (nl Z) Z) (.cons (.ptr (nl Z) Z) (.cons (.same Z) .nil)))) .nil))) Z Z Z (.boxL (.cons (.sl (nl Z) Z Z) .nil))) Z Z Z (.arrE Z))) (hv := by exact (.cons .fr (.cons (.same Z) (.cons (.same Z) (.cons (.same Z) (.cons (.ptr (nl Z) Z) (.cons (.ptr (nl Z) Z) (.cons (.same Z) .nil))))))))) ?_
  refine .p [] (.assign Z Z) <| .nil (by kernel_rfl) ?_
  refine .seq <| .region <| .p (.move Z Z) <| .p (.pneq0 ut86 Z Z Z) <| .nil <| .cF Z Z <| .skip <| .region <| .p (.iadd (r := (((i + 1) : Nat) : Int)) Z Z Z (wi (by omega) (by first | rfl | omega | (simp; done)))) ?_
  refine .p (.move Z Z) <| .nil ?_
  have hq : (i + 1) ≤ (keysM b o t).length ∧ foldK (atM tk d) p b o t ((keysM b o t).drop (i + 1)) fs (atM tk d (p ++ [⟨false, (nthG (keysM b o t) i), 0⟩]) none (some ((fieldM (nthG (keysM b o t) i) o.fields).getD T.nul)) (some ((fieldM (nthG (keysM b o t) i) t.fields).getD T.nul)) fd1).2 = foldK (atM tk d) p b o t (keysM b o t) [] fd ∧ (fs).length ≤ (i + 1) := by
    refine ⟨by omega, ?_, by first | omega | (simp; omega)⟩
    rw [foldK_nth (by omega)] at g2
    rw [none_of h12, ← some_getD (d := T.nul) h20, ← some_getD (d := T.nul) h21] at g2
    unfold keepK at g2
    rw [if_neg (by rw [h22]; exact Bool.false_ne_true)] at g2
    exact g2
  exact ⟨⟨((i + 1), fs, (atM tk d (p ++ [⟨false, (nthG (keysM b o t) i), 0⟩]) none (some ((fieldM (nthG (keysM b o t) i) o.fields).getD T.nul)) (some ((fieldM (nthG (keysM b o t) i) t.fields).getD T.nul)) fd1).2), hq⟩, (by simp; omega), (ALe.of false [(91, 93)] 92
      _
      _
      (.cons rfl (.boxL (.cons (.fnL (.cons .ptrR (.cons .ptrR (.cons (.same rfl) .nil)))) .nil)) (.cons rfl (.boxL (.cons .slR .nil)) (.cons rfl (.boxL (.cons (.same rfl) (.cons (.same rfl) (.cons (.same rfl) (.cons (.same rfl) (.cons (.same rfl) (.cons (.same rfl) (.cons (.same rfl) (.cons (.same rfl) (.cons (.same rfl) (.cons (.same rfl) (.cons (.same rfl) (.cons (.same rfl) (.cons .slR .nil)))))))))))))) (.cons rfl (.arr rfl) (.cons rfl (.arr rfl) .nil)))))
      (.s (.s (.s (.s (.cons rfl .ptrR (.cons rfl .ptrR (.s (.s (.s .nil)))))))))
      (by simp))⟩
  refine .p [] (.call0 [] false (mfieldN_spec t (nthG (keysM b o t) i) hft (by assumption) h21) Tryz.func29 (hv := by exact (.same Z))) ?_
  rcases Bool.eq_false_or_eq_true (atM tk d (p ++ [⟨false, (nthG (keysM b o t) i), 0⟩]) none (some ((fieldM (nthG (keysM b o t) i) o.fields).getD T.nul)) none fd1).1.isSome with h23 | h23
  refine .c 94 [0, 1, 91] (.callN [0, 1, 91, 93] [93] false (at_Y ih (p ++ [⟨false, (nthG (keysM b o t) i), 0⟩]) none (some ((fieldM (nthG (keysM b o t) i) o.fields).getD T.nul)) none fd1 (by have h9 := hk9 (nthG (keysM b o t) i); rw [none_of h12, ← some_getD (d := T.nul) h20, none_of h21] at h9; exact h9) (by simp; omega) (by have h9 := foldK_bd (atM_grows tk d) (p := p) (b := b) (o := o) (t := t) (ks := keysM b o t) (i := i) (N := 100000) (fs := fs) (fd := fd1) (by omega) (by rw [g2]; exact hBB); rw [none_of h12, ← some_getD (d := T.nul) h20, none_of h21] at h9; exact h9) h23) Tryz.func56 (hc := by exact (.cons (.cons (.cons .nil Z Z Z (.boxL (.cons (.fnL (.cons (.ptr (nl Z) Z) (.cons (.ptr (nl Z) Z) (.cons (.same Z) .nil)))) .nil))) Z Z Z (.boxL (.cons (.sl (nl Z) Z Z) .nil))) Z Z Z (.arrE Z))) (hv := by exact (.cons .fr (.cons (.same Z) (.cons (.same Z) (.cons (.same Z) (.cons (.ptr (nl Z) Z) (.cons (.ptr (nl Z) Z) (.cons (.same Z) .nil))))))))) ?_
  refine .p [] (.assign Z Z) <| .nil (by kernel_rfl) ?_
  refine .seq <| .region <| .p (.move Z Z) <| .p (.pneq ut86 Z Z Z Z) <| .nil <| .cT Z Z <| .region_p fol an56_12 (by kernel_rfl) Z ?_
  refine .p [] (.faddr fo35_7 Z Z) <| .p [3] (.load1 ag33 Z Z Z Z) <| .p [] (.move Z Z) <| .p [] (.move Z Z) <| .p [] (.nilCheck Z Z Z) <| .p [] (.rloadN ag35 sz35 Z Z (nl Z)) <| .p [] (.call0 [] false (Copy_spec ((atM tk d (p ++ [⟨false, (nthG (keysM b o t) i), 0⟩]) none (some ((fieldM (nthG (keysM b o t) i) o.fields).getD T.nul)) none fd1).1.getD T.nul) (T.ok_le (atM_ok tk d _ _ _ _ _ (by have h9 := hk9 (nthG (keysM b o t) i); rw [none_of h12, ← some_getD (d := T.nul) h20, none_of h21] at h9; exact h9) _ (some_getD ‹_›).symm) (by omega))) Tryz.func27 (hv := by exact (.cons (.aggL (.same Z)) .nil))) ?_
  refine .p [] (.build Z zt72 Z pl72 Z Z) <| .p [90] (.len_sl ut33 Z Z (Option.some_ne_none _)) <| .c 95 [] (.buildSlice 94 true [[.S ⟨#[]⟩, .I 0, .B false, .B false, .S ⟨#[]⟩, .I 0, .I 0, .I 0, .I 0, .I 0, .S ⟨#[]⟩, .O, .O, .O]] ut33 sz72 zt72 Z Z (by decide) (by decide) Z Z Z Z Z Z Z) ?_
  refine .c 96 [90, 94] (.appendN (n2 := (fs.length + 1)) 95 el33 Z Z Z (by first | rfl | (simp; done) | (simp; omega)) (.sl Z Z (nl Z) (by simp)) (by simp only [rowsOf, encF_len, List.length_map, List.length_append, List.length_cons, List.length_nil, List.length_take, List.length_drop]; omega) (by simp only [rowsOf, encF_len, List.length_map, List.length_append, List.length_cons, List.length_nil, List.length_take, List.length_drop]; omega) (by first | rfl | (simp; done) | (simp; omega))) ?_
  refine .p [95] (.iaddr_sl0 ut33 sz72 Z Z Z Z (by omega) (Option.some_ne_none _)) ?_
  refine .c 96 [95] (.astoreE (row := [.S ⟨#[]⟩, .I 0, .B false, .B false, .S ⟨#[]⟩, .I 0, .I 0, .I 0, .I 0, .I 0, .S ⟨#[]⟩, .O, .O, .O]) sz72 Z Z Z Z (snoc_at (by simp)) (notup Z) Z Z (nl Z) (snoc_set (by simp))) ?_
  refine .p [] (.faddr fo35_7 Z Z) <| .c 96 [3] (.store sz33 Z Z Z Z (notup Z) Z Z (nl Z)) <| .nil (by kernel_rfl) ?_
  refine .region <| .p (.iadd (r := (((i + 1) : Nat) : Int)) Z Z Z (wi (by omega) (by first | rfl | omega | (simp; done)))) ?_
  refine .p (.move Z Z) <| .nil ?_
  have hq : (i + 1) ≤ (keysM b o t).length ∧ foldK (atM tk d) p b o t ((keysM b o t).drop (i + 1)) (fs ++ [((nthG (keysM b o t) i), ((atM tk d (p ++ [⟨false, (nthG (keysM b o t) i), 0⟩]) none (some ((fieldM (nthG (keysM b o t) i) o.fields).getD T.nul)) none fd1).1.getD T.nul))]) (atM tk d (p ++ [⟨false, (nthG (keysM b o t) i), 0⟩]) none (some ((fieldM (nthG (keysM b o t) i) o.fields).getD T.nul)) none fd1).2 = foldK (atM tk d) p b o t (keysM b o t) [] fd ∧ ((fs ++ [((nthG (keysM b o t) i), ((atM tk d (p ++ [⟨false, (nthG (keysM b o t) i), 0⟩]) none (some ((fieldM (nthG (keysM b o t) i) o.fields).getD T.nul)) none fd1).1.getD T.nul))])).length ≤ (i + 1) := by
    refine ⟨by omega, ?_, by first | omega | (simp; omega)⟩
    rw [foldK_nth (by omega)] at g2
    rw [none_of h12, ← some_getD (d := T.nul) h20, none_of h21] at g2
    unfold keepK at g2
    rw [if_pos h23] at g2
    exact g2
  exact ⟨⟨((i + 1), (fs ++ [((nthG (keysM b o t) i), ((atM tk d (p ++ [⟨false, (nthG (keysM b o t) i), 0⟩]) none (some ((fieldM (nthG (keysM b o t) i) o.fields).getD T.nul)) none fd1).1.getD T.nul))]), (atM tk d (p ++ [⟨false, (nthG (keysM b o t) i), 0⟩]) none (some ((fieldM (nthG (keysM b o t) i) o.fields).getD T.nul)) none fd1).2), hq⟩, (by simp; omega), (ALe.of false [(90, 95), (91, 93)] 92
      _
      _
      (.cons rfl (.boxL (.cons (.fnL (.cons .ptrR (.cons .ptrR (.cons (.same rfl) .nil)))) .nil)) (.cons rfl (.boxL (.cons .slR .nil)) (.cons rfl (.boxL (.cons (.same rfl) (.cons (.same rfl) (.cons (.same rfl) (.cons (.same rfl) (.cons (.same rfl) (.cons (.same rfl) (.cons (.same rfl) (.cons (.same rfl) (.cons (.same rfl) (.cons (.same rfl) (.cons (.same rfl) (.cons (.same rfl) (.cons (.slE (by first | rfl | (simp; done))) .nil)))))))))))))) (.cons rfl (.arr (by exact (encF_snoc fs ((nthG (keysM b o t) i), ((atM tk d (p ++ [⟨false, (nthG (keysM b o t) i), 0⟩]) none (some ((fieldM (nthG (keysM b o t) i) o.fields).getD T.nul)) none fd1).1.getD T.nul))))) (.cons rfl (.arr rfl) .nil)))))
      (.s (.s (.s (.s (.cons rfl .ptrR (.cons rfl .ptrR (.s (.s (.s .nil)))))))))
      (by simp))⟩
  refine .c 94 [0, 1, 91] (.callN [0, 1, 91, 93] [93] false (at_N ih (p ++ [⟨false, (nthG (keysM b o t) i), 0⟩]) none (some ((fieldM (nthG (keysM b o t) i) o.fields).getD T.nul)) none fd1 (by have h9 := hk9 (nthG (keysM b o t) i); rw [none_of h12, ← some_getD (d := T.nul) h20, none_of h21] at h9; exact h9) (by simp; omega) (by have h9 := foldK_bd (atM_grows tk d) (p := p) (b := b) (o := o) (t := t) (ks := keysM b o t) (i := i) (N := 100000) (fs := fs) (fd := fd1) (by omega) (by rw [g2]; exact hBB); rw [none_of h12, ← some_getD (d := T.nul) h20, none_of h21] at h9; exact h9) h23) Tryz.func56 (hc := by exact (.cons (.cons (.cons .nil Z Z Z (.boxL (.cons (.fnL (.cons (.ptr (nl Z) Z) (.cons (.ptr (nl Z) Z) (.cons (.same Z) .nil)))) .nil))) Z Z Z (.boxL (.cons (.sl (nl Z) Z Z) .nil))) Z Z Z (.arrE Z))) (hv := by exact (.cons .fr (.cons (.same Z) (.cons (.same Z) (.cons (.same Z) (.cons (.ptr (nl Z) Z) (.cons (.ptr (nl Z) Z) (.cons (.same Z) .nil))))))))) ?_
  refine .p [] (.assign Z Z) <| .nil (by kernel_rfl) ?_
  refine .seq <| .region <| .p (.move Z Z) <| .p (.pneq0 ut86 Z Z Z) <| .nil <| .cF Z Z <| .skip <| .region <| .p (.iadd (r := (((i + 1) : Nat) : Int)) Z Z Z (wi (by omega) (by first | rfl | omega | (simp; done)))) ?_
  refine .p (.move Z Z) <| .nil ?_
  have hq : (i + 1) ≤ (keysM b o t).length ∧ foldK (atM tk d) p b o t ((keysM b o t).drop (i + 1)) fs (atM tk d (p ++ [⟨false, (nthG (keysM b o t) i), 0⟩]) none (some ((fieldM (nthG (keysM b o t) i) o.fields).getD T.nul)) none fd1).2 = foldK (atM tk d) p b o t (keysM b o t) [] fd ∧ (fs).length ≤ (i + 1) := by
    refine ⟨by omega, ?_, by first | omega | (simp; omega)⟩
    rw [foldK_nth (by omega)] at g2
    rw [none_of h12, ← some_getD (d := T.nul) h20, none_of h21] at g2
    unfold keepK at g2
    rw [if_neg (by rw [h23]; exact Bool.false_ne_true)] at g2
    exact g2
  exact ⟨⟨((i + 1), fs, (atM tk d (p ++ [⟨false, (nthG (keysM b o t) i), 0⟩]) none (some ((fieldM (nthG (keysM b o t) i) o.fields).getD T.nul)) none fd1).2), hq⟩, (by simp; omega), (ALe.of false [(91, 93)] 92
      _
      _
      (.cons rfl (.boxL (.cons (.fnL (.cons .ptrR (.cons .ptrR (.cons (.same rfl) .nil)))) .nil)) (.cons rfl (.boxL (.cons .slR .nil)) (.cons rfl (.boxL (.cons (.same rfl) (.cons (.same rfl) (.cons (.same rfl) (.cons (.same rfl) (.cons (.same rfl) (.cons (.same rfl) (.cons (.same rfl) (.cons (.same rfl) (.cons (.same rfl) (.cons (.same rfl) (.cons (.same rfl) (.cons (.same rfl) (.cons .slR .nil)))))))))))))) (.cons rfl (.arr rfl) (.cons rfl (.arr rfl) .nil)))))
      (.s (.s (.s (.s (.cons rfl .ptrR (.cons rfl .ptrR (.s (.s (.s .nil)))))))))
      (by simp))⟩
  refine .p [] (.call0 [] false (mfieldN_spec o (nthG (keysM b o t) i) hfo (by assumption) h20) Tryz.func29 (hv := by exact (.same Z))) ?_
  refine .p [] (.move Z Z) <| .p [] (.move Z Z) ?_
  rcases Bool.eq_false_or_eq_true (fieldM (nthG (keysM b o t) i) t.fields).isSome with h24 | h24
  refine .p [] (.call0 [] false (mfieldY_spec t (nthG (keysM b o t) i) hft (by assumption) h24) Tryz.func29 (hv := by exact (.same Z))) ?_
  rcases Bool.eq_false_or_eq_true (atM tk d (p ++ [⟨false, (nthG (keysM b o t) i), 0⟩]) none none (some ((fieldM (nthG (keysM b o t) i) t.fields).getD T.nul)) fd1).1.isSome with h25 | h25
  refine .c 94 [0, 1, 91] (.callN [0, 1, 91, 93] [93] false (at_Y ih (p ++ [⟨false, (nthG (keysM b o t) i), 0⟩]) none none (some ((fieldM (nthG (keysM b o t) i) t.fields).getD T.nul)) fd1 (by have h9 := hk9 (nthG (keysM b o t) i); rw [none_of h12, none_of h20, ← some_getD (d := T.nul) h24] at h9; exact h9) (by simp; omega) (by have h9 := foldK_bd (atM_grows tk d) (p := p) (b := b) (o := o) (t := t) (ks := keysM b o t) (i := i) (N := 100000) (fs := fs) (fd := fd1) (by omega) (by rw [g2]; exact hBB); rw [none_of h12, none_of h20, ← some_getD (d := T.nul) h24] at h9; exact h9) h25) Tryz.func56 (hc := by exact (.cons (.cons (.cons .nil Z Z Z (.boxL (.cons (.fnL (.cons (.ptr (nl Z) Z) (.cons (.ptr (nl Z) Z) (.cons (.same Z) .nil)))) .nil))) Z Z Z (.boxL (.cons (.sl (nl Z) Z Z) .nil))) Z Z Z (.arrE Z))) (hv := by exact (.cons .fr (.cons (.same Z) (.cons (.same Z) (.cons (.same Z) (.cons (.ptr (nl Z) Z) (.cons (.ptr (nl Z) Z) (.cons (.same Z) .nil))))))))) ?_
  refine .p [] (.assign Z Z) <| .nil (by kernel_rfl) ?_
  refine .seq <| .region <| .p (.move Z Z) <| .p (.pneq ut86 Z Z Z Z) <| .nil <| .cT Z Z <| .region_p fol an56_12 (by kernel_rfl) Z ?_
  refine .p [] (.faddr fo35_7 Z Z) <| .p [3] (.load1 ag33 Z Z Z Z) <| .p [] (.move Z Z) <| .p [] (.move Z Z) <| .p [] (.nilCheck Z Z Z) <| .p [] (.rloadN ag35 sz35 Z Z (nl Z)) <| .p [] (.call0 [] false (Copy_spec ((atM tk d (p ++ [⟨false, (nthG (keysM b o t) i), 0⟩]) none none (some ((fieldM (nthG (keysM b o t) i) t.fields).getD T.nul)) fd1).1.getD T.nul) (T.ok_le (atM_ok tk d _ _ _ _ _ (by have h9 := hk9 (nthG (keysM b o t) i); rw [none_of h12, none_of h20, ← some_getD (d := T.nul) h24] at h9; exact h9) _ (some_getD ‹_›).symm) (by omega))) Tryz.func27 (hv := by exact (.cons (.aggL (.same Z)) .nil))) ?_
  refine .p [] (.build Z zt72 Z pl72 Z Z) <| .p [90] (.len_sl ut33 Z Z (Option.some_ne_none _)) <| .c 95 [] (.buildSlice 94 true [[.S ⟨#[]⟩, .I 0, .B false, .B false, .S ⟨#[]⟩, .I 0, .I 0, .I 0, .I 0, .I 0, .S ⟨#[]⟩, .O, .O, .O]] ut33 sz72 zt72 Z Z (by decide) (by decide) Z Z Z Z Z Z Z) ?_
  refine .c 96 [90, 94] (.appendN (n2 := (fs.length + 1)) 95 el33 Z Z Z (by first | rfl | (simp; done) | (simp; omega)) (.sl Z Z (nl Z) (by simp)) (by simp only [rowsOf, encF_len, List.length_map, List.length_append, List.length_cons, List.length_nil, List.length_take, List.length_drop]; omega) (by simp only [rowsOf, encF_len, List.length_map, List.length_append, List.length_cons, List.length_nil, List.length_take, List.length_drop]; omega) (by first | rfl | (simp; done) | (simp; omega))) ?_
  refine .p [95] (.iaddr_sl0 ut33 sz72 Z Z Z Z (by omega) (Option.some_ne_none _)) ?_
  refine .c 96 [95] (.astoreE (row := [.S ⟨#[]⟩, .I 0, .B false, .B false, .S ⟨#[]⟩, .I 0, .I 0, .I 0, .I 0, .I 0, .S ⟨#[]⟩, .O, .O, .O]) sz72 Z Z Z Z (snoc_at (by simp)) (notup Z) Z Z (nl Z) (snoc_set (by simp))) ?_
  refine .p [] (.faddr fo35_7 Z Z) <| .c 96 [3] (.store sz33 Z Z Z Z (notup Z) Z Z (nl Z)) <| .nil (by kernel_rfl) ?_
  refine .region <| .p (.iadd (r := (((i + 1) : Nat) : Int)) Z Z Z (wi (by omega) (by first | rfl | omega | (simp; done)))) ?_
  refine .p (.move Z Z) <| .nil ?_
  have hq : (i + 1) ≤ (keysM b o t).length ∧ foldK (atM tk d) p b o t ((keysM b o t).drop (i + 1)) (fs ++ [((nthG (keysM b o t) i), ((atM tk d (p ++ [⟨false, (nthG (keysM b o t) i), 0⟩]) none none (some ((fieldM (nthG (keysM b o t) i) t.fields).getD T.nul)) fd1).1.getD T.nul))]) (atM tk d (p ++ [⟨false, (nthG (keysM b o t) i), 0⟩]) none none (some ((fieldM (nthG (keysM b o t) i) t.fields).getD T.nul)) fd1).2 = foldK (atM tk d) p b o t (keysM b o t) [] fd ∧ ((fs ++ [((nthG (keysM b o t) i), ((atM tk d (p ++ [⟨false, (nthG (keysM b o t) i), 0⟩]) none none (some ((fieldM (nthG (keysM b o t) i) t.fields).getD T.nul)) fd1).1.getD T.nul))])).length ≤ (i + 1) := by
    refine ⟨by omega, ?_, by first | omega | (simp; omega)⟩
    rw [foldK_nth (by omega)] at g2
    rw [none_of h12, none_of h20, ← some_getD (d := T.nul) h24] at g2
    unfold keepK at g2
    rw [if_pos h25] at g2
    exact g2
  exact ⟨⟨((i + 1), (fs ++ [((nthG (keysM b o t) i), ((atM tk d (p ++ [⟨false, (nthG (keysM b o t) i), 0⟩]) none none (some ((fieldM (nthG (keysM b o t) i) t.fields).getD T.nul)) fd1).1.getD T.nul))]), (atM tk d (p ++ [⟨false, (nthG (keysM b o t) i), 0⟩]) none none (some ((fieldM (nthG (keysM b o t) i) t.fields).getD T.nul)) fd1).2), hq⟩, (by simp; omega), (ALe.of false [(90, 95), (91, 93)] 92
      _
      _
      (.cons rfl (.boxL (.cons (.fnL (.cons .ptrR (.cons .ptrR (.cons (.same rfl) .nil)))) .nil)) (.cons rfl (.boxL (.cons .slR .nil)) (.cons rfl (.boxL (.cons (.same rfl) (.cons (.same rfl) (.cons (.same rfl) (.cons (.same rfl) (.cons (.same rfl) (.cons (.same rfl) (.cons (.same rfl) (.cons (.same rfl) (.cons (.same rfl) (.cons (.same rfl) (.cons (.same rfl) (.cons (.same rfl) (.cons (.slE (by first | rfl | (simp; done))) .nil)))))))))))))) (.cons rfl (.arr (by exact (encF_snoc fs ((nthG (keysM b o t) i), ((atM tk d (p ++ [⟨false, (nthG (keysM b o t) i), 0⟩]) none none (some ((fieldM (nthG (keysM b o t) i) t.fields).getD T.nul)) fd1).1.getD T.nul))))) (.cons rfl (.arr rfl) .nil)))))
      (.s (.s (.s (.s (.cons rfl .ptrR (.cons rfl .ptrR (.s (.s (.s .nil)))))))))
      (by simp))⟩
  refine .c 94 [0, 1, 91] (.callN [0, 1, 91, 93] [93] false (at_N ih (p ++ [⟨false, (nthG (keysM b o t) i), 0⟩]) none none (some ((fieldM (nthG (keysM b o t) i) t.fields).getD T.nul)) fd1 (by have h9 := hk9 (nthG (keysM b o t) i); rw [none_of h12, none_of h20, ← some_getD (d := T.nul) h24] at h9; exact h9) (by simp; omega) (by have h9 := foldK_bd (atM_grows tk d) (p := p) (b := b) (o := o) (t := t) (ks := keysM b o t) (i := i) (N := 100000) (fs := fs) (fd := fd1) (by omega) (by rw [g2]; exact hBB); rw [none_of h12, none_of h20, ← some_getD (d := T.nul) h24] at h9; exact h9) h25) Tryz.func56 (hc := by exact (.cons (.cons (.cons .nil Z Z Z (.boxL (.cons (.fnL (.cons (.ptr (nl Z) Z) (.cons (.ptr (nl Z) Z) (.cons (.same Z) .nil)))) .nil))) Z Z Z (.boxL (.cons (.sl (nl Z) Z Z) .nil))) Z Z Z (.arrE Z))) (hv := by exact (.cons .fr (.cons (.same Z) (.cons (.same Z) (.cons (.same Z) (.cons (.ptr (nl Z) Z) (.cons (.ptr (nl Z) Z) (.cons (.same Z) .nil))))))))) ?_
  refine .p [] (.assign Z Z) <| .nil (by kernel_rfl) ?_
  refine .seq <| .region <| .p (.move Z Z) <| .p (.pneq0 ut86 Z Z Z) <| .nil <| .cF Z Z <| .skip <| .region <| .p (.iadd (r := (((i + 1) : Nat) : Int)) Z Z Z (wi (by omega) (by first | rfl | omega | (simp; done)))) ?_
  refine .p (.move Z Z) <| .nil ?_
  have hq : (i + 1) ≤ (keysM b o t).length ∧ foldK (atM tk d) p b o t ((keysM b o t).drop (i + 1)) fs (atM tk d (p ++ [⟨false, (nthG (keysM b o t) i), 0⟩]) none none (some ((fieldM (nthG (keysM b o t) i) t.fields).getD T.nul)) fd1).2 = foldK (atM tk d) p b o t (keysM b o t) [] fd ∧ (fs).length ≤ (i + 1) := by
    refine ⟨by omega, ?_, by first | omega | (simp; omega)⟩
    rw [foldK_nth (by omega)] at g2
    rw [none_of h12, none_of h20, ← some_getD (d := T.nul) h24] at g2
    unfold keepK at g2
    rw [if_neg (by rw [h25]; exact Bool.false_ne_true)] at g2
    exact g2
  exact ⟨⟨((i + 1), fs, (atM tk d (p ++ [⟨false, (nthG (keysM b o t) i), 0⟩]) none none (some ((fieldM (nthG (keysM b o t) i) t.fields).getD T.nul)) fd1).2), hq⟩, (by simp; omega), (ALe.of false [(91, 93)] 92
      _
      _
      (.cons rfl (.boxL (.cons (.fnL (.cons .ptrR (.cons .ptrR (.cons (.same rfl) .nil)))) .nil)) (.cons rfl (.boxL (.cons .slR .nil)) (.cons rfl (.boxL (.cons (.same rfl) (.cons (.same rfl) (.cons (.same rfl) (.cons (.same rfl) (.cons (.same rfl) (.cons (.same rfl) (.cons (.same rfl) (.cons (.same rfl) (.cons (.same rfl) (.cons (.same rfl) (.cons (.same rfl) (.cons (.same rfl) (.cons .slR .nil)))))))))))))) (.cons rfl (.arr rfl) (.cons rfl (.arr rfl) .nil)))))
      (.s (.s (.s (.s (.cons rfl .ptrR (.cons rfl .ptrR (.s (.s (.s .nil)))))))))
      (by simp))⟩
  refine .p [] (.call0 [] false (mfieldN_spec t (nthG (keysM b o t) i) hft (by assumption) h24) Tryz.func29 (hv := by exact (.same Z))) ?_
  rcases Bool.eq_false_or_eq_true (atM tk d (p ++ [⟨false, (nthG (keysM b o t) i), 0⟩]) none none none fd1).1.isSome with h26 | h26
  refine .c 94 [0, 1, 91] (.callN [0, 1, 91, 93] [93] false (at_Y ih (p ++ [⟨false, (nthG (keysM b o t) i), 0⟩]) none none none fd1 (by have h9 := hk9 (nthG (keysM b o t) i); rw [none_of h12, none_of h20, none_of h24] at h9; exact h9) (by simp; omega) (by have h9 := foldK_bd (atM_grows tk d) (p := p) (b := b) (o := o) (t := t) (ks := keysM b o t) (i := i) (N := 100000) (fs := fs) (fd := fd1) (by omega) (by rw [g2]; exact hBB); rw [none_of h12, none_of h20, none_of h24] at h9; exact h9) h26) Tryz.func56 (hc := by exact (.cons (.cons (.cons .nil Z Z Z (.boxL (.cons (.fnL (.cons (.ptr (nl Z) Z) (.cons (.ptr (nl Z) Z) (.cons (.same Z) .nil)))) .nil))) Z Z Z (.boxL (.cons (.sl (nl Z) Z Z) .nil))) Z Z Z (.arrE Z))) (hv := by exact (.cons .fr (.cons (.same Z) (.cons (.same Z) (.cons (.same Z) (.cons (.ptr (nl Z) Z) (.cons (.ptr (nl Z) Z) (.cons (.same Z) .nil))))))))) ?_
  refine .p [] (.assign Z Z) <| .nil (by kernel_rfl) ?_
  refine .seq <| .region <| .p (.move Z Z) <| .p (.pneq ut86 Z Z Z Z) <| .nil <| .cT Z Z <| .region_p fol an56_12 (by kernel_rfl) Z ?_
  refine .p [] (.faddr fo35_7 Z Z) <| .p [3] (.load1 ag33 Z Z Z Z) <| .p [] (.move Z Z) <| .p [] (.move Z Z) <| .p [] (.nilCheck Z Z Z) <| .p [] (.rloadN ag35 sz35 Z Z (nl Z)) <| .p [] (.call0 [] false (Copy_spec ((atM tk d (p ++ [⟨false, (nthG (keysM b o t) i), 0⟩]) none none none fd1).1.getD T.nul) (T.ok_le (atM_ok tk d _ _ _ _ _ (by have h9 := hk9 (nthG (keysM b o t) i); rw [none_of h12, none_of h20, none_of h24] at h9; exact h9) _ (some_getD ‹_›).symm) (by omega))) Tryz.func27 (hv := by exact (.cons (.aggL (.same Z)) .nil))) ?_
  refine .p [] (.build Z zt72 Z pl72 Z Z) <| .p [90] (.len_sl ut33 Z Z (Option.some_ne_none _)) <| .c 95 [] (.buildSlice 94 true [[.S ⟨#[]⟩, .I 0, .B false, .B false, .S ⟨#[]⟩, .I 0, .I 0, .I 0, .I 0, .I 0, .S ⟨#[]⟩, .O, .O, .O]] ut33 sz72 zt72 Z Z (by decide) (by decide) Z Z Z Z Z Z Z) ?_
  refine .c 96 [90, 94] (.appendN (n2 := (fs.length + 1)) 95 el33 Z Z Z (by first | rfl | (simp; done) | (simp; omega)) (.sl Z Z (nl Z) (by simp)) (by simp only [rowsOf, encF_len, List.length_map, List.length_append, List.length_cons, List.length_nil, List.length_take, List.length_drop]; omega) (by simp only [rowsOf, encF_len, List.length_map, List.length_append, List.length_cons, List.length_nil, List.length_take, List.length_drop]; omega) (by first | rfl | (simp; done) | (simp; omega))) ?_
  refine .p [95] (.iaddr_sl0 ut33 sz72 Z Z Z Z (by omega) (Option.some_ne_none _)) ?_
  refine .c 96 [95] (.astoreE (row := [.S ⟨#[]⟩, .I 0, .B false, .B false, .S ⟨#[]⟩, .I 0, .I 0, .I 0, .I 0, .I 0, .S ⟨#[]⟩, .O, .O, .O]) sz72 Z Z Z Z (snoc_at (by simp)) (notup Z) Z Z (nl Z) (snoc_set (by simp))) ?_
  refine .p [] (.faddr fo35_7 Z Z) <| .c 96 [3] (.store sz33 Z Z Z Z (notup Z) Z Z (nl Z)) <| .nil (by kernel_rfl) ?_
  refine .region <| .p (.iadd (r := (((i + 1) : Nat) : Int)) Z Z Z (wi (by omega) (by first | rfl | omega | (simp; done)))) ?_
  refine .p (.move Z Z) <| .nil ?_
  have hq : (i + 1) ≤ (keysM b o t).length ∧ foldK (atM tk d) p b o t ((keysM b o t).drop (i + 1)) (fs ++ [((nthG (keysM b o t) i), ((atM tk d (p ++ [⟨false, (nthG (keysM b o t) i), 0⟩]) none none none fd1).1.getD T.nul))]) (atM tk d (p ++ [⟨false, (nthG (keysM b o t) i), 0⟩]) none none none fd1).2 = foldK (atM tk d) p b o t (keysM b o t) [] fd ∧ ((fs ++ [((nthG (keysM b o t) i), ((atM tk d (p ++ [⟨false, (nthG (keysM b o t) i), 0⟩]) none none none fd1).1.getD T.nul))])).length ≤ (i + 1) := by
    refine ⟨by omega, ?_, by first | omega | (simp; omega)⟩
    rw [foldK_nth (by omega)] at g2
    rw [none_of h12, none_of h20, none_of h24] at g2
    unfold keepK at g2
    rw [if_pos h26] at g2
    exact g2
  exact ⟨⟨((i + 1), (fs ++ [((nthG (keysM b o t) i), ((atM tk d (p ++ [⟨false, (nthG (keysM b o t) i), 0⟩]) none none none fd1).1.getD T.nul))]), (atM tk d (p ++ [⟨false, (nthG (keysM b o t) i), 0⟩]) none none none fd1).2), hq⟩, (by simp; omega), (ALe.of false [(90, 95), (91, 93)] 92
      _
      _
      (.cons rfl (.boxL (.cons (.fnL (.cons .ptrR (.cons .ptrR (.cons (.same rfl) .nil)))) .nil)) (.cons rfl (.boxL (.cons .slR .nil)) (.cons rfl (.boxL (.cons (.same rfl) (.cons (.same rfl) (.cons (.same rfl) (.cons (.same rfl) (.cons (.same rfl) (.cons (.same rfl) (.cons (.same rfl) (.cons (.same rfl) (.cons (.same rfl) (.cons (.same rfl) (.cons (.same rfl) (.cons (.same rfl) (.cons (.slE (by first | rfl | (simp; done))) .nil)))))))))))))) (.cons rfl (.arr (by exact (encF_snoc fs ((nthG (keysM b o t) i), ((atM tk d (p ++ [⟨false, (nthG (keysM b o t) i), 0⟩]) none none none fd1).1.getD T.nul))))) (.cons rfl (.arr rfl) .nil)))))
      (.s (.s (.s (.s (.cons rfl .ptrR (.cons rfl .ptrR (.s (.s (.s .nil)))))))))
      (by simp))⟩
  refine .c 94 [0, 1, 91] (.callN [0, 1, 91, 93] [93] false (at_N ih (p ++ [⟨false, (nthG (keysM b o t) i), 0⟩]) none none none fd1 (by have h9 := hk9 (nthG (keysM b o t) i); rw [none_of h12, none_of h20, none_of h24] at h9; exact h9) (by simp; omega) (by have h9 := foldK_bd (atM_grows tk d) (p := p) (b := b) (o := o) (t := t) (ks := keysM b o t) (i := i) (N := 100000) (fs := fs) (fd := fd1) (by omega) (by rw [g2]; exact hBB); rw [none_of h12, none_of h20, none_of h24] at h9; exact h9) h26) Tryz.func56 (hc := by exact (.cons (.cons (.cons .nil Z Z Z (.boxL (.cons (.fnL (.cons (.ptr (nl Z) Z) (.cons (.ptr (nl Z) Z) (.cons (.same Z) .nil)))) .nil))) Z Z Z (.boxL (.cons (.sl (nl Z) Z Z) .nil))) Z Z Z (.arrE Z))) (hv := by exact (.cons .fr (.cons (.same Z) (.cons (.same Z) (.cons (.same Z) (.cons (.ptr (nl Z) Z) (.cons (.ptr (nl Z) Z) (.cons (.same Z) .nil))))))))) ?_
  refine .p [] (.assign Z Z) <| .nil (by kernel_rfl) ?_
  refine .seq <| .region <| .p (.move Z Z) <| .p (.pneq0 ut86 Z Z Z) <| .nil <| .cF Z Z <| .skip <| .region <| .p (.iadd (r := (((i + 1) : Nat) : Int)) Z Z Z (wi (by omega) (by first | rfl | omega | (simp; done)))) ?_
  refine .p (.move Z Z) <| .nil ?_
  have hq : (i + 1) ≤ (keysM b o t).length ∧ foldK (atM tk d) p b o t ((keysM b o t).drop (i + 1)) fs (atM tk d (p ++ [⟨false, (nthG (keysM b o t) i), 0⟩]) none none none fd1).2 = foldK (atM tk d) p b o t (keysM b o t) [] fd ∧ (fs).length ≤ (i + 1) := by
    refine ⟨by omega, ?_, by first | omega | (simp; omega)⟩
    rw [foldK_nth (by omega)] at g2
    rw [none_of h12, none_of h20, none_of h24] at g2
    unfold keepK at g2
    rw [if_neg (by rw [h26]; exact Bool.false_ne_true)] at g2
    exact g2
  exact ⟨⟨((i + 1), fs, (atM tk d (p ++ [⟨false, (nthG (keysM b o t) i), 0⟩]) none none none fd1).2), hq⟩, (by simp; omega), (ALe.of false [(91, 93)] 92
      _
      _
      (.cons rfl (.boxL (.cons (.fnL (.cons .ptrR (.cons .ptrR (.cons (.same rfl) .nil)))) .nil)) (.cons rfl (.boxL (.cons .slR .nil)) (.cons rfl (.boxL (.cons (.same rfl) (.cons (.same rfl) (.cons (.same rfl) (.cons (.same rfl) (.cons (.same rfl) (.cons (.same rfl) (.cons (.same rfl) (.cons (.same rfl) (.cons (.same rfl) (.cons (.same rfl) (.cons (.same rfl) (.cons (.same rfl) (.cons .slR .nil)))))))))))))) (.cons rfl (.arr rfl) (.cons rfl (.arr rfl) .nil)))))
      (.s (.s (.s (.s (.cons rfl .ptrR (.cons rfl .ptrR (.s (.s (.s .nil)))))))))
      (by simp))⟩
  have h10 := decide_eq_false p11
  refine .cF Z h10 ?_
  have hI : foldK (atM tk d) p b o t (keysM b o t) [] fd = (fs, fd1) := by rw [← g2]; exact foldK_end (by omega) _ _
  refine .exit <| .seq <| .region <| .p (.assign Z Z) <| .nil <| .ret ?_
  have hd : atM tk (d + 1) p (some b) (some o) (some t) fd = ((some (T.map (foldK (atM tk d) p b o t (keysM b o t) [] fd).1)), fd1) := by
    simp only [atM]
    rw [if_neg (by simp_all [eqO]), if_neg (by simp_all [eqO]), if_pos ⟨by assumption, by assumption, by assumption⟩, hI]
  exact ⟨_, _, _, _, rfl, ALe.of false [(3, 91)] 4
      [(0, .rp (encX (T.map (foldK (atM tk d) p b o t (keysM b o t) [] fd).1)) 0)]
      [(0, .box [.fn 56 [.P 0, .P 1, .rp [.ro 1 (rowsOf boolCells tk)] 0]]), (1, .box [.sl 3 4 0 fd1.length]), (3, .arr false 4 (rowsOf Cft.cells fd1))]
      (.cons rfl (.boxL (.cons (.fnL (.cons .ptrR (.cons .ptrR (.cons (.same rfl) .nil)))) .nil)) (.cons rfl (.boxL (.cons .slR .nil)) (.cons rfl (.arr rfl) .nil)))
      (.cons rfl (.pfreezeL (cells := [.I 7, .B false, .B false, .S ⟨#[]⟩, .I 0, .I 0, .I 0, .I 0, .I 0, .S ⟨#[]⟩, .O, .O, .sl 90 14 0 fs.length]) (.cons (.litE (by rfl)) (.cons (.litE (by rfl)) (.cons (.litE (by rfl)) (.cons (.litE (by rfl)) (.cons (.litE (by rfl)) (.cons (.litE (by rfl)) (.cons (.litE (by rfl)) (.cons (.litE (by rfl)) (.cons (.litE (by rfl)) (.cons (.litE (by rfl)) (.cons (.nilRo rfl) (.cons (.nilRo rfl) (.cons (.freezeR (els := (encF fs)) (by simp) (by rw [hI]; rfl)) .nil)))))))))))))) .nil)
      (by simp), atEnd1 hd, atEnd2 hd⟩
  have h8 := decide_eq_false p9
  refine .cF Z h8 <| .skip <| .seq <| .region <| .p (.load1 ag53 Z Z Z Z) <| .p (.len_sl ut53 Z Z (Option.some_ne_none _)) <| .p (.assign Z Z) <| .nil <| .seq <| .region_p fol an56_16 (by kernel_rfl) Z ?_
  refine .p [1] (.load1 ag53 Z Z Z Z) <| .p [] (.move Z Z) <| .p [] (.call0 [] false (Join_spec p [] (by omega) (by simp)) Tryz.func41 (hv := by exact (.cons (.same Z) (.cons (.nilRo Z) .nil)))) ?_
  refine .p [] (.move Z Z) <| .p [] (.call0 [] false (some1_spec b hfb) Tryz.func60 (hv := by exact (.same Z))) ?_
  refine .p [] (.move Z Z) <| .p [] (.call0 [] false (some1_spec o hfo) Tryz.func60 (hv := by exact (.same Z))) ?_
  refine .p [] (.move Z Z) <| .p [] (.call0 [] false (some1_spec t hft) Tryz.func60 (hv := by exact (.same Z))) ?_
  refine .p [] (.build Z zt93 Z pl93 Z Z) <| .c 4 [] (.buildSlice 3 true [[.ro 3 (rowsOf Stp.cells (p ++ [])), .ro 13 (encL [b]), .ro 13 (encL [o]), .ro 13 (encL [t])]] ut53 sz93 zt93 Z Z (by decide) (by decide) Z Z Z Z Z Z Z) ?_
  refine .c 5 [2, 3] (.appendN (n2 := (fd.length + 1)) 4 el53 Z Z Z (by first | rfl | (simp; done) | (simp; omega)) (.sl Z Z (nl Z) (by simp)) (by simp only [rowsOf, encF_len, List.length_map, List.length_append, List.length_cons, List.length_nil, List.length_take, List.length_drop]; omega) (by simp only [rowsOf, encF_len, List.length_map, List.length_append, List.length_cons, List.length_nil, List.length_take, List.length_drop]; omega) (by first | rfl | (simp; done) | (simp; omega))) ?_
  refine .c 5 [1] (.store sz53 Z Z Z Z (notup Z) Z Z (nl Z)) <| .nil (by kernel_rfl) ?_
  refine .seq <| .seq <| .region <| .p (.move Z Z) <| .p (.rload1 ag52 Z Z Z) <| .p (.len_ro (n := tk.length) ut52 Z (.inl Z) (by simp)) ?_
  refine .p (.ilss Z Z Z) <| .p (.move Z Z) ?_
  by_cases p28 : ((fd.length : Nat) : Int) < ((tk.length : Nat) : Int)
  have h27 := decide_eq_true p28
  refine .yT (.rload1 ag52 Z Z Z) Z Z h27 <| .yT (.move Z Z) Z Z h27 <| .yT (.iaddr_ro (row := [.B (nthG tk fd.length)]) ut52 sz4 Z Z Z Z (rows_nth (f := boolCells) (by omega))) Z Z h27 ?_
  refine .yT (.rload1 ag4 Z Z Z) Z Z h27 <| .p (.pickE Z Z h27 Z) <| .nil ?_
  rcases Bool.eq_false_or_eq_true (nthG tk fd.length) with h29 | h29
  refine .cT Z h29 <| .seq <| .region <| .p (.move Z Z) <| .p (.assign Z Z) <| .nil <| .ret ?_
  have hd : atM tk (d + 1) p (some b) (some o) (some t) fd = ((some t), (fd ++ [(⟨(p ++ []), [b], [o], [t]⟩ : Cft)])) := by
    simp only [atM]
    rw [if_neg (by simp_all [eqO]), if_neg (by simp_all [eqO])]
    rw [if_neg (by simp_all)]
    simp only [cftM, optL, List.append_nil]
    first | (rw [if_pos ⟨by omega, by assumption⟩]; done) | (rw [if_neg (by first | omega | simp_all)]; done)
  exact ⟨_, _, _, _, rfl, ALe.of false [(3, 4)] 4
      [(0, .rp (encX t) 0)]
      [(0, .box [.fn 56 [.P 0, .P 1, .rp [.ro 1 (rowsOf boolCells tk)] 0]]), (1, .box [.sl 3 4 0 (fd ++ [(⟨(p ++ []), [b], [o], [t]⟩ : Cft)]).length]), (3, .arr false 4 (rowsOf Cft.cells (fd ++ [(⟨(p ++ []), [b], [o], [t]⟩ : Cft)])))]
      (.cons rfl (.boxL (.cons (.fnL (.cons .ptrR (.cons .ptrR (.cons (.same rfl) .nil)))) .nil)) (.cons rfl (.boxL (.cons (.slE (by first | rfl | (simp; done))) .nil)) (.cons rfl (.arr (by exact (rows_append (f := Cft.cells) fd [(⟨(p ++ []), [b], [o], [t]⟩ : Cft)]).symm)) .nil)))
      (.s .nil)
      (by simp), atEnd1 hd, atEnd2 hd⟩
  refine .cF Z h29 <| .skip <| .seq <| .region <| .p (.move Z Z) <| .p (.assign Z Z) <| .nil <| .ret ?_
  have hd : atM tk (d + 1) p (some b) (some o) (some t) fd = ((some o), (fd ++ [(⟨(p ++ []), [b], [o], [t]⟩ : Cft)])) := by
    simp only [atM]
    rw [if_neg (by simp_all [eqO]), if_neg (by simp_all [eqO])]
    rw [if_neg (by simp_all)]
    simp only [cftM, optL, List.append_nil]
    first | (rw [if_pos ⟨by omega, by assumption⟩]; done) | (rw [if_neg (by first | omega | simp_all)]; done)
  exact ⟨_, _, _, _, rfl, ALe.of false [(3, 4)] 4
      [(0, .rp (encX o) 0)]
      [(0, .box [.fn 56 [.P 0, .P 1, .rp [.ro 1 (rowsOf boolCells tk)] 0]]), (1, .box [.sl 3 4 0 (fd ++ [(⟨(p ++ []), [b], [o], [t]⟩ : Cft)]).length]), (3, .arr false 4 (rowsOf Cft.cells (fd ++ [(⟨(p ++ []), [b], [o], [t]⟩ : Cft)])))]
      (.cons rfl (.boxL (.cons (.fnL (.cons .ptrR (.cons .ptrR (.cons (.same rfl) .nil)))) .nil)) (.cons rfl (.boxL (.cons (.slE (by first | rfl | (simp; done))) .nil)) (.cons rfl (.arr (by exact (rows_append (f := Cft.cells) fd [(⟨(p ++ []), [b], [o], [t]⟩ : Cft)]).symm)) .nil)))
      (.s .nil)
      (by simp), atEnd1 hd, atEnd2 hd⟩
  have h27 := decide_eq_false p28
  refine .nF Z Z h27 Z <| .nF Z Z h27 Z <| .nF Z Z h27 Z <| .nF Z Z h27 Z <| .p (.pickE Z Z h27 Z) <| .nil <| .cF Z Z <| .skip <| .seq <| .region <| .p (.move Z Z) <| .p (.assign Z Z) ?_
  refine .nil <| .ret ?_
  have hd : atM tk (d + 1) p (some b) (some o) (some t) fd = ((some o), (fd ++ [(⟨(p ++ []), [b], [o], [t]⟩ : Cft)])) := by
    simp only [atM]
    rw [if_neg (by simp_all [eqO]), if_neg (by simp_all [eqO])]
    rw [if_neg (by simp_all)]
    simp only [cftM, optL, List.append_nil]
    first | (rw [if_pos ⟨by omega, by assumption⟩]; done) | (rw [if_neg (by first | omega | simp_all)]; done)
  exact ⟨_, _, _, _, rfl, ALe.of false [(3, 4)] 4
      [(0, .rp (encX o) 0)]
      [(0, .box [.fn 56 [.P 0, .P 1, .rp [.ro 1 (rowsOf boolCells tk)] 0]]), (1, .box [.sl 3 4 0 (fd ++ [(⟨(p ++ []), [b], [o], [t]⟩ : Cft)]).length]), (3, .arr false 4 (rowsOf Cft.cells (fd ++ [(⟨(p ++ []), [b], [o], [t]⟩ : Cft)])))]
      (.cons rfl (.boxL (.cons (.fnL (.cons .ptrR (.cons .ptrR (.cons (.same rfl) .nil)))) .nil)) (.cons rfl (.boxL (.cons (.slE (by first | rfl | (simp; done))) .nil)) (.cons rfl (.arr (by exact (rows_append (f := Cft.cells) fd [(⟨(p ++ []), [b], [o], [t]⟩ : Cft)]).symm)) .nil)))
      (.s .nil)
      (by simp), atEnd1 hd, atEnd2 hd⟩
  have h6 := decide_eq_false p7
  refine .nF Z Z h6 Z <| .nF Z Z h6 Z <| .nF Z Z h6 Z <| .cons_unasked Z Z Z Z <| .cons_unasked Z Z Z Z <| .cons_unasked Z Z Z Z <| .cons_unasked Z Z Z Z <| .cons_unasked Z Z Z Z <| .nF Z Z h6 Z <| .p (.pickE Z Z h6 Z) <| .nil <| .ws 3 [(0, .ro 3 (rowsOf Stp.cells p)), (1, .rp (encX b) 0), (2, .rp (encX o) 0), (3, .rp (encX t) 0), (4, .P 0), (5, .P 1), (6, .rp [.ro 1 (rowsOf boolCells tk)] 0), (62, .B false)] [(0, .box [.fn 56 [.P 0, .P 1, .rp [.ro 1 (rowsOf boolCells tk)] 0]]), (1, .box [.sl 2 4 0 fd.length]), (2, .arr false 4 (rowsOf Cft.cells fd))] ?_
  refine .cF Z Z <| .skip <| .seq <| .region <| .p (.load1 ag53 Z Z Z Z) <| .p (.len_sl ut53 Z Z (Option.some_ne_none _)) <| .p (.assign Z Z) <| .nil <| .seq <| .region_p fol an56_16 (by kernel_rfl) Z ?_
  refine .p [1] (.load1 ag53 Z Z Z Z) <| .p [] (.move Z Z) <| .p [] (.call0 [] false (Join_spec p [] (by omega) (by simp)) Tryz.func41 (hv := by exact (.cons (.same Z) (.cons (.nilRo Z) .nil)))) ?_
  refine .p [] (.move Z Z) <| .p [] (.call0 [] false (some1_spec b hfb) Tryz.func60 (hv := by exact (.same Z))) ?_
  refine .p [] (.move Z Z) <| .p [] (.call0 [] false (some1_spec o hfo) Tryz.func60 (hv := by exact (.same Z))) ?_
  refine .p [] (.move Z Z) <| .p [] (.call0 [] false (some1_spec t hft) Tryz.func60 (hv := by exact (.same Z))) ?_
  refine .p [] (.build Z zt93 Z pl93 Z Z) <| .c 4 [] (.buildSlice 3 true [[.ro 3 (rowsOf Stp.cells (p ++ [])), .ro 13 (encL [b]), .ro 13 (encL [o]), .ro 13 (encL [t])]] ut53 sz93 zt93 Z Z (by decide) (by decide) Z Z Z Z Z Z Z) ?_
  refine .c 5 [2, 3] (.appendN (n2 := (fd.length + 1)) 4 el53 Z Z Z (by first | rfl | (simp; done) | (simp; omega)) (.sl Z Z (nl Z) (by simp)) (by simp only [rowsOf, encF_len, List.length_map, List.length_append, List.length_cons, List.length_nil, List.length_take, List.length_drop]; omega) (by simp only [rowsOf, encF_len, List.length_map, List.length_append, List.length_cons, List.length_nil, List.length_take, List.length_drop]; omega) (by first | rfl | (simp; done) | (simp; omega))) ?_
  refine .c 5 [1] (.store sz53 Z Z Z Z (notup Z) Z Z (nl Z)) <| .nil (by kernel_rfl) ?_
  refine .seq <| .seq <| .region <| .p (.move Z Z) <| .p (.rload1 ag52 Z Z Z) <| .p (.len_ro (n := tk.length) ut52 Z (.inl Z) (by simp)) ?_
  refine .p (.ilss Z Z Z) <| .p (.move Z Z) ?_
  by_cases p31 : ((fd.length : Nat) : Int) < ((tk.length : Nat) : Int)
  have h30 := decide_eq_true p31
  refine .yT (.rload1 ag52 Z Z Z) Z Z h30 <| .yT (.move Z Z) Z Z h30 <| .yT (.iaddr_ro (row := [.B (nthG tk fd.length)]) ut52 sz4 Z Z Z Z (rows_nth (f := boolCells) (by omega))) Z Z h30 ?_
  refine .yT (.rload1 ag4 Z Z Z) Z Z h30 <| .p (.pickE Z Z h30 Z) <| .nil ?_
  rcases Bool.eq_false_or_eq_true (nthG tk fd.length) with h32 | h32
  refine .cT Z h32 <| .seq <| .region <| .p (.move Z Z) <| .p (.assign Z Z) <| .nil <| .ret ?_
  have hd : atM tk (d + 1) p (some b) (some o) (some t) fd = ((some t), (fd ++ [(⟨(p ++ []), [b], [o], [t]⟩ : Cft)])) := by
    simp only [atM]
    rw [if_neg (by simp_all [eqO]), if_neg (by simp_all [eqO])]
    rw [if_neg (by simp_all)]
    simp only [cftM, optL, List.append_nil]
    first | (rw [if_pos ⟨by omega, by assumption⟩]; done) | (rw [if_neg (by first | omega | simp_all)]; done)
  exact ⟨_, _, _, _, rfl, ALe.of false [(3, 4)] 4
      [(0, .rp (encX t) 0)]
      [(0, .box [.fn 56 [.P 0, .P 1, .rp [.ro 1 (rowsOf boolCells tk)] 0]]), (1, .box [.sl 3 4 0 (fd ++ [(⟨(p ++ []), [b], [o], [t]⟩ : Cft)]).length]), (3, .arr false 4 (rowsOf Cft.cells (fd ++ [(⟨(p ++ []), [b], [o], [t]⟩ : Cft)])))]
      (.cons rfl (.boxL (.cons (.fnL (.cons .ptrR (.cons .ptrR (.cons (.same rfl) .nil)))) .nil)) (.cons rfl (.boxL (.cons (.slE (by first | rfl | (simp; done))) .nil)) (.cons rfl (.arr (by exact (rows_append (f := Cft.cells) fd [(⟨(p ++ []), [b], [o], [t]⟩ : Cft)]).symm)) .nil)))
      (.s .nil)
      (by simp), atEnd1 hd, atEnd2 hd⟩
  refine .cF Z h32 <| .skip <| .seq <| .region <| .p (.move Z Z) <| .p (.assign Z Z) <| .nil <| .ret ?_
  have hd : atM tk (d + 1) p (some b) (some o) (some t) fd = ((some o), (fd ++ [(⟨(p ++ []), [b], [o], [t]⟩ : Cft)])) := by
    simp only [atM]
    rw [if_neg (by simp_all [eqO]), if_neg (by simp_all [eqO])]
    rw [if_neg (by simp_all)]
    simp only [cftM, optL, List.append_nil]
    first | (rw [if_pos ⟨by omega, by assumption⟩]; done) | (rw [if_neg (by first | omega | simp_all)]; done)
  exact ⟨_, _, _, _, rfl, ALe.of false [(3, 4)] 4
      [(0, .rp (encX o) 0)]
      [(0, .box [.fn 56 [.P 0, .P 1, .rp [.ro 1 (rowsOf boolCells tk)] 0]]), (1, .box [.sl 3 4 0 (fd ++ [(⟨(p ++ []), [b], [o], [t]⟩ : Cft)]).length]), (3, .arr false 4 (rowsOf Cft.cells (fd ++ [(⟨(p ++ []), [b], [o], [t]⟩ : Cft)])))]
      (.cons rfl (.boxL (.cons (.fnL (.cons .ptrR (.cons .ptrR (.cons (.same rfl) .nil)))) .nil)) (.cons rfl (.boxL (.cons (.slE (by first | rfl | (simp; done))) .nil)) (.cons rfl (.arr (by exact (rows_append (f := Cft.cells) fd [(⟨(p ++ []), [b], [o], [t]⟩ : Cft)]).symm)) .nil)))
      (.s .nil)
      (by simp), atEnd1 hd, atEnd2 hd⟩
  have h30 := decide_eq_false p31
  refine .nF Z Z h30 Z <| .nF Z Z h30 Z <| .nF Z Z h30 Z <| .nF Z Z h30 Z <| .p (.pickE Z Z h30 Z) <| .nil <| .cF Z Z <| .skip <| .seq <| .region <| .p (.move Z Z) <| .p (.assign Z Z) ?_
  refine .nil <| .ret ?_
  have hd : atM tk (d + 1) p (some b) (some o) (some t) fd = ((some o), (fd ++ [(⟨(p ++ []), [b], [o], [t]⟩ : Cft)])) := by
    simp only [atM]
    rw [if_neg (by simp_all [eqO]), if_neg (by simp_all [eqO])]
    rw [if_neg (by simp_all)]
    simp only [cftM, optL, List.append_nil]
    first | (rw [if_pos ⟨by omega, by assumption⟩]; done) | (rw [if_neg (by first | omega | simp_all)]; done)
  exact ⟨_, _, _, _, rfl, ALe.of false [(3, 4)] 4
      [(0, .rp (encX o) 0)]
      [(0, .box [.fn 56 [.P 0, .P 1, .rp [.ro 1 (rowsOf boolCells tk)] 0]]), (1, .box [.sl 3 4 0 (fd ++ [(⟨(p ++ []), [b], [o], [t]⟩ : Cft)]).length]), (3, .arr false 4 (rowsOf Cft.cells (fd ++ [(⟨(p ++ []), [b], [o], [t]⟩ : Cft)])))]
      (.cons rfl (.boxL (.cons (.fnL (.cons .ptrR (.cons .ptrR (.cons (.same rfl) .nil)))) .nil)) (.cons rfl (.boxL (.cons (.slE (by first | rfl | (simp; done))) .nil)) (.cons rfl (.arr (by exact (rows_append (f := Cft.cells) fd [(⟨(p ++ []), [b], [o], [t]⟩ : Cft)]).symm)) .nil)))
      (.s .nil)
      (by simp), atEnd1 hd, atEnd2 hd⟩
  have h4 := decide_eq_false p5
  refine .nF Z Z h4 Z <| .nF Z Z h4 Z <| .nF Z Z h4 Z <| .nF Z Z h4 Z <| .nF Z Z h4 Z <| .p (.pickE Z Z h4 Z) <| .p (.move Z Z) <| .nF Z Z (Eq.refl false) Z <| .nF Z Z (Eq.refl false) Z <| .nF Z Z (Eq.refl false) Z <| .cons_unasked Z Z Z Z <| .cons_unasked Z Z Z Z ?_
  refine .cons_unasked Z Z Z Z <| .cons_unasked Z Z Z Z <| .cons_unasked Z Z Z Z <| .nF Z Z (Eq.refl false) Z <| .p (.pick Z Z Z) <| .nil <| .ws 3 [(0, .ro 3 (rowsOf Stp.cells p)), (1, .rp (encX b) 0), (2, .rp (encX o) 0), (3, .rp (encX t) 0), (4, .P 0), (5, .P 1), (6, .rp [.ro 1 (rowsOf boolCells tk)] 0), (62, .B false)] [(0, .box [.fn 56 [.P 0, .P 1, .rp [.ro 1 (rowsOf boolCells tk)] 0]]), (1, .box [.sl 2 4 0 fd.length]), (2, .arr false 4 (rowsOf Cft.cells fd))] <| .cF Z Z <| .skip <| .seq <| .region <| .p (.load1 ag53 Z Z Z Z) ?_
  refine .p (.len_sl ut53 Z Z (Option.some_ne_none _)) <| .p (.assign Z Z) <| .nil <| .seq <| .region_p fol an56_16 (by kernel_rfl) Z ?_
  refine .p [1] (.load1 ag53 Z Z Z Z) <| .p [] (.move Z Z) <| .p [] (.call0 [] false (Join_spec p [] (by omega) (by simp)) Tryz.func41 (hv := by exact (.cons (.same Z) (.cons (.nilRo Z) .nil)))) ?_
  refine .p [] (.move Z Z) <| .p [] (.call0 [] false (some1_spec b hfb) Tryz.func60 (hv := by exact (.same Z))) ?_
  refine .p [] (.move Z Z) <| .p [] (.call0 [] false (some1_spec o hfo) Tryz.func60 (hv := by exact (.same Z))) ?_
  refine .p [] (.move Z Z) <| .p [] (.call0 [] false (some1_spec t hft) Tryz.func60 (hv := by exact (.same Z))) ?_
  refine .p [] (.build Z zt93 Z pl93 Z Z) <| .c 4 [] (.buildSlice 3 true [[.ro 3 (rowsOf Stp.cells (p ++ [])), .ro 13 (encL [b]), .ro 13 (encL [o]), .ro 13 (encL [t])]] ut53 sz93 zt93 Z Z (by decide) (by decide) Z Z Z Z Z Z Z) ?_
  refine .c 5 [2, 3] (.appendN (n2 := (fd.length + 1)) 4 el53 Z Z Z (by first | rfl | (simp; done) | (simp; omega)) (.sl Z Z (nl Z) (by simp)) (by simp only [rowsOf, encF_len, List.length_map, List.length_append, List.length_cons, List.length_nil, List.length_take, List.length_drop]; omega) (by simp only [rowsOf, encF_len, List.length_map, List.length_append, List.length_cons, List.length_nil, List.length_take, List.length_drop]; omega) (by first | rfl | (simp; done) | (simp; omega))) ?_
  refine .c 5 [1] (.store sz53 Z Z Z Z (notup Z) Z Z (nl Z)) <| .nil (by kernel_rfl) ?_
  refine .seq <| .seq <| .region <| .p (.move Z Z) <| .p (.rload1 ag52 Z Z Z) <| .p (.len_ro (n := tk.length) ut52 Z (.inl Z) (by simp)) ?_
  refine .p (.ilss Z Z Z) <| .p (.move Z Z) ?_
  by_cases p34 : ((fd.length : Nat) : Int) < ((tk.length : Nat) : Int)
  have h33 := decide_eq_true p34
  refine .yT (.rload1 ag52 Z Z Z) Z Z h33 <| .yT (.move Z Z) Z Z h33 <| .yT (.iaddr_ro (row := [.B (nthG tk fd.length)]) ut52 sz4 Z Z Z Z (rows_nth (f := boolCells) (by omega))) Z Z h33 ?_
  refine .yT (.rload1 ag4 Z Z Z) Z Z h33 <| .p (.pickE Z Z h33 Z) <| .nil ?_
  rcases Bool.eq_false_or_eq_true (nthG tk fd.length) with h35 | h35
  refine .cT Z h35 <| .seq <| .region <| .p (.move Z Z) <| .p (.assign Z Z) <| .nil <| .ret ?_
  have hd : atM tk (d + 1) p (some b) (some o) (some t) fd = ((some t), (fd ++ [(⟨(p ++ []), [b], [o], [t]⟩ : Cft)])) := by
    simp only [atM]
    rw [if_neg (by simp_all [eqO]), if_neg (by simp_all [eqO])]
    rw [if_neg (by simp_all)]
    simp only [cftM, optL, List.append_nil]
    first | (rw [if_pos ⟨by omega, by assumption⟩]; done) | (rw [if_neg (by first | omega | simp_all)]; done)
  exact ⟨_, _, _, _, rfl, ALe.of false [(3, 4)] 4
      [(0, .rp (encX t) 0)]
      [(0, .box [.fn 56 [.P 0, .P 1, .rp [.ro 1 (rowsOf boolCells tk)] 0]]), (1, .box [.sl 3 4 0 (fd ++ [(⟨(p ++ []), [b], [o], [t]⟩ : Cft)]).length]), (3, .arr false 4 (rowsOf Cft.cells (fd ++ [(⟨(p ++ []), [b], [o], [t]⟩ : Cft)])))]
      (.cons rfl (.boxL (.cons (.fnL (.cons .ptrR (.cons .ptrR (.cons (.same rfl) .nil)))) .nil)) (.cons rfl (.boxL (.cons (.slE (by first | rfl | (simp; done))) .nil)) (.cons rfl (.arr (by exact (rows_append (f := Cft.cells) fd [(⟨(p ++ []), [b], [o], [t]⟩ : Cft)]).symm)) .nil)))
      (.s .nil)
      (by simp), atEnd1 hd, atEnd2 hd⟩
  refine .cF Z h35 <| .skip <| .seq <| .region <| .p (.move Z Z) <| .p (.assign Z Z) <| .nil <| .ret ?_
  have hd : atM tk (d + 1) p (some b) (some o) (some t) fd = ((some o), (fd ++ [(⟨(p ++ []), [b], [o], [t]⟩ : Cft)])) := by
    simp only [atM]
    rw [if_neg (by simp_all [eqO]), if_neg (by simp_all [eqO])]
    rw [if_neg (by simp_all)]
    simp only [cftM, optL, List.append_nil]
    first | (rw [if_pos ⟨by omega, by assumption⟩]; done) | (rw [if_neg (by first | omega | simp_all)]; done)
  exact ⟨_, _, _, _, rfl, ALe.of false [(3, 4)] 4
      [(0, .rp (encX o) 0)]
      [(0, .box [.fn 56 [.P 0, .P 1, .rp [.ro 1 (rowsOf boolCells tk)] 0]]), (1, .box [.sl 3 4 0 (fd ++ [(⟨(p ++ []), [b], [o], [t]⟩ : Cft)]).length]), (3, .arr false 4 (rowsOf Cft.cells (fd ++ [(⟨(p ++ []), [b], [o], [t]⟩ : Cft)])))]
      (.cons rfl (.boxL (.cons (.fnL (.cons .ptrR (.cons .ptrR (.cons (.same rfl) .nil)))) .nil)) (.cons rfl (.boxL (.cons (.slE (by first | rfl | (simp; done))) .nil)) (.cons rfl (.arr (by exact (rows_append (f := Cft.cells) fd [(⟨(p ++ []), [b], [o], [t]⟩ : Cft)]).symm)) .nil)))
      (.s .nil)
      (by simp), atEnd1 hd, atEnd2 hd⟩
  have h33 := decide_eq_false p34
  refine .nF Z Z h33 Z <| .nF Z Z h33 Z <| .nF Z Z h33 Z <| .nF Z Z h33 Z <| .p (.pickE Z Z h33 Z) <| .nil <| .cF Z Z <| .skip <| .seq <| .region <| .p (.move Z Z) <| .p (.assign Z Z) ?_
  refine .nil <| .ret ?_
  have hd : atM tk (d + 1) p (some b) (some o) (some t) fd = ((some o), (fd ++ [(⟨(p ++ []), [b], [o], [t]⟩ : Cft)])) := by
    simp only [atM]
    rw [if_neg (by simp_all [eqO]), if_neg (by simp_all [eqO])]
    rw [if_neg (by simp_all)]
    simp only [cftM, optL, List.append_nil]
    first | (rw [if_pos ⟨by omega, by assumption⟩]; done) | (rw [if_neg (by first | omega | simp_all)]; done)
  exact ⟨_, _, _, _, rfl, ALe.of false [(3, 4)] 4
      [(0, .rp (encX o) 0)]
      [(0, .box [.fn 56 [.P 0, .P 1, .rp [.ro 1 (rowsOf boolCells tk)] 0]]), (1, .box [.sl 3 4 0 (fd ++ [(⟨(p ++ []), [b], [o], [t]⟩ : Cft)]).length]), (3, .arr false 4 (rowsOf Cft.cells (fd ++ [(⟨(p ++ []), [b], [o], [t]⟩ : Cft)])))]
      (.cons rfl (.boxL (.cons (.fnL (.cons .ptrR (.cons .ptrR (.cons (.same rfl) .nil)))) .nil)) (.cons rfl (.boxL (.cons (.slE (by first | rfl | (simp; done))) .nil)) (.cons rfl (.arr (by exact (rows_append (f := Cft.cells) fd [(⟨(p ++ []), [b], [o], [t]⟩ : Cft)]).symm)) .nil)))
      (.s .nil)
      (by simp), atEnd1 hd, atEnd2 hd⟩

theorem atAll_spec (tk : List Bool) (htk : tk.length ≤ 100000) : ∀ (d : Nat), d ≤ 900 → AtH tk d := by
  intro d
  induction d with
  | zero => intro _ p b o t fd h; exact absurd h id
  | succ d ih =>
    intro hd p b o t fd h h2 h3
    have ih := ih (by omega)
    rcases b with _ | b <;> rcases o with _ | o <;> rcases t with _ | t
    · exact at000_spec tk htk d (by omega) ih p fd h h2 h3
    · exact at001_spec tk htk d (by omega) ih p t fd h h2 h3
    · exact at010_spec tk htk d (by omega) ih p o fd h h2 h3
    · exact absurd rfl (fun e => h.2.2.2.1 e rfl rfl)
    · exact at100_spec tk htk d (by omega) ih p b fd h h2 h3
    · exact at101_spec tk htk d (by omega) ih p b t fd h h2 h3
    · exact at110_spec tk htk d (by omega) ih p b o fd h h2 h3
    · exact at111_spec tk htk d (by omega) ih p b o t fd h h2 h3
end Go.Abs
