/- Part 15 of the proof that TopAltered returns true for every input of its row (no condition beyond the row). -/
import Derived.Test.YtelfcalhhfmjfaaGreatDoorT14
set_option linter.unusedVariables false
set_option linter.unusedSimpArgs false
namespace Go.Abs
open Go.Proofs
set_option maxRecDepth 100000
set_option maxHeartbeats 8000000

theorem fo55_1 : fieldOff Tryz.prog 55 1 = some 1 := by kernel_rfl
def an61_2 : List Nat := [0, 0, 2, 6, 14, 0, 32, 126, 255, 511, 1023]
theorem ag93 : isAggT Tryz.prog 93 = some true := by kernel_rfl
theorem fo55_0 : fieldOff Tryz.prog 55 0 = some 0 := by kernel_rfl

theorem settle_spec (tk : List Bool) (c : Cft) (fd : List Cft) (htk : tk.length ≤ 100000) (hfd : fd.length ≤ 100000) : FSpec Tryz.prog 61 2 [.P 0, .agg [.ro 3 (rowsOf Stp.cells c.path), .ro 13 (encL c.base), .ro 13 (encL c.ours), .ro 13 (encL c.other)]] (hpOf [(0, .box [.ro 1 (rowsOf boolCells tk), .sl 1 4 0 fd.length]), (1, .arr false 4 (rowsOf Cft.cells fd))]) (fun r h => r = .ro 13 (encL (settleM tk c fd)) ∧ h = hpOf [(0, .box [.ro 1 (rowsOf boolCells tk), .sl 2 4 0 (fd ++ [c]).length]), (2, .arr false 4 (rowsOf Cft.cells (fd ++ [c])))]) := by
  refine FSpec.intro Tryz.func61 rfl (nl rfl) (nl rfl) fun s0 w0 hs0 hn0 => ?_
  refine .ws 2 [(0, .P 0), (1, .agg [.ro 3 (rowsOf Stp.cells c.path), .ro 13 (encL c.base), .ro 13 (encL c.ours), .ro 13 (encL c.other)])] [(0, .box [.ro 1 (rowsOf boolCells tk), .sl 1 4 0 fd.length]), (1, .arr false 4 (rowsOf Cft.cells fd))] <| .seq <| .region <| .c1 (.box 2 Z Z (notup Z)) <| .p (.assign Z Z) <| .nil <| .seq <| .region <| .p (.move Z Z) <| .p (.nilCheck Z Z Z) <| .p (.faddr fo55_1 Z Z) <| .p (.load1 ag53 Z Z Z Z) ?_
  refine .p (.len_sl ut53 Z Z (Option.some_ne_none _)) <| .p (.assign Z Z) <| .nil <| .seq <| .region_p fol an61_2 (by kernel_rfl) Z ?_
  refine .p [] (.move Z Z) <| .p [] (.move Z Z) <| .p [] (.nilCheck Z Z Z) <| .p [] (.faddr fo55_1 Z Z) <| .p [0] (.load1 ag53 Z Z Z Z) <| .p [2] (.loadN ag93 sz93 Z Z Z (nl Z)) <| .c 4 [] (.buildSlice 3 false [[.ro 3 (rowsOf Stp.cells c.path), .ro 13 (encL c.base), .ro 13 (encL c.ours), .ro 13 (encL c.other)]] ut53 sz93 zt93 Z Z (by decide) (by decide) Z Z Z Z Z Z Z) ?_
  refine .c 5 [1, 3] (.appendN (n2 := (fd.length + 1)) 4 el53 Z Z Z (by first | rfl | (simp; done) | (simp; omega)) (.sl Z Z (nl Z) (by simp)) (by simp only [rowsOf, List.length_map, List.length_append, List.length_take, List.length_drop, List.length_cons, List.length_nil]; omega) (by simp only [rowsOf, List.length_map, List.length_append, List.length_take, List.length_drop, List.length_cons, List.length_nil]; omega) (by first | rfl | (simp; done) | (simp; omega))) ?_
  refine .p [] (.nilCheck Z Z Z) <| .p [] (.faddr fo55_1 Z Z) <| .c 5 [0] (.store sz53 Z Z Z Z (notup Z) Z Z (nl Z)) <| .nil (by kernel_rfl) ?_
  refine .seq <| .seq <| .region <| .p (.move Z Z) <| .p (.move Z Z) <| .p (.nilCheck Z Z Z) <| .p (.faddr fo55_0 Z Z) <| .p (.load1 ag52 Z Z Z Z) <| .p (.len_ro (n := tk.length) ut52 Z (.inl Z) (by simp)) ?_
  refine .p (.ilss Z Z Z) <| .p (.move Z Z) ?_
  by_cases p2 : ((fd.length : Nat) : Int) < ((tk.length : Nat) : Int)
  have h1 := decide_eq_true p2
  refine .yT (.move Z Z) Z Z h1 <| .yT (.nilCheck Z Z Z) Z Z h1 <| .yT (.faddr fo55_0 Z Z) Z Z h1 <| .yT (.load1 ag52 Z Z Z Z) Z Z h1 <| .yT (.move Z Z) Z Z h1 <| .yT (.iaddr_ro (row := [.B (nthG tk fd.length)]) ut52 sz4 Z Z Z Z (rows_nth (f := boolCells) (by first | omega | (simp; omega)))) Z Z h1 ?_
  refine .yT (.rload1 ag4 Z Z Z) Z Z h1 <| .p (.pickE Z Z h1 Z) <| .nil ?_
  rcases Bool.eq_false_or_eq_true (nthG tk fd.length) with h3 | h3
  refine .cT Z h3 <| .seq <| .region <| .p (.faddr fo93_3 Z Z) <| .p (.load1 ag32 Z Z Z Z) <| .p (.assign Z Z) <| .nil <| .ret ?_
  exact ⟨_, _, _, _, rfl, ALe.of false [(2, 4)] 3
      [(0, .ro 13 (encL (settleM tk c fd)))]
      [(0, .box [.ro 1 (rowsOf boolCells tk), .sl 2 4 0 (fd ++ [c]).length]), (2, .arr false 4 (rowsOf Cft.cells (fd ++ [c])))]
      (.cons rfl (.boxL (.cons (.same rfl) (.cons (.slE (by first | rfl | (simp; done))) .nil))) (.cons rfl (.arr (rows_append (f := Cft.cells) fd [c]).symm) .nil))
      (.cons rfl (.roE (by unfold settleM; first | (rw [if_pos ⟨by omega, by assumption⟩]; done) | (rw [if_neg (by first | omega | simp_all)]; done))) .nil)
      (by simp), rfl, rfl⟩
  refine .cF Z h3 <| .skip <| .seq <| .region <| .p (.faddr fo93_2 Z Z) <| .p (.load1 ag32 Z Z Z Z) <| .p (.assign Z Z) <| .nil <| .ret ?_
  exact ⟨_, _, _, _, rfl, ALe.of false [(2, 4)] 3
      [(0, .ro 13 (encL (settleM tk c fd)))]
      [(0, .box [.ro 1 (rowsOf boolCells tk), .sl 2 4 0 (fd ++ [c]).length]), (2, .arr false 4 (rowsOf Cft.cells (fd ++ [c])))]
      (.cons rfl (.boxL (.cons (.same rfl) (.cons (.slE (by first | rfl | (simp; done))) .nil))) (.cons rfl (.arr (rows_append (f := Cft.cells) fd [c]).symm) .nil))
      (.cons rfl (.roE (by unfold settleM; first | (rw [if_pos ⟨by omega, by assumption⟩]; done) | (rw [if_neg (by first | omega | simp_all)]; done))) .nil)
      (by simp), rfl, rfl⟩
  have h1 := decide_eq_false p2
  refine .nF Z Z h1 Z <| .nF Z Z h1 Z <| .nF Z Z h1 Z <| .nF Z Z h1 Z <| .nF Z Z h1 Z <| .nF Z Z h1 Z <| .nF Z Z h1 Z <| .p (.pickE Z Z h1 Z) <| .nil <| .cF Z Z <| .skip <| .seq ?_
  refine .region <| .p (.faddr fo93_2 Z Z) <| .p (.load1 ag32 Z Z Z Z) <| .p (.assign Z Z) <| .nil <| .ret ?_
  exact ⟨_, _, _, _, rfl, ALe.of false [(2, 4)] 3
      [(0, .ro 13 (encL (settleM tk c fd)))]
      [(0, .box [.ro 1 (rowsOf boolCells tk), .sl 2 4 0 (fd ++ [c]).length]), (2, .arr false 4 (rowsOf Cft.cells (fd ++ [c])))]
      (.cons rfl (.boxL (.cons (.same rfl) (.cons (.slE (by first | rfl | (simp; done))) .nil))) (.cons rfl (.arr (rows_append (f := Cft.cells) fd [c]).symm) .nil))
      (.cons rfl (.roE (by unfold settleM; first | (rw [if_pos ⟨by omega, by assumption⟩]; done) | (rw [if_neg (by first | omega | simp_all)]; done))) .nil)
      (by simp), rfl, rfl⟩
end Go.Abs
namespace Go.Abs
open Go.Proofs
set_option maxRecDepth 100000
set_option maxHeartbeats 8000000

def an33_1 : List Nat := [0, 1, 3, 7, 0, 0, 51, 0, 0, 0, 512, 2035, 0, 0, 0, 16384, 65523, 131071, 0, 524287]
def an33_10 : List Nat := [0, 1, 3, 7, 15, 0, 63, 127, 0, 256, 768, 1792, 3840, 0, 16128, 32512, 65280, 0, 131072, 393216, 917504, 1966080, 0, 8257536, 16646144, 33423360, 0, 0, 0, 469762303, 1006764031, 2147483647]
def an33_12 : List Nat := [0, 1, 3, 0, 8, 24, 63, 127]

theorem field_spec (tk : List Bool) (u : Ru) (i o x : Nat) (fd : List Cft) (hu : u.ok) (hi : i ≤ 1000) (ho : o ≤ 4) (hx : x ≤ 4) (htk : tk.length ≤ 100000) (hfd : fd.length ≤ 90000) : FSpec Tryz.prog 33 2 [.P 0, .agg [.lit (.int .u16 ((u.mul : Nat) : Int)), .lit (.int .u16 ((u.add : Nat) : Int)), .lit (.int .u16 ((u.md : Nat) : Int))], .N i, .agg [.N o, .N x]] (hpOf [(0, .box [.ro 1 (rowsOf boolCells tk), .sl 1 4 0 fd.length]), (1, .arr false 4 (rowsOf Cft.cells fd))]) (fun r h => r = .ro 13 (encL (fieldJ tk u i o x fd).1) ∧ h = hpOf [(0, .box [.ro 1 (rowsOf boolCells tk), .sl 2 4 0 (fieldJ tk u i o x fd).2.length]), (2, .arr false 4 (rowsOf Cft.cells (fieldJ tk u i o x fd).2))]) := by
  refine FSpec.intro Tryz.func33 rfl (nl rfl) (nl rfl) fun s0 w0 hs0 hn0 => ?_
  refine .ws 2 [(0, .P 0), (1, .agg [.lit (.int .u16 ((u.mul : Nat) : Int)), .lit (.int .u16 ((u.add : Nat) : Int)), .lit (.int .u16 ((u.md : Nat) : Int))]), (2, .N i), (3, .agg [.N o, .N x])] [(0, .box [.ro 1 (rowsOf boolCells tk), .sl 1 4 0 fd.length]), (1, .arr false 4 (rowsOf Cft.cells fd))] <| .seq <| .region <| .c1 (.box 2 Z Z (notup Z)) <| .c1 (.box 3 Z Z (notup Z)) <| .p (.assign Z Z) <| .nil <| .seq <| .region_p fol an33_1 (by kernel_rfl) Z ?_
  refine .p [] (.move Z Z) <| .p [] (.call0 [] false (key_spec i (by omega)) Tryz.func21 (hv := by exact (.same Z))) ?_
  refine .p [] (.build Z zt75 Z pl75 Z Z) <| .p [] (.buildRo true (rowsOf Stp.cells [⟨false, (strOf (keyL i)), 0⟩]) ut76 sz75 zt75 Z Z (by decide) (by decide) Z Z Z Z Z Z Z) ?_
  refine .p [2] (.loadN ag24 sz24 Z Z Z (nl Z)) <| .p [] (.move Z Z) <| .p [] (.call0 [] false (side_spec u i 0 0 hu (by omega) (by omega) (by first | omega | exact (deed_le m i).1 | exact (deed_le m i).2)) Tryz.func20 (hv := by exact (.cons (.aggL (.same Z)) (.cons (.same Z) (.cons (.same Z) (.cons (.same Z) .nil)))))) ?_
  refine .p [2] (.loadN ag24 sz24 Z Z Z (nl Z)) <| .p [] (.move Z Z) <| .p [] (.faddr fo66_0 Z Z) <| .p [3] (.load1 ag3 Z Z Z Z) <| .p [] (.call0 [] false (side_spec u i 1 o hu (by omega) (by omega) (by first | omega | exact (deed_le m i).1 | exact (deed_le m i).2)) Tryz.func20 (hv := by exact (.cons (.aggL (.same Z)) (.cons (.same Z) (.cons (.same Z) (.cons (.same Z) .nil)))))) ?_
  refine .p [2] (.loadN ag24 sz24 Z Z Z (nl Z)) <| .p [] (.move Z Z) <| .p [] (.faddr fo66_1 Z Z) <| .p [3] (.load1 ag3 Z Z Z Z) <| .p [] (.call0 [] false (side_spec u i 2 x hu (by omega) (by omega) (by first | omega | exact (deed_le m i).1 | exact (deed_le m i).2)) Tryz.func20 (hv := by exact (.cons (.aggL (.same Z)) (.cons (.same Z) (.cons (.same Z) (.cons (.same Z) .nil)))))) ?_
  refine .p [] (.build Z zt93 Z pl93 Z Z) <| .c 5 [] (.alloc 4 Z zt93 Z) <| .c 5 [4] (.store sz93 Z Z Z Z (notup Z) Z Z (nl Z)) <| .nil (by kernel_rfl) ?_
  refine AWP.weak false [] 5
      [(0, .P 0), (2, .N i), (7, .P 3), (9, .P 4)]
      [(0, .box [.ro 1 (rowsOf boolCells tk), .sl 1 4 0 fd.length]), (1, .arr false 4 (rowsOf Cft.cells fd)), (3, .box [.N o, .N x]), (4, .box [.ro 3 (rowsOf Stp.cells [⟨false, (strOf (keyL i)), 0⟩]), .ro 13 (encL (sideL u i 0 0)), .ro 13 (encL (sideL u i 1 o)), .ro 13 (encL (sideL u i 2 x))])]
      (.cons rfl (.boxL (.cons (.same rfl) (.cons .slR .nil))) (.cons rfl (.arr rfl) (.cons rfl (.boxS rfl) (.cons rfl (.boxL (.cons .unfr (.cons .unfr (.cons .unfr (.cons .unfr .nil))))) .nil))))
      (.cons rfl .ptrR (.s (.cons rfl .ptrR (.cons rfl .ptrR .nil))))
      (by simp) ?_
  refine .seq <| .seq <| .region <| .p (.faddr fo66_0 Z Z) <| .p (.load1 ag3 Z Z Z Z) <| .p (.ieql Z Z Z) <| .p (.move Z Z) ?_
  by_cases p2 : ((o : Nat) : Int) = 4
  have h1 := decide_eq_true p2
  refine .nT Z Z h1 Z <| .nT Z Z h1 Z <| .nT Z Z h1 Z <| .p (.pickE Z Z h1 Z) <| .nil <| .cT Z Z <| .seq <| .seq <| .region <| .p (.faddr fo66_0 Z Z) <| .p (.load1 ag3 Z Z Z Z) <| .p (.faddr fo66_1 Z Z) ?_
  refine .p (.load1 ag3 Z Z Z Z) <| .p (.ieql Z Z Z) <| .p (.move Z Z) ?_
  by_cases p4 : ((o : Nat) : Int) = ((x : Nat) : Int)
  have h3 := decide_eq_true p4
  refine .nT Z Z h3 Z <| .nT Z Z h3 Z <| .nT Z Z h3 Z <| .p (.pickE Z Z h3 Z) <| .p (.move Z Z) <| .nT Z Z (Eq.refl true) Z <| .nT Z Z (Eq.refl true) Z <| .nT Z Z (Eq.refl true) Z <| .p (.pick Z Z Z) <| .nil <| .cT Z Z <| .seq ?_
  refine .region <| .p (.assign Z Z) <| .nil <| .ret ?_
  have hd : fieldJ tk u i o x fd = ([], fd) := by
    unfold fieldJ
    rw [if_pos (by omega), if_pos (by omega)]
  exact ⟨_, _, _, _, rfl, ALe.of false [(2, 1)] 3
      [(0, .ro 13 (encL (fieldJ tk u i o x fd).1))]
      [(0, .box [.ro 1 (rowsOf boolCells tk), .sl 2 4 0 (fieldJ tk u i o x fd).2.length]), (2, .arr false 4 (rowsOf Cft.cells (fieldJ tk u i o x fd).2))]
      (.cons rfl (.boxL (.cons (.same rfl) (.cons (.slE (by first | (rw [hd]; done) | (rw [hd]; simp; done))) .nil))) (.cons rfl (.arr (by rw [hd])) .nil))
      (.cons rfl (.nilRo (by rw [hd]; rfl)) .nil)
      (by simp), rfl, rfl⟩
  have h3 := decide_eq_false p4
  refine .yF (.faddr fo66_0 Z Z) Z Z h3 <| .yF (.load1 ag3 Z Z Z Z) Z Z h3 <| .yF (.ieql Z Z Z) Z Z h3 <| .p (.pickE Z Z h3 Z) <| .p (.move Z Z) ?_
  by_cases p6 : ((o : Nat) : Int) = 0
  have h5 := decide_eq_true p6
  refine .nT Z Z h5 Z <| .nT Z Z h5 Z <| .nT Z Z h5 Z <| .p (.pickE Z Z h5 Z) <| .nil <| .cT Z Z <| .seq <| .region <| .p (.assign Z Z) <| .nil <| .ret ?_
  have hd : fieldJ tk u i o x fd = ([], fd) := by
    unfold fieldJ
    rw [if_pos (by omega), if_pos (by omega)]
  exact ⟨_, _, _, _, rfl, ALe.of false [(2, 1)] 3
      [(0, .ro 13 (encL (fieldJ tk u i o x fd).1))]
      [(0, .box [.ro 1 (rowsOf boolCells tk), .sl 2 4 0 (fieldJ tk u i o x fd).2.length]), (2, .arr false 4 (rowsOf Cft.cells (fieldJ tk u i o x fd).2))]
      (.cons rfl (.boxL (.cons (.same rfl) (.cons (.slE (by first | (rw [hd]; done) | (rw [hd]; simp; done))) .nil))) (.cons rfl (.arr (by rw [hd])) .nil))
      (.cons rfl (.nilRo (by rw [hd]; rfl)) .nil)
      (by simp), rfl, rfl⟩
  have h5 := decide_eq_false p6
  refine .yF (.faddr fo66_1 Z Z) Z Z h5 <| .yF (.load1 ag3 Z Z Z Z) Z Z h5 <| .yF (.ieql Z Z Z) Z Z h5 <| .p (.pickE Z Z h5 Z) <| .nil ?_
  by_cases p8 : ((x : Nat) : Int) = 0
  have h7 := decide_eq_true p8
  refine .cT Z h7 <| .seq <| .region <| .p (.assign Z Z) <| .nil <| .ret ?_
  have hd : fieldJ tk u i o x fd = ([], fd) := by
    unfold fieldJ
    rw [if_pos (by omega), if_pos (by omega)]
  exact ⟨_, _, _, _, rfl, ALe.of false [(2, 1)] 3
      [(0, .ro 13 (encL (fieldJ tk u i o x fd).1))]
      [(0, .box [.ro 1 (rowsOf boolCells tk), .sl 2 4 0 (fieldJ tk u i o x fd).2.length]), (2, .arr false 4 (rowsOf Cft.cells (fieldJ tk u i o x fd).2))]
      (.cons rfl (.boxL (.cons (.same rfl) (.cons (.slE (by first | (rw [hd]; done) | (rw [hd]; simp; done))) .nil))) (.cons rfl (.arr (by rw [hd])) .nil))
      (.cons rfl (.nilRo (by rw [hd]; rfl)) .nil)
      (by simp), rfl, rfl⟩
  have h7 := decide_eq_false p8
  refine .cF Z h7 <| .skip <| .seq <| .region <| .p (.move Z Z) <| .p (.loadN ag93 sz93 Z Z Z (nl Z)) <| .c1 (.callN [0, 1, 5] [5] false (settle_spec tk (⟨[⟨false, (strOf (keyL i)), 0⟩], (sideL u i 0 0), (sideL u i 1 o), (sideL u i 2 x)⟩ : Cft) fd htk (by first | omega | (simp; omega))) Tryz.func61 (hc := by exact (.cons (.cons .nil Z Z Z (.boxL (.cons (.same Z) (.cons (.sl (nl Z) Z Z) .nil)))) Z Z Z (.arrE Z))) (hv := by exact (.cons (.ptr (nl Z) Z) (.cons (.aggL (.same Z)) .nil)))) ?_
  refine .p (.assign Z Z) <| .nil <| .ret ?_
  have hd : fieldJ tk u i o x fd = ((settleM tk (⟨[⟨false, (strOf (keyL i)), 0⟩], (sideL u i 0 0), (sideL u i 1 o), (sideL u i 2 x)⟩ : Cft) fd), (fd ++ [(⟨[⟨false, (strOf (keyL i)), 0⟩], (sideL u i 0 0), (sideL u i 1 o), (sideL u i 2 x)⟩ : Cft)])) := by
    unfold fieldJ
    rw [if_pos (by omega), if_neg (by omega)]
  exact ⟨_, _, _, _, rfl, ALe.of false [(2, 5)] 3
      [(0, .ro 13 (encL (fieldJ tk u i o x fd).1))]
      [(0, .box [.ro 1 (rowsOf boolCells tk), .sl 2 4 0 (fieldJ tk u i o x fd).2.length]), (2, .arr false 4 (rowsOf Cft.cells (fieldJ tk u i o x fd).2))]
      (.cons rfl (.boxL (.cons (.same rfl) (.cons (.slE (by first | (rw [hd]; done) | (rw [hd]; simp; done))) .nil))) (.cons rfl (.arr (by rw [hd])) .nil))
      (.cons rfl (.roE (by first | (rw [hd]; done) | (rw [hd]; rfl))) .nil)
      (by simp), rfl, rfl⟩
  have h1 := decide_eq_false p2
  refine .yF (.faddr fo66_1 Z Z) Z Z h1 <| .yF (.load1 ag3 Z Z Z Z) Z Z h1 <| .yF (.ieql Z Z Z) Z Z h1 <| .p (.pickE Z Z h1 Z) <| .nil ?_
  by_cases p10 : ((x : Nat) : Int) = 4
  have h9 := decide_eq_true p10
  refine .cT Z h9 <| .seq <| .seq <| .region <| .p (.faddr fo66_0 Z Z) <| .p (.load1 ag3 Z Z Z Z) <| .p (.faddr fo66_1 Z Z) <| .p (.load1 ag3 Z Z Z Z) <| .p (.ieql Z Z Z) <| .p (.move Z Z) ?_
  by_cases p12 : ((o : Nat) : Int) = ((x : Nat) : Int)
  have h11 := decide_eq_true p12
  refine .nT Z Z h11 Z <| .nT Z Z h11 Z <| .nT Z Z h11 Z <| .p (.pickE Z Z h11 Z) <| .p (.move Z Z) <| .nT Z Z (Eq.refl true) Z <| .nT Z Z (Eq.refl true) Z <| .nT Z Z (Eq.refl true) Z <| .p (.pick Z Z Z) <| .nil <| .cT Z Z <| .seq ?_
  refine .region <| .p (.assign Z Z) <| .nil <| .ret ?_
  have hd : fieldJ tk u i o x fd = ([], fd) := by
    unfold fieldJ
    rw [if_pos (by omega), if_pos (by omega)]
  exact ⟨_, _, _, _, rfl, ALe.of false [(2, 1)] 3
      [(0, .ro 13 (encL (fieldJ tk u i o x fd).1))]
      [(0, .box [.ro 1 (rowsOf boolCells tk), .sl 2 4 0 (fieldJ tk u i o x fd).2.length]), (2, .arr false 4 (rowsOf Cft.cells (fieldJ tk u i o x fd).2))]
      (.cons rfl (.boxL (.cons (.same rfl) (.cons (.slE (by first | (rw [hd]; done) | (rw [hd]; simp; done))) .nil))) (.cons rfl (.arr (by rw [hd])) .nil))
      (.cons rfl (.nilRo (by rw [hd]; rfl)) .nil)
      (by simp), rfl, rfl⟩
  have h11 := decide_eq_false p12
  refine .yF (.faddr fo66_0 Z Z) Z Z h11 <| .yF (.load1 ag3 Z Z Z Z) Z Z h11 <| .yF (.ieql Z Z Z) Z Z h11 <| .p (.pickE Z Z h11 Z) <| .p (.move Z Z) ?_
  by_cases p14 : ((o : Nat) : Int) = 0
  have h13 := decide_eq_true p14
  refine .nT Z Z h13 Z <| .nT Z Z h13 Z <| .nT Z Z h13 Z <| .p (.pickE Z Z h13 Z) <| .nil <| .cT Z Z <| .seq <| .region <| .p (.assign Z Z) <| .nil <| .ret ?_
  have hd : fieldJ tk u i o x fd = ([], fd) := by
    unfold fieldJ
    rw [if_pos (by omega), if_pos (by omega)]
  exact ⟨_, _, _, _, rfl, ALe.of false [(2, 1)] 3
      [(0, .ro 13 (encL (fieldJ tk u i o x fd).1))]
      [(0, .box [.ro 1 (rowsOf boolCells tk), .sl 2 4 0 (fieldJ tk u i o x fd).2.length]), (2, .arr false 4 (rowsOf Cft.cells (fieldJ tk u i o x fd).2))]
      (.cons rfl (.boxL (.cons (.same rfl) (.cons (.slE (by first | (rw [hd]; done) | (rw [hd]; simp; done))) .nil))) (.cons rfl (.arr (by rw [hd])) .nil))
      (.cons rfl (.nilRo (by rw [hd]; rfl)) .nil)
      (by simp), rfl, rfl⟩
  have h13 := decide_eq_false p14
  refine .yF (.faddr fo66_1 Z Z) Z Z h13 <| .yF (.load1 ag3 Z Z Z Z) Z Z h13 <| .yF (.ieql Z Z Z) Z Z h13 <| .p (.pickE Z Z h13 Z) <| .nil ?_
  by_cases p16 : ((x : Nat) : Int) = 0
  have h15 := decide_eq_true p16
  refine .cT Z h15 <| .seq <| .region <| .p (.assign Z Z) <| .nil <| .ret ?_
  have hd : fieldJ tk u i o x fd = ([], fd) := by
    unfold fieldJ
    rw [if_pos (by omega), if_pos (by omega)]
  exact ⟨_, _, _, _, rfl, ALe.of false [(2, 1)] 3
      [(0, .ro 13 (encL (fieldJ tk u i o x fd).1))]
      [(0, .box [.ro 1 (rowsOf boolCells tk), .sl 2 4 0 (fieldJ tk u i o x fd).2.length]), (2, .arr false 4 (rowsOf Cft.cells (fieldJ tk u i o x fd).2))]
      (.cons rfl (.boxL (.cons (.same rfl) (.cons (.slE (by first | (rw [hd]; done) | (rw [hd]; simp; done))) .nil))) (.cons rfl (.arr (by rw [hd])) .nil))
      (.cons rfl (.nilRo (by rw [hd]; rfl)) .nil)
      (by simp), rfl, rfl⟩
  have h15 := decide_eq_false p16
  refine .cF Z h15 <| .skip <| .seq <| .region <| .p (.move Z Z) <| .p (.loadN ag93 sz93 Z Z Z (nl Z)) <| .c1 (.callN [0, 1, 5] [5] false (settle_spec tk (⟨[⟨false, (strOf (keyL i)), 0⟩], (sideL u i 0 0), (sideL u i 1 o), (sideL u i 2 x)⟩ : Cft) fd htk (by first | omega | (simp; omega))) Tryz.func61 (hc := by exact (.cons (.cons .nil Z Z Z (.boxL (.cons (.same Z) (.cons (.sl (nl Z) Z Z) .nil)))) Z Z Z (.arrE Z))) (hv := by exact (.cons (.ptr (nl Z) Z) (.cons (.aggL (.same Z)) .nil)))) ?_
  refine .p (.assign Z Z) <| .nil <| .ret ?_
  have hd : fieldJ tk u i o x fd = ((settleM tk (⟨[⟨false, (strOf (keyL i)), 0⟩], (sideL u i 0 0), (sideL u i 1 o), (sideL u i 2 x)⟩ : Cft) fd), (fd ++ [(⟨[⟨false, (strOf (keyL i)), 0⟩], (sideL u i 0 0), (sideL u i 1 o), (sideL u i 2 x)⟩ : Cft)])) := by
    unfold fieldJ
    rw [if_pos (by omega), if_neg (by omega)]
  exact ⟨_, _, _, _, rfl, ALe.of false [(2, 5)] 3
      [(0, .ro 13 (encL (fieldJ tk u i o x fd).1))]
      [(0, .box [.ro 1 (rowsOf boolCells tk), .sl 2 4 0 (fieldJ tk u i o x fd).2.length]), (2, .arr false 4 (rowsOf Cft.cells (fieldJ tk u i o x fd).2))]
      (.cons rfl (.boxL (.cons (.same rfl) (.cons (.slE (by first | (rw [hd]; done) | (rw [hd]; simp; done))) .nil))) (.cons rfl (.arr (by rw [hd])) .nil))
      (.cons rfl (.roE (by first | (rw [hd]; done) | (rw [hd]; rfl))) .nil)
      (by simp), rfl, rfl⟩
  have h9 := decide_eq_false p10
  refine .cF Z h9 <| .skip ?_
  have e1 : (sideL u i 0 0).length = 1 := rfl
  have e2 : (sideL u i 1 o).length = 1 := sideL_1 (by omega)
  have e3 : (sideL u i 2 x).length = 1 := sideL_1 (by omega)
  have f1 := sideL_f (u := u) (i := i) (s := 0) (w := 0) (by omega)
  have f2 := sideL_f (u := u) (i := i) (s := 1) (w := o) (by omega)
  have f3 := sideL_f (u := u) (i := i) (s := 2) (w := x) (by omega)
  refine .ws 5 [(0, .P 0), (2, .N i), (9, .P 4)] [(0, .box [.ro 1 (rowsOf boolCells tk), .sl 1 4 0 fd.length]), (1, .arr false 4 (rowsOf Cft.cells fd)), (4, .box [.ro 3 (rowsOf Stp.cells [⟨false, (strOf (keyL i)), 0⟩]), .ro 13 (encL (sideL u i 0 0)), .ro 13 (encL (sideL u i 1 o)), .ro 13 (encL (sideL u i 2 x))])] <| .seq <| .region <| .p (.build Z zt35 Z pl35 Z Z) <| .c1 (.alloc 5 Z zt35 Z) <| .c0 (.store sz35 Z Z Z Z (notup Z) Z Z (nl Z)) <| .nil <| .seq <| .seq <| .region <| .p (.assign Z Z) <| .nil ?_
  refine .block <| .rounds 3 <| AR.succ <| .seq <| .seq <| .region <| .p (.move Z Z) <| .p ((AOp.ilss Z Z Z).lb Z) <| .nil <| .cT Z Z <| .skip <| .seq ?_
  refine .block <| .seq <| .region_p fol an33_10 (by kernel_rfl) Z ?_
  refine .p [] (.faddr fo93_1 Z Z) <| .p [4] (.load1 ag32 Z Z Z Z) <| .p [] (.iaddr_ro (row := (encX (nthT (sideL u i 0 0) 0))) ut32 sz35 Z Z Z Z (encL_nth (by first | omega | (simp; omega) | exact settle_pos rfl rfl))) ?_
  refine .p [] (.faddr_rp fo35_7 Z Z) <| .p [] (.rload1 ag33 Z Z Z) <| .p [] (.move Z Z) <| .p [] (.iaddr_ro (row := ([.S ((nthF (nthT (sideL u i 0 0) 0).fields 0).1)] ++ encX (nthF (nthT (sideL u i 0 0) 0).fields 0).2)) ut33 sz72 Z Z Z Z (encF_nth (by first | omega | (simp; omega) | exact settle_pos rfl rfl))) ?_
  refine .p [] (.rloadN ag72 sz72 Z Z (nl Z)) <| .p [] (.faddr fo93_2 Z Z) <| .p [4] (.load1 ag32 Z Z Z Z) <| .p [] (.iaddr_ro (row := (encX (nthT (sideL u i 1 o) 0))) ut32 sz35 Z Z Z Z (encL_nth (by first | omega | (simp; omega) | exact settle_pos rfl rfl))) ?_
  refine .p [] (.faddr_rp fo35_7 Z Z) <| .p [] (.rload1 ag33 Z Z Z) <| .p [] (.move Z Z) <| .p [] (.iaddr_ro (row := ([.S ((nthF (nthT (sideL u i 1 o) 0).fields 0).1)] ++ encX (nthF (nthT (sideL u i 1 o) 0).fields 0).2)) ut33 sz72 Z Z Z Z (encF_nth (by first | omega | (simp; omega) | exact settle_pos rfl rfl))) ?_
  refine .p [] (.faddr_rp fo72_1 Z Z) <| .p [] (.rloadN ag35 sz35 Z Z (nl Z)) <| .p [] (.faddr fo93_3 Z Z) <| .p [4] (.load1 ag32 Z Z Z Z) <| .p [] (.iaddr_ro (row := (encX (nthT (sideL u i 2 x) 0))) ut32 sz35 Z Z Z Z (encL_nth (by first | omega | (simp; omega) | exact settle_pos rfl rfl))) ?_
  refine .p [] (.faddr_rp fo35_7 Z Z) <| .p [] (.rload1 ag33 Z Z Z) <| .p [] (.move Z Z) <| .p [] (.iaddr_ro (row := ([.S ((nthF (nthT (sideL u i 2 x) 0).fields 0).1)] ++ encX (nthF (nthT (sideL u i 2 x) 0).fields 0).2)) ut33 sz72 Z Z Z Z (encF_nth (by first | omega | (simp; omega) | exact settle_pos rfl rfl))) ?_
  refine .p [] (.faddr_rp fo72_1 Z Z) <| .p [] (.rloadN ag35 sz35 Z Z (nl Z)) <| .c 7 [] (.alloc 6 Z zt72 Z) <| .c 8 [] (.alloc 7 Z zt35 Z) <| .c 9 [] (.alloc 8 Z zt35 Z) <| .c 9 [6] (.store sz72 Z Z Z Z (notup Z) Z Z (nl Z)) <| .c 9 [7] (.store sz35 Z Z Z Z (notup Z) Z Z (nl Z)) <| .c 9 [8] (.store sz35 Z Z Z Z (notup Z) Z Z (nl Z)) <| .nil (by kernel_rfl) ?_
  refine .seq <| .region <| .p (.loadN ag35 sz35 Z Z Z (nl Z)) <| .c1 (.alloc 9 Z zt35 Z) <| .c0 (.store sz35 Z Z Z Z (notup Z) Z Z (nl Z)) <| .nil <| .ws 10 [(0, .P 0), (2, .N i), (9, .P 4), (10, .P 5), (11, .I 0), (12, .P 6), (13, .P 7), (14, .P 8), (15, .P 9)] [(0, .box [.ro 1 (rowsOf boolCells tk), .sl 1 4 0 fd.length]), (1, .arr false 4 (rowsOf Cft.cells fd)), (4, .box [.ro 3 (rowsOf Stp.cells [⟨false, (strOf (keyL i)), 0⟩]), .ro 13 (encL (sideL u i 0 0)), .ro 13 (encL (sideL u i 1 o)), .ro 13 (encL (sideL u i 2 x))]), (5, .box [.I 7, .B false, .B false, .S ⟨#[]⟩, .I 0, .I 0, .I 0, .I 0, .I 0, .S ⟨#[]⟩, .O, .O, .O]), (6, .box ([.S ((nthF (nthT (sideL u i 0 0) 0).fields 0).1)] ++ encX (nthF (nthT (sideL u i 0 0) 0).fields 0).2)), (7, .box (encX (nthF (nthT (sideL u i 1 o) 0).fields 0).2)), (8, .box (encX (nthF (nthT (sideL u i 2 x) 0).fields 0).2)), (9, .box (encX (nthF (nthT (sideL u i 1 o) 0).fields 0).2))] ?_
  refine AWP.join (G := { g : T × List Cft // stepJ tk i (nthF (nthT (sideL u i 0 0) 0).fields 0).1 (nthF (nthT (sideL u i 0 0) 0).fields 0).2 (nthF (nthT (sideL u i 1 o) 0).fields 0).2 (nthF (nthT (sideL u i 2 x) 0).fields 0).2 fd = (g.1, g.2) }) (fun g => envOf [(0, .P 0), (2, .N i), (9, .P 4), (10, .P 5), (11, .I 0), (12, .P 6), (15, .P 9)]) (fun g => hpOf [(0, .box [.ro 1 (rowsOf boolCells tk), .sl 91 4 0 g.1.2.length]), (4, .box [.ro 3 (rowsOf Stp.cells [⟨false, (strOf (keyL i)), 0⟩]), .ro 13 (encL (sideL u i 0 0)), .ro 13 (encL (sideL u i 1 o)), .ro 13 (encL (sideL u i 2 x))]), (5, .box [.I 7, .B false, .B false, .S ⟨#[]⟩, .I 0, .I 0, .I 0, .I 0, .I 0, .S ⟨#[]⟩, .O, .O, .O]), (6, .box ([.S ((nthF (nthT (sideL u i 0 0) 0).fields 0).1)] ++ encX (nthF (nthT (sideL u i 0 0) 0).fields 0).2)), (9, .box (encX g.1.1)), (91, .arr false 4 (rowsOf Cft.cells g.1.2))]) (fun _ => 92) ?_ ?_
  refine .block <| .seq <| .region <| .p (.loadN ag35 sz35 Z Z Z (nl Z)) <| .p (.loadN ag35 sz35 Z Z Z (nl Z)) <| .p (.call0 [] false (Same_spec 1000 (nthF (nthT (sideL u i 1 o) 0).fields 0).2 (nthF (nthT (sideL u i 2 x) 0).fields 0).2 side_fit side_fit) Tryz.func10 (hv := by exact (.cons (.aggL (.same Z)) (.cons (.aggL (.same Z)) .nil)))) ?_
  refine .p (.move Z Z) ?_
  rcases Bool.eq_false_or_eq_true (eqT (nthF (nthT (sideL u i 1 o) 0).fields 0).2 (nthF (nthT (sideL u i 2 x) 0).fields 0).2) with h17 | h17
  refine .nT Z Z h17 Z <| .nT Z Z h17 Z <| .nT Z Z h17 Z <| .nT Z Z h17 Z <| .p (.pickE Z Z h17 Z) <| .p (.assign Z Z) <| .nil <| .cT Z Z <| .skip ?_
  have hq : stepJ tk i (nthF (nthT (sideL u i 0 0) 0).fields 0).1 (nthF (nthT (sideL u i 0 0) 0).fields 0).2 (nthF (nthT (sideL u i 1 o) 0).fields 0).2 (nthF (nthT (sideL u i 2 x) 0).fields 0).2 fd = ((nthF (nthT (sideL u i 1 o) 0).fields 0).2, fd) := by
    unfold stepJ
    exact if_pos (by simp [h17])
  exact ⟨⟨((nthF (nthT (sideL u i 1 o) 0).fields 0).2, fd), hq⟩, (ALe.of false [(91, 1)] 92
      _
      _
      (.cons rfl (.boxL (.cons (.same rfl) (.cons .slR .nil))) (.cons rfl (.boxS rfl) (.cons rfl (.boxS rfl) (.cons rfl (.boxS rfl) (.cons rfl (.boxS rfl) (.cons rfl (.arr rfl) .nil))))))
      (.cons rfl .ptrR (.s (.cons rfl .ptrR (.cons rfl .ptrR (.s (.cons rfl .ptrR (.cons rfl .ptrR .nil)))))))
      (by simp))⟩
  refine .yF (.loadN ag35 sz35 Z Z Z (nl Z)) Z Z h17 <| .yF (.faddr fo72_1 Z Z) Z Z h17 <| .yF (.loadN ag35 sz35 Z Z Z (nl Z)) Z Z h17 <| .yF (.call0 [] false (Same_spec 1000 (nthF (nthT (sideL u i 2 x) 0).fields 0).2 (nthF (nthT (sideL u i 0 0) 0).fields 0).2 side_fit side_fit) Tryz.func10 (hv := by exact (.cons (.aggL (.same Z)) (.cons (.aggL (.same Z)) .nil)))) Z Z h17 ?_
  refine .p (.pickE Z Z h17 Z) <| .p (.assign Z Z) <| .nil ?_
  rcases Bool.eq_false_or_eq_true (eqT (nthF (nthT (sideL u i 2 x) 0).fields 0).2 (nthF (nthT (sideL u i 0 0) 0).fields 0).2) with h18 | h18
  refine .cT Z h18 <| .skip ?_
  have hq : stepJ tk i (nthF (nthT (sideL u i 0 0) 0).fields 0).1 (nthF (nthT (sideL u i 0 0) 0).fields 0).2 (nthF (nthT (sideL u i 1 o) 0).fields 0).2 (nthF (nthT (sideL u i 2 x) 0).fields 0).2 fd = ((nthF (nthT (sideL u i 1 o) 0).fields 0).2, fd) := by
    unfold stepJ
    exact if_pos (by simp [h17, h18])
  exact ⟨⟨((nthF (nthT (sideL u i 1 o) 0).fields 0).2, fd), hq⟩, (ALe.of false [(91, 1)] 92
      _
      _
      (.cons rfl (.boxL (.cons (.same rfl) (.cons .slR .nil))) (.cons rfl (.boxS rfl) (.cons rfl (.boxS rfl) (.cons rfl (.boxS rfl) (.cons rfl (.boxS rfl) (.cons rfl (.arr rfl) .nil))))))
      (.cons rfl .ptrR (.s (.cons rfl .ptrR (.cons rfl .ptrR (.s (.cons rfl .ptrR (.cons rfl .ptrR .nil)))))))
      (by simp))⟩
  refine .cF Z h18 <| .seq <| .region <| .p (.loadN ag35 sz35 Z Z Z (nl Z)) <| .p (.faddr fo72_1 Z Z) <| .p (.loadN ag35 sz35 Z Z Z (nl Z)) <| .p (.call0 [] false (Same_spec 1000 (nthF (nthT (sideL u i 1 o) 0).fields 0).2 (nthF (nthT (sideL u i 0 0) 0).fields 0).2 side_fit side_fit) Tryz.func10 (hv := by exact (.cons (.aggL (.same Z)) (.cons (.aggL (.same Z)) .nil)))) ?_
  refine .p (.assign Z Z) <| .nil ?_
  rcases Bool.eq_false_or_eq_true (eqT (nthF (nthT (sideL u i 1 o) 0).fields 0).2 (nthF (nthT (sideL u i 0 0) 0).fields 0).2) with h19 | h19
  refine .cT Z h19 <| .region <| .p (.loadN ag35 sz35 Z Z Z (nl Z)) <| .c0 (.store sz35 Z Z Z Z (notup Z) Z Z (nl Z)) <| .nil ?_
  have hq : stepJ tk i (nthF (nthT (sideL u i 0 0) 0).fields 0).1 (nthF (nthT (sideL u i 0 0) 0).fields 0).2 (nthF (nthT (sideL u i 1 o) 0).fields 0).2 (nthF (nthT (sideL u i 2 x) 0).fields 0).2 fd = ((nthF (nthT (sideL u i 2 x) 0).fields 0).2, fd) := by
    unfold stepJ
    rw [if_neg (by simp [h17, h18, h19]), if_pos h19]
  exact ⟨⟨((nthF (nthT (sideL u i 2 x) 0).fields 0).2, fd), hq⟩, (ALe.of false [(91, 1)] 92
      _
      _
      (.cons rfl (.boxL (.cons (.same rfl) (.cons .slR .nil))) (.cons rfl (.boxS rfl) (.cons rfl (.boxS rfl) (.cons rfl (.boxS rfl) (.cons rfl (.boxS rfl) (.cons rfl (.arr rfl) .nil))))))
      (.cons rfl .ptrR (.s (.cons rfl .ptrR (.cons rfl .ptrR (.s (.cons rfl .ptrR (.cons rfl .ptrR .nil)))))))
      (by simp))⟩
  refine .cF Z h19 <| .seq <| .region_p fol an33_12 (by kernel_rfl) Z ?_
  refine .p [] (.move Z Z) <| .p [] (.call0 [] false (key_spec i (by omega)) Tryz.func21 (hv := by exact (.same Z))) ?_
  refine .p [] (.build Z zt75 Z pl75 Z Z) <| .p [] (.faddr fo72_0 Z Z) <| .p [6] (.load1 ag9 Z Z Z Z) <| .p [] (.build Z zt75 Z pl75 Z Z) <| .p [] (.buildRo true (rowsOf Stp.cells [⟨false, (strOf (keyL i)), 0⟩, ⟨false, (nthF (nthT (sideL u i 0 0) 0).fields 0).1, 0⟩]) ut76 sz75 zt75 Z Z (by decide) (by decide) Z Z Z Z Z Z Z) ?_
  refine .p [] (.assign Z Z) <| .nil (by kernel_rfl) ?_
  refine .region <| .p (.move Z Z) <| .p (.move Z Z) <| .p (.faddr fo72_1 Z Z) <| .p (.loadN ag35 sz35 Z Z Z (nl Z)) ?_
  refine ASeq.p (AOp.eqv (AOp.buildRo false [(encX (nthF (nthT (sideL u i 0 0) 0).fields 0).2)] ut32 sz35 zt35 rfl rfl (by decide) (by decide) rfl rfl rfl rfl rfl rfl rfl) (congrArg (fun r => (AV.ro 13 r).as false) (encL_one _))) ?_
  refine .p (.loadN ag35 sz35 Z Z Z (nl Z)) ?_
  refine ASeq.p (AOp.eqv (AOp.buildRo false [(encX (nthF (nthT (sideL u i 1 o) 0).fields 0).2)] ut32 sz35 zt35 rfl rfl (by decide) (by decide) rfl rfl rfl rfl rfl rfl rfl) (congrArg (fun r => (AV.ro 13 r).as false) (encL_one _))) ?_
  refine .p (.loadN ag35 sz35 Z Z Z (nl Z)) ?_
  refine ASeq.p (AOp.eqv (AOp.buildRo false [(encX (nthF (nthT (sideL u i 2 x) 0).fields 0).2)] ut32 sz35 zt35 rfl rfl (by decide) (by decide) rfl rfl rfl rfl rfl rfl rfl) (congrArg (fun r => (AV.ro 13 r).as false) (encL_one _))) ?_
  refine .p (.build Z zt93 Z pl93 Z Z) <| .c1 (.callN [0, 1, 10] [10] false (settle_spec tk (⟨[⟨false, (strOf (keyL i)), 0⟩, ⟨false, (nthF (nthT (sideL u i 0 0) 0).fields 0).1, 0⟩], [(nthF (nthT (sideL u i 0 0) 0).fields 0).2], [(nthF (nthT (sideL u i 1 o) 0).fields 0).2], [(nthF (nthT (sideL u i 2 x) 0).fields 0).2]⟩ : Cft) fd htk (by first | omega | (simp; omega))) Tryz.func61 (hc := by exact (.cons (.cons .nil Z Z Z (.boxL (.cons (.same Z) (.cons (.sl (nl Z) Z Z) .nil)))) Z Z Z (.arrE Z))) (hv := by exact (.cons (.ptr (nl Z) Z) (.cons (.aggL (.cons .fr (.cons (.same Z) (.cons (.same Z) (.cons (.same Z) .nil))))) .nil)))) ?_
  refine .p (.iaddr_ro (row := (encX (nthT (settleM tk (⟨[⟨false, (strOf (keyL i)), 0⟩, ⟨false, (nthF (nthT (sideL u i 0 0) 0).fields 0).1, 0⟩], [(nthF (nthT (sideL u i 0 0) 0).fields 0).2], [(nthF (nthT (sideL u i 1 o) 0).fields 0).2], [(nthF (nthT (sideL u i 2 x) 0).fields 0).2]⟩ : Cft) fd) 0))) ut32 sz35 Z Z Z Z (encL_nth (by first | omega | (simp; omega) | exact settle_pos rfl rfl))) ?_
  refine .p (.rloadN ag35 sz35 Z Z (nl Z)) <| .c0 (.store sz35 Z Z Z Z (notup Z) Z Z (nl Z)) <| .nil ?_
  have hq : stepJ tk i (nthF (nthT (sideL u i 0 0) 0).fields 0).1 (nthF (nthT (sideL u i 0 0) 0).fields 0).2 (nthF (nthT (sideL u i 1 o) 0).fields 0).2 (nthF (nthT (sideL u i 2 x) 0).fields 0).2 fd = ((nthT (settleM tk (⟨[⟨false, (strOf (keyL i)), 0⟩, ⟨false, (nthF (nthT (sideL u i 0 0) 0).fields 0).1, 0⟩], [(nthF (nthT (sideL u i 0 0) 0).fields 0).2], [(nthF (nthT (sideL u i 1 o) 0).fields 0).2], [(nthF (nthT (sideL u i 2 x) 0).fields 0).2]⟩ : Cft) fd) 0), (fd ++ [(⟨[⟨false, (strOf (keyL i)), 0⟩, ⟨false, (nthF (nthT (sideL u i 0 0) 0).fields 0).1, 0⟩], [(nthF (nthT (sideL u i 0 0) 0).fields 0).2], [(nthF (nthT (sideL u i 1 o) 0).fields 0).2], [(nthF (nthT (sideL u i 2 x) 0).fields 0).2]⟩ : Cft)])) := by
    unfold stepJ
    rw [if_neg (by simp [h17, h18, h19]), if_neg (by simp [h17, h18, h19])]
  exact ⟨⟨((nthT (settleM tk (⟨[⟨false, (strOf (keyL i)), 0⟩, ⟨false, (nthF (nthT (sideL u i 0 0) 0).fields 0).1, 0⟩], [(nthF (nthT (sideL u i 0 0) 0).fields 0).2], [(nthF (nthT (sideL u i 1 o) 0).fields 0).2], [(nthF (nthT (sideL u i 2 x) 0).fields 0).2]⟩ : Cft) fd) 0), (fd ++ [(⟨[⟨false, (strOf (keyL i)), 0⟩, ⟨false, (nthF (nthT (sideL u i 0 0) 0).fields 0).1, 0⟩], [(nthF (nthT (sideL u i 0 0) 0).fields 0).2], [(nthF (nthT (sideL u i 1 o) 0).fields 0).2], [(nthF (nthT (sideL u i 2 x) 0).fields 0).2]⟩ : Cft)])), hq⟩, (ALe.of false [(91, 10)] 92
      _
      _
      (.cons rfl (.boxL (.cons (.same rfl) (.cons .slR .nil))) (.cons rfl (.boxS rfl) (.cons rfl (.boxS rfl) (.cons rfl (.boxS rfl) (.cons rfl (.boxS rfl) (.cons rfl (.arr rfl) .nil))))))
      (.cons rfl .ptrR (.s (.cons rfl .ptrR (.cons rfl .ptrR (.s (.cons rfl .ptrR (.cons rfl .ptrR .nil)))))))
      (by simp))⟩
  rintro ⟨⟨y1, fd1⟩, hg⟩
  try dsimp only at hg
  have hg1 := hg
  have hl1 : fd1.length ≤ fd.length + 1 := by have h9 := @stepJ_len tk i (nthF (nthT (sideL u i 0 0) 0).fields 0).1 (nthF (nthT (sideL u i 0 0) 0).fields 0).2 (nthF (nthT (sideL u i 1 o) 0).fields 0).2 (nthF (nthT (sideL u i 2 x) 0).fields 0).2 fd; rw [hg] at h9; exact h9
  refine .ws 92 [(0, .P 0), (2, .N i), (9, .P 4), (10, .P 5), (11, .I 0), (12, .P 6), (15, .P 9)] [(0, .box [.ro 1 (rowsOf boolCells tk), .sl 91 4 0 fd1.length]), (4, .box [.ro 3 (rowsOf Stp.cells [⟨false, (strOf (keyL i)), 0⟩]), .ro 13 (encL (sideL u i 0 0)), .ro 13 (encL (sideL u i 1 o)), .ro 13 (encL (sideL u i 2 x))]), (5, .box [.I 7, .B false, .B false, .S ⟨#[]⟩, .I 0, .I 0, .I 0, .I 0, .I 0, .S ⟨#[]⟩, .O, .O, .O]), (6, .box ([.S ((nthF (nthT (sideL u i 0 0) 0).fields 0).1)] ++ encX (nthF (nthT (sideL u i 0 0) 0).fields 0).2)), (9, .box (encX y1)), (91, .arr false 4 (rowsOf Cft.cells fd1))] <| .region <| .p (.faddr fo35_7 Z Z) <| .p (.load1 ag33 Z Z Z Z) <| .p (.faddr fo72_0 Z Z) <| .p (.load1 ag9 Z Z Z Z) <| .p (.loadN ag35 sz35 Z Z Z (nl Z)) <| .p (.build Z zt72 Z pl72 Z Z) <| .c1 (.buildSlice 92 false [([.S ((nthF (nthT (sideL u i 0 0) 0).fields 0).1)] ++ encX y1)] ut33 sz72 zt72 Z Z (by decide) (by decide) Z Z Z Z Z Z Z) ?_
  refine .c2 (.append_empN (n2 := 1) 93 false el33 Z (.inr ⟨none, Z⟩) (.sl Z Z (nl Z) (by simp)) (by simp only [rowsOf, encF_len, List.length_map, List.length_append, List.length_take, List.length_drop, List.length_cons, List.length_nil]; omega) (by simp only [rowsOf, encF_len, List.length_map, List.length_append, List.length_take, List.length_drop, List.length_cons, List.length_nil]; omega) (by first | rfl | (simp; done) | (simp; omega))) ?_
  refine .p (.faddr fo35_7 Z Z) <| .c0 (.store sz33 Z Z Z Z (notup Z) Z Z (nl Z)) <| .nil <| .region <| .p (.move Z Z) <| .p (.iadd (r := 1) Z Z Z Z) <| .p (.assign Z Z) <| .nil <| AR.succ <| .seq <| .seq <| .region ?_
  refine .p (.move Z Z) <| .p ((AOp.ilss Z Z Z).lb Z) <| .nil <| .cT Z Z <| .skip <| .seq <| .block <| .seq <| .region_p fol an33_10 (by kernel_rfl) Z ?_
  refine .p [] (.faddr fo93_1 Z Z) <| .p [4] (.load1 ag32 Z Z Z Z) <| .p [] (.iaddr_ro (row := (encX (nthT (sideL u i 0 0) 0))) ut32 sz35 Z Z Z Z (encL_nth (by first | omega | (simp; omega) | exact settle_pos rfl rfl))) ?_
  refine .p [] (.faddr_rp fo35_7 Z Z) <| .p [] (.rload1 ag33 Z Z Z) <| .p [] (.move Z Z) <| .p [] (.iaddr_ro (row := ([.S ((nthF (nthT (sideL u i 0 0) 0).fields 1).1)] ++ encX (nthF (nthT (sideL u i 0 0) 0).fields 1).2)) ut33 sz72 Z Z Z Z (encF_nth (by first | omega | (simp; omega) | exact settle_pos rfl rfl))) ?_
  refine .p [] (.rloadN ag72 sz72 Z Z (nl Z)) <| .p [] (.faddr fo93_2 Z Z) <| .p [4] (.load1 ag32 Z Z Z Z) <| .p [] (.iaddr_ro (row := (encX (nthT (sideL u i 1 o) 0))) ut32 sz35 Z Z Z Z (encL_nth (by first | omega | (simp; omega) | exact settle_pos rfl rfl))) ?_
  refine .p [] (.faddr_rp fo35_7 Z Z) <| .p [] (.rload1 ag33 Z Z Z) <| .p [] (.move Z Z) <| .p [] (.iaddr_ro (row := ([.S ((nthF (nthT (sideL u i 1 o) 0).fields 1).1)] ++ encX (nthF (nthT (sideL u i 1 o) 0).fields 1).2)) ut33 sz72 Z Z Z Z (encF_nth (by first | omega | (simp; omega) | exact settle_pos rfl rfl))) ?_
  refine .p [] (.faddr_rp fo72_1 Z Z) <| .p [] (.rloadN ag35 sz35 Z Z (nl Z)) <| .p [] (.faddr fo93_3 Z Z) <| .p [4] (.load1 ag32 Z Z Z Z) <| .p [] (.iaddr_ro (row := (encX (nthT (sideL u i 2 x) 0))) ut32 sz35 Z Z Z Z (encL_nth (by first | omega | (simp; omega) | exact settle_pos rfl rfl))) ?_
  refine .p [] (.faddr_rp fo35_7 Z Z) <| .p [] (.rload1 ag33 Z Z Z) <| .p [] (.move Z Z) <| .p [] (.iaddr_ro (row := ([.S ((nthF (nthT (sideL u i 2 x) 0).fields 1).1)] ++ encX (nthF (nthT (sideL u i 2 x) 0).fields 1).2)) ut33 sz72 Z Z Z Z (encF_nth (by first | omega | (simp; omega) | exact settle_pos rfl rfl))) ?_
  refine .p [] (.faddr_rp fo72_1 Z Z) <| .p [] (.rloadN ag35 sz35 Z Z (nl Z)) <| .c 96 [] (.alloc 95 Z zt72 Z) <| .c 97 [] (.alloc 96 Z zt35 Z) <| .c 98 [] (.alloc 97 Z zt35 Z) <| .c 98 [95] (.store sz72 Z Z Z Z (notup Z) Z Z (nl Z)) <| .c 98 [96] (.store sz35 Z Z Z Z (notup Z) Z Z (nl Z)) <| .c 98 [97] (.store sz35 Z Z Z Z (notup Z) Z Z (nl Z)) <| .nil (by kernel_rfl) ?_
  refine .ws 98 [(0, .P 0), (2, .N i), (9, .P 4), (10, .P 5), (11, .I 1), (12, .P 95), (13, .P 96), (14, .P 97)] [(0, .box [.ro 1 (rowsOf boolCells tk), .sl 91 4 0 fd1.length]), (4, .box [.ro 3 (rowsOf Stp.cells [⟨false, (strOf (keyL i)), 0⟩]), .ro 13 (encL (sideL u i 0 0)), .ro 13 (encL (sideL u i 1 o)), .ro 13 (encL (sideL u i 2 x))]), (5, .box [.I 7, .B false, .B false, .S ⟨#[]⟩, .I 0, .I 0, .I 0, .I 0, .I 0, .S ⟨#[]⟩, .O, .O, .sl 93 14 0 1]), (91, .arr false 4 (rowsOf Cft.cells fd1)), (93, .arr false 14 (([([.S ((nthF (nthT (sideL u i 0 0) 0).fields 0).1)] ++ encX y1)].drop 0).take 1)), (95, .box ([.S ((nthF (nthT (sideL u i 0 0) 0).fields 1).1)] ++ encX (nthF (nthT (sideL u i 0 0) 0).fields 1).2)), (96, .box (encX (nthF (nthT (sideL u i 1 o) 0).fields 1).2)), (97, .box (encX (nthF (nthT (sideL u i 2 x) 0).fields 1).2))] <| .seq <| .region <| .p (.loadN ag35 sz35 Z Z Z (nl Z)) <| .c1 (.alloc 98 Z zt35 Z) <| .c0 (.store sz35 Z Z Z Z (notup Z) Z Z (nl Z)) ?_
  refine .nil ?_
  refine AWP.join (G := { g : T × List Cft // stepJ tk i (nthF (nthT (sideL u i 0 0) 0).fields 1).1 (nthF (nthT (sideL u i 0 0) 0).fields 1).2 (nthF (nthT (sideL u i 1 o) 0).fields 1).2 (nthF (nthT (sideL u i 2 x) 0).fields 1).2 fd1 = (g.1, g.2) }) (fun g => envOf [(0, .P 0), (2, .N i), (9, .P 4), (10, .P 5), (11, .I 1), (12, .P 95), (15, .P 98)]) (fun g => hpOf [(0, .box [.ro 1 (rowsOf boolCells tk), .sl 91 4 0 g.1.2.length]), (4, .box [.ro 3 (rowsOf Stp.cells [⟨false, (strOf (keyL i)), 0⟩]), .ro 13 (encL (sideL u i 0 0)), .ro 13 (encL (sideL u i 1 o)), .ro 13 (encL (sideL u i 2 x))]), (5, .box [.I 7, .B false, .B false, .S ⟨#[]⟩, .I 0, .I 0, .I 0, .I 0, .I 0, .S ⟨#[]⟩, .O, .O, .sl 93 14 0 1]), (91, .arr false 4 (rowsOf Cft.cells g.1.2)), (93, .arr false 14 (([([.S ((nthF (nthT (sideL u i 0 0) 0).fields 0).1)] ++ encX y1)].drop 0).take 1)), (95, .box ([.S ((nthF (nthT (sideL u i 0 0) 0).fields 1).1)] ++ encX (nthF (nthT (sideL u i 0 0) 0).fields 1).2)), (98, .box (encX g.1.1))]) (fun _ => 99) ?_ ?_
  refine .block <| .seq <| .region <| .p (.loadN ag35 sz35 Z Z Z (nl Z)) <| .p (.loadN ag35 sz35 Z Z Z (nl Z)) <| .p (.call0 [] false (Same_spec 1000 (nthF (nthT (sideL u i 1 o) 0).fields 1).2 (nthF (nthT (sideL u i 2 x) 0).fields 1).2 side_fit side_fit) Tryz.func10 (hv := by exact (.cons (.aggL (.same Z)) (.cons (.aggL (.same Z)) .nil)))) ?_
  refine .p (.move Z Z) ?_
  rcases Bool.eq_false_or_eq_true (eqT (nthF (nthT (sideL u i 1 o) 0).fields 1).2 (nthF (nthT (sideL u i 2 x) 0).fields 1).2) with h20 | h20
  refine .nT Z Z h20 Z <| .nT Z Z h20 Z <| .nT Z Z h20 Z <| .nT Z Z h20 Z <| .p (.pickE Z Z h20 Z) <| .p (.assign Z Z) <| .nil <| .cT Z Z <| .skip ?_
  have hq : stepJ tk i (nthF (nthT (sideL u i 0 0) 0).fields 1).1 (nthF (nthT (sideL u i 0 0) 0).fields 1).2 (nthF (nthT (sideL u i 1 o) 0).fields 1).2 (nthF (nthT (sideL u i 2 x) 0).fields 1).2 fd1 = ((nthF (nthT (sideL u i 1 o) 0).fields 1).2, fd1) := by
    unfold stepJ
    exact if_pos (by simp [h20])
  exact ⟨⟨((nthF (nthT (sideL u i 1 o) 0).fields 1).2, fd1), hq⟩, ALe.s⟩
  refine .yF (.loadN ag35 sz35 Z Z Z (nl Z)) Z Z h20 <| .yF (.faddr fo72_1 Z Z) Z Z h20 <| .yF (.loadN ag35 sz35 Z Z Z (nl Z)) Z Z h20 <| .yF (.call0 [] false (Same_spec 1000 (nthF (nthT (sideL u i 2 x) 0).fields 1).2 (nthF (nthT (sideL u i 0 0) 0).fields 1).2 side_fit side_fit) Tryz.func10 (hv := by exact (.cons (.aggL (.same Z)) (.cons (.aggL (.same Z)) .nil)))) Z Z h20 ?_
  refine .p (.pickE Z Z h20 Z) <| .p (.assign Z Z) <| .nil ?_
  rcases Bool.eq_false_or_eq_true (eqT (nthF (nthT (sideL u i 2 x) 0).fields 1).2 (nthF (nthT (sideL u i 0 0) 0).fields 1).2) with h21 | h21
  refine .cT Z h21 <| .skip ?_
  have hq : stepJ tk i (nthF (nthT (sideL u i 0 0) 0).fields 1).1 (nthF (nthT (sideL u i 0 0) 0).fields 1).2 (nthF (nthT (sideL u i 1 o) 0).fields 1).2 (nthF (nthT (sideL u i 2 x) 0).fields 1).2 fd1 = ((nthF (nthT (sideL u i 1 o) 0).fields 1).2, fd1) := by
    unfold stepJ
    exact if_pos (by simp [h20, h21])
  exact ⟨⟨((nthF (nthT (sideL u i 1 o) 0).fields 1).2, fd1), hq⟩, ALe.s⟩
  refine .cF Z h21 <| .seq <| .region <| .p (.loadN ag35 sz35 Z Z Z (nl Z)) <| .p (.faddr fo72_1 Z Z) <| .p (.loadN ag35 sz35 Z Z Z (nl Z)) <| .p (.call0 [] false (Same_spec 1000 (nthF (nthT (sideL u i 1 o) 0).fields 1).2 (nthF (nthT (sideL u i 0 0) 0).fields 1).2 side_fit side_fit) Tryz.func10 (hv := by exact (.cons (.aggL (.same Z)) (.cons (.aggL (.same Z)) .nil)))) ?_
  refine .p (.assign Z Z) <| .nil ?_
  rcases Bool.eq_false_or_eq_true (eqT (nthF (nthT (sideL u i 1 o) 0).fields 1).2 (nthF (nthT (sideL u i 0 0) 0).fields 1).2) with h22 | h22
  refine .cT Z h22 <| .region <| .p (.loadN ag35 sz35 Z Z Z (nl Z)) <| .c0 (.store sz35 Z Z Z Z (notup Z) Z Z (nl Z)) <| .nil ?_
  have hq : stepJ tk i (nthF (nthT (sideL u i 0 0) 0).fields 1).1 (nthF (nthT (sideL u i 0 0) 0).fields 1).2 (nthF (nthT (sideL u i 1 o) 0).fields 1).2 (nthF (nthT (sideL u i 2 x) 0).fields 1).2 fd1 = ((nthF (nthT (sideL u i 2 x) 0).fields 1).2, fd1) := by
    unfold stepJ
    rw [if_neg (by simp [h20, h21, h22]), if_pos h22]
  exact ⟨⟨((nthF (nthT (sideL u i 2 x) 0).fields 1).2, fd1), hq⟩, ALe.s⟩
  refine .cF Z h22 <| .seq <| .region_p fol an33_12 (by kernel_rfl) Z ?_
  refine .p [] (.move Z Z) <| .p [] (.call0 [] false (key_spec i (by omega)) Tryz.func21 (hv := by exact (.same Z))) ?_
  refine .p [] (.build Z zt75 Z pl75 Z Z) <| .p [] (.faddr fo72_0 Z Z) <| .p [95] (.load1 ag9 Z Z Z Z) <| .p [] (.build Z zt75 Z pl75 Z Z) <| .p [] (.buildRo true (rowsOf Stp.cells [⟨false, (strOf (keyL i)), 0⟩, ⟨false, (nthF (nthT (sideL u i 0 0) 0).fields 1).1, 0⟩]) ut76 sz75 zt75 Z Z (by decide) (by decide) Z Z Z Z Z Z Z) ?_
  refine .p [] (.assign Z Z) <| .nil (by kernel_rfl) ?_
  refine .region <| .p (.move Z Z) <| .p (.move Z Z) <| .p (.faddr fo72_1 Z Z) <| .p (.loadN ag35 sz35 Z Z Z (nl Z)) ?_
  refine ASeq.p (AOp.eqv (AOp.buildRo false [(encX (nthF (nthT (sideL u i 0 0) 0).fields 1).2)] ut32 sz35 zt35 rfl rfl (by decide) (by decide) rfl rfl rfl rfl rfl rfl rfl) (congrArg (fun r => (AV.ro 13 r).as false) (encL_one _))) ?_
  refine .p (.loadN ag35 sz35 Z Z Z (nl Z)) ?_
  refine ASeq.p (AOp.eqv (AOp.buildRo false [(encX (nthF (nthT (sideL u i 1 o) 0).fields 1).2)] ut32 sz35 zt35 rfl rfl (by decide) (by decide) rfl rfl rfl rfl rfl rfl rfl) (congrArg (fun r => (AV.ro 13 r).as false) (encL_one _))) ?_
  refine .p (.loadN ag35 sz35 Z Z Z (nl Z)) ?_
  refine ASeq.p (AOp.eqv (AOp.buildRo false [(encX (nthF (nthT (sideL u i 2 x) 0).fields 1).2)] ut32 sz35 zt35 rfl rfl (by decide) (by decide) rfl rfl rfl rfl rfl rfl rfl) (congrArg (fun r => (AV.ro 13 r).as false) (encL_one _))) ?_
  refine .p (.build Z zt93 Z pl93 Z Z) <| .c1 (.callN [0, 91, 99] [99] false (settle_spec tk (⟨[⟨false, (strOf (keyL i)), 0⟩, ⟨false, (nthF (nthT (sideL u i 0 0) 0).fields 1).1, 0⟩], [(nthF (nthT (sideL u i 0 0) 0).fields 1).2], [(nthF (nthT (sideL u i 1 o) 0).fields 1).2], [(nthF (nthT (sideL u i 2 x) 0).fields 1).2]⟩ : Cft) fd1 htk (by first | omega | (simp; omega))) Tryz.func61 (hc := by exact (.cons (.cons .nil Z Z Z (.boxL (.cons (.same Z) (.cons (.sl (nl Z) Z Z) .nil)))) Z Z Z (.arrE Z))) (hv := by exact (.cons (.ptr (nl Z) Z) (.cons (.aggL (.cons .fr (.cons (.same Z) (.cons (.same Z) (.cons (.same Z) .nil))))) .nil)))) ?_
  refine .p (.iaddr_ro (row := (encX (nthT (settleM tk (⟨[⟨false, (strOf (keyL i)), 0⟩, ⟨false, (nthF (nthT (sideL u i 0 0) 0).fields 1).1, 0⟩], [(nthF (nthT (sideL u i 0 0) 0).fields 1).2], [(nthF (nthT (sideL u i 1 o) 0).fields 1).2], [(nthF (nthT (sideL u i 2 x) 0).fields 1).2]⟩ : Cft) fd1) 0))) ut32 sz35 Z Z Z Z (encL_nth (by first | omega | (simp; omega) | exact settle_pos rfl rfl))) ?_
  refine .p (.rloadN ag35 sz35 Z Z (nl Z)) <| .c0 (.store sz35 Z Z Z Z (notup Z) Z Z (nl Z)) <| .nil ?_
  have hq : stepJ tk i (nthF (nthT (sideL u i 0 0) 0).fields 1).1 (nthF (nthT (sideL u i 0 0) 0).fields 1).2 (nthF (nthT (sideL u i 1 o) 0).fields 1).2 (nthF (nthT (sideL u i 2 x) 0).fields 1).2 fd1 = ((nthT (settleM tk (⟨[⟨false, (strOf (keyL i)), 0⟩, ⟨false, (nthF (nthT (sideL u i 0 0) 0).fields 1).1, 0⟩], [(nthF (nthT (sideL u i 0 0) 0).fields 1).2], [(nthF (nthT (sideL u i 1 o) 0).fields 1).2], [(nthF (nthT (sideL u i 2 x) 0).fields 1).2]⟩ : Cft) fd1) 0), (fd1 ++ [(⟨[⟨false, (strOf (keyL i)), 0⟩, ⟨false, (nthF (nthT (sideL u i 0 0) 0).fields 1).1, 0⟩], [(nthF (nthT (sideL u i 0 0) 0).fields 1).2], [(nthF (nthT (sideL u i 1 o) 0).fields 1).2], [(nthF (nthT (sideL u i 2 x) 0).fields 1).2]⟩ : Cft)])) := by
    unfold stepJ
    rw [if_neg (by simp [h20, h21, h22]), if_neg (by simp [h20, h21, h22])]
  exact ⟨⟨((nthT (settleM tk (⟨[⟨false, (strOf (keyL i)), 0⟩, ⟨false, (nthF (nthT (sideL u i 0 0) 0).fields 1).1, 0⟩], [(nthF (nthT (sideL u i 0 0) 0).fields 1).2], [(nthF (nthT (sideL u i 1 o) 0).fields 1).2], [(nthF (nthT (sideL u i 2 x) 0).fields 1).2]⟩ : Cft) fd1) 0), (fd1 ++ [(⟨[⟨false, (strOf (keyL i)), 0⟩, ⟨false, (nthF (nthT (sideL u i 0 0) 0).fields 1).1, 0⟩], [(nthF (nthT (sideL u i 0 0) 0).fields 1).2], [(nthF (nthT (sideL u i 1 o) 0).fields 1).2], [(nthF (nthT (sideL u i 2 x) 0).fields 1).2]⟩ : Cft)])), hq⟩, (ALe.of false [(91, 99)] 99
      _
      _
      (.cons rfl (.boxL (.cons (.same rfl) (.cons .slR .nil))) (.cons rfl (.boxS rfl) (.cons rfl (.boxL (.cons (.same rfl) (.cons (.same rfl) (.cons (.same rfl) (.cons (.same rfl) (.cons (.same rfl) (.cons (.same rfl) (.cons (.same rfl) (.cons (.same rfl) (.cons (.same rfl) (.cons (.same rfl) (.cons (.same rfl) (.cons (.same rfl) (.cons .slR .nil)))))))))))))) (.cons rfl (.arr rfl) (.cons rfl (.arr rfl) (.cons rfl (.boxS rfl) (.cons rfl (.boxS rfl) .nil)))))))
      (.cons rfl .ptrR (.s (.cons rfl .ptrR (.cons rfl .ptrR (.s (.cons rfl .ptrR (.cons rfl .ptrR .nil)))))))
      (by simp))⟩
  rintro ⟨⟨y2, fd2⟩, hg⟩
  try dsimp only at hg
  have hg2 := hg
  have hl2 : fd2.length ≤ fd1.length + 1 := by have h9 := @stepJ_len tk i (nthF (nthT (sideL u i 0 0) 0).fields 1).1 (nthF (nthT (sideL u i 0 0) 0).fields 1).2 (nthF (nthT (sideL u i 1 o) 0).fields 1).2 (nthF (nthT (sideL u i 2 x) 0).fields 1).2 fd1; rw [hg] at h9; exact h9
  refine .ws 99 [(0, .P 0), (2, .N i), (9, .P 4), (10, .P 5), (11, .I 1), (12, .P 95), (15, .P 98)] [(0, .box [.ro 1 (rowsOf boolCells tk), .sl 91 4 0 fd2.length]), (4, .box [.ro 3 (rowsOf Stp.cells [⟨false, (strOf (keyL i)), 0⟩]), .ro 13 (encL (sideL u i 0 0)), .ro 13 (encL (sideL u i 1 o)), .ro 13 (encL (sideL u i 2 x))]), (5, .box [.I 7, .B false, .B false, .S ⟨#[]⟩, .I 0, .I 0, .I 0, .I 0, .I 0, .S ⟨#[]⟩, .O, .O, .sl 93 14 0 1]), (91, .arr false 4 (rowsOf Cft.cells fd2)), (93, .arr false 14 (([([.S ((nthF (nthT (sideL u i 0 0) 0).fields 0).1)] ++ encX y1)].drop 0).take 1)), (95, .box ([.S ((nthF (nthT (sideL u i 0 0) 0).fields 1).1)] ++ encX (nthF (nthT (sideL u i 0 0) 0).fields 1).2)), (98, .box (encX y2))] <| .region <| .p (.faddr fo35_7 Z Z) <| .p (.load1 ag33 Z Z Z Z) <| .p (.faddr fo72_0 Z Z) <| .p (.load1 ag9 Z Z Z Z) <| .p (.loadN ag35 sz35 Z Z Z (nl Z)) <| .p (.build Z zt72 Z pl72 Z Z) <| .c1 (.buildSlice 99 false [([.S ((nthF (nthT (sideL u i 0 0) 0).fields 1).1)] ++ encX y2)] ut33 sz72 zt72 Z Z (by decide) (by decide) Z Z Z Z Z Z Z) ?_
  refine .c1 (.appendN (n2 := 2) 100 el33 Z Z Z Z (.sl Z Z (nl Z) (by simp)) (by simp only [rowsOf, encF_len, List.length_map, List.length_append, List.length_take, List.length_drop, List.length_cons, List.length_nil]; omega) (by simp only [rowsOf, encF_len, List.length_map, List.length_append, List.length_take, List.length_drop, List.length_cons, List.length_nil]; omega) (by first | rfl | (simp; done) | (simp; omega))) ?_
  refine .p (.faddr fo35_7 Z Z) <| .c0 (.store sz33 Z Z Z Z (notup Z) Z Z (nl Z)) <| .nil <| .region <| .p (.move Z Z) <| .p (.iadd (r := 2) Z Z Z Z) <| .p (.assign Z Z) <| .nil <| AR.succ <| .seq <| .seq <| .region ?_
  refine .p (.move Z Z) <| .p ((AOp.ilss Z Z Z).lb Z) <| .nil <| .cF Z Z <| .exit ?_
  refine AWP.weak false [] 101
      [(10, .P 5)]
      [(0, .box [.ro 1 (rowsOf boolCells tk), .sl 91 4 0 fd2.length]), (5, .box [.I 7, .B false, .B false, .S ⟨#[]⟩, .I 0, .I 0, .I 0, .I 0, .I 0, .S ⟨#[]⟩, .ro 1 [], .ro 13 [], .ro 14 (encF [((nthF (nthT (sideL u i 0 0) 0).fields 0).1, y1), ((nthF (nthT (sideL u i 0 0) 0).fields 1).1, y2)])]), (91, .arr false 4 (rowsOf Cft.cells fd2))]
      (.cons rfl (.boxL (.cons (.same rfl) (.cons .slR .nil))) (.cons rfl (.boxL (.cons (.same rfl) (.cons (.same rfl) (.cons (.same rfl) (.cons (.same rfl) (.cons (.same rfl) (.cons (.same rfl) (.cons (.same rfl) (.cons (.same rfl) (.cons (.same rfl) (.cons (.same rfl) (.cons (.nilRo rfl) (.cons (.nilRo rfl) (.cons (.freezeR (els := ((([([.S ((nthF (nthT (sideL u i 0 0) 0).fields 0).1)] ++ encX y1)].drop 0).take 1) ++ (([([.S ((nthF (nthT (sideL u i 0 0) 0).fields 1).1)] ++ encX y2)].drop 0).take 1))) (by simp) (by simp [encF_map, enc_eq])) .nil)))))))))))))) (.cons rfl (.arr rfl) .nil)))
      (.cons rfl .ptrR .nil)
      (by simp) ?_
  refine .seq <| .region <| .p (.loadN ag35 sz35 Z Z Z (nl Z)) <| .p (.buildRo false [[.I 7, .B false, .B false, .S ⟨#[]⟩, .I 0, .I 0, .I 0, .I 0, .I 0, .S ⟨#[]⟩, .ro 1 [], .ro 13 [], .ro 14 (encF [((nthF (nthT (sideL u i 0 0) 0).fields 0).1, y1), ((nthF (nthT (sideL u i 0 0) 0).fields 1).1, y2)])]] ut32 sz35 zt35 Z Z (by decide) (by decide) Z Z Z Z Z Z Z) ?_
  refine .p (.assign Z Z) <| .nil <| .ret ?_
  have hd : fieldJ tk u i o x fd = ([T.map [((nthF (nthT (sideL u i 0 0) 0).fields 0).1, y1), ((nthF (nthT (sideL u i 0 0) 0).fields 1).1, y2)]], fd2) := by
    unfold fieldJ
    rw [if_neg (by omega), hg1]
    dsimp only
    rw [hg2]
  exact ⟨_, _, _, _, rfl, ALe.of false [(2, 91)] 3
      [(0, .ro 13 (encL (fieldJ tk u i o x fd).1))]
      [(0, .box [.ro 1 (rowsOf boolCells tk), .sl 2 4 0 (fieldJ tk u i o x fd).2.length]), (2, .arr false 4 (rowsOf Cft.cells (fieldJ tk u i o x fd).2))]
      (.cons rfl (.boxL (.cons (.same rfl) (.cons (.slE (by first | (rw [hd]; done) | (rw [hd]; simp; done))) .nil))) (.cons rfl (.arr (by rw [hd])) .nil))
      (.cons rfl (.roE (by first | (rw [hd]; done) | (rw [hd]; rfl))) .nil)
      (by simp), rfl, rfl⟩
end Go.Abs
namespace Go.Abs
open Go.Proofs
set_option maxRecDepth 100000
set_option maxHeartbeats 8000000

theorem ag66 : isAggT Tryz.prog 66 = some true := by kernel_rfl
def an15_12 : List Nat := [0, 1, 0, 4, 0, 16, 48, 124, 252, 511, 1023, 2047]
def an15_16 : List Nat := [0, 1, 0, 0, 12, 28, 63, 127, 255]

theorem whole_spec (tk : List Bool) (u : Ru) (m : Mk) (n : Nat) (hu : u.ok) (hm : m.ok) (hn : n ≤ 250) (htk : tk.length ≤ 100000) : FSpec Tryz.prog 15 2 [.P 0, .N n, .agg [.lit (.int .u16 ((u.mul : Nat) : Int)), .lit (.int .u16 ((u.add : Nat) : Int)), .lit (.int .u16 ((u.md : Nat) : Int))], .agg [.lit (.int .u16 ((m.a : Nat) : Int)), .lit (.int .u16 ((m.b : Nat) : Int)), .lit (.int .u16 ((m.c : Nat) : Int))]] (hpOf [(0, .box [.ro 1 (rowsOf boolCells tk), .sl 1 4 0 0]), (1, .arr false 4 (rowsOf Cft.cells []))]) (fun r h => r = .agg (encX (wholeT tk u m n)) ∧ h = hpOf [(0, .box [.ro 1 (rowsOf boolCells tk), .sl 2 4 0 (whB tk u m n).2.length]), (2, .arr false 4 (rowsOf Cft.cells (whB tk u m n).2))]) := by
  have hA := @whA_len tk u m n
  refine FSpec.intro Tryz.func15 rfl (nl rfl) (nl rfl) fun s0 w0 hs0 hn0 => ?_
  refine .ws 2 [(0, .P 0), (1, .N n), (2, .agg [.lit (.int .u16 ((u.mul : Nat) : Int)), .lit (.int .u16 ((u.add : Nat) : Int)), .lit (.int .u16 ((u.md : Nat) : Int))]), (3, .agg [.lit (.int .u16 ((m.a : Nat) : Int)), .lit (.int .u16 ((m.b : Nat) : Int)), .lit (.int .u16 ((m.c : Nat) : Int))])] [(0, .box [.ro 1 (rowsOf boolCells tk), .sl 1 4 0 0]), (1, .arr false 4 (rowsOf Cft.cells []))] <| .seq <| .region <| .c1 (.box 2 Z Z (notup Z)) <| .c1 (.box 3 Z Z (notup Z)) <| .c1 (.alloc 4 Z zt35 Z) <| .nil <| .seq <| .region <| .p (.build Z zt35 Z pl35 Z Z) <| .c1 (.alloc 5 Z zt35 Z) <| .c0 (.store sz35 Z Z Z Z (notup Z) Z Z (nl Z)) ?_
  refine .nil <| .seq <| .seq <| .region <| .p (.assign Z Z) <| .nil <| .block <| .rounds 3 <| AR.succ <| .seq <| .seq <| .region ?_
  refine .p (.move Z Z) <| .p ((AOp.ilss Z Z Z).lb Z) <| .nil <| .cT Z Z <| .skip <| .seq <| .block <| .seq <| .seq <| .region <| .p (.assign Z Z) <| .nil ?_
  refine .block <| .openCell 5 12 14 false ?_
  refine AWP.loop (G := { g : Nat // g ≤ n }) (fun g => envOf [(0, .P 0), (1, .N n), (6, .P 2), (7, .P 3), (8, .P 4), (9, .P 5), (10, .I 0), (11, .N g.1)]) (fun g => hpOf [(0, .box [.ro 1 (rowsOf boolCells tk), .sl 91 4 0 (whI tk u m false g.1 ([], [])).2.length]), (2, .box [.lit (.int .u16 ((u.mul : Nat) : Int)), .lit (.int .u16 ((u.add : Nat) : Int)), .lit (.int .u16 ((u.md : Nat) : Int))]), (3, .box [.lit (.int .u16 ((m.a : Nat) : Int)), .lit (.int .u16 ((m.b : Nat) : Int)), .lit (.int .u16 ((m.c : Nat) : Int))]), (4, .box [.I 0, .B false, .B false, .S ⟨#[]⟩, .I 0, .I 0, .I 0, .I 0, .I 0, .S ⟨#[]⟩, .O, .O, .O]), (5, .box [.I 7, .B false, .B false, .S ⟨#[]⟩, .I 0, .I 0, .I 0, .I 0, .I 0, .S ⟨#[]⟩, .O, .O, .sl 90 14 0 (whI tk u m false g.1 ([], [])).1.length]), (90, .arr false 14 (encF (whI tk u m false g.1 ([], [])).1)), (91, .arr false 4 (rowsOf Cft.cells (whI tk u m false g.1 ([], [])).2))]) (fun _ => 92) (fun g => n - g.1) ⟨(0), Nat.zero_le _⟩ (ALe.of false [(90, 6), (91, 1)] 92
      _
      _
      (.cons rfl (.boxL (.cons (.same rfl) (.cons (.slE (by first | rfl | (simp; done) | (simp [whI]; done))) .nil))) (.cons rfl (.boxS rfl) (.cons rfl (.boxS rfl) (.cons rfl (.boxS rfl) (.cons rfl (.boxL (.cons (.same rfl) (.cons (.same rfl) (.cons (.same rfl) (.cons (.same rfl) (.cons (.same rfl) (.cons (.same rfl) (.cons (.same rfl) (.cons (.same rfl) (.cons (.same rfl) (.cons (.same rfl) (.cons (.same rfl) (.cons (.same rfl) (.cons (.slE (by first | rfl | (simp; done) | (simp [whI]; done))) .nil)))))))))))))) (.cons rfl (.arr (rfl)) (.cons rfl (.arr (rfl)) .nil)))))))
      (.cons rfl .ptrR (.s (.cons rfl .ptrR (.cons rfl .ptrR (.cons rfl .ptrR (.cons rfl .ptrR (.s (.s .nil))))))))
      (by simp)) ?_
  rintro ⟨i0, hg⟩
  try dsimp only at hg
  have hl := whI_len tk u m false ([], []) i0
  simp only [List.length_append, List.length_cons, List.length_nil] at hl
  refine .ws 92 [(0, .P 0), (1, .N n), (6, .P 2), (7, .P 3), (8, .P 4), (9, .P 5), (10, .I 0), (11, .N i0)] [(0, .box [.ro 1 (rowsOf boolCells tk), .sl 91 4 0 (whI tk u m false i0 ([], [])).2.length]), (2, .box [.lit (.int .u16 ((u.mul : Nat) : Int)), .lit (.int .u16 ((u.add : Nat) : Int)), .lit (.int .u16 ((u.md : Nat) : Int))]), (3, .box [.lit (.int .u16 ((m.a : Nat) : Int)), .lit (.int .u16 ((m.b : Nat) : Int)), .lit (.int .u16 ((m.c : Nat) : Int))]), (4, .box [.I 0, .B false, .B false, .S ⟨#[]⟩, .I 0, .I 0, .I 0, .I 0, .I 0, .S ⟨#[]⟩, .O, .O, .O]), (5, .box [.I 7, .B false, .B false, .S ⟨#[]⟩, .I 0, .I 0, .I 0, .I 0, .I 0, .S ⟨#[]⟩, .O, .O, .sl 90 14 0 (whI tk u m false i0 ([], [])).1.length]), (90, .arr false 14 (encF (whI tk u m false i0 ([], [])).1)), (91, .arr false 4 (rowsOf Cft.cells (whI tk u m false i0 ([], [])).2))] <| .seq <| .seq <| .region <| .p (.move Z Z) <| .p (.move Z Z) <| .p (.ilss Z Z Z) <| .nil ?_
  by_cases p2 : ((i0 : Nat) : Int) < ((n : Nat) : Int)
  have h1 := decide_eq_true p2
  refine .cT Z h1 <| .skip <| .seq <| .block <| .seq <| .region <| .p (.move Z Z) <| .p (.loadN ag25 sz25 Z Z Z (nl Z)) <| .p (.call0 [] false (deed_spec m i0 hm (by omega)) Tryz.func19 (hv := by exact (.cons (.same Z) (.cons (.aggL (.same Z)) .nil)))) ?_
  refine .c1 (.alloc 92 Z zt66 Z) <| .c0 (.store sz66 Z Z Z Z (notup Z) Z Z (nl Z)) <| .nil <| .seq <| .seq <| .region <| .p (.faddr fo66_0 Z Z) <| .p (.load1 ag3 Z Z Z Z) <| .p (.ieql Z Z Z) <| .p (.move Z Z) <| .p ((AOp.ieql Z Z Z).lb Z) <| .p (.bneq ut4 Z Z Z) ?_
  refine .nil ?_
  rcases Bool.eq_false_or_eq_true ((decide ((((m.deed i0).1 : Nat) : Int) = 4)) == false) with h3 | h3
  refine .cF Z (bnot h3) <| .skip <| .seq <| .region <| .p (.move Z Z) <| .p (.loadN ag24 sz24 Z Z Z (nl Z)) <| .p (.move Z Z) <| .p (.loadN ag66 sz66 Z Z Z (nl Z)) <| .c1 (.callN [0, 91, 93] [93] false (field_spec tk u i0 (m.deed i0).1 (m.deed i0).2 (whI tk u m false i0 ([], [])).2 hu (by omega) (deed_le m _).1 (deed_le m _).2 htk (by omega)) Tryz.func33 (hc := by exact (.cons (.cons .nil Z Z Z (.boxL (.cons (.same Z) (.cons (.sl (nl Z) Z Z) .nil)))) Z Z Z (.arrE Z))) (hv := by exact (.cons (.ptr (nl Z) Z) (.cons (.aggL (.same Z)) (.cons (.same Z) (.cons (.aggL (.same Z)) .nil)))))) ?_
  refine .p (.assign Z Z) <| .nil <| .seq <| .region <| .p (.move Z Z) <| .p (.len_ro (n := (fieldJ tk u i0 (m.deed i0).1 (m.deed i0).2 (whI tk u m false i0 ([], [])).2).1.length) ut32 Z (.inl Z) (by simp)) ?_
  refine .p (.igtr Z Z Z) <| .nil ?_
  by_cases p5 : 0 < (((fieldJ tk u i0 (m.deed i0).1 (m.deed i0).2 (whI tk u m false i0 ([], [])).2).1.length : Nat) : Int)
  have h4 := decide_eq_true p5
  refine .cT Z h4 <| .region_p fol an15_12 (by kernel_rfl) Z ?_
  refine .p [] (.faddr fo35_7 Z Z) <| .p [5] (.load1 ag33 Z Z Z Z) <| .p [] (.move Z Z) <| .p [] (.call0 [] false (key_spec i0 (by omega)) Tryz.func21 (hv := by exact (.same Z))) ?_
  refine .p [] (.move Z Z) <| .p [] (.iaddr_ro (row := (encX (nthT (fieldJ tk u i0 (m.deed i0).1 (m.deed i0).2 (whI tk u m false i0 ([], [])).2).1 0))) ut32 sz35 Z Z Z Z (encL_nth (by first | omega | (simp; omega)))) ?_
  refine .p [] (.rloadN ag35 sz35 Z Z (nl Z)) <| .p [] (.build Z zt72 Z pl72 Z Z) <| .c 95 [] (.buildSlice 94 false [([.S (strOf (keyL i0))] ++ encX (nthT (fieldJ tk u i0 (m.deed i0).1 (m.deed i0).2 (whI tk u m false i0 ([], [])).2).1 0))] ut33 sz72 zt72 Z Z (by decide) (by decide) Z Z Z Z Z Z Z) ?_
  refine .c 96 [90, 94] (.appendN (n2 := ((whI tk u m false i0 ([], [])).1.length + 1)) 95 el33 Z Z Z (by first | rfl | (simp; done) | (simp; omega)) (.sl Z Z (nl Z) (by simp)) (by simp only [rowsOf, encF_len, List.length_map, List.length_append, List.length_take, List.length_drop, List.length_cons, List.length_nil]; omega) (by simp only [rowsOf, encF_len, List.length_map, List.length_append, List.length_take, List.length_drop, List.length_cons, List.length_nil]; omega) (by first | rfl | (simp; done) | (simp; omega))) ?_
  refine .p [] (.faddr fo35_7 Z Z) <| .c 96 [5] (.store sz33 Z Z Z Z (notup Z) Z Z (nl Z)) <| .nil (by kernel_rfl) ?_
  refine .region <| .p (.move Z Z) <| .p (.iadd (r := (((i0 + 1) : Nat) : Int)) Z Z Z (wi (by omega) (by first | rfl | omega | (simp; done)))) ?_
  refine .p (.assign Z Z) <| .nil ?_
  have hS : whI tk u m false (i0 + 1) ([], []) = (((whI tk u m false i0 ([], [])).1 ++ [((strOf (keyL i0)), (nthT (fieldJ tk u i0 (m.deed i0).1 (m.deed i0).2 (whI tk u m false i0 ([], [])).2).1 0))]), (fieldJ tk u i0 (m.deed i0).1 (m.deed i0).2 (whI tk u m false i0 ([], [])).2).2) := by first | exact whI_no (by assumption) | exact whI_y0 (by assumption) (by assumption) | exact whI_y1 (by assumption) (by assumption)
  exact ⟨⟨((i0 + 1)), (by show i0 + 1 ≤ _; omega)⟩, (by simp; omega), (ALe.of false [(90, 95), (91, 93)] 92
      _
      _
      (.cons rfl (.boxL (.cons (.same rfl) (.cons (.slE (by first | (rw [hS]; done) | (rw [hS]; simp; done))) .nil))) (.cons rfl (.boxS rfl) (.cons rfl (.boxS rfl) (.cons rfl (.boxS rfl) (.cons rfl (.boxL (.cons (.same rfl) (.cons (.same rfl) (.cons (.same rfl) (.cons (.same rfl) (.cons (.same rfl) (.cons (.same rfl) (.cons (.same rfl) (.cons (.same rfl) (.cons (.same rfl) (.cons (.same rfl) (.cons (.same rfl) (.cons (.same rfl) (.cons (.slE (by first | (rw [hS]; done) | (rw [hS]; simp; done))) .nil)))))))))))))) (.cons rfl (.arr (by rw [hS]; exact (encF_snoc (whI tk u m false i0 ([], [])).1 ((strOf (keyL i0)), (nthT (fieldJ tk u i0 (m.deed i0).1 (m.deed i0).2 (whI tk u m false i0 ([], [])).2).1 0))))) (.cons rfl (.arr (by rw [hS])) .nil)))))))
      (.cons rfl .ptrR (.s (.cons rfl .ptrR (.cons rfl .ptrR (.cons rfl .ptrR (.cons rfl .ptrR (.s (.s .nil))))))))
      (by simp))⟩
  have h4 := decide_eq_false p5
  refine .cF Z h4 <| .skip <| .region <| .p (.move Z Z) <| .p (.iadd (r := (((i0 + 1) : Nat) : Int)) Z Z Z (wi (by omega) (by first | rfl | omega | (simp; done)))) ?_
  refine .p (.assign Z Z) <| .nil ?_
  have hS : whI tk u m false (i0 + 1) ([], []) = ((whI tk u m false i0 ([], [])).1, (fieldJ tk u i0 (m.deed i0).1 (m.deed i0).2 (whI tk u m false i0 ([], [])).2).2) := by first | exact whI_no (by assumption) | exact whI_y0 (by assumption) (by assumption) | exact whI_y1 (by assumption) (by assumption)
  exact ⟨⟨((i0 + 1)), (by show i0 + 1 ≤ _; omega)⟩, (by simp; omega), (ALe.of false [(91, 93)] 92
      _
      _
      (.cons rfl (.boxL (.cons (.same rfl) (.cons (.slE (by first | (rw [hS]; done) | (rw [hS]; simp; done))) .nil))) (.cons rfl (.boxS rfl) (.cons rfl (.boxS rfl) (.cons rfl (.boxS rfl) (.cons rfl (.boxL (.cons (.same rfl) (.cons (.same rfl) (.cons (.same rfl) (.cons (.same rfl) (.cons (.same rfl) (.cons (.same rfl) (.cons (.same rfl) (.cons (.same rfl) (.cons (.same rfl) (.cons (.same rfl) (.cons (.same rfl) (.cons (.same rfl) (.cons (.slE (by first | (rw [hS]; done) | (rw [hS]; simp; done))) .nil)))))))))))))) (.cons rfl (.arr (by rw [hS])) (.cons rfl (.arr (by rw [hS])) .nil)))))))
      (.cons rfl .ptrR (.s (.cons rfl .ptrR (.cons rfl .ptrR (.cons rfl .ptrR (.cons rfl .ptrR (.s (.s .nil))))))))
      (by simp))⟩
  refine .cT Z (bnot h3) <| .exit <| .region <| .p (.move Z Z) <| .p (.iadd (r := (((i0 + 1) : Nat) : Int)) Z Z Z (wi (by omega) (by first | rfl | omega | (simp; done)))) ?_
  refine .p (.assign Z Z) <| .nil ?_
  have hS : whI tk u m false (i0 + 1) ([], []) = ((whI tk u m false i0 ([], [])).1, (whI tk u m false i0 ([], [])).2) := by first | exact whI_no (by assumption) | exact whI_y0 (by assumption) (by assumption) | exact whI_y1 (by assumption) (by assumption)
  exact ⟨⟨((i0 + 1)), (by show i0 + 1 ≤ _; omega)⟩, (by simp; omega), (ALe.of false [] 92
      _
      _
      (.cons rfl (.boxL (.cons (.same rfl) (.cons (.slE (by first | (rw [hS]; done) | (rw [hS]; simp; done))) .nil))) (.cons rfl (.boxS rfl) (.cons rfl (.boxS rfl) (.cons rfl (.boxS rfl) (.cons rfl (.boxL (.cons (.same rfl) (.cons (.same rfl) (.cons (.same rfl) (.cons (.same rfl) (.cons (.same rfl) (.cons (.same rfl) (.cons (.same rfl) (.cons (.same rfl) (.cons (.same rfl) (.cons (.same rfl) (.cons (.same rfl) (.cons (.same rfl) (.cons (.slE (by first | (rw [hS]; done) | (rw [hS]; simp; done))) .nil)))))))))))))) (.cons rfl (.arr (by rw [hS])) (.cons rfl (.arr (by rw [hS])) .nil)))))))
      (.cons rfl .ptrR (.s (.cons rfl .ptrR (.cons rfl .ptrR (.cons rfl .ptrR (.cons rfl .ptrR (.s (.s .nil))))))))
      (by simp))⟩
  have h1 := decide_eq_false p2
  refine .cF Z h1 <| .exit ?_
  have hi0 : whI tk u m false i0 ([], []) = whA tk u m n := by rw [show i0 = n from by omega]; rfl
  rw [hi0] at hl
  refine AWP.weak false [] 92
      [(0, .P 0), (1, .N n), (6, .P 2), (7, .P 3), (8, .P 4), (9, .P 5), (10, .I 0)]
      [(0, .box [.ro 1 (rowsOf boolCells tk), .sl 91 4 0 (whA tk u m n).2.length]), (2, .box [.lit (.int .u16 ((u.mul : Nat) : Int)), .lit (.int .u16 ((u.add : Nat) : Int)), .lit (.int .u16 ((u.md : Nat) : Int))]), (3, .box [.lit (.int .u16 ((m.a : Nat) : Int)), .lit (.int .u16 ((m.b : Nat) : Int)), .lit (.int .u16 ((m.c : Nat) : Int))]), (4, .box [.I 0, .B false, .B false, .S ⟨#[]⟩, .I 0, .I 0, .I 0, .I 0, .I 0, .S ⟨#[]⟩, .O, .O, .O]), (5, .box [.I 7, .B false, .B false, .S ⟨#[]⟩, .I 0, .I 0, .I 0, .I 0, .I 0, .S ⟨#[]⟩, .O, .O, .sl 90 14 0 (whA tk u m n).1.length]), (90, .arr false 14 (encF (whA tk u m n).1)), (91, .arr false 4 (rowsOf Cft.cells (whA tk u m n).2))]
      (.cons rfl (.boxL (.cons (.same rfl) (.cons (.slE (by rw [hi0])) .nil))) (.cons rfl (.boxS rfl) (.cons rfl (.boxS rfl) (.cons rfl (.boxS rfl) (.cons rfl (.boxL (.cons (.same rfl) (.cons (.same rfl) (.cons (.same rfl) (.cons (.same rfl) (.cons (.same rfl) (.cons (.same rfl) (.cons (.same rfl) (.cons (.same rfl) (.cons (.same rfl) (.cons (.same rfl) (.cons (.same rfl) (.cons (.same rfl) (.cons (.slE (by rw [hi0])) .nil)))))))))))))) (.cons rfl (.arr (by rw [hi0])) (.cons rfl (.arr (by rw [hi0])) .nil)))))))
      (.cons rfl .ptrR (.s (.cons rfl .ptrR (.cons rfl .ptrR (.cons rfl .ptrR (.cons rfl .ptrR (.s .nil)))))))
      (by simp) ?_
  refine .seq <| .region <| .p (.assign Z Z) <| .nil <| .seq <| .seq <| .region <| .p (.move Z Z) <| .p ((AOp.ieql Z Z Z).lb Z) <| .nil <| .cF Z Z <| .skip ?_
  refine .region_p fol an15_16 (by kernel_rfl) Z ?_
  refine .p [] (.faddr fo35_7 Z Z) <| .p [5] (.load1 ag33 Z Z Z Z) <| .p [] (.move Z Z) <| .p [] (.call0 [] false (one_spec ) Tryz.func22 (hv := by exact (.same Z))) ?_
  refine .p [] (.build Z zt72 Z pl72 Z Z) <| .c 93 [] (.buildSlice 92 true [([.S ⟨#[111, 117, 114, 115]⟩] ++ encX oneT)] ut33 sz72 zt72 Z Z (by decide) (by decide) Z Z Z Z Z Z Z) ?_
  refine .c 94 [90, 92] (.appendN (n2 := ((whA tk u m n).1.length + 1)) 93 el33 Z Z Z (by first | rfl | (simp; done) | (simp; omega)) (.sl Z Z (nl Z) (by simp)) (by simp only [rowsOf, encF_len, List.length_map, List.length_append, List.length_take, List.length_drop, List.length_cons, List.length_nil]; omega) (by simp only [rowsOf, encF_len, List.length_map, List.length_append, List.length_take, List.length_drop, List.length_cons, List.length_nil]; omega) (by first | rfl | (simp; done) | (simp; omega))) ?_
  refine .p [] (.faddr fo35_7 Z Z) <| .c 94 [5] (.store sz33 Z Z Z Z (notup Z) Z Z (nl Z)) <| .nil (by kernel_rfl) ?_
  refine .region <| .p (.move Z Z) <| .p (.iadd (r := 1) Z Z Z Z) <| .p (.assign Z Z) <| .nil <| AR.succ <| .seq <| .seq <| .region <| .p (.move Z Z) <| .p ((AOp.ilss Z Z Z).lb Z) <| .nil ?_
  refine .cT Z Z <| .skip <| .seq <| .block <| .seq <| .seq <| .region <| .p (.assign Z Z) <| .nil <| .block ?_
  refine AWP.loop (G := { g : Nat // g ≤ n }) (fun g => envOf [(0, .P 0), (1, .N n), (6, .P 2), (7, .P 3), (8, .P 4), (9, .P 5), (10, .I 1), (11, .N g.1)]) (fun g => hpOf [(0, .box [.ro 1 (rowsOf boolCells tk), .sl 91 4 0 (whI tk u m true g.1 ((whA tk u m n).1 ++ [(sOurs, oneT)], (whA tk u m n).2)).2.length]), (2, .box [.lit (.int .u16 ((u.mul : Nat) : Int)), .lit (.int .u16 ((u.add : Nat) : Int)), .lit (.int .u16 ((u.md : Nat) : Int))]), (3, .box [.lit (.int .u16 ((m.a : Nat) : Int)), .lit (.int .u16 ((m.b : Nat) : Int)), .lit (.int .u16 ((m.c : Nat) : Int))]), (4, .box [.I 0, .B false, .B false, .S ⟨#[]⟩, .I 0, .I 0, .I 0, .I 0, .I 0, .S ⟨#[]⟩, .O, .O, .O]), (5, .box [.I 7, .B false, .B false, .S ⟨#[]⟩, .I 0, .I 0, .I 0, .I 0, .I 0, .S ⟨#[]⟩, .O, .O, .sl 90 14 0 (whI tk u m true g.1 ((whA tk u m n).1 ++ [(sOurs, oneT)], (whA tk u m n).2)).1.length]), (90, .arr false 14 (encF (whI tk u m true g.1 ((whA tk u m n).1 ++ [(sOurs, oneT)], (whA tk u m n).2)).1)), (91, .arr false 4 (rowsOf Cft.cells (whI tk u m true g.1 ((whA tk u m n).1 ++ [(sOurs, oneT)], (whA tk u m n).2)).2))]) (fun _ => 92) (fun g => n - g.1) ⟨(0), Nat.zero_le _⟩ (ALe.of false [(90, 93)] 92
      _
      _
      (.cons rfl (.boxL (.cons (.same rfl) (.cons (.slE (by first | rfl | (simp; done) | (simp [whI]; done))) .nil))) (.cons rfl (.boxS rfl) (.cons rfl (.boxS rfl) (.cons rfl (.boxS rfl) (.cons rfl (.boxL (.cons (.same rfl) (.cons (.same rfl) (.cons (.same rfl) (.cons (.same rfl) (.cons (.same rfl) (.cons (.same rfl) (.cons (.same rfl) (.cons (.same rfl) (.cons (.same rfl) (.cons (.same rfl) (.cons (.same rfl) (.cons (.same rfl) (.cons (.slE (by first | rfl | (simp; done) | (simp [whI]; done))) .nil)))))))))))))) (.cons rfl (.arr ((encF_snoc (whA tk u m n).1 (⟨#[111, 117, 114, 115]⟩, oneT)))) (.cons rfl (.arr (rfl)) .nil)))))))
      (.cons rfl .ptrR (.s (.cons rfl .ptrR (.cons rfl .ptrR (.cons rfl .ptrR (.cons rfl .ptrR (.s (.s .nil))))))))
      (by simp)) ?_
  rintro ⟨i1, hg⟩
  try dsimp only at hg
  have hl := whI_len tk u m true ((whA tk u m n).1 ++ [(sOurs, oneT)], (whA tk u m n).2) i1
  simp only [List.length_append, List.length_cons, List.length_nil] at hl
  refine .ws 92 [(0, .P 0), (1, .N n), (6, .P 2), (7, .P 3), (8, .P 4), (9, .P 5), (10, .I 1), (11, .N i1)] [(0, .box [.ro 1 (rowsOf boolCells tk), .sl 91 4 0 (whI tk u m true i1 ((whA tk u m n).1 ++ [(sOurs, oneT)], (whA tk u m n).2)).2.length]), (2, .box [.lit (.int .u16 ((u.mul : Nat) : Int)), .lit (.int .u16 ((u.add : Nat) : Int)), .lit (.int .u16 ((u.md : Nat) : Int))]), (3, .box [.lit (.int .u16 ((m.a : Nat) : Int)), .lit (.int .u16 ((m.b : Nat) : Int)), .lit (.int .u16 ((m.c : Nat) : Int))]), (4, .box [.I 0, .B false, .B false, .S ⟨#[]⟩, .I 0, .I 0, .I 0, .I 0, .I 0, .S ⟨#[]⟩, .O, .O, .O]), (5, .box [.I 7, .B false, .B false, .S ⟨#[]⟩, .I 0, .I 0, .I 0, .I 0, .I 0, .S ⟨#[]⟩, .O, .O, .sl 90 14 0 (whI tk u m true i1 ((whA tk u m n).1 ++ [(sOurs, oneT)], (whA tk u m n).2)).1.length]), (90, .arr false 14 (encF (whI tk u m true i1 ((whA tk u m n).1 ++ [(sOurs, oneT)], (whA tk u m n).2)).1)), (91, .arr false 4 (rowsOf Cft.cells (whI tk u m true i1 ((whA tk u m n).1 ++ [(sOurs, oneT)], (whA tk u m n).2)).2))] ?_
  refine .seq <| .seq <| .region <| .p (.move Z Z) <| .p (.move Z Z) <| .p (.ilss Z Z Z) <| .nil ?_
  by_cases p7 : ((i1 : Nat) : Int) < ((n : Nat) : Int)
  have h6 := decide_eq_true p7
  refine .cT Z h6 <| .skip <| .seq <| .block <| .seq <| .region <| .p (.move Z Z) <| .p (.loadN ag25 sz25 Z Z Z (nl Z)) <| .p (.call0 [] false (deed_spec m i1 hm (by omega)) Tryz.func19 (hv := by exact (.cons (.same Z) (.cons (.aggL (.same Z)) .nil)))) ?_
  refine .c1 (.alloc 92 Z zt66 Z) <| .c0 (.store sz66 Z Z Z Z (notup Z) Z Z (nl Z)) <| .nil <| .seq <| .seq <| .region <| .p (.faddr fo66_0 Z Z) <| .p (.load1 ag3 Z Z Z Z) <| .p (.ieql Z Z Z) <| .p (.move Z Z) <| .p ((AOp.ieql Z Z Z).lb Z) <| .p (.bneq ut4 Z Z Z) ?_
  refine .nil ?_
  rcases Bool.eq_false_or_eq_true ((decide ((((m.deed i1).1 : Nat) : Int) = 4)) == true) with h8 | h8
  refine .cF Z (bnot h8) <| .skip <| .seq <| .region <| .p (.move Z Z) <| .p (.loadN ag24 sz24 Z Z Z (nl Z)) <| .p (.move Z Z) <| .p (.loadN ag66 sz66 Z Z Z (nl Z)) <| .c1 (.callN [0, 91, 93] [93] false (field_spec tk u i1 (m.deed i1).1 (m.deed i1).2 (whI tk u m true i1 ((whA tk u m n).1 ++ [(sOurs, oneT)], (whA tk u m n).2)).2 hu (by omega) (deed_le m _).1 (deed_le m _).2 htk (by omega)) Tryz.func33 (hc := by exact (.cons (.cons .nil Z Z Z (.boxL (.cons (.same Z) (.cons (.sl (nl Z) Z Z) .nil)))) Z Z Z (.arrE Z))) (hv := by exact (.cons (.ptr (nl Z) Z) (.cons (.aggL (.same Z)) (.cons (.same Z) (.cons (.aggL (.same Z)) .nil)))))) ?_
  refine .p (.assign Z Z) <| .nil <| .seq <| .region <| .p (.move Z Z) <| .p (.len_ro (n := (fieldJ tk u i1 (m.deed i1).1 (m.deed i1).2 (whI tk u m true i1 ((whA tk u m n).1 ++ [(sOurs, oneT)], (whA tk u m n).2)).2).1.length) ut32 Z (.inl Z) (by simp)) ?_
  refine .p (.igtr Z Z Z) <| .nil ?_
  by_cases p10 : 0 < (((fieldJ tk u i1 (m.deed i1).1 (m.deed i1).2 (whI tk u m true i1 ((whA tk u m n).1 ++ [(sOurs, oneT)], (whA tk u m n).2)).2).1.length : Nat) : Int)
  have h9 := decide_eq_true p10
  refine .cT Z h9 <| .region_p fol an15_12 (by kernel_rfl) Z ?_
  refine .p [] (.faddr fo35_7 Z Z) <| .p [5] (.load1 ag33 Z Z Z Z) <| .p [] (.move Z Z) <| .p [] (.call0 [] false (key_spec i1 (by omega)) Tryz.func21 (hv := by exact (.same Z))) ?_
  refine .p [] (.move Z Z) <| .p [] (.iaddr_ro (row := (encX (nthT (fieldJ tk u i1 (m.deed i1).1 (m.deed i1).2 (whI tk u m true i1 ((whA tk u m n).1 ++ [(sOurs, oneT)], (whA tk u m n).2)).2).1 0))) ut32 sz35 Z Z Z Z (encL_nth (by first | omega | (simp; omega)))) ?_
  refine .p [] (.rloadN ag35 sz35 Z Z (nl Z)) <| .p [] (.build Z zt72 Z pl72 Z Z) <| .c 95 [] (.buildSlice 94 false [([.S (strOf (keyL i1))] ++ encX (nthT (fieldJ tk u i1 (m.deed i1).1 (m.deed i1).2 (whI tk u m true i1 ((whA tk u m n).1 ++ [(sOurs, oneT)], (whA tk u m n).2)).2).1 0))] ut33 sz72 zt72 Z Z (by decide) (by decide) Z Z Z Z Z Z Z) ?_
  refine .c 96 [90, 94] (.appendN (n2 := ((whI tk u m true i1 ((whA tk u m n).1 ++ [(sOurs, oneT)], (whA tk u m n).2)).1.length + 1)) 95 el33 Z Z Z (by first | rfl | (simp; done) | (simp; omega)) (.sl Z Z (nl Z) (by simp)) (by simp only [rowsOf, encF_len, List.length_map, List.length_append, List.length_take, List.length_drop, List.length_cons, List.length_nil]; omega) (by simp only [rowsOf, encF_len, List.length_map, List.length_append, List.length_take, List.length_drop, List.length_cons, List.length_nil]; omega) (by first | rfl | (simp; done) | (simp; omega))) ?_
  refine .p [] (.faddr fo35_7 Z Z) <| .c 96 [5] (.store sz33 Z Z Z Z (notup Z) Z Z (nl Z)) <| .nil (by kernel_rfl) ?_
  refine .region <| .p (.move Z Z) <| .p (.iadd (r := (((i1 + 1) : Nat) : Int)) Z Z Z (wi (by omega) (by first | rfl | omega | (simp; done)))) ?_
  refine .p (.assign Z Z) <| .nil ?_
  have hS : whI tk u m true (i1 + 1) ((whA tk u m n).1 ++ [(sOurs, oneT)], (whA tk u m n).2) = (((whI tk u m true i1 ((whA tk u m n).1 ++ [(sOurs, oneT)], (whA tk u m n).2)).1 ++ [((strOf (keyL i1)), (nthT (fieldJ tk u i1 (m.deed i1).1 (m.deed i1).2 (whI tk u m true i1 ((whA tk u m n).1 ++ [(sOurs, oneT)], (whA tk u m n).2)).2).1 0))]), (fieldJ tk u i1 (m.deed i1).1 (m.deed i1).2 (whI tk u m true i1 ((whA tk u m n).1 ++ [(sOurs, oneT)], (whA tk u m n).2)).2).2) := by first | exact whI_no (by assumption) | exact whI_y0 (by assumption) (by assumption) | exact whI_y1 (by assumption) (by assumption)
  exact ⟨⟨((i1 + 1)), (by show i1 + 1 ≤ _; omega)⟩, (by simp; omega), (ALe.of false [(90, 95), (91, 93)] 92
      _
      _
      (.cons rfl (.boxL (.cons (.same rfl) (.cons (.slE (by first | (rw [hS]; done) | (rw [hS]; simp; done))) .nil))) (.cons rfl (.boxS rfl) (.cons rfl (.boxS rfl) (.cons rfl (.boxS rfl) (.cons rfl (.boxL (.cons (.same rfl) (.cons (.same rfl) (.cons (.same rfl) (.cons (.same rfl) (.cons (.same rfl) (.cons (.same rfl) (.cons (.same rfl) (.cons (.same rfl) (.cons (.same rfl) (.cons (.same rfl) (.cons (.same rfl) (.cons (.same rfl) (.cons (.slE (by first | (rw [hS]; done) | (rw [hS]; simp; done))) .nil)))))))))))))) (.cons rfl (.arr (by rw [hS]; exact (encF_snoc (whI tk u m true i1 ((whA tk u m n).1 ++ [(sOurs, oneT)], (whA tk u m n).2)).1 ((strOf (keyL i1)), (nthT (fieldJ tk u i1 (m.deed i1).1 (m.deed i1).2 (whI tk u m true i1 ((whA tk u m n).1 ++ [(sOurs, oneT)], (whA tk u m n).2)).2).1 0))))) (.cons rfl (.arr (by rw [hS])) .nil)))))))
      (.cons rfl .ptrR (.s (.cons rfl .ptrR (.cons rfl .ptrR (.cons rfl .ptrR (.cons rfl .ptrR (.s (.s .nil))))))))
      (by simp))⟩
  have h9 := decide_eq_false p10
  refine .cF Z h9 <| .skip <| .region <| .p (.move Z Z) <| .p (.iadd (r := (((i1 + 1) : Nat) : Int)) Z Z Z (wi (by omega) (by first | rfl | omega | (simp; done)))) ?_
  refine .p (.assign Z Z) <| .nil ?_
  have hS : whI tk u m true (i1 + 1) ((whA tk u m n).1 ++ [(sOurs, oneT)], (whA tk u m n).2) = ((whI tk u m true i1 ((whA tk u m n).1 ++ [(sOurs, oneT)], (whA tk u m n).2)).1, (fieldJ tk u i1 (m.deed i1).1 (m.deed i1).2 (whI tk u m true i1 ((whA tk u m n).1 ++ [(sOurs, oneT)], (whA tk u m n).2)).2).2) := by first | exact whI_no (by assumption) | exact whI_y0 (by assumption) (by assumption) | exact whI_y1 (by assumption) (by assumption)
  exact ⟨⟨((i1 + 1)), (by show i1 + 1 ≤ _; omega)⟩, (by simp; omega), (ALe.of false [(91, 93)] 92
      _
      _
      (.cons rfl (.boxL (.cons (.same rfl) (.cons (.slE (by first | (rw [hS]; done) | (rw [hS]; simp; done))) .nil))) (.cons rfl (.boxS rfl) (.cons rfl (.boxS rfl) (.cons rfl (.boxS rfl) (.cons rfl (.boxL (.cons (.same rfl) (.cons (.same rfl) (.cons (.same rfl) (.cons (.same rfl) (.cons (.same rfl) (.cons (.same rfl) (.cons (.same rfl) (.cons (.same rfl) (.cons (.same rfl) (.cons (.same rfl) (.cons (.same rfl) (.cons (.same rfl) (.cons (.slE (by first | (rw [hS]; done) | (rw [hS]; simp; done))) .nil)))))))))))))) (.cons rfl (.arr (by rw [hS])) (.cons rfl (.arr (by rw [hS])) .nil)))))))
      (.cons rfl .ptrR (.s (.cons rfl .ptrR (.cons rfl .ptrR (.cons rfl .ptrR (.cons rfl .ptrR (.s (.s .nil))))))))
      (by simp))⟩
  refine .cT Z (bnot h8) <| .exit <| .region <| .p (.move Z Z) <| .p (.iadd (r := (((i1 + 1) : Nat) : Int)) Z Z Z (wi (by omega) (by first | rfl | omega | (simp; done)))) ?_
  refine .p (.assign Z Z) <| .nil ?_
  have hS : whI tk u m true (i1 + 1) ((whA tk u m n).1 ++ [(sOurs, oneT)], (whA tk u m n).2) = ((whI tk u m true i1 ((whA tk u m n).1 ++ [(sOurs, oneT)], (whA tk u m n).2)).1, (whI tk u m true i1 ((whA tk u m n).1 ++ [(sOurs, oneT)], (whA tk u m n).2)).2) := by first | exact whI_no (by assumption) | exact whI_y0 (by assumption) (by assumption) | exact whI_y1 (by assumption) (by assumption)
  exact ⟨⟨((i1 + 1)), (by show i1 + 1 ≤ _; omega)⟩, (by simp; omega), (ALe.of false [] 92
      _
      _
      (.cons rfl (.boxL (.cons (.same rfl) (.cons (.slE (by first | (rw [hS]; done) | (rw [hS]; simp; done))) .nil))) (.cons rfl (.boxS rfl) (.cons rfl (.boxS rfl) (.cons rfl (.boxS rfl) (.cons rfl (.boxL (.cons (.same rfl) (.cons (.same rfl) (.cons (.same rfl) (.cons (.same rfl) (.cons (.same rfl) (.cons (.same rfl) (.cons (.same rfl) (.cons (.same rfl) (.cons (.same rfl) (.cons (.same rfl) (.cons (.same rfl) (.cons (.same rfl) (.cons (.slE (by first | (rw [hS]; done) | (rw [hS]; simp; done))) .nil)))))))))))))) (.cons rfl (.arr (by rw [hS])) (.cons rfl (.arr (by rw [hS])) .nil)))))))
      (.cons rfl .ptrR (.s (.cons rfl .ptrR (.cons rfl .ptrR (.cons rfl .ptrR (.cons rfl .ptrR (.s (.s .nil))))))))
      (by simp))⟩
  have h6 := decide_eq_false p7
  refine .cF Z h6 <| .exit ?_
  have hi1 : whI tk u m true i1 ((whA tk u m n).1 ++ [(sOurs, oneT)], (whA tk u m n).2) = whB tk u m n := by rw [show i1 = n from by omega]; rfl
  rw [hi1] at hl
  refine AWP.weak false [] 92
      [(0, .P 0), (1, .N n), (6, .P 2), (7, .P 3), (8, .P 4), (9, .P 5), (10, .I 1)]
      [(0, .box [.ro 1 (rowsOf boolCells tk), .sl 91 4 0 (whB tk u m n).2.length]), (2, .box [.lit (.int .u16 ((u.mul : Nat) : Int)), .lit (.int .u16 ((u.add : Nat) : Int)), .lit (.int .u16 ((u.md : Nat) : Int))]), (3, .box [.lit (.int .u16 ((m.a : Nat) : Int)), .lit (.int .u16 ((m.b : Nat) : Int)), .lit (.int .u16 ((m.c : Nat) : Int))]), (4, .box [.I 0, .B false, .B false, .S ⟨#[]⟩, .I 0, .I 0, .I 0, .I 0, .I 0, .S ⟨#[]⟩, .O, .O, .O]), (5, .box [.I 7, .B false, .B false, .S ⟨#[]⟩, .I 0, .I 0, .I 0, .I 0, .I 0, .S ⟨#[]⟩, .O, .O, .sl 90 14 0 (whB tk u m n).1.length]), (90, .arr false 14 (encF (whB tk u m n).1)), (91, .arr false 4 (rowsOf Cft.cells (whB tk u m n).2))]
      (.cons rfl (.boxL (.cons (.same rfl) (.cons (.slE (by rw [hi1])) .nil))) (.cons rfl (.boxS rfl) (.cons rfl (.boxS rfl) (.cons rfl (.boxS rfl) (.cons rfl (.boxL (.cons (.same rfl) (.cons (.same rfl) (.cons (.same rfl) (.cons (.same rfl) (.cons (.same rfl) (.cons (.same rfl) (.cons (.same rfl) (.cons (.same rfl) (.cons (.same rfl) (.cons (.same rfl) (.cons (.same rfl) (.cons (.same rfl) (.cons (.slE (by rw [hi1])) .nil)))))))))))))) (.cons rfl (.arr (by rw [hi1])) (.cons rfl (.arr (by rw [hi1])) .nil)))))))
      (.cons rfl .ptrR (.s (.cons rfl .ptrR (.cons rfl .ptrR (.cons rfl .ptrR (.cons rfl .ptrR (.s .nil)))))))
      (by simp) ?_
  refine .seq <| .region <| .p (.assign Z Z) <| .nil <| .seq <| .seq <| .region <| .p (.move Z Z) <| .p ((AOp.ieql Z Z Z).lb Z) <| .nil <| .cT Z Z <| .region ?_
  refine .p (.assign Z Z) <| .nil <| .region_p fol an15_16 (by kernel_rfl) Z ?_
  refine .p [] (.faddr fo35_7 Z Z) <| .p [5] (.load1 ag33 Z Z Z Z) <| .p [] (.move Z Z) <| .p [] (.call0 [] false (one_spec ) Tryz.func22 (hv := by exact (.same Z))) ?_
  refine .p [] (.build Z zt72 Z pl72 Z Z) <| .c 93 [] (.buildSlice 92 true [([.S ⟨#[111, 116, 104, 101, 114]⟩] ++ encX oneT)] ut33 sz72 zt72 Z Z (by decide) (by decide) Z Z Z Z Z Z Z) ?_
  refine .c 94 [90, 92] (.appendN (n2 := ((whB tk u m n).1.length + 1)) 93 el33 Z Z Z (by first | rfl | (simp; done) | (simp; omega)) (.sl Z Z (nl Z) (by simp)) (by simp only [rowsOf, encF_len, List.length_map, List.length_append, List.length_take, List.length_drop, List.length_cons, List.length_nil]; omega) (by simp only [rowsOf, encF_len, List.length_map, List.length_append, List.length_take, List.length_drop, List.length_cons, List.length_nil]; omega) (by first | rfl | (simp; done) | (simp; omega))) ?_
  refine .p [] (.faddr fo35_7 Z Z) <| .c 94 [5] (.store sz33 Z Z Z Z (notup Z) Z Z (nl Z)) <| .nil (by kernel_rfl) ?_
  refine .region <| .p (.move Z Z) <| .p (.iadd (r := 2) Z Z Z Z) <| .p (.assign Z Z) <| .nil <| AR.succ <| .seq <| .seq <| .region <| .p (.move Z Z) <| .p ((AOp.ilss Z Z Z).lb Z) <| .nil ?_
  refine .cF Z Z <| .exit <| .seq <| .region <| .p (.loadN ag35 sz35 Z Z Z (nl Z)) <| .c0 (.store sz35 Z Z Z Z (notup Z) Z Z (nl Z)) <| .nil <| .ret ?_
  exact ⟨_, _, _, _, rfl, ALe.of false [(2, 91)] 3
      [(0, .agg (encX (wholeT tk u m n)))]
      [(0, .box [.ro 1 (rowsOf boolCells tk), .sl 2 4 0 (whB tk u m n).2.length]), (2, .arr false 4 (rowsOf Cft.cells (whB tk u m n).2))]
      (.cons rfl (.boxL (.cons (.same rfl) (.cons .slR .nil))) (.cons rfl (.arr rfl) .nil))
      (.cons rfl (.aggL (.cons (.litE (by rfl)) (.cons (.litE (by rfl)) (.cons (.litE (by rfl)) (.cons (.litE (by rfl)) (.cons (.litE (by rfl)) (.cons (.litE (by rfl)) (.cons (.litE (by rfl)) (.cons (.litE (by rfl)) (.cons (.litE (by rfl)) (.cons (.litE (by rfl)) (.cons (.nilRo (by rfl)) (.cons (.nilRo (by rfl)) (.cons (.freezeR (els := ((encF (whB tk u m n).1) ++ (([([.S ⟨#[111, 116, 104, 101, 114]⟩] ++ encX oneT)].drop 0).take 1))) (by simp) ((encF_snoc (whB tk u m n).1 (⟨#[111, 116, 104, 101, 114]⟩, oneT)))) .nil)))))))))))))) .nil)
      (by simp), rfl, rfl⟩
end Go.Abs
namespace Go.Abs
open Go.Proofs
set_option maxRecDepth 100000
set_option maxHeartbeats 8000000

def an18_3 : List Nat := [0, 1, 3, 7, 15, 31, 63, 127, 255, 511, 1023, 2047, 4095, 8191, 16383, 32767, 65535, 65535, 262143, 524287, 1048575]

theorem MakeP (h : PatOK) : FSpec Tryz.prog 6 0 [.agg (encX oneT), .agg (encX (T.int 2))] (hpOf []) (fun r h => r = .tup [.ro 29 (rowsOf Chg.cells pc2), .I 0] ∧ h = hpOf []) := by
  have e := Make_spec oneT (T.int 2) h.v1.fit h.v2.fit h.pl1 h.pl2 (by rw [h.diff]; simp [pc2])
  rw [h.diff] at e
  exact e

theorem ApplyP (h : PatOK) : FSpec Tryz.prog 8 0 [.agg (encX oneT), .ro 29 (rowsOf Chg.cells pc2)] (hpOf []) (fun r h => r = .tup [.agg (encFr (T.int 2)), .I 0, .I 0] ∧ h = hpOf []) := by
  have e := Apply_spec oneT pc2 (by simp [pc2]) h.v1 h.run
  rw [h.runE] at e
  exact e

theorem patches_spec (h : PatOK) : FSpec Tryz.prog 18 0 [] (hpOf []) (fun r h => r = .B true ∧ h = hpOf []) := by
  refine FSpec.intro Tryz.func18 rfl (nl rfl) (nl rfl) fun s0 w0 hs0 hn0 => ?_
  refine .ws 0 [] [] <| .seq <| .region <| .p (.assign Z Z) <| .nil <| .seq <| .region <| .p (.call0 [] false (one_spec ) Tryz.func22 (hv := by exact (.same Z))) ?_
  refine .p (.call0 [] false (Int_spec 2 (by omega)) Tryz.func35 (hv := by exact (.same Z))) ?_
  refine .p (.call0 [] false (MakeP h) Tryz.func6 (hv := by exact (.cons (.aggL (.cons (.same Z) (.cons (.same Z) (.cons (.same Z) (.cons (.same Z) (.cons (.same Z) (.cons (.same Z) (.cons (.same Z) (.cons (.same Z) (.cons (.same Z) (.cons (.same Z) (.cons .fr (.cons .fr (.cons .fr .nil)))))))))))))) (.cons (.aggL (.cons (.same Z) (.cons (.same Z) (.cons (.same Z) (.cons (.same Z) (.cons (.same Z) (.cons (.same Z) (.cons (.same Z) (.cons (.same Z) (.cons (.same Z) (.cons (.same Z) (.cons .fr (.cons .fr (.cons .fr .nil)))))))))))))) .nil)))) ?_
  refine .p (.move Z Z) <| .p (.extract Z Z Z) <| .p (.extract Z Z Z) <| .p (.assign Z Z) <| .p (.assign Z Z) <| .nil <| .seq <| .region <| .p (.call0 [] false (one_spec ) Tryz.func22 (hv := by exact (.same Z))) ?_
  refine .p (.move Z Z) <| .p (.call0 [] false (ApplyP h) Tryz.func8 (hv := by exact (.cons (.aggL (.cons (.same Z) (.cons (.same Z) (.cons (.same Z) (.cons (.same Z) (.cons (.same Z) (.cons (.same Z) (.cons (.same Z) (.cons (.same Z) (.cons (.same Z) (.cons (.same Z) (.cons .fr (.cons .fr (.cons .fr .nil)))))))))))))) (.cons (.same Z) .nil)))) ?_
  refine .p (.move Z Z) <| .p (.extract Z Z Z) <| .p (.extract Z Z Z) <| .p (.extract Z Z Z) <| .c1 (.alloc 0 Z zt35 Z) <| .c0 (.store sz35 Z Z Z Z (notup Z) Z Z (nl Z)) <| .p (.assign Z Z) <| .p (.assign Z Z) <| .nil <| .seq <| .region_p fol an18_3 (by kernel_rfl) Z ?_
  refine .p [] (.move Z Z) <| .p [] ((AOp.ieql Z Z Z).lb Z) <| .p [] (.move Z Z) <| .yes [] (b := true) (.move Z Z) Z Z (Eq.refl true) <| .yes [] (b := true) ((AOp.ieql Z Z Z).lb Z) Z Z (Eq.refl true) <| .p [] (.pick Z Z Z) <| .p [] (.move Z Z) <| .yes [] (b := true) (.move Z Z) Z Z (Eq.refl true) <| .yes [] (b := true) ((AOp.ieql Z Z Z).lb Z) Z Z (Eq.refl true) <| .p [] (.pick Z Z Z) <| .p [] (.move Z Z) <| .yes [] (b := true) (.move Z Z) Z Z (Eq.refl true) ?_
  refine .yes [] (b := true) (.len_ro (n := pc2.length) ut38 Z (.inl Z) (by simp)) Z Z (Eq.refl true) ?_
  refine .yes [] (b := true) (.ieql Z Z Z) Z Z (Eq.refl true) <| .p [] (.pick Z Z Z) <| .p [] (.move Z Z) ?_
  have h1 : (decide (((pc2.length : Nat) : Int) = 1)) = true := decide_eq_true (by first | rfl | simp [pc2])
  refine .yes [0] (b := true) (.loadN ag35 sz35 Z Z Z (nl Z)) Z Z h1 <| .yes [] (b := true) (.call0 [] false (Int_spec 2 (by omega)) Tryz.func35 (hv := by exact (.same Z))) Z Z h1 ?_
  refine .yes [] (b := true) (.call0 [] false (Same_spec 1000 (T.int 2) (T.int 2) h.v2.fit h.v2.fit) Tryz.func10 (hv := by exact (.cons (.aggL (.cons (.same Z) (.cons (.same Z) (.cons (.same Z) (.cons (.same Z) (.cons (.same Z) (.cons (.same Z) (.cons (.same Z) (.cons (.same Z) (.cons (.same Z) (.cons (.same Z) (.cons .fr (.cons .fr (.cons .fr .nil)))))))))))))) (.cons (.aggL (.cons (.same Z) (.cons (.same Z) (.cons (.same Z) (.cons (.same Z) (.cons (.same Z) (.cons (.same Z) (.cons (.same Z) (.cons (.same Z) (.cons (.same Z) (.cons (.same Z) (.cons .fr (.cons .fr (.cons .fr .nil)))))))))))))) .nil)))) Z Z h1 ?_
  refine .p [] (.pickE Z Z h1 Z) <| .p [] (.assign Z Z) <| .nil (by kernel_rfl) ?_
  refine .ws 1 [(0, .B (eqT (T.int 2) (T.int 2)))] [] <| .ret ?_
  exact ⟨_, _, _, _, rfl, ALe.of false [] 0
      [(0, .B true)]
      []
      .nil
      (.cons rfl (.litE (by first | rfl | simp [pc2])) .nil)
      (by simp), rfl, rfl⟩
end Go.Abs
