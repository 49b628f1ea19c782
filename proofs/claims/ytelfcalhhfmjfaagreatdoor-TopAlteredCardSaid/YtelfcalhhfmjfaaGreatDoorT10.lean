/- Part 10 of the proof that TopAltered returns true for every input of its row (no condition beyond the row). -/
import Derived.Test.YtelfcalhhfmjfaaGreatDoorT9
set_option linter.unusedVariables false
set_option linter.unusedSimpArgs false
namespace Go.Abs
open Go.Proofs
set_option maxRecDepth 100000
set_option maxHeartbeats 8000000

theorem ut137 : Tryz.prog.underlying 137 = some (.slice 86) := by kernel_rfl
theorem sz86 : (Tryz.prog.info? 86).map (·.size) = some 1 := by kernel_rfl
def zv86 : Value := .pointer none
theorem zt86 : (Tryz.prog.info? 86).bind (·.zero) = some zv86 := by kernel_rfl
theorem ag86 : isAggT Tryz.prog 86 = some false := by kernel_rfl
theorem ut136 : Tryz.prog.underlying 136 = some (.map 9 3) := by kernel_rfl
theorem ut113 : Tryz.prog.underlying 113 = some (.slice 9) := by kernel_rfl
theorem sz9 : (Tryz.prog.info? 9).map (·.size) = some 1 := by kernel_rfl
def zv9 : Value := .string ⟨#[]⟩
theorem zt9 : (Tryz.prog.info? 9).bind (·.zero) = some zv9 := by kernel_rfl
theorem el113 : ElT Tryz.prog 113 9 1 16 := ⟨by kernel_rfl, by kernel_rfl, by decide⟩

theorem keys58_spec (b o t : T) (hF : b.fields.length + o.fields.length + t.fields.length ≤ 100000) : FSpec Tryz.prog 58 0 [.rp (encX b) 0, .rp (encX o) 0, .rp (encX t) 0] (hpOf []) (fun r h => r = .ro 1 (rowsOf strCells (keysM b o t)) ∧ h = hpOf []) := by
  refine FSpec.intro Tryz.func58 rfl (nl rfl) (nl rfl) fun s0 w0 hs0 hn0 => ?_
  refine .ws 0 [(0, .rp (encX b) 0), (1, .rp (encX o) 0), (2, .rp (encX t) 0)] [] <| .seq <| .region <| .p (.assign Z Z) <| .nil <| .seq <| .region <| .p (.assign Z Z) <| .nil <| .seq <| .region <| .c1 (.makeMap 0 Z) ?_
  refine .p (.assign Z Z) <| .nil <| .seq <| .seq <| .region <| .p (.move Z Z) <| .p (.move Z Z) <| .p (.move Z Z) <| .c1 (.buildSlice 1 false [[.rp (encX o) 0], [.rp (encX t) 0], [.rp (encX b) 0]] ut137 sz86 zt86 Z Z (by decide) (by decide) Z Z Z Z Z Z Z) ?_
  refine .p (.len_sl ut137 Z Z (Option.some_ne_none _)) <| .p (.move Z Z) <| .nil <| .block <| .openNil 7 1 false ?_
  refine AWP.loop (G := { g : Nat // g ≤ 3 }) (fun g => envOf [(7, .sl 90 1 0 (dedO (preK [o, t, b] g.1)).length), (8, .mp 92), (17, .sl 91 1 0 3), (18, .I 3), (19, .N g.1)]) (fun g => hpOf [(90, .arr false 1 (rowsOf strCells (dedO (preK [o, t, b] g.1)))), (91, .arr false 1 (rowsOf rpCells [o, t, b])), (92, .map (smap (cntKV (preK [o, t, b] g.1))))]) (fun _ => 93) (fun g => 3 - g.1) ⟨(0), Nat.zero_le _⟩ (ALe.of false [(90, 2), (91, 1), (92, 0)] 93
      _
      _
      (.cons rfl (.arr (by rfl)) (.cons rfl (.arr (by rfl)) (.cons rfl (.mapE (by rfl)) .nil)))
      (.cons rfl (.slE (by rfl)) (.cons rfl .mpR (.cons rfl .slR (.s (.s .nil)))))
      (by simp)) ?_
  rintro ⟨i, hg⟩
  try dsimp only at hg
  refine .ws 93 [(7, .sl 90 1 0 (dedO (preK [o, t, b] i)).length), (8, .mp 92), (17, .sl 91 1 0 3), (18, .I 3), (19, .N i)] [(90, .arr false 1 (rowsOf strCells (dedO (preK [o, t, b] i)))), (91, .arr false 1 (rowsOf rpCells [o, t, b])), (92, .map (smap (cntKV (preK [o, t, b] i))))] <| .seq <| .region <| .p (.ilss Z Z Z) <| .nil <| .seq ?_
  by_cases p2 : ((i : Nat) : Int) < 3
  have h1 := decide_eq_true p2
  refine .cT Z h1 <| .skip <| .seq <| .block <| .seq <| .region <| .p (.iaddr_sl0 ut137 sz86 Z Z Z Z (by first | omega | (simp; omega)) (Option.some_ne_none _)) ?_
  refine .p (.aload1 ag86 Z Z Z (rows_nth (f := rpCells) (by first | omega | (simp; omega))) Z) ?_
  refine .p (.assign Z Z) <| .nil <| .seq <| .seq <| .region <| .p (.move Z Z) <| .p (.peql ut86 Z Z Z Z) <| .nil <| .cF Z Z <| .skip <| .seq <| .region ?_
  refine .p (.move Z Z) <| .p (.nilCheck Z Z Z) <| .p (.faddr_rp fo35_7 Z Z) <| .p (.rload1 ag33 Z Z Z) <| .p (.len_ro (n := (nthG [o, t, b] i).fields.length) ut33 Z (.inl Z) (by simp)) ?_
  refine .p (.move Z Z) <| .nil <| .block ?_
  refine AWP.loop (G := { g : Nat // g ≤ (nthG [o, t, b] i).fields.length }) (fun g => envOf [(7, .sl 90 1 0 (dedO (preK [o, t, b] i ++ (fKeys (nthG [o, t, b] i)).take g.1)).length), (8, .mp 92), (17, .sl 91 1 0 3), (18, .I 3), (19, .N i), (28, .ro 14 (encF (nthG [o, t, b] i).fields)), (29, .N ((nthG [o, t, b] i).fields.length)), (30, .N g.1)]) (fun g => hpOf [(90, .arr false 1 (rowsOf strCells (dedO (preK [o, t, b] i ++ (fKeys (nthG [o, t, b] i)).take g.1)))), (91, .arr false 1 (rowsOf rpCells [o, t, b])), (92, .map (smap (cntKV (preK [o, t, b] i ++ (fKeys (nthG [o, t, b] i)).take g.1))))]) (fun _ => 93) (fun g => (nthG [o, t, b] i).fields.length - g.1) ⟨(0), Nat.zero_le _⟩ (ALe.of false [] 93
      _
      _
      (.cons rfl (.arr (by rw [List.take_zero, List.append_nil])) (.cons rfl (.arr rfl) (.cons rfl (.mapE (by rw [List.take_zero, List.append_nil])) .nil)))
      (.cons rfl (.slE (by rw [List.take_zero, List.append_nil])) (.cons rfl .mpR (.cons rfl .slR (.s (.s (.s (.s (.s .nil))))))))
      (by simp)) ?_
  rintro ⟨j, hg⟩
  try dsimp only at hg
  have h5 : (nthG [o, t, b] i).fields.length ≤ 100000 := by have h4 := preK_bd o t b (i := i) (by omega) (nthG [o, t, b] i).fields.length; simp at h4; omega
  have h7 := preK_bd o t b (i := i) (by omega) j
  have h6 := cnt_le (nthF (nthG [o, t, b] i).fields j).1 (preK [o, t, b] i ++ (fKeys (nthG [o, t, b] i)).take j)
  refine .ws 93 [(7, .sl 90 1 0 (dedO (preK [o, t, b] i ++ (fKeys (nthG [o, t, b] i)).take j)).length), (8, .mp 92), (17, .sl 91 1 0 3), (18, .I 3), (19, .N i), (28, .ro 14 (encF (nthG [o, t, b] i).fields)), (29, .N ((nthG [o, t, b] i).fields.length)), (30, .N j)] [(90, .arr false 1 (rowsOf strCells (dedO (preK [o, t, b] i ++ (fKeys (nthG [o, t, b] i)).take j)))), (91, .arr false 1 (rowsOf rpCells [o, t, b])), (92, .map (smap (cntKV (preK [o, t, b] i ++ (fKeys (nthG [o, t, b] i)).take j))))] <| .seq <| .region <| .p (.ilss Z Z Z) <| .nil <| .seq ?_
  by_cases p4 : ((j : Nat) : Int) < (((nthG [o, t, b] i).fields.length : Nat) : Int)
  have h3 := decide_eq_true p4
  refine .cT Z h3 <| .skip <| .seq <| .block <| .seq <| .region <| .p (.iaddr_ro (row := ([.S ((nthF (nthG [o, t, b] i).fields j).1)] ++ encX (nthF (nthG [o, t, b] i).fields j).2)) ut33 sz72 Z Z Z Z (encF_nth (by first | omega | (simp; omega)))) ?_
  refine .p (.rloadN ag72 sz72 Z Z (nl Z)) <| .c1 (.alloc 93 Z zt72 Z) <| .c0 (.store sz72 Z Z Z Z (notup Z) Z Z (nl Z)) <| .nil <| .seq <| .region <| .p (.move Z Z) <| .p (.faddr fo72_0 Z Z) <| .p (.load1 ag9 Z Z Z Z) <| .p (.lookup (v := (.int .i64 (((cnt (nthF (nthG [o, t, b] i).fields j).1 (preK [o, t, b] i ++ (fKeys (nthG [o, t, b] i)).take j)) : Nat) : Int))) (cntKV (preK [o, t, b] i ++ (fKeys (nthG [o, t, b] i)).take j)) ut136 ut9 zt3 Z Z Z Z (cntKV_get _ _) Z) <| .p (.iadd (r := ((((cnt (nthF (nthG [o, t, b] i).fields j).1 (preK [o, t, b] i ++ (fKeys (nthG [o, t, b] i)).take j)) + 1) : Nat) : Int)) Z Z Z (wi (by omega) (by first | rfl | omega | (simp; done)))) ?_
  refine .c0 (.mapUpdate (cntKV (preK [o, t, b] i ++ (fKeys (nthG [o, t, b] i)).take j)) ut136 ut9 Z Z Z Z Z) <| .nil <| .seq <| .region <| .p (.move Z Z) <| .p (.faddr fo72_0 Z Z) <| .p (.load1 ag9 Z Z Z Z) <| .p (.lookup (v := (.int .i64 (((cnt (nthF (nthG [o, t, b] i).fields j).1 (preK [o, t, b] i ++ (fKeys (nthG [o, t, b] i)).take j) + 1) : Nat) : Int))) (putKV (nthF (nthG [o, t, b] i).fields j).1 (.int .i64 ((((cnt (nthF (nthG [o, t, b] i).fields j).1 (preK [o, t, b] i ++ (fKeys (nthG [o, t, b] i)).take j)) + 1) : Nat) : Int)) (cntKV (preK [o, t, b] i ++ (fKeys (nthG [o, t, b] i)).take j))) ut136 ut9 zt3 Z Z Z Z (cntKV_get1 _ _ _) Z) <| .p (.ieql Z Z Z) <| .nil ?_
  by_cases p6 : (((cnt (nthF (nthG [o, t, b] i).fields j).1 (preK [o, t, b] i ++ (fKeys (nthG [o, t, b] i)).take j) + 1) : Nat) : Int) = 1
  have h5 := decide_eq_true p6
  refine .cT Z h5 <| .region <| .p (.move Z Z) <| .p (.faddr fo72_0 Z Z) <| .p (.load1 ag9 Z Z Z Z) <| .c1 (.buildSlice 94 true [[.S ((nthF (nthG [o, t, b] i).fields j).1)]] ut113 sz9 zt9 Z Z (by decide) (by decide) Z Z Z Z Z Z Z) ?_
  refine .c1 (.appendN (n2 := ((dedO (preK [o, t, b] i ++ (fKeys (nthG [o, t, b] i)).take j)).length + 1)) 95 el113 Z Z Z (by first | rfl | (simp; done) | (simp; omega)) (.sl Z Z (nl Z) (by simp)) (by have h8 := dedO_len (preK [o, t, b] i ++ (fKeys (nthG [o, t, b] i)).take j); have h9 := preK_bd o t b (i := i) (by omega) j; simp; omega) (by have h8 := dedO_len (preK [o, t, b] i ++ (fKeys (nthG [o, t, b] i)).take j); have h9 := preK_bd o t b (i := i) (by omega) j; simp; omega) (by first | rfl | (simp; done) | (simp; omega))) ?_
  refine .p (.assign Z Z) <| .nil <| .region <| .p (.iadd (r := (((j + 1) : Nat) : Int)) Z Z Z (wi (by omega) (by first | rfl | omega | (simp; done)))) ?_
  refine .p (.move Z Z) <| .nil ?_
  exact ⟨⟨((j + 1)), (by show j + 1 ≤ _; omega)⟩, (by simp; omega), (ALe.of false [(90, 95)] 93
      _
      _
      (.cons rfl (.arr (by rw [fKeys_take (by omega), ← List.append_assoc, dedO_snoc, if_pos (by omega)]; exact (rows_append (f := strCells) _ [_]).symm)) (.cons rfl (.arr rfl) (.cons rfl (.mapE (by rw [fKeys_take (by omega), ← List.append_assoc, cntKV_snoc])) .nil)))
      (.cons rfl (.slE (by rw [fKeys_take (by omega), ← List.append_assoc, dedO_snoc]; first | (rw [if_pos (by omega)]; simp; done) | rw [if_neg (by omega)])) (.cons rfl .mpR (.cons rfl .slR (.s (.s (.s (.s (.s .nil))))))))
      (by simp))⟩
  have h5 := decide_eq_false p6
  refine .cF Z h5 <| .skip <| .region <| .p (.iadd (r := (((j + 1) : Nat) : Int)) Z Z Z (wi (by omega) (by first | rfl | omega | (simp; done)))) ?_
  refine .p (.move Z Z) <| .nil ?_
  exact ⟨⟨((j + 1)), (by show j + 1 ≤ _; omega)⟩, (by simp; omega), (ALe.of false [] 93
      _
      _
      (.cons rfl (.arr (by rw [fKeys_take (by omega), ← List.append_assoc, dedO_snoc, if_neg (by omega)])) (.cons rfl (.arr rfl) (.cons rfl (.mapE (by rw [fKeys_take (by omega), ← List.append_assoc, cntKV_snoc])) .nil)))
      (.cons rfl (.slE (by rw [fKeys_take (by omega), ← List.append_assoc, dedO_snoc]; first | (rw [if_pos (by omega)]; simp; done) | rw [if_neg (by omega)])) (.cons rfl .mpR (.cons rfl .slR (.s (.s (.s (.s (.s .nil))))))))
      (by simp))⟩
  have h3 := decide_eq_false p4
  refine .cF Z h3 <| .exit <| .region <| .p (.iadd (r := (((i + 1) : Nat) : Int)) Z Z Z (wi (by omega) (by first | rfl | omega | (simp; done)))) ?_
  refine .p (.move Z Z) <| .nil ?_
  exact ⟨⟨((i + 1)), (by show i + 1 ≤ _; omega)⟩, (by simp; omega), (ALe.of false [] 93
      _
      _
      (.cons rfl (.arr (by rw [preK_succ (by simp; omega), fKeys_all (by omega)])) (.cons rfl (.arr rfl) (.cons rfl (.mapE (by rw [preK_succ (by simp; omega), fKeys_all (by omega)])) .nil)))
      (.cons rfl (.slE (by rw [preK_succ (by simp; omega), fKeys_all (by omega)])) (.cons rfl .mpR (.cons rfl .slR (.s (.s .nil)))))
      (by simp))⟩
  have h1 := decide_eq_false p2
  refine .cF Z h1 <| .exit <| .seq <| .region <| .p (.move Z Z) <| .p (.assign Z Z) <| .nil <| .ret ?_
  have hi : i = 3 := by omega
  have hd : keysM b o t = dedO (preK [o, t, b] i) := by rw [hi]; rfl
  exact ⟨_, _, _, _, rfl, ALe.of false [] 0
      [(0, .ro 1 (rowsOf strCells (keysM b o t)))]
      []
      .nil
      (.cons rfl (.freezeR (els := (rowsOf strCells (dedO (preK [o, t, b] i)))) (by simp) (by rw [hd])) .nil)
      (by simp), rfl, rfl⟩
end Go.Abs
