/- Part 6 of the proof that TopAltered returns true for every input of its row (no condition beyond the row). -/
import Derived.Test.YtelfcalhhfmjfaaGreatDoorT5
set_option linter.unusedVariables false
set_option linter.unusedSimpArgs false
namespace Go.Abs
open Go.Proofs
set_option maxRecDepth 100000
set_option maxHeartbeats 8000000

theorem fo35_1 : fieldOff Tryz.prog 35 1 = some 1 := by kernel_rfl
theorem ag4 : isAggT Tryz.prog 4 = some false := by kernel_rfl
theorem ut4 : Tryz.prog.underlying 4 = some (.bool) := by kernel_rfl
theorem fo35_2 : fieldOff Tryz.prog 35 2 = some 2 := by kernel_rfl
theorem ft28 : FlatT Tryz.prog 28 [.b, .s, .i] := flatT (by kernel_rfl) (by kernel_rfl) (by kernel_rfl)
theorem fo35_3 : fieldOff Tryz.prog 35 3 = some 5 := by kernel_rfl
theorem ag30 : isAggT Tryz.prog 30 = some true := by kernel_rfl
theorem sz30 : (Tryz.prog.info? 30).map (·.size) = some 4 := by kernel_rfl
theorem ft30 : FlatT Tryz.prog 30 [.i, .i, .i, .i] := flatT (by kernel_rfl) (by kernel_rfl) (by kernel_rfl)
theorem fo35_4 : fieldOff Tryz.prog 35 4 = some 9 := by kernel_rfl
def an10_6 : List Nat := [0, 1, 0, 7, 15, 0, 32, 0, 224, 480, 1023, 2047]
def an10_11 : List Nat := [0, 1, 0, 7, 15, 31, 0, 64, 0, 448, 960, 1984, 4095, 8191, 16383, 32767, 16383, 131071, 262143, 524287, 16383, 1064959, 16383, 7356415, 15745023, 32522239, 67108863, 134217727, 268435455]

theorem Same_spec : ∀ (d : Nat) (a b : T), T.ok d a → T.ok d b → FSpec Tryz.prog 10 0 [.agg (encX a), .agg (encX b)] (hpOf []) (fun r h => r = .B (eqT a b) ∧ h = hpOf []) := by
  intro d
  induction d with
  | zero => intro a b h; exact absurd h id
  | succ d ih =>
  intro a b ha hb
  have ha1 := ha.2.1
  have ha2 := ha.2.2.1
  refine FSpec.intro Tryz.func10 rfl (nl rfl) (nl rfl) fun s0 w0 hs0 hn0 => ?_
  refine .ws 0 [(0, .agg (encX a)), (1, .agg (encX b))] [] <| .seq <| .region <| .c1 (.box 0 Z Z (notup Z)) <| .c1 (.box 1 Z Z (notup Z)) <| .p (.assign Z Z) <| .nil <| .seq <| .seq <| .region <| .p (.faddr fo35_0 Z Z) <| .p (.load1 ag3 Z Z Z Z) ?_
  refine .p (.faddr fo35_0 Z Z) <| .p (.load1 ag3 Z Z Z Z) <| .p (.ineq Z Z Z) <| .p (.move Z Z) ?_
  by_cases p2 : a.kind = b.kind
  have h1 := decide_eq_true p2
  refine .yF (.faddr fo35_1 Z Z) Z Z (bnot h1) <| .yF (.load1 ag4 Z Z Z Z) Z Z (bnot h1) <| .yF (.faddr fo35_1 Z Z) Z Z (bnot h1) <| .yF (.load1 ag4 Z Z Z Z) Z Z (bnot h1) <| .yF (.bneq ut4 Z Z Z) Z Z (bnot h1) <| .p (.pickE Z Z (bnot h1) Z) <| .p (.move Z Z) ?_
  rcases Bool.eq_false_or_eq_true (a.b == b.b) with h3 | h3
  refine .yF (.faddr fo35_2 Z Z) Z Z (bnot h3) <| .yF (.loadN ag28 sz28 Z Z Z (nl Z)) Z Z (bnot h3) <| .yF (.faddr fo35_2 Z Z) Z Z (bnot h3) <| .yF (.loadN ag28 sz28 Z Z Z (nl Z)) Z Z (bnot h3) <| .yF (.fNe (xs := [.bool a.neg, .string a.digits, .int .i64 a.exp]) (ys := [.bool b.neg, .string b.digits, .int .i64 b.exp]) ft28 Z Z Z Z) Z Z (bnot h3) <| .p (.pickE Z Z (bnot h3) Z) <| .p (.move Z Z) ?_
  rcases Bool.eq_false_or_eq_true (eqVs [.bool a.neg, .string a.digits, .int .i64 a.exp] [.bool b.neg, .string b.digits, .int .i64 b.exp]) with h4 | h4
  refine .yF (.faddr fo35_3 Z Z) Z Z (bnot h4) <| .yF (.loadN ag30 sz30 Z Z Z (nl Z)) Z Z (bnot h4) <| .yF (.faddr fo35_3 Z Z) Z Z (bnot h4) <| .yF (.loadN ag30 sz30 Z Z Z (nl Z)) Z Z (bnot h4) <| .yF (.fNe (xs := [.int .i64 a.tk, .int .i64 a.td, .int .i64 a.tn, .int .i64 a.tz]) (ys := [.int .i64 b.tk, .int .i64 b.td, .int .i64 b.tn, .int .i64 b.tz]) ft30 Z Z Z Z) Z Z (bnot h4) <| .p (.pickE Z Z (bnot h4) Z) <| .p (.move Z Z) ?_
  rcases Bool.eq_false_or_eq_true (eqVs [.int .i64 a.tk, .int .i64 a.td, .int .i64 a.tn, .int .i64 a.tz] [.int .i64 b.tk, .int .i64 b.td, .int .i64 b.tn, .int .i64 b.tz]) with h5 | h5
  refine .yF (.faddr fo35_4 Z Z) Z Z (bnot h5) <| .yF (.load1 ag9 Z Z Z Z) Z Z (bnot h5) <| .yF (.faddr fo35_4 Z Z) Z Z (bnot h5) <| .yF (.load1 ag9 Z Z Z Z) Z Z (bnot h5) <| .yF (.sneq Z Z Z) Z Z (bnot h5) <| .p (.pickE Z Z (bnot h5) Z) <| .p (.move Z Z) ?_
  by_cases p7 : a.text = b.text
  have h6 := decide_eq_true p7
  refine .yF (.faddr fo35_5 Z Z) Z Z (bnot h6) <| .yF (.load1 ag31 Z Z Z Z) Z Z (bnot h6) <| .yF (.bstr a.bytes ut31 ut5 ut9 Z (.ro Z Z) Z) Z Z (bnot h6) <| .yF (.faddr fo35_5 Z Z) Z Z (bnot h6) <| .yF (.load1 ag31 Z Z Z Z) Z Z (bnot h6) <| .yF (.bstr b.bytes ut31 ut5 ut9 Z (.ro Z Z) Z) Z Z (bnot h6) <| .yF (.sneqL a.bytes b.bytes Z Z Z) Z Z (bnot h6) <| .p (.pickE Z Z (bnot h6) Z) <| .p (.move Z Z) ?_
  by_cases p9 : a.bytes = b.bytes
  have h8 := decide_eq_true p9
  refine .yF (.faddr fo35_6 Z Z) Z Z (bnot h8) <| .yF (.load1 ag32 Z Z Z Z) Z Z (bnot h8) <| .yF (.len_ro (n := a.list.length) ut32 Z (.inl Z) (by simp)) Z Z (bnot h8) ?_
  refine .yF (.faddr fo35_6 Z Z) Z Z (bnot h8) <| .yF (.load1 ag32 Z Z Z Z) Z Z (bnot h8) <| .yF (.len_ro (n := b.list.length) ut32 Z (.inl Z) (by simp)) Z Z (bnot h8) ?_
  refine .yF (.ineq Z Z Z) Z Z (bnot h8) <| .p (.pickE Z Z (bnot h8) Z) <| .p (.move Z Z) ?_
  by_cases p11 : ((a.list.length : Nat) : Int) = ((b.list.length : Nat) : Int)
  have h10 := decide_eq_true p11
  refine .yF (.faddr fo35_7 Z Z) Z Z (bnot h10) <| .yF (.load1 ag33 Z Z Z Z) Z Z (bnot h10) <| .yF (.len_ro (n := a.fields.length) ut33 Z (.inl Z) (by simp)) Z Z (bnot h10) ?_
  refine .yF (.faddr fo35_7 Z Z) Z Z (bnot h10) <| .yF (.load1 ag33 Z Z Z Z) Z Z (bnot h10) <| .yF (.len_ro (n := b.fields.length) ut33 Z (.inl Z) (by simp)) Z Z (bnot h10) ?_
  refine .yF (.ineq Z Z Z) Z Z (bnot h10) <| .p (.pickE Z Z (bnot h10) Z) <| .nil <| .ws 2 [(2, .P 0), (3, .P 1), (66, .B (!(decide (((a.fields.length : Nat) : Int) = ((b.fields.length : Nat) : Int)))))] [(0, .box (encX a)), (1, .box (encX b))] ?_
  by_cases p13 : ((a.fields.length : Nat) : Int) = ((b.fields.length : Nat) : Int)
  have h12 := decide_eq_true p13
  refine .cF Z (bnot h12) <| .skip <| .seq <| .seq <| .region <| .p (.assign Z Z) <| .nil <| .block ?_
  refine AWP.loop (G := { g : Nat // g ≤ a.list.length ∧ ∀ j, j < g → nthT a.list j = nthT b.list j }) (fun g => envOf [(2, .P 0), (3, .P 1), (5, .N g.1)]) (fun g => hpOf [(0, .box (encX a)), (1, .box (encX b))]) (fun _ => 2) (fun g => a.list.length - g.1) ⟨(0), ⟨Nat.zero_le _, by omega⟩⟩ ALe.s ?_
  rintro ⟨i, hg⟩
  try dsimp only at hg
  refine .ws 2 [(2, .P 0), (3, .P 1), (5, .N i)] [(0, .box (encX a)), (1, .box (encX b))] <| .seq <| .seq <| .region <| .p (.move Z Z) <| .p (.faddr fo35_6 Z Z) <| .p (.load1 ag32 Z Z Z Z) <| .p (.len_ro (n := a.list.length) ut32 Z (.inl Z) (by simp)) ?_
  refine .p (.ilss Z Z Z) <| .nil ?_
  by_cases p15 : ((i : Nat) : Int) < ((a.list.length : Nat) : Int)
  have h14 := decide_eq_true p15
  refine .cT Z h14 <| .skip <| .seq <| .block <| .seq <| .region_p fol an10_6 (by kernel_rfl) Z ?_
  refine .p [] (.faddr fo35_6 Z Z) <| .p [0] (.load1 ag32 Z Z Z Z) <| .p [] (.move Z Z) <| .p [] (.iaddr_ro (row := (encX (nthT a.list i))) ut32 sz35 Z Z Z Z (encL_nth (by omega))) ?_
  refine .p [] (.rloadN ag35 sz35 Z Z (nl Z)) <| .p [] (.faddr fo35_6 Z Z) <| .p [1] (.load1 ag32 Z Z Z Z) <| .p [] (.move Z Z) <| .p [] (.iaddr_ro (row := (encX (nthT b.list i))) ut32 sz35 Z Z Z Z (encL_nth (by omega))) ?_
  refine .p [] (.rloadN ag35 sz35 Z Z (nl Z)) <| .p [] (.call0 [] false (ih (nthT a.list i) (nthT b.list i) (ha.2.2.2.1 _ (nthT_mem (by omega))) (hb.2.2.2.1 _ (nthT_mem (by omega)))) Tryz.func10 (hv := by exact (.cons (.aggL (.same Z)) (.cons (.aggL (.same Z)) .nil)))) ?_
  refine .p [] (.not Z Z) <| .nil (by kernel_rfl) ?_
  rcases Bool.eq_false_or_eq_true (eqT (nthT a.list i) (nthT b.list i)) with h16 | h16
  refine .cF Z (bnot h16) <| .skip <| .region <| .p (.move Z Z) <| .p (.iadd (r := (((i + 1) : Nat) : Int)) Z Z Z (wi (by omega) (by first | rfl | omega | (simp; done)))) ?_
  refine .p (.assign Z Z) <| .nil ?_
  have hq : (i + 1) ≤ a.list.length ∧ ∀ j, j < (i + 1) → nthT a.list j = nthT b.list j := by
    refine ⟨by omega, fun q hq => ?_⟩
    rcases Nat.lt_or_eq_of_le (Nat.le_of_lt_succ hq) with h | rfl
    · exact hg.2 q h
    · exact eqT_iff.1 ‹_›
  exact ⟨⟨((i + 1)), hq⟩, (by simp; omega), ALe.s⟩
  refine .cT Z (bnot h16) <| .seq <| .region <| .p (.assign Z Z) <| .nil <| .ret ?_
  have hd : eqT a b = false := eqT_false (fun e => by subst e; simp_all [eqVs, eqV1])
  exact ⟨_, _, _, _, rfl, ALe.of false [] 0
      [(0, .B (eqT a b))]
      []
      .nil
      (.cons rfl (.litE (by rw [hd])) .nil)
      (by simp), rfl, rfl⟩
  have h14 := decide_eq_false p15
  refine .cF Z h14 <| .exit <| .seq <| .seq <| .region <| .p (.assign Z Z) <| .nil <| .block ?_
  have gL : ∀ q, q < a.list.length → nthT a.list q = nthT b.list q := fun q hq => hg.2 q (by omega)
  refine AWP.loop (G := { g : Nat // g ≤ a.fields.length ∧ ∀ j, j < g → nthF a.fields j = nthF b.fields j }) (fun g => envOf [(2, .P 0), (3, .P 1), (6, .N g.1)]) (fun g => hpOf [(0, .box (encX a)), (1, .box (encX b))]) (fun _ => 2) (fun g => a.fields.length - g.1) ⟨(0), ⟨Nat.zero_le _, by omega⟩⟩ ALe.s ?_
  rintro ⟨i, hg⟩
  try dsimp only at hg
  refine .ws 2 [(2, .P 0), (3, .P 1), (6, .N i)] [(0, .box (encX a)), (1, .box (encX b))] <| .seq <| .seq <| .region <| .p (.move Z Z) <| .p (.faddr fo35_7 Z Z) <| .p (.load1 ag33 Z Z Z Z) <| .p (.len_ro (n := a.fields.length) ut33 Z (.inl Z) (by simp)) ?_
  refine .p (.ilss Z Z Z) <| .nil ?_
  by_cases p18 : ((i : Nat) : Int) < ((a.fields.length : Nat) : Int)
  have h17 := decide_eq_true p18
  refine .cT Z h17 <| .skip <| .seq <| .block <| .seq <| .region_p fol an10_11 (by kernel_rfl) Z ?_
  refine .p [] (.faddr fo35_7 Z Z) <| .p [0] (.load1 ag33 Z Z Z Z) <| .p [] (.move Z Z) <| .p [] (.iaddr_ro (row := ([.S ((nthF a.fields i).1)] ++ encX (nthF a.fields i).2)) ut33 sz72 Z Z Z Z (encF_nth (by omega))) ?_
  refine .p [] (.faddr_rp fo72_0 Z Z) <| .p [] (.rload1 ag9 Z Z Z) <| .p [] (.faddr fo35_7 Z Z) <| .p [1] (.load1 ag33 Z Z Z Z) <| .p [] (.move Z Z) <| .p [] (.iaddr_ro (row := ([.S ((nthF b.fields i).1)] ++ encX (nthF b.fields i).2)) ut33 sz72 Z Z Z Z (encF_nth (by omega))) ?_
  refine .p [] (.faddr_rp fo72_0 Z Z) <| .p [] (.rload1 ag9 Z Z Z) <| .p [] (.sneq Z Z Z) <| .p [] (.move Z Z) ?_
  by_cases p20 : (nthF a.fields i).1 = (nthF b.fields i).1
  have h19 := decide_eq_true p20
  refine .yes [] (b := false) (.faddr fo35_7 Z Z) Z Z (bnot h19) <| .yes [0] (b := false) (.load1 ag33 Z Z Z Z) Z Z (bnot h19) <| .yes [] (b := false) (.move Z Z) Z Z (bnot h19) <| .yes [] (b := false) (.iaddr_ro (row := ([.S ((nthF a.fields i).1)] ++ encX (nthF a.fields i).2)) ut33 sz72 Z Z Z Z (encF_nth (by omega))) Z Z (bnot h19) ?_
  refine .yes [] (b := false) (.faddr_rp fo72_1 Z Z) Z Z (bnot h19) <| .yes [] (b := false) (.rloadN ag35 sz35 Z Z (nl Z)) Z Z (bnot h19) <| .yes [] (b := false) (.faddr fo35_7 Z Z) Z Z (bnot h19) <| .yes [1] (b := false) (.load1 ag33 Z Z Z Z) Z Z (bnot h19) <| .yes [] (b := false) (.move Z Z) Z Z (bnot h19) <| .yes [] (b := false) (.iaddr_ro (row := ([.S ((nthF b.fields i).1)] ++ encX (nthF b.fields i).2)) ut33 sz72 Z Z Z Z (encF_nth (by omega))) Z Z (bnot h19) ?_
  refine .yes [] (b := false) (.faddr_rp fo72_1 Z Z) Z Z (bnot h19) <| .yes [] (b := false) (.rloadN ag35 sz35 Z Z (nl Z)) Z Z (bnot h19) <| .yes [] (b := false) (.call0 [] false (ih (nthF a.fields i).2 (nthF b.fields i).2 (ha.2.2.2.2 _ (nthF_mem (by omega))) (hb.2.2.2.2 _ (nthF_mem (by omega)))) Tryz.func10 (hv := by exact (.cons (.aggL (.same Z)) (.cons (.aggL (.same Z)) .nil)))) Z Z (bnot h19) ?_
  refine .yes [] (b := false) (.not Z Z) Z Z (bnot h19) <| .p [] (.pickE Z Z (bnot h19) Z) <| .nil (by kernel_rfl) ?_
  rcases Bool.eq_false_or_eq_true (eqT (nthF a.fields i).2 (nthF b.fields i).2) with h21 | h21
  refine .cF Z (bnot h21) <| .skip <| .region <| .p (.move Z Z) <| .p (.iadd (r := (((i + 1) : Nat) : Int)) Z Z Z (wi (by omega) (by first | rfl | omega | (simp; done)))) ?_
  refine .p (.assign Z Z) <| .nil ?_
  have hq : (i + 1) ≤ a.fields.length ∧ ∀ j, j < (i + 1) → nthF a.fields j = nthF b.fields j := by
    refine ⟨by omega, fun q hq => ?_⟩
    rcases Nat.lt_or_eq_of_le (Nat.le_of_lt_succ hq) with h | rfl
    · exact hg.2 q h
    · exact Prod.ext ‹_› (eqT_iff.1 ‹_›)
  exact ⟨⟨((i + 1)), hq⟩, (by simp; omega), ALe.s⟩
  refine .cT Z (bnot h21) <| .seq <| .region <| .p (.assign Z Z) <| .nil <| .ret ?_
  have hd : eqT a b = false := eqT_false (fun e => by subst e; simp_all [eqVs, eqV1])
  exact ⟨_, _, _, _, rfl, ALe.of false [] 0
      [(0, .B (eqT a b))]
      []
      .nil
      (.cons rfl (.litE (by rw [hd])) .nil)
      (by simp), rfl, rfl⟩
  have h19 := decide_eq_false p20
  refine .no (b := true) Z Z Z (bnot h19) <| .no (b := true) Z Z Z (bnot h19) <| .no (b := true) Z Z Z (bnot h19) <| .no (b := true) Z Z Z (bnot h19) <| .no (b := true) Z Z Z (bnot h19) <| .no (b := true) Z Z Z (bnot h19) <| .no (b := true) Z Z Z (bnot h19) <| .no (b := true) Z Z Z (bnot h19) <| .no (b := true) Z Z Z (bnot h19) <| .no (b := true) Z Z Z (bnot h19) <| .no (b := true) Z Z Z (bnot h19) <| .no (b := true) Z Z Z (bnot h19) ?_
  refine .no (b := true) Z Z Z (bnot h19) <| .no (b := true) Z Z Z (bnot h19) <| .p [] (.pickE Z Z (bnot h19) Z) <| .nil (by kernel_rfl) ?_
  refine .cT Z Z <| .seq <| .region <| .p (.assign Z Z) <| .nil <| .ret ?_
  have hd : eqT a b = false := eqT_false (fun e => by subst e; simp_all [eqVs, eqV1])
  exact ⟨_, _, _, _, rfl, ALe.of false [] 0
      [(0, .B (eqT a b))]
      []
      .nil
      (.cons rfl (.litE (by rw [hd])) .nil)
      (by simp), rfl, rfl⟩
  have h17 := decide_eq_false p18
  refine .cF Z h17 <| .exit <| .seq <| .region <| .p (.assign Z Z) <| .nil <| .ret ?_
  have hd : eqT a b = true := by
    have hn := eqVs_num.1 ‹eqVs [.bool a.neg, .string a.digits, .int .i64 a.exp] [.bool b.neg, .string b.digits, .int .i64 b.exp] = true›
    have ht := eqVs_time.1 ‹eqVs [.int .i64 a.tk, .int .i64 a.td, .int .i64 a.tn, .int .i64 a.tz] [.int .i64 b.tk, .int .i64 b.td, .int .i64 b.tn, .int .i64 b.tz] = true›
    have hb : a.b = b.b := by simpa using ‹(a.b == b.b) = true›
    refine eqT_true (T.ext' (by assumption) hb hn.1 hn.2.1 hn.2.2 ht.1 ht.2.1 ht.2.2.1 ht.2.2.2 (by assumption) (by assumption) (nthT_ext (by omega) fun q hq => gL q (by omega)) (nthF_ext (by omega) fun q hq => hg.2 q (by omega)))
  exact ⟨_, _, _, _, rfl, ALe.of false [] 0
      [(0, .B (eqT a b))]
      []
      .nil
      (.cons rfl (.litE (by rw [hd])) .nil)
      (by simp), rfl, rfl⟩
  have h12 := decide_eq_false p13
  refine .cT Z (bnot h12) <| .seq <| .region <| .p (.assign Z Z) <| .nil <| .ret ?_
  have hd : eqT a b = false := eqT_false (fun e => by subst e; simp_all [eqVs, eqV1])
  exact ⟨_, _, _, _, rfl, ALe.of false [] 0
      [(0, .B (eqT a b))]
      []
      .nil
      (.cons rfl (.litE (by rw [hd])) .nil)
      (by simp), rfl, rfl⟩
  have h10 := decide_eq_false p11
  refine .nT Z Z (bnot h10) Z <| .nT Z Z (bnot h10) Z <| .nT Z Z (bnot h10) Z <| .nT Z Z (bnot h10) Z <| .nT Z Z (bnot h10) Z <| .nT Z Z (bnot h10) Z <| .nT Z Z (bnot h10) Z <| .p (.pickE Z Z (bnot h10) Z) <| .nil <| .ws 2 [(2, .P 0), (3, .P 1), (66, .B true)] [(0, .box (encX a)), (1, .box (encX b))] <| .cT Z Z <| .seq ?_
  refine .region <| .p (.assign Z Z) <| .nil <| .ret ?_
  have hd : eqT a b = false := eqT_false (fun e => by subst e; simp_all [eqVs, eqV1])
  exact ⟨_, _, _, _, rfl, ALe.of false [] 0
      [(0, .B (eqT a b))]
      []
      .nil
      (.cons rfl (.litE (by rw [hd])) .nil)
      (by simp), rfl, rfl⟩
  have h8 := decide_eq_false p9
  refine .nT Z Z (bnot h8) Z <| .nT Z Z (bnot h8) Z <| .nT Z Z (bnot h8) Z <| .nT Z Z (bnot h8) Z <| .nT Z Z (bnot h8) Z <| .nT Z Z (bnot h8) Z <| .nT Z Z (bnot h8) Z <| .p (.pickE Z Z (bnot h8) Z) <| .p (.move Z Z) <| .nT Z Z (Eq.refl true) Z <| .nT Z Z (Eq.refl true) Z <| .nT Z Z (Eq.refl true) Z ?_
  refine .nT Z Z (Eq.refl true) Z <| .nT Z Z (Eq.refl true) Z <| .nT Z Z (Eq.refl true) Z <| .nT Z Z (Eq.refl true) Z <| .p (.pick Z Z Z) <| .nil <| .ws 2 [(2, .P 0), (3, .P 1), (66, .B true)] [(0, .box (encX a)), (1, .box (encX b))] <| .cT Z Z <| .seq <| .region <| .p (.assign Z Z) <| .nil ?_
  refine .ret ?_
  have hd : eqT a b = false := eqT_false (fun e => by subst e; simp_all [eqVs, eqV1])
  exact ⟨_, _, _, _, rfl, ALe.of false [] 0
      [(0, .B (eqT a b))]
      []
      .nil
      (.cons rfl (.litE (by rw [hd])) .nil)
      (by simp), rfl, rfl⟩
  have h6 := decide_eq_false p7
  refine .nT Z Z (bnot h6) Z <| .nT Z Z (bnot h6) Z <| .nT Z Z (bnot h6) Z <| .nT Z Z (bnot h6) Z <| .nT Z Z (bnot h6) Z <| .nT Z Z (bnot h6) Z <| .nT Z Z (bnot h6) Z <| .p (.pickE Z Z (bnot h6) Z) <| .p (.move Z Z) <| .nT Z Z (Eq.refl true) Z <| .nT Z Z (Eq.refl true) Z <| .nT Z Z (Eq.refl true) Z ?_
  refine .nT Z Z (Eq.refl true) Z <| .nT Z Z (Eq.refl true) Z <| .nT Z Z (Eq.refl true) Z <| .nT Z Z (Eq.refl true) Z <| .p (.pick Z Z Z) <| .p (.move Z Z) <| .nT Z Z (Eq.refl true) Z <| .nT Z Z (Eq.refl true) Z <| .nT Z Z (Eq.refl true) Z <| .nT Z Z (Eq.refl true) Z <| .nT Z Z (Eq.refl true) Z <| .nT Z Z (Eq.refl true) Z ?_
  refine .nT Z Z (Eq.refl true) Z <| .p (.pick Z Z Z) <| .nil <| .ws 2 [(2, .P 0), (3, .P 1), (66, .B true)] [(0, .box (encX a)), (1, .box (encX b))] <| .cT Z Z <| .seq <| .region <| .p (.assign Z Z) <| .nil <| .ret ?_
  have hd : eqT a b = false := eqT_false (fun e => by subst e; simp_all [eqVs, eqV1])
  exact ⟨_, _, _, _, rfl, ALe.of false [] 0
      [(0, .B (eqT a b))]
      []
      .nil
      (.cons rfl (.litE (by rw [hd])) .nil)
      (by simp), rfl, rfl⟩
  refine .nT Z Z (bnot h5) Z <| .nT Z Z (bnot h5) Z <| .nT Z Z (bnot h5) Z <| .nT Z Z (bnot h5) Z <| .nT Z Z (bnot h5) Z <| .p (.pickE Z Z (bnot h5) Z) <| .p (.move Z Z) <| .nT Z Z (Eq.refl true) Z <| .nT Z Z (Eq.refl true) Z <| .nT Z Z (Eq.refl true) Z <| .nT Z Z (Eq.refl true) Z <| .nT Z Z (Eq.refl true) Z ?_
  refine .nT Z Z (Eq.refl true) Z <| .nT Z Z (Eq.refl true) Z <| .p (.pick Z Z Z) <| .p (.move Z Z) <| .nT Z Z (Eq.refl true) Z <| .nT Z Z (Eq.refl true) Z <| .nT Z Z (Eq.refl true) Z <| .nT Z Z (Eq.refl true) Z <| .nT Z Z (Eq.refl true) Z <| .nT Z Z (Eq.refl true) Z <| .nT Z Z (Eq.refl true) Z <| .p (.pick Z Z Z) ?_
  refine .p (.move Z Z) <| .nT Z Z (Eq.refl true) Z <| .nT Z Z (Eq.refl true) Z <| .nT Z Z (Eq.refl true) Z <| .nT Z Z (Eq.refl true) Z <| .nT Z Z (Eq.refl true) Z <| .nT Z Z (Eq.refl true) Z <| .nT Z Z (Eq.refl true) Z <| .p (.pick Z Z Z) <| .nil <| .ws 2 [(2, .P 0), (3, .P 1), (66, .B true)] [(0, .box (encX a)), (1, .box (encX b))] <| .cT Z Z ?_
  refine .seq <| .region <| .p (.assign Z Z) <| .nil <| .ret ?_
  have hd : eqT a b = false := eqT_false (fun e => by subst e; simp_all [eqVs, eqV1])
  exact ⟨_, _, _, _, rfl, ALe.of false [] 0
      [(0, .B (eqT a b))]
      []
      .nil
      (.cons rfl (.litE (by rw [hd])) .nil)
      (by simp), rfl, rfl⟩
  refine .nT Z Z (bnot h4) Z <| .nT Z Z (bnot h4) Z <| .nT Z Z (bnot h4) Z <| .nT Z Z (bnot h4) Z <| .nT Z Z (bnot h4) Z <| .p (.pickE Z Z (bnot h4) Z) <| .p (.move Z Z) <| .nT Z Z (Eq.refl true) Z <| .nT Z Z (Eq.refl true) Z <| .nT Z Z (Eq.refl true) Z <| .nT Z Z (Eq.refl true) Z <| .nT Z Z (Eq.refl true) Z ?_
  refine .p (.pick Z Z Z) <| .p (.move Z Z) <| .nT Z Z (Eq.refl true) Z <| .nT Z Z (Eq.refl true) Z <| .nT Z Z (Eq.refl true) Z <| .nT Z Z (Eq.refl true) Z <| .nT Z Z (Eq.refl true) Z <| .nT Z Z (Eq.refl true) Z <| .nT Z Z (Eq.refl true) Z <| .p (.pick Z Z Z) <| .p (.move Z Z) <| .nT Z Z (Eq.refl true) Z ?_
  refine .nT Z Z (Eq.refl true) Z <| .nT Z Z (Eq.refl true) Z <| .nT Z Z (Eq.refl true) Z <| .nT Z Z (Eq.refl true) Z <| .nT Z Z (Eq.refl true) Z <| .nT Z Z (Eq.refl true) Z <| .p (.pick Z Z Z) <| .p (.move Z Z) <| .nT Z Z (Eq.refl true) Z <| .nT Z Z (Eq.refl true) Z <| .nT Z Z (Eq.refl true) Z <| .nT Z Z (Eq.refl true) Z ?_
  refine .nT Z Z (Eq.refl true) Z <| .nT Z Z (Eq.refl true) Z <| .nT Z Z (Eq.refl true) Z <| .p (.pick Z Z Z) <| .nil <| .ws 2 [(2, .P 0), (3, .P 1), (66, .B true)] [(0, .box (encX a)), (1, .box (encX b))] <| .cT Z Z <| .seq <| .region <| .p (.assign Z Z) <| .nil <| .ret ?_
  have hd : eqT a b = false := eqT_false (fun e => by subst e; simp_all [eqVs, eqV1])
  exact ⟨_, _, _, _, rfl, ALe.of false [] 0
      [(0, .B (eqT a b))]
      []
      .nil
      (.cons rfl (.litE (by rw [hd])) .nil)
      (by simp), rfl, rfl⟩
  refine .nT Z Z (bnot h3) Z <| .nT Z Z (bnot h3) Z <| .nT Z Z (bnot h3) Z <| .nT Z Z (bnot h3) Z <| .nT Z Z (bnot h3) Z <| .p (.pickE Z Z (bnot h3) Z) <| .p (.move Z Z) <| .nT Z Z (Eq.refl true) Z <| .nT Z Z (Eq.refl true) Z <| .nT Z Z (Eq.refl true) Z <| .nT Z Z (Eq.refl true) Z <| .nT Z Z (Eq.refl true) Z ?_
  refine .p (.pick Z Z Z) <| .p (.move Z Z) <| .nT Z Z (Eq.refl true) Z <| .nT Z Z (Eq.refl true) Z <| .nT Z Z (Eq.refl true) Z <| .nT Z Z (Eq.refl true) Z <| .nT Z Z (Eq.refl true) Z <| .p (.pick Z Z Z) <| .p (.move Z Z) <| .nT Z Z (Eq.refl true) Z <| .nT Z Z (Eq.refl true) Z <| .nT Z Z (Eq.refl true) Z ?_
  refine .nT Z Z (Eq.refl true) Z <| .nT Z Z (Eq.refl true) Z <| .nT Z Z (Eq.refl true) Z <| .nT Z Z (Eq.refl true) Z <| .p (.pick Z Z Z) <| .p (.move Z Z) <| .nT Z Z (Eq.refl true) Z <| .nT Z Z (Eq.refl true) Z <| .nT Z Z (Eq.refl true) Z <| .nT Z Z (Eq.refl true) Z <| .nT Z Z (Eq.refl true) Z <| .nT Z Z (Eq.refl true) Z ?_
  refine .nT Z Z (Eq.refl true) Z <| .p (.pick Z Z Z) <| .p (.move Z Z) <| .nT Z Z (Eq.refl true) Z <| .nT Z Z (Eq.refl true) Z <| .nT Z Z (Eq.refl true) Z <| .nT Z Z (Eq.refl true) Z <| .nT Z Z (Eq.refl true) Z <| .nT Z Z (Eq.refl true) Z <| .nT Z Z (Eq.refl true) Z <| .p (.pick Z Z Z) <| .nil ?_
  refine .ws 2 [(2, .P 0), (3, .P 1), (66, .B true)] [(0, .box (encX a)), (1, .box (encX b))] <| .cT Z Z <| .seq <| .region <| .p (.assign Z Z) <| .nil <| .ret ?_
  have hd : eqT a b = false := eqT_false (fun e => by subst e; simp_all [eqVs, eqV1])
  exact ⟨_, _, _, _, rfl, ALe.of false [] 0
      [(0, .B (eqT a b))]
      []
      .nil
      (.cons rfl (.litE (by rw [hd])) .nil)
      (by simp), rfl, rfl⟩
  have h1 := decide_eq_false p2
  refine .nT Z Z (bnot h1) Z <| .nT Z Z (bnot h1) Z <| .nT Z Z (bnot h1) Z <| .nT Z Z (bnot h1) Z <| .nT Z Z (bnot h1) Z <| .p (.pickE Z Z (bnot h1) Z) <| .p (.move Z Z) <| .nT Z Z (Eq.refl true) Z <| .nT Z Z (Eq.refl true) Z <| .nT Z Z (Eq.refl true) Z <| .nT Z Z (Eq.refl true) Z <| .nT Z Z (Eq.refl true) Z ?_
  refine .p (.pick Z Z Z) <| .p (.move Z Z) <| .nT Z Z (Eq.refl true) Z <| .nT Z Z (Eq.refl true) Z <| .nT Z Z (Eq.refl true) Z <| .nT Z Z (Eq.refl true) Z <| .nT Z Z (Eq.refl true) Z <| .p (.pick Z Z Z) <| .p (.move Z Z) <| .nT Z Z (Eq.refl true) Z <| .nT Z Z (Eq.refl true) Z <| .nT Z Z (Eq.refl true) Z ?_
  refine .nT Z Z (Eq.refl true) Z <| .nT Z Z (Eq.refl true) Z <| .p (.pick Z Z Z) <| .p (.move Z Z) <| .nT Z Z (Eq.refl true) Z <| .nT Z Z (Eq.refl true) Z <| .nT Z Z (Eq.refl true) Z <| .nT Z Z (Eq.refl true) Z <| .nT Z Z (Eq.refl true) Z <| .nT Z Z (Eq.refl true) Z <| .nT Z Z (Eq.refl true) Z <| .p (.pick Z Z Z) ?_
  refine .p (.move Z Z) <| .nT Z Z (Eq.refl true) Z <| .nT Z Z (Eq.refl true) Z <| .nT Z Z (Eq.refl true) Z <| .nT Z Z (Eq.refl true) Z <| .nT Z Z (Eq.refl true) Z <| .nT Z Z (Eq.refl true) Z <| .nT Z Z (Eq.refl true) Z <| .p (.pick Z Z Z) <| .p (.move Z Z) <| .nT Z Z (Eq.refl true) Z <| .nT Z Z (Eq.refl true) Z ?_
  refine .nT Z Z (Eq.refl true) Z <| .nT Z Z (Eq.refl true) Z <| .nT Z Z (Eq.refl true) Z <| .nT Z Z (Eq.refl true) Z <| .nT Z Z (Eq.refl true) Z <| .p (.pick Z Z Z) <| .nil <| .ws 2 [(2, .P 0), (3, .P 1), (66, .B true)] [(0, .box (encX a)), (1, .box (encX b))] <| .cT Z Z <| .seq <| .region <| .p (.assign Z Z) ?_
  refine .nil <| .ret ?_
  have hd : eqT a b = false := eqT_false (fun e => by subst e; simp_all [eqVs, eqV1])
  exact ⟨_, _, _, _, rfl, ALe.of false [] 0
      [(0, .B (eqT a b))]
      []
      .nil
      (.cons rfl (.litE (by rw [hd])) .nil)
      (by simp), rfl, rfl⟩
end Go.Abs
namespace Go.Abs
open Go.Proofs
set_option maxRecDepth 100000
set_option maxHeartbeats 8000000

theorem ut76 : Tryz.prog.underlying 76 = some (.slice 75) := by kernel_rfl
def an24_6 : List Nat := [0, 0, 3, 7, 0, 0, 48, 112, 255]
theorem sz75 : (Tryz.prog.info? 75).map (·.size) = some 3 := by kernel_rfl
theorem ag75 : isAggT Tryz.prog 75 = some true := by kernel_rfl
theorem ft75 : FlatT Tryz.prog 75 [.b, .s, .i] := flatT (by kernel_rfl) (by kernel_rfl) (by kernel_rfl)

theorem stepped_spec (a b : List Stp) (ha : a.length ≤ 100000) (hb : b.length ≤ 100000) : FSpec Tryz.prog 24 0 [.ro 3 (rowsOf Stp.cells a), .ro 3 (rowsOf Stp.cells b)] (hpOf []) (fun r h => r = .B (eqG a b) ∧ h = hpOf []) := by
  have hla : a.length ≤ 100000 := ha
  have hlb : b.length ≤ 100000 := hb
  refine FSpec.intro Tryz.func24 rfl (nl rfl) (nl rfl) fun s0 w0 hs0 hn0 => ?_
  refine .ws 0 [(0, .ro 3 (rowsOf Stp.cells a)), (1, .ro 3 (rowsOf Stp.cells b))] [] <| .seq <| .region <| .p (.assign Z Z) <| .nil <| .seq <| .seq <| .region <| .p (.move Z Z) <| .p (.len_ro (n := a.length) ut76 Z (.inl Z) (by simp)) ?_
  refine .p (.move Z Z) <| .p (.len_ro (n := b.length) ut76 Z (.inl Z) (by simp)) ?_
  refine .p (.ineq Z Z Z) <| .nil ?_
  by_cases p2 : ((a.length : Nat) : Int) = ((b.length : Nat) : Int)
  have h1 := decide_eq_true p2
  refine .cF Z (bnot h1) <| .skip <| .seq <| .seq <| .region <| .p (.assign Z Z) <| .nil <| .block ?_
  refine AWP.loop (G := { g : Nat // g ≤ a.length ∧ ∀ j, j < g → nthG a j = nthG b j }) (fun g => envOf [(0, .ro 3 (rowsOf Stp.cells a)), (1, .ro 3 (rowsOf Stp.cells b)), (5, .N g.1)]) (fun g => hpOf []) (fun _ => 0) (fun g => a.length - g.1) ⟨(0), ⟨Nat.zero_le _, by omega⟩⟩ ALe.s ?_
  rintro ⟨i, hg⟩
  try dsimp only at hg
  refine .ws 0 [(0, .ro 3 (rowsOf Stp.cells a)), (1, .ro 3 (rowsOf Stp.cells b)), (5, .N i)] [] <| .seq <| .seq <| .region <| .p (.move Z Z) <| .p (.move Z Z) <| .p (.len_ro (n := a.length) ut76 Z (.inl Z) (by simp)) ?_
  refine .p (.ilss Z Z Z) <| .nil ?_
  by_cases p4 : ((i : Nat) : Int) < ((a.length : Nat) : Int)
  have h3 := decide_eq_true p4
  refine .cT Z h3 <| .skip <| .seq <| .block <| .seq <| .region_p fol an24_6 (by kernel_rfl) Z ?_
  refine .p [] (.move Z Z) <| .p [] (.move Z Z) <| .p [] (.iaddr_ro (row := [.B ((nthG a i).ix), .S ((nthG a i).key), .I ((nthG a i).index)]) ut76 sz75 Z Z Z Z (rows_nth (f := Stp.cells) (by omega))) ?_
  refine .p [] (.rloadN ag75 sz75 Z Z (nl Z)) <| .p [] (.move Z Z) <| .p [] (.move Z Z) <| .p [] (.iaddr_ro (row := [.B ((nthG b i).ix), .S ((nthG b i).key), .I ((nthG b i).index)]) ut76 sz75 Z Z Z Z (rows_nth (f := Stp.cells) (by omega))) ?_
  refine .p [] (.rloadN ag75 sz75 Z Z (nl Z)) <| .p [] (.fNe (xs := [.bool (nthG a i).ix, .string (nthG a i).key, .int .i64 (nthG a i).index]) (ys := [.bool (nthG b i).ix, .string (nthG b i).key, .int .i64 (nthG b i).index]) ft75 Z Z Z Z) <| .nil (by kernel_rfl) ?_
  rcases Bool.eq_false_or_eq_true (eqVs [.bool (nthG a i).ix, .string (nthG a i).key, .int .i64 (nthG a i).index] [.bool (nthG b i).ix, .string (nthG b i).key, .int .i64 (nthG b i).index]) with h5 | h5
  refine .cF Z (bnot h5) <| .skip <| .region <| .p (.move Z Z) <| .p (.iadd (r := (((i + 1) : Nat) : Int)) Z Z Z (wi (by omega) (by first | rfl | omega | (simp; done)))) ?_
  refine .p (.assign Z Z) <| .nil ?_
  have hq : (i + 1) ≤ a.length ∧ ∀ j, j < (i + 1) → nthG a j = nthG b j := by
    refine ⟨by omega, fun q hq => ?_⟩
    rcases Nat.lt_or_eq_of_le (Nat.le_of_lt_succ hq) with h | rfl
    · exact hg.2 q h
    · have h3 := eqVs_num.1 ‹eqVs _ _ = true›
      exact Stp.ext' h3.1 h3.2.1 h3.2.2
  exact ⟨⟨((i + 1)), hq⟩, (by simp; omega), ALe.s⟩
  refine .cT Z (bnot h5) <| .seq <| .region <| .p (.assign Z Z) <| .nil <| .ret ?_
  have hd : eqG a b = false := eqG_false (fun e => by subst e; simp_all [eqVs, eqV1])
  exact ⟨_, _, _, _, rfl, ALe.of false [] 0
      [(0, .B (eqG a b))]
      []
      .nil
      (.cons rfl (.litE (by rw [hd])) .nil)
      (by simp), rfl, rfl⟩
  have h3 := decide_eq_false p4
  refine .cF Z h3 <| .exit <| .seq <| .region <| .p (.assign Z Z) <| .nil <| .ret ?_
  have hd : eqG a b = true := eqG_true (nthG_ext (by omega) fun q hq => hg.2 q (by omega))
  exact ⟨_, _, _, _, rfl, ALe.of false [] 0
      [(0, .B (eqG a b))]
      []
      .nil
      (.cons rfl (.litE (by rw [hd])) .nil)
      (by simp), rfl, rfl⟩
  have h1 := decide_eq_false p2
  refine .cT Z (bnot h1) <| .seq <| .region <| .p (.assign Z Z) <| .nil <| .ret ?_
  have hd : eqG a b = false := eqG_false (fun e => by subst e; simp_all [eqVs, eqV1])
  exact ⟨_, _, _, _, rfl, ALe.of false [] 0
      [(0, .B (eqG a b))]
      []
      .nil
      (.cons rfl (.litE (by rw [hd])) .nil)
      (by simp), rfl, rfl⟩

theorem List_spec (l : List T) : FSpec Tryz.prog 62 0 [.ro 13 (encL l)] (hpOf []) (fun r h => r = .agg (encX (T.lst l)) ∧ h = hpOf []) := by
  refine FSpec.intro Tryz.func62 rfl (nl rfl) (nl rfl) fun s0 w0 hs0 hn0 => ?_
  refine .ws 0 [(0, .ro 13 (encL l))] [] <| .seq <| .region <| .c1 (.alloc 0 Z zt35 Z) <| .nil <| .seq <| .region <| .p (.move Z Z) <| .p (.build Z zt35 Z pl35 Z Z) <| .c0 (.store sz35 Z Z Z Z (notup Z) Z Z (nl Z)) <| .nil <| .ret ?_
  exact ⟨_, _, _, _, rfl, ALe.of false [] 0
      [(0, .agg (encX (T.lst l)))]
      []
      .nil
      (.cons rfl (.aggL (.cons (.litE (by rfl)) (.cons (.litE (by rfl)) (.cons (.litE (by rfl)) (.cons (.litE (by rfl)) (.cons (.litE (by rfl)) (.cons (.litE (by rfl)) (.cons (.litE (by rfl)) (.cons (.litE (by rfl)) (.cons (.litE (by rfl)) (.cons (.litE (by rfl)) (.cons (.nilRo rfl) (.cons (.roE (by rfl)) (.cons (.nilRo rfl) .nil)))))))))))))) .nil)
      (by simp), rfl, rfl⟩

theorem SameAll_spec (a b : List T) (ha : (T.lst a).fit) (hb : (T.lst b).fit) : FSpec Tryz.prog 34 0 [.ro 13 (encL a), .ro 13 (encL b)] (hpOf []) (fun r h => r = .B (eqT (T.lst a) (T.lst b)) ∧ h = hpOf []) := by
  refine FSpec.intro Tryz.func34 rfl (nl rfl) (nl rfl) fun s0 w0 hs0 hn0 => ?_
  refine .ws 0 [(0, .ro 13 (encL a)), (1, .ro 13 (encL b))] [] <| .seq <| .region <| .p (.assign Z Z) <| .nil <| .seq <| .region <| .p (.move Z Z) <| .p (.call0 [] false (List_spec a) Tryz.func62 (hv := by exact (.same Z))) ?_
  refine .p (.move Z Z) <| .p (.call0 [] false (List_spec b) Tryz.func62 (hv := by exact (.same Z))) ?_
  refine .p (.call0 [] false (Same_spec 1000 (T.lst a) (T.lst b) (by assumption) (by assumption)) Tryz.func10 (hv := by exact (.cons (.aggL (.same Z)) (.cons (.aggL (.same Z)) .nil)))) ?_
  refine .p (.assign Z Z) <| .nil <| .ret ?_
  exact ⟨_, _, _, _, rfl, ALe.s (l := [(0, .B (eqT (T.lst a) (T.lst b)))]) (m := []) (nx' := 0), rfl, rfl⟩
end Go.Abs
namespace Go.Abs
open Go.Proofs
set_option maxRecDepth 100000
set_option maxHeartbeats 8000000

theorem el76 : ElT Tryz.prog 76 75 3 32 := ⟨by kernel_rfl, by kernel_rfl, by decide⟩
def zv75 : Value := .agg #[.bool false, .string ⟨#[]⟩, .int .i64 0]
theorem zt75 : (Tryz.prog.info? 75).bind (·.zero) = some zv75 := by kernel_rfl
theorem pl75 : placesOf Tryz.prog 75 = some [(0, 1), (1, 1), (2, 1)] := by kernel_rfl
def zv78 : Value := .agg #[.int .i64 0, .slice none 0 0, .int .i64 0, .int .i64 0, .bool false, .bool false, .string ⟨#[]⟩, .int .i64 0, .int .i64 0, .int .i64 0, .int .i64 0, .int .i64 0, .string ⟨#[]⟩, .slice none 0 0, .slice none 0 0, .slice none 0 0, .int .i64 0, .bool false, .bool false, .string ⟨#[]⟩, .int .i64 0, .int .i64 0, .int .i64 0, .int .i64 0, .int .i64 0, .string ⟨#[]⟩, .slice none 0 0, .slice none 0 0, .slice none 0 0]
theorem zt78 : (Tryz.prog.info? 78).bind (·.zero) = some zv78 := by kernel_rfl
theorem fo78_1 : fieldOff Tryz.prog 78 1 = some 1 := by kernel_rfl
theorem ag76 : isAggT Tryz.prog 76 = some false := by kernel_rfl
theorem sz76 : (Tryz.prog.info? 76).map (·.size) = some 1 := by kernel_rfl
def an28_2 : List Nat := [0, 1, 3, 0, 8, 31, 31, 127, 255, 511]
theorem fo78_3 : fieldOff Tryz.prog 78 3 = some 3 := by kernel_rfl
theorem fo78_4 : fieldOff Tryz.prog 78 4 = some 16 := by kernel_rfl
theorem ag78 : isAggT Tryz.prog 78 = some true := by kernel_rfl
theorem sz78 : (Tryz.prog.info? 78).map (·.size) = some 29 := by kernel_rfl

theorem Join_spec (p q : List Stp) (hp : p.length ≤ 100000) (hq : q.length ≤ 100000) : FSpec Tryz.prog 41 0 [.ro 3 (rowsOf Stp.cells p), .ro 3 (rowsOf Stp.cells q)] (hpOf []) (fun r h => r = .fr (.ro 3 (rowsOf Stp.cells (p ++ q))) ∧ h = hpOf []) := by
  refine FSpec.intro Tryz.func41 rfl (nl rfl) (nl rfl) fun s0 w0 hs0 hn0 => ?_
  refine .ws 0 [(0, .ro 3 (rowsOf Stp.cells p)), (1, .ro 3 (rowsOf Stp.cells q))] [] <| .seq <| .region <| .p (.assign Z Z) <| .nil <| .seq <| .region <| .p (.move Z Z) <| .c2 (.append_empN (n2 := p.length) 0 true el76 Z (.inr ⟨none, Z⟩) (.roL Z (encS_lit p)) (by simp only [rowsOf, List.length_map, List.length_append, List.length_take, List.length_drop, List.length_cons, List.length_nil]; omega) (by simp only [rowsOf, List.length_map, List.length_append, List.length_take, List.length_drop, List.length_cons, List.length_nil]; omega) (by first | rfl | (simp; done) | (simp; omega))) ?_
  refine .p (.assign Z Z) <| .nil <| .seq <| .region <| .p (.move Z Z) <| .p (.move Z Z) <| .c1 (.appendN (n2 := (p.length + q.length)) 2 el76 Z Z Z (by first | rfl | (simp; done) | (simp; omega)) (.roL Z (encS_lit q)) (by simp only [rowsOf, List.length_map, List.length_append, List.length_take, List.length_drop, List.length_cons, List.length_nil]; omega) (by simp only [rowsOf, List.length_map, List.length_append, List.length_take, List.length_drop, List.length_cons, List.length_nil]; omega) (by first | rfl | (simp; done) | (simp; omega))) ?_
  refine .p (.assign Z Z) <| .nil <| .ret ?_
  exact ⟨_, _, _, _, rfl, ALe.of true [] 0
      [(0, .fr (.ro 3 (rowsOf Stp.cells (p ++ q))))]
      []
      .nil
      (.cons rfl (.freezeFR (els := ((rowsOf Stp.cells p) ++ (rowsOf Stp.cells q))) (by simp) (by rw [rows_append])) .nil)
      (fun _ => ⟨hn0, hs0⟩), rfl, rfl⟩

theorem Key_spec (k : ByteArray) : FSpec Tryz.prog 59 0 [.S k] (hpOf []) (fun r h => r = .agg [.B false, .S k, .I 0] ∧ h = hpOf []) := by
  refine FSpec.intro Tryz.func59 rfl (nl rfl) (nl rfl) fun s0 w0 hs0 hn0 => ?_
  refine .ws 0 [(0, .S k)] [] <| .seq <| .region <| .c1 (.alloc 0 Z zt75 Z) <| .nil <| .seq <| .region <| .p (.move Z Z) <| .p (.build Z zt75 Z pl75 Z Z) <| .c0 (.store sz75 Z Z Z Z (notup Z) Z Z (nl Z)) <| .nil <| .ret ?_
  exact ⟨_, _, _, _, rfl, ALe.s (l := [(0, .agg [.B false, .S k, .I 0])]) (m := []) (nx' := 0), rfl, rfl⟩

theorem step_spec (p : List Stp) (s : Stp) (hp : p.length ≤ 100000) : FSpec Tryz.prog 65 0 [.ro 3 (rowsOf Stp.cells p), .agg [.B s.ix, .S s.key, .I s.index]] (hpOf []) (fun r h => r = .fr (.ro 3 (rowsOf Stp.cells (p ++ [s]))) ∧ h = hpOf []) := by
  refine FSpec.intro Tryz.func65 rfl (nl rfl) (nl rfl) fun s0 w0 hs0 hn0 => ?_
  refine .ws 0 [(0, .ro 3 (rowsOf Stp.cells p)), (1, .agg [.B s.ix, .S s.key, .I s.index])] [] <| .seq <| .region <| .c1 (.box 0 Z Z (notup Z)) <| .p (.assign Z Z) <| .nil <| .seq <| .region <| .p (.move Z Z) <| .p (.loadN ag75 sz75 Z Z Z (nl Z)) <| .c1 (.buildSlice 1 true [[.B s.ix, .S s.key, .I s.index]] ut76 sz75 zt75 Z Z (by decide) (by decide) Z Z Z Z Z Z Z) ?_
  refine .p (.call0 [] true (Join_spec p [s] (by first | assumption | simp) (by first | assumption | simp)) Tryz.func41 (hv := by exact (.cons (.same Z) (.cons (.bslR (els := [[.B s.ix, .S s.key, .I s.index]]) (by simp) Z) .nil)))) ?_
  refine .p (.assign Z Z) <| .nil <| .ret ?_
  exact ⟨_, _, _, _, rfl, ALe.s (l := [(0, .fr (.ro 3 (rowsOf Stp.cells (p ++ [s]))))]) (m := []) (nx' := 0), rfl, rfl⟩

theorem clone_spec (c : Chg) (hp : c.path.length ≤ 100000) (h1 : c.old.fit) (h2 : c.new.fit) : FSpec Tryz.prog 28 0 [.agg ([.I c.op, .ro 3 (rowsOf Stp.cells c.path), .I c.pos] ++ encX c.old ++ encX c.new)] (hpOf []) (fun r h => r = .agg ([.I c.op, .fr (.ro 3 (rowsOf Stp.cells c.path)), .I c.pos] ++ encFr c.old ++ encFr c.new) ∧ h = hpOf []) := by
  refine FSpec.intro Tryz.func28 rfl (nl rfl) (nl rfl) fun s0 w0 hs0 hn0 => ?_
  refine .ws 0 [(0, .agg ([.I c.op, .ro 3 (rowsOf Stp.cells c.path), .I c.pos] ++ encX c.old ++ encX c.new))] [] <| .seq <| .region <| .c1 (.box 0 Z Z (notup Z)) <| .c1 (.alloc 1 Z zt78 Z) <| .nil <| .seq <| .region <| .c1 (.buildEmpty 2 true ut76 sz75 Z) <| .p (.faddr fo78_1 Z Z) <| .p (.load1 ag76 Z Z Z Z) <| .c1 (.appendN (n2 := (0 + c.path.length)) 3 el76 Z Z Z Z (.roL Z (encS_lit c.path)) (by simp only [rowsOf, List.length_map, List.length_append, List.length_take, List.length_drop, List.length_cons, List.length_nil]; omega) (by simp only [rowsOf, List.length_map, List.length_append, List.length_take, List.length_drop, List.length_cons, List.length_nil]; omega) (by first | rfl | (simp; done) | (simp; omega))) ?_
  refine .p (.faddr fo78_1 Z Z) <| .c0 (.store sz76 Z Z Z Z (notup Z) Z Z (nl Z)) <| .nil <| .seq <| .region_p fol an28_2 (by kernel_rfl) Z ?_
  refine .p [] (.faddr fo78_3 Z Z) <| .p [0] (.loadN ag35 sz35 Z Z Z (nl Z)) <| .p [] (.call0 [] false (Copy_spec c.old (by assumption)) Tryz.func27 (hv := by exact (.cons (.aggL (.same Z)) .nil))) ?_
  refine .p [] (.faddr fo78_4 Z Z) <| .p [0] (.loadN ag35 sz35 Z Z Z (nl Z)) <| .p [] (.call0 [] false (Copy_spec c.new (by assumption)) Tryz.func27 (hv := by exact (.cons (.aggL (.same Z)) .nil))) ?_
  refine .p [] (.faddr fo78_3 Z Z) <| .c 4 [0] (.store sz35 Z Z Z Z (notup Z) Z Z (nl Z)) <| .p [] (.faddr fo78_4 Z Z) <| .c 4 [0] (.store sz35 Z Z Z Z (notup Z) Z Z (nl Z)) <| .nil (by kernel_rfl) ?_
  refine .seq <| .region <| .p (.loadN ag78 sz78 Z Z Z (nl Z)) <| .c0 (.store sz78 Z Z Z Z (notup Z) Z Z (nl Z)) <| .nil <| .ret ?_
  exact ⟨_, _, _, _, rfl, ALe.of true [] 0
      [(0, .agg ([.I c.op, .fr (.ro 3 (rowsOf Stp.cells c.path)), .I c.pos] ++ encFr c.old ++ encFr c.new))]
      []
      .nil
      (.cons rfl (.aggL (.cons (.same rfl) (.cons (.freezeFR (els := ([] ++ (rowsOf Stp.cells c.path))) (by simp) (by simp)) (.cons (.same rfl) (.cons (.same rfl) (.cons (.same rfl) (.cons (.same rfl) (.cons (.same rfl) (.cons (.same rfl) (.cons (.same rfl) (.cons (.same rfl) (.cons (.same rfl) (.cons (.same rfl) (.cons (.same rfl) (.cons (.same rfl) (.cons (.same rfl) (.cons (.same rfl) (.cons (.same rfl) (.cons (.same rfl) (.cons (.same rfl) (.cons (.same rfl) (.cons (.same rfl) (.cons (.same rfl) (.cons (.same rfl) (.cons (.same rfl) (.cons (.same rfl) (.cons (.same rfl) (.cons (.same rfl) (.cons (.same rfl) (.cons (.same rfl) .nil)))))))))))))))))))))))))))))) .nil)
      (fun _ => ⟨hn0, hs0⟩), rfl, rfl⟩
end Go.Abs
namespace Go.Abs
open Go.Proofs
set_option maxRecDepth 100000
set_option maxHeartbeats 8000000

theorem ut38 : Tryz.prog.underlying 38 = some (.slice 78) := by kernel_rfl
def an7_6 : List Nat := [0, 0, 3, 7, 15, 0, 0, 96, 224, 480, 1023, 2047, 4095, 4095, 16383, 32767, 65535, 4095, 4095, 397311, 921599, 1970175, 4194303, 8388607, 16777215, 33554431, 33554431, 134217727, 268435455, 536870911, 33554431, 33554431, 3254779903, 7549747199, 16139681791, 34359738367, 68719476735, 137438953471, 274877906943, 549755813887, 549755813887, 2199023255551, 4398046511103, 8796093022207, 549755813887, 549755813887, 53326313947135, 123695058124799, 264432546480127, 562949953421311, 1125899906842623, 2251799813685247, 4503599627370495, 9007199254740991, 9007199254740991, 36028797018963967, 72057594037927935, 144115188075855871, 9007199254740991, 9007199254740991, 873698327709876223, 2026619832316723199, 4332462841530417151, 9223372036854775807, 18446744073709551615, 36893488147419103231]
theorem fo78_0 : fieldOff Tryz.prog 78 0 = some 0 := by kernel_rfl
theorem fo78_2 : fieldOff Tryz.prog 78 2 = some 2 := by kernel_rfl
theorem ut53 : Tryz.prog.underlying 53 = some (.slice 93) := by kernel_rfl
def an16_6 : List Nat := [0, 0, 3, 7, 15, 0, 0, 96, 224, 480, 1023, 2047, 4095, 8191, 8191, 32767, 65535, 131071, 8191, 8191, 794623, 1843199, 3940351, 8388607, 16777215, 33554431, 67108863, 134217727, 134217727, 536870911, 1073741823, 2147483647, 134217727, 134217727, 13019119615, 30198988799, 64558727167, 137438953471, 274877906943, 549755813887, 1099511627775, 2199023255551, 2199023255551, 8796093022207, 17592186044415, 35184372088831, 2199023255551, 2199023255551, 213305255788543, 494780232499199, 1057730185920511, 2251799813685247, 4503599627370495, 9007199254740991]
theorem sz93 : (Tryz.prog.info? 93).map (·.size) = some 4 := by kernel_rfl
theorem fo93_0 : fieldOff Tryz.prog 93 0 = some 0 := by kernel_rfl
theorem fo93_1 : fieldOff Tryz.prog 93 1 = some 1 := by kernel_rfl
theorem fo93_2 : fieldOff Tryz.prog 93 2 = some 2 := by kernel_rfl
theorem fo93_3 : fieldOff Tryz.prog 93 3 = some 3 := by kernel_rfl

theorem changed_spec (a b : List Chg) (hla : a.length ≤ 100000) (hlb : b.length ≤ 100000) (ha : ∀ c ∈ a, c.path.length ≤ 100000 ∧ c.old.fit ∧ c.new.fit) (hb : ∀ c ∈ b, c.path.length ≤ 100000 ∧ c.old.fit ∧ c.new.fit) : FSpec Tryz.prog 7 0 [.ro 29 (rowsOf Chg.cells a), .ro 29 (rowsOf Chg.cells b)] (hpOf []) (fun r h => r = .B (eqG a b) ∧ h = hpOf []) := by
  refine FSpec.intro Tryz.func7 rfl (nl rfl) (nl rfl) fun s0 w0 hs0 hn0 => ?_
  refine .ws 0 [(0, .ro 29 (rowsOf Chg.cells a)), (1, .ro 29 (rowsOf Chg.cells b))] [] <| .seq <| .region <| .p (.assign Z Z) <| .nil <| .seq <| .seq <| .region <| .p (.move Z Z) <| .p (.len_ro (n := a.length) ut38 Z (.inl Z) (by simp)) ?_
  refine .p (.move Z Z) <| .p (.len_ro (n := b.length) ut38 Z (.inl Z) (by simp)) ?_
  refine .p (.ineq Z Z Z) <| .nil ?_
  by_cases p2 : ((a.length : Nat) : Int) = ((b.length : Nat) : Int)
  have h1 := decide_eq_true p2
  refine .cF Z (bnot h1) <| .skip <| .seq <| .seq <| .region <| .p (.assign Z Z) <| .nil <| .block ?_
  refine AWP.loop (G := { g : Nat // g ≤ a.length ∧ ∀ j, j < g → nthG a j = nthG b j }) (fun g => envOf [(0, .ro 29 (rowsOf Chg.cells a)), (1, .ro 29 (rowsOf Chg.cells b)), (5, .N g.1)]) (fun g => hpOf []) (fun _ => 0) (fun g => a.length - g.1) ⟨(0), ⟨Nat.zero_le _, by omega⟩⟩ ALe.s ?_
  rintro ⟨i, hg⟩
  try dsimp only at hg
  refine .ws 0 [(0, .ro 29 (rowsOf Chg.cells a)), (1, .ro 29 (rowsOf Chg.cells b)), (5, .N i)] [] <| .seq <| .seq <| .region <| .p (.move Z Z) <| .p (.move Z Z) <| .p (.len_ro (n := a.length) ut38 Z (.inl Z) (by simp)) ?_
  refine .p (.ilss Z Z Z) <| .nil ?_
  by_cases p4 : ((i : Nat) : Int) < ((a.length : Nat) : Int)
  have h3 := decide_eq_true p4
  refine .cT Z h3 <| .skip <| .seq <| .block <| .seq <| .region_p fol an7_6 (by kernel_rfl) Z ?_
  refine .p [] (.move Z Z) <| .p [] (.move Z Z) <| .p [] (.iaddr_ro (row := ([.I ((nthG a i).op), .ro 3 (rowsOf Stp.cells (nthG a i).path), .I ((nthG a i).pos)] ++ encX (nthG a i).old ++ encX (nthG a i).new)) ut38 sz78 Z Z Z Z (rows_nth (f := Chg.cells) (by omega))) ?_
  refine .p [] (.faddr_rp fo78_0 Z Z) <| .p [] (.rload1 ag3 Z Z Z) <| .p [] (.move Z Z) <| .p [] (.move Z Z) <| .p [] (.iaddr_ro (row := ([.I ((nthG b i).op), .ro 3 (rowsOf Stp.cells (nthG b i).path), .I ((nthG b i).pos)] ++ encX (nthG b i).old ++ encX (nthG b i).new)) ut38 sz78 Z Z Z Z (rows_nth (f := Chg.cells) (by omega))) ?_
  refine .p [] (.faddr_rp fo78_0 Z Z) <| .p [] (.rload1 ag3 Z Z Z) <| .p [] (.ineq Z Z Z) <| .p [] (.move Z Z) ?_
  by_cases p6 : (nthG a i).op = (nthG b i).op
  have h5 := decide_eq_true p6
  refine .yes [] (b := false) (.move Z Z) Z Z (bnot h5) <| .yes [] (b := false) (.move Z Z) Z Z (bnot h5) <| .yes [] (b := false) (.iaddr_ro (row := ([.I ((nthG a i).op), .ro 3 (rowsOf Stp.cells (nthG a i).path), .I ((nthG a i).pos)] ++ encX (nthG a i).old ++ encX (nthG a i).new)) ut38 sz78 Z Z Z Z (rows_nth (f := Chg.cells) (by omega))) Z Z (bnot h5) ?_
  refine .yes [] (b := false) (.faddr_rp fo78_2 Z Z) Z Z (bnot h5) <| .yes [] (b := false) (.rload1 ag3 Z Z Z) Z Z (bnot h5) <| .yes [] (b := false) (.move Z Z) Z Z (bnot h5) <| .yes [] (b := false) (.move Z Z) Z Z (bnot h5) <| .yes [] (b := false) (.iaddr_ro (row := ([.I ((nthG b i).op), .ro 3 (rowsOf Stp.cells (nthG b i).path), .I ((nthG b i).pos)] ++ encX (nthG b i).old ++ encX (nthG b i).new)) ut38 sz78 Z Z Z Z (rows_nth (f := Chg.cells) (by omega))) Z Z (bnot h5) ?_
  refine .yes [] (b := false) (.faddr_rp fo78_2 Z Z) Z Z (bnot h5) <| .yes [] (b := false) (.rload1 ag3 Z Z Z) Z Z (bnot h5) <| .yes [] (b := false) (.ineq Z Z Z) Z Z (bnot h5) <| .p [] (.pickE Z Z (bnot h5) Z) <| .p [] (.move Z Z) ?_
  by_cases p8 : (nthG a i).pos = (nthG b i).pos
  have h7 := decide_eq_true p8
  refine .yes [] (b := false) (.move Z Z) Z Z (bnot h7) <| .yes [] (b := false) (.move Z Z) Z Z (bnot h7) <| .yes [] (b := false) (.iaddr_ro (row := ([.I ((nthG a i).op), .ro 3 (rowsOf Stp.cells (nthG a i).path), .I ((nthG a i).pos)] ++ encX (nthG a i).old ++ encX (nthG a i).new)) ut38 sz78 Z Z Z Z (rows_nth (f := Chg.cells) (by omega))) Z Z (bnot h7) ?_
  refine .yes [] (b := false) (.faddr_rp fo78_1 Z Z) Z Z (bnot h7) <| .yes [] (b := false) (.rload1 ag76 Z Z Z) Z Z (bnot h7) <| .yes [] (b := false) (.move Z Z) Z Z (bnot h7) <| .yes [] (b := false) (.move Z Z) Z Z (bnot h7) <| .yes [] (b := false) (.iaddr_ro (row := ([.I ((nthG b i).op), .ro 3 (rowsOf Stp.cells (nthG b i).path), .I ((nthG b i).pos)] ++ encX (nthG b i).old ++ encX (nthG b i).new)) ut38 sz78 Z Z Z Z (rows_nth (f := Chg.cells) (by omega))) Z Z (bnot h7) ?_
  refine .yes [] (b := false) (.faddr_rp fo78_1 Z Z) Z Z (bnot h7) <| .yes [] (b := false) (.rload1 ag76 Z Z Z) Z Z (bnot h7) <| .yes [] (b := false) (.call0 [] false (stepped_spec (nthG a i).path (nthG b i).path (ha _ (nthG_mem (by omega))).1 (hb _ (nthG_mem (by omega))).1) Tryz.func24 (hv := by exact (.same Z))) Z Z (bnot h7) ?_
  refine .yes [] (b := false) (.not Z Z) Z Z (bnot h7) <| .p [] (.pickE Z Z (bnot h7) Z) <| .p [] (.move Z Z) ?_
  rcases Bool.eq_false_or_eq_true (eqG (nthG a i).path (nthG b i).path) with h9 | h9
  refine .yes [] (b := false) (.move Z Z) Z Z (bnot h9) <| .yes [] (b := false) (.move Z Z) Z Z (bnot h9) <| .yes [] (b := false) (.iaddr_ro (row := ([.I ((nthG a i).op), .ro 3 (rowsOf Stp.cells (nthG a i).path), .I ((nthG a i).pos)] ++ encX (nthG a i).old ++ encX (nthG a i).new)) ut38 sz78 Z Z Z Z (rows_nth (f := Chg.cells) (by omega))) Z Z (bnot h9) ?_
  refine .yes [] (b := false) (.faddr_rp fo78_3 Z Z) Z Z (bnot h9) <| .yes [] (b := false) (.rloadN ag35 sz35 Z Z (nl Z)) Z Z (bnot h9) <| .yes [] (b := false) (.move Z Z) Z Z (bnot h9) <| .yes [] (b := false) (.move Z Z) Z Z (bnot h9) <| .yes [] (b := false) (.iaddr_ro (row := ([.I ((nthG b i).op), .ro 3 (rowsOf Stp.cells (nthG b i).path), .I ((nthG b i).pos)] ++ encX (nthG b i).old ++ encX (nthG b i).new)) ut38 sz78 Z Z Z Z (rows_nth (f := Chg.cells) (by omega))) Z Z (bnot h9) ?_
  refine .yes [] (b := false) (.faddr_rp fo78_3 Z Z) Z Z (bnot h9) <| .yes [] (b := false) (.rloadN ag35 sz35 Z Z (nl Z)) Z Z (bnot h9) <| .yes [] (b := false) (.call0 [] false (Same_spec 1000 (nthG a i).old (nthG b i).old (ha _ (nthG_mem (by omega))).2.1 (hb _ (nthG_mem (by omega))).2.1) Tryz.func10 (hv := by exact (.cons (.aggL (.same Z)) (.cons (.aggL (.same Z)) .nil)))) Z Z (bnot h9) ?_
  refine .yes [] (b := false) (.not Z Z) Z Z (bnot h9) <| .p [] (.pickE Z Z (bnot h9) Z) <| .p [] (.move Z Z) ?_
  rcases Bool.eq_false_or_eq_true (eqT (nthG a i).old (nthG b i).old) with h10 | h10
  refine .yes [] (b := false) (.move Z Z) Z Z (bnot h10) <| .yes [] (b := false) (.move Z Z) Z Z (bnot h10) <| .yes [] (b := false) (.iaddr_ro (row := ([.I ((nthG a i).op), .ro 3 (rowsOf Stp.cells (nthG a i).path), .I ((nthG a i).pos)] ++ encX (nthG a i).old ++ encX (nthG a i).new)) ut38 sz78 Z Z Z Z (rows_nth (f := Chg.cells) (by omega))) Z Z (bnot h10) ?_
  refine .yes [] (b := false) (.faddr_rp fo78_4 Z Z) Z Z (bnot h10) <| .yes [] (b := false) (.rloadN ag35 sz35 Z Z (nl Z)) Z Z (bnot h10) <| .yes [] (b := false) (.move Z Z) Z Z (bnot h10) <| .yes [] (b := false) (.move Z Z) Z Z (bnot h10) <| .yes [] (b := false) (.iaddr_ro (row := ([.I ((nthG b i).op), .ro 3 (rowsOf Stp.cells (nthG b i).path), .I ((nthG b i).pos)] ++ encX (nthG b i).old ++ encX (nthG b i).new)) ut38 sz78 Z Z Z Z (rows_nth (f := Chg.cells) (by omega))) Z Z (bnot h10) ?_
  refine .yes [] (b := false) (.faddr_rp fo78_4 Z Z) Z Z (bnot h10) <| .yes [] (b := false) (.rloadN ag35 sz35 Z Z (nl Z)) Z Z (bnot h10) <| .yes [] (b := false) (.call0 [] false (Same_spec 1000 (nthG a i).new (nthG b i).new (ha _ (nthG_mem (by omega))).2.2 (hb _ (nthG_mem (by omega))).2.2) Tryz.func10 (hv := by exact (.cons (.aggL (.same Z)) (.cons (.aggL (.same Z)) .nil)))) Z Z (bnot h10) ?_
  refine .yes [] (b := false) (.not Z Z) Z Z (bnot h10) <| .p [] (.pickE Z Z (bnot h10) Z) <| .nil (by kernel_rfl) ?_
  refine .ws 0 [(0, .ro 29 (rowsOf Chg.cells a)), (1, .ro 29 (rowsOf Chg.cells b)), (5, .N i), (82, .B (!(eqT (nthG a i).new (nthG b i).new)))] [] ?_
  rcases Bool.eq_false_or_eq_true (eqT (nthG a i).new (nthG b i).new) with h11 | h11
  refine .cF Z (bnot h11) <| .skip <| .region <| .p (.move Z Z) <| .p (.iadd (r := (((i + 1) : Nat) : Int)) Z Z Z (wi (by omega) (by first | rfl | omega | (simp; done)))) ?_
  refine .p (.assign Z Z) <| .nil ?_
  have hq : (i + 1) ≤ a.length ∧ ∀ j, j < (i + 1) → nthG a j = nthG b j := by
    refine ⟨by omega, fun q hq => ?_⟩
    rcases Nat.lt_or_eq_of_le (Nat.le_of_lt_succ hq) with h | rfl
    · exact hg.2 q h
    · exact Chg.ext' ‹_› (eqG_iff.1 ‹_›) ‹_› (eqT_iff.1 ‹eqT (nthG a q).old _ = true›) (eqT_iff.1 ‹eqT (nthG a q).new _ = true›)
  exact ⟨⟨((i + 1)), hq⟩, (by simp; omega), ALe.s⟩
  refine .cT Z (bnot h11) <| .seq <| .region <| .p (.assign Z Z) <| .nil <| .ret ?_
  have hd : eqG a b = false := eqG_false (fun e => by subst e; simp_all [eqVs, eqV1])
  exact ⟨_, _, _, _, rfl, ALe.of false [] 0
      [(0, .B (eqG a b))]
      []
      .nil
      (.cons rfl (.litE (by rw [hd])) .nil)
      (by simp), rfl, rfl⟩
  refine .no (b := true) Z Z Z (bnot h10) <| .no (b := true) Z Z Z (bnot h10) <| .no (b := true) Z Z Z (bnot h10) <| .no (b := true) Z Z Z (bnot h10) <| .no (b := true) Z Z Z (bnot h10) <| .no (b := true) Z Z Z (bnot h10) <| .no (b := true) Z Z Z (bnot h10) <| .no (b := true) Z Z Z (bnot h10) <| .no (b := true) Z Z Z (bnot h10) <| .no (b := true) Z Z Z (bnot h10) <| .no (b := true) Z Z Z (bnot h10) <| .no (b := true) Z Z Z (bnot h10) ?_
  refine .p [] (.pickE Z Z (bnot h10) Z) <| .nil (by kernel_rfl) ?_
  refine .ws 0 [(0, .ro 29 (rowsOf Chg.cells a)), (1, .ro 29 (rowsOf Chg.cells b)), (5, .N i), (82, .B true)] [] <| .cT Z Z <| .seq <| .region <| .p (.assign Z Z) <| .nil <| .ret ?_
  have hd : eqG a b = false := eqG_false (fun e => by subst e; simp_all [eqVs, eqV1])
  exact ⟨_, _, _, _, rfl, ALe.of false [] 0
      [(0, .B (eqG a b))]
      []
      .nil
      (.cons rfl (.litE (by rw [hd])) .nil)
      (by simp), rfl, rfl⟩
  refine .no (b := true) Z Z Z (bnot h9) <| .no (b := true) Z Z Z (bnot h9) <| .no (b := true) Z Z Z (bnot h9) <| .no (b := true) Z Z Z (bnot h9) <| .no (b := true) Z Z Z (bnot h9) <| .no (b := true) Z Z Z (bnot h9) <| .no (b := true) Z Z Z (bnot h9) <| .no (b := true) Z Z Z (bnot h9) <| .no (b := true) Z Z Z (bnot h9) <| .no (b := true) Z Z Z (bnot h9) <| .no (b := true) Z Z Z (bnot h9) <| .no (b := true) Z Z Z (bnot h9) ?_
  refine .p [] (.pickE Z Z (bnot h9) Z) <| .p [] (.move Z Z) <| .no (b := true) Z Z Z (Eq.refl true) <| .no (b := true) Z Z Z (Eq.refl true) <| .no (b := true) Z Z Z (Eq.refl true) <| .no (b := true) Z Z Z (Eq.refl true) <| .no (b := true) Z Z Z (Eq.refl true) <| .no (b := true) Z Z Z (Eq.refl true) <| .no (b := true) Z Z Z (Eq.refl true) <| .no (b := true) Z Z Z (Eq.refl true) <| .no (b := true) Z Z Z (Eq.refl true) <| .no (b := true) Z Z Z (Eq.refl true) ?_
  refine .no (b := true) Z Z Z (Eq.refl true) <| .no (b := true) Z Z Z (Eq.refl true) <| .p [] (.pick Z Z Z) <| .nil (by kernel_rfl) ?_
  refine .ws 0 [(0, .ro 29 (rowsOf Chg.cells a)), (1, .ro 29 (rowsOf Chg.cells b)), (5, .N i), (82, .B true)] [] <| .cT Z Z <| .seq <| .region <| .p (.assign Z Z) <| .nil <| .ret ?_
  have hd : eqG a b = false := eqG_false (fun e => by subst e; simp_all [eqVs, eqV1])
  exact ⟨_, _, _, _, rfl, ALe.of false [] 0
      [(0, .B (eqG a b))]
      []
      .nil
      (.cons rfl (.litE (by rw [hd])) .nil)
      (by simp), rfl, rfl⟩
  have h7 := decide_eq_false p8
  refine .no (b := true) Z Z Z (bnot h7) <| .no (b := true) Z Z Z (bnot h7) <| .no (b := true) Z Z Z (bnot h7) <| .no (b := true) Z Z Z (bnot h7) <| .no (b := true) Z Z Z (bnot h7) <| .no (b := true) Z Z Z (bnot h7) <| .no (b := true) Z Z Z (bnot h7) <| .no (b := true) Z Z Z (bnot h7) <| .no (b := true) Z Z Z (bnot h7) <| .no (b := true) Z Z Z (bnot h7) <| .no (b := true) Z Z Z (bnot h7) <| .no (b := true) Z Z Z (bnot h7) ?_
  refine .p [] (.pickE Z Z (bnot h7) Z) <| .p [] (.move Z Z) <| .no (b := true) Z Z Z (Eq.refl true) <| .no (b := true) Z Z Z (Eq.refl true) <| .no (b := true) Z Z Z (Eq.refl true) <| .no (b := true) Z Z Z (Eq.refl true) <| .no (b := true) Z Z Z (Eq.refl true) <| .no (b := true) Z Z Z (Eq.refl true) <| .no (b := true) Z Z Z (Eq.refl true) <| .no (b := true) Z Z Z (Eq.refl true) <| .no (b := true) Z Z Z (Eq.refl true) <| .no (b := true) Z Z Z (Eq.refl true) ?_
  refine .no (b := true) Z Z Z (Eq.refl true) <| .no (b := true) Z Z Z (Eq.refl true) <| .p [] (.pick Z Z Z) <| .p [] (.move Z Z) <| .no (b := true) Z Z Z (Eq.refl true) <| .no (b := true) Z Z Z (Eq.refl true) <| .no (b := true) Z Z Z (Eq.refl true) <| .no (b := true) Z Z Z (Eq.refl true) <| .no (b := true) Z Z Z (Eq.refl true) <| .no (b := true) Z Z Z (Eq.refl true) <| .no (b := true) Z Z Z (Eq.refl true) <| .no (b := true) Z Z Z (Eq.refl true) ?_
  refine .no (b := true) Z Z Z (Eq.refl true) <| .no (b := true) Z Z Z (Eq.refl true) <| .no (b := true) Z Z Z (Eq.refl true) <| .no (b := true) Z Z Z (Eq.refl true) <| .p [] (.pick Z Z Z) <| .nil (by kernel_rfl) ?_
  refine .ws 0 [(0, .ro 29 (rowsOf Chg.cells a)), (1, .ro 29 (rowsOf Chg.cells b)), (5, .N i), (82, .B true)] [] <| .cT Z Z <| .seq <| .region <| .p (.assign Z Z) <| .nil <| .ret ?_
  have hd : eqG a b = false := eqG_false (fun e => by subst e; simp_all [eqVs, eqV1])
  exact ⟨_, _, _, _, rfl, ALe.of false [] 0
      [(0, .B (eqG a b))]
      []
      .nil
      (.cons rfl (.litE (by rw [hd])) .nil)
      (by simp), rfl, rfl⟩
  have h5 := decide_eq_false p6
  refine .no (b := true) Z Z Z (bnot h5) <| .no (b := true) Z Z Z (bnot h5) <| .no (b := true) Z Z Z (bnot h5) <| .no (b := true) Z Z Z (bnot h5) <| .no (b := true) Z Z Z (bnot h5) <| .no (b := true) Z Z Z (bnot h5) <| .no (b := true) Z Z Z (bnot h5) <| .no (b := true) Z Z Z (bnot h5) <| .no (b := true) Z Z Z (bnot h5) <| .no (b := true) Z Z Z (bnot h5) <| .no (b := true) Z Z Z (bnot h5) <| .p [] (.pickE Z Z (bnot h5) Z) ?_
  refine .p [] (.move Z Z) <| .no (b := true) Z Z Z (Eq.refl true) <| .no (b := true) Z Z Z (Eq.refl true) <| .no (b := true) Z Z Z (Eq.refl true) <| .no (b := true) Z Z Z (Eq.refl true) <| .no (b := true) Z Z Z (Eq.refl true) <| .no (b := true) Z Z Z (Eq.refl true) <| .no (b := true) Z Z Z (Eq.refl true) <| .no (b := true) Z Z Z (Eq.refl true) <| .no (b := true) Z Z Z (Eq.refl true) <| .no (b := true) Z Z Z (Eq.refl true) <| .no (b := true) Z Z Z (Eq.refl true) ?_
  refine .no (b := true) Z Z Z (Eq.refl true) <| .p [] (.pick Z Z Z) <| .p [] (.move Z Z) <| .no (b := true) Z Z Z (Eq.refl true) <| .no (b := true) Z Z Z (Eq.refl true) <| .no (b := true) Z Z Z (Eq.refl true) <| .no (b := true) Z Z Z (Eq.refl true) <| .no (b := true) Z Z Z (Eq.refl true) <| .no (b := true) Z Z Z (Eq.refl true) <| .no (b := true) Z Z Z (Eq.refl true) <| .no (b := true) Z Z Z (Eq.refl true) <| .no (b := true) Z Z Z (Eq.refl true) ?_
  refine .no (b := true) Z Z Z (Eq.refl true) <| .no (b := true) Z Z Z (Eq.refl true) <| .no (b := true) Z Z Z (Eq.refl true) <| .p [] (.pick Z Z Z) <| .p [] (.move Z Z) <| .no (b := true) Z Z Z (Eq.refl true) <| .no (b := true) Z Z Z (Eq.refl true) <| .no (b := true) Z Z Z (Eq.refl true) <| .no (b := true) Z Z Z (Eq.refl true) <| .no (b := true) Z Z Z (Eq.refl true) <| .no (b := true) Z Z Z (Eq.refl true) <| .no (b := true) Z Z Z (Eq.refl true) ?_
  refine .no (b := true) Z Z Z (Eq.refl true) <| .no (b := true) Z Z Z (Eq.refl true) <| .no (b := true) Z Z Z (Eq.refl true) <| .no (b := true) Z Z Z (Eq.refl true) <| .no (b := true) Z Z Z (Eq.refl true) <| .p [] (.pick Z Z Z) <| .nil (by kernel_rfl) ?_
  refine .ws 0 [(0, .ro 29 (rowsOf Chg.cells a)), (1, .ro 29 (rowsOf Chg.cells b)), (5, .N i), (82, .B true)] [] <| .cT Z Z <| .seq <| .region <| .p (.assign Z Z) <| .nil <| .ret ?_
  have hd : eqG a b = false := eqG_false (fun e => by subst e; simp_all [eqVs, eqV1])
  exact ⟨_, _, _, _, rfl, ALe.of false [] 0
      [(0, .B (eqG a b))]
      []
      .nil
      (.cons rfl (.litE (by rw [hd])) .nil)
      (by simp), rfl, rfl⟩
  have h3 := decide_eq_false p4
  refine .cF Z h3 <| .exit <| .seq <| .region <| .p (.assign Z Z) <| .nil <| .ret ?_
  have hd : eqG a b = true := eqG_true (nthG_ext (by omega) fun q hq => hg.2 q (by omega))
  exact ⟨_, _, _, _, rfl, ALe.of false [] 0
      [(0, .B (eqG a b))]
      []
      .nil
      (.cons rfl (.litE (by rw [hd])) .nil)
      (by simp), rfl, rfl⟩
  have h1 := decide_eq_false p2
  refine .cT Z (bnot h1) <| .seq <| .region <| .p (.assign Z Z) <| .nil <| .ret ?_
  have hd : eqG a b = false := eqG_false (fun e => by subst e; simp_all [eqVs, eqV1])
  exact ⟨_, _, _, _, rfl, ALe.of false [] 0
      [(0, .B (eqG a b))]
      []
      .nil
      (.cons rfl (.litE (by rw [hd])) .nil)
      (by simp), rfl, rfl⟩

theorem disputed_spec (a b : List Cft) (hla : a.length ≤ 100000) (hlb : b.length ≤ 100000) (ha : ∀ c ∈ a, c.path.length ≤ 100000 ∧ (T.lst c.base).fit ∧ (T.lst c.ours).fit ∧ (T.lst c.other).fit) (hb : ∀ c ∈ b, c.path.length ≤ 100000 ∧ (T.lst c.base).fit ∧ (T.lst c.ours).fit ∧ (T.lst c.other).fit) : FSpec Tryz.prog 16 0 [.ro 4 (rowsOf Cft.cells a), .ro 4 (rowsOf Cft.cells b)] (hpOf []) (fun r h => r = .B (eqG a b) ∧ h = hpOf []) := by
  refine FSpec.intro Tryz.func16 rfl (nl rfl) (nl rfl) fun s0 w0 hs0 hn0 => ?_
  refine .ws 0 [(0, .ro 4 (rowsOf Cft.cells a)), (1, .ro 4 (rowsOf Cft.cells b))] [] <| .seq <| .region <| .p (.assign Z Z) <| .nil <| .seq <| .seq <| .region <| .p (.move Z Z) <| .p (.len_ro (n := a.length) ut53 Z (.inl Z) (by simp)) ?_
  refine .p (.move Z Z) <| .p (.len_ro (n := b.length) ut53 Z (.inl Z) (by simp)) ?_
  refine .p (.ineq Z Z Z) <| .nil ?_
  by_cases p2 : ((a.length : Nat) : Int) = ((b.length : Nat) : Int)
  have h1 := decide_eq_true p2
  refine .cF Z (bnot h1) <| .skip <| .seq <| .seq <| .region <| .p (.assign Z Z) <| .nil <| .block ?_
  refine AWP.loop (G := { g : Nat // g ≤ a.length ∧ ∀ j, j < g → nthG a j = nthG b j }) (fun g => envOf [(0, .ro 4 (rowsOf Cft.cells a)), (1, .ro 4 (rowsOf Cft.cells b)), (5, .N g.1)]) (fun g => hpOf []) (fun _ => 0) (fun g => a.length - g.1) ⟨(0), ⟨Nat.zero_le _, by omega⟩⟩ ALe.s ?_
  rintro ⟨i, hg⟩
  try dsimp only at hg
  refine .ws 0 [(0, .ro 4 (rowsOf Cft.cells a)), (1, .ro 4 (rowsOf Cft.cells b)), (5, .N i)] [] <| .seq <| .seq <| .region <| .p (.move Z Z) <| .p (.move Z Z) <| .p (.len_ro (n := a.length) ut53 Z (.inl Z) (by simp)) ?_
  refine .p (.ilss Z Z Z) <| .nil ?_
  by_cases p4 : ((i : Nat) : Int) < ((a.length : Nat) : Int)
  have h3 := decide_eq_true p4
  refine .cT Z h3 <| .skip <| .seq <| .block <| .seq <| .region_p fol an16_6 (by kernel_rfl) Z ?_
  refine .p [] (.move Z Z) <| .p [] (.move Z Z) <| .p [] (.iaddr_ro (row := [.ro 3 (rowsOf Stp.cells (nthG a i).path), .ro 13 (encL (nthG a i).base), .ro 13 (encL (nthG a i).ours), .ro 13 (encL (nthG a i).other)]) ut53 sz93 Z Z Z Z (rows_nth (f := Cft.cells) (by omega))) ?_
  refine .p [] (.faddr_rp fo93_0 Z Z) <| .p [] (.rload1 ag76 Z Z Z) <| .p [] (.move Z Z) <| .p [] (.move Z Z) <| .p [] (.iaddr_ro (row := [.ro 3 (rowsOf Stp.cells (nthG b i).path), .ro 13 (encL (nthG b i).base), .ro 13 (encL (nthG b i).ours), .ro 13 (encL (nthG b i).other)]) ut53 sz93 Z Z Z Z (rows_nth (f := Cft.cells) (by omega))) ?_
  refine .p [] (.faddr_rp fo93_0 Z Z) <| .p [] (.rload1 ag76 Z Z Z) <| .p [] (.call0 [] false (stepped_spec (nthG a i).path (nthG b i).path (ha _ (nthG_mem (by omega))).1 (hb _ (nthG_mem (by omega))).1) Tryz.func24 (hv := by exact (.same Z))) ?_
  refine .p [] (.not Z Z) <| .p [] (.move Z Z) ?_
  rcases Bool.eq_false_or_eq_true (eqG (nthG a i).path (nthG b i).path) with h5 | h5
  refine .yes [] (b := false) (.move Z Z) Z Z (bnot h5) <| .yes [] (b := false) (.move Z Z) Z Z (bnot h5) <| .yes [] (b := false) (.iaddr_ro (row := [.ro 3 (rowsOf Stp.cells (nthG a i).path), .ro 13 (encL (nthG a i).base), .ro 13 (encL (nthG a i).ours), .ro 13 (encL (nthG a i).other)]) ut53 sz93 Z Z Z Z (rows_nth (f := Cft.cells) (by omega))) Z Z (bnot h5) ?_
  refine .yes [] (b := false) (.faddr_rp fo93_1 Z Z) Z Z (bnot h5) <| .yes [] (b := false) (.rload1 ag32 Z Z Z) Z Z (bnot h5) <| .yes [] (b := false) (.move Z Z) Z Z (bnot h5) <| .yes [] (b := false) (.move Z Z) Z Z (bnot h5) <| .yes [] (b := false) (.iaddr_ro (row := [.ro 3 (rowsOf Stp.cells (nthG b i).path), .ro 13 (encL (nthG b i).base), .ro 13 (encL (nthG b i).ours), .ro 13 (encL (nthG b i).other)]) ut53 sz93 Z Z Z Z (rows_nth (f := Cft.cells) (by omega))) Z Z (bnot h5) ?_
  refine .yes [] (b := false) (.faddr_rp fo93_1 Z Z) Z Z (bnot h5) <| .yes [] (b := false) (.rload1 ag32 Z Z Z) Z Z (bnot h5) <| .yes [] (b := false) (.call0 [] false (SameAll_spec (nthG a i).base (nthG b i).base (ha _ (nthG_mem (by omega))).2.1 (hb _ (nthG_mem (by omega))).2.1) Tryz.func34 (hv := by exact (.same Z))) Z Z (bnot h5) ?_
  refine .yes [] (b := false) (.not Z Z) Z Z (bnot h5) <| .p [] (.pickE Z Z (bnot h5) Z) <| .p [] (.move Z Z) ?_
  rcases Bool.eq_false_or_eq_true (eqT (T.lst (nthG a i).base) (T.lst (nthG b i).base)) with h6 | h6
  refine .yes [] (b := false) (.move Z Z) Z Z (bnot h6) <| .yes [] (b := false) (.move Z Z) Z Z (bnot h6) <| .yes [] (b := false) (.iaddr_ro (row := [.ro 3 (rowsOf Stp.cells (nthG a i).path), .ro 13 (encL (nthG a i).base), .ro 13 (encL (nthG a i).ours), .ro 13 (encL (nthG a i).other)]) ut53 sz93 Z Z Z Z (rows_nth (f := Cft.cells) (by omega))) Z Z (bnot h6) ?_
  refine .yes [] (b := false) (.faddr_rp fo93_2 Z Z) Z Z (bnot h6) <| .yes [] (b := false) (.rload1 ag32 Z Z Z) Z Z (bnot h6) <| .yes [] (b := false) (.move Z Z) Z Z (bnot h6) <| .yes [] (b := false) (.move Z Z) Z Z (bnot h6) <| .yes [] (b := false) (.iaddr_ro (row := [.ro 3 (rowsOf Stp.cells (nthG b i).path), .ro 13 (encL (nthG b i).base), .ro 13 (encL (nthG b i).ours), .ro 13 (encL (nthG b i).other)]) ut53 sz93 Z Z Z Z (rows_nth (f := Cft.cells) (by omega))) Z Z (bnot h6) ?_
  refine .yes [] (b := false) (.faddr_rp fo93_2 Z Z) Z Z (bnot h6) <| .yes [] (b := false) (.rload1 ag32 Z Z Z) Z Z (bnot h6) <| .yes [] (b := false) (.call0 [] false (SameAll_spec (nthG a i).ours (nthG b i).ours (ha _ (nthG_mem (by omega))).2.2.1 (hb _ (nthG_mem (by omega))).2.2.1) Tryz.func34 (hv := by exact (.same Z))) Z Z (bnot h6) ?_
  refine .yes [] (b := false) (.not Z Z) Z Z (bnot h6) <| .p [] (.pickE Z Z (bnot h6) Z) <| .p [] (.move Z Z) ?_
  rcases Bool.eq_false_or_eq_true (eqT (T.lst (nthG a i).ours) (T.lst (nthG b i).ours)) with h7 | h7
  refine .yes [] (b := false) (.move Z Z) Z Z (bnot h7) <| .yes [] (b := false) (.move Z Z) Z Z (bnot h7) <| .yes [] (b := false) (.iaddr_ro (row := [.ro 3 (rowsOf Stp.cells (nthG a i).path), .ro 13 (encL (nthG a i).base), .ro 13 (encL (nthG a i).ours), .ro 13 (encL (nthG a i).other)]) ut53 sz93 Z Z Z Z (rows_nth (f := Cft.cells) (by omega))) Z Z (bnot h7) ?_
  refine .yes [] (b := false) (.faddr_rp fo93_3 Z Z) Z Z (bnot h7) <| .yes [] (b := false) (.rload1 ag32 Z Z Z) Z Z (bnot h7) <| .yes [] (b := false) (.move Z Z) Z Z (bnot h7) <| .yes [] (b := false) (.move Z Z) Z Z (bnot h7) <| .yes [] (b := false) (.iaddr_ro (row := [.ro 3 (rowsOf Stp.cells (nthG b i).path), .ro 13 (encL (nthG b i).base), .ro 13 (encL (nthG b i).ours), .ro 13 (encL (nthG b i).other)]) ut53 sz93 Z Z Z Z (rows_nth (f := Cft.cells) (by omega))) Z Z (bnot h7) ?_
  refine .yes [] (b := false) (.faddr_rp fo93_3 Z Z) Z Z (bnot h7) <| .yes [] (b := false) (.rload1 ag32 Z Z Z) Z Z (bnot h7) <| .yes [] (b := false) (.call0 [] false (SameAll_spec (nthG a i).other (nthG b i).other (ha _ (nthG_mem (by omega))).2.2.2 (hb _ (nthG_mem (by omega))).2.2.2) Tryz.func34 (hv := by exact (.same Z))) Z Z (bnot h7) ?_
  refine .yes [] (b := false) (.not Z Z) Z Z (bnot h7) <| .p [] (.pickE Z Z (bnot h7) Z) <| .nil (by kernel_rfl) ?_
  refine .ws 0 [(0, .ro 4 (rowsOf Cft.cells a)), (1, .ro 4 (rowsOf Cft.cells b)), (5, .N i), (70, .B (!(eqT (T.lst (nthG a i).other) (T.lst (nthG b i).other))))] [] ?_
  rcases Bool.eq_false_or_eq_true (eqT (T.lst (nthG a i).other) (T.lst (nthG b i).other)) with h8 | h8
  refine .cF Z (bnot h8) <| .skip <| .region <| .p (.move Z Z) <| .p (.iadd (r := (((i + 1) : Nat) : Int)) Z Z Z (wi (by omega) (by first | rfl | omega | (simp; done)))) ?_
  refine .p (.assign Z Z) <| .nil ?_
  have hq : (i + 1) ≤ a.length ∧ ∀ j, j < (i + 1) → nthG a j = nthG b j := by
    refine ⟨by omega, fun q hq => ?_⟩
    rcases Nat.lt_or_eq_of_le (Nat.le_of_lt_succ hq) with h | rfl
    · exact hg.2 q h
    · have lst : ∀ {l m : List T}, eqT (T.lst l) (T.lst m) = true → l = m := fun h => congrArg T.list (eqT_iff.1 h)
      exact Cft.ext' (eqG_iff.1 ‹_›) (lst ‹eqT (T.lst (nthG a q).base) _ = true›) (lst ‹eqT (T.lst (nthG a q).ours) _ = true›) (lst ‹eqT (T.lst (nthG a q).other) _ = true›)
  exact ⟨⟨((i + 1)), hq⟩, (by simp; omega), ALe.s⟩
  refine .cT Z (bnot h8) <| .seq <| .region <| .p (.assign Z Z) <| .nil <| .ret ?_
  have hd : eqG a b = false := eqG_false (fun e => by subst e; simp_all [eqVs, eqV1])
  exact ⟨_, _, _, _, rfl, ALe.of false [] 0
      [(0, .B (eqG a b))]
      []
      .nil
      (.cons rfl (.litE (by rw [hd])) .nil)
      (by simp), rfl, rfl⟩
  refine .no (b := true) Z Z Z (bnot h7) <| .no (b := true) Z Z Z (bnot h7) <| .no (b := true) Z Z Z (bnot h7) <| .no (b := true) Z Z Z (bnot h7) <| .no (b := true) Z Z Z (bnot h7) <| .no (b := true) Z Z Z (bnot h7) <| .no (b := true) Z Z Z (bnot h7) <| .no (b := true) Z Z Z (bnot h7) <| .no (b := true) Z Z Z (bnot h7) <| .no (b := true) Z Z Z (bnot h7) <| .no (b := true) Z Z Z (bnot h7) <| .no (b := true) Z Z Z (bnot h7) ?_
  refine .p [] (.pickE Z Z (bnot h7) Z) <| .nil (by kernel_rfl) ?_
  refine .ws 0 [(0, .ro 4 (rowsOf Cft.cells a)), (1, .ro 4 (rowsOf Cft.cells b)), (5, .N i), (70, .B true)] [] <| .cT Z Z <| .seq <| .region <| .p (.assign Z Z) <| .nil <| .ret ?_
  have hd : eqG a b = false := eqG_false (fun e => by subst e; simp_all [eqVs, eqV1])
  exact ⟨_, _, _, _, rfl, ALe.of false [] 0
      [(0, .B (eqG a b))]
      []
      .nil
      (.cons rfl (.litE (by rw [hd])) .nil)
      (by simp), rfl, rfl⟩
  refine .no (b := true) Z Z Z (bnot h6) <| .no (b := true) Z Z Z (bnot h6) <| .no (b := true) Z Z Z (bnot h6) <| .no (b := true) Z Z Z (bnot h6) <| .no (b := true) Z Z Z (bnot h6) <| .no (b := true) Z Z Z (bnot h6) <| .no (b := true) Z Z Z (bnot h6) <| .no (b := true) Z Z Z (bnot h6) <| .no (b := true) Z Z Z (bnot h6) <| .no (b := true) Z Z Z (bnot h6) <| .no (b := true) Z Z Z (bnot h6) <| .no (b := true) Z Z Z (bnot h6) ?_
  refine .p [] (.pickE Z Z (bnot h6) Z) <| .p [] (.move Z Z) <| .no (b := true) Z Z Z (Eq.refl true) <| .no (b := true) Z Z Z (Eq.refl true) <| .no (b := true) Z Z Z (Eq.refl true) <| .no (b := true) Z Z Z (Eq.refl true) <| .no (b := true) Z Z Z (Eq.refl true) <| .no (b := true) Z Z Z (Eq.refl true) <| .no (b := true) Z Z Z (Eq.refl true) <| .no (b := true) Z Z Z (Eq.refl true) <| .no (b := true) Z Z Z (Eq.refl true) <| .no (b := true) Z Z Z (Eq.refl true) ?_
  refine .no (b := true) Z Z Z (Eq.refl true) <| .no (b := true) Z Z Z (Eq.refl true) <| .p [] (.pick Z Z Z) <| .nil (by kernel_rfl) ?_
  refine .ws 0 [(0, .ro 4 (rowsOf Cft.cells a)), (1, .ro 4 (rowsOf Cft.cells b)), (5, .N i), (70, .B true)] [] <| .cT Z Z <| .seq <| .region <| .p (.assign Z Z) <| .nil <| .ret ?_
  have hd : eqG a b = false := eqG_false (fun e => by subst e; simp_all [eqVs, eqV1])
  exact ⟨_, _, _, _, rfl, ALe.of false [] 0
      [(0, .B (eqG a b))]
      []
      .nil
      (.cons rfl (.litE (by rw [hd])) .nil)
      (by simp), rfl, rfl⟩
  refine .no (b := true) Z Z Z (bnot h5) <| .no (b := true) Z Z Z (bnot h5) <| .no (b := true) Z Z Z (bnot h5) <| .no (b := true) Z Z Z (bnot h5) <| .no (b := true) Z Z Z (bnot h5) <| .no (b := true) Z Z Z (bnot h5) <| .no (b := true) Z Z Z (bnot h5) <| .no (b := true) Z Z Z (bnot h5) <| .no (b := true) Z Z Z (bnot h5) <| .no (b := true) Z Z Z (bnot h5) <| .no (b := true) Z Z Z (bnot h5) <| .no (b := true) Z Z Z (bnot h5) ?_
  refine .p [] (.pickE Z Z (bnot h5) Z) <| .p [] (.move Z Z) <| .no (b := true) Z Z Z (Eq.refl true) <| .no (b := true) Z Z Z (Eq.refl true) <| .no (b := true) Z Z Z (Eq.refl true) <| .no (b := true) Z Z Z (Eq.refl true) <| .no (b := true) Z Z Z (Eq.refl true) <| .no (b := true) Z Z Z (Eq.refl true) <| .no (b := true) Z Z Z (Eq.refl true) <| .no (b := true) Z Z Z (Eq.refl true) <| .no (b := true) Z Z Z (Eq.refl true) <| .no (b := true) Z Z Z (Eq.refl true) ?_
  refine .no (b := true) Z Z Z (Eq.refl true) <| .no (b := true) Z Z Z (Eq.refl true) <| .p [] (.pick Z Z Z) <| .p [] (.move Z Z) <| .no (b := true) Z Z Z (Eq.refl true) <| .no (b := true) Z Z Z (Eq.refl true) <| .no (b := true) Z Z Z (Eq.refl true) <| .no (b := true) Z Z Z (Eq.refl true) <| .no (b := true) Z Z Z (Eq.refl true) <| .no (b := true) Z Z Z (Eq.refl true) <| .no (b := true) Z Z Z (Eq.refl true) <| .no (b := true) Z Z Z (Eq.refl true) ?_
  refine .no (b := true) Z Z Z (Eq.refl true) <| .no (b := true) Z Z Z (Eq.refl true) <| .no (b := true) Z Z Z (Eq.refl true) <| .no (b := true) Z Z Z (Eq.refl true) <| .p [] (.pick Z Z Z) <| .nil (by kernel_rfl) ?_
  refine .ws 0 [(0, .ro 4 (rowsOf Cft.cells a)), (1, .ro 4 (rowsOf Cft.cells b)), (5, .N i), (70, .B true)] [] <| .cT Z Z <| .seq <| .region <| .p (.assign Z Z) <| .nil <| .ret ?_
  have hd : eqG a b = false := eqG_false (fun e => by subst e; simp_all [eqVs, eqV1])
  exact ⟨_, _, _, _, rfl, ALe.of false [] 0
      [(0, .B (eqG a b))]
      []
      .nil
      (.cons rfl (.litE (by rw [hd])) .nil)
      (by simp), rfl, rfl⟩
  have h3 := decide_eq_false p4
  refine .cF Z h3 <| .exit <| .seq <| .region <| .p (.assign Z Z) <| .nil <| .ret ?_
  have hd : eqG a b = true := eqG_true (nthG_ext (by omega) fun q hq => hg.2 q (by omega))
  exact ⟨_, _, _, _, rfl, ALe.of false [] 0
      [(0, .B (eqG a b))]
      []
      .nil
      (.cons rfl (.litE (by rw [hd])) .nil)
      (by simp), rfl, rfl⟩
  have h1 := decide_eq_false p2
  refine .cT Z (bnot h1) <| .seq <| .region <| .p (.assign Z Z) <| .nil <| .ret ?_
  have hd : eqG a b = false := eqG_false (fun e => by subst e; simp_all [eqVs, eqV1])
  exact ⟨_, _, _, _, rfl, ALe.of false [] 0
      [(0, .B (eqG a b))]
      []
      .nil
      (.cons rfl (.litE (by rw [hd])) .nil)
      (by simp), rfl, rfl⟩
end Go.Abs
namespace Go.Abs
open Go.Proofs
set_option maxRecDepth 100000
set_option maxHeartbeats 8000000

def an110_4 : List Nat := [0, 0, 3, 7, 15, 15, 15, 111, 239, 15, 15, 1039, 3599, 7695, 16383, 32767, 65535]
def an110_6 : List Nat := [0, 0, 0, 0, 8, 0, 0, 64, 224, 480, 0, 0, 3072, 7168, 16355, 32739, 65535, 131071]
def an121_3 : List Nat := [0, 0, 0, 6, 0, 0, 0, 96, 0, 0, 0, 1536, 3840, 7936, 0, 0, 0, 98304, 245760, 507904, 1048335, 2096911, 4194303, 8388607]

theorem cmp104_spec (a b : ByteArray) : FSpec Tryz.prog 104 0 [.S a, .S b] (hpOf []) (fun r h => r = .I (kCmp a b) ∧ h = hpOf []) := by
  refine FSpec.intro Tryz.func104 rfl (nl rfl) (nl rfl) fun s0 w0 hs0 hn0 => ?_
  refine .ws 0 [(0, .S a), (1, .S b)] [] <| .seq <| .region <| .p (.assign Z Z) <| .nil <| .seq <| .region <| .p (.move Z Z) <| .p (.move Z Z) <| .p (.cmpstr Tryz.func112 Z Z) <| .p (.assign Z Z) <| .nil ?_
  refine .ret ?_
  exact ⟨_, _, _, _, rfl, ALe.s (l := [(0, .I (kCmp a b))]) (m := []) (nx' := 0), rfl, rfl⟩

theorem cmp92_spec (a b : ByteArray) : FSpec Tryz.prog 92 0 [.S a, .S b] (hpOf []) (fun r h => r = .I (kCmp a b) ∧ h = hpOf []) := by
  refine FSpec.intro Tryz.func92 rfl (nl rfl) (nl rfl) fun s0 w0 hs0 hn0 => ?_
  refine .ws 0 [(0, .S a), (1, .S b)] [] <| .seq <| .region <| .p (.assign Z Z) <| .nil <| .seq <| .region <| .p (.move Z Z) <| .p (.move Z Z) <| .p (.call0 [] false (cmp104_spec a b) Tryz.func104 (hv := by exact (.same Z))) ?_
  refine .p (.assign Z Z) <| .nil <| .ret ?_
  exact ⟨_, _, _, _, rfl, ALe.s (l := [(0, .I (kCmp a b))]) (m := []) (nx' := 0), rfl, rfl⟩

theorem cmp91_spec (a b : Fl) : FSpec Tryz.prog 91 0 [.agg ([.S a.1] ++ encX a.2), .agg ([.S b.1] ++ encX b.2)] (hpOf []) (fun r h => r = .I (kCmp a.1 b.1) ∧ h = hpOf []) := by
  refine FSpec.intro Tryz.func91 rfl (nl rfl) (nl rfl) fun s0 w0 hs0 hn0 => ?_
  refine .ws 0 [(0, .agg ([.S a.1] ++ encX a.2)), (1, .agg ([.S b.1] ++ encX b.2))] [] <| .seq <| .region <| .c1 (.box 0 Z Z (notup Z)) <| .c1 (.box 1 Z Z (notup Z)) <| .p (.assign Z Z) <| .nil <| .seq <| .region <| .p (.faddr fo72_0 Z Z) <| .p (.load1 ag9 Z Z Z Z) <| .p (.faddr fo72_0 Z Z) ?_
  refine .p (.load1 ag9 Z Z Z Z) <| .p (.call0 [] false (cmp92_spec a.1 b.1) Tryz.func92 (hv := by exact (.same Z))) ?_
  refine .p (.assign Z Z) <| .nil <| .ret ?_
  exact ⟨_, _, _, _, rfl, ALe.s (l := [(0, .I (kCmp a.1 b.1))]) (m := []) (nx' := 0), rfl, rfl⟩

theorem ins_spec (a b n : Nat) (l : List Fl) (hl : l.length = n) (ha : a ≤ n) (hb : b ≤ n) (hn : n ≤ 100000) : FSpec Tryz.prog 110 1 [.sl 0 14 0 n, .N a, .N b, .fn 91 []] (hpOf [(0, .arr false 14 (encF l))]) (fun r h => r = .tup [] ∧ h = hpOf [(0, .arr false 14 (encF (insM a b l)))]) := by
  refine FSpec.intro Tryz.func110 rfl (nl rfl) (nl rfl) fun s0 w0 hs0 hn0 => ?_
  refine .ws 1 [(0, .sl 0 14 0 n), (1, .N a), (2, .N b), (3, .fn 91 [])] [(0, .arr false 14 (encF l))] <| .seq <| .region <| .p (.move Z Z) <| .p (.iadd (r := (((a + 1) : Nat) : Int)) Z Z Z (wi (by omega) (by first | rfl | omega | (simp; done)))) ?_
  refine .p (.assign Z Z) <| .nil <| .block ?_
  refine AWP.loop (G := { g : Nat × List Fl // a + 1 ≤ g.1 ∧ (g.2).length = n ∧ insI a (b - g.1) g.1 g.2 = insM a b l ∧ (g.1 ≤ b ∨ g.1 = a + 1) }) (fun g => envOf [(0, .sl 0 14 0 n), (1, .N a), (2, .N b), (3, .fn 91 []), (8, .N g.1.1)]) (fun g => hpOf [(0, .arr false 14 (encF g.1.2))]) (fun _ => 1) (fun g => b - g.1.1) ⟨((a + 1), l), ⟨Nat.le_refl _, hl, rfl, .inr rfl⟩⟩ ALe.s ?_
  rintro ⟨⟨i, l1⟩, hg⟩
  try dsimp only at hg
  obtain ⟨g1, g2, g3, g4⟩ := hg
  refine .ws 1 [(0, .sl 0 14 0 n), (1, .N a), (2, .N b), (3, .fn 91 []), (8, .N i)] [(0, .arr false 14 (encF l1))] <| .seq <| .seq <| .region <| .p (.move Z Z) <| .p (.move Z Z) <| .p (.ilss Z Z Z) <| .nil ?_
  by_cases p2 : ((i : Nat) : Int) < ((b : Nat) : Int)
  have h1 := decide_eq_true p2
  refine .cT Z h1 <| .skip <| .seq <| .block <| .seq <| .region <| .p (.move Z Z) <| .p (.assign Z Z) <| .nil <| .block ?_
  refine AWP.loop (G := { g : Nat × List Fl // g.1 ≤ i ∧ (g.2).length = n ∧ insJ a g.1 g.2 = insJ a i l1 }) (fun g => envOf [(0, .sl 0 14 0 n), (1, .N a), (2, .N b), (3, .fn 91 []), (8, .N i), (9, .N g.1.1)]) (fun g => hpOf [(0, .arr false 14 (encF g.1.2))]) (fun _ => 1) (fun g => g.1.1) ⟨(i, l1), ⟨Nat.le_refl _, g2, rfl⟩⟩ ALe.s ?_
  rintro ⟨⟨j, l2⟩, hg⟩
  try dsimp only at hg
  obtain ⟨q1, q2, q3⟩ := hg
  refine .ws 1 [(0, .sl 0 14 0 n), (1, .N a), (2, .N b), (3, .fn 91 []), (8, .N i), (9, .N j)] [(0, .arr false 14 (encF l2))] <| .seq <| .seq <| .region_p fol an110_4 (by kernel_rfl) Z ?_
  refine .p [] (.move Z Z) <| .p [] (.move Z Z) <| .p [] (.igtr Z Z Z) <| .p [] (.move Z Z) ?_
  by_cases p4 : ((a : Nat) : Int) < ((j : Nat) : Int)
  have h3 := decide_eq_true p4
  refine .yes [] (b := true) (.move Z Z) Z Z h3 <| .yes [] (b := true) (.move Z Z) Z Z h3 <| .yes [] (b := true) (.move Z Z) Z Z h3 <| .yes [0] (b := true) (.iaddr_sl0 ut33 sz72 Z Z Z Z (by first | omega | (simp only [List.length_set, swp_len]; omega) | (simp; omega)) (Option.some_ne_none _)) Z Z h3 ?_
  refine .yes [0] (b := true) (.aloadN ag72 sz72 Z Z Z (encF_nth (by first | omega | (simp only [List.length_set, swp_len]; omega) | (simp; omega))) (nl Z)) Z Z h3 ?_
  refine .yes [] (b := true) (.move Z Z) Z Z h3 <| .yes [] (b := true) (.move Z Z) Z Z h3 <| .yes [] (b := true) (.isub (r := (((j - 1) : Nat) : Int)) Z Z Z (wi (by omega) (by first | rfl | omega | (simp; done)))) Z Z h3 ?_
  refine .yes [0] (b := true) (.iaddr_sl0 ut33 sz72 Z Z Z Z (by first | omega | (simp only [List.length_set, swp_len]; omega) | (simp; omega)) (Option.some_ne_none _)) Z Z h3 ?_
  refine .yes [0] (b := true) (.aloadN ag72 sz72 Z Z Z (encF_nth (by first | omega | (simp only [List.length_set, swp_len]; omega) | (simp; omega))) (nl Z)) Z Z h3 ?_
  refine .yes [] (b := true) (.call0 [] false (cmp91_spec (nthF l2 j) (nthF l2 (j - 1))) Tryz.func91 (hv := by exact (.cons (.aggL (.same Z)) (.cons (.aggL (.same Z)) .nil)))) Z Z h3 ?_
  refine .yes [] (b := true) (.ilss Z Z Z) Z Z h3 <| .p [] (.pickE Z Z h3 Z) <| .nil (by kernel_rfl) ?_
  by_cases p6 : (kCmp (nthF l2 j).1 (nthF l2 (j - 1)).1) < 0
  have h5 := decide_eq_true p6
  refine .cT Z h5 <| .skip <| .seq <| .block <| .region_p fol an110_6 (by kernel_rfl) Z ?_
  refine .p [] (.move Z Z) <| .p [] (.move Z Z) <| .p [] (.move Z Z) <| .p [] (.move Z Z) <| .p [] (.isub (r := (((j - 1) : Nat) : Int)) Z Z Z (wi (by omega) (by first | rfl | omega | (simp; done)))) ?_
  refine .p [] (.move Z Z) <| .p [] (.move Z Z) <| .p [] (.isub (r := (((j - 1) : Nat) : Int)) Z Z Z (wi (by omega) (by first | rfl | omega | (simp; done)))) ?_
  refine .p [0] (.iaddr_sl0 ut33 sz72 Z Z Z Z (by first | omega | (simp only [List.length_set, swp_len]; omega) | (simp; omega)) (Option.some_ne_none _)) ?_
  refine .p [0] (.aloadN ag72 sz72 Z Z Z (encF_nth (by first | omega | (simp only [List.length_set, swp_len]; omega) | (simp; omega))) (nl Z)) ?_
  refine .p [] (.move Z Z) <| .p [] (.move Z Z) <| .p [0] (.iaddr_sl0 ut33 sz72 Z Z Z Z (by first | omega | (simp only [List.length_set, swp_len]; omega) | (simp; omega)) (Option.some_ne_none _)) ?_
  refine .p [0] (.aloadN ag72 sz72 Z Z Z (encF_nth (by first | omega | (simp only [List.length_set, swp_len]; omega) | (simp; omega))) (nl Z)) ?_
  refine .p [0] (.iaddr_sl0 ut33 sz72 Z Z Z Z (by first | omega | (simp only [List.length_set, swp_len]; omega) | (simp; omega)) (Option.some_ne_none _)) ?_
  refine .c 1 [0] (.astoreE (row := ([.S ((nthF l2 j).1)] ++ encX (nthF l2 j).2)) sz72 Z Z Z Z (encF_nth (by first | omega | (simp only [List.length_set, swp_len]; omega) | (simp; omega))) (notup Z) Z Z (nl Z) (encF_set _ _ (nthF l2 (j - 1)))) ?_
  refine .p [0] (.iaddr_sl0 ut33 sz72 Z Z Z Z (by first | omega | (simp only [List.length_set, swp_len]; omega) | (simp; omega)) (Option.some_ne_none _)) ?_
  refine .c 1 [0] (.astoreE (row := ([.S ((nthF (l2.set j (nthF l2 (j - 1))) (j - 1)).1)] ++ encX (nthF (l2.set j (nthF l2 (j - 1))) (j - 1)).2)) sz72 Z Z Z Z (encF_nth (by first | omega | (simp only [List.length_set, swp_len]; omega) | (simp; omega))) (notup Z) Z Z (nl Z) (encF_set _ _ (nthF l2 j))) ?_
  refine .nil (by kernel_rfl) ?_
  refine .region <| .p (.move Z Z) <| .p (.isub (r := (((j - 1) : Nat) : Int)) Z Z Z (wi (by omega) (by first | rfl | omega | (simp; done)))) ?_
  refine .p (.assign Z Z) <| .nil ?_
  have hq : (j - 1) ≤ i ∧ ((swp l2 j (j - 1))).length = n ∧ insJ a (j - 1) (swp l2 j (j - 1)) = insJ a i l1 := by
    obtain ⟨j, rfl⟩ : ∃ j1, j = j1 + 1 := ⟨j - 1, by omega⟩
    refine ⟨by omega, by simpa using q2, ?_⟩
    rw [← q3]
    show _ = if _ then _ else _
    rw [if_pos ⟨by omega, by assumption⟩]
    rfl
  exact ⟨⟨((j - 1), (swp l2 j (j - 1))), hq⟩, (by simp; omega), (ALe.of false [] 1
      _
      _
      (.cons rfl (.arr (by rfl)) .nil)
      (.cons rfl .slR (.s (.s (.cons rfl (.fnL .nil) (.s (.s .nil))))))
      (by simp))⟩
  have h5 := decide_eq_false p6
  refine .cF Z h5 ?_
  have hq0 : insJ a j l2 = l2 := by
    cases j with
    | zero => rfl
    | succ j => exact if_neg (fun h => by first | omega | (have h2 := h.2; simp only [Nat.add_sub_cancel] at *; contradiction))
  refine .exit <| .region <| .p (.move Z Z) <| .p (.iadd (r := (((i + 1) : Nat) : Int)) Z Z Z (wi (by omega) (by first | rfl | omega | (simp; done)))) ?_
  refine .p (.assign Z Z) <| .nil ?_
  have hq : a + 1 ≤ (i + 1) ∧ ((insJ a i l1)).length = n ∧ insI a (b - (i + 1)) (i + 1) (insJ a i l1) = insM a b l ∧ ((i + 1) ≤ b ∨ (i + 1) = a + 1) := by
    refine ⟨by omega, by simpa using g2, ?_, .inl (by omega)⟩
    rw [← g3, show b - i = (b - (i + 1)) + 1 by omega]; rfl
  exact ⟨⟨((i + 1), (insJ a i l1)), hq⟩, (by simp; omega), (ALe.of false [] 1
      _
      _
      (.cons rfl (.arr (by show encF l2 = encF (insJ a i l1); rw [← q3, hq0])) .nil)
      (.cons rfl .slR (.s (.s (.cons rfl (.fnL .nil) (.s .nil)))))
      (by simp))⟩
  have h3 := decide_eq_false p4
  refine .no (b := false) Z Z Z h3 <| .no (b := false) Z Z Z h3 <| .no (b := false) Z Z Z h3 <| .no (b := false) Z Z Z h3 <| .no (b := false) Z Z Z h3 <| .no (b := false) Z Z Z h3 <| .no (b := false) Z Z Z h3 <| .no (b := false) Z Z Z h3 <| .no (b := false) Z Z Z h3 <| .no (b := false) Z Z Z h3 <| .no (b := false) Z Z Z h3 <| .no (b := false) Z Z Z h3 ?_
  refine .p [] (.pickE Z Z h3 Z) <| .nil (by kernel_rfl) ?_
  refine .cF Z Z ?_
  have hq0 : insJ a j l2 = l2 := by
    cases j with
    | zero => rfl
    | succ j => exact if_neg (fun h => by first | omega | (have h2 := h.2; simp only [Nat.add_sub_cancel] at *; contradiction))
  refine .exit <| .region <| .p (.move Z Z) <| .p (.iadd (r := (((i + 1) : Nat) : Int)) Z Z Z (wi (by omega) (by first | rfl | omega | (simp; done)))) ?_
  refine .p (.assign Z Z) <| .nil ?_
  have hq : a + 1 ≤ (i + 1) ∧ ((insJ a i l1)).length = n ∧ insI a (b - (i + 1)) (i + 1) (insJ a i l1) = insM a b l ∧ ((i + 1) ≤ b ∨ (i + 1) = a + 1) := by
    refine ⟨by omega, by simpa using g2, ?_, .inl (by omega)⟩
    rw [← g3, show b - i = (b - (i + 1)) + 1 by omega]; rfl
  exact ⟨⟨((i + 1), (insJ a i l1)), hq⟩, (by simp; omega), (ALe.of false [] 1
      _
      _
      (.cons rfl (.arr (by show encF l2 = encF (insJ a i l1); rw [← q3, hq0])) .nil)
      (.cons rfl .slR (.s (.s (.cons rfl (.fnL .nil) (.s .nil)))))
      (by simp))⟩
  have h1 := decide_eq_false p2
  refine .cF Z h1 <| .exit ?_
  have hd : insM a b l = l1 := by rw [← g3, show b - i = 0 by omega]; rfl
  exact ⟨_, _, _, _, rfl, ALe.of false [] 1
      [(0, .tup [])]
      [(0, .arr false 14 (encF (insM a b l)))]
      (.cons rfl (.arr (by rw [hd])) .nil)
      (.cons rfl (.tupL .nil) .nil)
      (by simp), rfl, rfl⟩

theorem swR_spec (a b c n : Nat) (l : List Fl) (hl : l.length = n) (ha : a + c ≤ n) (hb : b + c ≤ n) (hn : n ≤ 100000) : FSpec Tryz.prog 121 1 [.sl 0 14 0 n, .N a, .N b, .N c, .fn 91 []] (hpOf [(0, .arr false 14 (encF l))]) (fun r h => r = .tup [] ∧ h = hpOf [(0, .arr false 14 (encF (swR a b c 0 l)))]) := by
  refine FSpec.intro Tryz.func121 rfl (nl rfl) (nl rfl) fun s0 w0 hs0 hn0 => ?_
  refine .ws 1 [(0, .sl 0 14 0 n), (1, .N a), (2, .N b), (3, .N c)] [(0, .arr false 14 (encF l))] <| .seq <| .region <| .p (.assign Z Z) <| .nil <| .block ?_
  refine AWP.loop (G := { g : Nat × List Fl // g.1 ≤ c ∧ (g.2).length = n ∧ swR a b (c - g.1) g.1 g.2 = swR a b c 0 l }) (fun g => envOf [(0, .sl 0 14 0 n), (1, .N a), (2, .N b), (3, .N c), (10, .N g.1.1)]) (fun g => hpOf [(0, .arr false 14 (encF g.1.2))]) (fun _ => 1) (fun g => c - g.1.1) ⟨(0, l), ⟨by omega, hl, rfl⟩⟩ ALe.s ?_
  rintro ⟨⟨i, l1⟩, hg⟩
  try dsimp only at hg
  obtain ⟨g1, g2, g3⟩ := hg
  refine .ws 1 [(0, .sl 0 14 0 n), (1, .N a), (2, .N b), (3, .N c), (10, .N i)] [(0, .arr false 14 (encF l1))] <| .seq <| .seq <| .region <| .p (.move Z Z) <| .p (.move Z Z) <| .p (.ilss Z Z Z) <| .nil ?_
  by_cases p2 : ((i : Nat) : Int) < ((c : Nat) : Int)
  have h1 := decide_eq_true p2
  refine .cT Z h1 <| .skip <| .seq <| .block <| .region_p fol an121_3 (by kernel_rfl) Z ?_
  refine .p [] (.move Z Z) <| .p [] (.move Z Z) <| .p [] (.move Z Z) <| .p [] (.iadd (r := (((a + i) : Nat) : Int)) Z Z Z (wi (by omega) (by first | rfl | omega | (simp; done)))) ?_
  refine .p [] (.move Z Z) <| .p [] (.move Z Z) <| .p [] (.move Z Z) <| .p [] (.iadd (r := (((b + i) : Nat) : Int)) Z Z Z (wi (by omega) (by first | rfl | omega | (simp; done)))) ?_
  refine .p [] (.move Z Z) <| .p [] (.move Z Z) <| .p [] (.move Z Z) <| .p [] (.iadd (r := (((b + i) : Nat) : Int)) Z Z Z (wi (by omega) (by first | rfl | omega | (simp; done)))) ?_
  refine .p [0] (.iaddr_sl0 ut33 sz72 Z Z Z Z (by first | omega | (simp only [List.length_set, swp_len]; omega) | (simp; omega)) (Option.some_ne_none _)) ?_
  refine .p [0] (.aloadN ag72 sz72 Z Z Z (encF_nth (by first | omega | (simp only [List.length_set, swp_len]; omega) | (simp; omega))) (nl Z)) ?_
  refine .p [] (.move Z Z) <| .p [] (.move Z Z) <| .p [] (.move Z Z) <| .p [] (.iadd (r := (((a + i) : Nat) : Int)) Z Z Z (wi (by omega) (by first | rfl | omega | (simp; done)))) ?_
  refine .p [0] (.iaddr_sl0 ut33 sz72 Z Z Z Z (by first | omega | (simp only [List.length_set, swp_len]; omega) | (simp; omega)) (Option.some_ne_none _)) ?_
  refine .p [0] (.aloadN ag72 sz72 Z Z Z (encF_nth (by first | omega | (simp only [List.length_set, swp_len]; omega) | (simp; omega))) (nl Z)) ?_
  refine .p [0] (.iaddr_sl0 ut33 sz72 Z Z Z Z (by first | omega | (simp only [List.length_set, swp_len]; omega) | (simp; omega)) (Option.some_ne_none _)) ?_
  refine .c 1 [0] (.astoreE (row := ([.S ((nthF l1 (a + i)).1)] ++ encX (nthF l1 (a + i)).2)) sz72 Z Z Z Z (encF_nth (by first | omega | (simp only [List.length_set, swp_len]; omega) | (simp; omega))) (notup Z) Z Z (nl Z) (encF_set _ _ (nthF l1 (b + i)))) ?_
  refine .p [0] (.iaddr_sl0 ut33 sz72 Z Z Z Z (by first | omega | (simp only [List.length_set, swp_len]; omega) | (simp; omega)) (Option.some_ne_none _)) ?_
  refine .c 1 [0] (.astoreE (row := ([.S ((nthF (l1.set (a + i) (nthF l1 (b + i))) (b + i)).1)] ++ encX (nthF (l1.set (a + i) (nthF l1 (b + i))) (b + i)).2)) sz72 Z Z Z Z (encF_nth (by first | omega | (simp only [List.length_set, swp_len]; omega) | (simp; omega))) (notup Z) Z Z (nl Z) (encF_set _ _ (nthF l1 (a + i)))) ?_
  refine .nil (by kernel_rfl) ?_
  refine .region <| .p (.move Z Z) <| .p (.iadd (r := (((i + 1) : Nat) : Int)) Z Z Z (wi (by omega) (by first | rfl | omega | (simp; done)))) ?_
  refine .p (.assign Z Z) <| .nil ?_
  have hq : (i + 1) ≤ c ∧ ((swp l1 (a + i) (b + i))).length = n ∧ swR a b (c - (i + 1)) (i + 1) (swp l1 (a + i) (b + i)) = swR a b c 0 l := by
    refine ⟨by omega, by simpa using g2, ?_⟩
    rw [← g3, show c - i = (c - (i + 1)) + 1 by omega]; rfl
  exact ⟨⟨((i + 1), (swp l1 (a + i) (b + i))), hq⟩, (by simp; omega), (ALe.of false [] 1
      _
      _
      (.cons rfl (.arr (by rfl)) .nil)
      (.cons rfl .slR (.s (.s (.s (.s .nil)))))
      (by simp))⟩
  have h1 := decide_eq_false p2
  refine .cF Z h1 <| .exit ?_
  have hd : swR a b c 0 l = l1 := by rw [← g3, show c - i = 0 by omega]; rfl
  exact ⟨_, _, _, _, rfl, ALe.of false [] 1
      [(0, .tup [])]
      [(0, .arr false 14 (encF (swR a b c 0 l)))]
      (.cons rfl (.arr (by rw [hd])) .nil)
      (.cons rfl (.tupL .nil) .nil)
      (by simp), rfl, rfl⟩

theorem rot_spec (a m b n : Nat) (l : List Fl) (hl : l.length = n) (ha : a < m) (hm : m < b) (hb : b ≤ n) (hn : n ≤ 100000) : FSpec Tryz.prog 117 1 [.sl 0 14 0 n, .N a, .N m, .N b, .fn 91 []] (hpOf [(0, .arr false 14 (encF l))]) (fun r h => r = .tup [] ∧ h = hpOf [(0, .arr false 14 (encF (rotM m (b - a) (m - a) (b - m) l)))]) := by
  refine FSpec.intro Tryz.func117 rfl (nl rfl) (nl rfl) fun s0 w0 hs0 hn0 => ?_
  refine .ws 1 [(0, .sl 0 14 0 n), (1, .N a), (2, .N m), (3, .N b), (4, .fn 91 [])] [(0, .arr false 14 (encF l))] <| .seq <| .region <| .p (.move Z Z) <| .p (.move Z Z) <| .p (.isub (r := (((m - a) : Nat) : Int)) Z Z Z (wi (by omega) (by first | rfl | omega | (simp; done)))) ?_
  refine .p (.assign Z Z) <| .nil <| .seq <| .region <| .p (.move Z Z) <| .p (.move Z Z) <| .p (.isub (r := (((b - m) : Nat) : Int)) Z Z Z (wi (by omega) (by first | rfl | omega | (simp; done)))) ?_
  refine .p (.assign Z Z) <| .nil <| .seq <| .block ?_
  refine AWP.loop (G := { g : Nat × Nat × Nat × List Fl // 1 ≤ g.1 ∧ 1 ≤ g.2.1 ∧ g.1 ≤ m ∧ m + g.2.1 ≤ n ∧ g.1 + g.2.1 ≤ g.2.2.1 ∧ (g.2.2.2).length = n ∧ rotM m g.2.2.1 g.1 g.2.1 g.2.2.2 = rotM m (b - a) (m - a) (b - m) l }) (fun g => envOf [(0, .sl 0 14 0 n), (2, .N m), (4, .fn 91 []), (10, .N g.1.1), (11, .N g.1.2.1)]) (fun g => hpOf [(0, .arr false 14 (encF g.1.2.2.2))]) (fun _ => 1) (fun g => g.1.1 + g.1.2.1) ⟨((m - a), (b - m), (b - a), l), (by dsimp only; exact ⟨by omega, by omega, by omega, by omega, by omega, hl, rfl⟩)⟩ ALe.s ?_
  rintro ⟨⟨i, j, f, l1⟩, hg⟩
  try dsimp only at hg
  obtain ⟨g1, g2, g3, g4, g5, g6, g7⟩ := hg
  obtain ⟨f, rfl⟩ : ∃ f1, f = f1 + 1 := ⟨f - 1, by omega⟩
  refine .ws 1 [(0, .sl 0 14 0 n), (2, .N m), (4, .fn 91 []), (10, .N i), (11, .N j)] [(0, .arr false 14 (encF l1))] <| .seq <| .seq <| .region <| .p (.move Z Z) <| .p (.move Z Z) <| .p (.ineq Z Z Z) <| .nil ?_
  by_cases p2 : ((i : Nat) : Int) = ((j : Nat) : Int)
  have h1 := decide_eq_true p2
  refine .cF Z (bnot h1) <| .exit <| .region <| .p (.move Z Z) <| .p (.move Z Z) <| .p (.move Z Z) <| .p (.isub (r := (((m - i) : Nat) : Int)) Z Z Z (wi (by omega) (by first | rfl | omega | (simp; done)))) ?_
  refine .p (.move Z Z) <| .p (.move Z Z) <| .p (.move Z Z) <| .c0 (.callN [0] [] false (swR_spec (m - i) m i n l1 (by first | assumption | (simp; done) | (simp; omega) | omega) (by first | omega | (simp; omega)) (by first | omega | (simp; omega)) (by first | omega | (simp; omega))) Tryz.func121 (hc := by exact (.cons .nil Z Z Z (.arrE Z))) (hv := by exact (.cons (.sl (nl Z) Z Z) (.cons (.same Z) (.cons (.same Z) (.cons (.same Z) (.cons (.fnL (.same Z)) .nil))))))) ?_
  refine .nil ?_
  have hd : rotM m (b - a) (m - a) (b - m) l = swR (m - i) m i 0 l1 := by
    rw [← g7]; exact if_pos (by omega)
  exact ⟨_, _, _, _, rfl, ALe.of false [] 1
      [(0, .tup [])]
      [(0, .arr false 14 (encF (rotM m (b - a) (m - a) (b - m) l)))]
      (.cons rfl (.arr (by rw [hd])) .nil)
      (.cons rfl (.tupL .nil) .nil)
      (by simp), rfl, rfl⟩
  have h1 := decide_eq_false p2
  refine .cT Z (bnot h1) <| .skip <| .block <| .seq <| .region <| .p (.move Z Z) <| .p (.move Z Z) <| .p (.igtr Z Z Z) <| .nil ?_
  by_cases p4 : ((j : Nat) : Int) < ((i : Nat) : Int)
  have h3 := decide_eq_true p4
  refine .cT Z h3 <| .seq <| .region <| .p (.move Z Z) <| .p (.move Z Z) <| .p (.move Z Z) <| .p (.isub (r := (((m - i) : Nat) : Int)) Z Z Z (wi (by omega) (by first | rfl | omega | (simp; done)))) ?_
  refine .p (.move Z Z) <| .p (.move Z Z) <| .p (.move Z Z) <| .c0 (.callN [0] [] false (swR_spec (m - i) m j n l1 (by first | assumption | (simp; done) | (simp; omega) | omega) (by first | omega | (simp; omega)) (by first | omega | (simp; omega)) (by first | omega | (simp; omega))) Tryz.func121 (hc := by exact (.cons .nil Z Z Z (.arrE Z))) (hv := by exact (.cons (.sl (nl Z) Z Z) (.cons (.same Z) (.cons (.same Z) (.cons (.same Z) (.cons (.fnL (.same Z)) .nil))))))) ?_
  refine .nil <| .region <| .p (.move Z Z) <| .p (.move Z Z) <| .p (.isub (r := (((i - j) : Nat) : Int)) Z Z Z (wi (by omega) (by first | rfl | omega | (simp; done)))) ?_
  refine .p (.assign Z Z) <| .nil ?_
  have hq : 1 ≤ (i - j) ∧ 1 ≤ j ∧ (i - j) ≤ m ∧ m + j ≤ n ∧ (i - j) + j ≤ f ∧ ((swR (m - i) m j 0 l1)).length = n ∧ rotM m f (i - j) j (swR (m - i) m j 0 l1) = rotM m (b - a) (m - a) (b - m) l := by
    refine ⟨by omega, by omega, by omega, by omega, by omega, by simpa using g6, ?_⟩
    rw [← g7]
    refine Eq.symm ((if_neg (by omega)).trans ?_)
    first | exact if_pos (by omega) | exact if_neg (by omega)
  exact ⟨⟨((i - j), j, f, (swR (m - i) m j 0 l1)), hq⟩, (by simp; omega), ALe.s⟩
  have h3 := decide_eq_false p4
  refine .cF Z h3 <| .seq <| .region <| .p (.move Z Z) <| .p (.move Z Z) <| .p (.move Z Z) <| .p (.isub (r := (((m - i) : Nat) : Int)) Z Z Z (wi (by omega) (by first | rfl | omega | (simp; done)))) ?_
  refine .p (.move Z Z) <| .p (.move Z Z) <| .p (.iadd (r := (((m + j) : Nat) : Int)) Z Z Z (wi (by omega) (by first | rfl | omega | (simp; done)))) ?_
  refine .p (.move Z Z) <| .p (.isub (r := ((((m + j) - i) : Nat) : Int)) Z Z Z (wi (by omega) (by first | rfl | omega | (simp; done)))) ?_
  refine .p (.move Z Z) <| .p (.move Z Z) <| .c0 (.callN [0] [] false (swR_spec (m - i) ((m + j) - i) i n l1 (by first | assumption | (simp; done) | (simp; omega) | omega) (by first | omega | (simp; omega)) (by first | omega | (simp; omega)) (by first | omega | (simp; omega))) Tryz.func121 (hc := by exact (.cons .nil Z Z Z (.arrE Z))) (hv := by exact (.cons (.sl (nl Z) Z Z) (.cons (.same Z) (.cons (.same Z) (.cons (.same Z) (.cons (.fnL (.same Z)) .nil))))))) ?_
  refine .nil <| .region <| .p (.move Z Z) <| .p (.move Z Z) <| .p (.isub (r := (((j - i) : Nat) : Int)) Z Z Z (wi (by omega) (by first | rfl | omega | (simp; done)))) ?_
  refine .p (.assign Z Z) <| .nil ?_
  have hq : 1 ≤ i ∧ 1 ≤ (j - i) ∧ i ≤ m ∧ m + (j - i) ≤ n ∧ i + (j - i) ≤ f ∧ ((swR (m - i) ((m + j) - i) i 0 l1)).length = n ∧ rotM m f i (j - i) (swR (m - i) ((m + j) - i) i 0 l1) = rotM m (b - a) (m - a) (b - m) l := by
    refine ⟨by omega, by omega, by omega, by omega, by omega, by simpa using g6, ?_⟩
    rw [← g7]
    refine Eq.symm ((if_neg (by omega)).trans ?_)
    first | exact if_pos (by omega) | exact if_neg (by omega)
  exact ⟨⟨(i, (j - i), f, (swR (m - i) ((m + j) - i) i 0 l1)), hq⟩, (by simp; omega), ALe.s⟩
end Go.Abs
