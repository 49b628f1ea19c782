/- Part 9 of the proof that TopAltered returns true for every input of its row (no condition beyond the row). -/
import Derived.Test.YtelfcalhhfmjfaaGreatDoorT8
set_option linter.unusedVariables false
set_option linter.unusedSimpArgs false
namespace Go.Abs
open Go.Proofs
set_option maxRecDepth 100000
set_option maxHeartbeats 8000000

theorem sb72 : (Tryz.prog.info? 72).map (fun i => (i.size, i.bytes)) = some (14, 184) := by kernel_rfl
def an49_14 : List Nat := [0, 0, 3, 7, 15, 0, 32, 96, 224, 511]
def an49_15 : List Nat := [0, 0, 0, 0, 12, 28, 60, 0, 128, 0, 1020, 2047, 4095, 8191]

theorem zero_spec : FSpec Tryz.prog 46 0 [.agg [.I 0, .B false, .B false, .S ⟨#[]⟩, .I 0, .I 0, .I 0, .I 0, .I 0, .S ⟨#[]⟩, .ro 1 [], .ro 13 [], .ro 14 []]] (hpOf []) (fun r h => r = .B true ∧ h = hpOf []) := by
  refine FSpec.intro Tryz.func46 rfl (nl rfl) (nl rfl) fun s0 w0 hs0 hn0 => ?_
  refine .ws 0 [(0, .agg [.I 0, .B false, .B false, .S ⟨#[]⟩, .I 0, .I 0, .I 0, .I 0, .I 0, .S ⟨#[]⟩, .ro 1 [], .ro 13 [], .ro 14 []])] [] <| .seq <| .region <| .c1 (.box 0 Z Z (notup Z)) <| .p (.assign Z Z) <| .nil <| .seq <| .region <| .p (.faddr fo35_0 Z Z) <| .p (.load1 ag3 Z Z Z Z) <| .p ((AOp.ieql Z Z Z).lb Z) <| .p (.move Z Z) ?_
  refine .yT (.faddr fo35_1 Z Z) Z Z (Eq.refl true) <| .yT (.load1 ag4 Z Z Z Z) Z Z (Eq.refl true) <| .yT (.not Z Z) Z Z (Eq.refl true) <| .p (.pick Z Z Z) <| .p (.move Z Z) <| .yT (.faddr fo35_2 Z Z) Z Z (Eq.refl true) <| .yT (.loadN ag28 sz28 Z Z Z (nl Z)) Z Z (Eq.refl true) <| .yT (.build Z zt28 Z pl28 Z Z) Z Z (Eq.refl true) <| .yT ((AOp.fEq (xs := [.bool false, .string ⟨#[]⟩, .int .i64 0]) (ys := [.bool false, .string ⟨#[]⟩, .int .i64 0]) ft28 Z Z Z Z).lb (b' := true) (by decide)) Z Z (Eq.refl true) ?_
  refine .p (.pick Z Z Z) <| .p (.move Z Z) <| .yT (.faddr fo35_3 Z Z) Z Z (Eq.refl true) <| .yT (.loadN ag30 sz30 Z Z Z (nl Z)) Z Z (Eq.refl true) <| .yT (.build Z zt30 Z pl30 Z Z) Z Z (Eq.refl true) <| .yT ((AOp.fEq (xs := [.int .i64 0, .int .i64 0, .int .i64 0, .int .i64 0]) (ys := [.int .i64 0, .int .i64 0, .int .i64 0, .int .i64 0]) ft30 Z Z Z Z).lb (b' := true) (by decide)) Z Z (Eq.refl true) ?_
  refine .p (.pick Z Z Z) <| .p (.move Z Z) <| .yT (.faddr fo35_4 Z Z) Z Z (Eq.refl true) <| .yT (.load1 ag9 Z Z Z Z) Z Z (Eq.refl true) <| .yT ((AOp.seql Z Z Z).lb (b' := true) (by decide)) Z Z (Eq.refl true) ?_
  refine .p (.pick Z Z Z) <| .p (.move Z Z) <| .yT (.faddr fo35_5 Z Z) Z Z (Eq.refl true) <| .yT (.load1 ag31 Z Z Z Z) Z Z (Eq.refl true) <| .yT (.len_ro (n := 0) ut31 Z (.inl Z) Z) Z Z (Eq.refl true) <| .yT ((AOp.ieql Z Z Z).lb Z) Z Z (Eq.refl true) <| .p (.pick Z Z Z) <| .p (.move Z Z) <| .yT (.faddr fo35_6 Z Z) Z Z (Eq.refl true) <| .yT (.load1 ag32 Z Z Z Z) Z Z (Eq.refl true) <| .yT (.len_ro (n := 0) ut32 Z (.inl Z) Z) Z Z (Eq.refl true) <| .yT ((AOp.ieql Z Z Z).lb Z) Z Z (Eq.refl true) ?_
  refine .p (.pick Z Z Z) <| .p (.move Z Z) <| .yT (.faddr fo35_7 Z Z) Z Z (Eq.refl true) <| .yT (.load1 ag33 Z Z Z Z) Z Z (Eq.refl true) <| .yT (.len_ro (n := 0) ut33 Z (.inl Z) Z) Z Z (Eq.refl true) <| .yT ((AOp.ieql Z Z Z).lb Z) Z Z (Eq.refl true) <| .p (.pick Z Z Z) <| .p (.assign Z Z) <| .nil <| .ws 1 [(2, .B true)] [] <| .ret ?_
  exact ⟨_, _, _, _, rfl, ALe.s (l := [(0, .B true)]) (m := []) (nx' := 0), rfl, rfl⟩

theorem keyed2_spec (p : List Stp) (pos : Int) (x : T) (h : pOK p) (hp : 0 < p.length) : FSpec Tryz.prog 45 0 [.agg ([.I 2, .ro 3 (rowsOf Stp.cells p), .I pos, .I 0, .B false, .B false, .S ⟨#[]⟩, .I 0, .I 0, .I 0, .I 0, .I 0, .S ⟨#[]⟩, .ro 1 [], .ro 13 [], .ro 14 []] ++ encX x)] (hpOf []) (fun r h => r = .B true ∧ h = hpOf []) := by
  have h1 := h.1
  refine FSpec.intro Tryz.func45 rfl (nl rfl) (nl rfl) fun s0 w0 hs0 hn0 => ?_
  refine .ws 0 [(0, .agg ([.I 2, .ro 3 (rowsOf Stp.cells p), .I pos, .I 0, .B false, .B false, .S ⟨#[]⟩, .I 0, .I 0, .I 0, .I 0, .I 0, .S ⟨#[]⟩, .ro 1 [], .ro 13 [], .ro 14 []] ++ encX x))] [] <| .seq <| .region <| .c1 (.box 0 Z Z (notup Z)) <| .p (.assign Z Z) <| .nil <| .seq <| .region <| .p (.faddr fo78_1 Z Z) <| .p (.load1 ag76 Z Z Z Z) <| .p (.len_ro (n := p.length) ut76 Z (.inl Z) (by simp)) ?_
  refine .p (.assign Z Z) <| .nil <| .seq <| .region <| .p (.faddr fo78_0 Z Z) <| .p (.load1 ag3 Z Z Z Z) <| .p ((AOp.ieql Z Z Z).lb Z) <| .p (.move Z Z) <| .nT Z Z (Eq.refl true) Z <| .nT Z Z (Eq.refl true) Z <| .nT Z Z (Eq.refl true) Z <| .p (.pick Z Z Z) ?_
  refine .p (.move Z Z) <| .yT (.move Z Z) Z Z (Eq.refl true) <| .yT (.igtr Z Z Z) Z Z (Eq.refl true) <| .p (.pick Z Z Z) <| .p (.move Z Z) ?_
  have h1 : (decide (0 < ((p.length : Nat) : Int))) = true := decide_eq_true (by omega)
  refine .yT (.faddr fo78_1 Z Z) Z Z h1 <| .yT (.load1 ag76 Z Z Z Z) Z Z h1 <| .yT (.move Z Z) Z Z h1 <| .yT (.isub (r := (((p.length - 1) : Nat) : Int)) Z Z Z (wi (by omega) (by first | rfl | omega | (simp; done)))) Z Z h1 ?_
  refine .yT (.iaddr_ro (row := [.B ((nthG p (p.length - 1)).ix), .S ((nthG p (p.length - 1)).key), .I ((nthG p (p.length - 1)).index)]) ut76 sz75 Z Z Z Z (rows_nth (f := Stp.cells) (by omega))) Z Z h1 ?_
  refine .yT (.faddr_rp fo75_0 Z Z) Z Z h1 <| .yT (.rload1 ag4 Z Z Z) Z Z h1 <| .yT (.not Z Z) Z Z h1 <| .p (.pickE Z Z h1 Z) <| .p (.assign Z Z) <| .nil <| .ret ?_
  exact ⟨_, _, _, _, rfl, ALe.of false [] 0
      [(0, .B true)]
      []
      .nil
      (.cons rfl (.litE (by first | rfl | (simp; exact (pOK_at h (by omega)).1))) .nil)
      (by simp), rfl, rfl⟩

theorem keyed3_spec (p : List Stp) (pos : Int) (x : T) (h : pOK p) (hp : 0 < p.length) : FSpec Tryz.prog 45 0 [.agg ([.I 3, .ro 3 (rowsOf Stp.cells p), .I pos] ++ encX x ++ [.I 0, .B false, .B false, .S ⟨#[]⟩, .I 0, .I 0, .I 0, .I 0, .I 0, .S ⟨#[]⟩, .ro 1 [], .ro 13 [], .ro 14 []])] (hpOf []) (fun r h => r = .B true ∧ h = hpOf []) := by
  have h1 := h.1
  refine FSpec.intro Tryz.func45 rfl (nl rfl) (nl rfl) fun s0 w0 hs0 hn0 => ?_
  refine .ws 0 [(0, .agg ([.I 3, .ro 3 (rowsOf Stp.cells p), .I pos] ++ encX x ++ [.I 0, .B false, .B false, .S ⟨#[]⟩, .I 0, .I 0, .I 0, .I 0, .I 0, .S ⟨#[]⟩, .ro 1 [], .ro 13 [], .ro 14 []]))] [] <| .seq <| .region <| .c1 (.box 0 Z Z (notup Z)) <| .p (.assign Z Z) <| .nil <| .seq <| .region <| .p (.faddr fo78_1 Z Z) <| .p (.load1 ag76 Z Z Z Z) <| .p (.len_ro (n := p.length) ut76 Z (.inl Z) (by simp)) ?_
  refine .p (.assign Z Z) <| .nil <| .seq <| .region <| .p (.faddr fo78_0 Z Z) <| .p (.load1 ag3 Z Z Z Z) <| .p ((AOp.ieql Z Z Z).lb Z) <| .p (.move Z Z) <| .yF (.faddr fo78_0 Z Z) Z Z (Eq.refl false) <| .yF (.load1 ag3 Z Z Z Z) Z Z (Eq.refl false) <| .yF ((AOp.ieql Z Z Z).lb Z) Z Z (Eq.refl false) <| .p (.pick Z Z Z) ?_
  refine .p (.move Z Z) <| .yT (.move Z Z) Z Z (Eq.refl true) <| .yT (.igtr Z Z Z) Z Z (Eq.refl true) <| .p (.pick Z Z Z) <| .p (.move Z Z) ?_
  have h1 : (decide (0 < ((p.length : Nat) : Int))) = true := decide_eq_true (by omega)
  refine .yT (.faddr fo78_1 Z Z) Z Z h1 <| .yT (.load1 ag76 Z Z Z Z) Z Z h1 <| .yT (.move Z Z) Z Z h1 <| .yT (.isub (r := (((p.length - 1) : Nat) : Int)) Z Z Z (wi (by omega) (by first | rfl | omega | (simp; done)))) Z Z h1 ?_
  refine .yT (.iaddr_ro (row := [.B ((nthG p (p.length - 1)).ix), .S ((nthG p (p.length - 1)).key), .I ((nthG p (p.length - 1)).index)]) ut76 sz75 Z Z Z Z (rows_nth (f := Stp.cells) (by omega))) Z Z h1 ?_
  refine .yT (.faddr_rp fo75_0 Z Z) Z Z h1 <| .yT (.rload1 ag4 Z Z Z) Z Z h1 <| .yT (.not Z Z) Z Z h1 <| .p (.pickE Z Z h1 Z) <| .p (.assign Z Z) <| .nil <| .ret ?_
  exact ⟨_, _, _, _, rfl, ALe.of false [] 0
      [(0, .B true)]
      []
      .nil
      (.cons rfl (.litE (by first | rfl | (simp; exact (pOK_at h (by omega)).1))) .nil)
      (by simp), rfl, rfl⟩

theorem one1_spec (p : List Stp) (o x : T) (h : pOK p) (ho : vOK o) (hx : vOK x) : FSpec Tryz.prog 25 0 [.agg ([.I 1, .ro 3 (rowsOf Stp.cells p), .I 0] ++ encX o ++ encX x)] (hpOf []) (fun r h => r = .I 0 ∧ h = hpOf []) := by
  have h1 := h.1
  refine FSpec.intro Tryz.func25 rfl (nl rfl) (nl rfl) fun s0 w0 hs0 hn0 => ?_
  refine .ws 0 [(0, .agg ([.I 1, .ro 3 (rowsOf Stp.cells p), .I 0] ++ encX o ++ encX x))] [] <| .seq <| .region <| .c1 (.box 0 Z Z (notup Z)) <| .p (.assign Z Z) <| .nil <| .seq <| .seq <| .region <| .p (.faddr fo78_0 Z Z) <| .p (.load1 ag3 Z Z Z Z) <| .p (.call0 [] false (hasOld1_spec ) Tryz.func42 (hv := by exact (.same Z))) ?_
  refine .p (.not Z Z) <| .p (.move Z Z) <| .nF Z Z (Eq.refl false) Z <| .nF Z Z (Eq.refl false) Z <| .nF Z Z (Eq.refl false) Z <| .nF Z Z (Eq.refl false) Z <| .p (.pick Z Z Z) <| .p (.move Z Z) <| .yF (.faddr fo78_1 Z Z) Z Z (Eq.refl false) <| .yF (.load1 ag76 Z Z Z Z) Z Z (Eq.refl false) <| .yF (.call0 [] false (pValid_spec p h) Tryz.func44 (hv := by exact (.same Z))) Z Z (Eq.refl false) ?_
  refine .yF (.not Z Z) Z Z (Eq.refl false) <| .p (.pick Z Z Z) <| .p (.move Z Z) <| .yF (.faddr fo78_1 Z Z) Z Z (Eq.refl false) <| .yF (.load1 ag76 Z Z Z Z) Z Z (Eq.refl false) <| .yF (.len_ro (n := p.length) ut76 Z (.inl Z) (by simp)) Z Z (Eq.refl false) ?_
  refine .yF (.ieql Z Z Z) Z Z (Eq.refl false) <| .yF (.move Z Z) Z Z (Eq.refl false) ?_
  by_cases p2 : ((p.length : Nat) : Int) = 0
  have h1 := decide_eq_true p2
  refine .yT (.faddr fo78_0 Z Z) Z Z h1 <| .yT (.load1 ag3 Z Z Z Z) Z Z h1 <| .yT ((AOp.ieql Z Z Z).lb Z) Z Z h1 <| .yT (.move Z Z) Z Z h1 <| .yF (.faddr fo78_0 Z Z) Z Z (Eq.refl false) <| .yF (.load1 ag3 Z Z Z Z) Z Z (Eq.refl false) <| .yF ((AOp.ieql Z Z Z).lb Z) Z Z (Eq.refl false) <| .yT (.pick Z Z Z) Z Z h1 <| .yF (.pickE Z Z h1 Z) Z Z (Eq.refl false) <| .p (.pick Z Z Z) <| .nil <| .cF Z Z ?_
  refine .skip <| .seq <| .seq <| .region <| .p (.faddr fo78_2 Z Z) <| .p (.load1 ag3 Z Z Z Z) <| .p ((AOp.ilss Z Z Z).lb Z) <| .p (.move Z Z) <| .yF (.faddr fo78_2 Z Z) Z Z (Eq.refl false) <| .yF (.load1 ag3 Z Z Z Z) Z Z (Eq.refl false) <| .yF ((AOp.igtr Z Z Z).lb Z) Z Z (Eq.refl false) <| .p (.pick Z Z Z) ?_
  refine .p (.move Z Z) <| .yF (.faddr fo78_2 Z Z) Z Z (Eq.refl false) <| .yF (.load1 ag3 Z Z Z Z) Z Z (Eq.refl false) <| .yF ((AOp.ineq Z Z Z).lb Z) Z Z (Eq.refl false) <| .yF (.move Z Z) Z Z (Eq.refl false) <| .nF Z Z (Eq.refl false) Z <| .nF Z Z (Eq.refl false) Z <| .nF Z Z (Eq.refl false) Z <| .yF (.pick Z Z Z) Z Z (Eq.refl false) <| .p (.pick Z Z Z) <| .p (.move Z Z) <| .yF (.faddr fo78_0 Z Z) Z Z (Eq.refl false) ?_
  refine .yF (.load1 ag3 Z Z Z Z) Z Z (Eq.refl false) <| .yF (.call0 [] false (hasOld1_spec ) Tryz.func42 (hv := by exact (.same Z))) Z Z (Eq.refl false) ?_
  refine .yF (.not Z Z) Z Z (Eq.refl false) <| .yF (.move Z Z) Z Z (Eq.refl false) <| .nF Z Z (Eq.refl false) Z <| .nF Z Z (Eq.refl false) Z <| .nF Z Z (Eq.refl false) Z <| .nF Z Z (Eq.refl false) Z <| .yF (.pick Z Z Z) Z Z (Eq.refl false) <| .p (.pick Z Z Z) <| .p (.move Z Z) <| .yF (.faddr fo78_0 Z Z) Z Z (Eq.refl false) <| .yF (.load1 ag3 Z Z Z Z) Z Z (Eq.refl false) <| .yF (.call0 [] false (hasNew1_spec ) Tryz.func43 (hv := by exact (.same Z))) Z Z (Eq.refl false) ?_
  refine .yF (.not Z Z) Z Z (Eq.refl false) <| .yF (.move Z Z) Z Z (Eq.refl false) <| .nF Z Z (Eq.refl false) Z <| .nF Z Z (Eq.refl false) Z <| .nF Z Z (Eq.refl false) Z <| .nF Z Z (Eq.refl false) Z <| .yF (.pick Z Z Z) Z Z (Eq.refl false) <| .p (.pick Z Z Z) <| .nil <| .ws 1 [(1, .P 0), (77, .B false)] [(0, .box ([.I 1, .ro 3 (rowsOf Stp.cells p), .I 0] ++ encX o ++ encX x))] <| .cF Z Z <| .skip ?_
  refine .seq <| .seq <| .region <| .p (.faddr fo78_0 Z Z) <| .p (.load1 ag3 Z Z Z Z) <| .p (.call0 [] false (hasOld1_spec ) Tryz.func42 (hv := by exact (.same Z))) ?_
  refine .nil <| .cT Z Z <| .seq <| .region <| .p (.faddr fo78_3 Z Z) <| .p (.loadN ag35 sz35 Z Z Z (nl Z)) <| .p (.call0 [] false (Check_spec 8 o ho.1 (by omega) ho.2) Tryz.func47 (hv := by exact (.cons (.aggL (.same Z)) .nil))) ?_
  refine .p (.assign Z Z) <| .nil <| .seq <| .region <| .p (.move Z Z) <| .p ((AOp.ineq Z Z Z).lb Z) <| .nil <| .cF Z Z <| .skip <| .seq <| .seq <| .region ?_
  refine .p (.faddr fo78_0 Z Z) <| .p (.load1 ag3 Z Z Z Z) <| .p (.call0 [] false (hasNew1_spec ) Tryz.func43 (hv := by exact (.same Z))) ?_
  refine .nil <| .cT Z Z <| .seq <| .region <| .p (.faddr fo78_4 Z Z) <| .p (.loadN ag35 sz35 Z Z Z (nl Z)) <| .p (.call0 [] false (Check_spec 8 x hx.1 (by omega) hx.2) Tryz.func47 (hv := by exact (.cons (.aggL (.same Z)) .nil))) ?_
  refine .p (.assign Z Z) <| .nil <| .ret ?_
  exact ⟨_, _, _, _, rfl, ALe.s (l := [(0, .I 0)]) (m := []) (nx' := 0), rfl, rfl⟩
  have h1 := decide_eq_false p2
  refine .nF Z Z h1 Z <| .nF Z Z h1 Z <| .nF Z Z h1 Z <| .nF Z Z h1 Z <| .cons_unasked Z Z Z Z <| .cons_unasked Z Z Z Z <| .cons_unasked Z Z Z Z <| .nF Z Z h1 Z <| .yF (.pickE Z Z h1 Z) Z Z (Eq.refl false) <| .p (.pick Z Z Z) <| .nil <| .cF Z Z ?_
  refine .skip <| .seq <| .seq <| .region <| .p (.faddr fo78_2 Z Z) <| .p (.load1 ag3 Z Z Z Z) <| .p ((AOp.ilss Z Z Z).lb Z) <| .p (.move Z Z) <| .yF (.faddr fo78_2 Z Z) Z Z (Eq.refl false) <| .yF (.load1 ag3 Z Z Z Z) Z Z (Eq.refl false) <| .yF ((AOp.igtr Z Z Z).lb Z) Z Z (Eq.refl false) <| .p (.pick Z Z Z) ?_
  refine .p (.move Z Z) <| .yF (.faddr fo78_2 Z Z) Z Z (Eq.refl false) <| .yF (.load1 ag3 Z Z Z Z) Z Z (Eq.refl false) <| .yF ((AOp.ineq Z Z Z).lb Z) Z Z (Eq.refl false) <| .yF (.move Z Z) Z Z (Eq.refl false) <| .nF Z Z (Eq.refl false) Z <| .nF Z Z (Eq.refl false) Z <| .nF Z Z (Eq.refl false) Z <| .yF (.pick Z Z Z) Z Z (Eq.refl false) <| .p (.pick Z Z Z) <| .p (.move Z Z) <| .yF (.faddr fo78_0 Z Z) Z Z (Eq.refl false) ?_
  refine .yF (.load1 ag3 Z Z Z Z) Z Z (Eq.refl false) <| .yF (.call0 [] false (hasOld1_spec ) Tryz.func42 (hv := by exact (.same Z))) Z Z (Eq.refl false) ?_
  refine .yF (.not Z Z) Z Z (Eq.refl false) <| .yF (.move Z Z) Z Z (Eq.refl false) <| .nF Z Z (Eq.refl false) Z <| .nF Z Z (Eq.refl false) Z <| .nF Z Z (Eq.refl false) Z <| .nF Z Z (Eq.refl false) Z <| .yF (.pick Z Z Z) Z Z (Eq.refl false) <| .p (.pick Z Z Z) <| .p (.move Z Z) <| .yF (.faddr fo78_0 Z Z) Z Z (Eq.refl false) <| .yF (.load1 ag3 Z Z Z Z) Z Z (Eq.refl false) <| .yF (.call0 [] false (hasNew1_spec ) Tryz.func43 (hv := by exact (.same Z))) Z Z (Eq.refl false) ?_
  refine .yF (.not Z Z) Z Z (Eq.refl false) <| .yF (.move Z Z) Z Z (Eq.refl false) <| .nF Z Z (Eq.refl false) Z <| .nF Z Z (Eq.refl false) Z <| .nF Z Z (Eq.refl false) Z <| .nF Z Z (Eq.refl false) Z <| .yF (.pick Z Z Z) Z Z (Eq.refl false) <| .p (.pick Z Z Z) <| .nil <| .ws 1 [(1, .P 0), (77, .B false)] [(0, .box ([.I 1, .ro 3 (rowsOf Stp.cells p), .I 0] ++ encX o ++ encX x))] <| .cF Z Z <| .skip ?_
  refine .seq <| .seq <| .region <| .p (.faddr fo78_0 Z Z) <| .p (.load1 ag3 Z Z Z Z) <| .p (.call0 [] false (hasOld1_spec ) Tryz.func42 (hv := by exact (.same Z))) ?_
  refine .nil <| .cT Z Z <| .seq <| .region <| .p (.faddr fo78_3 Z Z) <| .p (.loadN ag35 sz35 Z Z Z (nl Z)) <| .p (.call0 [] false (Check_spec 8 o ho.1 (by omega) ho.2) Tryz.func47 (hv := by exact (.cons (.aggL (.same Z)) .nil))) ?_
  refine .p (.assign Z Z) <| .nil <| .seq <| .region <| .p (.move Z Z) <| .p ((AOp.ineq Z Z Z).lb Z) <| .nil <| .cF Z Z <| .skip <| .seq <| .seq <| .region ?_
  refine .p (.faddr fo78_0 Z Z) <| .p (.load1 ag3 Z Z Z Z) <| .p (.call0 [] false (hasNew1_spec ) Tryz.func43 (hv := by exact (.same Z))) ?_
  refine .nil <| .cT Z Z <| .seq <| .region <| .p (.faddr fo78_4 Z Z) <| .p (.loadN ag35 sz35 Z Z Z (nl Z)) <| .p (.call0 [] false (Check_spec 8 x hx.1 (by omega) hx.2) Tryz.func47 (hv := by exact (.cons (.aggL (.same Z)) .nil))) ?_
  refine .p (.assign Z Z) <| .nil <| .ret ?_
  exact ⟨_, _, _, _, rfl, ALe.s (l := [(0, .I 0)]) (m := []) (nx' := 0), rfl, rfl⟩

theorem one2_spec (p : List Stp) (pos : Int) (x : T) (h : pOK p) (hp : 0 < p.length) (h0 : 0 ≤ pos) (h6 : pos ≤ 65536) (hx : vOK x) : FSpec Tryz.prog 25 0 [.agg ([.I 2, .ro 3 (rowsOf Stp.cells p), .I pos, .I 0, .B false, .B false, .S ⟨#[]⟩, .I 0, .I 0, .I 0, .I 0, .I 0, .S ⟨#[]⟩, .ro 1 [], .ro 13 [], .ro 14 []] ++ encX x)] (hpOf []) (fun r h => r = .I 0 ∧ h = hpOf []) := by
  have h1 := h.1
  refine FSpec.intro Tryz.func25 rfl (nl rfl) (nl rfl) fun s0 w0 hs0 hn0 => ?_
  refine .ws 0 [(0, .agg ([.I 2, .ro 3 (rowsOf Stp.cells p), .I pos, .I 0, .B false, .B false, .S ⟨#[]⟩, .I 0, .I 0, .I 0, .I 0, .I 0, .S ⟨#[]⟩, .ro 1 [], .ro 13 [], .ro 14 []] ++ encX x))] [] <| .seq <| .region <| .c1 (.box 0 Z Z (notup Z)) <| .p (.assign Z Z) <| .nil <| .seq <| .seq <| .region <| .p (.faddr fo78_0 Z Z) <| .p (.load1 ag3 Z Z Z Z) <| .p (.call0 [] false (hasOld2_spec ) Tryz.func42 (hv := by exact (.same Z))) ?_
  refine .p (.not Z Z) <| .p (.move Z Z) <| .yT (.faddr fo78_0 Z Z) Z Z (Eq.refl true) <| .yT (.load1 ag3 Z Z Z Z) Z Z (Eq.refl true) <| .yT (.call0 [] false (hasNew2_spec ) Tryz.func43 (hv := by exact (.same Z))) Z Z (Eq.refl true) ?_
  refine .yT (.not Z Z) Z Z (Eq.refl true) <| .p (.pick Z Z Z) <| .p (.move Z Z) <| .yF (.faddr fo78_1 Z Z) Z Z (Eq.refl false) <| .yF (.load1 ag76 Z Z Z Z) Z Z (Eq.refl false) <| .yF (.call0 [] false (pValid_spec p h) Tryz.func44 (hv := by exact (.same Z))) Z Z (Eq.refl false) ?_
  refine .yF (.not Z Z) Z Z (Eq.refl false) <| .p (.pick Z Z Z) <| .p (.move Z Z) <| .yF (.faddr fo78_1 Z Z) Z Z (Eq.refl false) <| .yF (.load1 ag76 Z Z Z Z) Z Z (Eq.refl false) <| .yF (.len_ro (n := p.length) ut76 Z (.inl Z) (by simp)) Z Z (Eq.refl false) ?_
  refine .yF (.ieql Z Z Z) Z Z (Eq.refl false) <| .yF (.move Z Z) Z Z (Eq.refl false) ?_
  have h1 : (decide (((p.length : Nat) : Int) = 0)) = false := decide_eq_false (by omega)
  refine .nF Z Z h1 Z <| .nF Z Z h1 Z <| .nF Z Z h1 Z <| .nF Z Z h1 Z <| .cons_unasked Z Z Z Z <| .cons_unasked Z Z Z Z <| .cons_unasked Z Z Z Z <| .nF Z Z h1 Z <| .yF (.pickE Z Z h1 Z) Z Z (Eq.refl false) <| .p (.pick Z Z Z) <| .nil <| .cF Z Z ?_
  refine .skip <| .seq <| .seq <| .region <| .p (.faddr fo78_2 Z Z) <| .p (.load1 ag3 Z Z Z Z) <| .p (.ilss Z Z Z) <| .p (.move Z Z) ?_
  have h2 : (decide (pos < 0)) = false := decide_eq_false (by omega)
  refine .yF (.faddr fo78_2 Z Z) Z Z h2 <| .yF (.load1 ag3 Z Z Z Z) Z Z h2 <| .yF (.igtr Z Z Z) Z Z h2 <| .p (.pickE Z Z h2 Z) <| .p (.move Z Z) ?_
  have h3 : (decide (65536 < pos)) = false := decide_eq_false (by omega)
  refine .yF (.faddr fo78_2 Z Z) Z Z h3 <| .yF (.load1 ag3 Z Z Z Z) Z Z h3 <| .yF (.ineq Z Z Z) Z Z h3 <| .yF (.move Z Z) Z Z h3 ?_
  by_cases p5 : pos = 0
  have h4 := decide_eq_true p5
  refine .nF Z Z (bnot h4) Z <| .nF Z Z (bnot h4) Z <| .nF Z Z (bnot h4) Z <| .yF (.pickE Z Z (bnot h4) Z) Z Z h3 <| .p (.pickE Z Z h3 Z) <| .p (.move Z Z) <| .yF (.faddr fo78_0 Z Z) Z Z (Eq.refl false) <| .yF (.load1 ag3 Z Z Z Z) Z Z (Eq.refl false) <| .yF (.call0 [] false (hasOld2_spec ) Tryz.func42 (hv := by exact (.same Z))) Z Z (Eq.refl false) ?_
  refine .yF (.not Z Z) Z Z (Eq.refl false) <| .yF (.move Z Z) Z Z (Eq.refl false) <| .yT (.faddr fo78_3 Z Z) Z Z (Eq.refl true) <| .yT (.loadN ag35 sz35 Z Z Z (nl Z)) Z Z (Eq.refl true) <| .yT (.call0 [] false (zero_spec ) Tryz.func46 (hv := by exact (.cons (.aggL (.same Z)) .nil))) Z Z (Eq.refl true) ?_
  refine .yT (.not Z Z) Z Z (Eq.refl true) <| .yF (.pick Z Z Z) Z Z (Eq.refl false) <| .p (.pick Z Z Z) <| .p (.move Z Z) <| .yF (.faddr fo78_0 Z Z) Z Z (Eq.refl false) <| .yF (.load1 ag3 Z Z Z Z) Z Z (Eq.refl false) <| .yF (.call0 [] false (hasNew2_spec ) Tryz.func43 (hv := by exact (.same Z))) Z Z (Eq.refl false) ?_
  refine .yF (.not Z Z) Z Z (Eq.refl false) <| .yF (.move Z Z) Z Z (Eq.refl false) <| .nF Z Z (Eq.refl false) Z <| .nF Z Z (Eq.refl false) Z <| .nF Z Z (Eq.refl false) Z <| .nF Z Z (Eq.refl false) Z <| .yF (.pick Z Z Z) Z Z (Eq.refl false) <| .p (.pick Z Z Z) <| .nil <| .ws 1 [(1, .P 0), (77, .B false)] [(0, .box ([.I 2, .ro 3 (rowsOf Stp.cells p), .I pos, .I 0, .B false, .B false, .S ⟨#[]⟩, .I 0, .I 0, .I 0, .I 0, .I 0, .S ⟨#[]⟩, .ro 1 [], .ro 13 [], .ro 14 []] ++ encX x))] <| .cF Z Z <| .skip ?_
  refine .seq <| .seq <| .region <| .p (.faddr fo78_0 Z Z) <| .p (.load1 ag3 Z Z Z Z) <| .p (.call0 [] false (hasOld2_spec ) Tryz.func42 (hv := by exact (.same Z))) ?_
  refine .nil <| .cF Z Z <| .skip <| .seq <| .seq <| .region <| .p (.faddr fo78_0 Z Z) <| .p (.load1 ag3 Z Z Z Z) <| .p (.call0 [] false (hasNew2_spec ) Tryz.func43 (hv := by exact (.same Z))) ?_
  refine .nil <| .cT Z Z <| .seq <| .region <| .p (.faddr fo78_4 Z Z) <| .p (.loadN ag35 sz35 Z Z Z (nl Z)) <| .p (.call0 [] false (Check_spec 8 x hx.1 (by omega) hx.2) Tryz.func47 (hv := by exact (.cons (.aggL (.same Z)) .nil))) ?_
  refine .p (.assign Z Z) <| .nil <| .ret ?_
  exact ⟨_, _, _, _, rfl, ALe.s (l := [(0, .I 0)]) (m := []) (nx' := 0), rfl, rfl⟩
  have h4 := decide_eq_false p5
  refine .yT (.loadN ag78 sz78 Z Z Z (nl Z)) Z Z (bnot h4) <| .yT (.call0 [] false (keyed2_spec p pos x h hp) Tryz.func45 (hv := by exact (.cons (.aggL (.same Z)) .nil))) Z Z (bnot h4) ?_
  refine .yT (.not Z Z) Z Z (bnot h4) <| .yF (.pickE Z Z (bnot h4) Z) Z Z h3 <| .p (.pickE Z Z h3 Z) <| .p (.move Z Z) <| .yF (.faddr fo78_0 Z Z) Z Z (Eq.refl false) <| .yF (.load1 ag3 Z Z Z Z) Z Z (Eq.refl false) <| .yF (.call0 [] false (hasOld2_spec ) Tryz.func42 (hv := by exact (.same Z))) Z Z (Eq.refl false) ?_
  refine .yF (.not Z Z) Z Z (Eq.refl false) <| .yF (.move Z Z) Z Z (Eq.refl false) <| .yT (.faddr fo78_3 Z Z) Z Z (Eq.refl true) <| .yT (.loadN ag35 sz35 Z Z Z (nl Z)) Z Z (Eq.refl true) <| .yT (.call0 [] false (zero_spec ) Tryz.func46 (hv := by exact (.cons (.aggL (.same Z)) .nil))) Z Z (Eq.refl true) ?_
  refine .yT (.not Z Z) Z Z (Eq.refl true) <| .yF (.pick Z Z Z) Z Z (Eq.refl false) <| .p (.pick Z Z Z) <| .p (.move Z Z) <| .yF (.faddr fo78_0 Z Z) Z Z (Eq.refl false) <| .yF (.load1 ag3 Z Z Z Z) Z Z (Eq.refl false) <| .yF (.call0 [] false (hasNew2_spec ) Tryz.func43 (hv := by exact (.same Z))) Z Z (Eq.refl false) ?_
  refine .yF (.not Z Z) Z Z (Eq.refl false) <| .yF (.move Z Z) Z Z (Eq.refl false) <| .nF Z Z (Eq.refl false) Z <| .nF Z Z (Eq.refl false) Z <| .nF Z Z (Eq.refl false) Z <| .nF Z Z (Eq.refl false) Z <| .yF (.pick Z Z Z) Z Z (Eq.refl false) <| .p (.pick Z Z Z) <| .nil <| .ws 1 [(1, .P 0), (77, .B false)] [(0, .box ([.I 2, .ro 3 (rowsOf Stp.cells p), .I pos, .I 0, .B false, .B false, .S ⟨#[]⟩, .I 0, .I 0, .I 0, .I 0, .I 0, .S ⟨#[]⟩, .ro 1 [], .ro 13 [], .ro 14 []] ++ encX x))] <| .cF Z Z <| .skip ?_
  refine .seq <| .seq <| .region <| .p (.faddr fo78_0 Z Z) <| .p (.load1 ag3 Z Z Z Z) <| .p (.call0 [] false (hasOld2_spec ) Tryz.func42 (hv := by exact (.same Z))) ?_
  refine .nil <| .cF Z Z <| .skip <| .seq <| .seq <| .region <| .p (.faddr fo78_0 Z Z) <| .p (.load1 ag3 Z Z Z Z) <| .p (.call0 [] false (hasNew2_spec ) Tryz.func43 (hv := by exact (.same Z))) ?_
  refine .nil <| .cT Z Z <| .seq <| .region <| .p (.faddr fo78_4 Z Z) <| .p (.loadN ag35 sz35 Z Z Z (nl Z)) <| .p (.call0 [] false (Check_spec 8 x hx.1 (by omega) hx.2) Tryz.func47 (hv := by exact (.cons (.aggL (.same Z)) .nil))) ?_
  refine .p (.assign Z Z) <| .nil <| .ret ?_
  exact ⟨_, _, _, _, rfl, ALe.s (l := [(0, .I 0)]) (m := []) (nx' := 0), rfl, rfl⟩

theorem one3_spec (p : List Stp) (pos : Int) (x : T) (h : pOK p) (hp : 0 < p.length) (h0 : 0 ≤ pos) (h6 : pos ≤ 65536) (hx : vOK x) : FSpec Tryz.prog 25 0 [.agg ([.I 3, .ro 3 (rowsOf Stp.cells p), .I pos] ++ encX x ++ [.I 0, .B false, .B false, .S ⟨#[]⟩, .I 0, .I 0, .I 0, .I 0, .I 0, .S ⟨#[]⟩, .ro 1 [], .ro 13 [], .ro 14 []])] (hpOf []) (fun r h => r = .I 0 ∧ h = hpOf []) := by
  have h1 := h.1
  refine FSpec.intro Tryz.func25 rfl (nl rfl) (nl rfl) fun s0 w0 hs0 hn0 => ?_
  refine .ws 0 [(0, .agg ([.I 3, .ro 3 (rowsOf Stp.cells p), .I pos] ++ encX x ++ [.I 0, .B false, .B false, .S ⟨#[]⟩, .I 0, .I 0, .I 0, .I 0, .I 0, .S ⟨#[]⟩, .ro 1 [], .ro 13 [], .ro 14 []]))] [] <| .seq <| .region <| .c1 (.box 0 Z Z (notup Z)) <| .p (.assign Z Z) <| .nil <| .seq <| .seq <| .region <| .p (.faddr fo78_0 Z Z) <| .p (.load1 ag3 Z Z Z Z) <| .p (.call0 [] false (hasOld3_spec ) Tryz.func42 (hv := by exact (.same Z))) ?_
  refine .p (.not Z Z) <| .p (.move Z Z) <| .nF Z Z (Eq.refl false) Z <| .nF Z Z (Eq.refl false) Z <| .nF Z Z (Eq.refl false) Z <| .nF Z Z (Eq.refl false) Z <| .p (.pick Z Z Z) <| .p (.move Z Z) <| .yF (.faddr fo78_1 Z Z) Z Z (Eq.refl false) <| .yF (.load1 ag76 Z Z Z Z) Z Z (Eq.refl false) <| .yF (.call0 [] false (pValid_spec p h) Tryz.func44 (hv := by exact (.same Z))) Z Z (Eq.refl false) ?_
  refine .yF (.not Z Z) Z Z (Eq.refl false) <| .p (.pick Z Z Z) <| .p (.move Z Z) <| .yF (.faddr fo78_1 Z Z) Z Z (Eq.refl false) <| .yF (.load1 ag76 Z Z Z Z) Z Z (Eq.refl false) <| .yF (.len_ro (n := p.length) ut76 Z (.inl Z) (by simp)) Z Z (Eq.refl false) ?_
  refine .yF (.ieql Z Z Z) Z Z (Eq.refl false) <| .yF (.move Z Z) Z Z (Eq.refl false) ?_
  have h1 : (decide (((p.length : Nat) : Int) = 0)) = false := decide_eq_false (by omega)
  refine .nF Z Z h1 Z <| .nF Z Z h1 Z <| .nF Z Z h1 Z <| .nF Z Z h1 Z <| .cons_unasked Z Z Z Z <| .cons_unasked Z Z Z Z <| .cons_unasked Z Z Z Z <| .nF Z Z h1 Z <| .yF (.pickE Z Z h1 Z) Z Z (Eq.refl false) <| .p (.pick Z Z Z) <| .nil <| .cF Z Z ?_
  refine .skip <| .seq <| .seq <| .region <| .p (.faddr fo78_2 Z Z) <| .p (.load1 ag3 Z Z Z Z) <| .p (.ilss Z Z Z) <| .p (.move Z Z) ?_
  have h2 : (decide (pos < 0)) = false := decide_eq_false (by omega)
  refine .yF (.faddr fo78_2 Z Z) Z Z h2 <| .yF (.load1 ag3 Z Z Z Z) Z Z h2 <| .yF (.igtr Z Z Z) Z Z h2 <| .p (.pickE Z Z h2 Z) <| .p (.move Z Z) ?_
  have h3 : (decide (65536 < pos)) = false := decide_eq_false (by omega)
  refine .yF (.faddr fo78_2 Z Z) Z Z h3 <| .yF (.load1 ag3 Z Z Z Z) Z Z h3 <| .yF (.ineq Z Z Z) Z Z h3 <| .yF (.move Z Z) Z Z h3 ?_
  by_cases p5 : pos = 0
  have h4 := decide_eq_true p5
  refine .nF Z Z (bnot h4) Z <| .nF Z Z (bnot h4) Z <| .nF Z Z (bnot h4) Z <| .yF (.pickE Z Z (bnot h4) Z) Z Z h3 <| .p (.pickE Z Z h3 Z) <| .p (.move Z Z) <| .yF (.faddr fo78_0 Z Z) Z Z (Eq.refl false) <| .yF (.load1 ag3 Z Z Z Z) Z Z (Eq.refl false) <| .yF (.call0 [] false (hasOld3_spec ) Tryz.func42 (hv := by exact (.same Z))) Z Z (Eq.refl false) ?_
  refine .yF (.not Z Z) Z Z (Eq.refl false) <| .yF (.move Z Z) Z Z (Eq.refl false) <| .nF Z Z (Eq.refl false) Z <| .nF Z Z (Eq.refl false) Z <| .nF Z Z (Eq.refl false) Z <| .nF Z Z (Eq.refl false) Z <| .yF (.pick Z Z Z) Z Z (Eq.refl false) <| .p (.pick Z Z Z) <| .p (.move Z Z) <| .yF (.faddr fo78_0 Z Z) Z Z (Eq.refl false) <| .yF (.load1 ag3 Z Z Z Z) Z Z (Eq.refl false) <| .yF (.call0 [] false (hasNew3_spec ) Tryz.func43 (hv := by exact (.same Z))) Z Z (Eq.refl false) ?_
  refine .yF (.not Z Z) Z Z (Eq.refl false) <| .yF (.move Z Z) Z Z (Eq.refl false) <| .yT (.faddr fo78_4 Z Z) Z Z (Eq.refl true) <| .yT (.loadN ag35 sz35 Z Z Z (nl Z)) Z Z (Eq.refl true) <| .yT (.call0 [] false (zero_spec ) Tryz.func46 (hv := by exact (.cons (.aggL (.same Z)) .nil))) Z Z (Eq.refl true) ?_
  refine .yT (.not Z Z) Z Z (Eq.refl true) <| .yF (.pick Z Z Z) Z Z (Eq.refl false) <| .p (.pick Z Z Z) <| .nil <| .ws 1 [(1, .P 0), (77, .B false)] [(0, .box ([.I 3, .ro 3 (rowsOf Stp.cells p), .I pos] ++ encX x ++ [.I 0, .B false, .B false, .S ⟨#[]⟩, .I 0, .I 0, .I 0, .I 0, .I 0, .S ⟨#[]⟩, .ro 1 [], .ro 13 [], .ro 14 []]))] <| .cF Z Z <| .skip <| .seq <| .seq <| .region <| .p (.faddr fo78_0 Z Z) <| .p (.load1 ag3 Z Z Z Z) ?_
  refine .p (.call0 [] false (hasOld3_spec ) Tryz.func42 (hv := by exact (.same Z))) ?_
  refine .nil <| .cT Z Z <| .seq <| .region <| .p (.faddr fo78_3 Z Z) <| .p (.loadN ag35 sz35 Z Z Z (nl Z)) <| .p (.call0 [] false (Check_spec 8 x hx.1 (by omega) hx.2) Tryz.func47 (hv := by exact (.cons (.aggL (.same Z)) .nil))) ?_
  refine .p (.assign Z Z) <| .nil <| .seq <| .region <| .p (.move Z Z) <| .p ((AOp.ineq Z Z Z).lb Z) <| .nil <| .cF Z Z <| .skip <| .seq <| .seq <| .region ?_
  refine .p (.faddr fo78_0 Z Z) <| .p (.load1 ag3 Z Z Z Z) <| .p (.call0 [] false (hasNew3_spec ) Tryz.func43 (hv := by exact (.same Z))) ?_
  refine .nil <| .cF Z Z <| .skip <| .seq <| .region <| .p (.assign Z Z) <| .nil <| .ret ?_
  exact ⟨_, _, _, _, rfl, ALe.s (l := [(0, .I 0)]) (m := []) (nx' := 0), rfl, rfl⟩
  have h4 := decide_eq_false p5
  refine .yT (.loadN ag78 sz78 Z Z Z (nl Z)) Z Z (bnot h4) <| .yT (.call0 [] false (keyed3_spec p pos x h hp) Tryz.func45 (hv := by exact (.cons (.aggL (.same Z)) .nil))) Z Z (bnot h4) ?_
  refine .yT (.not Z Z) Z Z (bnot h4) <| .yF (.pickE Z Z (bnot h4) Z) Z Z h3 <| .p (.pickE Z Z h3 Z) <| .p (.move Z Z) <| .yF (.faddr fo78_0 Z Z) Z Z (Eq.refl false) <| .yF (.load1 ag3 Z Z Z Z) Z Z (Eq.refl false) <| .yF (.call0 [] false (hasOld3_spec ) Tryz.func42 (hv := by exact (.same Z))) Z Z (Eq.refl false) ?_
  refine .yF (.not Z Z) Z Z (Eq.refl false) <| .yF (.move Z Z) Z Z (Eq.refl false) <| .nF Z Z (Eq.refl false) Z <| .nF Z Z (Eq.refl false) Z <| .nF Z Z (Eq.refl false) Z <| .nF Z Z (Eq.refl false) Z <| .yF (.pick Z Z Z) Z Z (Eq.refl false) <| .p (.pick Z Z Z) <| .p (.move Z Z) <| .yF (.faddr fo78_0 Z Z) Z Z (Eq.refl false) <| .yF (.load1 ag3 Z Z Z Z) Z Z (Eq.refl false) <| .yF (.call0 [] false (hasNew3_spec ) Tryz.func43 (hv := by exact (.same Z))) Z Z (Eq.refl false) ?_
  refine .yF (.not Z Z) Z Z (Eq.refl false) <| .yF (.move Z Z) Z Z (Eq.refl false) <| .yT (.faddr fo78_4 Z Z) Z Z (Eq.refl true) <| .yT (.loadN ag35 sz35 Z Z Z (nl Z)) Z Z (Eq.refl true) <| .yT (.call0 [] false (zero_spec ) Tryz.func46 (hv := by exact (.cons (.aggL (.same Z)) .nil))) Z Z (Eq.refl true) ?_
  refine .yT (.not Z Z) Z Z (Eq.refl true) <| .yF (.pick Z Z Z) Z Z (Eq.refl false) <| .p (.pick Z Z Z) <| .nil <| .ws 1 [(1, .P 0), (77, .B false)] [(0, .box ([.I 3, .ro 3 (rowsOf Stp.cells p), .I pos] ++ encX x ++ [.I 0, .B false, .B false, .S ⟨#[]⟩, .I 0, .I 0, .I 0, .I 0, .I 0, .S ⟨#[]⟩, .ro 1 [], .ro 13 [], .ro 14 []]))] <| .cF Z Z <| .skip <| .seq <| .seq <| .region <| .p (.faddr fo78_0 Z Z) <| .p (.load1 ag3 Z Z Z Z) ?_
  refine .p (.call0 [] false (hasOld3_spec ) Tryz.func42 (hv := by exact (.same Z))) ?_
  refine .nil <| .cT Z Z <| .seq <| .region <| .p (.faddr fo78_3 Z Z) <| .p (.loadN ag35 sz35 Z Z Z (nl Z)) <| .p (.call0 [] false (Check_spec 8 x hx.1 (by omega) hx.2) Tryz.func47 (hv := by exact (.cons (.aggL (.same Z)) .nil))) ?_
  refine .p (.assign Z Z) <| .nil <| .seq <| .region <| .p (.move Z Z) <| .p ((AOp.ineq Z Z Z).lb Z) <| .nil <| .cF Z Z <| .skip <| .seq <| .seq <| .region ?_
  refine .p (.faddr fo78_0 Z Z) <| .p (.load1 ag3 Z Z Z Z) <| .p (.call0 [] false (hasNew3_spec ) Tryz.func43 (hv := by exact (.same Z))) ?_
  refine .nil <| .cF Z Z <| .skip <| .seq <| .region <| .p (.assign Z Z) <| .nil <| .ret ?_
  exact ⟨_, _, _, _, rfl, ALe.s (l := [(0, .I 0)]) (m := []) (nx' := 0), rfl, rfl⟩

theorem putC_spec (s : Stp) (q : List Stp) (h : pOK (s :: q)) (v x : T) (hv : v.fit) (ih : ∀ (v x : T), pOK q → v.fit → FSpec Tryz.prog 49 0 [.agg (encX v), .ro 3 (rowsOf Stp.cells q), .agg (encX x)] (hpOf []) (fun r h => r = .agg (encX (putM v q x)) ∧ h = hpOf [])) : FSpec Tryz.prog 49 0 [.agg (encX v), .ro 3 (rowsOf Stp.cells (s :: q)), .agg (encX x)] (hpOf []) (fun r h => r = .agg (encX (v.setF (v.fields.map (putG s q x)))) ∧ h = hpOf []) := by
  have hf := hv.2.2.1
  have h1 := h.1
  refine FSpec.intro Tryz.func49 rfl (nl rfl) (nl rfl) fun s0 w0 hs0 hn0 => ?_
  refine .ws 0 [(0, .agg (encX v)), (1, .ro 3 (rowsOf Stp.cells (s :: q))), (2, .agg (encX x))] [] <| .seq <| .region <| .c1 (.box 0 Z Z (notup Z)) <| .c1 (.box 1 Z Z (notup Z)) <| .c1 (.alloc 2 Z zt35 Z) <| .nil <| .seq <| .seq <| .region <| .p (.move Z Z) <| .p (.len_ro (n := (s :: q).length) ut76 Z (.inl Z) (by simp)) ?_
  refine .p (.ieql Z Z Z) <| .nil ?_
  have h1 : (decide ((((s :: q).length : Nat) : Int) = 0)) = false := decide_eq_false (by simp; omega)
  refine .cF Z h1 <| .skip <| .seq <| .seq <| .region <| .p (.move Z Z) <| .p (.iaddr_ro (row := [.B ((nthG (s :: q) 0).ix), .S ((nthG (s :: q) 0).key), .I ((nthG (s :: q) 0).index)]) ut76 sz75 Z Z Z Z (rows_nth (f := Stp.cells) (by first | omega | (simp; done) | (simp; omega)))) ?_
  refine .p (.faddr_rp fo75_0 Z Z) <| .p (.rload1 ag4 Z Z Z) <| .nil ?_
  have h2 : (nthG (s :: q) 0).ix = false := (h.2 s (by simp)).1
  refine .cF Z h2 <| .skip <| .seq <| .region <| .p (.faddr fo35_7 Z Z) <| .p (.load1 ag33 Z Z Z Z) <| .p (.len_ro (n := v.fields.length) ut33 Z (.inl Z) (by simp)) ?_
  refine .c1 (.makeSlice 3 false ut33 sb72 zt72 Z Z (nl Z) Z Z Z Z Z (by first | omega | (simp; omega)) (by first | omega | (simp; omega))) ?_
  refine .p (.assign Z Z) <| .nil <| .seq <| .region <| .p (.move Z Z) <| .p (.faddr fo35_7 Z Z) <| .p (.load1 ag33 Z Z Z Z) <| .c0 (.copyAll ut33 sz72 Z Z Z (by first | rfl | (simp; done) | (simp; omega)) (.ro Z Z) (by first | rfl | (simp; done) | (simp; omega))) ?_
  refine .nil <| .seq <| .seq <| .region <| .p (.move Z Z) <| .p (.len_sl ut33 Z Z (Option.some_ne_none _)) <| .p (.move Z Z) <| .nil <| .block ?_
  refine AWP.loop (G := { g : Nat // g ≤ v.fields.length }) (fun g => envOf [(1, .ro 3 (rowsOf Stp.cells (s :: q))), (3, .P 0), (5, .P 1), (6, .P 2), (8, .sl 9 14 0 v.fields.length), (55, .N v.fields.length), (56, .N g.1)]) (fun g => hpOf [(0, .box (encX v)), (1, .box (encX x)), (2, .box [.I 0, .B false, .B false, .S ⟨#[]⟩, .I 0, .I 0, .I 0, .I 0, .I 0, .S ⟨#[]⟩, .O, .O, .O]), (9, .arr false 14 (encF (updM (putG s q x) v.fields g.1)))]) (fun _ => 10) (fun g => v.fields.length - g.1) ⟨(0), Nat.zero_le _⟩ (ALe.of false [(9, 3)] 10
      _
      _
      (.cons rfl (.boxS rfl) (.cons rfl (.boxS rfl) (.cons rfl (.boxS rfl) (.cons rfl (.arr (by rfl)) .nil))))
      (.s (.cons rfl .ptrR (.cons rfl .ptrR (.cons rfl .ptrR (.cons rfl .slR (.s (.s .nil)))))))
      (by simp)) ?_
  rintro ⟨i, hg⟩
  try dsimp only at hg
  refine .ws 10 [(1, .ro 3 (rowsOf Stp.cells (s :: q))), (3, .P 0), (5, .P 1), (6, .P 2), (8, .sl 9 14 0 v.fields.length), (55, .N v.fields.length), (56, .N i)] [(0, .box (encX v)), (1, .box (encX x)), (2, .box [.I 0, .B false, .B false, .S ⟨#[]⟩, .I 0, .I 0, .I 0, .I 0, .I 0, .S ⟨#[]⟩, .O, .O, .O]), (9, .arr false 14 (encF (updM (putG s q x) v.fields i)))] <| .seq <| .region <| .p (.ilss Z Z Z) <| .nil <| .seq ?_
  by_cases p4 : ((i : Nat) : Int) < ((v.fields.length : Nat) : Int)
  have h3 := decide_eq_true p4
  refine .cT Z h3 <| .skip <| .seq <| .block <| .seq <| .region <| .p (.move Z Z) <| .p (.assign Z Z) <| .nil <| .seq <| .region_p fol an49_14 (by kernel_rfl) Z ?_
  refine .p [] (.move Z Z) <| .p [] (.move Z Z) <| .p [9] (.iaddr_sl0 ut33 sz72 Z Z Z Z (by first | omega | (simp; done) | (simp; omega)) (Option.some_ne_none _)) ?_
  refine .p [] (.faddr fo72_0 Z Z) <| .p [9] (.aload1 ag9 Z Z Z (encF_nth (by first | omega | (simp; done) | (simp; omega))) Z) ?_
  refine .p [] (.move Z Z) <| .p [] (.iaddr_ro (row := [.B ((nthG (s :: q) 0).ix), .S ((nthG (s :: q) 0).key), .I ((nthG (s :: q) 0).index)]) ut76 sz75 Z Z Z Z (rows_nth (f := Stp.cells) (by first | omega | (simp; done) | (simp; omega)))) ?_
  refine .p [] (.faddr_rp fo75_1 Z Z) <| .p [] (.rload1 ag9 Z Z Z) <| .p [] (.seql Z Z Z) <| .nil (by kernel_rfl) ?_
  by_cases p6 : (nthF (updM (putG s q x) v.fields i) i).1 = (nthG (s :: q) 0).key
  have h5 := decide_eq_true p6
  refine .cT Z h5 <| .region_p fol an49_15 (by kernel_rfl) Z ?_
  refine .p [] (.move Z Z) <| .p [] (.move Z Z) <| .p [] (.move Z Z) <| .p [] (.move Z Z) <| .p [9] (.iaddr_sl0 ut33 sz72 Z Z Z Z (by first | omega | (simp; done) | (simp; omega)) (Option.some_ne_none _)) ?_
  refine .p [] (.faddr fo72_1 Z Z) <| .p [9] (.aloadN ag35 sz35 Z Z Z (encF_nth (by first | omega | (simp; done) | (simp; omega))) (nl Z)) ?_
  refine .p [] (.move Z Z) <| .p [] (.eqv (y := .ro 3 (rowsOf Stp.cells q)) (.slice_ro (i := 1) (j := (s :: q).length) ut76 sz75 Z Z ⟨_, _, Z, Z⟩ (show _ = _ from by simp) (by first | omega | (simp; done) | (simp; omega)) (by first | omega | (simp; done) | (simp; omega))) (congrArg (AV.ro 3) (rows_drop1 s q _ (by simp)))) ?_
  refine .p [1] (.loadN ag35 sz35 Z Z Z (nl Z)) <| .p [] (.call0 [] false (ih ((nthF (updM (putG s q x) v.fields i) i).2) (x) (pOK_tail h) (by rw [updM_nth (by omega)]; exact fit_field hv (nthF_mem (by omega)))) Tryz.func49 (hv := by exact (.cons (.aggL (.same Z)) (.cons (.same Z) (.cons (.aggL (.same Z)) .nil))))) ?_
  refine .p [9] (.iaddr_sl0 ut33 sz72 Z Z Z Z (by first | omega | (simp; done) | (simp; omega)) (Option.some_ne_none _)) ?_
  refine .p [] (.faddr fo72_1 Z Z) <| .c 10 [9] (.astoreE (row := ([.S ((nthF (updM (putG s q x) v.fields i) i).1)] ++ encX (nthF (updM (putG s q x) v.fields i) i).2)) sz35 Z Z Z Z (encF_nth (by first | omega | (simp; done) | (simp; omega))) (notup Z) Z Z (nl Z) (encF_set _ _ ((nthF (updM (putG s q x) v.fields i) i).1, (putM (nthF (updM (putG s q x) v.fields i) i).2 q x)))) ?_
  refine .nil (by kernel_rfl) ?_
  refine .region <| .p (.iadd (r := (((i + 1) : Nat) : Int)) Z Z Z (wi (by omega) (by first | rfl | omega | (simp; done)))) ?_
  refine .p (.move Z Z) <| .nil ?_
  exact ⟨⟨((i + 1)), (by show i + 1 ≤ _; omega)⟩, (by simp; omega), (ALe.of false [] 10
      _
      _
      (.cons rfl (.boxS rfl) (.cons rfl (.boxS rfl) (.cons rfl (.boxS rfl) (.cons rfl (.arr (by rw [updM_yes (by omega) ‹_›])) .nil))))
      (.s (.cons rfl .ptrR (.cons rfl .ptrR (.cons rfl .ptrR (.cons rfl .slR (.s (.s .nil)))))))
      (by simp))⟩
  have h5 := decide_eq_false p6
  refine .cF Z h5 <| .skip <| .region <| .p (.iadd (r := (((i + 1) : Nat) : Int)) Z Z Z (wi (by omega) (by first | rfl | omega | (simp; done)))) ?_
  refine .p (.move Z Z) <| .nil ?_
  exact ⟨⟨((i + 1)), (by show i + 1 ≤ _; omega)⟩, (by simp; omega), (ALe.of false [] 10
      _
      _
      (.cons rfl (.boxS rfl) (.cons rfl (.boxS rfl) (.cons rfl (.boxS rfl) (.cons rfl (.arr (congrArg encF (updM_no (by omega) ‹_›))) .nil))))
      (.s (.cons rfl .ptrR (.cons rfl .ptrR (.cons rfl .ptrR (.cons rfl .slR (.s (.s .nil)))))))
      (by simp))⟩
  have h3 := decide_eq_false p4
  refine .cF Z h3 <| .exit <| .seq <| .region <| .p (.move Z Z) <| .p (.faddr fo35_7 Z Z) <| .c0 (.store sz33 Z Z Z Z (notup Z) Z Z (nl Z)) <| .nil <| .seq <| .region <| .p (.loadN ag35 sz35 Z Z Z (nl Z)) <| .c0 (.store sz35 Z Z Z Z (notup Z) Z Z (nl Z)) ?_
  refine .nil <| .ret ?_
  exact ⟨_, _, _, _, rfl, ALe.of false [] 0
      [(0, .agg (encX (v.setF (v.fields.map (putG s q x)))))]
      []
      .nil
      (.cons rfl (.aggL (.cons (.litE (by rfl)) (.cons (.litE (by rfl)) (.cons (.litE (by rfl)) (.cons (.litE (by rfl)) (.cons (.litE (by rfl)) (.cons (.litE (by rfl)) (.cons (.litE (by rfl)) (.cons (.litE (by rfl)) (.cons (.litE (by rfl)) (.cons (.litE (by rfl)) (.cons (.roE (by rfl)) (.cons (.roE (by rfl)) (.cons (.freezeR (els := (encF (updM (putG s q x) v.fields i))) (by simp) (by rw [updM_all (by omega)]; rfl)) .nil)))))))))))))) .nil)
      (by simp), rfl, rfl⟩

theorem putN_spec (v x : T) : FSpec Tryz.prog 49 0 [.agg (encX v), .ro 3 [], .agg (encX x)] (hpOf []) (fun r h => r = .agg (encX x) ∧ h = hpOf []) := by
  refine FSpec.intro Tryz.func49 rfl (nl rfl) (nl rfl) fun s0 w0 hs0 hn0 => ?_
  refine .ws 0 [(0, .agg (encX v)), (1, .ro 3 []), (2, .agg (encX x))] [] <| .seq <| .region <| .c1 (.box 0 Z Z (notup Z)) <| .c1 (.box 1 Z Z (notup Z)) <| .c1 (.alloc 2 Z zt35 Z) <| .nil <| .seq <| .seq <| .region <| .p (.move Z Z) <| .p (.len_ro (n := 0) ut76 Z (.inl Z) Z) ?_
  refine .p ((AOp.ieql Z Z Z).lb Z) <| .nil <| .cT Z Z <| .seq <| .region <| .p (.loadN ag35 sz35 Z Z Z (nl Z)) <| .c0 (.store sz35 Z Z Z Z (notup Z) Z Z (nl Z)) <| .nil <| .ret ?_
  exact ⟨_, _, _, _, rfl, ALe.s (l := [(0, .agg (encX x))]) (m := []) (nx' := 0), rfl, rfl⟩

theorem put_spec : ∀ (p : List Stp) (v x : T), pOK p → v.fit → FSpec Tryz.prog 49 0 [.agg (encX v), .ro 3 (rowsOf Stp.cells p), .agg (encX x)] (hpOf []) (fun r h => r = .agg (encX (putM v p x)) ∧ h = hpOf []) := by
  intro p
  induction p with
  | nil => intro v x _ _; exact putN_spec v x
  | cons s q ih =>
    intro v x h hv
    rw [putM_cons]
    exact putC_spec s q h v x hv ih
end Go.Abs
namespace Go.Abs
open Go.Proofs
set_option maxRecDepth 100000
set_option maxHeartbeats 8000000

def an50_11 : List Nat := [0, 0, 2, 0, 14, 30, 63, 0, 128, 0, 512, 1920, 4095, 8191, 16383]
def an51_7 : List Nat := [0, 0, 2, 0, 14, 31, 0, 64, 0, 256, 960, 2047, 4095, 8191]
def an26_20 : List Nat := [0, 0, 2, 0, 8, 24, 63, 127]
def an26_21 : List Nat := [0, 0, 2, 7, 15]
def an26_7 : List Nat := [0, 0, 2, 0, 14, 31, 63, 127, 127, 0, 767, 2047]
def an26_12 : List Nat := [0, 0, 2, 0, 14, 30, 0, 127, 255, 511, 511, 1023, 4095]
def an26_16 : List Nat := [0, 0, 2, 0, 14, 0, 63, 127]
def an26_13 : List Nat := [0, 0, 2, 0, 14, 30, 0, 127, 255, 511, 511, 1023, 4095]

theorem index71n_spec (v : T) (k : ByteArray) (n : Nat) (hv : v.fields.length ≤ 100000) (h : ixM k v.fields = n) (hn : n < v.fields.length) : FSpec Tryz.prog 71 0 [.agg (encX v), .S k] (hpOf []) (fun r h => r = .N n ∧ h = hpOf []) := by
  have := index71_spec v k hv
  rwa [ixI_yes (by omega), h] at this

theorem insert_spec (v x : T) (k : ByteArray) (p : List Stp) (n : Nat) (hv : v.fields.length ≤ 100000) (hx : x.fit) (hk : v.kind = 7) (hno : ¬ ixM k v.fields < v.fields.length) (hn : n ≤ v.fields.length) : FSpec Tryz.prog 50 0 [.agg (encX v), .agg [.B false, .S k, .I 0], .agg ([.I 2, .ro 3 (rowsOf Stp.cells p), .N n, .I 0, .B false, .B false, .S ⟨#[]⟩, .I 0, .I 0, .I 0, .I 0, .I 0, .S ⟨#[]⟩, .ro 1 [], .ro 13 [], .ro 14 []] ++ encX x)] (hpOf []) (fun r h => r = .tup [.agg (encX (insM' v k n x)), .B true] ∧ h = hpOf []) := by
  refine FSpec.intro Tryz.func50 rfl (nl rfl) (nl rfl) fun s0 w0 hs0 hn0 => ?_
  refine .ws 0 [(0, .agg (encX v)), (1, .agg [.B false, .S k, .I 0]), (2, .agg ([.I 2, .ro 3 (rowsOf Stp.cells p), .N n, .I 0, .B false, .B false, .S ⟨#[]⟩, .I 0, .I 0, .I 0, .I 0, .I 0, .S ⟨#[]⟩, .ro 1 [], .ro 13 [], .ro 14 []] ++ encX x))] [] <| .seq <| .region <| .c1 (.box 0 Z Z (notup Z)) <| .c1 (.box 1 Z Z (notup Z)) <| .c1 (.box 2 Z Z (notup Z)) <| .c1 (.alloc 3 Z zt35 Z) <| .p (.assign Z Z) <| .nil <| .seq <| .region <| .p (.faddr fo78_4 Z Z) ?_
  refine .p (.loadN ag35 sz35 Z Z Z (nl Z)) <| .p (.call0 [] false (Copy_spec x (by assumption)) Tryz.func27 (hv := by exact (.cons (.aggL (.same Z)) .nil))) ?_
  refine .c1 (.alloc 4 Z zt35 Z) <| .c0 (.store sz35 Z Z Z Z (notup Z) Z Z (nl Z)) <| .nil <| .seq <| .seq <| .region <| .p (.faddr fo75_0 Z Z) <| .p (.load1 ag4 Z Z Z Z) <| .nil <| .cF Z Z <| .skip <| .seq ?_
  refine .seq <| .region <| .p (.faddr fo35_0 Z Z) <| .p (.load1 ag3 Z Z Z Z) <| .p (.ineq Z Z Z) <| .p (.move Z Z) ?_
  have h1 : (decide (v.kind = 7)) = true := decide_eq_true hk
  refine .yF (.loadN ag35 sz35 Z Z Z (nl Z)) Z Z (bnot h1) <| .yF (.faddr fo75_1 Z Z) Z Z (bnot h1) <| .yF (.load1 ag9 Z Z Z Z) Z Z (bnot h1) <| .yF (.call0 [] false (index71_spec v k hv) Tryz.func71 (hv := by exact (.cons (.aggL (.same Z)) (.cons (.same Z) .nil)))) Z Z (bnot h1) ?_
  refine .yF (.igeq Z Z Z) Z Z (bnot h1) <| .p (.pickE Z Z (bnot h1) Z) <| .p (.move Z Z) ?_
  have h2 : (decide (0 ≤ (ixI k v.fields))) = false := decide_eq_false (by rw [ixI_no hno]; omega)
  refine .yF (.faddr fo78_2 Z Z) Z Z h2 <| .yF (.load1 ag3 Z Z Z Z) Z Z h2 <| .yF (.faddr fo35_7 Z Z) Z Z h2 <| .yF (.load1 ag33 Z Z Z Z) Z Z h2 <| .yF (.len_ro (n := v.fields.length) ut33 Z (.inl Z) (by simp)) Z Z h2 ?_
  refine .yF (.igtr Z Z Z) Z Z h2 <| .p (.pickE Z Z h2 Z) <| .nil ?_
  have h3 : (decide (((v.fields.length : Nat) : Int) < ((n : Nat) : Int))) = false := decide_eq_false (by omega)
  refine .cF Z h3 <| .skip <| .seq <| .region <| .c1 (.buildEmpty 5 false ut33 sz72 Z) <| .p (.faddr fo35_7 Z Z) <| .p (.load1 ag33 Z Z Z Z) <| .p (.faddr fo78_2 Z Z) <| .p (.load1 ag3 Z Z Z Z) <| .p (.eqv (y := .ro 14 (encF (v.fields.take n))) (.slice_ro (i := 0) (j := n) ut33 sz72 Z Z Z ⟨_, _, Z, Z⟩ (by first | omega | (simp; done) | (simp; omega)) (by first | omega | (simp; done) | (simp; omega))) (congrArg (AV.ro 14) (encF_sl0 _ _ _ (by omega)))) ?_
  refine .c1 (.appendN (n2 := (0 + (v.fields.take n).length)) 6 el33 Z Z Z Z (.ro Z Z) (by simp only [encF_len, List.length_append, List.length_take, List.length_drop, List.length_cons, List.length_nil]; omega) (by simp only [encF_len, List.length_append, List.length_take, List.length_drop, List.length_cons, List.length_nil]; omega) (by first | rfl | (simp; done) | (simp; omega))) ?_
  refine .p (.assign Z Z) <| .nil <| .seq <| .region_p fol an50_11 (by kernel_rfl) Z ?_
  refine .p [] (.move Z Z) <| .p [] (.faddr fo75_1 Z Z) <| .p [1] (.load1 ag9 Z Z Z Z) <| .p [4] (.loadN ag35 sz35 Z Z Z (nl Z)) <| .p [] (.build Z zt72 Z pl72 Z Z) <| .c 8 [] (.buildSlice 7 true [([.S k] ++ encX x)] ut33 sz72 zt72 Z Z (by decide) (by decide) Z Z Z Z Z Z Z) ?_
  refine .c 9 [6, 7] (.appendN (n2 := ((0 + (v.fields.take n).length) + 1)) 8 el33 Z Z Z (by first | rfl | (simp; done) | (simp; omega)) (.sl Z Z (nl Z) (by simp)) (by simp only [encF_len, List.length_append, List.length_take, List.length_drop, List.length_cons, List.length_nil]; omega) (by simp only [encF_len, List.length_append, List.length_take, List.length_drop, List.length_cons, List.length_nil]; omega) (by first | rfl | (simp; done) | (simp; omega))) ?_
  refine .p [] (.faddr fo35_7 Z Z) <| .p [0] (.load1 ag33 Z Z Z Z) <| .p [] (.faddr fo78_2 Z Z) <| .p [2] (.load1 ag3 Z Z Z Z) <| .p [] (.eqv (y := .ro 14 (encF (v.fields.drop n))) (.slice_ro (i := n) (j := v.fields.length) ut33 sz72 Z Z ⟨_, _, Z, Z⟩ (show _ = _ from by simp) (by first | omega | (simp; done) | (simp; omega)) (by first | omega | (simp; done) | (simp; omega))) (congrArg (AV.ro 14) (encF_sl1 _ _ _ (by omega)))) ?_
  refine .c 10 [8] (.appendN (n2 := (((0 + (v.fields.take n).length) + 1) + (v.fields.drop n).length)) 9 el33 Z Z Z (by first | rfl | (simp; done) | (simp; omega)) (.ro Z Z) (by simp only [encF_len, List.length_append, List.length_take, List.length_drop, List.length_cons, List.length_nil]; omega) (by simp only [encF_len, List.length_append, List.length_take, List.length_drop, List.length_cons, List.length_nil]; omega) (by first | rfl | (simp; done) | (simp; omega))) ?_
  refine .p [] (.faddr fo35_7 Z Z) <| .c 10 [0] (.store sz33 Z Z Z Z (notup Z) Z Z (nl Z)) <| .nil (by kernel_rfl) ?_
  refine .ws 10 [(3, .P 0), (6, .P 3)] [(0, .box [.I v.kind, .B v.b, .B v.neg, .S v.digits, .I v.exp, .I v.tk, .I v.td, .I v.tn, .I v.tz, .S v.text, .ro 1 (encB v.bytes), .ro 13 (encL v.list), .sl 9 14 0 (((0 + (v.fields.take n).length) + 1) + (v.fields.drop n).length)]), (3, .box [.I 0, .B false, .B false, .S ⟨#[]⟩, .I 0, .I 0, .I 0, .I 0, .I 0, .S ⟨#[]⟩, .O, .O, .O]), (9, .arr false 14 ((([] ++ (encF (v.fields.take n))) ++ (([([.S k] ++ encX x)].drop 0).take 1)) ++ (encF (v.fields.drop n))))] <| .seq <| .region <| .p (.loadN ag35 sz35 Z Z Z (nl Z)) <| .c0 (.store sz35 Z Z Z Z (notup Z) Z Z (nl Z)) <| .p (.assign Z Z) <| .nil <| .ret ?_
  exact ⟨_, _, _, _, rfl, ALe.of false [] 0
      [(0, .tup [.agg (encX (insM' v k n x)), .B true])]
      []
      .nil
      (.cons rfl (.tupL (.cons (.aggL (.cons (.litE (by rfl)) (.cons (.litE (by rfl)) (.cons (.litE (by rfl)) (.cons (.litE (by rfl)) (.cons (.litE (by rfl)) (.cons (.litE (by rfl)) (.cons (.litE (by rfl)) (.cons (.litE (by rfl)) (.cons (.litE (by rfl)) (.cons (.litE (by rfl)) (.cons (.roE (by rfl)) (.cons (.roE (by rfl)) (.cons (.freezeR (els := ((([] ++ (encF (v.fields.take n))) ++ (([([.S k] ++ encX x)].drop 0).take 1)) ++ (encF (v.fields.drop n)))) (by first | (simp; done) | (simp; omega)) (by unfold insM'; simp [T.setF, T.fields, encF_append, encF, enc_eq])) .nil)))))))))))))) (.cons (.same rfl) .nil))) .nil)
      (by simp), rfl, rfl⟩

theorem remove_spec (v x : T) (k : ByteArray) (p : List Stp) (n : Nat) (hv : v.fields.length ≤ 100000) (h : ixM k v.fields = n) (hn : n < v.fields.length) : FSpec Tryz.prog 51 0 [.agg (encX v), .agg [.B false, .S k, .I 0], .agg ([.I 3, .ro 3 (rowsOf Stp.cells p), .N n] ++ encX x ++ [.I 0, .B false, .B false, .S ⟨#[]⟩, .I 0, .I 0, .I 0, .I 0, .I 0, .S ⟨#[]⟩, .ro 1 [], .ro 13 [], .ro 14 []])] (hpOf []) (fun r h => r = .tup [.agg (encX (remM v n)), .B true] ∧ h = hpOf []) := by
  refine FSpec.intro Tryz.func51 rfl (nl rfl) (nl rfl) fun s0 w0 hs0 hn0 => ?_
  refine .ws 0 [(0, .agg (encX v)), (1, .agg [.B false, .S k, .I 0]), (2, .agg ([.I 3, .ro 3 (rowsOf Stp.cells p), .N n] ++ encX x ++ [.I 0, .B false, .B false, .S ⟨#[]⟩, .I 0, .I 0, .I 0, .I 0, .I 0, .S ⟨#[]⟩, .ro 1 [], .ro 13 [], .ro 14 []]))] [] <| .seq <| .region <| .c1 (.box 0 Z Z (notup Z)) <| .c1 (.box 1 Z Z (notup Z)) <| .c1 (.box 2 Z Z (notup Z)) <| .c1 (.alloc 3 Z zt35 Z) <| .p (.assign Z Z) <| .nil <| .seq <| .seq <| .region ?_
  refine .p (.faddr fo75_0 Z Z) <| .p (.load1 ag4 Z Z Z Z) <| .nil <| .cF Z Z <| .skip <| .seq <| .region <| .p (.loadN ag35 sz35 Z Z Z (nl Z)) <| .p (.faddr fo75_1 Z Z) <| .p (.load1 ag9 Z Z Z Z) <| .p (.call0 [] false (index71n_spec v k n hv h hn) Tryz.func71 (hv := by exact (.cons (.aggL (.same Z)) (.cons (.same Z) .nil)))) ?_
  refine .p (.assign Z Z) <| .nil <| .seq <| .seq <| .region <| .p (.move Z Z) <| .p (.faddr fo78_2 Z Z) <| .p (.load1 ag3 Z Z Z Z) <| .p (.ineq Z Z Z) <| .nil ?_
  have h1 : (decide (((n : Nat) : Int) = ((n : Nat) : Int))) = true := decide_eq_true rfl
  refine .cF Z (bnot h1) <| .skip <| .seq <| .region_p fol an51_7 (by kernel_rfl) Z ?_
  refine .c 5 [] (.buildEmpty 4 false ut33 sz72 Z) <| .p [] (.faddr fo35_7 Z Z) <| .p [0] (.load1 ag33 Z Z Z Z) <| .p [] (.move Z Z) <| .p [] (.eqv (y := .ro 14 (encF (v.fields.take n))) (.slice_ro (i := 0) (j := n) ut33 sz72 Z Z Z ⟨_, _, Z, Z⟩ (by first | omega | (simp; done) | (simp; omega)) (by first | omega | (simp; done) | (simp; omega))) (congrArg (AV.ro 14) (encF_sl0 _ _ _ (by omega)))) ?_
  refine .c 6 [4] (.appendN (n2 := (0 + (v.fields.take n).length)) 5 el33 Z Z Z Z (.ro Z Z) (by simp only [encF_len, List.length_append, List.length_take, List.length_drop, List.length_cons, List.length_nil]; omega) (by simp only [encF_len, List.length_append, List.length_take, List.length_drop, List.length_cons, List.length_nil]; omega) (by first | rfl | (simp; done) | (simp; omega))) ?_
  refine .p [] (.faddr fo35_7 Z Z) <| .p [0] (.load1 ag33 Z Z Z Z) <| .p [] (.move Z Z) <| .p [] (.iadd (r := (((n + 1) : Nat) : Int)) Z Z Z (wi (by omega) (by first | rfl | omega | (simp; done)))) ?_
  refine .p [] (.eqv (y := .ro 14 (encF (v.fields.drop (n + 1)))) (.slice_ro (i := (n + 1)) (j := v.fields.length) ut33 sz72 Z Z ⟨_, _, Z, Z⟩ (show _ = _ from by simp) (by first | omega | (simp; done) | (simp; omega)) (by first | omega | (simp; done) | (simp; omega))) (congrArg (AV.ro 14) (encF_sl1 _ _ _ (by omega)))) ?_
  refine .c 7 [5] (.appendN (n2 := ((0 + (v.fields.take n).length) + (v.fields.drop (n + 1)).length)) 6 el33 Z Z Z (by first | rfl | (simp; done) | (simp; omega)) (.ro Z Z) (by simp only [encF_len, List.length_append, List.length_take, List.length_drop, List.length_cons, List.length_nil]; omega) (by simp only [encF_len, List.length_append, List.length_take, List.length_drop, List.length_cons, List.length_nil]; omega) (by first | rfl | (simp; done) | (simp; omega))) ?_
  refine .p [] (.faddr fo35_7 Z Z) <| .c 7 [0] (.store sz33 Z Z Z Z (notup Z) Z Z (nl Z)) <| .nil (by kernel_rfl) ?_
  refine .seq <| .region <| .p (.loadN ag35 sz35 Z Z Z (nl Z)) <| .c0 (.store sz35 Z Z Z Z (notup Z) Z Z (nl Z)) <| .p (.assign Z Z) <| .nil <| .ret ?_
  exact ⟨_, _, _, _, rfl, ALe.of false [] 0
      [(0, .tup [.agg (encX (remM v n)), .B true])]
      []
      .nil
      (.cons rfl (.tupL (.cons (.aggL (.cons (.litE (by rfl)) (.cons (.litE (by rfl)) (.cons (.litE (by rfl)) (.cons (.litE (by rfl)) (.cons (.litE (by rfl)) (.cons (.litE (by rfl)) (.cons (.litE (by rfl)) (.cons (.litE (by rfl)) (.cons (.litE (by rfl)) (.cons (.litE (by rfl)) (.cons (.roE (by rfl)) (.cons (.roE (by rfl)) (.cons (.freezeR (els := (([] ++ (encF (v.fields.take n))) ++ (encF (v.fields.drop (n + 1))))) (by first | (simp; done) | (simp; omega)) (by unfold remM; simp [T.setF, T.fields, encF_append])) .nil)))))))))))))) (.cons (.same rfl) .nil))) .nil)
      (by simp), rfl, rfl⟩

theorem apply1_spec (v o x y : T) (p : List Stp) (hv : vOK v) (h : pOK p) (ho : vOK o) (hx : vOK x) (hy : getM v p = some y) (hs : sameM 1000 y o = true) (hw : vOK (putM v p x)) : FSpec Tryz.prog 26 0 [.agg (encX v), .agg ([.I 1, .ro 3 (rowsOf Stp.cells p), .I 0] ++ encX o ++ encX x)] (hpOf []) (fun r h => r = .tup [.agg (encX (putM v p x)), .I 0] ∧ h = hpOf []) := by
  refine FSpec.intro Tryz.func26 rfl (nl rfl) (nl rfl) fun s0 w0 hs0 hn0 => ?_
  refine .ws 0 [(0, .agg (encX v)), (1, .agg ([.I 1, .ro 3 (rowsOf Stp.cells p), .I 0] ++ encX o ++ encX x))] [] <| .seq <| .region <| .c1 (.box 0 Z Z (notup Z)) <| .c1 (.box 1 Z Z (notup Z)) <| .c1 (.alloc 2 Z zt35 Z) <| .p (.assign Z Z) <| .nil <| .seq <| .seq <| .region <| .p (.faddr fo78_0 Z Z) ?_
  refine .p (.load1 ag3 Z Z Z Z) <| .p (.call0 [] false (hasOld1_spec ) Tryz.func42 (hv := by exact (.same Z))) ?_
  refine .nil <| .cT Z Z <| .seq <| .region <| .p (.loadN ag35 sz35 Z Z Z (nl Z)) <| .p (.faddr fo78_1 Z Z) <| .p (.load1 ag76 Z Z Z Z) <| .p (.call0 [] false (Get_spec v y p h hv.fit hy) Tryz.func48 (hv := by exact (.cons (.aggL (.same Z)) (.cons (.same Z) .nil)))) ?_
  refine .p (.move Z Z) <| .p (.extract Z Z Z) <| .p (.extract Z Z Z) <| .c1 (.alloc 3 Z zt35 Z) <| .c0 (.store sz35 Z Z Z Z (notup Z) Z Z (nl Z)) <| .p (.assign Z Z) <| .nil <| .seq <| .region <| .p (.move Z Z) <| .p ((AOp.ineq Z Z Z).lb Z) <| .p (.move Z Z) ?_
  refine .yF (.loadN ag35 sz35 Z Z Z (nl Z)) Z Z (Eq.refl false) <| .yF (.faddr fo78_3 Z Z) Z Z (Eq.refl false) <| .yF (.loadN ag35 sz35 Z Z Z (nl Z)) Z Z (Eq.refl false) <| .yF (.call0 [] false (Equal_spec y o (getM_fit hv.fit hy) ho.fit) Tryz.func30 (hv := by exact (.cons (.aggL (.cons (.same Z) (.cons (.same Z) (.cons (.same Z) (.cons (.same Z) (.cons (.same Z) (.cons (.same Z) (.cons (.same Z) (.cons (.same Z) (.cons (.same Z) (.cons (.same Z) (.cons .fr (.cons .fr (.cons .fr .nil)))))))))))))) (.cons (.aggL (.same Z)) .nil)))) Z Z (Eq.refl false) ?_
  refine .yF (.not Z Z) Z Z (Eq.refl false) <| .p (.pick Z Z Z) <| .nil ?_
  have h1 : (sameM 1000 y o) = true := hs
  refine .cF Z (bnot h1) <| .skip <| .seq <| .seq <| .region <| .p (.faddr fo78_0 Z Z) <| .p (.load1 ag3 Z Z Z Z) <| .nil <| .block <| .seq <| .region <| .p ((AOp.ieql Z Z Z).lb Z) ?_
  refine .p (.assign Z Z) <| .nil <| .cF Z Z <| .seq <| .region <| .p ((AOp.ieql Z Z Z).lb Z) <| .p (.assign Z Z) <| .nil <| .cT Z Z <| .region_p fol an26_20 (by kernel_rfl) Z ?_
  refine .p [0] (.loadN ag35 sz35 Z Z Z (nl Z)) <| .p [] (.faddr fo78_1 Z Z) <| .p [1] (.load1 ag76 Z Z Z Z) <| .p [] (.faddr fo78_4 Z Z) <| .p [1] (.loadN ag35 sz35 Z Z Z (nl Z)) <| .p [] (.call0 [] false (Copy_spec x hx.fit) Tryz.func27 (hv := by exact (.cons (.aggL (.same Z)) .nil))) ?_
  refine .p [] (.call0 [] false (put_spec p v x h hv.fit) Tryz.func49 (hv := by exact (.cons (.aggL (.same Z)) (.cons (.same Z) (.cons (.aggL (.cons (.same Z) (.cons (.same Z) (.cons (.same Z) (.cons (.same Z) (.cons (.same Z) (.cons (.same Z) (.cons (.same Z) (.cons (.same Z) (.cons (.same Z) (.cons (.same Z) (.cons .fr (.cons .fr (.cons .fr .nil)))))))))))))) .nil))))) ?_
  refine .c 4 [0] (.store sz35 Z Z Z Z (notup Z) Z Z (nl Z)) <| .nil (by kernel_rfl) ?_
  refine .ws 4 [(2, .P 0), (4, .P 2)] [(0, .box (encX (putM v p x))), (2, .box [.I 0, .B false, .B false, .S ⟨#[]⟩, .I 0, .I 0, .I 0, .I 0, .I 0, .S ⟨#[]⟩, .O, .O, .O])] <| .seq <| .region_p fol an26_21 (by kernel_rfl) Z ?_
  refine .p [0] (.loadN ag35 sz35 Z Z Z (nl Z)) <| .p [0] (.loadN ag35 sz35 Z Z Z (nl Z)) <| .p [] (.call0 [] false (Check_spec 8 (putM v p x) hw.1 (by omega) hw.2) Tryz.func47 (hv := by exact (.cons (.aggL (.same Z)) .nil))) ?_
  refine .c 4 [2] (.store sz35 Z Z Z Z (notup Z) Z Z (nl Z)) <| .p [] (.assign Z Z) <| .nil (by kernel_rfl) ?_
  refine .ret ?_
  exact ⟨_, _, _, _, rfl, ALe.s (l := [(0, .tup [.agg (encX (putM v p x)), .I 0])]) (m := []) (nx' := 0), rfl, rfl⟩

theorem apply2_spec (v x : T) (k : ByteArray) (n : Nat) (hv : vOK v) (hkk : kOK k) (hx : vOK x) (hk : v.kind = 7) (hno : ¬ ixM k v.fields < v.fields.length) (hn : n ≤ v.fields.length) (hw : vOK (insM' v k n x)) : FSpec Tryz.prog 26 0 [.agg (encX v), .agg ([.I 2, .ro 3 [[.B false, .S k, .I 0]], .N n, .I 0, .B false, .B false, .S ⟨#[]⟩, .I 0, .I 0, .I 0, .I 0, .I 0, .S ⟨#[]⟩, .ro 1 [], .ro 13 [], .ro 14 []] ++ encX x)] (hpOf []) (fun r h => r = .tup [.agg (encX (insM' v k n x)), .I 0] ∧ h = hpOf []) := by
  refine FSpec.intro Tryz.func26 rfl (nl rfl) (nl rfl) fun s0 w0 hs0 hn0 => ?_
  refine .ws 0 [(0, .agg (encX v)), (1, .agg ([.I 2, .ro 3 [[.B false, .S k, .I 0]], .N n, .I 0, .B false, .B false, .S ⟨#[]⟩, .I 0, .I 0, .I 0, .I 0, .I 0, .S ⟨#[]⟩, .ro 1 [], .ro 13 [], .ro 14 []] ++ encX x))] [] <| .seq <| .region <| .c1 (.box 0 Z Z (notup Z)) <| .c1 (.box 1 Z Z (notup Z)) <| .c1 (.alloc 2 Z zt35 Z) <| .p (.assign Z Z) <| .nil <| .seq <| .seq <| .region <| .p (.faddr fo78_0 Z Z) ?_
  refine .p (.load1 ag3 Z Z Z Z) <| .p (.call0 [] false (hasOld2_spec ) Tryz.func42 (hv := by exact (.same Z))) ?_
  refine .nil <| .cF Z Z <| .skip <| .seq <| .seq <| .region <| .p (.faddr fo78_0 Z Z) <| .p (.load1 ag3 Z Z Z Z) <| .nil <| .block <| .seq <| .region ?_
  refine .p ((AOp.ieql Z Z Z).lb Z) <| .p (.assign Z Z) <| .nil <| .cF Z Z <| .seq <| .region <| .p ((AOp.ieql Z Z Z).lb Z) <| .p (.assign Z Z) <| .nil <| .cF Z Z <| .seq <| .region ?_
  refine .p (.faddr fo78_1 Z Z) <| .p (.load1 ag76 Z Z Z Z) <| .p (.len_ro (n := 1) ut76 Z (.inl Z) Z) <| .p (.isub (r := 0) Z Z Z Z) <| .p (.assign Z Z) <| .nil <| .seq <| .region_p fol an26_7 (by kernel_rfl) Z ?_
  refine .p [0] (.loadN ag35 sz35 Z Z Z (nl Z)) <| .p [] (.faddr fo78_1 Z Z) <| .p [1] (.load1 ag76 Z Z Z Z) <| .p [] (.move Z Z) <| .p [] (.eqv (y := .ro 3 (rowsOf Stp.cells [])) (.slice_ro (i := 0) (j := 0) ut76 sz75 Z Z Z ⟨_, _, Z, Z⟩ (by omega) (by first | omega | (simp; done) | (simp; omega))) (congrArg (AV.ro 3) Z)) ?_
  refine .p [] (.call0 [] false (Get_spec v v [] pOK_nil hv.fit Z) Tryz.func48 (hv := by exact (.cons (.aggL (.same Z)) (.cons (.same Z) .nil)))) ?_
  refine .p [] (.move Z Z) <| .p [] (.extract Z Z Z) <| .p [] (.extract Z Z Z) <| .c 4 [] (.alloc 3 Z zt35 Z) <| .c 4 [3] (.store sz35 Z Z Z Z (notup Z) Z Z (nl Z)) <| .p [] (.assign Z Z) <| .nil (by kernel_rfl) ?_
  refine .seq <| .seq <| .region <| .p (.move Z Z) <| .p ((AOp.ineq Z Z Z).lb Z) <| .nil <| .cF Z Z <| .skip <| .seq <| .region <| .p (.assign Z Z) <| .nil ?_
  refine .seq <| .seq <| .region <| .p (.faddr fo78_0 Z Z) <| .p (.load1 ag3 Z Z Z Z) <| .p ((AOp.ieql Z Z Z).lb Z) <| .nil <| .cT Z Z <| .region_p fol an26_12 (by kernel_rfl) Z ?_
  refine .p [3] (.loadN ag35 sz35 Z Z Z (nl Z)) <| .p [] (.faddr fo78_1 Z Z) <| .p [1] (.load1 ag76 Z Z Z Z) <| .p [] (.move Z Z) <| .p [] (.iaddr_ro (row := [.B false, .S k, .I 0]) ut76 sz75 Z Z Z Z Z) <| .p [] (.rloadN ag75 sz75 Z Z (nl Z)) <| .p [1] (.loadN ag78 sz78 Z Z Z (nl Z)) <| .p [] (.call0 [] false (insert_spec v x k [⟨false, k, 0⟩] n hv.fit.2.2.1 hx.fit hk hno hn) Tryz.func50 (hv := by exact (.cons (.aggL (.cons (.same Z) (.cons (.same Z) (.cons (.same Z) (.cons (.same Z) (.cons (.same Z) (.cons (.same Z) (.cons (.same Z) (.cons (.same Z) (.cons (.same Z) (.cons (.same Z) (.cons .fr (.cons .fr (.cons .fr .nil)))))))))))))) (.cons (.aggL (.same Z)) (.cons (.aggL (.cons (.same Z) (.cons (.same Z) (.cons (.same Z) (.cons (.same Z) (.cons (.same Z) (.cons (.same Z) (.cons (.same Z) (.cons (.same Z) (.cons (.same Z) (.cons (.same Z) (.cons (.same Z) (.cons (.same Z) (.cons (.same Z) (.cons (.same Z) (.cons (.same Z) (.cons (.same Z) (.cons (.same Z) (.cons (.same Z) (.cons (.same Z) (.cons (.same Z) (.cons (.same Z) (.cons (.same Z) (.cons (.same Z) (.cons (.same Z) (.cons (.same Z) (.cons (.same Z) (.cons (.same Z) (.cons (.same Z) (.cons (.same Z) .nil)))))))))))))))))))))))))))))) .nil))))) ?_
  refine .p [] (.move Z Z) <| .p [] (.extract Z Z Z) <| .p [] (.extract Z Z Z) <| .c 4 [3] (.store sz35 Z Z Z Z (notup Z) Z Z (nl Z)) <| .p [] (.assign Z Z) <| .nil (by kernel_rfl) ?_
  refine .ws 4 [(2, .P 0), (3, .P 1), (4, .P 2), (8, .I 0), (9, .P 3), (11, .B true)] [(0, .box (encX v)), (1, .box ([.I 2, .ro 3 [[.B false, .S k, .I 0]], .N n, .I 0, .B false, .B false, .S ⟨#[]⟩, .I 0, .I 0, .I 0, .I 0, .I 0, .S ⟨#[]⟩, .ro 1 [], .ro 13 [], .ro 14 []] ++ encX x)), (2, .box [.I 0, .B false, .B false, .S ⟨#[]⟩, .I 0, .I 0, .I 0, .I 0, .I 0, .S ⟨#[]⟩, .O, .O, .O]), (3, .box (encX (insM' v k n x)))] <| .seq <| .seq <| .region <| .p (.move Z Z) <| .p (.not Z Z) <| .nil <| .cF Z Z <| .skip <| .region_p fol an26_16 (by kernel_rfl) Z ?_
  refine .p [0] (.loadN ag35 sz35 Z Z Z (nl Z)) <| .p [] (.faddr fo78_1 Z Z) <| .p [1] (.load1 ag76 Z Z Z Z) <| .p [] (.move Z Z) <| .p [] (.eqv (y := .ro 3 (rowsOf Stp.cells [])) (.slice_ro (i := 0) (j := 0) ut76 sz75 Z Z Z ⟨_, _, Z, Z⟩ (by omega) (by first | omega | (simp; done) | (simp; omega))) (congrArg (AV.ro 3) Z)) ?_
  refine .p [3] (.loadN ag35 sz35 Z Z Z (nl Z)) <| .p [] (.call0 [] false (putN_spec v (insM' v k n x)) Tryz.func49 (hv := by exact (.cons (.aggL (.same Z)) (.cons (.same Z) (.cons (.aggL (.same Z)) .nil))))) ?_
  refine .c 4 [0] (.store sz35 Z Z Z Z (notup Z) Z Z (nl Z)) <| .nil (by kernel_rfl) ?_
  refine .seq <| .region_p fol an26_21 (by kernel_rfl) Z ?_
  refine .p [0] (.loadN ag35 sz35 Z Z Z (nl Z)) <| .p [0] (.loadN ag35 sz35 Z Z Z (nl Z)) <| .p [] (.call0 [] false (Check_spec 8 (insM' v k n x) hw.1 (by omega) hw.2) Tryz.func47 (hv := by exact (.cons (.aggL (.same Z)) .nil))) ?_
  refine .c 4 [2] (.store sz35 Z Z Z Z (notup Z) Z Z (nl Z)) <| .p [] (.assign Z Z) <| .nil (by kernel_rfl) ?_
  refine .ret ?_
  exact ⟨_, _, _, _, rfl, ALe.s (l := [(0, .tup [.agg (encX (insM' v k n x)), .I 0])]) (m := []) (nx' := 0), rfl, rfl⟩

theorem apply3_spec (v o : T) (k : ByteArray) (n : Nat) (hv : vOK v) (hkk : kOK k) (ho : vOK o) (hk : v.kind = 7) (hn : n < v.fields.length) (h : ixM k v.fields = n) (hs : sameM 1000 (nthF v.fields n).2 o = true) (hw : vOK (remM v n)) : FSpec Tryz.prog 26 0 [.agg (encX v), .agg ([.I 3, .ro 3 [[.B false, .S k, .I 0]], .N n] ++ encX o ++ [.I 0, .B false, .B false, .S ⟨#[]⟩, .I 0, .I 0, .I 0, .I 0, .I 0, .S ⟨#[]⟩, .ro 1 [], .ro 13 [], .ro 14 []])] (hpOf []) (fun r h => r = .tup [.agg (encX (remM v n)), .I 0] ∧ h = hpOf []) := by
  refine FSpec.intro Tryz.func26 rfl (nl rfl) (nl rfl) fun s0 w0 hs0 hn0 => ?_
  refine .ws 0 [(0, .agg (encX v)), (1, .agg ([.I 3, .ro 3 [[.B false, .S k, .I 0]], .N n] ++ encX o ++ [.I 0, .B false, .B false, .S ⟨#[]⟩, .I 0, .I 0, .I 0, .I 0, .I 0, .S ⟨#[]⟩, .ro 1 [], .ro 13 [], .ro 14 []]))] [] <| .seq <| .region <| .c1 (.box 0 Z Z (notup Z)) <| .c1 (.box 1 Z Z (notup Z)) <| .c1 (.alloc 2 Z zt35 Z) <| .p (.assign Z Z) <| .nil <| .seq <| .seq <| .region <| .p (.faddr fo78_0 Z Z) ?_
  refine .p (.load1 ag3 Z Z Z Z) <| .p (.call0 [] false (hasOld3_spec ) Tryz.func42 (hv := by exact (.same Z))) ?_
  refine .nil <| .cT Z Z <| .seq <| .region <| .p (.loadN ag35 sz35 Z Z Z (nl Z)) <| .p (.faddr fo78_1 Z Z) <| .p (.load1 ag76 Z Z Z Z) <| .p (.call0 [] false (Get_spec v (nthF v.fields n).2 [⟨false, k, 0⟩] (pOK_one hkk) hv.fit (by subst h; simp [getM, hk, hn])) Tryz.func48 (hv := by exact (.cons (.aggL (.same Z)) (.cons (.same Z) .nil)))) ?_
  refine .p (.move Z Z) <| .p (.extract Z Z Z) <| .p (.extract Z Z Z) <| .c1 (.alloc 3 Z zt35 Z) <| .c0 (.store sz35 Z Z Z Z (notup Z) Z Z (nl Z)) <| .p (.assign Z Z) <| .nil <| .seq <| .region <| .p (.move Z Z) <| .p ((AOp.ineq Z Z Z).lb Z) <| .p (.move Z Z) ?_
  refine .yF (.loadN ag35 sz35 Z Z Z (nl Z)) Z Z (Eq.refl false) <| .yF (.faddr fo78_3 Z Z) Z Z (Eq.refl false) <| .yF (.loadN ag35 sz35 Z Z Z (nl Z)) Z Z (Eq.refl false) <| .yF (.call0 [] false (Equal_spec (nthF v.fields n).2 o (fit_field hv.fit (nthF_mem hn)) ho.fit) Tryz.func30 (hv := by exact (.cons (.aggL (.cons (.same Z) (.cons (.same Z) (.cons (.same Z) (.cons (.same Z) (.cons (.same Z) (.cons (.same Z) (.cons (.same Z) (.cons (.same Z) (.cons (.same Z) (.cons (.same Z) (.cons .fr (.cons .fr (.cons .fr .nil)))))))))))))) (.cons (.aggL (.same Z)) .nil)))) Z Z (Eq.refl false) ?_
  refine .yF (.not Z Z) Z Z (Eq.refl false) <| .p (.pick Z Z Z) <| .nil ?_
  have h1 : (sameM 1000 (nthF v.fields n).2 o) = true := hs
  refine .cF Z (bnot h1) <| .skip <| .seq <| .seq <| .region <| .p (.faddr fo78_0 Z Z) <| .p (.load1 ag3 Z Z Z Z) <| .nil <| .block <| .seq <| .region <| .p ((AOp.ieql Z Z Z).lb Z) ?_
  refine .p (.assign Z Z) <| .nil <| .cF Z Z <| .seq <| .region <| .p ((AOp.ieql Z Z Z).lb Z) <| .p (.assign Z Z) <| .nil <| .cF Z Z <| .seq <| .region <| .p (.faddr fo78_1 Z Z) ?_
  refine .p (.load1 ag76 Z Z Z Z) <| .p (.len_ro (n := 1) ut76 Z (.inl Z) Z) <| .p (.isub (r := 0) Z Z Z Z) <| .p (.assign Z Z) <| .nil <| .seq <| .region_p fol an26_7 (by kernel_rfl) Z ?_
  refine .p [0] (.loadN ag35 sz35 Z Z Z (nl Z)) <| .p [] (.faddr fo78_1 Z Z) <| .p [1] (.load1 ag76 Z Z Z Z) <| .p [] (.move Z Z) <| .p [] (.eqv (y := .ro 3 (rowsOf Stp.cells [])) (.slice_ro (i := 0) (j := 0) ut76 sz75 Z Z Z ⟨_, _, Z, Z⟩ (by omega) (by first | omega | (simp; done) | (simp; omega))) (congrArg (AV.ro 3) Z)) ?_
  refine .p [] (.call0 [] false (Get_spec v v [] pOK_nil hv.fit Z) Tryz.func48 (hv := by exact (.cons (.aggL (.same Z)) (.cons (.same Z) .nil)))) ?_
  refine .p [] (.move Z Z) <| .p [] (.extract Z Z Z) <| .p [] (.extract Z Z Z) <| .c 5 [] (.alloc 4 Z zt35 Z) <| .c 5 [4] (.store sz35 Z Z Z Z (notup Z) Z Z (nl Z)) <| .p [] (.assign Z Z) <| .nil (by kernel_rfl) ?_
  refine .ws 5 [(2, .P 0), (3, .P 1), (4, .P 2), (8, .I 0), (9, .P 4), (10, .I 0)] [(0, .box (encX v)), (1, .box ([.I 3, .ro 3 [[.B false, .S k, .I 0]], .N n] ++ encX o ++ [.I 0, .B false, .B false, .S ⟨#[]⟩, .I 0, .I 0, .I 0, .I 0, .I 0, .S ⟨#[]⟩, .ro 1 [], .ro 13 [], .ro 14 []])), (2, .box [.I 0, .B false, .B false, .S ⟨#[]⟩, .I 0, .I 0, .I 0, .I 0, .I 0, .S ⟨#[]⟩, .O, .O, .O]), (4, .box (encFr v))] <| .seq <| .seq <| .region <| .p (.move Z Z) <| .p ((AOp.ineq Z Z Z).lb Z) <| .nil <| .cF Z Z <| .skip <| .seq <| .region <| .p (.assign Z Z) ?_
  refine .nil <| .seq <| .seq <| .region <| .p (.faddr fo78_0 Z Z) <| .p (.load1 ag3 Z Z Z Z) <| .p ((AOp.ieql Z Z Z).lb Z) <| .nil <| .cF Z Z <| .region_p fol an26_13 (by kernel_rfl) Z ?_
  refine .p [4] (.loadN ag35 sz35 Z Z Z (nl Z)) <| .p [] (.faddr fo78_1 Z Z) <| .p [1] (.load1 ag76 Z Z Z Z) <| .p [] (.move Z Z) <| .p [] (.iaddr_ro (row := [.B false, .S k, .I 0]) ut76 sz75 Z Z Z Z Z) <| .p [] (.rloadN ag75 sz75 Z Z (nl Z)) <| .p [1] (.loadN ag78 sz78 Z Z Z (nl Z)) <| .p [] (.call0 [] false (remove_spec v o k [⟨false, k, 0⟩] n hv.fit.2.2.1 h hn) Tryz.func51 (hv := by exact (.cons (.aggL (.cons (.same Z) (.cons (.same Z) (.cons (.same Z) (.cons (.same Z) (.cons (.same Z) (.cons (.same Z) (.cons (.same Z) (.cons (.same Z) (.cons (.same Z) (.cons (.same Z) (.cons .fr (.cons .fr (.cons .fr .nil)))))))))))))) (.cons (.aggL (.same Z)) (.cons (.aggL (.cons (.same Z) (.cons (.same Z) (.cons (.same Z) (.cons (.same Z) (.cons (.same Z) (.cons (.same Z) (.cons (.same Z) (.cons (.same Z) (.cons (.same Z) (.cons (.same Z) (.cons (.same Z) (.cons (.same Z) (.cons (.same Z) (.cons (.same Z) (.cons (.same Z) (.cons (.same Z) (.cons (.same Z) (.cons (.same Z) (.cons (.same Z) (.cons (.same Z) (.cons (.same Z) (.cons (.same Z) (.cons (.same Z) (.cons (.same Z) (.cons (.same Z) (.cons (.same Z) (.cons (.same Z) (.cons (.same Z) (.cons (.same Z) .nil)))))))))))))))))))))))))))))) .nil))))) ?_
  refine .p [] (.move Z Z) <| .p [] (.extract Z Z Z) <| .p [] (.extract Z Z Z) <| .c 5 [4] (.store sz35 Z Z Z Z (notup Z) Z Z (nl Z)) <| .p [] (.assign Z Z) <| .nil (by kernel_rfl) ?_
  refine .seq <| .seq <| .region <| .p (.move Z Z) <| .p (.not Z Z) <| .nil <| .cF Z Z <| .skip <| .region_p fol an26_16 (by kernel_rfl) Z ?_
  refine .p [0] (.loadN ag35 sz35 Z Z Z (nl Z)) <| .p [] (.faddr fo78_1 Z Z) <| .p [1] (.load1 ag76 Z Z Z Z) <| .p [] (.move Z Z) <| .p [] (.eqv (y := .ro 3 (rowsOf Stp.cells [])) (.slice_ro (i := 0) (j := 0) ut76 sz75 Z Z Z ⟨_, _, Z, Z⟩ (by omega) (by first | omega | (simp; done) | (simp; omega))) (congrArg (AV.ro 3) Z)) ?_
  refine .p [4] (.loadN ag35 sz35 Z Z Z (nl Z)) <| .p [] (.call0 [] false (putN_spec v (remM v n)) Tryz.func49 (hv := by exact (.cons (.aggL (.same Z)) (.cons (.same Z) (.cons (.aggL (.same Z)) .nil))))) ?_
  refine .c 5 [0] (.store sz35 Z Z Z Z (notup Z) Z Z (nl Z)) <| .nil (by kernel_rfl) ?_
  refine .seq <| .region_p fol an26_21 (by kernel_rfl) Z ?_
  refine .p [0] (.loadN ag35 sz35 Z Z Z (nl Z)) <| .p [0] (.loadN ag35 sz35 Z Z Z (nl Z)) <| .p [] (.call0 [] false (Check_spec 8 (remM v n) hw.1 (by omega) hw.2) Tryz.func47 (hv := by exact (.cons (.aggL (.same Z)) .nil))) ?_
  refine .c 5 [2] (.store sz35 Z Z Z Z (notup Z) Z Z (nl Z)) <| .p [] (.assign Z Z) <| .nil (by kernel_rfl) ?_
  refine .ret ?_
  exact ⟨_, _, _, _, rfl, ALe.s (l := [(0, .tup [.agg (encX (remM v n)), .I 0])]) (m := []) (nx' := 0), rfl, rfl⟩
end Go.Abs
namespace Go.Abs
open Go.Proofs
set_option maxRecDepth 100000
set_option maxHeartbeats 8000000


theorem one_any {v : T} {c : Chg} (h : stepOK v c) : FSpec Tryz.prog 25 0 [.agg ([.I c.op, .ro 3 (rowsOf Stp.cells c.path), .I c.pos] ++ encX c.old ++ encX c.new)] (hpOf []) (fun r h => r = .I 0 ∧ h = hpOf []) := by
  obtain ⟨op, p, pos, o, x⟩ := c
  obtain ⟨_, _, (⟨h1, h2, h3, h4, h5, _⟩ | ⟨h1, h2, h3, _, k, n, h4, h5, h6, h7, _⟩ | ⟨h1, h2, h3, _, k, n, h4, h5, h6, h7, _⟩)⟩ := h
  · dsimp only at h1 h2 h3 h4 h5; subst h1; subst h2; exact one1_spec p o x h3 h4 h5
  · dsimp only at h1 h2 h3 h4 h5 h6 h7; subst h1; subst h2; subst h4; subst h6; exact one2_spec _ _ x (pOK_one h5) (by simp) (by dsimp only; omega) (by dsimp only; omega) h3
  · dsimp only at h1 h2 h3 h4 h5 h6 h7; subst h1; subst h2; subst h4; subst h6; exact one3_spec _ _ o (pOK_one h5) (by simp) (by dsimp only; omega) (by dsimp only; omega) h3

theorem apply_any {v : T} {c : Chg} (h : stepOK v c) : FSpec Tryz.prog 26 0 [.agg (encX v), .agg ([.I c.op, .ro 3 (rowsOf Stp.cells c.path), .I c.pos] ++ encX c.old ++ encX c.new)] (hpOf []) (fun r h => r = .tup [.agg (encX (applyM v c)), .I 0] ∧ h = hpOf []) := by
  obtain ⟨op, p, pos, o, x⟩ := c
  obtain ⟨hv, hw, (⟨h1, h2, h3, h4, h5, y, h6, h7⟩ | ⟨h1, h2, h3, hk, k, n, h4, h5, h6, h7, h8, h9⟩ | ⟨h1, h2, h3, hk, k, n, h4, h5, h6, h7, h8, h9, h10⟩)⟩ := h
  · dsimp only at h1 h2 h3 h4 h5 h6 h7; subst h1; subst h2; exact apply1_spec v o x y p hv h3 h4 h5 h6 h7 hw
  · dsimp only at h1 h2 h3 h4 h5 h6 h7; subst h1; subst h2; subst h4; subst h6; exact apply2_spec v x k n hv h5 h3 hk h9 h8 hw
  · dsimp only at h1 h2 h3 h4 h5 h6 h7 h10; subst h1; subst h2; subst h4; subst h6; exact apply3_spec v o k n hv h5 h3 hk h8 h9 h10 hw

theorem Apply_spec (v : T) (l : List Chg) (hl : l.length ≤ 4096) (hv : vOK v) (hr : runOK v l) : FSpec Tryz.prog 8 0 [.agg (encX v), .ro 29 (rowsOf Chg.cells l)] (hpOf []) (fun r h => r = .tup [.agg (encFr (runM v l)), .I 0, .I 0] ∧ h = hpOf []) := by
  refine FSpec.intro Tryz.func8 rfl (nl rfl) (nl rfl) fun s0 w0 hs0 hn0 => ?_
  refine .ws 0 [(0, .agg (encX v)), (1, .ro 29 (rowsOf Chg.cells l))] [] <| .seq <| .region <| .c1 (.box 0 Z Z (notup Z)) <| .c1 (.alloc 1 Z zt35 Z) <| .p (.assign Z Z) <| .p (.assign Z Z) <| .nil <| .seq <| .seq <| .region <| .p (.move Z Z) ?_
  refine .p (.len_ro (n := l.length) ut38 Z (.inl Z) (by simp)) ?_
  refine .p (.igtr Z Z Z) <| .nil ?_
  have h1 : (decide (4096 < ((l.length : Nat) : Int))) = false := decide_eq_false (by first | omega | (simp only [List.length_take, List.length_drop]; omega))
  refine .cF Z h1 <| .skip <| .seq <| .seq <| .region <| .p (.move Z Z) <| .p (.len_ro (n := l.length) ut38 Z (.inl Z) (by simp)) ?_
  refine .p (.move Z Z) <| .nil <| .block ?_
  refine AWP.loop (G := { g : Nat // g ≤ l.length }) (fun g => envOf [(1, .ro 29 (rowsOf Chg.cells l)), (2, .P 0), (4, .P 1), (18, .ro 29 (rowsOf Chg.cells l)), (19, .N l.length), (20, .N g.1)]) (fun g => hpOf [(0, .box (encX v)), (1, .box [.I 0, .B false, .B false, .S ⟨#[]⟩, .I 0, .I 0, .I 0, .I 0, .I 0, .S ⟨#[]⟩, .O, .O, .O])]) (fun _ => 2) (fun g => l.length - g.1) ⟨(0), Nat.zero_le _⟩ ALe.s ?_
  rintro ⟨i, hg⟩
  try dsimp only at hg
  refine .ws 2 [(1, .ro 29 (rowsOf Chg.cells l)), (2, .P 0), (4, .P 1), (18, .ro 29 (rowsOf Chg.cells l)), (19, .N l.length), (20, .N i)] [(0, .box (encX v)), (1, .box [.I 0, .B false, .B false, .S ⟨#[]⟩, .I 0, .I 0, .I 0, .I 0, .I 0, .S ⟨#[]⟩, .O, .O, .O])] <| .seq <| .region <| .p (.ilss Z Z Z) <| .nil <| .seq ?_
  by_cases p3 : ((i : Nat) : Int) < ((l.length : Nat) : Int)
  have h2 := decide_eq_true p3
  refine .cT Z h2 <| .skip <| .seq <| .block <| .seq <| .region <| .p (.move Z Z) <| .p (.iaddr_ro (row := ([.I ((nthG l i).op), .ro 3 (rowsOf Stp.cells (nthG l i).path), .I ((nthG l i).pos)] ++ encX (nthG l i).old ++ encX (nthG l i).new)) ut38 sz78 Z Z Z Z (rows_nth (f := Chg.cells) (by omega))) ?_
  refine .p (.rloadN ag78 sz78 Z Z (nl Z)) <| .c1 (.alloc 2 Z zt78 Z) <| .p (.assign Z Z) <| .c0 (.store sz78 Z Z Z Z (notup Z) Z Z (nl Z)) <| .nil <| .seq <| .region <| .p (.loadN ag78 sz78 Z Z Z (nl Z)) <| .p (.call0 [] false (one_any (run_at hr (i := i) (by omega)).1) Tryz.func25 (hv := by exact (.cons (.aggL (.same Z)) .nil))) ?_
  refine .p (.assign Z Z) <| .nil <| .seq <| .region <| .p (.move Z Z) <| .p ((AOp.ineq Z Z Z).lb Z) <| .nil <| .cF Z Z <| .skip <| .region <| .p (.iadd (r := (((i + 1) : Nat) : Int)) Z Z Z (wi (by omega) (by first | rfl | omega | (simp; done)))) ?_
  refine .p (.move Z Z) <| .nil ?_
  exact ⟨⟨((i + 1)), (by show i + 1 ≤ _; omega)⟩, (by simp; omega), ALe.s⟩
  have h2 := decide_eq_false p3
  refine .cF Z h2 <| .exit <| .seq <| .seq <| .region <| .p (.move Z Z) <| .p (.len_ro (n := l.length) ut38 Z (.inl Z) (by simp)) ?_
  refine .p (.move Z Z) <| .nil <| .block ?_
  refine AWP.loop (G := { g : Nat // g ≤ l.length }) (fun g => envOf [(2, .P 0), (4, .P 1), (33, .ro 29 (rowsOf Chg.cells l)), (34, .N l.length), (35, .N g.1)]) (fun g => hpOf [(0, .box (encX (runM v (l.take g.1)))), (1, .box [.I 0, .B false, .B false, .S ⟨#[]⟩, .I 0, .I 0, .I 0, .I 0, .I 0, .S ⟨#[]⟩, .O, .O, .O])]) (fun _ => 2) (fun g => l.length - g.1) ⟨(0), Nat.zero_le _⟩ (ALe.of false [] 2
      _
      _
      (.cons rfl (.boxL (.cons (.litE (by rfl)) (.cons (.litE (by rfl)) (.cons (.litE (by rfl)) (.cons (.litE (by rfl)) (.cons (.litE (by rfl)) (.cons (.litE (by rfl)) (.cons (.litE (by rfl)) (.cons (.litE (by rfl)) (.cons (.litE (by rfl)) (.cons (.litE (by rfl)) (.cons (.roE (by rfl)) (.cons (.roE (by rfl)) (.cons (.roE (by rfl)) .nil)))))))))))))) (.cons rfl (.boxS rfl) .nil))
      (.cons rfl .ptrR (.cons rfl .ptrR (.s (.s (.s .nil)))))
      (by simp)) ?_
  rintro ⟨j, hg⟩
  try dsimp only at hg
  refine .ws 2 [(2, .P 0), (4, .P 1), (33, .ro 29 (rowsOf Chg.cells l)), (34, .N l.length), (35, .N j)] [(0, .box (encX (runM v (l.take j)))), (1, .box [.I 0, .B false, .B false, .S ⟨#[]⟩, .I 0, .I 0, .I 0, .I 0, .I 0, .S ⟨#[]⟩, .O, .O, .O])] <| .seq <| .region <| .p (.ilss Z Z Z) <| .nil <| .seq ?_
  by_cases p5 : ((j : Nat) : Int) < ((l.length : Nat) : Int)
  have h4 := decide_eq_true p5
  refine .cT Z h4 <| .skip <| .seq <| .block <| .seq <| .region <| .p (.move Z Z) <| .p (.iaddr_ro (row := ([.I ((nthG l j).op), .ro 3 (rowsOf Stp.cells (nthG l j).path), .I ((nthG l j).pos)] ++ encX (nthG l j).old ++ encX (nthG l j).new)) ut38 sz78 Z Z Z Z (rows_nth (f := Chg.cells) (by omega))) ?_
  refine .p (.rloadN ag78 sz78 Z Z (nl Z)) <| .c1 (.alloc 2 Z zt78 Z) <| .p (.assign Z Z) <| .c0 (.store sz78 Z Z Z Z (notup Z) Z Z (nl Z)) <| .nil <| .seq <| .region <| .p (.loadN ag35 sz35 Z Z Z (nl Z)) <| .p (.loadN ag78 sz78 Z Z Z (nl Z)) <| .p (.call0 [] false (apply_any (run_at hr (i := j) (by omega)).1) Tryz.func26 (hv := by exact (.cons (.aggL (.same Z)) (.cons (.aggL (.same Z)) .nil)))) ?_
  refine .p (.move Z Z) <| .p (.extract Z Z Z) <| .p (.extract Z Z Z) <| .c1 (.alloc 3 Z zt35 Z) <| .c0 (.store sz35 Z Z Z Z (notup Z) Z Z (nl Z)) <| .p (.assign Z Z) <| .nil <| .seq <| .seq <| .region <| .p (.move Z Z) <| .p ((AOp.ineq Z Z Z).lb Z) ?_
  refine .nil <| .cF Z Z <| .skip <| .region <| .p (.loadN ag35 sz35 Z Z Z (nl Z)) <| .c0 (.store sz35 Z Z Z Z (notup Z) Z Z (nl Z)) <| .nil <| .region <| .p (.iadd (r := (((j + 1) : Nat) : Int)) Z Z Z (wi (by omega) (by first | rfl | omega | (simp; done)))) ?_
  refine .p (.move Z Z) <| .nil ?_
  exact ⟨⟨((j + 1)), (by show j + 1 ≤ _; omega)⟩, (by simp; omega), (ALe.of false [] 2
      _
      _
      (.cons rfl (.boxL (.cons (.litE (by rw [(run_at hr (i := j) (by omega)).2])) (.cons (.litE (by rw [(run_at hr (i := j) (by omega)).2])) (.cons (.litE (by rw [(run_at hr (i := j) (by omega)).2])) (.cons (.litE (by rw [(run_at hr (i := j) (by omega)).2])) (.cons (.litE (by rw [(run_at hr (i := j) (by omega)).2])) (.cons (.litE (by rw [(run_at hr (i := j) (by omega)).2])) (.cons (.litE (by rw [(run_at hr (i := j) (by omega)).2])) (.cons (.litE (by rw [(run_at hr (i := j) (by omega)).2])) (.cons (.litE (by rw [(run_at hr (i := j) (by omega)).2])) (.cons (.litE (by rw [(run_at hr (i := j) (by omega)).2])) (.cons (.roE (by rw [(run_at hr (i := j) (by omega)).2])) (.cons (.roE (by rw [(run_at hr (i := j) (by omega)).2])) (.cons (.roE (by rw [(run_at hr (i := j) (by omega)).2])) .nil)))))))))))))) (.cons rfl (.boxS rfl) .nil))
      (.cons rfl .ptrR (.cons rfl .ptrR (.s (.s (.s .nil)))))
      (by simp))⟩
  have h4 := decide_eq_false p5
  refine .cF Z h4 <| .exit <| .seq <| .region <| .p (.loadN ag35 sz35 Z Z Z (nl Z)) <| .p (.call0 [] false (Copy_spec (runM v (l.take j)) (run_vOK j hv hr).fit) Tryz.func27 (hv := by exact (.cons (.aggL (.same Z)) .nil))) ?_
  refine .c0 (.store sz35 Z Z Z Z (notup Z) Z Z (nl Z)) <| .p (.assign Z Z) <| .p (.assign Z Z) <| .nil <| .ret ?_
  have hd : l.take j = l := List.take_of_length_le (by omega)
  exact ⟨_, _, _, _, rfl, ALe.of false [] 0
      [(0, .tup [.agg (encFr (runM v l)), .I 0, .I 0])]
      []
      .nil
      (.cons rfl (.tupL (.cons (.aggL (.cons (.litE (by rw [hd])) (.cons (.litE (by rw [hd])) (.cons (.litE (by rw [hd])) (.cons (.litE (by rw [hd])) (.cons (.litE (by rw [hd])) (.cons (.litE (by rw [hd])) (.cons (.litE (by rw [hd])) (.cons (.litE (by rw [hd])) (.cons (.litE (by rw [hd])) (.cons (.litE (by rw [hd])) (.cons (.frE (by rw [hd])) (.cons (.frE (by rw [hd])) (.cons (.frE (by rw [hd])) .nil)))))))))))))) (.cons (.same rfl) (.cons (.same rfl) .nil)))) .nil)
      (by simp), rfl, rfl⟩
end Go.Abs
namespace Go.Abs
open Go.Proofs
set_option maxRecDepth 100000
set_option maxHeartbeats 8000000

theorem inv_step {l : List Chg} {k : Nat} (h : k < l.length) : (l.drop k).reverse.map invC = (l.drop (k + 1)).reverse.map invC ++ [invC (nthG l k)] := by
  rw [List.drop_eq_getElem_cons h, nthG_eq h, List.reverse_cons, List.map_append]; rfl


theorem Invert_spec (l : List Chg) (hl : l.length ≤ 4096) (hc : ∀ c ∈ l, c.path.length ≤ 100000 ∧ c.old.fit ∧ c.new.fit) : FSpec Tryz.prog 9 0 [.ro 29 (rowsOf Chg.cells l)] (hpOf []) (fun r h => r = .ro 29 (rowsOf Chg.cells (l.reverse.map invC)) ∧ h = hpOf []) := by
  refine FSpec.intro Tryz.func9 rfl (nl rfl) (nl rfl) fun s0 w0 hs0 hn0 => ?_
  refine .ws 0 [(0, .ro 29 (rowsOf Chg.cells l))] [] <| .seq <| .region <| .p (.assign Z Z) <| .nil <| .seq <| .region <| .p (.assign Z Z) <| .nil <| .seq <| .seq <| .region ?_
  refine .p (.move Z Z) <| .p (.len_ro (n := l.length) ut38 Z (.inl Z) (by simp)) ?_
  refine .p (.isub (r := (((l.length : Nat) : Int) - 1)) Z Z Z (wi (by omega) (by first | rfl | omega | (simp; done)))) ?_
  refine .p (.assign Z Z) <| .nil <| .block <| .openNil 3 29 false ?_
  refine AWP.loop (G := { g : Nat × List Chg // g.1 ≤ l.length ∧ (g.2).length + g.1 = l.length ∧ g.2 = ((l.drop g.1).reverse.map invC) }) (fun g => envOf [(0, .ro 29 (rowsOf Chg.cells l)), (3, .sl 90 29 0 g.1.2.length), (4, .I (((g.1.1 : Nat) : Int) - 1))]) (fun g => hpOf [(90, .arr false 29 (rowsOf Chg.cells g.1.2))]) (fun _ => 91) (fun g => g.1.1) ⟨(l.length, []), (by dsimp only; exact ⟨Nat.le_refl _, by simp, by simp⟩)⟩ (ALe.of false [(90, 0)] 91
      _
      _
      (.cons rfl (.arr rfl) .nil)
      (.s (.cons rfl (.slE (by first | omega | (simp; done) | (simp; omega))) (.s .nil)))
      (by simp)) ?_
  rintro ⟨⟨k, out⟩, hg⟩
  try dsimp only at hg
  obtain ⟨g1, g2, g3⟩ := hg
  refine .ws 91 [(0, .ro 29 (rowsOf Chg.cells l)), (3, .sl 90 29 0 out.length), (4, .I (((k : Nat) : Int) - 1))] [(90, .arr false 29 (rowsOf Chg.cells out))] <| .seq <| .seq <| .region <| .p (.move Z Z) <| .p (.igeq Z Z Z) <| .nil ?_
  by_cases p2 : 0 ≤ (((k : Nat) : Int) - 1)
  have h1 := decide_eq_true p2
  refine .cT Z h1 <| .skip ?_
  refine AWP.weak false [] 91
      [(0, .ro 29 (rowsOf Chg.cells l)), (3, .sl 90 29 0 out.length), (4, .N (k - 1))]
      [(90, .arr false 29 (rowsOf Chg.cells out))]
      (.cons rfl (.arr rfl) .nil)
      (.s (.cons rfl .slR (.cons rfl (.litE (by first | rfl | (congr 1; omega))) .nil)))
      (by simp) ?_
  refine .seq <| .block <| .seq <| .region <| .p (.move Z Z) <| .p (.move Z Z) <| .p (.iaddr_ro (row := ([.I ((nthG l (k - 1)).op), .ro 3 (rowsOf Stp.cells (nthG l (k - 1)).path), .I ((nthG l (k - 1)).pos)] ++ encX (nthG l (k - 1)).old ++ encX (nthG l (k - 1)).new)) ut38 sz78 Z Z Z Z (rows_nth (f := Chg.cells) (by omega))) ?_
  refine .p (.rloadN ag78 sz78 Z Z (nl Z)) <| .p (.call0 [] false (clone_spec (nthG l (k - 1)) (hc _ (nthG_mem (by omega))).1 (hc _ (nthG_mem (by omega))).2.1 (hc _ (nthG_mem (by omega))).2.2) Tryz.func28 (hv := by exact (.cons (.aggL (.same Z)) .nil))) ?_
  refine .c1 (.alloc 91 Z zt78 Z) <| .c0 (.store sz78 Z Z Z Z (notup Z) Z Z (nl Z)) <| .nil <| .seq <| .seq <| .region <| .p (.faddr fo78_0 Z Z) <| .p (.load1 ag3 Z Z Z Z) <| .nil <| .block <| .seq <| .region ?_
  refine .p (.ieql Z Z Z) <| .p (.assign Z Z) <| .nil ?_
  by_cases p4 : (nthG l (k - 1)).op = 1
  have h3 := decide_eq_true p4
  refine .cT Z h3 <| .region <| .p (.faddr fo78_4 Z Z) <| .p (.loadN ag35 sz35 Z Z Z (nl Z)) <| .p (.faddr fo78_3 Z Z) <| .p (.loadN ag35 sz35 Z Z Z (nl Z)) <| .p (.faddr fo78_3 Z Z) <| .c0 (.store sz35 Z Z Z Z (notup Z) Z Z (nl Z)) <| .p (.faddr fo78_4 Z Z) <| .c0 (.store sz35 Z Z Z Z (notup Z) Z Z (nl Z)) <| .nil <| .region ?_
  refine .p (.move Z Z) <| .p (.loadN ag78 sz78 Z Z Z (nl Z)) <| .c1 (.buildSlice 92 true [([.I ((nthG l (k - 1)).op), .ro 3 (rowsOf Stp.cells (nthG l (k - 1)).path), .I ((nthG l (k - 1)).pos)] ++ encX (nthG l (k - 1)).new ++ encX (nthG l (k - 1)).old)] ut38 sz78 zt78 Z Z (by decide) (by decide) Z Z Z Z Z Z Z) ?_
  refine .c1 (.appendN (n2 := (out.length + 1)) 93 el38 Z Z Z (by first | rfl | (simp; done) | (simp; omega)) (.sl Z Z (nl Z) (by simp)) (by simp only [rowsOf, List.length_map, List.length_append, List.length_take, List.length_drop, List.length_cons, List.length_nil]; omega) (by simp only [rowsOf, List.length_map, List.length_append, List.length_take, List.length_drop, List.length_cons, List.length_nil]; omega) (by first | rfl | (simp; done) | (simp; omega))) ?_
  refine .p (.assign Z Z) <| .nil <| .region <| .p (.move Z Z) <| .p (.isub (r := ((((k - 1) : Nat) : Int) - 1)) Z Z Z (wi (by omega) (by first | rfl | omega | (simp; done)))) ?_
  refine .p (.assign Z Z) <| .nil ?_
  have hq : (k - 1) ≤ l.length ∧ ((out ++ [(⟨(nthG l (k - 1)).op, (nthG l (k - 1)).path, (nthG l (k - 1)).pos, (nthG l (k - 1)).new, (nthG l (k - 1)).old⟩ : Chg)])).length + (k - 1) = l.length ∧ (out ++ [(⟨(nthG l (k - 1)).op, (nthG l (k - 1)).path, (nthG l (k - 1)).pos, (nthG l (k - 1)).new, (nthG l (k - 1)).old⟩ : Chg)]) = ((l.drop (k - 1)).reverse.map invC) := by
    refine ⟨by omega, by simp; omega, ?_⟩
    rw [inv_step (by omega), show k - 1 + 1 = k by omega, ← g3]
    refine congrArg (fun x => out ++ [x]) ?_
    unfold invC
    first | (rw [if_pos (by assumption)]; congr 1) | (rw [if_neg (by assumption), if_pos (by assumption)]) | (rw [if_neg (by assumption), if_neg (by assumption), if_pos (by assumption)]) | (rw [if_neg (by assumption), if_neg (by assumption), if_neg (by assumption)])
  exact ⟨⟨((k - 1), (out ++ [(⟨(nthG l (k - 1)).op, (nthG l (k - 1)).path, (nthG l (k - 1)).pos, (nthG l (k - 1)).new, (nthG l (k - 1)).old⟩ : Chg)])), hq⟩, (by simp; omega), (ALe.of false [(90, 93)] 91
      _
      _
      (.cons rfl (.arr (rows_append (f := Chg.cells) out [(⟨(nthG l (k - 1)).op, (nthG l (k - 1)).path, (nthG l (k - 1)).pos, (nthG l (k - 1)).new, (nthG l (k - 1)).old⟩ : Chg)]).symm) .nil)
      (.s (.cons rfl (.slE (by first | omega | (simp; done) | (simp; omega))) (.s .nil)))
      (by simp))⟩
  have h3 := decide_eq_false p4
  refine .cF Z h3 <| .seq <| .region <| .p (.ieql Z Z Z) <| .p (.assign Z Z) <| .nil ?_
  by_cases p6 : (nthG l (k - 1)).op = 2
  have h5 := decide_eq_true p6
  refine .cT Z h5 <| .seq <| .region <| .p (.faddr fo78_0 Z Z) <| .c0 (.store sz3 Z Z Z Z (notup Z) Z Z (nl Z)) <| .nil <| .region <| .p (.faddr fo78_4 Z Z) <| .p (.loadN ag35 sz35 Z Z Z (nl Z)) <| .p (.faddr fo78_3 Z Z) <| .p (.loadN ag35 sz35 Z Z Z (nl Z)) <| .p (.faddr fo78_3 Z Z) ?_
  refine .c0 (.store sz35 Z Z Z Z (notup Z) Z Z (nl Z)) <| .p (.faddr fo78_4 Z Z) <| .c0 (.store sz35 Z Z Z Z (notup Z) Z Z (nl Z)) <| .nil <| .region <| .p (.move Z Z) <| .p (.loadN ag78 sz78 Z Z Z (nl Z)) <| .c1 (.buildSlice 92 true [([.I 3, .ro 3 (rowsOf Stp.cells (nthG l (k - 1)).path), .I ((nthG l (k - 1)).pos)] ++ encX (nthG l (k - 1)).new ++ encX (nthG l (k - 1)).old)] ut38 sz78 zt78 Z Z (by decide) (by decide) Z Z Z Z Z Z Z) ?_
  refine .c1 (.appendN (n2 := (out.length + 1)) 93 el38 Z Z Z (by first | rfl | (simp; done) | (simp; omega)) (.sl Z Z (nl Z) (by simp)) (by simp only [rowsOf, List.length_map, List.length_append, List.length_take, List.length_drop, List.length_cons, List.length_nil]; omega) (by simp only [rowsOf, List.length_map, List.length_append, List.length_take, List.length_drop, List.length_cons, List.length_nil]; omega) (by first | rfl | (simp; done) | (simp; omega))) ?_
  refine .p (.assign Z Z) <| .nil <| .region <| .p (.move Z Z) <| .p (.isub (r := ((((k - 1) : Nat) : Int) - 1)) Z Z Z (wi (by omega) (by first | rfl | omega | (simp; done)))) ?_
  refine .p (.assign Z Z) <| .nil ?_
  have hq : (k - 1) ≤ l.length ∧ ((out ++ [(⟨3, (nthG l (k - 1)).path, (nthG l (k - 1)).pos, (nthG l (k - 1)).new, (nthG l (k - 1)).old⟩ : Chg)])).length + (k - 1) = l.length ∧ (out ++ [(⟨3, (nthG l (k - 1)).path, (nthG l (k - 1)).pos, (nthG l (k - 1)).new, (nthG l (k - 1)).old⟩ : Chg)]) = ((l.drop (k - 1)).reverse.map invC) := by
    refine ⟨by omega, by simp; omega, ?_⟩
    rw [inv_step (by omega), show k - 1 + 1 = k by omega, ← g3]
    refine congrArg (fun x => out ++ [x]) ?_
    unfold invC
    first | (rw [if_pos (by assumption)]; congr 1) | (rw [if_neg (by assumption), if_pos (by assumption)]) | (rw [if_neg (by assumption), if_neg (by assumption), if_pos (by assumption)]) | (rw [if_neg (by assumption), if_neg (by assumption), if_neg (by assumption)])
  exact ⟨⟨((k - 1), (out ++ [(⟨3, (nthG l (k - 1)).path, (nthG l (k - 1)).pos, (nthG l (k - 1)).new, (nthG l (k - 1)).old⟩ : Chg)])), hq⟩, (by simp; omega), (ALe.of false [(90, 93)] 91
      _
      _
      (.cons rfl (.arr (rows_append (f := Chg.cells) out [(⟨3, (nthG l (k - 1)).path, (nthG l (k - 1)).pos, (nthG l (k - 1)).new, (nthG l (k - 1)).old⟩ : Chg)]).symm) .nil)
      (.s (.cons rfl (.slE (by first | omega | (simp; done) | (simp; omega))) (.s .nil)))
      (by simp))⟩
  have h5 := decide_eq_false p6
  refine .cF Z h5 <| .seq <| .region <| .p (.ieql Z Z Z) <| .p (.assign Z Z) <| .nil ?_
  by_cases p8 : (nthG l (k - 1)).op = 3
  have h7 := decide_eq_true p8
  refine .cT Z h7 <| .seq <| .region <| .p (.faddr fo78_0 Z Z) <| .c0 (.store sz3 Z Z Z Z (notup Z) Z Z (nl Z)) <| .nil <| .region <| .p (.faddr fo78_4 Z Z) <| .p (.loadN ag35 sz35 Z Z Z (nl Z)) <| .p (.faddr fo78_3 Z Z) <| .p (.loadN ag35 sz35 Z Z Z (nl Z)) <| .p (.faddr fo78_3 Z Z) ?_
  refine .c0 (.store sz35 Z Z Z Z (notup Z) Z Z (nl Z)) <| .p (.faddr fo78_4 Z Z) <| .c0 (.store sz35 Z Z Z Z (notup Z) Z Z (nl Z)) <| .nil <| .region <| .p (.move Z Z) <| .p (.loadN ag78 sz78 Z Z Z (nl Z)) <| .c1 (.buildSlice 92 true [([.I 2, .ro 3 (rowsOf Stp.cells (nthG l (k - 1)).path), .I ((nthG l (k - 1)).pos)] ++ encX (nthG l (k - 1)).new ++ encX (nthG l (k - 1)).old)] ut38 sz78 zt78 Z Z (by decide) (by decide) Z Z Z Z Z Z Z) ?_
  refine .c1 (.appendN (n2 := (out.length + 1)) 93 el38 Z Z Z (by first | rfl | (simp; done) | (simp; omega)) (.sl Z Z (nl Z) (by simp)) (by simp only [rowsOf, List.length_map, List.length_append, List.length_take, List.length_drop, List.length_cons, List.length_nil]; omega) (by simp only [rowsOf, List.length_map, List.length_append, List.length_take, List.length_drop, List.length_cons, List.length_nil]; omega) (by first | rfl | (simp; done) | (simp; omega))) ?_
  refine .p (.assign Z Z) <| .nil <| .region <| .p (.move Z Z) <| .p (.isub (r := ((((k - 1) : Nat) : Int) - 1)) Z Z Z (wi (by omega) (by first | rfl | omega | (simp; done)))) ?_
  refine .p (.assign Z Z) <| .nil ?_
  have hq : (k - 1) ≤ l.length ∧ ((out ++ [(⟨2, (nthG l (k - 1)).path, (nthG l (k - 1)).pos, (nthG l (k - 1)).new, (nthG l (k - 1)).old⟩ : Chg)])).length + (k - 1) = l.length ∧ (out ++ [(⟨2, (nthG l (k - 1)).path, (nthG l (k - 1)).pos, (nthG l (k - 1)).new, (nthG l (k - 1)).old⟩ : Chg)]) = ((l.drop (k - 1)).reverse.map invC) := by
    refine ⟨by omega, by simp; omega, ?_⟩
    rw [inv_step (by omega), show k - 1 + 1 = k by omega, ← g3]
    refine congrArg (fun x => out ++ [x]) ?_
    unfold invC
    first | (rw [if_pos (by assumption)]; congr 1) | (rw [if_neg (by assumption), if_pos (by assumption)]) | (rw [if_neg (by assumption), if_neg (by assumption), if_pos (by assumption)]) | (rw [if_neg (by assumption), if_neg (by assumption), if_neg (by assumption)])
  exact ⟨⟨((k - 1), (out ++ [(⟨2, (nthG l (k - 1)).path, (nthG l (k - 1)).pos, (nthG l (k - 1)).new, (nthG l (k - 1)).old⟩ : Chg)])), hq⟩, (by simp; omega), (ALe.of false [(90, 93)] 91
      _
      _
      (.cons rfl (.arr (rows_append (f := Chg.cells) out [(⟨2, (nthG l (k - 1)).path, (nthG l (k - 1)).pos, (nthG l (k - 1)).new, (nthG l (k - 1)).old⟩ : Chg)]).symm) .nil)
      (.s (.cons rfl (.slE (by first | omega | (simp; done) | (simp; omega))) (.s .nil)))
      (by simp))⟩
  have h7 := decide_eq_false p8
  refine .cF Z h7 <| .skip <| .region <| .p (.move Z Z) <| .p (.loadN ag78 sz78 Z Z Z (nl Z)) <| .c1 (.buildSlice 92 true [([.I ((nthG l (k - 1)).op), .ro 3 (rowsOf Stp.cells (nthG l (k - 1)).path), .I ((nthG l (k - 1)).pos)] ++ encX (nthG l (k - 1)).old ++ encX (nthG l (k - 1)).new)] ut38 sz78 zt78 Z Z (by decide) (by decide) Z Z Z Z Z Z Z) ?_
  refine .c1 (.appendN (n2 := (out.length + 1)) 93 el38 Z Z Z (by first | rfl | (simp; done) | (simp; omega)) (.sl Z Z (nl Z) (by simp)) (by simp only [rowsOf, List.length_map, List.length_append, List.length_take, List.length_drop, List.length_cons, List.length_nil]; omega) (by simp only [rowsOf, List.length_map, List.length_append, List.length_take, List.length_drop, List.length_cons, List.length_nil]; omega) (by first | rfl | (simp; done) | (simp; omega))) ?_
  refine .p (.assign Z Z) <| .nil <| .region <| .p (.move Z Z) <| .p (.isub (r := ((((k - 1) : Nat) : Int) - 1)) Z Z Z (wi (by omega) (by first | rfl | omega | (simp; done)))) ?_
  refine .p (.assign Z Z) <| .nil ?_
  have hq : (k - 1) ≤ l.length ∧ ((out ++ [(⟨(nthG l (k - 1)).op, (nthG l (k - 1)).path, (nthG l (k - 1)).pos, (nthG l (k - 1)).old, (nthG l (k - 1)).new⟩ : Chg)])).length + (k - 1) = l.length ∧ (out ++ [(⟨(nthG l (k - 1)).op, (nthG l (k - 1)).path, (nthG l (k - 1)).pos, (nthG l (k - 1)).old, (nthG l (k - 1)).new⟩ : Chg)]) = ((l.drop (k - 1)).reverse.map invC) := by
    refine ⟨by omega, by simp; omega, ?_⟩
    rw [inv_step (by omega), show k - 1 + 1 = k by omega, ← g3]
    refine congrArg (fun x => out ++ [x]) ?_
    unfold invC
    first | (rw [if_pos (by assumption)]; congr 1) | (rw [if_neg (by assumption), if_pos (by assumption)]) | (rw [if_neg (by assumption), if_neg (by assumption), if_pos (by assumption)]) | (rw [if_neg (by assumption), if_neg (by assumption), if_neg (by assumption)])
  exact ⟨⟨((k - 1), (out ++ [(⟨(nthG l (k - 1)).op, (nthG l (k - 1)).path, (nthG l (k - 1)).pos, (nthG l (k - 1)).old, (nthG l (k - 1)).new⟩ : Chg)])), hq⟩, (by simp; omega), (ALe.of false [(90, 93)] 91
      _
      _
      (.cons rfl (.arr (rows_append (f := Chg.cells) out [(⟨(nthG l (k - 1)).op, (nthG l (k - 1)).path, (nthG l (k - 1)).pos, (nthG l (k - 1)).old, (nthG l (k - 1)).new⟩ : Chg)]).symm) .nil)
      (.s (.cons rfl (.slE (by first | omega | (simp; done) | (simp; omega))) (.s .nil)))
      (by simp))⟩
  have h1 := decide_eq_false p2
  refine .cF Z h1 <| .exit <| .seq <| .region <| .p (.move Z Z) <| .p (.assign Z Z) <| .nil <| .ret ?_
  have hk : k = 0 := by omega
  have hd : out = l.reverse.map invC := by rw [g3, hk]; rfl
  exact ⟨_, _, _, _, rfl, ALe.of false [] 0
      [(0, .ro 29 (rowsOf Chg.cells (l.reverse.map invC)))]
      []
      .nil
      (.cons rfl (.freezeR (els := (rowsOf Chg.cells out)) (by simp) (by rw [hd])) .nil)
      (by simp), rfl, rfl⟩
end Go.Abs
namespace Go.Abs
open Go.Proofs
set_option maxRecDepth 100000
set_option maxHeartbeats 8000000

theorem ut86 : Tryz.prog.underlying 86 = some (.pointer 35) := by kernel_rfl
def an57_3 : List Nat := [0, 1, 3, 0, 8, 24, 63, 127]

theorem mfield0_spec (k : ByteArray) : FSpec Tryz.prog 29 0 [.lit (.pointer none), .S k] (hpOf []) (fun r h => r = .lit (.pointer none) ∧ h = hpOf []) := by
  refine FSpec.intro Tryz.func29 rfl (nl rfl) (nl rfl) fun s0 w0 hs0 hn0 => ?_
  refine .ws 0 [(0, .lit (.pointer none)), (1, .S k)] [] <| .seq <| .region <| .p (.assign Z Z) <| .nil <| .seq <| .seq <| .region <| .p (.move Z Z) <| .p (.peql0 ut86 Z Z Z) <| .p (.move Z Z) <| .nT Z Z (Eq.refl true) Z ?_
  refine .nT Z Z (Eq.refl true) Z <| .nT Z Z (Eq.refl true) Z <| .nT Z Z (Eq.refl true) Z <| .nT Z Z (Eq.refl true) Z <| .p (.pick Z Z Z) <| .nil <| .cT Z Z <| .seq <| .region <| .p (.assign Z Z) <| .nil <| .ret ?_
  exact ⟨_, _, _, _, rfl, ALe.s (l := [(0, .lit (.pointer none))]) (m := []) (nx' := 0), rfl, rfl⟩

theorem mfieldY_spec (v : T) (k : ByteArray) (hv : v.fit) (hk : v.kind = 7) (hs : (fieldM k v.fields).isSome = true) : FSpec Tryz.prog 29 0 [.rp (encX v) 0, .S k] (hpOf []) (fun r h => r = .rp (encX ((fieldM k v.fields).getD T.nul)) 0 ∧ h = hpOf []) := by
  refine FSpec.intro Tryz.func29 rfl (nl rfl) (nl rfl) fun s0 w0 hs0 hn0 => ?_
  refine .ws 0 [(0, .rp (encX v) 0), (1, .S k)] [] <| .seq <| .region <| .p (.assign Z Z) <| .nil <| .seq <| .seq <| .region <| .p (.move Z Z) <| .p (.peql ut86 Z Z Z Z) <| .p (.move Z Z) <| .yF (.move Z Z) Z Z (Eq.refl false) ?_
  refine .yF (.nilCheck Z Z Z) Z Z (Eq.refl false) <| .yF (.faddr_rp fo35_0 Z Z) Z Z (Eq.refl false) <| .yF (.rload1 ag3 Z Z Z) Z Z (Eq.refl false) <| .yF (.ineq Z Z Z) Z Z (Eq.refl false) <| .p (.pick Z Z Z) <| .nil ?_
  have h1 : (decide (v.kind = 7)) = true := decide_eq_true hk
  refine .cF Z (bnot h1) <| .skip <| .seq <| .region <| .p (.move Z Z) <| .p (.nilCheck Z Z Z) <| .p (.rloadN ag35 sz35 Z Z (nl Z)) <| .p (.move Z Z) <| .p (.call0 [] false (Field_spec v k hv hk) Tryz.func53 (hv := by exact (.cons (.aggL (.same Z)) (.cons (.same Z) .nil)))) ?_
  refine .p (.move Z Z) <| .p (.extract Z Z Z) <| .p (.extract Z Z Z) <| .c1 (.alloc 0 Z zt35 Z) <| .c0 (.store sz35 Z Z Z Z (notup Z) Z Z (nl Z)) <| .p (.assign Z Z) <| .nil <| .seq <| .seq <| .region <| .p (.move Z Z) <| .p (.not Z Z) ?_
  refine .nil ?_
  have h2 : (fieldM k v.fields).isSome = true := hs
  refine .cF Z (bnot h2) <| .skip <| .seq <| .region <| .p (.assign Z Z) <| .nil <| .ret ?_
  exact ⟨_, _, _, _, rfl, ALe.of false [] 0
      [(0, .rp (encX ((fieldM k v.fields).getD T.nul)) 0)]
      []
      .nil
      (.cons rfl (.pfreezeL (.cons (.same rfl) (.cons (.same rfl) (.cons (.same rfl) (.cons (.same rfl) (.cons (.same rfl) (.cons (.same rfl) (.cons (.same rfl) (.cons (.same rfl) (.cons (.same rfl) (.cons (.same rfl) (.cons .unfr (.cons .unfr (.cons .unfr .nil)))))))))))))) .nil)
      (by simp), rfl, rfl⟩

theorem mfieldN_spec (v : T) (k : ByteArray) (hv : v.fit) (hk : v.kind = 7) (hs : (fieldM k v.fields).isSome = false) : FSpec Tryz.prog 29 0 [.rp (encX v) 0, .S k] (hpOf []) (fun r h => r = .lit (.pointer none) ∧ h = hpOf []) := by
  refine FSpec.intro Tryz.func29 rfl (nl rfl) (nl rfl) fun s0 w0 hs0 hn0 => ?_
  refine .ws 0 [(0, .rp (encX v) 0), (1, .S k)] [] <| .seq <| .region <| .p (.assign Z Z) <| .nil <| .seq <| .seq <| .region <| .p (.move Z Z) <| .p (.peql ut86 Z Z Z Z) <| .p (.move Z Z) <| .yF (.move Z Z) Z Z (Eq.refl false) ?_
  refine .yF (.nilCheck Z Z Z) Z Z (Eq.refl false) <| .yF (.faddr_rp fo35_0 Z Z) Z Z (Eq.refl false) <| .yF (.rload1 ag3 Z Z Z) Z Z (Eq.refl false) <| .yF (.ineq Z Z Z) Z Z (Eq.refl false) <| .p (.pick Z Z Z) <| .nil ?_
  have h1 : (decide (v.kind = 7)) = true := decide_eq_true hk
  refine .cF Z (bnot h1) <| .skip <| .seq <| .region <| .p (.move Z Z) <| .p (.nilCheck Z Z Z) <| .p (.rloadN ag35 sz35 Z Z (nl Z)) <| .p (.move Z Z) <| .p (.call0 [] false (Field_spec v k hv hk) Tryz.func53 (hv := by exact (.cons (.aggL (.same Z)) (.cons (.same Z) .nil)))) ?_
  refine .p (.move Z Z) <| .p (.extract Z Z Z) <| .p (.extract Z Z Z) <| .c1 (.alloc 0 Z zt35 Z) <| .c0 (.store sz35 Z Z Z Z (notup Z) Z Z (nl Z)) <| .p (.assign Z Z) <| .nil <| .seq <| .seq <| .region <| .p (.move Z Z) <| .p (.not Z Z) ?_
  refine .nil ?_
  have h2 : (fieldM k v.fields).isSome = false := hs
  refine .cT Z (bnot h2) <| .seq <| .region <| .p (.assign Z Z) <| .nil <| .ret ?_
  exact ⟨_, _, _, _, rfl, ALe.s (l := [(0, .lit (.pointer none))]) (m := []) (nx' := 0), rfl, rfl⟩

theorem meq00_spec : FSpec Tryz.prog 57 0 [.lit (.pointer none), .lit (.pointer none)] (hpOf []) (fun r h => r = .B true ∧ h = hpOf []) := by
  refine FSpec.intro Tryz.func57 rfl (nl rfl) (nl rfl) fun s0 w0 hs0 hn0 => ?_
  refine .ws 0 [(0, .lit (.pointer none)), (1, .lit (.pointer none))] [] <| .seq <| .region <| .p (.assign Z Z) <| .nil <| .seq <| .seq <| .region <| .p (.move Z Z) <| .p (.peql0 ut86 Z Z Z) <| .p (.move Z Z) <| .nT Z Z (Eq.refl true) Z ?_
  refine .nT Z Z (Eq.refl true) Z <| .p (.pick Z Z Z) <| .nil <| .cT Z Z <| .seq <| .region <| .p (.move Z Z) <| .p (.peql0 ut86 Z Z Z) <| .p (.move Z Z) <| .yT (.move Z Z) Z Z (Eq.refl true) <| .yT (.peql0 ut86 Z Z Z) Z Z (Eq.refl true) <| .p (.pick Z Z Z) ?_
  refine .p (.assign Z Z) <| .nil <| .ret ?_
  exact ⟨_, _, _, _, rfl, ALe.s (l := [(0, .B true)]) (m := []) (nx' := 0), rfl, rfl⟩

theorem meq01_spec (b : T) : FSpec Tryz.prog 57 0 [.lit (.pointer none), .rp (encX b) 0] (hpOf []) (fun r h => r = .B false ∧ h = hpOf []) := by
  refine FSpec.intro Tryz.func57 rfl (nl rfl) (nl rfl) fun s0 w0 hs0 hn0 => ?_
  refine .ws 0 [(0, .lit (.pointer none)), (1, .rp (encX b) 0)] [] <| .seq <| .region <| .p (.assign Z Z) <| .nil <| .seq <| .seq <| .region <| .p (.move Z Z) <| .p (.peql0 ut86 Z Z Z) <| .p (.move Z Z) <| .nT Z Z (Eq.refl true) Z ?_
  refine .nT Z Z (Eq.refl true) Z <| .p (.pick Z Z Z) <| .nil <| .cT Z Z <| .seq <| .region <| .p (.move Z Z) <| .p (.peql0 ut86 Z Z Z) <| .p (.move Z Z) <| .yT (.move Z Z) Z Z (Eq.refl true) <| .yT (.peql ut86 Z Z Z Z) Z Z (Eq.refl true) <| .p (.pick Z Z Z) ?_
  refine .p (.assign Z Z) <| .nil <| .ret ?_
  exact ⟨_, _, _, _, rfl, ALe.s (l := [(0, .B false)]) (m := []) (nx' := 0), rfl, rfl⟩

theorem meq10_spec (a : T) : FSpec Tryz.prog 57 0 [.rp (encX a) 0, .lit (.pointer none)] (hpOf []) (fun r h => r = .B false ∧ h = hpOf []) := by
  refine FSpec.intro Tryz.func57 rfl (nl rfl) (nl rfl) fun s0 w0 hs0 hn0 => ?_
  refine .ws 0 [(0, .rp (encX a) 0), (1, .lit (.pointer none))] [] <| .seq <| .region <| .p (.assign Z Z) <| .nil <| .seq <| .seq <| .region <| .p (.move Z Z) <| .p (.peql ut86 Z Z Z Z) <| .p (.move Z Z) <| .yF (.move Z Z) Z Z (Eq.refl false) ?_
  refine .yF (.peql0 ut86 Z Z Z) Z Z (Eq.refl false) <| .p (.pick Z Z Z) <| .nil <| .cT Z Z <| .seq <| .region <| .p (.move Z Z) <| .p (.peql ut86 Z Z Z Z) <| .p (.move Z Z) <| .nF Z Z (Eq.refl false) Z <| .nF Z Z (Eq.refl false) Z <| .p (.pick Z Z Z) ?_
  refine .p (.assign Z Z) <| .nil <| .ret ?_
  exact ⟨_, _, _, _, rfl, ALe.s (l := [(0, .B false)]) (m := []) (nx' := 0), rfl, rfl⟩

theorem meq11_spec (a b : T) (ha : a.fit) (hb : b.fit) : FSpec Tryz.prog 57 0 [.rp (encX a) 0, .rp (encX b) 0] (hpOf []) (fun r h => r = .B (sameM 1000 a b) ∧ h = hpOf []) := by
  refine FSpec.intro Tryz.func57 rfl (nl rfl) (nl rfl) fun s0 w0 hs0 hn0 => ?_
  refine .ws 0 [(0, .rp (encX a) 0), (1, .rp (encX b) 0)] [] <| .seq <| .region <| .p (.assign Z Z) <| .nil <| .seq <| .seq <| .region <| .p (.move Z Z) <| .p (.peql ut86 Z Z Z Z) <| .p (.move Z Z) <| .yF (.move Z Z) Z Z (Eq.refl false) ?_
  refine .yF (.peql ut86 Z Z Z Z) Z Z (Eq.refl false) <| .p (.pick Z Z Z) <| .nil <| .cF Z Z <| .skip <| .seq <| .region_p fol an57_3 (by kernel_rfl) Z ?_
  refine .p [] (.move Z Z) <| .p [] (.nilCheck Z Z Z) <| .p [] (.rloadN ag35 sz35 Z Z (nl Z)) <| .p [] (.move Z Z) <| .p [] (.nilCheck Z Z Z) <| .p [] (.rloadN ag35 sz35 Z Z (nl Z)) <| .p [] (.call0 [] false (Equal_spec a b (by assumption) (by assumption)) Tryz.func30 (hv := by exact (.cons (.aggL (.same Z)) (.cons (.aggL (.same Z)) .nil)))) ?_
  refine .p [] (.assign Z Z) <| .nil (by kernel_rfl) ?_
  refine .ret ?_
  exact ⟨_, _, _, _, rfl, ALe.s (l := [(0, .B (sameM 1000 a b))]) (m := []) (nx' := 0), rfl, rfl⟩

theorem some0_spec : FSpec Tryz.prog 60 0 [.lit (.pointer none)] (hpOf []) (fun r h => r = .fr (.ro 13 []) ∧ h = hpOf []) := by
  refine FSpec.intro Tryz.func60 rfl (nl rfl) (nl rfl) fun s0 w0 hs0 hn0 => ?_
  refine .ws 0 [(0, .lit (.pointer none))] [] <| .seq <| .region <| .p (.assign Z Z) <| .nil <| .seq <| .seq <| .region <| .p (.move Z Z) <| .p (.peql0 ut86 Z Z Z) <| .nil <| .cT Z Z ?_
  refine .seq <| .region <| .p (.assign Z Z) <| .nil <| .ret ?_
  exact ⟨_, _, _, _, rfl, ALe.of false [] 0
      [(0, .fr (.ro 13 []))]
      []
      .nil
      (.cons rfl (.nilFr rfl) .nil)
      (by simp), rfl, rfl⟩

theorem some1_spec (x : T) (hx : x.fit) : FSpec Tryz.prog 60 0 [.rp (encX x) 0] (hpOf []) (fun r h => r = .fr (.ro 13 (encL [x])) ∧ h = hpOf []) := by
  refine FSpec.intro Tryz.func60 rfl (nl rfl) (nl rfl) fun s0 w0 hs0 hn0 => ?_
  refine .ws 0 [(0, .rp (encX x) 0)] [] <| .seq <| .region <| .p (.assign Z Z) <| .nil <| .seq <| .seq <| .region <| .p (.move Z Z) <| .p (.peql ut86 Z Z Z Z) <| .nil <| .cF Z Z ?_
  refine .skip <| .seq <| .region <| .p (.move Z Z) <| .p (.nilCheck Z Z Z) <| .p (.rloadN ag35 sz35 Z Z (nl Z)) <| .p (.call0 [] false (Copy_spec x (by assumption)) Tryz.func27 (hv := by exact (.cons (.aggL (.same Z)) .nil))) ?_
  refine .c1 (.buildSlice 0 true [(encX x)] ut32 sz35 zt35 Z Z (by decide) (by decide) Z Z Z Z Z Z Z) ?_
  refine .p (.assign Z Z) <| .nil <| .ret ?_
  exact ⟨_, _, _, _, rfl, ALe.of true [] 0
      [(0, .fr (.ro 13 (encL [x])))]
      []
      .nil
      (.cons rfl (.freezeFR (els := [(encX x)]) rfl (by simp [encL, enc_eq])) .nil)
      (fun _ => ⟨hn0, hs0⟩), rfl, rfl⟩

theorem without_spec (l : List Fl) (k : ByteArray) (hl : l.length ≤ 100000) : FSpec Tryz.prog 55 1 [.sl 0 14 0 l.length, .S k] (hpOf [(0, .arr false 14 (encF l))]) (fun r h => r = .sl 1 14 0 (withoutM k l).length ∧ h = hpOf [(1, .arr false 14 (encF (withoutM k l)))]) := by
  refine FSpec.intro Tryz.func55 rfl (nl rfl) (nl rfl) fun s0 w0 hs0 hn0 => ?_
  refine .ws 1 [(0, .sl 0 14 0 l.length), (1, .S k)] [(0, .arr false 14 (encF l))] <| .seq <| .region <| .p (.assign Z Z) <| .nil <| .seq <| .region <| .p (.assign Z Z) <| .nil <| .seq <| .seq <| .region ?_
  refine .p (.move Z Z) <| .p (.len_sl ut33 Z Z (Option.some_ne_none _)) <| .p (.move Z Z) <| .nil <| .block <| .openNil 5 14 false ?_
  refine AWP.loop (G := { g : Nat // g ≤ l.length }) (fun g => envOf [(1, .S k), (5, .sl 90 14 0 (withoutM k (l.take g.1)).length), (8, .sl 0 14 0 l.length), (9, .N l.length), (10, .N g.1)]) (fun g => hpOf [(0, .arr false 14 (encF l)), (90, .arr false 14 (encF (withoutM k (l.take g.1))))]) (fun _ => 91) (fun g => l.length - g.1) ⟨(0), Nat.zero_le _⟩ (ALe.of false [(90, 1)] 91
      _
      _
      (.cons rfl (.arr rfl) (.cons rfl (.arr rfl) .nil))
      (.s (.cons rfl (.slE rfl) (.cons rfl .slR (.s (.s .nil)))))
      (by simp)) ?_
  rintro ⟨i, hg⟩
  try dsimp only at hg
  refine .ws 91 [(1, .S k), (5, .sl 90 14 0 (withoutM k (l.take i)).length), (8, .sl 0 14 0 l.length), (9, .N l.length), (10, .N i)] [(0, .arr false 14 (encF l)), (90, .arr false 14 (encF (withoutM k (l.take i))))] <| .seq <| .region <| .p (.ilss Z Z Z) <| .nil <| .seq ?_
  by_cases p2 : ((i : Nat) : Int) < ((l.length : Nat) : Int)
  have h1 := decide_eq_true p2
  refine .cT Z h1 <| .skip <| .seq <| .block <| .seq <| .region <| .p (.iaddr_sl0 ut33 sz72 Z Z Z Z (by omega) (Option.some_ne_none _)) ?_
  refine .p (.aloadN ag72 sz72 Z Z Z (encF_nth (by omega)) (nl Z)) ?_
  refine .c1 (.alloc 91 Z zt72 Z) <| .c0 (.store sz72 Z Z Z Z (notup Z) Z Z (nl Z)) <| .nil <| .seq <| .region <| .p (.faddr fo72_0 Z Z) <| .p (.load1 ag9 Z Z Z Z) <| .p (.move Z Z) <| .p (.sneq Z Z Z) <| .nil ?_
  by_cases p4 : (nthF l i).1 = k
  have h3 := decide_eq_true p4
  refine .cF Z (bnot h3) <| .skip <| .region <| .p (.iadd (r := (((i + 1) : Nat) : Int)) Z Z Z (wi (by omega) (by first | rfl | omega | (simp; done)))) ?_
  refine .p (.move Z Z) <| .nil ?_
  exact ⟨⟨((i + 1)), (by show i + 1 ≤ _; omega)⟩, (by simp; omega), (ALe.of false [] 91
      _
      _
      (.cons rfl (.arr rfl) (.cons rfl (.arr (by rw [withoutM_take (by omega), if_pos ‹_›])) .nil))
      (.s (.cons rfl (.slE (by first | (rw [withoutM_take (by omega), if_pos ‹_›]; done) | (rw [withoutM_take (by omega), if_neg ‹_›]; simp))) (.cons rfl .slR (.s (.s .nil)))))
      (by simp))⟩
  have h3 := decide_eq_false p4
  refine .cT Z (bnot h3) <| .region <| .p (.move Z Z) <| .p (.loadN ag72 sz72 Z Z Z (nl Z)) <| .c1 (.buildSlice 92 false [([.S ((nthF l i).1)] ++ encX (nthF l i).2)] ut33 sz72 zt72 Z Z (by decide) (by decide) Z Z Z Z Z Z Z) ?_
  refine .c1 (.appendN (n2 := ((withoutM k (l.take i)).length + 1)) 93 el33 Z Z Z (by first | rfl | (simp; done) | (simp; omega)) (.sl Z Z (nl Z) (by simp)) (by have h9 := withoutM_le k (l.take i); simp at h9; simp; omega) (by have h9 := withoutM_le k (l.take i); simp at h9; simp; omega) (by first | rfl | (simp; done) | (simp; omega))) ?_
  refine .p (.assign Z Z) <| .nil <| .region <| .p (.iadd (r := (((i + 1) : Nat) : Int)) Z Z Z (wi (by omega) (by first | rfl | omega | (simp; done)))) ?_
  refine .p (.move Z Z) <| .nil ?_
  exact ⟨⟨((i + 1)), (by show i + 1 ≤ _; omega)⟩, (by simp; omega), (ALe.of false [(90, 93)] 91
      _
      _
      (.cons rfl (.arr rfl) (.cons rfl (.arr (by rw [withoutM_take (by omega), if_neg ‹_›]; exact encF_snoc _ _)) .nil))
      (.s (.cons rfl (.slE (by first | (rw [withoutM_take (by omega), if_pos ‹_›]; done) | (rw [withoutM_take (by omega), if_neg ‹_›]; simp))) (.cons rfl .slR (.s (.s .nil)))))
      (by simp))⟩
  have h1 := decide_eq_false p2
  refine .cF Z h1 <| .exit <| .seq <| .region <| .p (.move Z Z) <| .p (.assign Z Z) <| .nil <| .ret ?_
  have hd : l.take i = l := List.take_of_length_le (by omega)
  exact ⟨_, _, _, _, rfl, ALe.of false [(1, 90)] 2
      [(0, .sl 1 14 0 (withoutM k l).length)]
      [(1, .arr false 14 (encF (withoutM k l)))]
      (.cons rfl (.arr (by rw [hd])) .nil)
      (.cons rfl (.slE (by rw [hd])) .nil)
      (by simp), rfl, rfl⟩
end Go.Abs
