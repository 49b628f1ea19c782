/- Part 12 of the proof that TopAltered returns true for every input of its row (no condition beyond the row). -/
import Derived.Test.YtelfcalhhfmjfaaGreatDoorT11
set_option linter.unusedVariables false
set_option linter.unusedSimpArgs false
namespace Go.Abs
open Go.Proofs
set_option maxRecDepth 100000
set_option maxHeartbeats 8000000

def zv53 : Value := .slice none 0 0
theorem zt53 : (Tryz.prog.info? 53).bind (·.zero) = some zv53 := by kernel_rfl
def zv111 : Value := .nilFunc
theorem zt111 : (Tryz.prog.info? 111).bind (·.zero) = some zv111 := by kernel_rfl
theorem sz111 : (Tryz.prog.info? 111).map (·.size) = some 1 := by kernel_rfl
def an32_5 : List Nat := [0, 1, 3, 7, 0, 15, 63]

theorem three_spec (tk : List Bool) (htk : tk.length ≤ 100000) (d : Nat) (hd : d ≤ 900) (b o t : T) (hk : okTri d (some b) (some o) (some t)) (hB : (atM tk d [] (some b) (some o) (some t) []).2.length ≤ 100000) (hs : (atM tk d [] (some b) (some o) (some t) []).1.isSome = true) : FSpec Tryz.prog 32 0 [.agg (encX b), .agg (encX o), .agg (encX t), .ro 1 (rowsOf boolCells tk)] (hpOf []) (fun r h => r = .tup [.agg (encFr ((atM tk d [] (some b) (some o) (some t) []).1.getD T.nul)), .ro 4 (rowsOf Cft.cells (atM tk d [] (some b) (some o) (some t) []).2)] ∧ h = hpOf []) := by
  have ih := atAll_spec tk htk d hd
  refine FSpec.intro Tryz.func32 rfl (nl rfl) (nl rfl) fun s0 w0 hs0 hn0 => ?_
  refine .ws 0 [(0, .agg (encX b)), (1, .agg (encX o)), (2, .agg (encX t)), (3, .ro 1 (rowsOf boolCells tk))] [] <| .seq <| .region <| .c1 (.box 0 Z Z (notup Z)) <| .c1 (.box 1 Z Z (notup Z)) <| .c1 (.box 2 Z Z (notup Z)) <| .c1 (.box 3 Z Z (notup Z)) <| .c1 (.alloc 4 Z zt35 Z) <| .p (.assign Z Z) <| .nil <| .seq <| .region ?_
  refine .c1 (.alloc 5 Z zt53 Z) <| .nil <| .seq <| .region <| .c1 (.alloc 6 Z zt111 Z) <| .nil ?_
  refine AWP.weak false [] 7
      [(4, .rp (encX b) 0), (5, .rp (encX o) 0), (6, .rp (encX t) 0), (7, .rp [.ro 1 (rowsOf boolCells tk)] 0), (8, .P 4), (10, .P 5), (11, .P 6)]
      [(4, .box [.I 0, .B false, .B false, .S ⟨#[]⟩, .I 0, .I 0, .I 0, .I 0, .I 0, .S ⟨#[]⟩, .O, .O, .O]), (5, .box [.O]), (6, .box [.lit (.nilFunc)])]
      (.cons rfl (.boxS rfl) (.cons rfl (.boxS rfl) (.cons rfl (.boxS rfl) .nil)))
      (.cons rfl (.pfreezeL (.cons (.same rfl) (.cons (.same rfl) (.cons (.same rfl) (.cons (.same rfl) (.cons (.same rfl) (.cons (.same rfl) (.cons (.same rfl) (.cons (.same rfl) (.cons (.same rfl) (.cons (.same rfl) (.cons (.same rfl) (.cons (.same rfl) (.cons (.same rfl) .nil)))))))))))))) (.cons rfl (.pfreezeL (.cons (.same rfl) (.cons (.same rfl) (.cons (.same rfl) (.cons (.same rfl) (.cons (.same rfl) (.cons (.same rfl) (.cons (.same rfl) (.cons (.same rfl) (.cons (.same rfl) (.cons (.same rfl) (.cons (.same rfl) (.cons (.same rfl) (.cons (.same rfl) .nil)))))))))))))) (.cons rfl (.pfreezeL (.cons (.same rfl) (.cons (.same rfl) (.cons (.same rfl) (.cons (.same rfl) (.cons (.same rfl) (.cons (.same rfl) (.cons (.same rfl) (.cons (.same rfl) (.cons (.same rfl) (.cons (.same rfl) (.cons (.same rfl) (.cons (.same rfl) (.cons (.same rfl) .nil)))))))))))))) (.cons rfl (.pfreezeL (.cons (.same rfl) .nil)) (.cons rfl .ptrR (.cons rfl .ptrR (.cons rfl .ptrR .nil)))))))
      (by simp) ?_
  refine .seq <| .region <| .p (.makeFunc Z Z) <| .c0 (.store sz111 Z Z Z Z (notup Z) Z Z (nl Z)) <| .nil <| .openCell 5 0 4 false ?_
  refine .ws 8 [(4, .rp (encX b) 0), (5, .rp (encX o) 0), (6, .rp (encX t) 0), (8, .P 4), (10, .P 5), (11, .P 6)] [(4, .box [.I 0, .B false, .B false, .S ⟨#[]⟩, .I 0, .I 0, .I 0, .I 0, .I 0, .S ⟨#[]⟩, .O, .O, .O]), (5, .box [.sl 7 4 0 0]), (6, .box [.fn 56 [.P 6, .P 5, .rp [.ro 1 (rowsOf boolCells tk)] 0]]), (7, .arr false 4 (rowsOf Cft.cells []))] <| .seq <| .region <| .p (.load1 ag111 Z Z Z Z) ?_
  have h1 : (atM tk d [] (some b) (some o) (some t) []).1.isSome = true := hs
  refine .c1 (.callN [6, 5, 7, 8] [8] false (at_Y ih [] (some b) (some o) (some t) [] hk (by simp; omega) hB h1) Tryz.func56 (hc := by exact (.cons (.cons (.cons .nil Z Z Z (.boxL (.cons (.fnL (.cons (.ptr (nl Z) Z) (.cons (.ptr (nl Z) Z) (.cons (.same Z) .nil)))) .nil))) Z Z Z (.boxL (.cons (.sl (nl Z) Z Z) .nil))) Z Z Z (.arrE Z))) (hv := by exact (.cons (.nilRo Z) (.cons (.same Z) (.cons (.same Z) (.cons (.same Z) (.cons (.ptr (nl Z) Z) (.cons (.ptr (nl Z) Z) (.cons (.same Z) .nil))))))))) ?_
  refine .p (.assign Z Z) <| .nil <| .seq <| .region_p fol an32_5 (by kernel_rfl) Z ?_
  refine .p [] (.move Z Z) <| .p [] (.nilCheck Z Z Z) <| .p [] (.rloadN ag35 sz35 Z Z (nl Z)) <| .p [] (.call0 [] false (Copy_spec ((atM tk d [] (some b) (some o) (some t) []).1.getD T.nul) (T.ok_le (atM_ok tk d _ _ _ _ _ hk _ (some_getD hs).symm) (by omega))) Tryz.func27 (hv := by exact (.cons (.aggL (.same Z)) .nil))) ?_
  refine .p [5] (.load1 ag53 Z Z Z Z) <| .c 9 [4] (.store sz35 Z Z Z Z (notup Z) Z Z (nl Z)) <| .p [] (.assign Z Z) <| .nil (by kernel_rfl) ?_
  refine .ret ?_
  exact ⟨_, _, _, _, rfl, ALe.of false [] 0
      [(0, .tup [.agg (encFr ((atM tk d [] (some b) (some o) (some t) []).1.getD T.nul)), .ro 4 (rowsOf Cft.cells (atM tk d [] (some b) (some o) (some t) []).2)])]
      []
      .nil
      (.cons rfl (.tupL (.cons (.aggS rfl) (.cons (.freezeR (els := (rowsOf Cft.cells (atM tk d [] (some b) (some o) (some t) []).2)) (by simp) rfl) .nil))) .nil)
      (by simp), rfl, rfl⟩

theorem Three_spec (d : Nat) (hd : d ≤ 900) (b o t : T) (hk : okTri d (some b) (some o) (some t)) (hB : (atM [] d [] (some b) (some o) (some t) []).2.length ≤ 100000) (hs : (atM [] d [] (some b) (some o) (some t) []).1.isSome = true) : FSpec Tryz.prog 14 0 [.agg (encX b), .agg (encX o), .agg (encX t)] (hpOf []) (fun r h => r = .tup [.agg (encFr ((atM [] d [] (some b) (some o) (some t) []).1.getD T.nul)), .ro 4 (rowsOf Cft.cells (atM [] d [] (some b) (some o) (some t) []).2)] ∧ h = hpOf []) := by
  refine FSpec.intro Tryz.func14 rfl (nl rfl) (nl rfl) fun s0 w0 hs0 hn0 => ?_
  refine .ws 0 [(0, .agg (encX b)), (1, .agg (encX o)), (2, .agg (encX t))] [] <| .seq <| .region <| .c1 (.box 0 Z Z (notup Z)) <| .c1 (.box 1 Z Z (notup Z)) <| .c1 (.box 2 Z Z (notup Z)) <| .c1 (.alloc 3 Z zt35 Z) <| .p (.assign Z Z) <| .nil <| .seq <| .region <| .p (.loadN ag35 sz35 Z Z Z (nl Z)) ?_
  refine .p (.loadN ag35 sz35 Z Z Z (nl Z)) <| .p (.loadN ag35 sz35 Z Z Z (nl Z)) <| .p (.call0 [] false (three_spec [] (by simp) d hd b o t hk hB hs) Tryz.func32 (hv := by exact (.cons (.aggL (.same Z)) (.cons (.aggL (.same Z)) (.cons (.aggL (.same Z)) (.cons (.nilRo Z) .nil)))))) ?_
  refine .p (.extract Z Z Z) <| .p (.extract Z Z Z) <| .c0 (.store sz35 Z Z Z Z (notup Z) Z Z (nl Z)) <| .p (.assign Z Z) <| .nil <| .ret ?_
  exact ⟨_, _, _, _, rfl, ALe.s (l := [(0, .tup [.agg (encFr ((atM [] d [] (some b) (some o) (some t) []).1.getD T.nul)), .ro 4 (rowsOf Cft.cells (atM [] d [] (some b) (some o) (some t) []).2)])]) (m := []) (nx' := 0), rfl, rfl⟩

theorem Resolve_spec (tk : List Bool) (htk : tk.length ≤ 100000) (d : Nat) (hd : d ≤ 900) (b o t : T) (hk : okTri d (some b) (some o) (some t)) (hB : (atM tk d [] (some b) (some o) (some t) []).2.length ≤ 100000) (hs : (atM tk d [] (some b) (some o) (some t) []).1.isSome = true) : FSpec Tryz.prog 17 0 [.agg (encX b), .agg (encX o), .agg (encX t), .ro 1 (rowsOf boolCells tk)] (hpOf []) (fun r h => r = .tup [.agg (encFr ((atM tk d [] (some b) (some o) (some t) []).1.getD T.nul)), .N ((atM tk d [] (some b) (some o) (some t) []).2.length)] ∧ h = hpOf []) := by
  refine FSpec.intro Tryz.func17 rfl (nl rfl) (nl rfl) fun s0 w0 hs0 hn0 => ?_
  refine .ws 0 [(0, .agg (encX b)), (1, .agg (encX o)), (2, .agg (encX t)), (3, .ro 1 (rowsOf boolCells tk))] [] <| .seq <| .region <| .c1 (.box 0 Z Z (notup Z)) <| .c1 (.box 1 Z Z (notup Z)) <| .c1 (.box 2 Z Z (notup Z)) <| .c1 (.alloc 3 Z zt35 Z) <| .p (.assign Z Z) <| .nil <| .seq <| .region <| .p (.loadN ag35 sz35 Z Z Z (nl Z)) ?_
  refine .p (.loadN ag35 sz35 Z Z Z (nl Z)) <| .p (.loadN ag35 sz35 Z Z Z (nl Z)) <| .p (.move Z Z) <| .p (.call0 [] false (three_spec tk htk d hd b o t hk hB hs) Tryz.func32 (hv := by exact (.cons (.aggL (.same Z)) (.cons (.aggL (.same Z)) (.cons (.aggL (.same Z)) (.cons (.same Z) .nil)))))) ?_
  refine .p (.move Z Z) <| .p (.extract Z Z Z) <| .p (.extract Z Z Z) <| .c1 (.alloc 4 Z zt35 Z) <| .c0 (.store sz35 Z Z Z Z (notup Z) Z Z (nl Z)) <| .p (.assign Z Z) <| .nil <| .seq <| .region <| .p (.loadN ag35 sz35 Z Z Z (nl Z)) <| .p (.move Z Z) <| .p (.len_ro (n := (atM tk d [] (some b) (some o) (some t) []).2.length) ut53 Z (.inl Z) (by simp)) ?_
  refine .c0 (.store sz35 Z Z Z Z (notup Z) Z Z (nl Z)) <| .p (.assign Z Z) <| .nil <| .ret ?_
  exact ⟨_, _, _, _, rfl, ALe.s (l := [(0, .tup [.agg (encFr ((atM tk d [] (some b) (some o) (some t) []).1.getD T.nul)), .N ((atM tk d [] (some b) (some o) (some t) []).2.length)])]) (m := []) (nx' := 0), rfl, rfl⟩
end Go.Abs
namespace Go.Abs
open Go.Proofs
set_option maxRecDepth 100000
set_option maxHeartbeats 8000000

def an11_16 : List Nat := [0, 1, 3, 7, 15, 31, 7, 71, 255, 511]

theorem delta0_spec (a b : T) (hb : b.fit) (hk : ¬ b.kind = 7) : FSpec Tryz.prog 11 0 [.agg (encX a), .agg (encX b)] (hpOf []) (fun r h => r = .tup [.agg (encX b), .B true] ∧ h = hpOf []) := by
  refine FSpec.intro Tryz.func11 rfl (nl rfl) (nl rfl) fun s0 w0 hs0 hn0 => ?_
  refine .ws 0 [(0, .agg (encX a)), (1, .agg (encX b))] [] <| .seq <| .region <| .c1 (.box 0 Z Z (notup Z)) <| .c1 (.box 1 Z Z (notup Z)) <| .c1 (.alloc 2 Z zt35 Z) <| .p (.assign Z Z) <| .nil <| .seq <| .seq <| .region <| .p (.faddr fo35_0 Z Z) ?_
  refine .p (.load1 ag3 Z Z Z Z) <| .p (.ineq Z Z Z) <| .nil ?_
  have h1 : (decide (b.kind = 7)) = false := decide_eq_false hk
  refine .cT Z (bnot h1) <| .seq <| .region <| .p (.loadN ag35 sz35 Z Z Z (nl Z)) <| .p (.call0 [] false (Copy_spec b hb) Tryz.func27 (hv := by exact (.cons (.aggL (.same Z)) .nil))) ?_
  refine .c0 (.store sz35 Z Z Z Z (notup Z) Z Z (nl Z)) <| .p (.assign Z Z) <| .nil <| .ret ?_
  exact ⟨_, _, _, _, rfl, ALe.of false [] 0
      [(0, .tup [.agg (encX b), .B true])]
      []
      .nil
      (.cons rfl (.tupL (.cons (.aggL (.cons (.same rfl) (.cons (.same rfl) (.cons (.same rfl) (.cons (.same rfl) (.cons (.same rfl) (.cons (.same rfl) (.cons (.same rfl) (.cons (.same rfl) (.cons (.same rfl) (.cons (.same rfl) (.cons .unfr (.cons .unfr (.cons .unfr .nil)))))))))))))) (.cons (.same rfl) .nil))) .nil)
      (by simp), rfl, rfl⟩

theorem delta1_spec (d : Nat) (a b : T) (ih : ∀ a b, okDl d a b → FSpec Tryz.prog 11 0 [.agg (encX a), .agg (encX b)] (hpOf []) (fun r h => r = .tup [.agg (encX (deltaM d a b)), .B true] ∧ h = hpOf [])) (h : okDl (d + 1) a b) (hk : b.kind = 7) : FSpec Tryz.prog 11 0 [.agg (encX a), .agg (encX b)] (hpOf []) (fun r h => r = .tup [.agg (encX (T.map (dl2 (deltaM d) a.fields b.fields (dl1 b.fields a.fields [])))), .B true] ∧ h = hpOf []) := by
  have ha := h.1
  have hb := h.2.1
  have hka := (h.2.2 hk).1
  have ha3 := ha.2.2.1
  have hb3 := hb.2.2.1
  refine FSpec.intro Tryz.func11 rfl (nl rfl) (nl rfl) fun s0 w0 hs0 hn0 => ?_
  refine .ws 0 [(0, .agg (encX a)), (1, .agg (encX b))] [] <| .seq <| .region <| .c1 (.box 0 Z Z (notup Z)) <| .c1 (.box 1 Z Z (notup Z)) <| .c1 (.alloc 2 Z zt35 Z) <| .p (.assign Z Z) <| .nil <| .seq <| .seq <| .region <| .p (.faddr fo35_0 Z Z) ?_
  refine .p (.load1 ag3 Z Z Z Z) <| .p (.ineq Z Z Z) <| .nil ?_
  have h1 : (decide (b.kind = 7)) = true := decide_eq_true (by assumption)
  refine .cF Z (bnot h1) <| .skip <| .seq <| .region <| .p (.build Z zt35 Z pl35 Z Z) <| .c1 (.alloc 3 Z zt35 Z) <| .c0 (.store sz35 Z Z Z Z (notup Z) Z Z (nl Z)) <| .nil <| .seq <| .seq <| .region <| .p (.faddr fo35_0 Z Z) ?_
  refine .p (.load1 ag3 Z Z Z Z) <| .p (.ineq Z Z Z) <| .nil ?_
  have h2 : (decide (a.kind = 7)) = true := decide_eq_true (by assumption)
  refine .cF Z (bnot h2) <| .skip ?_
  refine AWP.weak false [] 4
      [(2, .rp (encX a) 0), (3, .rp (encX b) 0), (4, .P 2), (6, .P 3)]
      [(2, .box [.I 0, .B false, .B false, .S ⟨#[]⟩, .I 0, .I 0, .I 0, .I 0, .I 0, .S ⟨#[]⟩, .O, .O, .O]), (3, .box [.I 7, .B false, .B false, .S ⟨#[]⟩, .I 0, .I 0, .I 0, .I 0, .I 0, .S ⟨#[]⟩, .O, .O, .O])]
      (.cons rfl (.boxS rfl) (.cons rfl (.boxS rfl) .nil))
      (.cons rfl (.pfreezeL (.cons (.same rfl) (.cons (.same rfl) (.cons (.same rfl) (.cons (.same rfl) (.cons (.same rfl) (.cons (.same rfl) (.cons (.same rfl) (.cons (.same rfl) (.cons (.same rfl) (.cons (.same rfl) (.cons (.same rfl) (.cons (.same rfl) (.cons (.same rfl) .nil)))))))))))))) (.cons rfl (.pfreezeL (.cons (.same rfl) (.cons (.same rfl) (.cons (.same rfl) (.cons (.same rfl) (.cons (.same rfl) (.cons (.same rfl) (.cons (.same rfl) (.cons (.same rfl) (.cons (.same rfl) (.cons (.same rfl) (.cons (.same rfl) (.cons (.same rfl) (.cons (.same rfl) .nil)))))))))))))) (.cons rfl .ptrR (.cons rfl .ptrR .nil))))
      (by simp) ?_
  refine .seq <| .seq <| .region <| .p (.faddr_rp fo35_7 Z Z) <| .p (.rload1 ag33 Z Z Z) <| .p (.len_ro (n := a.fields.length) ut33 Z (.inl Z) (by simp)) ?_
  refine .p (.move Z Z) <| .nil <| .block <| .openCell 3 12 14 false ?_
  refine AWP.loop (G := { g : Nat × List Fl // g.1 ≤ a.fields.length ∧ dl1 b.fields (a.fields.drop g.1) g.2 = dl1 b.fields a.fields [] ∧ (g.2).length ≤ g.1 }) (fun g => envOf [(2, .rp (encX a) 0), (3, .rp (encX b) 0), (4, .P 2), (6, .P 3), (26, .ro 14 (encF a.fields)), (27, .N a.fields.length), (28, .N g.1.1)]) (fun g => hpOf [(2, .box [.I 0, .B false, .B false, .S ⟨#[]⟩, .I 0, .I 0, .I 0, .I 0, .I 0, .S ⟨#[]⟩, .O, .O, .O]), (3, .box [.I 7, .B false, .B false, .S ⟨#[]⟩, .I 0, .I 0, .I 0, .I 0, .I 0, .S ⟨#[]⟩, .O, .O, .sl 90 14 0 g.1.2.length]), (90, .arr false 14 (encF g.1.2))]) (fun _ => 91) (fun g => a.fields.length - g.1.1) ⟨(0, []), (by dsimp only; exact ⟨Nat.zero_le _, rfl, by simp⟩)⟩ (ALe.of false [(90, 4)] 91
      _
      _
      (.cons rfl (.boxS rfl) (.cons rfl (.boxL (.cons (.same rfl) (.cons (.same rfl) (.cons (.same rfl) (.cons (.same rfl) (.cons (.same rfl) (.cons (.same rfl) (.cons (.same rfl) (.cons (.same rfl) (.cons (.same rfl) (.cons (.same rfl) (.cons (.same rfl) (.cons (.same rfl) (.cons (.slE (by rfl)) .nil)))))))))))))) (.cons rfl (.arr (by rfl)) .nil)))
      (.s (.s (.cons rfl .ptrR (.cons rfl .ptrR (.s (.s (.s .nil)))))))
      (by simp)) ?_
  rintro ⟨⟨i, out⟩, hg⟩
  try dsimp only at hg
  obtain ⟨g1, g2, g3⟩ := hg
  refine .ws 91 [(2, .rp (encX a) 0), (3, .rp (encX b) 0), (4, .P 2), (6, .P 3), (26, .ro 14 (encF a.fields)), (27, .N a.fields.length), (28, .N i)] [(2, .box [.I 0, .B false, .B false, .S ⟨#[]⟩, .I 0, .I 0, .I 0, .I 0, .I 0, .S ⟨#[]⟩, .O, .O, .O]), (3, .box [.I 7, .B false, .B false, .S ⟨#[]⟩, .I 0, .I 0, .I 0, .I 0, .I 0, .S ⟨#[]⟩, .O, .O, .sl 90 14 0 out.length]), (90, .arr false 14 (encF out))] <| .seq <| .region <| .p (.ilss Z Z Z) <| .nil <| .seq ?_
  by_cases p4 : ((i : Nat) : Int) < ((a.fields.length : Nat) : Int)
  have h3 := decide_eq_true p4
  refine .cT Z h3 <| .skip <| .seq <| .block <| .seq <| .region <| .p (.iaddr_ro (row := ([.S ((nthF a.fields i).1)] ++ encX (nthF a.fields i).2)) ut33 sz72 Z Z Z Z (encF_nth (by omega))) ?_
  refine .p (.rloadN ag72 sz72 Z Z (nl Z)) <| .c1 (.alloc 91 Z zt72 Z) <| .c0 (.store sz72 Z Z Z Z (notup Z) Z Z (nl Z)) <| .nil <| .seq <| .region <| .p (.faddr fo72_0 Z Z) <| .p (.load1 ag9 Z Z Z Z) ?_
  rcases Bool.eq_false_or_eq_true (fieldM (nthF a.fields i).1 b.fields).isSome with h5 | h5
  refine .p (.call0 [] false (mfieldY_spec b (nthF a.fields i).1 hb (by assumption) h5) Tryz.func29 (hv := by exact (.same Z))) ?_
  refine .p (.peql ut86 Z Z Z Z) <| .nil <| .cF Z Z <| .skip <| .region <| .p (.iadd (r := (((i + 1) : Nat) : Int)) Z Z Z (wi (by omega) (by first | rfl | omega | (simp; done)))) ?_
  refine .p (.move Z Z) <| .nil ?_
  have hq : (i + 1) ≤ a.fields.length ∧ dl1 b.fields (a.fields.drop (i + 1)) out = dl1 b.fields a.fields [] ∧ (out).length ≤ (i + 1) := by
    refine ⟨by omega, ?_, by first | omega | (simp; omega)⟩
    rw [dl1_nth (by omega)] at g2
    first | rw [if_pos ‹_›] at g2 | rw [if_neg (by simp_all)] at g2
    exact g2
  exact ⟨⟨((i + 1), out), hq⟩, (by simp; omega), ALe.s⟩
  refine .p (.call0 [] false (mfieldN_spec b (nthF a.fields i).1 hb (by assumption) h5) Tryz.func29 (hv := by exact (.same Z))) ?_
  refine .p (.peql0 ut86 Z Z Z) <| .nil <| .cT Z Z <| .region <| .p (.faddr fo35_7 Z Z) <| .p (.load1 ag33 Z Z Z Z) <| .p (.faddr fo72_0 Z Z) <| .p (.load1 ag9 Z Z Z Z) <| .p (.wk (x := .agg [.S ((nthF a.fields i).1), .I 0, .B false, .B false, .S ⟨#[]⟩, .I 0, .I 0, .I 0, .I 0, .I 0, .S ⟨#[]⟩, .O, .O, .O]) (y := .agg [.S ((nthF a.fields i).1), .I 0, .B false, .B false, .S ⟨#[]⟩, .I 0, .I 0, .I 0, .I 0, .I 0, .S ⟨#[]⟩, .fr (.ro 1 []), .fr (.ro 13 []), .fr (.ro 14 [])]) (.build Z zt72 Z pl72 Z Z) (.agg (.cons .same (.cons .same (.cons .same (.cons .same (.cons .same (.cons .same (.cons .same (.cons .same (.cons .same (.cons .same (.cons .same (.cons .nilFr (.cons .nilFr (.cons .nilFr .all)))))))))))))))) <| .c1 (.buildSlice 92 true [[.S ((nthF a.fields i).1), .I 0, .B false, .B false, .S ⟨#[]⟩, .I 0, .I 0, .I 0, .I 0, .I 0, .S ⟨#[]⟩, .ro 1 [], .ro 13 [], .ro 14 []]] ut33 sz72 zt72 Z Z (by decide) (by decide) Z Z Z Z Z Z Z) ?_
  refine .c1 (.appendN (n2 := (out.length + 1)) 93 el33 Z Z Z (by first | rfl | (simp; done) | (simp; omega)) (.sl Z Z (nl Z) (by simp)) (by simp only [encF_len, List.length_append, List.length_take, List.length_drop, List.length_cons, List.length_nil]; omega) (by simp only [encF_len, List.length_append, List.length_take, List.length_drop, List.length_cons, List.length_nil]; omega) (by first | rfl | (simp; done) | (simp; omega))) ?_
  refine .p (.faddr fo35_7 Z Z) <| .c0 (.store sz33 Z Z Z Z (notup Z) Z Z (nl Z)) <| .nil <| .region <| .p (.iadd (r := (((i + 1) : Nat) : Int)) Z Z Z (wi (by omega) (by first | rfl | omega | (simp; done)))) ?_
  refine .p (.move Z Z) <| .nil ?_
  have hq : (i + 1) ≤ a.fields.length ∧ dl1 b.fields (a.fields.drop (i + 1)) (out ++ [((nthF a.fields i).1, T.nul)]) = dl1 b.fields a.fields [] ∧ ((out ++ [((nthF a.fields i).1, T.nul)])).length ≤ (i + 1) := by
    refine ⟨by omega, ?_, by first | omega | (simp; omega)⟩
    rw [dl1_nth (by omega)] at g2
    first | rw [if_pos ‹_›] at g2 | rw [if_neg (by simp_all)] at g2
    exact g2
  exact ⟨⟨((i + 1), (out ++ [((nthF a.fields i).1, T.nul)])), hq⟩, (by simp; omega), (ALe.of false [(90, 93)] 91
      _
      _
      (.cons rfl (.boxS rfl) (.cons rfl (.boxL (.cons (.same rfl) (.cons (.same rfl) (.cons (.same rfl) (.cons (.same rfl) (.cons (.same rfl) (.cons (.same rfl) (.cons (.same rfl) (.cons (.same rfl) (.cons (.same rfl) (.cons (.same rfl) (.cons (.same rfl) (.cons (.same rfl) (.cons (.slE (by first | rfl | (simp; done))) .nil)))))))))))))) (.cons rfl (.arr (encF_snoc out ((nthF a.fields i).1, T.nul))) .nil)))
      (.s (.s (.cons rfl .ptrR (.cons rfl .ptrR (.s (.s (.s .nil)))))))
      (by simp))⟩
  have h3 := decide_eq_false p4
  refine .cF Z h3 ?_
  have hI : dl1 b.fields a.fields [] = out := by rw [← g2]; exact dl1_end (by omega) _
  refine .exit <| .seq <| .seq <| .region <| .p (.faddr_rp fo35_7 Z Z) <| .p (.rload1 ag33 Z Z Z) <| .p (.len_ro (n := b.fields.length) ut33 Z (.inl Z) (by simp)) ?_
  refine .p (.move Z Z) <| .nil <| .block ?_
  refine AWP.loop (G := { g : Nat × List Fl // g.1 ≤ b.fields.length ∧ dl2 (deltaM d) a.fields (b.fields.drop g.1) g.2 = dl2 (deltaM d) a.fields b.fields out ∧ (g.2).length ≤ 100000 + g.1 }) (fun g => envOf [(2, .rp (encX a) 0), (4, .P 2), (6, .P 3), (46, .ro 14 (encF b.fields)), (47, .N b.fields.length), (48, .N g.1.1)]) (fun g => hpOf [(2, .box [.I 0, .B false, .B false, .S ⟨#[]⟩, .I 0, .I 0, .I 0, .I 0, .I 0, .S ⟨#[]⟩, .O, .O, .O]), (3, .box [.I 7, .B false, .B false, .S ⟨#[]⟩, .I 0, .I 0, .I 0, .I 0, .I 0, .S ⟨#[]⟩, .O, .O, .sl 90 14 0 g.1.2.length]), (90, .arr false 14 (encF g.1.2))]) (fun _ => 91) (fun g => b.fields.length - g.1.1) ⟨(0, out), (by dsimp only; exact ⟨Nat.zero_le _, rfl, by omega⟩)⟩ ALe.s ?_
  rintro ⟨⟨j, ou2⟩, hg⟩
  try dsimp only at hg
  obtain ⟨g4, g5, g6⟩ := hg
  refine .ws 91 [(2, .rp (encX a) 0), (4, .P 2), (6, .P 3), (46, .ro 14 (encF b.fields)), (47, .N b.fields.length), (48, .N j)] [(2, .box [.I 0, .B false, .B false, .S ⟨#[]⟩, .I 0, .I 0, .I 0, .I 0, .I 0, .S ⟨#[]⟩, .O, .O, .O]), (3, .box [.I 7, .B false, .B false, .S ⟨#[]⟩, .I 0, .I 0, .I 0, .I 0, .I 0, .S ⟨#[]⟩, .O, .O, .sl 90 14 0 ou2.length]), (90, .arr false 14 (encF ou2))] <| .seq <| .region <| .p (.ilss Z Z Z) <| .nil <| .seq ?_
  by_cases p7 : ((j : Nat) : Int) < ((b.fields.length : Nat) : Int)
  have h6 := decide_eq_true p7
  refine .cT Z h6 <| .skip <| .seq <| .block <| .seq <| .region <| .p (.iaddr_ro (row := ([.S ((nthF b.fields j).1)] ++ encX (nthF b.fields j).2)) ut33 sz72 Z Z Z Z (encF_nth (by omega))) ?_
  refine .p (.rloadN ag72 sz72 Z Z (nl Z)) <| .c1 (.alloc 91 Z zt72 Z) <| .c0 (.store sz72 Z Z Z Z (notup Z) Z Z (nl Z)) <| .nil <| .seq <| .region <| .p (.faddr fo72_0 Z Z) <| .p (.load1 ag9 Z Z Z Z) ?_
  rcases Bool.eq_false_or_eq_true (fieldM (nthF b.fields j).1 a.fields).isSome with h8 | h8
  refine .p (.call0 [] false (mfieldY_spec a (nthF b.fields j).1 ha (by assumption) h8) Tryz.func29 (hv := by exact (.same Z))) ?_
  refine .p (.assign Z Z) <| .nil <| .seq <| .seq <| .region_p fol an11_16 (by kernel_rfl) Z ?_
  refine .p [] (.move Z Z) <| .p [] (.pneq ut86 Z Z Z Z) <| .p [] (.move Z Z) <| .yes [] (b := true) (.move Z Z) Z Z (Eq.refl true) <| .yes [] (b := true) (.nilCheck Z Z Z) Z Z (Eq.refl true) <| .yes [] (b := true) (.rloadN ag35 sz35 Z Z (nl Z)) Z Z (Eq.refl true) <| .yes [] (b := true) (.faddr fo72_1 Z Z) Z Z (Eq.refl true) <| .yes [91] (b := true) (.loadN ag35 sz35 Z Z Z (nl Z)) Z Z (Eq.refl true) <| .yes [] (b := true) (.call0 [] false (Equal_spec ((fieldM (nthF b.fields j).1 a.fields).getD T.nul) (nthF b.fields j).2 (fit_fieldM ha ‹_›) (fit_field hb (nthF_mem (by omega)))) Tryz.func30 (hv := by exact (.cons (.aggL (.same Z)) (.cons (.aggL (.same Z)) .nil)))) Z Z (Eq.refl true) ?_
  refine .p [] (.pick Z Z Z) <| .nil (by kernel_rfl) ?_
  rcases Bool.eq_false_or_eq_true (sameM 1000 ((fieldM (nthF b.fields j).1 a.fields).getD T.nul) (nthF b.fields j).2) with h9 | h9
  refine .cT Z h9 <| .exit <| .region <| .p (.iadd (r := (((j + 1) : Nat) : Int)) Z Z Z (wi (by omega) (by first | rfl | omega | (simp; done)))) ?_
  refine .p (.move Z Z) <| .nil ?_
  have hq : (j + 1) ≤ b.fields.length ∧ dl2 (deltaM d) a.fields (b.fields.drop (j + 1)) ou2 = dl2 (deltaM d) a.fields b.fields out ∧ (ou2).length ≤ 100000 + (j + 1) := by
    refine ⟨by omega, ?_, by first | omega | (simp; omega)⟩
    rw [dl2_nth (by omega)] at g5
    first | rw [if_pos ⟨by assumption, by assumption⟩] at g5 | rw [if_neg (by simp_all)] at g5
    exact g5
  exact ⟨⟨((j + 1), ou2), hq⟩, (by simp; omega), ALe.s⟩
  refine .cF Z h9 <| .skip <| .seq <| .region <| .c1 (.alloc 92 Z zt35 Z) <| .nil <| .seq <| .seq <| .region <| .p (.move Z Z) <| .p (.pneq ut86 Z Z Z Z) <| .nil ?_
  refine .cT Z Z <| .region <| .p (.move Z Z) <| .p (.nilCheck Z Z Z) <| .p (.rloadN ag35 sz35 Z Z (nl Z)) <| .c0 (.store sz35 Z Z Z Z (notup Z) Z Z (nl Z)) <| .nil <| .seq <| .region <| .p (.loadN ag35 sz35 Z Z Z (nl Z)) <| .p (.faddr fo72_1 Z Z) <| .p (.loadN ag35 sz35 Z Z Z (nl Z)) ?_
  refine .p (.call0 [] false (ih ((fieldM (nthF b.fields j).1 a.fields).getD T.nul) (nthF b.fields j).2 ((h.2.2 hk).2 _ (nthF_mem (by omega))).2) Tryz.func11 (hv := by exact (.cons (.aggL (.same Z)) (.cons (.aggL (.same Z)) .nil)))) ?_
  refine .p (.move Z Z) <| .p (.extract Z Z Z) <| .p (.extract Z Z Z) <| .c1 (.alloc 93 Z zt35 Z) <| .c0 (.store sz35 Z Z Z Z (notup Z) Z Z (nl Z)) <| .p (.assign Z Z) <| .nil <| .seq <| .seq <| .region <| .p (.move Z Z) <| .p (.not Z Z) ?_
  refine .p (.move Z Z) <| .yF (.faddr fo72_1 Z Z) Z Z (Eq.refl false) <| .yF (.faddr fo35_0 Z Z) Z Z (Eq.refl false) <| .yF (.load1 ag3 Z Z Z Z) Z Z (Eq.refl false) <| .yF (.ieql Z Z Z) Z Z (Eq.refl false) <| .p (.pick Z Z Z) <| .nil <| .ws 94 [(2, .rp (encX a) 0), (4, .P 2), (6, .P 3), (10, .P 91), (13, .P 93), (46, .ro 14 (encF b.fields)), (47, .N b.fields.length), (48, .N j), (84, .B (decide ((nthF b.fields j).2.kind = 0)))] [(2, .box [.I 0, .B false, .B false, .S ⟨#[]⟩, .I 0, .I 0, .I 0, .I 0, .I 0, .S ⟨#[]⟩, .O, .O, .O]), (3, .box [.I 7, .B false, .B false, .S ⟨#[]⟩, .I 0, .I 0, .I 0, .I 0, .I 0, .S ⟨#[]⟩, .O, .O, .sl 90 14 0 ou2.length]), (90, .arr false 14 (encF ou2)), (91, .box ([.S ((nthF b.fields j).1)] ++ encX (nthF b.fields j).2)), (93, .box (encX (deltaM d ((fieldM (nthF b.fields j).1 a.fields).getD T.nul) (nthF b.fields j).2)))] ?_
  have h10 : (decide ((nthF b.fields j).2.kind = 0)) = false := decide_eq_false ((h.2.2 hk).2 _ (nthF_mem (by omega))).1
  refine .cF Z h10 <| .skip <| .region <| .p (.faddr fo35_7 Z Z) <| .p (.load1 ag33 Z Z Z Z) <| .p (.faddr fo72_0 Z Z) <| .p (.load1 ag9 Z Z Z Z) <| .p (.loadN ag35 sz35 Z Z Z (nl Z)) <| .p (.build Z zt72 Z pl72 Z Z) <| .c1 (.buildSlice 94 false [([.S ((nthF b.fields j).1)] ++ encX (deltaM d ((fieldM (nthF b.fields j).1 a.fields).getD T.nul) (nthF b.fields j).2))] ut33 sz72 zt72 Z Z (by decide) (by decide) Z Z Z Z Z Z Z) ?_
  refine .c1 (.appendN (n2 := (ou2.length + 1)) 95 el33 Z Z Z (by first | rfl | (simp; done) | (simp; omega)) (.sl Z Z (nl Z) (by simp)) (by simp only [encF_len, List.length_append, List.length_take, List.length_drop, List.length_cons, List.length_nil]; omega) (by simp only [encF_len, List.length_append, List.length_take, List.length_drop, List.length_cons, List.length_nil]; omega) (by first | rfl | (simp; done) | (simp; omega))) ?_
  refine .p (.faddr fo35_7 Z Z) <| .c0 (.store sz33 Z Z Z Z (notup Z) Z Z (nl Z)) <| .nil <| .region <| .p (.iadd (r := (((j + 1) : Nat) : Int)) Z Z Z (wi (by omega) (by first | rfl | omega | (simp; done)))) ?_
  refine .p (.move Z Z) <| .nil ?_
  have hq : (j + 1) ≤ b.fields.length ∧ dl2 (deltaM d) a.fields (b.fields.drop (j + 1)) (ou2 ++ [((nthF b.fields j).1, (deltaM d ((fieldM (nthF b.fields j).1 a.fields).getD T.nul) (nthF b.fields j).2))]) = dl2 (deltaM d) a.fields b.fields out ∧ ((ou2 ++ [((nthF b.fields j).1, (deltaM d ((fieldM (nthF b.fields j).1 a.fields).getD T.nul) (nthF b.fields j).2))])).length ≤ 100000 + (j + 1) := by
    refine ⟨by omega, ?_, by first | omega | (simp; omega)⟩
    rw [dl2_nth (by omega)] at g5
    first | rw [if_pos ⟨by assumption, by assumption⟩] at g5 | rw [if_neg (by simp_all)] at g5
    exact g5
  exact ⟨⟨((j + 1), (ou2 ++ [((nthF b.fields j).1, (deltaM d ((fieldM (nthF b.fields j).1 a.fields).getD T.nul) (nthF b.fields j).2))])), hq⟩, (by simp; omega), (ALe.of false [(90, 95)] 91
      _
      _
      (.cons rfl (.boxS rfl) (.cons rfl (.boxL (.cons (.same rfl) (.cons (.same rfl) (.cons (.same rfl) (.cons (.same rfl) (.cons (.same rfl) (.cons (.same rfl) (.cons (.same rfl) (.cons (.same rfl) (.cons (.same rfl) (.cons (.same rfl) (.cons (.same rfl) (.cons (.same rfl) (.cons (.slE (by first | rfl | (simp; done))) .nil)))))))))))))) (.cons rfl (.arr (encF_snoc ou2 ((nthF b.fields j).1, (deltaM d ((fieldM (nthF b.fields j).1 a.fields).getD T.nul) (nthF b.fields j).2)))) .nil)))
      (.s (.cons rfl .ptrR (.cons rfl .ptrR (.s (.s (.s .nil))))))
      (by simp))⟩
  refine .p (.call0 [] false (mfieldN_spec a (nthF b.fields j).1 ha (by assumption) h8) Tryz.func29 (hv := by exact (.same Z))) ?_
  refine .p (.assign Z Z) <| .nil <| .seq <| .seq <| .region_p fol an11_16 (by kernel_rfl) Z ?_
  refine .p [] (.move Z Z) <| .p [] (.pneq0 ut86 Z Z Z) <| .p [] (.move Z Z) <| .no (b := false) Z Z Z (Eq.refl false) <| .no (b := false) Z Z Z (Eq.refl false) <| .no (b := false) Z Z Z (Eq.refl false) <| .no (b := false) Z Z Z (Eq.refl false) <| .no (b := false) Z Z Z (Eq.refl false) <| .no (b := false) Z Z Z (Eq.refl false) <| .p [] (.pick Z Z Z) <| .nil (by kernel_rfl) ?_
  refine .cF Z Z <| .skip <| .seq <| .region <| .c1 (.alloc 92 Z zt35 Z) <| .nil <| .seq <| .seq <| .region <| .p (.move Z Z) <| .p (.pneq0 ut86 Z Z Z) <| .nil ?_
  refine .cF Z Z <| .skip <| .seq <| .region <| .p (.loadN ag35 sz35 Z Z Z (nl Z)) <| .p (.faddr fo72_1 Z Z) <| .p (.loadN ag35 sz35 Z Z Z (nl Z)) <| .p (.call0 [] false (ih T.nul (nthF b.fields j).2 (by have h9 := ((h.2.2 hk).2 _ (nthF_mem (i := j) (by omega))).2; rw [none_of h8] at h9; exact h9)) Tryz.func11 (hv := by exact (.cons (.aggL (.cons (.same Z) (.cons (.same Z) (.cons (.same Z) (.cons (.same Z) (.cons (.same Z) (.cons (.same Z) (.cons (.same Z) (.cons (.same Z) (.cons (.same Z) (.cons (.same Z) (.cons (.nilRo Z) (.cons (.nilRo Z) (.cons (.nilRo Z) .nil)))))))))))))) (.cons (.aggL (.same Z)) .nil)))) ?_
  refine .p (.move Z Z) <| .p (.extract Z Z Z) <| .p (.extract Z Z Z) <| .c1 (.alloc 93 Z zt35 Z) <| .c0 (.store sz35 Z Z Z Z (notup Z) Z Z (nl Z)) <| .p (.assign Z Z) <| .nil <| .seq <| .seq <| .region <| .p (.move Z Z) <| .p (.not Z Z) ?_
  refine .p (.move Z Z) <| .yF (.faddr fo72_1 Z Z) Z Z (Eq.refl false) <| .yF (.faddr fo35_0 Z Z) Z Z (Eq.refl false) <| .yF (.load1 ag3 Z Z Z Z) Z Z (Eq.refl false) <| .yF (.ieql Z Z Z) Z Z (Eq.refl false) <| .p (.pick Z Z Z) <| .nil <| .ws 94 [(2, .rp (encX a) 0), (4, .P 2), (6, .P 3), (10, .P 91), (13, .P 93), (46, .ro 14 (encF b.fields)), (47, .N b.fields.length), (48, .N j), (84, .B (decide ((nthF b.fields j).2.kind = 0)))] [(2, .box [.I 0, .B false, .B false, .S ⟨#[]⟩, .I 0, .I 0, .I 0, .I 0, .I 0, .S ⟨#[]⟩, .O, .O, .O]), (3, .box [.I 7, .B false, .B false, .S ⟨#[]⟩, .I 0, .I 0, .I 0, .I 0, .I 0, .S ⟨#[]⟩, .O, .O, .sl 90 14 0 ou2.length]), (90, .arr false 14 (encF ou2)), (91, .box ([.S ((nthF b.fields j).1)] ++ encX (nthF b.fields j).2)), (93, .box (encX (deltaM d T.nul (nthF b.fields j).2)))] ?_
  have h11 : (decide ((nthF b.fields j).2.kind = 0)) = false := decide_eq_false ((h.2.2 hk).2 _ (nthF_mem (by omega))).1
  refine .cF Z h11 <| .skip <| .region <| .p (.faddr fo35_7 Z Z) <| .p (.load1 ag33 Z Z Z Z) <| .p (.faddr fo72_0 Z Z) <| .p (.load1 ag9 Z Z Z Z) <| .p (.loadN ag35 sz35 Z Z Z (nl Z)) <| .p (.build Z zt72 Z pl72 Z Z) <| .c1 (.buildSlice 94 false [([.S ((nthF b.fields j).1)] ++ encX (deltaM d T.nul (nthF b.fields j).2))] ut33 sz72 zt72 Z Z (by decide) (by decide) Z Z Z Z Z Z Z) ?_
  refine .c1 (.appendN (n2 := (ou2.length + 1)) 95 el33 Z Z Z (by first | rfl | (simp; done) | (simp; omega)) (.sl Z Z (nl Z) (by simp)) (by simp only [encF_len, List.length_append, List.length_take, List.length_drop, List.length_cons, List.length_nil]; omega) (by simp only [encF_len, List.length_append, List.length_take, List.length_drop, List.length_cons, List.length_nil]; omega) (by first | rfl | (simp; done) | (simp; omega))) ?_
  refine .p (.faddr fo35_7 Z Z) <| .c0 (.store sz33 Z Z Z Z (notup Z) Z Z (nl Z)) <| .nil <| .region <| .p (.iadd (r := (((j + 1) : Nat) : Int)) Z Z Z (wi (by omega) (by first | rfl | omega | (simp; done)))) ?_
  refine .p (.move Z Z) <| .nil ?_
  have hq : (j + 1) ≤ b.fields.length ∧ dl2 (deltaM d) a.fields (b.fields.drop (j + 1)) (ou2 ++ [((nthF b.fields j).1, (deltaM d T.nul (nthF b.fields j).2))]) = dl2 (deltaM d) a.fields b.fields out ∧ ((ou2 ++ [((nthF b.fields j).1, (deltaM d T.nul (nthF b.fields j).2))])).length ≤ 100000 + (j + 1) := by
    refine ⟨by omega, ?_, by first | omega | (simp; omega)⟩
    rw [dl2_nth (by omega)] at g5
    rw [if_neg (by rw [none_of h8]; simp)] at g5
    rw [none_of h8] at g5
    exact g5
  exact ⟨⟨((j + 1), (ou2 ++ [((nthF b.fields j).1, (deltaM d T.nul (nthF b.fields j).2))])), hq⟩, (by simp; omega), (ALe.of false [(90, 95)] 91
      _
      _
      (.cons rfl (.boxS rfl) (.cons rfl (.boxL (.cons (.same rfl) (.cons (.same rfl) (.cons (.same rfl) (.cons (.same rfl) (.cons (.same rfl) (.cons (.same rfl) (.cons (.same rfl) (.cons (.same rfl) (.cons (.same rfl) (.cons (.same rfl) (.cons (.same rfl) (.cons (.same rfl) (.cons (.slE (by first | rfl | (simp; done))) .nil)))))))))))))) (.cons rfl (.arr (encF_snoc ou2 ((nthF b.fields j).1, (deltaM d T.nul (nthF b.fields j).2)))) .nil)))
      (.s (.cons rfl .ptrR (.cons rfl .ptrR (.s (.s (.s .nil))))))
      (by simp))⟩
  have h6 := decide_eq_false p7
  refine .cF Z h6 ?_
  have hJ : dl2 (deltaM d) a.fields b.fields out = ou2 := by rw [← g5]; exact dl2_end (by omega) _
  refine .exit <| .seq <| .region <| .p (.loadN ag35 sz35 Z Z Z (nl Z)) <| .c0 (.store sz35 Z Z Z Z (notup Z) Z Z (nl Z)) <| .p (.assign Z Z) <| .nil <| .ret ?_
  exact ⟨_, _, _, _, rfl, ALe.of false [] 0
      [(0, .tup [.agg (encX (T.map (dl2 (deltaM d) a.fields b.fields (dl1 b.fields a.fields [])))), .B true])]
      []
      .nil
      (.cons rfl (.tupL (.cons (.aggL (.cons (.litE (by rfl)) (.cons (.litE (by rfl)) (.cons (.litE (by rfl)) (.cons (.litE (by rfl)) (.cons (.litE (by rfl)) (.cons (.litE (by rfl)) (.cons (.litE (by rfl)) (.cons (.litE (by rfl)) (.cons (.litE (by rfl)) (.cons (.litE (by rfl)) (.cons (.nilRo rfl) (.cons (.nilRo rfl) (.cons (.freezeR (els := (encF ou2)) (by simp) (by rw [hI, hJ]; rfl)) .nil)))))))))))))) (.cons (.same rfl) .nil))) .nil)
      (by simp), rfl, rfl⟩

theorem delta_spec : ∀ (d : Nat) (a b : T), okDl d a b → FSpec Tryz.prog 11 0 [.agg (encX a), .agg (encX b)] (hpOf []) (fun r h => r = .tup [.agg (encX (deltaM d a b)), .B true] ∧ h = hpOf []) := by
  intro d
  induction d with
  | zero => intro a b h; exact absurd h id
  | succ d ih =>
    intro a b h
    by_cases hk : b.kind = 7
    · rw [show deltaM (d + 1) a b = (T.map (dl2 (deltaM d) a.fields b.fields (dl1 b.fields a.fields []))) from if_pos hk]; exact delta1_spec d a b ih h hk
    · rw [show deltaM (d + 1) a b = b from if_neg hk]
      exact delta0_spec a b h.2.1 hk
end Go.Abs
namespace Go.Abs
open Go.Proofs
set_option maxRecDepth 100000
set_option maxHeartbeats 8000000


theorem copiedO_spec (d : Nat) (t : T) (left : Nat) (hok : T.ok (d + 1) t) (h1 : d + 1 ≤ left) (h2 : left ≤ 65536) : FSpec Tryz.prog 52 0 [.agg (encX t), .N left] (hpOf []) (fun r h => r = .agg [.I t.kind, .B t.b, .B t.neg, .S t.digits, .I t.exp, .I t.tk, .I t.td, .I t.tn, .I t.tz, .S t.text, .fr (.ro 1 (encB t.bytes)), .fr (.ro 13 (encL t.list)), .sl 0 14 0 t.fields.length] ∧ h = hpOf [(0, .arr true 14 (encF t.fields))]) := by
  have hb := hok.1
  have hl := hok.2.1
  have hf := hok.2.2.1
  refine FSpec.intro Tryz.func52 rfl (nl rfl) (nl rfl) fun s0 w0 hs0 hn0 => ?_
  refine .ws 0 [(0, .agg (encX t)), (1, .N left)] [] <| .seq <| .region <| .c1 (.box 0 Z Z (notup Z)) <| .c1 (.alloc 1 Z zt35 Z) <| .nil <| .seq <| .region <| .p (.faddr fo35_5 Z Z) <| .p (.load1 ag31 Z Z Z Z) <| .p (.call0 [] false (CloneB_spec t.bytes (by omega)) Tryz.func72 (hv := by exact (.same Z))) ?_
  refine .p (.faddr fo35_5 Z Z) <| .c0 (.store sz31 Z Z Z Z (notup Z) Z Z (nl Z)) <| .nil <| .seq <| .seq <| .region <| .p (.move Z Z) <| .p (.ilss Z Z Z) <| .nil ?_
  have h1 : (decide (((left : Nat) : Int) < 1)) = false := decide_eq_false (by first | omega | (simp only [List.length_take, List.length_drop]; omega))
  refine .cF Z h1 <| .skip <| .seq <| .region <| .p (.assign Z Z) <| .nil <| .seq <| .seq <| .region <| .p (.faddr fo35_6 Z Z) <| .p (.load1 ag32 Z Z Z Z) <| .p (.len_ro (n := t.list.length) ut32 Z (.inl Z) (by simp)) ?_
  refine .p (.move Z Z) <| .nil <| .block <| .openNil 5 13 true ?_
  refine AWP.loop (G := { g : Nat // g ≤ t.list.length }) (fun g => envOf [(1, .N left), (2, .P 0), (4, .P 1), (5, .sl 2 13 0 g.1), (21, .ro 13 (encL t.list)), (22, .N t.list.length), (23, .N g.1)]) (fun g => hpOf [(0, .box [.I t.kind, .B t.b, .B t.neg, .S t.digits, .I t.exp, .I t.tk, .I t.td, .I t.tn, .I t.tz, .S t.text, .fr (.ro 1 (encB t.bytes)), .ro 13 (encL t.list), .ro 14 (encF t.fields)]), (1, .box [.I 0, .B false, .B false, .S ⟨#[]⟩, .I 0, .I 0, .I 0, .I 0, .I 0, .S ⟨#[]⟩, .O, .O, .O]), (2, .arr true 13 (encL (t.list.take g.1)))]) (fun _ => 3) (fun g => t.list.length - g.1) ⟨(0), Nat.zero_le _⟩ (ALe.of false [] 3
      _
      _
      (.cons rfl (.boxS rfl) (.cons rfl (.boxS rfl) (.cons rfl (.arr (by rfl)) .nil)))
      (.s (.cons rfl .ptrR (.cons rfl .ptrR (.cons rfl .slR (.s (.s (.s .nil)))))))
      (by simp)) ?_
  rintro ⟨i, hg⟩
  try dsimp only at hg
  refine .ws 3 [(1, .N left), (2, .P 0), (4, .P 1), (5, .sl 2 13 0 i), (21, .ro 13 (encL t.list)), (22, .N t.list.length), (23, .N i)] [(0, .box [.I t.kind, .B t.b, .B t.neg, .S t.digits, .I t.exp, .I t.tk, .I t.td, .I t.tn, .I t.tz, .S t.text, .fr (.ro 1 (encB t.bytes)), .ro 13 (encL t.list), .ro 14 (encF t.fields)]), (1, .box [.I 0, .B false, .B false, .S ⟨#[]⟩, .I 0, .I 0, .I 0, .I 0, .I 0, .S ⟨#[]⟩, .O, .O, .O]), (2, .arr true 13 (encL (t.list.take i)))] <| .seq <| .region <| .p (.ilss Z Z Z) <| .nil <| .seq ?_
  by_cases p3 : ((i : Nat) : Int) < ((t.list.length : Nat) : Int)
  have h2 := decide_eq_true p3
  refine .cT Z h2 <| .skip <| .seq <| .block <| .seq <| .region <| .p (.iaddr_ro (row := (encX (nthT t.list i))) ut32 sz35 Z Z Z Z (encL_nth (by omega))) ?_
  refine .p (.rloadN ag35 sz35 Z Z (nl Z)) <| .c1 (.alloc 3 Z zt35 Z) <| .c0 (.store sz35 Z Z Z Z (notup Z) Z Z (nl Z)) <| .nil <| .region <| .p (.move Z Z) <| .p (.loadN ag35 sz35 Z Z Z (nl Z)) <| .p (.move Z Z) <| .p (.isub (r := (((left - 1) : Nat) : Int)) Z Z Z (wi (by omega) (by first | rfl | omega | (simp; done)))) ?_
  refine .p (.call0 [] false (copied_spec d (nthT t.list i) (left - 1) (hok.2.2.2.1 _ (nthT_mem (by omega))) (by omega) (by omega)) Tryz.func52 (hv := by exact (.cons (.aggL (.same Z)) (.cons (.same Z) .nil)))) ?_
  refine .c1 (.buildSlice 4 true [(encX (nthT t.list i))] ut32 sz35 zt35 Z Z (by decide) (by decide) Z Z Z Z Z Z Z) ?_
  refine .c1 (.appendN (n2 := (i + 1)) 5 el32 Z Z Z (by first | rfl | (simp; done) | (simp; omega)) (.sl Z Z (nl Z) (by simp)) (by simp only [encL_len, encF_len, List.length_take, List.length_drop, List.length_cons, List.length_nil, List.length_append]; omega) (by simp only [encL_len, encF_len, List.length_take, List.length_drop, List.length_cons, List.length_nil, List.length_append]; omega) (by first | rfl | (simp; done) | (simp; omega))) ?_
  refine .p (.assign Z Z) <| .nil <| .region <| .p (.iadd (r := (((i + 1) : Nat) : Int)) Z Z Z (wi (by omega) (by first | rfl | omega | (simp; done)))) ?_
  refine .p (.move Z Z) <| .nil ?_
  exact ⟨⟨((i + 1)), (by show i + 1 ≤ _; omega)⟩, (by simp; omega), (ALe.of false [(2, 5)] 3
      _
      _
      (.cons rfl (.boxS rfl) (.cons rfl (.boxS rfl) (.cons rfl (.arr (by rw [encL_take (by omega)]; rfl)) .nil)))
      (.s (.cons rfl .ptrR (.cons rfl .ptrR (.cons rfl .slR (.s (.s (.s .nil)))))))
      (by simp))⟩
  have h2 := decide_eq_false p3
  refine .cF Z h2 <| .exit <| .seq <| .region <| .p (.assign Z Z) <| .nil <| .seq <| .seq <| .region <| .p (.faddr fo35_7 Z Z) <| .p (.load1 ag33 Z Z Z Z) <| .p (.len_ro (n := t.fields.length) ut33 Z (.inl Z) (by simp)) ?_
  refine .p (.move Z Z) <| .nil <| .block <| .openNil 8 14 true ?_
  refine AWP.loop (G := { g : Nat // g ≤ t.fields.length }) (fun g => envOf [(1, .N left), (2, .P 0), (4, .P 1), (5, .sl 2 13 0 i), (8, .sl 3 14 0 g.1), (36, .ro 14 (encF t.fields)), (37, .N t.fields.length), (38, .N g.1)]) (fun g => hpOf [(0, .box [.I t.kind, .B t.b, .B t.neg, .S t.digits, .I t.exp, .I t.tk, .I t.td, .I t.tn, .I t.tz, .S t.text, .fr (.ro 1 (encB t.bytes)), .ro 13 (encL t.list), .ro 14 (encF t.fields)]), (1, .box [.I 0, .B false, .B false, .S ⟨#[]⟩, .I 0, .I 0, .I 0, .I 0, .I 0, .S ⟨#[]⟩, .O, .O, .O]), (2, .arr true 13 (encL (t.list.take i))), (3, .arr true 14 (encF (t.fields.take g.1)))]) (fun _ => 4) (fun g => t.fields.length - g.1) ⟨(0), Nat.zero_le _⟩ (ALe.of false [] 4
      _
      _
      (.cons rfl (.boxS rfl) (.cons rfl (.boxS rfl) (.cons rfl (.arr rfl) (.cons rfl (.arr (by rfl)) .nil))))
      (.s (.cons rfl .ptrR (.cons rfl .ptrR (.cons rfl .slR (.cons rfl .slR (.s (.s (.s .nil))))))))
      (by simp)) ?_
  rintro ⟨j, hg⟩
  try dsimp only at hg
  refine .ws 4 [(1, .N left), (2, .P 0), (4, .P 1), (5, .sl 2 13 0 i), (8, .sl 3 14 0 j), (36, .ro 14 (encF t.fields)), (37, .N t.fields.length), (38, .N j)] [(0, .box [.I t.kind, .B t.b, .B t.neg, .S t.digits, .I t.exp, .I t.tk, .I t.td, .I t.tn, .I t.tz, .S t.text, .fr (.ro 1 (encB t.bytes)), .ro 13 (encL t.list), .ro 14 (encF t.fields)]), (1, .box [.I 0, .B false, .B false, .S ⟨#[]⟩, .I 0, .I 0, .I 0, .I 0, .I 0, .S ⟨#[]⟩, .O, .O, .O]), (2, .arr true 13 (encL (t.list.take i))), (3, .arr true 14 (encF (t.fields.take j)))] <| .seq <| .region <| .p (.ilss Z Z Z) <| .nil <| .seq ?_
  by_cases p5 : ((j : Nat) : Int) < ((t.fields.length : Nat) : Int)
  have h4 := decide_eq_true p5
  refine .cT Z h4 <| .skip <| .seq <| .block <| .seq <| .region <| .p (.iaddr_ro (row := ([.S ((nthF t.fields j).1)] ++ encX (nthF t.fields j).2)) ut33 sz72 Z Z Z Z (encF_nth (by omega))) ?_
  refine .p (.rloadN ag72 sz72 Z Z (nl Z)) <| .c1 (.alloc 4 Z zt72 Z) <| .c0 (.store sz72 Z Z Z Z (notup Z) Z Z (nl Z)) <| .nil <| .region_p fol an52_15 (by kernel_rfl) Z ?_
  refine .p [] (.move Z Z) <| .p [] (.faddr fo72_0 Z Z) <| .p [4] (.load1 ag9 Z Z Z Z) <| .p [] (.faddr fo72_1 Z Z) <| .p [4] (.loadN ag35 sz35 Z Z Z (nl Z)) <| .p [] (.move Z Z) <| .p [] (.isub (r := (((left - 1) : Nat) : Int)) Z Z Z (wi (by omega) (by first | rfl | omega | (simp; done)))) ?_
  refine .p [] (.call0 [] false (copied_spec d (nthF t.fields j).2 (left - 1) (hok.2.2.2.2 _ (nthF_mem (by omega))) (by omega) (by omega)) Tryz.func52 (hv := by exact (.cons (.aggL (.same Z)) (.cons (.same Z) .nil)))) ?_
  refine .p [] (.build Z zt72 Z pl72 Z Z) <| .c 6 [] (.buildSlice 5 true [([.S ((nthF t.fields j).1)] ++ encX (nthF t.fields j).2)] ut33 sz72 zt72 Z Z (by decide) (by decide) Z Z Z Z Z Z Z) ?_
  refine .c 7 [3, 5] (.appendN (n2 := (j + 1)) 6 el33 Z Z Z (by first | rfl | (simp; done) | (simp; omega)) (.sl Z Z (nl Z) (by simp)) (by simp only [encL_len, encF_len, List.length_take, List.length_drop, List.length_cons, List.length_nil, List.length_append]; omega) (by simp only [encL_len, encF_len, List.length_take, List.length_drop, List.length_cons, List.length_nil, List.length_append]; omega) (by first | rfl | (simp; done) | (simp; omega))) ?_
  refine .p [] (.assign Z Z) <| .nil (by kernel_rfl) ?_
  refine .region <| .p (.iadd (r := (((j + 1) : Nat) : Int)) Z Z Z (wi (by omega) (by first | rfl | omega | (simp; done)))) ?_
  refine .p (.move Z Z) <| .nil ?_
  exact ⟨⟨((j + 1)), (by show j + 1 ≤ _; omega)⟩, (by simp; omega), (ALe.of false [(3, 6)] 4
      _
      _
      (.cons rfl (.boxS rfl) (.cons rfl (.boxS rfl) (.cons rfl (.arr rfl) (.cons rfl (.arr (by rw [encF_take (by omega)]; rfl)) .nil))))
      (.s (.cons rfl .ptrR (.cons rfl .ptrR (.cons rfl .slR (.cons rfl .slR (.s (.s (.s .nil))))))))
      (by simp))⟩
  have h4 := decide_eq_false p5
  refine .cF Z h4 <| .exit <| .seq <| .region <| .p (.move Z Z) <| .p (.move Z Z) <| .p (.faddr fo35_6 Z Z) <| .c0 (.store sz32 Z Z Z Z (notup Z) Z Z (nl Z)) <| .p (.faddr fo35_7 Z Z) <| .c0 (.store sz33 Z Z Z Z (notup Z) Z Z (nl Z)) <| .nil <| .seq ?_
  refine .region <| .p (.loadN ag35 sz35 Z Z Z (nl Z)) <| .c0 (.store sz35 Z Z Z Z (notup Z) Z Z (nl Z)) <| .nil <| .ret ?_
  exact ⟨_, _, _, _, rfl, ALe.of true [(0, 3)] 1
      [(0, .agg [.I t.kind, .B t.b, .B t.neg, .S t.digits, .I t.exp, .I t.tk, .I t.td, .I t.tn, .I t.tz, .S t.text, .fr (.ro 1 (encB t.bytes)), .fr (.ro 13 (encL t.list)), .sl 0 14 0 t.fields.length])]
      [(0, .arr true 14 (encF t.fields))]
      (.cons rfl (.arr (by rw [List.take_of_length_le (by omega)])) .nil)
      (.cons rfl (.aggL (.cons (.same rfl) (.cons (.same rfl) (.cons (.same rfl) (.cons (.same rfl) (.cons (.same rfl) (.cons (.same rfl) (.cons (.same rfl) (.cons (.same rfl) (.cons (.same rfl) (.cons (.same rfl) (.cons (.same rfl) (.cons (.freezeFR (els := (encL (t.list.take i))) (by simp only [encL_len, encF_len, List.length_take]; omega) (by rw [List.take_of_length_le (by omega)])) (.cons (.slE (by first | omega | (simp; done) | (simp; omega))) .nil)))))))))))))) .nil)
      (fun _ => ⟨hn0, hs0⟩), rfl, rfl⟩

theorem CopyO_spec (t : T) (h : t.fit) : FSpec Tryz.prog 27 0 [.agg (encX t)] (hpOf []) (fun r h => r = .agg [.I t.kind, .B t.b, .B t.neg, .S t.digits, .I t.exp, .I t.tk, .I t.td, .I t.tn, .I t.tz, .S t.text, .fr (.ro 1 (encB t.bytes)), .fr (.ro 13 (encL t.list)), .sl 0 14 0 t.fields.length] ∧ h = hpOf [(0, .arr true 14 (encF t.fields))]) := by
  refine FSpec.intro Tryz.func27 rfl (nl rfl) (nl rfl) fun s0 w0 hs0 hn0 => ?_
  refine .ws 0 [(0, .agg (encX t))] [] <| .seq <| .region <| .c1 (.box 0 Z Z (notup Z)) <| .c1 (.alloc 1 Z zt35 Z) <| .nil <| .seq <| .region <| .p (.loadN ag35 sz35 Z Z Z (nl Z)) <| .c1 (.call0 [2] false (copiedO_spec 999 t 65536 h (by omega) (by omega)) Tryz.func52 (hv := by exact (.cons (.aggL (.same Z)) (.cons (.same Z) .nil)))) ?_
  refine .c0 (.store sz35 Z Z Z Z (notup Z) Z Z (nl Z)) <| .nil <| .ret ?_
  exact ⟨_, _, _, _, rfl, ALe.of false [(0, 2)] 1
      [(0, .agg [.I t.kind, .B t.b, .B t.neg, .S t.digits, .I t.exp, .I t.tk, .I t.td, .I t.tn, .I t.tz, .S t.text, .fr (.ro 1 (encB t.bytes)), .fr (.ro 13 (encL t.list)), .sl 0 14 0 t.fields.length])]
      [(0, .arr true 14 (encF t.fields))]
      (.cons rfl (.arr rfl) .nil)
      (.cons rfl (.aggL (.cons (.same rfl) (.cons (.same rfl) (.cons (.same rfl) (.cons (.same rfl) (.cons (.same rfl) (.cons (.same rfl) (.cons (.same rfl) (.cons (.same rfl) (.cons (.same rfl) (.cons (.same rfl) (.cons (.same rfl) (.cons (.same rfl) (.cons .slR .nil)))))))))))))) .nil)
      (by simp), rfl, rfl⟩

theorem mfieldOY_spec (v : T) (fs : List Fl) (k : ByteArray) (hf : (v.setF fs).fit) (hk : v.kind = 7) (hs : (fieldM k fs).isSome = true) : FSpec Tryz.prog 29 2 [.P 0, .S k] (hpOf [(0, .box [.I v.kind, .B v.b, .B v.neg, .S v.digits, .I v.exp, .I v.tk, .I v.td, .I v.tn, .I v.tz, .S v.text, .ro 1 (encB v.bytes), .ro 13 (encL v.list), .sl 1 14 0 fs.length]), (1, .arr false 14 (encF fs))]) (fun r h => r = .rp (encX ((fieldM k fs).getD T.nul)) 0 ∧ h = hpOf [(0, .box [.I v.kind, .B v.b, .B v.neg, .S v.digits, .I v.exp, .I v.tk, .I v.td, .I v.tn, .I v.tz, .S v.text, .ro 1 (encB v.bytes), .ro 13 (encL v.list), .sl 1 14 0 fs.length]), (1, .arr false 14 (encF fs))]) := by
  refine FSpec.intro Tryz.func29 rfl (nl rfl) (nl rfl) fun s0 w0 hs0 hn0 => ?_
  refine .ws 2 [(0, .P 0), (1, .S k)] [(0, .box [.I v.kind, .B v.b, .B v.neg, .S v.digits, .I v.exp, .I v.tk, .I v.td, .I v.tn, .I v.tz, .S v.text, .ro 1 (encB v.bytes), .ro 13 (encL v.list), .sl 1 14 0 fs.length]), (1, .arr false 14 (encF fs))] <| .seq <| .region <| .p (.assign Z Z) <| .nil <| .seq <| .seq <| .region <| .p (.move Z Z) <| .p (.peql ut86 Z Z Z Z) <| .p (.move Z Z) <| .yF (.move Z Z) Z Z (Eq.refl false) ?_
  refine .yF (.nilCheck Z Z Z) Z Z (Eq.refl false) <| .yF (.faddr fo35_0 Z Z) Z Z (Eq.refl false) <| .yF (.load1 ag3 Z Z Z Z) Z Z (Eq.refl false) <| .yF (.ineq Z Z Z) Z Z (Eq.refl false) <| .p (.pick Z Z Z) <| .nil ?_
  have h1 : (decide (v.kind = 7)) = true := decide_eq_true hk
  refine .cF Z (bnot h1) <| .skip <| .seq <| .region <| .p (.move Z Z) <| .p (.nilCheck Z Z Z) <| .p (.loadN ag35 sz35 Z Z Z (nl Z)) <| .p (.move Z Z) <| .p (.call0 [] true (Field_spec (v.setF fs) k hf hk) Tryz.func53 (hv := by exact (.cons (.aggL (.cons (.same Z) (.cons (.same Z) (.cons (.same Z) (.cons (.same Z) (.cons (.same Z) (.cons (.same Z) (.cons (.same Z) (.cons (.same Z) (.cons (.same Z) (.cons (.same Z) (.cons (.same Z) (.cons (.same Z) (.cons (.bslR (els := (encF fs)) (by simp) Z) .nil)))))))))))))) (.cons (.same Z) .nil)))) ?_
  refine .p (.move Z Z) <| .p (.extract Z Z Z) <| .p (.extract Z Z Z) <| .c1 (.alloc 2 Z zt35 Z) <| .c0 (.store sz35 Z Z Z Z (notup Z) Z Z (nl Z)) <| .p (.assign Z Z) <| .nil <| .seq <| .seq <| .region <| .p (.move Z Z) <| .p (.not Z Z) ?_
  refine .nil ?_
  have h2 : (fieldM k fs).isSome = true := hs
  refine .cF Z (bnot h2) <| .skip <| .seq <| .region <| .p (.assign Z Z) <| .nil <| .ret ?_
  exact ⟨_, _, _, _, rfl, ALe.of false [] 2
      [(0, .rp (encX ((fieldM k fs).getD T.nul)) 0)]
      [(0, .box [.I v.kind, .B v.b, .B v.neg, .S v.digits, .I v.exp, .I v.tk, .I v.td, .I v.tn, .I v.tz, .S v.text, .ro 1 (encB v.bytes), .ro 13 (encL v.list), .sl 1 14 0 fs.length]), (1, .arr false 14 (encF fs))]
      (.cons rfl (.boxL (.cons (.same rfl) (.cons (.same rfl) (.cons (.same rfl) (.cons (.same rfl) (.cons (.same rfl) (.cons (.same rfl) (.cons (.same rfl) (.cons (.same rfl) (.cons (.same rfl) (.cons (.same rfl) (.cons (.same rfl) (.cons (.same rfl) (.cons .slR .nil)))))))))))))) (.cons rfl (.arr rfl) .nil))
      (.cons rfl (.pfreezeL (.cons (.same rfl) (.cons (.same rfl) (.cons (.same rfl) (.cons (.same rfl) (.cons (.same rfl) (.cons (.same rfl) (.cons (.same rfl) (.cons (.same rfl) (.cons (.same rfl) (.cons (.same rfl) (.cons .unfr (.cons .unfr (.cons .unfr .nil)))))))))))))) .nil)
      (by simp), rfl, rfl⟩

theorem mfieldON_spec (v : T) (fs : List Fl) (k : ByteArray) (hf : (v.setF fs).fit) (hk : v.kind = 7) (hs : (fieldM k fs).isSome = false) : FSpec Tryz.prog 29 2 [.P 0, .S k] (hpOf [(0, .box [.I v.kind, .B v.b, .B v.neg, .S v.digits, .I v.exp, .I v.tk, .I v.td, .I v.tn, .I v.tz, .S v.text, .ro 1 (encB v.bytes), .ro 13 (encL v.list), .sl 1 14 0 fs.length]), (1, .arr false 14 (encF fs))]) (fun r h => r = .lit (.pointer none) ∧ h = hpOf [(0, .box [.I v.kind, .B v.b, .B v.neg, .S v.digits, .I v.exp, .I v.tk, .I v.td, .I v.tn, .I v.tz, .S v.text, .ro 1 (encB v.bytes), .ro 13 (encL v.list), .sl 1 14 0 fs.length]), (1, .arr false 14 (encF fs))]) := by
  refine FSpec.intro Tryz.func29 rfl (nl rfl) (nl rfl) fun s0 w0 hs0 hn0 => ?_
  refine .ws 2 [(0, .P 0), (1, .S k)] [(0, .box [.I v.kind, .B v.b, .B v.neg, .S v.digits, .I v.exp, .I v.tk, .I v.td, .I v.tn, .I v.tz, .S v.text, .ro 1 (encB v.bytes), .ro 13 (encL v.list), .sl 1 14 0 fs.length]), (1, .arr false 14 (encF fs))] <| .seq <| .region <| .p (.assign Z Z) <| .nil <| .seq <| .seq <| .region <| .p (.move Z Z) <| .p (.peql ut86 Z Z Z Z) <| .p (.move Z Z) <| .yF (.move Z Z) Z Z (Eq.refl false) ?_
  refine .yF (.nilCheck Z Z Z) Z Z (Eq.refl false) <| .yF (.faddr fo35_0 Z Z) Z Z (Eq.refl false) <| .yF (.load1 ag3 Z Z Z Z) Z Z (Eq.refl false) <| .yF (.ineq Z Z Z) Z Z (Eq.refl false) <| .p (.pick Z Z Z) <| .nil ?_
  have h1 : (decide (v.kind = 7)) = true := decide_eq_true hk
  refine .cF Z (bnot h1) <| .skip <| .seq <| .region <| .p (.move Z Z) <| .p (.nilCheck Z Z Z) <| .p (.loadN ag35 sz35 Z Z Z (nl Z)) <| .p (.move Z Z) <| .p (.call0 [] true (Field_spec (v.setF fs) k hf hk) Tryz.func53 (hv := by exact (.cons (.aggL (.cons (.same Z) (.cons (.same Z) (.cons (.same Z) (.cons (.same Z) (.cons (.same Z) (.cons (.same Z) (.cons (.same Z) (.cons (.same Z) (.cons (.same Z) (.cons (.same Z) (.cons (.same Z) (.cons (.same Z) (.cons (.bslR (els := (encF fs)) (by simp) Z) .nil)))))))))))))) (.cons (.same Z) .nil)))) ?_
  refine .p (.move Z Z) <| .p (.extract Z Z Z) <| .p (.extract Z Z Z) <| .c1 (.alloc 2 Z zt35 Z) <| .c0 (.store sz35 Z Z Z Z (notup Z) Z Z (nl Z)) <| .p (.assign Z Z) <| .nil <| .seq <| .seq <| .region <| .p (.move Z Z) <| .p (.not Z Z) ?_
  refine .nil ?_
  have h2 : (fieldM k fs).isSome = false := hs
  refine .cT Z (bnot h2) <| .seq <| .region <| .p (.assign Z Z) <| .nil <| .ret ?_
  exact ⟨_, _, _, _, rfl, ALe.s (l := [(0, .lit (.pointer none))]) (m := [(0, .box [.I v.kind, .B v.b, .B v.neg, .S v.digits, .I v.exp, .I v.tk, .I v.td, .I v.tn, .I v.tz, .S v.text, .ro 1 (encB v.bytes), .ro 13 (encL v.list), .sl 1 14 0 fs.length]), (1, .arr false 14 (encF fs))]) (nx' := 2), rfl, rfl⟩
end Go.Abs
namespace Go.Abs
open Go.Proofs
set_option maxRecDepth 100000
set_option maxHeartbeats 8000000

def an31_11 : List Nat := [0, 1, 3, 0, 8, 31, 0, 127]
def an31_16 : List Nat := [0, 1, 0, 7, 15, 31, 0, 64, 255]
def an31_21 : List Nat := [0, 1, 0, 4, 0, 28, 3, 0, 255, 511, 1023, 511, 2559]

theorem overN0_spec (v : T) (hv : v.fit) (hk : ¬ v.kind = 7) : FSpec Tryz.prog 31 0 [.lit (.pointer none), .agg (encX v)] (hpOf []) (fun r h => r = .agg (encX v) ∧ h = hpOf []) := by
  refine FSpec.intro Tryz.func31 rfl (nl rfl) (nl rfl) fun s0 w0 hs0 hn0 => ?_
  refine .ws 0 [(0, .lit (.pointer none)), (1, .agg (encX v))] [] <| .seq <| .region <| .c1 (.box 0 Z Z (notup Z)) <| .c1 (.alloc 1 Z zt35 Z) <| .nil <| .seq <| .seq <| .region <| .p (.faddr fo35_0 Z Z) <| .p (.load1 ag3 Z Z Z Z) <| .p (.ineq Z Z Z) ?_
  refine .nil ?_
  have h1 : (decide (v.kind = 7)) = false := decide_eq_false hk
  refine .cT Z (bnot h1) <| .seq <| .region <| .p (.loadN ag35 sz35 Z Z Z (nl Z)) <| .p (.call0 [] false (Copy_spec v hv) Tryz.func27 (hv := by exact (.cons (.aggL (.same Z)) .nil))) ?_
  refine .c0 (.store sz35 Z Z Z Z (notup Z) Z Z (nl Z)) <| .nil <| .ret ?_
  exact ⟨_, _, _, _, rfl, ALe.of false [] 0
      [(0, .agg (encX v))]
      []
      .nil
      (.cons rfl (.aggL (.cons (.same rfl) (.cons (.same rfl) (.cons (.same rfl) (.cons (.same rfl) (.cons (.same rfl) (.cons (.same rfl) (.cons (.same rfl) (.cons (.same rfl) (.cons (.same rfl) (.cons (.same rfl) (.cons .unfr (.cons .unfr (.cons .unfr .nil)))))))))))))) .nil)
      (by simp), rfl, rfl⟩

theorem overN1_spec (b : T) (v : T) (hv : v.fit) (hk : ¬ v.kind = 7) : FSpec Tryz.prog 31 0 [.rp (encX b) 0, .agg (encX v)] (hpOf []) (fun r h => r = .agg (encX v) ∧ h = hpOf []) := by
  refine FSpec.intro Tryz.func31 rfl (nl rfl) (nl rfl) fun s0 w0 hs0 hn0 => ?_
  refine .ws 0 [(0, .rp (encX b) 0), (1, .agg (encX v))] [] <| .seq <| .region <| .c1 (.box 0 Z Z (notup Z)) <| .c1 (.alloc 1 Z zt35 Z) <| .nil <| .seq <| .seq <| .region <| .p (.faddr fo35_0 Z Z) <| .p (.load1 ag3 Z Z Z Z) <| .p (.ineq Z Z Z) ?_
  refine .nil ?_
  have h1 : (decide (v.kind = 7)) = false := decide_eq_false hk
  refine .cT Z (bnot h1) <| .seq <| .region <| .p (.loadN ag35 sz35 Z Z Z (nl Z)) <| .p (.call0 [] false (Copy_spec v hv) Tryz.func27 (hv := by exact (.cons (.aggL (.same Z)) .nil))) ?_
  refine .c0 (.store sz35 Z Z Z Z (notup Z) Z Z (nl Z)) <| .nil <| .ret ?_
  exact ⟨_, _, _, _, rfl, ALe.of false [] 0
      [(0, .agg (encX v))]
      []
      .nil
      (.cons rfl (.aggL (.cons (.same rfl) (.cons (.same rfl) (.cons (.same rfl) (.cons (.same rfl) (.cons (.same rfl) (.cons (.same rfl) (.cons (.same rfl) (.cons (.same rfl) (.cons (.same rfl) (.cons (.same rfl) (.cons .unfr (.cons .unfr (.cons .unfr .nil)))))))))))))) .nil)
      (by simp), rfl, rfl⟩

theorem overC_spec (d : Nat) (b v : T) (ih : ∀ b v, okOv d b v → FSpec Tryz.prog 31 0 [optP b, .agg (encX v)] (hpOf []) (fun r h => r = .agg (encX (overM d b v)) ∧ h = hpOf [])) (hv : v.fit) (hbf : b.fit) (hb7 : b.kind = 7) (hk : v.kind = 7) (hok : okF (overM d) (okOv d) b.fields v.fields) : FSpec Tryz.prog 31 0 [.rp (encX b) 0, .agg (encX v)] (hpOf []) (fun r h => r = .agg (encX (b.setF (ovF (overM d) b.fields v.fields))) ∧ h = hpOf []) := by
  have hv3 := hv.2.2.1
  refine FSpec.intro Tryz.func31 rfl (nl rfl) (nl rfl) fun s0 w0 hs0 hn0 => ?_
  refine .ws 0 [(0, .rp (encX b) 0), (1, .agg (encX v))] [] <| .seq <| .region <| .c1 (.box 0 Z Z (notup Z)) <| .c1 (.alloc 1 Z zt35 Z) <| .nil <| .seq <| .seq <| .region <| .p (.faddr fo35_0 Z Z) <| .p (.load1 ag3 Z Z Z Z) <| .p (.ineq Z Z Z) ?_
  refine .nil ?_
  have h1 : (decide (v.kind = 7)) = true := decide_eq_true (by assumption)
  refine .cF Z (bnot h1) <| .skip <| .seq <| .region <| .p (.build Z zt35 Z pl35 Z Z) <| .c1 (.alloc 2 Z zt35 Z) <| .c0 (.store sz35 Z Z Z Z (notup Z) Z Z (nl Z)) <| .nil <| .seq <| .seq <| .region <| .p (.move Z Z) ?_
  refine .p (.pneq ut86 Z Z Z Z) <| .p (.move Z Z) <| .yT (.move Z Z) Z Z (Eq.refl true) <| .yT (.nilCheck Z Z Z) Z Z (Eq.refl true) <| .yT (.faddr_rp fo35_0 Z Z) Z Z (Eq.refl true) <| .yT (.rload1 ag3 Z Z Z) Z Z (Eq.refl true) <| .yT (.ieql Z Z Z) Z Z (Eq.refl true) <| .p (.pick Z Z Z) <| .nil ?_
  have h2 : (decide (b.kind = 7)) = true := decide_eq_true (by assumption)
  refine .cT Z h2 <| .region <| .p (.move Z Z) <| .p (.nilCheck Z Z Z) <| .p (.rloadN ag35 sz35 Z Z (nl Z)) <| .c1 (.call0 [3] false (CopyO_spec b hbf) Tryz.func27 (hv := by exact (.cons (.aggL (.same Z)) .nil))) ?_
  refine .c0 (.store sz35 Z Z Z Z (notup Z) Z Z (nl Z)) <| .nil <| .seq <| .seq <| .region <| .p (.faddr fo35_7 Z Z) <| .p (.load1 ag33 Z Z Z Z) <| .p (.len_ro (n := v.fields.length) ut33 Z (.inl Z) (by simp)) ?_
  refine .p (.move Z Z) <| .nil <| .block ?_
  refine AWP.loop (G := { g : Nat × List Fl // g.1 ≤ v.fields.length ∧ okF (overM d) (okOv d) g.2 (v.fields.drop g.1) ∧ ovF (overM d) g.2 (v.fields.drop g.1) = ovF (overM d) b.fields v.fields }) (fun g => envOf [(4, .P 1), (5, .P 2), (31, .ro 14 (encF v.fields)), (32, .N v.fields.length), (33, .N g.1.1)]) (fun g => hpOf [(1, .box [.I 0, .B false, .B false, .S ⟨#[]⟩, .I 0, .I 0, .I 0, .I 0, .I 0, .S ⟨#[]⟩, .O, .O, .O]), (2, .box [.I b.kind, .B b.b, .B b.neg, .S b.digits, .I b.exp, .I b.tk, .I b.td, .I b.tn, .I b.tz, .S b.text, .ro 1 (encB b.bytes), .ro 13 (encL b.list), .sl 90 14 0 g.1.2.length]), (90, .arr false 14 (encF g.1.2))]) (fun _ => 91) (fun g => v.fields.length - g.1.1) ⟨(0, b.fields), (by dsimp only; exact ⟨Nat.zero_le _, hok, rfl⟩)⟩ (ALe.of false [(90, 3)] 91
      _
      _
      (.cons rfl (.boxS rfl) (.cons rfl (.boxL (.cons (.same rfl) (.cons (.same rfl) (.cons (.same rfl) (.cons (.same rfl) (.cons (.same rfl) (.cons (.same rfl) (.cons (.same rfl) (.cons (.same rfl) (.cons (.same rfl) (.cons (.same rfl) (.cons .unfr (.cons .unfr (.cons .slR .nil)))))))))))))) (.cons rfl (.arr0 rfl) .nil)))
      (.cons rfl .ptrR (.cons rfl .ptrR (.s (.s (.s .nil)))))
      (by simp)) ?_
  rintro ⟨⟨i, fs⟩, hg⟩
  try dsimp only at hg
  obtain ⟨g1, g2, g3⟩ := hg
  have hfit := (okF_fit g2).1
  refine .ws 91 [(4, .P 1), (5, .P 2), (31, .ro 14 (encF v.fields)), (32, .N v.fields.length), (33, .N i)] [(1, .box [.I 0, .B false, .B false, .S ⟨#[]⟩, .I 0, .I 0, .I 0, .I 0, .I 0, .S ⟨#[]⟩, .O, .O, .O]), (2, .box [.I b.kind, .B b.b, .B b.neg, .S b.digits, .I b.exp, .I b.tk, .I b.td, .I b.tn, .I b.tz, .S b.text, .ro 1 (encB b.bytes), .ro 13 (encL b.list), .sl 90 14 0 fs.length]), (90, .arr false 14 (encF fs))] <| .seq <| .region <| .p (.ilss Z Z Z) <| .nil <| .seq ?_
  by_cases p4 : ((i : Nat) : Int) < ((v.fields.length : Nat) : Int)
  have h3 := decide_eq_true p4
  refine .cT Z h3 <| .skip <| .seq <| .block <| .seq <| .region <| .p (.iaddr_ro (row := ([.S ((nthF v.fields i).1)] ++ encX (nthF v.fields i).2)) ut33 sz72 Z Z Z Z (encF_nth (by first | omega | (simp; omega)))) ?_
  refine .p (.rloadN ag72 sz72 Z Z (nl Z)) <| .c1 (.alloc 91 Z zt72 Z) <| .c0 (.store sz72 Z Z Z Z (notup Z) Z Z (nl Z)) <| .nil <| .seq <| .seq <| .region <| .p (.faddr fo72_1 Z Z) <| .p (.faddr fo35_0 Z Z) <| .p (.load1 ag3 Z Z Z Z) <| .p (.ieql Z Z Z) <| .nil ?_
  by_cases p6 : (nthF v.fields i).2.kind = 0
  have h5 := decide_eq_true p6
  refine .cT Z h5 <| .seq <| .region <| .p (.faddr fo35_7 Z Z) <| .p (.load1 ag33 Z Z Z Z) <| .p (.faddr fo72_0 Z Z) <| .p (.load1 ag9 Z Z Z Z) <| .c1 (.callN [90, 92] [92] false (without_spec fs (nthF v.fields i).1 (by omega)) Tryz.func55 (hc := by exact (.cons .nil Z Z Z (.arrE Z))) (hv := by exact (.cons (.sl (nl Z) Z Z) (.cons (.same Z) .nil)))) ?_
  refine .p (.faddr fo35_7 Z Z) <| .c0 (.store sz33 Z Z Z Z (notup Z) Z Z (nl Z)) <| .nil <| .exit <| .region <| .p (.iadd (r := (((i + 1) : Nat) : Int)) Z Z Z (wi (by omega) (by first | rfl | omega | (simp; done)))) ?_
  refine .p (.move Z Z) <| .nil ?_
  have hS : stepOv (overM d) fs (nthF v.fields i) = (withoutM (nthF v.fields i).1 fs) := by
    exact if_pos (by assumption)
  have hq : (i + 1) ≤ v.fields.length ∧ okF (overM d) (okOv d) (withoutM (nthF v.fields i).1 fs) (v.fields.drop (i + 1)) ∧ ovF (overM d) (withoutM (nthF v.fields i).1 fs) (v.fields.drop (i + 1)) = ovF (overM d) b.fields v.fields := by
    refine ⟨by omega, ?_, ?_⟩
    · rw [← hS]; exact (okF_nth (by omega) g2).2
    · rw [← hS, ← ovF_nth (by omega)]; exact g3
  exact ⟨⟨((i + 1), (withoutM (nthF v.fields i).1 fs)), hq⟩, (by simp; omega), (ALe.of false [(90, 92)] 91
      _
      _
      (.cons rfl (.boxS rfl) (.cons rfl (.boxL (.cons (.same rfl) (.cons (.same rfl) (.cons (.same rfl) (.cons (.same rfl) (.cons (.same rfl) (.cons (.same rfl) (.cons (.same rfl) (.cons (.same rfl) (.cons (.same rfl) (.cons (.same rfl) (.cons (.same rfl) (.cons (.same rfl) (.cons .slR .nil)))))))))))))) (.cons rfl (.arr rfl) .nil)))
      (.cons rfl .ptrR (.cons rfl .ptrR (.s (.s (.s .nil)))))
      (by simp))⟩
  have h5 := decide_eq_false p6
  refine .cF Z h5 <| .skip <| .seq <| .region_p fol an31_11 (by kernel_rfl) Z ?_
  refine .p [] (.faddr fo72_0 Z Z) <| .p [91] (.load1 ag9 Z Z Z Z) ?_
  rcases Bool.eq_false_or_eq_true (fieldM (nthF v.fields i).1 fs).isSome with h7 | h7
  refine .c 92 [2, 90] (.callN [2, 90] [] false (mfieldOY_spec b fs (nthF v.fields i).1 (setF_fit hbf (okF_fit g2)) hb7 h7) Tryz.func29 (hc := by exact (.cons (.cons .nil Z Z Z (.boxL (.cons (.same Z) (.cons (.same Z) (.cons (.same Z) (.cons (.same Z) (.cons (.same Z) (.cons (.same Z) (.cons (.same Z) (.cons (.same Z) (.cons (.same Z) (.cons (.same Z) (.cons (.same Z) (.cons (.same Z) (.cons (.sl (nl Z) Z Z) .nil))))))))))))))) Z Z Z (.arrE Z))) (hv := by exact (.cons (.ptr (nl Z) Z) (.cons (.same Z) .nil)))) ?_
  refine .p [] (.faddr fo72_1 Z Z) <| .p [91] (.loadN ag35 sz35 Z Z Z (nl Z)) <| .p [] (.call0 [] false (ih (some ((fieldM (nthF v.fields i).1 fs).getD T.nul)) (nthF v.fields i).2 (by have h9 := (okF_nth (by omega) g2).1 (by assumption); rw [← some_getD (d := T.nul) h7] at h9; exact h9)) Tryz.func31 (hv := by exact (.cons (.same Z) (.cons (.aggL (.same Z)) .nil)))) ?_
  refine .c 93 [] (.alloc 92 Z zt35 Z) <| .c 93 [92] (.store sz35 Z Z Z Z (notup Z) Z Z (nl Z)) <| .nil (by kernel_rfl) ?_
  refine .seq <| .region <| .p (.assign Z Z) <| .nil <| .seq <| .seq <| .region <| .p (.faddr fo35_7 Z Z) <| .p (.load1 ag33 Z Z Z Z) <| .p (.len_sl ut33 Z Z (Option.some_ne_none _)) <| .p (.move Z Z) <| .nil ?_
  refine .block ?_
  refine AWP.loop (G := { g : Nat × Bool // g.1 ≤ fs.length ∧ (g.2 = true ↔ ∃ q, q < g.1 ∧ (nthF fs q).1 = (nthF v.fields i).1) }) (fun g => envOf [(4, .P 1), (5, .P 2), (7, .P 91), (8, .P 92), (9, .B g.1.2), (31, .ro 14 (encF v.fields)), (32, .N v.fields.length), (33, .N i), (55, .N fs.length), (56, .N g.1.1)]) (fun g => hpOf [(1, .box [.I 0, .B false, .B false, .S ⟨#[]⟩, .I 0, .I 0, .I 0, .I 0, .I 0, .S ⟨#[]⟩, .O, .O, .O]), (2, .box [.I b.kind, .B b.b, .B b.neg, .S b.digits, .I b.exp, .I b.tk, .I b.td, .I b.tn, .I b.tz, .S b.text, .ro 1 (encB b.bytes), .ro 13 (encL b.list), .sl 94 14 0 fs.length]), (91, .box ([.S ((nthF v.fields i).1)] ++ encX (nthF v.fields i).2)), (92, .box (encX (overM d (some ((fieldM (nthF v.fields i).1 fs).getD T.nul)) (nthF v.fields i).2))), (94, .arr false 14 (encF (updM (ovG (nthF v.fields i).1 (overM d (some ((fieldM (nthF v.fields i).1 fs).getD T.nul)) (nthF v.fields i).2)) fs g.1.1)))]) (fun _ => 95) (fun g => fs.length - g.1.1) ⟨(0, false), (by dsimp only; exact ⟨Nat.zero_le _, by simp⟩)⟩ (ALe.of false [(94, 90)] 95
      _
      _
      (.cons rfl (.boxS rfl) (.cons rfl (.boxL (.cons (.same rfl) (.cons (.same rfl) (.cons (.same rfl) (.cons (.same rfl) (.cons (.same rfl) (.cons (.same rfl) (.cons (.same rfl) (.cons (.same rfl) (.cons (.same rfl) (.cons (.same rfl) (.cons (.same rfl) (.cons (.same rfl) (.cons .slR .nil)))))))))))))) (.cons rfl (.boxS rfl) (.cons rfl (.boxS rfl) (.cons rfl (.arr (by rfl)) .nil)))))
      (.cons rfl .ptrR (.cons rfl .ptrR (.cons rfl .ptrR (.cons rfl .ptrR (.s (.s (.s (.s (.s (.s .nil))))))))))
      (by simp)) ?_
  rintro ⟨⟨j, fnd⟩, hg⟩
  try dsimp only at hg
  obtain ⟨k1, k2⟩ := hg
  refine .ws 95 [(4, .P 1), (5, .P 2), (7, .P 91), (8, .P 92), (9, .B fnd), (31, .ro 14 (encF v.fields)), (32, .N v.fields.length), (33, .N i), (55, .N fs.length), (56, .N j)] [(1, .box [.I 0, .B false, .B false, .S ⟨#[]⟩, .I 0, .I 0, .I 0, .I 0, .I 0, .S ⟨#[]⟩, .O, .O, .O]), (2, .box [.I b.kind, .B b.b, .B b.neg, .S b.digits, .I b.exp, .I b.tk, .I b.td, .I b.tn, .I b.tz, .S b.text, .ro 1 (encB b.bytes), .ro 13 (encL b.list), .sl 94 14 0 fs.length]), (91, .box ([.S ((nthF v.fields i).1)] ++ encX (nthF v.fields i).2)), (92, .box (encX (overM d (some ((fieldM (nthF v.fields i).1 fs).getD T.nul)) (nthF v.fields i).2))), (94, .arr false 14 (encF (updM (ovG (nthF v.fields i).1 (overM d (some ((fieldM (nthF v.fields i).1 fs).getD T.nul)) (nthF v.fields i).2)) fs j)))] <| .seq <| .region <| .p (.ilss Z Z Z) <| .nil <| .seq ?_
  by_cases p9 : ((j : Nat) : Int) < ((fs.length : Nat) : Int)
  have h8 := decide_eq_true p9
  refine .cT Z h8 <| .skip <| .seq <| .block <| .seq <| .region <| .p (.move Z Z) <| .p (.assign Z Z) <| .nil <| .seq <| .region_p fol an31_16 (by kernel_rfl) Z ?_
  refine .p [] (.faddr fo35_7 Z Z) <| .p [2] (.load1 ag33 Z Z Z Z) <| .p [] (.move Z Z) <| .p [94] (.iaddr_sl0 ut33 sz72 Z Z Z Z (by first | omega | (simp; omega)) (Option.some_ne_none _)) ?_
  refine .p [] (.faddr fo72_0 Z Z) <| .p [94] (.aload1 ag9 Z Z Z (encF_nth (by first | omega | (simp; omega))) Z) ?_
  refine .p [] (.faddr fo72_0 Z Z) <| .p [91] (.load1 ag9 Z Z Z Z) <| .p [] (.seql Z Z Z) <| .nil (by kernel_rfl) ?_
  by_cases p11 : (nthF (updM (ovG (nthF v.fields i).1 (overM d (some ((fieldM (nthF v.fields i).1 fs).getD T.nul)) (nthF v.fields i).2)) fs j) j).1 = (nthF v.fields i).1
  have h10 := decide_eq_true p11
  refine .cT Z h10 <| .seq <| .region <| .p (.faddr fo35_7 Z Z) <| .p (.load1 ag33 Z Z Z Z) <| .p (.move Z Z) <| .p (.loadN ag35 sz35 Z Z Z (nl Z)) <| .p (.iaddr_sl0 ut33 sz72 Z Z Z Z (by first | omega | (simp; omega)) (Option.some_ne_none _)) ?_
  refine .p (.faddr fo72_1 Z Z) <| .c0 (.astoreE (row := ([.S ((nthF (updM (ovG (nthF v.fields i).1 (overM d (some ((fieldM (nthF v.fields i).1 fs).getD T.nul)) (nthF v.fields i).2)) fs j) j).1)] ++ encX (nthF (updM (ovG (nthF v.fields i).1 (overM d (some ((fieldM (nthF v.fields i).1 fs).getD T.nul)) (nthF v.fields i).2)) fs j) j).2)) sz35 Z Z Z Z (encF_nth (by first | omega | (simp; omega))) (notup Z) Z Z (nl Z) (encF_set _ _ ((nthF (updM (ovG (nthF v.fields i).1 (overM d (some ((fieldM (nthF v.fields i).1 fs).getD T.nul)) (nthF v.fields i).2)) fs j) j).1, (overM d (some ((fieldM (nthF v.fields i).1 fs).getD T.nul)) (nthF v.fields i).2)))) ?_
  refine .nil <| .region <| .p (.assign Z Z) <| .nil <| .region <| .p (.iadd (r := (((j + 1) : Nat) : Int)) Z Z Z (wi (by omega) (by first | rfl | omega | (simp; done)))) ?_
  refine .p (.move Z Z) <| .nil ?_
  have hq : (j + 1) ≤ fs.length ∧ (true = true ↔ ∃ q, q < (j + 1) ∧ (nthF fs q).1 = (nthF v.fields i).1) := by
    refine ⟨by omega, ?_⟩
    exact ⟨fun _ => ⟨j, by omega, by rw [updM_nth (by omega)] at *; assumption⟩, fun _ => rfl⟩
  exact ⟨⟨((j + 1), true), hq⟩, (by simp; omega), (ALe.of false [] 95
      _
      _
      (.cons rfl (.boxS rfl) (.cons rfl (.boxL (.cons (.same rfl) (.cons (.same rfl) (.cons (.same rfl) (.cons (.same rfl) (.cons (.same rfl) (.cons (.same rfl) (.cons (.same rfl) (.cons (.same rfl) (.cons (.same rfl) (.cons (.same rfl) (.cons (.same rfl) (.cons (.same rfl) (.cons .slR .nil)))))))))))))) (.cons rfl (.boxS rfl) (.cons rfl (.boxS rfl) (.cons rfl (.arr (congrArg encF (ovG_yes (by omega) (by assumption)))) .nil)))))
      (.cons rfl .ptrR (.cons rfl .ptrR (.cons rfl .ptrR (.cons rfl .ptrR (.s (.s (.s (.s (.s (.s .nil))))))))))
      (by simp))⟩
  have h10 := decide_eq_false p11
  refine .cF Z h10 <| .skip <| .region <| .p (.iadd (r := (((j + 1) : Nat) : Int)) Z Z Z (wi (by omega) (by first | rfl | omega | (simp; done)))) ?_
  refine .p (.move Z Z) <| .nil ?_
  have hq : (j + 1) ≤ fs.length ∧ (fnd = true ↔ ∃ q, q < (j + 1) ∧ (nthF fs q).1 = (nthF v.fields i).1) := by
    refine ⟨by omega, ?_⟩
    rw [k2]
    constructor
    · rintro ⟨q, hq, e⟩; exact ⟨q, by omega, e⟩
    · rintro ⟨q, hq, e⟩
      rcases Nat.lt_or_eq_of_le (Nat.le_of_lt_succ hq) with h9 | rfl
      · exact ⟨q, h9, e⟩
      · rw [updM_nth (by omega)] at *; contradiction
  exact ⟨⟨((j + 1), fnd), hq⟩, (by simp; omega), (ALe.of false [] 95
      _
      _
      (.cons rfl (.boxS rfl) (.cons rfl (.boxL (.cons (.same rfl) (.cons (.same rfl) (.cons (.same rfl) (.cons (.same rfl) (.cons (.same rfl) (.cons (.same rfl) (.cons (.same rfl) (.cons (.same rfl) (.cons (.same rfl) (.cons (.same rfl) (.cons (.same rfl) (.cons (.same rfl) (.cons .slR .nil)))))))))))))) (.cons rfl (.boxS rfl) (.cons rfl (.boxS rfl) (.cons rfl (.arr (congrArg encF (ovG_no (by omega) (by assumption)))) .nil)))))
      (.cons rfl .ptrR (.cons rfl .ptrR (.cons rfl .ptrR (.cons rfl .ptrR (.s (.s (.s (.s (.s (.s .nil))))))))))
      (by simp))⟩
  have h8 := decide_eq_false p9
  refine .cF Z h8 <| .exit <| .seq <| .region <| .p (.move Z Z) <| .p (.not Z Z) <| .nil ?_
  have hjf : fnd = true := by
    obtain ⟨q, hq, e⟩ := fieldM_iff.1 h7
    exact k2.2 ⟨q, by omega, e⟩
  have h12 : fnd = true := hjf
  refine .cF Z (bnot h12) <| .skip <| .region <| .p (.iadd (r := (((i + 1) : Nat) : Int)) Z Z Z (wi (by omega) (by first | rfl | omega | (simp; done)))) ?_
  refine .p (.move Z Z) <| .nil ?_
  have hS : stepOv (overM d) fs (nthF v.fields i) = (updM (ovG (nthF v.fields i).1 (overM d (some ((fieldM (nthF v.fields i).1 fs).getD T.nul)) (nthF v.fields i).2)) fs j) := by
    unfold stepOv putOv
    rw [if_neg (by assumption), if_pos h7, ← some_getD (d := T.nul) h7, updM_all (by omega)]
    rfl
  have hq : (i + 1) ≤ v.fields.length ∧ okF (overM d) (okOv d) (updM (ovG (nthF v.fields i).1 (overM d (some ((fieldM (nthF v.fields i).1 fs).getD T.nul)) (nthF v.fields i).2)) fs j) (v.fields.drop (i + 1)) ∧ ovF (overM d) (updM (ovG (nthF v.fields i).1 (overM d (some ((fieldM (nthF v.fields i).1 fs).getD T.nul)) (nthF v.fields i).2)) fs j) (v.fields.drop (i + 1)) = ovF (overM d) b.fields v.fields := by
    refine ⟨by omega, ?_, ?_⟩
    · rw [← hS]; exact (okF_nth (by omega) g2).2
    · rw [← hS, ← ovF_nth (by omega)]; exact g3
  exact ⟨⟨((i + 1), (updM (ovG (nthF v.fields i).1 (overM d (some ((fieldM (nthF v.fields i).1 fs).getD T.nul)) (nthF v.fields i).2)) fs j)), hq⟩, (by simp; omega), (ALe.of false [(90, 94)] 91
      _
      _
      (.cons rfl (.boxS rfl) (.cons rfl (.boxL (.cons (.same rfl) (.cons (.same rfl) (.cons (.same rfl) (.cons (.same rfl) (.cons (.same rfl) (.cons (.same rfl) (.cons (.same rfl) (.cons (.same rfl) (.cons (.same rfl) (.cons (.same rfl) (.cons (.same rfl) (.cons (.same rfl) (.cons (.slE (by first | rfl | (simp; done))) .nil)))))))))))))) (.cons rfl (.arr rfl) .nil)))
      (.cons rfl .ptrR (.cons rfl .ptrR (.s (.s (.s .nil)))))
      (by simp))⟩
  refine .c 92 [2, 90] (.callN [2, 90] [] false (mfieldON_spec b fs (nthF v.fields i).1 (setF_fit hbf (okF_fit g2)) hb7 h7) Tryz.func29 (hc := by exact (.cons (.cons .nil Z Z Z (.boxL (.cons (.same Z) (.cons (.same Z) (.cons (.same Z) (.cons (.same Z) (.cons (.same Z) (.cons (.same Z) (.cons (.same Z) (.cons (.same Z) (.cons (.same Z) (.cons (.same Z) (.cons (.same Z) (.cons (.same Z) (.cons (.sl (nl Z) Z Z) .nil))))))))))))))) Z Z Z (.arrE Z))) (hv := by exact (.cons (.ptr (nl Z) Z) (.cons (.same Z) .nil)))) ?_
  refine .p [] (.faddr fo72_1 Z Z) <| .p [91] (.loadN ag35 sz35 Z Z Z (nl Z)) <| .p [] (.call0 [] false (ih none (nthF v.fields i).2 (by have h9 := (okF_nth (by omega) g2).1 (by assumption); rw [none_of h7] at h9; exact h9)) Tryz.func31 (hv := by exact (.cons (.same Z) (.cons (.aggL (.same Z)) .nil)))) ?_
  refine .c 93 [] (.alloc 92 Z zt35 Z) <| .c 93 [92] (.store sz35 Z Z Z Z (notup Z) Z Z (nl Z)) <| .nil (by kernel_rfl) ?_
  refine .seq <| .region <| .p (.assign Z Z) <| .nil <| .seq <| .seq <| .region <| .p (.faddr fo35_7 Z Z) <| .p (.load1 ag33 Z Z Z Z) <| .p (.len_sl ut33 Z Z (Option.some_ne_none _)) <| .p (.move Z Z) <| .nil ?_
  refine .block ?_
  refine AWP.loop (G := { g : Nat × Bool // g.1 ≤ fs.length ∧ (g.2 = true ↔ ∃ q, q < g.1 ∧ (nthF fs q).1 = (nthF v.fields i).1) }) (fun g => envOf [(4, .P 1), (5, .P 2), (7, .P 91), (8, .P 92), (9, .B g.1.2), (31, .ro 14 (encF v.fields)), (32, .N v.fields.length), (33, .N i), (55, .N fs.length), (56, .N g.1.1)]) (fun g => hpOf [(1, .box [.I 0, .B false, .B false, .S ⟨#[]⟩, .I 0, .I 0, .I 0, .I 0, .I 0, .S ⟨#[]⟩, .O, .O, .O]), (2, .box [.I b.kind, .B b.b, .B b.neg, .S b.digits, .I b.exp, .I b.tk, .I b.td, .I b.tn, .I b.tz, .S b.text, .ro 1 (encB b.bytes), .ro 13 (encL b.list), .sl 94 14 0 fs.length]), (91, .box ([.S ((nthF v.fields i).1)] ++ encX (nthF v.fields i).2)), (92, .box (encX (overM d none (nthF v.fields i).2))), (94, .arr false 14 (encF (updM (ovG (nthF v.fields i).1 (overM d none (nthF v.fields i).2)) fs g.1.1)))]) (fun _ => 95) (fun g => fs.length - g.1.1) ⟨(0, false), (by dsimp only; exact ⟨Nat.zero_le _, by simp⟩)⟩ (ALe.of false [(94, 90)] 95
      _
      _
      (.cons rfl (.boxS rfl) (.cons rfl (.boxL (.cons (.same rfl) (.cons (.same rfl) (.cons (.same rfl) (.cons (.same rfl) (.cons (.same rfl) (.cons (.same rfl) (.cons (.same rfl) (.cons (.same rfl) (.cons (.same rfl) (.cons (.same rfl) (.cons (.same rfl) (.cons (.same rfl) (.cons .slR .nil)))))))))))))) (.cons rfl (.boxS rfl) (.cons rfl (.boxS rfl) (.cons rfl (.arr (by rfl)) .nil)))))
      (.cons rfl .ptrR (.cons rfl .ptrR (.cons rfl .ptrR (.cons rfl .ptrR (.s (.s (.s (.s (.s (.s .nil))))))))))
      (by simp)) ?_
  rintro ⟨⟨j, fnd⟩, hg⟩
  try dsimp only at hg
  obtain ⟨k1, k2⟩ := hg
  refine .ws 95 [(4, .P 1), (5, .P 2), (7, .P 91), (8, .P 92), (9, .B fnd), (31, .ro 14 (encF v.fields)), (32, .N v.fields.length), (33, .N i), (55, .N fs.length), (56, .N j)] [(1, .box [.I 0, .B false, .B false, .S ⟨#[]⟩, .I 0, .I 0, .I 0, .I 0, .I 0, .S ⟨#[]⟩, .O, .O, .O]), (2, .box [.I b.kind, .B b.b, .B b.neg, .S b.digits, .I b.exp, .I b.tk, .I b.td, .I b.tn, .I b.tz, .S b.text, .ro 1 (encB b.bytes), .ro 13 (encL b.list), .sl 94 14 0 fs.length]), (91, .box ([.S ((nthF v.fields i).1)] ++ encX (nthF v.fields i).2)), (92, .box (encX (overM d none (nthF v.fields i).2))), (94, .arr false 14 (encF (updM (ovG (nthF v.fields i).1 (overM d none (nthF v.fields i).2)) fs j)))] <| .seq <| .region <| .p (.ilss Z Z Z) <| .nil <| .seq ?_
  by_cases p14 : ((j : Nat) : Int) < ((fs.length : Nat) : Int)
  have h13 := decide_eq_true p14
  refine .cT Z h13 <| .skip <| .seq <| .block <| .seq <| .region <| .p (.move Z Z) <| .p (.assign Z Z) <| .nil <| .seq <| .region_p fol an31_16 (by kernel_rfl) Z ?_
  refine .p [] (.faddr fo35_7 Z Z) <| .p [2] (.load1 ag33 Z Z Z Z) <| .p [] (.move Z Z) <| .p [94] (.iaddr_sl0 ut33 sz72 Z Z Z Z (by first | omega | (simp; omega)) (Option.some_ne_none _)) ?_
  refine .p [] (.faddr fo72_0 Z Z) <| .p [94] (.aload1 ag9 Z Z Z (encF_nth (by first | omega | (simp; omega))) Z) ?_
  refine .p [] (.faddr fo72_0 Z Z) <| .p [91] (.load1 ag9 Z Z Z Z) <| .p [] (.seql Z Z Z) <| .nil (by kernel_rfl) ?_
  by_cases p16 : (nthF (updM (ovG (nthF v.fields i).1 (overM d none (nthF v.fields i).2)) fs j) j).1 = (nthF v.fields i).1
  have h15 := decide_eq_true p16
  refine .cT Z h15 <| .seq <| .region <| .p (.faddr fo35_7 Z Z) <| .p (.load1 ag33 Z Z Z Z) <| .p (.move Z Z) <| .p (.loadN ag35 sz35 Z Z Z (nl Z)) <| .p (.iaddr_sl0 ut33 sz72 Z Z Z Z (by first | omega | (simp; omega)) (Option.some_ne_none _)) ?_
  refine .p (.faddr fo72_1 Z Z) <| .c0 (.astoreE (row := ([.S ((nthF (updM (ovG (nthF v.fields i).1 (overM d none (nthF v.fields i).2)) fs j) j).1)] ++ encX (nthF (updM (ovG (nthF v.fields i).1 (overM d none (nthF v.fields i).2)) fs j) j).2)) sz35 Z Z Z Z (encF_nth (by first | omega | (simp; omega))) (notup Z) Z Z (nl Z) (encF_set _ _ ((nthF (updM (ovG (nthF v.fields i).1 (overM d none (nthF v.fields i).2)) fs j) j).1, (overM d none (nthF v.fields i).2)))) ?_
  refine .nil <| .region <| .p (.assign Z Z) <| .nil <| .region <| .p (.iadd (r := (((j + 1) : Nat) : Int)) Z Z Z (wi (by omega) (by first | rfl | omega | (simp; done)))) ?_
  refine .p (.move Z Z) <| .nil ?_
  have hq : (j + 1) ≤ fs.length ∧ (true = true ↔ ∃ q, q < (j + 1) ∧ (nthF fs q).1 = (nthF v.fields i).1) := by
    refine ⟨by omega, ?_⟩
    exact ⟨fun _ => ⟨j, by omega, by rw [updM_nth (by omega)] at *; assumption⟩, fun _ => rfl⟩
  exact ⟨⟨((j + 1), true), hq⟩, (by simp; omega), (ALe.of false [] 95
      _
      _
      (.cons rfl (.boxS rfl) (.cons rfl (.boxL (.cons (.same rfl) (.cons (.same rfl) (.cons (.same rfl) (.cons (.same rfl) (.cons (.same rfl) (.cons (.same rfl) (.cons (.same rfl) (.cons (.same rfl) (.cons (.same rfl) (.cons (.same rfl) (.cons (.same rfl) (.cons (.same rfl) (.cons .slR .nil)))))))))))))) (.cons rfl (.boxS rfl) (.cons rfl (.boxS rfl) (.cons rfl (.arr (congrArg encF (ovG_yes (by omega) (by assumption)))) .nil)))))
      (.cons rfl .ptrR (.cons rfl .ptrR (.cons rfl .ptrR (.cons rfl .ptrR (.s (.s (.s (.s (.s (.s .nil))))))))))
      (by simp))⟩
  have h15 := decide_eq_false p16
  refine .cF Z h15 <| .skip <| .region <| .p (.iadd (r := (((j + 1) : Nat) : Int)) Z Z Z (wi (by omega) (by first | rfl | omega | (simp; done)))) ?_
  refine .p (.move Z Z) <| .nil ?_
  have hq : (j + 1) ≤ fs.length ∧ (fnd = true ↔ ∃ q, q < (j + 1) ∧ (nthF fs q).1 = (nthF v.fields i).1) := by
    refine ⟨by omega, ?_⟩
    rw [k2]
    constructor
    · rintro ⟨q, hq, e⟩; exact ⟨q, by omega, e⟩
    · rintro ⟨q, hq, e⟩
      rcases Nat.lt_or_eq_of_le (Nat.le_of_lt_succ hq) with h9 | rfl
      · exact ⟨q, h9, e⟩
      · rw [updM_nth (by omega)] at *; contradiction
  exact ⟨⟨((j + 1), fnd), hq⟩, (by simp; omega), (ALe.of false [] 95
      _
      _
      (.cons rfl (.boxS rfl) (.cons rfl (.boxL (.cons (.same rfl) (.cons (.same rfl) (.cons (.same rfl) (.cons (.same rfl) (.cons (.same rfl) (.cons (.same rfl) (.cons (.same rfl) (.cons (.same rfl) (.cons (.same rfl) (.cons (.same rfl) (.cons (.same rfl) (.cons (.same rfl) (.cons .slR .nil)))))))))))))) (.cons rfl (.boxS rfl) (.cons rfl (.boxS rfl) (.cons rfl (.arr (congrArg encF (ovG_no (by omega) (by assumption)))) .nil)))))
      (.cons rfl .ptrR (.cons rfl .ptrR (.cons rfl .ptrR (.cons rfl .ptrR (.s (.s (.s (.s (.s (.s .nil))))))))))
      (by simp))⟩
  have h13 := decide_eq_false p14
  refine .cF Z h13 <| .exit <| .seq <| .region <| .p (.move Z Z) <| .p (.not Z Z) <| .nil ?_
  have hjf : fnd = false := by
    cases hb : fnd with
    | false => rfl
    | true => obtain ⟨q, hq, e⟩ := k2.1 hb; have := fieldM_iff.2 ⟨q, by omega, e⟩; rw [h7] at this; cases this
  have h17 : fnd = false := hjf
  refine .cT Z (bnot h17) <| .region_p fol an31_21 (by kernel_rfl) Z ?_
  refine .p [] (.faddr fo35_7 Z Z) <| .p [2] (.load1 ag33 Z Z Z Z) <| .p [] (.faddr fo72_0 Z Z) <| .p [91] (.load1 ag9 Z Z Z Z) <| .p [92] (.loadN ag35 sz35 Z Z Z (nl Z)) <| .p [] (.build Z zt72 Z pl72 Z Z) <| .p [94] (.len_sl ut33 Z Z (Option.some_ne_none _)) <| .c 96 [] (.buildSlice 95 true [[.S ⟨#[]⟩, .I 0, .B false, .B false, .S ⟨#[]⟩, .I 0, .I 0, .I 0, .I 0, .I 0, .S ⟨#[]⟩, .O, .O, .O]] ut33 sz72 zt72 Z Z (by decide) (by decide) Z Z Z Z Z Z Z) ?_
  refine .c 97 [94, 95] (.appendN (n2 := (fs.length + 1)) 96 el33 Z Z Z (by first | rfl | (simp; done) | (simp; omega)) (.sl Z Z (nl Z) (by simp)) (by simp only [encF_len, updM_len, List.length_append, List.length_take, List.length_drop, List.length_cons, List.length_nil]; omega) (by simp only [encF_len, updM_len, List.length_append, List.length_take, List.length_drop, List.length_cons, List.length_nil]; omega) (by first | rfl | (simp; done) | (simp; omega))) ?_
  refine .p [96] (.iaddr_sl0 ut33 sz72 Z Z Z Z (by first | omega | (simp; omega)) (Option.some_ne_none _)) ?_
  refine .c 97 [96] (.astoreE (row := [.S ⟨#[]⟩, .I 0, .B false, .B false, .S ⟨#[]⟩, .I 0, .I 0, .I 0, .I 0, .I 0, .S ⟨#[]⟩, .O, .O, .O]) sz72 Z Z Z Z (snoc_at (by simp)) (notup Z) Z Z (nl Z) (snoc_set (by simp))) ?_
  refine .p [] (.faddr fo35_7 Z Z) <| .c 97 [2] (.store sz33 Z Z Z Z (notup Z) Z Z (nl Z)) <| .nil (by kernel_rfl) ?_
  refine .region <| .p (.iadd (r := (((i + 1) : Nat) : Int)) Z Z Z (wi (by omega) (by first | rfl | omega | (simp; done)))) ?_
  refine .p (.move Z Z) <| .nil ?_
  have hS : stepOv (overM d) fs (nthF v.fields i) = ((updM (ovG (nthF v.fields i).1 (overM d none (nthF v.fields i).2)) fs j) ++ [((nthF v.fields i).1, (overM d none (nthF v.fields i).2))]) := by
    unfold stepOv putOv
    rw [if_neg (by assumption), if_neg (by rw [h7]; exact Bool.false_ne_true), none_of h7, updM_all (by omega)]
    refine congrArg (fun z => z ++ [_]) ?_
    refine (List.map_congr_left (fun e he => ?_)).trans (List.map_id _) |>.symm
    obtain ⟨q, hq, eq⟩ := List.getElem_of_mem he
    refine if_neg (fun h9 => ?_)
    have := (fieldM_iff (k := (nthF v.fields i).1)).2 ⟨q, hq, by rw [nthF_eq hq, eq]; exact h9⟩
    rw [h7] at this; cases this
  have hq : (i + 1) ≤ v.fields.length ∧ okF (overM d) (okOv d) ((updM (ovG (nthF v.fields i).1 (overM d none (nthF v.fields i).2)) fs j) ++ [((nthF v.fields i).1, (overM d none (nthF v.fields i).2))]) (v.fields.drop (i + 1)) ∧ ovF (overM d) ((updM (ovG (nthF v.fields i).1 (overM d none (nthF v.fields i).2)) fs j) ++ [((nthF v.fields i).1, (overM d none (nthF v.fields i).2))]) (v.fields.drop (i + 1)) = ovF (overM d) b.fields v.fields := by
    refine ⟨by omega, ?_, ?_⟩
    · rw [← hS]; exact (okF_nth (by omega) g2).2
    · rw [← hS, ← ovF_nth (by omega)]; exact g3
  exact ⟨⟨((i + 1), ((updM (ovG (nthF v.fields i).1 (overM d none (nthF v.fields i).2)) fs j) ++ [((nthF v.fields i).1, (overM d none (nthF v.fields i).2))])), hq⟩, (by simp; omega), (ALe.of false [(90, 96)] 91
      _
      _
      (.cons rfl (.boxS rfl) (.cons rfl (.boxL (.cons (.same rfl) (.cons (.same rfl) (.cons (.same rfl) (.cons (.same rfl) (.cons (.same rfl) (.cons (.same rfl) (.cons (.same rfl) (.cons (.same rfl) (.cons (.same rfl) (.cons (.same rfl) (.cons (.same rfl) (.cons (.same rfl) (.cons (.slE (by first | rfl | (simp; done))) .nil)))))))))))))) (.cons rfl (.arr (encF_snoc (updM (ovG (nthF v.fields i).1 (overM d none (nthF v.fields i).2)) fs j) ((nthF v.fields i).1, (overM d none (nthF v.fields i).2)))) .nil)))
      (.cons rfl .ptrR (.cons rfl .ptrR (.s (.s (.s .nil)))))
      (by simp))⟩
  have h3 := decide_eq_false p4
  refine .cF Z h3 <| .exit <| .seq <| .region <| .p (.loadN ag35 sz35 Z Z Z (nl Z)) <| .c0 (.store sz35 Z Z Z Z (notup Z) Z Z (nl Z)) <| .nil <| .ret ?_
  have hI : ovF (overM d) b.fields v.fields = fs := by rw [← g3]; exact ovF_end (by omega) _
  exact ⟨_, _, _, _, rfl, ALe.of false [] 0
      [(0, .agg (encX (b.setF (ovF (overM d) b.fields v.fields))))]
      []
      .nil
      (.cons rfl (.aggL (.cons (.litE (by rfl)) (.cons (.litE (by rfl)) (.cons (.litE (by rfl)) (.cons (.litE (by rfl)) (.cons (.litE (by rfl)) (.cons (.litE (by rfl)) (.cons (.litE (by rfl)) (.cons (.litE (by rfl)) (.cons (.litE (by rfl)) (.cons (.litE (by rfl)) (.cons (.roE (by rfl)) (.cons (.roE (by rfl)) (.cons (.freezeR (els := (encF fs)) (by simp) (by rw [hI]; rfl)) .nil)))))))))))))) .nil)
      (by simp), rfl, rfl⟩

theorem over_spec : ∀ (d : Nat) (b : Option T) (v : T), okOv d b v → FSpec Tryz.prog 31 0 [optP b, .agg (encX v)] (hpOf []) (fun r h => r = .agg (encX (overM d b v)) ∧ h = hpOf []) := by
  intro d
  induction d with
  | zero => intro b v h; exact absurd h id
  | succ d ih =>
    intro b v h
    by_cases hk : v.kind = 7
    · obtain ⟨b', rfl, h7, hf, hok⟩ := h.2 hk
      rw [show overM (d + 1) (some b') v = b'.setF (ovF (overM d) b'.fields v.fields) from if_pos hk]
      exact overC_spec d b' v ih h.1 hf h7 hk hok
    · rw [show overM (d + 1) b v = v from if_neg hk]
      cases b with
      | none => exact overN0_spec v h.1 hk
      | some b => exact overN1_spec b v h.1 hk

theorem Overlay_spec (d : Nat) (b v : T) (h : okOv d (some b) v) : FSpec Tryz.prog 12 0 [.agg (encX b), .agg (encX v)] (hpOf []) (fun r h => r = .agg (encX (overM d (some b) v)) ∧ h = hpOf []) := by
  refine FSpec.intro Tryz.func12 rfl (nl rfl) (nl rfl) fun s0 w0 hs0 hn0 => ?_
  refine .ws 0 [(0, .agg (encX b)), (1, .agg (encX v))] [] <| .seq <| .region <| .c1 (.box 0 Z Z (notup Z)) <| .c1 (.box 1 Z Z (notup Z)) <| .c1 (.alloc 2 Z zt35 Z) <| .nil ?_
  refine AWP.weak false [] 3
      [(2, .rp (encX b) 0), (3, .P 1), (4, .P 2)]
      [(1, .box (encX v)), (2, .box [.I 0, .B false, .B false, .S ⟨#[]⟩, .I 0, .I 0, .I 0, .I 0, .I 0, .S ⟨#[]⟩, .O, .O, .O])]
      (.cons rfl (.boxS rfl) (.cons rfl (.boxS rfl) .nil))
      (.cons rfl (.pfreezeL (.cons (.same rfl) (.cons (.same rfl) (.cons (.same rfl) (.cons (.same rfl) (.cons (.same rfl) (.cons (.same rfl) (.cons (.same rfl) (.cons (.same rfl) (.cons (.same rfl) (.cons (.same rfl) (.cons (.same rfl) (.cons (.same rfl) (.cons (.same rfl) .nil)))))))))))))) (.cons rfl .ptrR (.cons rfl .ptrR .nil)))
      (by simp) ?_
  refine .seq <| .region <| .p (.loadN ag35 sz35 Z Z Z (nl Z)) <| .p (.call0 [] false (over_spec d (some b) v h) Tryz.func31 (hv := by exact (.cons (.same Z) (.cons (.aggL (.same Z)) .nil)))) ?_
  refine .c0 (.store sz35 Z Z Z Z (notup Z) Z Z (nl Z)) <| .nil <| .ret ?_
  exact ⟨_, _, _, _, rfl, ALe.s (l := [(0, .agg (encX (overM d (some b) v)))]) (m := []) (nx' := 0), rfl, rfl⟩
end Go.Abs
