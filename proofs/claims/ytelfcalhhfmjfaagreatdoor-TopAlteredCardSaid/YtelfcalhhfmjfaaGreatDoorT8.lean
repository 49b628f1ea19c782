/- Part 8 of the proof that TopAltered returns true for every input of its row (no condition beyond the row). -/
import Derived.Test.YtelfcalhhfmjfaaGreatDoorT7
set_option linter.unusedVariables false
set_option linter.unusedSimpArgs false
namespace Go.Abs
open Go.Proofs
set_option maxRecDepth 100000
set_option maxHeartbeats 8000000

def an23_7 : List Nat := [0, 0, 2, 0, 14, 0, 62, 126, 254, 511, 1023]

theorem btw_spec : ∀ d, Btw23 d := by
  intro d
  induction d with
  | zero => intro l p a b _ _ h; exact absurd h id
  | succ d ih =>
  intro l p a b ha hb hpa hpb hp hB
  refine FSpec.intro Tryz.func23 rfl (nl rfl) (nl rfl) fun s0 w0 hs0 hn0 => ?_
  refine .ws 1 [(0, .sl 0 29 0 l.length), (1, .ro 3 (rowsOf Stp.cells p)), (2, .agg (encX a)), (3, .agg (encX b))] [(0, .arr false 29 (rowsOf Chg.cells l))] <| .seq <| .region <| .c1 (.box 1 Z Z (notup Z)) <| .c1 (.box 2 Z Z (notup Z)) <| .p (.assign Z Z) <| .nil <| .seq <| .block <| .seq <| .region <| .p (.loadN ag35 sz35 Z Z Z (nl Z)) ?_
  refine .p (.loadN ag35 sz35 Z Z Z (nl Z)) <| .p (.call0 [] false (Equal_spec a b ha hb) Tryz.func30 (hv := by exact (.cons (.aggL (.same Z)) (.cons (.aggL (.same Z)) .nil)))) ?_
  refine .p (.move Z Z) ?_
  rcases Bool.eq_false_or_eq_true (sameM 1000 a b) with h1 | h1
  refine .nT Z Z h1 Z <| .nT Z Z h1 Z <| .nT Z Z h1 Z <| .p (.pickE Z Z h1 Z) <| .p (.assign Z Z) <| .nil <| .cT Z Z <| .seq <| .region <| .p (.move Z Z) <| .p (.assign Z Z) <| .nil ?_
  refine .ret ?_
  have hd : btwM (d + 1) l p a b = l := by
    simp only [btwM]
    exact if_pos (by first | exact .inl ‹_› | exact .inr (by omega))
  exact ⟨_, _, _, _, rfl, ALe.of false [(1, 0)] 2
      [(0, .sl 1 29 0 (btwM (d + 1) l p a b).length)]
      [(1, .arr false 29 (rowsOf Chg.cells (btwM (d + 1) l p a b)))]
      (.cons rfl (.arr (by rw [hd])) .nil)
      (.cons rfl (.slE (by first | (rw [hd]; done) | (rw [hd]; simp))) .nil)
      (by simp), rfl, rfl⟩
  refine .yF (.move Z Z) Z Z h1 <| .yF (.len_sl ut38 Z Z (Option.some_ne_none _)) Z Z h1 <| .yF (.igtr Z Z Z) Z Z h1 <| .p (.pickE Z Z h1 Z) <| .p (.assign Z Z) <| .nil ?_
  by_cases p3 : 4096 < ((l.length : Nat) : Int)
  have h2 := decide_eq_true p3
  refine .cT Z h2 <| .seq <| .region <| .p (.move Z Z) <| .p (.assign Z Z) <| .nil <| .ret ?_
  have hd : btwM (d + 1) l p a b = l := by
    simp only [btwM]
    exact if_pos (by first | exact .inl ‹_› | exact .inr (by omega))
  exact ⟨_, _, _, _, rfl, ALe.of false [(1, 0)] 2
      [(0, .sl 1 29 0 (btwM (d + 1) l p a b).length)]
      [(1, .arr false 29 (rowsOf Chg.cells (btwM (d + 1) l p a b)))]
      (.cons rfl (.arr (by rw [hd])) .nil)
      (.cons rfl (.slE (by first | (rw [hd]; done) | (rw [hd]; simp))) .nil)
      (by simp), rfl, rfl⟩
  have h2 := decide_eq_false p3
  refine .cF Z h2 <| .seq <| .region <| .p (.faddr fo35_0 Z Z) <| .p (.load1 ag3 Z Z Z Z) <| .p (.ieql Z Z Z) <| .p (.move Z Z) ?_
  by_cases p5 : a.kind = 7
  have h4 := decide_eq_true p5
  refine .yT (.faddr fo35_0 Z Z) Z Z h4 <| .yT (.load1 ag3 Z Z Z Z) Z Z h4 <| .yT (.ieql Z Z Z) Z Z h4 <| .p (.pickE Z Z h4 Z) <| .p (.assign Z Z) <| .nil ?_
  by_cases p7 : b.kind = 7
  have h6 := decide_eq_true p7
  refine .cT Z h6 <| .seq <| .region <| .p (.move Z Z) <| .p (.move Z Z) <| .p (.loadN ag35 sz35 Z Z Z (nl Z)) <| .p (.loadN ag35 sz35 Z Z Z (nl Z)) <| .c1 (.callN [0, 3] [3] false (maps_spec d ih l p a b ha hb hpa hpb (by omega) (by simp only [btwM] at hB; rw [if_neg (by first | (simp_all; done) | (simp_all; omega)), if_pos ⟨‹_›, ‹_›⟩] at hB; exact hB) ‹_› ‹_›) Tryz.func39 (hc := by exact (.cons .nil Z Z Z (.arrE Z))) (hv := by exact (.cons (.sl (nl Z) Z Z) (.cons (.same Z) (.cons (.aggL (.same Z)) (.cons (.aggL (.same Z)) .nil)))))) ?_
  refine .p (.assign Z Z) <| .nil <| .ret ?_
  have hd : btwM (d + 1) l p a b = (mapsM (btwM d) l p a b) := by
    simp only [btwM]
    rw [if_neg (by first | (simp_all; done) | (simp_all; omega))]
    first | exact if_pos ⟨‹_›, ‹_›⟩ | (rw [List.append_nil]; refine if_neg ?_; simp_all)
  exact ⟨_, _, _, _, rfl, ALe.of false [(1, 3)] 2
      [(0, .sl 1 29 0 (btwM (d + 1) l p a b).length)]
      [(1, .arr false 29 (rowsOf Chg.cells (btwM (d + 1) l p a b)))]
      (.cons rfl (.arr (by rw [hd])) .nil)
      (.cons rfl (.slE (by first | (rw [hd]; done) | (rw [hd]; simp))) .nil)
      (by simp), rfl, rfl⟩
  have h6 := decide_eq_false p7
  refine .cF Z h6 <| .seq <| .region <| .p (.faddr fo35_0 Z Z) <| .p (.load1 ag3 Z Z Z Z) <| .p (.ieql Z Z Z) <| .p (.move Z Z) ?_
  have h8 : (decide (a.kind = 6)) = false := decide_eq_false hpa.1
  refine .nF Z Z h8 Z <| .nF Z Z h8 Z <| .nF Z Z h8 Z <| .p (.pickE Z Z h8 Z) <| .p (.assign Z Z) <| .nil <| .cF Z Z <| .skip <| .seq <| .region_p fol an23_7 (by kernel_rfl) Z ?_
  refine .p [] (.move Z Z) <| .p [] (.move Z Z) <| .p [] (.call0 [] false (Join_spec p [] (by omega) (by simp)) Tryz.func41 (hv := by exact (.cons (.same Z) (.cons (.nilRo Z) .nil)))) ?_
  refine .p [1] (.loadN ag35 sz35 Z Z Z (nl Z)) <| .p [] (.call0 [] false (Copy_spec a ha) Tryz.func27 (hv := by exact (.cons (.aggL (.same Z)) .nil))) ?_
  refine .p [2] (.loadN ag35 sz35 Z Z Z (nl Z)) <| .p [] (.call0 [] false (Copy_spec b hb) Tryz.func27 (hv := by exact (.cons (.aggL (.same Z)) .nil))) ?_
  refine .p [] (.build Z zt78 Z pl78 Z Z) <| .c 4 [] (.buildSlice 3 true [([.I 1, .ro 3 (rowsOf Stp.cells (p ++ [])), .I 0] ++ encX a ++ encX b)] ut38 sz78 zt78 Z Z (by decide) (by decide) Z Z Z Z Z Z Z) ?_
  refine .c 5 [0, 3] (.appendN (n2 := (l.length + 1)) 4 el38 Z Z Z (by first | rfl | (simp; done) | (simp; omega)) (.sl Z Z (nl Z) (by simp)) (by simp only [rowsOf, List.length_map, List.length_append, List.length_take, List.length_drop, List.length_cons, List.length_nil]; omega) (by simp only [rowsOf, List.length_map, List.length_append, List.length_take, List.length_drop, List.length_cons, List.length_nil]; omega) (by first | rfl | (simp; done) | (simp; omega))) ?_
  refine .p [] (.assign Z Z) <| .nil (by kernel_rfl) ?_
  refine .ws 5 [(8, .sl 4 29 0 (l.length + 1))] [(4, .arr false 29 ((rowsOf Chg.cells l) ++ (([([.I 1, .ro 3 (rowsOf Stp.cells (p ++ [])), .I 0] ++ encX a ++ encX b)].drop 0).take 1)))] <| .ret ?_
  have hd : btwM (d + 1) l p a b = (l ++ [(⟨1, (p ++ []), 0, a, b⟩ : Chg)]) := by
    simp only [btwM]
    rw [if_neg (by first | (simp_all; done) | (simp_all; omega))]
    first | exact if_pos ⟨‹_›, ‹_›⟩ | (rw [List.append_nil]; refine if_neg ?_; simp_all)
  exact ⟨_, _, _, _, rfl, ALe.of false [(1, 4)] 2
      [(0, .sl 1 29 0 (btwM (d + 1) l p a b).length)]
      [(1, .arr false 29 (rowsOf Chg.cells (btwM (d + 1) l p a b)))]
      (.cons rfl (.arr (by rw [hd]; exact (rows_append (f := Chg.cells) l [(⟨1, (p ++ []), 0, a, b⟩ : Chg)]).symm)) .nil)
      (.cons rfl (.slE (by first | (rw [hd]; done) | (rw [hd]; simp))) .nil)
      (by simp), rfl, rfl⟩
  have h4 := decide_eq_false p5
  refine .nF Z Z h4 Z <| .nF Z Z h4 Z <| .nF Z Z h4 Z <| .p (.pickE Z Z h4 Z) <| .p (.assign Z Z) <| .nil <| .cF Z Z <| .seq <| .region <| .p (.faddr fo35_0 Z Z) <| .p (.load1 ag3 Z Z Z Z) <| .p (.ieql Z Z Z) ?_
  refine .p (.move Z Z) ?_
  have h9 : (decide (a.kind = 6)) = false := decide_eq_false hpa.1
  refine .nF Z Z h9 Z <| .nF Z Z h9 Z <| .nF Z Z h9 Z <| .p (.pickE Z Z h9 Z) <| .p (.assign Z Z) <| .nil <| .cF Z Z <| .skip <| .seq <| .region_p fol an23_7 (by kernel_rfl) Z ?_
  refine .p [] (.move Z Z) <| .p [] (.move Z Z) <| .p [] (.call0 [] false (Join_spec p [] (by omega) (by simp)) Tryz.func41 (hv := by exact (.cons (.same Z) (.cons (.nilRo Z) .nil)))) ?_
  refine .p [1] (.loadN ag35 sz35 Z Z Z (nl Z)) <| .p [] (.call0 [] false (Copy_spec a ha) Tryz.func27 (hv := by exact (.cons (.aggL (.same Z)) .nil))) ?_
  refine .p [2] (.loadN ag35 sz35 Z Z Z (nl Z)) <| .p [] (.call0 [] false (Copy_spec b hb) Tryz.func27 (hv := by exact (.cons (.aggL (.same Z)) .nil))) ?_
  refine .p [] (.build Z zt78 Z pl78 Z Z) <| .c 4 [] (.buildSlice 3 true [([.I 1, .ro 3 (rowsOf Stp.cells (p ++ [])), .I 0] ++ encX a ++ encX b)] ut38 sz78 zt78 Z Z (by decide) (by decide) Z Z Z Z Z Z Z) ?_
  refine .c 5 [0, 3] (.appendN (n2 := (l.length + 1)) 4 el38 Z Z Z (by first | rfl | (simp; done) | (simp; omega)) (.sl Z Z (nl Z) (by simp)) (by simp only [rowsOf, List.length_map, List.length_append, List.length_take, List.length_drop, List.length_cons, List.length_nil]; omega) (by simp only [rowsOf, List.length_map, List.length_append, List.length_take, List.length_drop, List.length_cons, List.length_nil]; omega) (by first | rfl | (simp; done) | (simp; omega))) ?_
  refine .p [] (.assign Z Z) <| .nil (by kernel_rfl) ?_
  refine .ws 5 [(8, .sl 4 29 0 (l.length + 1))] [(4, .arr false 29 ((rowsOf Chg.cells l) ++ (([([.I 1, .ro 3 (rowsOf Stp.cells (p ++ [])), .I 0] ++ encX a ++ encX b)].drop 0).take 1)))] <| .ret ?_
  have hd : btwM (d + 1) l p a b = (l ++ [(⟨1, (p ++ []), 0, a, b⟩ : Chg)]) := by
    simp only [btwM]
    rw [if_neg (by first | (simp_all; done) | (simp_all; omega))]
    first | exact if_pos ⟨‹_›, ‹_›⟩ | (rw [List.append_nil]; refine if_neg ?_; simp_all)
  exact ⟨_, _, _, _, rfl, ALe.of false [(1, 4)] 2
      [(0, .sl 1 29 0 (btwM (d + 1) l p a b).length)]
      [(1, .arr false 29 (rowsOf Chg.cells (btwM (d + 1) l p a b)))]
      (.cons rfl (.arr (by rw [hd]; exact (rows_append (f := Chg.cells) l [(⟨1, (p ++ []), 0, a, b⟩ : Chg)]).symm)) .nil)
      (.cons rfl (.slE (by first | (rw [hd]; done) | (rw [hd]; simp))) .nil)
      (by simp), rfl, rfl⟩

theorem btwNil_spec (a b : T) (ha : a.fit) (hb : b.fit) (hpa : T.pl 3 a) (hpb : T.pl 3 b) (hB : (btwM 3 [] [] a b).length ≤ 100000) :
    FSpec Tryz.prog 23 0 [.O, .ro 3 (rowsOf Stp.cells []), .agg (encX a), .agg (encX b)] (hpOf []) (fun r h => r = .sl 1 29 0 (btwM 3 [] [] a b).length ∧ h = hpOf [(1, .arr false 29 (rowsOf Chg.cells (btwM 3 [] [] a b)))]) :=
  FSpec.nil0 (esz := 29) (fr := false) 0 (btw_spec 3 [] [] a b ha hb hpa hpb (by simp) hB) rfl rfl

theorem Make_spec (a b : T) (ha : a.fit) (hb : b.fit) (hpa : T.pl 3 a) (hpb : T.pl 3 b) (hB : (btwM 3 [] [] a b).length ≤ 4096) : FSpec Tryz.prog 6 0 [.agg (encX a), .agg (encX b)] (hpOf []) (fun r h => r = .tup [.ro 29 (rowsOf Chg.cells (btwM 3 [] [] a b)), .I 0] ∧ h = hpOf []) := by
  refine FSpec.intro Tryz.func6 rfl (nl rfl) (nl rfl) fun s0 w0 hs0 hn0 => ?_
  refine .ws 0 [(0, .agg (encX a)), (1, .agg (encX b))] [] <| .seq <| .region <| .c1 (.box 0 Z Z (notup Z)) <| .c1 (.box 1 Z Z (notup Z)) <| .p (.assign Z Z) <| .p (.assign Z Z) <| .nil <| .seq <| .region <| .p (.loadN ag35 sz35 Z Z Z (nl Z)) <| .p (.loadN ag35 sz35 Z Z Z (nl Z)) ?_
  refine .c2 (.call0 [2, 3] false (btwNil_spec a b ha hb hpa hpb (by omega)) Tryz.func23 (hv := by exact (.cons (.same Z) (.cons (.nilRo Z) (.cons (.aggL (.same Z)) (.cons (.aggL (.same Z)) .nil)))))) ?_
  refine .p (.assign Z Z) <| .nil <| .seq <| .seq <| .region <| .p (.move Z Z) <| .p (.len_sl ut38 Z Z (Option.some_ne_none _)) <| .p (.igtr Z Z Z) <| .nil ?_
  have h1 : (decide (4096 < (((btwM 3 [] [] a b).length : Nat) : Int))) = false := decide_eq_false (by first | omega | (simp only [List.length_take, List.length_drop]; omega))
  refine .cF Z h1 <| .skip <| .seq <| .region <| .p (.move Z Z) <| .p (.assign Z Z) <| .p (.assign Z Z) <| .nil <| .ret ?_
  exact ⟨_, _, _, _, rfl, ALe.of false [] 0
      [(0, .tup [.ro 29 (rowsOf Chg.cells (btwM 3 [] [] a b)), .I 0])]
      []
      .nil
      (.cons rfl (.tupL (.cons (.freezeR (els := (rowsOf Chg.cells (btwM 3 [] [] a b))) (by simp) rfl) (.cons (.same rfl) .nil))) .nil)
      (by simp), rfl, rfl⟩
end Go.Abs
namespace Go.Abs
open Go.Proofs
set_option maxRecDepth 100000
set_option maxHeartbeats 8000000

theorem us5 : (Tryz.prog.underlying 5).isSome = true := by kernel_rfl
theorem ut159 : Tryz.prog.underlying 159 = some (.map 9 4) := by kernel_rfl
def zv4 : Value := .bool false
theorem zt4 : (Tryz.prog.info? 4).bind (·.zero) = some zv4 := by kernel_rfl

theorem head_spec (b : Int) (h0 : 0 ≤ b) (h : b < 128) : FSpec Tryz.prog 105 0 [.lit (.int .u8 b)] (hpOf []) (fun r h => r = .tup [.I 1, .I b] ∧ h = hpOf []) := by
  refine FSpec.intro Tryz.func105 rfl (nl rfl) (nl rfl) fun s0 w0 hs0 hn0 => ?_
  refine .ws 0 [(0, .lit (.int .u8 b))] [] <| .seq <| .region <| .p (.assign Z Z) <| .p (.assign Z Z) <| .nil <| .seq <| .block <| .seq <| .region <| .p (.move Z Z) <| .p (.ilss Z Z Z) ?_
  refine .p (.assign Z Z) <| .nil ?_
  have h1 : (decide (b < 128)) = true := decide_eq_true (by omega)
  refine .cT Z h1 <| .seq <| .region <| .p (.move Z Z) <| .p (.cint (r := b) us5 ut3 Z Z (wi (by omega) Z)) ?_
  refine .p (.assign Z Z) <| .p (.assign Z Z) <| .nil <| .ret ?_
  exact ⟨_, _, _, _, rfl, ALe.s (l := [(0, .tup [.I 1, .I b])]) (m := []) (nx' := 0), rfl, rfl⟩

theorem scalar_spec (r : Int) (h0 : 0 ≤ r) (h : r < 128) : FSpec Tryz.prog 106 0 [.I r] (hpOf []) (fun r h => r = .B true ∧ h = hpOf []) := by
  refine FSpec.intro Tryz.func106 rfl (nl rfl) (nl rfl) fun s0 w0 hs0 hn0 => ?_
  refine .ws 0 [(0, .I r)] [] <| .seq <| .region <| .p (.assign Z Z) <| .nil <| .seq <| .region <| .p (.move Z Z) <| .p (.igeq Z Z Z) <| .p (.move Z Z) ?_
  have h1 : (decide (0 ≤ r)) = true := decide_eq_true (by omega)
  refine .yT (.move Z Z) Z Z h1 <| .yT (.ileq Z Z Z) Z Z h1 <| .p (.pickE Z Z h1 Z) <| .p (.move Z Z) ?_
  have h2 : (decide (r ≤ 1114111)) = true := decide_eq_true (by omega)
  refine .yT (.move Z Z) Z Z h2 <| .yT (.ilss Z Z Z) Z Z h2 <| .yT (.move Z Z) Z Z h2 ?_
  have h3 : (decide (r < 55296)) = true := decide_eq_true (by omega)
  refine .nT Z Z h3 Z <| .nT Z Z h3 Z <| .yT (.pickE Z Z h3 Z) Z Z h2 <| .p (.pickE Z Z h2 Z) <| .p (.assign Z Z) <| .nil <| .ret ?_
  exact ⟨_, _, _, _, rfl, ALe.s (l := [(0, .B true)]) (m := []) (nx' := 0), rfl, rfl⟩

theorem width_spec (r : Int) (h0 : 0 ≤ r) (h : r < 128) : FSpec Tryz.prog 107 0 [.I r] (hpOf []) (fun r h => r = .I 1 ∧ h = hpOf []) := by
  refine FSpec.intro Tryz.func107 rfl (nl rfl) (nl rfl) fun s0 w0 hs0 hn0 => ?_
  refine .ws 0 [(0, .I r)] [] <| .seq <| .region <| .p (.assign Z Z) <| .nil <| .seq <| .block <| .seq <| .region <| .p (.move Z Z) <| .p (.ilss Z Z Z) <| .p (.assign Z Z) ?_
  refine .nil ?_
  have h1 : (decide (r < 128)) = true := decide_eq_true (by omega)
  refine .cT Z h1 <| .seq <| .region <| .p (.assign Z Z) <| .nil <| .ret ?_
  exact ⟨_, _, _, _, rfl, ALe.s (l := [(0, .I 1)]) (m := []) (nx' := 0), rfl, rfl⟩

theorem Decode_spec (s : ByteArray) (i : Nat) (hs : s.size ≤ 100000) (hi : i < s.size) (h : bat s i < 128) : FSpec Tryz.prog 97 0 [.S s, .N i] (hpOf []) (fun r h => r = .tup [.I (bat s i), .I 1] ∧ h = hpOf []) := by
  have hb := bat_lt s i
  refine FSpec.intro Tryz.func97 rfl (nl rfl) (nl rfl) fun s0 w0 hs0 hn0 => ?_
  refine .ws 0 [(0, .S s), (1, .N i)] [] <| .seq <| .region <| .p (.assign Z Z) <| .p (.assign Z Z) <| .nil <| .seq <| .seq <| .region <| .p (.move Z Z) <| .p (.ilss Z Z Z) <| .p (.move Z Z) ?_
  have h1 : (decide (((i : Nat) : Int) < 0)) = false := decide_eq_false (by omega)
  refine .yF (.move Z Z) Z Z h1 <| .yF (.move Z Z) Z Z h1 <| .yF (.len_str ut9 Z Z Z) Z Z h1 <| .yF (.igeq Z Z Z) Z Z h1 <| .p (.pickE Z Z h1 Z) <| .nil ?_
  have h2 : (decide (((s.size : Nat) : Int) ≤ ((i : Nat) : Int))) = false := decide_eq_false (by omega)
  refine .cF Z h2 <| .skip <| .seq <| .region <| .p (.move Z Z) <| .p (.move Z Z) <| .p (.sindexB (j := i) ut9 Z Z Z Z (by omega)) ?_
  refine .p (.call0 [] false (head_spec (bat s i) (bat_lt s i).1 h) Tryz.func105 (hv := by exact (.same Z))) ?_
  refine .p (.move Z Z) <| .p (.extract Z Z Z) <| .p (.extract Z Z Z) <| .p (.assign Z Z) <| .p (.assign Z Z) <| .nil <| .seq <| .seq <| .region <| .p (.move Z Z) <| .p ((AOp.ieql Z Z Z).lb Z) <| .p (.move Z Z) ?_
  refine .yF (.move Z Z) Z Z (Eq.refl false) <| .yF (.move Z Z) Z Z (Eq.refl false) <| .yF (.len_str ut9 Z Z Z) Z Z (Eq.refl false) <| .yF (.move Z Z) Z Z (Eq.refl false) <| .yF (.isub (r := (((s.size - i) : Nat) : Int)) Z Z Z (wi (by omega) (by first | rfl | omega | (simp; done)))) Z Z (Eq.refl false) ?_
  refine .yF (.igtr Z Z Z) Z Z (Eq.refl false) <| .p (.pick Z Z Z) <| .nil ?_
  have h3 : (decide ((((s.size - i) : Nat) : Int) < 1)) = false := decide_eq_false (by omega)
  refine .cF Z h3 <| .skip <| .seq <| .seq <| .region <| .p (.assign Z Z) <| .nil <| .block ?_
  refine AWP.loop (G := { g : Unit // True }) (fun g => envOf [(0, .S s), (1, .N i), (4, .I (bat s i)), (6, .I 1), (7, .I 1)]) (fun g => hpOf []) (fun _ => 0) (fun g => 0) ⟨(()), trivial⟩ ALe.s ?_
  rintro ⟨_u, hg⟩
  try dsimp only at hg
  refine .ws 0 [(0, .S s), (1, .N i), (4, .I (bat s i)), (6, .I 1), (7, .I 1)] [] <| .seq <| .seq <| .region <| .p (.move Z Z) <| .p (.move Z Z) <| .p ((AOp.ilss Z Z Z).lb Z) <| .nil <| .cF Z Z <| .exit <| .seq <| .seq ?_
  refine .region <| .p (.move Z Z) <| .p (.call0 [] false (scalar_spec (bat s i) (bat_lt s i).1 h) Tryz.func106 (hv := by exact (.same Z))) ?_
  refine .p (.not Z Z) <| .p (.move Z Z) <| .yF (.move Z Z) Z Z (Eq.refl false) <| .yF (.call0 [] false (width_spec (bat s i) (bat_lt s i).1 h) Tryz.func107 (hv := by exact (.same Z))) Z Z (Eq.refl false) ?_
  refine .yF (.move Z Z) Z Z (Eq.refl false) <| .yF ((AOp.ineq Z Z Z).lb Z) Z Z (Eq.refl false) <| .p (.pick Z Z Z) <| .nil <| .cF Z Z <| .skip <| .seq <| .region <| .p (.move Z Z) <| .p (.move Z Z) <| .p (.assign Z Z) <| .p (.assign Z Z) ?_
  refine .nil <| .ret ?_
  exact ⟨_, _, _, _, rfl, ALe.s (l := [(0, .tup [.I (bat s i), .I 1])]) (m := []) (nx' := 0), rfl, rfl⟩

theorem Len_spec (s : ByteArray) (hs : s.size ≤ 100000) (h : ∀ i, i < s.size → bat s i < 128) : FSpec Tryz.prog 83 0 [.S s] (hpOf []) (fun r h => r = .tup [.N s.size, .I 0] ∧ h = hpOf []) := by
  refine FSpec.intro Tryz.func83 rfl (nl rfl) (nl rfl) fun s0 w0 hs0 hn0 => ?_
  refine .ws 0 [(0, .S s)] [] <| .seq <| .region <| .p (.assign Z Z) <| .p (.assign Z Z) <| .nil <| .seq <| .region <| .p (.assign Z Z) <| .nil <| .seq <| .seq ?_
  refine .region <| .p (.assign Z Z) <| .nil <| .block ?_
  refine AWP.loop (G := { g : Nat // g ≤ s.size }) (fun g => envOf [(0, .S s), (4, .N g.1), (5, .N g.1)]) (fun g => hpOf []) (fun _ => 0) (fun g => s.size - g.1) ⟨(0), Nat.zero_le _⟩ ALe.s ?_
  rintro ⟨i, hg⟩
  try dsimp only at hg
  refine .ws 0 [(0, .S s), (4, .N i), (5, .N i)] [] <| .seq <| .seq <| .region <| .p (.move Z Z) <| .p (.move Z Z) <| .p (.len_str ut9 Z Z Z) <| .p (.ilss Z Z Z) <| .nil ?_
  by_cases p2 : ((i : Nat) : Int) < ((s.size : Nat) : Int)
  have h1 := decide_eq_true p2
  refine .cT Z h1 <| .skip <| .seq <| .block <| .seq <| .region <| .p (.move Z Z) <| .p (.move Z Z) <| .p (.call0 [] false (Decode_spec s i (by omega) (by omega) (h i (by omega))) Tryz.func97 (hv := by exact (.same Z))) ?_
  refine .p (.move Z Z) <| .p (.extract Z Z Z) <| .p (.extract Z Z Z) <| .p (.assign Z Z) <| .p (.assign Z Z) <| .nil <| .seq <| .seq <| .region <| .p (.move Z Z) <| .p ((AOp.ieql Z Z Z).lb Z) <| .nil ?_
  refine .cF Z Z <| .skip <| .region <| .p (.move Z Z) <| .p (.move Z Z) <| .p (.iadd (r := (((i + 1) : Nat) : Int)) Z Z Z (wi (by omega) (by first | rfl | omega | (simp; done)))) ?_
  refine .p (.assign Z Z) <| .nil <| .region <| .p (.move Z Z) <| .p (.iadd (r := (((i + 1) : Nat) : Int)) Z Z Z (wi (by omega) (by first | rfl | omega | (simp; done)))) ?_
  refine .p (.assign Z Z) <| .nil ?_
  exact ⟨⟨((i + 1)), (by show i + 1 ≤ _; omega)⟩, (by simp; omega), ALe.s⟩
  have h1 := decide_eq_false p2
  refine .cF Z h1 <| .exit <| .seq <| .region <| .p (.move Z Z) <| .p (.assign Z Z) <| .p (.assign Z Z) <| .nil <| .ret ?_
  have hd : i = s.size := by omega
  exact ⟨_, _, _, _, rfl, ALe.of false [] 0
      [(0, .tup [.N s.size, .I 0])]
      []
      .nil
      (.cons rfl (.tupL (.cons (.litE (by first | rfl | rw [hd])) (.cons (.same rfl) .nil))) .nil)
      (by simp), rfl, rfl⟩

theorem Valid_spec (s : ByteArray) (hs : s.size ≤ 100000) (h : ∀ i, i < s.size → bat s i < 128) : FSpec Tryz.prog 68 0 [.S s] (hpOf []) (fun r h => r = .B true ∧ h = hpOf []) := by
  refine FSpec.intro Tryz.func68 rfl (nl rfl) (nl rfl) fun s0 w0 hs0 hn0 => ?_
  refine .ws 0 [(0, .S s)] [] <| .seq <| .region <| .p (.assign Z Z) <| .nil <| .seq <| .region <| .p (.move Z Z) <| .p (.call0 [] false (Len_spec s hs h) Tryz.func83 (hv := by exact (.same Z))) ?_
  refine .p (.move Z Z) <| .p (.extract Z Z Z) <| .p (.extract Z Z Z) <| .p (.assign Z Z) <| .p (.assign Z Z) <| .nil <| .seq <| .region <| .p (.move Z Z) <| .p ((AOp.ieql Z Z Z).lb Z) <| .p (.assign Z Z) <| .nil ?_
  refine .ret ?_
  exact ⟨_, _, _, _, rfl, ALe.s (l := [(0, .B true)]) (m := []) (nx' := 0), rfl, rfl⟩

theorem key100_spec (s : ByteArray) (h : kOK s) : FSpec Tryz.prog 100 0 [.S s] (hpOf []) (fun r h => r = .I 0 ∧ h = hpOf []) := by
  have h1 := h.1
  refine FSpec.intro Tryz.func100 rfl (nl rfl) (nl rfl) fun s0 w0 hs0 hn0 => ?_
  refine .ws 0 [(0, .S s)] [] <| .seq <| .region <| .p (.assign Z Z) <| .nil <| .seq <| .seq <| .region <| .p (.move Z Z) <| .p (.call0 [] false (Valid_spec s (by omega) h.2) Tryz.func68 (hv := by exact (.same Z))) ?_
  refine .p (.not Z Z) <| .nil <| .cF Z Z <| .skip <| .seq <| .seq <| .region <| .p (.move Z Z) <| .p (.len_str ut9 Z Z Z) <| .p (.igtr Z Z Z) <| .nil ?_
  have h1 : (decide (1024 < ((s.size : Nat) : Int))) = false := decide_eq_false (by first | omega | (simp only [List.length_take, List.length_drop]; omega))
  refine .cF Z h1 <| .skip <| .seq <| .region <| .p (.assign Z Z) <| .nil <| .ret ?_
  exact ⟨_, _, _, _, rfl, ALe.s (l := [(0, .I 0)]) (m := []) (nx' := 0), rfl, rfl⟩

theorem keys_spec (l : List Fl) (hl : vdF l) : FSpec Tryz.prog 87 0 [.ro 14 (encF l)] (hpOf []) (fun r h => r = .I 0 ∧ h = hpOf []) := by
  have h1 := hl.1
  refine FSpec.intro Tryz.func87 rfl (nl rfl) (nl rfl) fun s0 w0 hs0 hn0 => ?_
  refine .ws 0 [(0, .ro 14 (encF l))] [] <| .seq <| .region <| .p (.assign Z Z) <| .nil <| .seq <| .region <| .c1 (.makeMap 0 Z) <| .p (.assign Z Z) <| .nil <| .seq <| .seq ?_
  refine .region <| .p (.move Z Z) <| .p (.len_ro (n := l.length) ut33 Z (.inl Z) (by simp)) ?_
  refine .p (.move Z Z) <| .nil <| .block ?_
  refine AWP.loop (G := { g : Nat // g ≤ l.length }) (fun g => envOf [(3, .mp 0), (8, .ro 14 (encF l)), (9, .N l.length), (10, .N g.1)]) (fun g => hpOf [(0, .map (smap (seenK (l.take g.1))))]) (fun _ => 1) (fun g => l.length - g.1) ⟨(0), Nat.zero_le _⟩ (ALe.of false [] 1
      _
      _
      (.cons rfl (.mapE rfl) .nil)
      (.cons rfl .mpR (.s (.s (.s .nil))))
      (by simp)) ?_
  rintro ⟨i, hg⟩
  try dsimp only at hg
  refine .ws 1 [(3, .mp 0), (8, .ro 14 (encF l)), (9, .N l.length), (10, .N i)] [(0, .map (smap (seenK (l.take i))))] <| .seq <| .region <| .p (.ilss Z Z Z) <| .nil <| .seq ?_
  by_cases p2 : ((i : Nat) : Int) < ((l.length : Nat) : Int)
  have h1 := decide_eq_true p2
  refine .cT Z h1 <| .skip <| .seq <| .block <| .seq <| .region <| .p (.iaddr_ro (row := ([.S ((nthF l i).1)] ++ encX (nthF l i).2)) ut33 sz72 Z Z Z Z (encF_nth (by omega))) ?_
  refine .p (.rloadN ag72 sz72 Z Z (nl Z)) <| .c1 (.alloc 1 Z zt72 Z) <| .c0 (.store sz72 Z Z Z Z (notup Z) Z Z (nl Z)) <| .nil <| .seq <| .seq <| .region <| .p (.faddr fo72_0 Z Z) <| .p (.load1 ag9 Z Z Z Z) <| .p (.call0 [] false (key100_spec (nthF l i).1 (hl.2.1 _ (nthF_mem (by omega)))) Tryz.func100 (hv := by exact (.same Z))) ?_
  refine .p (.assign Z Z) <| .nil <| .seq <| .region <| .p (.move Z Z) <| .p ((AOp.ineq Z Z Z).lb Z) <| .nil <| .cF Z Z <| .skip <| .seq <| .seq <| .region ?_
  refine .p (.move Z Z) <| .p (.faddr fo72_0 Z Z) <| .p (.load1 ag9 Z Z Z Z) <| .p (.lookup (v := (.bool false)) (seenK (l.take i)) ut159 ut9 zt4 Z Z Z Z (by rw [seen_none hl.2.2 (by omega)]; rfl) Z) ?_
  refine .nil <| .cF Z Z <| .skip <| .region <| .p (.move Z Z) <| .p (.faddr fo72_0 Z Z) <| .p (.load1 ag9 Z Z Z Z) <| .c0 (.mapUpdate (seenK (l.take i)) ut159 ut9 Z Z Z Z Z) <| .nil <| .region <| .p (.iadd (r := (((i + 1) : Nat) : Int)) Z Z Z (wi (by omega) (by first | rfl | omega | (simp; done)))) ?_
  refine .p (.move Z Z) <| .nil ?_
  exact ⟨⟨((i + 1)), (by show i + 1 ≤ _; omega)⟩, (by simp; omega), (ALe.of false [] 1
      _
      _
      (.cons rfl (.mapE (by rw [seen_put hl.2.2 (by omega)])) .nil)
      (.cons rfl .mpR (.s (.s (.s .nil))))
      (by simp))⟩
  have h1 := decide_eq_false p2
  refine .cF Z h1 <| .exit <| .seq <| .region <| .p (.assign Z Z) <| .nil <| .ret ?_
  exact ⟨_, _, _, _, rfl, ALe.s (l := [(0, .I 0)]) (m := []) (nx' := 0), rfl, rfl⟩
end Go.Abs
namespace Go.Abs
open Go.Proofs
set_option maxRecDepth 100000
set_option maxHeartbeats 8000000

theorem fo28_1 : fieldOff Tryz.prog 28 1 = some 1 := by kernel_rfl
theorem fo28_2 : fieldOff Tryz.prog 28 2 = some 2 := by kernel_rfl
def zv30 : Value := .agg #[.int .i64 0, .int .i64 0, .int .i64 0, .int .i64 0]
theorem zt30 : (Tryz.prog.info? 30).bind (·.zero) = some zv30 := by kernel_rfl
theorem pl30 : placesOf Tryz.prog 30 = some [(0, 1), (1, 1), (2, 1), (3, 1)] := by kernel_rfl
theorem sz3 : (Tryz.prog.info? 3).map (·.size) = some 1 := by kernel_rfl
def zv3 : Value := .int .i64 0
theorem zt3 : (Tryz.prog.info? 3).bind (·.zero) = some zv3 := by kernel_rfl

theorem all_spec (l : List UInt8) (h : digOK l) : FSpec Tryz.prog 108 0 [.S (strOf l)] (hpOf []) (fun r h => r = .B true ∧ h = hpOf []) := by
  have h1 := h.2.1
  refine FSpec.intro Tryz.func108 rfl (nl rfl) (nl rfl) fun s0 w0 hs0 hn0 => ?_
  refine .ws 0 [(0, .S (strOf l))] [] <| .seq <| .region <| .p (.assign Z Z) <| .nil <| .seq <| .seq <| .region <| .p (.move Z Z) <| .p (.lenL l ut9 Z Z Z) <| .p (.move Z Z) <| .nil ?_
  refine .block ?_
  refine AWP.loop (G := { g : Nat // g ≤ l.length }) (fun g => envOf [(0, .S (strOf l)), (5, .N l.length), (6, .N g.1)]) (fun g => hpOf []) (fun _ => 0) (fun g => l.length - g.1) ⟨(0), Nat.zero_le _⟩ ALe.s ?_
  rintro ⟨i, hg⟩
  try dsimp only at hg
  refine .ws 0 [(0, .S (strOf l)), (5, .N l.length), (6, .N i)] [] <| .seq <| .region <| .p (.ilss Z Z Z) <| .nil <| .seq ?_
  by_cases p2 : ((i : Nat) : Int) < ((l.length : Nat) : Int)
  have h1 := decide_eq_true p2
  refine .cT Z h1 <| .skip <| .seq <| .block <| .seq <| .region <| .p (.move Z Z) <| .p (.assign Z Z) <| .nil <| .seq <| .region <| .p (.move Z Z) ?_
  refine .p (.move Z Z) <| .p (.sindexL (j := i) l ut9 Z Z Z Z (by omega)) ?_
  refine .p (.ilss Z Z Z) <| .p (.move Z Z) ?_
  have h3 : (decide ((byteAt l i) < 48)) = false := decide_eq_false (by have h9 := h.2.2.1 i (by omega); omega)
  refine .yF (.move Z Z) Z Z h3 <| .yF (.move Z Z) Z Z h3 <| .yF (.sindexL (j := i) l ut9 Z Z Z Z (by omega)) Z Z h3 ?_
  refine .yF (.igtr Z Z Z) Z Z h3 <| .p (.pickE Z Z h3 Z) <| .nil ?_
  have h4 : (decide (57 < (byteAt l i))) = false := decide_eq_false (by have h9 := h.2.2.1 i (by omega); omega)
  refine .cF Z h4 <| .skip <| .region <| .p (.iadd (r := (((i + 1) : Nat) : Int)) Z Z Z (wi (by omega) (by first | rfl | omega | (simp; done)))) ?_
  refine .p (.move Z Z) <| .nil ?_
  exact ⟨⟨((i + 1)), (by show i + 1 ≤ _; omega)⟩, (by simp; omega), ALe.s⟩
  have h1 := decide_eq_false p2
  refine .cF Z h1 <| .exit <| .seq <| .region <| .p (.assign Z Z) <| .nil <| .ret ?_
  exact ⟨_, _, _, _, rfl, ALe.s (l := [(0, .B true)]) (m := []) (nx' := 0), rfl, rfl⟩

theorem dValid_spec (l : List UInt8) (h : digOK l) : FSpec Tryz.prog 98 0 [.S (strOf l)] (hpOf []) (fun r h => r = .B true ∧ h = hpOf []) := by
  have h0 := h.1
  have h1 := h.2.1
  refine FSpec.intro Tryz.func98 rfl (nl rfl) (nl rfl) fun s0 w0 hs0 hn0 => ?_
  refine .ws 0 [(0, .S (strOf l))] [] <| .seq <| .region <| .p (.assign Z Z) <| .nil <| .seq <| .region <| .p (.move Z Z) <| .p (.lenL l ut9 Z Z Z) <| .p (.ileq Z Z Z) <| .p (.move Z Z) ?_
  have h1 : (decide (((l.length : Nat) : Int) ≤ 600)) = true := decide_eq_true (by omega)
  refine .yT (.move Z Z) Z Z h1 <| .yT (.call0 [] false (all_spec l h) Tryz.func108 (hv := by exact (.same Z))) Z Z h1 ?_
  refine .p (.pickE Z Z h1 Z) <| .p (.move Z Z) <| .yT (.move Z Z) Z Z (Eq.refl true) <| .yT (.seqlL l [] Z Z Z) Z Z (Eq.refl true) <| .yT (.move Z Z) Z Z (Eq.refl true) ?_
  have h2 : (decide (l = [])) = false := decide_eq_false (fun e => by subst e; exact absurd h.1 (by simp))
  refine .yF (.move Z Z) Z Z h2 <| .yF (.sindexL (j := 0) l ut9 Z Z Z Z (by first | omega | exact h.1)) Z Z h2 ?_
  refine .yF (.ineq Z Z Z) Z Z h2 <| .yT (.pickE Z Z h2 Z) Z Z (Eq.refl true) <| .p (.pick Z Z Z) <| .p (.assign Z Z) <| .nil <| .ret ?_
  exact ⟨_, _, _, _, rfl, ALe.of false [] 0
      [(0, .B true)]
      []
      .nil
      (.cons rfl (.litE (by first | rfl | (simp; exact h.2.2.2.1))) .nil)
      (by simp), rfl, rfl⟩

theorem trimB_spec (l : List UInt8) (h : digOK l) : FSpec Tryz.prog 113 0 [.S (strOf l), .lit (.int .u8 48)] (hpOf []) (fun r h => r = .S (strOf l) ∧ h = hpOf []) := by
  have h0 := h.1
  have h1 := h.2.1
  refine FSpec.intro Tryz.func113 rfl (nl rfl) (nl rfl) fun s0 w0 hs0 hn0 => ?_
  refine .ws 0 [(0, .S (strOf l)), (1, .lit (.int .u8 48))] [] <| .seq <| .region <| .p (.assign Z Z) <| .nil <| .seq <| .block ?_
  refine AWP.loop (G := { g : Unit // True }) (fun g => envOf [(0, .S (strOf l)), (1, .lit (.int .u8 48))]) (fun g => hpOf []) (fun _ => 0) (fun g => 0) ⟨(()), trivial⟩ ALe.s ?_
  rintro ⟨_u, hg⟩
  try dsimp only at hg
  refine .ws 0 [(0, .S (strOf l)), (1, .lit (.int .u8 48))] [] <| .seq <| .seq <| .region <| .p (.move Z Z) <| .p (.lenL l ut9 Z Z Z) <| .p (.igtr Z Z Z) <| .p (.move Z Z) ?_
  have h1 : (decide (0 < ((l.length : Nat) : Int))) = true := decide_eq_true (by omega)
  refine .yT (.move Z Z) Z Z h1 <| .yT (.move Z Z) Z Z h1 <| .yT (.lenL l ut9 Z Z Z) Z Z h1 <| .yT (.isub (r := (((l.length - 1) : Nat) : Int)) Z Z Z (wi (by omega) (by first | rfl | omega | (simp; done)))) Z Z h1 ?_
  refine .yT (.sindexL (j := (l.length - 1)) l ut9 Z Z Z Z (by omega)) Z Z h1 ?_
  refine .yT (.move Z Z) Z Z h1 <| .yT (.ieql Z Z Z) Z Z h1 <| .p (.pickE Z Z h1 Z) <| .nil ?_
  have h2 : (decide ((byteAt l (l.length - 1)) = 48)) = false := decide_eq_false h.2.2.2.2
  refine .cF Z h2 <| .exit <| .seq <| .region <| .p (.move Z Z) <| .p (.assign Z Z) <| .nil <| .ret ?_
  exact ⟨_, _, _, _, rfl, ALe.s (l := [(0, .S (strOf l))]) (m := []) (nx' := 0), rfl, rfl⟩

theorem trim_spec (l : List UInt8) (h : digOK l) : FSpec Tryz.prog 109 0 [.S (strOf l), .S ⟨#[48]⟩] (hpOf []) (fun r h => r = .S (strOf l) ∧ h = hpOf []) := by
  have h0 := h.1
  refine FSpec.intro Tryz.func109 rfl (nl rfl) (nl rfl) fun s0 w0 hs0 hn0 => ?_
  refine .ws 0 [(0, .S (strOf l)), (1, .S ⟨#[48]⟩)] [] <| .seq <| .region <| .p (.assign Z Z) <| .nil <| .seq <| .seq <| .region <| .p (.move Z Z) <| .p (.seqlL l [] Z Z Z) <| .p (.move Z Z) ?_
  have h1 : (decide (l = [])) = false := decide_eq_false (fun e => by subst e; exact absurd h.1 (by simp))
  refine .yF (.move Z Z) Z Z h1 <| .yF ((AOp.seql Z Z Z).lb (b' := false) (by decide)) Z Z h1 ?_
  refine .p (.pickE Z Z h1 Z) <| .nil <| .cF Z Z <| .skip <| .seq <| .seq <| .region <| .p (.move Z Z) <| .p ((AOp.len_str ut9 Z Z Z).li Z) <| .p ((AOp.ieql Z Z Z).lb Z) <| .p (.move Z Z) <| .yT (.move Z Z) Z Z (Eq.refl true) ?_
  refine .yT (.sindex ut9 Z Z Z Z (nl Z)) Z Z (Eq.refl true) <| .yT ((AOp.ilss Z Z Z).lb Z) Z Z (Eq.refl true) <| .p (.pick Z Z Z) <| .nil <| .cT Z Z <| .seq <| .region <| .p (.move Z Z) <| .p (.move Z Z) <| .p (.sindex ut9 Z Z Z Z (nl Z)) <| .p (.call0 [] false (trimB_spec l h) Tryz.func113 (hv := by exact (.same Z))) ?_
  refine .p (.assign Z Z) <| .nil <| .ret ?_
  exact ⟨_, _, _, _, rfl, ALe.s (l := [(0, .S (strOf l))]) (m := []) (nx' := 0), rfl, rfl⟩

theorem zerosD_spec (l : List UInt8) (h : digOK l) : FSpec Tryz.prog 99 0 [.S (strOf l)] (hpOf []) (fun r h => r = .I 0 ∧ h = hpOf []) := by
  have h1 := h.2.1
  refine FSpec.intro Tryz.func99 rfl (nl rfl) (nl rfl) fun s0 w0 hs0 hn0 => ?_
  refine .ws 0 [(0, .S (strOf l))] [] <| .seq <| .region <| .p (.assign Z Z) <| .nil <| .seq <| .region <| .p (.move Z Z) <| .p (.lenL l ut9 Z Z Z) <| .p (.move Z Z) <| .p (.call0 [] false (trim_spec l h) Tryz.func109 (hv := by exact (.same Z))) ?_
  refine .p (.lenL l ut9 Z Z Z) <| .p (.isub (r := (((l.length - l.length) : Nat) : Int)) Z Z Z (wi (by omega) (by first | rfl | omega | (simp; done)))) ?_
  refine .p (.assign Z Z) <| .nil <| .ret ?_
  exact ⟨_, _, _, _, rfl, ALe.of false [] 0
      [(0, .I 0)]
      []
      .nil
      (.cons rfl (.litE (by simp)) .nil)
      (by simp), rfl, rfl⟩

theorem decV0_spec : FSpec Tryz.prog 85 0 [.agg [.B false, .S ⟨#[]⟩, .I 0]] (hpOf []) (fun r h => r = .B true ∧ h = hpOf []) := by
  refine FSpec.intro Tryz.func85 rfl (nl rfl) (nl rfl) fun s0 w0 hs0 hn0 => ?_
  refine .ws 0 [(0, .agg [.B false, .S ⟨#[]⟩, .I 0])] [] <| .seq <| .region <| .c1 (.box 0 Z Z (notup Z)) <| .p (.assign Z Z) <| .nil <| .seq <| .seq <| .region <| .p (.faddr fo28_1 Z Z) <| .p (.load1 ag9 Z Z Z Z) <| .p ((AOp.seql Z Z Z).lb (b' := true) (by decide)) ?_
  refine .nil <| .cT Z Z <| .seq <| .region <| .p (.loadN ag28 sz28 Z Z Z (nl Z)) <| .p (.build Z zt28 Z pl28 Z Z) <| .p ((AOp.fEq (xs := [.bool false, .string ⟨#[]⟩, .int .i64 0]) (ys := [.bool false, .string ⟨#[]⟩, .int .i64 0]) ft28 Z Z Z Z).lb (b' := true) (by decide)) ?_
  refine .p (.assign Z Z) <| .nil <| .ret ?_
  exact ⟨_, _, _, _, rfl, ALe.s (l := [(0, .B true)]) (m := []) (nx' := 0), rfl, rfl⟩

theorem decV1_spec (l : List UInt8) (e : Int) (h : digOK l) (h4 : -400 ≤ e) (h5 : e ≤ 400) : FSpec Tryz.prog 85 0 [.agg [.B false, .S (strOf l), .I e]] (hpOf []) (fun r h => r = .B true ∧ h = hpOf []) := by
  have h0 := h.1
  have h1 := h.2.1
  refine FSpec.intro Tryz.func85 rfl (nl rfl) (nl rfl) fun s0 w0 hs0 hn0 => ?_
  refine .ws 0 [(0, .agg [.B false, .S (strOf l), .I e])] [] <| .seq <| .region <| .c1 (.box 0 Z Z (notup Z)) <| .p (.assign Z Z) <| .nil <| .seq <| .seq <| .region <| .p (.faddr fo28_1 Z Z) <| .p (.load1 ag9 Z Z Z Z) <| .p (.seqlL l [] Z Z Z) ?_
  refine .nil ?_
  have h1 : (decide (l = [])) = false := decide_eq_false (fun e => by subst e; exact absurd h.1 (by simp))
  refine .cF Z h1 <| .skip <| .seq <| .region <| .p (.faddr fo28_1 Z Z) <| .p (.load1 ag9 Z Z Z Z) <| .p (.call0 [] false (dValid_spec l h) Tryz.func98 (hv := by exact (.same Z))) ?_
  refine .p (.move Z Z) <| .yT (.faddr fo28_1 Z Z) Z Z (Eq.refl true) <| .yT (.load1 ag9 Z Z Z Z) Z Z (Eq.refl true) <| .yT (.lenL l ut9 Z Z Z) Z Z (Eq.refl true) <| .yT (.ileq Z Z Z) Z Z (Eq.refl true) <| .p (.pick Z Z Z) <| .p (.move Z Z) ?_
  have h2 : (decide (((l.length : Nat) : Int) ≤ 120)) = true := decide_eq_true (by omega)
  refine .yT (.faddr fo28_1 Z Z) Z Z h2 <| .yT (.load1 ag9 Z Z Z Z) Z Z h2 <| .yT (.call0 [] false (zerosD_spec l h) Tryz.func99 (hv := by exact (.same Z))) Z Z h2 ?_
  refine .yT ((AOp.ieql Z Z Z).lb Z) Z Z h2 <| .p (.pickE Z Z h2 Z) <| .p (.move Z Z) <| .yT (.faddr fo28_2 Z Z) Z Z (Eq.refl true) <| .yT (.load1 ag3 Z Z Z Z) Z Z (Eq.refl true) <| .yT (.igeq Z Z Z) Z Z (Eq.refl true) <| .p (.pick Z Z Z) <| .p (.move Z Z) ?_
  have h3 : (decide ((-400) ≤ e)) = true := decide_eq_true (by omega)
  refine .yT (.faddr fo28_2 Z Z) Z Z h3 <| .yT (.load1 ag3 Z Z Z Z) Z Z h3 <| .yT (.ileq Z Z Z) Z Z h3 <| .p (.pickE Z Z h3 Z) <| .p (.assign Z Z) <| .nil <| .ret ?_
  exact ⟨_, _, _, _, rfl, ALe.of false [] 0
      [(0, .B true)]
      []
      .nil
      (.cons rfl (.litE (by first | rfl | (simp; omega))) .nil)
      (by simp), rfl, rfl⟩

theorem extra0_spec : FSpec Tryz.prog 84 0 [.agg [.I 2, .B false, .B false, .S ⟨#[]⟩, .I 0, .I 0, .I 0, .I 0, .I 0, .S ⟨#[]⟩, .ro 1 [], .ro 13 [], .ro 14 []]] (hpOf []) (fun r h => r = .B false ∧ h = hpOf []) := by
  refine FSpec.intro Tryz.func84 rfl (nl rfl) (nl rfl) fun s0 w0 hs0 hn0 => ?_
  refine .ws 0 [(0, .agg [.I 2, .B false, .B false, .S ⟨#[]⟩, .I 0, .I 0, .I 0, .I 0, .I 0, .S ⟨#[]⟩, .ro 1 [], .ro 13 [], .ro 14 []])] [] <| .seq <| .region <| .c1 (.box 0 Z Z (notup Z)) <| .p (.assign Z Z) <| .nil <| .seq <| .region <| .p (.faddr fo35_0 Z Z) <| .p (.load1 ag3 Z Z Z Z) <| .p (.assign Z Z) <| .nil ?_
  refine .seq <| .region <| .p (.move Z Z) <| .p ((AOp.ineq Z Z Z).lb Z) <| .p (.move Z Z) <| .yT (.faddr fo35_1 Z Z) Z Z (Eq.refl true) <| .yT (.load1 ag4 Z Z Z Z) Z Z (Eq.refl true) <| .p (.pick Z Z Z) <| .p (.move Z Z) <| .yF (.move Z Z) Z Z (Eq.refl false) <| .yF ((AOp.ineq Z Z Z).lb Z) Z Z (Eq.refl false) <| .yF (.move Z Z) Z Z (Eq.refl false) ?_
  refine .nF Z Z (Eq.refl false) Z <| .nF Z Z (Eq.refl false) Z <| .nF Z Z (Eq.refl false) Z <| .nF Z Z (Eq.refl false) Z <| .yF (.pick Z Z Z) Z Z (Eq.refl false) <| .p (.pick Z Z Z) <| .p (.move Z Z) <| .yF (.move Z Z) Z Z (Eq.refl false) <| .yF ((AOp.ineq Z Z Z).lb Z) Z Z (Eq.refl false) <| .yF (.move Z Z) Z Z (Eq.refl false) <| .yT (.faddr fo35_3 Z Z) Z Z (Eq.refl true) <| .yT (.loadN ag30 sz30 Z Z Z (nl Z)) Z Z (Eq.refl true) ?_
  refine .yT (.build Z zt30 Z pl30 Z Z) Z Z (Eq.refl true) <| .yT ((AOp.fNe (xs := [.int .i64 0, .int .i64 0, .int .i64 0, .int .i64 0]) (ys := [.int .i64 0, .int .i64 0, .int .i64 0, .int .i64 0]) ft30 Z Z Z Z).lb (b' := false) (by decide)) Z Z (Eq.refl true) ?_
  refine .yF (.pick Z Z Z) Z Z (Eq.refl false) <| .p (.pick Z Z Z) <| .p (.move Z Z) <| .yF (.move Z Z) Z Z (Eq.refl false) <| .yF ((AOp.ineq Z Z Z).lb Z) Z Z (Eq.refl false) <| .yF (.move Z Z) Z Z (Eq.refl false) <| .yT (.faddr fo35_4 Z Z) Z Z (Eq.refl true) <| .yT (.load1 ag9 Z Z Z Z) Z Z (Eq.refl true) <| .yT ((AOp.sneq Z Z Z).lb (b' := false) (by decide)) Z Z (Eq.refl true) ?_
  refine .yF (.pick Z Z Z) Z Z (Eq.refl false) <| .p (.pick Z Z Z) <| .p (.move Z Z) <| .yF (.move Z Z) Z Z (Eq.refl false) <| .yF ((AOp.ineq Z Z Z).lb Z) Z Z (Eq.refl false) <| .yF (.move Z Z) Z Z (Eq.refl false) <| .yT (.faddr fo35_5 Z Z) Z Z (Eq.refl true) <| .yT (.load1 ag31 Z Z Z Z) Z Z (Eq.refl true) <| .yT (.len_ro (n := 0) ut31 Z (.inl Z) Z) Z Z (Eq.refl true) <| .yT ((AOp.igtr Z Z Z).lb Z) Z Z (Eq.refl true) <| .yF (.pick Z Z Z) Z Z (Eq.refl false) <| .p (.pick Z Z Z) ?_
  refine .p (.move Z Z) <| .yF (.move Z Z) Z Z (Eq.refl false) <| .yF ((AOp.ineq Z Z Z).lb Z) Z Z (Eq.refl false) <| .yF (.move Z Z) Z Z (Eq.refl false) <| .yT (.faddr fo35_6 Z Z) Z Z (Eq.refl true) <| .yT (.load1 ag32 Z Z Z Z) Z Z (Eq.refl true) <| .yT (.len_ro (n := 0) ut32 Z (.inl Z) Z) Z Z (Eq.refl true) <| .yT ((AOp.igtr Z Z Z).lb Z) Z Z (Eq.refl true) <| .yF (.pick Z Z Z) Z Z (Eq.refl false) <| .p (.pick Z Z Z) <| .p (.move Z Z) <| .yF (.move Z Z) Z Z (Eq.refl false) ?_
  refine .yF ((AOp.ineq Z Z Z).lb Z) Z Z (Eq.refl false) <| .yF (.move Z Z) Z Z (Eq.refl false) <| .yT (.faddr fo35_7 Z Z) Z Z (Eq.refl true) <| .yT (.load1 ag33 Z Z Z Z) Z Z (Eq.refl true) <| .yT (.len_ro (n := 0) ut33 Z (.inl Z) Z) Z Z (Eq.refl true) <| .yT ((AOp.igtr Z Z Z).lb Z) Z Z (Eq.refl true) <| .yF (.pick Z Z Z) Z Z (Eq.refl false) <| .p (.pick Z Z Z) <| .p (.assign Z Z) <| .nil <| .ws 1 [(2, .B false)] [] <| .ret ?_
  exact ⟨_, _, _, _, rfl, ALe.s (l := [(0, .B false)]) (m := []) (nx' := 0), rfl, rfl⟩

theorem extra1_spec (l : List UInt8) (e : Int) : FSpec Tryz.prog 84 0 [.agg [.I 2, .B false, .B false, .S (strOf l), .I e, .I 0, .I 0, .I 0, .I 0, .S ⟨#[]⟩, .ro 1 [], .ro 13 [], .ro 14 []]] (hpOf []) (fun r h => r = .B false ∧ h = hpOf []) := by
  refine FSpec.intro Tryz.func84 rfl (nl rfl) (nl rfl) fun s0 w0 hs0 hn0 => ?_
  refine .ws 0 [(0, .agg [.I 2, .B false, .B false, .S (strOf l), .I e, .I 0, .I 0, .I 0, .I 0, .S ⟨#[]⟩, .ro 1 [], .ro 13 [], .ro 14 []])] [] <| .seq <| .region <| .c1 (.box 0 Z Z (notup Z)) <| .p (.assign Z Z) <| .nil <| .seq <| .region <| .p (.faddr fo35_0 Z Z) <| .p (.load1 ag3 Z Z Z Z) <| .p (.assign Z Z) <| .nil ?_
  refine .seq <| .region <| .p (.move Z Z) <| .p ((AOp.ineq Z Z Z).lb Z) <| .p (.move Z Z) <| .yT (.faddr fo35_1 Z Z) Z Z (Eq.refl true) <| .yT (.load1 ag4 Z Z Z Z) Z Z (Eq.refl true) <| .p (.pick Z Z Z) <| .p (.move Z Z) <| .yF (.move Z Z) Z Z (Eq.refl false) <| .yF ((AOp.ineq Z Z Z).lb Z) Z Z (Eq.refl false) <| .yF (.move Z Z) Z Z (Eq.refl false) ?_
  refine .nF Z Z (Eq.refl false) Z <| .nF Z Z (Eq.refl false) Z <| .nF Z Z (Eq.refl false) Z <| .nF Z Z (Eq.refl false) Z <| .yF (.pick Z Z Z) Z Z (Eq.refl false) <| .p (.pick Z Z Z) <| .p (.move Z Z) <| .yF (.move Z Z) Z Z (Eq.refl false) <| .yF ((AOp.ineq Z Z Z).lb Z) Z Z (Eq.refl false) <| .yF (.move Z Z) Z Z (Eq.refl false) <| .yT (.faddr fo35_3 Z Z) Z Z (Eq.refl true) <| .yT (.loadN ag30 sz30 Z Z Z (nl Z)) Z Z (Eq.refl true) ?_
  refine .yT (.build Z zt30 Z pl30 Z Z) Z Z (Eq.refl true) <| .yT ((AOp.fNe (xs := [.int .i64 0, .int .i64 0, .int .i64 0, .int .i64 0]) (ys := [.int .i64 0, .int .i64 0, .int .i64 0, .int .i64 0]) ft30 Z Z Z Z).lb (b' := false) (by decide)) Z Z (Eq.refl true) ?_
  refine .yF (.pick Z Z Z) Z Z (Eq.refl false) <| .p (.pick Z Z Z) <| .p (.move Z Z) <| .yF (.move Z Z) Z Z (Eq.refl false) <| .yF ((AOp.ineq Z Z Z).lb Z) Z Z (Eq.refl false) <| .yF (.move Z Z) Z Z (Eq.refl false) <| .yT (.faddr fo35_4 Z Z) Z Z (Eq.refl true) <| .yT (.load1 ag9 Z Z Z Z) Z Z (Eq.refl true) <| .yT ((AOp.sneq Z Z Z).lb (b' := false) (by decide)) Z Z (Eq.refl true) ?_
  refine .yF (.pick Z Z Z) Z Z (Eq.refl false) <| .p (.pick Z Z Z) <| .p (.move Z Z) <| .yF (.move Z Z) Z Z (Eq.refl false) <| .yF ((AOp.ineq Z Z Z).lb Z) Z Z (Eq.refl false) <| .yF (.move Z Z) Z Z (Eq.refl false) <| .yT (.faddr fo35_5 Z Z) Z Z (Eq.refl true) <| .yT (.load1 ag31 Z Z Z Z) Z Z (Eq.refl true) <| .yT (.len_ro (n := 0) ut31 Z (.inl Z) Z) Z Z (Eq.refl true) <| .yT ((AOp.igtr Z Z Z).lb Z) Z Z (Eq.refl true) <| .yF (.pick Z Z Z) Z Z (Eq.refl false) <| .p (.pick Z Z Z) ?_
  refine .p (.move Z Z) <| .yF (.move Z Z) Z Z (Eq.refl false) <| .yF ((AOp.ineq Z Z Z).lb Z) Z Z (Eq.refl false) <| .yF (.move Z Z) Z Z (Eq.refl false) <| .yT (.faddr fo35_6 Z Z) Z Z (Eq.refl true) <| .yT (.load1 ag32 Z Z Z Z) Z Z (Eq.refl true) <| .yT (.len_ro (n := 0) ut32 Z (.inl Z) Z) Z Z (Eq.refl true) <| .yT ((AOp.igtr Z Z Z).lb Z) Z Z (Eq.refl true) <| .yF (.pick Z Z Z) Z Z (Eq.refl false) <| .p (.pick Z Z Z) <| .p (.move Z Z) <| .yF (.move Z Z) Z Z (Eq.refl false) ?_
  refine .yF ((AOp.ineq Z Z Z).lb Z) Z Z (Eq.refl false) <| .yF (.move Z Z) Z Z (Eq.refl false) <| .yT (.faddr fo35_7 Z Z) Z Z (Eq.refl true) <| .yT (.load1 ag33 Z Z Z Z) Z Z (Eq.refl true) <| .yT (.len_ro (n := 0) ut33 Z (.inl Z) Z) Z Z (Eq.refl true) <| .yT ((AOp.igtr Z Z Z).lb Z) Z Z (Eq.refl true) <| .yF (.pick Z Z Z) Z Z (Eq.refl false) <| .p (.pick Z Z Z) <| .p (.assign Z Z) <| .nil <| .ws 1 [(2, .B false)] [] <| .ret ?_
  exact ⟨_, _, _, _, rfl, ALe.s (l := [(0, .B false)]) (m := []) (nx' := 0), rfl, rfl⟩

theorem extra7_spec (fs : List Fl) : FSpec Tryz.prog 84 0 [.agg [.I 7, .B false, .B false, .S ⟨#[]⟩, .I 0, .I 0, .I 0, .I 0, .I 0, .S ⟨#[]⟩, .ro 1 [], .ro 13 [], .ro 14 (encF fs)]] (hpOf []) (fun r h => r = .B false ∧ h = hpOf []) := by
  refine FSpec.intro Tryz.func84 rfl (nl rfl) (nl rfl) fun s0 w0 hs0 hn0 => ?_
  refine .ws 0 [(0, .agg [.I 7, .B false, .B false, .S ⟨#[]⟩, .I 0, .I 0, .I 0, .I 0, .I 0, .S ⟨#[]⟩, .ro 1 [], .ro 13 [], .ro 14 (encF fs)])] [] <| .seq <| .region <| .c1 (.box 0 Z Z (notup Z)) <| .p (.assign Z Z) <| .nil <| .seq <| .region <| .p (.faddr fo35_0 Z Z) <| .p (.load1 ag3 Z Z Z Z) <| .p (.assign Z Z) <| .nil ?_
  refine .seq <| .region <| .p (.move Z Z) <| .p ((AOp.ineq Z Z Z).lb Z) <| .p (.move Z Z) <| .yT (.faddr fo35_1 Z Z) Z Z (Eq.refl true) <| .yT (.load1 ag4 Z Z Z Z) Z Z (Eq.refl true) <| .p (.pick Z Z Z) <| .p (.move Z Z) <| .yF (.move Z Z) Z Z (Eq.refl false) <| .yF ((AOp.ineq Z Z Z).lb Z) Z Z (Eq.refl false) <| .yF (.move Z Z) Z Z (Eq.refl false) ?_
  refine .yT (.faddr fo35_2 Z Z) Z Z (Eq.refl true) <| .yT (.loadN ag28 sz28 Z Z Z (nl Z)) Z Z (Eq.refl true) <| .yT (.build Z zt28 Z pl28 Z Z) Z Z (Eq.refl true) <| .yT ((AOp.fNe (xs := [.bool false, .string ⟨#[]⟩, .int .i64 0]) (ys := [.bool false, .string ⟨#[]⟩, .int .i64 0]) ft28 Z Z Z Z).lb (b' := false) (by decide)) Z Z (Eq.refl true) ?_
  refine .yF (.pick Z Z Z) Z Z (Eq.refl false) <| .p (.pick Z Z Z) <| .p (.move Z Z) <| .yF (.move Z Z) Z Z (Eq.refl false) <| .yF ((AOp.ineq Z Z Z).lb Z) Z Z (Eq.refl false) <| .yF (.move Z Z) Z Z (Eq.refl false) <| .yT (.faddr fo35_3 Z Z) Z Z (Eq.refl true) <| .yT (.loadN ag30 sz30 Z Z Z (nl Z)) Z Z (Eq.refl true) <| .yT (.build Z zt30 Z pl30 Z Z) Z Z (Eq.refl true) <| .yT ((AOp.fNe (xs := [.int .i64 0, .int .i64 0, .int .i64 0, .int .i64 0]) (ys := [.int .i64 0, .int .i64 0, .int .i64 0, .int .i64 0]) ft30 Z Z Z Z).lb (b' := false) (by decide)) Z Z (Eq.refl true) ?_
  refine .yF (.pick Z Z Z) Z Z (Eq.refl false) <| .p (.pick Z Z Z) <| .p (.move Z Z) <| .yF (.move Z Z) Z Z (Eq.refl false) <| .yF ((AOp.ineq Z Z Z).lb Z) Z Z (Eq.refl false) <| .yF (.move Z Z) Z Z (Eq.refl false) <| .yT (.faddr fo35_4 Z Z) Z Z (Eq.refl true) <| .yT (.load1 ag9 Z Z Z Z) Z Z (Eq.refl true) <| .yT ((AOp.sneq Z Z Z).lb (b' := false) (by decide)) Z Z (Eq.refl true) ?_
  refine .yF (.pick Z Z Z) Z Z (Eq.refl false) <| .p (.pick Z Z Z) <| .p (.move Z Z) <| .yF (.move Z Z) Z Z (Eq.refl false) <| .yF ((AOp.ineq Z Z Z).lb Z) Z Z (Eq.refl false) <| .yF (.move Z Z) Z Z (Eq.refl false) <| .yT (.faddr fo35_5 Z Z) Z Z (Eq.refl true) <| .yT (.load1 ag31 Z Z Z Z) Z Z (Eq.refl true) <| .yT (.len_ro (n := 0) ut31 Z (.inl Z) Z) Z Z (Eq.refl true) <| .yT ((AOp.igtr Z Z Z).lb Z) Z Z (Eq.refl true) <| .yF (.pick Z Z Z) Z Z (Eq.refl false) <| .p (.pick Z Z Z) ?_
  refine .p (.move Z Z) <| .yF (.move Z Z) Z Z (Eq.refl false) <| .yF ((AOp.ineq Z Z Z).lb Z) Z Z (Eq.refl false) <| .yF (.move Z Z) Z Z (Eq.refl false) <| .yT (.faddr fo35_6 Z Z) Z Z (Eq.refl true) <| .yT (.load1 ag32 Z Z Z Z) Z Z (Eq.refl true) <| .yT (.len_ro (n := 0) ut32 Z (.inl Z) Z) Z Z (Eq.refl true) <| .yT ((AOp.igtr Z Z Z).lb Z) Z Z (Eq.refl true) <| .yF (.pick Z Z Z) Z Z (Eq.refl false) <| .p (.pick Z Z Z) <| .p (.move Z Z) <| .yF (.move Z Z) Z Z (Eq.refl false) ?_
  refine .yF ((AOp.ineq Z Z Z).lb Z) Z Z (Eq.refl false) <| .yF (.move Z Z) Z Z (Eq.refl false) <| .nF Z Z (Eq.refl false) Z <| .nF Z Z (Eq.refl false) Z <| .nF Z Z (Eq.refl false) Z <| .nF Z Z (Eq.refl false) Z <| .yF (.pick Z Z Z) Z Z (Eq.refl false) <| .p (.pick Z Z Z) <| .p (.assign Z Z) <| .nil <| .ws 1 [(2, .B false)] [] <| .ret ?_
  exact ⟨_, _, _, _, rfl, ALe.s (l := [(0, .B false)]) (m := []) (nx' := 0), rfl, rfl⟩

theorem chk0_spec (dp m : Nat) (hd : dp ≤ 48) (hm : m + 1 ≤ 65536) : FSpec Tryz.prog 69 1 [.agg [.I 2, .B false, .B false, .S ⟨#[]⟩, .I 0, .I 0, .I 0, .I 0, .I 0, .S ⟨#[]⟩, .ro 1 [], .ro 13 [], .ro 14 []], .N dp, .P 0] (hpOf [(0, .box [.N m])]) (fun r h => r = .I 0 ∧ h = hpOf [(0, .box [.N (m + 1)])]) := by
  refine FSpec.intro Tryz.func69 rfl (nl rfl) (nl rfl) fun s0 w0 hs0 hn0 => ?_
  refine .ws 1 [(0, .agg [.I 2, .B false, .B false, .S ⟨#[]⟩, .I 0, .I 0, .I 0, .I 0, .I 0, .S ⟨#[]⟩, .ro 1 [], .ro 13 [], .ro 14 []]), (1, .N dp), (2, .P 0)] [(0, .box [.N m])] <| .seq <| .region <| .c1 (.box 1 Z Z (notup Z)) <| .p (.assign Z Z) <| .nil <| .seq <| .region <| .p (.move Z Z) <| .p (.nilCheck Z Z Z) <| .p (.load1 ag3 Z Z Z Z) <| .p (.iadd (r := (((m + 1) : Nat) : Int)) Z Z Z (wi (by omega) (by first | rfl | omega | (simp; done)))) ?_
  refine .p (.nilCheck Z Z Z) <| .c0 (.store sz3 Z Z Z Z (notup Z) Z Z (nl Z)) <| .nil <| .seq <| .block <| .seq <| .region <| .p (.move Z Z) <| .p (.igtr Z Z Z) <| .p (.assign Z Z) <| .nil ?_
  have h1 : (decide (48 < ((dp : Nat) : Int))) = false := decide_eq_false (by omega)
  refine .cF Z h1 <| .seq <| .region <| .p (.move Z Z) <| .p (.nilCheck Z Z Z) <| .p (.load1 ag3 Z Z Z Z) <| .p (.igtr Z Z Z) <| .p (.assign Z Z) <| .nil ?_
  have h2 : (decide (65536 < (((m + 1) : Nat) : Int))) = false := decide_eq_false (by omega)
  refine .cF Z h2 <| .seq <| .region <| .p (.faddr fo35_0 Z Z) <| .p (.load1 ag3 Z Z Z Z) <| .p ((AOp.ilss Z Z Z).lb Z) <| .p (.move Z Z) <| .yF (.faddr fo35_0 Z Z) Z Z (Eq.refl false) <| .yF (.load1 ag3 Z Z Z Z) Z Z (Eq.refl false) <| .yF ((AOp.igeq Z Z Z).lb Z) Z Z (Eq.refl false) <| .p (.pick Z Z Z) <| .p (.move Z Z) ?_
  refine .yF (.loadN ag35 sz35 Z Z Z (nl Z)) Z Z (Eq.refl false) <| .yF (.call0 [] false (extra0_spec ) Tryz.func84 (hv := by exact (.cons (.aggL (.same Z)) .nil))) Z Z (Eq.refl false) ?_
  refine .p (.pick Z Z Z) <| .p (.assign Z Z) <| .nil <| .cF Z Z <| .seq <| .region <| .p (.faddr fo35_0 Z Z) <| .p (.load1 ag3 Z Z Z Z) <| .p ((AOp.ieql Z Z Z).lb Z) <| .p (.move Z Z) <| .yT (.faddr fo35_2 Z Z) Z Z (Eq.refl true) <| .yT (.loadN ag28 sz28 Z Z Z (nl Z)) Z Z (Eq.refl true) ?_
  refine .yT (.call0 [] false (decV0_spec ) Tryz.func85 (hv := by exact (.cons (.aggL (.same Z)) .nil))) Z Z (Eq.refl true) ?_
  refine .yT (.not Z Z) Z Z (Eq.refl true) <| .p (.pick Z Z Z) <| .p (.move Z Z) <| .yF (.faddr fo35_0 Z Z) Z Z (Eq.refl false) <| .yF (.load1 ag3 Z Z Z Z) Z Z (Eq.refl false) <| .yF ((AOp.ieql Z Z Z).lb Z) Z Z (Eq.refl false) <| .yF (.move Z Z) Z Z (Eq.refl false) <| .nF Z Z (Eq.refl false) Z <| .nF Z Z (Eq.refl false) Z <| .nF Z Z (Eq.refl false) Z <| .nF Z Z (Eq.refl false) Z <| .yF (.pick Z Z Z) Z Z (Eq.refl false) ?_
  refine .p (.pick Z Z Z) <| .p (.assign Z Z) <| .nil <| .ws 2 [(1, .N dp), (2, .P 0), (3, .P 1), (40, .B false)] [(0, .box [.N (m + 1)]), (1, .box [.I 2, .B false, .B false, .S ⟨#[]⟩, .I 0, .I 0, .I 0, .I 0, .I 0, .S ⟨#[]⟩, .ro 1 [], .ro 13 [], .ro 14 []])] <| .cF Z Z <| .seq <| .region <| .p (.faddr fo35_0 Z Z) <| .p (.load1 ag3 Z Z Z Z) <| .p ((AOp.ieql Z Z Z).lb Z) <| .p (.move Z Z) <| .nF Z Z (Eq.refl false) Z ?_
  refine .nF Z Z (Eq.refl false) Z <| .nF Z Z (Eq.refl false) Z <| .nF Z Z (Eq.refl false) Z <| .p (.pick Z Z Z) <| .p (.assign Z Z) <| .nil <| .cF Z Z <| .seq <| .region <| .p (.faddr fo35_4 Z Z) <| .p (.load1 ag9 Z Z Z Z) <| .p ((AOp.len_str ut9 Z Z Z).li Z) ?_
  refine .p ((AOp.igtr Z Z Z).lb Z) <| .p (.move Z Z) <| .yF (.faddr fo35_5 Z Z) Z Z (Eq.refl false) <| .yF (.load1 ag31 Z Z Z Z) Z Z (Eq.refl false) <| .yF (.len_ro (n := 0) ut31 Z (.inl Z) Z) Z Z (Eq.refl false) <| .yF ((AOp.igtr Z Z Z).lb Z) Z Z (Eq.refl false) <| .p (.pick Z Z Z) <| .p (.assign Z Z) <| .nil <| .cF Z Z <| .skip <| .seq ?_
  refine .seq <| .region <| .p (.faddr fo35_7 Z Z) <| .p (.load1 ag33 Z Z Z Z) <| .p (.call0 [] false (keys_spec [] ⟨by simp, by simp, .nil⟩) Tryz.func87 (hv := by exact (.cons (.same Z) .nil))) ?_
  refine .p (.assign Z Z) <| .nil <| .seq <| .region <| .p (.move Z Z) <| .p ((AOp.ineq Z Z Z).lb Z) <| .nil <| .cF Z Z <| .skip <| .seq <| .seq <| .region ?_
  refine .p (.faddr fo35_6 Z Z) <| .p (.load1 ag32 Z Z Z Z) <| .p (.len_ro (n := 0) ut32 Z (.inl Z) Z) <| .p (.move Z Z) <| .nil <| .block ?_
  refine AWP.loop (G := { g : Unit // True }) (fun g => envOf [(1, .N dp), (2, .P 0), (3, .P 1), (89, .ro 13 []), (90, .I 0), (91, .I 0)]) (fun g => hpOf [(0, .box [.N (m + 1)]), (1, .box [.I 2, .B false, .B false, .S ⟨#[]⟩, .I 0, .I 0, .I 0, .I 0, .I 0, .S ⟨#[]⟩, .ro 1 [], .ro 13 [], .ro 14 []])]) (fun _ => 2) (fun g => 0) ⟨(()), trivial⟩ ALe.s ?_
  rintro ⟨_u, hg⟩
  try dsimp only at hg
  refine .ws 2 [(1, .N dp), (2, .P 0), (3, .P 1), (89, .ro 13 []), (90, .I 0), (91, .I 0)] [(0, .box [.N (m + 1)]), (1, .box [.I 2, .B false, .B false, .S ⟨#[]⟩, .I 0, .I 0, .I 0, .I 0, .I 0, .S ⟨#[]⟩, .ro 1 [], .ro 13 [], .ro 14 []])] <| .seq <| .region <| .p ((AOp.ilss Z Z Z).lb Z) <| .nil <| .seq <| .cF Z Z <| .exit <| .seq <| .seq <| .region <| .p (.faddr fo35_7 Z Z) ?_
  refine .p (.load1 ag33 Z Z Z Z) <| .p (.len_ro (n := 0) ut33 Z (.inl Z) Z) <| .p (.move Z Z) <| .nil <| .block ?_
  refine AWP.loop (G := { g : Unit // True }) (fun g => envOf [(1, .N dp), (2, .P 0), (105, .ro 14 []), (106, .I 0), (107, .I 0)]) (fun g => hpOf [(0, .box [.N (m + 1)])]) (fun _ => 1) (fun g => 0) ⟨(()), trivial⟩ ALe.s ?_
  rintro ⟨_u, hg⟩
  try dsimp only at hg
  refine .ws 1 [(1, .N dp), (2, .P 0), (105, .ro 14 []), (106, .I 0), (107, .I 0)] [(0, .box [.N (m + 1)])] <| .seq <| .region <| .p ((AOp.ilss Z Z Z).lb Z) <| .nil <| .seq <| .cF Z Z <| .exit <| .seq <| .region <| .p (.assign Z Z) <| .nil ?_
  refine .ret ?_
  exact ⟨_, _, _, _, rfl, ALe.s (l := [(0, .I 0)]) (m := [(0, .box [.N (m + 1)])]) (nx' := 1), rfl, rfl⟩

theorem chk1_spec (l : List UInt8) (e : Int) (h : digOK l) (h4 : -400 ≤ e) (h5 : e ≤ 400) (dp m : Nat) (hd : dp ≤ 48) (hm : m + 1 ≤ 65536) : FSpec Tryz.prog 69 1 [.agg [.I 2, .B false, .B false, .S (strOf l), .I e, .I 0, .I 0, .I 0, .I 0, .S ⟨#[]⟩, .ro 1 [], .ro 13 [], .ro 14 []], .N dp, .P 0] (hpOf [(0, .box [.N m])]) (fun r h => r = .I 0 ∧ h = hpOf [(0, .box [.N (m + 1)])]) := by
  refine FSpec.intro Tryz.func69 rfl (nl rfl) (nl rfl) fun s0 w0 hs0 hn0 => ?_
  refine .ws 1 [(0, .agg [.I 2, .B false, .B false, .S (strOf l), .I e, .I 0, .I 0, .I 0, .I 0, .S ⟨#[]⟩, .ro 1 [], .ro 13 [], .ro 14 []]), (1, .N dp), (2, .P 0)] [(0, .box [.N m])] <| .seq <| .region <| .c1 (.box 1 Z Z (notup Z)) <| .p (.assign Z Z) <| .nil <| .seq <| .region <| .p (.move Z Z) <| .p (.nilCheck Z Z Z) <| .p (.load1 ag3 Z Z Z Z) <| .p (.iadd (r := (((m + 1) : Nat) : Int)) Z Z Z (wi (by omega) (by first | rfl | omega | (simp; done)))) ?_
  refine .p (.nilCheck Z Z Z) <| .c0 (.store sz3 Z Z Z Z (notup Z) Z Z (nl Z)) <| .nil <| .seq <| .block <| .seq <| .region <| .p (.move Z Z) <| .p (.igtr Z Z Z) <| .p (.assign Z Z) <| .nil ?_
  have h1 : (decide (48 < ((dp : Nat) : Int))) = false := decide_eq_false (by omega)
  refine .cF Z h1 <| .seq <| .region <| .p (.move Z Z) <| .p (.nilCheck Z Z Z) <| .p (.load1 ag3 Z Z Z Z) <| .p (.igtr Z Z Z) <| .p (.assign Z Z) <| .nil ?_
  have h2 : (decide (65536 < (((m + 1) : Nat) : Int))) = false := decide_eq_false (by omega)
  refine .cF Z h2 <| .seq <| .region <| .p (.faddr fo35_0 Z Z) <| .p (.load1 ag3 Z Z Z Z) <| .p ((AOp.ilss Z Z Z).lb Z) <| .p (.move Z Z) <| .yF (.faddr fo35_0 Z Z) Z Z (Eq.refl false) <| .yF (.load1 ag3 Z Z Z Z) Z Z (Eq.refl false) <| .yF ((AOp.igeq Z Z Z).lb Z) Z Z (Eq.refl false) <| .p (.pick Z Z Z) <| .p (.move Z Z) ?_
  refine .yF (.loadN ag35 sz35 Z Z Z (nl Z)) Z Z (Eq.refl false) <| .yF (.call0 [] false (extra1_spec l e) Tryz.func84 (hv := by exact (.cons (.aggL (.same Z)) .nil))) Z Z (Eq.refl false) ?_
  refine .p (.pick Z Z Z) <| .p (.assign Z Z) <| .nil <| .cF Z Z <| .seq <| .region <| .p (.faddr fo35_0 Z Z) <| .p (.load1 ag3 Z Z Z Z) <| .p ((AOp.ieql Z Z Z).lb Z) <| .p (.move Z Z) <| .yT (.faddr fo35_2 Z Z) Z Z (Eq.refl true) <| .yT (.loadN ag28 sz28 Z Z Z (nl Z)) Z Z (Eq.refl true) ?_
  refine .yT (.call0 [] false (decV1_spec l e h h4 h5) Tryz.func85 (hv := by exact (.cons (.aggL (.same Z)) .nil))) Z Z (Eq.refl true) ?_
  refine .yT (.not Z Z) Z Z (Eq.refl true) <| .p (.pick Z Z Z) <| .p (.move Z Z) <| .yF (.faddr fo35_0 Z Z) Z Z (Eq.refl false) <| .yF (.load1 ag3 Z Z Z Z) Z Z (Eq.refl false) <| .yF ((AOp.ieql Z Z Z).lb Z) Z Z (Eq.refl false) <| .yF (.move Z Z) Z Z (Eq.refl false) <| .nF Z Z (Eq.refl false) Z <| .nF Z Z (Eq.refl false) Z <| .nF Z Z (Eq.refl false) Z <| .nF Z Z (Eq.refl false) Z <| .yF (.pick Z Z Z) Z Z (Eq.refl false) ?_
  refine .p (.pick Z Z Z) <| .p (.assign Z Z) <| .nil <| .ws 2 [(1, .N dp), (2, .P 0), (3, .P 1), (40, .B false)] [(0, .box [.N (m + 1)]), (1, .box [.I 2, .B false, .B false, .S (strOf l), .I e, .I 0, .I 0, .I 0, .I 0, .S ⟨#[]⟩, .ro 1 [], .ro 13 [], .ro 14 []])] <| .cF Z Z <| .seq <| .region <| .p (.faddr fo35_0 Z Z) <| .p (.load1 ag3 Z Z Z Z) <| .p ((AOp.ieql Z Z Z).lb Z) <| .p (.move Z Z) <| .nF Z Z (Eq.refl false) Z ?_
  refine .nF Z Z (Eq.refl false) Z <| .nF Z Z (Eq.refl false) Z <| .nF Z Z (Eq.refl false) Z <| .p (.pick Z Z Z) <| .p (.assign Z Z) <| .nil <| .cF Z Z <| .seq <| .region <| .p (.faddr fo35_4 Z Z) <| .p (.load1 ag9 Z Z Z Z) <| .p ((AOp.len_str ut9 Z Z Z).li Z) ?_
  refine .p ((AOp.igtr Z Z Z).lb Z) <| .p (.move Z Z) <| .yF (.faddr fo35_5 Z Z) Z Z (Eq.refl false) <| .yF (.load1 ag31 Z Z Z Z) Z Z (Eq.refl false) <| .yF (.len_ro (n := 0) ut31 Z (.inl Z) Z) Z Z (Eq.refl false) <| .yF ((AOp.igtr Z Z Z).lb Z) Z Z (Eq.refl false) <| .p (.pick Z Z Z) <| .p (.assign Z Z) <| .nil <| .cF Z Z <| .skip <| .seq ?_
  refine .seq <| .region <| .p (.faddr fo35_7 Z Z) <| .p (.load1 ag33 Z Z Z Z) <| .p (.call0 [] false (keys_spec [] ⟨by simp, by simp, .nil⟩) Tryz.func87 (hv := by exact (.cons (.same Z) .nil))) ?_
  refine .p (.assign Z Z) <| .nil <| .seq <| .region <| .p (.move Z Z) <| .p ((AOp.ineq Z Z Z).lb Z) <| .nil <| .cF Z Z <| .skip <| .seq <| .seq <| .region ?_
  refine .p (.faddr fo35_6 Z Z) <| .p (.load1 ag32 Z Z Z Z) <| .p (.len_ro (n := 0) ut32 Z (.inl Z) Z) <| .p (.move Z Z) <| .nil <| .block ?_
  refine AWP.loop (G := { g : Unit // True }) (fun g => envOf [(1, .N dp), (2, .P 0), (3, .P 1), (89, .ro 13 []), (90, .I 0), (91, .I 0)]) (fun g => hpOf [(0, .box [.N (m + 1)]), (1, .box [.I 2, .B false, .B false, .S (strOf l), .I e, .I 0, .I 0, .I 0, .I 0, .S ⟨#[]⟩, .ro 1 [], .ro 13 [], .ro 14 []])]) (fun _ => 2) (fun g => 0) ⟨(()), trivial⟩ ALe.s ?_
  rintro ⟨_u, hg⟩
  try dsimp only at hg
  refine .ws 2 [(1, .N dp), (2, .P 0), (3, .P 1), (89, .ro 13 []), (90, .I 0), (91, .I 0)] [(0, .box [.N (m + 1)]), (1, .box [.I 2, .B false, .B false, .S (strOf l), .I e, .I 0, .I 0, .I 0, .I 0, .S ⟨#[]⟩, .ro 1 [], .ro 13 [], .ro 14 []])] <| .seq <| .region <| .p ((AOp.ilss Z Z Z).lb Z) <| .nil <| .seq <| .cF Z Z <| .exit <| .seq <| .seq <| .region <| .p (.faddr fo35_7 Z Z) ?_
  refine .p (.load1 ag33 Z Z Z Z) <| .p (.len_ro (n := 0) ut33 Z (.inl Z) Z) <| .p (.move Z Z) <| .nil <| .block ?_
  refine AWP.loop (G := { g : Unit // True }) (fun g => envOf [(1, .N dp), (2, .P 0), (105, .ro 14 []), (106, .I 0), (107, .I 0)]) (fun g => hpOf [(0, .box [.N (m + 1)])]) (fun _ => 1) (fun g => 0) ⟨(()), trivial⟩ ALe.s ?_
  rintro ⟨_u, hg⟩
  try dsimp only at hg
  refine .ws 1 [(1, .N dp), (2, .P 0), (105, .ro 14 []), (106, .I 0), (107, .I 0)] [(0, .box [.N (m + 1)])] <| .seq <| .region <| .p ((AOp.ilss Z Z Z).lb Z) <| .nil <| .seq <| .cF Z Z <| .exit <| .seq <| .region <| .p (.assign Z Z) <| .nil ?_
  refine .ret ?_
  exact ⟨_, _, _, _, rfl, ALe.s (l := [(0, .I 0)]) (m := [(0, .box [.N (m + 1)])]) (nx' := 1), rfl, rfl⟩

theorem chk7_spec (d : Nat) (fs : List Fl) (dp m : Nat) (ih : ∀ (x : T) (dp m : Nat), vd d x → dp + d ≤ 49 → m + nodesD d x ≤ 65536 → FSpec Tryz.prog 69 1 [.agg (encX x), .N dp, .P 0] (hpOf [(0, .box [.N m])]) (fun r h => r = .I 0 ∧ h = hpOf [(0, .box [.N (m + nodesD d x)])])) (hf : vdF fs) (hv : ∀ p ∈ fs, vd d p.2) (hd : dp + (d + 1) ≤ 49) (hm : m + (1 + nodesF d fs) ≤ 65536) : FSpec Tryz.prog 69 1 [.agg [.I 7, .B false, .B false, .S ⟨#[]⟩, .I 0, .I 0, .I 0, .I 0, .I 0, .S ⟨#[]⟩, .ro 1 [], .ro 13 [], .ro 14 (encF fs)], .N dp, .P 0] (hpOf [(0, .box [.N m])]) (fun r h => r = .I 0 ∧ h = hpOf [(0, .box [.N (m + (1 + nodesF d fs))])]) := by
  have h1 := hf.1
  refine FSpec.intro Tryz.func69 rfl (nl rfl) (nl rfl) fun s0 w0 hs0 hn0 => ?_
  refine .ws 1 [(0, .agg [.I 7, .B false, .B false, .S ⟨#[]⟩, .I 0, .I 0, .I 0, .I 0, .I 0, .S ⟨#[]⟩, .ro 1 [], .ro 13 [], .ro 14 (encF fs)]), (1, .N dp), (2, .P 0)] [(0, .box [.N m])] <| .seq <| .region <| .c1 (.box 1 Z Z (notup Z)) <| .p (.assign Z Z) <| .nil <| .seq <| .region <| .p (.move Z Z) <| .p (.nilCheck Z Z Z) <| .p (.load1 ag3 Z Z Z Z) <| .p (.iadd (r := (((m + 1) : Nat) : Int)) Z Z Z (wi (by omega) (by first | rfl | omega | (simp; done)))) ?_
  refine .p (.nilCheck Z Z Z) <| .c0 (.store sz3 Z Z Z Z (notup Z) Z Z (nl Z)) <| .nil <| .seq <| .block <| .seq <| .region <| .p (.move Z Z) <| .p (.igtr Z Z Z) <| .p (.assign Z Z) <| .nil ?_
  have h1 : (decide (48 < ((dp : Nat) : Int))) = false := decide_eq_false (by omega)
  refine .cF Z h1 <| .seq <| .region <| .p (.move Z Z) <| .p (.nilCheck Z Z Z) <| .p (.load1 ag3 Z Z Z Z) <| .p (.igtr Z Z Z) <| .p (.assign Z Z) <| .nil ?_
  have h2 : (decide (65536 < (((m + 1) : Nat) : Int))) = false := decide_eq_false (by omega)
  refine .cF Z h2 <| .seq <| .region <| .p (.faddr fo35_0 Z Z) <| .p (.load1 ag3 Z Z Z Z) <| .p ((AOp.ilss Z Z Z).lb Z) <| .p (.move Z Z) <| .yF (.faddr fo35_0 Z Z) Z Z (Eq.refl false) <| .yF (.load1 ag3 Z Z Z Z) Z Z (Eq.refl false) <| .yF ((AOp.igeq Z Z Z).lb Z) Z Z (Eq.refl false) <| .p (.pick Z Z Z) <| .p (.move Z Z) ?_
  refine .yF (.loadN ag35 sz35 Z Z Z (nl Z)) Z Z (Eq.refl false) <| .yF (.call0 [] false (extra7_spec fs) Tryz.func84 (hv := by exact (.cons (.aggL (.same Z)) .nil))) Z Z (Eq.refl false) ?_
  refine .p (.pick Z Z Z) <| .p (.assign Z Z) <| .nil <| .cF Z Z <| .seq <| .region <| .p (.faddr fo35_0 Z Z) <| .p (.load1 ag3 Z Z Z Z) <| .p ((AOp.ieql Z Z Z).lb Z) <| .p (.move Z Z) <| .nF Z Z (Eq.refl false) Z <| .nF Z Z (Eq.refl false) Z ?_
  refine .nF Z Z (Eq.refl false) Z <| .nF Z Z (Eq.refl false) Z <| .p (.pick Z Z Z) <| .p (.move Z Z) <| .yF (.faddr fo35_0 Z Z) Z Z (Eq.refl false) <| .yF (.load1 ag3 Z Z Z Z) Z Z (Eq.refl false) <| .yF ((AOp.ieql Z Z Z).lb Z) Z Z (Eq.refl false) <| .yF (.move Z Z) Z Z (Eq.refl false) <| .nF Z Z (Eq.refl false) Z <| .nF Z Z (Eq.refl false) Z <| .nF Z Z (Eq.refl false) Z <| .nF Z Z (Eq.refl false) Z ?_
  refine .yF (.pick Z Z Z) Z Z (Eq.refl false) <| .p (.pick Z Z Z) <| .p (.assign Z Z) <| .nil <| .ws 2 [(1, .N dp), (2, .P 0), (3, .P 1), (40, .B false)] [(0, .box [.N (m + 1)]), (1, .box [.I 7, .B false, .B false, .S ⟨#[]⟩, .I 0, .I 0, .I 0, .I 0, .I 0, .S ⟨#[]⟩, .ro 1 [], .ro 13 [], .ro 14 (encF fs)])] <| .cF Z Z <| .seq <| .region <| .p (.faddr fo35_0 Z Z) <| .p (.load1 ag3 Z Z Z Z) <| .p ((AOp.ieql Z Z Z).lb Z) <| .p (.move Z Z) ?_
  refine .nF Z Z (Eq.refl false) Z <| .nF Z Z (Eq.refl false) Z <| .nF Z Z (Eq.refl false) Z <| .nF Z Z (Eq.refl false) Z <| .p (.pick Z Z Z) <| .p (.assign Z Z) <| .nil <| .cF Z Z <| .seq <| .region <| .p (.faddr fo35_4 Z Z) <| .p (.load1 ag9 Z Z Z Z) ?_
  refine .p ((AOp.len_str ut9 Z Z Z).li Z) <| .p ((AOp.igtr Z Z Z).lb Z) <| .p (.move Z Z) <| .yF (.faddr fo35_5 Z Z) Z Z (Eq.refl false) <| .yF (.load1 ag31 Z Z Z Z) Z Z (Eq.refl false) <| .yF (.len_ro (n := 0) ut31 Z (.inl Z) Z) Z Z (Eq.refl false) <| .yF ((AOp.igtr Z Z Z).lb Z) Z Z (Eq.refl false) <| .p (.pick Z Z Z) <| .p (.assign Z Z) <| .nil <| .cF Z Z <| .skip ?_
  refine .seq <| .seq <| .region <| .p (.faddr fo35_7 Z Z) <| .p (.load1 ag33 Z Z Z Z) <| .p (.call0 [] false (keys_spec fs hf) Tryz.func87 (hv := by exact (.same Z))) ?_
  refine .p (.assign Z Z) <| .nil <| .seq <| .region <| .p (.move Z Z) <| .p ((AOp.ineq Z Z Z).lb Z) <| .nil <| .cF Z Z <| .skip <| .seq <| .seq <| .region ?_
  refine .p (.faddr fo35_6 Z Z) <| .p (.load1 ag32 Z Z Z Z) <| .p (.len_ro (n := 0) ut32 Z (.inl Z) Z) <| .p (.move Z Z) <| .nil <| .block ?_
  refine AWP.loop (G := { g : Unit // True }) (fun g => envOf [(1, .N dp), (2, .P 0), (3, .P 1), (89, .ro 13 []), (90, .I 0), (91, .I 0)]) (fun g => hpOf [(0, .box [.N (m + 1)]), (1, .box [.I 7, .B false, .B false, .S ⟨#[]⟩, .I 0, .I 0, .I 0, .I 0, .I 0, .S ⟨#[]⟩, .ro 1 [], .ro 13 [], .ro 14 (encF fs)])]) (fun _ => 2) (fun g => 0) ⟨(()), trivial⟩ ALe.s ?_
  rintro ⟨_u, hg⟩
  try dsimp only at hg
  refine .ws 2 [(1, .N dp), (2, .P 0), (3, .P 1), (89, .ro 13 []), (90, .I 0), (91, .I 0)] [(0, .box [.N (m + 1)]), (1, .box [.I 7, .B false, .B false, .S ⟨#[]⟩, .I 0, .I 0, .I 0, .I 0, .I 0, .S ⟨#[]⟩, .ro 1 [], .ro 13 [], .ro 14 (encF fs)])] <| .seq <| .region <| .p ((AOp.ilss Z Z Z).lb Z) <| .nil <| .seq <| .cF Z Z <| .exit <| .seq <| .seq <| .region <| .p (.faddr fo35_7 Z Z) ?_
  refine .p (.load1 ag33 Z Z Z Z) <| .p (.len_ro (n := fs.length) ut33 Z (.inl Z) (by simp)) ?_
  refine .p (.move Z Z) <| .nil <| .block ?_
  refine AWP.loop (G := { g : Nat // g ≤ fs.length }) (fun g => envOf [(1, .N dp), (2, .P 0), (105, .ro 14 (encF fs)), (106, .N fs.length), (107, .N g.1)]) (fun g => hpOf [(0, .box [.N (m + 1 + nodesF d (fs.take g.1))])]) (fun _ => 1) (fun g => fs.length - g.1) ⟨(0), Nat.zero_le _⟩ (ALe.of false [] 1
      _
      _
      (.cons rfl (.boxL (.cons (.litE (by simp [nodesF])) .nil)) .nil)
      (.s (.cons rfl .ptrR (.s (.s (.s .nil)))))
      (by simp)) ?_
  rintro ⟨i, hg⟩
  try dsimp only at hg
  refine .ws 1 [(1, .N dp), (2, .P 0), (105, .ro 14 (encF fs)), (106, .N fs.length), (107, .N i)] [(0, .box [.N (m + 1 + nodesF d (fs.take i))])] <| .seq <| .region <| .p (.ilss Z Z Z) <| .nil <| .seq ?_
  by_cases p4 : ((i : Nat) : Int) < ((fs.length : Nat) : Int)
  have h3 := decide_eq_true p4
  refine .cT Z h3 <| .skip <| .seq <| .block <| .seq <| .region <| .p (.iaddr_ro (row := ([.S ((nthF fs i).1)] ++ encX (nthF fs i).2)) ut33 sz72 Z Z Z Z (encF_nth (by omega))) ?_
  refine .p (.rloadN ag72 sz72 Z Z (nl Z)) <| .c1 (.alloc 1 Z zt72 Z) <| .c0 (.store sz72 Z Z Z Z (notup Z) Z Z (nl Z)) <| .nil <| .seq <| .region <| .p (.faddr fo72_1 Z Z) <| .p (.loadN ag35 sz35 Z Z Z (nl Z)) <| .p (.move Z Z) <| .p (.iadd (r := (((dp + 1) : Nat) : Int)) Z Z Z (wi (by omega) (by first | rfl | omega | (simp; done)))) ?_
  refine .p (.move Z Z) <| .c0 (.callN [0] [] false (ih (nthF fs i).2 (dp + 1) (m + 1 + nodesF d (fs.take i)) (hv _ (nthF_mem (by omega))) (by omega) (by have := nodesF_take (d := d) (l := fs) (i := i) (by omega); have := nodesF_le (d := d) fs (i + 1); omega)) Tryz.func69 (hc := by exact (.cons .nil Z Z Z (.boxL (.same Z)))) (hv := by exact (.cons (.aggL (.same Z)) (.cons (.same Z) (.cons (.ptr (nl Z) Z) .nil))))) ?_
  refine .p (.assign Z Z) <| .nil <| .seq <| .region <| .p (.move Z Z) <| .p ((AOp.ineq Z Z Z).lb Z) <| .nil <| .cF Z Z <| .skip <| .region <| .p (.iadd (r := (((i + 1) : Nat) : Int)) Z Z Z (wi (by omega) (by first | rfl | omega | (simp; done)))) ?_
  refine .p (.move Z Z) <| .nil ?_
  exact ⟨⟨((i + 1)), (by show i + 1 ≤ _; omega)⟩, (by simp; omega), (ALe.of false [] 1
      _
      _
      (.cons rfl (.boxL (.cons (.litE (by first | rfl | (rw [nodesF_take (by omega)]; congr 2; omega))) .nil)) .nil)
      (.s (.cons rfl .ptrR (.s (.s (.s .nil)))))
      (by simp))⟩
  have h3 := decide_eq_false p4
  refine .cF Z h3 <| .exit <| .seq <| .region <| .p (.assign Z Z) <| .nil <| .ret ?_
  have hi : fs.take i = fs := List.take_of_length_le (by omega)
  exact ⟨_, _, _, _, rfl, ALe.of false [] 1
      [(0, .I 0)]
      [(0, .box [.N (m + (1 + nodesF d fs))])]
      (.cons rfl (.boxL (.cons (.litE (by first | rfl | (rw [hi]; congr 2; omega))) .nil)) .nil)
      (.s .nil)
      (by simp), rfl, rfl⟩

theorem check_spec : ∀ (d : Nat), ∀ (x : T) (dp m : Nat), vd d x → dp + d ≤ 49 → m + nodesD d x ≤ 65536 → FSpec Tryz.prog 69 1 [.agg (encX x), .N dp, .P 0] (hpOf [(0, .box [.N m])]) (fun r h => r = .I 0 ∧ h = hpOf [(0, .box [.N (m + nodesD d x)])]) := by
  intro d
  induction d with
  | zero => intro x dp m h; exact absurd h id
  | succ d ih =>
    intro x dp m hx hd hm
    rcases hx with (rfl | ⟨l, e, rfl, h, h4, h5⟩) | ⟨fs, rfl, hf, hv⟩
    · exact chk0_spec dp m (by omega) hm
    · exact chk1_spec l e h h4 h5 dp m (by omega) hm
    · exact chk7_spec d fs dp m ih hf hv hd hm

theorem Check_spec (d : Nat) (v : T) (h : vd d v) (hd : d ≤ 48) (hn : nodesD d v ≤ 65536) : FSpec Tryz.prog 47 0 [.agg (encX v)] (hpOf []) (fun r h => r = .I 0 ∧ h = hpOf []) := by
  refine FSpec.intro Tryz.func47 rfl (nl rfl) (nl rfl) fun s0 w0 hs0 hn0 => ?_
  refine .ws 0 [(0, .agg (encX v))] [] <| .seq <| .region <| .c1 (.box 0 Z Z (notup Z)) <| .p (.assign Z Z) <| .nil <| .seq <| .region <| .c1 (.alloc 1 Z zt3 Z) <| .c0 (.store sz3 Z Z Z Z (notup Z) Z Z (nl Z)) <| .nil <| .seq ?_
  refine .region <| .p (.loadN ag35 sz35 Z Z Z (nl Z)) <| .c0 (.callN [1] [] false (check_spec d v 1 0 h (by omega) (by omega)) Tryz.func69 (hc := by exact (.cons .nil Z Z Z (.boxL (.same Z)))) (hv := by exact (.cons (.aggL (.same Z)) (.cons (.same Z) (.cons (.ptr (nl Z) Z) .nil))))) ?_
  refine .p (.assign Z Z) <| .nil <| .ret ?_
  exact ⟨_, _, _, _, rfl, ALe.s (l := [(0, .I 0)]) (m := []) (nx' := 0), rfl, rfl⟩
end Go.Abs
namespace Go.Abs
open Go.Proofs
set_option maxRecDepth 100000
set_option maxHeartbeats 8000000

theorem fo75_0 : fieldOff Tryz.prog 75 0 = some 0 := by kernel_rfl
theorem fo75_2 : fieldOff Tryz.prog 75 2 = some 2 := by kernel_rfl
theorem fo75_1 : fieldOff Tryz.prog 75 1 = some 1 := by kernel_rfl

theorem hasOld1_spec : FSpec Tryz.prog 42 0 [.I 1] (hpOf []) (fun r h => r = .B true ∧ h = hpOf []) := by
  refine FSpec.intro Tryz.func42 rfl (nl rfl) (nl rfl) fun s0 w0 hs0 hn0 => ?_
  refine .ws 0 [(0, .I 1)] [] <| .seq <| .region <| .p (.assign Z Z) <| .nil <| .seq <| .region <| .p (.move Z Z) <| .p ((AOp.ieql Z Z Z).lb Z) <| .p (.move Z Z) <| .nT Z Z (Eq.refl true) Z <| .nT Z Z (Eq.refl true) Z ?_
  refine .p (.pick Z Z Z) <| .p (.move Z Z) <| .nT Z Z (Eq.refl true) Z <| .nT Z Z (Eq.refl true) Z <| .p (.pick Z Z Z) <| .p (.assign Z Z) <| .nil <| .ret ?_
  exact ⟨_, _, _, _, rfl, ALe.s (l := [(0, .B true)]) (m := []) (nx' := 0), rfl, rfl⟩

theorem hasOld2_spec : FSpec Tryz.prog 42 0 [.I 2] (hpOf []) (fun r h => r = .B false ∧ h = hpOf []) := by
  refine FSpec.intro Tryz.func42 rfl (nl rfl) (nl rfl) fun s0 w0 hs0 hn0 => ?_
  refine .ws 0 [(0, .I 2)] [] <| .seq <| .region <| .p (.assign Z Z) <| .nil <| .seq <| .region <| .p (.move Z Z) <| .p ((AOp.ieql Z Z Z).lb Z) <| .p (.move Z Z) <| .yF (.move Z Z) Z Z (Eq.refl false) <| .yF ((AOp.ieql Z Z Z).lb Z) Z Z (Eq.refl false) ?_
  refine .p (.pick Z Z Z) <| .p (.move Z Z) <| .yF (.move Z Z) Z Z (Eq.refl false) <| .yF ((AOp.ieql Z Z Z).lb Z) Z Z (Eq.refl false) <| .p (.pick Z Z Z) <| .p (.assign Z Z) <| .nil <| .ret ?_
  exact ⟨_, _, _, _, rfl, ALe.s (l := [(0, .B false)]) (m := []) (nx' := 0), rfl, rfl⟩

theorem hasOld3_spec : FSpec Tryz.prog 42 0 [.I 3] (hpOf []) (fun r h => r = .B true ∧ h = hpOf []) := by
  refine FSpec.intro Tryz.func42 rfl (nl rfl) (nl rfl) fun s0 w0 hs0 hn0 => ?_
  refine .ws 0 [(0, .I 3)] [] <| .seq <| .region <| .p (.assign Z Z) <| .nil <| .seq <| .region <| .p (.move Z Z) <| .p ((AOp.ieql Z Z Z).lb Z) <| .p (.move Z Z) <| .yF (.move Z Z) Z Z (Eq.refl false) <| .yF ((AOp.ieql Z Z Z).lb Z) Z Z (Eq.refl false) ?_
  refine .p (.pick Z Z Z) <| .p (.move Z Z) <| .nT Z Z (Eq.refl true) Z <| .nT Z Z (Eq.refl true) Z <| .p (.pick Z Z Z) <| .p (.assign Z Z) <| .nil <| .ret ?_
  exact ⟨_, _, _, _, rfl, ALe.s (l := [(0, .B true)]) (m := []) (nx' := 0), rfl, rfl⟩

theorem hasNew1_spec : FSpec Tryz.prog 43 0 [.I 1] (hpOf []) (fun r h => r = .B true ∧ h = hpOf []) := by
  refine FSpec.intro Tryz.func43 rfl (nl rfl) (nl rfl) fun s0 w0 hs0 hn0 => ?_
  refine .ws 0 [(0, .I 1)] [] <| .seq <| .region <| .p (.assign Z Z) <| .nil <| .seq <| .region <| .p (.move Z Z) <| .p ((AOp.ieql Z Z Z).lb Z) <| .p (.move Z Z) <| .nT Z Z (Eq.refl true) Z <| .nT Z Z (Eq.refl true) Z ?_
  refine .p (.pick Z Z Z) <| .p (.assign Z Z) <| .nil <| .ret ?_
  exact ⟨_, _, _, _, rfl, ALe.s (l := [(0, .B true)]) (m := []) (nx' := 0), rfl, rfl⟩

theorem hasNew2_spec : FSpec Tryz.prog 43 0 [.I 2] (hpOf []) (fun r h => r = .B true ∧ h = hpOf []) := by
  refine FSpec.intro Tryz.func43 rfl (nl rfl) (nl rfl) fun s0 w0 hs0 hn0 => ?_
  refine .ws 0 [(0, .I 2)] [] <| .seq <| .region <| .p (.assign Z Z) <| .nil <| .seq <| .region <| .p (.move Z Z) <| .p ((AOp.ieql Z Z Z).lb Z) <| .p (.move Z Z) <| .yF (.move Z Z) Z Z (Eq.refl false) <| .yF ((AOp.ieql Z Z Z).lb Z) Z Z (Eq.refl false) ?_
  refine .p (.pick Z Z Z) <| .p (.assign Z Z) <| .nil <| .ret ?_
  exact ⟨_, _, _, _, rfl, ALe.s (l := [(0, .B true)]) (m := []) (nx' := 0), rfl, rfl⟩

theorem hasNew3_spec : FSpec Tryz.prog 43 0 [.I 3] (hpOf []) (fun r h => r = .B false ∧ h = hpOf []) := by
  refine FSpec.intro Tryz.func43 rfl (nl rfl) (nl rfl) fun s0 w0 hs0 hn0 => ?_
  refine .ws 0 [(0, .I 3)] [] <| .seq <| .region <| .p (.assign Z Z) <| .nil <| .seq <| .region <| .p (.move Z Z) <| .p ((AOp.ieql Z Z Z).lb Z) <| .p (.move Z Z) <| .yF (.move Z Z) Z Z (Eq.refl false) <| .yF ((AOp.ieql Z Z Z).lb Z) Z Z (Eq.refl false) ?_
  refine .p (.pick Z Z Z) <| .p (.assign Z Z) <| .nil <| .ret ?_
  exact ⟨_, _, _, _, rfl, ALe.s (l := [(0, .B false)]) (m := []) (nx' := 0), rfl, rfl⟩

theorem pValid_spec (p : List Stp) (h : pOK p) : FSpec Tryz.prog 44 0 [.ro 3 (rowsOf Stp.cells p)] (hpOf []) (fun r h => r = .B true ∧ h = hpOf []) := by
  have h1 := h.1
  refine FSpec.intro Tryz.func44 rfl (nl rfl) (nl rfl) fun s0 w0 hs0 hn0 => ?_
  refine .ws 0 [(0, .ro 3 (rowsOf Stp.cells p))] [] <| .seq <| .region <| .p (.assign Z Z) <| .nil <| .seq <| .seq <| .region <| .p (.move Z Z) <| .p (.len_ro (n := p.length) ut76 Z (.inl Z) (by simp)) ?_
  refine .p (.igtr Z Z Z) <| .nil ?_
  have h1 : (decide (48 < ((p.length : Nat) : Int))) = false := decide_eq_false (by omega)
  refine .cF Z h1 <| .skip <| .seq <| .seq <| .region <| .p (.move Z Z) <| .p (.len_ro (n := p.length) ut76 Z (.inl Z) (by simp)) ?_
  refine .p (.move Z Z) <| .nil <| .block ?_
  refine AWP.loop (G := { g : Nat // g ≤ p.length }) (fun g => envOf [(8, .ro 3 (rowsOf Stp.cells p)), (9, .N p.length), (10, .N g.1)]) (fun g => hpOf []) (fun _ => 0) (fun g => p.length - g.1) ⟨(0), Nat.zero_le _⟩ ALe.s ?_
  rintro ⟨i, hg⟩
  try dsimp only at hg
  refine .ws 0 [(8, .ro 3 (rowsOf Stp.cells p)), (9, .N p.length), (10, .N i)] [] <| .seq <| .region <| .p (.ilss Z Z Z) <| .nil <| .seq ?_
  by_cases p3 : ((i : Nat) : Int) < ((p.length : Nat) : Int)
  have h2 := decide_eq_true p3
  refine .cT Z h2 <| .skip <| .seq <| .block <| .seq <| .region <| .p (.iaddr_ro (row := [.B ((nthG p i).ix), .S ((nthG p i).key), .I ((nthG p i).index)]) ut76 sz75 Z Z Z Z (rows_nth (f := Stp.cells) (by omega))) ?_
  refine .p (.rloadN ag75 sz75 Z Z (nl Z)) <| .c1 (.alloc 0 Z zt75 Z) <| .c0 (.store sz75 Z Z Z Z (notup Z) Z Z (nl Z)) <| .nil <| .seq <| .region <| .p (.faddr fo75_0 Z Z) <| .p (.load1 ag4 Z Z Z Z) <| .nil ?_
  have h4 : (nthG p i).ix = false := (pOK_at h (by omega)).1
  refine .cF Z h4 <| .seq <| .region <| .p (.faddr fo75_2 Z Z) <| .p (.load1 ag3 Z Z Z Z) <| .p (.ineq Z Z Z) <| .p (.move Z Z) ?_
  have h5 : (decide ((nthG p i).index = 0)) = true := decide_eq_true (pOK_at h (by omega)).2.1
  refine .yF (.faddr fo75_1 Z Z) Z Z (bnot h5) <| .yF (.load1 ag9 Z Z Z Z) Z Z (bnot h5) <| .yF (.len_str ut9 Z Z Z) Z Z (bnot h5) <| .yF (.igtr Z Z Z) Z Z (bnot h5) <| .p (.pickE Z Z (bnot h5) Z) <| .p (.move Z Z) ?_
  have h6 : (decide (1024 < (((nthG p i).key.size : Nat) : Int))) = false := decide_eq_false (by have h9 := (pOK_at h (i := i) (by omega)).2.2.1; omega)
  refine .yF (.faddr fo75_1 Z Z) Z Z h6 <| .yF (.load1 ag9 Z Z Z Z) Z Z h6 <| .yF (.call0 [] false (Valid_spec (nthG p i).key (by have h9 := (pOK_at h (i := i) (by omega)).2.2.1; omega) (pOK_at h (by omega)).2.2.2) Tryz.func68 (hv := by exact (.same Z))) Z Z h6 ?_
  refine .yF (.not Z Z) Z Z h6 <| .p (.pickE Z Z h6 Z) <| .nil <| .cF Z Z <| .skip <| .region <| .p (.iadd (r := (((i + 1) : Nat) : Int)) Z Z Z (wi (by omega) (by first | rfl | omega | (simp; done)))) ?_
  refine .p (.move Z Z) <| .nil ?_
  exact ⟨⟨((i + 1)), (by show i + 1 ≤ _; omega)⟩, (by simp; omega), ALe.s⟩
  have h2 := decide_eq_false p3
  refine .cF Z h2 <| .exit <| .seq <| .region <| .p (.assign Z Z) <| .nil <| .ret ?_
  exact ⟨_, _, _, _, rfl, ALe.s (l := [(0, .B true)]) (m := []) (nx' := 0), rfl, rfl⟩

theorem index102_spec (v : T) (k : ByteArray) (hv : v.fields.length ≤ 100000) : FSpec Tryz.prog 102 0 [.agg (encX v), .S k] (hpOf []) (fun r h => r = .I (ixI k v.fields) ∧ h = hpOf []) := by
  refine FSpec.intro Tryz.func102 rfl (nl rfl) (nl rfl) fun s0 w0 hs0 hn0 => ?_
  refine .ws 0 [(0, .agg (encX v)), (1, .S k)] [] <| .seq <| .region <| .c1 (.box 0 Z Z (notup Z)) <| .p (.assign Z Z) <| .nil <| .seq <| .seq <| .region <| .p (.faddr fo35_7 Z Z) <| .p (.load1 ag33 Z Z Z Z) <| .p (.len_ro (n := v.fields.length) ut33 Z (.inl Z) (by simp)) ?_
  refine .p (.move Z Z) <| .nil <| .block ?_
  refine AWP.loop (G := { g : Nat // g ≤ v.fields.length ∧ g + ixM k (v.fields.drop g) = ixM k v.fields }) (fun g => envOf [(1, .S k), (8, .ro 14 (encF v.fields)), (9, .N v.fields.length), (10, .N g.1)]) (fun g => hpOf []) (fun _ => 0) (fun g => v.fields.length - g.1) ⟨(0), ⟨Nat.zero_le _, by simp⟩⟩ ALe.s ?_
  rintro ⟨i, hg⟩
  try dsimp only at hg
  obtain ⟨g1, g2⟩ := hg
  refine .ws 0 [(1, .S k), (8, .ro 14 (encF v.fields)), (9, .N v.fields.length), (10, .N i)] [] <| .seq <| .region <| .p (.ilss Z Z Z) <| .nil <| .seq ?_
  by_cases p2 : ((i : Nat) : Int) < ((v.fields.length : Nat) : Int)
  have h1 := decide_eq_true p2
  refine .cT Z h1 <| .skip <| .seq <| .block <| .seq <| .region <| .p (.move Z Z) <| .p (.iaddr_ro (row := ([.S ((nthF v.fields i).1)] ++ encX (nthF v.fields i).2)) ut33 sz72 Z Z Z Z (encF_nth (by omega))) ?_
  refine .p (.rloadN ag72 sz72 Z Z (nl Z)) <| .c1 (.alloc 0 Z zt72 Z) <| .p (.assign Z Z) <| .c0 (.store sz72 Z Z Z Z (notup Z) Z Z (nl Z)) <| .nil <| .seq <| .region <| .p (.faddr fo72_0 Z Z) <| .p (.load1 ag9 Z Z Z Z) <| .p (.move Z Z) <| .p (.seql Z Z Z) <| .nil ?_
  by_cases p4 : (nthF v.fields i).1 = k
  have h3 := decide_eq_true p4
  refine .cT Z h3 <| .seq <| .region <| .p (.move Z Z) <| .p (.assign Z Z) <| .nil <| .ret ?_
  have hd : ixI k v.fields = ((i : Nat) : Int) := by
      rw [ixM_drop (i := i) (by omega), if_pos ‹_›] at g2
      rw [ixI_yes (by omega), ← g2]; rfl
  exact ⟨_, _, _, _, rfl, ALe.of false [] 0
      [(0, .I (ixI k v.fields))]
      []
      .nil
      (.cons rfl (.litE (by rw [hd])) .nil)
      (by simp), rfl, rfl⟩
  have h3 := decide_eq_false p4
  refine .cF Z h3 <| .skip <| .region <| .p (.iadd (r := (((i + 1) : Nat) : Int)) Z Z Z (wi (by omega) (by first | rfl | omega | (simp; done)))) ?_
  refine .p (.move Z Z) <| .nil ?_
  have hq : (i + 1) ≤ v.fields.length ∧ (i + 1) + ixM k (v.fields.drop (i + 1)) = ixM k v.fields := by
    refine ⟨by omega, ?_⟩
    rw [ixM_drop (i := i) (by omega), if_neg ‹_›] at g2
    omega
  exact ⟨⟨((i + 1)), hq⟩, (by simp; omega), ALe.s⟩
  have h1 := decide_eq_false p2
  refine .cF Z h1 <| .exit <| .seq <| .region <| .p (.assign Z Z) <| .nil <| .ret ?_
  have hd : ixI k v.fields = -1 := ixI_no (by rw [← g2, ixM_end (by omega)]; omega)
  exact ⟨_, _, _, _, rfl, ALe.of false [] 0
      [(0, .I (ixI k v.fields))]
      []
      .nil
      (.cons rfl (.litE (by rw [hd])) .nil)
      (by simp), rfl, rfl⟩

theorem index71_spec (v : T) (k : ByteArray) (hv : v.fields.length ≤ 100000) : FSpec Tryz.prog 71 0 [.agg (encX v), .S k] (hpOf []) (fun r h => r = .I (ixI k v.fields) ∧ h = hpOf []) := by
  refine FSpec.intro Tryz.func71 rfl (nl rfl) (nl rfl) fun s0 w0 hs0 hn0 => ?_
  refine .ws 0 [(0, .agg (encX v)), (1, .S k)] [] <| .seq <| .region <| .c1 (.box 0 Z Z (notup Z)) <| .p (.assign Z Z) <| .nil <| .seq <| .seq <| .region <| .p (.faddr fo35_7 Z Z) <| .p (.load1 ag33 Z Z Z Z) <| .p (.len_ro (n := v.fields.length) ut33 Z (.inl Z) (by simp)) ?_
  refine .p (.move Z Z) <| .nil <| .block ?_
  refine AWP.loop (G := { g : Nat // g ≤ v.fields.length ∧ g + ixM k (v.fields.drop g) = ixM k v.fields }) (fun g => envOf [(1, .S k), (8, .ro 14 (encF v.fields)), (9, .N v.fields.length), (10, .N g.1)]) (fun g => hpOf []) (fun _ => 0) (fun g => v.fields.length - g.1) ⟨(0), ⟨Nat.zero_le _, by simp⟩⟩ ALe.s ?_
  rintro ⟨i, hg⟩
  try dsimp only at hg
  obtain ⟨g1, g2⟩ := hg
  refine .ws 0 [(1, .S k), (8, .ro 14 (encF v.fields)), (9, .N v.fields.length), (10, .N i)] [] <| .seq <| .region <| .p (.ilss Z Z Z) <| .nil <| .seq ?_
  by_cases p2 : ((i : Nat) : Int) < ((v.fields.length : Nat) : Int)
  have h1 := decide_eq_true p2
  refine .cT Z h1 <| .skip <| .seq <| .block <| .seq <| .region <| .p (.move Z Z) <| .p (.iaddr_ro (row := ([.S ((nthF v.fields i).1)] ++ encX (nthF v.fields i).2)) ut33 sz72 Z Z Z Z (encF_nth (by omega))) ?_
  refine .p (.rloadN ag72 sz72 Z Z (nl Z)) <| .c1 (.alloc 0 Z zt72 Z) <| .p (.assign Z Z) <| .c0 (.store sz72 Z Z Z Z (notup Z) Z Z (nl Z)) <| .nil <| .seq <| .region <| .p (.faddr fo72_0 Z Z) <| .p (.load1 ag9 Z Z Z Z) <| .p (.move Z Z) <| .p (.seql Z Z Z) <| .nil ?_
  by_cases p4 : (nthF v.fields i).1 = k
  have h3 := decide_eq_true p4
  refine .cT Z h3 <| .seq <| .region <| .p (.move Z Z) <| .p (.assign Z Z) <| .nil <| .ret ?_
  have hd : ixI k v.fields = ((i : Nat) : Int) := by
      rw [ixM_drop (i := i) (by omega), if_pos ‹_›] at g2
      rw [ixI_yes (by omega), ← g2]; rfl
  exact ⟨_, _, _, _, rfl, ALe.of false [] 0
      [(0, .I (ixI k v.fields))]
      []
      .nil
      (.cons rfl (.litE (by rw [hd])) .nil)
      (by simp), rfl, rfl⟩
  have h3 := decide_eq_false p4
  refine .cF Z h3 <| .skip <| .region <| .p (.iadd (r := (((i + 1) : Nat) : Int)) Z Z Z (wi (by omega) (by first | rfl | omega | (simp; done)))) ?_
  refine .p (.move Z Z) <| .nil ?_
  have hq : (i + 1) ≤ v.fields.length ∧ (i + 1) + ixM k (v.fields.drop (i + 1)) = ixM k v.fields := by
    refine ⟨by omega, ?_⟩
    rw [ixM_drop (i := i) (by omega), if_neg ‹_›] at g2
    omega
  exact ⟨⟨((i + 1)), hq⟩, (by simp; omega), ALe.s⟩
  have h1 := decide_eq_false p2
  refine .cF Z h1 <| .exit <| .seq <| .region <| .p (.assign Z Z) <| .nil <| .ret ?_
  have hd : ixI k v.fields = -1 := ixI_no (by rw [← g2, ixM_end (by omega)]; omega)
  exact ⟨_, _, _, _, rfl, ALe.of false [] 0
      [(0, .I (ixI k v.fields))]
      []
      .nil
      (.cons rfl (.litE (by rw [hd])) .nil)
      (by simp), rfl, rfl⟩

theorem fits_spec (v : T) (s : Stp) (hs : s.ix = false) (hk : v.kind = 7) : FSpec Tryz.prog 101 0 [.agg (encX v), .agg [.B s.ix, .S s.key, .I s.index]] (hpOf []) (fun r h => r = .B true ∧ h = hpOf []) := by
  refine FSpec.intro Tryz.func101 rfl (nl rfl) (nl rfl) fun s0 w0 hs0 hn0 => ?_
  refine .ws 0 [(0, .agg (encX v)), (1, .agg [.B s.ix, .S s.key, .I s.index])] [] <| .seq <| .region <| .c1 (.box 0 Z Z (notup Z)) <| .c1 (.box 1 Z Z (notup Z)) <| .p (.assign Z Z) <| .nil <| .seq <| .seq <| .region <| .p (.faddr fo75_0 Z Z) <| .p (.load1 ag4 Z Z Z Z) ?_
  refine .nil ?_
  have h1 : s.ix = false := hs
  refine .cF Z h1 <| .skip <| .seq <| .region <| .p (.faddr fo35_0 Z Z) <| .p (.load1 ag3 Z Z Z Z) <| .p (.ieql Z Z Z) <| .p (.assign Z Z) <| .nil <| .ret ?_
  exact ⟨_, _, _, _, rfl, ALe.of false [] 0
      [(0, .B true)]
      []
      .nil
      (.cons rfl (.litE (by simp [hk])) .nil)
      (by simp), rfl, rfl⟩

theorem find_spec (v : T) (s : Stp) (hv : v.fields.length ≤ 100000) (hs : s.ix = false) (hk : v.kind = 7) (hi : ixM s.key v.fields < v.fields.length) : FSpec Tryz.prog 88 0 [.agg (encX v), .agg [.B s.ix, .S s.key, .I s.index]] (hpOf []) (fun r h => r = .tup [.N (ixM s.key v.fields), .I 0] ∧ h = hpOf []) := by
  refine FSpec.intro Tryz.func88 rfl (nl rfl) (nl rfl) fun s0 w0 hs0 hn0 => ?_
  refine .ws 0 [(0, .agg (encX v)), (1, .agg [.B s.ix, .S s.key, .I s.index])] [] <| .seq <| .region <| .c1 (.box 0 Z Z (notup Z)) <| .c1 (.box 1 Z Z (notup Z)) <| .p (.assign Z Z) <| .p (.assign Z Z) <| .nil <| .seq <| .seq <| .region <| .p (.loadN ag35 sz35 Z Z Z (nl Z)) ?_
  refine .p (.loadN ag75 sz75 Z Z Z (nl Z)) <| .p (.call0 [] false (fits_spec v s hs hk) Tryz.func101 (hv := by exact (.cons (.aggL (.same Z)) (.cons (.aggL (.same Z)) .nil)))) ?_
  refine .p (.not Z Z) <| .nil <| .cF Z Z <| .skip <| .seq <| .region <| .p (.faddr fo75_2 Z Z) <| .p (.load1 ag3 Z Z Z Z) <| .p (.assign Z Z) <| .nil <| .seq <| .seq ?_
  refine .region <| .p (.faddr fo75_0 Z Z) <| .p (.load1 ag4 Z Z Z Z) <| .p (.not Z Z) <| .nil ?_
  have h1 : s.ix = false := hs
  refine .cT Z (bnot h1) <| .region <| .p (.loadN ag35 sz35 Z Z Z (nl Z)) <| .p (.faddr fo75_1 Z Z) <| .p (.load1 ag9 Z Z Z Z) <| .p (.call0 [] false (index102_spec v s.key hv) Tryz.func102 (hv := by exact (.cons (.aggL (.same Z)) (.cons (.same Z) .nil)))) ?_
  refine .p (.assign Z Z) <| .nil <| .seq <| .seq <| .region <| .p (.move Z Z) <| .p (.ilss Z Z Z) <| .p (.move Z Z) ?_
  have h2 : (decide ((ixI s.key v.fields) < 0)) = false := decide_eq_false (by rw [ixI_yes hi]; omega)
  refine .yF (.faddr fo75_0 Z Z) Z Z h2 <| .yF (.load1 ag4 Z Z Z Z) Z Z h2 <| .yF (.move Z Z) Z Z h2 <| .nF Z Z h1 Z <| .nF Z Z h1 Z <| .nF Z Z h1 Z <| .nF Z Z h1 Z <| .nF Z Z h1 Z <| .yF (.pickE Z Z h1 Z) Z Z h2 <| .p (.pickE Z Z h2 Z) <| .nil <| .cF Z Z ?_
  refine .skip <| .seq <| .region <| .p (.move Z Z) <| .p (.assign Z Z) <| .p (.assign Z Z) <| .nil <| .ret ?_
  exact ⟨_, _, _, _, rfl, ALe.of false [] 0
      [(0, .tup [.N (ixM s.key v.fields), .I 0])]
      []
      .nil
      (.cons rfl (.tupL (.cons (.litE (by first | rfl | rw [ixI_yes hi])) (.cons (.same rfl) .nil))) .nil)
      (by simp), rfl, rfl⟩

theorem at70_spec (v x : T) (p : List Stp) (h : pOK p) (hv : v.fit) (hx : getM v p = some x) : FSpec Tryz.prog 70 0 [.agg (encX v), .ro 3 (rowsOf Stp.cells p)] (hpOf []) (fun r h => r = .tup [.agg (encX x), .I 0] ∧ h = hpOf []) := by
  have h1 := h.1
  refine FSpec.intro Tryz.func70 rfl (nl rfl) (nl rfl) fun s0 w0 hs0 hn0 => ?_
  refine .ws 0 [(0, .agg (encX v)), (1, .ro 3 (rowsOf Stp.cells p))] [] <| .seq <| .region <| .c1 (.box 0 Z Z (notup Z)) <| .c1 (.alloc 1 Z zt35 Z) <| .p (.assign Z Z) <| .nil <| .seq <| .seq <| .region <| .p (.move Z Z) <| .p (.len_ro (n := p.length) ut76 Z (.inl Z) (by simp)) ?_
  refine .p (.move Z Z) <| .nil <| .block ?_
  refine AWP.loop (G := { g : Nat × T // g.1 ≤ p.length ∧ getM g.2 (p.drop g.1) = some x ∧ T.ok 1000 g.2 }) (fun g => envOf [(2, .P 0), (4, .P 1), (10, .ro 3 (rowsOf Stp.cells p)), (11, .N p.length), (12, .N g.1.1)]) (fun g => hpOf [(0, .box (encX g.1.2)), (1, .box [.I 0, .B false, .B false, .S ⟨#[]⟩, .I 0, .I 0, .I 0, .I 0, .I 0, .S ⟨#[]⟩, .O, .O, .O])]) (fun _ => 2) (fun g => p.length - g.1.1) ⟨(0, v), ⟨Nat.zero_le _, hx, hv⟩⟩ ALe.s ?_
  rintro ⟨⟨i, v1⟩, hg⟩
  try dsimp only at hg
  obtain ⟨g1, g2, g3⟩ := hg
  refine .ws 2 [(2, .P 0), (4, .P 1), (10, .ro 3 (rowsOf Stp.cells p)), (11, .N p.length), (12, .N i)] [(0, .box (encX v1)), (1, .box [.I 0, .B false, .B false, .S ⟨#[]⟩, .I 0, .I 0, .I 0, .I 0, .I 0, .S ⟨#[]⟩, .O, .O, .O])] <| .seq <| .region <| .p (.ilss Z Z Z) <| .nil <| .seq ?_
  by_cases p2 : ((i : Nat) : Int) < ((p.length : Nat) : Int)
  have h1 := decide_eq_true p2
  refine .cT Z h1 <| .skip <| .seq <| .block <| .seq <| .region <| .p (.iaddr_ro (row := [.B ((nthG p i).ix), .S ((nthG p i).key), .I ((nthG p i).index)]) ut76 sz75 Z Z Z Z (rows_nth (f := Stp.cells) (by first | omega | exact (getM_drop (by omega) g2).2.1))) ?_
  refine .p (.rloadN ag75 sz75 Z Z (nl Z)) <| .c1 (.alloc 2 Z zt75 Z) <| .c0 (.store sz75 Z Z Z Z (notup Z) Z Z (nl Z)) <| .nil <| .seq <| .region <| .p (.loadN ag35 sz35 Z Z Z (nl Z)) <| .p (.loadN ag75 sz75 Z Z Z (nl Z)) <| .p (.call0 [] false (find_spec v1 (nthG p i) g3.2.2.1 (pOK_at h (by omega)).1 (getM_drop (by omega) g2).1 (getM_drop (by omega) g2).2.1) Tryz.func88 (hv := by exact (.cons (.aggL (.same Z)) (.cons (.aggL (.same Z)) .nil)))) ?_
  refine .p (.move Z Z) <| .p (.extract Z Z Z) <| .p (.extract Z Z Z) <| .p (.assign Z Z) <| .p (.assign Z Z) <| .nil <| .seq <| .seq <| .region <| .p (.move Z Z) <| .p ((AOp.ineq Z Z Z).lb Z) <| .nil ?_
  refine .cF Z Z <| .skip <| .seq <| .region <| .p (.faddr fo75_0 Z Z) <| .p (.load1 ag4 Z Z Z Z) <| .nil ?_
  have h3 : (nthG p i).ix = false := (pOK_at h (by omega)).1
  refine .cF Z h3 <| .region <| .p (.faddr fo35_7 Z Z) <| .p (.load1 ag33 Z Z Z Z) <| .p (.move Z Z) <| .p (.iaddr_ro (row := ([.S ((nthF v1.fields (ixM (nthG p i).key v1.fields)).1)] ++ encX (nthF v1.fields (ixM (nthG p i).key v1.fields)).2)) ut33 sz72 Z Z Z Z (encF_nth (by first | omega | exact (getM_drop (by omega) g2).2.1))) ?_
  refine .p (.faddr_rp fo72_1 Z Z) <| .p (.rloadN ag35 sz35 Z Z (nl Z)) <| .c0 (.store sz35 Z Z Z Z (notup Z) Z Z (nl Z)) <| .nil <| .region <| .p (.iadd (r := (((i + 1) : Nat) : Int)) Z Z Z (wi (by omega) (by first | rfl | omega | (simp; done)))) ?_
  refine .p (.move Z Z) <| .nil ?_
  have hq : (i + 1) ≤ p.length ∧ getM (nthF v1.fields (ixM (nthG p i).key v1.fields)).2 (p.drop (i + 1)) = some x ∧ T.ok 1000 (nthF v1.fields (ixM (nthG p i).key v1.fields)).2 := by
    exact ⟨by omega, (getM_drop (by omega) g2).2.2, fit_field g3 (nthF_mem (getM_drop (by omega) g2).2.1)⟩
  exact ⟨⟨((i + 1), (nthF v1.fields (ixM (nthG p i).key v1.fields)).2), hq⟩, (by simp; omega), ALe.s⟩
  have h1 := decide_eq_false p2
  refine .cF Z h1 <| .exit <| .seq <| .region <| .p (.loadN ag35 sz35 Z Z Z (nl Z)) <| .c0 (.store sz35 Z Z Z Z (notup Z) Z Z (nl Z)) <| .p (.assign Z Z) <| .nil <| .ret ?_
  have hd : v1 = x := by
    rw [List.drop_eq_nil_of_le (by omega)] at g2
    exact Option.some.inj g2
  exact ⟨_, _, _, _, rfl, ALe.of false [] 0
      [(0, .tup [.agg (encX x), .I 0])]
      []
      .nil
      (.cons rfl (.tupL (.cons (.aggL (.cons (.litE (by rw [hd])) (.cons (.litE (by rw [hd])) (.cons (.litE (by rw [hd])) (.cons (.litE (by rw [hd])) (.cons (.litE (by rw [hd])) (.cons (.litE (by rw [hd])) (.cons (.litE (by rw [hd])) (.cons (.litE (by rw [hd])) (.cons (.litE (by rw [hd])) (.cons (.litE (by rw [hd])) (.cons (.roE (by rw [hd])) (.cons (.roE (by rw [hd])) (.cons (.roE (by rw [hd])) .nil)))))))))))))) (.cons (.same rfl) .nil))) .nil)
      (by simp), rfl, rfl⟩

theorem Get_spec (v x : T) (p : List Stp) (h : pOK p) (hv : v.fit) (hx : getM v p = some x) : FSpec Tryz.prog 48 0 [.agg (encX v), .ro 3 (rowsOf Stp.cells p)] (hpOf []) (fun r h => r = .tup [.agg (encFr x), .I 0] ∧ h = hpOf []) := by
  refine FSpec.intro Tryz.func48 rfl (nl rfl) (nl rfl) fun s0 w0 hs0 hn0 => ?_
  refine .ws 0 [(0, .agg (encX v)), (1, .ro 3 (rowsOf Stp.cells p))] [] <| .seq <| .region <| .c1 (.box 0 Z Z (notup Z)) <| .c1 (.alloc 1 Z zt35 Z) <| .p (.assign Z Z) <| .nil <| .seq <| .seq <| .region <| .p (.move Z Z) <| .p (.call0 [] false (pValid_spec p h) Tryz.func44 (hv := by exact (.same Z))) ?_
  refine .p (.not Z Z) <| .nil <| .cF Z Z <| .skip <| .seq <| .region <| .p (.loadN ag35 sz35 Z Z Z (nl Z)) <| .p (.move Z Z) <| .p (.call0 [] false (at70_spec v x p h hv hx) Tryz.func70 (hv := by exact (.cons (.aggL (.same Z)) (.cons (.same Z) .nil)))) ?_
  refine .p (.move Z Z) <| .p (.extract Z Z Z) <| .p (.extract Z Z Z) <| .c1 (.alloc 2 Z zt35 Z) <| .c0 (.store sz35 Z Z Z Z (notup Z) Z Z (nl Z)) <| .p (.assign Z Z) <| .nil <| .seq <| .seq <| .region <| .p (.move Z Z) <| .p ((AOp.ineq Z Z Z).lb Z) ?_
  refine .nil <| .cF Z Z <| .skip <| .seq <| .region <| .p (.loadN ag35 sz35 Z Z Z (nl Z)) <| .p (.call0 [] false (Copy_spec x (getM_fit hv hx)) Tryz.func27 (hv := by exact (.cons (.aggL (.same Z)) .nil))) ?_
  refine .c0 (.store sz35 Z Z Z Z (notup Z) Z Z (nl Z)) <| .p (.assign Z Z) <| .nil <| .ret ?_
  exact ⟨_, _, _, _, rfl, ALe.s (l := [(0, .tup [.agg (encFr x), .I 0])]) (m := []) (nx' := 0), rfl, rfl⟩
end Go.Abs
