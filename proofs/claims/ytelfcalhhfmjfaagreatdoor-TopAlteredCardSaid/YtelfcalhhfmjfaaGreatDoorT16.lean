/- Part 16 of the proof that TopAltered returns true for every input of its row (no condition beyond the row). -/
import Derived.Test.YtelfcalhhfmjfaaGreatDoorT15
set_option linter.unusedVariables false
set_option linter.unusedSimpArgs false
namespace Go.Abs
open Go.Proofs
set_option maxRecDepth 100000
set_option maxHeartbeats 8000000

def an3_8 : List Nat := [0, 1, 0, 4, 15, 31, 63, 63, 63, 0, 639, 1791, 4095]
def an3_12 : List Nat := [0, 1, 3, 7, 7, 31, 63, 127, 255, 511, 1023, 511, 4095, 511, 8703, 32767, 65535, 131071]
def zv55 : Value := .agg #[.slice none 0 0, .slice none 0 0]
theorem zt55 : (Tryz.prog.info? 55).bind (·.zero) = some zv55 := by kernel_rfl
def an3_18 : List Nat := [0, 1, 0, 0, 12, 28, 60, 124, 255, 511, 1023]
theorem el52 : ElT Tryz.prog 52 4 1 1 := ⟨by kernel_rfl, by kernel_rfl, by decide⟩
theorem sz52 : (Tryz.prog.info? 52).map (·.size) = some 1 := by kernel_rfl
def an3_20 : List Nat := [0, 0, 0, 0, 14, 31, 63, 127, 255, 255, 767, 2047, 4095, 8191]
def an3_23 : List Nat := [0, 0, 0, 0, 14, 31, 63, 127, 127, 383, 895, 2047, 4095, 8191, 16383, 32767, 65535]

theorem MakeA {u : Ru} {m : Mk} {n : Nat} (h : AltOK u m n) : FSpec Tryz.prog 6 0 [.agg (encX (baseT u n)), .agg (encX (oursT u m n))] (hpOf []) (fun r h => r = .tup [.ro 29 (rowsOf Chg.cells (wantC u m n)), .I 0] ∧ h = hpOf []) := by
  have e := Make_spec (baseT u n) (oursT u m n) h.fb h.fo h.plb h.plo (by rw [h.diff]; exact h.len)
  rw [h.diff] at e
  exact e

theorem ApplyA {u : Ru} {m : Mk} {n : Nat} (h : AltOK u m n) : FSpec Tryz.prog 8 0 [.agg (encX (baseT u n)), .ro 29 (rowsOf Chg.cells (wantC u m n))] (hpOf []) (fun r h => r = .tup [.agg (encFr (oursT u m n)), .I 0, .I 0] ∧ h = hpOf []) := by
  have e := Apply_spec (baseT u n) (wantC u m n) h.len h.vb h.run
  rw [h.runE] at e
  exact e

theorem ApplyB {u : Ru} {m : Mk} {n : Nat} (h : AltOK u m n) : FSpec Tryz.prog 8 0 [.agg (encX (oursT u m n)), .ro 29 (rowsOf Chg.cells ((wantC u m n).reverse.map invC))] (hpOf []) (fun r h => r = .tup [.agg (encFr (baseT u n)), .I 0, .I 0] ∧ h = hpOf []) := by
  have e := Apply_spec (oursT u m n) ((wantC u m n).reverse.map invC) (by simpa using h.len) h.vo h.back
  rw [h.backE] at e
  exact e

theorem DeltaA {u : Ru} {m : Mk} {n : Nat} (h : AltOK u m n) : FSpec Tryz.prog 11 0 [.agg (encX (baseT u n)), .agg (encX (oursT u m n))] (hpOf []) (fun r h => r = .tup [.agg (encX (overT u m n)), .B true] ∧ h = hpOf []) := by
  have e := delta_spec 3 (baseT u n) (oursT u m n) h.dl
  rw [h.dlE] at e
  exact e

theorem OverA {u : Ru} {m : Mk} {n : Nat} (h : AltOK u m n) : FSpec Tryz.prog 12 0 [.agg (encX (baseT u n)), .agg (encX (overT u m n))] (hpOf []) (fun r h => r = .agg (encX (oursT u m n)) ∧ h = hpOf []) := by
  have e := Overlay_spec 3 (baseT u n) (overT u m n) h.ov
  rw [h.ovE] at e
  exact e

theorem ThreeA {u : Ru} {m : Mk} {n : Nat} (h : AltOK u m n) : FSpec Tryz.prog 14 0 [.agg (encX (baseT u n)), .agg (encX (oursT u m n)), .agg (encX (otherT u m n))] (hpOf []) (fun r h => r = .tup [.agg (encFr (wholeT [] u m n)), .ro 4 (rowsOf Cft.cells (whB [] u m n).2)] ∧ h = hpOf []) := by
  have e := Three_spec 3 (by omega) (baseT u n) (oursT u m n) (otherT u m n) h.tri (by rw [h.atE]; exact h.cfl) (by rw [h.atE]; rfl)
  rw [h.atE] at e
  exact e

theorem ResolveA {u : Ru} {m : Mk} {n : Nat} (h : AltOK u m n) (tk : List Bool) (htk : tk.length ≤ 100000) : FSpec Tryz.prog 17 0 [.agg (encX (baseT u n)), .agg (encX (oursT u m n)), .agg (encX (otherT u m n)), .ro 1 (rowsOf boolCells tk)] (hpOf []) (fun r h => r = .tup [.agg (encFr (wholeT tk u m n)), .N ((whB [] u m n).2.length)] ∧ h = hpOf []) := by
  have e := Resolve_spec tk htk 3 (by omega) (baseT u n) (oursT u m n) (otherT u m n) h.tri (by rw [h.atE]; dsimp only; rw [h.cf]; exact h.cfl) (by rw [h.atE]; rfl)
  rw [h.atE] at e
  dsimp only at e
  rw [h.cf tk] at e
  exact e

theorem DispA {u : Ru} {m : Mk} {n : Nat} (h : AltOK u m n) : FSpec Tryz.prog 16 0 [.ro 4 (rowsOf Cft.cells (whB [] u m n).2), .ro 4 (rowsOf Cft.cells (whB [] u m n).2)] (hpOf []) (fun r h => r = .B true ∧ h = hpOf []) := by
  have e := disputed_spec (whB [] u m n).2 (whB [] u m n).2 h.cfl h.cfl h.cfo h.cfo
  rw [eqG_iff.2 rfl] at e
  exact e

theorem TopAltered_spec (v : Int) (n : Nat) (hv : n = (v % 18446744073709551616).toNat % 251) (u : Ru) (m : Mk) (hu : u.ok) (hm : m.ok) (h : AltOK u m n) (hP : PatOK) : FSpec Tryz.prog 3 0 [.I v, .agg [.lit (.int .u16 ((u.mul : Nat) : Int)), .lit (.int .u16 ((u.add : Nat) : Int)), .lit (.int .u16 ((u.md : Nat) : Int))], .agg [.lit (.int .u16 ((m.a : Nat) : Int)), .lit (.int .u16 ((m.b : Nat) : Int)), .lit (.int .u16 ((m.c : Nat) : Int))]] (hpOf []) (fun r h => r = .B true ∧ h = hpOf []) := by
  have hn : n ≤ 250 := by omega
  refine FSpec.intro Tryz.func3 rfl (nl rfl) (nl rfl) fun s0 w0 hs0 hn0 => ?_
  refine .ws 0 [(0, .I v), (1, .agg [.lit (.int .u16 ((u.mul : Nat) : Int)), .lit (.int .u16 ((u.add : Nat) : Int)), .lit (.int .u16 ((u.md : Nat) : Int))]), (2, .agg [.lit (.int .u16 ((m.a : Nat) : Int)), .lit (.int .u16 ((m.b : Nat) : Int)), .lit (.int .u16 ((m.c : Nat) : Int))])] [] <| .seq <| .region <| .c1 (.box 0 Z Z (notup Z)) <| .c1 (.box 1 Z Z (notup Z)) <| .p (.assign Z Z) <| .nil <| .seq <| .region <| .p (.move Z Z) <| .p (.cint (r := (((v % 18446744073709551616).toNat : Nat) : Int)) us3 ut26 Z Z (u64_wrap _)) <| .p (.iany (r := ((((v % 18446744073709551616).toNat % 251) : Nat) : Int)) Z Z Z (binOp_urem _ _ 251 (by omega))) ?_
  refine .p (.cint (r := ((((v % 18446744073709551616).toNat % 251) : Nat) : Int)) us26 ut3 Z Z (wi (by omega) Z)) ?_
  refine .p (.assign Z Z) <| .nil ?_
  refine AWP.weak false [] 2
      [(4, .P 0), (5, .P 1), (7, .N n)]
      [(0, .box [.lit (.int .u16 ((u.mul : Nat) : Int)), .lit (.int .u16 ((u.add : Nat) : Int)), .lit (.int .u16 ((u.md : Nat) : Int))]), (1, .box [.lit (.int .u16 ((m.a : Nat) : Int)), .lit (.int .u16 ((m.b : Nat) : Int)), .lit (.int .u16 ((m.c : Nat) : Int))])]
      (.cons rfl (.boxS rfl) (.cons rfl (.boxS rfl) .nil))
      (.cons rfl .ptrR (.cons rfl .ptrR (.cons rfl (.litE (by rw [hv])) .nil)))
      (by simp) ?_
  refine .seq <| .region <| .p (.loadN ag24 sz24 Z Z Z (nl Z)) <| .p (.move Z Z) <| .p (.loadN ag25 sz25 Z Z Z (nl Z)) <| .p (.call0 [] false (versions_spec u m n hu hm hn) Tryz.func4 (hv := by exact (.cons (.aggL (.same Z)) (.cons (.same Z) (.cons (.aggL (.same Z)) .nil))))) ?_
  refine .c1 (.alloc 2 Z zt36 Z) <| .c0 (.store sz36 Z Z Z Z (notup Z) Z Z (nl Z)) <| .nil <| .seq <| .region <| .p (.loadN ag24 sz24 Z Z Z (nl Z)) <| .p (.move Z Z) <| .p (.loadN ag25 sz25 Z Z Z (nl Z)) <| .p (.call0 [] false (steps_spec u m n hu hm hn) Tryz.func5 (hv := by exact (.cons (.aggL (.same Z)) (.cons (.same Z) (.cons (.aggL (.same Z)) .nil))))) ?_
  refine .p (.move Z Z) <| .p (.extract Z Z Z) <| .p (.extract Z Z Z) <| .c1 (.alloc 3 Z zt35 Z) <| .p (.assign Z Z) <| .c0 (.store sz35 Z Z Z Z (notup Z) Z Z (nl Z)) <| .nil <| .seq <| .region <| .p (.iaddr_arr ut36 sz35 Z Z Z Z (nl Z)) <| .p (.loadN ag35 sz35 Z Z Z (nl Z)) <| .p (.iaddr_arr ut36 sz35 Z Z Z Z (nl Z)) ?_
  refine .p (.loadN ag35 sz35 Z Z Z (nl Z)) <| .p (.call0 [] false (MakeA h) Tryz.func6 (hv := by exact (.cons (.aggL (.same Z)) (.cons (.aggL (.same Z)) .nil)))) ?_
  refine .p (.move Z Z) <| .p (.extract Z Z Z) <| .p (.extract Z Z Z) <| .p (.assign Z Z) <| .p (.assign Z Z) <| .nil <| .seq <| .seq <| .region <| .p (.move Z Z) <| .p ((AOp.ineq Z Z Z).lb Z) <| .p (.move Z Z) ?_
  refine .yF (.move Z Z) Z Z (Eq.refl false) <| .yF (.move Z Z) Z Z (Eq.refl false) <| .yF (.call0 [] false (changed_spec (wantC u m n) (wantC u m n) (by have := h.len; omega) (by have := h.len; omega) h.chg h.chg) Tryz.func7 (hv := by exact (.same Z))) Z Z (Eq.refl false) ?_
  refine .yF (.not Z Z) Z Z (Eq.refl false) <| .p (.pick Z Z Z) <| .nil ?_
  have h1 : (eqG (wantC u m n) (wantC u m n)) = true := eqG_iff.2 rfl
  refine .cF Z (bnot h1) <| .skip <| .seq <| .region <| .p (.iaddr_arr ut36 sz35 Z Z Z Z (nl Z)) <| .p (.loadN ag35 sz35 Z Z Z (nl Z)) <| .p (.move Z Z) <| .p (.call0 [] false (ApplyA h) Tryz.func8 (hv := by exact (.cons (.aggL (.same Z)) (.cons (.same Z) .nil)))) ?_
  refine .p (.move Z Z) <| .p (.extract Z Z Z) <| .p (.extract Z Z Z) <| .p (.extract Z Z Z) <| .c1 (.alloc 4 Z zt35 Z) <| .c0 (.store sz35 Z Z Z Z (notup Z) Z Z (nl Z)) <| .p (.assign Z Z) <| .p (.assign Z Z) <| .nil <| .ws 5 [(4, .P 0), (5, .P 1), (7, .N n), (8, .P 2), (10, .P 3), (11, .ro 29 (rowsOf Chg.cells (wantC u m n))), (13, .P 4), (15, .I 0)] [(0, .box [.lit (.int .u16 ((u.mul : Nat) : Int)), .lit (.int .u16 ((u.add : Nat) : Int)), .lit (.int .u16 ((u.md : Nat) : Int))]), (1, .box [.lit (.int .u16 ((m.a : Nat) : Int)), .lit (.int .u16 ((m.b : Nat) : Int)), .lit (.int .u16 ((m.c : Nat) : Int))]), (2, .box (encX (baseT u n) ++ encX (oursT u m n) ++ encX (otherT u m n))), (3, .box (encX (overT u m n))), (4, .box (encFr (oursT u m n)))] <| .seq <| .region_p fol an3_8 (by kernel_rfl) Z ?_
  refine .p [] (.iaddr_arr ut36 sz35 Z Z Z Z (nl Z)) <| .p [2] (.loadN ag35 sz35 Z Z Z (nl Z)) <| .p [] (.move Z Z) <| .p [] (.call0 [] false (Invert_spec (wantC u m n) h.len h.chg) Tryz.func9 (hv := by exact (.same Z))) ?_
  refine .p [] (.call0 [] false (ApplyB h) Tryz.func8 (hv := by exact (.cons (.aggL (.same Z)) (.cons (.same Z) .nil)))) ?_
  refine .p [] (.move Z Z) <| .p [] (.extract Z Z Z) <| .p [] (.extract Z Z Z) <| .p [] (.extract Z Z Z) <| .c 6 [] (.alloc 5 Z zt35 Z) <| .c 6 [5] (.store sz35 Z Z Z Z (notup Z) Z Z (nl Z)) <| .p [] (.assign Z Z) <| .p [] (.assign Z Z) <| .nil (by kernel_rfl) ?_
  refine .seq <| .seq <| .region <| .p (.move Z Z) <| .p ((AOp.ineq Z Z Z).lb Z) <| .p (.move Z Z) <| .yF (.move Z Z) Z Z (Eq.refl false) <| .yF ((AOp.ineq Z Z Z).lb Z) Z Z (Eq.refl false) <| .p (.pick Z Z Z) <| .p (.move Z Z) <| .yF (.loadN ag35 sz35 Z Z Z (nl Z)) Z Z (Eq.refl false) <| .yF (.iaddr_arr ut36 sz35 Z Z Z Z (nl Z)) Z Z (Eq.refl false) ?_
  refine .yF (.loadN ag35 sz35 Z Z Z (nl Z)) Z Z (Eq.refl false) <| .yF (.call0 [] false (Same_spec 1000 (oursT u m n) (oursT u m n) h.fo h.fo) Tryz.func10 (hv := by exact (.cons (.aggL (.cons (.same Z) (.cons (.same Z) (.cons (.same Z) (.cons (.same Z) (.cons (.same Z) (.cons (.same Z) (.cons (.same Z) (.cons (.same Z) (.cons (.same Z) (.cons (.same Z) (.cons .fr (.cons .fr (.cons .fr .nil)))))))))))))) (.cons (.aggL (.same Z)) .nil)))) Z Z (Eq.refl false) ?_
  refine .yF (.not Z Z) Z Z (Eq.refl false) <| .p (.pick Z Z Z) <| .p (.move Z Z) ?_
  have h2 : (eqT (oursT u m n) (oursT u m n)) = true := eqT_self _
  refine .yF (.loadN ag35 sz35 Z Z Z (nl Z)) Z Z (bnot h2) <| .yF (.iaddr_arr ut36 sz35 Z Z Z Z (nl Z)) Z Z (bnot h2) <| .yF (.loadN ag35 sz35 Z Z Z (nl Z)) Z Z (bnot h2) <| .yF (.call0 [] false (Same_spec 1000 (baseT u n) (baseT u n) h.fb h.fb) Tryz.func10 (hv := by exact (.cons (.aggL (.cons (.same Z) (.cons (.same Z) (.cons (.same Z) (.cons (.same Z) (.cons (.same Z) (.cons (.same Z) (.cons (.same Z) (.cons (.same Z) (.cons (.same Z) (.cons (.same Z) (.cons .fr (.cons .fr (.cons .fr .nil)))))))))))))) (.cons (.aggL (.same Z)) .nil)))) Z Z (bnot h2) ?_
  refine .yF (.not Z Z) Z Z (bnot h2) <| .p (.pickE Z Z (bnot h2) Z) <| .nil ?_
  have h3 : (eqT (baseT u n) (baseT u n)) = true := eqT_self _
  refine .cF Z (bnot h3) <| .skip <| .seq <| .region <| .p (.iaddr_arr ut36 sz35 Z Z Z Z (nl Z)) <| .p (.loadN ag35 sz35 Z Z Z (nl Z)) <| .p (.iaddr_arr ut36 sz35 Z Z Z Z (nl Z)) <| .p (.loadN ag35 sz35 Z Z Z (nl Z)) <| .p (.call0 [] false (DeltaA h) Tryz.func11 (hv := by exact (.cons (.aggL (.same Z)) (.cons (.aggL (.same Z)) .nil)))) ?_
  refine .p (.move Z Z) <| .p (.extract Z Z Z) <| .p (.extract Z Z Z) <| .c1 (.alloc 6 Z zt35 Z) <| .c0 (.store sz35 Z Z Z Z (notup Z) Z Z (nl Z)) <| .p (.assign Z Z) <| .nil <| .ws 7 [(4, .P 0), (5, .P 1), (7, .N n), (8, .P 2), (10, .P 3), (19, .P 6), (20, .B true)] [(0, .box [.lit (.int .u16 ((u.mul : Nat) : Int)), .lit (.int .u16 ((u.add : Nat) : Int)), .lit (.int .u16 ((u.md : Nat) : Int))]), (1, .box [.lit (.int .u16 ((m.a : Nat) : Int)), .lit (.int .u16 ((m.b : Nat) : Int)), .lit (.int .u16 ((m.c : Nat) : Int))]), (2, .box (encX (baseT u n) ++ encX (oursT u m n) ++ encX (otherT u m n))), (3, .box (encX (overT u m n))), (6, .box (encX (overT u m n)))] <| .seq <| .seq <| .region_p fol an3_12 (by kernel_rfl) Z ?_
  refine .p [] (.move Z Z) <| .p [] (.not Z Z) <| .p [] (.move Z Z) <| .yes [6] (b := false) (.loadN ag35 sz35 Z Z Z (nl Z)) Z Z (Eq.refl false) <| .yes [3] (b := false) (.loadN ag35 sz35 Z Z Z (nl Z)) Z Z (Eq.refl false) <| .yes [] (b := false) (.call0 [] false (Same_spec 1000 (overT u m n) (overT u m n) h.fov h.fov) Tryz.func10 (hv := by exact (.cons (.aggL (.same Z)) (.cons (.aggL (.same Z)) .nil)))) Z Z (Eq.refl false) ?_
  refine .yes [] (b := false) (.not Z Z) Z Z (Eq.refl false) <| .p [] (.pick Z Z Z) <| .p [] (.move Z Z) ?_
  have h4 : (eqT (overT u m n) (overT u m n)) = true := eqT_self _
  refine .yes [] (b := false) (.iaddr_arr ut36 sz35 Z Z Z Z (nl Z)) Z Z (bnot h4) <| .yes [2] (b := false) (.loadN ag35 sz35 Z Z Z (nl Z)) Z Z (bnot h4) <| .yes [6] (b := false) (.loadN ag35 sz35 Z Z Z (nl Z)) Z Z (bnot h4) <| .yes [] (b := false) (.call0 [] false (OverA h) Tryz.func12 (hv := by exact (.cons (.aggL (.same Z)) (.cons (.aggL (.same Z)) .nil)))) Z Z (bnot h4) ?_
  refine .yes [] (b := false) (.iaddr_arr ut36 sz35 Z Z Z Z (nl Z)) Z Z (bnot h4) <| .yes [2] (b := false) (.loadN ag35 sz35 Z Z Z (nl Z)) Z Z (bnot h4) <| .yes [] (b := false) (.call0 [] false (Same_spec 1000 (oursT u m n) (oursT u m n) h.fo h.fo) Tryz.func10 (hv := by exact (.cons (.aggL (.same Z)) (.cons (.aggL (.same Z)) .nil)))) Z Z (bnot h4) ?_
  refine .yes [] (b := false) (.not Z Z) Z Z (bnot h4) <| .p [] (.pickE Z Z (bnot h4) Z) <| .nil (by kernel_rfl) ?_
  refine .cF Z (bnot h2) <| .skip <| .seq <| .region <| .c1 (.alloc 7 Z zt55 Z) <| .c1 (.alloc 8 Z zt55 Z) <| .nil <| .seq <| .seq <| .region <| .p (.assign Z Z) <| .nil ?_
  refine .block <| .openCell 8 0 1 false ?_
  refine AWP.loop (G := { g : Nat // g ≤ n }) (fun g => envOf [(4, .P 0), (5, .P 1), (7, .N n), (8, .P 2), (21, .P 7), (22, .P 8), (23, .N g.1)]) (fun g => hpOf [(0, .box [.lit (.int .u16 ((u.mul : Nat) : Int)), .lit (.int .u16 ((u.add : Nat) : Int)), .lit (.int .u16 ((u.md : Nat) : Int))]), (1, .box [.lit (.int .u16 ((m.a : Nat) : Int)), .lit (.int .u16 ((m.b : Nat) : Int)), .lit (.int .u16 ((m.c : Nat) : Int))]), (2, .box (encX (baseT u n) ++ encX (oursT u m n) ++ encX (otherT u m n))), (7, .box [.O, .O]), (8, .box [.sl 90 1 0 g.1, .O]), (90, .arr false 1 (rowsOf boolCells (tkM u g.1)))]) (fun _ => 91) (fun g => n - g.1) ⟨(0), Nat.zero_le _⟩ (ALe.of false [(90, 9)] 91
      _
      _
      (.cons rfl (.boxS rfl) (.cons rfl (.boxS rfl) (.cons rfl (.boxS rfl) (.cons rfl (.boxS rfl) (.cons rfl (.boxL (.cons .slR (.cons (.same rfl) .nil))) (.cons rfl (.arr rfl) .nil))))))
      (.cons rfl .ptrR (.cons rfl .ptrR (.s (.cons rfl .ptrR (.cons rfl .ptrR (.cons rfl .ptrR (.s .nil)))))))
      (by simp)) ?_
  rintro ⟨i, hg⟩
  try dsimp only at hg
  have h4 := Ru.at_le hu i
  refine .ws 91 [(4, .P 0), (5, .P 1), (7, .N n), (8, .P 2), (21, .P 7), (22, .P 8), (23, .N i)] [(0, .box [.lit (.int .u16 ((u.mul : Nat) : Int)), .lit (.int .u16 ((u.add : Nat) : Int)), .lit (.int .u16 ((u.md : Nat) : Int))]), (1, .box [.lit (.int .u16 ((m.a : Nat) : Int)), .lit (.int .u16 ((m.b : Nat) : Int)), .lit (.int .u16 ((m.c : Nat) : Int))]), (2, .box (encX (baseT u n) ++ encX (oursT u m n) ++ encX (otherT u m n))), (7, .box [.O, .O]), (8, .box [.sl 90 1 0 i, .O]), (90, .arr false 1 (rowsOf boolCells (tkM u i)))] <| .seq <| .seq <| .region <| .p (.move Z Z) <| .p (.move Z Z) <| .p (.ilss Z Z Z) <| .nil ?_
  by_cases p6 : ((i : Nat) : Int) < ((n : Nat) : Int)
  have h5 := decide_eq_true p6
  refine .cT Z h5 <| .skip <| .seq <| .block <| .region_p fol an3_18 (by kernel_rfl) Z ?_
  refine .p [] (.faddr fo55_0 Z Z) <| .p [8] (.load1 ag52 Z Z Z Z) <| .p [0] (.loadN ag24 sz24 Z Z Z (nl Z)) <| .p [] (.move Z Z) <| .p [] (.call0 [] false (at_spec u i hu (by omega)) Tryz.func13 (hv := by exact (.cons (.aggL (.same Z)) (.cons (.same Z) .nil)))) ?_
  refine .p [] (.nrem (u.at i) 2 Z Z Z Z Z (nl Z) (by omega)) ?_
  refine .p [] (.ieql Z Z Z) <| .c 92 [] (.buildSlice 91 true [[.B (decide (((((u.at i) % 2) : Nat) : Int) = 1))]] ut52 sz4 zt4 Z Z (by decide) (by decide) Z Z Z Z Z Z Z) ?_
  refine .c 93 [90, 91] (.appendN (n2 := ((tkM u i).length + 1)) 92 el52 Z Z Z (by first | rfl | (simp; done) | (simp; omega)) (.sl Z Z (nl Z) (by simp)) (by simp only [rowsOf, List.length_map, List.length_append, List.length_take, List.length_drop, List.length_cons, List.length_nil, tkM_len]; omega) (by simp only [rowsOf, List.length_map, List.length_append, List.length_take, List.length_drop, List.length_cons, List.length_nil, tkM_len]; omega) (by first | rfl | (simp; done) | (simp; omega))) ?_
  refine .p [] (.faddr fo55_0 Z Z) <| .c 93 [8] (.store sz52 Z Z Z Z (notup Z) Z Z (nl Z)) <| .nil (by kernel_rfl) ?_
  refine .region <| .p (.move Z Z) <| .p (.iadd (r := (((i + 1) : Nat) : Int)) Z Z Z (wi (by omega) (by first | rfl | omega | (simp; done)))) ?_
  refine .p (.assign Z Z) <| .nil ?_
  exact ⟨⟨((i + 1)), (by show i + 1 ≤ _; omega)⟩, (by simp; omega), (ALe.of false [(90, 92)] 91
      _
      _
      (.cons rfl (.boxS rfl) (.cons rfl (.boxS rfl) (.cons rfl (.boxS rfl) (.cons rfl (.boxS rfl) (.cons rfl (.boxL (.cons (.slE (by first | rfl | (simp; done))) (.cons (.same rfl) .nil))) (.cons rfl (.arr (rows_append (f := boolCells) (tkM u i) [_]).symm) .nil))))))
      (.cons rfl .ptrR (.cons rfl .ptrR (.s (.cons rfl .ptrR (.cons rfl .ptrR (.cons rfl .ptrR (.s .nil)))))))
      (by simp))⟩
  have h5 := decide_eq_false p6
  refine .cF Z h5 <| .exit ?_
  have hi : i = n := by omega
  refine AWP.weak false [] 91
      [(4, .P 0), (5, .P 1), (7, .N n), (8, .P 2), (21, .P 7), (22, .P 8)]
      [(0, .box [.lit (.int .u16 ((u.mul : Nat) : Int)), .lit (.int .u16 ((u.add : Nat) : Int)), .lit (.int .u16 ((u.md : Nat) : Int))]), (1, .box [.lit (.int .u16 ((m.a : Nat) : Int)), .lit (.int .u16 ((m.b : Nat) : Int)), .lit (.int .u16 ((m.c : Nat) : Int))]), (2, .box (encX (baseT u n) ++ encX (oursT u m n) ++ encX (otherT u m n))), (7, .box [.O, .O]), (8, .box [.ro 1 (rowsOf boolCells (tkM u n)), .O])]
      (.cons rfl (.boxS rfl) (.cons rfl (.boxS rfl) (.cons rfl (.boxS rfl) (.cons rfl (.boxS rfl) (.cons rfl (.boxL (.cons (.freezeR (els := (rowsOf boolCells (tkM u i))) (by simp) (by rw [← hi])) (.cons (.same rfl) .nil))) .nil)))))
      (.cons rfl .ptrR (.cons rfl .ptrR (.s (.cons rfl .ptrR (.cons rfl .ptrR (.cons rfl .ptrR .nil))))))
      (by simp) ?_
  refine .seq <| .region <| .p (.iaddr_arr ut36 sz35 Z Z Z Z (nl Z)) <| .p (.loadN ag35 sz35 Z Z Z (nl Z)) <| .p (.iaddr_arr ut36 sz35 Z Z Z Z (nl Z)) <| .p (.loadN ag35 sz35 Z Z Z (nl Z)) <| .p (.iaddr_arr ut36 sz35 Z Z Z Z (nl Z)) <| .p (.loadN ag35 sz35 Z Z Z (nl Z)) <| .p (.call0 [] false (ThreeA h) Tryz.func14 (hv := by exact (.cons (.aggL (.same Z)) (.cons (.aggL (.same Z)) (.cons (.aggL (.same Z)) .nil))))) ?_
  refine .p (.move Z Z) <| .p (.extract Z Z Z) <| .p (.extract Z Z Z) <| .c1 (.alloc 91 Z zt35 Z) <| .c0 (.store sz35 Z Z Z Z (notup Z) Z Z (nl Z)) <| .p (.assign Z Z) <| .nil <| .openCell 7 1 4 false ?_
  refine .ws 93 [(4, .P 0), (5, .P 1), (7, .N n), (8, .P 2), (21, .P 7), (22, .P 8), (24, .P 91), (25, .ro 4 (rowsOf Cft.cells (whB [] u m n).2))] [(0, .box [.lit (.int .u16 ((u.mul : Nat) : Int)), .lit (.int .u16 ((u.add : Nat) : Int)), .lit (.int .u16 ((u.md : Nat) : Int))]), (1, .box [.lit (.int .u16 ((m.a : Nat) : Int)), .lit (.int .u16 ((m.b : Nat) : Int)), .lit (.int .u16 ((m.c : Nat) : Int))]), (2, .box (encX (baseT u n) ++ encX (oursT u m n) ++ encX (otherT u m n))), (7, .box [.O, .sl 92 4 0 0]), (8, .box [.ro 1 (rowsOf boolCells (tkM u n)), .O]), (91, .box (encFr (wholeT [] u m n))), (92, .arr false 4 (rowsOf Cft.cells []))] <| .seq <| .seq <| .region_p fol an3_20 (by kernel_rfl) Z ?_
  refine .p [91] (.loadN ag35 sz35 Z Z Z (nl Z)) <| .p [] (.move Z Z) <| .p [0] (.loadN ag24 sz24 Z Z Z (nl Z)) <| .p [1] (.loadN ag25 sz25 Z Z Z (nl Z)) <| .c 94 [7, 92] (.callN [7, 92, 93] [93] false (whole_spec [] u m n hu hm hn (by first | (simp; omega) | simp)) Tryz.func15 (hc := by exact (.cons (.cons .nil Z Z Z (.boxL (.cons (.nilRo Z) (.cons (.sl (nl Z) Z Z) .nil)))) Z Z Z (.arrE Z))) (hv := by exact (.cons (.ptr (nl Z) Z) (.cons (.same Z) (.cons (.aggL (.same Z)) (.cons (.aggL (.same Z)) .nil)))))) ?_
  refine .p [] (.call0 [] false (Same_spec 1000 (wholeT [] u m n) (wholeT [] u m n) (h.fw _) (h.fw _)) Tryz.func10 (hv := by exact (.cons (.aggL (.cons (.same Z) (.cons (.same Z) (.cons (.same Z) (.cons (.same Z) (.cons (.same Z) (.cons (.same Z) (.cons (.same Z) (.cons (.same Z) (.cons (.same Z) (.cons (.same Z) (.cons .fr (.cons .fr (.cons .fr .nil)))))))))))))) (.cons (.aggL (.same Z)) .nil)))) ?_
  refine .p [] (.not Z Z) <| .p [] (.move Z Z) ?_
  have h7 : (eqT (wholeT [] u m n) (wholeT [] u m n)) = true := eqT_self _
  refine .yes [] (b := false) (.move Z Z) Z Z (bnot h7) <| .yes [] (b := false) (.faddr fo55_1 Z Z) Z Z (bnot h7) <| .yes [7] (b := false) (.load1 ag53 Z Z Z Z) Z Z (bnot h7) <| .yes [93] (b := false) (.call0 [] true (DispA h) Tryz.func16 (hv := by exact (.cons (.same Z) (.cons (.bslR (els := (rowsOf Cft.cells (whB [] u m n).2)) (by simp) Z) .nil)))) Z Z (bnot h7) ?_
  refine .yes [] (b := false) (.not Z Z) Z Z (bnot h7) <| .p [] (.pickE Z Z (bnot h7) Z) <| .nil (by kernel_rfl) ?_
  refine .cF Z Z <| .skip <| .seq <| .region <| .p (.iaddr_arr ut36 sz35 Z Z Z Z (nl Z)) <| .p (.loadN ag35 sz35 Z Z Z (nl Z)) <| .p (.iaddr_arr ut36 sz35 Z Z Z Z (nl Z)) <| .p (.loadN ag35 sz35 Z Z Z (nl Z)) <| .p (.iaddr_arr ut36 sz35 Z Z Z Z (nl Z)) <| .p (.loadN ag35 sz35 Z Z Z (nl Z)) <| .p (.faddr fo55_0 Z Z) <| .p (.load1 ag52 Z Z Z Z) ?_
  refine .p (.call0 [] false (ResolveA h (tkM u n) (by simp; omega)) Tryz.func17 (hv := by exact (.cons (.aggL (.same Z)) (.cons (.aggL (.same Z)) (.cons (.aggL (.same Z)) (.cons (.same Z) .nil)))))) ?_
  refine .p (.move Z Z) <| .p (.extract Z Z Z) <| .p (.extract Z Z Z) <| .c1 (.alloc 94 Z zt35 Z) <| .c0 (.store sz35 Z Z Z Z (notup Z) Z Z (nl Z)) <| .p (.assign Z Z) <| .nil <| .openCell 8 1 4 false ?_
  refine .ws 96 [(4, .P 0), (5, .P 1), (7, .N n), (21, .P 7), (22, .P 8), (26, .P 94), (27, .N ((whB [] u m n).2.length))] [(0, .box [.lit (.int .u16 ((u.mul : Nat) : Int)), .lit (.int .u16 ((u.add : Nat) : Int)), .lit (.int .u16 ((u.md : Nat) : Int))]), (1, .box [.lit (.int .u16 ((m.a : Nat) : Int)), .lit (.int .u16 ((m.b : Nat) : Int)), .lit (.int .u16 ((m.c : Nat) : Int))]), (7, .box [.ro 1 (rowsOf boolCells []), .sl 93 4 0 (whB [] u m n).2.length]), (8, .box [.ro 1 (rowsOf boolCells (tkM u n)), .sl 95 4 0 0]), (93, .arr false 4 (rowsOf Cft.cells (whB [] u m n).2)), (94, .box (encFr (wholeT (tkM u n) u m n))), (95, .arr false 4 (rowsOf Cft.cells []))] <| .seq <| .region_p fol an3_23 (by kernel_rfl) Z ?_
  refine .p [94] (.loadN ag35 sz35 Z Z Z (nl Z)) <| .p [] (.move Z Z) <| .p [0] (.loadN ag24 sz24 Z Z Z (nl Z)) <| .p [1] (.loadN ag25 sz25 Z Z Z (nl Z)) <| .c 97 [8, 95] (.callN [8, 95, 96] [96] false (whole_spec (tkM u n) u m n hu hm hn (by first | (simp; omega) | simp)) Tryz.func15 (hc := by exact (.cons (.cons .nil Z Z Z (.boxL (.cons (.same Z) (.cons (.sl (nl Z) Z Z) .nil)))) Z Z Z (.arrE Z))) (hv := by exact (.cons (.ptr (nl Z) Z) (.cons (.same Z) (.cons (.aggL (.same Z)) (.cons (.aggL (.same Z)) .nil)))))) ?_
  refine .p [] (.call0 [] false (Same_spec 1000 (wholeT (tkM u n) u m n) (wholeT (tkM u n) u m n) (h.fw _) (h.fw _)) Tryz.func10 (hv := by exact (.cons (.aggL (.cons (.same Z) (.cons (.same Z) (.cons (.same Z) (.cons (.same Z) (.cons (.same Z) (.cons (.same Z) (.cons (.same Z) (.cons (.same Z) (.cons (.same Z) (.cons (.same Z) (.cons .fr (.cons .fr (.cons .fr .nil)))))))))))))) (.cons (.aggL (.same Z)) .nil)))) ?_
  refine .p [] (.move Z Z) ?_
  have h8 : (eqT (wholeT (tkM u n) u m n) (wholeT (tkM u n) u m n)) = true := eqT_self _
  refine .yes [] (b := true) (.move Z Z) Z Z h8 <| .yes [] (b := true) (.faddr fo55_1 Z Z) Z Z h8 <| .yes [7] (b := true) (.load1 ag53 Z Z Z Z) Z Z h8 <| .yes [93] (b := true) (.len_sl ut53 Z Z (Option.some_ne_none _)) Z Z h8 <| .yes [] (b := true) (.ieql Z Z Z) Z Z h8 <| .p [] (.pickE Z Z h8 Z) <| .p [] (.move Z Z) ?_
  have h9 : (decide ((((whB [] u m n).2.length : Nat) : Int) = (((whB [] u m n).2.length : Nat) : Int))) = true := decide_eq_true rfl
  refine .yes [] (b := true) (.call0 [] false (patches_spec hP) Tryz.func18 (hv := by exact (.same Z))) Z Z h9 ?_
  refine .p [] (.pickE Z Z h9 Z) <| .p [] (.assign Z Z) <| .nil (by kernel_rfl) ?_
  refine .ret ?_
  exact ⟨_, _, _, _, rfl, ALe.s (l := [(0, .B true)]) (m := []) (nx' := 0), rfl, rfl⟩
end Go.Abs
namespace Go.Abs
def valL (l : List UInt8) : Nat := l.foldl (fun a c => a * 10 + (c.toNat - 48)) 0
def okL (l : List UInt8) : Bool := decide (0 < l.length) && decide (l.length ≤ 120) && l.all (fun c => decide (48 ≤ c.toNat) && decide (c.toNat ≤ 57)) && decide (l.getD 0 0 ≠ 48) && decide (l.getD (l.length - 1) 0 ≠ 48)
def chkN (n : Nat) : Bool :=
  decide (valL (numL n) = n) && (numL n).all (fun c => decide (c.toNat < 128)) && decide ((numL n).length ≤ 100) && decide (valL (decD (dec n)).1 * 10 ^ (decD (dec n)).2 = n) && decide ((decD (dec n)).2 ≤ 400) && (((decD (dec n)).1 == [] && (decD (dec n)).2 == 0) || okL (decD (dec n)).1)
def allUp (p : Nat → Bool) : Nat → Bool
  | 0 => true
  | n + 1 => p n && allUp p n
theorem allUp_at {p : Nat → Bool} : ∀ {n i : Nat}, allUp p n = true → i < n → p i = true
  | n + 1, i, h, hi => by
    simp only [allUp, Bool.and_eq_true] at h
    rcases Nat.lt_or_eq_of_le (Nat.le_of_lt_succ hi) with h' | rfl
    · exact allUp_at h.2 h'
    · exact h.1
theorem chk_all : allUp chkN 2100 = true := by kernel_rfl
theorem chk {n : Nat} (h : n < 2100) : valL (numL n) = n ∧ (∀ c ∈ numL n, c.toNat < 128) ∧ (numL n).length ≤ 100 ∧ valL (decD (dec n)).1 * 10 ^ (decD (dec n)).2 = n ∧ (decD (dec n)).2 ≤ 400 ∧ (((decD (dec n)).1 = [] ∧ (decD (dec n)).2 = 0) ∨ okL (decD (dec n)).1 = true) := by
  have e := allUp_at chk_all h
  simp only [chkN, Bool.and_eq_true, Bool.or_eq_true, decide_eq_true_eq, List.all_eq_true, beq_iff_eq] at e
  obtain ⟨⟨⟨⟨⟨h1, h2⟩, h3⟩, h4⟩, h5⟩, h6⟩ := e
  exact ⟨h1, h2, h3, h4, h5, h6⟩
theorem okL_dig {l : List UInt8} (h : okL l = true) : digOK l := by
  simp only [okL, Bool.and_eq_true, decide_eq_true_eq, List.all_eq_true] at h
  obtain ⟨⟨⟨⟨h1, h2⟩, h3⟩, h4⟩, h5⟩ := h
  have nz : ∀ i, l.getD i 0 ≠ 48 → byteAt l i ≠ 48 := fun i hi e => hi (by
    unfold byteAt at e
    apply UInt8.toNat_inj.1
    show (l.getD i 0).toNat = 48
    omega)
  refine ⟨h1, h2, fun i hi => ?_, nz _ h4, nz _ h5⟩
  have h9 := h3 l[i] (List.getElem_mem hi)
  unfold byteAt
  rw [List.getD_eq_getElem?_getD, List.getElem?_eq_getElem hi, Option.getD_some]
  omega
abbrev KK (i : Nat) : ByteArray := strOf (keyL i)
theorem KK_inj {i j : Nat} (hi : i < 2100) (hj : j < 2100) (h : KK i = KK j) : i = j := by
  have e := strOf_inj.1 h
  simp only [keyL, List.cons.injEq, true_and] at e
  have h1 := (chk hi).1
  rw [e, (chk hj).1] at h1
  exact h1.symm
theorem kOK_str {l : List UInt8} (h1 : l.length ≤ 1024) (h2 : ∀ c ∈ l, c.toNat < 128) : kOK (strOf l) := by
  refine ⟨by simpa using h1, fun i hi => ?_⟩
  have hi' : i < l.length := by simpa using hi
  rw [bat_strOf]
  unfold byteAt
  rw [List.getD_eq_getElem?_getD, List.getElem?_eq_getElem hi', Option.getD_some]
  have := h2 _ (List.getElem_mem hi')
  omega
theorem KK_ok {i : Nat} (hi : i < 2100) : kOK (KK i) := by
  have h := chk hi
  refine kOK_str (by simp only [keyL, List.length_cons]; omega) fun c hc => ?_
  rcases List.mem_cons.1 hc with rfl | hc
  · decide
  · exact h.2.1 c hc
theorem KK_ours (i : Nat) : KK i ≠ sOurs := fun h => by have := strOf_inj.1 h; simp [keyL] at this
theorem KK_other (i : Nat) : KK i ≠ sOther := fun h => by have := strOf_inj.1 h; simp [keyL] at this
theorem ours_other : sOurs ≠ sOther := fun h => by have := strOf_inj.1 h; simp at this
abbrev kx : ByteArray := strOf [120]
abbrev ky : ByteArray := strOf [121]
theorem kx_ky : kx ≠ ky := fun h => by have := strOf_inj.1 h; simp at this
theorem kx_ok : kOK kx := kOK_str (by simp) (by simp)
theorem ky_ok : kOK ky := kOK_str (by simp) (by simp)
theorem ours_ok : kOK sOurs := kOK_str (by simp) (by simp)
theorem other_ok : kOK sOther := kOK_str (by simp) (by simp)
theorem int_inj {a b : Nat} (ha : a < 2100) (hb : b < 2100) (h : T.int a = T.int b) : a = b := by
  unfold T.int at h
  have h1 : (decD (dec a)).1 = (decD (dec b)).1 := strOf_inj.1 (congrArg T.digits h)
  have h2 : (((decD (dec a)).2 : Nat) : Int) = (((decD (dec b)).2 : Nat) : Int) := congrArg T.exp h
  have h3 : (decD (dec a)).2 = (decD (dec b)).2 := by omega
  rw [← (chk ha).2.2.2.1, ← (chk hb).2.2.2.1, h1, h3]
theorem int_vdN {n : Nat} (h : n < 2100) : vdN (T.int n) := by
  have e := (chk h).2.2.2.2
  rcases e.2 with ⟨h1, h2⟩ | h1
  · left; unfold T.int; rw [h1, h2]; rfl
  · right; exact ⟨_, _, rfl, okL_dig h1, by omega, by omega⟩
theorem one_vdN : vdN oneT := .inr ⟨[49], 0, rfl, okL_dig (by decide), by omega, by omega⟩
theorem stab_nil : stabM [] = [] := List.perm_nil.1 (stabM_perm [])
theorem same_num {d : Nat} {n m : Bool} {a b : ByteArray} {e f : Int} : sameM (d + 1) (T.num n a e) (T.num m b f) = eqT (T.num n a e) (T.num m b f) := by
  cases h : eqT (T.num n a e) (T.num m b f) with
  | true =>
    have h := eqT_iff.1 h
    rw [h]
    simp [sameM, scalB, T.num, T.kind, T.b, T.neg, T.digits, T.exp, T.tk, T.td, T.tn, T.tz, T.text, T.bytes, T.list, T.fields, eqVs, eqV1, eqBy, stab_nil]
  | false =>
    refine sameM_no ?_
    cases hs : scalB (T.num n a e) (T.num m b f) with
    | false => rfl
    | true =>
      simp [scalB, T.num, T.kind, T.b, T.neg, T.digits, T.exp, T.tk, T.td, T.tn, T.tz, T.text, T.bytes, T.list, T.fields, eqVs, eqV1] at hs
      obtain ⟨h1, h2, h3⟩ := hs
      rw [h1, of_decide_eq_true h2, h3, eqT_self] at h
      cases h
end Go.Abs
namespace Go.Abs
theorem eqVs_refl3 (a : Bool) (b : ByteArray) (c : Int) : eqVs [.bool a, .string b, .int .i64 c] [.bool a, .string b, .int .i64 c] = true := eqVs_num.2 ⟨rfl, rfl, rfl⟩
theorem scalB_refl (t : T) : scalB t t = true := by
  unfold scalB
  rw [eqVs_refl3, eqVs_time.2 ⟨rfl, rfl, rfl, rfl⟩]
  simp
theorem eqBy_refl {α : Type} {f : α → α → Bool} : ∀ {l : List α}, (∀ x ∈ l, f x x = true) → eqBy f l l = true
  | [], _ => rfl
  | x :: r, h => by
    simp only [eqBy, Bool.and_eq_true]
    exact ⟨h x (List.mem_cons_self ..), eqBy_refl fun y hy => h y (List.mem_cons_of_mem _ hy)⟩
theorem same_refl : ∀ {d : Nat} {t : T}, T.ok d t → sameM d t t = true
  | 0, _, h => absurd h id
  | d + 1, t, h => by
    simp only [sameM, Bool.and_eq_true]
    refine ⟨⟨scalB_refl t, eqBy_refl fun x hx => same_refl (h.2.2.2.1 x hx)⟩, eqBy_refl fun p hp => ?_⟩
    simp only [decide_true, Bool.true_and]
    exact same_refl (h.2.2.2.2 p ((stabM_perm _).mem_iff.1 hp))
theorem eqBy_keys {d : Nat} : ∀ {l m : List Fl}, eqBy (sameF d) l m = true → l.map (·.1) = m.map (·.1)
  | [], [], _ => rfl
  | x :: l, y :: m, h => by
    simp only [eqBy, Bool.and_eq_true, decide_eq_true_eq] at h
    simp only [List.map_cons, h.1.1, eqBy_keys h.2]
  | [], _ :: _, h => by cases h
  | _ :: _, [], h => by cases h
theorem same_keys {d : Nat} {a b : T} (h : sameM (d + 1) a b = true) (k : ByteArray) : k ∈ a.fields.map (·.1) ↔ k ∈ b.fields.map (·.1) := by
  simp only [sameM, Bool.and_eq_true] at h
  have e := eqBy_keys h.2
  have p1 := (stabM_perm a.fields).map (·.1)
  have p2 := (stabM_perm b.fields).map (·.1)
  rw [← p1.mem_iff, e, p2.mem_iff]
theorem same_not {d : Nat} {a b : T} {k : ByteArray} (h : k ∈ a.fields.map (·.1)) (h' : k ∉ b.fields.map (·.1)) : sameM (d + 1) a b = false := by
  cases e : sameM (d + 1) a b with
  | false => rfl
  | true => exact absurd ((same_keys e k).1 h) h'
theorem same_not' {d : Nat} {a b : T} {k : ByteArray} (h : k ∉ a.fields.map (·.1)) (h' : k ∈ b.fields.map (·.1)) : sameM (d + 1) a b = false := by
  cases e : sameM (d + 1) a b with
  | false => rfl
  | true => exact absurd ((same_keys e k).2 h') h
abbrev prT (x y : T) : T := T.map [(kx, x), (ky, y)]
theorem kcmp_yx : ¬ kCmp ky kx < 0 := by decide +kernel
theorem stab_pair (x y : T) : stabM [(kx, x), (ky, y)] = [(kx, x), (ky, y)] := by
  refine stabM_asc (fun j hj => ?_) (by simp)
  have : j = 0 := by simp at hj; omega
  subst this
  exact kcmp_yx
theorem same_pair {d : Nat} {x y x' y' : T} : sameM (d + 1) (prT x y) (prT x' y') = (sameM d x x' && sameM d y y') := by
  have e : sameM (d + 1) (prT x y) (prT x' y') = (scalB (prT x y) (prT x' y') && eqBy (sameM d) [] [] && eqBy (sameF d) (stabM [(kx, x), (ky, y)]) (stabM [(kx, x'), (ky, y')])) := rfl
  rw [e, stab_pair, stab_pair, show scalB (prT x y) (prT x' y') = true from scalB_refl (T.map [])]
  simp [eqBy, sameF]
end Go.Abs
namespace Go.Abs
abbrev keysF (l : List Fl) : List ByteArray := l.map (·.1)
def Nm (t : T) : Prop := ∃ a, a < 2100 ∧ t = T.int a
def Val (t : T) : Prop := (∃ x y, Nm x ∧ Nm y ∧ t = prT x y) ∨ t = oneT
def Sh (fs : List Fl) : Prop := Distinct fs ∧ fs.length ≤ 300 ∧ ∀ p ∈ fs, kOK p.1 ∧ Val p.2
theorem Nm.vd {t : T} (h : Nm t) (d : Nat) : vd (d + 1) t := by obtain ⟨a, h, rfl⟩ := h; exact .inl (int_vdN h)
theorem Nm.nodes {t : T} (h : Nm t) (d : Nat) : nodesD (d + 1) t = 1 := by obtain ⟨a, h, rfl⟩ := h; rfl
theorem Nm.ok {t : T} (h : Nm t) : vOK t := ⟨h.vd 7, by rw [h.nodes 7]; omega⟩
theorem one_ok : vOK oneT := ⟨.inl one_vdN, by show 1 + 0 ≤ 65536; omega⟩
theorem vd_pair {x y : T} {d : Nat} (hx : vd d x) (hy : vd d y) : vd (d + 1) (prT x y) := by
  refine .inr ⟨_, rfl, ⟨by simp, fun p hp => ?_, ?_⟩, fun p hp => ?_⟩
  · simp only [List.mem_cons, List.not_mem_nil, or_false] at hp
    rcases hp with rfl | rfl
    · exact kx_ok
    · exact ky_ok
  · show ([kx, ky] : List ByteArray).Nodup
    simp [kx_ky]
  · simp only [List.mem_cons, List.not_mem_nil, or_false] at hp
    rcases hp with rfl | rfl
    · exact hx
    · exact hy
theorem Val.vd {t : T} (h : Val t) (d : Nat) : vd (d + 2) t := by
  rcases h with ⟨x, y, hx, hy, rfl⟩ | rfl
  · exact vd_pair (hx.vd d) (hy.vd d)
  · exact .inl one_vdN
theorem Val.nodes {t : T} (h : Val t) (d : Nat) : nodesD (d + 2) t ≤ 3 := by
  rcases h with ⟨x, y, hx, hy, rfl⟩ | rfl
  · show 1 + (nodesD (d + 1) x + (nodesD (d + 1) y + 0)) ≤ 3
    rw [hx.nodes, hy.nodes]; omega
  · show 1 + 0 ≤ 3; omega
theorem Val.ok {t : T} (h : Val t) : vOK t := ⟨h.vd 6, by have h9 : nodesD 8 t ≤ 3 := h.nodes 6; omega⟩
theorem nodes_sum {d : Nat} : ∀ {fs : List Fl}, (∀ p ∈ fs, Val p.2) → (fs.map fun p => nodesD (d + 2) p.2).sum ≤ 3 * fs.length
  | [], _ => by simp
  | p :: r, h => by
    have h1 := (h p (List.mem_cons_self ..)).nodes d
    have h2 := nodes_sum (d := d) fun q hq => h q (List.mem_cons_of_mem p hq)
    simp only [List.map_cons, List.sum_cons, List.length_cons]
    omega
theorem Sh.ok {fs : List Fl} (h : Sh fs) : vOK (T.map fs) := by
  refine ⟨.inr ⟨fs, rfl, ⟨by have := h.2.1; omega, fun p hp => (h.2.2 p hp).1, h.1⟩, fun p hp => (h.2.2 p hp).2.vd 5⟩, ?_⟩
  show 1 + (fs.map fun p => nodesD 7 p.2).sum ≤ 65536
  have h9 : (fs.map fun p => nodesD 7 p.2).sum ≤ 3 * fs.length := nodes_sum (d := 5) fun p hp => (h.2.2 p hp).2
  have := h.2.1
  omega
theorem ixM_mid {k : ByteArray} {v : T} : ∀ {A R : List Fl}, k ∉ keysF A → ixM k (A ++ (k, v) :: R) = A.length
  | [], R, _ => if_pos rfl
  | x :: A, R, h => by
    simp only [List.map_cons, List.mem_cons, not_or] at h
    simp only [List.cons_append, ixM, List.length_cons]
    rw [if_neg (fun e => h.1 e.symm), ixM_mid h.2]
theorem ixM_none {k : ByteArray} : ∀ {A : List Fl}, k ∉ keysF A → ixM k A = A.length
  | [], _ => rfl
  | x :: A, h => by
    simp only [List.map_cons, List.mem_cons, not_or] at h
    simp only [ixM, List.length_cons]
    rw [if_neg (fun e => h.1 e.symm), ixM_none h.2]
theorem nthF_mid (A R : List Fl) (q : Fl) : nthF (A ++ q :: R) A.length = q := by rw [nthF_eq (by simp)]; simp
theorem getM_mid {k : ByteArray} {v : T} {A R : List Fl} (h : k ∉ keysF A) (r : List Stp) : getM (T.map (A ++ (k, v) :: R)) (⟨false, k, 0⟩ :: r) = getM v r := by
  have e : getM (T.map (A ++ (k, v) :: R)) (⟨false, k, 0⟩ :: r) = if (7 : Int) = 7 ∧ ixM k (A ++ (k, v) :: R) < (A ++ (k, v) :: R).length then getM (nthF (A ++ (k, v) :: R) (ixM k (A ++ (k, v) :: R))).2 r else none := rfl
  rw [e, ixM_mid h, if_pos ⟨rfl, by simp⟩, nthF_mid]
theorem map_away {k : ByteArray} {f : Fl → Fl} (hf : ∀ x, x.1 ≠ k → f x = x) : ∀ {A : List Fl}, k ∉ keysF A → A.map f = A
  | [], _ => rfl
  | x :: A, h => by
    simp only [List.map_cons, List.mem_cons, not_or] at h
    rw [List.map_cons, hf x (fun e => h.1 e.symm), map_away hf h.2]
theorem putM_mid {k : ByteArray} {v : T} {A R : List Fl} (h : k ∉ keysF A) (h' : k ∉ keysF R) (r : List Stp) (x : T) : putM (T.map (A ++ (k, v) :: R)) (⟨false, k, 0⟩ :: r) x = T.map (A ++ (k, putM v r x) :: R) := by
  have e : putM (T.map (A ++ (k, v) :: R)) (⟨false, k, 0⟩ :: r) x = T.map ((A ++ (k, v) :: R).map fun f => if f.1 = k then (f.1, putM f.2 r x) else f) := rfl
  rw [e, List.map_append, List.map_cons, map_away (k := k) (fun y hy => if_neg hy) h, map_away (k := k) (fun y hy => if_neg hy) h', if_pos rfl]
theorem remM_mid (A R : List Fl) (q : Fl) : remM (T.map (A ++ q :: R)) A.length = T.map (A ++ R) := by
  show T.map ((A ++ q :: R).take A.length ++ (A ++ q :: R).drop (A.length + 1)) = _
  simp
theorem insM_mid (A R : List Fl) (k : ByteArray) (x : T) : insM' (T.map (A ++ R)) k A.length x = T.map (A ++ (k, x) :: R) := by
  show T.map ((A ++ R).take A.length ++ (k, x) :: (A ++ R).drop A.length) = _
  simp
theorem distinct_mid {A R : List Fl} {q : Fl} (h : Distinct (A ++ q :: R)) : q.1 ∉ keysF A ∧ q.1 ∉ keysF R := by
  unfold Distinct at h
  rw [List.map_append, List.map_cons, List.nodup_append] at h
  obtain ⟨_, h2, h3⟩ := h
  exact ⟨fun hm => h3 _ hm _ (List.mem_cons_self ..) rfl, (List.nodup_cons.1 h2).1⟩
abbrev stK (k : ByteArray) : Stp := ⟨false, k, 0⟩
inductive StX : T → Chg → T → Prop
  | upd {A R : List Fl} {k s : ByteArray} {w w' x y : T} (hs : Sh (A ++ (k, w) :: R)) (hs' : Sh (A ++ (k, w') :: R)) (hk : kOK s) (hx : Nm x) (hy : Nm y) (p1 : putM w [stK s] y = w') (p2 : putM w' [stK s] x = w) (g1 : getM w [stK s] = some x) (g2 : getM w' [stK s] = some y) :
      StX (T.map (A ++ (k, w) :: R)) ⟨1, [stK k, stK s], 0, x, y⟩ (T.map (A ++ (k, w') :: R))
  | ins {A R : List Fl} {k : ByteArray} {y : T} (hs : Sh (A ++ R)) (hs' : Sh (A ++ (k, y) :: R)) : StX (T.map (A ++ R)) ⟨2, [stK k], ((A.length : Nat) : Int), T.nul, y⟩ (T.map (A ++ (k, y) :: R))
  | rem {A R : List Fl} {k : ByteArray} {x : T} (hs : Sh (A ++ (k, x) :: R)) (hs' : Sh (A ++ R)) : StX (T.map (A ++ (k, x) :: R)) ⟨3, [stK k], ((A.length : Nat) : Int), x, T.nul⟩ (T.map (A ++ R))
theorem StX.inv {v v' : T} {c : Chg} (h : StX v c v') : StX v' (invC c) v := by
  cases h with
  | upd hs hs' hk hx hy p1 p2 g1 g2 => exact .upd hs' hs hk hy hx p2 p1 g2 g1
  | ins hs hs' => exact .rem hs' hs
  | rem hs hs' => exact .ins hs' hs
theorem Sh.at {A R : List Fl} {k : ByteArray} {x : T} (h : Sh (A ++ (k, x) :: R)) : kOK k ∧ Val x ∧ k ∉ keysF A ∧ k ∉ keysF R ∧ A.length ≤ 300 := by
  have h1 := h.2.2 (k, x) (by simp)
  have h2 := distinct_mid h.1
  have h3 := h.2.1
  simp only [List.length_append, List.length_cons] at h3
  exact ⟨h1.1, h1.2, h2.1, h2.2, by omega⟩
theorem vOK.refl {t : T} (h : vOK t) : sameM 1000 t t = true := same_refl h.fit
theorem StX.ok {v v' : T} {c : Chg} (h : StX v c v') : stepOK v c ∧ applyM v c = v' := by
  cases h with
  | @upd A R k s w w' x y hs hs' hk hx hy p1 p2 g1 g2 =>
    obtain ⟨a1, a2, a3, a4, a5⟩ := hs.at
    have e : applyM (T.map (A ++ (k, w) :: R)) ⟨1, [stK k, stK s], 0, x, y⟩ = T.map (A ++ (k, w') :: R) := by
      show putM _ _ _ = _
      rw [putM_mid a3 a4, p1]
    refine ⟨⟨hs.ok, by rw [e]; exact hs'.ok, .inl ⟨rfl, rfl, ⟨by simp, ?_⟩, hx.ok, hy.ok, x, ?_, hx.ok.refl⟩⟩, e⟩
    · simp [a1, hk]
    · show getM _ [stK k, stK s] = _
      rw [getM_mid a3, g1]
  | @ins A R k y hs hs' =>
    obtain ⟨a1, a2, a3, a4, a5⟩ := hs'.at
    have e : applyM (T.map (A ++ R)) ⟨2, [stK k], ((A.length : Nat) : Int), T.nul, y⟩ = T.map (A ++ (k, y) :: R) := insM_mid A R k y
    have hn : k ∉ keysF (A ++ R) := by simp only [keysF, List.map_append, List.mem_append, not_or]; exact ⟨a3, a4⟩
    refine ⟨⟨hs.ok, by rw [e]; exact hs'.ok, .inr (.inl ⟨rfl, rfl, a2.ok, rfl, k, A.length, rfl, a1, rfl, by omega, ?_, ?_⟩)⟩, e⟩
    · show A.length ≤ (A ++ R).length
      simp
    · show ¬ ixM k (A ++ R) < (A ++ R).length
      rw [ixM_none hn]; omega
  | @rem A R k x hs hs' =>
    obtain ⟨a1, a2, a3, a4, a5⟩ := hs.at
    have e : applyM (T.map (A ++ (k, x) :: R)) ⟨3, [stK k], ((A.length : Nat) : Int), x, T.nul⟩ = T.map (A ++ R) := remM_mid A R (k, x)
    refine ⟨⟨hs.ok, by rw [e]; exact hs'.ok, .inr (.inr ⟨rfl, rfl, a2.ok, rfl, k, A.length, rfl, a1, rfl, by omega, ?_, ixM_mid a3, ?_⟩)⟩, e⟩
    · show A.length < (A ++ (k, x) :: R).length
      simp
    · show sameM 1000 (nthF (A ++ (k, x) :: R) A.length).2 x = true
      rw [nthF_mid]; exact a2.ok.refl
inductive RunX : T → List Chg → T → Prop
  | nil {v : T} : RunX v [] v
  | cons {v v1 v2 : T} {c : Chg} {l : List Chg} (h : StX v c v1) (r : RunX v1 l v2) : RunX v (c :: l) v2
theorem RunX.one {v v1 : T} {c : Chg} (h : StX v c v1) : RunX v [c] v1 := .cons h .nil
theorem RunX.app {v v1 v2 : T} {l m : List Chg} (h : RunX v l v1) (h' : RunX v1 m v2) : RunX v (l ++ m) v2 := by
  induction h with
  | nil => exact h'
  | cons h _ ih => exact .cons h (ih h')
theorem RunX.inv {v v' : T} {l : List Chg} (h : RunX v l v') : RunX v' (l.reverse.map invC) v := by
  induction h with
  | nil => exact .nil
  | cons h _ ih =>
    rw [List.reverse_cons, List.map_append]
    exact ih.app (.one h.inv)
theorem RunX.ok {v v' : T} {l : List Chg} (h : RunX v l v') : runOK v l ∧ runM v l = v' := by
  induction h with
  | nil => exact ⟨trivial, rfl⟩
  | cons h _ ih =>
    obtain ⟨h1, h2⟩ := h.ok
    subst h2
    exact ⟨⟨h1, ih.1⟩, ih.2⟩
end Go.Abs
namespace Go.Abs
def seg (f : Nat → List Fl) : Nat → Nat → List Fl
  | _, 0 => []
  | i, k + 1 => f i ++ seg f (i + 1) k
theorem seg_add (f : Nat → List Fl) : ∀ (a i b : Nat), seg f i (a + b) = seg f i a ++ seg f (i + a) b
  | 0, i, b => by simp [seg]
  | a + 1, i, b => by
    rw [show a + 1 + b = (a + b) + 1 by omega]
    simp only [seg]
    rw [seg_add f a (i + 1) b, List.append_assoc, show i + 1 + a = i + (a + 1) by omega]
theorem seg_snoc (f : Nat → List Fl) (i k : Nat) : seg f i (k + 1) = seg f i k ++ f (i + k) := by
  rw [seg_add f k i 1]; simp [seg]
theorem seg_congr {f g : Nat → List Fl} : ∀ (k i : Nat), (∀ j, i ≤ j → j < i + k → f j = g j) → seg f i k = seg g i k
  | 0, _, _ => rfl
  | k + 1, i, h => by
    simp only [seg]
    rw [h i (Nat.le_refl _) (by omega), seg_congr k (i + 1) fun j h1 h2 => h j (by omega) (by omega)]
def Gd (i : Nat) (l : List Fl) : Prop := l = [] ∨ ∃ t, Val t ∧ l = [(KK i, t)]
theorem seg_keys {f : Nat → List Fl} {p : Fl} : ∀ {k i : Nat}, (∀ j, i ≤ j → j < i + k → Gd j (f j)) → p ∈ seg f i k → ∃ j, i ≤ j ∧ j < i + k ∧ p.1 = KK j ∧ Val p.2
  | 0, _, _, hp => by simp [seg] at hp
  | k + 1, i, h, hp => by
    simp only [seg, List.mem_append] at hp
    rcases hp with hp | hp
    · rcases h i (Nat.le_refl _) (by omega) with e | ⟨t, ht, e⟩
      · rw [e] at hp; simp at hp
      · rw [e] at hp
        simp only [List.mem_singleton] at hp
        subst hp
        exact ⟨i, Nat.le_refl _, by omega, rfl, ht⟩
    · obtain ⟨j, h1, h2, h3⟩ := seg_keys (k := k) (i := i + 1) (fun j h1 h2 => h j (by omega) (by omega)) hp
      exact ⟨j, by omega, by omega, h3⟩
theorem seg_away {f : Nat → List Fl} {k i n : Nat} (h : ∀ j, i ≤ j → j < i + k → Gd j (f j)) (hb : i + k ≤ 250) (hn : n ≤ 250) (ho : n < i ∨ i + k ≤ n) : KK n ∉ keysF (seg f i k) := fun hm => by
  obtain ⟨p, hp, e⟩ := List.mem_map.1 hm
  obtain ⟨j, h1, h2, h3, _⟩ := seg_keys h hp
  have := KK_inj (by omega) (by omega) (e.symm.trans h3)
  omega
theorem seg_nokey {f : Nat → List Fl} {k i : Nat} {s : ByteArray} (h : ∀ j, i ≤ j → j < i + k → Gd j (f j)) (hs : ∀ j, KK j ≠ s) : s ∉ keysF (seg f i k) := fun hm => by
  obtain ⟨p, hp, e⟩ := List.mem_map.1 hm
  obtain ⟨j, h1, h2, h3, _⟩ := seg_keys h hp
  exact hs j (h3.symm.trans e)
theorem seg_sh {f : Nat → List Fl} : ∀ {n : Nat}, n ≤ 250 → (∀ j, j < n → Gd j (f j)) → Distinct (seg f 0 n) ∧ (seg f 0 n).length ≤ n
  | 0, _, _ => ⟨List.nodup_nil, Nat.le_refl _⟩
  | n + 1, hn, h => by
    obtain ⟨h1, h2⟩ := seg_sh (n := n) (by omega) fun j hj => h j (by omega)
    rw [seg_snoc, Nat.zero_add]
    rcases h n (by omega) with e | ⟨t, ht, e⟩
    · rw [e, List.append_nil]; exact ⟨h1, by omega⟩
    · rw [e]
      refine ⟨?_, by simp; omega⟩
      unfold Distinct
      rw [List.map_append, List.nodup_append]
      refine ⟨h1, by simp, fun a ha b hb => ?_⟩
      simp only [List.map_cons, List.map_nil, List.mem_singleton] at hb
      subst hb
      exact fun e => seg_away (f := f) (fun j _ hj => h j (by omega)) (by omega) (by omega) (.inr (by omega)) (e ▸ ha)
theorem Sh_seg {f : Nat → List Fl} {n : Nat} (hn : n ≤ 250) (h : ∀ j, j < n → Gd j (f j)) : Sh (seg f 0 n) := by
  obtain ⟨h1, h2⟩ := seg_sh hn h
  refine ⟨h1, by omega, fun p hp => ?_⟩
  obtain ⟨j, _, h4, h5, h6⟩ := seg_keys (i := 0) (fun j _ hj => h j (by omega)) hp
  exact ⟨h5 ▸ KK_ok (by omega), h6⟩
theorem Sh_snoc {l : List Fl} {s : ByteArray} {v : T} (h : Sh l) (hl : l.length < 300) (hs : s ∉ keysF l) (hk : kOK s) (hv : Val v) : Sh (l ++ [(s, v)]) := by
  refine ⟨?_, by simp; omega, fun p hp => ?_⟩
  · unfold Distinct
    rw [List.map_append, List.nodup_append]
    exact ⟨h.1, by simp, fun a ha b hb => by
      simp only [List.map_cons, List.map_nil, List.mem_singleton] at hb
      subst hb
      exact fun e => hs (e ▸ ha)⟩
  · rcases List.mem_append.1 hp with hp | hp
    · exact h.2.2 p hp
    · simp only [List.mem_singleton] at hp
      subst hp
      exact ⟨hk, hv⟩
theorem Sh_three {f g : Nat → List Fl} {x : List Fl} {i m : Nat} (hb : i + 1 + m ≤ 250) (hf : ∀ j, j < i → Gd j (f j)) (hx : Gd i x) (hg : ∀ j, i < j → j < i + 1 + m → Gd j (g j)) : Sh (seg f 0 i ++ (x ++ seg g (i + 1) m)) := by
  have e : seg f 0 i ++ (x ++ seg g (i + 1) m) = seg (fun j => if j < i then f j else if j = i then x else g j) 0 (i + 1 + m) := by
    rw [Nat.add_assoc, seg_add, seg_add, Nat.zero_add]
    congr 1
    · exact seg_congr _ _ fun j h1 h2 => (if_pos (by omega)).symm
    · congr 1
      · show x = (if i < i then f i else if i = i then x else g i) ++ []
        rw [List.append_nil, if_neg (by omega), if_pos rfl]
      · exact seg_congr _ _ fun j h1 h2 => by rw [if_neg (by omega), if_neg (by omega)]
  rw [e]
  refine Sh_seg hb fun j hj => ?_
  split
  · exact hf j (by omega)
  · split
    · rename_i h; subst h; exact hx
    · exact hg j (by omega) (by omega)
theorem verF_seg (g : Nat → List T) : ∀ n, verF g n = seg (fun i => if (g i).length = 0 then [] else [(KK i, nthT (g i) 0)]) 0 n
  | 0 => rfl
  | n + 1 => by
    rw [seg_snoc, ← verF_seg g n, Nat.zero_add]
    simp only [verF]
    split
    · simp
    · rfl
end Go.Abs
namespace Go.Abs
abbrev cX (u : Ru) (i s w : Nat) : T := T.int (partF (u.at i % 1000) i s (decide (((w % 2 : Nat) : Int) = 1)))
abbrev cY (u : Ru) (i s w : Nat) : T := T.int (partF (u.at i % 1000) i s (decide (((w / 2 : Nat) : Int) = 1)))
theorem sideT_eq (u : Ru) (i s w : Nat) : sideT u i s w = prT (cX u i s w) (cY u i s w) := rfl
theorem cX_nm {u : Ru} {i s w : Nat} (hs : s ≤ 2) : Nm (cX u i s w) := ⟨_, by have := @partF_le (u.at i % 1000) i s (decide (((w % 2 : Nat) : Int) = 1)) (by omega) hs; omega, rfl⟩
theorem cY_nm {u : Ru} {i s w : Nat} (hs : s ≤ 2) : Nm (cY u i s w) := ⟨_, by have := @partF_le (u.at i % 1000) i s (decide (((w / 2 : Nat) : Int) = 1)) (by omega) hs; omega, rfl⟩
theorem side_val {u : Ru} {i s w : Nat} (hs : s ≤ 2) : Val (sideT u i s w) := .inl ⟨_, _, cX_nm hs, cY_nm hs, rfl⟩
theorem Val.one : Val oneT := .inr rfl
def vB (u : Ru) (i : Nat) : List Fl := [(KK i, sideT u i 0 0)]
def vS (u : Ru) (w : Nat → Nat) (s i : Nat) : List Fl := if w i = 4 then [] else [(KK i, sideT u i s (w i))]
def vA (u : Ru) (w : Nat → Nat) (i : Nat) : List Fl := if w i = 4 then [(KK i, sideT u i 0 0)] else [(KK i, sideT u i 1 (w i))]
theorem vB_gd (u : Ru) (i : Nat) : Gd i (vB u i) := .inr ⟨_, side_val (by omega), rfl⟩
theorem vS_gd {u : Ru} {w : Nat → Nat} {s : Nat} (hs : s ≤ 2) (i : Nat) : Gd i (vS u w s i) := by
  unfold vS
  split
  · exact .inl rfl
  · exact .inr ⟨_, side_val hs, rfl⟩
theorem vA_gd (u : Ru) (w : Nat → Nat) (i : Nat) : Gd i (vA u w i) := by
  unfold vA
  split
  · exact .inr ⟨_, side_val (by omega), rfl⟩
  · exact .inr ⟨_, side_val (by omega), rfl⟩
abbrev dO (m : Mk) (i : Nat) : Nat := (m.deed i).1
abbrev dX (m : Mk) (i : Nat) : Nat := (m.deed i).2
theorem verF_side (u : Ru) (w : Nat → Nat) (s n : Nat) : verF (fun i => sideL u i s (w i)) n = seg (vS u w s) 0 n := by
  rw [verF_seg]
  refine seg_congr n 0 fun j _ _ => ?_
  unfold vS sideL
  split
  · rfl
  · rfl
theorem base_seg (u : Ru) (n : Nat) : verF (gB u) n = seg (vB u) 0 n := by
  rw [verF_seg]
  exact seg_congr n 0 fun j _ _ => rfl
theorem ours_seg (u : Ru) (m : Mk) (n : Nat) : verF (gO u m) n = seg (vS u (dO m) 1) 0 n := verF_side u (dO m) 1 n
theorem other_seg (u : Ru) (m : Mk) (n : Nat) : verF (gX u m) n = seg (vS u (dX m) 2) 0 n := verF_side u (dX m) 2 n
theorem gO_nil {u : Ru} {m : Mk} {i : Nat} : (gO u m i).length = 0 ↔ dO m i = 4 := by
  show (sideL u i 1 (dO m i)).length = 0 ↔ _
  unfold sideL
  split <;> simp_all
theorem gO_val {u : Ru} {m : Mk} {i : Nat} (h : ¬ dO m i = 4) : nthT (gO u m i) 0 = sideT u i 1 (dO m i) := by
  show nthT (sideL u i 1 (dO m i)) 0 = _
  unfold sideL
  rw [if_neg h]; rfl
theorem kept_len (u : Ru) (m : Mk) : ∀ i, (seg (vS u (dO m) 1) 0 i).length = (stI u m i).kept ∧ (stI u m i).kept + (stI u m i).gone.length = i
  | 0 => ⟨rfl, rfl⟩
  | i + 1 => by
    obtain ⟨h1, h2⟩ := kept_len u m i
    rw [seg_snoc, Nat.zero_add]
    simp only [stI, stStep, gO_nil]
    by_cases h : dO m i = 4
    · rw [if_pos h]
      simp only [vS, if_pos h, List.length_append, List.length_nil, List.length_cons]
      omega
    · rw [if_neg h]
      simp only [vS, if_neg h, List.length_append, List.length_nil, List.length_cons]
      omega
theorem run_part {A R : List Fl} {i : Nat} {s : ByteArray} {w w' x y : T} {q : List Chg × List Fl} {v0 : T} (hs : Sh (A ++ (KK i, w) :: R)) (hs' : Sh (A ++ (KK i, w') :: R)) (hk : kOK s) (hx : Nm x) (hy : Nm y) (p1 : putM w [stK s] y = w') (p2 : putM w' [stK s] x = w)
    (g1 : getM w [stK s] = some x) (g2 : getM w' [stK s] = some y) (h : RunX v0 q.1 (T.map (A ++ (KK i, w) :: R))) (e : x = y → w = w') (k' : ByteArray) :
    RunX v0 (stPart i (s, x) (k', y) q).1 (T.map (A ++ (KK i, w') :: R)) := by
  unfold stPart
  split
  · rename_i he
    rw [← e (eqT_iff.1 he)]; exact h
  · exact h.app (.one (.upd hs hs' hk hx hy p1 p2 g1 g2))
theorem getX (x y : T) : getM (prT x y) [stK kx] = some x := getM_mid (A := []) (R := [(ky, y)]) (by simp) []
theorem getY (x y : T) : getM (prT x y) [stK ky] = some y := getM_mid (A := [(kx, x)]) (R := []) (by simp [Ne.symm kx_ky]) []
theorem putX (x y z : T) : putM (prT x y) [stK kx] z = prT z y := putM_mid (A := []) (R := [(ky, y)]) (by simp) (by simp [kx_ky]) [] z
theorem putY (x y z : T) : putM (prT x y) [stK ky] z = prT x z := putM_mid (A := [(kx, x)]) (R := []) (by simp [Ne.symm kx_ky]) (by simp) [] z
theorem seg_here (f : Nat → List Fl) (i n : Nat) (h : i < n) : seg f i (n - i) = f i ++ seg f (i + 1) (n - (i + 1)) := by
  rw [show n - i = (n - (i + 1)) + 1 by omega]; rfl
theorem run_parts (u : Ru) (m : Mk) {n : Nat} (hn : n ≤ 250) : ∀ i, i ≤ n → RunX (T.map (seg (vB u) 0 n)) (stI u m i).parts (T.map (seg (vA u (dO m)) 0 i ++ seg (vB u) i (n - i)))
  | 0, _ => by simp only [seg, List.nil_append, Nat.sub_zero]; exact .nil
  | i + 1, hi => by
    have ih := run_parts u m hn i (by omega)
    rw [seg_here _ _ _ (show i < n by omega)] at ih
    rw [seg_snoc, Nat.zero_add, List.append_assoc]
    have sh : ∀ x y, Nm x → Nm y → Sh (seg (vA u (dO m)) 0 i ++ (KK i, prT x y) :: seg (vB u) (i + 1) (n - (i + 1))) := fun x y hx hy =>
      Sh_three (x := [(KK i, prT x y)]) (by omega) (fun j _ => vA_gd u _ j) (.inr ⟨_, .inl ⟨x, y, hx, hy, rfl⟩, rfl⟩) (fun j _ _ => vB_gd u j)
    simp only [stI, stStep, gO_nil]
    by_cases h : dO m i = 4
    · rw [if_pos h]
      simp only [vA, if_pos h]
      exact ih
    · rw [if_neg h]
      simp only [vA, if_neg h, gO_val h]
      have r1 := run_part (i := i) (A := seg (vA u (dO m)) 0 i) (R := seg (vB u) (i + 1) (n - (i + 1))) (s := kx) (w := prT (cX u i 0 0) (cY u i 0 0)) (w' := prT (cX u i 1 (dO m i)) (cY u i 0 0)) (x := cX u i 0 0) (y := cX u i 1 (dO m i)) (q := ((stI u m i).parts, []))
        (sh _ _ (cX_nm (by omega)) (cY_nm (by omega))) (sh _ _ (cX_nm (by omega)) (cY_nm (by omega))) kx_ok (cX_nm (by omega)) (cX_nm (by omega)) (putX _ _ _) (putX _ _ _) (getX _ _) (getX _ _) ih (fun e => by rw [e]) kx
      exact run_part (i := i) (A := seg (vA u (dO m)) 0 i) (R := seg (vB u) (i + 1) (n - (i + 1))) (s := ky) (w := prT (cX u i 1 (dO m i)) (cY u i 0 0)) (w' := prT (cX u i 1 (dO m i)) (cY u i 1 (dO m i))) (x := cY u i 0 0) (y := cY u i 1 (dO m i))
        (sh _ _ (cX_nm (by omega)) (cY_nm (by omega))) (sh _ _ (cX_nm (by omega)) (cY_nm (by omega))) ky_ok (cY_nm (by omega)) (cY_nm (by omega)) (putY _ _ _) (putY _ _ _) (getY _ _) (getY _ _) r1 (fun e => by rw [e]) ky
theorem run_gone (u : Ru) (m : Mk) {n : Nat} (hn : n ≤ 250) : ∀ i, i ≤ n → RunX (T.map (seg (vA u (dO m)) 0 n)) (stI u m i).gone (T.map (seg (vS u (dO m) 1) 0 i ++ seg (vA u (dO m)) i (n - i)))
  | 0, _ => by simp only [seg, List.nil_append, Nat.sub_zero]; exact .nil
  | i + 1, hi => by
    have ih := run_gone u m hn i (by omega)
    rw [seg_here _ _ _ (show i < n by omega)] at ih
    rw [seg_snoc, Nat.zero_add, List.append_assoc]
    have sh : ∀ x, Gd i x → Sh (seg (vS u (dO m) 1) 0 i ++ (x ++ seg (vA u (dO m)) (i + 1) (n - (i + 1)))) := fun x hx =>
      Sh_three (by omega) (fun j _ => vS_gd (by omega) j) hx (fun j _ _ => vA_gd u _ j)
    simp only [stI, stStep, gO_nil]
    by_cases h : dO m i = 4
    · rw [if_pos h]
      have hv : vS u (dO m) 1 i = [] := if_pos h
      have ha : vA u (dO m) i = [(KK i, sideT u i 0 0)] := if_pos h
      rw [ha] at ih
      rw [hv, List.nil_append, ← (kept_len u m i).1]
      exact ih.app (.one (.rem (sh _ (.inr ⟨_, side_val (by omega), rfl⟩)) (sh [] (.inl rfl))))
    · rw [if_neg h]
      have hv : vS u (dO m) 1 i = vA u (dO m) i := by unfold vS vA; rw [if_neg h, if_neg h]
      rw [hv]
      exact ih
theorem run_all (u : Ru) (m : Mk) {n : Nat} (hn : n ≤ 250) : RunX (baseT u n) (wantC u m n) (oursT u m n) := by
  unfold baseT oursT wantC
  rw [base_seg, ours_seg]
  have r1 := run_parts u m hn n (Nat.le_refl _)
  have r2 := run_gone u m hn n (Nat.le_refl _)
  rw [Nat.sub_self] at r1 r2
  simp only [seg, List.append_nil] at r1 r2
  refine (r1.app r2).app ?_
  have s1 : Sh (seg (vS u (dO m) 1) 0 n) := Sh_seg hn fun j _ => vS_gd (by omega) j
  have s2 := (seg_sh hn fun j _ => vS_gd (u := u) (w := dO m) (s := 1) (by omega) j).2
  have s3 : Sh (seg (vS u (dO m) 1) 0 n ++ [(sOurs, oneT)]) := Sh_snoc s1 (by omega) (seg_nokey (fun j _ _ => vS_gd (by omega) j) KK_ours) ours_ok .one
  have r := StX.ins (A := seg (vS u (dO m) 1) 0 n) (R := []) (k := sOurs) (y := oneT) (by simpa using s1) s3
  rw [List.append_nil, (kept_len u m n).1] at r
  exact .one r
end Go.Abs
namespace Go.Abs
theorem fieldM_away {k : ByteArray} {t : List Fl} : ∀ {A : List Fl}, k ∉ keysF A → fieldM k (A ++ t) = fieldM k t
  | [], _ => rfl
  | x :: A, h => by
    simp only [List.map_cons, List.mem_cons, not_or] at h
    simp only [List.cons_append, fieldM]
    rw [if_neg (fun e => h.1 e.symm), fieldM_away h.2]
theorem fieldM_mid {k : ByteArray} {v : T} {A R : List Fl} (h : k ∉ keysF A) : fieldM k (A ++ (k, v) :: R) = some v := by
  rw [fieldM_away h]; exact if_pos rfl
theorem fieldM_none {k : ByteArray} {A : List Fl} (h : k ∉ keysF A) : fieldM k A = none := by
  have := fieldM_away (t := []) h
  rwa [List.append_nil] at this
theorem seg_split (f : Nat → List Fl) {i n : Nat} (h : i < n) : seg f 0 n = seg f 0 i ++ (f i ++ seg f (i + 1) (n - (i + 1))) := by
  have e := seg_add f i 0 (n - i)
  rw [show i + (n - i) = n by omega, Nat.zero_add, seg_here f i n h] at e
  exact e
section
variable {f : Nat → List Fl} {n : Nat}
theorem look_some {i : Nat} {v : T} {t : List Fl} (hn : n ≤ 250) (hf : ∀ j, j < n → Gd j (f j)) (h : i < n) (e : f i = [(KK i, v)]) : fieldM (KK i) (seg f 0 n ++ t) = some v := by
  rw [seg_split f h, e, List.append_assoc]
  exact fieldM_mid (seg_away (fun j _ hj => hf j (by omega)) (by omega) (by omega) (.inr (by omega)))
theorem look_none {i : Nat} {t : List Fl} (hn : n ≤ 250) (hf : ∀ j, j < n → Gd j (f j)) (h : i < n) (e : f i = []) : fieldM (KK i) (seg f 0 n ++ t) = fieldM (KK i) t := by
  rw [seg_split f h, e, List.nil_append, List.append_assoc, fieldM_away (seg_away (fun j _ hj => hf j (by omega)) (by omega) (by omega) (.inr (by omega))), fieldM_away]
  exact seg_away (fun j _ hj => hf j (by omega)) (by omega) (by omega) (.inl (by omega))
theorem look_not {s : ByteArray} {t : List Fl} (hf : ∀ j, j < n → Gd j (f j)) (hs : ∀ j, KK j ≠ s) : fieldM s (seg f 0 n ++ t) = fieldM s t :=
  fieldM_away (seg_nokey (fun j _ hj => hf j (by omega)) hs)
end
theorem mp1_app (f : BtF) (p : List Stp) (b : List Fl) : ∀ (r r' : List Fl) (l : List Chg), mp1 f p b (r ++ r') l = mp1 f p b r' (mp1 f p b r l)
  | [], _, _ => rfl
  | x :: r, r', l => mp1_app f p b r r' _
theorem mp2_app (p : List Stp) (b : List Fl) : ∀ (r r' : List Fl) (i g : Nat) (l : List Chg), mp2 p b (r ++ r') i g l = mp2 p b r' (i + r.length) (mp2 p b r i g l).1 (mp2 p b r i g l).2
  | [], _, _, _, _ => rfl
  | x :: r, r', i, g, l => by
    simp only [List.cons_append, mp2, List.length_cons]
    split
    · rw [mp2_app p b r r', show i + 1 + r.length = i + (r.length + 1) by omega]
    · rw [mp2_app p b r r', show i + 1 + r.length = i + (r.length + 1) by omega]
theorem mp3_skip (p : List Stp) (a : List Fl) : ∀ (r r' : List Fl) (n : Nat) (l : List Chg), (∀ x ∈ r, (fieldM x.1 a).isSome = true) → mp3 p a (r ++ r') n l = mp3 p a r' n l
  | [], _, _, _, _ => rfl
  | x :: r, r', n, l, h => by
    simp only [List.cons_append, mp3]
    rw [if_pos (h x (List.mem_cons_self ..))]
    exact mp3_skip p a r r' n l fun y hy => h y (List.mem_cons_of_mem _ hy)
theorem Nm.same {a b : T} (ha : Nm a) (hb : Nm b) {d : Nat} : sameM (d + 1) a b = eqT a b := by
  obtain ⟨x, _, rfl⟩ := ha
  obtain ⟨y, _, rfl⟩ := hb
  exact same_num
theorem Nm.kind {a : T} (ha : Nm a) : ¬ a.kind = 7 := by
  obtain ⟨x, _, rfl⟩ := ha
  show ¬ (2 : Int) = 7
  omega
theorem btw_num {a b : T} (ha : Nm a) (hb : Nm b) {l : List Chg} (hl : l.length ≤ 4096) (q : List Stp) : btwM 1 l q a b = if eqT a b = true then l else l ++ [⟨1, q, 0, a, b⟩] := by
  simp only [btwM]
  rw [ha.same hb]
  by_cases h : eqT a b = true
  · rw [if_pos (.inl h), if_pos h]
  · rw [if_neg (by simp [h]; omega), if_neg h, if_neg (fun e => ha.kind e.1)]
theorem look_x (x y : T) : fieldM kx [(kx, x), (ky, y)] = some x := if_pos rfl
theorem look_y (x y : T) : fieldM ky [(kx, x), (ky, y)] = some y := fieldM_mid (A := [(kx, x)]) (by simp [Ne.symm kx_ky])
theorem btw_pair {i : Nat} {a b a' b' : T} (ha : Nm a) (hb : Nm b) (ha' : Nm a') (hb' : Nm b') {l : List Chg} (hl : l.length + 1 ≤ 4096) :
    btwM 2 l [stK (KK i)] (prT a b) (prT a' b') = (stPart i (ky, b) (ky, b') (stPart i (kx, a) (kx, a') (l, []))).1 := by
  have e : mapsM (btwM 1) l [stK (KK i)] (prT a b) (prT a' b') = btwM 1 (btwM 1 l [stK (KK i), stK kx] a a') [stK (KK i), stK ky] b b' := by
    have e1 : ∀ l, mp1 (btwM 1) [stK (KK i)] [(kx, a'), (ky, b')] [(kx, a), (ky, b)] l = btwM 1 (btwM 1 l [stK (KK i), stK kx] a a') [stK (KK i), stK ky] b b' := fun l => by
      simp only [mp1, look_x, look_y]; rfl
    have e2 : ∀ l, mp2 [stK (KK i)] [(kx, a'), (ky, b')] [(kx, a), (ky, b)] 0 0 l = (0, l) := fun l => by
      simp only [mp2, look_x, look_y]; rfl
    have e3 : ∀ n l, mp3 [stK (KK i)] [(kx, a), (ky, b)] [(kx, a'), (ky, b')] n l = l := fun n l => by
      simp only [mp3, look_x, look_y]; rfl
    show mp3 [stK (KK i)] [(kx, a), (ky, b)] [(kx, a'), (ky, b')] _ (mp2 [stK (KK i)] [(kx, a'), (ky, b')] [(kx, a), (ky, b)] 0 0 (mp1 (btwM 1) [stK (KK i)] [(kx, a'), (ky, b')] [(kx, a), (ky, b)] l)).2 = _
    rw [e3, e2, e1]
  have e0 : btwM 2 l [stK (KK i)] (prT a b) (prT a' b') = if sameM 1000 (prT a b) (prT a' b') = true ∨ 4096 < l.length then l else if (prT a b).kind = 7 ∧ (prT a' b').kind = 7 then mapsM (btwM 1) l [stK (KK i)] (prT a b) (prT a' b') else l ++ [⟨1, [stK (KK i)], 0, prT a b, prT a' b'⟩] := rfl
  rw [e0, if_pos (show (prT a b).kind = 7 ∧ (prT a' b').kind = 7 from ⟨rfl, rfl⟩), e, same_pair, ha.same ha', hb.same hb']
  have h1 := btw_num ha ha' (l := l) (by omega) [stK (KK i), stK kx]
  have h2 := btw_num hb hb' (l := btwM 1 l [stK (KK i), stK kx] a a') (by rw [h1]; split <;> (try simp only [List.length_append, List.length_cons, List.length_nil]) <;> omega) [stK (KK i), stK ky]
  rw [h2, h1]
  unfold stPart
  by_cases ea : eqT a a' = true
  · by_cases eb : eqT b b' = true
    · simp [ea, eb]
    · simp [ea, eb]; omega
  · by_cases eb : eqT b b' = true
    · simp [ea, eb]; omega
    · simp [ea, eb]; omega
theorem diff_parts (u : Ru) (m : Mk) {n : Nat} (hn : n ≤ 250) : ∀ i, i ≤ n → mp1 (btwM 2) [] (seg (vS u (dO m) 1) 0 n ++ [(sOurs, oneT)]) (seg (vB u) 0 i) [] = (stI u m i).parts
  | 0, _ => rfl
  | i + 1, hi => by
    have ih := diff_parts u m hn i (by omega)
    have hl := (stI_len u m i).1
    rw [seg_snoc, Nat.zero_add, mp1_app, ih]
    simp only [vB, mp1]
    simp only [stI, stStep, gO_nil]
    by_cases h : dO m i = 4
    · rw [if_pos h, look_none hn (fun j _ => vS_gd (by omega) j) (by omega) (if_pos h), fieldM_none (by simpa using KK_ours i)]
      rfl
    · rw [if_neg h, look_some hn (fun j _ => vS_gd (by omega) j) (by omega) (if_neg h), gO_val h]
      exact btw_pair (cX_nm (by omega)) (cY_nm (by omega)) (cX_nm (by omega)) (cY_nm (by omega)) (by omega)
theorem vB_len (u : Ru) : ∀ n, (seg (vB u) 0 n).length = n
  | 0 => rfl
  | n + 1 => by rw [seg_snoc, List.length_append, vB_len u n]; rfl
theorem diff_gone (u : Ru) (m : Mk) {n : Nat} (hn : n ≤ 250) (l : List Chg) : ∀ i, i ≤ n → mp2 [] (seg (vS u (dO m) 1) 0 n ++ [(sOurs, oneT)]) (seg (vB u) 0 i) 0 0 l = ((stI u m i).gone.length, l ++ (stI u m i).gone)
  | 0, _ => by simp [seg, mp2, stI]
  | i + 1, hi => by
    have ih := diff_gone u m hn l i (by omega)
    have hk := (kept_len u m i).2
    rw [seg_snoc, Nat.zero_add, mp2_app, ih, vB_len]
    simp only [vB, mp2]
    simp only [stI, stStep, gO_nil]
    by_cases h : dO m i = 4
    · rw [if_pos h, look_none hn (fun j _ => vS_gd (by omega) j) (by omega) (if_pos h), fieldM_none (by simpa using KK_ours i), show 0 + i - (stI u m i).gone.length = (stI u m i).kept by omega]
      simp only [List.length_append, List.length_cons, List.length_nil, List.append_assoc]
      rfl
    · rw [if_neg h, look_some hn (fun j _ => vS_gd (by omega) j) (by omega) (if_neg h)]
      rfl
theorem base_not_ours (u : Ru) (n : Nat) : sOurs ∉ keysF (seg (vB u) 0 n) := seg_nokey (fun j _ _ => vB_gd u j) KK_ours
theorem diff_all (u : Ru) (m : Mk) {n : Nat} (hn : n ≤ 250) : btwM 3 [] [] (baseT u n) (oursT u m n) = wantC u m n := by
  have hs : sameM 1000 (baseT u n) (oursT u m n) = false := same_not' (k := sOurs) (by show sOurs ∉ keysF (verF (gB u) n); rw [base_seg]; exact base_not_ours u n) (by show sOurs ∈ keysF (_ ++ _); simp)
  have e : btwM 3 [] [] (baseT u n) (oursT u m n) = mapsM (btwM 2) [] [] (baseT u n) (oursT u m n) := by
    show (if sameM 1000 (baseT u n) (oursT u m n) = true ∨ 4096 < ([] : List Chg).length then [] else _) = _
    rw [hs, if_neg (by simp)]
    exact if_pos ⟨rfl, rfl⟩
  rw [e]
  have ef : (baseT u n).fields = seg (vB u) 0 n := base_seg u n
  have eo : (oursT u m n).fields = seg (vS u (dO m) 1) 0 n ++ [(sOurs, oneT)] := by show verF (gO u m) n ++ _ = _; rw [ours_seg]
  unfold mapsM
  rw [ef, eo, diff_parts u m hn n (Nat.le_refl _), diff_gone u m hn _ n (Nat.le_refl _), vB_len]
  have hk := (kept_len u m n).2
  rw [mp3_skip, show n - (stI u m n).gone.length = (stI u m n).kept by omega]
  · simp only [mp3]
    rw [fieldM_none (base_not_ours u n)]
    rfl
  · intro x hx
    obtain ⟨j, h1, h2, h3, _⟩ := seg_keys (i := 0) (fun j _ _ => vS_gd (u := u) (w := dO m) (s := 1) (by omega) j) hx
    have := look_some (f := vB u) (t := []) hn (fun j _ => vB_gd u j) (show j < n by omega) rfl
    rw [List.append_nil] at this
    rw [h3, this]; rfl
end Go.Abs
namespace Go.Abs
noncomputable def prt (a b a' b' : T) : List Fl := (if eqT a a' = true then [] else [(kx, a')]) ++ (if eqT b b' = true then [] else [(ky, b')])
theorem stPart_prt {i : Nat} {a b a' b' : T} {l : List Chg} : (stPart i (ky, b) (ky, b') (stPart i (kx, a) (kx, a') (l, []))).2 = prt a b a' b' := by
  unfold stPart prt
  by_cases h1 : eqT a a' = true
  · by_cases h2 : eqT b b' = true
    · simp [h1, h2]
    · simp [h1, h2]
  · by_cases h2 : eqT b b' = true
    · simp [h1, h2]
    · simp [h1, h2]
theorem prt_len {a b a' b' : T} : (prt a b a' b').length = 0 ↔ (eqT a a' && eqT b b') = true := by
  unfold prt
  by_cases h1 : eqT a a' = true
  · by_cases h2 : eqT b b' = true
    · simp [h1, h2]
    · simp [h1, h2]
  · simp [h1]
theorem dl1_app (bf : List Fl) : ∀ (r r' out : List Fl), dl1 bf (r ++ r') out = dl1 bf r' (dl1 bf r out)
  | [], _, _ => rfl
  | _ :: r, r', _ => dl1_app bf r r' _
theorem dl2_app (f : T → T → T) (af : List Fl) : ∀ (r r' out : List Fl), dl2 f af (r ++ r') out = dl2 f af r' (dl2 f af r out)
  | [], _, _ => rfl
  | _ :: r, r', _ => dl2_app f af r r' _
theorem delta_num {d : Nat} {a b : T} (hb : ¬ b.kind = 7) : deltaM (d + 1) a b = b := if_neg hb
theorem delta_pair {a b a' b' : T} (ha : Nm a) (hb : Nm b) (ha' : Nm a') (hb' : Nm b') : deltaM 2 (prT a b) (prT a' b') = T.map (prt a b a' b') := by
  have e1 : dl1 [(kx, a'), (ky, b')] [(kx, a), (ky, b)] [] = [] := by simp only [dl1, look_x, look_y]; rfl
  have e2 : dl2 (deltaM 1) [(kx, a), (ky, b)] [(kx, a'), (ky, b')] [] = prt a b a' b' := by
    simp only [dl2, look_x, look_y, Option.getD_some, ha.same ha', hb.same hb', delta_num ha'.kind, delta_num hb'.kind]
    unfold prt
    by_cases h1 : eqT a a' = true
    · by_cases h2 : eqT b b' = true
      · simp [h1, h2]
      · simp [h1, h2]
    · by_cases h2 : eqT b b' = true
      · simp [h1, h2]
      · simp [h1, h2]
  show T.map (dl2 (deltaM 1) [(kx, a), (ky, b)] [(kx, a'), (ky, b')] (dl1 [(kx, a'), (ky, b')] [(kx, a), (ky, b)] [])) = _
  rw [e1, e2]
theorem delta_less (u : Ru) (m : Mk) {n : Nat} (hn : n ≤ 250) : ∀ i, i ≤ n → dl1 (seg (vS u (dO m) 1) 0 n ++ [(sOurs, oneT)]) (seg (vB u) 0 i) [] = (stI u m i).less
  | 0, _ => rfl
  | i + 1, hi => by
    have ih := delta_less u m hn i (by omega)
    rw [seg_snoc, Nat.zero_add, dl1_app, ih]
    simp only [vB, dl1]
    simp only [stI, stStep, gO_nil]
    by_cases h : dO m i = 4
    · rw [if_pos h, look_none hn (fun j _ => vS_gd (by omega) j) (by omega) (if_pos h), fieldM_none (by simpa using KK_ours i)]
      rfl
    · rw [if_neg h, look_some hn (fun j _ => vS_gd (by omega) j) (by omega) (if_neg h)]
      rfl
theorem look_base (u : Ru) {i n : Nat} (hn : n ≤ 250) (h : i < n) : fieldM (KK i) (seg (vB u) 0 n) = some (sideT u i 0 0) := by
  have := look_some (f := vB u) (t := []) hn (fun j _ => vB_gd u j) h rfl
  rwa [List.append_nil] at this
noncomputable abbrev prtI (u : Ru) (m : Mk) (i : Nat) : List Fl := prt (cX u i 0 0) (cY u i 0 0) (cX u i 1 (dO m i)) (cY u i 1 (dO m i))
theorem st_more (u : Ru) (m : Mk) (i : Nat) : (stI u m (i + 1)).more = if dO m i = 4 then (stI u m i).more else if (prtI u m i).length = 0 then (stI u m i).more else (stI u m i).more ++ [(KK i, T.map (prtI u m i))] := by
  simp only [stI, stStep, gO_nil]
  by_cases h : dO m i = 4
  · rw [if_pos h, if_pos h]
  · rw [if_neg h, if_neg h]
    simp only [gO_val h]
    have e := stPart_prt (i := i) (a := cX u i 0 0) (b := cY u i 0 0) (a' := cX u i 1 (dO m i)) (b' := cY u i 1 (dO m i)) (l := (stI u m i).parts)
    show (if (stPart i (ky, cY u i 0 0) (ky, cY u i 1 (dO m i)) (stPart i (kx, cX u i 0 0) (kx, cX u i 1 (dO m i)) ((stI u m i).parts, []))).2.length = 0 then _ else _ ++ [(KK i, T.map (stPart i (ky, cY u i 0 0) (ky, cY u i 1 (dO m i)) (stPart i (kx, cX u i 0 0) (kx, cX u i 1 (dO m i)) ((stI u m i).parts, []))).2)]) = _
    rw [e]
theorem st_less (u : Ru) (m : Mk) (i : Nat) : (stI u m (i + 1)).less = if dO m i = 4 then (stI u m i).less ++ [(KK i, T.nul)] else (stI u m i).less := by
  simp only [stI, stStep, gO_nil]
  by_cases h : dO m i = 4
  · rw [if_pos h, if_pos h]
  · rw [if_neg h, if_neg h]
theorem delta_more (u : Ru) (m : Mk) {n : Nat} (hn : n ≤ 250) (out : List Fl) : ∀ i, i ≤ n → dl2 (deltaM 2) (seg (vB u) 0 n) (seg (vS u (dO m) 1) 0 i) out = out ++ (stI u m i).more
  | 0, _ => by simp [seg, dl2, stI]
  | i + 1, hi => by
    have ih := delta_more u m hn out i (by omega)
    rw [seg_snoc, Nat.zero_add, dl2_app, ih, st_more]
    by_cases h : dO m i = 4
    · simp only [vS, if_pos h, dl2]
    · simp only [vS, if_neg h, dl2]
      rw [look_base u hn (by omega)]
      simp only [Option.getD_some, Option.isSome_some, true_and]
      rw [sideT_eq, sideT_eq, same_pair, (cX_nm (by omega)).same (cX_nm (by omega)), (cY_nm (by omega)).same (cY_nm (by omega)), delta_pair (cX_nm (by omega)) (cY_nm (by omega)) (cX_nm (by omega)) (cY_nm (by omega))]
      by_cases hp : (prtI u m i).length = 0
      · rw [if_pos hp, if_pos (prt_len.1 hp)]
      · rw [if_neg hp, if_neg (fun e => hp (prt_len.2 e)), List.append_assoc]
theorem delta_all (u : Ru) (m : Mk) {n : Nat} (hn : n ≤ 250) : deltaM 3 (baseT u n) (oursT u m n) = overT u m n := by
  have ef : (baseT u n).fields = seg (vB u) 0 n := base_seg u n
  have eo : (oursT u m n).fields = seg (vS u (dO m) 1) 0 n ++ [(sOurs, oneT)] := by show verF (gO u m) n ++ _ = _; rw [ours_seg]
  show T.map (dl2 (deltaM 2) (baseT u n).fields (oursT u m n).fields (dl1 (oursT u m n).fields (baseT u n).fields [])) = _
  rw [ef, eo, delta_less u m hn n (Nat.le_refl _), dl2_app, delta_more u m hn _ n (Nat.le_refl _)]
  simp only [dl2]
  rw [fieldM_none (base_not_ours u n)]
  rfl
theorem ok_map {d : Nat} {fs : List Fl} (hl : fs.length ≤ 100000) (h : ∀ p ∈ fs, T.ok d p.2) : T.ok (d + 1) (T.map fs) := ⟨by simp [T.map, T.bytes], by simp [T.map, T.list], hl, by simp [T.map, T.list], h⟩
theorem Nm.tok {a : T} (h : Nm a) (d : Nat) : T.ok (d + 1) a := T.ok_le (vd_ok (h.vd 0)) (by omega)
theorem Val.tok {a : T} (h : Val a) (d : Nat) : T.ok (d + 2) a := T.ok_le (vd_ok (h.vd 0)) (by omega)
theorem prt_mem {a b a' b' : T} (ha : Nm a') (hb : Nm b') : (prt a b a' b').length ≤ 2 ∧ ∀ p ∈ prt a b a' b', Nm p.2 := by
  unfold prt
  by_cases h1 : eqT a a' = true
  · by_cases h2 : eqT b b' = true
    · simp [h1, h2]
    · simp [h1, h2, hb]
  · by_cases h2 : eqT b b' = true
    · simp [h1, h2, ha]
    · simp [h1, h2, ha, hb]
theorem less_ok (u : Ru) (m : Mk) : ∀ i, ∀ p ∈ (stI u m i).less, T.ok 3 p.2
  | 0 => by simp [stI]
  | i + 1 => by
    rw [st_less]
    split
    · intro p hp
      rcases List.mem_append.1 hp with hp | hp
      · exact less_ok u m i p hp
      · simp only [List.mem_singleton] at hp
        subst hp; exact nul_ok 2
    · exact less_ok u m i
theorem more_ok (u : Ru) (m : Mk) : ∀ i, ∀ p ∈ (stI u m i).more, T.ok 3 p.2
  | 0 => by simp [stI]
  | i + 1 => by
    rw [st_more]
    split
    · exact more_ok u m i
    · split
      · exact more_ok u m i
      · intro p hp
        rcases List.mem_append.1 hp with hp | hp
        · exact more_ok u m i p hp
        · simp only [List.mem_singleton] at hp
          subst hp
          have h := prt_mem (a := cX u i 0 0) (b := cY u i 0 0) (a' := cX u i 1 (dO m i)) (b' := cY u i 1 (dO m i)) (cX_nm (by omega)) (cY_nm (by omega))
          exact ok_map (d := 2) (by have h9 : (prtI u m i).length ≤ 2 := h.1; omega) fun q hq => (h.2 q hq).tok 1
theorem over_ok (u : Ru) (m : Mk) {n : Nat} (hn : n ≤ 250) : T.ok 4 (overT u m n) := by
  have h := stI_len u m n
  refine ok_map (by simp; omega) fun p hp => ?_
  rcases List.mem_append.1 hp with hp | hp
  · rcases List.mem_append.1 hp with hp | hp
    · exact less_ok u m n p hp
    · exact more_ok u m n p hp
  · simp only [List.mem_singleton] at hp
    subst hp; exact Val.one.tok 1
theorem Sh.tok {fs : List Fl} (h : Sh fs) (d : Nat) : T.ok (d + 3) (T.map fs) := ok_map (by have := h.2.1; omega) fun p hp => (h.2.2 p hp).2.tok d
theorem base_sh (u : Ru) {n : Nat} (hn : n ≤ 250) : Sh (seg (vB u) 0 n) := Sh_seg hn fun j _ => vB_gd u j
theorem side_sh (u : Ru) (w : Nat → Nat) {s : Nat} (hs : s ≤ 2) {k : ByteArray} (hk : ∀ j, KK j ≠ k) (ho : kOK k) {n : Nat} (hn : n ≤ 250) : Sh (seg (vS u w s) 0 n ++ [(k, oneT)]) := by
  have s2 := (seg_sh hn fun j _ => vS_gd (u := u) (w := w) (s := s) hs j).2
  exact Sh_snoc (Sh_seg hn fun j _ => vS_gd hs j) (by omega) (seg_nokey (fun j _ _ => vS_gd hs j) hk) ho .one
theorem base_eq (u : Ru) (n : Nat) : baseT u n = T.map (seg (vB u) 0 n) := by unfold baseT; rw [base_seg]
theorem ours_eq (u : Ru) (m : Mk) (n : Nat) : oursT u m n = T.map (seg (vS u (dO m) 1) 0 n ++ [(sOurs, oneT)]) := by unfold oursT; rw [ours_seg]
theorem other_eq (u : Ru) (m : Mk) (n : Nat) : otherT u m n = T.map (seg (vS u (dX m) 2) 0 n ++ [(sOther, oneT)]) := by unfold otherT; rw [other_seg]
theorem okDl_num {d : Nat} {a b : T} (ha : a.fit) (hb : b.fit) (h : ¬ b.kind = 7) : okDl (d + 1) a b := ⟨ha, hb, fun e => absurd e h⟩
theorem Nm.fit' {a : T} (h : Nm a) : a.fit := h.tok 999
theorem Nm.kind0 {a : T} (h : Nm a) : a.kind ≠ 0 := by obtain ⟨x, _, rfl⟩ := h; show (2 : Int) ≠ 0; omega
theorem okDl_all (u : Ru) (m : Mk) {n : Nat} (hn : n ≤ 250) : okDl 3 (baseT u n) (oursT u m n) := by
  rw [base_eq, ours_eq]
  refine ⟨(base_sh u hn).tok 997, (side_sh u _ (by omega) KK_ours ours_ok hn).tok 997, fun _ => ⟨rfl, fun y hy => ?_⟩⟩
  rcases List.mem_append.1 (show y ∈ _ ++ _ from hy) with hy | hy
  · obtain ⟨j, h1, h2, h3, h4⟩ := seg_keys (i := 0) (fun j _ _ => vS_gd (u := u) (w := dO m) (s := 1) (by omega) j) hy
    rw [h3]
    show y.2.kind ≠ 0 ∧ okDl 2 ((fieldM (KK j) (seg (vB u) 0 n)).getD T.nul) y.2
    rw [look_base u hn (by omega)]
    rcases h4 with ⟨p, q, hp, hq, e⟩ | e
    · rw [e]
      refine ⟨show (7 : Int) ≠ 0 by omega, (side_val (by omega)).tok 998, (show Val (prT p q) from .inl ⟨p, q, hp, hq, rfl⟩).tok 998, fun _ => ⟨rfl, fun z hz => ?_⟩⟩
      have hz' : z = (kx, p) ∨ z = (ky, q) := by simpa [T.map, T.fields] using hz
      rcases hz' with rfl | rfl
      · refine ⟨hp.kind0, ?_⟩
        show okDl 1 ((fieldM kx [(kx, _), (ky, _)]).getD T.nul) p
        rw [look_x]
        exact okDl_num (cX_nm (by omega)).fit' hp.fit' hp.kind
      · refine ⟨hq.kind0, ?_⟩
        show okDl 1 ((fieldM ky [(kx, _), (ky, _)]).getD T.nul) q
        rw [look_y]
        exact okDl_num (cY_nm (by omega)).fit' hq.fit' hq.kind
    · rw [e]
      exact ⟨show (2 : Int) ≠ 0 by omega, okDl_num ((side_val (by omega)).tok 998) (Val.one.tok 998) (show ¬ (2 : Int) = 7 by omega)⟩
  · simp only [List.mem_singleton] at hy
    subst hy
    refine ⟨show (2 : Int) ≠ 0 by omega, ?_⟩
    show okDl 2 ((fieldM sOurs (seg (vB u) 0 n)).getD T.nul) oneT
    rw [fieldM_none (base_not_ours u n)]
    exact okDl_num (nul_ok 999) (Val.one.tok 998) (show ¬ (2 : Int) = 7 by omega)
end Go.Abs
namespace Go.Abs
inductive OvR (f : Option T → T → T) (ok : Option T → T → Prop) : List Fl → List Fl → List Fl → Prop
  | nil {fs : List Fl} (h : fitF fs) : OvR f ok fs [] fs
  | cons {fs fs' : List Fl} {g : Fl} {r : List Fl} (h : fitF fs) (hk : g.2.kind ≠ 0 → ok (fieldM g.1 fs) g.2) (hr : OvR f ok (stepOv f fs g) r fs') : OvR f ok fs (g :: r) fs'
section
variable {f : Option T → T → T} {okk : Option T → T → Prop}
theorem OvR.ok {fs l fs' : List Fl} (h : OvR f okk fs l fs') : okF f okk fs l ∧ ovF f fs l = fs' := by
  induction h with
  | nil h => exact ⟨h, rfl⟩
  | cons h hk _ ih => exact ⟨⟨h, hk, ih.1⟩, ih.2⟩
theorem OvR.app {fs l fs' m fs2 : List Fl} (h : OvR f okk fs l fs') (h' : OvR f okk fs' m fs2) : OvR f okk fs (l ++ m) fs2 := by
  induction h with
  | nil _ => exact h'
  | cons h hk _ ih => exact .cons h hk (ih h')
theorem OvR.one {fs fs' : List Fl} {g : Fl} (h : fitF fs) (hk : g.2.kind ≠ 0 → okk (fieldM g.1 fs) g.2) (e : stepOv f fs g = fs') (h' : fitF fs') : OvR f okk fs [g] fs' := .cons h hk (by rw [e]; exact .nil h')
end
theorem Sh.fitF {fs : List Fl} (h : Sh fs) : fitF fs := ⟨by have := h.2.1; omega, fun p hp => (h.2.2 p hp).2.tok 997⟩
theorem withoutM_away {k : ByteArray} : ∀ {A : List Fl}, k ∉ keysF A → withoutM k A = A
  | [], _ => rfl
  | x :: A, h => by
    simp only [List.map_cons, List.mem_cons, not_or] at h
    simp only [withoutM]
    rw [if_neg (fun e => h.1 e.symm), withoutM_away h.2]
theorem withoutM_app (k : ByteArray) : ∀ A R : List Fl, withoutM k (A ++ R) = withoutM k A ++ withoutM k R
  | [], _ => rfl
  | x :: A, R => by
    simp only [List.cons_append, withoutM, withoutM_app k A R]
    split <;> rfl
theorem withoutM_mid {k : ByteArray} {v : T} {A R : List Fl} (h : k ∉ keysF A) (h' : k ∉ keysF R) : withoutM k (A ++ (k, v) :: R) = A ++ R := by
  rw [withoutM_app, withoutM_away h]
  have e : withoutM k ((k, v) :: R) = withoutM k R := if_pos rfl
  rw [e, withoutM_away h']
theorem putOv_mid {k : ByteArray} {v x : T} {A R : List Fl} (h : k ∉ keysF A) (h' : k ∉ keysF R) : putOv (A ++ (k, v) :: R) k x = A ++ (k, x) :: R := by
  unfold putOv
  rw [fieldM_mid h, if_pos (show (some v).isSome = true from rfl), List.map_append, List.map_cons, map_away (k := k) (fun y hy => if_neg hy) h, map_away (k := k) (fun y hy => if_neg hy) h', if_pos rfl]
theorem putOv_new {k : ByteArray} {x : T} {A : List Fl} (h : k ∉ keysF A) : putOv A k x = A ++ [(k, x)] := by
  unfold putOv
  rw [fieldM_none h, if_neg (by simp)]
theorem step_put {f : Option T → T → T} {fs : List Fl} {k : ByteArray} {v : T} (h : v.kind ≠ 0) : stepOv f fs (k, v) = putOv fs k (f (fieldM k fs) v) := if_neg h
theorem over_num {d : Nat} {b : Option T} {v : T} (h : ¬ v.kind = 7) : overM (d + 1) b v = v := if_neg h
theorem okOv_num {d : Nat} {b : Option T} {v : T} (hf : v.fit) (h : ¬ v.kind = 7) : okOv (d + 1) b v := ⟨hf, fun e => absurd e h⟩
theorem fit_two {x y : T} (hx : Nm x) (hy : Nm y) : fitF [(kx, x), (ky, y)] := ⟨by simp, fun p hp => by
  simp only [List.mem_cons, List.not_mem_nil, or_false] at hp
  rcases hp with rfl | rfl
  · exact hx.tok 998
  · exact hy.tok 998⟩
theorem ov_pair {a b a' b' : T} (ha : Nm a) (hb : Nm b) (ha' : Nm a') (hb' : Nm b') : OvR (overM 1) (okOv 1) [(kx, a), (ky, b)] (prt a b a' b') [(kx, a'), (ky, b')] := by
  unfold prt
  have r1 : OvR (overM 1) (okOv 1) [(kx, a), (ky, b)] (if eqT a a' = true then [] else [(kx, a')]) [(kx, a'), (ky, b)] := by
    by_cases h : eqT a a' = true
    · rw [if_pos h, eqT_iff.1 h]; exact .nil (fit_two ha' hb)
    · rw [if_neg h]
      refine .one (fit_two ha hb) (fun _ => okOv_num (ha'.tok 999) ha'.kind) ?_ (fit_two ha' hb)
      rw [step_put ha'.kind0, over_num ha'.kind]
      exact putOv_mid (A := []) (R := [(ky, b)]) (by simp) (by simp [kx_ky])
  have r2 : OvR (overM 1) (okOv 1) [(kx, a'), (ky, b)] (if eqT b b' = true then [] else [(ky, b')]) [(kx, a'), (ky, b')] := by
    by_cases h : eqT b b' = true
    · rw [if_pos h, eqT_iff.1 h]; exact .nil (fit_two ha' hb')
    · rw [if_neg h]
      refine .one (fit_two ha' hb) (fun _ => okOv_num (hb'.tok 999) hb'.kind) ?_ (fit_two ha' hb')
      rw [step_put hb'.kind0, over_num hb'.kind]
      exact putOv_mid (A := [(kx, a')]) (R := []) (by simp [Ne.symm kx_ky]) (by simp)
  exact r1.app r2
def vL (u : Ru) (w : Nat → Nat) (i : Nat) : List Fl := if w i = 4 then [] else [(KK i, sideT u i 0 0)]
theorem vL_gd (u : Ru) (w : Nat → Nat) (i : Nat) : Gd i (vL u w i) := by
  unfold vL
  split
  · exact .inl rfl
  · exact .inr ⟨_, side_val (by omega), rfl⟩
theorem ov_less (u : Ru) (m : Mk) {n : Nat} (hn : n ≤ 250) : ∀ i, i ≤ n → OvR (overM 2) (okOv 2) (seg (vB u) 0 n) (stI u m i).less (seg (vL u (dO m)) 0 i ++ seg (vB u) i (n - i))
  | 0, _ => by simp only [seg, List.nil_append, Nat.sub_zero]; exact .nil (base_sh u hn).fitF
  | i + 1, hi => by
    have ih := ov_less u m hn i (by omega)
    rw [seg_here _ _ _ (show i < n by omega)] at ih
    rw [seg_snoc, Nat.zero_add, List.append_assoc, st_less]
    have sh : ∀ x, Gd i x → Sh (seg (vL u (dO m)) 0 i ++ (x ++ seg (vB u) (i + 1) (n - (i + 1)))) := fun x hx => Sh_three (by omega) (fun j _ => vL_gd u _ j) hx (fun j _ _ => vB_gd u j)
    by_cases h : dO m i = 4
    · rw [if_pos h, show vL u (dO m) i = [] from if_pos h]
      have s1 := sh _ (vB_gd u i)
      obtain ⟨_, _, a3, a4, _⟩ := Sh.at s1
      exact ih.app (.one s1.fitF (fun e => absurd rfl e) (withoutM_mid a3 a4) (sh [] (.inl rfl)).fitF)
    · rw [if_neg h, show vL u (dO m) i = vB u i from if_neg h]
      exact ih
theorem ov_more (u : Ru) (m : Mk) {n : Nat} (hn : n ≤ 250) : ∀ i, i ≤ n → OvR (overM 2) (okOv 2) (seg (vL u (dO m)) 0 n) (stI u m i).more (seg (vS u (dO m) 1) 0 i ++ seg (vL u (dO m)) i (n - i))
  | 0, _ => by simp only [seg, List.nil_append, Nat.sub_zero]; exact .nil (Sh_seg hn fun j _ => vL_gd u _ j).fitF
  | i + 1, hi => by
    have ih := ov_more u m hn i (by omega)
    rw [seg_here _ _ _ (show i < n by omega)] at ih
    rw [seg_snoc, Nat.zero_add, List.append_assoc, st_more]
    have sh : ∀ x, Gd i x → Sh (seg (vS u (dO m) 1) 0 i ++ (x ++ seg (vL u (dO m)) (i + 1) (n - (i + 1)))) := fun x hx => Sh_three (by omega) (fun j _ => vS_gd (by omega) j) hx (fun j _ _ => vL_gd u _ j)
    by_cases h : dO m i = 4
    · rw [if_pos h, show vS u (dO m) 1 i = vL u (dO m) i by unfold vS vL; rw [if_pos h, if_pos h]]
      exact ih
    · rw [if_neg h, show vS u (dO m) 1 i = [(KK i, sideT u i 1 (dO m i))] from if_neg h]
      rw [show vL u (dO m) i = [(KK i, sideT u i 0 0)] from if_neg h] at ih
      have np := ov_pair (a := cX u i 0 0) (b := cY u i 0 0) (a' := cX u i 1 (dO m i)) (b' := cY u i 1 (dO m i)) (cX_nm (by omega)) (cY_nm (by omega)) (cX_nm (by omega)) (cY_nm (by omega))
      by_cases hp : (prtI u m i).length = 0
      · rw [if_pos hp]
        have e := np.ok.2
        rw [show prt (cX u i 0 0) (cY u i 0 0) (cX u i 1 (dO m i)) (cY u i 1 (dO m i)) = [] from List.length_eq_zero_iff.1 hp] at e
        have e2 : sideT u i 0 0 = sideT u i 1 (dO m i) := congrArg T.map e
        rw [← e2]
        exact ih
      · rw [if_neg hp]
        have s1 := sh [(KK i, sideT u i 0 0)] (.inr ⟨_, side_val (by omega), rfl⟩)
        have s2 := sh [(KK i, sideT u i 1 (dO m i))] (.inr ⟨_, side_val (by omega), rfl⟩)
        obtain ⟨_, _, a3, a4, _⟩ := Sh.at s1
        have fl : fieldM (KK i) (seg (vS u (dO m) 1) 0 i ++ (KK i, sideT u i 0 0) :: seg (vL u (dO m)) (i + 1) (n - (i + 1))) = some (sideT u i 0 0) := fieldM_mid a3
        have hm := prt_mem (a := cX u i 0 0) (b := cY u i 0 0) (a' := cX u i 1 (dO m i)) (b' := cY u i 1 (dO m i)) (cX_nm (by omega)) (cY_nm (by omega))
        refine ih.app (.one s1.fitF (fun _ => ?_) ?_ s2.fitF)
        · show okOv 2 (fieldM (KK i) (seg (vS u (dO m) 1) 0 i ++ (KK i, sideT u i 0 0) :: seg (vL u (dO m)) (i + 1) (n - (i + 1)))) (T.map (prtI u m i))
          rw [fl]
          exact ⟨ok_map (d := 999) (by have h9 : (prtI u m i).length ≤ 2 := hm.1; omega) fun q hq => (hm.2 q hq).tok 998, fun _ => ⟨_, rfl, rfl, (side_val (by omega)).tok 998, np.ok.1⟩⟩
        · show stepOv (overM 2) (seg (vS u (dO m) 1) 0 i ++ (KK i, sideT u i 0 0) :: seg (vL u (dO m)) (i + 1) (n - (i + 1))) (KK i, T.map (prtI u m i)) = _
          rw [step_put (v := T.map (prtI u m i)) (show (7 : Int) ≠ 0 by omega), fl]
          have e : overM 2 (some (sideT u i 0 0)) (T.map (prtI u m i)) = sideT u i 1 (dO m i) := congrArg T.map np.ok.2
          rw [e]
          exact putOv_mid a3 a4
theorem ov_all (u : Ru) (m : Mk) {n : Nat} (hn : n ≤ 250) : okOv 3 (some (baseT u n)) (overT u m n) ∧ overM 3 (some (baseT u n)) (overT u m n) = oursT u m n := by
  rw [base_eq, ours_eq]
  have r1 := ov_less u m hn n (Nat.le_refl _)
  have r2 := ov_more u m hn n (Nat.le_refl _)
  rw [Nat.sub_self] at r1 r2
  simp only [seg, List.append_nil] at r1 r2
  have hk : sOurs ∉ keysF (seg (vS u (dO m) 1) 0 n) := seg_nokey (fun j _ _ => vS_gd (by omega) j) KK_ours
  have r3 : OvR (overM 2) (okOv 2) (seg (vS u (dO m) 1) 0 n) [(sOurs, oneT)] (seg (vS u (dO m) 1) 0 n ++ [(sOurs, oneT)]) := by
    refine .one (Sh_seg hn fun j _ => vS_gd (by omega) j).fitF (fun _ => okOv_num (Val.one.tok 998) (show ¬ (2 : Int) = 7 by omega)) ?_ (side_sh u _ (by omega) KK_ours ours_ok hn).fitF
    rw [step_put (v := oneT) (show (2 : Int) ≠ 0 by omega), over_num (v := oneT) (show ¬ (2 : Int) = 7 by omega)]
    exact putOv_new hk
  have r := ((r1.app r2).app r3).ok
  exact ⟨⟨T.ok_le (over_ok u m hn) (by omega), fun _ => ⟨_, rfl, rfl, (base_sh u hn).tok 997, r.1⟩⟩, congrArg T.map r.2⟩
end Go.Abs
namespace Go.Abs
theorem Nm.eqO {a b : T} (ha : Nm a) (hb : Nm b) : eqO (some a) (some b) = eqT a b := ha.same hb
theorem settle_one {tk : List Bool} {p : List Stp} {b : List T} {o t : T} {fd : List Cft} : settleM tk ⟨p, b, [o], [t]⟩ fd = [if fd.length < tk.length ∧ nthG tk fd.length = true then t else o] := by
  unfold settleM
  split
  · rfl
  · rfl
theorem at_num {tk : List Bool} {i : Nat} {k : ByteArray} {b o t : T} (hb : Nm b) (ho : Nm o) (ht : Nm t) (fd : List Cft) :
    atM tk 1 [stK (KK i), stK k] (some b) (some o) (some t) fd = (some (stepJ tk i k b o t fd).1, (stepJ tk i k b o t fd).2) := by
  simp only [atM, stepJ]
  rw [ho.eqO ht, ht.eqO hb, ho.eqO hb]
  by_cases h1 : eqT o t = true ∨ eqT t b = true
  · rw [if_pos h1, if_pos h1]
  · rw [if_neg h1, if_neg h1]
    by_cases h2 : eqT o b = true
    · rw [if_pos h2, if_pos h2]
    · rw [if_neg h2, if_neg h2, if_neg (fun e => ho.kind e.1), settle_one]
      unfold cftM
      simp only [optL]
      split <;> rfl
theorem keys_pair (a b c d e f : T) : keysM (prT a b) (prT c d) (prT e f) = [kx, ky] := by
  have e1 : preK [prT c d, prT e f, prT a b] 3 = [kx, ky, kx, ky, kx, ky] := rfl
  unfold keysM
  rw [e1]
  simp [dedO, dedA, cnt, kx_ky, Ne.symm kx_ky]
theorem look_px (a b : T) : fieldM kx (prT a b).fields = some a := look_x a b
theorem look_py (a b : T) : fieldM ky (prT a b).fields = some b := look_y a b
theorem at_pair {tk : List Bool} {i : Nat} {b1 b2 o1 o2 t1 t2 : T} (hb1 : Nm b1) (hb2 : Nm b2) (ho1 : Nm o1) (ho2 : Nm o2) (ht1 : Nm t1) (ht2 : Nm t2) (fd : List Cft) :
    atM tk 2 [stK (KK i)] (some (prT b1 b2)) (some (prT o1 o2)) (some (prT t1 t2)) fd =
      (some (T.map [(kx, (stepJ tk i kx b1 o1 t1 fd).1), (ky, (stepJ tk i ky b2 o2 t2 (stepJ tk i kx b1 o1 t1 fd).2).1)]), (stepJ tk i ky b2 o2 t2 (stepJ tk i kx b1 o1 t1 fd).2).2) := by
  have e0 : atM tk 2 [stK (KK i)] (some (prT b1 b2)) (some (prT o1 o2)) (some (prT t1 t2)) fd =
    if eqO (some (prT o1 o2)) (some (prT t1 t2)) = true ∨ eqO (some (prT t1 t2)) (some (prT b1 b2)) = true then (some (prT o1 o2), fd)
    else if eqO (some (prT o1 o2)) (some (prT b1 b2)) = true then (some (prT t1 t2), fd)
    else if (prT o1 o2).kind = 7 ∧ (prT t1 t2).kind = 7 ∧ (prT b1 b2).kind = 7 then
        (some (T.map (foldK (atM tk 1) [stK (KK i)] (prT b1 b2) (prT o1 o2) (prT t1 t2) (keysM (prT b1 b2) (prT o1 o2) (prT t1 t2)) [] fd).1), (foldK (atM tk 1) [stK (KK i)] (prT b1 b2) (prT o1 o2) (prT t1 t2) (keysM (prT b1 b2) (prT o1 o2) (prT t1 t2)) [] fd).2)
      else cftM tk [stK (KK i)] (some (prT b1 b2)) (some (prT o1 o2)) (some (prT t1 t2)) fd := rfl
  have ep : ∀ a b c d : T, Nm a → Nm b → Nm c → Nm d → eqO (some (prT a b)) (some (prT c d)) = (eqT a c && eqT b d) := fun a b c d ha hb hc hd => by
    show sameM 1000 (prT a b) (prT c d) = _
    rw [same_pair, ha.same hc, hb.same hd]
  rw [e0, ep _ _ _ _ ho1 ho2 ht1 ht2, ep _ _ _ _ ht1 ht2 hb1 hb2, ep _ _ _ _ ho1 ho2 hb1 hb2]
  by_cases h1 : (eqT o1 t1 && eqT o2 t2) = true ∨ (eqT t1 b1 && eqT t2 b2) = true
  · rw [if_pos h1]
    simp only [Bool.and_eq_true] at h1
    have s1 : ∀ fd, stepJ tk i kx b1 o1 t1 fd = (o1, fd) := fun fd => if_pos (by rcases h1 with h | h; exact .inl h.1; exact .inr h.1)
    have s2 : ∀ fd, stepJ tk i ky b2 o2 t2 fd = (o2, fd) := fun fd => if_pos (by rcases h1 with h | h; exact .inl h.2; exact .inr h.2)
    rw [s1, s2]
  · rw [if_neg h1]
    by_cases h2 : (eqT o1 b1 && eqT o2 b2) = true
    · rw [if_pos h2]
      simp only [Bool.and_eq_true] at h2
      have st : ∀ (k : ByteArray) (b o t : T) (fd : List Cft), eqT o b = true → stepJ tk i k b o t fd = (t, fd) := fun k b o t fd h => by
        unfold stepJ
        have e := eqT_iff.1 h
        subst e
        by_cases h3 : eqT o t = true ∨ eqT t o = true
        · rw [if_pos h3]
          rcases h3 with h3 | h3
          · rw [eqT_iff.1 h3]
          · rw [eqT_iff.1 h3]
        · rw [if_neg h3, if_pos h]
      rw [st _ _ _ _ _ h2.1, st _ _ _ _ _ h2.2]
    · rw [if_neg h2, if_pos ⟨rfl, rfl, rfl⟩, keys_pair]
      simp only [foldK, look_px, look_py, List.cons_append, List.nil_append]
      rw [at_num hb1 ho1 ht1]
      simp only
      rw [at_num hb2 ho2 ht2]
      rfl
noncomputable def hdO (l : List T) : Option T := if l.length = 0 then none else some (nthT l 0)
theorem hdO_nil : hdO [] = none := rfl
def optV (u : Ru) (i s w : Nat) : Option T := if w = 4 then none else some (sideT u i s w)
theorem cX_same {u : Ru} {i s w : Nat} (h : w % 2 = 0) : cX u i s w = cX u i 0 0 := by
  have e : decide (((w % 2 : Nat) : Int) = 1) = false := decide_eq_false (by omega)
  show T.int (partF _ i s (decide (((w % 2 : Nat) : Int) = 1))) = _
  rw [e]; rfl
theorem cY_same {u : Ru} {i s w : Nat} (h : ¬ w / 2 = 1) : cY u i s w = cY u i 0 0 := by
  have e : decide (((w / 2 : Nat) : Int) = 1) = false := decide_eq_false (by omega)
  show T.int (partF _ i s (decide (((w / 2 : Nat) : Int) = 1))) = _
  rw [e]; rfl
theorem int_moved {v i s : Nat} (hv : v ≤ 999) (hs : s ≤ 2) : T.int (partF v i s true) ≠ T.int v := fun h => by
  have h1 : partF v i s true = v + 1000 + i % 2 * s := rfl
  have h2 : i % 2 * s ≤ 1 * 2 := Nat.mul_le_mul (by omega) hs
  have := int_inj (by omega) (by omega) h
  omega
theorem cX_moved {u : Ru} {i s w : Nat} (hs : s ≤ 2) (h : w % 2 = 1) : cX u i s w ≠ cX u i 0 0 := by
  have e : decide (((w % 2 : Nat) : Int) = 1) = true := decide_eq_true (by omega)
  show T.int (partF _ i s (decide (((w % 2 : Nat) : Int) = 1))) ≠ T.int (u.at i % 1000)
  rw [e]; exact int_moved (by omega) hs
theorem cY_moved {u : Ru} {i s w : Nat} (hs : s ≤ 2) (h : w / 2 = 1) : cY u i s w ≠ cY u i 0 0 := by
  have e : decide (((w / 2 : Nat) : Int) = 1) = true := decide_eq_true (by omega)
  show T.int (partF _ i s (decide (((w / 2 : Nat) : Int) = 1))) ≠ T.int (u.at i % 1000)
  rw [e]; exact int_moved (by omega) hs
theorem side_moved {u : Ru} {i s w : Nat} (hs : s ≤ 2) (hw : w ≤ 3) : sameM 1000 (sideT u i s w) (sideT u i 0 0) = decide (w = 0) := by
  rw [sideT_eq, sideT_eq, same_pair, (cX_nm hs).same (cX_nm (by omega)), (cY_nm hs).same (cY_nm (by omega))]
  by_cases h : w = 0
  · rw [cX_same (by omega), cY_same (by omega)]; simp [h]
  · have : w % 2 = 1 ∨ w / 2 = 1 := by omega
    rcases this with h1 | h1
    · rw [eqT_false (cX_moved hs h1)]; simp [h]
    · rw [eqT_false (cY_moved hs h1)]; simp [h]
theorem at_field {tk : List Bool} {u : Ru} {i o x : Nat} (ho : o ≤ 4) (hx : x ≤ 4) (fd : List Cft) :
    atM tk 2 [stK (KK i)] (some (sideT u i 0 0)) (optV u i 1 o) (optV u i 2 x) fd = (hdO (fieldJ tk u i o x fd).1, (fieldJ tk u i o x fd).2) := by
  by_cases h4 : o = 4
  · subst h4
    by_cases h5 : x = 4
    · subst h5
      have e : fieldJ tk u i 4 4 fd = ([], fd) := by unfold fieldJ; rw [if_pos (.inl rfl), if_pos (.inl rfl)]
      rw [e]; rfl
    · have e1 : optV u i 2 x = some (sideT u i 2 x) := if_neg h5
      have e2 : sideL u i 2 x = [sideT u i 2 x] := if_neg h5
      rw [e1]
      have e0 : atM tk 2 [stK (KK i)] (some (sideT u i 0 0)) (optV u i 1 4) (some (sideT u i 2 x)) fd =
        if False ∨ sameM 1000 (sideT u i 2 x) (sideT u i 0 0) = true then (none, fd) else cftM tk [stK (KK i)] (some (sideT u i 0 0)) none (some (sideT u i 2 x)) fd := by
        have : optV u i 1 4 = none := rfl
        rw [this]
        simp only [atM, eqO]
        simp
      rw [e0, side_moved (by omega) (by omega)]
      by_cases h6 : x = 0
      · rw [if_pos (.inr (decide_eq_true h6))]
        have e : fieldJ tk u i 4 x fd = ([], fd) := by unfold fieldJ; rw [if_pos (.inl rfl), if_pos (.inr (.inr h6))]
        rw [e]; rfl
      · rw [if_neg (by simp [h6])]
        unfold fieldJ
        rw [if_pos (.inl rfl), if_neg (by omega)]
        unfold cftM settleM
        simp only [e2, optL, show sideL u i 1 4 = [] from rfl, show sideL u i 0 0 = [sideT u i 0 0] from rfl]
        split
        · rfl
        · rfl
  · have e3 : optV u i 1 o = some (sideT u i 1 o) := if_neg h4
    have e4 : sideL u i 1 o = [sideT u i 1 o] := if_neg h4
    by_cases h5 : x = 4
    · subst h5
      rw [e3]
      have e0 : atM tk 2 [stK (KK i)] (some (sideT u i 0 0)) (some (sideT u i 1 o)) (optV u i 2 4) fd =
        if sameM 1000 (sideT u i 1 o) (sideT u i 0 0) = true then (none, fd) else cftM tk [stK (KK i)] (some (sideT u i 0 0)) (some (sideT u i 1 o)) none fd := by
        have : optV u i 2 4 = none := rfl
        rw [this]
        simp only [atM, eqO]
        exact if_neg (by simp)
      rw [e0, side_moved (by omega) (by omega)]
      by_cases h6 : o = 0
      · rw [if_pos (decide_eq_true h6)]
        have e : fieldJ tk u i o 4 fd = ([], fd) := by unfold fieldJ; rw [if_pos (.inr rfl), if_pos (.inr (.inl h6))]
        rw [e]; rfl
      · rw [if_neg (by simp [h6])]
        unfold fieldJ
        rw [if_pos (.inr rfl), if_neg (by omega)]
        unfold cftM settleM
        simp only [e4, optL, show sideL u i 2 4 = [] from rfl, show sideL u i 0 0 = [sideT u i 0 0] from rfl]
        split
        · rfl
        · rfl
    · have e1 : optV u i 2 x = some (sideT u i 2 x) := if_neg h5
      have e2 : sideL u i 2 x = [sideT u i 2 x] := if_neg h5
      rw [e1, e3, sideT_eq, sideT_eq, sideT_eq, at_pair (cX_nm (by omega)) (cY_nm (by omega)) (cX_nm (by omega)) (cY_nm (by omega)) (cX_nm (by omega)) (cY_nm (by omega))]
      unfold fieldJ
      rw [if_neg (by omega), e2, e4]
      rfl
end Go.Abs
