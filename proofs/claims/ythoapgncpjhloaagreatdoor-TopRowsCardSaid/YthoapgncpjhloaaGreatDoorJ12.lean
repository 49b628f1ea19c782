/- Part 12 of the proof that TopRows returns true for every input of its row (no condition beyond the row). -/
import Derived.Test.YthoapgncpjhloaaGreatDoorJ10
import Derived.Test.YthoapgncpjhloaaGreatDoorJ11
set_option linter.unusedVariables false
set_option linter.unusedSimpArgs false
set_option linter.unusedSectionVars false
set_option linter.all false
section
open Go.Proofs
set_option maxRecDepth 100000
namespace Go.Abs
def cfTa (g : Bool) : Cfg := { cfg0 with
  bd := [(1001, -1, 5), (1004, 0, 7)]
  sl := [(1000, at1 1004)]
  ct := [(34, [.agg (defsV :: aS (so 0) (ni 2))], lI 0), (158, [decN], lB true), (103, [setN, decN], lB g)] }
def cfTb (g : Bool) : Cfg := { cfg0 with
  bd := [(1005, loG g, hiG g)]
  sl := [(1002, at1 1005)]
  ct := [(34, [.agg (defsV :: bS)], lI 0), (105, [so 1002], ni 1005), (68, [so 1002], lB true)] }
def cfTt (x : List AV) : Cfg := { cfg0 with ct := [(34, [.agg (defsV :: x)], lI 0)] }
noncomputable def runT (cf : Cfg) (x y : List AV) (g : Bool) : Bool := okTop (topF cf [] Tryz.prog 100 33 [scN, .agg x, .agg y]) (.tup [lB g, lI 0])
theorem kT_a (g : Bool) : runT (cfTa g) (aS (so 0) (ni 2)) (vNum (so 1000) (ni 1001)) g = true := by cases g; kernel_rfl; kernel_rfl
theorem kT_b (g : Bool) : runT (cfTb g) bS (vText (so 1002)) g = true := by cases g; kernel_rfl; kernel_rfl
/-- the letters, and whether they are tags -/
def lets : List (Nat × Bool) := [(120, true), (121, true), (122, true), (113, false)]
theorem kT_t : (lets.all fun l => runT (cfTt tagS) tagS (vText (lS [l.1])) l.2) = true := by kernel_rfl
theorem kT_n : runT (cfTt noneS) noneS (vz 0) false = true := by kernel_rfl
abbrev vlT (db : List UInt8) (e : Int) (most : Nat) (da : List UInt8) (ea : Int) (b : List UInt8) : VL :=
  ⟨fun a => if a = 2 then e else if a = 1 then (most : Int) else if a = 1001 then ea else if a = 1004 then (da.length : Nat) else if a = 1005 then (b.length : Nat) else 0,
   fun a => if a = 0 then db else if a = 1000 then da else if a = 1002 then b else [], fun _ => false, fun _ => [], fun _ => .emp, fun _ _ _ => False⟩
section
variable {db : List UInt8} {e : Int} {most : Nat} {da : List UInt8} {ea : Int} {b : List UInt8}
theorem vlT_s0 (m : Nat) : @denA (vlT db e most da ea b) (m + 1) (so 0) = .lit (.string ⟨db.toArray⟩) := @so_den (vlT db e most da ea b) m 0
theorem vlT_s1 (m : Nat) : @denA (vlT db e most da ea b) (m + 1) (so 1000) = lb da := @so_den (vlT db e most da ea b) m 1000
theorem vlT_s2 (m : Nat) : @denA (vlT db e most da ea b) (m + 1) (so 1002) = lb b := @so_den (vlT db e most da ea b) m 1002
theorem vlT_i2 (m : Nat) : @denA (vlT db e most da ea b) (m + 1) (ni 2) = lI e := @ni_den (vlT db e most da ea b) m 2
theorem vlT_i1 (m : Nat) : @denA (vlT db e most da ea b) (m + 1) (ni 1) = lI most := @ni_den (vlT db e most da ea b) m 1
theorem vlT_ia (m : Nat) : @denA (vlT db e most da ea b) (m + 1) (ni 1001) = lI ea := @ni_den (vlT db e most da ea b) m 1001
theorem vlT_il (m : Nat) : @denA (vlT db e most da ea b) (m + 1) (ni 1005) = lI b.length := @ni_den (vlT db e most da ea b) m 1005
theorem vlT_sc : @denA (vlT db e most da ea b) 20 scN = scK db e most := by
  show @denA (vlT db e most da ea b) 20 (scV (so 0) (ni 2) (ni 1)) = _
  rw [@scV_den (vlT db e most da ea b), vlT_s0 15, vlT_i2 15, vlT_i1 18]; rfl
theorem vlT_a : @denA (vlT db e most da ea b) 20 (.agg (aS (so 0) (ni 2))) = .agg (aK db e) := by
  have : ∀ d x, @denA (vlT db e most da ea b) 20 (.agg (aS d x)) = .agg (aS (@denA (vlT db e most da ea b) 18 d) (@denA (vlT db e most da ea b) 18 x)) := fun _ _ => rfl
  rw [this, vlT_s0 17, vlT_i2 17]; rfl
theorem vlT_da : @denA (vlT db e most da ea b) 20 (.agg (defsV :: aS (so 0) (ni 2))) = .agg (defsV :: aK db e) := by
  have : ∀ d x, @denA (vlT db e most da ea b) 20 (.agg (defsV :: aS d x)) = .agg (defsV :: aS (@denA (vlT db e most da ea b) 18 d) (@denA (vlT db e most da ea b) 18 x)) := fun _ _ => rfl
  rw [this, vlT_s0 17, vlT_i2 17]; rfl
theorem vlT_set : @denA (vlT db e most da ea b) 20 setN = setB2 db e := by
  show AV.agg [.ro 11 [[_, _, _, _, _, _, _, @denA (vlT db e most da ea b) 18 (so 0), @denA (vlT db e most da ea b) 18 (ni 2), _, _]]] = _
  rw [vlT_s0 17, vlT_i2 17]; rfl
theorem vlT_dec : @denA (vlT db e most da ea b) 20 decN = decL da ea := by
  show AV.agg [_, @denA (vlT db e most da ea b) 19 (so 1000), @denA (vlT db e most da ea b) 19 (ni 1001)] = _
  rw [vlT_s1 18, vlT_ia 18]; rfl
theorem two_pure {x y : AV} (hx : Pure x) (hy : Pure y) : ∀ z ∈ [x, y], Pure z := by
  intro z hz
  simp only [List.mem_cons, List.not_mem_nil, or_false] at hz
  rcases hz with rfl | rfl
  · exact hx
  · exact hy
theorem three_pure {x y u : AV} (hx : Pure x) (hy : Pure y) (hu : Pure u) : ∀ z ∈ [x, y, u], Pure z := by
  intro z hz
  simp only [List.mem_cons, List.not_mem_nil, or_false] at hz
  rcases hz with rfl | rfl | rfl
  · exact hx
  · exact hy
  · exact hu
theorem one_pure {x : AV} (hx : Pure x) : ∀ z ∈ [x], Pure z := by
  intro z hz
  simp only [List.mem_cons, List.not_mem_nil, or_false] at hz
  subst hz
  exact hx
theorem match_a (h : TopOK db e most) (hda : da.length ≤ 7) (hea : -1 ≤ ea ∧ ea ≤ 5) (hv : CS Tryz.prog 158 [decL da ea] (lB true)) {g : Bool} (hg : CS Tryz.prog 103 [setB2 db e, decL da ea] (lB g)) :
    CS Tryz.prog 33 [scK db e most, .agg (aK db e), .agg (vNum (lb da) (lI ea))] (.tup [lB g, lI 0]) := by
  have hs := schema_a h
  have ok : @Cfg.OK (vlT db e most da ea []) (cfTa g) := by
    refine cfgOK_of (fun p hp => ?_) (fun f hf => by cases hf) (fun a row h => by cases h) rfl (fun p hp => ?_) (fun p hp => by cases hp) (fun p hp => by cases hp)
    · simp only [cfTa, List.mem_cons, List.not_mem_nil, or_false] at hp
      rcases hp with rfl | rfl
      · exact hea
      · show (0 : Int) ≤ (da.length : Nat) ∧ ((da.length : Nat) : Int) ≤ 7; omega
    · simp only [cfTa, List.mem_cons, List.not_mem_nil, or_false] at hp
      subst hp
      show ((da.length : Nat) : Int) = 1 * ((da.length : Nat) : Int) + 0 + 0; omega
  have tell := @tellOf (vlT db e most da ea []) _ ok rfl rfl fun f xs r hp => by
    simp only [cfTa, List.mem_cons, List.not_mem_nil, or_false] at hp
    rcases hp with ⟨rfl, rfl, rfl⟩ | ⟨rfl, rfl, rfl⟩ | ⟨rfl, rfl, rfl⟩
    · refine @CS.call (vlT db e most da ea []) _ _ _ _ _ _ _ hs Tryz.func34 (names1 _ _ Tryz.func34) rfl ?_ (one_pure (pureB_ok (n := 20) rfl)) rfl .lit
      show [@denA (vlT db e most da ea []) 20 _] = _
      rw [vlT_da]
    · refine @CS.call (vlT db e most da ea []) _ _ _ _ _ _ _ hv Tryz.func158 (names1 _ _ Tryz.func158) rfl ?_ (one_pure (decL_pure _ _)) rfl .lit
      show [@denA (vlT db e most da ea []) 20 decN] = _
      rw [vlT_dec]
    · refine @CS.call (vlT db e most da ea []) _ _ _ _ _ _ _ hg Tryz.func103 (names1 _ _ Tryz.func103) rfl ?_ (two_pure (pureB_ok (n := 20) rfl) (decL_pure _ _)) rfl .lit
      show [@denA (vlT db e most da ea []) 20 setN, @denA (vlT db e most da ea []) 20 decN] = _
      rw [vlT_set, vlT_dec]
  refine @cs_of (vlT db e most da ea []) _ [] ok tell (by simp) 100 33 _ _ (kT_a g) _ _ ?_ rfl (three_pure (scK_pure _ _ _) (pureB_ok (n := 20) rfl) (pureB_ok (n := 20) rfl)) (pureB_ok (n := 20) rfl)
  have hn : ∀ d x, @denA (vlT db e most da ea []) 20 (.agg (vNum d x)) = .agg (vNum (@denA (vlT db e most da ea []) 19 d) (@denA (vlT db e most da ea []) 19 x)) := fun _ _ => rfl
  show [@denA (vlT db e most da ea []) 20 scN, @denA (vlT db e most da ea []) 20 _, @denA (vlT db e most da ea []) 20 _] = _
  rw [vlT_sc, vlT_a, hn, vlT_s1 18, vlT_ia 18]
theorem match_b (h : TopOK db e most) {g : Bool} (hb : loG g ≤ (b.length : Nat) ∧ ((b.length : Nat) : Int) ≤ hiG g) (hl : CS Tryz.prog 105 [lb b] (lI b.length)) (hu : CS Tryz.prog 68 [lb b] (lB true)) :
    CS Tryz.prog 33 [scK db e most, .agg bS, .agg (vText (lb b))] (.tup [lB g, lI 0]) := by
  have hs := schema_b h
  have ok : @Cfg.OK (vlT db e most [] 0 b) (cfTb g) := by
    refine cfgOK_of (fun p hp => ?_) (fun f hf => by cases hf) (fun a row h => by cases h) rfl (fun p hp => ?_) (fun p hp => by cases hp) (fun p hp => by cases hp)
    · simp only [cfTb, List.mem_cons, List.not_mem_nil, or_false] at hp
      subst hp
      exact hb
    · simp only [cfTb, List.mem_cons, List.not_mem_nil, or_false] at hp
      subst hp
      show ((b.length : Nat) : Int) = 1 * ((b.length : Nat) : Int) + 0 + 0; omega
  have tell := @tellOf (vlT db e most [] 0 b) _ ok rfl rfl fun f xs r hp => by
    simp only [cfTb, List.mem_cons, List.not_mem_nil, or_false] at hp
    rcases hp with ⟨rfl, rfl, rfl⟩ | ⟨rfl, rfl, rfl⟩ | ⟨rfl, rfl, rfl⟩
    · exact @CS.call (vlT db e most [] 0 b) _ _ _ _ _ _ _ hs Tryz.func34 (names1 _ _ Tryz.func34) rfl rfl (one_pure (pureB_ok (n := 20) rfl)) rfl .lit
    · refine @CS.call (vlT db e most [] 0 b) _ _ _ _ _ _ _ hl Tryz.func105 (names1 _ _ Tryz.func105) rfl ?_ (one_pure .lit) (vlT_il 19) .lit
      show [@denA (vlT db e most [] 0 b) 20 (so 1002)] = _
      rw [vlT_s2 19]
    · refine @CS.call (vlT db e most [] 0 b) _ _ _ _ _ _ _ hu Tryz.func68 (names1 _ _ Tryz.func68) rfl ?_ (one_pure .lit) rfl .lit
      show [@denA (vlT db e most [] 0 b) 20 (so 1002)] = _
      rw [vlT_s2 19]
  refine @cs_of (vlT db e most [] 0 b) _ [] ok tell (by simp) 100 33 _ _ (kT_b g) _ _ ?_ rfl (three_pure (scK_pure _ _ _) (pureB_ok (n := 20) rfl) (pureB_ok (n := 20) rfl)) (pureB_ok (n := 20) rfl)
  have hn : ∀ d, @denA (vlT db e most [] 0 b) 20 (.agg (vText d)) = .agg (vText (@denA (vlT db e most [] 0 b) 19 d)) := fun _ => rfl
  show [@denA (vlT db e most [] 0 b) 20 scN, .agg bS, @denA (vlT db e most [] 0 b) 20 _] = _
  rw [vlT_sc, hn, vlT_s2 18]
theorem match_leaf {x y : List AV} {g : Bool} (hs : CS Tryz.prog 34 [.agg (defsV :: x)] (lI 0)) (hk : runT (cfTt x) x y g = true) (hd : ∀ (V : VL), @denA V 20 (.agg (defsV :: x)) = .agg (defsV :: x)) (hx : ∀ (V : VL), @denA V 20 (.agg x) = .agg x)
    (hy : ∀ (V : VL), @denA V 20 (.agg y) = .agg y) (px : Pure (.agg x)) (pd : Pure (.agg (defsV :: x))) (py : Pure (.agg y)) : CS Tryz.prog 33 [scK db e most, .agg x, .agg y] (.tup [lB g, lI 0]) := by
  have ok : @Cfg.OK (vlT db e most [] 0 []) (cfTt x) :=
    cfgOK_of (fun p hp => by cases hp) (fun f hf => by cases hf) (fun a row h => by cases h) rfl (fun p hp => by cases hp) (fun p hp => by cases hp) (fun p hp => by cases hp)
  have tell := @tellOf (vlT db e most [] 0 []) _ ok rfl rfl fun f xs r hp => by
    simp only [cfTt, List.mem_cons, List.not_mem_nil, or_false] at hp
    obtain ⟨rfl, rfl, rfl⟩ := hp
    refine @CS.call (vlT db e most [] 0 []) _ _ _ _ _ _ _ hs Tryz.func34 (names1 _ _ Tryz.func34) rfl ?_ (one_pure pd) rfl .lit
    show [@denA (vlT db e most [] 0 []) 20 _] = _
    rw [hd]
  refine @cs_of (vlT db e most [] 0 []) _ [] ok tell (by simp) 100 33 _ _ hk _ _ ?_ rfl (three_pure (scK_pure _ _ _) px py) (pureB_ok (n := 20) rfl)
  show [@denA (vlT db e most [] 0 []) 20 scN, @denA (vlT db e most [] 0 []) 20 _, @denA (vlT db e most [] 0 []) 20 _] = _
  rw [vlT_sc, hx, hy]
theorem match_tag (h : TopOK db e most) {l : Nat × Bool} (hl : l ∈ lets) : CS Tryz.prog 33 [scK db e most, .agg tagS, .agg (vText (lS [l.1]))] (.tup [lB l.2, lI 0]) :=
  match_leaf (schema_tag h) (List.all_eq_true.1 kT_t l hl) (fun _ => rfl) (fun _ => rfl) (fun _ => rfl) (pureB_ok (n := 20) rfl) (pureB_ok (n := 20) rfl) (pureB_ok (n := 20) rfl)
theorem match_none (h : TopOK db e most) : CS Tryz.prog 33 [scK db e most, .agg noneS, .agg (vz 0)] (.tup [lB false, lI 0]) :=
  match_leaf (schema_none h) kT_n (fun _ => rfl) (fun _ => rfl) (fun _ => rfl) (pureB_ok (n := 20) rfl) (pureB_ok (n := 20) rfl) (pureB_ok (n := 20) rfl)
end
end Go.Abs
end
section
open Go.Proofs
set_option maxRecDepth 100000
namespace Go.Abs
/-- what the schemas are compiled to -/
def chkV (d e m : AV) : AV := .agg [.ro 10 [[lI 9, lI 0, lI 0, m, nilS, nilS, nilS, nilS, nilS, .ro 1 [[lI 1]]],
  [lI 10, lI 0, lI 0, lI 0, nilS, nilS, nilS, .ro 1 [[lS [97]], [lS [98]], [lS [99]]], .ro 1 [[lB true], [lB true], [lB false]], .ro 1 [[lI 2], [lI 3], [lI 4], [lI 6]]],
  [lI 4, lI 0, lI 0, lI 0, numS d e, nilS, nilS, nilS, nilS, nilS], [lI 5, lI 0, lI 1, lI 3, nilS, nilS, nilS, nilS, nilS, nilS],
  [lI 9, lI 0, lI 0, lI 2, nilS, nilS, nilS, nilS, nilS, .ro 1 [[lI 5]]],
  [lI 8, lI 0, lI 0, lI 0, nilS, nilS, .ro 13 [vText (lS [120]), vText (lS [121]), vText (lS [122])], nilS, nilS, nilS],
  [lI 2, lI 0, lI 0, lI 0, nilS, nilS, nilS, nilS, nilS, nilS]]]
def chkN : AV := chkV (so 0) (ni 2) (ni 1)
def chkK (db : List UInt8) (e m : Int) : AV := chkV (.lit (.string ⟨db.toArray⟩)) (lI e) (lI m)
def cfK : Cfg := { cfM with ct := [(158, [topN], lB true), (34, [scN], lI 0)] }
theorem kK13 : okTop (topF cfK [] Tryz.prog 100 13 [scN]) (.tup [chkN, lI 0]) = true := by kernel_rfl
theorem kK74 : okTop (topF cfM [] Tryz.prog 100 74 [chkN]) (lI 0) = true := by kernel_rfl
section
variable {db : List UInt8} {e : Int} {most : Nat}
theorem chkV_den [VL] (d x m : AV) : denA 20 (chkV d x m) = chkV (denA 17 d) (denA 17 x) (denA 18 m) := rfl
theorem chkN_den : @denA (vlM db e most) 20 chkN = chkK db e most := by
  show @denA (vlM db e most) 20 (chkV (so 0) (ni 2) (ni 1)) = _
  rw [@chkV_den (vlM db e most), vlM_s0 16, vlM_i2 16, vlM_i1 17]; rfl
theorem scM_den : @denA (vlM db e most) 20 scN = scK db e most := by
  show @denA (vlM db e most) 20 (scV (so 0) (ni 2) (ni 1)) = _
  rw [@scV_den (vlM db e most), vlM_s0 15, vlM_i2 15, vlM_i1 18]; rfl
theorem chkK_pure (db : List UInt8) (e m : Int) : Pure (chkK db e m) := pureB_ok (n := 20) rfl
theorem cfK_ok (h : TopOK db e most) : @Cfg.OK (vlM db e most) cfK := by
  refine cfgOK_of (fun p hp => ?_) (fun f hf => by cases hf) (fun a row h => by cases h) rfl (fun p hp => ?_) (fun p hp => by cases hp) (fun p hp => by cases hp)
  · simp only [cfK, cfM, List.mem_cons, List.not_mem_nil, or_false] at hp
    rcases hp with rfl | rfl | rfl
    · show (0 : Int) ≤ (most : Int) ∧ (most : Int) ≤ 1200; have := h.hm; omega
    · exact h.he
    · show (0 : Int) ≤ (db.length : Nat) ∧ ((db.length : Nat) : Int) ≤ 7; have := h.hl; omega
  · simp only [cfK, cfM, List.mem_cons, List.not_mem_nil, or_false] at hp
    subst hp
    show ((db.length : Nat) : Int) = 1 * ((db.length : Nat) : Int) + 0 + 0; omega
theorem cfK_tell (h : TopOK db e most) : @Tell (vlM db e most) cfK Tryz.prog := by
  have hs := schema_root h
  refine @tellOf (vlM db e most) _ (cfK_ok h) rfl rfl fun f xs y hp => ?_
  simp only [cfK, List.mem_cons, List.not_mem_nil, or_false] at hp
  rcases hp with ⟨rfl, rfl, rfl⟩ | ⟨rfl, rfl, rfl⟩
  · refine @CS.call (vlM db e most) _ _ _ _ _ _ _ h.v Tryz.func158 (names1 _ _ Tryz.func158) rfl ?_ (one_pure (decL_pure _ _)) rfl .lit
    show [AV.agg [_, @denA (vlM db e most) 19 (so 0), @denA (vlM db e most) 19 (ni 2)]] = _
    rw [vlM_s0 18, vlM_i2 18]; rfl
  · refine @CS.call (vlM db e most) _ _ _ _ _ _ _ hs Tryz.func34 (names1 _ _ Tryz.func34) rfl ?_ (one_pure (scK_pure _ _ _)) rfl .lit
    show [@denA (vlM db e most) 20 scN] = _
    rw [scM_den]
theorem compile_cs (h : TopOK db e most) : CS Tryz.prog 13 [scK db e most] (.tup [chkK db e most, lI 0]) := by
  refine @cs_of (vlM db e most) cfK [] (cfK_ok h) (cfK_tell h) (by simp) 100 13 _ _ kK13 _ _ ?_ ?_ (one_pure (scK_pure _ _ _)) (pureB_ok (n := 21) rfl)
  · show [@denA (vlM db e most) 20 scN] = _
    rw [scM_den]
  · have : ∀ d x m, @denA (vlM db e most) 20 (.tup [chkV d x m, lI 0]) = .tup [chkV (@denA (vlM db e most) 16 d) (@denA (vlM db e most) 16 x) (@denA (vlM db e most) 17 m), lI 0] := fun _ _ _ => rfl
    show @denA (vlM db e most) 20 (.tup [chkV (so 0) (ni 2) (ni 1), lI 0]) = _
    rw [this, vlM_s0 15, vlM_i2 15, vlM_i1 16]; rfl
theorem vcheck_cs (h : TopOK db e most) : CS Tryz.prog 74 [chkK db e most] (lI 0) := by
  refine @cs_of (vlM db e most) cfM [] (cfM_ok h) (cfM_tell h) (by simp) 100 74 _ _ kK74 _ _ ?_ rfl (one_pure (chkK_pure _ _ _)) .lit
  show [@denA (vlM db e most) 20 chkN] = _
  rw [chkN_den]
end
end Go.Abs
end
section
open Go.Proofs
set_option maxRecDepth 100000
namespace Go.Abs
def u16 (a : Nat) : AV := .sym (.int .u16 ([(a, 1)], 0))
def lU16 (n : Int) : AV := .lit (.int .u16 n)
def ruleN : AV := .agg [u16 1, u16 2, u16 3]
def ruleK (mu ad mo : Nat) : AV := .agg [lU16 mu, lU16 ad, lU16 mo]
def cfR : Cfg := { cfg0 with
  bd := [(1, 0, 65535), (2, 0, 65535), (3, 0, 65535), (4, 0, 1199), (5, 0, 65535), (6, 0, 2), (7, 0, 80000000)]
  nl := [(.mul, .i64, at1 1, at1 4, at1 7), (.rem, .i64, ([(2, 1), (7, 1)], 0), ([(3, 1)], 1), at1 5), (.rem, .i64, ([(4, 1), (5, 1)], 0), ([], 3), at1 6)] }
theorem kR18 : okTop (topF cfR [] Tryz.prog 100 18 [ruleN, ni 4]) (ni 5) = true := by kernel_rfl
theorem kR21 : okTop (topF cfR [] Tryz.prog 100 21 [ruleN, ni 4]) (.sym (.str [.e ([(6, 1)], 120)])) = true := by kernel_rfl
/-- the rule's place of row i -/
def atK (mu ad mo i : Nat) : Nat := (mu * i + ad) % (mo + 1)
abbrev vlU (mu ad mo i : Nat) : VL :=
  ⟨fun a => if a = 1 then (mu : Nat) else if a = 2 then (ad : Nat) else if a = 3 then (mo : Nat) else if a = 4 then (i : Nat) else if a = 5 then (atK mu ad mo i : Nat) else if a = 6 then ((atK mu ad mo i + i) % 3 : Nat) else if a = 7 then (mu * i : Nat) else 0,
   fun _ => [], fun _ => false, fun _ => [], fun _ => .emp, fun _ _ _ => False⟩
theorem binOp_mulN (t : TypeId) (a b : Nat) (h : a * b ≤ 80000000) : (binOp .mul t (.int .i64 (a : Int)) (.int .i64 (b : Int)) : Sem Value) = pure (.int .i64 ((a * b : Nat) : Int)) := by
  have : IntKind.i64.wrap ((a : Int) * (b : Int)) = (a : Int) * b := by
    have : ((a : Int) * b) = ((a * b : Nat) : Int) := by push_cast; rfl
    rw [this]
    generalize a * b = c at h
    apply wrap_in <;> simp [IntKind.min, IntKind.max, IntKind.signed, IntKind.bits] <;> omega
  simp [binOp, Op.intArith, this]
theorem binOp_remN (t : TypeId) (a b : Nat) (h : 0 < b) : (binOp .rem t (.int .i64 (a : Int)) (.int .i64 (b : Int)) : Sem Value) = pure (.int .i64 ((a % b : Nat) : Int)) := by
  have hb : ¬ b = 0 := by omega
  simp [binOp, Op.intDiv, Int.tmod_eq_emod_of_nonneg, hb]
section
variable {mu ad mo i : Nat}
structure RuleOK (mu ad mo i : Nat) : Prop where
  mu : mu ≤ 65535
  ad : ad ≤ 65535
  mo : mo ≤ 65535
  i : i ≤ 1199
theorem cfR_ok (h : RuleOK mu ad mo i) : @Cfg.OK (vlU mu ad mo i) cfR := by
  obtain ⟨h1, h2, h3, h4⟩ := h
  have hm : mu * i ≤ 80000000 := Nat.le_trans (Nat.mul_le_mul h1 h4) (by decide)
  have ha : atK mu ad mo i ≤ 65535 := by
    have := Nat.mod_lt (mu * i + ad) (by omega : 0 < mo + 1)
    unfold atK; omega
  refine cfgOK_of (fun p hp => ?_) (fun f hf => by cases hf) (fun a row h => by cases h) rfl (fun p hp => by cases hp) (fun p hp => by cases hp) (fun p hp => by cases hp)
    (nl := fun o k x y z hz t => ?_)
  · simp only [cfR, List.mem_cons, List.not_mem_nil, or_false] at hp
    rcases hp with rfl | rfl | rfl | rfl | rfl | rfl | rfl
    · show (0 : Int) ≤ (mu : Nat) ∧ ((mu : Nat) : Int) ≤ 65535; omega
    · show (0 : Int) ≤ (ad : Nat) ∧ ((ad : Nat) : Int) ≤ 65535; omega
    · show (0 : Int) ≤ (mo : Nat) ∧ ((mo : Nat) : Int) ≤ 65535; omega
    · show (0 : Int) ≤ (i : Nat) ∧ ((i : Nat) : Int) ≤ 1199; omega
    · show (0 : Int) ≤ (atK mu ad mo i : Nat) ∧ ((atK mu ad mo i : Nat) : Int) ≤ 65535; omega
    · show (0 : Int) ≤ ((atK mu ad mo i + i) % 3 : Nat) ∧ (((atK mu ad mo i + i) % 3 : Nat) : Int) ≤ 2; omega
    · show (0 : Int) ≤ (mu * i : Nat) ∧ ((mu * i : Nat) : Int) ≤ 80000000; omega
  · simp only [cfR, List.mem_cons, List.not_mem_nil, or_false, Prod.mk.injEq] at hz
    rcases hz with ⟨rfl, rfl, rfl, rfl, rfl⟩ | ⟨rfl, rfl, rfl, rfl, rfl⟩ | ⟨rfl, rfl, rfl, rfl, rfl⟩
    · have e1 : @Lin.val (vlU mu ad mo i) (at1 1) = (mu : Nat) := by show 1 * ((mu : Nat) : Int) + 0 + 0 = _; omega
      have e2 : @Lin.val (vlU mu ad mo i) (at1 4) = (i : Nat) := by show 1 * ((i : Nat) : Int) + 0 + 0 = _; omega
      have e3 : @Lin.val (vlU mu ad mo i) (at1 7) = (mu * i : Nat) := by show 1 * ((mu * i : Nat) : Int) + 0 + 0 = _; omega
      rw [e1, e2, e3]
      exact binOp_mulN t mu i hm
    · have e1 : @Lin.val (vlU mu ad mo i) ([(2, 1), (7, 1)], 0) = (mu * i + ad : Nat) := by show 1 * ((ad : Nat) : Int) + (1 * ((mu * i : Nat) : Int) + 0) + 0 = _; omega
      have e2 : @Lin.val (vlU mu ad mo i) ([(3, 1)], 1) = (mo + 1 : Nat) := by show 1 * ((mo : Nat) : Int) + 0 + 1 = _; omega
      have e3 : @Lin.val (vlU mu ad mo i) (at1 5) = (atK mu ad mo i : Nat) := by show 1 * ((atK mu ad mo i : Nat) : Int) + 0 + 0 = _; omega
      rw [e1, e2, e3]
      exact binOp_remN t _ _ (by omega)
    · have e1 : @Lin.val (vlU mu ad mo i) ([(4, 1), (5, 1)], 0) = (atK mu ad mo i + i : Nat) := by show 1 * ((i : Nat) : Int) + (1 * ((atK mu ad mo i : Nat) : Int) + 0) + 0 = _; omega
      have e2 : @Lin.val (vlU mu ad mo i) ([], 3) = (3 : Nat) := rfl
      have e3 : @Lin.val (vlU mu ad mo i) (at1 6) = ((atK mu ad mo i + i) % 3 : Nat) := by show 1 * (((atK mu ad mo i + i) % 3 : Nat) : Int) + 0 + 0 = _; omega
      rw [e1, e2, e3]
      exact binOp_remN t _ _ (by omega)
theorem u16_den (m a : Nat) : @denA (vlU mu ad mo i) (m + 1) (u16 a) = lU16 (@VL.i (vlU mu ad mo i) a) := by
  show AV.lit (.int .u16 (1 * _ + 0 + 0)) = _
  simp [lU16]
theorem rule_den : [ruleN, ni 4].map (@denA (vlU mu ad mo i) 20) = [ruleK mu ad mo, lI i] := by
  show [AV.agg [@denA (vlU mu ad mo i) 19 (u16 1), @denA (vlU mu ad mo i) 19 (u16 2), @denA (vlU mu ad mo i) 19 (u16 3)], @denA (vlU mu ad mo i) 20 (ni 4)] = _
  rw [u16_den 18, u16_den 18, u16_den 18, @ni_den (vlU mu ad mo i) 19]; rfl
theorem at_cs (h : RuleOK mu ad mo i) : CS Tryz.prog 18 [ruleK mu ad mo, lI i] (lI (atK mu ad mo i)) := by
  refine @cs_of (vlU mu ad mo i) cfR [] (cfR_ok h) (@tellOf (vlU mu ad mo i) cfR (cfR_ok h) rfl rfl fun f xs r h => by cases h) (by simp) 100 18 _ _ kR18 _ _ rule_den ?_ (two_pure (pureB_ok (n := 20) rfl) .lit) .lit
  exact @ni_den (vlU mu ad mo i) 19 5
theorem name_cs (h : RuleOK mu ad mo i) : CS Tryz.prog 21 [ruleK mu ad mo, lI i] (lb [UInt8.ofNat ((atK mu ad mo i + i) % 3 + 120)]) := by
  refine @cs_of (vlU mu ad mo i) cfR [] (cfR_ok h) (@tellOf (vlU mu ad mo i) cfR (cfR_ok h) rfl rfl fun f xs r h => by cases h) (by simp) 100 21 _ _ kR21 _ _ rule_den ?_ (two_pure (pureB_ok (n := 20) rfl) .lit) .lit
  show AV.lit (.string ⟨([UInt8.ofNat (1 * (((atK mu ad mo i + i) % 3 : Nat) : Int) + 0 + 120).toNat] ++ []).toArray⟩) = _
  have : (1 * (((atK mu ad mo i + i) % 3 : Nat) : Int) + 0 + 120).toNat = (atK mu ad mo i + i) % 3 + 120 := by omega
  rw [this]; rfl
end
end Go.Abs
end
section
open Go.Proofs
set_option maxRecDepth 100000
namespace Go.Abs
def u8 (a : Nat) : AV := .sym (.int .u8 ([(a, 1)], 0))
def lU8 (n : Int) : AV := .lit (.int .u8 n)
def flawsN (l : Bool) : AV := .agg [u16 9, u16 10, u8 11, u8 12, lB l]
def flawsK (x y p q : Nat) (l : Bool) : AV := .agg [lU16 x, lU16 y, lU8 p, lU8 q, lB l]
def fsF (n a : Nat) : List Lin := match a with | 1 => [([(n, -1), (100, 1)], -1)] | 2 => [([(n, 1), (100, -1)], -1)] | _ => []
def atF (n a : Nat) : Lin := match a with | 0 => at1 100 | _ => at1 n
/-- how the flaws' places lie to the row: 0 there, 1 before, 2 behind, 3 does not matter -/
def cfF (a b : Nat) : Cfg := { cfg0 with
  bd := [(4, 1, 1200), (9, 0, 65535), (10, 0, 65535), (11, 0, 255), (12, 0, 255), (20, 0, 1199), (21, 0, 1199), (22, 0, 7), (23, 0, 7), (100, 0, 1199)]
  fs := fsF 20 a ++ fsF 21 b
  nl := [(.rem, .i64, at1 9, at1 4, atF 20 a), (.rem, .i64, at1 10, at1 4, atF 21 b), (.rem, .u8, at1 11, ([], 8), at1 22), (.rem, .u8, at1 12, ([], 8), at1 23)] }
def resF (a b : Nat) : AV := match a with | 0 => ni 22 | _ => match b with | 0 => ni 23 | _ => lI 0
noncomputable def runFw (a b : Nat) (l : Bool) : Bool := okTop (topF (cfF a b) [] Tryz.prog 100 4 [flawsN l, ni 100, ni 4]) (resF a b)
def casF : List (Nat × Nat) := [(0, 3), (1, 0), (2, 0), (1, 1), (1, 2), (2, 1), (2, 2)]
theorem kFw : (casF.all fun c => runFw c.1 c.2 true && runFw c.1 c.2 false) = true := by kernel_rfl
def kindK (x y p q n i : Nat) : Nat := if x % n = i then p % 8 else if y % n = i then q % 8 else 0
abbrev vlF (x y p q n i : Nat) : VL :=
  ⟨fun a => if a = 4 then (n : Nat) else if a = 9 then (x : Nat) else if a = 10 then (y : Nat) else if a = 11 then (p : Nat) else if a = 12 then (q : Nat) else if a = 20 then (x % n : Nat) else if a = 21 then (y % n : Nat) else if a = 22 then (p % 8 : Nat) else if a = 23 then (q % 8 : Nat) else if a = 100 then (i : Nat) else 0,
   fun _ => [], fun _ => false, fun _ => [], fun _ => .emp, fun _ _ _ => False⟩
theorem binOp_rem8 (t : TypeId) (a : Nat) : (binOp .rem t (.int .u8 (a : Int)) (.int .u8 8) : Sem Value) = pure (.int .u8 ((a % 8 : Nat) : Int)) := by
  simp [binOp, Op.intDiv, Int.tmod_eq_emod_of_nonneg]
/-- a place lies to the row as told -/
def Lies (a v i : Nat) : Prop := (a = 0 ∧ v = i) ∨ (a = 1 ∧ v < i) ∨ (a = 2 ∧ i < v) ∨ a = 3
structure FlOK (x y p q n i : Nat) : Prop where
  hx : x ≤ 65535
  hy : y ≤ 65535
  hp : p ≤ 255
  hq : q ≤ 255
  hn : 1 ≤ n ∧ n ≤ 1200
  hi : i < n
section
variable {x y p q n i : Nat}
theorem fsF_ok {k a v : Nat} (hk : @VL.i (vlF x y p q n i) k = (v : Nat)) (h : Lies a v i) {f : Lin} (hf : f ∈ fsF k a) : 0 ≤ @Lin.val (vlF x y p q n i) f := by
  rcases h with ⟨rfl, h⟩ | ⟨rfl, h⟩ | ⟨rfl, h⟩ | rfl
  · cases hf
  · simp only [fsF, List.mem_cons, List.not_mem_nil, or_false] at hf
    subst hf
    show (0 : Int) ≤ -1 * @VL.i (vlF x y p q n i) k + (1 * ((i : Nat) : Int) + 0) + -1
    rw [hk]; omega
  · simp only [fsF, List.mem_cons, List.not_mem_nil, or_false] at hf
    subst hf
    show (0 : Int) ≤ 1 * @VL.i (vlF x y p q n i) k + (-1 * ((i : Nat) : Int) + 0) + -1
    rw [hk]; omega
  · cases hf
theorem atF_ok {k a v : Nat} (hk : @VL.i (vlF x y p q n i) k = (v : Nat)) (h : Lies a v i) : @Lin.val (vlF x y p q n i) (atF k a) = (v : Nat) := by
  have h1 : @Lin.val (vlF x y p q n i) (at1 k) = (v : Nat) := by
    show 1 * @VL.i (vlF x y p q n i) k + 0 + 0 = _
    rw [hk]; omega
  rcases h with ⟨rfl, h⟩ | ⟨rfl, h⟩ | ⟨rfl, h⟩ | rfl
  · show 1 * ((i : Nat) : Int) + 0 + 0 = _; omega
  · exact h1
  · exact h1
  · exact h1
theorem cfF_ok (h : FlOK x y p q n i) {a b : Nat} (ha : Lies a (x % n) i) (hb : Lies b (y % n) i) : @Cfg.OK (vlF x y p q n i) (cfF a b) := by
  obtain ⟨h1, h2, h3, h4, ⟨h5, h6⟩, h7⟩ := h
  have l1 := Nat.mod_lt x (by omega : 0 < n)
  have l2 := Nat.mod_lt y (by omega : 0 < n)
  refine cfgOK_of (fun c hp => ?_) (fun f hf => ?_) (fun a row h => by cases h) rfl (fun c hp => by cases hp) (fun c hp => by cases hp) (fun c hp => by cases hp)
    (nl := fun o k u v z hz t => ?_)
  · simp only [cfF, List.mem_cons, List.not_mem_nil, or_false] at hp
    rcases hp with rfl | rfl | rfl | rfl | rfl | rfl | rfl | rfl | rfl | rfl
    · show (1 : Int) ≤ (n : Nat) ∧ ((n : Nat) : Int) ≤ 1200; omega
    · show (0 : Int) ≤ (x : Nat) ∧ ((x : Nat) : Int) ≤ 65535; omega
    · show (0 : Int) ≤ (y : Nat) ∧ ((y : Nat) : Int) ≤ 65535; omega
    · show (0 : Int) ≤ (p : Nat) ∧ ((p : Nat) : Int) ≤ 255; omega
    · show (0 : Int) ≤ (q : Nat) ∧ ((q : Nat) : Int) ≤ 255; omega
    · show (0 : Int) ≤ (x % n : Nat) ∧ ((x % n : Nat) : Int) ≤ 1199; generalize x % n = v at *; omega
    · show (0 : Int) ≤ (y % n : Nat) ∧ ((y % n : Nat) : Int) ≤ 1199; generalize y % n = v at *; omega
    · show (0 : Int) ≤ (p % 8 : Nat) ∧ ((p % 8 : Nat) : Int) ≤ 7; omega
    · show (0 : Int) ≤ (q % 8 : Nat) ∧ ((q % 8 : Nat) : Int) ≤ 7; omega
    · show (0 : Int) ≤ (i : Nat) ∧ ((i : Nat) : Int) ≤ 1199; omega
  · rcases List.mem_append.1 hf with hf | hf
    · exact fsF_ok (k := 20) rfl ha hf
    · exact fsF_ok (k := 21) rfl hb hf
  · simp only [cfF, List.mem_cons, List.not_mem_nil, or_false, Prod.mk.injEq] at hz
    have e4 : @Lin.val (vlF x y p q n i) (at1 4) = (n : Nat) := by show 1 * ((n : Nat) : Int) + 0 + 0 = _; omega
    rcases hz with ⟨rfl, rfl, rfl, rfl, rfl⟩ | ⟨rfl, rfl, rfl, rfl, rfl⟩ | ⟨rfl, rfl, rfl, rfl, rfl⟩ | ⟨rfl, rfl, rfl, rfl, rfl⟩
    · have e1 : @Lin.val (vlF x y p q n i) (at1 9) = (x : Nat) := by show 1 * ((x : Nat) : Int) + 0 + 0 = _; omega
      rw [e1, e4, atF_ok (k := 20) (v := x % n) rfl ha]
      exact binOp_remN t _ _ (by omega)
    · have e1 : @Lin.val (vlF x y p q n i) (at1 10) = (y : Nat) := by show 1 * ((y : Nat) : Int) + 0 + 0 = _; omega
      rw [e1, e4, atF_ok (k := 21) (v := y % n) rfl hb]
      exact binOp_remN t _ _ (by omega)
    · have e1 : @Lin.val (vlF x y p q n i) (at1 11) = (p : Nat) := by show 1 * ((p : Nat) : Int) + 0 + 0 = _; omega
      have e2 : @Lin.val (vlF x y p q n i) ([], 8) = 8 := rfl
      have e3 : @Lin.val (vlF x y p q n i) (at1 22) = (p % 8 : Nat) := by show 1 * ((p % 8 : Nat) : Int) + 0 + 0 = _; omega
      rw [e1, e2, e3]
      exact binOp_rem8 t _
    · have e1 : @Lin.val (vlF x y p q n i) (at1 12) = (q : Nat) := by show 1 * ((q : Nat) : Int) + 0 + 0 = _; omega
      have e2 : @Lin.val (vlF x y p q n i) ([], 8) = 8 := rfl
      have e3 : @Lin.val (vlF x y p q n i) (at1 23) = (q % 8 : Nat) := by show 1 * ((q % 8 : Nat) : Int) + 0 + 0 = _; omega
      rw [e1, e2, e3]
      exact binOp_rem8 t _
theorem flaws_den (l : Bool) : [flawsN l, ni 100, ni 4].map (@denA (vlF x y p q n i) 20) = [flawsK x y p q l, lI i, lI n] := by
  have h16 : ∀ m a, @denA (vlF x y p q n i) (m + 1) (u16 a) = lU16 (@VL.i (vlF x y p q n i) a) := fun m a => by
    show AV.lit (.int .u16 (1 * _ + 0 + 0)) = _
    simp [lU16]
  have h8 : ∀ m a, @denA (vlF x y p q n i) (m + 1) (u8 a) = lU8 (@VL.i (vlF x y p q n i) a) := fun m a => by
    show AV.lit (.int .u8 (1 * _ + 0 + 0)) = _
    simp [lU8]
  show [AV.agg [@denA (vlF x y p q n i) 19 (u16 9), @denA (vlF x y p q n i) 19 (u16 10), @denA (vlF x y p q n i) 19 (u8 11), @denA (vlF x y p q n i) 19 (u8 12), _], @denA (vlF x y p q n i) 20 (ni 100), @denA (vlF x y p q n i) 20 (ni 4)] = _
  rw [h16 18, h16 18, h8 18, h8 18, @ni_den (vlF x y p q n i) 19, @ni_den (vlF x y p q n i) 19]; rfl
theorem kind_of (h : FlOK x y p q n i) (l : Bool) {a b : Nat} (hc : (a, b) ∈ casF) (ha : Lies a (x % n) i) (hb : Lies b (y % n) i) {r : AV} (hr : @denA (vlF x y p q n i) 20 (resF a b) = r) (pr : Pure r) : CS Tryz.prog 4 [flawsK x y p q l, lI i, lI n] r := by
  have hk := List.all_eq_true.1 kFw _ hc
  simp only [Bool.and_eq_true] at hk
  have ok := cfF_ok h ha hb
  have hk2 : runFw a b l = true := by cases l; exact hk.2; exact hk.1
  exact @cs_of (vlF x y p q n i) (cfF a b) [] ok (@tellOf (vlF x y p q n i) _ ok rfl rfl fun f xs r h => by cases h) (by simp) 100 4 _ _ hk2 _ _ (flaws_den l) hr (three_pure (pureB_ok (n := 20) rfl) .lit .lit) pr
theorem lies_of (v i : Nat) (h : v ≠ i) : (v < i ∧ Lies 1 v i) ∨ (i < v ∧ Lies 2 v i) := by
  by_cases hl : v < i
  · exact .inl ⟨hl, .inr (.inl ⟨rfl, hl⟩)⟩
  · exact .inr ⟨by omega, .inr (.inr (.inl ⟨rfl, by omega⟩))⟩
theorem kind_cs (h : FlOK x y p q n i) (l : Bool) : CS Tryz.prog 4 [flawsK x y p q l, lI i, lI n] (lI (kindK x y p q n i)) := by
  unfold kindK
  by_cases h1 : x % n = i
  · rw [if_pos h1]
    exact kind_of h l (a := 0) (b := 3) (by simp [casF]) (.inl ⟨rfl, h1⟩) (.inr (.inr (.inr rfl))) (@ni_den (vlF x y p q n i) 19 22) .lit
  · rw [if_neg h1]
    by_cases h2 : y % n = i
    · rw [if_pos h2]
      rcases lies_of _ _ h1 with ⟨-, ha⟩ | ⟨-, ha⟩
      · exact kind_of h l (b := 0) (by simp [casF]) ha (.inl ⟨rfl, h2⟩) (@ni_den (vlF x y p q n i) 19 23) .lit
      · exact kind_of h l (b := 0) (by simp [casF]) ha (.inl ⟨rfl, h2⟩) (@ni_den (vlF x y p q n i) 19 23) .lit
    · rw [if_neg h2]
      rcases lies_of _ _ h1 with ⟨-, ha⟩ | ⟨-, ha⟩ <;> rcases lies_of _ _ h2 with ⟨-, hb⟩ | ⟨-, hb⟩ <;> exact kind_of h l (by simp [casF]) ha hb rfl .lit
end
end Go.Abs
end
section
open Go.Proofs
set_option maxRecDepth 100000
namespace Go.Abs
/-! ### ruled -/
def cfY : Cfg := { cfg0 with bd := [(5, 0, 65535), (1, 0, 1200), (2, 0, 5)], ct := [(22, [ni 5], topN)] }
theorem kY7 : okTop (topF cfY [] Tryz.prog 100 7 [ni 5, ni 1]) scN = true := by kernel_rfl
abbrev vlY (db : List UInt8) (e : Int) (most top : Nat) : VL :=
  ⟨fun a => if a = 2 then e else if a = 1 then (most : Int) else if a = 5 then (top : Nat) else 0, fun a => if a = 0 then db else [], fun _ => false, fun _ => [], fun _ => .emp, fun _ _ _ => False⟩
section
variable {db : List UInt8} {e : Int} {most top : Nat}
theorem vlY_top : @denA (vlY db e most top) 20 topN = decL db e := by
  show AV.agg [_, @denA (vlY db e most top) 19 (so 0), @denA (vlY db e most top) 19 (ni 2)] = _
  rw [@so_den (vlY db e most top) 18, @ni_den (vlY db e most top) 18]; rfl
theorem vlY_sc : @denA (vlY db e most top) 20 scN = scK db e most := by
  show @denA (vlY db e most top) 20 (scV (so 0) (ni 2) (ni 1)) = _
  rw [@scV_den (vlY db e most top), @so_den (vlY db e most top) 15, @ni_den (vlY db e most top) 15, @ni_den (vlY db e most top) 18]; rfl
theorem ruled_cs (ht : top ≤ 65535) (hm : most ≤ 1200) (he : 0 ≤ e ∧ e ≤ 5) (hc : CS Tryz.prog 22 [lI top] (decL db e)) : CS Tryz.prog 7 [lI top, lI most] (scK db e most) := by
  have ok : @Cfg.OK (vlY db e most top) cfY := by
    refine cfgOK_of (fun p hp => ?_) (fun f hf => by cases hf) (fun a row h => by cases h) rfl (fun p hp => by cases hp) (fun p hp => by cases hp) (fun p hp => by cases hp)
    simp only [cfY, List.mem_cons, List.not_mem_nil, or_false] at hp
    rcases hp with rfl | rfl | rfl
    · show (0 : Int) ≤ (top : Nat) ∧ ((top : Nat) : Int) ≤ 65535; omega
    · show (0 : Int) ≤ (most : Int) ∧ (most : Int) ≤ 1200; omega
    · exact he
  have tell := @tellOf (vlY db e most top) _ ok rfl rfl fun f xs r hp => by
    simp only [cfY, List.mem_cons, List.not_mem_nil, or_false] at hp
    obtain ⟨rfl, rfl, rfl⟩ := hp
    refine @CS.call (vlY db e most top) _ _ _ _ _ _ _ hc Tryz.func22 (names1 _ _ Tryz.func22) rfl ?_ (one_pure .lit) vlY_top (decL_pure _ _)
    show [@denA (vlY db e most top) 20 (ni 5)] = _
    rw [@ni_den (vlY db e most top) 19]; rfl
  refine @cs_of (vlY db e most top) _ [] ok tell (by simp) 100 7 _ _ kY7 _ _ ?_ vlY_sc (two_pure .lit .lit) (scK_pure _ _ _)
  show [@denA (vlY db e most top) 20 (ni 5), @denA (vlY db e most top) 20 (ni 1)] = _
  rw [@ni_den (vlY db e most top) 19, @ni_den (vlY db e most top) 19]; rfl
end
/-! ### times -/
noncomputable def runT20 (m : Nat) : Bool := okTop (topF cfX [] Tryz.prog 100 20 [chs 1, lI m]) (chs m)
theorem kT20 : ([1, 2, 3].all runT20) = true := by kernel_rfl
theorem times_cs {c : UInt8} (h : 113 ≤ c.toNat ∧ c.toNat ≤ 122) {m : Nat} (h1 : 1 ≤ m) (h3 : m ≤ 3) : CS Tryz.prog 20 [lb [c], lI m] (lb (List.replicate m c)) := by
  have hk := List.all_eq_true.1 kT20 m (by simp only [List.mem_cons, List.not_mem_nil, or_false]; omega)
  have ok : @Cfg.OK (vlX c) cfX := by
    refine cfgOK_of (fun p hp => ?_) (fun f hf => by cases hf) (fun a row h => by cases h) rfl (fun p hp => by cases hp) (fun p hp => by cases hp) (fun p hp => by cases hp)
    simp only [cfX, List.mem_cons, List.not_mem_nil, or_false] at hp
    subst hp
    show (113 : Int) ≤ ((c.toNat : Nat) : Int) ∧ ((c.toNat : Nat) : Int) ≤ 122
    omega
  refine @cs_of (vlX c) cfX [] ok (@tellOf (vlX c) cfX ok rfl rfl fun f xs r h => by cases h) (by simp) 100 20 _ _ hk _ _ ?_ (chs_den c m) (two_pure .lit .lit) .lit
  show [@denA (vlX c) 20 (chs 1), @denA (vlX c) 20 (lI m)] = _
  rw [chs_den]; rfl
/-! ### failure -/
def stN (n : AV) : List AV := [lB true, lS [], n]
def stF (k : List Nat) : List AV := [lB false, lS k, lI 0]
/-- what is wrong with row n: path, operator, key -/
def failP (k : Nat) (n : AV) : List AV := match k with
  | 1 => [.ro 3 [stN n, stF [97]], lI 4, lS []]
  | 2 => [.ro 3 [stN n, stF [97]], lI 4, lS []]
  | 3 => [.ro 3 [stN n, stF [98]], lI 5, lS []]
  | 4 => [.ro 3 [stN n], lI 10, lS [97]]
  | 5 => [.ro 3 [stN n, stF [100]], lI 2, lS []]
  | 6 => [.ro 3 [stN n, stF [99]], lI 9, lS []]
  | _ => [.ro 3 [stN n, stF [99], stN (lI 1)], lI 8, lS []]
/-- the line on it, behind the row's number -/
def failT (k : Nat) : List Nat := match k with
  | 1 => [93, 46, 97, 32, 110, 117, 109, 98, 101, 114, 10]
  | 2 => [93, 46, 97, 32, 110, 117, 109, 98, 101, 114, 10]
  | 3 => [93, 46, 98, 32, 116, 101, 120, 116, 10]
  | 4 => [93, 32, 109, 97, 112, 32, 46, 97, 10]
  | 5 => [93, 46, 100, 32, 110, 111, 110, 101, 10]
  | 6 => [93, 46, 99, 32, 108, 105, 115, 116, 10]
  | _ => [93, 46, 99, 91, 49, 93, 32, 118, 97, 108, 117, 101, 115, 10]
def cfG : Cfg := { cfg0 with bd := [(100, 0, 1199), (8, 1, 4)], sl := [(7, at1 8)], ct := [(23, [ni 100], so 7)] }
def failR (k : Nat) : AV := .tup [.agg (failP k (ni 100)), .sym (.str ([.b 46, .b 91, .o 7] ++ (failT k).map .b))]
noncomputable def runG (k : Nat) : Bool := okTop (topF cfG [] Tryz.prog 100 6 [ni 100, lI k]) (failR k)
theorem kG : ([1, 2, 3, 4, 5, 6, 7].all runG) = true := by kernel_rfl
abbrev vlG (i : Nat) (w : List UInt8) : VL :=
  ⟨fun a => if a = 100 then (i : Nat) else if a = 8 then (w.length : Nat) else 0, fun a => if a = 7 then w else [], fun _ => false, fun _ => [], fun _ => .emp, fun _ _ _ => False⟩
/-- the line on a row's flaw -/
def lineK (k : Nat) (w : List UInt8) : List UInt8 := [46, 91] ++ w ++ (failT k).map UInt8.ofNat
theorem mem7 {k : Nat} (h1 : 1 ≤ k) (h7 : k ≤ 7) : k ∈ [1, 2, 3, 4, 5, 6, 7] := by
  simp only [List.mem_cons, List.not_mem_nil, or_false]; omega
theorem failP_den (i : Nat) (w : List UInt8) {k : Nat} (hk : k ∈ [1, 2, 3, 4, 5, 6, 7]) : @denA (vlG i w) 20 (failR k) = .tup [.agg (failP k (lI i)), lb (lineK k w)] := by
  have hn : @denA (vlG i w) 16 (ni 100) = lI i := @ni_den (vlG i w) 15 100
  have hp : @denA (vlG i w) 19 (.agg (failP k (ni 100))) = .agg (failP k (@denA (vlG i w) 17 (ni 100))) := by
    simp only [List.mem_cons, List.not_mem_nil, or_false] at hk
    rcases hk with rfl | rfl | rfl | rfl | rfl | rfl | rfl <;> rfl
  have ht : @denA (vlG i w) 19 (.sym (.str ([.b 46, .b 91, .o 7] ++ (failT k).map .b))) = lb (lineK k w) := by
    show AV.lit (.string ⟨(([SP.b 46, .b 91, .o 7] ++ (failT k).map SP.b).flatMap (@SP.val (vlG i w))).toArray⟩) = lb ([46, 91] ++ w ++ (failT k).map UInt8.ofNat)
    have hm : ∀ l : List Nat, (l.map SP.b).flatMap (@SP.val (vlG i w)) = l.map UInt8.ofNat := by
      intro l
      induction l with
      | nil => rfl
      | cons a l ih => rw [List.map_cons, List.flatMap_cons, ih]; rfl
    rw [List.flatMap_append, hm]
    show AV.lit (.string ⟨(((46 : UInt8) :: 91 :: (w ++ [])) ++ (failT k).map UInt8.ofNat).toArray⟩) = _
    rw [List.append_nil]; rfl
  show AV.tup [@denA (vlG i w) 19 (.agg (failP k (ni 100))), @denA (vlG i w) 19 (.sym (.str ([.b 46, .b 91, .o 7] ++ (failT k).map .b)))] = _
  rw [hp, ht, @ni_den (vlG i w) 16]; rfl
theorem failure_cs {i k : Nat} {w : List UInt8} (hi : i ≤ 1199) (h1 : 1 ≤ k) (h7 : k ≤ 7) (hw : 1 ≤ w.length ∧ w.length ≤ 4) (hc : CS Tryz.prog 23 [lI i] (lb w)) :
    CS Tryz.prog 6 [lI i, lI k] (.tup [.agg (failP k (lI i)), lb (lineK k w)]) := by
  have ok : @Cfg.OK (vlG i w) cfG := by
    refine cfgOK_of (fun p hp => ?_) (fun f hf => by cases hf) (fun a row h => by cases h) rfl (fun p hp => ?_) (fun p hp => by cases hp) (fun p hp => by cases hp)
    · simp only [cfG, List.mem_cons, List.not_mem_nil, or_false] at hp
      rcases hp with rfl | rfl
      · show (0 : Int) ≤ (i : Nat) ∧ ((i : Nat) : Int) ≤ 1199; omega
      · show (1 : Int) ≤ (w.length : Nat) ∧ ((w.length : Nat) : Int) ≤ 4; omega
    · simp only [cfG, List.mem_cons, List.not_mem_nil, or_false] at hp
      subst hp
      show ((w.length : Nat) : Int) = 1 * ((w.length : Nat) : Int) + 0 + 0; omega
  have tell := @tellOf (vlG i w) _ ok rfl rfl fun f xs r hp => by
    simp only [cfG, List.mem_cons, List.not_mem_nil, or_false] at hp
    obtain ⟨rfl, rfl, rfl⟩ := hp
    refine @CS.call (vlG i w) _ _ _ _ _ _ _ hc Tryz.func23 (names1 _ _ Tryz.func23) rfl ?_ (one_pure .lit) (@so_den (vlG i w) 19 7) .lit
    show [@denA (vlG i w) 20 (ni 100)] = _
    rw [@ni_den (vlG i w) 19]; rfl
  have hk := mem7 h1 h7
  refine @cs_of (vlG i w) _ [] ok tell (by simp) 100 6 _ _ (List.all_eq_true.1 kG k hk) _ _ ?_ (failP_den i w hk) (two_pure .lit .lit) ?_
  · show [@denA (vlG i w) 20 (ni 100), @denA (vlG i w) 20 (lI k)] = _
    rw [@ni_den (vlG i w) 19]; rfl
  · simp only [List.mem_cons, List.not_mem_nil, or_false] at hk
    rcases hk with rfl | rfl | rfl | rfl | rfl | rfl | rfl <;> exact pureB_ok (n := 20) rfl
end Go.Abs
end
