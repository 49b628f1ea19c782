/- Part 14 of the proof that TopRows returns true for every input of its row (no condition beyond the row). -/
import Derived.Test.YthoapgncpjhloaaGreatDoorJ12
import Derived.Test.YthoapgncpjhloaaGreatDoorJ13
set_option linter.unusedVariables false
set_option linter.unusedSimpArgs false
set_option linter.unusedSectionVars false
set_option linter.all false
section
open Go.Proofs
set_option maxRecDepth 100000
namespace Go.Abs
def decG (s e : Nat) (o : Int) : AV := .agg [lB false, so s, mkI .i64 ([(e, 1)], o)]
def chG (m : Nat) : AV := .sym (.str (List.replicate m (.e ([(9, 1)], 0))))
def cfGt (par md : Nat) : Cfg := { cfg0 with
  bd := [(1, 0, 65535), (2, 0, 65535), (3, 0, 65535), (4, 0, 1199), (5, 0, 65535), (9, 120, 122), (21, 0, 6), (22, 0, 6), (23, 0, 6)]
  nl := [(.rem, .i64, at1 5, ([], 3), ([], md)), (.rem, .i64, at1 5, ([], 2), ([], par))]
  ct := [(18, [ruleN, ni 4], ni 5), (21, [ruleN, ni 4], chG 1), (22, [ni 5], decG 11 21 0), (22, [.sym (.int .i64 ([(3, 1)], 1))], decG 12 22 0), (22, [.sym (.int .i64 ([(5, 10)], 5))], decG 13 23 0)] }
/-- has the row tags, how many -/
def cntG (par k : Nat) : Nat := match isK k 6 with
  | true => 3
  | false => match isK k 7 || isK par 0 with
    | true => 2
    | false => 0
def gDa (k : Nat) : AV := match k with | 1 => so 12 | 2 => so 13 | _ => so 11
def gEa (k : Nat) : AV := match k with | 1 => ni 22 | 2 => mkI .i64 ([(23, 1)], -1) | _ => ni 21
def gB (md k : Nat) : AV := match k with | 3 => lS [] | _ => chG (md + 1)
def gT (k : Nat) : AV := match k with | 7 => lS [113] | _ => chG 1
def rowG (par md k : Nat) : AV := .agg (rowV (fldV (!(isK k 4)) (isK k 5) (cntG par k) (gDa k) (gEa k) (gB md k) (gT k)))
noncomputable def runGt (par md k : Nat) : Bool := okTop (topF (cfGt par md) [] Tryz.prog 100 5 [ruleN, ni 4, lI k]) (rowG par md k)
theorem kGt : (([0, 1] : List Nat).all fun par => ([0, 1, 2] : List Nat).all fun md => ([0, 1, 2, 3, 4, 5, 6, 7] : List Nat).all fun k => runGt par md k) = true := by kernel_rfl
end Go.Abs
end
section
open Go.Proofs
set_option maxRecDepth 100000
namespace Go.Abs
noncomputable def shq (x : Nat) : Nat × Nat := open Classical in if h : ∃ p : Nat × Nat, Shp x p.1 p.2 then h.choose else (0, 0)
theorem shq_ok {x : Nat} (h : x < 1000000) : Shp x (shq x).1 (shq x).2 := by
  obtain ⟨k, z, hs⟩ := Shp.ex h
  have he : ∃ p : Nat × Nat, Shp x p.1 p.2 := ⟨(k, z), hs⟩
  unfold shq
  rw [dif_pos he]
  exact he.choose_spec
noncomputable def dgs (x : Nat) : List UInt8 := digB x ((shq x).1 - (shq x).2) (shq x).2
noncomputable def exq (x : Nat) : Int := expK (shq x).1 (shq x).2 0
theorem dec_cs {x : Nat} (h : x < 1000000) : CS Tryz.prog 22 [lI x] (decL (dgs x) (exq x)) := fromInt_cs (shq_ok h)
theorem exq_le {x : Nat} (h : x < 1000000) : 0 ≤ exq x ∧ exq x ≤ 5 := by
  have s := shq_ok h
  have := s.zk
  have := s.k6
  have := s.nz
  unfold exq expK
  cases hb : Nat.beq (shq x).1 0 with
  | true => simp
  | false =>
    have := Nat.ne_of_beq_eq_false hb
    simp only
    omega
theorem dgs_len {x : Nat} (h : x < 1000000) : (dgs x).length ≤ 6 := by
  have := (shq_ok h).k6
  unfold dgs
  rw [digB_len]; omega
theorem good_dgs {mo x : Nat} (h : x < 1000000) (hx : x ≤ mo) : goodN mo (dgs x) (exq x) := ⟨x, _, _, hx, shq_ok h, rfl, rfl⟩
/-- the letter of row i -/
def chA (mu ad mo i : Nat) : UInt8 := UInt8.ofNat ((atK mu ad mo i + i) % 3 + 120)
theorem chA_nat (mu ad mo i : Nat) : (chA mu ad mo i).toNat = (atK mu ad mo i + i) % 3 + 120 := by
  unfold chA
  rw [UInt8.toNat_ofNat']
  omega
noncomputable def rowA (mu ad mo i kd : Nat) : RowD where
  a := !(isK kd 4)
  da := match kd with
    | 1 => dgs (mo + 1)
    | 2 => dgs (10 * atK mu ad mo i + 5)
    | _ => dgs (atK mu ad mo i)
  ea := match kd with
    | 1 => exq (mo + 1)
    | 2 => exq (10 * atK mu ad mo i + 5) - 1
    | _ => exq (atK mu ad mo i)
  b := match kd with
    | 3 => []
    | _ => List.replicate (atK mu ad mo i % 3 + 1) (chA mu ad mo i)
  d := isK kd 5
  c := cntG (atK mu ad mo i % 2) kd
  t := match kd with
    | 7 => [113]
    | _ => [chA mu ad mo i]
noncomputable abbrev vlGt (mu ad mo i : Nat) : VL :=
  ⟨fun a => if a = 1 then (mu : Nat) else if a = 2 then (ad : Nat) else if a = 3 then (mo : Nat) else if a = 4 then (i : Nat) else if a = 5 then (atK mu ad mo i : Nat) else if a = 9 then ((atK mu ad mo i + i) % 3 + 120 : Nat)
      else if a = 21 then exq (atK mu ad mo i) else if a = 22 then exq (mo + 1) else if a = 23 then exq (10 * atK mu ad mo i + 5) else 0,
   fun a => if a = 11 then dgs (atK mu ad mo i) else if a = 12 then dgs (mo + 1) else if a = 13 then dgs (10 * atK mu ad mo i + 5) else [], fun _ => false, fun _ => [], fun _ => .emp, fun _ _ _ => False⟩
section
variable {mu ad mo i : Nat}
theorem atK_le (h : RuleOK mu ad mo i) : atK mu ad mo i ≤ mo := by
  have := Nat.mod_lt (mu * i + ad) (by omega : 0 < mo + 1)
  unfold atK; omega
theorem cfGt_ok (h : RuleOK mu ad mo i) : @Cfg.OK (vlGt mu ad mo i) (cfGt (atK mu ad mo i % 2) (atK mu ad mo i % 3)) := by
  have ha := atK_le h
  obtain ⟨h1, h2, h3, h4⟩ := h
  refine cfgOK_of (fun p hp => ?_) (fun f hf => by cases hf) (fun a row h => by cases h) rfl (fun p hp => by cases hp) (fun p hp => by cases hp) (fun p hp => by cases hp)
    (nl := fun o k x y z hz t => ?_)
  · simp only [cfGt, List.mem_cons, List.not_mem_nil, or_false] at hp
    rcases hp with rfl | rfl | rfl | rfl | rfl | rfl | rfl | rfl | rfl
    · show (0 : Int) ≤ (mu : Nat) ∧ ((mu : Nat) : Int) ≤ 65535; omega
    · show (0 : Int) ≤ (ad : Nat) ∧ ((ad : Nat) : Int) ≤ 65535; omega
    · show (0 : Int) ≤ (mo : Nat) ∧ ((mo : Nat) : Int) ≤ 65535; omega
    · show (0 : Int) ≤ (i : Nat) ∧ ((i : Nat) : Int) ≤ 1199; omega
    · show (0 : Int) ≤ (atK mu ad mo i : Nat) ∧ ((atK mu ad mo i : Nat) : Int) ≤ 65535; omega
    · show (120 : Int) ≤ ((atK mu ad mo i + i) % 3 + 120 : Nat) ∧ (((atK mu ad mo i + i) % 3 + 120 : Nat) : Int) ≤ 122; omega
    · show (0 : Int) ≤ exq (atK mu ad mo i) ∧ exq (atK mu ad mo i) ≤ 6
      have := exq_le (x := atK mu ad mo i) (by omega); omega
    · show (0 : Int) ≤ exq (mo + 1) ∧ exq (mo + 1) ≤ 6
      have := exq_le (x := mo + 1) (by omega); omega
    · show (0 : Int) ≤ exq (10 * atK mu ad mo i + 5) ∧ exq (10 * atK mu ad mo i + 5) ≤ 6
      have := exq_le (x := 10 * atK mu ad mo i + 5) (by omega); omega
  · simp only [cfGt, List.mem_cons, List.not_mem_nil, or_false, Prod.mk.injEq] at hz
    have e1 : @Lin.val (vlGt mu ad mo i) (at1 5) = (atK mu ad mo i : Nat) := by show 1 * ((atK mu ad mo i : Nat) : Int) + 0 + 0 = _; omega
    rcases hz with ⟨rfl, rfl, rfl, rfl, rfl⟩ | ⟨rfl, rfl, rfl, rfl, rfl⟩
    · have e3 : @Lin.val (vlGt mu ad mo i) ([], ((atK mu ad mo i % 3 : Nat) : Int)) = (atK mu ad mo i % 3 : Nat) := by show 0 + _ = _; omega
      rw [e1, e3]
      exact binOp_remN t _ 3 (by omega)
    · have e3 : @Lin.val (vlGt mu ad mo i) ([], ((atK mu ad mo i % 2 : Nat) : Int)) = (atK mu ad mo i % 2 : Nat) := by show 0 + _ = _; omega
      rw [e1, e3]
      exact binOp_remN t _ 2 (by omega)
theorem u16_denG (m a : Nat) : @denA (vlGt mu ad mo i) (m + 1) (u16 a) = lU16 (@VL.i (vlGt mu ad mo i) a) := by
  show AV.lit (.int .u16 (1 * _ + 0 + 0)) = _
  simp [lU16]
theorem rule_denG : @denA (vlGt mu ad mo i) 20 ruleN = ruleK mu ad mo := by
  show AV.agg [@denA (vlGt mu ad mo i) 19 (u16 1), @denA (vlGt mu ad mo i) 19 (u16 2), @denA (vlGt mu ad mo i) 19 (u16 3)] = _
  rw [u16_denG 18, u16_denG 18, u16_denG 18]; rfl
theorem i4_denG (m : Nat) : @denA (vlGt mu ad mo i) (m + 1) (ni 4) = lI i := @ni_den (vlGt mu ad mo i) m 4
theorem chG_den (n m : Nat) : @denA (vlGt mu ad mo i) (n + 1) (chG m) = lb (List.replicate m (chA mu ad mo i)) := by
  show AV.lit (.string ⟨((List.replicate m (SP.e ([(9, 1)], 0))).flatMap (@SP.val (vlGt mu ad mo i))).toArray⟩) = _
  have hc : @SP.val (vlGt mu ad mo i) (.e ([(9, 1)], 0)) = [chA mu ad mo i] := by
    show [UInt8.ofNat (1 * (((atK mu ad mo i + i) % 3 + 120 : Nat) : Int) + 0 + 0).toNat] = _
    have : (1 * (((atK mu ad mo i + i) % 3 + 120 : Nat) : Int) + 0 + 0).toNat = (atK mu ad mo i + i) % 3 + 120 := by omega
    rw [this]; rfl
  have : (List.replicate m (SP.e ([(9, 1)], 0))).flatMap (@SP.val (vlGt mu ad mo i)) = List.replicate m (chA mu ad mo i) := by
    induction m with
    | zero => rfl
    | succ m ih => rw [List.replicate_succ, List.flatMap_cons, ih, hc]; rfl
  rw [this]; rfl
theorem decG_den (s e : Nat) (o : Int) : @denA (vlGt mu ad mo i) 20 (decG s e o) = decL (@VL.s (vlGt mu ad mo i) s) (@VL.i (vlGt mu ad mo i) e + o) := by
  show AV.agg [_, @denA (vlGt mu ad mo i) 19 (so s), .lit (.int .i64 (1 * _ + 0 + o))] = _
  rw [@so_den (vlGt mu ad mo i) 18]
  simp only [decL, lI, lb, lB, Int.one_mul, Int.add_zero]
  rfl
theorem at_le6 (h : RuleOK mu ad mo i) : atK mu ad mo i < 1000000 ∧ mo + 1 < 1000000 ∧ 10 * atK mu ad mo i + 5 < 1000000 := by
  have := atK_le h
  have := h.mo
  omega
theorem tellGt (h : RuleOK mu ad mo i) : @Tell (vlGt mu ad mo i) (cfGt (atK mu ad mo i % 2) (atK mu ad mo i % 3)) Tryz.prog := by
  obtain ⟨l1, l2, l3⟩ := at_le6 h
  refine @tellOf (vlGt mu ad mo i) _ (cfGt_ok h) rfl rfl fun f xs r hp => ?_
  simp only [cfGt, List.mem_cons, List.not_mem_nil, or_false, Prod.mk.injEq] at hp
  rcases hp with ⟨rfl, rfl, rfl⟩ | ⟨rfl, rfl, rfl⟩ | ⟨rfl, rfl, rfl⟩ | ⟨rfl, rfl, rfl⟩ | ⟨rfl, rfl, rfl⟩
  · refine @CS.call (vlGt mu ad mo i) _ _ _ _ _ _ _ (at_cs h) Tryz.func18 (names1 _ _ Tryz.func18) rfl ?_ (two_pure (pureB_ok (n := 20) rfl) .lit) (@ni_den (vlGt mu ad mo i) 19 5) .lit
    show [@denA (vlGt mu ad mo i) 20 ruleN, @denA (vlGt mu ad mo i) 20 (ni 4)] = _
    rw [rule_denG, i4_denG]
  · refine @CS.call (vlGt mu ad mo i) _ _ _ _ _ _ _ (name_cs h) Tryz.func21 (names1 _ _ Tryz.func21) rfl ?_ (two_pure (pureB_ok (n := 20) rfl) .lit) (chG_den 19 1) .lit
    show [@denA (vlGt mu ad mo i) 20 ruleN, @denA (vlGt mu ad mo i) 20 (ni 4)] = _
    rw [rule_denG, i4_denG]
  · refine @CS.call (vlGt mu ad mo i) _ _ _ _ _ _ _ (dec_cs l1) Tryz.func22 (names1 _ _ Tryz.func22) rfl ?_ (one_pure .lit) ?_ (decL_pure _ _)
    · show [@denA (vlGt mu ad mo i) 20 (ni 5)] = _
      rw [@ni_den (vlGt mu ad mo i) 19]; rfl
    · rw [decG_den, Int.add_zero]; rfl
  · refine @CS.call (vlGt mu ad mo i) _ _ _ _ _ _ _ (dec_cs l2) Tryz.func22 (names1 _ _ Tryz.func22) rfl ?_ (one_pure .lit) ?_ (decL_pure _ _)
    · show [AV.lit (.int .i64 (1 * (mo : Int) + 0 + 1))] = [AV.lit (.int .i64 ((mo + 1 : Nat) : Int))]
      rw [show (1 * (mo : Int) + 0 + 1) = ((mo + 1 : Nat) : Int) by omega]
    · rw [decG_den, Int.add_zero]; rfl
  · refine @CS.call (vlGt mu ad mo i) _ _ _ _ _ _ _ (dec_cs l3) Tryz.func22 (names1 _ _ Tryz.func22) rfl ?_ (one_pure .lit) ?_ (decL_pure _ _)
    · show [AV.lit (.int .i64 (10 * ((atK mu ad mo i : Nat) : Int) + 0 + 5))] = [AV.lit (.int .i64 ((10 * atK mu ad mo i + 5 : Nat) : Int))]
      rw [show (10 * ((atK mu ad mo i : Nat) : Int) + 0 + 5) = ((10 * atK mu ad mo i + 5 : Nat) : Int) by omega]
    · rw [decG_den, Int.add_zero]; rfl
theorem rowA_sh {kd : Nat} (hk : kd ≤ 7) : (rowA mu ad mo i kd).sh ∈ shs := by
  have hp : atK mu ad mo i % 2 = 0 ∨ atK mu ad mo i % 2 = 1 := by omega
  have hh : ∀ p, p = 0 ∨ p = 1 → (!(isK kd 4), isK kd 5, cntG p kd) ∈ shs := by
    rintro p (rfl | rfl)
    all_goals
      have : kd = 0 ∨ kd = 1 ∨ kd = 2 ∨ kd = 3 ∨ kd = 4 ∨ kd = 5 ∨ kd = 6 ∨ kd = 7 := by omega
      rcases this with rfl | rfl | rfl | rfl | rfl | rfl | rfl | rfl <;> decide
  exact hh _ hp
theorem g_da (kd : Nat) : @denA (vlGt mu ad mo i) 18 (gDa kd) = lb (rowA mu ad mo i kd).da := match kd with
  | 0 => @so_den (vlGt mu ad mo i) 17 11
  | 1 => @so_den (vlGt mu ad mo i) 17 12
  | 2 => @so_den (vlGt mu ad mo i) 17 13
  | n + 3 => @so_den (vlGt mu ad mo i) 17 11
theorem g_ea (kd : Nat) : @denA (vlGt mu ad mo i) 18 (gEa kd) = lI (rowA mu ad mo i kd).ea := match kd with
  | 0 => @ni_den (vlGt mu ad mo i) 17 21
  | 1 => @ni_den (vlGt mu ad mo i) 17 22
  | 2 => by
    show AV.lit (.int .i64 (1 * exq (10 * atK mu ad mo i + 5) + 0 + -1)) = AV.lit (.int .i64 (exq (10 * atK mu ad mo i + 5) - 1))
    rw [show 1 * exq (10 * atK mu ad mo i + 5) + 0 + -1 = exq (10 * atK mu ad mo i + 5) - 1 by omega]
  | n + 3 => @ni_den (vlGt mu ad mo i) 17 21
theorem g_b (kd : Nat) : @denA (vlGt mu ad mo i) 18 (gB (atK mu ad mo i % 3) kd) = lb (rowA mu ad mo i kd).b := match kd with
  | 0 => chG_den 17 _
  | 1 => chG_den 17 _
  | 2 => chG_den 17 _
  | 3 => rfl
  | n + 4 => chG_den 17 _
theorem g_t (kd : Nat) : @denA (vlGt mu ad mo i) 17 (gT kd) = lb (rowA mu ad mo i kd).t := match kd with
  | 0 => chG_den 16 _
  | 1 => chG_den 16 _
  | 2 => chG_den 16 _
  | 3 => chG_den 16 _
  | 4 => chG_den 16 _
  | 5 => chG_den 16 _
  | 6 => chG_den 16 _
  | 7 => rfl
  | n + 8 => chG_den 16 _
theorem rowG_den {kd : Nat} (hk : kd ≤ 7) : @denA (vlGt mu ad mo i) 20 (rowG (atK mu ad mo i % 2) (atK mu ad mo i % 3) kd) = .agg (rowV (rowA mu ad mo i kd).fs) := by
  have hs := rowA_sh (mu := mu) (ad := ad) (mo := mo) (i := i) hk
  show AV.agg ((rowV (fldV (rowA mu ad mo i kd).a (rowA mu ad mo i kd).d (rowA mu ad mo i kd).c _ _ _ _)).map (@denA (vlGt mu ad mo i) 19)) = _
  rw [@fld_den19 (vlGt mu ad mo i) _ _ _ hs, g_da, g_ea, g_b, g_t]
  rfl
theorem tagged_cs (h : RuleOK mu ad mo i) {kd : Nat} (hk : kd ≤ 7) : CS Tryz.prog 5 [ruleK mu ad mo, lI i, lI kd] (.agg (rowV (rowA mu ad mo i kd).fs)) := by
  have hr := List.all_eq_true.1 (List.all_eq_true.1 (List.all_eq_true.1 kGt (atK mu ad mo i % 2) (by simp only [List.mem_cons, List.not_mem_nil, or_false]; omega)) (atK mu ad mo i % 3) (by simp only [List.mem_cons, List.not_mem_nil, or_false]; omega)) kd (by simp only [List.mem_cons, List.not_mem_nil, or_false]; omega)
  refine @cs_of (vlGt mu ad mo i) _ [] (cfGt_ok h) (tellGt h) (by simp) 100 5 _ _ hr _ _ ?_ (rowG_den hk) (three_pure (pureB_ok (n := 20) rfl) .lit .lit) ?_
  · show [@denA (vlGt mu ad mo i) 20 ruleN, @denA (vlGt mu ad mo i) 20 (ni 4), _] = _
    rw [rule_denG, i4_denG]; rfl
  · exact .agg fun x hx => (rowV_ok (fs_ok (rowA_sh hk)) x hx).2
end
end Go.Abs
end
