/- Part 11 of the proof that TopRows returns true for every input of its row (no condition beyond the row). -/
import Derived.Test.YthoapgncpjhloaaGreatDoorJ10
set_option linter.unusedVariables false
set_option linter.unusedSimpArgs false
set_option linter.unusedSectionVars false
set_option linter.all false
section
open Go.Proofs
set_option maxRecDepth 100000
namespace Go.Abs
/-- a class of rows: shape, the tag's letter if it counts, whether the number and the text are as they must be, whether the row is -/
structure ClP where
  sh : Bool × Bool × Nat
  t : Option Nat
  ga : Bool
  gb : Bool
  good : Bool
def clsP : List ClP := [⟨(true, false, 0), none, true, true, true⟩, ⟨(true, false, 2), some 120, true, true, true⟩, ⟨(true, false, 2), some 121, true, true, true⟩, ⟨(true, false, 2), some 122, true, true, true⟩,
  ⟨(true, false, 0), none, false, true, false⟩, ⟨(true, false, 2), none, false, true, false⟩, ⟨(true, false, 0), none, true, false, false⟩, ⟨(true, false, 2), none, true, false, false⟩,
  ⟨(false, false, 0), none, true, true, false⟩, ⟨(false, false, 2), none, true, true, false⟩, ⟨(true, true, 0), none, true, true, false⟩, ⟨(true, true, 2), none, true, true, false⟩,
  ⟨(true, false, 3), none, true, true, false⟩, ⟨(true, false, 2), some 113, true, true, false⟩]
def tN (t : Option Nat) : AV := match t with
  | some l => lS [l]
  | none => so 1003
def rwN : AV := .agg (rwS (so 0) (ni 2))
def rowN (sh : Bool × Bool × Nat) (t : Option Nat) : AV := .agg (rowV (fldV sh.1 sh.2.1 sh.2.2 (so 1000) (ni 1001) (so 1002) (tN t)))
def setN : AV := .agg [numS (so 0) (ni 2)]
def cfP (ga gb : Bool) : Cfg := { cfg0 with
  bd := [(1005, match gb with | true => 1 | false => 0, match gb with | true => 3 | false => 0)]
  ct := [(103, [setN, decN], lB ga), (105, [so 1002], ni 1005)] }
noncomputable def runP (c : ClP) : Bool := okTop (topF (cfP c.ga c.gb) [] Tryz.prog 100 64 [scN, rwN, rowN c.sh c.t]) (lB c.good)
theorem kP : clsP.all runP = true := by kernel_rfl
end Go.Abs
end
section
open Go.Proofs
set_option maxRecDepth 100000
namespace Go.Abs
def loG (gb : Bool) : Int := match gb with | true => 1 | false => 0
def hiG (gb : Bool) : Int := match gb with | true => 3 | false => 0
/-- the parts of a row, and how long its text is -/
abbrev vlP (db : List UInt8) (e : Int) (most : Nat) (r : RowD) (n : Int) : VL :=
  ⟨fun a => if a = 2 then e else if a = 1 then (most : Int) else if a = 1001 then r.ea else if a = 1005 then n else 0,
   fun a => if a = 0 then db else if a = 1000 then r.da else if a = 1002 then r.b else if a = 1003 then r.t else [], fun _ => false, fun _ => [], fun _ => .emp, fun _ _ _ => False⟩
def setB2 (db : List UInt8) (e : Int) : AV := .agg [numS (.lit (.string ⟨db.toArray⟩)) (lI e)]
/-- what a row's class says of it -/
structure InP (db : List UInt8) (e : Int) (r : RowD) (c : ClP) (n : Int) : Prop where
  mem : c ∈ clsP
  sh : r.sh = c.sh
  t : ∀ l, c.t = some l → r.t = [UInt8.ofNat l]
  g : CS Tryz.prog 103 [setB2 db e, decL r.da r.ea] (lB c.ga)
  l : CS Tryz.prog 105 [lb r.b] (lI n)
  n : loG c.gb ≤ n ∧ n ≤ hiG c.gb
theorem fld_den19 [VL] {a d : Bool} {c : Nat} (h : (a, d, c) ∈ shs) (x y z w : AV) : (rowV (fldV a d c x y z w)).map (denA 19) = rowV (fldV a d c (denA 18 x) (denA 18 y) (denA 18 z) (denA 17 w)) := by
  simp only [shs, List.mem_cons, List.not_mem_nil, or_false, Prod.mk.injEq] at h
  rcases h with ⟨rfl, rfl, rfl⟩ | ⟨rfl, rfl, rfl⟩ | ⟨rfl, rfl, rfl⟩ | ⟨rfl, rfl, rfl⟩ | ⟨rfl, rfl, rfl⟩ | ⟨rfl, rfl, rfl⟩ | ⟨rfl, rfl, rfl⟩ <;> rfl
theorem clsP_sh {c : ClP} (h : c ∈ clsP) : c.sh ∈ shs := by
  simp only [clsP, List.mem_cons, List.not_mem_nil, or_false] at h
  rcases h with rfl | rfl | rfl | rfl | rfl | rfl | rfl | rfl | rfl | rfl | rfl | rfl | rfl | rfl <;> simp [shs]
section
variable {db : List UInt8} {e : Int} {most : Nat} {r : RowD} {n : Int} {c : ClP}
theorem vlP_s0 (m : Nat) : @denA (vlP db e most r n) (m + 1) (so 0) = .lit (.string ⟨db.toArray⟩) := @so_den (vlP db e most r n) m 0
theorem vlP_s1000 (m : Nat) : @denA (vlP db e most r n) (m + 1) (so 1000) = lb r.da := @so_den (vlP db e most r n) m 1000
theorem vlP_s1002 (m : Nat) : @denA (vlP db e most r n) (m + 1) (so 1002) = lb r.b := @so_den (vlP db e most r n) m 1002
theorem vlP_s1003 (m : Nat) : @denA (vlP db e most r n) (m + 1) (so 1003) = lb r.t := @so_den (vlP db e most r n) m 1003
theorem vlP_i2 (m : Nat) : @denA (vlP db e most r n) (m + 1) (ni 2) = lI e := @ni_den (vlP db e most r n) m 2
theorem vlP_i1 (m : Nat) : @denA (vlP db e most r n) (m + 1) (ni 1) = lI most := @ni_den (vlP db e most r n) m 1
theorem vlP_i1001 (m : Nat) : @denA (vlP db e most r n) (m + 1) (ni 1001) = lI r.ea := @ni_den (vlP db e most r n) m 1001
theorem vlP_i1005 (m : Nat) : @denA (vlP db e most r n) (m + 1) (ni 1005) = lI n := @ni_den (vlP db e most r n) m 1005
theorem tN_den (h : InP db e r c n) (m : Nat) : @denA (vlP db e most r n) (m + 1) (tN c.t) = lb r.t := by
  cases ht : c.t with
  | none => exact vlP_s1003 m
  | some l => rw [h.t l ht]; rfl
theorem cfP_ok (h : InP db e r c n) : @Cfg.OK (vlP db e most r n) (cfP c.ga c.gb) := by
  refine cfgOK_of (fun p hp => ?_) (fun f hf => by cases hf) (fun a row h => by cases h) rfl (fun p hp => by cases hp) (fun p hp => by cases hp) (fun p hp => by cases hp)
  simp only [cfP, List.mem_cons, List.not_mem_nil, or_false] at hp
  subst hp
  exact h.n
theorem setN_den : @denA (vlP db e most r n) 20 setN = setB2 db e := by
  show AV.agg [.ro 11 [[_, _, _, _, _, _, _, @denA (vlP db e most r n) 18 (so 0), @denA (vlP db e most r n) 18 (ni 2), _, _]]] = _
  rw [vlP_s0 17, vlP_i2 17]; rfl
theorem decN_den : @denA (vlP db e most r n) 20 decN = decL r.da r.ea := by
  show AV.agg [_, @denA (vlP db e most r n) 19 (so 1000), @denA (vlP db e most r n) 19 (ni 1001)] = _
  rw [vlP_s1000 18, vlP_i1001 18]; rfl
theorem cfP_tell (h : InP db e r c n) : @Tell (vlP db e most r n) (cfP c.ga c.gb) Tryz.prog := by
  refine @tellOf (vlP db e most r n) _ (cfP_ok h) rfl rfl fun f xs y hp => ?_
  simp only [cfP, List.mem_cons, List.not_mem_nil, or_false] at hp
  rcases hp with ⟨rfl, rfl, rfl⟩ | ⟨rfl, rfl, rfl⟩
  · refine @CS.call (vlP db e most r n) _ _ _ _ _ _ _ h.g Tryz.func103 (names1 _ _ Tryz.func103) rfl ?_ ?_ rfl .lit
    · show [@denA (vlP db e most r n) 20 setN, @denA (vlP db e most r n) 20 decN] = _
      rw [setN_den, decN_den]
    · intro x hx
      simp only [List.mem_cons, List.not_mem_nil, or_false] at hx
      rcases hx with rfl | rfl
      · exact pureB_ok (n := 20) rfl
      · exact decL_pure _ _
  · refine @CS.call (vlP db e most r n) _ _ _ _ _ _ _ h.l Tryz.func105 (names1 _ _ Tryz.func105) rfl ?_ (by simp; exact .lit) (vlP_i1005 19) .lit
    show [@denA (vlP db e most r n) 20 (so 1002)] = _
    rw [vlP_s1002 19]
theorem permits_row (h : InP db e r c n) (most : Nat) : CS Tryz.prog 64 [scK db e most, rwK db e, .agg (rowV r.fs)] (lB c.good) := by
  have hk := List.all_eq_true.1 kP _ h.mem
  refine @cs_of (vlP db e most r n) (cfP c.ga c.gb) [] (cfP_ok h) (cfP_tell h) (by simp) 100 64 _ _ hk _ _ ?_ rfl ?_ .lit
  · show [@denA (vlP db e most r n) 20 (scV (so 0) (ni 2) (ni 1)), @denA (vlP db e most r n) 20 (.agg (rwS (so 0) (ni 2))), AV.agg ((rowV (fldV c.sh.1 c.sh.2.1 c.sh.2.2 (so 1000) (ni 1001) (so 1002) (tN c.t))).map (@denA (vlP db e most r n) 19))] = _
    rw [@scV_den (vlP db e most r n), @rwS_den (vlP db e most r n), vlP_s0 15, vlP_i2 15, vlP_i1 18, vlP_s0 16, vlP_i2 16]
    have hf : (rowV (fldV c.sh.1 c.sh.2.1 c.sh.2.2 (so 1000) (ni 1001) (so 1002) (tN c.t))).map (@denA (vlP db e most r n) 19) = rowV r.fs := by
      have h1 : c.sh ∈ shs := clsP_sh h.mem
      have h2 : r.fs = fldV c.sh.1 c.sh.2.1 c.sh.2.2 (lb r.da) (lI r.ea) (lb r.b) (lb r.t) := by
        have := h.sh
        unfold RowD.fs
        rw [← this]; rfl
      rw [h2]
      obtain ⟨sh, t, ga, gb, good⟩ := c
      obtain ⟨a, d, cc⟩ := sh
      have := @fld_den19 (vlP db e most r n) a d cc h1 (so 1000) (ni 1001) (so 1002) (tN t)
      refine this.trans ?_
      rw [vlP_s1000 17, vlP_i1001 17, vlP_s1002 17, tN_den (most := most) h 16]
    rw [hf]; rfl
  · intro x hx
    simp only [List.mem_cons, List.not_mem_nil, or_false] at hx
    rcases hx with rfl | rfl | rfl
    · exact scK_pure _ _ _
    · exact rwK_pure _ _
    · exact agg_pure fun x hx => (rowV_ok (fs_ok (by rw [h.sh]; exact clsP_sh h.mem)) x hx).2
end
end Go.Abs
end
section
open Go.Proofs
set_option maxRecDepth 100000
namespace Go.Abs
def topN : AV := .agg [lB false, so 0, ni 2]
def cfM : Cfg := { cfg0 with
  bd := [(1, 0, 1200), (2, 0, 5), (3, 0, 7)]
  sl := [(0, at1 3)]
  ct := [(158, [topN], lB true)] }
noncomputable def runM (x : List AV) : Bool := okTop (topF cfM [] Tryz.prog 100 34 [.agg (defsV :: x)]) (lI 0)
theorem kM_root : runM (rootS (so 0) (ni 2) (ni 1)) = true := by kernel_rfl
theorem kM_a : runM (aS (so 0) (ni 2)) = true := by kernel_rfl
theorem kM_b : runM bS = true := by kernel_rfl
theorem kM_tag : runM tagS = true := by kernel_rfl
theorem kM_none : runM noneS = true := by kernel_rfl
abbrev vlM (db : List UInt8) (e : Int) (most : Nat) : VL :=
  ⟨fun a => if a = 2 then e else if a = 1 then (most : Int) else if a = 3 then (db.length : Nat) else 0, fun a => if a = 0 then db else [], fun _ => false, fun _ => [], fun _ => .emp, fun _ _ _ => False⟩
/-- what is told of the bound -/
structure TopOK (db : List UInt8) (e : Int) (most : Nat) : Prop where
  hm : most ≤ 1200
  he : 0 ≤ e ∧ e ≤ 5
  hl : db.length ≤ 7
  v : CS Tryz.prog 158 [decL db e] (lB true)
section
variable {db : List UInt8} {e : Int} {most : Nat}
theorem vlM_s0 (m : Nat) : @denA (vlM db e most) (m + 1) (so 0) = .lit (.string ⟨db.toArray⟩) := @so_den (vlM db e most) m 0
theorem vlM_i2 (m : Nat) : @denA (vlM db e most) (m + 1) (ni 2) = lI e := @ni_den (vlM db e most) m 2
theorem vlM_i1 (m : Nat) : @denA (vlM db e most) (m + 1) (ni 1) = lI most := @ni_den (vlM db e most) m 1
theorem cfM_ok (h : TopOK db e most) : @Cfg.OK (vlM db e most) cfM := by
  refine cfgOK_of (fun p hp => ?_) (fun f hf => by cases hf) (fun a row h => by cases h) rfl (fun p hp => ?_) (fun p hp => by cases hp) (fun p hp => by cases hp)
  · simp only [cfM, List.mem_cons, List.not_mem_nil, or_false] at hp
    rcases hp with rfl | rfl | rfl
    · show (0 : Int) ≤ (most : Int) ∧ (most : Int) ≤ 1200; have := h.hm; omega
    · exact h.he
    · show (0 : Int) ≤ (db.length : Nat) ∧ ((db.length : Nat) : Int) ≤ 7; have := h.hl; omega
  · simp only [cfM, List.mem_cons, List.not_mem_nil, or_false] at hp
    subst hp
    show ((db.length : Nat) : Int) = 1 * ((db.length : Nat) : Int) + 0 + 0; omega
theorem cfM_tell (h : TopOK db e most) : @Tell (vlM db e most) cfM Tryz.prog := by
  refine @tellOf (vlM db e most) _ (cfM_ok h) rfl rfl fun f xs y hp => ?_
  simp only [cfM, List.mem_cons, List.not_mem_nil, or_false] at hp
  obtain ⟨rfl, rfl, rfl⟩ := hp
  refine @CS.call (vlM db e most) _ _ _ _ _ _ _ h.v Tryz.func158 (names1 _ _ Tryz.func158) rfl ?_ (by simp; exact decL_pure _ _) rfl .lit
  show [AV.agg [_, @denA (vlM db e most) 19 (so 0), @denA (vlM db e most) 19 (ni 2)]] = _
  rw [vlM_s0 18, vlM_i2 18]; rfl
theorem schema_of (h : TopOK db e most) {x : List AV} {y : AV} (hk : runM x = true) (hd : @denA (vlM db e most) 20 (.agg (defsV :: x)) = y) (hp : Pure y) : CS Tryz.prog 34 [y] (lI 0) := by
  refine @cs_of (vlM db e most) cfM [] (cfM_ok h) (cfM_tell h) (by simp) 100 34 _ _ hk _ _ ?_ rfl (by simp; exact hp) .lit
  show [@denA (vlM db e most) 20 (.agg (defsV :: x))] = _
  rw [hd]
theorem schema_root (h : TopOK db e most) : CS Tryz.prog 34 [scK db e most] (lI 0) := by
  refine schema_of h kM_root ?_ (scK_pure _ _ _)
  show @denA (vlM db e most) 20 (scV (so 0) (ni 2) (ni 1)) = _
  rw [@scV_den (vlM db e most), vlM_s0 15, vlM_i2 15, vlM_i1 18]; rfl
def aK (db : List UInt8) (e : Int) : List AV := aS (.lit (.string ⟨db.toArray⟩)) (lI e)
theorem schema_a (h : TopOK db e most) : CS Tryz.prog 34 [.agg (defsV :: aK db e)] (lI 0) := by
  refine schema_of h kM_a ?_ (pureB_ok (n := 20) rfl)
  have : ∀ d x, @denA (vlM db e most) 20 (.agg (defsV :: aS d x)) = .agg (defsV :: aS (@denA (vlM db e most) 18 d) (@denA (vlM db e most) 18 x)) := fun _ _ => rfl
  rw [this, vlM_s0 17, vlM_i2 17]; rfl
theorem schema_b (h : TopOK db e most) : CS Tryz.prog 34 [.agg (defsV :: bS)] (lI 0) := schema_of h kM_b rfl (pureB_ok (n := 20) rfl)
theorem schema_tag (h : TopOK db e most) : CS Tryz.prog 34 [.agg (defsV :: tagS)] (lI 0) := schema_of h kM_tag rfl (pureB_ok (n := 20) rfl)
theorem schema_none (h : TopOK db e most) : CS Tryz.prog 34 [.agg (defsV :: noneS)] (lI 0) := schema_of h kM_none rfl (pureB_ok (n := 20) rfl)
end
/-! ### validate.Match, validate.Valid -/
def cfV (g : Bool) (x v : AV) (d : AV) : Cfg := { cfg0 with ct := [(34, [d], lI 0), (63, [v], lI 0), (64, [scN, x, v], lB g)] }
def rootN : AV := .agg (rootS (so 0) (ni 2) (ni 1))
noncomputable def runV12 (g : Bool) : Bool := okTop (topF (cfV g rootN vN scN) [] Tryz.prog 100 12 [scN, vN]) (.tup [lB g, lI 0])
theorem kV12_t : runV12 true = true := by kernel_rfl
theorem kV12_f : runV12 false = true := by kernel_rfl
noncomputable def run64 (g : Bool) : Bool := okTop (topF { cfg0 with ct := [(109, [scN, rootN, vN], lB g)] } [] Tryz.prog 100 64 [scN, rootN, vN]) (lB g)
theorem k64_t : run64 true = true := by kernel_rfl
theorem k64_f : run64 false = true := by kernel_rfl
end Go.Abs
end
section
open Go.Proofs
set_option maxRecDepth 100000
namespace Go.Abs
section
variable {db : List UInt8} {e : Int} {most : Nat} {fss : List (List (List AV))}
theorem cfV_ok {g : Bool} {x v d : AV} (n : Nat) (hF : ∀ fs, fs ∈ fss → FOK fs) : @Cfg.OK (vlC n most db e fss 0) (cfV g x v d) :=
  cfgOK_of (fun p hp => by cases hp) (fun f hf => by cases hf) (vlC_rd hF 0) rfl (fun p hp => by cases hp) (fun p hp => by cases hp) (fun p hp => by cases hp)
theorem cf64_ok {g : Bool} (n : Nat) (hF : ∀ fs, fs ∈ fss → FOK fs) : @Cfg.OK (vlC n most db e fss 0) { cfg0 with ct := [(109, [scN, rootN, vN], lB g)] } :=
  cfgOK_of (fun p hp => by cases hp) (fun f hf => by cases hf) (vlC_rd hF 0) rfl (fun p hp => by cases hp) (fun p hp => by cases hp) (fun p hp => by cases hp)
theorem args_den (n : Nat) : [scN, rootN, vN].map (@denA (vlC n most db e fss 0) 20) = [scK db e most, rootK db e most, vvK fss] := by
  show [@denA (vlC n most db e fss 0) 20 scN, @denA (vlC n most db e fss 0) 20 _, @denA (vlC n most db e fss 0) 20 vN] = _
  rw [scN_den, vN_den]
  show [_, @denA (vlC n most db e fss 0) 20 (.agg (rootS (so 0) (ni 2) (ni 1))), _] = _
  rw [rootN_den]
theorem permits_root {g : Bool} (hF : ∀ fs, fs ∈ fss → FOK fs) (h : CS Tryz.prog 109 [scK db e most, rootK db e most, vvK fss] (lB g)) : CS Tryz.prog 64 [scK db e most, rootK db e most, vvK fss] (lB g) := by
  have ok := cf64_ok (db := db) (e := e) (most := most) (g := g) 0 hF
  have tell := @tellOf (vlC 0 most db e fss 0) _ ok rfl rfl fun f xs r hp => by
    simp only [List.mem_cons, List.not_mem_nil, or_false] at hp
    obtain ⟨rfl, rfl, rfl⟩ := hp
    exact @CS.call (vlC 0 most db e fss 0) _ _ _ _ _ _ _ h Tryz.func109 (names1 _ _ Tryz.func109) rfl (args_den 0) (args_pure hF) rfl .lit
  have hk : run64 g = true := by cases g; exact k64_f; exact k64_t
  exact @cs_of (vlC 0 most db e fss 0) _ [] ok tell (by simp) 100 64 _ _ hk _ _ (args_den 0) rfl (args_pure hF) .lit
theorem valid_list {g : Bool} (hF : ∀ fs, fs ∈ fss → FOK fs) (h1 : CS Tryz.prog 34 [scK db e most] (lI 0)) (h2 : CS Tryz.prog 63 [vvK fss] (lI 0)) (h3 : CS Tryz.prog 64 [scK db e most, rootK db e most, vvK fss] (lB g)) :
    CS Tryz.prog 12 [scK db e most, vvK fss] (.tup [lB g, lI 0]) := by
  have ok := cfV_ok (db := db) (e := e) (most := most) (g := g) (x := rootN) (v := vN) (d := scN) 0 hF
  have p2 : ∀ x ∈ [scK db e most, vvK fss], Pure x := fun x hx => by
    simp only [List.mem_cons, List.not_mem_nil, or_false] at hx
    rcases hx with rfl | rfl
    · exact scK_pure _ _ _
    · exact vvK_pure hF
  have d2 : [scN, vN].map (@denA (vlC 0 most db e fss 0) 20) = [scK db e most, vvK fss] := by
    show [@denA (vlC 0 most db e fss 0) 20 scN, @denA (vlC 0 most db e fss 0) 20 vN] = _
    rw [scN_den, vN_den]
  have tell := @tellOf (vlC 0 most db e fss 0) _ ok rfl rfl fun f xs r hp => by
    simp only [cfV, List.mem_cons, List.not_mem_nil, or_false] at hp
    rcases hp with ⟨rfl, rfl, rfl⟩ | ⟨rfl, rfl, rfl⟩ | ⟨rfl, rfl, rfl⟩
    · refine @CS.call (vlC 0 most db e fss 0) _ _ _ _ _ _ _ h1 Tryz.func34 (names1 _ _ Tryz.func34) rfl ?_ (by simp; exact scK_pure _ _ _) rfl .lit
      show [@denA (vlC 0 most db e fss 0) 20 scN] = _
      rw [scN_den]
    · exact @CS.call (vlC 0 most db e fss 0) _ _ _ _ _ _ _ h2 Tryz.func63 (names1 _ _ Tryz.func63) rfl rfl (by simp; exact vvK_pure hF) rfl .lit
    · exact @CS.call (vlC 0 most db e fss 0) _ _ _ _ _ _ _ h3 Tryz.func64 (names1 _ _ Tryz.func64) rfl (args_den 0) (args_pure hF) rfl .lit
  have hk : runV12 g = true := by cases g; exact kV12_f; exact kV12_t
  exact @cs_of (vlC 0 most db e fss 0) _ [] ok tell (by simp) 100 12 _ _ hk _ _ d2 rfl p2 (pureB_ok (n := 20) rfl)
end
end Go.Abs
end
