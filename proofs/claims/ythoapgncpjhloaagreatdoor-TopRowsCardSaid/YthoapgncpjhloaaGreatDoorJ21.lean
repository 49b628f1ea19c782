/- Part 21 of the proof that TopRows returns true for every input of its row (no condition beyond the row). -/
import Derived.Test.YthoapgncpjhloaaGreatDoorJ13
import Derived.Test.YthoapgncpjhloaaGreatDoorJ15
import Derived.Test.YthoapgncpjhloaaGreatDoorJ16
import Derived.Test.YthoapgncpjhloaaGreatDoorJ17
import Derived.Test.YthoapgncpjhloaaGreatDoorJ18
import Derived.Test.YthoapgncpjhloaaGreatDoorJ19
set_option linter.unusedVariables false
set_option linter.unusedSimpArgs false
set_option linter.unusedSectionVars false
set_option linter.all false
section
open Go.Proofs
set_option maxRecDepth 100000
namespace Go.Abs
def cfEw (l : Bool) (c : ClE) : Cfg := { cfg0 with
  bd := bdE ++ [(100, 0, 1199), (101, 0, 3), (1001, -1, 5), (1004, 0, 7)]
  fs := ([(4, 1), (100, -1)], -1) :: fsE l
  sl := [(1000, at1 1004)]
  rl := [(0, at1 4)]
  rv := [(0, at1 100, rowE c)]
  cm := [cmA1 c, cmA2 c] }
def L93 (l : Bool) : Lp where
  fn := 93
  id := 10
  tm := [([(53, ni 100)], [(10007, some (.box [ni 101]))])]
  s0 := { i := [(100, ([], 0)), (101, ([], match l with | true => 1 | false => 0))] }
  cs := clsE.map fun c => { frm := 0, to := 0, cf := cfEw l c, sb := { i := [(100, ([(100, 1)], 1)), (101, ([(101, 1)], match isK c.k 0 with | true => 0 | false => 1))] } }
  cx := { cfE0 l with bd := (101, 1, 3) :: (100, 0, 1200) :: bdE, fs := ([(4, 1), (100, -1)], 0) :: ([(4, -1), (100, 1)], 0) :: fsE l }
def cfE1 (l : Bool) (c : ClE) : Cfg := match isK c.k 0 with
  | true => { cfEw l c with rl := [(0, at1 4), (1, at1 103)], cm := [cmA3 c, cmA5 c] }
  | false => { cfEw l c with rl := [(0, at1 4), (1, at1 103)], rp := [(1001, 1, [failN c])], cm := [cmA3 c, cmA5 c] }
def cfE2 (l : Bool) (c : ClE) : Cfg := match isK c.k 0 with
  | true => { cfEw l c with cm := [cmA4 c] }
  | false => { cfEw l c with rl := [(0, at1 4), (2, ([], 0)), (1001, ([], 1))], rp := [(1001, 2, [failN c])], cm := [cmA4 c] }
def cas11 (l : Bool) (c : ClE) : Cas := { frm := 1, to := 1, cf := cfE1 l c, sb := match isK c.k 0 with
  | true => { i := [(100, ([(100, 1)], 1)), (103, ([(103, 1)], 0))], k := [(20000, 10010)] }
  | false => { i := [(100, ([(100, 1)], 1)), (103, ([(103, 1)], 1))], r := [(1, 1001)], k := [(20000, 10010)] } }
def cas0 (l : Bool) (c : ClE) : Cas := match isK c.k 0 with
  | true => { frm := 0, to := 0, cf := cfE2 l c, sb := { i := [(100, ([(100, 1)], 1))] } }
  | false => { frm := 0, to := 1, cf := cfE2 l c, sb := { i := [(100, ([(100, 1)], 1)), (103, ([], 1))], r := [(1, 1001)], k := [(20000, 10010)] } }
def L25 (l : Bool) : Lp where
  fn := 25
  id := 10
  up := 2
  tm := [([(57, ni 100), (10, nilS)], []), ([(57, ni 100), (10, .sym (.sl 20000 3 ([], 0) (at1 103)))], [(20000, some (.sarr 3 1))])]
  i0 := match l with | true => 1 | false => 0
  s0 := match l with | true => { i := [(100, ([], 0)), (103, ([], 1))], r := [(1, 3)], k := [(20000, 10010)] } | false => { i := [(100, ([], 0))] }
  dH := [10010]
  cs := clsE.flatMap fun c => match l with | true => [cas11 l c] | false => [cas11 l c, cas0 l c]
  fin := 1
  cx := { cfE0 l with bd := (101, 1, 3) :: (100, 0, 1200) :: bdE, fs := ([(4, 1), (100, -1)], 0) :: ([(4, -1), (100, 1)], 0) :: fsE l }
def resE : AV := .tup [.sym (.ro 3 1), lI 0]
noncomputable def runE (l : Bool) : Bool := okTop (topF (cfE0 l) [L93 l, L25 l] Tryz.prog 100 9 [scN, vN]) resE
theorem kE_t : runE true = true := by kernel_rfl
theorem kE_f : runE false = true := by kernel_rfl
end Go.Abs
end
section
open Go.Proofs
set_option maxRecDepth 100000
namespace Go.Abs
/-- the list, and what is told of it -/
structure InE where
  rows : List RowD
  cl : Nat → ClE
  l : Bool
  db : List UInt8
  e : Int
  most : Nat
  mo : Nat
namespace InE
variable (D : InE)
def n : Nat := D.rows.length
def row (k : Nat) : RowD := D.rows.getD k default
def tot : Nat := cntE D.l D.cl D.rows.length
def fls : List (List AV) := flsE D.l D.cl D.rows.length
end InE
abbrev vlE (D : InE) (k c1 c3 : Nat) (f1 f2 : List (List AV)) : VL :=
  ⟨fun a => if a = 100 then (k : Int) else if a = 101 then (c1 : Int) else if a = 103 then (c3 : Int) else if a = 4 then (D.rows.length : Int) else if a = 2 then D.e else if a = 1 then (D.most : Int) else if a = 1001 then (D.row k).ea else if a = 1004 then ((D.row k).da.length : Int) else 0,
   fun a => if a = 0 then D.db else if a = 1000 then (D.row k).da else if a = 1002 then (D.row k).b else if a = 1003 then (D.row k).t else [], fun _ => false,
   fun a => if a = 0 then D.rows.map fun r => rowV r.fs else if a = 1 then f1 else if a = 1001 then f2 else if a = 3 then [longF] else [], fun _ => .emp, fun a cs v => a = 0 ∧ memE 5 D.mo D.tot cs v⟩
/-- what is told of the list -/
structure OkE (D : InE) : Prop where
  hn : 1 ≤ D.rows.length ∧ D.rows.length ≤ 1200
  hm : match D.l with | true => D.most + 1 = D.rows.length | false => D.most = D.rows.length
  he : 0 ≤ D.e ∧ D.e ≤ 5
  is : ∀ k, k < D.rows.length → IsE D.mo (D.row k) (D.cl k)
  rk : ∀ k, k < D.rows.length → RowOK (D.row k)
  ma : ∀ k, k < D.rows.length → CS Tryz.prog 33 [scK D.db D.e D.most, .agg (aK D.db D.e), .agg (vNum (lb (D.row k).da) (lI (D.row k).ea))] (okE (!(isK (D.cl k).k 1)))
  mb : ∀ k, k < D.rows.length → CS Tryz.prog 33 [scK D.db D.e D.most, .agg bS, .agg (vText (lb (D.row k).b))] (okE (!(isK (D.cl k).k 3)))
  mt : ∀ k, k < D.rows.length → CS Tryz.prog 33 [scK D.db D.e D.most, .agg tagS, .agg (vText (lb (D.row k).t))] (okE (!(isK (D.cl k).k 7)))
  ml : ∀ l, l ∈ tagL → CS Tryz.prog 33 [scK D.db D.e D.most, .agg tagS, .agg (vText (lS [l]))] (okE true)
  mz : CS Tryz.prog 33 [scK D.db D.e D.most, .agg noneS, .agg (vz 0)] (okE false)
  val : CS Tryz.prog 12 [scK D.db D.e D.most, vvK (D.rows.map RowD.fs)] (.tup [lB false, lI 0])
  tot : 1 ≤ D.tot ∧ D.tot ≤ 3
theorem cntE_mono (l : Bool) (cl : Nat → ClE) : ∀ {n k : Nat}, k ≤ n → cntE l cl k ≤ cntE l cl n
  | 0, k, h => by rw [Nat.le_zero.1 h]; exact Nat.le_refl _
  | n + 1, k, h => by
    rcases Nat.lt_or_ge k (n + 1) with h1 | h1
    · have := cntE_mono l cl (n := n) (k := k) (by omega)
      simp only [cntE]; omega
    · rw [show k = n + 1 by omega]; exact Nat.le_refl _
section
variable {D : InE} {k c1 c3 : Nat} {f1 f2 : List (List AV)}
theorem vlE_s (a m : Nat) : @denA (vlE D k c1 c3 f1 f2) (m + 1) (so a) = lb (@VL.s (vlE D k c1 c3 f1 f2) a) := @so_den (vlE D k c1 c3 f1 f2) m a
theorem vlE_i (a m : Nat) : @denA (vlE D k c1 c3 f1 f2) (m + 1) (ni a) = lI (@VL.i (vlE D k c1 c3 f1 f2) a) := @ni_den (vlE D k c1 c3 f1 f2) m a
theorem vlE_s0 (m : Nat) : @denA (vlE D k c1 c3 f1 f2) (m + 1) (so 0) = .lit (.string ⟨D.db.toArray⟩) := @so_den (vlE D k c1 c3 f1 f2) m 0
theorem vlE_s1000 (m : Nat) : @denA (vlE D k c1 c3 f1 f2) (m + 1) (so 1000) = lb (D.row k).da := @so_den (vlE D k c1 c3 f1 f2) m 1000
theorem vlE_s1002 (m : Nat) : @denA (vlE D k c1 c3 f1 f2) (m + 1) (so 1002) = lb (D.row k).b := @so_den (vlE D k c1 c3 f1 f2) m 1002
theorem vlE_s1003 (m : Nat) : @denA (vlE D k c1 c3 f1 f2) (m + 1) (so 1003) = lb (D.row k).t := @so_den (vlE D k c1 c3 f1 f2) m 1003
theorem vlE_i2 (m : Nat) : @denA (vlE D k c1 c3 f1 f2) (m + 1) (ni 2) = lI D.e := @ni_den (vlE D k c1 c3 f1 f2) m 2
theorem vlE_i1 (m : Nat) : @denA (vlE D k c1 c3 f1 f2) (m + 1) (ni 1) = lI D.most := @ni_den (vlE D k c1 c3 f1 f2) m 1
theorem vlE_i100 (m : Nat) : @denA (vlE D k c1 c3 f1 f2) (m + 1) (ni 100) = lI k := @ni_den (vlE D k c1 c3 f1 f2) m 100
theorem vlE_i101 (m : Nat) : @denA (vlE D k c1 c3 f1 f2) (m + 1) (ni 101) = lI c1 := @ni_den (vlE D k c1 c3 f1 f2) m 101
theorem vlE_i1001 (m : Nat) : @denA (vlE D k c1 c3 f1 f2) (m + 1) (ni 1001) = lI (D.row k).ea := @ni_den (vlE D k c1 c3 f1 f2) m 1001
theorem vlE_sc : @denA (vlE D k c1 c3 f1 f2) 20 scN = scK D.db D.e D.most := by
  show @denA (vlE D k c1 c3 f1 f2) 20 (scV (so 0) (ni 2) (ni 1)) = _
  rw [@scV_den (vlE D k c1 c3 f1 f2), vlE_s0 15, vlE_i2 15, vlE_i1 18]; rfl
theorem vlE_rw : @denA (vlE D k c1 c3 f1 f2) 20 (.rp (rwS (so 0) (ni 2)) 0) = .rp (rwS (.lit (.string ⟨D.db.toArray⟩)) (lI D.e)) 0 := by
  have : ∀ d x, @denA (vlE D k c1 c3 f1 f2) 20 (.rp (rwS d x) 0) = .rp (rwS (@denA (vlE D k c1 c3 f1 f2) 17 d) (@denA (vlE D k c1 c3 f1 f2) 17 x)) 0 := fun _ _ => rfl
  rw [this, vlE_s0 16, vlE_i2 16]
theorem vlE_aS : @denA (vlE D k c1 c3 f1 f2) 20 (.agg (aS (so 0) (ni 2))) = .agg (aK D.db D.e) := by
  have : ∀ d x, @denA (vlE D k c1 c3 f1 f2) 20 (.agg (aS d x)) = .agg (aS (@denA (vlE D k c1 c3 f1 f2) 18 d) (@denA (vlE D k c1 c3 f1 f2) 18 x)) := fun _ _ => rfl
  rw [this, vlE_s0 17, vlE_i2 17]; rfl
theorem vlE_aSp : @denA (vlE D k c1 c3 f1 f2) 20 (.rp (aS (so 0) (ni 2)) 0) = .rp (aK D.db D.e) 0 := by
  have : ∀ d x, @denA (vlE D k c1 c3 f1 f2) 20 (.rp (aS d x) 0) = .rp (aS (@denA (vlE D k c1 c3 f1 f2) 18 d) (@denA (vlE D k c1 c3 f1 f2) 18 x)) 0 := fun _ _ => rfl
  rw [this, vlE_s0 17, vlE_i2 17]; rfl
theorem vlE_num : @denA (vlE D k c1 c3 f1 f2) 20 (.agg (vNum (so 1000) (ni 1001))) = .agg (vNum (lb (D.row k).da) (lI (D.row k).ea)) := by
  have : ∀ d x, @denA (vlE D k c1 c3 f1 f2) 20 (.agg (vNum d x)) = .agg (vNum (@denA (vlE D k c1 c3 f1 f2) 19 d) (@denA (vlE D k c1 c3 f1 f2) 19 x)) := fun _ _ => rfl
  rw [this, vlE_s1000 18, vlE_i1001 18]
theorem vlE_nump : @denA (vlE D k c1 c3 f1 f2) 20 (.rp (vNum (so 1000) (ni 1001)) 0) = .rp (vNum (lb (D.row k).da) (lI (D.row k).ea)) 0 := by
  have : ∀ d x, @denA (vlE D k c1 c3 f1 f2) 20 (.rp (vNum d x) 0) = .rp (vNum (@denA (vlE D k c1 c3 f1 f2) 19 d) (@denA (vlE D k c1 c3 f1 f2) 19 x)) 0 := fun _ _ => rfl
  rw [this, vlE_s1000 18, vlE_i1001 18]
theorem vlE_txt : @denA (vlE D k c1 c3 f1 f2) 20 (.agg (vText (so 1002))) = .agg (vText (lb (D.row k).b)) := by
  have : ∀ d, @denA (vlE D k c1 c3 f1 f2) 20 (.agg (vText d)) = .agg (vText (@denA (vlE D k c1 c3 f1 f2) 19 d)) := fun _ => rfl
  rw [this, vlE_s1002 18]
theorem vlE_txtp : @denA (vlE D k c1 c3 f1 f2) 20 (.rp (vText (so 1002)) 0) = .rp (vText (lb (D.row k).b)) 0 := by
  have : ∀ d, @denA (vlE D k c1 c3 f1 f2) 20 (.rp (vText d) 0) = .rp (vText (@denA (vlE D k c1 c3 f1 f2) 19 d)) 0 := fun _ => rfl
  rw [this, vlE_s1002 18]
theorem vlE_tag : @denA (vlE D k c1 c3 f1 f2) 20 (.agg (vText (so 1003))) = .agg (vText (lb (D.row k).t)) := by
  have : ∀ d, @denA (vlE D k c1 c3 f1 f2) 20 (.agg (vText d)) = .agg (vText (@denA (vlE D k c1 c3 f1 f2) 19 d)) := fun _ => rfl
  rw [this, vlE_s1003 18]
theorem vlE_tagp : @denA (vlE D k c1 c3 f1 f2) 20 (.rp (vText (so 1003)) 0) = .rp (vText (lb (D.row k).t)) 0 := by
  have : ∀ d, @denA (vlE D k c1 c3 f1 f2) 20 (.rp (vText d) 0) = .rp (vText (@denA (vlE D k c1 c3 f1 f2) 19 d)) 0 := fun _ => rfl
  rw [this, vlE_s1003 18]
theorem vlE_v : @denA (vlE D k c1 c3 f1 f2) 20 vN = vvK (D.rows.map RowD.fs) := by
  show AV.agg (vList (.ro 13 (D.rows.map fun r => rowV r.fs))) = AV.agg (vList (.ro 13 ((D.rows.map RowD.fs).map rowV)))
  rw [List.map_map]; rfl
theorem rowE_den (h : (D.row k).sh = (D.cl k).sh) (hs : (D.cl k).sh ∈ shs) : (rowE (D.cl k)).map (@denA (vlE D k c1 c3 f1 f2) 20) = rowV (D.row k).fs := by
  unfold rowE fldN
  have ea : (D.row k).a = (D.cl k).sh.1 := congrArg Prod.fst h
  have ed : (D.row k).d = (D.cl k).sh.2.1 := congrArg (fun s => s.2.1) h
  have ec : (D.row k).c = (D.cl k).sh.2.2 := congrArg (fun s => s.2.2) h
  rw [@fld_den (vlE D k c1 c3 f1 f2) _ _ _ hs, vlE_s1000 18, vlE_i1001 18, vlE_s1002 18, vlE_s1003 17]
  show _ = rowV (fldV (D.row k).a (D.row k).d (D.row k).c _ _ _ _)
  rw [ea, ed, ec]
theorem rowE_den19 (h : (D.row k).sh = (D.cl k).sh) (hs : (D.cl k).sh ∈ shs) : @denA (vlE D k c1 c3 f1 f2) 20 (.rp (rowE (D.cl k)) 0) = .rp (rowV (D.row k).fs) 0 := by
  show AV.rp ((rowE (D.cl k)).map (@denA (vlE D k c1 c3 f1 f2) 19)) 0 = _
  unfold rowE fldN
  have ea : (D.row k).a = (D.cl k).sh.1 := congrArg Prod.fst h
  have ed : (D.row k).d = (D.cl k).sh.2.1 := congrArg (fun s => s.2.1) h
  have ec : (D.row k).c = (D.cl k).sh.2.2 := congrArg (fun s => s.2.2) h
  rw [@fld_den19 (vlE D k c1 c3 f1 f2) _ _ _ hs, vlE_s1000 17, vlE_i1001 17, vlE_s1002 17, vlE_s1003 16]
  show _ = AV.rp (rowV (fldV (D.row k).a (D.row k).d (D.row k).c _ _ _ _)) 0
  rw [ea, ed, ec]
theorem cVN_den (hs : (D.cl k).sh ∈ shs) : @denA (vlE D k c1 c3 f1 f2) 20 (.rp (cVN (D.cl k)) 0) = .rp (vList (tagsV (D.cl k).sh.2.2 (lb (D.row k).t))) 0 := by
  have key : ∀ (a d : Bool) (n : Nat) (x : AV), (a, d, n) ∈ shs → @denA (vlE D k c1 c3 f1 f2) 20 (.rp (vList (tagsV n x)) 0) = .rp (vList (tagsV n (@denA (vlE D k c1 c3 f1 f2) 18 x))) 0 := by
    intro a d n x h
    simp only [shs, List.mem_cons, List.not_mem_nil, or_false, Prod.mk.injEq] at h
    rcases h with ⟨rfl, rfl, rfl⟩ | ⟨rfl, rfl, rfl⟩ | ⟨rfl, rfl, rfl⟩ | ⟨rfl, rfl, rfl⟩ | ⟨rfl, rfl, rfl⟩ | ⟨rfl, rfl, rfl⟩ | ⟨rfl, rfl, rfl⟩ <;> rfl
  unfold cVN
  rw [key _ _ _ _ hs, vlE_s1003 17]
end
theorem clsE_sh {c : ClE} (h : c ∈ clsE) : c.sh ∈ shs := by
  simp only [clsE, List.mem_cons, List.not_mem_nil, or_false] at h
  rcases h with rfl | rfl | rfl | rfl | rfl | rfl | rfl | rfl | rfl | rfl | rfl | rfl <;> simp [shs]
theorem tv_row {r : RowD} (h : r.sh ∈ shs) : tv 6 (rowV r.fs) = true := by
  have key : ∀ (a d : Bool) (c : Nat) (x y z w : Value), (a, d, c) ∈ shs → tv 6 (rowV (fldV a d c (.lit x) (.lit y) (.lit z) (.lit w))) = true := by
    intro a d c x y z w h
    simp only [shs, List.mem_cons, List.not_mem_nil, or_false, Prod.mk.injEq] at h
    rcases h with ⟨rfl, rfl, rfl⟩ | ⟨rfl, rfl, rfl⟩ | ⟨rfl, rfl, rfl⟩ | ⟨rfl, rfl, rfl⟩ | ⟨rfl, rfl, rfl⟩ | ⟨rfl, rfl, rfl⟩ | ⟨rfl, rfl, rfl⟩ <;> rfl
  exact key _ _ _ _ _ _ _ h
theorem tv_list {c : ClE} (h : c ∈ clsE) (h0 : lenE c = false) (t : List UInt8) : tv 6 (vList (tagsV c.sh.2.2 (lb t))) = true := by
  simp only [clsE, List.mem_cons, List.not_mem_nil, or_false] at h
  rcases h with rfl | rfl | rfl | rfl | rfl | rfl | rfl | rfl | rfl | rfl | rfl | rfl <;> first | (cases h0; done) | rfl
theorem pure_list2 {c : ClE} (h : c ∈ clsE) (t : List UInt8) : Pure (.rp (vList (tagsV c.sh.2.2 (lb t))) 0) := by
  simp only [clsE, List.mem_cons, List.not_mem_nil, or_false] at h
  rcases h with rfl | rfl | rfl | rfl | rfl | rfl | rfl | rfl | rfl | rfl | rfl | rfl <;> exact pureB_ok (n := 20) rfl
/-- what an entry of the memo says is so, and no other -/
def MmOK (V : VL) (a : Nat) (cs : List AV) (v : AV) : Prop := ∃ val, @denA V 20 v = .lit val ∧ V.m a (cs.map (@denA V 20)) val ∧ (∀ c, c ∈ cs → ∀ xs o, c = .rp xs o → Pure (@denA V 20 c)) ∧
  ∀ s w ks cs' vs val', @OK V s w → (∀ q, q ∈ ks → ∃ xs, s.hp q = some (.box xs)) → @KeyD V s w a ks cs' vs → @KeyD V s w a ks (cs.map (@denA V 20)) vs → V.m a cs' val' → val' = val
theorem mm_entry {V : VL} {mo : Nat} {tot : Int} (hV : V.m = fun a cs v => a = 0 ∧ memE 5 mo tot cs v) {x y X Y : List AV} {v : AV} {op : Int} {n : Nat} (b : Bool) (hx : @denA V 20 (.rp x 0) = .rp X 0) (hy : @denA V 20 (.rp y 0) = .rp Y 0)
    (hX : X[0]? = some (lI op)) (pX : Pure (.rp X 0)) (pY : Pure (.rp Y 0)) (ht : tv n Y = true) (htd : told mo op Y b) (hv : v = one01 b) : MmOK V 0 [.rp x 0, .rp y 0] v := by
  have hm : [.rp x 0, .rp y 0].map (@denA V 20) = [.rp X 0, .rp Y 0] := by rw [List.map_cons, List.map_cons, List.map_nil, hx, hy]
  have hin : V.m 0 [.rp X 0, .rp Y 0] (b2i b) := by rw [hV]; exact ⟨rfl, .inr ⟨X, Y, n, op, b, rfl, hX, ht, htd, rfl⟩⟩
  refine ⟨b2i b, by rw [hv]; cases b <;> rfl, by rw [hm]; exact hin, ?_, ?_⟩
  · intro c hc xs o he
    simp only [List.mem_cons, List.not_mem_nil, or_false] at hc
    rcases hc with rfl | rfl
    · rw [hx]; exact pX
    · rw [hy]; exact pY
  · intro s w ks cs' vs val' _ hal hd hd' h
    rw [hm] at hd'
    rw [hV] at h hin
    exact @memE_same V 5 mo tot s w 0 ks _ cs' vs _ val' hal hd hd' h.2 hin.2
theorem mm_root {V : VL} {mo : Nat} {tot : Int} (hV : V.m = fun a cs v => a = 0 ∧ memE 5 mo tot cs v) {p : Nat} {v : AV} (hv : @denA V 20 v = lI tot) : MmOK V 0 [.ptr 5 0 0 1, .ptr p 0 0 0] v := by
  have hin : V.m 0 [.ptr 5 0 0 1, .ptr p 0 0 0] (.int .i64 tot) := by rw [hV]; exact ⟨rfl, .inl ⟨p, rfl, rfl⟩⟩
  refine ⟨.int .i64 tot, hv, hin, ?_, ?_⟩
  · intro c hc xs o he
    simp only [List.mem_cons, List.not_mem_nil, or_false] at hc
    rcases hc with rfl | rfl <;> cases he
  · intro s w ks cs' vs val' _ hal hd hd' h
    rw [hV] at h hin
    exact @memE_same V 5 mo tot s w 0 ks _ cs' vs _ val' hal hd hd' h.2 hin.2
section
variable {D : InE} {k c1 c3 : Nat} {f1 f2 : List (List AV)}
theorem mmE_ok (h : OkE D) (hk : k < D.rows.length) {a : Nat} {cs : List AV} {v : AV} (hm : (a, cs, v) ∈ mmE (D.cl k)) : MmOK (vlE D k c1 c3 f1 f2) a cs v := by
  have hi := h.is k hk
  have hsh := clsE_sh hi.mem
  have hsr : (D.row k).sh ∈ shs := by rw [hi.sh]; exact hsh
  have pr : Pure (.rp (rowV (D.row k).fs) 0) := .rp fun x hx => (rowV_ok (fs_ok hsr) x hx).2
  unfold mmE at hm
  rcases List.mem_append.1 hm with hm | hm
  · simp only [List.mem_cons, List.not_mem_nil, or_false, Prod.mk.injEq] at hm
    rcases hm with ⟨rfl, rfl, rfl⟩ | ⟨rfl, rfl, rfl⟩ | ⟨rfl, rfl, rfl⟩ | ⟨rfl, rfl, rfl⟩ | ⟨rfl, rfl, rfl⟩ | ⟨rfl, rfl, rfl⟩ | ⟨rfl, rfl, rfl⟩
    · exact mm_entry (mo := D.mo) (tot := D.tot) rfl _ vlE_rw (rowE_den19 hi.sh hsh) rfl (pureB_ok (n := 20) rfl) pr (tv_row hsr) (told_row hi) rfl
    · exact mm_entry (mo := D.mo) (tot := D.tot) rfl _ vlE_aSp vlE_nump rfl (pureB_ok (n := 20) rfl) (pureB_ok (n := 20) rfl) (n := 3) rfl (told_num hi) rfl
    · exact mm_entry (mo := D.mo) (tot := D.tot) rfl _ (X := bS) rfl vlE_txtp rfl (pureB_ok (n := 20) rfl) (pureB_ok (n := 20) rfl) (n := 3) rfl (told_text hi) rfl
    · exact mm_entry (mo := D.mo) (tot := D.tot) rfl false (X := tagS) (Y := vText (lS [122])) rfl rfl rfl (pureB_ok (n := 20) rfl) (pureB_ok (n := 20) rfl) (n := 3) rfl (told_let (by simp [tagL])) rfl
    · exact mm_entry (mo := D.mo) (tot := D.tot) rfl false (X := tagS) (Y := vText (lS [120])) rfl rfl rfl (pureB_ok (n := 20) rfl) (pureB_ok (n := 20) rfl) (n := 3) rfl (told_let (by simp [tagL])) rfl
    · exact mm_entry (mo := D.mo) (tot := D.tot) rfl _ (X := tagS) rfl vlE_tagp rfl (pureB_ok (n := 20) rfl) (pureB_ok (n := 20) rfl) (n := 3) rfl (told_tag hi) rfl
    · exact mm_entry (mo := D.mo) (tot := D.tot) rfl true (X := noneS) (Y := vz 0) rfl rfl rfl (pureB_ok (n := 20) rfl) (pureB_ok (n := 20) rfl) (n := 3) rfl told_none rfl
  · cases h0 : lenE (D.cl k) with
    | true => rw [h0] at hm; cases hm
    | false =>
      rw [h0] at hm
      have hne : (D.cl k).sh.2.2 ≠ 0 := Nat.ne_of_beq_eq_false h0
      simp only [List.mem_cons, List.not_mem_nil, or_false, Prod.mk.injEq] at hm
      rcases hm with ⟨rfl, rfl, rfl⟩ | ⟨rfl, rfl, rfl⟩
      · exact mm_entry (mo := D.mo) (tot := D.tot) rfl _ (X := cS) rfl (cVN_den hsh) rfl (pureB_ok (n := 20) rfl) (pure_list2 hi.mem _) (tv_list hi.mem h0 _) (told_list (.inr rfl) hi hne) rfl
      · exact mm_entry (mo := D.mo) (tot := D.tot) rfl _ (X := tagsS) rfl (cVN_den hsh) rfl (pureB_ok (n := 20) rfl) (pure_list2 hi.mem _) (tv_list hi.mem h0 _) (told_list (.inl rfl) hi hne) rfl
end
end Go.Abs
end
section
open Go.Proofs
set_option maxRecDepth 100000
namespace Go.Abs
theorem failP_ok (q : Nat) (i : Int) : ∀ x, x ∈ failP q (lI i) → x.dat = true ∧ Pure x := by
  have key : (failP q (lI i)).all (fun x => x.dat && pureB 20 x) = true := by
    unfold failP
    split <;> rfl
  intro x hx
  have := List.all_eq_true.1 key x hx
  simp only [Bool.and_eq_true] at this
  exact ⟨this.1, pureB_ok this.2⟩
theorem longF_ok : ∀ x, x ∈ longF → x.dat = true ∧ Pure x := by
  have key : longF.all (fun x => x.dat && pureB 20 x) = true := rfl
  intro x hx
  have := List.all_eq_true.1 key x hx
  simp only [Bool.and_eq_true] at this
  exact ⟨this.1, pureB_ok this.2⟩
theorem FOK.app {x y : List (List AV)} (h : FOK x) (h' : FOK y) : FOK (x ++ y) := by
  intro row hr
  rcases List.mem_append.1 hr with hr | hr
  · exact h row hr
  · exact h' row hr
theorem FOK.one {x : List AV} (h : ∀ y, y ∈ x → y.dat = true ∧ Pure y) : FOK [x] := by
  intro row hr
  simp only [List.mem_cons, List.not_mem_nil, or_false] at hr
  subst hr
  exact h
theorem FOK.nil : FOK [] := fun row hr => by cases hr
theorem flsE_ok (l : Bool) (cl : Nat → ClE) : ∀ k, FOK (flsE l cl k)
  | 0 => by
    cases l
    · exact FOK.nil
    · exact FOK.one longF_ok
  | k + 1 => by
    refine FOK.app (flsE_ok l cl k) ?_
    cases isK (cl k).k 0
    · exact FOK.one (failP_ok _ _)
    · exact FOK.nil
theorem failP_den2 [VL] (q : Nat) (n : AV) : (failP q n).map (denA 20) = failP q (denA 19 n) := by
  unfold failP
  split <;> rfl
section
variable {D : InE} {k c1 c3 : Nat} {f1 f2 : List (List AV)}
theorem failN_den (c : ClE) : (failN c).map (@denA (vlE D k c1 c3 f1 f2) 20) = failP c.k (lI k) := by
  unfold failN
  rw [@failP_den2 (vlE D k c1 c3 f1 f2), vlE_i100 18]
theorem vlE_rd (h : OkE D) (h1 : FOK f1) (h2 : FOK f2) (a : Nat) (row : List AV) (hr : row ∈ (vlE D k c1 c3 f1 f2).r a) (x : AV) (hx : x ∈ row) : x.dat = true ∧ Pure x := by
  have hr : row ∈ (if a = 0 then D.rows.map fun r => rowV r.fs else if a = 1 then f1 else if a = 1001 then f2 else if a = 3 then [longF] else []) := hr
  split at hr
  · obtain ⟨r, hfs, rfl⟩ := List.mem_map.1 hr
    obtain ⟨i, hi, rfl⟩ := List.mem_iff_getElem.1 hfs
    have hs : D.row i = D.rows[i] := by
      unfold InE.row
      rw [List.getD_eq_getElem?_getD, List.getElem?_eq_getElem hi]; rfl
    have := (h.rk i hi).sh
    rw [hs] at this
    exact rowV_ok (fs_ok this) x hx
  · split at hr
    · exact h1 row hr x hx
    · split at hr
      · exact h2 row hr x hx
      · split at hr
        · simp only [List.mem_cons, List.not_mem_nil, or_false] at hr
          subst hr
          exact longF_ok x hx
        · cases hr
theorem fsE_ok (h : OkE D) {f : Lin} (hf : f ∈ fsE D.l) : 0 ≤ @Lin.val (vlE D k c1 c3 f1 f2) f := by
  have hm := h.hm
  cases hl : D.l with
  | true =>
    rw [hl] at hm hf
    simp only [fsE, List.mem_cons, List.not_mem_nil, or_false] at hf
    subst hf
    show (0 : Int) ≤ -1 * (D.most : Int) + (1 * (D.rows.length : Int) + 0) + -1
    omega
  | false =>
    rw [hl] at hm hf
    simp only [fsE, List.mem_cons, List.not_mem_nil, or_false] at hf
    subst hf
    show (0 : Int) ≤ 1 * (D.most : Int) + (-1 * (D.rows.length : Int) + 0) + 0
    omega
theorem most_le (h : OkE D) : (D.most : Int) ≤ 1200 := by
  have h1 := h.hn
  have h2 := h.hm
  cases hl : D.l <;> rw [hl] at h2 <;> simp only at h2 <;> omega
theorem rl0 : (((vlE D k c1 c3 f1 f2).r 0).length : Int) = @Lin.val (vlE D k c1 c3 f1 f2) (at1 4) := by
  show (((D.rows.map fun r => rowV r.fs).length : Nat) : Int) = 1 * (D.rows.length : Int) + 0 + 0
  rw [List.length_map]; omega
theorem rv0 (h : OkE D) (hk : k < D.rows.length) : ∃ j : Nat, @Lin.val (vlE D k c1 c3 f1 f2) (at1 100) = (j : Int) ∧ ((vlE D k c1 c3 f1 f2).r 0)[j]? = some ((rowE (D.cl k)).map (@denA (vlE D k c1 c3 f1 f2) 20)) := by
  refine ⟨k, ?_, ?_⟩
  · show 1 * (k : Int) + 0 + 0 = _; omega
  · have hi := h.is k hk
    rw [rowE_den hi.sh (clsE_sh hi.mem)]
    show (D.rows.map fun r => rowV r.fs)[k]? = _
    rw [List.getElem?_map, List.getElem?_eq_getElem hk]
    unfold InE.row
    rw [List.getD_eq_getElem?_getD, List.getElem?_eq_getElem hk]; rfl
theorem rk_len (h : OkE D) (hk : k < D.rows.length) : -1 ≤ (D.row k).ea ∧ (D.row k).ea ≤ 5 ∧ (D.row k).da.length ≤ 7 := ⟨(h.rk k hk).ea.1, (h.rk k hk).ea.2, (h.rk k hk).da⟩
theorem cfRw_ok (h : OkE D) (hk : k < D.rows.length) (h1 : FOK f1) (h2 : FOK f2) : @Cfg.OK (vlE D k c1 c3 f1 f2) (cfRw (D.cl k)) := by
  have hn := h.hn
  have hml := most_le h
  have he := h.he
  have hr := rk_len h hk
  refine cfgOK_of (fun p hp => ?_) (fun f hf => by cases hf) (vlE_rd h h1 h2) rfl (fun p hp => ?_) (fun p hp => by cases hp) (fun p hp => by cases hp) (mm := fun a cs v hm => mmE_ok h hk hm)
  · simp only [cfRw, List.mem_cons, List.not_mem_nil, or_false] at hp
    rcases hp with rfl | rfl | rfl | rfl | rfl | rfl
    · show (1 : Int) ≤ (D.rows.length : Int) ∧ (D.rows.length : Int) ≤ 1200; omega
    · show (0 : Int) ≤ (D.most : Int) ∧ (D.most : Int) ≤ 1200; omega
    · exact he
    · show (0 : Int) ≤ (k : Int) ∧ (k : Int) ≤ 1199; omega
    · exact ⟨hr.1, hr.2.1⟩
    · show (0 : Int) ≤ ((D.row k).da.length : Int) ∧ ((D.row k).da.length : Int) ≤ 7; omega
  · simp only [cfRw, List.mem_cons, List.not_mem_nil, or_false] at hp
    subst hp
    show (((D.row k).da.length : Nat) : Int) = 1 * ((D.row k).da.length : Int) + 0 + 0; omega
theorem ctE_ok (h : OkE D) (hk : k < D.rows.length) {f : Nat} {xs : List AV} {r : AV} (hp : (f, xs, r) ∈ ctE (D.cl k)) : @CtOK (vlE D k c1 c3 f1 f2) Tryz.prog f xs r := by
  simp only [ctE, List.mem_cons, List.not_mem_nil, or_false, Prod.mk.injEq] at hp
  rcases hp with ⟨rfl, rfl, rfl⟩ | ⟨rfl, rfl, rfl⟩ | ⟨rfl, rfl, rfl⟩ | ⟨rfl, rfl, rfl⟩ | ⟨rfl, rfl, rfl⟩ | ⟨rfl, rfl, rfl⟩
  · refine @CS.call (vlE D k c1 c3 f1 f2) _ _ _ _ _ _ _ (h.ma k hk) Tryz.func33 (names1 _ _ Tryz.func33) rfl ?_ (three_pure (scK_pure _ _ _) (pureB_ok (n := 20) rfl) (pureB_ok (n := 20) rfl)) rfl (pureB_ok (n := 20) rfl)
    show [@denA (vlE D k c1 c3 f1 f2) 20 scN, @denA (vlE D k c1 c3 f1 f2) 20 _, @denA (vlE D k c1 c3 f1 f2) 20 _] = _
    rw [vlE_sc, vlE_aS, vlE_num]
  · refine @CS.call (vlE D k c1 c3 f1 f2) _ _ _ _ _ _ _ (h.mb k hk) Tryz.func33 (names1 _ _ Tryz.func33) rfl ?_ (three_pure (scK_pure _ _ _) (pureB_ok (n := 20) rfl) (pureB_ok (n := 20) rfl)) rfl (pureB_ok (n := 20) rfl)
    show [@denA (vlE D k c1 c3 f1 f2) 20 scN, .agg bS, @denA (vlE D k c1 c3 f1 f2) 20 _] = _
    rw [vlE_sc, vlE_txt]
  · refine @CS.call (vlE D k c1 c3 f1 f2) _ _ _ _ _ _ _ (h.mt k hk) Tryz.func33 (names1 _ _ Tryz.func33) rfl ?_ (three_pure (scK_pure _ _ _) (pureB_ok (n := 20) rfl) (pureB_ok (n := 20) rfl)) rfl (pureB_ok (n := 20) rfl)
    show [@denA (vlE D k c1 c3 f1 f2) 20 scN, .agg tagS, @denA (vlE D k c1 c3 f1 f2) 20 _] = _
    rw [vlE_sc, vlE_tag]
  · refine @CS.call (vlE D k c1 c3 f1 f2) _ _ _ _ _ _ _ (h.ml 122 (by simp [tagL])) Tryz.func33 (names1 _ _ Tryz.func33) rfl ?_ (three_pure (scK_pure _ _ _) (pureB_ok (n := 20) rfl) (pureB_ok (n := 20) rfl)) rfl (pureB_ok (n := 20) rfl)
    show [@denA (vlE D k c1 c3 f1 f2) 20 scN, .agg tagS, .agg (vText (lS [122]))] = _
    rw [vlE_sc]
  · refine @CS.call (vlE D k c1 c3 f1 f2) _ _ _ _ _ _ _ (h.ml 120 (by simp [tagL])) Tryz.func33 (names1 _ _ Tryz.func33) rfl ?_ (three_pure (scK_pure _ _ _) (pureB_ok (n := 20) rfl) (pureB_ok (n := 20) rfl)) rfl (pureB_ok (n := 20) rfl)
    show [@denA (vlE D k c1 c3 f1 f2) 20 scN, .agg tagS, .agg (vText (lS [120]))] = _
    rw [vlE_sc]
  · refine @CS.call (vlE D k c1 c3 f1 f2) _ _ _ _ _ _ _ h.mz Tryz.func33 (names1 _ _ Tryz.func33) rfl ?_ (three_pure (scK_pure _ _ _) (pureB_ok (n := 20) rfl) (pureB_ok (n := 20) rfl)) rfl (pureB_ok (n := 20) rfl)
    show [@denA (vlE D k c1 c3 f1 f2) 20 scN, .agg noneS, .agg (vz 0)] = _
    rw [vlE_sc]
theorem cfRw_tell (h : OkE D) (hk : k < D.rows.length) (h1 : FOK f1) (h2 : FOK f2) : @Tell (vlE D k c1 c3 f1 f2) (cfRw (D.cl k)) Tryz.prog :=
  @tellOf (vlE D k c1 c3 f1 f2) _ (cfRw_ok h hk h1 h2) rfl rfl fun f xs r hp => ctE_ok h hk hp
theorem cfRw4_ok (h : OkE D) (hk : k < D.rows.length) (h1 : FOK f1) (h2 : FOK f2) (hf : isK (D.cl k).k 0 = false → f2 = [failP (D.cl k).k (lI k)]) : @Cfg.OK (vlE D k c1 c3 f1 f2) (cfRw4 (D.cl k)) := by
  unfold cfRw4
  cases h0 : isK (D.cl k).k 0 with
  | true => exact cfRw_ok h hk h1 h2
  | false =>
    have hf2 := hf h0
    have ok := cfRw_ok (c1 := c1) (c3 := c3) h hk h1 h2
    refine cfgOK_of (fun p hp => ?_) (fun f hf => by cases hf) (vlE_rd h h1 h2) rfl (fun p hp => ?_) (fun p hp => ?_) (fun p hp => by cases hp) (rp := fun a' a rows hp => ?_) (mm := fun a cs v hm => mmE_ok h hk hm)
    · have hn := h.hn
      have hml := most_le h
      have he := h.he
      have hr := rk_len h hk
      simp only [cfRw, List.mem_cons, List.not_mem_nil, or_false] at hp
      rcases hp with rfl | rfl | rfl | rfl | rfl | rfl
      · show (1 : Int) ≤ (D.rows.length : Int) ∧ (D.rows.length : Int) ≤ 1200; omega
      · show (0 : Int) ≤ (D.most : Int) ∧ (D.most : Int) ≤ 1200; omega
      · exact he
      · show (0 : Int) ≤ (k : Int) ∧ (k : Int) ≤ 1199; omega
      · exact ⟨hr.1, hr.2.1⟩
      · show (0 : Int) ≤ ((D.row k).da.length : Int) ∧ ((D.row k).da.length : Int) ≤ 7; omega
    · simp only [cfRw, List.mem_cons, List.not_mem_nil, or_false] at hp
      subst hp
      show (((D.row k).da.length : Nat) : Int) = 1 * ((D.row k).da.length : Int) + 0 + 0; omega
    · simp only [List.mem_cons, List.not_mem_nil, or_false] at hp
      rcases hp with rfl | rfl
      · rfl
      · show ((f2.length : Nat) : Int) = 0 + 1
        rw [hf2]; rfl
    · simp only [List.mem_cons, List.not_mem_nil, or_false, Prod.mk.injEq] at hp
      obtain ⟨rfl, rfl, rfl⟩ := hp
      show f2 = [] ++ [(failN (D.cl k)).map (@denA (vlE D k c1 c3 f1 f2) 20)]
      rw [failN_den, hf2]; rfl
theorem cfRw4_tell (h : OkE D) (hk : k < D.rows.length) (h1 : FOK f1) (h2 : FOK f2) (hf : isK (D.cl k).k 0 = false → f2 = [failP (D.cl k).k (lI k)]) : @Tell (vlE D k c1 c3 f1 f2) (cfRw4 (D.cl k)) Tryz.prog := by
  have ok := cfRw4_ok (c1 := c1) (c3 := c3) h hk h1 h2 hf
  unfold cfRw4 at ok ⊢
  cases h0 : isK (D.cl k).k 0 with
  | true =>
    rw [h0] at ok
    exact @tellOf (vlE D k c1 c3 f1 f2) _ ok rfl rfl fun f xs r hp => ctE_ok h hk hp
  | false =>
    rw [h0] at ok
    exact @tellOf (vlE D k c1 c3 f1 f2) _ ok rfl rfl fun f xs r hp => ctE_ok h hk hp
end
end Go.Abs
end
section
open Go.Proofs
set_option maxRecDepth 100000
namespace Go.Abs
def ev0 (k : Int) : List AV := [lI k, lS []] ++ vz 0
def evKey (s : List Nat) : List AV := [lI 6, lS s] ++ vz 0
def evVal (v : List AV) : List AV := [lI 1, lS []] ++ v
/-- the events of a row -/
def evF (a d : Bool) (c : Nat) (da ea b t : AV) : List (List AV) :=
  ev0 4 :: ((match a with | true => [evKey [97], evVal (vNum da ea)] | false => []) ++ ([evKey [98], evVal (vText b)] ++ ((match d with | true => [evKey [100], evVal (vz 0)] | false => []) ++
  ((match c with | 0 => [] | c => evKey [99] :: ev0 2 :: (([vText (lS [122]), vText t, vText (lS [120])].take c).map evVal ++ [ev0 3])) ++ [ev0 5]))))
def evN (s : Bool × Bool × Nat) : List (List AV) := evF s.1 s.2.1 s.2.2 (so 1000) (ni 1001) (so 1002) (so 1003)
def evR (r : RowD) : List (List AV) := evF r.a r.d r.c (lb r.da) (lI r.ea) (lb r.b) (lb r.t)
/-- the events before row 'k' -/
def evs (rows : List RowD) : Nat → List (List AV)
  | 0 => [ev0 2]
  | k + 1 => evs rows k ++ evR (rows.getD k default)
def chn (l : List (List AV)) : Nat → Nat → List (Nat × Nat × List (List AV))
  | _, 0 => []
  | j, n + 1 => (1011 + j, (match j with | 0 => 5 | j => 1010 + j), [l.getD j []]) :: chn l (j + 1) n
def chnL : Nat → Nat → List (Nat × Lin)
  | _, 0 => []
  | j, n + 1 => (1011 + j, ([(105, 1)], (j : Int) + 1)) :: chnL (j + 1) n
def cf77 (s : Bool × Bool × Nat) : Cfg := { cfg0 with
  bd := [(4, 1, 1200), (100, 0, 1199), (105, 1, 20000), (1001, -1, 5)]
  fs := [([(4, 1), (100, -1)], -1)]
  rv := [(0, at1 100, rowV (fldN s.1 s.2.1 s.2.2))]
  rl := (0, at1 4) :: (5, at1 105) :: chnL 0 (evN s).length
  rp := chn (evN s) 0 (evN s).length }
def cx77 : Cfg := { cfg0 with bd := [(4, 1, 1200), (100, 0, 1200), (105, 1, 20000)], fs := [([(4, 1), (100, -1)], 0), ([(4, -1), (100, 1)], 0)], rl := [(0, at1 4), (5, at1 105), (6, ([(105, 1)], 1))], rp := [(6, 5, [ev0 3])] }
def cas77 (s : Bool × Bool × Nat) : Cas := { frm := 0, to := 0, cf := cf77 s, sb := { i := [(100, ([(100, 1)], 1)), (105, ([(105, 1)], (evN s).length))], r := [(5, 1010 + (evN s).length)], k := [(20000, 10000)] } }
def L77 : Lp where
  fn := 77
  id := 5
  up := 2
  tm := [([(20, ni 100), (0, .sym (.sl 20000 15 ([], 0) (at1 105)))], [(20000, some (.sarr 15 5))])]
  s0 := { i := [(100, ([], 0)), (105, ([], 1))], r := [(5, 7)], f := [(5, [ev0 2])], k := [(20000, 10000)] }
  dH := [10000]
  cs := shs.map cas77
  cx := cx77
def cf39 : Cfg := { cfg0 with bd := [(4, 1, 1200), (105, 1, 20000)], rl := [(0, at1 4), (5, at1 105), (6, ([(105, 1)], 1))], rp := [(6, 5, [ev0 3])] }
noncomputable def run39 : Bool := okTop (topF cf39 [L77] Tryz.prog 100 39 [vN]) (.sym (.ro 15 6))
theorem k39 : run39 = true := by kernel_rfl
end Go.Abs
end
section
open Go.Proofs
set_option maxRecDepth 100000
namespace Go.Abs
theorem evF_den [VL] {a d : Bool} {c : Nat} (h : (a, d, c) ∈ shs) (x y z w : AV) : (evF a d c x y z w).map (fun r => r.map (denA 20)) = evF a d c (denA 20 x) (denA 20 y) (denA 20 z) (denA 20 w) := by
  simp only [shs, List.mem_cons, List.not_mem_nil, or_false, Prod.mk.injEq] at h
  rcases h with ⟨rfl, rfl, rfl⟩ | ⟨rfl, rfl, rfl⟩ | ⟨rfl, rfl, rfl⟩ | ⟨rfl, rfl, rfl⟩ | ⟨rfl, rfl, rfl⟩ | ⟨rfl, rfl, rfl⟩ | ⟨rfl, rfl, rfl⟩ <;> rfl
theorem evN_len {s : Bool × Bool × Nat} (h : s ∈ shs) : (evN s).length ≤ 13 ∧ 1 ≤ (evN s).length := by
  simp only [shs, List.mem_cons, List.not_mem_nil, or_false] at h
  rcases h with rfl | rfl | rfl | rfl | rfl | rfl | rfl <;> exact ⟨by decide, by decide⟩
theorem evR_ok {r : RowD} (h : r.sh ∈ shs) : FOK (evR r) := by
  have key : ∀ (a d : Bool) (c : Nat) (x y z w : Value), (a, d, c) ∈ shs → (evF a d c (.lit x) (.lit y) (.lit z) (.lit w)).all (fun r => r.all fun x => x.dat && pureB 20 x) = true := by
    intro a d c x y z w h
    simp only [shs, List.mem_cons, List.not_mem_nil, or_false, Prod.mk.injEq] at h
    rcases h with ⟨rfl, rfl, rfl⟩ | ⟨rfl, rfl, rfl⟩ | ⟨rfl, rfl, rfl⟩ | ⟨rfl, rfl, rfl⟩ | ⟨rfl, rfl, rfl⟩ | ⟨rfl, rfl, rfl⟩ | ⟨rfl, rfl, rfl⟩ <;> rfl
  intro row hr x hx
  have := List.all_eq_true.1 (List.all_eq_true.1 (key r.a r.d r.c _ _ _ _ h) row hr) x hx
  simp only [Bool.and_eq_true] at this
  exact ⟨this.1, pureB_ok this.2⟩
theorem ev0_ok (k : Int) : FOK [ev0 k] := by
  intro row hr x hx
  simp only [List.mem_cons, List.not_mem_nil, or_false] at hr
  subst hr
  have key : (ev0 k).all (fun x => x.dat && pureB 20 x) = true := rfl
  have := List.all_eq_true.1 key x hx
  simp only [Bool.and_eq_true] at this
  exact ⟨this.1, pureB_ok this.2⟩
theorem evs_ok {rows : List RowD} (h : ∀ r, r ∈ rows → r.sh ∈ shs) : ∀ k, k ≤ rows.length → FOK (evs rows k)
  | 0, _ => ev0_ok 2
  | k + 1, hk => FOK.app (evs_ok h k (by omega)) (evR_ok (h _ (getD_mem (by omega))))
theorem FOK.take {l : List (List AV)} (h : FOK l) (n : Nat) : FOK (l.take n) := fun row hr => h row (List.mem_of_mem_take hr)
theorem evR_lenN (r : RowD) (h : r.sh ∈ shs) : (evR r).length = (evN r.sh).length := by
  obtain ⟨a, da, ea, b, d, c, t⟩ := r
  have h : (a, d, c) ∈ shs := h
  simp only [shs, List.mem_cons, List.not_mem_nil, or_false, Prod.mk.injEq] at h
  rcases h with ⟨rfl, rfl, rfl⟩ | ⟨rfl, rfl, rfl⟩ | ⟨rfl, rfl, rfl⟩ | ⟨rfl, rfl, rfl⟩ | ⟨rfl, rfl, rfl⟩ | ⟨rfl, rfl, rfl⟩ | ⟨rfl, rfl, rfl⟩ <;> rfl
theorem evs_len {rows : List RowD} (h : ∀ r, r ∈ rows → r.sh ∈ shs) : ∀ k, k ≤ rows.length → 1 ≤ (evs rows k).length ∧ (evs rows k).length ≤ 1 + 13 * k
  | 0, _ => ⟨Nat.le_refl _, Nat.le_refl _⟩
  | k + 1, hk => by
    have ih := evs_len h k (by omega)
    have hs := h _ (getD_mem (by omega : k < rows.length))
    have := evN_len hs
    simp only [evs, List.length_append, evR_lenN _ hs]
    omega
theorem chn_mem {l : List (List AV)} {a' a : Nat} {rows : List (List AV)} : ∀ {n j0 : Nat}, (a', a, rows) ∈ chn l j0 n → ∃ j, j0 ≤ j ∧ j < j0 + n ∧ a' = 1011 + j ∧ a = (match j with | 0 => 5 | j => 1010 + j) ∧ rows = [l.getD j []]
  | 0, _, h => by cases h
  | n + 1, j0, h => by
    simp only [chn, List.mem_cons, Prod.mk.injEq] at h
    rcases h with ⟨rfl, rfl, rfl⟩ | h
    · exact ⟨j0, by omega, by omega, rfl, rfl, rfl⟩
    · obtain ⟨j, h1, h2, h3⟩ := chn_mem h
      exact ⟨j, by omega, by omega, h3⟩
theorem chnL_mem {p : Nat × Lin} : ∀ {n j0 : Nat}, p ∈ chnL j0 n → ∃ j, j0 ≤ j ∧ j < j0 + n ∧ p = (1011 + j, ([(105, 1)], (j : Int) + 1))
  | 0, _, h => by cases h
  | n + 1, j0, h => by
    simp only [chnL, List.mem_cons] at h
    rcases h with rfl | h
    · exact ⟨j0, by omega, by omega, rfl⟩
    · obtain ⟨j, h1, h2, h3⟩ := chnL_mem h
      exact ⟨j, by omega, by omega, h3⟩
theorem take_getD {l : List (List AV)} {j : Nat} (h : j < l.length) : l.take (j + 1) = l.take j ++ [l.getD j []] := by
  rw [List.getD_eq_getElem?_getD, List.getElem?_eq_getElem h]
  exact List.take_succ_eq_append_getElem h
theorem getD_map {f : List AV → List AV} {l : List (List AV)} {j : Nat} (h : j < l.length) : (l.map f).getD j [] = f (l.getD j []) := by
  simp [List.getD_eq_getElem?_getD, List.getElem?_map, List.getElem?_eq_getElem h]
abbrev vlW (rows : List RowD) (k : Nat) : VL :=
  ⟨fun a => if a = 100 then (k : Int) else if a = 105 then ((evs rows k).length : Int) else if a = 4 then (rows.length : Int) else if a = 1001 then (rows.getD k default).ea else 0,
   fun a => if a = 1000 then (rows.getD k default).da else if a = 1002 then (rows.getD k default).b else if a = 1003 then (rows.getD k default).t else [], fun _ => false,
   fun a => if a = 0 then rows.map fun r => rowV r.fs else if a = 5 then evs rows k else if a = 6 then evs rows rows.length ++ [ev0 3] else if a = 7 then [ev0 2] else if 1011 ≤ a ∧ k < rows.length then evs rows k ++ (evR (rows.getD k default)).take (a - 1010) else [], fun _ => .emp, fun _ _ _ => False⟩
section
variable {rows : List RowD} {k : Nat}
theorem vlW_s (a m : Nat) : @denA (vlW rows k) (m + 1) (so a) = lb (@VL.s (vlW rows k) a) := @so_den (vlW rows k) m a
theorem vlW_s0 (m : Nat) : @denA (vlW rows k) (m + 1) (so 1000) = lb (rows.getD k default).da := @so_den (vlW rows k) m 1000
theorem vlW_s2 (m : Nat) : @denA (vlW rows k) (m + 1) (so 1002) = lb (rows.getD k default).b := @so_den (vlW rows k) m 1002
theorem vlW_s3 (m : Nat) : @denA (vlW rows k) (m + 1) (so 1003) = lb (rows.getD k default).t := @so_den (vlW rows k) m 1003
theorem vlW_i1 (m : Nat) : @denA (vlW rows k) (m + 1) (ni 1001) = lI (rows.getD k default).ea := @ni_den (vlW rows k) m 1001
theorem evN_den (h : (rows.getD k default).sh ∈ shs) : (evN (rows.getD k default).sh).map (fun r => r.map (@denA (vlW rows k) 20)) = evR (rows.getD k default) := by
  show (evF (rows.getD k default).a (rows.getD k default).d (rows.getD k default).c (so 1000) (ni 1001) (so 1002) (so 1003)).map (fun r => r.map (@denA (vlW rows k) 20)) = _
  rw [@evF_den (vlW rows k) _ _ _ h, vlW_s0 19, vlW_i1 19, vlW_s2 19, vlW_s3 19]
  rfl
theorem rowW_den (h : (rows.getD k default).sh ∈ shs) : (rowV (fldN (rows.getD k default).sh.1 (rows.getD k default).sh.2.1 (rows.getD k default).sh.2.2)).map (@denA (vlW rows k) 20) = rowV (rows.getD k default).fs := by
  show (rowV (fldV (rows.getD k default).a (rows.getD k default).d (rows.getD k default).c (so 1000) (ni 1001) (so 1002) (so 1003))).map (@denA (vlW rows k) 20) = _
  rw [@fld_den (vlW rows k) _ _ _ h, vlW_s0 18, vlW_i1 18, vlW_s2 18, vlW_s3 17]
  rfl
theorem vlW_rd (h : ∀ r, r ∈ rows → r.sh ∈ shs) (hk : k ≤ rows.length) (a : Nat) (row : List AV) (hr : row ∈ (vlW rows k).r a) (x : AV) (hx : x ∈ row) : x.dat = true ∧ Pure x := by
  have hr : row ∈ (if a = 0 then rows.map fun r => rowV r.fs else if a = 5 then evs rows k else if a = 6 then evs rows rows.length ++ [ev0 3] else if a = 7 then [ev0 2] else if 1011 ≤ a ∧ k < rows.length then evs rows k ++ (evR (rows.getD k default)).take (a - 1010) else []) := hr
  split at hr
  · obtain ⟨r, hfs, rfl⟩ := List.mem_map.1 hr
    exact rowV_ok (fs_ok (h r hfs)) x hx
  · split at hr
    · exact evs_ok h k hk row hr x hx
    · split at hr
      · exact FOK.app (evs_ok h _ (Nat.le_refl _)) (ev0_ok 3) row hr x hx
      · split at hr
        · exact ev0_ok 2 row hr x hx
        · split at hr
          · rename_i hc
            exact FOK.app (evs_ok h k hk) (FOK.take (evR_ok (h _ (getD_mem hc.2))) _) row hr x hx
          · cases hr
theorem cf77_ok (hn : rows.length ≤ 1200) (h : ∀ r, r ∈ rows → r.sh ∈ shs) (he : ∀ r, r ∈ rows → -1 ≤ r.ea ∧ r.ea ≤ 5) (hk : k < rows.length) : @Cfg.OK (vlW rows k) (cf77 (rows.getD k default).sh) := by
  have hs := h _ (getD_mem hk)
  have hl := evs_len h k (Nat.le_of_lt hk)
  have hle := evR_lenN _ hs
  have hbig : ∀ j, j < (evN (rows.getD k default).sh).length → (vlW rows k).r (1011 + j) = evs rows k ++ (evR (rows.getD k default)).take (j + 1) := by
    intro j hj
    show (if 1011 + j = 0 then _ else if 1011 + j = 5 then _ else if 1011 + j = 6 then _ else if 1011 + j = 7 then _ else if 1011 ≤ 1011 + j ∧ k < rows.length then _ else _) = _
    rw [if_neg (by omega), if_neg (by omega), if_neg (by omega), if_neg (by omega), if_pos ⟨by omega, hk⟩, show 1011 + j - 1010 = j + 1 by omega]
  refine cfgOK_of (fun p hp => ?_) (fun f hf => ?_) (vlW_rd h (Nat.le_of_lt hk)) rfl (fun p hp => by cases hp) (fun p hp => ?_) (fun p hp => ?_) (rp := fun a' a rws hp => ?_)
  · simp only [cf77, List.mem_cons, List.not_mem_nil, or_false] at hp
    rcases hp with rfl | rfl | rfl | rfl
    · show (1 : Int) ≤ (rows.length : Int) ∧ (rows.length : Int) ≤ 1200; omega
    · show (0 : Int) ≤ (k : Int) ∧ (k : Int) ≤ 1199; omega
    · show (1 : Int) ≤ ((evs rows k).length : Int) ∧ ((evs rows k).length : Int) ≤ 20000; omega
    · exact he _ (getD_mem hk)
  · simp only [cf77, List.mem_cons, List.not_mem_nil, or_false] at hf
    subst hf
    show (0 : Int) ≤ 1 * (rows.length : Int) + (-1 * (k : Int) + 0) + -1; omega
  · simp only [cf77, List.mem_cons] at hp
    rcases hp with rfl | rfl | hp
    · show (((rows.map fun r => rowV r.fs).length : Nat) : Int) = 1 * (rows.length : Int) + 0 + 0
      rw [List.length_map]; omega
    · show (((evs rows k).length : Nat) : Int) = 1 * ((evs rows k).length : Int) + 0 + 0; omega
    · obtain ⟨j, h1, h2, rfl⟩ := chnL_mem hp
      have h3 := hbig j (by omega)
      show ((((vlW rows k).r (1011 + j)).length : Nat) : Int) = 1 * ((evs rows k).length : Int) + 0 + ((j : Int) + 1)
      rw [h3, List.length_append, List.length_take]
      omega
  · simp only [cf77, List.mem_cons, List.not_mem_nil, or_false] at hp
    subst hp
    refine ⟨k, ?_, ?_⟩
    · show 1 * (k : Int) + 0 + 0 = _; omega
    · rw [rowW_den hs]
      show (rows.map fun r => rowV r.fs)[k]? = _
      rw [List.getElem?_map, List.getElem?_eq_getElem hk, List.getD_eq_getElem?_getD, List.getElem?_eq_getElem hk]; rfl
  · obtain ⟨j, h1, h2, rfl, rfl, rfl⟩ := chn_mem (show (a', a, rws) ∈ chn (evN (rows.getD k default).sh) 0 (evN (rows.getD k default).sh).length from hp)
    have hj : j < (evN (rows.getD k default).sh).length := by omega
    have hd : [(evN (rows.getD k default).sh).getD j []].map (fun r => r.map (@denA (vlW rows k) 20)) = [(evR (rows.getD k default)).getD j []] := by
      rw [← evN_den hs, getD_map hj]; rfl
    rw [hbig j hj, hd]
    have hp : (vlW rows k).r (match j with | 0 => 5 | j => 1010 + j) = evs rows k ++ (evR (rows.getD k default)).take j := by
      cases j with
      | zero => rw [List.take_zero, List.append_nil]; rfl
      | succ j =>
        have := hbig j (by omega)
        rw [← this]
        show (vlW rows k).r (1010 + (j + 1)) = _
        rw [show 1010 + (j + 1) = 1011 + j by omega]
    rw [hp, List.append_assoc]
    congr 1
    exact take_getD (by omega)
theorem cx77_ok (hn : 1 ≤ rows.length ∧ rows.length ≤ 1200) (h : ∀ r, r ∈ rows → r.sh ∈ shs) {bd : List (Nat × Int × Int)} {fs : List Lin} (hbd : ∀ p, p ∈ bd → p ∈ [(4, (1 : Int), (1200 : Int)), (100, 0, 1200), (105, 1, 20000)])
    (hfs : ∀ f, f ∈ fs → f ∈ [([(4, (1 : Int)), (100, -1)], (0 : Int)), ([(4, -1), (100, 1)], 0)]) : @Cfg.OK (vlW rows rows.length) { cx77 with bd := bd, fs := fs } := by
  have hl := evs_len h rows.length (Nat.le_refl _)
  refine cfgOK_of (fun p hp => ?_) (fun f hf => ?_) (vlW_rd h (Nat.le_refl _)) rfl (fun p hp => by cases hp) (fun p hp => ?_) (fun p hp => by cases hp) (rp := fun a' a rws hp => ?_)
  · have hp := hbd p hp
    simp only [List.mem_cons, List.not_mem_nil, or_false] at hp
    rcases hp with rfl | rfl | rfl
    · show (1 : Int) ≤ (rows.length : Int) ∧ (rows.length : Int) ≤ 1200; omega
    · show (0 : Int) ≤ (rows.length : Int) ∧ (rows.length : Int) ≤ 1200; omega
    · show (1 : Int) ≤ ((evs rows rows.length).length : Int) ∧ ((evs rows rows.length).length : Int) ≤ 20000; omega
  · have hf := hfs f hf
    simp only [List.mem_cons, List.not_mem_nil, or_false] at hf
    rcases hf with rfl | rfl
    · show (0 : Int) ≤ 1 * (rows.length : Int) + (-1 * (rows.length : Int) + 0) + 0; omega
    · show (0 : Int) ≤ -1 * (rows.length : Int) + (1 * (rows.length : Int) + 0) + 0; omega
  · simp only [cx77, List.mem_cons, List.not_mem_nil, or_false] at hp
    rcases hp with rfl | rfl | rfl
    · show (((rows.map fun r => rowV r.fs).length : Nat) : Int) = 1 * (rows.length : Int) + 0 + 0
      rw [List.length_map]; omega
    · show (((evs rows rows.length).length : Nat) : Int) = 1 * ((evs rows rows.length).length : Int) + 0 + 0; omega
    · show (((evs rows rows.length ++ [ev0 3]).length : Nat) : Int) = 1 * ((evs rows rows.length).length : Int) + 0 + 1
      rw [List.length_append]; simp
  · simp only [cx77, List.mem_cons, List.not_mem_nil, or_false, Prod.mk.injEq] at hp
    obtain ⟨rfl, rfl, rfl⟩ := hp
    rfl
theorem vlW_i {k' a : Nat} (ha : a < 1000) (h1 : a ≠ 100) (h2 : a ≠ 105) : (vlW rows k').i a = (vlW rows k).i a := by
  show (if a = 100 then _ else if a = 105 then _ else if a = 4 then _ else if a = 1001 then _ else _) = (if a = 100 then _ else if a = 105 then _ else if a = 4 then _ else if a = 1001 then _ else _)
  rw [if_neg h1, if_neg h2, if_neg h1, if_neg h2, if_neg (by omega : ¬ a = 1001), if_neg (by omega : ¬ a = 1001)]
theorem vlW_ss {k' a : Nat} (ha : a < 1000) : (vlW rows k').s a = (vlW rows k).s a := by
  show (if a = 1000 then _ else if a = 1002 then _ else if a = 1003 then _ else _) = (if a = 1000 then _ else if a = 1002 then _ else if a = 1003 then _ else _)
  rw [if_neg (by omega), if_neg (by omega), if_neg (by omega), if_neg (by omega), if_neg (by omega), if_neg (by omega)]
theorem vlW_r {k' a : Nat} (ha : a < 1000) (h5 : a ≠ 5) : (vlW rows k').r a = (vlW rows k).r a := by
  show (if a = 0 then _ else if a = 5 then _ else if a = 6 then _ else if a = 7 then _ else if 1011 ≤ a ∧ k' < rows.length then _ else _) = (if a = 0 then _ else if a = 5 then _ else if a = 6 then _ else if a = 7 then _ else if 1011 ≤ a ∧ k < rows.length then _ else _)
  by_cases e0 : a = 0
  · rw [if_pos e0, if_pos e0]
  · rw [if_neg e0, if_neg h5, if_neg e0, if_neg h5]
    by_cases e6 : a = 6
    · rw [if_pos e6, if_pos e6]
    · rw [if_neg e6, if_neg e6]
      by_cases e7 : a = 7
      · rw [if_pos e7, if_pos e7]
      · rw [if_neg e7, if_neg e7, if_neg (by omega), if_neg (by omega)]
theorem events_cs (hn : 1 ≤ rows.length ∧ rows.length ≤ 1200) (h : ∀ r, r ∈ rows → r.sh ∈ shs) (he : ∀ r, r ∈ rows → -1 ≤ r.ea ∧ r.ea ≤ 5) : CS Tryz.prog 39 [vvK (rows.map RowD.fs)] (.ro 15 (evs rows rows.length ++ [ev0 3])) := by
  have okx := cx77_ok hn h (fun p hp => hp) (fun f hf => hf)
  have ok0 := cx77_ok hn h (bd := [(4, 1, 1200), (105, 1, 20000)]) (fs := []) (fun p hp => by
    simp only [List.mem_cons, List.not_mem_nil, or_false] at hp
    rcases hp with rfl | rfl <;> simp) (fun f hf => by cases hf)
  have hF : ∀ fs, fs ∈ rows.map RowD.fs → FOK fs := fun fs hfs => by
    obtain ⟨r, hr, rfl⟩ := List.mem_map.1 hfs
    exact fs_ok (h r hr)
  refine @cs_of (vlW rows rows.length) cf39 [L77] ok0 (@tellOf (vlW rows rows.length) _ ok0 rfl rfl fun f xs r hp => by cases hp) (fun lp hlp => ?_) 100 39 _ _ k39 _ _ ?_ rfl (one_pure (vvK_pure hF)) ?_
  · simp only [List.mem_cons, List.not_mem_nil, or_false] at hlp
    subst hlp
    refine ⟨⟨rows.length, fun k => vlW rows k, fun _ => 0, rfl, rfl, rfl, ?_, fun k hk => ?_⟩, okx, @tellOf (vlW rows rows.length) _ okx rfl rfl fun f xs r hp => by cases hp⟩
    · refine subOK_of (fun a ha hn => vlW_i ha (by rintro rfl; simp [L77, lk2] at hn) (by rintro rfl; simp [L77, lk2] at hn)) (fun p hp => ?_) (fun a ha hn => vlW_ss ha) (fun p hp => by cases hp) rfl (fun a ha hn => vlW_r ha (by rintro rfl; simp [L77, lk2] at hn)) (fun p hp => ?_) (fun a ha => by cases ha) (fun p hp => ?_) rfl
      · simp only [L77, List.mem_cons, List.not_mem_nil, or_false] at hp
        rcases hp with rfl | rfl <;> rfl
      · simp only [L77, List.mem_cons, List.not_mem_nil, or_false] at hp
        subst hp
        rfl
      · simp only [L77, List.mem_cons, List.not_mem_nil, or_false] at hp
        subst hp
        exact ⟨rfl, fun row hr x hx => (ev0_ok 2 row hr x hx).2⟩
    · have hs := h _ (getD_mem hk)
      refine ⟨_, List.mem_map.2 ⟨(rows.getD k default).sh, hs, rfl⟩, rfl, rfl, cf77_ok hn.2 h he hk, @tellOf (vlW rows k) _ (cf77_ok hn.2 h he hk) rfl rfl fun f xs r hp => (by cases hp), ?_⟩
      refine subOK_of (fun a ha hn => vlW_i ha (by rintro rfl; simp [cas77, lk2] at hn) (by rintro rfl; simp [cas77, lk2] at hn)) (fun p hp => ?_) (fun a ha hn => vlW_ss ha) (fun p hp => by cases hp) rfl (fun a ha hn => vlW_r ha (by rintro rfl; simp [cas77, lk2] at hn)) (fun p hp => ?_) (fun a ha => by cases ha) (fun p hp => by cases hp) rfl
      · simp only [cas77, List.mem_cons, List.not_mem_nil, or_false] at hp
        rcases hp with rfl | rfl
        · show ((k + 1 : Nat) : Int) = 1 * (k : Int) + 0 + 1
          push_cast; omega
        · show (((evs rows (k + 1)).length : Nat) : Int) = 1 * ((evs rows k).length : Int) + 0 + ((evN (rows.getD k default).sh).length : Int)
          simp only [evs, List.length_append, evR_lenN _ hs]
          push_cast; omega
      · simp only [cas77, List.mem_cons, List.not_mem_nil, or_false] at hp
        subst hp
        have h1 := (evN_len hs).2
        show evs rows (k + 1) = (if 1010 + (evN (rows.getD k default).sh).length = 0 then _ else if 1010 + (evN (rows.getD k default).sh).length = 5 then _ else if 1010 + (evN (rows.getD k default).sh).length = 6 then _ else if 1010 + (evN (rows.getD k default).sh).length = 7 then _ else if 1011 ≤ 1010 + (evN (rows.getD k default).sh).length ∧ k < rows.length then evs rows k ++ (evR (rows.getD k default)).take (1010 + (evN (rows.getD k default).sh).length - 1010) else [])
        rw [if_neg (by omega), if_neg (by omega), if_neg (by omega), if_neg (by omega), if_pos ⟨by omega, hk⟩, show 1010 + (evN (rows.getD k default).sh).length - 1010 = (evN (rows.getD k default).sh).length by omega, ← evR_lenN _ hs, List.take_length]
        rfl
  · show [AV.agg (vList (.ro 13 (rows.map fun r => rowV r.fs)))] = [AV.agg (vList (.ro 13 ((rows.map RowD.fs).map rowV)))]
    rw [List.map_map]; rfl
  · exact .ro fun r hr y hy => (FOK.app (evs_ok h _ (Nat.le_refl _)) (ev0_ok 3) r hr y hy).2
end
end Go.Abs
end
section
open Go.Proofs
set_option maxRecDepth 100000
namespace Go.Abs
def ctS (c : ClE) : List (Nat × List AV × AV) := [
  (37, [chkN, lI 2, .agg (vNum (so 1000) (ni 1001))], lB (!(isK c.k 1))), (37, [chkN, lI 3, .agg (vText (so 1002))], lB (!(isK c.k 3))), (37, [chkN, lI 6, .agg (vz 0)], lB false),
  (37, [chkN, lI 5, .agg (vText (lS [122]))], lB true), (37, [chkN, lI 5, .agg (vText (lS [120]))], lB true), (37, [chkN, lI 5, .agg (vText (so 1003))], lB (!(isK c.k 7))),
  (63, [.agg (vNum (so 1000) (ni 1001))], lI 0), (63, [.agg (vText (so 1002))], lI 0), (63, [.agg (vz 0)], lI 0), (63, [.agg (vText (lS [122]))], lI 0), (63, [.agg (vText (lS [120]))], lI 0), (63, [.agg (vText (so 1003))], lI 0)]
def ctS0 : List (Nat × List AV × AV) := [(76, [chkN], chkN), (39, [vN], .sym (.ro 15 6)), (74, [chkN], lI 0)]
def bdS : List (Nat × Int × Int) := [(4, 1, 1200), (1, 0, 1200), (2, 0, 5), (107, 3, 20000)]
def cfSt : Cfg := { cfg0 with
  bd := bdS
  rl := [(0, at1 4), (6, at1 107)]
  mt := [(173, 1)]
  ct := ctS0 }
def chkC : AV := match chkN with
  | .agg [x] => x
  | x => x
def mbS (fr nodes : AV) (done res : Bool) : Blk := .box [chkC, fr, nodes, lB false, lB done, lB res]
def setS (on : Bool) : Blk := match on with
  | true => .setm [(.int .i64 0, .bool true, 0)] 1
  | false => .setm [] 1
def rvS : List (List AV) → Nat → List (Nat × Lin × List AV)
  | [], _ => []
  | e :: r, j => (6, ([(106, 1)], (j : Int)), e) :: rvS r (j + 1)
def cfSr (c : ClE) : Cfg := { cfg0 with
  bd := [(1001, -1, 5), (1004, 0, 7), (1005, 0, 3), (100, 0, 1199), (106, 1, 20000), (108, 1, 20000)] ++ bdS
  fs := [([(4, 1), (100, -1)], -1), ([(107, 1), (106, -1)], - ((evN c.sh).length : Int) - 1)]
  sl := [(1000, at1 1004), (1002, at1 1005)]
  rl := [(0, at1 4), (6, at1 107)]
  rv := rvS (evN c.sh) 0
  mt := [(173, 1)]
  ct := ctS c ++ ctS0 }
def tmOn (on : Bool) : List (Nat × AV) × List (Nat × Option Blk) :=
  ([(11, ni 106), (10, lI 1)], [(10007, some (mbS (.sl 20000 6 0 2) (ni 108) false false)),
    (20000, some (.arr false 6 [[lB false, lB false, lS [], .lit (.map none), lI 0, .mp 20001], [lB false, lB false, lS [], .mp 20002, ni 100, .mp 20003]])),
    (20001, some (setS true)), (20002, some (.map [])), (20003, some (setS on))])
def casS (c : ClE) (f g : Nat) : Cas := { frm := f, to := g, cf := cfSr c, m := (evN c.sh).length - 1, sb := { i := [(100, ([(100, 1)], 1)), (106, ([(106, 1)], (evN c.sh).length)), (108, ([(108, 1)], nv c.sh))] } }
def casS0 : Cas := { frm := 2, to := 0, cf := { cfSt with rv := [(6, ([], 0), ev0 2)] }, sb := { i := [(100, ([], 0)), (106, ([], 1)), (108, ([], 1))] } }
def fs100 (l : Bool) : Lin := match l with
  | true => ([(1, -1), (100, 1)], -1)
  | false => ([(1, 1), (100, -1)], 0)
def cfSe (l : Bool) : Cfg := { cfSt with
  bd := [(100, 1, 1200), (106, 1, 20000), (108, 1, 20000)] ++ bdS
  rv := [(6, at1 106, ev0 3)]
  fs := [([(4, 1), (100, -1)], 0), ([(4, -1), (100, 1)], 0), ([(106, 1), (107, -1)], 1), ([(106, -1), (107, 1)], -1), fs100 l] }
def casSe (l : Bool) (f g : Nat) : Cas := { frm := f, to := g, cf := cfSe l, sb := { i := [(106, ([(106, 1)], 1))] } }
def cfSx : Cfg := { cfSt with
  bd := [(100, 0, 1200), (106, 1, 20000), (108, 1, 20000)] ++ bdS
  fs := [([(106, 1), (107, -1)], 0), ([(106, -1), (107, 1)], 0)] }
def goodE : List ClE := clsE.filter fun c => isK c.k 0
def badE : List ClE := clsE.filter fun c => !(isK c.k 0)
def csS (l good : Bool) : List Cas := casS0 :: (match good with
  | true => casSe l 0 3 :: goodE.map fun c => casS c 0 0
  | false => (match l with | true => [casSe l 0 4, casSe l 1 4] | false => [casSe l 1 4]) ++ ((goodE.map fun c => casS c 0 0) ++ ((goodE.map fun c => casS c 1 1) ++ ((badE.map fun c => casS c 0 1) ++ (badE.map fun c => casS c 1 1)))))
def L15 (l good : Bool) : Lp where
  fn := 15
  id := 7
  up := 4
  tm := [tmOn true, tmOn false,
    ([(11, lI 0), (10, lI 0)], [(10007, some (mbS (.sl 20000 6 0 1) (lI 0) false false)), (20000, some (.arr false 6 [[lB false, lB false, lS [], .lit (.map none), lI 0, .mp 20001]])), (20001, some (setS true))]),
    ([(11, ni 106), (10, lI 0)], [(10007, some (mbS nilS (ni 108) true true))]),
    ([(11, ni 106), (10, lI 0)], [(10007, some (mbS nilS (ni 108) true false))])]
  i0 := 2
  dH := [4, 5]
  s0 := {}
  cs := csS l good
  fin := match good with | true => 3 | false => 4
  cx := cfSx
/-- the loop with one case -/
noncomputable def runSt (good : Bool) (c : Cas) : Bool := okTop (topG cfSt { L15 false good with cs := [c] } Tryz.prog 100 15 [chkN, vN, lB good]) (lB true)
end Go.Abs
end
