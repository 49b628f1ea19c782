/- Part 34 of the proof that TopRows returns true for every input of its row (no condition beyond the row). -/
import Derived.Test.YthoapgncpjhloaaGreatDoorJ7
import Derived.Test.YthoapgncpjhloaaGreatDoorJ20
import Derived.Test.YthoapgncpjhloaaGreatDoorJ22
import Derived.Test.YthoapgncpjhloaaGreatDoorJ26
import Derived.Test.YthoapgncpjhloaaGreatDoorJ31
import Derived.Test.YthoapgncpjhloaaGreatDoorJ32
import Derived.Test.YthoapgncpjhloaaGreatDoorJ33
set_option linter.unusedVariables false
set_option linter.unusedSimpArgs false
set_option linter.unusedSectionVars false
set_option linter.all false
section
open Go.Proofs
set_option maxRecDepth 100000
namespace Go.Abs
section
variable {T : InT}
theorem ckT (h : OkT T) : CS Tryz.prog 74 [chkK (dgs T.mo) (exq T.mo) T.most] (lI 0) := vcheck_cs (topT h)
theorem okV_T (h : OkT T) : OkV T.E := by
  have hn := h.n
  have hlen : T.E.rows.length = T.n := rowsT_len T
  have hr : ∀ k, k < T.E.rows.length → k < T.n ∧ T.E.row k = T.row k := fun k hk => ⟨by omega, rowsT_at (by omega)⟩
  refine ⟨by omega, exq_le h.m6, mostT_le h, fun k hk => ?_, fun k hk => ?_, fun k hk => ?_, fun k hk => ?_, ckT h, checkT h⟩
  · obtain ⟨a, b⟩ := hr k hk
    rw [b]; exact isT h a
  · obtain ⟨a, b⟩ := hr k hk
    rw [b]; exact h.rowok a
  · obtain ⟨a, b⟩ := hr k hk
    rw [b]; exact hasT h a
  · obtain ⟨a, b⟩ := hr k hk
    rw [b]
    obtain ⟨m, e, h1, h2, h3⟩ := bT T k
    rw [e, List.length_replicate]
    exact textRunes_cs (chA_le _ _ _ _) h3
theorem runT_good (h : OkT T) (hl : T.l = false) (hg : T.prs T.n = []) : CS Tryz.prog 14 [chkK (dgs T.mo) (exq T.mo) T.most, vvK (T.rows.map RowD.fs)] (lB true) := by
  have hlen : T.E.rows.length = T.n := rowsT_len T
  have hm : T.most = T.n := by unfold InT.most; rw [hl]
  exact run_good (okV_T h) (by rw [hlen]; show T.n ≤ T.most; omega) fun k hk => good_all hg (by omega)
theorem runT_bad (h : OkT T) (hb : T.l = true ∨ T.prs T.n ≠ []) : CS Tryz.prog 14 [chkK (dgs T.mo) (exq T.mo) T.most, vvK (T.rows.map RowD.fs)] (lB false) := by
  have hn := h.n
  have hlen : T.E.rows.length = T.n := rowsT_len T
  cases hl : T.l with
  | true =>
    have hm : T.most = T.n - 1 := by unfold InT.most; rw [hl]
    exact run_long (okV_T h) (by rw [hlen]; show T.most < T.n; omega)
  | false =>
    have hb : T.prs T.n ≠ [] := by rcases hb with e | e; exact absurd (e.symm.trans hl) (by simp); exact e
    have hm : T.most = T.n := by unfold InT.most; rw [hl]
    obtain ⟨p, hp, h1, h2⟩ := first_bad hb
    exact run_bad (okV_T h) (by rw [hlen]; show T.n ≤ T.most; omega) (p := p) (by omega) h2 h1
theorem okS_T (h : OkT T) : OkS T.E := by
  have hn := h.n
  have hlen : T.E.rows.length = T.n := rowsT_len T
  have hr : ∀ k, k < T.E.rows.length → k < T.n ∧ T.E.row k = T.row k := fun k hk => ⟨by omega, rowsT_at (by omega)⟩
  have hm := mostT_le h
  have he := exq_le h.m6
  refine ⟨by omega, ?_, he, fun k hk => ?_, fun k hk => ?_, fun k hk => ?_, fun k hk => ?_, fun k hk => ?_, fun l hl => ?_, at_none hm he (ckT h), ?_, copied_cs hm he, ckT h⟩
  · rw [hlen]
    show match T.l with | true => T.most + 1 = T.n | false => T.most = T.n
    unfold InT.most
    cases T.l
    · rfl
    · simp only; omega
  · obtain ⟨a, b⟩ := hr k hk
    rw [b]; exact isT h a
  · obtain ⟨a, b⟩ := hr k hk
    rw [b]; exact h.rowok a
  · obtain ⟨a, b⟩ := hr k hk
    rw [b]
    have rk := h.rowok a
    exact at_num hm he rk.da rk.ea (ckT h) rk.v (hasT h a)
  · obtain ⟨a, b⟩ := hr k hk
    rw [b]
    obtain ⟨m, e, h1, h2, h3⟩ := bT T k
    rw [e]
    refine at_text hm he (by rw [List.length_replicate]; exact ⟨h1, h2⟩) (ckT h) ?_ (textValid_cs (chA_le _ _ _ _) h3)
    rw [List.length_replicate]
    exact textRunes_cs (chA_le _ _ _ _) h3
  · obtain ⟨a, b⟩ := hr k hk
    rw [b]
    obtain ⟨l, h1, h2, h3⟩ := tT T k
    rw [h2]
    show CS Tryz.prog 37 _ (lB (!(isK (T.cl k).k 7))) ∧ _
    rw [← h3]
    exact at_tag hm he (ckT h) h1
  · simp only [tagL, List.mem_cons, List.not_mem_nil, or_false] at hl
    rcases hl with rfl | rfl | rfl
    · exact at_tag hm he (ckT h) (l := (120, true)) (by simp [lets])
    · exact at_tag hm he (ckT h) (l := (121, true)) (by simp [lets])
    · exact at_tag hm he (ckT h) (l := (122, true)) (by simp [lets])
  · refine events_cs (rows := T.rows) (by rw [rowsT_len]; omega) (fun r hr => ?_) (fun r hr => ?_)
    · obtain ⟨k, hk, rfl⟩ := rowsT_mem hr
      exact (h.rowok hk).sh
    · obtain ⟨k, hk, rfl⟩ := rowsT_mem hr
      exact (h.rowok hk).ea
theorem watT_good (h : OkT T) (hl : T.l = false) (hg : T.prs T.n = []) : CS Tryz.prog 15 [chkK (dgs T.mo) (exq T.mo) T.most, vvK (T.rows.map RowD.fs), lB true] (lB true) := by
  have hlen : T.E.rows.length = T.n := rowsT_len T
  exact watched_good (okS_T h) hl fun k hk => good_all hg (by omega)
theorem watT_bad (h : OkT T) (hb : T.l = true ∨ T.prs T.n ≠ []) : CS Tryz.prog 15 [chkK (dgs T.mo) (exq T.mo) T.most, vvK (T.rows.map RowD.fs), lB false] (lB true) := by
  have hlen : T.E.rows.length = T.n := rowsT_len T
  refine watched_bad (okS_T h) ?_
  rcases hb with e | e
  · exact .inl e
  · obtain ⟨p, hp, h1, h2⟩ := first_bad e
    exact .inr ⟨p, by omega, h1⟩
theorem compT (h : OkT T) : CS Tryz.prog 13 [scK (dgs T.mo) (exq T.mo) T.most] (.tup [chkK (dgs T.mo) (exq T.mo) T.most, lI 0]) := compile_cs (topT h)
theorem ruledT (h : OkT T) : CS Tryz.prog 7 [lI T.mo, lI T.most] (scK (dgs T.mo) (exq T.mo) T.most) := ruled_cs h.mo (mostT_le h) (exq_le h.m6) (dec_cs h.m6)
end
end Go.Abs
end
section
open Go.Proofs Go.RowKit
set_option maxRecDepth 100000
namespace Go.Abs
def longT : List UInt8 := [46, 32, 108, 105, 115, 116, 10]
def longL : LnS := ⟨nilS, 9, [], [46], (wordK 9).map UInt8.ofNat, []⟩
def keyL9 (k : Nat) : List UInt8 := match k with
  | 4 => [97]
  | _ => []
def ktK (k : Nat) : List UInt8 := match k with
  | 4 => [46, 97]
  | _ => []
/-- what is said of a row's flaw -/
def rowL (p : Nat × Nat) : LnS := ⟨pathK p.1 (lI p.2), opK p.1, keyL9 p.1, txtOf p.1 (numB p.2), (wordK (opK p.1)).map UInt8.ofNat, ktK p.1⟩
def lnsOf (l : Bool) (ps : List (Nat × Nat)) : List LnS := (match l with | true => [longL] | false => []) ++ ps.map rowL
def txtL (l : Bool) (ps : List (Nat × Nat)) : List UInt8 := (match l with | true => longT | false => []) ++ ps.flatMap fun p => lineK p.1 (numB p.2)
theorem k7_cases {k : Nat} (h : 1 ≤ k ∧ k ≤ 7) : k = 1 ∨ k = 2 ∨ k = 3 ∨ k = 4 ∨ k = 5 ∨ k = 6 ∨ k = 7 := by omega
theorem rowL_row {p : Nat × Nat} (h : 1 ≤ p.1 ∧ p.1 ≤ 7) : (rowL p).row = failP p.1 (lI p.2) := by
  obtain ⟨k, i⟩ := p
  rcases k7_cases h with rfl | rfl | rfl | rfl | rfl | rfl | rfl <;> rfl
theorem rowL_line {p : Nat × Nat} (h : 1 ≤ p.1 ∧ p.1 ≤ 7) : (rowL p).line = lineK p.1 (numB p.2) := by
  obtain ⟨k, i⟩ := p
  rcases k7_cases h with rfl | rfl | rfl | rfl | rfl | rfl | rfl <;>
    (simp only [LnS.line, rowL, Tz.line, txtOf, lineK, keyL9, ktK, List.append_assoc]; rfl)
theorem lnsOf_rows {l : Bool} {ps : List (Nat × Nat)} (h : ∀ p, p ∈ ps → 1 ≤ p.1 ∧ p.1 ≤ 7) : (lnsOf l ps).map LnS.row = flsOf l ps := by
  have : (ps.map rowL).map LnS.row = ps.map fun p => failP p.1 (lI p.2) := by
    rw [List.map_map]
    exact List.map_congr_left fun p hp => rowL_row (h p hp)
  unfold lnsOf flsOf
  rw [List.map_append, this]
  cases l <;> rfl
theorem lnsOf_lines {l : Bool} {ps : List (Nat × Nat)} (h : ∀ p, p ∈ ps → 1 ≤ p.1 ∧ p.1 ≤ 7) : (lnsOf l ps).flatMap LnS.line = txtL l ps := by
  have : (ps.map rowL).flatMap LnS.line = ps.flatMap fun p => lineK p.1 (numB p.2) := by
    induction ps with
    | nil => rfl
    | cons p r ih =>
      rw [List.map_cons, List.flatMap_cons, List.flatMap_cons, ih fun q hq => h q (List.mem_cons_of_mem _ hq), rowL_line (h p List.mem_cons_self)]
  unfold lnsOf txtL
  rw [List.flatMap_append, this]
  cases l <;> rfl
theorem opK_mem {k : Nat} (h : 1 ≤ k ∧ k ≤ 7) : opK k ∈ ([4, 5, 10, 2, 9, 8] : List Int) := by
  rcases k7_cases h with rfl | rfl | rfl | rfl | rfl | rfl | rfl <;> decide
theorem longL_ok : LnOK longL :=
  ⟨.inl rfl, .lit, pathn_cs, word_cs (by decide), fun h => absurd rfl h, by decide⟩
theorem rowL_ok (h1 : CS Tryz.prog 60 [lI 1] (lS [49])) {p : Nat × Nat} (h : 1 ≤ p.1 ∧ p.1 ≤ 7) (hi : p.2 ≤ 1199) : LnOK (rowL p) := by
  have hn := numOK hi
  refine ⟨.inr ?_, pathK_pure _ _, path_cs hn h1 h, word_cs (opK_mem h), fun hk => ?_, ?_⟩
  · obtain ⟨k, i⟩ := p
    rcases k7_cases h with rfl | rfl | rfl | rfl | rfl | rfl | rfl <;> exact ⟨_, rfl⟩
  · obtain ⟨k, i⟩ := p
    rcases k7_cases h with rfl | rfl | rfl | rfl | rfl | rfl | rfl
    all_goals first
      | exact ⟨rfl, rfl⟩
      | exact absurd rfl hk
  · have hl := hn.l
    obtain ⟨k, i⟩ := p
    show (txtOf k (numB i)).length ≤ 100 ∧ ((wordK (opK k)).map UInt8.ofNat).length ≤ 100 ∧ (ktK k).length ≤ 100
    unfold txtOf
    rw [List.length_append, List.length_append, List.length_map, List.length_map]
    have : (restP k).length ≤ 10 ∧ (wordK (opK k)).length ≤ 100 ∧ (ktK k).length ≤ 100 := by
      rcases k7_cases h with rfl | rfl | rfl | rfl | rfl | rfl | rfl <;> decide
    simp only at hl
    simp only [List.length_cons, List.length_nil]
    omega
theorem textL_cs (h1 : CS Tryz.prog 60 [lI 1] (lS [49])) {l : Bool} {ps : List (Nat × Nat)} (h2 : ps.length ≤ 2) (h : ∀ p, p ∈ ps → (1 ≤ p.1 ∧ p.1 ≤ 7) ∧ p.2 ≤ 1199) (hne : l = true ∨ ps ≠ []) :
    CS Tryz.prog 11 [.ro 3 (flsOf l ps)] (lb (txtL l ps)) := by
  have hp := fun p hp => (h p hp).1
  rw [← lnsOf_rows hp, ← lnsOf_lines hp]
  refine text_cs ⟨?_, ?_⟩ fun x hx => ?_
  · unfold lnsOf
    rcases hne with e | e
    · rw [e]; simp
    · simp [e]
  · unfold lnsOf
    rw [List.length_append, List.length_map]
    cases l <;> simp <;> omega
  · rcases List.mem_append.1 hx with hx | hx
    · cases l with
      | false => cases hx
      | true =>
        simp only [List.mem_cons, List.not_mem_nil, or_false] at hx
        subst hx
        exact longL_ok
    · obtain ⟨p, hpm, rfl⟩ := List.mem_map.1 hx
      exact rowL_ok h1 (h p hpm).1 (h p hpm).2
theorem itoa1 : CS Tryz.prog 60 [lI 1] (lS [49]) := itoa_cs 1 (by omega)
section
variable {T : InT}
theorem textT_cs (h : OkT T) (hb : T.l = true ∨ T.prs T.n ≠ []) : CS Tryz.prog 11 [.ro 3 (flsOf T.l (T.prs T.n))] (lb (txtL T.l (T.prs T.n))) :=
  textL_cs itoa1 (prs_le2 T T.n) (fun p hp => by have := prs_mem hp; have := h.n; exact ⟨(prs_mem hp).1, by omega⟩) hb
end
/-- no reason, no text -/
theorem text_nil : CS Tryz.prog 11 [nilS] (lS []) := by
  refine CS.of_calls rfl (fun V s w v h => by cases h with | rep h => exact h) fun V w v hg hrep => ?_
  have : v = .slice none 0 0 := by
    cases hrep
    rfl
  subst this
  exact Tz.text_none w
end Go.Abs
end
section
open Go.Proofs
set_option maxRecDepth 100000
namespace Go.Abs
def u16n (a : Nat) : AV := .sym (.int .u16 ([(a, 1)], 0))
def ruleP : AV := .agg [u16n 14, u16n 15, u16n 8]
def flawsP (l : Bool) : AV := .agg [u16n 9, u16n 10, .sym (.int .u8 (at1 11)), .sym (.int .u8 (at1 12)), lB l]
def rowPo : List AV := vMap (.sym (.ro 14 1000))
def failPo : List AV := [.sym (.ro 3 1002), ni 1003, so 1004]
def mostP (l : Bool) : AV := match l with
  | true => .sym (.int .i64 ([(4, 1)], -1))
  | false => ni 4
def lsP : AV := .agg (vList (.sym (.ro 13 7)))
def chkP : AV := .agg [.sym (.ro 10 9)]
def bdP : List (Nat × Int × Int) := [(4, 1, 1200), (1, 0, 1200), (2, 0, 5), (14, 0, 65535), (15, 0, 65535), (8, 0, 65535), (9, 0, 65535), (10, 0, 65535), (11, 0, 255), (12, 0, 255)]
def nP (neg : Bool) : Nat × Int × Int := match neg with
  | true => (13, -9223372036854775808, -1)
  | false => (13, 0, 9223372036854775807)
def nlP (neg : Bool) : List (BinOp × IntKind × Lin × Lin × Lin) := [(.rem, .u64, match neg with | true => ([(13, 1)], 18446744073709551616) | false => at1 13, ([], 1200), ([(4, 1)], -1))]
def toldP (good : Bool) : AV := match good with
  | true => nilS
  | false => .sym (.ro 3 1)
def cfTp (neg l good : Bool) : Cfg := { cfg0 with
  bd := nP neg :: (103, match good with | true => 0 | false => 1, 3) :: (110, 0, 1000) :: bdP
  nl := nlP neg
  rm := [(8, at1 4, vz 0)]
  rl := [(7, at1 4), (8, at1 4), (3, ([], 1)), (2, ([], 0)), (1, at1 103)]
  sl := [(5, at1 110)]
  ct := [(7, [ni 8, mostP l], scN), (8, [.sym (.ro 13 7)], lsP), (9, [scN, lsP], .tup [toldP good, lI 0]), (10, [toldP good, toldP good], lB true), (11, [toldP good], match good with | true => lS [] | false => so 5),
    (12, [scN, lsP], .tup [lB good, lI 0]), (13, [scN], .tup [chkP, lI 0]), (14, [chkP, lsP], lB good), (15, [chkP, lsP, lB good], lB true), (16, [], lB true)] }
def kdP (bad : Bool) : AV := match bad with
  | true => ni 1001
  | false => lI 0
def cfTr (l bad : Bool) (ph : Nat) : Cfg := { cfg0 with
  bd := (100, 0, 1199) :: (103, 0, 3) :: (110, 0, 1000) :: (1001, 1, 7) :: (1006, 0, 100) :: (1003, 0, 20) :: (1007, 0, 2) :: bdP
  fs := [([(4, 1), (100, -1)], -1)]
  rl := [(7, at1 4), (1, at1 103), (2, ([], 0))] ++ (match ph with | 0 => [(1009, ([], 1))] | _ => [(1009, ([(103, 1)], 1))])
  sl := [(5, at1 110), (1005, at1 1006), (1004, at1 1007)]
  ra := [(1008, 7, at1 100, rowPo)]
  rp := match bad with
    | true => [(1009, match ph with | 0 => 2 | _ => 1, [failPo])]
    | false => []
  ct := [(4, [flawsP l, ni 100, ni 4], kdP bad), (5, [ruleP, ni 100, kdP bad], .agg rowPo), (6, [ni 100, ni 1001], .tup [.agg failPo, so 1005])] }
def csTP (l good : Bool) : List Cas := [{ frm := 0, to := 0, cf := cfTr l false 0, sb := { i := [(100, ([(100, 1)], 1))], r := [(7, 1008)] } },
    { frm := 1, to := 1, cf := cfTr l false 1, sb := { i := [(100, ([(100, 1)], 1))], r := [(7, 1008)], k := [] } }] ++ (match good with
  | true => []
  | false => [{ frm := 0, to := 1, cf := cfTr l true 0, sb := { i := [(100, ([(100, 1)], 1)), (103, ([], 1)), (110, ([(1006, 1)], 0))], s := [(5, [.o 1005])], r := [(7, 1008), (1, 1009)] } },
    { frm := 1, to := 1, cf := cfTr l true 1, sb := { i := [(100, ([(100, 1)], 1)), (103, ([(103, 1)], 1)), (110, ([(110, 1), (1006, 1)], 0))], s := [(5, [.o 5, .o 1005])], r := [(7, 1008), (1, 1009)] } }])
def cxTP (neg l good : Bool) : Cfg := { cfTp neg l good with
  bd := nP neg :: (100, 0, 1200) :: (103, match good with | true => 0 | false => 1, 3) :: (110, 0, 1000) :: bdP
  fs := [([(4, 1), (100, -1)], 0), ([(4, -1), (100, 1)], 0)] }
def L3 (neg l good : Bool) : Lp where
  fn := 3
  id := 10
  up := 2
  tm := [([(12, ni 100), (9, nilS), (10, lS [])], [(10011, some (.sarr 13 7))]), ([(12, ni 100), (9, .sym (.sl 20001 3 ([], 0) (at1 103))), (10, so 5)], [(10011, some (.sarr 13 7)), (20001, some (.sarr 3 1))])]
  dE := [13, 14, 15]
  dH := [10009]
  i0 := match l with | true => 1 | false => 0
  s0 := match l with
    | true => { i := [(100, ([], 0)), (103, ([], 1)), (110, ([], 7))], s := [(5, [.b 46, .b 32, .b 108, .b 105, .b 115, .b 116, .b 10])], r := [(7, 8), (1, 3)], f := [(1, [longF])] }
    | false => { i := [(100, ([], 0))], r := [(7, 8)] }
  cs := csTP l good
  fin := match good with | true => 0 | false => 1
  cx := cxTP neg l good
noncomputable def runTP (neg l good : Bool) : Bool := okTop (topF (cfTp neg l good) [L3 neg l good] Tryz.prog 100 3 [ni 13, ruleP, flawsP l]) (lB true)
theorem kTPg : (([false, true] : List Bool).all fun neg => runTP neg false true) = true := by kernel_rfl
theorem kTPb : (([false, true] : List Bool).all fun neg => runTP neg false false) = true := by kernel_rfl
theorem kTPl : (([false, true] : List Bool).all fun neg => runTP neg true false) = true := by kernel_rfl
end Go.Abs
end
section
open Go.Proofs
set_option maxRecDepth 100000
namespace Go.Abs
/-- the kind that a round tells of (some kind, if nothing is wrong) -/
def InT.kg (T : InT) (k : Nat) : Nat := match T.kd k with
  | 0 => 1
  | q => q
def pathR (q : Nat) (i : Int) : List (List AV) := match pathK q (lI i) with
  | .ro _ rows => rows
  | _ => []
noncomputable def InT.sofar (T : InT) (k : Nat) : List (List AV) := (List.range k).map (fun i => rowV (T.row i).fs) ++ List.replicate (T.n - k) (vz 0)
noncomputable def chkR (T : InT) : List (List AV) := match chkK (dgs T.mo) (exq T.mo) T.most with
  | .agg [.ro _ rows] => rows
  | _ => []
def giT (T : InT) (k a : Nat) : Int := if a = 1001 then (T.kg k : Int) else if a = 1003 then opK (T.kg k) else if a = 1006 then ((lineK (T.kg k) (numB k)).length : Int) else if a = 1007 then ((keyL9 (T.kg k)).length : Int) else 0
noncomputable def ciT (T : InT) (N : Int) (a : Nat) : Int := if a = 13 then N else if a = 4 then (T.n : Int) else if a = 1 then (T.most : Int) else if a = 2 then exq T.mo else if a = 8 then (T.mo : Int) else if a = 14 then (T.mu : Int) else if a = 15 then (T.ad : Int) else
  if a = 9 then (T.x : Int) else if a = 10 then (T.y : Int) else if a = 11 then (T.p : Int) else if a = 12 then (T.q : Int) else 0
noncomputable abbrev vlTP (T : InT) (N : Int) (k c3 : Nat) (tx : List UInt8) (f1 f9 : List (List AV)) : VL :=
  ⟨fun a => if a = 100 then (k : Int) else if a = 103 then (c3 : Int) else if a = 110 then (tx.length : Int) else match Nat.ble 1000 a with
    | true => giT T k a
    | false => ciT T N a,
   fun a => if a = 5 then tx else match Nat.ble 1000 a with
    | true => if a = 1004 then keyL9 (T.kg k) else if a = 1005 then lineK (T.kg k) (numB k) else []
    | false => if a = 0 then dgs T.mo else [],
   fun _ => false,
   fun a => if a = 7 then T.sofar k else if a = 1 then f1 else match Nat.ble 1000 a with
    | true => if a = 1000 then (T.row k).fs else if a = 1002 then pathR (T.kg k) k else if a = 1008 then T.sofar (k + 1) else if a = 1009 then f9 else []
    | false => if a = 8 then List.replicate T.n (vz 0) else if a = 3 then [longF] else if a = 9 then chkR T else [],
   fun _ => .emp, fun _ _ _ => False⟩
section
variable {T : InT} {N : Int} {k c3 : Nat} {tx : List UInt8} {f1 f9 : List (List AV)}
theorem kg_le (T : InT) (k : Nat) : 1 ≤ T.kg k ∧ T.kg k ≤ 7 := by
  have := kd_le T k
  unfold InT.kg
  cases e : T.kd k with
  | zero => exact ⟨Nat.le_refl 1, by decide⟩
  | succ q => show 1 ≤ q + 1 ∧ q + 1 ≤ 7; omega
theorem kg_eq {T : InT} {k : Nat} (h : T.kd k ≠ 0) : T.kg k = T.kd k := by
  unfold InT.kg
  split
  · rename_i e; exact absurd e h
  · rfl
theorem chkR_eq (T : InT) : chkK (dgs T.mo) (exq T.mo) T.most = .agg [.ro 10 (chkR T)] := rfl
theorem pathR_eq {q : Nat} (h : 1 ≤ q ∧ q ≤ 7) (i : Int) : failP q (lI i) = [.ro 3 (pathR q i), lI (opK q), lb (keyL9 q)] := by
  rcases k7_cases h with rfl | rfl | rfl | rfl | rfl | rfl | rfl <;> rfl
theorem failP_kq {kd : Nat} (h : kd ≤ 7) (n : AV) : failP (kq kd) n = failP kd n := by
  rcases kd_cases h with rfl | rfl | rfl | rfl | rfl | rfl | rfl | rfl <;> rfl
theorem lineK_kq {kd : Nat} (h : kd ≤ 7) (w : List UInt8) : lineK (kq kd) w = lineK kd w := by
  rcases kd_cases h with rfl | rfl | rfl | rfl | rfl | rfl | rfl | rfl <;> rfl
/-! ### the list so far -/
theorem sofar_zero (T : InT) : T.sofar 0 = List.replicate T.n (vz 0) := rfl
theorem sofar_len (h : k ≤ T.n) : (T.sofar k).length = T.n := by
  unfold InT.sofar
  rw [List.length_append, List.length_map, List.length_range, List.length_replicate]; omega
theorem sofar_all (T : InT) : T.sofar T.n = T.rows.map fun r => rowV r.fs := by
  unfold InT.sofar InT.rows
  rw [Nat.sub_self, List.replicate_zero, List.append_nil, List.map_map]; rfl
theorem sofar_at (h : k < T.n) : (T.sofar k)[k]? = some (vz 0) := by
  unfold InT.sofar
  rw [List.getElem?_append_right (by rw [List.length_map, List.length_range]; omega), List.length_map, List.length_range, Nat.sub_self]
  rw [List.getElem?_replicate, if_pos (by omega)]
theorem sofar_set (h : k < T.n) : T.sofar (k + 1) = (T.sofar k).set k (rowV (T.row k).fs) := by
  unfold InT.sofar
  rw [List.range_succ, List.map_append, List.append_assoc]
  have hl : ((List.range k).map (fun i => rowV (T.row i).fs)).length = k := by rw [List.length_map, List.length_range]
  rw [List.set_append_right _ _ (by rw [hl]; omega), hl, Nat.sub_self, show T.n - k = (T.n - (k + 1)) + 1 by omega, List.replicate_succ, List.set_cons_zero]
  rfl
theorem row_sh (T : InT) (k : Nat) : (T.row k).sh ∈ shs := rowA_sh (kd_le T k)
theorem vz_ok : FOK [vz 0] := by
  intro row hr x hx
  simp only [List.mem_cons, List.not_mem_nil, or_false] at hr
  subst hr
  have : (vz 0).all (fun x => x.dat && pureB 20 x) = true := rfl
  have := List.all_eq_true.1 this x hx
  simp only [Bool.and_eq_true] at this
  exact ⟨this.1, pureB_ok this.2⟩
theorem rep_ok (n : Nat) : FOK (List.replicate n (vz 0)) := by
  intro row hr x hx
  rw [(List.mem_replicate.1 hr).2] at hx
  exact vz_ok _ (List.mem_singleton.2 rfl) x hx
theorem sofar_ok (T : InT) (k : Nat) : FOK (T.sofar k) := by
  refine FOK.app (fun row hr x hx => ?_) (rep_ok _)
  obtain ⟨i, -, rfl⟩ := List.mem_map.1 hr
  exact rowV_ok (fs_ok (row_sh T i)) x hx
theorem chkR_ok (T : InT) : FOK (chkR T) := by
  have : ∀ d x m : Value, ((match chkV (.lit d) (.lit x) (.lit m) with | .agg [.ro _ rows] => rows | _ => []).all fun r => r.all fun x => x.dat && pureB 20 x) = true := fun _ _ _ => rfl
  intro row hr x hx
  have := List.all_eq_true.1 (List.all_eq_true.1 (this (.string ⟨(dgs T.mo).toArray⟩) (.int .i64 (exq T.mo)) (.int .i64 T.most)) row hr) x hx
  simp only [Bool.and_eq_true] at this
  exact ⟨this.1, pureB_ok this.2⟩
theorem pathR_ok {q : Nat} (h : 1 ≤ q ∧ q ≤ 7) (i : Int) : FOK (pathR q i) := by
  have : (pathR q i).all (fun r => r.all fun x => x.dat && pureB 20 x) = true := by
    rcases k7_cases h with rfl | rfl | rfl | rfl | rfl | rfl | rfl <;> rfl
  intro row hr x hx
  have := List.all_eq_true.1 (List.all_eq_true.1 this row hr) x hx
  simp only [Bool.and_eq_true] at this
  exact ⟨this.1, pureB_ok this.2⟩
theorem flsOf_ok (l : Bool) (ps : List (Nat × Nat)) : FOK (flsOf l ps) := by
  refine FOK.app ?_ fun row hr x hx => ?_
  · cases l
    · exact FOK.nil
    · exact flsE_ok true (fun _ => ⟨(true, false, 0), 0, (0, 0, 0, 0)⟩) 0
  · obtain ⟨p, -, rfl⟩ := List.mem_map.1 hr
    exact failP_ok _ _ x hx
theorem vlTP_rd (h1 : FOK f1) (h9 : FOK f9) (a : Nat) (row : List AV) (hr : row ∈ (vlTP T N k c3 tx f1 f9).r a) (x : AV) (hx : x ∈ row) : x.dat = true ∧ Pure x := by
  have hr : row ∈ (if a = 7 then T.sofar k else if a = 1 then f1 else match Nat.ble 1000 a with
    | true => if a = 1000 then (T.row k).fs else if a = 1002 then pathR (T.kg k) k else if a = 1008 then T.sofar (k + 1) else if a = 1009 then f9 else []
    | false => if a = 8 then List.replicate T.n (vz 0) else if a = 3 then [longF] else if a = 9 then chkR T else []) := hr
  by_cases e : a = 7
  · rw [if_pos e] at hr; exact sofar_ok T k row hr x hx
  rw [if_neg e] at hr
  by_cases e : a = 1
  · rw [if_pos e] at hr; exact h1 row hr x hx
  rw [if_neg e] at hr
  cases hb : Nat.ble 1000 a with
  | true =>
    rw [hb] at hr
    simp only at hr
    split at hr
    · exact fs_ok (row_sh T k) row hr x hx
    · split at hr
      · exact pathR_ok (kg_le T k) k row hr x hx
      · split at hr
        · exact sofar_ok T (k + 1) row hr x hx
        · split at hr
          · exact h9 row hr x hx
          · cases hr
  | false =>
    rw [hb] at hr
    simp only at hr
    split at hr
    · exact rep_ok _ row hr x hx
    · split at hr
      · exact flsOf_ok true [] row (by simpa [flsOf, leadF] using hr) x hx
      · split at hr
        · exact chkR_ok T row hr x hx
        · cases hr
/-- from one meaning to another -/
theorem vlTP_chg {k' c3' : Nat} {tx' : List UInt8} {f1' f9' : List (List AV)} {is : List (Nat × Lin)} {ss : List (Nat × List SP)} {rs ks : List (Nat × Nat)} {fr : List (Nat × List (List AV))}
    (h100 : lk2 is 100 = none → k' = k) (h103 : lk2 is 103 = none → c3' = c3) (h110 : lk2 is 110 = none → tx'.length = tx.length) (h5 : lk2 ss 5 = none → tx' = tx) (h1 : lk2 rs 1 = none → f1' = f1) (h7 : lk2 rs 7 = none → T.sofar k' = T.sofar k)
    (hi : ∀ p, p ∈ is → (vlTP T N k' c3' tx' f1' f9').i p.1 = @Lin.val (vlTP T N k c3 tx f1 f9) p.2) (hs : ∀ p, p ∈ ss → (vlTP T N k' c3' tx' f1' f9').s p.1 = p.2.flatMap (@SP.val (vlTP T N k c3 tx f1 f9)))
    (hr : ∀ p, p ∈ rs → (vlTP T N k' c3' tx' f1' f9').r p.1 = (vlTP T N k c3 tx f1 f9).r p.2)
    (hf : ∀ p, p ∈ fr → (vlTP T N k' c3' tx' f1' f9').r p.1 = p.2.map (fun r => r.map (@denA (vlTP T N k c3 tx f1 f9) 20)) ∧ ∀ row, row ∈ (vlTP T N k' c3' tx' f1' f9').r p.1 → ∀ x, x ∈ row → Pure x) :
    SubOK (vlTP T N k c3 tx f1 f9) (vlTP T N k' c3' tx' f1' f9') { i := is, s := ss, r := rs, k := ks, f := fr } := by
  refine subOK_of (fun a ha hn => ?_) hi (fun a ha hn => ?_) hs rfl (fun a ha hn => ?_) hr (fun a ha => by cases ha) hf rfl
  · have hb : Nat.ble 1000 a = false := by
      cases e : Nat.ble 1000 a with
      | false => rfl
      | true => have := Nat.le_of_ble_eq_true e; omega
    show (if a = 100 then (k' : Int) else if a = 103 then (c3' : Int) else if a = 110 then (tx'.length : Int) else match Nat.ble 1000 a with
      | true => giT T k' a
      | false => ciT T N a) = (if a = 100 then (k : Int) else if a = 103 then (c3 : Int) else if a = 110 then (tx.length : Int) else match Nat.ble 1000 a with
      | true => giT T k a
      | false => ciT T N a)
    rw [hb]
    by_cases e : a = 100
    · subst e; rw [if_pos rfl, if_pos rfl, h100 hn]
    rw [if_neg e, if_neg e]
    by_cases e : a = 103
    · subst e; rw [if_pos rfl, if_pos rfl, h103 hn]
    rw [if_neg e, if_neg e]
    by_cases e : a = 110
    · subst e; rw [if_pos rfl, if_pos rfl, h110 hn]
    rw [if_neg e, if_neg e]
  · have hb : Nat.ble 1000 a = false := by
      cases e : Nat.ble 1000 a with
      | false => rfl
      | true => have := Nat.le_of_ble_eq_true e; omega
    show (if a = 5 then tx' else match Nat.ble 1000 a with
      | true => if a = 1004 then keyL9 (T.kg k') else if a = 1005 then lineK (T.kg k') (numB k') else []
      | false => if a = 0 then dgs T.mo else []) = (if a = 5 then tx else match Nat.ble 1000 a with
      | true => if a = 1004 then keyL9 (T.kg k) else if a = 1005 then lineK (T.kg k) (numB k) else []
      | false => if a = 0 then dgs T.mo else [])
    rw [hb]
    by_cases e : a = 5
    · subst e; rw [if_pos rfl, if_pos rfl, h5 hn]
    rw [if_neg e, if_neg e]
  · have hb : Nat.ble 1000 a = false := by
      cases e : Nat.ble 1000 a with
      | false => rfl
      | true => have := Nat.le_of_ble_eq_true e; omega
    show (if a = 7 then T.sofar k' else if a = 1 then f1' else match Nat.ble 1000 a with
      | true => if a = 1000 then (T.row k').fs else if a = 1002 then pathR (T.kg k') k' else if a = 1008 then T.sofar (k' + 1) else if a = 1009 then f9' else []
      | false => if a = 8 then List.replicate T.n (vz 0) else if a = 3 then [longF] else if a = 9 then chkR T else []) = (if a = 7 then T.sofar k else if a = 1 then f1 else match Nat.ble 1000 a with
      | true => if a = 1000 then (T.row k).fs else if a = 1002 then pathR (T.kg k) k else if a = 1008 then T.sofar (k + 1) else if a = 1009 then f9 else []
      | false => if a = 8 then List.replicate T.n (vz 0) else if a = 3 then [longF] else if a = 9 then chkR T else [])
    rw [hb]
    by_cases e : a = 7
    · subst e; rw [if_pos rfl, if_pos rfl, h7 hn]
    rw [if_neg e, if_neg e]
    by_cases e : a = 1
    · subst e; rw [if_pos rfl, if_pos rfl, h1 hn]
    rw [if_neg e, if_neg e]
end
end Go.Abs
end
section
open Go.Proofs
set_option maxRecDepth 100000
namespace Go.Abs
/-! ### a list as any value -/
def cfLs : Cfg := cfg0
theorem kLs : okTop (topF cfLs [] Tryz.prog 100 8 [.sym (.ro 13 7)]) lsP = true := by kernel_rfl
abbrev vlLs (L : List (List AV)) : VL := ⟨fun _ => 0, fun _ => [], fun _ => false, fun a => if a = 7 then L else [], fun _ => .emp, fun _ _ _ => False⟩
theorem ro_pure {e : Nat} {L : List (List AV)} (h : FOK L) : Pure (.ro e L) := .ro fun r hr x hx => (h r hr x hx).2
theorem vList_pure {e : Nat} {L : List (List AV)} (h : FOK L) : Pure (.agg (vList (.ro e L))) := by
  refine .agg fun x hx => ?_
  simp only [vList, List.mem_cons, List.not_mem_nil, or_false] at hx
  rcases hx with rfl | rfl | rfl | rfl | rfl | rfl | rfl | rfl | rfl | rfl | rfl | rfl | rfl
  all_goals first
    | exact ro_pure h
    | exact .lit
theorem any_cs {L : List (List AV)} (h : FOK L) : CS Tryz.prog 8 [.ro 13 L] (.agg (vList (.ro 13 L))) := by
  have ok : @Cfg.OK (vlLs L) cfLs := cfgOK_of (fun p hp => by cases hp) (fun f hf => by cases hf) (fun a row hr => by
    have hr : row ∈ (if a = 7 then L else []) := hr
    split at hr
    · exact h row hr
    · cases hr) rfl (fun p hp => by cases hp) (fun p hp => by cases hp) (fun p hp => by cases hp)
  exact @cs_of (vlLs L) cfLs [] ok (@tellOf (vlLs L) cfLs ok rfl rfl fun f xs r h => by cases h) (by simp) 100 8 _ _ kLs _ _ rfl rfl (one_pure (ro_pure h)) (vList_pure h)
/-! ### the text is short -/
theorem lineK_len {q i : Nat} (h : 1 ≤ q ∧ q ≤ 7) (hi : i ≤ 1199) : (lineK q (numB i)).length ≤ 30 := by
  have hn := (numOK hi).l
  unfold lineK
  rw [List.length_append, List.length_append, List.length_map]
  have : (failT q).length ≤ 20 := by rcases k7_cases h with rfl | rfl | rfl | rfl | rfl | rfl | rfl <;> decide
  simp only [List.length_cons, List.length_nil]
  omega
theorem lines_len : ∀ {ps : List (Nat × Nat)}, (∀ p, p ∈ ps → (1 ≤ p.1 ∧ p.1 ≤ 7) ∧ p.2 ≤ 1199) → (ps.flatMap fun p => lineK p.1 (numB p.2)).length ≤ 30 * ps.length
  | [], _ => by simp
  | p :: r, h => by
    have h1 := lines_len fun q hq => h q (List.mem_cons_of_mem _ hq)
    have h2 := lineK_len (h p List.mem_cons_self).1 (h p List.mem_cons_self).2
    rw [List.flatMap_cons, List.length_append, List.length_cons]
    omega
section
variable {T : InT} {N : Int}
theorem prs_in (h : OkT T) {k : Nat} (hk : k ≤ T.n) : ∀ p, p ∈ T.prs k → (1 ≤ p.1 ∧ p.1 ≤ 7) ∧ p.2 ≤ 1199 := fun p hp => by
  have := prs_mem hp
  have := h.n
  exact ⟨(prs_mem hp).1, by omega⟩
theorem txt_len (h : OkT T) {k : Nat} (hk : k ≤ T.n) : (txtL T.l (T.prs k)).length ≤ 100 := by
  have h1 := lines_len (prs_in h hk)
  have h2 := prs_le2 T k
  have h7 : longT.length = 7 := rfl
  unfold txtL
  rw [List.length_append]
  cases T.l
  · simp only [List.length_nil]; omega
  · simp only; omega
theorem fls_len3 (T : InT) (k : Nat) : (flsOf T.l (T.prs k)).length ≤ 3 := by
  have h2 := prs_le2 T k
  unfold flsOf
  rw [List.length_append, List.length_map]
  have : (leadF T.l).length ≤ 1 := by cases T.l <;> decide
  omega
/-- how many rows: from any number -/
structure OkNn (T : InT) (N : Int) (neg : Bool) : Prop where
  t : OkT T
  r : match neg with
    | true => -9223372036854775808 ≤ N ∧ N ≤ -1
    | false => 0 ≤ N ∧ N ≤ 9223372036854775807
  n : ∃ u : Nat, (u : Int) = (match neg with | true => N + 18446744073709551616 | false => N) ∧ T.n = u % 1200 + 1
def GoodT (T : InT) (good : Bool) : Prop := match good with
  | true => T.l = false ∧ T.prs T.n = []
  | false => T.l = true ∨ T.prs T.n ≠ []
noncomputable abbrev vlTF (T : InT) (N : Int) : VL := vlTP T N T.n (flsOf T.l (T.prs T.n)).length (txtL T.l (T.prs T.n)) (flsOf T.l (T.prs T.n)) []
theorem binOp_remU (t : TypeId) (a b : Nat) (h : 0 < b) : (binOp .rem t (.int .u64 (a : Int)) (.int .u64 (b : Int)) : Sem Value) = pure (.int .u64 ((a % b : Nat) : Int)) := by
  have hb : ¬ b = 0 := by omega
  simp [binOp, Op.intDiv, Int.tmod_eq_emod_of_nonneg, hb]
section
variable {k c3 : Nat} {tx : List UInt8} {f1 f9 : List (List AV)}
theorem tp_i (a m : Nat) : @denA (vlTP T N k c3 tx f1 f9) (m + 1) (ni a) = lI (@VL.i (vlTP T N k c3 tx f1 f9) a) := @ni_den (vlTP T N k c3 tx f1 f9) m a
theorem tp_s (a m : Nat) : @denA (vlTP T N k c3 tx f1 f9) (m + 1) (so a) = lb (@VL.s (vlTP T N k c3 tx f1 f9) a) := @so_den (vlTP T N k c3 tx f1 f9) m a
theorem tp_sc : @denA (vlTP T N k c3 tx f1 f9) 20 scN = scK (dgs T.mo) (exq T.mo) T.most := by
  show @denA (vlTP T N k c3 tx f1 f9) 20 (scV (so 0) (ni 2) (ni 1)) = _
  rw [@scV_den (vlTP T N k c3 tx f1 f9), tp_s 0 15, tp_i 2 15, tp_i 1 18]; rfl
theorem tp_bdP (h : OkT T) {p : Nat × Int × Int} (hp : p ∈ bdP) : p.2.1 ≤ (vlTP T N k c3 tx f1 f9).i p.1 ∧ (vlTP T N k c3 tx f1 f9).i p.1 ≤ p.2.2 := by
  have hn := h.n
  have hm := mostT_le h
  have he := exq_le h.m6
  obtain ⟨h1, h2, h3, h4, h5, h6, h7, h8⟩ := h
  simp only [bdP, List.mem_cons, List.not_mem_nil, or_false] at hp
  rcases hp with rfl | rfl | rfl | rfl | rfl | rfl | rfl | rfl | rfl | rfl
  · show (1 : Int) ≤ (T.n : Int) ∧ (T.n : Int) ≤ 1200; omega
  · show (0 : Int) ≤ (T.most : Int) ∧ (T.most : Int) ≤ 1200; omega
  · exact he
  · show (0 : Int) ≤ (T.mu : Int) ∧ (T.mu : Int) ≤ 65535; omega
  · show (0 : Int) ≤ (T.ad : Int) ∧ (T.ad : Int) ≤ 65535; omega
  · show (0 : Int) ≤ (T.mo : Int) ∧ (T.mo : Int) ≤ 65535; omega
  · show (0 : Int) ≤ (T.x : Int) ∧ (T.x : Int) ≤ 65535; omega
  · show (0 : Int) ≤ (T.y : Int) ∧ (T.y : Int) ≤ 65535; omega
  · show (0 : Int) ≤ (T.p : Int) ∧ (T.p : Int) ≤ 255; omega
  · show (0 : Int) ≤ (T.q : Int) ∧ (T.q : Int) ≤ 255; omega
end
theorem cfTp_ok {neg good : Bool} (h : OkNn T N neg) (hg : GoodT T good) {bd : List (Nat × Int × Int)} {fs : List Lin}
    (hbd : ∀ p, p ∈ bd → p ∈ nP neg :: (100, (0 : Int), (1200 : Int)) :: (103, (match good with | true => 0 | false => 1), 3) :: (110, 0, 1000) :: bdP)
    (hfs : ∀ f, f ∈ fs → f ∈ [([(4, (1 : Int)), (100, -1)], (0 : Int)), ([(4, -1), (100, 1)], 0)]) : @Cfg.OK (vlTF T N) { cfTp neg T.l good with bd := bd, fs := fs } := by
  have ht := h.t
  have hn := ht.n
  have hlen := txt_len ht (Nat.le_refl T.n)
  have hfl := fls_len3 T T.n
  refine cfgOK_of (fun p hp => ?_) (fun f hf => ?_) (vlTP_rd (flsOf_ok _ _) FOK.nil) rfl (fun p hp => ?_) (fun p hp => ?_) (fun p hp => by cases hp) (rm := fun a n xs hp => ?_) (nl := fun o k x y z hz t => ?_)
  · have hp := hbd p hp
    rcases List.mem_cons.1 hp with rfl | hp
    · have := h.r
      cases neg
      · exact this
      · exact this
    rcases List.mem_cons.1 hp with rfl | hp
    · show (0 : Int) ≤ (T.n : Int) ∧ (T.n : Int) ≤ 1200; omega
    rcases List.mem_cons.1 hp with rfl | hp
    · show _ ≤ (((flsOf T.l (T.prs T.n)).length : Nat) : Int) ∧ (((flsOf T.l (T.prs T.n)).length : Nat) : Int) ≤ 3
      cases good with
      | true => simp only; omega
      | false =>
        have : 1 ≤ (flsOf T.l (T.prs T.n)).length := by
          unfold flsOf
          rw [List.length_append, List.length_map]
          rcases hg with e | e
          · rw [e]; simp [leadF]
          · have := List.length_pos_iff.2 e; omega
        simp only; omega
    rcases List.mem_cons.1 hp with rfl | hp
    · show (0 : Int) ≤ ((txtL T.l (T.prs T.n)).length : Int) ∧ ((txtL T.l (T.prs T.n)).length : Int) ≤ 1000; omega
    exact tp_bdP ht hp
  · have hf := hfs f hf
    simp only [List.mem_cons, List.not_mem_nil, or_false] at hf
    rcases hf with rfl | rfl
    · show (0 : Int) ≤ 1 * (T.n : Int) + (-1 * (T.n : Int) + 0) + 0; omega
    · show (0 : Int) ≤ -1 * (T.n : Int) + (1 * (T.n : Int) + 0) + 0; omega
  · simp only [cfTp, List.mem_cons, List.not_mem_nil, or_false] at hp
    subst hp
    show ((txtL T.l (T.prs T.n)).length : Int) = 1 * ((txtL T.l (T.prs T.n)).length : Int) + 0 + 0; omega
  · simp only [cfTp, List.mem_cons, List.not_mem_nil, or_false] at hp
    rcases hp with rfl | rfl | rfl | rfl | rfl
    · show (((T.sofar T.n).length : Nat) : Int) = 1 * (T.n : Int) + 0 + 0
      rw [sofar_len (Nat.le_refl _)]; omega
    · show (((List.replicate T.n (vz 0)).length : Nat) : Int) = 1 * (T.n : Int) + 0 + 0
      rw [List.length_replicate]; omega
    · rfl
    · rfl
    · show (((flsOf T.l (T.prs T.n)).length : Nat) : Int) = 1 * (((flsOf T.l (T.prs T.n)).length : Nat) : Int) + 0 + 0; omega
  · simp only [cfTp, List.mem_cons, List.not_mem_nil, or_false, Prod.mk.injEq] at hp
    obtain ⟨rfl, rfl, rfl⟩ := hp
    exact ⟨T.n, by show 1 * (T.n : Int) + 0 + 0 = _; omega, rfl⟩
  · obtain ⟨u, hu, hun⟩ := h.n
    have hz : (o, k, x, y, z) ∈ nlP neg := hz
    have e2 : @Lin.val (vlTF T N) ([], 1200) = ((1200 : Nat) : Int) := rfl
    have e3 : @Lin.val (vlTF T N) ([(4, 1)], -1) = ((u % 1200 : Nat) : Int) := by
      show 1 * (T.n : Int) + 0 + -1 = _
      omega
    cases neg with
    | true =>
      simp only [nlP, List.mem_cons, List.not_mem_nil, or_false, Prod.mk.injEq] at hz
      obtain ⟨rfl, rfl, rfl, rfl, rfl⟩ := hz
      have e1 : @Lin.val (vlTF T N) ([(13, 1)], 18446744073709551616) = (u : Int) := by
        show 1 * N + 0 + 18446744073709551616 = _
        simp only at hu
        omega
      rw [e1, e2, e3]
      exact binOp_remU t u 1200 (by omega)
    | false =>
      simp only [nlP, List.mem_cons, List.not_mem_nil, or_false, Prod.mk.injEq] at hz
      obtain ⟨rfl, rfl, rfl, rfl, rfl⟩ := hz
      have e1 : @Lin.val (vlTF T N) (at1 13) = (u : Int) := by
        show 1 * N + 0 + 0 = _
        simp only at hu
        omega
      rw [e1, e2, e3]
      exact binOp_remU t u 1200 (by omega)
theorem tf_ls : @denA (vlTF T N) 20 lsP = vvK (T.rows.map RowD.fs) := by
  show AV.agg (vList (.ro 13 (T.sofar T.n))) = AV.agg (vList (.ro 13 ((T.rows.map RowD.fs).map rowV)))
  rw [sofar_all, List.map_map]; rfl
theorem tf_chk : @denA (vlTF T N) 20 chkP = chkK (dgs T.mo) (exq T.mo) T.most := rfl
theorem tf_told {good : Bool} (hg : GoodT T good) : @denA (vlTF T N) 20 (toldP good) = match good with | true => nilS | false => .ro 3 (flsOf T.l (T.prs T.n)) := by
  cases good <;> rfl
theorem mostP_den (h : OkT T) : @denA (vlTF T N) 20 (mostP T.l) = lI T.most := by
  have := h.n
  unfold mostP InT.most
  cases T.l with
  | true =>
    show AV.lit (.int .i64 (1 * (T.n : Int) + 0 + -1)) = lI ((T.n - 1 : Nat) : Int)
    rw [show 1 * (T.n : Int) + 0 + -1 = ((T.n - 1 : Nat) : Int) by omega]; rfl
  | false => exact tp_i 4 19
theorem vvT_pure (h : OkT T) : Pure (vvK (T.rows.map RowD.fs)) := vvK_pure (hFT h)
theorem cfTp_ct {neg good : Bool} (h : OkNn T N neg) (hg : GoodT T good) {f : Nat} {xs : List AV} {r : AV} (hp : (f, xs, r) ∈ (cfTp neg T.l good).ct) :
    ∃ (ys : List AV) (y : AV), CS Tryz.prog f ys y ∧ xs.map (@denA (vlTF T N) 20) = ys ∧ (∀ x ∈ ys, Pure x) ∧ @denA (vlTF T N) 20 r = y ∧ Pure y := by
  have ht := h.t
  have psc := scK_pure (dgs T.mo) (exq T.mo) T.most
  have pvv := vvT_pure ht
  have pck := chkK_pure (dgs T.mo) (exq T.mo) T.most
  have pfl := flsOf_pure T.l (T.prs T.n)
  have dsc : @denA (vlTF T N) 20 scN = _ := tp_sc
  have dls := @tf_ls T N
  have dck := @tf_chk T N
  simp only [cfTp, List.mem_cons, List.not_mem_nil, or_false, Prod.mk.injEq] at hp
  rcases hp with ⟨rfl, rfl, rfl⟩ | ⟨rfl, rfl, rfl⟩ | ⟨rfl, rfl, rfl⟩ | ⟨rfl, rfl, rfl⟩ | ⟨rfl, rfl, rfl⟩ | ⟨rfl, rfl, rfl⟩ | ⟨rfl, rfl, rfl⟩ | ⟨rfl, rfl, rfl⟩ | ⟨rfl, rfl, rfl⟩ | ⟨rfl, rfl, rfl⟩
  · refine ⟨_, _, ruledT ht, ?_, two_pure .lit .lit, dsc, psc⟩
    show [@denA (vlTF T N) 20 (ni 8), @denA (vlTF T N) 20 (mostP T.l)] = _
    rw [mostP_den ht, tp_i 8 19]; rfl
  · refine ⟨_, _, any_cs (sofar_ok T T.n), rfl, one_pure (ro_pure (sofar_ok T T.n)), rfl, vList_pure (sofar_ok T T.n)⟩
  · cases good with
    | true =>
      refine ⟨_, _, explT_good ht hg.1 hg.2, ?_, two_pure psc pvv, rfl, pureB_ok (n := 20) rfl⟩
      show [@denA (vlTF T N) 20 scN, @denA (vlTF T N) 20 lsP] = _
      rw [dsc, dls]
    | false =>
      refine ⟨_, _, explT_bad ht hg, ?_, two_pure psc pvv, rfl, ?_⟩
      · show [@denA (vlTF T N) 20 scN, @denA (vlTF T N) 20 lsP] = _
        rw [dsc, dls]
      · refine .tup fun x hx => ?_
        simp only [List.mem_cons, List.not_mem_nil, or_false] at hx
        rcases hx with rfl | rfl
        · exact pfl
        · exact .lit
  · cases good with
    | true => exact ⟨_, _, failed_nil, rfl, two_pure .lit .lit, rfl, .lit⟩
    | false => exact ⟨_, _, failT_cs ht hg, rfl, two_pure pfl pfl, rfl, .lit⟩
  · cases good with
    | true => exact ⟨_, _, text_nil, rfl, one_pure .lit, rfl, .lit⟩
    | false => exact ⟨_, _, textT_cs ht hg, rfl, one_pure pfl, tp_s 5 19, .lit⟩
  · cases good with
    | true =>
      refine ⟨_, _, valid_good ht hg.1 hg.2, ?_, two_pure psc pvv, rfl, pureB_ok (n := 20) rfl⟩
      show [@denA (vlTF T N) 20 scN, @denA (vlTF T N) 20 lsP] = _
      rw [dsc, dls]
    | false =>
      refine ⟨_, _, valid_bad ht hg, ?_, two_pure psc pvv, rfl, pureB_ok (n := 20) rfl⟩
      show [@denA (vlTF T N) 20 scN, @denA (vlTF T N) 20 lsP] = _
      rw [dsc, dls]
  · refine ⟨_, _, compT ht, ?_, one_pure psc, ?_, ?_⟩
    · show [@denA (vlTF T N) 20 scN] = _
      rw [dsc]
    · rfl
    · refine .tup fun x hx => ?_
      simp only [List.mem_cons, List.not_mem_nil, or_false] at hx
      rcases hx with rfl | rfl
      · exact pck
      · exact .lit
  · cases good with
    | true =>
      refine ⟨_, _, runT_good ht hg.1 hg.2, ?_, two_pure pck pvv, rfl, .lit⟩
      show [@denA (vlTF T N) 20 chkP, @denA (vlTF T N) 20 lsP] = _
      rw [dck, dls]
    | false =>
      refine ⟨_, _, runT_bad ht hg, ?_, two_pure pck pvv, rfl, .lit⟩
      show [@denA (vlTF T N) 20 chkP, @denA (vlTF T N) 20 lsP] = _
      rw [dck, dls]
  · cases good with
    | true =>
      refine ⟨_, _, watT_good ht hg.1 hg.2, ?_, three_pure pck pvv .lit, rfl, .lit⟩
      show [@denA (vlTF T N) 20 chkP, @denA (vlTF T N) 20 lsP, @denA (vlTF T N) 20 (lB true)] = _
      rw [dck, dls]; rfl
    | false =>
      refine ⟨_, _, watT_bad ht hg, ?_, three_pure pck pvv .lit, rfl, .lit⟩
      show [@denA (vlTF T N) 20 chkP, @denA (vlTF T N) 20 lsP, @denA (vlTF T N) 20 (lB false)] = _
      rw [dck, dls]; rfl
  · exact ⟨_, _, decides_cs, rfl, fun x hx => (by cases hx), rfl, .lit⟩
theorem cfTp_tell {neg good : Bool} (h : OkNn T N neg) (hg : GoodT T good) {bd : List (Nat × Int × Int)} {fs : List Lin}
    (hbd : ∀ p, p ∈ bd → p ∈ nP neg :: (100, (0 : Int), (1200 : Int)) :: (103, (match good with | true => 0 | false => 1), 3) :: (110, 0, 1000) :: bdP)
    (hfs : ∀ f, f ∈ fs → f ∈ [([(4, (1 : Int)), (100, -1)], (0 : Int)), ([(4, -1), (100, 1)], 0)]) : @Tell (vlTF T N) { cfTp neg T.l good with bd := bd, fs := fs } Tryz.prog := by
  refine @tellOf (vlTF T N) _ (cfTp_ok h hg hbd hfs) rfl rfl fun f xs r hp => ?_
  have hp2 : (f, xs, r) ∈ (cfTp neg T.l good).ct := hp
  obtain ⟨ys, y, c, ha, hpx, hr, hpy⟩ := cfTp_ct h hg hp2
  simp only [cfTp, List.mem_cons, List.not_mem_nil, or_false, Prod.mk.injEq] at hp2
  rcases hp2 with ⟨rfl, -, -⟩ | ⟨rfl, -, -⟩ | ⟨rfl, -, -⟩ | ⟨rfl, -, -⟩ | ⟨rfl, -, -⟩ | ⟨rfl, -, -⟩ | ⟨rfl, -, -⟩ | ⟨rfl, -, -⟩ | ⟨rfl, -, -⟩ | ⟨rfl, -, -⟩
  · exact @CS.call (vlTF T N) _ _ _ _ _ _ _ c Tryz.func7 (names1 _ _ Tryz.func7) rfl ha hpx hr hpy
  · exact @CS.call (vlTF T N) _ _ _ _ _ _ _ c Tryz.func8 (names1 _ _ Tryz.func8) rfl ha hpx hr hpy
  · exact @CS.call (vlTF T N) _ _ _ _ _ _ _ c Tryz.func9 (names1 _ _ Tryz.func9) rfl ha hpx hr hpy
  · exact @CS.call (vlTF T N) _ _ _ _ _ _ _ c Tryz.func10 (names1 _ _ Tryz.func10) rfl ha hpx hr hpy
  · exact @CS.call (vlTF T N) _ _ _ _ _ _ _ c Tryz.func11 (names1 _ _ Tryz.func11) rfl ha hpx hr hpy
  · exact @CS.call (vlTF T N) _ _ _ _ _ _ _ c Tryz.func12 (names1 _ _ Tryz.func12) rfl ha hpx hr hpy
  · exact @CS.call (vlTF T N) _ _ _ _ _ _ _ c Tryz.func13 (names1 _ _ Tryz.func13) rfl ha hpx hr hpy
  · exact @CS.call (vlTF T N) _ _ _ _ _ _ _ c Tryz.func14 (names1 _ _ Tryz.func14) rfl ha hpx hr hpy
  · exact @CS.call (vlTF T N) _ _ _ _ _ _ _ c Tryz.func15 (names1 _ _ Tryz.func15) rfl ha hpx hr hpy
  · exact @CS.call (vlTF T N) _ _ _ _ _ _ _ c Tryz.func16 (names1 _ _ Tryz.func16) rfl ha hpx hr hpy
end
end Go.Abs
end
section
open Go.Proofs
set_option maxRecDepth 100000
namespace Go.Abs
section
variable {T : InT} {N : Int}
section
variable {k c3 : Nat} {tx : List UInt8} {f1 f9 : List (List AV)}
theorem tp_rule : @denA (vlTP T N k c3 tx f1 f9) 20 ruleP = ruleK T.mu T.ad T.mo := by
  show AV.agg [.lit (.int .u16 (1 * (T.mu : Int) + 0 + 0)), .lit (.int .u16 (1 * (T.ad : Int) + 0 + 0)), .lit (.int .u16 (1 * (T.mo : Int) + 0 + 0))] = AV.agg [.lit (.int .u16 T.mu), .lit (.int .u16 T.ad), .lit (.int .u16 T.mo)]
  rw [show 1 * (T.mu : Int) + 0 + 0 = T.mu by omega, show 1 * (T.ad : Int) + 0 + 0 = T.ad by omega, show 1 * (T.mo : Int) + 0 + 0 = T.mo by omega]
theorem tp_flaws (l : Bool) : @denA (vlTP T N k c3 tx f1 f9) 20 (flawsP l) = flawsK T.x T.y T.p T.q l := by
  show AV.agg [.lit (.int .u16 (1 * (T.x : Int) + 0 + 0)), .lit (.int .u16 (1 * (T.y : Int) + 0 + 0)), .lit (.int .u8 (1 * (T.p : Int) + 0 + 0)), .lit (.int .u8 (1 * (T.q : Int) + 0 + 0)), lB l] = AV.agg [.lit (.int .u16 T.x), .lit (.int .u16 T.y), .lit (.int .u8 T.p), .lit (.int .u8 T.q), lB l]
  rw [show 1 * (T.x : Int) + 0 + 0 = T.x by omega, show 1 * (T.y : Int) + 0 + 0 = T.y by omega, show 1 * (T.p : Int) + 0 + 0 = T.p by omega, show 1 * (T.q : Int) + 0 + 0 = T.q by omega]
/-- is row k wrong -/
def BadT (T : InT) (k : Nat) (bad : Bool) : Prop := match bad with
  | true => T.kd k ≠ 0
  | false => T.kd k = 0
theorem tp_failPo : failPo.map (@denA (vlTP T N k c3 tx f1 f9) 20) = failP (T.kg k) (lI k) := by
  rw [pathR_eq (kg_le T k)]
  show [AV.ro 3 (pathR (T.kg k) k), @denA (vlTP T N k c3 tx f1 f9) 20 (ni 1003), @denA (vlTP T N k c3 tx f1 f9) 20 (so 1004)] = _
  rw [tp_i 1003 19, tp_s 1004 19]; rfl
theorem failP_pure (q : Nat) (i : Int) : Pure (.agg (failP q (lI i))) := .agg fun x hx => (failP_ok q i x hx).2
theorem cfTr_ok {bad : Bool} {ph : Nat} (hph : ph = 0 ∨ ph = 1) (h : OkT T) (hk : k < T.n) (hb : BadT T k bad) (hc : f1.length = c3) (hc3 : c3 ≤ 3) (htx : tx.length ≤ 100) (h1 : FOK f1) (h9 : f9 = (if ph = 0 then [] else f1) ++ [failP (T.kg k) (lI k)]) :
    @Cfg.OK (vlTP T N k c3 tx f1 f9) (cfTr T.l bad ph) := by
  have hn := h.n
  have hkg := kg_le T k
  have hop : 0 ≤ opK (T.kg k) ∧ opK (T.kg k) ≤ 20 := by rcases k7_cases hkg with e | e | e | e | e | e | e <;> rw [e] <;> decide
  have hke : (keyL9 (T.kg k)).length ≤ 2 := by rcases k7_cases hkg with e | e | e | e | e | e | e <;> rw [e] <;> decide
  have hln := lineK_len hkg (i := k) (by omega)
  have hf9 : FOK f9 := by
    rw [h9]
    refine FOK.app ?_ (FOK.one (failP_ok _ _))
    split
    · exact FOK.nil
    · exact h1
  refine cfgOK_of (fun p hp => ?_) (fun f hf => ?_) (vlTP_rd h1 hf9) rfl (fun p hp => ?_) (fun p hp => ?_) (fun p hp => by cases hp) (ra := fun a' a l xs hp => ?_) (rp := fun a' a rows hp => ?_)
  · rcases List.mem_cons.1 hp with rfl | hp
    · show (0 : Int) ≤ (k : Int) ∧ (k : Int) ≤ 1199; omega
    rcases List.mem_cons.1 hp with rfl | hp
    · show (0 : Int) ≤ (c3 : Int) ∧ (c3 : Int) ≤ 3; omega
    rcases List.mem_cons.1 hp with rfl | hp
    · show (0 : Int) ≤ (tx.length : Int) ∧ (tx.length : Int) ≤ 1000; omega
    rcases List.mem_cons.1 hp with rfl | hp
    · show (1 : Int) ≤ (T.kg k : Int) ∧ (T.kg k : Int) ≤ 7; omega
    rcases List.mem_cons.1 hp with rfl | hp
    · show (0 : Int) ≤ ((lineK (T.kg k) (numB k)).length : Int) ∧ ((lineK (T.kg k) (numB k)).length : Int) ≤ 100; omega
    rcases List.mem_cons.1 hp with rfl | hp
    · exact hop
    rcases List.mem_cons.1 hp with rfl | hp
    · show (0 : Int) ≤ ((keyL9 (T.kg k)).length : Int) ∧ ((keyL9 (T.kg k)).length : Int) ≤ 2; omega
    exact tp_bdP h hp
  · simp only [cfTr, List.mem_cons, List.not_mem_nil, or_false] at hf
    subst hf
    show (0 : Int) ≤ 1 * (T.n : Int) + (-1 * (k : Int) + 0) + -1; omega
  · simp only [cfTr, List.mem_cons, List.not_mem_nil, or_false] at hp
    rcases hp with rfl | rfl | rfl
    · show (tx.length : Int) = 1 * (tx.length : Int) + 0 + 0; omega
    · show ((lineK (T.kg k) (numB k)).length : Int) = 1 * ((lineK (T.kg k) (numB k)).length : Int) + 0 + 0; omega
    · show ((keyL9 (T.kg k)).length : Int) = 1 * ((keyL9 (T.kg k)).length : Int) + 0 + 0; omega
  · have h3 : p ∈ [(7, at1 4), (1, at1 103), (2, (([], 0) : Lin))] → (((vlTP T N k c3 tx f1 f9).r p.1).length : Int) = @Lin.val (vlTP T N k c3 tx f1 f9) p.2 := by
      intro hp
      simp only [List.mem_cons, List.not_mem_nil, or_false] at hp
      rcases hp with rfl | rfl | rfl
      · show (((T.sofar k).length : Nat) : Int) = 1 * (T.n : Int) + 0 + 0
        rw [sofar_len (Nat.le_of_lt hk)]; omega
      · show ((f1.length : Nat) : Int) = 1 * (c3 : Int) + 0 + 0; omega
      · rfl
    rcases hph with rfl | rfl
    · rcases List.mem_append.1 (show p ∈ [(7, at1 4), (1, at1 103), (2, (([], 0) : Lin))] ++ [(1009, ([], 1))] from hp) with hp | hp
      · exact h3 hp
      · simp only [List.mem_cons, List.not_mem_nil, or_false] at hp
        subst hp
        show ((f9.length : Nat) : Int) = 0 + 1
        rw [h9, if_pos rfl]; rfl
    · rcases List.mem_append.1 (show p ∈ [(7, at1 4), (1, at1 103), (2, (([], 0) : Lin))] ++ [(1009, ([(103, 1)], 1))] from hp) with hp | hp
      · exact h3 hp
      · simp only [List.mem_cons, List.not_mem_nil, or_false] at hp
        subst hp
        show ((f9.length : Nat) : Int) = 1 * (c3 : Int) + 0 + 1
        rw [h9, if_neg (by omega), List.length_append, hc]; simp
  · simp only [cfTr, List.mem_cons, List.not_mem_nil, or_false, Prod.mk.injEq] at hp
    obtain ⟨rfl, rfl, rfl, rfl⟩ := hp
    refine ⟨k, vz 0, by show 1 * (k : Int) + 0 + 0 = _; omega, sofar_at hk, rfl, ?_⟩
    show T.sofar (k + 1) = (T.sofar k).set k (rowV (T.row k).fs)
    exact sofar_set hk
  · cases bad with
    | false => exact absurd (show (a', a, rows) ∈ [] from hp) (by simp)
    | true =>
      rcases hph with rfl | rfl
      · have hp := show (a', a, rows) ∈ [(1009, 2, [failPo])] from hp
        simp only [List.mem_cons, List.not_mem_nil, or_false, Prod.mk.injEq] at hp
        obtain ⟨rfl, rfl, rfl⟩ := hp
        show f9 = [] ++ [failPo.map (@denA (vlTP T N k c3 tx f1 f9) 20)]
        rw [tp_failPo, h9, if_pos rfl]
      · have hp := show (a', a, rows) ∈ [(1009, 1, [failPo])] from hp
        simp only [List.mem_cons, List.not_mem_nil, or_false, Prod.mk.injEq] at hp
        obtain ⟨rfl, rfl, rfl⟩ := hp
        show f9 = f1 ++ [failPo.map (@denA (vlTP T N k c3 tx f1 f9) 20)]
        rw [tp_failPo, h9, if_neg (by omega)]
theorem kdP_den {bad : Bool} (hb : BadT T k bad) : @denA (vlTP T N k c3 tx f1 f9) 20 (kdP bad) = lI (T.kd k) := by
  cases bad with
  | true =>
    show @denA (vlTP T N k c3 tx f1 f9) 20 (ni 1001) = _
    rw [tp_i 1001 19, ← kg_eq hb]; rfl
  | false =>
    have hb : T.kd k = 0 := hb
    rw [hb]; rfl
theorem numT_cs {k : Nat} (hk : k < 1200) : CS Tryz.prog 23 [lI k] (lb (numB k)) := number_cs k hk
theorem cfTr_tell {bad : Bool} {ph : Nat} (hph : ph = 0 ∨ ph = 1) (h : OkT T) (hk : k < T.n) (hb : BadT T k bad) (hc : f1.length = c3) (hc3 : c3 ≤ 3) (htx : tx.length ≤ 100) (h1 : FOK f1) (h9 : f9 = (if ph = 0 then [] else f1) ++ [failP (T.kg k) (lI k)]) :
    @Tell (vlTP T N k c3 tx f1 f9) (cfTr T.l bad ph) Tryz.prog := by
  have hn := h.n
  have hkg := kg_le T k
  have hnum := numOK (i := k) (by omega)
  refine @tellOf (vlTP T N k c3 tx f1 f9) _ (cfTr_ok hph h hk hb hc hc3 htx h1 h9) rfl rfl fun f xs r hp => ?_
  simp only [cfTr, List.mem_cons, List.not_mem_nil, or_false, Prod.mk.injEq] at hp
  have di : @denA (vlTP T N k c3 tx f1 f9) 20 (ni 100) = lI k := tp_i 100 19
  have dn : @denA (vlTP T N k c3 tx f1 f9) 20 (ni 4) = lI T.n := tp_i 4 19
  have dk : @denA (vlTP T N k c3 tx f1 f9) 20 (ni 1001) = lI (T.kg k) := tp_i 1001 19
  rcases hp with ⟨rfl, rfl, rfl⟩ | ⟨rfl, rfl, rfl⟩ | ⟨rfl, rfl, rfl⟩
  · refine @CS.call (vlTP T N k c3 tx f1 f9) _ _ _ _ _ _ _ (kind_cs ⟨h.x, h.y, h.p, h.q, h.n, hk⟩ T.l) Tryz.func4 (names1 _ _ Tryz.func4) rfl ?_ (three_pure (pureB_ok (n := 20) rfl) .lit .lit) (kdP_den hb) .lit
    show [@denA (vlTP T N k c3 tx f1 f9) 20 (flawsP T.l), @denA (vlTP T N k c3 tx f1 f9) 20 (ni 100), @denA (vlTP T N k c3 tx f1 f9) 20 (ni 4)] = _
    rw [tp_flaws, di, dn]
  · refine @CS.call (vlTP T N k c3 tx f1 f9) _ _ _ _ _ _ _ (tagged_cs (h.rule hk) (kd_le T k)) Tryz.func5 (names1 _ _ Tryz.func5) rfl ?_ (three_pure (pureB_ok (n := 20) rfl) .lit .lit) rfl ?_
    · show [@denA (vlTP T N k c3 tx f1 f9) 20 ruleP, @denA (vlTP T N k c3 tx f1 f9) 20 (ni 100), @denA (vlTP T N k c3 tx f1 f9) 20 (kdP bad)] = _
      rw [tp_rule, di, kdP_den hb]
    · exact .agg fun x hx => (rowV_ok (fs_ok (row_sh T k)) x hx).2
  · refine @CS.call (vlTP T N k c3 tx f1 f9) _ _ _ _ _ _ _ (failure_cs (i := k) (k := T.kg k) (by omega) hkg.1 hkg.2 hnum.l (numT_cs (by omega))) Tryz.func6 (names1 _ _ Tryz.func6) rfl ?_ (two_pure .lit .lit) ?_ ?_
    · show [@denA (vlTP T N k c3 tx f1 f9) 20 (ni 100), @denA (vlTP T N k c3 tx f1 f9) 20 (ni 1001)] = _
      rw [di, dk]
    · rw [pathR_eq hkg]
      show AV.tup [.agg [.ro 3 (pathR (T.kg k) k), @denA (vlTP T N k c3 tx f1 f9) 18 (ni 1003), @denA (vlTP T N k c3 tx f1 f9) 18 (so 1004)], @denA (vlTP T N k c3 tx f1 f9) 19 (so 1005)] = _
      rw [tp_i 1003 17, tp_s 1004 17, tp_s 1005 18]; rfl
    · refine .tup fun x hx => ?_
      simp only [List.mem_cons, List.not_mem_nil, or_false] at hx
      rcases hx with rfl | rfl
      · exact failP_pure _ _
      · exact .lit
end
/-! ### the rounds -/
def cnT (T : InT) (k : Nat) : Nat := (flsOf T.l (T.prs k)).length
def f1T (T : InT) (k : Nat) : List (List AV) := if cnT T k = 0 then flsOf T.l (T.prs T.n) else flsOf T.l (T.prs k)
def txT (T : InT) (k : Nat) : List UInt8 := if cnT T k = 0 then txtL T.l (T.prs T.n) else txtL T.l (T.prs k)
def f9T (T : InT) (k : Nat) : List (List AV) := if k < T.n then (if cnT T k = 0 then [] else flsOf T.l (T.prs k)) ++ [failP (T.kg k) (lI k)] else []
noncomputable abbrev vlTk (T : InT) (N : Int) (k : Nat) : VL := vlTP T N k (f1T T k).length (txT T k) (f1T T k) (f9T T k)
theorem f1T_ok (T : InT) (k : Nat) : FOK (f1T T k) := by
  unfold f1T
  split <;> exact flsOf_ok _ _
theorem f1T_len (T : InT) (k : Nat) : (f1T T k).length ≤ 3 := by
  unfold f1T
  split <;> exact fls_len3 _ _
theorem txT_len (h : OkT T) {k : Nat} (hk : k ≤ T.n) : (txT T k).length ≤ 100 := by
  unfold txT
  split
  · exact txt_len h (Nat.le_refl _)
  · exact txt_len h hk
theorem prs_same {k : Nat} (h : T.kd k = 0) : T.prs (k + 1) = T.prs k := by
  have : isK (T.cl k).k 0 = true := by rw [(clT T k).2, h]; rfl
  rw [InT.prs, this, List.append_nil]
theorem kq_ne {kd : Nat} (h : kd ≠ 0) : isK (kq kd) 0 = false := by
  match kd, h with
  | 0, h => exact absurd rfl h
  | 1, _ => rfl
  | 2, _ => rfl
  | n + 3, _ => rfl
theorem prs_more {k : Nat} (h : T.kd k ≠ 0) : T.prs (k + 1) = T.prs k ++ [(kq (T.kd k), k)] := by
  have : isK (T.cl k).k 0 = false := by rw [(clT T k).2]; exact kq_ne h
  rw [InT.prs, this, (clT T k).2]
theorem fls_more {k : Nat} (h : T.kd k ≠ 0) : flsOf T.l (T.prs (k + 1)) = flsOf T.l (T.prs k) ++ [failP (T.kg k) (lI k)] := by
  rw [prs_more h]
  unfold flsOf
  rw [List.map_append, ← List.append_assoc, List.map_cons, List.map_nil, failP_kq (kd_le T k), kg_eq h]
theorem txt_more {k : Nat} (h : T.kd k ≠ 0) : txtL T.l (T.prs (k + 1)) = txtL T.l (T.prs k) ++ lineK (T.kg k) (numB k) := by
  rw [prs_more h]
  unfold txtL
  rw [List.flatMap_append, ← List.append_assoc, List.flatMap_cons, List.flatMap_nil, List.append_nil, lineK_kq (kd_le T k), kg_eq h]
theorem cnT_more {k : Nat} (h : T.kd k ≠ 0) : cnT T (k + 1) = cnT T k + 1 := by
  unfold cnT
  rw [fls_more h, List.length_append]; rfl
theorem cnT_zero {k : Nat} (h : cnT T k = 0) : T.l = false ∧ T.prs k = [] := by
  unfold cnT flsOf at h
  rw [List.length_append, List.length_map] at h
  refine ⟨?_, List.length_eq_zero_iff.1 (by omega)⟩
  cases hl : T.l with
  | false => rfl
  | true => rw [hl] at h; simp [leadF] at h
theorem lp3 {neg good : Bool} (h : OkNn T N neg) (hg : GoodT T good) : LpOK (vlTF T N) Tryz.prog (L3 neg T.l good) := by
  have ht := h.t
  have hn := ht.n
  have gz : good = true → ∀ k, k ≤ T.n → cnT T k = 0 := by
    intro e k hk
    subst e
    unfold cnT
    rw [hg.1, prs_good (k := 0) hg.2 hk]; rfl
  refine ⟨⟨T.n, fun k => vlTk T N k, fun k => if cnT T k = 0 then 0 else 1, ?_, ?_, ?_, ?_, fun k hk => ?_⟩, cfTp_ok h hg (fun p hp => by cases good <;> exact hp) (fun f hf => hf), cfTp_tell h hg (fun p hp => by cases good <;> exact hp) (fun f hf => hf)⟩
  · have e1 : f1T T T.n = flsOf T.l (T.prs T.n) := by unfold f1T; split <;> rfl
    have e2 : txT T T.n = txtL T.l (T.prs T.n) := by unfold txT; split <;> rfl
    have e3 : f9T T T.n = [] := by unfold f9T; rw [if_neg (by omega)]
    show vlTP T N T.n (f1T T T.n).length (txT T T.n) (f1T T T.n) (f9T T T.n) = _
    rw [e1, e2, e3]
  · show (if cnT T 0 = 0 then 0 else 1) = (match T.l with | true => 1 | false => 0)
    unfold cnT
    cases T.l <;> rfl
  · show (if cnT T T.n = 0 then 0 else 1) = (match good with | true => 0 | false => 1)
    cases good with
    | true => rw [if_pos (gz rfl _ (Nat.le_refl _))]
    | false =>
      rw [if_neg]
      intro e
      obtain ⟨a, b⟩ := cnT_zero e
      rcases hg with e | e
      · rw [a] at e; cases e
      · exact e b
  · show SubOK _ _ (match T.l with
      | true => { i := [(100, ([], 0)), (103, ([], 1)), (110, ([], 7))], s := [(5, [.b 46, .b 32, .b 108, .b 105, .b 115, .b 116, .b 10])], r := [(7, 8), (1, 3)], f := [(1, [longF])] }
      | false => { i := [(100, ([], 0))], r := [(7, 8)] })
    cases hl : T.l with
    | true =>
      have e0 : cnT T 0 = 1 := by unfold cnT; rw [hl]; rfl
      have e1 : f1T T 0 = [longF] := by unfold f1T; rw [e0, if_neg (by omega), hl]; rfl
      have e2 : txT T 0 = longT := by unfold txT; rw [e0, if_neg (by omega), hl]; rfl
      refine vlTP_chg (fun hn => by simp [lk2] at hn) (fun hn => by simp [lk2] at hn) (fun hn => by simp [lk2] at hn) (fun hn => by simp [lk2] at hn) (fun hn => by simp [lk2] at hn) (fun hn => by simp [lk2] at hn) (fun p hp => ?_) (fun p hp => ?_) (fun p hp => ?_) (fun p hp => ?_)
      · simp only [List.mem_cons, List.not_mem_nil, or_false] at hp
        rcases hp with rfl | rfl | rfl
        · rfl
        · show (((f1T T 0).length : Nat) : Int) = 0 + 1
          rw [e1]; rfl
        · show (((txT T 0).length : Nat) : Int) = 0 + 7
          rw [e2]; rfl
      · simp only [List.mem_cons, List.not_mem_nil, or_false] at hp
        subst hp
        show txT T 0 = longT
        exact e2
      · simp only [List.mem_cons, List.not_mem_nil, or_false] at hp
        rcases hp with rfl | rfl
        · rfl
        · exact e1
      · simp only [List.mem_cons, List.not_mem_nil, or_false] at hp
        subst hp
        refine ⟨e1, fun row hr x hx => ?_⟩
        have hr : row ∈ f1T T 0 := hr
        exact (f1T_ok T 0 row hr x hx).2
    | false =>
      have e0 : cnT T 0 = 0 := by unfold cnT; rw [hl]; rfl
      have e1 : f1T T 0 = flsOf T.l (T.prs T.n) := by unfold f1T; rw [if_pos e0]
      have e2 : txT T 0 = txtL T.l (T.prs T.n) := by unfold txT; rw [if_pos e0]
      refine vlTP_chg (fun hn => by simp [lk2] at hn) (fun _ => by rw [e1]) (fun _ => by rw [e2]) (fun _ => e2) (fun _ => e1) (fun hn => by simp [lk2] at hn) (fun p hp => ?_) (fun p hp => by cases hp) (fun p hp => ?_) (fun p hp => by cases hp)
      · simp only [List.mem_cons, List.not_mem_nil, or_false] at hp
        subst hp
        rfl
      · simp only [List.mem_cons, List.not_mem_nil, or_false] at hp
        subst hp
        rfl
  · have i100 : ∀ {c c' : Nat} {t t' : List UInt8} {a a' b b' : List (List AV)}, (vlTP T N (k + 1) c' t' a' b').i 100 = @Lin.val (vlTP T N k c t a b) ([(100, 1)], 1) := by
      intro c c' t t' a a' b b'
      show ((k + 1 : Nat) : Int) = 1 * (k : Int) + 0 + 1
      push_cast; omega
    have f9k : f9T T k = (if cnT T k = 0 then [] else flsOf T.l (T.prs k)) ++ [failP (T.kg k) (lI k)] := by unfold f9T; rw [if_pos hk]
    have hph : (if cnT T k = 0 then 0 else 1) = 0 ∨ (if cnT T k = 0 then 0 else 1) = 1 := by split <;> omega
    have h9 : f9T T k = (if (if cnT T k = 0 then 0 else 1) = 0 then [] else f1T T k) ++ [failP (T.kg k) (lI k)] := by
      rw [f9k]
      unfold f1T
      by_cases e : cnT T k = 0
      · rw [if_pos e, if_pos e]; rfl
      · rw [if_neg e, if_neg e, if_neg e, if_neg (by omega)]
    by_cases hz : T.kd k = 0
    · have hb : BadT T k false := hz
      have ok := cfTr_ok (N := N) (bad := false) hph ht hk hb rfl (f1T_len T k) (txT_len ht (Nat.le_of_lt hk)) (f1T_ok T k) h9
      have tl := cfTr_tell (N := N) (bad := false) hph ht hk hb rfl (f1T_len T k) (txT_len ht (Nat.le_of_lt hk)) (f1T_ok T k) h9
      have ec : cnT T (k + 1) = cnT T k := by unfold cnT; rw [prs_same hz]
      have e1 : f1T T (k + 1) = f1T T k := by unfold f1T; rw [ec, prs_same hz]
      have e2 : txT T (k + 1) = txT T k := by unfold txT; rw [ec, prs_same hz]
      have sub : ∀ ks, SubOK (vlTk T N k) (vlTk T N (k + 1)) { i := [(100, ([(100, 1)], 1))], r := [(7, 1008)], k := ks } := by
        intro ks
        refine vlTP_chg (fun hn => by simp [lk2] at hn) (fun _ => by rw [e1]) (fun _ => by rw [e2]) (fun _ => e2) (fun _ => e1) (fun hn => by simp [lk2] at hn) (fun p hp => ?_) (fun p hp => by cases hp) (fun p hp => ?_) (fun p hp => by cases hp)
        · simp only [List.mem_cons, List.not_mem_nil, or_false] at hp
          subst hp
          exact i100
        · simp only [List.mem_cons, List.not_mem_nil, or_false] at hp
          subst hp
          rfl
      by_cases h0 : cnT T k = 0
      · rw [if_pos h0] at ok tl
        refine ⟨{ frm := 0, to := 0, cf := cfTr T.l false 0, sb := { i := [(100, ([(100, 1)], 1))], r := [(7, 1008)] } }, List.mem_append_left _ List.mem_cons_self, ?_, ?_, ok, tl, sub _⟩
        · show 0 = (if cnT T k = 0 then 0 else 1); rw [if_pos h0]
        · show 0 = (if cnT T (k + 1) = 0 then 0 else 1); rw [ec, if_pos h0]
      · rw [if_neg h0] at ok tl
        refine ⟨{ frm := 1, to := 1, cf := cfTr T.l false 1, sb := { i := [(100, ([(100, 1)], 1))], r := [(7, 1008)], k := [] } }, List.mem_append_left _ (List.mem_cons_of_mem _ List.mem_cons_self), ?_, ?_, ok, tl, sub _⟩
        · show 1 = (if cnT T k = 0 then 0 else 1); rw [if_neg h0]
        · show 1 = (if cnT T (k + 1) = 0 then 0 else 1); rw [ec, if_neg h0]
    · have hb : BadT T k true := hz
      have hgf : good = false := by
        cases hgd : good with
        | false => rfl
        | true => have := gz hgd (k + 1) hk; have := cnT_more hz; omega
      subst hgf
      have ok := cfTr_ok (N := N) (bad := true) hph ht hk hb rfl (f1T_len T k) (txT_len ht (Nat.le_of_lt hk)) (f1T_ok T k) h9
      have tl := cfTr_tell (N := N) (bad := true) hph ht hk hb rfl (f1T_len T k) (txT_len ht (Nat.le_of_lt hk)) (f1T_ok T k) h9
      have ec := cnT_more hz
      have e1 : f1T T (k + 1) = f9T T k := by
        unfold f1T
        rw [ec, if_neg (by omega), fls_more hz, f9k]
        by_cases h0 : cnT T k = 0
        · rw [if_pos h0, List.length_eq_zero_iff.1 (show (flsOf T.l (T.prs k)).length = 0 from h0)]
        · rw [if_neg h0]
      have e2 : txT T (k + 1) = txtL T.l (T.prs k) ++ lineK (T.kg k) (numB k) := by
        unfold txT
        rw [ec, if_neg (by omega), txt_more hz]
      by_cases h0 : cnT T k = 0
      · rw [if_pos h0] at ok tl
        have e3 : txtL T.l (T.prs k) = [] := by
          obtain ⟨a, b⟩ := cnT_zero h0
          rw [a, b]; rfl
        refine ⟨{ frm := 0, to := 1, cf := cfTr T.l true 0, sb := { i := [(100, ([(100, 1)], 1)), (103, ([], 1)), (110, ([(1006, 1)], 0))], s := [(5, [.o 1005])], r := [(7, 1008), (1, 1009)] } }, List.mem_append_right _ List.mem_cons_self, ?_, ?_, ok, tl, ?_⟩
        · show 0 = (if cnT T k = 0 then 0 else 1); rw [if_pos h0]
        · show 1 = (if cnT T (k + 1) = 0 then 0 else 1); rw [ec, if_neg (by omega)]
        · refine vlTP_chg (fun hn => by simp [lk2] at hn) (fun hn => by simp [lk2] at hn) (fun hn => by simp [lk2] at hn) (fun hn => by simp [lk2] at hn) (fun hn => by simp [lk2] at hn) (fun hn => by simp [lk2] at hn) (fun p hp => ?_) (fun p hp => ?_) (fun p hp => ?_) (fun p hp => by cases hp)
          · simp only [List.mem_cons, List.not_mem_nil, or_false] at hp
            rcases hp with rfl | rfl | rfl
            · exact i100
            · show (((f1T T (k + 1)).length : Nat) : Int) = 0 + 1
              rw [e1, f9k, if_pos h0]; rfl
            · show (((txT T (k + 1)).length : Nat) : Int) = 1 * ((lineK (T.kg k) (numB k)).length : Int) + 0 + 0
              rw [e2, e3, List.nil_append]; omega
          · simp only [List.mem_cons, List.not_mem_nil, or_false] at hp
            subst hp
            show txT T (k + 1) = lineK (T.kg k) (numB k) ++ []
            rw [e2, e3, List.nil_append, List.append_nil]
          · simp only [List.mem_cons, List.not_mem_nil, or_false] at hp
            rcases hp with rfl | rfl
            · rfl
            · exact e1
      · rw [if_neg h0] at ok tl
        have e3 : txtL T.l (T.prs k) = txT T k := by unfold txT; rw [if_neg h0]
        refine ⟨{ frm := 1, to := 1, cf := cfTr T.l true 1, sb := { i := [(100, ([(100, 1)], 1)), (103, ([(103, 1)], 1)), (110, ([(110, 1), (1006, 1)], 0))], s := [(5, [.o 5, .o 1005])], r := [(7, 1008), (1, 1009)] } }, List.mem_append_right _ (List.mem_cons_of_mem _ List.mem_cons_self), ?_, ?_, ok, tl, ?_⟩
        · show 1 = (if cnT T k = 0 then 0 else 1); rw [if_neg h0]
        · show 1 = (if cnT T (k + 1) = 0 then 0 else 1); rw [ec, if_neg (by omega)]
        · refine vlTP_chg (fun hn => by simp [lk2] at hn) (fun hn => by simp [lk2] at hn) (fun hn => by simp [lk2] at hn) (fun hn => by simp [lk2] at hn) (fun hn => by simp [lk2] at hn) (fun hn => by simp [lk2] at hn) (fun p hp => ?_) (fun p hp => ?_) (fun p hp => ?_) (fun p hp => by cases hp)
          · simp only [List.mem_cons, List.not_mem_nil, or_false] at hp
            rcases hp with rfl | rfl | rfl
            · exact i100
            · show (((f1T T (k + 1)).length : Nat) : Int) = 1 * ((f1T T k).length : Int) + 0 + 1
              have : f9T T k = f1T T k ++ [failP (T.kg k) (lI k)] := by rw [f9k, if_neg h0]; unfold f1T; rw [if_neg h0]
              rw [e1, this, List.length_append]
              simp only [List.length_cons, List.length_nil]
              omega
            · show (((txT T (k + 1)).length : Nat) : Int) = 1 * ((txT T k).length : Int) + (1 * ((lineK (T.kg k) (numB k)).length : Int) + 0) + 0
              rw [e2, e3, List.length_append]; omega
          · simp only [List.mem_cons, List.not_mem_nil, or_false] at hp
            subst hp
            show txT T (k + 1) = txT T k ++ (lineK (T.kg k) (numB k) ++ [])
            rw [e2, e3, List.append_nil]
          · simp only [List.mem_cons, List.not_mem_nil, or_false] at hp
            rcases hp with rfl | rfl
            · rfl
            · exact e1
theorem cfTp_bd (neg l good : Bool) : ∀ p, p ∈ (cfTp neg l good).bd → p ∈ nP neg :: (100, (0 : Int), (1200 : Int)) :: (103, (match good with | true => 0 | false => 1), 3) :: (110, 0, 1000) :: bdP := fun p hp => by
  cases good
  all_goals
    rcases List.mem_cons.1 hp with rfl | hp
    · exact List.mem_cons_self
    · exact List.mem_cons_of_mem _ (List.mem_cons_of_mem _ hp)
/-- TopRows is true -/
theorem rows_cs {neg : Bool} (h : OkNn T N neg) : CS Tryz.prog 3 [lI N, ruleK T.mu T.ad T.mo, flawsK T.x T.y T.p T.q T.l] (lB true) := by
  obtain ⟨good, hg⟩ : ∃ good, GoodT T good := by
    by_cases e : T.l = false ∧ T.prs T.n = []
    · exact ⟨true, e⟩
    · refine ⟨false, ?_⟩
      show T.l = true ∨ T.prs T.n ≠ []
      cases hl : T.l with
      | true => exact .inl rfl
      | false => exact .inr fun e' => e ⟨hl, e'⟩
  have hneg : neg ∈ ([false, true] : List Bool) := by cases neg <;> simp
  have hk : runTP neg T.l good = true := by
    cases good with
    | true => rw [hg.1]; exact List.all_eq_true.1 kTPg neg hneg
    | false =>
      cases T.l with
      | true => exact List.all_eq_true.1 kTPl neg hneg
      | false => exact List.all_eq_true.1 kTPb neg hneg
  have hfs : ∀ f, f ∈ (cfTp neg T.l good).fs → f ∈ [([(4, (1 : Int)), (100, -1)], (0 : Int)), ([(4, -1), (100, 1)], 0)] := fun f hf => by cases hf
  refine @cs_of (vlTF T N) (cfTp neg T.l good) [L3 neg T.l good] (cfTp_ok h hg (bd := (cfTp neg T.l good).bd) (fs := (cfTp neg T.l good).fs) (fun p hp => by have := cfTp_bd neg T.l good p hp; revert this; cases good <;> exact id) hfs) (cfTp_tell h hg (bd := (cfTp neg T.l good).bd) (fs := (cfTp neg T.l good).fs) (fun p hp => by have := cfTp_bd neg T.l good p hp; revert this; cases good <;> exact id) hfs) (fun lp hlp => ?_) 100 3 _ _ hk _ _ ?_ rfl (three_pure .lit (pureB_ok (n := 20) rfl) (pureB_ok (n := 20) rfl)) .lit
  · simp only [List.mem_cons, List.not_mem_nil, or_false] at hlp
    subst hlp
    exact lp3 h hg
  · show [@denA (vlTF T N) 20 (ni 13), @denA (vlTF T N) 20 ruleP, @denA (vlTF T N) 20 (flawsP T.l)] = _
    rw [tp_rule, tp_flaws, tp_i 13 19]; rfl
end
end Go.Abs
end
