/- Part 33 of the proof that TopRows returns true for every input of its row (no condition beyond the row). -/
import Derived.Test.YthoapgncpjhloaaGreatDoorJ8
import Derived.Test.YthoapgncpjhloaaGreatDoorJ20
import Derived.Test.YthoapgncpjhloaaGreatDoorJ32
set_option linter.unusedVariables false
set_option linter.unusedSimpArgs false
set_option linter.unusedSectionVars false
set_option linter.all false
section
open Go.Proofs
set_option maxRecDepth 100000
namespace Go.Abs
/-- the rest of a path's text, behind the row's number; the operator's word -/
def restP (k : Nat) : List Nat := match k with
  | 1 => [93, 46, 97]
  | 2 => [93, 46, 97]
  | 3 => [93, 46, 98]
  | 4 => [93]
  | 5 => [93, 46, 100]
  | 6 => [93, 46, 99]
  | _ => [93, 46, 99, 91, 49, 93]
def pathK (k : Nat) (n : AV) : AV := (failP k n).headD .emp
def opK (k : Nat) : Int := match k with
  | 1 => 4
  | 2 => 4
  | 3 => 5
  | 4 => 10
  | 5 => 2
  | 6 => 9
  | _ => 8
def wordK (op : Int) : List Nat := if op = 4 then [110, 117, 109, 98, 101, 114] else if op = 5 then [116, 101, 120, 116] else if op = 10 then [109, 97, 112] else if op = 2 then [110, 111, 110, 101] else if op = 9 then [108, 105, 115, 116] else [118, 97, 108, 117, 101, 115]
def digN : Nat → Nat → List SP
  | _, 0 => []
  | j, m + 1 => .e ([(30 + j, 1)], 0) :: digN (j + 1) m
def cfPt (m : Nat) : Cfg := { cfg0 with
  bd := [(100, 0, 1199), (30, 48, 57), (31, 48, 57), (32, 48, 57), (33, 48, 57)]
  ct := [(60, [ni 100], .sym (.str (digN 0 m))), (60, [lI 1], lS [49])] }
def txtK (k m : Nat) : AV := .sym (.str ([.b 46, .b 91] ++ digN 0 m ++ (restP k).map .b))
noncomputable def runPt (m k : Nat) : Bool := okTop (topF (cfPt m) [] Tryz.prog 100 28 [pathK k (ni 100)]) (txtK k m)
noncomputable def runPc (f : Nat) (x : AV) (r : List Nat) : Bool := okTop (topF cfg0 [] Tryz.prog 100 f [x]) (lS r)
theorem kPt : (([1, 2, 3, 4] : List Nat).all fun m => kinds7.all fun k => runPt m k) = true := by kernel_rfl
theorem kPa : runPc 28 (.ro 3 [stF [97]]) [46, 97] = true := by kernel_rfl
theorem kPn : runPc 28 nilS [46] = true := by kernel_rfl
theorem kPw : (([4, 5, 10, 2, 9, 8] : List Int).all fun op => runPc 29 (lI op) (wordK op)) = true := by kernel_rfl
abbrev vlPt (i : Nat) (w : List UInt8) : VL := ⟨fun a => if a = 100 then (i : Int) else if 30 ≤ a ∧ a < 34 then ((w.getD (a - 30) 48).toNat : Int) else 0, fun _ => [], fun _ => false, fun _ => [], fun _ => .emp, fun _ _ _ => False⟩
/-- a numeral -/
structure NumOK (i : Nat) (w : List UInt8) : Prop where
  i9 : i ≤ 1199
  l : 1 ≤ w.length ∧ w.length ≤ 4
  d : ∀ b, b ∈ w → 48 ≤ b.toNat ∧ b.toNat ≤ 57
  c : CS Tryz.prog 60 [lI i] (lb w)
section
variable {i : Nat} {w : List UInt8}
theorem vlPt_d {j : Nat} (hj : j < 4) : (vlPt i w).i (30 + j) = ((w.getD j 48).toNat : Int) := by
  show (if 30 + j = 100 then _ else if 30 ≤ 30 + j ∧ 30 + j < 34 then ((w.getD (30 + j - 30) 48).toNat : Int) else 0) = _
  rw [if_neg (by omega), if_pos ⟨by omega, by omega⟩, show 30 + j - 30 = j by omega]
theorem digN_val (h4 : w.length ≤ 4) : ∀ m j, j + m = w.length → (digN j m).flatMap (@SP.val (vlPt i w)) = w.drop j
  | 0, j, h => by
    rw [show j = w.length by omega, List.drop_length]; rfl
  | m + 1, j, h => by
    have hj : j < w.length := by omega
    have h1 : @SP.val (vlPt i w) (.e ([(30 + j, 1)], 0)) = [w[j]] := by
      show [UInt8.ofNat (1 * (vlPt i w).i (30 + j) + 0 + 0).toNat] = _
      rw [vlPt_d (by omega), List.getD_eq_getElem?_getD, List.getElem?_eq_getElem hj]
      show [UInt8.ofNat (1 * ((w[j].toNat : Nat) : Int) + 0 + 0).toNat] = _
      rw [show (1 * ((w[j].toNat : Nat) : Int) + 0 + 0).toNat = w[j].toNat by omega, UInt8.ofNat_toNat]
    rw [digN, List.flatMap_cons, h1, digN_val h4 m (j + 1) (by omega), List.drop_eq_getElem_cons hj]; rfl
theorem str_den (ps : List SP) : @denA (vlPt i w) 20 (.sym (.str ps)) = lb (ps.flatMap (@SP.val (vlPt i w))) := rfl
theorem b_val (l : List Nat) : (l.map SP.b).flatMap (@SP.val (vlPt i w)) = l.map UInt8.ofNat := by
  induction l with
  | nil => rfl
  | cons a l ih => rw [List.map_cons, List.flatMap_cons, ih]; rfl
theorem cfPt_ok (h : NumOK i w) : @Cfg.OK (vlPt i w) (cfPt w.length) := by
  have hb : ∀ j, j < 4 → (48 : Int) ≤ (vlPt i w).i (30 + j) ∧ (vlPt i w).i (30 + j) ≤ 57 := by
    intro j hj
    rw [vlPt_d hj]
    by_cases hl : j < w.length
    · have := h.d (w.getD j 48) (by rw [List.getD_eq_getElem?_getD, List.getElem?_eq_getElem hl]; exact List.getElem_mem hl)
      omega
    · rw [List.getD_eq_getElem?_getD, List.getElem?_eq_none (by omega)]
      show (48 : Int) ≤ ((48 : UInt8).toNat : Int) ∧ ((48 : UInt8).toNat : Int) ≤ 57
      exact ⟨by decide, by decide⟩
  have hi := h.i9
  refine cfgOK_of (fun p hp => ?_) (fun f hf => by cases hf) (fun a row h => by cases h) rfl (fun p hp => by cases hp) (fun p hp => by cases hp) (fun p hp => by cases hp)
  simp only [cfPt, List.mem_cons, List.not_mem_nil, or_false] at hp
  rcases hp with rfl | rfl | rfl | rfl | rfl
  · show (0 : Int) ≤ (i : Int) ∧ (i : Int) ≤ 1199; omega
  · exact hb 0 (by omega)
  · exact hb 1 (by omega)
  · exact hb 2 (by omega)
  · exact hb 3 (by omega)
theorem i100P (m : Nat) : @denA (vlPt i w) (m + 1) (ni 100) = lI i := @ni_den (vlPt i w) m 100
theorem pathK_den [VL] (k : Nat) (n : AV) : denA 20 (pathK k n) = pathK k (denA 19 n) := by
  unfold pathK failP
  split <;> rfl
theorem pathK_pure (k : Nat) (n : Int) : Pure (pathK k (lI n)) := by
  unfold pathK failP
  split <;> exact pureB_ok (n := 20) rfl
def txtOf (k : Nat) (w : List UInt8) : List UInt8 := [46, 91] ++ w ++ (restP k).map UInt8.ofNat
theorem path_cs (h : NumOK i w) (h1 : CS Tryz.prog 60 [lI 1] (lS [49])) {k : Nat} (hk : 1 ≤ k ∧ k ≤ 7) : CS Tryz.prog 28 [pathK k (lI i)] (lb (txtOf k w)) := by
  have ok := cfPt_ok h
  have hm : w.length ∈ ([1, 2, 3, 4] : List Nat) := by
    have := h.l
    simp only [List.mem_cons, List.not_mem_nil, or_false]; omega
  have hr := List.all_eq_true.1 (List.all_eq_true.1 kPt _ hm) k (mem_k7 hk)
  have hd : (digN 0 w.length).flatMap (@SP.val (vlPt i w)) = w := by
    rw [digN_val h.l.2 w.length 0 (by omega), List.drop_zero]
  have tl := @tellOf (vlPt i w) _ ok rfl rfl fun f xs r hp => by
    simp only [cfPt, List.mem_cons, List.not_mem_nil, or_false, Prod.mk.injEq] at hp
    rcases hp with ⟨rfl, rfl, rfl⟩ | ⟨rfl, rfl, rfl⟩
    · refine @CS.call (vlPt i w) _ _ _ _ _ _ _ h.c Tryz.func60 (names1 _ _ Tryz.func60) rfl ?_ (one_pure .lit) ?_ .lit
      · show [@denA (vlPt i w) 20 (ni 100)] = _
        rw [i100P 19]
      · rw [str_den, hd]
    · exact @CS.call (vlPt i w) _ _ _ _ _ _ _ h1 Tryz.func60 (names1 _ _ Tryz.func60) rfl rfl (one_pure .lit) rfl .lit
  refine @cs_of (vlPt i w) _ [] ok tl (by simp) 100 28 _ _ hr _ _ ?_ ?_ (one_pure (pathK_pure _ _)) .lit
  · show [@denA (vlPt i w) 20 (pathK k (ni 100))] = _
    rw [@pathK_den (vlPt i w), i100P 18]
  · unfold txtK
    rw [str_den, List.flatMap_append, List.flatMap_append, hd, b_val]; rfl
theorem pc_cs {f : Nat} {x : AV} {r : List Nat} (hk : runPc f x r = true) (hx : ∀ V : VL, @denA V 20 x = x) (hp : Pure x) : CS Tryz.prog f [x] (lS r) := by
  have ok : @Cfg.OK (vlFd 0 0) cfg0 := cfgOK_of (fun p hp => by cases hp) (fun f hf => by cases hf) (fun a row h => by cases h) rfl (fun p hp => by cases hp) (fun p hp => by cases hp) (fun p hp => by cases hp)
  refine @cs_of (vlFd 0 0) cfg0 [] ok (@tellOf (vlFd 0 0) cfg0 ok rfl rfl fun f xs r h => by cases h) (by simp) 100 f _ _ hk _ _ ?_ rfl (one_pure hp) .lit
  show [@denA (vlFd 0 0) 20 x] = _
  rw [hx]
theorem patha_cs : CS Tryz.prog 28 [.ro 3 [stF [97]]] (lS [46, 97]) := pc_cs kPa (fun _ => rfl) (pureB_ok (n := 20) rfl)
theorem pathn_cs : CS Tryz.prog 28 [nilS] (lS [46]) := pc_cs kPn (fun _ => rfl) .lit
theorem word_cs {op : Int} (h : op ∈ ([4, 5, 10, 2, 9, 8] : List Int)) : CS Tryz.prog 29 [lI op] (lS (wordK op)) := pc_cs (List.all_eq_true.1 kPw op h) (fun _ => rfl) .lit
end
/-! ### numerals -/
def numB (i : Nat) : List UInt8 := (dg 20 i).map UInt8.ofNat
def numT (i : Nat) : Bool := match dg 20 i with
  | l => Nat.ble 1 l.length && Nat.ble l.length 4 && l.all fun b => Nat.ble 48 b && Nat.ble b 57
theorem kNum : allFrom numT 1200 0 = true := by kernel_rfl
theorem numOK {i : Nat} (h : i ≤ 1199) : NumOK i (numB i) := by
  have hk := allFrom_at kNum i (by omega) (by omega)
  simp only [numT, Bool.and_eq_true] at hk
  obtain ⟨⟨h1, h2⟩, h3⟩ := hk
  refine ⟨h, ⟨by unfold numB; rw [List.length_map]; exact Nat.le_of_ble_eq_true h1, by unfold numB; rw [List.length_map]; exact Nat.le_of_ble_eq_true h2⟩, fun b hb => ?_, itoa_cs i (by omega)⟩
  obtain ⟨x, hx, rfl⟩ := List.mem_map.1 hb
  have := List.all_eq_true.1 h3 x hx
  simp only [Bool.and_eq_true] at this
  have a := Nat.le_of_ble_eq_true this.1
  have b := Nat.le_of_ble_eq_true this.2
  rw [UInt8.toNat_ofNat']
  omega
end Go.Abs
end
section
open Go.Proofs Go.RowKit
set_option maxRecDepth 100000
namespace Go.Abs
/-- one reason: as it is told, and its line's parts -/
structure LnS where
  path : AV
  op : Int
  key : List UInt8
  pt : List UInt8
  wd : List UInt8
  kt : List UInt8
instance : Inhabited LnS := ⟨⟨.emp, 0, [], [], [], []⟩⟩
def LnS.row (x : LnS) : List AV := [x.path, lI x.op, lb x.key]
def LnS.line (x : LnS) : List UInt8 := Tz.line x.pt x.wd x.key x.kt
structure LnOK (x : LnS) : Prop where
  sl : x.path = nilS ∨ ∃ rows, x.path = .ro 3 rows
  pp : Pure x.path
  pc : CS Tryz.prog 28 [x.path] (lb x.pt)
  wc : CS Tryz.prog 29 [lI x.op] (lb x.wd)
  kc : x.key ≠ [] → x.key = [97] ∧ x.kt = [46, 97]
  sm : x.pt.length ≤ 100 ∧ x.wd.length ≤ 100 ∧ x.kt.length ≤ 100
theorem lines_eq (l : List LnS) : ∀ n, n ≤ l.length → Tz.lines (fun j => (l.getD j default).line) n = (l.take n).flatMap LnS.line
  | 0, _ => by simp [Tz.lines]
  | n + 1, h => by
    have hn : n < l.length := h
    rw [Tz.lines, lines_eq l n (by omega), List.take_succ_eq_append_getElem hn, List.flatMap_append, List.flatMap_cons, List.flatMap_nil, List.append_nil, List.getD_eq_getElem?_getD, List.getElem?_eq_getElem hn]
    rfl
theorem Rep.shift {V : VL} {w w' : World} {x : AV} {v : Value} (h : @Rep V (fun _ => False) w x v) (hb : Below w.heap.size w w') : @Rep V (fun _ => False) w' x v :=
  @Rep.mono V _ _ _ _ _ _ h hb.size fun b hlt _ => ⟨hb.block b hlt, fun h => h⟩
theorem text_cs {l : List LnS} (hl : l ≠ [] ∧ l.length ≤ 10) (h : ∀ x, x ∈ l → LnOK x) : CS Tryz.prog 11 [.ro 3 (l.map LnS.row)] (lb (l.flatMap LnS.line)) := by
  refine CS.of_calls rfl (fun V s w v h => by cases h with | rep h => exact h) fun V w v hg hrep => ?_
  have hne : l.map LnS.row ≠ [] := by simp [hl.1]
  generalize hrows : l.map LnS.row = rows at hrep hne
  cases hrep with
  | nil => exact absurd rfl hne
  | @ro _ _ b off cap c hF hb hn hc hrow hcell hrp =>
    have hlen : rows.length = l.length := by rw [← hrows, List.length_map]
    have hat : ∀ j, j < rows.length → rows[j]? = some (l.getD j default).row ∧ LnOK (l.getD j default) := by
      intro j hj
      have hj' : j < l.length := by omega
      rw [← hrows, List.getElem?_map, List.getElem?_eq_getElem hj', List.getD_eq_getElem?_getD, List.getElem?_eq_getElem hj']
      exact ⟨rfl, h _ (List.getElem_mem hj')⟩
    have cell : ∀ j, j < rows.length → ∀ i av, (l.getD j default).row[i]? = some av → w.cell? ⟨b, off + (j * 3 + i), none⟩ = some (c j i) ∧ @Rep V (fun _ => False) w av (c j i) := by
      intro j hj i av hi
      exact ⟨hcell j _ i av (hat j hj).1 hi, hrp j _ i av (hat j hj).1 hi⟩
    have v1 : ∀ j, j < rows.length → c j 1 = .int .i64 (l.getD j default).op := by
      intro j hj
      exact @Rel.lit_eq V (Sg.mk (fun _ => False) 0 (fun _ => none) (fun _ => none)) w _ _ (@Rel.rep V _ _ _ _ (@Rep.weaken V _ _ _ _ _ (cell j hj 1 _ rfl).2 fun _ _ hm => by
        rcases hm with hm | ⟨k, hk, _⟩
        · exact hm
        · exact hk rfl))
    have v2 : ∀ j, j < rows.length → c j 2 = .string ⟨(l.getD j default).key.toArray⟩ := by
      intro j hj
      exact @Rel.lit_eq V (Sg.mk (fun _ => False) 0 (fun _ => none) (fun _ => none)) w _ _ (@Rel.rep V _ _ _ _ (@Rep.weaken V _ _ _ _ _ (cell j hj 2 _ rfl).2 fun _ _ hm => by
        rcases hm with hm | ⟨k, hk, _⟩
        · exact hm
        · exact hk rfl))
    have hfok : Tz.FOk w rows.length b off (fun j => c j 0) (fun j => (l.getD j default).op) (fun j => (l.getD j default).key) (fun j => (l.getD j default).pt) (fun j => (l.getD j default).wd) (fun j => (l.getD j default).kt) := by
      refine ⟨hb.lt, fun j hj => (cell j hj 0 _ rfl).1, fun j hj => ?_, fun j hj => ?_, fun j hj => ?_, fun j hj w' hw' => ?_, fun j hj w' hw' => ?_, fun j hj hk w' b2 hw' hb2 => ?_, fun j hj => (hat j hj).2.sm⟩
      · rw [← v1 j hj]; exact (cell j hj 1 _ rfl).1
      · rw [← v2 j hj]; exact (cell j hj 2 _ rfl).1
      · have hr := (cell j hj 0 _ rfl).2
        generalize c j 0 = u at hr
        rcases (hat j hj).2.sl with e | ⟨rws, e⟩
        · rw [e] at hr
          cases hr
          exact ⟨_, _, _, rfl⟩
        · rw [e] at hr
          cases hr with
          | nil => exact ⟨_, _, _, rfl⟩
          | ro => exact ⟨_, _, _, rfl⟩
      · refine (hat j hj).2.pc.calls (hg.below hw' (hg.lt)) rfl fun i av u h1 h2 => ?_
        match i with
        | 0 => cases h1; cases h2; exact Rep.shift (@Rep.inst V V0 _ _ _ _ (cell j hj 0 _ rfl).2 (hat j hj).2.pp) hw'
        | i + 1 => cases h1
      · refine (hat j hj).2.wc.calls (hg.below hw' (hg.lt)) rfl fun i av u h1 h2 => ?_
        match i with
        | 0 => cases h1; cases h2; exact @Rep.lit V0 _ _ _ rfl
        | i + 1 => cases h1
      · obtain ⟨ek, et⟩ := (hat j hj).2.kc hk
        rw [et]
        rw [ek] at hb2
        refine patha_cs.calls (hg.below hw' (hg.lt)) rfl fun i av u h1 h2 => ?_
        match i with
        | 0 =>
          cases h1; cases h2
          refine @Rep.ro V0 (fun _ => False) w' 3 [stF [97]] b2 0 1 (fun _ i => if i = 0 then .bool false else if i = 1 then .string ⟨#[97]⟩ else .int .i64 0) (fun h => h) ⟨_, _, hb2⟩ (Nat.le_refl _) (by unfold maxLen; omega) (fun q row hq => ?_) (fun q row i av hq hi => ?_) (fun q row i av hq hi => ?_)
          · match q with
            | 0 => cases hq; rfl
            | q + 1 => cases hq
          · match q with
            | 0 =>
              cases hq
              match i with
              | 0 => simp [World.cell?, hb2]
              | 1 => simp [World.cell?, hb2]
              | 2 => simp [World.cell?, hb2]
              | i + 3 => cases hi
            | q + 1 => cases hq
          · match q with
            | 0 =>
              cases hq
              match i with
              | 0 => cases hi; exact @Rep.lit V0 _ _ _ rfl
              | 1 => cases hi; exact @Rep.lit V0 _ _ _ rfl
              | 2 => cases hi; exact @Rep.lit V0 _ _ _ rfl
              | i + 3 => cases hi
            | q + 1 => cases hq
        | i + 1 => cases h1
    have := Tz.text_run (cap := cap) (by omega : rows.length ≤ 10) hfok
    have hq : Tz.lines (fun j => Tz.line (l.getD j default).pt (l.getD j default).wd (l.getD j default).key (l.getD j default).kt) rows.length = (l.take rows.length).flatMap LnS.line := lines_eq l rows.length (by omega)
    rw [hq, hlen, List.take_length] at this
    rw [hlen]
    exact this
end Go.Abs
end
