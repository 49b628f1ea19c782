/- Part 26 of the proof that TopRows returns true for every input of its row (no condition beyond the row). -/
import Derived.Test.YthoapgncpjhloaaGreatDoorJ21
import Derived.Test.YthoapgncpjhloaaGreatDoorJ23
import Derived.Test.YthoapgncpjhloaaGreatDoorJ24
import Derived.Test.YthoapgncpjhloaaGreatDoorJ25
set_option linter.unusedVariables false
set_option linter.unusedSimpArgs false
set_option linter.unusedSectionVars false
set_option linter.all false
section
open Go.Proofs
namespace Go.Abs
theorem kVr {c : ClV} (h : c ∈ badV) : runVr (some c) = true := by
  simp only [badV, List.mem_cons, List.not_mem_nil, or_false] at h
  rcases h with rfl | rfl | rfl | rfl | rfl | rfl | rfl | rfl | rfl | rfl | rfl | rfl
  · exact kVr_0
  · exact kVr_1
  · exact kVr_2
  · exact kVr_3
  · exact kVr_4
  · exact kVr_5
  · exact kVr_6
  · exact kVr_7
  · exact kVr_8
  · exact kVr_9
  · exact kVr_10
  · exact kVr_11
end Go.Abs
end
section
open Go.Proofs
set_option maxRecDepth 100000
namespace Go.Abs
theorem tv_listV {c : ClE} (h : c ∈ clsE) (h0 : isK c.sh.2.2 0 = false) (t : List UInt8) : tv 6 (vList (tagsV c.sh.2.2 (lb t))) = true := tv_list h h0 t
abbrev vlV (D : InE) (good : Bool) (k : Nat) : VL :=
  ⟨fun a => if a = 100 then (k : Int) else if a = 4 then (D.rows.length : Int) else if a = 2 then D.e else if a = 1 then (D.most : Int) else if a = 1001 then (D.row k).ea else if a = 1004 then ((D.row k).da.length : Int) else if a = 1005 then ((D.row k).b.length : Int) else 0,
   fun a => if a = 0 then D.db else if a = 1000 then (D.row k).da else if a = 1002 then (D.row k).b else if a = 1003 then (D.row k).t else [], fun _ => false,
   fun a => if a = 0 then D.rows.map fun r => rowV r.fs else [], fun _ => .emp, fun a cs v => a = 1 ∧ memC 3 D.mo good cs v⟩
/-- the class of a row for the machine -/
structure IsV (D : InE) (i : Nat) (c : ClV) : Prop where
  sh : c.sh = (D.cl i).sh
  k : c.k = (D.cl i).k
  t : ∀ l, c.t = some l → (D.row i).t = [UInt8.ofNat l]
/-- what is told of the list -/
structure OkV (D : InE) : Prop where
  hn : 1 ≤ D.rows.length ∧ D.rows.length ≤ 1200
  he : 0 ≤ D.e ∧ D.e ≤ 5
  hm : D.most ≤ 1200
  is : ∀ k, k < D.rows.length → IsE D.mo (D.row k) (D.cl k)
  rk : ∀ k, k < D.rows.length → RowOK (D.row k)
  g : ∀ k, k < D.rows.length → CS Tryz.prog 103 [setB2 D.db D.e, decL (D.row k).da (D.row k).ea] (lB (!(isK (D.cl k).k 1)))
  l : ∀ k, k < D.rows.length → CS Tryz.prog 114 [lb (D.row k).b] (.tup [lI (D.row k).b.length, lI 0])
  c : CS Tryz.prog 74 [chkK D.db D.e D.most] (lI 0)
  v : CS Tryz.prog 63 [vvK (D.rows.map RowD.fs)] (lI 0)
section
variable {D : InE} {good : Bool} {k : Nat}
theorem vlV_s0 (m : Nat) : @denA (vlV D good k) (m + 1) (so 0) = .lit (.string ⟨D.db.toArray⟩) := @so_den (vlV D good k) m 0
theorem vlV_s1000 (m : Nat) : @denA (vlV D good k) (m + 1) (so 1000) = lb (D.row k).da := @so_den (vlV D good k) m 1000
theorem vlV_s1002 (m : Nat) : @denA (vlV D good k) (m + 1) (so 1002) = lb (D.row k).b := @so_den (vlV D good k) m 1002
theorem vlV_s1003 (m : Nat) : @denA (vlV D good k) (m + 1) (so 1003) = lb (D.row k).t := @so_den (vlV D good k) m 1003
theorem vlV_i2 (m : Nat) : @denA (vlV D good k) (m + 1) (ni 2) = lI D.e := @ni_den (vlV D good k) m 2
theorem vlV_i1 (m : Nat) : @denA (vlV D good k) (m + 1) (ni 1) = lI D.most := @ni_den (vlV D good k) m 1
theorem vlV_i1001 (m : Nat) : @denA (vlV D good k) (m + 1) (ni 1001) = lI (D.row k).ea := @ni_den (vlV D good k) m 1001
theorem vlV_i1005 (m : Nat) : @denA (vlV D good k) (m + 1) (ni 1005) = lI (D.row k).b.length := @ni_den (vlV D good k) m 1005
theorem vlV_tN {c : ClV} (h : IsV D k c) (m : Nat) : @denA (vlV D good k) (m + 1) (tN c.t) = lb (D.row k).t := by
  cases ht : c.t with
  | none => exact vlV_s1003 m
  | some l => rw [h.t l ht]; rfl
theorem vlV_chk : @denA (vlV D good k) 20 chkN = chkK D.db D.e D.most := by
  show @denA (vlV D good k) 20 (chkV (so 0) (ni 2) (ni 1)) = _
  rw [@chkV_den (vlV D good k), vlV_s0 16, vlV_i2 16, vlV_i1 17]; rfl
theorem vlV_v : @denA (vlV D good k) 20 vN = vvK (D.rows.map RowD.fs) := by
  show AV.agg (vList (.ro 13 (D.rows.map fun r => rowV r.fs))) = AV.agg (vList (.ro 13 ((D.rows.map RowD.fs).map rowV)))
  rw [List.map_map]; rfl
theorem vlV_set : @denA (vlV D good k) 20 setN = setB2 D.db D.e := by
  show AV.agg [.ro 11 [[_, _, _, _, _, _, _, @denA (vlV D good k) 18 (so 0), @denA (vlV D good k) 18 (ni 2), _, _]]] = _
  rw [vlV_s0 17, vlV_i2 17]; rfl
theorem vlV_dec : @denA (vlV D good k) 20 decN = decL (D.row k).da (D.row k).ea := by
  show AV.agg [_, @denA (vlV D good k) 19 (so 1000), @denA (vlV D good k) 19 (ni 1001)] = _
  rw [vlV_s1000 18, vlV_i1001 18]; rfl
theorem vlV_nump : @denA (vlV D good k) 20 (.rp (vNum (so 1000) (ni 1001)) 0) = .rp (vNum (lb (D.row k).da) (lI (D.row k).ea)) 0 := by
  have : ∀ d x, @denA (vlV D good k) 20 (.rp (vNum d x) 0) = .rp (vNum (@denA (vlV D good k) 19 d) (@denA (vlV D good k) 19 x)) 0 := fun _ _ => rfl
  rw [this, vlV_s1000 18, vlV_i1001 18]
theorem vlV_txtp : @denA (vlV D good k) 20 (.rp (vText (so 1002)) 0) = .rp (vText (lb (D.row k).b)) 0 := by
  have : ∀ d, @denA (vlV D good k) 20 (.rp (vText d) 0) = .rp (vText (@denA (vlV D good k) 19 d)) 0 := fun _ => rfl
  rw [this, vlV_s1002 18]
theorem vlV_tagp {c : ClV} (h : IsV D k c) : @denA (vlV D good k) 20 (.rp (vText (tN c.t)) 0) = .rp (vText (lb (D.row k).t)) 0 := by
  have : ∀ d, @denA (vlV D good k) 20 (.rp (vText d) 0) = .rp (vText (@denA (vlV D good k) 19 d)) 0 := fun _ => rfl
  rw [this, vlV_tN h 18]
theorem vlV_row {c : ClV} (h : IsV D k c) (hi : IsE D.mo (D.row k) (D.cl k)) : (rowVv c).map (@denA (vlV D good k) 20) = rowV (D.row k).fs := by
  have hs : c.sh ∈ shs := by rw [h.sh]; exact clsE_sh hi.mem
  unfold rowVv
  have ea : (D.row k).a = c.sh.1 := congrArg Prod.fst (hi.sh.trans h.sh.symm)
  have ed : (D.row k).d = c.sh.2.1 := congrArg (fun s => s.2.1) (hi.sh.trans h.sh.symm)
  have ec : (D.row k).c = c.sh.2.2 := congrArg (fun s => s.2.2) (hi.sh.trans h.sh.symm)
  rw [@fld_den (vlV D good k) _ _ _ hs, vlV_s1000 18, vlV_i1001 18, vlV_s1002 18, vlV_tN h 17]
  show _ = rowV (fldV (D.row k).a (D.row k).d (D.row k).c _ _ _ _)
  rw [ea, ed, ec]
theorem vlV_row19 {c : ClV} (h : IsV D k c) (hi : IsE D.mo (D.row k) (D.cl k)) : @denA (vlV D good k) 20 (.rp (rowVv c) 0) = .rp (rowV (D.row k).fs) 0 := by
  have hs : c.sh ∈ shs := by rw [h.sh]; exact clsE_sh hi.mem
  show AV.rp ((rowVv c).map (@denA (vlV D good k) 19)) 0 = _
  unfold rowVv
  have ea : (D.row k).a = c.sh.1 := congrArg Prod.fst (hi.sh.trans h.sh.symm)
  have ed : (D.row k).d = c.sh.2.1 := congrArg (fun s => s.2.1) (hi.sh.trans h.sh.symm)
  have ec : (D.row k).c = c.sh.2.2 := congrArg (fun s => s.2.2) (hi.sh.trans h.sh.symm)
  rw [@fld_den19 (vlV D good k) _ _ _ hs, vlV_s1000 17, vlV_i1001 17, vlV_s1002 17, vlV_tN h 16]
  show _ = AV.rp (rowV (fldV (D.row k).a (D.row k).d (D.row k).c _ _ _ _)) 0
  rw [ea, ed, ec]
theorem vlV_list {c : ClV} (h : IsV D k c) (hi : IsE D.mo (D.row k) (D.cl k)) : @denA (vlV D good k) 20 (.rp (cVv c) 0) = .rp (vList (tagsV (D.cl k).sh.2.2 (lb (D.row k).t))) 0 := by
  have hs : c.sh ∈ shs := by rw [h.sh]; exact clsE_sh hi.mem
  have key : ∀ (a d : Bool) (n : Nat) (x : AV), (a, d, n) ∈ shs → @denA (vlV D good k) 20 (.rp (vList (tagsV n x)) 0) = .rp (vList (tagsV n (@denA (vlV D good k) 18 x))) 0 := by
    intro a d n x h
    simp only [shs, List.mem_cons, List.not_mem_nil, or_false, Prod.mk.injEq] at h
    rcases h with ⟨rfl, rfl, rfl⟩ | ⟨rfl, rfl, rfl⟩ | ⟨rfl, rfl, rfl⟩ | ⟨rfl, rfl, rfl⟩ | ⟨rfl, rfl, rfl⟩ | ⟨rfl, rfl, rfl⟩ | ⟨rfl, rfl, rfl⟩ <;> rfl
  unfold cVv
  rw [key _ _ _ _ hs, vlV_tN h 17]
  show AV.rp (vList (tagsV c.sh.2.2 _)) 0 = _
  rw [h.sh]
theorem mmC_entry {V : VL} {mo : Nat} {g : Bool} (hV : V.m = fun a cs v => a = 1 ∧ memC 3 mo g cs v) {y Y : List AV} {v : AV} {j : Int} {n : Nat} (b : Bool) (hy : @denA V 20 (.rp y 0) = .rp Y 0)
    (pY : Pure (.rp Y 0)) (ht : tv n Y = true) (htd : told mo (opJ j) Y b) (hv : v = lB (!b)) : MmOK V 1 [lI j, .rp y 0] v := by
  have hm : [lI j, .rp y 0].map (@denA V 20) = [lI j, .rp Y 0] := by rw [List.map_cons, List.map_cons, List.map_nil, hy]; rfl
  have hin : V.m 1 [lI j, .rp Y 0] (.bool (!b)) := by rw [hV]; exact ⟨rfl, .inr ⟨j, Y, n, b, rfl, ht, htd, rfl⟩⟩
  refine ⟨.bool (!b), by rw [hv]; rfl, by rw [hm]; exact hin, ?_, ?_⟩
  · intro c hc xs o he
    simp only [List.mem_cons, List.not_mem_nil, or_false] at hc
    rcases hc with rfl | rfl
    · cases he
    · rw [hy]; exact pY
  · intro s w ks cs' vs val' _ hal hd hd' h
    rw [hm] at hd'
    rw [hV] at h hin
    exact @memC_same V 3 mo g s w 1 ks _ cs' vs _ val' hal hd hd' h.2 hin.2
theorem mmC_root {V : VL} {mo : Nat} {g : Bool} (hV : V.m = fun a cs v => a = 1 ∧ memC 3 mo g cs v) : MmOK V 1 [lI 0, .ptr 3 0 0 0] (lB g) := by
  have hin : V.m 1 [lI 0, .ptr 3 0 0 0] (.bool g) := by rw [hV]; exact ⟨rfl, .inl ⟨rfl, rfl⟩⟩
  refine ⟨.bool g, rfl, hin, ?_, ?_⟩
  · intro c hc xs o he
    simp only [List.mem_cons, List.not_mem_nil, or_false] at hc
    rcases hc with rfl | rfl <;> cases he
  · intro s w ks cs' vs val' _ hal hd hd' h
    rw [hV] at h hin
    exact @memC_same V 3 mo g s w 1 ks _ cs' vs _ val' hal hd hd' h.2 hin.2
theorem mmV_ok (h : OkV D) (hk : k < D.rows.length) {c : ClV} (hc : IsV D k c) {a : Nat} {cs : List AV} {v : AV} (hm : (a, cs, v) ∈ mmV c) : MmOK (vlV D good k) a cs v := by
  have hi := h.is k hk
  have hsh := clsE_sh hi.mem
  have hsr : (D.row k).sh ∈ shs := by rw [hi.sh]; exact hsh
  have pr : Pure (.rp (rowV (D.row k).fs) 0) := .rp fun x hx => (rowV_ok (fs_ok hsr) x hx).2
  unfold mmV at hm
  rcases List.mem_append.1 hm with hm | hm
  · simp only [List.mem_cons, List.not_mem_nil, or_false, Prod.mk.injEq] at hm
    rcases hm with ⟨rfl, rfl, rfl⟩ | ⟨rfl, rfl, rfl⟩ | ⟨rfl, rfl, rfl⟩ | ⟨rfl, rfl, rfl⟩ | ⟨rfl, rfl, rfl⟩ | ⟨rfl, rfl, rfl⟩ | ⟨rfl, rfl, rfl⟩
    · exact mmC_entry (mo := D.mo) (g := good) rfl _ (vlV_row19 hc hi) pr (tv_row hsr) (told_row hi) (by rw [hc.k, Bool.not_not])
    · exact mmC_entry (mo := D.mo) (g := good) rfl _ vlV_nump (pureB_ok (n := 20) rfl) (n := 3) rfl (told_num hi) (by rw [hc.k])
    · exact mmC_entry (mo := D.mo) (g := good) rfl _ vlV_txtp (pureB_ok (n := 20) rfl) (n := 3) rfl (told_text hi) (by rw [hc.k])
    · exact mmC_entry (mo := D.mo) (g := good) rfl false (Y := vText (lS [122])) rfl (pureB_ok (n := 20) rfl) (n := 3) rfl (told_let (by simp [tagL])) rfl
    · exact mmC_entry (mo := D.mo) (g := good) rfl false (Y := vText (lS [120])) rfl (pureB_ok (n := 20) rfl) (n := 3) rfl (told_let (by simp [tagL])) rfl
    · exact mmC_entry (mo := D.mo) (g := good) rfl _ (vlV_tagp hc) (pureB_ok (n := 20) rfl) (n := 3) rfl (told_tag hi) (by rw [hc.k])
    · exact mmC_entry (mo := D.mo) (g := good) rfl true (Y := vz 0) rfl (pureB_ok (n := 20) rfl) (n := 3) rfl told_none rfl
  · cases h0 : isK c.sh.2.2 0 with
    | true => rw [h0] at hm; cases hm
    | false =>
      rw [h0] at hm
      simp only [List.mem_cons, List.not_mem_nil, or_false, Prod.mk.injEq] at hm
      obtain ⟨rfl, rfl, rfl⟩ := hm
      rw [hc.sh] at h0
      exact mmC_entry (mo := D.mo) (g := good) rfl _ (vlV_list hc hi) (pure_list2 hi.mem _) (tv_list hi.mem h0 _) (told_list (.inl rfl) hi (Nat.ne_of_beq_eq_false h0)) (by rw [hc.k])
theorem vlV_rd (h : OkV D) (a : Nat) (row : List AV) (hr : row ∈ (vlV D good k).r a) (x : AV) (hx : x ∈ row) : x.dat = true ∧ Pure x := by
  have hr : row ∈ (if a = 0 then D.rows.map fun r => rowV r.fs else []) := hr
  split at hr
  · obtain ⟨r, hfs, rfl⟩ := List.mem_map.1 hr
    obtain ⟨i, hi, rfl⟩ := List.mem_iff_getElem.1 hfs
    have hs : D.row i = D.rows[i] := by
      unfold InE.row
      rw [List.getD_eq_getElem?_getD, List.getElem?_eq_getElem hi]; rfl
    have := (h.rk i hi).sh
    rw [hs] at this
    exact rowV_ok (fs_ok this) x hx
  · cases hr
theorem rlV (p : Nat × Lin) (hp : p ∈ [(0, at1 4)]) : (((vlV D good k).r p.1).length : Int) = @Lin.val (vlV D good k) p.2 := by
  simp only [List.mem_cons, List.not_mem_nil, or_false] at hp
  subst hp
  show (((D.rows.map fun r => rowV r.fs).length : Nat) : Int) = 1 * (D.rows.length : Int) + 0 + 0
  rw [List.length_map]; omega
/-- how long the text is -/
theorem lenVb (h : OkV D) (hk : k < D.rows.length) {c : ClV} (hc : IsV D k c) : loV c ≤ ((D.row k).b.length : Nat) ∧ (((D.row k).b.length : Nat) : Int) ≤ hiV c := by
  have hb := (h.is k hk).b
  have h3 := (h.rk k hk).b
  unfold loV hiV
  rw [hc.k]
  cases hz : isK (D.cl k).k 3 with
  | true =>
    rw [if_pos (Nat.eq_of_beq_eq_true hz)] at hb
    rw [hb]; simp
  | false =>
    rw [if_neg (Nat.ne_of_beq_eq_false hz)] at hb
    have : (D.row k).b.length ≠ 0 := fun e => hb (List.length_eq_zero_iff.1 e)
    simp only
    omega
theorem cfVr_ok (h : OkV D) (hl : D.rows.length ≤ D.most) (hk : k < D.rows.length) {c : ClV} (hc : IsV D k c) : @Cfg.OK (vlV D good k) (cfVr c) := by
  have hn := h.hn
  have hmm := h.hm
  have he := h.he
  have hr := h.rk k hk
  have hlen := lenVb h hk hc
  refine cfgOK_of (fun p hp => ?_) (fun f hf => ?_) (vlV_rd h) rfl (fun p hp => ?_) rlV (fun p hp => ?_) (mm := fun a cs v hm => mmV_ok h hk hc hm)
  · simp only [cfVr, List.mem_cons, List.not_mem_nil, or_false] at hp
    rcases hp with rfl | rfl | rfl | rfl | rfl | rfl | rfl
    · show (1 : Int) ≤ (D.rows.length : Int) ∧ (D.rows.length : Int) ≤ 1200; omega
    · show (0 : Int) ≤ (D.most : Int) ∧ (D.most : Int) ≤ 1200; omega
    · exact he
    · show (0 : Int) ≤ (k : Int) ∧ (k : Int) ≤ 1199; omega
    · exact hr.ea
    · show (0 : Int) ≤ ((D.row k).da.length : Int) ∧ ((D.row k).da.length : Int) ≤ 7; have := hr.da; omega
    · exact hlen
  · simp only [cfVr, List.mem_cons, List.not_mem_nil, or_false] at hf
    rcases hf with rfl | rfl
    · show (0 : Int) ≤ 1 * (D.rows.length : Int) + (-1 * (k : Int) + 0) + -1; omega
    · show (0 : Int) ≤ 1 * (D.most : Int) + (-1 * (D.rows.length : Int) + 0) + 0; omega
  · simp only [cfVr, List.mem_cons, List.not_mem_nil, or_false] at hp
    subst hp
    show (((D.row k).da.length : Nat) : Int) = 1 * ((D.row k).da.length : Int) + 0 + 0; omega
  · simp only [cfVr, List.mem_cons, List.not_mem_nil, or_false] at hp
    subst hp
    refine ⟨k, ?_, ?_⟩
    · show 1 * (k : Int) + 0 + 0 = _; omega
    · rw [vlV_row hc (h.is k hk)]
      show (D.rows.map fun r => rowV r.fs)[k]? = _
      rw [List.getElem?_map, List.getElem?_eq_getElem hk]
      unfold InE.row
      rw [List.getD_eq_getElem?_getD, List.getElem?_eq_getElem hk]; rfl
theorem cfVr_tell (h : OkV D) (hl : D.rows.length ≤ D.most) (hk : k < D.rows.length) {c : ClV} (hc : IsV D k c) : @Tell (vlV D good k) (cfVr c) Tryz.prog := by
  refine @tellOf (vlV D good k) _ (cfVr_ok h hl hk hc) rfl rfl fun f xs r hp => ?_
  simp only [cfVr, ctV, List.mem_cons, List.not_mem_nil, or_false, Prod.mk.injEq] at hp
  rcases hp with ⟨rfl, rfl, rfl⟩ | ⟨rfl, rfl, rfl⟩
  · refine @CS.call (vlV D good k) _ _ _ _ _ _ _ (h.g k hk) Tryz.func103 (names1 _ _ Tryz.func103) rfl ?_ (two_pure (pureB_ok (n := 20) rfl) (decL_pure _ _)) (by rw [hc.k]; rfl) .lit
    show [@denA (vlV D good k) 20 setN, @denA (vlV D good k) 20 decN] = _
    rw [vlV_set, vlV_dec]
  · refine @CS.call (vlV D good k) _ _ _ _ _ _ _ (h.l k hk) Tryz.func114 (names1 _ _ Tryz.func114) rfl ?_ (one_pure .lit) ?_ (pureB_ok (n := 20) rfl)
    · show [@denA (vlV D good k) 20 (so 1002)] = _
      rw [vlV_s1002 19]
    · show AV.tup [@denA (vlV D good k) 19 (ni 1005), _] = _
      rw [vlV_i1005 18]; rfl
theorem vlV_chg (k' : Nat) (x : Lin) (hx : @Lin.val (vlV D good k) x = (k' : Int)) : SubOK (vlV D good k) (vlV D good k') { i := [(100, x)] } := by
  refine subOK_of (fun a ha hn => ?_) (fun p hp => ?_) (fun a ha hn => ?_) (fun p hp => by cases hp) rfl (fun a ha hn => rfl) (fun p hp => by cases hp) (fun a ha => by cases ha) (fun p hp => by cases hp) rfl
  · have h100 : a ≠ 100 := by rintro rfl; simp [lk2] at hn
    show (if a = 100 then _ else if a = 4 then _ else if a = 2 then _ else if a = 1 then _ else if a = 1001 then _ else if a = 1004 then _ else if a = 1005 then _ else _) = (if a = 100 then _ else if a = 4 then _ else if a = 2 then _ else if a = 1 then _ else if a = 1001 then _ else if a = 1004 then _ else if a = 1005 then _ else _)
    rw [if_neg h100, if_neg h100, if_neg (by omega : ¬ a = 1001), if_neg (by omega : ¬ a = 1004), if_neg (by omega : ¬ a = 1005), if_neg (by omega : ¬ a = 1001), if_neg (by omega : ¬ a = 1004), if_neg (by omega : ¬ a = 1005)]
  · simp only [List.mem_cons, List.not_mem_nil, or_false] at hp
    subst hp
    exact hx.symm
  · show (if a = 0 then _ else if a = 1000 then _ else if a = 1002 then _ else if a = 1003 then _ else _) = (if a = 0 then _ else if a = 1000 then _ else if a = 1002 then _ else if a = 1003 then _ else _)
    rw [if_neg (by omega : ¬ a = 1000), if_neg (by omega : ¬ a = 1002), if_neg (by omega : ¬ a = 1003), if_neg (by omega : ¬ a = 1000), if_neg (by omega : ¬ a = 1002), if_neg (by omega : ¬ a = 1003)]
end
end Go.Abs
end
section
open Go.Proofs
set_option maxRecDepth 100000
namespace Go.Abs
section
variable {D : InE}
/-- a row's class for the machine -/
def clV (D : InE) (k : Nat) : ClV := ⟨(D.cl k).sh, match isK (D.cl k).k 7 with
  | true => some 113
  | false => match (isK (D.cl k).k 0 || isK (D.cl k).k 5) && isK (D.cl k).sh.2.2 2 with
    | true => some ((D.row k).t.headD 0).toNat
    | false => none, (D.cl k).k⟩
theorem clV_is (h : OkV D) {k : Nat} (hk : k < D.rows.length) : IsV D k (clV D k) := by
  refine ⟨rfl, rfl, fun l hl => ?_⟩
  have ht := (h.is k hk).t
  unfold clV at hl
  simp only at hl
  cases h7 : isK (D.cl k).k 7 with
  | true =>
    rw [h7] at hl
    rw [if_pos (Nat.eq_of_beq_eq_true h7)] at ht
    cases hl
    rw [ht]; rfl
  | false =>
    rw [h7] at hl
    rw [if_neg (Nat.ne_of_beq_eq_false h7)] at ht
    obtain ⟨l', hl', ht⟩ := ht
    simp only at hl
    split at hl
    · cases hl
      rw [ht]
      show [UInt8.ofNat l'] = [UInt8.ofNat (UInt8.ofNat l').toNat]
      rw [UInt8.ofNat_toNat]
    · cases hl
theorem clV_mem (h : OkV D) {k : Nat} (hk : k < D.rows.length) : (isK (D.cl k).k 0 = true → clV D k ∈ goodV) ∧ (isK (D.cl k).k 0 = false → clV D k ∈ badV) := by
  have hi := h.is k hk
  have ht := hi.t
  have hm := hi.mem
  have e : clV D k = (⟨(D.cl k).sh, match isK (D.cl k).k 7 with
    | true => some 113
    | false => match (isK (D.cl k).k 0 || isK (D.cl k).k 5) && isK (D.cl k).sh.2.2 2 with
      | true => some ((D.row k).t.headD 0).toNat
      | false => none, (D.cl k).k⟩ : ClV) := rfl
  rw [e]
  generalize D.cl k = c at hm ht ⊢
  simp only [clsE, List.mem_cons, List.not_mem_nil, or_false] at hm
  rcases hm with rfl | rfl | rfl | rfl | rfl | rfl | rfl | rfl | rfl | rfl | rfl | rfl
  all_goals (refine ⟨fun e => ?_, fun e => ?_⟩ <;> first | (cases e; done) | skip)
  all_goals first
    | (unfold goodV; (repeat (first | (exact List.mem_cons_self) | (apply List.mem_cons_of_mem))); done)
    | (unfold badV; (repeat (first | (exact List.mem_cons_self) | (apply List.mem_cons_of_mem))); done)
    | (simp only [Nat.reduceEqDiff, reduceIte] at ht
       obtain ⟨l, hl, ht⟩ := ht
       rw [ht]
       simp only [tagL, List.mem_cons, List.not_mem_nil, or_false] at hl
       rcases hl with rfl | rfl | rfl
       all_goals first
         | (unfold goodV; (repeat (first | (exact List.mem_cons_self) | (apply List.mem_cons_of_mem))); done)
         | (unfold badV; (repeat (first | (exact List.mem_cons_self) | (apply List.mem_cons_of_mem))); done))
theorem cf0V_ok (h : OkV D) (hl : D.rows.length ≤ D.most) (good : Bool) (k : Nat) : @Cfg.OK (vlV D good k) (cfV0 good) := by
  have hn := h.hn
  have hmm := h.hm
  refine cfgOK_of (fun p hp => ?_) (fun f hf => ?_) (vlV_rd h) rfl (fun p hp => by cases hp) rlV (fun p hp => by cases hp) (mm := fun a cs v hm => ?_)
  · simp only [cfV0, List.mem_cons, List.not_mem_nil, or_false] at hp
    rcases hp with rfl | rfl | rfl
    · show (1 : Int) ≤ (D.rows.length : Int) ∧ (D.rows.length : Int) ≤ 1200; omega
    · show (0 : Int) ≤ (D.most : Int) ∧ (D.most : Int) ≤ 1200; omega
    · exact h.he
  · simp only [cfV0, List.mem_cons, List.not_mem_nil, or_false] at hf
    subst hf
    show (0 : Int) ≤ 1 * (D.most : Int) + (-1 * (D.rows.length : Int) + 0) + 0; omega
  · simp only [cfV0, List.mem_cons, List.not_mem_nil, or_false, Prod.mk.injEq] at hm
    obtain ⟨rfl, rfl, rfl⟩ := hm
    exact mmC_root (mo := D.mo) (g := good) rfl
theorem cfVl_ok (h : OkV D) (hl : D.most < D.rows.length) (k : Nat) : @Cfg.OK (vlV D false k) cfVl := by
  have hn := h.hn
  have hmm := h.hm
  refine cfgOK_of (fun p hp => ?_) (fun f hf => ?_) (vlV_rd h) rfl (fun p hp => by cases hp) rlV (fun p hp => by cases hp) (mm := fun a cs v hm => ?_)
  · simp only [cfVl, cfV0, List.mem_cons, List.not_mem_nil, or_false] at hp
    rcases hp with rfl | rfl | rfl
    · show (1 : Int) ≤ (D.rows.length : Int) ∧ (D.rows.length : Int) ≤ 1200; omega
    · show (0 : Int) ≤ (D.most : Int) ∧ (D.most : Int) ≤ 1200; omega
    · exact h.he
  · simp only [cfVl, List.mem_cons, List.not_mem_nil, or_false] at hf
    subst hf
    show (0 : Int) ≤ 1 * (D.rows.length : Int) + (-1 * (D.most : Int) + 0) + -1
    omega
  · simp only [cfVl, cfV0, List.mem_cons, List.not_mem_nil, or_false, Prod.mk.injEq] at hm
    obtain ⟨rfl, rfl, rfl⟩ := hm
    exact mmC_root (mo := D.mo) (g := false) rfl
theorem cfVe_ok (h : OkV D) (hl : D.rows.length ≤ D.most) (good : Bool) : @Cfg.OK (vlV D good D.rows.length) cfVe := by
  have hn := h.hn
  have hmm := h.hm
  refine cfgOK_of (fun p hp => ?_) (fun f hf => ?_) (vlV_rd h) rfl (fun p hp => by cases hp) rlV (fun p hp => by cases hp)
  · simp only [cfVe, List.mem_cons, List.not_mem_nil, or_false] at hp
    rcases hp with rfl | rfl | rfl | rfl
    · show (1 : Int) ≤ (D.rows.length : Int) ∧ (D.rows.length : Int) ≤ 1200; omega
    · show (0 : Int) ≤ (D.most : Int) ∧ (D.most : Int) ≤ 1200; omega
    · exact h.he
    · show (0 : Int) ≤ (D.rows.length : Int) ∧ (D.rows.length : Int) ≤ 1200; omega
  · simp only [cfVe, List.mem_cons, List.not_mem_nil, or_false] at hf
    rcases hf with rfl | rfl | rfl
    · show (0 : Int) ≤ 1 * (D.rows.length : Int) + (-1 * (D.rows.length : Int) + 0) + 0; omega
    · show (0 : Int) ≤ -1 * (D.rows.length : Int) + (1 * (D.rows.length : Int) + 0) + 0; omega
    · show (0 : Int) ≤ 1 * (D.most : Int) + (-1 * (D.rows.length : Int) + 0) + 0; omega
theorem vvV_FOK (h : OkV D) : ∀ fs, fs ∈ D.rows.map RowD.fs → FOK fs := by
  intro fs hfs
  obtain ⟨r, hr, rfl⟩ := List.mem_map.1 hfs
  obtain ⟨i, hi, rfl⟩ := List.mem_iff_getElem.1 hr
  have hs : D.row i = D.rows[i] := by
    unfold InE.row
    rw [List.getD_eq_getElem?_getD, List.getElem?_eq_getElem hi]; rfl
  have := (h.rk i hi).sh
  rw [hs] at this
  exact fs_ok this
theorem ctV0 (h : OkV D) {good : Bool} {k f : Nat} {xs : List AV} {r : AV} (hp : (f, xs, r) ∈ [(74, [chkN], lI 0), (63, [vN], lI 0)]) : @CtOK (vlV D good k) Tryz.prog f xs r := by
  simp only [List.mem_cons, List.not_mem_nil, or_false, Prod.mk.injEq] at hp
  rcases hp with ⟨rfl, rfl, rfl⟩ | ⟨rfl, rfl, rfl⟩
  · refine @CS.call (vlV D good k) _ _ _ _ _ _ _ h.c Tryz.func74 (names1 _ _ Tryz.func74) rfl ?_ (one_pure (chkK_pure _ _ _)) rfl .lit
    show [@denA (vlV D good k) 20 chkN] = _
    rw [vlV_chk]
  · refine @CS.call (vlV D good k) _ _ _ _ _ _ _ h.v Tryz.func63 (names1 _ _ Tryz.func63) rfl ?_ (one_pure (vvK_pure (vvV_FOK h))) rfl .lit
    show [@denA (vlV D good k) 20 vN] = _
    rw [vlV_v]
theorem argsV (good : Bool) (k : Nat) : [chkN, vN].map (@denA (vlV D good k) 20) = [chkK D.db D.e D.most, vvK (D.rows.map RowD.fs)] := by
  show [@denA (vlV D good k) 20 chkN, @denA (vlV D good k) 20 vN] = _
  rw [vlV_chk, vlV_v]
/-- the rounds before row 'K' -/
theorem rounds_V (h : OkV D) (hl : D.rows.length ≤ D.most) {K : Nat} (hK : K ≤ D.rows.length) (hg : ∀ k, k < K → isK (D.cl k).k 0 = true) (good : Bool) (b : Option ClV) :
    ∃ (K' : Nat) (Vk : Nat → VL) (ph : Nat → Nat), Vk K' = vlV D good K ∧ ph 0 = (L192 b).i0 ∧ ph K' = (L192 b).fin ∧ SubOK (vlV D good K) (Vk 0) (L192 b).s0 ∧
    ∀ k, k < K' → ∃ c, c ∈ (L192 b).cs ∧ c.frm = ph k ∧ c.to = ph (k + 1) ∧ @Cfg.OK (Vk k) c.cf ∧ @Tell (Vk k) c.cf Tryz.prog ∧ SubOK (Vk k) (Vk (k + 1)) c.sb := by
  refine ⟨K, fun k => vlV D good k, fun _ => 0, rfl, rfl, rfl, vlV_chg 0 ([], 0) rfl, fun k hk => ?_⟩
  have hk' : k < D.rows.length := by omega
  refine ⟨_, List.mem_map.2 ⟨clV D k, (clV_mem h hk').1 (hg k hk), rfl⟩, rfl, rfl, cfVr_ok h hl hk' (clV_is h hk'), cfVr_tell h hl hk' (clV_is h hk'), vlV_chg (k + 1) ([(100, 1)], 1) ?_⟩
  show 1 * (k : Int) + 0 + 1 = _
  push_cast; omega
theorem run_good (h : OkV D) (hl : D.rows.length ≤ D.most) (hg : ∀ k, k < D.rows.length → isK (D.cl k).k 0 = true) : CS Tryz.prog 14 [chkK D.db D.e D.most, vvK (D.rows.map RowD.fs)] (lB true) := by
  have oke := cfVe_ok h hl true
  refine @cs_of (vlV D true D.rows.length) (cfV0 true) [L192 none] (cf0V_ok h hl true _) (@tellOf (vlV D true D.rows.length) _ (cf0V_ok h hl true _) rfl rfl fun f xs r hp => ctV0 h hp) (fun lp hlp => ?_) 100 14 _ _ kVr_n _ _ (argsV true _) rfl (two_pure (chkK_pure _ _ _) (vvK_pure (vvV_FOK h))) .lit
  simp only [List.mem_cons, List.not_mem_nil, or_false] at hlp
  subst hlp
  exact ⟨rounds_V h hl (Nat.le_refl _) hg true none, oke, @tellOf (vlV D true D.rows.length) _ oke rfl rfl fun f xs r hp => by cases hp⟩
theorem run_bad (h : OkV D) (hl : D.rows.length ≤ D.most) {p : Nat} (hp : p < D.rows.length) (hg : ∀ k, k < p → isK (D.cl k).k 0 = true) (hb : isK (D.cl p).k 0 = false) : CS Tryz.prog 14 [chkK D.db D.e D.most, vvK (D.rows.map RowD.fs)] (lB false) := by
  refine @cs_of (vlV D false p) (cfV0 false) [L192 (some (clV D p))] (cf0V_ok h hl false _) (@tellOf (vlV D false p) _ (cf0V_ok h hl false _) rfl rfl fun f xs r hp => ctV0 h hp) (fun lp hlp => ?_) 100 14 _ _ (kVr ((clV_mem h hp).2 hb)) _ _ (argsV false _) rfl (two_pure (chkK_pure _ _ _) (vvK_pure (vvV_FOK h))) .lit
  simp only [List.mem_cons, List.not_mem_nil, or_false] at hlp
  subst hlp
  exact ⟨rounds_V h hl (Nat.le_of_lt hp) hg false _, cfVr_ok h hl hp (clV_is h hp), cfVr_tell h hl hp (clV_is h hp)⟩
theorem run_long (h : OkV D) (hl : D.most < D.rows.length) : CS Tryz.prog 14 [chkK D.db D.e D.most, vvK (D.rows.map RowD.fs)] (lB false) :=
  @cs_of (vlV D false 0) cfVl [] (cfVl_ok h hl 0) (@tellOf (vlV D false 0) _ (cfVl_ok h hl 0) rfl rfl fun f xs r hp => ctV0 h hp) (by simp) 100 14 _ _ kVr_l _ _ (argsV false 0) rfl (two_pure (chkK_pure _ _ _) (vvK_pure (vvV_FOK h))) .lit
end
end Go.Abs
end
