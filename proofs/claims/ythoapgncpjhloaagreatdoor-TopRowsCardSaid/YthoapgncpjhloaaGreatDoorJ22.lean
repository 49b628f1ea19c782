/- Part 22 of the proof that TopRows returns true for every input of its row (no condition beyond the row). -/
import Derived.Test.YthoapgncpjhloaaGreatDoorJ14
import Derived.Test.YthoapgncpjhloaaGreatDoorJ20
import Derived.Test.YthoapgncpjhloaaGreatDoorJ21
set_option linter.unusedVariables false
set_option linter.unusedSimpArgs false
set_option linter.unusedSectionVars false
set_option linter.all false
section
open Go.Proofs
set_option maxRecDepth 100000
namespace Go.Abs
section
variable {D : InE} {k c1 c3 : Nat} {f1 f2 : List (List AV)}
/-- bounds and facts of a round -/
theorem bdE_ok (h : OkE D) (hk : k < D.rows.length) (h1 : c1 ≤ 3) (h3 : 1 ≤ c3 ∧ c3 ≤ 3) {l : List (Nat × Int × Int)} (hl : l = bdE ++ [(100, 0, 1199), (101, 0, 3), (1001, -1, 5), (1004, 0, 7)]) (p : Nat × Int × Int) (hp : p ∈ l) :
    p.2.1 ≤ (vlE D k c1 c3 f1 f2).i p.1 ∧ (vlE D k c1 c3 f1 f2).i p.1 ≤ p.2.2 := by
  have hn := h.hn
  have hml := most_le h
  have he := h.he
  have hr := rk_len h hk
  subst hl
  simp only [bdE, List.cons_append, List.nil_append, List.mem_cons, List.not_mem_nil, or_false] at hp
  rcases hp with rfl | rfl | rfl | rfl | rfl | rfl | rfl | rfl
  · show (1 : Int) ≤ (D.rows.length : Int) ∧ (D.rows.length : Int) ≤ 1200; omega
  · show (0 : Int) ≤ (D.most : Int) ∧ (D.most : Int) ≤ 1200; omega
  · exact he
  · show (1 : Int) ≤ (c3 : Int) ∧ (c3 : Int) ≤ 3; omega
  · show (0 : Int) ≤ (k : Int) ∧ (k : Int) ≤ 1199; omega
  · show (0 : Int) ≤ (c1 : Int) ∧ (c1 : Int) ≤ 3; omega
  · exact ⟨hr.1, hr.2.1⟩
  · show (0 : Int) ≤ ((D.row k).da.length : Int) ∧ ((D.row k).da.length : Int) ≤ 7; omega
theorem fsR_ok (h : OkE D) (hk : k < D.rows.length) {l : List Lin} (hl : l = ([(4, 1), (100, -1)], -1) :: fsE D.l) (f : Lin) (hf : f ∈ l) : 0 ≤ @Lin.val (vlE D k c1 c3 f1 f2) f := by
  subst hl
  rcases List.mem_cons.1 hf with rfl | hf
  · show (0 : Int) ≤ 1 * (D.rows.length : Int) + (-1 * (k : Int) + 0) + -1
    omega
  · exact fsE_ok h hf
theorem sl_ok (p : Nat × Lin) (hp : p ∈ [(1000, at1 1004)]) : (((vlE D k c1 c3 f1 f2).s p.1).length : Int) = @Lin.val (vlE D k c1 c3 f1 f2) p.2 := by
  simp only [List.mem_cons, List.not_mem_nil, or_false] at hp
  subst hp
  show (((D.row k).da.length : Nat) : Int) = 1 * ((D.row k).da.length : Int) + 0 + 0; omega
theorem cfE_ok (h : OkE D) (hk : k < D.rows.length) (h1 : c1 ≤ 3) (h3 : 1 ≤ c3 ∧ c3 ≤ 3) (hf1 : FOK f1) (hf2 : FOK f2) : @Cfg.OK (vlE D k c1 c3 f1 f2) (cfEw D.l (D.cl k)) := by
  refine cfgOK_of (bdE_ok h hk h1 h3 rfl) (fsR_ok h hk rfl) (vlE_rd h hf1 hf2) rfl sl_ok (fun p hp => ?_) (fun p hp => ?_)
  · simp only [cfEw, List.mem_cons, List.not_mem_nil, or_false] at hp
    subst hp
    exact rl0
  · simp only [cfEw, List.mem_cons, List.not_mem_nil, or_false] at hp
    subst hp
    exact rv0 h hk
theorem cfE_tell (h : OkE D) (hk : k < D.rows.length) (h1 : c1 ≤ 3) (h3 : 1 ≤ c3 ∧ c3 ≤ 3) (hf1 : FOK f1) (hf2 : FOK f2) : @Tell (vlE D k c1 c3 f1 f2) (cfEw D.l (D.cl k)) Tryz.prog := by
  refine @tellOf2 (vlE D k c1 c3 f1 f2) _ (cfE_ok h hk h1 h3 hf1 hf2) rfl rfl (fun f xs r hp => by cases hp) fun f xs Hs n r U m hp => ?_
  have hm := (h.is k hk).mem
  simp only [cfEw, List.mem_cons, List.not_mem_nil, or_false] at hp
  rcases hp with hp | hp
  · have := okCm_call (cfRw_ok (c1 := c1) (c3 := c3) h hk hf1 hf2) (cfRw_tell h hk hf1 hf2) (kA1 hm)
    rw [← hp] at this
    exact this
  · have := okCm_call (cfRw_ok (c1 := c1) (c3 := c3) h hk hf1 hf2) (cfRw_tell h hk hf1 hf2) (kA2 hm)
    rw [← hp] at this
    exact this
theorem cfE1_ok (h : OkE D) (hk : k < D.rows.length) (h1 : c1 ≤ 3) (h3 : 1 ≤ c3 ∧ c3 ≤ 3) (hf1 : FOK f1) (hf2 : FOK f2) (hl : f1.length = c3) (hn : isK (D.cl k).k 0 = false → f2 = f1 ++ [failP (D.cl k).k (lI k)]) : @Cfg.OK (vlE D k c1 c3 f1 f2) (cfE1 D.l (D.cl k)) := by
  have rl : ∀ p, p ∈ [(0, at1 4), (1, at1 103)] → (((vlE D k c1 c3 f1 f2).r p.1).length : Int) = @Lin.val (vlE D k c1 c3 f1 f2) p.2 := by
    intro p hp
    simp only [List.mem_cons, List.not_mem_nil, or_false] at hp
    rcases hp with rfl | rfl
    · exact rl0
    · show ((f1.length : Nat) : Int) = 1 * (c3 : Int) + 0 + 0; omega
  have rv : ∀ p : Nat × Lin × List AV, p ∈ [(0, at1 100, rowE (D.cl k))] → ∃ j : Nat, @Lin.val (vlE D k c1 c3 f1 f2) p.2.1 = (j : Int) ∧ ((vlE D k c1 c3 f1 f2).r p.1)[j]? = some (p.2.2.map (@denA (vlE D k c1 c3 f1 f2) 20)) := by
    intro p hp
    simp only [List.mem_cons, List.not_mem_nil, or_false] at hp
    subst hp
    exact rv0 h hk
  unfold cfE1
  cases h0 : isK (D.cl k).k 0 with
  | true => exact cfgOK_of (bdE_ok h hk h1 h3 rfl) (fsR_ok h hk rfl) (vlE_rd h hf1 hf2) rfl sl_ok rl rv
  | false =>
    refine cfgOK_of (bdE_ok h hk h1 h3 rfl) (fsR_ok h hk rfl) (vlE_rd h hf1 hf2) rfl sl_ok rl rv (rp := fun a' a rows hp => ?_)
    simp only [List.mem_cons, List.not_mem_nil, or_false, Prod.mk.injEq] at hp
    obtain ⟨rfl, rfl, rfl⟩ := hp
    show f2 = f1 ++ [(failN (D.cl k)).map (@denA (vlE D k c1 c3 f1 f2) 20)]
    rw [failN_den, hn h0]
theorem cfE1_tell (h : OkE D) (hk : k < D.rows.length) (h1 : c1 ≤ 3) (h3 : 1 ≤ c3 ∧ c3 ≤ 3) (hf1 : FOK f1) (hf2 : FOK f2) (hl : f1.length = c3) (hn : isK (D.cl k).k 0 = false → f2 = f1 ++ [failP (D.cl k).k (lI k)]) : @Tell (vlE D k c1 c3 f1 f2) (cfE1 D.l (D.cl k)) Tryz.prog := by
  have ok := cfE1_ok (c1 := c1) h hk h1 h3 hf1 hf2 hl hn
  have hc := okCm_call (cfRw_ok (c1 := c1) (c3 := c3) h hk hf1 hf2) (cfRw_tell h hk hf1 hf2) (kA3 (h.is k hk).mem)
  have hc5 := okCm_call (cfRw_ok (c1 := c1) (c3 := c3) h hk hf1 hf2) (cfRw_tell h hk hf1 hf2) (kA5 (h.is k hk).mem)
  unfold cfE1 at ok ⊢
  cases h0 : isK (D.cl k).k 0 with
  | true =>
    rw [h0] at ok
    refine @tellOf2 (vlE D k c1 c3 f1 f2) _ ok rfl rfl (fun f xs r hp => by cases hp) fun f xs Hs n r U m hp => ?_
    simp only [List.mem_cons, List.not_mem_nil, or_false] at hp
    rcases hp with hp | hp
    · rw [← hp] at hc
      exact hc
    · rw [← hp] at hc5
      exact hc5
  | false =>
    rw [h0] at ok
    refine @tellOf2 (vlE D k c1 c3 f1 f2) _ ok rfl rfl (fun f xs r hp => by cases hp) fun f xs Hs n r U m hp => ?_
    simp only [List.mem_cons, List.not_mem_nil, or_false] at hp
    rcases hp with hp | hp
    · rw [← hp] at hc
      exact hc
    · rw [← hp] at hc5
      exact hc5
theorem cfE2_ok (h : OkE D) (hk : k < D.rows.length) (h1 : c1 ≤ 3) (h3 : 1 ≤ c3 ∧ c3 ≤ 3) (hf1 : FOK f1) (hf2 : FOK f2) (hn : isK (D.cl k).k 0 = false → f2 = [failP (D.cl k).k (lI k)]) : @Cfg.OK (vlE D k c1 c3 f1 f2) (cfE2 D.l (D.cl k)) := by
  have rv : ∀ p : Nat × Lin × List AV, p ∈ [(0, at1 100, rowE (D.cl k))] → ∃ j : Nat, @Lin.val (vlE D k c1 c3 f1 f2) p.2.1 = (j : Int) ∧ ((vlE D k c1 c3 f1 f2).r p.1)[j]? = some (p.2.2.map (@denA (vlE D k c1 c3 f1 f2) 20)) := by
    intro p hp
    simp only [List.mem_cons, List.not_mem_nil, or_false] at hp
    subst hp
    exact rv0 h hk
  unfold cfE2
  cases h0 : isK (D.cl k).k 0 with
  | true =>
    refine cfgOK_of (bdE_ok h hk h1 h3 rfl) (fsR_ok h hk rfl) (vlE_rd h hf1 hf2) rfl sl_ok (fun p hp => ?_) rv
    simp only [cfEw, List.mem_cons, List.not_mem_nil, or_false] at hp
    subst hp
    exact rl0
  | false =>
    refine cfgOK_of (bdE_ok h hk h1 h3 rfl) (fsR_ok h hk rfl) (vlE_rd h hf1 hf2) rfl sl_ok (fun p hp => ?_) rv (rp := fun a' a rows hp => ?_)
    · simp only [List.mem_cons, List.not_mem_nil, or_false] at hp
      rcases hp with rfl | rfl | rfl
      · exact rl0
      · rfl
      · show ((f2.length : Nat) : Int) = 0 + 1
        rw [hn h0]; rfl
    · simp only [List.mem_cons, List.not_mem_nil, or_false, Prod.mk.injEq] at hp
      obtain ⟨rfl, rfl, rfl⟩ := hp
      show f2 = [] ++ [(failN (D.cl k)).map (@denA (vlE D k c1 c3 f1 f2) 20)]
      rw [failN_den, hn h0]; rfl
theorem cfE2_tell (h : OkE D) (hk : k < D.rows.length) (h1 : c1 ≤ 3) (h3 : 1 ≤ c3 ∧ c3 ≤ 3) (hf1 : FOK f1) (hf2 : FOK f2) (hn : isK (D.cl k).k 0 = false → f2 = [failP (D.cl k).k (lI k)]) : @Tell (vlE D k c1 c3 f1 f2) (cfE2 D.l (D.cl k)) Tryz.prog := by
  have ok := cfE2_ok (c1 := c1) (c3 := c3) h hk h1 h3 hf1 hf2 hn
  have hc := okCm_call (cfRw4_ok (c1 := c1) (c3 := c3) h hk hf1 hf2 hn) (cfRw4_tell h hk hf1 hf2 hn) (kA4 (h.is k hk).mem)
  unfold cfE2 at ok ⊢
  cases h0 : isK (D.cl k).k 0 with
  | true =>
    rw [h0] at ok
    refine @tellOf2 (vlE D k c1 c3 f1 f2) _ ok rfl rfl (fun f xs r hp => by cases hp) fun f xs Hs n r U m hp => ?_
    simp only [List.mem_cons, List.not_mem_nil, or_false] at hp
    rw [← hp] at hc
    exact hc
  | false =>
    rw [h0] at ok
    refine @tellOf2 (vlE D k c1 c3 f1 f2) _ ok rfl rfl (fun f xs r hp => by cases hp) fun f xs Hs n r U m hp => ?_
    simp only [List.mem_cons, List.not_mem_nil, or_false] at hp
    rw [← hp] at hc
    exact hc
/-- from one meaning to another -/
theorem vlE_chg {k' c1' c3' : Nat} {f1' f2' : List (List AV)} {is : List (Nat × Lin)} {rs ks : List (Nat × Nat)} (h100 : lk2 is 100 = none → k' = k) (h101 : lk2 is 101 = none → c1' = c1) (h103 : lk2 is 103 = none → c3' = c3) (h1 : lk2 rs 1 = none → f1' = f1)
    (hi : ∀ p, p ∈ is → (vlE D k' c1' c3' f1' f2').i p.1 = @Lin.val (vlE D k c1 c3 f1 f2) p.2) (hr : ∀ p, p ∈ rs → (vlE D k' c1' c3' f1' f2').r p.1 = (vlE D k c1 c3 f1 f2).r p.2) : SubOK (vlE D k c1 c3 f1 f2) (vlE D k' c1' c3' f1' f2') { i := is, r := rs, k := ks } := by
  refine subOK_of (fun a ha hn => ?_) hi (fun a ha hn => ?_) (fun p hp => by cases hp) rfl (fun a ha hn => ?_) hr (fun a ha => by cases ha) (fun p hp => by cases hp) rfl
  · show (if a = 100 then (k' : Int) else if a = 101 then (c1' : Int) else if a = 103 then (c3' : Int) else if a = 4 then _ else if a = 2 then _ else if a = 1 then _ else if a = 1001 then _ else if a = 1004 then _ else 0) =
      (if a = 100 then (k : Int) else if a = 101 then (c1 : Int) else if a = 103 then (c3 : Int) else if a = 4 then _ else if a = 2 then _ else if a = 1 then _ else if a = 1001 then _ else if a = 1004 then _ else 0)
    by_cases e1 : a = 100
    · subst e1; rw [if_pos rfl, if_pos rfl, h100 hn]
    · rw [if_neg e1, if_neg e1]
      by_cases e2 : a = 101
      · subst e2; rw [if_pos rfl, if_pos rfl, h101 hn]
      · rw [if_neg e2, if_neg e2]
        by_cases e3 : a = 103
        · subst e3; rw [if_pos rfl, if_pos rfl, h103 hn]
        · rw [if_neg e3, if_neg e3, if_neg (by omega : ¬ a = 1001), if_neg (by omega : ¬ a = 1004), if_neg (by omega : ¬ a = 1001), if_neg (by omega : ¬ a = 1004)]
  · show (if a = 0 then _ else if a = 1000 then _ else if a = 1002 then _ else if a = 1003 then _ else _) = (if a = 0 then _ else if a = 1000 then _ else if a = 1002 then _ else if a = 1003 then _ else _)
    rw [if_neg (by omega : ¬ a = 1000), if_neg (by omega : ¬ a = 1002), if_neg (by omega : ¬ a = 1003), if_neg (by omega : ¬ a = 1000), if_neg (by omega : ¬ a = 1002), if_neg (by omega : ¬ a = 1003)]
  · show (if a = 0 then _ else if a = 1 then f1' else if a = 1001 then f2' else if a = 3 then _ else _) = (if a = 0 then _ else if a = 1 then f1 else if a = 1001 then f2 else if a = 3 then _ else _)
    by_cases e1 : a = 0
    · rw [if_pos e1, if_pos e1]
    · rw [if_neg e1, if_neg e1]
      by_cases e2 : a = 1
      · subst e2; rw [if_pos rfl, if_pos rfl, h1 hn]
      · rw [if_neg e2, if_neg e2, if_neg (by omega : ¬ a = 1001), if_neg (by omega : ¬ a = 1001)]
end
end Go.Abs
end
section
open Go.Proofs
set_option maxRecDepth 100000
namespace Go.Abs
section
variable {D : InE}
abbrev vlEF (D : InE) : VL := vlE D D.rows.length D.tot D.tot D.fls []
theorem fls_len (D : InE) : D.fls.length = D.tot := flsE_len _ _ _
theorem cfx_ok (h : OkE D) {bd : List (Nat × Int × Int)} {fs : List Lin} (hbd : ∀ p, p ∈ bd → p ∈ (101, (1 : Int), (3 : Int)) :: (100, 0, 1200) :: bdE) (hfs : ∀ f, f ∈ fs → f ∈ ([(4, (1 : Int)), (100, -1)], (0 : Int)) :: ([(4, -1), (100, 1)], 0) :: fsE D.l) :
    @Cfg.OK (vlEF D) { cfE0 D.l with bd := bd, fs := fs } := by
  have ht := h.tot
  refine cfgOK_of (fun p hp => ?_) (fun f hf => ?_) (vlE_rd h (flsE_ok _ _ _) FOK.nil) rfl (fun p hp => by cases hp) (fun p hp => ?_) (fun p hp => by cases hp) (rp := fun a' a rows hp => ?_) (mm := fun a cs v hm => ?_)
  · have hp := hbd p hp
    have hn := h.hn
    have hml := most_le h
    have he := h.he
    simp only [bdE, List.mem_cons, List.not_mem_nil, or_false] at hp
    rcases hp with rfl | rfl | rfl | rfl | rfl | rfl
    · show (1 : Int) ≤ (D.tot : Int) ∧ (D.tot : Int) ≤ 3; omega
    · show (0 : Int) ≤ (D.rows.length : Int) ∧ (D.rows.length : Int) ≤ 1200; omega
    · show (1 : Int) ≤ (D.rows.length : Int) ∧ (D.rows.length : Int) ≤ 1200; omega
    · show (0 : Int) ≤ (D.most : Int) ∧ (D.most : Int) ≤ 1200; omega
    · exact he
    · show (1 : Int) ≤ (D.tot : Int) ∧ (D.tot : Int) ≤ 3; omega
  · rcases List.mem_cons.1 (hfs f hf) with rfl | hf
    · show (0 : Int) ≤ 1 * (D.rows.length : Int) + (-1 * (D.rows.length : Int) + 0) + 0; omega
    · rcases List.mem_cons.1 hf with rfl | hf
      · show (0 : Int) ≤ -1 * (D.rows.length : Int) + (1 * (D.rows.length : Int) + 0) + 0; omega
      · exact fsE_ok h hf
  · simp only [cfE0, List.mem_cons, List.not_mem_nil, or_false] at hp
    rcases hp with rfl | rfl | rfl | rfl
    · exact rl0
    · show ((D.fls.length : Nat) : Int) = 1 * (D.tot : Int) + 0 + 0
      rw [fls_len]; omega
    · rfl
    · rfl
  · have hp : (a', a, rows) ∈ (match D.l with | true => [(3, 2, [longF])] | false => []) := hp
    cases hl : D.l with
    | false => rw [hl] at hp; cases hp
    | true =>
      rw [hl] at hp
      simp only [List.mem_cons, List.not_mem_nil, or_false, Prod.mk.injEq] at hp
      obtain ⟨rfl, rfl, rfl⟩ := hp
      rfl
  · simp only [cfE0, List.mem_cons, List.not_mem_nil, or_false, Prod.mk.injEq] at hm
    rcases hm with ⟨rfl, rfl, rfl⟩ | ⟨rfl, rfl, rfl⟩
    · exact mm_root (mo := D.mo) (tot := D.tot) rfl (vlE_i101 19)
    · exact mm_root (mo := D.mo) (tot := D.tot) rfl (vlE_i101 19)
theorem vvE_FOK (h : OkE D) : ∀ fs, fs ∈ D.rows.map RowD.fs → FOK fs := by
  intro fs hfs
  obtain ⟨r, hr, rfl⟩ := List.mem_map.1 hfs
  obtain ⟨i, hi, rfl⟩ := List.mem_iff_getElem.1 hr
  have hs : D.row i = D.rows[i] := by
    unfold InE.row
    rw [List.getD_eq_getElem?_getD, List.getElem?_eq_getElem hi]; rfl
  have := (h.rk i hi).sh
  rw [hs] at this
  exact fs_ok this
theorem cfx_tell (h : OkE D) {bd : List (Nat × Int × Int)} {fs : List Lin} (hbd : ∀ p, p ∈ bd → p ∈ (101, (1 : Int), (3 : Int)) :: (100, 0, 1200) :: bdE) (hfs : ∀ f, f ∈ fs → f ∈ ([(4, (1 : Int)), (100, -1)], (0 : Int)) :: ([(4, -1), (100, 1)], 0) :: fsE D.l) :
    @Tell (vlEF D) { cfE0 D.l with bd := bd, fs := fs } Tryz.prog := by
  refine @tellOf (vlEF D) _ (cfx_ok h hbd hfs) rfl rfl fun f xs r hp => ?_
  simp only [cfE0, List.mem_cons, List.not_mem_nil, or_false, Prod.mk.injEq] at hp
  obtain ⟨rfl, rfl, rfl⟩ := hp
  refine @CS.call (vlEF D) _ _ _ _ _ _ _ h.val Tryz.func12 (names1 _ _ Tryz.func12) rfl ?_ (two_pure (scK_pure _ _ _) (vvK_pure (vvE_FOK h))) rfl (pureB_ok (n := 20) rfl)
  show [@denA (vlEF D) 20 scN, @denA (vlEF D) 20 vN] = _
  rw [vlE_sc, vlE_v]
theorem cnt_le (h : OkE D) {k : Nat} (hk : k ≤ D.rows.length) : cntE D.l D.cl k ≤ 3 := Nat.le_trans (cntE_mono _ _ hk) h.tot.2
theorem lp93 (h : OkE D) : LpOK (vlEF D) Tryz.prog (L93 D.l) := by
  have c0 : ∀ l, ((cntE l D.cl 0 : Nat) : Int) = (0 : Int) + (match l with | true => 1 | false => 0) := by intro l; cases l <;> rfl
  have cS : ∀ k, ((cntE D.l D.cl (k + 1) : Nat) : Int) = 1 * (cntE D.l D.cl k : Int) + 0 + (match isK (D.cl k).k 0 with | true => 0 | false => 1) := by
    intro k
    simp only [cntE]
    cases isK (D.cl k).k 0 <;> simp
  refine ⟨⟨D.rows.length, fun k => vlE D k (cntE D.l D.cl k) D.tot D.fls [], fun _ => 0, rfl, rfl, rfl, ?_, fun k hk => ?_⟩, cfx_ok h (fun p hp => hp) (fun f hf => hf), cfx_tell h (fun p hp => hp) (fun f hf => hf)⟩
  · refine vlE_chg (fun hn => by simp [lk2] at hn) (fun hn => by simp [lk2] at hn) (fun _ => rfl) (fun _ => rfl) (fun p hp => ?_) (fun p hp => by cases hp)
    simp only [List.mem_cons, List.not_mem_nil, or_false] at hp
    rcases hp with rfl | rfl
    · rfl
    · exact c0 D.l
  · refine ⟨_, List.mem_map.2 ⟨D.cl k, (h.is k hk).mem, rfl⟩, rfl, rfl, cfE_ok h hk (cnt_le h (Nat.le_of_lt hk)) h.tot (flsE_ok _ _ _) FOK.nil, cfE_tell h hk (cnt_le h (Nat.le_of_lt hk)) h.tot (flsE_ok _ _ _) FOK.nil, ?_⟩
    refine vlE_chg (fun hn => by simp [lk2] at hn) (fun hn => by simp [lk2] at hn) (fun _ => rfl) (fun _ => rfl) (fun p hp => ?_) (fun p hp => by cases hp)
    simp only [List.mem_cons, List.not_mem_nil, or_false] at hp
    rcases hp with rfl | rfl
    · show ((k + 1 : Nat) : Int) = 1 * (k : Int) + 0 + 1
      push_cast; omega
    · exact cS k
/-- the list so far, and its length, as the second loop has them -/
def c3E (D : InE) (k : Nat) : Nat := if cntE D.l D.cl k = 0 then D.tot else cntE D.l D.cl k
def f1E (D : InE) (k : Nat) : List (List AV) := if cntE D.l D.cl k = 0 then D.fls else flsE D.l D.cl k
def f2E (D : InE) (k : Nat) : List (List AV) := if k < D.rows.length then flsE D.l D.cl k ++ [failP (D.cl k).k (lI k)] else []
theorem f1E_ok (k : Nat) : FOK (f1E D k) := by
  unfold f1E
  split
  · exact flsE_ok _ _ _
  · exact flsE_ok _ _ _
theorem f2E_ok (k : Nat) : FOK (f2E D k) := by
  unfold f2E
  split
  · exact FOK.app (flsE_ok _ _ _) (FOK.one (failP_ok _ _))
  · exact FOK.nil
theorem c3E_le (h : OkE D) {k : Nat} (hk : k ≤ D.rows.length) : 1 ≤ c3E D k ∧ c3E D k ≤ 3 := by
  have h1 := h.tot
  have h2 := cnt_le h hk
  unfold c3E
  split <;> omega
theorem lp25 (h : OkE D) : LpOK (vlEF D) Tryz.prog (L25 D.l) := by
  have ht := h.tot
  have hK : cntE D.l D.cl D.rows.length = D.tot := rfl
  have c0t : D.l = true → cntE D.l D.cl 0 = 1 := fun e => by rw [e]; rfl
  have c0f : D.l = false → cntE D.l D.cl 0 = 0 := fun e => by rw [e]; rfl
  have g1 : ∀ k, isK (D.cl k).k 0 = true → cntE D.l D.cl (k + 1) = cntE D.l D.cl k ∧ flsE D.l D.cl (k + 1) = flsE D.l D.cl k := by
    intro k e
    simp only [cntE, flsE, e]
    simp
  have g2 : ∀ k, isK (D.cl k).k 0 = false → cntE D.l D.cl (k + 1) = cntE D.l D.cl k + 1 ∧ flsE D.l D.cl (k + 1) = flsE D.l D.cl k ++ [failP (D.cl k).k (lI k)] := by
    intro k e
    simp only [cntE, flsE, e]
    simp
  have f0 : ∀ k, cntE D.l D.cl k = 0 → flsE D.l D.cl k = [] := fun k e => List.length_eq_zero_iff.1 (by rw [flsE_len]; exact e)
  refine ⟨⟨D.rows.length, fun k => vlE D k D.tot (c3E D k) (f1E D k) (f2E D k), fun k => if cntE D.l D.cl k = 0 then 0 else 1, ?_, ?_, ?_, ?_, fun k hk => ?_⟩, cfx_ok h (fun p hp => hp) (fun f hf => hf), cfx_tell h (fun p hp => hp) (fun f hf => hf)⟩
  · have e1 : c3E D D.rows.length = D.tot := by unfold c3E; rw [hK, if_neg (by omega)]
    have e2 : f1E D D.rows.length = D.fls := by unfold f1E; rw [hK, if_neg (by omega)]; rfl
    have e3 : f2E D D.rows.length = [] := by unfold f2E; rw [if_neg (by omega)]
    show vlE D D.rows.length D.tot (c3E D D.rows.length) (f1E D D.rows.length) (f2E D D.rows.length) = _
    rw [e1, e2, e3]
  · show (if cntE D.l D.cl 0 = 0 then 0 else 1) = (match D.l with | true => 1 | false => 0)
    cases hl : D.l with
    | true => have := c0t hl; rw [hl] at this; rw [this]; rfl
    | false => have := c0f hl; rw [hl] at this; rw [this]; rfl
  · show (if cntE D.l D.cl D.rows.length = 0 then 0 else 1) = 1
    rw [hK, if_neg (by omega)]
  · show SubOK _ _ (match D.l with | true => { i := [(100, ([], 0)), (103, ([], 1))], r := [(1, 3)], k := [(20000, 10010)] } | false => { i := [(100, ([], 0))] })
    cases hl : D.l with
    | true =>
      have e0 := c0t hl
      have e1 : c3E D 0 = 1 := by unfold c3E; rw [e0, if_neg (by omega)]
      have e2 : f1E D 0 = [longF] := by unfold f1E; rw [e0, if_neg (by omega), hl]; rfl
      refine vlE_chg (fun hn => by simp [lk2] at hn) (fun _ => rfl) (fun hn => by simp [lk2] at hn) (fun hn => by simp [lk2] at hn) (fun p hp => ?_) (fun p hp => ?_)
      · simp only [List.mem_cons, List.not_mem_nil, or_false] at hp
        rcases hp with rfl | rfl
        · rfl
        · show ((c3E D 0 : Nat) : Int) = 0 + 1
          rw [e1]; rfl
      · simp only [List.mem_cons, List.not_mem_nil, or_false] at hp
        subst hp
        show f1E D 0 = [longF]
        exact e2
    | false =>
      have e0 := c0f hl
      have e1 : c3E D 0 = D.tot := by unfold c3E; rw [e0, if_pos rfl]
      have e2 : f1E D 0 = D.fls := by unfold f1E; rw [e0, if_pos rfl]
      refine vlE_chg (fun hn => by simp [lk2] at hn) (fun _ => rfl) (fun _ => e1) (fun _ => e2) (fun p hp => ?_) (fun p hp => by cases hp)
      simp only [List.mem_cons, List.not_mem_nil, or_false] at hp
      subst hp
      rfl
  · have hi := h.is k hk
    have hk1 := cnt_le h (Nat.le_of_lt hk)
    have hb := c3E_le h (Nat.le_of_lt hk)
    have f2k : f2E D k = flsE D.l D.cl k ++ [failP (D.cl k).k (lI k)] := by unfold f2E; rw [if_pos hk]
    have i100 : ∀ c1 c3 c1' c3' f1 f2 f1' f2', (vlE D (k + 1) c1' c3' f1' f2').i 100 = @Lin.val (vlE D k c1 c3 f1 f2) ([(100, 1)], 1) := by
      intro c1 c3 c1' c3' f1 f2 f1' f2'
      show ((k + 1 : Nat) : Int) = 1 * (k : Int) + 0 + 1
      push_cast; omega
    by_cases h0 : cntE D.l D.cl k = 0
    · have e3 : c3E D k = D.tot := by unfold c3E; rw [if_pos h0]
      have e1 : f1E D k = D.fls := by unfold f1E; rw [if_pos h0]
      have en : f2E D k = [failP (D.cl k).k (lI k)] := by rw [f2k, f0 k h0]; rfl
      have hlf : D.l = false := by
        cases hl : D.l with
        | false => rfl
        | true => have := cntE_mono D.l D.cl (Nat.zero_le k); have := c0t hl; omega
      have mem : cas0 D.l (D.cl k) ∈ (L25 D.l).cs := List.mem_flatMap.2 ⟨D.cl k, hi.mem, by rw [hlf]; simp⟩
      have ok := cfE2_ok (c1 := D.tot) (c3 := c3E D k) h hk ht.2 hb (f1E_ok (D := D) k) (f2E_ok (D := D) k) fun _ => en
      have tl := cfE2_tell (c1 := D.tot) (c3 := c3E D k) h hk ht.2 hb (f1E_ok (D := D) k) (f2E_ok (D := D) k) fun _ => en
      cases hz : isK (D.cl k).k 0 with
      | true =>
        obtain ⟨gc, gf⟩ := g1 k hz
        have e : cas0 D.l (D.cl k) = { frm := 0, to := 0, cf := cfE2 D.l (D.cl k), sb := { i := [(100, ([(100, 1)], 1))] } } := by unfold cas0; rw [hz]
        rw [e] at mem
        refine ⟨_, mem, ?_, ?_, ok, tl, ?_⟩
        · show 0 = (if cntE D.l D.cl k = 0 then 0 else 1); rw [if_pos h0]
        · show 0 = (if cntE D.l D.cl (k + 1) = 0 then 0 else 1); rw [gc, if_pos h0]
        · refine vlE_chg (fun hn => by simp [lk2] at hn) (fun _ => rfl) (fun _ => ?_) (fun _ => ?_) (fun p hp => ?_) (fun p hp => by cases hp)
          · rw [e3]; unfold c3E; rw [gc, if_pos h0]
          · rw [e1]; unfold f1E; rw [gc, if_pos h0]
          · simp only [List.mem_cons, List.not_mem_nil, or_false] at hp
            subst hp
            exact i100 _ _ _ _ _ _ _ _
      | false =>
        obtain ⟨gc, gf⟩ := g2 k hz
        have e : cas0 D.l (D.cl k) = { frm := 0, to := 1, cf := cfE2 D.l (D.cl k), sb := { i := [(100, ([(100, 1)], 1)), (103, ([], 1))], r := [(1, 1001)], k := [(20000, 10010)] } } := by unfold cas0; rw [hz]
        rw [e] at mem
        refine ⟨_, mem, ?_, ?_, ok, tl, ?_⟩
        · show 0 = (if cntE D.l D.cl k = 0 then 0 else 1); rw [if_pos h0]
        · show 1 = (if cntE D.l D.cl (k + 1) = 0 then 0 else 1); rw [gc, if_neg (by omega)]
        · refine vlE_chg (fun hn => by simp [lk2] at hn) (fun _ => rfl) (fun hn => by simp [lk2] at hn) (fun hn => by simp [lk2] at hn) (fun p hp => ?_) (fun p hp => ?_)
          · simp only [List.mem_cons, List.not_mem_nil, or_false] at hp
            rcases hp with rfl | rfl
            · exact i100 _ _ _ _ _ _ _ _
            · show ((c3E D (k + 1) : Nat) : Int) = 0 + 1
              unfold c3E; rw [gc, if_neg (by omega), h0]; rfl
          · simp only [List.mem_cons, List.not_mem_nil, or_false] at hp
            subst hp
            show f1E D (k + 1) = f2E D k
            unfold f1E; rw [gc, if_neg (by omega), gf, f2k]
    · have e3 : c3E D k = cntE D.l D.cl k := by unfold c3E; rw [if_neg h0]
      have e1 : f1E D k = flsE D.l D.cl k := by unfold f1E; rw [if_neg h0]
      have en : f2E D k = f1E D k ++ [failP (D.cl k).k (lI k)] := by rw [f2k, e1]
      have hl : (f1E D k).length = c3E D k := by rw [e1, e3, flsE_len]
      have mem : cas11 D.l (D.cl k) ∈ (L25 D.l).cs := List.mem_flatMap.2 ⟨D.cl k, hi.mem, by cases D.l <;> simp⟩
      have ok := cfE1_ok (c1 := D.tot) (c3 := c3E D k) h hk ht.2 hb (f1E_ok (D := D) k) (f2E_ok (D := D) k) hl fun _ => en
      have tl := cfE1_tell (c1 := D.tot) (c3 := c3E D k) h hk ht.2 hb (f1E_ok (D := D) k) (f2E_ok (D := D) k) hl fun _ => en
      refine ⟨_, mem, ?_, ?_, ok, tl, ?_⟩
      · show 1 = (if cntE D.l D.cl k = 0 then 0 else 1); rw [if_neg h0]
      · show 1 = (if cntE D.l D.cl (k + 1) = 0 then 0 else 1)
        cases hz : isK (D.cl k).k 0 with
        | true => rw [(g1 k hz).1, if_neg h0]
        | false => rw [(g2 k hz).1, if_neg (by omega)]
      · show SubOK _ _ (cas11 D.l (D.cl k)).sb
        unfold cas11
        cases hz : isK (D.cl k).k 0 with
        | true =>
          obtain ⟨gc, gf⟩ := g1 k hz
          refine vlE_chg (fun hn => by simp [lk2] at hn) (fun _ => rfl) (fun hn => by simp [lk2] at hn) (fun _ => ?_) (fun p hp => ?_) (fun p hp => by cases hp)
          · rw [e1]; unfold f1E; rw [gc, if_neg h0, gf]
          · simp only [List.mem_cons, List.not_mem_nil, or_false] at hp
            rcases hp with rfl | rfl
            · exact i100 _ _ _ _ _ _ _ _
            · show ((c3E D (k + 1) : Nat) : Int) = 1 * (c3E D k : Int) + 0 + 0
              rw [e3]; unfold c3E; rw [gc, if_neg h0]; omega
        | false =>
          obtain ⟨gc, gf⟩ := g2 k hz
          refine vlE_chg (fun hn => by simp [lk2] at hn) (fun _ => rfl) (fun hn => by simp [lk2] at hn) (fun hn => by simp [lk2] at hn) (fun p hp => ?_) (fun p hp => ?_)
          · simp only [List.mem_cons, List.not_mem_nil, or_false] at hp
            rcases hp with rfl | rfl
            · exact i100 _ _ _ _ _ _ _ _
            · show ((c3E D (k + 1) : Nat) : Int) = 1 * (c3E D k : Int) + 0 + 1
              rw [e3]; unfold c3E; rw [gc, if_neg (by omega)]; push_cast; omega
          · simp only [List.mem_cons, List.not_mem_nil, or_false] at hp
            subst hp
            show f1E D (k + 1) = f2E D k
            unfold f1E; rw [gc, if_neg (by omega), gf, f2k]
theorem explain_cs (h : OkE D) : CS Tryz.prog 9 [scK D.db D.e D.most, vvK (D.rows.map RowD.fs)] (.tup [.ro 3 D.fls, lI 0]) := by
  have hbd : ∀ p, p ∈ (101, (1 : Int), (3 : Int)) :: bdE → p ∈ (101, (1 : Int), (3 : Int)) :: (100, 0, 1200) :: bdE := fun p hp => by
    rcases List.mem_cons.1 hp with rfl | hp
    · exact List.mem_cons_self
    · exact List.mem_cons_of_mem _ (List.mem_cons_of_mem _ hp)
  have hfs : ∀ f, f ∈ fsE D.l → f ∈ ([(4, (1 : Int)), (100, -1)], (0 : Int)) :: ([(4, -1), (100, 1)], 0) :: fsE D.l := fun f hf => List.mem_cons_of_mem _ (List.mem_cons_of_mem _ hf)
  have hk : runE D.l = true := by cases D.l; exact kE_f; exact kE_t
  refine @cs_of (vlEF D) (cfE0 D.l) [L93 D.l, L25 D.l] (cfx_ok h hbd hfs) (cfx_tell h hbd hfs) (fun lp hlp => ?_) 100 9 _ _ hk _ _ ?_ rfl (two_pure (scK_pure _ _ _) (vvK_pure (vvE_FOK h))) ?_
  · simp only [List.mem_cons, List.not_mem_nil, or_false] at hlp
    rcases hlp with rfl | rfl
    · exact lp93 h
    · exact lp25 h
  · show [@denA (vlEF D) 20 scN, @denA (vlEF D) 20 vN] = _
    rw [vlE_sc, vlE_v]
  · refine .tup fun x hx => ?_
    simp only [List.mem_cons, List.not_mem_nil, or_false] at hx
    rcases hx with rfl | rfl
    · exact .ro fun r hr y hy => (flsE_ok _ _ _ r hr y hy).2
    · exact .lit
end
end Go.Abs
end
section
open Go.Proofs
set_option maxRecDepth 100000
namespace Go.Abs
def cfE9 : Cfg := { cfg0 with ct := [(12, [scN, vN], .tup [lB true, lI 0])] }
theorem kE9 : okTop (topF cfE9 [] Tryz.prog 100 9 [scN, vN]) (.tup [nilS, lI 0]) = true := by kernel_rfl
theorem explain_good {n most : Nat} {db : List UInt8} {e : Int} {fss : List (List (List AV))} (hF : ∀ fs, fs ∈ fss → FOK fs) (hv : CS Tryz.prog 12 [scK db e most, vvK fss] (.tup [lB true, lI 0])) :
    CS Tryz.prog 9 [scK db e most, vvK fss] (.tup [nilS, lI 0]) := by
  have ok : @Cfg.OK (vlC 0 most db e fss 0) cfE9 := cfgOK_of (fun p hp => by cases hp) (fun f hf => by cases hf) (vlC_rd hF 0) rfl (fun p hp => by cases hp) (fun p hp => by cases hp) (fun p hp => by cases hp)
  have p2 := two_pure (scK_pure db e most) (vvK_pure hF)
  have d2 : [scN, vN].map (@denA (vlC 0 most db e fss 0) 20) = [scK db e most, vvK fss] := by
    show [@denA (vlC 0 most db e fss 0) 20 scN, @denA (vlC 0 most db e fss 0) 20 vN] = _
    rw [scN_den, vN_den]
  have tell := @tellOf (vlC 0 most db e fss 0) _ ok rfl rfl fun f xs r hp => by
    simp only [cfE9, List.mem_cons, List.not_mem_nil, or_false, Prod.mk.injEq] at hp
    obtain ⟨rfl, rfl, rfl⟩ := hp
    exact @CS.call (vlC 0 most db e fss 0) _ _ _ _ _ _ _ hv Tryz.func12 (names1 _ _ Tryz.func12) rfl d2 p2 rfl (pureB_ok (n := 20) rfl)
  exact @cs_of (vlC 0 most db e fss 0) _ [] ok tell (by simp) 100 9 _ _ kE9 _ _ d2 rfl p2 (pureB_ok (n := 20) rfl)
end Go.Abs
end
section
open Go.Proofs
set_option maxRecDepth 100000
namespace Go.Abs
def kq (kd : Nat) : Nat := match kd with
  | 2 => 1
  | k => k
def idxE (par kd : Nat) : Nat := match kd, par with
  | 0, 0 => 3
  | 0, _ => 0
  | 1, 0 => 4
  | 1, _ => 1
  | 2, 0 => 4
  | 2, _ => 1
  | 3, 0 => 5
  | 3, _ => 2
  | 4, 0 => 8
  | 4, _ => 7
  | 5, 0 => 10
  | 5, _ => 9
  | 6, _ => 11
  | _, _ => 6
def clA (par kd : Nat) : ClE := clsE.getD (idxE par kd) ⟨(true, false, 0), 0, (19, 0, 0, 19)⟩
theorem kd_cases {kd : Nat} (h : kd ≤ 7) : kd = 0 ∨ kd = 1 ∨ kd = 2 ∨ kd = 3 ∨ kd = 4 ∨ kd = 5 ∨ kd = 6 ∨ kd = 7 := by omega
theorem clA_ok {par kd : Nat} (hp : par < 2) (hk : kd ≤ 7) : clA par kd ∈ clsE ∧ (clA par kd).sh = (!(isK kd 4), isK kd 5, cntG par kd) ∧ (clA par kd).k = kq kd := by
  have hp : par = 0 ∨ par = 1 := by omega
  rcases hp with rfl | rfl <;> rcases kd_cases hk with rfl | rfl | rfl | rfl | rfl | rfl | rfl | rfl <;> exact ⟨by simp [clA, clsE, idxE], rfl, rfl⟩
section
variable {mu ad mo i kd : Nat}
theorem five_z (x : Nat) (hx : x % 10 = 5) (h : x < 1000000) : (shq x).2 = 0 ∧ 1 ≤ (shq x).1 := by
  have s := shq_ok h
  have hz : (shq x).2 = 0 := by
    rcases Nat.eq_zero_or_pos (shq x).2 with e | e
    · exact e
    · have := s.z0 0 e
      unfold dgt at this
      simp at this
      omega
  refine ⟨hz, ?_⟩
  rcases Nat.eq_zero_or_pos (shq x).1 with e | e
  · have := s.lt; rw [e] at this; simp at this; omega
  · exact e
theorem mo_k5 {mo : Nat} (h : mo ≤ 65535) : (shq mo).1 ≤ 5 := by
  have s := shq_ok (x := mo) (by omega)
  have := s.k6
  rcases Nat.lt_or_ge (shq mo).1 6 with e | e
  · omega
  · have := s.kk 5 (by omega)
    unfold dgt at this
    simp at this
    omega
theorem half_eq (x : Nat) (hx : x % 10 = 5) (h : x < 1000000) : decL (dgs x) (exq x - 1) = decK x (shq x).1 0 (-1) := by
  obtain ⟨h1, h2⟩ := five_z x hx h
  unfold dgs exq
  rw [h1]
  unfold decL decK expK
  cases e : Nat.beq (shq x).1 0 with
  | true => have := Nat.eq_of_beq_eq_true e; omega
  | false => rfl
theorem half_ea (x : Nat) (hx : x % 10 = 5) (h : x < 1000000) : exq x - 1 = -1 := by
  obtain ⟨h1, h2⟩ := five_z x hx h
  unfold exq expK
  rw [h1]
  cases e : Nat.beq (shq x).1 0 with
  | true => rfl
  | false => rfl
theorem set_eq (mo : Nat) : setB2 (dgs mo) (exq mo) = setK mo (shq mo).1 (shq mo).2 := by rw [setK_eq]; rfl
/-- is its number one that is allowed -/
theorem rowA_has (h : RuleOK mu ad mo i) (hk : kd ≤ 7) : CS Tryz.prog 103 [setB2 (dgs mo) (exq mo), decL (rowA mu ad mo i kd).da (rowA mu ad mo i kd).ea] (lB (!(isK (kq kd) 1))) := by
  obtain ⟨l1, l2, l3⟩ := at_le6 h
  have hm := h.mo
  have sy := shq_ok (x := mo) (by omega)
  have h5 := mo_k5 hm
  rw [set_eq]
  have g : CS Tryz.prog 103 [setK mo (shq mo).1 (shq mo).2, decL (dgs (atK mu ad mo i)) (exq (atK mu ad mo i))] (lB true) := has_good (shq_ok l1) sy h5 (atK_le h)
  rcases kd_cases hk with rfl | rfl | rfl | rfl | rfl | rfl | rfl | rfl
  · exact g
  · exact has_big (shq_ok l2) sy h5 (by omega)
  · show CS Tryz.prog 103 [_, decL (dgs (10 * atK mu ad mo i + 5)) (exq (10 * atK mu ad mo i + 5) - 1)] (lB false)
    have hx : (10 * atK mu ad mo i + 5) % 10 = 5 := by omega
    rw [half_eq _ hx l3]
    have s := shq_ok l3
    rw [(five_z _ hx l3).1] at s
    exact has_half s hx sy h5
  · exact g
  · exact g
  · exact g
  · exact g
  · exact g
theorem rowA_is (h : RuleOK mu ad mo i) (hk : kd ≤ 7) : IsE mo (rowA mu ad mo i kd) (clA (atK mu ad mo i % 2) kd) := by
  obtain ⟨l1, l2, l3⟩ := at_le6 h
  obtain ⟨c1, c2, c3⟩ := clA_ok (par := atK mu ad mo i % 2) (by omega) hk
  have hc : (UInt8.ofNat 120 = chA mu ad mo i ∨ UInt8.ofNat 121 = chA mu ad mo i ∨ UInt8.ofNat 122 = chA mu ad mo i) := by
    unfold chA
    have : (atK mu ad mo i + i) % 3 = 0 ∨ (atK mu ad mo i + i) % 3 = 1 ∨ (atK mu ad mo i + i) % 3 = 2 := by omega
    rcases this with e | e | e <;> rw [e] <;> simp
  have ht : ∃ l, l ∈ tagL ∧ [chA mu ad mo i] = [UInt8.ofNat l] := by
    rcases hc with e | e | e
    · exact ⟨120, by simp [tagL], by rw [e]⟩
    · exact ⟨121, by simp [tagL], by rw [e]⟩
    · exact ⟨122, by simp [tagL], by rw [e]⟩
  have gn : goodN mo (dgs (atK mu ad mo i)) (exq (atK mu ad mo i)) := good_dgs l1 (atK_le h)
  have gb : List.replicate (atK mu ad mo i % 3 + 1) (chA mu ad mo i) ≠ [] := by simp
  refine ⟨c1, c2.symm ▸ rfl, ?_, ?_, ?_⟩
  all_goals rw [c3]
  all_goals rcases kd_cases hk with rfl | rfl | rfl | rfl | rfl | rfl | rfl | rfl
  all_goals first
    | exact gn
    | exact gb
    | exact ht
    | exact goodN_big (shq_ok l2) (by omega)
    | rfl
    | skip
  show ¬ goodN mo (dgs (10 * atK mu ad mo i + 5)) (exq (10 * atK mu ad mo i + 5) - 1)
  rw [half_ea _ (by omega) l3]
  exact goodN_half
theorem rowA_b (mu ad mo i kd : Nat) (hk : kd ≤ 7) : ∃ m, (rowA mu ad mo i kd).b = List.replicate m (chA mu ad mo i) ∧ loG (!(isK (kq kd) 3)) ≤ (m : Int) ∧ (m : Int) ≤ hiG (!(isK (kq kd) 3)) ∧ m ≤ 3 := by
  have h3 : loG true ≤ ((atK mu ad mo i % 3 + 1 : Nat) : Int) ∧ ((atK mu ad mo i % 3 + 1 : Nat) : Int) ≤ hiG true ∧ atK mu ad mo i % 3 + 1 ≤ 3 := by
    unfold loG hiG
    simp only
    omega
  rcases kd_cases hk with rfl | rfl | rfl | rfl | rfl | rfl | rfl | rfl
  · exact ⟨_, rfl, h3⟩
  · exact ⟨_, rfl, h3⟩
  · exact ⟨_, rfl, h3⟩
  · exact ⟨0, rfl, by decide⟩
  · exact ⟨_, rfl, h3⟩
  · exact ⟨_, rfl, h3⟩
  · exact ⟨_, rfl, h3⟩
  · exact ⟨_, rfl, h3⟩
theorem chA_le (mu ad mo i : Nat) : 113 ≤ (chA mu ad mo i).toNat ∧ (chA mu ad mo i).toNat ≤ 122 := by
  rw [chA_nat]; omega
theorem rowA_tl (mu ad mo i kd : Nat) (hk : kd ≤ 7) : ∃ l : Nat × Bool, l ∈ lets ∧ (rowA mu ad mo i kd).t = [UInt8.ofNat l.1] ∧ l.2 = !(isK (kq kd) 7) := by
  have hc : ∃ l : Nat × Bool, l ∈ lets ∧ [chA mu ad mo i] = [UInt8.ofNat l.1] ∧ l.2 = true := by
    unfold chA
    have : (atK mu ad mo i + i) % 3 = 0 ∨ (atK mu ad mo i + i) % 3 = 1 ∨ (atK mu ad mo i + i) % 3 = 2 := by omega
    rcases this with e | e | e <;> rw [e]
    · exact ⟨(120, true), by simp [lets], rfl, rfl⟩
    · exact ⟨(121, true), by simp [lets], rfl, rfl⟩
    · exact ⟨(122, true), by simp [lets], rfl, rfl⟩
  rcases kd_cases hk with rfl | rfl | rfl | rfl | rfl | rfl | rfl | rfl
  all_goals first
    | exact hc
    | exact ⟨(113, false), by simp [lets], rfl, rfl⟩
theorem rowA_ok (h : RuleOK mu ad mo i) (hk : kd ≤ 7) : RowOK (rowA mu ad mo i kd) := by
  obtain ⟨l1, l2, l3⟩ := at_le6 h
  obtain ⟨m, hb, -, -, hm3⟩ := rowA_b mu ad mo i kd hk
  have hx : (10 * atK mu ad mo i + 5) % 10 = 5 := by omega
  refine ⟨rowA_sh hk, ?_, ?_, ?_, ?_, ?_, ?_, ?_⟩
  · have e1 := exq_le l1
    have e2 := exq_le l2
    have e3 := exq_le l3
    rcases kd_cases hk with rfl | rfl | rfl | rfl | rfl | rfl | rfl | rfl <;> simp only [rowA] <;> omega
  · have e1 := dgs_len l1
    have e2 := dgs_len l2
    have e3 := dgs_len l3
    rcases kd_cases hk with rfl | rfl | rfl | rfl | rfl | rfl | rfl | rfl <;> simp only [rowA] <;> omega
  · rw [hb, List.length_replicate]; exact hm3
  · rcases kd_cases hk with rfl | rfl | rfl | rfl | rfl | rfl | rfl | rfl <;> rfl
  · have v : CS Tryz.prog 158 [decL (dgs (atK mu ad mo i)) (exq (atK mu ad mo i))] (lB true) := valid_cs (shq_ok l1)
    rcases kd_cases hk with rfl | rfl | rfl | rfl | rfl | rfl | rfl | rfl
    · exact v
    · exact valid_cs (shq_ok l2)
    · show CS Tryz.prog 158 [decL (dgs (10 * atK mu ad mo i + 5)) (exq (10 * atK mu ad mo i + 5) - 1)] (lB true)
      rw [half_eq _ hx l3]
      have s := shq_ok l3
      have h0 := five_z _ hx l3
      rw [h0.1] at s
      exact valid2_cs s h0.2
    · exact v
    · exact v
    · exact v
    · exact v
    · exact v
  · rw [hb]; exact textValid_cs (chA_le mu ad mo i) hm3
  · have ht := textValid_cs (chA_le mu ad mo i) (m := 1) (by omega)
    rcases kd_cases hk with rfl | rfl | rfl | rfl | rfl | rfl | rfl | rfl
    all_goals first
      | exact ht
      | exact textValid_cs (c := 113) (by decide) (m := 1) (by omega)
def idxP (par kd l : Nat) : Nat := match kd, par with
  | 0, 0 => 1 + l
  | 0, _ => 0
  | 1, 0 => 5
  | 1, _ => 4
  | 2, 0 => 5
  | 2, _ => 4
  | 3, 0 => 7
  | 3, _ => 6
  | 4, 0 => 9
  | 4, _ => 8
  | 5, 0 => 11
  | 5, _ => 10
  | 6, _ => 12
  | _, _ => 13
def clPq (par kd l : Nat) : ClP := clsP.getD (idxP par kd l) ⟨(true, false, 0), none, true, true, true⟩
theorem clPq_ok {par kd l : Nat} (hp : par < 2) (hl : l < 3) (hk : kd ≤ 7) : clPq par kd l ∈ clsP ∧ (clPq par kd l).sh = (!(isK kd 4), isK kd 5, cntG par kd) ∧ (∀ t, (clPq par kd l).t = some t → t = match kd with | 7 => 113 | _ => l + 120) ∧
    (clPq par kd l).ga = !(isK (kq kd) 1) ∧ (clPq par kd l).gb = !(isK (kq kd) 3) ∧ (clPq par kd l).good = isK (kq kd) 0 := by
  have hp : par = 0 ∨ par = 1 := by omega
  have hl : l = 0 ∨ l = 1 ∨ l = 2 := by omega
  rcases hp with rfl | rfl <;> rcases hl with rfl | rfl | rfl <;> rcases kd_cases hk with rfl | rfl | rfl | rfl | rfl | rfl | rfl | rfl <;>
    exact ⟨by simp [clPq, clsP, idxP], rfl, fun t e => (by cases e <;> rfl), rfl, rfl, rfl⟩
theorem rowA_per (h : RuleOK mu ad mo i) (hk : kd ≤ 7) (most : Nat) : CS Tryz.prog 64 [scK (dgs mo) (exq mo) most, rwK (dgs mo) (exq mo), .agg (rowV (rowA mu ad mo i kd).fs)] (lB (isK (kq kd) 0)) := by
  obtain ⟨m, hb, hlo, hhi, hm3⟩ := rowA_b mu ad mo i kd hk
  obtain ⟨c1, c2, c3, c4, c5, c6⟩ := clPq_ok (par := atK mu ad mo i % 2) (l := (atK mu ad mo i + i) % 3) (by omega) (by omega) hk
  have := permits_row (db := dgs mo) (e := exq mo) (r := rowA mu ad mo i kd) (c := clPq (atK mu ad mo i % 2) kd ((atK mu ad mo i + i) % 3)) (n := (m : Int)) ⟨c1, c2.symm ▸ rfl, fun t ht => ?_, ?_, ?_, ?_⟩ most
  · rw [c6] at this
    exact this
  · rw [c3 t ht]
    rcases kd_cases hk with rfl | rfl | rfl | rfl | rfl | rfl | rfl | rfl <;> rfl
  · rw [c4]; exact rowA_has h hk
  · rw [hb]; exact textLen_cs (chA_le mu ad mo i) hm3
  · rw [c5]; exact ⟨hlo, hhi⟩
end
end Go.Abs
end
section
open Go.Proofs
set_option maxRecDepth 100000
namespace Go.Abs
/-- a rule, flaws, how many rows -/
structure InT where
  mu : Nat
  ad : Nat
  mo : Nat
  x : Nat
  y : Nat
  p : Nat
  q : Nat
  n : Nat
  l : Bool
namespace InT
variable (T : InT)
def kd (i : Nat) : Nat := kindK T.x T.y T.p T.q T.n i
noncomputable def row (i : Nat) : RowD := rowA T.mu T.ad T.mo i (T.kd i)
noncomputable def rows : List RowD := (List.range T.n).map T.row
def cl (i : Nat) : ClE := clA (atK T.mu T.ad T.mo i % 2) (T.kd i)
def most : Nat := match T.l with
  | true => T.n - 1
  | false => T.n
noncomputable def E : InE := { rows := T.rows, cl := T.cl, l := T.l, db := dgs T.mo, e := exq T.mo, most := T.most, mo := T.mo }
/-- the kinds and places of what is wrong with rows -/
def prs : Nat → List (Nat × Nat)
  | 0 => []
  | k + 1 => prs k ++ (match isK (T.cl k).k 0 with | true => [] | false => [((T.cl k).k, k)])
end InT
structure OkT (T : InT) : Prop where
  mu : T.mu ≤ 65535
  ad : T.ad ≤ 65535
  mo : T.mo ≤ 65535
  x : T.x ≤ 65535
  y : T.y ≤ 65535
  p : T.p ≤ 255
  q : T.q ≤ 255
  n : 1 ≤ T.n ∧ T.n ≤ 1200
section
variable {T : InT}
theorem kd_le (T : InT) (i : Nat) : T.kd i ≤ 7 := by
  unfold InT.kd kindK
  split
  · omega
  · split <;> omega
theorem OkT.rule (h : OkT T) {i : Nat} (hi : i < T.n) : RuleOK T.mu T.ad T.mo i := ⟨h.mu, h.ad, h.mo, by have := h.n; omega⟩
theorem rowsT_len (T : InT) : T.rows.length = T.n := by unfold InT.rows; rw [List.length_map, List.length_range]
theorem rowsT_at {k : Nat} (hk : k < T.n) : T.E.row k = T.row k := by
  show T.rows.getD k default = _
  unfold InT.rows
  rw [List.getD_eq_getElem?_getD, List.getElem?_map, List.getElem?_range hk]; rfl
theorem rowsT_mem {r : RowD} (h : r ∈ T.rows) : ∃ k, k < T.n ∧ r = T.row k := by
  obtain ⟨k, hk, rfl⟩ := List.mem_map.1 h
  exact ⟨k, List.mem_range.1 hk, rfl⟩
theorem fssT_at {k : Nat} (hk : k < T.n) : (T.rows.map RowD.fs).getD k [] = (T.row k).fs := by
  unfold InT.rows
  rw [List.getD_eq_getElem?_getD, List.getElem?_map, List.getElem?_map, List.getElem?_range hk]; rfl
theorem clT (T : InT) (k : Nat) : T.cl k ∈ clsE ∧ (T.cl k).k = kq (T.kd k) := by
  obtain ⟨h1, -, h3⟩ := clA_ok (par := atK T.mu T.ad T.mo k % 2) (by omega) (kd_le T k)
  exact ⟨h1, h3⟩
theorem OkT.rowok (h : OkT T) {k : Nat} (hk : k < T.n) : RowOK (T.row k) := rowA_ok (h.rule hk) (kd_le T k)
theorem hFT (h : OkT T) : ∀ fs, fs ∈ T.rows.map RowD.fs → FOK fs := by
  intro fs hfs
  obtain ⟨r, hr, rfl⟩ := List.mem_map.1 hfs
  obtain ⟨k, hk, rfl⟩ := rowsT_mem hr
  exact fs_ok (h.rowok hk).sh
theorem mostT_le (h : OkT T) : T.most ≤ 1200 := by
  have := h.n
  unfold InT.most
  cases T.l <;> simp only <;> omega
theorem OkT.m6 (h : OkT T) : T.mo < 1000000 := by have := h.mo; omega
theorem topT (h : OkT T) : TopOK (dgs T.mo) (exq T.mo) T.most :=
  ⟨mostT_le h, exq_le h.m6, by have := dgs_len h.m6; omega, valid_cs (shq_ok h.m6)⟩
/-! ### what is wrong -/
theorem flsT (T : InT) : ∀ k, flsE T.l T.cl k = flsOf T.l (T.prs k)
  | 0 => by
    unfold flsE flsOf leadF InT.prs
    cases T.l <;> rfl
  | k + 1 => by
    rw [flsE, flsT T k, InT.prs]
    unfold flsOf
    rw [List.map_append, ← List.append_assoc]
    congr 1
    cases isK (T.cl k).k 0 <;> rfl
theorem cntT (T : InT) : ∀ k, cntE T.l T.cl k = (leadF T.l).length + (T.prs k).length
  | 0 => by
    unfold cntE leadF InT.prs
    cases T.l <;> rfl
  | k + 1 => by
    rw [cntE, cntT T k, InT.prs, List.length_append]
    cases isK (T.cl k).k 0 <;> simp <;> omega
theorem prs_mem {p : Nat × Nat} : ∀ {k : Nat}, p ∈ T.prs k → (1 ≤ p.1 ∧ p.1 ≤ 7) ∧ p.2 < k
  | 0, h => by cases h
  | k + 1, h => by
    rw [InT.prs] at h
    rcases List.mem_append.1 h with h | h
    · have := prs_mem h
      exact ⟨this.1, by omega⟩
    · cases hz : isK (T.cl k).k 0 with
      | true => rw [hz] at h; cases h
      | false =>
        rw [hz] at h
        simp only [List.mem_cons, List.not_mem_nil, or_false] at h
        subst h
        have h1 := Nat.ne_of_beq_eq_false hz
        have h2 : kq (T.kd k) ≤ 7 := by
          have := kd_le T k
          unfold kq
          split <;> omega
        have h3 := (clT T k).2
        exact ⟨⟨by omega, by simp only; omega⟩, by simp only; omega⟩
theorem bad_at {k : Nat} (h : isK (T.cl k).k 0 = false) : T.x % T.n = k ∨ T.y % T.n = k := by
  have h1 := Nat.ne_of_beq_eq_false h
  rw [(clT T k).2] at h1
  rcases Nat.decEq (T.x % T.n) k with e1 | e1
  · rcases Nat.decEq (T.y % T.n) k with e2 | e2
    · have : T.kd k = 0 := by unfold InT.kd kindK; rw [if_neg e1, if_neg e2]
      rw [this] at h1
      exact absurd rfl h1
    · exact .inr e2
  · exact .inl e1
theorem prs_len (T : InT) : ∀ k, (T.prs k).length ≤ (if T.x % T.n < k then 1 else 0) + (if T.y % T.n < k then 1 else 0)
  | 0 => by simp [InT.prs]
  | k + 1 => by
    have ih := prs_len T k
    rw [InT.prs, List.length_append]
    cases hz : isK (T.cl k).k 0 with
    | true =>
      simp only [List.length_nil, Nat.add_zero]
      refine Nat.le_trans ih ?_
      split <;> split <;> split <;> split <;> omega
    | false =>
      simp only [List.length_cons, List.length_nil]
      have := bad_at hz
      revert ih
      split <;> split <;> split <;> split <;> intro ih <;> omega
theorem prs_le2 (T : InT) (k : Nat) : (T.prs k).length ≤ 2 := by
  have := prs_len T k
  revert this
  split <;> split <;> omega
theorem prs_good {k : Nat} (h : T.prs T.n = []) : ∀ {m : Nat}, m ≤ T.n → T.prs m = [] := by
  have key : ∀ d m, m + d = T.n → T.prs m = [] := by
    intro d
    induction d with
    | zero => intro m hm; rw [show m = T.n by omega]; exact h
    | succ d ih =>
      intro m hm
      have := ih (m + 1) (by omega)
      rw [InT.prs] at this
      exact (List.append_eq_nil_iff.1 this).1
  intro m hm
  exact key (T.n - m) m (by omega)
theorem good_all (h : T.prs T.n = []) {k : Nat} (hk : k < T.n) : isK (T.cl k).k 0 = true := by
  have := prs_good (k := 0) h (m := k + 1) (by omega)
  rw [InT.prs] at this
  have := (List.append_eq_nil_iff.1 this).2
  cases hz : isK (T.cl k).k 0 with
  | true => rfl
  | false => rw [hz] at this; cases this
theorem first_bad : ∀ {m : Nat}, T.prs m ≠ [] → ∃ p, p < m ∧ isK (T.cl p).k 0 = false ∧ ∀ k, k < p → isK (T.cl k).k 0 = true
  | 0, h => absurd rfl h
  | m + 1, h => by
    rcases Classical.em (T.prs m = []) with e | e
    · refine ⟨m, by omega, ?_, fun k hk => ?_⟩
      · cases hz : isK (T.cl m).k 0 with
        | false => rfl
        | true => rw [InT.prs, e, hz] at h; exact absurd rfl h
      · have key : ∀ d j, j + d = m → T.prs j = [] := by
          intro d
          induction d with
          | zero => intro j hj; rw [show j = m by omega]; exact e
          | succ d ih =>
            intro j hj
            have := ih (j + 1) (by omega)
            rw [InT.prs] at this
            exact (List.append_eq_nil_iff.1 this).1
        have := key (m - (k + 1)) (k + 1) (by omega)
        rw [InT.prs] at this
        have := (List.append_eq_nil_iff.1 this).2
        cases hz : isK (T.cl k).k 0 with
        | true => rfl
        | false => rw [hz] at this; cases this
    · obtain ⟨p, hp, h1, h2⟩ := first_bad e
      exact ⟨p, by omega, h1, h2⟩
/-! ### is it valid -/
theorem perT (h : OkT T) {k : Nat} (hk : k < T.n) : CS Tryz.prog 64 [scK (dgs T.mo) (exq T.mo) T.most, rwK (dgs T.mo) (exq T.mo), .agg (rowV ((T.rows.map RowD.fs).getD k []))] (lB (isK (T.cl k).k 0)) := by
  rw [fssT_at hk, (clT T k).2]
  exact rowA_per (h.rule hk) (kd_le T k) T.most
theorem lenT (T : InT) : T.n = (T.rows.map RowD.fs).length := by rw [List.length_map, rowsT_len]
theorem checkT (h : OkT T) : CS Tryz.prog 63 [vvK (T.rows.map RowD.fs)] (lI 0) := by
  have := h.n
  exact check_cs (by rw [rowsT_len]; omega) (by rw [rowsT_len]; omega) fun r hr => by
    obtain ⟨k, hk, rfl⟩ := rowsT_mem hr
    exact h.rowok hk
theorem validT {g : Bool} (h : OkT T) (hl : CS Tryz.prog 109 [scK (dgs T.mo) (exq T.mo) T.most, rootK (dgs T.mo) (exq T.mo) T.most, vvK (T.rows.map RowD.fs)] (lB g)) : CS Tryz.prog 12 [scK (dgs T.mo) (exq T.mo) T.most, vvK (T.rows.map RowD.fs)] (.tup [lB g, lI 0]) :=
  valid_list (hFT h) (schema_root (topT h)) (checkT h) (permits_root (hFT h) hl)
theorem valid_good (h : OkT T) (hl : T.l = false) (hg : T.prs T.n = []) : CS Tryz.prog 12 [scK (dgs T.mo) (exq T.mo) T.most, vvK (T.rows.map RowD.fs)] (.tup [lB true, lI 0]) := by
  have hm : T.most = T.n := by unfold InT.most; rw [hl]
  refine validT h (list_good (lenT T) h.n.1 h.n.2 (by omega) (mostT_le h) (hFT h) fun k hk => ?_)
  have := perT h hk
  rwa [good_all hg hk] at this
theorem valid_bad (h : OkT T) (hb : T.l = true ∨ T.prs T.n ≠ []) : CS Tryz.prog 12 [scK (dgs T.mo) (exq T.mo) T.most, vvK (T.rows.map RowD.fs)] (.tup [lB false, lI 0]) := by
  have hn := h.n
  cases hl : T.l with
  | true =>
    have hm : T.most = T.n - 1 := by unfold InT.most; rw [hl]
    exact validT h (list_long (n := T.n) (lenT T) h.n.1 h.n.2 (by omega) (hFT h))
  | false =>
    have hb : T.prs T.n ≠ [] := by rcases hb with e | e; exact absurd (e.symm.trans hl) (by simp); exact e
    have hm : T.most = T.n := by unfold InT.most; rw [hl]
    obtain ⟨p, hp, h1, h2⟩ := first_bad hb
    refine validT h (list_bad (lenT T) h.n.1 h.n.2 (by omega) (mostT_le h) (hFT h) hp (fun k hk => ?_) ?_)
    · have := perT h (k := k) (by omega)
      rwa [h2 k hk] at this
    · have := perT h hp
      rwa [h1] at this
/-! ### the reasons -/
theorem hasT (h : OkT T) {k : Nat} (hk : k < T.n) : CS Tryz.prog 103 [setB2 (dgs T.mo) (exq T.mo), decL (T.row k).da (T.row k).ea] (lB (!(isK (T.cl k).k 1))) := by
  rw [(clT T k).2]
  exact rowA_has (h.rule hk) (kd_le T k)
theorem bT (T : InT) (k : Nat) : ∃ m, (T.row k).b = List.replicate m (chA T.mu T.ad T.mo k) ∧ loG (!(isK (T.cl k).k 3)) ≤ (m : Int) ∧ (m : Int) ≤ hiG (!(isK (T.cl k).k 3)) ∧ m ≤ 3 := by
  rw [(clT T k).2]
  exact rowA_b _ _ _ _ _ (kd_le T k)
theorem tT (T : InT) (k : Nat) : ∃ l : Nat × Bool, l ∈ lets ∧ (T.row k).t = [UInt8.ofNat l.1] ∧ l.2 = !(isK (T.cl k).k 7) := by
  rw [(clT T k).2]
  exact rowA_tl _ _ _ _ _ (kd_le T k)
theorem isT (h : OkT T) {k : Nat} (hk : k < T.n) : IsE T.mo (T.row k) (T.cl k) := rowA_is (h.rule hk) (kd_le T k)
theorem totT (T : InT) : T.E.tot = (leadF T.l).length + (T.prs T.n).length := by
  show cntE T.l T.cl T.rows.length = _
  rw [rowsT_len, cntT]
theorem okE_T (h : OkT T) (hb : T.l = true ∨ T.prs T.n ≠ []) : OkE T.E := by
  have hn := h.n
  have hlen : T.E.rows.length = T.n := rowsT_len T
  have hr : ∀ k, k < T.E.rows.length → k < T.n ∧ T.E.row k = T.row k := fun k hk => ⟨by omega, rowsT_at (by omega)⟩
  refine ⟨by omega, ?_, exq_le h.m6, fun k hk => ?_, fun k hk => ?_, fun k hk => ?_, fun k hk => ?_, fun k hk => ?_, fun l hl => ?_, match_none (topT h), valid_bad h hb, ?_⟩
  · rw [hlen]
    show match T.l with | true => T.most + 1 = T.n | false => T.most = T.n
    unfold InT.most
    cases T.l
    · rfl
    · simp only; omega
  · obtain ⟨a, b⟩ := hr k hk
    rw [b]; exact isT h a
  · obtain ⟨a, b⟩ := hr k hk
    rw [b]; exact h.rowok a
  · obtain ⟨a, b⟩ := hr k hk
    rw [b]
    have rk := h.rowok a
    exact match_a (topT h) rk.da rk.ea rk.v (hasT h a)
  · obtain ⟨a, b⟩ := hr k hk
    rw [b]
    obtain ⟨m, e, h1, h2, h3⟩ := bT T k
    rw [e]
    refine match_b (topT h) (by rw [List.length_replicate]; exact ⟨h1, h2⟩) ?_ (textValid_cs (chA_le _ _ _ _) h3)
    rw [List.length_replicate]
    exact textLen_cs (chA_le _ _ _ _) h3
  · obtain ⟨a, b⟩ := hr k hk
    rw [b]
    obtain ⟨l, h1, h2, h3⟩ := tT T k
    rw [h2]
    show CS Tryz.prog 33 _ (okE (!(isK (T.cl k).k 7)))
    rw [← h3]
    exact match_tag (topT h) h1
  · simp only [tagL, List.mem_cons, List.not_mem_nil, or_false] at hl
    rcases hl with rfl | rfl | rfl
    · exact match_tag (topT h) (l := (120, true)) (by simp [lets])
    · exact match_tag (topT h) (l := (121, true)) (by simp [lets])
    · exact match_tag (topT h) (l := (122, true)) (by simp [lets])
  · rw [totT]
    have h2 := prs_le2 T T.n
    rcases hb with e | e
    · rw [e]
      show 1 ≤ 1 + _ ∧ 1 + _ ≤ 3
      omega
    · have : 1 ≤ (T.prs T.n).length := by
        rcases Nat.eq_zero_or_pos (T.prs T.n).length with e' | e'
        · exact absurd (List.length_eq_zero_iff.1 e') e
        · exact e'
      have : (leadF T.l).length ≤ 1 := by cases T.l <;> simp [leadF]
      omega
theorem flsE_T (T : InT) : T.E.fls = flsOf T.l (T.prs T.n) := by
  show flsE T.l T.cl T.rows.length = _
  rw [rowsT_len, flsT]
theorem explT_bad (h : OkT T) (hb : T.l = true ∨ T.prs T.n ≠ []) : CS Tryz.prog 9 [scK (dgs T.mo) (exq T.mo) T.most, vvK (T.rows.map RowD.fs)] (.tup [.ro 3 (flsOf T.l (T.prs T.n)), lI 0]) := by
  have := explain_cs (okE_T h hb)
  rwa [flsE_T] at this
theorem explT_good (h : OkT T) (hl : T.l = false) (hg : T.prs T.n = []) : CS Tryz.prog 9 [scK (dgs T.mo) (exq T.mo) T.most, vvK (T.rows.map RowD.fs)] (.tup [nilS, lI 0]) := explain_good (n := 0) (hFT h) (valid_good h hl hg)
theorem failT_cs (h : OkT T) (hb : T.l = true ∨ T.prs T.n ≠ []) : CS Tryz.prog 10 [.ro 3 (flsOf T.l (T.prs T.n)), .ro 3 (flsOf T.l (T.prs T.n))] (lB true) :=
  failed_cs (prs_le2 T T.n) (fun p hp => by have := prs_mem hp; have := h.n; exact ⟨(prs_mem hp).1, by omega⟩) hb
end
end Go.Abs
end
