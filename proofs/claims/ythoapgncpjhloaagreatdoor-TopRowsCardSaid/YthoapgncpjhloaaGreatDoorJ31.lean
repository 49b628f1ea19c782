/- Part 31 of the proof that TopRows returns true for every input of its row (no condition beyond the row). -/
import Derived.Test.YthoapgncpjhloaaGreatDoorJ13
import Derived.Test.YthoapgncpjhloaaGreatDoorJ21
import Derived.Test.YthoapgncpjhloaaGreatDoorJ27
import Derived.Test.YthoapgncpjhloaaGreatDoorJ28
import Derived.Test.YthoapgncpjhloaaGreatDoorJ29
import Derived.Test.YthoapgncpjhloaaGreatDoorJ30
set_option linter.unusedVariables false
set_option linter.unusedSimpArgs false
set_option linter.unusedSectionVars false
set_option linter.all false
section
open Go.Proofs
namespace Go.Abs
theorem kSt00 {c : ClE} (h : c ∈ clsE) (hk : isK c.k 0 = true) : runSt true (casS c 0 0) = true := by
  simp only [clsE, List.mem_cons, List.not_mem_nil, or_false] at h
  rcases h with rfl | rfl | rfl | rfl | rfl | rfl | rfl | rfl | rfl | rfl | rfl | rfl
  · exact kSt_0
  · cases hk
  · cases hk
  · exact kSt_3
  · cases hk
  · cases hk
  · cases hk
  · cases hk
  · cases hk
  · cases hk
  · cases hk
  · cases hk
theorem kSf00 {c : ClE} (h : c ∈ clsE) (hk : isK c.k 0 = true) : runSt false (casS c 0 0) = true := by
  simp only [clsE, List.mem_cons, List.not_mem_nil, or_false] at h
  rcases h with rfl | rfl | rfl | rfl | rfl | rfl | rfl | rfl | rfl | rfl | rfl | rfl
  · exact kSf00_0
  · cases hk
  · cases hk
  · exact kSf00_3
  · cases hk
  · cases hk
  · cases hk
  · cases hk
  · cases hk
  · cases hk
  · cases hk
  · cases hk
theorem kSf11g {c : ClE} (h : c ∈ clsE) (hk : isK c.k 0 = true) : runSt false (casS c 1 1) = true := by
  simp only [clsE, List.mem_cons, List.not_mem_nil, or_false] at h
  rcases h with rfl | rfl | rfl | rfl | rfl | rfl | rfl | rfl | rfl | rfl | rfl | rfl
  · exact kSf11_0
  · cases hk
  · cases hk
  · exact kSf11_3
  · cases hk
  · cases hk
  · cases hk
  · cases hk
  · cases hk
  · cases hk
  · cases hk
  · cases hk
theorem kSf01 {c : ClE} (h : c ∈ clsE) (hk : isK c.k 0 = false) : runSt false (casS c 0 1) = true := by
  simp only [clsE, List.mem_cons, List.not_mem_nil, or_false] at h
  rcases h with rfl | rfl | rfl | rfl | rfl | rfl | rfl | rfl | rfl | rfl | rfl | rfl
  · cases hk
  · exact kSf01_1
  · exact kSf01_2
  · cases hk
  · exact kSf01_4
  · exact kSf01_5
  · exact kSf01_6
  · exact kSf01_7
  · exact kSf01_8
  · exact kSf01_9
  · exact kSf01_10
  · exact kSf01_11
theorem kSf11b {c : ClE} (h : c ∈ clsE) (hk : isK c.k 0 = false) : runSt false (casS c 1 1) = true := by
  simp only [clsE, List.mem_cons, List.not_mem_nil, or_false] at h
  rcases h with rfl | rfl | rfl | rfl | rfl | rfl | rfl | rfl | rfl | rfl | rfl | rfl
  · cases hk
  · exact kSf11_1
  · exact kSf11_2
  · cases hk
  · exact kSf11_4
  · exact kSf11_5
  · exact kSf11_6
  · exact kSf11_7
  · exact kSf11_8
  · exact kSf11_9
  · exact kSf11_10
  · exact kSf11_11
theorem kS_good (c : Cas) (h : c ∈ csS false true) : runSt true c = true := by
  simp only [csS, List.mem_cons, List.mem_map, goodE, List.mem_filter] at h
  rcases h with rfl | rfl | ⟨x, ⟨hx, hk⟩, rfl⟩
  · exact kSt_s
  · exact kSt_e
  · exact kSt00 hx hk
theorem kS_bad (l : Bool) (c : Cas) (h : c ∈ csS l false) : runSt false c = true := by
  simp only [csS, List.mem_cons, List.mem_append, List.mem_map, goodE, badE, List.mem_filter] at h
  rcases h with rfl | h | ⟨x, ⟨hx, hk⟩, rfl⟩ | ⟨x, ⟨hx, hk⟩, rfl⟩ | ⟨x, ⟨hx, hk⟩, rfl⟩ | ⟨x, ⟨hx, hk⟩, rfl⟩
  · exact kSf_s
  · cases l with
    | true =>
      simp only [List.mem_cons, List.not_mem_nil, or_false] at h
      rcases h with rfl | rfl
      · exact kSf_e0
      · exact kSf_e1
    | false =>
      simp only [List.mem_cons, List.not_mem_nil, or_false] at h
      subst h
      exact kSf_e2
  · exact kSf00 hx hk
  · exact kSf11g hx hk
  · exact kSf01 hx (by simpa using hk)
  · exact kSf11b hx (by simpa using hk)
theorem runS_good : okTop (topG cfSt (L15 false true) Tryz.prog 100 15 [chkN, vN, lB true]) (lB true) = true :=
  topG_all (lp := L15 false true) (cs := csS false true) (by simp [csS]) kS_good
theorem runS_bad (l : Bool) : okTop (topG cfSt (L15 l false) Tryz.prog 100 15 [chkN, vN, lB false]) (lB true) = true :=
  topG_all (lp := L15 l false) (cs := csS l false) (by simp [csS]) (kS_bad l)
end Go.Abs
end
section
open Go.Proofs
set_option maxRecDepth 100000
namespace Go.Abs
theorem kWa (g : Bool) : runW37 (cfWa g) 2 (vNum (so 1000) (ni 1001)) g = true := by cases g; kernel_rfl; kernel_rfl
theorem kWb (g : Bool) : runW37 (cfWb g) 3 (vText (so 1002)) g = true := by cases g; kernel_rfl; kernel_rfl
theorem kWt : (lets.all fun l => runW37 (cfWt 5 l.2) 5 (vText (lS [l.1])) l.2) = true := by kernel_rfl
theorem kWn : runW37 (cfWt 6 false) 6 (vz 0) false = true := by kernel_rfl
theorem kWa3 : runW63 (cfWa true) (vNum (so 1000) (ni 1001)) = true := by kernel_rfl
theorem kWb3 (g : Bool) : runW63 (cfWb g) (vText (so 1002)) = true := by cases g; kernel_rfl; kernel_rfl
theorem kWt3 : (lets.all fun l => runW63 (cfWt 5 l.2) (vText (lS [l.1]))) = true := by kernel_rfl
theorem kWn3 : runW63 (cfWt 6 false) (vz 0) = true := by kernel_rfl
def cfW76 : Cfg := { cfg0 with bd := [(1, 0, 1200), (2, 0, 5)] }
theorem kW76 : okTop (topF cfW76 [] Tryz.prog 100 76 [chkN]) chkN = true := by kernel_rfl
abbrev vlA (db : List UInt8) (e : Int) (most : Nat) (da : List UInt8) (ea : Int) (b : List UInt8) (g : Bool) : VL :=
  ⟨fun a => if a = 2 then e else if a = 1 then (most : Int) else if a = 1001 then ea else if a = 1004 then (da.length : Nat) else if a = 1005 then (b.length : Nat) else 0,
   fun a => if a = 0 then db else if a = 1000 then da else if a = 1002 then b else [], fun _ => false, fun _ => [], fun _ => .emp, fun a _ v => a = 1 ∧ v = .bool g⟩
section
variable {db : List UInt8} {e : Int} {most : Nat} {da : List UInt8} {ea : Int} {b : List UInt8} {g : Bool}
theorem vlA_s0 (m : Nat) : @denA (vlA db e most da ea b g) (m + 1) (so 0) = .lit (.string ⟨db.toArray⟩) := @so_den (vlA db e most da ea b g) m 0
theorem vlA_s1 (m : Nat) : @denA (vlA db e most da ea b g) (m + 1) (so 1000) = lb da := @so_den (vlA db e most da ea b g) m 1000
theorem vlA_s2 (m : Nat) : @denA (vlA db e most da ea b g) (m + 1) (so 1002) = lb b := @so_den (vlA db e most da ea b g) m 1002
theorem vlA_i2 (m : Nat) : @denA (vlA db e most da ea b g) (m + 1) (ni 2) = lI e := @ni_den (vlA db e most da ea b g) m 2
theorem vlA_i1 (m : Nat) : @denA (vlA db e most da ea b g) (m + 1) (ni 1) = lI most := @ni_den (vlA db e most da ea b g) m 1
theorem vlA_ia (m : Nat) : @denA (vlA db e most da ea b g) (m + 1) (ni 1001) = lI ea := @ni_den (vlA db e most da ea b g) m 1001
theorem vlA_il (m : Nat) : @denA (vlA db e most da ea b g) (m + 1) (ni 1005) = lI b.length := @ni_den (vlA db e most da ea b g) m 1005
theorem vlA_chk : @denA (vlA db e most da ea b g) 20 chkN = chkK db e most := by
  show @denA (vlA db e most da ea b g) 20 (chkV (so 0) (ni 2) (ni 1)) = _
  rw [@chkV_den (vlA db e most da ea b g), vlA_s0 16, vlA_i2 16, vlA_i1 17]; rfl
theorem vlA_set : @denA (vlA db e most da ea b g) 20 setN = setB2 db e := by
  show AV.agg [.ro 11 [[_, _, _, _, _, _, _, @denA (vlA db e most da ea b g) 18 (so 0), @denA (vlA db e most da ea b g) 18 (ni 2), _, _]]] = _
  rw [vlA_s0 17, vlA_i2 17]; rfl
theorem vlA_dec : @denA (vlA db e most da ea b g) 20 decN = decL da ea := by
  show AV.agg [_, @denA (vlA db e most da ea b g) 19 (so 1000), @denA (vlA db e most da ea b g) 19 (ni 1001)] = _
  rw [vlA_s1 18, vlA_ia 18]; rfl
theorem vlA_num : @denA (vlA db e most da ea b g) 20 (.agg (vNum (so 1000) (ni 1001))) = .agg (vNum (lb da) (lI ea)) := by
  have : ∀ d x, @denA (vlA db e most da ea b g) 20 (.agg (vNum d x)) = .agg (vNum (@denA (vlA db e most da ea b g) 19 d) (@denA (vlA db e most da ea b g) 19 x)) := fun _ _ => rfl
  rw [this, vlA_s1 18, vlA_ia 18]
theorem vlA_txt : @denA (vlA db e most da ea b g) 20 (.agg (vText (so 1002))) = .agg (vText (lb b)) := by
  have : ∀ d, @denA (vlA db e most da ea b g) 20 (.agg (vText d)) = .agg (vText (@denA (vlA db e most da ea b g) 19 d)) := fun _ => rfl
  rw [this, vlA_s2 18]
theorem mmA {j : Int} {a : Nat} {cs : List AV} {v : AV} (h : (a, cs, v) ∈ [(1, [lI j, .ptr 1 0 0 0], lB g)]) : MmOK (vlA db e most da ea b g) a cs v := by
  simp only [List.mem_cons, List.not_mem_nil, or_false, Prod.mk.injEq] at h
  obtain ⟨rfl, rfl, rfl⟩ := h
  refine ⟨.bool g, rfl, ⟨rfl, rfl⟩, fun c hc xs o he => ?_, fun s w ks cs' vs val' _ _ _ _ h => h.2⟩
  simp only [List.mem_cons, List.not_mem_nil, or_false] at hc
  rcases hc with rfl | rfl <;> cases he
theorem cfWa_ok (hm : most ≤ 1200) (he : 0 ≤ e ∧ e ≤ 5) (hda : da.length ≤ 7) (hea : -1 ≤ ea ∧ ea ≤ 5) : @Cfg.OK (vlA db e most da ea [] g) (cfWa g) := by
  refine cfgOK_of (fun p hp => ?_) (fun f hf => by cases hf) (fun a row h => by cases h) rfl (fun p hp => ?_) (fun p hp => by cases hp) (fun p hp => by cases hp) (mm := fun a cs v h => mmA h)
  · simp only [cfWa, List.mem_cons, List.not_mem_nil, or_false] at hp
    rcases hp with rfl | rfl | rfl | rfl
    · show (0 : Int) ≤ (most : Int) ∧ (most : Int) ≤ 1200; omega
    · exact he
    · exact hea
    · show (0 : Int) ≤ (da.length : Nat) ∧ ((da.length : Nat) : Int) ≤ 7; omega
  · simp only [cfWa, List.mem_cons, List.not_mem_nil, or_false] at hp
    subst hp
    show ((da.length : Nat) : Int) = 1 * ((da.length : Nat) : Int) + 0 + 0; omega
theorem cfWa_tell (hm : most ≤ 1200) (he : 0 ≤ e ∧ e ≤ 5) (hda : da.length ≤ 7) (hea : -1 ≤ ea ∧ ea ≤ 5) (hc : CS Tryz.prog 74 [chkK db e most] (lI 0)) (hv : CS Tryz.prog 158 [decL da ea] (lB true)) (hg : CS Tryz.prog 103 [setB2 db e, decL da ea] (lB g)) : @Tell (vlA db e most da ea [] g) (cfWa g) Tryz.prog := by
  refine @tellOf (vlA db e most da ea [] g) _ (cfWa_ok hm he hda hea) rfl rfl fun f xs r hp => ?_
  simp only [cfWa, List.mem_cons, List.not_mem_nil, or_false, Prod.mk.injEq] at hp
  rcases hp with ⟨rfl, rfl, rfl⟩ | ⟨rfl, rfl, rfl⟩ | ⟨rfl, rfl, rfl⟩
  · refine @CS.call (vlA db e most da ea [] g) _ _ _ _ _ _ _ hc Tryz.func74 (names1 _ _ Tryz.func74) rfl ?_ (one_pure (chkK_pure _ _ _)) rfl .lit
    show [@denA (vlA db e most da ea [] g) 20 chkN] = _
    rw [vlA_chk]
  · refine @CS.call (vlA db e most da ea [] g) _ _ _ _ _ _ _ hv Tryz.func158 (names1 _ _ Tryz.func158) rfl ?_ (one_pure (decL_pure _ _)) rfl .lit
    show [@denA (vlA db e most da ea [] g) 20 decN] = _
    rw [vlA_dec]
  · refine @CS.call (vlA db e most da ea [] g) _ _ _ _ _ _ _ hg Tryz.func103 (names1 _ _ Tryz.func103) rfl ?_ (two_pure (pureB_ok (n := 20) rfl) (decL_pure _ _)) rfl .lit
    show [@denA (vlA db e most da ea [] g) 20 setN, @denA (vlA db e most da ea [] g) 20 decN] = _
    rw [vlA_set, vlA_dec]
theorem at_num (hm : most ≤ 1200) (he : 0 ≤ e ∧ e ≤ 5) (hda : da.length ≤ 7) (hea : -1 ≤ ea ∧ ea ≤ 5) (hc : CS Tryz.prog 74 [chkK db e most] (lI 0)) (hv : CS Tryz.prog 158 [decL da ea] (lB true)) (hg : CS Tryz.prog 103 [setB2 db e, decL da ea] (lB g)) :
    CS Tryz.prog 37 [chkK db e most, lI 2, .agg (vNum (lb da) (lI ea))] (lB g) ∧ CS Tryz.prog 63 [.agg (vNum (lb da) (lI ea))] (lI 0) := by
  have ok := cfWa_ok (db := db) (g := g) hm he hda hea
  have tl := cfWa_tell hm he hda hea hc hv hg
  constructor
  · refine @cs_of (vlA db e most da ea [] g) _ [] ok tl (by simp) 100 37 _ _ (kWa g) _ _ ?_ rfl (three_pure (chkK_pure _ _ _) .lit (pureB_ok (n := 20) rfl)) .lit
    show [@denA (vlA db e most da ea [] g) 20 chkN, lI 2, @denA (vlA db e most da ea [] g) 20 _] = _
    rw [vlA_chk, vlA_num]
  · have hk : runW63 (cfWa g) (vNum (so 1000) (ni 1001)) = true := by cases g; kernel_rfl; exact kWa3
    refine @cs_of (vlA db e most da ea [] g) _ [] ok tl (by simp) 100 63 _ _ hk _ _ ?_ rfl (one_pure (pureB_ok (n := 20) rfl)) .lit
    show [@denA (vlA db e most da ea [] g) 20 _] = _
    rw [vlA_num]
theorem at_text (hm : most ≤ 1200) (he : 0 ≤ e ∧ e ≤ 5) (hb : loG g ≤ (b.length : Nat) ∧ ((b.length : Nat) : Int) ≤ hiG g) (hc : CS Tryz.prog 74 [chkK db e most] (lI 0)) (hl : CS Tryz.prog 114 [lb b] (.tup [lI b.length, lI 0])) (hu : CS Tryz.prog 68 [lb b] (lB true)) :
    CS Tryz.prog 37 [chkK db e most, lI 3, .agg (vText (lb b))] (lB g) ∧ CS Tryz.prog 63 [.agg (vText (lb b))] (lI 0) := by
  have ok : @Cfg.OK (vlA db e most [] 0 b g) (cfWb g) := by
    refine cfgOK_of (fun p hp => ?_) (fun f hf => by cases hf) (fun a row h => by cases h) rfl (fun p hp => ?_) (fun p hp => by cases hp) (fun p hp => by cases hp) (mm := fun a cs v h => mmA h)
    · simp only [cfWb, List.mem_cons, List.not_mem_nil, or_false] at hp
      rcases hp with rfl | rfl | rfl
      · show (0 : Int) ≤ (most : Int) ∧ (most : Int) ≤ 1200; omega
      · exact he
      · exact hb
    · simp only [cfWb, List.mem_cons, List.not_mem_nil, or_false] at hp
      subst hp
      show ((b.length : Nat) : Int) = 1 * ((b.length : Nat) : Int) + 0 + 0; omega
  have tl := @tellOf (vlA db e most [] 0 b g) _ ok rfl rfl fun f xs r hp => by
    simp only [cfWb, List.mem_cons, List.not_mem_nil, or_false, Prod.mk.injEq] at hp
    rcases hp with ⟨rfl, rfl, rfl⟩ | ⟨rfl, rfl, rfl⟩ | ⟨rfl, rfl, rfl⟩
    · refine @CS.call (vlA db e most [] 0 b g) _ _ _ _ _ _ _ hc Tryz.func74 (names1 _ _ Tryz.func74) rfl ?_ (one_pure (chkK_pure _ _ _)) rfl .lit
      show [@denA (vlA db e most [] 0 b g) 20 chkN] = _
      rw [vlA_chk]
    · refine @CS.call (vlA db e most [] 0 b g) _ _ _ _ _ _ _ hl Tryz.func114 (names1 _ _ Tryz.func114) rfl ?_ (one_pure .lit) ?_ (pureB_ok (n := 20) rfl)
      · show [@denA (vlA db e most [] 0 b g) 20 (so 1002)] = _
        rw [vlA_s2 19]
      · show AV.tup [@denA (vlA db e most [] 0 b g) 19 (ni 1005), _] = _
        rw [vlA_il 18]; rfl
    · refine @CS.call (vlA db e most [] 0 b g) _ _ _ _ _ _ _ hu Tryz.func68 (names1 _ _ Tryz.func68) rfl ?_ (one_pure .lit) rfl .lit
      show [@denA (vlA db e most [] 0 b g) 20 (so 1002)] = _
      rw [vlA_s2 19]
  constructor
  · refine @cs_of (vlA db e most [] 0 b g) _ [] ok tl (by simp) 100 37 _ _ (kWb g) _ _ ?_ rfl (three_pure (chkK_pure _ _ _) .lit (pureB_ok (n := 20) rfl)) .lit
    show [@denA (vlA db e most [] 0 b g) 20 chkN, lI 3, @denA (vlA db e most [] 0 b g) 20 _] = _
    rw [vlA_chk, vlA_txt]
  · refine @cs_of (vlA db e most [] 0 b g) _ [] ok tl (by simp) 100 63 _ _ (kWb3 g) _ _ ?_ rfl (one_pure (pureB_ok (n := 20) rfl)) .lit
    show [@denA (vlA db e most [] 0 b g) 20 _] = _
    rw [vlA_txt]
theorem at_lit (hm : most ≤ 1200) (he : 0 ≤ e ∧ e ≤ 5) (hc : CS Tryz.prog 74 [chkK db e most] (lI 0)) {j : Int} {y : List AV} (hk : runW37 (cfWt j g) j y g = true) (hk3 : runW63 (cfWt j g) y = true) (hy : ∀ V : VL, @denA V 20 (.agg y) = .agg y) (py : Pure (.agg y)) :
    CS Tryz.prog 37 [chkK db e most, lI j, .agg y] (lB g) ∧ CS Tryz.prog 63 [.agg y] (lI 0) := by
  have ok : @Cfg.OK (vlA db e most [] 0 [] g) (cfWt j g) := by
    refine cfgOK_of (fun p hp => ?_) (fun f hf => by cases hf) (fun a row h => by cases h) rfl (fun p hp => by cases hp) (fun p hp => by cases hp) (fun p hp => by cases hp) (mm := fun a cs v h => mmA h)
    simp only [cfWt, List.mem_cons, List.not_mem_nil, or_false] at hp
    rcases hp with rfl | rfl
    · show (0 : Int) ≤ (most : Int) ∧ (most : Int) ≤ 1200; omega
    · exact he
  have tl := @tellOf (vlA db e most [] 0 [] g) _ ok rfl rfl fun f xs r hp => by
    simp only [cfWt, List.mem_cons, List.not_mem_nil, or_false, Prod.mk.injEq] at hp
    obtain ⟨rfl, rfl, rfl⟩ := hp
    refine @CS.call (vlA db e most [] 0 [] g) _ _ _ _ _ _ _ hc Tryz.func74 (names1 _ _ Tryz.func74) rfl ?_ (one_pure (chkK_pure _ _ _)) rfl .lit
    show [@denA (vlA db e most [] 0 [] g) 20 chkN] = _
    rw [vlA_chk]
  constructor
  · refine @cs_of (vlA db e most [] 0 [] g) _ [] ok tl (by simp) 100 37 _ _ hk _ _ ?_ rfl (three_pure (chkK_pure _ _ _) .lit py) .lit
    show [@denA (vlA db e most [] 0 [] g) 20 chkN, lI j, @denA (vlA db e most [] 0 [] g) 20 _] = _
    rw [vlA_chk, hy]
  · refine @cs_of (vlA db e most [] 0 [] g) _ [] ok tl (by simp) 100 63 _ _ hk3 _ _ ?_ rfl (one_pure py) .lit
    show [@denA (vlA db e most [] 0 [] g) 20 _] = _
    rw [hy]
theorem at_tag (hm : most ≤ 1200) (he : 0 ≤ e ∧ e ≤ 5) (hc : CS Tryz.prog 74 [chkK db e most] (lI 0)) {l : Nat × Bool} (hl : l ∈ lets) : CS Tryz.prog 37 [chkK db e most, lI 5, .agg (vText (lS [l.1]))] (lB l.2) ∧ CS Tryz.prog 63 [.agg (vText (lS [l.1]))] (lI 0) :=
  at_lit hm he hc (List.all_eq_true.1 kWt l hl) (List.all_eq_true.1 kWt3 l hl) (fun _ => rfl) (pureB_ok (n := 20) rfl)
theorem at_none (hm : most ≤ 1200) (he : 0 ≤ e ∧ e ≤ 5) (hc : CS Tryz.prog 74 [chkK db e most] (lI 0)) : CS Tryz.prog 37 [chkK db e most, lI 6, .agg (vz 0)] (lB false) ∧ CS Tryz.prog 63 [.agg (vz 0)] (lI 0) :=
  at_lit hm he hc kWn kWn3 (fun _ => rfl) (pureB_ok (n := 20) rfl)
theorem copied_cs (hm : most ≤ 1200) (he : 0 ≤ e ∧ e ≤ 5) : CS Tryz.prog 76 [chkK db e most] (chkK db e most) := by
  have ok : @Cfg.OK (vlA db e most [] 0 [] true) cfW76 := by
    refine cfgOK_of (fun p hp => ?_) (fun f hf => by cases hf) (fun a row h => by cases h) rfl (fun p hp => by cases hp) (fun p hp => by cases hp) (fun p hp => by cases hp)
    simp only [cfW76, List.mem_cons, List.not_mem_nil, or_false] at hp
    rcases hp with rfl | rfl
    · show (0 : Int) ≤ (most : Int) ∧ (most : Int) ≤ 1200; omega
    · exact he
  refine @cs_of (vlA db e most [] 0 [] true) _ [] ok (@tellOf (vlA db e most [] 0 [] true) _ ok rfl rfl fun f xs r hp => by cases hp) (by simp) 100 76 _ _ kW76 _ _ ?_ vlA_chk (one_pure (chkK_pure _ _ _)) (chkK_pure _ _ _)
  show [@denA (vlA db e most [] 0 [] true) 20 chkN] = _
  rw [vlA_chk]
end
end Go.Abs
end
section
open Go.Proofs
set_option maxRecDepth 100000
namespace Go.Abs
/-- all events -/
def evA (D : InE) : List (List AV) := evs D.rows D.rows.length ++ [ev0 3]
abbrev vlSw (D : InE) (k p c : Nat) : VL :=
  ⟨fun a => if a = 100 then (k : Int) else if a = 106 then (p : Int) else if a = 108 then (c : Int) else if a = 107 then ((evA D).length : Int) else if a = 4 then (D.rows.length : Int) else if a = 2 then D.e else if a = 1 then (D.most : Int) else
     if a = 1001 then (D.row k).ea else if a = 1004 then ((D.row k).da.length : Int) else if a = 1005 then ((D.row k).b.length : Int) else 0,
   fun a => if a = 0 then D.db else if a = 1000 then (D.row k).da else if a = 1002 then (D.row k).b else if a = 1003 then (D.row k).t else [], fun _ => false,
   fun a => if a = 0 then D.rows.map fun r => rowV r.fs else if a = 6 then evA D else [], fun _ => .emp, fun _ _ _ => False⟩
structure OkS (D : InE) : Prop where
  hn : 1 ≤ D.rows.length ∧ D.rows.length ≤ 1200
  hm : match D.l with | true => D.most + 1 = D.rows.length | false => D.most = D.rows.length
  he : 0 ≤ D.e ∧ D.e ≤ 5
  is : ∀ k, k < D.rows.length → IsE D.mo (D.row k) (D.cl k)
  rk : ∀ k, k < D.rows.length → RowOK (D.row k)
  pn : ∀ k, k < D.rows.length → CS Tryz.prog 37 [chkK D.db D.e D.most, lI 2, .agg (vNum (lb (D.row k).da) (lI (D.row k).ea))] (lB (!(isK (D.cl k).k 1))) ∧ CS Tryz.prog 63 [.agg (vNum (lb (D.row k).da) (lI (D.row k).ea))] (lI 0)
  pt : ∀ k, k < D.rows.length → CS Tryz.prog 37 [chkK D.db D.e D.most, lI 3, .agg (vText (lb (D.row k).b))] (lB (!(isK (D.cl k).k 3))) ∧ CS Tryz.prog 63 [.agg (vText (lb (D.row k).b))] (lI 0)
  pg : ∀ k, k < D.rows.length → CS Tryz.prog 37 [chkK D.db D.e D.most, lI 5, .agg (vText (lb (D.row k).t))] (lB (!(isK (D.cl k).k 7))) ∧ CS Tryz.prog 63 [.agg (vText (lb (D.row k).t))] (lI 0)
  pl : ∀ l, l ∈ tagL → CS Tryz.prog 37 [chkK D.db D.e D.most, lI 5, .agg (vText (lS [l]))] (lB true) ∧ CS Tryz.prog 63 [.agg (vText (lS [l]))] (lI 0)
  pz : CS Tryz.prog 37 [chkK D.db D.e D.most, lI 6, .agg (vz 0)] (lB false) ∧ CS Tryz.prog 63 [.agg (vz 0)] (lI 0)
  ev : CS Tryz.prog 39 [vvK (D.rows.map RowD.fs)] (.ro 15 (evA D))
  cp : CS Tryz.prog 76 [chkK D.db D.e D.most] (chkK D.db D.e D.most)
  ck : CS Tryz.prog 74 [chkK D.db D.e D.most] (lI 0)
theorem rvS_mem {q : Nat × Lin × List AV} : ∀ {l : List (List AV)} {j0 : Nat}, q ∈ rvS l j0 → ∃ j e, l[j]? = some e ∧ q = (6, ([(106, 1)], ((j0 + j : Nat) : Int)), e)
  | [], _, h => by cases h
  | e :: r, j0, h => by
    simp only [rvS, List.mem_cons] at h
    rcases h with rfl | h
    · exact ⟨0, e, rfl, rfl⟩
    · obtain ⟨j, e', h1, h2⟩ := rvS_mem h
      exact ⟨j + 1, e', h1, by rw [h2]; congr 3; push_cast; omega⟩
theorem evs_split {rows : List RowD} : ∀ {n k : Nat}, k < n → ∃ rest, evs rows n = evs rows k ++ (evR (rows.getD k default) ++ rest)
  | n + 1, k, h => by
    by_cases e : k = n
    · subst e
      exact ⟨[], by simp [evs]⟩
    · obtain ⟨rest, hr⟩ := evs_split (rows := rows) (n := n) (k := k) (by omega)
      exact ⟨rest ++ evR (rows.getD n default), by simp [evs, hr]⟩
theorem evs_head {rows : List RowD} : ∀ k, ∃ rest, evs rows k = ev0 2 :: rest
  | 0 => ⟨[], rfl⟩
  | k + 1 => by
    obtain ⟨r, hr⟩ := evs_head (rows := rows) k
    exact ⟨r ++ evR (rows.getD k default), by simp [evs, hr]⟩
section
variable {D : InE} {k p c : Nat}
theorem rowD (k : Nat) : D.rows.getD k default = D.row k := rfl
theorem vlSw_s0 (m : Nat) : @denA (vlSw D k p c) (m + 1) (so 0) = .lit (.string ⟨D.db.toArray⟩) := @so_den (vlSw D k p c) m 0
theorem vlSw_s1000 (m : Nat) : @denA (vlSw D k p c) (m + 1) (so 1000) = lb (D.row k).da := @so_den (vlSw D k p c) m 1000
theorem vlSw_s1002 (m : Nat) : @denA (vlSw D k p c) (m + 1) (so 1002) = lb (D.row k).b := @so_den (vlSw D k p c) m 1002
theorem vlSw_s1003 (m : Nat) : @denA (vlSw D k p c) (m + 1) (so 1003) = lb (D.row k).t := @so_den (vlSw D k p c) m 1003
theorem vlSw_i2 (m : Nat) : @denA (vlSw D k p c) (m + 1) (ni 2) = lI D.e := @ni_den (vlSw D k p c) m 2
theorem vlSw_i1 (m : Nat) : @denA (vlSw D k p c) (m + 1) (ni 1) = lI D.most := @ni_den (vlSw D k p c) m 1
theorem vlSw_i1001 (m : Nat) : @denA (vlSw D k p c) (m + 1) (ni 1001) = lI (D.row k).ea := @ni_den (vlSw D k p c) m 1001
theorem vlSw_chk : @denA (vlSw D k p c) 20 chkN = chkK D.db D.e D.most := by
  show @denA (vlSw D k p c) 20 (chkV (so 0) (ni 2) (ni 1)) = _
  rw [@chkV_den (vlSw D k p c), vlSw_s0 16, vlSw_i2 16, vlSw_i1 17]; rfl
theorem vlSw_v : @denA (vlSw D k p c) 20 vN = vvK (D.rows.map RowD.fs) := by
  show AV.agg (vList (.ro 13 (D.rows.map fun r => rowV r.fs))) = AV.agg (vList (.ro 13 ((D.rows.map RowD.fs).map rowV)))
  rw [List.map_map]; rfl
theorem vlSw_num : @denA (vlSw D k p c) 20 (.agg (vNum (so 1000) (ni 1001))) = .agg (vNum (lb (D.row k).da) (lI (D.row k).ea)) := by
  have : ∀ d x, @denA (vlSw D k p c) 20 (.agg (vNum d x)) = .agg (vNum (@denA (vlSw D k p c) 19 d) (@denA (vlSw D k p c) 19 x)) := fun _ _ => rfl
  rw [this, vlSw_s1000 18, vlSw_i1001 18]
theorem vlSw_txt : @denA (vlSw D k p c) 20 (.agg (vText (so 1002))) = .agg (vText (lb (D.row k).b)) := by
  have : ∀ d, @denA (vlSw D k p c) 20 (.agg (vText d)) = .agg (vText (@denA (vlSw D k p c) 19 d)) := fun _ => rfl
  rw [this, vlSw_s1002 18]
theorem vlSw_tag : @denA (vlSw D k p c) 20 (.agg (vText (so 1003))) = .agg (vText (lb (D.row k).t)) := by
  have : ∀ d, @denA (vlSw D k p c) 20 (.agg (vText d)) = .agg (vText (@denA (vlSw D k p c) 19 d)) := fun _ => rfl
  rw [this, vlSw_s1003 18]
theorem vlSw_evN (h : (D.row k).sh ∈ shs) : (evN (D.row k).sh).map (fun r => r.map (@denA (vlSw D k p c) 20)) = evR (D.row k) := by
  show (evF (D.row k).a (D.row k).d (D.row k).c (so 1000) (ni 1001) (so 1002) (so 1003)).map (fun r => r.map (@denA (vlSw D k p c) 20)) = _
  rw [@evF_den (vlSw D k p c) _ _ _ h, vlSw_s1000 19, vlSw_i1001 19, vlSw_s1002 19, vlSw_s1003 19]
  rfl
theorem shS (h : OkS D) : ∀ r, r ∈ D.rows → r.sh ∈ shs := by
  intro r hr
  obtain ⟨i, hi, rfl⟩ := List.mem_iff_getElem.1 hr
  have hs : D.row i = D.rows[i] := by
    unfold InE.row
    rw [List.getD_eq_getElem?_getD, List.getElem?_eq_getElem hi]; rfl
  have := (h.rk i hi).sh
  rw [hs] at this
  exact this
theorem evA_ok (h : OkS D) : FOK (evA D) := FOK.app (evs_ok (shS h) _ (Nat.le_refl _)) (ev0_ok 3)
theorem vvS_FOK (h : OkS D) : ∀ fs, fs ∈ D.rows.map RowD.fs → FOK fs := fun fs hfs => by
  obtain ⟨r, hr, rfl⟩ := List.mem_map.1 hfs
  exact fs_ok (shS h r hr)
theorem vlSw_rd (h : OkS D) (a : Nat) (row : List AV) (hr : row ∈ (vlSw D k p c).r a) (x : AV) (hx : x ∈ row) : x.dat = true ∧ Pure x := by
  have hr : row ∈ (if a = 0 then D.rows.map fun r => rowV r.fs else if a = 6 then evA D else []) := hr
  split at hr
  · obtain ⟨r, hfs, rfl⟩ := List.mem_map.1 hr
    exact rowV_ok (fs_ok (shS h r hfs)) x hx
  · split at hr
    · exact evA_ok h row hr x hx
    · cases hr
theorem evA_len (h : OkS D) : 3 ≤ (evA D).length ∧ (evA D).length ≤ 15602 ∧ (evA D).length = (evs D.rows D.rows.length).length + 1 := by
  have h1 := evs_len (shS h) D.rows.length (Nat.le_refl _)
  have hn := h.hn
  have h2 : (evA D).length = (evs D.rows D.rows.length).length + 1 := by unfold evA; rw [List.length_append]; rfl
  obtain ⟨rest, hs⟩ := evs_split (rows := D.rows) (n := D.rows.length) (k := 0) (by omega)
  have h3 := (evN_len (h.rk 0 (by omega)).sh).2
  rw [← evR_lenN _ (h.rk 0 (by omega)).sh] at h3
  have h4 : (evs D.rows D.rows.length).length = 1 + ((evR (D.row 0)).length + rest.length) := by
    rw [hs, List.length_append, List.length_append]; rfl
  omega
theorem bdS_ok (h : OkS D) {q : Nat × Int × Int} (hq : q ∈ bdS) : q.2.1 ≤ (vlSw D k p c).i q.1 ∧ (vlSw D k p c).i q.1 ≤ q.2.2 := by
  have hn := h.hn
  have hm : D.most ≤ 1200 := by
    have h2 := h.hm
    cases hl : D.l <;> rw [hl] at h2 <;> simp only at h2 <;> omega
  have he := evA_len h
  simp only [bdS, List.mem_cons, List.not_mem_nil, or_false] at hq
  rcases hq with rfl | rfl | rfl | rfl
  · show (1 : Int) ≤ (D.rows.length : Int) ∧ (D.rows.length : Int) ≤ 1200; omega
  · show (0 : Int) ≤ (D.most : Int) ∧ (D.most : Int) ≤ 1200; omega
  · exact h.he
  · show (3 : Int) ≤ ((evA D).length : Int) ∧ ((evA D).length : Int) ≤ 20000; omega
theorem rlS (q : Nat × Lin) (hq : q ∈ [(0, at1 4), (6, at1 107)]) : (((vlSw D k p c).r q.1).length : Int) = @Lin.val (vlSw D k p c) q.2 := by
  simp only [List.mem_cons, List.not_mem_nil, or_false] at hq
  rcases hq with rfl | rfl
  · show (((D.rows.map fun r => rowV r.fs).length : Nat) : Int) = 1 * (D.rows.length : Int) + 0 + 0
    rw [List.length_map]; omega
  · show (((evA D).length : Nat) : Int) = 1 * ((evA D).length : Int) + 0 + 0; omega
theorem ctS0_ok (h : OkS D) {f : Nat} {xs : List AV} {r : AV} (hp : (f, xs, r) ∈ ctS0) : @CtOK (vlSw D k p c) Tryz.prog f xs r := by
  simp only [ctS0, List.mem_cons, List.not_mem_nil, or_false, Prod.mk.injEq] at hp
  rcases hp with ⟨rfl, rfl, rfl⟩ | ⟨rfl, rfl, rfl⟩ | ⟨rfl, rfl, rfl⟩
  · refine @CS.call (vlSw D k p c) _ _ _ _ _ _ _ h.cp Tryz.func76 (names1 _ _ Tryz.func76) rfl ?_ (one_pure (chkK_pure _ _ _)) vlSw_chk (chkK_pure _ _ _)
    show [@denA (vlSw D k p c) 20 chkN] = _
    rw [vlSw_chk]
  · refine @CS.call (vlSw D k p c) _ _ _ _ _ _ _ h.ev Tryz.func39 (names1 _ _ Tryz.func39) rfl ?_ (one_pure (vvK_pure (vvS_FOK h))) rfl (.ro fun r hr y hy => (evA_ok h r hr y hy).2)
    show [@denA (vlSw D k p c) 20 vN] = _
    rw [vlSw_v]
  · refine @CS.call (vlSw D k p c) _ _ _ _ _ _ _ h.ck Tryz.func74 (names1 _ _ Tryz.func74) rfl ?_ (one_pure (chkK_pure _ _ _)) rfl .lit
    show [@denA (vlSw D k p c) 20 chkN] = _
    rw [vlSw_chk]
theorem ct37 {x : AV} {y : List AV} {Y : List AV} {b : Bool} (j : Int) (h : CS Tryz.prog 37 [chkK D.db D.e D.most, lI j, .agg Y] (lB b)) (hy : @denA (vlSw D k p c) 20 (.agg y) = .agg Y) (pY : Pure (.agg Y)) : @CtOK (vlSw D k p c) Tryz.prog 37 [chkN, lI j, .agg y] (lB b) := by
  refine @CS.call (vlSw D k p c) _ _ _ _ _ _ _ h Tryz.func37 (names1 _ _ Tryz.func37) rfl ?_ (three_pure (chkK_pure _ _ _) .lit pY) rfl .lit
  show [@denA (vlSw D k p c) 20 chkN, lI j, @denA (vlSw D k p c) 20 (.agg y)] = _
  rw [vlSw_chk, hy]
theorem ct63 {y : List AV} {Y : List AV} (h : CS Tryz.prog 63 [.agg Y] (lI 0)) (hy : @denA (vlSw D k p c) 20 (.agg y) = .agg Y) (pY : Pure (.agg Y)) : @CtOK (vlSw D k p c) Tryz.prog 63 [.agg y] (lI 0) := by
  refine @CS.call (vlSw D k p c) _ _ _ _ _ _ _ h Tryz.func63 (names1 _ _ Tryz.func63) rfl ?_ (one_pure pY) rfl .lit
  show [@denA (vlSw D k p c) 20 (.agg y)] = _
  rw [hy]
theorem ctS_ok (h : OkS D) (hk : k < D.rows.length) {f : Nat} {xs : List AV} {r : AV} (hp : (f, xs, r) ∈ ctS (D.cl k)) : @CtOK (vlSw D k p c) Tryz.prog f xs r := by
  have t122 : 122 ∈ tagL := by simp [tagL]
  have t120 : 120 ∈ tagL := by simp [tagL]
  simp only [ctS, List.mem_cons, List.not_mem_nil, or_false, Prod.mk.injEq] at hp
  rcases hp with ⟨rfl, rfl, rfl⟩ | ⟨rfl, rfl, rfl⟩ | ⟨rfl, rfl, rfl⟩ | ⟨rfl, rfl, rfl⟩ | ⟨rfl, rfl, rfl⟩ | ⟨rfl, rfl, rfl⟩ | ⟨rfl, rfl, rfl⟩ | ⟨rfl, rfl, rfl⟩ | ⟨rfl, rfl, rfl⟩ | ⟨rfl, rfl, rfl⟩ | ⟨rfl, rfl, rfl⟩ | ⟨rfl, rfl, rfl⟩
  · exact ct37 (x := .emp) 2 (h.pn k hk).1 vlSw_num (pureB_ok (n := 20) rfl)
  · exact ct37 (x := .emp) 3 (h.pt k hk).1 vlSw_txt (pureB_ok (n := 20) rfl)
  · exact ct37 (x := .emp) 6 h.pz.1 rfl (pureB_ok (n := 20) rfl)
  · exact ct37 (x := .emp) 5 (h.pl 122 t122).1 rfl (pureB_ok (n := 20) rfl)
  · exact ct37 (x := .emp) 5 (h.pl 120 t120).1 rfl (pureB_ok (n := 20) rfl)
  · exact ct37 (x := .emp) 5 (h.pg k hk).1 vlSw_tag (pureB_ok (n := 20) rfl)
  · exact ct63 (h.pn k hk).2 vlSw_num (pureB_ok (n := 20) rfl)
  · exact ct63 (h.pt k hk).2 vlSw_txt (pureB_ok (n := 20) rfl)
  · exact ct63 h.pz.2 rfl (pureB_ok (n := 20) rfl)
  · exact ct63 (h.pl 122 t122).2 rfl (pureB_ok (n := 20) rfl)
  · exact ct63 (h.pl 120 t120).2 rfl (pureB_ok (n := 20) rfl)
  · exact ct63 (h.pg k hk).2 vlSw_tag (pureB_ok (n := 20) rfl)
/-- where row 'k' begins -/
def posS (D : InE) (k : Nat) : Nat := (evs D.rows k).length
theorem pos_le (h : OkS D) (hk : k < D.rows.length) : 1 ≤ posS D k ∧ posS D k + (evR (D.row k)).length + 1 ≤ (evA D).length := by
  obtain ⟨rest, hs⟩ := evs_split (rows := D.rows) (n := D.rows.length) (k := k) hk
  have h1 := evs_len (shS h) k (Nat.le_of_lt hk)
  have h2 := (evA_len h).2.2
  have h3 : (evs D.rows D.rows.length).length = (evs D.rows k).length + ((evR (D.row k)).length + rest.length) := by
    rw [hs, List.length_append, List.length_append]; rfl
  unfold posS
  omega
theorem evA_get (h : OkS D) (hk : k < D.rows.length) {j : Nat} (hj : j < (evR (D.row k)).length) : (evA D)[posS D k + j]? = (evR (D.row k))[j]? := by
  obtain ⟨rest, hs⟩ := evs_split (rows := D.rows) (n := D.rows.length) (k := k) hk
  unfold evA posS
  rw [hs, List.append_assoc, List.getElem?_append_right (by omega), show (evs D.rows k).length + j - (evs D.rows k).length = j by omega]
  rw [List.append_assoc, List.getElem?_append_left (by exact hj)]
  rfl
theorem cfSr_ok (h : OkS D) (hk : k < D.rows.length) : @Cfg.OK (vlSw D k (posS D k) (cntR D.rows k)) (cfSr (D.cl k)) := by
  have hn := h.hn
  have hi := h.is k hk
  have hr := h.rk k hk
  have hp := pos_le h hk
  have hl := evA_len h
  have hc := cntR_le (shS h) k (Nat.le_of_lt hk)
  have hc1 : 1 ≤ cntR D.rows k := by
    have : ∀ k, 1 ≤ cntR D.rows k := by
      intro k
      induction k with
      | zero => exact Nat.le_refl _
      | succ k ih => simp only [cntR]; omega
    exact this k
  have hel : (evR (D.row k)).length = (evN (D.cl k).sh).length := by rw [evR_lenN _ hr.sh, hi.sh]
  refine cfgOK_of (fun q hq => ?_) (fun f hf => ?_) (vlSw_rd h) rfl (fun q hq => ?_) rlS (fun q hq => ?_)
  · have hq : q ∈ [(1001, (-1 : Int), (5 : Int)), (1004, 0, 7), (1005, 0, 3), (100, 0, 1199), (106, 1, 20000), (108, 1, 20000)] ++ bdS := hq
    rcases List.mem_append.1 hq with hq | hq
    · simp only [List.mem_cons, List.not_mem_nil, or_false] at hq
      rcases hq with rfl | rfl | rfl | rfl | rfl | rfl
      · exact hr.ea
      · show (0 : Int) ≤ ((D.row k).da.length : Int) ∧ ((D.row k).da.length : Int) ≤ 7; have := hr.da; omega
      · show (0 : Int) ≤ ((D.row k).b.length : Int) ∧ ((D.row k).b.length : Int) ≤ 3; have := hr.b; omega
      · show (0 : Int) ≤ (k : Int) ∧ (k : Int) ≤ 1199; omega
      · show (1 : Int) ≤ (posS D k : Int) ∧ (posS D k : Int) ≤ 20000; omega
      · show (1 : Int) ≤ (cntR D.rows k : Int) ∧ (cntR D.rows k : Int) ≤ 20000; omega
    · exact bdS_ok h hq
  · simp only [cfSr, List.mem_cons, List.not_mem_nil, or_false] at hf
    rcases hf with rfl | rfl
    · show (0 : Int) ≤ 1 * (D.rows.length : Int) + (-1 * (k : Int) + 0) + -1; omega
    · show (0 : Int) ≤ 1 * ((evA D).length : Int) + (-1 * (posS D k : Int) + 0) + (- ((evN (D.cl k).sh).length : Int) - 1)
      omega
  · simp only [cfSr, List.mem_cons, List.not_mem_nil, or_false] at hq
    rcases hq with rfl | rfl
    · show (((D.row k).da.length : Nat) : Int) = 1 * ((D.row k).da.length : Int) + 0 + 0; omega
    · show (((D.row k).b.length : Nat) : Int) = 1 * ((D.row k).b.length : Int) + 0 + 0; omega
  · obtain ⟨j, e, hj, rfl⟩ := rvS_mem (show q ∈ rvS (evN (D.cl k).sh) 0 from hq)
    have hjl : j < (evN (D.cl k).sh).length := (List.getElem?_eq_some_iff.1 hj).1
    refine ⟨posS D k + j, ?_, ?_⟩
    · show 1 * (posS D k : Int) + 0 + ((0 + j : Nat) : Int) = ((posS D k + j : Nat) : Int)
      push_cast; omega
    · show (evA D)[posS D k + j]? = _
      rw [evA_get h hk (by omega), ← vlSw_evN (p := posS D k) (c := cntR D.rows k) hr.sh, List.getElem?_map, hi.sh, hj]
      rfl
theorem cfSr_tell (h : OkS D) (hk : k < D.rows.length) : @Tell (vlSw D k (posS D k) (cntR D.rows k)) (cfSr (D.cl k)) Tryz.prog := by
  refine @tellOf (vlSw D k (posS D k) (cntR D.rows k)) _ (cfSr_ok h hk) rfl rfl fun f xs r hp => ?_
  rcases List.mem_append.1 (show (f, xs, r) ∈ ctS (D.cl k) ++ ctS0 from hp) with hp | hp
  · exact ctS_ok h hk hp
  · exact ctS0_ok h hp
theorem cfS0_ok (h : OkS D) : @Cfg.OK (vlSw D k p c) { cfSt with rv := [(6, ([], 0), ev0 2)] } := by
  refine cfgOK_of (fun q hq => bdS_ok h hq) (fun f hf => by cases hf) (vlSw_rd h) rfl (fun q hq => by cases hq) rlS (fun q hq => ?_)
  simp only [List.mem_cons, List.not_mem_nil, or_false] at hq
  subst hq
  refine ⟨0, rfl, ?_⟩
  obtain ⟨rest, hr⟩ := evs_head (rows := D.rows) D.rows.length
  show (evA D)[0]? = _
  unfold evA
  rw [hr]; rfl
theorem cfSt_ok (h : OkS D) : @Cfg.OK (vlSw D k p c) cfSt := cfgOK_of (fun q hq => bdS_ok h hq) (fun f hf => by cases hf) (vlSw_rd h) rfl (fun q hq => by cases hq) rlS (fun q hq => by cases hq)
theorem cnt_pos (D : InE) (k : Nat) : 1 ≤ cntR D.rows k := by
  induction k with
  | zero => exact Nat.le_refl _
  | succ k ih => simp only [cntR]; omega
theorem cfSe_ok (h : OkS D) : @Cfg.OK (vlSw D D.rows.length (posS D D.rows.length) (cntR D.rows D.rows.length)) (cfSe D.l) := by
  have hn := h.hn
  have hm := h.hm
  have hl := evA_len h
  have hc := cntR_le (shS h) D.rows.length (Nat.le_refl _)
  have hc1 := cnt_pos D D.rows.length
  have hp1 := (evs_len (shS h) D.rows.length (Nat.le_refl _)).1
  have hpp : posS D D.rows.length = (evs D.rows D.rows.length).length := rfl
  refine cfgOK_of (fun q hq => ?_) (fun f hf => ?_) (vlSw_rd h) rfl (fun q hq => by cases hq) rlS (fun q hq => ?_)
  · have hq : q ∈ [(100, (1 : Int), (1200 : Int)), (106, 1, 20000), (108, 1, 20000)] ++ bdS := hq
    rcases List.mem_append.1 hq with hq | hq
    · simp only [List.mem_cons, List.not_mem_nil, or_false] at hq
      rcases hq with rfl | rfl | rfl
      · show (1 : Int) ≤ (D.rows.length : Int) ∧ (D.rows.length : Int) ≤ 1200; omega
      · show (1 : Int) ≤ (posS D D.rows.length : Int) ∧ (posS D D.rows.length : Int) ≤ 20000; omega
      · show (1 : Int) ≤ (cntR D.rows D.rows.length : Int) ∧ (cntR D.rows D.rows.length : Int) ≤ 20000; omega
    · exact bdS_ok h hq
  · simp only [cfSe, List.mem_cons, List.not_mem_nil, or_false] at hf
    rcases hf with rfl | rfl | rfl | rfl | rfl
    · show (0 : Int) ≤ 1 * (D.rows.length : Int) + (-1 * (D.rows.length : Int) + 0) + 0; omega
    · show (0 : Int) ≤ -1 * (D.rows.length : Int) + (1 * (D.rows.length : Int) + 0) + 0; omega
    · show (0 : Int) ≤ 1 * (posS D D.rows.length : Int) + (-1 * ((evA D).length : Int) + 0) + 1; omega
    · show (0 : Int) ≤ -1 * (posS D D.rows.length : Int) + (1 * ((evA D).length : Int) + 0) + -1; omega
    · unfold fs100
      cases hl : D.l with
      | true =>
        rw [hl] at hm
        show (0 : Int) ≤ -1 * (D.most : Int) + (1 * (D.rows.length : Int) + 0) + -1
        simp only at hm; omega
      | false =>
        rw [hl] at hm
        show (0 : Int) ≤ 1 * (D.most : Int) + (-1 * (D.rows.length : Int) + 0) + 0
        simp only at hm; omega
  · simp only [cfSe, List.mem_cons, List.not_mem_nil, or_false] at hq
    subst hq
    refine ⟨posS D D.rows.length, ?_, ?_⟩
    · show 1 * (posS D D.rows.length : Int) + 0 + 0 = _; omega
    · show (evA D)[posS D D.rows.length]? = _
      unfold evA posS
      rw [List.getElem?_append_right (Nat.le_refl _), Nat.sub_self]; rfl
/-- the end -/
abbrev vlSF (D : InE) : VL := vlSw D D.rows.length (posS D D.rows.length + 1) (cntR D.rows D.rows.length)
theorem cfSx_ok (h : OkS D) : @Cfg.OK (vlSF D) cfSx := by
  have hn := h.hn
  have hl := evA_len h
  have hc := cntR_le (shS h) D.rows.length (Nat.le_refl _)
  have hc1 := cnt_pos D D.rows.length
  have hpp : posS D D.rows.length = (evs D.rows D.rows.length).length := rfl
  refine cfgOK_of (fun q hq => ?_) (fun f hf => ?_) (vlSw_rd h) rfl (fun q hq => by cases hq) rlS (fun q hq => by cases hq)
  · have hq : q ∈ [(100, (0 : Int), (1200 : Int)), (106, 1, 20000), (108, 1, 20000)] ++ bdS := hq
    rcases List.mem_append.1 hq with hq | hq
    · simp only [List.mem_cons, List.not_mem_nil, or_false] at hq
      rcases hq with rfl | rfl | rfl
      · show (0 : Int) ≤ (D.rows.length : Int) ∧ (D.rows.length : Int) ≤ 1200; omega
      · show (1 : Int) ≤ ((posS D D.rows.length + 1 : Nat) : Int) ∧ ((posS D D.rows.length + 1 : Nat) : Int) ≤ 20000; omega
      · show (1 : Int) ≤ (cntR D.rows D.rows.length : Int) ∧ (cntR D.rows D.rows.length : Int) ≤ 20000; omega
    · exact bdS_ok h hq
  · simp only [cfSx, List.mem_cons, List.not_mem_nil, or_false] at hf
    rcases hf with rfl | rfl
    · show (0 : Int) ≤ 1 * ((posS D D.rows.length + 1 : Nat) : Int) + (-1 * ((evA D).length : Int) + 0) + 0; omega
    · show (0 : Int) ≤ -1 * ((posS D D.rows.length + 1 : Nat) : Int) + (1 * ((evA D).length : Int) + 0) + 0; omega
theorem vlSw_chg {k' p' c' : Nat} {is : List (Nat × Lin)} (h100 : lk2 is 100 = none → k' = k) (h106 : lk2 is 106 = none → p' = p) (h108 : lk2 is 108 = none → c' = c) (hi : ∀ q, q ∈ is → (vlSw D k' p' c').i q.1 = @Lin.val (vlSw D k p c) q.2) :
    SubOK (vlSw D k p c) (vlSw D k' p' c') { i := is } := by
  refine subOK_of (fun a ha hn => ?_) hi (fun a ha hn => ?_) (fun q hq => by cases hq) rfl (fun a ha hn => rfl) (fun q hq => by cases hq) (fun a ha => by cases ha) (fun q hq => by cases hq) rfl
  · show (if a = 100 then (k' : Int) else if a = 106 then (p' : Int) else if a = 108 then (c' : Int) else if a = 107 then _ else if a = 4 then _ else if a = 2 then _ else if a = 1 then _ else if a = 1001 then _ else if a = 1004 then _ else if a = 1005 then _ else 0) =
      (if a = 100 then (k : Int) else if a = 106 then (p : Int) else if a = 108 then (c : Int) else if a = 107 then _ else if a = 4 then _ else if a = 2 then _ else if a = 1 then _ else if a = 1001 then _ else if a = 1004 then _ else if a = 1005 then _ else 0)
    by_cases e1 : a = 100
    · subst e1; rw [if_pos rfl, if_pos rfl, h100 hn]
    · rw [if_neg e1, if_neg e1]
      by_cases e2 : a = 106
      · subst e2; rw [if_pos rfl, if_pos rfl, h106 hn]
      · rw [if_neg e2, if_neg e2]
        by_cases e3 : a = 108
        · subst e3; rw [if_pos rfl, if_pos rfl, h108 hn]
        · rw [if_neg e3, if_neg e3, if_neg (by omega : ¬ a = 1001), if_neg (by omega : ¬ a = 1004), if_neg (by omega : ¬ a = 1005), if_neg (by omega : ¬ a = 1001), if_neg (by omega : ¬ a = 1004), if_neg (by omega : ¬ a = 1005)]
  · show (if a = 0 then _ else if a = 1000 then _ else if a = 1002 then _ else if a = 1003 then _ else _) = (if a = 0 then _ else if a = 1000 then _ else if a = 1002 then _ else if a = 1003 then _ else _)
    rw [if_neg (by omega : ¬ a = 1000), if_neg (by omega : ¬ a = 1002), if_neg (by omega : ¬ a = 1003), if_neg (by omega : ¬ a = 1000), if_neg (by omega : ¬ a = 1002), if_neg (by omega : ¬ a = 1003)]
end
end Go.Abs
end
section
open Go.Proofs
set_option maxRecDepth 100000
namespace Go.Abs
section
variable {D : InE}
abbrev vkS (D : InE) : Nat → VL
  | 0 => vlSF D
  | j + 1 => match Nat.ble j D.rows.length with
    | true => vlSw D j (posS D j) (cntR D.rows j)
    | false => vlSF D
def phS (D : InE) (w : Nat → Nat) (fin : Nat) : Nat → Nat
  | 0 => 2
  | j + 1 => match Nat.ble j D.rows.length with
    | true => w j
    | false => fin
theorem vkS_le {j : Nat} (h : j ≤ D.rows.length) : vkS D (j + 1) = vlSw D j (posS D j) (cntR D.rows j) := by
  have : Nat.ble j D.rows.length = true := by simpa using h
  simp only [vkS, this]
theorem vkS_end : vkS D (D.rows.length + 2) = vlSF D := by
  have : Nat.ble (D.rows.length + 1) D.rows.length = false := by
    cases e : Nat.ble (D.rows.length + 1) D.rows.length with
    | false => rfl
    | true => have := Nat.le_of_ble_eq_true e; omega
  simp only [vkS, this]
theorem phS_le {w : Nat → Nat} {fin j : Nat} (h : j ≤ D.rows.length) : phS D w fin (j + 1) = w j := by
  have : Nat.ble j D.rows.length = true := by simpa using h
  simp only [phS, this]
theorem phS_end {w : Nat → Nat} {fin : Nat} : phS D w fin (D.rows.length + 2) = fin := by
  have : Nat.ble (D.rows.length + 1) D.rows.length = false := by
    cases e : Nat.ble (D.rows.length + 1) D.rows.length with
    | false => rfl
    | true => have := Nat.le_of_ble_eq_true e; omega
  simp only [phS, this]
theorem lpS (h : OkS D) (good : Bool) (w : Nat → Nat) (hw0 : w 0 = 0) (hc : ∀ k, k < D.rows.length → casS (D.cl k) (w k) (w (k + 1)) ∈ csS D.l good) (he : casSe D.l (w D.rows.length) (L15 D.l good).fin ∈ csS D.l good) : LpOK (vlSF D) Tryz.prog (L15 D.l good) := by
  refine ⟨⟨D.rows.length + 2, vkS D, phS D w (L15 D.l good).fin, vkS_end, rfl, phS_end, ?_, fun j hj => ?_⟩, cfSx_ok h, @tellOf (vlSF D) _ (cfSx_ok h) rfl rfl fun f xs r hp => ctS0_ok h hp⟩
  · exact vlSw_chg (is := []) (fun _ => rfl) (fun _ => rfl) (fun _ => rfl) (fun q hq => by cases hq)
  · cases j with
    | zero =>
      refine ⟨casS0, List.mem_cons_self, rfl, ?_, cfS0_ok h, @tellOf (vlSF D) _ (cfS0_ok h) rfl rfl fun f xs r hp => ctS0_ok h hp, ?_⟩
      · rw [phS_le (Nat.zero_le _), hw0]; rfl
      · rw [vkS_le (Nat.zero_le _)]
        refine vlSw_chg (fun hn => by simp [lk2] at hn) (fun hn => by simp [lk2] at hn) (fun hn => by simp [lk2] at hn) (fun q hq => ?_)
        simp only [List.mem_cons, List.not_mem_nil, or_false] at hq
        rcases hq with rfl | rfl | rfl <;> rfl
    | succ j =>
      rcases Nat.lt_or_ge j D.rows.length with hjn | hjn
      · have hs := (h.rk j hjn).sh
        refine ⟨_, hc j hjn, ?_, ?_, ?_, ?_, ?_⟩
        · rw [phS_le (Nat.le_of_lt hjn)]; rfl
        · rw [phS_le (by omega : j + 1 ≤ D.rows.length)]; rfl
        · rw [vkS_le (Nat.le_of_lt hjn)]; exact cfSr_ok h hjn
        · rw [vkS_le (Nat.le_of_lt hjn)]; exact cfSr_tell h hjn
        · rw [vkS_le (Nat.le_of_lt hjn), vkS_le (by omega : j + 1 ≤ D.rows.length)]
          refine vlSw_chg (fun hn => by simp [lk2] at hn) (fun hn => by simp [lk2] at hn) (fun hn => by simp [lk2] at hn) (fun q hq => ?_)
          simp only [List.mem_cons, List.not_mem_nil, or_false] at hq
          rcases hq with rfl | rfl | rfl
          · show ((j + 1 : Nat) : Int) = 1 * (j : Int) + 0 + 1
            push_cast; omega
          · show ((posS D (j + 1) : Nat) : Int) = 1 * (posS D j : Int) + 0 + ((evN (D.cl j).sh).length : Int)
            have e1 : posS D (j + 1) = posS D j + (evR (D.row j)).length := by
              unfold posS
              simp only [evs, List.length_append]; rfl
            rw [e1, evR_lenN _ hs, (h.is j hjn).sh]
            push_cast; omega
          · show ((cntR D.rows (j + 1) : Nat) : Int) = 1 * (cntR D.rows j : Int) + 0 + (nv (D.cl j).sh : Int)
            have e2 : cntR D.rows (j + 1) = cntR D.rows j + nv (D.row j).sh := rfl
            rw [e2, (h.is j hjn).sh]
            push_cast; omega
      · have hje : j = D.rows.length := by omega
        subst hje
        refine ⟨_, he, ?_, ?_, ?_, ?_, ?_⟩
        · rw [phS_le (Nat.le_refl _)]; rfl
        · rw [phS_end]; rfl
        · rw [vkS_le (Nat.le_refl _)]; exact cfSe_ok h
        · rw [vkS_le (Nat.le_refl _)]
          exact @tellOf (vlSw D D.rows.length (posS D D.rows.length) (cntR D.rows D.rows.length)) _ (cfSe_ok h) rfl rfl fun f xs r hp => ctS0_ok h hp
        · rw [vkS_le (Nat.le_refl _), vkS_end]
          refine vlSw_chg (fun _ => rfl) (fun hn => by simp [lk2] at hn) (fun _ => rfl) (fun q hq => ?_)
          simp only [List.mem_cons, List.not_mem_nil, or_false] at hq
          subst hq
          show ((posS D D.rows.length + 1 : Nat) : Int) = 1 * (posS D D.rows.length : Int) + 0 + 1
          push_cast; omega
theorem argsS (good : Bool) : [chkN, vN, lB good].map (@denA (vlSF D) 20) = [chkK D.db D.e D.most, vvK (D.rows.map RowD.fs), lB good] := by
  show [@denA (vlSF D) 20 chkN, @denA (vlSF D) 20 vN, lB good] = _
  rw [vlSw_chk, vlSw_v]
theorem watched_good (h : OkS D) (hl : D.l = false) (hg : ∀ k, k < D.rows.length → isK (D.cl k).k 0 = true) : CS Tryz.prog 15 [chkK D.db D.e D.most, vvK (D.rows.map RowD.fs), lB true] (lB true) := by
  refine @csG_of (vlSF D) cfSt (L15 D.l true) (cfSt_ok h) (@tellOf (vlSF D) _ (cfSt_ok h) rfl rfl fun f xs r hp => ctS0_ok h hp) (lpS h true (fun _ => 0) rfl (fun k hk => ?_) ?_) 100 15 _ _ (by rw [hl]; exact runS_good) _ _ (argsS true) rfl (three_pure (chkK_pure _ _ _) (vvK_pure (vvS_FOK h)) .lit) .lit
  · refine List.mem_cons_of_mem _ (List.mem_cons_of_mem _ (List.mem_map.2 ⟨D.cl k, List.mem_filter.2 ⟨(h.is k hk).mem, hg k hk⟩, rfl⟩))
  · exact List.mem_cons_of_mem _ List.mem_cons_self
theorem watched_bad (h : OkS D) (hb : D.l = true ∨ ∃ k, k < D.rows.length ∧ isK (D.cl k).k 0 = false) : CS Tryz.prog 15 [chkK D.db D.e D.most, vvK (D.rows.map RowD.fs), lB false] (lB true) := by
  have gg : ∀ c, c ∈ clsE → ∀ f, (f = 0 ∨ f = 1) → isK c.k 0 = true → casS c f f ∈ csS D.l false := by
    intro c hc f hf hk
    have hm : c ∈ goodE := List.mem_filter.2 ⟨hc, hk⟩
    refine List.mem_cons_of_mem _ (List.mem_append.2 (.inr ?_))
    rcases hf with rfl | rfl
    · exact List.mem_append.2 (.inl (List.mem_map.2 ⟨c, hm, rfl⟩))
    · exact List.mem_append.2 (.inr (List.mem_append.2 (.inl (List.mem_map.2 ⟨c, hm, rfl⟩))))
  have gb : ∀ c, c ∈ clsE → ∀ f, (f = 0 ∨ f = 1) → isK c.k 0 = false → casS c f 1 ∈ csS D.l false := by
    intro c hc f hf hk
    have hm : c ∈ badE := List.mem_filter.2 ⟨hc, by rw [hk]; rfl⟩
    refine List.mem_cons_of_mem _ (List.mem_append.2 (.inr (List.mem_append.2 (.inr (List.mem_append.2 (.inr ?_))))))
    rcases hf with rfl | rfl
    · exact List.mem_append.2 (.inl (List.mem_map.2 ⟨c, hm, rfl⟩))
    · exact List.mem_append.2 (.inr (List.mem_map.2 ⟨c, hm, rfl⟩))
  refine @csG_of (vlSF D) cfSt (L15 D.l false) (cfSt_ok h) (@tellOf (vlSF D) _ (cfSt_ok h) rfl rfl fun f xs r hp => ctS0_ok h hp) (lpS h false (fun k => if cntE false D.cl k = 0 then 0 else 1) rfl (fun k hk => ?_) ?_) 100 15 _ _ (runS_bad D.l) _ _ (argsS false) rfl (three_pure (chkK_pure _ _ _) (vvK_pure (vvS_FOK h)) .lit) .lit
  · have hc := (h.is k hk).mem
    by_cases h0 : cntE false D.cl k = 0
    · cases hz : isK (D.cl k).k 0 with
      | true =>
        have : cntE false D.cl (k + 1) = 0 := by simp only [cntE, hz]; omega
        rw [if_pos h0, if_pos this]
        exact gg _ hc 0 (.inl rfl) hz
      | false =>
        have : ¬ cntE false D.cl (k + 1) = 0 := by simp only [cntE, hz]; omega
        rw [if_pos h0, if_neg this]
        exact gb _ hc 0 (.inl rfl) hz
    · have : ¬ cntE false D.cl (k + 1) = 0 := by simp only [cntE]; omega
      rw [if_neg h0, if_neg this]
      cases hz : isK (D.cl k).k 0 with
      | true => exact gg _ hc 1 (.inr rfl) hz
      | false => exact gb _ hc 1 (.inr rfl) hz
  · show casSe D.l (if cntE false D.cl D.rows.length = 0 then 0 else 1) 4 ∈ csS D.l false
    refine List.mem_cons_of_mem _ (List.mem_append.2 (.inl ?_))
    cases hl : D.l with
    | true =>
      by_cases h0 : cntE false D.cl D.rows.length = 0
      · rw [if_pos h0]; exact List.mem_cons_self
      · rw [if_neg h0]; exact List.mem_cons_of_mem _ List.mem_cons_self
    | false =>
      have h1 : ¬ cntE false D.cl D.rows.length = 0 := by
        rcases hb with hb | ⟨k, hk, hz⟩
        · rw [hl] at hb; cases hb
        · have h2 := cntE_mono false D.cl (n := D.rows.length) (k := k + 1) hk
          have h3 : 1 ≤ cntE false D.cl (k + 1) := by simp only [cntE, hz]; omega
          omega
      rw [if_neg h1]; exact List.mem_cons_self
end
end Go.Abs
end
