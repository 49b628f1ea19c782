/- Part 13 of the proof that TopRows returns true for every input of its row (no condition beyond the row). -/
import Derived.Test.YthoapgncpjhloaaGreatDoorJ5
import Derived.Test.YthoapgncpjhloaaGreatDoorJ6
import Derived.Test.YthoapgncpjhloaaGreatDoorJ9
import Derived.Test.YthoapgncpjhloaaGreatDoorJ10
import Derived.Test.YthoapgncpjhloaaGreatDoorJ12
set_option linter.unusedVariables false
set_option linter.unusedSimpArgs false
set_option linter.unusedSectionVars false
set_option linter.all false
section
open Go.Proofs
set_option maxRecDepth 100000
namespace Go.Abs
def sgn (x y : Nat) : Int := if x < y then -1 else if y < x then 1 else 0
noncomputable def runV2 (k : Nat) : Bool := okTop (topF (cfgF k 0) [] Tryz.prog 100 158 [decS 0 k 0 (-1)]) (.lit (.bool true))
theorem kV2 : (rng 1 6).all runV2 = true := by kernel_rfl
theorem valid2_cs {x k : Nat} (s : Shp x k 0) (h1 : 1 ≤ k) : CS Tryz.prog 158 [decK x k 0 (-1)] (.lit (.bool true)) := by
  have hk : k ∈ rng 1 6 := by
    have := s.k6
    have : k = 1 ∨ k = 2 ∨ k = 3 ∨ k = 4 ∨ k = 5 ∨ k = 6 := by omega
    rcases this with rfl | rfl | rfl | rfl | rfl | rfl <;> simp [rng]
  have h := List.all_eq_true.1 kV2 _ hk
  refine @cs_of (vlN x 0 0) (cfgF k 0) [] (cfgF_ok s) (tellF s) (by simp) 100 158 _ _ h _ _ ?_ rfl (by simp; exact decK_pure x k 0 (-1)) .lit
  show [@denA (vlN x 0 0) 20 (decS 0 k 0 (-1))] = _
  rw [@decS_den (vlN x 0 0) 0 x k 0 (-1) (vlN_x x 0 0) s.k6 s.zk]
theorem low0 {x : Nat} : ∀ m, (∀ j, j < m → dgt x j = 0) → x % 10 ^ m = 0
  | 0, _ => by simp [Nat.mod_one]
  | m + 1, h => by
    rw [Nat.pow_succ, Nat.mod_mul, low0 m fun j hj => h j (by omega)]
    have := h m (by omega)
    unfold dgt at this
    rw [this]; simp
theorem Shp.ge {x k z : Nat} (s : Shp x k z) (h : 1 ≤ k) : 10 ^ (k - 1) ≤ x := by
  have h1 := s.kk (k - 1) (by omega)
  unfold dgt at h1
  have h2 : 1 ≤ x / 10 ^ (k - 1) := Nat.le_trans h1 (Nat.mod_le _ _)
  have := (Nat.le_div_iff_mul_le (Nat.pow_pos (by omega))).1 h2
  omega
theorem sgn_lt {x y k k2 z z2 : Nat} (sx : Shp x k z) (sy : Shp y k2 z2) (h : k < k2) : x < y := by
  have h1 := sx.lt
  have h2 := sy.ge (by omega)
  have h3 : (10 : Nat) ^ k ≤ 10 ^ (k2 - 1) := Nat.pow_le_pow_right (by omega) (by omega)
  omega
/-- the bytes that are compared -/
def bytX (half : Bool) (x k z z2 : Nat) : List UInt8 := digB x (k - z) z ++ List.replicate (match half with | false => z - min z z2 | true => 0) 48
def bytY (half : Bool) (y z k2 z2 : Nat) : List UInt8 := digB y (k2 - z2) z2 ++ List.replicate (match half with | false => z2 - min z z2 | true => z2 + 1) 48
theorem mkS_vl' [VL] (ps : List SP) : (mkS ps).vl = some (.string (sval ps)) := mkS_vl ps
section
variable {x y k z k2 z2 : Nat}
def cH (half : Bool) (x y k z k2 z2 : Nat) : Int := Lib.compareBytes (bytX half x k z z2) (bytY half y z k2 z2)
abbrev vlH (half : Bool) (x y k z k2 z2 : Nat) : VL := vlN x y (cH half x y k z k2 z2)
theorem cfgH_ok (half : Bool) (sx : Shp x k z) (sy : Shp y k2 z2) : @Cfg.OK (vlH half x y k z k2 z2) (cfgH half k z k2 z2) := by
  refine cfgOK_of (fun p hp => ?_) (fun f hf => by cases hf) (fun a row h => by cases h) rfl (fun p hp => by cases hp) (fun p hp => by cases hp) (fun p hp => by cases hp)
  have hp : p ∈ bdD 0 k z ++ bdD 10 k2 z2 := hp
  rcases List.mem_append.1 hp with hp | hp
  · exact @bdD_ok (vlH half x y k z k2 z2) 0 x k z (vlN_x x y _) sx _ _ _ hp
  · exact @bdD_ok (vlH half x y k z k2 z2) 10 y k2 z2 (vlN_y x y _) sy _ _ _ hp
theorem sval_X (half : Bool) (sx : Shp x k z) (hz : half = true → z = 0) : ∃ ps, strX half k z z2 = mkS ps ∧ ps.flatMap (@SP.val (vlH half x y k z k2 z2)) = bytX half x k z z2 := by
  have hd := @digS_val (vlH half x y k z k2 z2) 0 x (vlN_x x y _) (k - z) z (by have := sx.k6; have := sx.zk; omega)
  cases half with
  | false => exact ⟨_, rfl, by rw [List.flatMap_append, hd, @padS_val (vlH false x y k z k2 z2)]; rfl⟩
  | true => exact ⟨_, rfl, by rw [hd]; simp [bytX]⟩
theorem sval_Y (half : Bool) (sy : Shp y k2 z2) : ∃ ps, strY half z k2 z2 = mkS ps ∧ ps.flatMap (@SP.val (vlH half x y k z k2 z2)) = bytY half y z k2 z2 := by
  have hd := @digS_val (vlH half x y k z k2 z2) 10 y (vlN_y x y _) (k2 - z2) z2 (by have := sy.k6; have := sy.zk; omega)
  cases half with
  | false => exact ⟨_, rfl, by rw [List.flatMap_append, hd, @padS_val (vlH false x y k z k2 z2)]; rfl⟩
  | true => exact ⟨_, rfl, by rw [List.flatMap_append, hd, @padS_val (vlH true x y k z k2 z2)]; rfl⟩
theorem cfgH_tell (half : Bool) (sx : Shp x k z) (sy : Shp y k2 z2) (hz : half = true → z = 0 ∧ 1 ≤ k) : @Tell (vlH half x y k z k2 z2) (cfgH half k z k2 z2) Tryz.prog := by
  refine @tellOf (vlH half x y k z k2 z2) _ (cfgH_ok half sx sy) rfl rfl fun f xs r hp => ?_
  simp only [cfgH, List.mem_cons, List.not_mem_nil, or_false] at hp
  rcases hp with ⟨rfl, rfl, rfl⟩ | ⟨rfl, rfl, rfl⟩ | ⟨rfl, rfl, rfl⟩
  · have hv : CS Tryz.prog 158 [decK x k z (dxH half)] (.lit (.bool true)) := by
      cases half with
      | false => exact valid_cs sx
      | true =>
        obtain ⟨rfl, h1⟩ := hz rfl
        exact valid2_cs sx h1
    refine @CS.call (vlH half x y k z k2 z2) _ _ _ _ _ _ _ hv Tryz.func158 (names1 _ _ Tryz.func158) rfl ?_ (by simp; exact decK_pure _ _ _ _) rfl .lit
    show [@denA (vlH half x y k z k2 z2) 20 (decS 0 k z (dxH half))] = _
    rw [@decS_den (vlH half x y k z k2 z2) 0 x k z (dxH half) (vlN_x x y _) sx.k6 sx.zk]
  · refine @CS.call (vlH half x y k z k2 z2) _ _ _ _ _ _ _ (valid_cs sy) Tryz.func158 (names1 _ _ Tryz.func158) rfl ?_ (by simp; exact decK_pure _ _ _ _) rfl .lit
    show [@denA (vlH half x y k z k2 z2) 20 (decS 10 k2 z2 0)] = _
    rw [@decS_den (vlH half x y k z k2 z2) 10 y k2 z2 0 (vlN_y x y _) sy.k6 sy.zk]
  · obtain ⟨px, ex, bx⟩ := sval_X (y := y) (k2 := k2) (z2 := z2) half sx fun h => (hz h).1
    obtain ⟨py, ey, by'⟩ := sval_Y (x := x) (k := k) (z := z) half sy
    refine @CtOK.mk (vlH half x y k z k2 z2) _ _ _ _ ?_ fun fn hf hb => ?_
    · rw [ex, ey]
      refine @extCall (vlH half x y k z k2 z2) _ _ _ _ _ (.int .i64 (cH half x y k z k2 z2)) Extern.BytealgCompare.compare Tryz.func205 (names1 _ _ Tryz.func205) (by kernel_rfl) (by kernel_rfl) (by kernel_rfl) [.string (@sval (vlH half x y k z k2 z2) px), .string (@sval (vlH half x y k z k2 z2) py)] (by simp [vls, mkS_vl']) (fun w => ?_) ?_ rfl
      · rw [show ([Value.string (@sval (vlH half x y k z k2 z2) px), Value.string (@sval (vlH half x y k z k2 z2) py)] : List Value).toArray = #[.string (@sval (vlH half x y k z k2 z2) px), .string (@sval (vlH half x y k z k2 z2) py)] from rfl, Lib.run_compareString]
        simp only [sval, bx, by']
        rfl
      · show some (Value.int .i64 (1 * cH half x y k z k2 z2 + 0 + 0)) = _
        congr 2; omega
    · rw [Tryz.func205] at hf
      cases hf
      cases hb
theorem cH_false (sx : Shp x k z) (sy : Shp y k z2) : cH false x y k z k z2 = sgn x y := by
  unfold cH bytX bytY
  have hm1 : min z z2 ≤ z := Nat.min_le_left _ _
  have hm2 : min z z2 ≤ z2 := Nat.min_le_right _ _
  simp only
  rw [digB_pad sx.z0 hm1 sx.zk, digB_pad sy.z0 hm2 sy.zk]
  generalize hm : min z z2 = m at *
  rw [cmp_digB]
  have lx := low0 m fun j hj => sx.z0 j (by omega)
  have ly := low0 m fun j hj => sy.z0 j (by omega)
  have hkm : m ≤ k := Nat.le_trans hm1 sx.zk
  have bx : x / 10 ^ m % 10 ^ (k - m) = x / 10 ^ m := Nat.mod_eq_of_lt (by
    rw [Nat.div_lt_iff_lt_mul (Nat.pow_pos (by omega)), ← Nat.pow_add, show k - m + m = k by omega]; exact sx.lt)
  have by' : y / 10 ^ m % 10 ^ (k - m) = y / 10 ^ m := Nat.mod_eq_of_lt (by
    rw [Nat.div_lt_iff_lt_mul (Nat.pow_pos (by omega)), ← Nat.pow_add, show k - m + m = k by omega]; exact sy.lt)
  rw [bx, by']
  have ex : x = 10 ^ m * (x / 10 ^ m) := by have := Nat.div_add_mod x (10 ^ m); omega
  have ey : y = 10 ^ m * (y / 10 ^ m) := by have := Nat.div_add_mod y (10 ^ m); omega
  have hpos : 0 < 10 ^ m := Nat.pow_pos (by omega)
  unfold sgn
  have l1 : x / 10 ^ m < y / 10 ^ m ↔ x < y := by
    constructor
    · intro h; rw [ex, ey]; exact Nat.mul_lt_mul_of_pos_left h hpos
    · intro h; rw [ex, ey] at h; exact Nat.lt_of_mul_lt_mul_left h
  have l2 : y / 10 ^ m < x / 10 ^ m ↔ y < x := by
    constructor
    · intro h; rw [ex, ey]; exact Nat.mul_lt_mul_of_pos_left h hpos
    · intro h; rw [ex, ey] at h; exact Nat.lt_of_mul_lt_mul_left h
  simp only [l1, l2]
theorem cmp_cs (sx : Shp x k z) (sy : Shp y k2 z2) (h5 : k2 ≤ 5) : CS Tryz.prog 201 [decK x k z 0, decK y k2 z2 0] (.lit (.int .i64 (sgn x y))) := by
  have h := List.all_eq_true.1 (kH _ sx.mem) _ sy.mem
  unfold runH at h
  have hb : Nat.blt 5 k2 = false := by
    cases e : Nat.blt 5 k2 with
    | false => rfl
    | true => simp at e; omega
  simp only [hb] at h
  refine @cs_of (vlH false x y k z k2 z2) (cfgH false k z k2 z2) [] (cfgH_ok false sx sy) (cfgH_tell false sx sy fun h => by cases h) (by simp) 100 201 _ _ h _ _ ?_ ?_ ?_ .lit
  · show [@denA (vlH false x y k z k2 z2) 20 (decS 0 k z 0), @denA (vlH false x y k z k2 z2) 20 (decS 10 k2 z2 0)] = _
    rw [@decS_den (vlH false x y k z k2 z2) 0 x k z 0 (vlN_x x y _) sx.k6 sx.zk, @decS_den (vlH false x y k z k2 z2) 10 y k2 z2 0 (vlN_y x y _) sy.k6 sy.zk]
  · have h99 : @denA (vlH false x y k z k2 z2) 20 i99 = .lit (.int .i64 (cH false x y k z k2 z2)) := by
      show AV.lit (.int .i64 (1 * cH false x y k z k2 z2 + 0 + 0)) = _
      congr 2; omega
    unfold resH
    simp only
    rcases Nat.lt_trichotomy k k2 with hlt | heq | hgt
    · have e1 : Nat.blt k k2 = true := by simpa using hlt
      rw [e1]
      have := sgn_lt sx sy hlt
      simp only [sgn, if_pos this]; rfl
    · subst heq
      have e1 : Nat.blt k k = false := by cases e : Nat.blt k k with | false => rfl | true => simp at e
      rw [e1]
      simp only
      generalize Nat.beq k 0 = bb
      cases bb <;> (show @denA (vlH false x y k z k z2) 20 i99 = _; rw [h99, cH_false sx sy])
    · have e1 : Nat.blt k k2 = false := by cases e : Nat.blt k k2 with | false => rfl | true => simp at e; omega
      have e2 : Nat.blt k2 k = true := by simpa using hgt
      rw [e1]
      simp only [e2]
      have := sgn_lt sy sx hgt
      simp only [sgn, if_pos this, if_neg (by omega : ¬ x < y)]; rfl
  · intro a ha
    simp only [List.mem_cons, List.not_mem_nil, or_false] at ha
    rcases ha with rfl | rfl <;> exact decK_pure _ _ _ _
end
end Go.Abs
end
section
open Go.Proofs
set_option maxRecDepth 100000
namespace Go.Abs
section
variable {x y k k2 z2 : Nat}
theorem dgt_ten (y j : Nat) : dgt (10 * y) (j + 1) = dgt y j := by
  unfold dgt
  rw [Nat.pow_succ, Nat.mul_comm (10 ^ j) 10, Nat.mul_div_mul_left _ _ (by omega)]
theorem cH_true (sx : Shp x k 0) (sy : Shp y k2 z2) (hk : k = k2 + 1) : cH true x y k 0 k2 z2 = sgn x (10 * y) := by
  subst hk
  unfold cH bytX bytY
  simp only [List.replicate_zero, List.append_nil, Nat.sub_zero]
  have hz : ∀ j, j < z2 + 1 → dgt (10 * y) j = 0 := by
    intro j hj
    cases j with
    | zero => unfold dgt; simp
    | succ j => rw [dgt_ten]; exact sy.z0 j (by omega)
  have e : digB y (k2 - z2) z2 ++ List.replicate (z2 + 1) 48 = digB (10 * y) (k2 + 1) 0 := by
    have := digB_pad (x := 10 * y) (k := k2 + 1) (z := z2 + 1) (m := 0) hz (Nat.zero_le _) (by have := sy.zk; omega)
    rw [show k2 + 1 - (z2 + 1) = k2 - z2 by omega, digB_ten] at this
    simpa using this
  rw [e, cmp_digB]
  have h1 := sx.lt
  have h2 := sy.lt
  have h3 : 10 * y < 10 ^ (k2 + 1) := by rw [Nat.pow_succ]; omega
  simp only [Nat.pow_zero, Nat.div_one, Nat.mod_eq_of_lt h1, Nat.mod_eq_of_lt h3]
  rfl
theorem cmpHalf_cs (sx : Shp x k 0) (hx : x % 10 = 5) (sy : Shp y k2 z2) (h5 : k2 ≤ 5) : CS Tryz.prog 201 [decK x k 0 (-1), decK y k2 z2 0] (.lit (.int .i64 (sgn x (10 * y)))) := by
  have h1 : 1 ≤ k := by
    rcases Nat.eq_zero_or_pos k with e | e
    · have := sx.lt; rw [e] at this; simp at this; omega
    · exact e
  have h := List.all_eq_true.1 (kHalf k h1 sx.k6) _ sy.mem
  unfold runH at h
  have hb : Nat.blt 5 k2 = false := by
    cases e : Nat.blt 5 k2 with
    | false => rfl
    | true => simp at e; omega
  simp only [hb] at h
  refine @cs_of (vlH true x y k 0 k2 z2) (cfgH true k 0 k2 z2) [] (cfgH_ok true sx sy) (cfgH_tell true sx sy fun _ => ⟨rfl, h1⟩) (by simp) 100 201 _ _ h _ _ ?_ ?_ ?_ .lit
  · show [@denA (vlH true x y k 0 k2 z2) 20 (decS 0 k 0 (-1)), @denA (vlH true x y k 0 k2 z2) 20 (decS 10 k2 z2 0)] = _
    rw [@decS_den (vlH true x y k 0 k2 z2) 0 x k 0 (-1) (vlN_x x y _) sx.k6 sx.zk, @decS_den (vlH true x y k 0 k2 z2) 10 y k2 z2 0 (vlN_y x y _) sy.k6 sy.zk]
  · have h99 : @denA (vlH true x y k 0 k2 z2) 20 i99 = .lit (.int .i64 (cH true x y k 0 k2 z2)) := by
      show AV.lit (.int .i64 (1 * cH true x y k 0 k2 z2 + 0 + 0)) = _
      congr 2; omega
    have hxl := sx.lt
    have hyl := sy.lt
    have hxg := sx.ge h1
    unfold resH
    simp only
    rcases Nat.lt_trichotomy k (k2 + 1) with hlt | heq | hgt
    · have e1 : Nat.blt k (k2 + 1) = true := by simpa using hlt
      rw [e1]
      have hg := sy.ge (by omega)
      have h6 : (10 : Nat) ^ k ≤ 10 ^ k2 := Nat.pow_le_pow_right (by omega) (by omega)
      have h7 : (10 : Nat) ^ k2 = 10 * 10 ^ (k2 - 1) := by
        rw [Nat.mul_comm, ← Nat.pow_succ]; congr 1; omega
      have : x < 10 * y := by omega
      simp only [sgn, if_pos this]; rfl
    · have e1 : Nat.blt k (k2 + 1) = false := by cases e : Nat.blt k (k2 + 1) with | false => rfl | true => simp at e; omega
      have e2 : Nat.blt (k2 + 1) k = false := by cases e : Nat.blt (k2 + 1) k with | false => rfl | true => simp at e; omega
      rw [e1]
      simp only [e2]
      cases e3 : Nat.beq k2 0 with
      | true =>
        have := Nat.eq_of_beq_eq_true e3
        subst this
        have : y = 0 := by simpa using hyl
        subst this
        have : ¬ x < 10 * 0 := by omega
        simp only [sgn, if_neg this, if_pos (by omega : 10 * 0 < x)]; rfl
      | false =>
        show @denA (vlH true x y k 0 k2 z2) 20 i99 = _
        rw [h99, cH_true sx sy heq]
    · have e1 : Nat.blt k (k2 + 1) = false := by cases e : Nat.blt k (k2 + 1) with | false => rfl | true => simp at e; omega
      have e2 : Nat.blt (k2 + 1) k = true := by simpa using hgt
      rw [e1]
      simp only [e2]
      have h6 : (10 : Nat) ^ (k2 + 1) ≤ 10 ^ (k - 1) := Nat.pow_le_pow_right (by omega) (by omega)
      rw [Nat.pow_succ] at h6
      have : 10 * y < x := by omega
      simp only [sgn, if_pos this, if_neg (by omega : ¬ x < 10 * y)]; rfl
  · intro a ha
    simp only [List.mem_cons, List.not_mem_nil, or_false] at ha
    rcases ha with rfl | rfl <;> exact decK_pure _ _ _ _
end
/-! ### numset.Has -/
def setV (d e : AV) : AV := .agg [.ro 11 [[.lit (.bool true), .lit (.bool false), .lit (.string ⟨#[]⟩), .lit (.int .i64 0), .lit (.bool false), .lit (.bool true), .lit (.bool false), d, e, .lit (.bool false), .lit (.int .i64 1)]]]
def hS (a : Nat) : AV := .sym (.str [.o a])
def hI (a : Nat) : AV := .sym (.int .i64 ([(a, 1)], 0))
def hD (d e : AV) : AV := .agg [.lit (.bool false), d, e]
def zeroD : AV := hD (.lit (.string ⟨#[]⟩)) (.lit (.int .i64 0))
def hL (n : Int) : AV := .lit (.int .i64 n)
def loB (half : Bool) : Int := match half with | true => -1 | false => 0
def hiB (half : Bool) : Int := match half with | true => -1 | false => 6
/-- names: the number's digits and exponent 0, 1; the bound's 2, 3 -/
def cfgS (c0 c1 : Int) (half : Bool) : Cfg := { cfg0 with
  bd := [(1, loB half, hiB half)]
  ct := [(158, [hD (hS 0) (hI 1)], .lit (.bool true)), (158, [hD (hS 2) (hI 3)], .lit (.bool true)), (201, [hD (hS 0) (hI 1), zeroD], hL c0), (201, [hD (hS 0) (hI 1), hD (hS 2) (hI 3)], hL c1)] }
noncomputable def runS (c0 c1 : Int) (half : Bool) (e : Bool) : Bool := okTop (topF (cfgS c0 c1 half) [] Tryz.prog 100 103 [setV (hS 2) (hI 3), hD (hS 0) (hI 1)]) (.lit (.bool e))
theorem kS_1 : runS 0 (-1) false true = true := by kernel_rfl
theorem kS_2 : runS 0 0 false true = true := by kernel_rfl
theorem kS_3 : runS 1 (-1) false true = true := by kernel_rfl
theorem kS_4 : runS 1 0 false true = true := by kernel_rfl
theorem kS_5 : runS 0 1 false false = true := by kernel_rfl
theorem kS_6 : runS 1 1 false false = true := by kernel_rfl
theorem kS_7 : runS 1 (-1) true false = true := by kernel_rfl
theorem kS_8 : runS 1 0 true false = true := by kernel_rfl
theorem kS_9 : runS 1 1 true false = true := by kernel_rfl
abbrev vlS (d : List UInt8) (e : Int) (d2 : List UInt8) (e2 : Int) : VL := ⟨fun a => if a = 1 then e else if a = 3 then e2 else 0, fun a => if a = 0 then d else if a = 2 then d2 else [], fun _ => false, fun _ => [], fun _ => .emp, fun _ _ _ => False⟩
theorem hS_den [VL] (n a : Nat) : denA (n + 1) (hS a) = .lit (.string ⟨(VL.s a).toArray⟩) := by
  show AV.lit (.string (sval [.o a])) = _
  simp [sval, SP.val]
theorem hI_den [VL] (n a : Nat) : denA (n + 1) (hI a) = .lit (.int .i64 (VL.i a)) := by
  show AV.lit (.int .i64 (Lin.val ([(a, 1)], 0))) = _
  simp [Lin.val, tsum]
theorem has_of {d d2 : List UInt8} {e e2 c0 c1 : Int} {half r : Bool} (hk : runS c0 c1 half r = true) (he : loB half ≤ e ∧ e ≤ hiB half) (hv : CS Tryz.prog 158 [hD (.lit (.string ⟨d.toArray⟩)) (hL e)] (.lit (.bool true))) (hv2 : CS Tryz.prog 158 [hD (.lit (.string ⟨d2.toArray⟩)) (hL e2)] (.lit (.bool true)))
    (h0 : CS Tryz.prog 201 [hD (.lit (.string ⟨d.toArray⟩)) (hL e), zeroD] (hL c0)) (h1 : CS Tryz.prog 201 [hD (.lit (.string ⟨d.toArray⟩)) (hL e), hD (.lit (.string ⟨d2.toArray⟩)) (hL e2)] (hL c1)) :
    CS Tryz.prog 103 [setV (.lit (.string ⟨d2.toArray⟩)) (hL e2), hD (.lit (.string ⟨d.toArray⟩)) (hL e)] (.lit (.bool r)) := by
  have s0 : ∀ m, @denA (vlS d e d2 e2) (m + 1) (hS 0) = .lit (.string ⟨d.toArray⟩) := fun m => @hS_den (vlS d e d2 e2) m 0
  have s2 : ∀ m, @denA (vlS d e d2 e2) (m + 1) (hS 2) = .lit (.string ⟨d2.toArray⟩) := fun m => @hS_den (vlS d e d2 e2) m 2
  have i1 : ∀ m, @denA (vlS d e d2 e2) (m + 1) (hI 1) = hL e := fun m => @hI_den (vlS d e d2 e2) m 1
  have i3 : ∀ m, @denA (vlS d e d2 e2) (m + 1) (hI 3) = hL e2 := fun m => @hI_den (vlS d e d2 e2) m 3
  have ok : @Cfg.OK (vlS d e d2 e2) (cfgS c0 c1 half) := by
    refine cfgOK_of (fun p hp => ?_) (fun f hf => by cases hf) (fun a row h => by cases h) rfl (fun p hp => by cases hp) (fun p hp => by cases hp) (fun p hp => by cases hp)
    simp only [cfgS, List.mem_cons, List.not_mem_nil, or_false] at hp
    subst hp
    exact he
  have pd : ∀ (u v : Value), Pure (hD (.lit u) (.lit v)) := fun u v => pureB_ok (n := 20) rfl
  have tell := @tellOf (vlS d e d2 e2) (cfgS c0 c1 half) ok rfl rfl fun f xs r hp => by
    simp only [cfgS, List.mem_cons, List.not_mem_nil, or_false] at hp
    rcases hp with ⟨rfl, rfl, rfl⟩ | ⟨rfl, rfl, rfl⟩ | ⟨rfl, rfl, rfl⟩ | ⟨rfl, rfl, rfl⟩
    rotate_left 1
    · refine @CS.call (vlS d e d2 e2) _ _ _ _ _ _ _ hv2 Tryz.func158 (names1 _ _ Tryz.func158) rfl ?_ (by simp; exact pd _ _) rfl .lit
      show [AV.agg [_, @denA (vlS d e d2 e2) 19 (hS 2), @denA (vlS d e d2 e2) 19 (hI 3)]] = _
      rw [s2 18, i3 18]; rfl
    rotate_right 1
    · refine @CS.call (vlS d e d2 e2) _ _ _ _ _ _ _ hv Tryz.func158 (names1 _ _ Tryz.func158) rfl ?_ (by simp; exact pd _ _) rfl .lit
      show [AV.agg [_, @denA (vlS d e d2 e2) 19 (hS 0), @denA (vlS d e d2 e2) 19 (hI 1)]] = _
      rw [s0 18, i1 18]; rfl
    · refine @CS.call (vlS d e d2 e2) _ _ _ _ _ _ _ h0 Tryz.func201 (names1 _ _ Tryz.func201) rfl ?_ ?_ rfl .lit
      · show [AV.agg [_, @denA (vlS d e d2 e2) 19 (hS 0), @denA (vlS d e d2 e2) 19 (hI 1)], _] = _
        rw [s0 18, i1 18]; rfl
      · intro x hx
        simp only [List.mem_cons, List.not_mem_nil, or_false] at hx
        rcases hx with rfl | rfl <;> exact pd _ _
    · refine @CS.call (vlS d e d2 e2) _ _ _ _ _ _ _ h1 Tryz.func201 (names1 _ _ Tryz.func201) rfl ?_ ?_ rfl .lit
      · show [AV.agg [_, @denA (vlS d e d2 e2) 19 (hS 0), @denA (vlS d e d2 e2) 19 (hI 1)], AV.agg [_, @denA (vlS d e d2 e2) 19 (hS 2), @denA (vlS d e d2 e2) 19 (hI 3)]] = _
        rw [s0 18, i1 18, s2 18, i3 18]; rfl
      · intro x hx
        simp only [List.mem_cons, List.not_mem_nil, or_false] at hx
        rcases hx with rfl | rfl <;> exact pd _ _
  refine @cs_of (vlS d e d2 e2) (cfgS c0 c1 half) [] ok tell (by simp) 100 103 _ _ hk _ _ ?_ rfl ?_ .lit
  · show [AV.agg [.ro 11 [[_, _, _, _, _, _, _, @denA (vlS d e d2 e2) 18 (hS 2), @denA (vlS d e d2 e2) 18 (hI 3), _, _]]], AV.agg [_, @denA (vlS d e d2 e2) 19 (hS 0), @denA (vlS d e d2 e2) 19 (hI 1)]] = _
    rw [s0 18, i1 18, s2 17, i3 17]; rfl
  · intro x hx
    simp only [List.mem_cons, List.not_mem_nil, or_false] at hx
    rcases hx with rfl | rfl
    · exact pureB_ok (n := 20) rfl
    · exact pd _ _
end Go.Abs
end
section
open Go.Proofs
set_option maxRecDepth 100000
namespace Go.Abs
section
variable {x y k z k2 z2 : Nat}
theorem shp0 : Shp 0 0 0 := ⟨by decide, by omega, by omega, by omega, by omega, by omega, .inl rfl⟩
theorem sgn0 (x : Nat) : sgn x 0 = 0 ∨ sgn x 0 = 1 := by
  unfold sgn
  by_cases h : x = 0
  · subst h; left; simp
  · right; rw [if_neg (by omega), if_pos (by omega)]
def expK (k z : Nat) (dx : Int) : Int := match Nat.beq k 0 with | true => 0 | false => z + dx
theorem expK_le (s : Shp x k z) : loB false ≤ expK k z 0 ∧ expK k z 0 ≤ hiB false := by
  have := s.k6
  have := s.zk
  show (0 : Int) ≤ expK k z 0 ∧ expK k z 0 ≤ 6
  unfold expK
  cases Nat.beq k 0
  · show (0 : Int) ≤ (z : Int) + 0 ∧ (z : Int) + 0 ≤ 6; omega
  · show (0 : Int) ≤ 0 ∧ (0 : Int) ≤ 6; omega
theorem decK_eq (x k z : Nat) (dx : Int) : decK x k z dx = hD (.lit (.string ⟨(digB x (k - z) z).toArray⟩)) (hL (expK k z dx)) := rfl
theorem setK_eq (y k z : Nat) : setK y k z = setV (.lit (.string ⟨(digB y (k - z) z).toArray⟩)) (hL (expK k z 0)) := by
  unfold setK setV hL expK
  cases h : Nat.beq k 0 <;> simp [h]
theorem zero_eq : decK 0 0 0 0 = zeroD := rfl
theorem has_good (sx : Shp x k z) (sy : Shp y k2 z2) (h5 : k2 ≤ 5) (hxy : x ≤ y) : CS Tryz.prog 103 [setK y k2 z2, decK x k z 0] (.lit (.bool true)) := by
  have c0 := cmp_cs sx shp0 (by omega)
  have c1 := cmp_cs sx sy h5
  rw [zero_eq] at c0
  rw [setK_eq]
  have hs : sgn x y = -1 ∨ sgn x y = 0 := by
    unfold sgn
    by_cases h : x < y
    · left; rw [if_pos h]
    · right; rw [if_neg h, if_neg (by omega)]
  have key : ∀ c0' c1', runS c0' c1' false true = true → sgn x 0 = c0' → sgn x y = c1' → CS Tryz.prog 103 [setV (.lit (.string ⟨(digB y (k2 - z2) z2).toArray⟩)) (hL (expK k2 z2 0)), decK x k z 0] (.lit (.bool true)) := by
    intro c0' c1' hk e0 e1
    rw [e0] at c0
    rw [e1] at c1
    exact has_of hk (expK_le sx) (valid_cs sx) (valid_cs sy) c0 c1
  rcases sgn0 x with e0 | e0 <;> rcases hs with e1 | e1
  · exact key _ _ kS_1 e0 e1
  · exact key _ _ kS_2 e0 e1
  · exact key _ _ kS_3 e0 e1
  · exact key _ _ kS_4 e0 e1
theorem has_big (sx : Shp x k z) (sy : Shp y k2 z2) (h5 : k2 ≤ 5) (hxy : y < x) : CS Tryz.prog 103 [setK y k2 z2, decK x k z 0] (.lit (.bool false)) := by
  have c0 := cmp_cs sx shp0 (by omega)
  have c1 := cmp_cs sx sy h5
  rw [zero_eq] at c0
  rw [setK_eq]
  have e1 : sgn x y = 1 := by unfold sgn; rw [if_neg (by omega), if_pos hxy]
  rw [e1] at c1
  rcases sgn0 x with e0 | e0 <;> rw [e0] at c0
  · exact has_of kS_5 (expK_le sx) (valid_cs sx) (valid_cs sy) c0 c1
  · exact has_of kS_6 (expK_le sx) (valid_cs sx) (valid_cs sy) c0 c1
theorem has_half (sx : Shp x k 0) (hx : x % 10 = 5) (sy : Shp y k2 z2) (h5 : k2 ≤ 5) : CS Tryz.prog 103 [setK y k2 z2, decK x k 0 (-1)] (.lit (.bool false)) := by
  have h1 : 1 ≤ k := by
    rcases Nat.eq_zero_or_pos k with e | e
    · have := sx.lt; rw [e] at this; simp at this; omega
    · exact e
  have c0 := cmpHalf_cs sx hx shp0 (by omega)
  have c1 := cmpHalf_cs sx hx sy h5
  rw [zero_eq] at c0
  rw [setK_eq]
  have e0 : sgn x (10 * 0) = 1 := by unfold sgn; rw [if_neg (by omega), if_pos (by omega)]
  rw [e0] at c0
  have hex : loB true ≤ expK k 0 (-1) ∧ expK k 0 (-1) ≤ hiB true := by
    unfold expK loB hiB
    cases e : Nat.beq k 0 with
    | true => have := Nat.eq_of_beq_eq_true e; omega
    | false => simp
  have hs : sgn x (10 * y) = -1 ∨ sgn x (10 * y) = 0 ∨ sgn x (10 * y) = 1 := by
    unfold sgn
    by_cases h : x < 10 * y
    · left; rw [if_pos h]
    · right
      by_cases h2 : 10 * y < x
      · right; rw [if_neg h, if_pos h2]
      · left; rw [if_neg h, if_neg h2]
  rcases hs with e1 | e1 | e1 <;> rw [e1] at c1
  · exact has_of kS_7 hex (valid2_cs sx h1) (valid_cs sy) c0 c1
  · exact has_of kS_8 hex (valid2_cs sx h1) (valid_cs sy) c0 c1
  · exact has_of kS_9 hex (valid2_cs sx h1) (valid_cs sy) c0 c1
end
end Go.Abs
end
section
open Go.Proofs
set_option maxRecDepth 100000
namespace Go.Abs
theorem digB_len (x : Nat) : ∀ n z, (digB x n z).length = n
  | 0, _ => rfl
  | n + 1, z => by rw [digB, List.length_cons, digB_len x n z]
theorem digB_inj {x y : Nat} : ∀ {n z : Nat}, digB x n z = digB y n z → ∀ j, j < n → dgt x (z + j) = dgt y (z + j)
  | 0, _, _, j, h => by omega
  | n + 1, z, h, j, hj => by
    simp only [digB, List.cons.injEq] at h
    by_cases e : j = n
    · subst e
      have h1 := congrArg UInt8.toNat h.1
      have a := dgt_lt x (z + j)
      have b := dgt_lt y (z + j)
      rw [UInt8.toNat_ofNat', UInt8.toNat_ofNat'] at h1
      omega
    · exact digB_inj h.2 j (by omega)
theorem dgt_high {x k j : Nat} (h : x < 10 ^ k) (hj : k ≤ j) : dgt x j = 0 := by
  have h1 : (10 : Nat) ^ k ≤ 10 ^ j := Nat.pow_le_pow_right (by omega) hj
  unfold dgt
  rw [Nat.div_eq_of_lt (by omega)]
theorem dgt_ext {x y : Nat} (hx : x < 10 ^ 6) (hy : y < 10 ^ 6) (h : ∀ j, j < 6 → dgt x j = dgt y j) : x = y := by
  have h0 := h 0 (by omega)
  have h1 := h 1 (by omega)
  have h2 := h 2 (by omega)
  have h3 := h 3 (by omega)
  have h4 := h 4 (by omega)
  have h5 := h 5 (by omega)
  unfold dgt at h0 h1 h2 h3 h4 h5
  simp at h0 h1 h2 h3 h4 h5 hx hy
  omega
theorem Shp.lt6 {x k z : Nat} (s : Shp x k z) : x < 10 ^ 6 := by
  have h1 : (10 : Nat) ^ k ≤ 10 ^ 6 := Nat.pow_le_pow_right (by omega) s.k6
  have := s.lt
  omega
theorem dec_inj {x k z y k2 z2 : Nat} (sx : Shp x k z) (sy : Shp y k2 z2) (hd : digB x (k - z) z = digB y (k2 - z2) z2) (he : expK k z 0 = expK k2 z2 0) : x = y := by
  have hl := congrArg List.length hd
  rw [digB_len, digB_len] at hl
  have e0 : ∀ {x k z : Nat}, Shp x k z → k - z = 0 → x = 0 ∧ k = 0 := fun {x k z} s h => by
    rcases s.nz with h0 | h0
    · have := s.lt
      rw [h0] at this
      simp at this
      exact ⟨this, h0⟩
    · omega
  by_cases h0 : k - z = 0
  · rw [(e0 sx h0).1, (e0 sy (by omega)).1]
  · have b1 : Nat.beq k 0 = false := by
      cases e : Nat.beq k 0 with
      | false => rfl
      | true => have := Nat.eq_of_beq_eq_true e; omega
    have b2 : Nat.beq k2 0 = false := by
      cases e : Nat.beq k2 0 with
      | false => rfl
      | true => have := Nat.eq_of_beq_eq_true e; omega
    unfold expK at he
    rw [b1, b2] at he
    simp only at he
    have hz : z = z2 := by omega
    subst hz
    have hk : k = k2 := by have := sx.zk; have := sy.zk; omega
    subst hk
    refine dgt_ext sx.lt6 sy.lt6 fun j _ => ?_
    by_cases h1 : j < z
    · rw [sx.z0 j h1, sy.z0 j h1]
    · by_cases h2 : j < k
      · have := digB_inj hd (j - z) (by omega)
        rwa [show z + (j - z) = j by omega] at this
      · rw [dgt_high sx.lt (by omega), dgt_high sy.lt (by omega)]
/-- a decimal of a number up to 'mo' -/
def goodN (mo : Nat) (da : List UInt8) (ea : Int) : Prop := ∃ x k z, x ≤ mo ∧ Shp x k z ∧ da = digB x (k - z) z ∧ ea = expK k z 0
theorem goodN_big {mo x k z : Nat} (s : Shp x k z) (h : mo < x) : ¬ goodN mo (digB x (k - z) z) (expK k z 0) := by
  rintro ⟨y, k2, z2, hy, sy, h1, h2⟩
  have := dec_inj s sy h1 h2
  omega
theorem goodN_half {mo : Nat} {da : List UInt8} : ¬ goodN mo da (-1) := by
  rintro ⟨y, k2, z2, hy, sy, h1, h2⟩
  unfold expK at h2
  split at h2 <;> omega
/-! ### rows -/
def tagL : List Nat := [120, 121, 122]
structure goodR (mo : Nat) (r : RowD) : Prop where
  a : r.a = true
  d : r.d = false
  c : r.c = 0 ∨ r.c = 2
  n : goodN mo r.da r.ea
  b : r.b ≠ []
  t : r.c = 2 → ∃ l, l ∈ tagL ∧ r.t = [UInt8.ofNat l]
def goodC (y : List AV) : Prop := ∃ l, l ∈ tagL ∧ y = vList (tagsV 2 (lS [l]))
/-- what is wrong, by node and content -/
def bad (mo : Nat) (op : Int) (y : List AV) : Prop :=
  (op = 4 ∧ ¬ ∃ da ea, goodN mo da ea ∧ y = vNum (lb da) (lI ea)) ∨ (op = 5 ∧ y = vText (lS [])) ∨ (op = 8 ∧ y = vText (lS [113])) ∨ ((op = 9 ∨ op = 14) ∧ ¬ goodC y) ∨ op = 2 ∨
  (op = 10 ∧ ¬ ∃ r, goodR mo r ∧ y = rowV r.fs)
/-- what is known of a part: which, and whether it is wrong -/
def told (mo : Nat) (op : Int) (y : List AV) (b : Bool) : Prop := (b = true → bad mo op y) ∧ (b = false → ¬ bad mo op y)
theorem told_same {mo : Nat} {op : Int} {y : List AV} {b b' : Bool} (h : told mo op y b) (h' : told mo op y b') : b = b' := by
  cases b <;> cases b' <;> first | rfl | skip
  · exact absurd (h'.1 rfl) (h.2 rfl)
  · exact absurd (h.1 rfl) (h'.2 rfl)
/-! ### what a row's class says of its content -/
/-- (and what the walks of it come to: how many names, which) -/
structure ClE where
  sh : Bool × Bool × Nat
  k : Nat
  t : Nat × Nat × Nat × Nat
def clsE : List ClE := [⟨(true, false, 0), 0, (19, 0, 0, 19)⟩, ⟨(true, false, 0), 1, (19, 70, 83, 65)⟩, ⟨(true, false, 0), 3, (19, 78, 81, 64)⟩, ⟨(true, false, 2), 0, (34, 0, 0, 34)⟩, ⟨(true, false, 2), 1, (34, 90, 121, 103)⟩, ⟨(true, false, 2), 3, (34, 98, 120, 102)⟩, ⟨(true, false, 2), 7, (34, 148, 153, 136)⟩, ⟨(false, false, 0), 4, (18, 55, 73, 55)⟩, ⟨(false, false, 2), 4, (33, 73, 111, 93)⟩, ⟨(true, true, 0), 5, (25, 97, 100, 83)⟩, ⟨(true, true, 2), 5, (40, 134, 137, 120)⟩, ⟨(true, false, 3), 6, (37, 137, 169, 152)⟩]
def isK (k j : Nat) : Bool := Nat.beq k j
/-- what the content is, by the class -/
structure IsE (mo : Nat) (r : RowD) (c : ClE) : Prop where
  mem : c ∈ clsE
  sh : r.sh = c.sh
  n : if c.k = 1 then ¬ goodN mo r.da r.ea else goodN mo r.da r.ea
  b : if c.k = 3 then r.b = [] else r.b ≠ []
  t : if c.k = 7 then r.t = [113] else ∃ l, l ∈ tagL ∧ r.t = [UInt8.ofNat l]
theorem lb_inj {x y : List UInt8} (h : lb x = lb y) : x = y := by
  unfold lb at h
  simpa using h
theorem vText_inj {x y : AV} (h : vText x = vText y) : x = y := by
  simp only [vText, List.cons.injEq] at h
  exact h.2.2.2.2.2.2.2.2.2.1
theorem vNum_inj {x y x' y' : AV} (h : vNum x y = vNum x' y') : x = x' ∧ y = y' := by
  simp only [vNum, List.cons.injEq] at h
  exact ⟨h.2.2.2.1, h.2.2.2.2.1⟩
theorem vList_inj {x y : AV} (h : vList x = vList y) : x = y := by
  simp only [vList, List.cons.injEq] at h
  exact h.2.2.2.2.2.2.2.2.2.2.2.1
theorem lI_inj {x y : Int} (h : lI x = lI y) : x = y := by
  unfold lI at h
  simpa using h
theorem lS_lb (l : List Nat) : lS l = lb (l.map UInt8.ofNat) := rfl
section
variable {mo : Nat} {r : RowD} {c : ClE}
theorem told_num (h : IsE mo r c) : told mo 4 (vNum (lb r.da) (lI r.ea)) (isK c.k 1) := by
  have hb : bad mo 4 (vNum (lb r.da) (lI r.ea)) ↔ ¬ goodN mo r.da r.ea := by
    unfold bad
    constructor
    · rintro (⟨-, h⟩ | ⟨h, -⟩ | ⟨h, -⟩ | ⟨h | h, -⟩ | h | ⟨h, -⟩) hg
      · exact h ⟨_, _, hg, rfl⟩
      all_goals exact absurd h (by decide)
    · intro hn
      refine .inl ⟨rfl, ?_⟩
      rintro ⟨da, ea, hg, he⟩
      obtain ⟨h1, h2⟩ := vNum_inj he
      rw [← lb_inj h1, ← lI_inj h2] at hg
      exact hn hg
  have hn := h.n
  constructor
  · intro e
    rw [if_pos (Nat.eq_of_beq_eq_true e)] at hn
    exact hb.2 hn
  · intro e
    rw [if_neg (Nat.ne_of_beq_eq_false e)] at hn
    exact fun h => hb.1 h hn
theorem told_text (h : IsE mo r c) : told mo 5 (vText (lb r.b)) (isK c.k 3) := by
  have hb : bad mo 5 (vText (lb r.b)) ↔ r.b = [] := by
    unfold bad
    constructor
    · rintro (⟨h, -⟩ | ⟨-, h⟩ | ⟨h, -⟩ | ⟨h | h, -⟩ | h | ⟨h, -⟩)
      · exact absurd h (by decide)
      · exact lb_inj (vText_inj h)
      all_goals exact absurd h (by decide)
    · intro hn
      exact .inr (.inl ⟨rfl, by rw [hn]; rfl⟩)
  have hn := h.b
  constructor
  · intro e
    rw [if_pos (Nat.eq_of_beq_eq_true e)] at hn
    exact hb.2 hn
  · intro e
    rw [if_neg (Nat.ne_of_beq_eq_false e)] at hn
    exact fun h => hn (hb.1 h)
theorem bad8 (t : List UInt8) : bad mo 8 (vText (lb t)) ↔ t = [113] := by
  unfold bad
  constructor
  · rintro (⟨h, -⟩ | ⟨h, -⟩ | ⟨-, h⟩ | ⟨h | h, -⟩ | h | ⟨h, -⟩)
    · exact absurd h (by decide)
    · exact absurd h (by decide)
    · exact lb_inj (vText_inj h)
    all_goals exact absurd h (by decide)
  · intro hn
    exact .inr (.inr (.inl ⟨rfl, by rw [hn]; rfl⟩))
theorem tag_ne {l : Nat} (h : l ∈ tagL) : ([UInt8.ofNat l] : List UInt8) ≠ [113] := by
  simp only [tagL, List.mem_cons, List.not_mem_nil, or_false] at h
  rcases h with rfl | rfl | rfl <;> decide
theorem told_tag (h : IsE mo r c) : told mo 8 (vText (lb r.t)) (isK c.k 7) := by
  have hn := h.t
  constructor
  · intro e
    rw [if_pos (Nat.eq_of_beq_eq_true e)] at hn
    exact (bad8 _).2 hn
  · intro e
    rw [if_neg (Nat.ne_of_beq_eq_false e)] at hn
    obtain ⟨l, hl, ht⟩ := hn
    exact fun h => tag_ne hl (ht ▸ (bad8 _).1 h)
theorem told_let {l : Nat} (h : l ∈ tagL) : told mo 8 (vText (lS [l])) false := by
  refine ⟨fun e => (by cases e), fun _ hb => ?_⟩
  exact tag_ne h ((bad8 [UInt8.ofNat l]).1 hb)
theorem told_none : told mo 2 (vz 0) true := ⟨fun _ => .inr (.inr (.inr (.inr (.inl rfl)))), fun e => by cases e⟩
theorem bad_list {op : Int} (ho : op = 9 ∨ op = 14) (y : List AV) : bad mo op y ↔ ¬ goodC y := by
  unfold bad
  constructor
  · rintro (⟨h, -⟩ | ⟨h, -⟩ | ⟨h, -⟩ | ⟨-, h⟩ | h | ⟨h, -⟩)
    · omega
    · omega
    · omega
    · exact h
    · omega
    · omega
  · exact fun h => .inr (.inr (.inr (.inl ⟨ho, h⟩)))
theorem told_list {op : Int} (ho : op = 9 ∨ op = 14) (h : IsE mo r c) (h0 : c.sh.2.2 ≠ 0) : told mo op (vList (tagsV c.sh.2.2 (lb r.t))) (isK c.k 6 || isK c.k 7) := by
  have hm := h.mem
  have ht := h.t
  have key : ∀ n, n = 2 ∨ n = 3 → (goodC (vList (tagsV n (lb r.t))) ↔ n = 2 ∧ ∃ l, l ∈ tagL ∧ r.t = [UInt8.ofNat l]) := by
    intro n hn
    unfold goodC
    constructor
    · rintro ⟨l, hl, he⟩
      have he := vList_inj he
      unfold tagsV at he
      rcases hn with rfl | rfl
      · simp only [List.take, AV.ro.injEq, List.cons.injEq, true_and, and_true] at he
        exact ⟨rfl, l, hl, lb_inj (vText_inj he)⟩
      · simp at he
    · rintro ⟨rfl, l, hl, he⟩
      exact ⟨l, hl, by rw [he]; rfl⟩
  simp only [clsE, List.mem_cons, List.not_mem_nil, or_false] at hm
  rcases hm with rfl | rfl | rfl | rfl | rfl | rfl | rfl | rfl | rfl | rfl | rfl | rfl
  all_goals first | (exact absurd rfl h0) | skip
  all_goals (refine ⟨fun e => ?_, fun e => ?_⟩ <;> first | (cases e; done) | skip)
  all_goals rw [bad_list ho]
  all_goals simp at ht
  all_goals first
    | (refine fun hg => hg ((key 2 (.inl rfl)).2 ⟨rfl, ht⟩); done)
    | (intro hg; obtain ⟨-, l, hl, he⟩ := (key 2 (.inl rfl)).1 hg; exact tag_ne hl (he.symm.trans ht))
    | (intro hg; have := ((key 3 (.inr rfl)).1 hg).1; omega)
theorem vMap_inj {x y : AV} (h : vMap x = vMap y) : x = y := by
  simp only [vMap, List.cons.injEq] at h
  exact h.2.2.2.2.2.2.2.2.2.2.2.2.1
theorem rowV_inj {fs fs' : List (List AV)} (h : rowV fs = rowV fs') : fs = fs' := by
  have := vMap_inj h
  simpa using this
theorem told_row (h : IsE mo r c) : told mo 10 (rowV r.fs) (!(isK c.k 0)) := by
  have hb : bad mo 10 (rowV r.fs) ↔ ¬ ∃ r', goodR mo r' ∧ r.fs = r'.fs := by
    unfold bad
    constructor
    · rintro (⟨h, -⟩ | ⟨h, -⟩ | ⟨h, -⟩ | ⟨h | h, -⟩ | h | ⟨-, h⟩)
      · exact absurd h (by decide)
      · exact absurd h (by decide)
      · exact absurd h (by decide)
      · exact absurd h (by decide)
      · exact absurd h (by decide)
      · exact absurd h (by decide)
      · rintro ⟨r', hg, he⟩
        exact h ⟨r', hg, by rw [he]⟩
    · intro hn
      refine .inr (.inr (.inr (.inr (.inr ⟨rfl, ?_⟩))))
      rintro ⟨r', hg, he⟩
      exact hn ⟨r', hg, rowV_inj he⟩
  obtain ⟨hm, hs, hn, hbb, ht⟩ := h
  obtain ⟨ra, rda, rea, rb, rd, rc, rt⟩ := r
  simp only [clsE, List.mem_cons, List.not_mem_nil, or_false] at hm
  rcases hm with rfl | rfl | rfl | rfl | rfl | rfl | rfl | rfl | rfl | rfl | rfl | rfl
  all_goals (simp only [RowD.sh, Prod.mk.injEq] at hs; obtain ⟨rfl, rfl, rfl⟩ := hs)
  all_goals (refine ⟨fun e => ?_, fun e => ?_⟩ <;> first | (cases e; done) | skip)
  all_goals rw [hb]
  all_goals simp only [reduceIte, Nat.reduceEqDiff] at hn hbb ht
  -- the good ones
  · exact fun hg => hg ⟨_, ⟨rfl, rfl, .inl rfl, hn, hbb, fun h => absurd (show (0 : Nat) = 2 from h) (by decide)⟩, rfl⟩
  all_goals first
    | (exact fun hg => hg ⟨_, ⟨rfl, rfl, .inr rfl, hn, hbb, fun _ => ht⟩, rfl⟩)
    | skip
  all_goals
    rintro ⟨⟨ra', rda', rea', rb', rd', rc', rt'⟩, ⟨ha, hd, hc, gn, gb, gt⟩, he⟩
    simp only at ha hd hc gn gb gt
    subst ha
    subst hd
    rcases hc with rfl | rfl
  all_goals simp only [RowD.fs, fldV, List.nil_append, List.cons_append, List.append_nil, List.cons.injEq, reduceCtorEq, and_false, false_and, and_true] at he
  all_goals first
    | (obtain ⟨⟨-, e1⟩, -⟩ := he
       obtain ⟨e2, e3⟩ := vNum_inj e1
       rw [← lb_inj e2, ← lI_inj e3] at gn
       exact hn gn)
    | (obtain ⟨-, -, e1⟩ := he
       exact gb ((lb_inj (vText_inj e1)).symm.trans hbb))
    | (obtain ⟨-, ⟨-, e1⟩, -⟩ := he
       exact gb ((lb_inj (vText_inj e1)).symm.trans hbb))
    | (obtain ⟨-, -, -, e1⟩ := he
       obtain ⟨l, hl, ht'⟩ := gt rfl
       have e2 := vList_inj e1
       simp only [tagsV, List.take, AV.ro.injEq, List.cons.injEq, true_and, and_true] at e2
       exact tag_ne hl (((lb_inj (vText_inj e2)).symm.trans ht).symm.trans ht').symm)
    | (exact absurd (lb_inj he.1.1) (by decide))
    | (exact absurd (lb_inj he.2.2.1) (by decide))
    | (have e2 := vList_inj he.2.2.2
       simp [tagsV] at e2; done)
    | trace_state

end
end Go.Abs
end
section
open Go.Proofs
set_option maxRecDepth 100000
namespace Go.Abs
section
variable [V : VL]
theorem ptr_rp {s : Sg} {w : World} {k e i o j : Nat} {x : List AV} {p : Value} (hal : ∃ xs, s.hp k = some (.box xs)) (h1 : Rel s w (.ptr k e i o) p) (h2 : Rel s w (.rp x j) p) : False := by
  obtain ⟨xs, hal⟩ := hal
  cases h1 with
  | rep h => cases h
  | @ptr _ _ _ _ b hr =>
    generalize hv : Value.pointer (some ⟨b, i * e + o, none⟩) = v at h2
    cases h2 with
    | rep h =>
      cases h with
      | rp c hF hb hcell hrep =>
        simp at hv
        rw [← hv.1] at hF
        exact hF (.inr ⟨k, by rw [hal]; simp, hr⟩)
theorem rp_rep {s : Sg} {w : World} {x : List AV} {j : Nat} {p : Value} (h : Rel s w (.rp x j) p) : Rep s.mut w (.rp x j) p := by
  cases h with
  | rep h => exact h
/-- a place's first cell is told one way -/
theorem rp_head {F : Nat → Prop} {w : World} {x y : List AV} {a b : Int} {p : Value} (hx : x[0]? = some (lI a)) (hy : y[0]? = some (lI b)) (h1 : Rep F w (.rp x 0) p) (h2 : Rep F w (.rp y 0) p) : a = b := by
  cases h1 with
  | @rp _ _ bk off c hF hb hcell hrep =>
    generalize hv : (Value.pointer (some ⟨bk, off + 0, none⟩)) = v at h2
    cases h2 with
    | @rp _ _ bk' off' c' hF' hb' hcell' hrep' =>
      simp at hv
      obtain ⟨rfl, rfl⟩ := hv
      have e1 := hcell 0 _ hx
      have e2 := hcell' 0 _ hy
      rw [e1] at e2
      have e3 := Option.some.inj e2
      have r1 := hrep 0 _ hx
      have r2 := hrep' 0 _ hy
      rw [← e3] at r2
      have := lit_same rfl rfl r1 r2
      exact lI_inj this
theorem keyD_two {s : Sg} {w : World} {a : Nat} {ks : List Nat} {cs : List AV} {vs : Array Value} (h : KeyD s w a ks cs vs) : ∃ c0 c1 p0 p1, cs = [c0, c1] ∧ vs = #[p0, p1] ∧ Rel s w c0 p0 ∧ Rel s w c1 p1 ∧
    (∀ k e i o, c0 = .ptr k e i o → k ∈ ks) ∧ ∀ k e i o, c1 = .ptr k e i o → k ∈ ks := by
  obtain ⟨c0, c1, p0, p1, h1, h2, h3, h4, h5, h6, h7, h8⟩ := h
  have key : ∀ c, nmB (fun k => ks.any (Nat.beq k)) 3 c = true → ∀ k e i o, c = .ptr k e i o → k ∈ ks := by
    rintro c hc k e i o rfl
    obtain ⟨q, hq, hqe⟩ := List.any_eq_true.1 (show ks.any (Nat.beq k) = true from hc)
    rw [Nat.eq_of_beq_eq_true hqe]; exact hq
  exact ⟨c0, c1, p0, p1, h1, h2, h7, h8, key c0 h5, key c1 h6⟩
def b2i (b : Bool) : Value := .int .i64 (match b with | true => 1 | false => 0)
/-- what the memo of costs tells -/
def memE (pR mo : Nat) (tot : Int) (cs : List AV) (v : Value) : Prop :=
  (∃ p, cs = [.ptr pR 0 0 1, .ptr p 0 0 0] ∧ v = .int .i64 tot) ∨ ∃ x y n op b, cs = [.rp x 0, .rp y 0] ∧ x[0]? = some (lI op) ∧ tv n y = true ∧ told mo op y b ∧ v = b2i b
/-- what the memo of truths tells: node and content -/
def opJ (j : Int) : Int := if j = 1 then 10 else if j = 2 then 4 else if j = 3 then 5 else if j = 4 then 9 else if j = 5 then 8 else 2
def memC (pV mo : Nat) (good : Bool) (cs : List AV) (v : Value) : Prop :=
  (cs = [lI 0, .ptr pV 0 0 0] ∧ v = .bool good) ∨ ∃ j y n b, cs = [lI j, .rp y 0] ∧ tv n y = true ∧ told mo (opJ j) y b ∧ v = .bool (!b)
theorem memE_same {pR mo : Nat} {tot : Int} {s : Sg} {w : World} {a : Nat} {ks : List Nat} {cs cs' : List AV} {vs : Array Value} {v v' : Value} (hal : ∀ q, q ∈ ks → ∃ xs, s.hp q = some (.box xs))
    (hd : KeyD s w a ks cs' vs) (hd' : KeyD s w a ks cs vs) (h : memE pR mo tot cs' v') (h' : memE pR mo tot cs v) : v' = v := by
  obtain ⟨c0, c1, p0, p1, rfl, rfl, r0, r1, n0, n1⟩ := keyD_two hd
  obtain ⟨d0, d1, q0, q1, rfl, he, t0, t1, m0, m1⟩ := keyD_two hd'
  obtain ⟨rfl, rfl⟩ : p0 = q0 ∧ p1 = q1 := by
    have := congrArg Array.toList he
    simpa using this
  rcases h with ⟨pp, hc, hv⟩ | ⟨x, y, n, op, b, hc, hx, ht, htd, hv⟩ <;> rcases h' with ⟨pp', hc', hv'⟩ | ⟨x', y', n', op', b', hc', hx', ht', htd', hv'⟩
  · rw [hv, hv']
  · simp only [List.cons.injEq, and_true] at hc hc'
    obtain ⟨rfl, rfl⟩ := hc
    obtain ⟨rfl, rfl⟩ := hc'
    exact (ptr_rp (hal _ (n0 _ _ _ _ rfl)) r0 t0).elim
  · simp only [List.cons.injEq, and_true] at hc hc'
    obtain ⟨rfl, rfl⟩ := hc
    obtain ⟨rfl, rfl⟩ := hc'
    exact (ptr_rp (hal _ (m0 _ _ _ _ rfl)) t0 r0).elim
  · simp only [List.cons.injEq, and_true] at hc hc'
    obtain ⟨rfl, rfl⟩ := hc
    obtain ⟨rfl, rfl⟩ := hc'
    have e1 := rp_head hx hx' (rp_rep r0) (rp_rep t0)
    subst e1
    have e2 := rp_same ht ht' (rp_rep r1) (rp_rep t1)
    subst e2
    rw [hv, hv', told_same htd htd']
theorem memC_same {pV mo : Nat} {good : Bool} {s : Sg} {w : World} {a : Nat} {ks : List Nat} {cs cs' : List AV} {vs : Array Value} {v v' : Value} (hal : ∀ q, q ∈ ks → ∃ xs, s.hp q = some (.box xs))
    (hd : KeyD s w a ks cs' vs) (hd' : KeyD s w a ks cs vs) (h : memC pV mo good cs' v') (h' : memC pV mo good cs v) : v' = v := by
  obtain ⟨c0, c1, p0, p1, rfl, rfl, r0, r1, n0, n1⟩ := keyD_two hd
  obtain ⟨d0, d1, q0, q1, rfl, he, t0, t1, m0, m1⟩ := keyD_two hd'
  obtain ⟨rfl, rfl⟩ : p0 = q0 ∧ p1 = q1 := by
    have := congrArg Array.toList he
    simpa using this
  rcases h with ⟨hc, hv⟩ | ⟨j, y, n, b, hc, ht, htd, hv⟩ <;> rcases h' with ⟨hc', hv'⟩ | ⟨j', y', n', b', hc', ht', htd', hv'⟩
  · rw [hv, hv']
  · simp only [List.cons.injEq, and_true] at hc hc'
    obtain ⟨rfl, rfl⟩ := hc
    obtain ⟨rfl, rfl⟩ := hc'
    exact (ptr_rp (hal _ (n1 _ _ _ _ rfl)) r1 t1).elim
  · simp only [List.cons.injEq, and_true] at hc hc'
    obtain ⟨rfl, rfl⟩ := hc
    obtain ⟨rfl, rfl⟩ := hc'
    exact (ptr_rp (hal _ (m1 _ _ _ _ rfl)) t1 r1).elim
  · simp only [List.cons.injEq, and_true] at hc hc'
    obtain ⟨rfl, rfl⟩ := hc
    obtain ⟨rfl, rfl⟩ := hc'
    have e0 : j = j' := by
      have := Rel.lit_eq r0
      have := Rel.lit_eq t0
      simp_all
    subst e0
    have e2 := rp_same ht ht' (rp_rep r1) (rp_rep t1)
    subst e2
    rw [hv, hv', told_same htd htd']
end
end Go.Abs
end
section
open Go.Proofs
set_option maxRecDepth 100000
namespace Go.Abs
def longF : List AV := [nilS, lI 9, lS []]
/-- how many reasons there are up to row 'k', and which -/
def cntE (l : Bool) (cl : Nat → ClE) : Nat → Nat
  | 0 => match l with | true => 1 | false => 0
  | k + 1 => cntE l cl k + (match isK (cl k).k 0 with | true => 0 | false => 1)
def flsE (l : Bool) (cl : Nat → ClE) : Nat → List (List AV)
  | 0 => match l with | true => [longF] | false => []
  | k + 1 => flsE l cl k ++ (match isK (cl k).k 0 with | true => [] | false => [failP (cl k).k (lI k)])
theorem flsE_len (l : Bool) (cl : Nat → ClE) : ∀ k, (flsE l cl k).length = cntE l cl k
  | 0 => by cases l <;> rfl
  | k + 1 => by
    simp only [flsE, cntE, List.length_append, flsE_len l cl k]
    cases isK (cl k).k 0 <;> rfl
/-! ### by class -/
def lenE (c : ClE) : Bool := isK c.sh.2.2 0
def rowE (c : ClE) : List AV := rowV (fldN c.sh.1 c.sh.2.1 c.sh.2.2)
def one01 (b : Bool) : AV := lI (match b with | true => 1 | false => 0)
def cVN (c : ClE) : List AV := vList (tagsV c.sh.2.2 (so 1003))
def mmE (c : ClE) : List (Nat × List AV × AV) := [
  (0, [.rp (rwS (so 0) (ni 2)) 0, .rp (rowE c) 0], one01 (!(isK c.k 0))),
  (0, [.rp (aS (so 0) (ni 2)) 0, .rp (vNum (so 1000) (ni 1001)) 0], one01 (isK c.k 1)),
  (0, [.rp bS 0, .rp (vText (so 1002)) 0], one01 (isK c.k 3)),
  (0, [.rp tagS 0, .rp (vText (lS [122])) 0], lI 0),
  (0, [.rp tagS 0, .rp (vText (lS [120])) 0], lI 0),
  (0, [.rp tagS 0, .rp (vText (so 1003)) 0], one01 (isK c.k 7)),
  (0, [.rp noneS 0, .rp (vz 0) 0], lI 1)] ++ (match lenE c with
  | true => []
  | false => [(0, [.rp cS 0, .rp (cVN c) 0], one01 (isK c.k 6 || isK c.k 7)), (0, [.rp tagsS 0, .rp (cVN c) 0], one01 (isK c.k 6 || isK c.k 7))])
def okE (b : Bool) : AV := .tup [lB b, lI 0]
def ctE (c : ClE) : List (Nat × List AV × AV) := [
  (33, [scN, .agg (aS (so 0) (ni 2)), .agg (vNum (so 1000) (ni 1001))], okE (!(isK c.k 1))),
  (33, [scN, .agg bS, .agg (vText (so 1002))], okE (!(isK c.k 3))),
  (33, [scN, .agg tagS, .agg (vText (so 1003))], okE (!(isK c.k 7))),
  (33, [scN, .agg tagS, .agg (vText (lS [122]))], okE true),
  (33, [scN, .agg tagS, .agg (vText (lS [120]))], okE true),
  (33, [scN, .agg noneS, .agg (vz 0)], okE false)]
def bdE : List (Nat × Int × Int) := [(4, 1, 1200), (1, 0, 1200), (2, 0, 5), (103, 1, 3)]
def fsE (l : Bool) : List Lin := match l with
  | true => [([(1, -1), (4, 1)], -1)]
  | false => [([(1, 1), (4, -1)], 0)]
def cfE0 (l : Bool) : Cfg := { cfg0 with
  bd := (101, 1, 3) :: bdE
  fs := fsE l
  rl := [(0, at1 4), (1, at1 103), (2, ([], 0)), (3, ([], 1))]
  rp := match l with | true => [(3, 2, [longF])] | false => []
  mt := [(101, 0)]
  mm := [(0, [.ptr 5 0 0 1, .ptr 3 0 0 0], ni 101), (0, [.ptr 5 0 0 1, .ptr 1 0 0 0], ni 101)]
  ct := [(12, [scN, vN], .tup [lB false, lI 0])] }
def cfE (l : Bool) (c : ClE) : Cfg := { cfg0 with
  bd := bdE ++ [(100, 0, 1199), (101, 0, 3), (1001, -1, 5), (1004, 0, 7)]
  fs := ([(4, 1), (100, -1)], -1) :: fsE l
  sl := [(1000, at1 1004)]
  rl := [(0, at1 4)]
  rv := [(0, at1 100, rowE c)]
  mt := [(101, 0)]
  mm := mmE c
  ct := ctE c }
/-! ### one row: calls that are told ahead, with the blocks that they read -/
def scCs : List AV := defsV :: rootS (so 0) (ni 2) (ni 1)
def vNc : List AV := vList (.sym (.ro 13 0))
def boxR : Blk := .box (scCs ++ [.mp 4])
def H1E : HL := [(3, some (.box vNc)), (4, some (.memo 0 [3, 5])), (5, some boxR)]
def H2E : HL := [(3, some (.box vNc)), (1, some (.box vNc)), (4, some (.memo 0 [1, 3, 5])), (5, some boxR)]
def H3E : HL := (17, some (.arr false 3 [stN (ni 100)])) :: H2E
def argE (c : ClE) : List AV := [.ptr 5 0 0 0, .rp (rwS (so 0) (ni 2)) 0, .rp (rowE c) 0]
abbrev CmT := Nat × List AV × HL × Nat × AV × HL × Nat
def cmA1 (c : ClE) : CmT := (50, argE c, H1E, 9, one01 (!(isK c.k 0)), [(4, some (.memo 0 [3, 5]))], c.t.1)
def cmA2 (c : ClE) : CmT := (50, argE c, H2E, 12, one01 (!(isK c.k 0)), [(4, some (.memo 0 [1, 3, 5]))], c.t.1)
def memo2 : Nat × Option Blk := (4, some (.memo 0 [1, 3, 5]))
def failN (c : ClE) : List AV := failP c.k (ni 100)
def pathE (c : ClE) : List (List AV) := match failN c with
  | .ro _ rows :: _ => rows
  | _ => []
def cmA3 (c : ClE) : CmT := match isK c.k 0 with
  | true => (25, argE c ++ [.sl 17 3 0 1], H3E, 19, nilS, [memo2], c.t.2.2.2)
  | false => (25, argE c ++ [.sl 17 3 0 1], H3E, 19, .sl c.t.2.2.1 3 0 1, [memo2, (c.t.2.1, some (.arr false 3 (pathE c))), (c.t.2.2.1, some (.arr false 3 [.sl c.t.2.1 3 0 (pathE c).length :: (failN c).drop 1]))], c.t.2.2.2)
def cmA4 (c : ClE) : CmT := match isK c.k 0 with
  | true => (25, argE c ++ [.sl 17 3 0 1], H3E, 19, nilS, [memo2], c.t.2.2.2)
  | false => (25, argE c ++ [.sl 17 3 0 1], H3E, 19, .sym (.sl c.t.2.2.1 3 ([], 0) ([], 1)), [memo2, (c.t.2.2.1, some (.sarr 3 1001))], c.t.2.2.2)
def cfRw (c : ClE) : Cfg := { cfg0 with
  bd := [(4, 1, 1200), (1, 0, 1200), (2, 0, 5), (100, 0, 1199), (1001, -1, 5), (1004, 0, 7)]
  sl := [(1000, at1 1004)]
  mt := [(101, 0)]
  mm := mmE c
  ct := ctE c }
def cfRw4 (c : ClE) : Cfg := match isK c.k 0 with
  | true => cfRw c
  | false => { cfRw c with rl := [(2, ([], 0)), (1001, ([], 1))], rp := [(1001, 2, [failN c])] }
/-- does the call come to what is told? -/
def okCm (cf : Cfg) (P : Program) (e : CmT) : Bool := match callIn cf [] P 100 e.1 e.2.1 e.2.2.1 e.2.2.2.1 with
  | .ok [v] => beqOut v { res := some e.2.2.2.2.1, U := e.2.2.2.2.2.1, m := e.2.2.2.2.2.2 } && Nat.beq v.m e.2.2.2.2.2.2
  | _ => false
noncomputable def runA1 (c : ClE) : Bool := okCm (cfRw c) Tryz.prog (cmA1 c)
noncomputable def runA2 (c : ClE) : Bool := okCm (cfRw c) Tryz.prog (cmA2 c)
noncomputable def runA3 (c : ClE) : Bool := okCm (cfRw c) Tryz.prog (cmA3 c)
noncomputable def runA4 (c : ClE) : Bool := okCm (cfRw4 c) Tryz.prog (cmA4 c)
theorem okCm_call {V : VL} {cf : Cfg} (ok : @Cfg.OK V cf) (told : @Tell V cf Tryz.prog) {e : CmT} (h : okCm cf Tryz.prog e = true) :
    @CallM V Tryz.prog e.1 e.2.1 (@lkH V e.2.2.1) e.2.2.2.1 [{ res := some e.2.2.2.2.1, U := e.2.2.2.2.2.1, m := e.2.2.2.2.2.2 }] := by
  unfold okCm at h
  split at h
  · rename_i v hv
    simp only [Bool.and_eq_true] at h
    obtain ⟨h1, h2⟩ := h
    have h3 := Nat.eq_of_beq_eq_true h2
    have h4 : v = { res := some e.2.2.2.2.1, U := e.2.2.2.2.2.1, m := e.2.2.2.2.2.2 } := by
      obtain ⟨r, U, m⟩ := v
      obtain ⟨e1, e2⟩ := beqOut_eq h1
      simp only at e1 e2 h3
      rw [e1, e2, h3]
    rw [h4] at hv
    exact @callIn_ok0 V cf Tryz.prog ok told 100 _ _ _ _ _ hv
  · cases h
end Go.Abs
end
section
open Go.Proofs
set_option maxRecDepth 100000
namespace Go.Abs
structure ClV where
  sh : Bool × Bool × Nat
  t : Option Nat
  k : Nat
def goodV : List ClV := [⟨(true, false, 0), none, 0⟩, ⟨(true, false, 2), some 120, 0⟩, ⟨(true, false, 2), some 121, 0⟩, ⟨(true, false, 2), some 122, 0⟩]
def badV : List ClV := [⟨(true, false, 0), none, 1⟩, ⟨(true, false, 0), none, 3⟩, ⟨(true, false, 2), none, 1⟩, ⟨(true, false, 2), none, 3⟩, ⟨(true, false, 2), some 113, 7⟩, ⟨(false, false, 0), none, 4⟩, ⟨(false, false, 2), none, 4⟩, ⟨(true, true, 0), none, 5⟩,
  ⟨(true, true, 2), some 120, 5⟩, ⟨(true, true, 2), some 121, 5⟩, ⟨(true, true, 2), some 122, 5⟩, ⟨(true, false, 3), none, 6⟩]
def cVv (c : ClV) : List AV := vList (tagsV c.sh.2.2 (tN c.t))
def rowVv (c : ClV) : List AV := rowV (fldV c.sh.1 c.sh.2.1 c.sh.2.2 (so 1000) (ni 1001) (so 1002) (tN c.t))
def mmV (c : ClV) : List (Nat × List AV × AV) := [
  (1, [lI 1, .rp (rowVv c) 0], lB (isK c.k 0)),
  (1, [lI 2, .rp (vNum (so 1000) (ni 1001)) 0], lB (!(isK c.k 1))),
  (1, [lI 3, .rp (vText (so 1002)) 0], lB (!(isK c.k 3))),
  (1, [lI 5, .rp (vText (lS [122])) 0], lB true),
  (1, [lI 5, .rp (vText (lS [120])) 0], lB true),
  (1, [lI 5, .rp (vText (tN c.t)) 0], lB (!(isK c.k 7))),
  (1, [lI 6, .rp (vz 0) 0], lB false)] ++ (match isK c.sh.2.2 0 with
  | true => []
  | false => [(1, [lI 4, .rp (cVv c) 0], lB (!(isK c.k 6 || isK c.k 7)))])
def ctV (c : ClV) : List (Nat × List AV × AV) := [(103, [setN, decN], lB (!(isK c.k 1))), (114, [so 1002], .tup [ni 1005, lI 0])]
def loV (c : ClV) : Int := match isK c.k 3 with | true => 0 | false => 1
def hiV (c : ClV) : Int := match isK c.k 3 with | true => 0 | false => 3
def cfVr (c : ClV) : Cfg := { cfg0 with
  bd := [(4, 1, 1200), (1, 0, 1200), (2, 0, 5), (100, 0, 1199), (1001, -1, 5), (1004, 0, 7), (1005, loV c, hiV c)]
  fs := [([(4, 1), (100, -1)], -1), ([(1, 1), (4, -1)], 0)]
  sl := [(1000, at1 1004)]
  rl := [(0, at1 4)]
  rv := [(0, at1 100, rowVv c)]
  mt := [(173, 1)]
  mm := mmV c
  ct := ctV c }
def cfVe : Cfg := { cfg0 with bd := [(4, 1, 1200), (1, 0, 1200), (2, 0, 5), (100, 0, 1200)], fs := [([(4, 1), (100, -1)], 0), ([(4, -1), (100, 1)], 0), ([(1, 1), (4, -1)], 0)], rl := [(0, at1 4)], mt := [(173, 1)] }
def L192 (b : Option ClV) : Lp where
  fn := 192
  id := 4
  tm := [([(43, ni 100)], [])]
  s0 := { i := [(100, ([], 0))] }
  cs := goodV.map fun c => { frm := 0, to := 0, cf := cfVr c, sb := { i := [(100, ([(100, 1)], 1))] } }
  cx := match b with
    | some c => cfVr c
    | none => cfVe
def cfV0 (good : Bool) : Cfg := { cfg0 with
  bd := [(4, 1, 1200), (1, 0, 1200), (2, 0, 5)]
  fs := [([(1, 1), (4, -1)], 0)]
  rl := [(0, at1 4)]
  mt := [(173, 1)]
  mm := [(1, [lI 0, .ptr 3 0 0 0], lB good)]
  ct := [(74, [chkN], lI 0), (63, [vN], lI 0)] }
/-- a list that is too long -/
def cfVl : Cfg := { cfV0 false with fs := [([(4, 1), (1, -1)], -1)] }
noncomputable def runVr (b : Option ClV) : Bool := okTop (topF (cfV0 b.isNone) [L192 b] Tryz.prog 100 14 [chkN, vN]) (lB b.isNone)
noncomputable def runVl : Bool := okTop (topF cfVl [] Tryz.prog 100 14 [chkN, vN]) (lB false)
end Go.Abs
end
section
open Go.Proofs
set_option maxRecDepth 100000
namespace Go.Abs
/-- number -/
def cfWa (g : Bool) : Cfg := { cfg0 with
  bd := [(1, 0, 1200), (2, 0, 5), (1001, -1, 5), (1004, 0, 7)]
  sl := [(1000, at1 1004)]
  mt := [(173, 1)]
  mm := [(1, [lI 2, .ptr 1 0 0 0], lB g)]
  ct := [(74, [chkN], lI 0), (158, [decN], lB true), (103, [setN, decN], lB g)] }
def cfWb (g : Bool) : Cfg := { cfg0 with
  bd := [(1, 0, 1200), (2, 0, 5), (1005, loG g, hiG g)]
  sl := [(1002, at1 1005)]
  mt := [(173, 1)]
  mm := [(1, [lI 3, .ptr 1 0 0 0], lB g)]
  ct := [(74, [chkN], lI 0), (114, [so 1002], .tup [ni 1005, lI 0]), (68, [so 1002], lB true)] }
def cfWt (j : Int) (g : Bool) : Cfg := { cfg0 with
  bd := [(1, 0, 1200), (2, 0, 5)]
  mt := [(173, 1)]
  mm := [(1, [lI j, .ptr 1 0 0 0], lB g)]
  ct := [(74, [chkN], lI 0)] }
noncomputable def runW37 (cf : Cfg) (j : Int) (y : List AV) (g : Bool) : Bool := okTop (topF cf [] Tryz.prog 100 37 [chkN, lI j, .agg y]) (lB g)
noncomputable def runW63 (cf : Cfg) (y : List AV) : Bool := okTop (topF cf [] Tryz.prog 100 63 [.agg y]) (lI 0)
end Go.Abs
end
section
open Go.Proofs
set_option maxRecDepth 100000
namespace Go.Abs
/-- what a function comes to at data; one loop of its own is told ahead -/
def topG (cfg : Cfg) (lp : Lp) (P : Program) (d f : Nat) (args : List AV) : Rs (List AV) := match P.funcs[f]? with
  | none => .er "function" []
  | some fn => match fn.body with
    | none => .er "no body" []
    | some c => match Nat.ble args.length fn.ntmps && Nat.ble 1 fn.ntmps with
      | false => .er "slots" []
      | true => match exec cfg P (callIn cfg [] P d) (loopF [lp] P (fun cf => callIn cf [] P d) fn.ntmps f 0) fn.ntmps 5000 c ⟨argsEL 0 args, [], 0, []⟩ with
        | .er e xs => .er e xs
        | .ok l => mapAll (fun p => match isEnd p.1 with
          | true => match resAll P (envOf p.2.E) (lkR p.2.H) fn.results.toList with
            | some r => match fzA cfg p.2.H 9 r with
              | some y => .ok y
              | none => .er "freeze" [r]
            | none => .er "results" []
          | false => .er "left" []) l
theorem topG_ok [V : VL] {cfg : Cfg} {lp : Lp} {P : Program} (ok : cfg.OK) (tell : Tell cfg P) (hlp : LpOK V P lp) {d f : Nat} {args xs ys : List AV} {res : AV} (h : topG cfg lp P d f args = .ok ys) (hy : ∀ y ∈ ys, denA 20 y = res) (ha : args.map (denA 20) = xs) :
    FSpec P f 0 xs (fun _ => none) (fun r h => r = res ∧ h = fun _ => none) := by
  unfold topG at h
  split at h
  · cases h
  · rename_i fn hf
    split at h
    · cases h
    · rename_i c hc
      split at h
      · cases h
      · rename_i hn
        simp only [Bool.and_eq_true] at hn
        split at h
        · cases h
        · rename_i l hl
          obtain ⟨hm1, _⟩ := mapAll_ok h
          refine FSpec.intro hf hc (by rw [← ha]; simpa using Nat.le_of_ble_eq_true hn.1) (Nat.le_of_ble_eq_true hn.2) fun s w hs hn0 => ?_
          have hex := exec_ok (C := ⟨0, s, w, fn.ntmps⟩) ok tell.ft tell.any (callIn_ok0 ok tell d) (loopF_ok (L := [lp]) (by intro q hq; simp only [List.mem_cons, List.not_mem_nil, or_false] at hq; subst hq; exact hlp) d f fn.ntmps 0 _ rfl (Nat.le_refl _)) hl
          rw [argsEL_eq] at hex
          have hE : ALe ⟨0, s, w, fn.ntmps⟩ (argsE xs) (fun _ => none) 0 (argsE args) (lkH []) 0 := fun s1 w1 a g =>
            ⟨s1, { g with
              env := fun t av ht => by
                refine (den_rel 20).2 (g.env t (denA 20 av) ?_)
                show xs[t]? = _
                rw [← ha, List.getElem?_map, show args[t]? = some av from ht]; rfl
              hp := g.hp }⟩
          refine AWP.weaken hE (hex.mono ?_)
          rintro e E' H' nx' ⟨p, hp, rfl, rfl, rfl, rfl⟩
          obtain ⟨y, hy1, hy2⟩ := hm1 p hp
          split at hy2
          · rename_i hend
            split at hy2
            · rename_i r hr
              split at hy2
              · rename_i y' hfz
                cases hy2
                have key : ∃ r1 r' H' nx', resAll P (envOf p.2.E) (lkH p.2.H) fn.results.toList = some r1 ∧ ALe ⟨0, s, w, fn.ntmps⟩ (envOf [(0, r1)]) (lkH p.2.H) p.2.nx (envOf [(0, r')]) H' nx' ∧ (r' = res ∧ H' = fun _ => none) := by
                  refine ⟨r, res, fun _ => none, p.2.nx, resAll_den hr, fun s1 w1 a g => ⟨bareSg s1, ?_⟩, rfl, rfl⟩
                  exact
                    { ok0 := g.ok0
                      ok := bare_ok g.ok
                      env := fun t av ht => by
                        simp only [envOf] at ht
                        split at ht
                        · rename_i e
                          subst e
                          cases ht
                          have h2 := fz_rel ok g.ok (fun k B hB => by rw [g.hp]; exact hB) 9 hfz (g.env 0 r (by simp [envOf]))
                          rw [← hy _ hy1]
                          exact (den_rel 20).1 h2
                        · cases ht
                      hp := rfl
                      new := fun k _ => rfl
                      le := Nat.zero_le _
                      size := g.size
                      defers := g.defers
                      glob :=
                        { M := g.glob.M
                          n0 := g.glob.n0
                          rho := fun k x hk => absurd hk (Nat.not_lt_zero k)
                          size := g.glob.size
                          os := g.glob.os
                          tape := g.glob.tape
                          output := g.glob.output
                          keep := g.glob.keep
                          own := fun k b h => absurd rfl h
                          dead := fun k hk => absurd hk (Nat.not_lt_zero k)
                          arr := fun k fr esz els hk => absurd hk (Nat.not_lt_zero k) } }
                cases hq : p.1 <;> rw [hq] at hend <;> first | (cases hend; done) | exact key
              · cases hy2
            · cases hy2
          · cases hy2
theorem bindAll_cong {α β : Type} {f1 f2 f3 : α → Rs (List β)} : ∀ {l : List α} {o1 o2 : List β}, (∀ x, x ∈ l → ∀ y1 y2, f1 x = .ok y1 → f2 x = .ok y2 → y1 = y2 ∧ f3 x = .ok y1) → bindAll f1 l = .ok o1 → bindAll f2 l = .ok o2 → o1 = o2 ∧ bindAll f3 l = .ok o1
  | [], o1, o2, _, h1, h2 => by
    simp only [bindAll] at h1 h2 ⊢
    cases h1
    cases h2
    exact ⟨rfl, rfl⟩
  | x :: r, o1, o2, h, h1, h2 => by
    simp only [bindAll] at h1 h2 ⊢
    cases e1 : f1 x with
    | er m xs => rw [e1] at h1; cases h1
    | ok y1 =>
      cases e2 : f2 x with
      | er m xs => rw [e2] at h2; cases h2
      | ok y2 =>
        obtain ⟨e, e3⟩ := h x List.mem_cons_self y1 y2 e1 e2
        rw [e1] at h1
        rw [e2] at h2
        rw [e3]
        subst e
        simp only at h1 h2 ⊢
        cases b1 : bindAll f1 r with
        | er m xs => rw [b1] at h1; cases h1
        | ok z1 =>
          cases b2 : bindAll f2 r with
          | er m xs => rw [b2] at h2; cases h2
          | ok z2 =>
            obtain ⟨e', b3⟩ := bindAll_cong (fun x hx => h x (List.mem_cons_of_mem _ hx)) b1 b2
            rw [b1] at h1
            rw [b2] at h2
            rw [b3]
            subst e'
            rw [h1] at h2
            cases h2
            exact ⟨rfl, h1⟩
theorem mapAll_app {α β : Type} {f : α → Rs β} : ∀ {l l' : List α} {x y : List β}, mapAll f l = .ok x → mapAll f l' = .ok y → mapAll f (l ++ l') = .ok (x ++ y)
  | [], l', x, y, h1, h2 => by
    simp only [mapAll] at h1
    cases h1
    exact h2
  | a :: l, l', x, y, h1, h2 => by
    simp only [mapAll, List.cons_append] at h1 ⊢
    cases e1 : f a with
    | er m xs => rw [e1] at h1; cases h1
    | ok b =>
      rw [e1] at h1
      simp only at h1 ⊢
      cases e2 : mapAll f l with
      | er m xs => rw [e2] at h1; cases h1
      | ok z =>
        rw [e2] at h1
        cases h1
        rw [mapAll_app e2 h2]
        rfl
section
variable {cfg : Cfg} {P : Program} {callF : Nat → List AV → HL → Nat → Rs (List Out)} {N : Nat}
abbrev LfT := Code → St → Option (Rs (List (Exit × St)))
theorem exec_cong {lf1 lf2 lf3 : LfT} (hl : ∀ b st, (lf1 b st = none ∧ lf2 b st = none ∧ lf3 b st = none) ∨ (lf1 b st ≠ none ∧ lf2 b st ≠ none ∧ ∀ o1 o2, lf1 b st = some (.ok o1) → lf2 b st = some (.ok o2) → o1 = o2 ∧ lf3 b st = some (.ok o1))) :
    ∀ (n : Nat) (c : Code) (st : St) (o1 o2 : List (Exit × St)), exec cfg P callF lf1 N n c st = .ok o1 → exec cfg P callF lf2 N n c st = .ok o2 → o1 = o2 ∧ exec cfg P callF lf3 N n c st = .ok o1
  | 0, c, st, o1, o2, h1, h2 => by cases h1
  | n + 1, c, st, o1, o2, h1, h2 => by
    have ih := exec_cong hl n
    have two : ∀ (b : Code) (l o1 o2 : List (Exit × St)), bindAll (fun p => match isNormal p.1 with | true => exec cfg P callF lf1 N n b p.2 | false => .ok [p]) l = .ok o1 →
        bindAll (fun p => match isNormal p.1 with | true => exec cfg P callF lf2 N n b p.2 | false => .ok [p]) l = .ok o2 → o1 = o2 ∧ bindAll (fun p => match isNormal p.1 with | true => exec cfg P callF lf3 N n b p.2 | false => .ok [p]) l = .ok o1 := by
      intro b l o1 o2 h1 h2
      refine bindAll_cong (fun p _ y1 y2 e1 e2 => ?_) h1 h2
      cases hn : isNormal p.1 with
      | true =>
        rw [hn] at e1 e2
        exact ih _ _ _ _ e1 e2
      | false =>
        rw [hn] at e1 e2
        cases e1
        cases e2
        exact ⟨rfl, rfl⟩
    cases c with
    | seq a b =>
      simp only [exec] at h1 h2 ⊢
      cases e1 : exec cfg P callF lf1 N n a st with
      | er m xs => rw [e1] at h1; cases h1
      | ok l1 =>
        cases e2 : exec cfg P callF lf2 N n a st with
        | er m xs => rw [e2] at h2; cases h2
        | ok l2 =>
          obtain ⟨e, e3⟩ := ih _ _ _ _ e1 e2
          subst e
          rw [e1] at h1
          rw [e2] at h2
          rw [e3]
          exact two b l1 o1 o2 h1 h2
    | cond x a b =>
      simp only [exec] at h1 h2 ⊢
      cases hx : ev st.E x with
      | none => rw [hx] at h1; cases h1
      | some v =>
        rw [hx] at h1 h2
        simp only at h1 h2 ⊢
        cases hb : bv cfg v with
        | none => rw [hb] at h1; cases h1
        | some q =>
          rw [hb] at h1 h2
          cases q
          · exact ih _ _ _ _ h1 h2
          · exact ih _ _ _ _ h1 h2
    | block id b =>
      simp only [exec] at h1 h2 ⊢
      cases e1 : exec cfg P callF lf1 N n b st with
      | er m xs => rw [e1] at h1; cases h1
      | ok l1 =>
        cases e2 : exec cfg P callF lf2 N n b st with
        | er m xs => rw [e2] at h2; cases h2
        | ok l2 =>
          obtain ⟨e, e3⟩ := ih _ _ _ _ e1 e2
          subst e
          rw [e1] at h1
          rw [e2] at h2
          rw [e3]
          cases h1
          cases h2
          exact ⟨rfl, rfl⟩
    | loop b =>
      simp only [exec] at h1 h2 ⊢
      rcases hl b st with ⟨n1, n2, n3⟩ | ⟨s1, s2, s3⟩
      · rw [n1] at h1
        rw [n2] at h2
        rw [n3]
        simp only at h1 h2 ⊢
        cases e1 : exec cfg P callF lf1 N n b st with
        | er m xs => rw [e1] at h1; cases h1
        | ok l1 =>
          cases e2 : exec cfg P callF lf2 N n b st with
          | er m xs => rw [e2] at h2; cases h2
          | ok l2 =>
            obtain ⟨e, e3⟩ := ih _ _ _ _ e1 e2
            subst e
            rw [e1] at h1
            rw [e2] at h2
            rw [e3]
            exact two (.loop b) l1 o1 o2 h1 h2
      · cases e1 : lf1 b st with
        | none => exact absurd e1 s1
        | some r1 =>
          cases e2 : lf2 b st with
          | none => exact absurd e2 s2
          | some r2 =>
            rw [e1] at h1
            rw [e2] at h2
            simp only at h1 h2
            subst h1
            subst h2
            obtain ⟨e, e3⟩ := s3 _ _ e1 e2
            rw [e3]
            exact ⟨e, rfl⟩
    | region id ops any =>
      have e3 : exec cfg P callF lf3 N (n + 1) (.region id ops any) st = exec cfg P callF lf1 N (n + 1) (.region id ops any) st := by cases any <;> simp only [exec]
      have e2 : exec cfg P callF lf2 N (n + 1) (.region id ops any) st = exec cfg P callF lf1 N (n + 1) (.region id ops any) st := by cases any <;> simp only [exec]
      rw [e2, h1] at h2
      rw [e3, h1]
      cases h2
      exact ⟨rfl, rfl⟩
    | _ => simp only [exec] at h1 h2 ⊢ <;> first | (cases h1; done) | (cases h1; cases h2; exact ⟨rfl, rfl⟩)
end
theorem runLoop_cong {ex : Cfg → Code → St → Rs (List (Exit × St))} {n0 : Nat} {lp : Lp} {A B : List Cas} (b : Code) (st : St) :
    (runLoop ex n0 { lp with cs := A } b st = none ∧ runLoop ex n0 { lp with cs := B } b st = none ∧ runLoop ex n0 { lp with cs := A ++ B } b st = none) ∨
    (runLoop ex n0 { lp with cs := A } b st ≠ none ∧ runLoop ex n0 { lp with cs := B } b st ≠ none ∧ ∀ o1 o2, runLoop ex n0 { lp with cs := A } b st = some (.ok o1) → runLoop ex n0 { lp with cs := B } b st = some (.ok o2) →
      o1 = o2 ∧ runLoop ex n0 { lp with cs := A ++ B } b st = some (.ok o1)) := by
  have hd : ∀ cs g, headSt { lp with cs := cs } st g = headSt lp st g := fun _ _ => rfl
  have hc : ∀ cs, okCas ex n0 { lp with cs := cs } b st = okCas ex n0 lp b st := fun _ => rfl
  unfold runLoop
  simp only [hd, hc]
  cases h0 : lp.tm[lp.i0]? with
  | none => exact .inl ⟨rfl, rfl, rfl⟩
  | some g0 =>
    simp only
    cases hm : matchSt n0 (relS st (headSt lp st g0) lp.s0) st (headSt lp st g0) with
    | false => exact .inl ⟨rfl, rfl, rfl⟩
    | true =>
      simp only
      refine .inr ⟨by simp, by simp, fun o1 o2 h1 h2 => ?_⟩
      have h1 := Option.some.inj h1
      have h2 := Option.some.inj h2
      cases a1 : mapAll (okCas ex n0 lp b st) A with
      | er m xs => rw [a1] at h1; cases h1
      | ok u1 =>
        cases a2 : mapAll (okCas ex n0 lp b st) B with
        | er m xs => rw [a2] at h2; cases h2
        | ok u2 =>
          rw [a1] at h1
          rw [a2] at h2
          rw [mapAll_app a1 a2]
          simp only at h1 h2 ⊢
          rw [h1] at h2
          cases h2
          exact ⟨rfl, by rw [h1]⟩
theorem loopF_cong {P : Program} {callOf : Cfg → Nat → List AV → HL → Nat → Rs (List Out)} {N f n0 : Nat} {lp : Lp} {A B : List Cas} (b : Code) (st : St) :
    (loopF [{ lp with cs := A }] P callOf N f n0 b st = none ∧ loopF [{ lp with cs := B }] P callOf N f n0 b st = none ∧ loopF [{ lp with cs := A ++ B }] P callOf N f n0 b st = none) ∨
    (loopF [{ lp with cs := A }] P callOf N f n0 b st ≠ none ∧ loopF [{ lp with cs := B }] P callOf N f n0 b st ≠ none ∧ ∀ o1 o2, loopF [{ lp with cs := A }] P callOf N f n0 b st = some (.ok o1) → loopF [{ lp with cs := B }] P callOf N f n0 b st = some (.ok o2) →
      o1 = o2 ∧ loopF [{ lp with cs := A ++ B }] P callOf N f n0 b st = some (.ok o1)) := by
  unfold loopF
  dsimp only
  cases hi : loopId 20 b with
  | none => exact .inl ⟨rfl, rfl, rfl⟩
  | some i =>
    simp only [lkLp]
    cases hb : Nat.beq lp.fn f && Nat.beq lp.id i with
    | false => exact .inl ⟨rfl, rfl, rfl⟩
    | true => exact runLoop_cong b st
theorem topG_two {cfg : Cfg} {lp : Lp} {P : Program} {d f : Nat} {args : List AV} {A B : List Cas} {y1 y2 : List AV} (h1 : topG cfg { lp with cs := A } P d f args = .ok y1) (h2 : topG cfg { lp with cs := B } P d f args = .ok y2) :
    topG cfg { lp with cs := A ++ B } P d f args = .ok y1 := by
  unfold topG at h1 h2 ⊢
  cases hf : P.funcs[f]? with
  | none => rw [hf] at h1; cases h1
  | some fn =>
    rw [hf] at h1 h2
    simp only at h1 h2 ⊢
    cases hb : fn.body with
    | none => rw [hb] at h1; cases h1
    | some c =>
      rw [hb] at h1 h2
      simp only at h1 h2 ⊢
      cases hn : Nat.ble args.length fn.ntmps && Nat.ble 1 fn.ntmps with
      | false => rw [hn] at h1; cases h1
      | true =>
        rw [hn] at h1 h2
        simp only at h1 h2 ⊢
        cases e1 : exec cfg P (callIn cfg [] P d) (loopF [{ lp with cs := A }] P (fun cf => callIn cf [] P d) fn.ntmps f 0) fn.ntmps 5000 c ⟨argsEL 0 args, [], 0, []⟩ with
        | er m xs => rw [e1] at h1; cases h1
        | ok l1 =>
          cases e2 : exec cfg P (callIn cfg [] P d) (loopF [{ lp with cs := B }] P (fun cf => callIn cf [] P d) fn.ntmps f 0) fn.ntmps 5000 c ⟨argsEL 0 args, [], 0, []⟩ with
          | er m xs => rw [e2] at h2; cases h2
          | ok l2 =>
            obtain ⟨e, e3⟩ := exec_cong (loopF_cong) 5000 c _ l1 l2 e1 e2
            rw [e3]
            rw [e1] at h1
            exact h1
/-- all cases together, where each goes through alone -/
theorem topG_all {cfg : Cfg} {lp : Lp} {P : Program} {d f : Nat} {args : List AV} {r : AV} : ∀ {cs : List Cas}, cs ≠ [] → (∀ c, c ∈ cs → okTop (topG cfg { lp with cs := [c] } P d f args) r = true) → okTop (topG cfg { lp with cs := cs } P d f args) r = true
  | [], h, _ => absurd rfl h
  | [c], _, h => h c (by simp)
  | c :: c' :: q, _, h => by
    have h1 := h c (by simp)
    have h2 := topG_all (cs := c' :: q) (by simp) fun x hx => h x (List.mem_cons_of_mem _ hx)
    have V : VL := ⟨fun _ => 0, fun _ => [], fun _ => false, fun _ => [], fun _ => .emp, fun _ _ _ => False⟩
    obtain ⟨y1, e1, a1⟩ := @okTop_eq V _ _ h1
    obtain ⟨y2, e2, a2⟩ := @okTop_eq V _ _ h2
    have e3 := topG_two (A := [c]) (B := c' :: q) e1 e2
    show okTop (topG cfg { lp with cs := [c] ++ c' :: q } P d f args) r = true
    rw [e3, ← e1]
    exact h1
theorem csG_of [V : VL] {cfg : Cfg} {lp : Lp} (ok : cfg.OK) (tell : Tell cfg Tryz.prog) (hlp : LpOK V Tryz.prog lp) {d f : Nat} {args : List AV} {r : AV} (h : okTop (topG cfg lp Tryz.prog d f args) r = true) {xs : List AV} {y : AV} (ha : args.map (denA 20) = xs) (hr : denA 20 r = y)
    (hpx : ∀ x ∈ xs, Pure x) (hpy : Pure y) : CS Tryz.prog f xs y := by
  obtain ⟨ys, h1, h2⟩ := okTop_eq h
  exact FSpec.cs (topG_ok ok tell hlp h1 (fun y hy => by rw [h2 y hy]; exact hr) ha) hpx hpy
end Go.Abs
end
