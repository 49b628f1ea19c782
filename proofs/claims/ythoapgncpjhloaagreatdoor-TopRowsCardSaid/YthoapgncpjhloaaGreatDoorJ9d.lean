/- Part 9d of the proof that TopRows returns true for every input of its row (no condition beyond the row). -/
import Derived.Test.YthoapgncpjhloaaGreatDoorJ6
set_option linter.unusedVariables false
set_option linter.unusedSimpArgs false
set_option linter.unusedSectionVars false
set_option linter.all false
section
open Go.Proofs
set_option maxRecDepth 100000
namespace Go.Abs
/-! ### digits, compared -/
theorem cmp_digB (x y m : Nat) : ∀ n, Lib.compareBytes (digB x n m) (digB y n m) = (if x / 10 ^ m % 10 ^ n < y / 10 ^ m % 10 ^ n then -1 else if y / 10 ^ m % 10 ^ n < x / 10 ^ m % 10 ^ n then 1 else 0)
  | 0 => by simp [digB, Lib.compareBytes, Nat.mod_one]
  | n + 1 => by
    have ih := cmp_digB x y m n
    have e : ∀ z : Nat, z / 10 ^ m % 10 ^ (n + 1) = z / 10 ^ m % 10 ^ n + 10 ^ n * dgt z (m + n) := by
      intro z
      rw [Nat.pow_succ, Nat.mod_mul]
      unfold dgt
      rw [Nat.div_div_eq_div_mul, ← Nat.pow_add]
    have hx := dgt_lt x (m + n)
    have hy := dgt_lt y (m + n)
    have hbx : x / 10 ^ m % 10 ^ n < 10 ^ n := Nat.mod_lt _ (Nat.pow_pos (by omega))
    have hby : y / 10 ^ m % 10 ^ n < 10 ^ n := Nat.mod_lt _ (Nat.pow_pos (by omega))
    have lt_iff : ∀ a b : Nat, a ≤ 9 → b ≤ 9 → (UInt8.ofNat (a + 48) < UInt8.ofNat (b + 48) ↔ a < b) := by
      intro a b ha hb
      rw [UInt8.lt_iff_toNat_lt]
      simp only [UInt8.toNat_ofNat']
      omega
    rw [e x, e y]
    simp only [digB, Lib.compareBytes, lt_iff _ _ hx hy, lt_iff _ _ hy hx]
    generalize dgt x (m + n) = a at *
    generalize dgt y (m + n) = b at *
    generalize x / 10 ^ m % 10 ^ n = p at *
    generalize y / 10 ^ m % 10 ^ n = q at *
    generalize 10 ^ n = t at *
    have mono : ∀ u v : Nat, u < v → p + t * u < q + t * v ∧ q + t * u < p + t * v := by
      intro u v huv
      have : t * (u + 1) ≤ t * v := Nat.mul_le_mul_left t huv
      rw [Nat.mul_add, Nat.mul_one] at this
      omega
    by_cases h1 : a < b
    · rw [if_pos h1, if_pos (mono a b h1).1]
    · rw [if_neg h1]
      by_cases h2 : b < a
      · have := (mono b a h2).2
        rw [if_pos h2, if_neg (by omega), if_pos this]
      · have : a = b := by omega
        subst this
        rw [if_neg h2, ih]
        generalize t * a = r
        have e1 : (p + r < q + r) ↔ p < q := by omega
        have e2 : (q + r < p + r) ↔ q < p := by omega
        simp only [e1, e2]
/-- noughts at the end are digits -/
theorem digB_pad {x k z m : Nat} (hz : ∀ j, j < z → dgt x j = 0) (hm : m ≤ z) (hk : z ≤ k) : digB x (k - z) z ++ List.replicate (z - m) 48 = digB x (k - m) m := by
  have h0 : ∀ d, d ≤ z - m → digB x d m = List.replicate d 48 := by
    intro d
    induction d with
    | zero => intro _; rfl
    | succ d ih =>
      intro hd
      simp only [digB, ih (by omega), List.replicate_succ]
      rw [hz (m + d) (by omega)]
      rfl
  have h1 : ∀ n, digB x n z ++ digB x (z - m) m = digB x (n + (z - m)) m := by
    intro n
    induction n with
    | zero => simp [digB]
    | succ n ih =>
      have : n + 1 + (z - m) = (n + (z - m)) + 1 := by omega
      rw [this]
      simp only [digB, List.cons_append, ih]
      rw [show m + (n + (z - m)) = z + n by omega]
  rw [← h0 (z - m) (Nat.le_refl _), h1]
  congr 1; omega
theorem digB_ten (y : Nat) : ∀ n z, digB (10 * y) n (z + 1) = digB y n z
  | 0, z => rfl
  | n + 1, z => by
    simp only [digB, digB_ten y n z]
    have : dgt (10 * y) (z + 1 + n) = dgt y (z + n) := by
      unfold dgt
      rw [show z + 1 + n = (z + n) + 1 by omega, Nat.pow_succ, Nat.mul_comm (10 ^ (z + n)) 10, Nat.mul_div_mul_left _ _ (by omega)]
    rw [this]
def padS : Nat → List SP
  | 0 => []
  | n + 1 => .b 48 :: padS n
theorem padS_val [VL] : ∀ n, (padS n).flatMap SP.val = List.replicate n 48
  | 0 => rfl
  | n + 1 => by simp only [padS, List.flatMap_cons, padS_val n, List.replicate_succ]; rfl
/-- the set of the whole numbers from 0 to 'y' -/
def setK (y k z : Nat) : AV := .agg [.ro 11 [[.lit (.bool true), .lit (.bool false), .lit (.string ⟨#[]⟩), .lit (.int .i64 0), .lit (.bool false), .lit (.bool true), .lit (.bool false), .lit (.string ⟨(digB y (k - z) z).toArray⟩), .lit (.int .i64 (match Nat.beq k 0 with | true => 0 | false => z)), .lit (.bool false), .lit (.int .i64 1)]]]
/-- the strings that are compared: of numbers as they are; of ten times a number and five, and of ten times the other -/
def strX (half : Bool) (k z z2 : Nat) : AV := match half with
  | false => mkS (digS 0 (k - z) z ++ padS (z - min z z2))
  | true => mkS (digS 0 (k - z) z)
def strY (half : Bool) (z k2 z2 : Nat) : AV := match half with
  | false => mkS (digS 10 (k2 - z2) z2 ++ padS (z2 - min z z2))
  | true => mkS (digS 10 (k2 - z2) z2 ++ padS (z2 + 1))
def dxH (half : Bool) : Int := match half with | true => -1 | false => 0
def i99 : AV := .sym (.int .i64 ([(99, 1)], 0))
def cfgH (half : Bool) (k z k2 z2 : Nat) : Cfg := { cfg0 with
  bd := bdD 0 k z ++ bdD 10 k2 z2
  ct := [(158, [decS 0 k z (dxH half)], .lit (.bool true)), (158, [decS 10 k2 z2 0], .lit (.bool true)), (205, [strX half k z z2, strY half z k2 z2], i99)] }
/-- how they compare: by their counts of digits, or as is told -/
def resH (half : Bool) (k k2 : Nat) : AV := match Nat.blt k (match half with | true => k2 + 1 | false => k2) with
  | true => .lit (.int .i64 (-1))
  | false => match Nat.blt (match half with | true => k2 + 1 | false => k2) k with
    | true => .lit (.int .i64 1)
    | false => match Nat.beq k2 0 with
      | true => match half with
        | true => .lit (.int .i64 1)
        | false => i99
      | false => i99
noncomputable def runH (half : Bool) (p q : Nat × Nat) : Bool := match Nat.blt 5 q.1 with
  | true => true
  | false => okTop (topF (cfgH half p.1 p.2 q.1 q.2) [] Tryz.prog 100 201 [decS 0 p.1 p.2 (dxH half), decS 10 q.1 q.2 0]) (resH half p.1 q.1)
end Go.Abs
end
