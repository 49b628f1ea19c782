/- Part 7 of the proof that TopRows returns true for every input of its row (no condition beyond the row). -/
import Derived.Test.YthoapgncpjhloaaGreatDoorJ6
set_option linter.unusedVariables false
set_option linter.unusedSimpArgs false
set_option linter.unusedSectionVars false
set_option linter.all false
section
open Go.Proofs
set_option maxRecDepth 100000
namespace Go.Abs
def dg : Nat → Nat → List Nat
  | 0, _ => []
  | f + 1, n => match Nat.blt n 10 with
    | true => [48 + n]
    | false => dg f (n / 10) ++ [48 + n % 10]
/-- the numeral of a number -/
def numeral (n : Nat) : ByteArray := ⟨((dg 20 n).map UInt8.ofNat).toArray⟩
def allFrom (p : Nat → Bool) : Nat → Nat → Bool
  | 0, _ => true
  | m + 1, n => match p n with
    | true => allFrom p m (n + 1)
    | false => false
theorem allFrom_at {p : Nat → Bool} : ∀ {m n : Nat}, allFrom p m n = true → ∀ i, n ≤ i → i < n + m → p i = true
  | 0, n, _, i, h1, h2 => by omega
  | m + 1, n, h, i, h1, h2 => by
    simp only [allFrom] at h
    split at h
    · rename_i hp
      by_cases e : i = n
      · subst e; exact hp
      · exact allFrom_at h i (by omega) (by omega)
    · cases h
noncomputable def runs (f : Nat) (args : List AV) (r : AV) : Bool := okTop (topF cfg0 [] Tryz.prog 100 f args) r
theorem runs_cs {f : Nat} {args : List AV} {r : AV} (h : runs f args r = true) (ha : args.map (denA 20) = args) (hr : denA 20 r = r) (hpa : ∀ x ∈ args, Pure x) (hpr : Pure r) : CS Tryz.prog f args r :=
  cs_of cfg0_ok tell0 (by simp) h ha hr hpa hpr
theorem k23_0 : allFrom (fun i => runs 23 [.lit (.int .i64 (i : Nat))] (.lit (.string (numeral i)))) 200 0 = true := by kernel_rfl
theorem k23_200 : allFrom (fun i => runs 23 [.lit (.int .i64 (i : Nat))] (.lit (.string (numeral i)))) 200 200 = true := by kernel_rfl
theorem k23_400 : allFrom (fun i => runs 23 [.lit (.int .i64 (i : Nat))] (.lit (.string (numeral i)))) 200 400 = true := by kernel_rfl
theorem k23_600 : allFrom (fun i => runs 23 [.lit (.int .i64 (i : Nat))] (.lit (.string (numeral i)))) 200 600 = true := by kernel_rfl
theorem k23_800 : allFrom (fun i => runs 23 [.lit (.int .i64 (i : Nat))] (.lit (.string (numeral i)))) 200 800 = true := by kernel_rfl
theorem k23_1000 : allFrom (fun i => runs 23 [.lit (.int .i64 (i : Nat))] (.lit (.string (numeral i)))) 200 1000 = true := by kernel_rfl
theorem number_cs (i : Nat) (hi : i < 1200) : CS Tryz.prog 23 [.lit (.int .i64 (i : Nat))] (.lit (.string (numeral i))) := by
  refine runs_cs ?_ rfl rfl (by simp; exact .lit) .lit
  by_cases h0 : i < 200
  · exact allFrom_at k23_0 i (by omega) (by omega)
  by_cases h200 : i < 400
  · exact allFrom_at k23_200 i (by omega) (by omega)
  by_cases h400 : i < 600
  · exact allFrom_at k23_400 i (by omega) (by omega)
  by_cases h600 : i < 800
  · exact allFrom_at k23_600 i (by omega) (by omega)
  by_cases h800 : i < 1000
  · exact allFrom_at k23_800 i (by omega) (by omega)
  exact allFrom_at k23_1000 i (by omega) (by omega)
end Go.Abs
end
