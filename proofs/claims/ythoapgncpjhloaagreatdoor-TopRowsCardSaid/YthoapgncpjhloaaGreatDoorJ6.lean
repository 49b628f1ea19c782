/- Part 6 of the proof that TopRows returns true for every input of its row (no condition beyond the row). -/
import Derived.Test.YthoapgncpjhloaaGreatDoorJ5
set_option linter.unusedVariables false
set_option linter.unusedSimpArgs false
set_option linter.unusedSectionVars false
set_option linter.all false
section
open Go.Proofs
set_option maxRecDepth 100000
namespace Go.Abs
instance vl0 : VL := ⟨fun _ => 0, fun _ => [], fun _ => false, fun _ => [], fun _ => .emp, fun _ _ _ => False⟩
def cfg0 : Cfg := { ext := baseExt, ft := baseFt }
theorem cfg0_ok : cfg0.OK where
  bd a l h e := by cases e
  fs f e := by cases e
  fb p e := by cases e
  sl a x e := by cases e
  nl o k x y z e := by cases e
  rd a row h := by cases h
  rl a x e := by cases e
  rv a l xs e := by cases e
  ra a' a l xs e := by cases e
  rp a' a rows e := by cases e
  rm a n xs e := by cases e
  mm a cs v e := by cases e
theorem tell0 : Tell cfg0 Tryz.prog := tellOf cfg0_ok rfl rfl fun f xs r h => by cases h
theorem k16 : okTop (topF cfg0 [] Tryz.prog 100 16 []) (.lit (.bool true)) = true := by kernel_rfl
theorem decides_cs : CS Tryz.prog 16 [] (.lit (.bool true)) := cs_of cfg0_ok tell0 (by simp) k16 rfl rfl (by simp) .lit
end Go.Abs
end
section
open Go.Proofs
set_option maxRecDepth 100000
namespace Go.Abs
theorem lk2_in {α : Type} : ∀ {l : List (Nat × α)} {a : Nat} {x : α}, lk2 l a = some x → (a, x) ∈ l
  | [], _, _, h => by cases h
  | (b, y) :: r, a, x, h => by
    simp only [lk2] at h
    split at h
    · rename_i hb
      cases h
      rw [Nat.eq_of_beq_eq_true hb]; simp
    · exact List.mem_cons_of_mem _ (lk2_in h)
theorem subOK_of {V V' : VL} {σ : Sub} (hi : ∀ a, a < 1000 → lk2 σ.i a = none → V'.i a = V.i a) (hi2 : ∀ p, p ∈ σ.i → V'.i p.1 = @Lin.val V p.2)
    (hs : ∀ a, a < 1000 → lk2 σ.s a = none → V'.s a = V.s a) (hs2 : ∀ p, p ∈ σ.s → V'.s p.1 = p.2.flatMap (@SP.val V)) (hb : V'.b = V.b)
    (hr : ∀ a, a < 1000 → lk2 σ.r a = none → V'.r a = V.r a) (hr2 : ∀ p, p ∈ σ.r → V'.r p.1 = V.r p.2) (he : ∀ a, a ∈ σ.e → V'.r a = [])
    (hf : ∀ p, p ∈ σ.f → V'.r p.1 = p.2.map (fun r => r.map (@denA V 20)) ∧ ∀ row, row ∈ V'.r p.1 → ∀ x, x ∈ row → Pure x) (hm : V'.m = V.m) : SubOK V V' σ where
  i a x h := by
    unfold lkI at h
    split at h
    · rename_i y hy
      cases h
      exact hi2 _ (lk2_in hy)
    · rename_i hn
      split at h
      · rename_i hb
        cases h
        rw [hi a (by simpa using hb) hn]
        simp [Lin.val, tsum]
      · cases h
  s a ps h := by
    unfold lkS at h
    split at h
    · rename_i y hy
      cases h
      exact hs2 _ (lk2_in hy)
    · rename_i hn
      split at h
      · rename_i hb
        cases h
        rw [hs a (by simpa using hb) hn]
        simp [SP.val]
      · cases h
  b a _ := by rw [hb]
  r a b h := by
    unfold lkRn at h
    split at h
    · rename_i y hy
      cases h
      exact hr2 _ (lk2_in hy)
    · rename_i hn
      split at h
      · rename_i hb
        cases h
        exact hr a (by simpa using hb) hn
      · cases h
  e := he
  f a rows h := hf _ (lk2_in h)
  m := hm
/-- what is told of a round of a plain loop: most lists are empty -/
theorem cfgOK_of {V : VL} {cfg : Cfg} (bd : ∀ p, p ∈ cfg.bd → p.2.1 ≤ V.i p.1 ∧ V.i p.1 ≤ p.2.2) (fs : ∀ f, f ∈ cfg.fs → 0 ≤ @Lin.val V f) (rd : ∀ a row, row ∈ V.r a → ∀ x, x ∈ row → x.dat = true ∧ Pure x)
    (fb : cfg.fb = [] := by rfl) (sl : ∀ p, p ∈ cfg.sl → ((V.s p.1).length : Int) = @Lin.val V p.2 := by intro p h; cases h) (rl : ∀ p, p ∈ cfg.rl → ((V.r p.1).length : Int) = @Lin.val V p.2 := by intro p h; cases h)
    (rv : ∀ p, p ∈ cfg.rv → ∃ j : Nat, @Lin.val V p.2.1 = (j : Int) ∧ (V.r p.1)[j]? = some (p.2.2.map (@denA V 20)) := by intro p h; cases h)
    (ra : ∀ a' a l xs, (a', a, l, xs) ∈ cfg.ra → ∃ (j : Nat) (row : List AV), @Lin.val V l = (j : Int) ∧ (V.r a)[j]? = some row ∧ row.length = xs.length ∧ V.r a' = (V.r a).set j (xs.map (@denA V 20)) := by intro a' a l xs h; cases h)
    (rp : ∀ a' a rows, (a', a, rows) ∈ cfg.rp → V.r a' = V.r a ++ rows.map (fun r => r.map (@denA V 20)) := by intro a' a rows h; cases h)
    (rm : ∀ a n xs, (a, n, xs) ∈ cfg.rm → ∃ j : Nat, @Lin.val V n = (j : Int) ∧ V.r a = List.replicate j (xs.map (@denA V 20)) := by intro a n xs h; cases h)
    (mm : ∀ a cs v, (a, cs, v) ∈ cfg.mm → ∃ val, @denA V 20 v = .lit val ∧ V.m a (cs.map (@denA V 20)) val ∧ (∀ c, c ∈ cs → ∀ xs o, c = .rp xs o → Pure (@denA V 20 c)) ∧
      ∀ s w ks cs' vs val', @OK V s w → (∀ q, q ∈ ks → ∃ xs, s.hp q = some (.box xs)) → @KeyD V s w a ks cs' vs → @KeyD V s w a ks (cs.map (@denA V 20)) vs → V.m a cs' val' → val' = val := by intro a cs v h; cases h)
    (nl : ∀ o k x y z, (o, k, x, y, z) ∈ cfg.nl → ∀ t, (binOp o t (.int k (@Lin.val V x)) (.int k (@Lin.val V y)) : Sem Value) = pure (.int k (@Lin.val V z)) := by intro o k x y z h; cases h) : @Cfg.OK V cfg :=
  @Cfg.OK.mk V cfg (fun a l h e => bd _ (lk2_in e)) fs (fun p h => by rw [fb] at h; cases h) (fun a x e => sl _ (lk2_in e)) rd (fun a x e => rl _ (lk2_in e)) (fun a l xs h => rv _ h) ra rp rm mm nl
def pureB : Nat → AV → Bool
  | 0, _ => false
  | n + 1, x => match x with
    | .lit _ => true
    | .ro _ xs => xs.all fun r => r.all (pureB n)
    | .rp xs _ => xs.all (pureB n)
    | .agg xs => xs.all (pureB n)
    | .tup xs => xs.all (pureB n)
    | _ => false
theorem pureB_ok : ∀ {n : Nat} {x : AV}, pureB n x = true → Pure x
  | 0, _, h => by cases h
  | n + 1, x, h => by
    cases x <;> simp only [pureB] at h <;> first | (cases h; done) | skip
    · exact .lit
    · exact .ro fun r hr x hx => pureB_ok (List.all_eq_true.1 (List.all_eq_true.1 h r hr) x hx)
    · exact .rp fun x hx => pureB_ok (List.all_eq_true.1 h x hx)
    · exact .agg fun x hx => pureB_ok (List.all_eq_true.1 h x hx)
    · exact .tup fun x hx => pureB_ok (List.all_eq_true.1 h x hx)
end Go.Abs
end
section
open Go.Proofs
set_option maxRecDepth 100000
namespace Go.Abs
/-! ### digits -/
def dgt (x j : Nat) : Nat := x / 10 ^ j % 10
theorem dgt_step (x j : Nat) : x / 10 ^ j = dgt x j + 10 * (x / 10 ^ (j + 1)) := by
  unfold dgt
  rw [Nat.pow_succ, ← Nat.div_div_eq_div_mul]
  omega
/-- the sum of the digits from 'j' on, 'n' of them -/
def sumD (b : Nat) : Nat → Nat → Int → List (Nat × Int)
  | _, 0, _ => []
  | j, n + 1, p => (b + j, p) :: sumD b (j + 1) n (p * 10)
theorem sumD_val [VL] {b x : Nat} (hV : ∀ j, j < 6 → VL.i (b + j) = (dgt x j : Nat)) : ∀ (n j : Nat) (p : Int), j + n ≤ 6 → x / 10 ^ j < 10 ^ n → tsum (sumD b j n p) = p * ((x / 10 ^ j : Nat) : Int)
  | 0, j, p, _, h => by
    have : x / 10 ^ j = 0 := by simpa using h
    rw [this]; simp [sumD, tsum]
  | n + 1, j, p, hj, h => by
    have h1 := dgt_step x j
    have h2 : x / 10 ^ (j + 1) < 10 ^ n := by rw [Nat.pow_succ] at h; omega
    simp only [sumD, tsum]
    rw [sumD_val hV n (j + 1) (p * 10) (by omega) h2, hV j (by omega)]
    have h3 : ((x / 10 ^ j : Nat) : Int) = (dgt x j : Nat) + 10 * ((x / 10 ^ (j + 1) : Nat) : Int) := by rw [h1]; push_cast; rfl
    rw [h3, Int.mul_add, Int.mul_assoc]
def rng : Nat → Nat → List Nat
  | _, 0 => []
  | j, n + 1 => j :: rng (j + 1) n
theorem rng_mem : ∀ {n j i : Nat}, i ∈ rng j n → j ≤ i ∧ i < j + n
  | 0, _, _, h => by cases h
  | n + 1, j, i, h => by
    rcases List.mem_cons.1 h with rfl | h
    · omega
    · have := rng_mem h; omega
/-- the bounds of the digits of a number with 'k' digits, of which the last 'z' are nought -/
def bdD (b k z : Nat) : List (Nat × Int × Int) := (rng 0 k).map fun j => (b + j, match Nat.blt j z with | true => 0 | false => (match Nat.beq j z || Nat.beq (j + 1) k with | true => 1 | false => 0), match Nat.blt j z with | true => 0 | false => 9)
def nlD (b k : Nat) : List (BinOp × IntKind × Lin × Lin × Lin) := (rng 0 k).flatMap fun j => [(.rem, .i64, (sumD b j (k - j) 1, 0), ([], 10), ([(b + j, 1)], 0)), (.quo, .i64, (sumD b j (k - j) 1, 0), ([], 10), (sumD b (j + 1) (k - (j + 1)) 1, 0))]
/-- the digits from the first one down to the one at 'z' -/
def digS (b : Nat) : Nat → Nat → List SP
  | 0, _ => []
  | n + 1, z => .e ([(b + (z + n), 1)], 48) :: digS b n z
def decS (b k z : Nat) (dx : Int) : AV := .agg [.lit (.bool false), mkS (digS b (k - z) z), .lit (.int .i64 (match Nat.beq k 0 with | true => 0 | false => z + dx))]
/-- how a number is written: 'k' digits, the last 'z' nought -/
structure Shp (x k z : Nat) : Prop where
  lt : x < 10 ^ k
  k6 : k ≤ 6
  z0 : ∀ j, j < z → dgt x j = 0
  zk : z ≤ k
  zz : z < k → 1 ≤ dgt x z
  kk : ∀ j, j + 1 = k → 1 ≤ dgt x j
  nz : k = 0 ∨ z < k
theorem Shp.ex {x : Nat} (h : x < 1000000) : ∃ k z, Shp x k z := by
  by_cases h0 : x = 0
  · exact ⟨0, 0, by subst h0; decide, by omega, by omega, by omega, by omega, by omega, .inl rfl⟩
  have hk : ∃ k, 1 ≤ k ∧ k ≤ 6 ∧ x < 10 ^ k ∧ 1 ≤ dgt x (k - 1) := by
    unfold dgt
    by_cases h1 : x < 10
    · exact ⟨1, by omega, by omega, by simpa using h1, by simp; omega⟩
    by_cases h2 : x < 100
    · exact ⟨2, by omega, by omega, by simpa using h2, by simp; omega⟩
    by_cases h3 : x < 1000
    · exact ⟨3, by omega, by omega, by simpa using h3, by simp; omega⟩
    by_cases h4 : x < 10000
    · exact ⟨4, by omega, by omega, by simpa using h4, by simp; omega⟩
    by_cases h5 : x < 100000
    · exact ⟨5, by omega, by omega, by simpa using h5, by simp; omega⟩
    exact ⟨6, by omega, by omega, by simpa using h, by simp; omega⟩
  obtain ⟨k, k1, k2, k3, k4⟩ := hk
  have hz : ∃ z, z < k ∧ 1 ≤ dgt x z ∧ ∀ j, j < z → dgt x j = 0 := by
    have : ∀ n, (∃ z, z < n ∧ 1 ≤ dgt x z ∧ ∀ j, j < z → dgt x j = 0) ∨ ∀ j, j < n → dgt x j = 0 := by
      intro n
      induction n with
      | zero => exact .inr (by omega)
      | succ n ih =>
        rcases ih with ⟨z, a, b, c⟩ | ih
        · exact .inl ⟨z, by omega, b, c⟩
        · by_cases e : dgt x n = 0
          · right
            intro j hj
            by_cases e2 : j = n
            · subst e2; exact e
            · exact ih j (by omega)
          · exact .inl ⟨n, by omega, by omega, ih⟩
    rcases this k with h | h
    · exact h
    · have := h (k - 1) (by omega); omega
  obtain ⟨z, z1, z2, z3⟩ := hz
  exact ⟨k, z, k3, k2, z3, by omega, fun _ => z2, fun j hj => by rw [show j = k - 1 by omega]; exact k4, .inr z1⟩
theorem dgt_lt (x j : Nat) : dgt x j ≤ 9 := by unfold dgt; omega
theorem lk2_mem {α : Type} : ∀ {l : List (Nat × α)} {a : Nat} {x : α}, lk2 l a = some x → (a, x) ∈ l
  | [], _, _, h => by cases h
  | (b, y) :: r, a, x, h => by
    simp only [lk2] at h
    split at h
    · rename_i hb
      cases h
      rw [Nat.eq_of_beq_eq_true hb]; simp
    · exact List.mem_cons_of_mem _ (lk2_mem h)
theorem bdD_ok [VL] {b x k z : Nat} (hV : ∀ j, j < 6 → VL.i (b + j) = (dgt x j : Nat)) (s : Shp x k z) {a : Nat} {l h : Int} (hm : (a, l, h) ∈ bdD b k z) : l ≤ VL.i a ∧ VL.i a ≤ h := by
  unfold bdD at hm
  obtain ⟨j, hj, e⟩ := List.mem_map.1 hm
  have hj := rng_mem hj
  cases e
  rw [hV j (by have := s.k6; omega)]
  have h9 := dgt_lt x j
  cases hb : Nat.blt j z with
  | true =>
    have := s.z0 j (by simpa using hb)
    simp only [this]; omega
  | false =>
    simp only
    refine ⟨?_, by omega⟩
    split
    · rename_i h2
      simp only [Bool.or_eq_true] at h2
      rcases h2 with h2 | h2
      · have := Nat.eq_of_beq_eq_true h2
        subst this
        have := s.zz (by omega); omega
      · have := Nat.eq_of_beq_eq_true h2
        have := s.kk j this; omega
    · omega
theorem binOp_rem (t : TypeId) (a : Nat) : (binOp .rem t (.int .i64 (a : Int)) (.int .i64 10) : Sem Value) = pure (.int .i64 ((a % 10 : Nat) : Int)) := by
  simp [binOp, Op.intDiv, Int.tmod_eq_emod_of_nonneg]
theorem binOp_quo (t : TypeId) (a : Nat) (h : a ≤ 1000000) : (binOp .quo t (.int .i64 (a : Int)) (.int .i64 10) : Sem Value) = pure (.int .i64 ((a / 10 : Nat) : Int)) := by
  have : IntKind.i64.wrap ((a : Int) / 10) = (a : Int) / 10 := by
    apply wrap_in <;> simp [IntKind.min, IntKind.max, IntKind.signed, IntKind.bits] <;> omega
  simp [binOp, Op.intDiv, Int.tdiv_eq_ediv_of_nonneg, this]
theorem nlD_ok [VL] {b x k : Nat} (hV : ∀ j, j < 6 → VL.i (b + j) = (dgt x j : Nat)) (hx : x < 10 ^ k) (k6 : k ≤ 6) {o : BinOp} {kd : IntKind} {p q r : Lin} (hm : (o, kd, p, q, r) ∈ nlD b k) (t : TypeId) : (binOp o t (.int kd p.val) (.int kd q.val) : Sem Value) = pure (.int kd r.val) := by
  unfold nlD at hm
  obtain ⟨j, hj, e⟩ := List.mem_flatMap.1 hm
  have hj := rng_mem hj
  have hlt : ∀ i, i ≤ k → x / 10 ^ i < 10 ^ (k - i) := fun i hi => by
    rw [Nat.div_lt_iff_lt_mul (Nat.pow_pos (by omega)), ← Nat.pow_add]
    rwa [show k - i + i = k by omega]
  have hs : Lin.val (sumD b j (k - j) 1, 0) = ((x / 10 ^ j : Nat) : Int) := by
    simp only [Lin.val, Int.add_zero]
    rw [sumD_val hV (k - j) j 1 (by omega) (hlt j (by omega)), Int.one_mul]
  have h10 : Lin.val ([], 10) = 10 := by simp [Lin.val, tsum]
  have hle : x / 10 ^ j ≤ 1000000 := by
    have h1 : x / 10 ^ j ≤ x := Nat.div_le_self _ _
    have h2 : (10 : Nat) ^ k ≤ 10 ^ 6 := Nat.pow_le_pow_right (by omega) k6
    omega
  simp only [List.mem_cons, List.not_mem_nil, or_false] at e
  rcases e with e | e
  · cases e
    rw [hs, h10, binOp_rem]
    congr 2
    simp only [Lin.val, tsum]
    rw [hV j (by omega)]
    unfold dgt
    push_cast; omega
  · cases e
    rw [hs, h10, binOp_quo t _ hle]
    congr 2
    simp only [Lin.val, Int.add_zero]
    rw [sumD_val hV (k - (j + 1)) (j + 1) 1 (by omega) (hlt (j + 1) (by omega)), Int.one_mul, Nat.div_div_eq_div_mul, Nat.pow_succ]
end Go.Abs
end
section
open Go.Proofs
set_option maxRecDepth 100000
namespace Go.Abs
def digB (x : Nat) : Nat → Nat → List UInt8
  | 0, _ => []
  | n + 1, z => UInt8.ofNat (dgt x (z + n) + 48) :: digB x n z
/-- a number's decimal, moved by some places -/
def decK (x k z : Nat) (dx : Int) : AV := .agg [.lit (.bool false), .lit (.string ⟨(digB x (k - z) z).toArray⟩), .lit (.int .i64 (match Nat.beq k 0 with | true => 0 | false => z + dx))]
theorem decK_pure (x k z : Nat) (dx : Int) : Pure (decK x k z dx) := by
  refine .agg fun y hy => ?_
  simp only [List.mem_cons, List.not_mem_nil, or_false] at hy
  rcases hy with rfl | rfl | rfl <;> exact .lit
theorem digS_val [VL] {b x : Nat} (hV : ∀ j, j < 6 → VL.i (b + j) = (dgt x j : Nat)) : ∀ (n z : Nat), z + n ≤ 6 → (digS b n z).flatMap SP.val = digB x n z
  | 0, z, _ => rfl
  | n + 1, z, h => by
    simp only [digS, digB, List.flatMap_cons, digS_val hV n z (by omega)]
    have : SP.val (.e ([(b + (z + n), 1)], 48)) = [UInt8.ofNat (dgt x (z + n) + 48)] := by
      simp only [SP.val, Lin.val, tsum]
      rw [hV (z + n) (by omega)]
      congr 2
      omega
    rw [this]; rfl
theorem decS_den [VL] {b x k z : Nat} {dx : Int} (hV : ∀ j, j < 6 → VL.i (b + j) = (dgt x j : Nat)) (hk : k ≤ 6) (hz : z ≤ k) : denA 20 (decS b k z dx) = decK x k z dx := by
  have key : denA 19 (mkS (digS b (k - z) z)) = .lit (.string ⟨(digB x (k - z) z).toArray⟩) := by
    have hd := digS_val (b := b) (x := x) hV (k - z) z (by omega)
    cases hn : k - z with
    | zero => rfl
    | succ n =>
      rw [hn] at hd
      show AV.lit (.string (sval (digS b (n + 1) z))) = _
      unfold sval
      rw [hd]
  show AV.agg [_, denA 19 (mkS (digS b (k - z) z)), _] = _
  rw [key]; rfl
/-- the digits of 'x' and of 'y', and how they compare -/
abbrev vlN (x y : Nat) (c : Int) : VL := ⟨fun n => if n < 10 then (dgt x n : Nat) else if n < 20 then (dgt y (n - 10) : Nat) else c, fun _ => [], fun _ => false, fun _ => [], fun _ => .emp, fun _ _ _ => False⟩
theorem vlN_x (x y : Nat) (c : Int) : ∀ j, j < 6 → @VL.i (vlN x y c) (0 + j) = (dgt x j : Nat) := by
  intro j hj
  show (if 0 + j < 10 then _ else _) = _
  rw [if_pos (by omega), Nat.zero_add]
theorem vlN_y (x y : Nat) (c : Int) : ∀ j, j < 6 → @VL.i (vlN x y c) (10 + j) = (dgt y j : Nat) := by
  intro j hj
  show (if 10 + j < 10 then _ else if 10 + j < 20 then _ else _) = _
  rw [if_neg (by omega), if_pos (by omega)]
  congr 2; omega
def cfgF (k z : Nat) : Cfg := { cfg0 with bd := bdD 0 k z, nl := nlD 0 k }
theorem cfgF_ok {x k z : Nat} (s : Shp x k z) : @Cfg.OK (vlN x 0 0) (cfgF k z) :=
  @Cfg.OK.mk (vlN x 0 0) _ (fun a l h e => @bdD_ok (vlN x 0 0) 0 x k z (vlN_x x 0 0) s a l h (lk2_mem e)) (fun f e => by cases e) (fun p e => by cases e) (fun a x e => by cases e)
    (fun a row h => by cases h) (fun a x e => by cases e) (fun a l xs e => by cases e) (fun a' a l xs e => by cases e) (fun a' a rows e => by cases e) (fun a n xs e => by cases e) (fun a cs v e => by cases e)
    (fun o kd p q r e => @nlD_ok (vlN x 0 0) 0 x k (vlN_x x 0 0) s.lt s.k6 o kd p q r e)
def shapes : List (Nat × Nat) := (0, 0) :: (rng 1 6).flatMap fun k => (rng 0 k).map fun z => (k, z)
theorem Shp.mem {x k z : Nat} (s : Shp x k z) : (k, z) ∈ shapes := by
  have h6 := s.k6
  have hz := s.zk
  unfold shapes
  rcases s.nz with rfl | h
  · have : z = 0 := by omega
    subst this; simp
  · have : k = 1 ∨ k = 2 ∨ k = 3 ∨ k = 4 ∨ k = 5 ∨ k = 6 := by omega
    rcases this with rfl | rfl | rfl | rfl | rfl | rfl <;> simp [rng] <;> omega
noncomputable def runF (p : Nat × Nat) : Bool := okTop (topF (cfgF p.1 p.2) [] Tryz.prog 100 22 [mkI .i64 (sumD 0 0 p.1 1, 0)]) (decS 0 p.1 p.2 0)
noncomputable def runV (p : Nat × Nat) : Bool := okTop (topF (cfgF p.1 p.2) [] Tryz.prog 100 158 [decS 0 p.1 p.2 0]) (.lit (.bool true))
theorem kF : shapes.all runF = true := by kernel_rfl
theorem kV : shapes.all runV = true := by kernel_rfl
theorem tellF {x k z : Nat} (s : Shp x k z) : @Tell (vlN x 0 0) (cfgF k z) Tryz.prog := @tellOf (vlN x 0 0) _ (cfgF_ok s) rfl rfl fun f xs r h => by cases h
theorem fromInt_cs {x k z : Nat} (s : Shp x k z) : CS Tryz.prog 22 [.lit (.int .i64 (x : Nat))] (decK x k z 0) := by
  have h := List.all_eq_true.1 kF _ s.mem
  refine @cs_of (vlN x 0 0) (cfgF k z) [] (cfgF_ok s) (tellF s) (by simp) 100 22 _ _ h _ _ ?_ (@decS_den (vlN x 0 0) 0 x k z 0 (vlN_x x 0 0) s.k6 s.zk) (by simp; exact .lit) (decK_pure x k z 0)
  show [@denA (vlN x 0 0) 20 (mkI .i64 (sumD 0 0 k 1, 0))] = _
  congr 1
  have hv : @Lin.val (vlN x 0 0) (sumD 0 0 k 1, 0) = (x : Nat) := by
    simp only [Lin.val, Int.add_zero]
    have := @sumD_val (vlN x 0 0) 0 x (vlN_x x 0 0) k 0 1 (by have := s.k6; omega) (by simpa using s.lt)
    simpa using this
  cases k with
  | zero =>
    show AV.lit (.int .i64 0) = _
    have : x = 0 := by have := s.lt; simpa using this
    subst this; rfl
  | succ k =>
    show AV.lit (.int .i64 (@Lin.val (vlN x 0 0) _)) = _
    rw [hv]
theorem valid_cs {x k z : Nat} (s : Shp x k z) : CS Tryz.prog 158 [decK x k z 0] (.lit (.bool true)) := by
  have h := List.all_eq_true.1 kV _ s.mem
  refine @cs_of (vlN x 0 0) (cfgF k z) [] (cfgF_ok s) (tellF s) (by simp) 100 158 _ _ h _ _ ?_ rfl (by simp; exact decK_pure x k z 0) .lit
  show [@denA (vlN x 0 0) 20 (decS 0 k z 0)] = _
  rw [@decS_den (vlN x 0 0) 0 x k z 0 (vlN_x x 0 0) s.k6 s.zk]
end Go.Abs
end
