/- Part 35 of the proof that TopRows returns true for every input of its row (no condition beyond the row). -/
import Derived.Test.YthoapgncpjhloaaGreatDoorJ34
import Derived.Test.YthoapgncpjhloaaGreatDoorRows
import Derived.Test.YthoapgncpjhloaaGreatDoorTie
import Derived.Test.YthoapgncpjhloaaGreatDoorCards
import Derived.ProofKit
import Derived.Lib.SmallJoins
import Derived.Lib.LaidTab
import Derived.Lay
import Derived.SevenTiedAt
set_option linter.unusedVariables false
set_option linter.unusedSimpArgs false
set_option linter.unusedSectionVars false
set_option linter.all false
section
namespace Go.Proofs.YthoapgncpjhloaaGreatDoor
open Go Go.ChangeShapes Go.WideShapes Go.ChangeAt Go.RowKit Go.Deep Go.Abs
set_option maxRecDepth 100000

abbrev ruV (a b c : Nat) : Value := .agg #[.int .u16 ((a : Nat) : Int), .int .u16 ((b : Nat) : Int), .int .u16 ((c : Nat) : Int)]
abbrev flV (x y p q : Nat) (l : Bool) : Value := .agg #[.int .u16 ((x : Nat) : Int), .int .u16 ((y : Nat) : Int), .int .u8 ((p : Nat) : Int), .int .u8 ((q : Nat) : Int), .bool l]
theorem topRows_run (N : Int) (hN : -9223372036854775808 ≤ N ∧ N ≤ 9223372036854775807) (mu ad mo x y p q : Nat) (l : Bool) (h1 : mu ≤ 65535) (h2 : ad ≤ 65535) (h3 : mo ≤ 65535) (h4 : x ≤ 65535) (h5 : y ≤ 65535) (h6 : p ≤ 255) (h7 : q ≤ 255) (w : World) (hg : GlOK w) :
    Calls Tryz.prog 3 #[.int .i64 N, ruV mu ad mo, flV x y p q l] w fun r w' => r = .returned (.bool true) ∧ Below w.heap.size w w' := by
  have sp : CS Tryz.prog 3 [lI N, ruleK mu ad mo, flawsK x y p q l] (lB true) := by
    by_cases hneg : N < 0
    · exact rows_cs (neg := true) (T := ⟨mu, ad, mo, x, y, p, q, (N + 18446744073709551616).toNat % 1200 + 1, l⟩) ⟨⟨h1, h2, h3, h4, h5, h6, h7, by simp only; omega⟩, ⟨hN.1, by omega⟩, (N + 18446744073709551616).toNat, by simp only; omega, rfl⟩
    · exact rows_cs (neg := false) (T := ⟨mu, ad, mo, x, y, p, q, N.toNat % 1200 + 1, l⟩) ⟨⟨h1, h2, h3, h4, h5, h6, h7, by simp only; omega⟩, ⟨by omega, hN.2⟩, N.toNat, by simp only; omega, rfl⟩
  let s : Sg := { M := fun _ => False, n0 := w.heap.size, ρ := fun _ => none, hp := fun _ => none }
  have hm : ∀ b, ¬ s.mut b := by
    rintro b (h | ⟨k, h, _⟩)
    · exact h
    · exact h rfl
  have ok : @OK V0 s w := @OK.mk V0 s w (fun p hp => ⟨hg p hp, hm _⟩) (fun _ h => h.elim) (Nat.le_refl _) (fun k B h => (by cases h)) (fun k k' b h => absurd rfl h) (fun k b h => absurd rfl h)
  refine (sp V0 s w #[.int .i64 N, ruV mu ad mo, flV x y p q l] ok rfl (fun _ _ => rfl) rfl rfl fun i av v h1 h2 => ?_).mono ?_
  · match i with
    | 0 => cases h1; cases h2; exact @Rel.rep V0 _ _ _ _ (@Rep.lit V0 _ _ _ rfl)
    | 1 =>
      cases h1; cases h2
      refine @Rel.agg V0 _ _ _ _ rfl fun i av v h1 h2 => ?_
      match i with
      | 0 => cases h1; cases h2; exact @Rel.rep V0 _ _ _ _ (@Rep.lit V0 _ _ _ rfl)
      | 1 => cases h1; cases h2; exact @Rel.rep V0 _ _ _ _ (@Rep.lit V0 _ _ _ rfl)
      | 2 => cases h1; cases h2; exact @Rel.rep V0 _ _ _ _ (@Rep.lit V0 _ _ _ rfl)
      | i + 3 => cases h1
    | 2 =>
      cases h1; cases h2
      refine @Rel.agg V0 _ _ _ _ rfl fun i av v h1 h2 => ?_
      match i with
      | 0 => cases h1; cases h2; exact @Rel.rep V0 _ _ _ _ (@Rep.lit V0 _ _ _ rfl)
      | 1 => cases h1; cases h2; exact @Rel.rep V0 _ _ _ _ (@Rep.lit V0 _ _ _ rfl)
      | 2 => cases h1; cases h2; exact @Rel.rep V0 _ _ _ _ (@Rep.lit V0 _ _ _ rfl)
      | 3 => cases h1; cases h2; exact @Rel.rep V0 _ _ _ _ (@Rep.lit V0 _ _ _ rfl)
      | 4 => cases h1; cases h2; exact @Rel.rep V0 _ _ _ _ (@Rep.lit V0 _ _ _ rfl)
      | i + 5 => cases h1
    | i + 3 => cases h1
  · rintro r w' ⟨v, s', y, rfl, ⟨rfl, _⟩, hr, _, g⟩
    rw [@Rel.lit_eq V0 _ _ _ _ hr]
    exact ⟨rfl, g.os, g.tape, g.output, g.size, fun k hk => g.keep k hk fun k' h => absurd rfl h⟩
/-! ### the table -/
def powZ : List Int := [1, 10, 100, 1000, 10000, 100000, 1000000, 10000000, 100000000, 1000000000, 10000000000, 100000000000, 1000000000000, 10000000000000, 100000000000000, 1000000000000000, 10000000000000000, 100000000000000000, 1000000000000000000, 10000000000000000000]
theorem gPow : Tryz.prog.globalNamed "internal/strconv.uint64pow10" = some 1 := by kernel_rfl
theorem gl_of_laid {W : World} (h : laidMet Tryz.prog Rows.topRowsRow.laid W) : GlOK W := by
  obtain ⟨ps, hl, _, hrow⟩ := h
  obtain ⟨_, _, _, _, _, q1, _, _, _, _, hl1, e1⟩ := hl
  obtain ⟨_, _, _, _, _, q2, _, _, _, _, hl2, e2⟩ := hl1
  obtain ⟨g, t, cs, fuel, p, q3, hg, ht, hv, hd, hl3, e3⟩ := hl2
  obtain rfl : g = 1 := Option.some.inj (hg.symm.trans gPow)
  obtain ⟨ty, tE, hty, hun, hin, hce, hct⟩ : ∃ ty tE, (Tryz.prog.globals[1]?).map (·.type) = some ty ∧ Tryz.prog.underlying ty = some (.array 20 tE) ∧ Tryz.prog.underlying tE = some (.int .u64) ∧ Tryz.prog.cellsOf tE = 1 ∧ Tryz.prog.cellsOf ty = 20 :=
    ⟨365, 308, by kernel_rfl, by kernel_rfl, by kernel_rfl, by kernel_rfl, by kernel_rfl⟩
  obtain rfl := Option.some.inj (hty.symm.trans ht)
  have hcs : cs.toList = powZ.map fun z => Value.int .u64 z := Lib.cells_of_tab (zs := powZ) hun hin hce hct hd
  have hsz : cs.size = 20 := by
    have := congrArg List.length hcs
    simpa [powZ] using this
  have hmem : MemPlace.cell 1 0 ∈ ps := by
    rw [e1]
    refine List.mem_append_right _ ?_
    rw [e2]
    refine List.mem_append_right _ ?_
    rw [e3, hsz]
    exact List.mem_append_left _ (List.mem_append_left _ (by simp [MemPlace.row]))
  obtain ⟨⟨c, ty2, hb⟩, _⟩ := hrow 1 0 hmem
  unfold World.var? at hv
  rw [gPow] at hv
  simp only [Option.bind_some, hb, Option.some.injEq] at hv
  subst hv
  intro p hp
  simp only [globs, List.mem_cons, List.not_mem_nil, or_false] at hp
  subst hp
  refine ⟨ty2, ?_⟩
  rw [hb]
  congr 2
  exact Array.toList_inj.1 (hcs.trans rfl)
/-! ### the row -/
theorem own : ownKnob Tryz.prog.godebug = none := by kernel_rfl
theorem c22 : Tryz.prog.cellsOf 22 = 1 := by kernel_rfl
theorem c5 : Tryz.prog.cellsOf 5 = 1 := by kernel_rfl
theorem c4 : Tryz.prog.cellsOf 4 = 1 := by kernel_rfl
theorem c25 : Tryz.prog.cellsOf 25 = 2 := by kernel_rfl
theorem c26 : Tryz.prog.cellsOf 26 = 2 := by kernel_rfl
theorem c28 : Tryz.prog.cellsOf 28 = 5 := by kernel_rfl
theorem u16_nat {n : Int} (h : (Lit.int .u16 n).wf = true) : ∃ a : Nat, a ≤ 65535 ∧ n = (a : Int) := by
  have h' : 0 ≤ n ∧ n ≤ 65535 := by simpa [Lit.wf, IntKind.min, IntKind.max, IntKind.signed, IntKind.bits] using h
  exact ⟨n.toNat, by omega, by omega⟩
theorem u8_nat {n : Int} (h : (Lit.int .u8 n).wf = true) : ∃ a : Nat, a ≤ 255 ∧ n = (a : Int) := by
  have h' : 0 ≤ n ∧ n ≤ 255 := by simpa [Lit.wf, IntKind.min, IntKind.max, IntKind.signed, IntKind.bits] using h
  exact ⟨n.toNat, by omega, by omega⟩
theorem array5 {α : Type} {cs : Array α} (h : cs.size = 5) : ∃ c0 c1 c2 c3 c4, cs = #[c0, c1, c2, c3, c4] := by
  obtain ⟨l⟩ := cs
  match l, h with
  | [c0, c1, c2, c3, c4], _ => exact ⟨c0, c1, c2, c3, c4, rfl⟩
section
variable {H : Type} {enc : TypeId × Value → H} {w : World} {base : Nat} {spare : Nat → Bool} {held : Bool}
theorem u16_wf {a : Nat} (h : a ≤ 65535) : (Lit.int .u16 (a : Int)).wf = true := by
  simp [Lit.wf, IntKind.min, IntKind.max, IntKind.signed, IntKind.bits]; omega
theorem u8_wf {a : Nat} (h : a ≤ 255) : (Lit.int .u8 (a : Int)).wf = true := by
  simp [Lit.wf, IntKind.min, IntKind.max, IntKind.signed, IntKind.bits]; omega
theorem one16 {n : Nat} {x : Value} {y : DataW H × List MemPlace} (h : DataW.trod enc Tryz.prog w base spare held n 22 [x] = some y) : ∃ a : Nat, a ≤ 65535 ∧ x = .int .u16 (a : Int) ∧ y = (.lit (.int .u16 (a : Int)), []) := by
  obtain ⟨k, e1, e2, e3⟩ := DataW.trod_int Tryz.underlying22 h
  obtain ⟨a, ha, rfl⟩ := u16_nat e3
  exact ⟨a, ha, by simpa using e1, e2⟩
theorem one8 {n : Nat} {x : Value} {y : DataW H × List MemPlace} (h : DataW.trod enc Tryz.prog w base spare held n 5 [x] = some y) : ∃ a : Nat, a ≤ 255 ∧ x = .int .u8 (a : Int) ∧ y = (.lit (.int .u8 (a : Int)), []) := by
  obtain ⟨k, e1, e2, e3⟩ := DataW.trod_int Tryz.underlying5 h
  obtain ⟨a, ha, rfl⟩ := u8_nat e3
  exact ⟨a, ha, by simpa using e1, e2⟩
theorem mk16 {a : Nat} (h : a ≤ 65535) (n : Nat) : DataW.trod enc Tryz.prog w base spare held (n + 1) 22 [.int .u16 (a : Int)] = some (.lit (.int .u16 (a : Int)), []) := by
  unfold DataW.trod
  rw [Tryz.underlying22]
  simp [u16_wf h]
theorem mk8 {a : Nat} (h : a ≤ 255) (n : Nat) : DataW.trod enc Tryz.prog w base spare held (n + 1) 5 [.int .u8 (a : Int)] = some (.lit (.int .u8 (a : Int)), []) := by
  unfold DataW.trod
  rw [Tryz.underlying5]
  simp [u8_wf h]
abbrev ruD (a b c : Nat) : DataW H := .agg [.lit (.int .u16 (a : Int)), .lit (.int .u16 (b : Int)), .lit (.int .u16 (c : Int))]
abbrev flD (x y p q : Nat) (l : Bool) : DataW H := .agg [.agg [.lit (.int .u16 (x : Int)), .lit (.int .u16 (y : Int))], .agg [.lit (.int .u8 (p : Int)), .lit (.int .u8 (q : Int))], .lit (.bool l)]
theorem open_rule {r : Reach} {b0 : Nat} {v : Value} {d : DataW H} {p : List MemPlace} (hv : Value.okWide Tryz.prog w r b0 24 v) (h : DataW.Trod enc Tryz.prog w base spare held 24 v d p) :
    ∃ a b c : Nat, a ≤ 65535 ∧ b ≤ 65535 ∧ c ≤ 65535 ∧ v = ruV a b c ∧ d = ruD a b c ∧ p = [] := by
  obtain ⟨v0, v1, v2, y0, y1, y2, n, rfl, rfl, rfl, h0, h1, h2⟩ := Joins.open_agg3 Tryz.underlying24 (by kernel_rfl) (by kernel_rfl) hv h
  obtain ⟨a, ha, rfl, rfl⟩ := one16 h0
  obtain ⟨b, hb, rfl, rfl⟩ := one16 h1
  obtain ⟨c, hc, rfl, rfl⟩ := one16 h2
  exact ⟨a, b, c, ha, hb, hc, rfl, rfl, rfl⟩
theorem shut_rule {a b c : Nat} (ha : a ≤ 65535) (hb : b ≤ 65535) (hc : c ≤ 65535) : DataW.Trod enc Tryz.prog w base spare held 24 (ruV a b c) (ruD a b c) [] :=
  Joins.shut_agg3 (y0 := (.lit (.int .u16 (a : Int)), [])) (y1 := (.lit (.int .u16 (b : Int)), [])) (y2 := (.lit (.int .u16 (c : Int)), [])) Tryz.underlying24 (by kernel_rfl) (by kernel_rfl) ⟨1, mk16 ha 0⟩ ⟨1, mk16 hb 0⟩ ⟨1, mk16 hc 0⟩
theorem pair_of {t e : TypeId} {n : Nat} {a b : Value} {y : DataW H × List MemPlace} (ht : Tryz.prog.underlying t = some (.array 2 e)) (he : Tryz.prog.cellsOf e = 1) (h : DataW.trod enc Tryz.prog w base spare held n t [a, b] = some y) :
    ∃ m y0 y1, y = (.agg [y0.1, y1.1], y0.2 ++ y1.2) ∧ DataW.trod enc Tryz.prog w base spare held m e [a] = some y0 ∧ DataW.trod enc Tryz.prog w base spare held m e [b] = some y1 := by
  obtain ⟨xs, m, rfl, hx, _, hl, hel⟩ := DataW.trod_array ht h
  match xs, hl, hx, hel with
  | [y0, y1], _, hx, hel =>
    have h0 := hel 0 (by decide)
    have h1 := hel 1 (by decide)
    rw [he] at h0 h1
    refine ⟨m, y0, y1, ?_, h0, h1⟩
    rw [hx]; simp
theorem pair_mk {t e : TypeId} {n : Nat} {a b : Value} {y0 y1 : DataW H × List MemPlace} (ht : Tryz.prog.underlying t = some (.array 2 e)) (he : Tryz.prog.cellsOf e = 1) (hc : Tryz.prog.cellsOf t = 2)
    (h0 : DataW.trod enc Tryz.prog w base spare held n e [a] = some y0) (h1 : DataW.trod enc Tryz.prog w base spare held n e [b] = some y1) : DataW.trod enc Tryz.prog w base spare held (n + 1) t [a, b] = some (.agg [y0.1, y1.1], y0.2 ++ y1.2) := by
  unfold DataW.trod
  rw [ht]
  have e2 : List.range 2 = [0, 1] := rfl
  simp only [he, hc]
  rw [e2]
  simp [h0, h1]
theorem open_flaws {r : Reach} {b0 : Nat} {v : Value} {d : DataW H} {p : List MemPlace} (hv : Value.okWide Tryz.prog w r b0 28 v) (h : DataW.Trod enc Tryz.prog w base spare held 28 v d p) :
    ∃ (x y a b : Nat) (l : Bool), x ≤ 65535 ∧ y ≤ 65535 ∧ a ≤ 255 ∧ b ≤ 255 ∧ v = flV x y a b l ∧ d = flD x y a b l ∧ p = [] := by
  obtain ⟨cs, rfl, hsz⟩ := okWide_struct Tryz.underlying28 hv
  obtain ⟨v0, v1, v2, v3, v4, rfl⟩ := array5 (hsz.trans c28)
  obtain ⟨fuel, hf⟩ := h
  obtain ⟨y0, y1, y2, n, hx, _, h0, h1, h2⟩ := trod_struct3 Tryz.underlying28 hf
  simp only [c25, c26, c4, Value.cells] at h0 h1 h2
  obtain ⟨m, z0, z1, rfl, k0, k1⟩ := pair_of Tryz.underlying25 c22 (show DataW.trod enc Tryz.prog w base spare held n 25 [v0, v1] = some y0 from h0)
  obtain ⟨m', z2, z3, rfl, k2, k3⟩ := pair_of Tryz.underlying26 c5 (show DataW.trod enc Tryz.prog w base spare held n 26 [v2, v3] = some y1 from h1)
  obtain ⟨x, hx1, rfl, rfl⟩ := one16 k0
  obtain ⟨y, hy1, rfl, rfl⟩ := one16 k1
  obtain ⟨a, ha1, rfl, rfl⟩ := one8 k2
  obtain ⟨b, hb1, rfl, rfl⟩ := one8 k3
  obtain ⟨l, e1, rfl⟩ := DataW.trod_bool Tryz.underlying4 (show DataW.trod enc Tryz.prog w base spare held n 4 [v4] = some y2 from h2)
  obtain rfl : v4 = .bool l := by simpa using e1
  simp only [Prod.mk.injEq] at hx
  exact ⟨x, y, a, b, l, hx1, hy1, ha1, hb1, rfl, hx.1, by rw [hx.2]; rfl⟩
theorem shut_flaws {x y a b : Nat} {l : Bool} (hx : x ≤ 65535) (hy : y ≤ 65535) (ha : a ≤ 255) (hb : b ≤ 255) : DataW.Trod enc Tryz.prog w base spare held 28 (flV x y a b l) (flD x y a b l) [] := by
  have p0 := pair_mk (enc := enc) (w := w) (base := base) (spare := spare) (held := held) Tryz.underlying25 c22 c25 (mk16 hx 0) (mk16 hy 0)
  have p1 := pair_mk (enc := enc) (w := w) (base := base) (spare := spare) (held := held) Tryz.underlying26 c5 c26 (mk8 ha 0) (mk8 hb 0)
  have p2 : DataW.trod enc Tryz.prog w base spare held 2 4 [.bool l] = some (.lit (.bool l), []) := by simp [DataW.trod, Tryz.underlying4]
  have ts := trod_struct3_mk (enc := enc) (w := w) (base := base) (spare := spare) (held := held) (n := 2) (cs := [.int .u16 (x : Int), .int .u16 (y : Int), .int .u8 (a : Int), .int .u8 (b : Int), .bool l]) Tryz.underlying28 (by simp [c28])
    (by rw [c25]; exact p0) (by rw [c26]; exact p1) (by rw [c4]; exact p2)
  exact ⟨_, by simpa [Value.cells] using ts⟩
end
theorem i64_in {n : Int} (h : (Lit.int .i64 n).wf = true) : -9223372036854775808 ≤ n ∧ n ≤ 9223372036854775807 := by
  simpa [Lit.wf, IntKind.min, IntKind.max, IntKind.signed, IntKind.bits] using h
theorem lifted (os : Os) (started : os.Started) (H : Type) (enc : TypeId × Value → H) :
    ReturnsInHanded {} Tryz.checked os 3 .any (fun w args => (Rows.topRowsSpec.pre enc Tryz.prog Tryz.f3 [] false w args ∧ laidMetH Tryz.prog Rows.topRowsRow.laid w) ∧ sizedMet enc Tryz.prog Tryz.f3 (OpenSpec.ofChange Rows.topRowsSpec) false w args)
      (Rows.topRowsSpec.post enc Tryz.prog Tryz.f3 false true false false) := by
  refine returnsInHanded_of_change_and (C := Tryz.checked) (X := fun w _ => laidMetH Tryz.prog Rows.topRowsRow.laid w) (fun _ _ _ hh h => h.of_heap hh) own started (by kernel_rfl) Tryz.func3
    (ChangeSpec.witness_shaped (enc := enc) (C := Tryz.checked) (os := os) (X := fun w _ => laidMetH Tryz.prog Rows.topRowsRow.laid w) false (World.laidAll Tryz.prog os Rows.topRowsRow.laid) #[.int .i64 0, ruV 0 0 0, flV 0 0 0 0 false] 8 (World.laidAll_os _ _ _)
      (World.shaped_of_ZipB (by kernel_rfl) (by kernel_rfl)) (by kernel_rfl) (by kernel_rfl) (by kernel_rfl)
      (by rw [MakeChecks.laidMetH_plain _ _ _ (by kernel_rfl)]; exact laidMet_laidAll _ (by kernel_rfl) (by kernel_rfl))) ?_
  intro W base args ds gs before hval0 hW _ _ hL _
  have hval : ∀ (j : Nat) t v, Tryz.f3.params[j]? = some t → args[j]? = some v → Value.okWide Tryz.prog W .any base t v := hval0
  have hW' := hW
  have hgl : GlOK W := by
    have hL' : laidMetH Tryz.prog Rows.topRowsRow.laid W := hL
    rw [MakeChecks.laidMetH_plain _ _ _ (by kernel_rfl)] at hL'
    exact gl_of_laid hL'
  obtain ⟨p, q, hA0, hV, rfl, _, _⟩ := hW
  have hA : DataW.TrodAll enc Tryz.prog W 0 (fun _ => true) true Tryz.f3.params.toList args.toList ds p := hA0
  rw [Tryz.params3] at hA hval
  obtain ⟨v0, v1, v2, d0, d1, d2, p0, p1, p2, rfl, rfl, rfl, h0, h1, h2⟩ := trodAll_three hA
  obtain ⟨rfl, rfl⟩ := trodVars_none hV
  obtain ⟨n, rfl, rfl, rfl, wx⟩ := open_int Tryz.underlying3 (hval 0 3 v0 rfl rfl) h0
  obtain ⟨a, b, c, ha, hb, hc, rfl, rfl, rfl⟩ := open_rule (hval 1 24 v1 rfl rfl) h1
  obtain ⟨x, y, e, f, l, hx, hy, he, hf, rfl, rfl, rfl⟩ := open_flaws (hval 2 28 v2 rfl rfl) h2
  simp only [List.append_nil] at hW'
  refine (topRows_run n (i64_in wx) a b c x y e f l ha hb hc hx hy he hf W hgl).mono fun r W' ⟨hr, hb'⟩ => ?_
  subst hr
  exact ⟨_, rfl, _, _, _, [], [], [], hW', trodAll_mk1 (shut_bool Tryz.underlying4 _), trodAll_mk3 (shut_int Tryz.underlying3 wx) (shut_rule ha hb hc) (shut_flaws hx hy he hf), rfl, hb'.frame _, fun h => by cases h⟩
end Go.Proofs.YthoapgncpjhloaaGreatDoor
end
