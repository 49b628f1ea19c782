/- Part 18 of the proof that TopAltered returns true for every input of its row (no condition beyond the row). -/
import Derived.Test.YtelfcalhhfmjfaaGreatDoorT17
import Derived.Test.YtelfcalhhfmjfaaGreatDoorRows
import Derived.Test.YtelfcalhhfmjfaaGreatDoorTie
import Derived.Test.YtelfcalhhfmjfaaGreatDoorCards
import Derived.ProofKit
import Derived.Lib.SmallJoins
import Derived.Lay
import Derived.SevenTiedAt
set_option linter.unusedVariables false
set_option linter.unusedSimpArgs false
namespace Go.Proofs.YtelfcalhhfmjfaaGreatDoor
open Go Go.ChangeShapes Go.WideShapes Go.ChangeAt Go.RowKit Go.Abs
set_option maxRecDepth 100000
abbrev ruV (a b c : Nat) : Value := .agg #[.int .u16 ((a : Nat) : Int), .int .u16 ((b : Nat) : Int), .int .u16 ((c : Nat) : Int)]
theorem ru_rel {s : Sg} {w : World} (a b c : Nat) : Abs.Rel s w (.agg [.lit (.int .u16 ((a : Nat) : Int)), .lit (.int .u16 ((b : Nat) : Int)), .lit (.int .u16 ((c : Nat) : Int))]) (ruV a b c) := by
  refine .agg rfl fun i av v h1 h2 => ?_
  match i with
  | 0 => cases h1; cases h2; exact .rep (.lit rfl)
  | 1 => cases h1; cases h2; exact .rep (.lit rfl)
  | 2 => cases h1; cases h2; exact .rep (.lit rfl)
  | i + 3 => cases h1
theorem topAltered_run (v : Int) (a b c d e f : Nat) (ha : a ≤ 65535) (hb : b ≤ 65535) (hc : c ≤ 65535) (hd : d ≤ 65535) (he : e ≤ 65535) (hf : f ≤ 65535) (w : World) :
    Calls Tryz.prog 3 #[.int .i64 v, ruV a b c, ruV d e f] w fun r w' => r = .returned (.bool true) ∧ Below w.heap.size w w' := by
  have sp := TopAltered_spec v _ rfl ⟨a, b, c⟩ ⟨d, e, f⟩ ⟨ha, hb, hc⟩ ⟨hd, he, hf⟩ (altOK _ _ (by omega)) patOK
  let s : Sg := { M := fun _ => False, n0 := w.heap.size, ρ := fun _ => none, hp := hpOf [] }
  have ok : OK s w := { bM := fun _ h => h.elim, n0 := Nat.le_refl _, blk := fun k B h => (by cases h), inj := fun k k' b h => absurd rfl h, dis := fun k b h => absurd rfl h }
  refine (sp s w #[.int .i64 v, ruV a b c, ruV d e f] ok rfl (fun _ _ => rfl) rfl rfl fun i av x h1 h2 => ?_).mono ?_
  · match i with
    | 0 => cases h1; cases h2; exact .rep (.lit rfl)
    | 1 => cases h1; cases h2; exact ru_rel a b c
    | 2 => cases h1; cases h2; exact ru_rel d e f
    | i + 3 => cases h1
  · rintro r w' ⟨x, s', y, rfl, ⟨rfl, _⟩, hr, _, g⟩
    rw [Rel.lit_eq hr]
    exact ⟨rfl, g.os, g.tape, g.output, g.size, fun k hk => g.keep k hk fun k' h => absurd rfl h⟩
theorem own : ownKnob Tryz.prog.godebug = none := by kernel_rfl
theorem c22 : Tryz.prog.cellsOf 22 = 1 := by kernel_rfl
theorem c25 : Tryz.prog.cellsOf 25 = 3 := by kernel_rfl
theorem u16_nat {n : Int} (h : (Lit.int .u16 n).wf = true) : ∃ a : Nat, a ≤ 65535 ∧ n = (a : Int) := by
  have h' : 0 ≤ n ∧ n ≤ 65535 := by simpa [Lit.wf, IntKind.min, IntKind.max, IntKind.signed, IntKind.bits] using h
  exact ⟨n.toNat, by omega, by omega⟩
section
variable {H : Type} {enc : TypeId × Value → H} {w : World} {base : Nat} {spare : Nat → Bool} {held : Bool}
theorem u16_wf {a : Nat} (h : a ≤ 65535) : (Lit.int .u16 (a : Int)).wf = true := by
  simp [Lit.wf, IntKind.min, IntKind.max, IntKind.signed, IntKind.bits]; omega
theorem one16 {n : Nat} {x : Value} {y : DataW H × List MemPlace} (h : DataW.trod enc Tryz.prog w base spare held n 22 [x] = some y) : ∃ a : Nat, a ≤ 65535 ∧ x = .int .u16 (a : Int) ∧ y = (.lit (.int .u16 (a : Int)), []) := by
  obtain ⟨k, e1, e2, e3⟩ := DataW.trod_int Tryz.underlying22 h
  obtain ⟨a, ha, rfl⟩ := u16_nat e3
  exact ⟨a, ha, by simpa using e1, e2⟩
theorem mk16 {a : Nat} (h : a ≤ 65535) (n : Nat) : DataW.trod enc Tryz.prog w base spare held (n + 1) 22 [.int .u16 (a : Int)] = some (.lit (.int .u16 (a : Int)), []) := by
  unfold DataW.trod
  rw [Tryz.underlying22]
  simp [u16_wf h]
abbrev ruD (a b c : Nat) : DataW H := .agg [.lit (.int .u16 (a : Int)), .lit (.int .u16 (b : Int)), .lit (.int .u16 (c : Int))]
theorem open_rule {r : Reach} {b0 : Nat} {v : Value} {d : DataW H} {p : List MemPlace} (hv : Value.okWide Tryz.prog w r b0 24 v) (h : DataW.Trod enc Tryz.prog w base spare held 24 v d p) :
    ∃ a b c : Nat, a ≤ 65535 ∧ b ≤ 65535 ∧ c ≤ 65535 ∧ v = ruV a b c ∧ d = ruD a b c ∧ p = [] := by
  obtain ⟨v0, v1, v2, y0, y1, y2, n, rfl, rfl, rfl, h0, h1, h2⟩ := Joins.open_agg3 Tryz.underlying24 (by kernel_rfl) (by kernel_rfl) hv h
  obtain ⟨a, ha, rfl, rfl⟩ := one16 h0
  obtain ⟨b, hb, rfl, rfl⟩ := one16 h1
  obtain ⟨c, hc, rfl, rfl⟩ := one16 h2
  exact ⟨a, b, c, ha, hb, hc, rfl, rfl, rfl⟩
theorem shut_rule {a b c : Nat} (ha : a ≤ 65535) (hb : b ≤ 65535) (hc : c ≤ 65535) : DataW.Trod enc Tryz.prog w base spare held 24 (ruV a b c) (ruD a b c) [] :=
  Joins.shut_agg3 (y0 := (.lit (.int .u16 (a : Int)), [])) (y1 := (.lit (.int .u16 (b : Int)), [])) (y2 := (.lit (.int .u16 (c : Int)), [])) Tryz.underlying24 (by kernel_rfl) (by kernel_rfl) ⟨1, mk16 ha 0⟩ ⟨1, mk16 hb 0⟩ ⟨1, mk16 hc 0⟩
theorem open_marks {r : Reach} {b0 : Nat} {v : Value} {d : DataW H} {p : List MemPlace} (hv : Value.okWide Tryz.prog w r b0 25 v) (h : DataW.Trod enc Tryz.prog w base spare held 25 v d p) :
    ∃ a b c : Nat, a ≤ 65535 ∧ b ≤ 65535 ∧ c ≤ 65535 ∧ v = ruV a b c ∧ d = ruD a b c ∧ p = [] := by
  unfold Value.okWide at hv
  rw [Tryz.underlying25] at hv
  obtain ⟨cs, rfl, hsz, _⟩ := hv
  rw [c25] at hsz
  obtain ⟨v0, v1, v2, rfl⟩ := Joins.array3 hsz
  obtain ⟨fuel, hf⟩ := h
  obtain ⟨xs, m, rfl, hx, _, hl, hel⟩ := DataW.trod_array Tryz.underlying25 hf
  match xs, hl, hx, hel with
  | [y0, y1, y2], _, hx, hel =>
    have h0 := hel 0 (by decide)
    have h1 := hel 1 (by decide)
    have h2 := hel 2 (by decide)
    rw [c22] at h0 h1 h2
    obtain ⟨a, ha, rfl, rfl⟩ := one16 (show DataW.trod _ _ _ _ _ _ m 22 [v0] = some y0 from h0)
    obtain ⟨b, hb, rfl, rfl⟩ := one16 (show DataW.trod _ _ _ _ _ _ m 22 [v1] = some y1 from h1)
    obtain ⟨c, hc, rfl, rfl⟩ := one16 (show DataW.trod _ _ _ _ _ _ m 22 [v2] = some y2 from h2)
    simp only [List.map_cons, List.map_nil, List.flatMap_cons, List.flatMap_nil, List.append_nil, Prod.mk.injEq] at hx
    exact ⟨a, b, c, ha, hb, hc, rfl, hx.1, hx.2⟩
theorem shut_marks {a b c : Nat} (ha : a ≤ 65535) (hb : b ≤ 65535) (hc : c ≤ 65535) : DataW.Trod enc Tryz.prog w base spare held 25 (ruV a b c) (ruD a b c) [] := by
  refine ⟨2, ?_⟩
  unfold DataW.trod
  rw [Tryz.underlying25]
  simp only [ruV, Value.cells, c25, c22]
  have e : List.range 3 = [0, 1, 2] := rfl
  have h0 := mk16 (enc := enc) (w := w) (base := base) (spare := spare) (held := held) ha 0
  have h1 := mk16 (enc := enc) (w := w) (base := base) (spare := spare) (held := held) hb 0
  have h2 := mk16 (enc := enc) (w := w) (base := base) (spare := spare) (held := held) hc 0
  rw [e]
  simp only [Nat.zero_add] at h0 h1 h2
  simp [h0, h1, h2]
end
theorem lifted (os : Os) (started : os.Started) (H : Type) (enc : TypeId × Value → H) :
    ReturnsInHanded {} Tryz.checked os 3 .any (fun w args => (Rows.topAlteredSpec.pre enc Tryz.prog Tryz.f3 [] false w args ∧ laidMetH Tryz.prog Rows.topAlteredRow.laid w) ∧ sizedMet enc Tryz.prog Tryz.f3 (OpenSpec.ofChange Rows.topAlteredSpec) false w args)
      (Rows.topAlteredSpec.post enc Tryz.prog Tryz.f3 false true false false) := by
  refine returnsInHanded_of_change_and (C := Tryz.checked) (X := fun w _ => laidMetH Tryz.prog Rows.topAlteredRow.laid w) (fun _ _ _ hh h => h.of_heap hh) own started (by kernel_rfl) Tryz.func3
    (ChangeSpec.witness_shaped (enc := enc) (C := Tryz.checked) (os := os) (X := fun w _ => laidMetH Tryz.prog Rows.topAlteredRow.laid w) false (World.laidAll Tryz.prog os Rows.topAlteredRow.laid) #[.int .i64 0, ruV 0 0 0, ruV 0 0 0] 8 (World.laidAll_os _ _ _)
      (World.shaped_of_ZipB (by kernel_rfl) (by kernel_rfl)) (by kernel_rfl) (by kernel_rfl) (by kernel_rfl)
      (by rw [MakeChecks.laidMetH_plain _ _ _ (by kernel_rfl)]; exact laidMet_laidAll _ (by kernel_rfl) (by kernel_rfl))) ?_
  intro W base args ds gs before hval0 hW _ _ hL _
  have hval : ∀ (j : Nat) t v, Tryz.f3.params[j]? = some t → args[j]? = some v → Value.okWide Tryz.prog W .any base t v := hval0
  have hW' := hW
  obtain ⟨p, q, hA0, hV, rfl, _, _⟩ := hW
  have hA : DataW.TrodAll enc Tryz.prog W 0 (fun _ => true) true Tryz.f3.params.toList args.toList ds p := hA0
  rw [Tryz.params3] at hA hval
  obtain ⟨v0, v1, v2, d0, d1, d2, p0, p1, p2, rfl, rfl, rfl, h0, h1, h2⟩ := trodAll_three hA
  obtain ⟨rfl, rfl⟩ := trodVars_none hV
  obtain ⟨x, rfl, rfl, rfl, wx⟩ := open_int Tryz.underlying3 (hval 0 3 v0 rfl rfl) h0
  obtain ⟨a, b, c, ha, hb, hc, rfl, rfl, rfl⟩ := open_rule (hval 1 24 v1 rfl rfl) h1
  obtain ⟨d, e, f, hd, he, hf, rfl, rfl, rfl⟩ := open_marks (hval 2 25 v2 rfl rfl) h2
  simp only [List.append_nil] at hW'
  refine (topAltered_run x a b c d e f ha hb hc hd he hf W).mono fun r W' ⟨hr, hb'⟩ => ?_
  subst hr
  exact ⟨_, rfl, _, _, _, [], [], [], hW', trodAll_mk1 (shut_bool Tryz.underlying4 _), trodAll_mk3 (shut_int Tryz.underlying3 wx) (shut_rule ha hb hc) (shut_marks hd he hf), rfl, hb'.frame _, fun h => by cases h⟩
theorem topAltered_holds : Rows.TopAlteredSaid :=
  OpenClaim.holds_of_wide 3 Tryz.f3 rfl rfl rfl rfl rfl rfl rfl ⟨rfl, rfl, rfl, rfl, rfl⟩ rfl rfl rfl rfl rfl (by kernel_rfl) Tryz.func3 (by kernel_rfl)
    (of_decide_eq_true (by kernel_rfl)) (by unfold Func.isWrapper; first | (rw [if_pos (by decide +kernel)]; kernel_rfl) | (rw [if_neg (by decide +kernel)]; exact ⟨rfl, rfl⟩))
    (fun os started H enc _ => lifted os started H enc)
theorem topAltered_card : Rows.TopAlteredCardSaid :=
  Claim7.holds_tied_plain_at .later [] [.data, .pinned] true (true, "b386a8b54f1c637d85b04d212ad75ddca50c14e1974809fe1ab1ec007e727ea8") false topAltered_holds (fun _ h => by cases h) (by kernel_rfl) (fun _ h => by cases h) topAltered_row_tie rfl ⟨rfl, rfl⟩ (by kernel_rfl) rfl
    (fun f fn hf hfn => by
      obtain rfl : f = 3 := Option.some.inj ((show Tryz.prog.funcNamed "datakit/datakittop.TopAltered" = some 3 by kernel_rfl).symm.trans hf) |>.symm
      obtain rfl : fn = Tryz.f3 := (Option.some.inj (Tryz.func3.symm.trans hfn)).symm
      exact ⟨by kernel_rfl, fun j t ht => by
        rw [Tryz.params3] at ht
        have hm : t ∈ [3, 24, 25] := by simpa using Array.mem_of_getElem? ht
        have hall : ([3, 24, 25].all fun u => !Tryz.prog.wantsStandIn u) = true := by kernel_rfl
        exact (show Tryz.prog.wantsStandIn t = false by simpa using List.all_eq_true.1 hall t hm)⟩)
    (by kernel_rfl)
end Go.Proofs.YtelfcalhhfmjfaaGreatDoor
