/- Part 32 of the proof that TopRows returns true for every input of its row (no condition beyond the row). -/
import Derived.Test.YthoapgncpjhloaaGreatDoorJ6
import Derived.Below
import Derived.Shelf.Strings.BuilderK
import Derived.Test.YthoapgncpjhloaaGreatDoorProg
import Derived.Deep.RegionWith
import Derived.Handy
set_option linter.unusedVariables false
set_option linter.unusedSimpArgs false
set_option linter.unusedSectionVars false
set_option linter.all false
section
open Go.Proofs Go.RowKit
set_option maxRecDepth 100000
namespace Go.Abs
/-- the program's tables lie where they lie -/
def GlOK (w : World) : Prop := ∀ p, p ∈ globs → ∃ ty, w.heap[p.1]? = some (.cells p.2.toArray ty (0, 0))
theorem GlOK.below {w w' : World} {B : Nat} (h : GlOK w) (hb : Below B w w') (hB : ∀ p, p ∈ globs → p.1 < B) : GlOK w' := by
  intro p hp
  obtain ⟨ty, h1⟩ := h p hp
  exact ⟨ty, by rw [hb.block _ (hB p hp)]; exact h1⟩
theorem GlOK.lt {w : World} (h : GlOK w) : ∀ p, p ∈ globs → p.1 < w.heap.size := by
  intro p hp
  obtain ⟨ty, h1⟩ := h p hp
  exact (Array.getElem?_eq_some_iff.1 h1).1
abbrev V0 : VL := ⟨fun _ => 0, fun _ => [], fun _ => false, fun _ => [], fun _ => .emp, fun _ _ _ => False⟩
theorem CS.calls {P : Program} {f : FuncId} {args : List AV} {res : Value} {vs : Array Value} {w : World} (h : CS P f args (.lit res)) (hg : GlOK w) (hl : vs.size = args.length)
    (hr : ∀ (i : Nat) (av : AV) (v : Value), args[i]? = some av → vs[i]? = some v → @Rep V0 (fun _ => False) w av v) : Calls P f vs w fun e w' => e = .returned res ∧ Below w.heap.size w w' := by
  let s : Sg := { M := fun _ => False, n0 := w.heap.size, ρ := fun _ => none, hp := fun _ => none }
  have hm : ∀ b, ¬ s.mut b := by
    rintro b (h | ⟨k, h, _⟩)
    · exact h
    · exact h rfl
  have ok : @OK V0 s w := @OK.mk V0 s w (fun p hp => ⟨hg p hp, hm _⟩) (fun _ h => h.elim) (Nat.le_refl _) (fun k B h => (by cases h)) (fun k k' b h => absurd rfl h) (fun k b h => absurd rfl h)
  refine (h V0 s w vs ok rfl (fun _ _ => rfl) rfl hl fun i av v h1 h2 => @Rel.rep V0 _ _ _ _ (@Rep.weaken V0 _ _ _ _ _ (hr i av v h1 h2) fun b _ hb => hm b hb)).mono ?_
  rintro e w' ⟨v, s', r, rfl, ⟨rfl, _⟩, hrel, _, g⟩
  rw [@Rel.lit_eq V0 _ _ _ _ hrel]
  exact ⟨rfl, g.os, g.tape, g.output, g.size, fun k hk => g.keep k hk fun k' h => absurd rfl h⟩
theorem CS.of_calls {P : Program} {f : FuncId} {arg : AV} {res : Value} (h1 : res.oneCell' = true) (ha : ∀ (V : VL) s w v, @Rel V s w arg v → @Rep V s.mut w arg v)
    (h : ∀ (V : VL) (w : World) (v : Value), GlOK w → @Rep V (fun _ => False) w arg v → Calls P f #[v] w fun e w' => e = .returned res ∧ Below w.heap.size w w') : CS P f [arg] (.lit res) := by
  intro V s w vs ok hp hn hn0 hl hr
  obtain ⟨v, rfl⟩ : ∃ v, vs = #[v] := Array.size_eq_one_iff.1 hl
  have hrep := ha V s w v (hr 0 _ _ rfl rfl)
  have hg : GlOK w := fun p hp => (ok.gl p hp).1
  refine (h V w v hg (hrep.weaken fun b _ hb => hb.elim)).mono ?_
  rintro e w' ⟨rfl, hb⟩
  refine ⟨res, s, .lit res, rfl, ⟨rfl, hp⟩, .rep (.lit h1), ?_, ?_⟩
  · exact { gl := fun p hpp => ⟨by obtain ⟨ty, h2⟩ := (ok.gl p hpp).1; exact ⟨ty, by rw [hb.block _ (hg.lt p hpp)]; exact h2⟩, (ok.gl p hpp).2⟩,
            bM := fun b hm => Nat.lt_of_lt_of_le (ok.bM b hm) hb.size, n0 := Nat.le_trans ok.n0 hb.size, blk := fun k B hB => (by rw [hp] at hB; cases hB),
            inj := fun k k' b hk => absurd (by rw [hp]) hk, dis := fun k b hk => absurd (by rw [hp]) hk }
  · exact { M := rfl, n0 := rfl, rho := fun _ _ _ h => h, size := hb.size, os := hb.os, tape := hb.tape, output := hb.output, keep := fun b hb2 _ => hb.block b hb2,
            own := fun k b hk => absurd (by rw [hp]) hk, dead := fun k hk => absurd hk (Nat.not_lt_zero _), arr := fun k _ _ _ hk => absurd hk (Nat.not_lt_zero _) }
end Go.Abs
end
section
namespace Go.Proofs
open Go.Shelf Go.RowKit
theorem Tz.sizeBuilder : (Tryz.prog.info? 108).map (·.size) = some 2 := by kernel_rfl
theorem Tz.liesBuilder : liesAt Tryz.prog Tryz.prog.depth 108 (2 / Tryz.prog.cellsOf 108) 0 108 1 = true := by kernel_rfl
theorem Tz.infoByte : (Tryz.prog.info? 5).map (fun i => (i.zero, i.size, i.bytes)) = some (some (.int .u8 0), 1, 1) := by kernel_rfl
theorem Tz.neB5 : (108 : Nat) ≠ 5 := by decide
set_option maxHeartbeats 2000000 in
set_option maxRecDepth 100000 in
theorem Tz.Builder_copyCheck_used (b : Nat) (w : World) (h0 : w.cell? ⟨b, 0, none⟩ = some (.pointer (some ⟨b, 0, none⟩))) :
    Calls Tryz.prog 59 #[.pointer (some ⟨b, 0, none⟩)] w fun e w' => e = .returned (.tuple #[]) ∧ w' = w := by
  obtain ⟨j, hj, _⟩ := Option.map_eq_some_iff.1 Tz.sizeBuilder
  have mixed : Tryz.prog.follows .mixedOrders = true := by kernel_rfl
  have t108 := Tryz.underlying108; have a108 := Tryz.isAgg108; have z108 := Tryz.sizeOf108; have v108 := Tryz.zeroValue108; have u108 := run_underlying Tryz.underlying108
  have t106 := Tryz.underlying106; have a106 := Tryz.isAgg106; have z106 := Tryz.sizeOf106; have v106 := Tryz.zeroValue106; have u106 := run_underlying Tryz.underlying106
  have t9 := Tryz.underlying9; have a9 := Tryz.isAgg9; have z9 := Tryz.sizeOf9; have v9 := Tryz.zeroValue9; have u9 := run_underlying Tryz.underlying9
  have t4 := Tryz.underlying4; have a4 := Tryz.isAgg4; have z4 := Tryz.sizeOf4; have v4 := Tryz.zeroValue4; have u4 := run_underlying Tryz.underlying4
  have t207 := Tryz.underlying207; have a207 := Tryz.isAgg207; have z207 := Tryz.sizeOf207; have v207 := Tryz.zeroValue207; have u207 := run_underlying Tryz.underlying207
  go_enter Tryz.func59, Tryz.ntmps59
  go_wp2
  rw [Lib.run_neq_ptr_same w _ Tryz.underlying106 hj]
  go_wp2
  go_end0
  exact ⟨rfl, rfl⟩

set_option maxHeartbeats 2000000 in
set_option maxRecDepth 100000 in
theorem Tz.Builder_copyCheck_fresh (b : Nat) (w : World) (h0 : w.cell? ⟨b, 0, none⟩ = some (.pointer none)) (hsh : w.shape? b = some (108, 2)) (hfz : w.frozen? ⟨b, 0, none⟩ = false) :
    Calls Tryz.prog 59 #[.pointer (some ⟨b, 0, none⟩)] w fun e w' => e = .returned (.tuple #[]) ∧ w' = w.setCell ⟨b, 0, none⟩ (.pointer (some ⟨b, 0, none⟩)) := by
  obtain ⟨j, hj, hjs⟩ := Option.map_eq_some_iff.1 Tz.sizeBuilder
  have mixed : Tryz.prog.follows .mixedOrders = true := by kernel_rfl
  have t108 := Tryz.underlying108; have a108 := Tryz.isAgg108; have z108 := Tryz.sizeOf108; have v108 := Tryz.zeroValue108; have u108 := run_underlying Tryz.underlying108
  have t106 := Tryz.underlying106; have a106 := Tryz.isAgg106; have z106 := Tryz.sizeOf106; have v106 := Tryz.zeroValue106; have u106 := run_underlying Tryz.underlying106
  have t9 := Tryz.underlying9; have a9 := Tryz.isAgg9; have z9 := Tryz.sizeOf9; have v9 := Tryz.zeroValue9; have u9 := run_underlying Tryz.underlying9
  have t4 := Tryz.underlying4; have a4 := Tryz.isAgg4; have z4 := Tryz.sizeOf4; have v4 := Tryz.zeroValue4; have u4 := run_underlying Tryz.underlying4
  have t207 := Tryz.underlying207; have a207 := Tryz.isAgg207; have z207 := Tryz.sizeOf207; have v207 := Tryz.zeroValue207; have u207 := run_underlying Tryz.underlying207
  go_enter Tryz.func59, Tryz.ntmps59
  go_wp2
  rw [Lib.run_to_unsafe w ⟨b, 0, none⟩ Tryz.underlying106 Tryz.underlying207 hj (by rw [hjs]; decide) hsh (Nat.zero_lt_succ 1)]
  simp only [Result.andThen]
  rw [Oper.upon_value]
  go_wp2
  rw [run_callFunc_extern Tryz.func99 (by kernel_rfl) (by kernel_rfl) (by kernel_rfl) (e := Extern.AbiNoEscape.same) (by kernel_rfl)]
  rw [Lib.run_noEscape]
  simp only [Result.andThen]
  rw [Oper.upon_value]
  go_wp2
  rw [Lib.run_from_unsafe w ⟨b, 0, none⟩ Tryz.underlying207 Tryz.underlying106 hj hsh Tz.liesBuilder]
  simp only [Result.andThen]
  rw [Oper.upon_value]
  go_wp2
  go_end0
  exact ⟨rfl, rfl⟩

set_option maxHeartbeats 2000000 in
set_option maxRecDepth 100000 in
theorem Tz.Builder_copyCheck_k (B b : Nat) (bs : List Value) (w : World) (h : Lib.IsBuilderF 108 5 B b bs w) :
    Calls Tryz.prog 59 #[.pointer (some ⟨b, 0, none⟩)] w fun e w' => e = .returned (.tuple #[]) ∧ (Lib.BuilderAtF 108 5 B b (.pointer (some ⟨b, 0, none⟩)) bs w' ∧ Below B w w' ∧ Lib.OthersKept 5 (some b) w w') := by
  rcases h with h | h
  · refine (Tz.Builder_copyCheck_fresh b w h.cell0 h.shape h.frozen0).mono ?_
    rintro e w' ⟨rfl, rfl⟩
    exact ⟨rfl, h.used _, (Below.refl B w).setCell (p := ⟨b, 0, none⟩) h.1 _, (Lib.OthersKept.refl _ _ w).setCell ⟨b, 0, none⟩ rfl _⟩
  · refine (Tz.Builder_copyCheck_used b w h.cell0).mono ?_
    rintro e w' ⟨rfl, rfl⟩
    exact ⟨rfl, h, Below.refl B _, Lib.OthersKept.refl _ _ _⟩

set_option maxHeartbeats 2000000 in
set_option maxRecDepth 100000 in
theorem Tz.Builder_WriteByte_k (B b : Nat) (bs : List Value) (c : Int) (w : World) (h : Lib.IsBuilderF 108 5 B b bs w) (hlen : bs.length + 1 ≤ 140737488355328) (hBw : B ≤ w.heap.size) :
    Calls Tryz.prog 31 #[.pointer (some ⟨b, 0, none⟩), .int .u8 c] w fun e w' => e = .returned .nilIface ∧ (Lib.BuilderAtF 108 5 B b (.pointer (some ⟨b, 0, none⟩)) (bs ++ [.int .u8 c]) w' ∧ Below B w w' ∧ Lib.OthersKept 5 (some b) w w') := by
  obtain ⟨i0, hi, hz0, hz1, hz2⟩ := info_parts Tz.infoByte
  have mixed : Tryz.prog.follows .mixedOrders = true := by kernel_rfl
  have t108 := Tryz.underlying108; have a108 := Tryz.isAgg108; have z108 := Tryz.sizeOf108; have v108 := Tryz.zeroValue108; have u108 := run_underlying Tryz.underlying108
  have t106 := Tryz.underlying106; have a106 := Tryz.isAgg106; have z106 := Tryz.sizeOf106; have v106 := Tryz.zeroValue106; have u106 := run_underlying Tryz.underlying106
  have t5 := Tryz.underlying5; have a5 := Tryz.isAgg5; have z5 := Tryz.sizeOf5; have v5 := Tryz.zeroValue5; have u5 := run_underlying Tryz.underlying5
  have t40 := Tryz.underlying40; have a40 := Tryz.isAgg40; have z40 := Tryz.sizeOf40; have v40 := Tryz.zeroValue40; have u40 := run_underlying Tryz.underlying40
  have t9 := Tryz.underlying9; have a9 := Tryz.isAgg9; have z9 := Tryz.sizeOf9; have v9 := Tryz.zeroValue9; have u9 := run_underlying Tryz.underlying9
  have t4 := Tryz.underlying4; have a4 := Tryz.isAgg4; have z4 := Tryz.sizeOf4; have v4 := Tryz.zeroValue4; have u4 := run_underlying Tryz.underlying4
  have t207 := Tryz.underlying207; have a207 := Tryz.isAgg207; have z207 := Tryz.sizeOf207; have v207 := Tryz.zeroValue207; have u207 := run_underlying Tryz.underlying207
  have e240 : ∀ args w, (callFunc 59 args).run Tryz.prog w = .ok (.enter 59 args) w := enters_of Tryz.func59 (by kernel_rfl) rfl
  go_enter Tryz.func31, Tryz.ntmps31
  go_wp2_with (go_at_fn 59; refine (Tz.Builder_copyCheck_k B b bs _ h).mono ?_)
  rintro e w1 ⟨rfl, h1, hb1, hk1⟩
  obtain ⟨hB, v, hbk, hown, hne⟩ := h1
  have c0 : w1.cell? ⟨b, 0, none⟩ = some (.pointer (some ⟨b, 0, none⟩)) := by rw [Lib.cell_of_heap hbk]; rfl
  have c1 : w1.cell? ⟨b, 1, none⟩ = some v := by rw [Lib.cell_of_heap hbk]; rfl
  go_wp2_with (at_builtin; refine wpList_append_ownF _ rfl _ _ 40 rfl B 5 i0 (.int .u8 0) 1 1 Tryz.underlying40 hi hz0 hz1 hz2 rfl (by decide) _ _ _ rfl (hown.alloc _) ⟨w1.heap.size, 0, none⟩ 1 1 [.int .u8 c] rfl rfl ?c1 ?c2 ?c3 ?c4 ?c5 ?_)
  case c1 =>
    intro j u hj
    match j, hj with
    | 0, hj => simp at hj; subst hj; simp [Addr.add]
  case c2 => intro u hu; simp at hu; subst hu; rfl
  case c3 => unfold maxLen; omega
  case c4 => omega
  case c5 => have := hb1.size; simp; omega
  intro v' w2 hown' hgrow _
  have hlt : b < w1.heap.size := by
    rcases Nat.lt_or_ge b w1.heap.size with h' | h'
    · exact h'
    · simp [Array.getElem?_eq_none h'] at hbk
  have hb2 : w2.heap[b]? = some (.cells #[.pointer (some ⟨b, 0, none⟩), v] 108 (0, 0)) := by
    rw [hgrow.block b (by simp; omega) (fun e => hne e.symm), Lib.alloc_old w1 _ b hlt]
    exact hbk
  have d0 : w2.cell? ⟨b, 0, none⟩ = some (.pointer (some ⟨b, 0, none⟩)) := by rw [Lib.cell_of_heap hb2]; rfl
  have d1 : w2.cell? ⟨b, 1, none⟩ = some v := by rw [Lib.cell_of_heap hb2]; rfl
  have f1 : w2.frozen? ⟨b, 1, none⟩ = false := Lib.frozen_of_heap hb2 1
  obtain ⟨g, cap, rfl⟩ : ∃ g cap, v' = .slice (some ⟨g, 0, none⟩) (bs.length + 1) cap := by
    rcases hown'.2 with ⟨_, h0⟩ | ⟨g, cap, cur, fz, hv, _⟩
    · omega
    · exact ⟨g, cap, hv⟩
  go_wp2
  go_ret
  refine ⟨rfl, ?_, ?_, ((hk1.alloc _).grown hgrow (Lib.ownsRowF_kind (hown.alloc _))).setCell ⟨b, 1, none⟩ rfl _⟩
  · exact Lib.BuilderAtF.put (T := 108) (e := 5) hB hb2 (bs' := bs ++ [.int .u8 c]) (by simpa using hown') Tz.neB5
  · exact ((hb1.alloc (by have := hb1.size; omega) _).grown hgrow (by have := hb1.size; simp; omega) (fun k hk => (hown.lt k hk).1)).setCell (p := ⟨b, 1, none⟩) hB _

set_option maxHeartbeats 2000000 in
set_option maxRecDepth 100000 in
theorem Tz.Builder_WriteString_k (B b : Nat) (bs : List Value) (s : ByteArray) (w : World) (h : Lib.IsBuilderF 108 5 B b bs w) (hlen : bs.length + s.size ≤ 140737488355328) (hBw : B ≤ w.heap.size) :
    Calls Tryz.prog 27 #[.pointer (some ⟨b, 0, none⟩), .string s] w fun e w' => e = .returned (.tuple #[.int .i64 s.size, .nilIface]) ∧ (Lib.BuilderAtF 108 5 B b (.pointer (some ⟨b, 0, none⟩)) (bs ++ Lib.strCells s) w' ∧ Below B w w' ∧ Lib.OthersKept 5 (some b) w w') := by
  obtain ⟨i0, hi, hz0, hz1, hz2⟩ := info_parts Tz.infoByte
  have mixed : Tryz.prog.follows .mixedOrders = true := by kernel_rfl
  have t108 := Tryz.underlying108; have a108 := Tryz.isAgg108; have z108 := Tryz.sizeOf108; have v108 := Tryz.zeroValue108; have u108 := run_underlying Tryz.underlying108
  have t106 := Tryz.underlying106; have a106 := Tryz.isAgg106; have z106 := Tryz.sizeOf106; have v106 := Tryz.zeroValue106; have u106 := run_underlying Tryz.underlying106
  have t40 := Tryz.underlying40; have a40 := Tryz.isAgg40; have z40 := Tryz.sizeOf40; have v40 := Tryz.zeroValue40; have u40 := run_underlying Tryz.underlying40
  have t3 := Tryz.underlying3; have a3 := Tryz.isAgg3; have z3 := Tryz.sizeOf3; have v3 := Tryz.zeroValue3; have u3 := run_underlying Tryz.underlying3
  have t9 := Tryz.underlying9; have a9 := Tryz.isAgg9; have z9 := Tryz.sizeOf9; have v9 := Tryz.zeroValue9; have u9 := run_underlying Tryz.underlying9
  have t4 := Tryz.underlying4; have a4 := Tryz.isAgg4; have z4 := Tryz.sizeOf4; have v4 := Tryz.zeroValue4; have u4 := run_underlying Tryz.underlying4
  have t207 := Tryz.underlying207; have a207 := Tryz.isAgg207; have z207 := Tryz.sizeOf207; have v207 := Tryz.zeroValue207; have u207 := run_underlying Tryz.underlying207
  have t5 := Tryz.underlying5; have a5 := Tryz.isAgg5; have z5 := Tryz.sizeOf5; have v5 := Tryz.zeroValue5; have u5 := run_underlying Tryz.underlying5
  have e240 : ∀ args w, (callFunc 59 args).run Tryz.prog w = .ok (.enter 59 args) w := enters_of Tryz.func59 (by kernel_rfl) rfl
  go_enter Tryz.func27, Tryz.ntmps27
  go_wp2_with (go_at_fn 59; refine (Tz.Builder_copyCheck_k B b bs _ h).mono ?_)
  rintro e w1 ⟨rfl, h1, hb1, hk1⟩
  obtain ⟨hB, v, hbk, hown, hne⟩ := h1
  have c0 : w1.cell? ⟨b, 0, none⟩ = some (.pointer (some ⟨b, 0, none⟩)) := by rw [Lib.cell_of_heap hbk]; rfl
  have c1 : w1.cell? ⟨b, 1, none⟩ = some v := by rw [Lib.cell_of_heap hbk]; rfl
  go_wp2_with (at_builtin; refine Lib.wpList_append_own_stringF _ rfl _ _ 40 9 rfl B 5 i0 Tryz.underlying40 Tryz.underlying9 hi hz0 hz1 hz2 _ _ _ rfl hown s rfl ?c3 ?c4 ?c5 ?_)
  case c3 => unfold maxLen; omega
  case c4 => omega
  case c5 => have := hb1.size; omega
  intro v' w2 hown' hgrow _
  have hlt : b < w1.heap.size := by
    rcases Nat.lt_or_ge b w1.heap.size with h' | h'
    · exact h'
    · simp [Array.getElem?_eq_none h'] at hbk
  have hb2 : w2.heap[b]? = some (.cells #[.pointer (some ⟨b, 0, none⟩), v] 108 (0, 0)) := by
    rw [hgrow.block b hlt (fun e => hne e.symm)]
    exact hbk
  have d0 : w2.cell? ⟨b, 0, none⟩ = some (.pointer (some ⟨b, 0, none⟩)) := by rw [Lib.cell_of_heap hb2]; rfl
  have d1 : w2.cell? ⟨b, 1, none⟩ = some v := by rw [Lib.cell_of_heap hb2]; rfl
  have f1 : w2.frozen? ⟨b, 1, none⟩ = false := Lib.frozen_of_heap hb2 1
  obtain ⟨ao, n', cap, rfl⟩ : ∃ ao n' cap, v' = .slice ao n' cap := by
    rcases hown'.2 with ⟨hv, _⟩ | ⟨g, cap, cur, fz, hv, _⟩
    · exact ⟨_, _, _, hv⟩
    · exact ⟨_, _, _, hv⟩
  go_wp2
  go_ret2
  refine ⟨rfl, ?_, ?_, (hk1.grown hgrow (Lib.ownsRowF_kind hown)).setCell ⟨b, 1, none⟩ rfl _⟩
  · exact Lib.BuilderAtF.put (T := 108) (e := 5) hB hb2 (bs' := bs ++ Lib.strCells s) (by simpa [Lib.strCells_length] using hown') Tz.neB5
  · exact (hb1.grown hgrow (by have := hb1.size; omega) (fun k hk => (hown.lt k hk).1)).setCell (p := ⟨b, 1, none⟩) hB _

def Tryz.lays169_ren : Go.Shelf.Ren := ⟨fun | 169 => 32 | n => n, fun | 70 => 106 | 9 => 9 | 0 => 0 | 72 => 108 | 37 => 40 | 127 => 158 | 3 => 3 | 5 => 5 | n => n, fun | n => n⟩
theorem Tryz.lays169 : Go.Proofs.Lays.n169 Tryz.prog Tryz.lays169_ren := {
  mixed := by kernel_rfl
  f169 := Tryz.func32.trans (congrArg some (by kernel_rfl))
  t0 := Tryz.underlying0
  a0 := Tryz.isAgg0
  z0 := Tryz.sizeOf0
  v0 := Tryz.zeroValue0
  t3 := Tryz.underlying3
  a3 := Tryz.isAgg3
  z3 := Tryz.sizeOf3
  v3 := Tryz.zeroValue3
  t9 := Tryz.underlying9
  a9 := Tryz.isAgg9
  z9 := Tryz.sizeOf9
  v9 := Tryz.zeroValue9
  t37 := Tryz.underlying40
  a37 := Tryz.isAgg40
  z37 := Tryz.sizeOf40
  v37 := Tryz.zeroValue40
  t70 := Tryz.underlying106
  a70 := Tryz.isAgg106
  z70 := Tryz.sizeOf106
  v70 := Tryz.zeroValue106
  t72 := Tryz.underlying108
  a72 := Tryz.isAgg108
  z72 := Tryz.sizeOf108
  v72 := Tryz.zeroValue108
  t127 := Tryz.underlying158
  a127 := Tryz.isAgg158
  z127 := Tryz.sizeOf158
  v127 := Tryz.zeroValue158 }
theorem Tryz.Builder_Extra_169 : Builder.Extra Tryz.prog Tryz.lays169_ren := {
  sizeBuilder := by kernel_rfl
  liesBuilder := by kernel_rfl
  t5 := Tryz.underlying5
  a5 := Tryz.isAgg5
  z5 := Tryz.sizeOf5
  v5 := Tryz.zeroValue5
  infoByte := by kernel_rfl
  cellsByte := by kernel_rfl
  sizeByte := by kernel_rfl
  neB5 := by decide }
open Go.RowKit in
theorem Tryz.Builder_String_k (B b : Nat) (l : List UInt8) (w : World) (h : Lib.IsBuilderF 108 5 B b (Lib.byteCells l) w) (h0 : l ≠ []) :
    Calls Tryz.prog 32 #[.pointer (some ⟨b, 0, none⟩)] w fun e w' => e = .returned (.string ⟨l.toArray⟩) ∧ (Lib.IsBuilderF 108 5 B b (Lib.byteCells l) w' ∧ Below B w w' ∧ Lib.OthersKept 5 (some b) w w') := Any.Builder_String_k Tryz.lays169 Tryz.Builder_Extra_169 B b l w h h0
open Go.RowKit in
theorem Tryz.Builder_String_empty_k (B b : Nat) (w : World) (h : Lib.IsBuilderF 108 5 B b [] w) (hBw : B ≤ w.heap.size) :
    Calls Tryz.prog 32 #[.pointer (some ⟨b, 0, none⟩)] w fun e w' => e = .returned (.string ⟨#[]⟩) ∧ (Lib.IsBuilderF 108 5 B b [] w' ∧ Below B w w' ∧ Lib.OthersKept 5 (some b) w w') := Any.Builder_String_empty_k Tryz.lays169 Tryz.Builder_Extra_169 B b w h hBw
open Go.RowKit in
theorem Tryz.Builder_String_any_k (B b : Nat) (l : List UInt8) (w : World) (h : Lib.IsBuilderF 108 5 B b (Lib.byteCells l) w) (hBw : B ≤ w.heap.size) :
    Calls Tryz.prog 32 #[.pointer (some ⟨b, 0, none⟩)] w fun e w' => e = .returned (.string ⟨l.toArray⟩) ∧ (Lib.IsBuilderF 108 5 B b (Lib.byteCells l) w' ∧ Below B w w' ∧ Lib.OthersKept 5 (some b) w w') := Any.Builder_String_any_k Tryz.lays169 Tryz.Builder_Extra_169 B b l w h hBw

end Go.Proofs
end
section
namespace Go.Proofs
open Go.Shelf Go.RowKit
theorem Tz.key_run (s : ByteArray) (w : World) : Calls Tryz.prog 30 #[.string s] w fun e w' => e = .returned (.agg #[.bool false, .string s, .int .i64 0]) ∧ Below w.heap.size w w' := by
  go_enter Tryz.func30, Tryz.ntmps30
  go_wp2
  go_returns
  exact ⟨rfl, (Below.refl _ w).alloc (Nat.le_refl _) _⟩
def Tz.line (pt wd key kt : List UInt8) : List UInt8 := pt ++ [32] ++ wd ++ (match key with | [] => [] | _ => 32 :: kt) ++ [10]
structure Tz.FOk (w : World) (n b off : Nat) (pv : Nat → Value) (op : Nat → Int) (key pt wd kt : Nat → List UInt8) : Prop where
  lt : b < w.heap.size
  c0 : ∀ j, j < n → w.cell? ⟨b, off + (j * 3), none⟩ = some (pv j)
  c1 : ∀ j, j < n → w.cell? ⟨b, off + (j * 3 + 1), none⟩ = some (.int .i64 (op j))
  c2 : ∀ j, j < n → w.cell? ⟨b, off + (j * 3 + 2), none⟩ = some (.string ⟨(key j).toArray⟩)
  sl : ∀ j, j < n → ∃ A m c, pv j = .slice A m c
  path : ∀ j, j < n → ∀ w', Below w.heap.size w w' → Calls Tryz.prog 28 #[pv j] w' fun e w'' => e = .returned (.string ⟨(pt j).toArray⟩) ∧ Below w'.heap.size w' w''
  word : ∀ j, j < n → ∀ w', Below w.heap.size w w' → Calls Tryz.prog 29 #[.int .i64 (op j)] w' fun e w'' => e = .returned (.string ⟨(wd j).toArray⟩) ∧ Below w'.heap.size w' w''
  keyp : ∀ j, j < n → key j ≠ [] → ∀ w' b2, Below w.heap.size w w' → w'.heap[b2]? = some (.cells #[.bool false, .string ⟨(key j).toArray⟩, .int .i64 0] 87 (0, 0)) → Calls Tryz.prog 28 #[.slice (some ⟨b2, 0, none⟩) 1 1] w' fun e w'' => e = .returned (.string ⟨(kt j).toArray⟩) ∧ Below w'.heap.size w' w''
  small : ∀ j, j < n → (pt j).length ≤ 100 ∧ (wd j).length ≤ 100 ∧ (kt j).length ≤ 100
def Tz.lines (f : Nat → List UInt8) : Nat → List UInt8
  | 0 => []
  | n + 1 => Tz.lines f n ++ f n

theorem Tz.isb_on {T e B b : Nat} {bs : List Value} {w w' : World} (h : Lib.IsBuilderF T e B b bs w) (hb : Below w.heap.size w w') : Lib.IsBuilderF T e B b bs w' := by
  have key : ∀ p, Lib.BuilderAtF T e B b p bs w → Lib.BuilderAtF T e B b p bs w' := by
    rintro p ⟨hB, v, hk, hown, hne⟩
    refine ⟨hB, v, by rw [hb.block b (Array.getElem?_eq_some_iff.1 hk).1]; exact hk, ⟨hown.1, ?_⟩, hne⟩
    rcases hown.2 with h0 | ⟨g, cap, cur, fz, hv, hg, hc, r⟩
    · exact .inl h0
    · exact .inr ⟨g, cap, cur, fz, hv, hg, by rw [hb.block g (Array.getElem?_eq_some_iff.1 hc).1]; exact hc, r⟩
  rcases h with h | h
  · exact .inl (key _ h)
  · exact .inr (key _ h)
structure Tz.At (w : World) (acc : List UInt8) (q : Nat) (cs : Array Value) (W : World) : Prop where
  bld : Lib.IsBuilderF 108 5 w.heap.size w.heap.size (Lib.byteCells acc) W
  bel : Below w.heap.size w W
  box : W.heap[q]? = some (.cells cs 33 (0, 0))
theorem Tz.At.on {w : World} {acc : List UInt8} {q : Nat} {cs : Array Value} {W W' : World} (h : Tz.At w acc q cs W) (hb : Below W.heap.size W W') : Tz.At w acc q cs W' :=
  ⟨Tz.isb_on h.bld hb, h.bel.trans (hb.mono h.bel.size), by rw [hb.block q (Array.getElem?_eq_some_iff.1 h.box).1]; exact h.box⟩
theorem Tz.At.drew {w : World} {acc : List UInt8} {q : Nat} {cs : Array Value} {W : World} (h : Tz.At w acc q cs W) : Tz.At w acc q cs W.drew := ⟨h.bld, h.bel.drew, h.box⟩
theorem Tz.At.c {w : World} {acc : List UInt8} {q : Nat} {cs : Array Value} {W : World} (h : Tz.At w acc q cs W) (j : Nat) : W.cell? ⟨q, j, none⟩ = cs[j]? := by
  simp [World.cell?, h.box]

set_option maxHeartbeats 4000000 in
set_option maxRecDepth 1000000 in
theorem Tz.text_run {n cap b off : Nat} {w : World} {pv : Nat → Value} {op : Nat → Int} {key pt wd kt : Nat → List UInt8} (hn : n ≤ 10) (h : Tz.FOk w n b off pv op key pt wd kt) :
    Calls Tryz.prog 11 #[.slice (some ⟨b, off, none⟩) n cap] w fun e w' => e = .returned (.string ⟨(Tz.lines (fun j => Tz.line (pt j) (wd j) (key j) (kt j)) n).toArray⟩) ∧ Below w.heap.size w w' := by
  go_enter Tryz.func11, Tryz.ntmps11
  go_wp2
  go_loopw [8] (fun i wr => ∃ (k : Nat) (acc : List UInt8), k ≤ n ∧ i = .int .i64 k ∧ Lib.IsBuilderF 108 5 w.heap.size w.heap.size (Lib.byteCells acc) wr ∧ Below w.heap.size w wr ∧ acc = Tz.lines (fun j => Tz.line (pt j) (wd j) (key j) (kt j)) k ∧ acc.length ≤ 400 * k) (fun i _ => n - (Lib.intOf i).toNat)
  case atStart => exact ⟨0, [], Nat.zero_le _, rfl, Lib.IsBuilderF.of (Lib.fresh_isBuilder 108 5 w), (Below.refl _ w).alloc (Nat.le_refl _) _, rfl, by simp⟩
  case round =>
    obtain ⟨k, acc, hk, rfl, hI, hbw, hacc, hal⟩ := hrel
    by_cases hkn : k < n
    · have d0 : wr.cell? ⟨b, off + k * 3, none⟩ = some (pv k) := by rw [hbw.cell (p := ⟨b, _, none⟩) h.lt]; exact h.c0 k hkn
      have d1 : wr.cell? ⟨b, off + k * 3 + 1, none⟩ = some (.int .i64 (op k)) := by rw [hbw.cell (p := ⟨b, _, none⟩) h.lt]; exact h.c1 k hkn
      have d2 : wr.cell? ⟨b, off + k * 3 + 2, none⟩ = some (.string ⟨(key k).toArray⟩) := by rw [hbw.cell (p := ⟨b, _, none⟩) h.lt]; exact h.c2 k hkn
      obtain ⟨A, m, c, hpv⟩ := h.sl k hkn
      rw [hpv] at d0
      have hp := h.path k hkn
      rw [hpv] at hp
      have hw := h.word k hkn
      go_wp2_with fail
      have hA : Tz.At w acc wr.heap.size #[.slice A m c, .int .i64 (op k), .string ⟨(key k).toArray⟩] (wr.alloc (.cells #[.slice A m c, .int .i64 (op k), .string ⟨(key k).toArray⟩] 33)).drew :=
        Tz.At.drew ⟨Tz.isb_on hI ((Below.refl _ wr).alloc (Nat.le_refl _) _), hbw.alloc hbw.size _, by simpa using Go.heap_alloc_new wr _⟩
      obtain ⟨l1, l2, l3⟩ := h.small k hkn
      have q1 : ¬ 9223372036854775807 < (pt k).length + 1 := by omega
      have q2 : ¬ 9223372036854775807 < (pt k).length + 1 + (wd k).length := by omega
      have hz : (Lib.byteCells acc).length + (({ data := (pt k).toArray } : ByteArray) ++ { data := #[32] } ++ { data := (wd k).toArray }).size ≤ 140737488355328 := by
        rw [Lib.byteCells_length, ByteArray.size_append, ByteArray.size_append]; simp [ByteArray.size]; omega
      go_region_with (first
        | (go_at_call 28; refine (hp _ hA.bel).mono ?_; rintro e W1 ⟨rfl, b1⟩; have hA := hA.on b1; have e1 : W1.cell? ⟨wr.heap.size, 1, none⟩ = some (.int .i64 (op k)) := hA.c 1)
        | (go_at_call 29; refine (hw _ hA.bel).mono ?_; rintro e W2 ⟨rfl, b2⟩; have hA := hA.on b2)
        | (go_at_call 27; refine (Tz.Builder_WriteString_k w.heap.size w.heap.size (Lib.byteCells acc) _ _ hA.bld hz hA.bel.size).mono ?_; rintro e W3 ⟨rfl, h3, b3, o3⟩))
      all_goals
        have hsz : w.heap.size < wr.heap.size := by
          rcases hI with ⟨_, v, hb, _⟩ | ⟨_, v, hb, _⟩ <;> exact (Array.getElem?_eq_some_iff.1 hb).1
        have hbox : W3.heap[wr.heap.size]? = some (.cells #[.slice A m c, .int .i64 (op k), .string ⟨(key k).toArray⟩] 33 (0, 0)) :=
          o3 _ _ hA.box (by intro e; have := Option.some.inj e; omega) (by intro c fz; simp)
        have f2 : W3.cell? ⟨wr.heap.size, 2, none⟩ = some (.string ⟨(key k).toArray⟩) := by simp [World.cell?, hbox]
        have hB3 : Below w.heap.size w W3 := hA.bel.trans b3
        by_cases hk0 : key k = []
        · rw [hk0] at f2
          have hl3 : (Lib.byteCells acc ++ Lib.strCells (({ data := (pt k).toArray } : ByteArray) ++ { data := #[32] } ++ { data := (wd k).toArray })).length + 1 ≤ 140737488355328 := by
            rw [List.length_append, Lib.byteCells_length, Lib.strCells_length, ByteArray.size_append, ByteArray.size_append]; simp [ByteArray.size]; omega
          go_wp2_with (go_at_call 31; refine (Tz.Builder_WriteByte_k w.heap.size w.heap.size _ 10 _ (Or.inr h3) hl3 hB3.size).mono ?_)
          rintro e W4 ⟨rfl, h4, b4, _⟩
          go_wp2
          go_roundw
          case rel =>
            refine ⟨k + 1, acc ++ Tz.line (pt k) (wd k) (key k) (kt k), by omega, by go_num, Or.inr ?_, hB3.trans b4, ?_, ?_⟩
            · rw [hk0]
              simpa [Tz.line, Lib.byteCells, Lib.strCells_eq] using h4
            · rw [hacc]; rfl
            · rw [hk0, List.length_append]; simp [Tz.line]; omega
          case measure => simp [Lib.intOf]; omega
        · obtain ⟨x, xs, hkey⟩ : ∃ x xs, key k = x :: xs := by
            cases hh : key k with
            | nil => exact absurd hh hk0
            | cons x xs => exact ⟨x, xs, rfl⟩
          have hkp := h.keyp k hkn hk0
          rw [hkey] at f2 hkp
          go_wp2_with (go_at_call 30; refine (Tz.key_run _ _).mono ?_)
          rintro e W4 ⟨rfl, b4⟩
          have hB4 : Below w.heap.size w W4 := hB3.trans (b4.mono hB3.size)
          have ba : Below W4.heap.size W4 (W4.alloc (.cells #[.bool false, .string ⟨(x :: xs).toArray⟩, .int .i64 0] 87)) := (Below.refl _ W4).alloc (Nat.le_refl _) _
          have hBa : Below w.heap.size w (W4.alloc (.cells #[.bool false, .string ⟨(x :: xs).toArray⟩, .int .i64 0] 87)) := hB4.trans (ba.mono hB4.size)
          go_wp2_with (go_at_call 28; refine (hkp _ W4.heap.size hBa (by simpa using Go.heap_alloc_new W4 _)).mono ?_)
          rintro e W5 ⟨rfl, b5⟩
          have hB5 : Below w.heap.size w W5 := hBa.trans (b5.mono hBa.size)
          have hI5 := Tz.isb_on (Tz.isb_on (Tz.isb_on (Or.inr h3) b4) ba) b5
          have q3 : ¬ 9223372036854775807 < 1 + (kt k).length := by omega
          have hz5 : (Lib.byteCells acc ++ Lib.strCells (({ data := (pt k).toArray } : ByteArray) ++ { data := #[32] } ++ { data := (wd k).toArray })).length + (({ data := #[32] } : ByteArray) ++ { data := (kt k).toArray }).size ≤ 140737488355328 := by
            rw [List.length_append, Lib.byteCells_length, Lib.strCells_length, ByteArray.size_append, ByteArray.size_append, ByteArray.size_append]; simp [ByteArray.size]; omega
          go_wp2_with (go_at_call 27; refine (Tz.Builder_WriteString_k w.heap.size w.heap.size _ _ _ hI5 hz5 hB5.size).mono ?_)
          rintro e W6 ⟨rfl, h6, b6, _⟩
          have hl6 : (Lib.byteCells acc ++ Lib.strCells (({ data := (pt k).toArray } : ByteArray) ++ { data := #[32] } ++ { data := (wd k).toArray }) ++ Lib.strCells (({ data := #[32] } : ByteArray) ++ { data := (kt k).toArray })).length + 1 ≤ 140737488355328 := by
            rw [List.length_append, List.length_append, Lib.byteCells_length, Lib.strCells_length, Lib.strCells_length, ByteArray.size_append, ByteArray.size_append, ByteArray.size_append]; simp [ByteArray.size]; omega
          go_wp2_with (go_at_call 31; refine (Tz.Builder_WriteByte_k w.heap.size w.heap.size _ 10 _ (Or.inr h6) hl6 (hB5.trans b6).size).mono ?_)
          rintro e W7 ⟨rfl, h7, b7, _⟩
          go_wp2
          go_roundw
          case rel =>
            refine ⟨k + 1, acc ++ Tz.line (pt k) (wd k) (key k) (kt k), by omega, by go_num, Or.inr ?_, (hB5.trans b6).trans b7, ?_, ?_⟩
            · rw [hkey]
              simpa [Tz.line, Lib.byteCells, Lib.strCells_eq] using h7
            · rw [hacc]; rfl
            · rw [hkey, List.length_append]; simp [Tz.line]; omega
          case measure => simp [Lib.intOf]; omega
    · have hkn' : k = n := by omega
      subst hkn'
      go_wp2_with (go_at_call 32; refine (Tryz.Builder_String_any_k w.heap.size w.heap.size acc _ hI hbw.size).mono ?_)
      rintro e W1 ⟨rfl, _, b1, _⟩
      go_wp2
      go_ret
      exact ⟨rfl, hbw.trans b1⟩
end Go.Proofs
end
section
namespace Go.Proofs
open Go.Shelf Go.RowKit
set_option maxHeartbeats 4000000 in
set_option maxRecDepth 1000000 in
theorem Tz.text_none (w : World) : Calls Tryz.prog 11 #[.slice none 0 0] w fun e w' => e = .returned (.string ⟨([] : List UInt8).toArray⟩) ∧ Below w.heap.size w w' := by
  go_enter Tryz.func11, Tryz.ntmps11
  go_wp2
  go_loopw [8] (fun i wr => i = .int .i64 0 ∧ Lib.IsBuilderF 108 5 w.heap.size w.heap.size (Lib.byteCells []) wr ∧ Below w.heap.size w wr) (fun i _ => 0)
  case atStart => exact ⟨rfl, Lib.IsBuilderF.of (Lib.fresh_isBuilder 108 5 w), (Below.refl _ w).alloc (Nat.le_refl _) _⟩
  case round =>
    obtain ⟨rfl, hI, hbw⟩ := hrel
    go_wp2_with (go_at_call 32; refine (Tryz.Builder_String_any_k w.heap.size w.heap.size [] _ hI hbw.size).mono ?_)
    rintro e W1 ⟨rfl, _, b1, _⟩
    go_wp2
    go_ret
    exact ⟨rfl, hbw.trans b1⟩
end Go.Proofs
end
