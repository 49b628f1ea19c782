/- Part 1 of the proof that TopAltered returns true for every input of its row (no condition beyond the row). -/
import Derived.Laws.Rows
import Derived.Laws.NewBlocks
import Derived.Laws.AppendOwn
import Derived.Orders
import Derived.WalkKit
import Derived.KernelRfl
set_option linter.unusedVariables false
set_option linter.unusedSimpArgs false
namespace Go.Abs
inductive AV where
  | lit (v : Value)
  | ro (esz : Nat) (xs : List (List AV))
  | rp (xs : List AV) (o : Nat)
  | fr (x : AV)
  | agg (xs : List AV)
  | tup (xs : List AV)
  | ptr (k esz e o : Nat)
  | sl (k esz off n : Nat)
  | emp
  | fn (f : FuncId) (caps : List AV)
  | mp (k : Nat)
  deriving Inhabited
inductive Rep (F : Nat → Prop) (w : World) : AV → Value → Prop
  | lit {v : Value} (h : v.oneCell' = true) : Rep F w (.lit v) v
  | nil {esz : Nat} {A : Option Addr} {cap : Nat} (hc : cap ≤ maxLen) : Rep F w (.ro esz []) (.slice A 0 cap)
  | ro {esz : Nat} {xs : List (List AV)} {b off cap : Nat} (c : Nat → Nat → Value) (hF : ¬ F b) (hb : b < w.heap.size)
      (hn : xs.length ≤ cap) (hc : cap ≤ maxLen)
      (hrow : ∀ (j : Nat) (row : List AV), xs[j]? = some row → row.length = esz)
      (hcell : ∀ (j : Nat) (row : List AV) (i : Nat) (av : AV), xs[j]? = some row → row[i]? = some av → w.cell? ⟨b, off + (j * esz + i), none⟩ = some (c j i))
      (hrep : ∀ (j : Nat) (row : List AV) (i : Nat) (av : AV), xs[j]? = some row → row[i]? = some av → Rep F w av (c j i)) :
      Rep F w (.ro esz xs) (.slice (some ⟨b, off, none⟩) xs.length cap)
  | rp {xs : List AV} {o b off : Nat} (c : Nat → Value) (hF : ¬ F b) (hb : b < w.heap.size)
      (hcell : ∀ (i : Nat) (av : AV), xs[i]? = some av → w.cell? ⟨b, off + i, none⟩ = some (c i))
      (hrep : ∀ (i : Nat) (av : AV), xs[i]? = some av → Rep F w av (c i)) :
      Rep F w (.rp xs o) (.pointer (some ⟨b, off + o, none⟩))
theorem Rep.mono {F F' : Nat → Prop} {w w' : World} {x : AV} {v : Value} (h : Rep F w x v) (hs : w.heap.size ≤ w'.heap.size)
    (hk : ∀ b, b < w.heap.size → ¬ F b → w'.heap[b]? = w.heap[b]? ∧ ¬ F' b) : Rep F' w' x v := by
  induction h with
  | lit h => exact .lit h
  | nil hc => exact .nil hc
  | ro c hF hb hn hc hrow hcell _ ih =>
    obtain ⟨e, hF'⟩ := hk _ hb hF
    exact .ro c hF' (Nat.lt_of_lt_of_le hb hs) hn hc hrow
      (fun j row i av h1 h2 => (World.cell?_of_block (a := ⟨_, _, none⟩) e).trans (hcell j row i av h1 h2))
      (fun j row i av h1 h2 => ih j row i av h1 h2)
  | rp c hF hb hcell _ ih =>
    obtain ⟨e, hF'⟩ := hk _ hb hF
    exact .rp c hF' (Nat.lt_of_lt_of_le hb hs)
      (fun i av h1 => (World.cell?_of_block (a := ⟨_, _, none⟩) e).trans (hcell i av h1))
      (fun i av h1 => ih i av h1)
theorem Rep.weaken {F F' : Nat → Prop} {w : World} {x : AV} {v : Value} (h : Rep F w x v) (hk : ∀ b, b < w.heap.size → F' b → F b) : Rep F' w x v :=
  h.mono (Nat.le_refl _) fun b hb hF => ⟨rfl, fun hF' => hF (hk b hb hF')⟩
theorem Rep.oneCell {F : Nat → Prop} {w : World} {x : AV} {v : Value} (h : Rep F w x v) : v.oneCell' = true := by
  cases h <;> first | assumption | rfl
inductive Blk where
  | box (cells : List AV)
  | arr (fresh : Bool) (esz : Nat) (els : List (List AV))
  | map (es : List (Value × Value))
structure Sg where
  M : Nat → Prop
  n0 : Nat
  ρ : Nat → Option (Option Nat)
  hp : Nat → Option Blk
def Sg.mut (s : Sg) (b : Nat) : Prop := s.M b ∨ ∃ k, s.hp k ≠ none ∧ s.ρ k = some (some b)
def Sg.old (s : Sg) (b : Nat) : Prop := s.mut b ∨ b < s.n0
inductive Rel (s : Sg) (w : World) : AV → Value → Prop
  | rep {x : AV} {v : Value} (h : Rep s.mut w x v) : Rel s w x v
  | fr {x : AV} {v : Value} (h : Rep s.old w x v) : Rel s w (.fr x) v
  | agg {xs : List AV} {vs : Array Value} (hl : xs.length = vs.size) (h : ∀ (i : Nat) (av : AV) (v : Value), xs[i]? = some av → vs[i]? = some v → Rel s w av v) : Rel s w (.agg xs) (.agg vs)
  | tup {xs : List AV} {vs : Array Value} (hl : xs.length = vs.size) (h : ∀ (i : Nat) (av : AV) (v : Value), xs[i]? = some av → vs[i]? = some v → Rel s w av v) : Rel s w (.tup xs) (.tuple vs)
  | ptr {k esz e o b : Nat} (h : s.ρ k = some (some b)) : Rel s w (.ptr k esz e o) (.pointer (some ⟨b, e * esz + o, none⟩))
  | slg {k esz off n : Nat} {A : Option Addr} {n' c' : Nat} (h : s.ρ k ≠ none) (hp : s.hp k = none) : Rel s w (.sl k esz off n) (.slice A n' c')
  | sl {k esz off n b cap : Nat} {fr : Bool} {els : List (List AV)} {cs : Array Value} {ty : TypeId} {fz : Nat × Nat} (h : s.ρ k = some (some b)) (hp : s.hp k = some (.arr fr esz els))
      (hle : off + n ≤ els.length) (hb : w.heap[b]? = some (.cells cs ty fz)) (hn : n ≤ cap) (hc : cap ≤ maxLen) (hs : (off + cap) * esz ≤ cs.size) :
      Rel s w (.sl k esz off n) (.slice (some ⟨b, off * esz, none⟩) n cap)
  | sln {k esz off : Nat} {A : Option Addr} (h : s.ρ k = some none) : Rel s w (.sl k esz off 0) (.slice A 0 0)
  | emp {A : Option Addr} : Rel s w .emp (.slice A 0 0)
  | fn {f : FuncId} {xs : List AV} {vs : Array Value} (hl : xs.length = vs.size) (h : ∀ (i : Nat) (av : AV) (v : Value), xs[i]? = some av → vs[i]? = some v → Rel s w av v) : Rel s w (.fn f xs) (.func (.func f) #[] vs)
  | mp {k b : Nat} (h : s.ρ k = some (some b)) : Rel s w (.mp k) (.map (some b))
def BOK (s : Sg) (w : World) (x : Option Nat) : Blk → Prop
  | .box cells => ∃ b cs ty, x = some b ∧ w.heap[b]? = some (.cells cs ty (0, 0)) ∧ cells.length = cs.size ∧ ∀ (i : Nat) (av : AV) (v : Value), cells[i]? = some av → cs[i]? = some v → Rel s w av v
  | .arr fresh esz els => (x = none ∧ els = []) ∨ ∃ b cs ty, x = some b ∧ w.heap[b]? = some (.cells cs ty (0, 0)) ∧ els.length * esz ≤ cs.size ∧
      (∀ (j : Nat) (row : List AV), els[j]? = some row → row.length = esz) ∧
      ∀ (j : Nat) (row : List AV) (i : Nat) (av : AV), els[j]? = some row → row[i]? = some av → ∃ v, cs[j * esz + i]? = some v ∧ Rep (if fresh then s.old else s.mut) w av v
  | .map es => ∃ b entries clock, x = some b ∧ w.heap[b]? = some (.map entries clock) ∧ entries.toList.map (fun e => (e.key, e.val)) = es
structure OK (s : Sg) (w : World) : Prop where
  bM : ∀ b, s.M b → b < w.heap.size
  n0 : s.n0 ≤ w.heap.size
  blk : ∀ k B, s.hp k = some B → ∃ x, s.ρ k = some x ∧ BOK s w x B
  inj : ∀ k k' b, s.hp k ≠ none → s.hp k' ≠ none → s.ρ k = some (some b) → s.ρ k' = some (some b) → k = k'
  dis : ∀ k b, s.hp k ≠ none → s.ρ k = some (some b) → ¬ s.M b
structure Tr (s : Sg) (w : World) (s' : Sg) (w' : World) : Prop where
  M : s'.M = s.M
  n0 : s'.n0 = s.n0
  rho : ∀ k x, s.ρ k = some x → s'.ρ k = some x
  size : w.heap.size ≤ w'.heap.size
  os : w'.os = w.os
  tape : w'.tape = w.tape
  output : w'.output = w.output
  keep : ∀ b, b < w.heap.size → (∀ k, s.hp k ≠ none → s.ρ k ≠ some (some b)) → w'.heap[b]? = w.heap[b]?
  own : ∀ k b, s'.hp k ≠ none → s'.ρ k = some (some b) → (∃ k0, s.hp k0 ≠ none ∧ s.ρ k0 = some (some b)) ∨ w.heap.size ≤ b
  dead : ∀ k, s.ρ k ≠ none → s.hp k = none → s'.hp k = none
  arr : ∀ k fresh esz els, s.hp k = some (.arr fresh esz els) → s'.hp k = none ∨ ∃ fresh' els', s'.hp k = some (.arr fresh' esz els') ∧ els.length ≤ els'.length ∧
    ∀ b cs ty fz, s.ρ k = some (some b) → w.heap[b]? = some (.cells cs ty fz) → ∃ cs' ty' fz', w'.heap[b]? = some (.cells cs' ty' fz') ∧ cs'.size = cs.size
theorem Tr.mut_keep {s s' : Sg} {w w' : World} (t : Tr s w s' w') : ∀ b, b < w.heap.size → ¬ s.mut b → w'.heap[b]? = w.heap[b]? ∧ ¬ s'.mut b := by
  intro b hb hm
  refine ⟨t.keep b hb fun k hk he => hm (.inr ⟨k, hk, he⟩), ?_⟩
  rintro (h | ⟨k, hk, he⟩)
  · exact hm (.inl (t.M ▸ h))
  · rcases t.own k b hk he with ⟨k0, h0, h1⟩ | h
    · exact hm (.inr ⟨k0, h0, h1⟩)
    · omega
theorem Tr.old_keep {s s' : Sg} {w w' : World} (t : Tr s w s' w') : ∀ b, b < w.heap.size → ¬ s.old b → w'.heap[b]? = w.heap[b]? ∧ ¬ s'.old b := by
  intro b hb ho
  have hm : ¬ s.mut b := fun h => ho (.inl h)
  obtain ⟨h1, h2⟩ := t.mut_keep b hb hm
  refine ⟨h1, ?_⟩
  rintro (h | h)
  · exact h2 h
  · exact ho (.inr (t.n0 ▸ h))
theorem Rel.step {s s' : Sg} {w w' : World} (t : Tr s w s' w') {x : AV} {v : Value} (h : Rel s w x v) : Rel s' w' x v := by
  induction h with
  | rep h => exact .rep (h.mono t.size t.mut_keep)
  | fr h => exact .fr (h.mono t.size t.old_keep)
  | agg hl _ ih => exact .agg hl ih
  | tup hl _ ih => exact .tup hl ih
  | ptr h => exact .ptr (t.rho _ _ h)
  | @slg k esz off n A n' c' h hp =>
    refine .slg ?_ (t.dead k h hp)
    cases hr : s.ρ k with
    | none => exact absurd hr h
    | some x => rw [t.rho _ _ hr]; simp
  | @sl k esz off n b cap fr els cs ty fz h hp hle hb hn hc hs =>
    rcases t.arr _ _ _ _ hp with h' | ⟨fr', els', h', hl, hsz⟩
    · exact .slg (by rw [t.rho _ _ h]; simp) h'
    · obtain ⟨cs', ty', fz', hb', hcs⟩ := hsz _ _ _ _ h hb
      exact .sl (t.rho _ _ h) h' (by omega) hb' hn hc (by omega)
  | sln h => exact .sln (t.rho _ _ h)
  | emp => exact .emp
  | fn hl _ ih => exact .fn hl ih
  | mp h => exact .mp (t.rho _ _ h)
theorem BOK.step {s s' : Sg} {w w' : World} (t : Tr s w s' w') {x : Option Nat} {B : Blk} (h : BOK s w x B)
    (hx : ∀ b, x = some b → w'.heap[b]? = w.heap[b]?) : BOK s' w' x B := by
  cases B with
  | box cells =>
    obtain ⟨b, cs, ty, rfl, hb, hl, hr⟩ := h
    exact ⟨b, cs, ty, rfl, (hx b rfl).trans hb, hl, fun i av v h1 h2 => (hr i av v h1 h2).step t⟩
  | arr fresh esz els =>
    rcases h with h | ⟨b, cs, ty, rfl, hb, hl, hrow, hr⟩
    · exact .inl h
    · refine .inr ⟨b, cs, ty, rfl, (hx b rfl).trans hb, hl, hrow, fun j row i av h1 h2 => ?_⟩
      obtain ⟨v, hv, hrep⟩ := hr j row i av h1 h2
      refine ⟨v, hv, ?_⟩
      cases fresh
      · exact hrep.mono t.size t.mut_keep
      · exact hrep.mono t.size t.old_keep
  | map es =>
    obtain ⟨b, en, cl, rfl, hb, he⟩ := h
    exact ⟨b, en, cl, rfl, (hx b rfl).trans hb, he⟩
theorem OK.lt {s : Sg} {w : World} (h : OK s w) {k b : Nat} (hk : s.hp k ≠ none) (hr : s.ρ k = some (some b)) : b < w.heap.size := by
  cases hB : s.hp k with
  | none => exact absurd hB hk
  | some B =>
    obtain ⟨x, hx, hok⟩ := h.blk k B hB
    rw [hr] at hx
    cases hx
    cases B with
    | box cells =>
      obtain ⟨b', cs, ty, e, hb, _⟩ := hok
      cases e
      exact (Array.getElem?_eq_some_iff.1 hb).1
    | arr fresh esz els =>
      rcases hok with ⟨h, _⟩ | ⟨b', cs, ty, e, hb, _⟩
      · cases h
      · cases e
        exact (Array.getElem?_eq_some_iff.1 hb).1
    | map es =>
      obtain ⟨b', en, cl, e, hb, _⟩ := hok
      cases e
      exact (Array.getElem?_eq_some_iff.1 hb).1
theorem OK.step {s s' : Sg} {w w' : World} (h : OK s w) (t : Tr s w s' w')
    (hb : ∀ k B, s'.hp k = some B → (s.hp k = some B ∧ ∀ b, s.ρ k = some (some b) → w'.heap[b]? = w.heap[b]?) ∨ ∃ x, s'.ρ k = some x ∧ BOK s' w' x B)
    (inj : ∀ k k' b, s'.hp k ≠ none → s'.hp k' ≠ none → s'.ρ k = some (some b) → s'.ρ k' = some (some b) → k = k') : OK s' w' where
  bM b hm := Nat.lt_of_lt_of_le (h.bM b (t.M ▸ hm)) t.size
  n0 := by rw [t.n0]; exact Nat.le_trans h.n0 t.size
  blk k B hB := by
    rcases hb k B hB with ⟨h0, he⟩ | h1
    · obtain ⟨x, hx, hok⟩ := h.blk k B h0
      exact ⟨x, t.rho _ _ hx, hok.step t fun b e => he b (e ▸ hx)⟩
    · exact h1
  inj := inj
  dis k b hk hr hm := by
    have hm' : s.M b := t.M ▸ hm
    rcases t.own k b hk hr with ⟨k0, h0, h1⟩ | hle
    · exact h.dis k0 b h0 h1 hm'
    · have := h.bM b hm'; omega
end Go.Abs
namespace Go.Abs
abbrev Env := Nat → Option AV
abbrev Hp := Nat → Option Blk
def updE (E : Env) (d : Option Nat) (r : Option AV) : Env := match d with
  | some d => fun t => if t = d then r else E t
  | none => E
def lkU : List (Nat × Option Blk) → Nat → Option (Option Blk)
  | [], _ => none
  | (k, x) :: r, t => if t = k then some x else lkU r t
def updH (H : Hp) (U : List (Nat × Option Blk)) : Hp := fun k => match lkU U k with
  | some x => x
  | none => H k
def envOf : List (Nat × AV) → Env
  | [] => fun _ => none
  | (k, x) :: r => fun t => if t = k then some x else envOf r t
def hpOf : List (Nat × Blk) → Hp
  | [] => fun _ => none
  | (k, x) :: r => fun t => if t = k then some x else hpOf r t
structure Post (s : Sg) (w : World) (fr : List Nat) (U : List (Nat × Option Blk)) (s' : Sg) (w' : World) : Prop where
  tr : Tr s w s' w'
  ok : OK s' w'
  hp : s'.hp = updH s.hp U
  fresh : ∀ k, s.ρ k = none → k ∉ fr → s'.ρ k = none
def AOp (P : Program) (o : Oper) (E : Env) (H : Hp) (fr : List Nat) (res : Option AV) (U : List (Nat × Option Blk)) : Prop :=
  ∀ (s : Sg) (w : World) (a : Act) (K : Act → World → Prop) (Q : Exit → Act → World → Prop), OK s w →
    (∀ t av, E t = some av → Rel s w av (a.tmps.getD t undef)) → (∀ k B, H k = some B → s.hp k = some B) → (∀ k, k ∈ fr → s.ρ k = none) →
    (∀ v s' w', Post s w fr U s' w' → (∀ av, res = some av → Rel s' w' av v) → K (a.put o.dst v) w') → o.wp P a w K Q
structure Glob (n : Nat) (s : Sg) (w : World) (s' : Sg) (w' : World) : Prop where
  M : s'.M = s.M
  n0 : s'.n0 = s.n0
  rho : ∀ k x, k < n → s.ρ k = some x → s'.ρ k = some x
  size : w.heap.size ≤ w'.heap.size
  os : w'.os = w.os
  tape : w'.tape = w.tape
  output : w'.output = w.output
  keep : ∀ b, b < w.heap.size → (∀ k, s.hp k ≠ none → s.ρ k ≠ some (some b)) → w'.heap[b]? = w.heap[b]?
  own : ∀ k b, s'.hp k ≠ none → s'.ρ k = some (some b) → (∃ k0, s.hp k0 ≠ none ∧ s.ρ k0 = some (some b)) ∨ w.heap.size ≤ b
  dead : ∀ k, k < n → s.ρ k ≠ none → s.hp k = none → s'.hp k = none
  arr : ∀ k fresh esz els, k < n → s.hp k = some (.arr fresh esz els) → s'.hp k = none ∨ ∃ fresh' els', s'.hp k = some (.arr fresh' esz els') ∧ els.length ≤ els'.length ∧
    ∀ b cs ty fz, s.ρ k = some (some b) → w.heap[b]? = some (.cells cs ty fz) → ∃ cs' ty' fz', w'.heap[b]? = some (.cells cs' ty' fz') ∧ cs'.size = cs.size
theorem Glob.refl (n : Nat) (s : Sg) (w : World) : Glob n s w s w where
  M := rfl
  n0 := rfl
  rho _ _ _ h := h
  size := Nat.le_refl _
  os := rfl
  tape := rfl
  output := rfl
  keep _ _ _ := rfl
  own k _ h h' := .inl ⟨k, h, h'⟩
  dead _ _ _ h := h
  arr _ fresh _ els _ h := .inr ⟨fresh, els, h, Nat.le_refl _, fun _ cs ty fz _ h => ⟨cs, ty, fz, h, rfl⟩⟩
theorem Glob.step {n : Nat} {s0 s s' : Sg} {w0 w w' : World} (ok0 : OK s0 w0) (g : Glob n s0 w0 s w) (t : Tr s w s' w') : Glob n s0 w0 s' w' where
  M := t.M.trans g.M
  n0 := t.n0.trans g.n0
  rho k x hk h := t.rho _ _ (g.rho k x hk h)
  size := Nat.le_trans g.size t.size
  os := t.os.trans g.os
  tape := t.tape.trans g.tape
  output := t.output.trans g.output
  keep b hb h := by
    refine (t.keep b (Nat.lt_of_lt_of_le hb g.size) fun k hk he => ?_).trans (g.keep b hb h)
    rcases g.own k b hk he with ⟨k0, h0, h1⟩ | h1
    · exact h k0 h0 h1
    · omega
  own k b hk he := by
    rcases t.own k b hk he with ⟨k0, h0, h1⟩ | h1
    · exact g.own k0 b h0 h1
    · exact .inr (Nat.le_trans g.size h1)
  dead k hk h h' := by
    have h1 := g.dead k hk h h'
    refine t.dead k ?_ h1
    cases hr : s0.ρ k with
    | none => exact absurd hr h
    | some x => rw [g.rho k x hk hr]; simp
  arr k fresh esz els hk h := by
    have hr0 : s0.ρ k ≠ none := by
      obtain ⟨x, hx, _⟩ := ok0.blk k _ h
      rw [hx]; simp
    rcases g.arr k fresh esz els hk h with h1 | ⟨f1, e1, h1, hl, hsz⟩
    · refine .inl (t.dead k ?_ h1)
      cases hr : s0.ρ k with
      | none => exact absurd hr hr0
      | some x => rw [g.rho k x hk hr]; simp
    · rcases t.arr k f1 esz e1 h1 with h2 | ⟨f2, e2, h2, hl2, hsz2⟩
      · exact .inl h2
      · refine .inr ⟨f2, e2, h2, by omega, fun b cs ty fz hb hc => ?_⟩
        obtain ⟨cs1, ty1, fz1, hb1, hs1⟩ := hsz b cs ty fz hb hc
        obtain ⟨cs2, ty2, fz2, hb2, hs2⟩ := hsz2 b cs1 ty1 fz1 (g.rho k _ hk hb) hb1
        exact ⟨cs2, ty2, fz2, hb2, by omega⟩
structure Cx where
  n : Nat
  s : Sg
  w : World
  N : Nat
structure Gm (C : Cx) (E : Env) (H : Hp) (nx : Nat) (s : Sg) (w : World) (a : Act) : Prop where
  ok0 : OK C.s C.w
  ok : OK s w
  env : ∀ t av, E t = some av → Rel s w av (a.tmps.getD t undef)
  hp : s.hp = H
  new : ∀ k, nx ≤ k → s.ρ k = none
  le : C.n ≤ nx
  size : a.tmps.size = C.N
  defers : a.defers = []
  glob : Glob C.n C.s C.w s w
theorem Act.size_put (a : Act) (d : Option Nat) (v : Value) : (a.put d v).tmps.size = a.tmps.size := by
  cases d <;> simp [Act.put]
theorem Act.defers_put (a : Act) (d : Option Nat) (v : Value) : (a.put d v).defers = a.defers := by
  cases d <;> rfl
theorem Act.get_put_same (a : Act) (d : Nat) (v : Value) (h : d < a.tmps.size) : (a.put (some d) v).tmps.getD d undef = v := by
  simp [Act.put, h]
theorem Act.get_put_ne (a : Act) (d t : Nat) (v : Value) (h : t ≠ d) : (a.put (some d) v).tmps.getD t undef = a.tmps.getD t undef := by
  simp [Act.put, Array.getElem?_setIfInBounds_ne (Ne.symm h)]
theorem Gm.put {C : Cx} {E : Env} {H : Hp} {nx nx' : Nat} {s s' : Sg} {w w' : World} {a : Act} {fr : List Nat} {U : List (Nat × Option Blk)} {d : Option Nat} {r : Option AV} {v : Value}
    (g : Gm C E H nx s w a) (hd : ∀ x, d = some x → x < C.N) (hn : nx ≤ nx') (hfr : ∀ k, k ∈ fr → k < nx')
    (p : Post s w fr U s' w') (hr : ∀ av, r = some av → Rel s' w' av v) : Gm C (updE E d r) (updH H U) nx' s' w' (a.put d v) where
  ok0 := g.ok0
  ok := p.ok
  env t av h := by
    cases d with
    | none =>
      exact (g.env t av h).step p.tr
    | some d =>
      simp only [updE] at h
      by_cases e : t = d
      · subst e
        rw [if_pos rfl] at h
        rw [Act.get_put_same a t v (by rw [g.size]; exact hd t rfl)]
        exact hr av h
      · rw [if_neg e] at h
        rw [Act.get_put_ne a d t v e]
        exact (g.env t av h).step p.tr
  hp := by rw [p.hp, g.hp]
  new k hk := p.fresh k (g.new k (Nat.le_trans hn hk)) fun h => by have := hfr k h; omega
  le := Nat.le_trans g.le hn
  size := by rw [Act.size_put, g.size]
  defers := by rw [Act.defers_put, g.defers]
  glob := g.glob.step g.ok0 p.tr
theorem Gm.skip {C : Cx} {E : Env} {H : Hp} {nx : Nat} {s : Sg} {w : World} {a : Act} {d : Option Nat}
    (g : Gm C E H nx s w a) (hd : ∀ x, d = some x → x < C.N) : Gm C (updE E d (some (.tup []))) H nx s w (a.put d undef) :=
  { g with
    env := fun t av h => by
      cases d with
      | none => exact g.env t av h
      | some d =>
        simp only [updE] at h
        by_cases e : t = d
        · subst e
          rw [if_pos rfl] at h
          cases h
          rw [Act.get_put_same a t undef (by rw [g.size]; exact hd t rfl)]
          exact .tup rfl (by simp)
        · rw [if_neg e] at h
          rw [Act.get_put_ne a d t undef e]
          exact g.env t av h
    size := by rw [Act.size_put, g.size]
    defers := by rw [Act.defers_put, g.defers] }
def dstOk (N : Nat) (o : Oper) : Bool := match o.dst with
  | some d => decide (d < N)
  | none => true
theorem dstOk_spec {N : Nat} {o : Oper} (h : dstOk N o = true) : ∀ x, o.dst = some x → x < N := by
  intro x hx
  unfold dstOk at h
  rw [hx] at h
  exact of_decide_eq_true h
def ASeq (P : Program) (C : Cx) (ops : Array Oper) (l : List Oper) (E : Env) (H : Hp) (nx : Nat) (K : Env → Hp → Nat → Prop) : Prop :=
  ∀ Q s w a, Gm C E H nx s w a → (∀ E' H' nx' s' w' a', K E' H' nx' → Gm C E' H' nx' s' w' a' → Q .normal a' w') → wpList P ops Q l a w
section
variable {P : Program} {C : Cx} {ops : Array Oper} {l : List Oper} {E : Env} {H : Hp} {nx : Nat} {K : Env → Hp → Nat → Prop}
theorem ASeq.nil (h : K E H nx) : ASeq P C ops [] E H nx K := fun _ _ _ _ g k => k _ _ _ _ _ _ h g
theorem ASeq.cons {o : Oper} {fr : List Nat} {res : Option AV} {U : List (Nat × Option Blk)} (nx' : Nat) (hg : o.guard = none)
    (ho : AOp P o E H fr res U) (hd : dstOk C.N o = true) (hn : nx ≤ nx') (hfr : ∀ k, k ∈ fr → nx ≤ k ∧ k < nx')
    (h : ASeq P C ops l (updE E o.dst res) (updH H U) nx' K) : ASeq P C ops (o :: l) E H nx K := by
  intro Q s w a g k
  refine wpList_plain hg fun K' hK' => ?_
  refine ho s w a K' Q g.ok g.env (fun k B hB => by rw [g.hp]; exact hB) (fun k hk => g.new k (hfr k hk).1) fun v s' w' p hr => hK' _ _ ?_
  exact h Q s' w' _ (g.put (dstOk_spec hd) hn (fun k hk => (hfr k hk).2) p hr) k
theorem yielded_of {j t : Nat} {b : Bool} {s : Sg} {w : World} {a : Act} (g : Gm C E H nx s w a) (ho : (ops[j]?).bind (·.dst) = some t) (hE : E t = some (.lit (.bool b))) :
    yielded ops a.tmps j = some b := by
  have h := g.env t _ hE
  have hv : a.tmps.getD t undef = .bool b := by
    generalize a.tmps.getD t undef = v at h
    cases h with
    | rep h => cases h; rfl
  have ht : a.tmps[t]? = some (.bool b) := by
    cases he : a.tmps[t]? with
    | none => simp [he, undef] at hv
    | some x => simp [he] at hv; rw [hv]
  simp [yielded, ho, ht]
theorem ASeq.cons_yes {o : Oper} {fr : List Nat} {res : Option AV} {U : List (Nat × Option Blk)} (nx' : Nat) {j t : Nat} {b : Bool} (hg : o.guard = some (j, b))
    (hj : (ops[j]?).bind (·.dst) = some t) (hE : E t = some (.lit (.bool b)))
    (ho : AOp P o E H fr res U) (hd : dstOk C.N o = true) (hn : nx ≤ nx') (hfr : ∀ k, k ∈ fr → nx ≤ k ∧ k < nx')
    (h : ASeq P C ops l (updE E o.dst res) (updH H U) nx' K) : ASeq P C ops (o :: l) E H nx K := by
  intro Q s w a g k
  refine wpList_step fun K' hK' => ?_
  have hw : Region.wanted o (yielded ops a.tmps) = true := by simp [Region.wanted, hg, yielded_of g hj hE]
  rw [if_pos hw]
  refine ho s w a K' Q g.ok g.env (fun k B hB => by rw [g.hp]; exact hB) (fun k hk => g.new k (hfr k hk).1) fun v s' w' p hr => hK' _ _ ?_
  exact h Q s' w' _ (g.put (dstOk_spec hd) hn (fun k hk => (hfr k hk).2) p hr) k
theorem ASeq.cons_no {o : Oper} {j t : Nat} {b : Bool} (hg : o.guard = some (j, !b))
    (hj : (ops[j]?).bind (·.dst) = some t) (hE : E t = some (.lit (.bool b))) (hd : dstOk C.N o = true)
    (h : ASeq P C ops l (updE E o.dst (some (.tup []))) H nx K) : ASeq P C ops (o :: l) E H nx K := by
  intro Q s w a g k
  refine wpList_step fun K' hK' => ?_
  have hw : ¬ Region.wanted o (yielded ops a.tmps) = true := by simp [Region.wanted, hg, yielded_of g hj hE]
  rw [if_neg hw]
  exact hK' _ _ (h Q s w _ (g.skip (dstOk_spec hd)) k)
theorem yielded_none {j t : Nat} {s : Sg} {w : World} {a : Act} (g : Gm C E H nx s w a) (ho : (ops[j]?).bind (·.dst) = some t) (hE : E t = some (.tup [])) : yielded ops a.tmps j = none := by
  have h := g.env t _ hE
  have hv : a.tmps.getD t undef = .tuple #[] := by
    generalize a.tmps.getD t undef = v at h
    cases h with
    | rep h => cases h
    | @tup _ vs hl _ =>
      have : vs = #[] := by apply Array.eq_empty_of_size_eq_zero; simpa using hl.symm
      rw [this]
  simp only [yielded, ho, Option.bind_some]
  cases he : a.tmps[t]? with
  | none => rfl
  | some x =>
    have : x = .tuple #[] := by simpa [he] using hv
    subst this
    rfl
theorem ASeq.cons_unasked {o : Oper} {j t : Nat} {b : Bool} (hg : o.guard = some (j, b)) (hj : (ops[j]?).bind (·.dst) = some t)
    (hE : E t = some (.tup [])) (hd : dstOk C.N o = true)
    (h : ASeq P C ops l (updE E o.dst (some (.tup []))) H nx K) : ASeq P C ops (o :: l) E H nx K := by
  intro Q s w a g k
  refine wpList_step fun K' hK' => ?_
  have hw : ¬ Region.wanted o (yielded ops a.tmps) = true := by simp [Region.wanted, hg, yielded_none g hj hE]
  rw [if_neg hw]
  exact hK' _ _ (h Q s w _ (g.skip (dstOk_spec hd)) k)
end
abbrev APost := Exit → Env → Hp → Nat → Prop
def AWP (P : Program) (C : Cx) (c : Code) (Q : APost) (E : Env) (H : Hp) (nx : Nat) : Prop :=
  ∀ s w a, Gm C E H nx s w a → c.wp P (fun e a' w' => ∃ s' E' H' nx', Gm C E' H' nx' s' w' a' ∧ Q e E' H' nx') a w
def APost.then (K : Env → Hp → Nat → Prop) (Q : APost) : APost
  | .normal => K
  | e => Q e
def APost.inBlock (id : Nat) (Q : APost) : APost
  | .exit id' => if id' = id then Q .normal else Q (.exit id')
  | e => Q e
section
variable {P : Program} {C : Cx} {Q : APost} {E : Env} {H : Hp} {nx : Nat}
theorem AWP.region {id : Nat} {l : List Oper} (h : ASeq P C l.toArray l E H nx (Q .normal)) : AWP P C (.region id l.toArray false) Q E H nx :=
  fun s w a g => wp_region_lit (h _ s w a g fun E' H' nx' s' w' _ hK g' => ⟨s', E', H', nx', g', hK⟩)
theorem AWP.seq {x y : Code} (h : AWP P C x (APost.then (AWP P C y Q) Q) E H nx) : AWP P C (.seq x y) Q E H nx := by
  intro s w a g
  refine wp_seq (Go.wp_mono (h s w a g) ?_)
  rintro e a' w1 ⟨s', E', H', nx', g', hq⟩
  cases e with
  | normal => exact hq s' w1 a' g'
  | _ => exact ⟨s', E', H', nx', g', hq⟩
theorem AWP.skip (h : Q .normal E H nx) : AWP P C .skip Q E H nx := fun s _ _ g => wp_skip ⟨s, E, H, nx, g, h⟩
theorem AWP.exit {id : Nat} (h : Q (.exit id) E H nx) : AWP P C (.exit id) Q E H nx := fun s _ _ g => wp_exit ⟨s, E, H, nx, g, h⟩
theorem AWP.ret (h : Q .ret E H nx) : AWP P C .ret Q E H nx := fun s _ _ g => wp_ret ⟨s, E, H, nx, g, h⟩
theorem AWP.block {id : Nat} {c : Code} (h : AWP P C c (APost.inBlock id Q) E H nx) : AWP P C (.block id c) Q E H nx := by
  intro s w a g
  refine wp_block (Go.wp_mono (h s w a g) ?_)
  rintro e a' w' ⟨s', E', H', nx', g', hq⟩
  cases e with
  | exit id' =>
    simp only [Exit.inBlock]
    simp only [APost.inBlock] at hq
    split at hq
    · rename_i e; rw [if_pos e]; exact ⟨s', E', H', nx', g', hq⟩
    · rename_i e; rw [if_neg e]; exact ⟨s', E', H', nx', g', hq⟩
  | _ => exact ⟨s', E', H', nx', g', hq⟩
def evO (E : Env) : Operand → Option AV
  | .tmp t => E t
  | .const v => if v.oneCell' then some (.lit v) else match v with
    | .agg xs => if xs.toList.all (·.oneCell') then some (.agg (xs.toList.map .lit)) else none
    | _ => none
  | .func f => some (.fn f [])
  | .global _ => none
theorem evO_rel {E : Env} {s : Sg} {w : World} {a : Act} (h : ∀ t av, E t = some av → Rel s w av (a.tmps.getD t undef)) {x : Operand} {av : AV} (hx : evO E x = some av) : Rel s w av (a.eval x) := by
  cases x with
  | tmp t => exact h t av hx
  | const v =>
    simp only [evO] at hx
    split at hx
    · cases hx; exact .rep (.lit ‹_›)
    · split at hx
      · rename_i xs _
        split at hx
        · rename_i hall
          cases hx
          refine .agg (by simp) fun i av v h1 h2 => ?_
          simp only [List.getElem?_map, Option.map_eq_some_iff] at h1
          obtain ⟨u, hu, rfl⟩ := h1
          have : u = v := by
            have h3 : xs[i]? = some u := by simpa using hu
            rw [h2] at h3; cases h3; rfl
          subst this
          exact .rep (.lit (List.all_eq_true.1 hall u (List.mem_of_getElem? hu)))
        · cases hx
      · cases hx
  | func f => simp only [evO] at hx; cases hx; exact .fn rfl (by simp)
  | global g => cases hx
theorem Rel.lit_eq {s : Sg} {w : World} {v u : Value} (h : Rel s w (.lit v) u) : u = v := by
  cases h with
  | rep h => cases h; rfl
theorem AWP.cond {c : Operand} {x y : Code} {t : Bool} (hc : evO E c = some (.lit (.bool t))) (ht : t = true → AWP P C x Q E H nx) (hf : t = false → AWP P C y Q E H nx) :
    AWP P C (.cond c x y) Q E H nx := by
  intro s w a g
  exact wp_cond_split (Rel.lit_eq (evO_rel g.env hc)) (fun h => ht h s w a g) (fun h => hf h s w a g)
def ALe (C : Cx) (E : Env) (H : Hp) (nx : Nat) (E' : Env) (H' : Hp) (nx' : Nat) : Prop :=
  ∀ s w a, Gm C E H nx s w a → ∃ s', Gm C E' H' nx' s' w a
theorem ALe.refl : ALe C E H nx E H nx := fun s _ _ g => ⟨s, g⟩
theorem ALe.trans {E1 E2 : Env} {H1 H2 : Hp} {n1 n2 : Nat} (h : ALe C E H nx E1 H1 n1) (h' : ALe C E1 H1 n1 E2 H2 n2) : ALe C E H nx E2 H2 n2 :=
  fun s w a g => by obtain ⟨s1, g1⟩ := h s w a g; exact h' s1 w a g1
theorem AWP.weaken {c : Code} {E' : Env} {H' : Hp} {nx' : Nat} (h : ALe C E H nx E' H' nx') (h' : AWP P C c Q E' H' nx') : AWP P C c Q E H nx :=
  fun s w a g => by obtain ⟨s1, g1⟩ := h s w a g; exact h' s1 w a g1
theorem AWP.mono {c : Code} {Q' : APost} (h : AWP P C c Q' E H nx) (hq : ∀ e E H nx, Q' e E H nx → Q e E H nx) : AWP P C c Q E H nx :=
  fun s w a g => Go.wp_mono (h s w a g) fun _ _ _ ⟨s', E', H', nx', g', q⟩ => ⟨s', E', H', nx', g', hq _ _ _ _ q⟩
theorem exists_least (R : Nat → Prop) (h : ∃ k, R k) : ∃ k, R k ∧ ∀ j, R j → k ≤ j := by
  obtain ⟨k, hk⟩ := h
  induction k using Nat.strongRecOn with
  | _ k ih =>
    by_cases hl : ∃ j, j < k ∧ R j
    · obtain ⟨j, hj, hr⟩ := hl
      exact ih j hj hr
    · exact ⟨k, hk, fun j hj => Nat.le_of_not_lt fun hlt => hl ⟨j, hlt, hj⟩⟩
theorem AWP.loop {c : Code} {G : Type} (Ei : G → Env) (Hi : G → Hp) (ni : G → Nat) (m : G → Nat) (g0 : G) (h0 : ALe C E H nx (Ei g0) (Hi g0) (ni g0))
    (round : ∀ g, AWP P C c (APost.then (fun E' H' nx' => ∃ g', m g' < m g ∧ ALe C E' H' nx' (Ei g') (Hi g') (ni g')) Q) (Ei g) (Hi g) (ni g)) : AWP P C (.loop c) Q E H nx := by
  intro s w a g
  classical
  obtain ⟨s0, g0'⟩ := h0 s w a g
  let I : Act → World → Prop := fun a w => ∃ x s, Gm C (Ei x) (Hi x) (ni x) s w a
  let R : Act → World → Nat → Prop := fun a w k => ∃ x s, Gm C (Ei x) (Hi x) (ni x) s w a ∧ m x = k
  let μ : Act → World → Nat := fun a w => if h : ∃ k, R a w k then Classical.choose (exists_least _ h) else 0
  refine wp_loop I μ ⟨g0, s0, g0'⟩ ?_
  rintro a w hI
  have hex : ∃ k, R a w k := by obtain ⟨x, s, h⟩ := hI; exact ⟨m x, x, s, h, rfl⟩
  obtain ⟨x, s, hx, hm⟩ := (Classical.choose_spec (exists_least _ hex)).1
  have hμ : μ a w = m x := by simp only [μ, dif_pos hex]; exact hm.symm
  refine Go.wp_mono (round x s w a hx) ?_
  rintro e a' w' ⟨s', E', H', nx', g', hq⟩
  cases e with
  | normal =>
    obtain ⟨y, hlt, hle⟩ := hq
    obtain ⟨s2, g2⟩ := hle s' w' a' g'
    refine ⟨⟨y, s2, g2⟩, ?_⟩
    have hex' : ∃ k, R a' w' k := ⟨m y, y, s2, g2, rfl⟩
    have : μ a' w' ≤ m y := by simp only [μ, dif_pos hex']; exact (Classical.choose_spec (exists_least _ hex')).2 _ ⟨y, s2, g2, rfl⟩
    omega
  | _ => exact ⟨s', E', H', nx', g', hq⟩
end
end Go.Abs
namespace Go.Abs
theorem Tr.refl (s : Sg) (w : World) : Tr s w s w where
  M := rfl
  n0 := rfl
  rho _ _ h := h
  size := Nat.le_refl _
  os := rfl
  tape := rfl
  output := rfl
  keep _ _ _ := rfl
  own k _ h h' := .inl ⟨k, h, h'⟩
  dead _ _ h := h
  arr _ fresh _ els h := .inr ⟨fresh, els, h, Nat.le_refl _, fun _ cs ty fz _ h => ⟨cs, ty, fz, h, rfl⟩⟩
theorem Post.refl {s : Sg} {w : World} (ok : OK s w) : Post s w [] [] s w := ⟨Tr.refl s w, ok, rfl, fun _ h _ => h⟩
section
variable {P : Program} {o : Oper} {E : Env} {H : Hp}
theorem AOp.value {fr : List Nat} {res : Option AV} {U : List (Nat × Option Blk)}
    (h : ∀ (s : Sg) (w : World) (a : Act), OK s w → (∀ t av, E t = some av → Rel s w av (a.tmps.getD t undef)) → (∀ k B, H k = some B → s.hp k = some B) → (∀ k, k ∈ fr → s.ρ k = none) →
      ∃ v s' w', (execOp a.eval o).run P w = .ok (.value v) w' ∧ Post s w fr U s' w' ∧ ∀ av, res = some av → Rel s' w' av v) : AOp P o E H fr res U := by
  intro s w a K Q ok hE hH hfr k
  obtain ⟨v, s', w', hr, hp, hres⟩ := h s w a ok hE hH hfr
  unfold Oper.wp
  rw [hr]
  exact k v s' w' hp hres
theorem AOp.skip {fr : List Nat} {U : List (Nat × Option Blk)}
    (h : ∀ (s : Sg) (w : World) (a : Act), OK s w → (∀ t av, E t = some av → Rel s w av (a.tmps.getD t undef)) → (∀ k B, H k = some B → s.hp k = some B) → (∀ k, k ∈ fr → s.ρ k = none) →
      ∃ s' w', (execOp a.eval o).run P w = .ok .skip w' ∧ Post s w fr U s' w') : AOp P o E H fr none U := by
  intro s w a K Q ok hE hH hfr k
  obtain ⟨s', w', hr, hp⟩ := h s w a ok hE hH hfr
  unfold Oper.wp
  rw [hr]
  show K (a.put o.dst undef) w'
  exact k undef s' w' hp (by simp)
theorem AOp.reads {res : AV}
    (h : ∀ (s : Sg) (w : World) (a : Act), OK s w → (∀ t av, E t = some av → Rel s w av (a.tmps.getD t undef)) → (∀ k B, H k = some B → s.hp k = some B) →
      ∃ v, (execOp a.eval o).run P w = .ok (.value v) w ∧ Rel s w res v) : AOp P o E H [] (some res) [] :=
  AOp.value fun s w a ok hE hH _ => by
    obtain ⟨v, hr, hv⟩ := h s w a ok hE hH
    exact ⟨v, s, w, hr, Post.refl ok, fun av e => by cases e; exact hv⟩
theorem AOp.move {x : Operand} {av : AV} (ho : o.op = .move x) (hx : evO E x = some av) : AOp P o E H [] (some av) [] :=
  AOp.reads fun s w a _ hE _ => ⟨a.eval x, by simp [execOp, ho], evO_rel hE hx⟩
theorem AOp.assign {x : Operand} {av : AV} (ho : o.op = .assign x) (hx : evO E x = some av) : AOp P o E H [] (some av) [] :=
  AOp.reads fun s w a _ hE _ => ⟨a.eval x, by simp [execOp, ho], evO_rel hE hx⟩
theorem AOp.pick {c x y : Operand} {b : Bool} {av : AV} (ho : o.op = .pick c x y) (hc : evO E c = some (.lit (.bool b))) (hx : (if b then evO E x else evO E y) = some av) : AOp P o E H [] (some av) [] :=
  AOp.reads fun s w a _ hE _ => by
    have h1 := Rel.lit_eq (evO_rel hE hc)
    cases b with
    | true => exact ⟨a.eval x, by simp [execOp, ho, h1, asBool], evO_rel hE hx⟩
    | false => exact ⟨a.eval y, by simp [execOp, ho, h1, asBool], evO_rel hE hx⟩
theorem AOp.bin {op : BinOp} {t u : TypeId} {x y : Operand} {p q r : Value} (ho : o.op = .binOp op t x y u) (hx : evO E x = some (.lit p)) (hy : evO E y = some (.lit q))
    (hr : ∀ w : World, (do eqGuard op t x y p q; binOp op t p q : Sem Value).run P w = .ok r w) (h1 : r.oneCell' = true) : AOp P o E H [] (some (.lit r)) [] :=
  AOp.reads fun s w a _ hE _ => by
    have e1 := Rel.lit_eq (evO_rel hE hx)
    have e2 := Rel.lit_eq (evO_rel hE hy)
    refine ⟨r, ?_, .rep (.lit h1)⟩
    simp only [execOp, ho, e1, e2]
    rw [Sem.run_bind, hr w]
    rfl
theorem AOp.iadd {t u : TypeId} {x y : Operand} {k : IntKind} {p q r : Int} (ho : o.op = .binOp .add t x y u) (hx : evO E x = some (.lit (.int k p))) (hy : evO E y = some (.lit (.int k q)))
    (hr : k.wrap (p + q) = r) : AOp P o E H [] (some (.lit (.int k r))) [] :=
  AOp.bin ho hx hy (fun w => by rw [eqGuard_add, binOp_add]; simp [Op.intArith, hr]) rfl
theorem AOp.isub {t u : TypeId} {x y : Operand} {k : IntKind} {p q r : Int} (ho : o.op = .binOp .sub t x y u) (hx : evO E x = some (.lit (.int k p))) (hy : evO E y = some (.lit (.int k q)))
    (hr : k.wrap (p - q) = r) : AOp P o E H [] (some (.lit (.int k r))) [] :=
  AOp.bin ho hx hy (fun w => by rw [eqGuard_sub, binOp_sub]; simp [Op.intArith, hr]) rfl
theorem AOp.imul {t u : TypeId} {x y : Operand} {k : IntKind} {p q r : Int} (ho : o.op = .binOp .mul t x y u) (hx : evO E x = some (.lit (.int k p))) (hy : evO E y = some (.lit (.int k q)))
    (hr : k.wrap (p * q) = r) : AOp P o E H [] (some (.lit (.int k r))) [] :=
  AOp.bin ho hx hy (fun w => by rw [eqGuard_mul, binOp_mul]; simp [Op.intArith, hr]) rfl
theorem AOp.ilss {t u : TypeId} {x y : Operand} {k : IntKind} {p q : Int} (ho : o.op = .binOp .lss t x y u) (hx : evO E x = some (.lit (.int k p))) (hy : evO E y = some (.lit (.int k q))) : AOp P o E H [] (some (.lit (.bool (decide (p < q))))) [] :=
  AOp.bin ho hx hy (fun w => by rw [eqGuard_lss, binOp_lss]; simp) rfl
theorem AOp.ileq {t u : TypeId} {x y : Operand} {k : IntKind} {p q : Int} (ho : o.op = .binOp .leq t x y u) (hx : evO E x = some (.lit (.int k p))) (hy : evO E y = some (.lit (.int k q))) : AOp P o E H [] (some (.lit (.bool (decide (p ≤ q))))) [] :=
  AOp.bin ho hx hy (fun w => by rw [eqGuard_leq, binOp_leq]; simp) rfl
theorem AOp.igtr {t u : TypeId} {x y : Operand} {k : IntKind} {p q : Int} (ho : o.op = .binOp .gtr t x y u) (hx : evO E x = some (.lit (.int k p))) (hy : evO E y = some (.lit (.int k q))) : AOp P o E H [] (some (.lit (.bool (decide (q < p))))) [] :=
  AOp.bin ho hx hy (fun w => by rw [eqGuard_gtr, binOp_gtr]; simp) rfl
theorem AOp.igeq {t u : TypeId} {x y : Operand} {k : IntKind} {p q : Int} (ho : o.op = .binOp .geq t x y u) (hx : evO E x = some (.lit (.int k p))) (hy : evO E y = some (.lit (.int k q))) : AOp P o E H [] (some (.lit (.bool (decide (q ≤ p))))) [] :=
  AOp.bin ho hx hy (fun w => by rw [eqGuard_geq, binOp_geq]; simp) rfl
theorem AOp.ieql {t u : TypeId} {x y : Operand} {k : IntKind} {p q : Int} (ho : o.op = .binOp .eql t x y u) (hx : evO E x = some (.lit (.int k p))) (hy : evO E y = some (.lit (.int k q))) : AOp P o E H [] (some (.lit (.bool (decide (p = q))))) [] :=
  AOp.bin ho hx hy (fun w => by rw [eqGuard_at_int, binOp_eql]; simp [BEq.beq]) rfl
theorem AOp.ineq {t u : TypeId} {x y : Operand} {k : IntKind} {p q : Int} (ho : o.op = .binOp .neq t x y u) (hx : evO E x = some (.lit (.int k p))) (hy : evO E y = some (.lit (.int k q))) : AOp P o E H [] (some (.lit (.bool (!decide (p = q))))) [] :=
  AOp.bin ho hx hy (fun w => by rw [eqGuard_at_int, binOp_neq]; simp [bne, BEq.beq]) rfl
theorem AOp.iany {op : BinOp} {t u : TypeId} {x y : Operand} {k k' k'' : IntKind} {p q r : Int} (ho : o.op = .binOp op t x y u) (hx : evO E x = some (.lit (.int k p))) (hy : evO E y = some (.lit (.int k' q)))
    (hr : binOp op t (.int k p) (.int k' q) = pure (.int k'' r)) : AOp P o E H [] (some (.lit (.int k'' r))) [] :=
  AOp.bin ho hx hy (fun w => by rw [eqGuard_at_int, hr]; simp) rfl
theorem AOp.sadd {t u : TypeId} {x y : Operand} {p q : ByteArray} (ho : o.op = .binOp .add t x y u) (hx : evO E x = some (.lit (.string p))) (hy : evO E y = some (.lit (.string q)))
    (hl : p.size + q.size ≤ 9223372036854775807) : AOp P o E H [] (some (.lit (.string (p ++ q)))) [] :=
  AOp.bin ho hx hy (fun w => by
    have : ¬ (((p.size + q.size : Nat) : Int) > IntKind.i64.max) := by rw [IntKind.max_i64]; omega
    rw [eqGuard_add]
    simp only [binOp, Op.stringOp, if_neg this]
    rfl) rfl
theorem bytes_eq (p q : ByteArray) : (p.toList == q.toList) = decide (p = q) := by
  by_cases h : p = q
  · subst h; simp
  · have : p.toList ≠ q.toList := fun e => h (by
      apply ByteArray.ext
      apply Array.ext'
      rw [← ByteArray.toList_eq, ← ByteArray.toList_eq]
      exact e)
    simp [h, this]
theorem AOp.seql {t u : TypeId} {x y : Operand} {p q : ByteArray} (ho : o.op = .binOp .eql t x y u) (hx : evO E x = some (.lit (.string p))) (hy : evO E y = some (.lit (.string q))) : AOp P o E H [] (some (.lit (.bool (decide (p = q))))) [] :=
  AOp.bin ho hx hy (fun w => by rw [eqGuard_at_string]; simp only [binOp, Op.stringOp, bytes_eq]; rfl) rfl
theorem AOp.sneq {t u : TypeId} {x y : Operand} {p q : ByteArray} (ho : o.op = .binOp .neq t x y u) (hx : evO E x = some (.lit (.string p))) (hy : evO E y = some (.lit (.string q))) : AOp P o E H [] (some (.lit (.bool (!decide (p = q))))) [] :=
  AOp.bin ho hx hy (fun w => by rw [eqGuard_at_string]; simp only [binOp, Op.stringOp, bytes_eq]; rfl) rfl
theorem AOp.bneq {t u : TypeId} {x y : Operand} {p q : Bool} (ht : P.underlying t = some .bool) (ho : o.op = .binOp .neq t x y u) (hx : evO E x = some (.lit (.bool p))) (hy : evO E y = some (.lit (.bool q))) : AOp P o E H [] (some (.lit (.bool (!(p == q))))) [] :=
  AOp.bin ho hx hy (fun w => by rw [eqGuard_at_bool]; simp [binOp, run_equal_bool _ _ _ _ ht]) rfl
theorem AOp.not {t : TypeId} {x : Operand} {p : Bool} (ho : o.op = .unOp .not t x) (hx : evO E x = some (.lit (.bool p))) : AOp P o E H [] (some (.lit (.bool (!p)))) [] :=
  AOp.reads fun s w a _ hE _ => ⟨.bool !p, by simp [execOp, ho, Rel.lit_eq (evO_rel hE hx), Op.unary], .rep (.lit rfl)⟩
theorem AOp.neg {t : TypeId} {x : Operand} {k : IntKind} {p r : Int} (ho : o.op = .unOp .neg t x) (hx : evO E x = some (.lit (.int k p))) (hr : k.wrap (0 - p) = r) : AOp P o E H [] (some (.lit (.int k r))) [] :=
  AOp.reads fun s w a _ hE _ => ⟨.int k r, by simp only [execOp, ho, Rel.lit_eq (evO_rel hE hx), Op.unary, Op.intArith, hr]; rfl, .rep (.lit rfl)⟩
theorem AOp.cint {src dst : TypeId} {x : Operand} {k k' : IntKind} {p r : Int} (hs : (P.underlying src).isSome = true) (hd : P.underlying dst = some (.int k')) (ho : o.op = .convert src dst x) (hx : evO E x = some (.lit (.int k p)))
    (hr : k'.wrap p = r) : AOp P o E H [] (some (.lit (.int k' r))) [] :=
  AOp.reads fun s w a _ hE _ => ⟨.int k' r, by
    obtain ⟨d, hd'⟩ := Option.isSome_iff_exists.1 hs
    simp only [execOp, ho, Rel.lit_eq (evO_rel hE hx), convert]
    simp [run_underlying hd', run_underlying hd, Conv.intToInt, hr], .rep (.lit rfl)⟩
theorem AOp.extract {x : Operand} {xs : List AV} {i : Nat} {av : AV} (ho : o.op = .extract x i) (hx : evO E x = some (.tup xs)) (hi : xs[i]? = some av) : AOp P o E H [] (some av) [] :=
  AOp.reads fun s w a _ hE _ => by
    have h := evO_rel hE hx
    generalize hv : a.eval x = u at h
    cases h with
    | rep h => cases h
    | tup hl h =>
      rename_i vs
      have hlt : i < xs.length := (List.getElem?_eq_some_iff.1 hi).1
      have hg : vs[i]? = some (vs[i]'(by omega)) := Array.getElem?_eq_getElem _
      refine ⟨vs[i]'(by omega), ?_, h i av _ hi hg⟩
      simp [execOp, ho, hv, Instr.extract, hg]
theorem addr_add (b o n : Nat) : (⟨b, o, none⟩ : Addr).add n = ⟨b, o + n, none⟩ := Addr.add_lit b o n
def fieldOff (P : Program) (t : TypeId) (i : Nat) : Option Nat :=
  match P.underlying t with
  | some (.struct fs) => match fs[i]? with
    | some f => match P.info? f.type with
      | some inf => if inf.size = 0 then none else some f.offset
      | none => none
    | none => none
  | _ => none
theorem run_fieldAt {t : TypeId} {i off : Nat} (h : fieldOff P t i = some off) (b e : Nat) (w : World) :
    (Instr.fieldAt t (.pointer (some ⟨b, e, none⟩)) i).run P w = .ok (.pointer (some ⟨b, e + off, none⟩)) w := by
  unfold fieldOff at h
  split at h
  · rename_i fs hu
    split at h
    · rename_i f hf
      split at h
      · rename_i inf hi
        split at h
        · cases h
        · rename_i hz
          cases h
          simp [Instr.fieldAt, run_underlying hu, hf, Instr.sureAddr, fieldPlace, sizeOf, typeInfo, hi, hz, addr_add]
      · cases h
    · cases h
  · cases h
theorem AOp.faddr {t : TypeId} {x : Operand} {i off k esz e j : Nat} (hf : fieldOff P t i = some off) (ho : o.op = .fieldAddr t x i) (hx : evO E x = some (.ptr k esz e j)) : AOp P o E H [] (some (.ptr k esz e (j + off))) [] :=
  AOp.reads fun s w a _ hE _ => by
    have h := evO_rel hE hx
    generalize hv : a.eval x = u at h
    cases h with
    | rep h => cases h
    | ptr h => exact ⟨_, by simp only [execOp, ho, hv, Sem.run_bind, run_fieldAt hf]; rfl, by rw [Nat.add_assoc]; exact .ptr h⟩
theorem AOp.faddr_rp {t : TypeId} {x : Operand} {i off j : Nat} {xs : List AV} (hf : fieldOff P t i = some off) (ho : o.op = .fieldAddr t x i) (hx : evO E x = some (.rp xs j)) : AOp P o E H [] (some (.rp xs (j + off))) [] :=
  AOp.reads fun s w a _ hE _ => by
    have h := evO_rel hE hx
    generalize hv : a.eval x = u at h
    cases h with
    | rep h =>
      cases h with
      | rp c hF hb hc hr => exact ⟨_, by simp only [execOp, ho, hv, Sem.run_bind, run_fieldAt hf]; rfl, by rw [Nat.add_assoc]; exact .rep (.rp c hF hb hc hr)⟩
theorem AOp.faddr_fr {t : TypeId} {x : Operand} {i off j : Nat} {xs : List AV} (hf : fieldOff P t i = some off) (ho : o.op = .fieldAddr t x i) (hx : evO E x = some (.fr (.rp xs j))) : AOp P o E H [] (some (.fr (.rp xs (j + off)))) [] :=
  AOp.reads fun s w a _ hE _ => by
    have h := evO_rel hE hx
    generalize hv : a.eval x = u at h
    cases h with
    | rep h => cases h
    | fr h =>
      cases h with
      | rp c hF hb hc hr => exact ⟨_, by simp only [execOp, ho, hv, Sem.run_bind, run_fieldAt hf]; rfl, by rw [Nat.add_assoc]; exact .fr (.rp c hF hb hc hr)⟩
def AV.there : AV → Bool
  | .ptr .. => true
  | .rp .. => true
  | .fr (.rp ..) => true
  | _ => false
theorem AOp.nilCheck {x : Operand} {av : AV} (ho : o.op = .nilCheck x) (hx : evO E x = some av) (hn : av.there = true) : AOp P o E H [] (some av) [] :=
  AOp.reads fun s w a _ hE _ => by
    have h := evO_rel hE hx
    generalize hv : a.eval x = u at h
    have hh := h
    cases h with
    | ptr h => exact ⟨_, by simp [execOp, ho, hv], hh⟩
    | rep h =>
      cases h with
      | rp => exact ⟨_, by simp [execOp, ho, hv], hh⟩
      | _ => cases hn
    | fr h =>
      cases h with
      | rp => exact ⟨_, by simp [execOp, ho, hv], hh⟩
      | _ => cases hn
    | _ => cases hn
theorem run_indexAt_in {t el : TypeId} {size : Nat} (ht : P.underlying t = some (.slice el)) (hs : (P.info? el).map (·.size) = some size) (b off n cap : Nat) (k : IntKind) (j : Nat) (hj : j < n) (w : World) :
    (Instr.indexAt t (.slice (some ⟨b, off, none⟩) n cap) (.int k (j : Int))).run P w = .ok (.pointer (some ⟨b, off + j * size, none⟩)) w := by
  obtain ⟨i, hi, rfl⟩ := Option.map_eq_some_iff.1 hs
  simp [Instr.indexAt, asIntOf, run_underlying ht, sizeOf, typeInfo, hi, addr_add, hj]
theorem AOp.iaddr_sl {t el : TypeId} {x y : Operand} {k esz off n j : Nat} {i : Int} {kd : IntKind} (ht : P.underlying t = some (.slice el)) (hs : (P.info? el).map (·.size) = some esz)
    (ho : o.op = .indexAddr t x y) (hx : evO E x = some (.sl k esz off n)) (hy : evO E y = some (.lit (.int kd i))) (hi : i = (j : Int)) (hj : j < n) (hk : H k ≠ none) : AOp P o E H [] (some (.ptr k esz (off + j) 0)) [] :=
  AOp.reads fun s w a _ hE hH => by
    have h := evO_rel hE hx
    have e2 := Rel.lit_eq (evO_rel hE hy)
    generalize hv : a.eval x = u at h
    subst hi
    cases h with
    | rep h => cases h
    | slg hr hp =>
      cases hB : H k with
      | none => exact absurd hB hk
      | some B => rw [hH k B hB] at hp; cases hp
    | @sl _ _ _ _ b cap fr els cs ty fz hr hp hle hb hn hc hsz =>
      refine ⟨.pointer (some ⟨b, off * esz + j * esz, none⟩), ?_, ?_⟩
      · simp only [execOp, ho, hv, e2, Sem.run_bind, run_indexAt_in ht hs b _ n cap kd j hj]; rfl
      · rw [← Nat.add_mul]; exact .ptr hr
    | sln h => omega
theorem AOp.iaddr_ro {t el : TypeId} {x y : Operand} {esz j : Nat} {xs : List (List AV)} {row : List AV} {i : Int} {kd : IntKind} (ht : P.underlying t = some (.slice el)) (hs : (P.info? el).map (·.size) = some esz)
    (ho : o.op = .indexAddr t x y) (hx : evO E x = some (.ro esz xs)) (hy : evO E y = some (.lit (.int kd i))) (hi : i = (j : Int)) (hj : xs[j]? = some row) : AOp P o E H [] (some (.rp row 0)) [] :=
  AOp.reads fun s w a _ hE hH => by
    have h := evO_rel hE hx
    have e2 := Rel.lit_eq (evO_rel hE hy)
    generalize hv : a.eval x = u at h
    subst hi
    have hlt : j < xs.length := (List.getElem?_eq_some_iff.1 hj).1
    cases h with
    | rep h =>
      cases h with
      | nil => simp at hlt
      | @ro _ _ b off cap c hF hb hn hc hrow hcell hrep =>
        refine ⟨.pointer (some ⟨b, off + j * esz, none⟩), ?_, ?_⟩
        · simp only [execOp, ho, hv, e2, Sem.run_bind, run_indexAt_in ht hs b _ xs.length cap kd j hlt]; rfl
        · exact .rep (.rp (o := 0) (off := off + j * esz) (c j) hF hb (fun i av hi => by rw [Nat.add_assoc]; exact hcell j row i av hj hi) (fun i av hi => hrep j row i av hj hi))
theorem AOp.iaddr_fr {t el : TypeId} {x y : Operand} {esz j : Nat} {xs : List (List AV)} {row : List AV} {i : Int} {kd : IntKind} (ht : P.underlying t = some (.slice el)) (hs : (P.info? el).map (·.size) = some esz)
    (ho : o.op = .indexAddr t x y) (hx : evO E x = some (.fr (.ro esz xs))) (hy : evO E y = some (.lit (.int kd i))) (hi : i = (j : Int)) (hj : xs[j]? = some row) : AOp P o E H [] (some (.fr (.rp row 0))) [] :=
  AOp.reads fun s w a _ hE hH => by
    have h := evO_rel hE hx
    have e2 := Rel.lit_eq (evO_rel hE hy)
    generalize hv : a.eval x = u at h
    subst hi
    have hlt : j < xs.length := (List.getElem?_eq_some_iff.1 hj).1
    cases h with
    | rep h => cases h
    | fr h =>
      cases h with
      | nil => simp at hlt
      | @ro _ _ b off cap c hF hb hn hc hrow hcell hrep =>
        refine ⟨.pointer (some ⟨b, off + j * esz, none⟩), ?_, ?_⟩
        · simp only [execOp, ho, hv, e2, Sem.run_bind, run_indexAt_in ht hs b _ xs.length cap kd j hlt]; rfl
        · exact .fr (.rp (o := 0) (off := off + j * esz) (c j) hF hb (fun i av hi => by rw [Nat.add_assoc]; exact hcell j row i av hj hi) (fun i av hi => hrep j row i av hj hi))
theorem AOp.iaddr_arr {t el : TypeId} {x y : Operand} {k size len j off : Nat} {i : Int} {kd : IntKind} (ht : P.underlying t = some (.array len el)) (hs : (P.info? el).map (·.size) = some size)
    (ho : o.op = .indexAddr t x y) (hx : evO E x = some (.ptr k 0 0 off)) (hy : evO E y = some (.lit (.int kd i))) (hi : i = (j : Int)) (hj : j < len) : AOp P o E H [] (some (.ptr k 0 0 (off + j * size))) [] :=
  AOp.reads fun s w a _ hE hH => by
    have h := evO_rel hE hx
    have e2 := Rel.lit_eq (evO_rel hE hy)
    generalize hv : a.eval x = u at h
    subst hi
    obtain ⟨inf, hi, rfl⟩ := Option.map_eq_some_iff.1 hs
    cases h with
    | rep h => cases h
    | ptr h =>
      rename_i b
      refine ⟨.pointer (some ⟨b, 0 * 0 + off + j * inf.size, none⟩), ?_, ?_⟩
      · simp [execOp, ho, hv, e2, Instr.indexAt, asIntOf, run_underlying ht, sizeOf, typeInfo, hi, addr_add, hj, Instr.sureAddr]
      · rw [Nat.add_assoc]; exact .ptr h
def isAggT (P : Program) (t : TypeId) : Option Bool :=
  match P.underlying t with
  | some (.struct _) | some (.array _ _) => some true
  | some _ => some false
  | none => none
theorem run_isAgg {t : TypeId} {b : Bool} (h : isAggT P t = some b) (w : World) : (isAgg t).run P w = .ok b w := by
  unfold isAggT at h
  split at h
  · rename_i hu; cases h; simp [isAgg, run_underlying hu]
  · rename_i hu; cases h; simp [isAgg, run_underlying hu]
  · rename_i d hs ha hu
    cases h
    unfold isAgg
    rw [Sem.run_bind, run_underlying hu]
    cases d <;> first | rfl | exact absurd rfl (hs _ ‹_›) | exact absurd rfl (ha _ _ ‹_›) | (exfalso; simp_all)
  · cases h
theorem run_loadVar_one {t : TypeId} (h : isAggT P t = some false) {w : World} {a : Addr} {v : Value} (hc : w.cell? a = some v) : (loadVar t a).run P w = .ok v w := by
  simp [loadVar, run_isAgg h, hc]
theorem run_loadVar_agg {t : TypeId} (h : isAggT P t = some true) {size : Nat} (hs : (P.info? t).map (·.size) = some size) {w : World} {b off : Nat} (vs : List Value) (hl : vs.length = size)
    (hc : ∀ j v, vs[j]? = some v → w.cell? ⟨b, off + j, none⟩ = some v) : (loadVar t ⟨b, off, none⟩).run P w = .ok (.agg vs.toArray) w := by
  obtain ⟨i, hi, rfl⟩ := Option.map_eq_some_iff.1 hs
  have hh := run_loadCells_list (P := P) w ⟨b, off, none⟩ vs (fun j v hv => by rw [addr_add]; exact hc j v hv)
  rw [hl] at hh
  simp [loadVar, run_isAgg h, sizeOf, typeInfo, hi, hh]
theorem AOp.load1 {t : TypeId} {x : Operand} {k off : Nat} {cells : List AV} {av : AV} (ha : isAggT P t = some false) (ho : o.op = .load t x) (hx : evO E x = some (.ptr k 0 0 off)) (hH : H k = some (.box cells)) (hi : cells[off]? = some av) :
    AOp P o E H [] (some av) [] :=
  AOp.reads fun s w a ok hE hH' => by
    have h := evO_rel hE hx
    generalize hv : a.eval x = u at h
    cases h with
    | rep h => cases h
    | ptr h =>
      rename_i b
      obtain ⟨y, hy, b', cs, ty, rfl, hb, hl, hr⟩ := ok.blk k _ (hH' k _ hH)
      rw [h] at hy
      cases hy
      have hlt : off < cells.length := (List.getElem?_eq_some_iff.1 hi).1
      have hg : cs[off]? = some (cs[off]'(by omega)) := Array.getElem?_eq_getElem _
      refine ⟨cs[off]'(by omega), ?_, hr off av _ hi hg⟩
      have hc : w.cell? ⟨b, 0 * 0 + off, none⟩ = some (cs[off]'(by omega)) := by rw [cell_of_row w b _ cs ty (0, 0) hb, Nat.zero_mul, Nat.zero_add]; exact hg
      simp only [execOp, ho, hv, Instr.loadAt, Instr.sureAddr, Sem.run_bind, Sem.run_pure, Result.andThen_ok, run_loadVar_one ha hc]
theorem AOp.loadN {t : TypeId} {x : Operand} {k off size : Nat} {cells : List AV} (ha : isAggT P t = some true) (hs : (P.info? t).map (·.size) = some size) (ho : o.op = .load t x) (hx : evO E x = some (.ptr k 0 0 off)) (hH : H k = some (.box cells))
    (hi : off + size ≤ cells.length) : AOp P o E H [] (some (.agg ((cells.drop off).take size))) [] :=
  AOp.reads fun s w a ok hE hH' => by
    have h := evO_rel hE hx
    generalize hv : a.eval x = u at h
    cases h with
    | rep h => cases h
    | ptr h =>
      rename_i b
      obtain ⟨y, hy, b', cs, ty, rfl, hb, hl, hr⟩ := ok.blk k _ (hH' k _ hH)
      rw [h] at hy
      cases hy
      have hrun := run_loadVar_agg (P := P) (b := b) (off := 0 * 0 + off) (w := w) ha hs ((cs.toList.drop off).take size) (by simp; omega) (fun j v hv => by
        rw [cell_of_row w b _ cs ty (0, 0) hb]
        simp only [List.getElem?_take, List.getElem?_drop] at hv
        split at hv
        · simpa using hv
        · cases hv)
      refine ⟨.agg ((cs.toList.drop off).take size).toArray, by simp only [execOp, ho, hv, Instr.loadAt, Instr.sureAddr, Sem.run_bind, Sem.run_pure, Result.andThen_ok, hrun], .agg (by simp; omega) fun i av v h1 h2 => ?_⟩
      simp only [List.getElem?_take, List.getElem?_drop] at h1
      simp only [List.getElem?_toArray, List.getElem?_take, List.getElem?_drop] at h2
      split at h1
      · rename_i hlt
        rw [if_pos hlt] at h2
        exact hr _ av v h1 (by simpa using h2)
      · cases h1
theorem rep_row {F : Nat → Prop} {w : World} {xs : List AV} {j : Nat} {p : Value} (h : Rep F w (.rp xs j) p) : ∃ (b off : Nat) (c : Nat → Value), p = .pointer (some ⟨b, off + j, none⟩) ∧ ¬ F b ∧
    (∀ (i : Nat) (av : AV), xs[i]? = some av → w.cell? ⟨b, off + i, none⟩ = some (c i)) ∧ ∀ (i : Nat) (av : AV), xs[i]? = some av → Rep F w av (c i) := by
  cases h with
  | rp c hF hb hc hr => exact ⟨_, _, c, rfl, hF, hc, hr⟩
theorem load_row1 {F : Nat → Prop} {w : World} {xs : List AV} {j : Nat} {p : Value} {av : AV} {t : TypeId} (ha : isAggT P t = some false) (h : Rep F w (.rp xs j) p) (hi : xs[j]? = some av) :
    ∃ v, (Instr.loadAt t p).run P w = .ok v w ∧ Rep F w av v := by
  obtain ⟨b, off, c, rfl, _, hc, hr⟩ := rep_row h
  exact ⟨c j, by simp [Instr.loadAt, Instr.sureAddr, run_loadVar_one ha (hc j av hi)], hr j av hi⟩
theorem load_rowN {F : Nat → Prop} {w : World} {xs : List AV} {j size : Nat} {p : Value} {t : TypeId} (ha : isAggT P t = some true) (hs : (P.info? t).map (·.size) = some size) (h : Rep F w (.rp xs j) p) (hi : j + size ≤ xs.length) :
    ∃ vs : Array Value, (Instr.loadAt t p).run P w = .ok (.agg vs) w ∧ vs.size = size ∧ ∀ (i : Nat) (av : AV) (v : Value), ((xs.drop j).take size)[i]? = some av → vs[i]? = some v → Rep F w av v := by
  obtain ⟨b, off, c, rfl, _, hc, hr⟩ := rep_row h
  have hrun := run_loadVar_agg (P := P) (b := b) (off := off + j) (w := w) ha hs ((List.range size).map fun i => c (j + i)) (by simp) (fun i v hv => by
    simp only [List.getElem?_map, Option.map_eq_some_iff, List.getElem?_range'] at hv
    obtain ⟨i', h1, rfl⟩ := hv
    obtain ⟨h2, h3⟩ := List.getElem?_eq_some_iff.1 h1
    simp at h2 h3
    subst h3
    rw [Nat.add_assoc]
    exact hc (j + i) _ (List.getElem?_eq_getElem (by omega)))
  refine ⟨((List.range size).map fun i => c (j + i)).toArray, by simp only [Instr.loadAt, Instr.sureAddr, Sem.run_bind, Sem.run_pure, Result.andThen_ok, hrun], by simp, fun i av v h1 h2 => ?_⟩
  simp only [List.getElem?_take, List.getElem?_drop] at h1
  split at h1
  · rename_i hlt
    have : v = c (j + i) := by
      simp only [List.getElem?_toArray, List.getElem?_map, Option.map_eq_some_iff] at h2
      obtain ⟨i', h3, rfl⟩ := h2
      obtain ⟨h4, h5⟩ := List.getElem?_eq_some_iff.1 h3
      simp at h5
      rw [h5]
    subst this
    exact hr _ av h1
  · cases h1
theorem AOp.rload1 {t : TypeId} {x : Operand} {j : Nat} {xs : List AV} {av : AV} (ha : isAggT P t = some false) (ho : o.op = .load t x) (hx : evO E x = some (.rp xs j)) (hi : xs[j]? = some av) : AOp P o E H [] (some av) [] :=
  AOp.reads fun s w a _ hE _ => by
    have h := evO_rel hE hx
    generalize hv : a.eval x = u at h
    cases h with
    | rep h =>
      obtain ⟨v, hrun, hrep⟩ := load_row1 ha h hi
      exact ⟨v, by simp only [execOp, ho, hv, Sem.run_bind, hrun]; rfl, .rep hrep⟩
theorem AOp.rloadN {t : TypeId} {x : Operand} {j size : Nat} {xs : List AV} (ha : isAggT P t = some true) (hs : (P.info? t).map (·.size) = some size) (ho : o.op = .load t x) (hx : evO E x = some (.rp xs j)) (hi : j + size ≤ xs.length) :
    AOp P o E H [] (some (.agg ((xs.drop j).take size))) [] :=
  AOp.reads fun s w a _ hE _ => by
    have h := evO_rel hE hx
    generalize hv : a.eval x = u at h
    cases h with
    | rep h =>
      obtain ⟨vs, hrun, hsz, hrep⟩ := load_rowN ha hs h hi
      exact ⟨.agg vs, by simp only [execOp, ho, hv, Sem.run_bind, hrun]; rfl, .agg (by simp [hsz]; omega) fun i av v h1 h2 => .rep (hrep i av v h1 h2)⟩
theorem AOp.fload1 {t : TypeId} {x : Operand} {j : Nat} {xs : List AV} {av : AV} (ha : isAggT P t = some false) (ho : o.op = .load t x) (hx : evO E x = some (.fr (.rp xs j))) (hi : xs[j]? = some av) : AOp P o E H [] (some (.fr av)) [] :=
  AOp.reads fun s w a _ hE _ => by
    have h := evO_rel hE hx
    generalize hv : a.eval x = u at h
    cases h with
    | rep h => cases h
    | fr h =>
      obtain ⟨v, hrun, hrep⟩ := load_row1 ha h hi
      exact ⟨v, by simp only [execOp, ho, hv, Sem.run_bind, hrun]; rfl, .fr hrep⟩
theorem AOp.floadN {t : TypeId} {x : Operand} {j size : Nat} {xs : List AV} (ha : isAggT P t = some true) (hs : (P.info? t).map (·.size) = some size) (ho : o.op = .load t x) (hx : evO E x = some (.fr (.rp xs j))) (hi : j + size ≤ xs.length) :
    AOp P o E H [] (some (.agg (((xs.drop j).take size).map .fr))) [] :=
  AOp.reads fun s w a _ hE _ => by
    have h := evO_rel hE hx
    generalize hv : a.eval x = u at h
    cases h with
    | rep h => cases h
    | fr h =>
      obtain ⟨vs, hrun, hsz, hrep⟩ := load_rowN ha hs h hi
      refine ⟨.agg vs, by simp only [execOp, ho, hv, Sem.run_bind, hrun]; rfl, .agg (by simp [hsz]; omega) fun i av v h1 h2 => ?_⟩
      rw [List.getElem?_map, Option.map_eq_some_iff] at h1
      obtain ⟨x, hx, rfl⟩ := h1
      exact .fr (hrep i x v hx h2)
theorem own_row {s : Sg} {w : World} (ok : OK s w) {k esz e : Nat} {fresh : Bool} {els : List (List AV)} {row : List AV} (hk : s.hp k = some (.arr fresh esz els)) (he : els[e]? = some row) {j b : Nat} (hb : s.ρ k = some (some b)) :
    ∃ cs ty, w.heap[b]? = some (.cells cs ty (0, 0)) ∧ row.length = esz ∧ els.length * esz ≤ cs.size ∧ ∀ (i : Nat) (av : AV), row[i]? = some av → ∃ v, cs[e * esz + i]? = some v ∧ Rep (if fresh then s.old else s.mut) w av v := by
  obtain ⟨y, hy, hok⟩ := ok.blk k _ hk
  rw [hb] at hy
  cases hy
  rcases hok with ⟨h, _⟩ | ⟨b', cs, ty, e1, h1, h2, h3, h4⟩
  · cases h
  · cases e1
    exact ⟨cs, ty, h1, h3 e row he, h2, fun i av hi => h4 e row i av he hi⟩
def AV.as (fresh : Bool) (x : AV) : AV := if fresh then .fr x else x
theorem rel_as {s : Sg} {w : World} {fresh : Bool} {x : AV} {v : Value} (h : Rep (if fresh then s.old else s.mut) w x v) : Rel s w (x.as fresh) v := by
  cases fresh
  · exact .rep h
  · exact .fr h
theorem AOp.aload1 {t : TypeId} {x : Operand} {k esz e j : Nat} {fresh : Bool} {els : List (List AV)} {row : List AV} {av : AV} (ha : isAggT P t = some false) (ho : o.op = .load t x) (hx : evO E x = some (.ptr k esz e j)) (hH : H k = some (.arr fresh esz els))
    (he : els[e]? = some row) (hi : row[j]? = some av) : AOp P o E H [] (some (av.as fresh)) [] :=
  AOp.reads fun s w a ok hE hH' => by
    have h := evO_rel hE hx
    generalize hv : a.eval x = u at h
    cases h with
    | rep h => cases h
    | ptr h =>
      rename_i b
      obtain ⟨cs, ty, h1, _, _, h4⟩ := own_row (j := j) ok (hH' k _ hH) he h
      obtain ⟨v, hc, hrep⟩ := h4 j av hi
      refine ⟨v, ?_, rel_as hrep⟩
      have hcell : w.cell? ⟨b, e * esz + j, none⟩ = some v := by rw [cell_of_row w b _ cs ty (0, 0) h1]; exact hc
      simp only [execOp, ho, hv, Instr.loadAt, Instr.sureAddr, Sem.run_bind, Sem.run_pure, Result.andThen_ok, run_loadVar_one ha hcell]
theorem AOp.aloadN {t : TypeId} {x : Operand} {k esz e j size : Nat} {fresh : Bool} {els : List (List AV)} {row : List AV} (ha : isAggT P t = some true) (hs : (P.info? t).map (·.size) = some size) (ho : o.op = .load t x) (hx : evO E x = some (.ptr k esz e j))
    (hH : H k = some (.arr fresh esz els)) (he : els[e]? = some row) (hi : j + size ≤ row.length) : AOp P o E H [] (some (.agg (((row.drop j).take size).map (·.as fresh)))) [] :=
  AOp.reads fun s w a ok hE hH' => by
    have h := evO_rel hE hx
    generalize hv : a.eval x = u at h
    cases h with
    | rep h => cases h
    | ptr h =>
      rename_i b
      obtain ⟨cs, ty, h1, hrl, hle, h4⟩ := own_row (j := j) ok (hH' k _ hH) he h
      have hlt : e < els.length := (List.getElem?_eq_some_iff.1 he).1
      have hee : e * esz + esz ≤ els.length * esz := by rw [← Nat.succ_mul]; exact Nat.mul_le_mul_right _ hlt
      have hrun := run_loadVar_agg (P := P) (b := b) (off := e * esz + j) (w := w) ha hs ((cs.toList.drop (e * esz + j)).take size) (by simp; omega) (fun i v hv => by
        rw [cell_of_row w b _ cs ty (0, 0) h1]
        simp only [List.getElem?_take, List.getElem?_drop] at hv
        split at hv
        · simpa using hv
        · cases hv)
      refine ⟨.agg ((cs.toList.drop (e * esz + j)).take size).toArray, by simp only [execOp, ho, hv, Instr.loadAt, Instr.sureAddr, Sem.run_bind, Sem.run_pure, Result.andThen_ok, hrun], .agg (by simp; omega) fun i av v h1 h2 => ?_⟩
      simp only [List.getElem?_map, Option.map_eq_some_iff, List.getElem?_take, List.getElem?_drop] at h1
      simp only [List.getElem?_toArray, List.getElem?_take, List.getElem?_drop] at h2
      obtain ⟨y, hy, rfl⟩ := h1
      split at hy
      · rename_i hlt
        rw [if_pos hlt] at h2
        obtain ⟨v', hc, hrep⟩ := h4 _ y hy
        have : v = v' := by
          have h2' : cs[e * esz + (j + i)]? = some v := by rw [← Nat.add_assoc]; simpa using h2
          rw [h2'] at hc; cases hc; rfl
        subst this
        exact rel_as hrep
      · cases hy
theorem AOp.len_str {t ty : TypeId} {x : Operand} {p : ByteArray} (ht : P.underlying t = some .string) (hty : o.type = ty) (ho : o.op = .call { callee := .builtin .len, args := #[x], argTypes := #[t] }) (hx : evO E x = some (.lit (.string p))) :
    AOp P o E H [] (some (.lit (.int .i64 p.size))) [] :=
  AOp.reads fun s w a _ hE _ => ⟨.int .i64 p.size, by
    have e := Rel.lit_eq (evO_rel hE hx)
    simp [execOp, ho, resolve, invoke, builtin, Builtin.len_, e, run_underlying ht, goInt], .rep (.lit rfl)⟩
theorem AOp.len_sl {t el : TypeId} {x : Operand} {k esz off n : Nat} (ht : P.underlying t = some (.slice el)) (ho : o.op = .call { callee := .builtin .len, args := #[x], argTypes := #[t] }) (hx : evO E x = some (.sl k esz off n)) (hk : H k ≠ none) :
    AOp P o E H [] (some (.lit (.int .i64 n))) [] :=
  AOp.reads fun s w a _ hE hH => ⟨.int .i64 n, by
    have h := evO_rel hE hx
    generalize hv : a.eval x = u at h
    cases h with
    | rep h => cases h
    | slg hr hp =>
      cases hB : H k with
      | none => exact absurd hB hk
      | some B => rw [hH k B hB] at hp; cases hp
    | sl => simp [execOp, ho, resolve, invoke, builtin, Builtin.len_, hv, run_underlying ht, goInt]
    | sln => simp [execOp, ho, resolve, invoke, builtin, Builtin.len_, hv, run_underlying ht, goInt], .rep (.lit rfl)⟩
theorem AOp.len_ro {t el : TypeId} {x : Operand} {esz : Nat} {xs : List (List AV)} {n : Nat} (ht : P.underlying t = some (.slice el)) (ho : o.op = .call { callee := .builtin .len, args := #[x], argTypes := #[t] }) (hx : evO E x = some (.ro esz xs) ∨ evO E x = some (.fr (.ro esz xs))) (hn : xs.length = n) :
    AOp P o E H [] (some (.lit (.int .i64 n))) [] :=
  AOp.reads fun s w a _ hE hH => ⟨.int .i64 n, by
    have hrep : ∃ F, Rep F w (.ro esz xs) (a.eval x) := by
      rcases hx with hx | hx
      · have h := evO_rel hE hx
        cases h with
        | rep h => exact ⟨_, h⟩
      · have h := evO_rel hE hx
        cases h with
        | rep h => cases h
        | fr h => exact ⟨_, h⟩
    obtain ⟨F, h⟩ := hrep
    generalize hv : a.eval x = u at h
    cases h with
    | nil => subst hn; simp [execOp, ho, resolve, invoke, builtin, Builtin.len_, hv, run_underlying ht, goInt]
    | ro => simp [execOp, ho, resolve, invoke, builtin, Builtin.len_, hv, run_underlying ht, goInt, hn], .rep (.lit rfl)⟩
theorem AOp.sindex {t : TypeId} {x y : Operand} {p : ByteArray} {i : Int} {kd : IntKind} {j : Nat} (ht : P.underlying t = some .string) (ho : o.op = .index t x y) (hx : evO E x = some (.lit (.string p))) (hy : evO E y = some (.lit (.int kd i)))
    (hi : i = (j : Int)) (hj : j < p.size) : AOp P o E H [] (some (.lit (.int .u8 (p[j]'hj).toNat))) [] :=
  AOp.reads fun s w a _ hE _ => ⟨.int .u8 (p[j]'hj).toNat, by
    have e1 := Rel.lit_eq (evO_rel hE hx)
    have e2 := Rel.lit_eq (evO_rel hE hy)
    subst hi
    have hg : p[j]? = some (p[j]'hj) := getElem?_pos p j hj
    simp [execOp, ho, e1, e2, Instr.index, asIntOf, run_underlying ht, hg], .rep (.lit rfl)⟩
theorem AOp.sslice {t : TypeId} {x : Operand} {lo hi : Option Operand} {p : ByteArray} {i j : Nat} (ht : P.underlying t = some .string) (ho : o.op = .slice t x lo hi none) (hx : evO E x = some (.lit (.string p)))
    (hlo : match lo with | none => i = 0 | some y => ∃ (kd : IntKind) (z : Int), evO E y = some (.lit (.int kd z)) ∧ z = (i : Int))
    (hhi : match hi with | none => j = p.size | some y => ∃ (kd : IntKind) (z : Int), evO E y = some (.lit (.int kd z)) ∧ z = (j : Int)) (hij : i ≤ j) (hj : j ≤ p.size) :
    AOp P o E H [] (some (.lit (.string (p.extract i j)))) [] :=
  AOp.reads fun s w a _ hE _ => ⟨.string (p.extract i j), by
    have e1 := Rel.lit_eq (evO_rel hE hx)
    cases lo with
    | none =>
      simp only at hlo
      subst hlo
      cases hi with
      | none =>
        simp only at hhi
        subst hhi
        simp [execOp, ho, e1, Instr.sliceAt, run_underlying ht, Instr.slice, Instr.sliceBounds]
      | some y =>
        obtain ⟨kd, z, h1, rfl⟩ := hhi
        have e2 := Rel.lit_eq (evO_rel hE h1)
        simp [execOp, ho, e1, e2, Instr.sliceAt, run_underlying ht, Instr.slice, Instr.sliceBounds, Instr.sliceBound, asIntOf, hj]
    | some u =>
      obtain ⟨kd', z', h1', rfl⟩ := hlo
      have e3 := Rel.lit_eq (evO_rel hE h1')
      cases hi with
      | none =>
        simp only at hhi
        subst hhi
        simp [execOp, ho, e1, e3, Instr.sliceAt, run_underlying ht, Instr.slice, Instr.sliceBounds, Instr.sliceBound, asIntOf, hij]
      | some y =>
        obtain ⟨kd, z, h1, rfl⟩ := hhi
        have e2 := Rel.lit_eq (evO_rel hE h1)
        simp [execOp, ho, e1, e2, e3, Instr.sliceAt, run_underlying ht, Instr.slice, Instr.sliceBounds, Instr.sliceBound, asIntOf, hj, hij], .rep (.lit rfl)⟩
end
end Go.Abs
namespace Go.Abs
def Sg.with (s : Sg) (k : Nat) (x : Option Nat) (U : List (Nat × Option Blk)) : Sg :=
  { s with ρ := fun t => if t = k then some x else s.ρ t, hp := updH s.hp U }
theorem OK.hp_none {s : Sg} {w : World} (ok : OK s w) {k : Nat} (h : s.ρ k = none) : s.hp k = none := by
  cases hB : s.hp k with
  | none => rfl
  | some B =>
    obtain ⟨x, hx, _⟩ := ok.blk k B hB
    rw [h] at hx; cases hx
theorem lkU_one {k t : Nat} {x : Option Blk} : lkU [(k, x)] t = if t = k then some x else none := rfl
theorem updH_one (H : Hp) (k : Nat) (x : Option Blk) (t : Nat) : updH H [(k, x)] t = if t = k then x else H t := by
  simp only [updH, lkU_one]
  by_cases h : t = k <;> simp [h]
theorem updH_two (H : Hp) (k k' : Nat) (x x' : Option Blk) (t : Nat) : updH H [(k, x), (k', x')] t = if t = k then x else if t = k' then x' else H t := by
  simp only [updH, lkU]
  by_cases h : t = k
  · simp [h]
  · simp only [if_neg h]
    by_cases h' : t = k'
    · simp only [if_pos h']
    · simp only [if_neg h']
theorem alloc_old (w : World) (o : Obj) (i : Nat) (h : i < w.heap.size) : (w.alloc o).heap[i]? = w.heap[i]? := by
  show (w.heap.push o)[i]? = w.heap[i]?
  rw [Array.getElem?_push, if_neg (Nat.ne_of_lt h)]
theorem alloc_new (w : World) (o : Obj) : (w.alloc o).heap[w.heap.size]? = some o := by
  show (w.heap.push o)[w.heap.size]? = some o
  simp
theorem Post.new {s : Sg} {w w0 : World} (ok : OK s w) {k : Nat} (hk : s.ρ k = none) (B : Blk) (ob : Obj) (hw : w0.heap = w.heap) (ho : w0.os = w.os) (ht : w0.tape = w.tape) (hu : w0.output = w.output)
    (hB : ∀ s' w', Tr s w s' w' → w'.heap[w.heap.size]? = some ob → BOK s' w' (some w.heap.size) B) :
    Post s w [k] [(k, some B)] (s.with k (some w.heap.size) [(k, some B)]) (w0.alloc ob) := by
  have hhp : ∀ t, (s.with k (some w.heap.size) [(k, some B)]).hp t = if t = k then some B else s.hp t := fun t => updH_one s.hp k (some B) t
  have hrho : ∀ t, (s.with k (some w.heap.size) [(k, some B)]).ρ t = if t = k then some (some w.heap.size) else s.ρ t := fun _ => rfl
  have hold : ∀ b, b < w.heap.size → (w0.alloc ob).heap[b]? = w.heap[b]? := fun b hb => (alloc_old w0 ob b (by rw [hw]; exact hb)).trans (by rw [hw])
  have hnew : (w0.alloc ob).heap[w.heap.size]? = some ob := by rw [← hw]; exact alloc_new w0 ob
  have hsz : (w0.alloc ob).heap.size = w.heap.size + 1 := by rw [World.size_alloc, hw]
  have tr : Tr s w (s.with k (some w.heap.size) [(k, some B)]) (w0.alloc ob) :=
    { M := rfl
      n0 := rfl
      rho := fun t x h => by rw [hrho, if_neg (by rintro rfl; rw [hk] at h; cases h)]; exact h
      size := by rw [hsz]; omega
      os := ho
      tape := ht
      output := hu
      keep := fun b hb _ => hold b hb
      own := fun t b h h' => by
        rw [hhp] at h
        rw [hrho] at h'
        by_cases e : t = k
        · rw [if_pos e] at h'; cases h'; exact .inr (Nat.le_refl _)
        · rw [if_neg e] at h h'; exact .inl ⟨t, h, h'⟩
      dead := fun t h h' => by rw [hhp, if_neg (by rintro rfl; exact h hk)]; exact h'
      arr := fun t fresh esz els h => by
        have hne : t ≠ k := by rintro rfl; rw [ok.hp_none hk] at h; cases h
        refine .inr ⟨fresh, els, by rw [hhp, if_neg hne]; exact h, Nat.le_refl _, fun b cs ty fz hb hc => ⟨cs, ty, fz, ?_, rfl⟩⟩
        rw [hold b (Array.getElem?_eq_some_iff.1 hc).1]; exact hc }
  refine ⟨tr, ok.step tr ?_ ?_, rfl, fun t h hn => ?_⟩
  · intro t B' hB'
    rw [hhp] at hB'
    by_cases e : t = k
    · subst e
      rw [if_pos rfl] at hB'
      cases hB'
      exact .inr ⟨some w.heap.size, by rw [hrho, if_pos rfl], hB _ _ tr hnew⟩
    · rw [if_neg e] at hB'
      exact .inl ⟨hB', fun b hb => hold b (ok.lt (by rw [hB']; simp) hb)⟩
  · intro t t' b h h' hr hr'
    rw [hhp] at h h'
    rw [hrho] at hr hr'
    by_cases e : t = k
    · by_cases e' : t' = k
      · omega
      · rw [if_neg e'] at h' hr'
        rw [if_pos e] at hr
        cases hr
        exact absurd (ok.lt h' hr') (Nat.lt_irrefl _)
    · rw [if_neg e] at h hr
      by_cases e' : t' = k
      · rw [if_pos e'] at hr'
        cases hr'
        exact absurd (ok.lt h hr) (Nat.lt_irrefl _)
      · rw [if_neg e'] at h' hr'
        exact ok.inj t t' b h h' hr hr'
  · rw [hrho, if_neg (by simpa using hn)]; exact h
def AV.one : AV → Bool
  | .agg _ => false
  | .tup _ => false
  | _ => true
def AV.cells : AV → List AV
  | .agg xs => xs
  | x => [x]
theorem Rel.one {s : Sg} {w : World} {x : AV} {v : Value} (h : Rel s w x v) (h1 : x.one = true) : v.oneCell' = true := by
  cases h with
  | rep h => exact h.oneCell
  | fr h => exact h.oneCell
  | agg => cases h1
  | tup => cases h1
  | _ => rfl
theorem cells_one {v : Value} (h : v.oneCell' = true) : v.cells = #[v] := by
  cases v <;> first | rfl | cases h
theorem Rel.cells {s : Sg} {w : World} {x : AV} {v : Value} (h : Rel s w x v) (hx : ∀ xs, x ≠ .tup xs) : x.cells.length = v.cells.size ∧ ∀ (i : Nat) (av : AV) (u : Value), x.cells[i]? = some av → v.cells[i]? = some u → Rel s w av u := by
  by_cases h1 : x.one = true
  · have hv := h.one h1
    have hc : x.cells = [x] := by cases x <;> first | rfl | cases h1
    rw [hc, cells_one hv]
    refine ⟨rfl, fun i av u ha hu => ?_⟩
    cases i with
    | zero => simp at ha hu; subst ha; subst hu; exact h
    | succ i => simp at ha
  · cases x with
    | agg xs =>
      cases h with
      | rep h => cases h
      | agg hl h => exact ⟨hl, fun i av u ha hu => h i av u ha hu⟩
    | tup xs => exact absurd rfl (hx xs)
    | _ => exact absurd rfl h1
section
variable {P : Program} {o : Oper} {E : Env} {H : Hp}
def zeros (z : Value) : List AV := z.cells.toList.map .lit
theorem AOp.alloc {t : TypeId} {z : Value} (k : Nat) (ho : o.op = .alloc t) (hz : (P.info? t).bind (·.zero) = some z) (h1 : z.cells.toList.all (·.oneCell') = true) :
    AOp P o E H [k] (some (.ptr k 0 0 0)) [(k, some (.box (zeros z)))] :=
  AOp.value fun s w a ok _ _ hfr => by
    obtain ⟨i, hi, hz⟩ := Option.bind_eq_some_iff.1 hz
    refine ⟨.pointer (some ⟨w.heap.size, 0, none⟩), _, _, ?_, Post.new ok (hfr k (by simp)) (.box (zeros z)) (.cells z.cells t) rfl rfl rfl rfl ?_, ?_⟩
    · simp [execOp, ho, Instr.alloc, zeroValue, typeInfo, hi, hz, newVar, newRow]
    · intro s' w' _ hnew
      refine ⟨_, z.cells, t, rfl, hnew, by simp [zeros], fun i av v h2 h3 => ?_⟩
      simp only [zeros, List.getElem?_map, Array.getElem?_toList, h3, Option.map_some] at h2
      cases h2
      exact .rep (.lit (List.all_eq_true.1 h1 v (by rw [Array.mem_toList_iff]; exact Array.mem_of_getElem? h3)))
    · rintro av ⟨⟩
      exact .ptr (b := w.heap.size) (o := 0) (e := 0) (esz := 0) (by simp [Sg.with])
theorem AOp.box {t : TypeId} {x : Operand} {av : AV} (k : Nat) (ho : o.op = .box t x) (hx : evO E x = some av) (hn : ∀ xs, av ≠ .tup xs) :
    AOp P o E H [k] (some (.ptr k 0 0 0)) [(k, some (.box av.cells))] :=
  AOp.value fun s w a ok hE _ hfr => by
    have hr := evO_rel hE hx
    obtain ⟨hl, hc⟩ := hr.cells hn
    refine ⟨.pointer (some ⟨w.heap.size, 0, none⟩), _, _, ?_, Post.new ok (hfr k (by simp)) (.box av.cells) (.cells (a.eval x).cells t) rfl rfl rfl rfl ?_, ?_⟩
    · simp [execOp, ho, Instr.box, newVar, newRow]
    · intro s' w' tr hnew
      exact ⟨_, (a.eval x).cells, t, rfl, hnew, hl, fun i av v h2 h3 => (hc i av v h2 h3).step tr⟩
    · rintro av ⟨⟩
      exact .ptr (b := w.heap.size) (o := 0) (e := 0) (esz := 0) (by simp [Sg.with])
def lay (place : Nat → Option (Nat × Nat)) (cells : List AV) : List (Nat × AV) → Option (List AV)
  | [] => some cells
  | (i, x) :: rest => match place i with
    | none => none
    | some (off, size) => if x.cells.length ≠ size || off + x.cells.length > cells.length then none
      else lay place (cells.take off ++ x.cells ++ cells.drop (off + x.cells.length)) rest
theorem foldl_set (vs : List Value) : ∀ (off j : Nat) (cs : Array Value), off + (j + vs.length) ≤ cs.size →
    ((vs.zipIdx j).foldl (fun (cs : Array Value) (p : Value × Nat) => cs.setIfInBounds (off + p.2) p.1) cs).toList = cs.toList.take (off + j) ++ vs ++ cs.toList.drop (off + j + vs.length) := by
  induction vs with
  | nil => intro off j cs _; simp
  | cons v vs ih =>
    intro off j cs h
    simp only [List.zipIdx_cons, List.foldl_cons]
    simp only [List.length_cons] at h
    rw [ih off (j + 1) _ (by simp; omega)]
    have hlt : off + j < cs.toList.length := by simp; omega
    rw [Array.toList_setIfInBounds]
    apply List.ext_getElem?
    intro i
    simp only [List.getElem?_append, List.length_append, List.length_take, List.length_set, List.getElem?_take, List.getElem?_drop, List.getElem?_set, List.getElem?_cons, List.length_cons]
    have hm1 : min (off + (j + 1)) cs.toList.length = off + j + 1 := by omega
    have hm2 : min (off + j) cs.toList.length = off + j := by omega
    simp only [hm1, hm2]
    by_cases a1 : i < off + j
    · rw [if_pos (by omega), if_pos (by omega), if_pos (by omega), if_neg (by omega), if_pos (by omega), if_pos a1, if_pos a1]
    · by_cases a2 : i = off + j
      · subst a2
        rw [if_pos (by omega), if_pos (by omega), if_pos (by omega), if_pos rfl, if_pos (by omega), if_pos (by omega), if_neg (by omega), if_pos (by omega)]
      · by_cases a3 : i < off + j + 1 + vs.length
        · rw [if_pos (by omega), if_neg (by omega), if_pos (by omega), if_neg (by omega), if_neg (by omega)]
          congr 1 <;> omega
        · rw [if_neg (by omega), if_neg (by omega), if_neg (by omega)]
          congr 1 <;> omega
theorem fill_lay {s : Sg} {w : World} (place : Nat → Option (Nat × Nat)) : ∀ (ps : List (Nat × AV)) (qs : List (Nat × Value)) (cells cells' : List AV) (cs : Array Value), ps.length = qs.length →
    (∀ (j : Nat) (p : Nat × AV) (q : Nat × Value), ps[j]? = some p → qs[j]? = some q → p.1 = q.1 ∧ (∀ xs, p.2 ≠ .tup xs) ∧ Rel s w p.2 q.2) →
    cells.length = cs.size → (∀ (i : Nat) (av : AV) (v : Value), cells[i]? = some av → cs[i]? = some v → Rel s w av v) → lay place cells ps = some cells' →
    ∃ cs', Instr.fill place cs qs = some cs' ∧ cells'.length = cs'.size ∧ ∀ (i : Nat) (av : AV) (v : Value), cells'[i]? = some av → cs'[i]? = some v → Rel s w av v
  | [], [], cells, cells', cs, _, _, hl, hr, h => by cases h; exact ⟨cs, rfl, hl, hr⟩
  | [], _ :: _, _, _, _, h, _, _, _, _ => by cases h
  | _ :: _, [], _, _, _, h, _, _, _, _ => by cases h
  | (i, x) :: ps, (i', v) :: qs, cells, cells', cs, hlen, hp, hl, hr, h => by
    obtain ⟨e, hn, hx⟩ := hp 0 _ _ rfl rfl
    simp only at e hn hx
    subst e
    obtain ⟨hcl, hcr⟩ := hx.cells hn
    simp only [lay] at h
    simp only [Instr.fill]
    cases hpl : place i with
    | none => rw [hpl] at h; cases h
    | some q =>
      obtain ⟨off, size⟩ := q
      rw [hpl] at h
      simp only at h ⊢
      split at h
      · cases h
      · rename_i hc
        simp only [Bool.or_eq_true, not_or, decide_eq_true_eq, ne_eq, Decidable.not_not, gt_iff_lt, Nat.not_lt] at hc
        have hfold := foldl_set v.cells.toList off 0 cs (by rw [Array.length_toList]; omega)
        rw [if_neg (by simp only [Bool.or_eq_true, not_or, decide_eq_true_eq, ne_eq, Decidable.not_not, gt_iff_lt, Nat.not_lt]; omega)]
        have hz : v.cells.zipIdx.foldl (fun (cs : Array Value) (x : Value × Nat) => cs.setIfInBounds (off + x.2) x.1) cs = (cs.toList.take off ++ v.cells.toList ++ cs.toList.drop (off + v.cells.size)).toArray := by
          apply Array.ext'
          rw [← Array.foldl_toList]
          simp only [Nat.add_zero, Array.length_toList] at hfold
          rw [← hfold]
          congr 1
          rw [Array.toList_zipIdx]
        have := fill_lay place ps qs (cells.take off ++ x.cells ++ cells.drop (off + x.cells.length)) cells' (cs.toList.take off ++ v.cells.toList ++ cs.toList.drop (off + v.cells.size)).toArray (by simpa using hlen)
          (fun j p q h1 h2 => hp (j + 1) p q h1 h2) (by simp; omega) ?_ h
        · obtain ⟨cs', h1, h2, h3⟩ := this
          refine ⟨cs', ?_, h2, h3⟩
          rw [← h1]
          congr 1
        · intro j av u ha hu
          simp only [List.getElem?_toArray] at hu
          simp only [List.getElem?_append, List.length_append, List.length_take, List.getElem?_take, List.getElem?_drop] at ha hu
          have m1 : min off cells.length = off := by omega
          have m2 : min off cs.size = off := by omega
          simp only [m1, m2, Array.length_toList] at ha hu
          rw [hcl] at ha
          split at ha
          · rename_i h1
            rw [if_pos h1] at hu
            split at ha
            · rename_i h2
              rw [if_pos h2, if_pos h2] at hu
              exact hr j av u ha (by simpa using hu)
            · rename_i h2
              rw [if_neg h2] at hu
              exact hcr _ av u ha (by simpa using hu)
          · rename_i h1
            rw [if_neg h1] at hu
            exact hr _ av u ha (by simpa using hu)
def placesOf (P : Program) (t : TypeId) : Option (List (Nat × Nat)) :=
  match P.underlying t with
  | some (.struct fs) => fs.toList.mapM (fun f => (P.info? f.type).map fun i => (f.offset, i.size))
  | _ => none
def evParts (E : Env) : List (Nat × Operand) → Option (List (Nat × AV))
  | [] => some []
  | (i, x) :: r => match evO E x, evParts E r with
    | some av, some l => match av with
      | .tup _ => none
      | av => some ((i, av) :: l)
    | _, _ => none
theorem evParts_rel {s : Sg} {w : World} {a : Act} (hE : ∀ t av, E t = some av → Rel s w av (a.tmps.getD t undef)) : ∀ (l : List (Nat × Operand)) (ps : List (Nat × AV)), evParts E l = some ps →
    ps.length = l.length ∧ ∀ (j : Nat) (p : Nat × AV) (q : Nat × Value), ps[j]? = some p → (l.map fun (i, x) => (i, a.eval x))[j]? = some q → p.1 = q.1 ∧ (∀ xs, p.2 ≠ .tup xs) ∧ Rel s w p.2 q.2
  | [], ps, h => by cases h; exact ⟨rfl, by simp⟩
  | (i, x) :: r, ps, h => by
    simp only [evParts] at h
    split at h
    · rename_i av l h1 h2
      have ih := evParts_rel hE r l h2
      have hx := evO_rel hE h1
      cases av with
      | tup _ => cases h
      | _ =>
        cases h
        refine ⟨by simp [ih.1], fun j p q hp hq => ?_⟩
        cases j with
        | zero => simp at hp hq; subst hp; subst hq; exact ⟨rfl, by simp, hx⟩
        | succ j => exact ih.2 j p q (by simpa using hp) (by simpa using hq)
    · cases h
theorem AOp.build {t : TypeId} {parts : Array (Nat × Operand)} {z : Value} {pl : List (Nat × Nat)} {ps : List (Nat × AV)} {cells : List AV} (ho : o.op = .build t parts) (hz : (P.info? t).bind (·.zero) = some z) (h1 : z.cells.toList.all (·.oneCell') = true)
    (hpl : placesOf P t = some pl) (hp : evParts E parts.toList = some ps) (hc : lay (pl.toArray[·]?) (zeros z) ps = some cells) : AOp P o E H [] (some (.agg cells)) [] :=
  AOp.reads fun s w a _ hE _ => by
    obtain ⟨inf, hinf, hz⟩ := Option.bind_eq_some_iff.1 hz
    obtain ⟨hl, hrel⟩ := evParts_rel (a := a) hE _ _ hp
    obtain ⟨cs', h2, h3, h4⟩ := fill_lay (s := s) (w := w) (pl.toArray[·]?) ps (parts.toList.map fun (i, x) => (i, a.eval x)) (zeros z) cells z.cells (by simpa using hl) hrel (by simp [zeros]) (fun i av v h5 h6 => by
      simp only [zeros, List.getElem?_map, Array.getElem?_toList, h6, Option.map_some] at h5
      cases h5
      exact .rep (.lit (List.all_eq_true.1 h1 v (by rw [Array.mem_toList_iff]; exact Array.mem_of_getElem? h6)))) hc
    have hb : P.built t (parts.map fun (i, x) => (i, a.eval x)).toList = some cs' := by
      unfold placesOf at hpl
      unfold Program.built
      split at hpl
      · rename_i fs hu
        simp only [hinf, hu, hz, hpl, Array.toList_map]
        exact h2
      · cases hpl
    refine ⟨.agg cs', ?_, .agg h3 h4⟩
    simp only [execOp, ho, Sem.run_bind, run_build w t _ cs' hb]
    rfl
end
end Go.Abs
namespace Go.Abs
theorem Post.upd {s : Sg} {w : World} (ok : OK s w) {k b : Nat} {B B' : Blk} {cs cs' : Array Value} {ty : TypeId} (hk : s.hp k = some B) (hb : s.ρ k = some (some b)) (hc : w.heap[b]? = some (.cells cs ty (0, 0))) (hs : cs'.size = cs.size)
    (harr : ∀ f esz els, B = .arr f esz els → ∃ f' els', B' = .arr f' esz els' ∧ els.length ≤ els'.length)
    (hB : ∀ s' w', Tr s w s' w' → w'.heap[b]? = some (.cells cs' ty (0, 0)) → BOK s' w' (some b) B') :
    Post s w [] [(k, some B')] { s with hp := updH s.hp [(k, some B')] } (w.setRow b cs') := by
  have hhp : ∀ t, updH s.hp [(k, some B')] t = if t = k then some B' else s.hp t := fun t => updH_one s.hp k (some B') t
  have hother : ∀ j, j ≠ b → (w.setRow b cs').heap[j]? = w.heap[j]? := fun j hj => setRow_other w b j cs' hj
  have hsame : (w.setRow b cs').heap[b]? = some (.cells cs' ty (0, 0)) := setRow_heap w b cs cs' ty (0, 0) hc
  have hne : ∀ t, updH s.hp [(k, some B')] t ≠ none → s.hp t ≠ none := by
    intro t h
    rw [hhp] at h
    by_cases e : t = k
    · subst e; rw [hk]; simp
    · rw [if_neg e] at h; exact h
  have tr : Tr s w { s with hp := updH s.hp [(k, some B')] } (w.setRow b cs') :=
    { M := rfl
      n0 := rfl
      rho := fun _ _ h => h
      size := by rw [size_setRow]; exact Nat.le_refl _
      os := rfl
      tape := rfl
      output := rfl
      keep := fun j _ h => hother j (by rintro rfl; exact h k (by rw [hk]; simp) hb)
      own := fun t j h h' => .inl ⟨t, hne t h, h'⟩
      dead := fun t h h' => by
        show updH s.hp [(k, some B')] t = none
        rw [hhp, if_neg (by rintro rfl; rw [hk] at h'; cases h')]; exact h'
      arr := fun t fresh esz els h => by
        by_cases e : t = k
        · subst e
          rw [hk] at h
          cases h
          obtain ⟨f', els', rfl, hl⟩ := harr _ _ _ rfl
          refine .inr ⟨f', els', by show updH s.hp _ t = _; rw [hhp, if_pos rfl], hl, fun j cs1 ty1 fz1 hj hc1 => ?_⟩
          rw [hb] at hj; cases hj
          rw [hc] at hc1; cases hc1
          exact ⟨cs', ty, (0, 0), hsame, hs⟩
        · refine .inr ⟨fresh, els, by show updH s.hp _ t = _; rw [hhp, if_neg e]; exact h, Nat.le_refl _, fun j cs1 ty1 fz1 hj hc1 => ?_⟩
          have hjb : j ≠ b := by
            rintro rfl
            exact e (ok.inj t k j (by rw [h]; simp) (by rw [hk]; simp) hj hb)
          exact ⟨cs1, ty1, fz1, by rw [hother j hjb]; exact hc1, rfl⟩ }
  refine ⟨tr, ok.step tr ?_ ?_, rfl, fun t h _ => h⟩
  · intro t B2 h2
    by_cases e : t = k
    · subst e
      have : updH s.hp [(t, some B')] t = some B2 := h2
      rw [hhp, if_pos rfl] at this
      cases this
      exact .inr ⟨some b, hb, hB _ _ tr hsame⟩
    · have : updH s.hp [(k, some B')] t = some B2 := h2
      rw [hhp, if_neg e] at this
      refine .inl ⟨this, fun j hj => hother j ?_⟩
      rintro rfl
      exact e (ok.inj t k j (by rw [this]; simp) (by rw [hk]; simp) hj hb)
  · intro t t' j h h' hr hr'
    exact ok.inj t t' j (hne t h) (hne t' h') hr hr'
def splice {α : Type} (cells : List α) (off : Nat) (xs : List α) : List α := cells.take off ++ xs ++ cells.drop (off + xs.length)
theorem getElem?_splice {α : Type} (cells xs : List α) (off i : Nat) (h : off + xs.length ≤ cells.length) :
    (splice cells off xs)[i]? = if i < off then cells[i]? else if i < off + xs.length then xs[i - off]? else cells[i]? := by
  unfold splice
  simp only [List.getElem?_append, List.length_append, List.length_take, List.getElem?_take, List.getElem?_drop]
  have m : min off cells.length = off := by omega
  simp only [m]
  by_cases h1 : i < off
  · rw [if_pos (by omega), if_pos h1, if_pos h1, if_pos h1]
  · by_cases h2 : i < off + xs.length
    · rw [if_pos h2, if_neg h1, if_neg h1, if_pos h2]
    · rw [if_neg h2, if_neg h1, if_neg h2]
      congr 1; omega
theorem length_splice {α : Type} (cells xs : List α) (off : Nat) (h : off + xs.length ≤ cells.length) : (splice cells off xs).length = cells.length := by
  unfold splice; simp; omega
section
variable {P : Program} {o : Oper} {E : Env} {H : Hp}
theorem run_storeAt {t : TypeId} {b off size : Nat} {v : Value} {cs : Array Value} {ty : TypeId} {w : World} (hs : (P.info? t).map (·.size) = some size) (hv : v.cells.size = size) (h1 : ∀ u ∈ v.cells.toList, u.oneCell' = true)
    (hc : w.heap[b]? = some (.cells cs ty (0, 0))) (hl : off + size ≤ cs.size) :
    (Instr.storeAt t (.pointer (some ⟨b, off, none⟩)) v).run P w = .ok () (w.setRow b (splice cs.toList off v.cells.toList).toArray) := by
  obtain ⟨i, hi, rfl⟩ := Option.map_eq_some_iff.1 hs
  have hst := run_storeCells_at P b off ty v.cells.toList 0 cs w hc (by simp; omega) h1
  simp only [Nat.add_zero] at hst
  simp only [Instr.storeAt, Instr.sureAddr, Sem.run_bind, Sem.run_pure, Result.andThen_ok, storeVar, sizeOf, typeInfo, Sem.run_ite]
  simp [hi, hv, hst, splice]
theorem cells_all {s : Sg} {w : World} {x : AV} {v : Value} (h : Rel s w x v) (hx : x.cells.all (·.one) = true) (hn : ∀ xs, x ≠ .tup xs) : ∀ u ∈ v.cells.toList, u.oneCell' = true := by
  obtain ⟨hl, hc⟩ := h.cells hn
  intro u hu
  obtain ⟨i, hi⟩ := List.getElem?_of_mem hu
  have hlt : i < x.cells.length := by rw [hl]; have := (List.getElem?_eq_some_iff.1 hi).1; simpa using this
  have hg := List.getElem?_eq_getElem hlt
  refine (hc i _ u hg (by simpa using hi)).one ?_
  exact List.all_eq_true.1 hx _ (List.getElem_mem hlt)
theorem AOp.store {t : TypeId} {x y : Operand} {k off size : Nat} {cells : List AV} {av : AV} (hs : (P.info? t).map (·.size) = some size) (ho : o.op = .store t x y) (hx : evO E x = some (.ptr k 0 0 off)) (hy : evO E y = some av)
    (hH : H k = some (.box cells)) (hn : ∀ xs, av ≠ .tup xs) (h1 : av.cells.all (·.one) = true) (hl : av.cells.length = size) (hfit : off + size ≤ cells.length) :
    AOp P o E H [] none [(k, some (.box (splice cells off av.cells)))] :=
  AOp.skip fun s w a ok hE hH' _ => by
    have hp := evO_rel hE hx
    have hv := evO_rel hE hy
    obtain ⟨hcl, hcr⟩ := hv.cells hn
    have hone := cells_all hv h1 hn
    generalize hpe : a.eval x = p at hp
    generalize hve : a.eval y = v at hv hcl hcr hone
    cases hp with
    | rep h => cases h
    | ptr h =>
      rename_i b
      obtain ⟨z, hz, b', cs, ty, rfl, hb, hcs, hr⟩ := ok.blk k _ (hH' k _ hH)
      rw [h] at hz; cases hz
      have hrun := run_storeAt (P := P) (b := b) (off := 0 * 0 + off) (v := v) (w := w) hs (by omega) hone hb (by omega)
      refine ⟨_, _, by simp only [execOp, ho, hpe, hve, Sem.run_bind, hrun]; rfl, Post.upd ok (hH' k _ hH) h hb ?_ (by intro f esz els e; cases e) ?_⟩
      · rw [List.size_toArray, length_splice _ _ _ (by rw [Array.length_toList, Array.length_toList]; omega)]; simp
      · intro s' w' tr hnew
        refine ⟨b, _, ty, rfl, hnew, ?_, fun i av' v' h2 h3 => ?_⟩
        · rw [List.size_toArray, length_splice cells _ _ (by omega), length_splice _ _ _ (by rw [Array.length_toList, Array.length_toList]; omega)]; simpa using hcs
        · simp only [List.getElem?_toArray] at h3
          rw [getElem?_splice _ _ _ _ (by omega)] at h2
          rw [getElem?_splice _ _ _ _ (by rw [Array.length_toList, Array.length_toList]; omega)] at h3
          simp only [Nat.zero_mul, Nat.zero_add, Array.length_toList] at h3
          rw [hcl] at h2
          split at h2
          · rename_i h4
            rw [if_pos h4] at h3
            exact (hr i av' v' h2 (by simpa using h3)).step tr
          · rename_i h4
            rw [if_neg h4] at h3
            split at h2
            · rename_i h5
              rw [if_pos h5] at h3
              exact (hcr _ av' v' h2 (by simpa using h3)).step tr
            · rename_i h5
              rw [if_neg h5] at h3
              exact (hr i av' v' h2 (by simpa using h3)).step tr
def AV.bare (fresh : Bool) : AV → Option AV
  | .lit v => some (.lit v)
  | .fr x => some x
  | .ro e xs => if fresh then none else some (.ro e xs)
  | .rp xs j => if fresh then none else some (.rp xs j)
  | _ => none
def bareAll (fresh : Bool) : List AV → Option (List AV)
  | [] => some []
  | x :: r => match x.bare fresh, bareAll fresh r with
    | some y, some l => some (y :: l)
    | _, _ => none
theorem Rel.bare {s : Sg} {w : World} {fresh : Bool} {x y : AV} {v : Value} (h : Rel s w x v) (hb : x.bare fresh = some y) : Rep (if fresh then s.old else s.mut) w y v := by
  cases h with
  | rep h =>
    cases h with
    | lit h => cases hb; exact .lit h
    | nil hc =>
      simp only [AV.bare] at hb
      split at hb
      · cases hb
      · rename_i hf; cases hb; simp only [Bool.not_eq_true] at hf; subst hf; exact .nil hc
    | ro c h1 h2 h3 h4 h5 h6 h7 =>
      simp only [AV.bare] at hb
      split at hb
      · cases hb
      · rename_i hf; cases hb; simp only [Bool.not_eq_true] at hf; subst hf; exact .ro c h1 h2 h3 h4 h5 h6 h7
    | rp c h1 h2 h3 h4 =>
      simp only [AV.bare] at hb
      split at hb
      · cases hb
      · rename_i hf; cases hb; simp only [Bool.not_eq_true] at hf; subst hf; exact .rp c h1 h2 h3 h4
  | fr h =>
    cases hb
    cases fresh
    · exact h.weaken fun b _ hm => .inl hm
    · exact h
  | _ => cases hb
theorem bareAll_spec {fresh : Bool} : ∀ (xs ys : List AV), bareAll fresh xs = some ys → ys.length = xs.length ∧ ∀ (i : Nat) (y : AV), ys[i]? = some y → ∃ x, xs[i]? = some x ∧ x.bare fresh = some y
  | [], ys, h => by cases h; exact ⟨rfl, by simp⟩
  | x :: r, ys, h => by
    simp only [bareAll] at h
    split at h
    · rename_i y l h1 h2
      cases h
      obtain ⟨h3, h4⟩ := bareAll_spec r l h2
      refine ⟨by simp [h3], fun i z hz => ?_⟩
      cases i with
      | zero => simp at hz; subst hz; exact ⟨x, rfl, h1⟩
      | succ i => exact h4 i z (by simpa using hz)
    · cases h
theorem bare_one {fresh : Bool} {x y : AV} (h : x.bare fresh = some y) : x.one = true := by
  cases x <;> first | rfl | cases h
theorem AOp.astore {t : TypeId} {x y : Operand} {k esz e j size : Nat} {fresh : Bool} {els : List (List AV)} {row ys : List AV} {av : AV} (hs : (P.info? t).map (·.size) = some size) (ho : o.op = .store t x y) (hx : evO E x = some (.ptr k esz e j)) (hy : evO E y = some av)
    (hH : H k = some (.arr fresh esz els)) (he : els[e]? = some row) (hn : ∀ xs, av ≠ .tup xs) (hb : bareAll fresh av.cells = some ys) (hl : av.cells.length = size) (hfit : j + size ≤ row.length) :
    AOp P o E H [] none [(k, some (.arr fresh esz (els.set e (splice row j ys))))] :=
  AOp.skip fun s w a ok hE hH' _ => by
    have hp := evO_rel hE hx
    have hv := evO_rel hE hy
    obtain ⟨hcl, hcr⟩ := hv.cells hn
    obtain ⟨hyl, hys⟩ := bareAll_spec _ _ hb
    have hall : av.cells.all (·.one) = true := by
      rw [List.all_eq_true]
      intro u hu
      obtain ⟨i, hi⟩ := List.getElem?_of_mem hu
      have hlt : i < ys.length := by rw [hyl]; exact (List.getElem?_eq_some_iff.1 hi).1
      obtain ⟨u', hu', hb'⟩ := hys i _ (List.getElem?_eq_getElem hlt)
      rw [hi] at hu'; cases hu'
      exact bare_one hb'
    have hone := cells_all hv hall hn
    generalize hpe : a.eval x = p at hp
    generalize hve : a.eval y = v at hv hcl hcr hone
    cases hp with
    | rep h => cases h
    | ptr h =>
      rename_i b
      obtain ⟨cs, ty, hb1, hrl, hle, hrow⟩ := own_row (j := j) ok (hH' k _ hH) he h
      have hlt : e < els.length := (List.getElem?_eq_some_iff.1 he).1
      have hee : e * esz + esz ≤ els.length * esz := by rw [← Nat.succ_mul]; exact Nat.mul_le_mul_right _ hlt
      obtain ⟨z, hz, hBok⟩ := ok.blk k _ (hH' k _ hH)
      rw [h] at hz; cases hz
      have hblk : ∀ (j : Nat) (row : List AV) (i : Nat) (av : AV), els[j]? = some row → row[i]? = some av → ∃ v, cs[j * esz + i]? = some v ∧ Rep (if fresh then s.old else s.mut) w av v := by
        rcases hBok with ⟨h0, _⟩ | ⟨b', cs1, ty1, e1, h5, _, _, h8⟩
        · cases h0
        · cases e1; rw [hb1] at h5; cases h5; exact h8
      have hrows : ∀ (j : Nat) (row : List AV), els[j]? = some row → row.length = esz := by
        rcases hBok with ⟨h0, _⟩ | ⟨b', cs1, ty1, e1, h5, _, h7, _⟩
        · cases h0
        · exact h7
      have hrun := run_storeAt (P := P) (b := b) (off := e * esz + j) (v := v) (w := w) hs (by omega) hone hb1 (by omega)
      have hvl : v.cells.toList.length = ys.length := by simp; omega
      refine ⟨_, _, by simp only [execOp, ho, hpe, hve, Sem.run_bind, hrun]; rfl, Post.upd ok (hH' k _ hH) h hb1 ?_ (by intro f esz els e; cases e; exact ⟨_, _, rfl, by simp⟩) ?_⟩
      · rw [List.size_toArray, length_splice _ _ _ (by rw [Array.length_toList, Array.length_toList]; omega)]; simp
      · intro s' w' tr hnew
        refine .inr ⟨b, _, ty, rfl, hnew, ?_, ?_, ?_⟩
        · rw [List.size_toArray, length_splice _ _ _ (by rw [Array.length_toList, Array.length_toList]; omega)]; simpa using hle
        · intro i r hr
          rw [List.getElem?_set] at hr
          split at hr
          · cases hr; rw [length_splice _ _ _ (by omega)]; exact hrl
          · exact hrows i r hr
        · intro i r q u hr hu
          have hmono : ∀ {z : AV} {z' : Value}, Rep (if fresh then s.old else s.mut) w z z' → Rep (if fresh then s'.old else s'.mut) w' z z' := by
            intro z z' hz
            cases fresh
            · exact hz.mono tr.size tr.mut_keep
            · exact hz.mono tr.size tr.old_keep
          simp only [List.getElem?_toArray]
          rw [getElem?_splice _ _ _ _ (by rw [Array.length_toList, Array.length_toList]; omega)]
          rw [List.getElem?_set] at hr
          split at hr
          · rename_i hie
            cases hr
            subst hie
            rw [getElem?_splice _ _ _ _ (by omega)] at hu
            by_cases h4 : q < j
            · rw [if_pos h4] at hu
              rw [if_pos (by omega)]
              obtain ⟨v', h5, h6⟩ := hblk e row q u he hu
              exact ⟨v', by simpa using h5, hmono h6⟩
            · rw [if_neg h4] at hu
              rw [if_neg (by omega)]
              by_cases h5 : q < j + ys.length
              · rw [if_pos h5] at hu
                rw [if_pos (by omega)]
                obtain ⟨x', hx', hb'⟩ := hys _ _ hu
                have hlt' : q - j < v.cells.size := by rw [← hcl]; exact (List.getElem?_eq_some_iff.1 hx').1
                have hg : v.cells[q - j]? = some v.cells[q - j] := Array.getElem?_eq_getElem hlt'
                refine ⟨v.cells[q - j], ?_, hmono ((hcr _ x' _ hx' hg).bare hb')⟩
                rw [show e * esz + q - (e * esz + j) = q - j from by omega]
                simp
              · rw [if_neg h5] at hu
                rw [if_neg (by omega)]
                obtain ⟨v', h6, h7⟩ := hblk e row q u he hu
                exact ⟨v', by simpa using h6, hmono h7⟩
          · rename_i hie
            obtain ⟨v', h6, h7⟩ := hblk i r q u hr hu
            have hql : q < esz := by rw [← hrows i r hr]; exact (List.getElem?_eq_some_iff.1 hu).1
            refine ⟨v', ?_, hmono h7⟩
            have hne : i * esz + q < e * esz + j ∨ e * esz + j + ys.length ≤ i * esz + q := by
              rcases Nat.lt_or_gt_of_ne hie with hlt2 | hgt
              · right
                have : (e + 1) * esz ≤ i * esz := Nat.mul_le_mul_right _ hlt2
                rw [Nat.succ_mul] at this
                omega
              · left
                have : (i + 1) * esz ≤ e * esz := Nat.mul_le_mul_right _ hgt
                rw [Nat.succ_mul] at this
                omega
            rcases hne with h8 | h8
            · rw [if_pos h8]; simpa using h6
            · rw [if_neg (by omega), if_neg (by omega)]; simpa using h6
end
end Go.Abs
