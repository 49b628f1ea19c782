/- Part 1 of the proof that TopRows returns true for every input of its row (no condition beyond the row). -/
import Derived.Laws.Rows
import Derived.Laws.NewBlocks
import Derived.Laws.AppendOwn
import Derived.Orders
import Derived.WalkKit
import Derived.KernelRfl
import Derived.Great.BuildSlice
set_option linter.unusedVariables false
set_option linter.unusedSimpArgs false
set_option linter.unusedSectionVars false
set_option linter.all false
section
namespace Go.Abs

/-- a sum of named numbers -/
abbrev Lin := List (Nat × Int) × Int
/-- a piece of a string: a byte that is known, a byte that is reckoned, a string that is named -/
inductive SP where
  | b (n : Nat)
  | e (x : Lin)
  | o (a : Nat)
  deriving Inhabited
/-- what a flag says: a sum is below 0, a sum is 0, a named flag, two strings are one -/
inductive BA where
  | lt (x : Lin)
  | eq (x : Lin)
  | at (a : Nat)
  | seq (x y : List SP)
  deriving Inhabited
/-- a value that is told by names -/
inductive Sym where
  | int (k : IntKind) (x : Lin)
  | bool (neg : Bool) (a : BA)
  | str (ps : List SP)
  | ro (esz : Nat) (a : Nat)
  | sl (k esz : Nat) (off n : Lin)
  | ptr (k esz : Nat) (e : Lin) (o : Nat)
  | any (a : Nat)
  deriving Inhabited

inductive AV where
  | lit (v : Value)
  | ro (esz : Nat) (xs : List (List AV))
  | rp (xs : List AV) (o : Nat)
  | fr (x : AV)
  | agg (xs : List AV)
  | tup (xs : List AV)
  | ptr (k esz e o : Nat)
  | sl (k esz off n : Nat)
  | emp
  | fn (f : FuncId) (caps : List AV)
  | mp (k : Nat)
  | sym (x : Sym)
  deriving Inhabited

/-- values in which nothing is told by a name -/
inductive Pure : AV → Prop
  | lit {v : Value} : Pure (.lit v)
  | ro {e : Nat} {xs : List (List AV)} (h : ∀ r ∈ xs, ∀ x ∈ r, Pure x) : Pure (.ro e xs)
  | rp {xs : List AV} {o : Nat} (h : ∀ x ∈ xs, Pure x) : Pure (.rp xs o)
  | agg {xs : List AV} (h : ∀ x ∈ xs, Pure x) : Pure (.agg xs)
  | tup {xs : List AV} (h : ∀ x ∈ xs, Pure x) : Pure (.tup xs)
/-- what the names stand for -/
class VL where
  i : Nat → Int
  s : Nat → List UInt8
  b : Nat → Bool
  r : Nat → List (List AV)
  a : Nat → AV
  m : Nat → List AV → Value → Prop
variable [VL]
def tsum : List (Nat × Int) → Int
  | [] => 0
  | (a, k) :: r => k * VL.i a + tsum r
def Lin.val (x : Lin) : Int := tsum x.1 + x.2
def SP.val : SP → List UInt8
  | .b n => [UInt8.ofNat n]
  | .e x => [UInt8.ofNat (Lin.val x).toNat]
  | .o a => VL.s a
def sval (ps : List SP) : ByteArray := ⟨(ps.flatMap SP.val).toArray⟩
def BA.val : BA → Bool
  | .lt x => decide (Lin.val x < 0)
  | .eq x => decide (Lin.val x = 0)
  | .at a => VL.b a
  | .seq x y => decide (sval x = sval y)
def Sym.val : Sym → Option Value
  | .int k x => some (.int k (Lin.val x))
  | .bool n a => some (.bool (Bool.xor n a.val))
  | .str ps => some (.string (sval ps))
  | _ => none

/-- a block of cells, none of them frozen -/
def Plain (w : World) (b : Nat) : Prop := ∃ cs ty, w.heap[b]? = some (.cells cs ty (0, 0))
theorem Plain.lt {w : World} {b : Nat} (h : Plain w b) : b < w.heap.size := by
  obtain ⟨cs, ty, h⟩ := h
  exact (Array.getElem?_eq_some_iff.1 h).1
/-- 'v' reads as the data 'x', all of it in blocks that 'F' does not forbid. -/
inductive Rep (F : Nat → Prop) (w : World) : AV → Value → Prop
  | lit {v : Value} (h : v.oneCell' = true) : Rep F w (.lit v) v
  | nil {esz : Nat} {A : Option Addr} {cap : Nat} (hc : cap ≤ maxLen) : Rep F w (.ro esz []) (.slice A 0 cap)
  | ro {esz : Nat} {xs : List (List AV)} {b off cap : Nat} (c : Nat → Nat → Value) (hF : ¬ F b) (hb : Plain w b)
      (hn : xs.length ≤ cap) (hc : cap ≤ maxLen)
      (hrow : ∀ (j : Nat) (row : List AV), xs[j]? = some row → row.length = esz)
      (hcell : ∀ (j : Nat) (row : List AV) (i : Nat) (av : AV), xs[j]? = some row → row[i]? = some av → w.cell? ⟨b, off + (j * esz + i), none⟩ = some (c j i))
      (hrep : ∀ (j : Nat) (row : List AV) (i : Nat) (av : AV), xs[j]? = some row → row[i]? = some av → Rep F w av (c j i)) :
      Rep F w (.ro esz xs) (.slice (some ⟨b, off, none⟩) xs.length cap)
  | rp {xs : List AV} {o b off : Nat} (c : Nat → Value) (hF : ¬ F b) (hb : Plain w b)
      (hcell : ∀ (i : Nat) (av : AV), xs[i]? = some av → w.cell? ⟨b, off + i, none⟩ = some (c i))
      (hrep : ∀ (i : Nat) (av : AV), xs[i]? = some av → Rep F w av (c i)) :
      Rep F w (.rp xs o) (.pointer (some ⟨b, off + o, none⟩))
  | sym {x : Sym} {v : Value} (h : x.val = some v) : Rep F w (.sym x) v
  | sro {esz a : Nat} {v : Value} (h : Rep F w (.ro esz (VL.r a)) v) : Rep F w (.sym (.ro esz a)) v
  | any {a : Nat} {v : Value} (h : Rep F w (VL.a a) v) : Rep F w (.sym (.any a)) v

theorem Sym.val_one {x : Sym} {v : Value} (h : x.val = some v) : v.oneCell' = true := by
  cases x <;> cases h <;> rfl

theorem Rep.mono {F F' : Nat → Prop} {w w' : World} {x : AV} {v : Value} (h : Rep F w x v) (hs : w.heap.size ≤ w'.heap.size)
    (hk : ∀ b, b < w.heap.size → ¬ F b → w'.heap[b]? = w.heap[b]? ∧ ¬ F' b) : Rep F' w' x v := by
  induction h with
  | lit h => exact .lit h
  | nil hc => exact .nil hc
  | ro c hF hb hn hc hrow hcell _ ih =>
    obtain ⟨e, hF'⟩ := hk _ hb.lt hF
    exact .ro c hF' (hb.imp fun _ h => h.imp fun _ h => e.trans h) hn hc hrow
      (fun j row i av h1 h2 => (World.cell?_of_block (a := ⟨_, _, none⟩) e).trans (hcell j row i av h1 h2))
      (fun j row i av h1 h2 => ih j row i av h1 h2)
  | rp c hF hb hcell _ ih =>
    obtain ⟨e, hF'⟩ := hk _ hb.lt hF
    exact .rp c hF' (hb.imp fun _ h => h.imp fun _ h => e.trans h)
      (fun i av h1 => (World.cell?_of_block (a := ⟨_, _, none⟩) e).trans (hcell i av h1))
      (fun i av h1 => ih i av h1)
  | sym h => exact .sym h
  | sro _ ih => exact .sro ih
  | any _ ih => exact .any ih

theorem Rep.weaken {F F' : Nat → Prop} {w : World} {x : AV} {v : Value} (h : Rep F w x v) (hk : ∀ b, b < w.heap.size → F' b → F b) : Rep F' w x v :=
  h.mono (Nat.le_refl _) fun b hb hF => ⟨rfl, fun hF' => hF (hk b hb hF')⟩

theorem Rep.oneCell {F : Nat → Prop} {w : World} {x : AV} {v : Value} (h : Rep F w x v) : v.oneCell' = true := by
  induction h with
  | lit h => exact h
  | sym h => exact Sym.val_one h
  | sro _ ih => exact ih
  | any _ ih => exact ih
  | _ => rfl

inductive Blk where
  | box (cells : List AV)
  | arr (fresh : Bool) (esz : Nat) (els : List (List AV))
  | map (es : List (Value × Value))
  | sarr (esz : Nat) (a : Nat)
  | memo (a : Nat) (ks : List Nat)
  | sit (ps : List SP) (pos : Nat)
  | setm (es : List (Value × Value × Nat)) (clock : Nat)
  | mit (k since : Nat) (seen : List Nat) (c0 : Nat)
  | kbox (cells : List AV) (g : Nat)
  | memoQ (a : Nat) (ks : List Nat) (has : Bool) (g : Nat) (v : AV)
def setE3 (p : Value × Value × Nat) : MapEntry := { key := p.1, val := p.2.1, born := p.2.2 }

/-- all names of a value are such -/
def nmB (p : Nat → Bool) : Nat → AV → Bool
  | 0, _ => false
  | n + 1, x => match x with
    | .ptr k _ _ _ => p k
    | .sl k _ _ _ => p k
    | .mp k => p k
    | .agg xs => xs.all (nmB p n)
    | .tup xs => xs.all (nmB p n)
    | .fn _ xs => xs.all (nmB p n)
    | .sym (.sl k _ _ _) => p k
    | .sym (.ptr k _ _ _) => p k
    | _ => true
structure Sg where
  M : Nat → Prop
  n0 : Nat
  ρ : Nat → Option (Option Nat)
  hp : Nat → Option Blk

/-- Blocks that are written still: no data lies in them. -/
def Sg.mut (s : Sg) (b : Nat) : Prop := s.M b ∨ ∃ k, s.hp k ≠ none ∧ s.ρ k = some (some b)
/-- What new data keeps away from. -/
def Sg.old (s : Sg) (b : Nat) : Prop := s.mut b ∨ b < s.n0

inductive Rel (s : Sg) (w : World) : AV → Value → Prop
  | rep {x : AV} {v : Value} (h : Rep s.mut w x v) : Rel s w x v
  | fr {x : AV} {v : Value} (h : Rep s.old w x v) : Rel s w (.fr x) v
  | agg {xs : List AV} {vs : Array Value} (hl : xs.length = vs.size) (h : ∀ (i : Nat) (av : AV) (v : Value), xs[i]? = some av → vs[i]? = some v → Rel s w av v) : Rel s w (.agg xs) (.agg vs)
  | tup {xs : List AV} {vs : Array Value} (hl : xs.length = vs.size) (h : ∀ (i : Nat) (av : AV) (v : Value), xs[i]? = some av → vs[i]? = some v → Rel s w av v) : Rel s w (.tup xs) (.tuple vs)
  | ptr {k esz e o b : Nat} (h : s.ρ k = some (some b)) : Rel s w (.ptr k esz e o) (.pointer (some ⟨b, e * esz + o, none⟩))
  | slg {k esz off n : Nat} {A : Option Addr} {n' c' : Nat} (h : s.ρ k ≠ none) (hp : s.hp k = none) : Rel s w (.sl k esz off n) (.slice A n' c')
  | sl {k esz off n b cap : Nat} {fr : Bool} {els : List (List AV)} {cs : Array Value} {ty : TypeId} {fz : Nat × Nat} (h : s.ρ k = some (some b)) (hp : s.hp k = some (.arr fr esz els))
      (hle : off + n ≤ els.length) (hb : w.heap[b]? = some (.cells cs ty fz)) (hn : n ≤ cap) (hc : cap ≤ maxLen) (hs : (off + cap) * esz ≤ cs.size) :
      Rel s w (.sl k esz off n) (.slice (some ⟨b, off * esz, none⟩) n cap)
  | sln {k esz off : Nat} {A : Option Addr} (h : s.ρ k = some none) : Rel s w (.sl k esz off 0) (.slice A 0 0)
  | emp {A : Option Addr} : Rel s w .emp (.slice A 0 0)
  | fn {f : FuncId} {xs : List AV} {vs : Array Value} (hl : xs.length = vs.size) (h : ∀ (i : Nat) (av : AV) (v : Value), xs[i]? = some av → vs[i]? = some v → Rel s w av v) : Rel s w (.fn f xs) (.func (.func f) #[] vs)
  | mp {k b : Nat} (h : s.ρ k = some (some b)) : Rel s w (.mp k) (.map (some b))
  | ssl {k esz : Nat} {off n : Lin} {off' n' : Nat} {v : Value} (ho : (Lin.val off).toNat = off') (hn : (Lin.val n).toNat = n') (h : Rel s w (.sl k esz off' n') v) : Rel s w (.sym (.sl k esz off n)) v
  | sptr {k esz o : Nat} {e : Lin} {e' : Nat} {v : Value} (he : (Lin.val e).toNat = e') (h : Rel s w (.ptr k esz e' o) v) : Rel s w (.sym (.ptr k esz e o)) v

def AV.one : AV → Bool
  | .agg _ => false
  | .tup _ => false
  | _ => true
theorem Rep.isOne {F : Nat → Prop} {w : World} {x : AV} {v : Value} (h : Rep F w x v) : x.one = true := by cases h <;> rfl
/-- what lies in an array: new data, or whatever reads so -/
def ElR : Bool → Sg → World → AV → Value → Prop
  | true, s, w, x, v => Rep s.old w x v
  | false, s, w, x, v => Rel s w x v ∧ x.one = true
theorem Rep.el {f : Bool} {s : Sg} {w : World} {x : AV} {v : Value} (h : Rep (if f then s.old else s.mut) w x v) : ElR f s w x v := by
  cases f
  · exact ⟨.rep h, h.isOne⟩
  · exact h

/-- a key that is told: its cells are numbers, places of the call's own, places in data -/
def keyK : Bool → AV → Prop
  | true, .lit (.int .i64 _) => True
  | false, .rp xs o => Pure (.rp xs o)
  | false, .ptr _ _ _ _ => True
  | _, _ => False
/-- which of a key's two cells are numbers -/
def shp (a : Nat) : Bool × Bool := match a with
  | 0 => (false, false)
  | _ => (true, false)
def KeyD (s : Sg) (w : World) (a : Nat) (ks : List Nat) (cs : List AV) (vs : Array Value) : Prop :=
  ∃ c0 c1 p0 p1, cs = [c0, c1] ∧ vs = #[p0, p1] ∧ keyK (shp a).1 c0 ∧ keyK (shp a).2 c1 ∧ nmB (fun k => ks.any (Nat.beq k)) 3 c0 = true ∧ nmB (fun k => ks.any (Nat.beq k)) 3 c1 = true ∧ Rel s w c0 p0 ∧ Rel s w c1 p1
def BOK (s : Sg) (w : World) (x : Option Nat) : Blk → Prop
  | .box cells => ∃ b cs ty, x = some b ∧ w.heap[b]? = some (.cells cs ty (0, 0)) ∧ cells.length = cs.size ∧ ∀ (i : Nat) (av : AV) (v : Value), cells[i]? = some av → cs[i]? = some v → Rel s w av v
  | .arr fresh esz els => (x = none ∧ els = []) ∨ ∃ b cs ty, x = some b ∧ w.heap[b]? = some (.cells cs ty (0, 0)) ∧ els.length * esz ≤ cs.size ∧
      (∀ (j : Nat) (row : List AV), els[j]? = some row → row.length = esz) ∧
      ∀ (j : Nat) (row : List AV) (i : Nat) (av : AV), els[j]? = some row → row[i]? = some av → ∃ v, cs[j * esz + i]? = some v ∧ ElR fresh s w av v
  | .map es => ∃ b entries clock, x = some b ∧ w.heap[b]? = some (.map entries clock) ∧ entries.toList.map (fun e => (e.key, e.val)) = es
  | .sarr _ _ => False
  | .sit ps pos => ∃ b, x = some b ∧ w.heap[b]? = some (.stringIter (sval ps) pos)
  | .setm es clock => ∃ b, x = some b ∧ w.heap[b]? = some (.map (es.map setE3).toArray clock)
  | .mit k since seen c0 => ∃ b bm, x = some b ∧ w.heap[b]? = some (.mapIter (some bm) since seen.toArray c0) ∧ s.ρ k = some (some bm)
  | .memo a ks => ∃ b entries clock, x = some b ∧ w.heap[b]? = some (.map entries clock) ∧ ∀ e, e ∈ entries.toList → ∃ cs vs, e.key = .agg vs ∧ KeyD s w a ks cs vs ∧ VL.m a cs e.val
  | .kbox cells g => ∃ b cs ty p0 p1, x = some b ∧ w.heap[b]? = some (.cells cs ty (0, 0)) ∧ cells.length = cs.size ∧ (∀ (i : Nat) (av : AV) (v : Value), cells[i]? = some av → cs[i]? = some v → Rel s w av v) ∧
      cs = #[p0, p1] ∧ VL.a g = .lit p0 ∧ VL.a (g + 1) = .lit p1 ∧ p0.oneCell' = true ∧ p1.oneCell' = true
  | .memoQ a ks has g v => ∃ b entries clock, x = some b ∧ w.heap[b]? = some (.map entries clock) ∧ (∀ e, e ∈ entries.toList → ∃ cs vs, e.key = .agg vs ∧ KeyD s w a ks cs vs ∧ VL.m a cs e.val) ∧
      ∃ p0 p1 cs, VL.a g = .lit p0 ∧ VL.a (g + 1) = .lit p1 ∧ KeyD s w a ks cs #[p0, p1] ∧
        match has with
        | true => (∃ e, e ∈ entries.toList ∧ e.key = .agg #[p0, p1]) ∧ ∀ e, e ∈ entries.toList → e.key = .agg #[p0, p1] → Rep s.mut w v e.val
        | false => ∀ e, e ∈ entries.toList → e.key ≠ .agg #[p0, p1]

/-- the program's own tables that are read: block and content -/
def globs : List (Nat × List Value) := [(1, [1, 10, 100, 1000, 10000, 100000, 1000000, 10000000, 100000000, 1000000000, 10000000000, 100000000000, 1000000000000, 10000000000000, 100000000000000, 1000000000000000, 10000000000000000, 100000000000000000, 1000000000000000000, 10000000000000000000].map (.int .u64))]
structure OK (s : Sg) (w : World) : Prop where
  gl : ∀ p, p ∈ globs → (∃ ty, w.heap[p.1]? = some (.cells p.2.toArray ty (0, 0))) ∧ ¬ s.mut p.1
  bM : ∀ b, s.M b → b < w.heap.size
  n0 : s.n0 ≤ w.heap.size
  blk : ∀ k B, s.hp k = some B → ∃ x, s.ρ k = some x ∧ BOK s w x B
  inj : ∀ k k' b, s.hp k ≠ none → s.hp k' ≠ none → s.ρ k = some (some b) → s.ρ k' = some (some b) → k = k'
  dis : ∀ k b, s.hp k ≠ none → s.ρ k = some (some b) → ¬ s.M b

structure Tr (s : Sg) (w : World) (s' : Sg) (w' : World) : Prop where
  M : s'.M = s.M
  n0 : s'.n0 = s.n0
  rho : ∀ k x, s.ρ k = some x → s'.ρ k = some x
  size : w.heap.size ≤ w'.heap.size
  os : w'.os = w.os
  tape : w'.tape = w.tape
  output : w'.output = w.output
  keep : ∀ b, b < w.heap.size → (∀ k, s.hp k ≠ none → s.ρ k ≠ some (some b)) → w'.heap[b]? = w.heap[b]?
  own : ∀ k b, s'.hp k ≠ none → s'.ρ k = some (some b) → (∃ k0, s.hp k0 ≠ none ∧ s.ρ k0 = some (some b)) ∨ w.heap.size ≤ b
  dead : ∀ k, s.ρ k ≠ none → s.hp k = none → s'.hp k = none
  arr : ∀ k fresh esz els, s.hp k = some (.arr fresh esz els) → s'.hp k = none ∨ ∃ fresh' els', s'.hp k = some (.arr fresh' esz els') ∧ els.length ≤ els'.length ∧
    ∀ b cs ty fz, s.ρ k = some (some b) → w.heap[b]? = some (.cells cs ty fz) → ∃ cs' ty' fz', w'.heap[b]? = some (.cells cs' ty' fz') ∧ cs'.size = cs.size

theorem Tr.mut_keep {s s' : Sg} {w w' : World} (t : Tr s w s' w') : ∀ b, b < w.heap.size → ¬ s.mut b → w'.heap[b]? = w.heap[b]? ∧ ¬ s'.mut b := by
  intro b hb hm
  refine ⟨t.keep b hb fun k hk he => hm (.inr ⟨k, hk, he⟩), ?_⟩
  rintro (h | ⟨k, hk, he⟩)
  · exact hm (.inl (t.M ▸ h))
  · rcases t.own k b hk he with ⟨k0, h0, h1⟩ | h
    · exact hm (.inr ⟨k0, h0, h1⟩)
    · omega
theorem Tr.old_keep {s s' : Sg} {w w' : World} (t : Tr s w s' w') : ∀ b, b < w.heap.size → ¬ s.old b → w'.heap[b]? = w.heap[b]? ∧ ¬ s'.old b := by
  intro b hb ho
  have hm : ¬ s.mut b := fun h => ho (.inl h)
  obtain ⟨h1, h2⟩ := t.mut_keep b hb hm
  refine ⟨h1, ?_⟩
  rintro (h | h)
  · exact h2 h
  · exact ho (.inr (t.n0 ▸ h))

theorem Rel.step {s s' : Sg} {w w' : World} (t : Tr s w s' w') {x : AV} {v : Value} (h : Rel s w x v) : Rel s' w' x v := by
  induction h with
  | rep h => exact .rep (h.mono t.size t.mut_keep)
  | fr h => exact .fr (h.mono t.size t.old_keep)
  | agg hl _ ih => exact .agg hl ih
  | tup hl _ ih => exact .tup hl ih
  | ptr h => exact .ptr (t.rho _ _ h)
  | @slg k esz off n A n' c' h hp =>
    refine .slg ?_ (t.dead k h hp)
    cases hr : s.ρ k with
    | none => exact absurd hr h
    | some x => rw [t.rho _ _ hr]; simp
  | @sl k esz off n b cap fr els cs ty fz h hp hle hb hn hc hs =>
    rcases t.arr _ _ _ _ hp with h' | ⟨fr', els', h', hl, hsz⟩
    · exact .slg (by rw [t.rho _ _ h]; simp) h'
    · obtain ⟨cs', ty', fz', hb', hcs⟩ := hsz _ _ _ _ h hb
      exact .sl (t.rho _ _ h) h' (by omega) hb' hn hc (by omega)
  | sln h => exact .sln (t.rho _ _ h)
  | emp => exact .emp
  | fn hl _ ih => exact .fn hl ih
  | mp h => exact .mp (t.rho _ _ h)
  | ssl h1 h2 _ ih => exact .ssl h1 h2 ih
  | sptr h1 _ ih => exact .sptr h1 ih

theorem ElR.step {f : Bool} {s s' : Sg} {w w' : World} (t : Tr s w s' w') {x : AV} {v : Value} (h : ElR f s w x v) : ElR f s' w' x v := by
  cases f
  · exact ⟨h.1.step t, h.2⟩
  · exact Rep.mono h t.size t.old_keep
theorem ElR.rel {f : Bool} {s : Sg} {w : World} {x : AV} {v : Value} (h : ElR f s w x v) : ElR false s w x v := by
  cases f
  · exact h
  · exact ⟨.rep (Rep.weaken h fun b _ hm => .inl hm), Rep.isOne h⟩

theorem KeyD.step {s s' : Sg} {w w' : World} (t : Tr s w s' w') {a : Nat} {ks : List Nat} {cs : List AV} {vs : Array Value} (h : KeyD s w a ks cs vs) : KeyD s' w' a ks cs vs := by
  obtain ⟨c0, c1, p0, p1, h1, h2, h3, h4, h5, h6, h7, h8⟩ := h
  exact ⟨c0, c1, p0, p1, h1, h2, h3, h4, h5, h6, h7.step t, h8.step t⟩
theorem BOK.step {s s' : Sg} {w w' : World} (t : Tr s w s' w') {x : Option Nat} {B : Blk} (h : BOK s w x B)
    (hx : ∀ b, x = some b → w'.heap[b]? = w.heap[b]?) : BOK s' w' x B := by
  cases B with
  | box cells =>
    obtain ⟨b, cs, ty, rfl, hb, hl, hr⟩ := h
    exact ⟨b, cs, ty, rfl, (hx b rfl).trans hb, hl, fun i av v h1 h2 => (hr i av v h1 h2).step t⟩
  | arr fresh esz els =>
    rcases h with h | ⟨b, cs, ty, rfl, hb, hl, hrow, hr⟩
    · exact .inl h
    · refine .inr ⟨b, cs, ty, rfl, (hx b rfl).trans hb, hl, hrow, fun j row i av h1 h2 => ?_⟩
      obtain ⟨v, hv, hrep⟩ := hr j row i av h1 h2
      exact ⟨v, hv, hrep.step t⟩
  | map es =>
    obtain ⟨b, en, cl, rfl, hb, he⟩ := h
    exact ⟨b, en, cl, rfl, (hx b rfl).trans hb, he⟩
  | sarr esz a => exact h
  | sit ps pos =>
    obtain ⟨b, rfl, hb⟩ := h
    exact ⟨b, rfl, (hx b rfl).trans hb⟩
  | setm es clock =>
    obtain ⟨b, rfl, hb⟩ := h
    exact ⟨b, rfl, (hx b rfl).trans hb⟩
  | mit k since seen c0 =>
    obtain ⟨b, bm, rfl, hb, hk⟩ := h
    exact ⟨b, bm, rfl, (hx b rfl).trans hb, t.rho _ _ hk⟩
  | memo a ks =>
    obtain ⟨b, en, cl, rfl, hb, he⟩ := h
    refine ⟨b, en, cl, rfl, (hx b rfl).trans hb, fun e hm => ?_⟩
    obtain ⟨cs, vs, h1, h2, h5⟩ := he e hm
    exact ⟨cs, vs, h1, h2.step t, h5⟩
  | kbox cells g =>
    obtain ⟨b, cs, ty, p0, p1, rfl, hb, hl, hr, h⟩ := h
    exact ⟨b, cs, ty, p0, p1, rfl, (hx b rfl).trans hb, hl, fun i av v h1 h2 => (hr i av v h1 h2).step t, h⟩
  | memoQ a ks has g v =>
    obtain ⟨b, en, cl, rfl, hb, he, p0, p1, cs, h1, h2, h3, h4⟩ := h
    refine ⟨b, en, cl, rfl, (hx b rfl).trans hb, fun e hm => ?_, p0, p1, cs, h1, h2, h3.step t, ?_⟩
    · obtain ⟨cs, vs, h1, h2, h5⟩ := he e hm
      exact ⟨cs, vs, h1, h2.step t, h5⟩
    · cases has with
      | true => exact ⟨h4.1, fun e hm hk => (h4.2 e hm hk).mono t.size t.mut_keep⟩
      | false => exact h4

/-- Old blocks that no name of the call's own stands for. -/
theorem OK.lt {s : Sg} {w : World} (h : OK s w) {k b : Nat} (hk : s.hp k ≠ none) (hr : s.ρ k = some (some b)) : b < w.heap.size := by
  cases hB : s.hp k with
  | none => exact absurd hB hk
  | some B =>
    obtain ⟨x, hx, hok⟩ := h.blk k B hB
    rw [hr] at hx
    cases hx
    cases B with
    | box cells =>
      obtain ⟨b', cs, ty, e, hb, _⟩ := hok
      cases e
      exact (Array.getElem?_eq_some_iff.1 hb).1
    | arr fresh esz els =>
      rcases hok with ⟨h, _⟩ | ⟨b', cs, ty, e, hb, _⟩
      · cases h
      · cases e
        exact (Array.getElem?_eq_some_iff.1 hb).1
    | map es =>
      obtain ⟨b', en, cl, e, hb, _⟩ := hok
      cases e
      exact (Array.getElem?_eq_some_iff.1 hb).1
    | sarr esz a => exact hok.elim
    | sit ps pos =>
      obtain ⟨b', e, hb⟩ := hok
      cases e
      exact (Array.getElem?_eq_some_iff.1 hb).1
    | setm es clock =>
      obtain ⟨b', e, hb⟩ := hok
      cases e
      exact (Array.getElem?_eq_some_iff.1 hb).1
    | mit k since seen c0 =>
      obtain ⟨b', bm, e, hb, _⟩ := hok
      cases e
      exact (Array.getElem?_eq_some_iff.1 hb).1
    | memo a ks =>
      obtain ⟨b', en, cl, e, hb, _⟩ := hok
      cases e
      exact (Array.getElem?_eq_some_iff.1 hb).1
    | kbox cells g =>
      obtain ⟨b', cs, ty, p0, p1, e, hb, _⟩ := hok
      cases e
      exact (Array.getElem?_eq_some_iff.1 hb).1
    | memoQ a ks has g v =>
      obtain ⟨b', en, cl, e, hb, _⟩ := hok
      cases e
      exact (Array.getElem?_eq_some_iff.1 hb).1

/-- Whatever a step leaves as it was is well yet; what it turned is said. -/
theorem OK.step {s s' : Sg} {w w' : World} (h : OK s w) (t : Tr s w s' w')
    (hb : ∀ k B, s'.hp k = some B → (s.hp k = some B ∧ ∀ b, s.ρ k = some (some b) → w'.heap[b]? = w.heap[b]?) ∨ ∃ x, s'.ρ k = some x ∧ BOK s' w' x B)
    (inj : ∀ k k' b, s'.hp k ≠ none → s'.hp k' ≠ none → s'.ρ k = some (some b) → s'.ρ k' = some (some b) → k = k') : OK s' w' where
  gl p hp := by
    obtain ⟨⟨ty, h1⟩, h2⟩ := h.gl p hp
    obtain ⟨h3, h4⟩ := t.mut_keep p.1 (Array.getElem?_eq_some_iff.1 h1).1 h2
    exact ⟨⟨ty, h3.trans h1⟩, h4⟩
  bM b hm := Nat.lt_of_lt_of_le (h.bM b (t.M ▸ hm)) t.size
  n0 := by rw [t.n0]; exact Nat.le_trans h.n0 t.size
  blk k B hB := by
    rcases hb k B hB with ⟨h0, he⟩ | h1
    · obtain ⟨x, hx, hok⟩ := h.blk k B h0
      exact ⟨x, t.rho _ _ hx, hok.step t fun b e => he b (e ▸ hx)⟩
    · exact h1
  inj := inj
  dis k b hk hr hm := by
    have hm' : s.M b := t.M ▸ hm
    rcases t.own k b hk hr with ⟨k0, h0, h1⟩ | hle
    · exact h.dis k0 b h0 h1 hm'
    · have := h.bM b hm'; omega

end Go.Abs
end
section
namespace Go.Abs
variable [VL]

abbrev Env := Nat → Option AV
abbrev Hp := Nat → Option Blk

def updE (E : Env) (d : Option Nat) (r : Option AV) : Env := match d with
  | some d => fun t => if t = d then r else E t
  | none => E
def lkU : List (Nat × Option Blk) → Nat → Option (Option Blk)
  | [], _ => none
  | (k, x) :: r, t => if t = k then some x else lkU r t
def updH (H : Hp) (U : List (Nat × Option Blk)) : Hp := fun k => match lkU U k with
  | some x => x
  | none => H k
def envOf : List (Nat × AV) → Env
  | [] => fun _ => none
  | (k, x) :: r => fun t => if t = k then some x else envOf r t
def hpOf : List (Nat × Blk) → Hp
  | [] => fun _ => none
  | (k, x) :: r => fun t => if t = k then some x else hpOf r t

theorem updH_nil (H : Hp) : updH H [] = H := rfl

structure Post (s : Sg) (w : World) (fr : List Nat) (U : List (Nat × Option Blk)) (s' : Sg) (w' : World) : Prop where
  tr : Tr s w s' w'
  ok : OK s' w'
  hp : s'.hp = updH s.hp U
  fresh : ∀ k, s.ρ k = none → k ∉ fr → s'.ρ k = none

/-- What one operation does, said of any state that has what 'E' and 'H' tell. -/
def AOp (P : Program) (o : Oper) (E : Env) (H : Hp) (fr : List Nat) (res : Option AV) (U : List (Nat × Option Blk)) : Prop :=
  ∀ (s : Sg) (w : World) (a : Act) (K : Act → World → Prop) (Q : Exit → Act → World → Prop), OK s w →
    (∀ t av, E t = some av → Rel s w av (a.tmps.getD t undef)) → (∀ k B, H k = some B → s.hp k = some B) → (∀ k, k ∈ fr → s.ρ k = none) →
    (∀ v s' w', Post s w fr U s' w' → (∀ av, res = some av → Rel s' w' av v) → K (a.put o.dst v) w') → o.wp P a w K Q

/-- What a call has done since it began: its own names from 'n' on are nobody else's. -/
structure Glob (n : Nat) (s : Sg) (w : World) (s' : Sg) (w' : World) : Prop where
  M : s'.M = s.M
  n0 : s'.n0 = s.n0
  rho : ∀ k x, k < n → s.ρ k = some x → s'.ρ k = some x
  size : w.heap.size ≤ w'.heap.size
  os : w'.os = w.os
  tape : w'.tape = w.tape
  output : w'.output = w.output
  keep : ∀ b, b < w.heap.size → (∀ k, s.hp k ≠ none → s.ρ k ≠ some (some b)) → w'.heap[b]? = w.heap[b]?
  own : ∀ k b, s'.hp k ≠ none → s'.ρ k = some (some b) → (∃ k0, s.hp k0 ≠ none ∧ s.ρ k0 = some (some b)) ∨ w.heap.size ≤ b
  dead : ∀ k, k < n → s.ρ k ≠ none → s.hp k = none → s'.hp k = none
  arr : ∀ k fresh esz els, k < n → s.hp k = some (.arr fresh esz els) → s'.hp k = none ∨ ∃ fresh' els', s'.hp k = some (.arr fresh' esz els') ∧ els.length ≤ els'.length ∧
    ∀ b cs ty fz, s.ρ k = some (some b) → w.heap[b]? = some (.cells cs ty fz) → ∃ cs' ty' fz', w'.heap[b]? = some (.cells cs' ty' fz') ∧ cs'.size = cs.size

theorem Glob.refl (n : Nat) (s : Sg) (w : World) : Glob n s w s w where
  M := rfl
  n0 := rfl
  rho _ _ _ h := h
  size := Nat.le_refl _
  os := rfl
  tape := rfl
  output := rfl
  keep _ _ _ := rfl
  own k _ h h' := .inl ⟨k, h, h'⟩
  dead _ _ _ h := h
  arr _ fresh _ els _ h := .inr ⟨fresh, els, h, Nat.le_refl _, fun _ cs ty fz _ h => ⟨cs, ty, fz, h, rfl⟩⟩

/-- whatever block has content has a name that is known -/
def Sane (s : Sg) : Prop := ∀ k B, s.hp k = some B → ∃ x, s.ρ k = some x
theorem OK.sane {s : Sg} {w : World} (h : OK s w) : Sane s := fun k B hB => by obtain ⟨x, hx, _⟩ := h.blk k B hB; exact ⟨x, hx⟩
theorem Glob.step {n : Nat} {s0 s s' : Sg} {w0 w w' : World} (ok0 : Sane s0) (g : Glob n s0 w0 s w) (t : Tr s w s' w') : Glob n s0 w0 s' w' where
  M := t.M.trans g.M
  n0 := t.n0.trans g.n0
  rho k x hk h := t.rho _ _ (g.rho k x hk h)
  size := Nat.le_trans g.size t.size
  os := t.os.trans g.os
  tape := t.tape.trans g.tape
  output := t.output.trans g.output
  keep b hb h := by
    refine (t.keep b (Nat.lt_of_lt_of_le hb g.size) fun k hk he => ?_).trans (g.keep b hb h)
    rcases g.own k b hk he with ⟨k0, h0, h1⟩ | h1
    · exact h k0 h0 h1
    · omega
  own k b hk he := by
    rcases t.own k b hk he with ⟨k0, h0, h1⟩ | h1
    · exact g.own k0 b h0 h1
    · exact .inr (Nat.le_trans g.size h1)
  dead k hk h h' := by
    have h1 := g.dead k hk h h'
    refine t.dead k ?_ h1
    cases hr : s0.ρ k with
    | none => exact absurd hr h
    | some x => rw [g.rho k x hk hr]; simp
  arr k fresh esz els hk h := by
    have hr0 : s0.ρ k ≠ none := by
      obtain ⟨x, hx⟩ := ok0 k _ h
      rw [hx]; simp
    rcases g.arr k fresh esz els hk h with h1 | ⟨f1, e1, h1, hl, hsz⟩
    · refine .inl (t.dead k ?_ h1)
      cases hr : s0.ρ k with
      | none => exact absurd hr hr0
      | some x => rw [g.rho k x hk hr]; simp
    · rcases t.arr k f1 esz e1 h1 with h2 | ⟨f2, e2, h2, hl2, hsz2⟩
      · exact .inl h2
      · refine .inr ⟨f2, e2, h2, by omega, fun b cs ty fz hb hc => ?_⟩
        obtain ⟨cs1, ty1, fz1, hb1, hs1⟩ := hsz b cs ty fz hb hc
        obtain ⟨cs2, ty2, fz2, hb2, hs2⟩ := hsz2 b cs1 ty1 fz1 (g.rho k _ hk hb) hb1
        exact ⟨cs2, ty2, fz2, hb2, by omega⟩

/-- The frame of a proof about one function: where its call began, how many slots it has, how many names came in. -/
structure Cx where
  n : Nat
  s : Sg
  w : World
  N : Nat

structure Gm (C : Cx) (E : Env) (H : Hp) (nx : Nat) (s : Sg) (w : World) (a : Act) : Prop where
  ok0 : Sane C.s
  ok : OK s w
  env : ∀ t av, E t = some av → Rel s w av (a.tmps.getD t undef)
  hp : s.hp = H
  new : ∀ k, nx ≤ k → s.ρ k = none
  le : C.n ≤ nx
  size : a.tmps.size = C.N
  defers : a.defers = []
  glob : Glob C.n C.s C.w s w

theorem Act.size_put (a : Act) (d : Option Nat) (v : Value) : (a.put d v).tmps.size = a.tmps.size := by
  cases d <;> simp [Act.put]
theorem Act.defers_put (a : Act) (d : Option Nat) (v : Value) : (a.put d v).defers = a.defers := by
  cases d <;> rfl
theorem Act.get_put_same (a : Act) (d : Nat) (v : Value) (h : d < a.tmps.size) : (a.put (some d) v).tmps.getD d undef = v := by
  simp [Act.put, h]
theorem Act.get_put_ne (a : Act) (d t : Nat) (v : Value) (h : t ≠ d) : (a.put (some d) v).tmps.getD t undef = a.tmps.getD t undef := by
  simp [Act.put, Array.getElem?_setIfInBounds_ne (Ne.symm h)]

theorem Gm.put {C : Cx} {E : Env} {H : Hp} {nx nx' : Nat} {s s' : Sg} {w w' : World} {a : Act} {fr : List Nat} {U : List (Nat × Option Blk)} {d : Option Nat} {r : Option AV} {v : Value}
    (g : Gm C E H nx s w a) (hd : ∀ x, d = some x → x < C.N) (hn : nx ≤ nx') (hfr : ∀ k, k ∈ fr → k < nx')
    (p : Post s w fr U s' w') (hr : ∀ av, r = some av → Rel s' w' av v) : Gm C (updE E d r) (updH H U) nx' s' w' (a.put d v) where
  ok0 := g.ok0
  ok := p.ok
  env t av h := by
    cases d with
    | none =>
      exact (g.env t av h).step p.tr
    | some d =>
      simp only [updE] at h
      by_cases e : t = d
      · subst e
        rw [if_pos rfl] at h
        rw [Act.get_put_same a t v (by rw [g.size]; exact hd t rfl)]
        exact hr av h
      · rw [if_neg e] at h
        rw [Act.get_put_ne a d t v e]
        exact (g.env t av h).step p.tr
  hp := by rw [p.hp, g.hp]
  new k hk := p.fresh k (g.new k (Nat.le_trans hn hk)) fun h => by have := hfr k h; omega
  le := Nat.le_trans g.le hn
  size := by rw [Act.size_put, g.size]
  defers := by rw [Act.defers_put, g.defers]
  glob := g.glob.step g.ok0 p.tr

theorem Gm.skip {C : Cx} {E : Env} {H : Hp} {nx : Nat} {s : Sg} {w : World} {a : Act} {d : Option Nat}
    (g : Gm C E H nx s w a) (hd : ∀ x, d = some x → x < C.N) : Gm C (updE E d (some (.tup []))) H nx s w (a.put d undef) :=
  { g with
    env := fun t av h => by
      cases d with
      | none => exact g.env t av h
      | some d =>
        simp only [updE] at h
        by_cases e : t = d
        · subst e
          rw [if_pos rfl] at h
          cases h
          rw [Act.get_put_same a t undef (by rw [g.size]; exact hd t rfl)]
          exact .tup rfl (by simp)
        · rw [if_neg e] at h
          rw [Act.get_put_ne a d t undef e]
          exact g.env t av h
    size := by rw [Act.size_put, g.size]
    defers := by rw [Act.defers_put, g.defers] }

def dstOk (N : Nat) (o : Oper) : Bool := match o.dst with
  | some d => decide (d < N)
  | none => true
theorem dstOk_spec {N : Nat} {o : Oper} (h : dstOk N o = true) : ∀ x, o.dst = some x → x < N := by
  intro x hx
  unfold dstOk at h
  rw [hx] at h
  exact of_decide_eq_true h

/-- A list of operations, in the text's order. -/
def ASeq (P : Program) (C : Cx) (ops : Array Oper) (l : List Oper) (E : Env) (H : Hp) (nx : Nat) (K : Env → Hp → Nat → Prop) : Prop :=
  ∀ Q s w a, Gm C E H nx s w a → (∀ E' H' nx' s' w' a', K E' H' nx' → Gm C E' H' nx' s' w' a' → Q .normal a' w') → wpList P ops Q l a w

section
variable {P : Program} {C : Cx} {ops : Array Oper} {l : List Oper} {E : Env} {H : Hp} {nx : Nat} {K : Env → Hp → Nat → Prop}

theorem ASeq.nil (h : K E H nx) : ASeq P C ops [] E H nx K := fun _ _ _ _ g k => k _ _ _ _ _ _ h g

theorem ASeq.cons {o : Oper} {fr : List Nat} {res : Option AV} {U : List (Nat × Option Blk)} (nx' : Nat) (hg : o.guard = none)
    (ho : AOp P o E H fr res U) (hd : dstOk C.N o = true) (hn : nx ≤ nx') (hfr : ∀ k, k ∈ fr → nx ≤ k ∧ k < nx')
    (h : ASeq P C ops l (updE E o.dst res) (updH H U) nx' K) : ASeq P C ops (o :: l) E H nx K := by
  intro Q s w a g k
  refine wpList_plain hg fun K' hK' => ?_
  refine ho s w a K' Q g.ok g.env (fun k B hB => by rw [g.hp]; exact hB) (fun k hk => g.new k (hfr k hk).1) fun v s' w' p hr => hK' _ _ ?_
  exact h Q s' w' _ (g.put (dstOk_spec hd) hn (fun k hk => (hfr k hk).2) p hr) k

theorem yielded_of {j t : Nat} {b : Bool} {s : Sg} {w : World} {a : Act} (g : Gm C E H nx s w a) (ho : (ops[j]?).bind (·.dst) = some t) (hE : E t = some (.lit (.bool b))) :
    yielded ops a.tmps j = some b := by
  have h := g.env t _ hE
  have hv : a.tmps.getD t undef = .bool b := by
    generalize a.tmps.getD t undef = v at h
    cases h with
    | rep h => cases h; rfl
  have ht : a.tmps[t]? = some (.bool b) := by
    cases he : a.tmps[t]? with
    | none => simp [he, undef] at hv
    | some x => simp [he] at hv; rw [hv]
  simp [yielded, ho, ht]

theorem ASeq.cons_yes {o : Oper} {fr : List Nat} {res : Option AV} {U : List (Nat × Option Blk)} (nx' : Nat) {j t : Nat} {b : Bool} (hg : o.guard = some (j, b))
    (hj : (ops[j]?).bind (·.dst) = some t) (hE : E t = some (.lit (.bool b)))
    (ho : AOp P o E H fr res U) (hd : dstOk C.N o = true) (hn : nx ≤ nx') (hfr : ∀ k, k ∈ fr → nx ≤ k ∧ k < nx')
    (h : ASeq P C ops l (updE E o.dst res) (updH H U) nx' K) : ASeq P C ops (o :: l) E H nx K := by
  intro Q s w a g k
  refine wpList_step fun K' hK' => ?_
  have hw : Region.wanted o (yielded ops a.tmps) = true := by simp [Region.wanted, hg, yielded_of g hj hE]
  rw [if_pos hw]
  refine ho s w a K' Q g.ok g.env (fun k B hB => by rw [g.hp]; exact hB) (fun k hk => g.new k (hfr k hk).1) fun v s' w' p hr => hK' _ _ ?_
  exact h Q s' w' _ (g.put (dstOk_spec hd) hn (fun k hk => (hfr k hk).2) p hr) k

theorem ASeq.cons_no {o : Oper} {j t : Nat} {b : Bool} (hg : o.guard = some (j, !b))
    (hj : (ops[j]?).bind (·.dst) = some t) (hE : E t = some (.lit (.bool b))) (hd : dstOk C.N o = true)
    (h : ASeq P C ops l (updE E o.dst (some (.tup []))) H nx K) : ASeq P C ops (o :: l) E H nx K := by
  intro Q s w a g k
  refine wpList_step fun K' hK' => ?_
  have hw : ¬ Region.wanted o (yielded ops a.tmps) = true := by simp [Region.wanted, hg, yielded_of g hj hE]
  rw [if_neg hw]
  exact hK' _ _ (h Q s w _ (g.skip (dstOk_spec hd)) k)
/-- the condition itself was not asked (its own guard was not met) -/
theorem yielded_none {j t : Nat} {s : Sg} {w : World} {a : Act} (g : Gm C E H nx s w a) (ho : (ops[j]?).bind (·.dst) = some t) (hE : E t = some (.tup [])) : yielded ops a.tmps j = none := by
  have h := g.env t _ hE
  have hv : a.tmps.getD t undef = .tuple #[] := by
    generalize a.tmps.getD t undef = v at h
    cases h with
    | rep h => cases h
    | @tup _ vs hl _ =>
      have : vs = #[] := by apply Array.eq_empty_of_size_eq_zero; simpa using hl.symm
      rw [this]
  simp only [yielded, ho, Option.bind_some]
  cases he : a.tmps[t]? with
  | none => rfl
  | some x =>
    have : x = .tuple #[] := by simpa [he] using hv
    subst this
    rfl
theorem ASeq.cons_unasked {o : Oper} {j t : Nat} {b : Bool} (hg : o.guard = some (j, b)) (hj : (ops[j]?).bind (·.dst) = some t)
    (hE : E t = some (.tup [])) (hd : dstOk C.N o = true)
    (h : ASeq P C ops l (updE E o.dst (some (.tup []))) H nx K) : ASeq P C ops (o :: l) E H nx K := by
  intro Q s w a g k
  refine wpList_step fun K' hK' => ?_
  have hw : ¬ Region.wanted o (yielded ops a.tmps) = true := by simp [Region.wanted, hg, yielded_none g hj hE]
  rw [if_neg hw]
  exact hK' _ _ (h Q s w _ (g.skip (dstOk_spec hd)) k)
end

abbrev APost := Exit → Env → Hp → Nat → Prop
def AWP (P : Program) (C : Cx) (c : Code) (Q : APost) (E : Env) (H : Hp) (nx : Nat) : Prop :=
  ∀ s w a, Gm C E H nx s w a → c.wp P (fun e a' w' => ∃ s' E' H' nx', Gm C E' H' nx' s' w' a' ∧ Q e E' H' nx') a w

/-- Go on with 'K' where the code ends as usual. -/
def APost.then (K : Env → Hp → Nat → Prop) (Q : APost) : APost
  | .normal => K
  | e => Q e
def APost.inBlock (id : Nat) (Q : APost) : APost
  | .exit id' => if id' = id then Q .normal else Q (.exit id')
  | e => Q e

section
variable {P : Program} {C : Cx} {Q : APost} {E : Env} {H : Hp} {nx : Nat}

theorem AWP.region {id : Nat} {l : List Oper} (h : ASeq P C l.toArray l E H nx (Q .normal)) : AWP P C (.region id l.toArray false) Q E H nx :=
  fun s w a g => wp_region_lit (h _ s w a g fun E' H' nx' s' w' _ hK g' => ⟨s', E', H', nx', g', hK⟩)

theorem AWP.seq {x y : Code} (h : AWP P C x (APost.then (AWP P C y Q) Q) E H nx) : AWP P C (.seq x y) Q E H nx := by
  intro s w a g
  refine wp_seq (Go.wp_mono (h s w a g) ?_)
  rintro e a' w1 ⟨s', E', H', nx', g', hq⟩
  cases e with
  | normal => exact hq s' w1 a' g'
  | _ => exact ⟨s', E', H', nx', g', hq⟩

theorem AWP.skip (h : Q .normal E H nx) : AWP P C .skip Q E H nx := fun s _ _ g => wp_skip ⟨s, E, H, nx, g, h⟩
theorem AWP.exit {id : Nat} (h : Q (.exit id) E H nx) : AWP P C (.exit id) Q E H nx := fun s _ _ g => wp_exit ⟨s, E, H, nx, g, h⟩
theorem AWP.ret (h : Q .ret E H nx) : AWP P C .ret Q E H nx := fun s _ _ g => wp_ret ⟨s, E, H, nx, g, h⟩
theorem AWP.block {id : Nat} {c : Code} (h : AWP P C c (APost.inBlock id Q) E H nx) : AWP P C (.block id c) Q E H nx := by
  intro s w a g
  refine wp_block (Go.wp_mono (h s w a g) ?_)
  rintro e a' w' ⟨s', E', H', nx', g', hq⟩
  cases e with
  | exit id' =>
    simp only [Exit.inBlock]
    simp only [APost.inBlock] at hq
    split at hq
    · rename_i e; rw [if_pos e]; exact ⟨s', E', H', nx', g', hq⟩
    · rename_i e; rw [if_neg e]; exact ⟨s', E', H', nx', g', hq⟩
  | _ => exact ⟨s', E', H', nx', g', hq⟩

def evO (E : Env) : Operand → Option AV
  | .tmp t => E t
  | .const v => if v.oneCell' then some (.lit v) else match v with
    | .agg xs => if xs.toList.all (·.oneCell') then some (.agg (xs.toList.map .lit)) else none
    | _ => none
  | .func f => some (.fn f [])
  | .global _ => none

theorem evO_rel {E : Env} {s : Sg} {w : World} {a : Act} (h : ∀ t av, E t = some av → Rel s w av (a.tmps.getD t undef)) {x : Operand} {av : AV} (hx : evO E x = some av) : Rel s w av (a.eval x) := by
  cases x with
  | tmp t => exact h t av hx
  | const v =>
    simp only [evO] at hx
    split at hx
    · cases hx; exact .rep (.lit ‹_›)
    · split at hx
      · rename_i xs _
        split at hx
        · rename_i hall
          cases hx
          refine .agg (by simp) fun i av v h1 h2 => ?_
          simp only [List.getElem?_map, Option.map_eq_some_iff] at h1
          obtain ⟨u, hu, rfl⟩ := h1
          have : u = v := by
            have h3 : xs[i]? = some u := by simpa using hu
            rw [h2] at h3; cases h3; rfl
          subst this
          exact .rep (.lit (List.all_eq_true.1 hall u (List.mem_of_getElem? hu)))
        · cases hx
      · cases hx
  | func f => simp only [evO] at hx; cases hx; exact .fn rfl (by simp)
  | global g => cases hx

theorem Rel.lit_eq {s : Sg} {w : World} {v u : Value} (h : Rel s w (.lit v) u) : u = v := by
  cases h with
  | rep h => cases h; rfl

theorem AWP.cond {c : Operand} {x y : Code} {t : Bool} (hc : evO E c = some (.lit (.bool t))) (ht : t = true → AWP P C x Q E H nx) (hf : t = false → AWP P C y Q E H nx) :
    AWP P C (.cond c x y) Q E H nx := by
  intro s w a g
  exact wp_cond_split (Rel.lit_eq (evO_rel g.env hc)) (fun h => ht h s w a g) (fun h => hf h s w a g)

/-- A state that says less. -/
def ALe (C : Cx) (E : Env) (H : Hp) (nx : Nat) (E' : Env) (H' : Hp) (nx' : Nat) : Prop :=
  ∀ s w a, Gm C E H nx s w a → ∃ s', Gm C E' H' nx' s' w a

theorem ALe.refl : ALe C E H nx E H nx := fun s _ _ g => ⟨s, g⟩
theorem ALe.trans {E1 E2 : Env} {H1 H2 : Hp} {n1 n2 : Nat} (h : ALe C E H nx E1 H1 n1) (h' : ALe C E1 H1 n1 E2 H2 n2) : ALe C E H nx E2 H2 n2 :=
  fun s w a g => by obtain ⟨s1, g1⟩ := h s w a g; exact h' s1 w a g1

theorem AWP.weaken {c : Code} {E' : Env} {H' : Hp} {nx' : Nat} (h : ALe C E H nx E' H' nx') (h' : AWP P C c Q E' H' nx') : AWP P C c Q E H nx :=
  fun s w a g => by obtain ⟨s1, g1⟩ := h s w a g; exact h' s1 w a g1

theorem AWP.mono {c : Code} {Q' : APost} (h : AWP P C c Q' E H nx) (hq : ∀ e E H nx, Q' e E H nx → Q e E H nx) : AWP P C c Q E H nx :=
  fun s w a g => Go.wp_mono (h s w a g) fun _ _ _ ⟨s', E', H', nx', g', q⟩ => ⟨s', E', H', nx', g', hq _ _ _ _ q⟩

theorem exists_least (R : Nat → Prop) (h : ∃ k, R k) : ∃ k, R k ∧ ∀ j, R j → k ≤ j := by
  obtain ⟨k, hk⟩ := h
  induction k using Nat.strongRecOn with
  | _ k ih =>
    by_cases hl : ∃ j, j < k ∧ R j
    · obtain ⟨j, hj, hr⟩ := hl
      exact ih j hj hr
    · exact ⟨k, hk, fun j hj => Nat.le_of_not_lt fun hlt => hl ⟨j, hlt, hj⟩⟩

/-- A loop: what holds at each round's head, by what is left. -/
theorem AWP.loop {c : Code} {G : Type} (Ei : G → Env) (Hi : G → Hp) (ni : G → Nat) (m : G → Nat) (g0 : G) (h0 : ALe C E H nx (Ei g0) (Hi g0) (ni g0))
    (round : ∀ g, AWP P C c (APost.then (fun E' H' nx' => ∃ g', m g' < m g ∧ ALe C E' H' nx' (Ei g') (Hi g') (ni g')) Q) (Ei g) (Hi g) (ni g)) : AWP P C (.loop c) Q E H nx := by
  intro s w a g
  classical
  obtain ⟨s0, g0'⟩ := h0 s w a g
  let I : Act → World → Prop := fun a w => ∃ x s, Gm C (Ei x) (Hi x) (ni x) s w a
  let R : Act → World → Nat → Prop := fun a w k => ∃ x s, Gm C (Ei x) (Hi x) (ni x) s w a ∧ m x = k
  let μ : Act → World → Nat := fun a w => if h : ∃ k, R a w k then Classical.choose (exists_least _ h) else 0
  refine wp_loop I μ ⟨g0, s0, g0'⟩ ?_
  rintro a w hI
  have hex : ∃ k, R a w k := by obtain ⟨x, s, h⟩ := hI; exact ⟨m x, x, s, h, rfl⟩
  obtain ⟨x, s, hx, hm⟩ := (Classical.choose_spec (exists_least _ hex)).1
  have hμ : μ a w = m x := by simp only [μ, dif_pos hex]; exact hm.symm
  refine Go.wp_mono (round x s w a hx) ?_
  rintro e a' w' ⟨s', E', H', nx', g', hq⟩
  cases e with
  | normal =>
    obtain ⟨y, hlt, hle⟩ := hq
    obtain ⟨s2, g2⟩ := hle s' w' a' g'
    refine ⟨⟨y, s2, g2⟩, ?_⟩
    have hex' : ∃ k, R a' w' k := ⟨m y, y, s2, g2, rfl⟩
    have : μ a' w' ≤ m y := by simp only [μ, dif_pos hex']; exact (Classical.choose_spec (exists_least _ hex')).2 _ ⟨y, s2, g2, rfl⟩
    omega
  | _ => exact ⟨s', E', H', nx', g', hq⟩
end
end Go.Abs
end
section
namespace Go.Abs
variable [VL]

theorem Tr.refl (s : Sg) (w : World) : Tr s w s w where
  M := rfl
  n0 := rfl
  rho _ _ h := h
  size := Nat.le_refl _
  os := rfl
  tape := rfl
  output := rfl
  keep _ _ _ := rfl
  own k _ h h' := .inl ⟨k, h, h'⟩
  dead _ _ h := h
  arr _ fresh _ els h := .inr ⟨fresh, els, h, Nat.le_refl _, fun _ cs ty fz _ h => ⟨cs, ty, fz, h, rfl⟩⟩

theorem Post.refl {s : Sg} {w : World} (ok : OK s w) : Post s w [] [] s w := ⟨Tr.refl s w, ok, rfl, fun _ h _ => h⟩

section
variable {P : Program} {o : Oper} {E : Env} {H : Hp}

theorem AOp.value {fr : List Nat} {res : Option AV} {U : List (Nat × Option Blk)}
    (h : ∀ (s : Sg) (w : World) (a : Act), OK s w → (∀ t av, E t = some av → Rel s w av (a.tmps.getD t undef)) → (∀ k B, H k = some B → s.hp k = some B) → (∀ k, k ∈ fr → s.ρ k = none) →
      ∃ v s' w', (execOp a.eval o).run P w = .ok (.value v) w' ∧ Post s w fr U s' w' ∧ ∀ av, res = some av → Rel s' w' av v) : AOp P o E H fr res U := by
  intro s w a K Q ok hE hH hfr k
  obtain ⟨v, s', w', hr, hp, hres⟩ := h s w a ok hE hH hfr
  unfold Oper.wp
  rw [hr]
  exact k v s' w' hp hres

theorem AOp.skip {fr : List Nat} {U : List (Nat × Option Blk)}
    (h : ∀ (s : Sg) (w : World) (a : Act), OK s w → (∀ t av, E t = some av → Rel s w av (a.tmps.getD t undef)) → (∀ k B, H k = some B → s.hp k = some B) → (∀ k, k ∈ fr → s.ρ k = none) →
      ∃ s' w', (execOp a.eval o).run P w = .ok .skip w' ∧ Post s w fr U s' w') : AOp P o E H fr none U := by
  intro s w a K Q ok hE hH hfr k
  obtain ⟨s', w', hr, hp⟩ := h s w a ok hE hH hfr
  unfold Oper.wp
  rw [hr]
  show K (a.put o.dst undef) w'
  exact k undef s' w' hp (by simp)

/-- An operation that only reads. -/
theorem AOp.reads {res : AV}
    (h : ∀ (s : Sg) (w : World) (a : Act), OK s w → (∀ t av, E t = some av → Rel s w av (a.tmps.getD t undef)) → (∀ k B, H k = some B → s.hp k = some B) →
      ∃ v, (execOp a.eval o).run P w = .ok (.value v) w ∧ Rel s w res v) : AOp P o E H [] (some res) [] :=
  AOp.value fun s w a ok hE hH _ => by
    obtain ⟨v, hr, hv⟩ := h s w a ok hE hH
    exact ⟨v, s, w, hr, Post.refl ok, fun av e => by cases e; exact hv⟩

theorem AOp.move {x : Operand} {av : AV} (ho : o.op = .move x) (hx : evO E x = some av) : AOp P o E H [] (some av) [] :=
  AOp.reads fun s w a _ hE _ => ⟨a.eval x, by simp [execOp, ho], evO_rel hE hx⟩
theorem AOp.assign {x : Operand} {av : AV} (ho : o.op = .assign x) (hx : evO E x = some av) : AOp P o E H [] (some av) [] :=
  AOp.reads fun s w a _ hE _ => ⟨a.eval x, by simp [execOp, ho], evO_rel hE hx⟩
/-- what is moved is not known, nor asked for -/
theorem AOp.moved {x : Operand} (ho : o.op = .move x) : AOp P o E H [] none [] :=
  AOp.value fun s w a ok _ _ _ => ⟨a.eval x, s, w, by simp [execOp, ho], Post.refl ok, by simp⟩

theorem AOp.pick {c x y : Operand} {b : Bool} {av : AV} (ho : o.op = .pick c x y) (hc : evO E c = some (.lit (.bool b))) (hx : (if b then evO E x else evO E y) = some av) : AOp P o E H [] (some av) [] :=
  AOp.reads fun s w a _ hE _ => by
    have h1 := Rel.lit_eq (evO_rel hE hc)
    cases b with
    | true => exact ⟨a.eval x, by simp [execOp, ho, h1, asBool], evO_rel hE hx⟩
    | false => exact ⟨a.eval y, by simp [execOp, ho, h1, asBool], evO_rel hE hx⟩

/-! ### whole numbers, bools, strings -/
theorem AOp.bin {op : BinOp} {t u : TypeId} {x y : Operand} {p q r : Value} (ho : o.op = .binOp op t x y u) (hx : evO E x = some (.lit p)) (hy : evO E y = some (.lit q))
    (hr : ∀ w : World, (do eqGuard op t x y p q; binOp op t p q : Sem Value).run P w = .ok r w) (h1 : r.oneCell' = true) : AOp P o E H [] (some (.lit r)) [] :=
  AOp.reads fun s w a _ hE _ => by
    have e1 := Rel.lit_eq (evO_rel hE hx)
    have e2 := Rel.lit_eq (evO_rel hE hy)
    refine ⟨r, ?_, .rep (.lit h1)⟩
    simp only [execOp, ho, e1, e2]
    rw [Sem.run_bind, hr w]
    rfl

theorem AOp.iadd {t u : TypeId} {x y : Operand} {k : IntKind} {p q r : Int} (ho : o.op = .binOp .add t x y u) (hx : evO E x = some (.lit (.int k p))) (hy : evO E y = some (.lit (.int k q)))
    (hr : k.wrap (p + q) = r) : AOp P o E H [] (some (.lit (.int k r))) [] :=
  AOp.bin ho hx hy (fun w => by rw [eqGuard_add, binOp_add]; simp [Op.intArith, hr]) rfl
theorem AOp.isub {t u : TypeId} {x y : Operand} {k : IntKind} {p q r : Int} (ho : o.op = .binOp .sub t x y u) (hx : evO E x = some (.lit (.int k p))) (hy : evO E y = some (.lit (.int k q)))
    (hr : k.wrap (p - q) = r) : AOp P o E H [] (some (.lit (.int k r))) [] :=
  AOp.bin ho hx hy (fun w => by rw [eqGuard_sub, binOp_sub]; simp [Op.intArith, hr]) rfl
theorem AOp.imul {t u : TypeId} {x y : Operand} {k : IntKind} {p q r : Int} (ho : o.op = .binOp .mul t x y u) (hx : evO E x = some (.lit (.int k p))) (hy : evO E y = some (.lit (.int k q)))
    (hr : k.wrap (p * q) = r) : AOp P o E H [] (some (.lit (.int k r))) [] :=
  AOp.bin ho hx hy (fun w => by rw [eqGuard_mul, binOp_mul]; simp [Op.intArith, hr]) rfl
theorem AOp.ilss {t u : TypeId} {x y : Operand} {k : IntKind} {p q : Int} (ho : o.op = .binOp .lss t x y u) (hx : evO E x = some (.lit (.int k p))) (hy : evO E y = some (.lit (.int k q))) : AOp P o E H [] (some (.lit (.bool (decide (p < q))))) [] :=
  AOp.bin ho hx hy (fun w => by rw [eqGuard_lss, binOp_lss]; simp) rfl
theorem AOp.ileq {t u : TypeId} {x y : Operand} {k : IntKind} {p q : Int} (ho : o.op = .binOp .leq t x y u) (hx : evO E x = some (.lit (.int k p))) (hy : evO E y = some (.lit (.int k q))) : AOp P o E H [] (some (.lit (.bool (decide (p ≤ q))))) [] :=
  AOp.bin ho hx hy (fun w => by rw [eqGuard_leq, binOp_leq]; simp) rfl
theorem AOp.igtr {t u : TypeId} {x y : Operand} {k : IntKind} {p q : Int} (ho : o.op = .binOp .gtr t x y u) (hx : evO E x = some (.lit (.int k p))) (hy : evO E y = some (.lit (.int k q))) : AOp P o E H [] (some (.lit (.bool (decide (q < p))))) [] :=
  AOp.bin ho hx hy (fun w => by rw [eqGuard_gtr, binOp_gtr]; simp) rfl
theorem AOp.igeq {t u : TypeId} {x y : Operand} {k : IntKind} {p q : Int} (ho : o.op = .binOp .geq t x y u) (hx : evO E x = some (.lit (.int k p))) (hy : evO E y = some (.lit (.int k q))) : AOp P o E H [] (some (.lit (.bool (decide (q ≤ p))))) [] :=
  AOp.bin ho hx hy (fun w => by rw [eqGuard_geq, binOp_geq]; simp) rfl
theorem AOp.ieql {t u : TypeId} {x y : Operand} {k : IntKind} {p q : Int} (ho : o.op = .binOp .eql t x y u) (hx : evO E x = some (.lit (.int k p))) (hy : evO E y = some (.lit (.int k q))) : AOp P o E H [] (some (.lit (.bool (decide (p = q))))) [] :=
  AOp.bin ho hx hy (fun w => by rw [eqGuard_at_int, binOp_eql]; simp [BEq.beq]) rfl
theorem AOp.ineq {t u : TypeId} {x y : Operand} {k : IntKind} {p q : Int} (ho : o.op = .binOp .neq t x y u) (hx : evO E x = some (.lit (.int k p))) (hy : evO E y = some (.lit (.int k q))) : AOp P o E H [] (some (.lit (.bool (!decide (p = q))))) [] :=
  AOp.bin ho hx hy (fun w => by rw [eqGuard_at_int, binOp_neq]; simp [bne, BEq.beq]) rfl
/-- any operator on two whole numbers, told by its own equation -/
theorem AOp.iany {op : BinOp} {t u : TypeId} {x y : Operand} {k k' k'' : IntKind} {p q r : Int} (ho : o.op = .binOp op t x y u) (hx : evO E x = some (.lit (.int k p))) (hy : evO E y = some (.lit (.int k' q)))
    (hr : binOp op t (.int k p) (.int k' q) = pure (.int k'' r)) : AOp P o E H [] (some (.lit (.int k'' r))) [] :=
  AOp.bin ho hx hy (fun w => by rw [eqGuard_at_int, hr]; simp) rfl

theorem AOp.sadd {t u : TypeId} {x y : Operand} {p q : ByteArray} (ho : o.op = .binOp .add t x y u) (hx : evO E x = some (.lit (.string p))) (hy : evO E y = some (.lit (.string q)))
    (hl : p.size + q.size ≤ 9223372036854775807) : AOp P o E H [] (some (.lit (.string (p ++ q)))) [] :=
  AOp.bin ho hx hy (fun w => by
    have : ¬ (((p.size + q.size : Nat) : Int) > IntKind.i64.max) := by rw [IntKind.max_i64]; omega
    rw [eqGuard_add]
    simp only [binOp, Op.stringOp, if_neg this]
    rfl) rfl
theorem bytes_eq (p q : ByteArray) : (p.toList == q.toList) = decide (p = q) := by
  by_cases h : p = q
  · subst h; simp
  · have : p.toList ≠ q.toList := fun e => h (by
      apply ByteArray.ext
      apply Array.ext'
      rw [← ByteArray.toList_eq, ← ByteArray.toList_eq]
      exact e)
    simp [h, this]
theorem AOp.seql {t u : TypeId} {x y : Operand} {p q : ByteArray} (ho : o.op = .binOp .eql t x y u) (hx : evO E x = some (.lit (.string p))) (hy : evO E y = some (.lit (.string q))) : AOp P o E H [] (some (.lit (.bool (decide (p = q))))) [] :=
  AOp.bin ho hx hy (fun w => by rw [eqGuard_at_string]; simp only [binOp, Op.stringOp, bytes_eq]; rfl) rfl
theorem AOp.sneq {t u : TypeId} {x y : Operand} {p q : ByteArray} (ho : o.op = .binOp .neq t x y u) (hx : evO E x = some (.lit (.string p))) (hy : evO E y = some (.lit (.string q))) : AOp P o E H [] (some (.lit (.bool (!decide (p = q))))) [] :=
  AOp.bin ho hx hy (fun w => by rw [eqGuard_at_string]; simp only [binOp, Op.stringOp, bytes_eq]; rfl) rfl
theorem AOp.slss {t u : TypeId} {x y : Operand} {p q : ByteArray} (ho : o.op = .binOp .lss t x y u) (hx : evO E x = some (.lit (.string p))) (hy : evO E y = some (.lit (.string q))) : AOp P o E H [] (some (.lit (.bool (Op.bytesLess p.toList q.toList)))) [] :=
  AOp.bin ho hx hy (fun w => by rw [eqGuard_lss]; simp only [binOp, Op.stringOp]; rfl) rfl
theorem AOp.beql {t u : TypeId} {x y : Operand} {p q : Bool} (ht : P.underlying t = some .bool) (ho : o.op = .binOp .eql t x y u) (hx : evO E x = some (.lit (.bool p))) (hy : evO E y = some (.lit (.bool q))) : AOp P o E H [] (some (.lit (.bool (p == q)))) [] :=
  AOp.bin ho hx hy (fun w => by rw [eqGuard_at_bool]; simp [binOp, run_equal_bool _ _ _ _ ht]) rfl
theorem AOp.bneq {t u : TypeId} {x y : Operand} {p q : Bool} (ht : P.underlying t = some .bool) (ho : o.op = .binOp .neq t x y u) (hx : evO E x = some (.lit (.bool p))) (hy : evO E y = some (.lit (.bool q))) : AOp P o E H [] (some (.lit (.bool (!(p == q))))) [] :=
  AOp.bin ho hx hy (fun w => by rw [eqGuard_at_bool]; simp [binOp, run_equal_bool _ _ _ _ ht]) rfl

theorem AOp.not {t : TypeId} {x : Operand} {p : Bool} (ho : o.op = .unOp .not t x) (hx : evO E x = some (.lit (.bool p))) : AOp P o E H [] (some (.lit (.bool (!p)))) [] :=
  AOp.reads fun s w a _ hE _ => ⟨.bool !p, by simp [execOp, ho, Rel.lit_eq (evO_rel hE hx), Op.unary], .rep (.lit rfl)⟩
theorem AOp.neg {t : TypeId} {x : Operand} {k : IntKind} {p r : Int} (ho : o.op = .unOp .neg t x) (hx : evO E x = some (.lit (.int k p))) (hr : k.wrap (0 - p) = r) : AOp P o E H [] (some (.lit (.int k r))) [] :=
  AOp.reads fun s w a _ hE _ => ⟨.int k r, by simp only [execOp, ho, Rel.lit_eq (evO_rel hE hx), Op.unary, Op.intArith, hr]; rfl, .rep (.lit rfl)⟩

theorem AOp.cint {src dst : TypeId} {x : Operand} {k k' : IntKind} {p r : Int} (hs : (P.underlying src).isSome = true) (hd : P.underlying dst = some (.int k')) (ho : o.op = .convert src dst x) (hx : evO E x = some (.lit (.int k p)))
    (hr : k'.wrap p = r) : AOp P o E H [] (some (.lit (.int k' r))) [] :=
  AOp.reads fun s w a _ hE _ => ⟨.int k' r, by
    obtain ⟨d, hd'⟩ := Option.isSome_iff_exists.1 hs
    simp only [execOp, ho, Rel.lit_eq (evO_rel hE hx), convert]
    simp [run_underlying hd', run_underlying hd, Conv.intToInt, hr], .rep (.lit rfl)⟩

theorem AOp.extract {x : Operand} {xs : List AV} {i : Nat} {av : AV} (ho : o.op = .extract x i) (hx : evO E x = some (.tup xs)) (hi : xs[i]? = some av) : AOp P o E H [] (some av) [] :=
  AOp.reads fun s w a _ hE _ => by
    have h := evO_rel hE hx
    generalize hv : a.eval x = u at h
    cases h with
    | rep h => cases h
    | tup hl h =>
      rename_i vs
      have hlt : i < xs.length := (List.getElem?_eq_some_iff.1 hi).1
      have hg : vs[i]? = some (vs[i]'(by omega)) := Array.getElem?_eq_getElem _
      refine ⟨vs[i]'(by omega), ?_, h i av _ hi hg⟩
      simp [execOp, ho, hv, Instr.extract, hg]

/-! ### addresses -/
theorem addr_add (b o n : Nat) : (⟨b, o, none⟩ : Addr).add n = ⟨b, o + n, none⟩ := Addr.add_lit b o n

def fieldOff (P : Program) (t : TypeId) (i : Nat) : Option Nat :=
  match P.underlying t with
  | some (.struct fs) => match fs[i]? with
    | some f => match P.info? f.type with
      | some inf => if inf.size = 0 then none else some f.offset
      | none => none
    | none => none
  | _ => none

theorem run_fieldAt {t : TypeId} {i off : Nat} (h : fieldOff P t i = some off) (b e : Nat) (w : World) :
    (Instr.fieldAt t (.pointer (some ⟨b, e, none⟩)) i).run P w = .ok (.pointer (some ⟨b, e + off, none⟩)) w := by
  unfold fieldOff at h
  split at h
  · rename_i fs hu
    split at h
    · rename_i f hf
      split at h
      · rename_i inf hi
        split at h
        · cases h
        · rename_i hz
          cases h
          simp [Instr.fieldAt, run_underlying hu, hf, Instr.sureAddr, fieldPlace, sizeOf, typeInfo, hi, hz, addr_add]
      · cases h
    · cases h
  · cases h

theorem AOp.faddr {t : TypeId} {x : Operand} {i off k esz e j : Nat} (hf : fieldOff P t i = some off) (ho : o.op = .fieldAddr t x i) (hx : evO E x = some (.ptr k esz e j)) : AOp P o E H [] (some (.ptr k esz e (j + off))) [] :=
  AOp.reads fun s w a _ hE _ => by
    have h := evO_rel hE hx
    generalize hv : a.eval x = u at h
    cases h with
    | rep h => cases h
    | ptr h => exact ⟨_, by simp only [execOp, ho, hv, Sem.run_bind, run_fieldAt hf]; rfl, by rw [Nat.add_assoc]; exact .ptr h⟩
theorem AOp.faddr_rp {t : TypeId} {x : Operand} {i off j : Nat} {xs : List AV} (hf : fieldOff P t i = some off) (ho : o.op = .fieldAddr t x i) (hx : evO E x = some (.rp xs j)) : AOp P o E H [] (some (.rp xs (j + off))) [] :=
  AOp.reads fun s w a _ hE _ => by
    have h := evO_rel hE hx
    generalize hv : a.eval x = u at h
    cases h with
    | rep h =>
      cases h with
      | rp c hF hb hc hr => exact ⟨_, by simp only [execOp, ho, hv, Sem.run_bind, run_fieldAt hf]; rfl, by rw [Nat.add_assoc]; exact .rep (.rp c hF hb hc hr)⟩
theorem AOp.faddr_fr {t : TypeId} {x : Operand} {i off j : Nat} {xs : List AV} (hf : fieldOff P t i = some off) (ho : o.op = .fieldAddr t x i) (hx : evO E x = some (.fr (.rp xs j))) : AOp P o E H [] (some (.fr (.rp xs (j + off)))) [] :=
  AOp.reads fun s w a _ hE _ => by
    have h := evO_rel hE hx
    generalize hv : a.eval x = u at h
    cases h with
    | rep h => cases h
    | fr h =>
      cases h with
      | rp c hF hb hc hr => exact ⟨_, by simp only [execOp, ho, hv, Sem.run_bind, run_fieldAt hf]; rfl, by rw [Nat.add_assoc]; exact .fr (.rp c hF hb hc hr)⟩

def AV.there : AV → Bool
  | .ptr .. => true
  | .rp .. => true
  | .fr (.rp ..) => true
  | _ => false
theorem AOp.nilCheck {x : Operand} {av : AV} (ho : o.op = .nilCheck x) (hx : evO E x = some av) (hn : av.there = true) : AOp P o E H [] (some av) [] :=
  AOp.reads fun s w a _ hE _ => by
    have h := evO_rel hE hx
    generalize hv : a.eval x = u at h
    have hh := h
    cases h with
    | ptr h => exact ⟨_, by simp [execOp, ho, hv], hh⟩
    | rep h =>
      cases h with
      | rp => exact ⟨_, by simp [execOp, ho, hv], hh⟩
      | _ => cases hn
    | fr h =>
      cases h with
      | rp => exact ⟨_, by simp [execOp, ho, hv], hh⟩
      | _ => cases hn
    | _ => cases hn

/-- an index that lies in a slice: 'e' its place, 'e' and 'i' one number -/
theorem run_indexAt_in {t el : TypeId} {size : Nat} (ht : P.underlying t = some (.slice el)) (hs : (P.info? el).map (·.size) = some size) (b off n cap : Nat) (k : IntKind) (j : Nat) (hj : j < n) (w : World) :
    (Instr.indexAt t (.slice (some ⟨b, off, none⟩) n cap) (.int k (j : Int))).run P w = .ok (.pointer (some ⟨b, off + j * size, none⟩)) w := by
  obtain ⟨i, hi, rfl⟩ := Option.map_eq_some_iff.1 hs
  simp [Instr.indexAt, asIntOf, run_underlying ht, sizeOf, typeInfo, hi, addr_add, hj]

theorem AOp.iaddr_sl {t el : TypeId} {x y : Operand} {k esz off n j : Nat} {i : Int} {kd : IntKind} (ht : P.underlying t = some (.slice el)) (hs : (P.info? el).map (·.size) = some esz)
    (ho : o.op = .indexAddr t x y) (hx : evO E x = some (.sl k esz off n)) (hy : evO E y = some (.lit (.int kd i))) (hi : i = (j : Int)) (hj : j < n) (hk : H k ≠ none) : AOp P o E H [] (some (.ptr k esz (off + j) 0)) [] :=
  AOp.reads fun s w a _ hE hH => by
    have h := evO_rel hE hx
    have e2 := Rel.lit_eq (evO_rel hE hy)
    generalize hv : a.eval x = u at h
    subst hi
    cases h with
    | rep h => cases h
    | slg hr hp =>
      cases hB : H k with
      | none => exact absurd hB hk
      | some B => rw [hH k B hB] at hp; cases hp
    | @sl _ _ _ _ b cap fr els cs ty fz hr hp hle hb hn hc hsz =>
      refine ⟨.pointer (some ⟨b, off * esz + j * esz, none⟩), ?_, ?_⟩
      · simp only [execOp, ho, hv, e2, Sem.run_bind, run_indexAt_in ht hs b _ n cap kd j hj]; rfl
      · rw [← Nat.add_mul]; exact .ptr hr
    | sln h => omega
theorem AOp.iaddr_ro {t el : TypeId} {x y : Operand} {esz j : Nat} {xs : List (List AV)} {row : List AV} {i : Int} {kd : IntKind} (ht : P.underlying t = some (.slice el)) (hs : (P.info? el).map (·.size) = some esz)
    (ho : o.op = .indexAddr t x y) (hx : evO E x = some (.ro esz xs)) (hy : evO E y = some (.lit (.int kd i))) (hi : i = (j : Int)) (hj : xs[j]? = some row) : AOp P o E H [] (some (.rp row 0)) [] :=
  AOp.reads fun s w a _ hE hH => by
    have h := evO_rel hE hx
    have e2 := Rel.lit_eq (evO_rel hE hy)
    generalize hv : a.eval x = u at h
    subst hi
    have hlt : j < xs.length := (List.getElem?_eq_some_iff.1 hj).1
    cases h with
    | rep h =>
      cases h with
      | nil => simp at hlt
      | @ro _ _ b off cap c hF hb hn hc hrow hcell hrep =>
        refine ⟨.pointer (some ⟨b, off + j * esz, none⟩), ?_, ?_⟩
        · simp only [execOp, ho, hv, e2, Sem.run_bind, run_indexAt_in ht hs b _ xs.length cap kd j hlt]; rfl
        · exact .rep (.rp (o := 0) (off := off + j * esz) (c j) hF hb (fun i av hi => by rw [Nat.add_assoc]; exact hcell j row i av hj hi) (fun i av hi => hrep j row i av hj hi))
theorem AOp.iaddr_fr {t el : TypeId} {x y : Operand} {esz j : Nat} {xs : List (List AV)} {row : List AV} {i : Int} {kd : IntKind} (ht : P.underlying t = some (.slice el)) (hs : (P.info? el).map (·.size) = some esz)
    (ho : o.op = .indexAddr t x y) (hx : evO E x = some (.fr (.ro esz xs))) (hy : evO E y = some (.lit (.int kd i))) (hi : i = (j : Int)) (hj : xs[j]? = some row) : AOp P o E H [] (some (.fr (.rp row 0))) [] :=
  AOp.reads fun s w a _ hE hH => by
    have h := evO_rel hE hx
    have e2 := Rel.lit_eq (evO_rel hE hy)
    generalize hv : a.eval x = u at h
    subst hi
    have hlt : j < xs.length := (List.getElem?_eq_some_iff.1 hj).1
    cases h with
    | rep h => cases h
    | fr h =>
      cases h with
      | nil => simp at hlt
      | @ro _ _ b off cap c hF hb hn hc hrow hcell hrep =>
        refine ⟨.pointer (some ⟨b, off + j * esz, none⟩), ?_, ?_⟩
        · simp only [execOp, ho, hv, e2, Sem.run_bind, run_indexAt_in ht hs b _ xs.length cap kd j hlt]; rfl
        · exact .fr (.rp (o := 0) (off := off + j * esz) (c j) hF hb (fun i av hi => by rw [Nat.add_assoc]; exact hcell j row i av hj hi) (fun i av hi => hrep j row i av hj hi))
/-- an array in a variable, at a place that is known -/
theorem AOp.iaddr_arr {t el : TypeId} {x y : Operand} {k size len j off : Nat} {i : Int} {kd : IntKind} (ht : P.underlying t = some (.array len el)) (hs : (P.info? el).map (·.size) = some size)
    (ho : o.op = .indexAddr t x y) (hx : evO E x = some (.ptr k 0 0 off)) (hy : evO E y = some (.lit (.int kd i))) (hi : i = (j : Int)) (hj : j < len) : AOp P o E H [] (some (.ptr k 0 0 (off + j * size))) [] :=
  AOp.reads fun s w a _ hE hH => by
    have h := evO_rel hE hx
    have e2 := Rel.lit_eq (evO_rel hE hy)
    generalize hv : a.eval x = u at h
    subst hi
    obtain ⟨inf, hi, rfl⟩ := Option.map_eq_some_iff.1 hs
    cases h with
    | rep h => cases h
    | ptr h =>
      rename_i b
      refine ⟨.pointer (some ⟨b, 0 * 0 + off + j * inf.size, none⟩), ?_, ?_⟩
      · simp [execOp, ho, hv, e2, Instr.indexAt, asIntOf, run_underlying ht, sizeOf, typeInfo, hi, addr_add, hj, Instr.sureAddr]
      · rw [Nat.add_assoc]; exact .ptr h

/-! ### reads -/
def isAggT (P : Program) (t : TypeId) : Option Bool :=
  match P.underlying t with
  | some (.struct _) | some (.array _ _) => some true
  | some _ => some false
  | none => none

theorem run_isAgg {t : TypeId} {b : Bool} (h : isAggT P t = some b) (w : World) : (isAgg t).run P w = .ok b w := by
  unfold isAggT at h
  split at h
  · rename_i hu; cases h; simp [isAgg, run_underlying hu]
  · rename_i hu; cases h; simp [isAgg, run_underlying hu]
  · rename_i d hs ha hu
    cases h
    unfold isAgg
    rw [Sem.run_bind, run_underlying hu]
    cases d <;> first | rfl | exact absurd rfl (hs _ ‹_›) | exact absurd rfl (ha _ _ ‹_›) | (exfalso; simp_all)
  · cases h

theorem run_loadVar_one {t : TypeId} (h : isAggT P t = some false) {w : World} {a : Addr} {v : Value} (hc : w.cell? a = some v) : (loadVar t a).run P w = .ok v w := by
  simp [loadVar, run_isAgg h, hc]

theorem run_loadVar_agg {t : TypeId} (h : isAggT P t = some true) {size : Nat} (hs : (P.info? t).map (·.size) = some size) {w : World} {b off : Nat} (vs : List Value) (hl : vs.length = size)
    (hc : ∀ j v, vs[j]? = some v → w.cell? ⟨b, off + j, none⟩ = some v) : (loadVar t ⟨b, off, none⟩).run P w = .ok (.agg vs.toArray) w := by
  obtain ⟨i, hi, rfl⟩ := Option.map_eq_some_iff.1 hs
  have hh := run_loadCells_list (P := P) w ⟨b, off, none⟩ vs (fun j v hv => by rw [addr_add]; exact hc j v hv)
  rw [hl] at hh
  simp [loadVar, run_isAgg h, sizeOf, typeInfo, hi, hh]

theorem AOp.load1 {t : TypeId} {x : Operand} {k off : Nat} {cells : List AV} {av : AV} (ha : isAggT P t = some false) (ho : o.op = .load t x) (hx : evO E x = some (.ptr k 0 0 off)) (hH : H k = some (.box cells)) (hi : cells[off]? = some av) :
    AOp P o E H [] (some av) [] :=
  AOp.reads fun s w a ok hE hH' => by
    have h := evO_rel hE hx
    generalize hv : a.eval x = u at h
    cases h with
    | rep h => cases h
    | ptr h =>
      rename_i b
      obtain ⟨y, hy, b', cs, ty, rfl, hb, hl, hr⟩ := ok.blk k _ (hH' k _ hH)
      rw [h] at hy
      cases hy
      have hlt : off < cells.length := (List.getElem?_eq_some_iff.1 hi).1
      have hg : cs[off]? = some (cs[off]'(by omega)) := Array.getElem?_eq_getElem _
      refine ⟨cs[off]'(by omega), ?_, hr off av _ hi hg⟩
      have hc : w.cell? ⟨b, 0 * 0 + off, none⟩ = some (cs[off]'(by omega)) := by rw [cell_of_row w b _ cs ty (0, 0) hb, Nat.zero_mul, Nat.zero_add]; exact hg
      simp only [execOp, ho, hv, Instr.loadAt, Instr.sureAddr, Sem.run_bind, Sem.run_pure, Result.andThen_ok, run_loadVar_one ha hc]
theorem AOp.loadN {t : TypeId} {x : Operand} {k off size : Nat} {cells : List AV} (ha : isAggT P t = some true) (hs : (P.info? t).map (·.size) = some size) (ho : o.op = .load t x) (hx : evO E x = some (.ptr k 0 0 off)) (hH : H k = some (.box cells))
    (hi : off + size ≤ cells.length) : AOp P o E H [] (some (.agg ((cells.drop off).take size))) [] :=
  AOp.reads fun s w a ok hE hH' => by
    have h := evO_rel hE hx
    generalize hv : a.eval x = u at h
    cases h with
    | rep h => cases h
    | ptr h =>
      rename_i b
      obtain ⟨y, hy, b', cs, ty, rfl, hb, hl, hr⟩ := ok.blk k _ (hH' k _ hH)
      rw [h] at hy
      cases hy
      have hrun := run_loadVar_agg (P := P) (b := b) (off := 0 * 0 + off) (w := w) ha hs ((cs.toList.drop off).take size) (by simp; omega) (fun j v hv => by
        rw [cell_of_row w b _ cs ty (0, 0) hb]
        simp only [List.getElem?_take, List.getElem?_drop] at hv
        split at hv
        · simpa using hv
        · cases hv)
      refine ⟨.agg ((cs.toList.drop off).take size).toArray, by simp only [execOp, ho, hv, Instr.loadAt, Instr.sureAddr, Sem.run_bind, Sem.run_pure, Result.andThen_ok, hrun], .agg (by simp; omega) fun i av v h1 h2 => ?_⟩
      simp only [List.getElem?_take, List.getElem?_drop] at h1
      simp only [List.getElem?_toArray, List.getElem?_take, List.getElem?_drop] at h2
      split at h1
      · rename_i hlt
        rw [if_pos hlt] at h2
        exact hr _ av v h1 (by simpa using h2)
      · cases h1
theorem rep_row {F : Nat → Prop} {w : World} {xs : List AV} {j : Nat} {p : Value} (h : Rep F w (.rp xs j) p) : ∃ (b off : Nat) (c : Nat → Value), p = .pointer (some ⟨b, off + j, none⟩) ∧ ¬ F b ∧
    (∀ (i : Nat) (av : AV), xs[i]? = some av → w.cell? ⟨b, off + i, none⟩ = some (c i)) ∧ ∀ (i : Nat) (av : AV), xs[i]? = some av → Rep F w av (c i) := by
  cases h with
  | rp c hF hb hc hr => exact ⟨_, _, c, rfl, hF, hc, hr⟩
theorem load_row1 {F : Nat → Prop} {w : World} {xs : List AV} {j : Nat} {p : Value} {av : AV} {t : TypeId} (ha : isAggT P t = some false) (h : Rep F w (.rp xs j) p) (hi : xs[j]? = some av) :
    ∃ v, (Instr.loadAt t p).run P w = .ok v w ∧ Rep F w av v := by
  obtain ⟨b, off, c, rfl, _, hc, hr⟩ := rep_row h
  exact ⟨c j, by simp [Instr.loadAt, Instr.sureAddr, run_loadVar_one ha (hc j av hi)], hr j av hi⟩
theorem load_rowN {F : Nat → Prop} {w : World} {xs : List AV} {j size : Nat} {p : Value} {t : TypeId} (ha : isAggT P t = some true) (hs : (P.info? t).map (·.size) = some size) (h : Rep F w (.rp xs j) p) (hi : j + size ≤ xs.length) :
    ∃ vs : Array Value, (Instr.loadAt t p).run P w = .ok (.agg vs) w ∧ vs.size = size ∧ ∀ (i : Nat) (av : AV) (v : Value), ((xs.drop j).take size)[i]? = some av → vs[i]? = some v → Rep F w av v := by
  obtain ⟨b, off, c, rfl, _, hc, hr⟩ := rep_row h
  have hrun := run_loadVar_agg (P := P) (b := b) (off := off + j) (w := w) ha hs ((List.range size).map fun i => c (j + i)) (by simp) (fun i v hv => by
    simp only [List.getElem?_map, Option.map_eq_some_iff, List.getElem?_range'] at hv
    obtain ⟨i', h1, rfl⟩ := hv
    obtain ⟨h2, h3⟩ := List.getElem?_eq_some_iff.1 h1
    simp at h2 h3
    subst h3
    rw [Nat.add_assoc]
    exact hc (j + i) _ (List.getElem?_eq_getElem (by omega)))
  refine ⟨((List.range size).map fun i => c (j + i)).toArray, by simp only [Instr.loadAt, Instr.sureAddr, Sem.run_bind, Sem.run_pure, Result.andThen_ok, hrun], by simp, fun i av v h1 h2 => ?_⟩
  simp only [List.getElem?_take, List.getElem?_drop] at h1
  split at h1
  · rename_i hlt
    have : v = c (j + i) := by
      simp only [List.getElem?_toArray, List.getElem?_map, Option.map_eq_some_iff] at h2
      obtain ⟨i', h3, rfl⟩ := h2
      obtain ⟨h4, h5⟩ := List.getElem?_eq_some_iff.1 h3
      simp at h5
      rw [h5]
    subst this
    exact hr _ av h1
  · cases h1
theorem AOp.rload1 {t : TypeId} {x : Operand} {j : Nat} {xs : List AV} {av : AV} (ha : isAggT P t = some false) (ho : o.op = .load t x) (hx : evO E x = some (.rp xs j)) (hi : xs[j]? = some av) : AOp P o E H [] (some av) [] :=
  AOp.reads fun s w a _ hE _ => by
    have h := evO_rel hE hx
    generalize hv : a.eval x = u at h
    cases h with
    | rep h =>
      obtain ⟨v, hrun, hrep⟩ := load_row1 ha h hi
      exact ⟨v, by simp only [execOp, ho, hv, Sem.run_bind, hrun]; rfl, .rep hrep⟩
theorem AOp.rloadN {t : TypeId} {x : Operand} {j size : Nat} {xs : List AV} (ha : isAggT P t = some true) (hs : (P.info? t).map (·.size) = some size) (ho : o.op = .load t x) (hx : evO E x = some (.rp xs j)) (hi : j + size ≤ xs.length) :
    AOp P o E H [] (some (.agg ((xs.drop j).take size))) [] :=
  AOp.reads fun s w a _ hE _ => by
    have h := evO_rel hE hx
    generalize hv : a.eval x = u at h
    cases h with
    | rep h =>
      obtain ⟨vs, hrun, hsz, hrep⟩ := load_rowN ha hs h hi
      exact ⟨.agg vs, by simp only [execOp, ho, hv, Sem.run_bind, hrun]; rfl, .agg (by simp [hsz]; omega) fun i av v h1 h2 => .rep (hrep i av v h1 h2)⟩
theorem AOp.fload1 {t : TypeId} {x : Operand} {j : Nat} {xs : List AV} {av : AV} (ha : isAggT P t = some false) (ho : o.op = .load t x) (hx : evO E x = some (.fr (.rp xs j))) (hi : xs[j]? = some av) : AOp P o E H [] (some (.fr av)) [] :=
  AOp.reads fun s w a _ hE _ => by
    have h := evO_rel hE hx
    generalize hv : a.eval x = u at h
    cases h with
    | rep h => cases h
    | fr h =>
      obtain ⟨v, hrun, hrep⟩ := load_row1 ha h hi
      exact ⟨v, by simp only [execOp, ho, hv, Sem.run_bind, hrun]; rfl, .fr hrep⟩
theorem AOp.floadN {t : TypeId} {x : Operand} {j size : Nat} {xs : List AV} (ha : isAggT P t = some true) (hs : (P.info? t).map (·.size) = some size) (ho : o.op = .load t x) (hx : evO E x = some (.fr (.rp xs j))) (hi : j + size ≤ xs.length) :
    AOp P o E H [] (some (.agg (((xs.drop j).take size).map .fr))) [] :=
  AOp.reads fun s w a _ hE _ => by
    have h := evO_rel hE hx
    generalize hv : a.eval x = u at h
    cases h with
    | rep h => cases h
    | fr h =>
      obtain ⟨vs, hrun, hsz, hrep⟩ := load_rowN ha hs h hi
      refine ⟨.agg vs, by simp only [execOp, ho, hv, Sem.run_bind, hrun]; rfl, .agg (by simp [hsz]; omega) fun i av v h1 h2 => ?_⟩
      rw [List.getElem?_map, Option.map_eq_some_iff] at h1
      obtain ⟨x, hx, rfl⟩ := h1
      exact .fr (hrep i x v hx h2)
/-- out of an array of the call's own -/
theorem own_row {s : Sg} {w : World} (ok : OK s w) {k esz e : Nat} {fresh : Bool} {els : List (List AV)} {row : List AV} (hk : s.hp k = some (.arr fresh esz els)) (he : els[e]? = some row) {j b : Nat} (hb : s.ρ k = some (some b)) :
    ∃ cs ty, w.heap[b]? = some (.cells cs ty (0, 0)) ∧ row.length = esz ∧ els.length * esz ≤ cs.size ∧ ∀ (i : Nat) (av : AV), row[i]? = some av → ∃ v, cs[e * esz + i]? = some v ∧ ElR fresh s w av v := by
  obtain ⟨y, hy, hok⟩ := ok.blk k _ hk
  rw [hb] at hy
  cases hy
  rcases hok with ⟨h, _⟩ | ⟨b', cs, ty, e1, h1, h2, h3, h4⟩
  · cases h
  · cases e1
    exact ⟨cs, ty, h1, h3 e row he, h2, fun i av hi => h4 e row i av he hi⟩
def AV.as (fresh : Bool) (x : AV) : AV := if fresh then .fr x else x
theorem rel_as {s : Sg} {w : World} {fresh : Bool} {x : AV} {v : Value} (h : ElR fresh s w x v) : Rel s w (x.as fresh) v := by
  cases fresh
  · exact h.1
  · exact .fr h
theorem AOp.aload1 {t : TypeId} {x : Operand} {k esz e j : Nat} {fresh : Bool} {els : List (List AV)} {row : List AV} {av : AV} (ha : isAggT P t = some false) (ho : o.op = .load t x) (hx : evO E x = some (.ptr k esz e j)) (hH : H k = some (.arr fresh esz els))
    (he : els[e]? = some row) (hi : row[j]? = some av) : AOp P o E H [] (some (av.as fresh)) [] :=
  AOp.reads fun s w a ok hE hH' => by
    have h := evO_rel hE hx
    generalize hv : a.eval x = u at h
    cases h with
    | rep h => cases h
    | ptr h =>
      rename_i b
      obtain ⟨cs, ty, h1, _, _, h4⟩ := own_row (j := j) ok (hH' k _ hH) he h
      obtain ⟨v, hc, hrep⟩ := h4 j av hi
      refine ⟨v, ?_, rel_as hrep⟩
      have hcell : w.cell? ⟨b, e * esz + j, none⟩ = some v := by rw [cell_of_row w b _ cs ty (0, 0) h1]; exact hc
      simp only [execOp, ho, hv, Instr.loadAt, Instr.sureAddr, Sem.run_bind, Sem.run_pure, Result.andThen_ok, run_loadVar_one ha hcell]
theorem AOp.aloadN {t : TypeId} {x : Operand} {k esz e j size : Nat} {fresh : Bool} {els : List (List AV)} {row : List AV} (ha : isAggT P t = some true) (hs : (P.info? t).map (·.size) = some size) (ho : o.op = .load t x) (hx : evO E x = some (.ptr k esz e j))
    (hH : H k = some (.arr fresh esz els)) (he : els[e]? = some row) (hi : j + size ≤ row.length) : AOp P o E H [] (some (.agg (((row.drop j).take size).map (·.as fresh)))) [] :=
  AOp.reads fun s w a ok hE hH' => by
    have h := evO_rel hE hx
    generalize hv : a.eval x = u at h
    cases h with
    | rep h => cases h
    | ptr h =>
      rename_i b
      obtain ⟨cs, ty, h1, hrl, hle, h4⟩ := own_row (j := j) ok (hH' k _ hH) he h
      have hlt : e < els.length := (List.getElem?_eq_some_iff.1 he).1
      have hee : e * esz + esz ≤ els.length * esz := by rw [← Nat.succ_mul]; exact Nat.mul_le_mul_right _ hlt
      have hrun := run_loadVar_agg (P := P) (b := b) (off := e * esz + j) (w := w) ha hs ((cs.toList.drop (e * esz + j)).take size) (by simp; omega) (fun i v hv => by
        rw [cell_of_row w b _ cs ty (0, 0) h1]
        simp only [List.getElem?_take, List.getElem?_drop] at hv
        split at hv
        · simpa using hv
        · cases hv)
      refine ⟨.agg ((cs.toList.drop (e * esz + j)).take size).toArray, by simp only [execOp, ho, hv, Instr.loadAt, Instr.sureAddr, Sem.run_bind, Sem.run_pure, Result.andThen_ok, hrun], .agg (by simp; omega) fun i av v h1 h2 => ?_⟩
      simp only [List.getElem?_map, Option.map_eq_some_iff, List.getElem?_take, List.getElem?_drop] at h1
      simp only [List.getElem?_toArray, List.getElem?_take, List.getElem?_drop] at h2
      obtain ⟨y, hy, rfl⟩ := h1
      split at hy
      · rename_i hlt
        rw [if_pos hlt] at h2
        obtain ⟨v', hc, hrep⟩ := h4 _ y hy
        have : v = v' := by
          have h2' : cs[e * esz + (j + i)]? = some v := by rw [← Nat.add_assoc]; simpa using h2
          rw [h2'] at hc; cases hc; rfl
        subst this
        exact rel_as hrep
      · cases hy

/-! ### lengths, strings -/
theorem AOp.len_str {t ty : TypeId} {x : Operand} {p : ByteArray} (ht : P.underlying t = some .string) (hty : o.type = ty) (ho : o.op = .call { callee := .builtin .len, args := #[x], argTypes := #[t] }) (hx : evO E x = some (.lit (.string p))) :
    AOp P o E H [] (some (.lit (.int .i64 p.size))) [] :=
  AOp.reads fun s w a _ hE _ => ⟨.int .i64 p.size, by
    have e := Rel.lit_eq (evO_rel hE hx)
    simp [execOp, ho, resolve, invoke, builtin, Builtin.len_, e, run_underlying ht, goInt], .rep (.lit rfl)⟩
theorem AOp.len_sl {t el : TypeId} {x : Operand} {k esz off n : Nat} (ht : P.underlying t = some (.slice el)) (ho : o.op = .call { callee := .builtin .len, args := #[x], argTypes := #[t] }) (hx : evO E x = some (.sl k esz off n)) (hk : H k ≠ none) :
    AOp P o E H [] (some (.lit (.int .i64 n))) [] :=
  AOp.reads fun s w a _ hE hH => ⟨.int .i64 n, by
    have h := evO_rel hE hx
    generalize hv : a.eval x = u at h
    cases h with
    | rep h => cases h
    | slg hr hp =>
      cases hB : H k with
      | none => exact absurd hB hk
      | some B => rw [hH k B hB] at hp; cases hp
    | sl => simp [execOp, ho, resolve, invoke, builtin, Builtin.len_, hv, run_underlying ht, goInt]
    | sln => simp [execOp, ho, resolve, invoke, builtin, Builtin.len_, hv, run_underlying ht, goInt], .rep (.lit rfl)⟩
theorem AOp.len_ro {t el : TypeId} {x : Operand} {esz : Nat} {xs : List (List AV)} {n : Nat} (ht : P.underlying t = some (.slice el)) (ho : o.op = .call { callee := .builtin .len, args := #[x], argTypes := #[t] }) (hx : evO E x = some (.ro esz xs) ∨ evO E x = some (.fr (.ro esz xs))) (hn : xs.length = n) :
    AOp P o E H [] (some (.lit (.int .i64 n))) [] :=
  AOp.reads fun s w a _ hE hH => ⟨.int .i64 n, by
    have hrep : ∃ F, Rep F w (.ro esz xs) (a.eval x) := by
      rcases hx with hx | hx
      · have h := evO_rel hE hx
        cases h with
        | rep h => exact ⟨_, h⟩
      · have h := evO_rel hE hx
        cases h with
        | rep h => cases h
        | fr h => exact ⟨_, h⟩
    obtain ⟨F, h⟩ := hrep
    generalize hv : a.eval x = u at h
    cases h with
    | nil => subst hn; simp [execOp, ho, resolve, invoke, builtin, Builtin.len_, hv, run_underlying ht, goInt]
    | ro => simp [execOp, ho, resolve, invoke, builtin, Builtin.len_, hv, run_underlying ht, goInt, hn], .rep (.lit rfl)⟩
theorem AOp.len_nil {t el : TypeId} {x : Operand} {A : Option Addr} {n c : Nat} (ht : P.underlying t = some (.slice el)) (ho : o.op = .call { callee := .builtin .len, args := #[x], argTypes := #[t] }) (hx : evO E x = some (.lit (.slice A n c))) :
    AOp P o E H [] (some (.lit (.int .i64 n))) [] :=
  AOp.reads fun s w a _ hE _ => ⟨.int .i64 n, by
    have e := Rel.lit_eq (evO_rel hE hx)
    simp [execOp, ho, resolve, invoke, builtin, Builtin.len_, e, run_underlying ht, goInt], .rep (.lit rfl)⟩

theorem AOp.sindex {t : TypeId} {x y : Operand} {p : ByteArray} {i : Int} {kd : IntKind} {j : Nat} (ht : P.underlying t = some .string) (ho : o.op = .index t x y) (hx : evO E x = some (.lit (.string p))) (hy : evO E y = some (.lit (.int kd i)))
    (hi : i = (j : Int)) (hj : j < p.size) : AOp P o E H [] (some (.lit (.int .u8 (p[j]'hj).toNat))) [] :=
  AOp.reads fun s w a _ hE _ => ⟨.int .u8 (p[j]'hj).toNat, by
    have e1 := Rel.lit_eq (evO_rel hE hx)
    have e2 := Rel.lit_eq (evO_rel hE hy)
    subst hi
    have hg : p[j]? = some (p[j]'hj) := getElem?_pos p j hj
    simp [execOp, ho, e1, e2, Instr.index, asIntOf, run_underlying ht, hg], .rep (.lit rfl)⟩

theorem AOp.sslice {t : TypeId} {x : Operand} {lo hi : Option Operand} {p : ByteArray} {i j : Nat} (ht : P.underlying t = some .string) (ho : o.op = .slice t x lo hi none) (hx : evO E x = some (.lit (.string p)))
    (hlo : match lo with | none => i = 0 | some y => ∃ (kd : IntKind) (z : Int), evO E y = some (.lit (.int kd z)) ∧ z = (i : Int))
    (hhi : match hi with | none => j = p.size | some y => ∃ (kd : IntKind) (z : Int), evO E y = some (.lit (.int kd z)) ∧ z = (j : Int)) (hij : i ≤ j) (hj : j ≤ p.size) :
    AOp P o E H [] (some (.lit (.string (p.extract i j)))) [] :=
  AOp.reads fun s w a _ hE _ => ⟨.string (p.extract i j), by
    have e1 := Rel.lit_eq (evO_rel hE hx)
    cases lo with
    | none =>
      simp only at hlo
      subst hlo
      cases hi with
      | none =>
        simp only at hhi
        subst hhi
        simp [execOp, ho, e1, Instr.sliceAt, run_underlying ht, Instr.slice, Instr.sliceBounds]
      | some y =>
        obtain ⟨kd, z, h1, rfl⟩ := hhi
        have e2 := Rel.lit_eq (evO_rel hE h1)
        simp [execOp, ho, e1, e2, Instr.sliceAt, run_underlying ht, Instr.slice, Instr.sliceBounds, Instr.sliceBound, asIntOf, hj]
    | some u =>
      obtain ⟨kd', z', h1', rfl⟩ := hlo
      have e3 := Rel.lit_eq (evO_rel hE h1')
      cases hi with
      | none =>
        simp only at hhi
        subst hhi
        simp [execOp, ho, e1, e3, Instr.sliceAt, run_underlying ht, Instr.slice, Instr.sliceBounds, Instr.sliceBound, asIntOf, hij]
      | some y =>
        obtain ⟨kd, z, h1, rfl⟩ := hhi
        have e2 := Rel.lit_eq (evO_rel hE h1)
        simp [execOp, ho, e1, e2, e3, Instr.sliceAt, run_underlying ht, Instr.slice, Instr.sliceBounds, Instr.sliceBound, asIntOf, hj, hij], .rep (.lit rfl)⟩
end
end Go.Abs
end
section
namespace Go.Abs
variable [VL]

def Sg.with (s : Sg) (k : Nat) (x : Option Nat) (U : List (Nat × Option Blk)) : Sg :=
  { s with ρ := fun t => if t = k then some x else s.ρ t, hp := updH s.hp U }

theorem OK.hp_none {s : Sg} {w : World} (ok : OK s w) {k : Nat} (h : s.ρ k = none) : s.hp k = none := by
  cases hB : s.hp k with
  | none => rfl
  | some B =>
    obtain ⟨x, hx, _⟩ := ok.blk k B hB
    rw [h] at hx; cases hx

theorem lkU_one {k t : Nat} {x : Option Blk} : lkU [(k, x)] t = if t = k then some x else none := rfl
theorem updH_one (H : Hp) (k : Nat) (x : Option Blk) (t : Nat) : updH H [(k, x)] t = if t = k then x else H t := by
  simp only [updH, lkU_one]
  by_cases h : t = k <;> simp [h]
theorem updH_two (H : Hp) (k k' : Nat) (x x' : Option Blk) (t : Nat) : updH H [(k, x), (k', x')] t = if t = k then x else if t = k' then x' else H t := by
  simp only [updH, lkU]
  by_cases h : t = k
  · simp [h]
  · simp only [if_neg h]
    by_cases h' : t = k'
    · simp only [if_pos h']
    · simp only [if_neg h']

theorem alloc_old (w : World) (o : Obj) (i : Nat) (h : i < w.heap.size) : (w.alloc o).heap[i]? = w.heap[i]? := by
  show (w.heap.push o)[i]? = w.heap[i]?
  rw [Array.getElem?_push, if_neg (Nat.ne_of_lt h)]
theorem alloc_new (w : World) (o : Obj) : (w.alloc o).heap[w.heap.size]? = some o := by
  show (w.heap.push o)[w.heap.size]? = some o
  simp

/-- A new block, of a new name. -/
theorem Post.new {s : Sg} {w w0 : World} (ok : OK s w) {k : Nat} (hk : s.ρ k = none) (B : Blk) (ob : Obj) (hw : w0.heap = w.heap) (ho : w0.os = w.os) (ht : w0.tape = w.tape) (hu : w0.output = w.output)
    (hB : ∀ s' w', Tr s w s' w' → w'.heap[w.heap.size]? = some ob → BOK s' w' (some w.heap.size) B) :
    Post s w [k] [(k, some B)] (s.with k (some w.heap.size) [(k, some B)]) (w0.alloc ob) := by
  have hhp : ∀ t, (s.with k (some w.heap.size) [(k, some B)]).hp t = if t = k then some B else s.hp t := fun t => updH_one s.hp k (some B) t
  have hrho : ∀ t, (s.with k (some w.heap.size) [(k, some B)]).ρ t = if t = k then some (some w.heap.size) else s.ρ t := fun _ => rfl
  have hold : ∀ b, b < w.heap.size → (w0.alloc ob).heap[b]? = w.heap[b]? := fun b hb => (alloc_old w0 ob b (by rw [hw]; exact hb)).trans (by rw [hw])
  have hnew : (w0.alloc ob).heap[w.heap.size]? = some ob := by rw [← hw]; exact alloc_new w0 ob
  have hsz : (w0.alloc ob).heap.size = w.heap.size + 1 := by rw [World.size_alloc, hw]
  have tr : Tr s w (s.with k (some w.heap.size) [(k, some B)]) (w0.alloc ob) :=
    { M := rfl
      n0 := rfl
      rho := fun t x h => by rw [hrho, if_neg (by rintro rfl; rw [hk] at h; cases h)]; exact h
      size := by rw [hsz]; omega
      os := ho
      tape := ht
      output := hu
      keep := fun b hb _ => hold b hb
      own := fun t b h h' => by
        rw [hhp] at h
        rw [hrho] at h'
        by_cases e : t = k
        · rw [if_pos e] at h'; cases h'; exact .inr (Nat.le_refl _)
        · rw [if_neg e] at h h'; exact .inl ⟨t, h, h'⟩
      dead := fun t h h' => by rw [hhp, if_neg (by rintro rfl; exact h hk)]; exact h'
      arr := fun t fresh esz els h => by
        have hne : t ≠ k := by rintro rfl; rw [ok.hp_none hk] at h; cases h
        refine .inr ⟨fresh, els, by rw [hhp, if_neg hne]; exact h, Nat.le_refl _, fun b cs ty fz hb hc => ⟨cs, ty, fz, ?_, rfl⟩⟩
        rw [hold b (Array.getElem?_eq_some_iff.1 hc).1]; exact hc }
  refine ⟨tr, ok.step tr ?_ ?_, rfl, fun t h hn => ?_⟩
  · intro t B' hB'
    rw [hhp] at hB'
    by_cases e : t = k
    · subst e
      rw [if_pos rfl] at hB'
      cases hB'
      exact .inr ⟨some w.heap.size, by rw [hrho, if_pos rfl], hB _ _ tr hnew⟩
    · rw [if_neg e] at hB'
      exact .inl ⟨hB', fun b hb => hold b (ok.lt (by rw [hB']; simp) hb)⟩
  · intro t t' b h h' hr hr'
    rw [hhp] at h h'
    rw [hrho] at hr hr'
    by_cases e : t = k
    · by_cases e' : t' = k
      · omega
      · rw [if_neg e'] at h' hr'
        rw [if_pos e] at hr
        cases hr
        exact absurd (ok.lt h' hr') (Nat.lt_irrefl _)
    · rw [if_neg e] at h hr
      by_cases e' : t' = k
      · rw [if_pos e'] at hr'
        cases hr'
        exact absurd (ok.lt h hr) (Nat.lt_irrefl _)
      · rw [if_neg e'] at h' hr'
        exact ok.inj t t' b h h' hr hr'
  · rw [hrho, if_neg (by simpa using hn)]; exact h

def AV.cells : AV → List AV
  | .agg xs => xs
  | x => [x]

theorem Rel.one {s : Sg} {w : World} {x : AV} {v : Value} (h : Rel s w x v) (h1 : x.one = true) : v.oneCell' = true := by
  cases h with
  | rep h => exact h.oneCell
  | fr h => exact h.oneCell
  | agg => cases h1
  | tup => cases h1
  | ssl _ _ h => cases h with
    | rep h => cases h
    | _ => rfl
  | sptr _ h => cases h with
    | rep h => cases h
    | _ => rfl
  | _ => rfl

theorem cells_one {v : Value} (h : v.oneCell' = true) : v.cells = #[v] := by
  cases v <;> first | rfl | cases h

/-- cell by cell -/
theorem Rel.cells {s : Sg} {w : World} {x : AV} {v : Value} (h : Rel s w x v) (hx : ∀ xs, x ≠ .tup xs) : x.cells.length = v.cells.size ∧ ∀ (i : Nat) (av : AV) (u : Value), x.cells[i]? = some av → v.cells[i]? = some u → Rel s w av u := by
  by_cases h1 : x.one = true
  · have hv := h.one h1
    have hc : x.cells = [x] := by cases x <;> first | rfl | cases h1
    rw [hc, cells_one hv]
    refine ⟨rfl, fun i av u ha hu => ?_⟩
    cases i with
    | zero => simp at ha hu; subst ha; subst hu; exact h
    | succ i => simp at ha
  · cases x with
    | agg xs =>
      cases h with
      | rep h => cases h
      | agg hl h => exact ⟨hl, fun i av u ha hu => h i av u ha hu⟩
    | tup xs => exact absurd rfl (hx xs)
    | _ => exact absurd rfl h1

section
variable {P : Program} {o : Oper} {E : Env} {H : Hp}

def zeros (z : Value) : List AV := z.cells.toList.map .lit

theorem AOp.alloc {t : TypeId} {z : Value} (k : Nat) (ho : o.op = .alloc t) (hz : (P.info? t).bind (·.zero) = some z) (h1 : z.cells.toList.all (·.oneCell') = true) :
    AOp P o E H [k] (some (.ptr k 0 0 0)) [(k, some (.box (zeros z)))] :=
  AOp.value fun s w a ok _ _ hfr => by
    obtain ⟨i, hi, hz⟩ := Option.bind_eq_some_iff.1 hz
    refine ⟨.pointer (some ⟨w.heap.size, 0, none⟩), _, _, ?_, Post.new ok (hfr k (by simp)) (.box (zeros z)) (.cells z.cells t) rfl rfl rfl rfl ?_, ?_⟩
    · simp [execOp, ho, Instr.alloc, zeroValue, typeInfo, hi, hz, newVar, newRow]
    · intro s' w' _ hnew
      refine ⟨_, z.cells, t, rfl, hnew, by simp [zeros], fun i av v h2 h3 => ?_⟩
      simp only [zeros, List.getElem?_map, Array.getElem?_toList, h3, Option.map_some] at h2
      cases h2
      exact .rep (.lit (List.all_eq_true.1 h1 v (by rw [Array.mem_toList_iff]; exact Array.mem_of_getElem? h3)))
    · rintro av ⟨⟩
      exact .ptr (b := w.heap.size) (o := 0) (e := 0) (esz := 0) (by simp [Sg.with])

theorem AOp.box {t : TypeId} {x : Operand} {av : AV} (k : Nat) (ho : o.op = .box t x) (hx : evO E x = some av) (hn : ∀ xs, av ≠ .tup xs) :
    AOp P o E H [k] (some (.ptr k 0 0 0)) [(k, some (.box av.cells))] :=
  AOp.value fun s w a ok hE _ hfr => by
    have hr := evO_rel hE hx
    obtain ⟨hl, hc⟩ := hr.cells hn
    refine ⟨.pointer (some ⟨w.heap.size, 0, none⟩), _, _, ?_, Post.new ok (hfr k (by simp)) (.box av.cells) (.cells (a.eval x).cells t) rfl rfl rfl rfl ?_, ?_⟩
    · simp [execOp, ho, Instr.box, newVar, newRow]
    · intro s' w' tr hnew
      exact ⟨_, (a.eval x).cells, t, rfl, hnew, hl, fun i av v h2 h3 => (hc i av v h2 h3).step tr⟩
    · rintro av ⟨⟩
      exact .ptr (b := w.heap.size) (o := 0) (e := 0) (esz := 0) (by simp [Sg.with])

/-! ### build -/
/-- parts laid into a row, one by one -/
def lay (place : Nat → Option (Nat × Nat)) (cells : List AV) : List (Nat × AV) → Option (List AV)
  | [] => some cells
  | (i, x) :: rest => match place i with
    | none => none
    | some (off, size) => if x.cells.length ≠ size || off + x.cells.length > cells.length then none
      else lay place (cells.take off ++ x.cells ++ cells.drop (off + x.cells.length)) rest

theorem foldl_set (vs : List Value) : ∀ (off j : Nat) (cs : Array Value), off + (j + vs.length) ≤ cs.size →
    ((vs.zipIdx j).foldl (fun (cs : Array Value) (p : Value × Nat) => cs.setIfInBounds (off + p.2) p.1) cs).toList = cs.toList.take (off + j) ++ vs ++ cs.toList.drop (off + j + vs.length) := by
  induction vs with
  | nil => intro off j cs _; simp
  | cons v vs ih =>
    intro off j cs h
    simp only [List.zipIdx_cons, List.foldl_cons]
    simp only [List.length_cons] at h
    rw [ih off (j + 1) _ (by simp; omega)]
    have hlt : off + j < cs.toList.length := by simp; omega
    rw [Array.toList_setIfInBounds]
    apply List.ext_getElem?
    intro i
    simp only [List.getElem?_append, List.length_append, List.length_take, List.length_set, List.getElem?_take, List.getElem?_drop, List.getElem?_set, List.getElem?_cons, List.length_cons]
    have hm1 : min (off + (j + 1)) cs.toList.length = off + j + 1 := by omega
    have hm2 : min (off + j) cs.toList.length = off + j := by omega
    simp only [hm1, hm2]
    by_cases a1 : i < off + j
    · rw [if_pos (by omega), if_pos (by omega), if_pos (by omega), if_neg (by omega), if_pos (by omega), if_pos a1, if_pos a1]
    · by_cases a2 : i = off + j
      · subst a2
        rw [if_pos (by omega), if_pos (by omega), if_pos (by omega), if_pos rfl, if_pos (by omega), if_pos (by omega), if_neg (by omega), if_pos (by omega)]
      · by_cases a3 : i < off + j + 1 + vs.length
        · rw [if_pos (by omega), if_neg (by omega), if_pos (by omega), if_neg (by omega), if_neg (by omega)]
          congr 1 <;> omega
        · rw [if_neg (by omega), if_neg (by omega), if_neg (by omega)]
          congr 1 <;> omega

theorem fill_lay {s : Sg} {w : World} (place : Nat → Option (Nat × Nat)) : ∀ (ps : List (Nat × AV)) (qs : List (Nat × Value)) (cells cells' : List AV) (cs : Array Value), ps.length = qs.length →
    (∀ (j : Nat) (p : Nat × AV) (q : Nat × Value), ps[j]? = some p → qs[j]? = some q → p.1 = q.1 ∧ (∀ xs, p.2 ≠ .tup xs) ∧ Rel s w p.2 q.2) →
    cells.length = cs.size → (∀ (i : Nat) (av : AV) (v : Value), cells[i]? = some av → cs[i]? = some v → Rel s w av v) → lay place cells ps = some cells' →
    ∃ cs', Instr.fill place cs qs = some cs' ∧ cells'.length = cs'.size ∧ ∀ (i : Nat) (av : AV) (v : Value), cells'[i]? = some av → cs'[i]? = some v → Rel s w av v
  | [], [], cells, cells', cs, _, _, hl, hr, h => by cases h; exact ⟨cs, rfl, hl, hr⟩
  | [], _ :: _, _, _, _, h, _, _, _, _ => by cases h
  | _ :: _, [], _, _, _, h, _, _, _, _ => by cases h
  | (i, x) :: ps, (i', v) :: qs, cells, cells', cs, hlen, hp, hl, hr, h => by
    obtain ⟨e, hn, hx⟩ := hp 0 _ _ rfl rfl
    simp only at e hn hx
    subst e
    obtain ⟨hcl, hcr⟩ := hx.cells hn
    simp only [lay] at h
    simp only [Instr.fill]
    cases hpl : place i with
    | none => rw [hpl] at h; cases h
    | some q =>
      obtain ⟨off, size⟩ := q
      rw [hpl] at h
      simp only at h ⊢
      split at h
      · cases h
      · rename_i hc
        simp only [Bool.or_eq_true, not_or, decide_eq_true_eq, ne_eq, Decidable.not_not, gt_iff_lt, Nat.not_lt] at hc
        have hfold := foldl_set v.cells.toList off 0 cs (by rw [Array.length_toList]; omega)
        rw [if_neg (by simp only [Bool.or_eq_true, not_or, decide_eq_true_eq, ne_eq, Decidable.not_not, gt_iff_lt, Nat.not_lt]; omega)]
        have hz : v.cells.zipIdx.foldl (fun (cs : Array Value) (x : Value × Nat) => cs.setIfInBounds (off + x.2) x.1) cs = (cs.toList.take off ++ v.cells.toList ++ cs.toList.drop (off + v.cells.size)).toArray := by
          apply Array.ext'
          rw [← Array.foldl_toList]
          simp only [Nat.add_zero, Array.length_toList] at hfold
          rw [← hfold]
          congr 1
          rw [Array.toList_zipIdx]
        have := fill_lay place ps qs (cells.take off ++ x.cells ++ cells.drop (off + x.cells.length)) cells' (cs.toList.take off ++ v.cells.toList ++ cs.toList.drop (off + v.cells.size)).toArray (by simpa using hlen)
          (fun j p q h1 h2 => hp (j + 1) p q h1 h2) (by simp; omega) ?_ h
        · obtain ⟨cs', h1, h2, h3⟩ := this
          refine ⟨cs', ?_, h2, h3⟩
          rw [← h1]
          congr 1
        · intro j av u ha hu
          simp only [List.getElem?_toArray] at hu
          simp only [List.getElem?_append, List.length_append, List.length_take, List.getElem?_take, List.getElem?_drop] at ha hu
          have m1 : min off cells.length = off := by omega
          have m2 : min off cs.size = off := by omega
          simp only [m1, m2, Array.length_toList] at ha hu
          rw [hcl] at ha
          split at ha
          · rename_i h1
            rw [if_pos h1] at hu
            split at ha
            · rename_i h2
              rw [if_pos h2, if_pos h2] at hu
              exact hr j av u ha (by simpa using hu)
            · rename_i h2
              rw [if_neg h2] at hu
              exact hcr _ av u ha (by simpa using hu)
          · rename_i h1
            rw [if_neg h1] at hu
            exact hr _ av u ha (by simpa using hu)

def placesOf (P : Program) (t : TypeId) : Option (List (Nat × Nat)) :=
  match P.underlying t with
  | some (.struct fs) => fs.toList.mapM (fun f => (P.info? f.type).map fun i => (f.offset, i.size))
  | _ => none

/-- the values of the parts -/
def evParts (E : Env) : List (Nat × Operand) → Option (List (Nat × AV))
  | [] => some []
  | (i, x) :: r => match evO E x, evParts E r with
    | some av, some l => match av with
      | .tup _ => none
      | av => some ((i, av) :: l)
    | _, _ => none

theorem evParts_rel {s : Sg} {w : World} {a : Act} (hE : ∀ t av, E t = some av → Rel s w av (a.tmps.getD t undef)) : ∀ (l : List (Nat × Operand)) (ps : List (Nat × AV)), evParts E l = some ps →
    ps.length = l.length ∧ ∀ (j : Nat) (p : Nat × AV) (q : Nat × Value), ps[j]? = some p → (l.map fun (i, x) => (i, a.eval x))[j]? = some q → p.1 = q.1 ∧ (∀ xs, p.2 ≠ .tup xs) ∧ Rel s w p.2 q.2
  | [], ps, h => by cases h; exact ⟨rfl, by simp⟩
  | (i, x) :: r, ps, h => by
    simp only [evParts] at h
    split at h
    · rename_i av l h1 h2
      have ih := evParts_rel hE r l h2
      have hx := evO_rel hE h1
      cases av with
      | tup _ => cases h
      | _ =>
        cases h
        refine ⟨by simp [ih.1], fun j p q hp hq => ?_⟩
        cases j with
        | zero => simp at hp hq; subst hp; subst hq; exact ⟨rfl, by simp, hx⟩
        | succ j => exact ih.2 j p q (by simpa using hp) (by simpa using hq)
    · cases h

theorem AOp.build {t : TypeId} {parts : Array (Nat × Operand)} {z : Value} {pl : List (Nat × Nat)} {ps : List (Nat × AV)} {cells : List AV} (ho : o.op = .build t parts) (hz : (P.info? t).bind (·.zero) = some z) (h1 : z.cells.toList.all (·.oneCell') = true)
    (hpl : placesOf P t = some pl) (hp : evParts E parts.toList = some ps) (hc : lay (pl.toArray[·]?) (zeros z) ps = some cells) : AOp P o E H [] (some (.agg cells)) [] :=
  AOp.reads fun s w a _ hE _ => by
    obtain ⟨inf, hinf, hz⟩ := Option.bind_eq_some_iff.1 hz
    obtain ⟨hl, hrel⟩ := evParts_rel (a := a) hE _ _ hp
    obtain ⟨cs', h2, h3, h4⟩ := fill_lay (s := s) (w := w) (pl.toArray[·]?) ps (parts.toList.map fun (i, x) => (i, a.eval x)) (zeros z) cells z.cells (by simpa using hl) hrel (by simp [zeros]) (fun i av v h5 h6 => by
      simp only [zeros, List.getElem?_map, Array.getElem?_toList, h6, Option.map_some] at h5
      cases h5
      exact .rep (.lit (List.all_eq_true.1 h1 v (by rw [Array.mem_toList_iff]; exact Array.mem_of_getElem? h6)))) hc
    have hb : P.built t (parts.map fun (i, x) => (i, a.eval x)).toList = some cs' := by
      unfold placesOf at hpl
      unfold Program.built
      split at hpl
      · rename_i fs hu
        simp only [hinf, hu, hz, hpl, Array.toList_map]
        exact h2
      · cases hpl
    refine ⟨.agg cs', ?_, .agg h3 h4⟩
    simp only [execOp, ho, Sem.run_bind, run_build w t _ cs' hb]
    rfl
end
end Go.Abs
end
section
namespace Go.Abs
variable [VL]

/-- A block of the call's own is written; its name stays. -/
theorem Post.upd {s : Sg} {w : World} (ok : OK s w) {k b : Nat} {B B' : Blk} {cs cs' : Array Value} {ty : TypeId} (hk : s.hp k = some B) (hb : s.ρ k = some (some b)) (hc : w.heap[b]? = some (.cells cs ty (0, 0))) (hs : cs'.size = cs.size)
    (harr : ∀ f esz els, B = .arr f esz els → ∃ f' els', B' = .arr f' esz els' ∧ els.length ≤ els'.length)
    (hB : ∀ s' w', Tr s w s' w' → w'.heap[b]? = some (.cells cs' ty (0, 0)) → BOK s' w' (some b) B') :
    Post s w [] [(k, some B')] { s with hp := updH s.hp [(k, some B')] } (w.setRow b cs') := by
  have hhp : ∀ t, updH s.hp [(k, some B')] t = if t = k then some B' else s.hp t := fun t => updH_one s.hp k (some B') t
  have hother : ∀ j, j ≠ b → (w.setRow b cs').heap[j]? = w.heap[j]? := fun j hj => setRow_other w b j cs' hj
  have hsame : (w.setRow b cs').heap[b]? = some (.cells cs' ty (0, 0)) := setRow_heap w b cs cs' ty (0, 0) hc
  have hne : ∀ t, updH s.hp [(k, some B')] t ≠ none → s.hp t ≠ none := by
    intro t h
    rw [hhp] at h
    by_cases e : t = k
    · subst e; rw [hk]; simp
    · rw [if_neg e] at h; exact h
  have tr : Tr s w { s with hp := updH s.hp [(k, some B')] } (w.setRow b cs') :=
    { M := rfl
      n0 := rfl
      rho := fun _ _ h => h
      size := by rw [size_setRow]; exact Nat.le_refl _
      os := rfl
      tape := rfl
      output := rfl
      keep := fun j _ h => hother j (by rintro rfl; exact h k (by rw [hk]; simp) hb)
      own := fun t j h h' => .inl ⟨t, hne t h, h'⟩
      dead := fun t h h' => by
        show updH s.hp [(k, some B')] t = none
        rw [hhp, if_neg (by rintro rfl; rw [hk] at h'; cases h')]; exact h'
      arr := fun t fresh esz els h => by
        by_cases e : t = k
        · subst e
          rw [hk] at h
          cases h
          obtain ⟨f', els', rfl, hl⟩ := harr _ _ _ rfl
          refine .inr ⟨f', els', by show updH s.hp _ t = _; rw [hhp, if_pos rfl], hl, fun j cs1 ty1 fz1 hj hc1 => ?_⟩
          rw [hb] at hj; cases hj
          rw [hc] at hc1; cases hc1
          exact ⟨cs', ty, (0, 0), hsame, hs⟩
        · refine .inr ⟨fresh, els, by show updH s.hp _ t = _; rw [hhp, if_neg e]; exact h, Nat.le_refl _, fun j cs1 ty1 fz1 hj hc1 => ?_⟩
          have hjb : j ≠ b := by
            rintro rfl
            exact e (ok.inj t k j (by rw [h]; simp) (by rw [hk]; simp) hj hb)
          exact ⟨cs1, ty1, fz1, by rw [hother j hjb]; exact hc1, rfl⟩ }
  refine ⟨tr, ok.step tr ?_ ?_, rfl, fun t h _ => h⟩
  · intro t B2 h2
    by_cases e : t = k
    · subst e
      have : updH s.hp [(t, some B')] t = some B2 := h2
      rw [hhp, if_pos rfl] at this
      cases this
      exact .inr ⟨some b, hb, hB _ _ tr hsame⟩
    · have : updH s.hp [(k, some B')] t = some B2 := h2
      rw [hhp, if_neg e] at this
      refine .inl ⟨this, fun j hj => hother j ?_⟩
      rintro rfl
      exact e (ok.inj t k j (by rw [this]; simp) (by rw [hk]; simp) hj hb)
  · intro t t' j h h' hr hr'
    exact ok.inj t t' j (hne t h) (hne t' h') hr hr'

/-- xs laid into a row from a place on -/
def splice {α : Type} (cells : List α) (off : Nat) (xs : List α) : List α := cells.take off ++ xs ++ cells.drop (off + xs.length)

theorem getElem?_splice {α : Type} (cells xs : List α) (off i : Nat) (h : off + xs.length ≤ cells.length) :
    (splice cells off xs)[i]? = if i < off then cells[i]? else if i < off + xs.length then xs[i - off]? else cells[i]? := by
  unfold splice
  simp only [List.getElem?_append, List.length_append, List.length_take, List.getElem?_take, List.getElem?_drop]
  have m : min off cells.length = off := by omega
  simp only [m]
  by_cases h1 : i < off
  · rw [if_pos (by omega), if_pos h1, if_pos h1, if_pos h1]
  · by_cases h2 : i < off + xs.length
    · rw [if_pos h2, if_neg h1, if_neg h1, if_pos h2]
    · rw [if_neg h2, if_neg h1, if_neg h2]
      congr 1; omega

theorem length_splice {α : Type} (cells xs : List α) (off : Nat) (h : off + xs.length ≤ cells.length) : (splice cells off xs).length = cells.length := by
  unfold splice; simp; omega

section
variable {P : Program} {o : Oper} {E : Env} {H : Hp}

theorem run_storeAt {t : TypeId} {b off size : Nat} {v : Value} {cs : Array Value} {ty : TypeId} {w : World} (hs : (P.info? t).map (·.size) = some size) (hv : v.cells.size = size) (h1 : ∀ u ∈ v.cells.toList, u.oneCell' = true)
    (hc : w.heap[b]? = some (.cells cs ty (0, 0))) (hl : off + size ≤ cs.size) :
    (Instr.storeAt t (.pointer (some ⟨b, off, none⟩)) v).run P w = .ok () (w.setRow b (splice cs.toList off v.cells.toList).toArray) := by
  obtain ⟨i, hi, rfl⟩ := Option.map_eq_some_iff.1 hs
  have hst := run_storeCells_at P b off ty v.cells.toList 0 cs w hc (by simp; omega) h1
  simp only [Nat.add_zero] at hst
  simp only [Instr.storeAt, Instr.sureAddr, Sem.run_bind, Sem.run_pure, Result.andThen_ok, storeVar, sizeOf, typeInfo, Sem.run_ite]
  simp [hi, hv, hst, splice]

theorem cells_all {s : Sg} {w : World} {x : AV} {v : Value} (h : Rel s w x v) (hx : x.cells.all (·.one) = true) (hn : ∀ xs, x ≠ .tup xs) : ∀ u ∈ v.cells.toList, u.oneCell' = true := by
  obtain ⟨hl, hc⟩ := h.cells hn
  intro u hu
  obtain ⟨i, hi⟩ := List.getElem?_of_mem hu
  have hlt : i < x.cells.length := by rw [hl]; have := (List.getElem?_eq_some_iff.1 hi).1; simpa using this
  have hg := List.getElem?_eq_getElem hlt
  refine (hc i _ u hg (by simpa using hi)).one ?_
  exact List.all_eq_true.1 hx _ (List.getElem_mem hlt)

/-- a store into a variable of the call's own -/
theorem AOp.store {t : TypeId} {x y : Operand} {k off size : Nat} {cells : List AV} {av : AV} (hs : (P.info? t).map (·.size) = some size) (ho : o.op = .store t x y) (hx : evO E x = some (.ptr k 0 0 off)) (hy : evO E y = some av)
    (hH : H k = some (.box cells)) (hn : ∀ xs, av ≠ .tup xs) (h1 : av.cells.all (·.one) = true) (hl : av.cells.length = size) (hfit : off + size ≤ cells.length) :
    AOp P o E H [] none [(k, some (.box (splice cells off av.cells)))] :=
  AOp.skip fun s w a ok hE hH' _ => by
    have hp := evO_rel hE hx
    have hv := evO_rel hE hy
    obtain ⟨hcl, hcr⟩ := hv.cells hn
    have hone := cells_all hv h1 hn
    generalize hpe : a.eval x = p at hp
    generalize hve : a.eval y = v at hv hcl hcr hone
    cases hp with
    | rep h => cases h
    | ptr h =>
      rename_i b
      obtain ⟨z, hz, b', cs, ty, rfl, hb, hcs, hr⟩ := ok.blk k _ (hH' k _ hH)
      rw [h] at hz; cases hz
      have hrun := run_storeAt (P := P) (b := b) (off := 0 * 0 + off) (v := v) (w := w) hs (by omega) hone hb (by omega)
      refine ⟨_, _, by simp only [execOp, ho, hpe, hve, Sem.run_bind, hrun]; rfl, Post.upd ok (hH' k _ hH) h hb ?_ (by intro f esz els e; cases e) ?_⟩
      · rw [List.size_toArray, length_splice _ _ _ (by rw [Array.length_toList, Array.length_toList]; omega)]; simp
      · intro s' w' tr hnew
        refine ⟨b, _, ty, rfl, hnew, ?_, fun i av' v' h2 h3 => ?_⟩
        · rw [List.size_toArray, length_splice cells _ _ (by omega), length_splice _ _ _ (by rw [Array.length_toList, Array.length_toList]; omega)]; simpa using hcs
        · simp only [List.getElem?_toArray] at h3
          rw [getElem?_splice _ _ _ _ (by omega)] at h2
          rw [getElem?_splice _ _ _ _ (by rw [Array.length_toList, Array.length_toList]; omega)] at h3
          simp only [Nat.zero_mul, Nat.zero_add, Array.length_toList] at h3
          rw [hcl] at h2
          split at h2
          · rename_i h4
            rw [if_pos h4] at h3
            exact (hr i av' v' h2 (by simpa using h3)).step tr
          · rename_i h4
            rw [if_neg h4] at h3
            split at h2
            · rename_i h5
              rw [if_pos h5] at h3
              exact (hcr _ av' v' h2 (by simpa using h3)).step tr
            · rename_i h5
              rw [if_neg h5] at h3
              exact (hr i av' v' h2 (by simpa using h3)).step tr

/-- what may lie in an array: new data where the array says so, else whatever fits a cell -/
def AV.bare (fresh : Bool) : AV → Option AV
  | .lit v => some (.lit v)
  | .fr x => some x
  | .agg _ => none
  | .tup _ => none
  | x => if fresh then none else some x
def bareAll (fresh : Bool) : List AV → Option (List AV)
  | [] => some []
  | x :: r => match x.bare fresh, bareAll fresh r with
    | some y, some l => some (y :: l)
    | _, _ => none

theorem Rel.one0 {s : Sg} {w : World} {x : AV} {v : Value} (h : Rel s w x v) (h1 : x.one = true) : v.oneCell' = true := by
  cases h with
  | rep h => exact h.oneCell
  | fr h => exact h.oneCell
  | agg => cases h1
  | tup => cases h1
  | ssl _ _ h => cases h with
    | rep h => cases h
    | _ => rfl
  | sptr _ h => cases h with
    | rep h => cases h
    | _ => rfl
  | _ => rfl
theorem ElR.one {f : Bool} {s : Sg} {w : World} {x : AV} {v : Value} (h : ElR f s w x v) : v.oneCell' = true := by
  cases f
  · exact h.1.one0 h.2
  · exact Rep.oneCell h
theorem Rel.bare {s : Sg} {w : World} {fresh : Bool} {x y : AV} {v : Value} (h : Rel s w x v) (hb : x.bare fresh = some y) : ElR fresh s w y v := by
  cases x with
  | lit u =>
    cases hb
    cases fresh
    · exact ⟨h, rfl⟩
    · cases h with
      | rep h => cases h with
        | lit h => exact .lit h
  | fr z =>
    cases hb
    cases h with
    | rep h => cases h
    | fr h =>
      cases fresh
      · exact ⟨.rep (h.weaken fun b _ hm => .inl hm), h.isOne⟩
      · exact h
  | agg => cases hb
  | tup => cases hb
  | _ =>
    cases fresh
    · cases hb; exact ⟨h, rfl⟩
    · cases hb

theorem bareAll_spec {fresh : Bool} : ∀ (xs ys : List AV), bareAll fresh xs = some ys → ys.length = xs.length ∧ ∀ (i : Nat) (y : AV), ys[i]? = some y → ∃ x, xs[i]? = some x ∧ x.bare fresh = some y
  | [], ys, h => by cases h; exact ⟨rfl, by simp⟩
  | x :: r, ys, h => by
    simp only [bareAll] at h
    split at h
    · rename_i y l h1 h2
      cases h
      obtain ⟨h3, h4⟩ := bareAll_spec r l h2
      refine ⟨by simp [h3], fun i z hz => ?_⟩
      cases i with
      | zero => simp at hz; subst hz; exact ⟨x, rfl, h1⟩
      | succ i => exact h4 i z (by simpa using hz)
    · cases h

theorem bare_one {fresh : Bool} {x y : AV} (h : x.bare fresh = some y) : x.one = true := by
  cases x <;> first | rfl | cases h

/-- a store into an array of the call's own, at whatever place -/
theorem AOp.astore {t : TypeId} {x y : Operand} {k esz e j size : Nat} {fresh : Bool} {els : List (List AV)} {row ys : List AV} {av : AV} (hs : (P.info? t).map (·.size) = some size) (ho : o.op = .store t x y) (hx : evO E x = some (.ptr k esz e j)) (hy : evO E y = some av)
    (hH : H k = some (.arr fresh esz els)) (he : els[e]? = some row) (hn : ∀ xs, av ≠ .tup xs) (hb : bareAll fresh av.cells = some ys) (hl : av.cells.length = size) (hfit : j + size ≤ row.length) :
    AOp P o E H [] none [(k, some (.arr fresh esz (els.set e (splice row j ys))))] :=
  AOp.skip fun s w a ok hE hH' _ => by
    have hp := evO_rel hE hx
    have hv := evO_rel hE hy
    obtain ⟨hcl, hcr⟩ := hv.cells hn
    obtain ⟨hyl, hys⟩ := bareAll_spec _ _ hb
    have hall : av.cells.all (·.one) = true := by
      rw [List.all_eq_true]
      intro u hu
      obtain ⟨i, hi⟩ := List.getElem?_of_mem hu
      have hlt : i < ys.length := by rw [hyl]; exact (List.getElem?_eq_some_iff.1 hi).1
      obtain ⟨u', hu', hb'⟩ := hys i _ (List.getElem?_eq_getElem hlt)
      rw [hi] at hu'; cases hu'
      exact bare_one hb'
    have hone := cells_all hv hall hn
    generalize hpe : a.eval x = p at hp
    generalize hve : a.eval y = v at hv hcl hcr hone
    cases hp with
    | rep h => cases h
    | ptr h =>
      rename_i b
      obtain ⟨cs, ty, hb1, hrl, hle, hrow⟩ := own_row (j := j) ok (hH' k _ hH) he h
      have hlt : e < els.length := (List.getElem?_eq_some_iff.1 he).1
      have hee : e * esz + esz ≤ els.length * esz := by rw [← Nat.succ_mul]; exact Nat.mul_le_mul_right _ hlt
      obtain ⟨z, hz, hBok⟩ := ok.blk k _ (hH' k _ hH)
      rw [h] at hz; cases hz
      have hblk : ∀ (j : Nat) (row : List AV) (i : Nat) (av : AV), els[j]? = some row → row[i]? = some av → ∃ v, cs[j * esz + i]? = some v ∧ ElR fresh s w av v := by
        rcases hBok with ⟨h0, _⟩ | ⟨b', cs1, ty1, e1, h5, _, _, h8⟩
        · cases h0
        · cases e1; rw [hb1] at h5; cases h5; exact h8
      have hrows : ∀ (j : Nat) (row : List AV), els[j]? = some row → row.length = esz := by
        rcases hBok with ⟨h0, _⟩ | ⟨b', cs1, ty1, e1, h5, _, h7, _⟩
        · cases h0
        · exact h7
      have hrun := run_storeAt (P := P) (b := b) (off := e * esz + j) (v := v) (w := w) hs (by omega) hone hb1 (by omega)
      have hvl : v.cells.toList.length = ys.length := by simp; omega
      refine ⟨_, _, by simp only [execOp, ho, hpe, hve, Sem.run_bind, hrun]; rfl, Post.upd ok (hH' k _ hH) h hb1 ?_ (by intro f esz els e; cases e; exact ⟨_, _, rfl, by simp⟩) ?_⟩
      · rw [List.size_toArray, length_splice _ _ _ (by rw [Array.length_toList, Array.length_toList]; omega)]; simp
      · intro s' w' tr hnew
        refine .inr ⟨b, _, ty, rfl, hnew, ?_, ?_, ?_⟩
        · rw [List.size_toArray, length_splice _ _ _ (by rw [Array.length_toList, Array.length_toList]; omega)]; simpa using hle
        · intro i r hr
          rw [List.getElem?_set] at hr
          split at hr
          · cases hr; rw [length_splice _ _ _ (by omega)]; exact hrl
          · exact hrows i r hr
        · intro i r q u hr hu
          have hmono : ∀ {z : AV} {z' : Value}, ElR fresh s w z z' → ElR fresh s' w' z z' := fun hz => hz.step tr
          simp only [List.getElem?_toArray]
          rw [getElem?_splice _ _ _ _ (by rw [Array.length_toList, Array.length_toList]; omega)]
          rw [List.getElem?_set] at hr
          split at hr
          · rename_i hie
            cases hr
            subst hie
            rw [getElem?_splice _ _ _ _ (by omega)] at hu
            by_cases h4 : q < j
            · rw [if_pos h4] at hu
              rw [if_pos (by omega)]
              obtain ⟨v', h5, h6⟩ := hblk e row q u he hu
              exact ⟨v', by simpa using h5, hmono h6⟩
            · rw [if_neg h4] at hu
              rw [if_neg (by omega)]
              by_cases h5 : q < j + ys.length
              · rw [if_pos h5] at hu
                rw [if_pos (by omega)]
                obtain ⟨x', hx', hb'⟩ := hys _ _ hu
                have hlt' : q - j < v.cells.size := by rw [← hcl]; exact (List.getElem?_eq_some_iff.1 hx').1
                have hg : v.cells[q - j]? = some v.cells[q - j] := Array.getElem?_eq_getElem hlt'
                refine ⟨v.cells[q - j], ?_, hmono ((hcr _ x' _ hx' hg).bare hb')⟩
                rw [show e * esz + q - (e * esz + j) = q - j from by omega]
                simp
              · rw [if_neg h5] at hu
                rw [if_neg (by omega)]
                obtain ⟨v', h6, h7⟩ := hblk e row q u he hu
                exact ⟨v', by simpa using h6, hmono h7⟩
          · rename_i hie
            obtain ⟨v', h6, h7⟩ := hblk i r q u hr hu
            have hql : q < esz := by rw [← hrows i r hr]; exact (List.getElem?_eq_some_iff.1 hu).1
            refine ⟨v', ?_, hmono h7⟩
            have hne : i * esz + q < e * esz + j ∨ e * esz + j + ys.length ≤ i * esz + q := by
              rcases Nat.lt_or_gt_of_ne hie with hlt2 | hgt
              · right
                have : (e + 1) * esz ≤ i * esz := Nat.mul_le_mul_right _ hlt2
                rw [Nat.succ_mul] at this
                omega
              · left
                have : (i + 1) * esz ≤ e * esz := Nat.mul_le_mul_right _ hgt
                rw [Nat.succ_mul] at this
                omega
            rcases hne with h8 | h8
            · rw [if_pos h8]; simpa using h6
            · rw [if_neg (by omega), if_neg (by omega)]; simpa using h6
end
end Go.Abs
end
section
namespace Go.Abs
variable [VL]

theorem Tr.trans {s0 s s' : Sg} {w0 w w' : World} (ok0 : OK s0 w0) (g : Tr s0 w0 s w) (t : Tr s w s' w') : Tr s0 w0 s' w' where
  M := t.M.trans g.M
  n0 := t.n0.trans g.n0
  rho k x h := t.rho _ _ (g.rho k x h)
  size := Nat.le_trans g.size t.size
  os := t.os.trans g.os
  tape := t.tape.trans g.tape
  output := t.output.trans g.output
  keep b hb h := by
    refine (t.keep b (Nat.lt_of_lt_of_le hb g.size) fun k hk he => ?_).trans (g.keep b hb h)
    rcases g.own k b hk he with ⟨k0, h0, h1⟩ | h1
    · exact h k0 h0 h1
    · omega
  own k b hk he := by
    rcases t.own k b hk he with ⟨k0, h0, h1⟩ | h1
    · exact g.own k0 b h0 h1
    · exact .inr (Nat.le_trans g.size h1)
  dead k h h' := by
    have h1 := g.dead k h h'
    refine t.dead k ?_ h1
    cases hr : s0.ρ k with
    | none => exact absurd hr h
    | some x => rw [g.rho k x hr]; simp
  arr k fresh esz els h := by
    have hr0 : s0.ρ k ≠ none := by
      obtain ⟨x, hx, _⟩ := ok0.blk k _ h
      rw [hx]; simp
    rcases g.arr k fresh esz els h with h1 | ⟨f1, e1, h1, hl, hsz⟩
    · refine .inl (t.dead k ?_ h1)
      cases hr : s0.ρ k with
      | none => exact absurd hr hr0
      | some x => rw [g.rho k x hr]; simp
    · rcases t.arr k f1 esz e1 h1 with h2 | ⟨f2, e2, h2, hl2, hsz2⟩
      · exact .inl h2
      · refine .inr ⟨f2, e2, h2, by omega, fun b cs ty fz hb hc => ?_⟩
        obtain ⟨cs1, ty1, fz1, hb1, hs1⟩ := hsz b cs ty fz hb hc
        obtain ⟨cs2, ty2, fz2, hb2, hs2⟩ := hsz2 b cs1 ty1 fz1 (g.rho k _ hb) hb1
        exact ⟨cs2, ty2, fz2, hb2, by omega⟩

theorem Post.comp {s s1 s2 : Sg} {w w1 w2 : World} {fr fr1 fr2 : List Nat} {U U1 U2 : List (Nat × Option Blk)} (ok : OK s w) (p : Post s w fr1 U1 s1 w1) (q : Post s1 w1 fr2 U2 s2 w2)
    (hf : ∀ k, k ∈ fr1 ∨ k ∈ fr2 → k ∈ fr) (hU : ∀ k, updH (updH s.hp U1) U2 k = updH s.hp U k) : Post s w fr U s2 w2 where
  tr := p.tr.trans ok q.tr
  ok := q.ok
  hp := by rw [q.hp, p.hp]; funext k; exact hU k
  fresh k h hn := q.fresh k (p.fresh k h fun h' => hn (hf k (.inl h'))) fun h' => hn (hf k (.inr h'))

/-- A name is let go. -/
theorem Post.drop {s : Sg} {w : World} (ok : OK s w) (k : Nat) : Post s w [] [(k, none)] { s with hp := updH s.hp [(k, none)] } w := by
  have hhp : ∀ t, updH s.hp [(k, none)] t = if t = k then none else s.hp t := fun t => updH_one s.hp k none t
  have hne : ∀ t, updH s.hp [(k, none)] t ≠ none → s.hp t ≠ none ∧ t ≠ k := by
    intro t h
    rw [hhp] at h
    by_cases e : t = k
    · rw [if_pos e] at h; exact absurd rfl h
    · rw [if_neg e] at h; exact ⟨h, e⟩
  have tr : Tr s w { s with hp := updH s.hp [(k, none)] } w :=
    { M := rfl
      n0 := rfl
      rho := fun _ _ h => h
      size := Nat.le_refl _
      os := rfl
      tape := rfl
      output := rfl
      keep := fun _ _ _ => rfl
      own := fun t j h h' => .inl ⟨t, (hne t h).1, h'⟩
      dead := fun t _ h' => by
        show updH s.hp _ t = none
        rw [hhp, h', ite_self]
      arr := fun t fresh esz els h => by
        by_cases e : t = k
        · exact .inl (by show updH s.hp _ t = none; rw [hhp, if_pos e])
        · exact .inr ⟨fresh, els, by show updH s.hp _ t = _; rw [hhp, if_neg e]; exact h, Nat.le_refl _, fun j cs ty fz _ hc => ⟨cs, ty, fz, hc, rfl⟩⟩ }
  refine ⟨tr, ok.step tr ?_ ?_, rfl, fun _ h _ => h⟩
  · intro t B h
    have h2 : updH s.hp [(k, none)] t = some B := h
    rw [hhp] at h2
    by_cases e : t = k
    · rw [if_pos e] at h2; cases h2
    · rw [if_neg e] at h2; exact .inl ⟨h2, fun _ _ => rfl⟩
  · intro t t' j h h' hr hr'
    exact ok.inj t t' j (hne t h).1 (hne t' h').1 hr hr'

/-- A block goes over to another name. -/
theorem Post.rename {s : Sg} {w : World} (ok : OK s w) {k k' : Nat} {x : Option Nat} {B : Blk} (hk : s.hp k = some B) (hr : s.ρ k = some x) (hk' : s.ρ k' = none) :
    Post s w [k'] [(k, none), (k', some B)] (s.with k' x [(k, none), (k', some B)]) w := by
  have hhp : ∀ t, updH s.hp [(k, none), (k', some B)] t = if t = k then none else if t = k' then some B else s.hp t := fun t => updH_two s.hp k k' none (some B) t
  have hkk : k' ≠ k := by rintro rfl; rw [hr] at hk'; cases hk'
  have hrho : ∀ t, (s.with k' x [(k, none), (k', some B)]).ρ t = if t = k' then some x else s.ρ t := fun _ => rfl
  -- every owned block was owned
  have hown : ∀ t b, updH s.hp [(k, none), (k', some B)] t ≠ none → (if t = k' then some x else s.ρ t) = some (some b) → ∃ t0, s.hp t0 ≠ none ∧ s.ρ t0 = some (some b) ∧ (t = k' ∧ t0 = k ∨ t ≠ k' ∧ t ≠ k ∧ t0 = t) := by
    intro t b h h'
    rw [hhp] at h
    by_cases e : t = k
    · rw [if_pos e] at h; exact absurd rfl h
    · by_cases e' : t = k'
      · rw [if_pos e'] at h'
        cases h'
        exact ⟨k, by rw [hk]; simp, hr, .inl ⟨e', rfl⟩⟩
      · rw [if_neg e, if_neg e'] at h
        rw [if_neg e'] at h'
        exact ⟨t, h, h', .inr ⟨e', e, rfl⟩⟩
  have tr : Tr s w (s.with k' x [(k, none), (k', some B)]) w :=
    { M := rfl
      n0 := rfl
      rho := fun t y h => by rw [hrho, if_neg (by rintro rfl; rw [hk'] at h; cases h)]; exact h
      size := Nat.le_refl _
      os := rfl
      tape := rfl
      output := rfl
      keep := fun _ _ _ => rfl
      own := fun t j h h' => by obtain ⟨t0, h0, h1, _⟩ := hown t j h h'; exact .inl ⟨t0, h0, h1⟩
      dead := fun t h h' => by
        show updH s.hp _ t = none
        rw [hhp, if_neg (by rintro rfl; rw [hk] at h'; cases h'), if_neg (by rintro rfl; exact h hk')]; exact h'
      arr := fun t fresh esz els h => by
        by_cases e : t = k
        · exact .inl (by show updH s.hp _ t = none; rw [hhp, if_pos e])
        · have e' : t ≠ k' := by rintro rfl; rw [ok.hp_none hk'] at h; cases h
          exact .inr ⟨fresh, els, by show updH s.hp _ t = _; rw [hhp, if_neg e, if_neg e']; exact h, Nat.le_refl _, fun j cs ty fz _ hc => ⟨cs, ty, fz, hc, rfl⟩⟩ }
  refine ⟨tr, ok.step tr ?_ ?_, rfl, fun t h hn => by rw [hrho, if_neg (by simpa using hn)]; exact h⟩
  · intro t B2 h
    have h2 : updH s.hp [(k, none), (k', some B)] t = some B2 := h
    rw [hhp] at h2
    by_cases e : t = k
    · rw [if_pos e] at h2; cases h2
    · by_cases e' : t = k'
      · rw [if_neg e, if_pos e'] at h2
        cases h2
        subst e'
        obtain ⟨y, hy, hok⟩ := ok.blk k B hk
        rw [hr] at hy; cases hy
        exact .inr ⟨x, by rw [hrho, if_pos rfl], hok.step tr fun _ _ => rfl⟩
      · rw [if_neg e, if_neg e'] at h2
        exact .inl ⟨h2, fun _ _ => rfl⟩
  · intro t t' j h h' hj hj'
    obtain ⟨t0, h0, h1, c⟩ := hown t j h hj
    obtain ⟨t1, h2, h3, c'⟩ := hown t' j h' hj'
    have := ok.inj t0 t1 j h0 h2 h1 h3
    rcases c with ⟨c1, c2⟩ | ⟨c1, c2, c3⟩ <;> rcases c' with ⟨d1, d2⟩ | ⟨d1, d2, d3⟩ <;> omega

/-- A new name that stands for nothing yet: a slice of no places. -/
theorem Post.blank {s : Sg} {w : World} (ok : OK s w) {k : Nat} (hk : s.ρ k = none) (f : Bool) (esz : Nat) : Post s w [k] [(k, some (.arr f esz []))] (s.with k none [(k, some (.arr f esz []))]) w := by
  have hhp : ∀ t, (s.with k none [(k, some (.arr f esz []))]).hp t = if t = k then some (.arr f esz []) else s.hp t := fun t => updH_one s.hp k _ t
  have hrho : ∀ t, (s.with k none [(k, some (.arr f esz []))]).ρ t = if t = k then some none else s.ρ t := fun _ => rfl
  have hown : ∀ t b, (s.with k none [(k, some (.arr f esz []))]).hp t ≠ none → (s.with k none [(k, some (.arr f esz []))]).ρ t = some (some b) → s.hp t ≠ none ∧ s.ρ t = some (some b) := by
    intro t b h h'
    rw [hhp] at h
    rw [hrho] at h'
    by_cases e : t = k
    · rw [if_pos e] at h'; cases h'
    · rw [if_neg e] at h h'; exact ⟨h, h'⟩
  have tr : Tr s w (s.with k none [(k, some (.arr f esz []))]) w :=
    { M := rfl
      n0 := rfl
      rho := fun t y h => by rw [hrho, if_neg (by rintro rfl; rw [hk] at h; cases h)]; exact h
      size := Nat.le_refl _
      os := rfl
      tape := rfl
      output := rfl
      keep := fun _ _ _ => rfl
      own := fun t j h h' => .inl ⟨t, hown t j h h'⟩
      dead := fun t h h' => by rw [hhp, if_neg (by rintro rfl; exact h hk)]; exact h'
      arr := fun t fresh esz' els h => by
        have hne : t ≠ k := by rintro rfl; rw [ok.hp_none hk] at h; cases h
        exact .inr ⟨fresh, els, by rw [hhp, if_neg hne]; exact h, Nat.le_refl _, fun j cs ty fz _ hc => ⟨cs, ty, fz, hc, rfl⟩⟩ }
  refine ⟨tr, ok.step tr ?_ ?_, rfl, fun t h hn => by rw [hrho, if_neg (by simpa using hn)]; exact h⟩
  · intro t B2 h2
    rw [hhp] at h2
    by_cases e : t = k
    · rw [if_pos e] at h2
      cases h2
      exact .inr ⟨Option.none, by rw [hrho, if_pos e], .inl ⟨rfl, rfl⟩⟩
    · rw [if_neg e] at h2
      exact .inl ⟨h2, fun _ _ => rfl⟩
  · intro t t' j h h' hj hj'
    obtain ⟨h0, h1⟩ := hown t j h hj
    obtain ⟨h2, h3⟩ := hown t' j h' hj'
    exact ok.inj t t' j h0 h2 h1 h3

/-- rows one behind the other, cell by cell -/
theorem div_at {esz j i : Nat} (h : i < esz) : (j * esz + i) / esz = j ∧ (j * esz + i) % esz = i := by
  have hp : 0 < esz := by omega
  constructor
  · rw [Nat.add_comm, Nat.add_mul_div_right _ _ hp, Nat.div_eq_of_lt h, Nat.zero_add]
  · rw [Nat.add_comm, Nat.add_mul_mod_self_right, Nat.mod_eq_of_lt h]

/-- What is appended: a slice's places, read. -/
structure Src (R : AV → Value → Prop) (w : World) (esz : Nat) (rows : List (List AV)) (u : Value) (A : Option Addr) (c : Nat) (news : List Value) : Prop where
  eq : u = .slice A rows.length c
  len : news.length = rows.length * esz
  row : ∀ (j : Nat) (row : List AV), rows[j]? = some row → row.length = esz
  some : rows ≠ [] → ∃ ad, A = .some ad ∧ ∀ (p : Nat) (v : Value), news[p]? = .some v → w.cell? (ad.add p) = .some v
  rep : ∀ (j : Nat) (row : List AV) (i : Nat) (av : AV), rows[j]? = .some row → row[i]? = .some av → ∃ v, news[j * esz + i]? = .some v ∧ R av v

theorem Src.one {R : AV → Value → Prop} {w : World} {esz : Nat} {rows : List (List AV)} {u : Value} {A : Option Addr} {c : Nat} {news : List Value} (hR : ∀ x v, R x v → v.oneCell' = true) (h : Src R w esz rows u A c news) : ∀ v ∈ news, v.oneCell' = true := by
  intro v hv
  obtain ⟨p, hp⟩ := List.getElem?_of_mem hv
  have hlt : p < rows.length * esz := by rw [← h.len]; exact (List.getElem?_eq_some_iff.1 hp).1
  have hpos : 0 < esz := by
    rcases Nat.eq_zero_or_pos esz with rfl | h1
    · simp at hlt
    · exact h1
  have hj : p / esz < rows.length := (Nat.div_lt_iff_lt_mul hpos).2 hlt
  have hrow := List.getElem?_eq_getElem hj
  have hl := h.row _ _ hrow
  have hi : p % esz < (rows[p / esz]).length := by rw [hl]; exact Nat.mod_lt _ hpos
  obtain ⟨v', hv', hrep⟩ := h.rep _ _ _ _ hrow (List.getElem?_eq_getElem hi)
  have he : p / esz * esz + p % esz = p := by rw [Nat.mul_comm]; exact Nat.div_add_mod p esz
  rw [he, hp] at hv'
  cases hv'
  exact hR _ _ hrep

theorem Rep.src {F : Nat → Prop} {w : World} {esz : Nat} {rows : List (List AV)} {u : Value} (h : Rep F w (.ro esz rows) u) : ∃ A c news, Src (Rep F w) w esz rows u A c news := by
  cases h with
  | @nil _ A cap hc => exact ⟨A, cap, [], rfl, by simp, by simp, by simp, by simp⟩
  | @ro _ _ b off cap c hF hb hn hc hrow hcell hrep =>
    refine ⟨_, cap, (List.range (rows.length * esz)).map fun p => c (p / esz) (p % esz), rfl, by simp, hrow, fun _ => ⟨_, rfl, fun p v hp => ?_⟩, fun j row i av h1 h2 => ?_⟩
    · simp only [List.getElem?_map, Option.map_eq_some_iff] at hp
      obtain ⟨q, hq, rfl⟩ := hp
      obtain ⟨h3, h4⟩ := List.getElem?_eq_some_iff.1 hq
      simp at h3 h4
      subst h4
      have hpos : 0 < esz := by
        rcases Nat.eq_zero_or_pos esz with rfl | h1
        · simp at h3
        · exact h1
      have hj : p / esz < rows.length := (Nat.div_lt_iff_lt_mul hpos).2 h3
      have hr := List.getElem?_eq_getElem hj
      have hi : p % esz < (rows[p / esz]).length := by rw [hrow _ _ hr]; exact Nat.mod_lt _ hpos
      have := hcell _ _ _ _ hr (List.getElem?_eq_getElem hi)
      rw [Nat.mul_comm (p / esz) esz, Nat.div_add_mod] at this
      rw [addr_add]
      exact this
    · have hi : i < esz := by rw [← hrow j row h1]; exact (List.getElem?_eq_some_iff.1 h2).1
      have hj : j < rows.length := (List.getElem?_eq_some_iff.1 h1).1
      obtain ⟨e1, e2⟩ := div_at (j := j) hi
      refine ⟨c j i, ?_, hrep j row i av h1 h2⟩
      have hlt : j * esz + i < rows.length * esz := by
        have : (j + 1) * esz ≤ rows.length * esz := Nat.mul_le_mul_right _ hj
        rw [Nat.succ_mul] at this
        omega
      simp [List.getElem?_map, List.getElem?_range hlt, e1, e2]

theorem own_src {s : Sg} {w : World} (ok : OK s w) {k esz off m : Nat} {fresh : Bool} {els : List (List AV)} {u : Value} (hk : s.hp k = some (.arr fresh esz els)) (h : Rel s w (.sl k esz off m) u) (hle : off + m ≤ els.length) :
    ∃ A c news, Src (ElR fresh s w) w esz ((els.drop off).take m) u A c news := by
  have hm : ((els.drop off).take m).length = m := by simp; omega
  cases h with
  | rep h => cases h
  | slg _ hp => rw [hk] at hp; cases hp
  | sln hr =>
    rename_i A
    refine ⟨A, 0, [], by rw [hm], by simp, by simp, by simp, by simp⟩
  | @sl _ _ _ _ b cap fr els' cs ty fz hr hp hle' hb hn hc hs =>
    rw [hk] at hp; cases hp
    obtain ⟨y, hy, hok⟩ := ok.blk k _ hk
    rw [hr] at hy; cases hy
    rcases hok with ⟨h0, _⟩ | ⟨b', cs', ty', e1, h1, h2, h3, h4⟩
    · cases h0
    · cases e1
      rw [hb] at h1; cases h1
      have hms : (off + m) * esz ≤ els.length * esz := Nat.mul_le_mul_right _ hle
      have hme : (off + m) * esz = off * esz + m * esz := Nat.add_mul ..
      refine ⟨_, cap, (cs.toList.drop (off * esz)).take (m * esz), by rw [hm], ?_, fun j row h5 => ?_, fun _ => ⟨_, rfl, fun p v hp => ?_⟩, fun j row i av h5 h6 => ?_⟩
      · simp only [List.length_take, List.length_drop, Array.length_toList, hm]; omega
      · simp only [List.getElem?_take, List.getElem?_drop] at h5
        split at h5
        · exact h3 _ row h5
        · cases h5
      · simp only [List.getElem?_take, List.getElem?_drop] at hp
        split at hp
        · rw [addr_add, cell_of_row w b _ cs ty _ hb]
          simpa using hp
        · cases hp
      · simp only [List.getElem?_take, List.getElem?_drop] at h5
        split at h5
        · rename_i hlt
          obtain ⟨v, h7, h8⟩ := h4 _ row i av h5 h6
          have hi : i < esz := by rw [← h3 _ row h5]; exact (List.getElem?_eq_some_iff.1 h6).1
          refine ⟨v, ?_, h8⟩
          have hj : (j + 1) * esz ≤ m * esz := Nat.mul_le_mul_right _ hlt
          rw [Nat.succ_mul] at hj
          simp only [List.getElem?_take, List.getElem?_drop]
          rw [if_pos (by omega)]
          have h9 : off * esz + (j * esz + i) = (off + j) * esz + i := by rw [Nat.add_mul]; omega
          rw [h9]
          simpa using h7
        · cases h5

theorem Src.weaken {R R' : AV → Value → Prop} {w : World} {esz : Nat} {rows : List (List AV)} {u : Value} {A : Option Addr} {c : Nat} {news : List Value} (h : Src R w esz rows u A c news) (hF : ∀ x v, R x v → R' x v) : Src R' w esz rows u A c news :=
  { h with rep := fun j row i av h1 h2 => by obtain ⟨v, h3, h4⟩ := h.rep j row i av h1 h2; exact ⟨v, h3, hF _ _ h4⟩ }

/-- The facts on an element's type that append asks for. -/
structure ElT (P : Program) (t el esz bytes : Nat) : Prop where
  ht : P.underlying t = some (.slice el)
  info : (P.info? el).map (fun i => (i.size, i.bytes, i.zero.map (·.cells.size))) = some (esz, bytes, some esz)
  pos : 0 < esz

theorem ElT.open {P : Program} {t el esz bytes : Nat} (h : ElT P t el esz bytes) : ∃ i z, P.info? el = some i ∧ i.zero = some z ∧ i.size = esz ∧ i.bytes = bytes ∧ z.cells.size = esz := by
  obtain ⟨i, hi, h1⟩ := Option.map_eq_some_iff.1 h.info
  simp only [Prod.mk.injEq, Option.map_eq_some_iff] at h1
  obtain ⟨h2, h3, z, hz, h4⟩ := h1
  exact ⟨i, z, hi, hz, h2, h3, h4⟩

section
variable {P : Program}

theorem run_append_zero {t el esz bytes : Nat} (T : ElT P t el esz bytes) (ty : TypeId) (base : Option Addr) (n cap : Nat) (A : Option Addr) (c : Nat) (hn : n ≤ cap) (w : World) :
    (Builtin.append_ #[t, t] ty #[.slice base n cap, .slice A 0 c]).run P w = .ok (.slice base n cap) w := by
  obtain ⟨i, z, hi, _⟩ := T.open
  have hint : (match TypeDesc.slice el with | TypeDesc.int _ => true | _ => false) = false := rfl
  cases A <;> cases base <;> simp [Builtin.append_, run_underlying T.ht, sizeOf, typeInfo, hi, Builtin.lenOf, hn, Builtin.firstCells, loadCells, loadCellsFrom, storeCells]

theorem run_append_room1 (w : World) (t ty e ty1 : TypeId) (i : TypeInfo) (ht : P.underlying t = some (.slice e)) (hi : P.info? e = some i)
    (g sLen sCap : Nat) (cur : Array Value) (hg : w.heap[g]? = some (.cells cur ty1 (0, 0)))
    (a : Addr) (m c : Nat) (news : List Value) (hl : news.length = m * i.size) (hnews : ∀ (j : Nat) (u : Value), news[j]? = some u → w.cell? (a.add j) = some u) (h1 : ∀ u ∈ news, u.oneCell' = true)
    (hroom : sLen + m ≤ sCap) (hfit : sLen * i.size + news.length ≤ cur.size) :
    (Builtin.append_ #[t, t] ty #[.slice (some ⟨g, 0, none⟩) sLen sCap, .slice (some a) m c]).run P w =
      .ok (.slice (some ⟨g, 0, none⟩) (sLen + m) sCap) (w.setRow g (cur.toList.take (sLen * i.size) ++ news ++ cur.toList.drop (sLen * i.size + news.length)).toArray) := by
  have hf := run_firstCells_some (P := P) w i.size m a m c news hl hnews
  have hst := run_storeCells_at P g (sLen * i.size) ty1 news 0 cur w hg (by simpa using hfit) h1
  simp only [Nat.add_zero] at hst
  simp [Builtin.append_, run_underlying ht, sizeOf, typeInfo, hi, Builtin.lenOf, hroom, hf, Addr.add_lit, hst]

theorem Rel.sl0 {s : Sg} {w : World} {k esz n b cap : Nat} {fr : Bool} {els : List (List AV)} {cs : Array Value} {ty : TypeId} {fz : Nat × Nat} (h : s.ρ k = some (some b)) (hp : s.hp k = some (.arr fr esz els))
    (hle : n ≤ els.length) (hb : w.heap[b]? = some (.cells cs ty fz)) (hn : n ≤ cap) (hc : cap ≤ maxLen) (hs : cap * esz ≤ cs.size) :
    Rel s w (.sl k esz 0 n) (.slice (some ⟨b, 0, none⟩) n cap) := by
  have := Rel.sl (off := 0) h hp (by omega) hb hn hc (by rw [Nat.zero_add]; exact hs)
  rwa [Nat.zero_mul] at this

/-- What append leaves: the row of the old places and the new ones, in the old block or in a new one. -/
theorem append_core {t el esz bytes : Nat} (T : ElT P t el esz bytes) (ty : TypeId) {s : Sg} {w : World} (ok : OK s w) {k k' : Nat} {fresh : Bool} {els rows : List (List AV)} {v u : Value} {A : Option Addr} {c : Nat} {news : List Value}
    (hk : s.hp k = some (.arr fresh esz els)) (hk' : s.ρ k' = none) (hv : Rel s w (.sl k esz 0 els.length) v) (hsrc : Src (ElR fresh s w) w esz rows u A c news)
    (hbytes : (els.length + rows.length) * bytes ≤ 140737488355328) (hmax : els.length + rows.length ≤ 140737488355328) :
    ∃ v' s' w', (Builtin.append_ #[t, t] ty #[v, u]).run P w = .ok v' w' ∧ Post s w [k'] [(k, none), (k', some (.arr fresh esz (els ++ rows)))] s' w' ∧ Rel s' w' (.sl k' esz 0 (els.length + rows.length)) v' := by
  obtain ⟨i, z, hi, hz, hsz, hby, hzs⟩ := T.open
  have hkk : k' ≠ k := by rintro rfl; rw [ok.hp_none hk'] at hk; cases hk
  obtain ⟨y, hy, hok⟩ := ok.blk k _ hk
  obtain ⟨nn, hnn⟩ : ∃ n, els.length = n := ⟨_, rfl⟩
  rw [hnn] at hv
  -- nothing is appended
  by_cases hm : rows = []
  · subst hm
    have hu := hsrc.eq
    have hp := Post.rename ok hk hy hk'
    have hform : ∃ base n cap, v = .slice base n cap ∧ n ≤ cap := by
      cases hv with
      | rep h => cases h
      | slg _ hp => rw [hk] at hp; cases hp
      | sl _ _ _ _ hn => exact ⟨_, _, _, rfl, hn⟩
      | sln => exact ⟨_, _, _, rfl, Nat.le_refl _⟩
    obtain ⟨base, n, cap, rfl, hn⟩ := hform
    subst hu
    refine ⟨_, _, w, run_append_zero T ty base n cap A c hn w, by simpa using hp, ?_⟩
    simp only [List.length_nil, Nat.add_zero, hnn]
    have hrho : (s.with k' y [(k, none), (k', some (.arr fresh esz els))]).ρ k' = some y := by simp [Sg.with]
    have hhp : (s.with k' y [(k, none), (k', some (.arr fresh esz els))]).hp k' = some (.arr fresh esz els) := by
      show updH s.hp _ k' = _
      rw [updH_two, if_neg hkk, if_pos rfl]
    cases hv with
    | rep h => cases h
    | slg _ hp => rw [hk] at hp; cases hp
    | sl hr hp hle hb hn hc hs =>
      rw [hy] at hr
      cases hr
      exact .sl (by rw [hrho]) hhp (by omega) hb hn hc hs
    | sln hr =>
      rw [hy] at hr
      cases hr
      exact .sln hrho
  have hmpos : 0 < rows.length := List.length_pos_iff.2 hm
  obtain ⟨ad, hA, hcell⟩ := hsrc.some hm
  have hu := hsrc.eq
  subst hA hu
  have h63 : ((els.length + rows.length : Nat) : Int) ≤ 9223372036854775807 := by omega
  have hlen : news.length = rows.length * i.size := by rw [hsz]; exact hsrc.len
  -- a row of old and new places, whatever lies behind it
  have content : ∀ (s' : Sg) (w' : World) (cur : List Value) (rest : List Value), Tr s w s' w' → (∀ (j : Nat) (row : List AV) (i : Nat) (av : AV), els[j]? = some row → row[i]? = some av → ∃ v, cur[j * esz + i]? = some v ∧ ElR fresh s w av v) →
      (∀ (j : Nat) (row : List AV), els[j]? = some row → row.length = esz) → cur.length = els.length * esz → ∀ b ty', w'.heap[b]? = some (.cells (cur ++ news ++ rest).toArray ty' (0, 0)) → BOK s' w' (some b) (.arr fresh esz (els ++ rows)) := by
    intro s' w' cur rest tr hcur hrow hcl b ty' hb
    have hmono : ∀ {z : AV} {z' : Value}, ElR fresh s w z z' → ElR fresh s' w' z z' := fun hz => hz.step tr
    refine .inr ⟨b, _, ty', rfl, hb, ?_, fun j row h1 => ?_, fun j row q av h1 h2 => ?_⟩
    · simp only [List.length_append, List.size_toArray, hcl, hsrc.len, Nat.add_mul]; omega
    · rw [List.getElem?_append] at h1
      split at h1
      · exact hrow j row h1
      · exact hsrc.row _ row h1
    · simp only [List.getElem?_toArray]
      rw [List.getElem?_append] at h1
      split at h1
      · rename_i hj
        have hq : q < esz := by rw [← hrow j row h1]; exact (List.getElem?_eq_some_iff.1 h2).1
        obtain ⟨v, h3, h4⟩ := hcur j row q av h1 h2
        have hle : (j + 1) * esz ≤ els.length * esz := Nat.mul_le_mul_right _ hj
        rw [Nat.succ_mul] at hle
        refine ⟨v, ?_, hmono h4⟩
        rw [List.append_assoc, List.getElem?_append, if_pos (by omega)]
        exact h3
      · rename_i hj
        have hq : q < esz := by rw [← hsrc.row _ row h1]; exact (List.getElem?_eq_some_iff.1 h2).1
        obtain ⟨v, h3, h4⟩ := hsrc.rep _ row q av h1 h2
        have hle : els.length * esz ≤ j * esz := Nat.mul_le_mul_right _ (by omega)
        have hsub : (j - els.length) * esz = j * esz - els.length * esz := Nat.sub_mul ..
        refine ⟨v, ?_, hmono h4⟩
        rw [List.append_assoc, List.getElem?_append, if_neg (by omega), List.getElem?_append, if_pos (by have := (List.getElem?_eq_some_iff.1 h3).1; omega)]
        rw [show j * esz + q - cur.length = (j - els.length) * esz + q from by omega]
        exact h3
  -- the way of a new block
  have grow : ∀ (old : Nat) (cur : List Value), old < els.length + rows.length → cur.length = els.length * esz → (∀ (j : Nat) (row : List AV) (i : Nat) (av : AV), els[j]? = some row → row[i]? = some av → ∃ v, cur[j * esz + i]? = some v ∧ ElR fresh s w av v) →
      (∀ (j : Nat) (row : List AV), els[j]? = some row → row.length = esz) →
      (Builtin.append_ #[t, t] ty #[v, .slice (some ad) rows.length c]).run P w = .ok (.slice (some ⟨w.heap.size, 0, none⟩) (els.length + rows.length) (grownCap w (els.length + rows.length) old el))
        (w.drew.alloc (.cells (cur.toArray ++ news.toArray ++ Builtin.zeroCells z.cells (grownCap w (els.length + rows.length) old el - (els.length + rows.length))) el)) →
      ∃ v' s' w', (Builtin.append_ #[t, t] ty #[v, .slice (some ad) rows.length c]).run P w = .ok v' w' ∧ Post s w [k'] [(k, none), (k', some (.arr fresh esz (els ++ rows)))] s' w' ∧ Rel s' w' (.sl k' esz 0 (els.length + rows.length)) v' := by
    intro old cur hold hcl hcur hrow hrun
    have hcells : (cur.toArray ++ news.toArray ++ Builtin.zeroCells z.cells (grownCap w (els.length + rows.length) old el - (els.length + rows.length))) = (cur ++ news ++ (Builtin.zeroCells z.cells (grownCap w (els.length + rows.length) old el - (els.length + rows.length))).toList).toArray := by
      apply Array.ext'; simp
    rw [hcells] at hrun
    have hge := grownCap_ge w (els.length + rows.length) old el
    have hcm : grownCap w (els.length + rows.length) old el ≤ maxLen := grownCap_le_maxLen w (els.length + rows.length) old el (by unfold maxLen; omega)
    have p1 := Post.new (w := w) (w0 := w.drew) ok hk' (.arr fresh esz (els ++ rows)) (.cells (cur ++ news ++ (Builtin.zeroCells z.cells (grownCap w (els.length + rows.length) old el - (els.length + rows.length))).toList).toArray el (0, 0)) rfl rfl rfl rfl (fun s' w' tr hn => content s' w' cur _ tr hcur hrow hcl _ _ hn)
    have p2 := Post.drop p1.ok k
    refine ⟨_, _, _, hrun, p1.comp ok p2 (by simp) ?_, ?_⟩
    · intro q
      rw [updH_one, updH_one, updH_two]
    · refine .sl0 (b := w.heap.size) (fr := fresh) (els := els ++ rows) ?_ ?_ ?_ (alloc_new w.drew _) hge hcm ?_
      · simp [Sg.with]
      · show updH _ _ k' = _
        rw [updH_one, if_neg hkk]
        show updH _ _ k' = _
        rw [updH_one, if_pos rfl]
      · simp
      · simp only [List.size_toArray, List.length_append, Array.length_toList, size_zeroCells, hzs, hcl, hsrc.len, ← Nat.add_mul]
        exact Nat.mul_le_mul_right _ (by omega)
  cases hv with
  | rep h => cases h
  | slg _ hp => rw [hk] at hp; cases hp
  | @sln _ _ _ A0 hr =>
    rw [hr] at hy
    cases hy
    rcases hok with ⟨_, he⟩ | ⟨b, cs, ty1, e1, _⟩
    · subst he
      simp only [List.length_nil, Nat.zero_add] at *
      cases A0 with
      | none =>
        refine grow 0 [] hmpos (by simp) (by simp) (by simp) ?_
        have := run_append_nil (P := P) w t ty el i z T.ht hi hz ad rows.length c news hlen hcell hmpos (by omega) (by rw [hby]; omega)
        simpa using this
      | some a0 =>
        refine grow 0 [] hmpos (by simp) (by simp) (by simp) ?_
        have := run_append_grow (P := P) w t ty el i z T.ht hi hz a0 0 0 [] (by simp) (by simp) ad rows.length c news hlen hcell (by omega) (by simpa using h63) (by rw [hby]; exact growslice_fits (by omega) (by simpa using hbytes))
        simpa using this
    · cases e1
  | @sl _ _ _ _ b cap fr els' cs ty1 fz hr hp hle hb hn hc hs =>
    rw [hk] at hp; cases hp
    rw [hr] at hy; cases hy
    rcases hok with ⟨h0, _⟩ | ⟨b', cs1, ty2, e1, h1, h2, h3, h4⟩
    · cases h0
    · cases e1
      rw [hb] at h1; cases h1
      subst hnn
      simp only [Nat.zero_mul, Nat.zero_add] at hs grow ⊢
      by_cases hroom : els.length + rows.length ≤ cap
      · have hfit : els.length * i.size + news.length ≤ cs.size := by
          rw [hlen, hsz, ← Nat.add_mul]; exact Nat.le_trans (Nat.mul_le_mul_right _ hroom) hs
        have hrun := run_append_room1 (P := P) w t ty el ty1 i T.ht hi b els.length cap cs hb ad rows.length c news hlen hcell (hsrc.one fun _ _ h => h.one) hroom hfit
        have hcs : (cs.toList.take (els.length * i.size) ++ news ++ cs.toList.drop (els.length * i.size + news.length)).toArray.size = cs.size := by
          simp only [List.size_toArray, List.length_append, List.length_take, List.length_drop, Array.length_toList]; omega
        have p1 := Post.upd ok hk hr hb hcs (B' := .arr fresh esz (els ++ rows)) (by intro f e els0 h; cases h; exact ⟨_, _, rfl, by simp⟩)
          (fun s' w' tr hnew => content s' w' (cs.toList.take (els.length * esz)) _ tr (fun j row q av h5 h6 => by
            obtain ⟨v, h7, h8⟩ := h4 j row q av h5 h6
            have hq : q < esz := by rw [← h3 j row h5]; exact (List.getElem?_eq_some_iff.1 h6).1
            have hj : j < els.length := (List.getElem?_eq_some_iff.1 h5).1
            have hle : (j + 1) * esz ≤ els.length * esz := Nat.mul_le_mul_right _ hj
            rw [Nat.succ_mul] at hle
            refine ⟨v, ?_, h8⟩
            rw [List.getElem?_take, if_pos (by omega)]
            simpa using h7) h3 (by simp only [List.length_take, Array.length_toList]; omega) b ty1 (by rw [hsz] at hnew; exact hnew))
        have hk1 : updH s.hp [(k, some (.arr fresh esz (els ++ rows)))] k = some (.arr fresh esz (els ++ rows)) := by rw [updH_one, if_pos rfl]
        have p2 := Post.rename p1.ok (k := k) (k' := k') (x := some b) hk1 hr hk'
        refine ⟨_, _, _, hrun, p1.comp ok p2 (by simp) ?_, ?_⟩
        · intro q
          rw [updH_two, updH_one, updH_two]
          by_cases e : q = k
          · simp [e]
          · simp [e]
        · refine .sl0 (b := b) (fr := fresh) (els := els ++ rows) (cs := (cs.toList.take (els.length * i.size) ++ news ++ cs.toList.drop (els.length * i.size + news.length)).toArray) (ty := ty1) (fz := (0, 0)) ?_ ?_ ?_ ?_ hroom hc ?_
          · simp [Sg.with]
          · show updH _ _ k' = _
            rw [updH_two, if_neg hkk, if_pos rfl]
          · simp
          · exact setRow_heap w b cs _ ty1 (0, 0) hb
          · rw [hcs]; exact hs
      · refine grow cap (cs.toList.take (els.length * esz)) (by omega) (by simp only [List.length_take, Array.length_toList]; omega) (fun j row q av h5 h6 => ?_) h3 ?_
        · obtain ⟨v, h7, h8⟩ := h4 j row q av h5 h6
          have hq : q < esz := by rw [← h3 j row h5]; exact (List.getElem?_eq_some_iff.1 h6).1
          have hj : j < els.length := (List.getElem?_eq_some_iff.1 h5).1
          have hle : (j + 1) * esz ≤ els.length * esz := Nat.mul_le_mul_right _ hj
          rw [Nat.succ_mul] at hle
          refine ⟨v, ?_, h8⟩
          rw [List.getElem?_take, if_pos (by omega)]
          simpa using h7
        · have := run_append_grow (P := P) w t ty el i z T.ht hi hz ⟨b, 0, none⟩ els.length cap (cs.toList.take (els.length * esz)) (by rw [hsz]; simp only [List.length_take, Array.length_toList]; omega) (fun j u hu => by
            rw [addr_add, Nat.zero_add, cell_of_row w b _ cs ty1 _ hb]
            rw [List.getElem?_take] at hu
            split at hu
            · simpa using hu
            · cases hu) ad rows.length c news hlen hcell (by omega) h63 (by rw [hby]; exact growslice_fits (by omega) hbytes)
          exact this
end
end Go.Abs
end
section
namespace Go.Abs
variable [VL]

theorem Rel.weak_bare {s : Sg} {w : World} {fresh : Bool} {x : AV} {v : Value} (h : Rep (if fresh then s.old else s.mut) w x v) : Rep s.mut w x v := by
  cases fresh
  · exact h
  · exact h.weaken fun b _ hm => .inl hm

/-- What is appended, as the state has it. -/
inductive SrcAV (E : Env) (H : Hp) (esz : Nat) (f : Bool) (y : Operand) : List (List AV) → Prop
  | sl {k off m : Nat} {f2 : Bool} {els : List (List AV)} (hy : evO E y = some (.sl k esz off m)) (hH : H k = some (.arr f2 esz els)) (hle : off + m ≤ els.length) (hf : f = true → f2 = true) : SrcAV E H esz f y ((els.drop off).take m)
  | ro {rows : List (List AV)} (hy : evO E y = some (.ro esz rows)) (hf : f = false) : SrcAV E H esz f y rows
  | fr {rows : List (List AV)} (hy : evO E y = some (.fr (.ro esz rows))) : SrcAV E H esz f y rows
  | nil {A : Option Addr} {c : Nat} (hy : evO E y = some (.lit (.slice A 0 c))) : SrcAV E H esz f y []
  | roL {rows : List (List AV)} (hy : evO E y = some (.ro esz rows)) (hl : ∀ row ∈ rows, ∀ c ∈ row, ∃ v, c = .lit v) : SrcAV E H esz f y rows

theorem SrcAV.src {E : Env} {H : Hp} {esz : Nat} {f : Bool} {y : Operand} {rows : List (List AV)} (h : SrcAV E H esz f y rows) {s : Sg} {w : World} {a : Act} (ok : OK s w)
    (hE : ∀ t av, E t = some av → Rel s w av (a.tmps.getD t undef)) (hH : ∀ k B, H k = some B → s.hp k = some B) : ∃ A c news, Src (ElR f s w) w esz rows (a.eval y) A c news := by
  cases h with
  | @sl k off m f2 els hy hHk hle hf =>
    obtain ⟨A, c, news, h⟩ := own_src ok (hH k _ hHk) (evO_rel hE hy) hle
    refine ⟨A, c, news, h.weaken fun x v hb => ?_⟩
    cases f
    · exact hb.rel
    · rw [hf rfl] at hb; exact hb
  | ro hy hf =>
    have h := evO_rel hE hy
    subst hf
    generalize a.eval y = u at h
    cases h with
    | rep h =>
      obtain ⟨A, c, news, h⟩ := Rep.src h
      exact ⟨A, c, news, h.weaken fun x v hb => ⟨.rep hb, hb.isOne⟩⟩
  | fr hy =>
    have h := evO_rel hE hy
    generalize a.eval y = u at h
    cases h with
    | rep h => cases h
    | fr h =>
      obtain ⟨A, c, news, h⟩ := Rep.src h
      refine ⟨A, c, news, h.weaken fun x v hb => ?_⟩
      cases f
      · exact ElR.rel (f := true) hb
      · exact hb
  | @nil A c hy =>
    have e := Rel.lit_eq (evO_rel hE hy)
    exact ⟨A, c, [], e, by simp, by simp, by simp, by simp⟩
  | roL hy hl =>
    have h := evO_rel hE hy
    generalize a.eval y = u at h
    cases h with
    | rep h =>
      obtain ⟨A, c, news, h⟩ := Rep.src h
      refine ⟨A, c, news, { h with rep := fun j row i av h1 h2 => ?_ }⟩
      obtain ⟨v, h3, h4⟩ := h.rep j row i av h1 h2
      obtain ⟨x, rfl⟩ := hl row (List.mem_of_getElem? h1) av (List.mem_of_getElem? h2)
      refine ⟨v, h3, ?_⟩
      cases h4 with
      | lit h5 =>
        cases f
        · exact ⟨.rep (.lit h5), rfl⟩
        · exact .lit h5

section
variable {P : Program} {o : Oper} {E : Env} {H : Hp}

theorem AOp.append {t el esz bytes n : Nat} {x y : Operand} {k : Nat} (k' : Nat) {f : Bool} {els rows : List (List AV)} (T : ElT P t el esz bytes) (ho : o.op = .call { callee := .builtin .append, args := #[x, y], argTypes := #[t, t] })
    (hx : evO E x = some (.sl k esz 0 n)) (hH : H k = some (.arr f esz els)) (hn : els.length = n) (hy : SrcAV E H esz f y rows)
    (hbytes : (els.length + rows.length) * bytes ≤ 140737488355328) (hmax : els.length + rows.length ≤ 140737488355328) :
    AOp P o E H [k'] (some (.sl k' esz 0 (n + rows.length))) [(k, none), (k', some (.arr f esz (els ++ rows)))] :=
  AOp.value fun s w a ok hE hH' hfr => by
    subst hn
    obtain ⟨A, c, news, hsrc⟩ := hy.src (a := a) ok hE hH'
    obtain ⟨v', s', w', hrun, hpost, hrel⟩ := append_core T o.type ok (hH' k _ hH) (hfr k' (by simp)) (evO_rel hE hx) hsrc hbytes hmax
    refine ⟨v', s', w', ?_, hpost, fun av e => by cases e; exact hrel⟩
    simp [execOp, ho, resolve, invoke, builtin, hrun]

theorem AOp.append_emp {t el esz bytes : Nat} {x y : Operand} (k' : Nat) (f : Bool) {rows : List (List AV)} (T : ElT P t el esz bytes) (ho : o.op = .call { callee := .builtin .append, args := #[x, y], argTypes := #[t, t] })
    (hx : evO E x = some .emp ∨ ∃ A, evO E x = some (.lit (.slice A 0 0))) (hy : SrcAV E H esz f y rows)
    (hbytes : rows.length * bytes ≤ 140737488355328) (hmax : rows.length ≤ 140737488355328) :
    AOp P o E H [k', k' + 1] (some (.sl k' esz 0 rows.length)) [(k', some (.arr f esz rows))] :=
  AOp.value fun s w a ok hE hH' hfr => by
    have hx' : ∃ A, a.eval x = .slice A 0 0 := by
      rcases hx with hx | ⟨A, hx⟩
      · have h := evO_rel hE hx
        generalize a.eval x = u at h
        cases h with
        | rep h => cases h
        | emp => exact ⟨_, rfl⟩
      · exact ⟨A, Rel.lit_eq (evO_rel hE hx)⟩
    obtain ⟨A0, hA0⟩ := hx'
    have p1 := Post.blank ok (hfr (k' + 1) (by simp)) f esz
    obtain ⟨A, c, news, hsrc⟩ := hy.src (a := a) ok hE hH'
    have hsrc' : Src (ElR f (s.with (k' + 1) none [(k' + 1, some (.arr f esz []))]) w) w esz rows (a.eval y) A c news := hsrc.weaken fun _ _ h => h.step p1.tr
    have hk'0 : s.ρ k' = none := hfr k' (by simp)
    obtain ⟨v', s', w', hrun, hpost, hrel⟩ := append_core T o.type p1.ok (k := k' + 1) (k' := k') (fresh := f) (els := []) (v := .slice A0 0 0) (by show updH _ _ _ = _; rw [updH_one, if_pos rfl])
      (by show (if k' = k' + 1 then _ else s.ρ k') = none; rw [if_neg (by omega)]; exact hk'0) (.sln (by simp [Sg.with])) hsrc' (by simpa using hbytes) (by simpa using hmax)
    refine ⟨v', s', w', ?_, p1.comp ok hpost (by simp) ?_, fun av e => by cases e; simpa using hrel⟩
    · simp [execOp, ho, resolve, invoke, builtin, hA0, hrun]
    · intro q
      rw [updH_two, updH_one, updH_one, List.nil_append]
      by_cases e : q = k' + 1
      · subst e
        rw [if_pos rfl, if_neg (by omega), ok.hp_none (hfr _ (by simp))]
      · rw [if_neg e, if_neg e]

/-! ### a literal of a slice, make -/
theorem flatten_get {esz : Nat} : ∀ (rows : List (List AV)), (∀ (j : Nat) (row : List AV), rows[j]? = some row → row.length = esz) → ∀ (j i : Nat) (row : List AV) (av : AV), rows[j]? = some row → row[i]? = some av → rows.flatten[j * esz + i]? = some av
  | [], _, j, i, row, av, h, _ => by simp at h
  | r :: rows, hr, j, i, row, av, h, h2 => by
    have hl : r.length = esz := hr 0 r rfl
    rw [List.flatten_cons, List.getElem?_append]
    cases j with
    | zero =>
      simp at h
      subst h
      have hi : i < r.length := (List.getElem?_eq_some_iff.1 h2).1
      rw [if_pos (by omega)]
      simpa using h2
    | succ j =>
      have hlen : ¬ (j + 1) * esz + i < r.length := by rw [Nat.succ_mul]; omega
      rw [if_neg hlen, hl]
      have : (j + 1) * esz + i - esz = j * esz + i := by rw [Nat.succ_mul]; omega
      rw [this]
      exact flatten_get rows (fun j row h => hr (j + 1) row (by simpa using h)) j i row av (by simpa using h) h2

theorem flatten_len {esz : Nat} : ∀ (rows : List (List AV)), (∀ (j : Nat) (row : List AV), rows[j]? = some row → row.length = esz) → rows.flatten.length = rows.length * esz
  | [], _ => by simp
  | r :: rows, hr => by
    rw [List.flatten_cons, List.length_append, flatten_len rows (fun j row h => hr (j + 1) row (by simpa using h)), hr 0 r rfl, List.length_cons, Nat.succ_mul]; omega

def zerosN (z : Value) (n : Nat) : List AV := (List.range n).map fun p => .lit (z.cells[p % z.cells.size]!)

theorem all_len {esz : Nat} {rows : List (List AV)} (h : rows.all (fun r => r.length == esz) = true) : ∀ (j : Nat) (row : List AV), rows[j]? = some row → row.length = esz := by
  intro j row hj
  have := List.all_eq_true.1 h row (List.mem_of_getElem? hj)
  simpa using this

theorem AOp.buildSlice {t el esz len : Nat} {parts : Array (Nat × Operand)} {z : Value} {ps : List (Nat × AV)} {cells flat : List AV} (k : Nat) (f : Bool) (rows : List (List AV)) (ht : P.underlying t = some (.slice el)) (hs : (P.info? el).map (·.size) = some esz)
    (hz : (P.info? el).bind (·.zero) = some z) (hzs : z.cells.size = esz) (h1 : z.cells.toList.all (·.oneCell') = true) (hpos : ¬ len * esz = 0) (hsmall : ¬ len * esz > 2 ^ 24)
    (ho : o.op = .buildSlice t len parts) (hp : evParts E parts.toList = some ps) (hc : lay (fun i => some (i * esz, esz)) (zerosN z (len * esz)) ps = some cells) (hb : bareAll f cells = some flat) (hf : rows.flatten = flat)
    (hl : rows.length = len) (hr : rows.all (fun r => r.length == esz) = true) :
    AOp P o E H [k] (some (.sl k esz 0 len)) [(k, some (.arr f esz rows))] :=
  AOp.value fun s w a ok hE _ hfr => by
    obtain ⟨inf, hinf, rfl⟩ := Option.map_eq_some_iff.1 hs
    obtain ⟨inf', hinf', hz⟩ := Option.bind_eq_some_iff.1 hz
    rw [hinf] at hinf'; cases hinf'
    obtain ⟨hpl, hrel⟩ := evParts_rel (a := a) hE _ _ hp
    have hzero : ∀ (p : Nat), (z.cells[p % z.cells.size]!).oneCell' = true := by
      intro p
      have hzp : 0 < z.cells.size := by rw [hzs]; rcases Nat.eq_zero_or_pos inf.size with h | h; (rw [h] at hpos; simp at hpos); exact h
      have hlt : p % z.cells.size < z.cells.size := Nat.mod_lt _ hzp
      rw [getElem!_pos z.cells (p % z.cells.size) hlt]
      exact List.all_eq_true.1 h1 _ (by simp)
    obtain ⟨cs', h2, h3, h4⟩ := fill_lay (s := s) (w := w) (fun (i : Nat) => some (i * inf.size, inf.size)) ps (parts.toList.map fun (i, x) => (i, a.eval x)) (zerosN z (len * inf.size)) cells ((Array.range (len * inf.size)).map fun (p : Nat) => z.cells[p % z.cells.size]!) (by simpa using hpl) hrel (by simp [zerosN]) (fun i av v h5 h6 => by
      have hlt : i < len * inf.size := by
        have := (List.getElem?_eq_some_iff.1 h5).1
        simpa [zerosN] using this
      simp only [zerosN, List.getElem?_map, List.getElem?_range hlt, Option.map_some] at h5
      cases h5
      have : v = z.cells[i % z.cells.size]! := by
        simp [hlt] at h6
        simpa using h6.symm
      subst this
      exact .rep (.lit (hzero i))) hc
    have hrun : (Instr.buildSlice t len (parts.map fun (i, x) => (i, a.eval x))).run P w = .ok (.slice (some ⟨w.heap.size, 0, none⟩) len len) (w.alloc (.cells cs' el)) :=
      run_buildSlice w t el len _ cs' inf z ht hinf hz hsmall hpos (by rw [Array.toList_map]; exact h2)
    obtain ⟨hbl, hbs⟩ := bareAll_spec _ _ hb
    have hrows := all_len hr
    have hfl := flatten_len rows hrows
    rw [hf] at hfl
    have hlen : len * inf.size ≤ 2 ^ 24 := by omega
    have hll : len ≤ len * inf.size := Nat.le_mul_of_pos_right _ (by rcases Nat.eq_zero_or_pos inf.size with h | h; (rw [h] at hpos; simp at hpos); exact h)
    have hp1 := Post.new (w := w) (w0 := w) ok (hfr k (by simp)) (.arr f inf.size rows) (.cells cs' el) rfl rfl rfl rfl (fun s' w' tr hn => by
      refine .inr ⟨_, cs', el, rfl, hn, by omega, hrows, fun j row i av h5 h6 => ?_⟩
      have h7 := flatten_get rows hrows j i row av h5 h6
      rw [hf] at h7
      obtain ⟨x, hx, hbx⟩ := hbs _ _ h7
      have hlt : j * inf.size + i < cs'.size := by rw [← h3]; exact (List.getElem?_eq_some_iff.1 hx).1
      have hg : cs'[j * inf.size + i]? = some (cs'[j * inf.size + i]) := Array.getElem?_eq_getElem hlt
      refine ⟨_, hg, ?_⟩
      exact ((h4 _ x _ hx hg).bare hbx).step tr)
    refine ⟨.slice (some ⟨w.heap.size, 0, none⟩) len len, _, _, ?_, hp1, ?_⟩
    · simp only [execOp, ho, Sem.run_bind, hrun]; rfl
    · rintro av ⟨⟩
      refine .sl0 (b := w.heap.size) (fr := f) (els := rows) (cs := cs') (ty := el) (fz := (0, 0)) (by simp [Sg.with]) (by show updH _ _ _ = _; rw [updH_one, if_pos rfl]) (by omega) (alloc_new w _) (Nat.le_refl _) (by unfold maxLen; omega) ?_
      rw [← h3, ← hbl, hfl, hl]; exact Nat.le_refl _

/-- an empty literal -/
theorem AOp.buildEmpty {t el esz : Nat} (k : Nat) (f : Bool) (ht : P.underlying t = some (.slice el)) (hs : (P.info? el).map (·.size) = some esz) (ho : o.op = .buildSlice t 0 #[]) :
    AOp P o E H [k] (some (.sl k esz 0 0)) [(k, some (.arr f esz []))] :=
  AOp.value fun s w a ok hE _ hfr => by
    obtain ⟨inf, hinf, rfl⟩ := Option.map_eq_some_iff.1 hs
    have hp1 := Post.new (w := w) (w0 := w) ok (hfr k (by simp)) (.arr f inf.size []) (.cells #[] el) rfl rfl rfl rfl (fun s' w' tr hn => .inr ⟨_, #[], el, rfl, hn, by simp, by simp, by simp⟩)
    refine ⟨.slice (some ⟨w.heap.size, 0, none⟩) 0 0, _, _, ?_, hp1, ?_⟩
    · have hm0 : ((Array.range 0).map fun (_ : Nat) => (default : Value)) = #[] := by simp
      simp [execOp, ho, Instr.buildSlice, run_underlying ht, sizeOf, typeInfo, hinf, Instr.fill, newRow, hm0]
    · rintro av ⟨⟩
      exact .sl0 (b := w.heap.size) (fr := f) (els := []) (cs := #[]) (ty := el) (fz := (0, 0)) (by simp [Sg.with]) (by show updH _ _ _ = _; rw [updH_one, if_pos rfl]) (by simp) (alloc_new w _) (Nat.le_refl _) (by simp) (by simp)

theorem AOp.makeSlice {t el esz bytes n : Nat} {x y : Operand} {p q : Int} {z : Value} (k : Nat) (f : Bool) (ht : P.underlying t = some (.slice el)) (hi : (P.info? el).map (fun i => (i.size, i.bytes)) = some (esz, bytes))
    (hz : (P.info? el).bind (·.zero) = some z) (hzs : z.cells.size = esz) (h1 : z.cells.toList.all (·.oneCell') = true) (hpos : 0 < esz)
    (ho : o.op = .makeSlice t x y) (hx : evO E x = some (.lit (.int .i64 p))) (hy : evO E y = some (.lit (.int .i64 q))) (hp : p = (n : Int)) (hq : q = (n : Int)) (hb : bytes * n ≤ 281474976710656) (hm : n ≤ 281474976710656) :
    AOp P o E H [k] (some (.sl k esz 0 n)) [(k, some (.arr f esz (List.replicate n (zeros z))))] :=
  AOp.value fun s w a ok hE _ hfr => by
    obtain ⟨inf, hinf, hsb⟩ := Option.map_eq_some_iff.1 hi
    simp only [Prod.mk.injEq] at hsb
    obtain ⟨rfl, rfl⟩ := hsb
    obtain ⟨inf', hinf', hz⟩ := Option.bind_eq_some_iff.1 hz
    rw [hinf] at hinf'; cases hinf'
    subst hp
    subst hq
    have e1 := Rel.lit_eq (evO_rel hE hx)
    have e2 := Rel.lit_eq (evO_rel hE hy)
    have hwrap : IntKind.i64.wrap (n : Int) = n := by
      have := IntWalk.i64_in (n := (n : Int)) (by omega)
      exact this
    have hzlen : z.cells.toList.length = inf.size := by simpa using hzs
    have hp1 := Post.new (w := w) (w0 := w) ok (hfr k (by simp)) (.arr f inf.size (List.replicate n (zeros z))) (.cells ((Array.range (n * inf.size)).map (z.cells[· % z.cells.size]!)) el) rfl rfl rfl rfl (fun s' w' tr hn => by
      refine .inr ⟨_, _, el, rfl, hn, by simp, fun j row hj => ?_, fun j row i av hj hi => ?_⟩
      · rw [List.getElem?_replicate] at hj
        split at hj
        · cases hj; simp [zeros, hzs]
        · cases hj
      · rw [List.getElem?_replicate] at hj
        split at hj
        · rename_i hlt
          cases hj
          simp only [zeros, List.getElem?_map, Option.map_eq_some_iff] at hi
          obtain ⟨v, hv, rfl⟩ := hi
          have hil : i < inf.size := by rw [← hzlen]; exact (List.getElem?_eq_some_iff.1 hv).1
          have hjj : (j + 1) * inf.size ≤ n * inf.size := Nat.mul_le_mul_right _ hlt
          rw [Nat.succ_mul] at hjj
          have hvv : z.cells[i]? = some v := by simpa using hv
          have hmod : z.cells[(j * inf.size + i) % z.cells.size]! = v := by
            rw [hzs, (div_at hil).2, getElem!_pos z.cells i (by omega)]
            exact (Array.getElem?_eq_some_iff.1 hvv).2
          refine ⟨v, ?_, Rep.el (.lit ?_)⟩
          · rw [Array.getElem?_map, Array.getElem?_range, if_pos (by omega)]
            simp only [Option.map_some, hmod]
          · exact List.all_eq_true.1 h1 v (List.mem_of_getElem? hv)
        · cases hj)
    refine ⟨.slice (some ⟨w.heap.size, 0, none⟩) n n, _, _, ?_, hp1, ?_⟩
    · have hbig : ¬ ((inf.bytes : Int) * (n : Int) > 2 ^ 48) := by
        have : ((inf.bytes : Int) * (n : Int)) = ((inf.bytes * n : Nat) : Int) := by simp
        rw [this]; omega
      have hng : ¬ ((n : Int) < 0) := by omega
      have hbig2 : ¬ (281474976710656 < (inf.bytes : Int) * (n : Int)) := by omega
      have hm0 : ((Array.range 0).map fun (_ : Nat) => (default : Value)) = #[] := by simp
      have hm1 : ((Array.range 0).map fun (p : Nat) => z.cells[p % z.cells.size]!) = #[] := by simp
      by_cases hn0 : n * inf.size = 0
      · simp [execOp, ho, e1, e2, Instr.makeSlice, run_underlying ht, asInt, asIntOf, typeInfo, hinf, hwrap, sizeOf, eq_false hbig2, eq_false hng, hn0, newRow, hm0, hm1]
      · simp [execOp, ho, e1, e2, Instr.makeSlice, run_underlying ht, asInt, asIntOf, typeInfo, hinf, hwrap, sizeOf, eq_false hbig2, eq_false hng, newRow, zeroValue, hz]
        exact fun h => absurd h hn0
    · rintro av ⟨⟩
      exact .sl0 (b := w.heap.size) (fr := f) (els := List.replicate n (zeros z)) (ty := el) (fz := (0, 0)) (by simp [Sg.with]) (by show updH _ _ _ = _; rw [updH_one, if_pos rfl]) (by simp) (alloc_new w _) (Nat.le_refl _) (by unfold maxLen; omega) (by simp)

/-! ### slicing -/
def bndO (E : Env) (x : Option Operand) (d : Nat) (n : Nat) : Prop := match x with
  | none => n = d
  | some y => ∃ (kd : IntKind) (z : Int), evO E y = some (.lit (.int kd z)) ∧ z = (n : Int)

theorem run_bounds {a : Act} {s : Sg} {w : World} (hE : ∀ t av, E t = some av → Rel s w av (a.tmps.getD t undef)) {lo hi : Option Operand} {len cap i j : Nat} (hlo : bndO E lo 0 i) (hhi : bndO E hi len j) (hij : i ≤ j) (hjc : j ≤ cap) :
    (Instr.sliceBounds true len cap (lo.map a.eval) (hi.map a.eval) none).run P w = .ok (i, j, cap) w := by
  cases lo with
  | none =>
    simp only [bndO] at hlo
    subst hlo
    cases hi with
    | none => simp only [bndO] at hhi; subst hhi; simp [Instr.sliceBounds]
    | some y =>
      obtain ⟨kd, z, h1, rfl⟩ := hhi
      have e2 := Rel.lit_eq (evO_rel hE h1)
      simp [Instr.sliceBounds, e2, Instr.sliceBound, asIntOf, hjc]
  | some u =>
    obtain ⟨kd', z', h1', rfl⟩ := hlo
    have e3 := Rel.lit_eq (evO_rel hE h1')
    cases hi with
    | none => simp only [bndO] at hhi; subst hhi; simp [Instr.sliceBounds, e3, Instr.sliceBound, asIntOf, hij]
    | some y =>
      obtain ⟨kd, z, h1, rfl⟩ := hhi
      have e2 := Rel.lit_eq (evO_rel hE h1)
      simp [Instr.sliceBounds, e2, e3, Instr.sliceBound, asIntOf, hjc, hij]

theorem rep_slice {F : Nat → Prop} {w : World} {esz : Nat} {xs : List (List AV)} {i j cap b off : Nat} (c : Nat → Nat → Value) (hF : ¬ F b) (hb : Plain w b) (hc : cap ≤ maxLen)
    (hrow : ∀ (j : Nat) (row : List AV), xs[j]? = some row → row.length = esz)
    (hcell : ∀ (j : Nat) (row : List AV) (i : Nat) (av : AV), xs[j]? = some row → row[i]? = some av → w.cell? ⟨b, off + (j * esz + i), none⟩ = some (c j i))
    (hrep : ∀ (j : Nat) (row : List AV) (i : Nat) (av : AV), xs[j]? = some row → row[i]? = some av → Rep F w av (c j i)) (hij : i ≤ j) (hj : j ≤ xs.length) (hjc : j ≤ cap) :
    Rep F w (.ro esz ((xs.drop i).take (j - i))) (.slice (some (if cap = i then ⟨b, off, none⟩ else ⟨b, off + i * esz, none⟩)) (j - i) (cap - i)) := by
  have hl : ((xs.drop i).take (j - i)).length = j - i := by simp; omega
  by_cases e : cap = i
  · have : j = i := by omega
    subst this
    simp only [Nat.sub_self, List.take_zero]
    exact .nil (by omega)
  · rw [if_neg e]
    have hget : ∀ (q : Nat) (row : List AV), ((xs.drop i).take (j - i))[q]? = some row → xs[i + q]? = some row := by
      intro q row h
      simp only [List.getElem?_take, List.getElem?_drop] at h
      split at h
      · exact h
      · cases h
    have := Rep.ro (F := F) (w := w) (esz := esz) (xs := (xs.drop i).take (j - i)) (b := b) (off := off + i * esz) (cap := cap - i) (fun q p => c (i + q) p) hF hb (by omega) (by omega)
      (fun q row h => hrow _ row (hget q row h))
      (fun q row p av h h2 => by
        have := hcell (i + q) row p av (hget q row h) h2
        rw [Nat.add_mul] at this
        rw [← this]
        congr 2; omega)
      (fun q row p av h h2 => hrep (i + q) row p av (hget q row h) h2)
    rwa [hl] at this

theorem AOp.slice_ro {t el esz i j : Nat} {x : Operand} {lo hi : Option Operand} {xs : List (List AV)} (ht : P.underlying t = some (.slice el)) (hs : (P.info? el).map (·.size) = some esz)
    (ho : o.op = .slice t x lo hi none) (hx : evO E x = some (.ro esz xs)) (hlo : bndO E lo 0 i) (hhi : bndO E hi xs.length j) (hij : i ≤ j) (hj : j ≤ xs.length) :
    AOp P o E H [] (some (.ro esz ((xs.drop i).take (j - i)))) [] :=
  AOp.reads fun s w a _ hE _ => by
    have h := evO_rel hE hx
    obtain ⟨inf, hinf, rfl⟩ := Option.map_eq_some_iff.1 hs
    generalize hv : a.eval x = u at h
    cases h with
    | rep h =>
      cases h with
      | @nil _ A cap hc =>
        simp only [List.length_nil, Nat.le_zero_eq] at hj hhi
        subst hj
        have : i = 0 := by omega
        subst this
        have hrun := run_bounds (P := P) (a := a) (w := w) (cap := cap) hE hlo hhi hij (by omega)
        refine ⟨.slice (if cap = 0 then A else A.map (·.add (0 * inf.size))) (0 - 0) (cap - 0), ?_, ?_⟩
        · simp [execOp, ho, hv, Instr.sliceAt, run_underlying ht, Instr.slice, hrun, sizeOf, typeInfo, hinf]
        · simp only [List.drop_nil, List.take_nil, Nat.sub_self]
          exact .rep (.nil (by omega))
      | @ro _ _ b off cap c hF hb hn hc hrow hcell hrep =>
        have hrun := run_bounds (P := P) (a := a) (w := w) (cap := cap) hE hlo hhi hij (by omega)
        refine ⟨.slice (some (if cap = i then ⟨b, off, none⟩ else ⟨b, off + i * inf.size, none⟩)) (j - i) (cap - i), ?_, ?_⟩
        · simp [execOp, ho, hv, Instr.sliceAt, run_underlying ht, Instr.slice, hrun, sizeOf, typeInfo, hinf, addr_add]
          by_cases e : cap = i <;> simp [e]
        have := rep_slice c hF hb hc hrow hcell hrep hij hj (by omega : j ≤ cap)
        exact .rep this

/-- 's[:0:0]' -/
theorem AOp.slice_zero {t el esz : Nat} {x : Operand} {y z : Operand} {kd kd' : IntKind} {av : AV} (ht : P.underlying t = some (.slice el)) (hs : (P.info? el).map (·.size) = some esz)
    (ho : o.op = .slice t x none (some y) (some z)) (hx : evO E x = some av) (hav : (∃ xs, av = .ro esz xs) ∨ (∃ xs, av = .fr (.ro esz xs)) ∨ (∃ A n c, av = .lit (.slice A n c)))
    (hy : evO E y = some (.lit (.int kd 0))) (hz : evO E z = some (.lit (.int kd' 0))) : AOp P o E H [] (some .emp) [] :=
  AOp.reads fun s w a _ hE _ => by
    obtain ⟨inf, hinf, rfl⟩ := Option.map_eq_some_iff.1 hs
    have h := evO_rel hE hx
    have e1 := Rel.lit_eq (evO_rel hE hy)
    have e2 := Rel.lit_eq (evO_rel hE hz)
    have hform : ∃ A n c, a.eval x = .slice A n c := by
      rcases hav with ⟨xs, rfl⟩ | ⟨xs, rfl⟩ | ⟨A, n, c, rfl⟩
      · generalize a.eval x = u at h
        cases h with
        | rep h => cases h <;> exact ⟨_, _, _, rfl⟩
      · generalize a.eval x = u at h
        cases h with
        | rep h => cases h
        | fr h => cases h <;> exact ⟨_, _, _, rfl⟩
      · exact ⟨A, n, c, Rel.lit_eq h⟩
    obtain ⟨A, n, c, hv⟩ := hform
    refine ⟨.slice A 0 0, ?_, .emp⟩
    simp [execOp, ho, hv, Instr.sliceAt, run_underlying ht, Instr.slice, Instr.sliceBounds, Instr.sliceBound, asIntOf, e1, e2, sizeOf, typeInfo, hinf]

/-! ### comparisons -/
theorem agg_lits {s : Sg} {w : World} {xs : List Value} {v : Value} (h : Rel s w (.agg (xs.map .lit)) v) : v = .agg xs.toArray := by
  cases h with
  | rep h => cases h
  | @agg _ vs hl h =>
    congr 1
    apply Array.ext'
    apply List.ext_getElem?
    intro i
    simp only [List.length_map] at hl
    by_cases hi : i < xs.length
    · have h1 : (xs.map AV.lit)[i]? = some (.lit xs[i]) := by simp [hi]
      have h2 : vs[i]? = some (vs[i]'(by omega)) := Array.getElem?_eq_getElem _
      have := Rel.lit_eq (h i _ _ h1 h2)
      simp [hi, this, show i < vs.size by omega]
    · simp [hi, show ¬ i < vs.size by omega]

theorem AOp.aggEq {t u : TypeId} {x y : Operand} {xs ys : List Value} {r : Bool} (hm : P.eqGuardType P.depth t = false) (ho : o.op = .binOp .eql t x y u) (hx : evO E x = some (.agg (xs.map .lit))) (hy : evO E y = some (.agg (ys.map .lit)))
    (hr : ∀ w, (Op.equalIn 10000 t (.agg xs.toArray) (.agg ys.toArray)).run P w = .ok r w) : AOp P o E H [] (some (.lit (.bool r))) [] :=
  AOp.reads fun s w a _ hE _ => ⟨.bool r, by
    simp only [execOp, ho, agg_lits (evO_rel hE hx), agg_lits (evO_rel hE hy)]
    simp [run_eqGuard_agg w _ t _ _ _ _ hm, run_eql_struct, hr], .rep (.lit rfl)⟩
theorem AOp.aggNe {t u : TypeId} {x y : Operand} {xs ys : List Value} {r : Bool} (hm : P.eqGuardType P.depth t = false) (ho : o.op = .binOp .neq t x y u) (hx : evO E x = some (.agg (xs.map .lit))) (hy : evO E y = some (.agg (ys.map .lit)))
    (hr : ∀ w, (Op.equalIn 10000 t (.agg xs.toArray) (.agg ys.toArray)).run P w = .ok r w) : AOp P o E H [] (some (.lit (.bool (!r)))) [] :=
  AOp.reads fun s w a _ hE _ => ⟨.bool !r, by
    simp only [execOp, ho, agg_lits (evO_rel hE hx), agg_lits (evO_rel hE hy)]
    simp [run_eqGuard_agg w _ t _ _ _ _ hm, run_neq_struct, hr], .rep (.lit rfl)⟩

theorem there_ptr {s : Sg} {w : World} {av : AV} {v : Value} (h : Rel s w av v) (hn : av.there = true) : ∃ a, v = .pointer (some a) := by
  cases h with
  | ptr => exact ⟨_, rfl⟩
  | rep h =>
    cases h with
    | rp => exact ⟨_, rfl⟩
    | _ => cases hn
  | fr h =>
    cases h with
    | rp => exact ⟨_, rfl⟩
    | _ => cases hn
  | _ => cases hn

/-- a pointer against nil -/
theorem AOp.peql {t el u : TypeId} {x y : Operand} {av : AV} (ht : P.underlying t = some (.pointer el)) (ho : o.op = .binOp .eql t x y u) (hx : evO E x = some av) (hn : av.there = true) (hy : evO E y = some (.lit (.pointer none))) : AOp P o E H [] (some (.lit (.bool false))) [] :=
  AOp.reads fun s w a _ hE _ => ⟨.bool false, by
    obtain ⟨ad, e1⟩ := there_ptr (evO_rel hE hx) hn
    have e2 := Rel.lit_eq (evO_rel hE hy)
    have hq : P.underlying t = some (.pointer (P.pointee t)) := by unfold Program.pointee; rw [ht]
    simp only [execOp, ho, e1, e2, eqGuard_at_pointer]
    simp [run_eql_pointer_nil, hq], .rep (.lit rfl)⟩
theorem AOp.pneq {t el u : TypeId} {x y : Operand} {av : AV} (ht : P.underlying t = some (.pointer el)) (ho : o.op = .binOp .neq t x y u) (hx : evO E x = some av) (hn : av.there = true) (hy : evO E y = some (.lit (.pointer none))) : AOp P o E H [] (some (.lit (.bool true))) [] :=
  AOp.reads fun s w a _ hE _ => ⟨.bool true, by
    obtain ⟨ad, e1⟩ := there_ptr (evO_rel hE hx) hn
    have e2 := Rel.lit_eq (evO_rel hE hy)
    have hq : P.underlying t = some (.pointer (P.pointee t)) := by unfold Program.pointee; rw [ht]
    simp only [execOp, ho, e1, e2, eqGuard_at_pointer]
    simp [run_neq_pointer_nil, hq], .rep (.lit rfl)⟩
theorem AOp.peql0 {t el u : TypeId} {x y : Operand} (ht : P.underlying t = some (.pointer el)) (ho : o.op = .binOp .eql t x y u) (hx : evO E x = some (.lit (.pointer none))) (hy : evO E y = some (.lit (.pointer none))) : AOp P o E H [] (some (.lit (.bool true))) [] :=
  AOp.reads fun s w a _ hE _ => ⟨.bool true, by
    have e1 := Rel.lit_eq (evO_rel hE hx)
    have e2 := Rel.lit_eq (evO_rel hE hy)
    have hq : P.underlying t = some (.pointer (P.pointee t)) := by unfold Program.pointee; rw [ht]
    simp only [execOp, ho, e1, e2, eqGuard_at_pointer]
    simp [run_eql_pointer_nil, hq], .rep (.lit rfl)⟩
theorem AOp.pneq0 {t el u : TypeId} {x y : Operand} (ht : P.underlying t = some (.pointer el)) (ho : o.op = .binOp .neq t x y u) (hx : evO E x = some (.lit (.pointer none))) (hy : evO E y = some (.lit (.pointer none))) : AOp P o E H [] (some (.lit (.bool false))) [] :=
  AOp.reads fun s w a _ hE _ => ⟨.bool false, by
    have e1 := Rel.lit_eq (evO_rel hE hx)
    have e2 := Rel.lit_eq (evO_rel hE hy)
    have hq : P.underlying t = some (.pointer (P.pointee t)) := by unfold Program.pointee; rw [ht]
    simp only [execOp, ho, e1, e2, eqGuard_at_pointer]
    simp [run_neq_pointer_nil, hq], .rep (.lit rfl)⟩
end
end Go.Abs
end
section
namespace Go.Abs
variable [VL]

/-- 'f', called with what reads as 'args' (the names below 'n' are of blocks that it may write), comes back with what 'post' says. -/
def FSpec (P : Program) (f : FuncId) (n : Nat) (args : List AV) (hin : Hp) (post : AV → Hp → Prop) : Prop :=
  ∀ (s : Sg) (w : World) (vs : Array Value), OK s w → s.hp = hin → (∀ k, n ≤ k → s.ρ k = none) → s.n0 = w.heap.size → vs.size = args.length →
    (∀ (i : Nat) (av : AV) (v : Value), args[i]? = some av → vs[i]? = some v → Rel s w av v) →
    Calls P f vs w fun e w' => ∃ v s' r, e = .returned v ∧ post r s'.hp ∧ Rel s' w' r v ∧ OK s' w' ∧ Glob n s w s' w'

/-! ### the end of a body -/
def res1 (P : Program) (E : Env) (H : Hp) : ResultVar → Option AV
  | .tmp t => E t
  | .cell t ty => match E t with
    | some (.ptr k 0 0 0) => match H k with
      | some (.box cells) => match isAggT P ty with
        | some true => if (P.info? ty).map (·.size) = some cells.length then some (.agg cells) else none
        | some false => cells[0]?
        | none => none
      | _ => none
    | _ => none
def resL (P : Program) (E : Env) (H : Hp) : List ResultVar → Option (List AV)
  | [] => some []
  | x :: r => match res1 P E H x, resL P E H r with
    | some a, some l => some (a :: l)
    | _, _ => none
def resAll (P : Program) (E : Env) (H : Hp) : List ResultVar → Option AV
  | [x] => res1 P E H x
  | l => (resL P E H l).map .tup

def resSem (tmps : Array Value) : ResultVar → Sem Value
  | .tmp t => pure (tmps.getD t undef)
  | .cell a t => do loadVar t (← asAddr (tmps.getD a undef))

theorem run_res1 {P : Program} {C : Cx} {E : Env} {H : Hp} {nx : Nat} {s : Sg} {w : World} {a : Act} (g : Gm C E H nx s w a) {x : ResultVar} {r : AV} (h : res1 P E H x = some r) :
    ∃ v, (resSem a.tmps x).run P w = .ok v w ∧ Rel s w r v := by
  cases x with
  | tmp t => exact ⟨_, rfl, g.env t r h⟩
  | cell t ty =>
    simp only [res1] at h
    split at h
    · rename_i k hE
      split at h
      · rename_i cells hH
        have hp := g.env t _ hE
        generalize hv : a.tmps.getD t undef = p at hp
        cases hp with
        | rep h => cases h
        | ptr hr =>
          rename_i b
          obtain ⟨z, hz, b', cs, tt, rfl, hb, hcs, hrel⟩ := g.ok.blk k _ (by rw [g.hp]; exact hH)
          rw [hr] at hz; cases hz
          split at h
          · rename_i hagg
            split at h
            · rename_i hsz
              cases h
              have hrun := run_loadVar_agg (P := P) (b := b) (off := 0 * 0 + 0) (w := w) hagg hsz cs.toList (by simp [hcs]) (fun j v hv => by
                rw [cell_of_row w b _ cs tt (0, 0) hb]; simpa using hv)
              refine ⟨.agg cs, ?_, .agg hcs hrel⟩
              simp only [resSem, hv, asAddr, Sem.run_bind, Sem.run_pure, Result.andThen_ok, hrun, Array.toArray_toList]
            · cases h
          · rename_i hagg
            have hlt : 0 < cells.length := (List.getElem?_eq_some_iff.1 h).1
            have hg : cs[0]? = some (cs[0]'(by omega)) := Array.getElem?_eq_getElem _
            have hc : w.cell? ⟨b, 0 * 0 + 0, none⟩ = some (cs[0]'(by omega)) := by rw [cell_of_row w b _ cs tt (0, 0) hb]; exact hg
            exact ⟨_, by simp only [resSem, hv, asAddr, Sem.run_bind, Sem.run_pure, Result.andThen_ok, run_loadVar_one hagg hc], hrel 0 r _ h hg⟩
          · cases h
      · cases h
    · cases h

theorem run_resL {P : Program} {C : Cx} {E : Env} {H : Hp} {nx : Nat} {s : Sg} {w : World} {a : Act} (g : Gm C E H nx s w a) : ∀ (l : List ResultVar) (rs : List AV), resL P E H l = some rs →
    ∃ vs : List Value, (l.mapM (resSem a.tmps)).run P w = .ok vs w ∧ rs.length = vs.length ∧ ∀ (i : Nat) (av : AV) (v : Value), rs[i]? = some av → vs[i]? = some v → Rel s w av v
  | [], rs, h => by cases h; exact ⟨[], by simp, rfl, by simp⟩
  | x :: l, rs, h => by
    simp only [resL] at h
    split at h
    · rename_i r rl h1 h2
      cases h
      obtain ⟨v, hv, hr⟩ := run_res1 g h1
      obtain ⟨vs, hvs, hl, hrs⟩ := run_resL g l rl h2
      refine ⟨v :: vs, by simp [List.mapM_cons, hv, hvs], by simp [hl], fun i av u h3 h4 => ?_⟩
      cases i with
      | zero => simp at h3 h4; subst h3; subst h4; exact hr
      | succ i => exact hrs i av u (by simpa using h3) (by simpa using h4)
    · cases h

theorem results_eq (fn : Func) (tmps : Array Value) : results fn tmps = (do let vs ← fn.results.mapM (resSem tmps); pure (if h : vs.size = 1 then vs[0] else .tuple vs)) := by
  unfold results
  congr 1

theorem run_results {P : Program} {C : Cx} {E : Env} {H : Hp} {nx : Nat} {s : Sg} {w : World} {a : Act} (g : Gm C E H nx s w a) (fn : Func) {r : AV} (h : resAll P E H fn.results.toList = some r) :
    ∃ v, (results fn a.tmps).run P w = .ok v w ∧ Rel s w r v := by
  have key : ∀ l : List ResultVar, fn.results.toList = l → ∀ vs : List Value, (l.mapM (resSem a.tmps)).run P w = .ok vs w → (results fn a.tmps).run P w = .ok (if h : vs.toArray.size = 1 then vs.toArray[0] else .tuple vs.toArray) w := by
    intro l hl vs hvs
    rw [results_eq, Sem.run_bind, Array.mapM_eq_mapM_toList, hl]
    simp [hvs]
  unfold resAll at h
  split at h
  · rename_i x hl
    obtain ⟨v, hv, hr⟩ := run_res1 g h
    refine ⟨v, ?_, hr⟩
    rw [key [x] hl [v] (by simp [List.mapM_cons, hv])]
    rfl
  · rename_i l hne
    obtain ⟨rs, hrs, rfl⟩ := Option.map_eq_some_iff.1 h
    obtain ⟨vs, hvs, hlen, hrel⟩ := run_resL g _ _ hrs
    refine ⟨.tuple vs.toArray, ?_, .tup (by simp [hlen]) fun i av v h1 h2 => hrel i av v h1 (by simpa using h2)⟩
    rw [key _ rfl vs hvs]
    have h1 : ¬ vs.toArray.size = 1 := by
      intro e
      have hll : ∀ (l : List ResultVar) (rs : List AV), resL P E H l = some rs → rs.length = l.length := by
        intro l
        induction l with
        | nil => intro rs h; cases h; rfl
        | cons x l ih =>
          intro rs h
          simp only [resL] at h
          split at h
          · rename_i r rl h1 h2; cases h; simp [ih rl h2]
          · cases h
      have h2 := hll _ _ hrs
      have h3 : fn.results.toList.length = 1 := by rw [← h2, hlen]; simpa using e
      match hm : fn.results.toList, h3 with
      | [x], _ => exact hne x hm
    rw [dif_neg h1]

/-- How a body is left: the results, and what is said of them when all else is let go. -/
def RetQ (P : Program) (C : Cx) (fn : Func) (post : AV → Hp → Prop) : APost := fun e E H nx => match e with
  | .ret | .normal => ∃ r r' H' nx', resAll P E H fn.results.toList = some r ∧ ALe C (envOf [(0, r)]) H nx (envOf [(0, r')]) H' nx' ∧ post r' H'
  | _ => False

def argsE (args : List AV) : Env := fun t => args[t]?

theorem ret_core {P : Program} {C : Cx} {E : Env} {H : Hp} {nx : Nat} {s : Sg} {w : World} {a : Act} (g : Gm C E H nx s w a) (hN : 0 < C.N) (fn : Func) {r r' : AV} {H' : Hp} {nx' : Nat} (h : resAll P E H fn.results.toList = some r)
    (hle : ALe C (envOf [(0, r)]) H nx (envOf [(0, r')]) H' nx') : ∃ v s', (results fn a.tmps).run P w = .ok v w ∧ Rel s' w r' v ∧ s'.hp = H' ∧ OK s' w ∧ Glob C.n C.s C.w s' w := by
  obtain ⟨v, hv, hr⟩ := run_results g fn h
  have hsz : 0 < a.tmps.size := by rw [g.size]; exact hN
  have g1 : Gm C (envOf [(0, r)]) H nx s w { a with tmps := a.tmps.setIfInBounds 0 v } :=
    { g with
      env := fun t av ht => by
        simp only [envOf] at ht
        split at ht
        · rename_i e
          subst e
          cases ht
          have : (a.tmps.setIfInBounds 0 v).getD 0 undef = v := by simp [hsz]
          rw [this]; exact hr
        · cases ht
      size := by simp [g.size] }
  obtain ⟨s', g2⟩ := hle s w _ g1
  have h2 := g2.env 0 r' (by simp [envOf])
  have : (a.tmps.setIfInBounds 0 v).getD 0 undef = v := by simp [hsz]
  rw [this] at h2
  exact ⟨v, s', hv, h2, g2.hp, g2.ok, g2.glob⟩

theorem FSpec.intro {P : Program} {f n : Nat} {args : List AV} {hin : Hp} {post : AV → Hp → Prop} {fn : Func} {c : Code} (hf : P.funcs[f]? = some fn) (hb : fn.body = some c) (hN : args.length ≤ fn.ntmps) (hN0 : 1 ≤ fn.ntmps)
    (h : ∀ s w, s.hp = hin → s.n0 = w.heap.size → AWP P ⟨n, s, w, fn.ntmps⟩ c (RetQ P ⟨n, s, w, fn.ntmps⟩ fn post) (argsE args) hin n) : FSpec P f n args hin post := by
  intro s w vs ok hs hρ hn0 hvs hrel
  refine calls_of_wp hf hb ?_
  have g : Gm ⟨n, s, w, fn.ntmps⟩ (argsE args) hin n s w { tmps := vs ++ Array.replicate (fn.ntmps - vs.size) undef, defers := [] } :=
    { ok0 := ok.sane
      ok := ok
      env := fun t av ht => by
        have hlt : t < vs.size := by rw [hvs]; exact (List.getElem?_eq_some_iff.1 ht).1
        have hg : vs[t]? = some vs[t] := Array.getElem?_eq_getElem hlt
        have : (vs ++ Array.replicate (fn.ntmps - vs.size) undef).getD t undef = vs[t] := by
          simp [Array.getElem?_append, hlt]
        rw [this]
        exact hrel t av _ ht hg
      hp := hs
      new := hρ
      le := Nat.le_refl _
      size := by simp; omega
      defers := rfl
      glob := Glob.refl n s w }
  refine Go.wp_mono (h s w hs hn0 s w _ g) ?_
  rintro e a' w' ⟨s', E', H', nx', g', hq⟩
  cases e with
  | normal =>
    obtain ⟨r, r', H2, nx2, hr, hle, hp⟩ := hq
    obtain ⟨v, s2, hv, hrel', hhp, hok, hgl⟩ := ret_core g' hN0 fn hr hle
    exact ⟨g'.defers, v, hv, v, s2, r', rfl, by rw [hhp]; exact hp, hrel', hok, hgl⟩
  | ret =>
    obtain ⟨r, r', H2, nx2, hr, hle, hp⟩ := hq
    obtain ⟨v, s2, hv, hrel', hhp, hok, hgl⟩ := ret_core g' hN0 fn hr hle
    exact ⟨g'.defers, v, hv, v, s2, r', rfl, by rw [hhp]; exact hp, hrel', hok, hgl⟩
  | _ => exact hq.elim

theorem FSpec.mono {P : Program} {f n : Nat} {args : List AV} {hin : Hp} {post post' : AV → Hp → Prop} (h : FSpec P f n args hin post) (hq : ∀ r H, post r H → post' r H) : FSpec P f n args hin post' :=
  fun s w vs ok hs hρ hn0 hvs hrel => (h s w vs ok hs hρ hn0 hvs hrel).mono fun _ _ ⟨v, s', r, e, hp, rest⟩ => ⟨v, s', r, e, hq _ _ hp, rest⟩

/-- operands one by one -/
def evArgs (E : Env) : List Operand → Option (List AV)
  | [] => some []
  | x :: r => match evO E x, evArgs E r with
    | some a, some l => some (a :: l)
    | _, _ => none
theorem evArgs_rel {E : Env} {s : Sg} {w : World} {a : Act} (hE : ∀ t av, E t = some av → Rel s w av (a.tmps.getD t undef)) : ∀ (l : List Operand) (xs : List AV), evArgs E l = some xs →
    xs.length = l.length ∧ ∀ (i : Nat) (av : AV) (v : Value), xs[i]? = some av → (l.map a.eval)[i]? = some v → Rel s w av v
  | [], xs, h => by cases h; exact ⟨rfl, by simp⟩
  | x :: r, xs, h => by
    simp only [evArgs] at h
    split at h
    · rename_i y l h1 h2
      cases h
      obtain ⟨h3, h4⟩ := evArgs_rel hE r l h2
      refine ⟨by simp [h3], fun i av v h5 h6 => ?_⟩
      cases i with
      | zero => simp at h5 h6; subst h5; subst h6; exact evO_rel hE h1
      | succ i => exact h4 i av v (by simpa using h5) (by simpa using h6)
    · cases h

end Go.Abs
end
