/- Part 5 of the proof that TopAltered returns true for every input of its row (no condition beyond the row). -/
import Derived.Test.YtelfcalhhfmjfaaGreatDoorT4
import Derived.Test.YtelfcalhhfmjfaaGreatDoorProg
set_option linter.unusedVariables false
set_option linter.unusedSimpArgs false
namespace Go.Abs
def kOK (k : ByteArray) : Prop := k.size ≤ 1024 ∧ ∀ i, i < k.size → bat k i < 128
def digOK (l : List UInt8) : Prop := 0 < l.length ∧ l.length ≤ 120 ∧ (∀ i, i < l.length → 48 ≤ byteAt l i ∧ byteAt l i ≤ 57) ∧ byteAt l 0 ≠ 48 ∧ byteAt l (l.length - 1) ≠ 48
def seenK (l : List Fl) : List (ByteArray × Value) := l.map fun x => (x.1, .bool true)
theorem idxKV_mem {s : ByteArray} : ∀ (l : List (ByteArray × Value)) (i : Nat), s ∉ l.map (·.1) → idxKV s l i = none
  | [], _, _ => rfl
  | (k, x) :: r, i, h => by
    simp only [List.map_cons, List.mem_cons, not_or] at h
    simp only [idxKV]
    rw [if_neg (fun e => h.1 (by first | exact e | exact e.symm))]
    exact idxKV_mem r (i + 1) h.2
theorem seenK_keys (l : List Fl) : (seenK l).map (·.1) = l.map (·.1) := by simp [seenK]
def Distinct (l : List Fl) : Prop := (l.map (·.1)).Nodup
theorem not_seen {l : List Fl} (h : Distinct l) {i : Nat} (hi : i < l.length) : (nthF l i).1 ∉ (seenK (l.take i)).map (·.1) := by
  rw [seenK_keys, nthF_eq hi]
  intro hm
  obtain ⟨p, hp, e⟩ := List.mem_map.1 hm
  obtain ⟨j, hj, ej⟩ := List.getElem_of_mem hp
  have hj' : j < i := by simp at hj; omega
  have h1 : l[j] = p := by rw [← ej]; simp
  have := List.pairwise_iff_getElem.1 h j i (by simp; omega) (by simpa using hi) hj'
  simp only [List.getElem_map] at this
  exact this (by rw [h1]; exact e)
theorem seen_none {l : List Fl} (h : Distinct l) {i : Nat} (hi : i < l.length) : (getKV (nthF l i).1 (seenK (l.take i))) = none := by
  rw [← idxKV_get _ _ 0, idxKV_mem _ _ (not_seen h hi)]; rfl
theorem seen_put {l : List Fl} (h : Distinct l) {i : Nat} (hi : i < l.length) : putKV (nthF l i).1 (.bool true) (seenK (l.take i)) = seenK (l.take (i + 1)) := by
  rw [putKV_none _ 0 (idxKV_mem _ _ (not_seen h hi)), take_succ_nth hi, nthF_eq hi]
  unfold seenK
  rw [List.map_append]; rfl
def nodesD : Nat → T → Nat
  | 0, _ => 0
  | d + 1, t => 1 + (t.fields.map fun p => nodesD d p.2).sum
def nodesF (d : Nat) (l : List Fl) : Nat := (l.map fun p => nodesD d p.2).sum
theorem nodesF_take {d : Nat} {l : List Fl} {i : Nat} (h : i < l.length) : nodesF d (l.take (i + 1)) = nodesF d (l.take i) + nodesD d (nthF l i).2 := by
  rw [take_succ_nth h, nthF_eq h]
  unfold nodesF
  rw [List.map_append, List.sum_append]; simp
theorem nodesF_le {d : Nat} (l : List Fl) (i : Nat) : nodesF d (l.take i) ≤ nodesF d l := by
  have e : nodesF d l = nodesF d (l.take i) + nodesF d (l.drop i) := by
    conv => lhs; rw [← List.take_append_drop i l]
    unfold nodesF
    rw [List.map_append, List.sum_append]
  omega
abbrev T.number (l : List UInt8) (e : Int) : T := T.num false (strOf l) e
def vdN (t : T) : Prop := t = T.number [] 0 ∨ ∃ l e, t = T.number l e ∧ digOK l ∧ -400 ≤ e ∧ e ≤ 400
def vdF (l : List Fl) : Prop := l.length ≤ 100000 ∧ (∀ p ∈ l, kOK p.1) ∧ Distinct l
def vd : Nat → T → Prop
  | 0, _ => False
  | d + 1, t => vdN t ∨ ∃ fs, t = T.map fs ∧ vdF fs ∧ ∀ p ∈ fs, vd d p.2
def ixM (k : ByteArray) : List Fl → Nat
  | [] => 0
  | x :: r => if x.1 = k then 0 else ixM k r + 1
theorem ixM_le (k : ByteArray) : ∀ (l : List Fl), ixM k l ≤ l.length
  | [] => Nat.le_refl _
  | x :: r => by
    simp only [ixM]
    split
    · omega
    · have := ixM_le k r; simp; omega
theorem ixM_drop {k : ByteArray} {l : List Fl} {i : Nat} (h : i < l.length) : ixM k (l.drop i) = if (nthF l i).1 = k then 0 else ixM k (l.drop (i + 1)) + 1 := by
  rw [List.drop_eq_getElem_cons h, nthF_eq h]; rfl
theorem ixM_end {k : ByteArray} {l : List Fl} {i : Nat} (h : l.length ≤ i) : ixM k (l.drop i) = 0 := by rw [List.drop_eq_nil_of_le h]; rfl
def getM (v : T) : List Stp → Option T
  | [] => some v
  | s :: r => if v.kind = 7 ∧ ixM s.key v.fields < v.fields.length then getM (nthF v.fields (ixM s.key v.fields)).2 r else none
theorem getM_drop {v x : T} {p : List Stp} {i : Nat} (h : i < p.length) (hg : getM v (p.drop i) = some x) :
    v.kind = 7 ∧ ixM (nthG p i).key v.fields < v.fields.length ∧ getM (nthF v.fields (ixM (nthG p i).key v.fields)).2 (p.drop (i + 1)) = some x := by
  rw [List.drop_eq_getElem_cons h] at hg
  simp only [getM] at hg
  rw [nthG_eq h]
  split at hg
  · rename_i hh; exact ⟨hh.1, hh.2, hg⟩
  · cases hg
def T.setF (v : T) (fs : List Fl) : T := .mk v.kind v.b v.neg v.digits v.exp v.tk v.td v.tn v.tz v.text v.bytes v.list fs
def putM : T → List Stp → T → T
  | _, [], x => x
  | v, s :: r, x => v.setF (v.fields.map fun f => if f.1 = s.key then (f.1, putM f.2 r x) else f)
def pOK (p : List Stp) : Prop := p.length ≤ 48 ∧ ∀ s ∈ p, s.ix = false ∧ s.index = 0 ∧ kOK s.key
def insM' (v : T) (k : ByteArray) (n : Nat) (x : T) : T := v.setF (v.fields.take n ++ (k, x) :: v.fields.drop n)
def remM (v : T) (n : Nat) : T := v.setF (v.fields.take n ++ v.fields.drop (n + 1))
end Go.Abs
namespace Go.Abs
def putG (s : Stp) (r : List Stp) (x : T) (f : Fl) : Fl := if f.1 = s.key then (f.1, putM f.2 r x) else f
def updM (g : Fl → Fl) (l : List Fl) (i : Nat) : List Fl := (l.take i).map g ++ l.drop i
@[simp] theorem updM_len (g : Fl → Fl) (l : List Fl) (i : Nat) : (updM g l i).length = l.length := by simp [updM]; omega
theorem updM_nth {g : Fl → Fl} {l : List Fl} {i : Nat} (h : i < l.length) : nthF (updM g l i) i = nthF l i := by
  rw [nthF_eq (by simpa using h), nthF_eq h]
  unfold updM
  rw [List.getElem_append_right (by simp; omega)]
  simp [Nat.min_eq_left (Nat.le_of_lt h)]
theorem updM_succ {g : Fl → Fl} {l : List Fl} {i : Nat} (h : i < l.length) : updM g l (i + 1) = (updM g l i).set i (g (nthF l i)) := by
  unfold updM
  rw [List.set_append_right _ _ (by simp; omega)]
  have e : (List.map g (l.take i)).length = i := by simp; omega
  rw [e, Nat.sub_self, take_succ_nth h, nthF_eq h, List.drop_eq_getElem_cons h]
  rw [List.map_append, List.set_cons_zero, List.append_assoc]
  rfl
theorem updM_all {g : Fl → Fl} {l : List Fl} {i : Nat} (h : l.length ≤ i) : updM g l i = l.map g := by
  unfold updM; rw [List.take_of_length_le h, List.drop_eq_nil_of_le h, List.append_nil]
theorem updM_yes {s : Stp} {r : List Stp} {x : T} {l : List Fl} {i : Nat} (h : i < l.length) (hk : (nthF (updM (putG s r x) l i) i).1 = s.key) :
    (updM (putG s r x) l i).set i ((nthF (updM (putG s r x) l i) i).1, putM (nthF (updM (putG s r x) l i) i).2 r x) = updM (putG s r x) l (i + 1) := by
  rw [updM_succ h]
  rw [updM_nth h] at hk ⊢
  congr 1
  simp only [putG, if_pos hk]
theorem updM_no {s : Stp} {r : List Stp} {x : T} {l : List Fl} {i : Nat} (h : i < l.length) (hk : ¬ (nthF (updM (putG s r x) l i) i).1 = s.key) : updM (putG s r x) l i = updM (putG s r x) l (i + 1) := by
  rw [updM_succ h]
  rw [updM_nth h] at hk
  have : putG s r x (nthF l i) = nthF (updM (putG s r x) l i) i := by
    rw [updM_nth h]; simp only [putG, if_neg hk]
  rw [this, nthF_eq (by simpa using h)]
  simp
theorem putM_cons (v : T) (s : Stp) (r : List Stp) (x : T) : putM v (s :: r) x = v.setF (v.fields.map (putG s r x)) := by
  simp only [putM]; rfl
def ixI (k : ByteArray) (l : List Fl) : Int := if ixM k l < l.length then ((ixM k l : Nat) : Int) else -1
theorem ixI_yes {k : ByteArray} {l : List Fl} (h : ixM k l < l.length) : ixI k l = ((ixM k l : Nat) : Int) := if_pos h
theorem ixI_no {k : ByteArray} {l : List Fl} (h : ¬ ixM k l < l.length) : ixI k l = -1 := if_neg h
theorem getM_fit {p : List Stp} : ∀ {v x : T}, v.fit → getM v p = some x → x.fit := by
  induction p with
  | nil => intro v x h e; cases e; exact h
  | cons s r ih =>
    intro v x h e
    simp only [getM] at e
    split at e
    · rename_i hh; exact ih (fit_field h (nthF_mem hh.2)) e
    · cases e
def vOK (t : T) : Prop := vd 8 t ∧ nodesD 8 t ≤ 65536
theorem pOK_at {p : List Stp} (h : pOK p) {i : Nat} (hi : i < p.length) : (nthG p i).ix = false ∧ (nthG p i).index = 0 ∧ kOK (nthG p i).key := h.2 _ (nthG_mem hi)
theorem rows_drop1 (s : Stp) (r : List Stp) (n : Nat) (hn : n = r.length) : ((rowsOf Stp.cells (s :: r)).drop 1).take n = rowsOf Stp.cells r := by
  subst hn; show (List.map Stp.cells r).take _ = _; rw [List.take_of_length_le (by simp)]
theorem pOK_tail {s : Stp} {r : List Stp} (h : pOK (s :: r)) : pOK r := ⟨by have := h.1; simp at this; omega, fun x hx => h.2 x (List.mem_cons_of_mem _ hx)⟩
end Go.Abs
namespace Go.Abs
theorem vd_ok : ∀ {d : Nat} {t : T}, vd d t → T.ok d t
  | 0, _, h => absurd h id
  | d + 1, t, h => by
    rcases h with (rfl | ⟨l, e, rfl, _⟩) | ⟨fs, rfl, hf, hv⟩
    · exact ⟨by simp [T.num, T.bytes], by simp [T.num, T.list], by simp [T.num, T.fields], by simp [T.num, T.list], by simp [T.num, T.fields]⟩
    · exact ⟨by simp [T.num, T.bytes], by simp [T.num, T.list], by simp [T.num, T.fields], by simp [T.num, T.list], by simp [T.num, T.fields]⟩
    · exact ⟨by simp [T.map, T.bytes], by simp [T.map, T.list], hf.1, by simp [T.map, T.list], fun p hp => vd_ok (hv p hp)⟩
theorem vOK.fit {t : T} (h : vOK t) : t.fit := T.ok_le (vd_ok h.1) (by omega)
theorem pOK_nil : pOK [] := ⟨by simp, by simp⟩
theorem pOK_one {k : ByteArray} (h : kOK k) : pOK [⟨false, k, 0⟩] := ⟨by simp, by simp [h]⟩
def keyOf (c : Chg) : ByteArray := (nthG c.path 0).key
def applyM (v : T) (c : Chg) : T := if c.op = 1 then putM v c.path c.new else if c.op = 2 then insM' v (keyOf c) c.pos.toNat c.new else remM v c.pos.toNat
def stepOK (v : T) (c : Chg) : Prop := vOK v ∧ vOK (applyM v c) ∧
  ((c.op = 1 ∧ c.pos = 0 ∧ pOK c.path ∧ vOK c.old ∧ vOK c.new ∧ ∃ y, getM v c.path = some y ∧ sameM 1000 y c.old = true) ∨
   (c.op = 2 ∧ c.old = T.nul ∧ vOK c.new ∧ v.kind = 7 ∧ ∃ (k : ByteArray) (n : Nat), c.path = [⟨false, k, 0⟩] ∧ kOK k ∧ c.pos = (n : Int) ∧ n ≤ 65536 ∧ n ≤ v.fields.length ∧ ¬ ixM k v.fields < v.fields.length) ∨
   (c.op = 3 ∧ c.new = T.nul ∧ vOK c.old ∧ v.kind = 7 ∧ ∃ (k : ByteArray) (n : Nat), c.path = [⟨false, k, 0⟩] ∧ kOK k ∧ c.pos = (n : Int) ∧ n ≤ 65536 ∧ n < v.fields.length ∧ ixM k v.fields = n ∧ sameM 1000 (nthF v.fields n).2 c.old = true))
def runOK : T → List Chg → Prop
  | _, [] => True
  | v, c :: r => stepOK v c ∧ runOK (applyM v c) r
def runM : T → List Chg → T
  | v, [] => v
  | v, c :: r => runM (applyM v c) r
theorem run_at : ∀ {l : List Chg} {v : T} {i : Nat}, runOK v l → i < l.length → stepOK (runM v (l.take i)) (nthG l i) ∧ runM v (l.take (i + 1)) = applyM (runM v (l.take i)) (nthG l i)
  | [], _, _, _, h => absurd h (by simp)
  | c :: r, v, 0, h, _ => ⟨h.1, rfl⟩
  | c :: r, v, i + 1, h, hi => run_at (l := r) (v := applyM v c) (i := i) h.2 (by simpa using hi)
theorem run_vOK : ∀ {l : List Chg} {v : T} (i : Nat), vOK v → runOK v l → vOK (runM v (l.take i))
  | [], _, _, h, _ => by simpa [runM] using h
  | c :: r, v, 0, h, _ => h
  | c :: r, v, i + 1, _, h => run_vOK (l := r) (v := applyM v c) i h.1.2.1 h.2
def invC (c : Chg) : Chg := if c.op = 1 then ⟨1, c.path, c.pos, c.new, c.old⟩ else if c.op = 2 then ⟨3, c.path, c.pos, c.new, c.old⟩ else if c.op = 3 then ⟨2, c.path, c.pos, c.new, c.old⟩ else c
theorem encF_sl0 (l : List Fl) (n m : Nat) (h : m = n) : ((encF l).drop 0).take m = encF (l.take n) := by subst h; simp [encF_map]
theorem encF_sl1 (l : List Fl) (n m : Nat) (h : m = l.length - n) : ((encF l).drop n).take m = encF (l.drop n) := by
  subst h
  rw [List.take_of_length_le (by simp)]
  simp [encF_map]
end Go.Abs
namespace Go.Abs
abbrev optP : Option T → AV
  | none => .lit (.pointer none)
  | some t => .rp (encX t) 0
def optL : Option T → List T
  | none => []
  | some t => [t]
theorem some_getD {α : Type} {o : Option α} {d : α} (h : o.isSome = true) : some (o.getD d) = o := by cases o with
  | none => cases h
  | some x => rfl
theorem none_of {α : Type} {o : Option α} (h : o.isSome = false) : o = none := by cases o with
  | none => rfl
  | some x => cases h
theorem snoc_at {α : Type} {l : List α} {r : α} {n : Nat} (h : l.length = n) : (l ++ (([r] : List α).drop 0).take 1)[n]? = some r := by subst h; simp
theorem snoc_set {α : Type} {l : List α} {r r' : α} {n : Nat} (h : l.length = n) : (l ++ (([r] : List α).drop 0).take 1).set n r' = l ++ (([r'] : List α).drop 0).take 1 := by subst h; simp
theorem encF_snoc (l : List Fl) (p : Fl) : encF l ++ (([([.lit (.string p.1)] ++ encX p.2)] : List (List AV)).drop 0).take 1 = encF (l ++ [p]) := by
  rw [encF_append]; simp [encF, enc_eq]
def withoutM (k : ByteArray) : List Fl → List Fl
  | [] => []
  | x :: r => if x.1 = k then withoutM k r else x :: withoutM k r
theorem withoutM_le (k : ByteArray) : ∀ l : List Fl, (withoutM k l).length ≤ l.length
  | [] => Nat.le_refl _
  | x :: r => by
    simp only [withoutM]
    have := withoutM_le k r
    split <;> simp <;> omega
theorem withoutM_snoc (k : ByteArray) : ∀ (l : List Fl) (x : Fl), withoutM k (l ++ [x]) = if x.1 = k then withoutM k l else withoutM k l ++ [x]
  | [], x => by simp only [List.nil_append, withoutM]
  | y :: r, x => by
    simp only [List.cons_append, withoutM, withoutM_snoc k r x]
    split <;> split <;> simp_all
theorem withoutM_take {k : ByteArray} {l : List Fl} {i : Nat} (h : i < l.length) : withoutM k (l.take (i + 1)) = if (nthF l i).1 = k then withoutM k (l.take i) else withoutM k (l.take i) ++ [nthF l i] := by
  rw [take_succ_nth h, withoutM_snoc, nthF_eq h]
abbrev strCells (k : ByteArray) : List AV := [.lit (.string k)]
abbrev rpCells (t : T) : List AV := [.rp (encX t) 0]
abbrev boolCells (b : Bool) : List AV := [.lit (.bool b)]
instance : Inhabited ByteArray := ⟨⟨#[]⟩⟩
def cnt (k : ByteArray) : List ByteArray → Nat
  | [] => 0
  | x :: r => (if x = k then 1 else 0) + cnt k r
theorem cnt_snoc (k : ByteArray) : ∀ (l : List ByteArray) (x : ByteArray), cnt k (l ++ [x]) = cnt k l + if x = k then 1 else 0
  | [], x => by simp [cnt]
  | y :: r, x => by simp only [List.cons_append, cnt, cnt_snoc k r x]; omega
theorem cnt_le (k : ByteArray) : ∀ l : List ByteArray, cnt k l ≤ l.length
  | [] => Nat.le_refl _
  | x :: r => by
    have := cnt_le k r
    simp only [cnt, List.length_cons]
    split <;> omega
theorem cnt_mem {k : ByteArray} : ∀ {l : List ByteArray}, cnt k l = 0 ↔ k ∉ l
  | [] => by simp [cnt]
  | x :: r => by
    simp only [cnt, List.mem_cons, not_or, Nat.add_eq_zero_iff, cnt_mem (l := r)]
    constructor
    · rintro ⟨h1, h2⟩; refine ⟨fun e => ?_, h2⟩; rw [if_pos e.symm] at h1; omega
    · rintro ⟨h1, h2⟩; exact ⟨by rw [if_neg (fun e => h1 e.symm)], h2⟩
theorem getKV_put (k k' : ByteArray) (v : Value) : ∀ kv : List (ByteArray × Value), getKV k (putKV k' v kv) = if k = k' then some v else getKV k kv
  | [] => by simp only [putKV, getKV]
  | (a, x) :: r => by
    simp only [putKV]
    split
    · rename_i e; subst e
      simp only [getKV]
      split <;> rfl
    · rename_i e
      simp only [getKV, getKV_put k k' v r]
      split
      · rename_i e2; subst e2; rw [if_neg (fun h => e h.symm)]
      · rfl
def cntA : List ByteArray → List ByteArray → List (ByteArray × Value) → List (ByteArray × Value)
  | _, [], kv => kv
  | pr, k :: r, kv => cntA (pr ++ [k]) r (putKV k (.int .i64 ((cnt k pr + 1 : Nat) : Int)) kv)
def cntKV (l : List ByteArray) : List (ByteArray × Value) := cntA [] l []
theorem cntA_snoc (k : ByteArray) : ∀ (l pr : List ByteArray) (kv : List (ByteArray × Value)), cntA pr (l ++ [k]) kv = putKV k (.int .i64 ((cnt k (pr ++ l) + 1 : Nat) : Int)) (cntA pr l kv)
  | [], pr, kv => by simp [cntA]
  | x :: r, pr, kv => by simp only [List.cons_append, cntA, cntA_snoc k r]; simp
theorem cntKV_snoc (l : List ByteArray) (k : ByteArray) : cntKV (l ++ [k]) = putKV k (.int .i64 ((cnt k l + 1 : Nat) : Int)) (cntKV l) := by
  unfold cntKV; rw [cntA_snoc]; rfl
theorem cntA_get : ∀ (l pr : List ByteArray) (kv : List (ByteArray × Value)), (∀ k, (getKV k kv).getD (.int .i64 0) = .int .i64 ((cnt k pr : Nat) : Int)) → ∀ k, (getKV k (cntA pr l kv)).getD (.int .i64 0) = .int .i64 ((cnt k (pr ++ l) : Nat) : Int)
  | [], pr, kv, h, k => by simpa [cntA] using h k
  | x :: r, pr, kv, h, k => by
    have := cntA_get r (pr ++ [x]) (putKV x (.int .i64 ((cnt x pr + 1 : Nat) : Int)) kv) (fun j => by
      rw [getKV_put, cnt_snoc]
      split
      · rename_i e; subst e; simp
      · rename_i e; rw [if_neg (fun h => e h.symm)]; exact h j) k
    simpa [cntA] using this
theorem cntKV_get (l : List ByteArray) (k : ByteArray) : (getKV k (cntKV l)).getD (.int .i64 0) = .int .i64 ((cnt k l : Nat) : Int) := by
  have := cntA_get l [] [] (fun k => by simp [getKV, cnt]) k
  unfold cntKV
  simpa using this
theorem cntKV_get1 (l : List ByteArray) (k : ByteArray) (v : Value) : (getKV k (putKV k v (cntKV l))).getD (.int .i64 0) = v := by rw [getKV_put, if_pos rfl]; rfl
def dedA : List ByteArray → List ByteArray → List ByteArray → List ByteArray
  | _, [], out => out
  | pr, k :: r, out => dedA (pr ++ [k]) r (if cnt k pr = 0 then out ++ [k] else out)
def dedO (l : List ByteArray) : List ByteArray := dedA [] l []
theorem dedA_snoc (k : ByteArray) : ∀ (l pr out : List ByteArray), dedA pr (l ++ [k]) out = if cnt k (pr ++ l) = 0 then dedA pr l out ++ [k] else dedA pr l out
  | [], pr, out => by simp [dedA]
  | x :: r, pr, out => by simp only [List.cons_append, dedA, dedA_snoc k r]; simp
theorem dedO_snoc (l : List ByteArray) (k : ByteArray) : dedO (l ++ [k]) = if cnt k l = 0 then dedO l ++ [k] else dedO l := by
  unfold dedO; rw [dedA_snoc]; rfl
theorem dedA_len : ∀ (l pr out : List ByteArray), (dedA pr l out).length ≤ out.length + l.length
  | [], _, out => by simp [dedA]
  | k :: r, pr, out => by
    simp only [dedA]
    refine Nat.le_trans (dedA_len r _ _) ?_
    split <;> simp <;> omega
theorem dedO_len (l : List ByteArray) : (dedO l).length ≤ l.length := by unfold dedO; simpa using dedA_len l [] []
def fKeys (t : T) : List ByteArray := t.fields.map (·.1)
def preK (l : List T) (i : Nat) : List ByteArray := (l.take i).flatMap fKeys
theorem preK_succ {l : List T} {i : Nat} (h : i < l.length) : preK l (i + 1) = preK l i ++ fKeys (nthG l i) := by
  unfold preK
  rw [take_succ_nth h, nthG_eq h, List.flatMap_append]; simp
theorem fKeys_take {t : T} {j : Nat} (h : j < t.fields.length) : (fKeys t).take (j + 1) = (fKeys t).take j ++ [(nthF t.fields j).1] := by
  rw [take_succ_nth (by simpa [fKeys] using h), nthF_eq h]; simp [fKeys]
theorem fKeys_all {t : T} {j : Nat} (h : t.fields.length ≤ j) : (fKeys t).take j = fKeys t := List.take_of_length_le (by simpa [fKeys] using h)
@[simp] theorem fKeys_len (t : T) : (fKeys t).length = t.fields.length := by simp [fKeys]
def keysM (b o t : T) : List ByteArray := dedO (preK [o, t, b] 3)
noncomputable def eqO : Option T → Option T → Bool
  | none, none => true
  | some a, some b => sameM 1000 a b
  | _, _ => false
abbrev AtF := List Stp → Option T → Option T → Option T → List Cft → Option T × List Cft
def keepK (k : ByteArray) (x : Option T) (fs : List Fl) : List Fl := if x.isSome then fs ++ [(k, x.getD T.nul)] else fs
def foldK (f : AtF) (p : List Stp) (b o t : T) : List ByteArray → List Fl → List Cft → List Fl × List Cft
  | [], fs, fd => (fs, fd)
  | k :: r, fs, fd => foldK f p b o t r (keepK k (f (p ++ [⟨false, k, 0⟩]) (fieldM k b.fields) (fieldM k o.fields) (fieldM k t.fields) fd).1 fs) (f (p ++ [⟨false, k, 0⟩]) (fieldM k b.fields) (fieldM k o.fields) (fieldM k t.fields) fd).2
def cftM (tk : List Bool) (p : List Stp) (b o t : Option T) (fd : List Cft) : Option T × List Cft :=
  (if fd.length < tk.length ∧ nthG tk fd.length = true then t else o, fd ++ [⟨p, optL b, optL o, optL t⟩])
noncomputable def atM (tk : List Bool) : Nat → AtF
  | 0, _, _, o, _, fd => (o, fd)
  | d + 1, p, b, o, t, fd =>
    if eqO o t = true ∨ eqO t b = true then (o, fd)
    else if eqO o b = true then (t, fd)
    else match b, o, t with
      | some b', some o', some t' =>
        if o'.kind = 7 ∧ t'.kind = 7 ∧ b'.kind = 7 then
          (some (T.map (foldK (atM tk d) p b' o' t' (keysM b' o' t') [] fd).1), (foldK (atM tk d) p b' o' t' (keysM b' o' t') [] fd).2)
        else cftM tk p b o t fd
      | _, _, _ => cftM tk p b o t fd
def okTri : Nat → Option T → Option T → Option T → Prop
  | 0, _, _, _ => False
  | d + 1, b, o, t => (∀ x, b = some x → T.ok (d + 6) x) ∧ (∀ x, o = some x → T.ok (d + 6) x) ∧ (∀ x, t = some x → T.ok (d + 6) x) ∧ (b = none → o.isSome = true → t.isSome = true → False) ∧
    ∀ b' o' t', b = some b' → o = some o' → t = some t' → o'.kind = 7 → t'.kind = 7 → b'.kind = 7 → b'.fields.length + o'.fields.length + t'.fields.length ≤ 100000 ∧ ∀ k, okTri d (fieldM k b'.fields) (fieldM k o'.fields) (fieldM k t'.fields)
theorem foldK_nth {f : AtF} {p : List Stp} {b o t : T} {ks : List ByteArray} {i : Nat} (h : i < ks.length) (fs : List Fl) (fd : List Cft) :
    foldK f p b o t (ks.drop i) fs fd = foldK f p b o t (ks.drop (i + 1)) (keepK (nthG ks i) (f (p ++ [⟨false, nthG ks i, 0⟩]) (fieldM (nthG ks i) b.fields) (fieldM (nthG ks i) o.fields) (fieldM (nthG ks i) t.fields) fd).1 fs) (f (p ++ [⟨false, nthG ks i, 0⟩]) (fieldM (nthG ks i) b.fields) (fieldM (nthG ks i) o.fields) (fieldM (nthG ks i) t.fields) fd).2 := by
  rw [List.drop_eq_getElem_cons h, nthG_eq h]; rfl
theorem foldK_end {f : AtF} {p : List Stp} {b o t : T} {ks : List ByteArray} {i : Nat} (h : ks.length ≤ i) (fs : List Fl) (fd : List Cft) : foldK f p b o t (ks.drop i) fs fd = (fs, fd) := by
  rw [List.drop_eq_nil_of_le h]; rfl
def GrowsC (f : AtF) : Prop := ∀ p b o t fd, fd.length ≤ (f p b o t fd).2.length
theorem foldK_grows {f : AtF} (hf : GrowsC f) (p : List Stp) (b o t : T) : ∀ (ks : List ByteArray) (fs : List Fl) (fd : List Cft), fd.length ≤ (foldK f p b o t ks fs fd).2.length ∧ (foldK f p b o t ks fs fd).1.length ≤ fs.length + ks.length
  | [], fs, fd => ⟨Nat.le_refl _, Nat.le_refl _⟩
  | k :: r, fs, fd => by
    simp only [foldK]
    have h1 := foldK_grows hf p b o t r (keepK k (f (p ++ [⟨false, k, 0⟩]) (fieldM k b.fields) (fieldM k o.fields) (fieldM k t.fields) fd).1 fs) (f (p ++ [⟨false, k, 0⟩]) (fieldM k b.fields) (fieldM k o.fields) (fieldM k t.fields) fd).2
    have h2 := hf (p ++ [⟨false, k, 0⟩]) (fieldM k b.fields) (fieldM k o.fields) (fieldM k t.fields) fd
    refine ⟨Nat.le_trans h2 h1.1, Nat.le_trans h1.2 ?_⟩
    unfold keepK
    split <;> simp <;> omega
theorem atM_grows (tk : List Bool) : ∀ d, GrowsC (atM tk d)
  | 0, _, _, _, _, _ => Nat.le_refl _
  | d + 1, p, b, o, t, fd => by
    simp only [atM]
    split
    · exact Nat.le_refl _
    · split
      · exact Nat.le_refl _
      · split
        · split
          · exact (foldK_grows (atM_grows tk d) p _ _ _ _ [] fd).1
          · simp [cftM]
        · simp [cftM]
theorem foldK_bd {f : AtF} (hf : GrowsC f) {p : List Stp} {b o t : T} {ks : List ByteArray} {i N : Nat} {fs : List Fl} {fd : List Cft} (h : i < ks.length) (hB : (foldK f p b o t (ks.drop i) fs fd).2.length ≤ N) :
    (f (p ++ [⟨false, nthG ks i, 0⟩]) (fieldM (nthG ks i) b.fields) (fieldM (nthG ks i) o.fields) (fieldM (nthG ks i) t.fields) fd).2.length ≤ N := by
  rw [foldK_nth h] at hB
  exact Nat.le_trans (foldK_grows hf p b o t _ _ _).1 hB
theorem preK_bd (o t b : T) {i : Nat} (h : i < 3) (j : Nat) : (preK [o, t, b] i ++ (fKeys (nthG [o, t, b] i)).take j).length ≤ o.fields.length + t.fields.length + b.fields.length := by
  have : i = 0 ∨ i = 1 ∨ i = 2 := by omega
  rcases this with rfl | rfl | rfl <;> simp [preK, nthG] <;> omega
theorem keysM_len (b o t : T) : (keysM b o t).length ≤ b.fields.length + o.fields.length + t.fields.length := by
  refine Nat.le_trans (dedO_len _) ?_
  simp [preK]; omega
theorem foldK_ok {f : AtF} {m : Nat} {p : List Stp} {b o t : T} (hf : ∀ k fd x, (f (p ++ [⟨false, k, 0⟩]) (fieldM k b.fields) (fieldM k o.fields) (fieldM k t.fields) fd).1 = some x → T.ok m x) : ∀ (ks : List ByteArray) (fs : List Fl) (fd : List Cft), (∀ q ∈ fs, T.ok m q.2) → ∀ q ∈ (foldK f p b o t ks fs fd).1, T.ok m q.2
  | [], fs, fd, h => h
  | k :: r, fs, fd, h => by
    simp only [foldK]
    refine foldK_ok hf r _ _ ?_
    unfold keepK
    split
    · rename_i hs
      intro q hq
      rcases List.mem_append.1 hq with hq | hq
      · exact h q hq
      · simp only [List.mem_singleton] at hq
        subst hq
        exact hf k fd _ (some_getD hs).symm
    · exact h
theorem atM_ok (tk : List Bool) : ∀ (d : Nat) (p : List Stp) (b o t : Option T) (fd : List Cft), okTri d b o t → ∀ x, (atM tk d p b o t fd).1 = some x → T.ok (d + 5) x
  | 0, _, _, _, _, _, h, _, _ => absurd h id
  | d + 1, p, b, o, t, fd, h, x, hx => by
    obtain ⟨h1, h2, h3, _, h5⟩ := h
    have hc : (cftM tk p b o t fd).1 = some x → T.ok (d + 1 + 5) x := by
      intro e
      unfold cftM at e
      simp only at e
      split at e
      · exact h3 x e
      · exact h2 x e
    simp only [atM] at hx
    split at hx
    · exact h2 x hx
    · split at hx
      · exact h3 x hx
      · split at hx
        · rename_i b' o' t' _ _ _
          split at hx
          · rename_i hk
            obtain ⟨hl, ho⟩ := h5 _ _ _ rfl rfl rfl hk.1 hk.2.1 hk.2.2
            cases hx
            refine ⟨by simp [T.map, T.bytes], by simp [T.map, T.list], ?_, by simp [T.map, T.list], ?_⟩
            · have h8 := (foldK_grows (atM_grows tk d) p b' o' t' (keysM b' o' t') [] fd).2
              have h9 := keysM_len b' o' t'
              simp only [List.length_nil] at h8
              show (foldK (atM tk d) p b' o' t' (keysM b' o' t') [] fd).1.length ≤ _
              omega
            · exact foldK_ok (fun k fd x hx => atM_ok tk d _ _ _ _ _ (ho k) x hx) _ _ _ (by simp)
          · exact hc hx
        · exact hc hx
def dl1 (bf : List Fl) : List Fl → List Fl → List Fl
  | [], out => out
  | x :: r, out => dl1 bf r (if (fieldM x.1 bf).isSome then out else out ++ [(x.1, T.nul)])
def dl2 (f : T → T → T) (af : List Fl) : List Fl → List Fl → List Fl
  | [], out => out
  | y :: r, out => dl2 f af r (if (fieldM y.1 af).isSome = true ∧ sameM 1000 ((fieldM y.1 af).getD T.nul) y.2 = true then out else out ++ [(y.1, f ((fieldM y.1 af).getD T.nul) y.2)])
def deltaM : Nat → T → T → T
  | 0, _, b => b
  | d + 1, a, b => if b.kind = 7 then T.map (dl2 (deltaM d) a.fields b.fields (dl1 b.fields a.fields [])) else b
def okDl : Nat → T → T → Prop
  | 0, _, _ => False
  | d + 1, a, b => a.fit ∧ b.fit ∧ (b.kind = 7 → a.kind = 7 ∧ ∀ y ∈ b.fields, y.2.kind ≠ 0 ∧ okDl d ((fieldM y.1 a.fields).getD T.nul) y.2)
theorem dl1_nth {bf l : List Fl} {i : Nat} (h : i < l.length) (out : List Fl) : dl1 bf (l.drop i) out = dl1 bf (l.drop (i + 1)) (if (fieldM (nthF l i).1 bf).isSome then out else out ++ [((nthF l i).1, T.nul)]) := by
  rw [List.drop_eq_getElem_cons h, nthF_eq h]; rfl
theorem dl2_nth {f : T → T → T} {af l : List Fl} {i : Nat} (h : i < l.length) (out : List Fl) : dl2 f af (l.drop i) out = dl2 f af (l.drop (i + 1)) (if (fieldM (nthF l i).1 af).isSome = true ∧ sameM 1000 ((fieldM (nthF l i).1 af).getD T.nul) (nthF l i).2 = true then out else out ++ [((nthF l i).1, f ((fieldM (nthF l i).1 af).getD T.nul) (nthF l i).2)]) := by
  rw [List.drop_eq_getElem_cons h, nthF_eq h]; rfl
theorem dl1_end {bf l : List Fl} {i : Nat} (h : l.length ≤ i) (out : List Fl) : dl1 bf (l.drop i) out = out := by rw [List.drop_eq_nil_of_le h]; rfl
theorem dl2_end {f : T → T → T} {af l : List Fl} {i : Nat} (h : l.length ≤ i) (out : List Fl) : dl2 f af (l.drop i) out = out := by rw [List.drop_eq_nil_of_le h]; rfl
def putOv (fs : List Fl) (k : ByteArray) (x : T) : List Fl := if (fieldM k fs).isSome then fs.map (fun e => if e.1 = k then (e.1, x) else e) else fs ++ [(k, x)]
def stepOv (f : Option T → T → T) (fs : List Fl) (g : Fl) : List Fl := if g.2.kind = 0 then withoutM g.1 fs else putOv fs g.1 (f (fieldM g.1 fs) g.2)
def ovF (f : Option T → T → T) : List Fl → List Fl → List Fl
  | fs, [] => fs
  | fs, g :: r => ovF f (stepOv f fs g) r
def overM : Nat → Option T → T → T
  | 0, _, v => v
  | d + 1, b, v => if v.kind = 7 then (b.getD T.nul).setF (ovF (overM d) (b.getD T.nul).fields v.fields) else v
def fitF (fs : List Fl) : Prop := fs.length ≤ 50000 ∧ ∀ p ∈ fs, T.ok 999 p.2
def okF (f : Option T → T → T) (ok : Option T → T → Prop) : List Fl → List Fl → Prop
  | fs, [] => fitF fs
  | fs, g :: r => fitF fs ∧ (g.2.kind ≠ 0 → ok (fieldM g.1 fs) g.2) ∧ okF f ok (stepOv f fs g) r
def okOv : Nat → Option T → T → Prop
  | 0, _, _ => False
  | d + 1, b, v => v.fit ∧ (v.kind = 7 → ∃ b', b = some b' ∧ b'.kind = 7 ∧ b'.fit ∧ okF (overM d) (okOv d) b'.fields v.fields)
theorem ovF_nth {f : Option T → T → T} {l : List Fl} {i : Nat} (h : i < l.length) (fs : List Fl) : ovF f fs (l.drop i) = ovF f (stepOv f fs (nthF l i)) (l.drop (i + 1)) := by
  rw [List.drop_eq_getElem_cons h, nthF_eq h]; rfl
theorem ovF_end {f : Option T → T → T} {l : List Fl} {i : Nat} (h : l.length ≤ i) (fs : List Fl) : ovF f fs (l.drop i) = fs := by rw [List.drop_eq_nil_of_le h]; rfl
theorem okF_nth {f : Option T → T → T} {ok : Option T → T → Prop} {l fs : List Fl} {i : Nat} (h : i < l.length) (hk : okF f ok fs (l.drop i)) : ((nthF l i).2.kind ≠ 0 → ok (fieldM (nthF l i).1 fs) (nthF l i).2) ∧ okF f ok (stepOv f fs (nthF l i)) (l.drop (i + 1)) := by
  rw [List.drop_eq_getElem_cons h] at hk
  rw [nthF_eq h]
  exact ⟨hk.2.1, hk.2.2⟩
theorem okF_fit {f : Option T → T → T} {ok : Option T → T → Prop} {fs : List Fl} : ∀ {l : List Fl}, okF f ok fs l → fitF fs
  | [], h => h
  | _ :: _, h => h.1
theorem setF_fit {v : T} {fs : List Fl} (hv : v.fit) (h : fitF fs) : (v.setF fs).fit := ⟨hv.1, hv.2.1, by have := h.1; show fs.length ≤ 100000; omega, hv.2.2.2.1, h.2⟩
def ovG (k : ByteArray) (x : T) (e : Fl) : Fl := if e.1 = k then (e.1, x) else e
theorem updM_yesG {g : Fl → Fl} {l : List Fl} {j : Nat} {x : T} (h : j < l.length) (e : g (nthF l j) = ((nthF l j).1, x)) : (updM g l j).set j ((nthF (updM g l j) j).1, x) = updM g l (j + 1) := by
  rw [updM_succ h, updM_nth h, e]
theorem updM_noG {g : Fl → Fl} {l : List Fl} {j : Nat} (h : j < l.length) (e : g (nthF l j) = nthF l j) : updM g l j = updM g l (j + 1) := by
  rw [updM_succ h, e]
  conv => rhs; rw [← updM_nth (g := g) h, nthF_eq (by simpa using h)]
  simp
theorem fieldM_iff {k : ByteArray} : ∀ {l : List Fl}, (fieldM k l).isSome = true ↔ ∃ q, q < l.length ∧ (nthF l q).1 = k
  | [] => by simp [fieldM]
  | (a, x) :: r => by
    simp only [fieldM]
    split
    · rename_i e; exact ⟨fun _ => ⟨0, by simp, e⟩, fun _ => rfl⟩
    · rename_i e
      rw [fieldM_iff (l := r)]
      constructor
      · rintro ⟨q, hq, hk⟩; exact ⟨q + 1, by simpa using hq, by simpa [nthF] using hk⟩
      · rintro ⟨q, hq, hk⟩
        cases q with
        | zero => exact absurd (by simpa [nthF] using hk) e
        | succ q => exact ⟨q, by simpa using hq, by simpa [nthF] using hk⟩
theorem ovG_yes {k : ByteArray} {x : T} {l : List Fl} {j : Nat} (h : j < l.length) (e : (nthF (updM (ovG k x) l j) j).1 = k) : (updM (ovG k x) l j).set j ((nthF (updM (ovG k x) l j) j).1, x) = updM (ovG k x) l (j + 1) := by
  rw [updM_nth h] at e
  exact updM_yesG h (if_pos e)
theorem ovG_no {k : ByteArray} {x : T} {l : List Fl} {j : Nat} (h : j < l.length) (e : ¬ (nthF (updM (ovG k x) l j) j).1 = k) : updM (ovG k x) l j = updM (ovG k x) l (j + 1) := by
  rw [updM_nth h] at e
  exact updM_noG h (if_neg e)
end Go.Abs
namespace Go.Abs
theorem sideL_1 {u : Ru} {i s w : Nat} (h : ¬ w = 4) : (sideL u i s w).length = 1 := by unfold sideL; rw [if_neg (by omega)]; rfl
def verF (g : Nat → List T) : Nat → List Fl
  | 0 => []
  | i + 1 => if (g i).length = 0 then verF g i else verF g i ++ [(strOf (keyL i), nthT (g i) 0)]
theorem verF_yes {g : Nat → List T} {i : Nat} (h : (0 : Int) < (((g i).length : Nat) : Int)) : verF g (i + 1) = verF g i ++ [(strOf (keyL i), nthT (g i) 0)] := if_neg (by omega)
theorem verF_no {g : Nat → List T} {i : Nat} (h : ¬ (0 : Int) < (((g i).length : Nat) : Int)) : verF g (i + 1) = verF g i := if_pos (by omega)
theorem verF_len (g : Nat → List T) : ∀ i, (verF g i).length ≤ i
  | 0 => Nat.le_refl _
  | i + 1 => by
    have := verF_len g i
    simp only [verF]
    split <;> simp <;> omega
abbrev gB (u : Ru) (i : Nat) : List T := sideL u i 0 0
abbrev gO (u : Ru) (m : Mk) (i : Nat) : List T := sideL u i 1 (m.deed i).1
abbrev gX (u : Ru) (m : Mk) (i : Nat) : List T := sideL u i 2 (m.deed i).2
def sOurs : ByteArray := strOf [111, 117, 114, 115]
def sOther : ByteArray := strOf [111, 116, 104, 101, 114]
def baseT (u : Ru) (n : Nat) : T := T.map (verF (gB u) n)
def oursT (u : Ru) (m : Mk) (n : Nat) : T := T.map (verF (gO u m) n ++ [(sOurs, oneT)])
def otherT (u : Ru) (m : Mk) (n : Nat) : T := T.map (verF (gX u m) n ++ [(sOther, oneT)])
theorem deed_le (m : Mk) (i : Nat) : (m.deed i).1 ≤ 4 ∧ (m.deed i).2 ≤ 4 := by unfold Mk.deed; constructor <;> simp only <;> omega
structure StQ where
  parts : List Chg
  gone : List Chg
  less : List Fl
  more : List Fl
  kept : Nat
noncomputable def stPart (i : Nat) (a b : Fl) (q : List Chg × List Fl) : List Chg × List Fl :=
  if eqT a.2 b.2 = true then q else (q.1 ++ [⟨1, [⟨false, strOf (keyL i), 0⟩, ⟨false, a.1, 0⟩], 0, a.2, b.2⟩], q.2 ++ [b])
noncomputable def stStep (i : Nat) (base : T) (now : List T) (q : StQ) : StQ :=
  if now.length = 0 then ⟨q.parts, q.gone ++ [⟨3, [⟨false, strOf (keyL i), 0⟩], (q.kept : Int), base, T.nul⟩], q.less ++ [(strOf (keyL i), T.nul)], q.more, q.kept⟩
  else
    let r := stPart i (nthF base.fields 1) (nthF (nthT now 0).fields 1) (stPart i (nthF base.fields 0) (nthF (nthT now 0).fields 0) (q.parts, []))
    ⟨r.1, q.gone, q.less, if r.2.length = 0 then q.more else q.more ++ [(strOf (keyL i), T.map r.2)], q.kept + 1⟩
noncomputable def stI (u : Ru) (m : Mk) : Nat → StQ
  | 0 => ⟨[], [], [], [], 0⟩
  | i + 1 => stStep i (nthT (gB u i) 0) (gO u m i) (stI u m i)
theorem stPart_len (i : Nat) (a b : Fl) (q : List Chg × List Fl) : (stPart i a b q).1.length ≤ q.1.length + 1 := by unfold stPart; split <;> simp
theorem stI_len (u : Ru) (m : Mk) : ∀ i, (stI u m i).parts.length ≤ 2 * i ∧ (stI u m i).gone.length ≤ i ∧ (stI u m i).less.length ≤ i ∧ (stI u m i).more.length ≤ i ∧ (stI u m i).kept ≤ i
  | 0 => by simp [stI]
  | i + 1 => by
    obtain ⟨h1, h2, h3, h4, h5⟩ := stI_len u m i
    simp only [stI, stStep]
    split
    · simp; omega
    · have h6 := stPart_len i (nthF (nthT (gB u i) 0).fields 0) (nthF (nthT (gO u m i) 0).fields 0) ((stI u m i).parts, [])
      have h7 := stPart_len i (nthF (nthT (gB u i) 0).fields 1) (nthF (nthT (gO u m i) 0).fields 1) (stPart i (nthF (nthT (gB u i) 0).fields 0) (nthF (nthT (gO u m i) 0).fields 0) ((stI u m i).parts, []))
      try dsimp only at h6
      try dsimp only at h7
      try dsimp only
      refine ⟨by omega, by omega, by omega, ?_, by omega⟩
      split <;> (try simp) <;> omega
noncomputable def wantC (u : Ru) (m : Mk) (n : Nat) : List Chg := ((stI u m n).parts ++ (stI u m n).gone) ++ [⟨2, [⟨false, sOurs, 0⟩], ((stI u m n).kept : Int), T.nul, oneT⟩]
noncomputable def overT (u : Ru) (m : Mk) (n : Nat) : T := T.map (((stI u m n).less ++ (stI u m n).more) ++ [(sOurs, oneT)])
def settleM (tk : List Bool) (c : Cft) (fd : List Cft) : List T := if fd.length < tk.length ∧ nthG tk fd.length = true then c.other else c.ours
theorem settle_pos {tk : List Bool} {c : Cft} {fd : List Cft} (h1 : c.ours.length = 1) (h2 : c.other.length = 1) : 0 < (settleM tk c fd).length := by unfold settleM; split <;> omega
noncomputable def stepJ (tk : List Bool) (i : Nat) (k : ByteArray) (b o t : T) (fd : List Cft) : T × List Cft :=
  if eqT o t = true ∨ eqT t b = true then (o, fd) else if eqT o b = true then (t, fd)
  else (nthT (settleM tk ⟨[⟨false, strOf (keyL i), 0⟩, ⟨false, k, 0⟩], [b], [o], [t]⟩ fd) 0, fd ++ [⟨[⟨false, strOf (keyL i), 0⟩, ⟨false, k, 0⟩], [b], [o], [t]⟩])
noncomputable def fieldJ (tk : List Bool) (u : Ru) (i o x : Nat) (fd : List Cft) : List T × List Cft :=
  if o = 4 ∨ x = 4 then
    if o = x ∨ o = 0 ∨ x = 0 then ([], fd)
    else (settleM tk ⟨[⟨false, strOf (keyL i), 0⟩], sideL u i 0 0, sideL u i 1 o, sideL u i 2 x⟩ fd, fd ++ [⟨[⟨false, strOf (keyL i), 0⟩], sideL u i 0 0, sideL u i 1 o, sideL u i 2 x⟩])
  else
    let p := stepJ tk i (nthF (nthT (sideL u i 0 0) 0).fields 0).1 (nthF (nthT (sideL u i 0 0) 0).fields 0).2 (nthF (nthT (sideL u i 1 o) 0).fields 0).2 (nthF (nthT (sideL u i 2 x) 0).fields 0).2 fd
    let q := stepJ tk i (nthF (nthT (sideL u i 0 0) 0).fields 1).1 (nthF (nthT (sideL u i 0 0) 0).fields 1).2 (nthF (nthT (sideL u i 1 o) 0).fields 1).2 (nthF (nthT (sideL u i 2 x) 0).fields 1).2 p.2
    ([T.map [((nthF (nthT (sideL u i 0 0) 0).fields 0).1, p.1), ((nthF (nthT (sideL u i 0 0) 0).fields 1).1, q.1)]], q.2)
theorem stepJ_len {tk : List Bool} {i : Nat} {k : ByteArray} {b o t : T} {fd : List Cft} : (stepJ tk i k b o t fd).2.length ≤ fd.length + 1 := by unfold stepJ; split <;> (try split) <;> simp
theorem fieldJ_len {tk : List Bool} {u : Ru} {i o x : Nat} {fd : List Cft} : (fieldJ tk u i o x fd).2.length ≤ fd.length + 2 := by
  unfold fieldJ
  split
  · split <;> simp
  · exact Nat.le_trans stepJ_len (by have := @stepJ_len tk i (nthF (nthT (sideL u i 0 0) 0).fields 0).1 (nthF (nthT (sideL u i 0 0) 0).fields 0).2 (nthF (nthT (sideL u i 1 o) 0).fields 0).2 (nthF (nthT (sideL u i 2 x) 0).fields 0).2 fd; omega)
noncomputable def whI (tk : List Bool) (u : Ru) (m : Mk) (r : Bool) : Nat → List Fl × List Cft → List Fl × List Cft
  | 0, q => q
  | i + 1, q =>
    let p := whI tk u m r i q
    if decide ((m.deed i).1 = 4) = r then
      let f := fieldJ tk u i (m.deed i).1 (m.deed i).2 p.2
      (if f.1.length = 0 then p.1 else p.1 ++ [(strOf (keyL i), nthT f.1 0)], f.2)
    else p
theorem whI_len (tk : List Bool) (u : Ru) (m : Mk) (r : Bool) (q : List Fl × List Cft) : ∀ i, (whI tk u m r i q).1.length ≤ q.1.length + i ∧ (whI tk u m r i q).2.length ≤ q.2.length + 2 * i
  | 0 => ⟨Nat.le_refl _, Nat.le_refl _⟩
  | i + 1 => by
    obtain ⟨h1, h2⟩ := whI_len tk u m r q i
    simp only [whI]
    split
    · have := @fieldJ_len tk u i (m.deed i).1 (m.deed i).2 (whI tk u m r i q).2
      refine ⟨?_, by first | omega | (dsimp only; omega)⟩
      try dsimp only
      split <;> (try simp) <;> omega
    · exact ⟨by omega, by omega⟩
noncomputable def whA (tk : List Bool) (u : Ru) (m : Mk) (n : Nat) : List Fl × List Cft := whI tk u m false n ([], [])
noncomputable def whB (tk : List Bool) (u : Ru) (m : Mk) (n : Nat) : List Fl × List Cft := whI tk u m true n ((whA tk u m n).1 ++ [(sOurs, oneT)], (whA tk u m n).2)
noncomputable def wholeT (tk : List Bool) (u : Ru) (m : Mk) (n : Nat) : T := T.map ((whB tk u m n).1 ++ [(sOther, oneT)])
theorem sideL_f {u : Ru} {i s w : Nat} (h : ¬ ((((sideL u i s w).length : Nat) : Int) = 0)) : (nthT (sideL u i s w) 0).fields.length = 2 := by
  unfold sideL at h ⊢
  split
  · rename_i e; rw [if_pos e] at h; simp at h
  · rfl
theorem int_ok (n : Nat) (d : Nat) : T.ok (d + 1) (T.int n) := ⟨by simp [T.int, T.num, T.bytes], by simp [T.int, T.num, T.list], by simp [T.int, T.num, T.fields], by simp [T.int, T.num, T.list], by simp [T.int, T.num, T.fields]⟩
theorem nul_ok (d : Nat) : T.ok (d + 1) T.nul := ⟨by simp [T.nul, T.bytes], by simp [T.nul, T.list], by simp [T.nul, T.fields], by simp [T.nul, T.list], by simp [T.nul, T.fields]⟩
theorem side_fit {u : Ru} {i s w k : Nat} : (nthF (nthT (sideL u i s w) 0).fields k).2.fit := by
  unfold sideL
  split
  · exact nul_ok 999
  · show (nthF [_, _] k).2.fit
    match k with
    | 0 => exact int_ok _ 999
    | 1 => exact int_ok _ 999
    | k + 2 => exact nul_ok 999
theorem app_allC (A B : List Chg) : rowsOf Chg.cells A ++ ((rowsOf Chg.cells B).drop 0).take B.length = rowsOf Chg.cells (A ++ B) := by
  rw [List.drop_zero, List.take_of_length_le (by simp), rows_append]
theorem app_allF (A B : List Fl) : encF A ++ ((encF B).drop 0).take B.length = encF (A ++ B) := by
  rw [List.drop_zero, List.take_of_length_le (by simp), encF_append]
end Go.Abs
namespace Go.Abs
noncomputable abbrev fJ (tk : List Bool) (u : Ru) (m : Mk) (i : Nat) (fd : List Cft) : List T × List Cft := fieldJ tk u i (m.deed i).1 (m.deed i).2 fd
theorem whI_no {tk : List Bool} {u : Ru} {m : Mk} {r : Bool} {i : Nat} {q : List Fl × List Cft} (h : (decide ((((m.deed i).1 : Nat) : Int) = 4) == r) = false) : whI tk u m r (i + 1) q = ((whI tk u m r i q).1, (whI tk u m r i q).2) :=
  if_neg (fun e => by
    have h2 : decide ((((m.deed i).1 : Nat) : Int) = 4) = decide ((m.deed i).1 = 4) := by rw [decide_eq_decide]; omega
    rw [h2, e] at h; simp at h)
theorem whI_y {tk : List Bool} {u : Ru} {m : Mk} {r : Bool} {i : Nat} {q : List Fl × List Cft} (h : (decide ((((m.deed i).1 : Nat) : Int) = 4) == r) = true) : whI tk u m r (i + 1) q =
    (if (fJ tk u m i (whI tk u m r i q).2).1.length = 0 then (whI tk u m r i q).1 else (whI tk u m r i q).1 ++ [(strOf (keyL i), nthT (fJ tk u m i (whI tk u m r i q).2).1 0)], (fJ tk u m i (whI tk u m r i q).2).2) :=
  if_pos (by
    have h2 : decide ((((m.deed i).1 : Nat) : Int) = 4) = decide ((m.deed i).1 = 4) := by rw [decide_eq_decide]; omega
    rw [h2] at h; exact eq_of_beq h)
theorem whI_y0 {tk : List Bool} {u : Ru} {m : Mk} {r : Bool} {i : Nat} {q : List Fl × List Cft} (h : (decide ((((m.deed i).1 : Nat) : Int) = 4) == r) = true) (hl : ¬ (0 : Int) < (((fJ tk u m i (whI tk u m r i q).2).1.length : Nat) : Int)) :
    whI tk u m r (i + 1) q = ((whI tk u m r i q).1, (fJ tk u m i (whI tk u m r i q).2).2) := by rw [whI_y h, if_pos (by omega)]
theorem whI_y1 {tk : List Bool} {u : Ru} {m : Mk} {r : Bool} {i : Nat} {q : List Fl × List Cft} (h : (decide ((((m.deed i).1 : Nat) : Int) = 4) == r) = true) (hl : (0 : Int) < (((fJ tk u m i (whI tk u m r i q).2).1.length : Nat) : Int)) :
    whI tk u m r (i + 1) q = ((whI tk u m r i q).1 ++ [(strOf (keyL i), nthT (fJ tk u m i (whI tk u m r i q).2).1 0)], (fJ tk u m i (whI tk u m r i q).2).2) := by rw [whI_y h, if_neg (by omega)]
theorem whA_len {tk : List Bool} {u : Ru} {m : Mk} {n : Nat} : (whA tk u m n).1.length ≤ n ∧ (whA tk u m n).2.length ≤ 2 * n := by have h9 := whI_len tk u m false ([], []) n; simp only [List.length_nil, Nat.zero_add] at h9; exact h9
end Go.Abs
namespace Go.Abs
def tkM (u : Ru) : Nat → List Bool
  | 0 => []
  | i + 1 => tkM u i ++ [decide (((u.at i % 2 : Nat) : Int) = 1)]
@[simp] theorem tkM_len (u : Ru) : ∀ i, (tkM u i).length = i
  | 0 => rfl
  | i + 1 => by simp [tkM, tkM_len u i]
structure AltOK (u : Ru) (m : Mk) (n : Nat) : Prop where
  fb : (baseT u n).fit
  fo : (oursT u m n).fit
  fx : (otherT u m n).fit
  plb : T.pl 3 (baseT u n)
  plo : T.pl 3 (oursT u m n)
  diff : btwM 3 [] [] (baseT u n) (oursT u m n) = wantC u m n
  len : (wantC u m n).length ≤ 4096
  chg : ∀ c ∈ wantC u m n, c.path.length ≤ 100000 ∧ c.old.fit ∧ c.new.fit
  vb : vOK (baseT u n)
  vo : vOK (oursT u m n)
  run : runOK (baseT u n) (wantC u m n)
  runE : runM (baseT u n) (wantC u m n) = oursT u m n
  back : runOK (oursT u m n) ((wantC u m n).reverse.map invC)
  backE : runM (oursT u m n) ((wantC u m n).reverse.map invC) = baseT u n
  dl : okDl 3 (baseT u n) (oursT u m n)
  dlE : deltaM 3 (baseT u n) (oursT u m n) = overT u m n
  ov : okOv 3 (some (baseT u n)) (overT u m n)
  ovE : overM 3 (some (baseT u n)) (overT u m n) = oursT u m n
  fov : (overT u m n).fit
  tri : okTri 3 (some (baseT u n)) (some (oursT u m n)) (some (otherT u m n))
  atE : ∀ tk, atM tk 3 [] (some (baseT u n)) (some (oursT u m n)) (some (otherT u m n)) [] = (some (wholeT tk u m n), (whB tk u m n).2)
  cf : ∀ tk, (whB tk u m n).2 = (whB [] u m n).2
  cfl : (whB [] u m n).2.length ≤ 100000
  cfo : ∀ c ∈ (whB [] u m n).2, c.path.length ≤ 100000 ∧ (T.lst c.base).fit ∧ (T.lst c.ours).fit ∧ (T.lst c.other).fit
theorem AltOK.fw {u : Ru} {m : Mk} {n : Nat} (h : AltOK u m n) (tk : List Bool) : (wholeT tk u m n).fit :=
  T.ok_le (atM_ok tk 3 _ _ _ _ [] h.tri _ (by rw [h.atE])) (by omega)
def pc2 : List Chg := [⟨1, [], 0, oneT, T.int 2⟩]
structure PatOK : Prop where
  diff : btwM 3 [] [] oneT (T.int 2) = pc2
  v1 : vOK oneT
  v2 : vOK (T.int 2)
  run : runOK oneT pc2
  runE : runM oneT pc2 = T.int 2
  pl1 : T.pl 3 oneT
  pl2 : T.pl 3 (T.int 2)
theorem binOp_urem (t : TypeId) (m d : Nat) (hd : 0 < d) : (binOp .rem t (.int .u64 (m : Int)) (.int .u64 (d : Int)) : Sem Value) = pure (.int .u64 ((m % d : Nat) : Int)) := by
  have h0 : ¬ ((d : Int) = 0) := by omega
  have h1 : (m : Int).tmod (d : Int) = ((m % d : Nat) : Int) := by
    rw [Int.tmod_eq_emod_of_nonneg (by omega)]; simp
  rw [binOp_rem]
  simp only [Op.intDiv, if_neg h0, h1]
theorem u64_wrap (v : Int) : IntKind.u64.wrap v = (((v % 18446744073709551616).toNat : Nat) : Int) := by
  show v % 18446744073709551616 = _
  omega
end Go.Abs
namespace Go.Abs
open Go.Proofs
set_option maxRecDepth 100000
set_option maxHeartbeats 8000000

def zv35 : Value := .agg #[.int .i64 0, .bool false, .bool false, .string ⟨#[]⟩, .int .i64 0, .int .i64 0, .int .i64 0, .int .i64 0, .int .i64 0, .string ⟨#[]⟩, .slice none 0 0, .slice none 0 0, .slice none 0 0]
theorem zt35 : (Tryz.prog.info? 35).bind (·.zero) = some zv35 := by kernel_rfl
theorem ag28 : isAggT Tryz.prog 28 = some true := by kernel_rfl
theorem sz28 : (Tryz.prog.info? 28).map (·.size) = some 3 := by kernel_rfl
theorem pl35 : placesOf Tryz.prog 35 = some [(0, 1), (1, 1), (2, 3), (5, 4), (9, 1), (10, 1), (11, 1), (12, 1)] := by kernel_rfl
theorem sz35 : (Tryz.prog.info? 35).map (·.size) = some 13 := by kernel_rfl
theorem us3 : (Tryz.prog.underlying 3).isSome = true := by kernel_rfl
theorem ut5 : Tryz.prog.underlying 5 = some (.int .u8) := by kernel_rfl
theorem ut31 : Tryz.prog.underlying 31 = some (.slice 5) := by kernel_rfl
theorem sz5 : (Tryz.prog.info? 5).map (·.size) = some 1 := by kernel_rfl
def zv5 : Value := .int .u8 0
theorem zt5 : (Tryz.prog.info? 5).bind (·.zero) = some zv5 := by kernel_rfl
theorem ut9 : Tryz.prog.underlying 9 = some (.string) := by kernel_rfl

theorem Num_spec (n : Bool) (d : ByteArray) (e : Int) : FSpec Tryz.prog 63 0 [.agg [.B n, .S d, .I e]] (hpOf []) (fun r h => r = .agg (encFr (T.num n d e)) ∧ h = hpOf []) := by
  refine FSpec.intro Tryz.func63 rfl (nl rfl) (nl rfl) fun s0 w0 hs0 hn0 => ?_
  refine .ws 0 [(0, .agg [.B n, .S d, .I e])] [] <| .seq <| .region <| .c1 (.box 0 Z Z (notup Z)) <| .c1 (.alloc 1 Z zt35 Z) <| .nil <| .seq <| .region <| .p (.loadN ag28 sz28 Z Z Z (nl Z)) <| .p (.build Z zt35 Z pl35 Z Z) <| .c0 (.store sz35 Z Z Z Z (notup Z) Z Z (nl Z)) <| .nil ?_
  refine .ret ?_
  exact ⟨_, _, _, _, rfl, ALe.of false [] 0
      [(0, .agg (encFr (T.num n d e)))]
      []
      .nil
      (.cons rfl (.aggL (.cons (.litE (by first | rfl | omega | simp)) (.cons (.litE (by first | rfl | omega | simp)) (.cons (.litE (by first | rfl | omega | simp)) (.cons (.litE (by first | rfl | omega | simp)) (.cons (.litE (by first | rfl | omega | simp)) (.cons (.litE (by first | rfl | omega | simp)) (.cons (.litE (by first | rfl | omega | simp)) (.cons (.litE (by first | rfl | omega | simp)) (.cons (.litE (by first | rfl | omega | simp)) (.cons (.litE (by first | rfl | omega | simp)) (.cons (.nilFr rfl) (.cons (.nilFr rfl) (.cons (.nilFr rfl) .nil)))))))))))))) .nil)
      (by simp), rfl, rfl⟩

theorem dec_spec (n : Nat) (hn : n ≤ 1000000) : FSpec Tryz.prog 79 0 [.N n] (hpOf []) (fun r h => r = .S (strOf (dec n)) ∧ h = hpOf []) := by
  refine FSpec.intro Tryz.func79 rfl (nl rfl) (nl rfl) fun s0 w0 hs0 hn0 => ?_
  refine .ws 0 [(0, .N n)] [] <| .seq <| .region <| .p (.assign Z Z) <| .nil <| .seq <| .region <| .p (.assign Z Z) <| .nil <| .seq <| .block ?_
  refine AWP.loop (G := { g : Nat × Nat × List UInt8 // g.2.1 < g.1 ∧ g.2.1 ≤ n ∧ g.2.2.length ≤ n + 1 - g.1 ∧ g.1 ≤ n + 1 ∧ decL g.1 g.2.1 g.2.2 = dec n }) (fun g => envOf [(0, .N g.1.2.1), (3, .S (strOf g.1.2.2))]) (fun g => hpOf []) (fun _ => 0) (fun g => g.1.2.1) ⟨(n + 1, n, []), (by simp [dec])⟩ (ALe.of false [] 0
      _
      _
      .nil
      (.s (.cons rfl (.litE (by first | rfl | omega | simp)) .nil))
      (by simp)) ?_
  rintro ⟨⟨f, m, l⟩, hg⟩
  try dsimp only at hg
  obtain ⟨g1, g2, g3, g4, g5⟩ := hg
  refine .ws 0 [(0, .N m), (3, .S (strOf l))] [] <| .seq <| .seq <| .region <| .p (.move Z Z) <| .p (.igtr Z Z Z) <| .nil ?_
  by_cases p2 : 0 < ((m : Nat) : Int)
  have h1 := decide_eq_true p2
  refine .cT Z h1 <| .skip <| .block <| .seq <| .region <| .p (.move Z Z) <| .p (.nrem m 10 Z Z Z Z Z (nl Z) (by omega)) ?_
  refine .p (.iadd (r := (((48 + (m % 10)) : Nat) : Int)) Z Z Z (wi (by omega) (by first | rfl | omega | (simp; done)))) ?_
  refine .p (.cint (r := (((48 + (m % 10)) : Nat) : Int)) us3 ut5 Z Z (by rw [IntWalk.u8_in _ (by omega)])) ?_
  refine .c1 (.buildSlice 0 true [[.lit (.int .u8 (((48 + (m % 10)) : Nat) : Int))]] ut31 sz5 zt5 Z Z (by decide) (by decide) Z Z Z Z Z Z Z) ?_
  refine .p (.bstr [UInt8.ofNat (48 + m % 10)] ut31 ut5 ut9 Z (.sl Z Z (nl Z) (by simp)) (by simp [byteRows]; omega)) ?_
  refine .p (.move Z Z) <| .p (.saddL [UInt8.ofNat (48 + m % 10)] l Z Z Z (by simp only [List.length_cons, List.length_nil]; omega)) ?_
  refine .p (.assign Z Z) <| .nil <| .region <| .p (.move Z Z) <| .p (.nquo m 10 Z Z Z Z Z (nl Z) (by omega)) ?_
  refine .p (.assign Z Z) <| .nil ?_
  have hq : (m / 10) < (f - 1) ∧ (m / 10) ≤ n ∧ (UInt8.ofNat (48 + m % 10) :: l).length ≤ n + 1 - (f - 1) ∧ (f - 1) ≤ n + 1 ∧ decL (f - 1) (m / 10) (UInt8.ofNat (48 + m % 10) :: l) = dec n := by
    obtain ⟨f, rfl⟩ : ∃ f1, f = f1 + 1 := ⟨f - 1, by omega⟩
    refine ⟨by omega, by omega, by simp only [List.length_cons]; omega, by omega, ?_⟩
    rw [← g5, decL, if_neg (by omega)]; rfl
  exact ⟨⟨((f - 1), (m / 10), (UInt8.ofNat (48 + m % 10) :: l)), hq⟩, (by simp; omega), (ALe.of false [] 0
      _
      _
      .nil
      (.s (.cons rfl (.litE (by first | rfl | (simp only [List.cons_append, List.nil_append]))) .nil))
      (by simp))⟩
  have h1 := decide_eq_false p2
  refine .cF Z h1 <| .exit <| .seq <| .region <| .p (.move Z Z) <| .p (.assign Z Z) <| .nil <| .ret ?_
  have hm : m = 0 := by omega
  have hd : strOf l = strOf (dec n) := by
    obtain ⟨f, rfl⟩ : ∃ f1, f = f1 + 1 := ⟨f - 1, by omega⟩
    rw [← g5, decL, if_pos hm]
  exact ⟨_, _, _, _, rfl, ALe.of false [] 0
      [(0, .S (strOf (dec n)))]
      []
      .nil
      (.cons rfl (.litE (by rw [hd])) .nil)
      (by simp), rfl, rfl⟩
end Go.Abs
namespace Go.Abs
open Go.Proofs
set_option maxRecDepth 100000
set_option maxHeartbeats 8000000


theorem Strip_spec (l : List UInt8) (hl : l.length ≤ 1000000) : FSpec Tryz.prog 95 0 [.S (strOf l)] (hpOf []) (fun r h => r = .S (strOf (stripZ l)) ∧ h = hpOf []) := by
  refine FSpec.intro Tryz.func95 rfl (nl rfl) (nl rfl) fun s0 w0 hs0 hn0 => ?_
  refine .ws 0 [(0, .S (strOf l))] [] <| .seq <| .region <| .p (.assign Z Z) <| .nil <| .seq <| .region <| .p (.assign Z Z) <| .nil <| .seq <| .block ?_
  refine AWP.loop (G := { g : Nat // g ≤ l.length ∧ (l.drop g).dropWhile (· == 48) = stripZ l }) (fun g => envOf [(0, .S (strOf l)), (3, .N g.1)]) (fun g => hpOf []) (fun _ => 0) (fun g => l.length - g.1) ⟨(0), ⟨by omega, rfl⟩⟩ ALe.s ?_
  rintro ⟨i, hg⟩
  try dsimp only at hg
  obtain ⟨g1, g2⟩ := hg
  refine .ws 0 [(0, .S (strOf l)), (3, .N i)] [] <| .seq <| .seq <| .region <| .p (.move Z Z) <| .p (.move Z Z) <| .p (.lenL l ut9 Z Z Z) <| .p (.ilss Z Z Z) <| .p (.move Z Z) ?_
  by_cases p2 : ((i : Nat) : Int) < ((l.length : Nat) : Int)
  have h1 := decide_eq_true p2
  refine .yT (.move Z Z) Z Z h1 <| .yT (.move Z Z) Z Z h1 <| .yT (.sindexL (j := i) l ut9 Z Z Z Z (by omega)) Z Z h1 ?_
  refine .yT (.ieql Z Z Z) Z Z h1 <| .p (.pickE Z Z h1 Z) <| .nil ?_
  by_cases p4 : (byteAt l i) = 48
  have h3 := decide_eq_true p4
  refine .cT Z h3 <| .skip <| .block <| .region <| .p (.move Z Z) <| .p (.iadd (r := (((i + 1) : Nat) : Int)) Z Z Z (wi (by omega) (by first | rfl | omega | (simp; done)))) ?_
  refine .p (.assign Z Z) <| .nil ?_
  have hq : (i + 1) ≤ l.length ∧ (l.drop (i + 1)).dropWhile (· == 48) = stripZ l := by
    exact ⟨by omega, strip_step (by omega) ‹_› g2⟩
  exact ⟨⟨((i + 1)), hq⟩, (by simp; omega), ALe.s⟩
  have h3 := decide_eq_false p4
  refine .cF Z h3 <| .exit <| .seq <| .region <| .p (.move Z Z) <| .p (.move Z Z) <| .p (.sdropL (i := i) l ut9 Z Z ⟨_, _, Z, Z⟩ (by omega)) ?_
  refine .p (.assign Z Z) <| .nil <| .ret ?_
  have hs : stripZ l = l.drop i := by
    by_cases hi : i < l.length
    · first
      | exact strip_end hi ‹_› g2
      | omega
    · exact strip_all (by omega) g2
  exact ⟨_, _, _, _, rfl, ALe.of false [] 0
      [(0, .S (strOf (stripZ l)))]
      []
      .nil
      (.cons rfl (.litE (by rw [hs])) .nil)
      (by simp), rfl, rfl⟩
  have h1 := decide_eq_false p2
  refine .nF Z Z h1 Z <| .nF Z Z h1 Z <| .nF Z Z h1 Z <| .nF Z Z h1 Z <| .p (.pickE Z Z h1 Z) <| .nil <| .cF Z Z <| .exit <| .seq <| .region <| .p (.move Z Z) <| .p (.move Z Z) ?_
  refine .p (.sdropL (i := i) l ut9 Z Z ⟨_, _, Z, Z⟩ (by omega)) ?_
  refine .p (.assign Z Z) <| .nil <| .ret ?_
  have hs : stripZ l = l.drop i := by
    by_cases hi : i < l.length
    · first
      | exact strip_end hi ‹_› g2
      | omega
    · exact strip_all (by omega) g2
  exact ⟨_, _, _, _, rfl, ALe.of false [] 0
      [(0, .S (strOf (stripZ l)))]
      []
      .nil
      (.cons rfl (.litE (by rw [hs])) .nil)
      (by simp), rfl, rfl⟩

theorem Zeros_spec (l : List UInt8) (hl : l.length ≤ 1000000) : FSpec Tryz.prog 96 0 [.S (strOf l)] (hpOf []) (fun r h => r = .N (zerosT l) ∧ h = hpOf []) := by
  refine FSpec.intro Tryz.func96 rfl (nl rfl) (nl rfl) fun s0 w0 hs0 hn0 => ?_
  refine .ws 0 [(0, .S (strOf l))] [] <| .seq <| .region <| .p (.assign Z Z) <| .nil <| .seq <| .region <| .p (.assign Z Z) <| .nil <| .seq <| .block ?_
  refine AWP.loop (G := { g : Nat // g ≤ l.length ∧ g + ((l.reverse.drop g).takeWhile (· == 48)).length = zerosT l }) (fun g => envOf [(0, .S (strOf l)), (3, .N g.1)]) (fun g => hpOf []) (fun _ => 0) (fun g => l.length - g.1) ⟨(0), ⟨by omega, by simp [zerosT]⟩⟩ ALe.s ?_
  rintro ⟨i, hg⟩
  try dsimp only at hg
  obtain ⟨g1, g2⟩ := hg
  refine .ws 0 [(0, .S (strOf l)), (3, .N i)] [] <| .seq <| .seq <| .region <| .p (.move Z Z) <| .p (.move Z Z) <| .p (.lenL l ut9 Z Z Z) <| .p (.ilss Z Z Z) <| .p (.move Z Z) ?_
  by_cases p2 : ((i : Nat) : Int) < ((l.length : Nat) : Int)
  have h1 := decide_eq_true p2
  refine .yT (.move Z Z) Z Z h1 <| .yT (.move Z Z) Z Z h1 <| .yT (.lenL l ut9 Z Z Z) Z Z h1 <| .yT (.isub (r := (((l.length - 1) : Nat) : Int)) Z Z Z (wi (by omega) (by first | rfl | omega | (simp; done)))) Z Z h1 ?_
  refine .yT (.move Z Z) Z Z h1 <| .yT (.isub (r := ((((l.length - 1) - i) : Nat) : Int)) Z Z Z (wi (by omega) (by first | rfl | omega | (simp; done)))) Z Z h1 ?_
  refine .yT (.sindexL (j := ((l.length - 1) - i)) l ut9 Z Z Z Z (by omega)) Z Z h1 ?_
  refine .yT (.ieql Z Z Z) Z Z h1 <| .p (.pickE Z Z h1 Z) <| .nil ?_
  by_cases p4 : (byteAt l ((l.length - 1) - i)) = 48
  have h3 := decide_eq_true p4
  refine .cT Z h3 <| .skip <| .block <| .region <| .p (.move Z Z) <| .p (.iadd (r := (((i + 1) : Nat) : Int)) Z Z Z (wi (by omega) (by first | rfl | omega | (simp; done)))) ?_
  refine .p (.assign Z Z) <| .nil ?_
  have hq : (i + 1) ≤ l.length ∧ (i + 1) + ((l.reverse.drop (i + 1)).takeWhile (· == 48)).length = zerosT l := by
    exact ⟨by omega, zeros_step (by omega) ‹_› g2⟩
  exact ⟨⟨((i + 1)), hq⟩, (by simp; omega), ALe.s⟩
  have h3 := decide_eq_false p4
  refine .cF Z h3 <| .exit <| .seq <| .region <| .p (.move Z Z) <| .p (.assign Z Z) <| .nil <| .ret ?_
  have hs : zerosT l = i := by
    by_cases hi : i < l.length
    · first
      | exact zeros_end hi ‹_› g2
      | omega
    · exact zeros_all (by omega) g2
  exact ⟨_, _, _, _, rfl, ALe.of false [] 0
      [(0, .N (zerosT l))]
      []
      .nil
      (.cons rfl (.litE (by rw [hs])) .nil)
      (by simp), rfl, rfl⟩
  have h1 := decide_eq_false p2
  refine .nF Z Z h1 Z <| .nF Z Z h1 Z <| .nF Z Z h1 Z <| .nF Z Z h1 Z <| .nF Z Z h1 Z <| .nF Z Z h1 Z <| .nF Z Z h1 Z <| .nF Z Z h1 Z <| .p (.pickE Z Z h1 Z) <| .nil <| .cF Z Z <| .exit ?_
  refine .seq <| .region <| .p (.move Z Z) <| .p (.assign Z Z) <| .nil <| .ret ?_
  have hs : zerosT l = i := by
    by_cases hi : i < l.length
    · first
      | exact zeros_end hi ‹_› g2
      | omega
    · exact zeros_all (by omega) g2
  exact ⟨_, _, _, _, rfl, ALe.of false [] 0
      [(0, .N (zerosT l))]
      []
      .nil
      (.cons rfl (.litE (by rw [hs])) .nil)
      (by simp), rfl, rfl⟩
end Go.Abs
namespace Go.Abs
open Go.Proofs
set_option maxRecDepth 100000
set_option maxHeartbeats 8000000

def zv28 : Value := .agg #[.bool false, .string ⟨#[]⟩, .int .i64 0]
theorem zt28 : (Tryz.prog.info? 28).bind (·.zero) = some zv28 := by kernel_rfl
theorem pl28 : placesOf Tryz.prog 28 = some [(0, 1), (1, 1), (2, 1)] := by kernel_rfl

theorem normal_spec (l : List UInt8) (hl : l.length ≤ 100) : FSpec Tryz.prog 81 0 [.B false, .S (strOf l), .I 0] (hpOf []) (fun r h => r = .tup [.agg [.B false, .S (strOf (decD l).1), .N ((decD l).2)], .I 0] ∧ h = hpOf []) := by
  have h1 := stripZ_le l
  have h2 := zerosT_le (stripZ l)
  refine FSpec.intro Tryz.func81 rfl (nl rfl) (nl rfl) fun s0 w0 hs0 hn0 => ?_
  refine .ws 0 [(0, .B false), (1, .S (strOf l)), (2, .I 0)] [] <| .seq <| .region <| .c1 (.alloc 0 Z zt28 Z) <| .p (.assign Z Z) <| .nil <| .seq <| .region <| .p (.move Z Z) <| .p (.call0 [] false (Strip_spec l (by omega)) Tryz.func95 (hv := by exact (.same Z))) ?_
  refine .p (.assign Z Z) <| .nil <| .seq <| .seq <| .region <| .p (.move Z Z) <| .p (.seqlL (stripZ l) [] Z Z Z) <| .nil ?_
  by_cases p2 : (stripZ l) = []
  have h1 := decide_eq_true p2
  refine .cT Z h1 <| .seq <| .region <| .p (.build Z zt28 Z pl28 Z Z) <| .c0 (.store sz28 Z Z Z Z (notup Z) Z Z (nl Z)) <| .p (.assign Z Z) <| .nil <| .ret ?_
  have hd : decD l = if stripZ l = [] then ([], 0) else ((stripZ l).take ((stripZ l).length - zerosT (stripZ l)), zerosT (stripZ l)) := rfl
  first
    | rw [if_pos ‹_›] at hd
    | rw [if_neg ‹_›] at hd
  exact ⟨_, _, _, _, rfl, ALe.of false [] 0
      [(0, .tup [.agg [.B false, .S (strOf (decD l).1), .N ((decD l).2)], .I 0])]
      []
      .nil
      (.cons rfl (.tupL (.cons (.aggL (.cons (.same rfl) (.cons (.litE (by first | rfl | (rw [hd]; done) | (rw [hd]; rfl) | (rw [hd]; simp; done))) (.cons (.litE (by first | rfl | (rw [hd]; done) | (rw [hd]; rfl) | (rw [hd]; simp; done))) .nil)))) (.cons (.same rfl) .nil))) .nil)
      (by simp), rfl, rfl⟩
  have h1 := decide_eq_false p2
  refine .cF Z h1 <| .skip <| .seq <| .region <| .p (.move Z Z) <| .p (.call0 [] false (Zeros_spec (stripZ l) (by omega)) Tryz.func96 (hv := by exact (.same Z))) ?_
  refine .p (.assign Z Z) <| .nil <| .seq <| .region <| .p (.move Z Z) <| .p (.move Z Z) <| .p (.lenL (stripZ l) ut9 Z Z Z) <| .p (.move Z Z) <| .p (.isub (r := ((((stripZ l).length - (zerosT (stripZ l))) : Nat) : Int)) Z Z Z (wi (by omega) (by first | rfl | omega | (simp; done)))) ?_
  refine .p (.stakeL (j := ((stripZ l).length - (zerosT (stripZ l)))) (stripZ l) ut9 Z Z ⟨_, _, Z, Z⟩ (by omega)) ?_
  refine .p (.assign Z Z) <| .nil <| .seq <| .seq <| .region <| .p (.move Z Z) <| .p (.lenL ((stripZ l).take ((stripZ l).length - (zerosT (stripZ l)))) ut9 Z Z Z) <| .p (.igtr Z Z Z) <| .p (.move Z Z) ?_
  have h3 : (decide (120 < ((((stripZ l).take ((stripZ l).length - (zerosT (stripZ l)))).length : Nat) : Int))) = false := decide_eq_false (by first | omega | (simp only [List.length_take, List.length_drop]; omega))
  refine .yF (.move Z Z) Z Z h3 <| .yF ((AOp.igtr Z Z Z).lb Z) Z Z h3 <| .p (.pickE Z Z h3 Z) <| .p (.move Z Z) <| .yF (.move Z Z) Z Z (Eq.refl false) <| .yF (.move Z Z) Z Z (Eq.refl false) <| .yF (.iadd (r := (((0 + (zerosT (stripZ l))) : Nat) : Int)) Z Z Z (wi (by omega) (by first | rfl | omega | (simp; done)))) Z Z (Eq.refl false) ?_
  refine .yF (.igtr Z Z Z) Z Z (Eq.refl false) <| .p (.pick Z Z Z) <| .p (.move Z Z) ?_
  have h4 : (decide (400 < (((0 + (zerosT (stripZ l))) : Nat) : Int))) = false := decide_eq_false (by first | omega | (simp only [List.length_take, List.length_drop]; omega))
  refine .yF (.move Z Z) Z Z h4 <| .yF (.move Z Z) Z Z h4 <| .yF (.iadd (r := (((0 + (zerosT (stripZ l))) : Nat) : Int)) Z Z Z (wi (by omega) (by first | rfl | omega | (simp; done)))) Z Z h4 ?_
  refine .yF (.ilss Z Z Z) Z Z h4 <| .p (.pickE Z Z h4 Z) <| .nil ?_
  have h5 : (decide ((((0 + (zerosT (stripZ l))) : Nat) : Int) < (-400))) = false := decide_eq_false (by first | omega | (simp only [List.length_take, List.length_drop]; omega))
  refine .cF Z h5 <| .skip <| .seq <| .region <| .p (.move Z Z) <| .p (.move Z Z) <| .p (.move Z Z) <| .p (.move Z Z) <| .p (.iadd (r := (((0 + (zerosT (stripZ l))) : Nat) : Int)) Z Z Z (wi (by omega) (by first | rfl | omega | (simp; done)))) ?_
  refine .p (.build Z zt28 Z pl28 Z Z) <| .c0 (.store sz28 Z Z Z Z (notup Z) Z Z (nl Z)) <| .p (.assign Z Z) <| .nil <| .ws 1 [(6, .P 0), (7, .I 0)] [(0, .box [.B false, .S (strOf ((stripZ l).take ((stripZ l).length - (zerosT (stripZ l))))), .N (0 + (zerosT (stripZ l)))])] <| .ret ?_
  have hd : decD l = if stripZ l = [] then ([], 0) else ((stripZ l).take ((stripZ l).length - zerosT (stripZ l)), zerosT (stripZ l)) := rfl
  first
    | rw [if_pos ‹_›] at hd
    | rw [if_neg ‹_›] at hd
  exact ⟨_, _, _, _, rfl, ALe.of false [] 0
      [(0, .tup [.agg [.B false, .S (strOf (decD l).1), .N ((decD l).2)], .I 0])]
      []
      .nil
      (.cons rfl (.tupL (.cons (.aggL (.cons (.same rfl) (.cons (.litE (by first | rfl | (rw [hd]; done) | (rw [hd]; rfl) | (rw [hd]; simp; done))) (.cons (.litE (by first | rfl | (rw [hd]; done) | (rw [hd]; rfl) | (rw [hd]; simp; done))) .nil)))) (.cons (.same rfl) .nil))) .nil)
      (by simp), rfl, rfl⟩

theorem FromInt_spec (n : Nat) (hn : n ≤ 1000000)  : FSpec Tryz.prog 64 0 [.N n] (hpOf []) (fun r h => r = .agg [.B false, .S (strOf (decD (dec n)).1), .N ((decD (dec n)).2)] ∧ h = hpOf []) := by
  have h1 := dec_len hn
  refine FSpec.intro Tryz.func64 rfl (nl rfl) (nl rfl) fun s0 w0 hs0 hn0 => ?_
  refine .ws 0 [(0, .N n)] [] <| .seq <| .region <| .c1 (.alloc 0 Z zt28 Z) <| .nil <| .seq <| .region <| .p (.move Z Z) <| .p (.call0 [] false (dec_spec n (by omega)) Tryz.func79 (hv := by exact (.same Z))) ?_
  refine .p (.assign Z Z) <| .nil <| .seq <| .seq <| .region <| .p (.move Z Z) <| .p (.ilss Z Z Z) <| .nil ?_
  have h1 : (decide (((n : Nat) : Int) < 0)) = false := decide_eq_false (by first | omega | (simp only [List.length_take, List.length_drop]; omega))
  refine .cF Z h1 <| .skip <| .seq <| .region <| .p (.move Z Z) <| .p (.ilss Z Z Z) <| .p (.move Z Z) <| .p (.call0 [] false (normal_spec (dec n) (by omega)) Tryz.func81 (hv := by exact (.same Z))) ?_
  refine .p (.move Z Z) <| .p (.extract Z Z Z) <| .p (.extract Z Z Z) <| .c1 (.alloc 1 Z zt28 Z) <| .c0 (.store sz28 Z Z Z Z (notup Z) Z Z (nl Z)) <| .p (.assign Z Z) <| .nil <| .seq <| .region <| .p (.loadN ag28 sz28 Z Z Z (nl Z)) <| .c0 (.store sz28 Z Z Z Z (notup Z) Z Z (nl Z)) <| .nil ?_
  refine .ret ?_
  exact ⟨_, _, _, _, rfl, ALe.s (l := [(0, .agg [.B false, .S (strOf (decD (dec n)).1), .N ((decD (dec n)).2)])]) (m := []) (nx' := 0), rfl, rfl⟩

theorem Int_spec (n : Nat) (hn : n ≤ 1000000) : FSpec Tryz.prog 35 0 [.N n] (hpOf []) (fun r h => r = .agg (encFr (T.int n)) ∧ h = hpOf []) := by
  refine FSpec.intro Tryz.func35 rfl (nl rfl) (nl rfl) fun s0 w0 hs0 hn0 => ?_
  refine .ws 0 [(0, .N n)] [] <| .seq <| .region <| .c1 (.alloc 0 Z zt35 Z) <| .nil <| .seq <| .region <| .p (.move Z Z) <| .p (.call0 [] false (FromInt_spec n (by omega)) Tryz.func64 (hv := by exact (.same Z))) ?_
  refine .p (.call0 [] false (Num_spec false (strOf (decD (dec n)).1) (((decD (dec n)).2 : Nat) : Int)) Tryz.func63 (hv := by exact (.cons (.aggL (.same Z)) .nil))) ?_
  refine .c0 (.store sz35 Z Z Z Z (notup Z) Z Z (nl Z)) <| .nil <| .ret ?_
  exact ⟨_, _, _, _, rfl, ALe.of false [] 0
      [(0, .agg (encFr (T.int n)))]
      []
      .nil
      (.cons rfl (.aggL (.cons (.litE (by first | rfl | omega | simp)) (.cons (.litE (by first | rfl | omega | simp)) (.cons (.litE (by first | rfl | omega | simp)) (.cons (.litE (by first | rfl | omega | simp)) (.cons (.litE (by first | rfl | omega | simp)) (.cons (.litE (by first | rfl | omega | simp)) (.cons (.litE (by first | rfl | omega | simp)) (.cons (.litE (by first | rfl | omega | simp)) (.cons (.litE (by first | rfl | omega | simp)) (.cons (.litE (by first | rfl | omega | simp)) (.cons (.frE (by first | rfl | simp)) (.cons (.frE (by first | rfl | simp)) (.cons (.frE (by first | rfl | simp)) .nil)))))))))))))) .nil)
      (by simp), rfl, rfl⟩

theorem number_spec (n : Nat) (hn : n ≤ 1000000) : FSpec Tryz.prog 38 0 [.N n] (hpOf []) (fun r h => r = .S (strOf (numL n)) ∧ h = hpOf []) := by
  refine FSpec.intro Tryz.func38 rfl (nl rfl) (nl rfl) fun s0 w0 hs0 hn0 => ?_
  refine .ws 0 [(0, .N n)] [] <| .seq <| .region <| .p (.assign Z Z) <| .nil <| .seq <| .region <| .p (.move Z Z) <| .p (.nrem n 10 Z Z Z Z Z (nl Z) (by omega)) ?_
  refine .p (.move Z Z) <| .p (.nrem n 10 Z Z Z Z Z (nl Z) (by omega)) ?_
  refine .p (.iadd (r := ((((n % 10) + 1) : Nat) : Int)) Z Z Z (wi (by omega) (by first | rfl | omega | (simp; done)))) ?_
  refine .p (.ssliceL (i := (n % 10)) (j := ((n % 10) + 1)) [48, 49, 50, 51, 52, 53, 54, 55, 56, 57] ut9 Z Z ⟨_, _, Z, Z⟩ ⟨_, _, Z, Z⟩ (by first | omega | (simp only [List.length_cons, List.length_nil]; omega)) (by first | omega | (simp only [List.length_cons, List.length_nil]; omega))) ?_
  refine .p (.assign Z Z) <| .nil <| .seq <| .seq <| .region <| .p (.move Z Z) <| .p (.nquo n 10 Z Z Z Z Z (nl Z) (by omega)) ?_
  refine .p (.assign Z Z) <| .nil <| .block ?_
  refine AWP.loop (G := { g : Nat × Nat × List UInt8 // g.2.1 < g.1 ∧ g.2.1 ≤ n ∧ g.2.2.length ≤ n + 2 - g.1 ∧ g.1 ≤ n + 1 ∧ decL g.1 g.2.1 g.2.2 = numL n }) (fun g => envOf [(0, .N g.1.2.1), (3, .S (strOf g.1.2.2))]) (fun g => hpOf []) (fun _ => 0) (fun g => g.1.2.1) ⟨((n + 1), (n / 10), [UInt8.ofNat (48 + n % 10)]), numL_start n⟩ (ALe.of false [] 0
      _
      _
      .nil
      (.s (.cons rfl (.litE (by first | rfl | (rw [digit_at]))) .nil))
      (by simp)) ?_
  rintro ⟨⟨f, m, l⟩, hg⟩
  try dsimp only at hg
  obtain ⟨g1, g2, g3, g4, g5⟩ := hg
  refine .ws 0 [(0, .N m), (3, .S (strOf l))] [] <| .seq <| .seq <| .region <| .p (.move Z Z) <| .p (.igtr Z Z Z) <| .nil ?_
  by_cases p2 : 0 < ((m : Nat) : Int)
  have h1 := decide_eq_true p2
  refine .cT Z h1 <| .skip <| .seq <| .block <| .region <| .p (.move Z Z) <| .p (.nrem m 10 Z Z Z Z Z (nl Z) (by omega)) ?_
  refine .p (.move Z Z) <| .p (.nrem m 10 Z Z Z Z Z (nl Z) (by omega)) ?_
  refine .p (.iadd (r := ((((m % 10) + 1) : Nat) : Int)) Z Z Z (wi (by omega) (by first | rfl | omega | (simp; done)))) ?_
  refine .p (.ssliceL (i := (m % 10)) (j := ((m % 10) + 1)) [48, 49, 50, 51, 52, 53, 54, 55, 56, 57] ut9 Z Z ⟨_, _, Z, Z⟩ ⟨_, _, Z, Z⟩ (by first | omega | (simp only [List.length_cons, List.length_nil]; omega)) (by first | omega | (simp only [List.length_cons, List.length_nil]; omega))) ?_
  refine .p (.move Z Z) <| .p (.saddL (([48, 49, 50, 51, 52, 53, 54, 55, 56, 57].drop (m % 10)).take (((m % 10) + 1) - (m % 10))) l Z Z Z (by simp only [List.length_cons, List.length_nil, List.length_take, List.length_drop]; omega)) ?_
  refine .p (.assign Z Z) <| .nil <| .region <| .p (.move Z Z) <| .p (.nquo m 10 Z Z Z Z Z (nl Z) (by omega)) ?_
  refine .p (.assign Z Z) <| .nil ?_
  have hq : (m / 10) < (f - 1) ∧ (m / 10) ≤ n ∧ (UInt8.ofNat (48 + m % 10) :: l).length ≤ n + 2 - (f - 1) ∧ (f - 1) ≤ n + 1 ∧ decL (f - 1) (m / 10) (UInt8.ofNat (48 + m % 10) :: l) = numL n := by
    obtain ⟨f, rfl⟩ : ∃ f1, f = f1 + 1 := ⟨f - 1, by omega⟩
    refine ⟨by omega, by omega, by simp only [List.length_cons]; omega, by omega, ?_⟩
    rw [← g5, decL, if_neg (by omega)]; rfl
  exact ⟨⟨((f - 1), (m / 10), (UInt8.ofNat (48 + m % 10) :: l)), hq⟩, (by simp; omega), (ALe.of false [] 0
      _
      _
      .nil
      (.s (.cons rfl (.litE (by first | rfl | (rw [digit_at]; rfl))) .nil))
      (by simp))⟩
  have h1 := decide_eq_false p2
  refine .cF Z h1 <| .exit <| .seq <| .region <| .p (.move Z Z) <| .p (.assign Z Z) <| .nil <| .ret ?_
  have hm : m = 0 := by omega
  have hd : l = numL n := by
    obtain ⟨f, rfl⟩ : ∃ f1, f = f1 + 1 := ⟨f - 1, by omega⟩
    rw [← g5, decL, if_pos hm]
  exact ⟨_, _, _, _, rfl, ALe.of false [] 0
      [(0, .S (strOf (numL n)))]
      []
      .nil
      (.cons rfl (.litE (by rw [hd])) .nil)
      (by simp), rfl, rfl⟩
end Go.Abs
namespace Go.Abs
open Go.Proofs
set_option maxRecDepth 100000
set_option maxHeartbeats 8000000

theorem fo24_0 : fieldOff Tryz.prog 24 0 = some 0 := by kernel_rfl
theorem ag22 : isAggT Tryz.prog 22 = some false := by kernel_rfl
theorem us22 : (Tryz.prog.underlying 22).isSome = true := by kernel_rfl
theorem ut3 : Tryz.prog.underlying 3 = some (.int .i64) := by kernel_rfl
theorem fo24_1 : fieldOff Tryz.prog 24 1 = some 1 := by kernel_rfl
theorem fo24_2 : fieldOff Tryz.prog 24 2 = some 2 := by kernel_rfl
def zv66 : Value := .agg #[.int .i64 0, .int .i64 0]
theorem zt66 : (Tryz.prog.info? 66).bind (·.zero) = some zv66 := by kernel_rfl
theorem ut25 : Tryz.prog.underlying 25 = some (.array 3 22) := by kernel_rfl
theorem sz22 : (Tryz.prog.info? 22).map (·.size) = some 1 := by kernel_rfl
theorem pl66 : placesOf Tryz.prog 66 = some [(0, 1), (1, 1)] := by kernel_rfl
theorem sz66 : (Tryz.prog.info? 66).map (·.size) = some 2 := by kernel_rfl
def zv72 : Value := .agg #[.string ⟨#[]⟩, .int .i64 0, .bool false, .bool false, .string ⟨#[]⟩, .int .i64 0, .int .i64 0, .int .i64 0, .int .i64 0, .int .i64 0, .string ⟨#[]⟩, .slice none 0 0, .slice none 0 0, .slice none 0 0]
theorem zt72 : (Tryz.prog.info? 72).bind (·.zero) = some zv72 := by kernel_rfl
theorem pl72 : placesOf Tryz.prog 72 = some [(0, 1), (1, 13)] := by kernel_rfl
theorem ut33 : Tryz.prog.underlying 33 = some (.slice 72) := by kernel_rfl
theorem sz72 : (Tryz.prog.info? 72).map (·.size) = some 14 := by kernel_rfl
theorem ag24 : isAggT Tryz.prog 24 = some true := by kernel_rfl
theorem sz24 : (Tryz.prog.info? 24).map (·.size) = some 3 := by kernel_rfl
theorem ut32 : Tryz.prog.underlying 32 = some (.slice 35) := by kernel_rfl

theorem at_spec (u : Ru) (i : Nat) (hu : u.ok) (hi : i ≤ 1000) : FSpec Tryz.prog 13 0 [.agg [.lit (.int .u16 ((u.mul : Nat) : Int)), .lit (.int .u16 ((u.add : Nat) : Int)), .lit (.int .u16 ((u.md : Nat) : Int))], .N i] (hpOf []) (fun r h => r = .N (u.at i) ∧ h = hpOf []) := by
  obtain ⟨h1, h2, h3⟩ := hu
  have h4 := mul_le' h1 hi
  refine FSpec.intro Tryz.func13 rfl (nl rfl) (nl rfl) fun s0 w0 hs0 hn0 => ?_
  refine .ws 0 [(0, .agg [.lit (.int .u16 ((u.mul : Nat) : Int)), .lit (.int .u16 ((u.add : Nat) : Int)), .lit (.int .u16 ((u.md : Nat) : Int))]), (1, .N i)] [] <| .seq <| .region <| .c1 (.box 0 Z Z (notup Z)) <| .p (.assign Z Z) <| .nil <| .seq <| .region <| .p (.faddr fo24_0 Z Z) <| .p (.load1 ag22 Z Z Z Z) <| .p (.cint (r := ((u.mul : Nat) : Int)) us22 ut3 Z Z (wi (by omega) Z)) ?_
  refine .p (.move Z Z) <| .p (.imul (r := (((u.mul * i) : Nat) : Int)) Z Z Z (wi (by omega) (by first | rfl | omega | (simp; done)))) ?_
  refine .p (.faddr fo24_1 Z Z) <| .p (.load1 ag22 Z Z Z Z) <| .p (.cint (r := ((u.add : Nat) : Int)) us22 ut3 Z Z (wi (by omega) Z)) ?_
  refine .p (.iadd (r := ((((u.mul * i) + u.add) : Nat) : Int)) Z Z Z (wi (by omega) (by first | rfl | omega | (simp; done)))) ?_
  refine .p (.faddr fo24_2 Z Z) <| .p (.load1 ag22 Z Z Z Z) <| .p (.cint (r := ((u.md : Nat) : Int)) us22 ut3 Z Z (wi (by omega) Z)) ?_
  refine .p (.iadd (r := (((u.md + 1) : Nat) : Int)) Z Z Z (wi (by omega) (by first | rfl | omega | (simp; done)))) ?_
  refine .p (.nrem ((u.mul * i) + u.add) (u.md + 1) Z Z Z Z Z (by omega) (by omega)) ?_
  refine .p (.assign Z Z) <| .nil <| .ret ?_
  exact ⟨_, _, _, _, rfl, ALe.of false [] 0
      [(0, .N (u.at i))]
      []
      .nil
      (.cons rfl (.litE (by first | rfl | omega | simp)) .nil)
      (by simp), rfl, rfl⟩

theorem deed_spec (m : Mk) (i : Nat) (hm : m.ok) (hi : i ≤ 1000) : FSpec Tryz.prog 19 0 [.N i, .agg [.lit (.int .u16 ((m.a : Nat) : Int)), .lit (.int .u16 ((m.b : Nat) : Int)), .lit (.int .u16 ((m.c : Nat) : Int))]] (hpOf []) (fun r h => r = .agg [.N ((m.deed i).1), .N ((m.deed i).2)] ∧ h = hpOf []) := by
  obtain ⟨h1, h2, h3⟩ := hm
  have h4 := mul_le' hi hi
  have h5 := mul_le' h4 h1
  have h6 := mul_le' hi h2
  refine FSpec.intro Tryz.func19 rfl (nl rfl) (nl rfl) fun s0 w0 hs0 hn0 => ?_
  refine .ws 0 [(0, .N i), (1, .agg [.lit (.int .u16 ((m.a : Nat) : Int)), .lit (.int .u16 ((m.b : Nat) : Int)), .lit (.int .u16 ((m.c : Nat) : Int))])] [] <| .seq <| .region <| .c1 (.box 0 Z Z (notup Z)) <| .c1 (.alloc 1 Z zt66 Z) <| .nil <| .seq <| .region <| .p (.move Z Z) <| .p (.move Z Z) <| .p (.imul (r := (((i * i) : Nat) : Int)) Z Z Z (wi (by omega) (by first | rfl | omega | (simp; done)))) ?_
  refine .p (.iaddr_arr ut25 sz22 Z Z Z Z (nl Z)) <| .p (.load1 ag22 Z Z Z Z) <| .p (.cint (r := ((m.a : Nat) : Int)) us22 ut3 Z Z (wi (by omega) Z)) ?_
  refine .p (.imul (r := ((((i * i) * m.a) : Nat) : Int)) Z Z Z (wi (by omega) (by first | rfl | omega | (simp; done)))) ?_
  refine .p (.move Z Z) <| .p (.iaddr_arr ut25 sz22 Z Z Z Z (nl Z)) <| .p (.load1 ag22 Z Z Z Z) <| .p (.cint (r := ((m.b : Nat) : Int)) us22 ut3 Z Z (wi (by omega) Z)) ?_
  refine .p (.imul (r := (((i * m.b) : Nat) : Int)) Z Z Z (wi (by omega) (by first | rfl | omega | (simp; done)))) ?_
  refine .p (.iadd (r := (((((i * i) * m.a) + (i * m.b)) : Nat) : Int)) Z Z Z (wi (by omega) (by first | rfl | omega | (simp; done)))) ?_
  refine .p (.iaddr_arr ut25 sz22 Z Z Z Z (nl Z)) <| .p (.load1 ag22 Z Z Z Z) <| .p (.cint (r := ((m.c : Nat) : Int)) us22 ut3 Z Z (wi (by omega) Z)) ?_
  refine .p (.iadd (r := ((((((i * i) * m.a) + (i * m.b)) + m.c) : Nat) : Int)) Z Z Z (wi (by omega) (by first | rfl | omega | (simp; done)))) ?_
  refine .p (.nquo ((((i * i) * m.a) + (i * m.b)) + m.c) 7 Z Z Z Z Z (nl Z) (by omega)) ?_
  refine .p (.nrem (((((i * i) * m.a) + (i * m.b)) + m.c) / 7) 25 Z Z Z Z Z (nl Z) (by omega)) ?_
  refine .p (.assign Z Z) <| .nil <| .seq <| .region <| .p (.move Z Z) <| .p (.nrem ((((((i * i) * m.a) + (i * m.b)) + m.c) / 7) % 25) 5 Z Z Z Z Z (nl Z) (by omega)) ?_
  refine .p (.move Z Z) <| .p (.nquo ((((((i * i) * m.a) + (i * m.b)) + m.c) / 7) % 25) 5 Z Z Z Z Z (nl Z) (by omega)) ?_
  refine .p (.build Z zt66 Z pl66 Z Z) <| .c0 (.store sz66 Z Z Z Z (notup Z) Z Z (nl Z)) <| .nil <| .ret ?_
  exact ⟨_, _, _, _, rfl, ALe.of false [] 0
      [(0, .agg [.N ((m.deed i).1), .N ((m.deed i).2)])]
      []
      .nil
      (.cons rfl (.aggL (.cons (.litE (by first | rfl | omega | simp)) (.cons (.litE (by first | rfl | omega | simp)) .nil))) .nil)
      (by simp), rfl, rfl⟩

theorem part_spec (v i side : Nat) (ch : Bool) (hv : v ≤ 999) (hi : i ≤ 1000) (hs : side ≤ 2) : FSpec Tryz.prog 37 0 [.N v, .N i, .N side, .B ch] (hpOf []) (fun r h => r = .N (partF v i side ch) ∧ h = hpOf []) := by
  have h4 := mul_le' (show i % 2 ≤ 1 by omega) hs
  refine FSpec.intro Tryz.func37 rfl (nl rfl) (nl rfl) fun s0 w0 hs0 hn0 => ?_
  refine .ws 0 [(0, .N v), (1, .N i), (2, .N side), (3, .B ch)] [] <| .seq <| .region <| .p (.assign Z Z) <| .nil <| .seq <| .seq <| .region <| .p (.move Z Z) <| .p (.not Z Z) <| .nil ?_
  rcases Bool.eq_false_or_eq_true ch with h1 | h1
  refine .cF Z (bnot h1) <| .skip <| .seq <| .region <| .p (.move Z Z) <| .p (.iadd (r := (((v + 1000) : Nat) : Int)) Z Z Z (wi (by omega) (by first | rfl | omega | (simp; done)))) ?_
  refine .p (.move Z Z) <| .p (.nrem i 2 Z Z Z Z Z (nl Z) (by omega)) ?_
  refine .p (.move Z Z) <| .p (.imul (r := ((((i % 2) * side) : Nat) : Int)) Z Z Z (wi (by omega) (by first | rfl | omega | (simp; done)))) ?_
  refine .p (.iadd (r := ((((v + 1000) + ((i % 2) * side)) : Nat) : Int)) Z Z Z (wi (by omega) (by first | rfl | omega | (simp; done)))) ?_
  refine .p (.assign Z Z) <| .nil <| .ret ?_
  exact ⟨_, _, _, _, rfl, ALe.of false [] 0
      [(0, .N (partF v i side ch))]
      []
      .nil
      (.cons rfl (.litE (by simp [partF, *])) .nil)
      (by simp), rfl, rfl⟩
  refine .cT Z (bnot h1) <| .seq <| .region <| .p (.move Z Z) <| .p (.assign Z Z) <| .nil <| .ret ?_
  exact ⟨_, _, _, _, rfl, ALe.of false [] 0
      [(0, .N (partF v i side ch))]
      []
      .nil
      (.cons rfl (.litE (by simp [partF, *])) .nil)
      (by simp), rfl, rfl⟩

theorem pair_spec (x y : Nat) (hx : x ≤ 1000000) (hy : y ≤ 1000000) : FSpec Tryz.prog 36 0 [.N x, .N y] (hpOf []) (fun r h => r = .agg (encFr (pairT x y)) ∧ h = hpOf []) := by
  refine FSpec.intro Tryz.func36 rfl (nl rfl) (nl rfl) fun s0 w0 hs0 hn0 => ?_
  refine .ws 0 [(0, .N x), (1, .N y)] [] <| .seq <| .region <| .c1 (.alloc 0 Z zt35 Z) <| .nil <| .seq <| .region <| .p (.move Z Z) <| .p (.call0 [] false (Int_spec x (by omega)) Tryz.func35 (hv := by exact (.same Z))) ?_
  refine .p (.build Z zt72 Z pl72 Z Z) <| .p (.move Z Z) <| .p (.call0 [] false (Int_spec y (by omega)) Tryz.func35 (hv := by exact (.same Z))) ?_
  refine .p (.build Z zt72 Z pl72 Z Z) <| .c1 (.buildSlice 1 true [([.S ⟨#[120]⟩] ++ encX (T.int x)), ([.S ⟨#[121]⟩] ++ encX (T.int y))] ut33 sz72 zt72 Z Z (by decide) (by decide) Z Z Z Z Z Z Z) ?_
  refine .p (.build Z zt35 Z pl35 Z Z) <| .c0 (.store sz35 Z Z Z Z (notup Z) Z Z (nl Z)) <| .nil <| .ret ?_
  exact ⟨_, _, _, _, rfl, ALe.of true [] 0
      [(0, .agg (encFr (pairT x y)))]
      []
      .nil
      (.cons rfl (.aggL (.cons (.litE (by first | rfl | omega | simp)) (.cons (.litE (by first | rfl | omega | simp)) (.cons (.litE (by first | rfl | omega | simp)) (.cons (.litE (by first | rfl | omega | simp)) (.cons (.litE (by first | rfl | omega | simp)) (.cons (.litE (by first | rfl | omega | simp)) (.cons (.litE (by first | rfl | omega | simp)) (.cons (.litE (by first | rfl | omega | simp)) (.cons (.litE (by first | rfl | omega | simp)) (.cons (.litE (by first | rfl | omega | simp)) (.cons (.nilFr rfl) (.cons (.nilFr rfl) (.cons (.freezeFR (els := [([.S ⟨#[120]⟩] ++ encX (T.int x)), ([.S ⟨#[121]⟩] ++ encX (T.int y))]) (by first | rfl | simp) (by first | rfl | simp [encF, enc])) .nil)))))))))))))) .nil)
      (fun _ => ⟨hn0, hs0⟩), rfl, rfl⟩

theorem one_spec : FSpec Tryz.prog 22 0 [] (hpOf []) (fun r h => r = .agg (encFr oneT) ∧ h = hpOf []) := by
  refine FSpec.intro Tryz.func22 rfl (nl rfl) (nl rfl) fun s0 w0 hs0 hn0 => ?_
  refine .ws 0 [] [] <| .seq <| .region <| .c1 (.alloc 0 Z zt35 Z) <| .nil <| .seq <| .region <| .p (.build Z zt28 Z pl28 Z Z) <| .p (.build Z zt35 Z pl35 Z Z) <| .c0 (.store sz35 Z Z Z Z (notup Z) Z Z (nl Z)) <| .nil <| .ret ?_
  exact ⟨_, _, _, _, rfl, ALe.of false [] 0
      [(0, .agg (encFr oneT))]
      []
      .nil
      (.cons rfl (.aggL (.cons (.litE (by first | rfl | omega | simp)) (.cons (.litE (by first | rfl | omega | simp)) (.cons (.litE (by first | rfl | omega | simp)) (.cons (.litE (by first | rfl | omega | simp)) (.cons (.litE (by first | rfl | omega | simp)) (.cons (.litE (by first | rfl | omega | simp)) (.cons (.litE (by first | rfl | omega | simp)) (.cons (.litE (by first | rfl | omega | simp)) (.cons (.litE (by first | rfl | omega | simp)) (.cons (.litE (by first | rfl | omega | simp)) (.cons (.nilFr rfl) (.cons (.nilFr rfl) (.cons (.nilFr rfl) .nil)))))))))))))) .nil)
      (by simp), rfl, rfl⟩

theorem key_spec (i : Nat) (hi : i ≤ 1000) : FSpec Tryz.prog 21 0 [.N i] (hpOf []) (fun r h => r = .S (strOf (keyL i)) ∧ h = hpOf []) := by
  have h1 := numL_len (show i ≤ 1000000 by omega)
  refine FSpec.intro Tryz.func21 rfl (nl rfl) (nl rfl) fun s0 w0 hs0 hn0 => ?_
  refine .ws 0 [(0, .N i)] [] <| .seq <| .region <| .p (.assign Z Z) <| .nil <| .seq <| .region <| .p (.move Z Z) <| .p (.call0 [] false (number_spec i (by omega)) Tryz.func38 (hv := by exact (.same Z))) ?_
  refine .p (.saddL [107] (numL i) Z Z Z (by simp only [List.length_cons, List.length_nil]; omega)) ?_
  refine .p (.assign Z Z) <| .nil <| .ret ?_
  exact ⟨_, _, _, _, rfl, ALe.of false [] 0
      [(0, .S (strOf (keyL i)))]
      []
      .nil
      (.cons rfl (.litE (by first | rfl | omega | simp)) .nil)
      (by simp), rfl, rfl⟩

theorem side_spec (u : Ru) (i side what : Nat) (hu : u.ok) (hi : i ≤ 1000) (hs : side ≤ 2) (hw : what ≤ 4) : FSpec Tryz.prog 20 0 [.agg [.lit (.int .u16 ((u.mul : Nat) : Int)), .lit (.int .u16 ((u.add : Nat) : Int)), .lit (.int .u16 ((u.md : Nat) : Int))], .N i, .N side, .N what] (hpOf []) (fun r h => r = .fr (.ro 13 (encL (sideL u i side what))) ∧ h = hpOf []) := by
  have h4 := Ru.at_le hu i
  refine FSpec.intro Tryz.func20 rfl (nl rfl) (nl rfl) fun s0 w0 hs0 hn0 => ?_
  refine .ws 0 [(0, .agg [.lit (.int .u16 ((u.mul : Nat) : Int)), .lit (.int .u16 ((u.add : Nat) : Int)), .lit (.int .u16 ((u.md : Nat) : Int))]), (1, .N i), (2, .N side), (3, .N what)] [] <| .seq <| .region <| .c1 (.box 0 Z Z (notup Z)) <| .p (.assign Z Z) <| .nil <| .seq <| .seq <| .region <| .p (.move Z Z) <| .p (.ieql Z Z Z) <| .nil ?_
  by_cases p2 : ((what : Nat) : Int) = 4
  have h1 := decide_eq_true p2
  refine .cT Z h1 <| .seq <| .region <| .p (.assign Z Z) <| .nil <| .ret ?_
  exact ⟨_, _, _, _, rfl, ALe.of true [] 0
      [(0, .fr (.ro 13 (encL (sideL u i side what))))]
      []
      .nil
      (.cons rfl (.nilFr (by unfold sideL; rw [if_pos (by omega)]; rfl)) .nil)
      (fun _ => ⟨hn0, hs0⟩), rfl, rfl⟩
  have h1 := decide_eq_false p2
  refine .cF Z h1 <| .skip <| .seq <| .region <| .p (.loadN ag24 sz24 Z Z Z (nl Z)) <| .p (.move Z Z) <| .p (.call0 [] false (at_spec u i hu (by omega)) Tryz.func13 (hv := by exact (.cons (.aggL (.same Z)) (.cons (.same Z) .nil)))) ?_
  refine .p (.nrem (u.at i) 1000 Z Z Z Z Z (nl Z) (by omega)) ?_
  refine .p (.assign Z Z) <| .nil <| .seq <| .region <| .p (.move Z Z) <| .p (.move Z Z) <| .p (.move Z Z) <| .p (.move Z Z) <| .p (.nrem what 2 Z Z Z Z Z (nl Z) (by omega)) ?_
  refine .p (.ieql Z Z Z) <| .p (.call0 [] false (part_spec ((u.at i) % 1000) i side (decide ((((what % 2) : Nat) : Int) = 1)) (by omega) (by omega) (by omega)) Tryz.func37 (hv := by exact (.same Z))) ?_
  refine .p (.move Z Z) <| .p (.move Z Z) <| .p (.move Z Z) <| .p (.move Z Z) <| .p (.nquo what 2 Z Z Z Z Z (nl Z) (by omega)) ?_
  refine .p (.ieql Z Z Z) <| .p (.call0 [] false (part_spec ((u.at i) % 1000) i side (decide ((((what / 2) : Nat) : Int) = 1)) (by omega) (by omega) (by omega)) Tryz.func37 (hv := by exact (.same Z))) ?_
  refine .p (.call0 [] false (pair_spec (partF ((u.at i) % 1000) i side (decide ((((what % 2) : Nat) : Int) = 1))) (partF ((u.at i) % 1000) i side (decide ((((what / 2) : Nat) : Int) = 1))) (by have := @partF_le; first | omega | (apply Nat.le_trans (partF_le (by omega) (by omega)); omega)) (by first | omega | (apply Nat.le_trans (partF_le (by omega) (by omega)); omega))) Tryz.func36 (hv := by exact (.same Z))) ?_
  refine .c1 (.buildSlice 1 true [(encX (pairT (partF ((u.at i) % 1000) i side (decide ((((what % 2) : Nat) : Int) = 1))) (partF ((u.at i) % 1000) i side (decide ((((what / 2) : Nat) : Int) = 1)))))] ut32 sz35 zt35 Z Z (by decide) (by decide) Z Z Z Z Z Z Z) ?_
  refine .p (.assign Z Z) <| .nil <| .ret ?_
  exact ⟨_, _, _, _, rfl, ALe.of true [] 0
      [(0, .fr (.ro 13 (encL (sideL u i side what))))]
      []
      .nil
      (.cons rfl (.freezeFR (els := [(encX (pairT (partF ((u.at i) % 1000) i side (decide ((((what % 2) : Nat) : Int) = 1))) (partF ((u.at i) % 1000) i side (decide ((((what / 2) : Nat) : Int) = 1)))))]) (by first | rfl | simp) (by unfold sideL; rw [if_neg (by omega)]; first | rfl | simp [encL, enc, sideT])) .nil)
      (fun _ => ⟨hn0, hs0⟩), rfl, rfl⟩
end Go.Abs
namespace Go.Abs
open Go.Proofs
set_option maxRecDepth 100000
set_option maxHeartbeats 8000000

theorem el31 : ElT Tryz.prog 31 5 1 1 := ⟨by kernel_rfl, by kernel_rfl, by decide⟩

theorem CloneB_spec (l : List UInt8) (hl : l.length ≤ 1000000) : FSpec Tryz.prog 72 0 [.ro 1 (encB l)] (hpOf []) (fun r h => r = .fr (.ro 1 (encB l)) ∧ h = hpOf []) := by
  refine FSpec.intro Tryz.func72 rfl (nl rfl) (nl rfl) fun s0 w0 hs0 hn0 => ?_
  refine .ws 0 [(0, .ro 1 (encB l))] [] <| .seq <| .region <| .p (.assign Z Z) <| .nil <| .seq <| .seq <| .region <| .p (.move Z Z) ?_
  refine ASeq.nilCmp (av := .ro 1 (encB l)) ut31 (fun b1 hn2 => ?_)
  refine .nil ?_
  rcases Bool.eq_false_or_eq_true b1 with h3 | h3
  refine .cT Z h3 <| .seq <| .region <| .p (.assign Z Z) <| .nil <| .ret ?_
  exact ⟨_, _, _, _, rfl, ALe.of true [] 0
      [(0, .fr (.ro 1 (encB l)))]
      []
      .nil
      (.cons rfl (.nilFr (by have := ‹_ → AV.nilRows _› ‹_›; exact this)) .nil)
      (fun _ => ⟨hn0, hs0⟩), rfl, rfl⟩
  refine .cF Z h3 <| .skip <| .seq <| .region <| .c1 (.buildEmpty 0 true ut31 sz5 Z) <| .p (.move Z Z) <| .c1 (.appendN (n2 := (0 + l.length)) 1 el31 Z Z Z Z (.roL Z (encB_lit l)) (by simp; omega) (by simp; omega) (by first | rfl | (simp; done) | (simp; omega))) ?_
  refine .p (.assign Z Z) <| .nil <| .ret ?_
  exact ⟨_, _, _, _, rfl, ALe.of true [] 0
      [(0, .fr (.ro 1 (encB l)))]
      []
      .nil
      (.cons rfl (.freezeFR (els := ([] ++ (encB l))) (by simp) (by simp)) .nil)
      (fun _ => ⟨hn0, hs0⟩), rfl, rfl⟩
end Go.Abs
namespace Go.Abs
open Go.Proofs
set_option maxRecDepth 100000
set_option maxHeartbeats 8000000

theorem fo35_5 : fieldOff Tryz.prog 35 5 = some 10 := by kernel_rfl
theorem ag31 : isAggT Tryz.prog 31 = some false := by kernel_rfl
theorem sz31 : (Tryz.prog.info? 31).map (·.size) = some 1 := by kernel_rfl
theorem fo35_6 : fieldOff Tryz.prog 35 6 = some 11 := by kernel_rfl
theorem ag32 : isAggT Tryz.prog 32 = some false := by kernel_rfl
theorem ag35 : isAggT Tryz.prog 35 = some true := by kernel_rfl
theorem el32 : ElT Tryz.prog 32 35 13 168 := ⟨by kernel_rfl, by kernel_rfl, by decide⟩
theorem fo35_7 : fieldOff Tryz.prog 35 7 = some 12 := by kernel_rfl
theorem ag33 : isAggT Tryz.prog 33 = some false := by kernel_rfl
theorem ag72 : isAggT Tryz.prog 72 = some true := by kernel_rfl
def an52_15 : List Nat := [0, 0, 2, 0, 8, 0, 32, 120, 254, 510, 1023, 2047]
theorem fol : Tryz.prog.follows .mixedOrders = true := by kernel_rfl
theorem fo72_0 : fieldOff Tryz.prog 72 0 = some 0 := by kernel_rfl
theorem ag9 : isAggT Tryz.prog 9 = some false := by kernel_rfl
theorem fo72_1 : fieldOff Tryz.prog 72 1 = some 1 := by kernel_rfl
theorem el33 : ElT Tryz.prog 33 72 14 184 := ⟨by kernel_rfl, by kernel_rfl, by decide⟩
theorem sz32 : (Tryz.prog.info? 32).map (·.size) = some 1 := by kernel_rfl
theorem sz33 : (Tryz.prog.info? 33).map (·.size) = some 1 := by kernel_rfl

theorem copied_spec : ∀ (d : Nat) (t : T) (left : Nat), T.ok d t → d ≤ left → left ≤ 65536 → FSpec Tryz.prog 52 0 [.agg (encX t), .N left] (hpOf []) (fun r h => r = .agg (encFr t) ∧ h = hpOf []) := by
  intro d
  induction d with
  | zero => intro t left h; exact absurd h id
  | succ d ih =>
  intro t left hok h1 h2
  have hb := hok.1
  have hl := hok.2.1
  have hf := hok.2.2.1
  refine FSpec.intro Tryz.func52 rfl (nl rfl) (nl rfl) fun s0 w0 hs0 hn0 => ?_
  refine .ws 0 [(0, .agg (encX t)), (1, .N left)] [] <| .seq <| .region <| .c1 (.box 0 Z Z (notup Z)) <| .c1 (.alloc 1 Z zt35 Z) <| .nil <| .seq <| .region <| .p (.faddr fo35_5 Z Z) <| .p (.load1 ag31 Z Z Z Z) <| .p (.call0 [] false (CloneB_spec t.bytes (by omega)) Tryz.func72 (hv := by exact (.same Z))) ?_
  refine .p (.faddr fo35_5 Z Z) <| .c0 (.store sz31 Z Z Z Z (notup Z) Z Z (nl Z)) <| .nil <| .seq <| .seq <| .region <| .p (.move Z Z) <| .p (.ilss Z Z Z) <| .nil ?_
  have h1 : (decide (((left : Nat) : Int) < 1)) = false := decide_eq_false (by first | omega | (simp only [List.length_take, List.length_drop]; omega))
  refine .cF Z h1 <| .skip <| .seq <| .region <| .p (.assign Z Z) <| .nil <| .seq <| .seq <| .region <| .p (.faddr fo35_6 Z Z) <| .p (.load1 ag32 Z Z Z Z) <| .p (.len_ro (n := t.list.length) ut32 Z (.inl Z) (by simp)) ?_
  refine .p (.move Z Z) <| .nil <| .block <| .openNil 5 13 true ?_
  refine AWP.loop (G := { g : Nat // g ≤ t.list.length }) (fun g => envOf [(1, .N left), (2, .P 0), (4, .P 1), (5, .sl 2 13 0 g.1), (21, .ro 13 (encL t.list)), (22, .N t.list.length), (23, .N g.1)]) (fun g => hpOf [(0, .box [.I t.kind, .B t.b, .B t.neg, .S t.digits, .I t.exp, .I t.tk, .I t.td, .I t.tn, .I t.tz, .S t.text, .fr (.ro 1 (encB t.bytes)), .ro 13 (encL t.list), .ro 14 (encF t.fields)]), (1, .box [.I 0, .B false, .B false, .S ⟨#[]⟩, .I 0, .I 0, .I 0, .I 0, .I 0, .S ⟨#[]⟩, .O, .O, .O]), (2, .arr true 13 (encL (t.list.take g.1)))]) (fun _ => 3) (fun g => t.list.length - g.1) ⟨(0), Nat.zero_le _⟩ (ALe.of false [] 3
      _
      _
      (.cons rfl (.boxS rfl) (.cons rfl (.boxS rfl) (.cons rfl (.arr (by rfl)) .nil)))
      (.s (.cons rfl .ptrR (.cons rfl .ptrR (.cons rfl .slR (.s (.s (.s .nil)))))))
      (by simp)) ?_
  rintro ⟨i, hg⟩
  try dsimp only at hg
  refine .ws 3 [(1, .N left), (2, .P 0), (4, .P 1), (5, .sl 2 13 0 i), (21, .ro 13 (encL t.list)), (22, .N t.list.length), (23, .N i)] [(0, .box [.I t.kind, .B t.b, .B t.neg, .S t.digits, .I t.exp, .I t.tk, .I t.td, .I t.tn, .I t.tz, .S t.text, .fr (.ro 1 (encB t.bytes)), .ro 13 (encL t.list), .ro 14 (encF t.fields)]), (1, .box [.I 0, .B false, .B false, .S ⟨#[]⟩, .I 0, .I 0, .I 0, .I 0, .I 0, .S ⟨#[]⟩, .O, .O, .O]), (2, .arr true 13 (encL (t.list.take i)))] <| .seq <| .region <| .p (.ilss Z Z Z) <| .nil <| .seq ?_
  by_cases p3 : ((i : Nat) : Int) < ((t.list.length : Nat) : Int)
  have h2 := decide_eq_true p3
  refine .cT Z h2 <| .skip <| .seq <| .block <| .seq <| .region <| .p (.iaddr_ro (row := (encX (nthT t.list i))) ut32 sz35 Z Z Z Z (encL_nth (by omega))) ?_
  refine .p (.rloadN ag35 sz35 Z Z (nl Z)) <| .c1 (.alloc 3 Z zt35 Z) <| .c0 (.store sz35 Z Z Z Z (notup Z) Z Z (nl Z)) <| .nil <| .region <| .p (.move Z Z) <| .p (.loadN ag35 sz35 Z Z Z (nl Z)) <| .p (.move Z Z) <| .p (.isub (r := (((left - 1) : Nat) : Int)) Z Z Z (wi (by omega) (by first | rfl | omega | (simp; done)))) ?_
  refine .p (.call0 [] false (ih (nthT t.list i) (left - 1) (hok.2.2.2.1 _ (nthT_mem (by omega))) (by omega) (by omega)) Tryz.func52 (hv := by exact (.cons (.aggL (.same Z)) (.cons (.same Z) .nil)))) ?_
  refine .c1 (.buildSlice 4 true [(encX (nthT t.list i))] ut32 sz35 zt35 Z Z (by decide) (by decide) Z Z Z Z Z Z Z) ?_
  refine .c1 (.appendN (n2 := (i + 1)) 5 el32 Z Z Z (by first | rfl | (simp; done) | (simp; omega)) (.sl Z Z (nl Z) (by simp)) (by simp only [encL_len, encF_len, List.length_take, List.length_drop, List.length_cons, List.length_nil, List.length_append]; omega) (by simp only [encL_len, encF_len, List.length_take, List.length_drop, List.length_cons, List.length_nil, List.length_append]; omega) (by first | rfl | (simp; done) | (simp; omega))) ?_
  refine .p (.assign Z Z) <| .nil <| .region <| .p (.iadd (r := (((i + 1) : Nat) : Int)) Z Z Z (wi (by omega) (by first | rfl | omega | (simp; done)))) ?_
  refine .p (.move Z Z) <| .nil ?_
  exact ⟨⟨((i + 1)), (by show i + 1 ≤ _; omega)⟩, (by simp; omega), (ALe.of false [(2, 5)] 3
      _
      _
      (.cons rfl (.boxS rfl) (.cons rfl (.boxS rfl) (.cons rfl (.arr (by rw [encL_take (by omega)]; rfl)) .nil)))
      (.s (.cons rfl .ptrR (.cons rfl .ptrR (.cons rfl .slR (.s (.s (.s .nil)))))))
      (by simp))⟩
  have h2 := decide_eq_false p3
  refine .cF Z h2 <| .exit <| .seq <| .region <| .p (.assign Z Z) <| .nil <| .seq <| .seq <| .region <| .p (.faddr fo35_7 Z Z) <| .p (.load1 ag33 Z Z Z Z) <| .p (.len_ro (n := t.fields.length) ut33 Z (.inl Z) (by simp)) ?_
  refine .p (.move Z Z) <| .nil <| .block <| .openNil 8 14 true ?_
  refine AWP.loop (G := { g : Nat // g ≤ t.fields.length }) (fun g => envOf [(1, .N left), (2, .P 0), (4, .P 1), (5, .sl 2 13 0 i), (8, .sl 3 14 0 g.1), (36, .ro 14 (encF t.fields)), (37, .N t.fields.length), (38, .N g.1)]) (fun g => hpOf [(0, .box [.I t.kind, .B t.b, .B t.neg, .S t.digits, .I t.exp, .I t.tk, .I t.td, .I t.tn, .I t.tz, .S t.text, .fr (.ro 1 (encB t.bytes)), .ro 13 (encL t.list), .ro 14 (encF t.fields)]), (1, .box [.I 0, .B false, .B false, .S ⟨#[]⟩, .I 0, .I 0, .I 0, .I 0, .I 0, .S ⟨#[]⟩, .O, .O, .O]), (2, .arr true 13 (encL (t.list.take i))), (3, .arr true 14 (encF (t.fields.take g.1)))]) (fun _ => 4) (fun g => t.fields.length - g.1) ⟨(0), Nat.zero_le _⟩ (ALe.of false [] 4
      _
      _
      (.cons rfl (.boxS rfl) (.cons rfl (.boxS rfl) (.cons rfl (.arr rfl) (.cons rfl (.arr (by rfl)) .nil))))
      (.s (.cons rfl .ptrR (.cons rfl .ptrR (.cons rfl .slR (.cons rfl .slR (.s (.s (.s .nil))))))))
      (by simp)) ?_
  rintro ⟨j, hg⟩
  try dsimp only at hg
  refine .ws 4 [(1, .N left), (2, .P 0), (4, .P 1), (5, .sl 2 13 0 i), (8, .sl 3 14 0 j), (36, .ro 14 (encF t.fields)), (37, .N t.fields.length), (38, .N j)] [(0, .box [.I t.kind, .B t.b, .B t.neg, .S t.digits, .I t.exp, .I t.tk, .I t.td, .I t.tn, .I t.tz, .S t.text, .fr (.ro 1 (encB t.bytes)), .ro 13 (encL t.list), .ro 14 (encF t.fields)]), (1, .box [.I 0, .B false, .B false, .S ⟨#[]⟩, .I 0, .I 0, .I 0, .I 0, .I 0, .S ⟨#[]⟩, .O, .O, .O]), (2, .arr true 13 (encL (t.list.take i))), (3, .arr true 14 (encF (t.fields.take j)))] <| .seq <| .region <| .p (.ilss Z Z Z) <| .nil <| .seq ?_
  by_cases p5 : ((j : Nat) : Int) < ((t.fields.length : Nat) : Int)
  have h4 := decide_eq_true p5
  refine .cT Z h4 <| .skip <| .seq <| .block <| .seq <| .region <| .p (.iaddr_ro (row := ([.S ((nthF t.fields j).1)] ++ encX (nthF t.fields j).2)) ut33 sz72 Z Z Z Z (encF_nth (by omega))) ?_
  refine .p (.rloadN ag72 sz72 Z Z (nl Z)) <| .c1 (.alloc 4 Z zt72 Z) <| .c0 (.store sz72 Z Z Z Z (notup Z) Z Z (nl Z)) <| .nil <| .region_p fol an52_15 (by kernel_rfl) Z ?_
  refine .p [] (.move Z Z) <| .p [] (.faddr fo72_0 Z Z) <| .p [4] (.load1 ag9 Z Z Z Z) <| .p [] (.faddr fo72_1 Z Z) <| .p [4] (.loadN ag35 sz35 Z Z Z (nl Z)) <| .p [] (.move Z Z) <| .p [] (.isub (r := (((left - 1) : Nat) : Int)) Z Z Z (wi (by omega) (by first | rfl | omega | (simp; done)))) ?_
  refine .p [] (.call0 [] false (ih (nthF t.fields j).2 (left - 1) (hok.2.2.2.2 _ (nthF_mem (by omega))) (by omega) (by omega)) Tryz.func52 (hv := by exact (.cons (.aggL (.same Z)) (.cons (.same Z) .nil)))) ?_
  refine .p [] (.build Z zt72 Z pl72 Z Z) <| .c 6 [] (.buildSlice 5 true [([.S ((nthF t.fields j).1)] ++ encX (nthF t.fields j).2)] ut33 sz72 zt72 Z Z (by decide) (by decide) Z Z Z Z Z Z Z) ?_
  refine .c 7 [3, 5] (.appendN (n2 := (j + 1)) 6 el33 Z Z Z (by first | rfl | (simp; done) | (simp; omega)) (.sl Z Z (nl Z) (by simp)) (by simp only [encL_len, encF_len, List.length_take, List.length_drop, List.length_cons, List.length_nil, List.length_append]; omega) (by simp only [encL_len, encF_len, List.length_take, List.length_drop, List.length_cons, List.length_nil, List.length_append]; omega) (by first | rfl | (simp; done) | (simp; omega))) ?_
  refine .p [] (.assign Z Z) <| .nil (by kernel_rfl) ?_
  refine .region <| .p (.iadd (r := (((j + 1) : Nat) : Int)) Z Z Z (wi (by omega) (by first | rfl | omega | (simp; done)))) ?_
  refine .p (.move Z Z) <| .nil ?_
  exact ⟨⟨((j + 1)), (by show j + 1 ≤ _; omega)⟩, (by simp; omega), (ALe.of false [(3, 6)] 4
      _
      _
      (.cons rfl (.boxS rfl) (.cons rfl (.boxS rfl) (.cons rfl (.arr rfl) (.cons rfl (.arr (by rw [encF_take (by omega)]; rfl)) .nil))))
      (.s (.cons rfl .ptrR (.cons rfl .ptrR (.cons rfl .slR (.cons rfl .slR (.s (.s (.s .nil))))))))
      (by simp))⟩
  have h4 := decide_eq_false p5
  refine .cF Z h4 <| .exit <| .seq <| .region <| .p (.move Z Z) <| .p (.move Z Z) <| .p (.faddr fo35_6 Z Z) <| .c0 (.store sz32 Z Z Z Z (notup Z) Z Z (nl Z)) <| .p (.faddr fo35_7 Z Z) <| .c0 (.store sz33 Z Z Z Z (notup Z) Z Z (nl Z)) <| .nil <| .seq ?_
  refine .region <| .p (.loadN ag35 sz35 Z Z Z (nl Z)) <| .c0 (.store sz35 Z Z Z Z (notup Z) Z Z (nl Z)) <| .nil <| .ret ?_
  exact ⟨_, _, _, _, rfl, ALe.of true [] 0
      [(0, .agg (encFr t))]
      []
      .nil
      (.cons rfl (.aggL (.cons (.same rfl) (.cons (.same rfl) (.cons (.same rfl) (.cons (.same rfl) (.cons (.same rfl) (.cons (.same rfl) (.cons (.same rfl) (.cons (.same rfl) (.cons (.same rfl) (.cons (.same rfl) (.cons (.same rfl) (.cons (.freezeFR (els := (encL (t.list.take i))) (by simp only [encL_len, encF_len, List.length_take]; omega) (by rw [List.take_of_length_le (by omega)])) (.cons (.freezeFR (els := (encF (t.fields.take j))) (by simp only [encL_len, encF_len, List.length_take]; omega) (by rw [List.take_of_length_le (by omega)])) .nil)))))))))))))) .nil)
      (fun _ => ⟨hn0, hs0⟩), rfl, rfl⟩
end Go.Abs
namespace Go.Abs
open Go.Proofs
set_option maxRecDepth 100000
set_option maxHeartbeats 8000000

theorem fo35_0 : fieldOff Tryz.prog 35 0 = some 0 := by kernel_rfl
theorem ag3 : isAggT Tryz.prog 3 = some false := by kernel_rfl

theorem Copy_spec (t : T) (h : t.fit) : FSpec Tryz.prog 27 0 [.agg (encX t)] (hpOf []) (fun r h => r = .agg (encFr t) ∧ h = hpOf []) := by
  refine FSpec.intro Tryz.func27 rfl (nl rfl) (nl rfl) fun s0 w0 hs0 hn0 => ?_
  refine .ws 0 [(0, .agg (encX t))] [] <| .seq <| .region <| .c1 (.box 0 Z Z (notup Z)) <| .c1 (.alloc 1 Z zt35 Z) <| .nil <| .seq <| .region <| .p (.loadN ag35 sz35 Z Z Z (nl Z)) <| .p (.call0 [] false (copied_spec 1000 t 65536 (by assumption) (by omega) (by omega)) Tryz.func52 (hv := by exact (.cons (.aggL (.same Z)) (.cons (.same Z) .nil)))) ?_
  refine .c0 (.store sz35 Z Z Z Z (notup Z) Z Z (nl Z)) <| .nil <| .ret ?_
  exact ⟨_, _, _, _, rfl, ALe.s (l := [(0, .agg (encFr t))]) (m := []) (nx' := 0), rfl, rfl⟩

theorem Field_spec (t : T) (k : ByteArray) (h : t.fit) (hk : t.kind = 7) : FSpec Tryz.prog 53 0 [.agg (encX t), .S k] (hpOf []) (fun r h => r = .tup [.agg (encFr ((fieldM k t.fields).getD T.nul)), .B ((fieldM k t.fields).isSome)] ∧ h = hpOf []) := by
  have hf := h.2.2.1
  refine FSpec.intro Tryz.func53 rfl (nl rfl) (nl rfl) fun s0 w0 hs0 hn0 => ?_
  refine .ws 0 [(0, .agg (encX t)), (1, .S k)] [] <| .seq <| .region <| .c1 (.box 0 Z Z (notup Z)) <| .c1 (.alloc 1 Z zt35 Z) <| .p (.assign Z Z) <| .nil <| .seq <| .seq <| .region <| .p (.faddr fo35_7 Z Z) <| .p (.load1 ag33 Z Z Z Z) ?_
  refine .p (.len_ro (n := t.fields.length) ut33 Z (.inl Z) (by simp)) ?_
  refine .p (.move Z Z) <| .nil <| .block ?_
  refine AWP.loop (G := { g : Nat // g ≤ t.fields.length ∧ fieldM k (t.fields.drop g) = fieldM k t.fields }) (fun g => envOf [(1, .S k), (2, .P 0), (4, .P 1), (9, .ro 14 (encF t.fields)), (10, .N t.fields.length), (11, .N g.1)]) (fun g => hpOf [(0, .box (encX t)), (1, .box [.I 0, .B false, .B false, .S ⟨#[]⟩, .I 0, .I 0, .I 0, .I 0, .I 0, .S ⟨#[]⟩, .O, .O, .O])]) (fun _ => 2) (fun g => t.fields.length - g.1) ⟨(0), ⟨Nat.zero_le _, rfl⟩⟩ ALe.s ?_
  rintro ⟨i, hg⟩
  try dsimp only at hg
  refine .ws 2 [(1, .S k), (2, .P 0), (4, .P 1), (9, .ro 14 (encF t.fields)), (10, .N t.fields.length), (11, .N i)] [(0, .box (encX t)), (1, .box [.I 0, .B false, .B false, .S ⟨#[]⟩, .I 0, .I 0, .I 0, .I 0, .I 0, .S ⟨#[]⟩, .O, .O, .O])] <| .seq <| .region <| .p (.ilss Z Z Z) <| .nil <| .seq ?_
  by_cases p2 : ((i : Nat) : Int) < ((t.fields.length : Nat) : Int)
  have h1 := decide_eq_true p2
  refine .cT Z h1 <| .skip <| .seq <| .block <| .seq <| .region <| .p (.iaddr_ro (row := ([.S ((nthF t.fields i).1)] ++ encX (nthF t.fields i).2)) ut33 sz72 Z Z Z Z (encF_nth (by omega))) ?_
  refine .p (.rloadN ag72 sz72 Z Z (nl Z)) <| .c1 (.alloc 2 Z zt72 Z) <| .c0 (.store sz72 Z Z Z Z (notup Z) Z Z (nl Z)) <| .nil <| .seq <| .region <| .p (.faddr fo35_0 Z Z) <| .p (.load1 ag3 Z Z Z Z) <| .p (.ieql Z Z Z) <| .p (.move Z Z) ?_
  have h3 : (decide (t.kind = 7)) = true := decide_eq_true hk
  refine .yT (.faddr fo72_0 Z Z) Z Z h3 <| .yT (.load1 ag9 Z Z Z Z) Z Z h3 <| .yT (.move Z Z) Z Z h3 <| .yT (.seql Z Z Z) Z Z h3 <| .p (.pickE Z Z h3 Z) <| .nil ?_
  by_cases p5 : (nthF t.fields i).1 = k
  have h4 := decide_eq_true p5
  refine .cT Z h4 <| .seq <| .region <| .p (.faddr fo72_1 Z Z) <| .p (.loadN ag35 sz35 Z Z Z (nl Z)) <| .p (.call0 [] false (copied_spec 1000 (nthF t.fields i).2 65536 (fit_field h (nthF_mem (by omega))) (by omega) (by omega)) Tryz.func52 (hv := by exact (.cons (.aggL (.same Z)) (.cons (.same Z) .nil)))) ?_
  refine .c0 (.store sz35 Z Z Z Z (notup Z) Z Z (nl Z)) <| .p (.assign Z Z) <| .nil <| .ret ?_
  have hd : fieldM k t.fields = some (nthF t.fields i).2 := by rw [← hg.2, field_drop (by omega), if_pos ‹_›]
  exact ⟨_, _, _, _, rfl, ALe.of false [] 0
      [(0, .tup [.agg (encFr ((fieldM k t.fields).getD T.nul)), .B ((fieldM k t.fields).isSome)])]
      []
      .nil
      (.cons rfl (.tupL (.cons (.aggL (.cons (.litE (by rw [hd]; rfl)) (.cons (.litE (by rw [hd]; rfl)) (.cons (.litE (by rw [hd]; rfl)) (.cons (.litE (by rw [hd]; rfl)) (.cons (.litE (by rw [hd]; rfl)) (.cons (.litE (by rw [hd]; rfl)) (.cons (.litE (by rw [hd]; rfl)) (.cons (.litE (by rw [hd]; rfl)) (.cons (.litE (by rw [hd]; rfl)) (.cons (.litE (by rw [hd]; rfl)) (.cons (.frE (by rw [hd]; rfl)) (.cons (.frE (by rw [hd]; rfl)) (.cons (.frE (by rw [hd]; rfl)) .nil)))))))))))))) (.cons (.litE (by rw [hd]; rfl)) .nil))) .nil)
      (by simp), rfl, rfl⟩
  have h4 := decide_eq_false p5
  refine .cF Z h4 <| .skip <| .region <| .p (.iadd (r := (((i + 1) : Nat) : Int)) Z Z Z (wi (by omega) (by first | rfl | omega | (simp; done)))) ?_
  refine .p (.move Z Z) <| .nil ?_
  have hq : (i + 1) ≤ t.fields.length ∧ fieldM k (t.fields.drop (i + 1)) = fieldM k t.fields := by
    refine ⟨by omega, ?_⟩
    rw [← hg.2, field_drop (i := i) (by omega), if_neg ‹_›]
  exact ⟨⟨((i + 1)), hq⟩, (by simp; omega), ALe.s⟩
  have h1 := decide_eq_false p2
  refine .cF Z h1 <| .exit <| .seq <| .region <| .p (.build Z zt35 Z pl35 Z Z) <| .c0 (.store sz35 Z Z Z Z (notup Z) Z Z (nl Z)) <| .p (.assign Z Z) <| .nil <| .ret ?_
  have hd : fieldM k t.fields = none := by rw [← hg.2, List.drop_eq_nil_of_le (by omega)]; rfl
  exact ⟨_, _, _, _, rfl, ALe.of false [] 0
      [(0, .tup [.agg (encFr ((fieldM k t.fields).getD T.nul)), .B ((fieldM k t.fields).isSome)])]
      []
      .nil
      (.cons rfl (.tupL (.cons (.aggL (.cons (.litE (by rw [hd]; rfl)) (.cons (.litE (by rw [hd]; rfl)) (.cons (.litE (by rw [hd]; rfl)) (.cons (.litE (by rw [hd]; rfl)) (.cons (.litE (by rw [hd]; rfl)) (.cons (.litE (by rw [hd]; rfl)) (.cons (.litE (by rw [hd]; rfl)) (.cons (.litE (by rw [hd]; rfl)) (.cons (.litE (by rw [hd]; rfl)) (.cons (.litE (by rw [hd]; rfl)) (.cons (.nilFr (by rw [hd]; rfl)) (.cons (.nilFr (by rw [hd]; rfl)) (.cons (.nilFr (by rw [hd]; rfl)) .nil)))))))))))))) (.cons (.litE (by rw [hd]; rfl)) .nil))) .nil)
      (by simp), rfl, rfl⟩
end Go.Abs
