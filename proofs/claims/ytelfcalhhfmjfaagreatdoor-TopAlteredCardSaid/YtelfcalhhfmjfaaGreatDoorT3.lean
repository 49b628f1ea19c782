/- Part 3 of the proof that TopAltered returns true for every input of its row (no condition beyond the row). -/
import Derived.Test.YtelfcalhhfmjfaaGreatDoorT2
import Derived.Laws.BytesString
import Derived.Laws.StructEq
set_option linter.unusedVariables false
set_option linter.unusedSimpArgs false
namespace Go.Abs
structure Ent where
  run : Bool
  res : Option AV
  U : List (Nat × Option Blk)
  fr : List Nat
  R : List Nat
def Ent.val (e : Ent) : Option AV := if e.run then e.res else some (.tup [])
def Ent.upd (e : Ent) (H : Hp) : Hp := if e.run then updH H e.U else H
def Ent.dom (e : Ent) : List Nat := if e.run then e.U.map (·.1) else []
def stE (os : List Oper) (es : List Ent) (E : Env) (D : Nat → Bool) : Nat → Env
  | 0 => E
  | k + 1 => if D k then (match os[k]?, es[k]? with
    | some o, some e => updE (stE os es E D k) o.dst e.val
    | _, _ => stE os es E D k) else stE os es E D k
def stH (es : List Ent) (H : Hp) (D : Nat → Bool) : Nat → Hp
  | 0 => H
  | k + 1 => if D k then (match es[k]? with
    | some e => e.upd (stH es H D k)
    | none => stH es H D k) else stH es H D k
section
variable {os : List Oper} {es : List Ent} {E : Env} {H : Hp}
theorem updE_ne {E : Env} {d : Option Nat} {r : Option AV} {t : Nat} (h : d ≠ some t) : updE E d r t = E t := by
  cases d with
  | none => rfl
  | some d => simp only [updE]; rw [if_neg]; rintro rfl; exact h rfl
theorem updE_eq {E : Env} {r : Option AV} {t : Nat} : updE E (some t) r t = r := by simp [updE]
theorem lkU_none : ∀ (U : List (Nat × Option Blk)) (k : Nat), k ∉ U.map (·.1) → lkU U k = none
  | [], _, _ => rfl
  | (a, x) :: U, k, h => by
    simp only [List.map_cons, List.mem_cons, not_or] at h
    simp only [lkU]
    rw [if_neg h.1]
    exact lkU_none U k h.2
theorem lkU_some : ∀ (U : List (Nat × Option Blk)) (k : Nat), k ∈ U.map (·.1) → ∃ x, lkU U k = some x
  | [], _, h => by simp at h
  | (a, x) :: U, k, h => by
    simp only [lkU]
    by_cases e : k = a
    · exact ⟨x, by rw [if_pos e]⟩
    · rw [if_neg e]
      simp only [List.map_cons, List.mem_cons] at h
      exact lkU_some U k (h.resolve_left e)
theorem upd_ne {e : Ent} {H : Hp} {k : Nat} (h : k ∉ e.dom) : e.upd H k = H k := by
  unfold Ent.upd
  split
  · rename_i hr
    simp only [Ent.dom, hr, if_true] at h
    simp only [updH, lkU_none e.U k h]
  · rfl
theorem upd_eq {e : Ent} {H H' : Hp} {k : Nat} (h : k ∈ e.dom) : e.upd H k = e.upd H' k := by
  unfold Ent.dom at h
  split at h
  · rename_i hr
    obtain ⟨x, hx⟩ := lkU_some e.U k h
    simp only [Ent.upd, hr, if_true, updH, hx]
  · simp at h
def dstOf (os : List Oper) (i : Nat) : Option Nat := (os[i]?).bind (·.dst)
def domOf (es : List Ent) (i : Nat) : List Nat := ((es[i]?).map (·.dom)).getD []
theorem stE_same {D D' : Nat → Bool} {t : Nat} : ∀ k, (∀ i, i < k → dstOf os i = some t → D i = D' i) → stE os es E D k t = stE os es E D' k t
  | 0, _ => rfl
  | k + 1, h => by
    have ih := stE_same (D := D) (D' := D') (t := t) k (fun i hi => h i (by omega))
    simp only [stE]
    cases ho : os[k]? with
    | none => simp only [ho]; split <;> split <;> exact ih
    | some o =>
      cases he : es[k]? with
      | none => simp only [ho, he]; split <;> split <;> exact ih
      | some e =>
        simp only [ho, he]
        by_cases hd : o.dst = some t
        · have : D k = D' k := h k (by omega) (by simp [dstOf, ho, hd])
          rw [← this]
          split
          · rw [hd, updE_eq, updE_eq]
          · exact ih
        · split <;> split <;> simp only [updE_ne hd, ih]
theorem stE_skip {D : Nat → Bool} {t m : Nat} : ∀ k, m ≤ k → (∀ i, m ≤ i → i < k → dstOf os i = some t → D i = false) → stE os es E D k t = stE os es E D m t
  | 0, hm, _ => by have : m = 0 := by omega
                   rw [this]
  | k + 1, hm, h => by
    by_cases e : m = k + 1
    · rw [e]
    · have ih := stE_skip (D := D) (t := t) (m := m) k (by omega) (fun i h1 h2 => h i h1 (by omega))
      rw [← ih]
      simp only [stE]
      split
      · rename_i hD
        cases ho : os[k]? with
        | none => rfl
        | some o =>
          cases he : es[k]? with
          | none => rfl
          | some e =>
            by_cases hd : o.dst = some t
            · have := h k (by omega) (by omega) (by simp [dstOf, ho, hd])
              rw [hD] at this; cases this
            · exact updE_ne hd
      · rfl
theorem stH_same {D D' : Nat → Bool} {t : Nat} : ∀ k, (∀ i, i < k → t ∈ domOf es i → D i = D' i) → stH es H D k t = stH es H D' k t
  | 0, _ => rfl
  | k + 1, h => by
    have ih := stH_same (D := D) (D' := D') (t := t) k (fun i hi => h i (by omega))
    simp only [stH]
    cases he : es[k]? with
    | none => simp only [he]; split <;> split <;> exact ih
    | some e =>
      simp only [he]
      by_cases hd : t ∈ e.dom
      · have : D k = D' k := h k (by omega) (by simp [domOf, he, hd])
        rw [← this]
        split
        · exact upd_eq hd
        · exact ih
      · split <;> split <;> simp only [upd_ne hd, ih]
theorem stH_skip {D : Nat → Bool} {t m : Nat} : ∀ k, m ≤ k → (∀ i, m ≤ i → i < k → t ∈ domOf es i → D i = false) → stH es H D k t = stH es H D m t
  | 0, hm, _ => by have : m = 0 := by omega
                   rw [this]
  | k + 1, hm, h => by
    by_cases e : m = k + 1
    · rw [e]
    · have ih := stH_skip (D := D) (t := t) (m := m) k (by omega) (fun i h1 h2 => h i h1 (by omega))
      rw [← ih]
      simp only [stH]
      split
      · rename_i hD
        cases he : es[k]? with
        | none => rfl
        | some e =>
          by_cases hd : t ∈ e.dom
          · have := h k (by omega) (by omega) (by simp [domOf, he, hd])
            rw [hD] at this; cases this
          · exact upd_ne hd
      · rfl
def restE (E : Env) (l : List Nat) : Env := fun t => if l.contains t then E t else none
def restH (H : Hp) (l : List Nat) : Hp := fun k => if l.contains k then H k else none
def bindsAny (e : Edge) : Bool := Region.binds .any e
def calmB (ops : Array Oper) (os : List Oper) (es : List Ent) (an : List (List Nat)) : Bool :=
  (List.range os.length).all fun j => (List.range j).all fun i =>
    match os[i]?, es[i]?, os[j]?, es[j]? with
    | some oi, some ei, some oj, some ej =>
      (an.getD j []).contains i ||
      ((match oi.dst with | some d => !(oj.looksAt ops).contains d && oj.dst != some d | none => true) &&
       (match oj.dst with | some d => !(oi.looksAt ops).contains d | none => true) &&
       ei.dom.all (fun k => !ej.R.contains k && !ej.dom.contains k) && ej.dom.all (fun k => !ei.R.contains k) &&
       ei.fr.all (fun k => !ej.fr.contains k))
    | _, _, _, _ => false
def freshB (es : List Ent) (nx nx' : Nat) : Bool := es.all fun e => e.fr.all fun k => decide (nx ≤ k) && decide (k < nx')
def apartB (es : List Ent) : Bool := (List.range es.length).all fun j => (List.range j).all fun i => match es[i]?, es[j]? with
  | some ei, some ej => ei.fr.all (fun k => !ej.fr.contains k)
  | _, _ => true
def backB (os : List Oper) : Bool := (List.range os.length).all fun i => match os[i]? with
  | some o => o.after.toList.all fun e => !bindsAny e || decide (e.on < i)
  | none => true
def Closed (os : List Oper) (D : Nat → Bool) : Prop := ∀ (i : Nat) (o : Oper) (e : Edge), D i = true → os[i]? = some o → e ∈ o.after.toList → bindsAny e = true → D e.on = true
def Ready (os : List Oper) (D : Nat → Bool) (i : Nat) : Prop := ∀ (o : Oper) (e : Edge), os[i]? = some o → e ∈ o.after.toList → bindsAny e = true → D e.on = true
end
def AncR (os : List Oper) (an : List (List Nat)) : Prop := ∀ (D : Nat → Bool), Closed os D → ∀ (i j : Nat), j ∈ an.getD i [] → Ready os D i → D j = true
theorem ancs_spec {os : List Oper} {an : List (List Nat)} (har : AncR os an) {D : Nat → Bool} (hc : Closed os D) (i j : Nat) (hj : j ∈ an.getD i []) (hi : D i = true) : D j = true :=
  har D hc i j hj fun o e h1 h2 h3 => hc i o e hi h1 h2 h3
structure GmD (C : Cx) (E : Env) (H : Hp) (Nw : Nat → Prop) (s : Sg) (w : World) (a : Act) : Prop where
  ok0 : OK C.s C.w
  ok : OK s w
  env : ∀ t av, E t = some av → Rel s w av (a.tmps.getD t undef)
  hp : s.hp = H
  new : ∀ k, Nw k → s.ρ k = none
  size : a.tmps.size = C.N
  defers : a.defers = []
  glob : Glob C.n C.s C.w s w
theorem GmD.put {C : Cx} {E E' : Env} {H H' : Hp} {Nw Nw' : Nat → Prop} {s s' : Sg} {w w' : World} {a : Act} {fr : List Nat} {U : List (Nat × Option Blk)} {d : Option Nat} {r : Option AV} {v : Value}
    (g : GmD C E H Nw s w a) (hd : ∀ x, d = some x → x < C.N) (hNw : ∀ k, Nw' k → Nw k ∧ k ∉ fr)
    (p : Post s w fr U s' w') (hr : ∀ av, r = some av → Rel s' w' av v) (hE : ∀ t, E' t = updE E d r t) (hH : ∀ k, H' k = updH H U k) : GmD C E' H' Nw' s' w' (a.put d v) where
  ok0 := g.ok0
  ok := p.ok
  env t av h := by
    rw [hE] at h
    cases d with
    | none => exact (g.env t av h).step p.tr
    | some d =>
      simp only [updE] at h
      by_cases e : t = d
      · subst e
        rw [if_pos rfl] at h
        rw [Act.get_put_same a t v (by rw [g.size]; exact hd t rfl)]
        exact hr av h
      · rw [if_neg e] at h
        rw [Act.get_put_ne a d t v e]
        exact (g.env t av h).step p.tr
  hp := by rw [p.hp, g.hp]; funext k; exact (hH k).symm
  new k hk := p.fresh k (g.new k (hNw k hk).1) (hNw k hk).2
  size := by rw [Act.size_put, g.size]
  defers := by rw [Act.defers_put, g.defers]
  glob := g.glob.step g.ok0 p.tr
theorem GmD.gm {C : Cx} {E : Env} {H : Hp} {nx : Nat} {s : Sg} {w : World} {a : Act} (g : GmD C E H (nx ≤ ·) s w a) (hle : C.n ≤ nx) : Gm C E H nx s w a :=
  ⟨g.ok0, g.ok, g.env, g.hp, g.new, hle, g.size, g.defers, g.glob⟩
theorem Tr.drew {s : Sg} {w : World} : Tr s w s { w with drawn := w.drawn + 1 } where
  M := rfl
  n0 := rfl
  rho _ _ h := h
  size := Nat.le_refl _
  os := rfl
  tape := rfl
  output := rfl
  keep _ _ _ := rfl
  own k _ h h' := .inl ⟨k, h, h'⟩
  dead _ _ h := h
  arr _ fresh _ els h := .inr ⟨fresh, els, h, Nat.le_refl _, fun _ cs ty fz _ h => ⟨cs, ty, fz, h, rfl⟩⟩
theorem Gm.drew {C : Cx} {E : Env} {H : Hp} {nx : Nat} {s : Sg} {w : World} {a : Act} (g : Gm C E H nx s w a) : Gm C E H nx s { w with drawn := w.drawn + 1 } a :=
  { g with
    ok := g.ok.step Tr.drew (fun _ _ h => .inl ⟨h, fun _ _ => rfl⟩) g.ok.inj
    env := fun t av h => (g.env t av h).step Tr.drew
    glob := g.glob.step g.ok0 Tr.drew }
inductive EntOk (P : Program) (ops : Array Oper) (o : Oper) (E : Env) (H : Hp) : Ent → Prop
  | plain {res : Option AV} {U : List (Nat × Option Blk)} {fr R : List Nat} (hg : o.guard = none) (ho : AOp P o (restE E (o.looksAt ops)) (restH H (R ++ U.map (·.1))) fr res U) : EntOk P ops o E H ⟨true, res, U, fr, R⟩
  | yes {res : Option AV} {U : List (Nat × Option Blk)} {fr R : List Nat} {j t : Nat} {b : Bool} (hg : o.guard = some (j, b)) (hj : (ops[j]?).bind (·.dst) = some t) (hE : restE E (o.looksAt ops) t = some (.lit (.bool b)))
      (ho : AOp P o (restE E (o.looksAt ops)) (restH H (R ++ U.map (·.1))) fr res U) : EntOk P ops o E H ⟨true, res, U, fr, R⟩
  | no {j t : Nat} {b : Bool} (hg : o.guard = some (j, !b)) (hj : (ops[j]?).bind (·.dst) = some t) (hE : restE E (o.looksAt ops) t = some (.lit (.bool b))) : EntOk P ops o E H ⟨false, none, [], [], []⟩
  | unasked {j t : Nat} {b : Bool} (hg : o.guard = some (j, b)) (hj : (ops[j]?).bind (·.dst) = some t) (hE : restE E (o.looksAt ops) t = some (.tup [])) : EntOk P ops o E H ⟨false, none, [], [], []⟩
inductive TrOk (P : Program) (ops : Array Oper) (N : Nat) : List Oper → List Ent → Env → Hp → Prop
  | nil {E : Env} {H : Hp} : TrOk P ops N [] [] E H
  | cons {o : Oper} {e : Ent} {os : List Oper} {es : List Ent} {E : Env} {H : Hp} (h : EntOk P ops o E H e) (hd : dstOk N o = true) (ht : TrOk P ops N os es (updE E o.dst e.val) (e.upd H)) : TrOk P ops N (o :: os) (e :: es) E H
def allD : Nat → Bool := fun _ => true
theorem stE_cons (o : Oper) (e : Ent) (os : List Oper) (es : List Ent) (E : Env) : ∀ k, stE (o :: os) (e :: es) E allD (k + 1) = stE os es (updE E o.dst e.val) allD k
  | 0 => by simp [stE, allD]
  | k + 1 => by
    have ih := stE_cons o e os es E k
    show (match (o :: os)[k + 1]?, (e :: es)[k + 1]? with
      | some o1, some e1 => updE (stE (o :: os) (e :: es) E allD (k + 1)) o1.dst e1.val
      | _, _ => stE (o :: os) (e :: es) E allD (k + 1)) = _
    rw [ih]
    rfl
theorem stH_cons (e : Ent) (es : List Ent) (H : Hp) : ∀ k, stH (e :: es) H allD (k + 1) = stH es (e.upd H) allD k
  | 0 => by simp [stH, allD]
  | k + 1 => by
    have ih := stH_cons e es H k
    show (match (e :: es)[k + 1]? with
      | some e1 => e1.upd (stH (e :: es) H allD (k + 1))
      | none => stH (e :: es) H allD (k + 1)) = _
    rw [ih]
    rfl
theorem TrOk.at {P : Program} {ops : Array Oper} {N : Nat} {os : List Oper} {es : List Ent} {E : Env} {H : Hp} (h : TrOk P ops N os es E H) :
    es.length = os.length ∧ ∀ (i : Nat) (o : Oper) (e : Ent), os[i]? = some o → es[i]? = some e → EntOk P ops o (stE os es E allD i) (stH es H allD i) e ∧ dstOk N o = true := by
  induction h with
  | nil => exact ⟨rfl, by simp⟩
  | @cons o e os es E H h hd _ ih =>
    refine ⟨by simp [ih.1], fun i o' e' h1 h2 => ?_⟩
    cases i with
    | zero => simp at h1 h2; subst h1; subst h2; exact ⟨h, hd⟩
    | succ i =>
      rw [stE_cons, stH_cons]
      exact ih.2 i o' e' (by simpa using h1) (by simpa using h2)
section
variable {P : Program} {C : Cx} {ops : Array Oper} {os : List Oper} {es : List Ent} {E : Env} {H : Hp}
theorem restE_le {E E' : Env} {l : List Nat} (h : ∀ t, t ∈ l → E' t = E t) : ∀ t av, restE E l t = some av → E' t = some av := by
  intro t av ht
  simp only [restE] at ht
  split at ht
  · rename_i hc
    rw [h t (by simpa using hc)]; exact ht
  · cases ht
theorem restH_le {H H' : Hp} {l : List Nat} (h : ∀ t, t ∈ l → H' t = H t) : ∀ t B, restH H l t = some B → H' t = some B := by
  intro t av ht
  simp only [restH] at ht
  split at ht
  · rename_i hc
    rw [h t (by simpa using hc)]; exact ht
  · cases ht
structure CalmAt (ops : Array Oper) (oi oj : Oper) (ei ej : Ent) : Prop where
  d1 : ∀ d, oi.dst = some d → d ∉ oj.looksAt ops ∧ oj.dst ≠ some d
  d2 : ∀ d, oj.dst = some d → d ∉ oi.looksAt ops
  u1 : ∀ k, k ∈ ei.dom → k ∉ ej.R ∧ k ∉ ej.dom
  u2 : ∀ k, k ∈ ej.dom → k ∉ ei.R
theorem calm_at {an : List (List Nat)} (h : calmB ops os es an = true) {i j : Nat} (hij : i < j) {oi oj : Oper} {ei ej : Ent} (h1 : os[i]? = some oi) (h2 : es[i]? = some ei) (h3 : os[j]? = some oj) (h4 : es[j]? = some ej) :
    i ∈ an.getD j [] ∨ CalmAt ops oi oj ei ej := by
  have hj : j < os.length := (List.getElem?_eq_some_iff.1 h3).1
  have := List.all_eq_true.1 (List.all_eq_true.1 h j (by simp [hj])) i (by simp [hij])
  simp only [h1, h2, h3, h4, Bool.or_eq_true, List.contains_eq_mem, decide_eq_true_eq, Bool.and_eq_true, List.all_eq_true] at this
  rcases this with h | ⟨⟨⟨⟨ha, hb⟩, hc⟩, hd⟩, _⟩
  · exact .inl h
  · refine .inr ⟨fun d hd' => ?_, fun d hd' => ?_, fun k hk => ?_, fun k hk => ?_⟩
    · rw [hd'] at ha
      simpa using ha
    · rw [hd'] at hb
      simpa using hb
    · simpa using hc k hk
    · simpa using hd k hk
theorem seen_at {an : List (List Nat)} (har : AncR os an) (hcalm : calmB ops os es an = true) (hlen : es.length = os.length) {D : Nat → Bool} (hc : Closed os D) {i : Nat} {o : Oper} {e : Ent}
    (ho : os[i]? = some o) (he : es[i]? = some e) (hDi : D i = false) (hr : Ready os D i) :
    (∀ t, t ∈ o.looksAt ops → stE os es E D os.length t = stE os es E allD i t) ∧ (∀ t, o.dst = some t → ∀ j, i < j → j < os.length → dstOf os j = some t → D j = false) ∧
    (∀ k, k ∈ e.R ∨ k ∈ e.dom → stH es H D os.length k = stH es H allD i k) ∧ (∀ k, k ∈ e.dom → ∀ j, i < j → j < os.length → k ∈ domOf es j → D j = false) := by
  have hi : i < os.length := (List.getElem?_eq_some_iff.1 ho).1
  have hready := fun j hj => har D hc i j hj hr
  -- an operation behind i that must wait for i is not done
  have later : ∀ j, i ∈ an.getD j [] → D j = false := by
    intro j hj
    cases hD : D j with
    | false => rfl
    | true => have := ancs_spec har hc j i hj hD; rw [this] at hDi; cases hDi
  have get : ∀ j, j < os.length → ∃ oj ej, os[j]? = some oj ∧ es[j]? = some ej := fun j hj =>
    ⟨_, _, List.getElem?_eq_getElem hj, List.getElem?_eq_getElem (by omega)⟩
  refine ⟨fun t ht => ?_, fun t hd j hij hj hdj => ?_, fun k hk => ?_, fun k hk j hij hj hkj => ?_⟩
  · rw [stE_skip (m := i) os.length (by omega) (fun j h1 h2 hdj => ?_)]
    · refine stE_same i fun j hj hdj => ?_
      obtain ⟨oj, ej, h1, h2⟩ := get j (by omega)
      rcases calm_at hcalm hj h1 h2 ho he with h | h
      · exact hready j h
      · exact absurd ht (h.d1 t (by simpa [dstOf, h1] using hdj)).1
    · rcases Nat.eq_or_lt_of_le h1 with rfl | hlt
      · exact hDi
      · obtain ⟨oj, ej, h3, h4⟩ := get j h2
        rcases calm_at hcalm hlt ho he h3 h4 with h | h
        · exact later j h
        · exact absurd ht (h.d2 t (by simpa [dstOf, h3] using hdj))
  · obtain ⟨oj, ej, h3, h4⟩ := get j hj
    rcases calm_at hcalm hij ho he h3 h4 with h | h
    · exact later j h
    · exact absurd (by simpa [dstOf, h3] using hdj) (h.d1 t hd).2
  · rw [stH_skip (m := i) os.length (by omega) (fun j h1 h2 hkj => ?_)]
    · refine stH_same i fun j hj hkj => ?_
      obtain ⟨oj, ej, h1, h2⟩ := get j (by omega)
      have hkj' : k ∈ ej.dom := by simpa [domOf, h2] using hkj
      rcases calm_at hcalm hj h1 h2 ho he with h | h
      · exact hready j h
      · rcases hk with hk | hk
        · exact absurd hk (h.u1 k hkj').1
        · exact absurd hk (h.u1 k hkj').2
    · rcases Nat.eq_or_lt_of_le h1 with rfl | hlt
      · exact hDi
      · obtain ⟨oj, ej, h3, h4⟩ := get j h2
        have hkj' : k ∈ ej.dom := by simpa [domOf, h4] using hkj
        rcases calm_at hcalm hlt ho he h3 h4 with h | h
        · exact later j h
        · rcases hk with hk | hk
          · exact absurd hk (h.u2 k hkj')
          · exact absurd hkj' (h.u1 k hk).2
  · obtain ⟨oj, ej, h3, h4⟩ := get j hj
    have hkj' : k ∈ ej.dom := by simpa [domOf, h4] using hkj
    rcases calm_at hcalm hij ho he h3 h4 with h | h
    · exact later j h
    · exact absurd hkj' (h.u1 k hk).2
def dOf (listed : Array Bool) : Nat → Bool := fun i => listed.getD i false
def frOf (es : List Ent) (i : Nat) : List Nat := ((es[i]?).map (·.fr)).getD []
theorem readyMem {listed : Array Bool} {i : Nat} (hl : listed.size = os.length) (h : i ∈ Region.ready .any os.toArray listed) : i < os.length ∧ dOf listed i = false ∧ Ready os (dOf listed) i := by
  simp only [Region.ready, List.mem_filter, List.mem_range, List.size_toArray, Bool.and_eq_true] at h
  obtain ⟨hi, h1, h2⟩ := h
  refine ⟨hi, ?_, fun o e ho he hb => ?_⟩
  · have : listed.getD i true = listed.getD i false := by simp [show i < listed.size by omega]
    rw [this] at h1
    simpa [dOf] using h1
  · simp only [List.getElem?_toArray, ho, Option.map_some, Option.getD_some, Array.all_eq_true'] at h2
    have := h2 e (by simpa using he)
    have hb' : Region.binds .any e = true := hb
    simpa [hb', dOf] using this
theorem allListed {listed : Array Bool} (hl : listed.size = os.length) (hback : backB os = true) (h : Region.ready .any os.toArray listed = []) : ∀ i, i < os.length → dOf listed i = true := by
  intro i
  induction i using Nat.strongRecOn with
  | _ i ih =>
    intro hi
    cases hD : dOf listed i with
    | true => rfl
    | false =>
      exfalso
      have ho := List.getElem?_eq_getElem hi
      have hmem : i ∈ Region.ready .any os.toArray listed := by
        simp only [Region.ready, List.mem_filter, List.mem_range, List.size_toArray, Bool.and_eq_true]
        refine ⟨hi, ?_, ?_⟩
        · have : listed.getD i true = listed.getD i false := by simp [show i < listed.size by omega]
          rw [this]
          simpa [dOf] using hD
        · simp only [List.getElem?_toArray, ho, Option.map_some, Option.getD_some, Array.all_eq_true']
          intro e he
          have hb := List.all_eq_true.1 hback i (by simp [hi])
          simp only [ho, List.all_eq_true] at hb
          have hb' := hb e (by simpa using he)
          cases hbe : bindsAny e with
          | false => simp [bindsAny] at hbe; simp [hbe]
          | true =>
            simp only [hbe, Bool.not_true, Bool.false_or, decide_eq_true_eq] at hb'
            have := ih e.on hb' (by omega)
            simp [dOf] at this
            simp [this]
      rw [h] at hmem; simp at hmem
theorem dOf_set {listed : Array Bool} {i j : Nat} (hi : i < listed.size) : dOf (listed.setIfInBounds i true) j = if j = i then true else dOf listed j := by
  unfold dOf
  by_cases h : j = i
  · subst h; simp [hi]
  · simp [h, Array.getElem?_setIfInBounds_ne (Ne.symm h)]
theorem count_set {f g : Nat → Bool} {i : Nat} : ∀ n, i < n → f i = true → g i = false → (∀ j, j ≠ i → f j = g j) → (List.range n).countP f = (List.range n).countP g + 1
  | 0, h, _, _, _ => by omega
  | n + 1, h, hf, hg, he => by
    rw [List.range_succ, List.countP_append, List.countP_append, List.countP_singleton, List.countP_singleton]
    by_cases hin : i = n
    · subst hin
      have : (List.range i).countP f = (List.range i).countP g := List.countP_congr fun j hj => by
        have : j ≠ i := by have := List.mem_range.1 hj; omega
        rw [he j this]
      rw [this, hf, hg]; simp
    · rw [count_set n (by omega) hf hg he, he n (fun h => hin h.symm)]
      omega
theorem region_any_core (es : List Ent) {nx nx' : Nat} (htr : TrOk P os.toArray C.N os es E H) {an : List (List Nat)} (har : AncR os an) (hcalm : calmB os.toArray os es an = true) (hback : backB os = true) (hfresh : freshB es nx nx' = true) (hapart : apartB es = true)
    {Q : Exit → Act → World → Prop} (hQ : ∀ s w a, GmD C (stE os es E allD os.length) (stH es H allD os.length) (nx' ≤ ·) s w a → Q .normal a w) :
    ∀ (fuel : Nat) (listed : Array Bool) (s : Sg) (w : World) (a : Act), listed.size = os.length → (List.range os.length).countP (fun i => !dOf listed i) = fuel → Closed os (dOf listed) →
      GmD C (stE os es E (dOf listed) os.length) (stH es H (dOf listed) os.length) (fun k => nx ≤ k ∧ ∀ i, i < os.length → dOf listed i = true → k ∉ frOf es i) s w a → nx ≤ nx' →
      wpAny P .any os.toArray Q fuel listed a w := by
  obtain ⟨hlen, hat⟩ := htr.at
  have fin : ∀ (listed : Array Bool) (s : Sg) (w : World) (a : Act), listed.size = os.length → (∀ i, i < os.length → dOf listed i = true) →
      GmD C (stE os es E (dOf listed) os.length) (stH es H (dOf listed) os.length) (fun k => nx ≤ k ∧ ∀ i, i < os.length → dOf listed i = true → k ∉ frOf es i) s w a → nx ≤ nx' → Q .normal a w := by
    intro listed s w a _ hall g hnx
    refine hQ s w a ⟨g.ok0, g.ok, fun t av h => g.env t av ?_, ?_, fun k hk => g.new k ⟨by omega, fun i hi _ hm => ?_⟩, g.size, g.defers, g.glob⟩
    · rw [← h]; exact stE_same _ fun i hi _ => hall i hi
    · rw [g.hp]; funext k; exact stH_same _ fun i hi _ => hall i hi
    · obtain ⟨e, he⟩ : ∃ e, es[i]? = some e := ⟨_, List.getElem?_eq_getElem (by omega)⟩
      simp only [frOf, he, Option.map_some, Option.getD_some] at hm
      have h1 := List.all_eq_true.1 (List.all_eq_true.1 hfresh e (List.mem_of_getElem? he)) k hm
      simp only [Bool.and_eq_true, decide_eq_true_eq] at h1
      omega
  intro fuel
  induction fuel with
  | zero =>
    intro listed s w a hl hcount hc g hnx
    have hall : ∀ i, i < os.length → dOf listed i = true := by
      intro i hi
      have := List.countP_eq_zero.1 hcount i (by simp [hi])
      simpa using this
    refine ⟨?_, fin listed s w a hl hall g hnx⟩
    rw [List.eq_nil_iff_forall_not_mem]
    intro i hi
    obtain ⟨h1, h2, _⟩ := readyMem hl hi
    rw [hall i h1] at h2; cases h2
  | succ fuel ih =>
    intro listed s w a hl hcount hc g hnx
    refine ⟨fun hr => fin listed s w a hl (allListed hl hback hr) g hnx, fun i hi => ?_⟩
    obtain ⟨hil, hDi, hready⟩ := readyMem hl hi
    obtain ⟨o, ho⟩ : ∃ o, os[i]? = some o := ⟨_, List.getElem?_eq_getElem hil⟩
    obtain ⟨e, he⟩ : ∃ e, es[i]? = some e := ⟨_, List.getElem?_eq_getElem (by omega)⟩
    obtain ⟨hent, hdst⟩ := hat i o e ho he
    obtain ⟨sE, sd, sH, sU⟩ := seen_at har hcalm hlen hc ho he hDi hready
    have hD' : ∀ j, dOf (listed.setIfInBounds i true) j = if j = i then true else dOf listed j := fun j => dOf_set (by omega)
    have hc' : Closed os (dOf (listed.setIfInBounds i true)) := by
      intro j oj ej hj h1 h2 h3
      rw [hD'] at hj ⊢
      split
      · rfl
      · by_cases hji : j = i
        · subst hji; exact hready oj ej h1 h2 h3
        · rw [if_neg hji] at hj; exact hc j oj ej hj h1 h2 h3
    have hcount' : (List.range os.length).countP (fun j => !dOf (listed.setIfInBounds i true) j) = fuel := by
      have := count_set (f := fun j => !dOf listed j) (g := fun j => !dOf (listed.setIfInBounds i true) j) os.length hil (by simp [hDi]) (by simp [hD']) (fun j hj => by simp [hD', hj])
      omega
    -- the state with the operation added
    have hEn : ∀ t, stE os es E (dOf (listed.setIfInBounds i true)) os.length t = updE (stE os es E (dOf listed) os.length) o.dst e.val t := by
      intro t
      by_cases hd : o.dst = some t
      · rw [hd, updE_eq, stE_skip (m := i + 1) os.length (by omega) (fun j h1 h2 hdj => by rw [hD', if_neg (by omega)]; exact sd t hd j (by omega) h2 hdj)]
        simp only [stE, hD', if_pos, ho, he, hd, updE_eq]
      · rw [updE_ne hd]
        refine stE_same _ fun j hj hdj => ?_
        rw [hD', if_neg]
        rintro rfl
        exact hd (by simpa [dstOf, ho] using hdj)
    have hHn : ∀ k, stH es H (dOf (listed.setIfInBounds i true)) os.length k = e.upd (stH es H (dOf listed) os.length) k := by
      intro k
      by_cases hd : k ∈ e.dom
      · rw [stH_skip (m := i + 1) os.length (by omega) (fun j h1 h2 hkj => by rw [hD', if_neg (by omega)]; exact sU k hd j (by omega) h2 hkj)]
        simp only [stH, hD', if_pos, he]
        exact upd_eq hd
      · rw [upd_ne hd]
        refine stH_same _ fun j hj hkj => ?_
        rw [hD', if_neg]
        rintro rfl
        exact hd (by simpa [domOf, he] using hkj)
    have hNw : ∀ k, (nx ≤ k ∧ ∀ j, j < os.length → dOf (listed.setIfInBounds i true) j = true → k ∉ frOf es j) → (nx ≤ k ∧ ∀ j, j < os.length → dOf listed j = true → k ∉ frOf es j) ∧ k ∉ e.fr := by
      rintro k ⟨h1, h2⟩
      refine ⟨⟨h1, fun j hj hDj => h2 j hj ?_⟩, ?_⟩
      · rw [hD']; split
        · rfl
        · exact hDj
      · have := h2 i hil (by rw [hD', if_pos rfl])
        simpa [frOf, he] using this
    have hfrnew : ∀ k, k ∈ e.fr → s.ρ k = none := by
      intro k hk
      refine g.new k ⟨?_, fun j hj hDj hm => ?_⟩
      · have h1 := List.all_eq_true.1 (List.all_eq_true.1 hfresh e (List.mem_of_getElem? he)) k hk
        simp only [Bool.and_eq_true, decide_eq_true_eq] at h1
        exact h1.1
      · have hji : j ≠ i := by rintro rfl; rw [hDi] at hDj; cases hDj
        obtain ⟨ej, hej⟩ : ∃ e, es[j]? = some e := ⟨_, List.getElem?_eq_getElem (by omega)⟩
        simp only [frOf, hej, Option.map_some, Option.getD_some] at hm
        rcases Nat.lt_or_gt_of_ne hji with hlt | hlt
        · have := List.all_eq_true.1 (List.all_eq_true.1 hapart i (by simp; omega)) j (by simp [hlt])
          simp only [hej, he, List.all_eq_true] at this
          have := this k hm
          simp at this
          exact this hk
        · have := List.all_eq_true.1 (List.all_eq_true.1 hapart j (by simp; omega)) i (by simp [hlt])
          simp only [hej, he, List.all_eq_true] at this
          have := this k hk
          simp at this
          exact this hm
    have hEle := restE_le (E := stE os es E allD i) (E' := stE os es E (dOf listed) os.length) (l := o.looksAt os.toArray) sE
    have next : ∀ (fr : List Nat) (v : Value) (s' : Sg) (w' : World), e.fr = fr → Post s w fr (if e.run then e.U else []) s' w' → (∀ av, e.val = some av → Rel s' w' av v) → wpAny P .any os.toArray Q fuel (listed.setIfInBounds i true) (a.put o.dst v) w' := by
      intro fr v s' w' hfr p hr
      subst hfr
      refine ih _ s' w' _ (by simp [hl]) hcount' hc' ?_ hnx
      refine g.put (dstOk_spec hdst) hNw p hr hEn fun k => ?_
      rw [hHn]
      unfold Ent.upd
      split <;> rfl
    have yes : ∀ (res : Option AV) (U : List (Nat × Option Blk)) (fr R : List Nat), e = ⟨true, res, U, fr, R⟩ → AOp P o (restE (stE os es E allD i) (o.looksAt os.toArray)) (restH (stH es H allD i) (R ++ U.map (·.1))) fr res U →
        o.wp P a w (wpAny P .any os.toArray Q fuel (listed.setIfInBounds i true)) Q := by
      intro res U fr R hee hop
      subst hee
      refine hop s w a _ Q g.ok (fun t av h => g.env t av (hEle t av h)) (fun k B h => ?_) hfrnew fun v s' w' p hr => next fr v s' w' rfl p hr
      rw [g.hp]
      refine restH_le (H := stH es H allD i) (fun k hk => ?_) k B h
      refine sH k ?_
      simp only [List.mem_append] at hk
      rcases hk with hk | hk
      · exact .inl hk
      · exact .inr (by simpa [Ent.dom] using hk)
    have gm : Gm C (stE os es E (dOf listed) os.length) (stH es H (dOf listed) os.length) (max C.n nx') s w a :=
      ⟨g.ok0, g.ok, g.env, g.hp, fun k hk => g.new k ⟨by omega, fun j hj _ hm => by
        obtain ⟨ej, hej⟩ : ∃ e, es[j]? = some e := ⟨_, List.getElem?_eq_getElem (by omega)⟩
        simp only [frOf, hej, Option.map_some, Option.getD_some] at hm
        have h1 := List.all_eq_true.1 (List.all_eq_true.1 hfresh ej (List.mem_of_getElem? hej)) k hm
        simp only [Bool.and_eq_true, decide_eq_true_eq] at h1
        omega⟩, by omega, g.size, g.defers, g.glob⟩
    unfold wpOp
    simp only [List.getElem?_toArray, ho]
    cases hent with
    | @plain res U fr R hg hop =>
      rw [if_pos (by simp [Region.wanted, hg])]
      exact .inl (yes res U fr R rfl hop)
    | @yes res U fr R j t b hg hj hE hop =>
      have hw : Region.wanted o (yielded os.toArray a.tmps) = true := by simp [Region.wanted, hg, yielded_of gm hj (hEle t _ hE)]
      rw [if_pos hw]
      exact .inl (yes res U fr R rfl hop)
    | @no j t b hg hj hE =>
      have hw : ¬ Region.wanted o (yielded os.toArray a.tmps) = true := by simp [Region.wanted, hg, yielded_of gm hj (hEle t _ hE)]
      rw [if_neg hw]
      exact next [] undef s w rfl (Post.refl g.ok) (by rintro av h; simp [Ent.val] at h; subst h; exact .tup rfl (by simp))
    | @unasked j t b hg hj hE =>
      have hw : ¬ Region.wanted o (yielded os.toArray a.tmps) = true := by simp [Region.wanted, hg, yielded_none gm hj (hEle t _ hE)]
      rw [if_neg hw]
      exact next [] undef s w rfl (Post.refl g.ok) (by rintro av h; simp [Ent.val] at h; subst h; exact .tup rfl (by simp))
theorem AWP.region_any {id nx nx' : Nat} {Q : APost} (hm : P.follows .mixedOrders = true) (es : List Ent) (htr : TrOk P os.toArray C.N os es E H) {an : List (List Nat)} (har : AncR os an) (hcalm : calmB os.toArray os es an = true) (hback : backB os = true) (hfresh : freshB es nx nx' = true) (hapart : apartB es = true) (hnx : nx ≤ nx')
    (h : Q .normal (stE os es E allD os.length) (stH es H allD os.length) nx') : AWP P C (.region id os.toArray true) Q E H nx := by
  intro s w a g
  have hrep : ∀ i, dOf (Array.replicate os.length false) i = false := by
    intro i
    unfold dOf
    by_cases h : i < os.length <;> simp [h, Array.getElem?_replicate]
  have hE0 : ∀ t, stE os es E (dOf (Array.replicate os.length false)) os.length t = E t := fun t => stE_skip (m := 0) os.length (by omega) fun i _ _ _ => hrep i
  have hH0 : ∀ t, stH es H (dOf (Array.replicate os.length false)) os.length t = H t := fun t => stH_skip (m := 0) os.length (by omega) fun i _ _ _ => hrep i
  have g' := g.drew
  refine wp_region_any hm ?_
  have := region_any_core (P := P) (C := C) (E := E) (H := H) es htr har hcalm hback hfresh hapart (Q := fun e a' w' => ∃ s' E' H' nx', Gm C E' H' nx' s' w' a' ∧ Q e E' H' nx')
    (fun s w a gd => ⟨s, _, _, nx', gd.gm (Nat.le_trans g.le hnx), h⟩) os.length (Array.replicate os.length false) s _ a (by simp) ?_ ?_
    ⟨g'.ok0, g'.ok, fun t av h => g'.env t av (by rw [← hE0]; exact h), by rw [g'.hp]; funext k; exact (hH0 k).symm, fun k hk => g'.new k hk.1, g'.size, g'.defers, g'.glob⟩ hnx
  · simpa using this
  · rw [List.countP_eq_length.2 (fun i _ => by simp [hrep])]; simp
  · intro i o e hi
    rw [hrep] at hi; cases hi
end
end Go.Abs
namespace Go.Abs
def AV.data : AV → Bool
  | .lit _ => true
  | .ro _ _ => true
  | .rp _ _ => true
  | _ => false
theorem Rel.data {s : Sg} {w : World} {x : AV} {v : Value} (h : Rel s w x v) (hd : x.data = true) : Rep s.mut w x v := by
  cases h with
  | rep h => exact h
  | _ => cases hd
theorem own_ro {s : Sg} {w : World} (ok : OK s w) {k esz off m b cap : Nat} {fr : Bool} {els : List (List AV)} {cs : Array Value} {ty : TypeId} {fz : Nat × Nat} {F : Nat → Prop} (hk : s.hp k = some (.arr fr esz els)) (hrr : s.ρ k = some (some b))
    (hb : w.heap[b]? = some (.cells cs ty fz)) (hn : m ≤ cap) (hc : cap ≤ maxLen) (hle : off + m ≤ els.length) (hnot : ¬ F b) (hF : ∀ b', F b' → (if fr then s.old else s.mut) b') :
    Rep F w (.ro esz ((els.drop off).take m)) (.slice (some ⟨b, off * esz, none⟩) m cap) := by
  have hml : ((els.drop off).take m).length = m := by simp; omega
  obtain ⟨z, hz, hok⟩ := ok.blk k _ hk
  rw [hrr] at hz; cases hz
  rcases hok with ⟨h0, _⟩ | ⟨b', cs', ty', e1, h1, h2, h3, h4⟩
  · cases h0
  · cases e1
    rw [hb] at h1; cases h1
    have hblt : b < w.heap.size := (Array.getElem?_eq_some_iff.1 hb).1
    have hget : ∀ (q : Nat) (row : List AV), ((els.drop off).take m)[q]? = some row → els[off + q]? = some row := by
      intro q row h
      simp only [List.getElem?_take, List.getElem?_drop] at h
      split at h
      · exact h
      · cases h
    have := Rep.ro (F := F) (w := w) (esz := esz) (xs := (els.drop off).take m) (b := b) (off := off * esz) (cap := cap)
      (fun q p => cs.getD ((off + q) * esz + p) undef) hnot hblt (by omega) hc (fun q row h => h3 _ row (hget q row h))
      (fun q row p av h h' => by
        obtain ⟨v, hv, _⟩ := h4 _ row p av (hget q row h) h'
        rw [cell_of_row w b _ cs ty _ hb, show off * esz + (q * esz + p) = (off + q) * esz + p from by rw [Nat.add_mul]; omega, hv]
        simp [hv])
      (fun q row p av h h' => by
        obtain ⟨v, hv, hrep⟩ := h4 _ row p av (hget q row h) h'
        simp only [Array.getD_eq_getD_getElem?, hv, Option.getD_some]
        exact hrep.weaken fun b _ hb => hF b hb)
    rwa [hml] at this
inductive Le (fsh : Bool) (f : Nat → Nat) (ks : List Nat) (H : Hp) : AV → AV → Prop
  | lit {v : Value} : Le fsh f ks H (.lit v) (.lit v)
  | ro {e : Nat} {xs : List (List AV)} : Le fsh f ks H (.ro e xs) (.ro e xs)
  | rp {xs : List AV} {j : Nat} : Le fsh f ks H (.rp xs j) (.rp xs j)
  | fr {x : AV} : Le fsh f ks H (.fr x) (.fr x)
  | unfr {x : AV} : Le fsh f ks H (.fr x) x
  | frlit {v : Value} : Le fsh f ks H (.lit v) (.fr (.lit v))
  | emp : Le fsh f ks H .emp .emp
  | emp_ro {e : Nat} : Le fsh f ks H .emp (.ro e [])
  | emp_fr {e : Nat} : Le fsh f ks H .emp (.fr (.ro e []))
  | nil_ro {A : Option Addr} {c e : Nat} (h : c ≤ maxLen) : Le fsh f ks H (.lit (.slice A 0 c)) (.ro e [])
  | nil_fr {A : Option Addr} {c e : Nat} (h : c ≤ maxLen) : Le fsh f ks H (.lit (.slice A 0 c)) (.fr (.ro e []))
  | nil_emp {A : Option Addr} : Le fsh f ks H (.lit (.slice A 0 0)) .emp
  | ptr {k k' a b c : Nat} (hk : k ∈ ks) (he : f k = k') : Le fsh f ks H (.ptr k' a b c) (.ptr k a b c)
  | sl {k k' a b c : Nat} (hk : k ∈ ks) (he : f k = k') {fr : Bool} {els : List (List AV)} (hH : H k' = some (.arr fr a els)) : Le fsh f ks H (.sl k' a b c) (.sl k a b c)
  | mp {k k' : Nat} (hk : k ∈ ks) (he : f k = k') : Le fsh f ks H (.mp k') (.mp k)
  | freeze {k esz off m : Nat} {fr : Bool} {els rows : List (List AV)} (hH : H k = some (.arr fr esz els)) (hk : ∀ j, j ∈ ks → f j ≠ k) (hle : off + m ≤ els.length) (hr : (els.drop off).take m = rows) : Le fsh f ks H (.sl k esz off m) (.ro esz rows)
  | freezeF {k esz off m : Nat} {els rows : List (List AV)} (hf : fsh = true) (hH : H k = some (.arr true esz els)) (hk : ∀ j, j ∈ ks → f j ≠ k) (hle : off + m ≤ els.length) (hr : (els.drop off).take m = rows) : Le fsh f ks H (.sl k esz off m) (.fr (.ro esz rows))
  | pfreeze {k : Nat} {cells cells' : List AV} (hH : H k = some (.box cells)) (hk : ∀ j, j ∈ ks → f j ≠ k) (hl : cells.length = cells'.length)
      (h : ∀ (i : Nat) (x y : AV), cells[i]? = some x → cells'[i]? = some y → Le fsh f ks H x y) (hd : cells'.all AV.data = true) (o : Nat) : Le fsh f ks H (.ptr k 0 0 o) (.rp cells' o)
  | agg {xs ys : List AV} (hl : xs.length = ys.length) (h : ∀ (i : Nat) (x y : AV), xs[i]? = some x → ys[i]? = some y → Le fsh f ks H x y) : Le fsh f ks H (.agg xs) (.agg ys)
  | tup {xs ys : List AV} (hl : xs.length = ys.length) (h : ∀ (i : Nat) (x y : AV), xs[i]? = some x → ys[i]? = some y → Le fsh f ks H x y) : Le fsh f ks H (.tup xs) (.tup ys)
  | fn {g : FuncId} {xs ys : List AV} (hl : xs.length = ys.length) (h : ∀ (i : Nat) (x y : AV), xs[i]? = some x → ys[i]? = some y → Le fsh f ks H x y) : Le fsh f ks H (.fn g xs) (.fn g ys)
inductive LeB (fsh : Bool) (f : Nat → Nat) (ks : List Nat) (H : Hp) : Blk → Blk → Prop
  | box {xs ys : List AV} (hl : xs.length = ys.length) (h : ∀ (i : Nat) (x y : AV), xs[i]? = some x → ys[i]? = some y → Le fsh f ks H x y) : LeB fsh f ks H (.box xs) (.box ys)
  | arr {fr : Bool} {esz : Nat} {els els' : List (List AV)} (he : els = els') : LeB fsh f ks H (.arr fr esz els) (.arr fr esz els')
  | arr0 {fr : Bool} {esz : Nat} {els els' : List (List AV)} (he : els = els') : LeB fsh f ks H (.arr fr esz els) (.arr false esz els')
  | map {es : List (Value × Value)} : LeB fsh f ks H (.map es) (.map es)
inductive EnvLe (fsh : Bool) (f : Nat → Nat) (ks : List Nat) (H : Hp) (E : Env) : List (Nat × AV) → Prop
  | nil : EnvLe fsh f ks H E []
  | cons {t : Nat} {x y : AV} {l : List (Nat × AV)} (hE : E t = some x) (h : Le fsh f ks H x y) (hl : EnvLe fsh f ks H E l) : EnvLe fsh f ks H E ((t, y) :: l)
inductive HpLe (fsh : Bool) (f : Nat → Nat) (ks : List Nat) (H : Hp) : List (Nat × Blk) → Prop
  | nil : HpLe fsh f ks H []
  | cons {k : Nat} {x y : Blk} {m : List (Nat × Blk)} (hH : H (f k) = some x) (h : LeB fsh f ks H x y) (hm : HpLe fsh f ks H m) : HpLe fsh f ks H ((k, y) :: m)
theorem EnvLe.at {fsh : Bool} {f : Nat → Nat} {ks : List Nat} {H : Hp} {E : Env} : ∀ {l : List (Nat × AV)}, EnvLe fsh f ks H E l → ∀ t y, envOf l t = some y → ∃ x, E t = some x ∧ Le fsh f ks H x y
  | _, .nil, t, y, h => by cases h
  | _, .cons hE h hl, t, y, he => by
    simp only [envOf] at he
    split at he
    · rename_i e; subst e; cases he; exact ⟨_, hE, h⟩
    · exact hl.at t y he
theorem HpLe.at {fsh : Bool} {f : Nat → Nat} {ks : List Nat} {H : Hp} : ∀ {m : List (Nat × Blk)}, HpLe fsh f ks H m → ∀ k y, hpOf m k = some y → k ∈ m.map (·.1) ∧ ∃ x, H (f k) = some x ∧ LeB fsh f ks H x y
  | _, .nil, t, y, h => by cases h
  | _, .cons hE h hl, t, y, he => by
    simp only [hpOf] at he
    split at he
    · rename_i e; subst e; cases he; exact ⟨by simp, _, hE, h⟩
    · obtain ⟨h1, h2⟩ := hl.at t y he
      exact ⟨by simp [h1], h2⟩
theorem hpOf_mem : ∀ {m : List (Nat × Blk)} {k : Nat}, k ∈ m.map (·.1) → hpOf m k ≠ none
  | [], k, h => by simp at h
  | (a, x) :: m, k, h => by
    simp only [hpOf]
    split
    · simp
    · rename_i hne
      simp only [List.map_cons, List.mem_cons] at h
      exact hpOf_mem (h.resolve_left hne)
section
variable {C : Cx} {E : Env} {H : Hp} {nx : Nat}
def renSg (s : Sg) (f : Nat → Nat) (nx' : Nat) (m : List (Nat × Blk)) : Sg := { s with ρ := fun k => if k < nx' then s.ρ (f k) else none, hp := hpOf m }
theorem le_rel {s : Sg} {w : World} {fsh : Bool} {f : Nat → Nat} {nx' : Nat} {m : List (Nat × Blk)} (ok : OK s w) (hp : s.hp = H) (hks : ∀ k, k ∈ m.map (·.1) → k < nx') (hm : HpLe fsh f (m.map (·.1)) H m)
    (hinj : ∀ k k', k ∈ m.map (·.1) → k' ∈ m.map (·.1) → f k = f k' → k = k') (hfsh : fsh = true → ∀ k b, s.hp k ≠ none → s.ρ k = some (some b) → s.n0 ≤ b)
    {x y : AV} (h : Le fsh f (m.map (·.1)) H x y) {v : Value} (hr : Rel s w x v) : Rel (renSg s f nx' m) w y v := by
  have hmem : ∀ k, (renSg s f nx' m).hp k ≠ none → k ∈ m.map (·.1) := by
    intro k hk
    cases hy : hpOf m k with
    | none => exact absurd hy hk
    | some y => exact (hm.at k y hy).1
  have hown : ∀ k b, (renSg s f nx' m).hp k ≠ none → (renSg s f nx' m).ρ k = some (some b) → s.hp (f k) ≠ none ∧ s.ρ (f k) = some (some b) := by
    intro k b hk hrr
    have h1 := hks k (hmem k hk)
    have h2 : (if k < nx' then s.ρ (f k) else none) = some (some b) := hrr
    rw [if_pos h1] at h2
    refine ⟨?_, h2⟩
    cases hy : hpOf m k with
    | none => exact absurd hy hk
    | some y =>
      obtain ⟨_, x, hx, _⟩ := hm.at k y hy
      rw [hp, hx]; simp
  have hmut : ∀ b, (renSg s f nx' m).mut b → s.mut b := by
    rintro b (h | ⟨k, hk, hrr⟩)
    · exact .inl h
    · obtain ⟨h1, h2⟩ := hown k b hk hrr
      exact .inr ⟨_, h1, h2⟩
  have hold : ∀ b, (renSg s f nx' m).old b → s.old b := by
    rintro b (h | h)
    · exact .inl (hmut b h)
    · exact .inr h
  have frozen : ∀ k b, s.hp k ≠ none → s.ρ k = some (some b) → (∀ j, j ∈ m.map (·.1) → f j ≠ k) → ¬ (renSg s f nx' m).mut b := by
    rintro k b hk hrk hne (h | ⟨j, hj, hrj⟩)
    · exact ok.dis k b hk hrk h
    · obtain ⟨h1, h2⟩ := hown j b hj hrj
      exact hne j (hmem j hj) (ok.inj _ _ b h1 hk h2 hrk)
  induction h generalizing v with
  | lit => cases hr with | rep h => exact .rep (h.weaken fun b _ => hmut b)
  | ro => cases hr with | rep h => exact .rep (h.weaken fun b _ => hmut b)
  | rp => cases hr with | rep h => exact .rep (h.weaken fun b _ => hmut b)
  | fr =>
    cases hr with
    | rep h => cases h
    | fr h => exact .fr (h.weaken fun b _ => hold b)
  | unfr =>
    cases hr with
    | rep h => cases h
    | fr h => exact .rep (h.weaken fun b _ hb => .inl (hmut b hb))
  | frlit => cases hr with | rep h => exact .fr (Rep.lit_any h)
  | emp =>
    cases hr with
    | rep h => cases h
    | emp => exact .emp
  | emp_ro =>
    cases hr with
    | rep h => cases h
    | emp => exact .rep (.nil (Nat.zero_le _))
  | emp_fr =>
    cases hr with
    | rep h => cases h
    | emp => exact .fr (.nil (Nat.zero_le _))
  | nil_ro hc => rw [Rel.lit_eq hr]; exact .rep (.nil hc)
  | nil_fr hc => rw [Rel.lit_eq hr]; exact .fr (.nil hc)
  | nil_emp => rw [Rel.lit_eq hr]; exact .emp
  | ptr hk he =>
    cases hr with
    | rep h => cases h
    | ptr h => exact .ptr (by show (if _ then _ else _) = _; rw [if_pos (hks _ hk), he]; exact h)
  | @sl k k' a b c hk he fr els hHk =>
    have hρ : ∀ {z}, s.ρ k' = some z → (renSg s f nx' m).ρ k = some z := by
      intro z hz
      show (if _ then _ else _) = _
      rw [if_pos (hks _ hk), he]; exact hz
    have hhp : ∃ fr', (renSg s f nx' m).hp k = some (.arr fr' a els) := by
      cases hy : hpOf m k with
      | none => exact absurd hy (hpOf_mem hk)
      | some y =>
        obtain ⟨_, x, hx, hxy⟩ := hm.at k y hy
        rw [he, hHk] at hx
        cases hx
        cases hxy with
        | arr e => subst e; exact ⟨_, hy⟩
        | arr0 e => subst e; exact ⟨_, hy⟩
    obtain ⟨fr', hhp⟩ := hhp
    cases hr with
    | rep h => cases h
    | slg _ hpn => rw [hp, hHk] at hpn; cases hpn
    | @sl _ _ _ _ bb cap fr0 els' cs ty fz hrr hpp hle hb hn hc hsz =>
      rw [hp, hHk] at hpp; cases hpp
      exact .sl (hρ hrr) hhp hle hb hn hc hsz
    | sln h => exact .sln (hρ h)
  | mp hk he =>
    cases hr with
    | rep h => cases h
    | mp h => exact .mp (by show (if _ then _ else _) = _; rw [if_pos (hks _ hk), he]; exact h)
  | @freeze k esz off mm fr els rows hHk hk hle hrows =>
    subst hrows
    obtain ⟨A, cp, news, hs⟩ := own_src ok (by rw [hp]; exact hHk) hr hle
    have hml : ((els.drop off).take mm).length = mm := by simp; omega
    refine .rep ?_
    cases hr with
    | rep h => cases h
    | slg _ hpn => rw [hp, hHk] at hpn; cases hpn
    | sln => simp only [List.take_zero]; exact .nil (Nat.zero_le _)
    | @sl _ _ _ _ b cap fr0 els' cs ty fz hrr hpp hle' hb hn hc hsz =>
      rw [hp, hHk] at hpp; cases hpp
      have hnot := frozen k b (by rw [hp, hHk]; simp) hrr hk
      exact own_ro ok (by rw [hp]; exact hHk) hrr hb hn hc hle hnot fun b' hb' => by
        cases fr
        · exact hmut b' hb'
        · exact .inl (hmut b' hb')
  | @freezeF k esz off mm els rows hf hHk hk hle hrows =>
    subst hrows
    have hml : ((els.drop off).take mm).length = mm := by simp; omega
    refine .fr ?_
    cases hr with
    | rep h => cases h
    | slg _ hpn => rw [hp, hHk] at hpn; cases hpn
    | sln => simp only [List.take_zero]; exact .nil (Nat.zero_le _)
    | @sl _ _ _ _ b cap fr0 els' cs ty fz hrr hpp hle' hb hn hc hsz =>
      rw [hp, hHk] at hpp; cases hpp
      have hnot := frozen k b (by rw [hp, hHk]; simp) hrr hk
      have hge := hfsh hf k b (by rw [hp, hHk]; simp) hrr
      exact own_ro (fr := true) ok (by rw [hp]; exact hHk) hrr hb hn hc hle (by
        rintro (h | h)
        · exact hnot h
        · have : b < s.n0 := h
          omega) hold
  | @pfreeze k cells cells' hHk hk hl h hd o ih =>
    cases hr with
    | rep h => cases h
    | ptr hrr =>
      rename_i b
      obtain ⟨z, hz, b', cs, ty, rfl, hb, hcs, hrel⟩ := ok.blk k _ (by rw [hp]; exact hHk)
      rw [hrr] at hz; cases hz
      have hnot := frozen k b (by rw [hp, hHk]; simp) hrr hk
      have hcell : ∀ (i : Nat) (av : AV), cells'[i]? = some av → ∃ u, cs[i]? = some u ∧ Rep (renSg s f nx' m).mut w av u := by
        intro i av hi
        have hlt : i < cells.length := by rw [hl]; exact (List.getElem?_eq_some_iff.1 hi).1
        have hx := List.getElem?_eq_getElem hlt
        have hg : cs[i]? = some (cs[i]'(by omega)) := Array.getElem?_eq_getElem _
        exact ⟨_, hg, (ih i _ av hx hi (hrel i _ _ hx hg)).data (List.all_eq_true.1 hd av (List.mem_of_getElem? hi))⟩
      have := Rep.rp (F := (renSg s f nx' m).mut) (w := w) (xs := cells') (o := o) (b := b) (off := 0 * 0) (fun i => cs.getD i undef) hnot (Array.getElem?_eq_some_iff.1 hb).1
        (fun i av hi => by
          obtain ⟨u, hu, _⟩ := hcell i av hi
          rw [cell_of_row w b _ cs ty _ hb, Nat.zero_mul, Nat.zero_add]
          simp [hu])
        (fun i av hi => by
          obtain ⟨u, hu, hrep⟩ := hcell i av hi
          simpa [hu] using hrep)
      exact .rep this
  | agg hl _ ih =>
    cases hr with
    | rep h => cases h
    | agg hl' hr =>
      refine .agg (by omega) fun i av v h1 h2 => ?_
      have hlt := (List.getElem?_eq_some_iff.1 h1).1
      rw [← hl] at hlt
      have hx := List.getElem?_eq_getElem hlt
      exact ih i _ av hx h1 (hr i _ v hx h2)
  | tup hl _ ih =>
    cases hr with
    | rep h => cases h
    | tup hl' hr =>
      refine .tup (by omega) fun i av v h1 h2 => ?_
      have hlt := (List.getElem?_eq_some_iff.1 h1).1
      rw [← hl] at hlt
      have hx := List.getElem?_eq_getElem hlt
      exact ih i _ av hx h1 (hr i _ v hx h2)
  | fn hl _ ih =>
    cases hr with
    | rep h => cases h
    | fn hl' hr =>
      refine .fn (by omega) fun i av v h1 h2 => ?_
      have hlt := (List.getElem?_eq_some_iff.1 h1).1
      rw [← hl] at hlt
      have hx := List.getElem?_eq_getElem hlt
      exact ih i _ av hx h1 (hr i _ v hx h2)
theorem ALe.mk (fsh : Bool) (f : Nat → Nat) (nx' : Nat) (l : List (Nat × AV)) (m : List (Nat × Blk)) (hf : ∀ k, k < C.n → f k = k) (hn : C.n ≤ nx') (hks : (m.map (·.1)).all (fun k => decide (k < nx')) = true)
    (hinj : ∀ k k', k ∈ m.map (·.1) → k' ∈ m.map (·.1) → f k = f k' → k = k') (hfsh : fsh = true → C.s.n0 = C.w.heap.size ∧ C.s.hp = fun _ => none)
    (hm : HpLe fsh f (m.map (·.1)) H m) (he : EnvLe fsh f (m.map (·.1)) H E l) : ALe C E H nx (envOf l) (hpOf m) nx' := by
  intro s w a g
  have hks' : ∀ k, k ∈ m.map (·.1) → k < nx' := fun k hk => by
    have := List.all_eq_true.1 hks k hk
    simpa using this
  have hfsh' : fsh = true → ∀ k b, s.hp k ≠ none → s.ρ k = some (some b) → s.n0 ≤ b := by
    intro h k b hk hr
    obtain ⟨h1, h2⟩ := hfsh h
    rcases g.glob.own k b hk hr with ⟨k0, h3, _⟩ | h3
    · rw [h2] at h3; exact absurd rfl h3
    · rw [g.glob.n0, h1]; exact h3
  have rel := fun {x y v} => le_rel (x := x) (y := y) (v := v) g.ok g.hp hks' hm hinj hfsh'
  have hmem : ∀ k y, hpOf m k = some y → k ∈ m.map (·.1) ∧ ∃ x, s.hp (f k) = some x ∧ LeB fsh f (m.map (·.1)) H x y := by
    intro k y hy
    obtain ⟨h1, x, hx, hxy⟩ := hm.at k y hy
    exact ⟨h1, x, by rw [g.hp]; exact hx, hxy⟩
  have hρ : ∀ k, k < nx' → (renSg s f nx' m).ρ k = s.ρ (f k) := fun k hk => by
    show (if _ then _ else _) = _
    rw [if_pos hk]
  have hown : ∀ k b, (renSg s f nx' m).hp k ≠ none → (renSg s f nx' m).ρ k = some (some b) → k ∈ m.map (·.1) ∧ s.hp (f k) ≠ none ∧ s.ρ (f k) = some (some b) := by
    intro k b hk hr
    cases hy : hpOf m k with
    | none => exact absurd hy hk
    | some y =>
      obtain ⟨h1, x, hx, _⟩ := hmem k y hy
      rw [hρ k (hks' k h1)] at hr
      exact ⟨h1, by rw [hx]; simp, hr⟩
  have hmut : ∀ b, (renSg s f nx' m).mut b → s.mut b := by
    rintro b (h | ⟨k, hk, hrr⟩)
    · exact .inl h
    · obtain ⟨_, h1, h2⟩ := hown k b hk hrr
      exact .inr ⟨_, h1, h2⟩
  have hold : ∀ b, (renSg s f nx' m).old b → s.old b := by
    rintro b (h | h)
    · exact .inl (hmut b h)
    · exact .inr h
  refine ⟨renSg s f nx' m, g.ok0, ?_, ?_, rfl, fun k hk => ?_, hn, g.size, g.defers, ?_⟩
  · refine ⟨g.ok.bM, g.ok.n0, fun k y hy => ?_, fun k k' b hk hk' hr hr' => ?_, fun k b hk hr => ?_⟩
    · obtain ⟨h1, x, hx, hxy⟩ := hmem k y hy
      obtain ⟨z, hz, hok⟩ := g.ok.blk _ _ hx
      refine ⟨z, by rw [hρ k (hks' k h1)]; exact hz, ?_⟩
      cases hxy with
      | box hl h =>
        obtain ⟨b, cs, ty, rfl, hb, hcs, hrel⟩ := hok
        refine ⟨b, cs, ty, rfl, hb, by omega, fun i av v h1 h2 => ?_⟩
        have hlt := (List.getElem?_eq_some_iff.1 h1).1
        rw [← hl] at hlt
        have hx := List.getElem?_eq_getElem hlt
        exact rel (h i _ av hx h1) (hrel i _ v hx h2)
      | @arr fr esz els els' e =>
        subst e
        rcases hok with h | ⟨b, cs, ty, rfl, hb, h1, h2, h3⟩
        · exact .inl h
        · refine .inr ⟨b, cs, ty, rfl, hb, h1, h2, fun j row i av h4 h5 => ?_⟩
          obtain ⟨v, hv, hrep⟩ := h3 j row i av h4 h5
          refine ⟨v, hv, hrep.weaken fun b _ hb => ?_⟩
          cases fr
          · exact hmut b hb
          · exact hold b hb
      | @arr0 fr esz els els' e =>
        subst e
        rcases hok with h | ⟨b, cs, ty, rfl, hb, h1, h2, h3⟩
        · exact .inl h
        · refine .inr ⟨b, cs, ty, rfl, hb, h1, h2, fun j row i av h4 h5 => ?_⟩
          obtain ⟨v, hv, hrep⟩ := h3 j row i av h4 h5
          refine ⟨v, hv, hrep.weaken fun b _ hb => ?_⟩
          cases fr
          · exact hmut b hb
          · exact .inl (hmut b hb)
      | map => exact hok
    · obtain ⟨h1, h2, h3⟩ := hown k b hk hr
      obtain ⟨h4, h5, h6⟩ := hown k' b hk' hr'
      exact hinj k k' h1 h4 (g.ok.inj _ _ b h2 h5 h3 h6)
    · obtain ⟨_, h2, h3⟩ := hown k b hk hr
      exact g.ok.dis _ b h2 h3
  · intro t y hy
    obtain ⟨x, hx, hxy⟩ := he.at t y hy
    exact rel hxy (g.env t x hx)
  · show (if _ then _ else _) = _
    rw [if_neg (by omega)]
  · refine ⟨g.glob.M, g.glob.n0, fun k x hk h => ?_, g.glob.size, g.glob.os, g.glob.tape, g.glob.output, g.glob.keep, fun k b hk hr => ?_, fun k hk h1 h2 => ?_, fun k fr esz els hk h => ?_⟩
    · rw [hρ k (by omega), hf k hk]; exact g.glob.rho k x hk h
    · obtain ⟨_, h2, h3⟩ := hown k b hk hr
      exact g.glob.own _ b h2 h3
    · have h3 := g.glob.dead k hk h1 h2
      cases hy : hpOf m k with
      | none => exact hy
      | some y =>
        obtain ⟨_, x, hx, _⟩ := hmem k y hy
        rw [hf k hk, h3] at hx; cases hx
    · cases hy : hpOf m k with
      | none => exact .inl hy
      | some y =>
        obtain ⟨_, x, hx, hxy⟩ := hmem k y hy
        rw [hf k hk] at hx
        rcases g.glob.arr k fr esz els hk h with h3 | ⟨f1, e1, h3, h4, h5⟩
        · rw [h3] at hx; cases hx
        · rw [h3] at hx; cases hx
          right
          cases hxy with
          | arr e => subst e; exact ⟨_, _, hy, h4, h5⟩
          | arr0 e => subst e; exact ⟨_, _, hy, h4, h5⟩
end
end Go.Abs
namespace Go.Abs
theorem nl {a b : Nat} (h : Nat.ble a b = true) : a ≤ b := Nat.le_of_ble_eq_true h
theorem wi {x r : Int} (h : -9223372036854775808 ≤ x ∧ x ≤ 9223372036854775807) (e : x = r) : IntKind.i64.wrap x = r := by rw [IntWalk.i64_in _ h]; exact e
section
variable {P : Program} {C : Cx} {ops : Array Oper} {l : List Oper} {E : Env} {H : Hp} {nx : Nat} {K : Env → Hp → Nat → Prop} {o : Oper} {res : Option AV} {U : List (Nat × Option Blk)}
theorem ASeq.p (ho : AOp P o E H [] res []) (h : ASeq P C ops l (updE E o.dst res) H nx K) (hg : o.guard = none := by rfl) (hd : dstOk C.N o = true := by rfl) : ASeq P C ops (o :: l) E H nx K :=
  ASeq.cons nx hg ho hd (Nat.le_refl _) (by simp) h
theorem ASeq.c0 (ho : AOp P o E H [] res U) (h : ASeq P C ops l (updE E o.dst res) (updH H U) nx K) (hg : o.guard = none := by rfl) (hd : dstOk C.N o = true := by rfl) : ASeq P C ops (o :: l) E H nx K :=
  ASeq.cons nx hg ho hd (Nat.le_refl _) (by simp) h
theorem ASeq.c1 (ho : AOp P o E H [nx] res U) (h : ASeq P C ops l (updE E o.dst res) (updH H U) (nx + 1) K) (hg : o.guard = none := by rfl) (hd : dstOk C.N o = true := by rfl) : ASeq P C ops (o :: l) E H nx K :=
  ASeq.cons (nx + 1) hg ho hd (by omega) (by simp) h
theorem ASeq.c2 (ho : AOp P o E H [nx, nx + 1] res U) (h : ASeq P C ops l (updE E o.dst res) (updH H U) (nx + 2) K) (hg : o.guard = none := by rfl) (hd : dstOk C.N o = true := by rfl) : ASeq P C ops (o :: l) E H nx K :=
  ASeq.cons (nx + 2) hg ho hd (by omega) (by simp) h
theorem ASeq.py {j t : Nat} {b : Bool} (ho : AOp P o E H [] res []) (hj : (ops[j]?).bind (·.dst) = some t) (hE : E t = some (.lit (.bool b))) (h : ASeq P C ops l (updE E o.dst res) H nx K) (hg : o.guard = some (j, b) := by rfl) (hd : dstOk C.N o = true := by rfl) : ASeq P C ops (o :: l) E H nx K :=
  ASeq.cons_yes nx hg hj hE ho hd (Nat.le_refl _) (by simp) h
end
def lkN : List (Nat × Nat) → Nat → Nat
  | [], k => k
  | (a, b) :: r, k => if Nat.beq k a then b else lkN r k
def injB (f : Nat → Nat) (ks : List Nat) : Bool := ks.all fun k => ks.all fun k' => !(Nat.beq (f k) (f k')) || Nat.beq k k'
def idB (f : Nat → Nat) (n : Nat) : Bool := (List.range n).all fun k => Nat.beq (f k) k
theorem injB_spec {f : Nat → Nat} {ks : List Nat} (h : injB f ks = true) : ∀ k k', k ∈ ks → k' ∈ ks → f k = f k' → k = k' := by
  intro k k' hk hk' he
  have := List.all_eq_true.1 (List.all_eq_true.1 h k hk) k' hk'
  simp only [he, Bool.or_eq_true, Bool.not_eq_true'] at this
  rcases this with h | h
  · rw [Nat.beq_refl] at h; cases h
  · exact Nat.eq_of_beq_eq_true h
theorem idB_spec {f : Nat → Nat} {n : Nat} (h : idB f n = true) : ∀ k, k < n → f k = k := fun k hk =>
  Nat.eq_of_beq_eq_true (List.all_eq_true.1 h k (by simp [hk]))
def offB (f : Nat → Nat) (ks : List Nat) (k : Nat) : Bool := ks.all fun j => !(Nat.beq (f j) k)
theorem offB_spec {f : Nat → Nat} {ks : List Nat} {k : Nat} (h : offB f ks k = true) : ∀ j, j ∈ ks → f j ≠ k := by
  intro j hj he
  have := List.all_eq_true.1 h j hj
  rw [he, Nat.beq_refl] at this; cases this
inductive LeL (fsh : Bool) (f : Nat → Nat) (ks : List Nat) (H : Hp) : List AV → List AV → Prop
  | nil : LeL fsh f ks H [] []
  | cons {x y : AV} {xs ys : List AV} (h : Le fsh f ks H x y) (ht : LeL fsh f ks H xs ys) : LeL fsh f ks H (x :: xs) (y :: ys)
theorem LeL.at {fsh : Bool} {f : Nat → Nat} {ks : List Nat} {H : Hp} {xs ys : List AV} (h : LeL fsh f ks H xs ys) : xs.length = ys.length ∧ ∀ (i : Nat) (x y : AV), xs[i]? = some x → ys[i]? = some y → Le fsh f ks H x y := by
  induction h with
  | nil => exact ⟨rfl, by simp⟩
  | cons h _ ih =>
    refine ⟨by simp [ih.1], fun i x y h1 h2 => ?_⟩
    cases i with
    | zero => simp at h1 h2; subst h1; subst h2; exact h
    | succ i => exact ih.2 i x y (by simpa using h1) (by simpa using h2)
theorem Le.aggL {fsh : Bool} {f : Nat → Nat} {ks : List Nat} {H : Hp} {xs ys : List AV} (h : LeL fsh f ks H xs ys) : Le fsh f ks H (.agg xs) (.agg ys) := .agg h.at.1 h.at.2
theorem Le.tupL {fsh : Bool} {f : Nat → Nat} {ks : List Nat} {H : Hp} {xs ys : List AV} (h : LeL fsh f ks H xs ys) : Le fsh f ks H (.tup xs) (.tup ys) := .tup h.at.1 h.at.2
theorem Le.fnL {fsh : Bool} {f : Nat → Nat} {ks : List Nat} {H : Hp} {g : FuncId} {xs ys : List AV} (h : LeL fsh f ks H xs ys) : Le fsh f ks H (.fn g xs) (.fn g ys) := .fn h.at.1 h.at.2
theorem LeB.boxL {fsh : Bool} {f : Nat → Nat} {ks : List Nat} {H : Hp} {xs ys : List AV} (h : LeL fsh f ks H xs ys) : LeB fsh f ks H (.box xs) (.box ys) := .box h.at.1 h.at.2
def AV.dataF : AV → Bool
  | .lit _ => true
  | .ro _ _ => true
  | .rp _ _ => true
  | .fr _ => true
  | .emp => true
  | _ => false
theorem Le.same {fsh : Bool} {f : Nat → Nat} {ks : List Nat} {H : Hp} {x : AV} (h : x.dataF = true) : Le fsh f ks H x x := by
  cases x <;> first | (constructor; done) | cases h
theorem LeL.same {fsh : Bool} {f : Nat → Nat} {ks : List Nat} {H : Hp} : ∀ {xs : List AV}, xs.all AV.dataF = true → LeL fsh f ks H xs xs
  | [], _ => .nil
  | x :: xs, h => by
    simp only [List.all_cons, Bool.and_eq_true] at h
    exact .cons (Le.same h.1) (LeL.same h.2)
theorem ALe.of {C : Cx} {E : Env} {H : Hp} {nx : Nat} (fsh : Bool) (F : List (Nat × Nat)) (nx' : Nat) (l : List (Nat × AV)) (m : List (Nat × Blk)) (hm : HpLe fsh (lkN F) (m.map (·.1)) H m) (he : EnvLe fsh (lkN F) (m.map (·.1)) H E l)
    (hfsh : fsh = true → C.s.n0 = C.w.heap.size ∧ C.s.hp = fun _ => none)
    (hf : idB (lkN F) C.n = true := by rfl) (hn : Nat.ble C.n nx' = true := by rfl) (hks : (m.map (·.1)).all (fun k => Nat.blt k nx') = true := by rfl) (hinj : injB (lkN F) (m.map (·.1)) = true := by rfl) :
    ALe C E H nx (envOf l) (hpOf m) nx' :=
  ALe.mk fsh (lkN F) nx' l m (idB_spec hf) (nl hn) (by
    rw [List.all_eq_true] at hks ⊢
    intro k hk
    have := hks k hk
    exact decide_eq_true (Nat.le_of_ble_eq_true this)) (injB_spec hinj) hfsh hm he
theorem AWP.weak {P : Program} {C : Cx} {E : Env} {H : Hp} {nx : Nat} {c : Code} {Q : APost} (fsh : Bool) (F : List (Nat × Nat)) (nx' : Nat) (l : List (Nat × AV)) (m : List (Nat × Blk)) (hm : HpLe fsh (lkN F) (m.map (·.1)) H m) (he : EnvLe fsh (lkN F) (m.map (·.1)) H E l)
    (hfsh : fsh = true → C.s.n0 = C.w.heap.size ∧ C.s.hp = fun _ => none) (h : AWP P C c Q (envOf l) (hpOf m) nx')
    (hf : idB (lkN F) C.n = true := by rfl) (hn : Nat.ble C.n nx' = true := by rfl) (hks : (m.map (·.1)).all (fun k => Nat.blt k nx') = true := by rfl) (hinj : injB (lkN F) (m.map (·.1)) = true := by rfl) : AWP P C c Q E H nx :=
  AWP.weaken (ALe.of fsh F nx' l m hm he hfsh hf hn hks hinj) h
section
variable {fsh : Bool} {f : Nat → Nat} {ks : List Nat} {H : Hp}
theorem anyMem {k : Nat} {ks : List Nat} (h : ks.any (Nat.beq k) = true) : k ∈ ks := by
  obtain ⟨x, hx, he⟩ := List.any_eq_true.1 h
  rw [Nat.eq_of_beq_eq_true he]; exact hx
theorem Le.ptrR {k k' a b c : Nat} (hk : ks.any (Nat.beq k) = true := by rfl) (he : f k = k' := by rfl) : Le fsh f ks H (.ptr k' a b c) (.ptr k a b c) := .ptr (anyMem hk) he
theorem Le.slR {k k' a b c : Nat} {fr : Bool} {els : List (List AV)} (hk : ks.any (Nat.beq k) = true := by rfl) (he : f k = k' := by rfl) (hH : H k' = some (.arr fr a els) := by rfl) : Le fsh f ks H (.sl k' a b c) (.sl k a b c) := .sl (anyMem hk) he hH
theorem Le.slE {k k' a b c c' : Nat} {fr : Bool} {els : List (List AV)} (e : c = c') (hk : ks.any (Nat.beq k) = true := by rfl) (he : f k = k' := by rfl) (hH : H k' = some (.arr fr a els) := by rfl) : Le fsh f ks H (.sl k' a b c) (.sl k a b c') := e ▸ .sl (anyMem hk) he hH
theorem Le.mpR {k k' : Nat} (hk : ks.any (Nat.beq k) = true := by rfl) (he : f k = k' := by rfl) : Le fsh f ks H (.mp k') (.mp k) := .mp (anyMem hk) he
theorem Le.litE {v u : Value} (e : v = u) : Le fsh f ks H (.lit v) (.lit u) := e ▸ .lit
theorem Le.roE {e : Nat} {xs ys : List (List AV)} (h : xs = ys) : Le fsh f ks H (.ro e xs) (.ro e ys) := h ▸ .ro
theorem Le.frE {x y : AV} (h : x = y) : Le fsh f ks H (.fr x) (.fr y) := h ▸ .fr
theorem Le.freezeR {k esz m : Nat} {fr : Bool} {els rows : List (List AV)} (hl : m = els.length) (hr : els = rows) (hH : H k = some (.arr fr esz els) := by rfl) (hk : offB f ks k = true := by rfl) : Le fsh f ks H (.sl k esz 0 m) (.ro esz rows) :=
  .freeze hH (offB_spec hk) (by omega) (by rw [List.drop_zero, hl, List.take_length, hr])
theorem Le.freezeFR {k esz m : Nat} {els rows : List (List AV)} (hl : m = els.length) (hr : els = rows) (hf : fsh = true := by rfl) (hH : H k = some (.arr true esz els) := by rfl) (hk : offB f ks k = true := by rfl) : Le fsh f ks H (.sl k esz 0 m) (.fr (.ro esz rows)) :=
  .freezeF hf hH (offB_spec hk) (by omega) (by rw [List.drop_zero, hl, List.take_length, hr])
theorem Le.nilRo {A : Option Addr} {e : Nat} {rows : List (List AV)} (h : rows = []) : Le fsh f ks H (.lit (.slice A 0 0)) (.ro e rows) := by rw [h]; exact .nil_ro (Nat.zero_le _)
theorem Le.nilFr {A : Option Addr} {e : Nat} {rows : List (List AV)} (h : rows = []) : Le fsh f ks H (.lit (.slice A 0 0)) (.fr (.ro e rows)) := by rw [h]; exact .nil_fr (Nat.zero_le _)
theorem Le.aggS {xs : List AV} (h : xs.all AV.dataF = true) : Le fsh f ks H (.agg xs) (.agg xs) := .aggL (.same h)
theorem LeB.boxS {xs : List AV} (h : xs.all AV.dataF = true) : LeB fsh f ks H (.box xs) (.box xs) := .boxL (.same h)
theorem LeB.mapE {es es' : List (Value × Value)} (h : es = es') : LeB fsh f ks H (.map es) (.map es') := h ▸ .map
end
section
variable {P : Program} {C : Cx} {ops : Array Oper} {l : List Oper} {E : Env} {H : Hp} {nx : Nat} {K : Env → Hp → Nat → Prop} {o : Oper} {res : Option AV} {U : List (Nat × Option Blk)} {fr : List Nat}
theorem bnot {b v : Bool} (h : b = v) : (!b) = (!v) := by rw [h]
theorem AOp.lb {b b' : Bool} (h : AOp P o E H fr (some (.lit (.bool b))) U) (e : b = b') : AOp P o E H fr (some (.lit (.bool b'))) U := e ▸ h
theorem AOp.li {k : IntKind} {b b' : Int} (h : AOp P o E H fr (some (.lit (.int k b))) U) (e : b = b') : AOp P o E H fr (some (.lit (.int k b'))) U := e ▸ h
theorem AOp.eqv {x y : AV} (h : AOp P o E H fr (some x) U) (e : x = y) : AOp P o E H fr (some y) U := e ▸ h
theorem AOp.pickE {c x y : Operand} {b v : Bool} {av : AV} (ho : o.op = .pick c x y) (hc : evO E c = some (.lit (.bool b))) (hb : b = v) (hx : (if v then evO E x else evO E y) = some av) : AOp P o E H [] (some av) [] := AOp.pick ho hc (hb ▸ hx)
theorem AOp.makeFunc {f : Nat} {cs : Array Operand} {caps : List AV} (ho : o.op = .makeFunc (.func f) #[] cs) (hc : evArgs E cs.toList = some caps) : AOp P o E H [] (some (.fn f caps)) [] :=
  AOp.reads fun s w a _ hE _ => ⟨.func (.func f) #[] (cs.map a.eval), by simp [execOp, ho, Instr.makeFunc], by
    obtain ⟨h1, h2⟩ := evArgs_rel (a := a) hE _ _ hc
    exact .fn (by simp [h1]) fun i av v h3 h4 => h2 i av v h3 (by rw [← h4]; simp)⟩
theorem AOp.appendN {t el esz bytes n n2 : Nat} {x y : Operand} {k : Nat} (k' : Nat) {f : Bool} {els rows : List (List AV)} (T : ElT P t el esz bytes) (ho : o.op = .call { callee := .builtin .append, args := #[x, y], argTypes := #[t, t] })
    (hx : evO E x = some (.sl k esz 0 n)) (hH : H k = some (.arr f esz els)) (hn : els.length = n) (hy : SrcAV E H esz f y rows)
    (hbytes : (els.length + rows.length) * bytes ≤ 140737488355328) (hmax : els.length + rows.length ≤ 140737488355328) (h2 : n + rows.length = n2) :
    AOp P o E H [k'] (some (.sl k' esz 0 n2)) [(k, none), (k', some (.arr f esz (els ++ rows)))] := h2 ▸ AOp.append k' T ho hx hH hn hy hbytes hmax
theorem AOp.append_empN {t el esz bytes n2 : Nat} {x y : Operand} (k' : Nat) (f : Bool) {rows : List (List AV)} (T : ElT P t el esz bytes) (ho : o.op = .call { callee := .builtin .append, args := #[x, y], argTypes := #[t, t] })
    (hx : evO E x = some .emp ∨ ∃ A, evO E x = some (.lit (.slice A 0 0))) (hy : SrcAV E H esz f y rows)
    (hbytes : rows.length * bytes ≤ 140737488355328) (hmax : rows.length ≤ 140737488355328) (h2 : rows.length = n2) :
    AOp P o E H [k', k' + 1] (some (.sl k' esz 0 n2)) [(k', some (.arr f esz rows))] := h2 ▸ AOp.append_emp k' f T ho hx hy hbytes hmax
def bat (s : ByteArray) (i : Nat) : Int := if h : i < s.size then ((s[i]'h).toNat : Int) else 0
theorem bat_lt (s : ByteArray) (i : Nat) : 0 ≤ bat s i ∧ bat s i ≤ 255 := by
  unfold bat
  split
  · rename_i h
    have := (s[i]'h).toNat_lt
    omega
  · omega
theorem AOp.sindexB {t : TypeId} {x y : Operand} {p : ByteArray} {i : Int} {kd : IntKind} {j : Nat} (ht : P.underlying t = some .string) (ho : o.op = .index t x y) (hx : evO E x = some (.lit (.string p))) (hy : evO E y = some (.lit (.int kd i)))
    (hi : i = (j : Int)) (hj : j < p.size) : AOp P o E H [] (some (.lit (.int .u8 (bat p j)))) [] := by
  have h := AOp.sindex (H := H) ht ho hx hy hi hj
  have : bat p j = (p[j]'hj).toNat := by simp [bat, hj]
  rw [this]; exact h
theorem AWP.condE {Q : APost} {c : Operand} {x y : Code} {b' b : Bool} (hc : evO E c = some (.lit (.bool b'))) (hb : b' = b) (h : AWP P C (if b then x else y) Q E H nx) : AWP P C (.cond c x y) Q E H nx :=
  AWP.cond hc (fun e => by rw [← hb, e] at h; exact h) (fun e => by rw [← hb, e] at h; exact h)
theorem ASeq.no {j t : Nat} {b' b : Bool} (hg : o.guard = some (j, !b)) (hj : (ops[j]?).bind (·.dst) = some t) (hb : b' = b) (hE : E t = some (.lit (.bool b')))
    (h : ASeq P C ops l (updE E o.dst (some (.tup []))) H nx K) (hd : dstOk C.N o = true := by rfl) : ASeq P C ops (o :: l) E H nx K :=
  ASeq.cons_no hg hj (hb ▸ hE) hd h
theorem ASeq.yes {j t : Nat} {b' b : Bool} (ho : AOp P o E H [] res []) (hj : (ops[j]?).bind (·.dst) = some t) (hE : E t = some (.lit (.bool b'))) (hb : b' = b) (h : ASeq P C ops l (updE E o.dst res) H nx K) (hg : o.guard = some (j, b) := by rfl) (hd : dstOk C.N o = true := by rfl) : ASeq P C ops (o :: l) E H nx K :=
  ASeq.cons_yes nx hg hj (hb ▸ hE) ho hd (Nat.le_refl _) (by simp) h
end
inductive ViewL (L : List Nat) (n : Nat) (H : Hp) (brw : Bool) : List AV → List AV → Prop
  | nil : ViewL L n H brw [] []
  | cons {x y : AV} {xs ys : List AV} (h : View L n H brw x y) (ht : ViewL L n H brw xs ys) : ViewL L n H brw (x :: xs) (y :: ys)
theorem ViewL.at {L : List Nat} {n : Nat} {H : Hp} {brw : Bool} {xs ys : List AV} (h : ViewL L n H brw xs ys) : xs.length = ys.length ∧ ∀ (i : Nat) (x y : AV), xs[i]? = some x → ys[i]? = some y → View L n H brw x y := by
  induction h with
  | nil => exact ⟨rfl, by simp⟩
  | cons h _ ih =>
    refine ⟨by simp [ih.1], fun i x y h1 h2 => ?_⟩
    cases i with
    | zero => simp at h1 h2; subst h1; subst h2; exact h
    | succ i => exact ih.2 i x y (by simpa using h1) (by simpa using h2)
theorem View.aggL {L : List Nat} {n : Nat} {H : Hp} {brw : Bool} {xs ys : List AV} (h : ViewL L n H brw xs ys) : View L n H brw (.agg xs) (.agg ys) := .agg h.at.1 h.at.2
theorem View.fnL {L : List Nat} {n : Nat} {H : Hp} {brw : Bool} {g : FuncId} {xs ys : List AV} (h : ViewL L n H brw xs ys) : View L n H brw (.fn g xs) (.fn g ys) := .fn h.at.1 h.at.2
theorem View.same {L : List Nat} {n : Nat} {H : Hp} {brw : Bool} {x : AV} (h : x.data = true) : View L n H brw x x := by
  cases x <;> first | (constructor; done) | cases h
theorem ViewL.same {L : List Nat} {n : Nat} {H : Hp} {brw : Bool} : ∀ {xs : List AV}, xs.all AV.data = true → ViewL L n H brw xs xs
  | [], _ => .nil
  | x :: xs, h => by
    simp only [List.all_cons, Bool.and_eq_true] at h
    exact .cons (View.same h.1) (ViewL.same h.2)
theorem ViewL.unfr {L : List Nat} {n : Nat} {H : Hp} {brw : Bool} : ∀ {xs : List AV}, ViewL L n H brw (xs.map .fr) xs
  | [] => .nil
  | _ :: _ => .cons .fr ViewL.unfr
theorem View.nilRo {L : List Nat} {n : Nat} {H : Hp} {brw : Bool} {A : Option Addr} {e : Nat} {rows : List (List AV)} (h : rows = []) : View L n H brw (.lit (.slice A 0 0)) (.ro e rows) := by rw [h]; exact .nil (Nat.zero_le _)
theorem PView.nilRo {L : List Nat} {n : Nat} {H : Hp} {A : Option Addr} {e : Nat} {rows : List (List AV)} (h : rows = []) : PView L n H (.lit (.slice A 0 0)) (.ro e rows) := by rw [h]; exact .nil (Nat.zero_le _)
def offL (L : List Nat) (n k : Nat) : Bool := (List.range n).all fun j => !(Nat.beq (L.getD j 0) k)
theorem offL_spec {L : List Nat} {n k : Nat} (h : offL L n k = true) : ∀ j, j < n → L.getD j 0 ≠ k := by
  intro j hj he
  have := List.all_eq_true.1 h j (by simp [hj])
  rw [he, Nat.beq_refl] at this; cases this
theorem PView.bslR {L : List Nat} {n : Nat} {H : Hp} {k esz m : Nat} {f : Bool} {els rows : List (List AV)} (hl : m = els.length) (hr : els = rows) (hH : H k = some (.arr f esz els) := by rfl) (hk : offL L n k = true := by rfl) : PView L n H (.sl k esz 0 m) (.ro esz rows) := by
  have h := PView.bsl (L := L) (n := n) hH (offL_spec hk) (off := 0) (m := m) (by omega)
  rw [List.drop_zero, hl, List.take_length, hr] at h
  rw [hl, hr]; exact h
theorem View.bslR {L : List Nat} {n : Nat} {H : Hp} {k esz m : Nat} {f : Bool} {els rows : List (List AV)} (hl : m = els.length) (hr : els = rows) (hH : H k = some (.arr f esz els) := by rfl) (hk : offL L n k = true := by rfl) : View L n H true (.sl k esz 0 m) (.ro esz rows) := .brw rfl (.bslR hl hr hH hk)
inductive PViewL (L : List Nat) (n : Nat) (H : Hp) : List AV → List AV → Prop
  | nil : PViewL L n H [] []
  | cons {x y : AV} {xs ys : List AV} (h : PView L n H x y) (ht : PViewL L n H xs ys) : PViewL L n H (x :: xs) (y :: ys)
theorem PViewL.at {L : List Nat} {n : Nat} {H : Hp} {xs ys : List AV} (h : PViewL L n H xs ys) : xs.length = ys.length ∧ ∀ (i : Nat) (x y : AV), xs[i]? = some x → ys[i]? = some y → PView L n H x y := by
  induction h with
  | nil => exact ⟨rfl, by simp⟩
  | cons h _ ih =>
    refine ⟨by simp [ih.1], fun i x y h1 h2 => ?_⟩
    cases i with
    | zero => simp at h1 h2; subst h1; subst h2; exact h
    | succ i => exact ih.2 i x y (by simpa using h1) (by simpa using h2)
theorem PView.same {L : List Nat} {n : Nat} {H : Hp} {x : AV} (h : x.data = true) : PView L n H x x := by
  cases x <;> first | (constructor; done) | cases h
def foB : AV → Bool
  | .lit _ => true
  | .fr _ => true
  | .ptr _ _ _ _ => true
  | .sl _ _ _ _ => true
  | .emp => true
  | .mp _ => true
  | _ => false
def foB2 : AV → Bool
  | .agg xs => xs.all foB
  | x => foB x
def foB3 : AV → Bool
  | .tup xs => xs.all foB2
  | x => foB2 x
theorem foB_spec {x : AV} (h : foB x = true) : FO x := by cases x <;> first | (constructor; done) | cases h
theorem foB2_spec {x : AV} (h : foB2 x = true) : FO x := by
  cases x with
  | agg xs => exact .agg fun y hy => foB_spec (List.all_eq_true.1 h y hy)
  | _ => exact foB_spec h
theorem foB3_spec {x : AV} (h : foB3 x = true) : FO x := by
  cases x with
  | tup xs => exact .tup fun y hy => foB2_spec (List.all_eq_true.1 h y hy)
  | _ => exact foB2_spec h
def bfoB : Blk → Bool
  | .box cells => cells.all foB
  | .arr f _ _ => f
  | .map _ => true
theorem bfoB_spec {B : Blk} (h : bfoB B = true) : BFO B := by
  cases B with
  | box cells => exact .box fun y hy => foB_spec (List.all_eq_true.1 h y hy)
  | arr f e els => cases f; cases h; exact .arr
  | map => exact .map
theorem hpOf_all {m : List (Nat × Blk)} {p : Nat → Blk → Bool} (h : m.all (fun x => p x.1 x.2) = true) : ∀ k B, hpOf m k = some B → p k B = true := by
  induction m with
  | nil => intro k B hB; cases hB
  | cons a m ih =>
    obtain ⟨a, x⟩ := a
    simp only [List.all_cons, Bool.and_eq_true] at h
    intro k B hB
    simp only [hpOf] at hB
    split at hB
    · rename_i e; subst e; cases hB; exact h.1
    · exact ih h.2 k B hB
def pwB : List Nat → Bool
  | [] => true
  | x :: r => r.all (fun y => !(Nat.beq x y)) && pwB r
theorem pwB_spec : ∀ {l : List Nat}, pwB l = true → l.Pairwise (· ≠ ·)
  | [], _ => .nil
  | x :: r, h => by
    simp only [pwB, Bool.and_eq_true] at h
    refine .cons (fun y hy he => ?_) (pwB_spec h.2)
    have := List.all_eq_true.1 h.1 y hy
    rw [he, Nat.beq_refl] at this; cases this
theorem AOp.call0 {P : Program} {o : Oper} {E : Env} {H : Hp} {f : Nat} {fn : Func} {fx : Operand} {xs : Array Operand} {tys : Array TypeId} {cavs caps args : List AV} {m : List (Nat × Blk)} {r0 : AV} (L : List Nat) (brw : Bool)
    (hspec : FSpec P f 0 args (hpOf []) (fun r h => r = r0 ∧ h = hpOf m)) (hf : P.funcs[f]? = some fn)
    (ho : o.op = .call { callee := .value fx, args := xs, argTypes := tys } := by rfl) (hfx : evO E fx = some (.fn f caps) := by rfl) (hxs : evArgs E xs.toList = some cavs := by rfl)
    (hv : ViewL L 0 H brw (cavs ++ caps) args)
    (hname : (fn.name == "runtime.NumGoroutine") = false := by rfl) (hbody : fn.body.isNone = false := by rfl)
    (hL : pwB L = true := by rfl) (hm : m.all (fun x => Nat.blt x.1 L.length) = true := by rfl) (hfo : (!brw || (foB3 r0 && m.all (fun x => bfoB x.2))) = true := by rfl) (hlv : r0.lv3 L.length = true := by rfl) (hblv : m.all (fun x => x.2.lv L.length) = true := by rfl) :
    AOp P o E H L (some (r0.ren fun i => L.getD i 0)) (outU L (hpOf m)) := by
  have h := AOp.call (P := P) (o := o) (E := E) (H := H) L brw hspec hf hname hbody ho hfx hxs ⟨by omega, by omega, fun _ _ => rfl⟩ hv.at (pwB_spec hL) (Nat.zero_le _) (fun k hk => by
      cases hB : hpOf m k with
      | none => rfl
      | some B =>
        have := hpOf_all (p := fun k _ => Nat.blt k L.length) hm k B hB
        have := Nat.le_of_ble_eq_true this
        omega) (fun hb => by
      subst hb
      simp only [Bool.not_true, Bool.false_or, Bool.and_eq_true] at hfo
      exact ⟨foB3_spec hfo.1, fun k B hB => bfoB_spec (hpOf_all (p := fun _ B => bfoB B) hfo.2 k B hB)⟩) hlv (hpOf_all (p := fun _ B => B.lv L.length) hblv)
  simpa using h
inductive CIn (L : List Nat) (n : Nat) (H hin : Hp) (brw : Bool) : Nat → Prop
  | nil : CIn L n H hin brw 0
  | cons {k k' : Nat} {B B' : Blk} (h : CIn L n H hin brw k) (he : L.getD k 0 = k') (h1 : hin k = some B) (h2 : H k' = some B') (h3 : BView L n H brw B' B) : CIn L n H hin brw (k + 1)
theorem CIn.at {L : List Nat} {n : Nat} {H hin : Hp} {brw : Bool} {m : Nat} (h : CIn L n H hin brw m) : ∀ k, k < m → ∃ B B', hin k = some B ∧ H (L.getD k 0) = some B' ∧ BView L n H brw B' B := by
  induction h with
  | nil => intro k hk; omega
  | @cons k k' B B' _ he h1 h2 h3 ih =>
    intro j hj
    by_cases e : j = k
    · subst e; exact ⟨B, B', h1, by rw [he]; exact h2, h3⟩
    · exact ih j (by omega)
theorem CIn.in {L : List Nat} {n : Nat} {H : Hp} {brw : Bool} {m : List (Nat × Blk)} (h : CIn L n H (hpOf m) brw n) (hi : pwB (L.take n) = true) (hn : n ≤ L.length) (hm : m.all (fun x => Nat.blt x.1 n) = true) : CallIn L n H (hpOf m) brw := by
  refine ⟨fun j j' hj hj' e => ?_, h.at, fun k hk => ?_⟩
  · have hp := pwB_spec hi
    rw [List.pairwise_iff_getElem] at hp
    have hl : (L.take n).length = n := by simp; omega
    have hg : ∀ i (hi : i < n), (L.take n)[i]'(by omega) = L.getD i 0 := fun i hi => by simp [List.getD, show i < L.length by omega]
    rcases Nat.lt_trichotomy j j' with hlt | he | hlt
    · exact absurd (by rw [hg j hj, hg j' hj', e]) (hp j j' (by omega) (by omega) hlt)
    · exact he
    · exact absurd (by rw [hg j hj, hg j' hj', e]) (hp j' j (by omega) (by omega) hlt)
  · cases hB : hpOf m k with
    | none => rfl
    | some B =>
      have := hpOf_all (p := fun k _ => Nat.blt k n) hm k B hB
      have := Nat.le_of_ble_eq_true this
      omega
theorem BView.boxL {L : List Nat} {n : Nat} {H : Hp} {brw : Bool} {xs ys : List AV} (h : ViewL L n H brw xs ys) : BView L n H brw (.box xs) (.box ys) := .box h.at.1 h.at.2
theorem BView.arrE {L : List Nat} {n : Nat} {H : Hp} {brw : Bool} {f : Bool} {esz : Nat} {els els' : List (List AV)} (h : els = els') : BView L n H brw (.arr f esz els) (.arr false esz els') := h ▸ .arr
theorem BView.mapE {L : List Nat} {n : Nat} {H : Hp} {brw : Bool} {es es' : List (Value × Value)} (h : es = es') : BView L n H brw (.map es) (.map es') := h ▸ .map
theorem AOp.callN {P : Program} {o : Oper} {E : Env} {H : Hp} {f n : Nat} {fn : Func} {fx : Operand} {xs : Array Operand} {tys : Array TypeId} {cavs caps args : List AV} {m min : List (Nat × Blk)} {r0 : AV} (L fr : List Nat) (brw : Bool)
    (hspec : FSpec P f n args (hpOf min) (fun r h => r = r0 ∧ h = hpOf m)) (hf : P.funcs[f]? = some fn)
    (ho : o.op = .call { callee := .value fx, args := xs, argTypes := tys } := by rfl) (hfx : evO E fx = some (.fn f caps) := by rfl) (hxs : evArgs E xs.toList = some cavs := by rfl)
    (hc : CIn L n H (hpOf min) brw n) (hv : ViewL L n H brw (cavs ++ caps) args)
    (hname : (fn.name == "runtime.NumGoroutine") = false := by rfl) (hbody : fn.body.isNone = false := by rfl) (hfr : L.drop n = fr := by rfl) (hn : Nat.ble n L.length = true := by rfl)
    (hmin : min.all (fun x => Nat.blt x.1 n) = true := by rfl)
    (hL : pwB L = true := by rfl) (hLn : pwB (L.take n) = true := by rfl) (hm : m.all (fun x => Nat.blt x.1 L.length) = true := by rfl) (hfo : (!brw || (foB3 r0 && m.all (fun x => bfoB x.2))) = true := by rfl) (hlv : r0.lv3 L.length = true := by rfl) (hblv : m.all (fun x => x.2.lv L.length) = true := by rfl) :
    AOp P o E H fr (some (r0.ren fun i => L.getD i 0)) (outU L (hpOf m)) := by
  subst hfr
  exact AOp.call (P := P) (o := o) (E := E) (H := H) L brw hspec hf hname hbody ho hfx hxs (hc.in hLn (nl hn) hmin) hv.at (pwB_spec hL) (nl hn) (fun k hk => by
      cases hB : hpOf m k with
      | none => rfl
      | some B =>
        have := hpOf_all (p := fun k _ => Nat.blt k L.length) hm k B hB
        have := Nat.le_of_ble_eq_true this
        omega) (fun hb => by
      subst hb
      simp only [Bool.not_true, Bool.false_or, Bool.and_eq_true] at hfo
      exact ⟨foB3_spec hfo.1, fun k B hB => bfoB_spec (hpOf_all (p := fun _ B => bfoB B) hfo.2 k B hB)⟩) hlv (hpOf_all (p := fun _ B => B.lv L.length) hblv)
end Go.Abs
namespace Go.Abs
section
variable {P : Program} {o : Oper} {E : Env} {H : Hp}
def byteRows (l : List UInt8) : List (List AV) := l.map fun b => [.lit (.int .u8 b.toNat)]
def strOf (l : List UInt8) : ByteArray := ⟨l.toArray⟩
theorem foldl_push (l : List UInt8) : ∀ (s : ByteArray), (l.map fun b => (b.toNat : Int)).foldl (fun r n => r.push (UInt8.ofNat n.toNat)) s = ⟨(s.data.toList ++ l).toArray⟩ := by
  induction l with
  | nil => intro s; simp
  | cons b l ih =>
    intro s
    simp only [List.map_cons, List.foldl_cons]
    rw [ih]
    simp [ByteArray.push]
theorem AOp.bstr {src dst e : TypeId} {x : Operand} {rows : List (List AV)} (l : List UInt8) (hs : P.underlying src = some (.slice e)) (he : P.underlying e = some (.int .u8)) (hd : P.underlying dst = some .string) (ho : o.op = .convert src dst x)
    (hx : SrcAV E H 1 false x rows) (hl : rows = byteRows l) : AOp P o E H [] (some (.lit (.string (strOf l)))) [] := by
  subst hl
  refine AOp.value fun s w a ok hE hH _ => ?_
  obtain ⟨A, c, news, hsrc⟩ := hx.src (a := a) ok hE hH
  refine ⟨.string (strOf l), s, w, ?_, Post.refl ok, ?_⟩
  · have hn : news = (l.map fun b => (b.toNat : Int)).map (Value.int .u8) := by
      have hlen : news.length = l.length := by rw [hsrc.len]; simp [byteRows]
      apply List.ext_getElem?
      intro i
      by_cases hi : i < l.length
      · have hrow : (byteRows l)[i]? = some [.lit (.int .u8 l[i].toNat)] := by simp [byteRows, hi]
        obtain ⟨v, hv, hrep⟩ := hsrc.rep i _ 0 _ hrow (by rfl)
        rw [Nat.mul_one, Nat.add_zero] at hv
        cases hrep
        rw [hv]; simp [hi]
      · rw [List.getElem?_eq_none (by omega), List.getElem?_eq_none (by simp; omega)]
    simp only [execOp, ho, hsrc.eq, Sem.run_bind, run_convert_bytes_string w src dst e _ _ _ hs he hd]
    rcases Nat.eq_zero_or_pos l.length with h0 | h0
    · have : l = [] := List.length_eq_zero_iff.1 h0
      subst this
      cases A with
      | none => simp [Conv.bytesToString, Sem.run_pure, strOf, Result.andThen]; rfl
      | some ad =>
        have h := run_bytesToString (P := P) w ad 0 c [] (by
          have h := run_loadCells_list (P := P) (w := w) ad [] (by simp)
          simpa using h)
        simp only [byteRows, List.map_nil, List.length_nil]
        rw [h]; simp [Sem.run_pure, Result.andThen, strOf]; rfl
    · obtain ⟨ad, rfl, had⟩ := hsrc.some (by
        intro e
        have := congrArg List.length e
        simp [byteRows] at this
        subst this; simp at h0)
      have h := run_bytesToString (P := P) w ad (byteRows l).length c (l.map fun b => (b.toNat : Int)) (by
        have h := run_loadCells_list (P := P) (w := w) ad news (fun j v hj => had j v hj)
        rw [hn] at h
        simpa [byteRows] using h)
      rw [h, foldl_push]
      simp [Sem.run_pure, Result.andThen, strOf]
  · rintro av ⟨⟩
    exact .rep (.lit rfl)
theorem ba_beq (a b : ByteArray) : (a == b) = decide (a = b) := by
  cases a with | mk a => cases b with | mk b =>
  have : ((⟨a⟩ : ByteArray) == ⟨b⟩) = (a == b) := rfl
  rw [this]
  by_cases h : a = b
  · subst h; simp
  · simp [h]
theorem run_checkKey_str {P : Program} {kt : TypeId} (h : P.underlying kt = some .string) (e : Bool) (n : Nat) (s : ByteArray) (w : World) : (Instr.checkKey e (n + 1) kt (.string s)).run P w = .ok () w := by
  simp [Instr.checkKey, run_underlying h]
theorem run_checkKey_str' {P : Program} {kt : TypeId} (h : P.underlying kt = some .string) (e : Bool) (s : ByteArray) (w : World) : (Instr.checkKey e 10000 kt (.string s)).run P w = .ok () w := run_checkKey_str h e 9999 s w
theorem sameBits_str (n : Nat) (s : ByteArray) : Instr.sameBits n (.string s) (.string s) = true := by
  have : Instr.sameBits n (.string s) (.string s) = (s == s) := by cases n <;> rfl
  rw [this, ba_beq]; simp
theorem Post.updM {s : Sg} {w : World} (ok : OK s w) {k b : Nat} {es : List (Value × Value)} {ents : Array MapEntry} {clock : Nat} (ob : Obj) {B' : Blk} (hk : s.hp k = some (.map es)) (hb : s.ρ k = some (some b)) (hc : w.heap[b]? = some (.map ents clock))
    (hB : ∀ s' w', Tr s w s' w' → w'.heap[b]? = some ob → BOK s' w' (some b) B') :
    Post s w [] [(k, some B')] { s with hp := updH s.hp [(k, some B')] } { w with heap := w.heap.setIfInBounds b ob } := by
  have hhp : ∀ t, updH s.hp [(k, some B')] t = if t = k then some B' else s.hp t := fun t => updH_one s.hp k (some B') t
  have hother : ∀ j, j ≠ b → (w.heap.setIfInBounds b ob)[j]? = w.heap[j]? := fun j hj => by rw [Array.getElem?_setIfInBounds_ne (Ne.symm hj)]
  have hlt : b < w.heap.size := (Array.getElem?_eq_some_iff.1 hc).1
  have hsame : (w.heap.setIfInBounds b ob)[b]? = some ob := by rw [Array.getElem?_setIfInBounds_self_of_lt hlt]
  have hne : ∀ t, updH s.hp [(k, some B')] t ≠ none → s.hp t ≠ none := by
    intro t h
    rw [hhp] at h
    by_cases e : t = k
    · subst e; rw [hk]; simp
    · rw [if_neg e] at h; exact h
  have tr : Tr s w { s with hp := updH s.hp [(k, some B')] } { w with heap := w.heap.setIfInBounds b ob } :=
    { M := rfl
      n0 := rfl
      rho := fun _ _ h => h
      size := by simp
      os := rfl
      tape := rfl
      output := rfl
      keep := fun j _ h => hother j (by rintro rfl; exact h k (by rw [hk]; simp) hb)
      own := fun t j h h' => .inl ⟨t, hne t h, h'⟩
      dead := fun t h h' => by
        show updH s.hp [(k, some B')] t = none
        rw [hhp, if_neg (by rintro rfl; rw [hk] at h'; cases h')]; exact h'
      arr := fun t fresh esz els h => by
        have e : t ≠ k := by rintro rfl; rw [hk] at h; cases h
        refine .inr ⟨fresh, els, by show updH s.hp _ t = _; rw [hhp, if_neg e]; exact h, Nat.le_refl _, fun j cs1 ty1 fz1 hj hc1 => ?_⟩
        have hjb : j ≠ b := by
          rintro rfl
          exact e (ok.inj t k j (by rw [h]; simp) (by rw [hk]; simp) hj hb)
        exact ⟨cs1, ty1, fz1, by show (w.heap.setIfInBounds b ob)[j]? = _; rw [hother j hjb]; exact hc1, rfl⟩ }
  refine ⟨tr, ok.step tr ?_ ?_, rfl, fun t h _ => h⟩
  · intro t B2 h2
    by_cases e : t = k
    · subst e
      have : updH s.hp [(t, some B')] t = some B2 := h2
      rw [hhp, if_pos rfl] at this
      cases this
      exact .inr ⟨some b, hb, hB _ _ tr hsame⟩
    · have : updH s.hp [(k, some B')] t = some B2 := h2
      rw [hhp, if_neg e] at this
      refine .inl ⟨this, fun j hj => hother j ?_⟩
      rintro rfl
      exact e (ok.inj t k j (by rw [this]; simp) (by rw [hk]; simp) hj hb)
  · intro t t' j h h' hr hr'
    exact ok.inj t t' j (hne t h) (hne t' h') hr hr'
def smap (l : List (ByteArray × Value)) : List (Value × Value) := l.map fun p => (.string p.1, p.2)
def getKV (s : ByteArray) : List (ByteArray × Value) → Option Value
  | [] => none
  | (k, v) :: r => if s = k then some v else getKV s r
def putKV (s : ByteArray) (x : Value) : List (ByteArray × Value) → List (ByteArray × Value)
  | [] => [(s, x)]
  | (k, v) :: r => if s = k then (s, x) :: r else (k, v) :: putKV s x r
def idxKV (s : ByteArray) : List (ByteArray × Value) → Nat → Option (Nat × Value)
  | [], _ => none
  | (k, v) :: r, i => if s = k then some (i, v) else idxKV s r (i + 1)
theorem idxKV_get (s : ByteArray) : ∀ (l : List (ByteArray × Value)) (i : Nat), (idxKV s l i).map (·.2) = getKV s l
  | [], _ => rfl
  | (k, v) :: r, i => by
    simp only [idxKV, getKV]
    split
    · rfl
    · exact idxKV_get s r (i + 1)
theorem findNow_smap (s : ByteArray) : ∀ (es : List MapEntry) (l : List (ByteArray × Value)) (i : Nat), es.map (fun e => (e.key, e.val)) = smap l → Instr.findNow .string (.string s) es i = some (idxKV s l i)
  | [], [], i, _ => rfl
  | [], _ :: _, i, h => by simp [smap] at h
  | _ :: _, [], i, h => by simp [smap] at h
  | e :: es, (k, v) :: l, i, h => by
    simp only [smap, List.map_cons, List.cons.injEq, Prod.mk.injEq] at h
    obtain ⟨⟨h1, h2⟩, h3⟩ := h
    have ih := findNow_smap s es l (i + 1) h3
    simp only [Instr.findNow, h1, Instr.sameNow, idxKV]
    by_cases e : s = k
    · subst e; simp [h2, ba_beq]
    · have : (s == k) = false := by rw [ba_beq]; simpa using e
      simp only [this]
      rw [if_neg e]
      exact ih
theorem AOp.makeMap {t : TypeId} (k : Nat) (ho : o.op = .makeMap t none) : AOp P o E H [k] (some (.mp k)) [(k, some (.map []))] :=
  AOp.value fun s w a ok _ _ hfr => by
    refine ⟨.map (some w.heap.size), _, _, ?_, Post.new ok (hfr k (by simp)) (.map []) (.map #[] 0) rfl rfl rfl rfl ?_, ?_⟩
    · simp [execOp, ho, Instr.makeMap]
    · intro s' w' _ hnew
      exact ⟨_, #[], 0, rfl, hnew, rfl⟩
    · rintro av ⟨⟩
      exact .mp (b := w.heap.size) (by simp [Sg.with])
theorem AOp.lookup {t kt el : TypeId} {x y : Operand} {k : Nat} {key : ByteArray} {z v : Value} (l : List (ByteArray × Value)) (ht : P.underlying t = some (.map kt el)) (hkt : P.underlying kt = some .string) (hz : (P.info? el).bind (·.zero) = some z)
    (ho : o.op = .lookup t x y false) (hx : evO E x = some (.mp k)) (hH : H k = some (.map (smap l))) (hy : evO E y = some (.lit (.string key)))
    (hv : (getKV key l).getD z = v) (h1 : v.oneCell' = true) : AOp P o E H [] (some (.lit v)) [] :=
  AOp.value fun s w a ok hE hH' _ => by
    have e1 := Rel.lit_eq (evO_rel hE hy)
    have hm := evO_rel hE hx
    generalize hme : a.eval x = u at hm
    cases hm with
    | rep h => cases h
    | @mp _ b hr =>
      obtain ⟨z', hz', b', ents, clock, rfl, hb, hes⟩ := ok.blk k _ (hH' k _ hH)
      rw [hr] at hz'; cases hz'
      refine ⟨v, s, w, ?_, Post.refl ok, ?_⟩
      · obtain ⟨inf, hinf, hz⟩ := Option.bind_eq_some_iff.1 hz
        have hget : (getObj b).run P w = .ok (.map ents clock) w := by simp [getObj, Sem.run, hb]
        have hf := findNow_smap key ents.toList l 0 hes
        have hg := idxKV_get key l 0
        cases hi : idxKV key l 0 with
        | none =>
          rw [hi] at hg hf
          simp at hg
          rw [← hg] at hv
          simp at hv
          subst hv
          simp [execOp, ho, hme, e1, Instr.lookup, run_underlying ht, hget, run_checkKey_str' hkt, run_underlying hkt, Instr.findKey, hf, zeroValue, typeInfo, hinf, hz, Result.andThen]
        | some p =>
          obtain ⟨i, u⟩ := p
          rw [hi] at hg hf
          simp at hg
          rw [← hg] at hv
          simp at hv
          subst hv
          simp [execOp, ho, hme, e1, Instr.lookup, run_underlying ht, hget, run_checkKey_str' hkt, run_underlying hkt, Instr.findKey, hf, Result.andThen]
      · rintro av ⟨⟩
        exact .rep (.lit h1)
theorem putKV_none {s : ByteArray} {x : Value} : ∀ (l : List (ByteArray × Value)) (i : Nat), idxKV s l i = none → putKV s x l = l ++ [(s, x)]
  | [], _, _ => rfl
  | (k, v) :: r, i, h => by
    simp only [idxKV] at h
    split at h
    · cases h
    · rename_i e
      simp only [putKV, if_neg e, putKV_none r _ h, List.cons_append]
theorem putKV_some {s : ByteArray} {x : Value} : ∀ (l : List (ByteArray × Value)) (i j : Nat) (v : Value), idxKV s l i = some (j, v) → i ≤ j ∧ l[j - i]? = some (s, v) ∧ putKV s x l = l.modify (j - i) fun _ => (s, x)
  | [], _, _, _, h => by cases h
  | (k, u) :: r, i, j, v, h => by
    simp only [idxKV] at h
    split at h
    · rename_i e
      cases h
      subst e
      simp [putKV]
    · rename_i e
      obtain ⟨h1, h2, h3⟩ := putKV_some (x := x) r _ _ _ h
      have : j - i = (j - (i + 1)) + 1 := by omega
      refine ⟨by omega, by rw [this, List.getElem?_cons_succ]; exact h2, ?_⟩
      rw [this]
      simp only [putKV, if_neg e, h3, List.modify_succ_cons]
theorem AOp.mapUpdate {t kt el : TypeId} {x y z : Operand} {k : Nat} {key : ByteArray} {v : Value} (l : List (ByteArray × Value)) (ht : P.underlying t = some (.map kt el)) (hkt : P.underlying kt = some .string)
    (ho : o.op = .mapUpdate t x y z) (hx : evO E x = some (.mp k)) (hH : H k = some (.map (smap l))) (hy : evO E y = some (.lit (.string key))) (hz : evO E z = some (.lit v)) : AOp P o E H [] none [(k, some (.map (smap (putKV key v l))))] :=
  AOp.skip fun s w a ok hE hH' _ => by
    have e1 := Rel.lit_eq (evO_rel hE hy)
    have e2 := Rel.lit_eq (evO_rel hE hz)
    have hm := evO_rel hE hx
    generalize hme : a.eval x = u at hm
    cases hm with
    | rep h => cases h
    | @mp _ b hr =>
      obtain ⟨z', hz', b', ents, clock, rfl, hb, hes⟩ := ok.blk k _ (hH' k _ hH)
      rw [hr] at hz'; cases hz'
      have hget : (getObj b).run P w = .ok (.map ents clock) w := by simp [getObj, Sem.run, hb]
      have hset : ∀ ob, (setObj b ob).run P w = .ok () { w with heap := w.heap.setIfInBounds b ob } := fun ob => by simp [setObj, Sem.run, hb]
      have hf := findNow_smap key ents.toList l 0 hes
      cases hi : idxKV key l 0 with
      | none =>
        rw [hi] at hf
        refine ⟨_, _, ?_, Post.updM ok (.map (ents.push { key := .string key, val := v, born := clock }) (clock + 1)) (hH' k _ hH) hr hb ?_⟩
        · simp [execOp, ho, hme, e1, e2, Instr.mapUpdate, run_underlying ht, hget, run_checkKey_str' hkt, run_underlying hkt, Instr.findKey, hf, Result.andThen, hset]
        · intro s' w' _ hnew
          refine ⟨b, _, _, rfl, hnew, ?_⟩
          rw [putKV_none l 0 hi]
          simp [smap, hes]
      | some p =>
        obtain ⟨j, u⟩ := p
        rw [hi] at hf
        obtain ⟨_, hj, hput⟩ := putKV_some (x := v) l 0 j u hi
        rw [Nat.sub_zero] at hj hput
        have hlen : ents.size = l.length := by
          have := congrArg List.length hes
          simpa [smap] using this
        have hjl := (List.getElem?_eq_some_iff.1 hj).1
        have hej : ∃ e, ents[j]? = some e ∧ e.key = .string key := by
          have hjs : j < ents.size := by omega
          refine ⟨ents[j], by simp [hjs], ?_⟩
          have := congrArg (fun q => q[j]?) hes
          simp [smap, hj, hjs] at this
          exact this.1
        obtain ⟨e, he, hek⟩ := hej
        refine ⟨_, _, ?_, Post.updM ok (.map (ents.modify j fun e => { e with key := .string key, val := v }) clock) (hH' k _ hH) hr hb ?_⟩
        · simp [execOp, ho, hme, e1, e2, Instr.mapUpdate, run_underlying ht, hget, run_checkKey_str' hkt, run_underlying hkt, Instr.findKey, hf, Result.andThen, hset, Instr.keyThatStays, sameBits_str, he, hek]
        · intro s' w' _ hnew
          refine ⟨b, _, _, rfl, hnew, ?_⟩
          rw [hput]
          apply List.ext_getElem?
          intro i
          have hesi := congrArg (fun q => q[i]?) hes
          simp only [smap, List.getElem?_map, Array.toList_modify, List.getElem?_modify] at hesi ⊢
          by_cases hij : j = i
          · subst hij
            simp [hj, he]
          · simpa [hij] using hesi
theorem AOp.copyAll {t el esz n : Nat} {x y : Operand} {k : Nat} {f : Bool} {els rows : List (List AV)} (ht : P.underlying t = some (.slice el)) (hs : (P.info? el).map (·.size) = some esz)
    (ho : o.op = .call { callee := .builtin .copy, args := #[x, y], argTypes := #[t, t] }) (hx : evO E x = some (.sl k esz 0 n)) (hH : H k = some (.arr f esz els)) (hn : els.length = n) (hy : SrcAV E H esz f y rows) (hr : rows.length = n) :
    AOp P o E H [] (some (.lit (.int .i64 n))) [(k, some (.arr f esz rows))] :=
  AOp.value fun s w a ok hE hH' _ => by
    obtain ⟨inf, hinf, hsz⟩ := Option.map_eq_some_iff.1 hs
    obtain ⟨A, c, news, hsrc⟩ := hy.src (a := a) ok hE hH'
    have hv := evO_rel hE hx
    have hk := hH' k _ hH
    generalize hve : a.eval x = v at hv
    have hlen : news.length = n * esz := by rw [hsrc.len, hr]
    have hfirst : (Builtin.firstCells esz n (a.eval y)).run P w = .ok news.toArray w := by
      rw [hsrc.eq, hr]
      rcases Nat.eq_zero_or_pos n with h0 | h0
      · have : news = [] := List.length_eq_zero_iff.1 (by rw [hlen, h0]; simp)
        subst this
        cases A with
        | none => simp [Builtin.firstCells]
        | some ad => exact run_firstCells_some w esz n ad n c [] (by simp [h0]) (by simp)
      · obtain ⟨ad, rfl, had⟩ := hsrc.some (by intro e; rw [e] at hr; simp at hr; omega)
        exact run_firstCells_some w esz n ad n c news hlen had
    cases hv with
    | rep h => cases h
    | slg _ hp => rw [hk] at hp; cases hp
    | @sln _ _ _ A' hrr =>
      have h1 : els = [] := List.length_eq_zero_iff.1 hn
      have h2 : rows = [] := List.length_eq_zero_iff.1 hr
      have h3 : news = [] := List.length_eq_zero_iff.1 (by rw [hlen]; simp)
      subst h1; subst h2; subst h3
      refine ⟨.int .i64 0, s, w, ?_, ⟨Tr.refl s w, ok, ?_, fun _ h _ => h⟩, ?_⟩
      · cases A' <;> simp [execOp, ho, resolve, invoke, builtin, Builtin.copy_, run_underlying ht, hve, hsrc.eq, Builtin.lenOf, sizeOf, typeInfo, hinf, hsz, goInt, storeCells]
        · rw [hsrc.eq] at hfirst
          simp at hfirst
          simp [hfirst, Result.andThen]
        · rw [hsrc.eq] at hfirst
          simp at hfirst
          simp [hfirst, Result.andThen, storeCells]
      · funext q
        rw [updH_one]
        split
        · rename_i e; subst e; exact hk
        · rfl
      · rintro av ⟨⟩
        exact .rep (.lit rfl)
    | @sl _ _ _ _ b cap fr els' cs ty fz hrr hp hle' hb hn' hc hsize =>
      rw [hk] at hp; cases hp
      obtain ⟨z, hz, hBok⟩ := ok.blk k _ hk
      rw [hrr] at hz; cases hz
      rcases hBok with ⟨h0, _⟩ | ⟨b', cs', ty', e1, h5, h6, h7, h8⟩
      · cases h0
      cases e1
      rw [hb] at h5
      cases h5
      have hst := run_storeCells_at P b 0 ty news 0 cs w hb (by rw [hlen]; simp; rw [hn] at h6; exact h6) hsrc.one
      refine ⟨.int .i64 n, _, _, ?_, Post.upd (cs' := (cs.toList.take 0 ++ news ++ cs.toList.drop news.length).toArray) ok hk hrr hb ?_ (by intro f esz els e; cases e; exact ⟨_, _, rfl, by omega⟩) ?_, ?_⟩
      · simp [execOp, ho, resolve, invoke, builtin, Builtin.copy_, run_underlying ht, hve, hsrc.eq, hr, Builtin.lenOf, sizeOf, typeInfo, hinf, hsz, goInt]
        rw [hsrc.eq, hr] at hfirst
        simp at hst
        simp [hfirst, Result.andThen, hst]
      · simp; rw [hlen]; rw [hn] at h6; omega
      · intro s' w' tr hnew
        refine .inr ⟨b, _, ty, rfl, hnew, ?_, hsrc.row, fun j row i av h1 h2 => ?_⟩
        · rw [hr]; simp; omega
        · obtain ⟨v, h3, h4⟩ := hsrc.rep j row i av h1 h2
          refine ⟨v, ?_, ?_⟩
          · have := (List.getElem?_eq_some_iff.1 h3).1
            simp [h3, List.getElem?_append, this]
            exact (List.getElem?_eq_some_iff.1 h3).2
          · cases f
            · exact h4.mono tr.size tr.mut_keep
            · exact h4.mono tr.size tr.old_keep
      · rintro av ⟨⟩
        exact .rep (.lit rfl)
end
end Go.Abs
namespace Go.Abs
inductive SK where
  | b | s | i
def skOf (P : Program) (t : TypeId) : Option SK := match P.underlying t with
  | some .bool => some .b
  | some .string => some .s
  | some (.int _) => some .i
  | _ => none
def fOK (P : Program) (f : Field) (i : Nat) : Bool := Nat.beq f.offset i && !(f.name == "_") && (match isAggT P f.type with | some b => !b | none => false)
theorem fOK_spec {P : Program} {f : Field} {i : Nat} (h : fOK P f i = true) : f.offset = i ∧ f.name ≠ "_" ∧ isAggT P f.type = some false := by
  simp only [fOK, Bool.and_eq_true] at h
  obtain ⟨⟨hf1, hf2⟩, hf3⟩ := h
  refine ⟨Nat.eq_of_beq_eq_true hf1, by simpa using hf2, ?_⟩
  split at hf3
  · rename_i b hb
    cases b
    · exact hb
    · cases hf3
  · cases hf3
def flatFields (P : Program) : List Field → Nat → Option (List SK)
  | [], _ => some []
  | f :: fs, i => if fOK P f i then
      match skOf P f.type, flatFields P fs (i + 1) with
      | some k, some ks => some (k :: ks)
      | _, _ => none
    else none
def conf : SK → Value → Value → Bool
  | .b, .bool _, .bool _ => true
  | .s, .string _, .string _ => true
  | .i, .int j _, .int k _ => decide (j = k)
  | _, _, _ => false
def confs : List SK → List Value → List Value → Bool
  | [], [], [] => true
  | k :: ks, x :: xs, y :: ys => conf k x y && confs ks xs ys
  | _, _, _ => false
def eqV1 : Value → Value → Bool
  | .bool a, .bool b => a == b
  | .int _ a, .int _ b => a == b
  | .string a, .string b => decide (a = b)
  | _, _ => false
def eqVs : List Value → List Value → Bool
  | x :: xs, y :: ys => eqV1 x y && eqVs xs ys
  | _, _ => true
theorem run_part_one {P : Program} {t : TypeId} (h : isAggT P t = some false) {cs : Array Value} {off : Nat} {v : Value} (hc : cs[off]? = some v) (w : World) : (part t cs off).run P w = .ok v w := by
  simp [part, run_isAgg h, hc, Result.andThen]
theorem run_conf {P : Program} {t : TypeId} {k : SK} (h : skOf P t = some k) {x y : Value} (hc : conf k x y = true) (d : Nat) (w : World) : (Op.equalIn (d + 1) t x y).run P w = .ok (eqV1 x y) w := by
  unfold skOf at h
  split at h
  · rename_i hu
    cases h
    cases x <;> cases y <;> first | (cases hc; done) | exact run_equalIn_bool' w d t _ _ hu
  · rename_i hu
    cases h
    cases x <;> cases y <;> first | (cases hc; done) | (rw [run_equalIn_string w d t _ _ hu, bytes_eq]; rfl)
  · rename_i hu
    cases h
    cases x <;> cases y <;> first | (cases hc; done) | skip
    simp only [conf, decide_eq_true_eq] at hc
    subst hc
    exact run_equalIn_int w d t _ _ _ _ hu
  · cases h
theorem run_eqFlat {P : Program} {d : Nat} {xs ys : List Value} (w : World) : ∀ (fs : List Field) (i : Nat) (ks : List SK), flatFields P fs i = some ks → ∀ (us vs : List Value), (∀ j, us[j]? = xs[i + j]?) → (∀ j, vs[j]? = ys[i + j]?) → confs ks us vs = true →
    (Op.eqFields (d + 1) xs.toArray ys.toArray fs).run P w = .ok (eqVs us vs) w
  | [], i, ks, h, us, vs, _, _, hc => by
    cases h
    cases us <;> cases vs <;> first | (cases hc; done) | simp [Op.eqFields, eqVs]
  | f :: fs, i, ks, h, us, vs, hu, hv, hc => by
    simp only [flatFields] at h
    split at h
    · rename_i hf
      split at h
      · rename_i k ks' h1 h2
        cases h
        obtain ⟨hoff, hn, hag⟩ := fOK_spec hf
        cases us with
        | nil => cases vs <;> cases hc
        | cons u us =>
          cases vs with
          | nil => cases hc
          | cons v vs =>
            simp only [confs, Bool.and_eq_true] at hc
            have ih := run_eqFlat (P := P) (d := d) (xs := xs) (ys := ys) w fs (i + 1) ks' h2 us vs (fun j => by rw [show i + 1 + j = i + (j + 1) by omega, ← hu]; simp) (fun j => by rw [show i + 1 + j = i + (j + 1) by omega, ← hv]; simp) hc.2
            have hx : xs.toArray[f.offset]? = some u := by rw [hoff]; simpa using (hu 0).symm
            have hy : ys.toArray[f.offset]? = some v := by rw [hoff]; simpa using (hv 0).symm
            rw [Op.eqFields]
            simp only [if_pos hn, Sem.run_bind, run_part_one hag hx, run_part_one hag hy, run_conf h1 hc.1, Result.andThen_ok]
            cases he : eqV1 u v
            · simp [eqVs, he]
            · simp [eqVs, he, ih]
      · cases h
    · cases h
section
variable {P : Program} {o : Oper} {E : Env} {H : Hp}
theorem eqFlat {t : TypeId} {fs : Array Field} {ks : List SK} {xs ys : List Value} (hu : P.underlying t = some (.struct fs)) (hp : P.stoodInHeld t = false) (hk : flatFields P fs.toList 0 = some ks) (hc : confs ks xs ys = true) :
    ∀ w, (Op.equalIn 10000 t (.agg xs.toArray) (.agg ys.toArray)).run P w = .ok (eqVs xs ys) w := by
  intro w
  have hf : P.fieldsOf t = fs := by simp [Program.fieldsOf, hu]
  rw [show (10000 : Nat) = 9998 + 1 + 1 from rfl, run_equalIn_struct (P := P) w (9998 + 1) t xs.toArray ys.toArray (by rw [hf]; exact hu) hp, hf]
  exact run_eqFlat w _ 0 ks hk xs ys (fun j => by simp) (fun j => by simp) hc
structure FlatT (P : Program) (t : TypeId) (ks : List SK) : Prop where
  eq : P.eqGuardType P.depth t = false
  un : ∃ fs, P.underlying t = some (.struct fs) ∧ flatFields P fs.toList 0 = some ks
  st : P.stoodInHeld t = false
theorem flatT {t : TypeId} {ks : List SK} (h1 : P.eqGuardType P.depth t = false) (h2 : (match P.underlying t with | some (.struct fs) => flatFields P fs.toList 0 | _ => none) = some ks) (h3 : P.stoodInHeld t = false) : FlatT P t ks where
  eq := h1
  un := by
    split at h2
    · rename_i fs hu; exact ⟨fs, hu, h2⟩
    · cases h2
  st := h3
theorem AOp.fEq {t u : TypeId} {x y : Operand} {xs ys : List Value} {ks : List SK} (T : FlatT P t ks) (ho : o.op = .binOp .eql t x y u) (hx : evO E x = some (.agg (xs.map .lit))) (hy : evO E y = some (.agg (ys.map .lit))) (hc : confs ks xs ys = true) :
    AOp P o E H [] (some (.lit (.bool (eqVs xs ys)))) [] := by
  obtain ⟨fs, hu, hk⟩ := T.un
  exact AOp.aggEq T.eq ho hx hy (eqFlat hu T.st hk hc)
theorem AOp.fNe {t u : TypeId} {x y : Operand} {xs ys : List Value} {ks : List SK} (T : FlatT P t ks) (ho : o.op = .binOp .neq t x y u) (hx : evO E x = some (.agg (xs.map .lit))) (hy : evO E y = some (.agg (ys.map .lit))) (hc : confs ks xs ys = true) :
    AOp P o E H [] (some (.lit (.bool (!eqVs xs ys)))) [] := by
  obtain ⟨fs, hu, hk⟩ := T.un
  exact AOp.aggNe T.eq ho hx hy (eqFlat hu T.st hk hc)
end
end Go.Abs
