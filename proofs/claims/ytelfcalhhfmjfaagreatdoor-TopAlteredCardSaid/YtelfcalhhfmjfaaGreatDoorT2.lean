/- Part 2 of the proof that TopAltered returns true for every input of its row (no condition beyond the row). -/
import Derived.Test.YtelfcalhhfmjfaaGreatDoorT1
import Derived.Great.BuildSlice
set_option linter.unusedVariables false
set_option linter.unusedSimpArgs false
namespace Go.Abs
theorem Tr.trans {s0 s s' : Sg} {w0 w w' : World} (ok0 : OK s0 w0) (g : Tr s0 w0 s w) (t : Tr s w s' w') : Tr s0 w0 s' w' where
  M := t.M.trans g.M
  n0 := t.n0.trans g.n0
  rho k x h := t.rho _ _ (g.rho k x h)
  size := Nat.le_trans g.size t.size
  os := t.os.trans g.os
  tape := t.tape.trans g.tape
  output := t.output.trans g.output
  keep b hb h := by
    refine (t.keep b (Nat.lt_of_lt_of_le hb g.size) fun k hk he => ?_).trans (g.keep b hb h)
    rcases g.own k b hk he with ⟨k0, h0, h1⟩ | h1
    · exact h k0 h0 h1
    · omega
  own k b hk he := by
    rcases t.own k b hk he with ⟨k0, h0, h1⟩ | h1
    · exact g.own k0 b h0 h1
    · exact .inr (Nat.le_trans g.size h1)
  dead k h h' := by
    have h1 := g.dead k h h'
    refine t.dead k ?_ h1
    cases hr : s0.ρ k with
    | none => exact absurd hr h
    | some x => rw [g.rho k x hr]; simp
  arr k fresh esz els h := by
    have hr0 : s0.ρ k ≠ none := by
      obtain ⟨x, hx, _⟩ := ok0.blk k _ h
      rw [hx]; simp
    rcases g.arr k fresh esz els h with h1 | ⟨f1, e1, h1, hl, hsz⟩
    · refine .inl (t.dead k ?_ h1)
      cases hr : s0.ρ k with
      | none => exact absurd hr hr0
      | some x => rw [g.rho k x hr]; simp
    · rcases t.arr k f1 esz e1 h1 with h2 | ⟨f2, e2, h2, hl2, hsz2⟩
      · exact .inl h2
      · refine .inr ⟨f2, e2, h2, by omega, fun b cs ty fz hb hc => ?_⟩
        obtain ⟨cs1, ty1, fz1, hb1, hs1⟩ := hsz b cs ty fz hb hc
        obtain ⟨cs2, ty2, fz2, hb2, hs2⟩ := hsz2 b cs1 ty1 fz1 (g.rho k _ hb) hb1
        exact ⟨cs2, ty2, fz2, hb2, by omega⟩
theorem Post.comp {s s1 s2 : Sg} {w w1 w2 : World} {fr fr1 fr2 : List Nat} {U U1 U2 : List (Nat × Option Blk)} (ok : OK s w) (p : Post s w fr1 U1 s1 w1) (q : Post s1 w1 fr2 U2 s2 w2)
    (hf : ∀ k, k ∈ fr1 ∨ k ∈ fr2 → k ∈ fr) (hU : ∀ k, updH (updH s.hp U1) U2 k = updH s.hp U k) : Post s w fr U s2 w2 where
  tr := p.tr.trans ok q.tr
  ok := q.ok
  hp := by rw [q.hp, p.hp]; funext k; exact hU k
  fresh k h hn := q.fresh k (p.fresh k h fun h' => hn (hf k (.inl h'))) fun h' => hn (hf k (.inr h'))
theorem Post.drop {s : Sg} {w : World} (ok : OK s w) (k : Nat) : Post s w [] [(k, none)] { s with hp := updH s.hp [(k, none)] } w := by
  have hhp : ∀ t, updH s.hp [(k, none)] t = if t = k then none else s.hp t := fun t => updH_one s.hp k none t
  have hne : ∀ t, updH s.hp [(k, none)] t ≠ none → s.hp t ≠ none ∧ t ≠ k := by
    intro t h
    rw [hhp] at h
    by_cases e : t = k
    · rw [if_pos e] at h; exact absurd rfl h
    · rw [if_neg e] at h; exact ⟨h, e⟩
  have tr : Tr s w { s with hp := updH s.hp [(k, none)] } w :=
    { M := rfl
      n0 := rfl
      rho := fun _ _ h => h
      size := Nat.le_refl _
      os := rfl
      tape := rfl
      output := rfl
      keep := fun _ _ _ => rfl
      own := fun t j h h' => .inl ⟨t, (hne t h).1, h'⟩
      dead := fun t _ h' => by
        show updH s.hp _ t = none
        rw [hhp, h', ite_self]
      arr := fun t fresh esz els h => by
        by_cases e : t = k
        · exact .inl (by show updH s.hp _ t = none; rw [hhp, if_pos e])
        · exact .inr ⟨fresh, els, by show updH s.hp _ t = _; rw [hhp, if_neg e]; exact h, Nat.le_refl _, fun j cs ty fz _ hc => ⟨cs, ty, fz, hc, rfl⟩⟩ }
  refine ⟨tr, ok.step tr ?_ ?_, rfl, fun _ h _ => h⟩
  · intro t B h
    have h2 : updH s.hp [(k, none)] t = some B := h
    rw [hhp] at h2
    by_cases e : t = k
    · rw [if_pos e] at h2; cases h2
    · rw [if_neg e] at h2; exact .inl ⟨h2, fun _ _ => rfl⟩
  · intro t t' j h h' hr hr'
    exact ok.inj t t' j (hne t h).1 (hne t' h').1 hr hr'
theorem Post.rename {s : Sg} {w : World} (ok : OK s w) {k k' : Nat} {x : Option Nat} {B : Blk} (hk : s.hp k = some B) (hr : s.ρ k = some x) (hk' : s.ρ k' = none) :
    Post s w [k'] [(k, none), (k', some B)] (s.with k' x [(k, none), (k', some B)]) w := by
  have hhp : ∀ t, updH s.hp [(k, none), (k', some B)] t = if t = k then none else if t = k' then some B else s.hp t := fun t => updH_two s.hp k k' none (some B) t
  have hkk : k' ≠ k := by rintro rfl; rw [hr] at hk'; cases hk'
  have hrho : ∀ t, (s.with k' x [(k, none), (k', some B)]).ρ t = if t = k' then some x else s.ρ t := fun _ => rfl
  -- every owned block was owned
  have hown : ∀ t b, updH s.hp [(k, none), (k', some B)] t ≠ none → (if t = k' then some x else s.ρ t) = some (some b) → ∃ t0, s.hp t0 ≠ none ∧ s.ρ t0 = some (some b) ∧ (t = k' ∧ t0 = k ∨ t ≠ k' ∧ t ≠ k ∧ t0 = t) := by
    intro t b h h'
    rw [hhp] at h
    by_cases e : t = k
    · rw [if_pos e] at h; exact absurd rfl h
    · by_cases e' : t = k'
      · rw [if_pos e'] at h'
        cases h'
        exact ⟨k, by rw [hk]; simp, hr, .inl ⟨e', rfl⟩⟩
      · rw [if_neg e, if_neg e'] at h
        rw [if_neg e'] at h'
        exact ⟨t, h, h', .inr ⟨e', e, rfl⟩⟩
  have tr : Tr s w (s.with k' x [(k, none), (k', some B)]) w :=
    { M := rfl
      n0 := rfl
      rho := fun t y h => by rw [hrho, if_neg (by rintro rfl; rw [hk'] at h; cases h)]; exact h
      size := Nat.le_refl _
      os := rfl
      tape := rfl
      output := rfl
      keep := fun _ _ _ => rfl
      own := fun t j h h' => by obtain ⟨t0, h0, h1, _⟩ := hown t j h h'; exact .inl ⟨t0, h0, h1⟩
      dead := fun t h h' => by
        show updH s.hp _ t = none
        rw [hhp, if_neg (by rintro rfl; rw [hk] at h'; cases h'), if_neg (by rintro rfl; exact h hk')]; exact h'
      arr := fun t fresh esz els h => by
        by_cases e : t = k
        · exact .inl (by show updH s.hp _ t = none; rw [hhp, if_pos e])
        · have e' : t ≠ k' := by rintro rfl; rw [ok.hp_none hk'] at h; cases h
          exact .inr ⟨fresh, els, by show updH s.hp _ t = _; rw [hhp, if_neg e, if_neg e']; exact h, Nat.le_refl _, fun j cs ty fz _ hc => ⟨cs, ty, fz, hc, rfl⟩⟩ }
  refine ⟨tr, ok.step tr ?_ ?_, rfl, fun t h hn => by rw [hrho, if_neg (by simpa using hn)]; exact h⟩
  · intro t B2 h
    have h2 : updH s.hp [(k, none), (k', some B)] t = some B2 := h
    rw [hhp] at h2
    by_cases e : t = k
    · rw [if_pos e] at h2; cases h2
    · by_cases e' : t = k'
      · rw [if_neg e, if_pos e'] at h2
        cases h2
        subst e'
        obtain ⟨y, hy, hok⟩ := ok.blk k B hk
        rw [hr] at hy; cases hy
        exact .inr ⟨x, by rw [hrho, if_pos rfl], hok.step tr fun _ _ => rfl⟩
      · rw [if_neg e, if_neg e'] at h2
        exact .inl ⟨h2, fun _ _ => rfl⟩
  · intro t t' j h h' hj hj'
    obtain ⟨t0, h0, h1, c⟩ := hown t j h hj
    obtain ⟨t1, h2, h3, c'⟩ := hown t' j h' hj'
    have := ok.inj t0 t1 j h0 h2 h1 h3
    rcases c with ⟨c1, c2⟩ | ⟨c1, c2, c3⟩ <;> rcases c' with ⟨d1, d2⟩ | ⟨d1, d2, d3⟩ <;> omega
theorem Post.blank {s : Sg} {w : World} (ok : OK s w) {k : Nat} (hk : s.ρ k = none) (f : Bool) (esz : Nat) : Post s w [k] [(k, some (.arr f esz []))] (s.with k none [(k, some (.arr f esz []))]) w := by
  have hhp : ∀ t, (s.with k none [(k, some (.arr f esz []))]).hp t = if t = k then some (.arr f esz []) else s.hp t := fun t => updH_one s.hp k _ t
  have hrho : ∀ t, (s.with k none [(k, some (.arr f esz []))]).ρ t = if t = k then some none else s.ρ t := fun _ => rfl
  have hown : ∀ t b, (s.with k none [(k, some (.arr f esz []))]).hp t ≠ none → (s.with k none [(k, some (.arr f esz []))]).ρ t = some (some b) → s.hp t ≠ none ∧ s.ρ t = some (some b) := by
    intro t b h h'
    rw [hhp] at h
    rw [hrho] at h'
    by_cases e : t = k
    · rw [if_pos e] at h'; cases h'
    · rw [if_neg e] at h h'; exact ⟨h, h'⟩
  have tr : Tr s w (s.with k none [(k, some (.arr f esz []))]) w :=
    { M := rfl
      n0 := rfl
      rho := fun t y h => by rw [hrho, if_neg (by rintro rfl; rw [hk] at h; cases h)]; exact h
      size := Nat.le_refl _
      os := rfl
      tape := rfl
      output := rfl
      keep := fun _ _ _ => rfl
      own := fun t j h h' => .inl ⟨t, hown t j h h'⟩
      dead := fun t h h' => by rw [hhp, if_neg (by rintro rfl; exact h hk)]; exact h'
      arr := fun t fresh esz' els h => by
        have hne : t ≠ k := by rintro rfl; rw [ok.hp_none hk] at h; cases h
        exact .inr ⟨fresh, els, by rw [hhp, if_neg hne]; exact h, Nat.le_refl _, fun j cs ty fz _ hc => ⟨cs, ty, fz, hc, rfl⟩⟩ }
  refine ⟨tr, ok.step tr ?_ ?_, rfl, fun t h hn => by rw [hrho, if_neg (by simpa using hn)]; exact h⟩
  · intro t B2 h2
    rw [hhp] at h2
    by_cases e : t = k
    · rw [if_pos e] at h2
      cases h2
      exact .inr ⟨Option.none, by rw [hrho, if_pos e], .inl ⟨rfl, rfl⟩⟩
    · rw [if_neg e] at h2
      exact .inl ⟨h2, fun _ _ => rfl⟩
  · intro t t' j h h' hj hj'
    obtain ⟨h0, h1⟩ := hown t j h hj
    obtain ⟨h2, h3⟩ := hown t' j h' hj'
    exact ok.inj t t' j h0 h2 h1 h3
theorem div_at {esz j i : Nat} (h : i < esz) : (j * esz + i) / esz = j ∧ (j * esz + i) % esz = i := by
  have hp : 0 < esz := by omega
  constructor
  · rw [Nat.add_comm, Nat.add_mul_div_right _ _ hp, Nat.div_eq_of_lt h, Nat.zero_add]
  · rw [Nat.add_comm, Nat.add_mul_mod_self_right, Nat.mod_eq_of_lt h]
structure Src (F : Nat → Prop) (w : World) (esz : Nat) (rows : List (List AV)) (u : Value) (A : Option Addr) (c : Nat) (news : List Value) : Prop where
  eq : u = .slice A rows.length c
  len : news.length = rows.length * esz
  row : ∀ (j : Nat) (row : List AV), rows[j]? = some row → row.length = esz
  some : rows ≠ [] → ∃ ad, A = .some ad ∧ ∀ (p : Nat) (v : Value), news[p]? = .some v → w.cell? (ad.add p) = .some v
  rep : ∀ (j : Nat) (row : List AV) (i : Nat) (av : AV), rows[j]? = .some row → row[i]? = .some av → ∃ v, news[j * esz + i]? = .some v ∧ Rep F w av v
theorem Src.one {F : Nat → Prop} {w : World} {esz : Nat} {rows : List (List AV)} {u : Value} {A : Option Addr} {c : Nat} {news : List Value} (h : Src F w esz rows u A c news) : ∀ v ∈ news, v.oneCell' = true := by
  intro v hv
  obtain ⟨p, hp⟩ := List.getElem?_of_mem hv
  have hlt : p < rows.length * esz := by rw [← h.len]; exact (List.getElem?_eq_some_iff.1 hp).1
  have hpos : 0 < esz := by
    rcases Nat.eq_zero_or_pos esz with rfl | h1
    · simp at hlt
    · exact h1
  have hj : p / esz < rows.length := (Nat.div_lt_iff_lt_mul hpos).2 hlt
  have hrow := List.getElem?_eq_getElem hj
  have hl := h.row _ _ hrow
  have hi : p % esz < (rows[p / esz]).length := by rw [hl]; exact Nat.mod_lt _ hpos
  obtain ⟨v', hv', hrep⟩ := h.rep _ _ _ _ hrow (List.getElem?_eq_getElem hi)
  have he : p / esz * esz + p % esz = p := by rw [Nat.mul_comm]; exact Nat.div_add_mod p esz
  rw [he, hp] at hv'
  cases hv'
  exact hrep.oneCell
theorem Rep.src {F : Nat → Prop} {w : World} {esz : Nat} {rows : List (List AV)} {u : Value} (h : Rep F w (.ro esz rows) u) : ∃ A c news, Src F w esz rows u A c news := by
  cases h with
  | @nil _ A cap hc => exact ⟨A, cap, [], rfl, by simp, by simp, by simp, by simp⟩
  | @ro _ _ b off cap c hF hb hn hc hrow hcell hrep =>
    refine ⟨_, cap, (List.range (rows.length * esz)).map fun p => c (p / esz) (p % esz), rfl, by simp, hrow, fun _ => ⟨_, rfl, fun p v hp => ?_⟩, fun j row i av h1 h2 => ?_⟩
    · simp only [List.getElem?_map, Option.map_eq_some_iff] at hp
      obtain ⟨q, hq, rfl⟩ := hp
      obtain ⟨h3, h4⟩ := List.getElem?_eq_some_iff.1 hq
      simp at h3 h4
      subst h4
      have hpos : 0 < esz := by
        rcases Nat.eq_zero_or_pos esz with rfl | h1
        · simp at h3
        · exact h1
      have hj : p / esz < rows.length := (Nat.div_lt_iff_lt_mul hpos).2 h3
      have hr := List.getElem?_eq_getElem hj
      have hi : p % esz < (rows[p / esz]).length := by rw [hrow _ _ hr]; exact Nat.mod_lt _ hpos
      have := hcell _ _ _ _ hr (List.getElem?_eq_getElem hi)
      rw [Nat.mul_comm (p / esz) esz, Nat.div_add_mod] at this
      rw [addr_add]
      exact this
    · have hi : i < esz := by rw [← hrow j row h1]; exact (List.getElem?_eq_some_iff.1 h2).1
      have hj : j < rows.length := (List.getElem?_eq_some_iff.1 h1).1
      obtain ⟨e1, e2⟩ := div_at (j := j) hi
      refine ⟨c j i, ?_, hrep j row i av h1 h2⟩
      have hlt : j * esz + i < rows.length * esz := by
        have : (j + 1) * esz ≤ rows.length * esz := Nat.mul_le_mul_right _ hj
        rw [Nat.succ_mul] at this
        omega
      simp [List.getElem?_map, List.getElem?_range hlt, e1, e2]
theorem own_src {s : Sg} {w : World} (ok : OK s w) {k esz off m : Nat} {fresh : Bool} {els : List (List AV)} {u : Value} (hk : s.hp k = some (.arr fresh esz els)) (h : Rel s w (.sl k esz off m) u) (hle : off + m ≤ els.length) :
    ∃ A c news, Src (if fresh then s.old else s.mut) w esz ((els.drop off).take m) u A c news := by
  have hm : ((els.drop off).take m).length = m := by simp; omega
  cases h with
  | rep h => cases h
  | slg _ hp => rw [hk] at hp; cases hp
  | sln hr =>
    rename_i A
    refine ⟨A, 0, [], by rw [hm], by simp, by simp, by simp, by simp⟩
  | @sl _ _ _ _ b cap fr els' cs ty fz hr hp hle' hb hn hc hs =>
    rw [hk] at hp; cases hp
    obtain ⟨y, hy, hok⟩ := ok.blk k _ hk
    rw [hr] at hy; cases hy
    rcases hok with ⟨h0, _⟩ | ⟨b', cs', ty', e1, h1, h2, h3, h4⟩
    · cases h0
    · cases e1
      rw [hb] at h1; cases h1
      have hms : (off + m) * esz ≤ els.length * esz := Nat.mul_le_mul_right _ hle
      have hme : (off + m) * esz = off * esz + m * esz := Nat.add_mul ..
      refine ⟨_, cap, (cs.toList.drop (off * esz)).take (m * esz), by rw [hm], ?_, fun j row h5 => ?_, fun _ => ⟨_, rfl, fun p v hp => ?_⟩, fun j row i av h5 h6 => ?_⟩
      · simp only [List.length_take, List.length_drop, Array.length_toList, hm]; omega
      · simp only [List.getElem?_take, List.getElem?_drop] at h5
        split at h5
        · exact h3 _ row h5
        · cases h5
      · simp only [List.getElem?_take, List.getElem?_drop] at hp
        split at hp
        · rw [addr_add, cell_of_row w b _ cs ty _ hb]
          simpa using hp
        · cases hp
      · simp only [List.getElem?_take, List.getElem?_drop] at h5
        split at h5
        · rename_i hlt
          obtain ⟨v, h7, h8⟩ := h4 _ row i av h5 h6
          have hi : i < esz := by rw [← h3 _ row h5]; exact (List.getElem?_eq_some_iff.1 h6).1
          refine ⟨v, ?_, h8⟩
          have hj : (j + 1) * esz ≤ m * esz := Nat.mul_le_mul_right _ hlt
          rw [Nat.succ_mul] at hj
          simp only [List.getElem?_take, List.getElem?_drop]
          rw [if_pos (by omega)]
          have h9 : off * esz + (j * esz + i) = (off + j) * esz + i := by rw [Nat.add_mul]; omega
          rw [h9]
          simpa using h7
        · cases h5
theorem Src.weaken {F F' : Nat → Prop} {w : World} {esz : Nat} {rows : List (List AV)} {u : Value} {A : Option Addr} {c : Nat} {news : List Value} (h : Src F w esz rows u A c news) (hF : ∀ b, F' b → F b) : Src F' w esz rows u A c news :=
  { h with rep := fun j row i av h1 h2 => by obtain ⟨v, h3, h4⟩ := h.rep j row i av h1 h2; exact ⟨v, h3, h4.weaken fun b _ => hF b⟩ }
structure ElT (P : Program) (t el esz bytes : Nat) : Prop where
  ht : P.underlying t = some (.slice el)
  info : (P.info? el).map (fun i => (i.size, i.bytes, i.zero.map (·.cells.size))) = some (esz, bytes, some esz)
  pos : 0 < esz
theorem ElT.open {P : Program} {t el esz bytes : Nat} (h : ElT P t el esz bytes) : ∃ i z, P.info? el = some i ∧ i.zero = some z ∧ i.size = esz ∧ i.bytes = bytes ∧ z.cells.size = esz := by
  obtain ⟨i, hi, h1⟩ := Option.map_eq_some_iff.1 h.info
  simp only [Prod.mk.injEq, Option.map_eq_some_iff] at h1
  obtain ⟨h2, h3, z, hz, h4⟩ := h1
  exact ⟨i, z, hi, hz, h2, h3, h4⟩
section
variable {P : Program}
theorem run_append_zero {t el esz bytes : Nat} (T : ElT P t el esz bytes) (ty : TypeId) (base : Option Addr) (n cap : Nat) (A : Option Addr) (c : Nat) (hn : n ≤ cap) (w : World) :
    (Builtin.append_ #[t, t] ty #[.slice base n cap, .slice A 0 c]).run P w = .ok (.slice base n cap) w := by
  obtain ⟨i, z, hi, _⟩ := T.open
  have hint : (match TypeDesc.slice el with | TypeDesc.int _ => true | _ => false) = false := rfl
  cases A <;> cases base <;> simp [Builtin.append_, run_underlying T.ht, sizeOf, typeInfo, hi, Builtin.lenOf, hn, Builtin.firstCells, loadCells, loadCellsFrom, storeCells]
theorem run_append_room1 (w : World) (t ty e ty1 : TypeId) (i : TypeInfo) (ht : P.underlying t = some (.slice e)) (hi : P.info? e = some i)
    (g sLen sCap : Nat) (cur : Array Value) (hg : w.heap[g]? = some (.cells cur ty1 (0, 0)))
    (a : Addr) (m c : Nat) (news : List Value) (hl : news.length = m * i.size) (hnews : ∀ (j : Nat) (u : Value), news[j]? = some u → w.cell? (a.add j) = some u) (h1 : ∀ u ∈ news, u.oneCell' = true)
    (hroom : sLen + m ≤ sCap) (hfit : sLen * i.size + news.length ≤ cur.size) :
    (Builtin.append_ #[t, t] ty #[.slice (some ⟨g, 0, none⟩) sLen sCap, .slice (some a) m c]).run P w =
      .ok (.slice (some ⟨g, 0, none⟩) (sLen + m) sCap) (w.setRow g (cur.toList.take (sLen * i.size) ++ news ++ cur.toList.drop (sLen * i.size + news.length)).toArray) := by
  have hf := run_firstCells_some (P := P) w i.size m a m c news hl hnews
  have hst := run_storeCells_at P g (sLen * i.size) ty1 news 0 cur w hg (by simpa using hfit) h1
  simp only [Nat.add_zero] at hst
  simp [Builtin.append_, run_underlying ht, sizeOf, typeInfo, hi, Builtin.lenOf, hroom, hf, Addr.add_lit, hst]
theorem Rel.sl0 {s : Sg} {w : World} {k esz n b cap : Nat} {fr : Bool} {els : List (List AV)} {cs : Array Value} {ty : TypeId} {fz : Nat × Nat} (h : s.ρ k = some (some b)) (hp : s.hp k = some (.arr fr esz els))
    (hle : n ≤ els.length) (hb : w.heap[b]? = some (.cells cs ty fz)) (hn : n ≤ cap) (hc : cap ≤ maxLen) (hs : cap * esz ≤ cs.size) :
    Rel s w (.sl k esz 0 n) (.slice (some ⟨b, 0, none⟩) n cap) := by
  have := Rel.sl (off := 0) h hp (by omega) hb hn hc (by rw [Nat.zero_add]; exact hs)
  rwa [Nat.zero_mul] at this
theorem append_core {t el esz bytes : Nat} (T : ElT P t el esz bytes) (ty : TypeId) {s : Sg} {w : World} (ok : OK s w) {k k' : Nat} {fresh : Bool} {els rows : List (List AV)} {v u : Value} {A : Option Addr} {c : Nat} {news : List Value}
    (hk : s.hp k = some (.arr fresh esz els)) (hk' : s.ρ k' = none) (hv : Rel s w (.sl k esz 0 els.length) v) (hsrc : Src (if fresh then s.old else s.mut) w esz rows u A c news)
    (hbytes : (els.length + rows.length) * bytes ≤ 140737488355328) (hmax : els.length + rows.length ≤ 140737488355328) :
    ∃ v' s' w', (Builtin.append_ #[t, t] ty #[v, u]).run P w = .ok v' w' ∧ Post s w [k'] [(k, none), (k', some (.arr fresh esz (els ++ rows)))] s' w' ∧ Rel s' w' (.sl k' esz 0 (els.length + rows.length)) v' := by
  obtain ⟨i, z, hi, hz, hsz, hby, hzs⟩ := T.open
  have hkk : k' ≠ k := by rintro rfl; rw [ok.hp_none hk'] at hk; cases hk
  obtain ⟨y, hy, hok⟩ := ok.blk k _ hk
  obtain ⟨nn, hnn⟩ : ∃ n, els.length = n := ⟨_, rfl⟩
  rw [hnn] at hv
  -- nothing is appended
  by_cases hm : rows = []
  · subst hm
    have hu := hsrc.eq
    have hp := Post.rename ok hk hy hk'
    have hform : ∃ base n cap, v = .slice base n cap ∧ n ≤ cap := by
      cases hv with
      | rep h => cases h
      | slg _ hp => rw [hk] at hp; cases hp
      | sl _ _ _ _ hn => exact ⟨_, _, _, rfl, hn⟩
      | sln => exact ⟨_, _, _, rfl, Nat.le_refl _⟩
    obtain ⟨base, n, cap, rfl, hn⟩ := hform
    subst hu
    refine ⟨_, _, w, run_append_zero T ty base n cap A c hn w, by simpa using hp, ?_⟩
    simp only [List.length_nil, Nat.add_zero, hnn]
    have hrho : (s.with k' y [(k, none), (k', some (.arr fresh esz els))]).ρ k' = some y := by simp [Sg.with]
    have hhp : (s.with k' y [(k, none), (k', some (.arr fresh esz els))]).hp k' = some (.arr fresh esz els) := by
      show updH s.hp _ k' = _
      rw [updH_two, if_neg hkk, if_pos rfl]
    cases hv with
    | rep h => cases h
    | slg _ hp => rw [hk] at hp; cases hp
    | sl hr hp hle hb hn hc hs =>
      rw [hy] at hr
      cases hr
      exact .sl (by rw [hrho]) hhp (by omega) hb hn hc hs
    | sln hr =>
      rw [hy] at hr
      cases hr
      exact .sln hrho
  have hmpos : 0 < rows.length := List.length_pos_iff.2 hm
  obtain ⟨ad, hA, hcell⟩ := hsrc.some hm
  have hu := hsrc.eq
  subst hA hu
  have h63 : ((els.length + rows.length : Nat) : Int) ≤ 9223372036854775807 := by omega
  have hlen : news.length = rows.length * i.size := by rw [hsz]; exact hsrc.len
  -- a row of old and new places, whatever lies behind it
  have content : ∀ (s' : Sg) (w' : World) (cur : List Value) (rest : List Value), Tr s w s' w' → (∀ (j : Nat) (row : List AV) (i : Nat) (av : AV), els[j]? = some row → row[i]? = some av → ∃ v, cur[j * esz + i]? = some v ∧ Rep (if fresh then s.old else s.mut) w av v) →
      (∀ (j : Nat) (row : List AV), els[j]? = some row → row.length = esz) → cur.length = els.length * esz → ∀ b ty', w'.heap[b]? = some (.cells (cur ++ news ++ rest).toArray ty' (0, 0)) → BOK s' w' (some b) (.arr fresh esz (els ++ rows)) := by
    intro s' w' cur rest tr hcur hrow hcl b ty' hb
    have hmono : ∀ {z : AV} {z' : Value}, Rep (if fresh then s.old else s.mut) w z z' → Rep (if fresh then s'.old else s'.mut) w' z z' := by
      intro z z' hz
      cases fresh
      · exact hz.mono tr.size tr.mut_keep
      · exact hz.mono tr.size tr.old_keep
    refine .inr ⟨b, _, ty', rfl, hb, ?_, fun j row h1 => ?_, fun j row q av h1 h2 => ?_⟩
    · simp only [List.length_append, List.size_toArray, hcl, hsrc.len, Nat.add_mul]; omega
    · rw [List.getElem?_append] at h1
      split at h1
      · exact hrow j row h1
      · exact hsrc.row _ row h1
    · simp only [List.getElem?_toArray]
      rw [List.getElem?_append] at h1
      split at h1
      · rename_i hj
        have hq : q < esz := by rw [← hrow j row h1]; exact (List.getElem?_eq_some_iff.1 h2).1
        obtain ⟨v, h3, h4⟩ := hcur j row q av h1 h2
        have hle : (j + 1) * esz ≤ els.length * esz := Nat.mul_le_mul_right _ hj
        rw [Nat.succ_mul] at hle
        refine ⟨v, ?_, hmono h4⟩
        rw [List.append_assoc, List.getElem?_append, if_pos (by omega)]
        exact h3
      · rename_i hj
        have hq : q < esz := by rw [← hsrc.row _ row h1]; exact (List.getElem?_eq_some_iff.1 h2).1
        obtain ⟨v, h3, h4⟩ := hsrc.rep _ row q av h1 h2
        have hle : els.length * esz ≤ j * esz := Nat.mul_le_mul_right _ (by omega)
        have hsub : (j - els.length) * esz = j * esz - els.length * esz := Nat.sub_mul ..
        refine ⟨v, ?_, hmono h4⟩
        rw [List.append_assoc, List.getElem?_append, if_neg (by omega), List.getElem?_append, if_pos (by have := (List.getElem?_eq_some_iff.1 h3).1; omega)]
        rw [show j * esz + q - cur.length = (j - els.length) * esz + q from by omega]
        exact h3
  -- the way of a new block
  have grow : ∀ (old : Nat) (cur : List Value), old < els.length + rows.length → cur.length = els.length * esz → (∀ (j : Nat) (row : List AV) (i : Nat) (av : AV), els[j]? = some row → row[i]? = some av → ∃ v, cur[j * esz + i]? = some v ∧ Rep (if fresh then s.old else s.mut) w av v) →
      (∀ (j : Nat) (row : List AV), els[j]? = some row → row.length = esz) →
      (Builtin.append_ #[t, t] ty #[v, .slice (some ad) rows.length c]).run P w = .ok (.slice (some ⟨w.heap.size, 0, none⟩) (els.length + rows.length) (grownCap w (els.length + rows.length) old el))
        (w.drew.alloc (.cells (cur.toArray ++ news.toArray ++ Builtin.zeroCells z.cells (grownCap w (els.length + rows.length) old el - (els.length + rows.length))) el)) →
      ∃ v' s' w', (Builtin.append_ #[t, t] ty #[v, .slice (some ad) rows.length c]).run P w = .ok v' w' ∧ Post s w [k'] [(k, none), (k', some (.arr fresh esz (els ++ rows)))] s' w' ∧ Rel s' w' (.sl k' esz 0 (els.length + rows.length)) v' := by
    intro old cur hold hcl hcur hrow hrun
    have hcells : (cur.toArray ++ news.toArray ++ Builtin.zeroCells z.cells (grownCap w (els.length + rows.length) old el - (els.length + rows.length))) = (cur ++ news ++ (Builtin.zeroCells z.cells (grownCap w (els.length + rows.length) old el - (els.length + rows.length))).toList).toArray := by
      apply Array.ext'; simp
    rw [hcells] at hrun
    have hge := grownCap_ge w (els.length + rows.length) old el
    have hcm : grownCap w (els.length + rows.length) old el ≤ maxLen := grownCap_le_maxLen w (els.length + rows.length) old el (by unfold maxLen; omega)
    have p1 := Post.new (w := w) (w0 := w.drew) ok hk' (.arr fresh esz (els ++ rows)) (.cells (cur ++ news ++ (Builtin.zeroCells z.cells (grownCap w (els.length + rows.length) old el - (els.length + rows.length))).toList).toArray el (0, 0)) rfl rfl rfl rfl (fun s' w' tr hn => content s' w' cur _ tr hcur hrow hcl _ _ hn)
    have p2 := Post.drop p1.ok k
    refine ⟨_, _, _, hrun, p1.comp ok p2 (by simp) ?_, ?_⟩
    · intro q
      rw [updH_one, updH_one, updH_two]
    · refine .sl0 (b := w.heap.size) (fr := fresh) (els := els ++ rows) ?_ ?_ ?_ (alloc_new w.drew _) hge hcm ?_
      · simp [Sg.with]
      · show updH _ _ k' = _
        rw [updH_one, if_neg hkk]
        show updH _ _ k' = _
        rw [updH_one, if_pos rfl]
      · simp
      · simp only [List.size_toArray, List.length_append, Array.length_toList, size_zeroCells, hzs, hcl, hsrc.len, ← Nat.add_mul]
        exact Nat.mul_le_mul_right _ (by omega)
  cases hv with
  | rep h => cases h
  | slg _ hp => rw [hk] at hp; cases hp
  | @sln _ _ _ A0 hr =>
    rw [hr] at hy
    cases hy
    rcases hok with ⟨_, he⟩ | ⟨b, cs, ty1, e1, _⟩
    · subst he
      simp only [List.length_nil, Nat.zero_add] at *
      cases A0 with
      | none =>
        refine grow 0 [] hmpos (by simp) (by simp) (by simp) ?_
        have := run_append_nil (P := P) w t ty el i z T.ht hi hz ad rows.length c news hlen hcell hmpos (by omega) (by rw [hby]; omega)
        simpa using this
      | some a0 =>
        refine grow 0 [] hmpos (by simp) (by simp) (by simp) ?_
        have := run_append_grow (P := P) w t ty el i z T.ht hi hz a0 0 0 [] (by simp) (by simp) ad rows.length c news hlen hcell (by omega) (by simpa using h63) (by rw [hby]; exact growslice_fits (by omega) (by simpa using hbytes))
        simpa using this
    · cases e1
  | @sl _ _ _ _ b cap fr els' cs ty1 fz hr hp hle hb hn hc hs =>
    rw [hk] at hp; cases hp
    rw [hr] at hy; cases hy
    rcases hok with ⟨h0, _⟩ | ⟨b', cs1, ty2, e1, h1, h2, h3, h4⟩
    · cases h0
    · cases e1
      rw [hb] at h1; cases h1
      subst hnn
      simp only [Nat.zero_mul, Nat.zero_add] at hs grow ⊢
      by_cases hroom : els.length + rows.length ≤ cap
      · have hfit : els.length * i.size + news.length ≤ cs.size := by
          rw [hlen, hsz, ← Nat.add_mul]; exact Nat.le_trans (Nat.mul_le_mul_right _ hroom) hs
        have hrun := run_append_room1 (P := P) w t ty el ty1 i T.ht hi b els.length cap cs hb ad rows.length c news hlen hcell hsrc.one hroom hfit
        have hcs : (cs.toList.take (els.length * i.size) ++ news ++ cs.toList.drop (els.length * i.size + news.length)).toArray.size = cs.size := by
          simp only [List.size_toArray, List.length_append, List.length_take, List.length_drop, Array.length_toList]; omega
        have p1 := Post.upd ok hk hr hb hcs (B' := .arr fresh esz (els ++ rows)) (by intro f e els0 h; cases h; exact ⟨_, _, rfl, by simp⟩)
          (fun s' w' tr hnew => content s' w' (cs.toList.take (els.length * esz)) _ tr (fun j row q av h5 h6 => by
            obtain ⟨v, h7, h8⟩ := h4 j row q av h5 h6
            have hq : q < esz := by rw [← h3 j row h5]; exact (List.getElem?_eq_some_iff.1 h6).1
            have hj : j < els.length := (List.getElem?_eq_some_iff.1 h5).1
            have hle : (j + 1) * esz ≤ els.length * esz := Nat.mul_le_mul_right _ hj
            rw [Nat.succ_mul] at hle
            refine ⟨v, ?_, h8⟩
            rw [List.getElem?_take, if_pos (by omega)]
            simpa using h7) h3 (by simp only [List.length_take, Array.length_toList]; omega) b ty1 (by rw [hsz] at hnew; exact hnew))
        have hk1 : updH s.hp [(k, some (.arr fresh esz (els ++ rows)))] k = some (.arr fresh esz (els ++ rows)) := by rw [updH_one, if_pos rfl]
        have p2 := Post.rename p1.ok (k := k) (k' := k') (x := some b) hk1 hr hk'
        refine ⟨_, _, _, hrun, p1.comp ok p2 (by simp) ?_, ?_⟩
        · intro q
          rw [updH_two, updH_one, updH_two]
          by_cases e : q = k
          · simp [e]
          · simp [e]
        · refine .sl0 (b := b) (fr := fresh) (els := els ++ rows) (cs := (cs.toList.take (els.length * i.size) ++ news ++ cs.toList.drop (els.length * i.size + news.length)).toArray) (ty := ty1) (fz := (0, 0)) ?_ ?_ ?_ ?_ hroom hc ?_
          · simp [Sg.with]
          · show updH _ _ k' = _
            rw [updH_two, if_neg hkk, if_pos rfl]
          · simp
          · exact setRow_heap w b cs _ ty1 (0, 0) hb
          · rw [hcs]; exact hs
      · refine grow cap (cs.toList.take (els.length * esz)) (by omega) (by simp only [List.length_take, Array.length_toList]; omega) (fun j row q av h5 h6 => ?_) h3 ?_
        · obtain ⟨v, h7, h8⟩ := h4 j row q av h5 h6
          have hq : q < esz := by rw [← h3 j row h5]; exact (List.getElem?_eq_some_iff.1 h6).1
          have hj : j < els.length := (List.getElem?_eq_some_iff.1 h5).1
          have hle : (j + 1) * esz ≤ els.length * esz := Nat.mul_le_mul_right _ hj
          rw [Nat.succ_mul] at hle
          refine ⟨v, ?_, h8⟩
          rw [List.getElem?_take, if_pos (by omega)]
          simpa using h7
        · have := run_append_grow (P := P) w t ty el i z T.ht hi hz ⟨b, 0, none⟩ els.length cap (cs.toList.take (els.length * esz)) (by rw [hsz]; simp only [List.length_take, Array.length_toList]; omega) (fun j u hu => by
            rw [addr_add, Nat.zero_add, cell_of_row w b _ cs ty1 _ hb]
            rw [List.getElem?_take] at hu
            split at hu
            · simpa using hu
            · cases hu) ad rows.length c news hlen hcell (by omega) h63 (by rw [hby]; exact growslice_fits (by omega) hbytes)
          exact this
end
end Go.Abs
namespace Go.Abs
inductive SrcAV (E : Env) (H : Hp) (esz : Nat) (f : Bool) (y : Operand) : List (List AV) → Prop
  | sl {k off m : Nat} {f2 : Bool} {els : List (List AV)} (hy : evO E y = some (.sl k esz off m)) (hH : H k = some (.arr f2 esz els)) (hle : off + m ≤ els.length) (hf : f = true → f2 = true) : SrcAV E H esz f y ((els.drop off).take m)
  | ro {rows : List (List AV)} (hy : evO E y = some (.ro esz rows)) (hf : f = false) : SrcAV E H esz f y rows
  | fr {rows : List (List AV)} (hy : evO E y = some (.fr (.ro esz rows))) : SrcAV E H esz f y rows
  | nil {A : Option Addr} {c : Nat} (hy : evO E y = some (.lit (.slice A 0 c))) : SrcAV E H esz f y []
  | roL {rows : List (List AV)} (hy : evO E y = some (.ro esz rows)) (hl : ∀ row ∈ rows, ∀ c ∈ row, ∃ v, c = .lit v) : SrcAV E H esz f y rows
theorem SrcAV.src {E : Env} {H : Hp} {esz : Nat} {f : Bool} {y : Operand} {rows : List (List AV)} (h : SrcAV E H esz f y rows) {s : Sg} {w : World} {a : Act} (ok : OK s w)
    (hE : ∀ t av, E t = some av → Rel s w av (a.tmps.getD t undef)) (hH : ∀ k B, H k = some B → s.hp k = some B) : ∃ A c news, Src (if f then s.old else s.mut) w esz rows (a.eval y) A c news := by
  cases h with
  | @sl k off m f2 els hy hHk hle hf =>
    obtain ⟨A, c, news, h⟩ := own_src ok (hH k _ hHk) (evO_rel hE hy) hle
    refine ⟨A, c, news, h.weaken fun b hb => ?_⟩
    cases f
    · cases f2
      · exact hb
      · exact .inl hb
    · rw [hf rfl]; exact hb
  | ro hy hf =>
    have h := evO_rel hE hy
    subst hf
    generalize a.eval y = u at h
    cases h with
    | rep h => exact Rep.src h
  | fr hy =>
    have h := evO_rel hE hy
    generalize a.eval y = u at h
    cases h with
    | rep h => cases h
    | fr h =>
      obtain ⟨A, c, news, h⟩ := Rep.src h
      refine ⟨A, c, news, h.weaken fun b hb => ?_⟩
      cases f
      · exact .inl hb
      · exact hb
  | @nil A c hy =>
    have e := Rel.lit_eq (evO_rel hE hy)
    exact ⟨A, c, [], e, by simp, by simp, by simp, by simp⟩
  | roL hy hl =>
    have h := evO_rel hE hy
    generalize a.eval y = u at h
    cases h with
    | rep h =>
      obtain ⟨A, c, news, h⟩ := Rep.src h
      refine ⟨A, c, news, { h with rep := fun j row i av h1 h2 => ?_ }⟩
      obtain ⟨v, h3, h4⟩ := h.rep j row i av h1 h2
      obtain ⟨x, rfl⟩ := hl row (List.mem_of_getElem? h1) av (List.mem_of_getElem? h2)
      refine ⟨v, h3, ?_⟩
      cases h4 with
      | lit h5 => exact .lit h5
section
variable {P : Program} {o : Oper} {E : Env} {H : Hp}
theorem AOp.append {t el esz bytes n : Nat} {x y : Operand} {k : Nat} (k' : Nat) {f : Bool} {els rows : List (List AV)} (T : ElT P t el esz bytes) (ho : o.op = .call { callee := .builtin .append, args := #[x, y], argTypes := #[t, t] })
    (hx : evO E x = some (.sl k esz 0 n)) (hH : H k = some (.arr f esz els)) (hn : els.length = n) (hy : SrcAV E H esz f y rows)
    (hbytes : (els.length + rows.length) * bytes ≤ 140737488355328) (hmax : els.length + rows.length ≤ 140737488355328) :
    AOp P o E H [k'] (some (.sl k' esz 0 (n + rows.length))) [(k, none), (k', some (.arr f esz (els ++ rows)))] :=
  AOp.value fun s w a ok hE hH' hfr => by
    subst hn
    obtain ⟨A, c, news, hsrc⟩ := hy.src (a := a) ok hE hH'
    obtain ⟨v', s', w', hrun, hpost, hrel⟩ := append_core T o.type ok (hH' k _ hH) (hfr k' (by simp)) (evO_rel hE hx) hsrc hbytes hmax
    refine ⟨v', s', w', ?_, hpost, fun av e => by cases e; exact hrel⟩
    simp [execOp, ho, resolve, invoke, builtin, hrun]
theorem AOp.append_emp {t el esz bytes : Nat} {x y : Operand} (k' : Nat) (f : Bool) {rows : List (List AV)} (T : ElT P t el esz bytes) (ho : o.op = .call { callee := .builtin .append, args := #[x, y], argTypes := #[t, t] })
    (hx : evO E x = some .emp ∨ ∃ A, evO E x = some (.lit (.slice A 0 0))) (hy : SrcAV E H esz f y rows)
    (hbytes : rows.length * bytes ≤ 140737488355328) (hmax : rows.length ≤ 140737488355328) :
    AOp P o E H [k', k' + 1] (some (.sl k' esz 0 rows.length)) [(k', some (.arr f esz rows))] :=
  AOp.value fun s w a ok hE hH' hfr => by
    have hx' : ∃ A, a.eval x = .slice A 0 0 := by
      rcases hx with hx | ⟨A, hx⟩
      · have h := evO_rel hE hx
        generalize a.eval x = u at h
        cases h with
        | rep h => cases h
        | emp => exact ⟨_, rfl⟩
      · exact ⟨A, Rel.lit_eq (evO_rel hE hx)⟩
    obtain ⟨A0, hA0⟩ := hx'
    have p1 := Post.blank ok (hfr (k' + 1) (by simp)) f esz
    obtain ⟨A, c, news, hsrc⟩ := hy.src (a := a) ok hE hH'
    have hsrc' : Src (if f then (s.with (k' + 1) none [(k' + 1, some (.arr f esz []))]).old else (s.with (k' + 1) none [(k' + 1, some (.arr f esz []))]).mut) w esz rows (a.eval y) A c news :=
      ⟨hsrc.eq, hsrc.len, hsrc.row, hsrc.some, fun j row i av h1 h2 => by
        obtain ⟨v, h3, h4⟩ := hsrc.rep j row i av h1 h2
        refine ⟨v, h3, ?_⟩
        cases f
        · exact h4.mono p1.tr.size p1.tr.mut_keep
        · exact h4.mono p1.tr.size p1.tr.old_keep⟩
    have hk'0 : s.ρ k' = none := hfr k' (by simp)
    obtain ⟨v', s', w', hrun, hpost, hrel⟩ := append_core T o.type p1.ok (k := k' + 1) (k' := k') (fresh := f) (els := []) (v := .slice A0 0 0) (by show updH _ _ _ = _; rw [updH_one, if_pos rfl])
      (by show (if k' = k' + 1 then _ else s.ρ k') = none; rw [if_neg (by omega)]; exact hk'0) (.sln (by simp [Sg.with])) hsrc' (by simpa using hbytes) (by simpa using hmax)
    refine ⟨v', s', w', ?_, p1.comp ok hpost (by simp) ?_, fun av e => by cases e; simpa using hrel⟩
    · simp [execOp, ho, resolve, invoke, builtin, hA0, hrun]
    · intro q
      rw [updH_two, updH_one, updH_one, List.nil_append]
      by_cases e : q = k' + 1
      · subst e
        rw [if_pos rfl, if_neg (by omega), ok.hp_none (hfr _ (by simp))]
      · rw [if_neg e, if_neg e]
theorem flatten_get {esz : Nat} : ∀ (rows : List (List AV)), (∀ (j : Nat) (row : List AV), rows[j]? = some row → row.length = esz) → ∀ (j i : Nat) (row : List AV) (av : AV), rows[j]? = some row → row[i]? = some av → rows.flatten[j * esz + i]? = some av
  | [], _, j, i, row, av, h, _ => by simp at h
  | r :: rows, hr, j, i, row, av, h, h2 => by
    have hl : r.length = esz := hr 0 r rfl
    rw [List.flatten_cons, List.getElem?_append]
    cases j with
    | zero =>
      simp at h
      subst h
      have hi : i < r.length := (List.getElem?_eq_some_iff.1 h2).1
      rw [if_pos (by omega)]
      simpa using h2
    | succ j =>
      have hlen : ¬ (j + 1) * esz + i < r.length := by rw [Nat.succ_mul]; omega
      rw [if_neg hlen, hl]
      have : (j + 1) * esz + i - esz = j * esz + i := by rw [Nat.succ_mul]; omega
      rw [this]
      exact flatten_get rows (fun j row h => hr (j + 1) row (by simpa using h)) j i row av (by simpa using h) h2
theorem flatten_len {esz : Nat} : ∀ (rows : List (List AV)), (∀ (j : Nat) (row : List AV), rows[j]? = some row → row.length = esz) → rows.flatten.length = rows.length * esz
  | [], _ => by simp
  | r :: rows, hr => by
    rw [List.flatten_cons, List.length_append, flatten_len rows (fun j row h => hr (j + 1) row (by simpa using h)), hr 0 r rfl, List.length_cons, Nat.succ_mul]; omega
def zerosN (z : Value) (n : Nat) : List AV := (List.range n).map fun p => .lit (z.cells[p % z.cells.size]!)
theorem all_len {esz : Nat} {rows : List (List AV)} (h : rows.all (fun r => r.length == esz) = true) : ∀ (j : Nat) (row : List AV), rows[j]? = some row → row.length = esz := by
  intro j row hj
  have := List.all_eq_true.1 h row (List.mem_of_getElem? hj)
  simpa using this
theorem AOp.buildSlice {t el esz len : Nat} {parts : Array (Nat × Operand)} {z : Value} {ps : List (Nat × AV)} {cells flat : List AV} (k : Nat) (f : Bool) (rows : List (List AV)) (ht : P.underlying t = some (.slice el)) (hs : (P.info? el).map (·.size) = some esz)
    (hz : (P.info? el).bind (·.zero) = some z) (hzs : z.cells.size = esz) (h1 : z.cells.toList.all (·.oneCell') = true) (hpos : ¬ len * esz = 0) (hsmall : ¬ len * esz > 2 ^ 24)
    (ho : o.op = .buildSlice t len parts) (hp : evParts E parts.toList = some ps) (hc : lay (fun i => some (i * esz, esz)) (zerosN z (len * esz)) ps = some cells) (hb : bareAll f cells = some flat) (hf : rows.flatten = flat)
    (hl : rows.length = len) (hr : rows.all (fun r => r.length == esz) = true) :
    AOp P o E H [k] (some (.sl k esz 0 len)) [(k, some (.arr f esz rows))] :=
  AOp.value fun s w a ok hE _ hfr => by
    obtain ⟨inf, hinf, rfl⟩ := Option.map_eq_some_iff.1 hs
    obtain ⟨inf', hinf', hz⟩ := Option.bind_eq_some_iff.1 hz
    rw [hinf] at hinf'; cases hinf'
    obtain ⟨hpl, hrel⟩ := evParts_rel (a := a) hE _ _ hp
    have hzero : ∀ (p : Nat), (z.cells[p % z.cells.size]!).oneCell' = true := by
      intro p
      have hzp : 0 < z.cells.size := by rw [hzs]; rcases Nat.eq_zero_or_pos inf.size with h | h; (rw [h] at hpos; simp at hpos); exact h
      have hlt : p % z.cells.size < z.cells.size := Nat.mod_lt _ hzp
      rw [getElem!_pos z.cells (p % z.cells.size) hlt]
      exact List.all_eq_true.1 h1 _ (by simp)
    obtain ⟨cs', h2, h3, h4⟩ := fill_lay (s := s) (w := w) (fun (i : Nat) => some (i * inf.size, inf.size)) ps (parts.toList.map fun (i, x) => (i, a.eval x)) (zerosN z (len * inf.size)) cells ((Array.range (len * inf.size)).map fun (p : Nat) => z.cells[p % z.cells.size]!) (by simpa using hpl) hrel (by simp [zerosN]) (fun i av v h5 h6 => by
      have hlt : i < len * inf.size := by
        have := (List.getElem?_eq_some_iff.1 h5).1
        simpa [zerosN] using this
      simp only [zerosN, List.getElem?_map, List.getElem?_range hlt, Option.map_some] at h5
      cases h5
      have : v = z.cells[i % z.cells.size]! := by
        simp [hlt] at h6
        simpa using h6.symm
      subst this
      exact .rep (.lit (hzero i))) hc
    have hrun : (Instr.buildSlice t len (parts.map fun (i, x) => (i, a.eval x))).run P w = .ok (.slice (some ⟨w.heap.size, 0, none⟩) len len) (w.alloc (.cells cs' el)) :=
      run_buildSlice w t el len _ cs' inf z ht hinf hz hsmall hpos (by rw [Array.toList_map]; exact h2)
    obtain ⟨hbl, hbs⟩ := bareAll_spec _ _ hb
    have hrows := all_len hr
    have hfl := flatten_len rows hrows
    rw [hf] at hfl
    have hlen : len * inf.size ≤ 2 ^ 24 := by omega
    have hll : len ≤ len * inf.size := Nat.le_mul_of_pos_right _ (by rcases Nat.eq_zero_or_pos inf.size with h | h; (rw [h] at hpos; simp at hpos); exact h)
    have hp1 := Post.new (w := w) (w0 := w) ok (hfr k (by simp)) (.arr f inf.size rows) (.cells cs' el) rfl rfl rfl rfl (fun s' w' tr hn => by
      refine .inr ⟨_, cs', el, rfl, hn, by omega, hrows, fun j row i av h5 h6 => ?_⟩
      have h7 := flatten_get rows hrows j i row av h5 h6
      rw [hf] at h7
      obtain ⟨x, hx, hbx⟩ := hbs _ _ h7
      have hlt : j * inf.size + i < cs'.size := by rw [← h3]; exact (List.getElem?_eq_some_iff.1 hx).1
      have hg : cs'[j * inf.size + i]? = some (cs'[j * inf.size + i]) := Array.getElem?_eq_getElem hlt
      refine ⟨_, hg, ?_⟩
      have := (h4 _ x _ hx hg).bare hbx
      cases f
      · exact this.mono tr.size tr.mut_keep
      · exact this.mono tr.size tr.old_keep)
    refine ⟨.slice (some ⟨w.heap.size, 0, none⟩) len len, _, _, ?_, hp1, ?_⟩
    · simp only [execOp, ho, Sem.run_bind, hrun]; rfl
    · rintro av ⟨⟩
      refine .sl0 (b := w.heap.size) (fr := f) (els := rows) (cs := cs') (ty := el) (fz := (0, 0)) (by simp [Sg.with]) (by show updH _ _ _ = _; rw [updH_one, if_pos rfl]) (by omega) (alloc_new w _) (Nat.le_refl _) (by unfold maxLen; omega) ?_
      rw [← h3, ← hbl, hfl, hl]; exact Nat.le_refl _
theorem AOp.buildEmpty {t el esz : Nat} (k : Nat) (f : Bool) (ht : P.underlying t = some (.slice el)) (hs : (P.info? el).map (·.size) = some esz) (ho : o.op = .buildSlice t 0 #[]) :
    AOp P o E H [k] (some (.sl k esz 0 0)) [(k, some (.arr f esz []))] :=
  AOp.value fun s w a ok hE _ hfr => by
    obtain ⟨inf, hinf, rfl⟩ := Option.map_eq_some_iff.1 hs
    have hp1 := Post.new (w := w) (w0 := w) ok (hfr k (by simp)) (.arr f inf.size []) (.cells #[] el) rfl rfl rfl rfl (fun s' w' tr hn => .inr ⟨_, #[], el, rfl, hn, by simp, by simp, by simp⟩)
    refine ⟨.slice (some ⟨w.heap.size, 0, none⟩) 0 0, _, _, ?_, hp1, ?_⟩
    · have hm0 : ((Array.range 0).map fun (_ : Nat) => (default : Value)) = #[] := by simp
      simp [execOp, ho, Instr.buildSlice, run_underlying ht, sizeOf, typeInfo, hinf, Instr.fill, newRow, hm0]
    · rintro av ⟨⟩
      exact .sl0 (b := w.heap.size) (fr := f) (els := []) (cs := #[]) (ty := el) (fz := (0, 0)) (by simp [Sg.with]) (by show updH _ _ _ = _; rw [updH_one, if_pos rfl]) (by simp) (alloc_new w _) (Nat.le_refl _) (by simp) (by simp)
theorem AOp.makeSlice {t el esz bytes n : Nat} {x y : Operand} {p q : Int} {z : Value} (k : Nat) (f : Bool) (ht : P.underlying t = some (.slice el)) (hi : (P.info? el).map (fun i => (i.size, i.bytes)) = some (esz, bytes))
    (hz : (P.info? el).bind (·.zero) = some z) (hzs : z.cells.size = esz) (h1 : z.cells.toList.all (·.oneCell') = true) (hpos : 0 < esz)
    (ho : o.op = .makeSlice t x y) (hx : evO E x = some (.lit (.int .i64 p))) (hy : evO E y = some (.lit (.int .i64 q))) (hp : p = (n : Int)) (hq : q = (n : Int)) (hb : bytes * n ≤ 281474976710656) (hm : n ≤ 281474976710656) :
    AOp P o E H [k] (some (.sl k esz 0 n)) [(k, some (.arr f esz (List.replicate n (zeros z))))] :=
  AOp.value fun s w a ok hE _ hfr => by
    obtain ⟨inf, hinf, hsb⟩ := Option.map_eq_some_iff.1 hi
    simp only [Prod.mk.injEq] at hsb
    obtain ⟨rfl, rfl⟩ := hsb
    obtain ⟨inf', hinf', hz⟩ := Option.bind_eq_some_iff.1 hz
    rw [hinf] at hinf'; cases hinf'
    subst hp
    subst hq
    have e1 := Rel.lit_eq (evO_rel hE hx)
    have e2 := Rel.lit_eq (evO_rel hE hy)
    have hwrap : IntKind.i64.wrap (n : Int) = n := by
      have := IntWalk.i64_in (n := (n : Int)) (by omega)
      exact this
    have hzlen : z.cells.toList.length = inf.size := by simpa using hzs
    have hp1 := Post.new (w := w) (w0 := w) ok (hfr k (by simp)) (.arr f inf.size (List.replicate n (zeros z))) (.cells ((Array.range (n * inf.size)).map (z.cells[· % z.cells.size]!)) el) rfl rfl rfl rfl (fun s' w' tr hn => by
      refine .inr ⟨_, _, el, rfl, hn, by simp, fun j row hj => ?_, fun j row i av hj hi => ?_⟩
      · rw [List.getElem?_replicate] at hj
        split at hj
        · cases hj; simp [zeros, hzs]
        · cases hj
      · rw [List.getElem?_replicate] at hj
        split at hj
        · rename_i hlt
          cases hj
          simp only [zeros, List.getElem?_map, Option.map_eq_some_iff] at hi
          obtain ⟨v, hv, rfl⟩ := hi
          have hil : i < inf.size := by rw [← hzlen]; exact (List.getElem?_eq_some_iff.1 hv).1
          have hjj : (j + 1) * inf.size ≤ n * inf.size := Nat.mul_le_mul_right _ hlt
          rw [Nat.succ_mul] at hjj
          have hvv : z.cells[i]? = some v := by simpa using hv
          have hmod : z.cells[(j * inf.size + i) % z.cells.size]! = v := by
            rw [hzs, (div_at hil).2, getElem!_pos z.cells i (by omega)]
            exact (Array.getElem?_eq_some_iff.1 hvv).2
          refine ⟨v, ?_, .lit ?_⟩
          · rw [Array.getElem?_map, Array.getElem?_range, if_pos (by omega)]
            simp only [Option.map_some, hmod]
          · exact List.all_eq_true.1 h1 v (List.mem_of_getElem? hv)
        · cases hj)
    refine ⟨.slice (some ⟨w.heap.size, 0, none⟩) n n, _, _, ?_, hp1, ?_⟩
    · have hbig : ¬ ((inf.bytes : Int) * (n : Int) > 2 ^ 48) := by
        have : ((inf.bytes : Int) * (n : Int)) = ((inf.bytes * n : Nat) : Int) := by simp
        rw [this]; omega
      have hng : ¬ ((n : Int) < 0) := by omega
      have hbig2 : ¬ (281474976710656 < (inf.bytes : Int) * (n : Int)) := by omega
      have hm0 : ((Array.range 0).map fun (_ : Nat) => (default : Value)) = #[] := by simp
      have hm1 : ((Array.range 0).map fun (p : Nat) => z.cells[p % z.cells.size]!) = #[] := by simp
      by_cases hn0 : n * inf.size = 0
      · simp [execOp, ho, e1, e2, Instr.makeSlice, run_underlying ht, asInt, asIntOf, typeInfo, hinf, hwrap, sizeOf, eq_false hbig2, eq_false hng, hn0, newRow, hm0, hm1]
      · simp [execOp, ho, e1, e2, Instr.makeSlice, run_underlying ht, asInt, asIntOf, typeInfo, hinf, hwrap, sizeOf, eq_false hbig2, eq_false hng, newRow, zeroValue, hz]
        exact fun h => absurd h hn0
    · rintro av ⟨⟩
      exact .sl0 (b := w.heap.size) (fr := f) (els := List.replicate n (zeros z)) (ty := el) (fz := (0, 0)) (by simp [Sg.with]) (by show updH _ _ _ = _; rw [updH_one, if_pos rfl]) (by simp) (alloc_new w _) (Nat.le_refl _) (by unfold maxLen; omega) (by simp)
def bndO (E : Env) (x : Option Operand) (d : Nat) (n : Nat) : Prop := match x with
  | none => n = d
  | some y => ∃ (kd : IntKind) (z : Int), evO E y = some (.lit (.int kd z)) ∧ z = (n : Int)
theorem run_bounds {a : Act} {s : Sg} {w : World} (hE : ∀ t av, E t = some av → Rel s w av (a.tmps.getD t undef)) {lo hi : Option Operand} {len cap i j : Nat} (hlo : bndO E lo 0 i) (hhi : bndO E hi len j) (hij : i ≤ j) (hjc : j ≤ cap) :
    (Instr.sliceBounds true len cap (lo.map a.eval) (hi.map a.eval) none).run P w = .ok (i, j, cap) w := by
  cases lo with
  | none =>
    simp only [bndO] at hlo
    subst hlo
    cases hi with
    | none => simp only [bndO] at hhi; subst hhi; simp [Instr.sliceBounds]
    | some y =>
      obtain ⟨kd, z, h1, rfl⟩ := hhi
      have e2 := Rel.lit_eq (evO_rel hE h1)
      simp [Instr.sliceBounds, e2, Instr.sliceBound, asIntOf, hjc]
  | some u =>
    obtain ⟨kd', z', h1', rfl⟩ := hlo
    have e3 := Rel.lit_eq (evO_rel hE h1')
    cases hi with
    | none => simp only [bndO] at hhi; subst hhi; simp [Instr.sliceBounds, e3, Instr.sliceBound, asIntOf, hij]
    | some y =>
      obtain ⟨kd, z, h1, rfl⟩ := hhi
      have e2 := Rel.lit_eq (evO_rel hE h1)
      simp [Instr.sliceBounds, e2, e3, Instr.sliceBound, asIntOf, hjc, hij]
theorem rep_slice {F : Nat → Prop} {w : World} {esz : Nat} {xs : List (List AV)} {i j cap b off : Nat} (c : Nat → Nat → Value) (hF : ¬ F b) (hb : b < w.heap.size) (hc : cap ≤ maxLen)
    (hrow : ∀ (j : Nat) (row : List AV), xs[j]? = some row → row.length = esz)
    (hcell : ∀ (j : Nat) (row : List AV) (i : Nat) (av : AV), xs[j]? = some row → row[i]? = some av → w.cell? ⟨b, off + (j * esz + i), none⟩ = some (c j i))
    (hrep : ∀ (j : Nat) (row : List AV) (i : Nat) (av : AV), xs[j]? = some row → row[i]? = some av → Rep F w av (c j i)) (hij : i ≤ j) (hj : j ≤ xs.length) (hjc : j ≤ cap) :
    Rep F w (.ro esz ((xs.drop i).take (j - i))) (.slice (some (if cap = i then ⟨b, off, none⟩ else ⟨b, off + i * esz, none⟩)) (j - i) (cap - i)) := by
  have hl : ((xs.drop i).take (j - i)).length = j - i := by simp; omega
  by_cases e : cap = i
  · have : j = i := by omega
    subst this
    simp only [Nat.sub_self, List.take_zero]
    exact .nil (by omega)
  · rw [if_neg e]
    have hget : ∀ (q : Nat) (row : List AV), ((xs.drop i).take (j - i))[q]? = some row → xs[i + q]? = some row := by
      intro q row h
      simp only [List.getElem?_take, List.getElem?_drop] at h
      split at h
      · exact h
      · cases h
    have := Rep.ro (F := F) (w := w) (esz := esz) (xs := (xs.drop i).take (j - i)) (b := b) (off := off + i * esz) (cap := cap - i) (fun q p => c (i + q) p) hF hb (by omega) (by omega)
      (fun q row h => hrow _ row (hget q row h))
      (fun q row p av h h2 => by
        have := hcell (i + q) row p av (hget q row h) h2
        rw [Nat.add_mul] at this
        rw [← this]
        congr 2; omega)
      (fun q row p av h h2 => hrep (i + q) row p av (hget q row h) h2)
    rwa [hl] at this
theorem AOp.slice_ro {t el esz i j : Nat} {x : Operand} {lo hi : Option Operand} {xs : List (List AV)} (ht : P.underlying t = some (.slice el)) (hs : (P.info? el).map (·.size) = some esz)
    (ho : o.op = .slice t x lo hi none) (hx : evO E x = some (.ro esz xs)) (hlo : bndO E lo 0 i) (hhi : bndO E hi xs.length j) (hij : i ≤ j) (hj : j ≤ xs.length) :
    AOp P o E H [] (some (.ro esz ((xs.drop i).take (j - i)))) [] :=
  AOp.reads fun s w a _ hE _ => by
    have h := evO_rel hE hx
    obtain ⟨inf, hinf, rfl⟩ := Option.map_eq_some_iff.1 hs
    generalize hv : a.eval x = u at h
    cases h with
    | rep h =>
      cases h with
      | @nil _ A cap hc =>
        simp only [List.length_nil, Nat.le_zero_eq] at hj hhi
        subst hj
        have : i = 0 := by omega
        subst this
        have hrun := run_bounds (P := P) (a := a) (w := w) (cap := cap) hE hlo hhi hij (by omega)
        refine ⟨.slice (if cap = 0 then A else A.map (·.add (0 * inf.size))) (0 - 0) (cap - 0), ?_, ?_⟩
        · simp [execOp, ho, hv, Instr.sliceAt, run_underlying ht, Instr.slice, hrun, sizeOf, typeInfo, hinf]
        · simp only [List.drop_nil, List.take_nil, Nat.sub_self]
          exact .rep (.nil (by omega))
      | @ro _ _ b off cap c hF hb hn hc hrow hcell hrep =>
        have hrun := run_bounds (P := P) (a := a) (w := w) (cap := cap) hE hlo hhi hij (by omega)
        refine ⟨.slice (some (if cap = i then ⟨b, off, none⟩ else ⟨b, off + i * inf.size, none⟩)) (j - i) (cap - i), ?_, ?_⟩
        · simp [execOp, ho, hv, Instr.sliceAt, run_underlying ht, Instr.slice, hrun, sizeOf, typeInfo, hinf, addr_add]
          by_cases e : cap = i <;> simp [e]
        have := rep_slice c hF hb hc hrow hcell hrep hij hj (by omega : j ≤ cap)
        exact .rep this
theorem agg_lits {s : Sg} {w : World} {xs : List Value} {v : Value} (h : Rel s w (.agg (xs.map .lit)) v) : v = .agg xs.toArray := by
  cases h with
  | rep h => cases h
  | @agg _ vs hl h =>
    congr 1
    apply Array.ext'
    apply List.ext_getElem?
    intro i
    simp only [List.length_map] at hl
    by_cases hi : i < xs.length
    · have h1 : (xs.map AV.lit)[i]? = some (.lit xs[i]) := by simp [hi]
      have h2 : vs[i]? = some (vs[i]'(by omega)) := Array.getElem?_eq_getElem _
      have := Rel.lit_eq (h i _ _ h1 h2)
      simp [hi, this, show i < vs.size by omega]
    · simp [hi, show ¬ i < vs.size by omega]
theorem AOp.aggEq {t u : TypeId} {x y : Operand} {xs ys : List Value} {r : Bool} (hm : P.eqGuardType P.depth t = false) (ho : o.op = .binOp .eql t x y u) (hx : evO E x = some (.agg (xs.map .lit))) (hy : evO E y = some (.agg (ys.map .lit)))
    (hr : ∀ w, (Op.equalIn 10000 t (.agg xs.toArray) (.agg ys.toArray)).run P w = .ok r w) : AOp P o E H [] (some (.lit (.bool r))) [] :=
  AOp.reads fun s w a _ hE _ => ⟨.bool r, by
    simp only [execOp, ho, agg_lits (evO_rel hE hx), agg_lits (evO_rel hE hy)]
    simp [run_eqGuard_agg w _ t _ _ _ _ hm, run_eql_struct, hr], .rep (.lit rfl)⟩
theorem AOp.aggNe {t u : TypeId} {x y : Operand} {xs ys : List Value} {r : Bool} (hm : P.eqGuardType P.depth t = false) (ho : o.op = .binOp .neq t x y u) (hx : evO E x = some (.agg (xs.map .lit))) (hy : evO E y = some (.agg (ys.map .lit)))
    (hr : ∀ w, (Op.equalIn 10000 t (.agg xs.toArray) (.agg ys.toArray)).run P w = .ok r w) : AOp P o E H [] (some (.lit (.bool (!r)))) [] :=
  AOp.reads fun s w a _ hE _ => ⟨.bool !r, by
    simp only [execOp, ho, agg_lits (evO_rel hE hx), agg_lits (evO_rel hE hy)]
    simp [run_eqGuard_agg w _ t _ _ _ _ hm, run_neq_struct, hr], .rep (.lit rfl)⟩
theorem there_ptr {s : Sg} {w : World} {av : AV} {v : Value} (h : Rel s w av v) (hn : av.there = true) : ∃ a, v = .pointer (some a) := by
  cases h with
  | ptr => exact ⟨_, rfl⟩
  | rep h =>
    cases h with
    | rp => exact ⟨_, rfl⟩
    | _ => cases hn
  | fr h =>
    cases h with
    | rp => exact ⟨_, rfl⟩
    | _ => cases hn
  | _ => cases hn
theorem AOp.peql {t el u : TypeId} {x y : Operand} {av : AV} (ht : P.underlying t = some (.pointer el)) (ho : o.op = .binOp .eql t x y u) (hx : evO E x = some av) (hn : av.there = true) (hy : evO E y = some (.lit (.pointer none))) : AOp P o E H [] (some (.lit (.bool false))) [] :=
  AOp.reads fun s w a _ hE _ => ⟨.bool false, by
    obtain ⟨ad, e1⟩ := there_ptr (evO_rel hE hx) hn
    have e2 := Rel.lit_eq (evO_rel hE hy)
    have hq : P.underlying t = some (.pointer (P.pointee t)) := by unfold Program.pointee; rw [ht]
    simp only [execOp, ho, e1, e2, eqGuard_at_pointer]
    simp [run_eql_pointer_nil, hq], .rep (.lit rfl)⟩
theorem AOp.pneq {t el u : TypeId} {x y : Operand} {av : AV} (ht : P.underlying t = some (.pointer el)) (ho : o.op = .binOp .neq t x y u) (hx : evO E x = some av) (hn : av.there = true) (hy : evO E y = some (.lit (.pointer none))) : AOp P o E H [] (some (.lit (.bool true))) [] :=
  AOp.reads fun s w a _ hE _ => ⟨.bool true, by
    obtain ⟨ad, e1⟩ := there_ptr (evO_rel hE hx) hn
    have e2 := Rel.lit_eq (evO_rel hE hy)
    have hq : P.underlying t = some (.pointer (P.pointee t)) := by unfold Program.pointee; rw [ht]
    simp only [execOp, ho, e1, e2, eqGuard_at_pointer]
    simp [run_neq_pointer_nil, hq], .rep (.lit rfl)⟩
theorem AOp.peql0 {t el u : TypeId} {x y : Operand} (ht : P.underlying t = some (.pointer el)) (ho : o.op = .binOp .eql t x y u) (hx : evO E x = some (.lit (.pointer none))) (hy : evO E y = some (.lit (.pointer none))) : AOp P o E H [] (some (.lit (.bool true))) [] :=
  AOp.reads fun s w a _ hE _ => ⟨.bool true, by
    have e1 := Rel.lit_eq (evO_rel hE hx)
    have e2 := Rel.lit_eq (evO_rel hE hy)
    have hq : P.underlying t = some (.pointer (P.pointee t)) := by unfold Program.pointee; rw [ht]
    simp only [execOp, ho, e1, e2, eqGuard_at_pointer]
    simp [run_eql_pointer_nil, hq], .rep (.lit rfl)⟩
theorem AOp.pneq0 {t el u : TypeId} {x y : Operand} (ht : P.underlying t = some (.pointer el)) (ho : o.op = .binOp .neq t x y u) (hx : evO E x = some (.lit (.pointer none))) (hy : evO E y = some (.lit (.pointer none))) : AOp P o E H [] (some (.lit (.bool false))) [] :=
  AOp.reads fun s w a _ hE _ => ⟨.bool false, by
    have e1 := Rel.lit_eq (evO_rel hE hx)
    have e2 := Rel.lit_eq (evO_rel hE hy)
    have hq : P.underlying t = some (.pointer (P.pointee t)) := by unfold Program.pointee; rw [ht]
    simp only [execOp, ho, e1, e2, eqGuard_at_pointer]
    simp [run_neq_pointer_nil, hq], .rep (.lit rfl)⟩
end
end Go.Abs
namespace Go.Abs
def FSpec (P : Program) (f : FuncId) (n : Nat) (args : List AV) (hin : Hp) (post : AV → Hp → Prop) : Prop :=
  ∀ (s : Sg) (w : World) (vs : Array Value), OK s w → s.hp = hin → (∀ k, n ≤ k → s.ρ k = none) → s.n0 = w.heap.size → vs.size = args.length →
    (∀ (i : Nat) (av : AV) (v : Value), args[i]? = some av → vs[i]? = some v → Rel s w av v) →
    Calls P f vs w fun e w' => ∃ v s' r, e = .returned v ∧ post r s'.hp ∧ Rel s' w' r v ∧ OK s' w' ∧ Glob n s w s' w'
def res1 (P : Program) (E : Env) (H : Hp) : ResultVar → Option AV
  | .tmp t => E t
  | .cell t ty => match E t with
    | some (.ptr k 0 0 0) => match H k with
      | some (.box cells) => match isAggT P ty with
        | some true => if (P.info? ty).map (·.size) = some cells.length then some (.agg cells) else none
        | some false => cells[0]?
        | none => none
      | _ => none
    | _ => none
def resL (P : Program) (E : Env) (H : Hp) : List ResultVar → Option (List AV)
  | [] => some []
  | x :: r => match res1 P E H x, resL P E H r with
    | some a, some l => some (a :: l)
    | _, _ => none
def resAll (P : Program) (E : Env) (H : Hp) : List ResultVar → Option AV
  | [x] => res1 P E H x
  | l => (resL P E H l).map .tup
def resSem (tmps : Array Value) : ResultVar → Sem Value
  | .tmp t => pure (tmps.getD t undef)
  | .cell a t => do loadVar t (← asAddr (tmps.getD a undef))
theorem run_res1 {P : Program} {C : Cx} {E : Env} {H : Hp} {nx : Nat} {s : Sg} {w : World} {a : Act} (g : Gm C E H nx s w a) {x : ResultVar} {r : AV} (h : res1 P E H x = some r) :
    ∃ v, (resSem a.tmps x).run P w = .ok v w ∧ Rel s w r v := by
  cases x with
  | tmp t => exact ⟨_, rfl, g.env t r h⟩
  | cell t ty =>
    simp only [res1] at h
    split at h
    · rename_i k hE
      split at h
      · rename_i cells hH
        have hp := g.env t _ hE
        generalize hv : a.tmps.getD t undef = p at hp
        cases hp with
        | rep h => cases h
        | ptr hr =>
          rename_i b
          obtain ⟨z, hz, b', cs, tt, rfl, hb, hcs, hrel⟩ := g.ok.blk k _ (by rw [g.hp]; exact hH)
          rw [hr] at hz; cases hz
          split at h
          · rename_i hagg
            split at h
            · rename_i hsz
              cases h
              have hrun := run_loadVar_agg (P := P) (b := b) (off := 0 * 0 + 0) (w := w) hagg hsz cs.toList (by simp [hcs]) (fun j v hv => by
                rw [cell_of_row w b _ cs tt (0, 0) hb]; simpa using hv)
              refine ⟨.agg cs, ?_, .agg hcs hrel⟩
              simp only [resSem, hv, asAddr, Sem.run_bind, Sem.run_pure, Result.andThen_ok, hrun, Array.toArray_toList]
            · cases h
          · rename_i hagg
            have hlt : 0 < cells.length := (List.getElem?_eq_some_iff.1 h).1
            have hg : cs[0]? = some (cs[0]'(by omega)) := Array.getElem?_eq_getElem _
            have hc : w.cell? ⟨b, 0 * 0 + 0, none⟩ = some (cs[0]'(by omega)) := by rw [cell_of_row w b _ cs tt (0, 0) hb]; exact hg
            exact ⟨_, by simp only [resSem, hv, asAddr, Sem.run_bind, Sem.run_pure, Result.andThen_ok, run_loadVar_one hagg hc], hrel 0 r _ h hg⟩
          · cases h
      · cases h
    · cases h
theorem run_resL {P : Program} {C : Cx} {E : Env} {H : Hp} {nx : Nat} {s : Sg} {w : World} {a : Act} (g : Gm C E H nx s w a) : ∀ (l : List ResultVar) (rs : List AV), resL P E H l = some rs →
    ∃ vs : List Value, (l.mapM (resSem a.tmps)).run P w = .ok vs w ∧ rs.length = vs.length ∧ ∀ (i : Nat) (av : AV) (v : Value), rs[i]? = some av → vs[i]? = some v → Rel s w av v
  | [], rs, h => by cases h; exact ⟨[], by simp, rfl, by simp⟩
  | x :: l, rs, h => by
    simp only [resL] at h
    split at h
    · rename_i r rl h1 h2
      cases h
      obtain ⟨v, hv, hr⟩ := run_res1 g h1
      obtain ⟨vs, hvs, hl, hrs⟩ := run_resL g l rl h2
      refine ⟨v :: vs, by simp [List.mapM_cons, hv, hvs], by simp [hl], fun i av u h3 h4 => ?_⟩
      cases i with
      | zero => simp at h3 h4; subst h3; subst h4; exact hr
      | succ i => exact hrs i av u (by simpa using h3) (by simpa using h4)
    · cases h
theorem results_eq (fn : Func) (tmps : Array Value) : results fn tmps = (do let vs ← fn.results.mapM (resSem tmps); pure (if h : vs.size = 1 then vs[0] else .tuple vs)) := by
  unfold results
  congr 1
theorem run_results {P : Program} {C : Cx} {E : Env} {H : Hp} {nx : Nat} {s : Sg} {w : World} {a : Act} (g : Gm C E H nx s w a) (fn : Func) {r : AV} (h : resAll P E H fn.results.toList = some r) :
    ∃ v, (results fn a.tmps).run P w = .ok v w ∧ Rel s w r v := by
  have key : ∀ l : List ResultVar, fn.results.toList = l → ∀ vs : List Value, (l.mapM (resSem a.tmps)).run P w = .ok vs w → (results fn a.tmps).run P w = .ok (if h : vs.toArray.size = 1 then vs.toArray[0] else .tuple vs.toArray) w := by
    intro l hl vs hvs
    rw [results_eq, Sem.run_bind, Array.mapM_eq_mapM_toList, hl]
    simp [hvs]
  unfold resAll at h
  split at h
  · rename_i x hl
    obtain ⟨v, hv, hr⟩ := run_res1 g h
    refine ⟨v, ?_, hr⟩
    rw [key [x] hl [v] (by simp [List.mapM_cons, hv])]
    rfl
  · rename_i l hne
    obtain ⟨rs, hrs, rfl⟩ := Option.map_eq_some_iff.1 h
    obtain ⟨vs, hvs, hlen, hrel⟩ := run_resL g _ _ hrs
    refine ⟨.tuple vs.toArray, ?_, .tup (by simp [hlen]) fun i av v h1 h2 => hrel i av v h1 (by simpa using h2)⟩
    rw [key _ rfl vs hvs]
    have h1 : ¬ vs.toArray.size = 1 := by
      intro e
      have hll : ∀ (l : List ResultVar) (rs : List AV), resL P E H l = some rs → rs.length = l.length := by
        intro l
        induction l with
        | nil => intro rs h; cases h; rfl
        | cons x l ih =>
          intro rs h
          simp only [resL] at h
          split at h
          · rename_i r rl h1 h2; cases h; simp [ih rl h2]
          · cases h
      have h2 := hll _ _ hrs
      have h3 : fn.results.toList.length = 1 := by rw [← h2, hlen]; simpa using e
      match hm : fn.results.toList, h3 with
      | [x], _ => exact hne x hm
    rw [dif_neg h1]
def RetQ (P : Program) (C : Cx) (fn : Func) (post : AV → Hp → Prop) : APost := fun e E H nx => match e with
  | .ret | .normal => ∃ r r' H' nx', resAll P E H fn.results.toList = some r ∧ ALe C (envOf [(0, r)]) H nx (envOf [(0, r')]) H' nx' ∧ post r' H'
  | _ => False
def argsE (args : List AV) : Env := fun t => args[t]?
theorem ret_core {P : Program} {C : Cx} {E : Env} {H : Hp} {nx : Nat} {s : Sg} {w : World} {a : Act} (g : Gm C E H nx s w a) (hN : 0 < C.N) (fn : Func) {r r' : AV} {H' : Hp} {nx' : Nat} (h : resAll P E H fn.results.toList = some r)
    (hle : ALe C (envOf [(0, r)]) H nx (envOf [(0, r')]) H' nx') : ∃ v s', (results fn a.tmps).run P w = .ok v w ∧ Rel s' w r' v ∧ s'.hp = H' ∧ OK s' w ∧ Glob C.n C.s C.w s' w := by
  obtain ⟨v, hv, hr⟩ := run_results g fn h
  have hsz : 0 < a.tmps.size := by rw [g.size]; exact hN
  have g1 : Gm C (envOf [(0, r)]) H nx s w { a with tmps := a.tmps.setIfInBounds 0 v } :=
    { g with
      env := fun t av ht => by
        simp only [envOf] at ht
        split at ht
        · rename_i e
          subst e
          cases ht
          have : (a.tmps.setIfInBounds 0 v).getD 0 undef = v := by simp [hsz]
          rw [this]; exact hr
        · cases ht
      size := by simp [g.size] }
  obtain ⟨s', g2⟩ := hle s w _ g1
  have h2 := g2.env 0 r' (by simp [envOf])
  have : (a.tmps.setIfInBounds 0 v).getD 0 undef = v := by simp [hsz]
  rw [this] at h2
  exact ⟨v, s', hv, h2, g2.hp, g2.ok, g2.glob⟩
theorem FSpec.intro {P : Program} {f n : Nat} {args : List AV} {hin : Hp} {post : AV → Hp → Prop} {fn : Func} {c : Code} (hf : P.funcs[f]? = some fn) (hb : fn.body = some c) (hN : args.length ≤ fn.ntmps) (hN0 : 1 ≤ fn.ntmps)
    (h : ∀ s w, s.hp = hin → s.n0 = w.heap.size → AWP P ⟨n, s, w, fn.ntmps⟩ c (RetQ P ⟨n, s, w, fn.ntmps⟩ fn post) (argsE args) hin n) : FSpec P f n args hin post := by
  intro s w vs ok hs hρ hn0 hvs hrel
  refine calls_of_wp hf hb ?_
  have g : Gm ⟨n, s, w, fn.ntmps⟩ (argsE args) hin n s w { tmps := vs ++ Array.replicate (fn.ntmps - vs.size) undef, defers := [] } :=
    { ok0 := ok
      ok := ok
      env := fun t av ht => by
        have hlt : t < vs.size := by rw [hvs]; exact (List.getElem?_eq_some_iff.1 ht).1
        have hg : vs[t]? = some vs[t] := Array.getElem?_eq_getElem hlt
        have : (vs ++ Array.replicate (fn.ntmps - vs.size) undef).getD t undef = vs[t] := by
          simp [Array.getElem?_append, hlt]
        rw [this]
        exact hrel t av _ ht hg
      hp := hs
      new := hρ
      le := Nat.le_refl _
      size := by simp; omega
      defers := rfl
      glob := Glob.refl n s w }
  refine Go.wp_mono (h s w hs hn0 s w _ g) ?_
  rintro e a' w' ⟨s', E', H', nx', g', hq⟩
  cases e with
  | normal =>
    obtain ⟨r, r', H2, nx2, hr, hle, hp⟩ := hq
    obtain ⟨v, s2, hv, hrel', hhp, hok, hgl⟩ := ret_core g' hN0 fn hr hle
    exact ⟨g'.defers, v, hv, v, s2, r', rfl, by rw [hhp]; exact hp, hrel', hok, hgl⟩
  | ret =>
    obtain ⟨r, r', H2, nx2, hr, hle, hp⟩ := hq
    obtain ⟨v, s2, hv, hrel', hhp, hok, hgl⟩ := ret_core g' hN0 fn hr hle
    exact ⟨g'.defers, v, hv, v, s2, r', rfl, by rw [hhp]; exact hp, hrel', hok, hgl⟩
  | _ => exact hq.elim
theorem FSpec.mono {P : Program} {f n : Nat} {args : List AV} {hin : Hp} {post post' : AV → Hp → Prop} (h : FSpec P f n args hin post) (hq : ∀ r H, post r H → post' r H) : FSpec P f n args hin post' :=
  fun s w vs ok hs hρ hn0 hvs hrel => (h s w vs ok hs hρ hn0 hvs hrel).mono fun _ _ ⟨v, s', r, e, hp, rest⟩ => ⟨v, s', r, e, hq _ _ hp, rest⟩
def AV.ren0 (σ : Nat → Nat) : AV → AV
  | .ptr k a b c => .ptr (σ k) a b c
  | .sl k a b c => .sl (σ k) a b c
  | .mp k => .mp (σ k)
  | x => x
def AV.ren1 (σ : Nat → Nat) : AV → AV
  | .fn f caps => .fn f (caps.map (AV.ren0 σ))
  | x => x.ren0 σ
def AV.ren2 (σ : Nat → Nat) : AV → AV
  | .agg xs => .agg (xs.map (AV.ren1 σ))
  | x => x.ren1 σ
def AV.ren (σ : Nat → Nat) : AV → AV
  | .tup xs => .tup (xs.map (AV.ren2 σ))
  | x => x.ren2 σ
def Blk.ren (σ : Nat → Nat) : Blk → Blk
  | .box cells => .box (cells.map (AV.ren1 σ))
  | x => x
inductive FO : AV → Prop
  | lit (v : Value) : FO (.lit v)
  | fr (x : AV) : FO (.fr x)
  | ptr {k a b c : Nat} : FO (.ptr k a b c)
  | sl {k a b c : Nat} : FO (.sl k a b c)
  | emp : FO .emp
  | mp {k : Nat} : FO (.mp k)
  | agg {xs : List AV} (h : ∀ x ∈ xs, FO x) : FO (.agg xs)
  | tup {xs : List AV} (h : ∀ x ∈ xs, FO x) : FO (.tup xs)
  | fn {f : FuncId} {xs : List AV} (h : ∀ x ∈ xs, FO x) : FO (.fn f xs)
def AV.lv0 (m : Nat) : AV → Bool
  | .agg _ => false
  | .tup _ => false
  | .fn _ _ => false
  | .ptr k _ _ _ => decide (k < m)
  | .sl k _ _ _ => decide (k < m)
  | .mp k => decide (k < m)
  | _ => true
def AV.lv1 (m : Nat) : AV → Bool
  | .fn _ caps => caps.all (AV.lv0 m)
  | x => x.lv0 m
def AV.lv2 (m : Nat) : AV → Bool
  | .agg xs => xs.all (AV.lv1 m)
  | x => x.lv1 m
def AV.lv3 (m : Nat) : AV → Bool
  | .tup xs => xs.all (AV.lv2 m)
  | x => x.lv2 m
structure Ren (σ : Nat → Nat) (m : Nat) (s1 : Sg) (s : Sg) : Prop where
  rho : ∀ k x, k < m → s1.ρ k = some x → s.ρ (σ k) = some x
  hp : ∀ k fr esz els, k < m → s1.hp k = some (.arr fr esz els) → ∃ fr', s.hp (σ k) = some (.arr fr' esz els)
  dead : ∀ k, k < m → s1.ρ k ≠ none → s1.hp k = none → s.hp (σ k) = none
  old : ∀ b, s.old b → s1.old b
theorem Rep.lit_any {F F' : Nat → Prop} {w : World} {v u : Value} (h : Rep F w (.lit v) u) : Rep F' w (.lit v) u := by
  cases h with
  | lit h => exact .lit h
section
variable {σ : Nat → Nat} {m : Nat} {s1 s : Sg} {w : World}
theorem Rel.ren0 (r : Ren σ m s1 s) {x : AV} {v : Value} (h : Rel s1 w x v) (hx : (∀ b, s.mut b → s1.mut b) ∨ FO x) (h0 : x.lv0 m = true) : Rel s w (x.ren0 σ) v := by
  cases h with
  | rep h =>
    have hren : x.ren0 σ = x := by cases h <;> rfl
    rw [hren]
    rcases hx with hm | hf
    · exact .rep (h.weaken fun b _ hb => hm b hb)
    · cases h with
      | lit h => exact .rep (.lit h)
      | _ => cases hf
  | fr h => exact .fr (h.weaken fun b _ hb => r.old b hb)
  | agg => cases h0
  | tup => cases h0
  | ptr h => exact .ptr (r.rho _ _ (of_decide_eq_true h0) h)
  | @slg k esz off n A n' c' h hp =>
    refine .slg ?_ (r.dead k (of_decide_eq_true h0) h hp)
    cases hr : s1.ρ k with
    | none => exact absurd hr h
    | some y => rw [r.rho k y (of_decide_eq_true h0) hr]; simp
  | sl h hp hle hb hn hc hs =>
    obtain ⟨f', hp'⟩ := r.hp _ _ _ _ (of_decide_eq_true h0) hp
    exact .sl (r.rho _ _ (of_decide_eq_true h0) h) hp' hle hb hn hc hs
  | sln h => exact .sln (r.rho _ _ (of_decide_eq_true h0) h)
  | emp => exact .emp
  | fn => cases h0
  | mp h => exact .mp (r.rho _ _ (of_decide_eq_true h0) h)
theorem map_rel {g : AV → AV} {xs : List AV} {vs : Array Value} (h : ∀ (i : Nat) (av : AV) (v : Value), xs[i]? = some av → vs[i]? = some v → Rel s w (g av) v) :
    ∀ (i : Nat) (av : AV) (v : Value), (xs.map g)[i]? = some av → vs[i]? = some v → Rel s w av v := by
  intro i av v h1 h2
  rw [List.getElem?_map, Option.map_eq_some_iff] at h1
  obtain ⟨x, hx, rfl⟩ := h1
  exact h i x v hx h2
theorem Rel.ren1 (r : Ren σ m s1 s) {x : AV} {v : Value} (h : Rel s1 w x v) (hx : (∀ b, s.mut b → s1.mut b) ∨ FO x) (h0 : x.lv1 m = true) : Rel s w (x.ren1 σ) v := by
  cases x with
  | agg => cases h0
  | tup => cases h0
  | fn f caps =>
    cases h with
    | rep h => cases h
    | fn hl hr =>
      refine .fn (by simpa using hl) (map_rel fun i av v h1 h2 => ?_)
      have hmem : av ∈ caps := List.mem_of_getElem? h1
      have hlv := List.all_eq_true.1 h0 av hmem
      refine (hr i av v h1 h2).ren0 r ?_ hlv
      rcases hx with hm | hf
      · exact .inl hm
      · cases hf with
        | fn hf => exact .inr (hf av hmem)
  | _ => exact h.ren0 r hx h0
theorem Rel.ren2 (r : Ren σ m s1 s) {x : AV} {v : Value} (h : Rel s1 w x v) (hx : (∀ b, s.mut b → s1.mut b) ∨ FO x) (h0 : x.lv2 m = true) : Rel s w (x.ren2 σ) v := by
  cases x with
  | agg xs =>
    cases h with
    | rep h => cases h
    | agg hl hr =>
      refine .agg (by simpa using hl) (map_rel fun i av v h1 h2 => ?_)
      have hmem : av ∈ xs := List.mem_of_getElem? h1
      refine (hr i av v h1 h2).ren1 r ?_ (List.all_eq_true.1 h0 av hmem)
      rcases hx with hm | hf
      · exact .inl hm
      · cases hf with
        | agg hf => exact .inr (hf av hmem)
  | tup => cases h0
  | _ => exact h.ren1 r hx h0
theorem Rel.ren (r : Ren σ m s1 s) {x : AV} {v : Value} (h : Rel s1 w x v) (hx : (∀ b, s.mut b → s1.mut b) ∨ FO x) (h0 : x.lv3 m = true) : Rel s w (x.ren σ) v := by
  cases x with
  | tup xs =>
    cases h with
    | rep h => cases h
    | tup hl hr =>
      refine .tup (by simpa using hl) (map_rel fun i av v h1 h2 => ?_)
      have hmem : av ∈ xs := List.mem_of_getElem? h1
      refine (hr i av v h1 h2).ren2 r ?_ (List.all_eq_true.1 h0 av hmem)
      rcases hx with hm | hf
      · exact .inl hm
      · cases hf with
        | tup hf => exact .inr (hf av hmem)
  | _ => exact h.ren2 r hx h0
end
end Go.Abs
namespace Go.Abs
inductive PView (L : List Nat) (n : Nat) (H : Hp) : AV → AV → Prop
  | lit {v : Value} : PView L n H (.lit v) (.lit v)
  | ro {e : Nat} {xs : List (List AV)} : PView L n H (.ro e xs) (.ro e xs)
  | rp {xs : List AV} {j : Nat} : PView L n H (.rp xs j) (.rp xs j)
  | fr {x : AV} : PView L n H (.fr x) x
  | emp {e : Nat} : PView L n H .emp (.ro e [])
  | nil {A : Option Addr} {c e : Nat} (h : c ≤ maxLen) : PView L n H (.lit (.slice A 0 c)) (.ro e [])
  | bsl {k esz off m : Nat} {f : Bool} {els : List (List AV)} (hH : H k = some (.arr f esz els)) (hk : ∀ j, j < n → L.getD j 0 ≠ k) (hle : off + m ≤ els.length) : PView L n H (.sl k esz off m) (.ro esz ((els.drop off).take m))
inductive View (L : List Nat) (n : Nat) (H : Hp) (brw : Bool) : AV → AV → Prop
  | lit {v : Value} : View L n H brw (.lit v) (.lit v)
  | ro {e : Nat} {xs : List (List AV)} : View L n H brw (.ro e xs) (.ro e xs)
  | rp {xs : List AV} {j : Nat} : View L n H brw (.rp xs j) (.rp xs j)
  | fr {x : AV} : View L n H brw (.fr x) x
  | emp : View L n H brw .emp .emp
  | empRo {e : Nat} : View L n H brw .emp (.ro e [])
  | nil {A : Option Addr} {c e : Nat} (h : c ≤ maxLen) : View L n H brw (.lit (.slice A 0 c)) (.ro e [])
  | ptr {k a b c : Nat} (hk : k < n) {k' : Nat} (he : L.getD k 0 = k') : View L n H brw (.ptr k' a b c) (.ptr k a b c)
  | sl {k a b c : Nat} (hk : k < n) {k' : Nat} (he : L.getD k 0 = k') {f : Bool} {els : List (List AV)} (hH : H k' = some (.arr f a els)) : View L n H brw (.sl k' a b c) (.sl k a b c)
  | brw {x y : AV} (hb : brw = true) (h : PView L n H x y) : View L n H brw x y
  | bptr {k : Nat} {cells cells' : List AV} (hb : brw = true) (hH : H k = some (.box cells)) (hk : ∀ j, j < n → L.getD j 0 ≠ k) (hl : cells.length = cells'.length)
      (h : ∀ (i : Nat) (x y : AV), cells[i]? = some x → cells'[i]? = some y → PView L n H x y) : View L n H brw (.ptr k 0 0 0) (.rp cells' 0)
  | agg {xs ys : List AV} (hl : xs.length = ys.length) (h : ∀ (i : Nat) (x y : AV), xs[i]? = some x → ys[i]? = some y → View L n H brw x y) : View L n H brw (.agg xs) (.agg ys)
  | fn {f : FuncId} {xs ys : List AV} (hl : xs.length = ys.length) (h : ∀ (i : Nat) (x y : AV), xs[i]? = some x → ys[i]? = some y → View L n H brw x y) : View L n H brw (.fn f xs) (.fn f ys)
inductive BView (L : List Nat) (n : Nat) (H : Hp) (brw : Bool) : Blk → Blk → Prop
  | box {xs ys : List AV} (hl : xs.length = ys.length) (h : ∀ (i : Nat) (x y : AV), xs[i]? = some x → ys[i]? = some y → View L n H brw x y) : BView L n H brw (.box xs) (.box ys)
  | arr {f : Bool} {esz : Nat} {els : List (List AV)} : BView L n H brw (.arr f esz els) (.arr false esz els)
  | map {es : List (Value × Value)} : BView L n H brw (.map es) (.map es)
def calleeSg (s : Sg) (w : World) (L : List Nat) (n : Nat) (hin : Hp) (brw : Bool) : Sg where
  M := fun b => brw = false ∧ (s.M b ∨ ∃ k, s.hp k ≠ none ∧ s.ρ k = some (some b) ∧ ∀ j, j < n → L.getD j 0 ≠ k)
  n0 := w.heap.size
  ρ := fun k => if k < n then s.ρ (L.getD k 0) else none
  hp := hin
structure CallIn (L : List Nat) (n : Nat) (H hin : Hp) (brw : Bool) : Prop where
  inj : ∀ j j', j < n → j' < n → L.getD j 0 = L.getD j' 0 → j = j'
  blk : ∀ k, k < n → ∃ B B', hin k = some B ∧ H (L.getD k 0) = some B' ∧ BView L n H brw B' B
  none : ∀ k, n ≤ k → hin k = none
section
variable {s : Sg} {w : World} {L : List Nat} {n : Nat} {H hin : Hp} {brw : Bool}
theorem callee_rho (k : Nat) : (calleeSg s w L n hin brw).ρ k = if k < n then s.ρ (L.getD k 0) else none := rfl
theorem callee_mut (hH : ∀ k B, H k = some B → s.hp k = some B) (c : CallIn L n H hin brw) : ∀ b, (calleeSg s w L n hin brw).mut b → s.mut b := by
  rintro b (⟨_, h⟩ | ⟨k, hk, hr⟩)
  · rcases h with h | ⟨k, h1, h2, _⟩
    · exact .inl h
    · exact .inr ⟨k, h1, h2⟩
  · rw [callee_rho] at hr
    split at hr
    · rename_i hlt
      obtain ⟨B, B', _, hB', _⟩ := c.blk k hlt
      exact .inr ⟨_, by rw [hH _ _ hB']; simp, hr⟩
    · cases hr
theorem PView.rep (ok : OK s w) (hH : ∀ k B, H k = some B → s.hp k = some B) (c : CallIn L n H hin true) {x y : AV} {v : Value} (h : PView L n H x y) (hr : Rel s w x v) : Rep (calleeSg s w L n hin true).mut w y v := by
  have hm := callee_mut (s := s) (w := w) hH c
  cases h with
  | lit => cases hr with | rep h => exact h.weaken fun b _ => hm b
  | ro => cases hr with | rep h => exact h.weaken fun b _ => hm b
  | rp => cases hr with | rep h => exact h.weaken fun b _ => hm b
  | fr =>
    cases hr with
    | rep h => cases h
    | fr h => exact h.weaken fun b _ hb => .inl (hm b hb)
  | emp =>
    cases hr with
    | rep h => cases h
    | emp => exact .nil (Nat.zero_le _)
  | nil hc => rw [Rel.lit_eq hr]; exact .nil hc
  | @bsl k esz off m f els hHk hk hle =>
    obtain ⟨A, cp, news, hs⟩ := own_src ok (hH k _ hHk) hr hle
    have hml : ((els.drop off).take m).length = m := by simp; omega
    cases hr with
    | rep h => cases h
    | slg _ hp => rw [hH k _ hHk] at hp; cases hp
    | sln =>
      simp only [List.take_zero]
      exact .nil (Nat.zero_le _)
    | @sl _ _ _ _ b cap fr els' cs ty fz hrr hp hle' hb hn hc hsz =>
      rw [hH k _ hHk] at hp; cases hp
      have hnot : ¬ (calleeSg s w L n hin true).mut b := by
        rintro (⟨h, _⟩ | ⟨j, hj, hjr⟩)
        · cases h
        · rw [callee_rho] at hjr
          split at hjr
          · rename_i hlt
            obtain ⟨B, B', _, hB', _⟩ := c.blk j hlt
            exact hk j hlt (ok.inj _ _ b (by rw [hH _ _ hB']; simp) (by rw [hH k _ hHk]; simp) hjr hrr)
          · cases hjr
      obtain ⟨z, hz, hok⟩ := ok.blk k _ (hH k _ hHk)
      rw [hrr] at hz; cases hz
      rcases hok with ⟨h0, _⟩ | ⟨b', cs', ty', e1, h1, h2, h3, h4⟩
      · cases h0
      · cases e1
        rw [hb] at h1; cases h1
        have hblt : b < w.heap.size := (Array.getElem?_eq_some_iff.1 hb).1
        have hget : ∀ (q : Nat) (row : List AV), ((els.drop off).take m)[q]? = some row → els[off + q]? = some row := by
          intro q row h
          simp only [List.getElem?_take, List.getElem?_drop] at h
          split at h
          · exact h
          · cases h
        have := Rep.ro (F := (calleeSg s w L n hin true).mut) (w := w) (esz := esz) (xs := (els.drop off).take m) (b := b) (off := off * esz) (cap := cap)
          (fun q p => cs.getD ((off + q) * esz + p) undef) hnot hblt (by omega) hc (fun q row h => h3 _ row (hget q row h))
          (fun q row p av h h' => by
            obtain ⟨v, hv, _⟩ := h4 _ row p av (hget q row h) h'
            rw [cell_of_row w b _ cs ty _ hb, show off * esz + (q * esz + p) = (off + q) * esz + p from by rw [Nat.add_mul]; omega, hv]
            simp [hv])
          (fun q row p av h h' => by
            obtain ⟨v, hv, hrep⟩ := h4 _ row p av (hget q row h) h'
            simp only [Array.getD_eq_getD_getElem?, hv, Option.getD_some]
            refine hrep.weaken fun b _ hb => ?_
            cases f
            · exact hm b hb
            · exact .inl (hm b hb))
        rwa [hml] at this
theorem View.rel (ok : OK s w) (hH : ∀ k B, H k = some B → s.hp k = some B) (c : CallIn L n H hin brw) {x y : AV} {v : Value} (h : View L n H brw x y) (hr : Rel s w x v) : Rel (calleeSg s w L n hin brw) w y v := by
  have hm := callee_mut (s := s) (w := w) hH c
  induction h generalizing v with
  | lit => cases hr with | rep h => exact .rep (h.weaken fun b _ => hm b)
  | ro => cases hr with | rep h => exact .rep (h.weaken fun b _ => hm b)
  | rp => cases hr with | rep h => exact .rep (h.weaken fun b _ => hm b)
  | fr =>
    cases hr with
    | rep h => cases h
    | fr h => exact .rep (h.weaken fun b _ hb => .inl (hm b hb))
  | emp =>
    cases hr with
    | rep h => cases h
    | emp => exact .emp
  | empRo =>
    cases hr with
    | rep h => cases h
    | emp => exact .rep (.nil (Nat.zero_le _))
  | nil hc => rw [Rel.lit_eq hr]; exact .rep (.nil hc)
  | ptr hk he =>
    cases hr with
    | rep h => cases h
    | ptr h => exact .ptr (by rw [callee_rho, if_pos hk, he]; exact h)
  | @sl k a b cc hk k' he f els hHk =>
    obtain ⟨B, B', hB, hB', hv⟩ := c.blk k hk
    rw [he, hHk] at hB'
    cases hB'
    cases hv with
    | arr =>
      cases hr with
      | rep h => cases h
      | slg _ hp => rw [hH k' _ hHk] at hp; cases hp
      | @sl _ _ _ _ b cap fr els' cs ty fz hrr hp hle' hb hn hc hsz =>
        rw [hH k' _ hHk] at hp; cases hp
        exact .sl (by rw [callee_rho, if_pos hk, he]; exact hrr) hB hle' hb hn hc hsz
      | sln h => exact .sln (by rw [callee_rho, if_pos hk, he]; exact h)
  | brw hb h => subst hb; exact .rep (h.rep ok hH c hr)
  | @bptr k cells cells' hb hHk hk hl h =>
    subst hb
    cases hr with
    | rep h => cases h
    | ptr hrr =>
      rename_i b
      obtain ⟨z, hz, b', cs, ty, rfl, hb, hcs, hrel⟩ := ok.blk k _ (hH k _ hHk)
      rw [hrr] at hz; cases hz
      have hnot : ¬ (calleeSg s w L n hin true).mut b := by
        rintro (⟨h, _⟩ | ⟨j, hj, hjr⟩)
        · cases h
        · rw [callee_rho] at hjr
          split at hjr
          · rename_i hlt
            obtain ⟨B, B', _, hB', _⟩ := c.blk j hlt
            exact hk j hlt (ok.inj _ _ b (by rw [hH _ _ hB']; simp) (by rw [hH k _ hHk]; simp) hjr hrr)
          · cases hjr
      have hcell : ∀ (i : Nat) (av : AV), cells'[i]? = some av → ∃ u, cs[i]? = some u ∧ Rep (calleeSg s w L n hin true).mut w av u := by
        intro i av hi
        have hlt : i < cells.length := by rw [hl]; exact (List.getElem?_eq_some_iff.1 hi).1
        have hx := List.getElem?_eq_getElem hlt
        have hg : cs[i]? = some (cs[i]'(by omega)) := Array.getElem?_eq_getElem _
        exact ⟨_, hg, (h i _ av hx hi).rep ok hH c (hrel i _ _ hx hg)⟩
      have := Rep.rp (F := (calleeSg s w L n hin true).mut) (w := w) (xs := cells') (o := 0) (b := b) (off := 0 * 0 + 0) (fun i => cs.getD i undef) hnot (Array.getElem?_eq_some_iff.1 hb).1
        (fun i av hi => by
          obtain ⟨u, hu, _⟩ := hcell i av hi
          rw [cell_of_row w b _ cs ty _ hb]
          simp [hu])
        (fun i av hi => by
          obtain ⟨u, hu, hrep⟩ := hcell i av hi
          simpa [hu] using hrep)
      exact .rep this
  | agg hl _ ih =>
    cases hr with
    | rep h => cases h
    | agg hl' hr =>
      refine .agg (by omega) fun i av v h1 h2 => ?_
      have hlt := (List.getElem?_eq_some_iff.1 h1).1
      rw [← hl] at hlt
      have hx := List.getElem?_eq_getElem hlt
      exact ih i _ av hx h1 (hr i _ v hx h2)
  | fn hl _ ih =>
    cases hr with
    | rep h => cases h
    | fn hl' hr =>
      refine .fn (by omega) fun i av v h1 h2 => ?_
      have hlt := (List.getElem?_eq_some_iff.1 h1).1
      rw [← hl] at hlt
      have hx := List.getElem?_eq_getElem hlt
      exact ih i _ av hx h1 (hr i _ v hx h2)
theorem callee_ok (ok : OK s w) (hH : ∀ k B, H k = some B → s.hp k = some B) (c : CallIn L n H hin brw) : OK (calleeSg s w L n hin brw) w where
  bM := by
    rintro b ⟨_, h | ⟨k, hk, hr, _⟩⟩
    · exact ok.bM b h
    · exact ok.lt hk hr
  n0 := Nat.le_refl _
  blk k B hB := by
    have hm := callee_mut (s := s) (w := w) hH c
    have hk : k < n := by
      rcases Nat.lt_or_ge k n with h | h
      · exact h
      · have h' := c.none k h
        have hB' : hin k = some B := hB
        rw [h'] at hB'; cases hB'
    obtain ⟨B1, B', hB1, hB', hv⟩ := c.blk k hk
    have : hin k = some B := hB
    rw [hB1] at this; cases this
    obtain ⟨x, hx, hok⟩ := ok.blk _ _ (hH _ _ hB')
    refine ⟨x, by rw [callee_rho, if_pos hk]; exact hx, ?_⟩
    cases hv with
    | box hl hv =>
      obtain ⟨b, cs, ty, rfl, hb, hcs, hrel⟩ := hok
      refine ⟨b, cs, ty, rfl, hb, by omega, fun i av v h1 h2 => ?_⟩
      have hlt := (List.getElem?_eq_some_iff.1 h1).1
      rw [← hl] at hlt
      have hx := List.getElem?_eq_getElem hlt
      exact (hv i _ av hx h1).rel ok hH c (hrel i _ v hx h2)
    | arr =>
      rcases hok with h | ⟨b, cs, ty, rfl, hb, h1, h2, h3⟩
      · exact .inl h
      · refine .inr ⟨b, cs, ty, rfl, hb, h1, h2, fun j row i av h4 h5 => ?_⟩
        obtain ⟨v, hv, hrep⟩ := h3 j row i av h4 h5
        refine ⟨v, hv, ?_⟩
        rename_i f esz els
        refine hrep.weaken fun b _ hb => ?_
        cases f
        · exact hm b hb
        · exact .inl (hm b hb)
    | map => exact hok
  inj k k' b hk hk' hr hr' := by
    rw [callee_rho] at hr hr'
    split at hr
    · rename_i h1
      split at hr'
      · rename_i h2
        obtain ⟨_, B1, _, hB1, _⟩ := c.blk k h1
        obtain ⟨_, B2, _, hB2, _⟩ := c.blk k' h2
        exact c.inj k k' h1 h2 (ok.inj _ _ b (by rw [hH _ _ hB1]; simp) (by rw [hH _ _ hB2]; simp) hr hr')
      · cases hr'
    · cases hr
  dis k b hk hr := by
    rw [callee_rho] at hr
    split at hr
    · rename_i h1
      obtain ⟨_, B1, _, hB1, _⟩ := c.blk k h1
      rintro ⟨_, h | ⟨k', hk', hr', hne⟩⟩
      · exact ok.dis _ b (by rw [hH _ _ hB1]; simp) hr h
      · exact hne k h1 (ok.inj _ _ b (by rw [hH _ _ hB1]; simp) hk' hr hr')
    · cases hr
end
theorem getD_lt {L : List Nat} {i : Nat} (h : i < L.length) : L.getD i 0 = L[i] := by simp [List.getD, h]
def outU (L : List Nat) (h0 : Hp) : List (Nat × Option Blk) := (List.range L.length).map fun k => (L.getD k 0, (h0 k).map (Blk.ren fun i => L.getD i 0))
theorem lkU_map {g : Nat → Nat} {f : Nat → Option Blk} : ∀ (l : List Nat), (∀ i j, i ∈ l → j ∈ l → g i = g j → i = j) → ∀ t, (∀ k, k ∈ l → g k = t → lkU (l.map fun k => (g k, f k)) t = some (f k)) ∧ ((∀ k, k ∈ l → g k ≠ t) → lkU (l.map fun k => (g k, f k)) t = none)
  | [], _, t => ⟨by simp, fun _ => rfl⟩
  | a :: l, hinj, t => by
    have ih := lkU_map (f := f) l (fun i j hi hj => hinj i j (by simp [hi]) (by simp [hj])) t
    simp only [List.map_cons, lkU]
    refine ⟨fun k hk he => ?_, fun hne => ?_⟩
    · by_cases e : t = g a
      · rw [if_pos e]
        rw [hinj k a hk (by simp) (he.trans e)]
      · rw [if_neg e]
        rcases List.mem_cons.1 hk with rfl | hk'
        · exact absurd he.symm e
        · exact ih.1 k hk' he
    · rw [if_neg (fun e => hne a (by simp) e.symm)]
      exact ih.2 fun k hk => hne k (by simp [hk])
def Blk.lv (m : Nat) : Blk → Bool
  | .box cells => cells.all (AV.lv1 m)
  | _ => true
inductive BFO : Blk → Prop
  | box {cells : List AV} (h : ∀ x ∈ cells, FO x) : BFO (.box cells)
  | arr {esz : Nat} {els : List (List AV)} : BFO (.arr true esz els)
  | map {es : List (Value × Value)} : BFO (.map es)
section
variable {P : Program} {o : Oper} {E : Env} {H : Hp}
def evArgs (E : Env) : List Operand → Option (List AV)
  | [] => some []
  | x :: r => match evO E x, evArgs E r with
    | some a, some l => some (a :: l)
    | _, _ => none
theorem evArgs_rel {s : Sg} {w : World} {a : Act} (hE : ∀ t av, E t = some av → Rel s w av (a.tmps.getD t undef)) : ∀ (l : List Operand) (xs : List AV), evArgs E l = some xs →
    xs.length = l.length ∧ ∀ (i : Nat) (av : AV) (v : Value), xs[i]? = some av → (l.map a.eval)[i]? = some v → Rel s w av v
  | [], xs, h => by cases h; exact ⟨rfl, by simp⟩
  | x :: r, xs, h => by
    simp only [evArgs] at h
    split at h
    · rename_i y l h1 h2
      cases h
      obtain ⟨h3, h4⟩ := evArgs_rel hE r l h2
      refine ⟨by simp [h3], fun i av v h5 h6 => ?_⟩
      cases i with
      | zero => simp at h5 h6; subst h5; subst h6; exact evO_rel hE h1
      | succ i => exact h4 i av v (by simpa using h5) (by simpa using h6)
    · cases h
theorem AOp.call {f n : Nat} {fn : Func} {fx : Operand} {xs : Array Operand} {tys : Array TypeId} {cavs caps args : List AV} {hin h0 : Hp} {r0 : AV} (L : List Nat) (brw : Bool)
    (hspec : FSpec P f n args hin (fun r h => r = r0 ∧ h = h0)) (hf : P.funcs[f]? = some fn) (hname : (fn.name == "runtime.NumGoroutine") = false) (hbody : fn.body.isNone = false)
    (ho : o.op = .call { callee := .value fx, args := xs, argTypes := tys }) (hfx : evO E fx = some (.fn f caps)) (hxs : evArgs E xs.toList = some cavs)
    (c : CallIn L n H hin brw) (hv : (cavs ++ caps).length = args.length ∧ ∀ (i : Nat) (x y : AV), (cavs ++ caps)[i]? = some x → args[i]? = some y → View L n H brw x y)
    (hL : L.Pairwise (· ≠ ·)) (hn : n ≤ L.length) (h0n : ∀ k, L.length ≤ k → h0 k = none) (hfo : brw = true → FO r0 ∧ ∀ k B, h0 k = some B → BFO B) (hlv : r0.lv3 L.length = true) (hblv : ∀ k B, h0 k = some B → B.lv L.length = true) :
    AOp P o E H (L.drop n) (some (r0.ren fun i => L.getD i 0)) (outU L h0) := by
  intro s w a K Q ok hE hH hfr k
  have hc := callee_ok (s := s) (w := w) ok hH c
  obtain ⟨hal, har⟩ := evArgs_rel (a := a) hE _ _ hxs
  have hfv := evO_rel (a := a) hE hfx
  have hfun : ∃ cvs, a.eval fx = .func (.func f) #[] cvs ∧ caps.length = cvs.size ∧ ∀ (i : Nat) (av : AV) (v : Value), caps[i]? = some av → cvs[i]? = some v → Rel s w av v := by
    generalize a.eval fx = u at hfv
    cases hfv with
    | rep h => cases h
    | fn hl h => exact ⟨_, rfl, hl, h⟩
  obtain ⟨cvs, hfe, hcl, hcr⟩ := hfun
  have hargs : ∀ (i : Nat) (x : AV) (v : Value), (cavs ++ caps)[i]? = some x → (xs.map a.eval ++ cvs)[i]? = some v → Rel s w x v := by
    intro i x v h1 h2
    rw [List.getElem?_append] at h1
    rw [Array.getElem?_append] at h2
    have hsz : (xs.map a.eval).size = cavs.length := by simp [hal]
    rw [hsz] at h2
    split at h1
    · rename_i hlt
      rw [if_pos hlt] at h2
      refine har i x v h1 ?_
      rw [← h2]; simp
    · rename_i hlt
      rw [if_neg hlt] at h2
      exact hcr _ x v h1 h2
  have hinjL : ∀ i j, i < L.length → j < L.length → L.getD i 0 = L.getD j 0 → i = j := by
    intro i j hi hj he
    rw [getD_lt hi, getD_lt hj] at he
    rcases Nat.lt_trichotomy i j with h | h | h
    · exact absurd he (List.pairwise_iff_getElem.1 hL i j hi hj h)
    · exact h
    · exact absurd he.symm (List.pairwise_iff_getElem.1 hL j i hj hi h)
  have hnewL : ∀ j, n ≤ j → j < L.length → s.ρ (L.getD j 0) = none := by
    intro j hj hjl
    refine hfr _ ?_
    rw [getD_lt hjl, List.mem_iff_getElem]
    exact ⟨j - n, by simp; omega, by simp [show n + (j - n) = j by omega]⟩
  have hcall := hspec (calleeSg s w L n hin brw) w (xs.map a.eval ++ cvs) hc rfl (fun j hj => by rw [callee_rho, if_neg (by omega)]) rfl
    (by rw [← hv.1]; simp [hal, hcl]) (fun i av v h1 h2 => by
      have hlt : i < (cavs ++ caps).length := by rw [hv.1]; exact (List.getElem?_eq_some_iff.1 h1).1
      have hx := List.getElem?_eq_getElem hlt
      exact (hv.2 i _ av hx h1).rel ok hH c (hargs i _ v hx h2))
  have hrun : (execOp a.eval o).run P w = .ok (.enter f (xs.map a.eval ++ cvs)) w := by
    have hn' : ¬ fn.name = "runtime.NumGoroutine" := by simpa using hname
    have hb' : ¬ fn.body = none := by
      intro h; rw [h] at hbody; cases hbody
    simp [execOp, ho, resolve, hfe, Deferred.ofValue, invoke, callFunc, hf, hn', hb']
  unfold Oper.wp
  rw [hrun, Oper.upon_enter]
  refine hcall.mono ?_
  rintro e w' ⟨v, s1, r, rfl, ⟨rfl, hh0⟩, hrel, ok1, g⟩
  -- the caller's names behind the call
  let σ : Nat → Nat := fun i => L.getD i 0
  let ρ' : Nat → Option (Option Nat) := fun t => match s.ρ t with
    | some x => some x
    | none => match (List.range L.length).find? (fun j => decide (n ≤ j) && (L.getD j 0 == t)) with
      | some j => s1.ρ j
      | none => none
  have hρold : ∀ t x, s.ρ t = some x → ρ' t = some x := by
    intro t x h
    simp only [ρ', h]
  have hρnew : ∀ j, n ≤ j → j < L.length → ρ' (L.getD j 0) = s1.ρ j := by
    intro j hj hjl
    simp only [ρ', hnewL j hj hjl]
    have : (List.range L.length).find? (fun i => decide (n ≤ i) && (L.getD i 0 == L.getD j 0)) = some j := by
      have hex : ∃ i, i ∈ List.range L.length ∧ (decide (n ≤ i) && (L.getD i 0 == L.getD j 0)) = true := ⟨j, by simp [hjl], by simp [hj]⟩
      cases hfd : (List.range L.length).find? (fun i => decide (n ≤ i) && (L.getD i 0 == L.getD j 0)) with
      | none =>
        obtain ⟨i, hi, hp⟩ := hex
        have := List.find?_eq_none.1 hfd i hi
        exact absurd hp this
      | some i =>
        have hp := List.find?_some hfd
        have hmem := List.mem_of_find?_eq_some hfd
        simp at hp hmem
        rw [hinjL i j hmem hjl (by simpa using hp.2)]
    rw [this]
  have hρnone : ∀ t, s.ρ t = none → t ∉ L.drop n → ρ' t = none := by
    intro t h hnt
    simp only [ρ', h]
    cases hfd : (List.range L.length).find? (fun i => decide (n ≤ i) && (L.getD i 0 == t)) with
    | none => rfl
    | some j =>
      have hp := List.find?_some hfd
      have hmem := List.mem_of_find?_eq_some hfd
      simp at hp hmem
      exfalso
      apply hnt
      have h2 : L.getD j 0 = t := by simpa using hp.2
      rw [← h2, getD_lt hmem, List.mem_iff_getElem]
      exact ⟨j - n, by simp; omega, by simp [show n + (j - n) = j by omega]⟩
  have hU := fun t => lkU_map (g := fun k => L.getD k 0) (f := fun k => (h0 k).map (Blk.ren σ)) (List.range L.length) (fun i j hi hj => hinjL i j (by simpa using hi) (by simpa using hj)) t
  have hhpIn : ∀ j, j < L.length → updH s.hp (outU L h0) (L.getD j 0) = (h0 j).map (Blk.ren σ) := by
    intro j hj
    have := (hU (L.getD j 0)).1 j (by simp [hj]) rfl
    simp only [updH, outU]
    rw [this]
  have hhpOut : ∀ t, (∀ j, j < L.length → L.getD j 0 ≠ t) → updH s.hp (outU L h0) t = s.hp t := by
    intro t h
    have := (hU t).2 (fun j hj => h j (by simpa using hj))
    simp only [updH, outU]
    rw [this]
  have hs1hp : ∀ j, s1.hp j = h0 j := fun j => by rw [hh0]
  -- names of the callee that are in use lie in L
  have hdom : ∀ j, s1.hp j ≠ none → j < L.length := by
    intro j hj
    rcases Nat.lt_or_ge j L.length with h | h
    · exact h
    · rw [hs1hp, h0n j h] at hj; exact absurd rfl hj
  have hrho1 : ∀ j x, j < L.length → s1.ρ j = some x → (n ≤ j ∨ s.ρ (L.getD j 0) ≠ none) → ρ' (L.getD j 0) = some x := by
    intro j x hj hx hcase
    by_cases hjn : j < n
    · rcases hcase with h | h
      · omega
      · cases hr : s.ρ (L.getD j 0) with
        | none => exact absurd hr h
        | some y =>
          have := g.rho j y hjn (by rw [callee_rho, if_pos hjn]; exact hr)
          rw [this] at hx; cases hx
          exact hρold _ _ hr
    · rw [hρnew j (by omega) hj]; exact hx
  have hsome : ∀ j, j < n → s.ρ (L.getD j 0) ≠ none := by
    intro j hj
    obtain ⟨_, B', _, hB', _⟩ := c.blk j hj
    obtain ⟨x, hx, _⟩ := ok.blk _ _ (hH _ _ hB')
    rw [hx]; simp
  let s' : Sg := { s with ρ := ρ', hp := updH s.hp (outU L h0) }
  have hown1 : ∀ t b, s'.hp t ≠ none → s'.ρ t = some (some b) → (∃ j, j < L.length ∧ L.getD j 0 = t ∧ s1.hp j ≠ none ∧ s1.ρ j = some (some b)) ∨ ((∀ j, j < L.length → L.getD j 0 ≠ t) ∧ s.hp t ≠ none ∧ s.ρ t = some (some b)) := by
    intro t b ht hr
    by_cases hex : ∃ j, j < L.length ∧ L.getD j 0 = t
    · obtain ⟨j, hj, he⟩ := hex
      subst he
      left
      have h1 : s1.hp j ≠ none := by
        have : s'.hp (L.getD j 0) = (h0 j).map (Blk.ren σ) := hhpIn j hj
        rw [this] at ht
        rw [hs1hp]
        intro hz; rw [hz] at ht; exact ht rfl
      refine ⟨j, hj, rfl, h1, ?_⟩
      have hr' : ρ' (L.getD j 0) = some (some b) := hr
      cases hs1 : s1.hp j with
      | none => exact absurd hs1 h1
      | some B =>
        obtain ⟨y, hy, _⟩ := ok1.blk j B hs1
        have := hrho1 j y hj hy (by
          by_cases hjn : j < n
          · exact .inr (hsome j hjn)
          · exact .inl (by omega))
        rw [this] at hr'; cases hr'
        exact hy
    · have hne : ∀ j, j < L.length → L.getD j 0 ≠ t := fun j hj he => hex ⟨j, hj, he⟩
      right
      have h1 : s'.hp t = s.hp t := hhpOut t hne
      rw [h1] at ht
      refine ⟨hne, ht, ?_⟩
      cases hs : s.hp t with
      | none => exact absurd hs ht
      | some B =>
        obtain ⟨y, hy, _⟩ := ok.blk t B hs
        have hr' : ρ' t = some (some b) := hr
        rw [hρold t y hy] at hr'; cases hr'
        exact hy
  -- owned blocks of the callee: the caller's that it was given, or new ones
  have hown2 : ∀ j b, s1.hp j ≠ none → s1.ρ j = some (some b) → (∃ i, i < n ∧ s.hp (L.getD i 0) ≠ none ∧ s.ρ (L.getD i 0) = some (some b)) ∨ w.heap.size ≤ b := by
    intro j b hj hr
    rcases g.own j b hj hr with ⟨k0, h1, h2⟩ | h
    · rw [callee_rho] at h2
      split at h2
      · rename_i hlt
        obtain ⟨_, B', _, hB', _⟩ := c.blk k0 hlt
        exact .inl ⟨k0, hlt, by rw [hH _ _ hB']; simp, h2⟩
      · cases h2
    · exact .inr h
  have keepc : ∀ b, b < w.heap.size → (∀ i, i < n → s.hp (L.getD i 0) ≠ none → s.ρ (L.getD i 0) ≠ some (some b)) → w'.heap[b]? = w.heap[b]? := by
    intro b hb h
    refine g.keep b hb fun j hj hr => ?_
    rw [callee_rho] at hr
    split at hr
    · rename_i hlt
      obtain ⟨_, B', _, hB', _⟩ := c.blk j hlt
      exact h j hlt (by rw [hH _ _ hB']; simp) hr
    · cases hr
  have other : ∀ t b, (∀ j, j < L.length → L.getD j 0 ≠ t) → s.hp t ≠ none → s.ρ t = some (some b) → w'.heap[b]? = w.heap[b]? := by
    intro t b hne ht hr
    refine keepc b (ok.lt ht hr) fun i hi h1 h2 => ?_
    exact hne i (by omega) (ok.inj _ _ b h1 ht h2 hr)
  have tr : Tr s w s' w' :=
    { M := rfl
      n0 := rfl
      rho := hρold
      size := g.size
      os := g.os
      tape := g.tape
      output := g.output
      keep := fun b hb h => keepc b hb fun i _ h1 => h _ h1
      own := fun t b h1 h2 => by
        rcases hown1 t b h1 h2 with ⟨j, hj, _, h3, h4⟩ | ⟨_, h3, h4⟩
        · rcases hown2 j b h3 h4 with ⟨i, _, h5, h6⟩ | h5
          · exact .inl ⟨_, h5, h6⟩
          · exact .inr h5
        · exact .inl ⟨t, h3, h4⟩
      dead := fun t h1 h2 => by
        show updH s.hp (outU L h0) t = none
        by_cases hex : ∃ j, j < L.length ∧ L.getD j 0 = t
        · obtain ⟨j, hj, he⟩ := hex
          subst he
          exfalso
          by_cases hjn : j < n
          · obtain ⟨_, B', _, hB', _⟩ := c.blk j hjn
            rw [hH _ _ hB'] at h2; cases h2
          · exact h1 (hnewL j (by omega) hj)
        · rw [hhpOut t fun j hj he => hex ⟨j, hj, he⟩]; exact h2
      arr := fun t fresh esz els h => by
        show updH s.hp (outU L h0) t = none ∨ _
        by_cases hex : ∃ j, j < L.length ∧ L.getD j 0 = t
        · obtain ⟨j, hj, he⟩ := hex
          subst he
          have hjn : j < n := by
            rcases Nat.lt_or_ge j n with h' | h'
            · exact h'
            · rw [ok.hp_none (hnewL j h' hj)] at h; cases h
          obtain ⟨B, B', hB, hB', hv'⟩ := c.blk j hjn
          rw [hH _ _ hB'] at h; cases h
          cases hv' with
          | arr =>
            rcases g.arr j false esz els hjn hB with h1 | ⟨f1, e1, h1, h2, h3⟩
            · left; rw [hhpIn j hj, ← hs1hp, h1]; rfl
            · right
              refine ⟨f1, e1, by show updH s.hp (outU L h0) _ = _; rw [hhpIn j hj, ← hs1hp, h1]; rfl, h2, fun b cs ty fz h4 h5 => h3 b cs ty fz (by rw [callee_rho, if_pos hjn]; exact h4) h5⟩
        · have hne : ∀ j, j < L.length → L.getD j 0 ≠ t := fun j hj he => hex ⟨j, hj, he⟩
          right
          refine ⟨fresh, els, by show updH s.hp (outU L h0) t = _; rw [hhpOut t hne]; exact h, Nat.le_refl _, fun b cs ty fz h4 h5 => ⟨cs, ty, fz, ?_, rfl⟩⟩
          rw [other t b hne (by rw [h]; simp) h4]; exact h5 }
  have hold : ∀ b, s'.old b → s1.old b := by
    rintro b (hm | hlt)
    · rcases hm with hM | ⟨t, h1, h2⟩
      · refine .inr ?_
        rw [g.n0]
        exact ok.bM b hM
      · rcases hown1 t b h1 h2 with ⟨j, _, _, h3, h4⟩ | ⟨_, h3, h4⟩
        · exact .inl (.inr ⟨j, h3, h4⟩)
        · refine .inr ?_
          rw [g.n0]
          exact ok.lt h3 h4
    · refine .inr ?_
      rw [g.n0]
      exact Nat.lt_of_lt_of_le hlt ok.n0
  have hmutB : brw = false → ∀ b, s'.mut b → s1.mut b := by
    rintro hb b (hM | ⟨t, h1, h2⟩)
    · refine .inl ?_
      rw [g.M]
      exact ⟨hb, .inl hM⟩
    · rcases hown1 t b h1 h2 with ⟨j, _, _, h3, h4⟩ | ⟨hne, h3, h4⟩
      · exact .inr ⟨j, h3, h4⟩
      · refine .inl ?_
        rw [g.M]
        exact ⟨hb, .inr ⟨t, h3, h4, fun j hj => hne j (by omega)⟩⟩
  have hren : Ren σ L.length s1 s' :=
    { rho := fun j x hj hx => hrho1 j x hj hx (by
        by_cases hjn : j < n
        · exact .inr (hsome j hjn)
        · exact .inl (by omega))
      hp := fun j fr esz els hj h => ⟨fr, by
        show updH s.hp (outU L h0) (L.getD j 0) = _
        rw [hhpIn j hj, ← hs1hp, h]; rfl⟩
      dead := fun j hj _ h2 => by
        show updH s.hp (outU L h0) (L.getD j 0) = _
        rw [hhpIn j hj, ← hs1hp, h2]; rfl
      old := hold }
  have hmode : ∀ {x : AV}, (brw = true → FO x) → (∀ b, s'.mut b → s1.mut b) ∨ FO x := by
    intro x hx
    cases hb : brw with
    | false => exact .inl (hmutB hb)
    | true => exact .inr (hx hb)
  refine k v s' w' ⟨tr, ok.step tr ?_ ?_, rfl, hρnone⟩ ?_
  · intro t B hB
    have hB' : updH s.hp (outU L h0) t = some B := hB
    by_cases hex : ∃ j, j < L.length ∧ L.getD j 0 = t
    · obtain ⟨j, hj, he⟩ := hex
      subst he
      right
      rw [hhpIn j hj] at hB'
      obtain ⟨B0, hB0, rfl⟩ := Option.map_eq_some_iff.1 hB'
      have hs1 : s1.hp j = some B0 := by rw [hs1hp]; exact hB0
      obtain ⟨x, hx, hok⟩ := ok1.blk j B0 hs1
      refine ⟨x, hren.rho j x hj hx, ?_⟩
      cases B0 with
      | box cells =>
        obtain ⟨b, cs, ty, rfl, hb, hcs, hr⟩ := hok
        refine ⟨b, cs, ty, rfl, hb, by simpa using hcs, map_rel fun i av v h1 h2 => ?_⟩
        have hmem := List.mem_of_getElem? h1
        refine (hr i av v h1 h2).ren1 hren (hmode fun hb => ?_) (List.all_eq_true.1 (hblv j _ hB0) av hmem)
        have := (hfo hb).2 j _ hB0
        cases this with
        | box h => exact h av hmem
      | arr fresh esz els =>
        rcases hok with h | ⟨b, cs, ty, rfl, hb, h1, h2, h3⟩
        · exact .inl h
        · refine .inr ⟨b, cs, ty, rfl, hb, h1, h2, fun q row i av h4 h5 => ?_⟩
          obtain ⟨u, hu, hrep⟩ := h3 q row i av h4 h5
          refine ⟨u, hu, ?_⟩
          cases hb2 : brw with
          | true =>
            have := (hfo hb2).2 j _ hB0
            cases this
            exact hrep.weaken fun b _ hb => hold b hb
          | false =>
            cases fresh
            · exact hrep.weaken fun b _ hb => hmutB hb2 b hb
            · exact hrep.weaken fun b _ hb => hold b hb
      | map es => exact hok
    · have hne : ∀ j, j < L.length → L.getD j 0 ≠ t := fun j hj he => hex ⟨j, hj, he⟩
      rw [hhpOut t hne] at hB'
      exact .inl ⟨hB', fun b hb => other t b hne (by rw [hB']; simp) hb⟩
  · intro t t' b h1 h2 h3 h4
    rcases hown1 t b h1 h3 with ⟨j, hj, he, h5, h6⟩ | ⟨hne, h5, h6⟩
    · rcases hown1 t' b h2 h4 with ⟨j', hj', he', h7, h8⟩ | ⟨hne', h7, h8⟩
      · have := ok1.inj j j' b h5 h7 h6 h8
        subst this
        exact he.symm.trans he'
      · exfalso
        rcases hown2 j b h5 h6 with ⟨i, hi, h9, h10⟩ | h9
        · exact hne' i (by omega) (ok.inj _ _ b h9 h7 h10 h8)
        · have := ok.lt h7 h8; omega
    · rcases hown1 t' b h2 h4 with ⟨j', hj', he', h7, h8⟩ | ⟨hne', h7, h8⟩
      · exfalso
        rcases hown2 j' b h7 h8 with ⟨i, hi, h9, h10⟩ | h9
        · exact hne i (by omega) (ok.inj _ _ b h9 h5 h10 h6)
        · have := ok.lt h5 h6; omega
      · exact ok.inj t t' b h5 h7 h6 h8
  · rintro av ⟨⟩
    exact hrel.ren hren (hmode fun hb => (hfo hb).1) hlv
end
end Go.Abs
