/- Part 17 of the proof that TopAltered returns true for every input of its row (no condition beyond the row). -/
import Derived.Test.YtelfcalhhfmjfaaGreatDoorT16
set_option linter.unusedVariables false
set_option linter.unusedSimpArgs false
namespace Go.Abs
theorem foldK_app (f : AtF) (p : List Stp) (b o t : T) : ∀ (l r : List ByteArray) (fs : List Fl) (fd : List Cft), foldK f p b o t (l ++ r) fs fd = foldK f p b o t r (foldK f p b o t l fs fd).1 (foldK f p b o t l fs fd).2
  | [], _, _, _ => rfl
  | _ :: l, r, _, _ => foldK_app f p b o t l r _ _
noncomputable def FK (tk : List Bool) (b o t : T) (l : List ByteArray) : List Fl × List Cft := foldK (atM tk 2) [] b o t (dedO l) [] []
theorem FK_old {tk : List Bool} {b o t : T} {l : List ByteArray} {k : ByteArray} (h : k ∈ l) : FK tk b o t (l ++ [k]) = FK tk b o t l := by
  unfold FK
  rw [dedO_snoc, if_neg (fun e => (cnt_mem.1 e) h)]
theorem FK_new {tk : List Bool} {b o t : T} {l : List ByteArray} {k : ByteArray} (h : k ∉ l) {r : Option T × List Cft} (e : atM tk 2 [stK k] (fieldM k b.fields) (fieldM k o.fields) (fieldM k t.fields) (FK tk b o t l).2 = r) :
    FK tk b o t (l ++ [k]) = (keepK k r.1 (FK tk b o t l).1, r.2) := by
  subst e
  unfold FK
  rw [dedO_snoc, if_pos (cnt_mem.2 h), foldK_app]
  rfl
theorem keep_hd (k : ByteArray) (l : List T) (fs : List Fl) : keepK k (hdO l) fs = if l.length = 0 then fs else fs ++ [(k, nthT l 0)] := by
  unfold keepK hdO
  split
  · rfl
  · rfl
section
variable {u : Ru} {m : Mk} {n : Nat}
theorem lk_base (hn : n ≤ 250) {i : Nat} (h : i < n) : fieldM (KK i) (baseT u n).fields = some (sideT u i 0 0) := by rw [base_eq]; exact look_base u hn h
theorem lk_side (hn : n ≤ 250) {i s : Nat} (hs : s ≤ 2) (w : Nat → Nat) {k : ByteArray} (hk : ∀ j, KK j ≠ k) (h : i < n) : fieldM (KK i) (seg (vS u w s) 0 n ++ [(k, oneT)]) = optV u i s (w i) := by
  unfold optV
  split
  · rename_i e
    rw [look_none hn (fun j _ => vS_gd hs j) h (if_pos e)]
    exact fieldM_none (by simpa using hk i)
  · rename_i e
    exact look_some hn (fun j _ => vS_gd hs j) h (if_neg e)
theorem lk_ours (hn : n ≤ 250) {i : Nat} (h : i < n) : fieldM (KK i) (oursT u m n).fields = optV u i 1 (dO m i) := by rw [ours_eq]; exact lk_side hn (by omega) _ KK_ours h
theorem lk_other (hn : n ≤ 250) {i : Nat} (h : i < n) : fieldM (KK i) (otherT u m n).fields = optV u i 2 (dX m i) := by rw [other_eq]; exact lk_side hn (by omega) _ KK_other h
theorem lk_base_not {s : ByteArray} (hs : ∀ j, KK j ≠ s) : fieldM s (baseT u n).fields = none := by rw [base_eq]; exact fieldM_none (seg_nokey (fun j _ _ => vB_gd u j) hs)
theorem lk_side_not {s : Nat} (hs : s ≤ 2) (w : Nat → Nat) {k k' : ByteArray} (hk : ∀ j, KK j ≠ k) : fieldM k (seg (vS u w s) 0 n ++ [(k', oneT)]) = if k' = k then some oneT else none := by
  rw [look_not (fun j _ => vS_gd hs j) hk]; rfl
theorem lk_ours_not {k : ByteArray} (hk : ∀ j, KK j ≠ k) : fieldM k (oursT u m n).fields = if sOurs = k then some oneT else none := by rw [ours_eq]; exact lk_side_not (by omega) _ hk
theorem lk_other_not {k : ByteArray} (hk : ∀ j, KK j ≠ k) : fieldM k (otherT u m n).fields = if sOther = k then some oneT else none := by rw [other_eq]; exact lk_side_not (by omega) _ hk
theorem at_KK (tk : List Bool) (hn : n ≤ 250) {i : Nat} (h : i < n) (fd : List Cft) : atM tk 2 [stK (KK i)] (fieldM (KK i) (baseT u n).fields) (fieldM (KK i) (oursT u m n).fields) (fieldM (KK i) (otherT u m n).fields) fd =
    (hdO (fJ tk u m i fd).1, (fJ tk u m i fd).2) := by
  rw [lk_base hn h, lk_ours hn h, lk_other hn h]
  exact at_field (deed_le m i).1 (deed_le m i).2 fd
theorem at_ours (tk : List Bool) (fd : List Cft) : atM tk 2 [stK sOurs] (fieldM sOurs (baseT u n).fields) (fieldM sOurs (oursT u m n).fields) (fieldM sOurs (otherT u m n).fields) fd = (some oneT, fd) := by
  rw [lk_base_not KK_ours, lk_ours_not KK_ours, lk_other_not KK_ours, if_pos rfl, if_neg (Ne.symm ours_other)]
  rfl
theorem at_other (tk : List Bool) (fd : List Cft) : atM tk 2 [stK sOther] (fieldM sOther (baseT u n).fields) (fieldM sOther (oursT u m n).fields) (fieldM sOther (otherT u m n).fields) fd = (some oneT, fd) := by
  rw [lk_base_not KK_other, lk_ours_not KK_other, lk_other_not KK_other, if_pos rfl, if_neg ours_other]
  rfl
abbrev kS (u : Ru) (w : Nat → Nat) (s i : Nat) : List ByteArray := keysF (seg (vS u w s) 0 i)
theorem kS_snoc (w : Nat → Nat) (s i : Nat) : kS u w s (i + 1) = if w i = 4 then kS u w s i else kS u w s i ++ [KK i] := by
  unfold kS
  rw [seg_snoc, Nat.zero_add]
  simp only [keysF, List.map_append, vS]
  split
  · simp
  · rfl
theorem kS_mem {w : Nat → Nat} {s : Nat} {k : ByteArray} : ∀ {i : Nat}, k ∈ kS u w s i ↔ ∃ j, j < i ∧ w j ≠ 4 ∧ k = KK j
  | 0 => by simp [kS, seg]
  | i + 1 => by
    rw [kS_snoc]
    constructor
    · intro h
      split at h
      · obtain ⟨j, h1, h2⟩ := kS_mem.1 h; exact ⟨j, by omega, h2⟩
      · rename_i e
        rcases List.mem_append.1 h with h | h
        · obtain ⟨j, h1, h2⟩ := kS_mem.1 h; exact ⟨j, by omega, h2⟩
        · exact ⟨i, by omega, e, by simpa using h⟩
    · rintro ⟨j, h1, h2, h3⟩
      rcases Nat.lt_or_eq_of_le (Nat.le_of_lt_succ h1) with h4 | rfl
      · have := (kS_mem (w := w) (s := s) (i := i)).2 ⟨j, h4, h2, h3⟩
        split
        · exact this
        · exact List.mem_append_left _ this
      · rw [if_neg h2, h3]; simp
theorem KK_mem {w : Nat → Nat} {s i j : Nat} (hi : i ≤ 250) (hj : j < 250) : KK j ∈ kS u w s i ↔ j < i ∧ w j ≠ 4 := by
  rw [kS_mem]
  constructor
  · rintro ⟨q, h1, h2, h3⟩
    have := KK_inj (by omega) (by omega) h3
    subst this; exact ⟨h1, h2⟩
  · rintro ⟨h1, h2⟩; exact ⟨j, h1, h2, rfl⟩
noncomputable def FKn (tk : List Bool) (u : Ru) (m : Mk) (n : Nat) := FK tk (baseT u n) (oursT u m n) (otherT u m n)
theorem FKn_old {tk : List Bool} {l : List ByteArray} {k : ByteArray} (h : k ∈ l) : FKn tk u m n (l ++ [k]) = FKn tk u m n l := FK_old h
theorem FKn_new {tk : List Bool} {l : List ByteArray} {k : ByteArray} {r : Option T × List Cft} (h : k ∉ l) (e : ∀ fd, fd = (FKn tk u m n l).2 → atM tk 2 [stK k] (fieldM k (baseT u n).fields) (fieldM k (oursT u m n).fields) (fieldM k (otherT u m n).fields) fd = r) :
    FKn tk u m n (l ++ [k]) = (keepK k r.1 (FKn tk u m n l).1, r.2) := FK_new h (e _ rfl)
theorem FKn_KK {tk : List Bool} {l : List ByteArray} (hn : n ≤ 250) {i : Nat} (hi : i < n) (h : KK i ∉ l) : FKn tk u m n (l ++ [KK i]) = (keepK (KK i) (hdO (fJ tk u m i (FKn tk u m n l).2).1) (FKn tk u m n l).1, (fJ tk u m i (FKn tk u m n l).2).2) :=
  FKn_new (r := (hdO (fJ tk u m i (FKn tk u m n l).2).1, (fJ tk u m i (FKn tk u m n l).2).2)) h fun fd e => by subst e; exact at_KK tk hn hi _
theorem FKn_ours {tk : List Bool} {l : List ByteArray} (h : sOurs ∉ l) : FKn tk u m n (l ++ [sOurs]) = ((FKn tk u m n l).1 ++ [(sOurs, oneT)], (FKn tk u m n l).2) := FKn_new (r := (some oneT, (FKn tk u m n l).2)) h fun fd e => by subst e; exact at_ours tk _
theorem FKn_other {tk : List Bool} {l : List ByteArray} (h : sOther ∉ l) : FKn tk u m n (l ++ [sOther]) = ((FKn tk u m n l).1 ++ [(sOther, oneT)], (FKn tk u m n l).2) := FKn_new (r := (some oneT, (FKn tk u m n l).2)) h fun fd e => by subst e; exact at_other tk _
theorem whI_step (tk : List Bool) (r : Bool) (i : Nat) (q : List Fl × List Cft) (h : decide (dO m i = 4) = r) : whI tk u m r (i + 1) q = (keepK (KK i) (hdO (fJ tk u m i (whI tk u m r i q).2).1) (whI tk u m r i q).1, (fJ tk u m i (whI tk u m r i q).2).2) := by
  rw [keep_hd]
  exact if_pos h
theorem whI_skip (tk : List Bool) (r : Bool) (i : Nat) (q : List Fl × List Cft) (h : ¬ decide (dO m i = 4) = r) : whI tk u m r (i + 1) q = whI tk u m r i q := if_neg h
theorem fold_ours (tk : List Bool) (hn : n ≤ 250) : ∀ i, i ≤ n → FKn tk u m n (kS u (dO m) 1 i) = whI tk u m false i ([], [])
  | 0, _ => rfl
  | i + 1, hi => by
    have ih := fold_ours tk hn i (by omega)
    rw [kS_snoc]
    by_cases h : dO m i = 4
    · rw [if_pos h, whI_skip _ _ _ _ (by simp [h]), ih]
    · rw [if_neg h, FKn_KK hn (by omega) (fun e => by have := (KK_mem (by omega) (by omega)).1 e; omega), whI_step _ _ _ _ (by simp [h]), ih]
abbrev L1 (u : Ru) (m : Mk) (n : Nat) : List ByteArray := kS u (dO m) 1 n ++ [sOurs]
theorem nokey_kS {w : Nat → Nat} {s i : Nat} {k : ByteArray} (hk : ∀ j, KK j ≠ k) : k ∉ kS u w s i := fun h => by
  obtain ⟨j, _, _, e⟩ := kS_mem.1 h
  exact hk j e.symm
theorem fold_L1 (tk : List Bool) (hn : n ≤ 250) : FKn tk u m n (L1 u m n) = ((whA tk u m n).1 ++ [(sOurs, oneT)], (whA tk u m n).2) := by
  rw [L1, FKn_ours (nokey_kS KK_ours), fold_ours tk hn n (Nat.le_refl _)]
  rfl
theorem KK_L1 {j : Nat} (hn : n ≤ 250) (hj : j < n) : KK j ∈ L1 u m n ↔ dO m j ≠ 4 := by
  rw [List.mem_append, KK_mem hn (by omega)]
  constructor
  · rintro (h | h)
    · exact h.2
    · exact absurd (by simpa using h) (KK_ours j)
  · intro h; exact .inl ⟨hj, h⟩
theorem fJ_none (tk : List Bool) {i : Nat} (h : dO m i = 4) (h' : dX m i = 4) (fd : List Cft) : fJ tk u m i fd = ([], fd) := by
  show fieldJ tk u i (dO m i) (dX m i) fd = _
  rw [h, h']
  unfold fieldJ
  rw [if_pos (.inl rfl), if_pos (.inl rfl)]
theorem fold_other (tk : List Bool) (hn : n ≤ 250) : ∀ i, i ≤ n → FKn tk u m n (L1 u m n ++ kS u (dX m) 2 i) = whI tk u m true i ((whA tk u m n).1 ++ [(sOurs, oneT)], (whA tk u m n).2)
  | 0, _ => by
    rw [show L1 u m n ++ kS u (dX m) 2 0 = L1 u m n by simp [kS, seg], fold_L1 tk hn]; rfl
  | i + 1, hi => by
    have ih := fold_other tk hn i (by omega)
    rw [kS_snoc]
    by_cases h : dO m i = 4
    · rw [whI_step _ _ _ _ (by simp [h]), ← ih]
      by_cases h' : dX m i = 4
      · rw [if_pos h', fJ_none tk h h', hdO_nil]
        rfl
      · rw [if_neg h', ← List.append_assoc, FKn_KK hn (by omega) (fun e => ?_)]
        rcases List.mem_append.1 e with e | e
        · exact (KK_L1 hn (by omega)).1 e h
        · have := (KK_mem (by omega) (by omega)).1 e; omega
    · rw [whI_skip _ _ _ _ (by simp [h]), ← ih]
      by_cases h' : dX m i = 4
      · rw [if_pos h']
      · rw [if_neg h', ← List.append_assoc, FKn_old (List.mem_append_left _ ((KK_L1 hn (by omega)).2 h))]
abbrev L2 (u : Ru) (m : Mk) (n : Nat) : List ByteArray := (L1 u m n ++ kS u (dX m) 2 n) ++ [sOther]
theorem fold_L2 (tk : List Bool) (hn : n ≤ 250) : FKn tk u m n (L2 u m n) = ((whB tk u m n).1 ++ [(sOther, oneT)], (whB tk u m n).2) := by
  rw [L2, FKn_other (fun e => ?_), fold_other tk hn n (Nat.le_refl _)]
  · rfl
  · rcases List.mem_append.1 e with e | e
    · rcases List.mem_append.1 e with e | e
      · exact nokey_kS KK_other e
      · exact ours_other (List.mem_singleton.1 e).symm
    · exact nokey_kS KK_other e
theorem fold_base (tk : List Bool) (hn : n ≤ 250) : ∀ i, i ≤ n → FKn tk u m n (L2 u m n ++ keysF (seg (vB u) 0 i)) = FKn tk u m n (L2 u m n)
  | 0, _ => by simp [seg]
  | i + 1, hi => by
    have ih := fold_base tk hn i (by omega)
    have e : keysF (seg (vB u) 0 (i + 1)) = keysF (seg (vB u) 0 i) ++ [KK i] := by rw [seg_snoc, Nat.zero_add]; exact List.map_append
    rw [e, ← List.append_assoc]
    by_cases h : dO m i = 4 ∧ dX m i = 4
    · rw [FKn_KK hn (by omega) (fun e => ?_), fJ_none tk h.1 h.2, hdO_nil, ih]
      · rfl
      · rcases List.mem_append.1 e with e | e
        · rcases List.mem_append.1 e with e | e
          · rcases List.mem_append.1 e with e | e
            · exact (KK_L1 hn (by omega)).1 e h.1
            · exact ((KK_mem hn (by omega)).1 e).2 h.2
          · exact KK_other i (by simpa using e)
        · exact seg_away (fun j _ _ => vB_gd u j) (by omega) (by omega) (.inr (by omega)) e
    · rw [FKn_old, ih]
      refine List.mem_append_left _ (List.mem_append_left _ ?_)
      by_cases h1 : dO m i = 4
      · exact List.mem_append_right _ ((KK_mem hn (by omega)).2 ⟨by omega, fun h2 => h ⟨h1, h2⟩⟩)
      · exact List.mem_append_left _ ((KK_L1 hn (by omega)).2 h1)
theorem keys_all : preK [oursT u m n, otherT u m n, baseT u n] 3 = L2 u m n ++ keysF (seg (vB u) 0 n) := by
  show fKeys (oursT u m n) ++ (fKeys (otherT u m n) ++ (fKeys (baseT u n) ++ [])) = _
  rw [base_eq, ours_eq, other_eq]
  show keysF (_ ++ _) ++ (keysF (_ ++ _) ++ (keysF _ ++ [])) = _
  simp [keysF, L2, L1, kS]
  rfl
theorem at_all (tk : List Bool) (hn : n ≤ 250) : atM tk 3 [] (some (baseT u n)) (some (oursT u m n)) (some (otherT u m n)) [] = (some (wholeT tk u m n), (whB tk u m n).2) := by
  have kO : sOurs ∈ keysF (oursT u m n).fields := by rw [ours_eq]; show sOurs ∈ keysF (_ ++ _); simp
  have kX : sOther ∈ keysF (otherT u m n).fields := by rw [other_eq]; show sOther ∈ keysF (_ ++ _); simp
  have nO : sOurs ∉ keysF (otherT u m n).fields := by
    rw [other_eq]; show sOurs ∉ keysF (_ ++ _)
    simp only [keysF, List.map_append, List.mem_append, not_or]
    exact ⟨nokey_kS KK_ours, by simp [ours_other]⟩
  have nB : ∀ k, (∀ j, KK j ≠ k) → k ∉ keysF (baseT u n).fields := fun k hk => by rw [base_eq]; exact seg_nokey (fun j _ _ => vB_gd u j) hk
  have e1 : sameM 1000 (oursT u m n) (otherT u m n) = false := same_not kO nO
  have e2 : sameM 1000 (otherT u m n) (baseT u n) = false := same_not kX (nB _ KK_other)
  have e3 : sameM 1000 (oursT u m n) (baseT u n) = false := same_not kO (nB _ KK_ours)
  have e0 : atM tk 3 [] (some (baseT u n)) (some (oursT u m n)) (some (otherT u m n)) [] =
    if sameM 1000 (oursT u m n) (otherT u m n) = true ∨ sameM 1000 (otherT u m n) (baseT u n) = true then (some (oursT u m n), [])
    else if sameM 1000 (oursT u m n) (baseT u n) = true then (some (otherT u m n), [])
    else if (oursT u m n).kind = 7 ∧ (otherT u m n).kind = 7 ∧ (baseT u n).kind = 7 then
      (some (T.map (foldK (atM tk 2) [] (baseT u n) (oursT u m n) (otherT u m n) (keysM (baseT u n) (oursT u m n) (otherT u m n)) [] []).1), (foldK (atM tk 2) [] (baseT u n) (oursT u m n) (otherT u m n) (keysM (baseT u n) (oursT u m n) (otherT u m n)) [] []).2)
      else cftM tk [] (some (baseT u n)) (some (oursT u m n)) (some (otherT u m n)) [] := rfl
  rw [e0, e1, e2, e3, if_neg (by simp), if_neg (by simp), if_pos ⟨rfl, rfl, rfl⟩]
  have ef : foldK (atM tk 2) [] (baseT u n) (oursT u m n) (otherT u m n) (keysM (baseT u n) (oursT u m n) (otherT u m n)) [] [] = ((whB tk u m n).1 ++ [(sOther, oneT)], (whB tk u m n).2) := by
    unfold keysM
    rw [keys_all]
    exact (fold_base tk hn n (Nat.le_refl _)).trans (fold_L2 tk hn)
  rw [ef]
  rfl
end
end Go.Abs
namespace Go.Abs
theorem stepJ_2 (tk : List Bool) (i : Nat) (k : ByteArray) (b o t : T) (fd : List Cft) : (stepJ tk i k b o t fd).2 = (stepJ [] i k b o t fd).2 := by
  unfold stepJ
  split
  · rfl
  · split
    · rfl
    · rfl
theorem fieldJ_2 (tk : List Bool) (u : Ru) (i o x : Nat) (fd : List Cft) : (fieldJ tk u i o x fd).2 = (fieldJ [] u i o x fd).2 := by
  unfold fieldJ
  split
  · split
    · rfl
    · rfl
  · dsimp only
    rw [stepJ_2 tk, stepJ_2 tk]
theorem whI_2 (tk : List Bool) (u : Ru) (m : Mk) (r : Bool) (q q' : List Fl × List Cft) (h : q.2 = q'.2) : ∀ i, (whI tk u m r i q).2 = (whI [] u m r i q').2
  | 0 => h
  | i + 1 => by
    have ih := whI_2 tk u m r q q' h i
    simp only [whI]
    split
    · dsimp only
      rw [ih]; exact fieldJ_2 ..
    · exact ih
theorem whB_2 (tk : List Bool) (u : Ru) (m : Mk) (n : Nat) : (whB tk u m n).2 = (whB [] u m n).2 := whI_2 tk u m true ((whA tk u m n).1 ++ [(sOurs, oneT)], (whA tk u m n).2) ((whA [] u m n).1 ++ [(sOurs, oneT)], (whA [] u m n).2) (whI_2 tk u m false ([], []) ([], []) rfl n) n
theorem whB_len (u : Ru) (m : Mk) (n : Nat) : (whB [] u m n).2.length ≤ 4 * n := by
  have h1 := (whI_len [] u m true ((whA [] u m n).1 ++ [(sOurs, oneT)], (whA [] u m n).2) n).2
  have h2 := (@whA_len [] u m n).2
  show (whI [] u m true n ((whA [] u m n).1 ++ [(sOurs, oneT)], (whA [] u m n).2)).2.length ≤ _
  dsimp only at h1
  omega
def lOK (l : List T) : Prop := l.length ≤ 1 ∧ ∀ x ∈ l, T.ok 5 x
def cOK (c : Cft) : Prop := c.path.length ≤ 2 ∧ lOK c.base ∧ lOK c.ours ∧ lOK c.other
theorem lOK.fit {l : List T} (h : lOK l) : (T.lst l).fit := ⟨by simp [T.lst, T.bytes], by have := h.1; show l.length ≤ _; omega, by simp [T.lst, T.fields], fun x hx => T.ok_le (h.2 x hx) (show 5 ≤ 999 by omega), by simp [T.lst, T.fields]⟩
theorem lOK_one {x : T} (h : T.ok 5 x) : lOK [x] := ⟨by simp, by simpa using h⟩
theorem lOK_side (u : Ru) (i s w : Nat) (hs : s ≤ 2) : lOK (sideL u i s w) := by
  unfold sideL
  split
  · exact ⟨by simp, by simp⟩
  · exact lOK_one ((side_val hs).tok 3)
theorem side_5 {u : Ru} {i s w k : Nat} : T.ok 5 (nthF (nthT (sideL u i s w) 0).fields k).2 := by
  unfold sideL
  split
  · exact nul_ok 4
  · show T.ok 5 (nthF [_, _] k).2
    match k with
    | 0 => exact int_ok _ 4
    | 1 => exact int_ok _ 4
    | k + 2 => exact nul_ok 4
theorem stepJ_c {tk : List Bool} {i : Nat} {k : ByteArray} {b o t : T} {fd : List Cft} (hb : T.ok 5 b) (ho : T.ok 5 o) (ht : T.ok 5 t) (h : ∀ c ∈ fd, cOK c) : ∀ c ∈ (stepJ tk i k b o t fd).2, cOK c := by
  unfold stepJ
  split
  · exact h
  · split
    · exact h
    · intro c hc
      rcases List.mem_append.1 hc with hc | hc
      · exact h c hc
      · rw [List.mem_singleton.1 hc]; exact ⟨by simp, lOK_one hb, lOK_one ho, lOK_one ht⟩
theorem fieldJ_c {tk : List Bool} {u : Ru} {i o x : Nat} {fd : List Cft} (h : ∀ c ∈ fd, cOK c) : ∀ c ∈ (fieldJ tk u i o x fd).2, cOK c := by
  unfold fieldJ
  split
  · split
    · exact h
    · intro c hc
      rcases List.mem_append.1 hc with hc | hc
      · exact h c hc
      · rw [List.mem_singleton.1 hc]; exact ⟨by simp, lOK_side u i 0 0 (by omega), lOK_side u i 1 o (by omega), lOK_side u i 2 x (by omega)⟩
  · exact stepJ_c side_5 side_5 side_5 (stepJ_c side_5 side_5 side_5 h)
theorem whI_c {tk : List Bool} {u : Ru} {m : Mk} {r : Bool} {q : List Fl × List Cft} (h : ∀ c ∈ q.2, cOK c) : ∀ i, ∀ c ∈ (whI tk u m r i q).2, cOK c
  | 0 => h
  | i + 1 => by
    simp only [whI]
    split
    · exact fieldJ_c (whI_c h i)
    · exact whI_c h i
theorem whB_c (tk : List Bool) (u : Ru) (m : Mk) (n : Nat) : ∀ c ∈ (whB tk u m n).2, cOK c :=
  whI_c (q := ((whA tk u m n).1 ++ [(sOurs, oneT)], (whA tk u m n).2)) (whI_c (tk := tk) (u := u) (m := m) (r := false) (q := ([], [])) (fun c hc => by cases hc) n) n
theorem okTri_none {d : Nat} {o t : Option T} (ho : ∀ x, o = some x → T.ok (d + 6) x) (ht : ∀ x, t = some x → T.ok (d + 6) x) (h : o.isSome = true → t.isSome = true → False) : okTri (d + 1) none o t :=
  ⟨(fun _ e => by cases e), ho, ht, fun _ => h, fun b' _ _ e => by cases e⟩
theorem okTri_num {d : Nat} {a b c : T} (ha : Nm a) (hb : Nm b) (hc : Nm c) : okTri (d + 1) (some a) (some b) (some c) :=
  ⟨fun x e => by cases e; exact ha.tok (d + 5), fun x e => by cases e; exact hb.tok (d + 5), fun x e => by cases e; exact hc.tok (d + 5), (fun e => by cases e), fun b' o' t' _ e2 _ h2 => by cases e2; exact absurd h2 hb.kind⟩
theorem look_z {k : ByteArray} (hx : ¬ kx = k) (hy : ¬ ky = k) (a b : T) : fieldM k [(kx, a), (ky, b)] = none := fieldM_none (by
  simp only [keysF, List.map_cons, List.map_nil, List.mem_cons, List.not_mem_nil, or_false, not_or]
  exact ⟨fun e => hx e.symm, fun e => hy e.symm⟩)
theorem okTri_pair {u : Ru} {i o x : Nat} : okTri 2 (some (sideT u i 0 0)) (optV u i 1 o) (optV u i 2 x) := by
  have ov : ∀ s w, s ≤ 2 → ∀ y, optV u i s w = some y → y = sideT u i s w := fun s w _ y e => by
    unfold optV at e
    split at e
    · cases e
    · cases e; rfl
  refine ⟨fun y e => by cases e; exact (side_val (by omega)).tok 5, fun y e => by rw [ov 1 o (by omega) y e]; exact (side_val (by omega)).tok 5, fun y e => by rw [ov 2 x (by omega) y e]; exact (side_val (by omega)).tok 5, (fun e => by cases e), fun b' o' t' e1 e2 e3 _ _ _ => ?_⟩
  cases e1
  rw [ov 1 o (by omega) o' e2, ov 2 x (by omega) t' e3]
  refine ⟨show 2 + 2 + 2 ≤ 100000 by omega, fun k => ?_⟩
  show okTri 1 (fieldM k [(kx, cX u i 0 0), (ky, cY u i 0 0)]) (fieldM k [(kx, cX u i 1 o), (ky, cY u i 1 o)]) (fieldM k [(kx, cX u i 2 x), (ky, cY u i 2 x)])
  by_cases h1 : kx = k
  · subst h1
    rw [look_x, look_x, look_x]
    exact okTri_num (cX_nm (by omega)) (cX_nm (by omega)) (cX_nm (by omega))
  · by_cases h2 : ky = k
    · subst h2
      rw [look_y, look_y, look_y]
      exact okTri_num (cY_nm (by omega)) (cY_nm (by omega)) (cY_nm (by omega))
    · rw [look_z h1 h2, look_z h1 h2, look_z h1 h2]
      exact okTri_none (fun _ e => by cases e) (fun _ e => by cases e) (fun e => by cases e)
theorem okTri_all (u : Ru) (m : Mk) {n : Nat} (hn : n ≤ 250) : okTri 3 (some (baseT u n)) (some (oursT u m n)) (some (otherT u m n)) := by
  have so := side_sh u (dO m) (s := 1) (by omega) KK_ours ours_ok hn
  have sx := side_sh u (dX m) (s := 2) (by omega) KK_other other_ok hn
  refine ⟨fun y e => by cases e; rw [base_eq]; exact (base_sh u hn).tok 5, fun y e => by cases e; rw [ours_eq]; exact so.tok 5, fun y e => by cases e; rw [other_eq]; exact sx.tok 5, (fun e => by cases e), fun b' o' t' e1 e2 e3 _ _ _ => ?_⟩
  cases e1; cases e2; cases e3
  have l1 : (baseT u n).fields.length ≤ 300 := by rw [base_eq]; exact (base_sh u hn).2.1
  have l2 : (oursT u m n).fields.length ≤ 300 := by rw [ours_eq]; exact so.2.1
  have l3 : (otherT u m n).fields.length ≤ 300 := by rw [other_eq]; exact sx.2.1
  refine ⟨by omega, fun k => ?_⟩
  by_cases hk : ∃ i, i < n ∧ KK i = k
  · obtain ⟨i, hi, rfl⟩ := hk
    rw [lk_base hn hi, lk_ours hn hi, lk_other hn hi]
    exact okTri_pair
  · have nk : ∀ {f : Nat → List Fl}, (∀ j, j < n → Gd j (f j)) → k ∉ keysF (seg f 0 n) := fun hf hm => by
      obtain ⟨p, hp, e⟩ := List.mem_map.1 hm
      obtain ⟨j, h1, h2, h3, _⟩ := seg_keys (i := 0) (fun j _ hj => hf j (by omega)) hp
      exact hk ⟨j, by omega, h3.symm.trans e⟩
    rw [base_eq, ours_eq, other_eq]
    show okTri 2 (fieldM k (seg (vB u) 0 n)) (fieldM k (seg (vS u (dO m) 1) 0 n ++ [(sOurs, oneT)])) (fieldM k (seg (vS u (dX m) 2) 0 n ++ [(sOther, oneT)]))
    rw [fieldM_none (nk fun j _ => vB_gd u j), fieldM_away (nk fun j _ => vS_gd (by omega) j), fieldM_away (nk fun j _ => vS_gd (by omega) j)]
    have one : ∀ (s : ByteArray) (y : T), fieldM k [(s, oneT)] = some y → s = k ∧ y = oneT := fun s y e => by
      simp only [fieldM] at e
      split at e
      · rename_i h; cases e; exact ⟨h, rfl⟩
      · cases e
    refine okTri_none (fun y e => by rw [(one _ y e).2]; exact Val.one.tok 5) (fun y e => by rw [(one _ y e).2]; exact Val.one.tok 5) fun h1 h2 => ?_
    have e1 := (one _ _ (some_getD (d := T.nul) h1).symm).1
    have e2 := (one _ _ (some_getD (d := T.nul) h2).symm).1
    exact ours_other (e1.trans e2.symm)
theorem pl_num {d : Nat} {a : T} (h : Nm a) : T.pl (d + 1) a := by
  obtain ⟨x, _, rfl⟩ := h
  exact ⟨show (2 : Int) ≠ 6 by omega, by simp [T.int, T.num, T.fields]⟩
theorem pl_one (d : Nat) : T.pl (d + 1) oneT := ⟨show (2 : Int) ≠ 6 by omega, by simp [oneT, T.num, T.fields]⟩
theorem Val.pl {t : T} (h : Val t) : T.pl 2 t := by
  rcases h with ⟨x, y, hx, hy, rfl⟩ | rfl
  · refine ⟨show (7 : Int) ≠ 6 by omega, fun p hp => ?_⟩
    have hp' : p = (kx, x) ∨ p = (ky, y) := by simpa [T.map, T.fields] using hp
    rcases hp' with rfl | rfl
    · exact pl_num hx
    · exact pl_num hy
  · exact pl_one 1
theorem Sh.pl {fs : List Fl} (h : Sh fs) : T.pl 3 (T.map fs) := ⟨show (7 : Int) ≠ 6 by omega, fun p hp => (h.2.2 p hp).2.pl⟩
theorem StX.fit {v v' : T} {c : Chg} (h : StX v c v') : c.path.length ≤ 100000 ∧ c.old.fit ∧ c.new.fit := by
  cases h with
  | upd hs hs' hk hx hy => exact ⟨by simp, hx.fit', hy.fit'⟩
  | ins hs hs' => exact ⟨by simp, nul_ok 999, hs'.at.2.1.tok 998⟩
  | rem hs hs' => exact ⟨by simp, hs.at.2.1.tok 998, nul_ok 999⟩
theorem RunX.fit {v v' : T} {l : List Chg} (h : RunX v l v') : ∀ c ∈ l, c.path.length ≤ 100000 ∧ c.old.fit ∧ c.new.fit := by
  induction h with
  | nil => simp
  | cons h _ ih =>
    intro c hc
    rcases List.mem_cons.1 hc with rfl | hc
    · exact h.fit
    · exact ih c hc
theorem altOK (u : Ru) (m : Mk) {n : Nat} (hn : n ≤ 250) : AltOK u m n := by
  have so := side_sh u (dO m) (s := 1) (by omega) KK_ours ours_ok hn
  have sx := side_sh u (dX m) (s := 2) (by omega) KK_other other_ok hn
  have sb := base_sh u hn
  have r := run_all u m hn
  have hl := stI_len u m n
  have hc := whB_len u m n
  exact
    { fb := by rw [base_eq]; exact sb.tok 997
      fo := by rw [ours_eq]; exact so.tok 997
      fx := by rw [other_eq]; exact sx.tok 997
      plb := by rw [base_eq]; exact sb.pl
      plo := by rw [ours_eq]; exact so.pl
      diff := diff_all u m hn
      len := by unfold wantC; simp only [List.length_append, List.length_cons, List.length_nil]; omega
      chg := r.fit
      vb := by rw [base_eq]; exact sb.ok
      vo := by rw [ours_eq]; exact so.ok
      run := r.ok.1
      runE := r.ok.2
      back := r.inv.ok.1
      backE := r.inv.ok.2
      dl := okDl_all u m hn
      dlE := delta_all u m hn
      ov := (ov_all u m hn).1
      ovE := (ov_all u m hn).2
      fov := T.ok_le (over_ok u m hn) (by omega)
      tri := okTri_all u m hn
      atE := fun tk => at_all tk hn
      cf := fun tk => whB_2 tk u m n
      cfl := by omega
      cfo := fun c h => by
        obtain ⟨h1, h2, h3, h4⟩ := whB_c [] u m n c h
        exact ⟨by omega, h2.fit, h3.fit, h4.fit⟩ }
theorem patOK : PatOK := by
  have n2 : Nm (T.int 2) := ⟨2, by omega, rfl⟩
  have hne : oneT ≠ T.int 2 := fun h => by
    have := strOf_inj.1 (congrArg T.digits h)
    exact absurd this (by decide)
  have e : sameM 1000 oneT (T.int 2) = false := (same_num (d := 999)).trans (eqT_false hne)
  have ap : applyM oneT ⟨1, [], 0, oneT, T.int 2⟩ = T.int 2 := rfl
  exact
    { diff := by
        show (if sameM 1000 oneT (T.int 2) = true ∨ 4096 < ([] : List Chg).length then [] else if oneT.kind = 7 ∧ (T.int 2).kind = 7 then _ else _) = pc2
        rw [e, if_neg (by simp), if_neg (fun h => absurd h.1 (show ¬ (2 : Int) = 7 by omega))]
        rfl
      v1 := one_ok
      v2 := n2.ok
      run := ⟨⟨one_ok, by rw [ap]; exact n2.ok, .inl ⟨rfl, rfl, pOK_nil, one_ok, n2.ok, oneT, rfl, one_ok.refl⟩⟩, trivial⟩
      runE := rfl
      pl1 := pl_one 2
      pl2 := pl_num n2 }
end Go.Abs
