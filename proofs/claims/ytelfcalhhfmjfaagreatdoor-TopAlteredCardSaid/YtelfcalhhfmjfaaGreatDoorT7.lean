/- Part 7 of the proof that TopAltered returns true for every input of its row (no condition beyond the row). -/
import Derived.Test.YtelfcalhhfmjfaaGreatDoorT6
set_option linter.unusedVariables false
set_option linter.unusedSimpArgs false
namespace Go.Abs
open Go.Proofs
set_option maxRecDepth 100000
set_option maxHeartbeats 8000000

theorem symM_A {f a m b : Nat} {l : List Fl} (h : m - a = 1) : symM (f + 1) a m b l = upM (bis (pUp l a) (b - m + 1) m b - 1 - a) a l := if_pos h
theorem symM_B {f a m b : Nat} {l : List Fl} (h : ¬ m - a = 1) (h' : b - m = 1) : symM (f + 1) a m b l = dnM (m - bis (pDn l m) (m - a + 1) a m) m l := (if_neg h).trans (if_pos h')
theorem symM_C {f a m b s : Nat} {l l1 l2 : List Fl} (h : ¬ m - a = 1) (h' : ¬ b - m = 1) (hs : symS a m b l = s) (h1 : l1 = symR m s ((a + b) / 2 + m - s) l) (h2 : l2 = if a < s ∧ s < (a + b) / 2 then symM f a s ((a + b) / 2) l1 else l1) :
    symM (f + 1) a m b l = if (a + b) / 2 < (a + b) / 2 + m - s ∧ (a + b) / 2 + m - s < b then symM f ((a + b) / 2) ((a + b) / 2 + m - s) b l2 else l2 := by
  subst hs; subst h1; subst h2
  exact (if_neg h).trans (if_neg h')
theorem bis_yes {p : Nat → Bool} {g i j : Nat} (h : i < j) (hp : p ((i + j) / 2) = true) : bis p (g + 1) i j = bis p g ((i + j) / 2 + 1) j := by simp only [bis]; rw [if_pos h, if_pos hp]
theorem bis_no {p : Nat → Bool} {g i j : Nat} (h : i < j) (hp : p ((i + j) / 2) = false) : bis p (g + 1) i j = bis p g i ((i + j) / 2) := by simp only [bis]; rw [if_pos h, if_neg (by simp [hp])]
theorem bis_end {p : Nat → Bool} {g i j : Nat} (h : ¬ i < j) : bis p g i j = i := by cases g with
  | zero => rfl
  | succ g => simp only [bis]; rw [if_neg h]

theorem ut26 : Tryz.prog.underlying 26 = some (.int .u64) := by kernel_rfl
theorem us26 : (Tryz.prog.underlying 26).isSome = true := by kernel_rfl
def an111_5 : List Nat := [0, 0, 0, 6, 14, 0, 0, 96, 224, 511, 1023]
def an111_11 : List Nat := [0, 0, 0, 0, 8, 0, 0, 64, 224, 480, 0, 0, 3072, 7168, 16355, 32739, 65535, 131071]
def an111_17 : List Nat := [0, 0, 0, 6, 14, 0, 0, 96, 224, 511, 1023, 2047]
def an111_23 : List Nat := [0, 0, 0, 0, 8, 0, 0, 64, 224, 480, 0, 0, 3072, 7168, 16355, 32739, 65535, 131071]
def an111_35 : List Nat := [0, 0, 0, 0, 12, 30, 62, 0, 0, 384, 896, 2047, 4095, 8191]

theorem sym_spec (n : Nat) (hn : n ≤ 100000) : ∀ (f a m b : Nat) (l : List Fl), l.length = n → a < m → m < b → b ≤ n → b - a ≤ f → FSpec Tryz.prog 111 1 [.sl 0 14 0 n, .N a, .N m, .N b, .fn 91 []] (hpOf [(0, .arr false 14 (encF l))]) (fun r h => r = .tup [] ∧ h = hpOf [(0, .arr false 14 (encF (symM f a m b l)))]) := by
  intro f
  induction f with
  | zero => intro a m b l h0 h1 h2 h3 h4; omega
  | succ f ih =>
  intro a m b l hl ha hm hb hf
  refine FSpec.intro Tryz.func111 rfl (nl rfl) (nl rfl) fun s0 w0 hs0 hn0 => ?_
  refine .ws 1 [(0, .sl 0 14 0 n), (1, .N a), (2, .N m), (3, .N b), (4, .fn 91 [])] [(0, .arr false 14 (encF l))] <| .seq <| .seq <| .region <| .p (.move Z Z) <| .p (.move Z Z) <| .p (.isub (r := (((m - a) : Nat) : Int)) Z Z Z (wi (by omega) (by first | rfl | omega | (simp; done)))) ?_
  refine .p (.ieql Z Z Z) <| .nil ?_
  by_cases p2 : (((m - a) : Nat) : Int) = 1
  have h1 := decide_eq_true p2
  refine .cT Z h1 <| .seq <| .region <| .p (.move Z Z) <| .p (.assign Z Z) <| .nil <| .seq <| .region <| .p (.move Z Z) <| .p (.assign Z Z) <| .nil <| .seq ?_
  refine .block ?_
  refine AWP.loop (G := { g : Nat × Nat × Nat // bis (pUp l a) g.2.2 g.1 g.2.1 = bis (pUp l a) (b - m + 1) m b ∧ m ≤ g.1 ∧ g.1 ≤ g.2.1 ∧ g.2.1 ≤ b ∧ g.2.1 - g.1 < g.2.2 }) (fun g => envOf [(0, .sl 0 14 0 n), (1, .N a), (4, .fn 91 []), (10, .N g.1.1), (11, .N g.1.2.1)]) (fun g => hpOf [(0, .arr false 14 (encF l))]) (fun _ => 1) (fun g => g.1.2.1 - g.1.1) ⟨(m, b, (b - m + 1)), (by dsimp only; exact ⟨rfl, by omega, by omega, by omega, by omega⟩)⟩ ALe.s ?_
  rintro ⟨⟨i, j, g⟩, hg⟩
  try dsimp only at hg
  obtain ⟨g1, g2, g3, g4, g5⟩ := hg
  refine .ws 1 [(0, .sl 0 14 0 n), (1, .N a), (4, .fn 91 []), (10, .N i), (11, .N j)] [(0, .arr false 14 (encF l))] <| .seq <| .seq <| .region <| .p (.move Z Z) <| .p (.move Z Z) <| .p (.ilss Z Z Z) <| .nil ?_
  by_cases p4 : ((i : Nat) : Int) < ((j : Nat) : Int)
  have h3 := decide_eq_true p4
  refine .cT Z h3 <| .skip <| .block <| .seq <| .region <| .p (.move Z Z) <| .p (.move Z Z) <| .p (.iadd (r := (((i + j) : Nat) : Int)) Z Z Z (wi (by omega) (by first | rfl | omega | (simp; done)))) ?_
  refine .p (.cint (r := (((i + j) : Nat) : Int)) us3 ut26 Z Z (by rw [IntWalk.u64_in _ (by omega)])) ?_
  refine .p (.iany (r := (((i + j) / 2 : Nat) : Int)) Z Z Z (binOp_shr1 _ _)) <| .p (.cint (r := ((((i + j) / 2) : Nat) : Int)) us26 ut3 Z Z (wi (by omega) Z)) ?_
  refine .p (.assign Z Z) <| .nil <| .seq <| .region_p fol an111_5 (by kernel_rfl) Z ?_
  refine .p [] (.move Z Z) <| .p [] (.move Z Z) <| .p [] (.move Z Z) <| .p [0] (.iaddr_sl0 ut33 sz72 Z Z Z Z (by first | omega | (simp only [List.length_set, swp_len]; omega) | (simp; omega)) (Option.some_ne_none _)) ?_
  refine .p [0] (.aloadN ag72 sz72 Z Z Z (encF_nth (by first | omega | (simp only [List.length_set, swp_len]; omega) | (simp; omega))) (nl Z)) ?_
  refine .p [] (.move Z Z) <| .p [] (.move Z Z) <| .p [0] (.iaddr_sl0 ut33 sz72 Z Z Z Z (by first | omega | (simp only [List.length_set, swp_len]; omega) | (simp; omega)) (Option.some_ne_none _)) ?_
  refine .p [0] (.aloadN ag72 sz72 Z Z Z (encF_nth (by first | omega | (simp only [List.length_set, swp_len]; omega) | (simp; omega))) (nl Z)) ?_
  refine .p [] (.call0 [] false (cmp91_spec (nthF l ((i + j) / 2)) (nthF l a)) Tryz.func91 (hv := by exact (.cons (.aggL (.same Z)) (.cons (.aggL (.same Z)) .nil)))) ?_
  refine .p [] (.ilss Z Z Z) <| .nil (by kernel_rfl) ?_
  by_cases p6 : (kCmp (nthF l ((i + j) / 2)).1 (nthF l a).1) < 0
  have h5 := decide_eq_true p6
  refine .cT Z h5 <| .region <| .p (.move Z Z) <| .p (.iadd (r := (((((i + j) / 2) + 1) : Nat) : Int)) Z Z Z (wi (by omega) (by first | rfl | omega | (simp; done)))) ?_
  refine .p (.assign Z Z) <| .nil ?_
  have hq : bis (pUp l a) (g - 1) (((i + j) / 2) + 1) j = bis (pUp l a) (b - m + 1) m b ∧ m ≤ (((i + j) / 2) + 1) ∧ (((i + j) / 2) + 1) ≤ j ∧ j ≤ b ∧ j - (((i + j) / 2) + 1) < (g - 1) := by
    obtain ⟨g, rfl⟩ : ∃ g1, g = g1 + 1 := ⟨g - 1, by omega⟩
    refine ⟨?_, by omega, by omega, by omega, by omega⟩
    rw [← g1]
    exact (bis_yes (by omega) (by simp [pUp]; omega)).symm
  exact ⟨⟨((((i + j) / 2) + 1), j, (g - 1)), hq⟩, (by simp; omega), ALe.s⟩
  have h5 := decide_eq_false p6
  refine .cF Z h5 <| .region <| .p (.move Z Z) <| .p (.assign Z Z) <| .nil ?_
  have hq : bis (pUp l a) (g - 1) i ((i + j) / 2) = bis (pUp l a) (b - m + 1) m b ∧ m ≤ i ∧ i ≤ ((i + j) / 2) ∧ ((i + j) / 2) ≤ b ∧ ((i + j) / 2) - i < (g - 1) := by
    obtain ⟨g, rfl⟩ : ∃ g1, g = g1 + 1 := ⟨g - 1, by omega⟩
    refine ⟨?_, by omega, by omega, by omega, by omega⟩
    rw [← g1]
    exact (bis_no (by omega) (by simp [pUp]; omega)).symm
  exact ⟨⟨(i, ((i + j) / 2), (g - 1)), hq⟩, (by simp; omega), ALe.s⟩
  have h3 := decide_eq_false p4
  refine .cF Z h3 ?_
  have hI : bis (pUp l a) (b - m + 1) m b = i := by rw [← g1]; exact bis_end (by omega)
  refine .exit <| .seq <| .seq <| .region <| .p (.move Z Z) <| .p (.assign Z Z) <| .nil <| .block ?_
  refine AWP.loop (G := { g : Nat × List Fl // a ≤ g.1 ∧ g.1 ≤ i - 1 ∧ (g.2).length = n ∧ upM (i - 1 - g.1) g.1 g.2 = symM (f + 1) a m b l }) (fun g => envOf [(0, .sl 0 14 0 n), (10, .N i), (13, .N g.1.1)]) (fun g => hpOf [(0, .arr false 14 (encF g.1.2))]) (fun _ => 1) (fun g => i - g.1.1) ⟨(a, l), (by dsimp only; exact ⟨by omega, by omega, hl, by rw [symM_A (by omega), hI]⟩)⟩ ALe.s ?_
  rintro ⟨⟨k, l1⟩, hg⟩
  try dsimp only at hg
  obtain ⟨q1, q2, q3, q4⟩ := hg
  refine .ws 1 [(0, .sl 0 14 0 n), (10, .N i), (13, .N k)] [(0, .arr false 14 (encF l1))] <| .seq <| .seq <| .region <| .p (.move Z Z) <| .p (.move Z Z) <| .p (.isub (r := (((i - 1) : Nat) : Int)) Z Z Z (wi (by omega) (by first | rfl | omega | (simp; done)))) ?_
  refine .p (.ilss Z Z Z) <| .nil ?_
  by_cases p8 : ((k : Nat) : Int) < (((i - 1) : Nat) : Int)
  have h7 := decide_eq_true p8
  refine .cT Z h7 <| .skip <| .seq <| .block <| .region_p fol an111_11 (by kernel_rfl) Z ?_
  refine .p [] (.move Z Z) <| .p [] (.move Z Z) <| .p [] (.move Z Z) <| .p [] (.move Z Z) <| .p [] (.iadd (r := (((k + 1) : Nat) : Int)) Z Z Z (wi (by omega) (by first | rfl | omega | (simp; done)))) ?_
  refine .p [] (.move Z Z) <| .p [] (.move Z Z) <| .p [] (.iadd (r := (((k + 1) : Nat) : Int)) Z Z Z (wi (by omega) (by first | rfl | omega | (simp; done)))) ?_
  refine .p [0] (.iaddr_sl0 ut33 sz72 Z Z Z Z (by first | omega | (simp only [List.length_set, swp_len]; omega) | (simp; omega)) (Option.some_ne_none _)) ?_
  refine .p [0] (.aloadN ag72 sz72 Z Z Z (encF_nth (by first | omega | (simp only [List.length_set, swp_len]; omega) | (simp; omega))) (nl Z)) ?_
  refine .p [] (.move Z Z) <| .p [] (.move Z Z) <| .p [0] (.iaddr_sl0 ut33 sz72 Z Z Z Z (by first | omega | (simp only [List.length_set, swp_len]; omega) | (simp; omega)) (Option.some_ne_none _)) ?_
  refine .p [0] (.aloadN ag72 sz72 Z Z Z (encF_nth (by first | omega | (simp only [List.length_set, swp_len]; omega) | (simp; omega))) (nl Z)) ?_
  refine .p [0] (.iaddr_sl0 ut33 sz72 Z Z Z Z (by first | omega | (simp only [List.length_set, swp_len]; omega) | (simp; omega)) (Option.some_ne_none _)) ?_
  refine .c 1 [0] (.astoreE (row := ([.S ((nthF l1 k).1)] ++ encX (nthF l1 k).2)) sz72 Z Z Z Z (encF_nth (by first | omega | (simp only [List.length_set, swp_len]; omega) | (simp; omega))) (notup Z) Z Z (nl Z) (encF_set _ _ (nthF l1 (k + 1)))) ?_
  refine .p [0] (.iaddr_sl0 ut33 sz72 Z Z Z Z (by first | omega | (simp only [List.length_set, swp_len]; omega) | (simp; omega)) (Option.some_ne_none _)) ?_
  refine .c 1 [0] (.astoreE (row := ([.S ((nthF (l1.set k (nthF l1 (k + 1))) (k + 1)).1)] ++ encX (nthF (l1.set k (nthF l1 (k + 1))) (k + 1)).2)) sz72 Z Z Z Z (encF_nth (by first | omega | (simp only [List.length_set, swp_len]; omega) | (simp; omega))) (notup Z) Z Z (nl Z) (encF_set _ _ (nthF l1 k))) ?_
  refine .nil (by kernel_rfl) ?_
  refine .region <| .p (.move Z Z) <| .p (.iadd (r := (((k + 1) : Nat) : Int)) Z Z Z (wi (by omega) (by first | rfl | omega | (simp; done)))) ?_
  refine .p (.assign Z Z) <| .nil ?_
  have hq : a ≤ (k + 1) ∧ (k + 1) ≤ i - 1 ∧ ((swp l1 k (k + 1))).length = n ∧ upM (i - 1 - (k + 1)) (k + 1) (swp l1 k (k + 1)) = symM (f + 1) a m b l := by
    refine ⟨by omega, by omega, by simpa using q3, ?_⟩
    rw [← q4, show i - 1 - k = (i - 1 - (k + 1)) + 1 by omega]; rfl
  exact ⟨⟨((k + 1), (swp l1 k (k + 1))), hq⟩, (by simp; omega), (ALe.of false [] 1
      _
      _
      (.cons rfl (.arr (by rfl)) .nil)
      (.cons rfl .slR (.s (.s .nil)))
      (by simp))⟩
  have h7 := decide_eq_false p8
  refine .cF Z h7 <| .exit <| .ret ?_
  have hd : symM (f + 1) a m b l = l1 := by
    rw [← q4, show i - 1 - k = 0 by omega]; rfl
  exact ⟨_, _, _, _, rfl, ALe.of false [] 1
      [(0, .tup [])]
      [(0, .arr false 14 (encF (symM (f + 1) a m b l)))]
      (.cons rfl (.arr (by rw [hd])) .nil)
      (.cons rfl (.tupL .nil) .nil)
      (by simp), rfl, rfl⟩
  have h1 := decide_eq_false p2
  refine .cF Z h1 <| .skip <| .seq <| .seq <| .region <| .p (.move Z Z) <| .p (.move Z Z) <| .p (.isub (r := (((b - m) : Nat) : Int)) Z Z Z (wi (by omega) (by first | rfl | omega | (simp; done)))) ?_
  refine .p (.ieql Z Z Z) <| .nil ?_
  by_cases p10 : (((b - m) : Nat) : Int) = 1
  have h9 := decide_eq_true p10
  refine .cT Z h9 <| .seq <| .region <| .p (.move Z Z) <| .p (.assign Z Z) <| .nil <| .seq <| .region <| .p (.move Z Z) <| .p (.assign Z Z) <| .nil <| .seq ?_
  refine .block ?_
  refine AWP.loop (G := { g : Nat × Nat × Nat // bis (pDn l m) g.2.2 g.1 g.2.1 = bis (pDn l m) (m - a + 1) a m ∧ a ≤ g.1 ∧ g.1 ≤ g.2.1 ∧ g.2.1 ≤ m ∧ g.2.1 - g.1 < g.2.2 }) (fun g => envOf [(0, .sl 0 14 0 n), (2, .N m), (4, .fn 91 []), (14, .N g.1.1), (15, .N g.1.2.1)]) (fun g => hpOf [(0, .arr false 14 (encF l))]) (fun _ => 1) (fun g => g.1.2.1 - g.1.1) ⟨(a, m, (m - a + 1)), (by dsimp only; exact ⟨rfl, by omega, by omega, by omega, by omega⟩)⟩ ALe.s ?_
  rintro ⟨⟨i, j, g⟩, hg⟩
  try dsimp only at hg
  obtain ⟨g1, g2, g3, g4, g5⟩ := hg
  refine .ws 1 [(0, .sl 0 14 0 n), (2, .N m), (4, .fn 91 []), (14, .N i), (15, .N j)] [(0, .arr false 14 (encF l))] <| .seq <| .seq <| .region <| .p (.move Z Z) <| .p (.move Z Z) <| .p (.ilss Z Z Z) <| .nil ?_
  by_cases p12 : ((i : Nat) : Int) < ((j : Nat) : Int)
  have h11 := decide_eq_true p12
  refine .cT Z h11 <| .skip <| .block <| .seq <| .region <| .p (.move Z Z) <| .p (.move Z Z) <| .p (.iadd (r := (((i + j) : Nat) : Int)) Z Z Z (wi (by omega) (by first | rfl | omega | (simp; done)))) ?_
  refine .p (.cint (r := (((i + j) : Nat) : Int)) us3 ut26 Z Z (by rw [IntWalk.u64_in _ (by omega)])) ?_
  refine .p (.iany (r := (((i + j) / 2 : Nat) : Int)) Z Z Z (binOp_shr1 _ _)) <| .p (.cint (r := ((((i + j) / 2) : Nat) : Int)) us26 ut3 Z Z (wi (by omega) Z)) ?_
  refine .p (.assign Z Z) <| .nil <| .seq <| .region_p fol an111_17 (by kernel_rfl) Z ?_
  refine .p [] (.move Z Z) <| .p [] (.move Z Z) <| .p [] (.move Z Z) <| .p [0] (.iaddr_sl0 ut33 sz72 Z Z Z Z (by first | omega | (simp only [List.length_set, swp_len]; omega) | (simp; omega)) (Option.some_ne_none _)) ?_
  refine .p [0] (.aloadN ag72 sz72 Z Z Z (encF_nth (by first | omega | (simp only [List.length_set, swp_len]; omega) | (simp; omega))) (nl Z)) ?_
  refine .p [] (.move Z Z) <| .p [] (.move Z Z) <| .p [0] (.iaddr_sl0 ut33 sz72 Z Z Z Z (by first | omega | (simp only [List.length_set, swp_len]; omega) | (simp; omega)) (Option.some_ne_none _)) ?_
  refine .p [0] (.aloadN ag72 sz72 Z Z Z (encF_nth (by first | omega | (simp only [List.length_set, swp_len]; omega) | (simp; omega))) (nl Z)) ?_
  refine .p [] (.call0 [] false (cmp91_spec (nthF l m) (nthF l ((i + j) / 2))) Tryz.func91 (hv := by exact (.cons (.aggL (.same Z)) (.cons (.aggL (.same Z)) .nil)))) ?_
  refine .p [] (.ilss Z Z Z) <| .p [] (.not Z Z) <| .nil (by kernel_rfl) ?_
  by_cases p14 : (kCmp (nthF l m).1 (nthF l ((i + j) / 2)).1) < 0
  have h13 := decide_eq_true p14
  refine .cF Z (bnot h13) <| .region <| .p (.move Z Z) <| .p (.assign Z Z) <| .nil ?_
  have hq : bis (pDn l m) (g - 1) i ((i + j) / 2) = bis (pDn l m) (m - a + 1) a m ∧ a ≤ i ∧ i ≤ ((i + j) / 2) ∧ ((i + j) / 2) ≤ m ∧ ((i + j) / 2) - i < (g - 1) := by
    obtain ⟨g, rfl⟩ : ∃ g1, g = g1 + 1 := ⟨g - 1, by omega⟩
    refine ⟨?_, by omega, by omega, by omega, by omega⟩
    rw [← g1]
    exact (bis_no (by omega) (by simp [pDn]; omega)).symm
  exact ⟨⟨(i, ((i + j) / 2), (g - 1)), hq⟩, (by simp; omega), ALe.s⟩
  have h13 := decide_eq_false p14
  refine .cT Z (bnot h13) <| .region <| .p (.move Z Z) <| .p (.iadd (r := (((((i + j) / 2) + 1) : Nat) : Int)) Z Z Z (wi (by omega) (by first | rfl | omega | (simp; done)))) ?_
  refine .p (.assign Z Z) <| .nil ?_
  have hq : bis (pDn l m) (g - 1) (((i + j) / 2) + 1) j = bis (pDn l m) (m - a + 1) a m ∧ a ≤ (((i + j) / 2) + 1) ∧ (((i + j) / 2) + 1) ≤ j ∧ j ≤ m ∧ j - (((i + j) / 2) + 1) < (g - 1) := by
    obtain ⟨g, rfl⟩ : ∃ g1, g = g1 + 1 := ⟨g - 1, by omega⟩
    refine ⟨?_, by omega, by omega, by omega, by omega⟩
    rw [← g1]
    exact (bis_yes (by omega) (by simp [pDn]; omega)).symm
  exact ⟨⟨((((i + j) / 2) + 1), j, (g - 1)), hq⟩, (by simp; omega), ALe.s⟩
  have h11 := decide_eq_false p12
  refine .cF Z h11 ?_
  have hI : bis (pDn l m) (m - a + 1) a m = i := by rw [← g1]; exact bis_end (by omega)
  refine .exit <| .seq <| .seq <| .region <| .p (.move Z Z) <| .p (.assign Z Z) <| .nil <| .block ?_
  refine AWP.loop (G := { g : Nat × List Fl // i ≤ g.1 ∧ g.1 ≤ m ∧ (g.2).length = n ∧ dnM (g.1 - i) g.1 g.2 = symM (f + 1) a m b l }) (fun g => envOf [(0, .sl 0 14 0 n), (14, .N i), (17, .N g.1.1)]) (fun g => hpOf [(0, .arr false 14 (encF g.1.2))]) (fun _ => 1) (fun g => g.1.1) ⟨(m, l), (by dsimp only; exact ⟨by omega, by omega, hl, by rw [symM_B (by omega) (by omega), hI]⟩)⟩ ALe.s ?_
  rintro ⟨⟨k, l1⟩, hg⟩
  try dsimp only at hg
  obtain ⟨q1, q2, q3, q4⟩ := hg
  refine .ws 1 [(0, .sl 0 14 0 n), (14, .N i), (17, .N k)] [(0, .arr false 14 (encF l1))] <| .seq <| .seq <| .region <| .p (.move Z Z) <| .p (.move Z Z) <| .p (.igtr Z Z Z) <| .nil ?_
  by_cases p16 : ((i : Nat) : Int) < ((k : Nat) : Int)
  have h15 := decide_eq_true p16
  refine .cT Z h15 <| .skip <| .seq <| .block <| .region_p fol an111_23 (by kernel_rfl) Z ?_
  refine .p [] (.move Z Z) <| .p [] (.move Z Z) <| .p [] (.move Z Z) <| .p [] (.move Z Z) <| .p [] (.isub (r := (((k - 1) : Nat) : Int)) Z Z Z (wi (by omega) (by first | rfl | omega | (simp; done)))) ?_
  refine .p [] (.move Z Z) <| .p [] (.move Z Z) <| .p [] (.isub (r := (((k - 1) : Nat) : Int)) Z Z Z (wi (by omega) (by first | rfl | omega | (simp; done)))) ?_
  refine .p [0] (.iaddr_sl0 ut33 sz72 Z Z Z Z (by first | omega | (simp only [List.length_set, swp_len]; omega) | (simp; omega)) (Option.some_ne_none _)) ?_
  refine .p [0] (.aloadN ag72 sz72 Z Z Z (encF_nth (by first | omega | (simp only [List.length_set, swp_len]; omega) | (simp; omega))) (nl Z)) ?_
  refine .p [] (.move Z Z) <| .p [] (.move Z Z) <| .p [0] (.iaddr_sl0 ut33 sz72 Z Z Z Z (by first | omega | (simp only [List.length_set, swp_len]; omega) | (simp; omega)) (Option.some_ne_none _)) ?_
  refine .p [0] (.aloadN ag72 sz72 Z Z Z (encF_nth (by first | omega | (simp only [List.length_set, swp_len]; omega) | (simp; omega))) (nl Z)) ?_
  refine .p [0] (.iaddr_sl0 ut33 sz72 Z Z Z Z (by first | omega | (simp only [List.length_set, swp_len]; omega) | (simp; omega)) (Option.some_ne_none _)) ?_
  refine .c 1 [0] (.astoreE (row := ([.S ((nthF l1 k).1)] ++ encX (nthF l1 k).2)) sz72 Z Z Z Z (encF_nth (by first | omega | (simp only [List.length_set, swp_len]; omega) | (simp; omega))) (notup Z) Z Z (nl Z) (encF_set _ _ (nthF l1 (k - 1)))) ?_
  refine .p [0] (.iaddr_sl0 ut33 sz72 Z Z Z Z (by first | omega | (simp only [List.length_set, swp_len]; omega) | (simp; omega)) (Option.some_ne_none _)) ?_
  refine .c 1 [0] (.astoreE (row := ([.S ((nthF (l1.set k (nthF l1 (k - 1))) (k - 1)).1)] ++ encX (nthF (l1.set k (nthF l1 (k - 1))) (k - 1)).2)) sz72 Z Z Z Z (encF_nth (by first | omega | (simp only [List.length_set, swp_len]; omega) | (simp; omega))) (notup Z) Z Z (nl Z) (encF_set _ _ (nthF l1 k))) ?_
  refine .nil (by kernel_rfl) ?_
  refine .region <| .p (.move Z Z) <| .p (.isub (r := (((k - 1) : Nat) : Int)) Z Z Z (wi (by omega) (by first | rfl | omega | (simp; done)))) ?_
  refine .p (.assign Z Z) <| .nil ?_
  have hq : i ≤ (k - 1) ∧ (k - 1) ≤ m ∧ ((swp l1 k (k - 1))).length = n ∧ dnM ((k - 1) - i) (k - 1) (swp l1 k (k - 1)) = symM (f + 1) a m b l := by
    refine ⟨by omega, by omega, by simpa using q3, ?_⟩
    rw [← q4, show k - i = (k - 1 - i) + 1 by omega]; rfl
  exact ⟨⟨((k - 1), (swp l1 k (k - 1))), hq⟩, (by simp; omega), (ALe.of false [] 1
      _
      _
      (.cons rfl (.arr (by rfl)) .nil)
      (.cons rfl .slR (.s (.s .nil)))
      (by simp))⟩
  have h15 := decide_eq_false p16
  refine .cF Z h15 <| .exit <| .ret ?_
  have hd : symM (f + 1) a m b l = l1 := by
    rw [← q4, show k - i = 0 by omega]; rfl
  exact ⟨_, _, _, _, rfl, ALe.of false [] 1
      [(0, .tup [])]
      [(0, .arr false 14 (encF (symM (f + 1) a m b l)))]
      (.cons rfl (.arr (by rw [hd])) .nil)
      (.cons rfl (.tupL .nil) .nil)
      (by simp), rfl, rfl⟩
  have h9 := decide_eq_false p10
  refine .cF Z h9 <| .skip <| .seq <| .region <| .p (.move Z Z) <| .p (.move Z Z) <| .p (.iadd (r := (((a + b) : Nat) : Int)) Z Z Z (wi (by omega) (by first | rfl | omega | (simp; done)))) ?_
  refine .p (.cint (r := (((a + b) : Nat) : Int)) us3 ut26 Z Z (by rw [IntWalk.u64_in _ (by omega)])) ?_
  refine .p (.iany (r := (((a + b) / 2 : Nat) : Int)) Z Z Z (binOp_shr1 _ _)) <| .p (.cint (r := ((((a + b) / 2) : Nat) : Int)) us26 ut3 Z Z (wi (by omega) Z)) ?_
  refine .p (.assign Z Z) <| .nil <| .seq <| .region <| .p (.move Z Z) <| .p (.move Z Z) <| .p (.iadd (r := (((((a + b) / 2) + m) : Nat) : Int)) Z Z Z (wi (by omega) (by first | rfl | omega | (simp; done)))) ?_
  refine .p (.assign Z Z) <| .nil <| .seq <| .region <| .p (.assign Z Z) <| .p (.assign Z Z) <| .nil ?_
  refine AWP.join (G := { g : Nat × Nat // g.1 = (if (a + b) / 2 < m then (a + b) / 2 + m - b else a) ∧ g.2 = (if (a + b) / 2 < m then (a + b) / 2 else m) }) (fun g => envOf [(0, .sl 0 14 0 n), (1, .N a), (2, .N m), (3, .N b), (4, .fn 91 []), (18, .N ((a + b) / 2)), (19, .N (((a + b) / 2) + m)), (20, .N g.1.1), (21, .N g.1.2)]) (fun g => hpOf [(0, .arr false 14 (encF l))]) (fun _ => 1) ?_ ?_
  refine .seq <| .region <| .p (.move Z Z) <| .p (.move Z Z) <| .p (.igtr Z Z Z) <| .nil ?_
  by_cases p18 : ((((a + b) / 2) : Nat) : Int) < ((m : Nat) : Int)
  have h17 := decide_eq_true p18
  refine .cT Z h17 <| .seq <| .region <| .p (.move Z Z) <| .p (.move Z Z) <| .p (.isub (r := ((((((a + b) / 2) + m) - b) : Nat) : Int)) Z Z Z (wi (by omega) (by first | rfl | omega | (simp; done)))) ?_
  refine .p (.assign Z Z) <| .nil <| .region <| .p (.move Z Z) <| .p (.assign Z Z) <| .nil ?_
  have hq : ((((a + b) / 2) + m) - b) = (if (a + b) / 2 < m then (a + b) / 2 + m - b else a) ∧ ((a + b) / 2) = (if (a + b) / 2 < m then (a + b) / 2 else m) := by
    first
      | exact ⟨(if_pos (by omega)).symm, (if_pos (by omega)).symm⟩
      | exact ⟨(if_neg (by omega)).symm, (if_neg (by omega)).symm⟩
  exact ⟨⟨(((((a + b) / 2) + m) - b), ((a + b) / 2)), hq⟩, ALe.s⟩
  have h17 := decide_eq_false p18
  refine .cF Z h17 <| .seq <| .region <| .p (.move Z Z) <| .p (.assign Z Z) <| .nil <| .region <| .p (.move Z Z) <| .p (.assign Z Z) <| .nil ?_
  have hq : a = (if (a + b) / 2 < m then (a + b) / 2 + m - b else a) ∧ m = (if (a + b) / 2 < m then (a + b) / 2 else m) := by
    first
      | exact ⟨(if_pos (by omega)).symm, (if_pos (by omega)).symm⟩
      | exact ⟨(if_neg (by omega)).symm, (if_neg (by omega)).symm⟩
  exact ⟨⟨(a, m), hq⟩, ALe.s⟩
  rintro ⟨⟨s0, r0⟩, hg⟩
  try dsimp only at hg
  obtain ⟨e1, e2⟩ := hg
  have e3 : s0 ≤ r0 ∧ (a + b) / 2 + m - s0 ≤ b ∧ r0 ≤ m ∧ r0 ≤ (a + b) / 2 ∧ a ≤ s0 := by
    rw [e1, e2]
    split <;> omega
  obtain ⟨e4, e5, e6, e7, e8⟩ := e3
  refine .ws 1 [(0, .sl 0 14 0 n), (1, .N a), (2, .N m), (3, .N b), (4, .fn 91 []), (18, .N ((a + b) / 2)), (19, .N (((a + b) / 2) + m)), (20, .N s0), (21, .N r0)] [(0, .arr false 14 (encF l))] <| .seq <| .region <| .p (.move Z Z) <| .p (.isub (r := ((((((a + b) / 2) + m) - 1) : Nat) : Int)) Z Z Z (wi (by omega) (by first | rfl | omega | (simp; done)))) ?_
  refine .p (.assign Z Z) <| .nil <| .seq <| .block ?_
  refine AWP.loop (G := { g : Nat × Nat × Nat // bis (pMid l ((a + b) / 2 + m - 1)) g.2.2 g.1 g.2.1 = symS a m b l ∧ s0 ≤ g.1 ∧ g.1 ≤ g.2.1 ∧ g.2.1 ≤ r0 ∧ g.2.1 - g.1 < g.2.2 }) (fun g => envOf [(0, .sl 0 14 0 n), (1, .N a), (2, .N m), (3, .N b), (4, .fn 91 []), (18, .N ((a + b) / 2)), (19, .N (((a + b) / 2) + m)), (20, .N g.1.1), (21, .N g.1.2.1), (22, .N ((((a + b) / 2) + m) - 1))]) (fun g => hpOf [(0, .arr false 14 (encF l))]) (fun _ => 1) (fun g => g.1.2.1 - g.1.1) ⟨(s0, r0, (r0 - s0 + 1)), (by dsimp only; exact ⟨by rw [e1, e2]; rfl, by omega, by omega, by omega, by omega⟩)⟩ ALe.s ?_
  rintro ⟨⟨i, j, g⟩, hg⟩
  try dsimp only at hg
  obtain ⟨g1, g2, g3, g4, g5⟩ := hg
  refine .ws 1 [(0, .sl 0 14 0 n), (1, .N a), (2, .N m), (3, .N b), (4, .fn 91 []), (18, .N ((a + b) / 2)), (19, .N (((a + b) / 2) + m)), (20, .N i), (21, .N j), (22, .N ((((a + b) / 2) + m) - 1))] [(0, .arr false 14 (encF l))] <| .seq <| .seq <| .region <| .p (.move Z Z) <| .p (.move Z Z) <| .p (.ilss Z Z Z) <| .nil ?_
  by_cases p20 : ((i : Nat) : Int) < ((j : Nat) : Int)
  have h19 := decide_eq_true p20
  refine .cT Z h19 <| .skip <| .block <| .seq <| .region <| .p (.move Z Z) <| .p (.move Z Z) <| .p (.iadd (r := (((i + j) : Nat) : Int)) Z Z Z (wi (by omega) (by first | rfl | omega | (simp; done)))) ?_
  refine .p (.cint (r := (((i + j) : Nat) : Int)) us3 ut26 Z Z (by rw [IntWalk.u64_in _ (by omega)])) ?_
  refine .p (.iany (r := (((i + j) / 2 : Nat) : Int)) Z Z Z (binOp_shr1 _ _)) <| .p (.cint (r := ((((i + j) / 2) : Nat) : Int)) us26 ut3 Z Z (wi (by omega) Z)) ?_
  refine .p (.assign Z Z) <| .nil <| .seq <| .region_p fol an111_35 (by kernel_rfl) Z ?_
  refine .p [] (.move Z Z) <| .p [] (.move Z Z) <| .p [] (.move Z Z) <| .p [] (.move Z Z) <| .p [] (.isub (r := (((((((a + b) / 2) + m) - 1) - ((i + j) / 2)) : Nat) : Int)) Z Z Z (wi (by omega) (by first | rfl | omega | (simp; done)))) ?_
  refine .p [0] (.iaddr_sl0 ut33 sz72 Z Z Z Z (by first | omega | (simp only [List.length_set, swp_len]; omega) | (simp; omega)) (Option.some_ne_none _)) ?_
  refine .p [0] (.aloadN ag72 sz72 Z Z Z (encF_nth (by first | omega | (simp only [List.length_set, swp_len]; omega) | (simp; omega))) (nl Z)) ?_
  refine .p [] (.move Z Z) <| .p [] (.move Z Z) <| .p [0] (.iaddr_sl0 ut33 sz72 Z Z Z Z (by first | omega | (simp only [List.length_set, swp_len]; omega) | (simp; omega)) (Option.some_ne_none _)) ?_
  refine .p [0] (.aloadN ag72 sz72 Z Z Z (encF_nth (by first | omega | (simp only [List.length_set, swp_len]; omega) | (simp; omega))) (nl Z)) ?_
  refine .p [] (.call0 [] false (cmp91_spec (nthF l (((((a + b) / 2) + m) - 1) - ((i + j) / 2))) (nthF l ((i + j) / 2))) Tryz.func91 (hv := by exact (.cons (.aggL (.same Z)) (.cons (.aggL (.same Z)) .nil)))) ?_
  refine .p [] (.ilss Z Z Z) <| .p [] (.not Z Z) <| .nil (by kernel_rfl) ?_
  by_cases p22 : (kCmp (nthF l (((((a + b) / 2) + m) - 1) - ((i + j) / 2))).1 (nthF l ((i + j) / 2)).1) < 0
  have h21 := decide_eq_true p22
  refine .cF Z (bnot h21) <| .region <| .p (.move Z Z) <| .p (.assign Z Z) <| .nil ?_
  have hq : bis (pMid l ((a + b) / 2 + m - 1)) (g - 1) i ((i + j) / 2) = symS a m b l ∧ s0 ≤ i ∧ i ≤ ((i + j) / 2) ∧ ((i + j) / 2) ≤ r0 ∧ ((i + j) / 2) - i < (g - 1) := by
    obtain ⟨g, rfl⟩ : ∃ g1, g = g1 + 1 := ⟨g - 1, by omega⟩
    refine ⟨?_, by omega, by omega, by omega, by omega⟩
    rw [← g1]
    exact (bis_no (by omega) (by simp [pMid]; omega)).symm
  exact ⟨⟨(i, ((i + j) / 2), (g - 1)), hq⟩, (by simp; omega), ALe.s⟩
  have h21 := decide_eq_false p22
  refine .cT Z (bnot h21) <| .region <| .p (.move Z Z) <| .p (.iadd (r := (((((i + j) / 2) + 1) : Nat) : Int)) Z Z Z (wi (by omega) (by first | rfl | omega | (simp; done)))) ?_
  refine .p (.assign Z Z) <| .nil ?_
  have hq : bis (pMid l ((a + b) / 2 + m - 1)) (g - 1) (((i + j) / 2) + 1) j = symS a m b l ∧ s0 ≤ (((i + j) / 2) + 1) ∧ (((i + j) / 2) + 1) ≤ j ∧ j ≤ r0 ∧ j - (((i + j) / 2) + 1) < (g - 1) := by
    obtain ⟨g, rfl⟩ : ∃ g1, g = g1 + 1 := ⟨g - 1, by omega⟩
    refine ⟨?_, by omega, by omega, by omega, by omega⟩
    rw [← g1]
    exact (bis_yes (by omega) (by simp [pMid]; omega)).symm
  exact ⟨⟨((((i + j) / 2) + 1), j, (g - 1)), hq⟩, (by simp; omega), ALe.s⟩
  have h19 := decide_eq_false p20
  refine .cF Z h19 ?_
  have hI : symS a m b l = i := by rw [← g1]; exact bis_end (by omega)
  refine .exit <| .seq <| .region <| .p (.move Z Z) <| .p (.move Z Z) <| .p (.isub (r := ((((((a + b) / 2) + m) - i) : Nat) : Int)) Z Z Z (wi (by omega) (by first | rfl | omega | (simp; done)))) ?_
  refine .p (.assign Z Z) <| .nil ?_
  refine AWP.join (G := { g : List Fl // g = symR m i ((a + b) / 2 + m - i) l ∧ (g).length = n }) (fun g => envOf [(0, .sl 0 14 0 n), (1, .N a), (3, .N b), (4, .fn 91 []), (18, .N ((a + b) / 2)), (20, .N i), (24, .N ((((a + b) / 2) + m) - i))]) (fun g => hpOf [(0, .arr false 14 (encF g.1))]) (fun _ => 1) ?_ ?_
  refine .seq <| .region <| .p (.move Z Z) <| .p (.move Z Z) <| .p (.ilss Z Z Z) <| .p (.move Z Z) ?_
  by_cases p24 : ((i : Nat) : Int) < ((m : Nat) : Int)
  have h23 := decide_eq_true p24
  refine .yT (.move Z Z) Z Z h23 <| .yT (.move Z Z) Z Z h23 <| .yT (.ilss Z Z Z) Z Z h23 <| .p (.pickE Z Z h23 Z) <| .nil ?_
  by_cases p26 : ((m : Nat) : Int) < ((((((a + b) / 2) + m) - i) : Nat) : Int)
  have h25 := decide_eq_true p26
  refine .cT Z h25 <| .region <| .p (.move Z Z) <| .p (.move Z Z) <| .p (.move Z Z) <| .p (.move Z Z) <| .p (.move Z Z) <| .c0 (.callN [0] [] false (rot_spec i m ((((a + b) / 2) + m) - i) n l (by first | assumption | (simp; done) | (simp; omega) | omega) (by first | omega | (simp; omega)) (by first | omega | (simp; omega)) (by first | omega | (simp; omega)) (by first | omega | (simp; omega))) Tryz.func117 (hc := by exact (.cons .nil Z Z Z (.arrE Z))) (hv := by exact (.cons (.sl (nl Z) Z Z) (.cons (.same Z) (.cons (.same Z) (.cons (.same Z) (.cons (.fnL (.same Z)) .nil))))))) ?_
  refine .nil ?_
  have hq : (rotM m (((((a + b) / 2) + m) - i) - i) (m - i) (((((a + b) / 2) + m) - i) - m) l) = symR m i ((a + b) / 2 + m - i) l ∧ ((rotM m (((((a + b) / 2) + m) - i) - i) (m - i) (((((a + b) / 2) + m) - i) - m) l)).length = n := by
    refine ⟨?_, (by first | assumption | (simp; done) | (simp; omega) | omega)⟩
    unfold symR
    first | exact (if_pos ⟨by omega, by omega⟩).symm | exact (if_neg (by omega)).symm
  exact ⟨⟨((rotM m (((((a + b) / 2) + m) - i) - i) (m - i) (((((a + b) / 2) + m) - i) - m) l)), hq⟩, ALe.s⟩
  have h25 := decide_eq_false p26
  refine .cF Z h25 <| .skip ?_
  have hq : l = symR m i ((a + b) / 2 + m - i) l ∧ (l).length = n := by
    refine ⟨?_, (by first | assumption | (simp; done) | (simp; omega) | omega)⟩
    unfold symR
    first | exact (if_pos ⟨by omega, by omega⟩).symm | exact (if_neg (by omega)).symm
  exact ⟨⟨(l), hq⟩, ALe.s⟩
  have h23 := decide_eq_false p24
  refine .nF Z Z h23 Z <| .nF Z Z h23 Z <| .nF Z Z h23 Z <| .p (.pickE Z Z h23 Z) <| .nil <| .cF Z Z <| .skip ?_
  have hq : l = symR m i ((a + b) / 2 + m - i) l ∧ (l).length = n := by
    refine ⟨?_, (by first | assumption | (simp; done) | (simp; omega) | omega)⟩
    unfold symR
    first | exact (if_pos ⟨by omega, by omega⟩).symm | exact (if_neg (by omega)).symm
  exact ⟨⟨(l), hq⟩, ALe.s⟩
  rintro ⟨l1, hg⟩
  try dsimp only at hg
  obtain ⟨y1, y2⟩ := hg
  refine .ws 1 [(0, .sl 0 14 0 n), (1, .N a), (3, .N b), (4, .fn 91 []), (18, .N ((a + b) / 2)), (20, .N i), (24, .N ((((a + b) / 2) + m) - i))] [(0, .arr false 14 (encF l1))] ?_
  refine AWP.join (G := { g : List Fl // g = (if a < i ∧ i < (a + b) / 2 then symM f a i ((a + b) / 2) l1 else l1) ∧ (g).length = n }) (fun g => envOf [(0, .sl 0 14 0 n), (3, .N b), (4, .fn 91 []), (18, .N ((a + b) / 2)), (24, .N ((((a + b) / 2) + m) - i))]) (fun g => hpOf [(0, .arr false 14 (encF g.1))]) (fun _ => 1) ?_ ?_
  refine .seq <| .region <| .p (.move Z Z) <| .p (.move Z Z) <| .p (.ilss Z Z Z) <| .p (.move Z Z) ?_
  by_cases p28 : ((a : Nat) : Int) < ((i : Nat) : Int)
  have h27 := decide_eq_true p28
  refine .yT (.move Z Z) Z Z h27 <| .yT (.move Z Z) Z Z h27 <| .yT (.ilss Z Z Z) Z Z h27 <| .p (.pickE Z Z h27 Z) <| .nil ?_
  by_cases p30 : ((i : Nat) : Int) < ((((a + b) / 2) : Nat) : Int)
  have h29 := decide_eq_true p30
  refine .cT Z h29 <| .region <| .p (.move Z Z) <| .p (.move Z Z) <| .p (.move Z Z) <| .p (.move Z Z) <| .p (.move Z Z) <| .c0 (.callN [0] [] false (ih a i ((a + b) / 2) l1 (by first | assumption | (simp; done) | (simp; omega) | omega) (by first | omega | (simp; omega)) (by first | omega | (simp; omega)) (by first | omega | (simp; omega)) (by first | omega | (simp; omega))) Tryz.func111 (hc := by exact (.cons .nil Z Z Z (.arrE Z))) (hv := by exact (.cons (.sl (nl Z) Z Z) (.cons (.same Z) (.cons (.same Z) (.cons (.same Z) (.cons (.fnL (.same Z)) .nil))))))) ?_
  refine .nil ?_
  have hq : (symM f a i ((a + b) / 2) l1) = (if a < i ∧ i < (a + b) / 2 then symM f a i ((a + b) / 2) l1 else l1) ∧ ((symM f a i ((a + b) / 2) l1)).length = n := by
    refine ⟨?_, (by first | assumption | (simp; done) | (simp; omega) | omega)⟩
    first | exact (if_pos ⟨by omega, by omega⟩).symm | exact (if_neg (by omega)).symm
  exact ⟨⟨((symM f a i ((a + b) / 2) l1)), hq⟩, ALe.s⟩
  have h29 := decide_eq_false p30
  refine .cF Z h29 <| .skip ?_
  have hq : l1 = (if a < i ∧ i < (a + b) / 2 then symM f a i ((a + b) / 2) l1 else l1) ∧ (l1).length = n := by
    refine ⟨?_, (by first | assumption | (simp; done) | (simp; omega) | omega)⟩
    first | exact (if_pos ⟨by omega, by omega⟩).symm | exact (if_neg (by omega)).symm
  exact ⟨⟨(l1), hq⟩, ALe.s⟩
  have h27 := decide_eq_false p28
  refine .nF Z Z h27 Z <| .nF Z Z h27 Z <| .nF Z Z h27 Z <| .p (.pickE Z Z h27 Z) <| .nil <| .cF Z Z <| .skip ?_
  have hq : l1 = (if a < i ∧ i < (a + b) / 2 then symM f a i ((a + b) / 2) l1 else l1) ∧ (l1).length = n := by
    refine ⟨?_, (by first | assumption | (simp; done) | (simp; omega) | omega)⟩
    first | exact (if_pos ⟨by omega, by omega⟩).symm | exact (if_neg (by omega)).symm
  exact ⟨⟨(l1), hq⟩, ALe.s⟩
  rintro ⟨l2, hg⟩
  try dsimp only at hg
  obtain ⟨z1, z2⟩ := hg
  refine .ws 1 [(0, .sl 0 14 0 n), (3, .N b), (4, .fn 91 []), (18, .N ((a + b) / 2)), (24, .N ((((a + b) / 2) + m) - i))] [(0, .arr false 14 (encF l2))] <| .seq <| .region <| .p (.move Z Z) <| .p (.move Z Z) <| .p (.ilss Z Z Z) <| .p (.move Z Z) ?_
  by_cases p32 : ((((a + b) / 2) : Nat) : Int) < ((((((a + b) / 2) + m) - i) : Nat) : Int)
  have h31 := decide_eq_true p32
  refine .yT (.move Z Z) Z Z h31 <| .yT (.move Z Z) Z Z h31 <| .yT (.ilss Z Z Z) Z Z h31 <| .p (.pickE Z Z h31 Z) <| .nil ?_
  by_cases p34 : ((((((a + b) / 2) + m) - i) : Nat) : Int) < ((b : Nat) : Int)
  have h33 := decide_eq_true p34
  refine .cT Z h33 <| .region <| .p (.move Z Z) <| .p (.move Z Z) <| .p (.move Z Z) <| .p (.move Z Z) <| .p (.move Z Z) <| .c0 (.callN [0] [] false (ih ((a + b) / 2) ((((a + b) / 2) + m) - i) b l2 (by first | assumption | (simp; done) | (simp; omega) | omega) (by first | omega | (simp; omega)) (by first | omega | (simp; omega)) (by first | omega | (simp; omega)) (by first | omega | (simp; omega))) Tryz.func111 (hc := by exact (.cons .nil Z Z Z (.arrE Z))) (hv := by exact (.cons (.sl (nl Z) Z Z) (.cons (.same Z) (.cons (.same Z) (.cons (.same Z) (.cons (.fnL (.same Z)) .nil))))))) ?_
  refine .nil ?_
  have hd : symM (f + 1) a m b l = (symM f ((a + b) / 2) ((((a + b) / 2) + m) - i) b l2) := by
    rw [symM_C (by omega) (by omega) hI y1 z1]; first | exact if_pos ⟨by omega, by omega⟩ | exact if_neg (by omega)
  exact ⟨_, _, _, _, rfl, ALe.of false [] 1
      [(0, .tup [])]
      [(0, .arr false 14 (encF (symM (f + 1) a m b l)))]
      (.cons rfl (.arr (by rw [hd])) .nil)
      (.cons rfl (.tupL .nil) .nil)
      (by simp), rfl, rfl⟩
  have h33 := decide_eq_false p34
  refine .cF Z h33 <| .skip ?_
  have hd : symM (f + 1) a m b l = l2 := by
    rw [symM_C (by omega) (by omega) hI y1 z1]; first | exact if_pos ⟨by omega, by omega⟩ | exact if_neg (by omega)
  exact ⟨_, _, _, _, rfl, ALe.of false [] 1
      [(0, .tup [])]
      [(0, .arr false 14 (encF (symM (f + 1) a m b l)))]
      (.cons rfl (.arr (by rw [hd])) .nil)
      (.cons rfl (.tupL .nil) .nil)
      (by simp), rfl, rfl⟩
  have h31 := decide_eq_false p32
  refine .nF Z Z h31 Z <| .nF Z Z h31 Z <| .nF Z Z h31 Z <| .p (.pickE Z Z h31 Z) <| .nil <| .cF Z Z <| .skip ?_
  have hd : symM (f + 1) a m b l = l2 := by
    rw [symM_C (by omega) (by omega) hI y1 z1]; first | exact if_pos ⟨by omega, by omega⟩ | exact if_neg (by omega)
  exact ⟨_, _, _, _, rfl, ALe.of false [] 1
      [(0, .tup [])]
      [(0, .arr false 14 (encF (symM (f + 1) a m b l)))]
      (.cons rfl (.arr (by rw [hd])) .nil)
      (.cons rfl (.tupL .nil) .nil)
      (by simp), rfl, rfl⟩
end Go.Abs
namespace Go.Abs
open Go.Proofs
set_option maxRecDepth 100000
set_option maxHeartbeats 8000000


theorem stab_spec (n : Nat) (l : List Fl) (hl : l.length = n) (hn : n ≤ 100000) : FSpec Tryz.prog 103 1 [.sl 0 14 0 n, .N n, .fn 91 []] (hpOf [(0, .arr false 14 (encF l))]) (fun r h => r = .tup [] ∧ h = hpOf [(0, .arr false 14 (encF (stabN n l)))]) := by
  refine FSpec.intro Tryz.func103 rfl (nl rfl) (nl rfl) fun s0 w0 hs0 hn0 => ?_
  refine .ws 1 [(0, .sl 0 14 0 n), (1, .N n), (2, .fn 91 [])] [(0, .arr false 14 (encF l))] <| .seq <| .region <| .p (.assign Z Z) <| .nil <| .seq <| .region <| .p (.move Z Z) <| .p (.assign Z Z) <| .p (.assign Z Z) <| .nil <| .seq ?_
  refine .block ?_
  refine AWP.loop (G := { g : Nat × Nat × List Fl // stab1 n g.2.1 g.1 g.2.2 = stab1 n (n + 1) 0 l ∧ g.1 ≤ n ∧ n - g.1 < g.2.1 ∧ (g.2.2).length = n }) (fun g => envOf [(0, .sl 0 14 0 n), (1, .N n), (2, .fn 91 []), (6, .I 20), (7, .N g.1.1), (8, .N (g.1.1 + 20))]) (fun g => hpOf [(0, .arr false 14 (encF g.1.2.2))]) (fun _ => 1) (fun g => n - g.1.1) ⟨(0, (n + 1), l), (by dsimp only; exact ⟨rfl, by omega, by omega, hl⟩)⟩ (ALe.of false [] 1
      _
      _
      (.cons rfl (.arr rfl) .nil)
      (.cons rfl .slR (.s (.cons rfl (.fnL .nil) (.s (.s (.cons rfl (.litE (by first | rfl | (simp; done))) .nil))))))
      (by simp)) ?_
  rintro ⟨⟨a, f, l1⟩, hg⟩
  try dsimp only at hg
  obtain ⟨g1, g2, g3, g4⟩ := hg
  refine .ws 1 [(0, .sl 0 14 0 n), (1, .N n), (2, .fn 91 []), (6, .I 20), (7, .N a), (8, .N (a + 20))] [(0, .arr false 14 (encF l1))] <| .seq <| .seq <| .region <| .p (.move Z Z) <| .p (.move Z Z) <| .p (.ileq Z Z Z) <| .nil ?_
  by_cases p2 : (((a + 20) : Nat) : Int) ≤ ((n : Nat) : Int)
  have h1 := decide_eq_true p2
  refine .cT Z h1 <| .skip <| .block <| .seq <| .region <| .p (.move Z Z) <| .p (.move Z Z) <| .p (.move Z Z) <| .p (.move Z Z) <| .c0 (.callN [0] [] false (ins_spec a (a + 20) n l1 (by first | assumption | (simp; done) | (simp; omega) | omega) (by first | omega | (simp; omega)) (by first | omega | (simp; omega)) (by first | omega | (simp; omega))) Tryz.func110 (hc := by exact (.cons .nil Z Z Z (.arrE Z))) (hv := by exact (.cons (.sl (nl Z) Z Z) (.cons (.same Z) (.cons (.same Z) (.cons (.fnL (.same Z)) .nil)))))) ?_
  refine .nil <| .seq <| .region <| .p (.move Z Z) <| .p (.assign Z Z) <| .nil <| .region <| .p (.move Z Z) <| .p (.move Z Z) <| .p (.iadd (r := ((((a + 20) + 20) : Nat) : Int)) Z Z Z (wi (by omega) (by first | rfl | omega | (simp; done)))) ?_
  refine .p (.assign Z Z) <| .nil ?_
  have hq : stab1 n (f - 1) (a + 20) (insM a (a + 20) l1) = stab1 n (n + 1) 0 l ∧ (a + 20) ≤ n ∧ n - (a + 20) < (f - 1) ∧ ((insM a (a + 20) l1)).length = n := by
    obtain ⟨f, rfl⟩ : ∃ f1, f = f1 + 1 := ⟨f - 1, by omega⟩
    refine ⟨?_, by omega, by omega, (by first | assumption | (simp; done) | (simp; omega) | omega)⟩
    rw [← g1]; exact (if_pos (by omega)).symm
  exact ⟨⟨((a + 20), (f - 1), (insM a (a + 20) l1)), hq⟩, (by simp; omega), ALe.s⟩
  have h1 := decide_eq_false p2
  refine .cF Z h1 ?_
  have hI : stab1 n (n + 1) 0 l = (a, l1) := by
    rw [← g1]
    cases f with
    | zero => rfl
    | succ f => exact if_neg (by omega)
  refine .exit <| .seq <| .region <| .p (.move Z Z) <| .p (.move Z Z) <| .p (.move Z Z) <| .p (.move Z Z) <| .c0 (.callN [0] [] false (ins_spec a n n l1 (by first | assumption | (simp; done) | (simp; omega) | omega) (by first | omega | (simp; omega)) (by first | omega | (simp; omega)) (by first | omega | (simp; omega))) Tryz.func110 (hc := by exact (.cons .nil Z Z Z (.arrE Z))) (hv := by exact (.cons (.sl (nl Z) Z Z) (.cons (.same Z) (.cons (.same Z) (.cons (.fnL (.same Z)) .nil)))))) ?_
  refine .nil <| .block ?_
  refine AWP.loop (G := { g : Nat × Nat × List Fl // stab2 n g.2.1 g.1 g.2.2 = stabN n l ∧ 20 ≤ g.1 ∧ g.1 ≤ 200000 ∧ n < g.2.1 + g.1 ∧ (g.2.2).length = n }) (fun g => envOf [(0, .sl 0 14 0 n), (1, .N n), (2, .fn 91 []), (6, .N g.1.1)]) (fun g => hpOf [(0, .arr false 14 (encF g.1.2.2))]) (fun _ => 1) (fun g => n - g.1.1) ⟨(20, (n + 1), (insM a n l1)), (by dsimp only; exact ⟨by rw [stabN, hI], by omega, by omega, by omega, (by first | assumption | (simp; done) | (simp; omega) | omega)⟩)⟩ ALe.s ?_
  rintro ⟨⟨bs, f, l2⟩, hg⟩
  try dsimp only at hg
  obtain ⟨k1, k2, k3, k4, k5⟩ := hg
  refine .ws 1 [(0, .sl 0 14 0 n), (1, .N n), (2, .fn 91 []), (6, .N bs)] [(0, .arr false 14 (encF l2))] <| .seq <| .seq <| .region <| .p (.move Z Z) <| .p (.move Z Z) <| .p (.ilss Z Z Z) <| .nil ?_
  by_cases p4 : ((bs : Nat) : Int) < ((n : Nat) : Int)
  have h3 := decide_eq_true p4
  refine .cT Z h3 <| .skip <| .block <| .seq <| .region <| .p (.move Z Z) <| .p (.imul (r := (((2 * bs) : Nat) : Int)) Z Z Z (wi (by omega) (by first | rfl | omega | (simp; done)))) ?_
  refine .p (.assign Z Z) <| .p (.assign Z Z) <| .nil <| .seq <| .block ?_
  refine AWP.loop (G := { g : Nat × Nat × List Fl // stab3 n bs g.2.1 g.1 g.2.2 = stab3 n bs (n + 1) 0 l2 ∧ g.1 ≤ n ∧ n - g.1 < g.2.1 ∧ (g.2.2).length = n }) (fun g => envOf [(0, .sl 0 14 0 n), (1, .N n), (2, .fn 91 []), (6, .N bs), (7, .N g.1.1), (8, .N (g.1.1 + (2 * bs)))]) (fun g => hpOf [(0, .arr false 14 (encF g.1.2.2))]) (fun _ => 1) (fun g => n - g.1.1) ⟨(0, (n + 1), l2), (by dsimp only; exact ⟨rfl, by omega, by omega, k5⟩)⟩ (ALe.of false [] 1
      _
      _
      (.cons rfl (.arr rfl) .nil)
      (.cons rfl .slR (.s (.cons rfl (.fnL .nil) (.s (.s (.cons rfl (.litE (by first | rfl | (simp; done))) .nil))))))
      (by simp)) ?_
  rintro ⟨⟨a, g, l3⟩, hg⟩
  try dsimp only at hg
  obtain ⟨q1, q2, q3, q4⟩ := hg
  refine .ws 1 [(0, .sl 0 14 0 n), (1, .N n), (2, .fn 91 []), (6, .N bs), (7, .N a), (8, .N (a + (2 * bs)))] [(0, .arr false 14 (encF l3))] <| .seq <| .seq <| .region <| .p (.move Z Z) <| .p (.move Z Z) <| .p (.ileq Z Z Z) <| .nil ?_
  by_cases p6 : (((a + (2 * bs)) : Nat) : Int) ≤ ((n : Nat) : Int)
  have h5 := decide_eq_true p6
  refine .cT Z h5 <| .skip <| .block <| .seq <| .region <| .p (.move Z Z) <| .p (.move Z Z) <| .p (.move Z Z) <| .p (.move Z Z) <| .p (.iadd (r := (((a + bs) : Nat) : Int)) Z Z Z (wi (by omega) (by first | rfl | omega | (simp; done)))) ?_
  refine .p (.move Z Z) <| .p (.move Z Z) <| .c0 (.callN [0] [] false (sym_spec n (by omega) ((a + (2 * bs)) - a) a (a + bs) (a + (2 * bs)) l3 (by first | assumption | (simp; done) | (simp; omega) | omega) (by first | omega | (simp; omega)) (by first | omega | (simp; omega)) (by first | omega | (simp; omega)) (by first | omega | (simp; omega))) Tryz.func111 (hc := by exact (.cons .nil Z Z Z (.arrE Z))) (hv := by exact (.cons (.sl (nl Z) Z Z) (.cons (.same Z) (.cons (.same Z) (.cons (.same Z) (.cons (.fnL (.same Z)) .nil))))))) ?_
  refine .nil <| .seq <| .region <| .p (.move Z Z) <| .p (.assign Z Z) <| .nil <| .region <| .p (.move Z Z) <| .p (.move Z Z) <| .p (.imul (r := (((2 * bs) : Nat) : Int)) Z Z Z (wi (by omega) (by first | rfl | omega | (simp; done)))) ?_
  refine .p (.iadd (r := ((((a + (2 * bs)) + (2 * bs)) : Nat) : Int)) Z Z Z (wi (by omega) (by first | rfl | omega | (simp; done)))) ?_
  refine .p (.assign Z Z) <| .nil ?_
  have hq : stab3 n bs (g - 1) (a + (2 * bs)) (symM ((a + (2 * bs)) - a) a (a + bs) (a + (2 * bs)) l3) = stab3 n bs (n + 1) 0 l2 ∧ (a + (2 * bs)) ≤ n ∧ n - (a + (2 * bs)) < (g - 1) ∧ ((symM ((a + (2 * bs)) - a) a (a + bs) (a + (2 * bs)) l3)).length = n := by
    obtain ⟨g, rfl⟩ : ∃ g1, g = g1 + 1 := ⟨g - 1, by omega⟩
    refine ⟨?_, by omega, by omega, (by first | assumption | (simp; done) | (simp; omega) | omega)⟩
    rw [← q1]; exact (if_pos (by omega)).symm
  exact ⟨⟨((a + (2 * bs)), (g - 1), (symM ((a + (2 * bs)) - a) a (a + bs) (a + (2 * bs)) l3)), hq⟩, (by simp; omega), ALe.s⟩
  have h5 := decide_eq_false p6
  refine .cF Z h5 ?_
  have hJ : stab3 n bs (n + 1) 0 l2 = (a, l3) := by
    rw [← q1]
    cases g with
    | zero => rfl
    | succ g => exact if_neg (by omega)
  refine .exit <| .seq <| .seq <| .region <| .p (.move Z Z) <| .p (.move Z Z) <| .p (.iadd (r := (((a + bs) : Nat) : Int)) Z Z Z (wi (by omega) (by first | rfl | omega | (simp; done)))) ?_
  refine .p (.assign Z Z) <| .nil <| .seq <| .region <| .p (.move Z Z) <| .p (.move Z Z) <| .p (.ilss Z Z Z) <| .nil ?_
  by_cases p8 : (((a + bs) : Nat) : Int) < ((n : Nat) : Int)
  have h7 := decide_eq_true p8
  refine .cT Z h7 <| .region <| .p (.move Z Z) <| .p (.move Z Z) <| .p (.move Z Z) <| .p (.move Z Z) <| .p (.move Z Z) <| .c0 (.callN [0] [] false (sym_spec n (by omega) (n - a) a (a + bs) n l3 (by first | assumption | (simp; done) | (simp; omega) | omega) (by first | omega | (simp; omega)) (by first | omega | (simp; omega)) (by first | omega | (simp; omega)) (by first | omega | (simp; omega))) Tryz.func111 (hc := by exact (.cons .nil Z Z Z (.arrE Z))) (hv := by exact (.cons (.sl (nl Z) Z Z) (.cons (.same Z) (.cons (.same Z) (.cons (.same Z) (.cons (.fnL (.same Z)) .nil))))))) ?_
  refine .nil <| .region <| .p (.move Z Z) <| .p (.imul (r := (((bs * 2) : Nat) : Int)) Z Z Z (wi (by omega) (by first | rfl | omega | (simp; done)))) ?_
  refine .p (.assign Z Z) <| .nil ?_
  have hq : stab2 n (f - 1) (bs * 2) (symM (n - a) a (a + bs) n l3) = stabN n l ∧ 20 ≤ (bs * 2) ∧ (bs * 2) ≤ 200000 ∧ n < (f - 1) + (bs * 2) ∧ ((symM (n - a) a (a + bs) n l3)).length = n := by
    obtain ⟨f, rfl⟩ : ∃ f1, f = f1 + 1 := ⟨f - 1, by omega⟩
    refine ⟨?_, by omega, by omega, by omega, (by first | assumption | (simp; done) | (simp; omega) | omega)⟩
    rw [← k1]; simp only [stab2]; rw [if_pos (by omega), hJ]; unfold stab4; (first | rw [if_pos (by omega)] | rw [if_neg (by omega)]); all_goals rfl
  exact ⟨⟨((bs * 2), (f - 1), (symM (n - a) a (a + bs) n l3)), hq⟩, (by simp; omega), ALe.s⟩
  have h7 := decide_eq_false p8
  refine .cF Z h7 <| .skip <| .region <| .p (.move Z Z) <| .p (.imul (r := (((bs * 2) : Nat) : Int)) Z Z Z (wi (by omega) (by first | rfl | omega | (simp; done)))) ?_
  refine .p (.assign Z Z) <| .nil ?_
  have hq : stab2 n (f - 1) (bs * 2) l3 = stabN n l ∧ 20 ≤ (bs * 2) ∧ (bs * 2) ≤ 200000 ∧ n < (f - 1) + (bs * 2) ∧ (l3).length = n := by
    obtain ⟨f, rfl⟩ : ∃ f1, f = f1 + 1 := ⟨f - 1, by omega⟩
    refine ⟨?_, by omega, by omega, by omega, (by first | assumption | (simp; done) | (simp; omega) | omega)⟩
    rw [← k1]; simp only [stab2]; rw [if_pos (by omega), hJ]; unfold stab4; (first | rw [if_pos (by omega)] | rw [if_neg (by omega)]); all_goals rfl
  exact ⟨⟨((bs * 2), (f - 1), l3), hq⟩, (by simp; omega), ALe.s⟩
  have h3 := decide_eq_false p4
  refine .cF Z h3 <| .exit ?_
  have hd : stabN n l = l2 := by
    rw [← k1]
    cases f with
    | zero => rfl
    | succ f => exact if_neg (by omega)
  exact ⟨_, _, _, _, rfl, ALe.of false [] 1
      [(0, .tup [])]
      [(0, .arr false 14 (encF (stabN n l)))]
      (.cons rfl (.arr (by rw [hd])) .nil)
      (.cons rfl (.tupL .nil) .nil)
      (by simp), rfl, rfl⟩

theorem sortS_spec (n : Nat) (l : List Fl) (hl : l.length = n) (hn : n ≤ 100000) : FSpec Tryz.prog 90 1 [.sl 0 14 0 n, .fn 91 []] (hpOf [(0, .arr false 14 (encF l))]) (fun r h => r = .tup [] ∧ h = hpOf [(0, .arr false 14 (encF (stabN n l)))]) := by
  refine FSpec.intro Tryz.func90 rfl (nl rfl) (nl rfl) fun s0 w0 hs0 hn0 => ?_
  refine .ws 1 [(0, .sl 0 14 0 n), (1, .fn 91 [])] [(0, .arr false 14 (encF l))] <| .region <| .p (.move Z Z) <| .p (.move Z Z) <| .p (.len_sl ut33 Z Z (Option.some_ne_none _)) <| .p (.move Z Z) <| .c0 (.callN [0] [] false (stab_spec n l (by first | assumption | (simp; done) | (simp; omega) | omega) (by omega)) Tryz.func103 (hc := by exact (.cons .nil Z Z Z (.arrE Z))) (hv := by exact (.cons (.sl (nl Z) Z Z) (.cons (.same Z) (.cons (.fnL (.same Z)) .nil))))) ?_
  refine .nil ?_
  exact ⟨_, _, _, _, rfl, ALe.s (l := [(0, .tup [])]) (m := [(0, .arr false 14 (encF (stabN n l)))]) (nx' := 1), rfl, rfl⟩
end Go.Abs
namespace Go.Abs
open Go.Proofs
set_option maxRecDepth 100000
set_option maxHeartbeats 8000000

def an73_6 : List Nat := [0, 0, 3, 7, 0, 0, 48, 112, 255]
theorem ag5 : isAggT Tryz.prog 5 = some false := by kernel_rfl
theorem ag48 : isAggT Tryz.prog 48 = some false := by kernel_rfl

theorem CloneF_spec (l : List Fl) (hl : l.length ≤ 100000) : FSpec Tryz.prog 89 0 [.ro 14 (encF l)] (hpOf []) (fun r h => r = .sl 0 14 0 l.length ∧ h = hpOf [(0, .arr false 14 (encF l))]) := by
  refine FSpec.intro Tryz.func89 rfl (nl rfl) (nl rfl) fun s0 w0 hs0 hn0 => ?_
  refine .ws 0 [(0, .ro 14 (encF l))] [] <| .seq <| .region <| .p (.assign Z Z) <| .nil <| .seq <| .seq <| .region <| .p (.move Z Z) ?_
  refine ASeq.nilCmp (av := .ro 14 (encF l)) ut33 (fun b1 hn2 => ?_)
  refine .nil ?_
  rcases Bool.eq_false_or_eq_true b1 with h3 | h3
  refine .cT Z h3 <| .seq <| .region <| .p (.assign Z Z) <| .nil <| .openNil 2 14 false <| .ret ?_
  exact ⟨_, _, _, _, rfl, ALe.of false [] 1
      [(0, .sl 0 14 0 l.length)]
      [(0, .arr false 14 (encF l))]
      (.cons rfl (.arr (by first | (simp; done) | (have h : AV.nilRows _ := ‹_ → AV.nilRows _› ‹_›; exact h.symm))) .nil)
      (.cons rfl (.slE (by first | (simp; done) | (have h : AV.nilRows _ := ‹_ → AV.nilRows _› ‹_›; have := congrArg List.length h; simpa using this.symm))) .nil)
      (by simp), rfl, rfl⟩
  refine .cF Z h3 <| .skip <| .seq <| .region <| .c1 (.buildEmpty 0 false ut33 sz72 Z) <| .p (.move Z Z) <| .c1 (.appendN (n2 := (0 + l.length)) 1 el33 Z Z Z Z (.ro Z Z) (by simp; omega) (by simp; omega) (by first | rfl | (simp; done) | (simp; omega))) ?_
  refine .p (.assign Z Z) <| .nil <| .ret ?_
  exact ⟨_, _, _, _, rfl, ALe.of false [(0, 1)] 1
      [(0, .sl 0 14 0 l.length)]
      [(0, .arr false 14 (encF l))]
      (.cons rfl (.arr (by first | (simp; done) | (have h : AV.nilRows _ := ‹_ → AV.nilRows _› ‹_›; exact h.symm))) .nil)
      (.cons rfl (.slE (by first | (simp; done) | (have h : AV.nilRows _ := ‹_ → AV.nilRows _› ‹_›; have := congrArg List.length h; simpa using this.symm))) .nil)
      (by simp), rfl, rfl⟩

theorem sorted_spec (v : T) (hv : v.fields.length ≤ 100000) : FSpec Tryz.prog 74 0 [.agg (encX v)] (hpOf []) (fun r h => r = .ro 14 (encF (stabM v.fields)) ∧ h = hpOf []) := by
  refine FSpec.intro Tryz.func74 rfl (nl rfl) (nl rfl) fun s0 w0 hs0 hn0 => ?_
  refine .ws 0 [(0, .agg (encX v))] [] <| .seq <| .region <| .c1 (.box 0 Z Z (notup Z)) <| .p (.assign Z Z) <| .nil <| .seq <| .region <| .p (.faddr fo35_7 Z Z) <| .p (.load1 ag33 Z Z Z Z) <| .c1 (.call0 [1] false (CloneF_spec v.fields (by omega)) Tryz.func89 (hv := by exact (.same Z))) ?_
  refine .p (.assign Z Z) <| .nil <| .seq <| .region <| .p (.move Z Z) <| .c0 (.callN [1] [] false (sortS_spec v.fields.length v.fields (by first | assumption | (simp; done) | (simp; omega) | omega) (by omega)) Tryz.func90 (hc := by exact (.cons .nil Z Z Z (.arrE Z))) (hv := by exact (.cons (.sl (nl Z) Z Z) (.cons (.fnL (.same Z)) .nil)))) ?_
  refine .nil <| .seq <| .region <| .p (.move Z Z) <| .p (.assign Z Z) <| .nil <| .ret ?_
  exact ⟨_, _, _, _, rfl, ALe.of false [] 0
      [(0, .ro 14 (encF (stabM v.fields)))]
      []
      .nil
      (.cons rfl (.freezeR (els := (encF (stabN v.fields.length v.fields))) (by simp) rfl) .nil)
      (by simp), rfl, rfl⟩

theorem EqB_spec (l m : List UInt8) (hl : l.length ≤ 100000) (hm : m.length ≤ 100000) : FSpec Tryz.prog 73 0 [.ro 1 (encB l), .ro 1 (encB m)] (hpOf []) (fun r h => r = .B (decide (l = m)) ∧ h = hpOf []) := by
  refine FSpec.intro Tryz.func73 rfl (nl rfl) (nl rfl) fun s0 w0 hs0 hn0 => ?_
  refine .ws 0 [(0, .ro 1 (encB l)), (1, .ro 1 (encB m))] [] <| .seq <| .region <| .p (.assign Z Z) <| .nil <| .seq <| .seq <| .region <| .p (.move Z Z) <| .p (.len_ro (n := l.length) ut31 Z (.inl Z) (by simp)) ?_
  refine .p (.move Z Z) <| .p (.len_ro (n := m.length) ut31 Z (.inl Z) (by simp)) ?_
  refine .p (.ineq Z Z Z) <| .nil ?_
  by_cases p2 : ((l.length : Nat) : Int) = ((m.length : Nat) : Int)
  have h1 := decide_eq_true p2
  refine .cF Z (bnot h1) <| .skip <| .seq <| .seq <| .region <| .p (.move Z Z) <| .p (.len_ro (n := l.length) ut31 Z (.inl Z) (by simp)) ?_
  refine .p (.move Z Z) <| .nil <| .block ?_
  refine AWP.loop (G := { g : Nat // g ≤ l.length ∧ ∀ j, j < g → byteAt l j = byteAt m j }) (fun g => envOf [(0, .ro 1 (encB l)), (1, .ro 1 (encB m)), (12, .N l.length), (13, .N g.1)]) (fun g => hpOf []) (fun _ => 0) (fun g => l.length - g.1) ⟨(0), ⟨Nat.zero_le _, by omega⟩⟩ ALe.s ?_
  rintro ⟨i, hg⟩
  try dsimp only at hg
  obtain ⟨g1, g2⟩ := hg
  refine .ws 0 [(0, .ro 1 (encB l)), (1, .ro 1 (encB m)), (12, .N l.length), (13, .N i)] [] <| .seq <| .region <| .p (.ilss Z Z Z) <| .nil <| .seq ?_
  by_cases p4 : ((i : Nat) : Int) < ((l.length : Nat) : Int)
  have h3 := decide_eq_true p4
  refine .cT Z h3 <| .skip <| .seq <| .block <| .seq <| .region <| .p (.move Z Z) <| .p (.assign Z Z) <| .nil <| .seq <| .region_p fol an73_6 (by kernel_rfl) Z ?_
  refine .p [] (.move Z Z) <| .p [] (.move Z Z) <| .p [] (.iaddr_ro (row := [.lit (.int .u8 (byteAt l i))]) ut31 sz5 Z Z Z Z (encB_nth (by omega))) ?_
  refine .p [] (.rload1 ag5 Z Z Z) <| .p [] (.move Z Z) <| .p [] (.move Z Z) <| .p [] (.iaddr_ro (row := [.lit (.int .u8 (byteAt m i))]) ut31 sz5 Z Z Z Z (encB_nth (by omega))) ?_
  refine .p [] (.rload1 ag5 Z Z Z) <| .p [] (.ineq Z Z Z) <| .nil (by kernel_rfl) ?_
  by_cases p6 : (byteAt l i) = (byteAt m i)
  have h5 := decide_eq_true p6
  refine .cF Z (bnot h5) <| .skip <| .region <| .p (.iadd (r := (((i + 1) : Nat) : Int)) Z Z Z (wi (by omega) (by first | rfl | omega | (simp; done)))) ?_
  refine .p (.move Z Z) <| .nil ?_
  have hq : (i + 1) ≤ l.length ∧ ∀ j, j < (i + 1) → byteAt l j = byteAt m j := by
    refine ⟨by omega, fun q hq => ?_⟩
    rcases Nat.lt_or_eq_of_le (Nat.le_of_lt_succ hq) with h | rfl
    · exact g2 q h
    · assumption
  exact ⟨⟨((i + 1)), hq⟩, (by simp; omega), ALe.s⟩
  have h5 := decide_eq_false p6
  refine .cT Z (bnot h5) <| .seq <| .region <| .p (.assign Z Z) <| .nil <| .ret ?_
  have hd : decide (l = m) = false := decide_eq_false (fun e => by subst e; simp_all)
  exact ⟨_, _, _, _, rfl, ALe.of false [] 0
      [(0, .B (decide (l = m)))]
      []
      .nil
      (.cons rfl (.litE (by rw [hd])) .nil)
      (by simp), rfl, rfl⟩
  have h3 := decide_eq_false p4
  refine .cF Z h3 <| .exit <| .seq <| .region <| .p (.assign Z Z) <| .nil <| .ret ?_
  have hd : decide (l = m) = true := decide_eq_true (byte_ext (by omega) fun q hq => g2 q (by omega))
  exact ⟨_, _, _, _, rfl, ALe.of false [] 0
      [(0, .B (decide (l = m)))]
      []
      .nil
      (.cons rfl (.litE (by rw [hd])) .nil)
      (by simp), rfl, rfl⟩
  have h1 := decide_eq_false p2
  refine .cT Z (bnot h1) <| .seq <| .region <| .p (.assign Z Z) <| .nil <| .ret ?_
  have hd : decide (l = m) = false := decide_eq_false (fun e => by subst e; simp_all)
  exact ⟨_, _, _, _, rfl, ALe.of false [] 0
      [(0, .B (decide (l = m)))]
      []
      .nil
      (.cons rfl (.litE (by rw [hd])) .nil)
      (by simp), rfl, rfl⟩

theorem same1_spec (x y : T) (left : Nat) (v : Bool) (h1 : 1 ≤ left) (h2 : left ≤ 65536) (ih : FSpec Tryz.prog 54 0 [.agg (encX x), .agg (encX y), .B false, .N (left - 1)] (hpOf []) (fun r h => r = .B v ∧ h = hpOf [])) : FSpec Tryz.prog 75 0 [.agg (encX x), .agg (encX y), .rp [.B false] 0, .rp [.N left] 0] (hpOf []) (fun r h => r = .B v ∧ h = hpOf []) := by
  refine FSpec.intro Tryz.func75 rfl (nl rfl) (nl rfl) fun s0 w0 hs0 hn0 => ?_
  refine .ws 0 [(0, .agg (encX x)), (1, .agg (encX y)), (2, .rp [.B false] 0), (3, .rp [.N left] 0)] [] <| .seq <| .region <| .c1 (.box 0 Z Z (notup Z)) <| .c1 (.box 1 Z Z (notup Z)) <| .p (.assign Z Z) <| .nil <| .seq <| .region <| .p (.loadN ag35 sz35 Z Z Z (nl Z)) <| .p (.loadN ag35 sz35 Z Z Z (nl Z)) <| .p (.rload1 ag4 Z Z Z) ?_
  refine .p (.rload1 ag3 Z Z Z) <| .p (.isub (r := (((left - 1) : Nat) : Int)) Z Z Z (wi (by omega) (by first | rfl | omega | (simp; done)))) ?_
  refine .p (.call0 [] false (ih ) Tryz.func54 (hv := by exact (.cons (.aggL (.same Z)) (.cons (.aggL (.same Z)) (.cons (.same Z) (.cons (.same Z) .nil)))))) ?_
  refine .p (.assign Z Z) <| .nil <| .ret ?_
  exact ⟨_, _, _, _, rfl, ALe.s (l := [(0, .B v)]) (m := []) (nx' := 0), rfl, rfl⟩

theorem eqFL_spec (f : T → T → Bool) (l m : List T) (left : Nat) (hl : l.length ≤ 100000) (hm : m.length ≤ 100000) (hf : ∀ x y, x ∈ l → y ∈ m → FSpec Tryz.prog 75 0 [.agg (encX x), .agg (encX y), .rp [.B false] 0, .rp [.N left] 0] (hpOf []) (fun r h => r = .B (f x y) ∧ h = hpOf [])) : FSpec Tryz.prog 76 0 [.ro 13 (encL l), .ro 13 (encL m), .fn 75 [.rp [.B false] 0, .rp [.N left] 0]] (hpOf []) (fun r h => r = .B (eqBy f l m) ∧ h = hpOf []) := by
  refine FSpec.intro Tryz.func76 rfl (nl rfl) (nl rfl) fun s0 w0 hs0 hn0 => ?_
  refine .ws 0 [(0, .ro 13 (encL l)), (1, .ro 13 (encL m)), (2, .fn 75 [.rp [.B false] 0, .rp [.N left] 0])] [] <| .seq <| .region <| .p (.assign Z Z) <| .nil <| .seq <| .seq <| .region <| .p (.move Z Z) <| .p (.len_ro (n := l.length) ut32 Z (.inl Z) (by simp)) ?_
  refine .p (.move Z Z) <| .p (.len_ro (n := m.length) ut32 Z (.inl Z) (by simp)) ?_
  refine .p (.ineq Z Z Z) <| .nil ?_
  by_cases p2 : ((l.length : Nat) : Int) = ((m.length : Nat) : Int)
  have h1 := decide_eq_true p2
  refine .cF Z (bnot h1) <| .skip <| .seq <| .seq <| .region <| .p (.move Z Z) <| .p (.len_ro (n := l.length) ut32 Z (.inl Z) (by simp)) ?_
  refine .p (.move Z Z) <| .nil <| .block ?_
  refine AWP.loop (G := { g : Nat // g ≤ l.length ∧ eqBy f (l.drop g) (m.drop g) = eqBy f l m }) (fun g => envOf [(1, .ro 13 (encL m)), (2, .fn 75 [.rp [.B false] 0, .rp [.N left] 0]), (15, .ro 13 (encL l)), (16, .N l.length), (17, .N g.1)]) (fun g => hpOf []) (fun _ => 0) (fun g => l.length - g.1) ⟨(0), ⟨Nat.zero_le _, rfl⟩⟩ ALe.s ?_
  rintro ⟨i, hg⟩
  try dsimp only at hg
  obtain ⟨g1, g2⟩ := hg
  refine .ws 0 [(1, .ro 13 (encL m)), (2, .fn 75 [.rp [.B false] 0, .rp [.N left] 0]), (15, .ro 13 (encL l)), (16, .N l.length), (17, .N i)] [] <| .seq <| .region <| .p (.ilss Z Z Z) <| .nil <| .seq ?_
  by_cases p4 : ((i : Nat) : Int) < ((l.length : Nat) : Int)
  have h3 := decide_eq_true p4
  refine .cT Z h3 <| .skip <| .seq <| .block <| .seq <| .region <| .p (.move Z Z) <| .p (.iaddr_ro (row := (encX (nthT l i))) ut32 sz35 Z Z Z Z (encL_nth (by omega))) ?_
  refine .p (.rloadN ag35 sz35 Z Z (nl Z)) <| .c1 (.alloc 0 Z zt35 Z) <| .p (.assign Z Z) <| .c0 (.store sz35 Z Z Z Z (notup Z) Z Z (nl Z)) <| .nil <| .seq <| .region <| .p (.move Z Z) <| .p (.move Z Z) <| .p (.iaddr_ro (row := (encX (nthT m i))) ut32 sz35 Z Z Z Z (encL_nth (by omega))) ?_
  refine .p (.rloadN ag35 sz35 Z Z (nl Z)) <| .c1 (.alloc 1 Z zt35 Z) <| .c0 (.store sz35 Z Z Z Z (notup Z) Z Z (nl Z)) <| .nil <| .seq <| .region <| .p (.move Z Z) <| .p (.loadN ag35 sz35 Z Z Z (nl Z)) <| .p (.loadN ag35 sz35 Z Z Z (nl Z)) <| .p (.call0 [] false (hf (nthT l i) (nthT m i) (nthT_mem (by omega)) (nthT_mem (by omega))) Tryz.func75 (hv := by exact (.cons (.aggL (.same Z)) (.cons (.aggL (.same Z)) (.cons (.same Z) (.cons (.same Z) .nil)))))) ?_
  refine .p (.not Z Z) <| .nil ?_
  rcases Bool.eq_false_or_eq_true (f (nthT l i) (nthT m i)) with h5 | h5
  refine .cF Z (bnot h5) <| .skip <| .region <| .p (.iadd (r := (((i + 1) : Nat) : Int)) Z Z Z (wi (by omega) (by first | rfl | omega | (simp; done)))) ?_
  refine .p (.move Z Z) <| .nil ?_
  have hq : (i + 1) ≤ l.length ∧ eqBy f (l.drop (i + 1)) (m.drop (i + 1)) = eqBy f l m := by
    refine ⟨by omega, ?_⟩
    rw [eqBy_nth (i := i) (by omega) (by omega), ‹f _ _ = true›] at g2
    simpa using g2
  exact ⟨⟨((i + 1)), hq⟩, (by simp; omega), ALe.s⟩
  refine .cT Z (bnot h5) <| .seq <| .region <| .p (.assign Z Z) <| .nil <| .ret ?_
  have hd : eqBy f l m = false := by rw [← g2, eqBy_nth (by omega) (by omega), ‹f _ _ = false›]; rfl
  exact ⟨_, _, _, _, rfl, ALe.of false [] 0
      [(0, .B (eqBy f l m))]
      []
      .nil
      (.cons rfl (.litE (by rw [hd])) .nil)
      (by simp), rfl, rfl⟩
  have h3 := decide_eq_false p4
  refine .cF Z h3 <| .exit <| .seq <| .region <| .p (.assign Z Z) <| .nil <| .ret ?_
  have hd : eqBy f l m = true := by rw [← g2]; exact eqBy_none (by omega) (by omega)
  exact ⟨_, _, _, _, rfl, ALe.of false [] 0
      [(0, .B (eqBy f l m))]
      []
      .nil
      (.cons rfl (.litE (by rw [hd])) .nil)
      (by simp), rfl, rfl⟩
  have h1 := decide_eq_false p2
  refine .cT Z (bnot h1) <| .seq <| .region <| .p (.assign Z Z) <| .nil <| .ret ?_
  have hd : eqBy f l m = false := by
      cases hb : eqBy f l m with
      | false => rfl
      | true => have := eqBy_len hb; omega
  exact ⟨_, _, _, _, rfl, ALe.of false [] 0
      [(0, .B (eqBy f l m))]
      []
      .nil
      (.cons rfl (.litE (by rw [hd])) .nil)
      (by simp), rfl, rfl⟩

theorem same2_spec (x y : Fl) (left : Nat) (v : Bool) (hf : FSpec Tryz.prog 75 0 [.agg (encX x.2), .agg (encX y.2), .rp [.B false] 0, .rp [.N left] 0] (hpOf []) (fun r h => r = .B v ∧ h = hpOf [])) : FSpec Tryz.prog 78 1 [.agg ([.S x.1] ++ encX x.2), .agg ([.S y.1] ++ encX y.2), .P 0] (hpOf [(0, .box [.fn 75 [.rp [.B false] 0, .rp [.N left] 0]])]) (fun r h => r = .B (decide (x.1 = y.1) && v) ∧ h = hpOf [(0, .box [.fn 75 [.rp [.B false] 0, .rp [.N left] 0]])]) := by
  refine FSpec.intro Tryz.func78 rfl (nl rfl) (nl rfl) fun s0 w0 hs0 hn0 => ?_
  refine .ws 1 [(0, .agg ([.S x.1] ++ encX x.2)), (1, .agg ([.S y.1] ++ encX y.2)), (2, .P 0)] [(0, .box [.fn 75 [.rp [.B false] 0, .rp [.N left] 0]])] <| .seq <| .region <| .c1 (.box 1 Z Z (notup Z)) <| .c1 (.box 2 Z Z (notup Z)) <| .p (.assign Z Z) <| .nil <| .seq <| .region <| .p (.faddr fo72_0 Z Z) <| .p (.load1 ag9 Z Z Z Z) <| .p (.faddr fo72_0 Z Z) ?_
  refine .p (.load1 ag9 Z Z Z Z) <| .p (.seql Z Z Z) <| .p (.move Z Z) ?_
  by_cases p2 : x.1 = y.1
  have h1 := decide_eq_true p2
  refine .yT (.load1 ag48 Z Z Z Z) Z Z h1 <| .yT (.faddr fo72_1 Z Z) Z Z h1 <| .yT (.loadN ag35 sz35 Z Z Z (nl Z)) Z Z h1 <| .yT (.faddr fo72_1 Z Z) Z Z h1 <| .yT (.loadN ag35 sz35 Z Z Z (nl Z)) Z Z h1 <| .yT (.call0 [] false (hf ) Tryz.func75 (hv := by exact (.cons (.aggL (.same Z)) (.cons (.aggL (.same Z)) (.cons (.same Z) (.cons (.same Z) .nil)))))) Z Z h1 ?_
  refine .p (.pickE Z Z h1 Z) <| .p (.assign Z Z) <| .nil <| .ret ?_
  exact ⟨_, _, _, _, rfl, ALe.of false [] 1
      [(0, .B (decide (x.1 = y.1) && v))]
      [(0, .box [.fn 75 [.rp [.B false] 0, .rp [.N left] 0]])]
      (.cons rfl (.boxL (.cons (.fnL (.cons (.same rfl) (.cons (.same rfl) .nil))) .nil)) .nil)
      (.cons rfl (.litE (by simp_all)) .nil)
      (by simp), rfl, rfl⟩
  have h1 := decide_eq_false p2
  refine .nF Z Z h1 Z <| .nF Z Z h1 Z <| .nF Z Z h1 Z <| .nF Z Z h1 Z <| .nF Z Z h1 Z <| .nF Z Z h1 Z <| .p (.pickE Z Z h1 Z) <| .p (.assign Z Z) <| .nil <| .ret ?_
  exact ⟨_, _, _, _, rfl, ALe.of false [] 1
      [(0, .B (decide (x.1 = y.1) && v))]
      [(0, .box [.fn 75 [.rp [.B false] 0, .rp [.N left] 0]])]
      (.cons rfl (.boxL (.cons (.fnL (.cons (.same rfl) (.cons (.same rfl) .nil))) .nil)) .nil)
      (.cons rfl (.litE (by simp_all)) .nil)
      (by simp), rfl, rfl⟩

theorem eqFF_spec (f : Fl → Fl → Bool) (l m : List Fl) (left : Nat) (hl : l.length ≤ 100000) (hm : m.length ≤ 100000) (hf : ∀ x y, x ∈ l → y ∈ m → FSpec Tryz.prog 78 1 [.agg ([.S x.1] ++ encX x.2), .agg ([.S y.1] ++ encX y.2), .P 0] (hpOf [(0, .box [.fn 75 [.rp [.B false] 0, .rp [.N left] 0]])]) (fun r h => r = .B (f x y) ∧ h = hpOf [(0, .box [.fn 75 [.rp [.B false] 0, .rp [.N left] 0]])])) : FSpec Tryz.prog 77 1 [.ro 14 (encF l), .ro 14 (encF m), .fn 78 [.P 0]] (hpOf [(0, .box [.fn 75 [.rp [.B false] 0, .rp [.N left] 0]])]) (fun r h => r = .B (eqBy f l m) ∧ h = hpOf [(0, .box [.fn 75 [.rp [.B false] 0, .rp [.N left] 0]])]) := by
  refine FSpec.intro Tryz.func77 rfl (nl rfl) (nl rfl) fun s0 w0 hs0 hn0 => ?_
  refine .ws 1 [(0, .ro 14 (encF l)), (1, .ro 14 (encF m)), (2, .fn 78 [.P 0])] [(0, .box [.fn 75 [.rp [.B false] 0, .rp [.N left] 0]])] <| .seq <| .region <| .p (.assign Z Z) <| .nil <| .seq <| .seq <| .region <| .p (.move Z Z) <| .p (.len_ro (n := l.length) ut33 Z (.inl Z) (by simp)) ?_
  refine .p (.move Z Z) <| .p (.len_ro (n := m.length) ut33 Z (.inl Z) (by simp)) ?_
  refine .p (.ineq Z Z Z) <| .nil ?_
  by_cases p2 : ((l.length : Nat) : Int) = ((m.length : Nat) : Int)
  have h1 := decide_eq_true p2
  refine .cF Z (bnot h1) <| .skip <| .seq <| .seq <| .region <| .p (.move Z Z) <| .p (.len_ro (n := l.length) ut33 Z (.inl Z) (by simp)) ?_
  refine .p (.move Z Z) <| .nil <| .block ?_
  refine AWP.loop (G := { g : Nat // g ≤ l.length ∧ eqBy f (l.drop g) (m.drop g) = eqBy f l m }) (fun g => envOf [(1, .ro 14 (encF m)), (2, .fn 78 [.P 0]), (15, .ro 14 (encF l)), (16, .N l.length), (17, .N g.1)]) (fun g => hpOf [(0, .box [.fn 75 [.rp [.B false] 0, .rp [.N left] 0]])]) (fun _ => 1) (fun g => l.length - g.1) ⟨(0), ⟨Nat.zero_le _, rfl⟩⟩ ALe.s ?_
  rintro ⟨i, hg⟩
  try dsimp only at hg
  obtain ⟨g1, g2⟩ := hg
  refine .ws 1 [(1, .ro 14 (encF m)), (2, .fn 78 [.P 0]), (15, .ro 14 (encF l)), (16, .N l.length), (17, .N i)] [(0, .box [.fn 75 [.rp [.B false] 0, .rp [.N left] 0]])] <| .seq <| .region <| .p (.ilss Z Z Z) <| .nil <| .seq ?_
  by_cases p4 : ((i : Nat) : Int) < ((l.length : Nat) : Int)
  have h3 := decide_eq_true p4
  refine .cT Z h3 <| .skip <| .seq <| .block <| .seq <| .region <| .p (.move Z Z) <| .p (.iaddr_ro (row := ([.S ((nthF l i).1)] ++ encX (nthF l i).2)) ut33 sz72 Z Z Z Z (encF_nth (by omega))) ?_
  refine .p (.rloadN ag72 sz72 Z Z (nl Z)) <| .c1 (.alloc 1 Z zt72 Z) <| .p (.assign Z Z) <| .c0 (.store sz72 Z Z Z Z (notup Z) Z Z (nl Z)) <| .nil <| .seq <| .region <| .p (.move Z Z) <| .p (.move Z Z) <| .p (.iaddr_ro (row := ([.S ((nthF m i).1)] ++ encX (nthF m i).2)) ut33 sz72 Z Z Z Z (encF_nth (by omega))) ?_
  refine .p (.rloadN ag72 sz72 Z Z (nl Z)) <| .c1 (.alloc 2 Z zt72 Z) <| .c0 (.store sz72 Z Z Z Z (notup Z) Z Z (nl Z)) <| .nil <| .seq <| .region <| .p (.move Z Z) <| .p (.loadN ag72 sz72 Z Z Z (nl Z)) <| .p (.loadN ag72 sz72 Z Z Z (nl Z)) <| .c0 (.callN [0] [] false (hf (nthF l i) (nthF m i) (nthF_mem (by omega)) (nthF_mem (by omega))) Tryz.func78 (hc := by exact (.cons .nil Z Z Z (.boxL (.cons (.fnL (.same Z)) .nil)))) (hv := by exact (.cons (.aggL (.same Z)) (.cons (.aggL (.same Z)) (.cons (.ptr (nl Z) Z) .nil))))) ?_
  refine .p (.not Z Z) <| .nil ?_
  rcases Bool.eq_false_or_eq_true (f (nthF l i) (nthF m i)) with h5 | h5
  refine .cF Z (bnot h5) <| .skip <| .region <| .p (.iadd (r := (((i + 1) : Nat) : Int)) Z Z Z (wi (by omega) (by first | rfl | omega | (simp; done)))) ?_
  refine .p (.move Z Z) <| .nil ?_
  have hq : (i + 1) ≤ l.length ∧ eqBy f (l.drop (i + 1)) (m.drop (i + 1)) = eqBy f l m := by
    refine ⟨by omega, ?_⟩
    rw [eqBy_nthF (i := i) (by omega) (by omega), ‹f _ _ = true›] at g2
    simpa using g2
  exact ⟨⟨((i + 1)), hq⟩, (by simp; omega), ALe.s⟩
  refine .cT Z (bnot h5) <| .seq <| .region <| .p (.assign Z Z) <| .nil <| .ret ?_
  have hd : eqBy f l m = false := by rw [← g2, eqBy_nthF (by omega) (by omega), ‹f _ _ = false›]; rfl
  exact ⟨_, _, _, _, rfl, ALe.of false [] 1
      [(0, .B (eqBy f l m))]
      [(0, .box [.fn 75 [.rp [.B false] 0, .rp [.N left] 0]])]
      (.cons rfl (.boxL (.cons (.fnL (.cons (.same rfl) (.cons (.same rfl) .nil))) .nil)) .nil)
      (.cons rfl (.litE (by rw [hd])) .nil)
      (by simp), rfl, rfl⟩
  have h3 := decide_eq_false p4
  refine .cF Z h3 <| .exit <| .seq <| .region <| .p (.assign Z Z) <| .nil <| .ret ?_
  have hd : eqBy f l m = true := by rw [← g2]; exact eqBy_none (by omega) (by omega)
  exact ⟨_, _, _, _, rfl, ALe.of false [] 1
      [(0, .B (eqBy f l m))]
      [(0, .box [.fn 75 [.rp [.B false] 0, .rp [.N left] 0]])]
      (.cons rfl (.boxL (.cons (.fnL (.cons (.same rfl) (.cons (.same rfl) .nil))) .nil)) .nil)
      (.cons rfl (.litE (by rw [hd])) .nil)
      (by simp), rfl, rfl⟩
  have h1 := decide_eq_false p2
  refine .cT Z (bnot h1) <| .seq <| .region <| .p (.assign Z Z) <| .nil <| .ret ?_
  have hd : eqBy f l m = false := by
      cases hb : eqBy f l m with
      | false => rfl
      | true => have := eqBy_len hb; omega
  exact ⟨_, _, _, _, rfl, ALe.of false [] 1
      [(0, .B (eqBy f l m))]
      [(0, .box [.fn 75 [.rp [.B false] 0, .rp [.N left] 0]])]
      (.cons rfl (.boxL (.cons (.fnL (.cons (.same rfl) (.cons (.same rfl) .nil))) .nil)) .nil)
      (.cons rfl (.litE (by rw [hd])) .nil)
      (by simp), rfl, rfl⟩
end Go.Abs
namespace Go.Abs
open Go.Proofs
set_option maxRecDepth 100000
set_option maxHeartbeats 8000000

def an54_3 : List Nat := [0, 1, 0, 4, 3, 31]
def an54_5 : List Nat := [0, 1, 0, 7, 15, 31]
def zv48 : Value := .nilFunc
theorem zt48 : (Tryz.prog.info? 48).bind (·.zero) = some zv48 := by kernel_rfl
theorem sz48 : (Tryz.prog.info? 48).map (·.size) = some 1 := by kernel_rfl

theorem same_spec : ∀ (d : Nat) (a b : T) (left : Nat), T.ok d a → T.ok d b → d ≤ left → left ≤ 65536 → FSpec Tryz.prog 54 0 [.agg (encX a), .agg (encX b), .B false, .N left] (hpOf []) (fun r h => r = .B (sameM d a b) ∧ h = hpOf []) := by
  intro d
  induction d with
  | zero => intro a b left h; exact absurd h id
  | succ d ih =>
  intro a b left ha hb h1 h2
  have ha1 := ha.1
  have hb1 := hb.1
  have ha2 := ha.2.1
  have hb2 := hb.2.1
  have ha3 := ha.2.2.1
  have hb3 := hb.2.2.1
  have hf75 : ∀ x y : T, T.ok d x → T.ok d y → FSpec Tryz.prog 75 0 [.agg (encX x), .agg (encX y), .rp [.B false] 0, .rp [.N left] 0] (hpOf []) (fun r h => r = .B (sameM d x y) ∧ h = hpOf []) := fun x y hx hy => same1_spec x y left _ (by omega) (by omega) (ih x y (left - 1) hx hy (by omega) (by omega))
  have hf78 : ∀ x y : Fl, T.ok d x.2 → T.ok d y.2 → FSpec Tryz.prog 78 1 [.agg ([.S x.1] ++ encX x.2), .agg ([.S y.1] ++ encX y.2), .P 0] (hpOf [(0, .box [.fn 75 [.rp [.B false] 0, .rp [.N left] 0]])]) (fun r h => r = .B (sameF d x y) ∧ h = hpOf [(0, .box [.fn 75 [.rp [.B false] 0, .rp [.N left] 0]])]) := fun x y hx hy => same2_spec x y left _ (hf75 x.2 y.2 hx hy)
  refine FSpec.intro Tryz.func54 rfl (nl rfl) (nl rfl) fun s0 w0 hs0 hn0 => ?_
  refine .ws 0 [(0, .agg (encX a)), (1, .agg (encX b)), (2, .B false), (3, .N left)] [] <| .seq <| .region <| .c1 (.box 0 Z Z (notup Z)) <| .c1 (.box 1 Z Z (notup Z)) <| .c1 (.box 2 Z Z (notup Z)) <| .c1 (.box 3 Z Z (notup Z)) <| .p (.assign Z Z) <| .nil <| .seq <| .seq <| .region ?_
  refine .p (.faddr fo35_0 Z Z) <| .p (.load1 ag3 Z Z Z Z) <| .p (.faddr fo35_0 Z Z) <| .p (.load1 ag3 Z Z Z Z) <| .p (.ineq Z Z Z) <| .p (.move Z Z) ?_
  by_cases p2 : a.kind = b.kind
  have h1 := decide_eq_true p2
  refine .yF (.faddr fo35_1 Z Z) Z Z (bnot h1) <| .yF (.load1 ag4 Z Z Z Z) Z Z (bnot h1) <| .yF (.faddr fo35_1 Z Z) Z Z (bnot h1) <| .yF (.load1 ag4 Z Z Z Z) Z Z (bnot h1) <| .yF (.bneq ut4 Z Z Z) Z Z (bnot h1) <| .p (.pickE Z Z (bnot h1) Z) <| .p (.move Z Z) ?_
  rcases Bool.eq_false_or_eq_true (a.b == b.b) with h3 | h3
  refine .yF (.faddr fo35_2 Z Z) Z Z (bnot h3) <| .yF (.loadN ag28 sz28 Z Z Z (nl Z)) Z Z (bnot h3) <| .yF (.faddr fo35_2 Z Z) Z Z (bnot h3) <| .yF (.loadN ag28 sz28 Z Z Z (nl Z)) Z Z (bnot h3) <| .yF (.fNe (xs := [.bool a.neg, .string a.digits, .int .i64 a.exp]) (ys := [.bool b.neg, .string b.digits, .int .i64 b.exp]) ft28 Z Z Z Z) Z Z (bnot h3) <| .p (.pickE Z Z (bnot h3) Z) <| .p (.move Z Z) ?_
  rcases Bool.eq_false_or_eq_true (eqVs [.bool a.neg, .string a.digits, .int .i64 a.exp] [.bool b.neg, .string b.digits, .int .i64 b.exp]) with h4 | h4
  refine .yF (.faddr fo35_3 Z Z) Z Z (bnot h4) <| .yF (.loadN ag30 sz30 Z Z Z (nl Z)) Z Z (bnot h4) <| .yF (.faddr fo35_3 Z Z) Z Z (bnot h4) <| .yF (.loadN ag30 sz30 Z Z Z (nl Z)) Z Z (bnot h4) <| .yF (.fNe (xs := [.int .i64 a.tk, .int .i64 a.td, .int .i64 a.tn, .int .i64 a.tz]) (ys := [.int .i64 b.tk, .int .i64 b.td, .int .i64 b.tn, .int .i64 b.tz]) ft30 Z Z Z Z) Z Z (bnot h4) <| .p (.pickE Z Z (bnot h4) Z) <| .p (.move Z Z) ?_
  rcases Bool.eq_false_or_eq_true (eqVs [.int .i64 a.tk, .int .i64 a.td, .int .i64 a.tn, .int .i64 a.tz] [.int .i64 b.tk, .int .i64 b.td, .int .i64 b.tn, .int .i64 b.tz]) with h5 | h5
  refine .yF (.faddr fo35_4 Z Z) Z Z (bnot h5) <| .yF (.load1 ag9 Z Z Z Z) Z Z (bnot h5) <| .yF (.faddr fo35_4 Z Z) Z Z (bnot h5) <| .yF (.load1 ag9 Z Z Z Z) Z Z (bnot h5) <| .yF (.sneq Z Z Z) Z Z (bnot h5) <| .p (.pickE Z Z (bnot h5) Z) <| .p (.move Z Z) ?_
  by_cases p7 : a.text = b.text
  have h6 := decide_eq_true p7
  refine .yF (.faddr fo35_5 Z Z) Z Z (bnot h6) <| .yF (.load1 ag31 Z Z Z Z) Z Z (bnot h6) <| .yF (.faddr fo35_5 Z Z) Z Z (bnot h6) <| .yF (.load1 ag31 Z Z Z Z) Z Z (bnot h6) <| .yF (.call0 [] false (EqB_spec a.bytes b.bytes (by assumption) (by assumption)) Tryz.func73 (hv := by exact (.same Z))) Z Z (bnot h6) ?_
  refine .yF (.not Z Z) Z Z (bnot h6) <| .p (.pickE Z Z (bnot h6) Z) <| .p (.move Z Z) ?_
  rcases Bool.eq_false_or_eq_true (decide (a.bytes = b.bytes)) with h8 | h8
  refine .yF (.load1 ag3 Z Z Z Z) Z Z (bnot h8) <| .yF (.ilss Z Z Z) Z Z (bnot h8) <| .p (.pickE Z Z (bnot h8) Z) <| .nil <| .ws 4 [(4, .P 0), (5, .P 1), (6, .P 2), (7, .P 3), (56, .B (decide (((left : Nat) : Int) < 1)))] [(0, .box (encX a)), (1, .box (encX b)), (2, .box [.B false]), (3, .box [.N left])] ?_
  have h9 : (decide (((left : Nat) : Int) < 1)) = false := decide_eq_false (by first | omega | (simp only [List.length_take, List.length_drop]; omega))
  refine .cF Z h9 <| .skip <| .seq <| .region_p fol an54_3 (by kernel_rfl) Z ?_
  refine .p [] (.faddr fo35_7 Z Z) <| .p [0] (.load1 ag33 Z Z Z Z) <| .p [] (.faddr fo35_7 Z Z) <| .p [1] (.load1 ag33 Z Z Z Z) <| .p [] (.assign Z Z) <| .p [] (.assign Z Z) <| .nil (by kernel_rfl) ?_
  refine .seq <| .seq <| .region <| .p (.load1 ag4 Z Z Z Z) <| .p (.not Z Z) <| .nil <| .cT Z Z <| .region_p fol an54_5 (by kernel_rfl) Z ?_
  refine .p [0] (.loadN ag35 sz35 Z Z Z (nl Z)) <| .p [] (.call0 [] false (sorted_spec a (by assumption)) Tryz.func74 (hv := by exact (.cons (.aggL (.same Z)) .nil))) ?_
  refine .p [1] (.loadN ag35 sz35 Z Z Z (nl Z)) <| .p [] (.call0 [] false (sorted_spec b (by assumption)) Tryz.func74 (hv := by exact (.cons (.aggL (.same Z)) .nil))) ?_
  refine .p [] (.assign Z Z) <| .p [] (.assign Z Z) <| .nil (by kernel_rfl) ?_
  refine AWP.weak false [] 4
      [(4, .P 0), (5, .P 1), (6, .rp [.B false] 0), (7, .rp [.N left] 0), (9, .ro 14 (encF (stabM a.fields))), (10, .ro 14 (encF (stabM b.fields)))]
      [(0, .box (encX a)), (1, .box (encX b))]
      (.cons rfl (.boxS rfl) (.cons rfl (.boxS rfl) .nil))
      (.cons rfl .ptrR (.cons rfl .ptrR (.cons rfl (.pfreezeL (.cons (.same rfl) .nil)) (.cons rfl (.pfreezeL (.cons (.same rfl) .nil)) (.s (.s .nil))))))
      (by simp) ?_
  refine .seq <| .region <| .p (.makeFunc Z Z) <| .c1 (.alloc 4 Z zt48 Z) <| .c0 (.store sz48 Z Z Z Z (notup Z) Z Z (nl Z)) <| .nil <| .seq <| .region <| .p (.faddr fo35_6 Z Z) <| .p (.load1 ag32 Z Z Z Z) <| .p (.faddr fo35_6 Z Z) <| .p (.load1 ag32 Z Z Z Z) ?_
  refine .p (.load1 ag48 Z Z Z Z) ?_
  refine ASeq.p (AOp.call0 [] false (eqFL_spec (sameM d) a.list b.list left (by omega) (by omega) (fun x y hx hy => hf75 x y (ha.2.2.2.1 x hx) (hb.2.2.2.1 y hy))) Tryz.func76 (hv := by exact (.cons (.same rfl) (.cons (.same rfl) (.cons (.fnL (.same rfl)) .nil))))) ?_
  refine .p (.move Z Z) ?_
  rcases Bool.eq_false_or_eq_true (eqBy (sameM d) a.list b.list) with h10 | h10
  refine .yT (.move Z Z) Z Z h10 <| .yT (.move Z Z) Z Z h10 <| .yT (.makeFunc Z Z) Z Z h10 ?_
  refine ASeq.yesC 5 (b := true) (AOp.callN [4] [] false (eqFF_spec (sameF d) (stabM a.fields) (stabM b.fields) left (by simp; omega) (by simp; omega) (fun x y hx hy => hf78 x y (ha.2.2.2.2 x ((stabM_perm _).mem_iff.1 hx)) (hb.2.2.2.2 y ((stabM_perm _).mem_iff.1 hy)))) Tryz.func77 (hc := by exact (.cons .nil rfl rfl rfl (.boxL (.cons (.fnL (.same rfl)) .nil)))) (hv := by exact (.cons (.same rfl) (.cons (.same rfl) (.cons (.fnL (.cons (.ptr (nl rfl) rfl) .nil)) .nil))))) rfl rfl h10 ?_
  refine .p (.pickE Z Z h10 Z) <| .p (.assign Z Z) <| .nil <| .ret ?_
  have hd : sameM (d + 1) a b = (eqBy (sameF d) (stabM a.fields) (stabM b.fields)) := by simp only [sameM]; simp_all [scalB, eqVs, eqV1]
  exact ⟨_, _, _, _, rfl, ALe.of false [] 0
      [(0, .B (sameM (d + 1) a b))]
      []
      .nil
      (.cons rfl (.litE (by rw [hd])) .nil)
      (by simp), rfl, rfl⟩
  refine .nF Z Z h10 Z <| .nF Z Z h10 Z <| .nF Z Z h10 Z <| .nF Z Z h10 Z <| .p (.pickE Z Z h10 Z) <| .p (.assign Z Z) <| .nil <| .ret ?_
  have hd : sameM (d + 1) a b = false := by simp only [sameM]; simp_all [scalB, eqVs, eqV1]
  exact ⟨_, _, _, _, rfl, ALe.of false [] 0
      [(0, .B (sameM (d + 1) a b))]
      []
      .nil
      (.cons rfl (.litE (by rw [hd])) .nil)
      (by simp), rfl, rfl⟩
  refine .nT Z Z (bnot h8) Z <| .nT Z Z (bnot h8) Z <| .p (.pickE Z Z (bnot h8) Z) <| .nil <| .ws 4 [(4, .P 0), (5, .P 1), (6, .P 2), (7, .P 3), (56, .B true)] [(0, .box (encX a)), (1, .box (encX b)), (2, .box [.B false]), (3, .box [.N left])] <| .cT Z Z <| .seq <| .region <| .p (.assign Z Z) <| .nil <| .ret ?_
  have hd : sameM (d + 1) a b = false := by simp only [sameM]; simp_all [scalB, eqVs, eqV1]
  exact ⟨_, _, _, _, rfl, ALe.of false [] 0
      [(0, .B (sameM (d + 1) a b))]
      []
      .nil
      (.cons rfl (.litE (by rw [hd])) .nil)
      (by simp), rfl, rfl⟩
  have h6 := decide_eq_false p7
  refine .nT Z Z (bnot h6) Z <| .nT Z Z (bnot h6) Z <| .nT Z Z (bnot h6) Z <| .nT Z Z (bnot h6) Z <| .nT Z Z (bnot h6) Z <| .nT Z Z (bnot h6) Z <| .p (.pickE Z Z (bnot h6) Z) <| .p (.move Z Z) <| .nT Z Z (Eq.refl true) Z <| .nT Z Z (Eq.refl true) Z <| .p (.pick Z Z Z) <| .nil ?_
  refine .ws 4 [(4, .P 0), (5, .P 1), (6, .P 2), (7, .P 3), (56, .B true)] [(0, .box (encX a)), (1, .box (encX b)), (2, .box [.B false]), (3, .box [.N left])] <| .cT Z Z <| .seq <| .region <| .p (.assign Z Z) <| .nil <| .ret ?_
  have hd : sameM (d + 1) a b = false := by simp only [sameM]; simp_all [scalB, eqVs, eqV1]
  exact ⟨_, _, _, _, rfl, ALe.of false [] 0
      [(0, .B (sameM (d + 1) a b))]
      []
      .nil
      (.cons rfl (.litE (by rw [hd])) .nil)
      (by simp), rfl, rfl⟩
  refine .nT Z Z (bnot h5) Z <| .nT Z Z (bnot h5) Z <| .nT Z Z (bnot h5) Z <| .nT Z Z (bnot h5) Z <| .nT Z Z (bnot h5) Z <| .p (.pickE Z Z (bnot h5) Z) <| .p (.move Z Z) <| .nT Z Z (Eq.refl true) Z <| .nT Z Z (Eq.refl true) Z <| .nT Z Z (Eq.refl true) Z <| .nT Z Z (Eq.refl true) Z <| .nT Z Z (Eq.refl true) Z ?_
  refine .nT Z Z (Eq.refl true) Z <| .p (.pick Z Z Z) <| .p (.move Z Z) <| .nT Z Z (Eq.refl true) Z <| .nT Z Z (Eq.refl true) Z <| .p (.pick Z Z Z) <| .nil <| .ws 4 [(4, .P 0), (5, .P 1), (6, .P 2), (7, .P 3), (56, .B true)] [(0, .box (encX a)), (1, .box (encX b)), (2, .box [.B false]), (3, .box [.N left])] <| .cT Z Z <| .seq <| .region <| .p (.assign Z Z) ?_
  refine .nil <| .ret ?_
  have hd : sameM (d + 1) a b = false := by simp only [sameM]; simp_all [scalB, eqVs, eqV1]
  exact ⟨_, _, _, _, rfl, ALe.of false [] 0
      [(0, .B (sameM (d + 1) a b))]
      []
      .nil
      (.cons rfl (.litE (by rw [hd])) .nil)
      (by simp), rfl, rfl⟩
  refine .nT Z Z (bnot h4) Z <| .nT Z Z (bnot h4) Z <| .nT Z Z (bnot h4) Z <| .nT Z Z (bnot h4) Z <| .nT Z Z (bnot h4) Z <| .p (.pickE Z Z (bnot h4) Z) <| .p (.move Z Z) <| .nT Z Z (Eq.refl true) Z <| .nT Z Z (Eq.refl true) Z <| .nT Z Z (Eq.refl true) Z <| .nT Z Z (Eq.refl true) Z <| .nT Z Z (Eq.refl true) Z ?_
  refine .p (.pick Z Z Z) <| .p (.move Z Z) <| .nT Z Z (Eq.refl true) Z <| .nT Z Z (Eq.refl true) Z <| .nT Z Z (Eq.refl true) Z <| .nT Z Z (Eq.refl true) Z <| .nT Z Z (Eq.refl true) Z <| .nT Z Z (Eq.refl true) Z <| .p (.pick Z Z Z) <| .p (.move Z Z) <| .nT Z Z (Eq.refl true) Z <| .nT Z Z (Eq.refl true) Z ?_
  refine .p (.pick Z Z Z) <| .nil <| .ws 4 [(4, .P 0), (5, .P 1), (6, .P 2), (7, .P 3), (56, .B true)] [(0, .box (encX a)), (1, .box (encX b)), (2, .box [.B false]), (3, .box [.N left])] <| .cT Z Z <| .seq <| .region <| .p (.assign Z Z) <| .nil <| .ret ?_
  have hd : sameM (d + 1) a b = false := by simp only [sameM]; simp_all [scalB, eqVs, eqV1]
  exact ⟨_, _, _, _, rfl, ALe.of false [] 0
      [(0, .B (sameM (d + 1) a b))]
      []
      .nil
      (.cons rfl (.litE (by rw [hd])) .nil)
      (by simp), rfl, rfl⟩
  refine .nT Z Z (bnot h3) Z <| .nT Z Z (bnot h3) Z <| .nT Z Z (bnot h3) Z <| .nT Z Z (bnot h3) Z <| .nT Z Z (bnot h3) Z <| .p (.pickE Z Z (bnot h3) Z) <| .p (.move Z Z) <| .nT Z Z (Eq.refl true) Z <| .nT Z Z (Eq.refl true) Z <| .nT Z Z (Eq.refl true) Z <| .nT Z Z (Eq.refl true) Z <| .nT Z Z (Eq.refl true) Z ?_
  refine .p (.pick Z Z Z) <| .p (.move Z Z) <| .nT Z Z (Eq.refl true) Z <| .nT Z Z (Eq.refl true) Z <| .nT Z Z (Eq.refl true) Z <| .nT Z Z (Eq.refl true) Z <| .nT Z Z (Eq.refl true) Z <| .p (.pick Z Z Z) <| .p (.move Z Z) <| .nT Z Z (Eq.refl true) Z <| .nT Z Z (Eq.refl true) Z <| .nT Z Z (Eq.refl true) Z ?_
  refine .nT Z Z (Eq.refl true) Z <| .nT Z Z (Eq.refl true) Z <| .nT Z Z (Eq.refl true) Z <| .p (.pick Z Z Z) <| .p (.move Z Z) <| .nT Z Z (Eq.refl true) Z <| .nT Z Z (Eq.refl true) Z <| .p (.pick Z Z Z) <| .nil <| .ws 4 [(4, .P 0), (5, .P 1), (6, .P 2), (7, .P 3), (56, .B true)] [(0, .box (encX a)), (1, .box (encX b)), (2, .box [.B false]), (3, .box [.N left])] <| .cT Z Z <| .seq ?_
  refine .region <| .p (.assign Z Z) <| .nil <| .ret ?_
  have hd : sameM (d + 1) a b = false := by simp only [sameM]; simp_all [scalB, eqVs, eqV1]
  exact ⟨_, _, _, _, rfl, ALe.of false [] 0
      [(0, .B (sameM (d + 1) a b))]
      []
      .nil
      (.cons rfl (.litE (by rw [hd])) .nil)
      (by simp), rfl, rfl⟩
  have h1 := decide_eq_false p2
  refine .nT Z Z (bnot h1) Z <| .nT Z Z (bnot h1) Z <| .nT Z Z (bnot h1) Z <| .nT Z Z (bnot h1) Z <| .nT Z Z (bnot h1) Z <| .p (.pickE Z Z (bnot h1) Z) <| .p (.move Z Z) <| .nT Z Z (Eq.refl true) Z <| .nT Z Z (Eq.refl true) Z <| .nT Z Z (Eq.refl true) Z <| .nT Z Z (Eq.refl true) Z <| .nT Z Z (Eq.refl true) Z ?_
  refine .p (.pick Z Z Z) <| .p (.move Z Z) <| .nT Z Z (Eq.refl true) Z <| .nT Z Z (Eq.refl true) Z <| .nT Z Z (Eq.refl true) Z <| .nT Z Z (Eq.refl true) Z <| .nT Z Z (Eq.refl true) Z <| .p (.pick Z Z Z) <| .p (.move Z Z) <| .nT Z Z (Eq.refl true) Z <| .nT Z Z (Eq.refl true) Z <| .nT Z Z (Eq.refl true) Z ?_
  refine .nT Z Z (Eq.refl true) Z <| .nT Z Z (Eq.refl true) Z <| .p (.pick Z Z Z) <| .p (.move Z Z) <| .nT Z Z (Eq.refl true) Z <| .nT Z Z (Eq.refl true) Z <| .nT Z Z (Eq.refl true) Z <| .nT Z Z (Eq.refl true) Z <| .nT Z Z (Eq.refl true) Z <| .nT Z Z (Eq.refl true) Z <| .p (.pick Z Z Z) <| .p (.move Z Z) ?_
  refine .nT Z Z (Eq.refl true) Z <| .nT Z Z (Eq.refl true) Z <| .p (.pick Z Z Z) <| .nil <| .ws 4 [(4, .P 0), (5, .P 1), (6, .P 2), (7, .P 3), (56, .B true)] [(0, .box (encX a)), (1, .box (encX b)), (2, .box [.B false]), (3, .box [.N left])] <| .cT Z Z <| .seq <| .region <| .p (.assign Z Z) <| .nil <| .ret ?_
  have hd : sameM (d + 1) a b = false := by simp only [sameM]; simp_all [scalB, eqVs, eqV1]
  exact ⟨_, _, _, _, rfl, ALe.of false [] 0
      [(0, .B (sameM (d + 1) a b))]
      []
      .nil
      (.cons rfl (.litE (by rw [hd])) .nil)
      (by simp), rfl, rfl⟩

theorem Equal_spec (a b : T) (ha : a.fit) (hb : b.fit) : FSpec Tryz.prog 30 0 [.agg (encX a), .agg (encX b)] (hpOf []) (fun r h => r = .B (sameM 1000 a b) ∧ h = hpOf []) := by
  refine FSpec.intro Tryz.func30 rfl (nl rfl) (nl rfl) fun s0 w0 hs0 hn0 => ?_
  refine .ws 0 [(0, .agg (encX a)), (1, .agg (encX b))] [] <| .seq <| .region <| .c1 (.box 0 Z Z (notup Z)) <| .c1 (.box 1 Z Z (notup Z)) <| .p (.assign Z Z) <| .nil <| .seq <| .region <| .p (.loadN ag35 sz35 Z Z Z (nl Z)) <| .p (.loadN ag35 sz35 Z Z Z (nl Z)) <| .p (.call0 [] false (same_spec 1000 a b 65536 (by assumption) (by assumption) (by omega) (by omega)) Tryz.func54 (hv := by exact (.cons (.aggL (.same Z)) (.cons (.aggL (.same Z)) (.cons (.same Z) (.cons (.same Z) .nil)))))) ?_
  refine .p (.assign Z Z) <| .nil <| .ret ?_
  exact ⟨_, _, _, _, rfl, ALe.s (l := [(0, .B (sameM 1000 a b))]) (m := []) (nx' := 0), rfl, rfl⟩
end Go.Abs
namespace Go.Abs
open Go.Proofs
set_option maxRecDepth 100000
set_option maxHeartbeats 8000000

def Btw23 (d : Nat) : Prop := ∀ (l : List Chg) (p : List Stp) (a b : T), a.fit → b.fit → T.pl d a → T.pl d b → p.length + d ≤ 10000 → (btwM d l p a b).length ≤ 100000 →
  FSpec Tryz.prog 23 1 [.sl 0 29 0 l.length, .ro 3 (rowsOf Stp.cells p), .agg (encX a), .agg (encX b)] (hpOf [(0, .arr false 29 (rowsOf Chg.cells l))]) (fun r h => r = .sl 1 29 0 (btwM d l p a b).length ∧ h = hpOf [(1, .arr false 29 (rowsOf Chg.cells (btwM d l p a b)))])

def an39_6 : List Nat := [0, 0, 0, 4, 12, 30, 0, 64, 0, 511, 1023]
def an39_14 : List Nat := [0, 0, 0, 4, 12, 30, 0, 0, 192, 0, 512, 1598, 4094, 8190, 16383, 32767]
theorem pl78 : placesOf Tryz.prog 78 = some [(0, 1), (1, 1), (2, 1), (3, 13), (16, 13)] := by kernel_rfl
theorem el38 : ElT Tryz.prog 38 78 29 376 := ⟨by kernel_rfl, by kernel_rfl, by decide⟩
def an39_23 : List Nat := [0, 0, 0, 4, 12, 30, 0, 0, 128, 446, 1022, 2046, 4095, 8191]

theorem maps_spec (d : Nat) (ih : Btw23 d) (l : List Chg) (p : List Stp) (a b : T) (ha : a.fit) (hb : b.fit) (hpa : T.pl (d + 1) a) (hpb : T.pl (d + 1) b) (hp : p.length + d + 1 ≤ 10000) (hB : (mapsM (btwM d) l p a b).length ≤ 100000) (ha7 : a.kind = 7) (hb7 : b.kind = 7) : FSpec Tryz.prog 39 1 [.sl 0 29 0 l.length, .ro 3 (rowsOf Stp.cells p), .agg (encX a), .agg (encX b)] (hpOf [(0, .arr false 29 (rowsOf Chg.cells l))]) (fun r h => r = .sl 1 29 0 (mapsM (btwM d) l p a b).length ∧ h = hpOf [(1, .arr false 29 (rowsOf Chg.cells (mapsM (btwM d) l p a b)))]) := by
  have hfa := ha.2.2.1
  have hfb := hb.2.2.1
  have hG2 : (mp1 (btwM d) p b.fields a.fields l).length ≤ 100000 := Nat.le_trans (Nat.le_trans (mp2_grows p b.fields a.fields 0 0 _).1 (mp3_grows p a.fields b.fields _ _)) hB
  have hG3 : (mp2 p b.fields a.fields 0 0 (mp1 (btwM d) p b.fields a.fields l)).2.length ≤ 100000 := Nat.le_trans (mp3_grows p a.fields b.fields _ _) hB
  refine FSpec.intro Tryz.func39 rfl (nl rfl) (nl rfl) fun s0 w0 hs0 hn0 => ?_
  refine .ws 1 [(0, .sl 0 29 0 l.length), (1, .ro 3 (rowsOf Stp.cells p)), (2, .agg (encX a)), (3, .agg (encX b))] [(0, .arr false 29 (rowsOf Chg.cells l))] <| .seq <| .region <| .c1 (.box 1 Z Z (notup Z)) <| .c1 (.box 2 Z Z (notup Z)) <| .p (.assign Z Z) <| .nil <| .seq <| .seq <| .region <| .p (.faddr fo35_7 Z Z) <| .p (.load1 ag33 Z Z Z Z) ?_
  refine .p (.len_ro (n := a.fields.length) ut33 Z (.inl Z) (by simp)) ?_
  refine .p (.move Z Z) <| .nil <| .block ?_
  refine AWP.loop (G := { g : Nat × List Chg // g.1 ≤ a.fields.length ∧ mp1 (btwM d) p b.fields (a.fields.drop g.1) g.2 = mp1 (btwM d) p b.fields a.fields l }) (fun g => envOf [(0, .sl 9 29 0 g.1.2.length), (1, .ro 3 (rowsOf Stp.cells p)), (6, .P 1), (7, .P 2), (24, .ro 14 (encF a.fields)), (25, .N a.fields.length), (26, .N g.1.1)]) (fun g => hpOf [(1, .box (encX a)), (2, .box (encX b)), (9, .arr false 29 (rowsOf Chg.cells g.1.2))]) (fun _ => 10) (fun g => a.fields.length - g.1.1) ⟨(0, l), ⟨Nat.zero_le _, rfl⟩⟩ (ALe.of false [(9, 0)] 10
      _
      _
      (.cons rfl (.boxS rfl) (.cons rfl (.boxS rfl) (.cons rfl (.arr rfl) .nil)))
      (.cons rfl .slR (.s (.cons rfl .ptrR (.cons rfl .ptrR (.s (.s (.s .nil)))))))
      (by simp)) ?_
  rintro ⟨⟨i, l1⟩, hg⟩
  try dsimp only at hg
  obtain ⟨g1, g2⟩ := hg
  refine .ws 10 [(0, .sl 9 29 0 l1.length), (1, .ro 3 (rowsOf Stp.cells p)), (6, .P 1), (7, .P 2), (24, .ro 14 (encF a.fields)), (25, .N a.fields.length), (26, .N i)] [(1, .box (encX a)), (2, .box (encX b)), (9, .arr false 29 (rowsOf Chg.cells l1))] <| .seq <| .region <| .p (.ilss Z Z Z) <| .nil <| .seq ?_
  by_cases p2 : ((i : Nat) : Int) < ((a.fields.length : Nat) : Int)
  have h1 := decide_eq_true p2
  refine .cT Z h1 <| .skip <| .seq <| .block <| .seq <| .region <| .p (.iaddr_ro (row := ([.S ((nthF a.fields i).1)] ++ encX (nthF a.fields i).2)) ut33 sz72 Z Z Z Z (encF_nth (by omega))) ?_
  refine .p (.rloadN ag72 sz72 Z Z (nl Z)) <| .c1 (.alloc 10 Z zt72 Z) <| .c0 (.store sz72 Z Z Z Z (notup Z) Z Z (nl Z)) <| .nil <| .seq <| .region <| .p (.loadN ag35 sz35 Z Z Z (nl Z)) <| .p (.faddr fo72_0 Z Z) <| .p (.load1 ag9 Z Z Z Z) <| .p (.call0 [] false (Field_spec b (nthF a.fields i).1 hb (by assumption)) Tryz.func53 (hv := by exact (.cons (.aggL (.same Z)) (.cons (.same Z) .nil)))) ?_
  refine .p (.move Z Z) <| .p (.extract Z Z Z) <| .p (.extract Z Z Z) <| .c1 (.alloc 11 Z zt35 Z) <| .c0 (.store sz35 Z Z Z Z (notup Z) Z Z (nl Z)) <| .p (.assign Z Z) <| .nil <| .seq <| .region <| .p (.move Z Z) <| .nil ?_
  rcases Bool.eq_false_or_eq_true (fieldM (nthF a.fields i).1 b.fields).isSome with h3 | h3
  refine .cT Z h3 <| .region_p fol an39_6 (by kernel_rfl) Z ?_
  refine .p [] (.move Z Z) <| .p [] (.move Z Z) <| .p [] (.faddr fo72_0 Z Z) <| .p [10] (.load1 ag9 Z Z Z Z) <| .p [] (.call0 [] false (Key_spec (nthF a.fields i).1) Tryz.func59 (hv := by exact (.same Z))) ?_
  refine .p [] (.call0 [] false (step_spec p (⟨false, (nthF a.fields i).1, 0⟩ : Stp) (by omega)) Tryz.func65 (hv := by exact (.cons (.same Z) (.cons (.aggL (.same Z)) .nil)))) ?_
  refine .p [] (.faddr fo72_1 Z Z) <| .p [10] (.loadN ag35 sz35 Z Z Z (nl Z)) <| .p [11] (.loadN ag35 sz35 Z Z Z (nl Z)) <| .c 13 [9] (.callN [9, 12] [12] false (ih l1 (p ++ [(⟨false, (nthF a.fields i).1, 0⟩ : Stp)]) (nthF a.fields i).2 ((fieldM (nthF a.fields i).1 b.fields).getD T.nul) (fit_field ha (nthF_mem (by omega))) (fit_fieldM hb ‹_›) (hpa.2 _ (nthF_mem (by omega))) (pl_fieldM hpb ‹_›) (by simp; omega) (mp1_bd (btwM_grows d) (by omega) ‹_› (by rw [g2]; exact hG2))) Tryz.func23 (hc := by exact (.cons .nil Z Z Z (.arrE Z))) (hv := by exact (.cons (.sl (nl Z) Z Z) (.cons .fr (.cons (.aggL (.same Z)) (.cons (.aggL (.cons (.same Z) (.cons (.same Z) (.cons (.same Z) (.cons (.same Z) (.cons (.same Z) (.cons (.same Z) (.cons (.same Z) (.cons (.same Z) (.cons (.same Z) (.cons (.same Z) (.cons .fr (.cons .fr (.cons .fr .nil)))))))))))))) .nil)))))) ?_
  refine .p [] (.assign Z Z) <| .nil (by kernel_rfl) ?_
  refine .region <| .p (.iadd (r := (((i + 1) : Nat) : Int)) Z Z Z (wi (by omega) (by first | rfl | omega | (simp; done)))) ?_
  refine .p (.move Z Z) <| .nil ?_
  have hq : (i + 1) ≤ a.fields.length ∧ mp1 (btwM d) p b.fields (a.fields.drop (i + 1)) (btwM d l1 (p ++ [(⟨false, (nthF a.fields i).1, 0⟩ : Stp)]) (nthF a.fields i).2 ((fieldM (nthF a.fields i).1 b.fields).getD T.nul)) = mp1 (btwM d) p b.fields a.fields l := by
    refine ⟨by omega, ?_⟩
    rw [mp1_nth (i := i) (by omega)] at g2
    first | rw [if_pos ‹_›] at g2 | rw [if_neg (by simp_all)] at g2
    exact g2
  exact ⟨⟨((i + 1), (btwM d l1 (p ++ [(⟨false, (nthF a.fields i).1, 0⟩ : Stp)]) (nthF a.fields i).2 ((fieldM (nthF a.fields i).1 b.fields).getD T.nul))), hq⟩, (by simp; omega), (ALe.of false [(9, 12)] 10
      _
      _
      (.cons rfl (.boxS rfl) (.cons rfl (.boxS rfl) (.cons rfl (.arr rfl) .nil)))
      (.cons rfl .slR (.s (.cons rfl .ptrR (.cons rfl .ptrR (.s (.s (.s .nil)))))))
      (by simp))⟩
  refine .cF Z h3 <| .skip <| .region <| .p (.iadd (r := (((i + 1) : Nat) : Int)) Z Z Z (wi (by omega) (by first | rfl | omega | (simp; done)))) ?_
  refine .p (.move Z Z) <| .nil ?_
  have hq : (i + 1) ≤ a.fields.length ∧ mp1 (btwM d) p b.fields (a.fields.drop (i + 1)) l1 = mp1 (btwM d) p b.fields a.fields l := by
    refine ⟨by omega, ?_⟩
    rw [mp1_nth (i := i) (by omega)] at g2
    first | rw [if_pos ‹_›] at g2 | rw [if_neg (by simp_all)] at g2
    exact g2
  exact ⟨⟨((i + 1), l1), hq⟩, (by simp; omega), ALe.s⟩
  have h1 := decide_eq_false p2
  refine .cF Z h1 ?_
  have hI1 : mp1 (btwM d) p b.fields a.fields l = l1 := by rw [← g2]; exact mp1_end (by omega) _
  refine .exit <| .seq <| .region <| .p (.assign Z Z) <| .nil <| .seq <| .seq <| .region <| .p (.faddr fo35_7 Z Z) <| .p (.load1 ag33 Z Z Z Z) <| .p (.len_ro (n := a.fields.length) ut33 Z (.inl Z) (by simp)) ?_
  refine .p (.move Z Z) <| .nil <| .block ?_
  refine AWP.loop (G := { g : Nat × Nat × List Chg // g.1 ≤ a.fields.length ∧ g.2.1 ≤ g.1 ∧ mp2 p b.fields (a.fields.drop g.1) g.1 g.2.1 g.2.2 = mp2 p b.fields a.fields 0 0 l1 }) (fun g => envOf [(0, .sl 9 29 0 g.1.2.2.length), (1, .ro 3 (rowsOf Stp.cells p)), (6, .P 1), (7, .P 2), (13, .N g.1.2.1), (50, .ro 14 (encF a.fields)), (51, .N a.fields.length), (52, .N g.1.1)]) (fun g => hpOf [(1, .box (encX a)), (2, .box (encX b)), (9, .arr false 29 (rowsOf Chg.cells g.1.2.2))]) (fun _ => 10) (fun g => a.fields.length - g.1.1) ⟨(0, 0, l1), (by dsimp only; exact ⟨Nat.zero_le _, Nat.le_refl _, rfl⟩)⟩ ALe.s ?_
  rintro ⟨⟨j, g, l2⟩, hg⟩
  try dsimp only at hg
  obtain ⟨k1, k2, k3⟩ := hg
  have k4 : l2.length ≤ 100000 := Nat.le_trans (mp2_grows p b.fields (a.fields.drop j) j g l2).1 (by rw [k3, ← hI1]; exact hG3)
  refine .ws 10 [(0, .sl 9 29 0 l2.length), (1, .ro 3 (rowsOf Stp.cells p)), (6, .P 1), (7, .P 2), (13, .N g), (50, .ro 14 (encF a.fields)), (51, .N a.fields.length), (52, .N j)] [(1, .box (encX a)), (2, .box (encX b)), (9, .arr false 29 (rowsOf Chg.cells l2))] <| .seq <| .region <| .p (.ilss Z Z Z) <| .nil <| .seq ?_
  by_cases p5 : ((j : Nat) : Int) < ((a.fields.length : Nat) : Int)
  have h4 := decide_eq_true p5
  refine .cT Z h4 <| .skip <| .seq <| .block <| .seq <| .region <| .p (.move Z Z) <| .p (.iaddr_ro (row := ([.S ((nthF a.fields j).1)] ++ encX (nthF a.fields j).2)) ut33 sz72 Z Z Z Z (encF_nth (by omega))) ?_
  refine .p (.rloadN ag72 sz72 Z Z (nl Z)) <| .c1 (.alloc 10 Z zt72 Z) <| .p (.assign Z Z) <| .c0 (.store sz72 Z Z Z Z (notup Z) Z Z (nl Z)) <| .nil <| .seq <| .region <| .p (.loadN ag35 sz35 Z Z Z (nl Z)) <| .p (.faddr fo72_0 Z Z) <| .p (.load1 ag9 Z Z Z Z) <| .p (.call0 [] false (Field_spec b (nthF a.fields j).1 hb (by assumption)) Tryz.func53 (hv := by exact (.cons (.aggL (.same Z)) (.cons (.same Z) .nil)))) ?_
  refine .p (.move Z Z) <| .p (.extract Z Z Z) <| .p (.extract Z Z Z) <| .c1 (.alloc 11 Z zt35 Z) <| .c0 (.store sz35 Z Z Z Z (notup Z) Z Z (nl Z)) <| .p (.assign Z Z) <| .nil <| .seq <| .region <| .p (.move Z Z) <| .p (.not Z Z) <| .nil ?_
  rcases Bool.eq_false_or_eq_true (fieldM (nthF a.fields j).1 b.fields).isSome with h6 | h6
  refine .cF Z (bnot h6) <| .skip <| .region <| .p (.iadd (r := (((j + 1) : Nat) : Int)) Z Z Z (wi (by omega) (by first | rfl | omega | (simp; done)))) ?_
  refine .p (.move Z Z) <| .nil ?_
  have hq : (j + 1) ≤ a.fields.length ∧ g ≤ (j + 1) ∧ mp2 p b.fields (a.fields.drop (j + 1)) (j + 1) g l2 = mp2 p b.fields a.fields 0 0 l1 := by
    refine ⟨by omega, by omega, ?_⟩
    rw [mp2_nth (i := j) (by omega)] at k3
    first | rw [if_pos ‹_›] at k3 | rw [if_neg (by simp_all)] at k3
    exact k3
  exact ⟨⟨((j + 1), g, l2), hq⟩, (by simp; omega), ALe.s⟩
  refine .cT Z (bnot h6) <| .seq <| .region_p fol an39_14 (by kernel_rfl) Z ?_
  refine .p [] (.move Z Z) <| .p [] (.move Z Z) <| .p [] (.faddr fo72_0 Z Z) <| .p [10] (.load1 ag9 Z Z Z Z) <| .p [] (.call0 [] false (Key_spec (nthF a.fields j).1) Tryz.func59 (hv := by exact (.same Z))) ?_
  refine .p [] (.call0 [] false (step_spec p (⟨false, (nthF a.fields j).1, 0⟩ : Stp) (by omega)) Tryz.func65 (hv := by exact (.cons (.same Z) (.cons (.aggL (.same Z)) .nil)))) ?_
  refine .p [] (.move Z Z) <| .p [] (.move Z Z) <| .p [] (.isub (r := (((j - g) : Nat) : Int)) Z Z Z (wi (by omega) (by first | rfl | omega | (simp; done)))) ?_
  refine .p [] (.faddr fo72_1 Z Z) <| .p [10] (.loadN ag35 sz35 Z Z Z (nl Z)) <| .p [] (.call0 [] false (Copy_spec (nthF a.fields j).2 (fit_field ha (nthF_mem (by omega)))) Tryz.func27 (hv := by exact (.cons (.aggL (.same Z)) .nil))) ?_
  refine .p [] (.wk (x := .agg ([.I 3, .fr (.ro 3 (rowsOf Stp.cells (p ++ [(⟨false, (nthF a.fields j).1, 0⟩ : Stp)]))), .N (j - g)] ++ encFr (nthF a.fields j).2 ++ [.I 0, .B false, .B false, .S ⟨#[]⟩, .I 0, .I 0, .I 0, .I 0, .I 0, .S ⟨#[]⟩, .O, .O, .O])) (y := .agg ([.I 3, .fr (.ro 3 (rowsOf Stp.cells (p ++ [(⟨false, (nthF a.fields j).1, 0⟩ : Stp)]))), .N (j - g)] ++ encFr (nthF a.fields j).2 ++ [.I 0, .B false, .B false, .S ⟨#[]⟩, .I 0, .I 0, .I 0, .I 0, .I 0, .S ⟨#[]⟩, .fr (.ro 1 []), .fr (.ro 13 []), .fr (.ro 14 [])])) (.build Z zt78 Z pl78 Z Z) (.agg (.cons .same (.cons .same (.cons .same (.cons .same (.cons .same (.cons .same (.cons .same (.cons .same (.cons .same (.cons .same (.cons .same (.cons .same (.cons .same (.cons .same (.cons .same (.cons .same (.cons .same (.cons .same (.cons .same (.cons .same (.cons .same (.cons .same (.cons .same (.cons .same (.cons .same (.cons .same (.cons .nilFr (.cons .nilFr (.cons .nilFr .all))))))))))))))))))))))))))))))) ?_
  refine .c 13 [] (.buildSlice 12 true [([.I 3, .ro 3 (rowsOf Stp.cells (p ++ [(⟨false, (nthF a.fields j).1, 0⟩ : Stp)])), .N (j - g)] ++ encX (nthF a.fields j).2 ++ [.I 0, .B false, .B false, .S ⟨#[]⟩, .I 0, .I 0, .I 0, .I 0, .I 0, .S ⟨#[]⟩, .ro 1 [], .ro 13 [], .ro 14 []])] ut38 sz78 zt78 Z Z (by decide) (by decide) Z Z Z Z Z Z Z) ?_
  refine .c 14 [9, 12] (.appendN (n2 := (l2.length + 1)) 13 el38 Z Z Z (by first | rfl | (simp; done) | (simp; omega)) (.sl Z Z (nl Z) (by simp)) (by simp only [rowsOf, List.length_map, List.length_append, List.length_take, List.length_drop, List.length_cons, List.length_nil]; omega) (by simp only [rowsOf, List.length_map, List.length_append, List.length_take, List.length_drop, List.length_cons, List.length_nil]; omega) (by first | rfl | (simp; done) | (simp; omega))) ?_
  refine .p [] (.assign Z Z) <| .nil (by kernel_rfl) ?_
  refine .region <| .p (.move Z Z) <| .p (.iadd (r := (((g + 1) : Nat) : Int)) Z Z Z (wi (by omega) (by first | rfl | omega | (simp; done)))) ?_
  refine .p (.assign Z Z) <| .nil <| .region <| .p (.iadd (r := (((j + 1) : Nat) : Int)) Z Z Z (wi (by omega) (by first | rfl | omega | (simp; done)))) ?_
  refine .p (.move Z Z) <| .nil ?_
  have hq : (j + 1) ≤ a.fields.length ∧ (g + 1) ≤ (j + 1) ∧ mp2 p b.fields (a.fields.drop (j + 1)) (j + 1) (g + 1) (l2 ++ [(⟨3, (p ++ [(⟨false, (nthF a.fields j).1, 0⟩ : Stp)]), (((j - g) : Nat) : Int), (nthF a.fields j).2, T.nul⟩ : Chg)]) = mp2 p b.fields a.fields 0 0 l1 := by
    refine ⟨by omega, by omega, ?_⟩
    rw [mp2_nth (i := j) (by omega)] at k3
    first | rw [if_pos ‹_›] at k3 | rw [if_neg (by simp_all)] at k3
    exact k3
  exact ⟨⟨((j + 1), (g + 1), (l2 ++ [(⟨3, (p ++ [(⟨false, (nthF a.fields j).1, 0⟩ : Stp)]), (((j - g) : Nat) : Int), (nthF a.fields j).2, T.nul⟩ : Chg)])), hq⟩, (by simp; omega), (ALe.of false [(9, 13)] 10
      _
      _
      (.cons rfl (.boxS rfl) (.cons rfl (.boxS rfl) (.cons rfl (.arr (rows_append (f := Chg.cells) l2 [(⟨3, (p ++ [(⟨false, (nthF a.fields j).1, 0⟩ : Stp)]), (((j - g) : Nat) : Int), (nthF a.fields j).2, T.nul⟩ : Chg)]).symm) .nil)))
      (.cons rfl (.slE (by first | omega | (simp; done) | (simp; omega))) (.s (.cons rfl .ptrR (.cons rfl .ptrR (.s (.s (.s (.s .nil))))))))
      (by simp))⟩
  have h4 := decide_eq_false p5
  refine .cF Z h4 ?_
  have hI2 : mp2 p b.fields a.fields 0 0 l1 = (g, l2) := by rw [← k3]; exact mp2_end (by omega) _ _ _
  refine .exit <| .seq <| .region <| .p (.faddr fo35_7 Z Z) <| .p (.load1 ag33 Z Z Z Z) <| .p (.len_ro (n := a.fields.length) ut33 Z (.inl Z) (by simp)) ?_
  refine .p (.move Z Z) <| .p (.isub (r := (((a.fields.length - g) : Nat) : Int)) Z Z Z (wi (by omega) (by first | rfl | omega | (simp; done)))) ?_
  refine .p (.assign Z Z) <| .nil <| .seq <| .seq <| .region <| .p (.faddr fo35_7 Z Z) <| .p (.load1 ag33 Z Z Z Z) <| .p (.len_ro (n := b.fields.length) ut33 Z (.inl Z) (by simp)) ?_
  refine .p (.move Z Z) <| .nil <| .block ?_
  refine AWP.loop (G := { g : Nat × Nat × List Chg // g.1 ≤ b.fields.length ∧ g.2.1 ≤ 300000 + g.1 ∧ mp3 p a.fields (b.fields.drop g.1) g.2.1 g.2.2 = mapsM (btwM d) l p a b }) (fun g => envOf [(0, .sl 9 29 0 g.1.2.2.length), (1, .ro 3 (rowsOf Stp.cells p)), (6, .P 1), (18, .N g.1.2.1), (90, .ro 14 (encF b.fields)), (91, .N b.fields.length), (92, .N g.1.1)]) (fun g => hpOf [(1, .box (encX a)), (9, .arr false 29 (rowsOf Chg.cells g.1.2.2))]) (fun _ => 10) (fun g => b.fields.length - g.1.1) ⟨(0, (a.fields.length - g), l2), (by dsimp only; exact ⟨Nat.zero_le _, by omega, by rw [mapsM, hI1, hI2]; rfl⟩)⟩ ALe.s ?_
  rintro ⟨⟨q, n, l3⟩, hg⟩
  try dsimp only at hg
  obtain ⟨z1, z2, z3⟩ := hg
  have z4 : l3.length ≤ 100000 := Nat.le_trans (mp3_grows p a.fields (b.fields.drop q) n l3) (by rw [z3]; exact hB)
  refine .ws 10 [(0, .sl 9 29 0 l3.length), (1, .ro 3 (rowsOf Stp.cells p)), (6, .P 1), (18, .N n), (90, .ro 14 (encF b.fields)), (91, .N b.fields.length), (92, .N q)] [(1, .box (encX a)), (9, .arr false 29 (rowsOf Chg.cells l3))] <| .seq <| .region <| .p (.ilss Z Z Z) <| .nil <| .seq ?_
  by_cases p8 : ((q : Nat) : Int) < ((b.fields.length : Nat) : Int)
  have h7 := decide_eq_true p8
  refine .cT Z h7 <| .skip <| .seq <| .block <| .seq <| .region <| .p (.iaddr_ro (row := ([.S ((nthF b.fields q).1)] ++ encX (nthF b.fields q).2)) ut33 sz72 Z Z Z Z (encF_nth (by omega))) ?_
  refine .p (.rloadN ag72 sz72 Z Z (nl Z)) <| .c1 (.alloc 10 Z zt72 Z) <| .c0 (.store sz72 Z Z Z Z (notup Z) Z Z (nl Z)) <| .nil <| .seq <| .region <| .p (.loadN ag35 sz35 Z Z Z (nl Z)) <| .p (.faddr fo72_0 Z Z) <| .p (.load1 ag9 Z Z Z Z) <| .p (.call0 [] false (Field_spec a (nthF b.fields q).1 ha (by assumption)) Tryz.func53 (hv := by exact (.cons (.aggL (.same Z)) (.cons (.same Z) .nil)))) ?_
  refine .p (.move Z Z) <| .p (.extract Z Z Z) <| .p (.extract Z Z Z) <| .c1 (.alloc 11 Z zt35 Z) <| .c0 (.store sz35 Z Z Z Z (notup Z) Z Z (nl Z)) <| .p (.assign Z Z) <| .nil <| .seq <| .region <| .p (.move Z Z) <| .p (.not Z Z) <| .nil ?_
  rcases Bool.eq_false_or_eq_true (fieldM (nthF b.fields q).1 a.fields).isSome with h9 | h9
  refine .cF Z (bnot h9) <| .skip <| .region <| .p (.iadd (r := (((q + 1) : Nat) : Int)) Z Z Z (wi (by omega) (by first | rfl | omega | (simp; done)))) ?_
  refine .p (.move Z Z) <| .nil ?_
  have hq : (q + 1) ≤ b.fields.length ∧ n ≤ 300000 + (q + 1) ∧ mp3 p a.fields (b.fields.drop (q + 1)) n l3 = mapsM (btwM d) l p a b := by
    refine ⟨by omega, by omega, ?_⟩
    rw [mp3_nth (i := q) (by omega)] at z3
    first | rw [if_pos ‹_›] at z3 | rw [if_neg (by simp_all)] at z3
    exact z3
  exact ⟨⟨((q + 1), n, l3), hq⟩, (by simp; omega), ALe.s⟩
  refine .cT Z (bnot h9) <| .seq <| .region_p fol an39_23 (by kernel_rfl) Z ?_
  refine .p [] (.move Z Z) <| .p [] (.move Z Z) <| .p [] (.faddr fo72_0 Z Z) <| .p [10] (.load1 ag9 Z Z Z Z) <| .p [] (.call0 [] false (Key_spec (nthF b.fields q).1) Tryz.func59 (hv := by exact (.same Z))) ?_
  refine .p [] (.call0 [] false (step_spec p (⟨false, (nthF b.fields q).1, 0⟩ : Stp) (by omega)) Tryz.func65 (hv := by exact (.cons (.same Z) (.cons (.aggL (.same Z)) .nil)))) ?_
  refine .p [] (.move Z Z) <| .p [] (.faddr fo72_1 Z Z) <| .p [10] (.loadN ag35 sz35 Z Z Z (nl Z)) <| .p [] (.call0 [] false (Copy_spec (nthF b.fields q).2 (fit_field hb (nthF_mem (by omega)))) Tryz.func27 (hv := by exact (.cons (.aggL (.same Z)) .nil))) ?_
  refine .p [] (.wk (x := .agg ([.I 2, .fr (.ro 3 (rowsOf Stp.cells (p ++ [(⟨false, (nthF b.fields q).1, 0⟩ : Stp)]))), .N n, .I 0, .B false, .B false, .S ⟨#[]⟩, .I 0, .I 0, .I 0, .I 0, .I 0, .S ⟨#[]⟩, .O, .O, .O] ++ encFr (nthF b.fields q).2)) (y := .agg ([.I 2, .fr (.ro 3 (rowsOf Stp.cells (p ++ [(⟨false, (nthF b.fields q).1, 0⟩ : Stp)]))), .N n, .I 0, .B false, .B false, .S ⟨#[]⟩, .I 0, .I 0, .I 0, .I 0, .I 0, .S ⟨#[]⟩, .fr (.ro 1 []), .fr (.ro 13 []), .fr (.ro 14 [])] ++ encFr (nthF b.fields q).2)) (.build Z zt78 Z pl78 Z Z) (.agg (.cons .same (.cons .same (.cons .same (.cons .same (.cons .same (.cons .same (.cons .same (.cons .same (.cons .same (.cons .same (.cons .same (.cons .same (.cons .same (.cons .nilFr (.cons .nilFr (.cons .nilFr .all)))))))))))))))))) <| .c 13 [] (.buildSlice 12 true [([.I 2, .ro 3 (rowsOf Stp.cells (p ++ [(⟨false, (nthF b.fields q).1, 0⟩ : Stp)])), .N n, .I 0, .B false, .B false, .S ⟨#[]⟩, .I 0, .I 0, .I 0, .I 0, .I 0, .S ⟨#[]⟩, .ro 1 [], .ro 13 [], .ro 14 []] ++ encX (nthF b.fields q).2)] ut38 sz78 zt78 Z Z (by decide) (by decide) Z Z Z Z Z Z Z) ?_
  refine .c 14 [9, 12] (.appendN (n2 := (l3.length + 1)) 13 el38 Z Z Z (by first | rfl | (simp; done) | (simp; omega)) (.sl Z Z (nl Z) (by simp)) (by simp only [rowsOf, List.length_map, List.length_append, List.length_take, List.length_drop, List.length_cons, List.length_nil]; omega) (by simp only [rowsOf, List.length_map, List.length_append, List.length_take, List.length_drop, List.length_cons, List.length_nil]; omega) (by first | rfl | (simp; done) | (simp; omega))) ?_
  refine .p [] (.assign Z Z) <| .nil (by kernel_rfl) ?_
  refine .region <| .p (.move Z Z) <| .p (.iadd (r := (((n + 1) : Nat) : Int)) Z Z Z (wi (by omega) (by first | rfl | omega | (simp; done)))) ?_
  refine .p (.assign Z Z) <| .nil <| .region <| .p (.iadd (r := (((q + 1) : Nat) : Int)) Z Z Z (wi (by omega) (by first | rfl | omega | (simp; done)))) ?_
  refine .p (.move Z Z) <| .nil ?_
  have hq : (q + 1) ≤ b.fields.length ∧ (n + 1) ≤ 300000 + (q + 1) ∧ mp3 p a.fields (b.fields.drop (q + 1)) (n + 1) (l3 ++ [(⟨2, (p ++ [(⟨false, (nthF b.fields q).1, 0⟩ : Stp)]), ((n : Nat) : Int), T.nul, (nthF b.fields q).2⟩ : Chg)]) = mapsM (btwM d) l p a b := by
    refine ⟨by omega, by omega, ?_⟩
    rw [mp3_nth (i := q) (by omega)] at z3
    first | rw [if_pos ‹_›] at z3 | rw [if_neg (by simp_all)] at z3
    exact z3
  exact ⟨⟨((q + 1), (n + 1), (l3 ++ [(⟨2, (p ++ [(⟨false, (nthF b.fields q).1, 0⟩ : Stp)]), ((n : Nat) : Int), T.nul, (nthF b.fields q).2⟩ : Chg)])), hq⟩, (by simp; omega), (ALe.of false [(9, 13)] 10
      _
      _
      (.cons rfl (.boxS rfl) (.cons rfl (.arr (rows_append (f := Chg.cells) l3 [(⟨2, (p ++ [(⟨false, (nthF b.fields q).1, 0⟩ : Stp)]), ((n : Nat) : Int), T.nul, (nthF b.fields q).2⟩ : Chg)]).symm) .nil))
      (.cons rfl (.slE (by first | omega | (simp; done) | (simp; omega))) (.s (.cons rfl .ptrR (.s (.s (.s (.s .nil)))))))
      (by simp))⟩
  have h7 := decide_eq_false p8
  refine .cF Z h7 <| .exit <| .seq <| .region <| .p (.move Z Z) <| .p (.assign Z Z) <| .nil <| .ret ?_
  have hd : mapsM (btwM d) l p a b = l3 := by rw [← z3]; exact mp3_end (by omega) _ _
  exact ⟨_, _, _, _, rfl, ALe.of false [(1, 9)] 2
      [(0, .sl 1 29 0 (mapsM (btwM d) l p a b).length)]
      [(1, .arr false 29 (rowsOf Chg.cells (mapsM (btwM d) l p a b)))]
      (.cons rfl (.arr (by rw [hd])) .nil)
      (.cons rfl (.slE (by rw [hd])) .nil)
      (by simp), rfl, rfl⟩
end Go.Abs
