/-
  CHAPTER 28, PLAIN: the functions of the timeline and of its reference, closed (part a).
  Conditions: none.
-/
import Derived.Test.YtfinjeaoicfdeaaLa
import Derived.Test.YtfinjeaoicfdeaaOp
namespace Go.Proofs.Ytfinjeaoicfdeaa
open Go.ChangeShapes

abbrev big : Nat := 9223372036854775808

def mkspan (l : List TSpan) : Int := l.foldl (fun m s => max m s.End) 0

theorem mk_impl {l : List TSpan} (hl : l.length < big) : F_timeline_Makespan l = some (mkspan l) := by
  unfold F_timeline_Makespan
  rw [jn_mk]
  refine loopSeq (L := fun n s i => F_timeline_Makespan_L1 l _ n s i) (S := fun i => (l.take i).foldl (fun m s => max m s.End) 0) (J := fun x => some x) hl ?_ ?_ _ 0 (by omega) (by simp) |>.trans ?_
  · intro n i h
    try dsimp only
    rw [F_timeline_Makespan_L1, foldl_take_succ _ _ _ _ h]
    simp only [show ((i : Int) < (l.length : Int)) by omega, decide_true, cond_true, show 0 ≤ (i : Int) by omega, true_and, implies_true, req_t, atI_nat h]
  · intro n
    try dsimp only
    rw [F_timeline_Makespan_L1]
    simp
  · simp [mkspan]

theorem mk_ref {l : List TSpan} (hl : l.length < big) : F_clockworkref28_Makespan l = some (mkspan l) := by
  unfold F_clockworkref28_Makespan
  rw [jn_mk]
  refine loopSeq (L := fun n s i => F_clockworkref28_Makespan_L1 l _ n s i) (S := fun i => (l.take i).foldl (fun m s => max m s.End) 0) (J := fun x => some x) hl ?_ ?_ _ 0 (by omega) (by simp) |>.trans ?_
  · intro n i h
    try dsimp only
    rw [F_clockworkref28_Makespan_L1, foldl_take_succ _ _ _ _ h]
    simp only [show ((i : Int) < (l.length : Int)) by omega, decide_true, cond_true, show 0 ≤ (i : Int) by omega, true_and, implies_true, req_t, atI_nat h]
  · intro n
    try dsimp only
    rw [F_clockworkref28_Makespan_L1]
    simp
  · simp [mkspan]

theorem same_self {l : List TSpan} (hl : l.length < big) : F_clockworkref28_Same l l = some true := by
  unfold F_clockworkref28_Same
  simp only [bne_self_eq_false, cond_false, jn_mk]
  refine loopAny0 (L := fun n i => F_clockworkref28_Same_L1 l l _ n i) (q := fun _ => false) (E := some false) (J := some true) hl (by simp) ?_ ?_ |>.trans ?_
  · intro n i h
    try dsimp only
    rw [F_clockworkref28_Same_L1]
    simp only [show ((i : Int) < (l.length : Int)) by omega, decide_true, cond_true, show 0 ≤ (i : Int) by omega, true_and, implies_true, req_t, BEq.rfl, Bool.true_and, Bool.not_true, cond_false]
  · intro n
    try dsimp only
    rw [F_clockworkref28_Same_L1]
    simp
  · rw [show (l.any fun _ => false) = false by rw [List.any_eq_false]; simp]; rfl

def fewB (l : List (List Int)) : Bool := !(l.any fun r => decide ((if 128 < l.length then 2 else 20 : Int) < (r.length : Int))) && (decide (l.length ≤ 12) || (decide (128 < l.length) && decide (l.length ≤ 200)))

theorem few_ref {l : List (List Int)} (hl : l.length < big) : F_clockworkref28_Few l = some (fewB l) := by
  unfold F_clockworkref28_Few
  simp only [jn_mk]
  have key : ∀ b : Int, (F_clockworkref28_Few_L1 l b (some ((decide ((((l).length : Nat) : Int) ≤ (12 : Int))) || ((decide ((128 : Int) < (((l).length : Nat) : Int))) && (decide ((((l).length : Nat) : Int) ≤ (200 : Int)))))) (((((l).length : Nat) : Int)).toNat + 1) ((0 : Int))) = some (!(l.any fun r => decide (b < (r.length : Int))) && (decide (l.length ≤ 12) || (decide (128 < l.length) && decide (l.length ≤ 200)))) := by
    intro b
    refine loopAny0 (L := fun n i => F_clockworkref28_Few_L1 l b _ n i) (q := fun r => decide (b < (r.length : Int))) (E := some false) hl (by simp) ?_ (J := some ((decide ((((l).length : Nat) : Int) ≤ (12 : Int))) || ((decide ((128 : Int) < (((l).length : Nat) : Int))) && (decide ((((l).length : Nat) : Int) ≤ (200 : Int)))))) ?_ |>.trans ?_
    · intro n i h
      try dsimp only
      rw [F_clockworkref28_Few_L1]
      simp only [show ((i : Int) < (l.length : Int)) by omega, decide_true, cond_true, show 0 ≤ (i : Int) by omega, true_and, implies_true, req_t, atI_nat h]
    · intro n
      try dsimp only
      rw [F_clockworkref28_Few_L1]
      simp
    · have e1 : ((l.length : Int) ≤ 12) = (l.length ≤ 12) := by apply propext; omega
      have e2 : ((128 : Int) < l.length) = (128 < l.length) := by apply propext; omega
      have e3 : ((l.length : Int) ≤ 200) = (l.length ≤ 200) := by apply propext; omega
      simp only [e1, e2, e3]
      cases (l.any fun r => decide (b < (r.length : Int))) <;> simp
  rw [key, key]
  have e2 : ((128 : Int) < l.length) = (128 < l.length) := by apply propext; omega
  simp only [e2, fewB]
  rcases Nat.lt_or_ge 128 l.length with h | h
  · simp [h]
  · simp [show ¬ 128 < l.length by omega]

theorem few_len {l : List (List Int)} (h : fewB l = true) : l.length ≤ 200 ∧ ∀ r ∈ l, r.length ≤ 20 := by
  simp only [fewB, Bool.and_eq_true, Bool.not_eq_true', List.any_eq_false, Bool.or_eq_true, decide_eq_true_eq] at h
  obtain ⟨h1, h2⟩ := h
  refine ⟨by omega, fun r hr => ?_⟩
  have := h1 r hr
  split at this <;> omega

/-- Costs that fit the work. -/
def costsB (n : Int) (c : List Int) : Bool := (n == (c.length : Int)) && decide (n ≤ 128) && !(c.any fun x => decide (x < 1) || decide (1000 < x))

theorem costs_impl {n : Int} {c : List Int} (hl : c.length < big) : F_timeline_validCosts n c = some (costsB n c) := by
  unfold F_timeline_validCosts
  simp only [jn_mk]
  have key := loopAny0 (L := fun n i => F_timeline_validCosts_L1 c (some true) n i) (q := fun x => decide (x < 1) || decide (1000 < x)) (E := some false) (J := some true) (l := c) (n := ((c.length : Int)).toNat + 1) hl (by simp) ?_ ?_
  · rw [key]
    simp only [costsB]
    by_cases h1 : n = (c.length : Int)
    · by_cases h2 : n ≤ 128
      · simp [← h1, h2, show ¬ 128 < n by omega]
        cases (c.any fun x => decide (x < 1) || decide (1000 < x)) <;> rfl
      · simp [h2, show 128 < n by omega]
    · rw [show (n != (c.length : Int)) = true from bne_iff_ne.2 h1, show (n == (c.length : Int)) = false from beq_eq_false_iff_ne.2 h1]; rfl
  · intro n i h
    try dsimp only
    rw [F_timeline_validCosts_L1]
    simp only [show ((i : Int) < (c.length : Int)) by omega, decide_true, cond_true, show 0 ≤ (i : Int) by omega, true_and, implies_true, req_t, atI_nat h]
  · intro n
    try dsimp only
    rw [F_timeline_validCosts_L1]
    simp

theorem costs_ref {n : Int} {c : List Int} (hl : c.length < big) : F_clockworkref28_costs c n = some (costsB n c) := by
  unfold F_clockworkref28_costs
  simp only [jn_mk]
  refine (loopAny0 (L := fun k i => F_clockworkref28_costs_L1 c (some (((((c).length : Nat) : Int) == n) && (decide (n ≤ (128 : Int))))) k i) (q := fun x => decide (x < 1) || decide (1000 < x)) (E := some false) (J := some (((((c).length : Nat) : Int) == n) && (decide (n ≤ (128 : Int))))) (l := c) (n := ((c.length : Int)).toNat + 1) hl (by simp) ?_ ?_).trans ?_
  · intro k i h
    try dsimp only
    rw [F_clockworkref28_costs_L1]
    simp only [show ((i : Int) < (c.length : Int)) by omega, decide_true, cond_true, show 0 ≤ (i : Int) by omega, true_and, implies_true, req_t, show 0 ≤ (i : Int) by omega, true_and, implies_true, req_t, atI_nat h]
    by_cases h1 : c[i] < 1 <;> simp [h1]
  · intro k
    try dsimp only
    rw [F_clockworkref28_costs_L1]
    simp
  · rw [costsB, show ((c.length : Int) == n) = (n == (c.length : Int)) by rw [Bool.eq_iff_iff]; simp only [beq_iff_eq]; exact eq_comm]
    cases (c.any fun x => decide (x < 1) || decide (1000 < x)) <;> simp

/-- Every row names earlier work only. -/
def rowsB (l : List (List Int)) : Bool := !((List.range l.length).any fun (i : Nat) => (atI l (i : Int)).any fun d => decide (d < 0) || decide ((i : Int) ≤ d))

def validB (l : List (List Int)) (c : List Int) (w : Int) : Bool := costsB (l.length : Int) c && decide (1 ≤ w) && decide (w ≤ 64) && rowsB l

theorem valid_impl {l : List (List Int)} {c : List Int} {w : Int} (hl : l.length < big) (hc : c.length < big) (hr : ∀ r ∈ l, r.length < big) :
    F_timeline_valid l c w = some (validB l c w) := by
  unfold F_timeline_valid
  rw [costs_impl hc]
  simp only [bnd_mk, jn_mk]
  have key := loopRng (len := l.length) (L := fun n i => F_timeline_valid_L1 l (some true) n i) (q := fun (i : Nat) => (atI l (i : Int)).any fun d => decide (d < 0) || decide ((i : Int) ≤ d)) (E := some false) (J := some true) (n := ((l.length : Int)).toNat + 1) hl (by simp) ?_ ?_
  · rw [key]
    simp only [validB, rowsB]
    by_cases h1 : (1 : Int) ≤ w
    · by_cases h2 : w ≤ 64
      · simp [h1, h2, show ¬ w < 1 by omega, show ¬ 64 < w by omega]
        cases costsB (l.length : Int) c <;> cases ((List.range l.length).any fun (i : Nat) => (atI l (i : Int)).any fun d => decide (d < 0) || decide ((i : Int) ≤ d)) <;> rfl
      · simp [h2, show 64 < w by omega]
    · simp [h1, show w < 1 by omega]
  · intro n i h
    try dsimp only
    rw [F_timeline_valid_L1]
    simp only [show ((i : Int) < (l.length : Int)) by omega, decide_true, cond_true, show 0 ≤ (i : Int) by omega, true_and, implies_true, req_t, jn_mk]
    have hb : (atI l (i : Int)).length < big := by rw [atI_nat h]; exact hr _ (List.getElem_mem h)
    refine loopAny0 (L := fun n i' => F_timeline_valid_L2 l (i : Int) _ n i') hb (by omega) ?_ ?_
    · intro n j hj
      try dsimp only
      rw [F_timeline_valid_L2]
      simp only [show ((j : Int) < ((atI l (i : Int)).length : Int)) by omega, decide_true, cond_true, show 0 ≤ (j : Int) by omega, true_and, implies_true, req_t, atI_nat hj]
    · intro n
      try dsimp only
      rw [F_timeline_valid_L2]
      simp
  · intro n
    try dsimp only
    rw [F_timeline_valid_L1]
    simp

theorem valid_ref {l : List (List Int)} {c : List Int} {w : Int} (hl : l.length < big) (hc : c.length < big) (hr : ∀ r ∈ l, r.length < 1000000) :
    F_clockworkref28_Valid l c w = some (validB l c w) := by
  unfold F_clockworkref28_Valid
  rw [costs_ref hc]
  simp only [bnd_mk, jn_mk]
  refine (loopRng (len := l.length) (L := fun n i => F_clockworkref28_Valid_L1 l (some ((costsB (l.length : Int) c && decide ((1 : Int) ≤ w)) && decide (w ≤ (64 : Int)))) n i) (q := fun (i : Nat) => (atI l (i : Int)).any fun d => decide (d < 0) || decide ((i : Int) ≤ d)) (E := some false) (J := some ((costsB (l.length : Int) c && decide ((1 : Int) ≤ w)) && decide (w ≤ (64 : Int)))) (n := ((l.length : Int)).toNat + 1) hl (by simp) ?_ ?_).trans ?_
  · intro n i h
    try dsimp only
    rw [F_clockworkref28_Valid_L1]
    simp only [show ((i : Int) < (l.length : Int)) by omega, decide_true, cond_true, jn_mk]
    have hb : (atI l (i : Int)).length < 1000000 := by rw [atI_nat h]; exact hr _ (List.getElem_mem h)
    refine loopAny0 (L := fun n i' => F_clockworkref28_Valid_L2 (i : Int) l _ n i') (Nat.lt_trans hb (by decide)) hb ?_ ?_
    · intro n j hj
      try dsimp only
      rw [F_clockworkref28_Valid_L2]
      simp only [show ((j : Int) < ((atI l (i : Int)).length : Int)) by omega, decide_true, cond_true, show 0 ≤ (i : Int) by omega, true_and, implies_true, req_t, show 0 ≤ (j : Int) by omega, true_and, implies_true, req_t, show 0 ≤ (i : Int) by omega, true_and, implies_true, req_t, atI_nat hj]
      by_cases h1 : (atI l (i : Int))[j] < 0
      · simp [h1, req, h]
      · simp [h1, req, h, hj, atI_nat hj, Bool.cond_decide]
    · intro n
      try dsimp only
      rw [F_clockworkref28_Valid_L2]
      simp [req, h]
  · intro n
    try dsimp only
    rw [F_clockworkref28_Valid_L1]
    simp
  · simp only [validB, rowsB]
    cases ((List.range l.length).any fun (i : Nat) => (atI l (i : Int)).any fun d => decide (d < 0) || decide ((i : Int) ≤ d)) <;> simp

theorem lives_true : F_clockworklaw28_lives = some true := by decide +kernel

end Go.Proofs.Ytfinjeaoicfdeaa
