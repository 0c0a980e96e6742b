/-
  CHAPTER 28, PLAIN: the check of a schedule and its reference, closed (part c).
  Conditions: none.
-/
import Derived.Test.YtfinjeaoicfdeaaTb
namespace Go.Proofs.Ytfinjeaoicfdeaa
open Go.ChangeShapes

/-- Where the span of this piece of work last stands among the first ones. -/
def lastIx (sp : List TSpan) (j : Int) : Nat → Int
  | 0 => -1
  | k + 1 => if (atI sp (k : Int)).Txn = j then (k : Int) else lastIx sp j k

theorem lastIx_bd (sp : List TSpan) (j : Int) : ∀ k, lastIx sp j k < (k : Int) ∧ (lastIx sp j k = -1 ∨ 0 ≤ lastIx sp j k)
  | 0 => by simp [lastIx]
  | k + 1 => by
    have := lastIx_bd sp j k
    simp only [lastIx]
    split <;> omega

theorem lastIx_hit {sp : List TSpan} {j : Int} {k : Nat} (h : (atI sp (k : Int)).Txn = j) : lastIx sp j (k + 1) = (k : Int) := if_pos h
theorem lastIx_miss {sp : List TSpan} {j : Int} {k : Nat} (h : ¬ (atI sp (k : Int)).Txn = j) : lastIx sp j (k + 1) = lastIx sp j k := if_neg h

/-- The span at this place is of work not placed before. -/
def goodB (n : Nat) (sp : List TSpan) (i : Nat) : Bool := decide (0 ≤ (atI sp (i : Int)).Txn) && decide ((atI sp (i : Int)).Txn < (n : Int)) && decide (lastIx sp (atI sp (i : Int)).Txn i < 0)

theorem count_good (n : Nat) (sp : List TSpan) : ∀ i, (List.range n).countP (fun (j : Nat) => decide (0 ≤ lastIx sp (j : Int) i)) ≤ i ∧
    ((List.range n).countP (fun (j : Nat) => decide (0 ≤ lastIx sp (j : Int) i)) = i ↔ ∀ k, k < i → goodB n sp k = true)
  | 0 => by simp [lastIx]
  | i + 1 => by
    obtain ⟨h1, h2⟩ := count_good n sp i
    cases hg : goodB n sp i with
    | true =>
      simp only [goodB, Bool.and_eq_true, decide_eq_true_eq] at hg
      obtain ⟨⟨g1, g2⟩, g3⟩ := hg
      have hu := count_upd (fun (j : Nat) => decide (0 ≤ lastIx sp (j : Int) i)) (fun (j : Nat) => decide (0 ≤ lastIx sp (j : Int) (i + 1))) (atI sp (i : Int)).Txn.toNat
        (by simp only [Int.toNat_of_nonneg g1, decide_eq_false_iff_not]; omega) (by simp [lastIx, Int.toNat_of_nonneg g1])
        (fun j hj => by rw [lastIx_miss (by omega)]) n
      rw [if_pos (by omega)] at hu
      rw [hu]
      refine ⟨by omega, ?_⟩
      constructor
      · intro e k hk
        rcases Nat.lt_or_ge k i with h' | h'
        · exact h2.1 (by omega) k h'
        · rw [show k = i by omega]; simp [goodB, g1, g2, g3]
      · intro hk
        have := h2.2 (fun k h' => hk k (by omega))
        omega
    | false =>
      have hu : (List.range n).countP (fun (j : Nat) => decide (0 ≤ lastIx sp (j : Int) (i + 1))) = (List.range n).countP (fun (j : Nat) => decide (0 ≤ lastIx sp (j : Int) i)) := by
        apply List.countP_congr
        intro j hj
        have hj' : j < n := by simpa using hj
        simp only [decide_eq_true_eq]
        by_cases e : (atI sp (i : Int)).Txn = (j : Int)
        · have hb := lastIx_bd sp (j : Int) i
          simp only [goodB, e, show (0 : Int) ≤ (j : Int) by omega, show (j : Int) < (n : Int) by omega, decide_true, Bool.true_and, decide_eq_false_iff_not] at hg
          rw [lastIx_hit e]
          omega
        · rw [lastIx_miss e]
      rw [hu]
      refine ⟨by omega, ?_⟩
      constructor
      · intro e; omega
      · intro hk
        have := hk i (by omega)
        rw [hg] at this; cases this

theorem good_all (n : Nat) (sp : List TSpan) : ((List.range n).any fun i => !goodB n sp i) = ((List.range n).any fun (j : Nat) => decide (lastIx sp (j : Int) n < 0)) := by
  have h := (count_good n sp n).2
  have h' : (List.range n).countP (fun (j : Nat) => decide (0 ≤ lastIx sp (j : Int) n)) = n ↔ ∀ j, j < n → 0 ≤ lastIx sp (j : Int) n := by
    have := List.countP_eq_length (p := fun (j : Nat) => decide (0 ≤ lastIx sp (j : Int) n)) (l := List.range n)
    simpa using this
  have hb : ∀ x y : Bool, (x = false ↔ y = false) → x = y := by decide
  apply hb
  simp only [List.any_eq_false, List.mem_range, Bool.not_eq_true', decide_eq_true_eq, Bool.not_eq_false, Int.not_lt]
  exact h.symm.trans h'

def placeL (n : Nat) (sp : List TSpan) (i : Nat) : List Int := (List.range n).map fun (j : Nat) => lastIx sp (j : Int) i

def placeB (n : Nat) (sp : List TSpan) : Bool := decide (sp.length = n) && !((List.range n).any fun (j : Nat) => decide (lastIx sp (j : Int) n < 0))

theorem places_impl {n : Nat} {sp : List TSpan} (hn : n ≤ 200) : F_timeline_places (n : Int) sp = some (if placeB n sp then (placeL n sp n, true) else ([], false)) := by
  unfold F_timeline_places
  by_cases e : (sp.length : Int) = (n : Int)
  case neg =>
    have e2 : ¬ sp.length = n := fun h => e (by omega)
    rw [show ((n : Int) != (sp.length : Int)) = true from bne_iff_ne.2 (by omega)]
    simp [placeB, e2]
  have e2 : sp.length = n := by omega
  simp only [show ((n : Int) != (sp.length : Int)) = false by rw [e]; simp, cond_false, jn_mk, show 0 ≤ (n : Int) by omega, Int.le_refl, true_and, req_t, show 8 * (n : Int).toNat ≤ 281474976710656 by omega]
  have ef : ∀ J : List Int → Option (List Int × Bool), F_timeline_places_L2 (n : Int) J ((((List.replicate (n : Int).toNat (default : Int)).length : Nat) : Int).toNat + 1) (List.replicate (n : Int).toNat (default : Int)) 0 = J (placeL n sp 0) := by
    intro J
    have e0 : List.replicate (n : Int).toNat (default : Int) = (List.range n).map (fun j => if j < 0 then (-1 : Int) else 0) := by
      apply List.ext_getElem (by simp)
      intro i h1 h2
      simp
    have e1 : placeL n sp 0 = (List.range n).map (fun j => if j < n then (-1 : Int) else 0) := by
      apply List.map_congr_left
      intro j hj
      rw [if_pos (by simpa using hj)]; rfl
    rw [e1]
    have key := loopSeq (len := n) (Nat.lt_of_le_of_lt hn (by decide)) (L := fun k s i => F_timeline_places_L2 (n : Int) J k s i) (S := fun i => (List.range n).map (fun j => if j < i then (-1 : Int) else 0)) (J := J) ?_ ?_ (n + 1) 0 (by omega) (by omega)
    · simp only [List.length_replicate, Int.toNat_natCast] at *
      rw [e0]; exact key
    · intro k i hi
      try dsimp only
      rw [F_timeline_places_L2]
      simp only [List.length_replicate, Int.toNat_natCast, show (i : Int) < (n : Int) by omega, decide_true, cond_true, List.length_map, List.length_range, show 0 ≤ (i : Int) by omega, true_and, req_t, map_set]
      congr 1
      apply List.map_congr_left
      intro j hj
      by_cases h1 : j = i
      · simp [h1]
      · simp only [h1, if_false]
        by_cases h2 : j < i
        · simp [h2, show j < i + 1 by omega]
        · simp [h2, show ¬ j < i + 1 by omega]
    · intro k
      try dsimp only
      rw [F_timeline_places_L2]
      simp
  rw [ef]
  refine (loopE (len := n) (Nat.lt_of_le_of_lt hn (by decide)) (L := fun k s i => F_timeline_places_L1 sp (n : Int) (fun x13 => some (x13, true)) k s i) (S := fun i => placeL n sp i) (q := fun i => !goodB n sp i) (E := some ([], false)) (J := fun x => some (x, true)) ?_ ?_ _ 0 (by omega) (by omega) (by intro k hk; omega)).trans ?_
  · intro k i hi _
    try dsimp only
    rw [F_timeline_places_L1]
    simp only [show (i : Int) < (sp.length : Int) by omega, decide_true, cond_true, show 0 ≤ (i : Int) by omega, true_and, req_t]
    by_cases h1 : 0 ≤ (atI sp (i : Int)).Txn
    · by_cases h2 : (atI sp (i : Int)).Txn < (n : Int)
      · have hp : ((placeL n sp i).length : Int) = (n : Int) := by simp [placeL]
        have ha : atI (placeL n sp i) (atI sp (i : Int)).Txn = lastIx sp (atI sp (i : Int)).Txn i := by
          rw [placeL, atI_map _ h1 h2, Int.toNat_of_nonneg h1]
        have hs : (placeL n sp i).set (atI sp (i : Int)).Txn.toNat (i : Int) = placeL n sp (i + 1) := by
          rw [placeL, map_set]
          apply List.map_congr_left
          intro j hj
          simp only [lastIx]
          by_cases h : j = (atI sp (i : Int)).Txn.toNat
          · rw [if_pos h, if_pos (by omega)]
          · rw [if_neg h, if_neg (by omega)]
        by_cases h3 : 0 ≤ lastIx sp (atI sp (i : Int)).Txn i
        · simp [goodB, h1, h2, h3, ha, hp, req, show ¬ lastIx sp (atI sp (i : Int)).Txn i < 0 by omega, show ¬ (atI sp (i : Int)).Txn < 0 by omega, show ¬ (n : Int) ≤ (atI sp (i : Int)).Txn by omega]
        · simp [goodB, h1, h2, h3, ha, hp, hs, req, show ¬ (atI sp (i : Int)).Txn < 0 by omega, show ¬ (n : Int) ≤ (atI sp (i : Int)).Txn by omega, show lastIx sp (atI sp (i : Int)).Txn i < 0 by omega]
      · simp [goodB, h2, req, show (n : Int) ≤ (atI sp (i : Int)).Txn by omega]
    · simp [goodB, h1, req, show (atI sp (i : Int)).Txn < 0 by omega]
  · intro k _
    try dsimp only
    rw [F_timeline_places_L1]
    simp [e]
  · rw [good_all]
    simp only [placeB, e2, decide_true, Bool.true_and]
    cases ((List.range n).any fun (j : Nat) => decide (lastIx sp (j : Int) n < 0)) <;> simp

theorem places_ref {n : Nat} {sp : List TSpan} (hn : n ≤ 200) (hl : sp.length < big) :
    ∃ l, F_clockworkref28_places sp (n : Int) = some (l, placeB n sp) ∧ (placeB n sp = true → l = placeL n sp n) := by
  have key : F_clockworkref28_places sp (n : Int) = cond ((List.range n).any fun (j : Nat) => decide (lastIx sp (j : Int) sp.length < 0)) (some ([], false)) (some (placeL n sp sp.length, (sp.length : Int) == (n : Int))) := by
    unfold F_clockworkref28_places
    rw [jn_mk]
    refine (loopE (len := n) (Nat.lt_of_le_of_lt hn (by decide)) (L := fun k s i => F_clockworkref28_places_L1 (n : Int) sp (fun x6 => some (x6, (sp.length : Int) == (n : Int))) k s i) (S := fun i => (List.range i).map fun (j : Nat) => lastIx sp (j : Int) sp.length) (q := fun (j : Nat) => decide (lastIx sp (j : Int) sp.length < 0)) (E := some ([], false)) (J := fun x => some (x, (sp.length : Int) == (n : Int))) ?_ ?_ _ 0 (by omega) (by omega) (by intro k hk; omega)).trans ?_
    · intro k i hi _
      try dsimp only
      rw [F_clockworkref28_places_L1]
      simp only [show (i : Int) < (n : Int) by omega, decide_true, cond_true, jn_mk]
      have hin : ∀ J : Int → Option (List Int × Bool), F_clockworkref28_places_L2 sp (i : Int) J ((sp.length : Int).toNat + 1) (-1) 0 = J (lastIx sp (i : Int) sp.length) := by
        intro J
        refine loopSeq (len := sp.length) hl (L := fun k s i' => F_clockworkref28_places_L2 sp (i : Int) J k s i') (S := fun m => lastIx sp (i : Int) m) (J := J) ?_ ?_ _ 0 (by omega) (by omega)
        · intro m a ha
          try dsimp only
          rw [F_clockworkref28_places_L2]
          simp only [show (a : Int) < (sp.length : Int) by omega, decide_true, cond_true, show 0 ≤ (a : Int) by omega, true_and, req_t, jn_mk, lastIx]
          by_cases h : (atI sp (a : Int)).Txn = (i : Int)
          · simp [h]
          · rw [show ((atI sp (a : Int)).Txn == (i : Int)) = false from beq_eq_false_iff_ne.2 h]; simp [h]
        · intro m
          try dsimp only
          rw [F_clockworkref28_places_L2]
          simp
      rw [hin]
      simp only [List.length_append, List.length_map, List.length_range, List.length_cons, List.length_nil, show (i + (0 + 1)) * 8 ≤ 140737488355328 by omega, req_t]
      rw [show (List.range (i + 1)).map (fun (j : Nat) => lastIx sp (j : Int) sp.length) = (List.range i).map (fun (j : Nat) => lastIx sp (j : Int) sp.length) ++ [lastIx sp (i : Int) sp.length] by simp [List.range_succ]]
    · intro k _
      try dsimp only
      rw [F_clockworkref28_places_L1]
      simp
    · rfl
  rw [key]
  by_cases e : sp.length = n
  · simp only [placeB, e, decide_true, Bool.true_and, BEq.rfl]
    cases ((List.range n).any fun (j : Nat) => decide (lastIx sp (j : Int) n < 0)) with
    | true => exact ⟨[], rfl, by simp⟩
    | false => exact ⟨_, rfl, fun _ => rfl⟩
  · have e1 : ((sp.length : Int) == (n : Int)) = false := by rw [beq_eq_false_iff_ne]; omega
    simp only [placeB, e, decide_false, Bool.false_and, e1]
    cases ((List.range n).any fun (j : Nat) => decide (lastIx sp (j : Int) sp.length < 0)) with
    | true => exact ⟨[], rfl, by simp⟩
    | false => exact ⟨_, rfl, by simp⟩

end Go.Proofs.Ytfinjeaoicfdeaa
