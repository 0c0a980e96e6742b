/-
  CHAPTER 29, PLAIN: small placements, new placements, equal placements (part i).
  Conditions: none.
-/
import Derived.Test.YtdkakeiccefbgaaDh
set_option linter.all false
namespace Go.Proofs.Ytdkakeiccefbgaa
open Go.ChangeShapes

def fewB29 (p : TPlacement) : Bool := decide (p.Parts.length ≤ 40) && !(p.Parts.any fun x => decide (100 < (x.From.length : Int)) || decide (100 < (x.Done.length : Int)))

theorem few29 {p : TPlacement} (hl : p.Parts.length < big) : F_clockworklaw29_few p = some (fewB29 p) := by
  unfold F_clockworklaw29_few
  by_cases h : (40 : Int) < (p.Parts.length : Int)
  · simp [h, fewB29, show ¬ p.Parts.length ≤ 40 by omega]
  simp only [h, decide_false, cond_false, jn_mk]
  refine (loopAny0 (l := p.Parts) (L := fun n i => F_clockworklaw29_few_L1 p (some true) n i) (q := fun x => decide (100 < (x.From.length : Int)) || decide (100 < (x.Done.length : Int))) (E := some false) (J := some true) hl (by omega) ?_ ?_).trans ?_
  · intro n i hi
    try dsimp only
    rw [F_clockworklaw29_few_L1]
    simp only [show (i : Int) < (p.Parts.length : Int) by omega, decide_true, cond_true, show 0 ≤ (i : Int) by omega, true_and, implies_true, req_t, atI_nat hi]
    by_cases h1 : (100 : Int) < (p.Parts[i].From.length : Int)
    · simp [h1]
    · simp only [h1, decide_false, BEq.rfl, cond_true]
  · intro n
    try dsimp only
    rw [F_clockworklaw29_few_L1]
    simp
  · simp only [fewB29, show p.Parts.length ≤ 40 by omega, decide_true, Bool.true_and]
    cases (p.Parts.any fun x => decide (100 < (x.From.length : Int)) || decide (100 < (x.Done.length : Int))) <;> rfl

theorem few29_facts {p : TPlacement} (h : fewB29 p = true) : p.Parts.length ≤ 40 ∧ (∀ x ∈ p.Parts, x.From.length < big ∧ x.Done.length < big) ∧ ∀ x ∈ p.Parts, x.From.length ≤ 1000 := by
  simp only [fewB29, Bool.and_eq_true, decide_eq_true_eq, Bool.not_eq_true', List.any_eq_false, Bool.or_eq_true, not_or, Int.not_lt] at h
  refine ⟨h.1, fun x hx => ?_, fun x hx => ?_⟩
  · have := h.2 x hx
    simp only [big]
    omega
  · have := h.2 x hx
    omega

def newP (n : Int) : TPlacement × Int := if 1 ≤ n ∧ n ≤ 16 then (⟨0, [⟨1, [], n, 0, []⟩]⟩, 0) else (⟨0, []⟩, 1)

theorem new_impl (n : Int) : F_placement_New n = some (newP n) := by
  unfold F_placement_New F_placement_node newP
  by_cases h1 : 1 ≤ n <;> by_cases h2 : n ≤ 16 <;> simp [h1, h2]

theorem same29_self {p : TPlacement} (hl : p.Parts.length < big) : F_clockworkref29_Same p p = some true := by
  unfold F_clockworkref29_Same
  simp only [bne_self_eq_false, Bool.or_self, cond_false, jn_mk]
  refine (loopAny0 (l := p.Parts) (L := fun n i => F_clockworkref29_Same_L1 p p (some true) n i) (q := fun _ => false) (E := some false) (J := some true) hl (by omega) ?_ ?_).trans ?_
  · intro n i hi
    try dsimp only
    rw [F_clockworkref29_Same_L1]
    simp only [show (i : Int) < (p.Parts.length : Int) by omega, decide_true, cond_true, show 0 ≤ (i : Int) by omega, true_and, req_t, BEq.rfl, Bool.and_self, Bool.not_true, cond_false]
  · intro n
    try dsimp only
    rw [F_clockworkref29_Same_L1]
    simp
  · rw [show (p.Parts.any fun _ => false) = false by rw [List.any_eq_false]; simp]; rfl

theorem new_valid (n : Int) : pvB (newP n).1 = ((newP n).2 == 0) := by
  unfold newP
  by_cases h : 1 ≤ n ∧ n ≤ 16
  · rw [if_pos h]
    have h1 : ¬ n < 1 := by omega
    have h2 : ¬ 16 < n := by omega
    simp [pvB, headBad, badPart, atI, boundB, movesB, h1, h2]
  · rw [if_neg h]; rfl

end Go.Proofs.Ytdkakeiccefbgaa
