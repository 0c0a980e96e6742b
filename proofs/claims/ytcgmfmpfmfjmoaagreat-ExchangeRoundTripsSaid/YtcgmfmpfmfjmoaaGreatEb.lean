/-
  CHAPTER 29, PLAIN: valid placements, closed (part b).
  Conditions: none.
-/
import Derived.Test.YtcgmfmpfmfjmoaaGreatEa
set_option linter.all false
namespace Go.Proofs.YtcgmfmpfmfjmoaaGreat
open Go.ChangeShapes

theorem firstIx_nonneg {α : Type} (q : α → Bool) : ∀ (l : List α) (i : Nat), decide (0 ≤ firstIx q l i) = l.any q
  | [], i => by simp [firstIx]
  | x :: l, i => by
    have ih := firstIx_nonneg q l (i + 1)
    by_cases h : q x = true
    · simp [firstIx, h]
    · simp only [Bool.not_eq_true] at h
      rw [List.any_cons, h, Bool.false_or, ← ih]
      simp [firstIx, h]

theorem at_mem29 {α : Type} [Inhabited α] {l : List α} {i : Nat} (h : i < l.length) : atI l (i : Int) ∈ l := by
  rw [atI_nat h]; exact List.getElem_mem h

def nextF (l : List TPart) (i : Nat) : Str := cond (decide (i + 1 < l.length)) (atI l ((i + 1 : Nat) : Int)).From []

def badPart (l : List TPart) (i : Nat) : Bool :=
  ((((((!boundB (atI l (i : Int)).From) || (decide (0 < i) && !sLt (atI l ((i : Int) - 1)).From (atI l (i : Int)).From)) || (decide ((atI l (i : Int)).Id < 1))) || (decide (1099511627776 < (atI l (i : Int)).Id))) || (decide ((atI l (i : Int)).Node < 1))) || (decide (16 < (atI l (i : Int)).Node)) ||
    (!movesB (atI l (i : Int)) (nextF l i) (decide (i + 1 = l.length)))) || (l.take i).any fun y => y.Id == (atI l (i : Int)).Id

def headBad (p : TPlacement) : Bool := (((decide (p.Version < 0)) || (decide (1099511627776 < p.Version))) || (decide ((p.Parts.length : Int) < 1))) || (decide (16 < (p.Parts.length : Int)))

def pvB (p : TPlacement) : Bool := !headBad p && ((atI p.Parts 0).From == ([] : Str)) && !((List.range p.Parts.length).any fun i => badPart p.Parts i)

end Go.Proofs.YtcgmfmpfmfjmoaaGreat
