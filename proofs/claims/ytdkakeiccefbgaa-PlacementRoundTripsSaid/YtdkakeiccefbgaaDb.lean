/-
  CHAPTER 29, PLAIN: valid placements, closed (part b).
  Conditions: none.
-/
import Derived.Test.YtdkakeiccefbgaaDa
set_option linter.all false
namespace Go.Proofs.Ytdkakeiccefbgaa
open Go.ChangeShapes

theorem firstIx_nonneg {α : Type} (q : α → Bool) : ∀ (l : List α) (i : Nat), decide (0 ≤ firstIx q l i) = l.any q
  | [], i => by simp [firstIx]
  | x :: l, i => by
    have ih := firstIx_nonneg q l (i + 1)
    by_cases h : q x = true
    · simp [firstIx, h]
    · simp only [Bool.not_eq_true] at h
      rw [List.any_cons, h, Bool.false_or, ← ih]
      simp [firstIx, h]

theorem at_mem29 {α : Type} [Inhabited α] {l : List α} {i : Nat} (h : i < l.length) : atI l (i : Int) ∈ l := by
  rw [atI_nat h]; exact List.getElem_mem h

def nextF (l : List TPart) (i : Nat) : Str := cond (decide (i + 1 < l.length)) (atI l ((i + 1 : Nat) : Int)).From []

def badPart (l : List TPart) (i : Nat) : Bool :=
  ((((((!boundB (atI l (i : Int)).From) || (decide (0 < i) && !sLt (atI l ((i : Int) - 1)).From (atI l (i : Int)).From)) || (decide ((atI l (i : Int)).Id < 1))) || (decide (1099511627776 < (atI l (i : Int)).Id))) || (decide ((atI l (i : Int)).Node < 1))) || (decide (16 < (atI l (i : Int)).Node)) ||
    (!movesB (atI l (i : Int)) (nextF l i) (decide (i + 1 = l.length)))) || (l.take i).any fun y => y.Id == (atI l (i : Int)).Id

def headBad (p : TPlacement) : Bool := (((decide (p.Version < 0)) || (decide (1099511627776 < p.Version))) || (decide ((p.Parts.length : Int) < 1))) || (decide (16 < (p.Parts.length : Int)))

def pvB (p : TPlacement) : Bool := !headBad p && ((atI p.Parts 0).From == ([] : Str)) && !((List.range p.Parts.length).any fun i => badPart p.Parts i)

theorem valid29_ref {p : TPlacement} (hl : p.Parts.length < big) (hs : ∀ x ∈ p.Parts, x.From.length < big ∧ x.Done.length < big) : F_clockworkref29_Valid p = some (pvB p) := by
  unfold F_clockworkref29_Valid
  have hb : ((((decide (p.Version < (0 : Int))) || (decide ((1099511627776 : Int) < p.Version))) || (decide (((p.Parts.length : Nat) : Int) < (1 : Int)))) || (decide ((16 : Int) < ((p.Parts.length : Nat) : Int)))) = headBad p := rfl
  rw [hb, pvB]
  cases hh : headBad p with
  | true => simp [req]
  | false =>
    have hlen : 1 ≤ p.Parts.length := by
      simp only [headBad, Bool.or_eq_false_iff, decide_eq_false_iff_not] at hh
      omega
    simp only [show (0 : Int) < (p.Parts.length : Int) by omega, Int.le_refl, and_self, implies_true, req_t, BEq.rfl, cond_true, Bool.false_or, Bool.not_false, Bool.true_and, jn_mk]
    cases h0 : (atI p.Parts 0).From == ([] : Str) with
    | false => rw [show ((atI p.Parts 0).From != ([] : Str)) = true by simp [bne, h0]]; rfl
    | true =>
      rw [show ((atI p.Parts 0).From != ([] : Str)) = false by simp [bne, h0], cond_false]
      refine (loopRng (len := p.Parts.length) hl (L := fun n i => F_clockworkref29_Valid_L1 p (some true) n i) (q := fun i => badPart p.Parts i) (E := some false) (J := some true) (by omega) ?_ ?_).trans ?_
      · intro n i hi
        have hm := hs _ (at_mem29 hi)
        try dsimp only
        rw [F_clockworkref29_Valid_L1]
        have hwr : IntKind.i64.wrap ((i : Int) + 1) = ((i + 1 : Nat) : Int) := wrap_succ (by have : p.Parts.length < 9223372036854775808 := hl; omega)
        have hdec : IntKind.i64.wrap ((i : Int) - 1) = (i : Int) - 1 := w64 (by omega) (by have : p.Parts.length < 9223372036854775808 := hl; omega)
        have hlast : (((i + 1 : Nat) : Int) == (p.Parts.length : Int)) = decide (i + 1 = p.Parts.length) := by
          rw [Bool.eq_iff_iff]; simp only [beq_iff_eq, decide_eq_true_eq]; omega
        have e0 : ((0 : Int) < (i : Int)) = (0 < i) := by apply propext; omega
        have hL2 : ∀ J : Option Bool, F_clockworkref29_Valid_L2 (i : Int) p J ((i : Int).toNat + 1) 0 = cond ((p.Parts.take i).any fun y => y.Id == (atI p.Parts (i : Int)).Id) (some false) J := by
          intro J
          have hti : (p.Parts.take i).length = i := by simp; omega
          refine loopAny0 (l := p.Parts.take i) (L := fun n k => F_clockworkref29_Valid_L2 (i : Int) p J n k) (q := fun y => y.Id == (atI p.Parts (i : Int)).Id) (E := some false) (J := J) (by rw [hti]; exact Nat.lt_trans hi hl) (by rw [hti]; omega) ?_ ?_
          · intro n k hk
            have hk' : k < i := by rw [hti] at hk; exact hk
            try dsimp only
            rw [F_clockworkref29_Valid_L2]
            simp only [show (k : Int) < (i : Int) by omega, decide_true, cond_true, show 0 ≤ (k : Int) by omega, show (k : Int) < (p.Parts.length : Int) by omega, and_self, req_t, List.getElem_take]
            rw [atI_nat (show k < p.Parts.length by omega)]
          · intro n
            try dsimp only
            rw [F_clockworkref29_Valid_L2, hti]
            simp
        simp only [show (i : Int) < (p.Parts.length : Int) by omega, decide_true, cond_true, show 0 ≤ (i : Int) by omega, true_and, req_t, jn_mk, hwr, hdec, hlast, bound_ref hm.1, bnd_mk, hL2, moves_ref hm.2, e0]
        by_cases h : i + 1 < p.Parts.length
        all_goals (
          first
            | (have hn : nextF p.Parts i = (atI p.Parts ((i + 1 : Nat) : Int)).From := by simp [nextF, h]
               simp only [show ((i + 1 : Nat) : Int) < (p.Parts.length : Int) by omega, decide_true, cond_true, show 0 ≤ ((i + 1 : Nat) : Int) by omega, and_self, req_t]
               rw [← hn])
            | (have hn : nextF p.Parts i = [] := by simp [nextF, h]
               simp only [show ¬ ((i + 1 : Nat) : Int) < (p.Parts.length : Int) by omega, decide_false, cond_false]
               rw [← hn])
          by_cases hi0 : 0 < i
          · rw [req_pos (by intro _; constructor <;> omega)]
            simp only [badPart, hi0, decide_true, Bool.true_and, BEq.rfl]
            cases boundB (atI p.Parts (i : Int)).From with
            | false => rfl
            | true =>
              simp only [Bool.not_true, BEq.rfl, Bool.and_self, cond_true, Bool.false_or]
              generalize ((!sLt (atI p.Parts ((i : Int) - 1)).From (atI p.Parts (i : Int)).From) || decide ((atI p.Parts (i : Int)).Id < 1) || decide (1099511627776 < (atI p.Parts (i : Int)).Id) || decide ((atI p.Parts (i : Int)).Node < 1) || decide (16 < (atI p.Parts (i : Int)).Node)) = A
              cases A with
              | true => rfl
              | false =>
                cases movesB (atI p.Parts (i : Int)) (nextF p.Parts i) (decide (i + 1 = p.Parts.length)) <;> cases ((p.Parts.take i).any fun y => y.Id == (atI p.Parts (i : Int)).Id) <;> rfl
          · rw [req_pos (by intro h; simp [hi0] at h)]
            simp only [badPart, hi0, decide_false, Bool.false_and, Bool.or_false]
            generalize ((!boundB (atI p.Parts (i : Int)).From) || decide ((atI p.Parts (i : Int)).Id < 1) || decide (1099511627776 < (atI p.Parts (i : Int)).Id) || decide ((atI p.Parts (i : Int)).Node < 1) || decide (16 < (atI p.Parts (i : Int)).Node)) = A
            cases A with
            | true => rfl
            | false =>
              cases movesB (atI p.Parts (i : Int)) (nextF p.Parts i) (decide (i + 1 = p.Parts.length)) <;> cases ((p.Parts.take i).any fun y => y.Id == (atI p.Parts (i : Int)).Id) <;> rfl)
      · intro n
        try dsimp only
        rw [F_clockworkref29_Valid_L1]
        simp
      · cases ((List.range p.Parts.length).any fun i => badPart p.Parts i) <;> rfl

end Go.Proofs.Ytdkakeiccefbgaa
