/-
  CHAPTER 29, PLAIN: valid placements: the program's test is the same (part c).
  Conditions: none.
-/
import Derived.Test.YtcgmfmpfmfjmoaaGreatEb
set_option linter.all false
namespace Go.Proofs.YtcgmfmpfmfjmoaaGreat
open Go.ChangeShapes

theorem badPart_eq (l : List TPart) (i : Nat) : badPart l i = (((!boundB (atI l (i : Int)).From) || (decide (0 < i) && !sLt (atI l ((i : Int) - 1)).From (atI l (i : Int)).From)) ||
    ((((!(decide (1 ≤ (atI l (i : Int)).Id) && decide ((atI l (i : Int)).Id ≤ 1099511627776))) || (!(decide (1 ≤ (atI l (i : Int)).Node) && decide ((atI l (i : Int)).Node ≤ 16)))) ||
    (!movesB (atI l (i : Int)) (nextF l i) (decide (i + 1 = l.length)))) || (l.take i).any fun y => y.Id == (atI l (i : Int)).Id)) := by
  have h1 : (!(decide (1 ≤ (atI l (i : Int)).Id) && decide ((atI l (i : Int)).Id ≤ 1099511627776))) = (decide ((atI l (i : Int)).Id < 1) || decide (1099511627776 < (atI l (i : Int)).Id)) := by
    rw [Bool.eq_iff_iff]; simp only [Bool.not_eq_true', Bool.and_eq_false_iff, Bool.or_eq_true, decide_eq_true_eq, decide_eq_false_iff_not]; omega
  have h2 : (!(decide (1 ≤ (atI l (i : Int)).Node) && decide ((atI l (i : Int)).Node ≤ 16))) = (decide ((atI l (i : Int)).Node < 1) || decide (16 < (atI l (i : Int)).Node)) := by
    rw [Bool.eq_iff_iff]; simp only [Bool.not_eq_true', Bool.and_eq_false_iff, Bool.or_eq_true, decide_eq_true_eq, decide_eq_false_iff_not]; omega
  rw [h1, h2]
  simp only [badPart, Bool.or_assoc]

theorem valid29_impl {p : TPlacement} (hl : p.Parts.length < big) (hs : ∀ x ∈ p.Parts, x.From.length < big ∧ x.Done.length < big) : F_placement_Valid p = some (pvB p) := by
  unfold F_placement_Valid
  have hb : ((((decide (p.Version < (0 : Int))) || (decide ((1099511627776 : Int) < p.Version))) || (decide (((p.Parts.length : Nat) : Int) < (1 : Int)))) || (decide ((16 : Int) < ((p.Parts.length : Nat) : Int)))) = headBad p := rfl
  rw [hb, pvB]
  cases hh : headBad p with
  | true => simp [req]
  | false =>
    have hlen : 1 ≤ p.Parts.length := by
      simp only [headBad, Bool.or_eq_false_iff, decide_eq_false_iff_not] at hh
      omega
    simp only [show (0 : Int) < (p.Parts.length : Int) by omega, Int.le_refl, and_self, implies_true, req_t, BEq.rfl, cond_true, Bool.false_or, Bool.not_false, Bool.true_and, jn_mk]
    cases h0 : (atI p.Parts 0).From == ([] : Str) with
    | false => rw [show ((atI p.Parts 0).From != ([] : Str)) = true by simp [bne, h0]]; rfl
    | true =>
      rw [show ((atI p.Parts 0).From != ([] : Str)) = false by simp [bne, h0], cond_false]
      refine (loopRng (len := p.Parts.length) hl (L := fun n i => F_placement_Valid_L1 p (some true) n i) (q := fun i => badPart p.Parts i) (E := some false) (J := some true) (by omega) ?_ ?_).trans ?_
      · intro n i hi
        have hm := hs _ (at_mem29 hi)
        try dsimp only
        rw [F_placement_Valid_L1]
        have hdec : IntKind.i64.wrap ((i : Int) - 1) = (i : Int) - 1 := w64 (by omega) (by have : p.Parts.length < 9223372036854775808 := hl; omega)
        have e0 : ((0 : Int) < (i : Int)) = (0 < i) := by apply propext; omega
        have hf : ∀ g : Bool, F_placement_find (cond g ((p.Parts.take (i : Int).toNat).drop (0 : Int).toNat) ([] : List TPart)) (atI p.Parts (i : Int)).Id = some (findP (cond g (p.Parts.take i) []) (atI p.Parts (i : Int)).Id) := by
          intro g
          rw [find_impl (by cases g <;> simp; exact Nat.lt_of_le_of_lt (Nat.min_le_right _ _) hl)]
          rfl
        have hd : decide (0 ≤ findP (p.Parts.take i) (atI p.Parts (i : Int)).Id) = (p.Parts.take i).any fun y => y.Id == (atI p.Parts (i : Int)).Id := firstIx_nonneg _ _ _
        have hmv : F_placement_validMove p.Parts (i : Int) = some (movesB (atI p.Parts (i : Int)) (nextF p.Parts i) (decide (i + 1 = p.Parts.length))) := moves_impl hi hl hm.2
        rw [hmv, bound_impl hm.1, badPart_eq]
        simp only [hf, hdec, e0, show (i : Int) < (p.Parts.length : Int) by omega, decide_true, cond_true, show 0 ≤ (i : Int) by omega, show (i : Int) ≤ (p.Parts.length : Int) by omega, Int.le_refl, and_self, implies_true, true_and, req_t, F_placement_number, F_placement_node, bnd_mk]
        rw [← hd]
        by_cases hi0 : 0 < i
        · simp only [hi0, decide_true, Bool.true_and, Bool.and_true, BEq.rfl, gcall_t, bnd_mk, show 0 ≤ (i : Int) - 1 by omega, show (i : Int) - 1 < (p.Parts.length : Int) by omega, and_self, implies_true, req_t]
          cases boundB (atI p.Parts (i : Int)).From with
          | false => rfl
          | true =>
            simp only [Bool.not_true, BEq.rfl, cond_true, Bool.false_or]
            cases sLt (atI p.Parts ((i : Int) - 1)).From (atI p.Parts (i : Int)).From with
            | false => rfl
            | true =>
              cases (decide (1 ≤ (atI p.Parts (i : Int)).Id) && decide ((atI p.Parts (i : Int)).Id ≤ 1099511627776)) <;> cases (decide (1 ≤ (atI p.Parts (i : Int)).Node) && decide ((atI p.Parts (i : Int)).Node ≤ 16)) <;> cases movesB (atI p.Parts (i : Int)) (nextF p.Parts i) (decide (i + 1 = p.Parts.length)) <;> rfl
        · have hi' : i = 0 := by omega
          subst hi'
          have hbd : boundB (atI p.Parts ((0 : Nat) : Int)).From = true := by
            have : (atI p.Parts ((0 : Nat) : Int)).From = [] := by simpa using h0
            rw [this]; rfl
          rw [hbd]
          simp only [Nat.lt_irrefl, decide_false, Bool.false_and, Bool.and_false, Bool.or_false, Bool.not_true, Bool.false_or, cond_false, Bool.false_eq_true, false_implies, req_t]
          cases (decide (1 ≤ (atI p.Parts ((0 : Nat) : Int)).Id) && decide ((atI p.Parts ((0 : Nat) : Int)).Id ≤ 1099511627776)) <;> cases (decide (1 ≤ (atI p.Parts ((0 : Nat) : Int)).Node) && decide ((atI p.Parts ((0 : Nat) : Int)).Node ≤ 16)) <;> cases movesB (atI p.Parts ((0 : Nat) : Int)) (nextF p.Parts 0) (decide (0 + 1 = p.Parts.length)) <;> rfl
      · intro n
        try dsimp only
        rw [F_placement_Valid_L1]
        simp
      · cases ((List.range p.Parts.length).any fun i => badPart p.Parts i) <;> rfl

end Go.Proofs.YtcgmfmpfmfjmoaaGreat
