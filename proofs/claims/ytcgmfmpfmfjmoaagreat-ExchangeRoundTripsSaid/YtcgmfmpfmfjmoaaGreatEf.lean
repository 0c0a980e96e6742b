/-
  CHAPTER 29, PLAIN: the nodes of a placement, closed (part f).
  Conditions: none.
-/
import Derived.Test.YtcgmfmpfmfjmoaaGreatEe
set_option linter.all false
namespace Go.Proofs.YtcgmfmpfmfjmoaaGreat
open Go.ChangeShapes

def nodeL (l : List TPart) : Nat → List Int
  | 0 => []
  | i + 1 => cond ((atI l (i : Int)).Dest != 0) ((nodeL l i ++ [(atI l (i : Int)).Node]) ++ [(atI l (i : Int)).Dest]) (nodeL l i ++ [(atI l (i : Int)).Node])

theorem nodeL_len (l : List TPart) : ∀ i, (nodeL l i).length ≤ 2 * i
  | 0 => by simp [nodeL]
  | i + 1 => by
    have := nodeL_len l i
    simp only [nodeL]
    cases ((atI l (i : Int)).Dest != 0) <;> simp <;> omega

def nodesImplP (p : TPlacement) : List Int := if pvB p = true then compactL (sortL (nodeL p.Parts p.Parts.length)) else []

theorem nodes_impl {p : TPlacement} (hl : p.Parts.length < big) (hs : ∀ x ∈ p.Parts, x.From.length < big ∧ x.Done.length < big) : F_placement_Nodes p = some (nodesImplP p) := by
  unfold F_placement_Nodes
  rw [valid29_impl hl hs, bnd_mk, nodesImplP]
  cases hv : pvB p with
  | false => rfl
  | true =>
    have hle := pvB_len hv
    simp only [Bool.not_true, cond_false, jn_mk]
    refine (loopSeq (len := p.Parts.length) hl (L := fun n s i => F_placement_Nodes_L1 p (fun x6 => req (x6.length < 4611686018427387904) (some (compactL (sortL x6)))) n s i) (S := fun i => nodeL p.Parts i) (J := fun x6 => req (x6.length < 4611686018427387904) (some (compactL (sortL x6)))) ?_ ?_ ((p.Parts.length : Int).toNat + 1) 0 (by omega) (by omega)).trans ?_
    · intro n i hi
      have h1 := nodeL_len p.Parts i
      try dsimp only
      rw [F_placement_Nodes_L1]
      simp only [show (i : Int) < (p.Parts.length : Int) by omega, decide_true, cond_true, show 0 ≤ (i : Int) by omega, true_and, req_t, jn_mk, List.length_append, List.length_cons, List.length_nil, show ((nodeL p.Parts i).length + (0 + 1)) * 8 ≤ 140737488355328 by omega, show ((nodeL p.Parts i).length + (0 + 1) + (0 + 1)) * 8 ≤ 140737488355328 by omega, nodeL]
      cases ((atI p.Parts (i : Int)).Dest != 0) <;> rfl
    · intro n
      try dsimp only
      rw [F_placement_Nodes_L1]
      simp
    · have h1 := nodeL_len p.Parts p.Parts.length
      rw [req_pos (by omega)]; rfl

def hasN (l : List TPart) (x : Int) : Nat → Bool
  | 0 => false
  | k + 1 => (hasN l x k || ((atI l (k : Int)).Node == x)) || ((atI l (k : Int)).Dest == x)

def pickN (l : List TPart) : Nat → List Int
  | 0 => []
  | i + 1 => if i = 0 then [] else cond (hasN l (i : Int) l.length) (pickN l i ++ [(i : Int)]) (pickN l i)

theorem pickN_len (l : List TPart) : ∀ i, (pickN l i).length ≤ i
  | 0 => by simp [pickN]
  | i + 1 => by
    have := pickN_len l i
    simp only [pickN]
    split
    · simp
    · cases hasN l (i : Int) l.length <;> simp <;> omega

def nodesRefP (p : TPlacement) : List Int := if pvB p = true then pickN p.Parts 17 else []

end Go.Proofs.YtcgmfmpfmfjmoaaGreat
