/-
  CHAPTER 29, PLAIN: the nodes of a placement, closed (part f).
  Conditions: none.
-/
import Derived.Test.YtedbagekceppiaaBe
set_option linter.all false
namespace Go.Proofs.Ytedbagekceppiaa
open Go.ChangeShapes

def nodeL (l : List TPart) : Nat → List Int
  | 0 => []
  | i + 1 => cond ((atI l (i : Int)).Dest != 0) ((nodeL l i ++ [(atI l (i : Int)).Node]) ++ [(atI l (i : Int)).Dest]) (nodeL l i ++ [(atI l (i : Int)).Node])

theorem nodeL_len (l : List TPart) : ∀ i, (nodeL l i).length ≤ 2 * i
  | 0 => by simp [nodeL]
  | i + 1 => by
    have := nodeL_len l i
    simp only [nodeL]
    cases ((atI l (i : Int)).Dest != 0) <;> simp <;> omega

def nodesImplP (p : TPlacement) : List Int := if pvB p = true then compactL (sortL (nodeL p.Parts p.Parts.length)) else []

theorem nodes_impl {p : TPlacement} (hl : p.Parts.length < big) (hs : ∀ x ∈ p.Parts, x.From.length < big ∧ x.Done.length < big) : F_placement_Nodes p = some (nodesImplP p) := by
  unfold F_placement_Nodes
  rw [valid29_impl hl hs, bnd_mk, nodesImplP]
  cases hv : pvB p with
  | false => rfl
  | true =>
    have hle := pvB_len hv
    simp only [Bool.not_true, cond_false, jn_mk]
    refine (loopSeq (len := p.Parts.length) hl (L := fun n s i => F_placement_Nodes_L1 p (fun x6 => req (x6.length < 4611686018427387904) (some (compactL (sortL x6)))) n s i) (S := fun i => nodeL p.Parts i) (J := fun x6 => req (x6.length < 4611686018427387904) (some (compactL (sortL x6)))) ?_ ?_ ((p.Parts.length : Int).toNat + 1) 0 (by omega) (by omega)).trans ?_
    · intro n i hi
      have h1 := nodeL_len p.Parts i
      try dsimp only
      rw [F_placement_Nodes_L1]
      simp only [show (i : Int) < (p.Parts.length : Int) by omega, decide_true, cond_true, show 0 ≤ (i : Int) by omega, true_and, req_t, jn_mk, List.length_append, List.length_cons, List.length_nil, show ((nodeL p.Parts i).length + (0 + 1)) * 8 ≤ 140737488355328 by omega, show ((nodeL p.Parts i).length + (0 + 1) + (0 + 1)) * 8 ≤ 140737488355328 by omega, nodeL]
      cases ((atI p.Parts (i : Int)).Dest != 0) <;> rfl
    · intro n
      try dsimp only
      rw [F_placement_Nodes_L1]
      simp
    · have h1 := nodeL_len p.Parts p.Parts.length
      rw [req_pos (by omega)]; rfl

def hasN (l : List TPart) (x : Int) : Nat → Bool
  | 0 => false
  | k + 1 => (hasN l x k || ((atI l (k : Int)).Node == x)) || ((atI l (k : Int)).Dest == x)

def pickN (l : List TPart) : Nat → List Int
  | 0 => []
  | i + 1 => if i = 0 then [] else cond (hasN l (i : Int) l.length) (pickN l i ++ [(i : Int)]) (pickN l i)

theorem pickN_len (l : List TPart) : ∀ i, (pickN l i).length ≤ i
  | 0 => by simp [pickN]
  | i + 1 => by
    have := pickN_len l i
    simp only [pickN]
    split
    · simp
    · cases hasN l (i : Int) l.length <;> simp <;> omega

def nodesRefP (p : TPlacement) : List Int := if pvB p = true then pickN p.Parts 17 else []

theorem nodes_ref {p : TPlacement} (hl : p.Parts.length < big) (hs : ∀ x ∈ p.Parts, x.From.length < big ∧ x.Done.length < big) : F_clockworkref29_Nodes p = some (nodesRefP p) := by
  unfold F_clockworkref29_Nodes
  rw [jn_mk, nodesRefP]
  cases hv : pvB p with
  | false =>
    rw [F_clockworkref29_Nodes_L1, valid29_ref hl hs, hv]
    rfl
  | true =>
    refine (loopSeqFrom (len := 17) (i0 := 1) (by decide) (L := fun n s i => F_clockworkref29_Nodes_L1 p (fun x5 => some x5) n s i) (S := fun i => pickN p.Parts i) (J := fun x => some x) ?_ ?_ 1000000 1 (by omega) (by omega) (by omega)).trans ?_
    · intro n i hi1 hi
      have h1 := pickN_len p.Parts i
      try dsimp only
      rw [F_clockworkref29_Nodes_L1, valid29_ref hl hs, hv]
      have hL2 : ∀ J : Bool → Option (List Int), F_clockworkref29_Nodes_L2 p (i : Int) J ((p.Parts.length : Int).toNat + 1) false 0 = J (hasN p.Parts (i : Int) p.Parts.length) := by
        intro J
        refine loopSeq (len := p.Parts.length) hl (L := fun n s k => F_clockworkref29_Nodes_L2 p (i : Int) J n s k) (S := fun k => hasN p.Parts (i : Int) k) (J := J) ?_ ?_ _ 0 (by omega) (by omega)
        · intro n k hk
          try dsimp only
          rw [F_clockworkref29_Nodes_L2]
          simp only [show (k : Int) < (p.Parts.length : Int) by omega, decide_true, cond_true, show 0 ≤ (k : Int) by omega, and_self, implies_true, req_t, hasN]
          cases hasN p.Parts (i : Int) k with
          | true => rfl
          | false =>
            simp only [BEq.rfl, cond_true, Bool.false_or]
            cases ((atI p.Parts (k : Int)).Node == (i : Int)) <;> rfl
        · intro n
          try dsimp only
          rw [F_clockworkref29_Nodes_L2]
          simp
      simp only [show (i : Int) ≤ 16 by omega, decide_true, BEq.rfl, gcall_t, bnd_mk, Bool.and_self, cond_true, jn_mk, hL2, List.length_append, List.length_cons, List.length_nil, show ((pickN p.Parts i).length + (0 + 1)) * 8 ≤ 140737488355328 by omega, req_t, pickN, show ¬ i = 0 by omega, if_false]
      cases hasN p.Parts (i : Int) p.Parts.length <;> rfl
    · intro n
      try dsimp only
      rw [F_clockworkref29_Nodes_L1]
      rfl
    · rfl

end Go.Proofs.Ytedbagekceppiaa
