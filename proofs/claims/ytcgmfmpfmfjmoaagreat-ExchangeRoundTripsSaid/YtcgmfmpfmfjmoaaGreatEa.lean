/-
  CHAPTER 29, PLAIN: bounds, moves and finding a partition, closed (part a).
  Conditions: none.
-/
import Derived.Test.YtcgmfmpfmfjmoaaGreatLc
import Derived.Test.YtcgmfmpfmfjmoaaGreatHe
set_option linter.all false
namespace Go.Proofs.YtcgmfmpfmfjmoaaGreat
open Go.ChangeShapes

abbrev big : Nat := 9223372036854775808

def boundB (s : Str) : Bool := decide (s.length ≤ 24) && !((List.range s.length).any fun i => decide (byteAt s i < 33) || decide (126 < byteAt s i))

theorem bound_impl {s : Str} (hs : s.length < big) : F_placement_bound s = some (boundB s) := by
  unfold F_placement_bound
  simp only [jn_mk]
  refine (loopRng (len := s.length) (L := fun n i => F_placement_bound_L1 s (some (decide ((s.length : Int) ≤ (24 : Int)))) n i) (q := fun i => decide (byteAt s i < 33) || decide (126 < byteAt s i)) (E := some false) (J := some (decide ((s.length : Int) ≤ (24 : Int)))) hs (by omega) ?_ ?_).trans ?_
  · intro n i hi
    try dsimp only
    rw [F_placement_bound_L1]
    simp only [show (i : Int) < (s.length : Int) by omega, decide_true, cond_true, show 0 ≤ (i : Int) by omega, true_and, implies_true, req_t, Int.toNat_natCast]
  · intro n
    try dsimp only
    rw [F_placement_bound_L1]
    simp
  · have e2 : ((s.length : Int) ≤ 24) = (s.length ≤ 24) := by apply propext; omega
    simp only [e2, boundB]
    cases ((List.range s.length).any fun i => decide (byteAt s i < 33) || decide (126 < byteAt s i)) <;> simp

/-- The first place that meets a test, or -1. -/
def firstIx {α : Type} (q : α → Bool) : List α → Nat → Int
  | [], _ => -1
  | x :: l, i => if q x = true then (i : Int) else firstIx q l (i + 1)

theorem loopFirst {α : Type} {l : List α} (hl : l.length < 9223372036854775808) {L : Nat → Int → Option Int} {q : α → Bool}
    (h1 : ∀ n (i : Nat) (h : i < l.length), L (n + 1) (i : Int) = cond (q l[i]) (some (i : Int)) (L n (IntKind.i64.wrap ((i : Int) + 1))))
    (h0 : ∀ n, L (n + 1) (l.length : Int) = some (-1)) : ∀ n i, i ≤ l.length → l.length - i < n → L n (i : Int) = some (firstIx q (l.drop i) i) := by
  intro n
  induction n with
  | zero => intro i _ h; omega
  | succ n ih =>
    intro i hi hn
    rcases Nat.lt_or_ge i l.length with h | h
    · rw [h1 n i h, wrap_succ (by omega), ih (i + 1) (by omega) (by omega), List.drop_eq_getElem_cons h, firstIx]
      cases q l[i] <;> simp
    · have : i = l.length := by omega
      subst this
      rw [h0]; simp [firstIx]

def findP (l : List TPart) (id : Int) : Int := firstIx (fun x => x.Id == id) l 0

theorem find_impl {l : List TPart} {id : Int} (hl : l.length < big) : F_placement_find l id = some (findP l id) := by
  unfold F_placement_find F_slices_IndexFunc_api_Part_api_Part
  simp only [jn_mk]
  rw [show F_slices_IndexFunc_api_Part_api_Part_L1 l (fun y0 => F_placement_find_1 y0 id) (some (-1)) ((l.length : Int).toNat + 1) 0 = some (findP l id) from ?_]
  · rfl
  refine loopFirst (l := l) hl (L := fun n i => F_slices_IndexFunc_api_Part_api_Part_L1 l (fun y0 => F_placement_find_1 y0 id) (some (-1)) n i) (q := fun x => x.Id == id) ?_ ?_ _ 0 (by omega) (by omega)
  · intro n i hi
    try dsimp only
    rw [F_slices_IndexFunc_api_Part_api_Part_L1]
    simp only [show (i : Int) < (l.length : Int) by omega, decide_true, cond_true, show 0 ≤ (i : Int) by omega, true_and, req_t, atI_nat hi, F_placement_find_1, bnd_mk]
  · intro n
    try dsimp only
    rw [F_slices_IndexFunc_api_Part_api_Part_L1]
    simp

/-- A partition moves in a permitted way or not at all. -/
def movesB (x : TPart) (next : Str) (last : Bool) : Bool := cond (x.Dest == 0) (x.Done == ([] : Str)) ((((((decide (1 ≤ x.Dest)) && (decide (x.Dest ≤ 16))) && (x.Dest != x.Node)) && boundB x.Done) && (!sLt x.Done x.From)) && (last || (sLt x.Done next)))

theorem moves_impl {l : List TPart} {i : Nat} (hi : i < l.length) (hl : l.length < big) (hs : (atI l (i : Int)).Done.length < big) :
    F_placement_validMove l (i : Int) = some (movesB (atI l (i : Int)) (cond (decide (i + 1 < l.length)) (atI l ((i + 1 : Nat) : Int)).From []) (decide (i + 1 = l.length))) := by
  unfold F_placement_validMove
  rw [bound_impl hs, wrap_succ (by have : l.length < 9223372036854775808 := hl; omega)]
  simp only [show (i : Int) < (l.length : Int) by omega, show 0 ≤ (i : Int) by omega, and_self, req_t, movesB, F_placement_node, bnd_mk]
  cases (atI l (i : Int)).Dest == 0 with
  | true => rfl
  | false =>
    by_cases h : i + 1 = l.length
    · have e : (((i + 1 : Nat) : Int) == (l.length : Int)) = true := by rw [beq_iff_eq]; omega
      simp only [e, h, decide_true, cond_false]
      cases (decide (1 ≤ (atI l (i : Int)).Dest) && decide ((atI l (i : Int)).Dest ≤ 16) && ((atI l (i : Int)).Dest != (atI l (i : Int)).Node)) <;> simp [req]
    · have e : (((i + 1 : Nat) : Int) == (l.length : Int)) = false := by rw [beq_eq_false_iff_ne]; omega
      simp only [e, h, decide_false, cond_false, show i + 1 < l.length by omega, decide_true, cond_true, show 0 ≤ ((i + 1 : Nat) : Int) by omega, show ((i + 1 : Nat) : Int) < (l.length : Int) by omega, and_self, implies_true, req_t]
      cases (decide (1 ≤ (atI l (i : Int)).Dest) && decide ((atI l (i : Int)).Dest ≤ 16) && ((atI l (i : Int)).Dest != (atI l (i : Int)).Node)) with
      | false => simp
      | true =>
        cases boundB (atI l (i : Int)).Done with
        | false => simp
        | true =>
          cases sLt (atI l (i : Int)).Done (atI l (i : Int)).From <;> simp

end Go.Proofs.YtcgmfmpfmfjmoaaGreat
