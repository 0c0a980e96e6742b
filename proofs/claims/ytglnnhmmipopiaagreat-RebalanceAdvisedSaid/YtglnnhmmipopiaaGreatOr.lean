/-
  PLAIN TEXTS OF CHAPTERS 29 AND 30 FOR 35 (merged): placements, keys
  Conditions: none.
-/
import Derived.Test.YtglnnhmmipopiaaGreatLc
import Derived.Test.YtglnnhmmipopiaaGreatHg
set_option linter.all false
namespace Go.Proofs.YtglnnhmmipopiaaGreat
open Go.ChangeShapes
abbrev big : Nat := 9223372036854775808
def boundB (s : Str) : Bool := decide (s.length ≤ 24) && !((List.range s.length).any fun i => decide (byteAt s i < 33) || decide (126 < byteAt s i))
theorem bound_impl {s : Str} (hs : s.length < big) : F_placement_bound s = some (boundB s) := by
  unfold F_placement_bound
  simp only [jn_mk]
  refine (loopRng (len := s.length) (L := fun n i => F_placement_bound_L1 s (some (decide ((s.length : Int) ≤ (24 : Int)))) n i) (q := fun i => decide (byteAt s i < 33) || decide (126 < byteAt s i)) (E := some false) (J := some (decide ((s.length : Int) ≤ (24 : Int)))) hs (by omega) ?_ ?_).trans ?_
  · intro n i hi
    try dsimp only
    rw [F_placement_bound_L1]
    simp only [show (i : Int) < (s.length : Int) by omega, decide_true, cond_true, show 0 ≤ (i : Int) by omega, true_and, implies_true, req_t, Int.toNat_natCast]
  · intro n
    try dsimp only
    rw [F_placement_bound_L1]
    simp
  · have e2 : ((s.length : Int) ≤ 24) = (s.length ≤ 24) := by apply propext; omega
    simp only [e2, boundB]
    cases ((List.range s.length).any fun i => decide (byteAt s i < 33) || decide (126 < byteAt s i)) <;> simp
theorem bound_ref {s : Str} (hs : s.length < big) : F_clockworkref29_Bound s = some (boundB s) := by
  unfold F_clockworkref29_Bound
  by_cases h2 : (24 : Int) < (s.length : Int)
  · simp [h2, boundB, show ¬ s.length ≤ 24 by omega]
  simp only [h2, decide_false, cond_false, jn_mk]
  refine (loopRng (len := s.length) (L := fun n i => F_clockworkref29_Bound_L1 s (some true) n i) (q := fun i => decide (byteAt s i < 33) || decide (126 < byteAt s i)) (E := some false) (J := some true) hs (by omega) ?_ ?_).trans ?_
  · intro n i hi
    try dsimp only
    rw [F_clockworkref29_Bound_L1]
    simp only [show (i : Int) < (s.length : Int) by omega, decide_true, cond_true, show 0 ≤ (i : Int) by omega, true_and, implies_true, req_t, Int.toNat_natCast]
  · intro n
    try dsimp only
    rw [F_clockworkref29_Bound_L1]
    simp
  · simp only [boundB, show s.length ≤ 24 by omega, decide_true, Bool.true_and]
    cases ((List.range s.length).any fun i => decide (byteAt s i < 33) || decide (126 < byteAt s i)) <;> rfl
def firstIx {α : Type} (q : α → Bool) : List α → Nat → Int
  | [], _ => -1
  | x :: l, i => if q x = true then (i : Int) else firstIx q l (i + 1)
theorem loopFirst {α : Type} {l : List α} (hl : l.length < 9223372036854775808) {L : Nat → Int → Option Int} {q : α → Bool}
    (h1 : ∀ n (i : Nat) (h : i < l.length), L (n + 1) (i : Int) = cond (q l[i]) (some (i : Int)) (L n (IntKind.i64.wrap ((i : Int) + 1))))
    (h0 : ∀ n, L (n + 1) (l.length : Int) = some (-1)) : ∀ n i, i ≤ l.length → l.length - i < n → L n (i : Int) = some (firstIx q (l.drop i) i) := by
  intro n
  induction n with
  | zero => intro i _ h; omega
  | succ n ih =>
    intro i hi hn
    rcases Nat.lt_or_ge i l.length with h | h
    · rw [h1 n i h, wrap_succ (by omega), ih (i + 1) (by omega) (by omega), List.drop_eq_getElem_cons h, firstIx]
      cases q l[i] <;> simp
    · have : i = l.length := by omega
      subst this
      rw [h0]; simp [firstIx]
def findP (l : List TPart) (id : Int) : Int := firstIx (fun x => x.Id == id) l 0
theorem find_ref {p : TPlacement} {id : Int} (hl : p.Parts.length < big) : F_clockworkref29_Find p id = some (findP p.Parts id) := by
  unfold F_clockworkref29_Find
  simp only [jn_mk]
  refine loopFirst (l := p.Parts) hl (L := fun n i => F_clockworkref29_Find_L1 p id (some (-1)) n i) (q := fun x => x.Id == id) ?_ ?_ _ 0 (by omega) (by omega)
  · intro n i hi
    try dsimp only
    rw [F_clockworkref29_Find_L1]
    simp only [show (i : Int) < (p.Parts.length : Int) by omega, decide_true, cond_true, show 0 ≤ (i : Int) by omega, true_and, req_t, atI_nat hi]
  · intro n
    try dsimp only
    rw [F_clockworkref29_Find_L1]
    simp
theorem find_impl {l : List TPart} {id : Int} (hl : l.length < big) : F_placement_find l id = some (findP l id) := by
  unfold F_placement_find F_slices_IndexFunc_api_Part_api_Part
  simp only [jn_mk]
  rw [show F_slices_IndexFunc_api_Part_api_Part_L1 l (fun y0 => F_placement_find_1 y0 id) (some (-1)) ((l.length : Int).toNat + 1) 0 = some (findP l id) from ?_]
  · rfl
  refine loopFirst (l := l) hl (L := fun n i => F_slices_IndexFunc_api_Part_api_Part_L1 l (fun y0 => F_placement_find_1 y0 id) (some (-1)) n i) (q := fun x => x.Id == id) ?_ ?_ _ 0 (by omega) (by omega)
  · intro n i hi
    try dsimp only
    rw [F_slices_IndexFunc_api_Part_api_Part_L1]
    simp only [show (i : Int) < (l.length : Int) by omega, decide_true, cond_true, show 0 ≤ (i : Int) by omega, true_and, req_t, atI_nat hi, F_placement_find_1, bnd_mk]
  · intro n
    try dsimp only
    rw [F_slices_IndexFunc_api_Part_api_Part_L1]
    simp
def movesB (x : TPart) (next : Str) (last : Bool) : Bool := cond (x.Dest == 0) (x.Done == ([] : Str)) ((((((decide (1 ≤ x.Dest)) && (decide (x.Dest ≤ 16))) && (x.Dest != x.Node)) && boundB x.Done) && (!sLt x.Done x.From)) && (last || (sLt x.Done next)))
theorem moves_ref {x : TPart} {next : Str} {last : Bool} (hs : x.Done.length < big) : F_clockworkref29_moves x next last = some (movesB x next last) := by
  unfold F_clockworkref29_moves
  rw [bound_ref hs]
  simp only [movesB]
  cases (x.Dest == 0) with
  | true => rfl
  | false =>
    cases (decide (1 ≤ x.Dest) && decide (x.Dest ≤ 16) && (x.Dest != x.Node)) <;> simp
theorem moves_impl {l : List TPart} {i : Nat} (hi : i < l.length) (hl : l.length < big) (hs : (atI l (i : Int)).Done.length < big) :
    F_placement_validMove l (i : Int) = some (movesB (atI l (i : Int)) (cond (decide (i + 1 < l.length)) (atI l ((i + 1 : Nat) : Int)).From []) (decide (i + 1 = l.length))) := by
  unfold F_placement_validMove
  rw [bound_impl hs, wrap_succ (by have : l.length < 9223372036854775808 := hl; omega)]
  simp only [show (i : Int) < (l.length : Int) by omega, show 0 ≤ (i : Int) by omega, and_self, req_t, movesB, F_placement_node, bnd_mk]
  cases (atI l (i : Int)).Dest == 0 with
  | true => rfl
  | false =>
    by_cases h : i + 1 = l.length
    · have e : (((i + 1 : Nat) : Int) == (l.length : Int)) = true := by rw [beq_iff_eq]; omega
      simp only [e, h, decide_true, cond_false]
      cases (decide (1 ≤ (atI l (i : Int)).Dest) && decide ((atI l (i : Int)).Dest ≤ 16) && ((atI l (i : Int)).Dest != (atI l (i : Int)).Node)) <;> simp [req]
    · have e : (((i + 1 : Nat) : Int) == (l.length : Int)) = false := by rw [beq_eq_false_iff_ne]; omega
      simp only [e, h, decide_false, cond_false, show i + 1 < l.length by omega, decide_true, cond_true, show 0 ≤ ((i + 1 : Nat) : Int) by omega, show ((i + 1 : Nat) : Int) < (l.length : Int) by omega, and_self, implies_true, req_t]
      cases (decide (1 ≤ (atI l (i : Int)).Dest) && decide ((atI l (i : Int)).Dest ≤ 16) && ((atI l (i : Int)).Dest != (atI l (i : Int)).Node)) with
      | false => simp
      | true =>
        cases boundB (atI l (i : Int)).Done with
        | false => simp
        | true =>
          cases sLt (atI l (i : Int)).Done (atI l (i : Int)).From <;> simp
end Go.Proofs.YtglnnhmmipopiaaGreat
namespace Go.Proofs.YtglnnhmmipopiaaGreat
open Go.ChangeShapes
theorem firstIx_nonneg {α : Type} (q : α → Bool) : ∀ (l : List α) (i : Nat), decide (0 ≤ firstIx q l i) = l.any q
  | [], i => by simp [firstIx]
  | x :: l, i => by
    have ih := firstIx_nonneg q l (i + 1)
    by_cases h : q x = true
    · simp [firstIx, h]
    · simp only [Bool.not_eq_true] at h
      rw [List.any_cons, h, Bool.false_or, ← ih]
      simp [firstIx, h]
theorem at_mem29 {α : Type} [Inhabited α] {l : List α} {i : Nat} (h : i < l.length) : atI l (i : Int) ∈ l := by
  rw [atI_nat h]; exact List.getElem_mem h
def nextF (l : List TPart) (i : Nat) : Str := cond (decide (i + 1 < l.length)) (atI l ((i + 1 : Nat) : Int)).From []
def badPart (l : List TPart) (i : Nat) : Bool :=
  ((((((!boundB (atI l (i : Int)).From) || (decide (0 < i) && !sLt (atI l ((i : Int) - 1)).From (atI l (i : Int)).From)) || (decide ((atI l (i : Int)).Id < 1))) || (decide (1099511627776 < (atI l (i : Int)).Id))) || (decide ((atI l (i : Int)).Node < 1))) || (decide (16 < (atI l (i : Int)).Node)) ||
    (!movesB (atI l (i : Int)) (nextF l i) (decide (i + 1 = l.length)))) || (l.take i).any fun y => y.Id == (atI l (i : Int)).Id
def headBad (p : TPlacement) : Bool := (((decide (p.Version < 0)) || (decide (1099511627776 < p.Version))) || (decide ((p.Parts.length : Int) < 1))) || (decide (16 < (p.Parts.length : Int)))
def pvB (p : TPlacement) : Bool := !headBad p && ((atI p.Parts 0).From == ([] : Str)) && !((List.range p.Parts.length).any fun i => badPart p.Parts i)
theorem valid29_ref {p : TPlacement} (hl : p.Parts.length < big) (hs : ∀ x ∈ p.Parts, x.From.length < big ∧ x.Done.length < big) : F_clockworkref29_Valid p = some (pvB p) := by
  unfold F_clockworkref29_Valid
  have hb : ((((decide (p.Version < (0 : Int))) || (decide ((1099511627776 : Int) < p.Version))) || (decide (((p.Parts.length : Nat) : Int) < (1 : Int)))) || (decide ((16 : Int) < ((p.Parts.length : Nat) : Int)))) = headBad p := rfl
  rw [hb, pvB]
  cases hh : headBad p with
  | true => simp [req]
  | false =>
    have hlen : 1 ≤ p.Parts.length := by
      simp only [headBad, Bool.or_eq_false_iff, decide_eq_false_iff_not] at hh
      omega
    simp only [show (0 : Int) < (p.Parts.length : Int) by omega, Int.le_refl, and_self, implies_true, req_t, BEq.rfl, cond_true, Bool.false_or, Bool.not_false, Bool.true_and, jn_mk]
    cases h0 : (atI p.Parts 0).From == ([] : Str) with
    | false => rw [show ((atI p.Parts 0).From != ([] : Str)) = true by simp [bne, h0]]; rfl
    | true =>
      rw [show ((atI p.Parts 0).From != ([] : Str)) = false by simp [bne, h0], cond_false]
      refine (loopRng (len := p.Parts.length) hl (L := fun n i => F_clockworkref29_Valid_L1 p (some true) n i) (q := fun i => badPart p.Parts i) (E := some false) (J := some true) (by omega) ?_ ?_).trans ?_
      · intro n i hi
        have hm := hs _ (at_mem29 hi)
        try dsimp only
        rw [F_clockworkref29_Valid_L1]
        have hwr : IntKind.i64.wrap ((i : Int) + 1) = ((i + 1 : Nat) : Int) := wrap_succ (by have : p.Parts.length < 9223372036854775808 := hl; omega)
        have hdec : IntKind.i64.wrap ((i : Int) - 1) = (i : Int) - 1 := w64 (by omega) (by have : p.Parts.length < 9223372036854775808 := hl; omega)
        have hlast : (((i + 1 : Nat) : Int) == (p.Parts.length : Int)) = decide (i + 1 = p.Parts.length) := by
          rw [Bool.eq_iff_iff]; simp only [beq_iff_eq, decide_eq_true_eq]; omega
        have e0 : ((0 : Int) < (i : Int)) = (0 < i) := by apply propext; omega
        have hL2 : ∀ J : Option Bool, F_clockworkref29_Valid_L2 (i : Int) p J ((i : Int).toNat + 1) 0 = cond ((p.Parts.take i).any fun y => y.Id == (atI p.Parts (i : Int)).Id) (some false) J := by
          intro J
          have hti : (p.Parts.take i).length = i := by simp; omega
          refine loopAny0 (l := p.Parts.take i) (L := fun n k => F_clockworkref29_Valid_L2 (i : Int) p J n k) (q := fun y => y.Id == (atI p.Parts (i : Int)).Id) (E := some false) (J := J) (by rw [hti]; exact Nat.lt_trans hi hl) (by rw [hti]; omega) ?_ ?_
          · intro n k hk
            have hk' : k < i := by rw [hti] at hk; exact hk
            try dsimp only
            rw [F_clockworkref29_Valid_L2]
            simp only [show (k : Int) < (i : Int) by omega, decide_true, cond_true, show 0 ≤ (k : Int) by omega, show (k : Int) < (p.Parts.length : Int) by omega, and_self, req_t, List.getElem_take]
            rw [atI_nat (show k < p.Parts.length by omega)]
          · intro n
            try dsimp only
            rw [F_clockworkref29_Valid_L2, hti]
            simp
        simp only [show (i : Int) < (p.Parts.length : Int) by omega, decide_true, cond_true, show 0 ≤ (i : Int) by omega, true_and, req_t, jn_mk, hwr, hdec, hlast, bound_ref hm.1, bnd_mk, hL2, moves_ref hm.2, e0]
        by_cases h : i + 1 < p.Parts.length
        all_goals (
          first
            | (have hn : nextF p.Parts i = (atI p.Parts ((i + 1 : Nat) : Int)).From := by simp [nextF, h]
               simp only [show ((i + 1 : Nat) : Int) < (p.Parts.length : Int) by omega, decide_true, cond_true, show 0 ≤ ((i + 1 : Nat) : Int) by omega, and_self, req_t]
               rw [← hn])
            | (have hn : nextF p.Parts i = [] := by simp [nextF, h]
               simp only [show ¬ ((i + 1 : Nat) : Int) < (p.Parts.length : Int) by omega, decide_false, cond_false]
               rw [← hn])
          by_cases hi0 : 0 < i
          · rw [req_pos (by intro _; constructor <;> omega)]
            simp only [badPart, hi0, decide_true, Bool.true_and, BEq.rfl]
            cases boundB (atI p.Parts (i : Int)).From with
            | false => rfl
            | true =>
              simp only [Bool.not_true, BEq.rfl, Bool.and_self, cond_true, Bool.false_or]
              generalize ((!sLt (atI p.Parts ((i : Int) - 1)).From (atI p.Parts (i : Int)).From) || decide ((atI p.Parts (i : Int)).Id < 1) || decide (1099511627776 < (atI p.Parts (i : Int)).Id) || decide ((atI p.Parts (i : Int)).Node < 1) || decide (16 < (atI p.Parts (i : Int)).Node)) = A
              cases A with
              | true => rfl
              | false =>
                cases movesB (atI p.Parts (i : Int)) (nextF p.Parts i) (decide (i + 1 = p.Parts.length)) <;> cases ((p.Parts.take i).any fun y => y.Id == (atI p.Parts (i : Int)).Id) <;> rfl
          · rw [req_pos (by intro h; simp [hi0] at h)]
            simp only [badPart, hi0, decide_false, Bool.false_and, Bool.or_false]
            generalize ((!boundB (atI p.Parts (i : Int)).From) || decide ((atI p.Parts (i : Int)).Id < 1) || decide (1099511627776 < (atI p.Parts (i : Int)).Id) || decide ((atI p.Parts (i : Int)).Node < 1) || decide (16 < (atI p.Parts (i : Int)).Node)) = A
            cases A with
            | true => rfl
            | false =>
              cases movesB (atI p.Parts (i : Int)) (nextF p.Parts i) (decide (i + 1 = p.Parts.length)) <;> cases ((p.Parts.take i).any fun y => y.Id == (atI p.Parts (i : Int)).Id) <;> rfl)
      · intro n
        try dsimp only
        rw [F_clockworkref29_Valid_L1]
        simp
      · cases ((List.range p.Parts.length).any fun i => badPart p.Parts i) <;> rfl
end Go.Proofs.YtglnnhmmipopiaaGreat
namespace Go.Proofs.YtglnnhmmipopiaaGreat
open Go.ChangeShapes
theorem badPart_eq (l : List TPart) (i : Nat) : badPart l i = (((!boundB (atI l (i : Int)).From) || (decide (0 < i) && !sLt (atI l ((i : Int) - 1)).From (atI l (i : Int)).From)) ||
    ((((!(decide (1 ≤ (atI l (i : Int)).Id) && decide ((atI l (i : Int)).Id ≤ 1099511627776))) || (!(decide (1 ≤ (atI l (i : Int)).Node) && decide ((atI l (i : Int)).Node ≤ 16)))) ||
    (!movesB (atI l (i : Int)) (nextF l i) (decide (i + 1 = l.length)))) || (l.take i).any fun y => y.Id == (atI l (i : Int)).Id)) := by
  have h1 : (!(decide (1 ≤ (atI l (i : Int)).Id) && decide ((atI l (i : Int)).Id ≤ 1099511627776))) = (decide ((atI l (i : Int)).Id < 1) || decide (1099511627776 < (atI l (i : Int)).Id)) := by
    rw [Bool.eq_iff_iff]; simp only [Bool.not_eq_true', Bool.and_eq_false_iff, Bool.or_eq_true, decide_eq_true_eq, decide_eq_false_iff_not]; omega
  have h2 : (!(decide (1 ≤ (atI l (i : Int)).Node) && decide ((atI l (i : Int)).Node ≤ 16))) = (decide ((atI l (i : Int)).Node < 1) || decide (16 < (atI l (i : Int)).Node)) := by
    rw [Bool.eq_iff_iff]; simp only [Bool.not_eq_true', Bool.and_eq_false_iff, Bool.or_eq_true, decide_eq_true_eq, decide_eq_false_iff_not]; omega
  rw [h1, h2]
  simp only [badPart, Bool.or_assoc]
theorem valid29_impl {p : TPlacement} (hl : p.Parts.length < big) (hs : ∀ x ∈ p.Parts, x.From.length < big ∧ x.Done.length < big) : F_placement_Valid p = some (pvB p) := by
  unfold F_placement_Valid
  have hb : ((((decide (p.Version < (0 : Int))) || (decide ((1099511627776 : Int) < p.Version))) || (decide (((p.Parts.length : Nat) : Int) < (1 : Int)))) || (decide ((16 : Int) < ((p.Parts.length : Nat) : Int)))) = headBad p := rfl
  rw [hb, pvB]
  cases hh : headBad p with
  | true => simp [req]
  | false =>
    have hlen : 1 ≤ p.Parts.length := by
      simp only [headBad, Bool.or_eq_false_iff, decide_eq_false_iff_not] at hh
      omega
    simp only [show (0 : Int) < (p.Parts.length : Int) by omega, Int.le_refl, and_self, implies_true, req_t, BEq.rfl, cond_true, Bool.false_or, Bool.not_false, Bool.true_and, jn_mk]
    cases h0 : (atI p.Parts 0).From == ([] : Str) with
    | false => rw [show ((atI p.Parts 0).From != ([] : Str)) = true by simp [bne, h0]]; rfl
    | true =>
      rw [show ((atI p.Parts 0).From != ([] : Str)) = false by simp [bne, h0], cond_false]
      refine (loopRng (len := p.Parts.length) hl (L := fun n i => F_placement_Valid_L1 p (some true) n i) (q := fun i => badPart p.Parts i) (E := some false) (J := some true) (by omega) ?_ ?_).trans ?_
      · intro n i hi
        have hm := hs _ (at_mem29 hi)
        try dsimp only
        rw [F_placement_Valid_L1]
        have hdec : IntKind.i64.wrap ((i : Int) - 1) = (i : Int) - 1 := w64 (by omega) (by have : p.Parts.length < 9223372036854775808 := hl; omega)
        have e0 : ((0 : Int) < (i : Int)) = (0 < i) := by apply propext; omega
        have hf : ∀ g : Bool, F_placement_find (cond g ((p.Parts.take (i : Int).toNat).drop (0 : Int).toNat) ([] : List TPart)) (atI p.Parts (i : Int)).Id = some (findP (cond g (p.Parts.take i) []) (atI p.Parts (i : Int)).Id) := by
          intro g
          rw [find_impl (by cases g <;> simp; exact Nat.lt_of_le_of_lt (Nat.min_le_right _ _) hl)]
          rfl
        have hd : decide (0 ≤ findP (p.Parts.take i) (atI p.Parts (i : Int)).Id) = (p.Parts.take i).any fun y => y.Id == (atI p.Parts (i : Int)).Id := firstIx_nonneg _ _ _
        have hmv : F_placement_validMove p.Parts (i : Int) = some (movesB (atI p.Parts (i : Int)) (nextF p.Parts i) (decide (i + 1 = p.Parts.length))) := moves_impl hi hl hm.2
        rw [hmv, bound_impl hm.1, badPart_eq]
        simp only [hf, hdec, e0, show (i : Int) < (p.Parts.length : Int) by omega, decide_true, cond_true, show 0 ≤ (i : Int) by omega, show (i : Int) ≤ (p.Parts.length : Int) by omega, Int.le_refl, and_self, implies_true, true_and, req_t, F_placement_number, F_placement_node, bnd_mk]
        rw [← hd]
        by_cases hi0 : 0 < i
        · simp only [hi0, decide_true, Bool.true_and, Bool.and_true, BEq.rfl, gcall_t, bnd_mk, show 0 ≤ (i : Int) - 1 by omega, show (i : Int) - 1 < (p.Parts.length : Int) by omega, and_self, implies_true, req_t]
          cases boundB (atI p.Parts (i : Int)).From with
          | false => rfl
          | true =>
            simp only [Bool.not_true, BEq.rfl, cond_true, Bool.false_or]
            cases sLt (atI p.Parts ((i : Int) - 1)).From (atI p.Parts (i : Int)).From with
            | false => rfl
            | true =>
              cases (decide (1 ≤ (atI p.Parts (i : Int)).Id) && decide ((atI p.Parts (i : Int)).Id ≤ 1099511627776)) <;> cases (decide (1 ≤ (atI p.Parts (i : Int)).Node) && decide ((atI p.Parts (i : Int)).Node ≤ 16)) <;> cases movesB (atI p.Parts (i : Int)) (nextF p.Parts i) (decide (i + 1 = p.Parts.length)) <;> rfl
        · have hi' : i = 0 := by omega
          subst hi'
          have hbd : boundB (atI p.Parts ((0 : Nat) : Int)).From = true := by
            have : (atI p.Parts ((0 : Nat) : Int)).From = [] := by simpa using h0
            rw [this]; rfl
          rw [hbd]
          simp only [Nat.lt_irrefl, decide_false, Bool.false_and, Bool.and_false, Bool.or_false, Bool.not_true, Bool.false_or, cond_false, Bool.false_eq_true, false_implies, req_t]
          cases (decide (1 ≤ (atI p.Parts ((0 : Nat) : Int)).Id) && decide ((atI p.Parts ((0 : Nat) : Int)).Id ≤ 1099511627776)) <;> cases (decide (1 ≤ (atI p.Parts ((0 : Nat) : Int)).Node) && decide ((atI p.Parts ((0 : Nat) : Int)).Node ≤ 16)) <;> cases movesB (atI p.Parts ((0 : Nat) : Int)) (nextF p.Parts 0) (decide (0 + 1 = p.Parts.length)) <;> rfl
      · intro n
        try dsimp only
        rw [F_placement_Valid_L1]
        simp
      · cases ((List.range p.Parts.length).any fun i => badPart p.Parts i) <;> rfl
end Go.Proofs.YtglnnhmmipopiaaGreat
namespace Go.Proofs.YtglnnhmmipopiaaGreat
open Go.ChangeShapes
theorem firstIx_bd {α : Type} (q : α → Bool) : ∀ (l : List α) (i : Nat), firstIx q l i = -1 ∨ ((i : Int) ≤ firstIx q l i ∧ firstIx q l i < ((i + l.length : Nat) : Int))
  | [], i => Or.inl rfl
  | x :: l, i => by
    have ih := firstIx_bd q l (i + 1)
    by_cases h : q x = true
    · right; simp [firstIx, h]; omega
    · simp only [firstIx, h, if_false, List.length_cons, Bool.false_eq_true] at ih ⊢
      rcases ih with h | h
      · exact Or.inl h
      · right; omega
def rangeP (p : TPlacement) (id : Int) : TRange × Int :=
  if pvB p = false then (⟨[], []⟩, 1) else if findP p.Parts id < 0 then (⟨[], []⟩, 9) else (⟨(atI p.Parts (findP p.Parts id)).From, nextF p.Parts (findP p.Parts id).toNat⟩, 0)
theorem range_ref {p : TPlacement} {id : Int} (hl : p.Parts.length < big) (hs : ∀ x ∈ p.Parts, x.From.length < big ∧ x.Done.length < big) : F_clockworkref29_Range p id = some (rangeP p id) := by
  unfold F_clockworkref29_Range
  rw [valid29_ref hl hs, bnd_mk, rangeP]
  cases pvB p with
  | false => rfl
  | true =>
    rw [find_ref hl, bnd_mk]
    by_cases h : findP p.Parts id < 0
    · simp [h]
    · have hb := firstIx_bd (fun x : TPart => x.Id == id) p.Parts 0
      obtain ⟨k, hk⟩ : ∃ k : Nat, findP p.Parts id = (k : Int) := ⟨(findP p.Parts id).toNat, by omega⟩
      have hkl : k < p.Parts.length := by
        rw [show firstIx (fun x : TPart => x.Id == id) p.Parts 0 = (k : Int) from hk] at hb; omega
      rw [hk]
      simp only [show ¬ (k : Int) < 0 by omega, decide_false, cond_false, show 0 ≤ (k : Int) by omega, show (k : Int) < (p.Parts.length : Int) by omega, and_self, req_t, Bool.not_true, F_clockworkref29_end]
      rw [wrap_succ (by have : p.Parts.length < 9223372036854775808 := hl; omega)]
      by_cases h2 : k + 1 < p.Parts.length
      · simp only [nextF, h2, show ((k + 1 : Nat) : Int) < (p.Parts.length : Int) by omega, show 0 ≤ ((k + 1 : Nat) : Int) by omega, decide_true, cond_true, and_self, req_t, bnd_mk, Int.toNat_natCast]; simp
      · simp only [nextF, h2, show ¬ ((k + 1 : Nat) : Int) < (p.Parts.length : Int) by omega, decide_false, cond_false, bnd_mk, Int.toNat_natCast]; simp
theorem range_impl {p : TPlacement} {id : Int} (hl : p.Parts.length < big) (hs : ∀ x ∈ p.Parts, x.From.length < big ∧ x.Done.length < big) : F_placement_Range p id = some (rangeP p id) := by
  unfold F_placement_Range
  rw [valid29_impl hl hs, bnd_mk, rangeP]
  cases pvB p with
  | false => rfl
  | true =>
    rw [find_impl hl, bnd_mk]
    by_cases h : findP p.Parts id < 0
    · simp [h]
    · have hb := firstIx_bd (fun x : TPart => x.Id == id) p.Parts 0
      obtain ⟨k, hk⟩ : ∃ k : Nat, findP p.Parts id = (k : Int) := ⟨(findP p.Parts id).toNat, by omega⟩
      have hkl : k < p.Parts.length := by
        rw [show firstIx (fun x : TPart => x.Id == id) p.Parts 0 = (k : Int) from hk] at hb; omega
      rw [hk]
      simp only [show ¬ (k : Int) < 0 by omega, decide_false, cond_false, show 0 ≤ (k : Int) by omega, show (k : Int) < (p.Parts.length : Int) by omega, and_self, req_t, Bool.not_true, jn_mk]
      rw [wrap_succ (by have : p.Parts.length < 9223372036854775808 := hl; omega)]
      by_cases h2 : k + 1 < p.Parts.length
      · simp only [nextF, h2, show ((k + 1 : Nat) : Int) < (p.Parts.length : Int) by omega, show 0 ≤ ((k + 1 : Nat) : Int) by omega, decide_true, cond_true, and_self, req_t, Int.toNat_natCast]; simp
      · simp only [nextF, h2, show ¬ ((k + 1 : Nat) : Int) < (p.Parts.length : Int) by omega, decide_false, cond_false, Int.toNat_natCast]; simp
theorem loopSeqFrom {σ ρ : Type} {len i0 : Nat} (hl : len < 9223372036854775808) {L : Nat → σ → Int → Option ρ} {J : σ → Option ρ} {S : Nat → σ}
    (h1 : ∀ n (i : Nat), i0 ≤ i → i < len → L (n + 1) (S i) (i : Int) = L n (S (i + 1)) (IntKind.i64.wrap ((i : Int) + 1)))
    (h0 : ∀ n, L (n + 1) (S len) (len : Int) = J (S len)) : ∀ n i, i0 ≤ i → i ≤ len → len - i < n → L n (S i) (i : Int) = J (S len) := by
  intro n
  induction n with
  | zero => intro i _ _ h; omega
  | succ n ih =>
    intro i h2 hi hn
    rcases Nat.lt_or_ge i len with h | h
    · rw [h1 n i h2 h, wrap_succ (by omega), ih (i + 1) (by omega) (by omega) (by omega)]
    · have : i = len := by omega
      subst this
      exact h0 n
def lastLe (l : List TPart) (key : Str) : Nat → Int
  | 0 => 0
  | k + 1 => if k = 0 then 0 else if sLt key (atI l (k : Int)).From = false then (k : Int) else lastLe l key k
def indexP (p : TPlacement) (key : Str) : Int := if pvB p = false then -1 else lastLe p.Parts key p.Parts.length
theorem pvB_len {p : TPlacement} (h : pvB p = true) : 1 ≤ p.Parts.length ∧ p.Parts.length ≤ 16 := by
  simp only [pvB, headBad, Bool.and_eq_true, Bool.not_eq_true', Bool.or_eq_false_iff, decide_eq_false_iff_not] at h
  omega
theorem index_ref {p : TPlacement} {key : Str} (hl : p.Parts.length < big) (hs : ∀ x ∈ p.Parts, x.From.length < big ∧ x.Done.length < big) : F_clockworkref29_Index p key = some (indexP p key) := by
  unfold F_clockworkref29_Index
  rw [valid29_ref hl hs, bnd_mk, indexP]
  cases hv : pvB p with
  | false => rfl
  | true =>
    have hle := pvB_len hv
    simp only [Bool.not_true, cond_false, jn_mk]
    refine (loopSeqFrom (len := p.Parts.length) (i0 := 1) hl (L := fun n s i => F_clockworkref29_Index_L1 p key (fun x5 => some x5) n s i) (S := fun i => lastLe p.Parts key i) (J := fun x => some x) ?_ ?_ ((p.Parts.length : Int).toNat + 1) 1 (by omega) (by omega) (by omega)).trans ?_
    · intro n i hi1 hi
      try dsimp only
      rw [F_clockworkref29_Index_L1]
      simp only [show (i : Int) < (p.Parts.length : Int) by omega, decide_true, cond_true, show 0 ≤ (i : Int) by omega, true_and, req_t, jn_mk]
      have hi0 : ¬ i = 0 := by omega
      simp only [lastLe, hi0, if_false]
      cases sLt key (atI p.Parts (i : Int)).From <;> simp
    · intro n
      try dsimp only
      rw [F_clockworkref29_Index_L1]
      simp
    · simp
theorem byteAt_lt {s : Str} {k : Nat} (h : k < s.length) : byteAt s k = ((s[k].toNat : Nat) : Int) := by simp [byteAt, h]
theorem index2_impl {p : TPlacement} {key : Str} {i x : Int} {J6 J14 : Int → Option Int} (h1 : (atI p.Parts i).From.length ≤ 1000) :
    ∀ n k, k ≤ (atI p.Parts i).From.length → k ≤ key.length → (atI p.Parts i).From.length - k < n → F_placement_Index_L2 key p i J6 J14 n x (k : Int) = cond (!sLt (key.drop k) ((atI p.Parts i).From.drop k)) (J6 i) (J14 x) := by
  intro n
  induction n with
  | zero => intro k _ _ h; omega
  | succ n ih =>
    intro k hk hk2 hn
    rw [F_placement_Index_L2]
    rcases Nat.lt_or_ge k (atI p.Parts i).From.length with ha | ha
    · have ea : ((k : Int) == ((atI p.Parts i).From.length : Int)) = false := by rw [beq_eq_false_iff_ne]; omega
      rcases Nat.lt_or_ge k key.length with hb | hb
      · have eb : ((k : Int) == (key.length : Int)) = false := by rw [beq_eq_false_iff_ne]; omega
        rw [List.drop_eq_getElem_cons ha, List.drop_eq_getElem_cons hb, sLt_cons]
        simp only [ea, eb, show (k : Int) < (key.length : Int) by omega, show (k : Int) < ((atI p.Parts i).From.length : Int) by omega, show 0 ≤ (k : Int) by omega, decide_true, BEq.rfl, Bool.and_self, and_self, implies_true, req_t, Bool.false_or, Bool.true_and, Int.toNat_natCast, byteAt_lt ha, byteAt_lt hb]
        rw [wrap_succ (by omega), ih (k + 1) (by omega) (by omega) (by omega)]
        rcases Nat.lt_trichotomy ((atI p.Parts i).From[k]).toNat (key[k]).toNat with h | h | h
        · simp [h, show ¬ (key[k]).toNat < ((atI p.Parts i).From[k]).toNat by omega, show ¬ (key[k]).toNat = ((atI p.Parts i).From[k]).toNat by omega]
        · simp [h]
        · simp [h, show ¬ ((atI p.Parts i).From[k]).toNat < (key[k]).toNat by omega]
      · have hb' : k = key.length := by omega
        subst hb'
        rw [List.drop_eq_getElem_cons ha, List.drop_length]
        simp [ea, req, ha, sLt, Op.bytesLess]
    · have ha' : k = (atI p.Parts i).From.length := by omega
      subst ha'
      rw [List.drop_length, sLt_nil]
      simp [req]
end Go.Proofs.YtglnnhmmipopiaaGreat
namespace Go.Proofs.YtglnnhmmipopiaaGreat
open Go.ChangeShapes
theorem index1_impl {p : TPlacement} {key : Str} {J6 : Int → Option Int} (hl : p.Parts.length < big) (hf : ∀ x ∈ p.Parts, x.From.length ≤ 1000) :
    ∀ n i, i < n → i < p.Parts.length → F_placement_Index_L1 p key J6 n 0 (i : Int) = J6 (lastLe p.Parts key (i + 1)) := by
  intro n
  induction n with
  | zero => intro i h; omega
  | succ n ih =>
    intro i hn hi
    rw [F_placement_Index_L1]
    by_cases hi0 : i = 0
    · subst hi0; simp [lastLe]
    · have hfi := hf _ (at_mem29 hi)
      simp only [show (0 : Int) < (i : Int) by omega, decide_true, cond_true, jn_mk, show 0 ≤ (i : Int) by omega, show (i : Int) < (p.Parts.length : Int) by omega, and_self, req_t]
      have e := index2_impl (p := p) (key := key) (i := (i : Int)) (x := 0) (J6 := J6) (J14 := fun x13 => F_placement_Index_L1 p key J6 n x13 (IntKind.i64.wrap ((i : Int) - 1))) hfi 1000000 0 (by omega) (by omega) (by omega)
      refine (show _ = _ from e).trans ?_
      rw [List.drop_zero, List.drop_zero]
      have hw : IntKind.i64.wrap ((i : Int) - 1) = ((i - 1 : Nat) : Int) := by
        rw [w64 (by omega) (by have : p.Parts.length < 9223372036854775808 := hl; omega)]; omega
      rw [hw, ih (i - 1) (by omega) (by omega), show i - 1 + 1 = i by omega]
      simp only [lastLe, hi0, if_false]
      cases sLt key (atI p.Parts (i : Int)).From <;> simp
theorem index_impl {p : TPlacement} {key : Str} (hl : p.Parts.length < big) (hs : ∀ x ∈ p.Parts, x.From.length < big ∧ x.Done.length < big) (hf : ∀ x ∈ p.Parts, x.From.length ≤ 1000) : F_placement_Index p key = some (indexP p key) := by
  unfold F_placement_Index
  rw [valid29_impl hl hs, bnd_mk, indexP]
  cases hv : pvB p with
  | false => rfl
  | true =>
    have hle := pvB_len hv
    simp only [Bool.not_true, cond_false, jn_mk]
    have hw : IntKind.i64.wrap ((p.Parts.length : Int) - 1) = ((p.Parts.length - 1 : Nat) : Int) := by
      rw [w64 (by omega) (by omega)]; omega
    rw [hw, index1_impl hl hf _ (p.Parts.length - 1) (by omega) (by omega), show p.Parts.length - 1 + 1 = p.Parts.length by omega]
    simp
theorem lastLe_bd (l : List TPart) (key : Str) : ∀ n, 0 ≤ lastLe l key n ∧ (lastLe l key n = 0 ∨ lastLe l key n < (n : Int))
  | 0 => by simp [lastLe]
  | n + 1 => by
    have ih := lastLe_bd l key n
    simp only [lastLe]
    split
    · simp
    · split <;> omega
def ownerP (p : TPlacement) (key : Str) : Int :=
  if indexP p key < 0 then 0 else if (((atI p.Parts (indexP p key)).Dest != 0) && (sLt key (atI p.Parts (indexP p key)).Done)) = true then (atI p.Parts (indexP p key)).Dest else (atI p.Parts (indexP p key)).Node
theorem indexP_bd {p : TPlacement} {key : Str} (h : ¬ indexP p key < 0) : 0 ≤ indexP p key ∧ indexP p key < (p.Parts.length : Int) := by
  unfold indexP at h ⊢
  cases hv : pvB p with
  | false => simp [hv] at h
  | true =>
    have hle := pvB_len hv
    have := lastLe_bd p.Parts key p.Parts.length
    simp only [Bool.true_eq_false, if_false]
    omega
theorem owner_impl {p : TPlacement} {key : Str} (hl : p.Parts.length < big) (hs : ∀ x ∈ p.Parts, x.From.length < big ∧ x.Done.length < big) (hf : ∀ x ∈ p.Parts, x.From.length ≤ 1000) : F_placement_Owner p key = some (ownerP p key) := by
  unfold F_placement_Owner
  rw [index_impl hl hs hf, bnd_mk, ownerP]
  by_cases h : indexP p key < 0
  · simp [h]
  · have hb := indexP_bd h
    simp only [h, decide_false, cond_false, if_false, hb.1, hb.2, and_self, req_t]
    cases (((atI p.Parts (indexP p key)).Dest != 0) && (sLt key (atI p.Parts (indexP p key)).Done)) <;> simp
theorem owner_ref {p : TPlacement} {key : Str} (hl : p.Parts.length < big) (hs : ∀ x ∈ p.Parts, x.From.length < big ∧ x.Done.length < big) : F_clockworkref29_Owner p key = some (ownerP p key) := by
  unfold F_clockworkref29_Owner
  rw [index_ref hl hs, bnd_mk, ownerP]
  by_cases h : indexP p key < 0
  · simp [h]
  · have hb := indexP_bd h
    simp only [h, decide_false, cond_false, if_false, hb.1, hb.2, and_self, implies_true, req_t]
    cases ((atI p.Parts (indexP p key)).Dest != 0) with
    | false => simp
    | true => simp only [BEq.rfl, cond_true, Bool.true_and]; cases sLt key (atI p.Parts (indexP p key)).Done <;> simp
end Go.Proofs.YtglnnhmmipopiaaGreat
namespace Go.Proofs.YtglnnhmmipopiaaGreat
open Go.ChangeShapes
def nodeL (l : List TPart) : Nat → List Int
  | 0 => []
  | i + 1 => cond ((atI l (i : Int)).Dest != 0) ((nodeL l i ++ [(atI l (i : Int)).Node]) ++ [(atI l (i : Int)).Dest]) (nodeL l i ++ [(atI l (i : Int)).Node])
theorem nodeL_len (l : List TPart) : ∀ i, (nodeL l i).length ≤ 2 * i
  | 0 => by simp [nodeL]
  | i + 1 => by
    have := nodeL_len l i
    simp only [nodeL]
    cases ((atI l (i : Int)).Dest != 0) <;> simp <;> omega
def nodesImplP (p : TPlacement) : List Int := if pvB p = true then compactL (sortL (nodeL p.Parts p.Parts.length)) else []
theorem nodes_impl {p : TPlacement} (hl : p.Parts.length < big) (hs : ∀ x ∈ p.Parts, x.From.length < big ∧ x.Done.length < big) : F_placement_Nodes p = some (nodesImplP p) := by
  unfold F_placement_Nodes
  rw [valid29_impl hl hs, bnd_mk, nodesImplP]
  cases hv : pvB p with
  | false => rfl
  | true =>
    have hle := pvB_len hv
    simp only [Bool.not_true, cond_false, jn_mk]
    refine (loopSeq (len := p.Parts.length) hl (L := fun n s i => F_placement_Nodes_L1 p (fun x6 => req (x6.length < 4611686018427387904) (some (compactL (sortL x6)))) n s i) (S := fun i => nodeL p.Parts i) (J := fun x6 => req (x6.length < 4611686018427387904) (some (compactL (sortL x6)))) ?_ ?_ ((p.Parts.length : Int).toNat + 1) 0 (by omega) (by omega)).trans ?_
    · intro n i hi
      have h1 := nodeL_len p.Parts i
      try dsimp only
      rw [F_placement_Nodes_L1]
      simp only [show (i : Int) < (p.Parts.length : Int) by omega, decide_true, cond_true, show 0 ≤ (i : Int) by omega, true_and, req_t, jn_mk, List.length_append, List.length_cons, List.length_nil, show ((nodeL p.Parts i).length + (0 + 1)) * 8 ≤ 140737488355328 by omega, show ((nodeL p.Parts i).length + (0 + 1) + (0 + 1)) * 8 ≤ 140737488355328 by omega, nodeL]
      cases ((atI p.Parts (i : Int)).Dest != 0) <;> rfl
    · intro n
      try dsimp only
      rw [F_placement_Nodes_L1]
      simp
    · have h1 := nodeL_len p.Parts p.Parts.length
      rw [req_pos (by omega)]; rfl
def hasN (l : List TPart) (x : Int) : Nat → Bool
  | 0 => false
  | k + 1 => (hasN l x k || ((atI l (k : Int)).Node == x)) || ((atI l (k : Int)).Dest == x)
def pickN (l : List TPart) : Nat → List Int
  | 0 => []
  | i + 1 => if i = 0 then [] else cond (hasN l (i : Int) l.length) (pickN l i ++ [(i : Int)]) (pickN l i)
theorem pickN_len (l : List TPart) : ∀ i, (pickN l i).length ≤ i
  | 0 => by simp [pickN]
  | i + 1 => by
    have := pickN_len l i
    simp only [pickN]
    split
    · simp
    · cases hasN l (i : Int) l.length <;> simp <;> omega
def nodesRefP (p : TPlacement) : List Int := if pvB p = true then pickN p.Parts 17 else []
theorem nodes_ref {p : TPlacement} (hl : p.Parts.length < big) (hs : ∀ x ∈ p.Parts, x.From.length < big ∧ x.Done.length < big) : F_clockworkref29_Nodes p = some (nodesRefP p) := by
  unfold F_clockworkref29_Nodes
  rw [jn_mk, nodesRefP]
  cases hv : pvB p with
  | false =>
    rw [F_clockworkref29_Nodes_L1, valid29_ref hl hs, hv]
    rfl
  | true =>
    refine (loopSeqFrom (len := 17) (i0 := 1) (by decide) (L := fun n s i => F_clockworkref29_Nodes_L1 p (fun x5 => some x5) n s i) (S := fun i => pickN p.Parts i) (J := fun x => some x) ?_ ?_ 1000000 1 (by omega) (by omega) (by omega)).trans ?_
    · intro n i hi1 hi
      have h1 := pickN_len p.Parts i
      try dsimp only
      rw [F_clockworkref29_Nodes_L1, valid29_ref hl hs, hv]
      have hL2 : ∀ J : Bool → Option (List Int), F_clockworkref29_Nodes_L2 p (i : Int) J ((p.Parts.length : Int).toNat + 1) false 0 = J (hasN p.Parts (i : Int) p.Parts.length) := by
        intro J
        refine loopSeq (len := p.Parts.length) hl (L := fun n s k => F_clockworkref29_Nodes_L2 p (i : Int) J n s k) (S := fun k => hasN p.Parts (i : Int) k) (J := J) ?_ ?_ _ 0 (by omega) (by omega)
        · intro n k hk
          try dsimp only
          rw [F_clockworkref29_Nodes_L2]
          simp only [show (k : Int) < (p.Parts.length : Int) by omega, decide_true, cond_true, show 0 ≤ (k : Int) by omega, and_self, implies_true, req_t, hasN]
          cases hasN p.Parts (i : Int) k with
          | true => rfl
          | false =>
            simp only [BEq.rfl, cond_true, Bool.false_or]
            cases ((atI p.Parts (k : Int)).Node == (i : Int)) <;> rfl
        · intro n
          try dsimp only
          rw [F_clockworkref29_Nodes_L2]
          simp
      simp only [show (i : Int) ≤ 16 by omega, decide_true, BEq.rfl, gcall_t, bnd_mk, Bool.and_self, cond_true, jn_mk, hL2, List.length_append, List.length_cons, List.length_nil, show ((pickN p.Parts i).length + (0 + 1)) * 8 ≤ 140737488355328 by omega, req_t, pickN, show ¬ i = 0 by omega, if_false]
      cases hasN p.Parts (i : Int) p.Parts.length <;> rfl
    · intro n
      try dsimp only
      rw [F_clockworkref29_Nodes_L1]
      rfl
    · rfl
end Go.Proofs.YtglnnhmmipopiaaGreat
namespace Go.Proofs.YtglnnhmmipopiaaGreat
open Go.ChangeShapes
theorem asc_ext : ∀ {a b : List Int}, a.Pairwise (· < ·) → b.Pairwise (· < ·) → (∀ x, x ∈ a ↔ x ∈ b) → a = b
  | [], [], _, _, _ => rfl
  | [], y :: b, _, _, h => by have := (h y).2 (by simp); simp at this
  | x :: a, [], _, _, h => by have := (h x).1 (by simp); simp at this
  | x :: a, y :: b, ha, hb, h => by
    obtain ⟨ha1, ha2⟩ := List.pairwise_cons.1 ha
    obtain ⟨hb1, hb2⟩ := List.pairwise_cons.1 hb
    have hxy : x = y := by
      rcases List.mem_cons.1 ((h x).1 (by simp)) with e | e
      · exact e
      · rcases List.mem_cons.1 ((h y).2 (by simp)) with e2 | e2
        · exact e2.symm
        · have := hb1 x e; have := ha1 y e2; omega
    subst hxy
    congr 1
    refine asc_ext ha2 hb2 fun z => ⟨fun hz => ?_, fun hz => ?_⟩
    · rcases List.mem_cons.1 ((h z).1 (List.mem_cons_of_mem _ hz)) with e | e
      · have := ha1 z hz; omega
      · exact e
    · rcases List.mem_cons.1 ((h z).2 (List.mem_cons_of_mem _ hz)) with e | e
      · have := hb1 z hz; omega
      · exact e
theorem pickN_mem (l : List TPart) (x : Int) : ∀ i, x ∈ pickN l i ↔ 1 ≤ x ∧ x < (i : Int) ∧ hasN l x l.length = true
  | 0 => by simp [pickN]; omega
  | i + 1 => by
    have ih := pickN_mem l x i
    simp only [pickN]
    by_cases h0 : i = 0
    · subst h0; simp; omega
    · rw [if_neg h0]
      cases hh : hasN l (i : Int) l.length with
      | true =>
        rw [cond_true, List.mem_append, ih, List.mem_singleton]
        constructor
        · rintro (⟨a, b, c⟩ | rfl)
          · exact ⟨a, by omega, c⟩
          · exact ⟨by omega, by omega, hh⟩
        · rintro ⟨a, b, c⟩
          by_cases e : x = (i : Int)
          · exact Or.inr e
          · exact Or.inl ⟨a, by omega, c⟩
      | false =>
        rw [cond_false, ih]
        constructor
        · rintro ⟨a, b, c⟩; exact ⟨a, by omega, c⟩
        · rintro ⟨a, b, c⟩
          have : x ≠ (i : Int) := fun e => by rw [e, hh] at c; cases c
          exact ⟨a, by omega, c⟩
theorem pickN_asc (l : List TPart) : ∀ i, (pickN l i).Pairwise (· < ·)
  | 0 => by simp [pickN]
  | i + 1 => by
    have ih := pickN_asc l i
    simp only [pickN]
    split
    · simp
    · cases hasN l (i : Int) l.length with
      | false => exact ih
      | true =>
        rw [cond_true, List.pairwise_append]
        refine ⟨ih, by simp, fun a ha b hb => ?_⟩
        have := (pickN_mem l a i).1 ha
        simp only [List.mem_singleton] at hb
        omega
theorem hasN_iff (l : List TPart) (x : Int) : ∀ k, hasN l x k = true ↔ ∃ j : Nat, j < k ∧ ((atI l (j : Int)).Node = x ∨ (atI l (j : Int)).Dest = x)
  | 0 => by simp [hasN]
  | k + 1 => by
    have ih := hasN_iff l x k
    simp only [hasN, Bool.or_eq_true, beq_iff_eq, ih]
    constructor
    · rintro ((⟨j, a, b⟩ | h) | h)
      · exact ⟨j, by omega, b⟩
      · exact ⟨k, by omega, Or.inl h⟩
      · exact ⟨k, by omega, Or.inr h⟩
    · rintro ⟨j, a, b⟩
      by_cases e : j = k
      · subst e; rcases b with b | b
        · exact Or.inl (Or.inr b)
        · exact Or.inr b
      · exact Or.inl (Or.inl ⟨j, by omega, b⟩)
theorem nodeL_mem (l : List TPart) (x : Int) (hx : x ≠ 0) : ∀ k, x ∈ nodeL l k ↔ ∃ j : Nat, j < k ∧ ((atI l (j : Int)).Node = x ∨ (atI l (j : Int)).Dest = x)
  | 0 => by simp [nodeL]
  | k + 1 => by
    have ih := nodeL_mem l x hx k
    have key : x ∈ nodeL l (k + 1) ↔ x ∈ nodeL l k ∨ (atI l (k : Int)).Node = x ∨ (atI l (k : Int)).Dest = x := by
      simp only [nodeL]
      cases hd : ((atI l (k : Int)).Dest != 0) with
      | true => simp [eq_comm (a := x), or_assoc]
      | false =>
        have : (atI l (k : Int)).Dest = 0 := by simpa using hd
        simp [this, eq_comm (a := x), Ne.symm hx]
    rw [key, ih]
    constructor
    · rintro (⟨j, a, b⟩ | h)
      · exact ⟨j, by omega, b⟩
      · exact ⟨k, by omega, h⟩
    · rintro ⟨j, a, b⟩
      by_cases e : j = k
      · subst e; exact Or.inr b
      · exact Or.inl ⟨j, by omega, b⟩
theorem compact_steps {d : Array Int} (hs : ∀ i j, i ≤ j → j < d.size → d[i]! ≤ d[j]!) : ∀ m, m ≤ d.size → (Go.Lib.compactUpTo d m).Pairwise (· < ·) ∧ (∀ x, x ∈ Go.Lib.compactUpTo d m ↔ ∃ j, j < m ∧ d[j]! = x)
  | 0, _ => by simp [Go.Lib.compactUpTo]
  | m + 1, hm => by
    obtain ⟨h1, h2⟩ := compact_steps hs m (by omega)
    rw [Go.Lib.compactUpTo_succ]
    cases hk : Go.Lib.keeps d m with
    | true =>
      simp only [if_true]
      have hlt : ∀ j, j < m → d[j]! < d[m]! := by
        intro j hj
        simp only [Go.Lib.keeps, decide_eq_true_eq] at hk
        rcases hk with hk | hk
        · omega
        · have a := hs j (m - 1) (by omega) (by omega)
          have b := hs (m - 1) m (by omega) (by omega)
          omega
      refine ⟨List.pairwise_append.2 ⟨h1, by simp, fun a ha b hb => ?_⟩, fun x => ?_⟩
      · obtain ⟨j, hj, rfl⟩ := (h2 a).1 ha
        simp only [List.mem_singleton] at hb
        rw [hb]; exact hlt j hj
      · rw [List.mem_append, h2, List.mem_singleton]
        constructor
        · rintro (⟨j, a, b⟩ | h)
          · exact ⟨j, by omega, b⟩
          · exact ⟨m, by omega, h.symm⟩
        · rintro ⟨j, a, b⟩
          by_cases e : j = m
          · subst e; exact Or.inr b.symm
          · exact Or.inl ⟨j, by omega, b⟩
    | false =>
      simp only [Bool.false_eq_true, if_false, List.append_nil]
      refine ⟨h1, fun x => ?_⟩
      rw [h2]
      simp only [Go.Lib.keeps, decide_eq_false_iff_not, not_or, Decidable.not_not] at hk
      constructor
      · rintro ⟨j, a, b⟩; exact ⟨j, by omega, b⟩
      · rintro ⟨j, a, b⟩
        by_cases e : j = m
        · subst e; exact ⟨j - 1, by omega, by rw [← hk.2]; exact b⟩
        · exact ⟨j, by omega, b⟩
theorem compact_sorted (l : List Int) : (compactL (sortL l)).Pairwise (· < ·) ∧ ∀ x, x ∈ compactL (sortL l) ↔ x ∈ l := by
  have hp : (sortL l).Pairwise (fun a b => decide (a ≤ b) = true) := List.pairwise_mergeSort (fun a b c h1 h2 => by simp at *; omega) (fun a b => by simp; omega) l
  have hs : ∀ i j, i ≤ j → j < (sortL l).toArray.size → (sortL l).toArray[i]! ≤ (sortL l).toArray[j]! := by
    intro i j hij hj
    have hj' : j < (sortL l).length := by simpa using hj
    have hi' : i < (sortL l).length := by omega
    rcases Nat.lt_or_ge i j with h | h
    · have := List.pairwise_iff_getElem.1 hp i j hi' hj' h
      simpa [hi', hj'] using this
    · rw [show i = j by omega]; exact Int.le_refl _
  obtain ⟨h1, h2⟩ := compact_steps hs (sortL l).length (by simp)
  refine ⟨h1, fun x => ?_⟩
  rw [show compactL (sortL l) = Go.Lib.compactUpTo (sortL l).toArray (sortL l).length from rfl, h2]
  have hm : x ∈ l ↔ x ∈ sortL l := by unfold sortL; simp
  rw [hm]
  constructor
  · rintro ⟨j, a, b⟩
    rw [← b]; simp [a]
  · intro h
    obtain ⟨j, hj, e⟩ := List.getElem_of_mem h
    exact ⟨j, hj, by simp [hj, e]⟩
end Go.Proofs.YtglnnhmmipopiaaGreat
namespace Go.Proofs.YtglnnhmmipopiaaGreat
open Go.ChangeShapes
theorem pv_part {p : TPlacement} (h : pvB p = true) {i : Nat} (hi : i < p.Parts.length) : badPart p.Parts i = false := by
  simp only [pvB, Bool.and_eq_true, Bool.not_eq_true', List.any_eq_false, List.mem_range] at h
  simpa using h.2 i hi
theorem pv_node {p : TPlacement} (h : pvB p = true) {i : Nat} (hi : i < p.Parts.length) : 1 ≤ (atI p.Parts (i : Int)).Node ∧ (atI p.Parts (i : Int)).Node ≤ 16 ∧
    ((atI p.Parts (i : Int)).Dest = 0 ∨ (1 ≤ (atI p.Parts (i : Int)).Dest ∧ (atI p.Parts (i : Int)).Dest ≤ 16)) := by
  have hb := pv_part h hi
  simp only [badPart, Bool.or_eq_false_iff, decide_eq_false_iff_not, Bool.not_eq_false'] at hb
  obtain ⟨⟨⟨⟨_, h1⟩, h2⟩, h3⟩, _⟩ := hb
  refine ⟨by omega, by omega, ?_⟩
  by_cases e : (atI p.Parts (i : Int)).Dest = 0
  · exact Or.inl e
  · right
    simp only [movesB, show ((atI p.Parts (i : Int)).Dest == 0) = false from beq_eq_false_iff_ne.2 e, cond_false, Bool.and_eq_true, decide_eq_true_eq] at h3
    exact ⟨h3.1.1.1.1.1, h3.1.1.1.1.2⟩
theorem nodeL_rng {p : TPlacement} (h : pvB p = true) : ∀ i, i ≤ p.Parts.length → ∀ x ∈ nodeL p.Parts i, 1 ≤ x ∧ x ≤ 16
  | 0, _, x, hx => by simp [nodeL] at hx
  | i + 1, hi, x, hx => by
    have ih := nodeL_rng h i (by omega) x
    have hn := pv_node h (show i < p.Parts.length by omega)
    simp only [nodeL] at hx
    cases hd : ((atI p.Parts (i : Int)).Dest != 0) with
    | true =>
      rw [hd] at hx
      have hd' : (atI p.Parts (i : Int)).Dest ≠ 0 := by simpa using hd
      simp only [cond_true, List.mem_append, List.mem_singleton] at hx
      rcases hx with (hx | hx) | hx
      · exact ih hx
      · omega
      · rcases hn.2.2 with e | e
        · exact absurd e hd'
        · omega
    | false =>
      rw [hd] at hx
      simp only [cond_false, List.mem_append, List.mem_singleton] at hx
      rcases hx with hx | hx
      · exact ih hx
      · omega
theorem nodes_eq (p : TPlacement) : nodesImplP p = nodesRefP p := by
  unfold nodesImplP nodesRefP
  cases hv : pvB p with
  | false => rfl
  | true =>
    simp only [if_true]
    obtain ⟨h1, h2⟩ := compact_sorted (nodeL p.Parts p.Parts.length)
    refine asc_ext h1 (pickN_asc _ _) fun x => ?_
    rw [h2, pickN_mem]
    constructor
    · intro hx
      have hr := nodeL_rng hv _ (Nat.le_refl _) x hx
      exact ⟨by omega, by omega, (hasN_iff _ _ _).2 ((nodeL_mem _ _ (by omega) _).1 hx)⟩
    · rintro ⟨a, b, c⟩
      exact (nodeL_mem _ _ (by omega) _).2 ((hasN_iff _ _ _).1 c)
theorem nodesRef_len (p : TPlacement) : (nodesRefP p).length ≤ 17 := by
  unfold nodesRefP
  split
  · exact pickN_len _ _
  · simp
end Go.Proofs.YtglnnhmmipopiaaGreat
namespace Go.Proofs.YtglnnhmmipopiaaGreat
open Go.ChangeShapes
end Go.Proofs.YtglnnhmmipopiaaGreat
namespace Go.Proofs.YtglnnhmmipopiaaGreat
def kch (b : Int) : Bool := (((((decide ((97 : Int) ≤ b)) && (decide (b ≤ (122 : Int)))) || ((decide ((48 : Int) ≤ b)) && (decide (b ≤ (57 : Int))))) || (b == (47 : Int))) || (b == (46 : Int))) || (b == (95 : Int)) || (b == (45 : Int))
def kvB (k : Str) : Bool := (decide (1 ≤ k.length) && decide (k.length ≤ 24)) && !((List.range k.length).any fun i => !kch (byteAt k i))
theorem consists_impl {k : Str} (hk : k.length < big) : F_keys_consists k (fun y0 => F_keys_Valid_1 y0) = some (decide (k.length ≤ 24) && !((List.range k.length).any fun i => !kch (byteAt k i))) := by
  unfold F_keys_consists
  by_cases h : k.length ≤ 24
  · have e : decide ((24 : Int) < (k.length : Int)) = false := by simp; omega
    rw [e, cond_false, jn_mk]
    refine (loopRng (len := k.length) (L := fun n i => F_keys_consists_L1 k (fun y0 => F_keys_Valid_1 y0) (some true) n i) (q := fun i => !kch (byteAt k i)) (E := some false) (J := some true) hk (by omega) ?_ ?_).trans ?_
    · intro n i hi
      try dsimp only
      rw [F_keys_consists_L1]
      simp only [show (i : Int) < (k.length : Int) by omega, decide_true, cond_true, show 0 ≤ (i : Int) by omega, true_and, implies_true, req_t, Int.toNat_natCast, F_keys_Valid_1, bnd_mk, kch]
    · intro n
      try dsimp only
      rw [F_keys_consists_L1]
      simp
    · cases ((List.range k.length).any fun i => !kch (byteAt k i)) <;> simp [h]
  · have e : decide ((24 : Int) < (k.length : Int)) = true := by simp; omega
    rw [e, cond_true]
    simp [h]
theorem keys_impl {k : Str} (hk : k.length < big) : F_keys_Valid k = some (kvB k) := by
  unfold F_keys_Valid
  rw [consists_impl hk]
  cases k with
  | nil => rfl
  | cons a l =>
    have e : ((a :: l) != ([] : Str)) = true := by rfl
    rw [e]
    simp [gcall, kvB, bnd]
theorem keys_ref {k : Str} (hk : k.length < big) : F_clockworkref04_Valid k = some (kvB k) := by
  unfold F_clockworkref04_Valid
  simp only [jn_mk]
  have e1 : (decide ((1 : Int) ≤ (k.length : Int)) && decide ((k.length : Int) ≤ (24 : Int))) = (decide (1 ≤ k.length) && decide (k.length ≤ 24)) := by
    rw [Bool.eq_iff_iff]; simp; omega
  rw [e1]
  refine (loopRng (len := k.length) (L := fun n i => F_clockworkref04_Valid_L1 k (some (decide (1 ≤ k.length) && decide (k.length ≤ 24))) n i) (q := fun i => !kch (byteAt k i)) (E := some false) (J := some (decide (1 ≤ k.length) && decide (k.length ≤ 24))) hk (by omega) ?_ ?_).trans ?_
  · intro n i hi
    try dsimp only
    rw [F_clockworkref04_Valid_L1]
    have e2 : (((((((decide ((byteAt k i) < (97 : Int))) || (decide ((122 : Int) < (byteAt k i)))) && ((decide ((byteAt k i) < (48 : Int))) || (decide ((57 : Int) < (byteAt k i))))) && ((byteAt k i) != (47 : Int))) && ((byteAt k i) != (46 : Int))) && ((byteAt k i) != (95 : Int))) && ((byteAt k i) != (45 : Int))) = !kch (byteAt k i) := by
      rw [Bool.eq_iff_iff]
      simp only [kch, Bool.and_eq_true, Bool.or_eq_true, decide_eq_true_eq, bne_iff_ne, Bool.not_eq_true', Bool.or_eq_false_iff, Bool.and_eq_false_iff, decide_eq_false_iff_not, beq_eq_false_iff_ne]
      omega
    simp only [show (i : Int) < (k.length : Int) by omega, decide_true, cond_true, show 0 ≤ (i : Int) by omega, true_and, implies_true, req_t, Int.toNat_natCast, e2]
  · intro n
    try dsimp only
    rw [F_clockworkref04_Valid_L1]
    simp
  · rw [kvB]
    cases ((List.range k.length).any fun i => !kch (byteAt k i)) <;> simp
def ascBad (l : List Str) (i : Nat) : Bool := !kvB (atI l (i : Int)) || (decide (0 < i) && !sLt (atI l ((i : Int) - 1)) (atI l (i : Int)))
def ascB (l : List Str) : Bool := !((List.range l.length).any fun i => ascBad l i)
theorem wrap_pred {i : Nat} (h0 : 0 < i) (h : i < 9223372036854775807) : IntKind.i64.wrap ((i : Int) - 1) = (i : Int) - 1 := w64 (by omega) (by omega)
end Go.Proofs.YtglnnhmmipopiaaGreat
namespace Go.Proofs.YtglnnhmmipopiaaGreat
structure POk (p : TPlacement) : Prop where
  l : p.Parts.length < big
  s : ∀ x ∈ p.Parts, x.From.length < big ∧ x.Done.length < big
theorem pv_from {p : TPlacement} (h : pvB p = true) : ∀ x ∈ p.Parts, x.From.length ≤ 1000 := by
  intro x hx
  obtain ⟨i, hi, rfl⟩ := List.mem_iff_getElem.1 hx
  have hb := pv_part h hi
  rw [badPart_eq] at hb
  simp only [Bool.or_eq_false_iff] at hb
  have h1 := hb.1.1
  rw [atI_nat hi] at h1
  simp only [Bool.not_eq_false', boundB, Bool.and_eq_true, decide_eq_true_eq] at h1
  omega
theorem owner_rng {p : TPlacement} (h : pvB p = true) (k : Str) : 1 ≤ ownerP p k ∧ ownerP p k ≤ 16 := by
  have h0 : ¬ indexP p k < 0 := by
    unfold indexP
    have := lastLe_bd p.Parts k p.Parts.length
    simp only [h, Bool.true_eq_false, if_false]
    omega
  have hb := indexP_bd h0
  obtain ⟨i, hi⟩ : ∃ i : Nat, indexP p k = (i : Int) := ⟨(indexP p k).toNat, by omega⟩
  rw [hi] at hb
  have hn := pv_node h (i := i) (by omega)
  unfold ownerP
  rw [if_neg h0, hi]
  split
  · rename_i hc
    simp only [Bool.and_eq_true, bne_iff_ne, ne_eq] at hc
    rcases hn.2.2 with h | h
    · exact absurd h hc.1
    · exact h
  · exact ⟨hn.1, hn.2.1⟩
variable {p : TPlacement}
end Go.Proofs.YtglnnhmmipopiaaGreat
