/-
  CHAPTER 29, PLAIN: both lists of nodes are one (part g).
  Conditions: none.
-/
import Derived.Test.YtcgmfmpfmfjmoaaGreatEf
set_option linter.all false
namespace Go.Proofs.YtcgmfmpfmfjmoaaGreat
open Go.ChangeShapes

theorem asc_ext : ∀ {a b : List Int}, a.Pairwise (· < ·) → b.Pairwise (· < ·) → (∀ x, x ∈ a ↔ x ∈ b) → a = b
  | [], [], _, _, _ => rfl
  | [], y :: b, _, _, h => by have := (h y).2 (by simp); simp at this
  | x :: a, [], _, _, h => by have := (h x).1 (by simp); simp at this
  | x :: a, y :: b, ha, hb, h => by
    obtain ⟨ha1, ha2⟩ := List.pairwise_cons.1 ha
    obtain ⟨hb1, hb2⟩ := List.pairwise_cons.1 hb
    have hxy : x = y := by
      rcases List.mem_cons.1 ((h x).1 (by simp)) with e | e
      · exact e
      · rcases List.mem_cons.1 ((h y).2 (by simp)) with e2 | e2
        · exact e2.symm
        · have := hb1 x e; have := ha1 y e2; omega
    subst hxy
    congr 1
    refine asc_ext ha2 hb2 fun z => ⟨fun hz => ?_, fun hz => ?_⟩
    · rcases List.mem_cons.1 ((h z).1 (List.mem_cons_of_mem _ hz)) with e | e
      · have := ha1 z hz; omega
      · exact e
    · rcases List.mem_cons.1 ((h z).2 (List.mem_cons_of_mem _ hz)) with e | e
      · have := hb1 z hz; omega
      · exact e

theorem pickN_mem (l : List TPart) (x : Int) : ∀ i, x ∈ pickN l i ↔ 1 ≤ x ∧ x < (i : Int) ∧ hasN l x l.length = true
  | 0 => by simp [pickN]; omega
  | i + 1 => by
    have ih := pickN_mem l x i
    simp only [pickN]
    by_cases h0 : i = 0
    · subst h0; simp; omega
    · rw [if_neg h0]
      cases hh : hasN l (i : Int) l.length with
      | true =>
        rw [cond_true, List.mem_append, ih, List.mem_singleton]
        constructor
        · rintro (⟨a, b, c⟩ | rfl)
          · exact ⟨a, by omega, c⟩
          · exact ⟨by omega, by omega, hh⟩
        · rintro ⟨a, b, c⟩
          by_cases e : x = (i : Int)
          · exact Or.inr e
          · exact Or.inl ⟨a, by omega, c⟩
      | false =>
        rw [cond_false, ih]
        constructor
        · rintro ⟨a, b, c⟩; exact ⟨a, by omega, c⟩
        · rintro ⟨a, b, c⟩
          have : x ≠ (i : Int) := fun e => by rw [e, hh] at c; cases c
          exact ⟨a, by omega, c⟩

theorem pickN_asc (l : List TPart) : ∀ i, (pickN l i).Pairwise (· < ·)
  | 0 => by simp [pickN]
  | i + 1 => by
    have ih := pickN_asc l i
    simp only [pickN]
    split
    · simp
    · cases hasN l (i : Int) l.length with
      | false => exact ih
      | true =>
        rw [cond_true, List.pairwise_append]
        refine ⟨ih, by simp, fun a ha b hb => ?_⟩
        have := (pickN_mem l a i).1 ha
        simp only [List.mem_singleton] at hb
        omega

theorem hasN_iff (l : List TPart) (x : Int) : ∀ k, hasN l x k = true ↔ ∃ j : Nat, j < k ∧ ((atI l (j : Int)).Node = x ∨ (atI l (j : Int)).Dest = x)
  | 0 => by simp [hasN]
  | k + 1 => by
    have ih := hasN_iff l x k
    simp only [hasN, Bool.or_eq_true, beq_iff_eq, ih]
    constructor
    · rintro ((⟨j, a, b⟩ | h) | h)
      · exact ⟨j, by omega, b⟩
      · exact ⟨k, by omega, Or.inl h⟩
      · exact ⟨k, by omega, Or.inr h⟩
    · rintro ⟨j, a, b⟩
      by_cases e : j = k
      · subst e; rcases b with b | b
        · exact Or.inl (Or.inr b)
        · exact Or.inr b
      · exact Or.inl (Or.inl ⟨j, by omega, b⟩)

theorem nodeL_mem (l : List TPart) (x : Int) (hx : x ≠ 0) : ∀ k, x ∈ nodeL l k ↔ ∃ j : Nat, j < k ∧ ((atI l (j : Int)).Node = x ∨ (atI l (j : Int)).Dest = x)
  | 0 => by simp [nodeL]
  | k + 1 => by
    have ih := nodeL_mem l x hx k
    have key : x ∈ nodeL l (k + 1) ↔ x ∈ nodeL l k ∨ (atI l (k : Int)).Node = x ∨ (atI l (k : Int)).Dest = x := by
      simp only [nodeL]
      cases hd : ((atI l (k : Int)).Dest != 0) with
      | true => simp [eq_comm (a := x), or_assoc]
      | false =>
        have : (atI l (k : Int)).Dest = 0 := by simpa using hd
        simp [this, eq_comm (a := x), Ne.symm hx]
    rw [key, ih]
    constructor
    · rintro (⟨j, a, b⟩ | h)
      · exact ⟨j, by omega, b⟩
      · exact ⟨k, by omega, h⟩
    · rintro ⟨j, a, b⟩
      by_cases e : j = k
      · subst e; exact Or.inr b
      · exact Or.inl ⟨j, by omega, b⟩

theorem compact_steps {d : Array Int} (hs : ∀ i j, i ≤ j → j < d.size → d[i]! ≤ d[j]!) : ∀ m, m ≤ d.size → (Go.Lib.compactUpTo d m).Pairwise (· < ·) ∧ (∀ x, x ∈ Go.Lib.compactUpTo d m ↔ ∃ j, j < m ∧ d[j]! = x)
  | 0, _ => by simp [Go.Lib.compactUpTo]
  | m + 1, hm => by
    obtain ⟨h1, h2⟩ := compact_steps hs m (by omega)
    rw [Go.Lib.compactUpTo_succ]
    cases hk : Go.Lib.keeps d m with
    | true =>
      simp only [if_true]
      have hlt : ∀ j, j < m → d[j]! < d[m]! := by
        intro j hj
        simp only [Go.Lib.keeps, decide_eq_true_eq] at hk
        rcases hk with hk | hk
        · omega
        · have a := hs j (m - 1) (by omega) (by omega)
          have b := hs (m - 1) m (by omega) (by omega)
          omega
      refine ⟨List.pairwise_append.2 ⟨h1, by simp, fun a ha b hb => ?_⟩, fun x => ?_⟩
      · obtain ⟨j, hj, rfl⟩ := (h2 a).1 ha
        simp only [List.mem_singleton] at hb
        rw [hb]; exact hlt j hj
      · rw [List.mem_append, h2, List.mem_singleton]
        constructor
        · rintro (⟨j, a, b⟩ | h)
          · exact ⟨j, by omega, b⟩
          · exact ⟨m, by omega, h.symm⟩
        · rintro ⟨j, a, b⟩
          by_cases e : j = m
          · subst e; exact Or.inr b.symm
          · exact Or.inl ⟨j, by omega, b⟩
    | false =>
      simp only [Bool.false_eq_true, if_false, List.append_nil]
      refine ⟨h1, fun x => ?_⟩
      rw [h2]
      simp only [Go.Lib.keeps, decide_eq_false_iff_not, not_or, Decidable.not_not] at hk
      constructor
      · rintro ⟨j, a, b⟩; exact ⟨j, by omega, b⟩
      · rintro ⟨j, a, b⟩
        by_cases e : j = m
        · subst e; exact ⟨j - 1, by omega, by rw [← hk.2]; exact b⟩
        · exact ⟨j, by omega, b⟩

theorem compact_sorted (l : List Int) : (compactL (sortL l)).Pairwise (· < ·) ∧ ∀ x, x ∈ compactL (sortL l) ↔ x ∈ l := by
  have hp : (sortL l).Pairwise (fun a b => decide (a ≤ b) = true) := List.pairwise_mergeSort (fun a b c h1 h2 => by simp at *; omega) (fun a b => by simp; omega) l
  have hs : ∀ i j, i ≤ j → j < (sortL l).toArray.size → (sortL l).toArray[i]! ≤ (sortL l).toArray[j]! := by
    intro i j hij hj
    have hj' : j < (sortL l).length := by simpa using hj
    have hi' : i < (sortL l).length := by omega
    rcases Nat.lt_or_ge i j with h | h
    · have := List.pairwise_iff_getElem.1 hp i j hi' hj' h
      simpa [hi', hj'] using this
    · rw [show i = j by omega]; exact Int.le_refl _
  obtain ⟨h1, h2⟩ := compact_steps hs (sortL l).length (by simp)
  refine ⟨h1, fun x => ?_⟩
  rw [show compactL (sortL l) = Go.Lib.compactUpTo (sortL l).toArray (sortL l).length from rfl, h2]
  have hm : x ∈ l ↔ x ∈ sortL l := by unfold sortL; simp
  rw [hm]
  constructor
  · rintro ⟨j, a, b⟩
    rw [← b]; simp [a]
  · intro h
    obtain ⟨j, hj, e⟩ := List.getElem_of_mem h
    exact ⟨j, hj, by simp [hj, e]⟩

end Go.Proofs.YtcgmfmpfmfjmoaaGreat
