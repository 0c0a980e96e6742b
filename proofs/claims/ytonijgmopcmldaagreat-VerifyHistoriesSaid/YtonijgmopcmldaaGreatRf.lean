/-
  THE TABLE OF KNOWN ANSWERS (works), BY THE KERNEL: sorting by insertion in the place of sorting by merging.
-/
import Derived.Test.YtonijgmopcmldaaGreatRe
set_option linter.all false
namespace Go.Proofs.YtonijgmopcmldaaGreat
open Go.ChangeShapes

def insG {α : Type} (lt : α → α → Bool) (x : α) : List α → List α
  | [] => [x]
  | y :: l => cond (lt y x) (y :: insG lt x l) (x :: y :: l)
def isG {α : Type} (lt : α → α → Bool) : List α → List α
  | [] => []
  | x :: l => insG lt x (isG lt l)

theorem insG_perm {α : Type} (lt : α → α → Bool) (x : α) : ∀ l, (insG lt x l).Perm (x :: l)
  | [] => List.Perm.refl _
  | y :: l => by
    unfold insG
    cases lt y x with
    | true => exact ((insG_perm lt x l).cons y).trans (List.Perm.swap x y l)
    | false => exact List.Perm.refl _

theorem isG_perm {α : Type} (lt : α → α → Bool) : ∀ l, (isG lt l).Perm l
  | [] => List.Perm.refl _
  | x :: l => (insG_perm lt x _).trans ((isG_perm lt l).cons x)

theorem insG_sorted {α : Type} {lt : α → α → Bool} (ht : ∀ a b c, lt b a = false → lt c b = false → lt c a = false) (ha : ∀ a b, lt a b = true → lt b a = false) (x : α) : ∀ l : List α, l.Pairwise (fun a b => lt b a = false) → (insG lt x l).Pairwise (fun a b => lt b a = false)
  | [], _ => List.pairwise_singleton _ _
  | y :: l, h => by
    obtain ⟨h1, h2⟩ := List.pairwise_cons.1 h
    unfold insG
    cases e : lt y x with
    | true =>
      refine List.pairwise_cons.2 ⟨fun z hz => ?_, insG_sorted ht ha x l h2⟩
      rcases List.mem_cons.1 ((insG_perm lt x l).subset hz) with rfl | hz
      · exact ha _ _ e
      · exact h1 z hz
    | false =>
      refine List.pairwise_cons.2 ⟨fun z hz => ?_, h⟩
      rcases List.mem_cons.1 hz with rfl | hz
      · exact e
      · exact ht _ _ _ e (h1 z hz)

theorem isG_sorted {α : Type} {lt : α → α → Bool} (ht : ∀ a b c, lt b a = false → lt c b = false → lt c a = false) (ha : ∀ a b, lt a b = true → lt b a = false) : ∀ l : List α, (isG lt l).Pairwise (fun a b => lt b a = false)
  | [] => List.Pairwise.nil
  | x :: l => insG_sorted ht ha x _ (isG_sorted ht ha l)

theorem sortS_is : sortS = isG sLt := by
  funext l
  exact sortS_eq' (isG_perm sLt l).symm (isG_sorted (lt := sLt) (fun a b c h1 h2 => le_le_trans h1 h2) (fun a b h => sLt_asymm' h) l)

theorem sortL_is : sortL = isG (fun a b : Int => decide (a < b)) := by
  funext l
  refine List.Perm.eq_of_pairwise (le := fun a b : Int => a ≤ b) (fun a b _ _ h1 h2 => by omega) ?_ ?_ ((List.mergeSort_perm l _).trans (isG_perm _ l).symm)
  · exact (List.pairwise_mergeSort (le := fun x y : Int => decide (x ≤ y)) (fun a b c h1 h2 => by simp at *; omega) (fun a b => by simp; omega) l).imp fun {a b} h => by simpa using h
  · exact (isG_sorted (lt := fun a b : Int => decide (a < b)) (fun a b c h1 h2 => by simp at *; omega) (fun a b h => by simp at *; omega) l).imp fun {a b} h => by simpa using h

set_option maxRecDepth 100000 in
theorem works_t : F_clockworklaw54_works = some true := by
  unfold F_clockworklaw54_works F_verify_Stores F_verify_turns F_verify_Compare
  rw [sortL_is, sortS_is]
  decide +kernel

end Go.Proofs.YtonijgmopcmldaaGreat
