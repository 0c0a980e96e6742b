/-
  Chapter 30, plain texts: the laws on executors and projections.
  Conditions: none.
-/
import Derived.Test.YtedbagekceppiaaBj
set_option linter.all false
namespace Go.Proofs.Ytedbagekceppiaa

theorem pick_take {l : List Int} : l.take 1 = [] ∨ ∃ a, l.take 1 = [a] := by
  cases l with
  | nil => exact .inl rfl
  | cons a l => exact .inr ⟨a, rfl⟩

/-- a list whose numbers ascend -/
def ascI (l : List Int) : Prop := l.Pairwise (· < ·)

theorem ascI_step {l : List Int} (h : ascI l) {i : Nat} (h0 : 0 < i) (hi : i < l.length) : atI l ((i : Int) - 1) < atI l (i : Int) := by
  have e : (i : Int) - 1 = ((i - 1 : Nat) : Int) := by omega
  rw [e, atI_nat hi, atI_nat (by omega)]
  exact List.pairwise_iff_getElem.1 h (i - 1) i (by omega) hi (by omega)

variable {p : TPlacement}

theorem ownersP_mem {p : TPlacement} (hv : pvB p = true) {ks : List Str} {x : Int} : x ∈ ownersP p ks ↔ ∃ k ∈ ks, ownerP p k = x := by
  rw [ownersP, pickO_mem, List.mem_map]
  constructor
  · exact fun h => h.2.2
  · rintro ⟨k, hk, rfl⟩
    have := owner_rng hv k
    exact ⟨by omega, by omega, k, hk, rfl⟩

end Go.Proofs.Ytedbagekceppiaa
