/-
  Chapter 30, plain texts: the laws on executors and projections.
  Conditions: none.
-/
import Derived.Test.YtcgmfmpfmfjmoaaGreatEj
set_option linter.all false
namespace Go.Proofs.YtcgmfmpfmfjmoaaGreat

theorem pick_take {l : List Int} : l.take 1 = [] ∨ ∃ a, l.take 1 = [a] := by
  cases l with
  | nil => exact .inl rfl
  | cons a l => exact .inr ⟨a, rfl⟩

/-- a list whose numbers ascend -/
def ascI (l : List Int) : Prop := l.Pairwise (· < ·)

theorem ascI_step {l : List Int} (h : ascI l) {i : Nat} (h0 : 0 < i) (hi : i < l.length) : atI l ((i : Int) - 1) < atI l (i : Int) := by
  have e : (i : Int) - 1 = ((i - 1 : Nat) : Int) := by omega
  rw [e, atI_nat hi, atI_nat (by omega)]
  exact List.pairwise_iff_getElem.1 h (i - 1) i (by omega) hi (by omega)

variable {p : TPlacement} {f : TFootprint}

theorem nodes30_asc : ascI (nodes30 p f) := by
  unfold nodes30
  split
  · split
    · unfold nodesRefP
      split
      · exact pickN_asc _ _
      · exact List.Pairwise.nil
    · exact pickO_asc _ _
  · exact List.Pairwise.nil

theorem active30_asc : ascI (active30 p f) := by
  unfold active30
  split
  · split
    · unfold nodesRefP
      split
      · exact pickN_asc _ _
      · exact List.Pairwise.nil
    · exact pickO_asc _ _
  · exact List.Pairwise.nil

theorem ownersP_mem {p : TPlacement} (hv : pvB p = true) {ks : List Str} {x : Int} : x ∈ ownersP p ks ↔ ∃ k ∈ ks, ownerP p k = x := by
  rw [ownersP, pickO_mem, List.mem_map]
  constructor
  · exact fun h => h.2.2
  · rintro ⟨k, hk, rfl⟩
    have := owner_rng hv k
    exact ⟨by omega, by omega, k, hk, rfl⟩

theorem active_sub {x : Int} (h : x ∈ active30 p f) : x ∈ nodes30 p f := by
  unfold active30 at h
  unfold nodes30
  split at h
  · rename_i hv
    rw [if_pos hv]
    split at h
    · rename_i hA; rw [if_pos hA]; exact h
    · rename_i hA
      rw [if_neg hA]
      rw [ownersP_mem (v30_parts hv).1] at h ⊢
      obtain ⟨k, hk, he⟩ := h
      exact ⟨k, by simp [hk], he⟩
  · simp at h

theorem exec30_asc : ascI (exec30 p f) := by
  unfold exec30
  split
  · split
    · exact active30_asc
    · split
      · rcases pick_take (l := nodes30 p f) with h | ⟨a, h⟩ <;> rw [h] <;> simp [ascI]
      · simp [ascI]
  · exact List.Pairwise.nil

theorem exec30_sub (hn : 0 < (nodes30 p f).length) {x : Int} (h : x ∈ exec30 p f) : x ∈ nodes30 p f := by
  unfold exec30 at h
  split at h
  · split at h
    · exact active_sub h
    · try rw [if_pos hn] at h
      exact List.mem_of_mem_take h
  · simp at h

theorem exec30_pos (hv : v30 p f = true) : 0 < (exec30 p f).length := by
  unfold exec30
  rw [if_pos hv]
  split
  · assumption
  · split
    · rename_i h; simp; omega
    · simp

/-! ### RouteExecutors -/

end Go.Proofs.YtcgmfmpfmfjmoaaGreat
