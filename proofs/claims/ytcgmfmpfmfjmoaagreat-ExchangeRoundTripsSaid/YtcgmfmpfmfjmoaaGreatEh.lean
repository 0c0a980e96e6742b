/-
  CHAPTER 29, PLAIN: the nodes are what is specified; lists of numbers compared (part h).
  Conditions: none.
-/
import Derived.Test.YtcgmfmpfmfjmoaaGreatEg
set_option linter.all false
namespace Go.Proofs.YtcgmfmpfmfjmoaaGreat
open Go.ChangeShapes

theorem pv_part {p : TPlacement} (h : pvB p = true) {i : Nat} (hi : i < p.Parts.length) : badPart p.Parts i = false := by
  simp only [pvB, Bool.and_eq_true, Bool.not_eq_true', List.any_eq_false, List.mem_range] at h
  simpa using h.2 i hi

theorem pv_node {p : TPlacement} (h : pvB p = true) {i : Nat} (hi : i < p.Parts.length) : 1 ≤ (atI p.Parts (i : Int)).Node ∧ (atI p.Parts (i : Int)).Node ≤ 16 ∧
    ((atI p.Parts (i : Int)).Dest = 0 ∨ (1 ≤ (atI p.Parts (i : Int)).Dest ∧ (atI p.Parts (i : Int)).Dest ≤ 16)) := by
  have hb := pv_part h hi
  simp only [badPart, Bool.or_eq_false_iff, decide_eq_false_iff_not, Bool.not_eq_false'] at hb
  obtain ⟨⟨⟨⟨_, h1⟩, h2⟩, h3⟩, _⟩ := hb
  refine ⟨by omega, by omega, ?_⟩
  by_cases e : (atI p.Parts (i : Int)).Dest = 0
  · exact Or.inl e
  · right
    simp only [movesB, show ((atI p.Parts (i : Int)).Dest == 0) = false from beq_eq_false_iff_ne.2 e, cond_false, Bool.and_eq_true, decide_eq_true_eq] at h3
    exact ⟨h3.1.1.1.1.1, h3.1.1.1.1.2⟩

theorem nodeL_rng {p : TPlacement} (h : pvB p = true) : ∀ i, i ≤ p.Parts.length → ∀ x ∈ nodeL p.Parts i, 1 ≤ x ∧ x ≤ 16
  | 0, _, x, hx => by simp [nodeL] at hx
  | i + 1, hi, x, hx => by
    have ih := nodeL_rng h i (by omega) x
    have hn := pv_node h (show i < p.Parts.length by omega)
    simp only [nodeL] at hx
    cases hd : ((atI p.Parts (i : Int)).Dest != 0) with
    | true =>
      rw [hd] at hx
      have hd' : (atI p.Parts (i : Int)).Dest ≠ 0 := by simpa using hd
      simp only [cond_true, List.mem_append, List.mem_singleton] at hx
      rcases hx with (hx | hx) | hx
      · exact ih hx
      · omega
      · rcases hn.2.2 with e | e
        · exact absurd e hd'
        · omega
    | false =>
      rw [hd] at hx
      simp only [cond_false, List.mem_append, List.mem_singleton] at hx
      rcases hx with hx | hx
      · exact ih hx
      · omega

theorem nodes_eq (p : TPlacement) : nodesImplP p = nodesRefP p := by
  unfold nodesImplP nodesRefP
  cases hv : pvB p with
  | false => rfl
  | true =>
    simp only [if_true]
    obtain ⟨h1, h2⟩ := compact_sorted (nodeL p.Parts p.Parts.length)
    refine asc_ext h1 (pickN_asc _ _) fun x => ?_
    rw [h2, pickN_mem]
    constructor
    · intro hx
      have hr := nodeL_rng hv _ (Nat.le_refl _) x hx
      exact ⟨by omega, by omega, (hasN_iff _ _ _).2 ((nodeL_mem _ _ (by omega) _).1 hx)⟩
    · rintro ⟨a, b, c⟩
      exact (nodeL_mem _ _ (by omega) _).2 ((hasN_iff _ _ _).1 c)

theorem nodesRef_len (p : TPlacement) : (nodesRefP p).length ≤ 17 := by
  unfold nodesRefP
  split
  · exact pickN_len _ _
  · simp

end Go.Proofs.YtcgmfmpfmfjmoaaGreat
