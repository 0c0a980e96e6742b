/-
  CHAPTER 28, PLAIN: as many workers as pieces of work are as good as any number (part h).
  Conditions: none.
-/
import Derived.Test.YtfinjeaoicfdeaaTg
namespace Go.Proofs.Ytfinjeaoicfdeaa
open Go.ChangeShapes

theorem atI_set {l : List Int} {p k : Nat} {e : Int} (hk : k < l.length) : atI (l.set p e) (k : Int) = if p = k then e else atI l (k : Int) := by
  rw [atI_nat (by simpa using hk), List.getElem_set, atI_nat hk]

theorem pickS_first {fr : List Int} {i : Nat} (h1 : ∀ k : Nat, k < i → 0 < atI fr (k : Int)) (h2 : atI fr (i : Int) = 0) (h3 : ∀ k : Nat, i ≤ k → k < fr.length → atI fr (k : Int) = 0) :
    ∀ j, i < j → j ≤ fr.length → pickS fr j = (i : Int)
  | 0, h, _ => by omega
  | j + 1, h, hj => by
    simp only [pickS]
    rcases Nat.lt_or_ge i j with h' | h'
    · rw [pickS_first h1 h2 h3 j h' (by omega), h3 j (by omega) (by omega), h2]
      simp
    · have : i = j := by omega
      subst this
      have hb := pickS_bd fr i
      by_cases h0 : i = 0
      · subst h0; simp [pickS]
      · have : pickS fr i < (i : Int) := by omega
        have hp := h1 (pickS fr i).toNat (by omega)
        rw [Int.toNat_of_nonneg hb.1] at hp
        rw [h2, if_pos hp]

theorem limS_enough {rows : List (List Int)} {costs : List Int} {n : Nat} (hn : n ≤ 200) (hv : ∀ i, i < n → ∀ d ∈ atI rows (i : Int), 0 ≤ d ∧ d < (i : Int)) (hc : ∀ i : Nat, i < n → 1 ≤ atI costs (i : Int) ∧ atI costs (i : Int) ≤ 1000) :
    ∀ i, i ≤ n → (limS rows costs n i).2 = earlS rows costs i ∧ ∀ k : Nat, k < n → (k < i → 0 < atI (limS rows costs n i).1 (k : Int)) ∧ (i ≤ k → atI (limS rows costs n i).1 (k : Int) = 0)
  | 0, _ => by
    refine ⟨rfl, fun k hk => ⟨fun h => by omega, fun _ => ?_⟩⟩
    simp only [limS]
    rw [atI_nat (by simpa using hk)]; simp
  | i + 1, hi => by
    obtain ⟨h1, h2⟩ := limS_enough hn hv hc i (by omega)
    have hL := limS_len rows costs n i
    have h0 := (h2 i (by omega)).2 (by omega)
    have hp : pickS (limS rows costs n i).1 n = (i : Int) := pickS_first (fun k hk => (h2 k (by omega)).1 hk) h0 (fun k hk hk2 => (h2 k (by rw [hL.1] at hk2; exact hk2)).2 hk) n (by omega) (by rw [hL.1]; exact Nat.le_refl _)
    have hf := eSpan_facts hn hv hc i (by omega)
    have hci := hc i (by omega)
    have hE : IntKind.i64.wrap (startOf (earlS rows costs i) (atI rows (i : Int)) 0 + atI costs (i : Int)) = (eSpan rows costs i).End := rfl
    simp only [limS, hp, h0, h1]
    refine ⟨rfl, fun k hk => ?_⟩
    rw [atI_set (by rw [hL.1]; exact hk), hE]
    by_cases e : (i : Int).toNat = k
    · rw [if_pos e]
      exact ⟨fun _ => by omega, fun h => by omega⟩
    · rw [if_neg e]
      exact ⟨fun h => (h2 k hk).1 (by omega), fun h => (h2 k hk).2 (by omega)⟩

theorem plain_TimelineEnough (x0 : List TFootprint) (x1 : List Int) (o0 : (okL okTFootprint) x0) (o1 : (okL (okI .i64)) x1) : F_clockworklaw28_TimelineEnough x0 x1 = some true := by
  obtain ⟨h0, ho⟩ := ok_fp o0
  unfold F_clockworklaw28_TimelineEnough
  rw [few25_ref h0 ho, bnd_mk]
  cases hf : few25B x0 10 with
  | false => simp [lives_true]
  | true =>
    by_cases h1 : 20 < (x1.length : Int)
    · simp [h1, lives_true]
    by_cases hz : (x0.length : Int) = 0
    · simp [hz, lives_true]
    have hb1 : x1.length < big := by simp only [big]; omega
    have hl10 := few25_len hf
    have hl : x0.length ≤ 200 := by omega
    have f2 := depR_facts x0
    have v2 : ∀ i, i < x0.length → ∀ d ∈ atI (depR x0) (i : Int), 0 ≤ d ∧ d < (i : Int) := fun i hi => rows_lt f2.2.1 (by omega)
    rw [vers_impl hl ho hb1, depR_impl hl ho, lives_true]
    simp only [bnd_mk]
    rw [lim_impl (by rw [f2.1]; exact hl) hb1 (fun r hr => Nat.le_trans (f2.2.2 r hr) hl)]
    have hL : limP (depR x0) x1 (x0.length : Int) = versP x0 x1 := by
      unfold limP versP
      have hvB : validB (depR x0) x1 (x0.length : Int) = costsB (x0.length : Int) x1 := by
        simp only [validB, f2.1, f2.2.1, show (1 : Int) ≤ (x0.length : Int) by omega, show (x0.length : Int) ≤ 64 by omega, decide_true, Bool.and_true]
      rw [hvB]
      cases hc : costsB (x0.length : Int) x1 with
      | false => rfl
      | true =>
        simp only [if_true, lim, f2.1, Int.toNat_natCast]
        rw [(limS_enough hl v2 (costs_at hc) x0.length (Nat.le_refl _)).1]
    rw [hL]
    have hS2 : (versP x0 x1).1.length < big := by
      unfold versP
      split
      · rw [earlS_len]; exact h0
      · decide
    simp only [bnd_mk, h1, decide_false, Bool.not_true, Bool.false_or, show ((x0.length : Int) == 0) = false from beq_eq_false_iff_ne.2 hz, cond_false, bne_self_eq_false, jn_mk]
    refine (loopRng (len := (versP x0 x1).1.length) hS2 (L := fun n i => F_clockworklaw28_TimelineEnough_L1 (versP x0 x1) (versP x0 x1) (some true) n i) (q := fun _ => false) (E := some false) (J := some true) (by omega) ?_ ?_).trans ?_
    · intro n i hi
      try dsimp only
      rw [F_clockworklaw28_TimelineEnough_L1]
      simp only [show (i : Int) < ((versP x0 x1).1.length : Int) by omega, decide_true, cond_true, show 0 ≤ (i : Int) by omega, and_self, implies_true, req_t, bne_self_eq_false, Bool.false_or, cond_false]
    · intro n
      try dsimp only
      rw [F_clockworklaw28_TimelineEnough_L1]
      simp
    · rw [show ((List.range (versP x0 x1).1.length).any fun _ => false) = false by rw [List.any_eq_false]; simp]; rfl

end Go.Proofs.Ytfinjeaoicfdeaa
