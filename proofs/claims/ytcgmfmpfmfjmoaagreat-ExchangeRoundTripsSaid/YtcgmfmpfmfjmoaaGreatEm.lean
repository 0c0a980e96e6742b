/-
  Chapter 30, plain texts: the laws on projections.
  Conditions: none.
-/
import Derived.Test.YtcgmfmpfmfjmoaaGreatEl
set_option linter.all false
namespace Go.Proofs.YtcgmfmpfmfjmoaaGreat

/-! ### Lists of keys that ascend -/

theorem asc_iff {l : List Str} : ascB l = true ↔ (∀ k ∈ l, kvB k = true) ∧ l.Pairwise (fun a b => sLt a b = true) := by
  have hstep : ascB l = true ↔ ∀ i, i < l.length → kvB (atI l (i : Int)) = true ∧ (0 < i → sLt (atI l ((i : Int) - 1)) (atI l (i : Int)) = true) := by
    unfold ascB
    rw [Bool.not_eq_true', List.any_eq_false]
    constructor
    · intro h i hi
      have := h i (List.mem_range.2 hi)
      simp only [ascBad, Bool.not_eq_true, Bool.or_eq_false_iff, Bool.not_eq_false', Bool.and_eq_false_iff, decide_eq_false_iff_not] at this
      refine ⟨this.1, fun h0 => ?_⟩
      rcases this.2 with h | h
      · exact absurd h0 h
      · exact h
    · intro h i hi
      obtain ⟨h1, h2⟩ := h i (List.mem_range.1 hi)
      simp only [ascBad, Bool.not_eq_true, Bool.or_eq_false_iff, Bool.not_eq_false', Bool.and_eq_false_iff, decide_eq_false_iff_not]
      refine ⟨h1, ?_⟩
      by_cases h0 : 0 < i
      · exact .inr (h2 h0)
      · exact .inl h0
  rw [hstep]
  constructor
  · intro h
    refine ⟨fun k hk => ?_, ?_⟩
    · obtain ⟨i, hi, rfl⟩ := List.mem_iff_getElem.1 hk
      have := (h i hi).1
      rwa [atI_nat hi] at this
    · rw [List.pairwise_iff_getElem]
      have key : ∀ j (hj : j < l.length) i (hi : i < j), sLt (l[i]'(by omega)) l[j] = true := by
        intro j
        induction j with
        | zero => intro _ i hi; omega
        | succ j ih =>
          intro hj i hi
          have hs := (h (j + 1) hj).2 (by omega)
          have e : ((j + 1 : Nat) : Int) - 1 = ((j : Nat) : Int) := by omega
          rw [e, atI_nat (show j < l.length by omega), atI_nat hj] at hs
          by_cases hij : i = j
          · subst hij; exact hs
          · exact sLt_trans (ih (by omega) i (by omega)) hs
      exact fun i j _ hj hij => key j hj i hij
  · rintro ⟨h1, h2⟩ i hi
    refine ⟨h1 _ (at_mem29 hi), fun h0 => ?_⟩
    have e : (i : Int) - 1 = ((i - 1 : Nat) : Int) := by omega
    rw [e, atI_nat (show i - 1 < l.length by omega), atI_nat hi]
    exact List.pairwise_iff_getElem.1 h2 (i - 1) i _ _ (by omega)

theorem asc_filter {l : List Str} (h : ascB l = true) (g : Str → Bool) : ascB (l.filter g) = true := by
  obtain ⟨h1, h2⟩ := asc_iff.1 h
  exact asc_iff.2 ⟨fun k hk => h1 k (List.mem_filter.1 hk).1, h2.filter g⟩

/-! ### Binary search -/

theorem shr_nat (a : Nat) : shrI .u64 ((a : Nat) : Int) 1 = ((a / 2 : Nat) : Int) := by
  unfold shrI
  show Int.fdiv (a : Int) (2 ^ 1) = _
  rw [Int.fdiv_eq_ediv_of_nonneg _ (by decide)]
  omega

variable {p : TPlacement} {f : TFootprint}

theorem owned_loop {ks : List Str} (hk : ks.length ≤ 1000) (q : Str → Bool) : ∀ i, i ≤ ks.length → ((ks.take i).filter q).length ≤ 1000 := fun i hi => by
  have := List.length_filter_le q (ks.take i)
  have h2 : (ks.take i).length ≤ ks.length := by simp; omega
  omega

theorem contains_eq {l : List Int} (hl : l.length < big) (x : Int) : F_slices_Contains_int_int l x = some (l.any fun y => y == x) := by
  unfold F_slices_Contains_int_int F_slices_Index_int_int
  simp only [jn_mk]
  have h := loopFirst (l := l) hl (L := fun n i => F_slices_Index_int_int_L1 l x (some (-1)) n i) (q := fun y => x == y) (fun n i hi => by
    try dsimp only
    rw [F_slices_Index_int_int_L1]
    simp only [show (i : Int) < (l.length : Int) by omega, decide_true, cond_true, show 0 ≤ (i : Int) by omega, true_and, req_t, atI_nat hi]) (fun n => by
    try dsimp only
    rw [F_slices_Index_int_int_L1]
    simp) ((l.length : Int).toNat + 1) 0 (by omega) (by omega)
  have e0 : ((0 : Nat) : Int) = 0 := rfl
  rw [e0] at h
  have h' : F_slices_Index_int_int_L1 l x (some (-1)) ((l.length : Int).toNat + 1) 0 = some (firstIx (fun y => x == y) (l.drop 0) 0) := h
  rw [h', bnd_mk, List.drop_zero, firstIx_nonneg]
  congr 1
  exact any_congr fun y _ => by rw [Bool.eq_iff_iff, beq_iff_eq, beq_iff_eq]; exact eq_comm

def proj30 (p : TPlacement) (f : TFootprint) (x : Int) : TFootprint :=
  if v30 p f = true then (if f.All = true then ⟨(nodesRefP p).any (fun y => y == x), [], []⟩ else ⟨false, f.Reads.filter (fun k => ownerP p k == x), f.Writes.filter (fun k => ownerP p k == x)⟩) else ⟨false, [], []⟩

theorem keys_self {l : List Str} (hl : l.length ≤ 1000) : F_clockworkref04_Same l l = some true := by
  unfold F_clockworkref04_Same
  simp only [bne_self_eq_false, cond_false, jn_mk]
  refine (loopAny0 (l := l) (L := fun n i => F_clockworkref04_Same_L1 l l (some true) n i) (q := fun _ => false) (E := some false) (J := some true) (by omega) (by omega) ?_ ?_).trans ?_
  · intro n i hi
    try dsimp only
    rw [F_clockworkref04_Same_L1]
    simp only [show (i : Int) < (l.length : Int) by omega, decide_true, cond_true, show 0 ≤ (i : Int) by omega, true_and, req_t, bne_self_eq_false, cond_false]
  · intro n
    try dsimp only
    rw [F_clockworkref04_Same_L1]
    simp
  · rw [show (l.any fun _ => false) = false by rw [List.any_eq_false]; simp]; rfl

theorem proj_len (x : Int) : (proj30 p f x).Reads.length ≤ 64 ∧ (proj30 p f x).Writes.length ≤ 64 := by
  unfold proj30
  split
  · rename_i hv
    have hl := fvB_len (v30_parts hv).2
    split
    · simp
    · have h1 := List.length_filter_le (fun k => ownerP p k == x) f.Reads
      have h2 := List.length_filter_le (fun k => ownerP p k == x) f.Writes
      exact ⟨Nat.le_trans h1 hl.1, Nat.le_trans h2 hl.2⟩
  · simp

end Go.Proofs.YtcgmfmpfmfjmoaaGreat
namespace Go.Proofs.YtcgmfmpfmfjmoaaGreat

variable {p : TPlacement} {f : TFootprint}

/-- How many keys belong to a node below i. -/
def cnt (p : TPlacement) (l : List Str) (i : Int) : Nat := l.countP fun k => decide (ownerP p k < i)

theorem cnt_step (l : List Str) (i : Int) : cnt p l (i + 1) = cnt p l i + (l.filter fun k => ownerP p k == i).length := by
  unfold cnt
  induction l with
  | nil => rfl
  | cons k l ih =>
    rw [List.countP_cons, List.countP_cons, ih, List.filter_cons]
    by_cases h1 : ownerP p k < i
    · have h2 : ownerP p k < i + 1 := by omega
      have h3 : (ownerP p k == i) = false := by rw [beq_eq_false_iff_ne]; omega
      simp [h1, h2, h3]; omega
    · by_cases h4 : ownerP p k = i
      · have h2 : ownerP p k < i + 1 := by omega
        have h3 : (ownerP p k == i) = true := by simp [h4]
        simp only [h1, h2, h3, decide_true, decide_false, if_true, List.length_cons]
        simp
        omega
      · have h2 : ¬ ownerP p k < i + 1 := by omega
        have h3 : (ownerP p k == i) = false := by rw [beq_eq_false_iff_ne]; exact h4
        simp [h1, h2, h3]

theorem cnt_zero (hv : pvB p = true) (l : List Str) : cnt p l 0 = 0 := by
  unfold cnt
  rw [List.countP_eq_zero]
  intro k _
  have := owner_rng hv k
  simp; omega

theorem cnt_all (hv : pvB p = true) (l : List Str) : cnt p l 18 = l.length := by
  unfold cnt
  rw [List.countP_eq_length]
  intro k _
  have := owner_rng hv k
  simp; omega

theorem cnt_le (l : List Str) (i : Int) : cnt p l i ≤ l.length := List.countP_le_length

theorem filt_ok {l : List Str} {x : Int} : ∀ k ∈ l.filter (fun k => ownerP p k == x), ownerP p k = x ∧ k ∈ l := fun k hk => by
  obtain ⟨h1, h2⟩ := List.mem_filter.1 hk
  exact ⟨by simpa using h2, h1⟩

theorem filt_pos {l : List Str} {x : Int} : 0 < (l.filter (fun k => ownerP p k == x)).length ↔ ∃ k ∈ l, ownerP p k = x := by
  rw [List.length_pos_iff_exists_mem]
  constructor
  · rintro ⟨k, hk⟩
    obtain ⟨h1, h2⟩ := filt_ok k hk
    exact ⟨k, h2, h1⟩
  · rintro ⟨k, h1, h2⟩
    exact ⟨k, List.mem_filter.2 ⟨h1, by simpa using h2⟩⟩

end Go.Proofs.YtcgmfmpfmfjmoaaGreat
