/-
  Chapter 30, plain texts: keys and footprints.
  Conditions: none.
-/
import Derived.Test.YtcgmfmpfmfjmoaaGreatEh
set_option linter.all false
namespace Go.Proofs.YtcgmfmpfmfjmoaaGreat

def kch (b : Int) : Bool := (((((decide ((97 : Int) ≤ b)) && (decide (b ≤ (122 : Int)))) || ((decide ((48 : Int) ≤ b)) && (decide (b ≤ (57 : Int))))) || (b == (47 : Int))) || (b == (46 : Int))) || (b == (95 : Int)) || (b == (45 : Int))
def kvB (k : Str) : Bool := (decide (1 ≤ k.length) && decide (k.length ≤ 24)) && !((List.range k.length).any fun i => !kch (byteAt k i))

theorem consists_impl {k : Str} (hk : k.length < big) : F_keys_consists k (fun y0 => F_keys_Valid_1 y0) = some (decide (k.length ≤ 24) && !((List.range k.length).any fun i => !kch (byteAt k i))) := by
  unfold F_keys_consists
  by_cases h : k.length ≤ 24
  · have e : decide ((24 : Int) < (k.length : Int)) = false := by simp; omega
    rw [e, cond_false, jn_mk]
    refine (loopRng (len := k.length) (L := fun n i => F_keys_consists_L1 k (fun y0 => F_keys_Valid_1 y0) (some true) n i) (q := fun i => !kch (byteAt k i)) (E := some false) (J := some true) hk (by omega) ?_ ?_).trans ?_
    · intro n i hi
      try dsimp only
      rw [F_keys_consists_L1]
      simp only [show (i : Int) < (k.length : Int) by omega, decide_true, cond_true, show 0 ≤ (i : Int) by omega, true_and, implies_true, req_t, Int.toNat_natCast, F_keys_Valid_1, bnd_mk, kch]
    · intro n
      try dsimp only
      rw [F_keys_consists_L1]
      simp
    · cases ((List.range k.length).any fun i => !kch (byteAt k i)) <;> simp [h]
  · have e : decide ((24 : Int) < (k.length : Int)) = true := by simp; omega
    rw [e, cond_true]
    simp [h]

theorem keys_impl {k : Str} (hk : k.length < big) : F_keys_Valid k = some (kvB k) := by
  unfold F_keys_Valid
  rw [consists_impl hk]
  cases k with
  | nil => rfl
  | cons a l =>
    have e : ((a :: l) != ([] : Str)) = true := by rfl
    rw [e]
    simp [gcall, kvB, bnd]

theorem keys_ref {k : Str} (hk : k.length < big) : F_clockworkref04_Valid k = some (kvB k) := by
  unfold F_clockworkref04_Valid
  simp only [jn_mk]
  have e1 : (decide ((1 : Int) ≤ (k.length : Int)) && decide ((k.length : Int) ≤ (24 : Int))) = (decide (1 ≤ k.length) && decide (k.length ≤ 24)) := by
    rw [Bool.eq_iff_iff]; simp; omega
  rw [e1]
  refine (loopRng (len := k.length) (L := fun n i => F_clockworkref04_Valid_L1 k (some (decide (1 ≤ k.length) && decide (k.length ≤ 24))) n i) (q := fun i => !kch (byteAt k i)) (E := some false) (J := some (decide (1 ≤ k.length) && decide (k.length ≤ 24))) hk (by omega) ?_ ?_).trans ?_
  · intro n i hi
    try dsimp only
    rw [F_clockworkref04_Valid_L1]
    have e2 : (((((((decide ((byteAt k i) < (97 : Int))) || (decide ((122 : Int) < (byteAt k i)))) && ((decide ((byteAt k i) < (48 : Int))) || (decide ((57 : Int) < (byteAt k i))))) && ((byteAt k i) != (47 : Int))) && ((byteAt k i) != (46 : Int))) && ((byteAt k i) != (95 : Int))) && ((byteAt k i) != (45 : Int))) = !kch (byteAt k i) := by
      rw [Bool.eq_iff_iff]
      simp only [kch, Bool.and_eq_true, Bool.or_eq_true, decide_eq_true_eq, bne_iff_ne, Bool.not_eq_true', Bool.or_eq_false_iff, Bool.and_eq_false_iff, decide_eq_false_iff_not, beq_eq_false_iff_ne]
      omega
    simp only [show (i : Int) < (k.length : Int) by omega, decide_true, cond_true, show 0 ≤ (i : Int) by omega, true_and, implies_true, req_t, Int.toNat_natCast, e2]
  · intro n
    try dsimp only
    rw [F_clockworkref04_Valid_L1]
    simp
  · rw [kvB]
    cases ((List.range k.length).any fun i => !kch (byteAt k i)) <;> simp

def ascBad (l : List Str) (i : Nat) : Bool := !kvB (atI l (i : Int)) || (decide (0 < i) && !sLt (atI l ((i : Int) - 1)) (atI l (i : Int)))
def ascB (l : List Str) : Bool := !((List.range l.length).any fun i => ascBad l i)

theorem wrap_pred {i : Nat} (h0 : 0 < i) (h : i < 9223372036854775807) : IntKind.i64.wrap ((i : Int) - 1) = (i : Int) - 1 := w64 (by omega) (by omega)

theorem asc_impl {l : List Str} (hl : l.length < 9223372036854775808) (hs : ∀ k ∈ l, k.length < big) : F_footprint_ascending l = some (ascB l && decide (l.length ≤ 64)) := by
  unfold F_footprint_ascending
  simp only [jn_mk]
  have e1 : decide ((((l).length : Nat) : Int) ≤ (64 : Int)) = decide (l.length ≤ 64) := by rw [Bool.eq_iff_iff]; simp; omega
  rw [e1]
  refine (loopRng (len := l.length) (L := fun n i => F_footprint_ascending_L1 l (some (decide (l.length ≤ 64))) n i) (q := fun i => ascBad l i) (E := some false) (J := some (decide (l.length ≤ 64))) (by omega) (by omega) ?_ ?_).trans ?_
  · intro n i hi
    try dsimp only
    rw [F_footprint_ascending_L1]
    simp only [show (i : Int) < (l.length : Int) by omega, decide_true, cond_true, show 0 ≤ (i : Int) by omega, true_and, implies_true, req_t, keys_impl (hs _ (at_mem29 hi)), bnd_mk]
    cases hk : kvB (atI l (i : Int)) with
    | false => simp [ascBad, hk, req]
    | true =>
      by_cases h0 : 0 < i
      · have h0' : (0 : Int) < (i : Int) := by omega
        simp only [h0', decide_true, BEq.rfl, Bool.not_true, Bool.and_self, forall_const, wrap_pred h0 (by omega), Bool.true_and, Bool.false_or, ascBad, hk, h0, cond_true]
        rw [req_pos (by omega)]
      · have h0' : ¬ (0 : Int) < (i : Int) := by omega
        simp [h0', ascBad, hk, h0, req]
  · intro n
    try dsimp only
    rw [F_footprint_ascending_L1]
    simp
  · rw [ascB]
    cases ((List.range l.length).any fun i => ascBad l i) <;> simp

theorem asc_ref {l : List Str} (hl : l.length < 9223372036854775808) (hs : ∀ k ∈ l, k.length < big) : F_clockworkref04_Ascending l = some (ascB l) := by
  unfold F_clockworkref04_Ascending
  simp only [jn_mk]
  refine (loopRng (len := l.length) (L := fun n i => F_clockworkref04_Ascending_L1 l (some true) n i) (q := fun i => ascBad l i) (E := some false) (J := some true) (by omega) (by omega) ?_ ?_).trans ?_
  · intro n i hi
    try dsimp only
    rw [F_clockworkref04_Ascending_L1]
    simp only [show (i : Int) < (l.length : Int) by omega, decide_true, cond_true, show 0 ≤ (i : Int) by omega, true_and, implies_true, req_t, keys_ref (hs _ (at_mem29 hi)), bnd_mk]
    cases hk : kvB (atI l (i : Int)) with
    | false => simp [ascBad, hk, req]
    | true =>
      by_cases h0 : 0 < i
      · have h0' : (0 : Int) < (i : Int) := by omega
        simp only [h0', decide_true, BEq.rfl, Bool.not_true, Bool.and_self, forall_const, wrap_pred h0 (by omega), Bool.true_and, Bool.false_or, ascBad, hk, h0, cond_true]
        rw [req_pos (by omega)]
      · have h0' : ¬ (0 : Int) < (i : Int) := by omega
        simp [h0', ascBad, hk, h0, req]
  · intro n
    try dsimp only
    rw [F_clockworkref04_Ascending_L1]
    simp
  · rw [ascB]
    cases ((List.range l.length).any fun i => ascBad l i) <;> simp

/-- What a valid footprint is. -/
def fvB (f : TFootprint) : Bool := if f.All = true then decide (f.Reads.length = 0) && decide (f.Writes.length = 0)
  else decide (f.Reads.length ≤ 64) && decide (f.Writes.length ≤ 64) && ascB f.Reads && ascB f.Writes

structure FOk (f : TFootprint) : Prop where
  r : f.Reads.length < 9223372036854775808
  w : f.Writes.length < 9223372036854775808
  rk : ∀ k ∈ f.Reads, k.length < big
  wk : ∀ k ∈ f.Writes, k.length < big

theorem fvalid_impl {f : TFootprint} (h : FOk f) : F_footprint_Valid f = some (fvB f) := by
  unfold F_footprint_Valid
  rw [asc_impl h.r h.rk, asc_impl h.w h.wk]
  cases hA : f.All with
  | true =>
    simp only [cond_true, fvB, hA, if_true]
    congr 1
    rw [Bool.eq_iff_iff]; simp
  | false =>
    simp only [cond_false, fvB, hA, bnd_mk]
    cases h1 : ascB f.Reads <;> cases h2 : decide (f.Reads.length ≤ 64) <;> cases h3 : ascB f.Writes <;> cases h4 : decide (f.Writes.length ≤ 64) <;> simp [gcall, bnd]

theorem fvB_len {f : TFootprint} (h : fvB f = true) : f.Reads.length ≤ 64 ∧ f.Writes.length ≤ 64 := by
  unfold fvB at h
  split at h
  · simp at h
    simp [h]
  · simp only [Bool.and_eq_true, decide_eq_true_eq] at h
    exact ⟨h.1.1.1, h.1.1.2⟩

end Go.Proofs.YtcgmfmpfmfjmoaaGreat
