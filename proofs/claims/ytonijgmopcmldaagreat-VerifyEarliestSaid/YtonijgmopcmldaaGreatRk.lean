/-
  STATES OF A STORE AT A TURN, CLOSED: program and specification alike.
-/
import Derived.Test.YtonijgmopcmldaaGreatRj
set_option linter.all false
namespace Go.Proofs.YtonijgmopcmldaaGreat
open Go.ChangeShapes

def asc54 (l : List TVersion) : Prop := l.Pairwise fun u v => u.At < v.At

/-- What a valid row is. -/
theorem vr_facts {r : TRow} {fl la : Int} (h : vrB r fl la = true) : r.Vers ≠ [] ∧ asc54 r.Vers ∧ ∀ u ∈ r.Vers, fl ≤ u.At ∧ u.At ≤ la ∧ vvB u.Val = true := by
  unfold vrB at h
  rw [Bool.and_eq_true, Bool.and_eq_true] at h
  obtain ⟨⟨h1, _⟩, h3⟩ := h
  simp only [Bool.not_eq_true'] at h3
  have h3 := List.any_eq_false.1 h3
  have each : ∀ i, i < r.Vers.length → (fl ≤ (atI r.Vers (i : Int)).At ∧ (atI r.Vers (i : Int)).At ≤ la ∧ vvB (atI r.Vers (i : Int)).Val = true) ∧ (0 < i → (atI r.Vers ((i : Int) - 1)).At < (atI r.Vers (i : Int)).At) := fun i hi => by
    have := h3 i (List.mem_range.2 hi)
    unfold verBad at this
    simp only [Bool.not_eq_true, Bool.or_eq_false_iff, Bool.and_eq_false_imp, decide_eq_false_iff_not, decide_eq_true_eq, Bool.not_eq_false'] at this
    obtain ⟨⟨⟨a, b⟩, c⟩, d⟩ := this
    refine ⟨⟨by omega, by omega, c⟩, fun h0 => ?_⟩
    have := d h0
    omega
  refine ⟨fun e => by rw [e] at h1; simp at h1, ?_, fun u hu => ?_⟩
  · have step : ∀ n, n < r.Vers.length → ∀ i, i < n → (atI r.Vers (i : Int)).At < (atI r.Vers (n : Int)).At := by
      intro n
      induction n with
      | zero => intro _ i hi; omega
      | succ n ih =>
        intro hn i hi
        have h1 := (each (n + 1) hn).2 (by omega)
        rw [show (((n + 1 : Nat) : Int) - 1) = (n : Int) by omega] at h1
        rcases Nat.lt_or_ge i n with h | h
        · have := ih (by omega) i h; omega
        · rw [show i = n by omega]; exact h1
    refine List.pairwise_iff_getElem.2 fun i j hi hj hij => ?_
    have := step j hj i hij
    rwa [atI_nat hi, atI_nat hj] at this
  · obtain ⟨i, hi, rfl⟩ := List.mem_iff_getElem.1 hu
    have := (each i hi).1
    rwa [atI_nat hi] at this

def seenF (n : Int) (v : TValue) (u : TVersion) : TValue := if u.At ≤ n then u.Val else v
def seenV (r : TRow) (n : Int) : TValue := r.Vers.foldl (seenF n) ⟨0, 0, []⟩

theorem seen_ref {r : TRow} (hl : r.Vers.length < 100000) (n : Int) : F_clockworkref22_seen r n = some (seenV r n) := by
  unfold F_clockworkref22_seen
  rw [jn_mk]
  have key := loopSeq (len := r.Vers.length) (by omega) (L := F_clockworkref22_seen_L1 r n fun x4 => some x4) (J := fun x4 => some x4) (S := fun i => (r.Vers.take i).foldl (seenF n) ⟨0, 0, []⟩) (fun k i hi => ?_) (fun k => ?_) ((((r.Vers.length : Nat) : Int)).toNat + 1) 0 (by omega) (by omega)
  · rw [List.take_length] at key
    exact key
  · rw [F_clockworkref22_seen_L1, decide_eq_true (by omega), cond_true, req_pos (by omega), atI_nat hi, jn_mk, foldl_take_succ _ _ _ _ hi]
    by_cases h : r.Vers[i].At ≤ n
    · rw [decide_eq_true h, cond_true, req_pos (by omega), seenF, if_pos h]
    · rw [decide_eq_false h, cond_false, seenF, if_neg h]
  · rw [F_clockworkref22_seen_L1, decide_eq_false (by omega), cond_false]

theorem seenF_none {n : Int} : ∀ {l : List TVersion} {d : TValue}, (∀ u ∈ l, n < u.At) → l.foldl (seenF n) d = d
  | [], _, _ => rfl
  | u :: l, d, h => by
    have := h u List.mem_cons_self
    rw [List.foldl_cons, seenF, if_neg (by omega)]
    exact seenF_none fun v hv => h v (List.mem_cons_of_mem _ hv)

theorem seenF_tw {n : Int} : ∀ {l : List TVersion} (d : TValue), asc54 l → l.foldl (seenF n) d = if (l.takeWhile fun u => decide (u.At ≤ n)).length = 0 then d else (atI l (((l.takeWhile fun u => decide (u.At ≤ n)).length - 1 : Nat) : Int)).Val
  | [], d, _ => rfl
  | u :: l, d, h => by
    obtain ⟨h1, h2⟩ := List.pairwise_cons.1 h
    by_cases hu : u.At ≤ n
    · have htw : (u :: l).takeWhile (fun u => decide (u.At ≤ n)) = u :: l.takeWhile fun u => decide (u.At ≤ n) := by
        rw [List.takeWhile_cons]; simp [hu]
      have hs : seenF n d u = u.Val := by unfold seenF; simp [hu]
      rw [List.foldl_cons, htw, hs, seenF_tw u.Val h2, List.length_cons]
      have hle : (l.takeWhile fun u => decide (u.At ≤ n)).length ≤ l.length := (List.takeWhile_prefix _).length_le
      generalize (l.takeWhile fun u => decide (u.At ≤ n)).length = m at hle
      cases m with
      | zero => rfl
      | succ m =>
        simp only [Nat.add_one_ne_zero, if_false, Nat.add_sub_cancel]
        rw [atI_nat (by omega), atI_nat (by rw [List.length_cons]; omega), List.getElem_cons_succ]
    · have htw : (u :: l).takeWhile (fun u => decide (u.At ≤ n)) = [] := by
        rw [List.takeWhile_cons]; simp [hu]
      rw [htw]
      exact seenF_none fun v hv => by
        rcases List.mem_cons.1 hv with rfl | hv
        · omega
        · have := h1 v hv; omega

theorem seen_impl {r : TRow} (hl : r.Vers.length < 100000) (n : Int) : F_mvstore_seen r n = some (((r.Vers.takeWhile fun u => decide (u.At ≤ n)).length : Nat) : Int) := by
  unfold F_mvstore_seen
  rw [jn_mk]
  have key : ∀ (k i : Nat), i ≤ r.Vers.length → r.Vers.length - i < k → F_mvstore_seen_L1 r n (fun x4 => some x4) k (i : Int) = some ((i + ((r.Vers.drop i).takeWhile fun u => decide (u.At ≤ n)).length : Nat) : Int) := by
    intro k
    induction k with
    | zero => intro i _ h; omega
    | succ k ih =>
      intro i hi hk
      rw [F_mvstore_seen_L1]
      rcases Nat.lt_or_ge i r.Vers.length with h | h
      · rw [req_pos (fun _ => by omega), decide_eq_true (by omega), show (true == true) = true from rfl, cond_true, Bool.true_and, List.drop_eq_getElem_cons h, List.takeWhile_cons, atI_nat h]
        by_cases hu : r.Vers[i].At ≤ n
        · rw [decide_eq_true hu, cond_true, if_pos rfl, wrap_succ (by omega), ih (i + 1) (by omega) (by omega), List.length_cons]
          congr 2; omega
        · rw [decide_eq_false hu, cond_false, if_neg (by simp)]; rfl
      · have : i = r.Vers.length := by omega
        rw [req_pos (fun h => by simp at h; omega), decide_eq_false (by omega), Bool.false_and, cond_false, List.drop_eq_nil_of_le h]
        rfl
  have := key 1000000 0 (by omega) (by omega)
  rw [List.drop_zero, Nat.zero_add] at this
  exact this

theorem valueAt_impl {r : TRow} (hl : r.Vers.length < 100000) (ha : asc54 r.Vers) (n : Int) : F_mvstore_valueAt r n = some (seenV r n) := by
  unfold F_mvstore_valueAt
  rw [seen_impl hl, bnd_mk, seenV, seenF_tw _ ha]
  have hle : (r.Vers.takeWhile fun u => decide (u.At ≤ n)).length ≤ r.Vers.length := (List.takeWhile_prefix _).length_le
  by_cases h0 : (r.Vers.takeWhile fun u => decide (u.At ≤ n)).length = 0
  · rw [if_pos h0, h0]; rfl
  · rw [if_neg h0, show ((((r.Vers.takeWhile fun u => decide (u.At ≤ n)).length : Nat) : Int) == 0) = false by simp only [beq_eq_false_iff_ne]; omega, cond_false, w64 (n := (((r.Vers.takeWhile fun u => decide (u.At ≤ n)).length : Nat) : Int) - 1) (by omega) (by omega), req_pos (by omega)]
    congr 3
    omega

def statP (s : TStore) (n : Int) : List TPair := s.Rows.filterMap fun r => if (seenV r n).Kind = 0 then none else some ⟨r.Key, seenV r n⟩

def atP (s : TStore) (n : Int) : List TPair × Int := cond (!storeB s) ([], 1) (cond (decide (n < s.Floor) || decide (s.Last < n)) ([], 15) (statP s n, 0))

theorem stat_len (s : TStore) (n : Int) : (statP s n).length ≤ s.Rows.length := List.length_filterMap_le _ _

theorem filt_one {r : TRow} {n : Int} : [r].filterMap (fun r => if (seenV r n).Kind = 0 then none else some (⟨r.Key, seenV r n⟩ : TPair)) = if (seenV r n).Kind = 0 then [] else [⟨r.Key, seenV r n⟩] := by
  rw [List.filterMap_cons]
  by_cases h : (seenV r n).Kind = 0
  · rw [if_pos h, if_pos h]; rfl
  · rw [if_neg h, if_neg h]; rfl

theorem store_rows {s : TStore} (h : storeB s = true) : (0 ≤ s.Floor ∧ s.Floor ≤ s.Last ∧ s.Last ≤ 1099511627776) ∧ ∀ r ∈ s.Rows, vrB r s.Floor s.Last = true := by
  unfold storeB at h
  rw [Bool.and_eq_true] at h
  obtain ⟨h1, h2⟩ := h
  simp only [Bool.not_eq_true', Bool.or_eq_false_iff, decide_eq_false_iff_not] at h1
  simp only [Bool.not_eq_true'] at h2
  refine ⟨by omega, fun r hr => ?_⟩
  obtain ⟨i, hi, rfl⟩ := List.mem_iff_getElem.1 hr
  have := List.any_eq_false.1 h2 i (List.mem_range.2 hi)
  unfold rowBad at this
  simp only [Bool.not_eq_true, Bool.or_eq_false_iff, Bool.not_eq_false'] at this
  rw [atI_nat hi] at this
  exact this.2

theorem at_impl {s : TStore} (hs : StOk s) (n : Int) : F_mvstore_At s n = some (atP s n) := by
  unfold F_mvstore_At atP
  rw [mvalid_impl hs, bnd_mk]
  cases hv : storeB s with
  | false => rfl
  | true =>
    rw [show (!true) = false from rfl, cond_false, cond_false]
    unfold F_mvstore_readable
    cases ho : (decide (n < s.Floor) || decide (s.Last < n)) with
    | true => rfl
    | false =>
      rw [cond_false, bnd_mk, show ((0 : Int) != 0) = false from rfl, cond_false, cond_false, jn_mk]
      have hrl := hs.r
      have hvr := (store_rows hv).2
      have key := loopSeq (len := s.Rows.length) (by omega) (L := F_mvstore_At_L1 s n fun x8 => some (x8, 0)) (J := fun x8 => some (x8, 0)) (S := fun i => (s.Rows.take i).filterMap fun r => if (seenV r n).Kind = 0 then none else some (⟨r.Key, seenV r n⟩ : TPair)) (fun k i hi => ?_) (fun k => ?_) ((((s.Rows.length : Nat) : Int)).toNat + 1) 0 (by omega) (by omega)
      · rw [List.take_length] at key
        exact key
      · have hm := List.getElem_mem hi
        have hf := List.length_filterMap_le (fun r : TRow => if (seenV r n).Kind = 0 then none else some (⟨r.Key, seenV r n⟩ : TPair)) (s.Rows.take i)
        rw [List.length_take] at hf
        rw [F_mvstore_At_L1, decide_eq_true (by omega), cond_true, req_pos (by omega), atI_nat hi, valueAt_impl (hs.v _ hm).1 (vr_facts (hvr _ hm)).2.1, bnd_mk, jn_mk, List.take_succ_eq_append_getElem hi, List.filterMap_append, filt_one]
        by_cases h0 : (seenV s.Rows[i] n).Kind = 0
        · rw [if_pos h0, List.append_nil, show ((seenV s.Rows[i] n).Kind != 0) = false by simp [h0], cond_false]
        · rw [if_neg h0, show ((seenV s.Rows[i] n).Kind != 0) = true by simp [h0], cond_true, req_pos (by rw [List.length_append]; simp only [List.length_cons, List.length_nil]; omega)]
      · rw [F_mvstore_At_L1, decide_eq_false (by omega), cond_false]

theorem at_ref {s : TStore} (hs : StOk s) (n : Int) : F_clockworkref22_At s n = some (atP s n) := by
  unfold F_clockworkref22_At atP
  rw [mvalid_ref hs, bnd_mk]
  cases hv : storeB s with
  | false => rfl
  | true =>
    rw [show (!true) = false from rfl, cond_false, cond_false]
    cases ho : (decide (n < s.Floor) || decide (s.Last < n)) with
    | true => rfl
    | false =>
      rw [cond_false, cond_false]
      have hrl := hs.r
      have hst : F_clockworkref22_state s n = some (statP s n) := by
        unfold F_clockworkref22_state
        rw [jn_mk]
        have key := loopSeq (len := s.Rows.length) (by omega) (L := F_clockworkref22_state_L1 s n fun x6 => some x6) (J := fun x6 => some x6) (S := fun i => (s.Rows.take i).filterMap fun r => if (seenV r n).Kind = 0 then none else some (⟨r.Key, seenV r n⟩ : TPair)) (fun k i hi => ?_) (fun k => ?_) ((((s.Rows.length : Nat) : Int)).toNat + 1) 0 (by omega) (by omega)
        · rw [List.take_length] at key
          exact key
        · have hm := List.getElem_mem hi
          have hf := List.length_filterMap_le (fun r : TRow => if (seenV r n).Kind = 0 then none else some (⟨r.Key, seenV r n⟩ : TPair)) (s.Rows.take i)
          rw [List.length_take] at hf
          rw [F_clockworkref22_state_L1, decide_eq_true (by omega), cond_true, req_pos (by omega), atI_nat hi, seen_ref (hs.v _ hm).1, bnd_mk, jn_mk, List.take_succ_eq_append_getElem hi, List.filterMap_append, filt_one]
          by_cases h0 : (seenV s.Rows[i] n).Kind = 0
          · rw [if_pos h0, List.append_nil, show ((seenV s.Rows[i] n).Kind != 0) = false by simp [h0], cond_false]
          · rw [if_neg h0, show ((seenV s.Rows[i] n).Kind != 0) = true by simp [h0], cond_true, req_pos (by omega), req_pos (by rw [List.length_append]; simp only [List.length_cons, List.length_nil]; omega)]
        · rw [F_clockworkref22_state_L1, decide_eq_false (by omega), cond_false]
      rw [hst, bnd_mk]

end Go.Proofs.YtonijgmopcmldaaGreat
