/-
  CHAPTER 28, PLAIN: keys, footprints, and when two of them conflict or depend (part e).
  Conditions: none.
-/
import Derived.Test.YtfinjeaoicfdeaaTd
import Derived.Test.YtfinjeaoicfdeaaLb
namespace Go.Proofs.Ytfinjeaoicfdeaa
open Go.ChangeShapes

def keyByte (b : Int) : Bool := (((((decide ((97 : Int) ≤ b)) && (decide (b ≤ (122 : Int)))) || ((decide ((48 : Int) ≤ b)) && (decide (b ≤ (57 : Int))))) || (b == (47 : Int))) || (b == (46 : Int))) || (b == (95 : Int)) || (b == (45 : Int))

def keyB (s : Str) : Bool := decide (1 ≤ s.length) && decide (s.length ≤ 24) && !((List.range s.length).any fun i => !keyByte (byteAt s i))

theorem key_impl {s : Str} (hs : s.length < big) : F_keys_Valid s = some (keyB s) := by
  unfold F_keys_Valid
  by_cases h0 : s = []
  · subst h0; rfl
  have h1 : 1 ≤ s.length := by cases s with | nil => exact absurd rfl h0 | cons a b => simp
  rw [show (s != ([] : Str)) = true from bne_iff_ne.2 h0]
  simp only [BEq.rfl, gcall_t, Bool.true_and]
  have key : F_keys_consists s (fun y0 => F_keys_Valid_1 y0) = some (keyB s) := by
    unfold F_keys_consists
    by_cases h2 : (24 : Int) < (s.length : Int)
    · simp [h2, keyB, show ¬ s.length ≤ 24 by omega]
    · simp only [h2, decide_false, cond_false, jn_mk]
      refine (loopRng (len := s.length) (L := fun n i => F_keys_consists_L1 s (fun y0 => F_keys_Valid_1 y0) (some true) n i) (q := fun i => !keyByte (byteAt s i)) (E := some false) (J := some true) hs (by omega) ?_ ?_).trans ?_
      · intro n i hi
        try dsimp only
        rw [F_keys_consists_L1]
        simp only [show (i : Int) < (s.length : Int) by omega, decide_true, cond_true, show 0 ≤ (i : Int) by omega, true_and, req_t, Int.toNat_natCast]
        rfl
      · intro n
        try dsimp only
        rw [F_keys_consists_L1]
        simp
      · simp only [keyB, h1, show s.length ≤ 24 by omega, decide_true, Bool.true_and]
        cases ((List.range s.length).any fun i => !keyByte (byteAt s i)) <;> rfl
  rw [key]; rfl

theorem keyByte_not (b : Int) : ((((((decide (b < (97 : Int))) || (decide ((122 : Int) < b))) && ((decide (b < (48 : Int))) || (decide ((57 : Int) < b)))) && (b != (47 : Int))) && (b != (46 : Int))) && (b != (95 : Int)) && (b != (45 : Int))) = !keyByte b := by
  rw [Bool.eq_iff_iff]
  simp only [keyByte, Bool.and_eq_true, Bool.or_eq_true, decide_eq_true_eq, bne_iff_ne, Bool.not_eq_true', Bool.or_eq_false_iff, Bool.and_eq_false_iff, decide_eq_false_iff_not, beq_eq_false_iff_ne, Int.not_le]

theorem key_ref {s : Str} (hs : s.length < big) : F_clockworkref04_Valid s = some (keyB s) := by
  unfold F_clockworkref04_Valid
  simp only [jn_mk]
  refine (loopRng (len := s.length) (L := fun n i => F_clockworkref04_Valid_L1 s (some ((decide ((1 : Int) ≤ ((s).length : Int))) && (decide (((s).length : Int) ≤ (24 : Int))))) n i) (q := fun i => !keyByte (byteAt s i)) (E := some false) (J := some ((decide ((1 : Int) ≤ ((s).length : Int))) && (decide (((s).length : Int) ≤ (24 : Int))))) hs (by omega) ?_ ?_).trans ?_
  · intro n i hi
    try dsimp only
    rw [F_clockworkref04_Valid_L1]
    simp only [show (i : Int) < (s.length : Int) by omega, decide_true, cond_true, show 0 ≤ (i : Int) by omega, true_and, req_t, Int.toNat_natCast]
    rw [← keyByte_not]
  · intro n
    try dsimp only
    rw [F_clockworkref04_Valid_L1]
    simp
  · have e1 : ((1 : Int) ≤ (s.length : Int)) = (1 ≤ s.length) := by apply propext; omega
    have e2 : ((s.length : Int) ≤ 24) = (s.length ≤ 24) := by apply propext; omega
    simp only [e1, e2, keyB]
    cases ((List.range s.length).any fun i => !keyByte (byteAt s i)) <;> simp

/-- A key that is none, or that does not stand above the one before it. -/
def badAt (l : List Str) (i : Nat) : Bool := !keyB (atI l (i : Int)) || (decide ((0 : Int) < (i : Int)) && !sLt (atI l ((i : Int) - 1)) (atI l (i : Int)))
def ascB (l : List Str) : Bool := !((List.range l.length).any fun i => badAt l i)

theorem asc_impl {l : List Str} (hl : l.length < big) (hk : ∀ s ∈ l, s.length < big) : F_footprint_ascending l = some (ascB l && decide (l.length ≤ 64)) := by
  unfold F_footprint_ascending
  simp only [jn_mk]
  refine (loopRng (len := l.length) (L := fun n i => F_footprint_ascending_L1 l (some (decide ((((l).length : Nat) : Int) ≤ (64 : Int)))) n i) (q := fun i => badAt l i) (E := some false) (J := some (decide ((((l).length : Nat) : Int) ≤ (64 : Int)))) hl (by omega) ?_ ?_).trans ?_
  · intro n i hi
    try dsimp only
    rw [F_footprint_ascending_L1]
    simp only [show (i : Int) < (l.length : Int) by omega, decide_true, cond_true, show 0 ≤ (i : Int) by omega, true_and, req_t]
    rw [key_impl (by rw [atI_nat hi]; exact hk _ (List.getElem_mem hi)), bnd_mk]
    rw [show IntKind.i64.wrap ((i : Int) - 1) = (i : Int) - 1 from w64 (by omega) (by have : l.length < 9223372036854775808 := hl; omega)]
    by_cases h : 0 < i
    · simp only [badAt, show (0 : Int) < (i : Int) by omega, show (0 : Int) ≤ (i : Int) - 1 by omega, show (i : Int) - 1 < (l.length : Int) by omega, decide_true, true_and, implies_true, and_self, req_t, BEq.rfl, Bool.true_and]
      cases keyB (atI l (i : Int)) <;> rfl
    · simp [badAt, req, h]
  · intro n
    try dsimp only
    rw [F_footprint_ascending_L1]
    simp
  · have e2 : ((l.length : Int) ≤ 64) = (l.length ≤ 64) := by apply propext; omega
    simp only [e2, ascB]
    cases ((List.range l.length).any fun i => badAt l i) <;> simp

theorem asc_ref {l : List Str} (hl : l.length < big) (hk : ∀ s ∈ l, s.length < big) : F_clockworkref04_Ascending l = some (ascB l) := by
  unfold F_clockworkref04_Ascending
  simp only [jn_mk]
  refine (loopRng (len := l.length) (L := fun n i => F_clockworkref04_Ascending_L1 l (some true) n i) (q := fun i => badAt l i) (E := some false) (J := some true) hl (by omega) ?_ ?_).trans ?_
  · intro n i hi
    try dsimp only
    rw [F_clockworkref04_Ascending_L1]
    simp only [show (i : Int) < (l.length : Int) by omega, decide_true, cond_true, show 0 ≤ (i : Int) by omega, true_and, req_t]
    rw [key_ref (by rw [atI_nat hi]; exact hk _ (List.getElem_mem hi)), bnd_mk]
    rw [show IntKind.i64.wrap ((i : Int) - 1) = (i : Int) - 1 from w64 (by omega) (by have : l.length < 9223372036854775808 := hl; omega)]
    by_cases h : 0 < i
    · simp only [badAt, show (0 : Int) < (i : Int) by omega, show (0 : Int) ≤ (i : Int) - 1 by omega, show (i : Int) - 1 < (l.length : Int) by omega, decide_true, true_and, implies_true, and_self, req_t, BEq.rfl, Bool.true_and]
      cases keyB (atI l (i : Int)) <;> rfl
    · simp [badAt, req, h]
  · intro n
    try dsimp only
    rw [F_clockworkref04_Ascending_L1]
    simp
  · simp only [ascB]
    cases ((List.range l.length).any fun i => badAt l i) <;> rfl

def fpOk (f : TFootprint) : Prop := f.Reads.length < big ∧ f.Writes.length < big ∧ (∀ s ∈ f.Reads, s.length < big) ∧ ∀ s ∈ f.Writes, s.length < big

def fpB (f : TFootprint) : Bool := cond f.All (((f.Reads.length : Int) == 0) && ((f.Writes.length : Int) == 0)) (decide (f.Reads.length ≤ 64) && decide (f.Writes.length ≤ 64) && ascB f.Reads && ascB f.Writes)

theorem fp_impl {f : TFootprint} (h : fpOk f) : F_footprint_Valid f = some (fpB f) := by
  obtain ⟨h1, h2, h3, h4⟩ := h
  unfold F_footprint_Valid
  rw [asc_impl h1 h3, asc_impl h2 h4]
  simp only [bnd_mk, fpB]
  cases f.All
  · simp only [cond_false]
    cases ascB f.Reads <;> cases ascB f.Writes <;> by_cases a : f.Reads.length ≤ 64 <;> by_cases b : f.Writes.length ≤ 64 <;> simp [a, b]
  · rfl

theorem fp_ref {f : TFootprint} (h : fpOk f) : F_clockworkref19_Valid f = some (fpB f) := by
  obtain ⟨h1, h2, h3, h4⟩ := h
  unfold F_clockworkref19_Valid
  rw [asc_ref h1 h3, asc_ref h2 h4]
  have e1 : ((f.Reads.length : Int) ≤ 64) = (f.Reads.length ≤ 64) := by apply propext; omega
  have e2 : ((f.Writes.length : Int) ≤ 64) = (f.Writes.length ≤ 64) := by apply propext; omega
  simp only [bnd_mk, fpB, e1, e2]
  cases f.All
  · simp only [cond_false]
    cases ascB f.Reads <;> cases ascB f.Writes <;> by_cases a : f.Reads.length ≤ 64 <;> by_cases b : f.Writes.length ≤ 64 <;> simp [a, b]
  · rfl

theorem has_ref {l : List Str} {s : Str} (hl : l.length < big) : F_clockworkref04_Has l s = some (l.any fun x => x == s) := by
  unfold F_clockworkref04_Has
  simp only [jn_mk]
  refine (loopAny0 (L := fun n i => F_clockworkref04_Has_L1 l s (some false) n i) (q := fun x => x == s) (E := some true) (J := some false) hl (by omega) ?_ ?_).trans ?_
  · intro n i hi
    try dsimp only
    rw [F_clockworkref04_Has_L1]
    simp only [show (i : Int) < (l.length : Int) by omega, decide_true, cond_true, show 0 ≤ (i : Int) by omega, true_and, req_t, atI_nat hi]
  · intro n
    try dsimp only
    rw [F_clockworkref04_Has_L1]
    simp
  · cases (l.any fun x => x == s) <;> rfl

def meetL (a b : List Str) : Bool := a.any fun s => b.any fun x => x == s

theorem meet_ref {a b : List Str} (ha : a.length < big) (hb : b.length < big) : F_clockworkref19_meet a b = some (meetL a b) := by
  unfold F_clockworkref19_meet
  simp only [jn_mk]
  refine (loopAny0 (L := fun n i => F_clockworkref19_meet_L1 a b (some false) n i) (q := fun s => b.any fun x => x == s) (E := some true) (J := some false) ha (by omega) ?_ ?_).trans ?_
  · intro n i hi
    try dsimp only
    rw [F_clockworkref19_meet_L1]
    simp only [show (i : Int) < (a.length : Int) by omega, decide_true, cond_true, show 0 ≤ (i : Int) by omega, true_and, req_t, atI_nat hi, has_ref hb, bnd_mk]
  · intro n
    try dsimp only
    rw [F_clockworkref19_meet_L1]
    simp
  · simp only [meetL]; cases (a.any fun s => b.any fun x => x == s) <;> rfl

theorem asc_sorted {l : List Str} (h : ascB l = true) : ∀ b a, a < b → b < l.length → sLt (atI l (a : Int)) (atI l (b : Int)) = true
  | 0, a, h0, _ => by omega
  | b + 1, a, h0, hb => by
    have step : sLt (atI l (b : Int)) (atI l ((b + 1 : Nat) : Int)) = true := by
      simp only [ascB, Bool.not_eq_true', List.any_eq_false] at h
      have := h (b + 1) (by simpa using hb)
      simp only [badAt, Bool.or_eq_true, Bool.and_eq_true, Bool.not_eq_true', decide_eq_true_eq, not_or, not_and, Bool.not_eq_false] at this
      have h2 := this.2 (by omega)
      rw [show ((b + 1 : Nat) : Int) - 1 = (b : Int) by omega] at h2
      exact h2
    rcases Nat.lt_or_ge a b with h' | h'
    · exact sLt_trans (asc_sorted h b a h' (by omega)) step
    · rw [show a = b by omega]; exact step

theorem bs_mid {i j : Nat} (h : i < j) (hj : j ≤ 1000) : IntKind.i64.wrap (shrI .u64 (IntKind.u64.wrap (IntKind.i64.wrap ((i : Int) + (j : Int)))) (1 : Int)) = (((i + j) / 2 : Nat) : Int) := by
  rw [w64 (n := (i : Int) + (j : Int)) (by omega) (by omega)]
  rw [show IntKind.u64.wrap ((i : Int) + (j : Int)) = (i : Int) + (j : Int) by simp [IntKind.wrap, IntKind.bits, IntKind.signed]; omega]
  rw [show shrI .u64 ((i : Int) + (j : Int)) 1 = (((i + j) / 2 : Nat) : Int) by
    show Int.fdiv ((i : Int) + (j : Int)) 2 = _
    rw [Int.fdiv_eq_ediv_of_nonneg _ (by omega)]; omega]
  exact w64 (by omega) (by omega)

theorem less_eq (a b : Str) : F_cmp_Less_string a b = some (sLt a b) := by
  unfold F_cmp_Less_string F_cmp_isNaN_string
  simp

theorem bs_L1 {l : List Str} {x : Str} (hl : l.length ≤ 1000) (hs : ∀ b a, a < b → b < l.length → sLt (atI l (a : Int)) (atI l (b : Int)) = true) {J : Int → Option (Int × Bool)} :
    ∀ n i j, i ≤ j → j ≤ l.length → j - i < n → (∀ m, m < i → sLt (atI l (m : Int)) x = true) → (∀ m, j ≤ m → m < l.length → sLt (atI l (m : Int)) x = false) →
      ∃ k : Nat, k ≤ l.length ∧ F_slices_BinarySearch_string_string_L1 l x J n (i : Int) (j : Int) = J (k : Int) ∧ (∀ m, m < k → sLt (atI l (m : Int)) x = true) ∧ (∀ m, k ≤ m → m < l.length → sLt (atI l (m : Int)) x = false) := by
  intro n
  induction n with
  | zero => intro i j _ _ h; omega
  | succ n ih =>
    intro i j hij hj hn h1 h2
    rw [F_slices_BinarySearch_string_string_L1]
    rcases Nat.lt_or_ge i j with h | h
    · rw [bs_mid h (by omega)]
      have hm : (i + j) / 2 < j := by omega
      have hm2 : i ≤ (i + j) / 2 := by omega
      simp only [show (i : Int) < (j : Int) by omega, decide_true, cond_true, show (0 : Int) ≤ 1 by omega, req_t, show 0 ≤ (((i + j) / 2 : Nat) : Int) by omega, show (((i + j) / 2 : Nat) : Int) < (l.length : Int) by omega, and_self, less_eq, bnd_mk]
      rw [wrap_succ (by omega)]
      cases hc : sLt (atI l (((i + j) / 2 : Nat) : Int)) x with
      | true =>
        simp only [cond_true]
        refine ih _ _ (by omega) hj (by omega) ?_ h2
        intro m hm'
        rcases Nat.lt_or_ge m ((i + j) / 2) with h' | h'
        · exact sLt_trans (hs _ _ h' (by omega)) hc
        · rw [show m = (i + j) / 2 by omega]; exact hc
      | false =>
        simp only [cond_false]
        refine ih _ _ (by omega) (by omega) (by omega) h1 ?_
        intro m hm' hml
        rcases Nat.lt_or_ge ((i + j) / 2) m with h' | h'
        · cases hc' : sLt (atI l (m : Int)) x with
          | false => rfl
          | true => rw [sLt_trans (hs _ _ h' hml) hc'] at hc; cases hc
        · rw [show m = (i + j) / 2 by omega]; exact hc
    · refine ⟨i, by omega, ?_, h1, fun m hm => h2 m (by omega)⟩
      simp [show ¬ (i : Int) < (j : Int) by omega]

theorem bs_impl {l : List Str} {x : Str} (hl : l.length ≤ 1000) (h : ascB l = true) : ∃ k, F_slices_BinarySearch_string_string l x = some (k, l.any fun y => y == x) := by
  unfold F_slices_BinarySearch_string_string
  rw [jn_mk]
  obtain ⟨k, hk, e, h1, h2⟩ := bs_L1 (x := x) hl (asc_sorted h) (J := _) 1000000 0 l.length (by omega) (by omega) (by omega) (fun m hm => by omega) (fun m hm hm2 => by omega)
  refine ⟨(k : Int), ?_⟩
  refine (show _ = _ from e).trans ?_
  have hany : (l.any fun y => y == x) = (decide ((k : Int) < (l.length : Int)) && (atI l (k : Int) == x)) := by
    rw [Bool.eq_iff_iff]
    simp only [List.any_eq_true, Bool.and_eq_true, decide_eq_true_eq, beq_iff_eq]
    constructor
    · rintro ⟨y, hy, rfl⟩
      obtain ⟨m, hm, rfl⟩ := List.getElem_of_mem hy
      have hkm : k = m := by
        rcases Nat.lt_trichotomy m k with h' | h' | h'
        · have := h1 m h'
          rw [atI_nat hm, sLt_irrefl] at this; cases this
        · exact h'.symm
        · have a := asc_sorted h m k h' hm
          have b := h2 k (by omega) (by omega)
          rw [atI_nat hm] at a
          rw [a] at b; cases b
      subst hkm
      exact ⟨by omega, atI_nat hm⟩
    · rintro ⟨a, b⟩
      exact ⟨l[k]'(by omega), List.getElem_mem _, by rw [← atI_nat (by omega)]; exact b⟩
  rw [hany]
  by_cases hkl : (k : Int) < (l.length : Int)
  · simp only [hkl, decide_true, show 0 ≤ (k : Int) by omega, and_self, implies_true, req_t, BEq.rfl, cond_true, Bool.true_and, Bool.and_true]
    cases hq : (atI l (k : Int) == x) <;> simp [F_slices_isNaN_string]
  · simp [hkl, req]

theorem meet_impl {a b : List Str} (ha : a.length < big) (hb : b.length ≤ 64) (h : ascB b = true) : F_footprint_meet a b = some (meetL a b) := by
  unfold F_footprint_meet
  simp only [jn_mk]
  refine (loopAny0 (L := fun n i => F_footprint_meet_L1 a b (some false) n i) (q := fun s => b.any fun x => x == s) (E := some true) (J := some false) ha (by omega) ?_ ?_).trans ?_
  · intro n i hi
    try dsimp only
    rw [F_footprint_meet_L1]
    obtain ⟨k, e⟩ := bs_impl (l := b) (x := a[i]) (by omega) h
    simp only [show (i : Int) < (a.length : Int) by omega, decide_true, cond_true, show 0 ≤ (i : Int) by omega, true_and, req_t, atI_nat hi, e, bnd_mk]
  · intro n
    try dsimp only
    rw [F_footprint_meet_L1]
    simp
  · simp only [meetL]; cases (a.any fun s => b.any fun x => x == s) <;> rfl

/-- Two pieces of work that may not stand beside one another. -/
def confB (a b : TFootprint) : Bool := (((!fpB a) || (!fpB b)) || a.All) || b.All || ((meetL a.Writes b.Writes || meetL a.Writes b.Reads) || meetL a.Reads b.Writes)

theorem fpB_asc {f : TFootprint} (h : fpB f = true) (ha : f.All = false) : f.Reads.length ≤ 64 ∧ f.Writes.length ≤ 64 ∧ ascB f.Reads = true ∧ ascB f.Writes = true := by
  simp only [fpB, ha, cond_false, Bool.and_eq_true, decide_eq_true_eq] at h
  exact ⟨h.1.1.1, h.1.1.2, h.1.2, h.2⟩

theorem conf_impl {a b : TFootprint} (ha : fpOk a) (hb : fpOk b) : F_footprint_Conflicts a b = some (confB a b) := by
  unfold F_footprint_Conflicts
  rw [fp_impl ha, fp_impl hb, bnd_mk]
  simp only [confB]
  cases hva : fpB a with
  | false => rfl
  | true =>
    cases hvb : fpB b with
    | false => rfl
    | true =>
      cases haa : a.All with
      | true => rfl
      | false =>
        cases hba : b.All with
        | true => rfl
        | false =>
          obtain ⟨_, _, _, _⟩ := fpB_asc hva haa
          obtain ⟨p1, p2, p3, p4⟩ := fpB_asc hvb hba
          rw [meet_impl ha.2.1 p2 p4, meet_impl ha.2.1 p1 p3, meet_impl ha.1 p2 p4]
          cases meetL a.Writes b.Writes <;> cases meetL a.Writes b.Reads <;> cases meetL a.Reads b.Writes <;> rfl

theorem conf_ref {a b : TFootprint} (ha : fpOk a) (hb : fpOk b) : F_clockworkref19_Conflicts a b = some (confB a b) := by
  unfold F_clockworkref19_Conflicts
  rw [fp_ref ha, fp_ref hb, bnd_mk]
  rw [meet_ref ha.2.1 hb.2.1, meet_ref ha.2.1 hb.1, meet_ref ha.1 hb.2.1]
  simp only [confB]
  cases fpB a <;> cases fpB b <;> cases a.All <;> cases b.All <;> cases meetL a.Writes b.Writes <;> cases meetL a.Writes b.Reads <;> cases meetL a.Reads b.Writes <;> rfl

def normF (f : TFootprint) : TFootprint := cond (fpB f) f ⟨true, [], []⟩

theorem norm_ok {f : TFootprint} (h : fpOk f) : fpOk (normF f) := by
  unfold normF
  cases fpB f
  · exact ⟨(by decide : 0 < big), (by decide : 0 < big), (show ∀ s ∈ ([] : List Str), s.length < big by simp), (show ∀ s ∈ ([] : List Str), s.length < big by simp)⟩
  · exact h

/-- The later work reads what the earlier may write. -/
def depB (a b : TFootprint) : Bool := (normF b).All || ((normF a).All && decide ((0 : Int) < ((normF b).Reads.length : Int))) || (!(normF a).All && meetL (normF a).Writes (normF b).Reads)

theorem norm_ref {f : TFootprint} (h : fpOk f) : F_clockworkref26_norm f = some (normF f) := by
  unfold F_clockworkref26_norm
  rw [fp_ref h]
  simp only [bnd_mk, normF]
  cases fpB f <;> rfl

theorem eff_impl {f : TFootprint} (h : fpOk f) : F_mvsched_effective f = some (normF f) := by
  unfold F_mvsched_effective
  rw [fp_impl h]
  simp only [bnd_mk, normF]
  cases fpB f <;> rfl

theorem norm_all {f : TFootprint} (h : (normF f).All = true) : (normF f).Writes = [] := by
  unfold normF at h ⊢
  cases hf : fpB f with
  | false => rfl
  | true =>
    rw [hf] at h
    simp only [cond_true] at h ⊢
    simp only [fpB, h, cond_true, Bool.and_eq_true, beq_iff_eq] at hf
    exact List.length_eq_zero_iff.1 (by omega)

theorem dep_ref {a b : TFootprint} (ha : fpOk a) (hb : fpOk b) : F_clockworkref26_Depends a b = some (depB a b) := by
  unfold F_clockworkref26_Depends
  rw [norm_ref ha, norm_ref hb]
  simp only [bnd_mk, jn_mk]
  have hn := norm_ok ha
  have hm := norm_ok hb
  have key : F_clockworkref26_Depends_L1 (normF a) (normF b) (some false) (((normF a).Writes.length : Int).toNat + 1) 0 = some (meetL (normF a).Writes (normF b).Reads) := by
    refine (loopAny0 (L := fun n i => F_clockworkref26_Depends_L1 (normF a) (normF b) (some false) n i) (q := fun s => (normF b).Reads.any fun x => x == s) (E := some true) (J := some false) hn.2.1 (by omega) ?_ ?_).trans ?_
    · intro n i hi
      try dsimp only
      rw [F_clockworkref26_Depends_L1]
      simp only [show (i : Int) < ((normF a).Writes.length : Int) by omega, decide_true, cond_true, show 0 ≤ (i : Int) by omega, true_and, req_t, atI_nat hi, has_ref hm.1, bnd_mk]
    · intro n
      try dsimp only
      rw [F_clockworkref26_Depends_L1]
      simp
    · simp only [meetL]; cases ((normF a).Writes.any fun s => (normF b).Reads.any fun x => x == s) <;> rfl
  rw [key, depB]
  cases h1 : (normF b).All with
  | true => rfl
  | false =>
    cases h2 : (normF a).All with
    | false => simp
    | true =>
      rw [norm_all h2]
      by_cases h3 : 0 < (normF b).Reads.length <;> simp [meetL, h3]

theorem contains_impl {l : List Str} {s : Str} (hl : l.length < big) : F_slices_Contains_string_string l s = some (l.any fun x => x == s) := by
  unfold F_slices_Contains_string_string F_slices_Index_string_string
  simp only [jn_mk]
  obtain ⟨k, e, e2⟩ := loopIx (l := l) hl (L := fun n i => F_slices_Index_string_string_L1 l s (some (-1)) n i) (q := fun x => s == x) (by
    intro n i hi
    try dsimp only
    rw [F_slices_Index_string_string_L1]
    simp only [show (i : Int) < (l.length : Int) by omega, decide_true, cond_true, show 0 ≤ (i : Int) by omega, true_and, req_t, atI_nat hi]) (by
    intro n
    try dsimp only
    rw [F_slices_Index_string_string_L1]
    simp) ((l.length : Int).toNat + 1) 0 (by omega) (by omega)
  rw [show F_slices_Index_string_string_L1 l s (some (-1)) ((l.length : Int).toNat + 1) 0 = some k from e, bnd_mk, e2, List.drop_zero]
  congr 1
  apply any_congr
  intro x _
  rw [Bool.eq_iff_iff]; simp only [beq_iff_eq]; exact eq_comm

theorem containsF_impl {l : List Str} {g : Str → Option Bool} {q : Str → Bool} (hg : ∀ s, g s = some (q s)) (hl : l.length < big) : F_slices_ContainsFunc_string_string l g = some (l.any q) := by
  unfold F_slices_ContainsFunc_string_string F_slices_IndexFunc_string_string
  simp only [jn_mk]
  obtain ⟨k, e, e2⟩ := loopIx (l := l) hl (L := fun n i => F_slices_IndexFunc_string_string_L1 l g (some (-1)) n i) (q := q) (by
    intro n i hi
    try dsimp only
    rw [F_slices_IndexFunc_string_string_L1]
    simp only [show (i : Int) < (l.length : Int) by omega, decide_true, cond_true, show 0 ≤ (i : Int) by omega, true_and, req_t, atI_nat hi, hg, bnd_mk]) (by
    intro n
    try dsimp only
    rw [F_slices_IndexFunc_string_string_L1]
    simp) ((l.length : Int).toNat + 1) 0 (by omega) (by omega)
  rw [show F_slices_IndexFunc_string_string_L1 l g (some (-1)) ((l.length : Int).toNat + 1) 0 = some k from e, bnd_mk, e2, List.drop_zero]

theorem dep_impl {a b : TFootprint} (ha : fpOk a) (hb : fpOk b) : F_mvsched_depends (normF a) (normF b) = some (depB a b) := by
  unfold F_mvsched_depends
  have hn := norm_ok ha
  have hm := norm_ok hb
  rw [containsF_impl (q := fun s => (normF b).Reads.any fun x => x == s) (fun s => by unfold F_mvsched_depends_1; rw [contains_impl hm.1]; rfl) hn.2.1]
  simp only [bnd_mk, depB, meetL]
  cases (normF b).All with
  | true => rfl
  | false =>
    cases (normF a).All with
    | false => simp
    | true => simp

end Go.Proofs.Ytfinjeaoicfdeaa
