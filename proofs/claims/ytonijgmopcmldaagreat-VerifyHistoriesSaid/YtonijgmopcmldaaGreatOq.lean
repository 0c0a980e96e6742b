/-
  PLAIN TEXTS OF EARLIER CHAPTERS, PUT TOGETHER: keys, values, states.
  Conditions: none.
-/
import Derived.Test.YtonijgmopcmldaaGreatLc
import Derived.Test.YtonijgmopcmldaaGreatHf
set_option linter.all false

namespace Go.Proofs.YtonijgmopcmldaaGreat
open Go.ChangeShapes

abbrev big : Nat := 9223372036854775808

def boundB (s : Str) : Bool := decide (s.length ≤ 24) && !((List.range s.length).any fun i => decide (byteAt s i < 33) || decide (126 < byteAt s i))

/-- The first place that meets a test, or -1. -/
def firstIx {α : Type} (q : α → Bool) : List α → Nat → Int
  | [], _ => -1
  | x :: l, i => if q x = true then (i : Int) else firstIx q l (i + 1)

theorem loopFirst {α : Type} {l : List α} (hl : l.length < 9223372036854775808) {L : Nat → Int → Option Int} {q : α → Bool}
    (h1 : ∀ n (i : Nat) (h : i < l.length), L (n + 1) (i : Int) = cond (q l[i]) (some (i : Int)) (L n (IntKind.i64.wrap ((i : Int) + 1))))
    (h0 : ∀ n, L (n + 1) (l.length : Int) = some (-1)) : ∀ n i, i ≤ l.length → l.length - i < n → L n (i : Int) = some (firstIx q (l.drop i) i) := by
  intro n
  induction n with
  | zero => intro i _ h; omega
  | succ n ih =>
    intro i hi hn
    rcases Nat.lt_or_ge i l.length with h | h
    · rw [h1 n i h, wrap_succ (by omega), ih (i + 1) (by omega) (by omega), List.drop_eq_getElem_cons h, firstIx]
      cases q l[i] <;> simp
    · have : i = l.length := by omega
      subst this
      rw [h0]; simp [firstIx]

end Go.Proofs.YtonijgmopcmldaaGreat

namespace Go.Proofs.YtonijgmopcmldaaGreat
open Go.ChangeShapes

theorem firstIx_nonneg {α : Type} (q : α → Bool) : ∀ (l : List α) (i : Nat), decide (0 ≤ firstIx q l i) = l.any q
  | [], i => by simp [firstIx]
  | x :: l, i => by
    have ih := firstIx_nonneg q l (i + 1)
    by_cases h : q x = true
    · simp [firstIx, h]
    · simp only [Bool.not_eq_true] at h
      rw [List.any_cons, h, Bool.false_or, ← ih]
      simp [firstIx, h]

theorem at_mem29 {α : Type} [Inhabited α] {l : List α} {i : Nat} (h : i < l.length) : atI l (i : Int) ∈ l := by
  rw [atI_nat h]; exact List.getElem_mem h

end Go.Proofs.YtonijgmopcmldaaGreat

namespace Go.Proofs.YtonijgmopcmldaaGreat
open Go.ChangeShapes

theorem asc_ext : ∀ {a b : List Int}, a.Pairwise (· < ·) → b.Pairwise (· < ·) → (∀ x, x ∈ a ↔ x ∈ b) → a = b
  | [], [], _, _, _ => rfl
  | [], y :: b, _, _, h => by have := (h y).2 (by simp); simp at this
  | x :: a, [], _, _, h => by have := (h x).1 (by simp); simp at this
  | x :: a, y :: b, ha, hb, h => by
    obtain ⟨ha1, ha2⟩ := List.pairwise_cons.1 ha
    obtain ⟨hb1, hb2⟩ := List.pairwise_cons.1 hb
    have hxy : x = y := by
      rcases List.mem_cons.1 ((h x).1 (by simp)) with e | e
      · exact e
      · rcases List.mem_cons.1 ((h y).2 (by simp)) with e2 | e2
        · exact e2.symm
        · have := hb1 x e; have := ha1 y e2; omega
    subst hxy
    congr 1
    refine asc_ext ha2 hb2 fun z => ⟨fun hz => ?_, fun hz => ?_⟩
    · rcases List.mem_cons.1 ((h z).1 (List.mem_cons_of_mem _ hz)) with e | e
      · have := ha1 z hz; omega
      · exact e
    · rcases List.mem_cons.1 ((h z).2 (List.mem_cons_of_mem _ hz)) with e | e
      · have := hb1 z hz; omega
      · exact e

theorem compact_steps {d : Array Int} (hs : ∀ i j, i ≤ j → j < d.size → d[i]! ≤ d[j]!) : ∀ m, m ≤ d.size → (Go.Lib.compactUpTo d m).Pairwise (· < ·) ∧ (∀ x, x ∈ Go.Lib.compactUpTo d m ↔ ∃ j, j < m ∧ d[j]! = x)
  | 0, _ => by simp [Go.Lib.compactUpTo]
  | m + 1, hm => by
    obtain ⟨h1, h2⟩ := compact_steps hs m (by omega)
    rw [Go.Lib.compactUpTo_succ]
    cases hk : Go.Lib.keeps d m with
    | true =>
      simp only [if_true]
      have hlt : ∀ j, j < m → d[j]! < d[m]! := by
        intro j hj
        simp only [Go.Lib.keeps, decide_eq_true_eq] at hk
        rcases hk with hk | hk
        · omega
        · have a := hs j (m - 1) (by omega) (by omega)
          have b := hs (m - 1) m (by omega) (by omega)
          omega
      refine ⟨List.pairwise_append.2 ⟨h1, by simp, fun a ha b hb => ?_⟩, fun x => ?_⟩
      · obtain ⟨j, hj, rfl⟩ := (h2 a).1 ha
        simp only [List.mem_singleton] at hb
        rw [hb]; exact hlt j hj
      · rw [List.mem_append, h2, List.mem_singleton]
        constructor
        · rintro (⟨j, a, b⟩ | h)
          · exact ⟨j, by omega, b⟩
          · exact ⟨m, by omega, h.symm⟩
        · rintro ⟨j, a, b⟩
          by_cases e : j = m
          · subst e; exact Or.inr b.symm
          · exact Or.inl ⟨j, by omega, b⟩
    | false =>
      simp only [Bool.false_eq_true, if_false, List.append_nil]
      refine ⟨h1, fun x => ?_⟩
      rw [h2]
      simp only [Go.Lib.keeps, decide_eq_false_iff_not, not_or, Decidable.not_not] at hk
      constructor
      · rintro ⟨j, a, b⟩; exact ⟨j, by omega, b⟩
      · rintro ⟨j, a, b⟩
        by_cases e : j = m
        · subst e; exact ⟨j - 1, by omega, by rw [← hk.2]; exact b⟩
        · exact ⟨j, by omega, b⟩

theorem compact_sorted (l : List Int) : (compactL (sortL l)).Pairwise (· < ·) ∧ ∀ x, x ∈ compactL (sortL l) ↔ x ∈ l := by
  have hp : (sortL l).Pairwise (fun a b => decide (a ≤ b) = true) := List.pairwise_mergeSort (fun a b c h1 h2 => by simp at *; omega) (fun a b => by simp; omega) l
  have hs : ∀ i j, i ≤ j → j < (sortL l).toArray.size → (sortL l).toArray[i]! ≤ (sortL l).toArray[j]! := by
    intro i j hij hj
    have hj' : j < (sortL l).length := by simpa using hj
    have hi' : i < (sortL l).length := by omega
    rcases Nat.lt_or_ge i j with h | h
    · have := List.pairwise_iff_getElem.1 hp i j hi' hj' h
      simpa [hi', hj'] using this
    · rw [show i = j by omega]; exact Int.le_refl _
  obtain ⟨h1, h2⟩ := compact_steps hs (sortL l).length (by simp)
  refine ⟨h1, fun x => ?_⟩
  rw [show compactL (sortL l) = Go.Lib.compactUpTo (sortL l).toArray (sortL l).length from rfl, h2]
  have hm : x ∈ l ↔ x ∈ sortL l := by unfold sortL; simp
  rw [hm]
  constructor
  · rintro ⟨j, a, b⟩
    rw [← b]; simp [a]
  · intro h
    obtain ⟨j, hj, e⟩ := List.getElem_of_mem h
    exact ⟨j, hj, by simp [hj, e]⟩

end Go.Proofs.YtonijgmopcmldaaGreat

namespace Go.Proofs.YtonijgmopcmldaaGreat

def kch (b : Int) : Bool := (((((decide ((97 : Int) ≤ b)) && (decide (b ≤ (122 : Int)))) || ((decide ((48 : Int) ≤ b)) && (decide (b ≤ (57 : Int))))) || (b == (47 : Int))) || (b == (46 : Int))) || (b == (95 : Int)) || (b == (45 : Int))
def kvB (k : Str) : Bool := (decide (1 ≤ k.length) && decide (k.length ≤ 24)) && !((List.range k.length).any fun i => !kch (byteAt k i))

theorem consists_impl {k : Str} (hk : k.length < big) : F_keys_consists k (fun y0 => F_keys_Valid_1 y0) = some (decide (k.length ≤ 24) && !((List.range k.length).any fun i => !kch (byteAt k i))) := by
  unfold F_keys_consists
  by_cases h : k.length ≤ 24
  · have e : decide ((24 : Int) < (k.length : Int)) = false := by simp; omega
    rw [e, cond_false, jn_mk]
    refine (loopRng (len := k.length) (L := fun n i => F_keys_consists_L1 k (fun y0 => F_keys_Valid_1 y0) (some true) n i) (q := fun i => !kch (byteAt k i)) (E := some false) (J := some true) hk (by omega) ?_ ?_).trans ?_
    · intro n i hi
      try dsimp only
      rw [F_keys_consists_L1]
      simp only [show (i : Int) < (k.length : Int) by omega, decide_true, cond_true, show 0 ≤ (i : Int) by omega, true_and, implies_true, req_t, Int.toNat_natCast, F_keys_Valid_1, bnd_mk, kch]
    · intro n
      try dsimp only
      rw [F_keys_consists_L1]
      simp
    · cases ((List.range k.length).any fun i => !kch (byteAt k i)) <;> simp [h]
  · have e : decide ((24 : Int) < (k.length : Int)) = true := by simp; omega
    rw [e, cond_true]
    simp [h]

theorem keys_impl {k : Str} (hk : k.length < big) : F_keys_Valid k = some (kvB k) := by
  unfold F_keys_Valid
  rw [consists_impl hk]
  cases k with
  | nil => rfl
  | cons a l =>
    have e : ((a :: l) != ([] : Str)) = true := by rfl
    rw [e]
    simp [gcall, kvB, bnd]

theorem keys_ref {k : Str} (hk : k.length < big) : F_clockworkref04_Valid k = some (kvB k) := by
  unfold F_clockworkref04_Valid
  simp only [jn_mk]
  have e1 : (decide ((1 : Int) ≤ (k.length : Int)) && decide ((k.length : Int) ≤ (24 : Int))) = (decide (1 ≤ k.length) && decide (k.length ≤ 24)) := by
    rw [Bool.eq_iff_iff]; simp; omega
  rw [e1]
  refine (loopRng (len := k.length) (L := fun n i => F_clockworkref04_Valid_L1 k (some (decide (1 ≤ k.length) && decide (k.length ≤ 24))) n i) (q := fun i => !kch (byteAt k i)) (E := some false) (J := some (decide (1 ≤ k.length) && decide (k.length ≤ 24))) hk (by omega) ?_ ?_).trans ?_
  · intro n i hi
    try dsimp only
    rw [F_clockworkref04_Valid_L1]
    have e2 : (((((((decide ((byteAt k i) < (97 : Int))) || (decide ((122 : Int) < (byteAt k i)))) && ((decide ((byteAt k i) < (48 : Int))) || (decide ((57 : Int) < (byteAt k i))))) && ((byteAt k i) != (47 : Int))) && ((byteAt k i) != (46 : Int))) && ((byteAt k i) != (95 : Int))) && ((byteAt k i) != (45 : Int))) = !kch (byteAt k i) := by
      rw [Bool.eq_iff_iff]
      simp only [kch, Bool.and_eq_true, Bool.or_eq_true, decide_eq_true_eq, bne_iff_ne, Bool.not_eq_true', Bool.or_eq_false_iff, Bool.and_eq_false_iff, decide_eq_false_iff_not, beq_eq_false_iff_ne]
      omega
    simp only [show (i : Int) < (k.length : Int) by omega, decide_true, cond_true, show 0 ≤ (i : Int) by omega, true_and, implies_true, req_t, Int.toNat_natCast, e2]
  · intro n
    try dsimp only
    rw [F_clockworkref04_Valid_L1]
    simp
  · rw [kvB]
    cases ((List.range k.length).any fun i => !kch (byteAt k i)) <;> simp

def ascBad (l : List Str) (i : Nat) : Bool := !kvB (atI l (i : Int)) || (decide (0 < i) && !sLt (atI l ((i : Int) - 1)) (atI l (i : Int)))
def ascB (l : List Str) : Bool := !((List.range l.length).any fun i => ascBad l i)

theorem wrap_pred {i : Nat} (h0 : 0 < i) (h : i < 9223372036854775807) : IntKind.i64.wrap ((i : Int) - 1) = (i : Int) - 1 := w64 (by omega) (by omega)

end Go.Proofs.YtonijgmopcmldaaGreat

namespace Go.Proofs.YtonijgmopcmldaaGreat

/-! ### Lists of keys that ascend -/

theorem asc_iff {l : List Str} : ascB l = true ↔ (∀ k ∈ l, kvB k = true) ∧ l.Pairwise (fun a b => sLt a b = true) := by
  have hstep : ascB l = true ↔ ∀ i, i < l.length → kvB (atI l (i : Int)) = true ∧ (0 < i → sLt (atI l ((i : Int) - 1)) (atI l (i : Int)) = true) := by
    unfold ascB
    rw [Bool.not_eq_true', List.any_eq_false]
    constructor
    · intro h i hi
      have := h i (List.mem_range.2 hi)
      simp only [ascBad, Bool.not_eq_true, Bool.or_eq_false_iff, Bool.not_eq_false', Bool.and_eq_false_iff, decide_eq_false_iff_not] at this
      refine ⟨this.1, fun h0 => ?_⟩
      rcases this.2 with h | h
      · exact absurd h0 h
      · exact h
    · intro h i hi
      obtain ⟨h1, h2⟩ := h i (List.mem_range.1 hi)
      simp only [ascBad, Bool.not_eq_true, Bool.or_eq_false_iff, Bool.not_eq_false', Bool.and_eq_false_iff, decide_eq_false_iff_not]
      refine ⟨h1, ?_⟩
      by_cases h0 : 0 < i
      · exact .inr (h2 h0)
      · exact .inl h0
  rw [hstep]
  constructor
  · intro h
    refine ⟨fun k hk => ?_, ?_⟩
    · obtain ⟨i, hi, rfl⟩ := List.mem_iff_getElem.1 hk
      have := (h i hi).1
      rwa [atI_nat hi] at this
    · rw [List.pairwise_iff_getElem]
      have key : ∀ j (hj : j < l.length) i (hi : i < j), sLt (l[i]'(by omega)) l[j] = true := by
        intro j
        induction j with
        | zero => intro _ i hi; omega
        | succ j ih =>
          intro hj i hi
          have hs := (h (j + 1) hj).2 (by omega)
          have e : ((j + 1 : Nat) : Int) - 1 = ((j : Nat) : Int) := by omega
          rw [e, atI_nat (show j < l.length by omega), atI_nat hj] at hs
          by_cases hij : i = j
          · subst hij; exact hs
          · exact sLt_trans (ih (by omega) i (by omega)) hs
      exact fun i j _ hj hij => key j hj i hij
  · rintro ⟨h1, h2⟩ i hi
    refine ⟨h1 _ (at_mem29 hi), fun h0 => ?_⟩
    have e : (i : Int) - 1 = ((i - 1 : Nat) : Int) := by omega
    rw [e, atI_nat (show i - 1 < l.length by omega), atI_nat hi]
    exact List.pairwise_iff_getElem.1 h2 (i - 1) i _ _ (by omega)

theorem asc_filter {l : List Str} (h : ascB l = true) (g : Str → Bool) : ascB (l.filter g) = true := by
  obtain ⟨h1, h2⟩ := asc_iff.1 h
  exact asc_iff.2 ⟨fun k hk => h1 k (List.mem_filter.1 hk).1, h2.filter g⟩

/-! ### Binary search -/

theorem shr_nat (a : Nat) : shrI .u64 ((a : Nat) : Int) 1 = ((a / 2 : Nat) : Int) := by
  unfold shrI
  show Int.fdiv (a : Int) (2 ^ 1) = _
  rw [Int.fdiv_eq_ediv_of_nonneg _ (by decide)]
  omega


theorem owned_loop {ks : List Str} (hk : ks.length ≤ 1000) (q : Str → Bool) : ∀ i, i ≤ ks.length → ((ks.take i).filter q).length ≤ 1000 := fun i hi => by
  have := List.length_filter_le q (ks.take i)
  have h2 : (ks.take i).length ≤ ks.length := by simp; omega
  omega

theorem keys_self {l : List Str} (hl : l.length ≤ 1000) : F_clockworkref04_Same l l = some true := by
  unfold F_clockworkref04_Same
  simp only [bne_self_eq_false, cond_false, jn_mk]
  refine (loopAny0 (l := l) (L := fun n i => F_clockworkref04_Same_L1 l l (some true) n i) (q := fun _ => false) (E := some false) (J := some true) (by omega) (by omega) ?_ ?_).trans ?_
  · intro n i hi
    try dsimp only
    rw [F_clockworkref04_Same_L1]
    simp only [show (i : Int) < (l.length : Int) by omega, decide_true, cond_true, show 0 ≤ (i : Int) by omega, true_and, req_t, bne_self_eq_false, cond_false]
  · intro n
    try dsimp only
    rw [F_clockworkref04_Same_L1]
    simp
  · rw [show (l.any fun _ => false) = false by rw [List.any_eq_false]; simp]; rfl

end Go.Proofs.YtonijgmopcmldaaGreat
namespace Go.Proofs.YtonijgmopcmldaaGreat


end Go.Proofs.YtonijgmopcmldaaGreat

namespace Go.Proofs.YtonijgmopcmldaaGreat
open Go.ChangeShapes

/-! ### Elements of lists -/

def ap {α : Type} [Inhabited α] (l : List α) (i : Nat) : α := atI l (i : Int)

theorem ap_get {α : Type} [Inhabited α] {l : List α} {i : Nat} (h : i < l.length) : ap l i = l[i] := atI_nat h
theorem ap_app {α : Type} [Inhabited α] (a b : List α) (i : Nat) : ap (a ++ b) i = if i < a.length then ap a i else ap b (i - a.length) := by
  simp only [ap, atI, Int.toNat_natCast, List.getD_eq_getElem?_getD]
  split
  · rename_i h; rw [List.getElem?_append_left h]
  · rename_i h; rw [List.getElem?_append_right (by omega)]
theorem ap_take {α : Type} [Inhabited α] (l : List α) {n i : Nat} (h : i < n) : ap (l.take n) i = ap l i := by
  simp only [ap, atI, Int.toNat_natCast, List.getD_eq_getElem?_getD]
  rw [List.getElem?_take_of_lt h]
theorem ap_drop {α : Type} [Inhabited α] (l : List α) (n i : Nat) : ap (l.drop n) i = ap l (n + i) := by
  simp only [ap, atI, Int.toNat_natCast, List.getD_eq_getElem?_getD, List.getElem?_drop]
theorem ap_one {α : Type} [Inhabited α] (x : α) : ap [x] 0 = x := rfl
theorem ap_ext {α : Type} [Inhabited α] {a b : List α} (hl : a.length = b.length) (h : ∀ i, i < a.length → ap a i = ap b i) : a = b := by
  apply List.ext_getElem hl
  intro i h1 h2
  have := h i h1
  rwa [ap_get h1, ap_get h2] at this
theorem ap_mem {α : Type} [Inhabited α] {l : List α} {i : Nat} (h : i < l.length) : ap l i ∈ l := at_mem29 h
theorem mem_ap {α : Type} [Inhabited α] {l : List α} {x : α} (h : x ∈ l) : ∃ i, i < l.length ∧ ap l i = x := by
  obtain ⟨i, h1, h2⟩ := List.mem_iff_getElem.1 h
  exact ⟨i, h1, by rw [ap_get h1, h2]⟩

/-! ### Valid placements -/

theorem sLt_le_trans {a b c : Str} (h1 : sLt a b = true) (h2 : sLt c b = false) : sLt a c = true := by
  by_cases h : sLt c a = true
  · have := sLt_trans h h1
    rw [h2] at this; simp at this
  · by_cases h3 : sLt a c = true
    · exact h3
    · have := sLt_conn (by simpa using h) (by simpa using h3)
      subst this
      rw [h2] at h1; simp at h1

theorem le_sLt_trans {a b c : Str} (h1 : sLt b a = false) (h2 : sLt b c = true) : sLt a c = true := by
  by_cases h : sLt a b = true
  · exact sLt_trans h h2
  · have := sLt_conn (by simpa using h) h1
    rw [this]; exact h2

theorem le_le_trans {a b c : Str} (h1 : sLt b a = false) (h2 : sLt c b = false) : sLt c a = false := by
  by_cases h : sLt c a = true
  · have := sLt_le_trans h h1
    rw [h2] at this; simp at this
  · simpa using h

theorem sLt_asymm' {a b : Str} (h : sLt a b = true) : sLt b a = false := by
  by_cases h2 : sLt b a = true
  · have := sLt_trans h h2
    rw [sLt_irrefl] at this; simp at this
  · simpa using h2

/-! ### The partition of a key -/

end Go.Proofs.YtonijgmopcmldaaGreat

namespace Go.Proofs.YtonijgmopcmldaaGreat

/-- The length of a list of pairs and of its strings. -/
structure PrOk (m : List TPair) : Prop where
  l : m.length < 9223372036854775808
  k : ∀ x ∈ m, x.Key.length < big ∧ x.Val.S.length < big

theorem PrOk.nil : PrOk [] := ⟨by decide, by simp⟩
theorem PrOk.sub {a b : List TPair} (h : PrOk a) (hl : b.length < 9223372036854775808) (hs : ∀ x ∈ b, x ∈ a) : PrOk b := ⟨hl, fun x hx => h.k x (hs x hx)⟩

/-! ### Values -/

def plainB (s : Str) : Bool := decide (s.length ≤ 64) && !((List.range s.length).any fun i => decide (byteAt s i < 32) || decide (126 < byteAt s i))

theorem plain_impl {s : Str} (hs : s.length < big) : F_value_plain s = some (plainB s) := by
  unfold F_value_plain
  simp only [jn_mk]
  have e2 : decide ((s.length : Int) ≤ 64) = decide (s.length ≤ 64) := by rw [Bool.eq_iff_iff]; simp; omega
  rw [e2]
  refine (loopRng (len := s.length) (L := fun n i => F_value_plain_L1 s (some (decide (s.length ≤ 64))) n i) (q := fun i => decide (byteAt s i < 32) || decide (126 < byteAt s i)) (E := some false) (J := some (decide (s.length ≤ 64))) hs (by omega) ?_ ?_).trans ?_
  · intro n i hi
    try dsimp only
    rw [F_value_plain_L1]
    simp only [show (i : Int) < (s.length : Int) by omega, decide_true, cond_true, show 0 ≤ (i : Int) by omega, true_and, implies_true, req_t, Int.toNat_natCast]
  · intro n
    try dsimp only
    rw [F_value_plain_L1]
    simp
  · rw [plainB]
    cases ((List.range s.length).any fun i => decide (byteAt s i < 32) || decide (126 < byteAt s i)) <;> simp

theorem plain_ref {s : Str} (hs : s.length < big) : F_clockworkref05_Plain s = some (plainB s) := by
  unfold F_clockworkref05_Plain
  simp only [jn_mk]
  by_cases h2 : (64 : Int) < (s.length : Int)
  · simp [h2, plainB, show ¬ s.length ≤ 64 by omega]
  simp only [h2, decide_false, cond_false]
  refine (loopRng (len := s.length) (L := fun n i => F_clockworkref05_Plain_L1 s (some true) n i) (q := fun i => decide (byteAt s i < 32) || decide (126 < byteAt s i)) (E := some false) (J := some true) hs (by omega) ?_ ?_).trans ?_
  · intro n i hi
    try dsimp only
    rw [F_clockworkref05_Plain_L1]
    simp only [show (i : Int) < (s.length : Int) by omega, decide_true, cond_true, show 0 ≤ (i : Int) by omega, true_and, implies_true, req_t, Int.toNat_natCast]
  · intro n
    try dsimp only
    rw [F_clockworkref05_Plain_L1]
    simp
  · simp only [plainB, show s.length ≤ 64 by omega, decide_true, Bool.true_and]
    cases ((List.range s.length).any fun i => decide (byteAt s i < 32) || decide (126 < byteAt s i)) <;> rfl

def vvB (v : TValue) : Bool := cond (v.Kind == 0) ((v.N == 0) && (v.S == ([] : Str))) (cond (v.Kind == 1) (v.S == ([] : Str)) (((v.Kind == 2) && (v.N == 0)) && plainB v.S))

theorem vvalid_impl {v : TValue} (hs : v.S.length < big) : F_value_Valid v = some (vvB v) := by
  unfold F_value_Valid vvB
  rw [plain_impl hs]
  cases h0 : v.Kind == 0 with
  | true => simp
  | false =>
    cases h1 : v.Kind == 1 with
    | true => simp
    | false =>
      cases h2 : v.Kind == 2 with
      | false => simp
      | true =>
        cases h3 : v.N == 0 with
        | false => simp [gcall, bnd]
        | true => simp [gcall, bnd]

theorem vvalid_ref {v : TValue} (hs : v.S.length < big) : F_clockworkref05_Valid v = some (vvB v) := by
  unfold F_clockworkref05_Valid vvB
  rw [plain_ref hs]
  cases h0 : v.Kind == 0 with
  | true => simp
  | false =>
    cases h1 : v.Kind == 1 with
    | true => simp
    | false =>
      cases h2 : v.Kind == 2 with
      | false => simp [gcall, bnd]
      | true =>
        cases h3 : v.N == 0 with
        | false => simp [gcall, bnd]
        | true => simp [gcall, bnd]

/-! ### Pairs -/

def pairEq (x y : TPair) : Bool := ((x.Key == y.Key) && (((x.Val.Kind == y.Val.Kind) && ((x.Val.N == y.Val.N) && ((x.Val.S == y.Val.S) && true))) && true))

theorem pairEq_iff (x y : TPair) : pairEq x y = true ↔ x = y := by
  obtain ⟨k, n, m, s⟩ := x
  obtain ⟨k', n', m', s'⟩ := y
  simp [pairEq, and_assoc]

theorem pairEq_refl (x : TPair) : pairEq x x = true := (pairEq_iff x x).2 rfl

theorem same06 {a b : List TPair} (ha : a.length < 9223372036854775808) (hb : b.length < 9223372036854775808) : F_clockworkref06_Same a b = some (eqL pairEq a b) := by
  unfold F_clockworkref06_Same
  simp only [jn_mk]
  refine loopEq (a := a) (b := b) (f := pairEq) ha hb (L := fun n i => F_clockworkref06_Same_L1 a b (some true) n i) (by omega) ?_ ?_
  · intro hl n i hi hj
    try dsimp only
    rw [F_clockworkref06_Same_L1]
    simp only [show (i : Int) < (a.length : Int) by omega, show (i : Int) < (b.length : Int) by omega, decide_true, cond_true, show 0 ≤ (i : Int) by omega, and_self, req_t]
    rw [show ((atI a (i : Int)).Key == (atI b (i : Int)).Key && ((atI a (i : Int)).Val.Kind == (atI b (i : Int)).Val.Kind && ((atI a (i : Int)).Val.N == (atI b (i : Int)).Val.N && ((atI a (i : Int)).Val.S == (atI b (i : Int)).Val.S && true)) && true)) = pairEq (atI a (i : Int)) (atI b (i : Int)) from rfl]
    cases pairEq (atI a (i : Int)) (atI b (i : Int)) <;> rfl
  · intro n
    try dsimp only
    rw [F_clockworkref06_Same_L1]
    simp

theorem same_st {a b : List TPair} (ha : a.length < 9223372036854775808) (hb : b.length < 9223372036854775808) : F_state_Same a b = some (eqL pairEq a b) := by
  unfold F_state_Same F_slices_Equal_api_Pair_api_Pair
  simp only [jn_mk]
  rw [loopEq (a := a) (b := b) (f := pairEq) ha hb (L := fun n i => F_slices_Equal_api_Pair_api_Pair_L1 a b (some true) n i) (by omega) ?_ ?_]
  · rfl
  · intro hl n i hi hj
    try dsimp only
    rw [F_slices_Equal_api_Pair_api_Pair_L1]
    simp only [show (i : Int) < (a.length : Int) by omega, show (i : Int) < (b.length : Int) by omega, decide_true, cond_true, show 0 ≤ (i : Int) by omega, and_self, req_t]
    rw [show ((atI a (i : Int)).Key == (atI b (i : Int)).Key && ((atI a (i : Int)).Val.Kind == (atI b (i : Int)).Val.Kind && ((atI a (i : Int)).Val.N == (atI b (i : Int)).Val.N && ((atI a (i : Int)).Val.S == (atI b (i : Int)).Val.S && true)) && true)) = pairEq (atI a (i : Int)) (atI b (i : Int)) from rfl]
    cases pairEq (atI a (i : Int)) (atI b (i : Int)) <;> rfl
  · intro n
    try dsimp only
    rw [F_slices_Equal_api_Pair_api_Pair_L1]
    simp

def strEq (a b : Str) : Bool := a == b
theorem strEq_iff (a b : Str) : strEq a b = true ↔ a = b := by simp [strEq]

theorem same04 {a b : List Str} (ha : a.length < 9223372036854775808) (hb : b.length < 9223372036854775808) : F_clockworkref04_Same a b = some (eqL strEq a b) := by
  unfold F_clockworkref04_Same
  simp only [jn_mk]
  refine loopEq (a := a) (b := b) (f := strEq) ha hb (L := fun n i => F_clockworkref04_Same_L1 a b (some true) n i) (by omega) ?_ ?_
  · intro hl n i hi hj
    try dsimp only
    rw [F_clockworkref04_Same_L1]
    simp only [show (i : Int) < (a.length : Int) by omega, show (i : Int) < (b.length : Int) by omega, decide_true, cond_true, show 0 ≤ (i : Int) by omega, and_self, req_t]
    rw [show (atI a (i : Int) != atI b (i : Int)) = !strEq (atI a (i : Int)) (atI b (i : Int)) from rfl]
    cases strEq (atI a (i : Int)) (atI b (i : Int)) <;> rfl
  · intro n
    try dsimp only
    rw [F_clockworkref04_Same_L1]
    simp

def prBad (l : List TPair) (i : Nat) : Bool := (!kvB (atI l (i : Int)).Key || !vvB (atI l (i : Int)).Val) || (decide (0 < i) && !sLt (atI l ((i : Int) - 1)).Key (atI l (i : Int)).Key)
def srtB (l : List TPair) : Bool := !((List.range l.length).any fun i => prBad l i)
def staB (l : List TPair) : Bool := srtB l && !(l.any fun x => x.Val.Kind == 0)

theorem sorted_impl {l : List TPair} (h : PrOk l) : F_state_sorted l = some (srtB l) := by
  have hl := h.l
  unfold F_state_sorted
  simp only [jn_mk]
  refine (loopRng (len := l.length) hl (L := fun n i => F_state_sorted_L1 l (some true) n i) (q := fun i => prBad l i) (E := some false) (J := some true) (by omega) ?_ ?_).trans ?_
  · intro n i hi
    have hm := h.k _ (at_mem29 hi)
    try dsimp only
    rw [F_state_sorted_L1]
    simp only [show (i : Int) < (l.length : Int) by omega, decide_true, cond_true, show 0 ≤ (i : Int) by omega, true_and, implies_true, req_t, keys_impl hm.1, bnd_mk]
    rw [vvalid_impl (v := ⟨(atI l (i : Int)).Val.Kind, (atI l (i : Int)).Val.N, (atI l (i : Int)).Val.S⟩) hm.2]
    cases hk : kvB (atI l (i : Int)).Key with
    | false => simp [prBad, hk, req, gcall, bnd]
    | true =>
      simp only [Bool.not_true, BEq.rfl, gcall_t, bnd_mk, Bool.false_or]
      rw [show vvB ⟨(atI l (i : Int)).Val.Kind, (atI l (i : Int)).Val.N, (atI l (i : Int)).Val.S⟩ = vvB (atI l (i : Int)).Val from rfl]
      cases hv : vvB (atI l (i : Int)).Val with
      | false => simp [prBad, hk, hv, req]
      | true =>
        by_cases h0 : 0 < i
        · have h0' : (0 : Int) < (i : Int) := by omega
          simp only [h0', decide_true, BEq.rfl, Bool.not_true, Bool.and_self, forall_const, wrap_pred h0 (by omega), Bool.true_and, Bool.false_or, prBad, hk, hv, h0, cond_true, Bool.or_self]
          rw [req_pos (by omega)]
        · have h0' : ¬ (0 : Int) < (i : Int) := by omega
          simp [h0', prBad, hk, hv, h0, req]
  · intro n
    try dsimp only
    rw [F_state_sorted_L1]
    simp
  · rw [srtB]
    cases ((List.range l.length).any fun i => prBad l i) <;> rfl

theorem svalid_impl {l : List TPair} (h : PrOk l) : F_state_Valid l = some (staB l) := by
  have hl := h.l
  unfold F_state_Valid F_slices_ContainsFunc_api_Pair_api_Pair F_slices_IndexFunc_api_Pair_api_Pair
  rw [sorted_impl h]
  simp only [jn_mk, bnd_mk]
  rw [loopHas (l := l) hl (L := fun n i => F_slices_IndexFunc_api_Pair_api_Pair_L1 l (fun y0 => F_state_absent y0) (some (-1)) n i) (q := fun x => x.Val.Kind == 0) ?_ ?_ (by omega)]
  · rw [staB]
    cases srtB l <;> simp [gcall, bnd]
  · intro n i hi
    try dsimp only
    rw [F_slices_IndexFunc_api_Pair_api_Pair_L1]
    simp only [show (i : Int) < (l.length : Int) by omega, decide_true, cond_true, show 0 ≤ (i : Int) by omega, and_self, req_t, F_state_absent, bnd_mk, atI_nat hi]
  · intro n
    try dsimp only
    rw [F_slices_IndexFunc_api_Pair_api_Pair_L1]
    simp

end Go.Proofs.YtonijgmopcmldaaGreat

namespace Go.Proofs.YtonijgmopcmldaaGreat

theorem cmp_lt : ∀ a b : List UInt8, (Go.Lib.compareBytes a b < 0 ↔ sLt a b = true) ∧ (0 < Go.Lib.compareBytes a b ↔ sLt b a = true)
  | [], [] => by simp [Go.Lib.compareBytes, sLt, Op.bytesLess]
  | [], _ :: _ => by simp [Go.Lib.compareBytes, sLt, Op.bytesLess]
  | _ :: _, [] => by simp [Go.Lib.compareBytes, sLt, Op.bytesLess]
  | x :: a, y :: b => by
    obtain ⟨h1, h2⟩ := cmp_lt a b
    rw [sLt_cons, sLt_cons, Go.Lib.compareBytes]
    simp only [UInt8.lt_iff_toNat_lt]
    by_cases h : x.toNat < y.toNat
    · simp [h, show ¬ y.toNat < x.toNat by omega, show ¬ y.toNat = x.toNat by omega]
    · by_cases h' : y.toNat < x.toNat
      · simp [h, h', show ¬ x.toNat = y.toNat by omega]
      · have e : x.toNat = y.toNat := by omega
        simp [h, h', e, h1, h2]

theorem srt_iff {l : List TPair} : srtB l = true ↔ (∀ x ∈ l, kvB x.Key = true ∧ vvB x.Val = true) ∧ l.Pairwise (fun a b => sLt a.Key b.Key = true) := by
  have hstep : srtB l = true ↔ ∀ i, i < l.length → (kvB (atI l (i : Int)).Key = true ∧ vvB (atI l (i : Int)).Val = true) ∧ (0 < i → sLt (atI l ((i : Int) - 1)).Key (atI l (i : Int)).Key = true) := by
    unfold srtB
    rw [Bool.not_eq_true', List.any_eq_false]
    constructor
    · intro h i hi
      have := h i (List.mem_range.2 hi)
      simp only [prBad, Bool.not_eq_true, Bool.or_eq_false_iff, Bool.not_eq_false', Bool.and_eq_false_iff, decide_eq_false_iff_not] at this
      refine ⟨this.1, fun h0 => ?_⟩
      rcases this.2 with h | h
      · exact absurd h0 h
      · exact h
    · intro h i hi
      obtain ⟨h1, h2⟩ := h i (List.mem_range.1 hi)
      simp only [prBad, Bool.not_eq_true, Bool.or_eq_false_iff, Bool.not_eq_false', Bool.and_eq_false_iff, decide_eq_false_iff_not]
      refine ⟨h1, ?_⟩
      by_cases h0 : 0 < i
      · exact .inr (h2 h0)
      · exact .inl h0
  rw [hstep]
  constructor
  · intro h
    refine ⟨fun k hk => ?_, ?_⟩
    · obtain ⟨i, hi, rfl⟩ := List.mem_iff_getElem.1 hk
      have := (h i hi).1
      rwa [atI_nat hi] at this
    · rw [List.pairwise_iff_getElem]
      have key : ∀ j (hj : j < l.length) i (hi : i < j), sLt (l[i]'(by omega)).Key l[j].Key = true := by
        intro j
        induction j with
        | zero => intro _ i hi; omega
        | succ j ih =>
          intro hj i hi
          have hs := (h (j + 1) hj).2 (by omega)
          have e : ((j + 1 : Nat) : Int) - 1 = ((j : Nat) : Int) := by omega
          rw [e, atI_nat (show j < l.length by omega), atI_nat hj] at hs
          by_cases hij : i = j
          · subst hij; exact hs
          · exact sLt_trans (ih (by omega) i (by omega)) hs
      exact fun i j _ hj hij => key j hj i hij
  · rintro ⟨h1, h2⟩ i hi
    refine ⟨h1 _ (at_mem29 hi), fun h0 => ?_⟩
    have e : (i : Int) - 1 = ((i - 1 : Nat) : Int) := by omega
    rw [e, atI_nat (show i - 1 < l.length by omega), atI_nat hi]
    exact List.pairwise_iff_getElem.1 h2 (i - 1) i _ _ (by omega)

def kAsc (l : List TPair) : Prop := l.Pairwise (fun a b => sLt a.Key b.Key = true)
def prGood (x : TPair) : Prop := kvB x.Key = true ∧ vvB x.Val = true ∧ x.Val.Kind ≠ 0

theorem sta_iff {l : List TPair} : staB l = true ↔ (∀ x ∈ l, prGood x) ∧ kAsc l := by
  unfold staB
  rw [Bool.and_eq_true, srt_iff, Bool.not_eq_true', List.any_eq_false]
  constructor
  · rintro ⟨⟨h1, h2⟩, h3⟩
    exact ⟨fun x hx => ⟨(h1 x hx).1, (h1 x hx).2, by simpa using h3 x hx⟩, h2⟩
  · rintro ⟨h1, h2⟩
    exact ⟨⟨fun x hx => ⟨(h1 x hx).1, (h1 x hx).2.1⟩, h2⟩, fun x hx => by simpa using (h1 x hx).2.2⟩

theorem ascending_ref {l : List TPair} (h : PrOk l) : F_clockworkref06_ascending l = some (ascB (l.map (·.Key))) := by
  have hl := h.l
  unfold F_clockworkref06_ascending
  simp only [jn_mk]
  refine (loopRng (len := l.length) hl (L := fun n i => F_clockworkref06_ascending_L1 l (some true) n i) (q := fun i => ascBad (l.map (·.Key)) i) (E := some false) (J := some true) (by omega) ?_ ?_).trans ?_
  · intro n i hi
    have hm := h.k _ (at_mem29 hi)
    have ek : atI (l.map (·.Key)) (i : Int) = (atI l (i : Int)).Key := by rw [atI_nat (by simpa using hi), atI_nat hi]; simp
    try dsimp only
    rw [F_clockworkref06_ascending_L1]
    simp only [show (i : Int) < (l.length : Int) by omega, decide_true, cond_true, show 0 ≤ (i : Int) by omega, true_and, implies_true, req_t, keys_ref hm.1, bnd_mk]
    cases hk : kvB (atI l (i : Int)).Key with
    | false => simp [ascBad, ek, hk, req]
    | true =>
      by_cases h0 : 0 < i
      · have h0' : (0 : Int) < (i : Int) := by omega
        have ek1 : atI (l.map (·.Key)) ((i : Int) - 1) = (atI l ((i : Int) - 1)).Key := by
          rw [show (i : Int) - 1 = ((i - 1 : Nat) : Int) by omega, atI_nat (by simp; omega), atI_nat (by omega)]; simp
        simp only [h0', decide_true, BEq.rfl, Bool.not_true, Bool.and_self, forall_const, wrap_pred h0 (by omega), Bool.true_and, Bool.false_or, ascBad, ek, ek1, hk, h0, cond_true]
        rw [req_pos (by omega)]
      · have h0' : ¬ (0 : Int) < (i : Int) := by omega
        simp [h0', ascBad, ek, hk, h0, req]
  · intro n
    try dsimp only
    rw [F_clockworkref06_ascending_L1]
    simp
  · rw [ascB, List.length_map]
    cases ((List.range l.length).any fun i => ascBad (l.map (·.Key)) i) <;> rfl

theorem srt_asc {l : List TPair} : srtB l = (ascB (l.map (·.Key)) && !(l.any fun x => !vvB x.Val)) := by
  rw [Bool.eq_iff_iff, srt_iff, Bool.and_eq_true, asc_iff, Bool.not_eq_true', List.any_eq_false]
  simp only [List.mem_map, forall_exists_index, and_imp, forall_apply_eq_imp_iff₂, List.pairwise_map]
  constructor
  · rintro ⟨h1, h2⟩
    exact ⟨⟨fun x hx => (h1 x hx).1, h2⟩, fun x hx => by simp [(h1 x hx).2]⟩
  · rintro ⟨⟨h1, h2⟩, h3⟩
    exact ⟨fun x hx => ⟨h1 x hx, by simpa using h3 x hx⟩, h2⟩

theorem vwrites_ref {l : List TPair} (h : PrOk l) : F_clockworkref06_ValidWrites l = some (srtB l) := by
  have hl := h.l
  unfold F_clockworkref06_ValidWrites
  rw [ascending_ref h, srt_asc]
  simp only [jn_mk, bnd_mk]
  refine (loopAny0 (l := l) hl (L := fun n i => F_clockworkref06_ValidWrites_L1 l (some (ascB (l.map (·.Key)))) n i) (q := fun x => !vvB x.Val) (E := some false) (J := some (ascB (l.map (·.Key)))) (n := (l.length : Int).toNat + 1) (by omega) ?_ ?_).trans ?_
  · intro n i hi
    have hm := h.k _ (List.getElem_mem hi)
    try dsimp only
    rw [F_clockworkref06_ValidWrites_L1]
    simp only [show (i : Int) < (l.length : Int) by omega, decide_true, cond_true, show 0 ≤ (i : Int) by omega, and_self, req_t, vvalid_ref hm.2, bnd_mk, atI_nat hi]
  · intro n
    try dsimp only
    rw [F_clockworkref06_ValidWrites_L1]
    simp
  · cases (l.any fun x => !vvB x.Val) <;> simp

theorem svalid_ref {l : List TPair} (h : PrOk l) : F_clockworkref06_Valid l = some (staB l) := by
  have hl := h.l
  unfold F_clockworkref06_Valid
  rw [vwrites_ref h]
  simp only [jn_mk, bnd_mk]
  refine (loopAny0 (l := l) hl (L := fun n i => F_clockworkref06_Valid_L1 l (some (srtB l)) n i) (q := fun x => x.Val.Kind == 0) (E := some false) (J := some (srtB l)) (by omega) ?_ ?_).trans ?_
  · intro n i hi
    try dsimp only
    rw [F_clockworkref06_Valid_L1]
    simp only [show (i : Int) < (l.length : Int) by omega, decide_true, cond_true, show 0 ≤ (i : Int) by omega, and_self, req_t, atI_nat hi]
  · intro n
    try dsimp only
    rw [F_clockworkref06_Valid_L1]
    simp
  · rw [staB]
    cases (l.any fun x => x.Val.Kind == 0) <;> simp

theorem kasc_ext : ∀ {a b : List TPair}, kAsc a → kAsc b → (∀ x, x ∈ a ↔ x ∈ b) → a = b
  | [], [], _, _, _ => rfl
  | [], y :: b, _, _, h => by have := (h y).2 (by simp); simp at this
  | x :: a, [], _, _, h => by have := (h x).1 (by simp); simp at this
  | x :: a, y :: b, ha, hb, h => by
    obtain ⟨ha1, ha2⟩ := List.pairwise_cons.1 ha
    obtain ⟨hb1, hb2⟩ := List.pairwise_cons.1 hb
    have hxy : x = y := by
      rcases List.mem_cons.1 ((h x).1 (by simp)) with e | e
      · exact e
      · rcases List.mem_cons.1 ((h y).2 (by simp)) with e2 | e2
        · exact e2.symm
        · have h1 := hb1 x e
          have h2 := ha1 y e2
          rw [sLt_asymm' h1] at h2; simp at h2
    subst hxy
    rw [kasc_ext ha2 hb2 fun z => ?_]
    have := h z
    simp only [List.mem_cons] at this
    constructor
    · intro hz
      rcases this.1 (.inr hz) with e | e
      · subst e; have := ha1 z hz; rw [sLt_irrefl] at this; simp at this
      · exact e
    · intro hz
      rcases this.2 (.inr hz) with e | e
      · subst e; have := hb1 z hz; rw [sLt_irrefl] at this; simp at this
      · exact e

theorem kasc_key : ∀ {a : List TPair}, kAsc a → ∀ {x y}, x ∈ a → y ∈ a → x.Key = y.Key → x = y
  | [], _, _, _, h, _, _ => by simp at h
  | z :: a, h, x, y, hx, hy, e => by
    obtain ⟨h1, h2⟩ := List.pairwise_cons.1 h
    rcases List.mem_cons.1 hx with hx1 | hx1 <;> rcases List.mem_cons.1 hy with hy1 | hy1
    · rw [hx1, hy1]
    · have := h1 y hy1; rw [← hx1, e, sLt_irrefl] at this; simp at this
    · have := h1 x hx1; rw [← hy1, e, sLt_irrefl] at this; simp at this
    · exact kasc_key h2 hx1 hy1 e

/-- Two ascending lists put together; whether they share a key. -/
def mg : List TPair → List TPair → List TPair × Bool
  | [], b => (b, false)
  | x :: a, [] => (x :: a, false)
  | x :: a, y :: b => if sLt x.Key y.Key = true then (x :: (mg a (y :: b)).1, (mg a (y :: b)).2) else if sLt y.Key x.Key = true then (y :: (mg (x :: a) b).1, (mg (x :: a) b).2) else ((mg a b).1, true)
termination_by a b => a.length + b.length

theorem mg_nil (a : List TPair) : mg a [] = (a, false) := by cases a <;> rw [mg]

theorem mg_len : ∀ a b : List TPair, (mg a b).1.length ≤ a.length + b.length
  | [], b => by simp [mg]
  | x :: a, [] => by simp [mg]
  | x :: a, y :: b => by
    have h1 := mg_len a (y :: b)
    have h2 := mg_len (x :: a) b
    have h3 := mg_len a b
    rw [mg]
    split
    · simp at h1 ⊢; omega
    · split
      · simp at h2 ⊢; omega
      · simp at h3 ⊢; omega
termination_by a b => a.length + b.length

theorem mg_sub : ∀ a b : List TPair, ∀ x ∈ (mg a b).1, x ∈ a ∨ x ∈ b
  | [], b => by simp [mg]
  | x :: a, [] => by simp [mg]
  | x :: a, y :: b => by
    have h1 := mg_sub a (y :: b)
    have h2 := mg_sub (x :: a) b
    have h3 := mg_sub a b
    rw [mg]
    intro z hz
    split at hz
    · rcases List.mem_cons.1 hz with rfl | hz
      · simp
      · rcases h1 z hz with h | h
        · simp [h]
        · exact .inr h
    · split at hz
      · rcases List.mem_cons.1 hz with rfl | hz
        · simp
        · rcases h2 z hz with h | h
          · exact .inl h
          · simp [h]
      · rcases h3 z hz with h | h <;> simp [h]
termination_by a b => a.length + b.length

/-- Of lists that ascend: whether they share a key; if not, both are there, and ascend. -/
theorem mg_spec : ∀ {a b : List TPair}, kAsc a → kAsc b → (mg a b).2 = (b.any fun y => a.any fun x => x.Key == y.Key) ∧ ((mg a b).2 = false → kAsc (mg a b).1 ∧ ∀ x, x ∈ (mg a b).1 ↔ x ∈ a ∨ x ∈ b)
  | [], b, _, hb => by simp [mg, hb]
  | x :: a, [], ha, _ => by simp [mg, ha]
  | x :: a, y :: b, ha, hb => by
    obtain ⟨ha1, ha2⟩ := List.pairwise_cons.1 ha
    obtain ⟨hb1, hb2⟩ := List.pairwise_cons.1 hb
    rw [mg]
    split
    · rename_i hxy
      obtain ⟨h1, h2⟩ := mg_spec (a := a) (b := y :: b) ha2 hb
      have hno : ∀ z ∈ y :: b, sLt x.Key z.Key = true := fun z hz => by
        rcases List.mem_cons.1 hz with rfl | hz
        · exact hxy
        · exact sLt_trans hxy (hb1 z hz)
      refine ⟨?_, fun hf => ?_⟩
      · show (mg a (y :: b)).2 = _
        rw [h1]
        refine any_congr fun z hz => ?_
        have : (x.Key == z.Key) = false := by
          rw [beq_eq_false_iff_ne]; intro e; have := hno z hz; rw [e, sLt_irrefl] at this; simp at this
        rw [List.any_cons, this, Bool.false_or]
      · obtain ⟨h3, h4⟩ := h2 hf
        refine ⟨List.pairwise_cons.2 ⟨fun z hz => ?_, h3⟩, fun z => ?_⟩
        · rcases (h4 z).1 hz with h | h
          · exact ha1 z h
          · exact hno z h
        · rw [List.mem_cons, h4, List.mem_cons (b := x), or_assoc]
    · rename_i hxy
      simp only [Bool.not_eq_true] at hxy
      split
      · rename_i hyx
        obtain ⟨h1, h2⟩ := mg_spec (a := x :: a) (b := b) ha hb2
        have hno : ∀ z ∈ x :: a, sLt y.Key z.Key = true := fun z hz => by
          rcases List.mem_cons.1 hz with rfl | hz
          · exact hyx
          · exact sLt_trans hyx (ha1 z hz)
        refine ⟨?_, fun hf => ?_⟩
        · show (mg (x :: a) b).2 = _
          rw [h1, List.any_cons]
          have : ((x :: a).any fun x => x.Key == y.Key) = false := by
            rw [List.any_eq_false]; intro z hz e
            have := hno z hz; rw [eq_of_beq e, sLt_irrefl] at this; simp at this
          rw [this, Bool.false_or]
        · obtain ⟨h3, h4⟩ := h2 hf
          refine ⟨List.pairwise_cons.2 ⟨fun z hz => ?_, h3⟩, fun z => ?_⟩
          · rcases (h4 z).1 hz with h | h
            · exact hno z h
            · exact hb1 z h
          · show z ∈ y :: (mg (x :: a) b).1 ↔ _
            rw [List.mem_cons, h4, List.mem_cons (a := z) (b := y)]
            constructor
            · rintro (h | h | h)
              · exact .inr (.inl h)
              · exact .inl h
              · exact .inr (.inr h)
            · rintro (h | h | h)
              · exact .inr (.inl h)
              · exact .inl h
              · exact .inr (.inr h)
      · rename_i hyx
        simp only [Bool.not_eq_true] at hyx
        have e := sLt_conn hxy hyx
        refine ⟨?_, fun hf => by simp at hf⟩
        show true = _
        simp [e]
termination_by a b => a.length + b.length

end Go.Proofs.YtonijgmopcmldaaGreat

namespace Go.Proofs.YtonijgmopcmldaaGreat

theorem order_eq (x y : TPair) : F_state_order x y = some (Go.Lib.compareBytes x.Key y.Key) := rfl

def ins (l : List TPair) (p : TPair) : List TPair := l.takeWhile (fun x => sLt x.Key p.Key) ++ [p] ++ l.dropWhile (fun x => sLt x.Key p.Key)

theorem ins_spec {l : List TPair} {p : TPair} (hl : kAsc l) (hp : ∀ x ∈ l, x.Key ≠ p.Key) : kAsc (ins l p) ∧ (∀ x, x ∈ ins l p ↔ x = p ∨ x ∈ l) ∧ (ins l p).length = l.length + 1 := by
  have h2 : l.takeWhile (fun x => sLt x.Key p.Key) ++ l.dropWhile (fun x => sLt x.Key p.Key) = l := List.takeWhile_append_dropWhile
  have hA : ∀ x ∈ l.takeWhile (fun x => sLt x.Key p.Key), sLt x.Key p.Key = true := fun x hx => by
    have := List.all_takeWhile (p := fun x : TPair => sLt x.Key p.Key) (l := l)
    exact List.all_eq_true.1 this x hx
  have hB : ∀ x ∈ l.dropWhile (fun x => sLt x.Key p.Key), sLt p.Key x.Key = true := by
    have hd : kAsc (l.dropWhile (fun x => sLt x.Key p.Key)) := List.Pairwise.sublist (List.dropWhile_sublist _) hl
    cases hdw : l.dropWhile (fun x => sLt x.Key p.Key) with
    | nil => intro x hx; simp at hx
    | cons y m =>
      rw [hdw] at hd
      have hy : sLt y.Key p.Key = false := by
        have := List.head?_dropWhile_not (fun x : TPair => sLt x.Key p.Key) l
        rw [hdw] at this; simpa using this
      have hne : y.Key ≠ p.Key := hp y (by rw [← h2, hdw]; simp)
      have hy2 : sLt p.Key y.Key = true := by
        cases e : sLt p.Key y.Key with
        | true => rfl
        | false => exact absurd (sLt_conn hy e) hne
      intro x hx
      rcases List.mem_cons.1 hx with rfl | hx
      · exact hy2
      · exact sLt_trans hy2 ((List.pairwise_cons.1 hd).1 x hx)
  refine ⟨?_, fun x => ?_, ?_⟩
  · unfold ins kAsc
    rw [List.append_assoc, List.pairwise_append]
    have hl' : kAsc (l.takeWhile (fun x => sLt x.Key p.Key) ++ l.dropWhile (fun x => sLt x.Key p.Key)) := by rw [h2]; exact hl
    obtain ⟨p1, p2, p3⟩ := List.pairwise_append.1 hl'
    refine ⟨p1, List.pairwise_cons.2 ⟨hB, p2⟩, fun a ha b hb => ?_⟩
    rcases List.mem_cons.1 hb with rfl | hb
    · exact hA a ha
    · exact p3 a ha b hb
  · unfold ins
    rw [List.append_assoc, List.mem_append, List.singleton_append, List.mem_cons]
    have : x ∈ l ↔ x ∈ l.takeWhile (fun x => sLt x.Key p.Key) ∨ x ∈ l.dropWhile (fun x => sLt x.Key p.Key) := by rw [← List.mem_append, h2]
    rw [this]
    constructor
    · rintro (h | h | h)
      · exact .inr (.inl h)
      · exact .inl h
      · exact .inr (.inr h)
    · rintro (h | h | h)
      · exact .inr (.inl h)
      · exact .inl h
      · exact .inr (.inr h)
  · unfold ins
    have := congrArg List.length h2
    simp only [List.length_append, List.length_cons, List.length_nil] at this ⊢
    omega

/-- All of a list put into another that ascends and has none of its keys. -/
theorem fold_ins : ∀ {b l : List TPair}, kAsc l → kAsc b → (∀ x ∈ l, ∀ y ∈ b, x.Key ≠ y.Key) → kAsc (b.foldl ins l) ∧ (∀ x, x ∈ b.foldl ins l ↔ x ∈ l ∨ x ∈ b) ∧ (b.foldl ins l).length = l.length + b.length
  | [], l, h, _, _ => by simp [h]
  | y :: b, l, hl, hb, hd => by
    obtain ⟨hb1, hb2⟩ := List.pairwise_cons.1 hb
    obtain ⟨i1, i2, i3⟩ := ins_spec hl (p := y) (fun x hx => hd x hx y (by simp))
    obtain ⟨h1, h2, h3⟩ := fold_ins (b := b) (l := ins l y) i1 hb2 (fun x hx z hz => by
      rcases (i2 x).1 hx with rfl | hx
      · intro e; have := hb1 z hz; rw [e, sLt_irrefl] at this; simp at this
      · exact hd x hx z (by simp [hz]))
    rw [List.foldl_cons]
    refine ⟨h1, fun x => ?_, by rw [h3, i3, List.length_cons]; omega⟩
    rw [h2, i2, List.mem_cons]
    constructor
    · rintro ((h | h) | h)
      · exact .inr (.inl h)
      · exact .inl h
      · exact .inr (.inr h)
    · rintro (h | h | h)
      · exact .inl (.inr h)
      · exact .inl (.inl h)
      · exact .inr h

theorem ins_len (l : List TPair) (p : TPair) : (ins l p).length = l.length + 1 := by
  have h2 : l.takeWhile (fun x => sLt x.Key p.Key) ++ l.dropWhile (fun x => sLt x.Key p.Key) = l := List.takeWhile_append_dropWhile
  unfold ins
  have := congrArg List.length h2
  simp only [List.length_append, List.length_cons, List.length_nil] at this ⊢
  omega

end Go.Proofs.YtonijgmopcmldaaGreat
