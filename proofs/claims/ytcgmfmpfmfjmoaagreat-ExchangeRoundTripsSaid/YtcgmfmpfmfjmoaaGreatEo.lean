/-
  Chapter 31, plain texts: states: what a valid one is; the reference's test.
  Conditions: none.
-/
import Derived.Test.YtcgmfmpfmfjmoaaGreatEk
set_option linter.all false
namespace Go.Proofs.YtcgmfmpfmfjmoaaGreat

theorem cmp_lt : ∀ a b : List UInt8, (Go.Lib.compareBytes a b < 0 ↔ sLt a b = true) ∧ (0 < Go.Lib.compareBytes a b ↔ sLt b a = true)
  | [], [] => by simp [Go.Lib.compareBytes, sLt, Op.bytesLess]
  | [], _ :: _ => by simp [Go.Lib.compareBytes, sLt, Op.bytesLess]
  | _ :: _, [] => by simp [Go.Lib.compareBytes, sLt, Op.bytesLess]
  | x :: a, y :: b => by
    obtain ⟨h1, h2⟩ := cmp_lt a b
    rw [sLt_cons, sLt_cons, Go.Lib.compareBytes]
    simp only [UInt8.lt_iff_toNat_lt]
    by_cases h : x.toNat < y.toNat
    · simp [h, show ¬ y.toNat < x.toNat by omega, show ¬ y.toNat = x.toNat by omega]
    · by_cases h' : y.toNat < x.toNat
      · simp [h, h', show ¬ x.toNat = y.toNat by omega]
      · have e : x.toNat = y.toNat := by omega
        simp [h, h', e, h1, h2]

theorem srt_iff {l : List TPair} : srtB l = true ↔ (∀ x ∈ l, kvB x.Key = true ∧ vvB x.Val = true) ∧ l.Pairwise (fun a b => sLt a.Key b.Key = true) := by
  have hstep : srtB l = true ↔ ∀ i, i < l.length → (kvB (atI l (i : Int)).Key = true ∧ vvB (atI l (i : Int)).Val = true) ∧ (0 < i → sLt (atI l ((i : Int) - 1)).Key (atI l (i : Int)).Key = true) := by
    unfold srtB
    rw [Bool.not_eq_true', List.any_eq_false]
    constructor
    · intro h i hi
      have := h i (List.mem_range.2 hi)
      simp only [prBad, Bool.not_eq_true, Bool.or_eq_false_iff, Bool.not_eq_false', Bool.and_eq_false_iff, decide_eq_false_iff_not] at this
      refine ⟨this.1, fun h0 => ?_⟩
      rcases this.2 with h | h
      · exact absurd h0 h
      · exact h
    · intro h i hi
      obtain ⟨h1, h2⟩ := h i (List.mem_range.1 hi)
      simp only [prBad, Bool.not_eq_true, Bool.or_eq_false_iff, Bool.not_eq_false', Bool.and_eq_false_iff, decide_eq_false_iff_not]
      refine ⟨h1, ?_⟩
      by_cases h0 : 0 < i
      · exact .inr (h2 h0)
      · exact .inl h0
  rw [hstep]
  constructor
  · intro h
    refine ⟨fun k hk => ?_, ?_⟩
    · obtain ⟨i, hi, rfl⟩ := List.mem_iff_getElem.1 hk
      have := (h i hi).1
      rwa [atI_nat hi] at this
    · rw [List.pairwise_iff_getElem]
      have key : ∀ j (hj : j < l.length) i (hi : i < j), sLt (l[i]'(by omega)).Key l[j].Key = true := by
        intro j
        induction j with
        | zero => intro _ i hi; omega
        | succ j ih =>
          intro hj i hi
          have hs := (h (j + 1) hj).2 (by omega)
          have e : ((j + 1 : Nat) : Int) - 1 = ((j : Nat) : Int) := by omega
          rw [e, atI_nat (show j < l.length by omega), atI_nat hj] at hs
          by_cases hij : i = j
          · subst hij; exact hs
          · exact sLt_trans (ih (by omega) i (by omega)) hs
      exact fun i j _ hj hij => key j hj i hij
  · rintro ⟨h1, h2⟩ i hi
    refine ⟨h1 _ (at_mem29 hi), fun h0 => ?_⟩
    have e : (i : Int) - 1 = ((i - 1 : Nat) : Int) := by omega
    rw [e, atI_nat (show i - 1 < l.length by omega), atI_nat hi]
    exact List.pairwise_iff_getElem.1 h2 (i - 1) i _ _ (by omega)

def kAsc (l : List TPair) : Prop := l.Pairwise (fun a b => sLt a.Key b.Key = true)
def prGood (x : TPair) : Prop := kvB x.Key = true ∧ vvB x.Val = true ∧ x.Val.Kind ≠ 0

theorem sta_iff {l : List TPair} : staB l = true ↔ (∀ x ∈ l, prGood x) ∧ kAsc l := by
  unfold staB
  rw [Bool.and_eq_true, srt_iff, Bool.not_eq_true', List.any_eq_false]
  constructor
  · rintro ⟨⟨h1, h2⟩, h3⟩
    exact ⟨fun x hx => ⟨(h1 x hx).1, (h1 x hx).2, by simpa using h3 x hx⟩, h2⟩
  · rintro ⟨h1, h2⟩
    exact ⟨⟨fun x hx => ⟨(h1 x hx).1, (h1 x hx).2.1⟩, h2⟩, fun x hx => by simpa using (h1 x hx).2.2⟩

theorem ascending_ref {l : List TPair} (h : PrOk l) : F_clockworkref06_ascending l = some (ascB (l.map (·.Key))) := by
  have hl := h.l
  unfold F_clockworkref06_ascending
  simp only [jn_mk]
  refine (loopRng (len := l.length) hl (L := fun n i => F_clockworkref06_ascending_L1 l (some true) n i) (q := fun i => ascBad (l.map (·.Key)) i) (E := some false) (J := some true) (by omega) ?_ ?_).trans ?_
  · intro n i hi
    have hm := h.k _ (at_mem29 hi)
    have ek : atI (l.map (·.Key)) (i : Int) = (atI l (i : Int)).Key := by rw [atI_nat (by simpa using hi), atI_nat hi]; simp
    try dsimp only
    rw [F_clockworkref06_ascending_L1]
    simp only [show (i : Int) < (l.length : Int) by omega, decide_true, cond_true, show 0 ≤ (i : Int) by omega, true_and, implies_true, req_t, keys_ref hm.1, bnd_mk]
    cases hk : kvB (atI l (i : Int)).Key with
    | false => simp [ascBad, ek, hk, req]
    | true =>
      by_cases h0 : 0 < i
      · have h0' : (0 : Int) < (i : Int) := by omega
        have ek1 : atI (l.map (·.Key)) ((i : Int) - 1) = (atI l ((i : Int) - 1)).Key := by
          rw [show (i : Int) - 1 = ((i - 1 : Nat) : Int) by omega, atI_nat (by simp; omega), atI_nat (by omega)]; simp
        simp only [h0', decide_true, BEq.rfl, Bool.not_true, Bool.and_self, forall_const, wrap_pred h0 (by omega), Bool.true_and, Bool.false_or, ascBad, ek, ek1, hk, h0, cond_true]
        rw [req_pos (by omega)]
      · have h0' : ¬ (0 : Int) < (i : Int) := by omega
        simp [h0', ascBad, ek, hk, h0, req]
  · intro n
    try dsimp only
    rw [F_clockworkref06_ascending_L1]
    simp
  · rw [ascB, List.length_map]
    cases ((List.range l.length).any fun i => ascBad (l.map (·.Key)) i) <;> rfl

theorem srt_asc {l : List TPair} : srtB l = (ascB (l.map (·.Key)) && !(l.any fun x => !vvB x.Val)) := by
  rw [Bool.eq_iff_iff, srt_iff, Bool.and_eq_true, asc_iff, Bool.not_eq_true', List.any_eq_false]
  simp only [List.mem_map, forall_exists_index, and_imp, forall_apply_eq_imp_iff₂, List.pairwise_map]
  constructor
  · rintro ⟨h1, h2⟩
    exact ⟨⟨fun x hx => (h1 x hx).1, h2⟩, fun x hx => by simp [(h1 x hx).2]⟩
  · rintro ⟨⟨h1, h2⟩, h3⟩
    exact ⟨fun x hx => ⟨h1 x hx, by simpa using h3 x hx⟩, h2⟩

theorem vwrites_ref {l : List TPair} (h : PrOk l) : F_clockworkref06_ValidWrites l = some (srtB l) := by
  have hl := h.l
  unfold F_clockworkref06_ValidWrites
  rw [ascending_ref h, srt_asc]
  simp only [jn_mk, bnd_mk]
  refine (loopAny0 (l := l) hl (L := fun n i => F_clockworkref06_ValidWrites_L1 l (some (ascB (l.map (·.Key)))) n i) (q := fun x => !vvB x.Val) (E := some false) (J := some (ascB (l.map (·.Key)))) (n := (l.length : Int).toNat + 1) (by omega) ?_ ?_).trans ?_
  · intro n i hi
    have hm := h.k _ (List.getElem_mem hi)
    try dsimp only
    rw [F_clockworkref06_ValidWrites_L1]
    simp only [show (i : Int) < (l.length : Int) by omega, decide_true, cond_true, show 0 ≤ (i : Int) by omega, and_self, req_t, vvalid_ref hm.2, bnd_mk, atI_nat hi]
  · intro n
    try dsimp only
    rw [F_clockworkref06_ValidWrites_L1]
    simp
  · cases (l.any fun x => !vvB x.Val) <;> simp

theorem svalid_ref {l : List TPair} (h : PrOk l) : F_clockworkref06_Valid l = some (staB l) := by
  have hl := h.l
  unfold F_clockworkref06_Valid
  rw [vwrites_ref h]
  simp only [jn_mk, bnd_mk]
  refine (loopAny0 (l := l) hl (L := fun n i => F_clockworkref06_Valid_L1 l (some (srtB l)) n i) (q := fun x => x.Val.Kind == 0) (E := some false) (J := some (srtB l)) (by omega) ?_ ?_).trans ?_
  · intro n i hi
    try dsimp only
    rw [F_clockworkref06_Valid_L1]
    simp only [show (i : Int) < (l.length : Int) by omega, decide_true, cond_true, show 0 ≤ (i : Int) by omega, and_self, req_t, atI_nat hi]
  · intro n
    try dsimp only
    rw [F_clockworkref06_Valid_L1]
    simp
  · rw [staB]
    cases (l.any fun x => x.Val.Kind == 0) <;> simp

theorem kasc_ext : ∀ {a b : List TPair}, kAsc a → kAsc b → (∀ x, x ∈ a ↔ x ∈ b) → a = b
  | [], [], _, _, _ => rfl
  | [], y :: b, _, _, h => by have := (h y).2 (by simp); simp at this
  | x :: a, [], _, _, h => by have := (h x).1 (by simp); simp at this
  | x :: a, y :: b, ha, hb, h => by
    obtain ⟨ha1, ha2⟩ := List.pairwise_cons.1 ha
    obtain ⟨hb1, hb2⟩ := List.pairwise_cons.1 hb
    have hxy : x = y := by
      rcases List.mem_cons.1 ((h x).1 (by simp)) with e | e
      · exact e
      · rcases List.mem_cons.1 ((h y).2 (by simp)) with e2 | e2
        · exact e2.symm
        · have h1 := hb1 x e
          have h2 := ha1 y e2
          rw [sLt_asymm' h1] at h2; simp at h2
    subst hxy
    rw [kasc_ext ha2 hb2 fun z => ?_]
    have := h z
    simp only [List.mem_cons] at this
    constructor
    · intro hz
      rcases this.1 (.inr hz) with e | e
      · subst e; have := ha1 z hz; rw [sLt_irrefl] at this; simp at this
      · exact e
    · intro hz
      rcases this.2 (.inr hz) with e | e
      · subst e; have := hb1 z hz; rw [sLt_irrefl] at this; simp at this
      · exact e

theorem kasc_key : ∀ {a : List TPair}, kAsc a → ∀ {x y}, x ∈ a → y ∈ a → x.Key = y.Key → x = y
  | [], _, _, _, h, _, _ => by simp at h
  | z :: a, h, x, y, hx, hy, e => by
    obtain ⟨h1, h2⟩ := List.pairwise_cons.1 h
    rcases List.mem_cons.1 hx with hx1 | hx1 <;> rcases List.mem_cons.1 hy with hy1 | hy1
    · rw [hx1, hy1]
    · have := h1 y hy1; rw [← hx1, e, sLt_irrefl] at this; simp at this
    · have := h1 x hx1; rw [← hy1, e, sLt_irrefl] at this; simp at this
    · exact kasc_key h2 hx1 hy1 e

/-- Two ascending lists put together; whether they share a key. -/
def mg : List TPair → List TPair → List TPair × Bool
  | [], b => (b, false)
  | x :: a, [] => (x :: a, false)
  | x :: a, y :: b => if sLt x.Key y.Key = true then (x :: (mg a (y :: b)).1, (mg a (y :: b)).2) else if sLt y.Key x.Key = true then (y :: (mg (x :: a) b).1, (mg (x :: a) b).2) else ((mg a b).1, true)
termination_by a b => a.length + b.length

theorem mg_nil (a : List TPair) : mg a [] = (a, false) := by cases a <;> rw [mg]

theorem mg_len : ∀ a b : List TPair, (mg a b).1.length ≤ a.length + b.length
  | [], b => by simp [mg]
  | x :: a, [] => by simp [mg]
  | x :: a, y :: b => by
    have h1 := mg_len a (y :: b)
    have h2 := mg_len (x :: a) b
    have h3 := mg_len a b
    rw [mg]
    split
    · simp at h1 ⊢; omega
    · split
      · simp at h2 ⊢; omega
      · simp at h3 ⊢; omega
termination_by a b => a.length + b.length

theorem mg_sub : ∀ a b : List TPair, ∀ x ∈ (mg a b).1, x ∈ a ∨ x ∈ b
  | [], b => by simp [mg]
  | x :: a, [] => by simp [mg]
  | x :: a, y :: b => by
    have h1 := mg_sub a (y :: b)
    have h2 := mg_sub (x :: a) b
    have h3 := mg_sub a b
    rw [mg]
    intro z hz
    split at hz
    · rcases List.mem_cons.1 hz with rfl | hz
      · simp
      · rcases h1 z hz with h | h
        · simp [h]
        · exact .inr h
    · split at hz
      · rcases List.mem_cons.1 hz with rfl | hz
        · simp
        · rcases h2 z hz with h | h
          · exact .inl h
          · simp [h]
      · rcases h3 z hz with h | h <;> simp [h]
termination_by a b => a.length + b.length

/-- Of lists that ascend: whether they share a key; if not, both are there, and ascend. -/
theorem mg_spec : ∀ {a b : List TPair}, kAsc a → kAsc b → (mg a b).2 = (b.any fun y => a.any fun x => x.Key == y.Key) ∧ ((mg a b).2 = false → kAsc (mg a b).1 ∧ ∀ x, x ∈ (mg a b).1 ↔ x ∈ a ∨ x ∈ b)
  | [], b, _, hb => by simp [mg, hb]
  | x :: a, [], ha, _ => by simp [mg, ha]
  | x :: a, y :: b, ha, hb => by
    obtain ⟨ha1, ha2⟩ := List.pairwise_cons.1 ha
    obtain ⟨hb1, hb2⟩ := List.pairwise_cons.1 hb
    rw [mg]
    split
    · rename_i hxy
      obtain ⟨h1, h2⟩ := mg_spec (a := a) (b := y :: b) ha2 hb
      have hno : ∀ z ∈ y :: b, sLt x.Key z.Key = true := fun z hz => by
        rcases List.mem_cons.1 hz with rfl | hz
        · exact hxy
        · exact sLt_trans hxy (hb1 z hz)
      refine ⟨?_, fun hf => ?_⟩
      · show (mg a (y :: b)).2 = _
        rw [h1]
        refine any_congr fun z hz => ?_
        have : (x.Key == z.Key) = false := by
          rw [beq_eq_false_iff_ne]; intro e; have := hno z hz; rw [e, sLt_irrefl] at this; simp at this
        rw [List.any_cons, this, Bool.false_or]
      · obtain ⟨h3, h4⟩ := h2 hf
        refine ⟨List.pairwise_cons.2 ⟨fun z hz => ?_, h3⟩, fun z => ?_⟩
        · rcases (h4 z).1 hz with h | h
          · exact ha1 z h
          · exact hno z h
        · rw [List.mem_cons, h4, List.mem_cons (b := x), or_assoc]
    · rename_i hxy
      simp only [Bool.not_eq_true] at hxy
      split
      · rename_i hyx
        obtain ⟨h1, h2⟩ := mg_spec (a := x :: a) (b := b) ha hb2
        have hno : ∀ z ∈ x :: a, sLt y.Key z.Key = true := fun z hz => by
          rcases List.mem_cons.1 hz with rfl | hz
          · exact hyx
          · exact sLt_trans hyx (ha1 z hz)
        refine ⟨?_, fun hf => ?_⟩
        · show (mg (x :: a) b).2 = _
          rw [h1, List.any_cons]
          have : ((x :: a).any fun x => x.Key == y.Key) = false := by
            rw [List.any_eq_false]; intro z hz e
            have := hno z hz; rw [eq_of_beq e, sLt_irrefl] at this; simp at this
          rw [this, Bool.false_or]
        · obtain ⟨h3, h4⟩ := h2 hf
          refine ⟨List.pairwise_cons.2 ⟨fun z hz => ?_, h3⟩, fun z => ?_⟩
          · rcases (h4 z).1 hz with h | h
            · exact hno z h
            · exact hb1 z h
          · show z ∈ y :: (mg (x :: a) b).1 ↔ _
            rw [List.mem_cons, h4, List.mem_cons (a := z) (b := y)]
            constructor
            · rintro (h | h | h)
              · exact .inr (.inl h)
              · exact .inl h
              · exact .inr (.inr h)
            · rintro (h | h | h)
              · exact .inr (.inl h)
              · exact .inl h
              · exact .inr (.inr h)
      · rename_i hyx
        simp only [Bool.not_eq_true] at hyx
        have e := sLt_conn hxy hyx
        refine ⟨?_, fun hf => by simp at hf⟩
        show true = _
        simp [e]
termination_by a b => a.length + b.length

end Go.Proofs.YtcgmfmpfmfjmoaaGreat
