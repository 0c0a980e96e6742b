/-
  CHAPTER 28, PLAIN: versions never end later than locks (part g).
  Conditions: none.
-/
import Derived.Test.YtfinjeaoicfdeaaTf
namespace Go.Proofs.Ytfinjeaoicfdeaa
open Go.ChangeShapes

theorem startOf_le {sp : List TSpan} {M : Int} : ∀ (row : List Int) (s0 : Int), startOf sp row s0 ≤ M ↔ s0 ≤ M ∧ ∀ d ∈ row, (atI sp d).End ≤ M
  | [], s0 => by simp [startOf]
  | d :: row, s0 => by
    have h := startOf_le (sp := sp) (M := M) row (max s0 (atI sp d).End)
    have e : startOf sp (d :: row) s0 = startOf sp row (max s0 (atI sp d).End) := rfl
    rw [e, h]
    simp only [List.mem_cons, forall_eq_or_imp]
    constructor
    · rintro ⟨h1, h2⟩; exact ⟨by omega, by omega, h2⟩
    · rintro ⟨h1, h2, h3⟩; exact ⟨by omega, h3⟩

theorem startOf_ge (sp : List TSpan) (row : List Int) (s0 : Int) : s0 ≤ startOf sp row s0 ∧ ∀ d ∈ row, (atI sp d).End ≤ startOf sp row s0 := (startOf_le row s0).1 (Int.le_refl _)

theorem mkspan_le {M : Int} {l : List TSpan} : mkspan l ≤ M ↔ 0 ≤ M ∧ ∀ s ∈ l, s.End ≤ M := by
  have key : ∀ (l : List TSpan) (a : Int), l.foldl (fun m s => max m s.End) a ≤ M ↔ a ≤ M ∧ ∀ s ∈ l, s.End ≤ M := by
    intro l
    induction l with
    | nil => intro a; simp
    | cons x l ih =>
      intro a
      rw [List.foldl_cons, ih]
      simp only [List.mem_cons, forall_eq_or_imp]
      constructor
      · rintro ⟨h1, h2⟩; exact ⟨by omega, by omega, h2⟩
      · rintro ⟨h1, h2, h3⟩; exact ⟨by omega, h3⟩
  exact key l 0

theorem mkspan_ge (l : List TSpan) : 0 ≤ mkspan l ∧ ∀ s ∈ l, s.End ≤ mkspan l := mkspan_le.1 (Int.le_refl _)

theorem mem_at {α : Type} [Inhabited α] {l : List α} {x : α} (h : x ∈ l) : ∃ i : Nat, i < l.length ∧ atI l (i : Int) = x := by
  obtain ⟨i, hi, rfl⟩ := List.getElem_of_mem h
  exact ⟨i, hi, atI_nat hi⟩

theorem at_mem {α : Type} [Inhabited α] {l : List α} {i : Nat} (h : i < l.length) : atI l (i : Int) ∈ l := by
  rw [atI_nat h]; exact List.getElem_mem h

theorem atI_last {α : Type} [Inhabited α] {l : List α} {x : α} {i : Nat} (h : l.length = i) : atI (l ++ [x]) (i : Int) = x := by
  subst h
  rw [atI_nat (by simp)]; simp

/-- One span of the earliest schedule. -/
def eSpan (rows : List (List Int)) (costs : List Int) (i : Nat) : TSpan := ⟨(i : Int), (i : Int), startOf (earlS rows costs i) (atI rows (i : Int)) 0, IntKind.i64.wrap (startOf (earlS rows costs i) (atI rows (i : Int)) 0 + atI costs (i : Int))⟩

theorem earlS_at (rows : List (List Int)) (costs : List Int) : ∀ n i, i < n → atI (earlS rows costs n) (i : Int) = eSpan rows costs i
  | 0, i, h => by omega
  | n + 1, i, h => by
    rcases Nat.lt_or_ge i n with h' | h'
    · rw [earlS, atI_app (by rw [earlS_len]; omega), earlS_at rows costs n i h']
    · have : i = n := by omega
      subst this
      rw [earlS, atI_last (earlS_len rows costs i)]; rfl

theorem eSpan_facts {rows : List (List Int)} {costs : List Int} {n : Nat} (hn : n ≤ 200) (hv : ∀ i, i < n → ∀ d ∈ atI rows (i : Int), 0 ≤ d ∧ d < (i : Int)) (hc : ∀ i : Nat, i < n → 1 ≤ atI costs (i : Int) ∧ atI costs (i : Int) ≤ 1000) :
    ∀ i, i < n → 0 ≤ (eSpan rows costs i).Start ∧ (eSpan rows costs i).End = (eSpan rows costs i).Start + atI costs (i : Int) ∧ (eSpan rows costs i).End ≤ 1000 * ((i : Int) + 1) := by
  intro i
  induction i using Nat.strongRecOn with
  | ind i ih =>
    intro hi
    have h0 := (startOf_ge (earlS rows costs i) (atI rows (i : Int)) 0).1
    have h1 : startOf (earlS rows costs i) (atI rows (i : Int)) 0 ≤ 1000 * (i : Int) := by
      rw [startOf_le]
      refine ⟨by omega, fun d hd => ?_⟩
      have hb := hv i hi d hd
      obtain ⟨m, rfl⟩ : ∃ m : Nat, d = (m : Int) := ⟨d.toNat, by omega⟩
      rw [earlS_at rows costs i m (by omega)]
      have := (ih m (by omega) (by omega)).2.2
      omega
    have hc' := hc i hi
    have e : (eSpan rows costs i).End = (eSpan rows costs i).Start + atI costs (i : Int) := w64 (by omega) (by omega)
    refine ⟨h0, e, ?_⟩
    rw [e]
    simp only [eSpan]
    omega

/-- Fewer rows, earlier spans. -/
theorem eSpan_mono {rows rows' : List (List Int)} {costs : List Int} {n : Nat} (hn : n ≤ 200) (hv : ∀ i, i < n → ∀ d ∈ atI rows (i : Int), 0 ≤ d ∧ d < (i : Int)) (hv' : ∀ i, i < n → ∀ d ∈ atI rows' (i : Int), 0 ≤ d ∧ d < (i : Int))
    (hc : ∀ i : Nat, i < n → 1 ≤ atI costs (i : Int) ∧ atI costs (i : Int) ≤ 1000) (hs : ∀ i, i < n → ∀ d ∈ atI rows (i : Int), d ∈ atI rows' (i : Int)) :
    ∀ i, i < n → (eSpan rows costs i).End ≤ (eSpan rows' costs i).End := by
  intro i
  induction i using Nat.strongRecOn with
  | ind i ih =>
    intro hi
    have f1 := eSpan_facts hn hv hc i hi
    have f2 := eSpan_facts hn hv' hc i hi
    rw [f1.2.1, f2.2.1]
    have : (eSpan rows costs i).Start ≤ (eSpan rows' costs i).Start := by
      show startOf _ _ _ ≤ startOf _ _ _
      rw [startOf_le]
      refine ⟨(startOf_ge _ _ _).1, fun d hd => ?_⟩
      have hb := hv i hi d hd
      have h2 := (startOf_ge (earlS rows' costs i) (atI rows' (i : Int)) 0).2 d (hs i hi d hd)
      obtain ⟨m, rfl⟩ : ∃ m : Nat, d = (m : Int) := ⟨d.toNat, by omega⟩
      rw [earlS_at _ _ i m (by omega)] at h2 ⊢
      have := ih m (by omega) (by omega)
      omega
    omega

theorem dep_conf {a b : TFootprint} (h : depB a b = true) : confB a b = true := by
  simp only [depB, normF] at h
  simp only [confB]
  cases ha : fpB a <;> cases hb : fpB b <;> cases haa : a.All <;> cases hba : b.All <;> simp_all

theorem pickRow_mem {p : Nat → Nat → Bool} {j : Nat} {d : Int} : ∀ {k}, d ∈ pickRow p j k ↔ ∃ m : Nat, m < k ∧ d = (m : Int) ∧ p m j = true
  | 0 => by simp [pickRow]
  | k + 1 => by
    have ih := pickRow_mem (p := p) (j := j) (d := d) (k := k)
    cases hp : p k j with
    | true =>
      rw [pickRow_t hp, List.mem_append, ih, List.mem_singleton]
      constructor
      · rintro (⟨m, h1, h2, h3⟩ | h)
        · exact ⟨m, by omega, h2, h3⟩
        · exact ⟨k, by omega, h, hp⟩
      · rintro ⟨m, h1, h2, h3⟩
        rcases Nat.lt_or_ge m k with h' | h'
        · exact Or.inl ⟨m, h', h2, h3⟩
        · right; rw [h2]; congr 1; omega
    | false =>
      rw [pickRow_f hp, ih]
      constructor
      · rintro ⟨m, h1, h2, h3⟩; exact ⟨m, by omega, h2, h3⟩
      · rintro ⟨m, h1, h2, h3⟩
        rcases Nat.lt_or_ge m k with h' | h'
        · exact ⟨m, h', h2, h3⟩
        · have : m = k := by omega
          subst this
          rw [hp] at h3; cases h3

theorem costs_at {n : Nat} {c : List Int} (h : costsB (n : Int) c = true) : ∀ i : Nat, i < n → 1 ≤ atI c (i : Int) ∧ atI c (i : Int) ≤ 1000 := by
  intro i hi
  have hl := costs_len h
  simp only [costsB, Bool.and_eq_true, Bool.not_eq_true', List.any_eq_false, Bool.or_eq_true, decide_eq_true_eq] at h
  have := h.2 _ (at_mem (show i < c.length by omega))
  omega

theorem few25_len {l : List TFootprint} {m : Int} (h : few25B l m = true) : (l.length : Int) ≤ m := by
  simp only [few25B, Bool.and_eq_true, Bool.not_eq_true', decide_eq_false_iff_not] at h
  omega

theorem plain_TimelineVersions (x0 : List TFootprint) (x1 : List Int) (o0 : (okL okTFootprint) x0) (o1 : (okL (okI .i64)) x1) : F_clockworklaw28_TimelineVersions x0 x1 = some true := by
  obtain ⟨h0, ho⟩ := ok_fp o0
  unfold F_clockworklaw28_TimelineVersions
  rw [few25_ref h0 ho, bnd_mk]
  cases hf : few25B x0 10 with
  | false => simp [lives_true]
  | true =>
    by_cases h1 : 20 < (x1.length : Int)
    · simp [h1, lives_true]
    have hb1 : x1.length < big := by simp only [big]; omega
    have hl10 := few25_len hf
    have hl : x0.length ≤ 200 := by omega
    rw [lock_impl hl ho hb1, vers_impl hl ho hb1, lives_true]
    simp only [bnd_mk, lockP, versP]
    cases hc : costsB (x0.length : Int) x1 with
    | false => simp [h1]
    | true =>
      have f1 := confR_facts x0
      have f2 := depR_facts x0
      have v1 : ∀ i, i < x0.length → ∀ d ∈ atI (confR x0) (i : Int), 0 ≤ d ∧ d < (i : Int) := fun i hi => rows_lt f1.2.1 (by omega)
      have v2 : ∀ i, i < x0.length → ∀ d ∈ atI (depR x0) (i : Int), 0 ≤ d ∧ d < (i : Int) := fun i hi => rows_lt f2.2.1 (by omega)
      have hca := costs_at hc
      have hs : ∀ i, i < x0.length → ∀ d ∈ atI (depR x0) (i : Int), d ∈ atI (confR x0) (i : Int) := by
        intro i hi d hd
        rw [depR, pickRows_at _ _ _ hi, pickRow_mem] at hd
        rw [confR, pickRows_at _ _ _ hi, pickRow_mem]
        obtain ⟨m, a, b, c⟩ := hd
        exact ⟨m, a, b, dep_conf c⟩
      have g1 := eSpan_facts hl v1 hca
      have g2 := eSpan_facts hl v2 hca
      have g3 := eSpan_mono hl v2 v1 hca hs
      have hm : mkspan (earlS (depR x0) x1 x0.length) ≤ mkspan (earlS (confR x0) x1 x0.length) := by
        rw [mkspan_le]
        refine ⟨(mkspan_ge _).1, fun s hs' => ?_⟩
        obtain ⟨i, hi, rfl⟩ := mem_at hs'
        rw [earlS_len] at hi
        rw [earlS_at _ _ _ _ hi]
        have := g3 i hi
        have h3 := (mkspan_ge (earlS (confR x0) x1 x0.length)).2 _ (at_mem (show i < (earlS (confR x0) x1 x0.length).length by rw [earlS_len]; exact hi))
        rw [earlS_at _ _ _ _ hi] at h3
        omega
      have hloop : ∀ J : Option Bool, F_clockworklaw28_TimelineVersions_L1 (earlS (confR x0) x1 x0.length, 0) (earlS (depR x0) x1 x0.length, 0) x1 J ((((earlS (confR x0) x1 x0.length).length : Nat) : Int).toNat + 1) 0 = J := by
        intro J
        rw [earlS_len]
        refine (loopRng (len := x0.length) h0 (L := fun n i => F_clockworklaw28_TimelineVersions_L1 (earlS (confR x0) x1 x0.length, 0) (earlS (depR x0) x1 x0.length, 0) x1 J n i) (q := fun _ => false) (E := some false) (J := J) (by omega) ?_ ?_).trans ?_
        · intro n i hi
          have hcl := costs_len hc
          try dsimp only
          rw [F_clockworklaw28_TimelineVersions_L1]
          have e1 := g1 i hi
          have e2 := g2 i hi
          have e3 := g3 i hi
          have t1 : (eSpan (confR x0) x1 i).Txn = (i : Int) := rfl
          have t2 : (eSpan (depR x0) x1 i).Txn = (i : Int) := rfl
          have w1 : IntKind.i64.wrap ((eSpan (confR x0) x1 i).End - (eSpan (confR x0) x1 i).Start) = atI x1 (i : Int) := by
            rw [e1.2.1, show (eSpan (confR x0) x1 i).Start + atI x1 (i : Int) - (eSpan (confR x0) x1 i).Start = atI x1 (i : Int) by omega]
            have := hca i hi
            exact w64 (by omega) (by omega)
          have w2 : IntKind.i64.wrap ((eSpan (depR x0) x1 i).End - (eSpan (depR x0) x1 i).Start) = atI x1 (i : Int) := by
            rw [e2.2.1, show (eSpan (depR x0) x1 i).Start + atI x1 (i : Int) - (eSpan (depR x0) x1 i).Start = atI x1 (i : Int) by omega]
            have := hca i hi
            exact w64 (by omega) (by omega)
          simp only [earlS_len, earlS_at _ _ _ _ hi, show (i : Int) < (x0.length : Int) by omega, show (i : Int) < (x1.length : Int) by omega, decide_true, cond_true, show 0 ≤ (i : Int) by omega, and_self, implies_true, req_t, t1, t2, bne_self_eq_false, Bool.false_or, BEq.rfl, show ¬ (eSpan (confR x0) x1 i).End < (eSpan (depR x0) x1 i).End by omega, decide_false, w1, w2, cond_false]
        · intro n
          try dsimp only
          rw [F_clockworklaw28_TimelineVersions_L1]
          simp [earlS_len]
        · rw [show ((List.range x0.length).any fun _ => false) = false by rw [List.any_eq_false]; simp]; rfl
      simp only [if_true, h1, decide_false, Bool.not_true, Bool.false_or, cond_false, bne_self_eq_false, earlS_len, jn_mk]
      rw [earlS_len] at hloop
      rw [hloop]
      rw [mk_impl (by rw [earlS_len]; exact h0), mk_impl (by rw [earlS_len]; exact h0)]
      simp [hm]

end Go.Proofs.Ytfinjeaoicfdeaa
