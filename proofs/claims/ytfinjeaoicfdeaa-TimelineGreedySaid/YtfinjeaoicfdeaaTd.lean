/-
  CHAPTER 28, PLAIN: the check of a schedule: both answer alike (part d).
  Conditions: none.
-/
import Derived.Test.YtfinjeaoicfdeaaTc
namespace Go.Proofs.Ytfinjeaoicfdeaa
open Go.ChangeShapes

def fitB (costs : List Int) (w : Int) (s : TSpan) : Bool := decide (0 ≤ s.Worker) && decide (s.Worker < w) && decide (0 ≤ s.Start) && decide (s.Start ≤ s.End) && (IntKind.i64.wrap (s.End - s.Start) == atI costs s.Txn)
def lapB (a b : TSpan) : Bool := (a.Worker == b.Worker && decide (a.Start < b.End)) && decide (b.Start < a.End)
def lateB (rows : List (List Int)) (P : List Int) (sp : List TSpan) (i : Nat) : Bool := (atI rows (i : Int)).any fun d => decide ((atI sp (atI P (i : Int))).Start < (atI sp (atI P d)).End)

def chk (rows : List (List Int)) (costs : List Int) (w : Int) (sp : List TSpan) : Int :=
  if validB rows costs w = false then 1 else if placeB rows.length sp = false then 9
  else if (sp.any fun s => !fitB costs w s) = true then 1 else if ((List.range rows.length).any fun i => lateB rows (placeL rows.length sp rows.length) sp i) = true then 16
  else if ((List.range sp.length).any fun (i : Nat) => (List.range i).any fun (k : Nat) => lapB (atI sp (i : Int)) (atI sp (k : Int))) = true then 2 else 0

theorem valid_facts {rows : List (List Int)} {costs : List Int} {w : Int} (hv : validB rows costs w = true) : costs.length = rows.length ∧ rows.length ≤ 128 ∧ 1 ≤ w ∧ w ≤ 64 ∧ rowsB rows = true ∧ ∀ x ∈ costs, 1 ≤ x ∧ x ≤ 1000 := by
  simp only [validB, costsB, Bool.and_eq_true, decide_eq_true_eq, beq_iff_eq] at hv
  obtain ⟨⟨⟨⟨⟨h1, h2⟩, h3⟩, h4⟩, h5⟩, h6⟩ := hv
  refine ⟨by omega, by omega, h4, h5, h6, fun x hx => ?_⟩
  simp only [Bool.not_eq_true', List.any_eq_false, Bool.or_eq_true, decide_eq_true_eq] at h3
  have := h3 x hx
  omega

theorem place_facts {n : Nat} {sp : List TSpan} (h : placeB n sp = true) : sp.length = n ∧ (∀ j, j < n → 0 ≤ lastIx sp (j : Int) n) ∧ ∀ i, i < n → 0 ≤ (atI sp (i : Int)).Txn ∧ (atI sp (i : Int)).Txn < (n : Int) := by
  simp only [placeB, Bool.and_eq_true, decide_eq_true_eq, Bool.not_eq_true'] at h
  refine ⟨h.1, ?_, ?_⟩
  · intro j hj
    have h2 := h.2
    rw [List.any_eq_false] at h2
    have := h2 j (by simpa using hj)
    simpa using this
  · intro i hi
    have h2 := h.2
    rw [← good_all, List.any_eq_false] at h2
    have := h2 i (by simpa using hi)
    simp only [Bool.not_eq_true', Bool.not_eq_false, goodB, Bool.and_eq_true, decide_eq_true_eq] at this
    exact ⟨this.1.1, this.1.2⟩

theorem placeL_at {n : Nat} {sp : List TSpan} (h : placeB n sp = true) {j : Int} (h0 : 0 ≤ j) (hj : j < (n : Int)) : 0 ≤ atI (placeL n sp n) j ∧ atI (placeL n sp n) j < (sp.length : Int) := by
  obtain ⟨e, h1, _⟩ := place_facts h
  rw [placeL, atI_map _ h0 hj, e]
  exact ⟨h1 _ (by omega), (lastIx_bd sp _ n).1⟩

theorem fits_eq (s : TSpan) (costs : List Int) (w : Int) : F_timeline_fits s (atI costs s.Txn) w = some (fitB costs w s) := rfl

theorem check_impl {rows : List (List Int)} {costs : List Int} {w : Int} {sp : List TSpan} (hl : rows.length ≤ 200) (hc : costs.length < big) (hr : ∀ r ∈ rows, r.length ≤ 200) (hs : sp.length ≤ 200) :
    F_timeline_Check rows costs w sp = some (chk rows costs w sp) := by
  have hsb : sp.length < big := Nat.lt_of_le_of_lt hs (by decide)
  have hlb : rows.length < big := Nat.lt_of_le_of_lt hl (by decide)
  unfold F_timeline_Check
  rw [valid_impl hlb hc (fun r h => Nat.lt_of_le_of_lt (hr r h) (by decide)), bnd_mk]
  cases hv : validB rows costs w with
  | false => simp [chk, hv]
  | true =>
  rw [places_impl hl, bnd_mk]
  cases hp : placeB rows.length sp with
  | false => simp [chk, hv, hp]
  | true =>
  obtain ⟨v1, v2, v3, v4, v5, v6⟩ := valid_facts hv
  obtain ⟨p1, p2, p3⟩ := place_facts hp
  simp only [Bool.not_true, cond_false, if_true, jn_mk]
  have g5 : ∀ J : Option Int, F_timeline_Check_L5 sp costs w J ((sp.length : Int).toNat + 1) 0 = cond (sp.any fun s => !fitB costs w s) (some 1) J := by
    intro J
    refine loopAny0 (L := fun n i => F_timeline_Check_L5 sp costs w J n i) (q := fun s => !fitB costs w s) (E := some 1) (J := J) hsb (by omega) ?_ ?_
    · intro n i hi
      have ht := p3 i (by omega)
      rw [atI_nat hi] at ht
      try dsimp only
      rw [F_timeline_Check_L5]
      simp only [show (i : Int) < (sp.length : Int) by omega, decide_true, cond_true, show 0 ≤ (i : Int) by omega, true_and, req_t, ht.1, show sp[i].Txn < (costs.length : Int) by omega, fits_eq, bnd_mk, atI_nat hi]
    · intro n
      try dsimp only
      rw [F_timeline_Check_L5]
      simp
  have g3 : ∀ J : Option Int, F_timeline_Check_L3 rows (placeL rows.length sp rows.length, true) sp J ((rows.length : Int).toNat + 1) 0 = cond ((List.range rows.length).any fun i => lateB rows (placeL rows.length sp rows.length) sp i) (some 16) J := by
    intro J
    refine loopRng (L := fun n i => F_timeline_Check_L3 rows (placeL rows.length sp rows.length, true) sp J n i) (E := some 16) (J := J) hlb (by omega) ?_ ?_
    · intro n i hi
      try dsimp only
      rw [F_timeline_Check_L3]
      simp only [show (i : Int) < (rows.length : Int) by omega, decide_true, cond_true, show 0 ≤ (i : Int) by omega, true_and, req_t, jn_mk]
      have hrow : (atI rows (i : Int)).length ≤ 200 := by rw [atI_nat hi]; exact hr _ (List.getElem_mem hi)
      refine loopAny0 (L := fun n i' => F_timeline_Check_L4 rows (i : Int) (placeL rows.length sp rows.length, true) sp _ n i') (Nat.lt_of_le_of_lt hrow (by decide)) (by omega) ?_ ?_
      · intro n j hj
        have hd := rows_lt v5 hi _ (List.getElem_mem hj)
        have q1 := placeL_at hp (j := (i : Int)) (by omega) (by omega)
        have q2 := placeL_at hp (j := (atI rows (i : Int))[j]) (by omega) (by omega)
        try dsimp only
        rw [F_timeline_Check_L4]
        have hpl : ((placeL rows.length sp rows.length).length : Int) = (rows.length : Int) := by simp [placeL]
        simp only [show (j : Int) < ((atI rows (i : Int)).length : Int) by omega, decide_true, cond_true, show 0 ≤ (j : Int) by omega, show 0 ≤ (i : Int) by omega, show (i : Int) < (rows.length : Int) by omega, true_and, req_t, hpl, atI_nat hj, q1.1, q1.2, q2.1, q2.2, hd.1, show (atI rows (i : Int))[j] < (rows.length : Int) by omega]
      · intro n
        try dsimp only
        rw [F_timeline_Check_L4]
        simp
    · intro n
      try dsimp only
      rw [F_timeline_Check_L3]
      simp
  have g1 : ∀ J : Option Int, F_timeline_Check_L1 sp J ((sp.length : Int).toNat + 1) 0 = cond ((List.range sp.length).any fun (i : Nat) => (List.range i).any fun (k : Nat) => lapB (atI sp (i : Int)) (atI sp (k : Int))) (some 2) J := by
    intro J
    refine loopRng (L := fun n i => F_timeline_Check_L1 sp J n i) (E := some 2) (J := J) hsb (by omega) ?_ ?_
    · intro n i hi
      try dsimp only
      rw [F_timeline_Check_L1]
      have hlen : ((sp.take (i : Int).toNat).drop (0 : Int).toNat).length = i := by simp; omega
      simp only [show (i : Int) < (sp.length : Int) by omega, decide_true, cond_true, show 0 ≤ (i : Int) by omega, Int.le_refl, show (i : Int) ≤ (sp.length : Int) by omega, true_and, and_self, req_t, jn_mk, hlen]
      refine loopRng (L := fun n i' => F_timeline_Check_L2 sp (i : Int) _ n i') (Nat.lt_trans hi hsb) (by omega) ?_ ?_
      · intro n k hk
        try dsimp only
        rw [F_timeline_Check_L2]
        have ha : atI ((sp.take (i : Int).toNat).drop (0 : Int).toNat) (k : Int) = atI sp (k : Int) := by
          rw [atI_nat (by omega), atI_nat (show k < sp.length by omega)]; simp
        simp only [hlen, ha, show (k : Int) < (i : Int) by omega, decide_true, cond_true, show 0 ≤ (k : Int) by omega, true_and, req_t, lapB]
      · intro n
        try dsimp only
        rw [F_timeline_Check_L2]
        simp only [hlen]
        simp
    · intro n
      try dsimp only
      rw [F_timeline_Check_L1]
      simp
  rw [g5, g3, g1]
  simp only [chk, hv, hp]
  cases (sp.any fun s => !fitB costs w s) <;> cases ((List.range rows.length).any fun i => lateB rows (placeL rows.length sp rows.length) sp i) <;> cases ((List.range sp.length).any fun (i : Nat) => (List.range i).any fun (k : Nat) => lapB (atI sp (i : Int)) (atI sp (k : Int))) <;> rfl

theorem check_ref {rows : List (List Int)} {costs : List Int} {w : Int} {sp : List TSpan} (hl : rows.length ≤ 200) (hc : costs.length < big) (hr : ∀ r ∈ rows, r.length ≤ 200) (hs : sp.length ≤ 200) :
    F_clockworkref28_Check rows costs w sp = some (chk rows costs w sp) := by
  have hsb : sp.length < big := Nat.lt_of_le_of_lt hs (by decide)
  have hlb : rows.length < big := Nat.lt_of_le_of_lt hl (by decide)
  unfold F_clockworkref28_Check
  rw [valid_ref hlb hc (fun r h => Nat.lt_of_le_of_lt (hr r h) (by decide)), bnd_mk]
  cases hv : validB rows costs w with
  | false => simp [chk, hv]
  | true =>
  obtain ⟨P, eP, hP⟩ := places_ref (n := rows.length) (sp := sp) hl hsb
  rw [eP, bnd_mk]
  cases hp : placeB rows.length sp with
  | false => simp [chk, hv, hp]
  | true =>
  obtain rfl := hP hp
  obtain ⟨v1, v2, v3, v4, v5, v6⟩ := valid_facts hv
  obtain ⟨p1, p2, p3⟩ := place_facts hp
  simp only [Bool.not_true, cond_false, jn_mk]
  have g5 : ∀ J : Option Int, F_clockworkref28_Check_L5 sp w costs J ((sp.length : Int).toNat + 1) 0 = cond (sp.any fun s => !fitB costs w s) (some 1) J := by
    intro J
    refine loopAny0 (L := fun n i => F_clockworkref28_Check_L5 sp w costs J n i) (q := fun s => !fitB costs w s) (E := some 1) (J := J) hsb (by omega) ?_ ?_
    · intro n i hi
      have ht := p3 i (by omega)
      rw [atI_nat hi] at ht
      try dsimp only
      rw [F_clockworkref28_Check_L5]
      simp only [show (i : Int) < (sp.length : Int) by omega, decide_true, cond_true, show 0 ≤ (i : Int) by omega, true_and, req_t, ht.1, show sp[i].Txn < (costs.length : Int) by omega, atI_nat hi, implies_true, and_self]
      by_cases a1 : sp[i].Worker < 0
      · simp [a1, fitB, show ¬ 0 ≤ sp[i].Worker by omega]
      by_cases a2 : w ≤ sp[i].Worker
      · simp [a1, a2, fitB, show ¬ sp[i].Worker < w by omega]
      by_cases a3 : sp[i].Start < 0
      · simp [a1, a2, a3, fitB, show ¬ 0 ≤ sp[i].Start by omega]
      by_cases a4 : sp[i].End < sp[i].Start
      · simp [a1, a2, a3, a4, fitB, show ¬ sp[i].Start ≤ sp[i].End by omega]
      · simp only [a1, a2, a3, a4, fitB, show 0 ≤ sp[i].Worker by omega, show sp[i].Worker < w by omega, show 0 ≤ sp[i].Start by omega, show sp[i].Start ≤ sp[i].End by omega, decide_false, decide_true, Bool.or_false, Bool.false_or, Bool.true_and, BEq.rfl, cond_true]
        rfl
    · intro n
      try dsimp only
      rw [F_clockworkref28_Check_L5]
      simp
  have g3 : ∀ J : Option Int, F_clockworkref28_Check_L3 rows (placeL rows.length sp rows.length, true) sp J ((rows.length : Int).toNat + 1) 0 = cond ((List.range rows.length).any fun i => lateB rows (placeL rows.length sp rows.length) sp i) (some 16) J := by
    intro J
    refine loopRng (L := fun n i => F_clockworkref28_Check_L3 rows (placeL rows.length sp rows.length, true) sp J n i) (E := some 16) (J := J) hlb (by omega) ?_ ?_
    · intro n i hi
      try dsimp only
      rw [F_clockworkref28_Check_L3]
      simp only [show (i : Int) < (rows.length : Int) by omega, decide_true, cond_true, jn_mk]
      have hrow : (atI rows (i : Int)).length ≤ 200 := by rw [atI_nat hi]; exact hr _ (List.getElem_mem hi)
      refine loopAny0 (L := fun n i' => F_clockworkref28_Check_L4 (i : Int) rows (placeL rows.length sp rows.length, true) sp _ n i') (Nat.lt_of_le_of_lt hrow (by decide)) (by omega) ?_ ?_
      · intro n j hj
        have hd := rows_lt v5 hi _ (List.getElem_mem hj)
        have q1 := placeL_at hp (j := (i : Int)) (by omega) (by omega)
        have q2 := placeL_at hp (j := (atI rows (i : Int))[j]) (by omega) (by omega)
        try dsimp only
        rw [F_clockworkref28_Check_L4]
        have hpl : ((placeL rows.length sp rows.length).length : Int) = (rows.length : Int) := by simp [placeL]
        simp only [show (j : Int) < ((atI rows (i : Int)).length : Int) by omega, decide_true, cond_true, show 0 ≤ (j : Int) by omega, show 0 ≤ (i : Int) by omega, show (i : Int) < (rows.length : Int) by omega, true_and, req_t, hpl, atI_nat hj, q1.1, q1.2, q2.1, q2.2, hd.1, show (atI rows (i : Int))[j] < (rows.length : Int) by omega]
      · intro n
        try dsimp only
        rw [F_clockworkref28_Check_L4]
        simp [hi]
    · intro n
      try dsimp only
      rw [F_clockworkref28_Check_L3]
      simp
  have g1 : ∀ J : Option Int, F_clockworkref28_Check_L1 sp J ((sp.length : Int).toNat + 1) 0 = cond ((List.range sp.length).any fun (i : Nat) => (List.range i).any fun (k : Nat) => lapB (atI sp (i : Int)) (atI sp (k : Int))) (some 2) J := by
    intro J
    refine loopRng (L := fun n i => F_clockworkref28_Check_L1 sp J n i) (E := some 2) (J := J) hsb (by omega) ?_ ?_
    · intro n i hi
      try dsimp only
      rw [F_clockworkref28_Check_L1]
      simp only [show (i : Int) < (sp.length : Int) by omega, decide_true, cond_true, jn_mk]
      refine loopRng (L := fun n i' => F_clockworkref28_Check_L2 (i : Int) sp _ n i') (Nat.lt_trans hi hsb) (by omega) ?_ ?_
      · intro n k hk
        try dsimp only
        rw [F_clockworkref28_Check_L2]
        simp only [show (i : Int) < (sp.length : Int) by omega, show (k : Int) < (sp.length : Int) by omega, show 0 ≤ (i : Int) by omega, show (k : Int) < (i : Int) by omega, decide_true, cond_true, show 0 ≤ (k : Int) by omega, true_and, implies_true, req_t, lapB]
        cases (atI sp (i : Int)).Worker == (atI sp (k : Int)).Worker with
        | false => rfl
        | true =>
          by_cases h : (atI sp (i : Int)).Start < (atI sp (k : Int)).End
          · simp [h]
          · simp [h]
      · intro n
        try dsimp only
        rw [F_clockworkref28_Check_L2]
        simp
    · intro n
      try dsimp only
      rw [F_clockworkref28_Check_L1]
      simp
  rw [g5, g3, g1]
  simp only [chk, hv, hp]
  cases (sp.any fun s => !fitB costs w s) <;> cases ((List.range rows.length).any fun i => lateB rows (placeL rows.length sp rows.length) sp i) <;> cases ((List.range sp.length).any fun (i : Nat) => (List.range i).any fun (k : Nat) => lapB (atI sp (i : Int)) (atI sp (k : Int))) <;> rfl

theorem plain_TimelineChecks (x0 : List (List Int)) (x1 : List Int) (x2 : Int) (x3 : List TSpan) (o0 : (okL (okL (okI .i64))) x0) (o1 : (okL (okI .i64)) x1) (o2 : (okI .i64) x2) (o3 : (okL okTSpan) x3) : F_clockworklaw28_TimelineChecks x0 x1 x2 x3 = some true := by
  unfold F_clockworklaw28_TimelineChecks
  have h0 : x0.length < big := Nat.lt_succ_of_le o0.1
  rw [few_ref h0, bnd_mk]
  cases hf : fewB x0 with
  | false => simp [lives_true]
  | true =>
    obtain ⟨hl, hr⟩ := few_len hf
    by_cases h1 : 200 < (x1.length : Int)
    · simp [h1, lives_true]
    by_cases h2 : 20 < (x3.length : Int)
    · simp [h2, lives_true]
    have hb1 : x1.length < big := by simp only [big]; omega
    have hr' : ∀ r ∈ x0, r.length ≤ 200 := fun r h => Nat.le_trans (hr r h) (by decide)
    rw [check_impl hl hb1 hr' (by omega), check_ref hl hb1 hr' (by omega), lives_true]
    simp [h1, h2]

end Go.Proofs.Ytfinjeaoicfdeaa
