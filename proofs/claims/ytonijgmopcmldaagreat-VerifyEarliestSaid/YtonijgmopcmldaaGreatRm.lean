/-
  THE LAWS VerifyStores AND VerifyEarliest IN PLAIN LEAN.
-/
import Derived.Test.YtonijgmopcmldaaGreatRl
import Derived.Test.YtonijgmopcmldaaGreatOp
set_option linter.all false
namespace Go.Proofs.YtonijgmopcmldaaGreat
open Go.ChangeShapes

def fewB (s : TStore) : Bool := cond (decide (40 < s.Rows.length)) false (!(s.Rows.any fun r => decide (40 < r.Vers.length)))

theorem few_eq {s : TStore} (hs : s.Rows.length < 9223372036854775808) : F_clockworklaw54_few s = some (fewB s) := by
  unfold F_clockworklaw54_few fewB
  by_cases h : 40 < s.Rows.length
  · rw [decide_eq_true h, decide_eq_true (by omega)]; rfl
  · rw [decide_eq_false h, decide_eq_false (by omega), cond_false, cond_false, jn_mk]
    refine (loopAny0 (l := s.Rows) hs (L := fun n i => F_clockworklaw54_few_L1 s (some true) n i) (q := fun r => decide (40 < r.Vers.length)) (E := some false) (J := some true) (by omega) (fun n i hi => ?_) (fun n => ?_)).trans ?_
    · try dsimp only
      rw [F_clockworklaw54_few_L1, decide_eq_true (by omega), cond_true, req_pos (by omega), atI_nat hi]
      congr 1
      rw [Bool.eq_iff_iff]; simp; omega
    · try dsimp only
      rw [F_clockworklaw54_few_L1, decide_eq_false (by omega), cond_false]
    · cases (s.Rows.any fun r => decide (40 < r.Vers.length)) <;> rfl

theorem few_of {s : TStore} (h : fewB s = true) : Few s := by
  unfold fewB at h
  by_cases h1 : 40 < s.Rows.length
  · rw [decide_eq_true h1] at h; cases h
  · rw [decide_eq_false h1, cond_false] at h
    refine ⟨by omega, fun r hr => ?_⟩
    simp only [Bool.not_eq_true'] at h
    have := List.any_eq_false.1 h r hr
    simp at this; omega

theorem ok_st {s : TStore} (o : okTStore s) (h : Few s) : StOk s := few_st h fun r hr => by
  have eb : big = 9223372036854775808 := rfl
  obtain ⟨h1, h2⟩ := o.2.2.2 r hr
  unfold okS at h1
  refine ⟨by omega, fun u hu => ?_⟩
  obtain ⟨_, _, _, h3⟩ := h2.2 u hu
  unfold okS at h3
  omega

theorem plain_VerifyStores (x0 : TStore) (x1 : TStore) (o0 : okTStore x0) (o1 : okTStore x1) : F_clockworklaw54_VerifyStores x0 x1 = some true := by
  have l0 := o0.2.2.1
  have l1 := o1.2.2.1
  unfold F_clockworklaw54_VerifyStores
  rw [works_t, few_eq (by omega), bnd_mk]
  cases f0 : fewB x0 with
  | false => simp [gcall, bnd]
  | true =>
    rw [show ((!true) == false) = true from rfl, gcall_t, few_eq (by omega), bnd_mk]
    cases f1 : fewB x1 with
    | false => rfl
    | true =>
      have g0 := few_of f0
      have g1 := few_of f1
      rw [show ((!true) || (!true)) = false from rfl, cond_false, stores_impl g0 g1 (ok_st o0 g0) (ok_st o1 g1), bnd_mk, stores_ref g0 g1 (ok_st o0 g0) (ok_st o1 g1), bnd_mk]
      simp [gcall]

/-! ### Earliest -/

def difB (x y : TStore) (t : Int) : Bool := ((atP x t).2 == 0 && (atP y t).2 == 0) && diffT x y t

theorem differ_eq {x y : TStore} (hx : Few x) (hy : Few y) (sx : StOk x) (sy : StOk y) (t : Int) : F_clockworklaw54_differ x y t = some (difB x y t) := by
  have r1 := hx.r
  have r2 := hy.r
  have e1 := atP_len x t
  have e2 := atP_len y t
  unfold F_clockworklaw54_differ difB diffT
  rw [at_ref sx, bnd_mk, at_ref sy, bnd_mk]
  cases ((atP x t).2 == 0 && (atP y t).2 == 0) with
  | false => rfl
  | true => rw [show (true == true) = true from rfl, gcall_t, same06 (by omega) (by omega), bnd_mk]

theorem before_eq {x y : TStore} (hx : Few x) (hy : Few y) (sx : StOk x) (sy : StOk y) {rows : List TRow} (hr : rows.length ≤ 40) (hv : ∀ r ∈ rows, r.Vers.length ≤ 40) (t : Int) :
    F_clockworklaw54_before rows x y t = some (rows.any fun r => r.Vers.any fun u => decide (u.At < t) && difB x y u.At) := by
  have inner : ∀ (q : Nat) (hq : q < rows.length) (J : Option Bool), F_clockworklaw54_before_L2 (q : Int) rows t x y J 1000000 0 = cond (rows[q].Vers.any fun u => decide (u.At < t) && difB x y u.At) (some true) J := by
    intro q hq J
    have hl := hv _ (List.getElem_mem hq)
    refine loopAny0 (l := rows[q].Vers) (by omega) (L := fun n i => F_clockworklaw54_before_L2 (q : Int) rows t x y J n i) (q := fun u => decide (u.At < t) && difB x y u.At) (E := some true) (J := J) (by omega) (fun n i hi => ?_) (fun n => ?_)
    · try dsimp only
      rw [F_clockworklaw54_before_L2, req_pos (by omega), atI_nat hq, decide_eq_true (p := (i : Int) < ((rows[q].Vers.length : Nat) : Int)) (by omega), cond_true, req_pos (by omega), req_pos (by omega), atI_nat hi]
      cases hc : decide (rows[q].Vers[i].At < t) with
      | false => rfl
      | true => rw [show (true == true) = true from rfl, gcall_t, differ_eq hx hy sx sy, bnd_mk]
    · try dsimp only
      rw [F_clockworklaw54_before_L2, req_pos (by omega), atI_nat hq, decide_eq_false (by omega), cond_false]
  unfold F_clockworklaw54_before
  rw [jn_mk]
  refine (loopAny0 (l := rows) (by omega) (L := fun n i => F_clockworklaw54_before_L1 rows t x y (some false) n i) (q := fun r => r.Vers.any fun u => decide (u.At < t) && difB x y u.At) (E := some true) (J := some false) (by omega) (fun n i hi => ?_) (fun n => ?_)).trans ?_
  · try dsimp only
    rw [F_clockworklaw54_before_L1, decide_eq_true (by omega), cond_true, jn_mk, inner i hi]
  · try dsimp only
    rw [F_clockworklaw54_before_L1, decide_eq_false (by omega), cond_false]
  · cases (rows.any fun r => r.Vers.any fun u => decide (u.At < t) && difB x y u.At) <;> rfl

theorem fnd_spec (D : Int → Bool) : ∀ l : List Int, (∃ pre t suf, l = pre ++ t :: suf ∧ D t = true ∧ (∀ p ∈ pre, D p = false) ∧ fnd D l = (t, 0)) ∨ ((∀ t ∈ l, D t = false) ∧ fnd D l = (0, 9))
  | [] => .inr ⟨by simp, rfl⟩
  | t :: l => by
    cases h : D t with
    | true => exact .inl ⟨[], t, l, rfl, h, by simp, by rw [fnd, h]; rfl⟩
    | false =>
      rcases fnd_spec D l with ⟨pre, u, suf, h1, h2, h3, h4⟩ | ⟨h1, h2⟩
      · refine .inl ⟨t :: pre, u, suf, by rw [h1]; rfl, h2, fun p hp => ?_, by rw [fnd, h]; exact h4⟩
        rcases List.mem_cons.1 hp with rfl | hp
        · exact h
        · exact h3 p hp
      · refine .inr ⟨fun p hp => ?_, by rw [fnd, h]; exact h2⟩
        rcases List.mem_cons.1 hp with rfl | hp
        · exact h
        · exact h1 p hp

theorem last_le (t : Int) : ∀ (l : List Int), (∃ e ∈ l, e ≤ t) → ∃ p ∈ l, p ≤ t ∧ ∀ q ∈ l, q ≤ t → q ≤ p
  | [], ⟨e, he, _⟩ => by cases he
  | a :: l, ⟨e, he, het⟩ => by
    by_cases h : ∃ e ∈ l, e ≤ t
    · obtain ⟨p, p1, p2, p3⟩ := last_le t l h
      by_cases ha : a ≤ t ∧ p < a
      · refine ⟨a, List.mem_cons_self, ha.1, fun q hq hqt => ?_⟩
        rcases List.mem_cons.1 hq with rfl | hq
        · exact Int.le_refl _
        · have := p3 q hq hqt; omega
      · refine ⟨p, List.mem_cons_of_mem _ p1, p2, fun q hq hqt => ?_⟩
        rcases List.mem_cons.1 hq with rfl | hq
        · omega
        · exact p3 q hq hqt
    · rcases List.mem_cons.1 he with rfl | he
      · refine ⟨e, List.mem_cons_self, het, fun q hq hqt => ?_⟩
        rcases List.mem_cons.1 hq with rfl | hq
        · exact Int.le_refl _
        · exact absurd ⟨q, hq, hqt⟩ h
      · exact absurd ⟨e, he, het⟩ h

theorem seen_same {r : TRow} {p t : Int} (h : ∀ u ∈ r.Vers, ¬(p < u.At ∧ u.At ≤ t)) (hpt : p ≤ t) : seenV r p = seenV r t := by
  unfold seenV
  have : ∀ (l : List TVersion) (d : TValue), (∀ u ∈ l, ¬(p < u.At ∧ u.At ≤ t)) → l.foldl (seenF p) d = l.foldl (seenF t) d := by
    intro l
    induction l with
    | nil => intro d _; rfl
    | cons u l ih =>
      intro d hl
      have hu := hl u List.mem_cons_self
      have hs : seenF p d u = seenF t d u := by
        unfold seenF
        by_cases e : u.At ≤ p
        · rw [if_pos e, if_pos (by omega)]
        · rw [if_neg e, if_neg (by omega)]
      rw [List.foldl_cons, List.foldl_cons, hs]
      exact ih _ fun v hv => hl v (List.mem_cons_of_mem _ hv)
  exact this _ _ h

theorem stat_same {s : TStore} {p t : Int} (h : ∀ r ∈ s.Rows, ∀ u ∈ r.Vers, ¬(p < u.At ∧ u.At ≤ t)) (hpt : p ≤ t) : statP s p = statP s t := by
  unfold statP
  have : ∀ l : List TRow, (∀ r ∈ l, seenV r p = seenV r t) → (l.filterMap fun r => if (seenV r p).Kind = 0 then none else some (⟨r.Key, seenV r p⟩ : TPair)) = l.filterMap fun r => if (seenV r t).Kind = 0 then none else some (⟨r.Key, seenV r t⟩ : TPair) := by
    intro l
    induction l with
    | nil => intro _; rfl
    | cons r l ih =>
      intro hl
      rw [List.filterMap_cons, List.filterMap_cons, hl r List.mem_cons_self, ih fun x hx => hl x (List.mem_cons_of_mem _ hx)]
  exact this _ fun r hr => seen_same (h r hr) hpt

theorem atP_in {s : TStore} (hv : storeB s = true) {t : Int} (h : s.Floor ≤ t ∧ t ≤ s.Last) : atP s t = (statP s t, 0) := by
  unfold atP
  rw [hv, show (decide (t < s.Floor) || decide (s.Last < t)) = false by simp; omega]; rfl

theorem atP_out {s : TStore} (hv : storeB s = true) {t : Int} (h : ¬(s.Floor ≤ t ∧ t ≤ s.Last)) : atP s t = ([], 15) := by
  unfold atP
  rw [hv, show (decide (t < s.Floor) || decide (s.Last < t)) = true by simp only [Bool.or_eq_true, decide_eq_true_eq]; omega]; rfl

theorem dif_turn {x y : TStore} (vx : storeB x = true) (vy : storeB y = true) {lo hi : Int} (hlo : max x.Floor y.Floor = lo) (hhi : min x.Last y.Last = hi) (t : Int) :
    difB x y t = false ∨ (lo ≤ t ∧ t ≤ hi ∧ difB x y t = diffT x y t ∧ ∃ p ∈ turnL lo hi x y, p ≤ t ∧ diffT x y t = diffT x y p) := by
  by_cases hx : x.Floor ≤ t ∧ t ≤ x.Last
  · by_cases hy : y.Floor ≤ t ∧ t ≤ y.Last
    · right
      refine ⟨by omega, by omega, ?_, ?_⟩
      · unfold difB; rw [atP_in vx hx, atP_in vy hy]; rfl
      · obtain ⟨p, p1, p2, p3⟩ := last_le t (turnL lo hi x y) ⟨lo, turn_mem.2 (.inl rfl), by omega⟩
        have hp : lo ≤ p := by
          have := p3 lo (turn_mem.2 (.inl rfl)) (by omega); exact this
        have no : ∀ a ∈ ats x y, ¬(p < a ∧ a ≤ t) := fun a ha hc => by
          have := p3 a (turn_mem.2 (.inr ⟨ha, by omega, by omega⟩)) hc.2
          omega
        have nx : ∀ r ∈ x.Rows, ∀ u ∈ r.Vers, ¬(p < u.At ∧ u.At ≤ t) := fun r hr u hu => no u.At (List.mem_flatMap.2 ⟨r, List.mem_append.2 (.inl hr), List.mem_map.2 ⟨u, hu, rfl⟩⟩)
        have ny : ∀ r ∈ y.Rows, ∀ u ∈ r.Vers, ¬(p < u.At ∧ u.At ≤ t) := fun r hr u hu => no u.At (List.mem_flatMap.2 ⟨r, List.mem_append.2 (.inr hr), List.mem_map.2 ⟨u, hu, rfl⟩⟩)
        refine ⟨p, p1, p2, ?_⟩
        unfold diffT
        rw [atP_in vx hx, atP_in vy hy, atP_in vx (t := p) (by omega), atP_in vy (t := p) (by omega), stat_same nx p2, stat_same ny p2]
    · left; unfold difB; rw [atP_out vy hy]; simp
  · left; unfold difB; rw [atP_out vx hx]; simp

theorem before_none {x y : TStore} {rows : List TRow} {t : Int} (h : ∀ s, s < t → difB x y s = false) : (rows.any fun r => r.Vers.any fun u => decide (u.At < t) && difB x y u.At) = false := by
  rw [List.any_eq_false]
  intro r _ e
  obtain ⟨u, _, hu⟩ := List.any_eq_true.1 e
  rw [Bool.and_eq_true, decide_eq_true_eq] at hu
  rw [h _ hu.1] at hu
  exact absurd hu.2 (by simp)

theorem plain_VerifyEarliest (x0 : TStore) (x1 : TStore) (o0 : okTStore x0) (o1 : okTStore x1) : F_clockworklaw54_VerifyEarliest x0 x1 = some true := by
  have l0 := o0.2.2.1
  have l1 := o1.2.2.1
  unfold F_clockworklaw54_VerifyEarliest
  rw [works_t, few_eq (by omega), bnd_mk]
  cases f0 : fewB x0 with
  | false => simp [gcall, bnd]
  | true =>
    rw [show ((!true) == false) = true from rfl, gcall_t, few_eq (by omega), bnd_mk]
    cases f1 : fewB x1 with
    | false => simp [gcall, bnd]
    | true =>
      have g0 := few_of f0
      have g1 := few_of f1
      have s0 := ok_st o0 g0
      have s1 := ok_st o1 g1
      rw [show (((!true) || (!true)) == false) = true from rfl, gcall_t, mvalid_ref s0, bnd_mk]
      cases v0 : storeB x0 with
      | false => simp [gcall, bnd]
      | true =>
        rw [show ((((!true) || (!true)) || (!true)) == false) = true from rfl, gcall_t, mvalid_ref s1, bnd_mk]
        cases v1 : storeB x1 with
        | false => rfl
        | true =>
          rw [show ((((!true) || (!true)) || (!true)) || (!true)) = false from rfl, cond_false, stores_impl g0 g1 s0 s1, bnd_mk, storesP, v0, v1, show ((!true) || (!true)) = false from rfl, cond_false]
          have hdt := fun t => dif_turn v0 v1 (lo := max x0.Floor x1.Floor) (hi := min x0.Last x1.Last) rfl rfl t
          have hb := (store_rows v0).1
          obtain ⟨lo, hlo⟩ : ∃ lo, max x0.Floor x1.Floor = lo := ⟨_, rfl⟩
          obtain ⟨hi, hhi⟩ : ∃ hi, min x0.Last x1.Last = hi := ⟨_, rfl⟩
          have bf0 := fun t => before_eq g0 g1 s0 s1 g0.r g0.v t
          have bf1 := fun t => before_eq g0 g1 s0 s1 g1.r g1.v t
          have dfe := fun t => differ_eq g0 g1 s0 s1 t
          rw [hlo, hhi] at hdt ⊢
          have hasc := turn_asc lo hi x0 x1
          have hmem := fun u => turn_mem (lo := lo) (hi := hi) (x := x0) (y := x1) (t := u)
          by_cases hw : hi < lo
          · rw [decide_eq_true hw, cond_true, cond_true]; rfl
          · rw [decide_eq_false hw, cond_false, cond_false]
            rcases fnd_spec (diffT x0 x1) (turnL lo hi x0 x1) with ⟨pre, t, suf, hT, h2, h3, h4⟩ | ⟨h1, h2⟩
            · rw [h4]
              rw [hT] at hasc
              obtain ⟨p1, p2, p3⟩ := List.pairwise_append.1 hasc
              obtain ⟨p4, _⟩ := List.pairwise_cons.1 p2
              have ht : lo ≤ t ∧ t ≤ hi := by
                rcases (hmem t).1 (by rw [hT]; simp) with h | h <;> omega
              have early : ∀ s, s < t → difB x0 x1 s = false := fun s hs => by
                rcases hdt s with h | ⟨_, _, h5, p, hp, hps, h6⟩
                · exact h
                · rw [h5, h6]
                  rw [hT] at hp
                  rcases List.mem_append.1 hp with h | h
                  · exact h3 p h
                  · rcases List.mem_cons.1 h with h | h
                    · omega
                    · have := p4 p h; omega
              have hdt' : difB x0 x1 t = true := by
                unfold difB
                rw [atP_in v0 (by omega), atP_in v1 (by omega), h2]; rfl
              have hwp : IntKind.i64.wrap (t - 1) = t - 1 := w64 (by omega) (by omega)
              show cond ((0 : Int) == 0) _ _ = _
              rw [show ((0 : Int) == 0) = true from rfl, cond_true]
              try dsimp only
              rw [decide_eq_true ht.1, decide_eq_true ht.2, show (true && true) = true from rfl, show (true == true) = true from rfl, gcall_t, dfe, hdt', bnd_mk, hwp, bf0, bf1, before_none early, before_none early, dfe, dfe, early (t - 1) (by omega)]
              by_cases htl : t = lo
              · rw [show (t == lo) = true by simp [htl]]; rfl
              · rw [show (t == lo) = false by simp [htl], early lo (by omega)]; rfl
            · rw [h2]
              have never : ∀ s, difB x0 x1 s = false := fun s => by
                rcases hdt s with h | ⟨_, _, h5, p, hp, hps, h6⟩
                · exact h
                · rw [h5, h6]; exact h1 p hp
              show cond ((9 : Int) == 0) _ _ = _
              rw [show ((9 : Int) == 0) = false from rfl, cond_false]
              try dsimp only
              rw [dfe, dfe, never, never, bf0, bf1, before_none fun s _ => never s, before_none fun s _ => never s]
              rfl

end Go.Proofs.YtonijgmopcmldaaGreat
