/-
  CHAPTER 28, PLAIN: the list schedule is sound and not wasteful (part i).
  Conditions: none.
-/
import Derived.Test.YtfinjeaoicfdeaaTh
namespace Go.Proofs.Ytfinjeaoicfdeaa
open Go.ChangeShapes

def sumC (costs : List Int) : Nat → Int
  | 0 => 0
  | i + 1 => sumC costs i + atI costs (i : Int)

/-- One span of the list schedule. -/
def lSpan (rows : List (List Int)) (costs : List Int) (w i : Nat) : TSpan :=
  ⟨(i : Int), pickS (limS rows costs w i).1 w, startOf (limS rows costs w i).2 (atI rows (i : Int)) (atI (limS rows costs w i).1 (pickS (limS rows costs w i).1 w)), IntKind.i64.wrap (startOf (limS rows costs w i).2 (atI rows (i : Int)) (atI (limS rows costs w i).1 (pickS (limS rows costs w i).1 w)) + atI costs (i : Int))⟩

theorem limS_snd (rows : List (List Int)) (costs : List Int) (w i : Nat) : (limS rows costs w (i + 1)).2 = (limS rows costs w i).2 ++ [lSpan rows costs w i] := rfl
theorem limS_fst (rows : List (List Int)) (costs : List Int) (w i : Nat) : (limS rows costs w (i + 1)).1 = (limS rows costs w i).1.set (lSpan rows costs w i).Worker.toNat (lSpan rows costs w i).End := rfl

theorem limS_at (rows : List (List Int)) (costs : List Int) (w : Nat) : ∀ n i, i < n → atI (limS rows costs w n).2 (i : Int) = lSpan rows costs w i
  | 0, i, h => by omega
  | n + 1, i, h => by
    rcases Nat.lt_or_ge i n with h' | h'
    · rw [limS_snd, atI_app (by rw [(limS_len _ _ _ _).2]; omega), limS_at rows costs w n i h']
    · have : i = n := by omega
      subst this
      rw [limS_snd, atI_last (limS_len _ _ _ _).2]

theorem sum_set : ∀ (l : List Int) (p : Nat) (e : Int), p < l.length → (l.set p e).sum = l.sum - atI l (p : Int) + e
  | [], p, e, h => by simp at h
  | x :: l, 0, e, _ => by rw [atI_nat (by simp)]; simp; omega
  | x :: l, p + 1, e, h => by
    have h' : p < l.length := by simpa using h
    have ih := sum_set l p e h'
    rw [atI_nat h'] at ih
    rw [atI_nat h]
    simp only [List.set_cons_succ, List.sum_cons, List.getElem_cons_succ, ih]
    omega

theorem sum_le {M : Int} : ∀ (l : List Int), (∀ x ∈ l, x ≤ M) → l.sum ≤ l.length * M
  | [], _ => by simp
  | x :: l, h => by
    have ih := sum_le l (fun y hy => h y (List.mem_cons_of_mem _ hy))
    have hx := h x List.mem_cons_self
    rw [List.sum_cons, List.length_cons, show ((l.length + 1 : Nat) : Int) = (l.length : Int) + 1 by omega, Int.add_mul, Int.one_mul]
    omega

theorem sum_rep : ∀ n, (List.replicate n (0 : Int)).sum = 0
  | 0 => rfl
  | n + 1 => by rw [List.replicate_succ, List.sum_cons, sum_rep n]; rfl

theorem mkspan_app (l : List TSpan) (x : TSpan) : mkspan (l ++ [x]) = max (mkspan l) x.End := by simp [mkspan]

structure LimOk (rows : List (List Int)) (costs : List Int) (w i : Nat) : Prop where
  free : ∀ k : Nat, k < w → 0 ≤ atI (limS rows costs w i).1 (k : Int) ∧ atI (limS rows costs w i).1 (k : Int) ≤ sumC costs i ∧ atI (limS rows costs w i).1 (k : Int) ≤ mkspan (limS rows costs w i).2
  span : ∀ k, k < i → 0 ≤ (lSpan rows costs w k).Start ∧ (lSpan rows costs w k).End = (lSpan rows costs w k).Start + atI costs (k : Int) ∧ (lSpan rows costs w k).End ≤ sumC costs i ∧
    0 ≤ (lSpan rows costs w k).Worker ∧ (lSpan rows costs w k).Worker < (w : Int) ∧ (lSpan rows costs w k).End ≤ atI (limS rows costs w i).1 (lSpan rows costs w k).Worker
  deps : ∀ k, k < i → ∀ d ∈ atI rows (k : Int), (lSpan rows costs w d.toNat).End ≤ (lSpan rows costs w k).Start
  laps : ∀ k, k < i → ∀ m, m < k → (lSpan rows costs w k).Worker = (lSpan rows costs w m).Worker → (lSpan rows costs w m).End ≤ (lSpan rows costs w k).Start
  work : sumC costs i ≤ (limS rows costs w i).1.sum
  all : 0 ≤ sumC costs i ∧ sumC costs i ≤ 1000 * (i : Int)

theorem limOk {rows : List (List Int)} {costs : List Int} {w n : Nat} (hw : 1 ≤ w) (hn : n ≤ 200) (hv : ∀ i, i < n → ∀ d ∈ atI rows (i : Int), 0 ≤ d ∧ d < (i : Int)) (hc : ∀ i : Nat, i < n → 1 ≤ atI costs (i : Int) ∧ atI costs (i : Int) ≤ 1000) :
    ∀ i, i ≤ n → LimOk rows costs w i
  | 0, _ => by
    have hz : ∀ k : Nat, k < w → atI (limS rows costs w 0).1 (k : Int) = 0 := fun k hk => by
      simp only [limS]; rw [atI_nat (by simpa using hk)]; simp
    refine ⟨fun k hk => ?_, fun k hk => by omega, fun k hk => by omega, fun k hk => by omega, ?_, ?_⟩
    · rw [hz k hk]; simp [sumC, mkspan, limS]
    · simp [sumC, limS, sum_rep]
    · simp [sumC]
  | i + 1, hi => by
    have IH := limOk hw hn hv hc i (by omega)
    have hL := limS_len rows costs w i
    have hb := pickS_bd (limS rows costs w i).1 w
    have hp0 : 0 ≤ (lSpan rows costs w i).Worker := hb.1
    have hpw : (lSpan rows costs w i).Worker < (w : Int) := by show pickS _ _ < _; omega
    obtain ⟨p, hp⟩ : ∃ p : Nat, (lSpan rows costs w i).Worker = (p : Int) := ⟨(lSpan rows costs w i).Worker.toNat, by omega⟩
    have hpw' : p < w := by omega
    obtain ⟨q1, q2, q3⟩ := IH.free p hpw'
    have hci := hc i (by omega)
    have hall := IH.all
    have hS0 : atI (limS rows costs w i).1 (p : Int) ≤ (lSpan rows costs w i).Start := by
      have := (startOf_ge (limS rows costs w i).2 (atI rows (i : Int)) (atI (limS rows costs w i).1 (pickS (limS rows costs w i).1 w))).1
      rw [← hp]; exact this
    have hSd : ∀ d ∈ atI rows (i : Int), (lSpan rows costs w d.toNat).End ≤ (lSpan rows costs w i).Start := by
      intro d hd
      have := (startOf_ge (limS rows costs w i).2 (atI rows (i : Int)) (atI (limS rows costs w i).1 (pickS (limS rows costs w i).1 w))).2 d hd
      have hd' := hv i (by omega) d hd
      rw [show d = ((d.toNat : Nat) : Int) by omega, limS_at _ _ _ _ _ (by omega)] at this
      exact this
    have hS1 : (lSpan rows costs w i).Start ≤ sumC costs i := by
      show startOf _ _ _ ≤ _
      rw [startOf_le]
      refine ⟨?_, fun d hd => ?_⟩
      · show atI (limS rows costs w i).1 (lSpan rows costs w i).Worker ≤ _
        rw [hp]; exact q2
      · have hd' := hv i (by omega) d hd
        rw [show d = ((d.toNat : Nat) : Int) by omega, limS_at _ _ _ _ _ (by omega)]
        exact (IH.span d.toNat (by omega)).2.2.1
    have hE : (lSpan rows costs w i).End = (lSpan rows costs w i).Start + atI costs (i : Int) :=
      w64 (n := (lSpan rows costs w i).Start + atI costs (i : Int)) (by omega) (by omega)
    have hfr : ∀ k : Nat, k < w → atI (limS rows costs w (i + 1)).1 (k : Int) = if p = k then (lSpan rows costs w i).End else atI (limS rows costs w i).1 (k : Int) := by
      intro k hk
      rw [limS_fst, atI_set (by rw [hL.1]; exact hk), hp]
      simp
    have hmk : mkspan (limS rows costs w (i + 1)).2 = max (mkspan (limS rows costs w i).2) (lSpan rows costs w i).End := by rw [limS_snd, mkspan_app]
    have hsum : sumC costs (i + 1) = sumC costs i + atI costs (i : Int) := rfl
    refine ⟨fun k hk => ?_, fun k hk => ?_, fun k hk => ?_, fun k hk => ?_, ?_, ?_⟩
    · rw [hfr k hk, hmk]
      have := IH.free k hk
      split <;> omega
    · rcases Nat.lt_or_ge k i with h | h
      · obtain ⟨a1, a2, a3, a4, a5, a6⟩ := IH.span k h
        refine ⟨a1, a2, by omega, a4, a5, ?_⟩
        obtain ⟨m, hm⟩ : ∃ m : Nat, (lSpan rows costs w k).Worker = (m : Int) := ⟨(lSpan rows costs w k).Worker.toNat, by omega⟩
        rw [hm] at a6 ⊢
        rw [hfr m (by omega)]
        split
        · rename_i e; subst e; omega
        · exact a6
      · have : k = i := by omega
        subst this
        refine ⟨by omega, hE, by omega, hp0, hpw, ?_⟩
        rw [hp, hfr p hpw', if_pos rfl]; exact Int.le_refl _
    · rcases Nat.lt_or_ge k i with h | h
      · exact IH.deps k h
      · have : k = i := by omega
        subst this
        exact hSd
    · rcases Nat.lt_or_ge k i with h | h
      · exact IH.laps k h
      · have : k = i := by omega
        subst this
        intro m hm he
        have := (IH.span m hm).2.2.2.2.2
        rw [← he, hp] at this
        omega
    · rw [limS_fst, hp, Int.toNat_natCast, sum_set _ _ _ (by rw [hL.1]; exact hpw')]
      have := IH.work
      omega
    · omega

theorem limS_txn {rows : List (List Int)} {costs : List Int} {w n : Nat} (j : Int) (hj : 0 ≤ j) : ∀ m, m ≤ n → lastIx (limS rows costs w n).2 j m = if j < (m : Int) then j else -1
  | 0, _ => by simp only [lastIx]; rw [if_neg (by omega)]
  | m + 1, hm => by
    have ht : (atI (limS rows costs w n).2 (m : Int)).Txn = (m : Int) := by rw [limS_at _ _ _ _ _ (by omega)]; rfl
    by_cases h : (m : Int) = j
    · rw [lastIx_hit (by rw [ht]; exact h), if_pos (by omega)]; exact h
    · rw [lastIx_miss (by rw [ht]; exact h), limS_txn j hj m (by omega)]
      by_cases h2 : j < (m : Int)
      · rw [if_pos h2, if_pos (by omega)]
      · rw [if_neg h2, if_neg (by omega)]

theorem chk_lim {rows : List (List Int)} {costs : List Int} {w : Nat} (hv : validB rows costs (w : Int) = true) : chk rows costs (w : Int) (lim rows costs w) = 0 := by
  obtain ⟨v1, v2, v3, v4, v5, v6⟩ := valid_facts hv
  have hr : ∀ i, i < rows.length → ∀ d ∈ atI rows (i : Int), 0 ≤ d ∧ d < (i : Int) := fun i hi => rows_lt v5 hi
  have hc : ∀ i : Nat, i < rows.length → 1 ≤ atI costs (i : Int) ∧ atI costs (i : Int) ≤ 1000 := fun i hi => v6 _ (at_mem (by omega))
  have K := limOk (w := w) (by omega) (show rows.length ≤ 200 by omega) hr hc rows.length (Nat.le_refl _)
  have hlen : (lim rows costs w).length = rows.length := (limS_len _ _ _ _).2
  have hix : ∀ j : Nat, j < rows.length → lastIx (lim rows costs w) (j : Int) rows.length = (j : Int) := fun j hj => by
    rw [lim, limS_txn (j : Int) (by omega) _ (Nat.le_refl _), if_pos (by omega)]
  have hat : ∀ i, i < rows.length → atI (lim rows costs w) (i : Int) = lSpan rows costs w i := fun i hi => limS_at _ _ _ _ _ hi
  have hpl : ∀ j : Nat, j < rows.length → atI (placeL rows.length (lim rows costs w) rows.length) (j : Int) = (j : Int) := fun j hj => by
    rw [placeL, atI_map _ (by omega) (by omega), Int.toNat_natCast, hix j hj]
  have hp : placeB rows.length (lim rows costs w) = true := by
    simp only [placeB, hlen, decide_true, Bool.true_and, Bool.not_eq_true', List.any_eq_false, List.mem_range, decide_eq_true_eq]
    intro j hj
    rw [hix j hj]; omega
  have hfit : ((lim rows costs w).any fun s => !fitB costs (w : Int) s) = false := by
    rw [List.any_eq_false]
    intro s hs
    obtain ⟨i, hi, rfl⟩ := mem_at hs
    rw [hlen] at hi
    rw [hat i hi]
    obtain ⟨a1, a2, a3, a4, a5, a6⟩ := K.span i hi
    have hci := hc i hi
    have ew : IntKind.i64.wrap ((lSpan rows costs w i).End - (lSpan rows costs w i).Start) = atI costs (i : Int) := by
      rw [a2, show (lSpan rows costs w i).Start + atI costs (i : Int) - (lSpan rows costs w i).Start = atI costs (i : Int) by omega]
      exact w64 (by omega) (by omega)
    simp only [fitB, ew, show (lSpan rows costs w i).Txn = (i : Int) from rfl, BEq.rfl, Bool.and_true, Bool.not_eq_true', Bool.not_eq_false, Bool.and_eq_true, decide_eq_true_eq]
    omega
  have hlate : ((List.range rows.length).any fun i => lateB rows (placeL rows.length (lim rows costs w) rows.length) (lim rows costs w) i) = false := by
    rw [List.any_eq_false]
    intro i hi
    have hi' : i < rows.length := by simpa using hi
    simp only [lateB, List.any_eq_true, not_exists, not_and, decide_eq_true_eq]
    intro d hd
    have hd' := hr i hi' d hd
    have := K.deps i hi' d hd
    rw [hpl i hi', hat i hi', show d = ((d.toNat : Nat) : Int) by omega, hpl d.toNat (by omega), hat d.toNat (by omega)]
    omega
  have hlap : ((List.range (lim rows costs w).length).any fun (i : Nat) => (List.range i).any fun (k : Nat) => lapB (atI (lim rows costs w) (i : Int)) (atI (lim rows costs w) (k : Int))) = false := by
    rw [List.any_eq_false]
    intro i hi
    have hi' : i < rows.length := by rw [hlen] at hi; simpa using hi
    simp only [List.any_eq_true, not_exists, not_and, List.mem_range]
    intro k hk
    rw [hat i hi', hat k (by omega)]
    have := K.laps i hi' k hk
    simp only [lapB, Bool.and_eq_true, beq_iff_eq, decide_eq_true_eq, not_and]
    intro h
    have := this h.1
    omega
  simp only [chk, hv, hp, hfit, hlate, hlap]
  simp

theorem earl_lim {rows : List (List Int)} {costs : List Int} {w n : Nat} (hw : 1 ≤ w) (hn : n ≤ 200) (hv : ∀ i, i < n → ∀ d ∈ atI rows (i : Int), 0 ≤ d ∧ d < (i : Int)) (hc : ∀ i : Nat, i < n → 1 ≤ atI costs (i : Int) ∧ atI costs (i : Int) ≤ 1000) :
    ∀ i, i < n → (eSpan rows costs i).End ≤ (lSpan rows costs w i).End := by
  intro i
  induction i using Nat.strongRecOn with
  | ind i ih =>
    intro hi
    have K := limOk hw hn hv hc n (Nat.le_refl _)
    have f1 := eSpan_facts hn hv hc i hi
    rw [f1.2.1, (K.span i hi).2.1]
    have : (eSpan rows costs i).Start ≤ (lSpan rows costs w i).Start := by
      show startOf _ _ _ ≤ _
      rw [startOf_le]
      refine ⟨(K.span i hi).1, fun d hd => ?_⟩
      have hb := hv i hi d hd
      have h2 := K.deps i hi d hd
      have := ih d.toNat (by omega) (by omega)
      rw [show d = ((d.toNat : Nat) : Int) by omega, earlS_at _ _ i _ (by omega)]
      omega
    omega

theorem plain_TimelineGreedy (x0 : List (List Int)) (x1 : List Int) (x2 : Int) (o0 : (okL (okL (okI .i64))) x0) (o1 : (okL (okI .i64)) x1) (o2 : (okI .i64) x2) : F_clockworklaw28_TimelineGreedy x0 x1 x2 = some true := by
  unfold F_clockworklaw28_TimelineGreedy
  have h0 : x0.length < big := Nat.lt_succ_of_le o0.1
  rw [few_ref h0, bnd_mk]
  cases hf : fewB x0 with
  | false => simp [lives_true]
  | true =>
    obtain ⟨hl, hr⟩ := few_len hf
    by_cases h1 : 12 < (x0.length : Int)
    · simp [h1, lives_true]
    by_cases h2 : 20 < (x1.length : Int)
    · simp [h2, lives_true]
    have hb1 : x1.length < big := by simp only [big]; omega
    have hr' : ∀ r ∈ x0, r.length ≤ 200 := fun r h => Nat.le_trans (hr r h) (by decide)
    rw [valid_ref h0 hb1 (fun r h => Nat.lt_of_le_of_lt (hr r h) (by decide)), lim_impl hl hb1 hr', lives_true]
    simp only [h1, h2, decide_false, Bool.not_true, Bool.or_false, BEq.rfl, gcall_t, bnd_mk, Bool.false_or]
    cases hv : validB x0 x1 x2 with
    | false => rfl
    | true =>
      obtain ⟨v1, v2, v3, v4, v5, v6⟩ := valid_facts hv
      obtain ⟨w, rfl⟩ : ∃ w : Nat, x2 = (w : Int) := ⟨x2.toNat, by omega⟩
      have hrr : ∀ i, i < x0.length → ∀ d ∈ atI x0 (i : Int), 0 ≤ d ∧ d < (i : Int) := fun i hi => rows_lt v5 hi
      have hc : ∀ i : Nat, i < x0.length → 1 ≤ atI x1 (i : Int) ∧ atI x1 (i : Int) ≤ 1000 := fun i hi => v6 _ (at_mem (by omega))
      have K := limOk (w := w) (by omega) (show x0.length ≤ 200 by omega) hrr hc x0.length (Nat.le_refl _)
      simp only [Bool.not_true, cond_false, limP, hv, if_true, jn_mk, Int.toNat_natCast]
      have hsum : ∀ J : Int → Option Bool, F_clockworklaw28_TimelineGreedy_L1 x1 J (x1.length + 1) 0 0 = J (sumC x1 x0.length) := by
        intro J
        rw [← v1]
        refine loopSeq (len := x1.length) hb1 (L := fun n s i => F_clockworklaw28_TimelineGreedy_L1 x1 J n s i) (S := fun i => sumC x1 i) (J := J) ?_ ?_ _ 0 (by omega) (by omega)
        · intro n i hi
          have hci := hc i (by omega)
          have ha := (limOk (w := w) (by omega) (show x0.length ≤ 200 by omega) hrr hc i (by omega)).all
          try dsimp only
          rw [F_clockworklaw28_TimelineGreedy_L1]
          simp only [show (i : Int) < (x1.length : Int) by omega, decide_true, cond_true, show 0 ≤ (i : Int) by omega, true_and, req_t, sumC]
          rw [w64 (n := sumC x1 i + atI x1 (i : Int)) (by omega) (by omega)]
        · intro n
          try dsimp only
          rw [F_clockworklaw28_TimelineGreedy_L1]
          simp
      rw [hsum]
      have hlen : (lim x0 x1 w).length = x0.length := (limS_len _ _ _ _).2
      rw [mk_impl (by rw [hlen]; exact h0), check_impl hl hb1 hr' (by rw [hlen]; exact hl), chk_lim hv, earl_ref hl v1 hr' v5]
      simp only [bnd_mk, BEq.rfl, gcall_t, Bool.and_self]
      rw [mk_impl (by rw [earlS_len]; exact h0)]
      simp only [bnd_mk]
      have hM : mkspan (lim x0 x1 w) ≤ sumC x1 x0.length := by
        rw [mkspan_le]
        refine ⟨K.all.1, fun s hs => ?_⟩
        obtain ⟨i, hi, rfl⟩ := mem_at hs
        rw [hlen] at hi
        rw [lim, limS_at _ _ _ _ _ hi]
        exact (K.span i hi).2.2.1
      have hE : mkspan (earlS x0 x1 x0.length) ≤ mkspan (lim x0 x1 w) := by
        rw [mkspan_le]
        refine ⟨(mkspan_ge _).1, fun s hs => ?_⟩
        obtain ⟨i, hi, rfl⟩ := mem_at hs
        rw [earlS_len] at hi
        rw [earlS_at _ _ _ _ hi]
        have a := earl_lim (w := w) (by omega) (show x0.length ≤ 200 by omega) hrr hc i hi
        have b := (mkspan_ge (lim x0 x1 w)).2 _ (at_mem (show i < (lim x0 x1 w).length by omega))
        rw [lim, limS_at _ _ _ _ _ hi] at b
        rw [lim]
        omega
      have hW : sumC x1 x0.length ≤ mkspan (lim x0 x1 w) * (w : Int) := by
        refine Int.le_trans K.work ?_
        have hL := (limS_len x0 x1 w x0.length).1
        have := sum_le (M := mkspan (lim x0 x1 w)) (limS x0 x1 w x0.length).1 (fun x hx => by
          obtain ⟨k, hk, rfl⟩ := mem_at hx
          rw [hL] at hk
          exact (K.free k hk).2.2)
        rw [hL, Int.mul_comm] at this
        exact this
      have hall := K.all
      have hwr : IntKind.i64.wrap (mkspan (lim x0 x1 w) * (w : Int)) = mkspan (lim x0 x1 w) * (w : Int) := by
        have a := (mkspan_ge (lim x0 x1 w)).1
        have b : mkspan (lim x0 x1 w) * (w : Int) ≤ 12000 * 64 := Int.mul_le_mul (by omega) (by omega) (by omega) (by omega)
        have c : 0 ≤ mkspan (lim x0 x1 w) * (w : Int) := Int.mul_nonneg a (by omega)
        exact w64 (by omega) (by omega)
      rw [hwr]
      simp [hM, hE, hW]

end Go.Proofs.Ytfinjeaoicfdeaa
