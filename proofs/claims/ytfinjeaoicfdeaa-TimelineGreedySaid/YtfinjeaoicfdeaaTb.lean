/-
  CHAPTER 28, PLAIN: the schedules of the timeline and of its reference, closed (part b).
  Conditions: none.
-/
import Derived.Test.YtfinjeaoicfdeaaTa
namespace Go.Proofs.Ytfinjeaoicfdeaa
open Go.ChangeShapes

/-- When a piece of work can begin that waits for the work this row names. -/
def startOf (sp : List TSpan) (row : List Int) (s0 : Int) : Int := row.foldl (fun s d => max s (atI sp d).End) s0

def pickS (fr : List Int) : Nat → Int
  | 0 => 0
  | k + 1 => if atI fr (k : Int) < atI fr (pickS fr k) then (k : Int) else pickS fr k

theorem pickS_bd (fr : List Int) : ∀ k, 0 ≤ pickS fr k ∧ (pickS fr k < (k : Int) ∨ pickS fr k = 0)
  | 0 => ⟨by simp [pickS], Or.inr rfl⟩
  | k + 1 => by
    have h := pickS_bd fr k
    simp only [pickS]
    split <;> omega

theorem atI_app {α : Type} [Inhabited α] {l m : List α} {i : Int} (h : i.toNat < l.length) : atI (l ++ m) i = atI l i := by
  simp [atI, List.getD_eq_getElem?_getD, List.getElem?_append_left h]

theorem pickS_app (fr rest : List Int) : ∀ k, k ≤ fr.length → 0 < fr.length → pickS (fr ++ rest) k = pickS fr k
  | 0, _, _ => rfl
  | k + 1, h, h0 => by
    have h2 := pickS_bd fr k
    simp only [pickS]
    rw [pickS_app fr rest k (by omega) h0, atI_app (by omega), atI_app (by omega)]

/-- The list schedule, step by step: the free times and the spans. -/
def limS (rows : List (List Int)) (costs : List Int) (w : Nat) : Nat → List Int × List TSpan
  | 0 => (List.replicate w 0, [])
  | i + 1 => ((limS rows costs w i).1.set (pickS (limS rows costs w i).1 w).toNat (IntKind.i64.wrap (startOf (limS rows costs w i).2 (atI rows (i : Int)) (atI (limS rows costs w i).1 (pickS (limS rows costs w i).1 w)) + atI costs (i : Int))),
      (limS rows costs w i).2 ++ [⟨(i : Int), pickS (limS rows costs w i).1 w, startOf (limS rows costs w i).2 (atI rows (i : Int)) (atI (limS rows costs w i).1 (pickS (limS rows costs w i).1 w)), IntKind.i64.wrap (startOf (limS rows costs w i).2 (atI rows (i : Int)) (atI (limS rows costs w i).1 (pickS (limS rows costs w i).1 w)) + atI costs (i : Int))⟩])

theorem limS_len (rows : List (List Int)) (costs : List Int) (w : Nat) : ∀ i, (limS rows costs w i).1.length = w ∧ (limS rows costs w i).2.length = i
  | 0 => by simp [limS]
  | i + 1 => by
    have h := limS_len rows costs w i
    simp [limS, h.1, h.2]

theorem rows_lt {rows : List (List Int)} (h : rowsB rows = true) {i : Nat} (hi : i < rows.length) : ∀ d ∈ atI rows (i : Int), 0 ≤ d ∧ d < (i : Int) := by
  intro d hd
  simp only [rowsB, Bool.not_eq_true', List.any_eq_false, List.mem_range, Bool.or_eq_true, decide_eq_true_eq] at h
  have h2 : ¬ ((atI rows (i : Int)).any fun d => decide (d < 0) || decide ((i : Int) ≤ d)) = true := by simpa using h i hi
  have h3 : ¬ ((decide (d < 0) || decide ((i : Int) ≤ d)) = true) := fun h' => h2 (List.any_eq_true.2 ⟨d, hd, h'⟩)
  simp only [Bool.or_eq_true, decide_eq_true_eq] at h3
  omega

theorem lim2_impl {rows : List (List Int)} {i : Int} {sp : List TSpan} {J : Int → Option (List TSpan × Int)} {s0 : Int} {n : Nat} (hl : (atI rows i).length < big) (hn : (atI rows i).length < n)
    (h : ∀ d ∈ atI rows i, 0 ≤ d ∧ d < (sp.length : Int)) : F_timeline_Limited_L2 rows i sp J n s0 0 = J (startOf sp (atI rows i) s0) := by
  refine loopSeq (L := fun n s k => F_timeline_Limited_L2 rows i sp J n s k) (S := fun k => startOf sp ((atI rows i).take k) s0) (J := J) hl ?_ ?_ n 0 (by omega) (by omega) |>.trans ?_
  · intro n k hk
    have hb := h _ (List.getElem_mem hk)
    try dsimp only
    rw [F_timeline_Limited_L2, startOf, startOf, foldl_take_succ _ _ _ _ hk]
    simp only [show ((k : Int) < ((atI rows i).length : Int)) by omega, decide_true, cond_true, show 0 ≤ (k : Int) by omega, true_and, req_t, atI_nat hk, hb.1, hb.2]
  · intro n
    try dsimp only
    rw [F_timeline_Limited_L2]
    simp
  · simp

theorem lim2_ref {rows : List (List Int)} {i : Nat} {sp : List TSpan} {J : Int → Option (List TSpan × Int)} {s0 : Int} {n : Nat} (hi : i < rows.length) (hl : (atI rows i).length < big) (hn : (atI rows i).length < n)
    (h : ∀ d ∈ atI rows i, 0 ≤ d ∧ d < (sp.length : Int)) : F_clockworkref28_Limited_L2 i rows sp J n s0 0 = J (startOf sp (atI rows i) s0) := by
  refine loopSeq (L := fun n s k => F_clockworkref28_Limited_L2 i rows sp J n s k) (S := fun k => startOf sp ((atI rows i).take k) s0) (J := J) hl ?_ ?_ n 0 (by omega) (by omega) |>.trans ?_
  · intro n k hk
    have hb := h _ (List.getElem_mem hk)
    try dsimp only
    rw [F_clockworkref28_Limited_L2, startOf, startOf, foldl_take_succ _ _ _ _ hk]
    simp only [show ((i : Int) < (rows.length : Int)) by omega, show 0 ≤ (i : Int) by omega, show ((k : Int) < ((atI rows i).length : Int)) by omega, decide_true, cond_true, show 0 ≤ (k : Int) by omega, true_and, req_t, atI_nat hk, hb.1, hb.2]
  · intro n
    try dsimp only
    rw [F_clockworkref28_Limited_L2]
    simp [hi]
  · simp

theorem lim3_impl {w : Nat} {fr : List Int} {J : Int → Option (List TSpan × Int)} {n : Nat} (h0 : 0 < w) (hw : w ≤ fr.length) (hl : w < big) (hn : w < n) :
    F_timeline_Limited_L3 (w : Int) fr J n 0 0 = J (pickS fr w) := by
  refine loopSeq (L := fun n s k => F_timeline_Limited_L3 (w : Int) fr J n s k) (S := fun k => pickS fr k) (J := J) hl ?_ ?_ n 0 (by omega) (by omega)
  · intro n k hk
    have hb := pickS_bd fr k
    try dsimp only
    rw [F_timeline_Limited_L3]
    simp only [show ((k : Int) < (w : Int)) by omega, decide_true, cond_true, show 0 ≤ (k : Int) by omega, show (k : Int) < (fr.length : Int) by omega, show 0 ≤ pickS fr k from hb.1, show pickS fr k < (fr.length : Int) by omega, true_and, req_t, jn_mk, pickS]
    by_cases h : atI fr (k : Int) < atI fr (pickS fr k) <;> simp [h]
  · intro n
    try dsimp only
    rw [F_timeline_Limited_L3]
    simp

theorem lim3_ref {w : Nat} {fr : List Int} {J : Int → Option (List TSpan × Int)} {n : Nat} (h0 : 0 < w) (hw : w ≤ fr.length) (hl : w < big) (hn : w < n) :
    F_clockworkref28_Limited_L3 (w : Int) fr J n 0 1 = J (pickS fr w) := by
  have h1 : pickS fr 1 = 0 := by simp [pickS]
  rw [← h1]
  refine loopSeq (L := fun n s k => F_clockworkref28_Limited_L3 (w : Int) fr J n s k) (S := fun k => pickS fr k) (J := J) hl ?_ ?_ n 1 (by omega) (by omega)
  · intro n k hk
    have hb := pickS_bd fr k
    try dsimp only
    rw [F_clockworkref28_Limited_L3]
    simp only [show ((k : Int) < (w : Int)) by omega, decide_true, cond_true, show 0 ≤ (k : Int) by omega, show (k : Int) < (fr.length : Int) by omega, show 0 ≤ pickS fr k from hb.1, show pickS fr k < (fr.length : Int) by omega, true_and, req_t, jn_mk, pickS]
    by_cases h : atI fr (k : Int) < atI fr (pickS fr k) <;> simp [h]
  · intro n
    try dsimp only
    rw [F_clockworkref28_Limited_L3]
    simp

def lim (rows : List (List Int)) (costs : List Int) (w : Nat) : List TSpan := (limS rows costs w rows.length).2

def limP (rows : List (List Int)) (costs : List Int) (w : Int) : List TSpan × Int := if validB rows costs w then (lim rows costs w.toNat, 0) else ([], 1)

theorem atI_set_self {l : List Int} {p e : Int} (h0 : 0 ≤ p) (h : p < (l.length : Int)) : atI (l.set p.toNat e) p = e := by
  have : p.toNat < l.length := by omega
  simp [atI, List.getD_eq_getElem?_getD, this]

theorem lim_ref {rows : List (List Int)} {costs : List Int} {w : Int} (hl : rows.length ≤ 200) (hc : costs.length < big) (hr : ∀ r ∈ rows, r.length ≤ 200) :
    F_clockworkref28_Limited rows costs w = some (limP rows costs w) := by
  unfold F_clockworkref28_Limited
  rw [valid_ref (Nat.lt_of_le_of_lt hl (by decide)) hc (fun r h => Nat.lt_of_le_of_lt (hr r h) (by decide))]
  simp only [bnd_mk, jn_mk, limP]
  cases hv : validB rows costs w with
  | false => rfl
  | true =>
    simp only [validB, costsB, Bool.and_eq_true, decide_eq_true_eq, beq_iff_eq] at hv
    obtain ⟨⟨⟨⟨⟨h1, h2⟩, h3⟩, h4⟩, h5⟩, h6⟩ := hv
    obtain ⟨w, rfl⟩ : ∃ n : Nat, w = (n : Int) := ⟨w.toNat, by omega⟩
    simp only [Bool.not_true, cond_false, show 0 ≤ (w : Int) by omega, show 8 * (w : Int).toNat ≤ 281474976710656 by omega, true_and, Int.le_refl, req_t]
    refine (loopSeq (len := rows.length) (L := fun n (s : List Int × List TSpan) i => F_clockworkref28_Limited_L1 rows costs (w : Int) (fun _ x14 => some (x14, 0)) n s.1 s.2 i) (S := fun i => limS rows costs w i) (J := fun s => some (s.2, 0)) (Nat.lt_of_le_of_lt hl (by decide)) ?_ ?_ ((rows.length : Int).toNat + 1) 0 (by omega) (by omega)).trans ?_
    · intro n i hi
      have hL := limS_len rows costs w i
      have hB := pickS_bd (limS rows costs w i).1 w
      try dsimp only
      rw [F_clockworkref28_Limited_L1]
      simp only [show ((i : Int) < (rows.length : Int)) by omega, decide_true, cond_true, jn_mk]
      rw [lim3_ref (by omega) (by omega) (Nat.lt_of_le_of_lt (show w ≤ 64 by omega) (by decide)) (by omega)]
      have hrow : (atI rows (i : Int)).length ≤ 200 := by rw [atI_nat hi]; exact hr _ (List.getElem_mem hi)
      rw [lim2_ref hi (Nat.lt_of_le_of_lt hrow (by decide)) (by omega) (fun d hd => by have := rows_lt h6 hi d hd; rw [hL.2]; exact this)]
      simp only [hL.1, hL.2, List.length_set, List.length_append, List.length_cons, List.length_nil, show ((i : Int) < (costs.length : Int)) by omega, show 0 ≤ (i : Int) by omega, hB.1, show pickS (limS rows costs w i).1 w < (w : Int) by omega, true_and, req_t, show (i + (0 + 1)) * 32 ≤ 140737488355328 by omega]
      rw [atI_set_self hB.1 (by rw [hL.1]; omega)]
      rfl
    · intro n
      try dsimp only
      rw [F_clockworkref28_Limited_L1]
      simp
    · rfl

theorem lim_impl {rows : List (List Int)} {costs : List Int} {w : Int} (hl : rows.length ≤ 200) (hc : costs.length < big) (hr : ∀ r ∈ rows, r.length ≤ 200) :
    F_timeline_Limited rows costs w = some (limP rows costs w) := by
  unfold F_timeline_Limited
  rw [valid_impl (Nat.lt_of_le_of_lt hl (by decide)) hc (fun r h => Nat.lt_of_le_of_lt (hr r h) (by decide))]
  simp only [bnd_mk, jn_mk, limP]
  cases hv : validB rows costs w with
  | false => rfl
  | true =>
    simp only [validB, costsB, Bool.and_eq_true, decide_eq_true_eq, beq_iff_eq] at hv
    obtain ⟨⟨⟨⟨⟨h1, h2⟩, h3⟩, h4⟩, h5⟩, h6⟩ := hv
    obtain ⟨w, rfl⟩ : ∃ n : Nat, w = (n : Int) := ⟨w.toNat, by omega⟩
    simp only [Bool.not_true, cond_false]
    have e0 : List.replicate 64 (0 : Int) = (limS rows costs w 0).1 ++ List.replicate (64 - w) 0 := by
      simp only [limS, List.replicate_append_replicate]; congr 1; omega
    rw [e0]
    refine (loopSeq (len := rows.length) (L := fun n (s : List Int × List TSpan) i => F_timeline_Limited_L1 rows costs (w : Int) (fun _ x14 => some (x14, 0)) n s.1 s.2 i) (S := fun i => ((limS rows costs w i).1 ++ List.replicate (64 - w) 0, (limS rows costs w i).2)) (J := fun s => some (s.2, 0)) (Nat.lt_of_le_of_lt hl (by decide)) ?_ ?_ ((rows.length : Int).toNat + 1) 0 (by omega) (by omega)).trans ?_
    · intro n i hi
      have hL := limS_len rows costs w i
      have hB := pickS_bd (limS rows costs w i).1 w
      try dsimp only
      rw [F_timeline_Limited_L1]
      simp only [show ((i : Int) < (rows.length : Int)) by omega, decide_true, cond_true, jn_mk]
      rw [lim3_impl (by omega) (by simp [hL.1]) (Nat.lt_of_le_of_lt (show w ≤ 64 by omega) (by decide)) (by omega)]
      rw [pickS_app _ _ w (by omega) (by omega)]
      have hrow : (atI rows (i : Int)).length ≤ 200 := by rw [atI_nat hi]; exact hr _ (List.getElem_mem hi)
      rw [lim2_impl (Nat.lt_of_le_of_lt hrow (by decide)) (by omega) (fun d hd => by have := rows_lt h6 hi d hd; rw [hL.2]; exact this)]
      rw [atI_app (by rw [hL.1]; omega), List.set_append_left _ _ (by rw [hL.1]; omega)]
      simp only [hL.1, hL.2, List.length_append, List.length_replicate, List.length_cons, List.length_nil, show ((i : Int) < (costs.length : Int)) by omega, show 0 ≤ (i : Int) by omega, hB.1, show pickS (limS rows costs w i).1 w < ((w + (64 - w) : Nat) : Int) by omega, true_and, req_t, show (i + (0 + 1)) * 32 ≤ 140737488355328 by omega]
      rfl
    · intro n
      try dsimp only
      rw [F_timeline_Limited_L1]
      simp
    · rfl

theorem plain_TimelineLimits (x0 : List (List Int)) (x1 : List Int) (x2 : Int) (x3 : List TSpan) (o0 : (okL (okL (okI .i64))) x0) (o1 : (okL (okI .i64)) x1) (o2 : (okI .i64) x2) (o3 : (okL okTSpan) x3) : F_clockworklaw28_TimelineLimits x0 x1 x2 x3 = some true := by
  unfold F_clockworklaw28_TimelineLimits
  have h0 : x0.length < big := Nat.lt_succ_of_le o0.1
  · rw [few_ref h0, bnd_mk]
    cases hf : fewB x0 with
    | false => simp [lives_true]
    | true =>
      obtain ⟨hl, hr⟩ := few_len hf
      by_cases h1 : 200 < (x1.length : Int)
      · simp [h1, lives_true]
      by_cases h2 : 200 < (x3.length : Int)
      · simp [h2, lives_true]
      have hb1 : x1.length < big := by simp only [big]; omega
      have hb3 : x3.length < big := by simp only [big]; omega
      have hr' : ∀ r ∈ x0, r.length ≤ 200 := fun r h => Nat.le_trans (hr r h) (by decide)
      rw [lim_impl hl hb1 hr', lim_ref hl hb1 hr', mk_impl hb3, mk_ref hb3, lives_true]
      have hS : (limP x0 x1 x2).1.length < big := by
        unfold limP
        split
        · rw [lim, (limS_len _ _ _ _).2]; exact Nat.lt_of_le_of_lt hl (by decide)
        · decide
      simp [h1, h2, same_self hS]

end Go.Proofs.Ytfinjeaoicfdeaa
