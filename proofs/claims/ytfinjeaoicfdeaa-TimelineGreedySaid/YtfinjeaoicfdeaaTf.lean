/-
  CHAPTER 28, PLAIN: the earliest schedule, by locks and by versions (part f).
  Conditions: none.
-/
import Derived.Test.YtfinjeaoicfdeaaTe
namespace Go.Proofs.Ytfinjeaoicfdeaa
open Go.ChangeShapes

def earlS (rows : List (List Int)) (costs : List Int) : Nat → List TSpan
  | 0 => []
  | i + 1 => earlS rows costs i ++ [⟨(i : Int), (i : Int), startOf (earlS rows costs i) (atI rows (i : Int)) 0, IntKind.i64.wrap (startOf (earlS rows costs i) (atI rows (i : Int)) 0 + atI costs (i : Int))⟩]

theorem earlS_len (rows : List (List Int)) (costs : List Int) : ∀ i, (earlS rows costs i).length = i
  | 0 => rfl
  | i + 1 => by simp [earlS, earlS_len rows costs i]

theorem earl2_impl {rows : List (List Int)} {i : Int} {sp : List TSpan} {J : Int → Option (List TSpan)} {s0 : Int} {n : Nat} (hl : (atI rows i).length < big) (hn : (atI rows i).length < n)
    (h : ∀ d ∈ atI rows i, 0 ≤ d ∧ d < (sp.length : Int)) : F_timeline_earliest_L2 rows i sp J n s0 0 = J (startOf sp (atI rows i) s0) := by
  refine loopSeq (L := fun n s k => F_timeline_earliest_L2 rows i sp J n s k) (S := fun k => startOf sp ((atI rows i).take k) s0) (J := J) hl ?_ ?_ n 0 (by omega) (by omega) |>.trans ?_
  · intro n k hk
    have hb := h _ (List.getElem_mem hk)
    try dsimp only
    rw [F_timeline_earliest_L2, startOf, startOf, foldl_take_succ _ _ _ _ hk]
    simp only [show ((k : Int) < ((atI rows i).length : Int)) by omega, decide_true, cond_true, show 0 ≤ (k : Int) by omega, true_and, req_t, atI_nat hk, hb.1, hb.2]
  · intro n
    try dsimp only
    rw [F_timeline_earliest_L2]
    simp
  · simp

theorem earl2_ref {rows : List (List Int)} {i : Nat} {sp : List TSpan} {J : Int → Option (List TSpan)} {s0 : Int} {n : Nat} (hi : i < rows.length) (hl : (atI rows i).length < big) (hn : (atI rows i).length < n)
    (h : ∀ d ∈ atI rows i, 0 ≤ d ∧ d < (sp.length : Int)) : F_clockworkref28_Earliest_L2 i rows sp J n s0 0 = J (startOf sp (atI rows i) s0) := by
  refine loopSeq (L := fun n s k => F_clockworkref28_Earliest_L2 i rows sp J n s k) (S := fun k => startOf sp ((atI rows i).take k) s0) (J := J) hl ?_ ?_ n 0 (by omega) (by omega) |>.trans ?_
  · intro n k hk
    have hb := h _ (List.getElem_mem hk)
    try dsimp only
    rw [F_clockworkref28_Earliest_L2, startOf, startOf, foldl_take_succ _ _ _ _ hk]
    simp only [show ((i : Int) < (rows.length : Int)) by omega, show 0 ≤ (i : Int) by omega, show ((k : Int) < ((atI rows i).length : Int)) by omega, decide_true, cond_true, show 0 ≤ (k : Int) by omega, true_and, req_t, atI_nat hk, hb.1, hb.2]
  · intro n
    try dsimp only
    rw [F_clockworkref28_Earliest_L2]
    simp [hi]
  · simp

theorem earl_impl {rows : List (List Int)} {costs : List Int} (hl : rows.length ≤ 200) (hc : costs.length = rows.length) (hr : ∀ r ∈ rows, r.length ≤ 200) (hv : rowsB rows = true) :
    F_timeline_earliest rows costs = some (earlS rows costs rows.length) := by
  unfold F_timeline_earliest
  simp only [Int.le_refl, show (0 : Int) ≤ (costs.length : Int) by omega, show 32 * ((costs.length : Nat) : Int).toNat ≤ 281474976710656 by omega, and_self, req_t, jn_mk]
  refine (loopSeq (len := costs.length) (L := fun n s i => F_timeline_earliest_L1 costs rows (fun x7 => some x7) n s i) (S := fun i => earlS rows costs i) (J := fun x => some x) (Nat.lt_of_le_of_lt (show costs.length ≤ 200 by omega) (by decide)) ?_ ?_ ((costs.length : Int).toNat + 1) 0 (by omega) (by omega)).trans ?_
  · intro n i hi
    try dsimp only
    rw [F_timeline_earliest_L1]
    have hrow : (atI rows (i : Int)).length ≤ 200 := by rw [atI_nat (by omega)]; exact hr _ (List.getElem_mem (by omega))
    simp only [show ((i : Int) < (costs.length : Int)) by omega, show ((i : Int) < (rows.length : Int)) by omega, decide_true, cond_true, show 0 ≤ (i : Int) by omega, true_and, req_t, jn_mk]
    rw [earl2_impl (Nat.lt_of_le_of_lt hrow (by decide)) (by omega) (fun d hd => by have := rows_lt hv (by omega) d hd; rw [earlS_len]; exact this)]
    simp only [List.length_append, earlS_len, List.length_cons, List.length_nil, show (i + (0 + 1)) * 32 ≤ 140737488355328 by omega, req_t]
    rfl
  · intro n
    try dsimp only
    rw [F_timeline_earliest_L1]
    simp
  · rw [hc]

theorem earl_ref {rows : List (List Int)} {costs : List Int} (hl : rows.length ≤ 200) (hc : costs.length = rows.length) (hr : ∀ r ∈ rows, r.length ≤ 200) (hv : rowsB rows = true) :
    F_clockworkref28_Earliest rows costs = some (earlS rows costs rows.length) := by
  unfold F_clockworkref28_Earliest
  rw [jn_mk]
  refine loopSeq (len := rows.length) (L := fun n s i => F_clockworkref28_Earliest_L1 rows costs (fun x7 => some x7) n s i) (S := fun i => earlS rows costs i) (J := fun x => some x) (Nat.lt_of_le_of_lt hl (by decide)) ?_ ?_ ((rows.length : Int).toNat + 1) 0 (by omega) (by omega)
  · intro n i hi
    try dsimp only
    rw [F_clockworkref28_Earliest_L1]
    have hrow : (atI rows (i : Int)).length ≤ 200 := by rw [atI_nat (by omega)]; exact hr _ (List.getElem_mem (by omega))
    simp only [show ((i : Int) < (rows.length : Int)) by omega, decide_true, cond_true, jn_mk]
    rw [earl2_ref hi (Nat.lt_of_le_of_lt hrow (by decide)) (by omega) (fun d hd => by have := rows_lt hv (by omega) d hd; rw [earlS_len]; exact this)]
    simp only [List.length_append, earlS_len, List.length_cons, List.length_nil, show (i + (0 + 1)) * 32 ≤ 140737488355328 by omega, show 0 ≤ (i : Int) by omega, show (i : Int) < (costs.length : Int) by omega, true_and, req_t]
    rfl
  · intro n
    try dsimp only
    rw [F_clockworkref28_Earliest_L1]
    simp

/-- Rows of the earlier work that a test picks. -/
def pickRow (p : Nat → Nat → Bool) (j : Nat) : Nat → List Int
  | 0 => []
  | k + 1 => if p k j = true then pickRow p j k ++ [(k : Int)] else pickRow p j k
def pickRows (p : Nat → Nat → Bool) : Nat → List (List Int)
  | 0 => []
  | j + 1 => pickRows p j ++ [pickRow p j j]

theorem pickRow_t {p : Nat → Nat → Bool} {j k : Nat} (h : p k j = true) : pickRow p j (k + 1) = pickRow p j k ++ [(k : Int)] := if_pos h
theorem pickRow_f {p : Nat → Nat → Bool} {j k : Nat} (h : p k j = false) : pickRow p j (k + 1) = pickRow p j k := if_neg (by rw [h]; simp)

theorem pickRow_len (p : Nat → Nat → Bool) (j : Nat) : ∀ k, (pickRow p j k).length ≤ k ∧ ∀ d ∈ pickRow p j k, 0 ≤ d ∧ d < (k : Int)
  | 0 => by simp [pickRow]
  | k + 1 => by
    obtain ⟨h1, h2⟩ := pickRow_len p j k
    simp only [pickRow]
    split
    · refine ⟨by simp; omega, fun d hd => ?_⟩
      rcases List.mem_append.1 hd with h | h
      · have := h2 d h; omega
      · simp only [List.mem_singleton] at h; omega
    · exact ⟨by omega, fun d hd => by have := h2 d hd; omega⟩

theorem pickRows_len (p : Nat → Nat → Bool) : ∀ n, (pickRows p n).length = n
  | 0 => rfl
  | n + 1 => by simp [pickRows, pickRows_len p n]

theorem pickRows_at (p : Nat → Nat → Bool) : ∀ n i, i < n → atI (pickRows p n) (i : Int) = pickRow p i i
  | 0, i, h => by omega
  | n + 1, i, h => by
    rcases Nat.lt_or_ge i n with h' | h'
    · rw [pickRows, atI_app (by rw [pickRows_len]; omega), pickRows_at p n i h']
    · have : i = n := by omega
      subst this
      rw [pickRows, atI_nat (by simp [pickRows_len]), List.getElem_append_right (by simp [pickRows_len])]
      simp [pickRows_len]

theorem pickRows_rows (p : Nat → Nat → Bool) (n : Nat) : rowsB (pickRows p n) = true ∧ ∀ r ∈ pickRows p n, r.length ≤ n := by
  constructor
  · simp only [rowsB, Bool.not_eq_true', List.any_eq_false, List.mem_range, pickRows_len]
    intro i hi
    rw [pickRows_at p n i hi]
    simp only [List.any_eq_true, not_exists, not_and, Bool.or_eq_true, decide_eq_true_eq]
    intro d hd
    have := (pickRow_len p i i).2 d hd
    omega
  · intro r hr
    obtain ⟨i, hi, rfl⟩ := List.getElem_of_mem hr
    rw [pickRows_len] at hi
    rw [← atI_nat, pickRows_at p n i hi]
    exact Nat.le_trans (pickRow_len p i i).1 (by omega)

/-- The conflicts before each piece of work. -/
def confR (l : List TFootprint) : List (List Int) := pickRows (fun k j => confB (atI l (k : Int)) (atI l (j : Int))) l.length
def depR (l : List TFootprint) : List (List Int) := pickRows (fun k j => depB (atI l (k : Int)) (atI l (j : Int))) l.length

theorem confR_facts (l : List TFootprint) : (confR l).length = l.length ∧ rowsB (confR l) = true ∧ ∀ r ∈ confR l, r.length ≤ l.length :=
  ⟨pickRows_len _ _, pickRows_rows _ _⟩
theorem depR_facts (l : List TFootprint) : (depR l).length = l.length ∧ rowsB (depR l) = true ∧ ∀ r ∈ depR l, r.length ≤ l.length :=
  ⟨pickRows_len _ _, pickRows_rows _ _⟩

theorem rowsLoop {l : List TFootprint} {p : Nat → Nat → Bool} (hl : l.length ≤ 200)
    {L1 : Nat → List (List Int) → Int → Option (List (List Int))} {L2 : Nat → ((List (List Int)) → (List Int) → Option (List (List Int))) → Nat → (List (List Int)) → (List Int) → Int → Option (List (List Int))}
    (h1 : ∀ n (D : List (List Int)) (i : Nat), D.length ≤ 200 → i < l.length → L1 (n + 1) D (i : Int) = L2 i (fun D e => req ((D ++ [e]).length * 24 ≤ 140737488355328) (L1 n (D ++ [e]) (IntKind.i64.wrap ((i : Int) + 1)))) (i + 1) D [] 0)
    (h1' : ∀ n D, L1 (n + 1) D (l.length : Int) = some D)
    (h2 : ∀ (j : Nat) J n D (e : List Int) (k : Nat), j < l.length → k < j → e.length ≤ 200 → L2 j J (n + 1) D e (k : Int) = L2 j J n D (if p k j = true then e ++ [(k : Int)] else e) (IntKind.i64.wrap ((k : Int) + 1)))
    (h2' : ∀ (j : Nat) J n D e, L2 j J (n + 1) D e (j : Int) = J D e) : L1 (l.length + 1) [] 0 = some (pickRows p l.length) := by
  have g2 : ∀ (j : Nat) J D, j < l.length → L2 j J (j + 1) D [] 0 = J D (pickRow p j j) := by
    intro j J D hj
    refine loopSeq (len := j) (L := fun n s k => L2 j J n D s k) (S := fun k => pickRow p j k) (J := fun e => J D e) (Nat.lt_of_lt_of_le hj (Nat.le_trans hl (by decide))) ?_ ?_ (j + 1) 0 (by omega) (by omega)
    · intro n k hk
      try dsimp only
      rw [h2 j J n D _ k hj hk (Nat.le_trans (pickRow_len p j k).1 (by omega))]
      rfl
    · intro n; exact h2' j J n D _
  refine loopSeq (len := l.length) (L := fun n s k => L1 n s k) (S := fun j => pickRows p j) (J := fun x => some x) (Nat.lt_of_le_of_lt hl (by decide)) ?_ ?_ (l.length + 1) 0 (by omega) (by omega)
  · intro n j hj
    try dsimp only
    rw [h1 n _ j (by rw [pickRows_len]; omega) hj, g2 j _ _ hj]
    simp only [List.length_append, pickRows_len, List.length_cons, List.length_nil, show (j + (0 + 1)) * 24 ≤ 140737488355328 by omega, req_t]
    rfl
  · intro n; exact h1' n _

theorem confR_ref {l : List TFootprint} (hl : l.length ≤ 200) (ho : ∀ f ∈ l, fpOk f) : F_clockworkref28_Conflicts l = some (confR l) := by
  have hat : ∀ i : Nat, i < l.length → fpOk (atI l (i : Int)) := fun i hi => by rw [atI_nat hi]; exact ho _ (List.getElem_mem hi)
  unfold F_clockworkref28_Conflicts
  rw [jn_mk, Int.toNat_natCast]
  refine rowsLoop (l := l) (p := fun k j => confB (atI l (k : Int)) (atI l (j : Int))) hl (L1 := fun n D i => F_clockworkref28_Conflicts_L1 l (fun x => some x) n D i) (L2 := fun j J n D e k => F_clockworkref28_Conflicts_L2 (j : Int) l J n D e k) ?_ ?_ ?_ ?_
  · intro n D i hD hi
    try dsimp only
    rw [F_clockworkref28_Conflicts_L1]
    simp only [show (i : Int) < (l.length : Int) by omega, decide_true, cond_true, jn_mk, Int.toNat_natCast]
  · intro n D
    try dsimp only
    rw [F_clockworkref28_Conflicts_L1]
    simp
  · intro j J n D e k hj hk he
    try dsimp only
    rw [F_clockworkref28_Conflicts_L2]
    simp only [show (k : Int) < (j : Int) by omega, show (j : Int) < (l.length : Int) by omega, show (k : Int) < (l.length : Int) by omega, decide_true, cond_true, show 0 ≤ (j : Int) by omega, show 0 ≤ (k : Int) by omega, true_and, req_t, jn_mk, conf_ref (hat k (by omega)) (hat j hj), bnd_mk]
    cases confB (atI l (k : Int)) (atI l (j : Int)) with
    | false => rfl
    | true => simp only [cond_true, List.length_append, List.length_cons, List.length_nil, show (e.length + (0 + 1)) * 8 ≤ 140737488355328 by omega, req_t, if_true]
  · intro j J n D e
    try dsimp only
    rw [F_clockworkref28_Conflicts_L2]
    simp

theorem depR_ref {l : List TFootprint} (hl : l.length ≤ 200) (ho : ∀ f ∈ l, fpOk f) : F_clockworkref26_Deps l = some (depR l) := by
  have hat : ∀ i : Nat, i < l.length → fpOk (atI l (i : Int)) := fun i hi => by rw [atI_nat hi]; exact ho _ (List.getElem_mem hi)
  unfold F_clockworkref26_Deps
  rw [jn_mk, Int.toNat_natCast]
  refine rowsLoop (l := l) (p := fun k j => depB (atI l (k : Int)) (atI l (j : Int))) hl (L1 := fun n D i => F_clockworkref26_Deps_L1 l (fun x => some x) n D i) (L2 := fun j J n D e k => F_clockworkref26_Deps_L2 (j : Int) l J n D e k) ?_ ?_ ?_ ?_
  · intro n D i hD hi
    try dsimp only
    rw [F_clockworkref26_Deps_L1]
    simp only [show (i : Int) < (l.length : Int) by omega, decide_true, cond_true, jn_mk, Int.toNat_natCast]
  · intro n D
    try dsimp only
    rw [F_clockworkref26_Deps_L1]
    simp
  · intro j J n D e k hj hk he
    try dsimp only
    rw [F_clockworkref26_Deps_L2]
    simp only [show (k : Int) < (j : Int) by omega, show (j : Int) < (l.length : Int) by omega, show (k : Int) < (l.length : Int) by omega, decide_true, cond_true, show 0 ≤ (j : Int) by omega, show 0 ≤ (k : Int) by omega, true_and, req_t, jn_mk, dep_ref (hat k (by omega)) (hat j hj), bnd_mk]
    cases depB (atI l (k : Int)) (atI l (j : Int)) with
    | false => rfl
    | true => simp only [cond_true, List.length_append, List.length_cons, List.length_nil, show (e.length + (0 + 1)) * 8 ≤ 140737488355328 by omega, req_t, if_true]
  · intro j J n D e
    try dsimp only
    rw [F_clockworkref26_Deps_L2]
    simp

theorem depR_impl {l : List TFootprint} (hl : l.length ≤ 200) (ho : ∀ f ∈ l, fpOk f) : F_mvsched_Deps l = some (depR l) := by
  have hat : ∀ i : Nat, i < l.length → fpOk (atI l (i : Int)) := fun i hi => by rw [atI_nat hi]; exact ho _ (List.getElem_mem hi)
  unfold F_mvsched_Deps
  rw [jn_mk, Int.toNat_natCast]
  refine rowsLoop (l := l) (p := fun k j => depB (atI l (k : Int)) (atI l (j : Int))) hl (L1 := fun n D i => F_mvsched_Deps_L1 l (fun x => some x) n D i) (L2 := fun j J n D e k => F_mvsched_Deps_L2 (j : Int) l J n D e k) ?_ ?_ ?_ ?_
  · intro n D i hD hi
    try dsimp only
    rw [F_mvsched_Deps_L1]
    simp only [show (i : Int) < (l.length : Int) by omega, decide_true, cond_true, jn_mk, Int.toNat_natCast]
  · intro n D
    try dsimp only
    rw [F_mvsched_Deps_L1]
    simp
  · intro j J n D e k hj hk he
    try dsimp only
    rw [F_mvsched_Deps_L2]
    simp only [show (k : Int) < (j : Int) by omega, show (j : Int) < (l.length : Int) by omega, show (k : Int) < (l.length : Int) by omega, decide_true, cond_true, show 0 ≤ (j : Int) by omega, show 0 ≤ (k : Int) by omega, true_and, req_t, jn_mk, eff_impl (hat k (by omega)), eff_impl (hat j hj), dep_impl (hat k (by omega)) (hat j hj), bnd_mk]
    cases depB (atI l (k : Int)) (atI l (j : Int)) with
    | false => rfl
    | true => simp only [cond_true, List.length_append, List.length_cons, List.length_nil, show (e.length + (0 + 1)) * 8 ≤ 140737488355328 by omega, req_t, if_true]
  · intro j J n D e
    try dsimp only
    rw [F_mvsched_Deps_L2]
    simp

theorem lock2 {ρ : Type} {l : List TFootprint} {j : Nat} (hl : l.length ≤ 200) (ho : ∀ f ∈ l, fpOk f) (hj : j < l.length) (K : List Int → Option ρ) :
    ∀ n i, i ≤ j → j - i < n → F_timeline_Lock_L2 l j K n i (pickRow (fun k j => confB (atI l (k : Int)) (atI l (j : Int))) j i) = K (pickRow (fun k j => confB (atI l (k : Int)) (atI l (j : Int))) j j) := by
  have hat : ∀ i : Nat, i < l.length → fpOk (atI l (i : Int)) := fun i hi => by rw [atI_nat hi]; exact ho _ (List.getElem_mem hi)
  intro n
  induction n with
  | zero => intro i _ h; omega
  | succ n ih =>
    intro i hi hn
    rw [F_timeline_Lock_L2]
    rcases Nat.lt_or_ge i j with h | h
    · have hp := (pickRow_len (fun k j => confB (atI l (k : Int)) (atI l (j : Int))) j i).1
      simp only [show (i : Int) < (j : Int) by omega, show (j : Int) < (l.length : Int) by omega, show (i : Int) < (l.length : Int) by omega, decide_true, cond_true, show 0 ≤ (j : Int) by omega, show 0 ≤ (i : Int) by omega, true_and, req_t, conf_impl (hat i (by omega)) (hat j hj), bnd_mk]
      have := ih (i + 1) (by omega) (by omega)
      rw [← this]
      cases hcc : confB (atI l (i : Int)) (atI l (j : Int)) with
      | false => rw [pickRow_f (p := fun k j => confB (atI l (k : Int)) (atI l (j : Int))) hcc]; rfl
      | true =>
        rw [pickRow_t (p := fun k j => confB (atI l (k : Int)) (atI l (j : Int))) hcc, cond_true]
        rw [req_pos (by simp only [List.length_append, List.length_cons, List.length_nil]; omega)]
    · have : i = j := by omega
      subst this
      simp

theorem lock1 {ρ : Type} {l : List TFootprint} (hl : l.length ≤ 200) (ho : ∀ f ∈ l, fpOk f) (K : List (List Int) → Option ρ) :
    ∀ n j, j ≤ l.length → l.length - j < n → F_timeline_Lock_L1 l K n j (pickRows (fun k j => confB (atI l (k : Int)) (atI l (j : Int))) j) = K (confR l) := by
  intro n
  induction n with
  | zero => intro i _ h; omega
  | succ n ih =>
    intro j hj hn
    rw [F_timeline_Lock_L1]
    rcases Nat.lt_or_ge j l.length with h | h
    · simp only [show (j : Int) < (l.length : Int) by omega, decide_true, cond_true]
      refine (lock2 hl ho h _ (j + 1) 0 (by omega) (by omega)).trans ?_
      exact ih (j + 1) (by omega) (by omega)
    · have : j = l.length := by omega
      subst this
      simp [confR]

def lockP (l : List TFootprint) (costs : List Int) : List TSpan × Int := if costsB (l.length : Int) costs = true then (earlS (confR l) costs l.length, 0) else ([], 1)
def versP (l : List TFootprint) (costs : List Int) : List TSpan × Int := if costsB (l.length : Int) costs = true then (earlS (depR l) costs l.length, 0) else ([], 1)

theorem costs_len {n : Nat} {c : List Int} (h : costsB (n : Int) c = true) : c.length = n := by
  simp only [costsB, Bool.and_eq_true, beq_iff_eq] at h
  omega

theorem lock_impl {l : List TFootprint} {costs : List Int} (hl : l.length ≤ 200) (ho : ∀ f ∈ l, fpOk f) (hc : costs.length < big) : F_timeline_Lock l costs = some (lockP l costs) := by
  unfold F_timeline_Lock
  rw [costs_impl hc, bnd_mk, lockP]
  cases h : costsB (l.length : Int) costs with
  | false => rfl
  | true =>
    have hr := confR_facts l
    simp only [Bool.not_true, cond_false, show 24 * l.length ≤ 140737488355328 by omega, req_t, if_true]
    refine (lock1 hl ho _ (l.length + 1) 0 (by omega) (by omega)).trans ?_
    rw [earl_impl (by rw [hr.1]; omega) (by rw [hr.1, costs_len h]) (fun r h => Nat.le_trans (hr.2.2 r h) hl) hr.2.1]
    rw [bnd_mk, hr.1]

theorem lock_ref {l : List TFootprint} {costs : List Int} (hl : l.length ≤ 200) (ho : ∀ f ∈ l, fpOk f) (hc : costs.length < big) : F_clockworkref28_Lock l costs = some (lockP l costs) := by
  unfold F_clockworkref28_Lock
  rw [costs_ref hc, bnd_mk, lockP]
  cases h : costsB (l.length : Int) costs with
  | false => rfl
  | true =>
    have hr := confR_facts l
    rw [confR_ref hl ho]
    simp only [Bool.not_true, cond_false, bnd_mk, if_true]
    rw [earl_ref (by rw [hr.1]; omega) (by rw [hr.1, costs_len h]) (fun r h => Nat.le_trans (hr.2.2 r h) hl) hr.2.1]
    rw [bnd_mk, hr.1]

theorem vers_impl {l : List TFootprint} {costs : List Int} (hl : l.length ≤ 200) (ho : ∀ f ∈ l, fpOk f) (hc : costs.length < big) : F_timeline_Version l costs = some (versP l costs) := by
  unfold F_timeline_Version
  rw [costs_impl hc, bnd_mk, versP]
  cases h : costsB (l.length : Int) costs with
  | false => rfl
  | true =>
    have hr := depR_facts l
    rw [depR_impl hl ho]
    simp only [Bool.not_true, cond_false, bnd_mk, if_true]
    rw [earl_impl (by rw [hr.1]; omega) (by rw [hr.1, costs_len h]) (fun r h => Nat.le_trans (hr.2.2 r h) hl) hr.2.1]
    rw [bnd_mk, hr.1]

theorem vers_ref {l : List TFootprint} {costs : List Int} (hl : l.length ≤ 200) (ho : ∀ f ∈ l, fpOk f) (hc : costs.length < big) : F_clockworkref28_Version l costs = some (versP l costs) := by
  unfold F_clockworkref28_Version
  rw [costs_ref hc, bnd_mk, versP]
  cases h : costsB (l.length : Int) costs with
  | false => rfl
  | true =>
    have hr := depR_facts l
    rw [depR_ref hl ho]
    simp only [Bool.not_true, cond_false, bnd_mk, if_true]
    rw [earl_ref (by rw [hr.1]; omega) (by rw [hr.1, costs_len h]) (fun r h => Nat.le_trans (hr.2.2 r h) hl) hr.2.1]
    rw [bnd_mk, hr.1]

def few19B (f : TFootprint) (m : Int) : Bool := !(decide (m < (f.Reads.length : Int)) || decide (m < (f.Writes.length : Int))) && !(f.Reads.any fun s => decide (100 < (s.length : Int))) && !(f.Writes.any fun s => decide (100 < (s.length : Int)))

theorem few19_ref {f : TFootprint} {m : Int} (h1 : f.Reads.length < big) (h2 : f.Writes.length < big) : F_clockworkref19_Few f m = some (few19B f m) := by
  unfold F_clockworkref19_Few
  simp only [jn_mk]
  have w1 : ∀ J : Option Bool, F_clockworkref19_Few_L1 f J ((f.Writes.length : Int).toNat + 1) 0 = cond (f.Writes.any fun s => decide (100 < (s.length : Int))) (some false) J := by
    intro J
    refine loopAny0 (L := fun n i => F_clockworkref19_Few_L1 f J n i) (q := fun s : Str => decide (100 < (s.length : Int))) (E := some false) (J := J) h2 (by omega) ?_ ?_
    · intro n i hi
      try dsimp only
      rw [F_clockworkref19_Few_L1]
      simp only [show (i : Int) < (f.Writes.length : Int) by omega, decide_true, cond_true, show 0 ≤ (i : Int) by omega, true_and, req_t, atI_nat hi]
    · intro n
      try dsimp only
      rw [F_clockworkref19_Few_L1]
      simp
  have w2 : ∀ J : Option Bool, F_clockworkref19_Few_L2 f J ((f.Reads.length : Int).toNat + 1) 0 = cond (f.Reads.any fun s => decide (100 < (s.length : Int))) (some false) J := by
    intro J
    refine loopAny0 (L := fun n i => F_clockworkref19_Few_L2 f J n i) (q := fun s : Str => decide (100 < (s.length : Int))) (E := some false) (J := J) h1 (by omega) ?_ ?_
    · intro n i hi
      try dsimp only
      rw [F_clockworkref19_Few_L2]
      simp only [show (i : Int) < (f.Reads.length : Int) by omega, decide_true, cond_true, show 0 ≤ (i : Int) by omega, true_and, req_t, atI_nat hi]
    · intro n
      try dsimp only
      rw [F_clockworkref19_Few_L2]
      simp
  rw [w2, w1, few19B]
  cases (decide (m < (f.Reads.length : Int)) || decide (m < (f.Writes.length : Int))) <;> cases (f.Reads.any fun s => decide (100 < (s.length : Int))) <;> cases (f.Writes.any fun s => decide (100 < (s.length : Int))) <;> rfl

def few25B (l : List TFootprint) (m : Int) : Bool := !decide (m < (l.length : Int)) && !(l.any fun f => !few19B f 8)

theorem few25_ref {l : List TFootprint} {m : Int} (hl : l.length < big) (ho : ∀ f ∈ l, fpOk f) : F_clockworkref25_Few l m = some (few25B l m) := by
  unfold F_clockworkref25_Few
  simp only [jn_mk]
  have w1 : F_clockworkref25_Few_L1 l (some true) ((l.length : Int).toNat + 1) 0 = cond (l.any fun f => !few19B f 8) (some false) (some true) := by
    refine loopAny0 (L := fun n i => F_clockworkref25_Few_L1 l (some true) n i) (q := fun f => !few19B f 8) (E := some false) (J := some true) hl (by omega) ?_ ?_
    · intro n i hi
      have hf := ho _ (List.getElem_mem hi)
      try dsimp only
      rw [F_clockworkref25_Few_L1]
      simp only [show (i : Int) < (l.length : Int) by omega, decide_true, cond_true, show 0 ≤ (i : Int) by omega, true_and, req_t, atI_nat hi, few19_ref hf.1 hf.2.1, bnd_mk]
    · intro n
      try dsimp only
      rw [F_clockworkref25_Few_L1]
      simp
  rw [w1, few25B]
  cases decide (m < (l.length : Int)) <;> cases (l.any fun f => !few19B f 8) <;> rfl

theorem ok_fp {l : List TFootprint} (h : (okL okTFootprint) l) : l.length < big ∧ ∀ f ∈ l, fpOk f := by
  refine ⟨Nat.lt_succ_of_le h.1, fun f hf => ?_⟩
  have := h.2 f hf
  exact ⟨Nat.lt_succ_of_le this.2.1.1, Nat.lt_succ_of_le this.2.2.1, fun s hs => Nat.lt_succ_of_le (this.2.1.2 s hs), fun s hs => Nat.lt_succ_of_le (this.2.2.2 s hs)⟩

theorem plain_TimelineLocks (x0 : List TFootprint) (x1 : List Int) (o0 : (okL okTFootprint) x0) (o1 : (okL (okI .i64)) x1) : F_clockworklaw28_TimelineLocks x0 x1 = some true := by
  obtain ⟨h0, ho⟩ := ok_fp o0
  unfold F_clockworklaw28_TimelineLocks
  rw [few25_ref h0 ho, bnd_mk]
  cases hf : few25B x0 10 with
  | false => simp [lives_true]
  | true =>
    by_cases h1 : 20 < (x1.length : Int)
    · simp [h1, lives_true]
    have hb1 : x1.length < big := by simp only [big]; omega
    have hl : x0.length ≤ 200 := by
      simp only [few25B, Bool.and_eq_true, Bool.not_eq_true', decide_eq_false_iff_not] at hf
      omega
    rw [lock_impl hl ho hb1, lock_ref hl ho hb1, vers_impl hl ho hb1, vers_ref hl ho hb1, lives_true]
    have hS : (lockP x0 x1).1.length < big := by
      unfold lockP
      split
      · rw [earlS_len]; exact h0
      · decide
    have hS2 : (versP x0 x1).1.length < big := by
      unfold versP
      split
      · rw [earlS_len]; exact h0
      · decide
    simp [h1, same_self hS, same_self hS2]

end Go.Proofs.Ytfinjeaoicfdeaa
