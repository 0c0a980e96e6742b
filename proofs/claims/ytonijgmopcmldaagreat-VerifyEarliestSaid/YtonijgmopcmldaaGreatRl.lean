/-
  TURNS AND STORES, CLOSED: program and specification alike.
-/
import Derived.Test.YtonijgmopcmldaaGreatRk
set_option linter.all false
namespace Go.Proofs.YtonijgmopcmldaaGreat
open Go.ChangeShapes

structure Few (s : TStore) : Prop where
  r : s.Rows.length ≤ 40
  v : ∀ r ∈ s.Rows, r.Vers.length ≤ 40

def selA (lo hi : Int) (l : List TVersion) : List Int := (l.filter fun u => decide (lo < u.At) && decide (u.At ≤ hi)).map fun u => u.At

theorem selA_app (lo hi : Int) (a b : List TVersion) : selA lo hi (a ++ b) = selA lo hi a ++ selA lo hi b := by
  unfold selA; rw [List.filter_append, List.map_append]
theorem selA_len (lo hi : Int) (l : List TVersion) : (selA lo hi l).length ≤ l.length := by
  unfold selA; rw [List.length_map]; exact List.length_filter_le _ _

theorem turn3 {ss : List TStore} {p q : Nat} (lo hi : Int) {l : List TVersion} (hl : (atI ((atI ss (p : Int)).Rows) (q : Int)).Vers = l) (h : l.length ≤ 40) {acc : List Int} (ha : acc.length ≤ 50000) (J : List Int → Option (List Int)) :
    F_verify_turns_L3 ss (p : Int) (q : Int) lo hi J ((((l.length : Nat) : Int)).toNat + 1) acc 0 = J (acc ++ selA lo hi l) := by
  have key := loopSeq (len := l.length) (by omega) (L := F_verify_turns_L3 ss (p : Int) (q : Int) lo hi J) (J := J) (S := fun i => acc ++ selA lo hi (l.take i)) (fun n i hi' => ?_) (fun n => ?_) ((((l.length : Nat) : Int)).toNat + 1) 0 (by omega) (by omega)
  · rw [List.take_length, show selA lo hi (l.take 0) = [] from rfl, List.append_nil] at key
    exact key
  · have hs := selA_len lo hi (l.take i)
    rw [List.length_take] at hs
    rw [F_verify_turns_L3, hl, decide_eq_true (by omega), cond_true, req_pos (by omega), atI_nat hi', jn_mk, List.take_succ_eq_append_getElem hi', selA_app]
    cases hc : (decide (lo < l[i].At) && decide (l[i].At ≤ hi)) with
    | true =>
      rw [cond_true, req_pos (by rw [List.length_append, List.length_append]; simp only [List.length_cons, List.length_nil]; omega), show selA lo hi [l[i]] = [l[i].At] by unfold selA; simp only [List.filter_cons, hc, if_true, List.filter_nil, List.map_cons, List.map_nil], List.append_assoc]
    | false =>
      rw [cond_false, show selA lo hi [l[i]] = [] by unfold selA; simp only [List.filter_cons, hc, Bool.false_eq_true, if_false, List.filter_nil, List.map_nil], List.append_nil]
  · rw [F_verify_turns_L3, hl, decide_eq_false (by omega), cond_false]

def rowA (lo hi : Int) (l : List TRow) : List Int := l.flatMap fun r => selA lo hi r.Vers

theorem rowA_len {lo hi : Int} : ∀ {l : List TRow}, (∀ r ∈ l, r.Vers.length ≤ 40) → (rowA lo hi l).length ≤ 40 * l.length
  | [], _ => Nat.le_refl _
  | r :: l, h => by
    have h1 := rowA_len (lo := lo) (hi := hi) (l := l) fun x hx => h x (List.mem_cons_of_mem _ hx)
    have h2 := selA_len lo hi r.Vers
    have h3 := h r List.mem_cons_self
    unfold rowA at *
    rw [List.flatMap_cons, List.length_append, List.length_cons]
    omega

theorem turn2 {ss : List TStore} {p : Nat} (lo hi : Int) {s : TStore} (hs : atI ss (p : Int) = s) (hf : Few s) {acc : List Int} (ha : acc.length ≤ 40000) (J : List Int → Option (List Int)) :
    F_verify_turns_L2 ss (p : Int) lo hi J ((((s.Rows.length : Nat) : Int)).toNat + 1) acc 0 = J (acc ++ rowA lo hi s.Rows) := by
  have hr := hf.r
  have key := loopSeq (len := s.Rows.length) (by omega) (L := F_verify_turns_L2 ss (p : Int) lo hi J) (J := J) (S := fun i => acc ++ rowA lo hi (s.Rows.take i)) (fun n i hi' => ?_) (fun n => ?_) ((((s.Rows.length : Nat) : Int)).toNat + 1) 0 (by omega) (by omega)
  · rw [List.take_length, show rowA lo hi (s.Rows.take 0) = [] from rfl, List.append_nil] at key
    exact key
  · have hl := rowA_len (lo := lo) (hi := hi) (l := s.Rows.take i) fun r hr => hf.v r (List.mem_of_mem_take hr)
    rw [List.length_take] at hl
    have hv := hf.v _ (List.getElem_mem hi')
    have e : (atI ((atI ss (p : Int)).Rows) (i : Int)).Vers = s.Rows[i].Vers := by rw [hs, atI_nat hi']
    rw [F_verify_turns_L2, e, hs, decide_eq_true (by omega), cond_true, req_pos (by omega), jn_mk, turn3 lo hi e hv (by rw [List.length_append]; omega), List.take_succ_eq_append_getElem hi']
    congr 1
    unfold rowA
    rw [List.flatMap_append, List.append_assoc]; simp
  · rw [F_verify_turns_L2, hs, decide_eq_false (by omega), cond_false]

def turnL (lo hi : Int) (x y : TStore) : List Int := compactL (sortL ([lo] ++ rowA lo hi x.Rows ++ rowA lo hi y.Rows))

theorem turns_eq (lo hi : Int) {x y : TStore} (hx : Few x) (hy : Few y) : F_verify_turns lo hi [x, y] = some (turnL lo hi x y) := by
  have l1 := rowA_len (lo := lo) (hi := hi) hx.v
  have l2 := rowA_len (lo := lo) (hi := hi) hy.v
  have r1 := hx.r
  have r2 := hy.r
  unfold F_verify_turns
  rw [jn_mk]
  rw [show ((((([x, y] : List TStore).length : Nat) : Int)).toNat + 1) = 2 + 1 from rfl, F_verify_turns_L1, decide_eq_true (by simp), cond_true, req_pos (by simp), jn_mk]
  have t1 := turn2 (ss := [x, y]) (p := 0) lo hi (s := x) rfl hx (acc := [lo]) (by simp)
  refine (t1 _).trans ?_
  rw [show IntKind.i64.wrap ((0 : Int) + 1) = 1 by decide, show (2 : Nat) = 1 + 1 from rfl, F_verify_turns_L1, decide_eq_true (by simp), cond_true, req_pos (by simp), jn_mk]
  have t2 := turn2 (ss := [x, y]) (p := 1) lo hi (s := y) rfl hy (acc := [lo] ++ rowA lo hi x.Rows) (by rw [List.length_append]; simp only [List.length_cons, List.length_nil]; omega)
  refine (t2 _).trans ?_
  rw [show IntKind.i64.wrap ((1 : Int) + 1) = 2 by decide, show (1 : Nat) = 0 + 1 from rfl, F_verify_turns_L1, decide_eq_false (by simp), cond_false, req_pos (by rw [List.length_append, List.length_append]; simp only [List.length_cons, List.length_nil]; omega)]
  rfl

def ats (x y : TStore) : List Int := (x.Rows ++ y.Rows).flatMap fun r => r.Vers.map fun u => u.At

theorem turn_mem {lo hi t : Int} {x y : TStore} : t ∈ turnL lo hi x y ↔ t = lo ∨ (t ∈ ats x y ∧ lo < t ∧ t ≤ hi) := by
  unfold turnL
  rw [(compact_sorted _).2]
  have row : ∀ l : List TRow, t ∈ rowA lo hi l ↔ (t ∈ l.flatMap fun r => r.Vers.map fun u => u.At) ∧ lo < t ∧ t ≤ hi := by
    intro l
    unfold rowA selA
    simp only [List.mem_flatMap, List.mem_map, List.mem_filter, Bool.and_eq_true, decide_eq_true_eq]
    constructor
    · rintro ⟨r, hr, u, ⟨hu, h1, h2⟩, rfl⟩; exact ⟨⟨r, hr, u, hu, rfl⟩, h1, h2⟩
    · rintro ⟨⟨r, hr, u, hu, rfl⟩, h1, h2⟩; exact ⟨r, hr, u, ⟨hu, h1, h2⟩, rfl⟩
  unfold ats
  rw [List.mem_append, List.mem_append, row, row, List.flatMap_append, List.mem_append, List.mem_singleton]
  constructor
  · rintro ((h | ⟨h, h1⟩) | ⟨h, h1⟩)
    · exact .inl h
    · exact .inr ⟨.inl h, h1⟩
    · exact .inr ⟨.inr h, h1⟩
  · rintro (h | ⟨h | h, h1⟩)
    · exact .inl (.inl h)
    · exact .inl (.inr ⟨h, h1⟩)
    · exact .inr ⟨h, h1⟩

theorem turn_asc (lo hi : Int) (x y : TStore) : (turnL lo hi x y).Pairwise (· < ·) := (compact_sorted _).1

theorem turn_head {lo hi : Int} {x y : TStore} : ∃ l, turnL lo hi x y = lo :: l := by
  have h := turn_asc lo hi x y
  have hm := fun t => turn_mem (lo := lo) (hi := hi) (x := x) (y := y) (t := t)
  cases e : turnL lo hi x y with
  | nil => have := (hm lo).2 (.inl rfl); rw [e] at this; cases this
  | cons a l =>
    rw [e] at h hm
    obtain ⟨h1, _⟩ := List.pairwise_cons.1 h
    rcases (hm a).1 List.mem_cons_self with rfl | ⟨_, h2, _⟩
    · exact ⟨l, rfl⟩
    · rcases List.mem_cons.1 ((hm lo).2 (.inl rfl)) with h3 | h3
      · omega
      · have := h1 _ h3; omega

theorem turn_len {lo hi : Int} {x y : TStore} (hx : Few x) (hy : Few y) : (turnL lo hi x y).length ≤ 4000 := by
  have l1 := rowA_len (lo := lo) (hi := hi) hx.v
  have l2 := rowA_len (lo := lo) (hi := hi) hy.v
  have r1 := hx.r
  have r2 := hy.r
  have hnd : (turnL lo hi x y).Nodup := (turn_asc lo hi x y).imp fun {a b} h e => by omega
  have hsub : turnL lo hi x y ⊆ [lo] ++ rowA lo hi x.Rows ++ rowA lo hi y.Rows := fun t ht => ((compact_sorted _).2 t).1 ht
  have := List.Nodup.length_le_of_subset hnd hsub
  rw [List.length_append, List.length_append] at this
  simp only [List.length_cons, List.length_nil] at this
  omega

/-! ### Stores -/

def diffT (x y : TStore) (t : Int) : Bool := !eqL pairEq (atP x t).1 (atP y t).1

def fnd (D : Int → Bool) : List Int → Int × Int
  | [] => (0, 9)
  | t :: l => cond (D t) (t, 0) (fnd D l)

theorem few_st {s : TStore} (h : Few s) (hk : ∀ r ∈ s.Rows, r.Key.length < big ∧ ∀ u ∈ r.Vers, u.Val.S.length < big) : StOk s :=
  ⟨by have := h.r; omega, fun r hr => ⟨by have := h.v r hr; omega, hk r hr⟩⟩

theorem atP_len (s : TStore) (n : Int) : (atP s n).1.length ≤ s.Rows.length := by
  unfold atP
  cases (!storeB s) <;> cases (decide (n < s.Floor) || decide (s.Last < n))
  · exact stat_len s n
  · exact Nat.zero_le _
  · exact Nat.zero_le _
  · exact Nat.zero_le _

def storesP (x y : TStore) : Int × Int := cond (!storeB x || !storeB y) (0, 1) (cond (decide (min x.Last y.Last < max x.Floor y.Floor)) (0, 15) (fnd (diffT x y) (turnL (max x.Floor y.Floor) (min x.Last y.Last) x y)))

theorem stores_impl {x y : TStore} (hx : Few x) (hy : Few y) (sx : StOk x) (sy : StOk y) : F_verify_Stores x y = some (storesP x y) := by
  have r1 := hx.r
  have r2 := hy.r
  unfold F_verify_Stores storesP
  rw [mvalid_impl sx, bnd_mk]
  cases vx : storeB x with
  | false => simp [gcall, bnd]
  | true =>
    rw [show ((!true) == false) = true from rfl, gcall_t, mvalid_impl sy, bnd_mk]
    cases vy : storeB y with
    | false => rfl
    | true =>
      rw [show ((!true) || (!true)) = false from rfl, cond_false, cond_false]
      cases hw : decide (min x.Last y.Last < max x.Floor y.Floor) with
      | true => rfl
      | false =>
        rw [cond_false, cond_false, turns_eq _ _ hx hy, bnd_mk, jn_mk]
        have tl := turn_len (lo := max x.Floor y.Floor) (hi := min x.Last y.Last) hx hy
        generalize turnL (max x.Floor y.Floor) (min x.Last y.Last) x y = T at tl
        have key : ∀ (n i : Nat), i ≤ T.length → T.length - i < n → F_verify_Stores_L1 T x y (some (0, 9)) n (i : Int) = some (fnd (diffT x y) (T.drop i)) := by
          intro n
          induction n with
          | zero => intro i _ h; omega
          | succ n ih =>
            intro i hi hn
            rw [F_verify_Stores_L1]
            rcases Nat.lt_or_ge i T.length with h | h
            · have e1 := atP_len x T[i]
              have e2 := atP_len y T[i]
              rw [decide_eq_true (by omega), cond_true, req_pos (by omega), atI_nat h, at_impl sx, bnd_mk, at_impl sy, bnd_mk, same_st (by omega) (by omega), bnd_mk, List.drop_eq_getElem_cons h, fnd, wrap_succ (by omega), ih (i + 1) (by omega) (by omega)]
              unfold diffT
              cases (!eqL pairEq (atP x T[i]).1 (atP y T[i]).1) <;> rfl
            · rw [decide_eq_false (by omega), cond_false, List.drop_eq_nil_of_le h]; rfl
        exact key _ 0 (by omega) (by omega)

/-! ### The specification: the next turn -/

def nxF (c m a : Int) : Int := if (decide (c < a) && ((m == c) || decide (a < m))) = true then a else m

theorem next_L2 {x y : TStore} {rows : List TRow} (hrows : (([] : List TRow) ++ x.Rows) ++ y.Rows = rows) {q : Nat} (hq : q < rows.length) (hv : rows[q].Vers.length ≤ 40) (c : Int) (J : Int → Option Int) (m : Int) :
    F_clockworkref54_next_L2 (q : Int) x y c J 1000000 m 0 = J ((rows[q].Vers.map fun u => u.At).foldl (nxF c) m) := by
  have key := loopSeq (len := rows[q].Vers.length) (by omega) (L := F_clockworkref54_next_L2 (q : Int) x y c J) (J := J) (S := fun i => ((rows[q].Vers.take i).map fun u => u.At).foldl (nxF c) m) (fun n i hi => ?_) (fun n => ?_) 1000000 0 (by omega) (by omega)
  · rw [List.take_length] at key
    exact key
  · rw [F_clockworkref54_next_L2, hrows, atI_nat hq, req_pos (by omega), decide_eq_true (by omega), cond_true, req_pos (by omega), req_pos (by omega), atI_nat hi, jn_mk, List.take_succ_eq_append_getElem hi, List.map_append, List.foldl_append]
    simp only [List.map_cons, List.map_nil, List.foldl_cons, List.foldl_nil]
    generalize List.foldl (nxF c) m (List.map (fun u => u.At) (List.take i rows[q].Vers)) = z
    unfold nxF
    cases (decide (c < rows[q].Vers[i].At) && ((z == c) || decide (rows[q].Vers[i].At < z))) <;> rfl
  · rw [F_clockworkref54_next_L2, hrows, atI_nat hq, req_pos (by omega), decide_eq_false (by omega), cond_false]

theorem next_eq {x y : TStore} (hx : Few x) (hy : Few y) (c : Int) : F_clockworkref54_next x y c = some ((ats x y).foldl (nxF c) c) := by
  have r1 := hx.r
  have r2 := hy.r
  obtain ⟨rows, hrows⟩ : ∃ rows, (([] : List TRow) ++ x.Rows) ++ y.Rows = rows := ⟨_, rfl⟩
  have hlen : rows.length = x.Rows.length + y.Rows.length := by rw [← hrows]; simp
  have hv : ∀ r ∈ rows, r.Vers.length ≤ 40 := fun r hr => by
    rw [← hrows, List.nil_append, List.mem_append] at hr
    rcases hr with h | h
    · exact hx.v r h
    · exact hy.v r h
  unfold F_clockworkref54_next
  rw [req_pos (by rw [List.nil_append]; omega), hrows, req_pos (by omega), jn_mk]
  have key := loopSeq (len := rows.length) (by omega) (L := F_clockworkref54_next_L1 x y c fun x11 => some x11) (J := fun x11 => some x11) (S := fun i => ((rows.take i).flatMap fun r => r.Vers.map fun u => u.At).foldl (nxF c) c) (fun n i hi => ?_) (fun n => ?_) ((((rows.length : Nat) : Int)).toNat + 1) 0 (by omega) (by omega)
  · rw [List.take_length] at key
    rw [show ats x y = rows.flatMap fun r => r.Vers.map fun u => u.At by rw [← hrows, List.nil_append]; rfl]
    exact key
  · rw [F_clockworkref54_next_L1, hrows, decide_eq_true (by omega), cond_true, jn_mk, next_L2 hrows hi (hv _ (List.getElem_mem hi)), List.take_succ_eq_append_getElem hi, List.flatMap_append, List.foldl_append]
    simp
  · rw [F_clockworkref54_next_L1, hrows, decide_eq_false (by omega), cond_false]

theorem next_spec (c : Int) : ∀ (A : List Int) (m : Int), c ≤ m → (A.foldl (nxF c) m = c ∧ m = c ∧ ∀ a ∈ A, a ≤ c) ∨ (c < A.foldl (nxF c) m ∧ (A.foldl (nxF c) m = m ∨ A.foldl (nxF c) m ∈ A) ∧ (c < m → A.foldl (nxF c) m ≤ m) ∧ ∀ a ∈ A, c < a → A.foldl (nxF c) m ≤ a)
  | [], m, h => by
    by_cases e : m = c
    · exact .inl ⟨e, e, by simp⟩
    · exact .inr ⟨by show c < m; omega, .inl rfl, fun _ => Int.le_refl _, by simp⟩
  | a :: A, m, h => by
    rw [List.foldl_cons]
    by_cases hc : (decide (c < a) && ((m == c) || decide (a < m))) = true
    · have hn : nxF c m a = a := by unfold nxF; rw [if_pos hc]
      rw [hn]
      simp only [Bool.and_eq_true, Bool.or_eq_true, decide_eq_true_eq, beq_iff_eq] at hc
      rcases next_spec c A a (by omega) with ⟨_, h2, _⟩ | ⟨h1, h2, h3, h4⟩
      · omega
      · refine .inr ⟨h1, .inr ?_, fun hm => ?_, fun b hb hcb => ?_⟩
        · rcases h2 with h2 | h2
          · rw [h2]; exact List.mem_cons_self
          · exact List.mem_cons_of_mem _ h2
        · have := h3 hc.1; omega
        · rcases List.mem_cons.1 hb with rfl | hb
          · exact h3 hc.1
          · exact h4 b hb hcb
    · have hn : nxF c m a = m := by unfold nxF; rw [if_neg hc]
      rw [hn]
      simp only [Bool.and_eq_true, Bool.or_eq_true, decide_eq_true_eq, beq_iff_eq] at hc
      rcases next_spec c A m h with ⟨h1, h2, h3⟩ | ⟨h1, h2, h3, h4⟩
      · refine .inl ⟨h1, h2, fun b hb => ?_⟩
        rcases List.mem_cons.1 hb with rfl | hb
        · omega
        · exact h3 b hb
      · by_cases hcm : c < m
        · refine .inr ⟨h1, ?_, h3, fun b hb hcb => ?_⟩
          · rcases h2 with h2 | h2
            · exact .inl h2
            · exact .inr (List.mem_cons_of_mem _ h2)
          · rcases List.mem_cons.1 hb with rfl | hb
            · have := h3 hcm; omega
            · exact h4 b hb hcb
        · refine .inr ⟨h1, ?_, h3, fun b hb hcb => ?_⟩
          · rcases h2 with h2 | h2
            · exact .inl h2
            · exact .inr (List.mem_cons_of_mem _ h2)
          · rcases List.mem_cons.1 hb with rfl | hb
            · omega
            · exact h4 b hb hcb

theorem ref_loop {x y : TStore} (hx : Few x) (hy : Few y) (sx : StOk x) (sy : StOk y) {lo hi : Int} (hhi : min x.Last y.Last = hi) :
    ∀ (suf pre : List Int) (t : Int) (n : Nat), turnL lo hi x y = pre ++ t :: suf → suf.length + 2 ≤ n → t ≤ hi → F_clockworkref54_Stores_L1 x y (some (0, 9)) n t = some (fnd (diffT x y) (t :: suf))
  | suf, pre, t, 0, _, h, _ => by omega
  | suf, pre, t, n + 1, hT, hn, ht => by
    have r1 := hx.r
    have r2 := hy.r
    have e1 := atP_len x t
    have e2 := atP_len y t
    have hasc := turn_asc lo hi x y
    have hmem := fun u => turn_mem (lo := lo) (hi := hi) (x := x) (y := y) (t := u)
    rw [hT] at hasc
    obtain ⟨p1, p2, p3⟩ := List.pairwise_append.1 hasc
    obtain ⟨p4, p5⟩ := List.pairwise_cons.1 p2
    have hlo : lo ≤ t := by
      rcases (hmem t).1 (by rw [hT]; simp) with h | h <;> omega
    rw [F_clockworkref54_Stores_L1, hhi, decide_eq_true ht, cond_true, at_ref sx, bnd_mk, at_ref sy, bnd_mk, same06 (by omega) (by omega), bnd_mk, fnd, next_eq hx hy, bnd_mk]
    cases hd : eqL pairEq (atP x t).1 (atP y t).1 with
    | false => unfold diffT; rw [hd]; rfl
    | true =>
      rw [show diffT x y t = false by unfold diffT; rw [hd]; rfl, show (!true) = false from rfl, cond_false, cond_false]
      have hs := next_spec t (ats x y) t (Int.le_refl _)
      cases suf with
      | nil =>
        rcases hs with ⟨h1, _, _⟩ | ⟨h1, h2, _, _⟩
        · rw [h1, show (t == t) = true by simp, cond_true]; rfl
        · rw [show ((ats x y).foldl (nxF t) t == t) = false by rw [beq_eq_false_iff_ne]; omega, cond_false]
          have hout : hi < (ats x y).foldl (nxF t) t := by
            refine Classical.byContradiction fun hc => ?_
            have hin : (ats x y).foldl (nxF t) t ∈ ats x y := by
              rcases h2 with h2 | h2
              · omega
              · exact h2
            have := (hmem _).2 (.inr ⟨hin, by omega, by omega⟩)
            rw [hT] at this
            rcases List.mem_append.1 this with h | h
            · have := p3 _ h t List.mem_cons_self; omega
            · rcases List.mem_cons.1 h with h | h
              · omega
              · cases h
          cases n with
          | zero => simp at hn
          | succ n => rw [F_clockworkref54_Stores_L1, hhi, decide_eq_false (by omega), cond_false]; rfl
      | cons u suf =>
        have hu : t < u := p4 u List.mem_cons_self
        have huT := (hmem u).1 (by rw [hT]; simp)
        have huA : u ∈ ats x y ∧ u ≤ hi := by
          rcases huT with h | h
          · omega
          · exact ⟨h.1, h.2.2⟩
        rcases hs with ⟨_, _, h3⟩ | ⟨h1, h2, _, h4⟩
        · have := h3 u huA.1; omega
        · have hle := h4 u huA.1 hu
          have hin : (ats x y).foldl (nxF t) t ∈ ats x y := by
            rcases h2 with h2 | h2
            · omega
            · exact h2
          have := (hmem _).2 (.inr ⟨hin, by omega, by omega⟩)
          rw [hT] at this
          have heq : (ats x y).foldl (nxF t) t = u := by
            rcases List.mem_append.1 this with h | h
            · have := p3 _ h t List.mem_cons_self; omega
            · rcases List.mem_cons.1 h with h | h
              · omega
              · rcases List.mem_cons.1 h with h | h
                · exact h
                · have := (List.pairwise_cons.1 p5).1 _ h; omega
          rw [heq, show (u == t) = false by rw [beq_eq_false_iff_ne]; omega, cond_false]
          exact ref_loop hx hy sx sy hhi suf (pre ++ [t]) u n (by rw [hT]; simp) (by simp at hn; omega) huA.2

theorem stores_ref {x y : TStore} (hx : Few x) (hy : Few y) (sx : StOk x) (sy : StOk y) : F_clockworkref54_Stores x y = some (storesP x y) := by
  unfold F_clockworkref54_Stores storesP
  rw [mvalid_ref sx, bnd_mk]
  cases vx : storeB x with
  | false => simp [gcall, bnd]
  | true =>
    rw [show ((!true) == false) = true from rfl, gcall_t, mvalid_ref sy, bnd_mk]
    cases vy : storeB y with
    | false => rfl
    | true =>
      rw [show ((!true) || (!true)) = false from rfl, cond_false, cond_false]
      cases hw : decide (min x.Last y.Last < max x.Floor y.Floor) with
      | true => rfl
      | false =>
        rw [cond_false, cond_false, jn_mk]
        have hx1 := (store_rows vx).1
        have hy1 := (store_rows vy).1
        have hw := of_decide_eq_false hw
        obtain ⟨l, hl⟩ := turn_head (lo := max x.Floor y.Floor) (hi := min x.Last y.Last) (x := x) (y := y)
        rw [hl]
        refine ref_loop hx hy sx sy rfl l [] _ _ hl ?_ (by omega)
        -- the turns are not more than the positions
        have hasc := turn_asc (max x.Floor y.Floor) (min x.Last y.Last) x y
        have hm := fun t => turn_mem (lo := max x.Floor y.Floor) (hi := min x.Last y.Last) (x := x) (y := y) (t := t)
        rw [hl] at hasc hm
        obtain ⟨a1, a2⟩ := List.pairwise_cons.1 hasc
        have cnt : ∀ (l : List Int) (c d : Int), l.Pairwise (· < ·) → (∀ t ∈ l, c < t ∧ t ≤ d) → c ≤ d → (l.length : Int) ≤ d - c := by
          intro l
          induction l with
          | nil => intro c d _ _ h; simp; omega
          | cons t l ih =>
            intro c d hp hb _
            obtain ⟨b1, b2⟩ := List.pairwise_cons.1 hp
            have hb1 := hb t List.mem_cons_self
            have := ih t d b2 (fun u hu => ⟨b1 u hu, (hb u (List.mem_cons_of_mem _ hu)).2⟩) hb1.2
            rw [List.length_cons]; omega
        have := cnt l (max x.Floor y.Floor) (min x.Last y.Last) a2 (fun t ht => by
          have h1 := a1 t ht
          rcases (hm t).1 (List.mem_cons_of_mem _ ht) with h | h
          · omega
          · exact ⟨h1, h.2.2⟩) (by omega)
        omega

end Go.Proofs.YtonijgmopcmldaaGreat
