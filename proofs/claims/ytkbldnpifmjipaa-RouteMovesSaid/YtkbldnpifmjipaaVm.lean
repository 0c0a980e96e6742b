/-
  Chapter 30, plain texts: the laws on projections.
  Conditions: none.
-/
import Derived.Test.YtkbldnpifmjipaaVl
set_option linter.all false
namespace Go.Proofs.Ytkbldnpifmjipaa

/-! ### Lists of keys that ascend -/

theorem asc_iff {l : List Str} : ascB l = true ↔ (∀ k ∈ l, kvB k = true) ∧ l.Pairwise (fun a b => sLt a b = true) := by
  have hstep : ascB l = true ↔ ∀ i, i < l.length → kvB (atI l (i : Int)) = true ∧ (0 < i → sLt (atI l ((i : Int) - 1)) (atI l (i : Int)) = true) := by
    unfold ascB
    rw [Bool.not_eq_true', List.any_eq_false]
    constructor
    · intro h i hi
      have := h i (List.mem_range.2 hi)
      simp only [ascBad, Bool.not_eq_true, Bool.or_eq_false_iff, Bool.not_eq_false', Bool.and_eq_false_iff, decide_eq_false_iff_not] at this
      refine ⟨this.1, fun h0 => ?_⟩
      rcases this.2 with h | h
      · exact absurd h0 h
      · exact h
    · intro h i hi
      obtain ⟨h1, h2⟩ := h i (List.mem_range.1 hi)
      simp only [ascBad, Bool.not_eq_true, Bool.or_eq_false_iff, Bool.not_eq_false', Bool.and_eq_false_iff, decide_eq_false_iff_not]
      refine ⟨h1, ?_⟩
      by_cases h0 : 0 < i
      · exact .inr (h2 h0)
      · exact .inl h0
  rw [hstep]
  constructor
  · intro h
    refine ⟨fun k hk => ?_, ?_⟩
    · obtain ⟨i, hi, rfl⟩ := List.mem_iff_getElem.1 hk
      have := (h i hi).1
      rwa [atI_nat hi] at this
    · rw [List.pairwise_iff_getElem]
      have key : ∀ j (hj : j < l.length) i (hi : i < j), sLt (l[i]'(by omega)) l[j] = true := by
        intro j
        induction j with
        | zero => intro _ i hi; omega
        | succ j ih =>
          intro hj i hi
          have hs := (h (j + 1) hj).2 (by omega)
          have e : ((j + 1 : Nat) : Int) - 1 = ((j : Nat) : Int) := by omega
          rw [e, atI_nat (show j < l.length by omega), atI_nat hj] at hs
          by_cases hij : i = j
          · subst hij; exact hs
          · exact sLt_trans (ih (by omega) i (by omega)) hs
      exact fun i j _ hj hij => key j hj i hij
  · rintro ⟨h1, h2⟩ i hi
    refine ⟨h1 _ (at_mem29 hi), fun h0 => ?_⟩
    have e : (i : Int) - 1 = ((i - 1 : Nat) : Int) := by omega
    rw [e, atI_nat (show i - 1 < l.length by omega), atI_nat hi]
    exact List.pairwise_iff_getElem.1 h2 (i - 1) i _ _ (by omega)

theorem asc_filter {l : List Str} (h : ascB l = true) (g : Str → Bool) : ascB (l.filter g) = true := by
  obtain ⟨h1, h2⟩ := asc_iff.1 h
  exact asc_iff.2 ⟨fun k hk => h1 k (List.mem_filter.1 hk).1, h2.filter g⟩

/-! ### Binary search -/

theorem shr_nat (a : Nat) : shrI .u64 ((a : Nat) : Int) 1 = ((a / 2 : Nat) : Int) := by
  unfold shrI
  show Int.fdiv (a : Int) (2 ^ 1) = _
  rw [Int.fdiv_eq_ediv_of_nonneg _ (by decide)]
  omega

theorem less_eq (a b : Str) : F_cmp_Less_string a b = some (sLt a b) := by
  unfold F_cmp_Less_string F_cmp_isNaN_string
  simp [bnd, gcall]

theorem bs_loop {l : List Str} (hl : l.length ≤ 1000) (k : Str) (hp : l.Pairwise (fun a b => sLt a b = true)) (J : Int → Option (Int × Bool)) :
    ∀ (n lo hi : Nat), lo ≤ hi → hi ≤ l.length → hi - lo < n → (∀ i, i < lo → sLt (atI l (i : Int)) k = true) → (∀ i, hi ≤ i → i < l.length → sLt (atI l (i : Int)) k = false) →
      ∃ m : Nat, F_slices_BinarySearch_string_string_L1 l k J n (lo : Int) (hi : Int) = J (m : Int) ∧ m ≤ l.length ∧ (∀ i, i < m → sLt (atI l (i : Int)) k = true) ∧ (∀ i, m ≤ i → i < l.length → sLt (atI l (i : Int)) k = false)
  | 0, lo, hi, _, _, h, _, _ => by omega
  | n + 1, lo, hi, h1, h2, h3, h4, h5 => by
    rw [F_slices_BinarySearch_string_string_L1]
    by_cases hlt : lo < hi
    · have w1 : IntKind.i64.wrap ((lo : Int) + (hi : Int)) = ((lo + hi : Nat) : Int) := by rw [w64 (by omega) (by omega)]; omega
      have w2 : IntKind.u64.wrap ((lo + hi : Nat) : Int) = ((lo + hi : Nat) : Int) := by
        show ((lo + hi : Nat) : Int) % 18446744073709551616 = _
        exact Int.emod_eq_of_lt (by omega) (by omega)
      have w3 : IntKind.i64.wrap (((lo + hi) / 2 : Nat) : Int) = (((lo + hi) / 2 : Nat) : Int) := w64 (by omega) (by omega)
      have w4 : IntKind.i64.wrap ((((lo + hi) / 2 : Nat) : Int) + 1) = (((lo + hi) / 2 + 1 : Nat) : Int) := by rw [w64 (by omega) (by omega)]; omega
      have hm : (lo + hi) / 2 < l.length := by omega
      simp only [show (lo : Int) < (hi : Int) by omega, decide_true, cond_true, w1, w2, shr_nat, w3, w4, show (0 : Int) ≤ 1 by decide, req_t, show (0 : Int) ≤ (((lo + hi) / 2 : Nat) : Int) by omega, show (((lo + hi) / 2 : Nat) : Int) < (l.length : Int) by omega, and_self, less_eq, bnd_mk]
      rw [List.pairwise_iff_getElem] at hp
      cases hs : sLt (atI l (((lo + hi) / 2 : Nat) : Int)) k with
      | true =>
        rw [cond_true]
        refine bs_loop hl k (List.pairwise_iff_getElem.2 hp) J n ((lo + hi) / 2 + 1) hi (by omega) h2 (by omega) (fun i hi' => ?_) h5
        by_cases he : i = (lo + hi) / 2
        · rw [he]; exact hs
        · have hi2 : i < (lo + hi) / 2 := by omega
          have := hp i ((lo + hi) / 2) (by omega) hm hi2
          rw [atI_nat (show i < l.length by omega)]
          rw [atI_nat hm] at hs
          exact sLt_trans this hs
      | false =>
        rw [cond_false]
        refine bs_loop hl k (List.pairwise_iff_getElem.2 hp) J n lo ((lo + hi) / 2) (by omega) (by omega) (by omega) h4 (fun i hi' hil => ?_)
        by_cases he : i = (lo + hi) / 2
        · rw [he]; exact hs
        · have := hp ((lo + hi) / 2) i hm hil (by omega)
          rw [atI_nat hil]
          rw [atI_nat hm] at hs
          cases hc : sLt l[i] k with
          | false => rfl
          | true => rw [sLt_trans this hc] at hs; cases hs
    · have he : lo = hi := by omega
      subst he
      simp only [show ¬ (lo : Int) < (lo : Int) by omega, decide_false, cond_false]
      exact ⟨lo, rfl, h2, h4, h5⟩

theorem bs_eq {l : List Str} (hl : l.length ≤ 1000) (k : Str) (hp : l.Pairwise (fun a b => sLt a b = true)) : ∃ m : Int, F_slices_BinarySearch_string_string l k = some (m, decide (k ∈ l)) := by
  unfold F_slices_BinarySearch_string_string
  simp only [jn_mk]
  obtain ⟨m, h1, h2, h3, h4⟩ := bs_loop hl k hp _ 1000000 0 l.length (by omega) (Nat.le_refl _) (by omega) (fun i hi => by omega) (fun i hi hi2 => by omega)
  have e0 : ((0 : Nat) : Int) = 0 := rfl
  rw [e0] at h1
  rw [h1]
  refine ⟨(m : Int), ?_⟩
  simp only [F_slices_isNaN_string, bne_self_eq_false]
  have hk : (k ∈ l) ↔ (m < l.length ∧ atI l (m : Int) = k) := by
    constructor
    · intro hk
      obtain ⟨j, hj, rfl⟩ := List.mem_iff_getElem.1 hk
      have a1 : ¬ j < m := fun h => by
        have := h3 j h
        rw [atI_nat hj, sLt_irrefl] at this; cases this
      have a2 : ¬ m < j := fun h => by
        have := h4 m (Nat.le_refl _) (by omega)
        rw [atI_nat (show m < l.length by omega), List.pairwise_iff_getElem.1 hp m j (by omega) hj h] at this; cases this
      have : m = j := by omega
      subst this
      exact ⟨hj, atI_nat hj⟩
    · rintro ⟨h, rfl⟩
      exact at_mem29 h
  by_cases hm : m < l.length
  · have hm' : (m : Int) < (l.length : Int) := by omega
    simp only [hm', decide_true, BEq.rfl, cond_true, Bool.and_true, show (0 : Int) ≤ (m : Int) by omega, and_self, implies_true, req_t, Bool.true_and]
    cases hq : (atI l (m : Int) == k) with
    | true =>
      have : k ∈ l := hk.2 ⟨hm, by simpa using hq⟩
      simp [this, gcall, bnd, req]
    | false =>
      have : ¬ k ∈ l := fun h => by
        have := (hk.1 h).2
        rw [this] at hq; simp at hq
      simp [this, gcall, bnd, req]
  · have hm' : ¬ (m : Int) < (l.length : Int) := by omega
    have : ¬ k ∈ l := fun h => hm (hk.1 h).1
    simp [hm', this, gcall, bnd, req]

theorem within_sub {a b : List Str} (ha : a.length ≤ 1000) (hb : b.length ≤ 1000) (hp : a.Pairwise (fun a b => sLt a b = true)) (hs : ∀ k ∈ b, k ∈ a) : F_footprint_within a b = some true := by
  unfold F_footprint_within
  simp only [jn_mk]
  refine (loopAny0 (l := b) (L := fun n i => F_footprint_within_L1 b a (some true) n i) (q := fun k => !decide (k ∈ a)) (E := some false) (J := some true) (by omega) (by omega) ?_ ?_).trans ?_
  · intro n i hi
    try dsimp only
    rw [F_footprint_within_L1]
    obtain ⟨m, hm⟩ := bs_eq ha (atI b (i : Int)) hp
    rw [atI_nat hi] at hm
    simp only [show (i : Int) < (b.length : Int) by omega, decide_true, cond_true, show 0 ≤ (i : Int) by omega, true_and, req_t, atI_nat hi, hm, bnd_mk]
  · intro n
    try dsimp only
    rw [F_footprint_within_L1]
    simp
  · have : (b.any fun k => !decide (k ∈ a)) = false := by rw [List.any_eq_false]; intro k hk; simp [hs k hk]
    rw [this]; rfl

/-! ### Projections -/

variable {p : TPlacement} {f : TFootprint}

theorem owned_loop {ks : List Str} (hk : ks.length ≤ 1000) (q : Str → Bool) : ∀ i, i ≤ ks.length → ((ks.take i).filter q).length ≤ 1000 := fun i hi => by
  have := List.length_filter_le q (ks.take i)
  have h2 : (ks.take i).length ≤ ks.length := by simp; omega
  omega

theorem owned_impl (hp : POk p) (hv : pvB p = true) {ks : List Str} (hk : ks.length ≤ 1000) (x : Int) : F_route_owned p ks x = some (ks.filter fun k => ownerP p k == x) := by
  unfold F_route_owned
  simp only [jn_mk]
  refine (loopSeq (len := ks.length) (by omega) (L := fun n s i => F_route_owned_L1 ks p x (fun x8 => some x8) n s i) (S := fun i => (ks.take i).filter fun k => ownerP p k == x) (J := fun x8 => some x8) ?_ ?_ _ 0 (by omega) (by omega)).trans ?_
  · intro n i hi
    have hlen := owned_loop hk (fun k => ownerP p k == x) i (by omega)
    try dsimp only
    rw [F_route_owned_L1]
    simp only [show (i : Int) < (ks.length : Int) by omega, decide_true, cond_true, show 0 ≤ (i : Int) by omega, and_self, req_t, owner_impl hp.l hp.s (pv_from hv), bnd_mk, jn_mk, List.length_append, List.length_cons, List.length_nil, show (((ks.take i).filter fun k => ownerP p k == x).length + (0 + 1)) * 16 ≤ 140737488355328 by omega]
    have e : (ks.take (i + 1)).filter (fun k => ownerP p k == x) = (ks.take i).filter (fun k => ownerP p k == x) ++ [atI ks (i : Int)].filter (fun k => ownerP p k == x) := by
      rw [List.take_add_one, List.getElem?_eq_getElem hi, atI_nat hi, List.filter_append]; rfl
    rw [e]
    cases hq : (ownerP p (atI ks (i : Int)) == x) <;> simp [hq]
  · intro n
    try dsimp only
    rw [F_route_owned_L1]
    simp
  · simp

theorem owned_ref (hp : POk p) {ks : List Str} (hk : ks.length ≤ 1000) (x : Int) : F_clockworkref30_owned p ks x = some (ks.filter fun k => ownerP p k == x) := by
  unfold F_clockworkref30_owned
  simp only [jn_mk]
  refine (loopSeq (len := ks.length) (by omega) (L := fun n s i => F_clockworkref30_owned_L1 ks p x (fun x8 => some x8) n s i) (S := fun i => (ks.take i).filter fun k => ownerP p k == x) (J := fun x8 => some x8) ?_ ?_ _ 0 (by omega) (by omega)).trans ?_
  · intro n i hi
    have hlen := owned_loop hk (fun k => ownerP p k == x) i (by omega)
    try dsimp only
    rw [F_clockworkref30_owned_L1]
    simp only [show (i : Int) < (ks.length : Int) by omega, decide_true, cond_true, show 0 ≤ (i : Int) by omega, and_self, req_t, owner_ref hp.l hp.s, bnd_mk, jn_mk, List.length_append, List.length_cons, List.length_nil, show (((ks.take i).filter fun k => ownerP p k == x).length + (0 + 1)) * 16 ≤ 140737488355328 by omega]
    have e : (ks.take (i + 1)).filter (fun k => ownerP p k == x) = (ks.take i).filter (fun k => ownerP p k == x) ++ [atI ks (i : Int)].filter (fun k => ownerP p k == x) := by
      rw [List.take_add_one, List.getElem?_eq_getElem hi, atI_nat hi, List.filter_append]; rfl
    rw [e]
    cases hq : (ownerP p (atI ks (i : Int)) == x) <;> simp [hq]
  · intro n
    try dsimp only
    rw [F_clockworkref30_owned_L1]
    simp
  · simp

theorem contains_eq {l : List Int} (hl : l.length < big) (x : Int) : F_slices_Contains_int_int l x = some (l.any fun y => y == x) := by
  unfold F_slices_Contains_int_int F_slices_Index_int_int
  simp only [jn_mk]
  have h := loopFirst (l := l) hl (L := fun n i => F_slices_Index_int_int_L1 l x (some (-1)) n i) (q := fun y => x == y) (fun n i hi => by
    try dsimp only
    rw [F_slices_Index_int_int_L1]
    simp only [show (i : Int) < (l.length : Int) by omega, decide_true, cond_true, show 0 ≤ (i : Int) by omega, true_and, req_t, atI_nat hi]) (fun n => by
    try dsimp only
    rw [F_slices_Index_int_int_L1]
    simp) ((l.length : Int).toNat + 1) 0 (by omega) (by omega)
  have e0 : ((0 : Nat) : Int) = 0 := rfl
  rw [e0] at h
  have h' : F_slices_Index_int_int_L1 l x (some (-1)) ((l.length : Int).toNat + 1) 0 = some (firstIx (fun y => x == y) (l.drop 0) 0) := h
  rw [h', bnd_mk, List.drop_zero, firstIx_nonneg]
  congr 1
  exact any_congr fun y _ => by rw [Bool.eq_iff_iff, beq_iff_eq, beq_iff_eq]; exact eq_comm

def proj30 (p : TPlacement) (f : TFootprint) (x : Int) : TFootprint :=
  if v30 p f = true then (if f.All = true then ⟨(nodesRefP p).any (fun y => y == x), [], []⟩ else ⟨false, f.Reads.filter (fun k => ownerP p k == x), f.Writes.filter (fun k => ownerP p k == x)⟩) else ⟨false, [], []⟩

theorem proj30_impl (hp : POk p) (hf : FOk f) (x : Int) : F_route_Project p f x = some (proj30 p f x) := by
  have hb : ∀ n : Nat, n ≤ 17 → n < big := fun n h => by have e : big = 9223372036854775808 := rfl; omega
  unfold F_route_Project
  rw [valid30_impl hp hf, bnd_mk, proj30]
  cases hv : v30 p f with
  | false => rfl
  | true =>
    obtain ⟨h1, h2⟩ := v30_parts hv
    have hl := fvB_len h2
    simp only [Bool.not_true, cond_false, if_true]
    cases hA : f.All with
    | true => rw [cond_true, nodes_impl hp.l hp.s, nodes_eq, bnd_mk, contains_eq (hb _ (nodesRef_len p)), bnd_mk]; rfl
    | false => rw [cond_false, owned_impl hp h1 (by omega), owned_impl hp h1 (by omega)]; rfl

theorem proj30_ref (hp : POk p) (hf : FOk f) (x : Int) : F_clockworkref30_Project p f x = some (proj30 p f x) := by
  have hb : ∀ n : Nat, n ≤ 17 → n < big := fun n h => by have e : big = 9223372036854775808 := rfl; omega
  unfold F_clockworkref30_Project
  rw [valid30_ref hp hf, bnd_mk, proj30]
  cases hv : v30 p f with
  | false => rfl
  | true =>
    obtain ⟨h1, h2⟩ := v30_parts hv
    have hl := fvB_len h2
    simp only [Bool.not_true, cond_false, if_true]
    cases hA : f.All with
    | true => rw [cond_true, nodes_ref hp.l hp.s, bnd_mk, has_eq (hb _ (nodesRef_len p)), bnd_mk]; rfl
    | false => rw [cond_false, owned_ref hp (by omega), owned_ref hp (by omega)]; rfl

theorem keys_self {l : List Str} (hl : l.length ≤ 1000) : F_clockworkref04_Same l l = some true := by
  unfold F_clockworkref04_Same
  simp only [bne_self_eq_false, cond_false, jn_mk]
  refine (loopAny0 (l := l) (L := fun n i => F_clockworkref04_Same_L1 l l (some true) n i) (q := fun _ => false) (E := some false) (J := some true) (by omega) (by omega) ?_ ?_).trans ?_
  · intro n i hi
    try dsimp only
    rw [F_clockworkref04_Same_L1]
    simp only [show (i : Int) < (l.length : Int) by omega, decide_true, cond_true, show 0 ≤ (i : Int) by omega, true_and, req_t, bne_self_eq_false, cond_false]
  · intro n
    try dsimp only
    rw [F_clockworkref04_Same_L1]
    simp
  · rw [show (l.any fun _ => false) = false by rw [List.any_eq_false]; simp]; rfl

theorem proj_len (x : Int) : (proj30 p f x).Reads.length ≤ 64 ∧ (proj30 p f x).Writes.length ≤ 64 := by
  unfold proj30
  split
  · rename_i hv
    have hl := fvB_len (v30_parts hv).2
    split
    · simp
    · have h1 := List.length_filter_le (fun k => ownerP p k == x) f.Reads
      have h2 := List.length_filter_le (fun k => ownerP p k == x) f.Writes
      exact ⟨Nat.le_trans h1 hl.1, Nat.le_trans h2 hl.2⟩
  · simp

theorem plain_RouteProjects (x0 : TPlacement) (x1 : TFootprint) (x2 : Int) (o0 : okTPlacement x0) (o1 : okTFootprint x1) (_ : (okI .i64) x2) : F_clockworklaw30_RouteProjects x0 x1 x2 = some true := by
  have hp := okP30 o0
  have hf := okF30 o1
  have hl := proj_len (p := x0) (f := x1) x2
  unfold F_clockworklaw30_RouteProjects
  rw [proj30_impl hp hf, bnd_mk, proj30_ref hp hf, bnd_mk, examples_true]
  unfold F_clockworkref19_Same
  rw [keys_self (by omega), keys_self (by omega)]
  simp [bnd, gcall]

end Go.Proofs.Ytkbldnpifmjipaa
namespace Go.Proofs.Ytkbldnpifmjipaa

variable {p : TPlacement} {f : TFootprint}

theorem hasS_eq {l : List Str} (hl : l.length ≤ 1000) (k : Str) : F_clockworklaw30_has l k = some (l.any fun y => y == k) := by
  unfold F_clockworklaw30_has
  simp only [jn_mk]
  refine (loopAny0 (l := l) (L := fun n i => F_clockworklaw30_has_L1 l k (some false) n i) (q := fun y => y == k) (E := some true) (J := some false) (by omega) (by omega) ?_ ?_).trans ?_
  · intro n i hi
    try dsimp only
    rw [F_clockworklaw30_has_L1]
    simp only [show (i : Int) < (l.length : Int) by omega, decide_true, cond_true, show 0 ≤ (i : Int) by omega, true_and, req_t, atI_nat hi]
  · intro n
    try dsimp only
    rw [F_clockworklaw30_has_L1]
    simp
  · cases (l.any fun y => y == k) <;> rfl

theorem hasS_mem {l : List Str} (hl : l.length ≤ 1000) {k : Str} (hk : k ∈ l) : F_clockworklaw30_has l k = some true := by
  rw [hasS_eq hl]
  congr 1
  rw [List.any_eq_true]
  exact ⟨k, hk, by simp⟩

theorem part_L3 (hp : POk p) (hv : pvB p = true) {q : TFootprint} {x : Int} (hl : q.Reads.length ≤ 64) (hf : f.Reads.length ≤ 64) (h : ∀ k ∈ q.Reads, ownerP p k = x ∧ k ∈ f.Reads) (J : Option Bool) :
    F_clockworklaw30_RoutePartition_L3 q p x f J ((q.Reads.length : Int).toNat + 1) 0 = J := by
  refine (loopAny0 (l := q.Reads) (L := fun n i => F_clockworklaw30_RoutePartition_L3 q p x f J n i) (q := fun _ => false) (E := some false) (J := J) (by omega) (by omega) ?_ ?_).trans ?_
  · intro n i hi
    try dsimp only
    rw [F_clockworklaw30_RoutePartition_L3]
    obtain ⟨h1, h2⟩ := h _ (at_mem29 hi)
    have e : (x != x) = false := bne_self_eq_false x
    simp only [show (i : Int) < (q.Reads.length : Int) by omega, decide_true, cond_true, show 0 ≤ (i : Int) by omega, and_self, implies_true, req_t, owner_impl hp.l hp.s (pv_from hv), h1, bnd_mk, e, BEq.rfl, gcall_t, hasS_mem (show f.Reads.length ≤ 1000 by omega) h2, Bool.not_true, Bool.or_self, cond_false]
  · intro n
    try dsimp only
    rw [F_clockworklaw30_RoutePartition_L3]
    simp
  · rw [show (q.Reads.any fun _ => false) = false by rw [List.any_eq_false]; simp]; rfl

theorem part_L2 (hp : POk p) (hv : pvB p = true) {q : TFootprint} {x : Int} (hl : q.Writes.length ≤ 64) (hf : f.Writes.length ≤ 64) (h : ∀ k ∈ q.Writes, ownerP p k = x ∧ k ∈ f.Writes) (J : Int → Int → Option Bool) (a b : Int) :
    F_clockworklaw30_RoutePartition_L2 q p x f J a b ((q.Writes.length : Int).toNat + 1) 0 = J (IntKind.i64.wrap (a + (q.Reads.length : Int))) (IntKind.i64.wrap (b + (q.Writes.length : Int))) := by
  refine (loopAny0 (l := q.Writes) (L := fun n i => F_clockworklaw30_RoutePartition_L2 q p x f J a b n i) (q := fun _ => false) (E := some false) (J := J (IntKind.i64.wrap (a + (q.Reads.length : Int))) (IntKind.i64.wrap (b + (q.Writes.length : Int)))) (by omega) (by omega) ?_ ?_).trans ?_
  · intro n i hi
    try dsimp only
    rw [F_clockworklaw30_RoutePartition_L2]
    obtain ⟨h1, h2⟩ := h _ (at_mem29 hi)
    have e : (x != x) = false := bne_self_eq_false x
    simp only [show (i : Int) < (q.Writes.length : Int) by omega, decide_true, cond_true, show 0 ≤ (i : Int) by omega, and_self, implies_true, req_t, owner_impl hp.l hp.s (pv_from hv), h1, bnd_mk, e, BEq.rfl, gcall_t, hasS_mem (show f.Writes.length ≤ 1000 by omega) h2, Bool.not_true, Bool.or_self, cond_false]
  · intro n
    try dsimp only
    rw [F_clockworklaw30_RoutePartition_L2]
    simp
  · rw [show (q.Writes.any fun _ => false) = false by rw [List.any_eq_false]; simp]; rfl

/-- How many keys belong to a node below i. -/
def cnt (p : TPlacement) (l : List Str) (i : Int) : Nat := l.countP fun k => decide (ownerP p k < i)

theorem cnt_step (l : List Str) (i : Int) : cnt p l (i + 1) = cnt p l i + (l.filter fun k => ownerP p k == i).length := by
  unfold cnt
  induction l with
  | nil => rfl
  | cons k l ih =>
    rw [List.countP_cons, List.countP_cons, ih, List.filter_cons]
    by_cases h1 : ownerP p k < i
    · have h2 : ownerP p k < i + 1 := by omega
      have h3 : (ownerP p k == i) = false := by rw [beq_eq_false_iff_ne]; omega
      simp [h1, h2, h3]; omega
    · by_cases h4 : ownerP p k = i
      · have h2 : ownerP p k < i + 1 := by omega
        have h3 : (ownerP p k == i) = true := by simp [h4]
        simp only [h1, h2, h3, decide_true, decide_false, if_true, List.length_cons]
        simp
        omega
      · have h2 : ¬ ownerP p k < i + 1 := by omega
        have h3 : (ownerP p k == i) = false := by rw [beq_eq_false_iff_ne]; exact h4
        simp [h1, h2, h3]

theorem cnt_zero (hv : pvB p = true) (l : List Str) : cnt p l 0 = 0 := by
  unfold cnt
  rw [List.countP_eq_zero]
  intro k _
  have := owner_rng hv k
  simp; omega

theorem cnt_all (hv : pvB p = true) (l : List Str) : cnt p l 18 = l.length := by
  unfold cnt
  rw [List.countP_eq_length]
  intro k _
  have := owner_rng hv k
  simp; omega

theorem cnt_le (l : List Str) (i : Int) : cnt p l i ≤ l.length := List.countP_le_length

theorem filt_ok {l : List Str} {x : Int} : ∀ k ∈ l.filter (fun k => ownerP p k == x), ownerP p k = x ∧ k ∈ l := fun k hk => by
  obtain ⟨h1, h2⟩ := List.mem_filter.1 hk
  exact ⟨by simpa using h2, h1⟩

theorem filt_pos {l : List Str} {x : Int} : 0 < (l.filter (fun k => ownerP p k == x)).length ↔ ∃ k ∈ l, ownerP p k = x := by
  rw [List.length_pos_iff_exists_mem]
  constructor
  · rintro ⟨k, hk⟩
    obtain ⟨h1, h2⟩ := filt_ok k hk
    exact ⟨k, h2, h1⟩
  · rintro ⟨k, h1, h2⟩
    exact ⟨k, List.mem_filter.2 ⟨h1, by simpa using h2⟩⟩

theorem part_L1 (hp : POk p) (hf : FOk f) (hv : v30 p f = true) (hA : f.All = false) (J : Int → Int → Option Bool) : ∀ n (i : Nat), i ≤ 18 → 18 < n + i →
    F_clockworklaw30_RoutePartition_L1 p f (nodes30 p f) J n (cnt p f.Reads (i : Int) : Nat) (cnt p f.Writes (i : Int) : Nat) (i : Int) = J (f.Reads.length : Nat) (f.Writes.length : Nat)
  | 0, i, h1, h2 => by omega
  | n + 1, i, h1, h2 => by
    obtain ⟨hv1, hv2⟩ := v30_parts hv
    have hl := fvB_len hv2
    have hb : ∀ n : Nat, n ≤ 17 → n < big := fun n h => by have e : big = 9223372036854775808 := rfl; omega
    rw [F_clockworklaw30_RoutePartition_L1]
    by_cases hi : i < 18
    · have ih := part_L1 hp hf hv hA J n (i + 1) (by omega) (by omega)
      have hproj : proj30 p f (i : Int) = ⟨false, f.Reads.filter (fun k => ownerP p k == (i : Int)), f.Writes.filter (fun k => ownerP p k == (i : Int))⟩ := by
        unfold proj30; rw [if_pos hv, if_neg (by simp [hA])]
      have hr := List.length_filter_le (fun k => ownerP p k == (i : Int)) f.Reads
      have hw := List.length_filter_le (fun k => ownerP p k == (i : Int)) f.Writes
      have hnodes : nodes30 p f = ownersP p (f.Reads ++ f.Writes) := by unfold nodes30; rw [if_pos hv, if_neg (by simp [hA])]
      have hasn : ((nodes30 p f).any fun y => y == (i : Int)) = (decide (0 < (f.Reads.filter fun k => ownerP p k == (i : Int)).length) || decide (0 < (f.Writes.filter fun k => ownerP p k == (i : Int)).length)) := by
        rw [Bool.eq_iff_iff, any_mem, hnodes, ownersP_mem hv1, Bool.or_eq_true, decide_eq_true_eq, decide_eq_true_eq, filt_pos, filt_pos]
        constructor
        · rintro ⟨k, hk, he⟩
          rcases List.mem_append.1 hk with h | h
          · exact .inl ⟨k, h, he⟩
          · exact .inr ⟨k, h, he⟩
        · rintro (⟨k, hk, he⟩ | ⟨k, hk, he⟩)
          · exact ⟨k, by simp [hk], he⟩
          · exact ⟨k, by simp [hk], he⟩
      have e1 : decide ((0 : Int) < (((f.Reads.filter fun k => ownerP p k == (i : Int)).length : Nat) : Int)) = decide (0 < (f.Reads.filter fun k => ownerP p k == (i : Int)).length) := by rw [Bool.eq_iff_iff, decide_eq_true_eq, decide_eq_true_eq]; omega
      have e2 : decide ((0 : Int) < (((f.Writes.filter fun k => ownerP p k == (i : Int)).length : Nat) : Int)) = decide (0 < (f.Writes.filter fun k => ownerP p k == (i : Int)).length) := by rw [Bool.eq_iff_iff, decide_eq_true_eq, decide_eq_true_eq]; omega
      have hfv := hv2
      unfold fvB at hfv
      rw [if_neg (by simp [hA])] at hfv
      simp only [Bool.and_eq_true, decide_eq_true_eq] at hfv
      have hok : FOk (⟨false, f.Reads.filter (fun k => ownerP p k == (i : Int)), f.Writes.filter (fun k => ownerP p k == (i : Int))⟩ : TFootprint) :=
        ⟨by have := hf.r; show (f.Reads.filter _).length < _; omega, by have := hf.w; show (f.Writes.filter _).length < _; omega, fun k hk => hf.rk k (List.mem_filter.1 hk).1, fun k hk => hf.wk k (List.mem_filter.1 hk).1⟩
      have hfq : fvB (⟨false, f.Reads.filter (fun k => ownerP p k == (i : Int)), f.Writes.filter (fun k => ownerP p k == (i : Int))⟩ : TFootprint) = true := by
        unfold fvB
        rw [if_neg (by simp)]
        simp only [Bool.and_eq_true, decide_eq_true_eq]
        exact ⟨⟨⟨by omega, by omega⟩, asc_filter hfv.1.2 _⟩, asc_filter hfv.2 _⟩
      have hcov : F_footprint_Covers f (⟨false, f.Reads.filter (fun k => ownerP p k == (i : Int)), f.Writes.filter (fun k => ownerP p k == (i : Int))⟩ : TFootprint) = some true := by
        unfold F_footprint_Covers
        rw [fvalid_impl hf, bnd_mk, fvalid_impl hok, hfq, hv2]
        rw [within_sub (a := f.Reads) (b := f.Reads.filter (fun k => ownerP p k == (i : Int))) (by omega) (by omega) (asc_iff.1 hfv.1.2).2 (fun k hk => (List.mem_filter.1 hk).1), within_sub (a := f.Writes) (b := f.Writes.filter (fun k => ownerP p k == (i : Int))) (by omega) (by omega) (asc_iff.1 hfv.2).2 (fun k hk => (List.mem_filter.1 hk).1)]
        simp [hA, bnd, gcall]
      simp only [show (i : Int) ≤ 17 by omega, decide_true, cond_true, jn_mk, proj30_impl hp hf, bnd_mk, hproj, hA, cond_false, BEq.rfl, gcall_t, has_eq (hb _ nodes30_len), hasn, e1, e2, Bool.false_or, Bool.not_true, hcov]
      rw [part_L2 hp hv1 (by show (f.Writes.filter _).length ≤ 64; omega) hl.2 filt_ok, part_L3 hp hv1 (by show (f.Reads.filter _).length ≤ 64; omega) hl.1 filt_ok]
      have c1 := cnt_step (p := p) f.Reads (i : Int)
      have c2 := cnt_step (p := p) f.Writes (i : Int)
      have d1 := cnt_le (p := p) f.Reads (i : Int)
      have d2 := cnt_le (p := p) f.Writes (i : Int)
      have ei : ((i : Int) + 1) = ((i + 1 : Nat) : Int) := by omega
      rw [ei] at c1 c2
      dsimp only
      rw [wrap_succ (by omega), w64 (by omega) (by omega), w64 (by omega) (by omega)]
      rw [c1, c2] at ih
      simpa using ih
    · have he : i = 18 := by omega
      subst he
      simp only [show ¬ ((18 : Nat) : Int) ≤ 17 by omega, decide_false, cond_false]
      have a1 : cnt p f.Reads ((18 : Nat) : Int) = f.Reads.length := cnt_all hv1 _
      have a2 : cnt p f.Writes ((18 : Nat) : Int) = f.Writes.length := cnt_all hv1 _
      rw [a1, a2]

theorem part_L1A (hp : POk p) (hf : FOk f) (hv : v30 p f = true) (hA : f.All = true) (J : Int → Int → Option Bool) (a b : Int) : ∀ n (i : Nat), i ≤ 18 → 18 < n + i →
    F_clockworklaw30_RoutePartition_L1 p f (nodes30 p f) J n a b (i : Int) = J a b
  | 0, i, h1, h2 => by omega
  | n + 1, i, h1, h2 => by
    have hb : ∀ n : Nat, n ≤ 17 → n < big := fun n h => by have e : big = 9223372036854775808 := rfl; omega
    rw [F_clockworklaw30_RoutePartition_L1]
    by_cases hi : i < 18
    · have ih := part_L1A hp hf hv hA J a b n (i + 1) (by omega) (by omega)
      have hproj : proj30 p f (i : Int) = ⟨(nodesRefP p).any (fun y => y == (i : Int)), [], []⟩ := by unfold proj30; rw [if_pos hv, if_pos hA]
      have hnodes : nodes30 p f = nodesRefP p := by unfold nodes30; rw [if_pos hv, if_pos hA]
      simp only [show (i : Int) ≤ 17 by omega, decide_true, cond_true, jn_mk, proj30_impl hp hf, bnd_mk, hproj, hA, has_eq (hb _ (nodesRef_len p)), hnodes, BEq.rfl, Bool.not_true, List.length_nil, Bool.false_or]
      rw [wrap_succ (by omega)]
      rw [hnodes] at ih
      simpa using ih
    · simp only [show ¬ (i : Int) ≤ 17 by omega, decide_false, cond_false]

theorem plain_RoutePartition (x0 : TPlacement) (x1 : TFootprint) (o0 : okTPlacement x0) (o1 : okTFootprint x1) : F_clockworklaw30_RoutePartition x0 x1 = some true := by
  have hp := okP30 o0
  have hf := okF30 o1
  unfold F_clockworklaw30_RoutePartition
  rw [nodes30_impl hp hf, bnd_mk, valid29_impl hp.l hp.s, bnd_mk, fvalid_impl hf, examples_true]
  cases hv : v30 x0 x1 with
  | false =>
    have e1 : nodes30 x0 x1 = [] := by simp [nodes30, hv]
    rw [e1]
    simp only [v30] at hv
    cases h1 : pvB x0 with
    | false => rfl
    | true =>
      have h2 : fvB x1 = false := by simpa [h1] using hv
      rw [h2]; rfl
  | true =>
    obtain ⟨h1, h2⟩ := v30_parts hv
    rw [h1, h2]
    simp only [Bool.not_true, BEq.rfl, gcall_t, bnd_mk, Bool.or_self, cond_false, jn_mk]
    cases hA : x1.All with
    | true =>
      have := part_L1A hp hf hv hA (fun (x15 : Int) (x16 : Int) => (bnd (gcall (((true || ((x15 == (((x1.Reads).length : Nat) : Int)) && (x16 == (((x1.Writes).length : Nat) : Int))))) == true) (some true)) fun x22 => (some ((true || ((x15 == (((x1.Reads).length : Nat) : Int)) && (x16 == (((x1.Writes).length : Nat) : Int)))) && x22)))) 0 0 ((17 : Int).toNat + 2) 0 (by omega) (by decide)
      have e0 : ((0 : Nat) : Int) = 0 := rfl
      rw [e0] at this
      rw [this]
      rfl
    | false =>
      have := part_L1 hp hf hv hA (fun (x15 : Int) (x16 : Int) => (bnd (gcall (((false || ((x15 == (((x1.Reads).length : Nat) : Int)) && (x16 == (((x1.Writes).length : Nat) : Int))))) == true) (some true)) fun x22 => (some ((false || ((x15 == (((x1.Reads).length : Nat) : Int)) && (x16 == (((x1.Writes).length : Nat) : Int)))) && x22)))) ((17 : Int).toNat + 2) 0 (by omega) (by decide)
      have e0 : ((0 : Nat) : Int) = 0 := rfl
      rw [e0, cnt_zero h1, cnt_zero h1, e0] at this
      rw [this]
      simp [bnd, gcall]

end Go.Proofs.Ytkbldnpifmjipaa
