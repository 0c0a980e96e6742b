/-
  Chapter 30, plain texts: the law on the parts of a footprint.
  Conditions: none.
-/
import Derived.Test.YtkbldnpifmjipaaVm
set_option linter.all false
namespace Go.Proofs.Ytkbldnpifmjipaa

variable {p : TPlacement} {f : TFootprint}

theorem hasS_eq {l : List Str} (hl : l.length ≤ 1000) (k : Str) : F_clockworklaw30_has l k = some (l.any fun y => y == k) := by
  unfold F_clockworklaw30_has
  simp only [jn_mk]
  refine (loopAny0 (l := l) (L := fun n i => F_clockworklaw30_has_L1 l k (some false) n i) (q := fun y => y == k) (E := some true) (J := some false) (by omega) (by omega) ?_ ?_).trans ?_
  · intro n i hi
    try dsimp only
    rw [F_clockworklaw30_has_L1]
    simp only [show (i : Int) < (l.length : Int) by omega, decide_true, cond_true, show 0 ≤ (i : Int) by omega, true_and, req_t, atI_nat hi]
  · intro n
    try dsimp only
    rw [F_clockworklaw30_has_L1]
    simp
  · cases (l.any fun y => y == k) <;> rfl

theorem hasS_mem {l : List Str} (hl : l.length ≤ 1000) {k : Str} (hk : k ∈ l) : F_clockworklaw30_has l k = some true := by
  rw [hasS_eq hl]
  congr 1
  rw [List.any_eq_true]
  exact ⟨k, hk, by simp⟩

theorem part_L3 (hp : POk p) (hv : pvB p = true) {q : TFootprint} {x : Int} (hl : q.Reads.length ≤ 64) (hf : f.Reads.length ≤ 64) (h : ∀ k ∈ q.Reads, ownerP p k = x ∧ k ∈ f.Reads) (J : Option Bool) :
    F_clockworklaw30_RoutePartition_L3 q p x f J ((q.Reads.length : Int).toNat + 1) 0 = J := by
  refine (loopAny0 (l := q.Reads) (L := fun n i => F_clockworklaw30_RoutePartition_L3 q p x f J n i) (q := fun _ => false) (E := some false) (J := J) (by omega) (by omega) ?_ ?_).trans ?_
  · intro n i hi
    try dsimp only
    rw [F_clockworklaw30_RoutePartition_L3]
    obtain ⟨h1, h2⟩ := h _ (at_mem29 hi)
    have e : (x != x) = false := bne_self_eq_false x
    simp only [show (i : Int) < (q.Reads.length : Int) by omega, decide_true, cond_true, show 0 ≤ (i : Int) by omega, and_self, implies_true, req_t, owner_impl hp.l hp.s (pv_from hv), h1, bnd_mk, e, BEq.rfl, gcall_t, hasS_mem (show f.Reads.length ≤ 1000 by omega) h2, Bool.not_true, Bool.or_self, cond_false]
  · intro n
    try dsimp only
    rw [F_clockworklaw30_RoutePartition_L3]
    simp
  · rw [show (q.Reads.any fun _ => false) = false by rw [List.any_eq_false]; simp]; rfl

theorem part_L2 (hp : POk p) (hv : pvB p = true) {q : TFootprint} {x : Int} (hl : q.Writes.length ≤ 64) (hf : f.Writes.length ≤ 64) (h : ∀ k ∈ q.Writes, ownerP p k = x ∧ k ∈ f.Writes) (J : Int → Int → Option Bool) (a b : Int) :
    F_clockworklaw30_RoutePartition_L2 q p x f J a b ((q.Writes.length : Int).toNat + 1) 0 = J (IntKind.i64.wrap (a + (q.Reads.length : Int))) (IntKind.i64.wrap (b + (q.Writes.length : Int))) := by
  refine (loopAny0 (l := q.Writes) (L := fun n i => F_clockworklaw30_RoutePartition_L2 q p x f J a b n i) (q := fun _ => false) (E := some false) (J := J (IntKind.i64.wrap (a + (q.Reads.length : Int))) (IntKind.i64.wrap (b + (q.Writes.length : Int)))) (by omega) (by omega) ?_ ?_).trans ?_
  · intro n i hi
    try dsimp only
    rw [F_clockworklaw30_RoutePartition_L2]
    obtain ⟨h1, h2⟩ := h _ (at_mem29 hi)
    have e : (x != x) = false := bne_self_eq_false x
    simp only [show (i : Int) < (q.Writes.length : Int) by omega, decide_true, cond_true, show 0 ≤ (i : Int) by omega, and_self, implies_true, req_t, owner_impl hp.l hp.s (pv_from hv), h1, bnd_mk, e, BEq.rfl, gcall_t, hasS_mem (show f.Writes.length ≤ 1000 by omega) h2, Bool.not_true, Bool.or_self, cond_false]
  · intro n
    try dsimp only
    rw [F_clockworklaw30_RoutePartition_L2]
    simp
  · rw [show (q.Writes.any fun _ => false) = false by rw [List.any_eq_false]; simp]; rfl

/-- How many keys belong to a node below i. -/
def cnt (p : TPlacement) (l : List Str) (i : Int) : Nat := l.countP fun k => decide (ownerP p k < i)

theorem cnt_step (l : List Str) (i : Int) : cnt p l (i + 1) = cnt p l i + (l.filter fun k => ownerP p k == i).length := by
  unfold cnt
  induction l with
  | nil => rfl
  | cons k l ih =>
    rw [List.countP_cons, List.countP_cons, ih, List.filter_cons]
    by_cases h1 : ownerP p k < i
    · have h2 : ownerP p k < i + 1 := by omega
      have h3 : (ownerP p k == i) = false := by rw [beq_eq_false_iff_ne]; omega
      simp [h1, h2, h3]; omega
    · by_cases h4 : ownerP p k = i
      · have h2 : ownerP p k < i + 1 := by omega
        have h3 : (ownerP p k == i) = true := by simp [h4]
        simp only [h1, h2, h3, decide_true, decide_false, if_true, List.length_cons]
        simp
        omega
      · have h2 : ¬ ownerP p k < i + 1 := by omega
        have h3 : (ownerP p k == i) = false := by rw [beq_eq_false_iff_ne]; exact h4
        simp [h1, h2, h3]

theorem cnt_zero (hv : pvB p = true) (l : List Str) : cnt p l 0 = 0 := by
  unfold cnt
  rw [List.countP_eq_zero]
  intro k _
  have := owner_rng hv k
  simp; omega

theorem cnt_all (hv : pvB p = true) (l : List Str) : cnt p l 18 = l.length := by
  unfold cnt
  rw [List.countP_eq_length]
  intro k _
  have := owner_rng hv k
  simp; omega

theorem cnt_le (l : List Str) (i : Int) : cnt p l i ≤ l.length := List.countP_le_length

theorem filt_ok {l : List Str} {x : Int} : ∀ k ∈ l.filter (fun k => ownerP p k == x), ownerP p k = x ∧ k ∈ l := fun k hk => by
  obtain ⟨h1, h2⟩ := List.mem_filter.1 hk
  exact ⟨by simpa using h2, h1⟩

theorem filt_pos {l : List Str} {x : Int} : 0 < (l.filter (fun k => ownerP p k == x)).length ↔ ∃ k ∈ l, ownerP p k = x := by
  rw [List.length_pos_iff_exists_mem]
  constructor
  · rintro ⟨k, hk⟩
    obtain ⟨h1, h2⟩ := filt_ok k hk
    exact ⟨k, h2, h1⟩
  · rintro ⟨k, h1, h2⟩
    exact ⟨k, List.mem_filter.2 ⟨h1, by simpa using h2⟩⟩

theorem part_L1 (hp : POk p) (hf : FOk f) (hv : v30 p f = true) (hA : f.All = false) (J : Int → Int → Option Bool) : ∀ n (i : Nat), i ≤ 18 → 18 < n + i →
    F_clockworklaw30_RoutePartition_L1 p f (nodes30 p f) J n (cnt p f.Reads (i : Int) : Nat) (cnt p f.Writes (i : Int) : Nat) (i : Int) = J (f.Reads.length : Nat) (f.Writes.length : Nat)
  | 0, i, h1, h2 => by omega
  | n + 1, i, h1, h2 => by
    obtain ⟨hv1, hv2⟩ := v30_parts hv
    have hl := fvB_len hv2
    have hb : ∀ n : Nat, n ≤ 17 → n < big := fun n h => by have e : big = 9223372036854775808 := rfl; omega
    rw [F_clockworklaw30_RoutePartition_L1]
    by_cases hi : i < 18
    · have ih := part_L1 hp hf hv hA J n (i + 1) (by omega) (by omega)
      have hproj : proj30 p f (i : Int) = ⟨false, f.Reads.filter (fun k => ownerP p k == (i : Int)), f.Writes.filter (fun k => ownerP p k == (i : Int))⟩ := by
        unfold proj30; rw [if_pos hv, if_neg (by simp [hA])]
      have hr := List.length_filter_le (fun k => ownerP p k == (i : Int)) f.Reads
      have hw := List.length_filter_le (fun k => ownerP p k == (i : Int)) f.Writes
      have hnodes : nodes30 p f = ownersP p (f.Reads ++ f.Writes) := by unfold nodes30; rw [if_pos hv, if_neg (by simp [hA])]
      have hasn : ((nodes30 p f).any fun y => y == (i : Int)) = (decide (0 < (f.Reads.filter fun k => ownerP p k == (i : Int)).length) || decide (0 < (f.Writes.filter fun k => ownerP p k == (i : Int)).length)) := by
        rw [Bool.eq_iff_iff, any_mem, hnodes, ownersP_mem hv1, Bool.or_eq_true, decide_eq_true_eq, decide_eq_true_eq, filt_pos, filt_pos]
        constructor
        · rintro ⟨k, hk, he⟩
          rcases List.mem_append.1 hk with h | h
          · exact .inl ⟨k, h, he⟩
          · exact .inr ⟨k, h, he⟩
        · rintro (⟨k, hk, he⟩ | ⟨k, hk, he⟩)
          · exact ⟨k, by simp [hk], he⟩
          · exact ⟨k, by simp [hk], he⟩
      have e1 : decide ((0 : Int) < (((f.Reads.filter fun k => ownerP p k == (i : Int)).length : Nat) : Int)) = decide (0 < (f.Reads.filter fun k => ownerP p k == (i : Int)).length) := by rw [Bool.eq_iff_iff, decide_eq_true_eq, decide_eq_true_eq]; omega
      have e2 : decide ((0 : Int) < (((f.Writes.filter fun k => ownerP p k == (i : Int)).length : Nat) : Int)) = decide (0 < (f.Writes.filter fun k => ownerP p k == (i : Int)).length) := by rw [Bool.eq_iff_iff, decide_eq_true_eq, decide_eq_true_eq]; omega
      have hfv := hv2
      unfold fvB at hfv
      rw [if_neg (by simp [hA])] at hfv
      simp only [Bool.and_eq_true, decide_eq_true_eq] at hfv
      have hok : FOk (⟨false, f.Reads.filter (fun k => ownerP p k == (i : Int)), f.Writes.filter (fun k => ownerP p k == (i : Int))⟩ : TFootprint) :=
        ⟨by have := hf.r; show (f.Reads.filter _).length < _; omega, by have := hf.w; show (f.Writes.filter _).length < _; omega, fun k hk => hf.rk k (List.mem_filter.1 hk).1, fun k hk => hf.wk k (List.mem_filter.1 hk).1⟩
      have hfq : fvB (⟨false, f.Reads.filter (fun k => ownerP p k == (i : Int)), f.Writes.filter (fun k => ownerP p k == (i : Int))⟩ : TFootprint) = true := by
        unfold fvB
        rw [if_neg (by simp)]
        simp only [Bool.and_eq_true, decide_eq_true_eq]
        exact ⟨⟨⟨by omega, by omega⟩, asc_filter hfv.1.2 _⟩, asc_filter hfv.2 _⟩
      have hcov : F_footprint_Covers f (⟨false, f.Reads.filter (fun k => ownerP p k == (i : Int)), f.Writes.filter (fun k => ownerP p k == (i : Int))⟩ : TFootprint) = some true := by
        unfold F_footprint_Covers
        rw [fvalid_impl hf, bnd_mk, fvalid_impl hok, hfq, hv2]
        rw [within_sub (a := f.Reads) (b := f.Reads.filter (fun k => ownerP p k == (i : Int))) (by omega) (by omega) (asc_iff.1 hfv.1.2).2 (fun k hk => (List.mem_filter.1 hk).1), within_sub (a := f.Writes) (b := f.Writes.filter (fun k => ownerP p k == (i : Int))) (by omega) (by omega) (asc_iff.1 hfv.2).2 (fun k hk => (List.mem_filter.1 hk).1)]
        simp [hA, bnd, gcall]
      simp only [show (i : Int) ≤ 17 by omega, decide_true, cond_true, jn_mk, proj30_impl hp hf, bnd_mk, hproj, hA, cond_false, BEq.rfl, gcall_t, has_eq (hb _ nodes30_len), hasn, e1, e2, Bool.false_or, Bool.not_true, hcov]
      rw [part_L2 hp hv1 (by show (f.Writes.filter _).length ≤ 64; omega) hl.2 filt_ok, part_L3 hp hv1 (by show (f.Reads.filter _).length ≤ 64; omega) hl.1 filt_ok]
      have c1 := cnt_step (p := p) f.Reads (i : Int)
      have c2 := cnt_step (p := p) f.Writes (i : Int)
      have d1 := cnt_le (p := p) f.Reads (i : Int)
      have d2 := cnt_le (p := p) f.Writes (i : Int)
      have ei : ((i : Int) + 1) = ((i + 1 : Nat) : Int) := by omega
      rw [ei] at c1 c2
      dsimp only
      rw [wrap_succ (by omega), w64 (by omega) (by omega), w64 (by omega) (by omega)]
      rw [c1, c2] at ih
      simpa using ih
    · have he : i = 18 := by omega
      subst he
      simp only [show ¬ ((18 : Nat) : Int) ≤ 17 by omega, decide_false, cond_false]
      have a1 : cnt p f.Reads ((18 : Nat) : Int) = f.Reads.length := cnt_all hv1 _
      have a2 : cnt p f.Writes ((18 : Nat) : Int) = f.Writes.length := cnt_all hv1 _
      rw [a1, a2]

theorem part_L1A (hp : POk p) (hf : FOk f) (hv : v30 p f = true) (hA : f.All = true) (J : Int → Int → Option Bool) (a b : Int) : ∀ n (i : Nat), i ≤ 18 → 18 < n + i →
    F_clockworklaw30_RoutePartition_L1 p f (nodes30 p f) J n a b (i : Int) = J a b
  | 0, i, h1, h2 => by omega
  | n + 1, i, h1, h2 => by
    have hb : ∀ n : Nat, n ≤ 17 → n < big := fun n h => by have e : big = 9223372036854775808 := rfl; omega
    rw [F_clockworklaw30_RoutePartition_L1]
    by_cases hi : i < 18
    · have ih := part_L1A hp hf hv hA J a b n (i + 1) (by omega) (by omega)
      have hproj : proj30 p f (i : Int) = ⟨(nodesRefP p).any (fun y => y == (i : Int)), [], []⟩ := by unfold proj30; rw [if_pos hv, if_pos hA]
      have hnodes : nodes30 p f = nodesRefP p := by unfold nodes30; rw [if_pos hv, if_pos hA]
      simp only [show (i : Int) ≤ 17 by omega, decide_true, cond_true, jn_mk, proj30_impl hp hf, bnd_mk, hproj, hA, has_eq (hb _ (nodesRef_len p)), hnodes, BEq.rfl, Bool.not_true, List.length_nil, Bool.false_or]
      rw [wrap_succ (by omega)]
      rw [hnodes] at ih
      simpa using ih
    · simp only [show ¬ (i : Int) ≤ 17 by omega, decide_false, cond_false]

theorem plain_RoutePartition (x0 : TPlacement) (x1 : TFootprint) (o0 : okTPlacement x0) (o1 : okTFootprint x1) : F_clockworklaw30_RoutePartition x0 x1 = some true := by
  have hp := okP30 o0
  have hf := okF30 o1
  unfold F_clockworklaw30_RoutePartition
  rw [nodes30_impl hp hf, bnd_mk, valid29_impl hp.l hp.s, bnd_mk, fvalid_impl hf, examples_true]
  cases hv : v30 x0 x1 with
  | false =>
    have e1 : nodes30 x0 x1 = [] := by simp [nodes30, hv]
    rw [e1]
    simp only [v30] at hv
    cases h1 : pvB x0 with
    | false => rfl
    | true =>
      have h2 : fvB x1 = false := by simpa [h1] using hv
      rw [h2]; rfl
  | true =>
    obtain ⟨h1, h2⟩ := v30_parts hv
    rw [h1, h2]
    simp only [Bool.not_true, BEq.rfl, gcall_t, bnd_mk, Bool.or_self, cond_false, jn_mk]
    cases hA : x1.All with
    | true =>
      have := part_L1A hp hf hv hA (fun (x15 : Int) (x16 : Int) => (bnd (gcall (((true || ((x15 == (((x1.Reads).length : Nat) : Int)) && (x16 == (((x1.Writes).length : Nat) : Int))))) == true) (some true)) fun x22 => (some ((true || ((x15 == (((x1.Reads).length : Nat) : Int)) && (x16 == (((x1.Writes).length : Nat) : Int)))) && x22)))) 0 0 ((17 : Int).toNat + 2) 0 (by omega) (by decide)
      have e0 : ((0 : Nat) : Int) = 0 := rfl
      rw [e0] at this
      rw [this]
      rfl
    | false =>
      have := part_L1 hp hf hv hA (fun (x15 : Int) (x16 : Int) => (bnd (gcall (((false || ((x15 == (((x1.Reads).length : Nat) : Int)) && (x16 == (((x1.Writes).length : Nat) : Int))))) == true) (some true)) fun x22 => (some ((false || ((x15 == (((x1.Reads).length : Nat) : Int)) && (x16 == (((x1.Writes).length : Nat) : Int)))) && x22)))) ((17 : Int).toNat + 2) 0 (by omega) (by decide)
      have e0 : ((0 : Nat) : Int) = 0 := rfl
      rw [e0, cnt_zero h1, cnt_zero h1, e0] at this
      rw [this]
      simp [bnd, gcall]

end Go.Proofs.Ytkbldnpifmjipaa
