/-
  THE DIFFERENCE OF TWO STATES AND OF TWO DIGESTS, CLOSED (part 2).
-/
import Derived.Test.YtonijgmopcmldaaGreatRc
set_option linter.all false
namespace Go.Proofs.YtonijgmopcmldaaGreat
open Go.ChangeShapes

theorem has06 {l : List TPair} (hl : l.length < 9223372036854775808) (k : Str) : F_clockworkref06_Has l k = some (l.any fun x => x.Key == k) := by
  unfold F_clockworkref06_Has
  simp only [jn_mk]
  refine (loopAny0 (l := l) hl (L := fun n i => F_clockworkref06_Has_L1 l k (some false) n i) (q := fun x => x.Key == k) (E := some true) (J := some false) (by omega) ?_ ?_).trans ?_
  · intro n i hi
    try dsimp only
    rw [F_clockworkref06_Has_L1]
    simp only [show (i : Int) < (l.length : Int) by omega, decide_true, cond_true, show 0 ≤ (i : Int) by omega, and_self, req_t, atI_nat hi]
  · intro n
    try dsimp only
    rw [F_clockworkref06_Has_L1]
    simp
  · cases (l.any fun x => x.Key == k) <;> rfl

def getB : List TPair → Str → TValue
  | [], _ => ⟨0, 0, []⟩
  | x :: l, k => if (x.Key == k) = true then x.Val else getB l k

theorem get06 {l : List TPair} (hl : l.length < 9223372036854775807) (k : Str) : F_clockworkref06_Get l k = some (getB l k) := by
  unfold F_clockworkref06_Get
  rw [jn_mk]
  have key : ∀ (n i : Nat) (d : TValue), i ≤ l.length → l.length - i < n → F_clockworkref06_Get_L1 l k (fun _ => some (⟨0, 0, []⟩ : TValue)) n d (i : Int) = some (getB (l.drop i) k) := by
    intro n
    induction n with
    | zero => intro i d _ h; omega
    | succ n ih =>
      intro i d hi hn
      rw [F_clockworkref06_Get_L1]
      rcases Nat.lt_or_ge i l.length with h | h
      · rw [decide_eq_true (by omega), cond_true, req_pos (by omega), atI_nat h, List.drop_eq_getElem_cons h, getB, wrap_succ (by omega)]
        by_cases e : (l[i].Key == k) = true
        · rw [e, cond_true, req_pos (by omega), if_pos rfl]
        · rw [if_neg e, ih (i + 1) d (by omega) (by omega)]
          simp only [Bool.not_eq_true] at e
          rw [e, cond_false]
      · rw [decide_eq_false (by omega), cond_false, List.drop_eq_nil_of_le h]; rfl
  exact key _ 0 default (by omega) (by omega)

theorem getB_of {l : List TPair} : ∀ (_ : kAsc l) {x : TPair}, x ∈ l → getB l x.Key = x.Val := by
  induction l with
  | nil => intro _ x hx; cases hx
  | cons y l ih =>
    intro h x hx
    obtain ⟨h1, h2⟩ := List.pairwise_cons.1 h
    rw [getB]
    rcases List.mem_cons.1 hx with rfl | hx
    · simp
    · rw [if_neg (by rw [beq_iff_eq]; exact lt_ne (h1 x hx)), ih h2 hx]

theorem getB_none : ∀ {l : List TPair} {k : Str}, (∀ x ∈ l, x.Key ≠ k) → getB l k = ⟨0, 0, []⟩
  | [], _, _ => rfl
  | x :: l, k, h => by rw [getB, if_neg (by rw [beq_iff_eq]; exact h x List.mem_cons_self), getB_none fun y hy => h y (List.mem_cons_of_mem _ hy)]

theorem getB_ne {a : List TPair} (ha : kAsc a) {y : TPair} (hy : y.Val.Kind ≠ 0) : (getB a y.Key ≠ y.Val) ↔ y ∉ a := by
  constructor
  · intro h hm; exact h (getB_of ha hm)
  · intro h e
    by_cases hk : ∃ x ∈ a, x.Key = y.Key
    · obtain ⟨x, hx, hxy⟩ := hk
      have e2 := getB_of ha hx
      rw [hxy, e] at e2
      have : y = x := by cases x; cases y; simp only at hxy e2; rw [hxy, e2]
      exact h (this ▸ hx)
    · rw [getB_none fun x hx h => hk ⟨x, hx, h⟩] at e
      rw [← e] at hy; exact hy rfl

def diP (a b : List TPair) : List TPair × Int := cond (staB a && staB b) (mr a b, 0) ([], 1)

theorem diff_impl {a b : List TPair} (ha : PrOk a) (hb : PrOk b) (hab : a.length + b.length < 999999) : F_state_Diff a b = some (diP a b) := by
  unfold F_state_Diff
  rw [svalid_impl ha, svalid_impl hb, bnd_mk, diP]
  cases h1 : staB a with
  | false => simp [gcall, bnd]
  | true =>
    simp only [Bool.not_true, BEq.rfl, gcall_t, bnd_mk, Bool.false_or, Bool.true_and]
    cases h2 : staB b with
    | false => simp
    | true =>
      simp only [Bool.not_true, cond_false, cond_true]
      have := merge_loop (a := a) (b := b) (by omega) 1000000 0 0 [] (by omega) (by omega) (by omega) (by simp; omega)
      rw [mergeF, show ((0 : Int)) = ((0 : Nat) : Int) from rfl, this, bnd_mk]
      simp only [List.drop_zero, List.nil_append]

theorem diff_ref {a b : List TPair} (ha : PrOk a) (hb : PrOk b) (hab : a.length + b.length < 999999) : F_clockworkref06_Diff a b = some (diP a b) := by
  unfold F_clockworkref06_Diff
  rw [svalid_ref ha, svalid_ref hb, bnd_mk, diP]
  cases h1 : staB a with
  | false => simp [gcall, bnd]
  | true =>
    simp only [Bool.not_true, BEq.rfl, gcall_t, bnd_mk, Bool.false_or, Bool.true_and]
    cases h2 : staB b with
    | false => simp
    | true =>
      simp only [Bool.not_true, cond_false, cond_true, jn_mk]
      have hka := (sta_iff.1 h1).2
      have hkb := (sta_iff.1 h2).2
      have hgb := (sta_iff.1 h2).1
      -- the keys that are gone
      have lk : ∀ (l0 : List TPair), l0.length ≤ a.length → F_clockworkref06_Diff_L1 b a (fun x97 => some (x97, (0 : Int))) ((((b).length : Nat) : Int).toNat + 1) l0 0 = some ((b.filter fun y => decide (getB a y.Key ≠ y.Val)).foldl ins l0, 0) := by
        intro l0 hl0
        have key := loopSeq (len := b.length) (by omega) (L := F_clockworkref06_Diff_L1 b a (fun x97 => some (x97, (0 : Int)))) (J := fun x97 => some (x97, (0 : Int))) (S := fun i => ((b.take i).filter fun y => decide (getB a y.Key ≠ y.Val)).foldl ins l0) (fun n i hi => ?_) (fun n => ?_) ((((b).length : Nat) : Int).toNat + 1) 0 (by omega) (by omega)
        · rw [List.take_length] at key
          exact key
        · have hlen : ∀ (c l : List TPair), (c.foldl ins l).length = l.length + c.length := by
            intro c
            induction c with
            | nil => intro l; rfl
            | cons x c ih => intro l; rw [List.foldl_cons, ih, ins_len, List.length_cons]; omega
          have hf : (((b.take i).filter fun y => decide (getB a y.Key ≠ y.Val)).foldl ins l0).length ≤ a.length + b.length := by
            rw [hlen]
            have := List.length_filter_le (fun y : TPair => decide (getB a y.Key ≠ y.Val)) (b.take i)
            rw [List.length_take] at this
            omega
          rw [F_clockworkref06_Diff_L1, decide_eq_true (by omega), cond_true, req_pos (by omega), req_pos (by omega), atI_nat hi, get06 (by omega), bnd_mk, jn_mk, valEq_iff, List.take_succ_eq_append_getElem hi, List.filter_append, List.foldl_append]
          by_cases e : getB a b[i].Key = b[i].Val
          · rw [decide_eq_true e, show (!true) = false from rfl, cond_false]; simp [e]
          · rw [decide_eq_false e, show (!false) = true from rfl, cond_true, req_pos (by omega), with_eq (by omega), bnd_mk]; simp [e]
        · rw [F_clockworkref06_Diff_L1, decide_eq_false (by omega), cond_false]
      have l2 : F_clockworkref06_Diff_L2 a b (fun x9 => F_clockworkref06_Diff_L1 b a (fun x97 => some (x97, (0 : Int))) ((((b).length : Nat) : Int).toNat + 1) x9 0) ((((a).length : Nat) : Int).toNat + 1) [] 0 =
          F_clockworkref06_Diff_L1 b a (fun x97 => some (x97, (0 : Int))) ((((b).length : Nat) : Int).toNat + 1) ((a.filter fun x => !(b.any fun y => y.Key == x.Key)).map gone) 0 := by
        have key := loopSeq (len := a.length) (by omega) (L := F_clockworkref06_Diff_L2 a b (fun x9 => F_clockworkref06_Diff_L1 b a (fun x97 => some (x97, (0 : Int))) ((((b).length : Nat) : Int).toNat + 1) x9 0)) (J := fun x9 => F_clockworkref06_Diff_L1 b a (fun x97 => some (x97, (0 : Int))) ((((b).length : Nat) : Int).toNat + 1) x9 0)
          (S := fun i => ((a.take i).filter fun x => !(b.any fun y => y.Key == x.Key)).map gone) (fun n i hi => ?_) (fun n => ?_) ((((a).length : Nat) : Int).toNat + 1) 0 (by omega) (by omega)
        · rw [List.take_length] at key
          exact key
        · have hf : (((a.take i).filter fun x => !(b.any fun y => y.Key == x.Key)).map gone).length ≤ a.length := by
            rw [List.length_map]
            have := List.length_filter_le (fun x : TPair => !(b.any fun y => y.Key == x.Key)) (a.take i)
            rw [List.length_take] at this
            omega
          rw [F_clockworkref06_Diff_L2, decide_eq_true (by omega), cond_true, req_pos (by omega), atI_nat hi, has06 (by omega), bnd_mk, jn_mk, List.take_succ_eq_append_getElem hi, List.filter_append, List.map_append]
          cases e : (b.any fun y => y.Key == a[i].Key) with
          | true => rw [show (!true) = false from rfl, cond_false]; simp only [List.filter_cons, e, Bool.not_true, Bool.false_eq_true, if_false, List.filter_nil, List.map_nil, List.append_nil]
          | false => rw [show (!false) = true from rfl, cond_true, req_pos (by omega), req_pos (by rw [List.length_append]; simp only [List.length_cons, List.length_nil]; omega)]; simp only [List.filter_cons, e, Bool.not_false, if_true, List.filter_nil, List.map_cons, List.map_nil]; rfl
        · rw [F_clockworkref06_Diff_L2, decide_eq_false (by omega), cond_false]
      have hl0 : ((a.filter fun x => !(b.any fun y => y.Key == x.Key)).map gone).length ≤ a.length := by
        rw [List.length_map]; exact List.length_filter_le _ _
      rw [l2, lk _ hl0]
      congr 2
      have g1 : kAsc ((a.filter fun x => !(b.any fun y => y.Key == x.Key)).map gone) := List.pairwise_map.2 (List.Pairwise.sublist List.filter_sublist hka)
      have g2 : kAsc (b.filter fun y => decide (getB a y.Key ≠ y.Val)) := List.Pairwise.sublist List.filter_sublist hkb
      have mem0 : ∀ z, z ∈ ((a.filter fun x => !(b.any fun y => y.Key == x.Key)).map gone) ↔ ∃ x ∈ a, (∀ y ∈ b, y.Key ≠ x.Key) ∧ z = gone x := by
        intro z
        simp only [List.mem_map, List.mem_filter, Bool.not_eq_true', List.any_eq_false, beq_iff_eq]
        constructor
        · rintro ⟨x, ⟨h3, h4⟩, rfl⟩; exact ⟨x, h3, h4, rfl⟩
        · rintro ⟨x, h3, h4, rfl⟩; exact ⟨x, ⟨h3, h4⟩, rfl⟩
      obtain ⟨f1, f2, _⟩ := fold_ins g1 g2 (fun x hx y hy => by
        obtain ⟨w, _, h4, rfl⟩ := (mem0 x).1 hx
        exact fun e => h4 y (List.mem_filter.1 hy).1 e.symm)
      obtain ⟨m1, m2⟩ := mr_spec hka hkb
      refine (kasc_ext m1 f1 fun z => ?_).symm
      rw [m2, f2, mem0, List.mem_filter, decide_eq_true_iff]
      unfold DifP
      constructor
      · rintro (h | ⟨h3, h4⟩)
        · exact .inl h
        · exact .inr ⟨h3, (getB_ne hka (hgb z h3).2.2).2 h4⟩
      · rintro (h | ⟨h3, h4⟩)
        · exact .inl h
        · exact .inr ⟨h3, (getB_ne hka (hgb z h3).2.2).1 h4⟩

/-! ### Digests -/

def dfN (a b : List TPair) : List Nat := (List.range 64).filter fun i => bkF a i != bkF b i

theorem tree_len (l : List TPair) : (treeB l).Buckets.length = 64 := by
  show (ints (bks l)).length = 64
  rw [ints_len, bks_len]

theorem r53_Valid (l : List TPair) : F_clockworkref53_Valid (treeB l) = some true := by
  unfold F_clockworkref53_Valid
  rw [show ((((treeB l).Buckets.length : Nat) : Int) == 64) = true by rw [tree_len]; rfl, show (true == true) = true from rfl, gcall_t, treeB, r53_Root (Nat.le_of_eq (bks_len l)) bks_lt, bnd_mk]
  simp

theorem tree_at (l : List TPair) {i : Nat} (h : i < 64) : atI (treeB l).Buckets (i : Int) = ((bkF l i : Nat) : Int) := by
  show atI (ints (bks l)) (i : Int) = _
  rw [ints_at (by rw [bks_len]; exact h)]; simp [bks]

theorem ints_app (a b : List Nat) : ints (a ++ b) = ints a ++ ints b := by simp [ints]

theorem ints_filter_len (p : Nat → Bool) (i : Nat) : (ints ((List.range i).filter p)).length ≤ i := by
  rw [ints_len]
  have := List.length_filter_le p (List.range i)
  rw [List.length_range] at this
  exact this

theorem r53_Diff (a b : List TPair) : F_clockworkref53_Diff (treeB a) (treeB b) = some (ints (dfN a b)) := by
  unfold F_clockworkref53_Diff
  rw [r53_Valid, r53_Valid, bnd_mk]
  simp only [Bool.not_true, BEq.rfl, gcall_t, bnd_mk, Bool.or_self, cond_false, jn_mk]
  have key := loopSeq (len := 64) (by omega) (L := F_clockworkref53_Diff_L1 (treeB a) (treeB b) fun x9 => some x9) (J := fun x9 => some x9) (S := fun i => ints ((List.range i).filter fun i => bkF a i != bkF b i)) (fun n i hi => ?_) (fun n => ?_) 65 0 (by omega) (by omega)
  · exact key
  · have hl := ints_filter_len (fun i => bkF a i != bkF b i) i
    rw [F_clockworkref53_Diff_L1, decide_eq_true (by omega), cond_true, req_pos (by rw [tree_len]; omega), req_pos (by rw [tree_len]; omega), jn_mk, tree_at a hi, tree_at b hi, List.range_succ, List.filter_append, ints_app]
    by_cases e : bkF a i = bkF b i
    · rw [show ((((bkF a i : Nat) : Int)) != ((bkF b i : Nat) : Int)) = false by simp [e], cond_false]
      simp only [List.filter_cons, e, bne_self_eq_false, Bool.false_eq_true, if_false, List.filter_nil]
      simp [ints]
    · rw [show ((((bkF a i : Nat) : Int)) != ((bkF b i : Nat) : Int)) = true by simp; omega, cond_true, req_pos (by rw [List.length_append]; simp only [List.length_cons, List.length_nil]; omega)]
      have e2 : (bkF a i != bkF b i) = true := by simpa using e
      simp only [List.filter_cons, e2, if_true, List.filter_nil]
      rfl
  · rw [F_clockworkref53_Diff_L1, decide_eq_false (by omega), cond_false]

theorem dg_buckets (l : List TPair) : F_digest_buckets (treeB l) = some ((treeB l).Buckets, true) := by
  unfold F_digest_buckets
  rw [show ((((treeB l).Buckets.length : Nat) : Int) != 64) = false by rw [tree_len]; rfl, show (false == false) = true from rfl, gcall_t, treeB, dg_Root (Nat.le_of_eq (bks_len l)) bks_lt, bnd_mk]
  rw [show ((((rtN (bks l) : Nat) : Int)) != ((rtN (bks l) : Nat) : Int)) = false by simp]
  simp only [Bool.or_self, cond_false]
  congr 2

theorem dg_Diff (a b : List TPair) : F_digest_Diff (treeB a) (treeB b) = some (ints (dfN a b)) := by
  unfold F_digest_Diff
  rw [dg_buckets, dg_buckets, bnd_mk, req_pos (tree_len a), bnd_mk, req_pos (tree_len b)]
  simp only [Bool.not_true, Bool.false_or]
  by_cases e : (treeB a).Buckets = (treeB b).Buckets
  · rw [show ((treeB a).Buckets == (treeB b).Buckets) = true by rw [beq_iff_eq]; exact e, cond_true]
    congr 1
    have : dfN a b = [] := by
      unfold dfN
      rw [List.filter_eq_nil_iff]
      intro i hi
      have h1 := tree_at a (List.mem_range.1 hi)
      rw [e, tree_at b (List.mem_range.1 hi)] at h1
      simp; omega
    rw [this]; rfl
  · rw [show ((treeB a).Buckets == (treeB b).Buckets) = false by rw [beq_eq_false_iff_ne]; exact e, cond_false, jn_mk]
    have key := loopSeq (len := 64) (by omega) (L := F_digest_Diff_L1 ((treeB a).Buckets, true) ((treeB b).Buckets, true) fun x9 => some x9) (J := fun x9 => some x9) (S := fun i => ints ((List.range i).filter fun i => bkF a i != bkF b i)) (fun n i hi => ?_) (fun n => ?_) 65 0 (by omega) (by omega)
    · exact key
    · have hl := ints_filter_len (fun i => bkF a i != bkF b i) i
      rw [F_digest_Diff_L1, decide_eq_true (by omega), cond_true, req_pos (by rw [tree_len]; omega), req_pos (by rw [tree_len]; omega), jn_mk, tree_at a hi, tree_at b hi, List.range_succ, List.filter_append, ints_app]
      by_cases e : bkF a i = bkF b i
      · rw [show ((((bkF a i : Nat) : Int)) != ((bkF b i : Nat) : Int)) = false by simp [e], cond_false]
        simp only [List.filter_cons, e, bne_self_eq_false, Bool.false_eq_true, if_false, List.filter_nil]
        simp [ints]
      · rw [show ((((bkF a i : Nat) : Int)) != ((bkF b i : Nat) : Int)) = true by simp; omega, cond_true, req_pos (by rw [List.length_append]; simp only [List.length_cons, List.length_nil]; omega)]
        have e2 : (bkF a i != bkF b i) = true := by simpa using e
        simp only [List.filter_cons, e2, if_true, List.filter_nil]
        rfl
    · rw [F_digest_Diff_L1, decide_eq_false (by omega), cond_false]

end Go.Proofs.YtonijgmopcmldaaGreat
