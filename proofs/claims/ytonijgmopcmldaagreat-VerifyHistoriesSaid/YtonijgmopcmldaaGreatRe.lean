/-
  COMPARE, CLOSED: program and specification alike.
-/
import Derived.Test.YtonijgmopcmldaaGreatRd
set_option linter.all false
namespace Go.Proofs.YtonijgmopcmldaaGreat
open Go.ChangeShapes

theorem le_sLt (a b : Str) : decide (a ≤ b) = !sLt b a := by
  rw [sLt_eq]
  by_cases h : b < a
  · rw [decide_eq_true h, decide_eq_false (p := a ≤ b) (fun h2 => h2 h)]; rfl
  · rw [decide_eq_false h, decide_eq_true (p := a ≤ b) h]; rfl

theorem sortS_eq' {l m : List Str} (hp : l.Perm m) (hm : m.Pairwise fun a b => sLt b a = false) : sortS l = m := by
  refine List.Perm.eq_of_pairwise (le := fun a b => sLt b a = false) (fun a b _ _ h1 h2 => (sLt_conn h1 h2).symm) ?_ hm ((List.mergeSort_perm l _).trans hp)
  have := List.pairwise_mergeSort (le := fun x y : Str => decide (x ≤ y)) (fun a b c h1 h2 => by
    rw [le_sLt] at *
    simp only [Bool.not_eq_true'] at *
    exact le_le_trans h1 h2) (fun a b => by
    rw [le_sLt, le_sLt]
    cases h : sLt b a with
    | false => rfl
    | true => rw [sLt_asymm' h]; rfl) l
  refine this.imp fun {a b} h => ?_
  rw [le_sLt] at h
  simpa using h

def keysP (a b : List TPair) : List Str := ((mr a b).filter fun x => bkF a (bkt x.Key) != bkF b (bkt x.Key)).map fun x => x.Key

def cmpP (a b : List TPair) : List Str × Int := cond (staB a && staB b) (keysP a b, 0) ([], 1)

theorem kv_len {k : Str} (h : kvB k = true) : k.length ≤ 24 := by
  unfold kvB at h
  simp only [Bool.and_eq_true, decide_eq_true_iff] at h
  exact h.1.2

theorem vv_len {v : TValue} (h : vvB v = true) : v.S.length ≤ 64 := by
  unfold vvB at h
  cases h1 : (v.Kind == 0) with
  | true =>
    rw [h1, cond_true, Bool.and_eq_true, beq_iff_eq, beq_iff_eq] at h
    rw [h.2]; decide
  | false =>
    rw [h1, cond_false] at h
    cases h2 : (v.Kind == 1) with
    | true =>
      rw [h2, cond_true, beq_iff_eq] at h
      rw [h]; decide
    | false =>
      rw [h2, cond_false, Bool.and_eq_true] at h
      have h := h.2
      unfold plainB at h
      simp only [Bool.and_eq_true, decide_eq_true_iff] at h
      exact h.1

def PrF (l : List TPair) : Prop := ∀ x ∈ l, okI .i64 x.Val.N

theorem fits_sta {l : List TPair} (h : staB l = true) (hn : PrF l) : ∀ x ∈ l, Fits x := fun x hx => by
  obtain ⟨h1, h2, _⟩ := (sta_iff.1 h).1 x hx
  have := kv_len h1
  have := vv_len h2
  exact ⟨by omega, hn x hx, by omega⟩

theorem bktAll_eq : ∀ {l : List TPair}, (∀ x ∈ l, x.Key.length ≤ 24) → bktAll l = some (l.map fun x => (x.Key, ((bkt x.Key : Nat) : Int)))
  | [], _ => rfl
  | x :: l, h => by
    rw [bktAll, dg_Bucket (by have := h x List.mem_cons_self; omega), bnd_mk, bktAll_eq fun y hy => h y (List.mem_cons_of_mem _ hy), bnd_mk]; rfl

theorem mr_keys {a b : List TPair} (h1 : staB a = true) (h2 : staB b = true) : ∀ x ∈ mr a b, x.Key.length ≤ 24 := fun x hx => by
  obtain ⟨w, hw, e⟩ := ((mr_spec (sta_iff.1 h1).2 (sta_iff.1 h2).2).2 x |>.1 hx).key
  rw [← e]
  rcases hw with hw | hw
  · exact kv_len ((sta_iff.1 h1).1 w hw).1
  · exact kv_len ((sta_iff.1 h2).1 w hw).1

theorem keysP_asc {a b : List TPair} (h1 : staB a = true) (h2 : staB b = true) : (keysP a b).Pairwise fun x y => sLt x y = true :=
  List.pairwise_map.2 (List.Pairwise.sublist List.filter_sublist (mr_spec (sta_iff.1 h1).2 (sta_iff.1 h2).2).1)

theorem selB_map (l : List TPair) (n : Nat) : selB (l.map fun x => (x.Key, ((bkt x.Key : Nat) : Int))) (n : Int) = (l.filter fun x => bkt x.Key == n).map fun x => x.Key := by
  unfold selB
  rw [List.filter_map, List.map_map]
  congr 1
  refine List.filter_congr fun x _ => ?_
  rw [Bool.eq_iff_iff]; simp; omega

theorem asc_nodup {l : List Str} (h : l.Pairwise fun x y => sLt x y = true) : l.Nodup :=
  h.imp fun {a b} h e => by rw [e, sLt_irrefl] at h; cases h

theorem sort_keys {a b : List TPair} (h1 : staB a = true) (h2 : staB b = true) :
    sortS ((ints (dfN a b)).flatMap (selB ((mr a b).map fun x => (x.Key, ((bkt x.Key : Nat) : Int))))) = keysP a b := by
  have hk := (mr_spec (sta_iff.1 h1).2 (sta_iff.1 h2).2).1
  have e0 : (ints (dfN a b)).flatMap (selB ((mr a b).map fun x => (x.Key, ((bkt x.Key : Nat) : Int)))) = (dfN a b).flatMap fun n => ((mr a b).filter fun x => bkt x.Key == n).map fun x => x.Key := by
    unfold ints
    rw [List.flatMap_map]
    congr 1
    funext n
    exact selB_map _ n
  rw [e0]
  have ha := keysP_asc h1 h2
  refine sortS_eq' ((List.perm_ext_iff_of_nodup ?_ (asc_nodup ha)).2 fun k => ?_) (ha.imp fun {x y} h => sLt_asymm' h)
  · unfold List.Nodup
    rw [List.pairwise_flatMap]
    refine ⟨fun n _ => ?_, ?_⟩
    · exact asc_nodup (List.pairwise_map.2 (List.Pairwise.sublist List.filter_sublist hk))
    · have hnd : (dfN a b).Nodup := List.Pairwise.sublist List.filter_sublist List.nodup_range
      refine hnd.imp fun {n m} hne x hx y hy e => ?_
      simp only [List.mem_map, List.mem_filter, beq_iff_eq] at hx hy
      obtain ⟨u, ⟨_, hu⟩, rfl⟩ := hx
      obtain ⟨v, ⟨_, hv⟩, rfl⟩ := hy
      exact hne (by rw [← hu, ← hv, e])
  · unfold keysP dfN
    simp only [List.mem_flatMap, List.mem_map, List.mem_filter, beq_iff_eq, List.mem_range]
    constructor
    · rintro ⟨n, ⟨_, hn⟩, x, ⟨hx, rfl⟩, rfl⟩
      exact ⟨x, ⟨hx, hn⟩, rfl⟩
    · rintro ⟨x, ⟨hx, hn⟩, rfl⟩
      exact ⟨bkt x.Key, ⟨bkt_lt _, hn⟩, x, ⟨hx, rfl⟩, rfl⟩

theorem dfN_len (a b : List TPair) : (dfN a b).length ≤ 64 := by
  have := List.length_filter_le (fun i => bkF a i != bkF b i) (List.range 64)
  rw [List.length_range] at this
  exact this

theorem cmp_impl {a b : List TPair} (ha : PrOk a) (hb : PrOk b) (na : PrF a) (nb : PrF b) (hab : a.length + b.length < 999999) : F_verify_Compare a b = some (cmpP a b) := by
  unfold F_verify_Compare
  rw [diff_impl ha hb hab, bnd_mk, diP, cmpP]
  cases h1 : staB a with
  | false => rfl
  | true =>
    cases h2 : staB b with
    | false => rfl
    | true =>
      rw [Bool.and_true, cond_true, cond_true]
      show cond ((0 : Int) != 0) _ _ = _
      rw [show ((0 : Int) != 0) = false from rfl, cond_false]
      unfold suspF
      rw [dg_Tree (by omega) (fits_sta h1 na), bnd_mk, dg_Tree (by omega) (fits_sta h2 nb), bnd_mk, dg_Diff, bnd_mk, bktAll_eq (mr_keys h1 h2), bnd_mk, sort_keys h1 h2]
      have hl := mr_len a b
      have hd := dfN_len a b
      have hm : (dfN a b).length * (mr a b).length ≤ 64 * 1000000 := Nat.mul_le_mul hd (by omega)
      rw [ints_len, List.length_map, req_pos (by omega)]

theorem has54 {l : List Int} (hl : l.length < 9223372036854775808) (k : Int) : F_clockworkref54_has l k = some (l.any fun x => x == k) := by
  unfold F_clockworkref54_has
  rw [jn_mk]
  refine (loopAny0 (l := l) hl (L := fun n i => F_clockworkref54_has_L1 l k (some false) n i) (q := fun x => x == k) (E := some true) (J := some false) (by omega) ?_ ?_).trans ?_
  · intro n i hi
    try dsimp only
    rw [F_clockworkref54_has_L1]
    simp only [show (i : Int) < (l.length : Int) by omega, decide_true, cond_true, show 0 ≤ (i : Int) by omega, and_self, req_t, atI_nat hi]
  · intro n
    try dsimp only
    rw [F_clockworkref54_has_L1]
    simp
  · cases (l.any fun x => x == k) <;> rfl

theorem df_any (a b : List TPair) {n : Nat} (hn : n < 64) : (ints (dfN a b)).any (fun x => x == (n : Int)) = (bkF a n != bkF b n) := by
  rw [Bool.eq_iff_iff]
  simp only [ints, dfN, List.any_map, List.any_eq_true, List.mem_filter, List.mem_range, Function.comp, beq_iff_eq]
  constructor
  · rintro ⟨x, ⟨_, h⟩, e⟩
    rw [show n = x by omega]; exact h
  · intro h
    exact ⟨n, ⟨hn, h⟩, rfl⟩

theorem cmp_ref {a b : List TPair} (ha : PrOk a) (hb : PrOk b) (na : PrF a) (nb : PrF b) (hab : a.length + b.length < 999999) : F_clockworkref54_Compare a b = some (cmpP a b) := by
  unfold F_clockworkref54_Compare
  rw [diff_ref ha hb hab, bnd_mk, diP, cmpP]
  cases h1 : staB a with
  | false => rfl
  | true =>
    cases h2 : staB b with
    | false => rfl
    | true =>
      rw [Bool.and_true, cond_true, cond_true]
      show cond ((0 : Int) != 0) _ _ = _
      rw [show ((0 : Int) != 0) = false from rfl, cond_false, r53_Tree (by omega) (fits_sta h1 na), bnd_mk, r53_Tree (by omega) (fits_sta h2 nb), bnd_mk, r53_Diff, bnd_mk, jn_mk]
      have hl := mr_len a b
      have hd := dfN_len a b
      have hk := mr_keys h1 h2
      have key := loopSeq (len := (mr a b).length) (by omega) (L := F_clockworkref54_Compare_L1 (mr a b, 0) (ints (dfN a b)) fun x33 => some (x33, 0)) (J := fun x33 => some (x33, 0)) (S := fun i => (((mr a b).take i).filter fun x => bkF a (bkt x.Key) != bkF b (bkt x.Key)).map fun x => x.Key) (fun n i hi => ?_) (fun n => ?_) ((((mr a b).length : Nat) : Int).toNat + 1) 0 (by omega) (by omega)
      · rw [List.take_length] at key
        exact key
      · have hf : ((((mr a b).take i).filter fun x => bkF a (bkt x.Key) != bkF b (bkt x.Key)).map fun x => x.Key).length ≤ (mr a b).length := by
          rw [List.length_map]
          have := List.length_filter_le (fun x : TPair => bkF a (bkt x.Key) != bkF b (bkt x.Key)) ((mr a b).take i)
          rw [List.length_take] at this
          omega
        rw [F_clockworkref54_Compare_L1]
        dsimp only
        rw [decide_eq_true (by omega), cond_true, req_pos (by omega), atI_nat hi, r53_Bucket (by have := hk _ (List.getElem_mem hi); omega), bnd_mk, has54 (by rw [ints_len]; omega), bnd_mk, jn_mk, df_any a b (bkt_lt _), List.take_succ_eq_append_getElem hi, List.filter_append, List.map_append]
        cases e : (bkF a (bkt (mr a b)[i].Key) != bkF b (bkt (mr a b)[i].Key)) with
        | true =>
          rw [cond_true, req_pos (by omega), req_pos (by rw [List.length_append]; simp only [List.length_cons, List.length_nil]; omega)]
          simp only [List.filter_cons, e, if_true, List.filter_nil, List.map_cons, List.map_nil]
        | false =>
          rw [cond_false]
          simp only [List.filter_cons, e, Bool.false_eq_true, if_false, List.filter_nil, List.map_nil, List.append_nil]
      · rw [F_clockworkref54_Compare_L1]
        dsimp only
        rw [decide_eq_false (by omega), cond_false]

theorem cmpP_len {a b : List TPair} : (cmpP a b).1.length ≤ a.length + b.length := by
  unfold cmpP
  cases staB a && staB b with
  | false => simp
  | true =>
    show (keysP a b).length ≤ _
    unfold keysP
    rw [List.length_map]
    exact Nat.le_trans (List.length_filter_le _ _) (mr_len a b)

end Go.Proofs.YtonijgmopcmldaaGreat
