/-
  THE LAWS VerifyCompares AND VerifyFinds IN PLAIN LEAN.
-/
import Derived.Test.YtonijgmopcmldaaGreatRf
import Derived.Test.YtonijgmopcmldaaGreatOp
set_option linter.all false
namespace Go.Proofs.YtonijgmopcmldaaGreat
open Go.ChangeShapes

theorem okPrs {l : List TPair} (h : (okL okTPair) l) : PrOk l ∧ PrF l := by
  have eb : big = 9223372036854775808 := rfl
  obtain ⟨h1, h2⟩ := h
  refine ⟨⟨by omega, fun x hx => ?_⟩, fun x hx => (h2 x hx).2.2.1⟩
  obtain ⟨k1, _, _, k2⟩ := h2 x hx
  unfold okS at k1 k2
  exact ⟨by omega, by omega⟩

theorem plain_VerifyCompares (x0 : List TPair) (x1 : List TPair) (o0 : (okL okTPair) x0) (o1 : (okL okTPair) x1) : F_clockworklaw54_VerifyCompares x0 x1 = some true := by
  obtain ⟨h0, n0⟩ := okPrs o0
  obtain ⟨h1, n1⟩ := okPrs o1
  unfold F_clockworklaw54_VerifyCompares
  rw [works_t]
  by_cases h : x0.length ≤ 60 ∧ x1.length ≤ 60
  · rw [show (decide ((60 : Int) < ((x0.length : Nat) : Int)) || decide ((60 : Int) < ((x1.length : Nat) : Int))) = false by simp; omega, cond_false]
    have hl := cmpP_len (a := x0) (b := x1)
    rw [cmp_impl h0 h1 n0 n1 (by omega), bnd_mk, cmp_ref h0 h1 n0 n1 (by omega), bnd_mk, same04 (by omega) (by omega), bnd_mk, eqL_refl (fun a => (strEq_iff a a).2 rfl)]
    simp [gcall]
  · rw [show (decide ((60 : Int) < ((x0.length : Nat) : Int)) || decide ((60 : Int) < ((x1.length : Nat) : Int))) = true by simp; omega, cond_true]
    rfl

/-! ### Finds -/

theorem law_numbers {a b : List Int} (ha : a.length < 9223372036854775807) (hb : b.length < 9223372036854775807) : F_clockworklaw54_numbers a b = some (eqL (fun x y => x == y) a b) := by
  unfold F_clockworklaw54_numbers
  by_cases hl : a.length = b.length
  · rw [show (((a.length : Nat) : Int) != ((b.length : Nat) : Int)) = false by rw [hl]; simp, cond_false, jn_mk]
    have := loopRng (len := a.length) (by omega) (L := F_clockworklaw54_numbers_L1 a b (some true)) (J := some true) (E := some false) (q := fun i => !(atI a (i : Int) == atI b (i : Int))) (n := (((a.length : Nat) : Int)).toNat + 1) (by omega) (fun n i hi => ?_) (fun n => ?_)
    · rw [this, ← eqL_range hl]
      cases ((List.range a.length).any fun i => !(atI a (i : Int) == atI b (i : Int))) <;> rfl
    · rw [F_clockworklaw54_numbers_L1, decide_eq_true (by omega), cond_true, req_pos (by omega), req_pos (by omega)]
      rfl
    · rw [F_clockworklaw54_numbers_L1, decide_eq_false (by omega), cond_false]
  · rw [show (((a.length : Nat) : Int) != ((b.length : Nat) : Int)) = true by simp; omega, cond_true]
    congr 1
    cases h : eqL (fun x y : Int => x == y) a b with
    | false => rfl
    | true => exact absurd (eqL_len h) hl

theorem find_loop {d : List TPair × Int} {ks : List Str × Int} {ta tb : TTree} {p : TPair → Bool} (hks : ks.1 = (d.1.filter p).map fun x => x.Key) (hd : d.1.length < 1000000) (hk : ∀ x ∈ d.1, x.Key.length ≤ 24) (hasc : kAsc d.1)
    (ha : ta.Buckets.length = 64) (hb : tb.Buckets.length = 64) (hp : ∀ x ∈ d.1, p x = false → atI ta.Buckets (bkt x.Key : Int) = atI tb.Buckets (bkt x.Key : Int)) {J : Int → Option Bool} :
    ∀ (n i : Nat), i ≤ d.1.length → d.1.length - i < n → F_clockworklaw54_VerifyFinds_L1 d ks ta tb J n ((((d.1.take i).filter p).length : Nat) : Int) (i : Int) = J ((ks.1.length : Nat) : Int)
  | 0, i, _, h => by omega
  | n + 1, i, h1, h2 => by
    have hkl : ks.1.length = (d.1.filter p).length := by rw [hks, List.length_map]
    have hfl := List.length_filter_le p d.1
    rw [F_clockworklaw54_VerifyFinds_L1]
    rcases Nat.lt_or_ge i d.1.length with hi | hi
    · have e1 : d.1 = d.1.take i ++ d.1[i] :: d.1.drop (i + 1) := by rw [← List.drop_eq_getElem_cons hi, List.take_append_drop]
      have e2 : ks.1 = ((d.1.take i).filter p).map (fun x => x.Key) ++ ((d.1[i] :: d.1.drop (i + 1)).filter p).map (fun x => x.Key) := by
        rw [hks, ← List.map_append, ← List.filter_append, ← e1]
      have hat : ks.1.length = ((d.1.take i).filter p).length + ((d.1[i] :: d.1.drop (i + 1)).filter p).length := by
        rw [e2, List.length_append, List.length_map, List.length_map]
      have ih := find_loop (J := J) hks hd hk hasc ha hb hp n (i + 1) (by omega) (by omega)
      rw [decide_eq_true (by omega), cond_true, jn_mk, req_pos (fun h => by simp at h; omega), req_pos (fun h => by simp at h; omega)]
      cases hpi : p d.1[i] with
      | true =>
        have hl : ((d.1.take i).filter p).length < ks.1.length := by rw [hat, List.filter_cons, hpi]; simp
        have hke : atI ks.1 ((((d.1.take i).filter p).length : Nat) : Int) = d.1[i].Key := by
          rw [atI_nat hl]
          have : ks.1[((d.1.take i).filter p).length]? = some d.1[i].Key := by
            rw [e2, List.getElem?_append_right (by simp), List.length_map, Nat.sub_self, List.filter_cons, hpi]; rfl
          rw [List.getElem?_eq_getElem hl] at this
          exact Option.some.inj this
        have ht : ((d.1.take (i + 1)).filter p).length = ((d.1.take i).filter p).length + 1 := by
          rw [List.take_succ_eq_append_getElem hi, List.filter_append, List.filter_cons, hpi]; simp
        rw [decide_eq_true (by omega), show (true == true) = true from rfl, cond_true, cond_true, hke, atI_nat hi, show (true && (d.1[i].Key == d.1[i].Key)) = true by simp, cond_true, wrap_succ (by omega), wrap_succ (by omega), ← ht]
        exact ih
      | false =>
        have ht : ((d.1.take (i + 1)).filter p).length = ((d.1.take i).filter p).length := by
          rw [List.take_succ_eq_append_getElem hi, List.filter_append, List.filter_cons, hpi]; simp
        have hne : (decide (((((d.1.take i).filter p).length : Nat) : Int) < ((ks.1.length : Nat) : Int)) && ((cond ((decide (((((d.1.take i).filter p).length : Nat) : Int) < ((ks.1.length : Nat) : Int))) == true) (atI ks.1 ((((d.1.take i).filter p).length : Nat) : Int)) default) == (cond ((decide (((((d.1.take i).filter p).length : Nat) : Int) < ((ks.1.length : Nat) : Int))) == true) (atI d.1 (i : Int)) default).Key)) = false := by
          by_cases hl : ((d.1.take i).filter p).length < ks.1.length
          · rw [decide_eq_true (by omega), show (true == true) = true from rfl, cond_true, cond_true, Bool.true_and, beq_eq_false_iff_ne, atI_nat hi, atI_nat hl]
            have : ks.1[((d.1.take i).filter p).length] ∈ ((d.1.drop (i + 1)).filter p).map (fun x => x.Key) := by
              have e3 : ks.1[((d.1.take i).filter p).length]? = (((d.1.drop (i + 1)).filter p).map (fun x => x.Key))[0]? := by
                rw [e2, List.getElem?_append_right (by simp), List.length_map, Nat.sub_self, List.filter_cons, hpi]; rfl
              rw [List.getElem?_eq_getElem hl] at e3
              exact List.mem_of_getElem? e3.symm
            obtain ⟨y, hy, e⟩ := List.mem_map.1 this
            rw [← e]
            have hy := (List.mem_filter.1 hy).1
            rw [e1] at hasc
            exact fun h => lt_ne ((List.pairwise_cons.1 (List.pairwise_append.1 hasc).2.1).1 y hy) h.symm
          · rw [decide_eq_false (by omega)]; rfl
        have hbl := bkt_lt d.1[i].Key
        rw [hne, cond_false, req_pos (by omega), atI_nat hi, dg_Bucket (by have := hk _ (List.getElem_mem hi); omega), bnd_mk,
          show (decide ((((bkt d.1[i].Key : Nat)) : Int) < 0) || decide ((64 : Int) ≤ ((bkt d.1[i].Key : Nat) : Int))) = false by simp only [Bool.or_eq_false_iff, decide_eq_false_iff_not]; omega,
          req_pos (fun _ => by omega), req_pos (fun _ => by omega), show (false == false) = true from rfl, cond_true, cond_true, Bool.false_or, hp _ (List.getElem_mem hi) hpi,
          show (atI tb.Buckets ((bkt d.1[i].Key : Nat) : Int) != atI tb.Buckets ((bkt d.1[i].Key : Nat) : Int)) = false by simp, cond_false, wrap_succ (by omega), ← ht]
        exact ih
    · have : i = d.1.length := by omega
      rw [decide_eq_false (by omega), cond_false, this, List.take_length, hkl]

theorem mr_empty {a b : List TPair} (ha : kAsc a) (hb : kAsc b) (h : mr a b = []) : a = b := by
  have h2 := (mr_spec ha hb).2
  rw [h] at h2
  refine kasc_ext ha hb fun z => ?_
  constructor
  · intro hz
    -- the key lies in b
    by_cases hk : ∃ y ∈ b, y.Key = z.Key
    · obtain ⟨y, hy, e⟩ := hk
      have hya : y ∈ a := Classical.byContradiction fun hn => by have := (h2 y).2 (.inr ⟨hy, hn⟩); cases this
      rw [kasc_key ha hz hya e.symm]; exact hy
    · have := (h2 (gone z)).2 (.inl ⟨z, hz, fun y hy e => hk ⟨y, hy, e⟩, rfl⟩)
      cases this
  · intro hz
    exact Classical.byContradiction fun hn => by have := (h2 z).2 (.inr ⟨hz, hn⟩); cases this

theorem plain_VerifyFinds (x0 : List TPair) (x1 : List TPair) (o0 : (okL okTPair) x0) (o1 : (okL okTPair) x1) : F_clockworklaw54_VerifyFinds x0 x1 = some true := by
  obtain ⟨h0, n0⟩ := okPrs o0
  obtain ⟨h1, n1⟩ := okPrs o1
  unfold F_clockworklaw54_VerifyFinds
  rw [works_t]
  by_cases h : x0.length ≤ 60 ∧ x1.length ≤ 60
  · rw [show (decide ((60 : Int) < ((x0.length : Nat) : Int)) || decide ((60 : Int) < ((x1.length : Nat) : Int))) = false by simp; omega]
    rw [show (false == false) = true from rfl, gcall_t, svalid_ref h0, bnd_mk]
    cases s0 : staB x0 with
    | false => simp [gcall]
    | true =>
      rw [show ((false || !true) == false) = true from rfl, gcall_t, svalid_ref h1, bnd_mk]
      cases s1 : staB x1 with
      | false => simp [gcall]
      | true =>
        have ka := (sta_iff.1 s0).2
        have kb := (sta_iff.1 s1).2
        have hmr := mr_len x0 x1
        rw [show (false || (!true) || (!true)) = false from rfl, cond_false, cmp_impl h0 h1 n0 n1 (by omega), bnd_mk, diff_ref h0 h1 (by omega), bnd_mk, dg_Tree (by omega) (fits_sta s0 n0), bnd_mk, dg_Tree (by omega) (fits_sta s1 n1), bnd_mk, tree_len, tree_len, cmpP, diP, s0, s1]
        rw [Bool.and_true, cond_true, cond_true]
        rw [show ((((keysP x0 x1, (0 : Int))).2 != 0) || (((64 : Nat) : Int) != 64) || (((64 : Nat) : Int) != 64)) = false from rfl, cond_false, jn_mk]
        refine (find_loop (d := (mr x0 x1, 0)) (ks := (keysP x0 x1, 0)) (p := fun x => bkF x0 (bkt x.Key) != bkF x1 (bkt x.Key)) rfl (by show (mr x0 x1).length < _; omega) (mr_keys s0 s1) (mr_spec ka kb).1 (tree_len x0) (tree_len x1) (fun x hx hp => ?_) ((((mr x0 x1).length : Nat) : Int).toNat + 1) 0 (by omega) (by show (mr x0 x1).length - 0 < (((mr x0 x1).length : Nat) : Int).toNat + 1; omega)).trans ?_
        · rw [tree_at x0 (bkt_lt _), tree_at x1 (bkt_lt _)]
          simp at hp; rw [hp]
        · by_cases hz : mr x0 x1 = []
          · have := mr_empty ka kb hz
            subst this
            rw [law_numbers (by rw [tree_len]; omega) (by rw [tree_len]; omega), eqL_refl (fun a => by simp)]
            simp [gcall, hz]
          · have : 0 < (mr x0 x1).length := List.length_pos_iff.2 hz
            have : (decide ((0 : Int) < (((mr x0 x1).length : Nat) : Int))) = true := by simp; omega
            rw [this]
            simp [gcall]
  · rw [show (decide ((60 : Int) < ((x0.length : Nat) : Int)) || decide ((60 : Int) < ((x1.length : Nat) : Int))) = true by simp; omega]
    simp [gcall]

end Go.Proofs.YtonijgmopcmldaaGreat
