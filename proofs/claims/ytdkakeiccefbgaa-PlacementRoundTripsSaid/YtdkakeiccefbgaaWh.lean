/-
  THE LAWS ON THE CODES OF PLACEMENTS.
  Conditions: none.
-/
import Derived.Test.YtdkakeiccefbgaaDm
import Derived.Test.YtdkakeiccefbgaaWg
set_option linter.all false
namespace Go.Proofs.Ytdkakeiccefbgaa
open Go.ChangeShapes

theorem few_strong {p : TPlacement} (h : fewB29 p = true) : p.Parts.length ≤ 40 ∧ ∀ x ∈ p.Parts, x.From.length ≤ 100 ∧ x.Done.length ≤ 100 := by
  simp only [fewB29, Bool.and_eq_true, decide_eq_true_eq, Bool.not_eq_true', List.any_eq_false, Bool.or_eq_true, not_or, Int.not_lt] at h
  refine ⟨h.1, fun x hx => ?_⟩
  have := h.2 x hx
  omega

theorem few_ok {p : TPlacement} (h : fewB29 p = true) (o : okTPlacement p) : okI .i64 p.Version ∧ p.Parts.length ≤ 1000 ∧ ∀ x ∈ p.Parts, Ok9 1000 x := by
  obtain ⟨h1, h2⟩ := few_strong h
  obtain ⟨h3, h4⟩ := o
  refine ⟨h3, by omega, fun x hx => ?_⟩
  obtain ⟨a1, _, a2, a3, _⟩ := h4.2 x hx
  have := h2 x hx
  exact ⟨a1, a2, a3, by omega, by omega⟩

theorem ok9_mono {a b : Nat} {x : TPart} (hab : a ≤ b) (h : Ok9 a x) : Ok9 b x := ⟨h.id, h.node, h.dest, Nat.le_trans h.fr hab, Nat.le_trans h.dn hab⟩

theorem pvB_ok {p : TPlacement} (h : pvB p = true) : okI .i64 p.Version ∧ p.Parts.length ≤ 16 ∧ ∀ x ∈ p.Parts, Ok9 24 x := by
  have hb : ∀ s : Str, boundB s = true → s.length ≤ 24 := fun s hs => by
    simp only [boundB, Bool.and_eq_true, decide_eq_true_eq] at hs
    exact hs.1
  have pv := pv_iff.1 h
  refine ⟨okI64.2 (by have := pv.ver; omega), pv.len.2, fun x hx => ?_⟩
  obtain ⟨j, hj, rfl⟩ := mem_ap hx
  have m := pv.mov j hj
  have hid := pv.id j hj
  have hnode := pv.node j hj
  have hfr := hb _ (pv.bnd j hj)
  by_cases hd : (ap p.Parts j).Dest = 0
  · exact ⟨okI64.2 (by omega), okI64.2 (by omega), okI64.2 (by omega), hfr, by rw [m.done hd]; simp⟩
  · obtain ⟨d1, d2, _, d3, _⟩ := m.dest hd
    exact ⟨okI64.2 (by omega), okI64.2 (by omega), okI64.2 (by omega), hfr, hb _ d3⟩

theorem decodeP_len (s : Str) (p : Int) : (decodeP s p).1.Parts.length < big := by
  have e : big = 9223372036854775808 := rfl
  rcases decodeP_cases s p with ⟨e', h, _⟩ | ⟨k, q, t, rfl, h, _, _, h2, _⟩
  · rw [h]; simp [nP, e]
  · rw [h]; simp only; omega

theorem plain_PlacementCodes (x0 : TPlacement) (x1 : Str) (x2 : Int) (o0 : okTPlacement x0) (o1 : okS x1) (o2 : (okI .i64) x2) : F_clockworklaw29_PlacementCodes x0 x1 x2 = some true := by
  obtain ⟨hl, _⟩ := okP_facts o0
  have hw := works_true
  unfold F_clockworklaw29_PlacementCodes
  rw [few29 hl, bnd_mk, hw, bnd_mk]
  by_cases hb : fewB29 x0 = true ∧ x1.length ≤ 2000
  · obtain ⟨hf, hs⟩ := hb
    obtain ⟨g1, g2, g3⟩ := few_ok hf o0
    have hs' : x1.length < 9000000000000000000 := by omega
    rw [hf, decide_eq_false (by omega), imp_Decode hs', ref_Decode hs', place_Encode g1 g2 g3, ref_Encode g1 g2 g3]
    simp only [bnd_mk, Bool.not_true, Bool.or_self, cond_false, BEq.rfl, gcall_t, same29_self (decodeP_len x1 x2), Bool.and_self]
  · have : (!fewB29 x0 || decide ((2000 : Int) < (x1.length : Int))) = true := by
      cases hf : fewB29 x0 with
      | false => rfl
      | true =>
        have : ¬ x1.length ≤ 2000 := fun h => hb ⟨hf, h⟩
        simp only [Bool.not_true, Bool.false_or, decide_eq_true_eq]
        omega
    rw [this, cond_true]

theorem plB_pos {p : TPlacement} (h : okI .i64 p.Version) : 1 ≤ (plB p).length := by
  have := (intB_len h).1
  simp only [plB, List.length_append]
  omega

theorem partsB_max {l : List TPart} (h : ∀ x ∈ l, Ok9 24 x) : (partsB l).length ≤ l.length * 200 := by
  induction l with
  | nil => simp [partsB]
  | cons x l ih =>
    have h1 := ih fun y hy => h y (by simp [hy])
    obtain ⟨a1, a2, a3, a4, a5⟩ := h x (by simp)
    have l1 := intB_len a1
    have l2 := intB_len a2
    have l3 := intB_len a3
    have l4 := textB_len (a := x.From) (by omega)
    have l5 := textB_len (a := x.Done) (by omega)
    rw [partsB_cons, List.length_cons, List.length_append]
    simp only [partB, List.length_append]
    omega

theorem plB_max {p : TPlacement} (h : pvB p = true) : (plB p).length ≤ 4000 := by
  obtain ⟨g1, g2, g3⟩ := pvB_ok h
  have l1 := intB_len g1
  have l2 := uintB_len64 (u := p.Parts.length) (by omega)
  have l3 := partsB_max g3
  have : p.Parts.length * 200 ≤ 16 * 200 := Nat.mul_le_mul_right _ g2
  simp only [plB, List.length_append]
  omega

theorem plain_PlacementRoundTrips (x0 : TPlacement) (x1 : Str) (o0 : okTPlacement x0) (o1 : okS x1) : F_clockworklaw29_PlacementRoundTrips x0 x1 = some true := by
  obtain ⟨hl, hss⟩ := okP_facts o0
  have hw := works_true
  unfold F_clockworklaw29_PlacementRoundTrips
  rw [few29 hl, bnd_mk, hw, bnd_mk]
  by_cases hb : fewB29 x0 = true ∧ x1.length ≤ 2000
  · obtain ⟨hf, hs⟩ := hb
    have hs' : x1.length < 9000000000000000000 := by omega
    rw [hf, decide_eq_false (by omega), valid29_ref hl hss, bnd_mk]
    simp only [Bool.not_true, Bool.or_self, cond_false, jn_mk]
    have hin : (bnd (F_placement_Decode x1 ((0 : Int))) fun x9 => (cond (x9.2.2 != (0 : Int)) (bnd (gcall (((((((x9.1.Parts).length : Nat) : Int) == (0 : Int)) && (x9.2.1 == (0 : Int)))) == true) (some true)) fun x12 => (some ((((((x9.1.Parts).length : Nat) : Int) == (0 : Int)) && (x9.2.1 == (0 : Int))) && x12))) (bnd (F_clockworkref29_Valid x9.1) fun x13 => (req (((((x13 && (decide ((1 : Int) ≤ x9.2.1))) && (decide (x9.2.1 ≤ ((x1).length : Int))))) == true) = true → 0 ≤ (0 : Int) ∧ (0 : Int) ≤ x9.2.1 ∧ x9.2.1 ≤ (((x1).length : Nat) : Int)) (bnd (gcall ((((x13 && (decide ((1 : Int) ≤ x9.2.1))) && (decide (x9.2.1 ≤ ((x1).length : Int))))) == true) (F_placement_Encode x9.1)) fun x15 => (bnd (gcall (((((x13 && (decide ((1 : Int) ≤ x9.2.1))) && (decide (x9.2.1 ≤ ((x1).length : Int)))) && (x15 == ((x1.take (x9.2.1).toNat).drop ((0 : Int)).toNat)))) == true) (some true)) fun x16 => (some ((((x13 && (decide ((1 : Int) ≤ x9.2.1))) && (decide (x9.2.1 ≤ ((x1).length : Int)))) && (x15 == ((x1.take (x9.2.1).toNat).drop ((0 : Int)).toNat))) && x16)))))))) = some true := by
      rw [imp_Decode hs', bnd_mk]
      rcases decodeP_cases x1 0 with ⟨e, h, he⟩ | ⟨k, q, t, hk, h, h1, h2, h3, h4, h5⟩
      · rw [h]
        simp only [neB, decide_eq_false he, Bool.not_false, cond_true]
        rfl
      · have hk0 : k = 0 := by omega
        subst hk0
        have h5' : x1 = plB q ++ t := by simpa using h5
        have hlen := congrArg List.length h5'
        rw [List.length_append] at hlen
        have hp := plB_pos h2
        have ho := okParts hs' (v := q.Version) (n := q.Parts.length) rfl h3 h4
        rw [h]
        simp only [Nat.zero_add, bne_self_eq_false, cond_false]
        rw [valid29_ref ho.1 ho.2, bnd_mk, h1, decide_eq_true (show (1 : Int) ≤ ((plB q).length : Int) by omega), decide_eq_true (show ((plB q).length : Int) ≤ (x1.length : Int) by omega)]
        rw [req_pos (fun _ => by omega)]
        simp only [Bool.and_self, BEq.rfl, gcall_t]
        rw [place_Encode h2 (by omega) (fun x hx => ok9_mono (by omega) (h4 x hx)), bnd_mk]
        have hc : (x1.take ((plB q).length : Int).toNat).drop (0 : Int).toNat = plB q := by
          rw [Int.toNat_natCast, h5', List.take_left]
          rfl
        rw [hc]
        simp only [BEq.rfl, Bool.and_self, gcall_t, bnd_mk]
    rw [hin]
    cases hv : pvB x0 with
    | false => rfl
    | true =>
      obtain ⟨g1, g2, g3⟩ := pvB_ok hv
      have hmax := plB_max hv
      rw [cond_true, place_Encode g1 (by omega) (fun x hx => ok9_mono (by omega) (g3 x hx)), bnd_mk, req_pos (by omega), imp_Decode (by rw [List.length_append]; omega), bnd_mk, decodeP_of g1 g2 g3 hv]
      simp only [bne_self_eq_false, Bool.or_self, BEq.rfl, gcall_t, same29_self hl, bnd_mk, Bool.not_true, cond_false]
  · have : (!fewB29 x0 || decide ((2000 : Int) < (x1.length : Int))) = true := by
      cases hf : fewB29 x0 with
      | false => rfl
      | true =>
        have : ¬ x1.length ≤ 2000 := fun h => hb ⟨hf, h⟩
        simp only [Bool.not_true, Bool.false_or, decide_eq_true_eq]
        omega
    rw [this, cond_true]

end Go.Proofs.Ytdkakeiccefbgaa
