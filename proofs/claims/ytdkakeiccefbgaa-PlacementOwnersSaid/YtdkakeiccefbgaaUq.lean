/-
  CHAPTER 29, PLAIN: the laws of dividing, of joining and of owners (part q).
  Conditions: none.
-/
import Derived.Test.YtdkakeiccefbgaaUp
set_option linter.all false
namespace Go.Proofs.Ytdkakeiccefbgaa
open Go.ChangeShapes

theorem pv_small {p : TPlacement} (h : PV p.Version p.Parts) : p.Parts.length < big ∧ (∀ x ∈ p.Parts, x.From.length < big ∧ x.Done.length < big) ∧ ∀ x ∈ p.Parts, x.From.length ≤ 1000 := by
  have e : big = 9223372036854775808 := rfl
  have hb : ∀ s : Str, boundB s = true → s.length ≤ 24 := fun s hs => by
    simp only [boundB, Bool.and_eq_true, decide_eq_true_eq] at hs; exact hs.1
  have hx : ∀ x ∈ p.Parts, x.From.length ≤ 24 ∧ x.Done.length ≤ 24 := by
    intro x hx
    obtain ⟨i, hi, rfl⟩ := mem_ap hx
    refine ⟨hb _ (h.bnd i hi), ?_⟩
    by_cases hd : (ap p.Parts i).Dest = 0
    · rw [(h.mov i hi).done hd]; simp
    · exact hb _ ((h.mov i hi).dest hd).2.2.2.1
  have := h.len
  refine ⟨by omega, fun x hm => ?_, fun x hm => ?_⟩
  · have := hx x hm; omega
  · have := hx x hm; omega

theorem plain_PlacementSplits (x0 : TPlacement) (x1 : TCut) (x2 : Str) (o0 : okTPlacement x0) (o1 : okTCut x1) (_ : okS x2) : F_clockworklaw29_PlacementSplits x0 x1 x2 = some true := by
  obtain ⟨hl, hs⟩ := okP_facts o0
  have hw := works_true
  have hk : x1.Key.length < big := by
    have h : x1.Key.length ≤ 9223372036854775807 := o1.2.1
    have e : big = 9223372036854775808 := rfl
    omega
  unfold F_clockworklaw29_PlacementSplits
  rw [few29 hl, bnd_mk, hw, bnd_mk]
  cases hf : fewB29 x0 with
  | false => rfl
  | true =>
    cases hk1 : decide ((100 : Int) < ((x1.Key).length : Int)) with
    | true => rfl
    | false =>
      cases hk2 : decide ((100 : Int) < ((x2).length : Int)) with
      | true => rfl
      | false =>
        rw [split_impl hl hs hk]
        rcases splitP_cases x0 x1.Id x1.Key x1.Fresh with ⟨h1, h2⟩ | ⟨k, hfk, hd, he⟩
        · have h1' : ((splitP x0 x1.Id x1.Key x1.Fresh).2 != (0 : Int)) = true := by simpa using h1
          simp only [bnd_mk, h1', h2, empP]
          rfl
        · rw [he]
          have hq : PV (x0.Version + 1) (divL x0.Parts k x1.Key x1.Fresh) := div_pv hd
          have hqs := pv_small (p := ⟨x0.Version + 1, divL x0.Parts k x1.Key x1.Fresh⟩) hq
          have hps := pv_small hd.pv
          have hver := hd.ver
          have hv0 := hd.pv.ver
          have hlen := hd.len
          have hl1 := div_len (key := x1.Key) (fresh := x1.Fresh) hd.lt
          have w1 : IntKind.i64.wrap (x0.Version + 1) = x0.Version + 1 := w64 (by omega) (by omega)
          have w2 : IntKind.i64.wrap (((x0.Parts.length : Nat) : Int) + 1) = ((x0.Parts.length + 1 : Nat) : Int) := by rw [w64 (by omega) (by omega)]; omega
          have w3 : IntKind.i64.wrap (x0.Version + 2) = x0.Version + 2 := w64 (by omega) (by omega)
          simp only [bnd_mk, bne_self_eq_false, cond_false, Bool.not_true, Bool.or_self]
          rw [valid29_ref hqs.1 hqs.2.1, pv_iff.2 hq]
          simp only [bnd_mk, hl1, w1, w2, bne_self_eq_false, Bool.not_true, Bool.or_self, BEq.rfl, gcall_t]
          rw [owner_impl hqs.1 hqs.2.1 hqs.2.2, owner_impl hl hs hps.2.2, owner_impl hqs.1 hqs.2.1 hqs.2.2, owner_impl hl hs hps.2.2, nodes_impl hqs.1 hqs.2.1, nodes_impl hl hs]
          rw [show ownerP ⟨x0.Version + 1, divL x0.Parts k x1.Key x1.Fresh⟩ x2 = ownerP x0 x2 from div_owner hd hq x2, show ownerP ⟨x0.Version + 1, divL x0.Parts k x1.Key x1.Fresh⟩ x1.Key = ownerP x0 x1.Key from div_owner hd hq x1.Key,
            nodes_eq, nodes_eq, show nodesRefP ⟨x0.Version + 1, divL x0.Parts k x1.Key x1.Fresh⟩ = nodesRefP x0 from div_nodes hd hq]
          simp only [bnd_mk, bne_self_eq_false, Bool.or_self, BEq.rfl, gcall_t]
          rw [ints_self (by have := nodesRef_len x0; have e : big = 9223372036854775808 := rfl; omega)]
          simp only [bnd_mk, Bool.not_true, Bool.or_self, cond_false]
          cases hm : (x0.Version + 1 == (1099511627776 : Int)) with
          | true => rfl
          | false =>
            simp only [cond_false]
            rw [merge_impl hqs.1 hqs.2.1]
            have hjo : JoinOk (x0.Version + 1) (divL x0.Parts k x1.Key x1.Fresh) k := by
              have hA := div_ap (l := x0.Parts) (key := x1.Key) (fresh := x1.Fresh) hd.lt
              have hlt := hd.lt
              simp only [beq_eq_false_iff_ne, ne_eq] at hm
              refine ⟨hq, by omega, ?_, ?_, ?_, by omega⟩
              · rw [hA, if_pos (Nat.le_refl _)]; exact hd.dest
              · rw [hA, if_neg (by omega), if_pos rfl]
              · rw [hA, hA, if_pos (Nat.le_refl _), if_neg (by omega), if_pos rfl]
            have hid : x1.Id = (ap (divL x0.Parts k x1.Key x1.Fresh) k).Id := by
              rw [div_ap hd.lt, if_pos (Nat.le_refl _)]
              exact (findP_spec hfk).2.symm
            have hfq : findP (divL x0.Parts k x1.Key x1.Fresh) x1.Id = (k : Int) := by
              rw [hid]; exact findP_of hq (by have := hd.lt; omega)
            rw [mergeP_ok (p := ⟨x0.Version + 1, divL x0.Parts k x1.Key x1.Fresh⟩) hfq hjo]
            simp only [bnd_mk, BEq.rfl, gcall_t, join_div hd, w3]
            rw [show x0.Version + 1 + 1 = x0.Version + 2 by omega, same29_self (p := ⟨x0.Version + 2, x0.Parts⟩) hl]
            rfl

theorem plain_PlacementMerges (x0 : TPlacement) (x1 : Int) (x2 : Str) (o0 : okTPlacement x0) (_ : (okI .i64) x1) (_ : okS x2) : F_clockworklaw29_PlacementMerges x0 x1 x2 = some true := by
  obtain ⟨hl, hs⟩ := okP_facts o0
  have hw := works_true
  unfold F_clockworklaw29_PlacementMerges
  rw [few29 hl, bnd_mk, hw, bnd_mk]
  cases hf : fewB29 x0 with
  | false => rfl
  | true =>
    cases hk2 : decide ((100 : Int) < ((x2).length : Int)) with
    | true => rfl
    | false =>
      rw [merge_impl hl hs]
      rcases mergeP_cases x0 x1 with ⟨h1, h2⟩ | ⟨k, hfk, hd, he⟩
      · have h1' : ((mergeP x0 x1).2 != (0 : Int)) = true := by simpa using h1
        simp only [bnd_mk, h1', h2, empP]
        rfl
      · rw [he]
        have hq : PV (x0.Version + 1) (joinL x0.Parts k) := join_pv hd
        have hqs := pv_small (p := ⟨x0.Version + 1, joinL x0.Parts k⟩) hq
        have hps := pv_small hd.pv
        have hver := hd.ver
        have hv0 := hd.pv.ver
        have hlen := hd.pv.len
        have hlt := hd.lt
        have hl1 := join_len hd.lt
        have w0 : IntKind.i64.wrap ((k : Int) + 1) = ((k + 1 : Nat) : Int) := wrap_succ (by omega)
        have w1 : IntKind.i64.wrap (x0.Version + 1) = x0.Version + 1 := w64 (by omega) (by omega)
        have w2 : IntKind.i64.wrap (((x0.Parts.length : Nat) : Int) - 1) = ((x0.Parts.length - 1 : Nat) : Int) := by rw [w64 (by omega) (by omega)]; omega
        have w3 : IntKind.i64.wrap (x0.Version + 2) = x0.Version + 2 := w64 (by omega) (by omega)
        simp only [bnd_mk, bne_self_eq_false, cond_false, Bool.not_true, Bool.or_self]
        rw [find_ref hl, hfk, valid29_ref hqs.1 hqs.2.1, pv_iff.2 hq]
        simp only [bnd_mk, hl1, w0, w1, w2, bne_self_eq_false, Bool.not_true, Bool.or_self, BEq.rfl, gcall_t, show ¬ (k : Int) < 0 by omega, decide_false, show ¬ ((x0.Parts.length : Nat) : Int) ≤ ((k + 1 : Nat) : Int) by omega]
        rw [owner_impl hqs.1 hqs.2.1 hqs.2.2, owner_impl hl hs hps.2.2, nodes_impl hqs.1 hqs.2.1, nodes_impl hl hs]
        rw [show ownerP ⟨x0.Version + 1, joinL x0.Parts k⟩ x2 = ownerP x0 x2 from join_owner hd hq x2, nodes_eq, nodes_eq, show nodesRefP ⟨x0.Version + 1, joinL x0.Parts k⟩ = nodesRefP x0 from join_nodes hd hq]
        simp only [bnd_mk, bne_self_eq_false, Bool.or_self, BEq.rfl, gcall_t]
        rw [ints_self (by have := nodesRef_len x0; have e : big = 9223372036854775808 := rfl; omega)]
        simp only [bnd_mk, Bool.not_true, Bool.or_self, cond_false]
        cases hm : (x0.Version + 1 == (1099511627776 : Int)) with
        | true => rfl
        | false =>
          simp only [cond_false]
          rw [req_pos (by constructor <;> omega)]
          try rw [req_pos (by constructor <;> omega)]
          change bnd (F_placement_Split ⟨x0.Version + 1, joinL x0.Parts k⟩ x1 (ap x0.Parts (k + 1)).From (ap x0.Parts (k + 1)).Id) _ = _
          have hA := join_ap hd.lt
          have hbl : (ap x0.Parts (k + 1)).From.length < big := (hs _ (ap_mem hlt)).1
          rw [split_impl hqs.1 hqs.2.1 hbl]
          have hdo : DivOk (x0.Version + 1) (joinL x0.Parts k) k (ap x0.Parts (k + 1)).From (ap x0.Parts (k + 1)).Id := by
            simp only [beq_eq_false_iff_ne, ne_eq] at hm
            refine ⟨hq, by omega, ?_, hd.pv.bnd _ hlt, ?_, fun hn => ?_, hd.pv.id _ hlt, fun i hi => ?_, by omega, by omega⟩
            · rw [hA, if_pos (Nat.le_refl _)]; exact hd.dest
            · rw [hA, if_pos (Nat.le_refl _)]; exact hd.pv.asc k hlt
            · rw [hA, if_neg (by omega)]; exact hd.pv.asc (k + 1) (by omega)
            · rw [hA]
              split
              · exact hd.pv.uniq _ _ (by omega) hlt
              · exact (hd.pv.uniq _ _ (by omega) (by omega)).symm
          have hid : x1 = (ap (joinL x0.Parts k) k).Id := by
            rw [hA, if_pos (Nat.le_refl _)]
            exact (findP_spec hfk).2.symm
          have hfq : findP (joinL x0.Parts k) x1 = (k : Int) := by
            rw [hid]; exact findP_of hq (by omega)
          rw [splitP_ok (p := ⟨x0.Version + 1, joinL x0.Parts k⟩) hfq hdo]
          simp only [bnd_mk, BEq.rfl, gcall_t, div_join hd, w3]
          rw [show x0.Version + 1 + 1 = x0.Version + 2 by omega, same29_self (p := ⟨x0.Version + 2, x0.Parts⟩) hl]
          rfl

end Go.Proofs.Ytdkakeiccefbgaa
