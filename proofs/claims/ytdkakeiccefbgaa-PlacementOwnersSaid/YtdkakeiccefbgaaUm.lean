/-
  CHAPTER 29, PLAIN: the laws on Valid, on the reading functions and on Split and Merge (part m).
  Conditions: none.
-/
import Derived.Test.YtdkakeiccefbgaaOp
import Derived.Test.YtdkakeiccefbgaaUl
set_option linter.all false
namespace Go.Proofs.Ytdkakeiccefbgaa
open Go.ChangeShapes

theorem okP_facts {p : TPlacement} (h : okTPlacement p) : p.Parts.length < big ∧ ∀ x ∈ p.Parts, x.From.length < big ∧ x.Done.length < big := by
  obtain ⟨_, h1, h2⟩ := h
  have e : big = 9223372036854775808 := rfl
  refine ⟨by rw [e]; omega, fun x hx => ?_⟩
  obtain ⟨_, h3, _, _, h4⟩ := h2 x hx
  have h3 : x.From.length ≤ 9223372036854775807 := h3
  have h4 : x.Done.length ≤ 9223372036854775807 := h4
  rw [e]
  omega

def exM : TPlacement := ⟨0, [⟨1, [], 1, 2, [103]⟩]⟩
def exQ : TPlacement := ⟨1, [⟨1, [], 1, 0, []⟩, ⟨2, [109], 1, 0, []⟩]⟩
def exP : TPlacement := ⟨0, [⟨1, [], 1, 0, []⟩]⟩
theorem w1 : F_placement_New 1 = some (exP, 0) := by rw [new_impl]; rfl
theorem w2 : F_placement_Split exP 1 [109] 2 = some (exQ, 0) := by
  rw [split_impl (by decide) (by simp [exP, big]) (by decide)]; kernel_rfl
theorem w3 : F_placement_Range exQ 1 = some (⟨[], [109]⟩, 0) := by
  rw [range_impl (by decide) (by simp [exQ, big])]; kernel_rfl
theorem w4 : F_placement_Split exM 1 [107] 2 = some (⟨0, []⟩, 19) := by
  rw [split_impl (by decide) (by simp [exM, big]) (by decide)]; kernel_rfl
theorem w5 : F_placement_Merge exQ 1 = some (⟨2, [⟨1, [], 1, 0, []⟩]⟩, 0) := by
  rw [merge_impl (by decide) (by simp [exQ, big])]; kernel_rfl
theorem w6 : F_placement_Valid exQ = some true := by
  rw [valid29_impl (by decide) (by simp [exQ, big])]; kernel_rfl
theorem w7 : F_placement_Index exQ [109] = some 1 := by
  rw [index_impl (by decide) (by simp [exQ, big]) (by simp [exQ, big])]; kernel_rfl
theorem w8 : F_placement_Index exQ [108, 122] = some 0 := by
  rw [index_impl (by decide) (by simp [exQ, big]) (by simp [exQ, big])]; kernel_rfl
theorem w9 : F_placement_Owner exM [102] = some 2 := by
  rw [owner_impl (by decide) (by simp [exM, big]) (by simp [exM, big])]; kernel_rfl
theorem w10 : F_placement_Owner exM [103] = some 1 := by
  rw [owner_impl (by decide) (by simp [exM, big]) (by simp [exM, big])]; kernel_rfl
theorem w11 : F_placement_Nodes exM = some [1, 2] := by
  rw [nodes_impl (by decide) (by simp [exM, big]), nodes_eq]; kernel_rfl
theorem works_true : F_clockworklaw29_works = some true := by
  have h1 := w1; have h2 := w2; have h3 := w3; have h4 := w4; have h5 := w5; have h6 := w6; have h7 := w7; have h8 := w8; have h9 := w9; have h10 := w10; have h11 := w11
  have h12 : F_clockworkref23_Ints [1, 2] [1, 2] = some true := ints_self (by decide)
  unfold exM at h4 h9 h10 h11
  unfold F_clockworklaw29_works
  simp only [h1, bnd_mk, h2, h3, h4, h5, h6]
  simp only [bne_self_eq_false, Bool.or_self, cond_false, BEq.rfl, gcall_t, h7, bnd_mk, h8, h9, h10, h11, h12, Bool.and_self, List.length_cons, List.length_nil]
  rfl

theorem small_of {p : TPlacement} (h : fewB29 p = true) : ∀ x ∈ p.Parts, x.From.length ≤ 1000 := (few29_facts h).2.2

theorem newP_len (n : Int) : (newP n).1.Parts.length ≤ 1 ∧ ∀ x ∈ (newP n).1.Parts, x.From.length < big ∧ x.Done.length < big := by
  unfold newP
  split <;> simp

theorem plain_PlacementValid (x0 : TPlacement) (x1 : Int) (o0 : okTPlacement x0) (_ : (okI .i64) x1) : F_clockworklaw29_PlacementValid x0 x1 = some true := by
  obtain ⟨hl, hs⟩ := okP_facts o0
  have hw := works_true
  unfold F_clockworklaw29_PlacementValid
  rw [few29 hl, bnd_mk, hw, bnd_mk]
  cases hf : fewB29 x0 with
  | false => rfl
  | true =>
    have hn := newP_len x1
    rw [new_impl, new_ref, valid29_impl hl hs, valid29_ref hl hs]
    simp only [bnd_mk, Bool.not_true, cond_false, BEq.rfl, gcall_t, Bool.true_and]
    rw [same29_self (by have e : big = 9223372036854775808 := rfl; omega)]
    simp only [bnd_mk, BEq.rfl, gcall_t, Bool.true_and, Bool.and_true]
    rw [valid29_impl (by have e : big = 9223372036854775808 := rfl; omega) hn.2]
    simp only [bnd_mk, new_valid, BEq.rfl, gcall_t, Bool.and_true]

theorem ints_nodes (p : TPlacement) : F_clockworkref23_Ints (nodesImplP p) (nodesRefP p) = some true := by
  rw [nodes_eq]
  exact ints_self (by have := nodesRef_len p; have e : big = 9223372036854775808 := rfl; omega)

theorem plain_PlacementReads (x0 : TPlacement) (x1 : Int) (x2 : Str) (o0 : okTPlacement x0) (_ : (okI .i64) x1) (_ : okS x2) : F_clockworklaw29_PlacementReads x0 x1 x2 = some true := by
  obtain ⟨hl, hs⟩ := okP_facts o0
  have hw := works_true
  unfold F_clockworklaw29_PlacementReads
  rw [few29 hl, bnd_mk, hw, bnd_mk]
  cases hf : fewB29 x0 with
  | false => rfl
  | true =>
    cases hk : decide ((100 : Int) < ((x2).length : Int)) with
    | true => rfl
    | false =>
      rw [range_impl hl hs, range_ref hl hs, index_impl hl hs (small_of hf), index_ref hl hs, owner_impl hl hs (small_of hf), owner_ref hl hs, nodes_impl hl hs, nodes_ref hl hs]
      simp only [bnd_mk, Bool.not_true, Bool.or_self, cond_false, BEq.rfl, gcall_t, Bool.true_and, Bool.and_true]
      rw [ints_nodes]
      simp

theorem plain_PlacementChanges (x0 : TPlacement) (x1 : TCut) (o0 : okTPlacement x0) (o1 : okTCut x1) : F_clockworklaw29_PlacementChanges x0 x1 = some true := by
  obtain ⟨hl, hs⟩ := okP_facts o0
  have hw := works_true
  have hk : x1.Key.length < big := by
    have h : x1.Key.length ≤ 9223372036854775807 := o1.2.1
    have e : big = 9223372036854775808 := rfl
    omega
  unfold F_clockworklaw29_PlacementChanges
  rw [few29 hl, bnd_mk, hw, bnd_mk]
  cases hf : fewB29 x0 with
  | false => rfl
  | true =>
    have hq := (few29_facts hf).1
    cases hk2 : decide ((100 : Int) < ((x1.Key).length : Int)) with
    | true => rfl
    | false =>
      rw [split_impl hl hs hk, split_ref hl hs hk, merge_impl hl hs, merge_ref hl hs]
      have h1 : (splitP x0 x1.Id x1.Key x1.Fresh).1.Parts.length < big := by
        have e : big = 9223372036854775808 := rfl
        unfold splitP
        cases (!pvB x0) <;> simp only [cond_true, cond_false]
        case true => simp [empP, big]
        cases decide (findP x0.Parts x1.Id < 0) <;> simp only [cond_true, cond_false]
        case true => simp [empP, big]
        cases ((atI x0.Parts (findP x0.Parts x1.Id)).Dest != 0) <;> simp only [cond_true, cond_false]
        case true => simp [empP, big]
        generalize (((((!boundB x1.Key) || (!sLt (atI x0.Parts (findP x0.Parts x1.Id)).From x1.Key)) || ((nextF x0.Parts (findP x0.Parts x1.Id).toNat != ([] : Str)) && (!sLt x1.Key (nextF x0.Parts (findP x0.Parts x1.Id).toNat)))) || (decide (x1.Fresh < 1))) || (decide (1099511627776 < x1.Fresh))) = c
        cases c <;> simp only [cond_true, cond_false]
        case true => simp [empP, big]
        cases decide (0 ≤ findP x0.Parts x1.Fresh) <;> simp only [cond_true, cond_false]
        case true => simp [empP, big]
        cases ((decide ((16 : Int) ≤ (x0.Parts.length : Int))) || (decide (1099511627776 ≤ x0.Version))) <;> simp only [cond_true, cond_false]
        case true => simp [empP, big]
        simp only [List.length_append, List.length_take, List.length_drop, List.length_cons, List.length_nil]
        omega
      have h2 : (mergeP x0 x1.Id).1.Parts.length < big := by
        have e : big = 9223372036854775808 := rfl
        unfold mergeP
        cases (!pvB x0) <;> simp only [cond_true, cond_false]
        case true => simp [empP, big]
        cases (decide (findP x0.Parts x1.Id < 0) || decide ((x0.Parts.length : Int) ≤ findP x0.Parts x1.Id + 1)) <;> simp only [cond_true, cond_false]
        case true => simp [empP, big]
        cases ((((atI x0.Parts (findP x0.Parts x1.Id)).Dest != 0) || ((atI x0.Parts (findP x0.Parts x1.Id + 1)).Dest != 0)) || ((atI x0.Parts (findP x0.Parts x1.Id)).Node != (atI x0.Parts (findP x0.Parts x1.Id + 1)).Node)) <;> simp only [cond_true, cond_false]
        case true => simp [empP, big]
        cases (decide (1099511627776 ≤ x0.Version)) <;> simp only [cond_true, cond_false]
        case true => simp [empP, big]
        simp only [List.length_append, List.length_take, List.length_drop]
        omega
      simp only [bnd_mk, Bool.not_true, Bool.or_self, cond_false]
      rw [same29_self h1, same29_self h2]
      simp

end Go.Proofs.Ytdkakeiccefbgaa
