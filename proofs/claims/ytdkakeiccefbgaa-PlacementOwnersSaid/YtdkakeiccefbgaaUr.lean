/-
  CHAPTER 29, PLAIN: the law of owners (part r).
  Conditions: none.
-/
import Derived.Test.YtdkakeiccefbgaaUq
set_option linter.all false
namespace Go.Proofs.Ytdkakeiccefbgaa
open Go.ChangeShapes

theorem owners2 {p : TPlacement} {key : Str} {J : Int → Int → Option Bool} {i0 : Nat} (h : PV p.Version p.Parts) (hi : InPart p.Parts i0 key) :
    F_clockworklaw29_PlacementOwners_L2 p key J (((((p.Parts).length : Nat) : Int)).toNat + 1) 0 (-1) 0 = J 1 (i0 : Int) := by
  have hps := pv_small h
  have hlen := h.len
  have hlt := hi.lt
  refine (loopSeq (len := p.Parts.length) (by omega) (L := fun n (s : Int × Int) i => F_clockworklaw29_PlacementOwners_L2 p key J n s.1 s.2 i) (S := fun i => if i0 < i then (1, (i0 : Int)) else (0, -1)) (J := fun s => J s.1 s.2) ?_ ?_ (((((p.Parts).length : Nat) : Int)).toNat + 1) 0 (by omega) (by omega)).trans ?_
  · intro n i hil
    try dsimp only
    rw [F_clockworklaw29_PlacementOwners_L2]
    simp only [show (i : Int) < ((p.Parts.length : Nat) : Int) by omega, decide_true, cond_true, show 0 ≤ (i : Int) by omega, and_self, req_t, jn_mk]
    rw [range_impl hps.1 hps.2.1, bnd_mk]
    have hr : rangeP p (atI p.Parts (i : Int)).Id = (⟨(ap p.Parts i).From, nextF p.Parts i⟩, 0) := by
      unfold rangeP
      have hf : findP p.Parts (atI p.Parts (i : Int)).Id = (i : Int) := findP_of h hil
      rw [if_neg (by rw [pv_iff.2 h]; simp), hf, if_neg (by omega)]
      rfl
    rw [hr]
    simp only [bne_self_eq_false, cond_false]
    have hin : ((!sLt key (ap p.Parts i).From) && ((nextF p.Parts i == ([] : Str)) || (sLt key (nextF p.Parts i)))) = decide (i = i0) := by
      by_cases he : i = i0
      · subst he
        rw [hi.lo]
        by_cases hn : i + 1 < p.Parts.length
        · rw [nextF_eq hn, hi.hi hn]; simp
        · rw [nextF_last hn]; simp
      · simp only [he, decide_false]
        refine Bool.eq_false_iff.2 fun hc => he ?_
        simp only [Bool.and_eq_true, Bool.not_eq_true', Bool.or_eq_true, beq_iff_eq] at hc
        refine InPart.unique h ⟨hil, hc.1, fun hn => ?_⟩ hi
        rcases hc.2 with g | g
        · rw [nextF_eq hn] at g
          exact absurd g (next_ne (pv_iff.2 h) hn)
        · rwa [nextF_eq hn] at g
    rw [hin]
    by_cases he : i = i0
    · subst he
      simp only [decide_true, cond_true, Nat.lt_irrefl, if_false, Nat.lt_succ_self, if_true]
      rw [show IntKind.i64.wrap ((0 : Int) + 1) = 1 from rfl]
    · simp only [he, decide_false, cond_false]
      by_cases hc : i0 < i
      · simp only [hc, if_true, show i0 < i + 1 by omega]
      · simp only [hc, if_false, show ¬ i0 < i + 1 by omega]
  · intro n
    try dsimp only
    rw [F_clockworklaw29_PlacementOwners_L2]
    simp
  · simp only [hlt, if_true]

theorem owners1 {l : List Int} {o : Int} {J : Bool → Option Bool} (hl : l.length < big) : F_clockworklaw29_PlacementOwners_L1 l o J ((((l.length : Nat) : Int)).toNat + 1) false 0 = J (l.any fun x => x == o) := by
  have e : big = 9223372036854775808 := rfl
  refine (loopSeq (len := l.length) (by omega) (L := fun n s i => F_clockworklaw29_PlacementOwners_L1 l o J n s i) (S := fun i => (l.take i).any fun x => x == o) (J := J) ?_ ?_ ((((l.length : Nat) : Int)).toNat + 1) 0 (by omega) (by omega)).trans ?_
  · intro n i hil
    try dsimp only
    rw [F_clockworklaw29_PlacementOwners_L1]
    simp only [show (i : Int) < ((l.length : Nat) : Int) by omega, decide_true, cond_true, show 0 ≤ (i : Int) by omega, and_self, implies_true, req_t]
    have hs : ((l.take (i + 1)).any fun x => x == o) = ((l.take i).any (fun x => x == o) || (l[i] == o)) := by
      rw [List.take_succ_eq_append_getElem hil, List.any_append]; simp
    rw [hs, atI_nat hil]
    cases ((l.take i).any fun x => x == o) <;> simp
  · intro n
    try dsimp only
    rw [F_clockworklaw29_PlacementOwners_L1]
    simp
  · rw [List.take_length]

theorem plain_PlacementOwners (x0 : TPlacement) (x1 : Str) (o0 : okTPlacement x0) (_ : okS x1) : F_clockworklaw29_PlacementOwners x0 x1 = some true := by
  obtain ⟨hl, hs⟩ := okP_facts o0
  have hw := works_true
  unfold F_clockworklaw29_PlacementOwners
  rw [few29 hl, bnd_mk, hw, bnd_mk]
  cases hf : fewB29 x0 with
  | false => rfl
  | true =>
    cases hk2 : decide ((100 : Int) < ((x1).length : Int)) with
    | true => rfl
    | false =>
      simp only [Bool.not_true, Bool.or_self, cond_false]
      rw [valid29_ref hl hs, bnd_mk]
      cases hv : pvB x0 with
      | false =>
        have hi : indexP x0 x1 = -1 := by unfold indexP; rw [if_pos hv]
        have ho : ownerP x0 x1 = 0 := by unfold ownerP; rw [hi]; rfl
        rw [owner_impl hl hs (small_of hf), index_impl hl hs (small_of hf), hi, ho]
        rfl
      | true =>
        have pv := pv_iff.1 hv
        obtain ⟨i0, h1, h2⟩ := index_in pv x1
        have hps := pv_small pv
        have hlt := h2.lt
        simp only [Bool.not_true, cond_false, jn_mk]
        rw [owners2 pv h2, index_impl hl hs hps.2.2, h1]
        simp only [bne_self_eq_false, BEq.rfl, gcall_t, bnd_mk, Bool.or_self, cond_false]
        rw [owner_impl hl hs hps.2.2, bnd_mk, nodes_impl hl hs, bnd_mk, nodes_eq]
        rw [owners1 (by have := nodesRef_len x0; have e : big = 9223372036854775808 := rfl; omega)]
        rw [owner_of pv h2]
        have hmem : ((nodesRefP x0).any fun x => x == partOwner (ap x0.Parts i0) x1) = true := by
          rw [List.any_eq_true]
          refine ⟨partOwner (ap x0.Parts i0) x1, (nodes_mem pv _).2 ?_, by simp⟩
          have hn := pv.node i0 hlt
          have hm := pv.mov i0 hlt
          unfold partOwner
          split
          · rename_i hc
            simp only [Bool.and_eq_true, bne_iff_ne] at hc
            have := hm.dest hc.1
            exact ⟨by omega, by omega, i0, hlt, .inr rfl⟩
          · exact ⟨by omega, by omega, i0, hlt, .inl rfl⟩
        rw [hmem]
        have e1 : (0 ≤ (i0 : Int) ∧ (i0 : Int) < ((x0.Parts).length : Int)) = True := by apply eq_true; omega
        simp only [e1, implies_true, req_t, BEq.rfl, cond_true, Bool.true_and, Bool.and_true]
        change _ = _
        rw [show atI x0.Parts (i0 : Int) = ap x0.Parts i0 from rfl]
        have hm := pv.mov i0 hlt
        generalize ap x0.Parts i0 = y at hm
        unfold partOwner
        by_cases hd : y.Dest = 0
        · simp [hd]
        · have hdn := (hm.dest hd).2.2.1
          have f1 : (y.Dest == y.Node) = false := by simpa using hdn
          have f2 : (y.Dest == 0) = false := by simpa using hd
          have f3 : (y.Dest != 0) = true := by simpa using hd
          cases hs2 : sLt x1 y.Done with
          | true =>
            simp only [f3, f2, f1, hs2, Bool.and_self, if_true, Bool.false_and, Bool.and_false, Bool.true_and, cond_false, cond_true, BEq.rfl, Bool.false_or, Bool.or_false, gcall_t, bnd_mk, Bool.and_true]
          | false =>
            simp only [f3, f2, hs2, Bool.and_false, Bool.false_eq_true, if_false, Bool.true_and, Bool.and_true, cond_false, cond_true, BEq.rfl, Bool.not_false, Bool.or_true, Bool.true_or, Bool.false_or, gcall_t, bnd_mk, Bool.and_self]

end Go.Proofs.Ytdkakeiccefbgaa
