/-
 APPLY, CLOSED: program and specification alike; THE LAW RebalanceApplies IN PLAIN LEAN.
-/
import Derived.Test.YtglnnhmmipopiaaGreatOx
set_option linter.all false
namespace Go.Proofs.YtglnnhmmipopiaaGreat
def plnB (m : TMarker) : Bool :=
 cond (m.Kind == 1) ((m.Node == 0) && (m.N == 0)) (cond (m.Kind == 2) (((m.New == 0) && (m.Node == 0)) && (m.N == 0) && (m.Key == ([] : Str))) (cond (m.Kind == 3) (((m.New == 0) && (m.N == 0)) && (m.Key == ([] : Str))) (cond (m.Kind == 4) (((m.New == 0) && (m.Node == 0)) && (m.Key == ([] : Str))) false)))
theorem pln_impl (m : TMarker) : F_rebalance_plain m = some (plnB m) := by
 unfold F_rebalance_plain plnB
 cases (m.Kind == 1) <;> cases (m.Kind == 2) <;> cases (m.Kind == 3) <;> cases (m.Kind == 4) <;> rfl
theorem pln_kind {m : TMarker} (h : plnB m = true) : m.Kind = 1 ∨ m.Kind = 2 ∨ m.Kind = 3 ∨ m.Kind = 4 := by
 unfold plnB at h
 by_cases h1 : m.Kind = 1
 ·exact .inl h1
 ·by_cases h2 : m.Kind = 2
  ·exact .inr (.inl h2)
  ·by_cases h3 : m.Kind = 3
   ·exact .inr (.inr (.inl h3))
   ·by_cases h4 : m.Kind = 4
    ·exact .inr (.inr (.inr h4))
    ·rw [beq_eq_false_iff_ne.2 h1, beq_eq_false_iff_ne.2 h2, beq_eq_false_iff_ne.2 h3, beq_eq_false_iff_ne.2 h4] at h
     cases h
def stepP (p : TPlacement) (l : List TShard) (m : TMarker) : TPlacement × Int :=
 if m.Kind = 1 then splitP p m.Part m.Key m.New else if m.Kind = 2 then mergeP p m.Part else if m.Kind = 3 then stP p m.Part m.Node else ((ckP p l m.Part m.N).1, (ckP p l m.Part m.N).2.2.2)
def applyP (p : TPlacement) (l : List TShard) (m : TMarker) : TPlacement × List TShard × Int :=
 cond (!dvB p l || !plnB m) (noP, [], 1) (cond ((stepP p l m).2 != 0) (noP, [], (stepP p l m).2) ((stepP p l m).1, loadP (stepP p l m).1 (gthP l).1, 0))
theorem pok_no : POk noP := ⟨by decide, fun x hx => by cases hx⟩
theorem pok_cond {b : Bool} {x y : TPlacement × Int} (h1 : b = true → POk x.1) (h2 : b = false → POk y.1) : POk (cond b x y).1 := by
 cases b with
 | true => exact h1 rfl
 | false => exact h2 rfl
theorem pok_split {p : TPlacement} (hp : POk p) (hpl : p.Parts.length ≤ 1000) {key : Str} (hk : key.length < big) (id fresh : Int) : POk (splitP p id key fresh).1 := by
 have eb : big = 9223372036854775808 := rfl
 unfold splitP
 refine pok_cond (fun _ => pok_no) fun _ => pok_cond (fun _ => pok_no) fun _ => pok_cond (fun _ => pok_no) fun _ => pok_cond (fun _ => pok_no) fun _ => pok_cond (fun _ => pok_no) fun _ => pok_cond (fun _ => pok_no) fun _ => ⟨?_, fun x hx => ?_⟩
 ·show ((p.Parts.take _ ++ [_]) ++ p.Parts.drop _).length < big
  rw [List.length_append, List.length_append, List.length_take, List.length_drop]
  simp only [List.length_cons, List.length_nil]
  omega
 ·rcases List.mem_append.1 hx with hx | hx
  ·rcases List.mem_append.1 hx with hx | hx
   ·exact hp.s x (List.mem_of_mem_take hx)
   ·rw [List.mem_singleton] at hx
    subst hx
    exact ⟨hk, by show ([] : Str).length < big; decide⟩
  ·exact hp.s x (List.mem_of_mem_drop hx)
theorem pok_merge {p : TPlacement} (hp : POk p) (hpl : p.Parts.length ≤ 1000) (id : Int) : POk (mergeP p id).1 := by
 have eb : big = 9223372036854775808 := rfl
 unfold mergeP
 refine pok_cond (fun _ => pok_no) fun _ => pok_cond (fun _ => pok_no) fun _ => pok_cond (fun _ => pok_no) fun _ => pok_cond (fun _ => pok_no) fun _ => ⟨?_, fun x hx => ?_⟩
 ·show (p.Parts.take _ ++ p.Parts.drop _).length < big
  rw [List.length_append, List.length_take, List.length_drop]
  omega
 ·rcases List.mem_append.1 hx with hx | hx
  ·exact hp.s x (List.mem_of_mem_take hx)
  ·exact hp.s x (List.mem_of_mem_drop hx)
theorem atI_in {l : List TPart} (hs : ∀ x ∈ l, x.From.length < big ∧ x.Done.length < big) (i : Int) : (atI l i).From.length < big ∧ (atI l i).Done.length < big := by
 by_cases h : i.toNat < l.length
 ·have : atI l i ∈ l := by
   have e : atI l i = l[i.toNat] := by simp [atI, List.getD_eq_getElem?_getD, h]
   rw [e]; exact List.getElem_mem h
  exact hs _ this
 ·have e : atI l i = default := by simp [atI, List.getD_eq_getElem?_getD, List.getElem?_eq_none (Nat.le_of_not_lt h)]
  rw [e]
  exact ⟨by show ([] : Str).length < big; decide, by show ([] : Str).length < big; decide⟩
theorem pok_set {p : TPlacement} (hp : POk p) (i : Int) {x : TPart} (hx : i.toNat < p.Parts.length → x.From.length < big ∧ x.Done.length < big) : POk (chP p i x) := by
 refine ⟨by show (p.Parts.set _ _).length < big; rw [List.length_set]; exact hp.l, fun y hy => ?_⟩
 have hy : y ∈ p.Parts.set i.toNat x := hy
 by_cases h : i.toNat < p.Parts.length
 ·rcases List.mem_or_eq_of_mem_set hy with hy | rfl
  ·exact hp.s y hy
  ·exact hx h
 ·rw [List.set_eq_of_length_le (Nat.le_of_not_lt h)] at hy
  exact hp.s y hy
theorem pok_start {p : TPlacement} (hp : POk p) (id node : Int) : POk (stP p id node).1 := by
 unfold stP
 refine pok_cond (fun _ => pok_no) fun _ => pok_cond (fun _ => pok_no) fun _ => pok_cond (fun _ => pok_no) fun _ => pok_cond (fun _ => pok_no) fun _ => pok_set hp _ fun _ => ?_
 have := atI_in hp.s (findP p.Parts id)
 exact ⟨this.1, this.1⟩
theorem pok_ck {p : TPlacement} (hp : POk p) {l : List TShard} (hs : SOk l) (id n : Int) : POk (ckP p l id n).1 := by
 unfold ckP
 by_cases hn : n < 1
 ·rw [decide_eq_true hn]; exact pok_no
 ·rw [decide_eq_false hn, cond_false]
  cases ((movP p l id).2 != 0) with
  | true => exact pok_no
  | false =>
   refine pok_set hp _ fun hk => ?_
   have e : atI p.Parts (movP p l id).1 = atI p.Parts ((movP p l id).1.toNat : Int) := by unfold atI; rw [Int.toNat_natCast]
   rw [e]
   exact nxtX_ok hp hs hk _ (by omega)
theorem pok_step {p : TPlacement} (hp : POk p) (hpl : p.Parts.length ≤ 1000) {l : List TShard} (hs : SOk l) {m : TMarker} (hk : m.Key.length < big) : POk (stepP p l m).1 := by
 unfold stepP
 split
 ·exact pok_split hp hpl hk _ _
 ·split
  ·exact pok_merge hp hpl _
  ·split
   ·exact pok_start hp _ _
   ·exact pok_ck hp hs _ _
theorem loaded_eq {p : TPlacement} {l : List TShard} {m : TMarker} (hs : SOk l) (hd : dvB p l = true) {r : TPlacement × Int} (hr : POk r.1) :
  F_rebalance_board_loaded ⟨p, l, m⟩ r.1 r.2 = some (cond (r.2 != 0) (noP, [], r.2) (r.1, loadP r.1 (gthP l).1, 0)) := by
 obtain ⟨u, hu, _⟩ := gth_spec hd
 obtain ⟨g1, g2⟩ := gth_inv hs
 unfold F_rebalance_board_loaded
 cases (r.2 != 0) with
 | true => rfl
 | false =>
  rw [cond_false, cond_false]
  show bnd (F_dist_Gather l) _ = _
  rw [gather_impl hs, bnd_mk, show (gthP l).2 = 0 by rw [hu], show ((0 : Int) != 0) = false from rfl, cond_false, load_impl hr g1 (by omega), bnd_mk]
theorem apply_impl {p : TPlacement} (hp : POk p) (hpl : p.Parts.length ≤ 1000) {l : List TShard} (hs : SOk l) {m : TMarker} (hk : m.Key.length < big) : F_rebalance_Apply p l m = some (applyP p l m) := by
 unfold F_rebalance_Apply applyP
 rw [dvalid_impl hp hs, bnd_mk]
 cases hd : dvB p l with
 | false => simp [gcall, bnd]; rfl
 | true =>
  rw [show ((!true) == false) = true from rfl, gcall_t, pln_impl, bnd_mk]
  cases hm : plnB m with
  | false => rfl
  | true =>
   rw [show ((!true) || (!true)) = false from rfl, cond_false, cond_false]
   unfold stepP
   by_cases h1 : m.Kind = 1
   ·rw [if_pos h1, if_pos h1]
    unfold F_rebalance_board_split
    show bnd (F_placement_Split p m.Part m.Key m.New) _ = _
    rw [split_impl hp.l hp.s hk, bnd_mk, loaded_eq hs hd (pok_split hp hpl hk _ _), bnd_mk]
   ·rw [if_neg h1, if_neg h1]
    by_cases h2 : m.Kind = 2
    ·rw [if_pos h2, if_pos h2]
     unfold F_rebalance_board_merge
     show bnd (F_placement_Merge p m.Part) _ = _
     rw [merge_impl hp.l hp.s, bnd_mk, loaded_eq hs hd (pok_merge hp hpl _), bnd_mk]
    ·rw [if_neg h2, if_neg h2]
     by_cases h3 : m.Kind = 3
     ·rw [if_pos h3, if_pos h3]
      unfold F_rebalance_board_move
      show bnd (F_migrate_Start p m.Part m.Node) _ = _
      rw [start_impl hp hpl, bnd_mk, loaded_eq hs hd (pok_start hp _ _), bnd_mk]
     ·have h4 : m.Kind = 4 := by
       rcases pln_kind hm with h | h | h | h
       ·exact absurd h h1
       ·exact absurd h h2
       ·exact absurd h h3
       ·exact h
      rw [if_neg h3, if_neg h3, if_pos h4]
      unfold F_rebalance_board_chunk
      show bnd (F_migrate_Chunk p l m.Part m.N) _ = _
      rw [chunk_impl hp hpl hs, bnd_mk]
      unfold ckP
      cases decide (m.N < 1) with
      | true => rfl
      | false =>
       rw [cond_false]
       cases hc : ((movP p l m.Part).2 != 0) with
       | true => rw [cond_true]; show cond ((movP p l m.Part).2 != 0) _ _ = some (cond ((movP p l m.Part).2 != 0) _ _); rw [hc]; rfl
       | false => rfl
end Go.Proofs.YtglnnhmmipopiaaGreat
