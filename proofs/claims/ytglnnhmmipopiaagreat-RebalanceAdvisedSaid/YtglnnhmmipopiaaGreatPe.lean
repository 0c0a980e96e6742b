/-
 ADVISE, CLOSED (part 4): Advise whole; THE LAW RebalanceAdvises IN PLAIN LEAN.
-/
import Derived.Test.YtglnnhmmipopiaaGreatPd
set_option linter.all false
namespace Go.Proofs.YtglnnhmmipopiaaGreat
def bsS (p : TPlacement) (S : List Int) (f : Int) (b : Int) (i : Nat) : Int :=
 cond (((atI p.Parts (i : Int)).Node == f) && (decide (b < 0) || decide (atI S b < atI S (i : Int)))) (i : Int) b
def bsP (p : TPlacement) (S : List Int) (f : Int) (n : Nat) : Int := (List.range n).foldl (bsS p S f) (-1)
theorem bsP_bound (p : TPlacement) (S : List Int) (f : Int) : ∀ n, -1 ≤ bsP p S f n ∧ bsP p S f n < (n : Int)
 | 0 => by unfold bsP; simp
 | n + 1 => by
  have ih := bsP_bound p S f n
  unfold bsP at ih ⊢
  rw [List.range_succ, List.foldl_append]
  generalize (List.range n).foldl (bsS p S f) (-1) = z at ih ⊢
  show -1 ≤ bsS p S f z n ∧ bsS p S f z n < _
  unfold bsS
  cases (((atI p.Parts (n : Int)).Node == f) && (decide (z < 0) || decide (atI S z < atI S (n : Int)))) with
  | true => rw [cond_true]; omega
  | false => rw [cond_false]; omega
theorem bs_step {p : TPlacement} {S : List Int} (hS : S.length = p.Parts.length) {f b : Int} {i : Nat} (hi : i < p.Parts.length) (hb : -1 ≤ b ∧ b < (i : Int)) (K : Int → Option (TMarker × Bool)) :
  (req (((((decide (b < (0 : Int)))) == false) && ((((atI p.Parts (i : Int)).Node == f)) == true)) = true → 0 ≤ (i : Int) ∧ (i : Int) < ((S).length : Int)) (req (((((decide (b < (0 : Int)))) == false) && ((((atI p.Parts (i : Int)).Node == f)) == true)) = true → 0 ≤ b ∧ b < ((S).length : Int)) (cond (((atI p.Parts (i : Int)).Node == f) && ((decide (b < (0 : Int))) || (decide ((cond ((((decide (b < (0 : Int)))) == false) && ((((atI p.Parts (i : Int)).Node == f)) == true)) (atI S b) default) < (cond ((((decide (b < (0 : Int)))) == false) && ((((atI p.Parts (i : Int)).Node == f)) == true)) (atI S (i : Int)) default))))) (K (i : Int)) (K b)))) = K (bsS p S f b i) := by
 unfold bsS
 cases h1 : ((atI p.Parts (i : Int)).Node == f) with
 | false => rw [req_pos (fun h => by simp at h), req_pos (fun h => by simp at h)]; rfl
 | true =>
  by_cases h2 : b < 0
  ·rw [decide_eq_true h2, req_pos (fun h => by simp at h), req_pos (fun h => by simp at h)]; rfl
  ·rw [decide_eq_false h2, req_pos (fun _ => by omega), req_pos (fun _ => by omega), show ((false == false) && (true == true)) = true from rfl, cond_true, cond_true, Bool.true_and, Bool.false_or]
   cases decide (atI S b < atI S (i : Int)) <;> rfl
theorem best_impl {p : TPlacement} {u : List TPair} {S D : List Int} {hot : List Str} {fr : Int} (hl : p.Parts.length ≤ 16) (hS : S.length = p.Parts.length) (f : Int) (J : Int → Option (TMarker × Bool)) :
  F_rebalance_advice_moved_L1 ⟨p, u, S, D, hot, fr⟩ f J ((((p.Parts.length : Nat) : Int)).toNat + 1) (-1) 0 = J (bsP p S f p.Parts.length) := by
 have key := loopSeq (len := p.Parts.length) (by omega) (L := F_rebalance_advice_moved_L1 ⟨p, u, S, D, hot, fr⟩ f J) (J := J) (S := fun i => bsP p S f i) (fun n i hi => ?_) (fun n => ?_) ((((p.Parts.length : Nat) : Int)).toNat + 1) 0 (by omega) (by omega)
 ·exact key
 ·have hb := bsP_bound p S f i
  rw [F_rebalance_advice_moved_L1]
  show cond (decide ((i : Int) < ((p.Parts.length : Nat) : Int))) (req (0 ≤ (i : Int) ∧ (i : Int) < (p.Parts.length : Int)) _) _ = _
  rw [decide_eq_true (by omega), cond_true, req_pos (by omega)]
  refine (bs_step hS hi hb (fun x => F_rebalance_advice_moved_L1 ⟨p, u, S, D, hot, fr⟩ f J n x (IntKind.i64.wrap ((i : Int) + 1)))).trans ?_
  show F_rebalance_advice_moved_L1 _ f J n (bsS p S f (bsP p S f i) i) _ = F_rebalance_advice_moved_L1 _ f J n (bsP p S f (i + 1)) _
  unfold bsP
  rw [List.range_succ, List.foldl_append]; rfl
 ·rw [F_rebalance_advice_moved_L1]
  show cond (decide (((p.Parts.length : Nat) : Int) < ((p.Parts.length : Nat) : Int))) _ _ = _
  rw [decide_eq_false (by omega), cond_false]
def fuP (l : List TShard) : Int := (l.map fun s => s.Node).foldl (fuF l) ((l.map fun s => s.Node).headD 0)
def emP (l : List TShard) (nodes : Int) : Int := emF l (nodes.toNat - 1) 2 1
def movedP (p : TPlacement) (l : List TShard) (S : List Int) (nodes : Int) : TMarker × Bool :=
 let b := bsP p S (fuP l) p.Parts.length
 cond ((decide (b < 0) || decide (atI S b ≤ 0)) || decide (IntKind.i64.wrap (prP l (fuP l) - prP l (emP l nodes)) ≤ atI S b)) (mk0, false) (⟨3, (atI p.Parts b).Id, 0, emP l nodes, 0, []⟩, true)
structure DV (p : TPlacement) (l : List TShard) : Prop where
 d : dvB p l = true
 v : pvB p = true
 n : l.map (·.Node) = nodesRefP p
 asc : l.Pairwise fun s t => s.Node < t.Node
 b : ∀ x ∈ l.map (fun s => s.Node), 1 ≤ x ∧ x ≤ 16
 ne : 0 < l.length
theorem dv_all {p : TPlacement} {l : List TShard} (hd : dvB p l = true) : DV p l := by
 obtain ⟨hv, hn, hs⟩ := dv_iff.1 hd
 have hP := pv_iff.1 hv
 have hasc : ascI (l.map (·.Node)) := by rw [hn]; exact nodesRef_asc p
 refine ⟨hd, hv, hn, List.pairwise_map.1 hasc, fun x hx => ?_, ?_⟩
 ·have hx : x ∈ nodesRefP p := hn ▸ hx
  have := (nodes_mem hP x).1 hx
  exact ⟨this.1, this.2.1⟩
 ·have h0 := hP.node 0 (by have := hP.len; omega)
  have hm : (ap p.Parts 0).Node ∈ nodesRefP p := (nodes_mem hP _).2 ⟨h0.1, h0.2, 0, by have := hP.len; omega, .inl rfl⟩
  rw [← hn] at hm
  have := List.length_pos_of_mem hm
  rwa [List.length_map] at this
theorem fuP_bound {p : TPlacement} {l : List TShard} (h : DV p l) : 1 ≤ fuP l ∧ fuP l ≤ 16 := by
 have hfb : ∀ (ms : List Int) (a : Int), (1 ≤ a ∧ a ≤ 16) → (∀ y ∈ ms, 1 ≤ y ∧ y ≤ 16) → 1 ≤ ms.foldl (fuF l) a ∧ ms.foldl (fuF l) a ≤ 16 := by
  intro ms
  induction ms with
  | nil => intro a h _; exact h
  | cons y ms ih =>
   intro a h hm
   rw [List.foldl_cons]
   refine ih _ ?_ fun z hz => hm z (List.mem_cons_of_mem _ hz)
   unfold fuF
   split
   ·exact hm y List.mem_cons_self
   ·exact h
 unfold fuP
 refine hfb _ _ ?_ h.b
 cases hl : l with
 | nil => have := h.ne; rw [hl] at this; simp at this
 | cons s l' => exact h.b _ (by rw [hl]; simp)
theorem end_eq {p : TPlacement} {S : List Int} (hS : S.length = p.Parts.length) {b A : Int} {e : Int} (hb : -1 ≤ b ∧ b < (p.Parts.length : Int)) :
  cond ((decide (b < 0) || decide (atI S b ≤ 0)) || decide (A ≤ atI S b)) (some ((⟨0, 0, 0, 0, 0, []⟩ : TMarker), false)) (req (0 ≤ b ∧ b < (p.Parts.length : Int)) (some ((⟨3, (atI p.Parts b).Id, 0, e, 0, []⟩ : TMarker), true))) =
   some (cond ((decide (b < 0) || decide (atI S b ≤ 0)) || decide (A ≤ atI S b)) (mk0, false) (⟨3, (atI p.Parts b).Id, 0, e, 0, []⟩, true)) := by
 by_cases h : b < 0
 ·rw [decide_eq_true h]; rfl
 ·rw [decide_eq_false h, req_pos (by omega)]
  cases ((false || decide (atI S b ≤ 0)) || decide (A ≤ atI S b)) <;> rfl
theorem moved_implA {p : TPlacement} (hp : POk p) {l : List TShard} (hs : SOk l) (h : DV p l) {u : List TPair} {S D : List Int} {hot : List Str} {fr nodes : Int} (hS : S.length = p.Parts.length) (hn : 1 ≤ nodes ∧ nodes ≤ 16) :
  F_rebalance_advice_moved ⟨p, u, S, D, hot, fr⟩ l nodes = some (movedP p l S nodes) := by
 have hl := pvB_len h.v
 have hsn := hs.n
 unfold F_rebalance_advice_moved
 rw [jn_mk]
 refine (ar_loop hsn h.asc (fun s hss => h.b _ (List.mem_map.2 ⟨s, hss, rfl⟩)) _).trans ?_
 show bnd (F_placement_Nodes p) _ = _
 rw [nodes_impl hp.l hp.s, bnd_mk, nodes_eq, ← h.n, jn_mk]
 have hhd : (l.map fun s => s.Node).head? = some ((l.map fun s => s.Node).headD 0) := by
  cases hl : l with
  | nil => have := h.ne; rw [hl] at this; simp at this
  | cons s l' => rfl
 refine (full_impl (by rw [List.length_map]; exact hsn) h.b hhd _).trans ?_
 have hf := fuP_bound h
 show jn _ _ = _
 rw [jn_mk]
 show F_rebalance_advice_moved_L2 nodes (arP l) _ (nodes.toNat + 2) 1 2 = _
 refine (empty_impl hn _ (nodes.toNat + 2) (nodes.toNat - 1) 2 1 (by omega) (by omega) (by omega) (by omega)).trans ?_
 have he : 1 ≤ emP l nodes ∧ emP l nodes ≤ 16 := emF_bound _ _ _ (by omega) (by omega) (by omega)
 show jn _ _ = _
 rw [jn_mk]
 refine (best_impl hl.2 hS (fuP l) _).trans ?_
 have hb := bsP_bound p S (fuP l) p.Parts.length
 unfold movedP
 show req _ _ = some (cond ((decide (bsP p S (fuP l) p.Parts.length < 0) || decide (atI S (bsP p S (fuP l) p.Parts.length) ≤ 0)) || decide (IntKind.i64.wrap (prP l (fuP l) - prP l (emP l nodes)) ≤ atI S (bsP p S (fuP l) p.Parts.length))) (mk0, false) (⟨3, (atI p.Parts (bsP p S (fuP l) p.Parts.length)).Id, 0, emP l nodes, 0, []⟩, true))
 have hfu : (List.map (fun s => s.Node) l).foldl (fuF l) ((List.map (fun s => s.Node) l).headD 0) = fuP l := rfl
 have hem : emF l (nodes.toNat - 1) 2 1 = emP l nodes := rfl
 rw [← end_eq hS hb]
 generalize bsP p S (fuP l) p.Parts.length = b at hb
 have hb1 : decide (b < 0) = false → 0 ≤ b ∧ b < (S.length : Int) := fun h => by have := of_decide_eq_false h; omega
 rw [req_pos (fun h => hb1 (by simpa using h))]
 by_cases hb0 : b < 0
 ·rw [decide_eq_true hb0, req_pos (fun h => by simp at h), req_pos (fun h => by simp at h), req_pos (fun h => by simp at h)]
  rfl
 ·rw [decide_eq_false hb0, req_pos (fun _ => by show 0 ≤ b ∧ b < (S.length : Int); omega), req_pos (fun _ => by rw [arP_len]; show 0 ≤ fuP l ∧ fuP l < _; omega), req_pos (fun _ => by rw [arP_len]; show 0 ≤ emP l nodes ∧ emP l nodes < _; omega), show (false == false) = true from rfl, cond_true, Bool.false_or]
  show cond (decide (atI S b ≤ 0) || decide (IntKind.i64.wrap ((cond (decide (atI S b ≤ 0) == false) (atI (arP l) (fuP l)) default) - (cond (decide (atI S b ≤ 0) == false) (atI (arP l) (emP l nodes)) default)) ≤ (cond (decide (atI S b ≤ 0) == false) (atI S b) default))) _ _ = _
  rw [arP_at (by omega) (by omega), arP_at (by omega) (by omega)]
  cases decide (atI S b ≤ 0) <;> rfl
end Go.Proofs.YtglnnhmmipopiaaGreat
