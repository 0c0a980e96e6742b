/-
 ADVISE, CLOSED (part 3): what is merged and moved; Advise whole; THE LAW RebalanceAdvises IN PLAIN LEAN.
-/
import Derived.Test.YtglnnhmmipopiaaGreatPc
set_option linter.all false
namespace Go.Proofs.YtglnnhmmipopiaaGreat

/-! ### Merged -/
def merB (p : TPlacement) (S D : List Int) (i : Nat) : Bool :=
 (((atI p.Parts (i : Int)).Node == (atI p.Parts ((i + 1 : Nat) : Int)).Node) && decide (IntKind.i64.wrap (atI S (i : Int) + atI S ((i + 1 : Nat) : Int)) ≤ 8)) && decide (atI D (i : Int) ≤ 16) && decide (atI D ((i + 1 : Nat) : Int) ≤ 16)
def qM (p : TPlacement) (S D : List Int) (i : Nat) : Option TMarker := cond (merB p S D i) (some ⟨2, (atI p.Parts (i : Int)).Id, 0, 0, 0, []⟩) none
theorem mer_step {p : TPlacement} {S D : List Int} (hS : S.length = p.Parts.length) (hD : D.length = p.Parts.length) {i : Nat} (hi : i + 1 < p.Parts.length) (K : Option (TMarker × Bool)) :
  (req (((((atI p.Parts (i : Int)).Node == (atI p.Parts ((i + 1 : Nat) : Int)).Node)) == true) = true → 0 ≤ (i : Int) ∧ (i : Int) < ((S).length : Int)) (req (((((atI p.Parts (i : Int)).Node == (atI p.Parts ((i + 1 : Nat) : Int)).Node)) == true) = true → 0 ≤ ((i + 1 : Nat) : Int) ∧ ((i + 1 : Nat) : Int) < ((S).length : Int)) (bnd (some ((((atI p.Parts (i : Int)).Node == (atI p.Parts ((i + 1 : Nat) : Int)).Node) && (decide ((IntKind.i64.wrap ((cond ((((atI p.Parts (i : Int)).Node == (atI p.Parts ((i + 1 : Nat) : Int)).Node)) == true) (atI S (i : Int)) default) + (cond ((((atI p.Parts (i : Int)).Node == (atI p.Parts ((i + 1 : Nat) : Int)).Node)) == true) (atI S ((i + 1 : Nat) : Int)) default))) ≤ (8 : Int)))))) fun x32 => (req (((x32) == true) = true → 0 ≤ (i : Int) ∧ (i : Int) < ((D).length : Int)) (req ((((x32 && (decide ((cond ((x32) == true) (atI D (i : Int)) default) ≤ (16 : Int))))) == true) = true → 0 ≤ ((i + 1 : Nat) : Int) ∧ ((i + 1 : Nat) : Int) < ((D).length : Int)) (cond ((x32 && (decide ((cond ((x32) == true) (atI D (i : Int)) default) ≤ (16 : Int)))) && (decide ((cond (((x32 && (decide ((cond ((x32) == true) (atI D (i : Int)) default) ≤ (16 : Int))))) == true) (atI D ((i + 1 : Nat) : Int)) default) ≤ (16 : Int)))) (req (0 ≤ (i : Int) ∧ (i : Int) < ((p.Parts).length : Int)) (some ((⟨(2 : Int), (atI p.Parts (i : Int)).Id, 0, 0, 0, []⟩ : TMarker), true))) K)))))) =
  match qM p S D i with | some m => some (m, true) | none => K := by
 rw [req_pos (fun _ => by omega), req_pos (fun _ => by omega), bnd_mk]
 unfold qM merB
 cases h1 : ((atI p.Parts (i : Int)).Node == (atI p.Parts ((i + 1 : Nat) : Int)).Node) with
 | false => rw [req_pos (fun h => by simp at h), req_pos (fun h => by simp at h)]; rfl
 | true =>
  rw [show (true == true) = true from rfl, cond_true, cond_true, Bool.true_and]
  cases h2 : decide (IntKind.i64.wrap (atI S (i : Int) + atI S ((i + 1 : Nat) : Int)) ≤ 8) with
  | false => rw [req_pos (fun h => by simp at h), req_pos (fun h => by simp at h)]; rfl
  | true =>
   rw [req_pos (fun _ => by omega), req_pos (fun _ => by omega), show (true == true) = true from rfl, cond_true, Bool.true_and]
   cases h3 : decide (atI D (i : Int) ≤ 16) with
   | false => rfl
   | true =>
    rw [show (true == true) = true from rfl, cond_true, Bool.true_and]
    cases h4 : decide (atI D ((i + 1 : Nat) : Int) ≤ 16) with
    | false => rfl
    | true => rw [cond_true, req_pos (by omega)]; rfl
theorem mer_impl {a : Tadvice} (hl : 1 ≤ a.p.Parts.length ∧ a.p.Parts.length ≤ 16) (hS : a.sizes.length = a.p.Parts.length) (hD : a.loads.length = a.p.Parts.length) : F_rebalance_advice_merged a = some (resP (scanF (qM a.p a.sizes a.loads) (a.p.Parts.length - 1) 0)) := by
 unfold F_rebalance_advice_merged
 rw [jn_mk, w64 (n := ((a.p.Parts.length : Nat) : Int) - 1) (by omega) (by omega)]
 have key := scan_loop (N := a.p.Parts.length - 1) (by omega) (q := qM a.p a.sizes a.loads) (L := F_rebalance_advice_merged_L1 a fun x7 => some ((⟨0, 0, 0, 0, 0, []⟩ : TMarker), false)) (J := fun x7 => some ((⟨0, 0, 0, 0, 0, []⟩ : TMarker), false)) (d := default) (fun n i hi => ?_) (fun n => ?_) ((((a.p.Parts.length : Nat) : Int) - 1).toNat + 1) 0 (by omega) (by omega)
 ·refine key.trans ?_
  rw [Nat.sub_zero]
  cases scanF (qM a.p a.sizes a.loads) (a.p.Parts.length - 1) 0 <;> rfl
 ·rw [F_rebalance_advice_merged_L1, w64 (n := ((a.p.Parts.length : Nat) : Int) - 1) (by omega) (by omega), decide_eq_true (by omega), cond_true, req_pos (by omega), wrap_succ (by omega), req_pos (by omega)]
  exact mer_step hS hD (by omega) _
 ·rw [F_rebalance_advice_merged_L1, w64 (n := ((a.p.Parts.length : Nat) : Int) - 1) (by omega) (by omega), decide_eq_false (by omega), cond_false]
def prP (l : List TShard) (nd : Int) : Int := match l.find? (fun s => s.Node == nd) with
 | some s => (s.Pairs.length : Int)
 | none => 0
theorem pairs_ref {l : List TShard} (hl : l.length ≤ 100) (nd : Int) : F_clockworkref35_pairs l nd = some (prP l nd) := by
 unfold F_clockworkref35_pairs
 rw [jn_mk]
 have key : ∀ (n i : Nat), i ≤ l.length → l.length - i < n → F_clockworkref35_pairs_L1 l nd (some 0) n (i : Int) = some (prP (l.drop i) nd) := by
  intro n
  induction n with
  | zero => intro i _ h; omega
  | succ n ih =>
   intro i hi hn
   rw [F_clockworkref35_pairs_L1]
   rcases Nat.lt_or_ge i l.length with h | h
   ·rw [decide_eq_true (by omega), cond_true, req_pos (by omega), atI_nat h, List.drop_eq_getElem_cons h, prP, List.find?_cons]
    cases (l[i].Node == nd) with
    | true => rw [cond_true, req_pos (by omega)]
    | false => rw [cond_false, wrap_succ (by omega), ih (i + 1) (by omega) (by omega)]; rfl
   ·rw [decide_eq_false (by omega), cond_false, List.drop_eq_nil_of_le h]; rfl
 exact key _ 0 (by omega) (by omega)
def arP (l : List TShard) : List Int := (List.range 17).map fun (j : Nat) => prP l (j : Int)
theorem arP_len (l : List TShard) : (arP l).length = 17 := by simp [arP]
theorem arP_at {l : List TShard} {nd : Int} (h0 : 0 ≤ nd) (h : nd < 17) : atI (arP l) nd = prP l nd := by
 unfold arP
 rw [atI_map _ h0 (by omega), Int.toNat_of_nonneg h0]
theorem pr_snoc {l : List TShard} {s : TShard} (hn : ∀ t ∈ l, t.Node ≠ s.Node) (nd : Int) : prP (l ++ [s]) nd = if nd = s.Node then (s.Pairs.length : Int) else prP l nd := by
 unfold prP
 rw [List.find?_append]
 by_cases e : nd = s.Node
 ·subst e
  have : (l.find? fun t => t.Node == s.Node) = none := by
   rw [List.find?_eq_none]; intro t ht; simpa using hn t ht
  rw [this]; simp
 ·have : ([s].find? fun t => t.Node == nd) = none := by
   rw [List.find?_eq_none]; intro t ht; rw [List.mem_singleton] at ht; subst ht; simpa using fun h => e h.symm
  rw [this, if_neg e]; simp
theorem ar_loop {l : List TShard} (hl : l.length ≤ 100) (hasc : l.Pairwise fun s t => s.Node < t.Node) (hb : ∀ s ∈ l, 1 ≤ s.Node ∧ s.Node ≤ 16) (J : List Int → Option (TMarker × Bool)) :
  F_rebalance_advice_moved_L4 l J ((((l.length : Nat) : Int)).toNat + 1) (List.replicate 17 0) 0 = J (arP l) := by
 have key := loopSeq (len := l.length) (by omega) (L := F_rebalance_advice_moved_L4 l J) (J := J) (S := fun i => arP (l.take i)) (fun n i hi => ?_) (fun n => ?_) ((((l.length : Nat) : Int)).toNat + 1) 0 (by omega) (by omega)
 ·rw [List.take_length, show arP (l.take 0) = List.replicate 17 0 from rfl] at key
  exact key
 ·have hm := hb _ (List.getElem_mem hi)
  rw [F_rebalance_advice_moved_L4, decide_eq_true (by omega), cond_true, req_pos (by omega), atI_nat hi, req_pos (by rw [arP_len]; omega)]
  have hset : (arP (l.take i)).set l[i].Node.toNat ((l[i].Pairs.length : Nat) : Int) = arP (l.take (i + 1)) := by
   unfold arP
   rw [map_set]
   refine List.map_congr_left fun j _ => ?_
   rw [List.take_succ_eq_append_getElem hi, pr_snoc (fun t ht => by
    obtain ⟨k, hk, rfl⟩ := List.mem_iff_getElem.1 ht
    rw [List.length_take] at hk
    rw [List.getElem_take]
    have := List.pairwise_iff_getElem.1 hasc k i (by omega) hi (by omega)
    omega)]
   by_cases e : j = l[i].Node.toNat
   ·rw [if_pos e, if_pos (by omega)]
   ·rw [if_neg e, if_neg (by omega)]
  rw [hset]
 ·rw [F_rebalance_advice_moved_L4, decide_eq_false (by omega), cond_false]
def fuF (l : List TShard) (a n : Int) : Int := if prP l a < prP l n then n else a
theorem full_impl {l : List TShard} {ns : List Int} (hl : ns.length ≤ 100) (hb : ∀ x ∈ ns, 1 ≤ x ∧ x ≤ 16) {x : Int} (hx : ns.head? = some x) (J : Int → Option (TMarker × Bool)) :
  F_rebalance_advice_moved_L3 ns (arP l) J ((((ns.length : Nat) : Int)).toNat + 1) 0 0 = J (ns.foldl (fuF l) x) := by
 have hfb : ∀ (ms : List Int) (a : Int), (1 ≤ a ∧ a ≤ 16) → (∀ y ∈ ms, 1 ≤ y ∧ y ≤ 16) → 1 ≤ ms.foldl (fuF l) a ∧ ms.foldl (fuF l) a ≤ 16 := by
  intro ms
  induction ms with
  | nil => intro a h _; exact h
  | cons y ms ih =>
   intro a h hm
   rw [List.foldl_cons]
   refine ih _ ?_ fun z hz => hm z (List.mem_cons_of_mem _ hz)
   unfold fuF
   split
   ·exact hm y List.mem_cons_self
   ·exact h
 have hne : 0 < ns.length := by cases ns with
  | nil => cases hx
  | cons y ms => simp
 have hxm : x ∈ ns := List.mem_of_mem_head? hx
 have h0 : ns[0] = x := by cases ns with
  | nil => cases hx
  | cons y ms => simpa using hx
 have key := loopSeq (len := ns.length) (by omega) (L := F_rebalance_advice_moved_L3 ns (arP l) J) (J := J) (S := fun i => if i = 0 then 0 else (ns.take i).foldl (fuF l) x) (fun n i hi => ?_) (fun n => ?_) ((((ns.length : Nat) : Int)).toNat + 1) 0 (by omega) (by omega)
 ·rw [List.take_length, if_pos rfl, if_neg (by omega)] at key
  exact key
 ·have hni := hb _ (List.getElem_mem hi)
  rw [if_neg (by omega : ¬ i + 1 = 0)]
  cases i with
  | zero =>
   rw [if_pos rfl, F_rebalance_advice_moved_L3, decide_eq_true (by omega), cond_true, req_pos (by omega), req_pos (fun h => by cases h), req_pos (fun h => by cases h), jn_mk]
   show F_rebalance_advice_moved_L3 ns (arP l) J n (atI ns ((0 : Nat) : Int)) _ = _
   rw [atI_nat hi, h0, List.take_succ_eq_append_getElem hi, List.take_zero, List.nil_append]
   show _ = F_rebalance_advice_moved_L3 ns (arP l) J n (fuF l x ns[0]) _
   rw [h0]
   unfold fuF
   rw [if_neg (by omega)]
  | succ i =>
   rw [if_neg (by omega : ¬ i + 1 = 0)]
   have hf := hfb (ns.take (i + 1)) x (hb x hxm) fun y hy => hb y (List.mem_of_mem_take hy)
   rw [F_rebalance_advice_moved_L3, decide_eq_true (by omega), cond_true, req_pos (by omega), atI_nat hi, req_pos (fun _ => by rw [arP_len]; omega), req_pos (fun _ => by rw [arP_len]; omega), jn_mk,
    show ((ns.take (i + 1)).foldl (fuF l) x == 0) = false by rw [beq_eq_false_iff_ne]; omega, show (false == false) = true from rfl, cond_true, cond_true, Bool.false_or, arP_at (by omega) (by omega), arP_at (by omega) (by omega), foldl_take_succ _ _ _ _ hi]
   show cond _ _ _ = F_rebalance_advice_moved_L3 ns (arP l) J n (fuF l ((ns.take (i + 1)).foldl (fuF l) x) ns[i + 1]) _
   generalize (ns.take (i + 1)).foldl (fuF l) x = z
   unfold fuF
   by_cases e : prP l z < prP l ns[i + 1]
   ·rw [decide_eq_true e, cond_true, if_pos e]
   ·rw [decide_eq_false e, cond_false, if_neg e]
 ·rw [if_neg (by omega), F_rebalance_advice_moved_L3, decide_eq_false (by omega), cond_false]
def emF (l : List TShard) : Nat → Int → Int → Int
 | 0, _, b => b
 | k + 1, i, b => emF l k (i + 1) (if prP l i < prP l b then i else b)
theorem emF_bound {l : List TShard} : ∀ (k : Nat) (i b : Int), 1 ≤ b ∧ b ≤ 16 → 1 ≤ i → i + k ≤ 17 → 1 ≤ emF l k i b ∧ emF l k i b ≤ 16
 | 0, _, _, h, _, _ => h
 | k + 1, i, b, h, h1, h2 => by
  rw [emF]
  refine emF_bound k (i + 1) _ ?_ (by omega) (by omega)
  split <;> omega
theorem empty_impl {l : List TShard} {nodes : Int} (hn : 1 ≤ nodes ∧ nodes ≤ 16) (J : Int → Option (TMarker × Bool)) : ∀ (n k : Nat) (i b : Int), (k : Int) = nodes + 1 - i → 1 ≤ i → 1 ≤ b ∧ b ≤ 16 → k < n → F_rebalance_advice_moved_L2 nodes (arP l) J n b i = J (emF l k i b)
 | 0, _, _, _, _, _, _, h => by omega
 | n + 1, 0, i, b, hk, _, hb, _ => by
  rw [F_rebalance_advice_moved_L2, decide_eq_false (by omega), cond_false, emF]
 | n + 1, k + 1, i, b, hk, hi, hb, hkn => by
  rw [F_rebalance_advice_moved_L2, decide_eq_true (by omega), cond_true, req_pos (by rw [arP_len]; omega), req_pos (by rw [arP_len]; omega), jn_mk, arP_at (by omega) (by omega), arP_at (by omega) (by omega), w64 (n := i + 1) (by omega) (by omega), emF]
  by_cases e : prP l i < prP l b
  ·rw [decide_eq_true e, cond_true, if_pos e]
   exact empty_impl hn J n k (i + 1) i (by omega) (by omega) (by omega) (by omega)
  ·rw [decide_eq_false e, cond_false, if_neg e]
   exact empty_impl hn J n k (i + 1) b (by omega) (by omega) hb (by omega)
end Go.Proofs.YtglnnhmmipopiaaGreat
