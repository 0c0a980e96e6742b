/-
 ADVISE, CLOSED (part 1): searches, fresh numbers, keys of a partition, hot keys.
-/
import Derived.Test.YtglnnhmmipopiaaGreatPa
set_option linter.all false
namespace Go.Proofs.YtglnnhmmipopiaaGreat
def scanF (q : Nat → Option TMarker) : Nat → Nat → Option TMarker
 | 0, _ => none
 | k + 1, i => match q i with
  | some m => some m
  | none => scanF q k (i + 1)
theorem scan_loop {N : Nat} (hN : N < 4611686018427387904) {q : Nat → Option TMarker} {L : Nat → TMarker → Int → Option (TMarker × Bool)} {J : TMarker → Option (TMarker × Bool)} {d : TMarker}
  (h1 : ∀ n (i : Nat), i < N → L (n + 1) d (i : Int) = match q i with | some m => some (m, true) | none => L n d (IntKind.i64.wrap ((i : Int) + 1)))
  (h0 : ∀ n, L (n + 1) d (N : Int) = J d) : ∀ n (i : Nat), i ≤ N → N - i < n → L n d (i : Int) = match scanF q (N - i) i with | some m => some (m, true) | none => J d
 | 0, i, _, h => by omega
 | n + 1, i, hi, hn => by
  rcases Nat.lt_or_ge i N with h | h
  ·rw [h1 n i h, show N - i = (N - (i + 1)) + 1 by omega, scanF]
   cases q i with
   | some m => rfl
   | none => rw [wrap_succ (by omega)]; exact scan_loop hN h1 h0 n (i + 1) (by omega) (by omega)
  ·have : i = N := by omega
   subst this
   rw [h0, Nat.sub_self]; rfl

/-! ### A fresh number -/
def idsP (p : TPlacement) : List Int := p.Parts.map fun x => x.Id
theorem free_some {ids : List Int} : ∀ (n : Nat) (i : Int), ids.length < n → (∀ x ∈ ids, i ≤ x ∨ True) → (∃ r, freeL ids n i = some r) := by
 have gen : ∀ (n : Nat) (i : Int) (s : List Int), (∀ x, x ∈ ids → x ∈ s ∨ x < i) → s.length < n → ∃ r, freeL ids n i = some r := by
  intro n
  induction n with
  | zero => intro i s _ h; omega
  | succ n ih =>
   intro i s hs hn
   unfold freeL
   by_cases e : i ∈ ids
   ·rw [if_pos e]
    have him : i ∈ s := by
     rcases hs i e with h | h
     ·exact h
     ·omega
    refine ih (i + 1) (s.erase i) (fun x hx => ?_) (by rw [List.length_erase_of_mem him]; have := List.length_pos_of_mem him; omega)
    rcases hs x hx with h | h
    ·by_cases ex : x = i
     ·right; omega
     ·left; exact (List.mem_erase_of_ne ex).2 h
    ·right; omega
   ·rw [if_neg e]; exact ⟨i, rfl⟩
 intro n i hn _
 exact gen n i ids (fun x hx => .inl hx) hn
def frP (p : TPlacement) : Int := (freeL (idsP p) 1000000 1).getD 0
theorem fr_impl {p : TPlacement} (hv : pvB p = true) : F_rebalance_freeId p = some (frP p) := by
 have hl := pvB_len hv
 have hP := pv_iff.1 hv
 obtain ⟨r, hr⟩ := free_some (ids := idsP p) 1000000 1 (by simp [idsP]; omega) (fun _ _ => .inr trivial)
 unfold F_rebalance_freeId frP
 rw [req_pos ⟨by omega, fun x hx => by
  obtain ⟨i, hi, rfl⟩ := List.mem_iff_getElem.1 hx
  have := hP.id i hi
  rw [ap_get hi] at this
  show (-9223372036854775808 : Int) ≤ _ ∧ _ ≤ (9223372036854775807 : Int)
  omega⟩]
 show freeL (idsP p) 1000000 1 = _
 rw [hr]; rfl
def hotP (h : List THeat) : List Str := cond (hvB h) ((h.filter fun x => decide (8 ≤ x.Count)).map fun x => x.Key) []
theorem hot_impl {h : List THeat} (hh : HOk h) : F_heat_Hot h 8 = some (hotP h) := by
 have hn := hh.n
 unfold F_heat_Hot hotP
 rw [hvalid_impl hh, bnd_mk]
 cases hvB h with
 | false => rfl
 | true =>
  rw [show (!true) = false from rfl, cond_false, cond_true]
  unfold F_heat_convert_api_Heat_string
  rw [jn_mk]
  have key := loopSeq (len := h.length) (by omega) (L := F_heat_convert_api_Heat_string_L1 h (fun y0 => F_heat_Hot_1 y0 8) fun x7 => some x7) (J := fun x7 => some x7) (S := fun i => ((h.take i).filter fun x => decide (8 ≤ x.Count)).map fun x => x.Key) (fun n i hi => ?_) (fun n => ?_) ((((h.length : Nat) : Int)).toNat + 1) 0 (by omega) (by omega)
  ·rw [List.take_length] at key
   rw [show F_heat_convert_api_Heat_string_L1 h (fun y0 => F_heat_Hot_1 y0 8) (fun x7 => some x7) ((((h.length : Nat) : Int)).toNat + 1) [] 0 = _ from key, bnd_mk]
  ·have hf : (((h.take i).filter fun x => decide (8 ≤ x.Count)).map fun x => x.Key).length ≤ i := by
    rw [List.length_map]
    have := List.length_filter_le (fun x : THeat => decide (8 ≤ x.Count)) (h.take i)
    rw [List.length_take] at this
    omega
   rw [F_heat_convert_api_Heat_string_L1, decide_eq_true (by omega), cond_true, req_pos (by omega), atI_nat hi, F_heat_Hot_1, bnd_mk, jn_mk, List.take_succ_eq_append_getElem hi, List.filter_append, List.map_append]
   cases e : decide (8 ≤ h[i].Count) with
   | true =>
    rw [cond_true, req_pos (by rw [List.length_append]; simp only [List.length_cons, List.length_nil]; omega)]
    simp only [List.filter_cons, e, if_true, List.filter_nil, List.map_cons, List.map_nil]
   | false =>
    rw [cond_false]
    simp only [List.filter_cons, e, Bool.false_eq_true, if_false, List.filter_nil, List.map_nil, List.append_nil]
  ·rw [F_heat_convert_api_Heat_string_L1, decide_eq_false (by omega), cond_false]
theorem hot_len {h : List THeat} (hn : h.length ≤ 1000) : (hotP h).length ≤ 1000 := by
 unfold hotP
 cases hvB h with
 | false => exact Nat.zero_le _
 | true => rw [cond_true, List.length_map]; exact Nat.le_trans (List.length_filter_le _ _) hn

/-! ### Keys of a partition -/
def keysOf (p : TPlacement) (u : List TPair) (b : Nat) : List Str := (u.filter fun x => decide (indexP p x.Key = (b : Int))).map fun x => x.Key
theorem keysOf_len (p : TPlacement) (u : List TPair) (b : Nat) : (keysOf p u b).length = cntB p u b := by
 unfold keysOf cntB; rw [List.length_map, List.countP_eq_length_filter]
theorem key_impl {a : Tadvice} (hp : POk a.p) (hv : pvB a.p = true) (hu : a.state.length ≤ 1000) (b : Nat) (J : Option Str) : ∀ (n i k : Nat), i ≤ a.state.length → a.state.length - i < n → k < (keysOf a.p (a.state.drop i) b).length →
  F_rebalance_advice_key_L1 a (b : Int) J n (k : Int) (i : Int) = some (ap (keysOf a.p (a.state.drop i) b) k)
 | 0, i, _, _, h, _ => by omega
 | n + 1, i, k, hi, hn, hk => by
  rcases Nat.lt_or_ge i a.state.length with h | h
  ·rw [F_rebalance_advice_key_L1, decide_eq_true (by omega), cond_true, jn_mk, req_pos (by omega), atI_nat h]
   show bnd (F_placement_Index a.p a.state[i].Key) _ = _
   rw [index_impl hp.l hp.s (pv_from hv), bnd_mk]
   have hdr : a.state.drop i = a.state[i] :: a.state.drop (i + 1) := List.drop_eq_getElem_cons h
   by_cases e : indexP a.p a.state[i].Key = (b : Int)
   ·have hks : keysOf a.p (a.state.drop i) b = a.state[i].Key :: keysOf a.p (a.state.drop (i + 1)) b := by
     unfold keysOf; rw [hdr, List.filter_cons_of_pos (by simpa using e), List.map_cons]
    rw [hks] at hk ⊢
    rw [show (indexP a.p a.state[i].Key != (b : Int)) = false by simp [e], cond_false]
    cases k with
    | zero => rfl
    | succ k =>
     rw [show (((k + 1 : Nat) : Int) == 0) = false by rw [beq_eq_false_iff_ne]; omega, cond_false, w64 (n := ((k + 1 : Nat) : Int) - 1) (by have := hk; have hb := cntB_le a.p (a.state.drop (i + 1)) b; rw [← keysOf_len] at hb; rw [List.length_drop] at hb; rw [List.length_cons] at hk; omega) (by have hb := cntB_le a.p (a.state.drop (i + 1)) b; rw [← keysOf_len] at hb; rw [List.length_drop] at hb; rw [List.length_cons] at hk; omega), show ((k + 1 : Nat) : Int) - 1 = (k : Int) by omega, wrap_succ (by omega)]
     rw [List.length_cons] at hk
     exact (key_impl hp hv hu b J n (i + 1) k (by omega) (by omega) (by omega)).trans rfl
   ·have hks : keysOf a.p (a.state.drop i) b = keysOf a.p (a.state.drop (i + 1)) b := by
     unfold keysOf; rw [hdr, List.filter_cons_of_neg (by simpa using e)]
    rw [hks] at hk ⊢
    rw [show (indexP a.p a.state[i].Key != (b : Int)) = true by simp [e], cond_true, wrap_succ (by omega)]
    exact key_impl hp hv hu b J n (i + 1) k (by omega) (by omega) hk
  ·rw [List.drop_eq_nil_of_le h] at hk
   simp [keysOf] at hk
end Go.Proofs.YtglnnhmmipopiaaGreat
