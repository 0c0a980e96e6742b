/-
 SIZES AND LOADS, CLOSED; THE LAW RebalanceCounts IN PLAIN LEAN.
-/
import Derived.Test.YtglnnhmmipopiaaGreatOw
set_option linter.all false
namespace Go.Proofs.YtglnnhmmipopiaaGreat
def cntB (p : TPlacement) (xs : List TPair) (b : Nat) : Nat := xs.countP fun x => decide (indexP p x.Key = (b : Int))
def szL (p : TPlacement) (xs : List TPair) : List Int := (List.range p.Parts.length).map fun b => ((cntB p xs b : Nat) : Int)
def allP (l : List TShard) : List TPair := l.flatMap fun s => s.Pairs
def sizesP (p : TPlacement) (l : List TShard) : List Int := cond (dvB p l) (szL p (allP l)) []
theorem cntB_le (p : TPlacement) (xs : List TPair) (b : Nat) : cntB p xs b ≤ xs.length := List.countP_le_length
theorem szL_len (p : TPlacement) (xs : List TPair) : (szL p xs).length = p.Parts.length := by simp [szL]
theorem ix_lt {p : TPlacement} (hv : pvB p = true) (key : Str) : ∃ t : Nat, indexP p key = (t : Int) ∧ t < p.Parts.length := by
 obtain ⟨t, h1, h2⟩ := index_in (pv_iff.1 hv) key
 exact ⟨t, h1, h2.lt⟩
theorem sz_step {p : TPlacement} {xs : List TPair} {x : TPair} {t : Nat} (ht : indexP p x.Key = (t : Int)) : (szL p xs).set t ((cntB p xs t + 1 : Nat) : Int) = szL p (xs ++ [x]) := by
 unfold szL
 rw [map_set]
 refine List.map_congr_left fun b _ => ?_
 unfold cntB
 rw [List.countP_append, List.countP_singleton, ht]
 by_cases e : b = t
 ·subst e; simp
 ·have h2 : ¬ (t : Int) = (b : Int) := by omega
  rw [if_neg e]; simp [h2]
theorem sz_at {p : TPlacement} {xs : List TPair} {t : Nat} (h : t < p.Parts.length) : atI (szL p xs) (t : Int) = ((cntB p xs t : Nat) : Int) := by
 unfold szL
 rw [atI_map _ (by omega) (by omega), Int.toNat_natCast]
theorem allP_take (l : List TShard) {i : Nat} (h : i < l.length) : allP (l.take (i + 1)) = allP (l.take i) ++ l[i].Pairs := by
 unfold allP; rw [List.take_succ_eq_append_getElem h, List.flatMap_append]; simp
theorem allP_take_le (l : List TShard) (i : Nat) : (allP (l.take i)).length ≤ (allP l).length := by
 have h : allP l = allP (l.take i) ++ allP (l.drop i) := by
  unfold allP; rw [← List.flatMap_append, List.take_append_drop]
 rw [h, List.length_append]; omega
theorem sz2_impl {p : TPlacement} (hp : POk p) (hv : pvB p = true) {l : List TShard} {i : Nat} (hi : i < l.length) {pre : List TPair} (hb : pre.length + l[i].Pairs.length < 1000000) (J : List Int → Option (List Int)) :
  F_rebalance_Sizes_L2 l (i : Int) p J ((((l[i].Pairs.length : Nat) : Int)).toNat + 1) (szL p pre) 0 = J (szL p (pre ++ l[i].Pairs)) := by
 have key := loopSeq (len := l[i].Pairs.length) (by omega) (L := F_rebalance_Sizes_L2 l (i : Int) p J) (J := J) (S := fun k => szL p (pre ++ l[i].Pairs.take k)) (fun n k hk => ?_) (fun n => ?_) ((((l[i].Pairs.length : Nat) : Int)).toNat + 1) 0 (by omega) (by omega)
 ·rw [List.take_length, List.take_zero, List.append_nil] at key
  exact key
 ·obtain ⟨t, ht, hlt⟩ := ix_lt hv l[i].Pairs[k].Key
  have hc := cntB_le p (pre ++ l[i].Pairs.take k) t
  rw [List.length_append, List.length_take] at hc
  rw [F_rebalance_Sizes_L2, atI_nat hi, decide_eq_true (by omega), cond_true, req_pos (by omega), atI_nat hk, index_impl hp.l hp.s (pv_from hv), bnd_mk, ht, req_pos (by rw [szL_len]; omega), req_pos (by rw [szL_len]; omega), sz_at hlt, wrap_succ (by omega), Int.toNat_natCast, sz_step ht, List.append_assoc, List.take_succ_eq_append_getElem hk]
 ·rw [F_rebalance_Sizes_L2, atI_nat hi, decide_eq_false (by omega), cond_false]
theorem szL_nil (p : TPlacement) : szL p [] = List.replicate p.Parts.length 0 := by
 apply List.ext_getElem (by simp [szL])
 intro i h1 h2
 simp [szL, cntB]
theorem sizes_impl {p : TPlacement} (hp : POk p) {l : List TShard} (hs : SOk l) (hn : (allP l).length ≤ 1000) : F_rebalance_Sizes p l = some (sizesP p l) := by
 unfold F_rebalance_Sizes sizesP
 rw [dvalid_impl hp hs, bnd_mk]
 cases hd : dvB p l with
 | false => rfl
 | true =>
  have hv : pvB p = true := (dv_iff.1 hd).1
  have hl := pvB_len hv
  have hsn := hs.n
  rw [show (!true) = false from rfl, cond_false, cond_true, req_pos (by omega), req_pos (by omega), jn_mk, Int.toNat_natCast]
  have key := loopSeq (len := l.length) (by omega) (L := F_rebalance_Sizes_L1 l p fun x10 => some x10) (J := fun x10 => some x10) (S := fun i => szL p (allP (l.take i))) (fun n i hi => ?_) (fun n => ?_) ((((l.length : Nat) : Int)).toNat + 1) 0 (by omega) (by omega)
  ·rw [List.take_length, show allP (l.take 0) = [] from rfl, szL_nil] at key
   exact key
  ·have h1 := allP_take_le l (i + 1)
   rw [allP_take l hi, List.length_append] at h1
   rw [F_rebalance_Sizes_L1, decide_eq_true (by omega), cond_true, req_pos (by omega), jn_mk, atI_nat hi, sz2_impl hp hv hi (by omega), allP_take l hi]
  ·rw [F_rebalance_Sizes_L1, decide_eq_false (by omega), cond_false]
structure HOk (h : List THeat) : Prop where
 n : h.length ≤ 1000
 k : ∀ x ∈ h, x.Key.length < big
def hBad (h : List THeat) (i : Nat) : Bool := ((!kvB (atI h (i : Int)).Key || decide ((atI h (i : Int)).Count < 1)) || decide (1099511627776 < (atI h (i : Int)).Count)) || (decide (0 < i) && !sLt (atI h ((i : Int) - 1)).Key (atI h (i : Int)).Key)
def hvB (h : List THeat) : Bool := decide (h.length ≤ 32) && !((List.range h.length).any (hBad h))
theorem natZ (i : Nat) : decide ((0 : Int) < (i : Int)) = decide (0 < i) := by
 rw [Bool.eq_iff_iff]; simp
theorem hv_end (h : List THeat) : cond ((List.range h.length).any (hBad h)) (some false) (some (decide (((h.length : Nat) : Int) ≤ 32))) = some (hvB h) := by
 unfold hvB
 have : decide (((h.length : Nat) : Int) ≤ 32) = decide (h.length ≤ 32) := by rw [Bool.eq_iff_iff]; simp; omega
 rw [this]
 cases (List.range h.length).any (hBad h) <;> simp
theorem hvalid_impl {h : List THeat} (hh : HOk h) : F_heat_Valid h = some (hvB h) := by
 have hn := hh.n
 unfold F_heat_Valid
 rw [jn_mk]
 refine (loopRng (len := h.length) (by omega) (L := F_heat_Valid_L1 h (some (decide (((h.length : Nat) : Int) ≤ 32)))) (J := some (decide (((h.length : Nat) : Int) ≤ 32))) (E := some false) (q := hBad h) (n := (((h.length : Nat) : Int)).toNat + 1) (by omega) (fun n i hi => ?_) (fun n => ?_)).trans (hv_end h)
 ·have hk : (atI h (i : Int)).Key.length < big := by rw [atI_nat hi]; exact hh.k _ (List.getElem_mem hi)
  rw [F_heat_Valid_L1, decide_eq_true (by omega), cond_true, req_pos (by omega), keys_impl hk, bnd_mk, natZ]
  unfold hBad
  cases hb : ((!kvB (atI h (i : Int)).Key || decide ((atI h (i : Int)).Count < 1)) || decide (1099511627776 < (atI h (i : Int)).Count)) with
  | true => rw [req_pos (fun h => by simp at h)]; rfl
  | false =>
   by_cases h0 : 0 < i
   ·rw [w64 (n := (i : Int) - 1) (by omega) (by omega), req_pos (fun _ => by omega), decide_eq_true h0]; rfl
   ·rw [decide_eq_false h0, req_pos (fun h => by simp at h)]; rfl
 ·rw [F_heat_Valid_L1, decide_eq_false (by omega), cond_false]
theorem hv_cnt {h : List THeat} (hv : hvB h = true) : h.length ≤ 32 ∧ ∀ x ∈ h, 1 ≤ x.Count ∧ x.Count ≤ 1099511627776 := by
 unfold hvB at hv
 simp only [Bool.and_eq_true, decide_eq_true_eq, Bool.not_eq_true'] at hv
 refine ⟨hv.1, fun x hx => ?_⟩
 obtain ⟨i, hi, rfl⟩ := List.mem_iff_getElem.1 hx
 have := List.any_eq_false.1 hv.2 i (List.mem_range.2 hi)
 unfold hBad at this
 rw [atI_nat hi] at this
 simp only [Bool.not_eq_true, Bool.or_eq_false_iff, decide_eq_false_iff_not] at this
 omega
def ldF (p : TPlacement) (b : Nat) (a : Int) (x : THeat) : Int := if indexP p x.Key = (b : Int) then a + x.Count else a
def ldL (p : TPlacement) (h : List THeat) : List Int := (List.range p.Parts.length).map fun b => h.foldl (ldF p b) 0
def loadsP (p : TPlacement) (h : List THeat) : List Int := cond (pvB p && hvB h) (ldL p h) []
theorem ldL_len (p : TPlacement) (h : List THeat) : (ldL p h).length = p.Parts.length := by simp [ldL]
theorem ld_bound {p : TPlacement} {b : Nat} : ∀ {h : List THeat} {a : Int}, (∀ x ∈ h, 1 ≤ x.Count ∧ x.Count ≤ 1099511627776) → a ≤ h.foldl (ldF p b) a ∧ h.foldl (ldF p b) a ≤ a + 1099511627776 * h.length
 | [], a, _ => by simp
 | x :: h, a, hc => by
  have hx := hc x List.mem_cons_self
  have h1 := ld_bound (p := p) (b := b) (h := h) (a := ldF p b a x) fun y hy => hc y (List.mem_cons_of_mem _ hy)
  rw [List.foldl_cons, List.length_cons]
  have h2 : a ≤ ldF p b a x ∧ ldF p b a x ≤ a + 1099511627776 := by
   unfold ldF; split <;> omega
  omega
theorem ld_step {p : TPlacement} {h : List THeat} {x : THeat} {t : Nat} (ht : indexP p x.Key = (t : Int)) : (ldL p h).set t (h.foldl (ldF p t) 0 + x.Count) = ldL p (h ++ [x]) := by
 unfold ldL
 rw [map_set]
 refine List.map_congr_left fun b _ => ?_
 rw [List.foldl_append]
 show _ = ldF p b (h.foldl (ldF p b) 0) x
 unfold ldF
 rw [ht]
 by_cases e : b = t
 ·subst e; simp
 ·rw [if_neg e, if_neg (by omega)]
theorem ld_at {p : TPlacement} {h : List THeat} {t : Nat} (hl : t < p.Parts.length) : atI (ldL p h) (t : Int) = h.foldl (ldF p t) 0 := by
 unfold ldL
 rw [atI_map _ (by omega) (by omega), Int.toNat_natCast]
theorem ldL_nil (p : TPlacement) : ldL p [] = List.replicate p.Parts.length 0 := by
 apply List.ext_getElem (by simp [ldL])
 intro i h1 h2
 simp [ldL]
theorem loads_impl {p : TPlacement} (hp : POk p) {h : List THeat} (hh : HOk h) : F_rebalance_Loads p h = some (loadsP p h) := by
 unfold F_rebalance_Loads loadsP
 rw [valid29_impl hp.l hp.s, bnd_mk]
 cases hv : pvB p with
 | false => simp [gcall, bnd]
 | true =>
  rw [show ((!true) == false) = true from rfl, gcall_t, hvalid_impl hh, bnd_mk]
  cases hhv : hvB h with
  | false => rfl
  | true =>
   have hl := pvB_len hv
   obtain ⟨hn, hc⟩ := hv_cnt hhv
   rw [show ((!true) || (!true)) = false from rfl, cond_false, show (true && true) = true from rfl, cond_true, req_pos (by omega), req_pos (by omega), jn_mk, Int.toNat_natCast]
   have key := loopSeq (len := h.length) (by omega) (L := F_rebalance_Loads_L1 h p fun x11 => some x11) (J := fun x11 => some x11) (S := fun i => ldL p (h.take i)) (fun n i hi => ?_) (fun n => ?_) ((((h.length : Nat) : Int)).toNat + 1) 0 (by omega) (by omega)
   ·rw [List.take_length, List.take_zero, ldL_nil] at key
    exact key
   ·obtain ⟨t, ht, hlt⟩ := ix_lt hv h[i].Key
    have hb := ld_bound (p := p) (b := t) (h := h.take i) (a := 0) fun x hx => hc x (List.mem_of_mem_take hx)
    rw [List.length_take] at hb
    have hx := hc _ (List.getElem_mem hi)
    rw [F_rebalance_Loads_L1, decide_eq_true (by omega), cond_true, req_pos (by omega), atI_nat hi, index_impl hp.l hp.s (pv_from hv), bnd_mk, ht, req_pos (by rw [ldL_len]; omega), req_pos (by rw [ldL_len]; omega), ld_at hlt, w64 (n := (h.take i).foldl (ldF p t) 0 + h[i].Count) (by omega) (by omega), Int.toNat_natCast, ld_step ht, List.take_succ_eq_append_getElem hi]
   ·rw [F_rebalance_Loads_L1, decide_eq_false (by omega), cond_false]
theorem few_sok {p : TPlacement} {l : List TShard} {h : List THeat} (f : FewP p l h) (hs : ∀ s ∈ l, PrOk s.Pairs) : SOk l ∧ (allP l).length ≤ 60 := by
 have hn := f.qn
 refine ⟨⟨by have := f.ql; omega, fun s hss => ⟨hs s hss, ?_⟩⟩, hn⟩
 have : s.Pairs.length ≤ (l.flatMap fun s => s.Pairs).length := by
  obtain ⟨i, hi, rfl⟩ := List.mem_iff_getElem.1 hss
  have h1 := allP_take_le l (i + 1)
  rw [allP_take l hi, List.length_append] at h1
  unfold allP at h1
  omega
 omega
theorem few_hok {p : TPlacement} {l : List TShard} {h : List THeat} (f : FewP p l h) : HOk h := ⟨by have := f.qh; omega, fun x hx => by
 have := f.qhk x hx
 have e : big = 9223372036854775808 := rfl
 omega⟩
end Go.Proofs.YtglnnhmmipopiaaGreat
