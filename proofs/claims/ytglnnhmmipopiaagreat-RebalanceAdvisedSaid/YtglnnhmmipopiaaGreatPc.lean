/-
 ADVISE, CLOSED (part 2): what is continued, split by size, split by load, merged.
-/
import Derived.Test.YtglnnhmmipopiaaGreatPb
set_option linter.all false
namespace Go.Proofs.YtglnnhmmipopiaaGreat
theorem quo2 {x : Nat} (h : x < 4611686018427387904) : quoI .i64 (x : Int) 2 = ((x / 2 : Nat) : Int) := by
 unfold quoI
 rw [Int.tdiv_eq_ediv_of_nonneg (by omega), w64 (by omega) (by omega)]; omega
theorem allP_nodup {p : TPlacement} {l : List TShard} (hd : dvB p l = true) : (allP l).Nodup := by
 obtain ⟨hv, hn, hs⟩ := dv_iff.1 hd
 have hasc : ascI (l.map (·.Node)) := by rw [hn]; exact nodesRef_asc p
 unfold allP List.Nodup
 rw [List.pairwise_flatMap]
 refine ⟨fun s hss => (sta_iff.1 (hs s hss).1).2.imp fun {a b} h e => (by rw [e, sLt_irrefl] at h; cases h), ?_⟩
 have hpw : l.Pairwise fun s t => s.Node < t.Node := List.pairwise_map.1 hasc
 refine (List.Pairwise.and_mem.1 hpw).imp fun {s t} h x hx y hy e => ?_
 have h1 := (hs s h.1).2 x hx
 have h2 := (hs t h.2.1).2 y hy
 rw [e, h2] at h1
 have := h.2.2
 omega
theorem state_perm {p : TPlacement} {l : List TShard} (hd : dvB p l = true) : ∃ u, gthP l = (u, 0) ∧ staB u = true ∧ u.Perm (allP l) := by
 obtain ⟨u, h1, h2, h3⟩ := gth_spec hd
 refine ⟨u, h1, h2, (List.perm_ext_iff_of_nodup ((sta_iff.1 h2).2.imp fun {a b} h e => (by rw [e, sLt_irrefl] at h; cases h)) (allP_nodup hd)).2 fun x => ?_⟩
 rw [h3]
 unfold allP
 rw [List.mem_flatMap]
def resP : Option TMarker → TMarker × Bool
 | some m => (m, true)
 | none => (mk0, false)

/-! ### Continued -/
def qC (p : TPlacement) (i : Nat) : Option TMarker := if (ap p.Parts i).Dest = 0 then none else some ⟨4, (ap p.Parts i).Id, 0, 0, 16, []⟩
theorem cont_impl {a : Tadvice} (hl : a.p.Parts.length ≤ 1000) : F_rebalance_advice_continued a = some (resP (scanF (qC a.p) a.p.Parts.length 0)) := by
 unfold F_rebalance_advice_continued
 rw [jn_mk]
 have key := scan_loop (N := a.p.Parts.length) (by omega) (q := qC a.p) (L := F_rebalance_advice_continued_L1 a fun x7 => some ((⟨0, 0, 0, 0, 0, []⟩ : TMarker), false)) (J := fun x7 => some ((⟨0, 0, 0, 0, 0, []⟩ : TMarker), false)) (d := default) (fun n i hi => ?_) (fun n => ?_) ((((a.p.Parts.length : Nat) : Int)).toNat + 1) 0 (by omega) (by omega)
 ·refine key.trans ?_
  rw [Nat.sub_zero]
  cases scanF (qC a.p) a.p.Parts.length 0 <;> rfl
 ·rw [F_rebalance_advice_continued_L1, decide_eq_true (by omega), cond_true, req_pos (by omega)]
  show cond ((ap a.p.Parts i).Dest != 0) _ _ = _
  unfold qC
  by_cases e : (ap a.p.Parts i).Dest = 0
  ·rw [if_pos e, show ((ap a.p.Parts i).Dest != 0) = false by simp [e], cond_false]
  ·rw [if_neg e, show ((ap a.p.Parts i).Dest != 0) = true by simp [e], cond_true]; rfl
 ·rw [F_rebalance_advice_continued_L1, decide_eq_false (by omega), cond_false]
def qS (p : TPlacement) (u : List TPair) (i : Nat) : Option TMarker := if 32 < cntB p u i then some ⟨1, (ap p.Parts i).Id, frP p, 0, 0, ap (keysOf p u i) (cntB p u i / 2)⟩ else none
def sizeP (p : TPlacement) (u : List TPair) : TMarker × Bool := cond (decide (16 ≤ p.Parts.length)) (mk0, false) (resP (scanF (qS p u) p.Parts.length 0))
theorem dec16 (n : Nat) : decide ((16 : Int) ≤ (n : Int)) = decide (16 ≤ n) := by
 rw [Bool.eq_iff_iff]; simp; omega
theorem size_impl {p : TPlacement} (hp : POk p) (hv : pvB p = true) {u xs : List TPair} (hpm : u.Perm xs) (hu : u.length ≤ 1000) (ld : List Int) (hot : List Str) :
  F_rebalance_advice_splitSize ⟨p, u, szL p xs, ld, hot, frP p⟩ = some (sizeP p u) := by
 have hl := pvB_len hv
 have hcnt : ∀ b, cntB p xs b = cntB p u b := fun b => (hpm.countP_eq _).symm
 unfold F_rebalance_advice_splitSize sizeP
 show cond (decide ((16 : Int) ≤ ((p.Parts.length : Nat) : Int))) _ _ = _
 rw [dec16]
 cases decide (16 ≤ p.Parts.length) with
 | true => rfl
 | false =>
  rw [cond_false, cond_false, jn_mk]
  have key := scan_loop (N := p.Parts.length) (by omega) (q := qS p u) (L := F_rebalance_advice_splitSize_L1 ⟨p, u, szL p xs, ld, hot, frP p⟩ fun x7 => some ((⟨0, 0, 0, 0, 0, []⟩ : TMarker), false)) (J := fun x7 => some ((⟨0, 0, 0, 0, 0, []⟩ : TMarker), false)) (d := default) (fun n i hi => ?_) (fun n => ?_) ((((p.Parts.length : Nat) : Int)).toNat + 1) 0 (by omega) (by omega)
  ·show F_rebalance_advice_splitSize_L1 _ _ (((((szL p xs).length : Nat) : Int)).toNat + 1) _ 0 = _
   rw [szL_len]
   refine key.trans ?_
   rw [Nat.sub_zero]
   cases scanF (qS p u) p.Parts.length 0 <;> rfl
  ·rw [F_rebalance_advice_splitSize_L1]
   show cond (decide ((i : Int) < (((szL p xs).length : Nat) : Int))) (req (0 ≤ (i : Int) ∧ (i : Int) < ((szL p xs).length : Int)) (cond (decide ((32 : Int) < atI (szL p xs) (i : Int))) _ _)) _ = _
   rw [szL_len, decide_eq_true (by omega), cond_true, req_pos (by omega), sz_at hi, hcnt]
   unfold qS
   by_cases e : 32 < cntB p u i
   ·have hc := cntB_le p u i
    rw [if_pos e, decide_eq_true (by omega), cond_true, req_pos (by show 0 ≤ (i : Int) ∧ (i : Int) < ((p.Parts.length : Nat) : Int); omega), req_pos (by decide), quo2 (by omega)]
    unfold F_rebalance_advice_key
    rw [jn_mk]
    have hk := key_impl (a := ⟨p, u, szL p xs, ld, hot, frP p⟩) hp hv hu i (some []) ((((u.length : Nat) : Int)).toNat + 1) 0 (cntB p u i / 2) (Nat.zero_le _) (by show u.length - 0 < _; omega) (by show _ < (keysOf p (u.drop 0) i).length; rw [List.drop_zero, keysOf_len]; omega)
    rw [show F_rebalance_advice_key_L1 ⟨p, u, szL p xs, ld, hot, frP p⟩ (i : Int) (some []) ((((u.length : Nat) : Int)).toNat + 1) ((cntB p u i / 2 : Nat) : Int) 0 = _ from hk, bnd_mk]
    rfl
   ·rw [if_neg e, decide_eq_false (by omega), cond_false]
  ·rw [F_rebalance_advice_splitSize_L1]
   show cond (decide (((p.Parts.length : Nat) : Int) < (((szL p xs).length : Nat) : Int))) _ _ = _
   rw [szL_len, decide_eq_false (by omega), cond_false]
def hitL (p : TPlacement) (i : Nat) (k : Str) : Bool := decide (indexP p k = (i : Int)) && sLt (ap p.Parts i).From k
def qL (p : TPlacement) (h : List THeat) (i : Nat) : Option TMarker := if 64 < h.foldl (ldF p i) 0 then ((hotP h).find? (hitL p i)).map fun k => ⟨1, (ap p.Parts i).Id, frP p, 0, 0, k⟩ else none
theorem find_loop2 {ks : List Str} (hk : ks.length ≤ 1000) {g : Str → Bool} {mk : Str → TMarker} {L : Nat → TMarker → Int → Option (TMarker × Bool)} {J : TMarker → Option (TMarker × Bool)} {d : TMarker}
  (h1 : ∀ n (i : Nat) (hi : i < ks.length), L (n + 1) d (i : Int) = cond (g ks[i]) (some (mk ks[i], true)) (L n d (IntKind.i64.wrap ((i : Int) + 1))))
  (h0 : ∀ n, L (n + 1) d (ks.length : Int) = J d) : ∀ n (i : Nat), i ≤ ks.length → ks.length - i < n → L n d (i : Int) = match ((ks.drop i).find? g).map mk with | some m => some (m, true) | none => J d
 | 0, i, _, h => by omega
 | n + 1, i, hi, hn => by
  rcases Nat.lt_or_ge i ks.length with h | h
  ·rw [h1 n i h, List.drop_eq_getElem_cons h, List.find?_cons]
   cases g ks[i] with
   | true => rfl
   | false => rw [cond_false, wrap_succ (by omega)]; exact find_loop2 hk h1 h0 n (i + 1) (by omega) (by omega)
  ·have : i = ks.length := by omega
   subst this
   rw [h0, List.drop_length]; rfl
theorem load_implS {p : TPlacement} (hp : POk p) (hv : pvB p = true) {u : List TPair} (sz : List Int) {h : List THeat} (hh : h.length ≤ 1000) :
  F_rebalance_advice_splitLoad ⟨p, u, sz, ldL p h, hotP h, frP p⟩ = some (cond (decide (16 ≤ p.Parts.length)) (mk0, false) (resP (scanF (qL p h) p.Parts.length 0))) := by
 have hl := pvB_len hv
 have hhl := hot_len hh
 unfold F_rebalance_advice_splitLoad
 show cond (decide ((16 : Int) ≤ ((p.Parts.length : Nat) : Int))) _ _ = _
 rw [dec16]
 cases decide (16 ≤ p.Parts.length) with
 | true => rfl
 | false =>
  rw [cond_false, cond_false, jn_mk]
  have key := scan_loop (N := p.Parts.length) (by omega) (q := qL p h) (L := F_rebalance_advice_splitLoad_L1 ⟨p, u, sz, ldL p h, hotP h, frP p⟩ fun x7 => some ((⟨0, 0, 0, 0, 0, []⟩ : TMarker), false)) (J := fun x7 => some ((⟨0, 0, 0, 0, 0, []⟩ : TMarker), false)) (d := default) (fun n i hi => ?_) (fun n => ?_) ((((p.Parts.length : Nat) : Int)).toNat + 1) 0 (by omega) (by omega)
  ·show F_rebalance_advice_splitLoad_L1 _ _ (((((ldL p h).length : Nat) : Int)).toNat + 1) _ 0 = _
   rw [ldL_len]
   refine key.trans ?_
   rw [Nat.sub_zero]
   cases scanF (qL p h) p.Parts.length 0 <;> rfl
  ·rw [F_rebalance_advice_splitLoad_L1]
   show cond (decide ((i : Int) < (((ldL p h).length : Nat) : Int))) (jn _ fun J25 => req (0 ≤ (i : Int) ∧ (i : Int) < ((ldL p h).length : Int)) (cond (decide (atI (ldL p h) (i : Int) ≤ 64)) (J25 default) (F_rebalance_advice_splitLoad_L2 ⟨p, u, sz, ldL p h, hotP h, frP p⟩ (i : Int) J25 (((((hotP h).length : Nat) : Int)).toNat + 1) default 0))) _ = _
   rw [ldL_len, decide_eq_true (by omega), cond_true, jn_mk, req_pos (by omega), ld_at hi]
   unfold qL
   by_cases e : 64 < h.foldl (ldF p i) 0
   ·rw [if_pos e, decide_eq_false (by omega), cond_false]
    refine (find_loop2 (ks := hotP h) hhl (g := hitL p i) (mk := fun k => ⟨1, (ap p.Parts i).Id, frP p, 0, 0, k⟩) (J := fun x24 => F_rebalance_advice_splitLoad_L1 ⟨p, u, sz, ldL p h, hotP h, frP p⟩ (fun x7 => some ((⟨0, 0, 0, 0, 0, []⟩ : TMarker), false)) n x24 (IntKind.i64.wrap ((i : Int) + 1))) (fun n k hk => ?_) (fun n => ?_) _ 0 (by omega) (by omega)).trans ?_
    ·rw [F_rebalance_advice_splitLoad_L2]
     show cond (decide ((k : Int) < (((hotP h).length : Nat) : Int))) (req (0 ≤ (k : Int) ∧ (k : Int) < ((hotP h).length : Int)) (bnd (F_placement_Index p (atI (hotP h) (k : Int))) _)) _ = _
     rw [decide_eq_true (by omega), cond_true, req_pos (by omega), atI_nat hk, index_impl hp.l hp.s (pv_from hv), bnd_mk, req_pos (fun _ => by show 0 ≤ (i : Int) ∧ (i : Int) < (p.Parts.length : Int); omega)]
     unfold hitL
     by_cases e2 : indexP p (hotP h)[k] = (i : Int)
     ·rw [beq_iff_eq.2 e2, decide_eq_true e2, show (true == true) = true from rfl, cond_true]
      show cond (true && sLt (ap p.Parts i).From (hotP h)[k]) (req (0 ≤ (i : Int) ∧ (i : Int) < (p.Parts.length : Int)) _) _ = _
      rw [req_pos (by omega)]
      rfl
     ·rw [beq_eq_false_iff_ne.2 e2, decide_eq_false e2]; rfl
    ·rw [F_rebalance_advice_splitLoad_L2]
     show cond (decide ((((hotP h).length : Nat) : Int) < (((hotP h).length : Nat) : Int))) _ _ = _
     rw [decide_eq_false (by omega), cond_false]
    ·rw [List.drop_zero]
     cases ((hotP h).find? (hitL p i)) <;> rfl
   ·rw [if_neg e, decide_eq_true (by omega), cond_true]
  ·rw [F_rebalance_advice_splitLoad_L1]
   show cond (decide (((p.Parts.length : Nat) : Int) < (((ldL p h).length : Nat) : Int))) _ _ = _
   rw [ldL_len, decide_eq_false (by omega), cond_false]
end Go.Proofs.YtglnnhmmipopiaaGreat
