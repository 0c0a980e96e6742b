/-
 WHAT IS ADVISED IS APPLIED; THE LAW RebalanceAdvised IN PLAIN LEAN.
-/
import Derived.Test.YtglnnhmmipopiaaGreatPf
set_option linter.all false
namespace Go.Proofs.YtglnnhmmipopiaaGreat
theorem scan_some {q : Nat → Option TMarker} {m : TMarker} : ∀ (k i : Nat), scanF q k i = some m → ∃ j, i ≤ j ∧ j < i + k ∧ q j = some m
 | 0, i, h => by cases h
 | k + 1, i, h => by
  rw [scanF] at h
  cases hq : q i with
  | some x => rw [hq] at h; exact ⟨i, Nat.le_refl _, by omega, by rw [hq]; exact h⟩
  | none =>
   rw [hq] at h
   obtain ⟨j, h1, h2, h3⟩ := scan_some k (i + 1) h
   exact ⟨j, by omega, by omega, h3⟩
theorem scan_none {q : Nat → Option TMarker} : ∀ (k i : Nat), scanF q k i = none → ∀ j, i ≤ j → j < i + k → q j = none
 | 0, i, _, j, h1, h2 => by omega
 | k + 1, i, h, j, h1, h2 => by
  rw [scanF] at h
  cases hq : q i with
  | some x => rw [hq] at h; cases h
  | none =>
   rw [hq] at h
   by_cases e : j = i
   ·subst e; exact hq
   ·exact scan_none k (i + 1) h j (by omega) (by omega)
theorem or_true {a b : TMarker × Bool} {m : TMarker} (h : orP a b = (m, true)) : a = (m, true) ∨ (a.2 = false ∧ b = (m, true)) := by
 obtain ⟨a1, a2⟩ := a
 cases a2 with
 | true => exact .inl h
 | false => exact .inr ⟨rfl, h⟩
theorem or_false' {a b : TMarker × Bool} (h : (orP a b).2 = false) : a.2 = false ∧ orP a b = b := by
 obtain ⟨a1, a2⟩ := a
 cases a2 with
 | true => cases h
 | false => exact ⟨rfl, rfl⟩
theorem resP_true {o : Option TMarker} {m : TMarker} (h : resP o = (m, true)) : o = some m := by
 cases o with
 | none => cases h
 | some x => cases h; rfl
theorem resP_false {o : Option TMarker} (h : (resP o).2 = false) : o = none := by
 cases o with
 | none => rfl
 | some x => cases h
theorem free_spec {ids : List Int} : ∀ (n : Nat) (i r : Int), freeL ids n i = some r → i ≤ r ∧ r < i + (n : Int) ∧ ¬ r ∈ ids
 | 0, i, r, h => by cases h
 | n + 1, i, r, h => by
  unfold freeL at h
  by_cases e : i ∈ ids
  ·rw [if_pos e] at h
   obtain ⟨h1, h2, h3⟩ := free_spec n (i + 1) r h
   exact ⟨by omega, by omega, h3⟩
  ·rw [if_neg e] at h
   cases h
   exact ⟨by omega, by omega, e⟩
theorem fr_spec {p : TPlacement} (hv : pvB p = true) : (1 ≤ frP p ∧ frP p ≤ 1099511627776) ∧ ∀ i, i < p.Parts.length → (ap p.Parts i).Id ≠ frP p := by
 have hl := pvB_len hv
 obtain ⟨r, hr⟩ := free_some (ids := idsP p) 1000000 1 (by simp [idsP]; omega) (fun _ _ => .inr trivial)
 obtain ⟨h1, h2, h3⟩ := free_spec _ _ _ hr
 have e : frP p = r := by unfold frP; rw [hr]; rfl
 rw [e]
 refine ⟨⟨h1, by omega⟩, fun i hi he => h3 ?_⟩
 unfold idsP
 rw [List.mem_map]
 exact ⟨ap p.Parts i, by rw [ap_get hi]; exact List.getElem_mem hi, he⟩
theorem ok_cont {p : TPlacement} {l : List TShard} (D : DV p l) (hver : p.Version ≠ 1099511627776) {i : Nat} (hi : i < p.Parts.length) (hd : (ap p.Parts i).Dest ≠ 0) : (ckP p l (ap p.Parts i).Id 16).2.2.2 = 0 := by
 have hm : movP p l (ap p.Parts i).Id = ((i : Int), 0) := by
  unfold movP
  rw [D.d, cond_true, findP_of (pv_iff.1 D.v) hi, decide_eq_false (by omega), cond_false, show ((atI p.Parts (i : Int)).Dest == 0) = false from beq_eq_false_iff_ne.2 hd, cond_false, beq_eq_false_iff_ne.2 hver, cond_false]
 unfold ckP
 rw [hm]; rfl
theorem ok_div {p : TPlacement} (hv : pvB p = true) (hver : p.Version ≠ 1099511627776) (hnd : ∀ i, i < p.Parts.length → (ap p.Parts i).Dest = 0) {i : Nat} (hi : i < p.Parts.length) {key : Str} (hb : boundB key = true)
  (hlo : sLt (ap p.Parts i).From key = true) (hx : indexP p key = (i : Int)) (hlen : p.Parts.length < 16) : (splitP p (ap p.Parts i).Id key (frP p)).2 = 0 := by
 have hP := pv_iff.1 hv
 obtain ⟨j, h1, h2⟩ := index_in hP key
 have hj : j = i := by omega
 subst hj
 have hf := fr_spec hv
 rw [splitP_ok (findP_of hP hi) ⟨hP, hi, hnd _ hi, hb, hlo, h2.hi, hf.1, hf.2, hlen, by have := hP.ver; omega⟩]
theorem ok_join {p : TPlacement} (hv : pvB p = true) (hver : p.Version ≠ 1099511627776) (hnd : ∀ i, i < p.Parts.length → (ap p.Parts i).Dest = 0) {i : Nat} (hi : i + 1 < p.Parts.length) (hn : (ap p.Parts i).Node = (ap p.Parts (i + 1)).Node) : (mergeP p (ap p.Parts i).Id).2 = 0 := by
 have hP := pv_iff.1 hv
 rw [mergeP_ok (findP_of hP (by omega)) ⟨hP, hi, hnd _ (by omega), hnd _ hi, hn, by have := hP.ver; omega⟩]
theorem ok_start {p : TPlacement} (hv : pvB p = true) (hver : p.Version ≠ 1099511627776) (hnd : ∀ i, i < p.Parts.length → (ap p.Parts i).Dest = 0) {i : Nat} (hi : i < p.Parts.length) {e : Int} (he : 1 ≤ e ∧ e ≤ 16) (hn : (ap p.Parts i).Node ≠ e) : (stP p (ap p.Parts i).Id e).2 = 0 := by
 have hP := pv_iff.1 hv
 unfold stP
 rw [hv, decide_eq_false (show ¬ e < 1 by omega), decide_eq_false (show ¬ 16 < e by omega), findP_of hP hi, decide_eq_false (show ¬ (i : Int) < 0 by omega), show ((atI p.Parts (i : Int)).Dest != 0) = false by
  have : (atI p.Parts (i : Int)).Dest = 0 := hnd i hi
  rw [this]; rfl, show ((atI p.Parts (i : Int)).Node == e) = false from beq_eq_false_iff_ne.2 hn, beq_eq_false_iff_ne.2 hver]
 rfl
theorem bs_node (p : TPlacement) (S : List Int) (f : Int) : ∀ n, 0 ≤ bsP p S f n → (atI p.Parts (bsP p S f n)).Node = f
 | 0, h => by unfold bsP at h; simp at h
 | n + 1, h => by
  have ih := bs_node p S f n
  unfold bsP at ih h ⊢
  rw [List.range_succ, List.foldl_append] at h ⊢
  generalize (List.range n).foldl (bsS p S f) (-1) = z at ih h ⊢
  have h : 0 ≤ bsS p S f z n := h
  show (atI p.Parts (bsS p S f z n)).Node = f
  unfold bsS at h ⊢
  cases hc : (((atI p.Parts (n : Int)).Node == f) && (decide (z < 0) || decide (atI S z < atI S (n : Int)))) with
  | true => rw [cond_true]; rw [Bool.and_eq_true] at hc; exact eq_of_beq hc.1
  | false => rw [hc, cond_false] at h; rw [cond_false]; exact ih h
theorem hot_key {h : List THeat} (hv : hvB h = true) {k : Str} (hk : k ∈ hotP h) : kvB k = true := by
 unfold hotP at hk
 rw [hv, cond_true, List.mem_map] at hk
 obtain ⟨x, hx, rfl⟩ := hk
 have hx := (List.mem_filter.1 hx).1
 obtain ⟨i, hi, rfl⟩ := List.mem_iff_getElem.1 hx
 unfold hvB at hv
 rw [Bool.and_eq_true, Bool.not_eq_true', List.any_eq_false] at hv
 have hb := hv.2 i (List.mem_range.2 hi)
 unfold hBad at hb
 rw [atI_nat hi] at hb
 cases hkv : kvB h[i].Key with
 | true => rfl
 | false => rw [hkv] at hb; simp at hb
structure Good (p : TPlacement) (l : List TShard) (m : TMarker) : Prop where
 pl : plnB m = true
 s : (stepP p l m).2 = 0
 k : m.Key.length < big
theorem adv_good {p : TPlacement} {l : List TShard} {h : List THeat} {nodes : Int} {m : TMarker} (ha : advP p l h nodes = (m, true)) : dvB p l = true ∧ Good p l m := by
 have kb : ([] : Str).length < big := by decide
 unfold advP at ha
 cases hc : (((((!dvB p l) || (!hvB h)) || (decide (nodes < (1 : Int)))) || (decide ((16 : Int) < nodes))) || (p.Version == (1099511627776 : Int))) with
 | true => rw [hc] at ha; cases ha
 | false =>
  rw [hc, cond_false] at ha
  simp only [Bool.or_eq_false_iff, Bool.not_eq_false', decide_eq_false_iff_not, beq_eq_false_iff_ne] at hc
  obtain ⟨⟨⟨⟨hd, hv⟩, hn1⟩, hn2⟩, hver⟩ := hc
  have D := dv_all hd
  have hP := pv_iff.1 D.v
  have hpl := pvB_len D.v
  refine ⟨hd, ?_⟩
  obtain ⟨u, hu, hst, hpm⟩ := state_perm hd
  rcases or_true ha with ha | ⟨h0, ha⟩
  ·obtain ⟨i, _, hi, hq⟩ := scan_some _ _ (resP_true ha)
   unfold qC at hq
   by_cases e : (ap p.Parts i).Dest = 0
   ·rw [if_pos e] at hq; cases hq
   ·rw [if_neg e] at hq; cases hq
    exact ⟨rfl, ok_cont D hver (by omega) e, kb⟩
  ·have hnd : ∀ i, i < p.Parts.length → (ap p.Parts i).Dest = 0 := fun i hi => by
    have := scan_none _ _ (resP_false h0) i (Nat.zero_le _) (by omega)
    unfold qC at this
    by_cases e : (ap p.Parts i).Dest = 0
    ·exact e
    ·rw [if_neg e] at this; cases this
   rcases or_true ha with ha | ⟨_, ha⟩
   ·unfold sizeP at ha
    by_cases h16 : 16 ≤ p.Parts.length
    ·rw [decide_eq_true h16] at ha; cases ha
    ·rw [decide_eq_false h16, cond_false] at ha
     obtain ⟨i, _, hi, hq⟩ := scan_some _ _ (resP_true ha)
     rw [hu] at hq
     unfold qS at hq
     by_cases h32 : 32 < cntB p u i
     ·rw [if_pos h32] at hq; cases hq
      have hlen := keysOf_len p u i
      have hn : cntB p u i / 2 < (keysOf p u i).length := by omega
      have hmem : ∀ k ∈ keysOf p u i, indexP p k = (i : Int) ∧ kvB k = true := fun k hk => by
       unfold keysOf at hk
       rw [List.mem_map] at hk
       obtain ⟨x, hx, rfl⟩ := hk
       rw [List.mem_filter] at hx
       exact ⟨of_decide_eq_true hx.2, ((sta_iff.1 hst).1 x hx.1).1⟩
      have hasc : (keysOf p u i).Pairwise fun a b => sLt a b = true := by
       unfold keysOf
       rw [List.pairwise_map]
       exact (sta_iff.1 hst).2.filter _
      have hlt := List.pairwise_iff_getElem.1 hasc 0 (cntB p u i / 2) (by omega) hn (by omega)
      have hg := hmem _ (List.getElem_mem hn)
      have hg0 := hmem _ (List.getElem_mem (show 0 < (keysOf p u i).length by omega))
      obtain ⟨j, h1, h2⟩ := index_in hP ((keysOf p u i)[0]'(by omega))
      have hj : j = i := by have := hg0.1; omega
      subst hj
      have hkb := (kv_bound hg.2).1
      refine ⟨rfl, ?_, ?_⟩
      ·show (splitP p (ap p.Parts j).Id (ap (keysOf p u j) (cntB p u j / 2)) (frP p)).2 = 0
       rw [ap_get hn]
       exact ok_div D.v hver hnd (by omega) hkb (le_sLt_trans h2.lo hlt) hg.1 (by omega)
      ·show (ap (keysOf p u j) (cntB p u j / 2)).length < big
       rw [ap_get hn]
       exact bound_len hkb
     ·rw [if_neg h32] at hq; cases hq
   ·rcases or_true ha with ha | ⟨_, ha⟩
    ·unfold loadQ at ha
     by_cases h16 : 16 ≤ p.Parts.length
     ·rw [decide_eq_true h16] at ha; cases ha
     ·rw [decide_eq_false h16, cond_false] at ha
      obtain ⟨i, _, hi, hq⟩ := scan_some _ _ (resP_true ha)
      unfold qL at hq
      by_cases h64 : 64 < h.foldl (ldF p i) 0
      ·rw [if_pos h64] at hq
       cases hf : (hotP h).find? (hitL p i) with
       | none => rw [hf] at hq; cases hq
       | some k =>
        rw [hf] at hq; cases hq
        have h1 := List.mem_of_find?_eq_some hf
        have h2 := List.find?_some hf
        unfold hitL at h2
        rw [Bool.and_eq_true, decide_eq_true_eq] at h2
        have hkb := (kv_bound (hot_key hv h1)).1
        exact ⟨rfl, ok_div D.v hver hnd (by omega) hkb h2.2 h2.1 (by omega), bound_len hkb⟩
      ·rw [if_neg h64] at hq; cases hq
    ·rcases or_true ha with ha | ⟨_, ha⟩
     ·obtain ⟨i, _, hi, hq⟩ := scan_some _ _ (resP_true ha)
      unfold qM at hq
      cases hm : merB p (szL p (allP l)) (ldL p h) i with
      | false => rw [hm] at hq; cases hq
      | true =>
       rw [hm] at hq; cases hq
       unfold merB at hm
       rw [Bool.and_eq_true, Bool.and_eq_true, Bool.and_eq_true] at hm
       exact ⟨rfl, ok_join D.v hver hnd (by omega) (eq_of_beq hm.1.1.1), kb⟩
     ·unfold movedP at ha
      have hb := bsP_bound p (szL p (allP l)) (fuP l) p.Parts.length
      have hbn := bs_node p (szL p (allP l)) (fuP l) p.Parts.length
      have hem : 1 ≤ emP l nodes ∧ emP l nodes ≤ 16 := emF_bound _ _ _ (by omega) (by omega) (by omega)
      generalize bsP p (szL p (allP l)) (fuP l) p.Parts.length = b at ha hb hbn
      cases hcc : ((decide (b < 0) || decide (atI (szL p (allP l)) b ≤ 0)) || decide (IntKind.i64.wrap (prP l (fuP l) - prP l (emP l nodes)) ≤ atI (szL p (allP l)) b)) with
      | true => simp only [hcc, cond_true] at ha; cases ha
      | false =>
       simp only [hcc, cond_false] at ha
       cases ha
       simp only [Bool.or_eq_false_iff, decide_eq_false_iff_not] at hcc
       obtain ⟨⟨c1, c2⟩, c3⟩ := hcc
       obtain ⟨i, rfl⟩ : ∃ i : Nat, b = (i : Int) := ⟨b.toNat, by omega⟩
       refine ⟨rfl, ok_start (i := i) D.v hver hnd (by omega) hem fun e => ?_, kb⟩
       have hnode : (ap p.Parts i).Node = fuP l := hbn (by omega)
       have e : (ap p.Parts i).Node = emP l nodes := e
       rw [← e, hnode, Int.sub_self, show IntKind.i64.wrap 0 = 0 by decide] at c3
       omega
theorem adv_none {p : TPlacement} {l : List TShard} {h : List THeat} {nodes : Int} (ha : (advP p l h nodes).2 = false) : (advP p l h nodes).1 = mk0 := by
 unfold advP at ha ⊢
 cases hc : (((((!dvB p l) || (!hvB h)) || (decide (nodes < (1 : Int)))) || (decide ((16 : Int) < nodes))) || (p.Version == (1099511627776 : Int))) with
 | true => rfl
 | false =>
  rw [hc, cond_false] at ha
  rw [cond_false]
  obtain ⟨_, e⟩ := or_false' ha; rw [e] at ha ⊢
  obtain ⟨_, e⟩ := or_false' ha; rw [e] at ha ⊢
  obtain ⟨_, e⟩ := or_false' ha; rw [e] at ha ⊢
  obtain ⟨_, e⟩ := or_false' ha; rw [e] at ha ⊢
  unfold movedP at ha ⊢
  generalize bsP p (szL p (allP l)) (fuP l) p.Parts.length = b at ha ⊢
  cases hcc : ((decide (b < 0) || decide (atI (szL p (allP l)) b ≤ 0)) || decide (IntKind.i64.wrap (prP l (fuP l) - prP l (emP l nodes)) ≤ atI (szL p (allP l)) b)) with
  | true => simp only [hcc, cond_true]
  | false => simp only [hcc, cond_false] at ha; cases ha
theorem advised_loop {h : List THeat} (hh : HOk h) (nodes : Int) (J : Option Bool) (hJ : J = some true) (hl : F_clockworklaw35_lives = some true) : ∀ (n : Nat) (i : Int) (p : TPlacement) (l : List TShard), i = 4 - (n : Int) → 0 ≤ i → POk p → SOk l → (dvB p l = true → (allP l).length ≤ 60) →
  F_clockworklaw35_RebalanceAdvised_L1 h nodes J (n + 1) p l i = some true
 | 0, i, p, l, hi, _, _, _, _ => by
  rw [F_clockworklaw35_RebalanceAdvised_L1, decide_eq_false (by omega), cond_false, hJ]
 | n + 1, i, p, l, hi, h0, hp, hs, hn => by
  rw [F_clockworklaw35_RebalanceAdvised_L1, decide_eq_true (by omega), cond_true, adv_impl hp hs (fun hd => by have := hn hd; omega) hh, bnd_mk]
  cases ha : (advP p l h nodes).2 with
  | false =>
   rw [show (!false) = true from rfl, cond_true, adv_none ha, hl]
   rfl
  | true =>
   rw [show (!true) = false from rfl, cond_false]
   have he : advP p l h nodes = ((advP p l h nodes).1, true) := by rw [← ha]
   obtain ⟨hd, g⟩ := adv_good he
   generalize (advP p l h nodes).1 = m at g
   have hpl := pvB_len (dv_all hd).v
   have hn := hn hd
   rw [apply_impl hp (by omega) hs g.k, bnd_mk]
   have hst := pok_step hp (by omega) hs (m := m) g.k
   have e : applyP p l m = ((stepP p l m).1, loadP (stepP p l m).1 (gthP l).1, 0) := by
    unfold applyP
    rw [hd, g.pl, g.s]; rfl
   obtain ⟨u, hu, hsu, hpm⟩ := state_perm hd
   have hul : u.length ≤ 60 := by rw [hpm.length_eq]; exact hn
   have hpr := (gth_inv hs).1
   rw [hu] at e hpr
   rw [e, show ((0 : Int) != 0) = false from rfl, cond_false, w64 (n := i + 1) (by omega) (by omega)]
   refine advised_loop hh nodes J hJ hl n (i + 1) _ _ (by omega) (by omega) hst (load_ok _ hpr (by show u.length ≤ 100; omega)) fun hd2 => ?_
   obtain ⟨w, hw, _, hpw⟩ := state_perm hd2
   rw [load_gth (dv_all hd2).v hsu] at hw
   cases hw
   rw [← hpw.length_eq]; exact hul
theorem plain_RebalanceAdvised (x0 : TPlacement) (x1 : List TShard) (x2 : List THeat) (x3 : Int) (o0 : okTPlacement x0) (o1 : (okLR okTShard) x1) (o2 : (okLR okTHeat) x2) (o3 : (okI .i64) x3) : F_clockworklaw35_RebalanceAdvised x0 x1 x2 x3 = some true := by
 have hp := okP33 o0
 have hsh := okSh o1
 unfold F_clockworklaw35_RebalanceAdvised
 obtain ⟨b, hb, hb2⟩ := few35 (p := x0) (l := x1) (h := x2) (fun s hss => by have := (o1.2 s hss).2.1; omega)
 rw [hb, bnd_mk]
 cases b with
 | false => rw [lives_t]; rfl
 | true =>
  have f := hb2 rfl
  obtain ⟨hs, hn⟩ := few_sok f hsh
  have hh := few_hok f
  rw [show (!true) = false from rfl, cond_false, jn_mk]
  exact advised_loop hh x3 _ (by rw [lives_t]; rfl) lives_t 4 0 x0 x1 (by omega) (by omega) hp hs (fun _ => hn)
end Go.Proofs.YtglnnhmmipopiaaGreat
