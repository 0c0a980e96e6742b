/-
 THE LAW RebalanceKeeps IN PLAIN LEAN: what an applied marker keeps.
-/
import Derived.Test.YtglnnhmmipopiaaGreatOz
set_option linter.all false
namespace Go.Proofs.YtglnnhmmipopiaaGreat
theorem ap_at (l : List TPart) (k : Nat) : atI l (k : Int) = ap l k := rfl
theorem set_facts {p : TPlacement} (hv : pvB p = true) (hver : p.Version ≠ 1099511627776) {k : Nat} (hk : k < p.Parts.length) {x : TPart} (hid : x.Id = (ap p.Parts k).Id) (hf : x.From = (ap p.Parts k).From) (hn : 1 ≤ x.Node ∧ x.Node ≤ 16) (hm : MovOk x (nextF p.Parts k) (decide (k + 1 = p.Parts.length))) :
  PV (chP p (k : Int) x).Version (chP p (k : Int) x).Parts ∧ (chP p (k : Int) x).Version = p.Version + 1 ∧ (chP p (k : Int) x).Parts = p.Parts.set k x := by
 have hP := pv_iff.1 hv
 have h1 := hP.ver
 have hw : IntKind.i64.wrap (p.Version + 1) = p.Version + 1 := w64 (by omega) (by omega)
 have e1 : (chP p (k : Int) x).Version = p.Version + 1 := hw
 have e2 : (chP p (k : Int) x).Parts = p.Parts.set k x := by show p.Parts.set ((k : Int)).toNat x = _; rw [Int.toNat_natCast]
 refine ⟨?_, e1, e2⟩
 rw [e1, e2]
 exact pv_set hP hk hid hf hn hm (by omega)
theorem start_facts {p : TPlacement} {id node : Int} (h0 : (stP p id node).2 = 0) : pvB p = true ∧ pvB (stP p id node).1 = true ∧ (stP p id node).1.Version = p.Version + 1 ∧ ∀ key, ownerP (stP p id node).1 key = ownerP p key := by
 unfold stP at h0 ⊢
 cases hc : ((!pvB p || decide (node < 1)) || decide (16 < node)) with
 | true => rw [hc, cond_true] at h0; exact absurd h0 (by decide)
 | false =>
  rw [hc, cond_false] at h0
  rw [cond_false]
  simp only [Bool.or_eq_false_iff, Bool.not_eq_false', decide_eq_false_iff_not] at hc
  obtain ⟨⟨hv, n1⟩, n2⟩ := hc
  have hP := pv_iff.1 hv
  by_cases hf : findP p.Parts id < 0
  ·rw [decide_eq_true hf, cond_true] at h0; exact absurd h0 (by decide)
  ·rw [decide_eq_false hf, cond_false] at h0 ⊢
   obtain ⟨k, hk, hkl⟩ := findP_at hf
   rw [hk] at h0 ⊢
   cases hb : (((atI p.Parts (k : Int)).Dest != 0) || ((atI p.Parts (k : Int)).Node == node)) with
   | true => rw [hb, cond_true] at h0; exact absurd h0 (by decide)
   | false =>
    rw [hb, cond_false] at h0
    rw [cond_false]
    simp only [Bool.or_eq_false_iff, bne_eq_false_iff_eq, beq_eq_false_iff_ne] at hb
    cases hver : (p.Version == 1099511627776) with
    | true => rw [hver, cond_true] at h0; exact absurd h0 (by decide)
    | false =>
     rw [cond_false]
     have hver := beq_eq_false_iff_ne.1 hver
     rw [ap_at] at hb ⊢
     have hm : MovOk ⟨(ap p.Parts k).Id, (ap p.Parts k).From, (ap p.Parts k).Node, node, (ap p.Parts k).From⟩ (nextF p.Parts k) (decide (k + 1 = p.Parts.length)) := by
      refine ⟨fun h => by have h : node = 0 := h; omega, fun _ => ⟨by show 1 ≤ node; omega, by show node ≤ 16; omega, fun e => hb.2 e.symm, hP.bnd k hkl, sLt_irrefl _, ?_⟩⟩
      by_cases hl : k + 1 = p.Parts.length
      ·exact .inl (decide_eq_true hl)
      ·have hlt : k + 1 < p.Parts.length := by omega
       rw [nextF_eq hlt]
       exact .inr (hP.asc k hlt)
     obtain ⟨f1, f2, f3⟩ := set_facts hv hver hkl (x := ⟨(ap p.Parts k).Id, (ap p.Parts k).From, (ap p.Parts k).Node, node, (ap p.Parts k).From⟩) rfl rfl (hP.node k hkl) hm
     refine ⟨hv, pv_iff.2 f1, f2, fun key => ?_⟩
     obtain ⟨i, _, hi⟩ := index_in hP key
     have hq : PV (IntKind.i64.wrap (p.Version + 1)) (p.Parts.set k ⟨(ap p.Parts k).Id, (ap p.Parts k).From, (ap p.Parts k).Node, node, (ap p.Parts k).From⟩) := by
      have := f1
      rw [f3] at this
      exact this
     show ownerP ⟨IntKind.i64.wrap (p.Version + 1), p.Parts.set ((k : Int)).toNat _⟩ key = _
     rw [Int.toNat_natCast, owner_set (P := p) (x := ⟨(ap p.Parts k).Id, (ap p.Parts k).From, (ap p.Parts k).Node, node, (ap p.Parts k).From⟩) hkl rfl hq hi, owner_of hP hi]
     by_cases e : i = k
     ·subst e
      rw [if_pos rfl]
      unfold partOwner
      have h1 : sLt key (ap p.Parts i).From = false := hi.lo
      rw [h1]
      simp [hb.1]
     ·rw [if_neg e]
theorem chunk_facts {p : TPlacement} {l : List TShard} {id n : Int} (h0 : (ckP p l id n).2.2.2 = 0) : dvB p l = true → pvB (ckP p l id n).1 = true ∧ (ckP p l id n).1.Version = p.Version + 1 := by
 intro hd
 have hv := (dv_iff.1 hd).1
 have hP := pv_iff.1 hv
 obtain ⟨u, hu, hst, _⟩ := gth_spec hd
 unfold ckP at h0 ⊢
 by_cases hn : n < 1
 ·rw [decide_eq_true hn, cond_true] at h0; exact absurd h0 (by decide)
 ·rw [decide_eq_false hn, cond_false] at h0 ⊢
  by_cases hm2 : (movP p l id).2 = 0
  ·rw [show ((movP p l id).2 != 0) = false by simp [hm2], cond_false]
   unfold movP at hm2 ⊢
   rw [hd, cond_true] at hm2 ⊢
   by_cases hf : findP p.Parts id < 0
   ·rw [decide_eq_true hf, cond_true] at hm2; exact absurd hm2 (by decide)
   ·rw [decide_eq_false hf, cond_false] at hm2 ⊢
    obtain ⟨k, hk, hkl⟩ := findP_at hf
    rw [hk, ap_at] at hm2
    rw [hk, ap_at]
    by_cases hdst : (ap p.Parts k).Dest = 0
    ·rw [beq_iff_eq.2 hdst, cond_true] at hm2; exact absurd hm2 (by decide)
    ·rw [beq_eq_false_iff_ne.2 hdst, cond_false] at hm2 ⊢
     by_cases hver : p.Version = 1099511627776
     ·rw [beq_iff_eq.2 hver, cond_true] at hm2; exact absurd hm2 (by decide)
     ·rw [beq_eq_false_iff_ne.2 hver, cond_false]
      show pvB (chP p (k : Int) (nxtX (atI p.Parts (k : Int)) (slP (gthP l).1 (rngP p ((k : Int)).toNat)) n)) = true ∧ (chP p (k : Int) _).Version = _
      rw [Int.toNat_natCast, ap_at]
      have hmv := (hP.mov k hkl).dest hdst
      have key : ∀ x : TPart, x.Id = (ap p.Parts k).Id → x.From = (ap p.Parts k).From → (1 ≤ x.Node ∧ x.Node ≤ 16) → MovOk x (nextF p.Parts k) (decide (k + 1 = p.Parts.length)) → pvB (chP p (k : Int) x) = true ∧ (chP p (k : Int) x).Version = p.Version + 1 := fun x h1 h2 h3 h4 => by
       obtain ⟨f1, f2, _⟩ := set_facts hv hver hkl h1 h2 h3 h4
       exact ⟨pv_iff.2 f1, f2⟩
      unfold nxtX
      by_cases hr : (((slP (gthP l).1 (rngP p k)).length : Nat) : Int) ≤ n
      ·rw [decide_eq_true hr, cond_true]
       exact key _ rfl rfl ⟨hmv.1, hmv.2.1⟩ ⟨fun _ => rfl, fun h => absurd rfl h⟩
      ·rw [decide_eq_false hr, cond_false]
       have hlt : n.toNat < (slP (gthP l).1 (rngP p k)).length := by omega
       have hmem : atI (slP (gthP l).1 (rngP p k)) n ∈ slP (gthP l).1 (rngP p k) := by
        have e : atI (slP (gthP l).1 (rngP p k)) n = (slP (gthP l).1 (rngP p k))[n.toNat] := by simp [atI, List.getD_eq_getElem?_getD, hlt]
        rw [e]; exact List.getElem_mem hlt
       obtain ⟨m1, m2⟩ := List.mem_filter.1 hmem
       have m1' : ∀ z, z ∈ (gthP l).1 → z ∈ u := fun z hz => by rw [hu] at hz; exact hz
       obtain ⟨c1, c2⟩ := ct_part hv hkl hdst m2
       obtain ⟨g1, _, _⟩ := (sta_iff.1 hst).1 _ (m1' _ m1)
       refine key _ rfl rfl (hP.node k hkl) ⟨fun h => absurd h hdst, fun _ => ⟨hmv.1, hmv.2.1, hmv.2.2.1, (kv_bound g1).1, c1.lo, ?_⟩⟩
       by_cases hl : k + 1 = p.Parts.length
       ·exact .inl (decide_eq_true hl)
       ·have hlt : k + 1 < p.Parts.length := by have := hkl; omega
        rw [nextF_eq hlt]
        exact .inr (c1.hi hlt)
  ·rw [show ((movP p l id).2 != 0) = true by simp [hm2], cond_true] at h0
   exact absurd h0 hm2
theorem step_facts {p : TPlacement} {l : List TShard} (hd : dvB p l = true) {m : TMarker} (h0 : (stepP p l m).2 = 0) (hk : m.Kind = 1 ∨ m.Kind = 2 ∨ m.Kind = 3 ∨ m.Kind = 4) :
  pvB (stepP p l m).1 = true ∧ (stepP p l m).1.Version = p.Version + 1 ∧ (m.Kind ≠ 4 → ∀ key, ownerP (stepP p l m).1 key = ownerP p key) := by
 unfold stepP at h0 ⊢
 by_cases h1 : m.Kind = 1
 ·rw [if_pos h1] at h0 ⊢
  rcases splitP_cases p m.Part m.Key m.New with ⟨h, _⟩ | ⟨k, _, hok, he⟩
  ·exact absurd h0 h
  ·rw [he]
   have hpv := div_pv hok
   exact ⟨pv_iff.2 hpv, rfl, fun _ key => div_owner hok hpv key⟩
 ·rw [if_neg h1] at h0 ⊢
  by_cases h2 : m.Kind = 2
  ·rw [if_pos h2] at h0 ⊢
   rcases mergeP_cases p m.Part with ⟨h, _⟩ | ⟨k, _, hok, he⟩
   ·exact absurd h0 h
   ·rw [he]
    have hpv := join_pv hok
    exact ⟨pv_iff.2 hpv, rfl, fun _ key => join_owner hok hpv key⟩
  ·rw [if_neg h2] at h0 ⊢
   by_cases h3 : m.Kind = 3
   ·rw [if_pos h3] at h0 ⊢
    obtain ⟨_, f1, f2, f3⟩ := start_facts h0
    exact ⟨f1, f2, fun _ => f3⟩
   ·rw [if_neg h3] at h0 ⊢
    have h4 : m.Kind = 4 := by
     rcases hk with h | h | h | h
     ·exact absurd h h1
     ·exact absurd h h2
     ·exact absurd h h3
     ·exact h
    obtain ⟨f1, f2⟩ := chunk_facts h0 hd
    exact ⟨f1, f2, fun h => absurd h4 h⟩
theorem plain_RebalanceKeeps (x0 : TPlacement) (x1 : List TShard) (x2 : TMarker) (x3 : Str) (o0 : okTPlacement x0) (o1 : (okLR okTShard) x1) (o2 : okTMarker x2) (o3 : okS x3) : F_clockworklaw35_RebalanceKeeps x0 x1 x2 x3 = some true := by
 have eb : big = 9223372036854775808 := rfl
 have hp := okP33 o0
 have hsh := okSh o1
 unfold F_clockworklaw35_RebalanceKeeps
 rw [lives_t]
 obtain ⟨b, hb, hb2⟩ := few35 (p := x0) (l := x1) (h := []) (few_pairs o1)
 rw [hb, bnd_mk]
 by_cases hc : b = true ∧ x2.Key.length ≤ 100 ∧ x3.length ≤ 100
 ·obtain ⟨hbt, hk, hk3⟩ := hc
  have f := hb2 hbt
  obtain ⟨hs, hn⟩ := few_sok f hsh
  have hpl := f.qp
  rw [hbt, show (((!true) || decide ((100 : Int) < ((x2.Key.length : Nat) : Int))) || decide ((100 : Int) < ((x3.length : Nat) : Int))) = false by simp; omega, cond_false, apply_impl hp (by omega) hs (by omega), bnd_mk]
  unfold applyP
  cases hg : (!dvB x0 x1 || !plnB x2) with
  | true => rfl
  | false =>
   rw [cond_false]
   rw [Bool.or_eq_false_iff, Bool.not_eq_false', Bool.not_eq_false'] at hg
   obtain ⟨hd, hpln⟩ := hg
   by_cases h0 : (stepP x0 x1 x2).2 = 0
   ·rw [show ((stepP x0 x1 x2).2 != 0) = false by simp [h0], cond_false]
    obtain ⟨q1, q2, q3⟩ := step_facts hd h0 (pln_kind hpln)
    have hq := pok_step hp (by omega) hs (m := x2) (by omega)
    obtain ⟨u, hu, hst, hmem⟩ := gth_spec hd
    obtain ⟨g1, g2⟩ := gth_inv hs
    rw [hu] at g1 g2
    have g1 : PrOk u := g1
    have hul : u.length ≤ 60 := by
     have hnd : u.Nodup := (sta_iff.1 hst).2.imp fun {a b} h e => by rw [e, sLt_irrefl] at h; cases h
     have hsub : u ⊆ allP x1 := fun z hz => by
      obtain ⟨s, hs1, hs2⟩ := (hmem z).1 hz
      exact List.mem_flatMap.2 ⟨s, hs1, hs2⟩
     have := List.Nodup.length_le_of_subset hnd hsub
     omega
    have hk' := load_ok (stepP x0 x1 x2).1 g1 (by omega)
    show cond ((0 : Int) != 0) _ _ = _
    rw [show ((0 : Int) != 0) = false from rfl, cond_false, gather_impl hs, bnd_mk, hu]
    show bnd (F_dist_Gather (loadP (stepP x0 x1 x2).1 u)) _ = _
    rw [gather_impl hk', bnd_mk, load_gth q1 hst]
    show bnd (F_dist_Valid (stepP x0 x1 x2).1 (loadP (stepP x0 x1 x2).1 u)) _ = _
    rw [dvalid_impl hq hk', bnd_mk, load_dv q1 hst]
    rw [show (((true && (((u, (0 : Int)) : List TPair × Int).2 == 0)) && (((u, (0 : Int)) : List TPair × Int).2 == 0)) == true) = true from rfl, gcall_t]
    show bnd (F_clockworkref06_Same u u) _ = _
    have hw : IntKind.i64.wrap (x0.Version + 1) = x0.Version + 1 := by
     have := (pv_iff.1 (dv_iff.1 hd).1).ver
     exact w64 (by omega) (by omega)
    rw [pairs_self (by omega), bnd_mk, hw, q2, show (x0.Version + 1 == x0.Version + 1) = true by simp]
    have hv0 := (dv_iff.1 hd).1
    by_cases h4 : x2.Kind = 4
    ·rw [beq_iff_eq.2 h4]; rfl
    ·rw [beq_eq_false_iff_ne.2 h4]
     show bnd (gcall true (F_placement_Owner x0 x3)) _ = _
     rw [gcall_t, owner_impl hp.l hp.s (pv_from hv0), bnd_mk]
     show bnd (gcall true (F_placement_Owner (stepP x0 x1 x2).1 x3)) _ = _
     rw [gcall_t, owner_impl hq.l hq.s (pv_from q1), bnd_mk, q3 h4 x3]
     simp [gcall]
   ·rw [show ((stepP x0 x1 x2).2 != 0) = true by simp [h0], cond_true]
    show cond ((stepP x0 x1 x2).2 != 0) _ _ = _
    rw [show ((stepP x0 x1 x2).2 != 0) = true by simp [h0], cond_true]
    rfl
 ·rw [show (((!b) || decide ((100 : Int) < ((x2.Key.length : Nat) : Int))) || decide ((100 : Int) < ((x3.length : Nat) : Int))) = true by
   cases b with
   | false => rfl
   | true => simp at hc ⊢; omega, cond_true]
  rfl
end Go.Proofs.YtglnnhmmipopiaaGreat
