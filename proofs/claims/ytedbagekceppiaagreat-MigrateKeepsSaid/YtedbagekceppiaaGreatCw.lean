/-
  Chapter 33, plain texts: the laws on whole moves.
  Conditions: none.
-/
import Derived.Test.YtedbagekceppiaaGreatCv
set_option linter.all false
namespace Go.Proofs.YtedbagekceppiaaGreat

variable {P : TPlacement} {k : Nat} {node : Int}

theorem c_len (x : TPart) (r : TRange) (rest : List TPair) {n : Int} (hn : 1 ≤ n) : (((nxtC x r rest n).Pairs.length : Nat) : Int) ≤ n := by
  unfold nxtC
  by_cases h : ((rest.length : Nat) : Int) ≤ n
  · rw [decide_eq_true h]; exact h
  · rw [decide_eq_false h]
    show (((rest.take n.toNat).length : Nat) : Int) ≤ n
    rw [List.length_take]; omega

theorem keeps_loop {x : TMove} {state : List TPair} (hp : POk x.P) (hs : PrOk state) {k : Nat} (b : Beg x state k) {J : TPlacement → Bool → Option Bool} {r : Option Bool}
    (hJ : ∀ w : Int, 0 ≤ w ∧ w ≤ 1099511627776 → J (epl x.P k x.Node w) true = r) : ∀ n (i : Nat) (done : Str) (w : Int), i ≤ x.Sizes.length → x.Sizes.length + 2 < n + i → DnOk x.P k done → w = x.P.Version + 1 + (i : Int) →
    F_clockworklaw33_MigrateKeeps_L1 x state J n (mpl x.P k x.Node done w) (loadP (mpl x.P k x.Node done w) state) false (i : Int) = r := by
  have hv0 := b.mv.pv.ver
  have hver := b.mv.ver
  have hz := b.zl
  intro n
  induction n with
  | zero => intro i _ _ hi hn; omega
  | succ n ih =>
    intro i done w hi hn hd hw
    rw [F_clockworklaw33_MigrateKeeps_L1]
    rw [show (decide ((i : Int) ≤ ((x.Sizes.length : Nat) : Int)) && !false) = true by simp; omega, cond_true]
    have hJ45 : ∀ (f : Int → Option Bool), (jn f fun J45 => cond (decide ((i : Int) < ((x.Sizes.length : Nat) : Int))) (req (0 ≤ (i : Int) ∧ (i : Int) < (x.Sizes.length : Int)) (J45 (max (atI x.Sizes (i : Int)) 1))) (J45 60)) = f (if i < x.Sizes.length then max (atI x.Sizes (i : Int)) 1 else 60) := by
      intro f
      rw [jn_mk]
      by_cases h : i < x.Sizes.length
      · rw [decide_eq_true (by omega), cond_true, req_pos ⟨by omega, by omega⟩, if_pos h]
      · rw [decide_eq_false (by omega), cond_false, if_neg h]
    rw [hJ45]
    have hm := pick_n x.Sizes i
    have h60 : ¬ i < x.Sizes.length → (if i < x.Sizes.length then max (atI x.Sizes (i : Int)) 1 else 60) = (60 : Int) := fun h => if_neg h
    generalize (if i < x.Sizes.length then max (atI x.Sizes (i : Int)) 1 else 60) = m at hm h60
    have hQ := step_v (node := x.Node) b.mv hd (w := w) (by omega) b.st hm
    have hQo := nxtQ_ok (node := x.Node) hp b.mv hd w b.st hm
    have hlo := load_ok (nxtQ x.P k x.Node done w state m) hs (by have := b.sl; omega)
    refine bnd_eq (step_impl hp b.pl b.mv hd (w := w) (by omega) hs b.st b.sl hm b.id) ?_
    refine bnd_eq (gather_ref hlo) ?_
    rw [load_gth hQ b.st]
    refine bnd_eq (gcall_eq rfl (dvalid_ref hQo hlo)) ?_
    rw [load_dv hQ b.st]
    refine bnd_eq (gcall_eq rfl (pairs_self hs.l)) ?_
    have hcl := c_len (mX x.P k x.Node done) ⟨done, nextF x.P.Parts k⟩ (rstP x.P k done state) hm
    refine cond_eq_f ?_ ?_
    · show (((((((0 : Int) != 0) || ((0 : Int) != 0)) || !true) || !true) || decide (m < (((nxtC (mX x.P k x.Node done) ⟨done, nextF x.P.Parts k⟩ (rstP x.P k done state) m).Pairs.length : Nat) : Int))) || ((nxtQ x.P k x.Node done w state m).Version != IntKind.i64.wrap ((mpl x.P k x.Node done w).Version + 1))) = false
      rw [nxtQ_ver, show (mpl x.P k x.Node done w).Version = w from rfl, w64 (by omega) (by omega), decide_eq_false (by omega)]
      simp
    · show F_clockworklaw33_MigrateKeeps_L1 x state J n (nxtQ x.P k x.Node done w state m) (loadP (nxtQ x.P k x.Node done w state m) state) (nxtC (mX x.P k x.Node done) ⟨done, nextF x.P.Parts k⟩ (rstP x.P k done state) m).Last (IntKind.i64.wrap ((i : Int) + 1)) = r
      rw [c_last, wrap_succ (by omega)]
      have hrl := rst_len x.P k done state
      have hsl := b.sl
      by_cases hl : (((rstP x.P k done state).length : Nat) : Int) ≤ m
      · rw [decide_eq_true hl, show nxtQ x.P k x.Node done w state m = epl x.P k x.Node (w + 1) by unfold nxtQ; rw [decide_eq_true hl]; rfl]
        cases n with
        | zero => omega
        | succ n =>
          rw [F_clockworklaw33_MigrateKeeps_L1, Bool.not_true, Bool.and_false, cond_false]
          exact hJ _ (by omega)
      · have hi' : i < x.Sizes.length := by
          rcases Nat.lt_or_ge i x.Sizes.length with h | h
          · exact h
          · have := h60 (by omega); omega
        rw [decide_eq_false hl, show nxtQ x.P k x.Node done w state m = mpl x.P k x.Node (atI (rstP x.P k done state) m).Key (w + 1) by unfold nxtQ; rw [decide_eq_false hl]; rfl]
        exact ih (i + 1) _ (w + 1) (by omega) (by omega) (step_dn b.mv hd b.st hm (by omega)) (by omega)

theorem plain_MigrateKeeps (x0 : TMove) (x1 : List TPair) (o0 : okTMove x0) (o1 : (okL okTPair) x1) : F_clockworklaw33_MigrateKeeps x0 x1 = some true := by
  have hp := okMove o0
  have hs := okPr o1
  unfold F_clockworklaw33_MigrateKeeps
  rcases begun_eq hp hs with ⟨p, l, e⟩ | ⟨k, b, e⟩
  · refine bnd_eq e ?_
    exact bnd_eq works_true rfl
  · refine bnd_eq e ?_
    have hpl := b.pl
    have hv0 := b.mv.pv.ver
    have hver := b.mv.ver
    have hbo : POk (begP x0 k) := mpl_ok hp b.mv.k (hp.s _ (ap_mem b.mv.k)).1 _
    have hst : stP x0.P x0.Id x0.Node = (begP x0 k, 0) := by
      have hfk : findP x0.P.Parts x0.Id = (k : Int) := by rw [← b.id]; exact findP_of b.mv.pv b.mv.k
      unfold stP
      have h1 := b.mv.nd
      rw [b.mv.v, hfk, decide_eq_false (show ¬ x0.Node < 1 by omega), decide_eq_false (show ¬ 16 < x0.Node by omega), decide_eq_false (show ¬ (k : Int) < 0 by omega)]
      have h2 : (((atI x0.P.Parts (k : Int)).Dest != 0) || ((atI x0.P.Parts (k : Int)).Node == x0.Node)) = false := by
        rw [Bool.or_eq_false_iff, bne_eq_false_iff_eq, beq_eq_false_iff_ne]; exact ⟨b.mv.d, b.mv.ne⟩
      rw [h2, show (x0.P.Version == 1099511627776) = false by rw [beq_eq_false_iff_ne]; omega]
      show (chP x0.P (k : Int) _, (0 : Int)) = _
      unfold chP begP mpl mX
      rw [w64 (by omega) (by omega), Int.toNat_natCast]
      rfl
    refine cond_eq_f rfl ?_
    refine bnd_eq (start_impl hp (by omega) _ _) ?_
    rw [hst]
    refine bnd_eq (gcall_eq rfl (same29_self hbo.l)) ?_
    refine cond_eq_f rfl ?_
    rw [jn_mk]
    have := keeps_loop hp hs b (J := fun (x23 : TPlacement) (x25 : Bool) => (bnd (F_clockworklaw33_part x23 x0.Id) fun x30 => (bnd (gcall (((((x25 && (x30.Node == x0.Node)) && (x30.Dest == (0 : Int))) && (x30.Done == ([] : Str)))) == true) (F_clockworklaw33_part ((⟨x0.P.Version, x0.P.Parts⟩ : TPlacement)) x0.Id)) fun x31 => (bnd (gcall ((((((x25 && (x30.Node == x0.Node)) && (x30.Dest == (0 : Int))) && (x30.Done == ([] : Str))) && (x30.From == x31.From))) == true) (F_clockworklaw33_works )) fun x32 => (some (((((x25 && (x30.Node == x0.Node)) && (x30.Dest == (0 : Int))) && (x30.Done == ([] : Str))) && (x30.From == x31.From)) && x32))))))
      (r := some true) ?_ 1000000 0 (ap x0.P.Parts k).From (x0.P.Version + 1) (by omega) (by have := b.zl; omega) (dn_from b.mv) (by omega)
    · rw [show ((0 : Nat) : Int) = 0 from rfl] at this
      exact this
    · intro w hw
      have hel : (epl x0.P k x0.Node w).Parts.length < big := (epl_ok hp b.mv.k _ _).l
      have hfe := find_e b.mv b.mv.nd hw
      rw [b.id] at hfe
      have hkl : k < (epl x0.P k x0.Node w).Parts.length := by
        show k < (x0.P.Parts.set k (eX x0.P k x0.Node)).length
        rw [List.length_set]; exact b.mv.k
      have e1 := part_eq hel hfe hkl
      rw [ap_e b.mv] at e1
      have hfk : findP x0.P.Parts x0.Id = (k : Int) := by rw [← b.id]; exact findP_of b.mv.pv b.mv.k
      have e2 : F_clockworklaw33_part (⟨x0.P.Version, x0.P.Parts⟩ : TPlacement) x0.Id = some (ap x0.P.Parts k) := part_eq hp.l hfk b.mv.k
      refine bnd_eq e1 ?_
      refine bnd_eq (gcall_eq (by simp [eX]) e2) ?_
      refine bnd_eq (gcall_eq (by simp [eX]) works_true) ?_
      simp [eX]

/-! ### Delivered chunks -/

theorem node_m (h : MV P k node) {done : Str} (hd : DnOk P k done) {w : Int} (hw : 0 ≤ w ∧ w ≤ 1099511627776) : node ∈ nodesRefP (mpl P k node done w) := by
  have hv := mpl_v h hd hw
  have hlen : k < (mpl P k node done w).Parts.length := by
    show k < (P.Parts.set k (mX P k node done)).length
    rw [List.length_set]; exact h.k
  have hne := h.nd
  have := part_dest hv hlen (by rw [ap_m h]; show node ≠ 0; omega)
  rw [ap_m h] at this
  exact this

theorem node_e (h : MV P k node) {w : Int} (hw : 0 ≤ w ∧ w ≤ 1099511627776) : node ∈ nodesRefP (epl P k node w) := by
  have hv := epl_v h h.nd hw
  have hlen : k < (epl P k node w).Parts.length := by
    show k < (P.Parts.set k (eX P k node)).length
    rw [List.length_set]; exact h.k
  have := part_node hv hlen
  rw [ap_e h] at this
  exact this

theorem node_q (h : MV P k node) {done : Str} (hd : DnOk P k done) {w : Int} (hw : 0 ≤ w ∧ w < 1099511627776) {state : List TPair} (hst : staB state = true) {n : Int} (hn : 1 ≤ n) : node ∈ nodesRefP (nxtQ P k node done w state n) := by
  unfold nxtQ
  by_cases hl : (((rstP P k done state).length : Nat) : Int) ≤ n
  · rw [decide_eq_true hl]; exact node_e h (by omega)
  · rw [decide_eq_false hl]; exact node_m h (step_dn h hd hst hn (by omega)) (by omega)

theorem c_keys (x : TPart) (P : TPlacement) (k : Nat) (done : Str) (state : List TPair) (n : Int) : (nxtC x ⟨done, nextF P.Parts k⟩ (rstP P k done state) n).Keys = nxtR P k done state n := by
  unfold nxtC nxtR
  cases decide ((((rstP P k done state).length : Nat) : Int) ≤ n) <;> rfl

theorem c_to (x : TPart) (r : TRange) (rest : List TPair) (n : Int) : (nxtC x r rest n).To = x.Dest ∧ (nxtC x r rest n).From = x.Node ∧ (nxtC x r rest n).Part = x.Id := by
  unfold nxtC
  cases decide (((rest.length : Nat) : Int) ≤ n) <;> exact ⟨rfl, rfl, rfl⟩

/-- A chunk that the destination receives, be it for the first time or again. -/
theorem recv_eq (h : MV P k node) {done : Str} (hd : DnOk P k done) {w : Int} (hw : 0 ≤ w ∧ w < 1099511627776) {state : List TPair} (hst : staB state = true) {n : Int} (hn : 1 ≤ n) {l : List TPair} (hl : staB l = true)
    (hmem : ∀ x, ctB (nxtR P k done state n) x.Key = false → (x ∈ l ↔ x ∈ state ∧ ownerP (mpl P k node done w) x.Key = node)) :
    rcP ⟨node, l⟩ (nxtC (mX P k node done) ⟨done, nextF P.Parts k⟩ (rstP P k done state) n) = (shP (nxtQ P k node done w state n) state node, 0) := by
  obtain ⟨h1, h2⟩ := step_rng (node := node) h hd hst hn
  have hc := c_keys (mX P k node done) P k done state n
  have hto := (c_to (mX P k node done) ⟨done, nextF P.Parts k⟩ (rstP P k done state) n).1
  generalize nxtC (mX P k node done) ⟨done, nextF P.Parts k⟩ (rstP P k done state) n = c at h2 hc hto ⊢
  have hto : c.To = node := hto
  have hany : (c.Pairs.any fun x => !ctB c.Keys x.Key) = false := by
    rw [List.any_eq_false, h2, hc]
    intro x hx
    have := (List.mem_filter.1 hx).2
    rw [this]; simp
  have hcs : staB c.Pairs = true := by rw [h2]; exact sta_filter hst _
  obtain ⟨u, u1, u2, u3⟩ := rc_union (s := ⟨node, l⟩) (c := c) hl hcs hany
  unfold rcP
  rw [show (((((((⟨node, l⟩ : TShard).Node != c.To) || !staB (⟨node, l⟩ : TShard).Pairs) || !vrB c.Keys) || !staB c.Pairs) || c.Pairs.any fun x => !ctB c.Keys x.Key)) = false by
    rw [hany, hcs, hc, h1, hto]; show (((((node != node) || !staB l) || !true) || !true) || false) = false; rw [hl]; simp, cond_false, u1]
  have : u = (shP (nxtQ P k node done w state n) state node).Pairs := by
    refine kasc_ext (sta_iff.1 u2).2 (sta_iff.1 (sta_filter hst _)).2 fun x => ?_
    rw [u3, h2, hc]
    show (x ∈ l ∧ ctB (nxtR P k done state n) x.Key = false) ∨ x ∈ slP state (nxtR P k done state n) ↔ _
    obtain ⟨o1, o2⟩ := step_own h hd hw hst hn x.Key
    unfold slP shP
    rw [List.mem_filter, List.mem_filter, beq_iff_eq]
    cases hcx : ctB (nxtR P k done state n) x.Key with
    | true =>
      rw [(o1 hcx).2]
      simp
    | false =>
      rw [o2 hcx, hmem x hcx]
      simp
  rw [this]
  rfl

theorem recv_first (h : MV P k node) {done : Str} (hd : DnOk P k done) {w : Int} (hw : 0 ≤ w ∧ w < 1099511627776) {state : List TPair} (hst : staB state = true) {n : Int} (hn : 1 ≤ n) :
    rcP (shP (mpl P k node done w) state node) (nxtC (mX P k node done) ⟨done, nextF P.Parts k⟩ (rstP P k done state) n) = (shP (nxtQ P k node done w state n) state node, 0) := by
  refine recv_eq h hd hw hst hn (l := state.filter fun x => ownerP (mpl P k node done w) x.Key == node) (sta_filter hst _) fun x _ => ?_
  rw [List.mem_filter, beq_iff_eq]

theorem recv_again (h : MV P k node) {done : Str} (hd : DnOk P k done) {w : Int} (hw : 0 ≤ w ∧ w < 1099511627776) {state : List TPair} (hst : staB state = true) {n : Int} (hn : 1 ≤ n) :
    rcP (shP (nxtQ P k node done w state n) state node) (nxtC (mX P k node done) ⟨done, nextF P.Parts k⟩ (rstP P k done state) n) = (shP (nxtQ P k node done w state n) state node, 0) := by
  refine recv_eq h hd hw hst hn (l := state.filter fun x => ownerP (nxtQ P k node done w state n) x.Key == node) (sta_filter hst _) fun x hx => ?_
  rw [List.mem_filter, beq_iff_eq, (step_own h hd hw hst hn x.Key).2 hx]

theorem ck_ok (h : MV P k node) {done : Str} (hd : DnOk P k done) {state : List TPair} (hs : PrOk state) (hst : staB state = true) {n : Int} (hn : 1 ≤ n) : CkOk (nxtC (mX P k node done) ⟨done, nextF P.Parts k⟩ (rstP P k done state) n) := by
  obtain ⟨h1, h2⟩ := step_rng (node := node) h hd hst hn
  refine ⟨?_, by rw [h2]; exact hs.filter _⟩
  rw [c_keys]
  unfold vrB at h1
  rw [Bool.and_eq_true, Bool.and_eq_true] at h1
  exact ⟨bound_len h1.1.1, bound_len h1.1.2⟩

theorem load_ver {a c : Int} {l : List TPart} (h1 : pvB ⟨a, l⟩ = true) (h2 : pvB ⟨c, l⟩ = true) (state : List TPair) : loadP ⟨a, l⟩ state = loadP ⟨c, l⟩ state := by
  have ho : ∀ key, ownerP ⟨a, l⟩ key = ownerP ⟨c, l⟩ key := fun key => by
    obtain ⟨i, _, hi⟩ := index_in (pv_iff.1 h1) key
    rw [owner_of (p := ⟨a, l⟩) (pv_iff.1 h1) hi, owner_of (p := ⟨c, l⟩) (pv_iff.1 h2) hi]
  have hn : nodesRefP ⟨a, l⟩ = nodesRefP ⟨c, l⟩ := by unfold nodesRefP; rw [if_pos h1, if_pos h2]
  unfold loadP
  rw [h1, h2, hn]
  have : shP ⟨a, l⟩ state = shP ⟨c, l⟩ state := by
    funext nd
    unfold shP
    simp only [ho]
  rw [this]

theorem cancel_m (h : MV P k node) {done : Str} (hd : DnOk P k done) {w : Int} (hw : 0 ≤ w ∧ w < 1099511627776) {state : List TPair} (hst : staB state = true) :
    cnP (mpl P k node done w) (loadP (mpl P k node done w) state) (ap P.Parts k).Id = (⟨w + 1, P.Parts⟩, loadP ⟨w + 1, P.Parts⟩ state, 0) := by
  have hv := mpl_v h hd (w := w) ⟨hw.1, by omega⟩
  have hat : atI (mpl P k node done w).Parts (k : Int) = mX P k node done := ap_m h done w
  have hw1 : IntKind.i64.wrap (w + 1) = w + 1 := w64 (by omega) (by omega)
  rw [cnP, mov_m h hd hw hst, load_gth hv hst, show (((k : Int), (0 : Int)).2 != 0) = false from rfl, cond_false]
  simp only [hat]
  have hQ : chP (mpl P k node done w) (k : Int) ⟨(mX P k node done).Id, (mX P k node done).From, (mX P k node done).Node, 0, []⟩ = ⟨w + 1, P.Parts⟩ := by
    rw [← epl_back h (w + 1)]
    unfold chP epl
    rw [show (mpl P k node done w).Version = w from rfl, hw1, Int.toNat_natCast]
    show (⟨w + 1, (P.Parts.set k (mX P k node done)).set k (eX P k (ap P.Parts k).Node)⟩ : TPlacement) = _
    rw [List.set_set]
  rw [hQ]

theorem cancel_e (h : MV P k node) {w : Int} (hw : 0 ≤ w ∧ w ≤ 1099511627776) {state : List TPair} (hst : staB state = true) :
    (cnP (epl P k node w) (loadP (epl P k node w) state) (ap P.Parts k).Id).2.2 = 19 := by
  have hv := epl_v h h.nd hw
  have hat : atI (epl P k node w).Parts (k : Int) = eX P k node := ap_e h node w
  have : movP (epl P k node w) (loadP (epl P k node w) state) (ap P.Parts k).Id = (0, 19) := by
    rw [movP, load_dv hv hst, cond_true, find_e h h.nd hw, decide_eq_false (show ¬ (k : Int) < 0 by omega), cond_false, hat]
    rfl
  rw [cnP, this]; rfl

theorem own_beg (h : MV P k node) (hv0 : 0 ≤ P.Version) (key : Str) : ownerP (mpl P k node (ap P.Parts k).From (P.Version + 1)) key = ownerP P key := by
  have hver := h.ver
  obtain ⟨i, _, hi⟩ := index_in h.pv key
  rw [own_m h (dn_from h) (by omega) hi]
  split
  · rename_i e
    subst e
    rw [if_neg (by rw [hi.lo]; simp), owner_of h.pv hi, partOwner, h.d]
    simp
  · rfl

end Go.Proofs.YtedbagekceppiaaGreat
