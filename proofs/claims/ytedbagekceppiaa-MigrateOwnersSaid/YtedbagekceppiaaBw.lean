/-
  Chapter 33, plain texts: the laws on whole moves.
  Conditions: none.
-/
import Derived.Test.YtedbagekceppiaaBv
set_option linter.all false
namespace Go.Proofs.Ytedbagekceppiaa

variable {P : TPlacement} {k : Nat} {node : Int}

theorem c_len (x : TPart) (r : TRange) (rest : List TPair) {n : Int} (hn : 1 ≤ n) : (((nxtC x r rest n).Pairs.length : Nat) : Int) ≤ n := by
  unfold nxtC
  by_cases h : ((rest.length : Nat) : Int) ≤ n
  · rw [decide_eq_true h]; exact h
  · rw [decide_eq_false h]
    show (((rest.take n.toNat).length : Nat) : Int) ≤ n
    rw [List.length_take]; omega

theorem node_m (h : MV P k node) {done : Str} (hd : DnOk P k done) {w : Int} (hw : 0 ≤ w ∧ w ≤ 1099511627776) : node ∈ nodesRefP (mpl P k node done w) := by
  have hv := mpl_v h hd hw
  have hlen : k < (mpl P k node done w).Parts.length := by
    show k < (P.Parts.set k (mX P k node done)).length
    rw [List.length_set]; exact h.k
  have hne := h.nd
  have := part_dest hv hlen (by rw [ap_m h]; show node ≠ 0; omega)
  rw [ap_m h] at this
  exact this

theorem node_e (h : MV P k node) {w : Int} (hw : 0 ≤ w ∧ w ≤ 1099511627776) : node ∈ nodesRefP (epl P k node w) := by
  have hv := epl_v h h.nd hw
  have hlen : k < (epl P k node w).Parts.length := by
    show k < (P.Parts.set k (eX P k node)).length
    rw [List.length_set]; exact h.k
  have := part_node hv hlen
  rw [ap_e h] at this
  exact this

theorem node_q (h : MV P k node) {done : Str} (hd : DnOk P k done) {w : Int} (hw : 0 ≤ w ∧ w < 1099511627776) {state : List TPair} (hst : staB state = true) {n : Int} (hn : 1 ≤ n) : node ∈ nodesRefP (nxtQ P k node done w state n) := by
  unfold nxtQ
  by_cases hl : (((rstP P k done state).length : Nat) : Int) ≤ n
  · rw [decide_eq_true hl]; exact node_e h (by omega)
  · rw [decide_eq_false hl]; exact node_m h (step_dn h hd hst hn (by omega)) (by omega)

theorem c_keys (x : TPart) (P : TPlacement) (k : Nat) (done : Str) (state : List TPair) (n : Int) : (nxtC x ⟨done, nextF P.Parts k⟩ (rstP P k done state) n).Keys = nxtR P k done state n := by
  unfold nxtC nxtR
  cases decide ((((rstP P k done state).length : Nat) : Int) ≤ n) <;> rfl

theorem c_to (x : TPart) (r : TRange) (rest : List TPair) (n : Int) : (nxtC x r rest n).To = x.Dest ∧ (nxtC x r rest n).From = x.Node ∧ (nxtC x r rest n).Part = x.Id := by
  unfold nxtC
  cases decide (((rest.length : Nat) : Int) ≤ n) <;> exact ⟨rfl, rfl, rfl⟩

/-- A chunk that the destination receives, be it for the first time or again. -/
theorem recv_eq (h : MV P k node) {done : Str} (hd : DnOk P k done) {w : Int} (hw : 0 ≤ w ∧ w < 1099511627776) {state : List TPair} (hst : staB state = true) {n : Int} (hn : 1 ≤ n) {l : List TPair} (hl : staB l = true)
    (hmem : ∀ x, ctB (nxtR P k done state n) x.Key = false → (x ∈ l ↔ x ∈ state ∧ ownerP (mpl P k node done w) x.Key = node)) :
    rcP ⟨node, l⟩ (nxtC (mX P k node done) ⟨done, nextF P.Parts k⟩ (rstP P k done state) n) = (shP (nxtQ P k node done w state n) state node, 0) := by
  obtain ⟨h1, h2⟩ := step_rng (node := node) h hd hst hn
  have hc := c_keys (mX P k node done) P k done state n
  have hto := (c_to (mX P k node done) ⟨done, nextF P.Parts k⟩ (rstP P k done state) n).1
  generalize nxtC (mX P k node done) ⟨done, nextF P.Parts k⟩ (rstP P k done state) n = c at h2 hc hto ⊢
  have hto : c.To = node := hto
  have hany : (c.Pairs.any fun x => !ctB c.Keys x.Key) = false := by
    rw [List.any_eq_false, h2, hc]
    intro x hx
    have := (List.mem_filter.1 hx).2
    rw [this]; simp
  have hcs : staB c.Pairs = true := by rw [h2]; exact sta_filter hst _
  obtain ⟨u, u1, u2, u3⟩ := rc_union (s := ⟨node, l⟩) (c := c) hl hcs hany
  unfold rcP
  rw [show (((((((⟨node, l⟩ : TShard).Node != c.To) || !staB (⟨node, l⟩ : TShard).Pairs) || !vrB c.Keys) || !staB c.Pairs) || c.Pairs.any fun x => !ctB c.Keys x.Key)) = false by
    rw [hany, hcs, hc, h1, hto]; show (((((node != node) || !staB l) || !true) || !true) || false) = false; rw [hl]; simp, cond_false, u1]
  have : u = (shP (nxtQ P k node done w state n) state node).Pairs := by
    refine kasc_ext (sta_iff.1 u2).2 (sta_iff.1 (sta_filter hst _)).2 fun x => ?_
    rw [u3, h2, hc]
    show (x ∈ l ∧ ctB (nxtR P k done state n) x.Key = false) ∨ x ∈ slP state (nxtR P k done state n) ↔ _
    obtain ⟨o1, o2⟩ := step_own h hd hw hst hn x.Key
    unfold slP shP
    rw [List.mem_filter, List.mem_filter, beq_iff_eq]
    cases hcx : ctB (nxtR P k done state n) x.Key with
    | true =>
      rw [(o1 hcx).2]
      simp
    | false =>
      rw [o2 hcx, hmem x hcx]
      simp
  rw [this]
  rfl

theorem recv_first (h : MV P k node) {done : Str} (hd : DnOk P k done) {w : Int} (hw : 0 ≤ w ∧ w < 1099511627776) {state : List TPair} (hst : staB state = true) {n : Int} (hn : 1 ≤ n) :
    rcP (shP (mpl P k node done w) state node) (nxtC (mX P k node done) ⟨done, nextF P.Parts k⟩ (rstP P k done state) n) = (shP (nxtQ P k node done w state n) state node, 0) := by
  refine recv_eq h hd hw hst hn (l := state.filter fun x => ownerP (mpl P k node done w) x.Key == node) (sta_filter hst _) fun x _ => ?_
  rw [List.mem_filter, beq_iff_eq]

theorem recv_again (h : MV P k node) {done : Str} (hd : DnOk P k done) {w : Int} (hw : 0 ≤ w ∧ w < 1099511627776) {state : List TPair} (hst : staB state = true) {n : Int} (hn : 1 ≤ n) :
    rcP (shP (nxtQ P k node done w state n) state node) (nxtC (mX P k node done) ⟨done, nextF P.Parts k⟩ (rstP P k done state) n) = (shP (nxtQ P k node done w state n) state node, 0) := by
  refine recv_eq h hd hw hst hn (l := state.filter fun x => ownerP (nxtQ P k node done w state n) x.Key == node) (sta_filter hst _) fun x hx => ?_
  rw [List.mem_filter, beq_iff_eq, (step_own h hd hw hst hn x.Key).2 hx]

theorem ck_ok (h : MV P k node) {done : Str} (hd : DnOk P k done) {state : List TPair} (hs : PrOk state) (hst : staB state = true) {n : Int} (hn : 1 ≤ n) : CkOk (nxtC (mX P k node done) ⟨done, nextF P.Parts k⟩ (rstP P k done state) n) := by
  obtain ⟨h1, h2⟩ := step_rng (node := node) h hd hst hn
  refine ⟨?_, by rw [h2]; exact hs.filter _⟩
  rw [c_keys]
  unfold vrB at h1
  rw [Bool.and_eq_true, Bool.and_eq_true] at h1
  exact ⟨bound_len h1.1.1, bound_len h1.1.2⟩

theorem delivers_loop {x : TMove} {state : List TPair} (hp : POk x.P) (hs : PrOk state) {k : Nat} (b : Beg x state k) (twice : Bool) {J : Bool → Option Bool} : ∀ n (i : Nat) (done : Str) (w : Int), i ≤ x.Sizes.length → x.Sizes.length + 2 < n + i → DnOk x.P k done → w = x.P.Version + 1 + (i : Int) →
    F_clockworklaw33_MigrateDelivers_L1 x twice J n (mpl x.P k x.Node done w) (shP (mpl x.P k x.Node done w) state x.Node) (loadP (mpl x.P k x.Node done w) state) false (i : Int) = J true := by
  have hv0 := b.mv.pv.ver
  have hver := b.mv.ver
  have hz := b.zl
  intro n
  induction n with
  | zero => intro i _ _ hi hn; omega
  | succ n ih =>
    intro i done w hi hn hd hw
    rw [F_clockworklaw33_MigrateDelivers_L1]
    rw [show (decide ((i : Int) ≤ ((x.Sizes.length : Nat) : Int)) && !false) = true by simp; omega, cond_true]
    have hJ45 : ∀ (f : Int → Option Bool), (jn f fun J45 => cond (decide ((i : Int) < ((x.Sizes.length : Nat) : Int))) (req (0 ≤ (i : Int) ∧ (i : Int) < (x.Sizes.length : Int)) (J45 (max (atI x.Sizes (i : Int)) 1))) (J45 60)) = f (if i < x.Sizes.length then max (atI x.Sizes (i : Int)) 1 else 60) := by
      intro f
      rw [jn_mk]
      by_cases h : i < x.Sizes.length
      · rw [decide_eq_true (by omega), cond_true, req_pos ⟨by omega, by omega⟩, if_pos h]
      · rw [decide_eq_false (by omega), cond_false, if_neg h]
    rw [hJ45]
    have hm := pick_n x.Sizes i
    have h60 : ¬ i < x.Sizes.length → (if i < x.Sizes.length then max (atI x.Sizes (i : Int)) 1 else 60) = (60 : Int) := fun h => if_neg h
    generalize (if i < x.Sizes.length then max (atI x.Sizes (i : Int)) 1 else 60) = m at hm h60
    have hQ := step_v (node := x.Node) b.mv hd (w := w) (by omega) b.st hm
    have hck := ck_ok (node := x.Node) b.mv hd hs b.st hm
    have hrl := rst_len x.P k done state
    have hsl := b.sl
    have hcl : (nxtC (mX x.P k x.Node done) ⟨done, nextF x.P.Parts k⟩ (rstP x.P k done state) m).Pairs.length ≤ 1000 := by
      have := nxtC_len (mX x.P k x.Node done) ⟨done, nextF x.P.Parts k⟩ (rstP x.P k done state) m
      omega
    have hso : ∀ p : TPlacement, PrOk (shP p state x.Node).Pairs ∧ (shP p state x.Node).Pairs.length ≤ 1000 := fun p => ⟨hs.filter _, Nat.le_trans (List.length_filter_le _ _) (by omega)⟩
    refine bnd_eq (step_impl hp b.pl b.mv hd (w := w) (by omega) hs b.st b.sl hm b.id) ?_
    refine cond_eq_f rfl ?_
    have er1 := receive_impl (hso (mpl x.P k x.Node done w)).1 (hso _).2 hck hcl
    have er2 := receive_impl (hso (nxtQ x.P k x.Node done w state m)).1 (hso _).2 hck hcl
    rw [recv_first b.mv hd (w := w) (by omega) b.st hm] at er1
    rw [recv_again b.mv hd (w := w) (by omega) b.st hm] at er2
    refine bnd_eq er1 ?_
    rw [jn_mk]
    have key : (fun (x68 : TShard) (x70 : Int) => (bnd (gcall ((((x70 != (0 : Int)) || (x68.Node != x.Node))) == false) (F_clockworklaw33_at (loadP (nxtQ x.P k x.Node done w state m) state) x.Node)) fun x80 => (bnd (gcall ((((x70 != (0 : Int)) || (x68.Node != x.Node))) == false) (F_clockworkref06_Same x68.Pairs x80.Pairs)) fun x91 => (cond (((x70 != (0 : Int)) || (x68.Node != x.Node)) || (!x91)) (some false) (F_clockworklaw33_MigrateDelivers_L1 x twice J n (nxtQ x.P k x.Node done w state m) x68 (loadP (nxtQ x.P k x.Node done w state m) state) (nxtC (mX x.P k x.Node done) ⟨done, nextF x.P.Parts k⟩ (rstP x.P k done state) m).Last ((IntKind.i64.wrap ((i : Int) + (1 : Int))))))))) (shP (nxtQ x.P k x.Node done w state m) state x.Node) 0 = J true := by
      refine bnd_eq (gcall_eq (by simp [shP]) (at_eq hQ b.st (node_q b.mv hd (w := w) (by omega) b.st hm))) ?_
      refine bnd_eq (gcall_eq (by simp [shP]) (pairs_self (hso _).1.l)) ?_
      refine cond_eq_f (by simp [shP]) ?_
      rw [c_last, wrap_succ (by omega)]
      by_cases hl : (((rstP x.P k done state).length : Nat) : Int) ≤ m
      · rw [decide_eq_true hl]
        cases n with
        | zero => omega
        | succ n => rw [F_clockworklaw33_MigrateDelivers_L1, Bool.not_true, Bool.and_false, cond_false]
      · have hi' : i < x.Sizes.length := by
          rcases Nat.lt_or_ge i x.Sizes.length with h | h
          · exact h
          · have := h60 (by omega); omega
        rw [decide_eq_false hl, show nxtQ x.P k x.Node done w state m = mpl x.P k x.Node (atI (rstP x.P k done state) m).Key (w + 1) by unfold nxtQ; rw [decide_eq_false hl]; rfl]
        exact ih (i + 1) _ (w + 1) (by omega) (by omega) (step_dn b.mv hd b.st hm (by omega)) (by omega)
    cases twice with
    | false => exact key
    | true => exact bnd_eq er2 key

theorem plain_MigrateDelivers (x0 : TMove) (x1 : List TPair) (x2 : Bool) (o0 : okTMove x0) (o1 : (okL okTPair) x1) : F_clockworklaw33_MigrateDelivers x0 x1 x2 = some true := by
  have hp := okMove o0
  have hs := okPr o1
  unfold F_clockworklaw33_MigrateDelivers
  rcases begun_eq hp hs with ⟨p, l, e⟩ | ⟨k, b, e⟩
  · refine bnd_eq e ?_
    exact bnd_eq works_true rfl
  · refine bnd_eq e ?_
    have hv0 := b.mv.pv.ver
    have hver := b.mv.ver
    have hbv : pvB (begP x0 k) = true := mpl_v b.mv (dn_from b.mv) (by omega)
    refine cond_eq_f rfl ?_
    refine bnd_eq (at_eq hbv b.st (node_m b.mv (dn_from b.mv) (by omega))) ?_
    rw [jn_mk]
    have := delivers_loop hp hs b x2 (J := fun (x23 : Bool) => (bnd (gcall ((x23) == true) (F_clockworklaw33_works )) fun x26 => (some (x23 && x26)))) 1000000 0 (ap x0.P.Parts k).From (x0.P.Version + 1) (by omega) (by have := b.zl; omega) (dn_from b.mv) (by omega)
    rw [show ((0 : Nat) : Int) = 0 from rfl] at this
    refine (show _ = _ from this).trans ?_
    exact bnd_eq (gcall_eq rfl works_true) rfl

/-! ### Moves taken back -/

theorem load_ver {a c : Int} {l : List TPart} (h1 : pvB ⟨a, l⟩ = true) (h2 : pvB ⟨c, l⟩ = true) (state : List TPair) : loadP ⟨a, l⟩ state = loadP ⟨c, l⟩ state := by
  have ho : ∀ key, ownerP ⟨a, l⟩ key = ownerP ⟨c, l⟩ key := fun key => by
    obtain ⟨i, _, hi⟩ := index_in (pv_iff.1 h1) key
    rw [owner_of (p := ⟨a, l⟩) (pv_iff.1 h1) hi, owner_of (p := ⟨c, l⟩) (pv_iff.1 h2) hi]
  have hn : nodesRefP ⟨a, l⟩ = nodesRefP ⟨c, l⟩ := by unfold nodesRefP; rw [if_pos h1, if_pos h2]
  unfold loadP
  rw [h1, h2, hn]
  have : shP ⟨a, l⟩ state = shP ⟨c, l⟩ state := by
    funext nd
    unfold shP
    simp only [ho]
  rw [this]

theorem cancel_m (h : MV P k node) {done : Str} (hd : DnOk P k done) {w : Int} (hw : 0 ≤ w ∧ w < 1099511627776) {state : List TPair} (hst : staB state = true) :
    cnP (mpl P k node done w) (loadP (mpl P k node done w) state) (ap P.Parts k).Id = (⟨w + 1, P.Parts⟩, loadP ⟨w + 1, P.Parts⟩ state, 0) := by
  have hv := mpl_v h hd (w := w) ⟨hw.1, by omega⟩
  have hat : atI (mpl P k node done w).Parts (k : Int) = mX P k node done := ap_m h done w
  have hw1 : IntKind.i64.wrap (w + 1) = w + 1 := w64 (by omega) (by omega)
  rw [cnP, mov_m h hd hw hst, load_gth hv hst, show (((k : Int), (0 : Int)).2 != 0) = false from rfl, cond_false]
  simp only [hat]
  have hQ : chP (mpl P k node done w) (k : Int) ⟨(mX P k node done).Id, (mX P k node done).From, (mX P k node done).Node, 0, []⟩ = ⟨w + 1, P.Parts⟩ := by
    rw [← epl_back h (w + 1)]
    unfold chP epl
    rw [show (mpl P k node done w).Version = w from rfl, hw1, Int.toNat_natCast]
    show (⟨w + 1, (P.Parts.set k (mX P k node done)).set k (eX P k (ap P.Parts k).Node)⟩ : TPlacement) = _
    rw [List.set_set]
  rw [hQ]

theorem cancel_e (h : MV P k node) {w : Int} (hw : 0 ≤ w ∧ w ≤ 1099511627776) {state : List TPair} (hst : staB state = true) :
    (cnP (epl P k node w) (loadP (epl P k node w) state) (ap P.Parts k).Id).2.2 = 19 := by
  have hv := epl_v h h.nd hw
  have hat : atI (epl P k node w).Parts (k : Int) = eX P k node := ap_e h node w
  have : movP (epl P k node w) (loadP (epl P k node w) state) (ap P.Parts k).Id = (0, 19) := by
    rw [movP, load_dv hv hst, cond_true, find_e h h.nd hw, decide_eq_false (show ¬ (k : Int) < 0 by omega), cond_false, hat]
    rfl
  rw [cnP, this]; rfl

theorem returns_loop {x : TMove} {state : List TPair} (hp : POk x.P) (hs : PrOk state) {k : Nat} (b : Beg x state k) {J : TPlacement → List TShard → Option Bool}
    (hJ : ∀ (w : Int) (done : Str), DnOk x.P k done → 0 ≤ w ∧ w < 1099511627770 → J (mpl x.P k x.Node done w) (loadP (mpl x.P k x.Node done w) state) = some true) : ∀ n (i : Nat) (done : Str) (w : Int), i ≤ x.Sizes.length → x.Sizes.length < n + i → DnOk x.P k done → w = x.P.Version + 1 + (i : Int) →
    F_clockworklaw33_MigrateReturns_L1 x J n (mpl x.P k x.Node done w) (loadP (mpl x.P k x.Node done w) state) (i : Int) = some true := by
  have hv0 := b.mv.pv.ver
  have hver := b.mv.ver
  have hz := b.zl
  intro n
  induction n with
  | zero => intro i _ _ hi hn; omega
  | succ n ih =>
    intro i done w hi hn hd hw
    rw [F_clockworklaw33_MigrateReturns_L1]
    rcases Nat.lt_or_ge i x.Sizes.length with hlt | hge
    · rw [decide_eq_true (show (i : Int) < ((x.Sizes.length : Nat) : Int) by omega), cond_true, req_pos ⟨by omega, by omega⟩]
      have hm : 1 ≤ max (atI x.Sizes (i : Int)) 1 := by omega
      generalize max (atI x.Sizes (i : Int)) 1 = m at hm
      refine bnd_eq (step_impl hp b.pl b.mv hd (w := w) (by omega) hs b.st b.sl hm b.id) ?_
      refine cond_eq_f rfl ?_
      show cond (nxtC (mX x.P k x.Node done) ⟨done, nextF x.P.Parts k⟩ (rstP x.P k done state) m).Last _ _ = some true
      rw [c_last, wrap_succ (by omega)]
      by_cases hl : (((rstP x.P k done state).length : Nat) : Int) ≤ m
      · rw [decide_eq_true hl, cond_true, show nxtQ x.P k x.Node done w state m = epl x.P k x.Node (w + 1) by unfold nxtQ; rw [decide_eq_true hl]; rfl]
        have hlo := load_ok (epl x.P k x.Node (w + 1)) hs (by have := b.sl; omega)
        have hlen : (epl x.P k x.Node (w + 1)).Parts.length ≤ 1000 := by
          have := b.pl
          show (x.P.Parts.set k (eX x.P k x.Node)).length ≤ 1000
          rw [List.length_set]; omega
        refine bnd_eq (cancel_impl (epl_ok hp b.mv.k _ _) hlen hlo _) ?_
        have := cancel_e b.mv (w := w + 1) (by omega) b.st
        rw [b.id] at this
        rw [this]
        exact bnd_eq (gcall_eq rfl works_true) rfl
      · rw [decide_eq_false hl, cond_false, show nxtQ x.P k x.Node done w state m = mpl x.P k x.Node (atI (rstP x.P k done state) m).Key (w + 1) by unfold nxtQ; rw [decide_eq_false hl]; rfl]
        exact ih (i + 1) _ (w + 1) (by omega) (by omega) (step_dn b.mv hd b.st hm (by omega)) (by omega)
    · rw [decide_eq_false (show ¬ (i : Int) < ((x.Sizes.length : Nat) : Int) by omega), cond_false]
      exact hJ w done hd (by omega)

theorem plain_MigrateReturns (x0 : TMove) (x1 : List TPair) (o0 : okTMove x0) (o1 : (okL okTPair) x1) : F_clockworklaw33_MigrateReturns x0 x1 = some true := by
  have hp := okMove o0
  have hs := okPr o1
  unfold F_clockworklaw33_MigrateReturns
  rcases begun_eq hp hs with ⟨p, l, e⟩ | ⟨k, b, e⟩
  · refine bnd_eq e ?_
    exact bnd_eq works_true rfl
  · refine bnd_eq e ?_
    have hpl := b.pl
    have hsl := b.sl
    have hzl := b.zl
    have hv0 := b.mv.pv.ver
    have hver := b.mv.ver
    refine cond_eq_f rfl ?_
    rw [jn_mk]
    refine returns_loop hp hs b ?_ (((x0.Sizes.length : Nat) : Int).toNat + 1) 0 (ap x0.P.Parts k).From (x0.P.Version + 1) (by omega) (by omega) (dn_from b.mv) (by omega)
    intro w done hd hw
    have hlen : (mpl x0.P k x0.Node done w).Parts.length ≤ 1000 := by
      show (x0.P.Parts.set k (mX x0.P k x0.Node done)).length ≤ 1000
      rw [List.length_set]; omega
    have hc := cancel_m b.mv hd (w := w) (by omega) b.st
    rw [b.id] at hc
    have hpo : POk (⟨w + 1, x0.P.Parts⟩ : TPlacement) := ⟨hp.l, hp.s⟩
    have hpv : pvB (⟨w + 1, x0.P.Parts⟩ : TPlacement) = true := by
      have := epl_v b.mv (b.mv.pv.node k b.mv.k) (w := w + 1) (by omega)
      rw [epl_back b.mv] at this
      exact this
    have hlv : loadP (⟨w + 1, x0.P.Parts⟩ : TPlacement) x1 = loadP (⟨x0.P.Version, x0.P.Parts⟩ : TPlacement) x1 := load_ver hpv b.mv.v x1
    refine bnd_eq ((cancel_impl (mpl_ok hp b.mv.k (bound_len hd.b) w) hlen (load_ok _ hs (by omega)) _).trans (congrArg some hc)) ?_
    rw [show IntKind.i64.wrap ((mpl x0.P k x0.Node done w).Version + 1) = w + 1 from w64 (by show -9223372036854775808 ≤ w + 1; omega) (by show w + 1 ≤ 9223372036854775807; omega)]
    refine bnd_eq (gcall_eq rfl (same29_self hp.l)) ?_
    refine bnd_eq (gcall_eq rfl (load_ref (p := ⟨x0.P.Version, x0.P.Parts⟩) hp hs (by omega))) ?_
    rw [← hlv]
    refine bnd_eq (gcall_eq rfl (shards_self (Nat.lt_of_le_of_lt (load_len _ _).1 (by decide)) (fun s hm => by have := (load_len _ _).2 s hm; omega))) ?_
    exact bnd_eq (gcall_eq rfl works_true) rfl

/-! ### The owners of keys -/

theorem own_beg (h : MV P k node) (hv0 : 0 ≤ P.Version) (key : Str) : ownerP (mpl P k node (ap P.Parts k).From (P.Version + 1)) key = ownerP P key := by
  have hver := h.ver
  obtain ⟨i, _, hi⟩ := index_in h.pv key
  rw [own_m h (dn_from h) (by omega) hi]
  split
  · rename_i e
    subst e
    rw [if_neg (by rw [hi.lo]; simp), owner_of h.pv hi, partOwner, h.d]
    simp
  · rfl

theorem owners_loop {x : TMove} {state : List TPair} (hp : POk x.P) (hs : PrOk state) {k : Nat} (b : Beg x state k) (key : Str) {J : Option Bool} (hJ : J = some true) : ∀ n (i : Nat) (done : Str) (w : Int), i ≤ x.Sizes.length → x.Sizes.length < n + i → DnOk x.P k done → w = x.P.Version + 1 + (i : Int) →
    F_clockworklaw33_MigrateOwners_L1 x key J n (mpl x.P k x.Node done w) (loadP (mpl x.P k x.Node done w) state) (i : Int) = some true := by
  have hv0 := b.mv.pv.ver
  have hver := b.mv.ver
  have hz := b.zl
  have hfk : findP x.P.Parts x.Id = (k : Int) := by rw [← b.id]; exact findP_of b.mv.pv b.mv.k
  intro n
  induction n with
  | zero => intro i _ _ hi hn; omega
  | succ n ih =>
    intro i done w hi hn hd hw
    rw [F_clockworklaw33_MigrateOwners_L1]
    rcases Nat.lt_or_ge i x.Sizes.length with hlt | hge
    · rw [decide_eq_true (show (i : Int) < ((x.Sizes.length : Nat) : Int) by omega), cond_true, req_pos ⟨by omega, by omega⟩]
      have hm : 1 ≤ max (atI x.Sizes (i : Int)) 1 := by omega
      generalize max (atI x.Sizes (i : Int)) 1 = m at hm
      refine bnd_eq (step_impl hp b.pl b.mv hd (w := w) (by omega) hs b.st b.sl hm b.id) ?_
      obtain ⟨c1, c2, c3⟩ := c_to (mX x.P k x.Node done) ⟨done, nextF x.P.Parts k⟩ (rstP x.P k done state) m
      have hck := c_keys (mX x.P k x.Node done) x.P k done state m
      have hcl := c_last (mX x.P k x.Node done) ⟨done, nextF x.P.Parts k⟩ (rstP x.P k done state) m
      have hvr := (step_rng (node := x.Node) b.mv hd b.st hm).1
      obtain ⟨o1, o2⟩ := step_own b.mv hd (w := w) (by omega) b.st hm key
      have c1 : (nxtC (mX x.P k x.Node done) ⟨done, nextF x.P.Parts k⟩ (rstP x.P k done state) m).To = x.Node := c1
      have c2 : (nxtC (mX x.P k x.Node done) ⟨done, nextF x.P.Parts k⟩ (rstP x.P k done state) m).From = (ap x.P.Parts k).Node := c2
      have c3 : (nxtC (mX x.P k x.Node done) ⟨done, nextF x.P.Parts k⟩ (rstP x.P k done state) m).Part = x.Id := c3.trans b.id
      generalize nxtC (mX x.P k x.Node done) ⟨done, nextF x.P.Parts k⟩ (rstP x.P k done state) m = c at c1 c2 c3 hck hcl ⊢
      refine bnd_eq (gcall_eq ?_ (part_eq (p := ⟨x.P.Version, x.P.Parts⟩) hp.l hfk b.mv.k)) ?_
      · show (((((0 : Int) != 0) || (c.Part != x.Id)) || (c.To != x.Node)) == false) = true
        rw [c1, c3]; simp
      refine cond_eq_f ?_ ?_
      · show (((((0 : Int) != 0) || (c.Part != x.Id)) || (c.To != x.Node)) || (c.From != (ap x.P.Parts k).Node)) = false
        rw [c1, c2, c3]; simp
      have hmo := mpl_ok (node := x.Node) hp b.mv.k (bound_len hd.b) w
      have hqo := nxtQ_ok (node := x.Node) hp b.mv hd w b.st hm
      refine bnd_eq (owner_ref hmo.l hmo.s) ?_
      refine bnd_eq (owner_ref hqo.l hqo.s) ?_
      rw [jn_mk]
      have hnext : cond c.Last (bnd F_clockworklaw33_works fun x104 => some x104) (F_clockworklaw33_MigrateOwners_L1 x key J n (nxtQ x.P k x.Node done w state m) (loadP (nxtQ x.P k x.Node done w state m) state) (IntKind.i64.wrap ((i : Int) + 1))) = some true := by
        rw [hcl, wrap_succ (by omega)]
        by_cases hl : (((rstP x.P k done state).length : Nat) : Int) ≤ m
        · rw [decide_eq_true hl, cond_true]; exact bnd_eq works_true rfl
        · rw [decide_eq_false hl, cond_false, show nxtQ x.P k x.Node done w state m = mpl x.P k x.Node (atI (rstP x.P k done state) m).Key (w + 1) by unfold nxtQ; rw [decide_eq_false hl]; rfl]
          exact ih (i + 1) _ (w + 1) (by omega) (by omega) (step_dn b.mv hd b.st hm (by omega)) (by omega)
      have hcond : ((!sLt key c.Keys.From) && ((c.Keys.To == ([] : Str)) || (sLt key c.Keys.To))) = ctB (nxtR x.P k done state m) key := by
        unfold ctB
        rw [hvr, hck, Bool.true_and]
      show cond ((!sLt key c.Keys.From) && ((c.Keys.To == ([] : Str)) || (sLt key c.Keys.To))) (cond ((ownerP (mpl x.P k x.Node done w) key != c.From) || (ownerP (nxtQ x.P k x.Node done w state m) key != c.To)) (some false) _) (cond (ownerP (mpl x.P k x.Node done w) key != ownerP (nxtQ x.P k x.Node done w state m) key) (some false) _) = some true
      rw [hcond]
      cases hct : ctB (nxtR x.P k done state m) key with
      | true =>
        rw [cond_true, (o1 hct).1, (o1 hct).2, c1, c2]
        refine cond_eq_f (by simp) ?_
        exact hnext
      | false =>
        rw [cond_false, o2 hct]
        refine cond_eq_f (by simp) ?_
        exact hnext
    · rw [decide_eq_false (show ¬ (i : Int) < ((x.Sizes.length : Nat) : Int) by omega), cond_false]
      exact hJ

theorem plain_MigrateOwners (x0 : TMove) (x1 : List TPair) (x2 : Str) (o0 : okTMove x0) (o1 : (okL okTPair) x1) (o2 : okS x2) : F_clockworklaw33_MigrateOwners x0 x1 x2 = some true := by
  have hp := okMove o0
  have hs := okPr o1
  unfold F_clockworklaw33_MigrateOwners
  rcases begun_eq hp hs with ⟨p, l, e⟩ | ⟨k, b, e⟩
  · refine bnd_eq e ?_
    exact bnd_eq works_true rfl
  · refine bnd_eq e ?_
    have hv0 := b.mv.pv.ver
    have hver := b.mv.ver
    have hbo : POk (begP x0 k) := mpl_ok hp b.mv.k (hp.s _ (ap_mem b.mv.k)).1 _
    show cond (false || decide ((100 : Int) < (x2.length : Int))) _ _ = some true
    cases decide ((100 : Int) < (x2.length : Int)) with
    | true => exact bnd_eq works_true rfl
    | false =>
      refine cond_eq_f rfl ?_
      refine bnd_eq (owner_ref hbo.l hbo.s) ?_
      refine bnd_eq (owner_ref (p := ⟨x0.P.Version, x0.P.Parts⟩) hp.l hp.s) ?_
      refine cond_eq_f ?_ ?_
      · rw [show ownerP (⟨x0.P.Version, x0.P.Parts⟩ : TPlacement) x2 = ownerP x0.P x2 from rfl, begP, own_beg b.mv hv0.1]; simp
      rw [jn_mk]
      exact owners_loop hp hs b x2 (bnd_eq works_true rfl) (((x0.Sizes.length : Nat) : Int).toNat + 1) 0 (ap x0.P.Parts k).From (x0.P.Version + 1) (by omega) (by omega) (dn_from b.mv) (by omega)

end Go.Proofs.Ytedbagekceppiaa
