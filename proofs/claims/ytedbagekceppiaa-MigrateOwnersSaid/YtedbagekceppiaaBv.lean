/-
  Chapter 33, plain texts: moves begun, and continued to their ends.
  Conditions: none.
-/
import Derived.Test.YtedbagekceppiaaBu
set_option linter.all false
namespace Go.Proofs.Ytedbagekceppiaa

theorem noP_ok : POk noP := ⟨by decide, by simp [noP]⟩

theorem dn_from {P : TPlacement} {k : Nat} {node : Int} (h : MV P k node) : DnOk P k (ap P.Parts k).From :=
  ⟨h.pv.bnd k h.k, sLt_irrefl _, fun hk => h.pv.asc k hk⟩

/-- How a move begins. -/
structure Beg (x : TMove) (state : List TPair) (k : Nat) : Prop where
  mv : MV x.P k x.Node
  id : (ap x.P.Parts k).Id = x.Id
  st : staB state = true
  sl : state.length ≤ 60
  zl : x.Sizes.length ≤ 20
  pl : x.P.Parts.length ≤ 40

def begP (x : TMove) (k : Nat) : TPlacement := mpl x.P k x.Node (ap x.P.Parts k).From (x.P.Version + 1)

theorem okMove {x : TMove} (o : okTMove x) : POk x.P := okP33 o.1

theorem start_ok {P : TPlacement} {id node : Int} (h : (stP P id node).2 = 0) (hv : P.Version ≤ 1099511627746) : ∃ k, MV P k node ∧ (ap P.Parts k).Id = id ∧ (stP P id node).1 = mpl P k node (ap P.Parts k).From (P.Version + 1) := by
  unfold stP at h ⊢
  cases hc : ((!pvB P || decide (node < 1)) || decide (16 < node)) with
  | true => rw [hc] at h; simp at h
  | false =>
    rw [hc] at h
    rw [Bool.or_eq_false_iff, Bool.or_eq_false_iff, Bool.not_eq_false', decide_eq_false_iff_not, decide_eq_false_iff_not] at hc
    obtain ⟨⟨c1, c2⟩, c3⟩ := hc
    simp only [cond_false] at h ⊢
    have hver := (pv_iff.1 c1).ver
    by_cases h0 : findP P.Parts id < 0
    · rw [decide_eq_true h0] at h; simp at h
    · obtain ⟨k, e, hk⟩ := find_at h0
      rw [e, decide_eq_false (show ¬ (k : Int) < 0 by omega)] at h ⊢
      simp only [cond_false] at h ⊢
      cases hd : (((atI P.Parts (k : Int)).Dest != 0) || ((atI P.Parts (k : Int)).Node == node)) with
      | true => rw [hd] at h; simp at h
      | false =>
        rw [hd] at h
        rw [Bool.or_eq_false_iff, bne_eq_false_iff_eq, beq_eq_false_iff_ne] at hd
        cases hm : (P.Version == 1099511627776) with
        | true => rw [hm] at h; simp at h
        | false =>
          refine ⟨k, ⟨c1, hk, hd.1, hd.2, by omega, hv⟩, (findP_spec e).2, ?_⟩
          simp only [cond_false]
          unfold chP mpl mX
          rw [show IntKind.i64.wrap (P.Version + 1) = P.Version + 1 from w64 (by omega) (by omega), Int.toNat_natCast]
          rfl

theorem st_cases (p : TPlacement) (id node : Int) : (stP p id node).2 = 0 ∨ (stP p id node).1 = noP := by
  unfold stP
  cases ((!pvB p || decide (node < 1)) || decide (16 < node)) with
  | true => exact .inr rfl
  | false =>
    cases decide (findP p.Parts id < 0) with
    | true => exact .inr rfl
    | false =>
      cases (((atI p.Parts (findP p.Parts id)).Dest != 0) || ((atI p.Parts (findP p.Parts id)).Node == node)) with
      | true => exact .inr rfl
      | false =>
        cases (p.Version == 1099511627776) with
        | true => exact .inr rfl
        | false => exact .inl rfl

theorem begun_eq {x : TMove} {state : List TPair} (hp : POk x.P) (hs : PrOk state) : (∃ p l, F_clockworklaw33_begun x state = some (p, l, false)) ∨ ∃ k, Beg x state k ∧ F_clockworklaw33_begun x state = some (begP x k, loadP (begP x k) state, true) := by
  unfold F_clockworklaw33_begun
  obtain ⟨b, e, hb⟩ := few_eq (p := x.P) (l := []) (by simp)
  rw [show (⟨x.P.Version, x.P.Parts⟩ : TPlacement) = x.P from rfl, e, bnd_mk, svalid_ref hs, valid29_ref hp.l hp.s]
  cases b with
  | false => exact .inl ⟨_, _, rfl⟩
  | true =>
    have hpl := (hb rfl).1
    simp only [Bool.not_true, Bool.false_or]
    by_cases h1 : (60 : Int) < ((state.length : Nat) : Int)
    · rw [decide_eq_true h1]; exact .inl ⟨_, _, rfl⟩
    rw [decide_eq_false h1]
    by_cases h2 : (20 : Int) < ((x.Sizes.length : Nat) : Int)
    · rw [decide_eq_true h2]; exact .inl ⟨_, _, rfl⟩
    rw [decide_eq_false h2]
    simp only [Bool.or_self, BEq.rfl, gcall_t, bnd_mk, Bool.false_or]
    cases h3 : staB state with
    | false => exact .inl ⟨_, _, rfl⟩
    | true =>
      simp only [Bool.not_true, BEq.rfl, gcall_t, bnd_mk, Bool.false_or]
      cases h4 : pvB x.P with
      | false => exact .inl ⟨_, _, rfl⟩
      | true =>
        simp only [Bool.not_true, Bool.false_or]
        by_cases h5 : (1099511627746 : Int) < x.P.Version
        · rw [decide_eq_true h5]; exact .inl ⟨_, _, rfl⟩
        rw [decide_eq_false h5, cond_false, start_ref hp (by omega), bnd_mk]
        by_cases h6 : (stP x.P x.Id x.Node).2 = 0
        · obtain ⟨k, m1, m2, m3⟩ := start_ok h6 (by omega)
          have hpo : POk (stP x.P x.Id x.Node).1 := by
            rw [m3]; exact mpl_ok hp m1.k (hp.s _ (ap_mem m1.k)).1 _
          rw [load_ref hpo hs (by omega), bnd_mk, h6, m3]
          exact .inr ⟨k, ⟨m1, m2, h3, by omega, by omega, hpl⟩, rfl⟩
        · have hpo : POk (stP x.P x.Id x.Node).1 := by
            have : (stP x.P x.Id x.Node).1 = noP := by
              rcases st_cases x.P x.Id x.Node with e | e
              · exact absurd e h6
              · exact e
            rw [this]; exact noP_ok
          rw [load_ref hpo hs (by omega), bnd_mk, show ((stP x.P x.Id x.Node).2 == 0) = false by simpa using h6]
          exact .inl ⟨_, _, rfl⟩

theorem part_eq {p : TPlacement} (hl : p.Parts.length < big) {id : Int} {k : Nat} (h : findP p.Parts id = (k : Int)) (hk : k < p.Parts.length) : F_clockworklaw33_part p id = some (ap p.Parts k) := by
  unfold F_clockworklaw33_part
  rw [find_ref hl, bnd_mk, h, decide_eq_false (show ¬ (k : Int) < 0 by omega), cond_false, req_pos ⟨by omega, by omega⟩]
  rfl

/-- The first element that meets a test. -/
theorem loopFind {α : Type} {l : List α} (hl : l.length < 9223372036854775808) {L : Nat → Int → Option α} {q : α → Bool} {d : α}
    (h1 : ∀ n (i : Nat) (h : i < l.length), L (n + 1) (i : Int) = cond (q l[i]) (some l[i]) (L n (IntKind.i64.wrap ((i : Int) + 1))))
    (h0 : ∀ n, L (n + 1) (l.length : Int) = some d) : ∀ n i, i ≤ l.length → l.length - i < n → L n (i : Int) = some (((l.drop i).find? q).getD d) := by
  intro n
  induction n with
  | zero => intro i _ h; omega
  | succ n ih =>
    intro i hi hn
    rcases Nat.lt_or_ge i l.length with h | h
    · rw [h1 n i h, wrap_succ (by omega), List.drop_eq_getElem_cons h, List.find?_cons]
      cases hq : q l[i] with
      | true => simp
      | false => rw [cond_false, ih (i + 1) (by omega) (by omega)]
    · have : i = l.length := by omega
      subst this
      rw [h0]; simp

theorem at_eq {p : TPlacement} (hv : pvB p = true) {state : List TPair} (hst : staB state = true) {node : Int} (hn : node ∈ nodesRefP p) : F_clockworklaw33_at (loadP p state) node = some (shP p state node) := by
  unfold F_clockworklaw33_at
  simp only [jn_mk]
  have hl := (load_len p state).1
  have := loopFind (l := loadP p state) (by omega) (L := fun n i => F_clockworklaw33_at_L1 (loadP p state) node (fun _ => some ⟨node, []⟩) n default i) (q := fun s => s.Node == node) (d := ⟨node, []⟩) ?_ ?_ ((((loadP p state).length : Nat) : Int).toNat + 1) 0 (by omega) (by omega)
  · refine (show _ = _ from this).trans ?_
    rw [List.drop_zero, loadP, hv, hst, Bool.and_self, if_pos rfl, List.find?_map]
    have : (nodesRefP p).find? ((fun s : TShard => s.Node == node) ∘ shP p state) = some node := by
      rw [show ((fun s : TShard => s.Node == node) ∘ shP p state) = fun x => x == node from rfl]
      have key : ∀ l : List Int, node ∈ l → l.find? (fun x => x == node) = some node := by
        intro l
        induction l with
        | nil => intro h; simp at h
        | cons x l ih =>
          intro h
          rw [List.find?_cons]
          cases hx : x == node with
          | true => simp only [beq_iff_eq] at hx; rw [hx]
          | false =>
            rcases List.mem_cons.1 h with h | h
            · rw [h] at hx; simp at hx
            · exact ih h
      exact key _ hn
    rw [this]; rfl
  · intro n i hi
    try dsimp only
    rw [F_clockworklaw33_at_L1]
    simp only [show (i : Int) < ((loadP p state).length : Int) by omega, decide_true, cond_true, show 0 ≤ (i : Int) by omega, and_self, req_t, atI_nat hi]
  · intro n
    try dsimp only
    rw [F_clockworklaw33_at_L1]
    simp

variable {P : TPlacement} {k : Nat} {node : Int}

theorem find_e (h : MV P k node) {nd : Int} (hnd : 1 ≤ nd ∧ nd ≤ 16) {w : Int} (hw : 0 ≤ w ∧ w ≤ 1099511627776) : findP (epl P k nd w).Parts (ap P.Parts k).Id = (k : Int) := by
  have hpv := epl_pv h hnd hw
  have hlen : k < (P.Parts.set k (eX P k nd)).length := by rw [List.length_set]; exact h.k
  have := findP_of hpv hlen
  rw [show ap (P.Parts.set k (eX P k nd)) k = eX P k nd by rw [ap_set h.k, if_pos rfl]] at this
  exact this

theorem ap_e (h : MV P k node) (nd w : Int) : ap (epl P k nd w).Parts k = eX P k nd := by
  show ap (P.Parts.set k (eX P k nd)) k = _
  rw [ap_set h.k, if_pos rfl]

theorem ap_m (h : MV P k node) (done : Str) (w : Int) : ap (mpl P k node done w).Parts k = mX P k node done := by
  show ap (P.Parts.set k (mX P k node done)) k = _
  rw [ap_set h.k, if_pos rfl]

/-- A chunk by the program. -/
theorem step_impl (hp : POk P) (hpl : P.Parts.length ≤ 40) (h : MV P k node) {done : Str} (hd : DnOk P k done) {w : Int} (hw : 0 ≤ w ∧ w < 1099511627776) {state : List TPair} (hs : PrOk state) (hst : staB state = true) (hl : state.length ≤ 60) {n : Int} (hn : 1 ≤ n) {id : Int} (hid : (ap P.Parts k).Id = id) :
    F_migrate_Chunk (mpl P k node done w) (loadP (mpl P k node done w) state) id n = some (nxtQ P k node done w state n, loadP (nxtQ P k node done w state n) state, nxtC (mX P k node done) ⟨done, nextF P.Parts k⟩ (rstP P k done state) n, 0) := by
  have hlen : (mpl P k node done w).Parts.length ≤ 1000 := by
    show (P.Parts.set k (mX P k node done)).length ≤ 1000
    rw [List.length_set]; omega
  rw [chunk_impl (mpl_ok hp h.k (bound_len hd.b) w) hlen (load_ok _ hs (by omega)), ← hid, step_ck h hd hw hst hn]

theorem pick_n (sizes : List Int) (i : Nat) : 1 ≤ (if i < sizes.length then max (atI sizes (i : Int)) 1 else 60) := by
  split <;> omega

theorem c_last (x : TPart) (r : TRange) (rest : List TPair) (n : Int) : (nxtC x r rest n).Last = decide (((rest.length : Nat) : Int) ≤ n) := by
  unfold nxtC
  cases decide (((rest.length : Nat) : Int) ≤ n) <;> rfl

theorem rst_len (P : TPlacement) (k : Nat) (done : Str) (state : List TPair) : (rstP P k done state).length ≤ state.length := List.length_filter_le _ _

end Go.Proofs.Ytedbagekceppiaa
