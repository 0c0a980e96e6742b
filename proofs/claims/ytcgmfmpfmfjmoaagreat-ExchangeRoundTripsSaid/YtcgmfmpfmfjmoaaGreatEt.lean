/-
  Chapter 31, plain texts: the mails of all participants hold the state restricted to the reads.
  Conditions: none.
-/
import Derived.Test.YtcgmfmpfmfjmoaaGreatEs
set_option linter.all false
namespace Go.Proofs.YtcgmfmpfmfjmoaaGreat

theorem sta_filter {l : List TPair} (h : staB l = true) (g : TPair → Bool) : staB (l.filter g) = true := by
  obtain ⟨h1, h2⟩ := sta_iff.1 h
  exact sta_iff.2 ⟨fun x hx => h1 x (List.mem_filter.1 hx).1, List.Pairwise.filter _ h2⟩

theorem owner_node {p : TPlacement} (hv : pvB p = true) (k : Str) : ownerP p k ∈ nodesRefP p := by
  have hr := owner_rng hv k
  have hP := pv_iff.1 hv
  obtain ⟨i, e, hi⟩ := index_in hP k
  have hlt : i < p.Parts.length := by
    have := indexP_bd (p := p) (key := k) (by rw [e]; omega)
    rw [e] at this; omega
  rw [nodesRefP, if_pos hv, pickN_mem]
  refine ⟨by omega, by omega, (hasN_iff _ _ _).2 ⟨i, hlt, ?_⟩⟩
  rw [owner_of hP hi, partOwner]
  split
  · exact .inr rfl
  · exact .inl rfl

variable {p : TPlacement} {f : TFootprint}

theorem nodes30_sub (hv : v30 p f = true) {x : Int} (h : x ∈ nodes30 p f) : x ∈ nodesRefP p := by
  have hpv := (v30_parts hv).1
  unfold nodes30 at h
  rw [if_pos hv] at h
  split at h
  · exact h
  · obtain ⟨k, _, rfl⟩ := (ownersP_mem hpv).1 h
    exact owner_node hpv k

theorem nodesRef_asc (hv : pvB p = true) : ascI (nodesRefP p) := by
  rw [nodesRefP, if_pos hv]; exact pickN_asc _ _

/-- What a node owns of a state. -/
def shP (p : TPlacement) (state : List TPair) (nd : Int) : TShard := ⟨nd, state.filter fun x => ownerP p x.Key == nd⟩

theorem shP_ok {state : List TPair} (h : PrOk state) (nd : Int) : PrOk (shP p state nd).Pairs := h.sub (Nat.lt_of_le_of_lt (List.length_filter_le _ _) h.l) (fun x hx => (List.mem_filter.1 hx).1)

/-- The mails of a participant. -/
def outP (p : TPlacement) (state : List TPair) (txn : Int) (f : TFootprint) (nd : Int) : List TMail := (exec30 p f).map (mailP p (shP p state nd) txn f)

theorem send_shard (hv : v30 p f = true) {state : List TPair} (hst : staB state = true) (txn nd : Int) : sendP p (shP p state nd) txn f = if nd ∈ nodes30 p f then outP p state txn f nd else [] := by
  unfold sendP
  rw [v31, hv, show staB (shP p state nd).Pairs = true from sta_filter hst _, Bool.and_self, Bool.true_and]
  by_cases h : nd ∈ nodes30 p f
  · rw [show ((nodes30 p f).any fun y => y == (shP p state nd).Node) = true from any_mem.2 h, if_pos h]; rfl
  · rw [if_neg h, show ((nodes30 p f).any fun y => y == (shP p state nd).Node) = false by rw [Bool.eq_false_iff]; intro e; exact h (any_mem.1 e)]
    rfl

theorem filt_sub {a b : List Int} (ha : ascI a) (hb : ascI b) (hs : ∀ x ∈ a, x ∈ b) : b.filter (fun x => decide (x ∈ a)) = a := by
  refine asc_ext (List.Pairwise.filter _ hb) ha fun x => ?_
  rw [List.mem_filter]
  simp only [decide_eq_true_eq]
  exact ⟨fun h => h.2, fun h => ⟨hs x h, h⟩⟩

theorem flatMap_if {a b : List Int} (ha : ascI a) (hb : ascI b) (hs : ∀ x ∈ a, x ∈ b) (G : Int → List TMail) : b.flatMap (fun x => if x ∈ a then G x else []) = a.flatMap G := by
  have h : ∀ b : List Int, b.flatMap (fun x => if x ∈ a then G x else []) = (b.filter (fun x => decide (x ∈ a))).flatMap G := by
    intro b
    induction b with
    | nil => rfl
    | cons x b ih =>
      rw [List.flatMap_cons, ih]
      by_cases hx : x ∈ a
      · rw [if_pos hx, List.filter_cons_of_pos (by simpa using hx), List.flatMap_cons]
      · rw [if_neg hx, List.filter_cons_of_neg (by simpa using hx)]; rfl
  rw [h, filt_sub ha hb hs]

/-- All mails of a transaction. -/
def allP (p : TPlacement) (state : List TPair) (txn : Int) (f : TFootprint) : List TMail := (nodes30 p f).flatMap (outP p state txn f)
def someP (p : TPlacement) (state : List TPair) (txn : Int) (f : TFootprint) (missing : Int) : List TMail := ((nodes30 p f).filter fun x => x != missing).flatMap (outP p state txn f)

theorem flat_len (G : Int → List TMail) (m : Nat) : ∀ (l : List Int), (∀ x ∈ l, (G x).length = m) → (l.flatMap G).length = l.length * m
  | [], _ => by simp
  | x :: l, h => by
    rw [List.flatMap_cons, List.length_append, flat_len G m l (fun y hy => h y (by simp [hy])), h x (by simp), List.length_cons, Nat.succ_mul]
    omega

theorem all_len {state : List TPair} {txn : Int} : (allP p state txn f).length = (nodes30 p f).length * (exec30 p f).length :=
  flat_len _ _ _ fun x _ => by simp [outP]

theorem some_len {state : List TPair} {txn m : Int} : (someP p state txn f m).length = ((nodes30 p f).filter fun x => x != m).length * (exec30 p f).length :=
  flat_len _ _ _ fun x _ => by simp [outP]

theorem complete_all (hv : v30 p f = true) {state : List TPair} {txn to : Int} (hto : to ∈ exec30 p f) : cplP p f txn to (allP p state txn f) = true := by
  rw [cplP, hv, Bool.true_and, List.all_eq_true]
  intro fr hfr
  rw [List.any_eq_true]
  refine ⟨mailP p (shP p state fr) txn f to, List.mem_flatMap.2 ⟨fr, hfr, List.mem_map.2 ⟨to, hto, rfl⟩⟩, ?_⟩
  simp [mailP, shP]

theorem complete_some (hv : v30 p f = true) {state : List TPair} {txn to m : Int} (hto : to ∈ exec30 p f) : cplP p f txn to (someP p state txn f m) = !((nodes30 p f).any fun y => y == m) := by
  rw [cplP, hv, Bool.true_and]
  cases h : (nodes30 p f).any fun y => y == m with
  | false =>
    rw [Bool.not_false, List.all_eq_true]
    intro fr hfr
    rw [List.any_eq_true]
    refine ⟨mailP p (shP p state fr) txn f to, List.mem_flatMap.2 ⟨fr, List.mem_filter.2 ⟨hfr, ?_⟩, List.mem_map.2 ⟨to, hto, rfl⟩⟩, ?_⟩
    · have := List.any_eq_false.1 h fr hfr
      simpa using this
    · simp [mailP, shP]
  | true =>
    have hm := any_mem.1 h
    rw [Bool.not_true, List.all_eq_false]
    refine ⟨m, hm, ?_⟩
    rw [Bool.not_eq_true, List.any_eq_false]
    intro x hx e
    obtain ⟨nd, hnd, hx⟩ := List.mem_flatMap.1 hx
    obtain ⟨t, _, rfl⟩ := List.mem_map.1 hx
    have hne := (List.mem_filter.1 hnd).2
    simp only [mailP, shP, Bool.and_eq_true, beq_iff_eq] at e
    rw [e.1.2] at hne
    simp at hne

/-! ### What one node collects of all the mails -/

theorem fold_mine_filter (txn node : Int) : ∀ (l out : List TMail), (out ++ l.filter fun m => (m.Txn == txn) && (m.To == node)).Nodup →
    l.foldl (fun out m => cond (((m.Txn == txn) && (m.To == node)) && !(out.any fun x => mailEq x m)) (out ++ [m]) out) out = out ++ l.filter fun m => (m.Txn == txn) && (m.To == node)
  | [], out, _ => by simp
  | m :: l, out, h => by
    rw [List.foldl_cons]
    cases hc : (m.Txn == txn) && (m.To == node) with
    | false =>
      rw [List.filter_cons_of_neg (by simpa using hc)] at h ⊢
      rw [Bool.false_and, cond_false]
      exact fold_mine_filter txn node l out h
    | true =>
      rw [List.filter_cons_of_pos (by simpa using hc)] at h ⊢
      have hno : (out.any fun x => mailEq x m) = false := by
        rw [List.any_eq_false]
        intro x hx e
        have e := (mailEq_iff x m).1 e
        subst e
        rw [List.nodup_append] at h
        exact h.2.2 x hx x (by simp) rfl
      rw [hno, Bool.not_false, Bool.and_self, cond_true, fold_mine_filter txn node l (out ++ [m]) (by rw [List.append_assoc, List.singleton_append]; exact h)]
      simp

theorem asc_pick {l : List Int} (h : ascI l) {x : Int} (hx : x ∈ l) : l.filter (fun y => y == x) = [x] := by
  refine asc_ext (List.Pairwise.filter _ h) (by simp) fun y => ?_
  rw [List.mem_filter, List.mem_singleton, beq_iff_eq]
  exact ⟨fun h => h.2, fun h => ⟨by rw [h]; exact hx, h⟩⟩

theorem mine_all (hv : v30 p f = true) {state : List TPair} {txn to : Int} (hto : to ∈ exec30 p f) : mine txn to (allP p state txn f) = (nodes30 p f).map fun nd => mailP p (shP p state nd) txn f to := by
  have hf : (allP p state txn f).filter (fun m => (m.Txn == txn) && (m.To == to)) = (nodes30 p f).map fun nd => mailP p (shP p state nd) txn f to := by
    unfold allP
    have h1 : ∀ nd, (outP p state txn f nd).filter (fun m => (m.Txn == txn) && (m.To == to)) = [mailP p (shP p state nd) txn f to] := fun nd => by
      rw [outP, List.filter_map]
      rw [show ((fun m : TMail => (m.Txn == txn) && (m.To == to)) ∘ mailP p (shP p state nd) txn f) = fun y => y == to from funext fun y => by simp [mailP]]
      rw [asc_pick exec30_asc hto]; rfl
    have h2 : ∀ l : List Int, (l.flatMap (outP p state txn f)).filter (fun m => (m.Txn == txn) && (m.To == to)) = l.map fun nd => mailP p (shP p state nd) txn f to := by
      intro l
      induction l with
      | nil => rfl
      | cons x l ih => rw [List.flatMap_cons, List.filter_append, ih, h1, List.map_cons]; rfl
    exact h2 _
  rw [mine, fold_mine_filter txn to _ [] ?_, List.nil_append, hf]
  rw [List.nil_append, hf]
  have := nodes30_asc (p := p) (f := f)
  unfold List.Nodup
  rw [List.pairwise_map]
  exact List.Pairwise.imp (fun {a b} h e => by
    have := congrArg TMail.From e
    simp only [mailP, shP] at this
    omega) this

/-- The pairs of a state that are read. -/
def wantP (f : TFootprint) (state : List TPair) : List TPair := state.filter fun x => f.All || f.Reads.any fun y => y == x.Key

/-- What is read of a state, and is owned by one of these nodes. -/
def partP (p : TPlacement) (f : TFootprint) (state : List TPair) (nodes : List Int) : List TPair := (wantP f state).filter fun x => nodes.any fun y => y == ownerP p x.Key

theorem local_shard (hv : v30 p f = true) {state : List TPair} (hst : staB state = true) (nd : Int) : localP p (shP p state nd) f = (wantP f state).filter fun x => ownerP p x.Key == nd := by
  unfold localP
  rw [v31, hv, show staB (shP p state nd).Pairs = true from sta_filter hst _, Bool.and_self, cond_true]
  simp only [shP, wantP, List.filter_filter]
  congr 1
  funext x
  rw [Bool.and_comm]

theorem collect_all (hv : v30 p f = true) {state : List TPair} (hst : staB state = true) {txn to : Int} : ∀ (l seen : List Int), (seen ++ l).Nodup →
    clP (seen.map fun nd => mailP p (shP p state nd) txn f to) (partP p f state seen) (l.map fun nd => mailP p (shP p state nd) txn f to) = (partP p f state (seen ++ l), 0)
  | [], seen, _ => by simp [clP]
  | x :: l, seen, h => by
    rw [List.map_cons, clP]
    have hx : x ∉ seen := by
      intro hx
      rw [List.nodup_append] at h
      exact h.2.2 x hx x (by simp) rfl
    have h1 : ((seen.map fun nd => mailP p (shP p state nd) txn f to).any fun y => y.From == (mailP p (shP p state x) txn f to).From) = false := by
      rw [List.any_eq_false]
      intro y hy e
      obtain ⟨nd, hnd, rfl⟩ := List.mem_map.1 hy
      simp only [mailP, shP, beq_iff_eq] at e
      exact hx (by rw [← e]; exact hnd)
    have hw : staB (wantP f state) = true := sta_filter hst _
    have ha : staB (partP p f state seen) = true := sta_filter hw _
    have hb : staB (localP p (shP p state x) f) = true := by rw [local_shard hv hst]; exact sta_filter hw _
    have hk : kAsc (wantP f state) := (sta_iff.1 hw).2
    obtain ⟨g1, g2⟩ := mg_spec (sta_iff.1 ha).2 (sta_iff.1 hb).2
    have hd : (mg (partP p f state seen) (localP p (shP p state x) f)).2 = false := by
      rw [g1, List.any_eq_false]
      intro y hy e
      obtain ⟨z, hz, e⟩ := List.any_eq_true.1 e
      rw [local_shard hv hst] at hy
      obtain ⟨hy1, hy2⟩ := List.mem_filter.1 hy
      obtain ⟨hz1, hz2⟩ := List.mem_filter.1 hz
      have e := kasc_key hk hz1 hy1 (by simpa using e)
      subst e
      have hz2 := any_mem.1 (show (seen.any fun y => y == ownerP p z.Key) = true from hz2)
      rw [show ownerP p z.Key = x by simpa using hy2] at hz2
      exact hx hz2
    obtain ⟨g3, g4⟩ := g2 hd
    have hu : unionP (partP p f state seen) (localP p (shP p state x) f) = (partP p f state (seen ++ [x]), 0) := by
      rw [unionP, ha, hb, hd]
      show ((mg _ _).1, (0 : Int)) = _
      congr 1
      refine kasc_ext g3 (sta_iff.1 (sta_filter hw _)).2 fun y => ?_
      rw [g4, local_shard hv hst, partP, partP, List.mem_filter, List.mem_filter, List.mem_filter, ← and_or_left]
      simp [eq_comm (a := x)]
    rw [h1, cond_false, show (mailP p (shP p state x) txn f to).Pairs = localP p (shP p state x) f from rfl, hu]
    rw [show (((partP p f state (seen ++ [x]), (0 : Int))).2 != 0) = false from rfl, cond_false]
    have := collect_all hv hst (txn := txn) (to := to) l (seen ++ [x]) (by rw [List.append_assoc]; exact h)
    rw [List.map_append, List.append_assoc] at this
    exact this

theorem part_all (hv : v30 p f = true) (state : List TPair) : partP p f state (nodes30 p f) = wantP f state := by
  have hpv := (v30_parts hv).1
  unfold partP
  rw [List.filter_eq_self]
  intro x hx
  refine any_mem.2 ?_
  have hx := (List.mem_filter.1 hx).2
  rw [nodes30, if_pos hv]
  cases hA : f.All with
  | true => rw [if_pos rfl]; exact owner_node hpv _
  | false =>
    rw [if_neg (by simp), ownersP_mem hpv]
    rw [hA, Bool.false_or, List.any_eq_true] at hx
    obtain ⟨y, hy, e⟩ := hx
    exact ⟨y, by simp [hy], by rw [eq_of_beq e]⟩

theorem collect_eq (hv : v30 p f = true) {state : List TPair} (hst : staB state = true) {txn to : Int} (hto : to ∈ exec30 p f) (hn : 0 < (nodes30 p f).length) : collectP (mine txn to (allP p state txn f)) = (wantP f state, 0) := by
  rw [mine_all hv hto, collectP]
  have h1 : (((((nodes30 p f).map fun nd => mailP p (shP p state nd) txn f to).length : Nat) : Int) == 0) = false := by
    rw [beq_eq_false_iff_ne, List.length_map]; omega
  have h2 : (((nodes30 p f).map fun nd => mailP p (shP p state nd) txn f to).any fun m => !staB m.Pairs) = false := by
    rw [List.any_eq_false]
    intro y hy e
    obtain ⟨nd, _, rfl⟩ := List.mem_map.1 hy
    have : staB (localP p (shP p state nd) f) = true := by rw [local_shard hv hst]; exact sta_filter (sta_filter hst _) _
    rw [show (mailP p (shP p state nd) txn f to).Pairs = localP p (shP p state nd) f from rfl, this] at e
    simp at e
  rw [h1, h2, cond_false, cond_false]
  have := collect_all hv hst (txn := txn) (to := to) (nodes30 p f) [] (List.Pairwise.imp (fun h e => by omega) (nodes30_asc (p := p) (f := f)))
  rw [List.nil_append, part_all hv state] at this
  have e : partP p f state [] = [] := by simp [partP]
  rw [e] at this
  exact this

/-! ### The law -/

end Go.Proofs.YtcgmfmpfmfjmoaaGreat
