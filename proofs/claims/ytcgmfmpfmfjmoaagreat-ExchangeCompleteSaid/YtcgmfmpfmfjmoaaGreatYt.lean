/-
  Chapter 31, plain texts: the mails of all participants hold the state restricted to the reads.
  Conditions: none.
-/
import Derived.Test.YtcgmfmpfmfjmoaaGreatYs
set_option linter.all false
namespace Go.Proofs.YtcgmfmpfmfjmoaaGreat

theorem sta_filter {l : List TPair} (h : staB l = true) (g : TPair → Bool) : staB (l.filter g) = true := by
  obtain ⟨h1, h2⟩ := sta_iff.1 h
  exact sta_iff.2 ⟨fun x hx => h1 x (List.mem_filter.1 hx).1, List.Pairwise.filter _ h2⟩

theorem owner_node {p : TPlacement} (hv : pvB p = true) (k : Str) : ownerP p k ∈ nodesRefP p := by
  have hr := owner_rng hv k
  have hP := pv_iff.1 hv
  obtain ⟨i, e, hi⟩ := index_in hP k
  have hlt : i < p.Parts.length := by
    have := indexP_bd (p := p) (key := k) (by rw [e]; omega)
    rw [e] at this; omega
  rw [nodesRefP, if_pos hv, pickN_mem]
  refine ⟨by omega, by omega, (hasN_iff _ _ _).2 ⟨i, hlt, ?_⟩⟩
  rw [owner_of hP hi, partOwner]
  split
  · exact .inr rfl
  · exact .inl rfl

variable {p : TPlacement} {f : TFootprint}

theorem nodes30_sub (hv : v30 p f = true) {x : Int} (h : x ∈ nodes30 p f) : x ∈ nodesRefP p := by
  have hpv := (v30_parts hv).1
  unfold nodes30 at h
  rw [if_pos hv] at h
  split at h
  · exact h
  · obtain ⟨k, _, rfl⟩ := (ownersP_mem hpv).1 h
    exact owner_node hpv k

theorem nodesRef_asc (hv : pvB p = true) : ascI (nodesRefP p) := by
  rw [nodesRefP, if_pos hv]; exact pickN_asc _ _

/-- What a node owns of a state. -/
def shP (p : TPlacement) (state : List TPair) (nd : Int) : TShard := ⟨nd, state.filter fun x => ownerP p x.Key == nd⟩

theorem shP_ok {state : List TPair} (h : PrOk state) (nd : Int) : PrOk (shP p state nd).Pairs := h.sub (Nat.lt_of_le_of_lt (List.length_filter_le _ _) h.l) (fun x hx => (List.mem_filter.1 hx).1)

theorem shards_eq (hp : POk p) {state : List TPair} (hs : PrOk state) (hl : state.length ≤ 1000) : F_clockworkref31_Shards p state = some ((nodesRefP p).map (shP p state)) := by
  unfold F_clockworkref31_Shards
  rw [nodes_ref hp.l hp.s]
  have hn := nodesRef_len p
  simp only [bnd_mk, jn_mk]
  refine loopMap (l := nodesRefP p) (by omega) (L := fun n a i => F_clockworkref31_Shards_L1 (nodesRefP p) state p (fun x12 => some x12) n a i) (J := fun x12 => some x12) (g := shP p state) ?_ ?_ (n := (((nodesRefP p).length : Nat) : Int).toNat + 1) (by omega)
  · intro n i acc hi hacc
    try dsimp only
    rw [F_clockworkref31_Shards_L1]
    simp only [show (i : Int) < ((nodesRefP p).length : Int) by omega, decide_true, cond_true, show 0 ≤ (i : Int) by omega, and_self, req_t, atI_nat hi, jn_mk]
    have hL2 : ∀ (J : List TShard → List TPair → Option (List TShard)), F_clockworkref31_Shards_L2 state (i : Int) (nodesRefP p) p J (((state.length : Nat) : Int).toNat + 1) acc [] 0 = J acc (state.filter fun x => ownerP p x.Key == (nodesRefP p)[i]) := by
      intro J
      refine loopFilter (l := state) hs.l (L := fun n a k => F_clockworkref31_Shards_L2 state (i : Int) (nodesRefP p) p J n acc a k) (J := fun a => J acc a) (p := fun x => ownerP p x.Key == (nodesRefP p)[i]) ?_ ?_ (by omega)
      · intro n k a hk ha
        try dsimp only
        rw [F_clockworkref31_Shards_L2]
        have hb : (a ++ [state[k]]).length * 48 ≤ 140737488355328 := by simp; omega
        simp only [show (k : Int) < (state.length : Int) by omega, show (i : Int) < ((nodesRefP p).length : Int) by omega, decide_true, cond_true, show 0 ≤ (k : Int) by omega, show 0 ≤ (i : Int) by omega, and_self, req_t, atI_nat hk, atI_nat hi, owner_ref hp.l hp.s, bnd_mk, jn_mk, hb]
      · intro n a _
        try dsimp only
        rw [F_clockworkref31_Shards_L2]
        simp
    rw [hL2, req_pos (by simp; omega)]
    rfl
  · intro n acc _
    try dsimp only
    rw [F_clockworkref31_Shards_L1]
    simp

/-- The mails of a participant. -/
def outP (p : TPlacement) (state : List TPair) (txn : Int) (f : TFootprint) (nd : Int) : List TMail := (exec30 p f).map (mailP p (shP p state nd) txn f)

theorem send_shard (hv : v30 p f = true) {state : List TPair} (hst : staB state = true) (txn nd : Int) : sendP p (shP p state nd) txn f = if nd ∈ nodes30 p f then outP p state txn f nd else [] := by
  unfold sendP
  rw [v31, hv, show staB (shP p state nd).Pairs = true from sta_filter hst _, Bool.and_self, Bool.true_and]
  by_cases h : nd ∈ nodes30 p f
  · rw [show ((nodes30 p f).any fun y => y == (shP p state nd).Node) = true from any_mem.2 h, if_pos h]; rfl
  · rw [if_neg h, show ((nodes30 p f).any fun y => y == (shP p state nd).Node) = false by rw [Bool.eq_false_iff]; intro e; exact h (any_mem.1 e)]
    rfl

theorem filt_sub {a b : List Int} (ha : ascI a) (hb : ascI b) (hs : ∀ x ∈ a, x ∈ b) : b.filter (fun x => decide (x ∈ a)) = a := by
  refine asc_ext (List.Pairwise.filter _ hb) ha fun x => ?_
  rw [List.mem_filter]
  simp only [decide_eq_true_eq]
  exact ⟨fun h => h.2, fun h => ⟨hs x h, h⟩⟩

theorem flatMap_if {a b : List Int} (ha : ascI a) (hb : ascI b) (hs : ∀ x ∈ a, x ∈ b) (G : Int → List TMail) : b.flatMap (fun x => if x ∈ a then G x else []) = a.flatMap G := by
  have h : ∀ b : List Int, b.flatMap (fun x => if x ∈ a then G x else []) = (b.filter (fun x => decide (x ∈ a))).flatMap G := by
    intro b
    induction b with
    | nil => rfl
    | cons x b ih =>
      rw [List.flatMap_cons, ih]
      by_cases hx : x ∈ a
      · rw [if_pos hx, List.filter_cons_of_pos (by simpa using hx), List.flatMap_cons]
      · rw [if_neg hx, List.filter_cons_of_neg (by simpa using hx)]; rfl
  rw [h, filt_sub ha hb hs]

/-- All mails of a transaction. -/
def allP (p : TPlacement) (state : List TPair) (txn : Int) (f : TFootprint) : List TMail := (nodes30 p f).flatMap (outP p state txn f)
def someP (p : TPlacement) (state : List TPair) (txn : Int) (f : TFootprint) (missing : Int) : List TMail := ((nodes30 p f).filter fun x => x != missing).flatMap (outP p state txn f)

theorem flat_len (G : Int → List TMail) (m : Nat) : ∀ (l : List Int), (∀ x ∈ l, (G x).length = m) → (l.flatMap G).length = l.length * m
  | [], _ => by simp
  | x :: l, h => by
    rw [List.flatMap_cons, List.length_append, flat_len G m l (fun y hy => h y (by simp [hy])), h x (by simp), List.length_cons, Nat.succ_mul]
    omega

theorem all_len {state : List TPair} {txn : Int} : (allP p state txn f).length = (nodes30 p f).length * (exec30 p f).length :=
  flat_len _ _ _ fun x _ => by simp [outP]

theorem some_len {state : List TPair} {txn m : Int} : (someP p state txn f m).length = ((nodes30 p f).filter fun x => x != m).length * (exec30 p f).length :=
  flat_len _ _ _ fun x _ => by simp [outP]

theorem complete_all (hv : v30 p f = true) {state : List TPair} {txn to : Int} (hto : to ∈ exec30 p f) : cplP p f txn to (allP p state txn f) = true := by
  rw [cplP, hv, Bool.true_and, List.all_eq_true]
  intro fr hfr
  rw [List.any_eq_true]
  refine ⟨mailP p (shP p state fr) txn f to, List.mem_flatMap.2 ⟨fr, hfr, List.mem_map.2 ⟨to, hto, rfl⟩⟩, ?_⟩
  simp [mailP, shP]

theorem complete_some (hv : v30 p f = true) {state : List TPair} {txn to m : Int} (hto : to ∈ exec30 p f) : cplP p f txn to (someP p state txn f m) = !((nodes30 p f).any fun y => y == m) := by
  rw [cplP, hv, Bool.true_and]
  cases h : (nodes30 p f).any fun y => y == m with
  | false =>
    rw [Bool.not_false, List.all_eq_true]
    intro fr hfr
    rw [List.any_eq_true]
    refine ⟨mailP p (shP p state fr) txn f to, List.mem_flatMap.2 ⟨fr, List.mem_filter.2 ⟨hfr, ?_⟩, List.mem_map.2 ⟨to, hto, rfl⟩⟩, ?_⟩
    · have := List.any_eq_false.1 h fr hfr
      simpa using this
    · simp [mailP, shP]
  | true =>
    have hm := any_mem.1 h
    rw [Bool.not_true, List.all_eq_false]
    refine ⟨m, hm, ?_⟩
    rw [Bool.not_eq_true, List.any_eq_false]
    intro x hx e
    obtain ⟨nd, hnd, hx⟩ := List.mem_flatMap.1 hx
    obtain ⟨t, _, rfl⟩ := List.mem_map.1 hx
    have hne := (List.mem_filter.1 hnd).2
    simp only [mailP, shP, Bool.and_eq_true, beq_iff_eq] at e
    rw [e.1.2] at hne
    simp at hne

/-! ### What one node collects of all the mails -/

theorem fold_mine_filter (txn node : Int) : ∀ (l out : List TMail), (out ++ l.filter fun m => (m.Txn == txn) && (m.To == node)).Nodup →
    l.foldl (fun out m => cond (((m.Txn == txn) && (m.To == node)) && !(out.any fun x => mailEq x m)) (out ++ [m]) out) out = out ++ l.filter fun m => (m.Txn == txn) && (m.To == node)
  | [], out, _ => by simp
  | m :: l, out, h => by
    rw [List.foldl_cons]
    cases hc : (m.Txn == txn) && (m.To == node) with
    | false =>
      rw [List.filter_cons_of_neg (by simpa using hc)] at h ⊢
      rw [Bool.false_and, cond_false]
      exact fold_mine_filter txn node l out h
    | true =>
      rw [List.filter_cons_of_pos (by simpa using hc)] at h ⊢
      have hno : (out.any fun x => mailEq x m) = false := by
        rw [List.any_eq_false]
        intro x hx e
        have e := (mailEq_iff x m).1 e
        subst e
        rw [List.nodup_append] at h
        exact h.2.2 x hx x (by simp) rfl
      rw [hno, Bool.not_false, Bool.and_self, cond_true, fold_mine_filter txn node l (out ++ [m]) (by rw [List.append_assoc, List.singleton_append]; exact h)]
      simp

theorem asc_pick {l : List Int} (h : ascI l) {x : Int} (hx : x ∈ l) : l.filter (fun y => y == x) = [x] := by
  refine asc_ext (List.Pairwise.filter _ h) (by simp) fun y => ?_
  rw [List.mem_filter, List.mem_singleton, beq_iff_eq]
  exact ⟨fun h => h.2, fun h => ⟨by rw [h]; exact hx, h⟩⟩

theorem mine_all (hv : v30 p f = true) {state : List TPair} {txn to : Int} (hto : to ∈ exec30 p f) : mine txn to (allP p state txn f) = (nodes30 p f).map fun nd => mailP p (shP p state nd) txn f to := by
  have hf : (allP p state txn f).filter (fun m => (m.Txn == txn) && (m.To == to)) = (nodes30 p f).map fun nd => mailP p (shP p state nd) txn f to := by
    unfold allP
    have h1 : ∀ nd, (outP p state txn f nd).filter (fun m => (m.Txn == txn) && (m.To == to)) = [mailP p (shP p state nd) txn f to] := fun nd => by
      rw [outP, List.filter_map]
      rw [show ((fun m : TMail => (m.Txn == txn) && (m.To == to)) ∘ mailP p (shP p state nd) txn f) = fun y => y == to from funext fun y => by simp [mailP]]
      rw [asc_pick exec30_asc hto]; rfl
    have h2 : ∀ l : List Int, (l.flatMap (outP p state txn f)).filter (fun m => (m.Txn == txn) && (m.To == to)) = l.map fun nd => mailP p (shP p state nd) txn f to := by
      intro l
      induction l with
      | nil => rfl
      | cons x l ih => rw [List.flatMap_cons, List.filter_append, ih, h1, List.map_cons]; rfl
    exact h2 _
  rw [mine, fold_mine_filter txn to _ [] ?_, List.nil_append, hf]
  rw [List.nil_append, hf]
  have := nodes30_asc (p := p) (f := f)
  unfold List.Nodup
  rw [List.pairwise_map]
  exact List.Pairwise.imp (fun {a b} h e => by
    have := congrArg TMail.From e
    simp only [mailP, shP] at this
    omega) this

/-- The pairs of a state that are read. -/
def wantP (f : TFootprint) (state : List TPair) : List TPair := state.filter fun x => f.All || f.Reads.any fun y => y == x.Key

theorem wanted_eq (hf : FOk f) {state : List TPair} (hs : PrOk state) (hl : state.length ≤ 1000) : F_clockworklaw31_wanted f state = some (wantP f state) := by
  unfold F_clockworklaw31_wanted
  simp only [jn_mk]
  refine loopFilter (l := state) hs.l (L := fun n a i => F_clockworklaw31_wanted_L1 state f (fun x8 => some x8) n a i) (J := fun x8 => some x8) (p := fun x => f.All || f.Reads.any fun y => y == x.Key) ?_ ?_ (n := ((state.length : Nat) : Int).toNat + 1) (by omega)
  · intro n i acc hi hacc
    try dsimp only
    rw [F_clockworklaw31_wanted_L1]
    have hb : (acc ++ [state[i]]).length * 48 ≤ 140737488355328 := by simp; omega
    simp only [show (i : Int) < (state.length : Int) by omega, decide_true, cond_true, show 0 ≤ (i : Int) by omega, and_self, implies_true, req_t, atI_nat hi, has04 hf.r, jn_mk, hb]
    cases f.All with
    | true => simp [gcall, bnd]
    | false => simp only [BEq.rfl, gcall_t, bnd_mk, cond_true]
  · intro n acc _
    try dsimp only
    rw [F_clockworklaw31_wanted_L1]
    simp

/-- What is read of a state, and is owned by one of these nodes. -/
def partP (p : TPlacement) (f : TFootprint) (state : List TPair) (nodes : List Int) : List TPair := (wantP f state).filter fun x => nodes.any fun y => y == ownerP p x.Key

theorem local_shard (hv : v30 p f = true) {state : List TPair} (hst : staB state = true) (nd : Int) : localP p (shP p state nd) f = (wantP f state).filter fun x => ownerP p x.Key == nd := by
  unfold localP
  rw [v31, hv, show staB (shP p state nd).Pairs = true from sta_filter hst _, Bool.and_self, cond_true]
  simp only [shP, wantP, List.filter_filter]
  congr 1
  funext x
  rw [Bool.and_comm]

theorem collect_all (hv : v30 p f = true) {state : List TPair} (hst : staB state = true) {txn to : Int} : ∀ (l seen : List Int), (seen ++ l).Nodup →
    clP (seen.map fun nd => mailP p (shP p state nd) txn f to) (partP p f state seen) (l.map fun nd => mailP p (shP p state nd) txn f to) = (partP p f state (seen ++ l), 0)
  | [], seen, _ => by simp [clP]
  | x :: l, seen, h => by
    rw [List.map_cons, clP]
    have hx : x ∉ seen := by
      intro hx
      rw [List.nodup_append] at h
      exact h.2.2 x hx x (by simp) rfl
    have h1 : ((seen.map fun nd => mailP p (shP p state nd) txn f to).any fun y => y.From == (mailP p (shP p state x) txn f to).From) = false := by
      rw [List.any_eq_false]
      intro y hy e
      obtain ⟨nd, hnd, rfl⟩ := List.mem_map.1 hy
      simp only [mailP, shP, beq_iff_eq] at e
      exact hx (by rw [← e]; exact hnd)
    have hw : staB (wantP f state) = true := sta_filter hst _
    have ha : staB (partP p f state seen) = true := sta_filter hw _
    have hb : staB (localP p (shP p state x) f) = true := by rw [local_shard hv hst]; exact sta_filter hw _
    have hk : kAsc (wantP f state) := (sta_iff.1 hw).2
    obtain ⟨g1, g2⟩ := mg_spec (sta_iff.1 ha).2 (sta_iff.1 hb).2
    have hd : (mg (partP p f state seen) (localP p (shP p state x) f)).2 = false := by
      rw [g1, List.any_eq_false]
      intro y hy e
      obtain ⟨z, hz, e⟩ := List.any_eq_true.1 e
      rw [local_shard hv hst] at hy
      obtain ⟨hy1, hy2⟩ := List.mem_filter.1 hy
      obtain ⟨hz1, hz2⟩ := List.mem_filter.1 hz
      have e := kasc_key hk hz1 hy1 (by simpa using e)
      subst e
      have hz2 := any_mem.1 (show (seen.any fun y => y == ownerP p z.Key) = true from hz2)
      rw [show ownerP p z.Key = x by simpa using hy2] at hz2
      exact hx hz2
    obtain ⟨g3, g4⟩ := g2 hd
    have hu : unionP (partP p f state seen) (localP p (shP p state x) f) = (partP p f state (seen ++ [x]), 0) := by
      rw [unionP, ha, hb, hd]
      show ((mg _ _).1, (0 : Int)) = _
      congr 1
      refine kasc_ext g3 (sta_iff.1 (sta_filter hw _)).2 fun y => ?_
      rw [g4, local_shard hv hst, partP, partP, List.mem_filter, List.mem_filter, List.mem_filter, ← and_or_left]
      simp [eq_comm (a := x)]
    rw [h1, cond_false, show (mailP p (shP p state x) txn f to).Pairs = localP p (shP p state x) f from rfl, hu]
    rw [show (((partP p f state (seen ++ [x]), (0 : Int))).2 != 0) = false from rfl, cond_false]
    have := collect_all hv hst (txn := txn) (to := to) l (seen ++ [x]) (by rw [List.append_assoc]; exact h)
    rw [List.map_append, List.append_assoc] at this
    exact this

theorem part_all (hv : v30 p f = true) (state : List TPair) : partP p f state (nodes30 p f) = wantP f state := by
  have hpv := (v30_parts hv).1
  unfold partP
  rw [List.filter_eq_self]
  intro x hx
  refine any_mem.2 ?_
  have hx := (List.mem_filter.1 hx).2
  rw [nodes30, if_pos hv]
  cases hA : f.All with
  | true => rw [if_pos rfl]; exact owner_node hpv _
  | false =>
    rw [if_neg (by simp), ownersP_mem hpv]
    rw [hA, Bool.false_or, List.any_eq_true] at hx
    obtain ⟨y, hy, e⟩ := hx
    exact ⟨y, by simp [hy], by rw [eq_of_beq e]⟩

theorem collect_eq (hv : v30 p f = true) {state : List TPair} (hst : staB state = true) {txn to : Int} (hto : to ∈ exec30 p f) (hn : 0 < (nodes30 p f).length) : collectP (mine txn to (allP p state txn f)) = (wantP f state, 0) := by
  rw [mine_all hv hto, collectP]
  have h1 : (((((nodes30 p f).map fun nd => mailP p (shP p state nd) txn f to).length : Nat) : Int) == 0) = false := by
    rw [beq_eq_false_iff_ne, List.length_map]; omega
  have h2 : (((nodes30 p f).map fun nd => mailP p (shP p state nd) txn f to).any fun m => !staB m.Pairs) = false := by
    rw [List.any_eq_false]
    intro y hy e
    obtain ⟨nd, _, rfl⟩ := List.mem_map.1 hy
    have : staB (localP p (shP p state nd) f) = true := by rw [local_shard hv hst]; exact sta_filter (sta_filter hst _) _
    rw [show (mailP p (shP p state nd) txn f to).Pairs = localP p (shP p state nd) f from rfl, this] at e
    simp at e
  rw [h1, h2, cond_false, cond_false]
  have := collect_all hv hst (txn := txn) (to := to) (nodes30 p f) [] (List.Pairwise.imp (fun h e => by omega) (nodes30_asc (p := p) (f := f)))
  rw [List.nil_append, part_all hv state] at this
  have e : partP p f state [] = [] := by simp [partP]
  rw [e] at this
  exact this

/-! ### The law -/

theorem send_loop (hp : POk p) (hf : FOk f) (hv : v30 p f = true) {state : List TPair} (hs : PrOk state) (hl : state.length ≤ 1000) (hst : staB state = true) (txn missing : Int) (J : List TMail → List TMail → Option Bool) :
    F_clockworklaw31_ExchangeComplete_L5 ((nodesRefP p).map (shP p state)) p txn f missing J (((((nodesRefP p).map (shP p state)).length : Nat) : Int).toNat + 1) [] [] 0 = J (allP p state txn f) (someP p state txn f missing) := by
  have hn := nodesRef_len p
  have hpv := (v30_parts hv).1
  have hshl : ((nodesRefP p).map (shP p state)).length ≤ 17 := by simpa using hn
  have hsend : ∀ sh ∈ (nodesRefP p).map (shP p state), F_exchange_Send p sh txn f = some (sendP p sh txn f) ∧ (sendP p sh txn f).length ≤ 17 := by
    intro sh hsh
    obtain ⟨nd, _, rfl⟩ := List.mem_map.1 hsh
    have hll : (shP p state nd).Pairs.length ≤ 1000 := Nat.le_trans (List.length_filter_le _ _) hl
    exact ⟨send_impl hp hf (shP_ok hs nd) hll txn, (send_ok hp hf (shP_ok hs nd) txn).1⟩
  generalize hsh : (nodesRefP p).map (shP p state) = sh at hsend hshl
  refine (loopFold (l := sh) (by omega) (L := fun n (s : List TMail × List TMail) i => F_clockworklaw31_ExchangeComplete_L5 sh p txn f missing J n s.1 s.2 i) (J := fun s => J s.1 s.2)
    (f := fun s x => (s.1 ++ sendP p x txn f, cond (x.Node != missing) (s.2 ++ sendP p x txn f) s.2)) (fun i s => s.1.length ≤ 17 * i ∧ s.2.length ≤ 17 * i) ?_ ?_ ?_ (n := ((sh.length : Nat) : Int).toNat + 1) (by omega) (s := ([], [])) ⟨by simp, by simp⟩).trans ?_
  · rintro n i ⟨s1, s2⟩ hi ⟨h1, h2⟩
    obtain ⟨e1, e2⟩ := hsend _ (List.getElem_mem hi)
    try dsimp only
    dsimp only at h1 h2
    rw [F_clockworklaw31_ExchangeComplete_L5]
    have b1 : (s1 ++ sendP p sh[i] txn f).length * 72 ≤ 140737488355328 := by rw [List.length_append]; omega
    have b2 : (s2 ++ sendP p sh[i] txn f).length * 72 ≤ 140737488355328 := by rw [List.length_append]; omega
    simp only [show (i : Int) < (sh.length : Int) by omega, decide_true, cond_true, show 0 ≤ (i : Int) by omega, and_self, req_t, atI_nat hi, e1, bnd_mk, jn_mk, b1, b2]
    cases (sh[i].Node != missing) <;> rfl
  · rintro i ⟨s1, s2⟩ hi ⟨h1, h2⟩
    obtain ⟨e1, e2⟩ := hsend _ (List.getElem_mem hi)
    dsimp only at h1 h2 ⊢
    refine ⟨by rw [List.length_append]; omega, ?_⟩
    cases (sh[i].Node != missing) with
    | true => rw [cond_true, List.length_append]; omega
    | false => rw [cond_false]; omega
  · rintro n ⟨s1, s2⟩ _
    try dsimp only
    rw [F_clockworklaw31_ExchangeComplete_L5]
    simp only [Int.lt_irrefl, decide_false, cond_false]
  · have key : ∀ (l : List TShard) (s : List TMail × List TMail), l.foldl (fun s x => (s.1 ++ sendP p x txn f, cond (x.Node != missing) (s.2 ++ sendP p x txn f) s.2)) s =
        (s.1 ++ l.flatMap (fun x => sendP p x txn f), s.2 ++ (l.filter fun x => x.Node != missing).flatMap fun x => sendP p x txn f) := by
      intro l
      induction l with
      | nil => intro s; simp
      | cons x l ih =>
        intro s
        rw [List.foldl_cons, ih]
        cases h : (x.Node != missing) with
        | true => simp [h]
        | false => simp [h]
    rw [key, List.nil_append, List.nil_append]
    have e1 : sh.flatMap (fun x => sendP p x txn f) = allP p state txn f := by
      rw [← hsh, List.flatMap_map]
      rw [show (fun nd => sendP p (shP p state nd) txn f) = fun nd => if nd ∈ nodes30 p f then outP p state txn f nd else [] from funext fun nd => send_shard hv hst txn nd]
      exact flatMap_if nodes30_asc (nodesRef_asc hpv) (fun x hx => nodes30_sub hv hx) _
    have e2 : (sh.filter fun x => x.Node != missing).flatMap (fun x => sendP p x txn f) = someP p state txn f missing := by
      rw [← hsh, List.filter_map, List.flatMap_map]
      rw [show (fun nd => sendP p (shP p state nd) txn f) = fun nd => if nd ∈ nodes30 p f then outP p state txn f nd else [] from funext fun nd => send_shard hv hst txn nd]
      rw [show ((fun x : TShard => x.Node != missing) ∘ shP p state) = fun x => x != missing from rfl]
      have h1 : ascI ((nodes30 p f).filter fun x => x != missing) := List.Pairwise.filter _ nodes30_asc
      have h2 : ascI ((nodesRefP p).filter fun x => x != missing) := List.Pairwise.filter _ (nodesRef_asc hpv)
      have := flatMap_if h1 h2 (fun x hx => by
        obtain ⟨a, b⟩ := List.mem_filter.1 hx
        exact List.mem_filter.2 ⟨nodes30_sub hv a, b⟩) (outP p state txn f)
      rw [someP, ← this]
      have : ∀ l : List Int, (∀ x ∈ l, (x != missing) = true) → l.flatMap (fun nd => if nd ∈ nodes30 p f then outP p state txn f nd else []) = l.flatMap (fun x => if x ∈ (nodes30 p f).filter (fun x => x != missing) then outP p state txn f x else []) := by
        intro l
        induction l with
        | nil => intro _; rfl
        | cons x l ih =>
          intro h
          rw [List.flatMap_cons, List.flatMap_cons, ih (fun y hy => h y (by simp [hy]))]
          congr 1
          have hx := h x (by simp)
          by_cases hm : x ∈ nodes30 p f
          · rw [if_pos hm, if_pos (List.mem_filter.2 ⟨hm, hx⟩)]
          · rw [if_neg hm, if_neg (fun e => hm (List.mem_filter.1 e).1)]
      exact this _ (fun x hx => (List.mem_filter.1 hx).2)
    rw [e1, e2]

theorem plain_ExchangeComplete (x0 : TPlacement) (x1 : TFootprint) (x2 : List TPair) (x3 : Int) (x4 : Int) (o0 : okTPlacement x0) (o1 : okTFootprint x1) (o2 : (okL okTPair) x2) (o3 : (okI .i64) x3) (o4 : (okI .i64) x4) : F_clockworklaw31_ExchangeComplete x0 x1 x2 x3 x4 = some true := by
  have hp := okP30 o0
  have hf := okF30 o1
  have hs := okPr o2
  unfold F_clockworklaw31_ExchangeComplete
  obtain ⟨b, e⟩ := light_eq hp hf
  rw [e, bnd_mk]
  cases b with
  | false => simp only [Bool.not_false]; rw [lives_true]; rfl
  | true =>
    simp only [Bool.not_true, BEq.rfl, gcall_t, Bool.false_or]
    obtain ⟨c, e, hc⟩ := few_eq hs.l (m := 12) (by decide)
    rw [show ((12 : Int)) = ((12 : Nat) : Int) from rfl, e, bnd_mk, valid29_impl hp.l hp.s, fvalid_impl hf, svalid_ref hs]
    cases c with
    | false => simp only [Bool.not_false]; rw [lives_true]; rfl
    | true =>
      have hl : x2.length ≤ 1000 := by have := hc rfl; omega
      simp only [Bool.not_true, BEq.rfl, gcall_t, bnd_mk, Bool.false_or]
      cases h1 : pvB x0 with
      | false => simp only [Bool.not_false]; rw [lives_true]; rfl
      | true =>
        simp only [Bool.not_true, BEq.rfl, gcall_t, bnd_mk, Bool.false_or]
        cases h2 : fvB x1 with
        | false => simp only [Bool.not_false]; rw [lives_true]; rfl
        | true =>
          simp only [Bool.not_true, BEq.rfl, gcall_t, bnd_mk, Bool.false_or]
          cases h3 : staB x2 with
          | false => simp only [Bool.not_false]; rw [lives_true]; rfl
          | true =>
            have hv : v30 x0 x1 = true := by simp [v30, h1, h2]
            have hnl := nodes30_len (p := x0) (f := x1)
            have hel := exec30_len (p := x0) (f := x1)
            simp only [Bool.not_true, cond_false, jn_mk]
            rw [shards_eq hp hs hl, bnd_mk, send_loop hp hf hv hs hl h3, nodes30_impl hp hf, exec30_impl hp hf, bnd_mk, bnd_mk]
            have hal : (allP x0 x2 x3 x1).length ≤ 17 * 17 := by rw [all_len]; exact Nat.mul_le_mul hnl hel
            have hsl : (someP x0 x2 x3 x1 x4).length ≤ 17 * 17 := by
              rw [some_len]; exact Nat.mul_le_mul (Nat.le_trans (List.length_filter_le _ _) hnl) hel
            have hmail : ∀ m ∈ allP x0 x2 x3 x1, MOk m ∧ m.Pairs.length ≤ 100 := by
              intro m hm
              obtain ⟨nd, hnd, hm⟩ := List.mem_flatMap.1 hm
              have hll : (shP x0 x2 nd).Pairs.length ≤ 12 := Nat.le_trans (List.length_filter_le _ _) (hc rfl)
              have hmem : m ∈ sendP x0 (shP x0 x2 nd) x3 x1 := by rw [send_shard hv h3, if_pos hnd]; exact hm
              refine ⟨(send_ok hp hf (shP_ok hs nd) x3).2 m hmem, ?_⟩
              obtain ⟨t, _, rfl⟩ := List.mem_map.1 hm
              show (localP x0 (shP x0 x2 nd) x1).length ≤ 100
              unfold localP
              cases v31 x0 (shP x0 x2 nd) x1 with
              | false => simp
              | true => rw [cond_true]; exact Nat.le_trans (List.length_filter_le _ _) (by omega)
            -- whether one is missing
            have hL4 : ∀ J : Bool → Option Bool, F_clockworklaw31_ExchangeComplete_L4 (nodes30 x0 x1) x4 J ((((nodes30 x0 x1).length : Nat) : Int).toNat + 1) false 0 = J ((nodes30 x0 x1).any fun y => y == x4) := by
              intro J
              refine (loopFold (l := nodes30 x0 x1) (by omega) (L := fun n b k => F_clockworklaw31_ExchangeComplete_L4 (nodes30 x0 x1) x4 J n b k) (J := J) (f := fun b y => b || (y == x4)) (fun _ _ => True) ?_ ?_ ?_ (by omega) trivial).trans ?_
              · intro n k b hk _
                try dsimp only
                rw [F_clockworklaw31_ExchangeComplete_L4]
                simp only [show (k : Int) < ((nodes30 x0 x1).length : Int) by omega, decide_true, cond_true, show 0 ≤ (k : Int) by omega, and_self, implies_true, req_t, atI_nat hk]
                cases b <;> rfl
              · intros; trivial
              · intro n b _
                try dsimp only
                rw [F_clockworklaw31_ExchangeComplete_L4]
                simp
              · congr 1
                have : ∀ (l : List Int) b, l.foldl (fun b y => b || (y == x4)) b = (b || l.any fun y => y == x4) := by
                  intro l
                  induction l with
                  | nil => intro b; simp
                  | cons x l ih => intro b; rw [List.foldl_cons, ih, List.any_cons, Bool.or_assoc]
                rw [this]; simp
            rw [hL4]
            have hmul : IntKind.i64.wrap ((((nodes30 x0 x1).length : Nat) : Int) * (((exec30 x0 x1).length : Nat) : Int)) = (((allP x0 x2 x3 x1).length : Nat) : Int) := by
              rw [← Int.natCast_mul, ← all_len (p := x0) (f := x1) (state := x2) (txn := x3)]
              exact w64 (by omega) (by omega)
            rw [hmul, show ((((allP x0 x2 x3 x1).length : Nat) : Int) != (((allP x0 x2 x3 x1).length : Nat) : Int)) = false by simp, cond_false]
            -- every executor
            have hL3 : ∀ J : Option Bool, F_clockworklaw31_ExchangeComplete_L3 (exec30 x0 x1) x0 x1 x3 (allP x0 x2 x3 x1) (someP x0 x2 x3 x1 x4) ((nodes30 x0 x1).any fun y => y == x4) (nodes30 x0 x1) x2 J ((((exec30 x0 x1).length : Nat) : Int).toNat + 1) 0 = J := by
              intro J
              refine (loopAny0 (l := exec30 x0 x1) (by omega) (L := fun n i => F_clockworklaw31_ExchangeComplete_L3 (exec30 x0 x1) x0 x1 x3 (allP x0 x2 x3 x1) (someP x0 x2 x3 x1 x4) ((nodes30 x0 x1).any fun y => y == x4) (nodes30 x0 x1) x2 J n i)
                (q := fun _ => false) (E := some false) (J := J) (n := (((exec30 x0 x1).length : Nat) : Int).toNat + 1) (by omega) ?_ ?_).trans ?_
              · intro n i hi
                have hto := List.getElem_mem hi
                try dsimp only
                rw [F_clockworklaw31_ExchangeComplete_L3]
                simp only [show (i : Int) < ((exec30 x0 x1).length : Int) by omega, decide_true, cond_true, show 0 ≤ (i : Int) by omega, and_self, implies_true, req_t, atI_nat hi, complete_impl hp hf (show (allP x0 x2 x3 x1).length ≤ 100000 by omega), complete_all hv hto, bnd_mk, Bool.not_true, BEq.rfl, gcall_t,
                  complete_impl hp hf (show (someP x0 x2 x3 x1 x4).length ≤ 100000 by omega), complete_some hv hto, Bool.false_or, collect_impl (show (allP x0 x2 x3 x1).length ≤ 1000 by omega) hmail, jn_mk]
                rw [show ((!((nodes30 x0 x1).any fun y => y == x4)) == ((nodes30 x0 x1).any fun y => y == x4)) = false by cases (nodes30 x0 x1).any fun y => y == x4 <;> rfl, cond_false]
                by_cases hn : 0 < (nodes30 x0 x1).length
                · rw [collect_eq hv h3 hto hn, show ((((nodes30 x0 x1).length : Nat) : Int) == 0) = false by rw [beq_eq_false_iff_ne]; omega, cond_false]
                  have hwl : (wantP x1 x2).length < 9223372036854775808 := Nat.lt_of_le_of_lt (List.length_filter_le _ _) hs.l
                  simp only [show ((0 : Int) != 0) = false by rfl, BEq.rfl, gcall_t, wanted_eq hf hs hl, bnd_mk, pairs_self hwl, Bool.not_true, Bool.or_self, cond_false]
                · have h0 : (nodes30 x0 x1).length = 0 := by omega
                  have e0 : allP x0 x2 x3 x1 = [] := by
                    rw [allP, List.length_eq_zero_iff.1 h0]; rfl
                  rw [e0, h0]
                  rfl
              · intro n
                try dsimp only
                rw [F_clockworklaw31_ExchangeComplete_L3]
                simp
              · rw [show (exec30 x0 x1).any (fun _ => false) = false by simp]; rfl
            rw [hL3]
            -- every key of every mail
            refine (loopAny0 (l := allP x0 x2 x3 x1) (by omega) (L := fun n i => F_clockworklaw31_ExchangeComplete_L1 (allP x0 x2 x3 x1) x0 (bnd F_clockworklaw31_lives fun x243 => some x243) n i) (q := fun _ => false) (E := some false) (J := bnd F_clockworklaw31_lives fun x243 => some x243)
              (n := (((allP x0 x2 x3 x1).length : Nat) : Int).toNat + 1) (by omega) ?_ ?_).trans ?_
            · intro n i hi
              try dsimp only
              rw [F_clockworklaw31_ExchangeComplete_L1, decide_eq_true (show (i : Int) < ((allP x0 x2 x3 x1).length : Int) by omega), cond_true, jn_mk, cond_false]
              have hm := List.getElem_mem hi
              obtain ⟨nd, hnd, hm⟩ := List.mem_flatMap.1 hm
              obtain ⟨t, _, hm⟩ := List.mem_map.1 hm
              have hkl : (allP x0 x2 x3 x1)[i].Keys.length ≤ 64 := by
                rw [← hm]
                exact Nat.le_trans (List.length_filter_le _ _) (fvB_len h2).1
              have hL2 : ∀ (J : Option Bool) (N : Nat), 64 < N → F_clockworklaw31_ExchangeComplete_L2 (i : Int) (allP x0 x2 x3 x1) x0 J N 0 = J := by
                intro J N hN
                refine (loopAny0 (l := (allP x0 x2 x3 x1)[i].Keys) (by omega) (L := fun n k => F_clockworklaw31_ExchangeComplete_L2 (i : Int) (allP x0 x2 x3 x1) x0 J n k) (q := fun _ => false) (E := some false) (J := J) (n := N) (by omega) ?_ ?_).trans ?_
                · intro n k hk
                  have ho : ownerP x0 (allP x0 x2 x3 x1)[i].Keys[k] = (allP x0 x2 x3 x1)[i].From := by
                    have hkm := List.getElem_mem hk
                    generalize (allP x0 x2 x3 x1)[i].Keys[k] = kk at hkm
                    rw [← hm] at hkm ⊢
                    exact eq_of_beq (List.mem_filter.1 hkm).2
                  try dsimp only
                  rw [F_clockworklaw31_ExchangeComplete_L2]
                  simp only [show (i : Int) < ((allP x0 x2 x3 x1).length : Int) by omega, show 0 ≤ (i : Int) by omega, atI_nat hi, show (k : Int) < ((allP x0 x2 x3 x1)[i].Keys.length : Int) by omega, decide_true, cond_true, show 0 ≤ (k : Int) by omega, and_self, req_t, atI_nat hk, owner_ref hp.l hp.s, bnd_mk, ho]
                  simp
                · intro n
                  try dsimp only
                  rw [F_clockworklaw31_ExchangeComplete_L2]
                  simp only [show (i : Int) < ((allP x0 x2 x3 x1).length : Int) by omega, show 0 ≤ (i : Int) by omega, atI_nat hi, and_self, req_t, Int.lt_irrefl, decide_false, cond_false]
                · rw [show ((allP x0 x2 x3 x1)[i].Keys).any (fun _ => false) = false by simp]; rfl
              exact hL2 _ 1000000 (by decide)
            · intro n
              try dsimp only
              rw [F_clockworklaw31_ExchangeComplete_L1]
              simp
            · rw [show (allP x0 x2 x3 x1).any (fun _ => false) = false by simp, cond_false, lives_true]; rfl

end Go.Proofs.YtcgmfmpfmfjmoaaGreat
