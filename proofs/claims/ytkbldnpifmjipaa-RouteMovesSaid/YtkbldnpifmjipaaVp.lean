/-
  Chapter 30, plain texts: the law on moves.
  Conditions: none.
-/
import Derived.Test.YtkbldnpifmjipaaVm
import Derived.Test.YtkbldnpifmjipaaVn
set_option linter.all false
namespace Go.Proofs.Ytkbldnpifmjipaa

/-- The first m partitions, numbered anew, at the nodes that g tells, none of them moving. -/
def placeN (l : List TPart) (g : TPart → Int) (m : Nat) : List TPart := (List.range m).map fun (i : Nat) => ⟨(i : Int) + 1, (ap l i).From, g (ap l i), 0, []⟩

theorem placeN_len (l : List TPart) (g : TPart → Int) (m : Nat) : (placeN l g m).length = m := by simp [placeN]

theorem placeN_succ (l : List TPart) (g : TPart → Int) (i : Nat) : placeN l g (i + 1) = placeN l g i ++ [⟨(i : Int) + 1, (ap l i).From, g (ap l i), 0, []⟩] := by
  simp [placeN, List.range_succ]

theorem placeN_ap {l : List TPart} {g : TPart → Int} {m i : Nat} (h : i < m) : ap (placeN l g m) i = ⟨(i : Int) + 1, (ap l i).From, g (ap l i), 0, []⟩ := by
  rw [ap_get (by rw [placeN_len]; exact h)]
  simp [placeN]

theorem set_pv {v v' : Int} {l : List TPart} (h : PV v l) (hv : 0 ≤ v' ∧ v' ≤ 1099511627776) {g : TPart → Int} (hg : ∀ i, i < l.length → 1 ≤ g (ap l i) ∧ g (ap l i) ≤ 16) : PV v' (placeN l g l.length) := by
  obtain ⟨h1, h2⟩ := h.len
  refine ⟨hv, by rw [placeN_len]; exact h.len, ?_, fun i hi => ?_, fun i hi => ?_, fun i hi => ?_, fun i hi => ?_, fun i hi => ?_, fun i j hj hi => ?_⟩
  · rw [placeN_ap (by omega)]; exact h.head
  · rw [placeN_len] at hi; rw [placeN_ap hi]; exact h.bnd i hi
  · rw [placeN_len] at hi; rw [placeN_ap (by omega), placeN_ap hi]; exact h.asc i hi
  · rw [placeN_len] at hi; rw [placeN_ap hi]; exact ⟨by dsimp only; omega, by dsimp only; omega⟩
  · rw [placeN_len] at hi; rw [placeN_ap hi]; exact hg i hi
  · rw [placeN_len] at hi; rw [placeN_ap hi]; exact ⟨fun _ => rfl, fun hc => absurd rfl hc⟩
  · rw [placeN_len] at hi; rw [placeN_ap hi, placeN_ap (by omega)]; dsimp only; omega

theorem set_in {l : List TPart} {g : TPart → Int} {i : Nat} {key : Str} (h : InPart l i key) : InPart (placeN l g l.length) i key := by
  have hlt := h.lt
  refine ⟨by rw [placeN_len]; exact h.lt, by rw [placeN_ap hlt]; exact h.lo, fun hi => ?_⟩
  rw [placeN_len] at hi
  rw [placeN_ap hi]; exact h.hi hi

theorem owner_set {v v' : Int} {l : List TPart} (h : PV v l) {g : TPart → Int} (h' : PV v' (placeN l g l.length)) {key : Str} {i : Nat} (hi : InPart l i key) : ownerP ⟨v', placeN l g l.length⟩ key = g (ap l i) := by
  rw [owner_of (p := ⟨v', placeN l g l.length⟩) h' (i := i) (set_in hi)]
  show partOwner (ap (placeN l g l.length) i) key = _
  rw [placeN_ap hi.lt]
  rfl

theorem hasN_set {l : List TPart} {g : TPart → Int} {x : Int} (hx : 1 ≤ x) : hasN (placeN l g l.length) x (placeN l g l.length).length = true ↔ ∃ j, j < l.length ∧ g (ap l j) = x := by
  rw [hasN_iff]
  constructor
  · rintro ⟨j, hj, h⟩
    rw [placeN_len] at hj
    have e : atI (placeN l g l.length) (j : Int) = ap (placeN l g l.length) j := rfl
    rw [e, placeN_ap hj] at h
    rcases h with h | h
    · exact ⟨j, hj, h⟩
    · have h : (0 : Int) = x := h
      omega
  · rintro ⟨j, hj, h⟩
    refine ⟨j, by rw [placeN_len]; exact hj, .inl ?_⟩
    have e : atI (placeN l g l.length) (j : Int) = ap (placeN l g l.length) j := rfl
    rw [e, placeN_ap hj]; exact h

/-! ### All partitions on one node -/

section one
variable {v : Int} {l : List TPart} {n : Int}

theorem one_nodes (h : PV v l) (hn : 1 ≤ n ∧ n ≤ 16) : nodesRefP ⟨v, placeN l (fun _ => n) l.length⟩ = [n] := by
  have hp : pvB ⟨v, placeN l (fun _ => n) l.length⟩ = true := pv_iff.2 (set_pv (g := fun _ => n) h h.ver (fun _ _ => hn))
  obtain ⟨h1, h2⟩ := h.len
  unfold nodesRefP
  rw [if_pos hp]
  refine asc_ext (pickN_asc _ _) (by simp) fun x => ?_
  rw [pickN_mem, List.mem_singleton]
  constructor
  · rintro ⟨a, b, c⟩
    obtain ⟨j, _, hj⟩ := (hasN_set (l := l) (g := fun _ => n) a).1 c
    exact hj.symm
  · rintro rfl
    exact ⟨hn.1, by omega, (hasN_set (l := l) (g := fun _ => x) hn.1).2 ⟨0, by omega, rfl⟩⟩

theorem one_owner (h : PV v l) (hn : 1 ≤ n ∧ n ≤ 16) (k : Str) : ownerP ⟨v, placeN l (fun _ => n) l.length⟩ k = n := by
  obtain ⟨i, _, hi⟩ := index_in (p := ⟨v, l⟩) h k
  exact owner_set h (set_pv h h.ver (fun _ _ => hn)) (g := fun _ => n) hi

theorem one_owners (h : PV v l) (hn : 1 ≤ n ∧ n ≤ 16) (ks : List Str) : ownersP ⟨v, placeN l (fun _ => n) l.length⟩ ks = [] ∨ ownersP ⟨v, placeN l (fun _ => n) l.length⟩ ks = [n] := by
  have hp : pvB ⟨v, placeN l (fun _ => n) l.length⟩ = true := pv_iff.2 (set_pv (g := fun _ => n) h h.ver (fun _ _ => hn))
  cases ks with
  | nil =>
    left
    refine asc_ext (pickO_asc _ _) List.Pairwise.nil fun x => ?_
    have := ownersP_mem hp (ks := []) (x := x)
    constructor
    · intro hx
      obtain ⟨k, hk, _⟩ := this.1 hx
      simp at hk
    · intro hx; simp at hx
  | cons k ks =>
    right
    refine asc_ext (pickO_asc _ _) (by simp) fun x => ?_
    have := ownersP_mem hp (ks := k :: ks) (x := x)
    rw [List.mem_singleton]
    constructor
    · intro hx
      obtain ⟨k', _, rfl⟩ := this.1 hx
      exact one_owner h hn k'
    · rintro rfl
      exact this.2 ⟨k, by simp, one_owner h hn k⟩

theorem one_exec (h : PV v l) (hn : 1 ≤ n ∧ n ≤ 16) {f : TFootprint} (hf : fvB f = true) : local30 ⟨v, placeN l (fun _ => n) l.length⟩ f = true ∧ exec30 ⟨v, placeN l (fun _ => n) l.length⟩ f = [n] := by
  have hp : pvB ⟨v, placeN l (fun _ => n) l.length⟩ = true := pv_iff.2 (set_pv (g := fun _ => n) h h.ver (fun _ _ => hn))
  have hv : v30 ⟨v, placeN l (fun _ => n) l.length⟩ f = true := by simp [v30, hp, hf]
  have hno : nodes30 ⟨v, placeN l (fun _ => n) l.length⟩ f = [] ∨ nodes30 ⟨v, placeN l (fun _ => n) l.length⟩ f = [n] := by
    unfold nodes30
    rw [if_pos hv]
    split
    · exact .inr (one_nodes h hn)
    · exact one_owners h hn _
  have hac : active30 ⟨v, placeN l (fun _ => n) l.length⟩ f = [] ∨ active30 ⟨v, placeN l (fun _ => n) l.length⟩ f = [n] := by
    unfold active30
    rw [if_pos hv]
    split
    · exact .inr (one_nodes h hn)
    · exact one_owners h hn _
  have h0 : (atI (placeN l (fun _ => n) l.length) 0).Node = n := by
    have e : atI (placeN l (fun _ => n) l.length) 0 = ap (placeN l (fun _ => n) l.length) 0 := rfl
    obtain ⟨h1, h2⟩ := h.len
    rw [e, placeN_ap (by omega)]
  constructor
  · unfold local30
    rw [hv]
    rcases hno with h | h <;> rw [h] <;> rfl
  · unfold exec30
    rw [if_pos hv]
    rcases hac with h | h
    · rw [h]
      rcases hno with h | h
      · rw [h]
        simp only [List.length_nil, Nat.lt_irrefl, if_false, h0]
      · rw [h]; rfl
    · rw [h]; rfl
end one

/-! ### Nothing moves -/

section still
variable {v v' : Int} {l : List TPart}

theorem still_owner (h : PV v l) (h' : PV v' (placeN l (fun x => x.Node) l.length)) (hd : ∀ i, i < l.length → (ap l i).Dest = 0) (k : Str) : ownerP ⟨v', placeN l (fun x => x.Node) l.length⟩ k = ownerP ⟨v, l⟩ k := by
  obtain ⟨i, _, hi⟩ := index_in (p := ⟨v, l⟩) h k
  have hi : InPart l i k := hi
  rw [owner_set h h' hi, owner_of (p := ⟨v, l⟩) h hi]
  show _ = partOwner (ap l i) k
  unfold partOwner
  rw [hd i hi.lt]
  rfl

theorem still_nodes (h : PV v l) (h' : PV v' (placeN l (fun x => x.Node) l.length)) (hd : ∀ i, i < l.length → (ap l i).Dest = 0) : nodesRefP ⟨v', placeN l (fun x => x.Node) l.length⟩ = nodesRefP ⟨v, l⟩ := by
  have hp : pvB ⟨v, l⟩ = true := pv_iff.2 h
  have hp' : pvB ⟨v', placeN l (fun x => x.Node) l.length⟩ = true := pv_iff.2 h'
  unfold nodesRefP
  rw [if_pos hp, if_pos hp']
  refine asc_ext (pickN_asc _ _) (pickN_asc _ _) fun x => ?_
  rw [pickN_mem, pickN_mem]
  constructor
  · rintro ⟨a, b, c⟩
    obtain ⟨j, hj, he⟩ := (hasN_set a).1 c
    exact ⟨a, b, (hasN_iff _ _ _).2 ⟨j, hj, .inl he⟩⟩
  · rintro ⟨a, b, c⟩
    obtain ⟨j, hj, he⟩ := (hasN_iff _ _ _).1 c
    refine ⟨a, b, (hasN_set a).2 ⟨j, hj, ?_⟩⟩
    rcases he with he | he
    · exact he
    · have := hd j hj
      have he : (ap l j).Dest = x := he
      omega

theorem still_all (h : PV v l) (h' : PV v' (placeN l (fun x => x.Node) l.length)) (hd : ∀ i, i < l.length → (ap l i).Dest = 0) (f : TFootprint) :
    nodes30 ⟨v', placeN l (fun x => x.Node) l.length⟩ f = nodes30 ⟨v, l⟩ f ∧ exec30 ⟨v', placeN l (fun x => x.Node) l.length⟩ f = exec30 ⟨v, l⟩ f := by
  have hp : pvB ⟨v, l⟩ = true := pv_iff.2 h
  have hp' : pvB ⟨v', placeN l (fun x => x.Node) l.length⟩ = true := pv_iff.2 h'
  have hv : v30 ⟨v', placeN l (fun x => x.Node) l.length⟩ f = v30 ⟨v, l⟩ f := by simp [v30, hp, hp']
  have ho : ∀ ks, ownersP ⟨v', placeN l (fun x => x.Node) l.length⟩ ks = ownersP ⟨v, l⟩ ks := fun ks => by
    unfold ownersP
    congr 1
    exact List.map_congr_left fun k _ => still_owner h h' hd k
  have hno : nodes30 ⟨v', placeN l (fun x => x.Node) l.length⟩ f = nodes30 ⟨v, l⟩ f := by
    unfold nodes30
    rw [hv, still_nodes h h' hd, ho]
  have hac : active30 ⟨v', placeN l (fun x => x.Node) l.length⟩ f = active30 ⟨v, l⟩ f := by
    unfold active30
    rw [hv, still_nodes h h' hd, ho]
  refine ⟨hno, ?_⟩
  have h0 : (atI (placeN l (fun x => x.Node) l.length) 0).Node = (atI l 0).Node := by
    have e : atI (placeN l (fun x => x.Node) l.length) 0 = ap (placeN l (fun x => x.Node) l.length) 0 := rfl
    obtain ⟨h1, h2⟩ := h.len
    rw [e, placeN_ap (by omega)]
    rfl
  unfold exec30
  rw [hv, hno, hac]
  dsimp only
  rw [h0]
end still

/-! ### The law -/

theorem moves_L2 {p : TPlacement} {x6 : Int} (hl : p.Parts.length ≤ 16) (J : List TPart → List TPart → Option Bool) : ∀ n (i : Nat), i ≤ p.Parts.length → p.Parts.length < n + i →
    F_clockworklaw30_RouteMoves_L2 p x6 J n (placeN p.Parts (fun x => x.Node) i) (placeN p.Parts (fun _ => IntKind.i64.wrap ((1 : Int) + (remI (IntKind.i64.wrap x6) (16 : Int)))) i) (i : Int) =
      J (placeN p.Parts (fun x => x.Node) p.Parts.length) (placeN p.Parts (fun _ => IntKind.i64.wrap ((1 : Int) + (remI (IntKind.i64.wrap x6) (16 : Int)))) p.Parts.length)
  | 0, i, h1, h2 => by omega
  | n + 1, i, h1, h2 => by
    rw [F_clockworklaw30_RouteMoves_L2]
    by_cases hi : i < p.Parts.length
    · have ih := moves_L2 (x6 := x6) hl J n (i + 1) (by omega) (by omega)
      rw [placeN_succ, placeN_succ] at ih
      simp only [show (i : Int) < (p.Parts.length : Int) by omega, decide_true, cond_true, show 0 ≤ (i : Int) by omega, and_self, req_t, wrap_succ (show i < 9223372036854775807 by omega)]
      have e : ((i + 1 : Nat) : Int) = (i : Int) + 1 := by omega
      rw [e] at ih ⊢
      rw [req_pos (by simp only [List.length_append, placeN_len, List.length_cons, List.length_nil]; omega), req_pos (by simp only [List.length_append, placeN_len, List.length_cons, List.length_nil]; omega)]
      exact ih
    · have he : i = p.Parts.length := by omega
      subst he
      simp

theorem moves_L1 {p : TPlacement} (hl : p.Parts.length ≤ 16) (J : Bool → Option Bool) (b : Bool) :
    F_clockworklaw30_RouteMoves_L1 p J ((p.Parts.length : Int).toNat + 1) b 0 = J (b || p.Parts.any fun x => x.Dest != 0) := by
  refine (loopSeq (len := p.Parts.length) (by omega) (L := fun n s i => F_clockworklaw30_RouteMoves_L1 p J n s i) (S := fun i => ((p.Parts.take i).any fun x => x.Dest != 0) || b) (J := J) ?_ ?_ ((p.Parts.length : Int).toNat + 1) 0 (by omega) (by omega)).trans ?_
  · intro n i hi
    try dsimp only
    rw [F_clockworklaw30_RouteMoves_L1]
    simp only [show (i : Int) < (p.Parts.length : Int) by omega, decide_true, cond_true, show 0 ≤ (i : Int) by omega, and_self, implies_true, req_t]
    have e : ((((p.Parts.take (i + 1)).any fun x => x.Dest != 0) || b)) = ((((p.Parts.take i).any fun x => x.Dest != 0) || b) || (p.Parts[i].Dest != 0)) := by
      rw [List.take_add_one, List.getElem?_eq_getElem hi, List.any_append]
      simp only [Option.toList_some, List.any_cons, List.any_nil, Bool.or_false]
      cases ((p.Parts.take i).any fun x => x.Dest != 0) <;> cases b <;> simp
    rw [e, atI_nat hi]
    cases (((p.Parts.take i).any fun x => x.Dest != 0) || b) <;> simp
  · intro n
    try dsimp only
    rw [F_clockworklaw30_RouteMoves_L1]
    simp
  · rw [List.take_length, Bool.or_comm]

theorem set_ok {p : TPlacement} (hp : POk p) {v : Int} {g : TPart → Int} : POk ⟨v, placeN p.Parts g p.Parts.length⟩ := by
  refine ⟨by show (placeN p.Parts g p.Parts.length).length < _; rw [placeN_len]; exact hp.l, fun x hx => ?_⟩
  have hx : x ∈ placeN p.Parts g p.Parts.length := hx
  obtain ⟨i, hi, rfl⟩ := List.mem_map.1 hx
  have := hp.s _ (ap_mem (l := p.Parts) (i := i) (List.mem_range.1 hi))
  exact ⟨this.1, by simp [big]⟩

theorem plain_RouteMoves (x0 : TPlacement) (x1 : TFootprint) (x2 : Int) (o0 : okTPlacement x0) (o1 : okTFootprint x1) (o2 : (okI .u8) x2) : F_clockworklaw30_RouteMoves x0 x1 x2 = some true := by
  have hp := okP30 o0
  have hf := okF30 o1
  have hb : ∀ n : Nat, n ≤ 17 → n < big := fun n h => by have e : big = 9223372036854775808 := rfl; omega
  unfold F_clockworklaw30_RouteMoves
  rw [valid29_impl hp.l hp.s, bnd_mk, fvalid_impl hf, examples_true]
  cases h1 : pvB x0 with
  | false => rfl
  | true =>
    cases h2 : fvB x1 with
    | false => rfl
    | true =>
      have hP := pv_iff.1 h1
      obtain ⟨l1, l2⟩ := hP.len
      obtain ⟨v1, v2⟩ := hP.ver
      simp only [Bool.not_true, BEq.rfl, gcall_t, bnd_mk, Bool.or_self, cond_false, jn_mk]
      rw [req_pos (by decide)]
      have hL2 := fun J => moves_L2 (p := x0) (x6 := x2) l2 J ((((x0.Parts).length : Nat) : Int).toNat + 1) 0 (by omega) (by omega)
      have e0 : ((0 : Nat) : Int) = 0 := rfl
      simp only [e0] at hL2
      have hz : ∀ g, placeN x0.Parts g 0 = [] := fun g => rfl
      simp only [hz] at hL2
      rw [hL2]
      have hn : 1 ≤ IntKind.i64.wrap ((1 : Int) + (remI (IntKind.i64.wrap x2) (16 : Int))) ∧ IntKind.i64.wrap ((1 : Int) + (remI (IntKind.i64.wrap x2) (16 : Int))) ≤ 16 := by
        obtain ⟨a, b⟩ := o2
        have a : (0 : Int) ≤ x2 := a
        have b : x2 ≤ 255 := b
        rw [w64 (show -9223372036854775808 ≤ x2 by omega) (by omega)]
        unfold remI
        rw [Int.tmod_eq_emod_of_nonneg a]
        rw [w64 (by omega) (by omega)]
        omega
      generalize IntKind.i64.wrap ((1 : Int) + (remI (IntKind.i64.wrap x2) (16 : Int))) = n at hn ⊢
      have hone := one_exec hP hn h2
      have hpo : pvB ⟨x0.Version, placeN x0.Parts (fun _ => n) x0.Parts.length⟩ = true := pv_iff.2 (set_pv (g := fun _ => n) hP hP.ver (fun _ _ => hn))
      have hwv : IntKind.i64.wrap (x0.Version + (1 : Int)) = x0.Version + 1 := w64 (by omega) (by omega)
      rw [hwv]
      have hq : x0.Version < 1099511627776 → PV (x0.Version + 1) (placeN x0.Parts (fun x => x.Node) x0.Parts.length) := fun h => set_pv hP (by omega) (fun i hi => hP.node i hi)
      have hqv := valid29_impl (p := ⟨x0.Version + 1, placeN x0.Parts (fun x => x.Node) x0.Parts.length⟩) (set_ok hp).l (set_ok hp).s
      rw [hqv, valid29_impl (p := ⟨x0.Version, placeN x0.Parts (fun _ => n) x0.Parts.length⟩) (set_ok hp).l (set_ok hp).s, hpo, local30_impl (set_ok hp) hf, hone.1, exec30_impl (set_ok hp) hf, hone.2]
      have hn1 : ([n] : List Int).length < big := by simp [big]
      have hA : ∀ k : Bool → Option Bool, bnd (gcall ((decide (x0.Version < (1099511627776 : Int))) == true) (some (pvB ⟨x0.Version + 1, placeN x0.Parts (fun x => x.Node) x0.Parts.length⟩))) k = k (decide (x0.Version < (1099511627776 : Int)) && true) ∨
          (decide (x0.Version < (1099511627776 : Int)) = false) := fun k => by
        by_cases hlt : x0.Version < 1099511627776
        · left
          rw [pv_iff.2 (show PV _ _ from hq hlt)]
          simp [hlt, gcall, bnd]
        · right; simp [hlt]
      have key : ∀ x27 : Bool, (decide (x0.Version < (1099511627776 : Int)) && (!x27)) = false → ∀ k : Bool → Bool → Bool → Option Bool, True := fun _ _ _ => trivial
      -- the first test goes through
      have hx27 : ∃ b : Bool, gcall ((decide (x0.Version < (1099511627776 : Int))) == true) (some (pvB ⟨x0.Version + 1, placeN x0.Parts (fun x => x.Node) x0.Parts.length⟩)) = some b ∧ (decide (x0.Version < (1099511627776 : Int)) && (!b)) = false := by
        by_cases hlt : x0.Version < 1099511627776
        · refine ⟨true, ?_, by simp⟩
          rw [pv_iff.2 (show PV _ _ from hq hlt)]
          simp [hlt, gcall]
        · exact ⟨default, by simp [hlt, gcall], by simp [hlt]⟩
      obtain ⟨b, hb1, hb2⟩ := hx27
      rw [hb1, bnd_mk, hb2]
      simp only [BEq.rfl, gcall_t, bnd_mk, same_self30 hn1, Bool.not_true, Bool.or_self, cond_false]
      rw [moves_L1 l2]
      by_cases hm : x0.Version = 1099511627776
      · simp [hm, gcall, bnd]
      · have hvb : (x0.Version == (1099511627776 : Int)) = false := by rw [beq_eq_false_iff_ne]; exact hm
        rw [hvb, Bool.false_or]
        cases hd : (x0.Parts.any fun x => x.Dest != 0) with
        | true => simp [gcall, bnd]
        | false =>
          have hd' : ∀ i, i < x0.Parts.length → (ap x0.Parts i).Dest = 0 := fun i hi => by
            have := List.any_eq_false.1 hd _ (ap_mem hi)
            simpa using this
          have hs := still_all hP (hq (by omega)) hd' x1
          have hs1 : nodes30 ⟨x0.Version + 1, placeN x0.Parts (fun x => x.Node) x0.Parts.length⟩ x1 = nodes30 x0 x1 := hs.1
          have hs2 : exec30 ⟨x0.Version + 1, placeN x0.Parts (fun x => x.Node) x0.Parts.length⟩ x1 = exec30 x0 x1 := hs.2
          simp only [BEq.rfl, gcall_t, nodes30_impl hp hf, nodes30_impl (set_ok hp) hf, hs1, exec30_impl hp hf, exec30_impl (set_ok hp) hf, hs2, bnd_mk, same_self30 (hb _ nodes30_len), same_self30 (hb _ exec30_len), Bool.and_self, Bool.or_true]

end Go.Proofs.Ytkbldnpifmjipaa
