/-
  PLAIN TEXTS OF CHAPTERS 31 TO 33 FOR 35 (merged): states, shards, moves
  Conditions: none.
-/
import Derived.Test.YtglnnhmmipopiaaGreatOr
set_option linter.all false
namespace Go.Proofs.YtglnnhmmipopiaaGreat
def ascI (l : List Int) : Prop := l.Pairwise (· < ·)
variable {p : TPlacement}
end Go.Proofs.YtglnnhmmipopiaaGreat
namespace Go.Proofs.YtglnnhmmipopiaaGreat

/-! ### Lists of keys that ascend -/
theorem asc_iff {l : List Str} : ascB l = true ↔ (∀ k ∈ l, kvB k = true) ∧ l.Pairwise (fun a b => sLt a b = true) := by
  have hstep : ascB l = true ↔ ∀ i, i < l.length → kvB (atI l (i : Int)) = true ∧ (0 < i → sLt (atI l ((i : Int) - 1)) (atI l (i : Int)) = true) := by
    unfold ascB
    rw [Bool.not_eq_true', List.any_eq_false]
    constructor
    · intro h i hi
      have := h i (List.mem_range.2 hi)
      simp only [ascBad, Bool.not_eq_true, Bool.or_eq_false_iff, Bool.not_eq_false', Bool.and_eq_false_iff, decide_eq_false_iff_not] at this
      refine ⟨this.1, fun h0 => ?_⟩
      rcases this.2 with h | h
      · exact absurd h0 h
      · exact h
    · intro h i hi
      obtain ⟨h1, h2⟩ := h i (List.mem_range.1 hi)
      simp only [ascBad, Bool.not_eq_true, Bool.or_eq_false_iff, Bool.not_eq_false', Bool.and_eq_false_iff, decide_eq_false_iff_not]
      refine ⟨h1, ?_⟩
      by_cases h0 : 0 < i
      · exact .inr (h2 h0)
      · exact .inl h0
  rw [hstep]
  constructor
  · intro h
    refine ⟨fun k hk => ?_, ?_⟩
    · obtain ⟨i, hi, rfl⟩ := List.mem_iff_getElem.1 hk
      have := (h i hi).1
      rwa [atI_nat hi] at this
    · rw [List.pairwise_iff_getElem]
      have key : ∀ j (hj : j < l.length) i (hi : i < j), sLt (l[i]'(by omega)) l[j] = true := by
        intro j
        induction j with
        | zero => intro _ i hi; omega
        | succ j ih =>
          intro hj i hi
          have hs := (h (j + 1) hj).2 (by omega)
          have e : ((j + 1 : Nat) : Int) - 1 = ((j : Nat) : Int) := by omega
          rw [e, atI_nat (show j < l.length by omega), atI_nat hj] at hs
          by_cases hij : i = j
          · subst hij; exact hs
          · exact sLt_trans (ih (by omega) i (by omega)) hs
      exact fun i j _ hj hij => key j hj i hij
  · rintro ⟨h1, h2⟩ i hi
    refine ⟨h1 _ (at_mem29 hi), fun h0 => ?_⟩
    have e : (i : Int) - 1 = ((i - 1 : Nat) : Int) := by omega
    rw [e, atI_nat (show i - 1 < l.length by omega), atI_nat hi]
    exact List.pairwise_iff_getElem.1 h2 (i - 1) i _ _ (by omega)
variable {p : TPlacement}
end Go.Proofs.YtglnnhmmipopiaaGreat
namespace Go.Proofs.YtglnnhmmipopiaaGreat
variable {p : TPlacement}
end Go.Proofs.YtglnnhmmipopiaaGreat
namespace Go.Proofs.YtglnnhmmipopiaaGreat
open Go.ChangeShapes

/-! ### Elements of lists -/
def ap {α : Type} [Inhabited α] (l : List α) (i : Nat) : α := atI l (i : Int)
theorem ap_get {α : Type} [Inhabited α] {l : List α} {i : Nat} (h : i < l.length) : ap l i = l[i] := atI_nat h
theorem ap_take {α : Type} [Inhabited α] (l : List α) {n i : Nat} (h : i < n) : ap (l.take n) i = ap l i := by
  simp only [ap, atI, Int.toNat_natCast, List.getD_eq_getElem?_getD]
  rw [List.getElem?_take_of_lt h]
theorem ap_mem {α : Type} [Inhabited α] {l : List α} {i : Nat} (h : i < l.length) : ap l i ∈ l := at_mem29 h
theorem mem_ap {α : Type} [Inhabited α] {l : List α} {x : α} (h : x ∈ l) : ∃ i, i < l.length ∧ ap l i = x := by
  obtain ⟨i, h1, h2⟩ := List.mem_iff_getElem.1 h
  exact ⟨i, h1, by rw [ap_get h1, h2]⟩

/-! ### Valid placements -/
structure MovOk (x : TPart) (next : Str) (last : Bool) : Prop where
  done : x.Dest = 0 → x.Done = []
  dest : x.Dest ≠ 0 → 1 ≤ x.Dest ∧ x.Dest ≤ 16 ∧ x.Dest ≠ x.Node ∧ boundB x.Done = true ∧ sLt x.Done x.From = false ∧ (last = true ∨ sLt x.Done next = true)
theorem mov_iff {x : TPart} {next : Str} {last : Bool} : movesB x next last = true ↔ MovOk x next last := by
  unfold movesB
  by_cases h : x.Dest = 0
  · simp only [h, BEq.rfl, cond_true, beq_iff_eq]
    exact ⟨fun e => ⟨fun _ => e, fun hn => absurd h hn⟩, fun m => m.done h⟩
  · have h' : (x.Dest == 0) = false := by simpa using h
    simp only [h', cond_false, Bool.and_eq_true, decide_eq_true_eq, Bool.or_eq_true, Bool.not_eq_true', bne_iff_ne, ne_eq]
    constructor
    · rintro ⟨⟨⟨⟨⟨a, b⟩, c⟩, d⟩, e⟩, f⟩
      exact ⟨fun h0 => absurd h0 h, fun _ => ⟨a, b, c, d, e, f⟩⟩
    · intro m
      obtain ⟨a, b, c, d, e, f⟩ := m.dest h
      exact ⟨⟨⟨⟨⟨a, b⟩, c⟩, d⟩, e⟩, f⟩
structure PV (v : Int) (l : List TPart) : Prop where
  ver : 0 ≤ v ∧ v ≤ 1099511627776
  len : 1 ≤ l.length ∧ l.length ≤ 16
  head : (ap l 0).From = []
  bnd : ∀ i, i < l.length → boundB (ap l i).From = true
  asc : ∀ i, i + 1 < l.length → sLt (ap l i).From (ap l (i + 1)).From = true
  id : ∀ i, i < l.length → 1 ≤ (ap l i).Id ∧ (ap l i).Id ≤ 1099511627776
  node : ∀ i, i < l.length → 1 ≤ (ap l i).Node ∧ (ap l i).Node ≤ 16
  mov : ∀ i, i < l.length → MovOk (ap l i) (nextF l i) (decide (i + 1 = l.length))
  uniq : ∀ i j, j < i → i < l.length → (ap l j).Id ≠ (ap l i).Id
theorem any_take_id {l : List TPart} {i : Nat} (hi : i ≤ l.length) {d : Int} : ((l.take i).any fun y => y.Id == d) = false ↔ ∀ j, j < i → (ap l j).Id ≠ d := by
  rw [List.any_eq_false]
  constructor
  · intro h j hj
    have := h (ap (l.take i) j) (ap_mem (by simp; omega))
    rw [ap_take l hj] at this
    simpa using this
  · intro h x hx
    obtain ⟨j, h1, rfl⟩ := mem_ap hx
    have hj : j < i := by simp at h1; omega
    rw [ap_take l hj]
    simpa using h j hj
theorem pv_iff {p : TPlacement} : pvB p = true ↔ PV p.Version p.Parts := by
  have hbad : ∀ i, i < p.Parts.length → (badPart p.Parts i = false ↔ boundB (ap p.Parts i).From = true ∧ (0 < i → sLt (ap p.Parts (i - 1)).From (ap p.Parts i).From = true) ∧ (1 ≤ (ap p.Parts i).Id ∧ (ap p.Parts i).Id ≤ 1099511627776) ∧ (1 ≤ (ap p.Parts i).Node ∧ (ap p.Parts i).Node ≤ 16) ∧
      MovOk (ap p.Parts i) (nextF p.Parts i) (decide (i + 1 = p.Parts.length)) ∧ ∀ j, j < i → (ap p.Parts j).Id ≠ (ap p.Parts i).Id) := by
    intro i hi
    rw [← mov_iff, ← any_take_id (by omega)]
    have e : 0 < i → atI p.Parts ((i : Int) - 1) = ap p.Parts (i - 1) := fun h0 => by
      unfold ap
      congr 1
      omega
    unfold badPart
    simp only [Bool.or_eq_false_iff, Bool.not_eq_false', decide_eq_false_iff_not, Bool.and_eq_false_iff]
    constructor
    · rintro ⟨⟨⟨⟨⟨⟨⟨a, b⟩, c⟩, d⟩, f⟩, g⟩, m⟩, u⟩
      refine ⟨a, fun h0 => ?_, ⟨by unfold ap; omega, by unfold ap; omega⟩, ⟨by unfold ap; omega, by unfold ap; omega⟩, m, u⟩
      rcases b with b | b
      · exact absurd h0 b
      · rw [← e h0]; exact b
    · rintro ⟨a, b, c, d, m, u⟩
      unfold ap at c d
      refine ⟨⟨⟨⟨⟨⟨⟨a, ?_⟩, by omega⟩, by omega⟩, by omega⟩, by omega⟩, m⟩, u⟩
      by_cases h0 : 0 < i
      · right; rw [e h0]; exact b h0
      · exact .inl h0
  unfold pvB headBad
  simp only [Bool.and_eq_true, Bool.not_eq_true', Bool.or_eq_false_iff, decide_eq_false_iff_not, beq_iff_eq, List.any_eq_false, List.mem_range, Bool.not_eq_true]
  constructor
  · rintro ⟨⟨⟨⟨⟨a, b⟩, c⟩, d⟩, e⟩, f⟩
    have g := fun i hi => (hbad i hi).1 (f i hi)
    refine ⟨⟨by omega, by omega⟩, ⟨by omega, by omega⟩, e, fun i hi => (g i hi).1, fun i hi => ?_, fun i hi => (g i hi).2.2.1, fun i hi => (g i hi).2.2.2.1, fun i hi => (g i hi).2.2.2.2.1, fun i j hj hi => (g i hi).2.2.2.2.2 j hj⟩
    exact (g (i + 1) hi).2.1 (by omega)
  · intro h
    obtain ⟨h1, h2⟩ := h.ver
    obtain ⟨h3, h4⟩ := h.len
    refine ⟨⟨⟨⟨⟨by omega, by omega⟩, by omega⟩, by omega⟩, h.head⟩, fun i hi => (hbad i hi).2 ⟨h.bnd i hi, fun h0 => ?_, h.id i hi, h.node i hi, h.mov i hi, fun j hj => h.uniq i j hj hi⟩⟩
    have := h.asc (i - 1) (by omega)
    rwa [show i - 1 + 1 = i by omega] at this
theorem nextF_eq {l : List TPart} {i : Nat} (h : i + 1 < l.length) : nextF l i = (ap l (i + 1)).From := by simp [nextF, h, ap]
theorem nextF_last {l : List TPart} {i : Nat} (h : ¬ i + 1 < l.length) : nextF l i = [] := by simp [nextF, h]

/-! ### The order of strings, once more -/
theorem sLt_le_trans {a b c : Str} (h1 : sLt a b = true) (h2 : sLt c b = false) : sLt a c = true := by
  by_cases h : sLt c a = true
  · have := sLt_trans h h1
    rw [h2] at this; simp at this
  · by_cases h3 : sLt a c = true
    · exact h3
    · have := sLt_conn (by simpa using h) (by simpa using h3)
      subst this
      rw [h2] at h1; simp at h1
theorem le_sLt_trans {a b c : Str} (h1 : sLt b a = false) (h2 : sLt b c = true) : sLt a c = true := by
  by_cases h : sLt a b = true
  · exact sLt_trans h h2
  · have := sLt_conn (by simpa using h) h1
    rw [this]; exact h2
theorem le_le_trans {a b c : Str} (h1 : sLt b a = false) (h2 : sLt c b = false) : sLt c a = false := by
  by_cases h : sLt c a = true
  · have := sLt_le_trans h h1
    rw [h2] at this; simp at this
  · simpa using h
theorem sLt_asymm' {a b : Str} (h : sLt a b = true) : sLt b a = false := by
  by_cases h2 : sLt b a = true
  · have := sLt_trans h h2
    rw [sLt_irrefl] at this; simp at this
  · simpa using h2

/-! ### The partition of a key -/
structure InPart (l : List TPart) (i : Nat) (key : Str) : Prop where
  lt : i < l.length
  lo : sLt key (ap l i).From = false
  hi : i + 1 < l.length → sLt key (ap l (i + 1)).From = true
theorem PV.asc_le {v : Int} {l : List TPart} (h : PV v l) {i : Nat} : ∀ {j : Nat}, i ≤ j → j < l.length → sLt (ap l j).From (ap l i).From = false
  | 0, hij, _ => by
    obtain rfl : i = 0 := by omega
    exact sLt_irrefl _
  | j + 1, hij, hj => by
    by_cases he : i = j + 1
    · subst he; exact sLt_irrefl _
    · have h1 := PV.asc_le h (i := i) (j := j) (by omega) (by omega)
      have h2 := sLt_asymm' (h.asc j hj)
      exact le_le_trans h1 h2
theorem PV.asc_lt {v : Int} {l : List TPart} (h : PV v l) {i j : Nat} (hij : i < j) (hj : j < l.length) : sLt (ap l i).From (ap l j).From = true := by
  have h1 := h.asc i (by omega)
  have h2 := h.asc_le (i := i + 1) (j := j) (by omega) hj
  exact sLt_le_trans h1 h2
theorem InPart.unique {v : Int} {l : List TPart} (h : PV v l) {i j : Nat} {key : Str} (h1 : InPart l i key) (h2 : InPart l j key) : i = j := by
  have go : ∀ {i j : Nat}, InPart l i key → InPart l j key → ¬ i < j := by
    intro i j h1 h2 hij
    have hj := h2.lt
    have a := h1.hi (by omega)
    have b := h.asc_le (i := i + 1) (j := j) (by omega) hj
    have c := sLt_le_trans a b
    rw [h2.lo] at c; simp at c
  have a := go h1 h2
  have b := go h2 h1
  omega
theorem lastLe_in {v : Int} {l : List TPart} (h : PV v l) (key : Str) : ∀ n, 1 ≤ n → n ≤ l.length → (n < l.length → sLt key (ap l n).From = true) → InPart l (lastLe l key n).toNat key ∧ 0 ≤ lastLe l key n
  | 0, h1, _, _ => by omega
  | k + 1, _, h2, h3 => by
    simp only [lastLe]
    by_cases hk : k = 0
    · subst hk
      simp only [if_true]
      refine ⟨⟨by simp; omega, ?_, fun hi => h3 hi⟩, by omega⟩
      have : (ap l 0).From = [] := h.head
      show sLt key (ap l 0).From = false
      rw [this]
      exact sLt_nil _
    · simp only [hk, if_false]
      by_cases hs : sLt key (ap l k).From = false
      · have hs' : sLt key (atI l (k : Int)).From = false := hs
        rw [if_pos hs']
        exact ⟨⟨by simp; omega, by simpa using hs, fun hi => by simpa using h3 (by simpa using hi)⟩, by omega⟩
      · have hs' : ¬ sLt key (atI l (k : Int)).From = false := hs
        rw [if_neg hs']
        exact lastLe_in h key k (by omega) (by omega) (fun _ => by simpa using hs)
theorem index_in {p : TPlacement} (h : PV p.Version p.Parts) (key : Str) : ∃ i : Nat, indexP p key = (i : Int) ∧ InPart p.Parts i key := by
  have hp := pv_iff.2 h
  obtain ⟨h1, h2⟩ := lastLe_in h key p.Parts.length h.len.1 (Nat.le_refl _) (fun hn => by omega)
  refine ⟨(lastLe p.Parts key p.Parts.length).toNat, ?_, h1⟩
  unfold indexP
  rw [if_neg (by rw [hp]; simp)]
  omega
theorem index_of {p : TPlacement} (h : PV p.Version p.Parts) {key : Str} {i : Nat} (hi : InPart p.Parts i key) : indexP p key = (i : Int) := by
  obtain ⟨j, h1, h2⟩ := index_in h key
  rw [h1, InPart.unique h h2 hi]
def partOwner (x : TPart) (key : Str) : Int := if ((x.Dest != 0) && (sLt key x.Done)) = true then x.Dest else x.Node
theorem owner_of {p : TPlacement} (h : PV p.Version p.Parts) {key : Str} {i : Nat} (hi : InPart p.Parts i key) : ownerP p key = partOwner (ap p.Parts i) key := by
  unfold ownerP partOwner ap
  rw [index_of h hi, if_neg (by omega)]
theorem findP_spec {l : List TPart} {d : Int} {k : Nat} (h : findP l d = (k : Int)) : k < l.length ∧ (ap l k).Id = d := by
  unfold findP at h
  have go : ∀ (m : List TPart) (i : Nat), firstIx (fun x : TPart => x.Id == d) m i = (k : Int) → ∃ j, k = i + j ∧ j < m.length ∧ (ap m j).Id = d := by
    intro m
    induction m with
    | nil => intro i h; simp only [firstIx] at h; omega
    | cons x m ih =>
      intro i h
      simp only [firstIx] at h
      split at h
      · rename_i hx
        exact ⟨0, by omega, by simp, by show x.Id = d; simpa using hx⟩
      · obtain ⟨j, h1, h2, h3⟩ := ih (i + 1) h
        exact ⟨j + 1, by omega, by simpa using h2, h3⟩
  obtain ⟨j, h1, h2, h3⟩ := go l 0 h
  obtain rfl : k = j := by omega
  exact ⟨h2, h3⟩
theorem findP_of {v : Int} {l : List TPart} (h : PV v l) {k : Nat} (hk : k < l.length) : findP l (ap l k).Id = (k : Int) := by
  by_cases hn : findP l (ap l k).Id < 0
  · have h1 := firstIx_nonneg (fun x : TPart => x.Id == (ap l k).Id) l 0
    have h2 : (l.any fun x => x.Id == (ap l k).Id) = true := by
      rw [List.any_eq_true]
      exact ⟨ap l k, ap_mem hk, by simp⟩
    rw [h2] at h1
    unfold findP at hn
    simp only [decide_eq_true_eq] at h1
    omega
  · obtain ⟨j, h1⟩ : ∃ j : Nat, findP l (ap l k).Id = (j : Int) := ⟨(findP l (ap l k).Id).toNat, by omega⟩
    obtain ⟨h2, h3⟩ := findP_spec h1
    rw [h1]
    rcases Nat.lt_trichotomy j k with g | g | g
    · exact absurd h3 (h.uniq k j g hk)
    · rw [g]
    · exact absurd h3.symm (h.uniq j k g h2)
theorem findP_none {l : List TPart} {d : Int} : findP l d < 0 ↔ ∀ i, i < l.length → (ap l i).Id ≠ d := by
  have h1 := firstIx_nonneg (fun x : TPart => x.Id == d) l 0
  unfold findP
  constructor
  · intro h i hi hd
    have : (l.any fun x => x.Id == d) = true := by
      rw [List.any_eq_true]; exact ⟨ap l i, ap_mem hi, by simpa using hd⟩
    rw [this] at h1
    simp only [decide_eq_true_eq] at h1
    omega
  · intro h
    have : (l.any fun x => x.Id == d) = false := by
      rw [List.any_eq_false]
      intro x hx
      obtain ⟨i, hi, rfl⟩ := mem_ap hx
      simpa using h i hi
    rw [this] at h1
    simp only [decide_eq_false_iff_not] at h1
    omega
end Go.Proofs.YtglnnhmmipopiaaGreat
namespace Go.Proofs.YtglnnhmmipopiaaGreat
structure PrOk (m : List TPair) : Prop where
  l : m.length < 9223372036854775808
  k : ∀ x ∈ m, x.Key.length < big ∧ x.Val.S.length < big
theorem PrOk.nil : PrOk [] := ⟨by decide, by simp⟩
theorem PrOk.sub {a b : List TPair} (h : PrOk a) (hl : b.length < 9223372036854775808) (hs : ∀ x ∈ b, x ∈ a) : PrOk b := ⟨hl, fun x hx => h.k x (hs x hx)⟩

/-! ### Values -/
def plainB (s : Str) : Bool := decide (s.length ≤ 64) && !((List.range s.length).any fun i => decide (byteAt s i < 32) || decide (126 < byteAt s i))
theorem plain_impl {s : Str} (hs : s.length < big) : F_value_plain s = some (plainB s) := by
  unfold F_value_plain
  simp only [jn_mk]
  have e2 : decide ((s.length : Int) ≤ 64) = decide (s.length ≤ 64) := by rw [Bool.eq_iff_iff]; simp; omega
  rw [e2]
  refine (loopRng (len := s.length) (L := fun n i => F_value_plain_L1 s (some (decide (s.length ≤ 64))) n i) (q := fun i => decide (byteAt s i < 32) || decide (126 < byteAt s i)) (E := some false) (J := some (decide (s.length ≤ 64))) hs (by omega) ?_ ?_).trans ?_
  · intro n i hi
    try dsimp only
    rw [F_value_plain_L1]
    simp only [show (i : Int) < (s.length : Int) by omega, decide_true, cond_true, show 0 ≤ (i : Int) by omega, true_and, implies_true, req_t, Int.toNat_natCast]
  · intro n
    try dsimp only
    rw [F_value_plain_L1]
    simp
  · rw [plainB]
    cases ((List.range s.length).any fun i => decide (byteAt s i < 32) || decide (126 < byteAt s i)) <;> simp
theorem plain_ref {s : Str} (hs : s.length < big) : F_clockworkref05_Plain s = some (plainB s) := by
  unfold F_clockworkref05_Plain
  simp only [jn_mk]
  by_cases h2 : (64 : Int) < (s.length : Int)
  · simp [h2, plainB, show ¬ s.length ≤ 64 by omega]
  simp only [h2, decide_false, cond_false]
  refine (loopRng (len := s.length) (L := fun n i => F_clockworkref05_Plain_L1 s (some true) n i) (q := fun i => decide (byteAt s i < 32) || decide (126 < byteAt s i)) (E := some false) (J := some true) hs (by omega) ?_ ?_).trans ?_
  · intro n i hi
    try dsimp only
    rw [F_clockworkref05_Plain_L1]
    simp only [show (i : Int) < (s.length : Int) by omega, decide_true, cond_true, show 0 ≤ (i : Int) by omega, true_and, implies_true, req_t, Int.toNat_natCast]
  · intro n
    try dsimp only
    rw [F_clockworkref05_Plain_L1]
    simp
  · simp only [plainB, show s.length ≤ 64 by omega, decide_true, Bool.true_and]
    cases ((List.range s.length).any fun i => decide (byteAt s i < 32) || decide (126 < byteAt s i)) <;> rfl
def vvB (v : TValue) : Bool := cond (v.Kind == 0) ((v.N == 0) && (v.S == ([] : Str))) (cond (v.Kind == 1) (v.S == ([] : Str)) (((v.Kind == 2) && (v.N == 0)) && plainB v.S))
theorem vvalid_impl {v : TValue} (hs : v.S.length < big) : F_value_Valid v = some (vvB v) := by
  unfold F_value_Valid vvB
  rw [plain_impl hs]
  cases h0 : v.Kind == 0 with
  | true => simp
  | false =>
    cases h1 : v.Kind == 1 with
    | true => simp
    | false =>
      cases h2 : v.Kind == 2 with
      | false => simp
      | true =>
        cases h3 : v.N == 0 with
        | false => simp [gcall, bnd]
        | true => simp [gcall, bnd]
theorem vvalid_ref {v : TValue} (hs : v.S.length < big) : F_clockworkref05_Valid v = some (vvB v) := by
  unfold F_clockworkref05_Valid vvB
  rw [plain_ref hs]
  cases h0 : v.Kind == 0 with
  | true => simp
  | false =>
    cases h1 : v.Kind == 1 with
    | true => simp
    | false =>
      cases h2 : v.Kind == 2 with
      | false => simp [gcall, bnd]
      | true =>
        cases h3 : v.N == 0 with
        | false => simp [gcall, bnd]
        | true => simp [gcall, bnd]

/-! ### Pairs -/
def prBad (l : List TPair) (i : Nat) : Bool := (!kvB (atI l (i : Int)).Key || !vvB (atI l (i : Int)).Val) || (decide (0 < i) && !sLt (atI l ((i : Int) - 1)).Key (atI l (i : Int)).Key)
def srtB (l : List TPair) : Bool := !((List.range l.length).any fun i => prBad l i)
def staB (l : List TPair) : Bool := srtB l && !(l.any fun x => x.Val.Kind == 0)
theorem sorted_impl {l : List TPair} (h : PrOk l) : F_state_sorted l = some (srtB l) := by
  have hl := h.l
  unfold F_state_sorted
  simp only [jn_mk]
  refine (loopRng (len := l.length) hl (L := fun n i => F_state_sorted_L1 l (some true) n i) (q := fun i => prBad l i) (E := some false) (J := some true) (by omega) ?_ ?_).trans ?_
  · intro n i hi
    have hm := h.k _ (at_mem29 hi)
    try dsimp only
    rw [F_state_sorted_L1]
    simp only [show (i : Int) < (l.length : Int) by omega, decide_true, cond_true, show 0 ≤ (i : Int) by omega, true_and, implies_true, req_t, keys_impl hm.1, bnd_mk]
    rw [vvalid_impl (v := ⟨(atI l (i : Int)).Val.Kind, (atI l (i : Int)).Val.N, (atI l (i : Int)).Val.S⟩) hm.2]
    cases hk : kvB (atI l (i : Int)).Key with
    | false => simp [prBad, hk, req, gcall, bnd]
    | true =>
      simp only [Bool.not_true, BEq.rfl, gcall_t, bnd_mk, Bool.false_or]
      rw [show vvB ⟨(atI l (i : Int)).Val.Kind, (atI l (i : Int)).Val.N, (atI l (i : Int)).Val.S⟩ = vvB (atI l (i : Int)).Val from rfl]
      cases hv : vvB (atI l (i : Int)).Val with
      | false => simp [prBad, hk, hv, req]
      | true =>
        by_cases h0 : 0 < i
        · have h0' : (0 : Int) < (i : Int) := by omega
          simp only [h0', decide_true, BEq.rfl, Bool.not_true, Bool.and_self, forall_const, wrap_pred h0 (by omega), Bool.true_and, Bool.false_or, prBad, hk, hv, h0, cond_true, Bool.or_self]
          rw [req_pos (by omega)]
        · have h0' : ¬ (0 : Int) < (i : Int) := by omega
          simp [h0', prBad, hk, hv, h0, req]
  · intro n
    try dsimp only
    rw [F_state_sorted_L1]
    simp
  · rw [srtB]
    cases ((List.range l.length).any fun i => prBad l i) <;> rfl
theorem svalid_impl {l : List TPair} (h : PrOk l) : F_state_Valid l = some (staB l) := by
  have hl := h.l
  unfold F_state_Valid F_slices_ContainsFunc_api_Pair_api_Pair F_slices_IndexFunc_api_Pair_api_Pair
  rw [sorted_impl h]
  simp only [jn_mk, bnd_mk]
  rw [loopHas (l := l) hl (L := fun n i => F_slices_IndexFunc_api_Pair_api_Pair_L1 l (fun y0 => F_state_absent y0) (some (-1)) n i) (q := fun x => x.Val.Kind == 0) ?_ ?_ (by omega)]
  · rw [staB]
    cases srtB l <;> simp [gcall, bnd]
  · intro n i hi
    try dsimp only
    rw [F_slices_IndexFunc_api_Pair_api_Pair_L1]
    simp only [show (i : Int) < (l.length : Int) by omega, decide_true, cond_true, show 0 ≤ (i : Int) by omega, and_self, req_t, F_state_absent, bnd_mk, atI_nat hi]
  · intro n
    try dsimp only
    rw [F_slices_IndexFunc_api_Pair_api_Pair_L1]
    simp
end Go.Proofs.YtglnnhmmipopiaaGreat
namespace Go.Proofs.YtglnnhmmipopiaaGreat
theorem cmp_lt : ∀ a b : List UInt8, (Go.Lib.compareBytes a b < 0 ↔ sLt a b = true) ∧ (0 < Go.Lib.compareBytes a b ↔ sLt b a = true)
  | [], [] => by simp [Go.Lib.compareBytes, sLt, Op.bytesLess]
  | [], _ :: _ => by simp [Go.Lib.compareBytes, sLt, Op.bytesLess]
  | _ :: _, [] => by simp [Go.Lib.compareBytes, sLt, Op.bytesLess]
  | x :: a, y :: b => by
    obtain ⟨h1, h2⟩ := cmp_lt a b
    rw [sLt_cons, sLt_cons, Go.Lib.compareBytes]
    simp only [UInt8.lt_iff_toNat_lt]
    by_cases h : x.toNat < y.toNat
    · simp [h, show ¬ y.toNat < x.toNat by omega, show ¬ y.toNat = x.toNat by omega]
    · by_cases h' : y.toNat < x.toNat
      · simp [h, h', show ¬ x.toNat = y.toNat by omega]
      · have e : x.toNat = y.toNat := by omega
        simp [h, h', e, h1, h2]
theorem srt_iff {l : List TPair} : srtB l = true ↔ (∀ x ∈ l, kvB x.Key = true ∧ vvB x.Val = true) ∧ l.Pairwise (fun a b => sLt a.Key b.Key = true) := by
  have hstep : srtB l = true ↔ ∀ i, i < l.length → (kvB (atI l (i : Int)).Key = true ∧ vvB (atI l (i : Int)).Val = true) ∧ (0 < i → sLt (atI l ((i : Int) - 1)).Key (atI l (i : Int)).Key = true) := by
    unfold srtB
    rw [Bool.not_eq_true', List.any_eq_false]
    constructor
    · intro h i hi
      have := h i (List.mem_range.2 hi)
      simp only [prBad, Bool.not_eq_true, Bool.or_eq_false_iff, Bool.not_eq_false', Bool.and_eq_false_iff, decide_eq_false_iff_not] at this
      refine ⟨this.1, fun h0 => ?_⟩
      rcases this.2 with h | h
      · exact absurd h0 h
      · exact h
    · intro h i hi
      obtain ⟨h1, h2⟩ := h i (List.mem_range.1 hi)
      simp only [prBad, Bool.not_eq_true, Bool.or_eq_false_iff, Bool.not_eq_false', Bool.and_eq_false_iff, decide_eq_false_iff_not]
      refine ⟨h1, ?_⟩
      by_cases h0 : 0 < i
      · exact .inr (h2 h0)
      · exact .inl h0
  rw [hstep]
  constructor
  · intro h
    refine ⟨fun k hk => ?_, ?_⟩
    · obtain ⟨i, hi, rfl⟩ := List.mem_iff_getElem.1 hk
      have := (h i hi).1
      rwa [atI_nat hi] at this
    · rw [List.pairwise_iff_getElem]
      have key : ∀ j (hj : j < l.length) i (hi : i < j), sLt (l[i]'(by omega)).Key l[j].Key = true := by
        intro j
        induction j with
        | zero => intro _ i hi; omega
        | succ j ih =>
          intro hj i hi
          have hs := (h (j + 1) hj).2 (by omega)
          have e : ((j + 1 : Nat) : Int) - 1 = ((j : Nat) : Int) := by omega
          rw [e, atI_nat (show j < l.length by omega), atI_nat hj] at hs
          by_cases hij : i = j
          · subst hij; exact hs
          · exact sLt_trans (ih (by omega) i (by omega)) hs
      exact fun i j _ hj hij => key j hj i hij
  · rintro ⟨h1, h2⟩ i hi
    refine ⟨h1 _ (at_mem29 hi), fun h0 => ?_⟩
    have e : (i : Int) - 1 = ((i - 1 : Nat) : Int) := by omega
    rw [e, atI_nat (show i - 1 < l.length by omega), atI_nat hi]
    exact List.pairwise_iff_getElem.1 h2 (i - 1) i _ _ (by omega)
def kAsc (l : List TPair) : Prop := l.Pairwise (fun a b => sLt a.Key b.Key = true)
def prGood (x : TPair) : Prop := kvB x.Key = true ∧ vvB x.Val = true ∧ x.Val.Kind ≠ 0
theorem sta_iff {l : List TPair} : staB l = true ↔ (∀ x ∈ l, prGood x) ∧ kAsc l := by
  unfold staB
  rw [Bool.and_eq_true, srt_iff, Bool.not_eq_true', List.any_eq_false]
  constructor
  · rintro ⟨⟨h1, h2⟩, h3⟩
    exact ⟨fun x hx => ⟨(h1 x hx).1, (h1 x hx).2, by simpa using h3 x hx⟩, h2⟩
  · rintro ⟨h1, h2⟩
    exact ⟨⟨fun x hx => ⟨(h1 x hx).1, (h1 x hx).2.1⟩, h2⟩, fun x hx => by simpa using (h1 x hx).2.2⟩
theorem ascending_ref {l : List TPair} (h : PrOk l) : F_clockworkref06_ascending l = some (ascB (l.map (·.Key))) := by
  have hl := h.l
  unfold F_clockworkref06_ascending
  simp only [jn_mk]
  refine (loopRng (len := l.length) hl (L := fun n i => F_clockworkref06_ascending_L1 l (some true) n i) (q := fun i => ascBad (l.map (·.Key)) i) (E := some false) (J := some true) (by omega) ?_ ?_).trans ?_
  · intro n i hi
    have hm := h.k _ (at_mem29 hi)
    have ek : atI (l.map (·.Key)) (i : Int) = (atI l (i : Int)).Key := by rw [atI_nat (by simpa using hi), atI_nat hi]; simp
    try dsimp only
    rw [F_clockworkref06_ascending_L1]
    simp only [show (i : Int) < (l.length : Int) by omega, decide_true, cond_true, show 0 ≤ (i : Int) by omega, true_and, implies_true, req_t, keys_ref hm.1, bnd_mk]
    cases hk : kvB (atI l (i : Int)).Key with
    | false => simp [ascBad, ek, hk, req]
    | true =>
      by_cases h0 : 0 < i
      · have h0' : (0 : Int) < (i : Int) := by omega
        have ek1 : atI (l.map (·.Key)) ((i : Int) - 1) = (atI l ((i : Int) - 1)).Key := by
          rw [show (i : Int) - 1 = ((i - 1 : Nat) : Int) by omega, atI_nat (by simp; omega), atI_nat (by omega)]; simp
        simp only [h0', decide_true, BEq.rfl, Bool.not_true, Bool.and_self, forall_const, wrap_pred h0 (by omega), Bool.true_and, Bool.false_or, ascBad, ek, ek1, hk, h0, cond_true]
        rw [req_pos (by omega)]
      · have h0' : ¬ (0 : Int) < (i : Int) := by omega
        simp [h0', ascBad, ek, hk, h0, req]
  · intro n
    try dsimp only
    rw [F_clockworkref06_ascending_L1]
    simp
  · rw [ascB, List.length_map]
    cases ((List.range l.length).any fun i => ascBad (l.map (·.Key)) i) <;> rfl
theorem srt_asc {l : List TPair} : srtB l = (ascB (l.map (·.Key)) && !(l.any fun x => !vvB x.Val)) := by
  rw [Bool.eq_iff_iff, srt_iff, Bool.and_eq_true, asc_iff, Bool.not_eq_true', List.any_eq_false]
  simp only [List.mem_map, forall_exists_index, and_imp, forall_apply_eq_imp_iff₂, List.pairwise_map]
  constructor
  · rintro ⟨h1, h2⟩
    exact ⟨⟨fun x hx => (h1 x hx).1, h2⟩, fun x hx => by simp [(h1 x hx).2]⟩
  · rintro ⟨⟨h1, h2⟩, h3⟩
    exact ⟨fun x hx => ⟨h1 x hx, by simpa using h3 x hx⟩, h2⟩
theorem vwrites_ref {l : List TPair} (h : PrOk l) : F_clockworkref06_ValidWrites l = some (srtB l) := by
  have hl := h.l
  unfold F_clockworkref06_ValidWrites
  rw [ascending_ref h, srt_asc]
  simp only [jn_mk, bnd_mk]
  refine (loopAny0 (l := l) hl (L := fun n i => F_clockworkref06_ValidWrites_L1 l (some (ascB (l.map (·.Key)))) n i) (q := fun x => !vvB x.Val) (E := some false) (J := some (ascB (l.map (·.Key)))) (n := (l.length : Int).toNat + 1) (by omega) ?_ ?_).trans ?_
  · intro n i hi
    have hm := h.k _ (List.getElem_mem hi)
    try dsimp only
    rw [F_clockworkref06_ValidWrites_L1]
    simp only [show (i : Int) < (l.length : Int) by omega, decide_true, cond_true, show 0 ≤ (i : Int) by omega, and_self, req_t, vvalid_ref hm.2, bnd_mk, atI_nat hi]
  · intro n
    try dsimp only
    rw [F_clockworkref06_ValidWrites_L1]
    simp
  · cases (l.any fun x => !vvB x.Val) <;> simp
theorem svalid_ref {l : List TPair} (h : PrOk l) : F_clockworkref06_Valid l = some (staB l) := by
  have hl := h.l
  unfold F_clockworkref06_Valid
  rw [vwrites_ref h]
  simp only [jn_mk, bnd_mk]
  refine (loopAny0 (l := l) hl (L := fun n i => F_clockworkref06_Valid_L1 l (some (srtB l)) n i) (q := fun x => x.Val.Kind == 0) (E := some false) (J := some (srtB l)) (by omega) ?_ ?_).trans ?_
  · intro n i hi
    try dsimp only
    rw [F_clockworkref06_Valid_L1]
    simp only [show (i : Int) < (l.length : Int) by omega, decide_true, cond_true, show 0 ≤ (i : Int) by omega, and_self, req_t, atI_nat hi]
  · intro n
    try dsimp only
    rw [F_clockworkref06_Valid_L1]
    simp
  · rw [staB]
    cases (l.any fun x => x.Val.Kind == 0) <;> simp
theorem has06 {l : List TPair} (hl : l.length < 9223372036854775808) (k : Str) : F_clockworkref06_Has l k = some (l.any fun x => x.Key == k) := by
  unfold F_clockworkref06_Has
  simp only [jn_mk]
  refine (loopAny0 (l := l) hl (L := fun n i => F_clockworkref06_Has_L1 l k (some false) n i) (q := fun x => x.Key == k) (E := some true) (J := some false) (by omega) ?_ ?_).trans ?_
  · intro n i hi
    try dsimp only
    rw [F_clockworkref06_Has_L1]
    simp only [show (i : Int) < (l.length : Int) by omega, decide_true, cond_true, show 0 ≤ (i : Int) by omega, and_self, req_t, atI_nat hi]
  · intro n
    try dsimp only
    rw [F_clockworkref06_Has_L1]
    simp
  · cases (l.any fun x => x.Key == k) <;> rfl

/-! ### Lists that ascend by key -/
theorem kasc_ext : ∀ {a b : List TPair}, kAsc a → kAsc b → (∀ x, x ∈ a ↔ x ∈ b) → a = b
  | [], [], _, _, _ => rfl
  | [], y :: b, _, _, h => by have := (h y).2 (by simp); simp at this
  | x :: a, [], _, _, h => by have := (h x).1 (by simp); simp at this
  | x :: a, y :: b, ha, hb, h => by
    obtain ⟨ha1, ha2⟩ := List.pairwise_cons.1 ha
    obtain ⟨hb1, hb2⟩ := List.pairwise_cons.1 hb
    have hxy : x = y := by
      rcases List.mem_cons.1 ((h x).1 (by simp)) with e | e
      · exact e
      · rcases List.mem_cons.1 ((h y).2 (by simp)) with e2 | e2
        · exact e2.symm
        · have h1 := hb1 x e
          have h2 := ha1 y e2
          rw [sLt_asymm' h1] at h2; simp at h2
    subst hxy
    rw [kasc_ext ha2 hb2 fun z => ?_]
    have := h z
    simp only [List.mem_cons] at this
    constructor
    · intro hz
      rcases this.1 (.inr hz) with e | e
      · subst e; have := ha1 z hz; rw [sLt_irrefl] at this; simp at this
      · exact e
    · intro hz
      rcases this.2 (.inr hz) with e | e
      · subst e; have := hb1 z hz; rw [sLt_irrefl] at this; simp at this
      · exact e
def mg : List TPair → List TPair → List TPair × Bool
  | [], b => (b, false)
  | x :: a, [] => (x :: a, false)
  | x :: a, y :: b => if sLt x.Key y.Key = true then (x :: (mg a (y :: b)).1, (mg a (y :: b)).2) else if sLt y.Key x.Key = true then (y :: (mg (x :: a) b).1, (mg (x :: a) b).2) else ((mg a b).1, true)
termination_by a b => a.length + b.length
theorem mg_nil (a : List TPair) : mg a [] = (a, false) := by cases a <;> rw [mg]
theorem mg_len : ∀ a b : List TPair, (mg a b).1.length ≤ a.length + b.length
  | [], b => by simp [mg]
  | x :: a, [] => by simp [mg]
  | x :: a, y :: b => by
    have h1 := mg_len a (y :: b)
    have h2 := mg_len (x :: a) b
    have h3 := mg_len a b
    rw [mg]
    split
    · simp at h1 ⊢; omega
    · split
      · simp at h2 ⊢; omega
      · simp at h3 ⊢; omega
termination_by a b => a.length + b.length
theorem mg_sub : ∀ a b : List TPair, ∀ x ∈ (mg a b).1, x ∈ a ∨ x ∈ b
  | [], b => by simp [mg]
  | x :: a, [] => by simp [mg]
  | x :: a, y :: b => by
    have h1 := mg_sub a (y :: b)
    have h2 := mg_sub (x :: a) b
    have h3 := mg_sub a b
    rw [mg]
    intro z hz
    split at hz
    · rcases List.mem_cons.1 hz with rfl | hz
      · simp
      · rcases h1 z hz with h | h
        · simp [h]
        · exact .inr h
    · split at hz
      · rcases List.mem_cons.1 hz with rfl | hz
        · simp
        · rcases h2 z hz with h | h
          · exact .inl h
          · simp [h]
      · rcases h3 z hz with h | h <;> simp [h]
termination_by a b => a.length + b.length
theorem mg_spec : ∀ {a b : List TPair}, kAsc a → kAsc b → (mg a b).2 = (b.any fun y => a.any fun x => x.Key == y.Key) ∧ ((mg a b).2 = false → kAsc (mg a b).1 ∧ ∀ x, x ∈ (mg a b).1 ↔ x ∈ a ∨ x ∈ b)
  | [], b, _, hb => by simp [mg, hb]
  | x :: a, [], ha, _ => by simp [mg, ha]
  | x :: a, y :: b, ha, hb => by
    obtain ⟨ha1, ha2⟩ := List.pairwise_cons.1 ha
    obtain ⟨hb1, hb2⟩ := List.pairwise_cons.1 hb
    rw [mg]
    split
    · rename_i hxy
      obtain ⟨h1, h2⟩ := mg_spec (a := a) (b := y :: b) ha2 hb
      have hno : ∀ z ∈ y :: b, sLt x.Key z.Key = true := fun z hz => by
        rcases List.mem_cons.1 hz with rfl | hz
        · exact hxy
        · exact sLt_trans hxy (hb1 z hz)
      refine ⟨?_, fun hf => ?_⟩
      · show (mg a (y :: b)).2 = _
        rw [h1]
        refine any_congr fun z hz => ?_
        have : (x.Key == z.Key) = false := by
          rw [beq_eq_false_iff_ne]; intro e; have := hno z hz; rw [e, sLt_irrefl] at this; simp at this
        rw [List.any_cons, this, Bool.false_or]
      · obtain ⟨h3, h4⟩ := h2 hf
        refine ⟨List.pairwise_cons.2 ⟨fun z hz => ?_, h3⟩, fun z => ?_⟩
        · rcases (h4 z).1 hz with h | h
          · exact ha1 z h
          · exact hno z h
        · rw [List.mem_cons, h4, List.mem_cons (b := x), or_assoc]
    · rename_i hxy
      simp only [Bool.not_eq_true] at hxy
      split
      · rename_i hyx
        obtain ⟨h1, h2⟩ := mg_spec (a := x :: a) (b := b) ha hb2
        have hno : ∀ z ∈ x :: a, sLt y.Key z.Key = true := fun z hz => by
          rcases List.mem_cons.1 hz with rfl | hz
          · exact hyx
          · exact sLt_trans hyx (ha1 z hz)
        refine ⟨?_, fun hf => ?_⟩
        · show (mg (x :: a) b).2 = _
          rw [h1, List.any_cons]
          have : ((x :: a).any fun x => x.Key == y.Key) = false := by
            rw [List.any_eq_false]; intro z hz e
            have := hno z hz; rw [eq_of_beq e, sLt_irrefl] at this; simp at this
          rw [this, Bool.false_or]
        · obtain ⟨h3, h4⟩ := h2 hf
          refine ⟨List.pairwise_cons.2 ⟨fun z hz => ?_, h3⟩, fun z => ?_⟩
          · rcases (h4 z).1 hz with h | h
            · exact hno z h
            · exact hb1 z h
          · show z ∈ y :: (mg (x :: a) b).1 ↔ _
            rw [List.mem_cons, h4, List.mem_cons (a := z) (b := y)]
            constructor
            · rintro (h | h | h)
              · exact .inr (.inl h)
              · exact .inl h
              · exact .inr (.inr h)
            · rintro (h | h | h)
              · exact .inr (.inl h)
              · exact .inl h
              · exact .inr (.inr h)
      · rename_i hyx
        simp only [Bool.not_eq_true] at hyx
        have e := sLt_conn hxy hyx
        refine ⟨?_, fun hf => by simp at hf⟩
        show true = _
        simp [e]
termination_by a b => a.length + b.length
end Go.Proofs.YtglnnhmmipopiaaGreat
namespace Go.Proofs.YtglnnhmmipopiaaGreat
theorem order_eq (x y : TPair) : F_state_order x y = some (Go.Lib.compareBytes x.Key y.Key) := rfl
theorem merge_loop {a b : List TPair} (hab : a.length + b.length < 1000000) : ∀ n (i k : Nat) (acc : List TPair) (t : Bool), i ≤ a.length → k ≤ b.length → (a.length - i) + (b.length - k) < n →
    acc.length + (a.length - i) + (b.length - k) ≤ 1000000 → mergeF_L1 a b unKeep unKeep unTwice F_state_order n (acc, t) (i : Int) (k : Int) = some (acc ++ (mg (a.drop i) (b.drop k)).1, t || (mg (a.drop i) (b.drop k)).2) := by
  intro n
  induction n with
  | zero => intro i k acc t _ _ h; omega
  | succ n ih =>
    intro i k acc t hi hk hn hacc
    rw [mergeF_L1]
    simp only [jn_mk]
    have ei : (((i : Int) == (a.length : Int))) = decide (i = a.length) := by rw [Bool.eq_iff_iff]; simp; omega
    have ek : (((k : Int) == (b.length : Int))) = decide (k = b.length) := by rw [Bool.eq_iff_iff]; simp; omega
    have keep : ∀ x, acc.length < 1000000 → unKeep (acc, t) x = some (acc ++ [x], t) := fun x h => by
      unfold unKeep
      rw [req_pos (by simp only [List.length_append, List.length_cons, List.length_nil]; omega)]
    by_cases ha : i = a.length
    · by_cases hb : k = b.length
      · subst ha; subst hb
        simp [mg]
      · have hk' : k < b.length := by omega
        have hc : ((decide ((i : Int) < (a.length : Int))) || decide ((k : Int) < (b.length : Int))) = true := by simp; omega
        rw [hc, cond_true, ei, ek]
        simp only [ha, hb, decide_true, decide_false, cond_true, cond_false]
        rw [show decide ((1 : Int) < 0) = false by decide, show decide ((0 : Int) < 1) = true by decide, cond_false, cond_true, req_pos ⟨by omega, by omega⟩, keep _ (by omega), bnd_mk, wrap_succ (by omega)]
        rw [← ha, ih i (k + 1) _ _ (by omega) (by omega) (by omega) (by simp; omega)]
        rw [ha, List.drop_length, List.drop_eq_getElem_cons hk', mg, mg, atI_nat hk']
        simp
    · have hi' : i < a.length := by omega
      have hc : ((decide ((i : Int) < (a.length : Int))) || decide ((k : Int) < (b.length : Int))) = true := by simp; omega
      by_cases hb : k = b.length
      · rw [hc, cond_true, ei, ek]
        simp only [ha, hb, decide_true, decide_false, cond_true, cond_false]
        rw [show decide ((-1 : Int) < 0) = true by decide, cond_true, req_pos ⟨by omega, by omega⟩, keep _ (by omega), bnd_mk, wrap_succ (by omega)]
        rw [← hb, ih (i + 1) k _ _ (by omega) (by omega) (by omega) (by simp; omega)]
        rw [hb, List.drop_length, List.drop_eq_getElem_cons hi', mg_nil, mg_nil, atI_nat hi']
        simp
      · have hk' : k < b.length := by omega
        rw [hc, cond_true, ei, ek]
        simp only [ha, hb, decide_false, cond_false]
        rw [req_pos (p := 0 ≤ (i : Int) ∧ (i : Int) < (a.length : Int)) ⟨by omega, by omega⟩, req_pos (p := 0 ≤ (k : Int) ∧ (k : Int) < (b.length : Int)) ⟨by omega, by omega⟩, order_eq, bnd_mk]
        obtain ⟨c1, c2⟩ := cmp_lt (atI a (i : Int)).Key (atI b (k : Int)).Key
        rw [List.drop_eq_getElem_cons hi', List.drop_eq_getElem_cons hk', mg, ← atI_nat hi', ← atI_nat hk']
        cases h1 : sLt (atI a (i : Int)).Key (atI b (k : Int)).Key with
        | true =>
          rw [show decide (Go.Lib.compareBytes (atI a (i : Int)).Key (atI b (k : Int)).Key < 0) = true from decide_eq_true (c1.2 h1), cond_true, req_pos (p := 0 ≤ (i : Int) ∧ (i : Int) < (a.length : Int)) ⟨by omega, by omega⟩, keep _ (by omega), bnd_mk, wrap_succ (by omega), ih (i + 1) k _ _ (by omega) (by omega) (by omega) (by simp; omega)]
          rw [List.drop_eq_getElem_cons hk', ← atI_nat hk']
          simp
        | false =>
          rw [show decide (Go.Lib.compareBytes (atI a (i : Int)).Key (atI b (k : Int)).Key < 0) = false from decide_eq_false (fun h => by rw [c1.1 h] at h1; simp at h1), cond_false]
          cases h2 : sLt (atI b (k : Int)).Key (atI a (i : Int)).Key with
          | true =>
            rw [show decide (0 < Go.Lib.compareBytes (atI a (i : Int)).Key (atI b (k : Int)).Key) = true from decide_eq_true (c2.2 h2), cond_true, req_pos (p := 0 ≤ (k : Int) ∧ (k : Int) < (b.length : Int)) ⟨by omega, by omega⟩, keep _ (by omega), bnd_mk, wrap_succ (by omega), ih i (k + 1) _ _ (by omega) (by omega) (by omega) (by simp; omega)]
            rw [List.drop_eq_getElem_cons hi', ← atI_nat hi']
            simp
          | false =>
            rw [show decide (0 < Go.Lib.compareBytes (atI a (i : Int)).Key (atI b (k : Int)).Key) = false from decide_eq_false (fun h => by rw [c2.1 h] at h2; simp at h2), cond_false, req_pos (p := 0 ≤ (i : Int) ∧ (i : Int) < (a.length : Int)) ⟨by omega, by omega⟩, req_pos (p := 0 ≤ (k : Int) ∧ (k : Int) < (b.length : Int)) ⟨by omega, by omega⟩, unTwice, bnd_mk, wrap_succ (by omega), wrap_succ (by omega),
              ih (i + 1) (k + 1) _ _ (by omega) (by omega) (by omega) (by simp; omega)]
            simp
def unionP (a b : List TPair) : List TPair × Int := cond (staB a && staB b) (cond (mg a b).2 ([], 8) ((mg a b).1, 0)) ([], 1)
theorem union_impl {a b : List TPair} (ha : PrOk a) (hb : PrOk b) (hab : a.length + b.length < 1000000) : F_state_Union a b = some (unionP a b) := by
  unfold F_state_Union
  rw [svalid_impl ha, svalid_impl hb, bnd_mk, unionP]
  cases h1 : staB a with
  | false => simp [gcall, bnd]
  | true =>
    simp only [Bool.not_true, BEq.rfl, gcall_t, bnd_mk, Bool.false_or, Bool.true_and]
    cases h2 : staB b with
    | false => simp
    | true =>
      simp only [Bool.not_true, cond_false, cond_true]
      have := merge_loop (a := a) (b := b) hab 1000000 0 0 [] false (by omega) (by omega) (by omega) (by simp; omega)
      rw [mergeF, show ((0 : Int)) = ((0 : Nat) : Int) from rfl, this, bnd_mk]
      simp only [List.drop_zero, Bool.false_or, List.nil_append]
      cases (mg a b).2 <;> rfl

/-! ### The reference: insertion -/
def ins (l : List TPair) (p : TPair) : List TPair := l.takeWhile (fun x => sLt x.Key p.Key) ++ [p] ++ l.dropWhile (fun x => sLt x.Key p.Key)
theorem with_eq {l : List TPair} (hl : l.length < 999999) (p : TPair) : F_clockworkref06_with l p = some (ins l p) := by
  unfold F_clockworkref06_with
  simp only [jn_mk]
  have key : ∀ (J : Int → Option (List TPair)) n (i : Nat), i ≤ l.length → l.length - i < n → F_clockworkref06_with_L1 l p J n (i : Int) = J ((i + ((l.drop i).takeWhile (fun x => sLt x.Key p.Key)).length : Nat) : Int) := by
    intro J n
    induction n with
    | zero => intro i _ h; omega
    | succ n ih =>
      intro i hi hn
      rw [F_clockworkref06_with_L1]
      rcases Nat.lt_or_ge i l.length with h | h
      · rw [List.drop_eq_getElem_cons h, List.takeWhile_cons, ← atI_nat h]
        simp only [show (i : Int) < (l.length : Int) by omega, decide_true, BEq.rfl, forall_const, cond_true, Bool.true_and, show 0 ≤ (i : Int) by omega, and_self, req_t]
        cases hs : sLt (atI l (i : Int)).Key p.Key with
        | true =>
          rw [cond_true, wrap_succ (by omega), ih (i + 1) (by omega) (by omega)]
          congr 1
          simp; omega
        | false => simp
      · have : i = l.length := by omega
        subst this
        simp [req]
  have := key (fun (x4 : Int) => (req (0 ≤ (0 : Int) ∧ (0 : Int) ≤ x4 ∧ x4 ≤ ((l).length : Int)) (req (((([] : List TPair) ++ ((l.take (x4).toNat).drop ((0 : Int)).toNat))).length * 48 ≤ 140737488355328) (req ((((([] : List TPair) ++ ((l.take (x4).toNat).drop ((0 : Int)).toNat)) ++ [p])).length * 48 ≤ 140737488355328) (req (0 ≤ x4 ∧ x4 ≤ (((l).length : Nat) : Int) ∧ (((l).length : Nat) : Int) ≤ ((l).length : Int)) (req (((((([] : List TPair) ++ ((l.take (x4).toNat).drop ((0 : Int)).toNat)) ++ [p]) ++ ((l.take ((((l).length : Nat) : Int)).toNat).drop (x4).toNat))).length * 48 ≤ 140737488355328) (some (((([] : List TPair) ++ ((l.take (x4).toNat).drop ((0 : Int)).toNat)) ++ [p]) ++ ((l.take ((((l).length : Nat) : Int)).toNat).drop (x4).toNat)))))))) ) 1000000 0 (by omega) (by omega)
  rw [show ((0 : Nat) : Int) = 0 from rfl] at this
  refine this.trans ?_
  simp only [List.drop_zero, Nat.zero_add, Int.toNat_natCast, Int.toNat_zero, List.nil_append]
  have htw : ((l.takeWhile (fun x => sLt x.Key p.Key)).length) ≤ l.length := (List.takeWhile_prefix _).length_le
  generalize hm : (l.takeWhile (fun x => sLt x.Key p.Key)).length = m at htw ⊢
  have e1 : l.take m = l.takeWhile (fun x => sLt x.Key p.Key) := by
    have := List.prefix_iff_eq_take.1 (List.takeWhile_prefix (p := fun x : TPair => sLt x.Key p.Key) (l := l))
    rw [hm] at this; exact this.symm
  have e2 : l.drop m = l.dropWhile (fun x => sLt x.Key p.Key) := by
    have h1 : l.take m ++ l.drop m = l := List.take_append_drop m l
    have h2 : l.takeWhile (fun x => sLt x.Key p.Key) ++ l.dropWhile (fun x => sLt x.Key p.Key) = l := List.takeWhile_append_dropWhile
    rw [← h2, ← e1] at h1
    have h3 : l.take m ++ l.drop m = l.take m ++ l.dropWhile (fun x => sLt x.Key p.Key) := by
      rw [List.take_append_drop, e1]; exact h2.symm
    exact List.append_cancel_left h3
  have h3 : (l.take m).length = m := by simp; omega
  rw [req_pos ⟨by omega, by omega, by omega⟩, req_pos (by simp; omega), req_pos (by simp; omega), req_pos ⟨by omega, by omega, by omega⟩, List.take_length, req_pos (by simp; omega), e1, e2]
  rfl
theorem ins_spec {l : List TPair} {p : TPair} (hl : kAsc l) (hp : ∀ x ∈ l, x.Key ≠ p.Key) : kAsc (ins l p) ∧ (∀ x, x ∈ ins l p ↔ x = p ∨ x ∈ l) ∧ (ins l p).length = l.length + 1 := by
  have h2 : l.takeWhile (fun x => sLt x.Key p.Key) ++ l.dropWhile (fun x => sLt x.Key p.Key) = l := List.takeWhile_append_dropWhile
  have hA : ∀ x ∈ l.takeWhile (fun x => sLt x.Key p.Key), sLt x.Key p.Key = true := fun x hx => by
    have := List.all_takeWhile (p := fun x : TPair => sLt x.Key p.Key) (l := l)
    exact List.all_eq_true.1 this x hx
  have hB : ∀ x ∈ l.dropWhile (fun x => sLt x.Key p.Key), sLt p.Key x.Key = true := by
    have hd : kAsc (l.dropWhile (fun x => sLt x.Key p.Key)) := List.Pairwise.sublist (List.dropWhile_sublist _) hl
    cases hdw : l.dropWhile (fun x => sLt x.Key p.Key) with
    | nil => intro x hx; simp at hx
    | cons y m =>
      rw [hdw] at hd
      have hy : sLt y.Key p.Key = false := by
        have := List.head?_dropWhile_not (fun x : TPair => sLt x.Key p.Key) l
        rw [hdw] at this; simpa using this
      have hne : y.Key ≠ p.Key := hp y (by rw [← h2, hdw]; simp)
      have hy2 : sLt p.Key y.Key = true := by
        cases e : sLt p.Key y.Key with
        | true => rfl
        | false => exact absurd (sLt_conn hy e) hne
      intro x hx
      rcases List.mem_cons.1 hx with rfl | hx
      · exact hy2
      · exact sLt_trans hy2 ((List.pairwise_cons.1 hd).1 x hx)
  refine ⟨?_, fun x => ?_, ?_⟩
  · unfold ins kAsc
    rw [List.append_assoc, List.pairwise_append]
    have hl' : kAsc (l.takeWhile (fun x => sLt x.Key p.Key) ++ l.dropWhile (fun x => sLt x.Key p.Key)) := by rw [h2]; exact hl
    obtain ⟨p1, p2, p3⟩ := List.pairwise_append.1 hl'
    refine ⟨p1, List.pairwise_cons.2 ⟨hB, p2⟩, fun a ha b hb => ?_⟩
    rcases List.mem_cons.1 hb with rfl | hb
    · exact hA a ha
    · exact p3 a ha b hb
  · unfold ins
    rw [List.append_assoc, List.mem_append, List.singleton_append, List.mem_cons]
    have : x ∈ l ↔ x ∈ l.takeWhile (fun x => sLt x.Key p.Key) ∨ x ∈ l.dropWhile (fun x => sLt x.Key p.Key) := by rw [← List.mem_append, h2]
    rw [this]
    constructor
    · rintro (h | h | h)
      · exact .inr (.inl h)
      · exact .inl h
      · exact .inr (.inr h)
    · rintro (h | h | h)
      · exact .inr (.inl h)
      · exact .inl h
      · exact .inr (.inr h)
  · unfold ins
    have := congrArg List.length h2
    simp only [List.length_append, List.length_cons, List.length_nil] at this ⊢
    omega
theorem fold_ins : ∀ {b l : List TPair}, kAsc l → kAsc b → (∀ x ∈ l, ∀ y ∈ b, x.Key ≠ y.Key) → kAsc (b.foldl ins l) ∧ (∀ x, x ∈ b.foldl ins l ↔ x ∈ l ∨ x ∈ b) ∧ (b.foldl ins l).length = l.length + b.length
  | [], l, h, _, _ => by simp [h]
  | y :: b, l, hl, hb, hd => by
    obtain ⟨hb1, hb2⟩ := List.pairwise_cons.1 hb
    obtain ⟨i1, i2, i3⟩ := ins_spec hl (p := y) (fun x hx => hd x hx y (by simp))
    obtain ⟨h1, h2, h3⟩ := fold_ins (b := b) (l := ins l y) i1 hb2 (fun x hx z hz => by
      rcases (i2 x).1 hx with rfl | hx
      · intro e; have := hb1 z hz; rw [e, sLt_irrefl] at this; simp at this
      · exact hd x hx z (by simp [hz]))
    rw [List.foldl_cons]
    refine ⟨h1, fun x => ?_, by rw [h3, i3, List.length_cons]; omega⟩
    rw [h2, i2, List.mem_cons]
    constructor
    · rintro ((h | h) | h)
      · exact .inr (.inl h)
      · exact .inl h
      · exact .inr (.inr h)
    · rintro (h | h | h)
      · exact .inl (.inr h)
      · exact .inl (.inl h)
      · exact .inr h
theorem ins_len (l : List TPair) (p : TPair) : (ins l p).length = l.length + 1 := by
  have h2 : l.takeWhile (fun x => sLt x.Key p.Key) ++ l.dropWhile (fun x => sLt x.Key p.Key) = l := List.takeWhile_append_dropWhile
  unfold ins
  have := congrArg List.length h2
  simp only [List.length_append, List.length_cons, List.length_nil] at this ⊢
  omega
theorem apply_ref {a b : List TPair} (ha : PrOk a) (hb : PrOk b) (hab : a.length + b.length < 999999) (h1 : staB a = true) (h2 : staB b = true) (hd : (b.any fun y => a.any fun x => x.Key == y.Key) = false) :
    F_clockworkref06_Apply a b = some (b.foldl ins a, 0) := by
  have hbg : ∀ x ∈ b, prGood x := (sta_iff.1 h2).1
  have hsb : srtB b = true := by rw [staB, Bool.and_eq_true] at h2; exact h2.1
  unfold F_clockworkref06_Apply
  rw [svalid_ref ha, vwrites_ref hb, h1, hsb]
  simp only [bnd_mk, Bool.not_true, BEq.rfl, gcall_t, Bool.or_self, cond_false, jn_mk]
  refine (loopFilter (l := a) ha.l (p := fun x => !(b.any fun y => y.Key == x.Key)) (L := fun n s i => F_clockworkref06_Apply_L2 a b (fun x9 => F_clockworkref06_Apply_L1 b (fun x75 => some (x75, (0 : Int))) ((((b).length : Nat) : Int).toNat + 1) x9 0) n s i)
    (J := fun x9 => F_clockworkref06_Apply_L1 b (fun x75 => some (x75, (0 : Int))) ((((b).length : Nat) : Int).toNat + 1) x9 0) ?_ ?_ (by omega)).trans ?_
  · intro n i acc hi hacc
    try dsimp only
    rw [F_clockworkref06_Apply_L2]
    simp only [show (i : Int) < (a.length : Int) by omega, decide_true, cond_true, show 0 ≤ (i : Int) by omega, and_self, req_t, has06 hb.l, bnd_mk, jn_mk, atI_nat hi, List.length_append, List.length_cons, List.length_nil, show (acc.length + (0 + 1)) * 48 ≤ 140737488355328 by omega]
    try (cases (b.any fun y => y.Key == a[i].Key) <;> rfl)
  · intro n acc _
    try dsimp only
    rw [F_clockworkref06_Apply_L2]
    simp
  · have ef : a.filter (fun x => !(b.any fun y => y.Key == x.Key)) = a := by
      rw [List.filter_eq_self]
      intro x hx
      rw [Bool.not_eq_true', List.any_eq_false]
      intro y hy e
      have := List.any_eq_false.1 hd y hy
      rw [Bool.not_eq_true, List.any_eq_false] at this
      exact this x hx (by rw [beq_iff_eq] at e ⊢; exact e.symm)
    rw [ef]
    refine (loopFold (l := b) hb.l (f := ins) (L := fun n s i => F_clockworkref06_Apply_L1 b (fun x75 => some (x75, (0 : Int))) n s i) (J := fun x75 => some (x75, (0 : Int))) (fun i s => s.length ≤ a.length + i) ?_ ?_ ?_ (by omega) (by omega)).trans rfl
    · intro n i s hi hs
      try dsimp only
      rw [F_clockworkref06_Apply_L1]
      have hk : (b[i].Val.Kind != 0) = true := by simpa using (hbg _ (List.getElem_mem hi)).2.2
      simp only [show (i : Int) < (b.length : Int) by omega, decide_true, cond_true, show 0 ≤ (i : Int) by omega, and_self, req_t, jn_mk, atI_nat hi, hk, with_eq (show s.length < 999999 by omega), bnd_mk]
    · intro i s hi hs
      rw [ins_len]; omega
    · intro n s _
      try dsimp only
      rw [F_clockworkref06_Apply_L1]
      simp
theorem union_ref {a b : List TPair} (ha : PrOk a) (hb : PrOk b) (hab : a.length + b.length < 999999) : F_clockworkref06_Union a b = some (unionP a b) := by
  unfold F_clockworkref06_Union
  rw [svalid_ref ha, svalid_ref hb, bnd_mk, unionP]
  cases h1 : staB a with
  | false => simp [gcall, bnd]
  | true =>
    simp only [Bool.not_true, BEq.rfl, gcall_t, bnd_mk, Bool.false_or, Bool.true_and]
    cases h2 : staB b with
    | false => simp
    | true =>
      simp only [Bool.not_true, cond_false, cond_true, jn_mk]
      obtain ⟨g1, g2⟩ := mg_spec (sta_iff.1 h1).2 (sta_iff.1 h2).2
      refine (loopAny0 (l := b) hb.l (L := fun n i => F_clockworkref06_Union_L1 b a (bnd (F_clockworkref06_Apply a b) fun x11 => some (x11.1, x11.2)) n i) (q := fun y => a.any fun x => x.Key == y.Key) (E := some ([], 8))
        (J := bnd (F_clockworkref06_Apply a b) fun x11 => some (x11.1, x11.2)) (n := ((b.length : Nat) : Int).toNat + 1) (by omega) ?_ ?_).trans ?_
      · intro n i hi
        try dsimp only
        rw [F_clockworkref06_Union_L1]
        simp only [show (i : Int) < (b.length : Int) by omega, decide_true, cond_true, show 0 ≤ (i : Int) by omega, and_self, req_t, has06 ha.l, bnd_mk, atI_nat hi]
      · intro n
        try dsimp only
        rw [F_clockworkref06_Union_L1]
        simp
      · rw [← g1]
        cases hm : (mg a b).2 with
        | true => rfl
        | false =>
          rw [cond_false, cond_false]
          have hd : (b.any fun y => a.any fun x => x.Key == y.Key) = false := by rw [← g1]; exact hm
          rw [apply_ref ha hb hab h1 h2 hd, bnd_mk]
          obtain ⟨g3, g4⟩ := g2 hm
          obtain ⟨f1, f2, _⟩ := fold_ins (l := a) (b := b) (sta_iff.1 h1).2 (sta_iff.1 h2).2 (fun x hx y hy e => by
            have := List.any_eq_false.1 hd y hy
            rw [Bool.not_eq_true, List.any_eq_false] at this
            exact this x hx (by simpa using e))
          rw [kasc_ext f1 g3 fun x => by rw [f2, g4]]
end Go.Proofs.YtglnnhmmipopiaaGreat
namespace Go.Proofs.YtglnnhmmipopiaaGreat

/-! ### Ranges -/
theorem bound04 {s : Str} (hs : s.length < big) : F_clockworkref04_Bound s = some (boundB s) := by
  unfold F_clockworkref04_Bound
  simp only [jn_mk]
  have e2 : decide ((s.length : Int) ≤ 24) = decide (s.length ≤ 24) := by rw [Bool.eq_iff_iff]; simp; omega
  rw [e2]
  refine (loopRng (len := s.length) (L := fun n i => F_clockworkref04_Bound_L1 s (some (decide (s.length ≤ 24))) n i) (q := fun i => decide (byteAt s i < 33) || decide (126 < byteAt s i)) (E := some false) (J := some (decide (s.length ≤ 24))) hs (by omega) ?_ ?_).trans ?_
  · intro n i hi
    try dsimp only
    rw [F_clockworkref04_Bound_L1]
    simp only [show (i : Int) < (s.length : Int) by omega, decide_true, cond_true, show 0 ≤ (i : Int) by omega, true_and, implies_true, req_t, Int.toNat_natCast]
  · intro n
    try dsimp only
    rw [F_clockworkref04_Bound_L1]
    simp
  · rw [boundB]
    cases ((List.range s.length).any fun i => decide (byteAt s i < 33) || decide (126 < byteAt s i)) <;> simp
theorem isBound_impl {s : Str} (hs : s.length < big) : F_keys_isBound s = some (boundB s) := by
  unfold F_keys_isBound F_keys_consists
  by_cases h : s.length ≤ 24
  · have e : decide ((24 : Int) < (s.length : Int)) = false := by simp; omega
    rw [e, cond_false, jn_mk]
    rw [(loopRng (len := s.length) (L := fun n i => F_keys_consists_L1 s (fun y0 => F_keys_isBound_1 y0) (some true) n i) (q := fun i => decide (byteAt s i < 33) || decide (126 < byteAt s i)) (E := some false) (J := some true) hs (n := (s.length : Int).toNat + 1) (by omega) ?_ ?_)]
    · rw [boundB]
      cases ((List.range s.length).any fun i => decide (byteAt s i < 33) || decide (126 < byteAt s i)) <;> simp [h]
    · intro n i hi
      try dsimp only
      rw [F_keys_consists_L1]
      have e3 : (!((decide ((33 : Int) ≤ byteAt s i)) && (decide (byteAt s i ≤ (126 : Int))))) = (decide (byteAt s i < 33) || decide (126 < byteAt s i)) := by
        rw [Bool.eq_iff_iff]; simp <;> omega
      simp only [show (i : Int) < (s.length : Int) by omega, decide_true, cond_true, show 0 ≤ (i : Int) by omega, true_and, implies_true, req_t, Int.toNat_natCast, F_keys_isBound_1, bnd_mk, e3]
    · intro n
      try dsimp only
      rw [F_keys_consists_L1]
      simp
  · have e : decide ((24 : Int) < (s.length : Int)) = true := by simp; omega
    rw [e, cond_true]
    simp [boundB, h]
structure RgOk (r : TRange) : Prop where
  f : r.From.length < big
  t : r.To.length < big
def vrB (r : TRange) : Bool := (boundB r.From && boundB r.To) && ((r.To == ([] : Str)) || (sLt r.From r.To))
def ctB (r : TRange) (k : Str) : Bool := (vrB r && (!sLt k r.From)) && ((r.To == ([] : Str)) || (sLt k r.To))
theorem vrange_impl {r : TRange} (h : RgOk r) : F_keys_ValidRange r = some (vrB r) := by
  unfold F_keys_ValidRange vrB
  rw [isBound_impl h.f, isBound_impl h.t]
  cases boundB r.From <;> simp [gcall, bnd]
theorem vrange_ref {r : TRange} (h : RgOk r) : F_clockworkref04_ValidRange r = some (vrB r) := by
  unfold F_clockworkref04_ValidRange vrB
  rw [bound04 h.f, bound04 h.t]
  cases boundB r.From <;> simp [gcall, bnd]
theorem contains_impl {r : TRange} (h : RgOk r) (k : Str) : F_keys_Contains r k = some (ctB r k) := by
  unfold F_keys_Contains ctB
  rw [vrange_impl h]; rfl
theorem contains_ref {r : TRange} (h : RgOk r) (k : Str) : F_clockworkref04_Contains r k = some (ctB r k) := by
  unfold F_clockworkref04_Contains ctB
  rw [vrange_ref h]; rfl
def slP (l : List TPair) (r : TRange) : List TPair := l.filter fun x => ctB r x.Key
theorem slice_impl {l : List TPair} (hl : l.length ≤ 1000000) {r : TRange} (h : RgOk r) : F_state_Slice l r = some (slP l r) := by
  unfold F_state_Slice
  simp only [jn_mk]
  refine loopFilter (l := l) (by omega) (L := fun n a i => F_state_Slice_L1 l r (fun x6 => some x6) n a i) (J := fun x6 => some x6) (p := fun x => ctB r x.Key) ?_ ?_ (n := ((l.length : Nat) : Int).toNat + 1) (by omega)
  · intro n i acc hi hacc
    try dsimp only
    rw [F_state_Slice_L1]
    have hb : (acc ++ [l[i]]).length * 48 ≤ 140737488355328 := by simp; omega
    simp only [show (i : Int) < (l.length : Int) by omega, decide_true, cond_true, show 0 ≤ (i : Int) by omega, and_self, req_t, atI_nat hi, contains_impl h, bnd_mk, jn_mk, hb]
  · intro n acc _
    try dsimp only
    rw [F_state_Slice_L1]
    simp
theorem slice_ref {l : List TPair} (hl : l.length ≤ 1000000) {r : TRange} (h : RgOk r) : F_clockworkref06_Slice l r = some (slP l r) := by
  unfold F_clockworkref06_Slice
  simp only [jn_mk]
  refine loopFilter (l := l) (by omega) (L := fun n a i => F_clockworkref06_Slice_L1 l r (fun x6 => some x6) n a i) (J := fun x6 => some x6) (p := fun x => ctB r x.Key) ?_ ?_ (n := ((l.length : Nat) : Int).toNat + 1) (by omega)
  · intro n i acc hi hacc
    try dsimp only
    rw [F_clockworkref06_Slice_L1]
    have hb : (acc ++ [l[i]]).length * 48 ≤ 140737488355328 := by simp; omega
    simp only [show (i : Int) < (l.length : Int) by omega, decide_true, cond_true, show 0 ≤ (i : Int) by omega, and_self, req_t, atI_nat hi, contains_ref h, bnd_mk, jn_mk, hb]
  · intro n acc _
    try dsimp only
    rw [F_clockworkref06_Slice_L1]
    simp

/-! ### Shards -/
theorem sta_filter {l : List TPair} (h : staB l = true) (g : TPair → Bool) : staB (l.filter g) = true := by
  obtain ⟨h1, h2⟩ := sta_iff.1 h
  exact sta_iff.2 ⟨fun x hx => h1 x (List.mem_filter.1 hx).1, List.Pairwise.filter _ h2⟩
theorem PrOk.filter {l : List TPair} (h : PrOk l) (g : TPair → Bool) : PrOk (l.filter g) := h.sub (Nat.lt_of_le_of_lt (List.length_filter_le _ _) h.l) (fun x hx => (List.mem_filter.1 hx).1)
theorem owner_node {p : TPlacement} (hv : pvB p = true) (k : Str) : ownerP p k ∈ nodesRefP p := by
  have hr := owner_rng hv k
  have hP := pv_iff.1 hv
  obtain ⟨i, e, hi⟩ := index_in hP k
  have hlt : i < p.Parts.length := by
    have := indexP_bd (p := p) (key := k) (by rw [e]; omega)
    rw [e] at this; omega
  rw [nodesRefP, if_pos hv, pickN_mem]
  refine ⟨by omega, by omega, (hasN_iff _ _ _).2 ⟨i, hlt, ?_⟩⟩
  rw [owner_of hP hi, partOwner]
  split
  · exact .inr rfl
  · exact .inl rfl
theorem nodesRef_asc (p : TPlacement) : ascI (nodesRefP p) := by
  unfold nodesRefP
  split
  · exact pickN_asc _ _
  · exact List.Pairwise.nil
def shP (p : TPlacement) (state : List TPair) (nd : Int) : TShard := ⟨nd, state.filter fun x => ownerP p x.Key == nd⟩
structure SOk (l : List TShard) : Prop where
  n : l.length ≤ 100
  p : ∀ s ∈ l, PrOk s.Pairs ∧ s.Pairs.length ≤ 100
theorem owned_impl {p : TPlacement} (hp : POk p) (hv : pvB p = true) {l : List TPair} (hl : l.length ≤ 1000000) (nd : Int) : F_dist_owned p l nd = some (l.filter fun x => ownerP p x.Key == nd) := by
  unfold F_dist_owned
  simp only [jn_mk]
  refine loopFilter (l := l) (by omega) (L := fun n a i => F_dist_owned_L1 l p nd (fun x8 => some x8) n a i) (J := fun x8 => some x8) (p := fun x => ownerP p x.Key == nd) ?_ ?_ (n := ((l.length : Nat) : Int).toNat + 1) (by omega)
  · intro n i acc hi hacc
    try dsimp only
    rw [F_dist_owned_L1]
    have hb : (acc ++ [l[i]]).length * 48 ≤ 140737488355328 := by simp; omega
    simp only [show (i : Int) < (l.length : Int) by omega, decide_true, cond_true, show 0 ≤ (i : Int) by omega, and_self, req_t, atI_nat hi, owner_impl hp.l hp.s (pv_from hv), bnd_mk, jn_mk, hb]
  · intro n acc _
    try dsimp only
    rw [F_dist_owned_L1]
    simp
def loadP (p : TPlacement) (l : List TPair) : List TShard := if (pvB p && staB l) = true then (nodesRefP p).map (shP p l) else []
theorem load_impl {p : TPlacement} (hp : POk p) {l : List TPair} (hs : PrOk l) (hl : l.length ≤ 1000000) : F_dist_Load p l = some (loadP p l) := by
  unfold F_dist_Load loadP
  rw [valid29_impl hp.l hp.s, svalid_impl hs, bnd_mk]
  cases hv : pvB p with
  | false => rfl
  | true =>
    cases hst : staB l with
    | false => rfl
    | true =>
      have hn := nodesRef_len p
      simp only [Bool.not_true, BEq.rfl, gcall_t, bnd_mk, Bool.or_self, cond_false, jn_mk, Bool.and_self, if_true]
      rw [nodes_impl hp.l hp.s, bnd_mk, nodes_eq]
      refine loopMap (l := nodesRefP p) (by omega) (L := fun n a i => F_dist_Load_L1 (nodesRefP p) p l (fun x14 => some x14) n a i) (J := fun x14 => some x14) (g := shP p l) ?_ ?_ (n := (((nodesRefP p).length : Nat) : Int).toNat + 1) (by omega)
      · intro n i acc hi hacc
        try dsimp only
        rw [F_dist_Load_L1]
        simp only [show (i : Int) < ((nodesRefP p).length : Int) by omega, decide_true, cond_true, show 0 ≤ (i : Int) by omega, and_self, req_t, atI_nat hi, owned_impl hp hv hl, bnd_mk]
        rw [req_pos (by simp; omega)]
        rfl
      · intro n acc _
        try dsimp only
        rw [F_dist_Load_L1]
        simp
theorem load_ref {p : TPlacement} (hp : POk p) {l : List TPair} (hs : PrOk l) (hl : l.length ≤ 1000000) : F_clockworkref32_Load p l = some (loadP p l) := by
  unfold F_clockworkref32_Load loadP
  rw [valid29_ref hp.l hp.s, svalid_ref hs, bnd_mk]
  cases hv : pvB p with
  | false => rfl
  | true =>
    cases hst : staB l with
    | false => rfl
    | true =>
      have hn := nodesRef_len p
      simp only [Bool.not_true, BEq.rfl, gcall_t, bnd_mk, Bool.or_self, cond_false, jn_mk, Bool.and_self, if_true]
      rw [nodes_ref hp.l hp.s, bnd_mk]
      refine loopMap (l := nodesRefP p) (by omega) (L := fun n a i => F_clockworkref32_Load_L1 (nodesRefP p) l p (fun x14 => some x14) n a i) (J := fun x14 => some x14) (g := shP p l) ?_ ?_ (n := (((nodesRefP p).length : Nat) : Int).toNat + 1) (by omega)
      · intro n i acc hi hacc
        try dsimp only
        rw [F_clockworkref32_Load_L1]
        simp only [show (i : Int) < ((nodesRefP p).length : Int) by omega, decide_true, cond_true, show 0 ≤ (i : Int) by omega, and_self, req_t, atI_nat hi, jn_mk]
        have hL2 : ∀ (J : List TPair → Option (List TShard)), F_clockworkref32_Load_L2 l (i : Int) (nodesRefP p) p J (((l.length : Nat) : Int).toNat + 1) [] 0 = J (l.filter fun x => ownerP p x.Key == (nodesRefP p)[i]) := by
          intro J
          refine loopFilter (l := l) hs.l (L := fun n a k => F_clockworkref32_Load_L2 l (i : Int) (nodesRefP p) p J n a k) (J := fun a => J a) (p := fun x => ownerP p x.Key == (nodesRefP p)[i]) ?_ ?_ (by omega)
          · intro n k a hk ha
            try dsimp only
            rw [F_clockworkref32_Load_L2]
            have hb : (a ++ [l[k]]).length * 48 ≤ 140737488355328 := by simp; omega
            simp only [show (k : Int) < (l.length : Int) by omega, show (i : Int) < ((nodesRefP p).length : Int) by omega, decide_true, cond_true, show 0 ≤ (k : Int) by omega, show 0 ≤ (i : Int) by omega, and_self, req_t, atI_nat hk, atI_nat hi, owner_ref hp.l hp.s, bnd_mk, jn_mk, hb]
          · intro n a _
            try dsimp only
            rw [F_clockworkref32_Load_L2]
            simp
        rw [hL2, req_pos (by simp; omega)]
        rfl
      · intro n acc _
        try dsimp only
        rw [F_clockworkref32_Load_L1]
        simp
def shBad (p : TPlacement) (s : TShard) (nd : Int) : Bool := ((s.Node != nd) || !staB s.Pairs) || (s.Pairs.any fun x => ownerP p x.Key != s.Node)
def dvB (p : TPlacement) (l : List TShard) : Bool := pvB p && decide (l.length = (nodesRefP p).length) && !((List.range l.length).any fun i => shBad p (atI l (i : Int)) (atI (nodesRefP p) (i : Int)))
theorem filt_len {α : Type} (q : α → Bool) : ∀ l : List α, ((((l.filter q).length : Nat) : Int) != ((l.length : Nat) : Int)) = l.any fun x => !q x
  | [] => by simp
  | x :: l => by
    have ih := filt_len q l
    cases h : q x with
    | true =>
      rw [List.filter_cons_of_pos h, List.any_cons, h, ← ih, Bool.not_true, Bool.false_or]
      rw [Bool.eq_iff_iff]; simp only [bne_iff_ne, List.length_cons]; omega
    | false =>
      rw [List.filter_cons_of_neg (by simpa using h), List.any_cons, h, Bool.not_false, Bool.true_or]
      have := List.length_filter_le q l
      rw [bne_iff_ne, List.length_cons]; omega
theorem dvalid_impl {p : TPlacement} (hp : POk p) {l : List TShard} (hs : SOk l) : F_dist_Valid p l = some (dvB p l) := by
  unfold F_dist_Valid dvB
  have hln := hs.n
  rw [nodes_impl hp.l hp.s, valid29_impl hp.l hp.s, bnd_mk, bnd_mk, nodes_eq]
  cases hv : pvB p with
  | false => rfl
  | true =>
    have hn := nodesRef_len p
    simp only [Bool.not_true, Bool.false_or, Bool.true_and]
    by_cases hlen : l.length = (nodesRefP p).length
    · rw [show (((l.length : Nat) : Int) != (((nodesRefP p).length : Nat) : Int)) = false by simp [hlen], cond_false, jn_mk, decide_eq_true hlen, Bool.true_and]
      refine (loopRng (len := l.length) (by omega) (L := fun n i => F_dist_Valid_L1 l (nodesRefP p) p (some true) n i) (q := fun i => shBad p (atI l (i : Int)) (atI (nodesRefP p) (i : Int))) (E := some false) (J := some true) (n := ((l.length : Nat) : Int).toNat + 1) (by omega) ?_ ?_).trans ?_
      · intro n i hi
        have hm := hs.p _ (at_mem29 hi)
        try dsimp only
        rw [F_dist_Valid_L1]
        simp only [show (i : Int) < (l.length : Int) by omega, show (i : Int) < ((nodesRefP p).length : Int) by omega, decide_true, cond_true, show 0 ≤ (i : Int) by omega, and_self, req_t, svalid_impl hm.1, owned_impl hp hv (show (atI l (i : Int)).Pairs.length ≤ 1000000 by omega), shBad]
        cases hnd : ((atI l (i : Int)).Node != (atI (nodesRefP p) (i : Int))) with
        | true => simp [gcall, bnd]
        | false =>
          simp only [BEq.rfl, gcall_t, bnd_mk, Bool.false_or]
          cases hst : staB (atI l (i : Int)).Pairs with
          | false => simp [gcall, bnd]
          | true =>
            simp only [Bool.not_true, BEq.rfl, gcall_t, bnd_mk, Bool.false_or, filt_len]
            rfl
      · intro n
        try dsimp only
        rw [F_dist_Valid_L1]
        simp
      · cases ((List.range l.length).any fun i => shBad p (atI l (i : Int)) (atI (nodesRefP p) (i : Int))) <;> rfl
    · rw [show (((l.length : Nat) : Int) != (((nodesRefP p).length : Nat) : Int)) = true by simp; omega, cond_true, decide_eq_false hlen]
      rfl
theorem dvalid_ref {p : TPlacement} (hp : POk p) {l : List TShard} (hs : SOk l) : F_clockworkref32_Valid p l = some (dvB p l) := by
  unfold F_clockworkref32_Valid dvB
  have hln := hs.n
  rw [nodes_ref hp.l hp.s, valid29_ref hp.l hp.s, bnd_mk]
  cases hv : pvB p with
  | false => rfl
  | true =>
    have hn := nodesRef_len p
    simp only [Bool.not_true, cond_false, bnd_mk, Bool.true_and]
    by_cases hlen : l.length = (nodesRefP p).length
    · rw [show ((((nodesRefP p).length : Nat) : Int) != ((l.length : Nat) : Int)) = false by simp [hlen], cond_false, jn_mk, decide_eq_true hlen, Bool.true_and]
      refine (loopRng (len := l.length) (by omega) (L := fun n i => F_clockworkref32_Valid_L1 l (nodesRefP p) p (some true) n i) (q := fun i => shBad p (atI l (i : Int)) (atI (nodesRefP p) (i : Int))) (E := some false) (J := some true) (n := ((l.length : Nat) : Int).toNat + 1) (by omega) ?_ ?_).trans ?_
      · intro n i hi
        have hm := hs.p _ (at_mem29 hi)
        try dsimp only
        rw [F_clockworkref32_Valid_L1]
        have hL2 : ∀ (J : Option Bool) (N : Nat), 100 < N → F_clockworkref32_Valid_L2 (i : Int) l (nodesRefP p) p J N 0 = cond ((atI l (i : Int)).Pairs.any fun x => ownerP p x.Key != atI (nodesRefP p) (i : Int)) (some false) J := by
          intro J N hN
          refine loopAny0 (l := (atI l (i : Int)).Pairs) (by omega) (L := fun n k => F_clockworkref32_Valid_L2 (i : Int) l (nodesRefP p) p J n k) (q := fun x => ownerP p x.Key != atI (nodesRefP p) (i : Int)) (E := some false) (J := J) (n := N) (by omega) ?_ ?_
          · intro n k hk
            try dsimp only
            rw [F_clockworkref32_Valid_L2]
            simp only [show (i : Int) < (l.length : Int) by omega, show (i : Int) < ((nodesRefP p).length : Int) by omega, show (k : Int) < ((atI l (i : Int)).Pairs.length : Int) by omega, decide_true, cond_true, show 0 ≤ (i : Int) by omega, show 0 ≤ (k : Int) by omega, and_self, req_t, atI_nat hk, owner_ref hp.l hp.s, bnd_mk]
          · intro n
            try dsimp only
            rw [F_clockworkref32_Valid_L2]
            simp only [show (i : Int) < (l.length : Int) by omega, show 0 ≤ (i : Int) by omega, and_self, req_t, Int.lt_irrefl, decide_false, cond_false]
        simp only [show (i : Int) < (l.length : Int) by omega, show (i : Int) < ((nodesRefP p).length : Int) by omega, decide_true, cond_true, show 0 ≤ (i : Int) by omega, and_self, implies_true, req_t, jn_mk, shBad]
        rw [hL2 _ 1000000 (by decide)]
        cases hnd : ((atI l (i : Int)).Node != (atI (nodesRefP p) (i : Int))) with
        | true => simp [gcall, bnd]
        | false =>
          have hnd' : (atI l (i : Int)).Node = atI (nodesRefP p) (i : Int) := by simpa using hnd
          simp only [BEq.rfl, cond_true, gcall_t, Bool.false_or, svalid_ref hm.1, bnd_mk]
          cases hst : staB (atI l (i : Int)).Pairs with
          | false => simp
          | true => simp only [Bool.not_true, cond_false, Bool.false_or, hnd']
      · intro n
        try dsimp only
        rw [F_clockworkref32_Valid_L1]
        simp
      · cases ((List.range l.length).any fun i => shBad p (atI l (i : Int)) (atI (nodesRefP p) (i : Int))) <;> rfl
    · rw [show ((((nodesRefP p).length : Nat) : Int) != ((l.length : Nat) : Int)) = true by simp; omega, cond_true, decide_eq_false hlen]
      rfl

/-! ### Gathering -/
def gthBad (l : List TShard) (i : Nat) : Bool := (decide (0 < i) && decide ((atI l (i : Int)).Node ≤ (atI l ((i : Int) - 1)).Node)) || !staB (atI l (i : Int)).Pairs
def guP : List TPair → List TShard → List TPair × Int
  | out, [] => (out, 0)
  | out, s :: l => cond ((unionP out s.Pairs).2 != 0) ([], (unionP out s.Pairs).2) (guP (unionP out s.Pairs).1 l)
def gthP (l : List TShard) : List TPair × Int := cond ((List.range l.length).any fun i => gthBad l i) ([], 1) (guP [] l)
theorem union_inv {a b : List TPair} (ha : PrOk a) (hb : PrOk b) (hab : a.length + b.length < 9223372036854775808) : (unionP a b).1.length ≤ a.length + b.length ∧ PrOk (unionP a b).1 := by
  have h1 := mg_len a b
  have h2 := mg_sub a b
  unfold unionP
  cases staB a && staB b with
  | false => exact ⟨by simp, PrOk.nil⟩
  | true =>
    cases (mg a b).2 with
    | true => exact ⟨by simp, PrOk.nil⟩
    | false =>
      refine ⟨h1, ⟨by show (mg a b).1.length < _; omega, fun x hx => ?_⟩⟩
      rcases h2 x hx with h | h
      · exact ha.k x h
      · exact hb.k x h
theorem gather_impl {l : List TShard} (hs : SOk l) : F_dist_Gather l = some (gthP l) := by
  have hln := hs.n
  unfold F_dist_Gather gthP
  simp only [jn_mk]
  refine (loopRng (len := l.length) (by omega) (L := fun n i => F_dist_Gather_L2 l (F_dist_Gather_L1 l (fun x6 => some (x6, (0 : Int))) (((l.length : Nat) : Int).toNat + 1) [] 0) n i) (q := fun i => gthBad l i) (E := some ([], 1)) (J := F_dist_Gather_L1 l (fun x6 => some (x6, (0 : Int))) (((l.length : Nat) : Int).toNat + 1) [] 0) (n := ((l.length : Nat) : Int).toNat + 1) (by omega) ?_ ?_).trans ?_
  · intro n i hi
    have hm := hs.p _ (at_mem29 hi)
    try dsimp only
    rw [F_dist_Gather_L2]
    simp only [show (i : Int) < (l.length : Int) by omega, decide_true, cond_true, show 0 ≤ (i : Int) by omega, and_self, req_t, svalid_impl hm.1, gthBad]
    by_cases h0 : 0 < i
    · have h0' : (0 : Int) < (i : Int) := by omega
      simp only [h0', h0, decide_true, BEq.rfl, forall_const, cond_true, Bool.true_and, wrap_pred h0 (by omega)]
      rw [req_pos (by omega)]
      cases decide ((atI l (i : Int)).Node ≤ (atI l ((i : Int) - 1)).Node) <;> simp [gcall, bnd]
    · have h0' : ¬ (0 : Int) < (i : Int) := by omega
      simp [h0', h0, req, gcall, bnd]
  · intro n
    try dsimp only
    rw [F_dist_Gather_L2]
    simp
  · cases ((List.range l.length).any fun i => gthBad l i) with
    | true => rfl
    | false =>
      rw [cond_false, cond_false]
      have key : ∀ n (i : Nat) (out : List TPair), i ≤ l.length → l.length - i < n → out.length ≤ 100 * i → PrOk out → F_dist_Gather_L1 l (fun x6 => some (x6, (0 : Int))) n out (i : Int) = some (guP out (l.drop i)) := by
        intro n
        induction n with
        | zero => intro i _ _ h; omega
        | succ n ih =>
          intro i out hi hn hlen hok
          rw [F_dist_Gather_L1]
          rcases Nat.lt_or_ge i l.length with hlt | hge
          · have hm := hs.p _ (List.getElem_mem hlt)
            have hu := union_inv hok hm.1 (by omega)
            rw [List.drop_eq_getElem_cons hlt, guP]
            simp only [show (i : Int) < (l.length : Int) by omega, decide_true, cond_true, show 0 ≤ (i : Int) by omega, and_self, req_t, atI_nat hlt]
            rw [union_impl hok hm.1 (by omega), bnd_mk]
            cases ((unionP out l[i].Pairs).2 != 0) with
            | true => rfl
            | false =>
              rw [cond_false, cond_false, wrap_succ (by omega)]
              exact ih (i + 1) _ (by omega) (by omega) (by omega) hu.2
          · have : i = l.length := by omega
            subst this
            simp [guP]
      have := key (((l.length : Nat) : Int).toNat + 1) 0 [] (by omega) (by omega) (by simp) PrOk.nil
      simpa using this
theorem gather_ref {l : List TShard} (hs : SOk l) : F_clockworkref32_Gather l = some (gthP l) := by
  have hln := hs.n
  unfold F_clockworkref32_Gather gthP
  simp only [jn_mk]
  refine (loopRng (len := l.length) (by omega) (L := fun n i => F_clockworkref32_Gather_L2 l (F_clockworkref32_Gather_L1 l (fun x6 => some (x6, (0 : Int))) (((l.length : Nat) : Int).toNat + 1) [] 0) n i) (q := fun i => gthBad l i) (E := some ([], 1)) (J := F_clockworkref32_Gather_L1 l (fun x6 => some (x6, (0 : Int))) (((l.length : Nat) : Int).toNat + 1) [] 0) (n := ((l.length : Nat) : Int).toNat + 1) (by omega) ?_ ?_).trans ?_
  · intro n i hi
    have hm := hs.p _ (at_mem29 hi)
    try dsimp only
    rw [F_clockworkref32_Gather_L2]
    simp only [show (i : Int) < (l.length : Int) by omega, decide_true, cond_true, show 0 ≤ (i : Int) by omega, and_self, implies_true, req_t, gthBad]
    by_cases h0 : 0 < i
    · have h0' : (0 : Int) < (i : Int) := by omega
      simp only [h0', h0, decide_true, BEq.rfl, forall_const, cond_true, Bool.true_and, wrap_pred h0 (by omega)]
      rw [req_pos (by omega)]
      cases decide ((atI l (i : Int)).Node ≤ (atI l ((i : Int) - 1)).Node) with
      | true => simp [gcall, bnd]
      | false => simp only [BEq.rfl, cond_true, gcall_t, svalid_ref hm.1, bnd_mk]
    · have h0' : ¬ (0 : Int) < (i : Int) := by omega
      simp [h0', h0, req, svalid_ref hm.1, bnd]
  · intro n
    try dsimp only
    rw [F_clockworkref32_Gather_L2]
    simp
  · cases ((List.range l.length).any fun i => gthBad l i) with
    | true => rfl
    | false =>
      rw [cond_false, cond_false]
      have key : ∀ n (i : Nat) (out : List TPair), i ≤ l.length → l.length - i < n → out.length ≤ 100 * i → PrOk out → F_clockworkref32_Gather_L1 l (fun x6 => some (x6, (0 : Int))) n out (i : Int) = some (guP out (l.drop i)) := by
        intro n
        induction n with
        | zero => intro i _ _ h; omega
        | succ n ih =>
          intro i out hi hn hlen hok
          rw [F_clockworkref32_Gather_L1]
          rcases Nat.lt_or_ge i l.length with hlt | hge
          · have hm := hs.p _ (List.getElem_mem hlt)
            have hu := union_inv hok hm.1 (by omega)
            rw [List.drop_eq_getElem_cons hlt, guP]
            simp only [show (i : Int) < (l.length : Int) by omega, decide_true, cond_true, show 0 ≤ (i : Int) by omega, and_self, req_t, atI_nat hlt]
            rw [union_ref hok hm.1 (by omega), bnd_mk]
            cases ((unionP out l[i].Pairs).2 != 0) with
            | true => rfl
            | false =>
              rw [cond_false, cond_false, wrap_succ (by omega)]
              exact ih (i + 1) _ (by omega) (by omega) (by omega) hu.2
          · have : i = l.length := by omega
            subst this
            simp [guP]
      have := key (((l.length : Nat) : Int).toNat + 1) 0 [] (by omega) (by omega) (by simp) PrOk.nil
      simpa using this
theorem gu_inv : ∀ {l : List TShard} {out : List TPair} {m : Nat}, (∀ s ∈ l, PrOk s.Pairs ∧ s.Pairs.length ≤ 100) → PrOk out → out.length + 100 * l.length ≤ m → m ≤ 100000 → PrOk (guP out l).1 ∧ (guP out l).1.length ≤ m
  | [], out, m, _, h, hl, _ => by rw [guP]; exact ⟨h, by simpa using hl⟩
  | s :: l, out, m, hs, h, hl, hm => by
    have h1 := hs s (by simp)
    rw [List.length_cons] at hl
    have hu := union_inv h h1.1 (by omega)
    rw [guP]
    cases ((unionP out s.Pairs).2 != 0) with
    | true => exact ⟨PrOk.nil, by simp⟩
    | false => exact gu_inv (fun x hx => hs x (by simp [hx])) hu.2 (by omega) hm
theorem gth_inv {l : List TShard} (hs : SOk l) : PrOk (gthP l).1 ∧ (gthP l).1.length ≤ 10000 := by
  unfold gthP
  have hn := hs.n
  cases ((List.range l.length).any fun i => gthBad l i) with
  | true => exact ⟨PrOk.nil, by simp⟩
  | false => exact gu_inv hs.p PrOk.nil (by simp; omega) (by omega)
end Go.Proofs.YtglnnhmmipopiaaGreat
namespace Go.Proofs.YtglnnhmmipopiaaGreat
theorem find_at {p : TPlacement} {id : Int} (h : ¬ findP p.Parts id < 0) : ∃ k : Nat, findP p.Parts id = (k : Int) ∧ k < p.Parts.length := by
  have hb := firstIx_bd (fun x : TPart => x.Id == id) p.Parts 0
  refine ⟨(findP p.Parts id).toNat, by omega, ?_⟩
  unfold findP at h ⊢
  omega
theorem mfind_impl {p : TPlacement} {id : Int} (hl : p.Parts.length < big) : F_migrate_find p id = some (findP p.Parts id) := by
  have := find_impl (l := p.Parts) (id := id) hl
  unfold F_placement_find at this
  unfold F_migrate_find
  rw [show (fun y0 => F_migrate_find_1 y0 id) = (fun y0 => F_placement_find_1 y0 id) from rfl]
  exact this
def chP (p : TPlacement) (i : Int) (x : TPart) : TPlacement := ⟨IntKind.i64.wrap (p.Version + 1), p.Parts.set i.toNat x⟩
theorem cpL_self {α : Type} [Inhabited α] (l : List α) : cpL l (List.replicate l.length (default : α)) = l := by
  simp [cpL]
theorem changed_impl {p : TPlacement} (hl : p.Parts.length ≤ 1000000) {k : Nat} (hk : k < p.Parts.length) (x : TPart) : F_migrate_changed p (k : Int) x = some (chP p (k : Int) x) := by
  unfold F_migrate_changed
  rw [req_pos ⟨by omega, by omega⟩, req_pos (by simp; omega)]
  rw [show (((p.Parts.length : Nat) : Int)).toNat = p.Parts.length from rfl, cpL_self, req_pos ⟨by omega, by omega⟩]
  rfl
theorem with_ref33 {p : TPlacement} (hl : p.Parts.length ≤ 1000000) {k : Nat} (hk : k < p.Parts.length) (x : TPart) : F_clockworkref33_with p (k : Int) x = some (chP p (k : Int) x) := by
  unfold F_clockworkref33_with
  rw [wrap_succ (by omega)]
  simp only [forall_const, cond_true, List.nil_append, Int.toNat_natCast, Int.toNat_zero, List.drop_zero, List.take_length]
  rw [req_pos ⟨by omega, by omega, by omega⟩, req_pos (by simp; omega), req_pos (by simp; omega), req_pos ⟨by omega, by omega, by omega⟩, req_pos (by simp; omega), chP, List.set_eq_take_append_cons_drop, Int.toNat_natCast, if_pos hk]
  simp
theorem POk.ch {p : TPlacement} (hp : POk p) {i : Int} {x : TPart} (hx : x.From.length < big ∧ x.Done.length < big) : POk (chP p i x) := by
  refine ⟨?_, fun y hy => ?_⟩
  · show (p.Parts.set i.toNat x).length < big
    rw [List.length_set]; exact hp.l
  · rcases List.mem_or_eq_of_mem_set (show y ∈ p.Parts.set i.toNat x from hy) with h | h
    · exact hp.s y h
    · rw [h]; exact hx

/-! ### What shards hold together -/
theorem dv_iff {p : TPlacement} {l : List TShard} : dvB p l = true ↔ pvB p = true ∧ l.map (·.Node) = nodesRefP p ∧ ∀ s ∈ l, staB s.Pairs = true ∧ ∀ x ∈ s.Pairs, ownerP p x.Key = s.Node := by
  unfold dvB
  rw [Bool.and_eq_true, Bool.and_eq_true, decide_eq_true_eq, Bool.not_eq_true', List.any_eq_false]
  have hb : ∀ s nd, shBad p s nd = false ↔ s.Node = nd ∧ staB s.Pairs = true ∧ ∀ x ∈ s.Pairs, ownerP p x.Key = s.Node := by
    intro s nd
    unfold shBad
    rw [Bool.or_eq_false_iff, Bool.or_eq_false_iff, Bool.not_eq_false', bne_eq_false_iff_eq, List.any_eq_false, and_assoc]
    simp
  constructor
  · rintro ⟨⟨h1, h2⟩, h3⟩
    have h3 : ∀ i, i < l.length → shBad p (atI l (i : Int)) (atI (nodesRefP p) (i : Int)) = false := fun i hi => by simpa using h3 i (List.mem_range.2 hi)
    refine ⟨h1, ?_, fun s hs => ?_⟩
    · apply List.ext_getElem (by simpa using h2)
      intro i g1 g2
      have hi : i < l.length := by simpa using g1
      have := ((hb _ _).1 (h3 i hi)).1
      rw [atI_nat hi, atI_nat g2] at this
      simpa using this
    · obtain ⟨i, hi, rfl⟩ := List.getElem_of_mem hs
      have := ((hb _ _).1 (h3 i hi)).2
      rw [atI_nat hi] at this
      exact this
  · rintro ⟨h1, h2, h3⟩
    have hl : l.length = (nodesRefP p).length := by rw [← h2]; simp
    refine ⟨⟨h1, hl⟩, fun i hi => ?_⟩
    have hi := List.mem_range.1 hi
    rw [Bool.not_eq_true, hb, atI_nat hi, atI_nat (show i < (nodesRefP p).length by omega)]
    refine ⟨?_, h3 _ (List.getElem_mem hi)⟩
    have : (l.map (·.Node))[i]'(by simpa using hi) = (nodesRefP p)[i]'(by omega) := by simp only [h2]
    simpa using this
def dj (a b : List TPair) : Prop := ∀ x ∈ a, ∀ y ∈ b, x.Key ≠ y.Key
theorem union_dj {a b : List TPair} (ha : staB a = true) (hb : staB b = true) (hd : dj a b) : ∃ u, unionP a b = (u, 0) ∧ staB u = true ∧ ∀ x, x ∈ u ↔ x ∈ a ∨ x ∈ b := by
  obtain ⟨g1, g2⟩ := mg_spec (sta_iff.1 ha).2 (sta_iff.1 hb).2
  have hf : (mg a b).2 = false := by
    rw [g1, List.any_eq_false]
    intro y hy e
    obtain ⟨x, hx, e⟩ := List.any_eq_true.1 e
    exact hd x hx y hy (eq_of_beq e)
  obtain ⟨g3, g4⟩ := g2 hf
  refine ⟨(mg a b).1, ?_, sta_iff.2 ⟨fun x hx => ?_, g3⟩, g4⟩
  · rw [unionP, ha, hb, hf]; rfl
  · rcases (g4 x).1 hx with h | h
    · exact (sta_iff.1 ha).1 x h
    · exact (sta_iff.1 hb).1 x h
theorem sta_nil : staB [] = true := sta_iff.2 ⟨by simp, List.Pairwise.nil⟩
theorem gu_spec (p : TPlacement) : ∀ (l : List TShard) (out : List TPair), staB out = true → (∀ s ∈ l, staB s.Pairs = true ∧ ∀ x ∈ s.Pairs, ownerP p x.Key = s.Node) → (l.map (·.Node)).Nodup → (∀ x ∈ out, ∀ s ∈ l, ownerP p x.Key ≠ s.Node) →
    ∃ u, guP out l = (u, 0) ∧ staB u = true ∧ ∀ x, x ∈ u ↔ x ∈ out ∨ ∃ s ∈ l, x ∈ s.Pairs
  | [], out, ho, _, _, _ => ⟨out, by rw [guP], ho, by simp⟩
  | s :: l, out, ho, hs, hn, hd => by
    have h1 := hs s (by simp)
    rw [List.map_cons, List.nodup_cons] at hn
    obtain ⟨u, e1, e2, e3⟩ := union_dj ho h1.1 (fun x hx y hy e => by
      have a := hd x hx s (by simp)
      rw [e, h1.2 y hy] at a
      exact a rfl)
    obtain ⟨v, f1, f2, f3⟩ := gu_spec p l u e2 (fun x hx => hs x (by simp [hx])) hn.2 (fun x hx t ht => by
      rcases (e3 x).1 hx with h | h
      · exact hd x h t (by simp [ht])
      · rw [h1.2 x h]
        intro e
        exact hn.1 (List.mem_map.2 ⟨t, ht, e.symm⟩))
    refine ⟨v, ?_, f2, fun x => ?_⟩
    · rw [guP, e1]; exact f1
    · rw [f3, e3, or_assoc]
      simp
theorem gth_spec {p : TPlacement} {l : List TShard} (h : dvB p l = true) : ∃ u, gthP l = (u, 0) ∧ staB u = true ∧ ∀ x, x ∈ u ↔ ∃ s ∈ l, x ∈ s.Pairs := by
  obtain ⟨h1, h2, h3⟩ := dv_iff.1 h
  have hasc : ascI (l.map (·.Node)) := by rw [h2]; exact nodesRef_asc p
  have hnd : (l.map (·.Node)).Nodup := List.Pairwise.imp (fun h e => by omega) hasc
  have hbad : ((List.range l.length).any fun i => gthBad l i) = false := by
    rw [List.any_eq_false]
    intro i hi e
    have hi := List.mem_range.1 hi
    unfold gthBad at e
    rw [Bool.or_eq_true, Bool.and_eq_true, decide_eq_true_eq, decide_eq_true_eq, Bool.not_eq_true', atI_nat hi, (h3 _ (List.getElem_mem hi)).1] at e
    rcases e with ⟨h0, e⟩ | e
    · have := List.pairwise_iff_getElem.1 hasc (i - 1) i (by simp; omega) (by simpa using hi) (by omega)
      simp only [List.getElem_map] at this
      rw [show (i : Int) - 1 = ((i - 1 : Nat) : Int) by omega, atI_nat (show i - 1 < l.length by omega)] at e
      omega
    · simp at e
  obtain ⟨u, e1, e2, e3⟩ := gu_spec p l [] sta_nil h3 hnd (by simp)
  refine ⟨u, ?_, e2, fun x => ?_⟩
  · rw [gthP, hbad]; exact e1
  · rw [e3]; simp

/-! ### The pairs of a moving partition -/
def rngP (p : TPlacement) (k : Nat) : TRange := ⟨(ap p.Parts k).Done, nextF p.Parts k⟩
theorem rng_ok {p : TPlacement} (hp : POk p) {k : Nat} (hk : k < p.Parts.length) : RgOk (rngP p k) := by
  refine ⟨(hp.s _ (ap_mem hk)).2, ?_⟩
  show (nextF p.Parts k).length < big
  by_cases h : k + 1 < p.Parts.length
  · rw [nextF_eq h]; exact (hp.s _ (ap_mem h)).1
  · rw [nextF_last h]; decide
theorem sLt_nil_left {a b : Str} (h : sLt a b = true) : b ≠ [] := fun e => by rw [e, sLt_nil] at h; simp at h
theorem ct_part {p : TPlacement} (hv : pvB p = true) {k : Nat} (hk : k < p.Parts.length) (hd : (ap p.Parts k).Dest ≠ 0) {key : Str} (h : ctB (rngP p k) key = true) : InPart p.Parts k key ∧ sLt key (ap p.Parts k).Done = false := by
  have hP := pv_iff.1 hv
  unfold ctB at h
  rw [Bool.and_eq_true, Bool.and_eq_true, Bool.not_eq_true', Bool.or_eq_true, beq_iff_eq] at h
  obtain ⟨⟨_, h1⟩, h2⟩ := h
  have hm := (hP.mov k hk).dest hd
  have h1 : sLt key (ap p.Parts k).Done = false := h1
  refine ⟨⟨hk, le_le_trans hm.2.2.2.2.1 h1, fun hn => ?_⟩, h1⟩
  have h2 : (nextF p.Parts k = [] ∨ sLt key (nextF p.Parts k) = true) := h2
  rw [nextF_eq hn] at h2
  rcases h2 with h2 | h2
  · exact absurd h2 (sLt_nil_left (hP.asc k hn))
  · exact h2
theorem ct_owner {p : TPlacement} (hv : pvB p = true) {k : Nat} (hk : k < p.Parts.length) (hd : (ap p.Parts k).Dest ≠ 0) {key : Str} (h : ctB (rngP p k) key = true) : ownerP p key = (ap p.Parts k).Node := by
  obtain ⟨h1, h2⟩ := ct_part hv hk hd h
  rw [owner_of (pv_iff.1 hv) h1, partOwner, h2, Bool.and_false, if_neg (by simp)]
theorem part_node {p : TPlacement} (hv : pvB p = true) {k : Nat} (hk : k < p.Parts.length) : (ap p.Parts k).Node ∈ nodesRefP p := by
  have hn := (pv_iff.1 hv).node k hk
  rw [nodesRefP, if_pos hv, pickN_mem]
  exact ⟨by omega, by omega, (hasN_iff _ _ _).2 ⟨k, hk, .inl rfl⟩⟩
def restP (l : List TShard) (nd : Int) (r : TRange) : List TPair := l.foldl (fun a s => cond (s.Node == nd) (slP s.Pairs r) a) []
theorem rest_fold (nd : Int) (r : TRange) : ∀ (l : List TShard) (a : List TPair), (∀ s ∈ l, s.Node ≠ nd) → l.foldl (fun a s => cond (s.Node == nd) (slP s.Pairs r) a) a = a
  | [], a, _ => rfl
  | s :: l, a, h => by
    rw [List.foldl_cons, show (s.Node == nd) = false by simpa using h s (by simp), cond_false]
    exact rest_fold nd r l a (fun x hx => h x (by simp [hx]))
theorem rest_one (nd : Int) (r : TRange) : ∀ (l : List TShard) (a : List TPair), (l.map (·.Node)).Nodup → ∀ s ∈ l, s.Node = nd → l.foldl (fun a s => cond (s.Node == nd) (slP s.Pairs r) a) a = slP s.Pairs r
  | [], _, _, s, hs, _ => by simp at hs
  | t :: l, a, hn, s, hs, e => by
    rw [List.map_cons, List.nodup_cons] at hn
    rw [List.foldl_cons]
    rcases List.mem_cons.1 hs with rfl | hs
    · rw [show (s.Node == nd) = true by simpa using e, cond_true]
      exact rest_fold nd r l _ (fun x hx e2 => hn.1 (List.mem_map.2 ⟨x, hx, by rw [e2, e]⟩))
    · exact rest_one nd r l _ hn.2 s hs e
theorem rest_eq {p : TPlacement} {l : List TShard} (h : dvB p l = true) {k : Nat} (hk : k < p.Parts.length) (hd : (ap p.Parts k).Dest ≠ 0) : restP l (ap p.Parts k).Node (rngP p k) = slP (gthP l).1 (rngP p k) := by
  obtain ⟨h1, h2, h3⟩ := dv_iff.1 h
  obtain ⟨u, e1, e2, e3⟩ := gth_spec h
  have hasc : ascI (l.map (·.Node)) := by rw [h2]; exact nodesRef_asc p
  have hnd : (l.map (·.Node)).Nodup := List.Pairwise.imp (fun h e => by omega) hasc
  obtain ⟨s, hs, hsn⟩ := List.mem_map.1 (show (ap p.Parts k).Node ∈ l.map (·.Node) by rw [h2]; exact part_node h1 hk)
  rw [restP, rest_one _ _ l [] hnd s hs hsn, e1]
  refine kasc_ext (List.Pairwise.filter _ (sta_iff.1 (h3 s hs).1).2) (List.Pairwise.filter _ (sta_iff.1 e2).2) fun x => ?_
  unfold slP
  rw [List.mem_filter, List.mem_filter, e3]
  constructor
  · rintro ⟨a, b⟩
    exact ⟨⟨s, hs, a⟩, b⟩
  · rintro ⟨⟨t, ht, a⟩, b⟩
    refine ⟨?_, b⟩
    have o1 := ct_owner h1 hk hd b
    have o2 := (h3 t ht).2 x a
    have : t.Node = s.Node := by rw [← o2, o1, hsn]
    have hts : t = s := by
      have key : ∀ (l : List TShard), (l.map (·.Node)).Nodup → ∀ t ∈ l, ∀ s ∈ l, t.Node = s.Node → t = s := by
        intro l
        induction l with
        | nil => intro _ t ht; simp at ht
        | cons y l ih =>
          intro hn t ht s hs e
          rw [List.map_cons, List.nodup_cons] at hn
          rcases List.mem_cons.1 ht with ht | ht <;> rcases List.mem_cons.1 hs with hs | hs
          · rw [ht, hs]
          · exact absurd (List.mem_map.2 ⟨s, hs, by rw [← e, ht]⟩) hn.1
          · exact absurd (List.mem_map.2 ⟨t, ht, by rw [e, hs]⟩) hn.1
          · exact ih hn.2 t ht s hs e
      exact key l hnd t ht s hs this
    rw [← hts]; exact a

/-! ### The functions -/
def movP (p : TPlacement) (l : List TShard) (id : Int) : Int × Int :=
  cond (dvB p l) (cond (decide (findP p.Parts id < 0)) (0, 9) (cond ((atI p.Parts (findP p.Parts id)).Dest == 0) (0, 19) (cond (p.Version == 1099511627776) (0, 2) (findP p.Parts id, 0)))) (0, 1)
theorem moving_impl {p : TPlacement} (hp : POk p) {l : List TShard} (hs : SOk l) (id : Int) : F_migrate_moving p l id = some (movP p l id) := by
  unfold F_migrate_moving movP
  rw [dvalid_impl hp hs, bnd_mk]
  cases dvB p l with
  | false => rfl
  | true =>
    rw [mfind_impl hp.l]
    simp only [Bool.not_true, cond_false, cond_true, bnd_mk]
    by_cases h : findP p.Parts id < 0
    · simp [h]
    · obtain ⟨k, e, hk⟩ := find_at h
      rw [e, decide_eq_false (show ¬ (k : Int) < 0 by omega), cond_false, cond_false, req_pos ⟨by omega, by omega⟩]
      cases ((atI p.Parts (k : Int)).Dest == 0) with
      | true => rfl
      | false => cases (p.Version == 1099511627776) <;> rfl
theorem find_ref33 {p : TPlacement} (hp : POk p) {l : List TShard} (hs : SOk l) (id : Int) : F_clockworkref33_find p l id = some (movP p l id) := by
  unfold F_clockworkref33_find movP
  rw [dvalid_ref hp hs, bnd_mk]
  cases hd : dvB p l with
  | false => rfl
  | true =>
    have hv := (pv_iff.1 (dv_iff.1 hd).1).ver
    rw [find_ref hp.l]
    simp only [Bool.not_true, cond_false, cond_true, bnd_mk]
    by_cases h : findP p.Parts id < 0
    · simp [h]
    · obtain ⟨k, e, hk⟩ := find_at h
      rw [e, decide_eq_false (show ¬ (k : Int) < 0 by omega), cond_false, cond_false, req_pos ⟨by omega, by omega⟩]
      rw [show decide ((1099511627776 : Int) ≤ p.Version) = (p.Version == 1099511627776) by rw [Bool.eq_iff_iff]; simp; omega]
      cases ((atI p.Parts (k : Int)).Dest == 0) with
      | true => rfl
      | false => cases (p.Version == 1099511627776) <;> rfl
theorem mov_ok {p : TPlacement} {l : List TShard} {id : Int} (h : (movP p l id).2 = 0) : dvB p l = true ∧ ∃ k : Nat, (movP p l id).1 = (k : Int) ∧ findP p.Parts id = (k : Int) ∧ k < p.Parts.length ∧ (ap p.Parts k).Dest ≠ 0 ∧ (ap p.Parts k).Id = id ∧ p.Version ≠ 1099511627776 := by
  unfold movP at h ⊢
  cases hd : dvB p l with
  | false => rw [hd] at h; simp at h
  | true =>
    rw [hd] at h
    simp only [cond_true] at h ⊢
    by_cases h0 : findP p.Parts id < 0
    · simp [h0] at h
    · obtain ⟨k, e, hk⟩ := find_at h0
      rw [e, decide_eq_false (show ¬ (k : Int) < 0 by omega), cond_false] at h ⊢
      cases h1 : ((atI p.Parts (k : Int)).Dest == 0) with
      | true => rw [h1] at h; simp at h
      | false =>
        rw [h1] at h
        cases h2 : (p.Version == 1099511627776) with
        | true => rw [h2] at h; simp at h
        | false => exact ⟨trivial, k, rfl, rfl, hk, fun e0 => by rw [show (atI p.Parts (k : Int)).Dest = 0 from e0] at h1; simp at h1, (findP_spec e).2, by simpa using h2⟩
theorem moved_impl {q : TPlacement} (hq : POk q) {l : List TShard} (hs : SOk l) : F_migrate_moved q l = some (loadP q (gthP l).1) := by
  obtain ⟨h1, h2⟩ := gth_inv hs
  unfold F_migrate_moved
  rw [gather_impl hs, bnd_mk, load_impl hq h1 (by omega), bnd_mk]
def noP : TPlacement := ⟨0, []⟩
def noC : TChunk := ⟨0, 0, 0, (default : TRange), [], false⟩
def nxtX (x : TPart) (rest : List TPair) (n : Int) : TPart := cond (decide (((rest.length : Nat) : Int) ≤ n)) ⟨x.Id, x.From, x.Dest, 0, []⟩ ⟨x.Id, x.From, x.Node, x.Dest, (atI rest n).Key⟩
def nxtC (x : TPart) (r : TRange) (rest : List TPair) (n : Int) : TChunk := cond (decide (((rest.length : Nat) : Int) ≤ n)) ⟨x.Id, x.Node, x.Dest, r, rest, true⟩ ⟨x.Id, x.Node, x.Dest, ⟨r.From, (atI rest n).Key⟩, rest.take n.toNat, false⟩
def ckP (p : TPlacement) (l : List TShard) (id n : Int) : TPlacement × List TShard × TChunk × Int :=
  cond (decide (n < 1)) (noP, [], noC, 1) (cond ((movP p l id).2 != 0) (noP, [], noC, (movP p l id).2)
    (chP p (movP p l id).1 (nxtX (atI p.Parts (movP p l id).1) (slP (gthP l).1 (rngP p (movP p l id).1.toNat)) n),
     loadP (chP p (movP p l id).1 (nxtX (atI p.Parts (movP p l id).1) (slP (gthP l).1 (rngP p (movP p l id).1.toNat)) n)) (gthP l).1,
     nxtC (atI p.Parts (movP p l id).1) (rngP p (movP p l id).1.toNat) (slP (gthP l).1 (rngP p (movP p l id).1.toNat)) n, 0))
theorem nxtX_ok {p : TPlacement} (hp : POk p) {l : List TShard} (hs : SOk l) {k : Nat} (hk : k < p.Parts.length) (r : TRange) {n : Int} (hn : 1 ≤ n) : (nxtX (atI p.Parts (k : Int)) (slP (gthP l).1 r) n).From.length < big ∧ (nxtX (atI p.Parts (k : Int)) (slP (gthP l).1 r) n).Done.length < big := by
  obtain ⟨h1, h2⟩ := gth_inv hs
  have hx := hp.s _ (at_mem29 hk)
  unfold nxtX
  by_cases h : (((slP (gthP l).1 r).length : Nat) : Int) ≤ n
  · rw [decide_eq_true h]; exact ⟨hx.1, by show ([] : Str).length < big; decide⟩
  · rw [decide_eq_false h]
    refine ⟨hx.1, ?_⟩
    show (atI (slP (gthP l).1 r) n).Key.length < big
    obtain ⟨m, e⟩ : ∃ m : Nat, n = (m : Int) := ⟨n.toNat, by omega⟩
    rw [e] at h ⊢
    exact (h1.k _ (List.mem_filter.1 (at_mem29 (l := slP (gthP l).1 r) (i := m) (by omega))).1).1
theorem chunk_ref {p : TPlacement} (hp : POk p) (hpl : p.Parts.length ≤ 1000) {l : List TShard} (hs : SOk l) (id n : Int) : F_clockworkref33_Chunk p l id n = some (ckP p l id n) := by
  unfold F_clockworkref33_Chunk ckP
  by_cases h : n < 1
  · simp [h, noP, noC]
  rw [decide_eq_false h, cond_false, cond_false, find_ref33 hp hs, bnd_mk]
  cases hm : ((movP p l id).2 != 0) with
  | true => rfl
  | false =>
    obtain ⟨hdv, k, e, ef, hk, hdest, hid, hver⟩ := mov_ok (p := p) (l := l) (id := id) (by simpa using hm)
    have hv := (dv_iff.1 hdv).1
    obtain ⟨g1, g2⟩ := gth_inv hs
    have hrg := rng_ok hp hk
    rw [cond_false, cond_false, e, req_pos ⟨by omega, by omega⟩, gather_ref hs, bnd_mk, range_ref hp.l hp.s, bnd_mk]
    have er : (rangeP p id).1.To = nextF p.Parts k := by
      rw [rangeP, if_neg (by simp [hv]), ef, if_neg (by omega)]; rfl
    rw [er, show (⟨(atI p.Parts (k : Int)).Done, nextF p.Parts k⟩ : TRange) = rngP p k from rfl, slice_ref (by omega) hrg, bnd_mk, Int.toNat_natCast]
    have hX := nxtX_ok hp hs hk (rngP p k) (n := n) (by omega)
    simp only [jn_mk]
    have hidk : (atI p.Parts (k : Int)).Id = id := hid
    unfold nxtX nxtC at *
    by_cases hlast : (((slP (gthP l).1 (rngP p k)).length : Nat) : Int) ≤ n
    · rw [decide_eq_true hlast] at hX ⊢
      simp only [cond_true] at hX ⊢
      rw [with_ref33 (by omega) hk, bnd_mk, load_ref (hp.ch hX) g1 (by omega), bnd_mk, hidk]
    · rw [decide_eq_false hlast] at hX ⊢
      simp only [cond_false, cond_true, forall_const, List.nil_append, Int.toNat_zero, List.drop_zero] at hX ⊢
      have hsl : (slP (gthP l).1 (rngP p k)).length ≤ 10000 := Nat.le_trans (List.length_filter_le _ _) g2
      rw [req_pos ⟨by omega, by omega, by omega⟩, req_pos (by simp; omega), req_pos ⟨by omega, by omega⟩, with_ref33 (by omega) hk, bnd_mk, load_ref (hp.ch hX) g1 (by omega), bnd_mk, hidk]
      rfl
theorem chunk_impl {p : TPlacement} (hp : POk p) (hpl : p.Parts.length ≤ 1000) {l : List TShard} (hs : SOk l) (id n : Int) : F_migrate_Chunk p l id n = some (ckP p l id n) := by
  unfold F_migrate_Chunk ckP
  by_cases h : n < 1
  · simp [h, noP, noC]
  rw [decide_eq_false h, cond_false, cond_false, moving_impl hp hs, bnd_mk]
  cases hm : ((movP p l id).2 != 0) with
  | true => rfl
  | false =>
    obtain ⟨hdv, k, e, ef, hk, hdest, hid, hver⟩ := mov_ok (p := p) (l := l) (id := id) (by simpa using hm)
    have hv := (dv_iff.1 hdv).1
    obtain ⟨g1, g2⟩ := gth_inv hs
    have hrg := rng_ok hp hk
    have hn := hs.n
    have hX := nxtX_ok hp hs hk (rngP p k) (n := n) (by omega)
    have hidk : (atI p.Parts (k : Int)).Id = id := hid
    rw [cond_false, cond_false, req_pos ⟨by omega, by omega⟩, range_impl hp.l hp.s, bnd_mk]
    have er : (rangeP p id).1.To = nextF p.Parts k := by
      rw [rangeP, if_neg (by simp [hv]), ef, if_neg (by omega)]; rfl
    simp only [jn_mk]
    have hL : ∀ J : List TPair → Option (TPlacement × List TShard × TChunk × Int), F_migrate_Chunk_L1 l p (movP p l id) (rangeP p id) J (((l.length : Nat) : Int).toNat + 1) [] 0 = J (slP (gthP l).1 (rngP p k)) := by
      intro J
      rw [← rest_eq hdv hk hdest]
      refine loopFold (l := l) (by omega) (L := fun n a i => F_migrate_Chunk_L1 l p (movP p l id) (rangeP p id) J n a i) (J := J) (f := fun a s => cond (s.Node == (ap p.Parts k).Node) (slP s.Pairs (rngP p k)) a) (fun _ _ => True) ?_ ?_ ?_ (by omega) trivial
      · intro n i a hi _
        have hm := hs.p _ (List.getElem_mem hi)
        try dsimp only
        rw [F_migrate_Chunk_L1, e, er]
        simp only [show (i : Int) < (l.length : Int) by omega, decide_true, cond_true, show 0 ≤ (i : Int) by omega, and_self, req_t, atI_nat hi, jn_mk]
        rw [show (⟨(atI p.Parts (k : Int)).Done, nextF p.Parts k⟩ : TRange) = rngP p k from rfl, slice_impl (by omega) hrg, bnd_mk]
        rw [show (atI p.Parts (k : Int)).Node = (ap p.Parts k).Node from rfl]
        cases (l[i].Node == (ap p.Parts k).Node) <;> rfl
      · intros; trivial
      · intro n a _
        try dsimp only
        rw [F_migrate_Chunk_L1]
        simp
    rw [hL]
    rw [e, er, Int.toNat_natCast]
    unfold nxtX nxtC at *
    by_cases hlast : (((slP (gthP l).1 (rngP p k)).length : Nat) : Int) ≤ n
    · rw [decide_eq_true hlast] at hX ⊢
      rw [decide_eq_false (show ¬ n < (((slP (gthP l).1 (rngP p k)).length : Nat) : Int) by omega)]
      simp only [cond_true, cond_false] at hX ⊢
      rw [changed_impl (by omega) hk, bnd_mk, moved_impl (hp.ch hX) hs, bnd_mk, hidk]
      rfl
    · rw [decide_eq_false hlast] at hX ⊢
      rw [decide_eq_true (show n < (((slP (gthP l).1 (rngP p k)).length : Nat) : Int) by omega)]
      simp only [cond_false, cond_true] at hX ⊢
      have hsl : (slP (gthP l).1 (rngP p k)).length ≤ 10000 := Nat.le_trans (List.length_filter_le _ _) g2
      rw [req_pos ⟨by omega, by omega⟩, req_pos ⟨by omega, by omega⟩, req_pos (by omega), req_pos ⟨by omega, by omega⟩, changed_impl (by omega) hk, bnd_mk, moved_impl (hp.ch hX) hs, bnd_mk, hidk]
      have ec : cpL (slP (gthP l).1 (rngP p k)) (List.replicate n.toNat (default : TPair)) = (slP (gthP l).1 (rngP p k)).take n.toNat := by
        rw [cpL, List.length_replicate, List.drop_of_length_le (by simp; omega), List.append_nil]
      rw [ec]
      rfl
end Go.Proofs.YtglnnhmmipopiaaGreat
namespace Go.Proofs.YtglnnhmmipopiaaGreat

/-! ### Start, Moving -/
def stP (p : TPlacement) (id node : Int) : TPlacement × Int :=
  cond ((!pvB p || decide (node < 1)) || decide (16 < node)) (noP, 1) (cond (decide (findP p.Parts id < 0)) (noP, 9)
    (cond (((atI p.Parts (findP p.Parts id)).Dest != 0) || ((atI p.Parts (findP p.Parts id)).Node == node)) (noP, 19) (cond (p.Version == 1099511627776) (noP, 2)
      (chP p (findP p.Parts id) ⟨(atI p.Parts (findP p.Parts id)).Id, (atI p.Parts (findP p.Parts id)).From, (atI p.Parts (findP p.Parts id)).Node, node, (atI p.Parts (findP p.Parts id)).From⟩, 0))))
theorem start_impl {p : TPlacement} (hp : POk p) (hpl : p.Parts.length ≤ 1000) (id node : Int) : F_migrate_Start p id node = some (stP p id node) := by
  unfold F_migrate_Start stP
  rw [valid29_impl hp.l hp.s, bnd_mk]
  cases ((!pvB p || decide (node < 1)) || decide (16 < node)) with
  | true => rfl
  | false =>
    rw [cond_false, cond_false, mfind_impl hp.l, bnd_mk]
    by_cases h : findP p.Parts id < 0
    · rw [decide_eq_true h]; rfl
    · obtain ⟨k, e, hk⟩ := find_at h
      rw [e, decide_eq_false (show ¬ (k : Int) < 0 by omega), cond_false, cond_false, req_pos ⟨by omega, by omega⟩]
      cases (((atI p.Parts (k : Int)).Dest != 0) || ((atI p.Parts (k : Int)).Node == node)) with
      | true => rfl
      | false =>
        cases (p.Version == 1099511627776) with
        | true => rfl
        | false => rw [cond_false, cond_false, cond_false, cond_false, changed_impl (by omega) hk, bnd_mk]
structure CkOk (c : TChunk) : Prop where
  k : RgOk c.Keys
  p : PrOk c.Pairs
end Go.Proofs.YtglnnhmmipopiaaGreat
