/-
  CHAPTER 29, PLAIN: what a valid placement is; the partition of a key (part n).
  Conditions: none.
-/
import Derived.Test.YtcgmfmpfmfjmoaaGreatEm
set_option linter.all false
namespace Go.Proofs.YtcgmfmpfmfjmoaaGreat
open Go.ChangeShapes

/-! ### Elements of lists -/

def ap {α : Type} [Inhabited α] (l : List α) (i : Nat) : α := atI l (i : Int)

theorem ap_get {α : Type} [Inhabited α] {l : List α} {i : Nat} (h : i < l.length) : ap l i = l[i] := atI_nat h
theorem ap_app {α : Type} [Inhabited α] (a b : List α) (i : Nat) : ap (a ++ b) i = if i < a.length then ap a i else ap b (i - a.length) := by
  simp only [ap, atI, Int.toNat_natCast, List.getD_eq_getElem?_getD]
  split
  · rename_i h; rw [List.getElem?_append_left h]
  · rename_i h; rw [List.getElem?_append_right (by omega)]
theorem ap_take {α : Type} [Inhabited α] (l : List α) {n i : Nat} (h : i < n) : ap (l.take n) i = ap l i := by
  simp only [ap, atI, Int.toNat_natCast, List.getD_eq_getElem?_getD]
  rw [List.getElem?_take_of_lt h]
theorem ap_drop {α : Type} [Inhabited α] (l : List α) (n i : Nat) : ap (l.drop n) i = ap l (n + i) := by
  simp only [ap, atI, Int.toNat_natCast, List.getD_eq_getElem?_getD, List.getElem?_drop]
theorem ap_one {α : Type} [Inhabited α] (x : α) : ap [x] 0 = x := rfl
theorem ap_ext {α : Type} [Inhabited α] {a b : List α} (hl : a.length = b.length) (h : ∀ i, i < a.length → ap a i = ap b i) : a = b := by
  apply List.ext_getElem hl
  intro i h1 h2
  have := h i h1
  rwa [ap_get h1, ap_get h2] at this
theorem ap_mem {α : Type} [Inhabited α] {l : List α} {i : Nat} (h : i < l.length) : ap l i ∈ l := at_mem29 h
theorem mem_ap {α : Type} [Inhabited α] {l : List α} {x : α} (h : x ∈ l) : ∃ i, i < l.length ∧ ap l i = x := by
  obtain ⟨i, h1, h2⟩ := List.mem_iff_getElem.1 h
  exact ⟨i, h1, by rw [ap_get h1, h2]⟩

/-! ### Valid placements -/

structure MovOk (x : TPart) (next : Str) (last : Bool) : Prop where
  done : x.Dest = 0 → x.Done = []
  dest : x.Dest ≠ 0 → 1 ≤ x.Dest ∧ x.Dest ≤ 16 ∧ x.Dest ≠ x.Node ∧ boundB x.Done = true ∧ sLt x.Done x.From = false ∧ (last = true ∨ sLt x.Done next = true)

theorem mov_iff {x : TPart} {next : Str} {last : Bool} : movesB x next last = true ↔ MovOk x next last := by
  unfold movesB
  by_cases h : x.Dest = 0
  · simp only [h, BEq.rfl, cond_true, beq_iff_eq]
    exact ⟨fun e => ⟨fun _ => e, fun hn => absurd h hn⟩, fun m => m.done h⟩
  · have h' : (x.Dest == 0) = false := by simpa using h
    simp only [h', cond_false, Bool.and_eq_true, decide_eq_true_eq, Bool.or_eq_true, Bool.not_eq_true', bne_iff_ne, ne_eq]
    constructor
    · rintro ⟨⟨⟨⟨⟨a, b⟩, c⟩, d⟩, e⟩, f⟩
      exact ⟨fun h0 => absurd h0 h, fun _ => ⟨a, b, c, d, e, f⟩⟩
    · intro m
      obtain ⟨a, b, c, d, e, f⟩ := m.dest h
      exact ⟨⟨⟨⟨⟨a, b⟩, c⟩, d⟩, e⟩, f⟩

/-- The From behind a partition. -/
structure PV (v : Int) (l : List TPart) : Prop where
  ver : 0 ≤ v ∧ v ≤ 1099511627776
  len : 1 ≤ l.length ∧ l.length ≤ 16
  head : (ap l 0).From = []
  bnd : ∀ i, i < l.length → boundB (ap l i).From = true
  asc : ∀ i, i + 1 < l.length → sLt (ap l i).From (ap l (i + 1)).From = true
  id : ∀ i, i < l.length → 1 ≤ (ap l i).Id ∧ (ap l i).Id ≤ 1099511627776
  node : ∀ i, i < l.length → 1 ≤ (ap l i).Node ∧ (ap l i).Node ≤ 16
  mov : ∀ i, i < l.length → MovOk (ap l i) (nextF l i) (decide (i + 1 = l.length))
  uniq : ∀ i j, j < i → i < l.length → (ap l j).Id ≠ (ap l i).Id

theorem any_take_id {l : List TPart} {i : Nat} (hi : i ≤ l.length) {d : Int} : ((l.take i).any fun y => y.Id == d) = false ↔ ∀ j, j < i → (ap l j).Id ≠ d := by
  rw [List.any_eq_false]
  constructor
  · intro h j hj
    have := h (ap (l.take i) j) (ap_mem (by simp; omega))
    rw [ap_take l hj] at this
    simpa using this
  · intro h x hx
    obtain ⟨j, h1, rfl⟩ := mem_ap hx
    have hj : j < i := by simp at h1; omega
    rw [ap_take l hj]
    simpa using h j hj

theorem pv_iff {p : TPlacement} : pvB p = true ↔ PV p.Version p.Parts := by
  have hbad : ∀ i, i < p.Parts.length → (badPart p.Parts i = false ↔ boundB (ap p.Parts i).From = true ∧ (0 < i → sLt (ap p.Parts (i - 1)).From (ap p.Parts i).From = true) ∧ (1 ≤ (ap p.Parts i).Id ∧ (ap p.Parts i).Id ≤ 1099511627776) ∧ (1 ≤ (ap p.Parts i).Node ∧ (ap p.Parts i).Node ≤ 16) ∧
      MovOk (ap p.Parts i) (nextF p.Parts i) (decide (i + 1 = p.Parts.length)) ∧ ∀ j, j < i → (ap p.Parts j).Id ≠ (ap p.Parts i).Id) := by
    intro i hi
    rw [← mov_iff, ← any_take_id (by omega)]
    have e : 0 < i → atI p.Parts ((i : Int) - 1) = ap p.Parts (i - 1) := fun h0 => by
      unfold ap
      congr 1
      omega
    unfold badPart
    simp only [Bool.or_eq_false_iff, Bool.not_eq_false', decide_eq_false_iff_not, Bool.and_eq_false_iff]
    constructor
    · rintro ⟨⟨⟨⟨⟨⟨⟨a, b⟩, c⟩, d⟩, f⟩, g⟩, m⟩, u⟩
      refine ⟨a, fun h0 => ?_, ⟨by unfold ap; omega, by unfold ap; omega⟩, ⟨by unfold ap; omega, by unfold ap; omega⟩, m, u⟩
      rcases b with b | b
      · exact absurd h0 b
      · rw [← e h0]; exact b
    · rintro ⟨a, b, c, d, m, u⟩
      unfold ap at c d
      refine ⟨⟨⟨⟨⟨⟨⟨a, ?_⟩, by omega⟩, by omega⟩, by omega⟩, by omega⟩, m⟩, u⟩
      by_cases h0 : 0 < i
      · right; rw [e h0]; exact b h0
      · exact .inl h0
  unfold pvB headBad
  simp only [Bool.and_eq_true, Bool.not_eq_true', Bool.or_eq_false_iff, decide_eq_false_iff_not, beq_iff_eq, List.any_eq_false, List.mem_range, Bool.not_eq_true]
  constructor
  · rintro ⟨⟨⟨⟨⟨a, b⟩, c⟩, d⟩, e⟩, f⟩
    have g := fun i hi => (hbad i hi).1 (f i hi)
    refine ⟨⟨by omega, by omega⟩, ⟨by omega, by omega⟩, e, fun i hi => (g i hi).1, fun i hi => ?_, fun i hi => (g i hi).2.2.1, fun i hi => (g i hi).2.2.2.1, fun i hi => (g i hi).2.2.2.2.1, fun i j hj hi => (g i hi).2.2.2.2.2 j hj⟩
    exact (g (i + 1) hi).2.1 (by omega)
  · intro h
    obtain ⟨h1, h2⟩ := h.ver
    obtain ⟨h3, h4⟩ := h.len
    refine ⟨⟨⟨⟨⟨by omega, by omega⟩, by omega⟩, by omega⟩, h.head⟩, fun i hi => (hbad i hi).2 ⟨h.bnd i hi, fun h0 => ?_, h.id i hi, h.node i hi, h.mov i hi, fun j hj => h.uniq i j hj hi⟩⟩
    have := h.asc (i - 1) (by omega)
    rwa [show i - 1 + 1 = i by omega] at this

theorem nextF_eq {l : List TPart} {i : Nat} (h : i + 1 < l.length) : nextF l i = (ap l (i + 1)).From := by simp [nextF, h, ap]
theorem nextF_last {l : List TPart} {i : Nat} (h : ¬ i + 1 < l.length) : nextF l i = [] := by simp [nextF, h]

/-! ### The order of strings, once more -/

theorem sLt_le_trans {a b c : Str} (h1 : sLt a b = true) (h2 : sLt c b = false) : sLt a c = true := by
  by_cases h : sLt c a = true
  · have := sLt_trans h h1
    rw [h2] at this; simp at this
  · by_cases h3 : sLt a c = true
    · exact h3
    · have := sLt_conn (by simpa using h) (by simpa using h3)
      subst this
      rw [h2] at h1; simp at h1

theorem le_sLt_trans {a b c : Str} (h1 : sLt b a = false) (h2 : sLt b c = true) : sLt a c = true := by
  by_cases h : sLt a b = true
  · exact sLt_trans h h2
  · have := sLt_conn (by simpa using h) h1
    rw [this]; exact h2

theorem le_le_trans {a b c : Str} (h1 : sLt b a = false) (h2 : sLt c b = false) : sLt c a = false := by
  by_cases h : sLt c a = true
  · have := sLt_le_trans h h1
    rw [h2] at this; simp at this
  · simpa using h

theorem sLt_asymm' {a b : Str} (h : sLt a b = true) : sLt b a = false := by
  by_cases h2 : sLt b a = true
  · have := sLt_trans h h2
    rw [sLt_irrefl] at this; simp at this
  · simpa using h2

/-! ### The partition of a key -/

/-- The key stands in partition i. -/
structure InPart (l : List TPart) (i : Nat) (key : Str) : Prop where
  lt : i < l.length
  lo : sLt key (ap l i).From = false
  hi : i + 1 < l.length → sLt key (ap l (i + 1)).From = true

theorem PV.asc_le {v : Int} {l : List TPart} (h : PV v l) {i : Nat} : ∀ {j : Nat}, i ≤ j → j < l.length → sLt (ap l j).From (ap l i).From = false
  | 0, hij, _ => by
    obtain rfl : i = 0 := by omega
    exact sLt_irrefl _
  | j + 1, hij, hj => by
    by_cases he : i = j + 1
    · subst he; exact sLt_irrefl _
    · have h1 := PV.asc_le h (i := i) (j := j) (by omega) (by omega)
      have h2 := sLt_asymm' (h.asc j hj)
      exact le_le_trans h1 h2

theorem PV.asc_lt {v : Int} {l : List TPart} (h : PV v l) {i j : Nat} (hij : i < j) (hj : j < l.length) : sLt (ap l i).From (ap l j).From = true := by
  have h1 := h.asc i (by omega)
  have h2 := h.asc_le (i := i + 1) (j := j) (by omega) hj
  exact sLt_le_trans h1 h2

theorem InPart.unique {v : Int} {l : List TPart} (h : PV v l) {i j : Nat} {key : Str} (h1 : InPart l i key) (h2 : InPart l j key) : i = j := by
  have go : ∀ {i j : Nat}, InPart l i key → InPart l j key → ¬ i < j := by
    intro i j h1 h2 hij
    have hj := h2.lt
    have a := h1.hi (by omega)
    have b := h.asc_le (i := i + 1) (j := j) (by omega) hj
    have c := sLt_le_trans a b
    rw [h2.lo] at c; simp at c
  have a := go h1 h2
  have b := go h2 h1
  omega

theorem lastLe_in {v : Int} {l : List TPart} (h : PV v l) (key : Str) : ∀ n, 1 ≤ n → n ≤ l.length → (n < l.length → sLt key (ap l n).From = true) → InPart l (lastLe l key n).toNat key ∧ 0 ≤ lastLe l key n
  | 0, h1, _, _ => by omega
  | k + 1, _, h2, h3 => by
    simp only [lastLe]
    by_cases hk : k = 0
    · subst hk
      simp only [if_true]
      refine ⟨⟨by simp; omega, ?_, fun hi => h3 hi⟩, by omega⟩
      have : (ap l 0).From = [] := h.head
      show sLt key (ap l 0).From = false
      rw [this]
      exact sLt_nil _
    · simp only [hk, if_false]
      by_cases hs : sLt key (ap l k).From = false
      · have hs' : sLt key (atI l (k : Int)).From = false := hs
        rw [if_pos hs']
        exact ⟨⟨by simp; omega, by simpa using hs, fun hi => by simpa using h3 (by simpa using hi)⟩, by omega⟩
      · have hs' : ¬ sLt key (atI l (k : Int)).From = false := hs
        rw [if_neg hs']
        exact lastLe_in h key k (by omega) (by omega) (fun _ => by simpa using hs)

theorem index_in {p : TPlacement} (h : PV p.Version p.Parts) (key : Str) : ∃ i : Nat, indexP p key = (i : Int) ∧ InPart p.Parts i key := by
  have hp := pv_iff.2 h
  obtain ⟨h1, h2⟩ := lastLe_in h key p.Parts.length h.len.1 (Nat.le_refl _) (fun hn => by omega)
  refine ⟨(lastLe p.Parts key p.Parts.length).toNat, ?_, h1⟩
  unfold indexP
  rw [if_neg (by rw [hp]; simp)]
  omega

theorem index_of {p : TPlacement} (h : PV p.Version p.Parts) {key : Str} {i : Nat} (hi : InPart p.Parts i key) : indexP p key = (i : Int) := by
  obtain ⟨j, h1, h2⟩ := index_in h key
  rw [h1, InPart.unique h h2 hi]

/-- Who owns a key of this partition. -/
def partOwner (x : TPart) (key : Str) : Int := if ((x.Dest != 0) && (sLt key x.Done)) = true then x.Dest else x.Node

theorem owner_of {p : TPlacement} (h : PV p.Version p.Parts) {key : Str} {i : Nat} (hi : InPart p.Parts i key) : ownerP p key = partOwner (ap p.Parts i) key := by
  unfold ownerP partOwner ap
  rw [index_of h hi, if_neg (by omega)]

theorem findP_spec {l : List TPart} {d : Int} {k : Nat} (h : findP l d = (k : Int)) : k < l.length ∧ (ap l k).Id = d := by
  unfold findP at h
  have go : ∀ (m : List TPart) (i : Nat), firstIx (fun x : TPart => x.Id == d) m i = (k : Int) → ∃ j, k = i + j ∧ j < m.length ∧ (ap m j).Id = d := by
    intro m
    induction m with
    | nil => intro i h; simp only [firstIx] at h; omega
    | cons x m ih =>
      intro i h
      simp only [firstIx] at h
      split at h
      · rename_i hx
        exact ⟨0, by omega, by simp, by show x.Id = d; simpa using hx⟩
      · obtain ⟨j, h1, h2, h3⟩ := ih (i + 1) h
        exact ⟨j + 1, by omega, by simpa using h2, h3⟩
  obtain ⟨j, h1, h2, h3⟩ := go l 0 h
  obtain rfl : k = j := by omega
  exact ⟨h2, h3⟩

theorem findP_of {v : Int} {l : List TPart} (h : PV v l) {k : Nat} (hk : k < l.length) : findP l (ap l k).Id = (k : Int) := by
  by_cases hn : findP l (ap l k).Id < 0
  · have h1 := firstIx_nonneg (fun x : TPart => x.Id == (ap l k).Id) l 0
    have h2 : (l.any fun x => x.Id == (ap l k).Id) = true := by
      rw [List.any_eq_true]
      exact ⟨ap l k, ap_mem hk, by simp⟩
    rw [h2] at h1
    unfold findP at hn
    simp only [decide_eq_true_eq] at h1
    omega
  · obtain ⟨j, h1⟩ : ∃ j : Nat, findP l (ap l k).Id = (j : Int) := ⟨(findP l (ap l k).Id).toNat, by omega⟩
    obtain ⟨h2, h3⟩ := findP_spec h1
    rw [h1]
    rcases Nat.lt_trichotomy j k with g | g | g
    · exact absurd h3 (h.uniq k j g hk)
    · rw [g]
    · exact absurd h3.symm (h.uniq j k g h2)

theorem findP_none {l : List TPart} {d : Int} : findP l d < 0 ↔ ∀ i, i < l.length → (ap l i).Id ≠ d := by
  have h1 := firstIx_nonneg (fun x : TPart => x.Id == d) l 0
  unfold findP
  constructor
  · intro h i hi hd
    have : (l.any fun x => x.Id == d) = true := by
      rw [List.any_eq_true]; exact ⟨ap l i, ap_mem hi, by simpa using hd⟩
    rw [this] at h1
    simp only [decide_eq_true_eq] at h1
    omega
  · intro h
    have : (l.any fun x => x.Id == d) = false := by
      rw [List.any_eq_false]
      intro x hx
      obtain ⟨i, hi, rfl⟩ := mem_ap hx
      simpa using h i hi
    rw [this] at h1
    simp only [decide_eq_false_iff_not] at h1
    omega

end Go.Proofs.YtcgmfmpfmfjmoaaGreat
