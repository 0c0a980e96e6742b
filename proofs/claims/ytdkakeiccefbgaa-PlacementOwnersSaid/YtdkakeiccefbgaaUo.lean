/-
  CHAPTER 29, PLAIN: dividing a partition (part o).
  Conditions: none.
-/
import Derived.Test.YtdkakeiccefbgaaUm
import Derived.Test.YtdkakeiccefbgaaUn
set_option linter.all false
namespace Go.Proofs.Ytdkakeiccefbgaa
open Go.ChangeShapes

/-- The partitions behind a division: partition k, from 'key' on, gets the number 'fresh'. -/
def divL (l : List TPart) (k : Nat) (key : Str) (fresh : Int) : List TPart := (l.take (k + 1) ++ [⟨fresh, key, (ap l k).Node, 0, []⟩]) ++ l.drop (k + 1)

structure DivOk (v : Int) (l : List TPart) (k : Nat) (key : Str) (fresh : Int) : Prop where
  pv : PV v l
  lt : k < l.length
  dest : (ap l k).Dest = 0
  bnd : boundB key = true
  lo : sLt (ap l k).From key = true
  hi : k + 1 < l.length → sLt key (ap l (k + 1)).From = true
  fr : 1 ≤ fresh ∧ fresh ≤ 1099511627776
  new : ∀ i, i < l.length → (ap l i).Id ≠ fresh
  len : l.length < 16
  ver : v < 1099511627776

theorem splitP_cases (p : TPlacement) (id : Int) (key : Str) (fresh : Int) :
    ((splitP p id key fresh).2 ≠ 0 ∧ (splitP p id key fresh).1 = empP) ∨
    ∃ k : Nat, findP p.Parts id = (k : Int) ∧ DivOk p.Version p.Parts k key fresh ∧ splitP p id key fresh = (⟨p.Version + 1, divL p.Parts k key fresh⟩, 0) := by
  unfold splitP
  cases hv : pvB p with
  | false => left; simp
  | true =>
    have pv := pv_iff.1 hv
    simp only [Bool.not_true, cond_false]
    by_cases h : findP p.Parts id < 0
    · left; simp [h]
    obtain ⟨k, hkk, hkl⟩ := findP_at h
    rw [hkk]
    simp only [show ¬ (k : Int) < 0 by omega, decide_false, cond_false, Int.toNat_natCast]
    change ((cond ((ap p.Parts k).Dest != 0) _ _ : TPlacement × Int).2 ≠ 0 ∧ (cond ((ap p.Parts k).Dest != 0) _ _ : TPlacement × Int).1 = empP) ∨ _
    change (((cond ((ap p.Parts k).Dest != 0) (empP, 19) (cond (((((!boundB key) || (!sLt (ap p.Parts k).From key)) || ((nextF p.Parts k != ([] : Str)) && (!sLt key (nextF p.Parts k)))) || (decide (fresh < 1))) || (decide (1099511627776 < fresh))) (empP, 1)
      (cond (decide (0 ≤ findP p.Parts fresh)) (empP, 8) (cond ((decide ((16 : Int) ≤ (p.Parts.length : Int))) || (decide (1099511627776 ≤ p.Version))) (empP, 2)
        (⟨p.Version + 1, divL p.Parts k key fresh⟩, 0)))) : TPlacement × Int).2 ≠ 0 ∧ (cond ((ap p.Parts k).Dest != 0) (empP, 19) (cond (((((!boundB key) || (!sLt (ap p.Parts k).From key)) || ((nextF p.Parts k != ([] : Str)) && (!sLt key (nextF p.Parts k)))) || (decide (fresh < 1))) || (decide (1099511627776 < fresh))) (empP, 1)
      (cond (decide (0 ≤ findP p.Parts fresh)) (empP, 8) (cond ((decide ((16 : Int) ≤ (p.Parts.length : Int))) || (decide (1099511627776 ≤ p.Version))) (empP, 2)
        (⟨p.Version + 1, divL p.Parts k key fresh⟩, 0)))) : TPlacement × Int).1 = empP) ∨ ∃ k' : Nat, (k : Int) = (k' : Int) ∧ DivOk p.Version p.Parts k' key fresh ∧ (cond ((ap p.Parts k).Dest != 0) (empP, 19) (cond (((((!boundB key) || (!sLt (ap p.Parts k).From key)) || ((nextF p.Parts k != ([] : Str)) && (!sLt key (nextF p.Parts k)))) || (decide (fresh < 1))) || (decide (1099511627776 < fresh))) (empP, 1)
      (cond (decide (0 ≤ findP p.Parts fresh)) (empP, 8) (cond ((decide ((16 : Int) ≤ (p.Parts.length : Int))) || (decide (1099511627776 ≤ p.Version))) (empP, 2)
        (⟨p.Version + 1, divL p.Parts k key fresh⟩, 0)))) : TPlacement × Int) = (⟨p.Version + 1, divL p.Parts k' key fresh⟩, 0))
    cases h1 : ((ap p.Parts k).Dest != 0) with
    | true => left; simp
    | false =>
      simp only [cond_false]
      cases h2 : (((((!boundB key) || (!sLt (ap p.Parts k).From key)) || ((nextF p.Parts k != ([] : Str)) && (!sLt key (nextF p.Parts k)))) || (decide (fresh < 1))) || (decide (1099511627776 < fresh))) with
      | true => left; simp
      | false =>
        simp only [cond_false]
        cases h3 : decide (0 ≤ findP p.Parts fresh) with
        | true => left; simp
        | false =>
          simp only [cond_false]
          cases h4 : ((decide ((16 : Int) ≤ (p.Parts.length : Int))) || (decide (1099511627776 ≤ p.Version))) with
          | true => left; simp
          | false =>
            right
            simp only [Bool.or_eq_false_iff, Bool.not_eq_false', Bool.and_eq_false_iff, decide_eq_false_iff_not, bne_eq_false_iff_eq] at h1 h2 h3 h4
            refine ⟨k, rfl, ⟨pv, hkl, h1, h2.1.1.1.1, h2.1.1.1.2, fun hn => ?_, ⟨by omega, by omega⟩, findP_none.1 (by omega), by omega, by omega⟩, rfl⟩
            rcases h2.1.1.2 with g | g
            · rw [nextF_eq hn] at g
              have := next_ne hv hn
              exact absurd g this
            · rw [nextF_eq hn] at g; exact g

section
variable {v : Int} {l : List TPart} {k : Nat} {key : Str} {fresh : Int}

theorem div_len (hk : k < l.length) : (divL l k key fresh).length = l.length + 1 := by
  simp only [divL, List.length_append, List.length_take, List.length_drop, List.length_cons, List.length_nil]; omega

theorem div_ap (hk : k < l.length) (i : Nat) : ap (divL l k key fresh) i = if i ≤ k then ap l i else if i = k + 1 then ⟨fresh, key, (ap l k).Node, 0, []⟩ else ap l (i - 1) := by
  unfold divL
  have h1 : (l.take (k + 1)).length = k + 1 := by simp; omega
  rw [ap_app, ap_app]
  simp only [List.length_append, h1, List.length_cons, List.length_nil]
  by_cases hi : i ≤ k
  · rw [if_pos (by omega), if_pos (by omega), if_pos hi, ap_take _ (by omega)]
  · rw [if_neg hi]
    by_cases he : i = k + 1
    · rw [if_pos he, if_pos (by omega), if_neg (by omega), he, Nat.sub_self]; rfl
    · rw [if_neg he, if_neg (by omega), ap_drop]
      congr 1; omega

theorem div_next (h : DivOk v l k key fresh) (i : Nat) : nextF (divL l k key fresh) i = if i < k then nextF l i else if i = k then key else nextF l (i - 1) := by
  have hk := h.lt
  by_cases hi : i + 1 < l.length + 1
  · rw [nextF_eq (by rw [div_len hk]; exact hi), div_ap hk]
    by_cases h1 : i < k
    · rw [if_pos (by omega), if_pos h1, nextF_eq (by omega)]
    · rw [if_neg (by omega), if_neg h1]
      by_cases h2 : i = k
      · rw [if_pos (by omega), if_pos h2]
      · rw [if_neg (by omega), if_neg h2, nextF_eq (by omega)]
        congr 2; omega
  · rw [nextF_last (by rw [div_len hk]; omega), if_neg (by omega), if_neg (by omega), nextF_last (by omega)]

theorem div_pv (h : DivOk v l k key fresh) : PV (v + 1) (divL l k key fresh) := by
  have hk := h.lt
  have pv := h.pv
  have hl := div_len (key := key) (fresh := fresh) hk
  have hv := pv.ver
  have hlen := h.len
  have hver := h.ver
  have hA := div_ap (l := l) (key := key) (fresh := fresh) hk
  refine ⟨⟨by omega, by omega⟩, ⟨by omega, by omega⟩, ?_, ?_, ?_, ?_, ?_, ?_, ?_⟩
  · rw [hA, if_pos (by omega)]; exact pv.head
  · intro i hi
    rw [hl] at hi
    rw [hA]
    by_cases h1 : i ≤ k
    · rw [if_pos h1]; exact pv.bnd i (by omega)
    · rw [if_neg h1]
      by_cases h2 : i = k + 1
      · rw [if_pos h2]; exact h.bnd
      · rw [if_neg h2]; exact pv.bnd _ (by omega)
  · intro i hi
    rw [hl] at hi
    rw [hA, hA]
    by_cases h1 : i + 1 ≤ k
    · rw [if_pos (by omega), if_pos h1]; exact pv.asc i (by omega)
    · rw [if_neg h1]
      by_cases h2 : i = k
      · rw [if_pos (by omega), if_pos (by omega), h2]; exact h.lo
      · rw [if_neg (by omega), if_neg (by omega : ¬ i + 1 = k + 1)]
        by_cases h3 : i = k + 1
        · rw [if_pos h3, h3]; exact h.hi (by omega)
        · rw [if_neg h3]
          have := pv.asc (i - 1) (by omega)
          rwa [show i - 1 + 1 = i + 1 - 1 by omega] at this
  · intro i hi
    rw [hl] at hi
    rw [hA]
    by_cases h1 : i ≤ k
    · rw [if_pos h1]; exact pv.id i (by omega)
    · rw [if_neg h1]
      by_cases h2 : i = k + 1
      · rw [if_pos h2]; exact h.fr
      · rw [if_neg h2]; exact pv.id _ (by omega)
  · intro i hi
    rw [hl] at hi
    rw [hA]
    by_cases h1 : i ≤ k
    · rw [if_pos h1]; exact pv.node i (by omega)
    · rw [if_neg h1]
      by_cases h2 : i = k + 1
      · rw [if_pos h2]; exact pv.node k hk
      · rw [if_neg h2]; exact pv.node _ (by omega)
  · intro i hi
    rw [hl] at hi
    rw [hA, div_next h, hl]
    by_cases h1 : i < k
    · rw [if_pos (by omega), if_pos h1]
      have := pv.mov i (by omega)
      rwa [show decide (i + 1 = l.length) = false by simp; omega, show decide (i + 1 = l.length + 1) = false by simp; omega] at *
    · rw [if_neg h1]
      by_cases h2 : i = k
      · rw [if_pos (by omega), if_pos h2, h2]
        exact ⟨fun _ => (pv.mov k hk).done h.dest, fun hn => absurd h.dest hn⟩
      · rw [if_neg h2, if_neg (by omega)]
        by_cases h3 : i = k + 1
        · rw [if_pos h3]
          exact ⟨fun _ => rfl, fun hn => absurd rfl hn⟩
        · rw [if_neg h3]
          have := pv.mov (i - 1) (by omega)
          rwa [show decide (i - 1 + 1 = l.length) = decide (i + 1 = l.length + 1) by congr 1; apply propext; omega] at this
  · intro i j hj hi
    rw [hl] at hi
    rw [hA, hA]
    by_cases h1 : i ≤ k
    · rw [if_pos h1, if_pos (by omega)]; exact pv.uniq i j hj (by omega)
    · rw [if_neg h1]
      by_cases h2 : i = k + 1
      · rw [if_pos h2, if_pos (by omega)]; exact h.new j (by omega)
      · rw [if_neg h2]
        by_cases h3 : j ≤ k
        · rw [if_pos h3]; exact pv.uniq _ _ (by omega) (by omega)
        · rw [if_neg h3]
          by_cases h4 : j = k + 1
          · rw [if_pos h4]; exact (h.new _ (by omega)).symm
          · rw [if_neg h4]; exact pv.uniq _ _ (by omega) (by omega)

theorem div_owner {v2 : Int} (h : DivOk v l k key fresh) (hq : PV v2 (divL l k key fresh)) (s : Str) : ownerP ⟨v2, divL l k key fresh⟩ s = ownerP ⟨v, l⟩ s := by
  have hk := h.lt
  have pv := h.pv
  obtain ⟨j, _, hj⟩ := index_in (p := ⟨v, l⟩) pv s
  have hl := div_len (key := key) (fresh := fresh) hk
  have hA := div_ap (l := l) (key := key) (fresh := fresh) hk
  have hjl := hj.lt
  simp only at hjl
  have hlo := hj.lo
  have hhi := hj.hi
  simp only at hlo hhi
  rw [owner_of (p := ⟨v, l⟩) pv hj]
  by_cases h1 : j < k
  · rw [owner_of (p := ⟨v2, divL l k key fresh⟩) hq (i := j) ⟨by simp only; omega, by simp only; rw [hA, if_pos (by omega)]; exact hlo, fun _ => by simp only; rw [hA, if_pos (by omega)]; exact hhi (by omega)⟩]
    simp only
    rw [hA, if_pos (by omega)]
  · by_cases h2 : j = k
    · subst h2
      by_cases h3 : sLt s key = true
      · rw [owner_of (p := ⟨v2, divL l j key fresh⟩) hq (i := j) ⟨by simp only; omega, by simp only; rw [hA, if_pos (by omega)]; exact hlo, fun _ => by simp only; rw [hA, if_neg (by omega), if_pos rfl]; exact h3⟩]
        simp only
        rw [hA, if_pos (by omega)]
      · rw [owner_of (p := ⟨v2, divL l j key fresh⟩) hq (i := j + 1) ⟨by simp only; omega, by simp only; rw [hA, if_neg (by omega), if_pos rfl]; simpa using h3, fun hn => by
          simp only at hn ⊢
          rw [hA, if_neg (by omega), if_neg (by omega)]; exact hhi (by omega)⟩]
        simp only
        rw [hA, if_neg (by omega), if_pos rfl]
        simp [partOwner, h.dest]
    · rw [owner_of (p := ⟨v2, divL l k key fresh⟩) hq (i := j + 1) ⟨by simp only; omega, by simp only; rw [hA, if_neg (by omega), if_neg (by omega)]; exact hlo, fun hn => by
        simp only at hn ⊢
        rw [hA, if_neg (by omega), if_neg (by omega)]; exact hhi (by omega)⟩]
      simp only
      rw [hA, if_neg (by omega), if_neg (by omega)]
      rfl

/-- Which nodes a placement has. -/
theorem nodes_mem {p : TPlacement} (h : PV p.Version p.Parts) (x : Int) : x ∈ nodesRefP p ↔ 1 ≤ x ∧ x ≤ 16 ∧ ∃ i, i < p.Parts.length ∧ ((ap p.Parts i).Node = x ∨ (ap p.Parts i).Dest = x) := by
  unfold nodesRefP
  rw [if_pos (pv_iff.2 h), pickN_mem, hasN_iff]
  constructor
  · rintro ⟨a, b, c⟩; exact ⟨a, by omega, c⟩
  · rintro ⟨a, b, c⟩; exact ⟨a, by omega, c⟩

theorem nodes_asc (p : TPlacement) : (nodesRefP p).Pairwise (· < ·) := by
  unfold nodesRefP
  split
  · exact pickN_asc _ _
  · exact List.Pairwise.nil

theorem div_nodes {v2 : Int} (h : DivOk v l k key fresh) (hq : PV v2 (divL l k key fresh)) : nodesRefP ⟨v2, divL l k key fresh⟩ = nodesRefP ⟨v, l⟩ := by
  have hk := h.lt
  have hl := div_len (key := key) (fresh := fresh) hk
  have hA := div_ap (l := l) (key := key) (fresh := fresh) hk
  refine asc_ext (nodes_asc _) (nodes_asc _) fun x => ?_
  rw [nodes_mem (p := ⟨v2, divL l k key fresh⟩) hq, nodes_mem (p := ⟨v, l⟩) h.pv]
  simp only [hl]
  constructor
  · rintro ⟨a, b, i, hi, c⟩
    refine ⟨a, b, ?_⟩
    rw [hA] at c
    by_cases h1 : i ≤ k
    · rw [if_pos h1] at c; exact ⟨i, by omega, c⟩
    · rw [if_neg h1] at c
      by_cases h2 : i = k + 1
      · rw [if_pos h2] at c
        rcases c with c | c
        · exact ⟨k, hk, .inl c⟩
        · simp only at c; omega
      · rw [if_neg h2] at c; exact ⟨i - 1, by omega, c⟩
  · rintro ⟨a, b, i, hi, c⟩
    refine ⟨a, b, ?_⟩
    by_cases h1 : i ≤ k
    · exact ⟨i, by omega, by rw [hA, if_pos h1]; exact c⟩
    · exact ⟨i + 1, by omega, by rw [hA, if_neg (by omega), if_neg (by omega)]; exact c⟩

end
end Go.Proofs.Ytdkakeiccefbgaa
