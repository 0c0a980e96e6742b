/-
  Chapter 30, plain texts: the laws on executors and projections.
  Conditions: none.
-/
import Derived.Test.YtkbldnpifmjipaaVk
set_option linter.all false
namespace Go.Proofs.Ytkbldnpifmjipaa

theorem pick_take {l : List Int} : l.take 1 = [] ∨ ∃ a, l.take 1 = [a] := by
  cases l with
  | nil => exact .inl rfl
  | cons a l => exact .inr ⟨a, rfl⟩

/-- a list whose numbers ascend -/
def ascI (l : List Int) : Prop := l.Pairwise (· < ·)

theorem ascI_step {l : List Int} (h : ascI l) {i : Nat} (h0 : 0 < i) (hi : i < l.length) : atI l ((i : Int) - 1) < atI l (i : Int) := by
  have e : (i : Int) - 1 = ((i - 1 : Nat) : Int) := by omega
  rw [e, atI_nat hi, atI_nat (by omega)]
  exact List.pairwise_iff_getElem.1 h (i - 1) i (by omega) hi (by omega)

variable {p : TPlacement} {f : TFootprint}

theorem nodes30_asc : ascI (nodes30 p f) := by
  unfold nodes30
  split
  · split
    · unfold nodesRefP
      split
      · exact pickN_asc _ _
      · exact List.Pairwise.nil
    · exact pickO_asc _ _
  · exact List.Pairwise.nil

theorem active30_asc : ascI (active30 p f) := by
  unfold active30
  split
  · split
    · unfold nodesRefP
      split
      · exact pickN_asc _ _
      · exact List.Pairwise.nil
    · exact pickO_asc _ _
  · exact List.Pairwise.nil

theorem ownersP_mem {p : TPlacement} (hv : pvB p = true) {ks : List Str} {x : Int} : x ∈ ownersP p ks ↔ ∃ k ∈ ks, ownerP p k = x := by
  rw [ownersP, pickO_mem, List.mem_map]
  constructor
  · exact fun h => h.2.2
  · rintro ⟨k, hk, rfl⟩
    have := owner_rng hv k
    exact ⟨by omega, by omega, k, hk, rfl⟩

theorem active_sub {x : Int} (h : x ∈ active30 p f) : x ∈ nodes30 p f := by
  unfold active30 at h
  unfold nodes30
  split at h
  · rename_i hv
    rw [if_pos hv]
    split at h
    · rename_i hA; rw [if_pos hA]; exact h
    · rename_i hA
      rw [if_neg hA]
      rw [ownersP_mem (v30_parts hv).1] at h ⊢
      obtain ⟨k, hk, he⟩ := h
      exact ⟨k, by simp [hk], he⟩
  · simp at h

theorem exec30_asc : ascI (exec30 p f) := by
  unfold exec30
  split
  · split
    · exact active30_asc
    · split
      · rcases pick_take (l := nodes30 p f) with h | ⟨a, h⟩ <;> rw [h] <;> simp [ascI]
      · simp [ascI]
  · exact List.Pairwise.nil

theorem exec30_sub (hn : 0 < (nodes30 p f).length) {x : Int} (h : x ∈ exec30 p f) : x ∈ nodes30 p f := by
  unfold exec30 at h
  split at h
  · split at h
    · exact active_sub h
    · try rw [if_pos hn] at h
      exact List.mem_of_mem_take h
  · simp at h

theorem exec30_pos (hv : v30 p f = true) : 0 < (exec30 p f).length := by
  unfold exec30
  rw [if_pos hv]
  split
  · assumption
  · split
    · rename_i h; simp; omega
    · simp

/-! ### RouteExecutors -/

theorem L1_true {l : List Int} (hl : l.length ≤ 17) (ha : ascI l) (J : Option Bool) : ∀ n (i : Nat), 1 ≤ i → i ≤ l.length + 1 → l.length + 1 < n + i → F_clockworklaw30_RouteExecutors_L1 l J n (i : Int) = J
  | 0, i, h1, h2, h => by omega
  | n + 1, i, h1, h2, h => by
    rw [F_clockworklaw30_RouteExecutors_L1]
    by_cases hi : i < l.length
    · have hs := ascI_step ha (by omega) hi
      simp only [show (i : Int) < (l.length : Int) by omega, decide_true, cond_true, show 0 ≤ (i : Int) by omega, true_and, req_t, wrap_pred (show 0 < i by omega) (by omega), show 0 ≤ (i : Int) - 1 by omega, show (i : Int) - 1 < (l.length : Int) by omega, and_self,
        show decide (atI l (i : Int) ≤ atI l ((i : Int) - 1)) = false by simp; omega, cond_false, wrap_succ (show i < 9223372036854775807 by omega)]
      exact L1_true hl ha J n (i + 1) (by omega) (by omega) (by omega)
    · simp only [show ¬ (i : Int) < (l.length : Int) by omega, decide_false, cond_false]

theorem L2_true {l m : List Int} (hl : l.length ≤ 17) (hm : m.length ≤ 17) (ha : ascI l) (hs : 0 < m.length → ∀ x ∈ l, x ∈ m) (J : Option Bool) : ∀ n (i : Nat), i ≤ l.length → l.length < n + i → F_clockworklaw30_RouteExecutors_L2 l m J n (i : Int) = J
  | 0, i, h1, h => by omega
  | n + 1, i, h1, h => by
    rw [F_clockworklaw30_RouteExecutors_L2]
    by_cases hi : i < l.length
    · have ih := L2_true hl hm ha hs J n (i + 1) (by omega) (by omega)
      have hb : ∀ n : Nat, n ≤ 17 → n < big := fun n h => by have e : big = 9223372036854775808 := rfl; omega
      have hin : (0 : Int) ≤ (i : Int) ∧ (i : Int) < (l.length : Int) := by omega
      have hmem : atI l (i : Int) ∈ l := at_mem29 hi
      simp only [show (i : Int) < (l.length : Int) by omega, decide_true, cond_true, show 0 ≤ (i : Int) by omega, true_and, implies_true, req_t, wrap_succ (show i < 9223372036854775807 by omega)]
      rw [ih]
      have hreq : ∀ (g : Bool) (k : Option Bool), req ((decide ((0 : Int) < (i : Int)) == true && (g == false)) = true → 0 ≤ IntKind.i64.wrap ((i : Int) - 1) ∧ IntKind.i64.wrap ((i : Int) - 1) < (l.length : Int)) k = k := fun g k => by
        refine req_pos (fun hg => ?_)
        simp only [Bool.and_eq_true, beq_iff_eq, decide_eq_true_eq] at hg
        have h0 : 0 < i := by omega
        rw [wrap_pred h0 (by omega)]
        omega
      have hlt : 0 < i → atI l ((i : Int) - 1) < atI l (i : Int) := fun h0 => ascI_step ha h0 hi
      by_cases hm0 : (0 : Int) < (m.length : Int)
      · have hany : (m.any fun y => y == atI l (i : Int)) = true := any_mem.2 (hs (by omega) _ hmem)
        simp only [hm0, decide_true, BEq.rfl, gcall_t, cond_true, has_eq (hb _ hm), hany, bnd_mk, Bool.not_true, Bool.and_false, hreq, Bool.false_or, Bool.and_true]
        by_cases h0 : 0 < i
        · have h0' : (0 : Int) < (i : Int) := by omega
          have := hlt h0
          simp only [h0', decide_true, BEq.rfl, cond_true, Bool.true_and, wrap_pred h0 (show i < 9223372036854775807 by omega), show decide (atI l (i : Int) ≤ atI l ((i : Int) - 1)) = false by simp; omega, cond_false]
        · have h0' : ¬ (0 : Int) < (i : Int) := by omega
          simp only [h0', decide_false, Bool.false_and, cond_false]
      · simp only [hm0, decide_false, Bool.false_and, show ((false : Bool) == true) = false from rfl, gcall, cond_false, bnd_mk, hreq, Bool.false_or, BEq.rfl, Bool.and_true]
        by_cases h0 : 0 < i
        · have h0' : (0 : Int) < (i : Int) := by omega
          have := hlt h0
          simp only [h0', decide_true, BEq.rfl, cond_true, Bool.true_and, wrap_pred h0 (show i < 9223372036854775807 by omega), show decide (atI l (i : Int) ≤ atI l ((i : Int) - 1)) = false by simp; omega, cond_false]
          exact req_pos (fun _ => by omega)
        · have h0' : ¬ (0 : Int) < (i : Int) := by omega
          simp only [h0', decide_false, Bool.false_and, cond_false]
          exact req_pos (fun h => by cases h)
    · simp only [show ¬ (i : Int) < (l.length : Int) by omega, decide_false, cond_false]

theorem plain_RouteExecutors (x0 : TPlacement) (x1 : TFootprint) (o0 : okTPlacement x0) (o1 : okTFootprint x1) : F_clockworklaw30_RouteExecutors x0 x1 = some true := by
  have hp := okP30 o0
  have hf := okF30 o1
  have hb : ∀ n : Nat, n ≤ 17 → n < big := fun n h => by have e : big = 9223372036854775808 := rfl; omega
  unfold F_clockworklaw30_RouteExecutors
  rw [nodes30_impl hp hf, bnd_mk, active30_impl hp hf, bnd_mk, exec30_impl hp hf, bnd_mk, valid29_impl hp.l hp.s, bnd_mk, fvalid_impl hf, local30_impl hp hf, examples_true]
  have hbad : v30 x0 x1 = false → nodes30 x0 x1 = [] ∧ active30 x0 x1 = [] ∧ exec30 x0 x1 = [] ∧ local30 x0 x1 = false := fun h => by simp [nodes30, active30, exec30, local30, h]
  cases hv : v30 x0 x1 with
  | false =>
    obtain ⟨e1, e2, e3, e4⟩ := hbad hv
    rw [e1, e2, e3, e4]
    simp only [v30] at hv
    cases h1 : pvB x0 with
    | false => rfl
    | true =>
      have h2 : fvB x1 = false := by simpa [h1] using hv
      rw [h2]; rfl
  | true =>
    obtain ⟨h1, h2⟩ := v30_parts hv
    rw [h1, h2]
    simp only [Bool.not_true, BEq.rfl, gcall_t, bnd_mk, Bool.or_self, cond_false]
    have hpos := exec30_pos hv
    have hn0 : ((((exec30 x0 x1).length : Nat) : Int) == (0 : Int)) = false := by rw [beq_eq_false_iff_ne]; omega
    have key : ((((((exec30 x0 x1).length : Nat) : Int) == (0 : Int)) || ((decide ((0 : Int) < (((active30 x0 x1).length : Nat) : Int))) && (!true))) || (((((active30 x0 x1).length : Nat) : Int) == (0 : Int)) && ((((exec30 x0 x1).length : Nat) : Int) != (1 : Int)))) = false := by
      rw [hn0]
      simp only [Bool.false_or, Bool.not_true, Bool.and_false]
      by_cases ha : (active30 x0 x1).length = 0
      · have : (exec30 x0 x1).length = 1 := by
          unfold exec30
          rw [if_pos hv, if_neg (by omega)]
          split
          · simp; omega
          · rfl
        simp [this]
      · have h0 : ((((active30 x0 x1).length : Nat) : Int) == (0 : Int)) = false := by rw [beq_eq_false_iff_ne]; omega
        rw [h0, Bool.false_and]
    have hsame : gcall (((decide ((0 : Int) < (((active30 x0 x1).length : Nat) : Int)) == true)) && ((((((exec30 x0 x1).length : Nat) : Int) == (0 : Int))) == false)) (F_clockworklaw30_sameInts (active30 x0 x1) (exec30 x0 x1)) = some true ∨ (decide ((0 : Int) < (((active30 x0 x1).length : Nat) : Int)) = false ∧ gcall (((decide ((0 : Int) < (((active30 x0 x1).length : Nat) : Int)) == true)) && ((((((exec30 x0 x1).length : Nat) : Int) == (0 : Int))) == false)) (F_clockworklaw30_sameInts (active30 x0 x1) (exec30 x0 x1)) = some false) := by
      by_cases ha : 0 < (active30 x0 x1).length
      · left
        have he : exec30 x0 x1 = active30 x0 x1 := by unfold exec30; rw [if_pos hv, if_pos ha]
        rw [he, same_self30 (hb _ active30_len)]
        have : decide ((0 : Int) < (((active30 x0 x1).length : Nat) : Int)) = true := decide_eq_true (by omega)
        rw [this]
        have : ((((active30 x0 x1).length : Nat) : Int) == (0 : Int)) = false := by rw [beq_eq_false_iff_ne]; omega
        rw [this]; rfl
      · right
        have : decide ((0 : Int) < (((active30 x0 x1).length : Nat) : Int)) = false := decide_eq_false (by omega)
        rw [this]
        exact ⟨rfl, rfl⟩
    have hjs : ∀ (k : Bool → Option Bool), (∀ b, (b = true ∨ decide ((0 : Int) < (((active30 x0 x1).length : Nat) : Int)) = false) → k b = some true) → bnd (gcall (((decide ((0 : Int) < (((active30 x0 x1).length : Nat) : Int)) == true)) && ((((((exec30 x0 x1).length : Nat) : Int) == (0 : Int))) == false)) (F_clockworklaw30_sameInts (active30 x0 x1) (exec30 x0 x1))) k = some true := by
      intro k hk
      rcases hsame with h | ⟨h1, h2⟩
      · rw [h, bnd_mk]; exact hk true (.inl rfl)
      · rw [h2, bnd_mk]; exact hk false (.inr h1)
    refine hjs _ (fun b hb' => ?_)
    have key2 : ((((((exec30 x0 x1).length : Nat) : Int) == (0 : Int)) || ((decide ((0 : Int) < (((active30 x0 x1).length : Nat) : Int))) && (!b))) || (((((active30 x0 x1).length : Nat) : Int) == (0 : Int)) && ((((exec30 x0 x1).length : Nat) : Int) != (1 : Int)))) = false := by
      rcases hb' with rfl | h
      · exact key
      · rw [h, Bool.not_true, Bool.and_false] at key
        rw [h, Bool.false_and]; exact key
    rw [key2, cond_false]
    simp only [jn_mk]
    have hL2 := fun J => L2_true exec30_len nodes30_len (exec30_asc (p := x0) (f := x1)) (fun hn x hx => exec30_sub hn hx) J ((((exec30 x0 x1).length : Nat) : Int).toNat + 1) 0 (by omega) (by simp)
    have hL2' := fun J => (hL2 J)
    have e0 : ((0 : Nat) : Int) = 0 := rfl
    rw [e0] at hL2'
    rw [hL2']
    have hL1 := fun J => L1_true nodes30_len (nodes30_asc (p := x0) (f := x1)) J ((((nodes30 x0 x1).length : Nat) : Int).toNat + 1) 1 (Nat.le_refl _) (by omega) (by simp)
    have e1 : ((1 : Nat) : Int) = 1 := rfl
    rw [e1] at hL1
    have hL1' : ∀ J, F_clockworklaw30_RouteExecutors_L1 (nodes30 x0 x1) J ((((nodes30 x0 x1).length : Nat) : Int).toNat + 1) 1 = J := hL1
    rw [hL1']
    have hloc : local30 x0 x1 = decide ((((nodes30 x0 x1).length : Nat) : Int) ≤ (1 : Int)) := by
      rw [local30, hv, Bool.true_and, Bool.eq_iff_iff]; simp; omega
    have hone : local30 x0 x1 = true → (((exec30 x0 x1).length : Nat) : Int) == (1 : Int) := fun hl => by
      rw [local30, hv, Bool.true_and, decide_eq_true_eq] at hl
      have hex : (exec30 x0 x1).length = 1 := by
        have hsub : ∀ x ∈ exec30 x0 x1, 0 < (nodes30 x0 x1).length → x ∈ nodes30 x0 x1 := fun x hx hn => exec30_sub hn hx
        by_cases ha : 0 < (active30 x0 x1).length
        · have he : exec30 x0 x1 = active30 x0 x1 := by unfold exec30; rw [if_pos hv, if_pos ha]
          rw [he] at hpos ⊢
          -- ascending, within a list of one
          have hasc := active30_asc (p := x0) (f := x1)
          by_cases h2 : 2 ≤ (active30 x0 x1).length
          · have hst := ascI_step hasc (i := 1) (by omega) (by omega)
            have m0 := active_sub (p := x0) (f := x1) (at_mem29 (l := active30 x0 x1) (i := 0) (by omega))
            have m1 := active_sub (p := x0) (f := x1) (at_mem29 (l := active30 x0 x1) (i := 1) (by omega))
            match hN : nodes30 x0 x1, hl with
            | [], _ => rw [hN] at m0; simp at m0
            | [a], _ =>
              rw [hN] at m0 m1
              simp only [List.mem_singleton] at m0 m1
              have : ((1 : Nat) : Int) - 1 = ((0 : Nat) : Int) := rfl
              rw [this, m0, m1] at hst
              omega
            | a :: b :: l, hl => simp at hl
          · omega
        · unfold exec30
          rw [if_pos hv, if_neg ha]
          split
          · simp <;> omega
          · rfl
      simp [hex]
    rw [← hloc]
    cases hlb : local30 x0 x1 with
    | false => simp [gcall, bnd]
    | true => have := hone hlb; simp only [beq_iff_eq] at this; simp [gcall, bnd, this]

end Go.Proofs.Ytkbldnpifmjipaa
