/-
  Chapter 30, plain texts: the lists of nodes.
  Conditions: none.
-/
import Derived.Test.YtcgmfmpfmfjmoaaGreatEi
set_option linter.all false
namespace Go.Proofs.YtcgmfmpfmfjmoaaGreat

structure POk (p : TPlacement) : Prop where
  l : p.Parts.length < big
  s : ∀ x ∈ p.Parts, x.From.length < big ∧ x.Done.length < big

theorem pv_from {p : TPlacement} (h : pvB p = true) : ∀ x ∈ p.Parts, x.From.length ≤ 1000 := by
  intro x hx
  obtain ⟨i, hi, rfl⟩ := List.mem_iff_getElem.1 hx
  have hb := pv_part h hi
  rw [badPart_eq] at hb
  simp only [Bool.or_eq_false_iff] at hb
  have h1 := hb.1.1
  rw [atI_nat hi] at h1
  simp only [Bool.not_eq_false', boundB, Bool.and_eq_true, decide_eq_true_eq] at h1
  omega

theorem owner_rng {p : TPlacement} (h : pvB p = true) (k : Str) : 1 ≤ ownerP p k ∧ ownerP p k ≤ 16 := by
  have h0 : ¬ indexP p k < 0 := by
    unfold indexP
    have := lastLe_bd p.Parts k p.Parts.length
    simp only [h, Bool.true_eq_false, if_false]
    omega
  have hb := indexP_bd h0
  obtain ⟨i, hi⟩ : ∃ i : Nat, indexP p k = (i : Int) := ⟨(indexP p k).toNat, by omega⟩
  rw [hi] at hb
  have hn := pv_node h (i := i) (by omega)
  unfold ownerP
  rw [if_neg h0, hi]
  split
  · rename_i hc
    simp only [Bool.and_eq_true, bne_iff_ne, ne_eq] at hc
    rcases hn.2.2 with h | h
    · exact absurd h hc.1
    · exact h
  · exact ⟨hn.1, hn.2.1⟩

theorem ownerAll_eq {p : TPlacement} (hp : POk p) (hv : pvB p = true) : ∀ l : List Str, ownerAll p l = some (l.map (ownerP p))
  | [] => rfl
  | k :: l => by
    rw [ownerAll, owner_impl hp.l hp.s (pv_from hv), bnd_mk, ownerAll_eq hp hv l]
    rfl

/-- The numbers below i that f holds, from 1 on. -/
def pickO (f : List Int) : Nat → List Int
  | 0 => []
  | i + 1 => if i = 0 then [] else cond (f.any fun y => y == (i : Int)) (pickO f i ++ [(i : Int)]) (pickO f i)

theorem pickO_len (f : List Int) : ∀ i, (pickO f i).length ≤ i
  | 0 => by simp [pickO]
  | i + 1 => by
    have := pickO_len f i
    simp only [pickO]
    split
    · simp
    · cases (f.any fun y => y == (i : Int)) <;> simp <;> omega

theorem any_mem {l : List Int} {x : Int} : (l.any fun y => y == x) = true ↔ x ∈ l := by
  rw [List.any_eq_true]
  constructor
  · rintro ⟨y, hy, h⟩
    have : y = x := by simpa using h
    rwa [← this]
  · intro h; exact ⟨x, h, by simp⟩

theorem pickO_mem (f : List Int) (x : Int) : ∀ i, x ∈ pickO f i ↔ 1 ≤ x ∧ x < (i : Int) ∧ x ∈ f
  | 0 => by simp [pickO]; omega
  | i + 1 => by
    have ih := pickO_mem f x i
    simp only [pickO]
    by_cases h0 : i = 0
    · subst h0; simp; omega
    · rw [if_neg h0]
      cases hh : (f.any fun y => y == (i : Int)) with
      | true =>
        have hm := any_mem.1 hh
        rw [cond_true, List.mem_append, ih, List.mem_singleton]
        constructor
        · rintro (⟨a, b, c⟩ | rfl)
          · exact ⟨a, by omega, c⟩
          · exact ⟨by omega, by omega, hm⟩
        · rintro ⟨a, b, c⟩
          by_cases e : x = (i : Int)
          · exact Or.inr e
          · exact Or.inl ⟨a, by omega, c⟩
      | false =>
        rw [cond_false, ih]
        constructor
        · rintro ⟨a, b, c⟩; exact ⟨a, by omega, c⟩
        · rintro ⟨a, b, c⟩
          have : x ≠ (i : Int) := fun e => by
            rw [e] at c
            have := any_mem.2 c
            rw [hh] at this; cases this
          exact ⟨a, by omega, c⟩

theorem pickO_asc (f : List Int) : ∀ i, (pickO f i).Pairwise (· < ·)
  | 0 => by simp [pickO]
  | i + 1 => by
    have ih := pickO_asc f i
    simp only [pickO]
    split
    · simp
    · cases (f.any fun y => y == (i : Int)) with
      | false => exact ih
      | true =>
        rw [cond_true, List.pairwise_append]
        refine ⟨ih, by simp, fun a ha b hb => ?_⟩
        have := (pickO_mem f a i).1 ha
        simp only [List.mem_singleton] at hb
        omega

/-- The owners of keys. -/
def ownersP (p : TPlacement) (ks : List Str) : List Int := pickO (ks.map (ownerP p)) 17

theorem owners_sorted {p : TPlacement} (hv : pvB p = true) (ks : List Str) : compactL (sortL (ks.map (ownerP p))) = ownersP p ks := by
  obtain ⟨h1, h2⟩ := compact_sorted (ks.map (ownerP p))
  refine asc_ext h1 (pickO_asc _ _) fun x => ?_
  rw [h2, ownersP, pickO_mem]
  constructor
  · intro hx
    obtain ⟨k, _, rfl⟩ := List.mem_map.1 hx
    have := owner_rng hv k
    exact ⟨by omega, by omega, hx⟩
  · exact fun h => h.2.2

def v30 (p : TPlacement) (f : TFootprint) : Bool := pvB p && fvB f
def nodes30 (p : TPlacement) (f : TFootprint) : List Int := if v30 p f = true then (if f.All = true then nodesRefP p else ownersP p (f.Reads ++ f.Writes)) else []
def active30 (p : TPlacement) (f : TFootprint) : List Int := if v30 p f = true then (if f.All = true then nodesRefP p else ownersP p f.Writes) else []
def exec30 (p : TPlacement) (f : TFootprint) : List Int :=
  if v30 p f = true then (if 0 < (active30 p f).length then active30 p f else if 0 < (nodes30 p f).length then (nodes30 p f).take 1 else [(atI p.Parts 0).Node]) else []
def local30 (p : TPlacement) (f : TFootprint) : Bool := v30 p f && decide ((nodes30 p f).length ≤ 1)

variable {p : TPlacement} {f : TFootprint}

theorem valid30_impl (hp : POk p) (hf : FOk f) : F_route_valid p f = some (v30 p f) := by
  unfold F_route_valid
  rw [valid29_impl hp.l hp.s, bnd_mk, fvalid_impl hf, v30]
  cases pvB p <;> simp [gcall, bnd]

theorem v30_parts (h : v30 p f = true) : pvB p = true ∧ fvB f = true := by simpa [v30] using h

theorem nodes30_impl (hp : POk p) (hf : FOk f) : F_route_Nodes p f = some (nodes30 p f) := by
  unfold F_route_Nodes
  rw [valid30_impl hp hf, bnd_mk, nodes30]
  cases hv : v30 p f with
  | false => rfl
  | true =>
    obtain ⟨h1, h2⟩ := v30_parts hv
    have hl := fvB_len h2
    simp only [Bool.not_true, cond_false, if_true]
    cases hA : f.All with
    | true => rw [cond_true, nodes_impl hp.l hp.s, nodes_eq]; rfl
    | false =>
      rw [cond_false, req_pos (by omega), ownersF, ownerAll_eq hp h1, bnd_mk, owners_sorted h1]
      simp

theorem active30_impl (hp : POk p) (hf : FOk f) : F_route_Active p f = some (active30 p f) := by
  unfold F_route_Active
  rw [valid30_impl hp hf, bnd_mk, active30]
  cases hv : v30 p f with
  | false => rfl
  | true =>
    obtain ⟨h1, h2⟩ := v30_parts hv
    have hl := fvB_len h2
    simp only [Bool.not_true, cond_false, if_true]
    cases hA : f.All with
    | true => rw [cond_true, nodes_impl hp.l hp.s, nodes_eq]; rfl
    | false =>
      rw [cond_false, req_pos (by omega), ownersF, ownerAll_eq hp h1, bnd_mk, owners_sorted h1]
      simp

theorem ownersP_len (p : TPlacement) (ks : List Str) : (ownersP p ks).length ≤ 17 := pickO_len _ _
theorem nodes30_len : (nodes30 p f).length ≤ 17 := by
  unfold nodes30
  split
  · split
    · exact nodesRef_len p
    · exact ownersP_len _ _
  · simp
theorem active30_len : (active30 p f).length ≤ 17 := by
  unfold active30
  split
  · split
    · exact nodesRef_len p
    · exact ownersP_len _ _
  · simp

theorem exec30_impl (hp : POk p) (hf : FOk f) : F_route_Executors p f = some (exec30 p f) := by
  unfold F_route_Executors
  rw [valid30_impl hp hf, bnd_mk, active30_impl hp hf, bnd_mk, nodes30_impl hp hf, bnd_mk, exec30]
  cases hv : v30 p f with
  | false => rfl
  | true =>
    obtain ⟨h1, h2⟩ := v30_parts hv
    have hl := pvB_len h1
    simp only [Bool.not_true, cond_false, if_true]
    by_cases ha : 0 < (active30 p f).length
    · simp [ha]
    · by_cases hn : 0 < (nodes30 p f).length
      · have : (1 : Int) ≤ ((nodes30 p f).length : Int) := by omega
        simp [ha, hn, req, this]
      · have hne : p.Parts ≠ [] := by intro h; simp [h] at hl
        simp [ha, hn, req, hne]

theorem exec30_len : (exec30 p f).length ≤ 17 := by
  have h1 := active30_len (p := p) (f := f)
  have h2 := nodes30_len (p := p) (f := f)
  unfold exec30
  split
  · split
    · exact h1
    · split
      · simp; omega
      · simp
  · simp

end Go.Proofs.YtcgmfmpfmfjmoaaGreat
