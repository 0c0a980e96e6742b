/-
  CHAPTER 29, PLAIN: the partition and the owner of a key, closed (part e).
  Conditions: none.
-/
import Derived.Test.YtcgmfmpfmfjmoaaGreatEd
set_option linter.all false
namespace Go.Proofs.YtcgmfmpfmfjmoaaGreat
open Go.ChangeShapes

theorem index1_impl {p : TPlacement} {key : Str} {J6 : Int → Option Int} (hl : p.Parts.length < big) (hf : ∀ x ∈ p.Parts, x.From.length ≤ 1000) :
    ∀ n i, i < n → i < p.Parts.length → F_placement_Index_L1 p key J6 n 0 (i : Int) = J6 (lastLe p.Parts key (i + 1)) := by
  intro n
  induction n with
  | zero => intro i h; omega
  | succ n ih =>
    intro i hn hi
    rw [F_placement_Index_L1]
    by_cases hi0 : i = 0
    · subst hi0; simp [lastLe]
    · have hfi := hf _ (at_mem29 hi)
      simp only [show (0 : Int) < (i : Int) by omega, decide_true, cond_true, jn_mk, show 0 ≤ (i : Int) by omega, show (i : Int) < (p.Parts.length : Int) by omega, and_self, req_t]
      have e := index2_impl (p := p) (key := key) (i := (i : Int)) (x := 0) (J6 := J6) (J14 := fun x13 => F_placement_Index_L1 p key J6 n x13 (IntKind.i64.wrap ((i : Int) - 1))) hfi 1000000 0 (by omega) (by omega) (by omega)
      refine (show _ = _ from e).trans ?_
      rw [List.drop_zero, List.drop_zero]
      have hw : IntKind.i64.wrap ((i : Int) - 1) = ((i - 1 : Nat) : Int) := by
        rw [w64 (by omega) (by have : p.Parts.length < 9223372036854775808 := hl; omega)]; omega
      rw [hw, ih (i - 1) (by omega) (by omega), show i - 1 + 1 = i by omega]
      simp only [lastLe, hi0, if_false]
      cases sLt key (atI p.Parts (i : Int)).From <;> simp

theorem index_impl {p : TPlacement} {key : Str} (hl : p.Parts.length < big) (hs : ∀ x ∈ p.Parts, x.From.length < big ∧ x.Done.length < big) (hf : ∀ x ∈ p.Parts, x.From.length ≤ 1000) : F_placement_Index p key = some (indexP p key) := by
  unfold F_placement_Index
  rw [valid29_impl hl hs, bnd_mk, indexP]
  cases hv : pvB p with
  | false => rfl
  | true =>
    have hle := pvB_len hv
    simp only [Bool.not_true, cond_false, jn_mk]
    have hw : IntKind.i64.wrap ((p.Parts.length : Int) - 1) = ((p.Parts.length - 1 : Nat) : Int) := by
      rw [w64 (by omega) (by omega)]; omega
    rw [hw, index1_impl hl hf _ (p.Parts.length - 1) (by omega) (by omega), show p.Parts.length - 1 + 1 = p.Parts.length by omega]
    simp

theorem lastLe_bd (l : List TPart) (key : Str) : ∀ n, 0 ≤ lastLe l key n ∧ (lastLe l key n = 0 ∨ lastLe l key n < (n : Int))
  | 0 => by simp [lastLe]
  | n + 1 => by
    have ih := lastLe_bd l key n
    simp only [lastLe]
    split
    · simp
    · split <;> omega

def ownerP (p : TPlacement) (key : Str) : Int :=
  if indexP p key < 0 then 0 else if (((atI p.Parts (indexP p key)).Dest != 0) && (sLt key (atI p.Parts (indexP p key)).Done)) = true then (atI p.Parts (indexP p key)).Dest else (atI p.Parts (indexP p key)).Node

theorem indexP_bd {p : TPlacement} {key : Str} (h : ¬ indexP p key < 0) : 0 ≤ indexP p key ∧ indexP p key < (p.Parts.length : Int) := by
  unfold indexP at h ⊢
  cases hv : pvB p with
  | false => simp [hv] at h
  | true =>
    have hle := pvB_len hv
    have := lastLe_bd p.Parts key p.Parts.length
    simp only [Bool.true_eq_false, if_false]
    omega

theorem owner_impl {p : TPlacement} {key : Str} (hl : p.Parts.length < big) (hs : ∀ x ∈ p.Parts, x.From.length < big ∧ x.Done.length < big) (hf : ∀ x ∈ p.Parts, x.From.length ≤ 1000) : F_placement_Owner p key = some (ownerP p key) := by
  unfold F_placement_Owner
  rw [index_impl hl hs hf, bnd_mk, ownerP]
  by_cases h : indexP p key < 0
  · simp [h]
  · have hb := indexP_bd h
    simp only [h, decide_false, cond_false, if_false, hb.1, hb.2, and_self, req_t]
    cases (((atI p.Parts (indexP p key)).Dest != 0) && (sLt key (atI p.Parts (indexP p key)).Done)) <;> simp

end Go.Proofs.YtcgmfmpfmfjmoaaGreat
