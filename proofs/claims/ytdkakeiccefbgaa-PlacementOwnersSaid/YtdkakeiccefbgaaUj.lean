/-
  CHAPTER 29, PLAIN: the reference's division of a partition, closed (part j).
  Conditions: none.
-/
import Derived.Test.YtdkakeiccefbgaaUi
set_option linter.all false
namespace Go.Proofs.Ytdkakeiccefbgaa
open Go.ChangeShapes

def empP : TPlacement := ⟨0, []⟩

def splitP (p : TPlacement) (id : Int) (key : Str) (fresh : Int) : TPlacement × Int :=
  cond (!pvB p) (empP, 1) (cond (decide (findP p.Parts id < 0)) (empP, 9) (cond ((atI p.Parts (findP p.Parts id)).Dest != 0) (empP, 19)
    (cond (((((!boundB key) || (!sLt (atI p.Parts (findP p.Parts id)).From key)) || ((nextF p.Parts (findP p.Parts id).toNat != ([] : Str)) && (!sLt key (nextF p.Parts (findP p.Parts id).toNat)))) || (decide (fresh < 1))) || (decide (1099511627776 < fresh))) (empP, 1)
      (cond (decide (0 ≤ findP p.Parts fresh)) (empP, 8) (cond ((decide ((16 : Int) ≤ (p.Parts.length : Int))) || (decide (1099511627776 ≤ p.Version))) (empP, 2)
        (⟨p.Version + 1, (p.Parts.take ((findP p.Parts id).toNat + 1) ++ [⟨fresh, key, (atI p.Parts (findP p.Parts id)).Node, 0, []⟩]) ++ p.Parts.drop ((findP p.Parts id).toNat + 1)⟩, 0))))))

theorem pvB_ver {p : TPlacement} (h : pvB p = true) : 0 ≤ p.Version ∧ p.Version ≤ 1099511627776 := by
  simp only [pvB, headBad, Bool.and_eq_true, Bool.not_eq_true', Bool.or_eq_false_iff, decide_eq_false_iff_not] at h
  omega

theorem end_ref {p : TPlacement} {k : Nat} (hk : k < p.Parts.length) (hl : p.Parts.length ≤ 1000) : F_clockworkref29_end p (k : Int) = some (nextF p.Parts k) := by
  unfold F_clockworkref29_end nextF
  rw [wrap_succ (by omega)]
  by_cases h2 : k + 1 < p.Parts.length
  · simp only [h2, show ((k + 1 : Nat) : Int) < (p.Parts.length : Int) by omega, show 0 ≤ ((k + 1 : Nat) : Int) by omega, decide_true, cond_true, and_self, req_t]
  · simp only [h2, show ¬ ((k + 1 : Nat) : Int) < (p.Parts.length : Int) by omega, decide_false, cond_false]

theorem split_ref {p : TPlacement} {id : Int} {key : Str} {fresh : Int} (hl : p.Parts.length < big) (hs : ∀ x ∈ p.Parts, x.From.length < big ∧ x.Done.length < big) (hk : key.length < big) :
    F_clockworkref29_Split p id key fresh = some (splitP p id key fresh) := by
  unfold F_clockworkref29_Split splitP
  rw [valid29_ref hl hs, bnd_mk]
  cases hv : pvB p with
  | false => rfl
  | true =>
    have hle := pvB_len hv
    have hve := pvB_ver hv
    rw [find_ref hl, bnd_mk, find_ref hl]
    by_cases h : findP p.Parts id < 0
    · simp [h, empP]
    · have hb := firstIx_bd (fun x : TPart => x.Id == id) p.Parts 0
      obtain ⟨k, hkk⟩ : ∃ k : Nat, findP p.Parts id = (k : Int) := ⟨(findP p.Parts id).toNat, by omega⟩
      have hkl : k < p.Parts.length := by
        rw [show firstIx (fun x : TPart => x.Id == id) p.Parts 0 = (k : Int) from hkk] at hb; omega
      rw [hkk, bound_ref hk, end_ref hkl (by omega)]
      simp only [show ¬ (k : Int) < 0 by omega, decide_false, cond_false, show 0 ≤ (k : Int) by omega, show (k : Int) < (p.Parts.length : Int) by omega, and_self, implies_true, req_t, Bool.not_true, Bool.not_false, cond_true, bnd_mk, Int.toNat_natCast]
      rw [wrap_succ (show k < 9223372036854775807 by omega)]
      cases ((atI p.Parts (k : Int)).Dest != 0) with
      | true => rfl
      | false =>
        have hc : (cond ((!boundB key) == false) (atI p.Parts (k : Int)) default) = (cond (boundB key) (atI p.Parts (k : Int)) default) := by cases boundB key <;> rfl
        rw [hc]
        have hA : (((((!boundB key) || (!sLt (cond (boundB key) (atI p.Parts (k : Int)) default).From key)) || ((nextF p.Parts k != ([] : Str)) && (!sLt key (nextF p.Parts k)))) || (decide (fresh < 1))) || (decide (1099511627776 < fresh))) =
            (((((!boundB key) || (!sLt (atI p.Parts (k : Int)).From key)) || ((nextF p.Parts k != ([] : Str)) && (!sLt key (nextF p.Parts k)))) || (decide (fresh < 1))) || (decide (1099511627776 < fresh))) := by cases boundB key <;> rfl
        rw [hA]
        cases (((((!boundB key) || (!sLt (atI p.Parts (k : Int)).From key)) || ((nextF p.Parts k != ([] : Str)) && (!sLt key (nextF p.Parts k)))) || (decide (fresh < 1))) || (decide (1099511627776 < fresh))) with
        | true => rfl
        | false =>
          cases decide (0 ≤ findP p.Parts fresh) with
          | true => rfl
          | false =>
            cases hq : (decide ((16 : Int) ≤ (p.Parts.length : Int)) || decide (1099511627776 ≤ p.Version)) with
            | true => rfl
            | false =>
              have hlt : (p.Parts.take (k + 1)).length ≤ 16 := by simp; omega
              have hld : (p.Parts.drop (k + 1)).length ≤ 16 := by simp; omega
              simp only [cond_false, cond_true, Int.toNat_natCast, List.take_length, List.nil_append, List.drop_zero, show (0 : Int).toNat = 0 from rfl, List.length_append, List.length_cons, List.length_nil, forall_const]
              rw [req_pos (by constructor; exact Int.le_refl _; omega), req_pos (by omega), req_pos (by omega), req_pos (by omega), req_pos (by omega)]
              rw [w64 (by omega) (by omega)]

end Go.Proofs.Ytdkakeiccefbgaa
