/-
  CHAPTER 29, PLAIN: the reference's joining of partitions, closed (part k).
  Conditions: none.
-/
import Derived.Test.YtdkakeiccefbgaaUj
set_option linter.all false
namespace Go.Proofs.Ytdkakeiccefbgaa
open Go.ChangeShapes

def mergeP (p : TPlacement) (id : Int) : TPlacement × Int :=
  cond (!pvB p) (empP, 1) (cond (decide (findP p.Parts id < 0) || decide ((p.Parts.length : Int) ≤ findP p.Parts id + 1)) (empP, 9)
    (cond ((((atI p.Parts (findP p.Parts id)).Dest != 0) || ((atI p.Parts (findP p.Parts id + 1)).Dest != 0)) || ((atI p.Parts (findP p.Parts id)).Node != (atI p.Parts (findP p.Parts id + 1)).Node)) (empP, 19)
      (cond (decide (1099511627776 ≤ p.Version)) (empP, 2) (⟨p.Version + 1, p.Parts.take ((findP p.Parts id).toNat + 1) ++ p.Parts.drop ((findP p.Parts id).toNat + 2)⟩, 0))))

theorem merge_ref {p : TPlacement} {id : Int} (hl : p.Parts.length < big) (hs : ∀ x ∈ p.Parts, x.From.length < big ∧ x.Done.length < big) : F_clockworkref29_Merge p id = some (mergeP p id) := by
  unfold F_clockworkref29_Merge mergeP
  rw [valid29_ref hl hs, bnd_mk]
  cases hv : pvB p with
  | false => rfl
  | true =>
    have hle := pvB_len hv
    have hve := pvB_ver hv
    rw [find_ref hl, bnd_mk]
    by_cases h : findP p.Parts id < 0
    · simp [h, empP]
    · have hb := firstIx_bd (fun x : TPart => x.Id == id) p.Parts 0
      obtain ⟨k, hkk⟩ : ∃ k : Nat, findP p.Parts id = (k : Int) := ⟨(findP p.Parts id).toNat, by omega⟩
      have hkl : k < p.Parts.length := by
        rw [show firstIx (fun x : TPart => x.Id == id) p.Parts 0 = (k : Int) from hkk] at hb; omega
      rw [hkk]
      have hw1 : IntKind.i64.wrap ((k : Int) + 1) = (k : Int) + 1 := w64 (by omega) (by omega)
      have hw2 : IntKind.i64.wrap ((k : Int) + 2) = (k : Int) + 2 := w64 (by omega) (by omega)
      simp only [show ¬ (k : Int) < 0 by omega, decide_false, Bool.false_or, cond_false, show 0 ≤ (k : Int) by omega, show (k : Int) < (p.Parts.length : Int) by omega, and_self, implies_true, req_t, Bool.not_true, Int.toNat_natCast, hw1, hw2]
      by_cases h9 : (p.Parts.length : Int) ≤ (k : Int) + 1
      · simp [h9, empP]
      · simp only [h9, decide_false, cond_false, show 0 ≤ (k : Int) + 1 by omega, show (k : Int) + 1 < (p.Parts.length : Int) by omega, and_self, implies_true, req_t]
        have hA : ((((atI p.Parts (k : Int)).Dest != (0 : Int)) || ((cond ((((atI p.Parts (k : Int)).Dest != (0 : Int))) == false) (atI p.Parts ((k : Int) + 1)) default).Dest != (0 : Int))) || ((cond (((((atI p.Parts (k : Int)).Dest != (0 : Int)) || ((cond ((((atI p.Parts (k : Int)).Dest != (0 : Int))) == false) (atI p.Parts ((k : Int) + 1)) default).Dest != (0 : Int)))) == false) (atI p.Parts (k : Int)) default).Node != (cond (((((atI p.Parts (k : Int)).Dest != (0 : Int)) || ((cond ((((atI p.Parts (k : Int)).Dest != (0 : Int))) == false) (atI p.Parts ((k : Int) + 1)) default).Dest != (0 : Int)))) == false) (atI p.Parts ((k : Int) + 1)) default).Node)) =
            ((((atI p.Parts (k : Int)).Dest != 0) || ((atI p.Parts ((k : Int) + 1)).Dest != 0)) || ((atI p.Parts (k : Int)).Node != (atI p.Parts ((k : Int) + 1)).Node)) := by
          cases hd : ((atI p.Parts (k : Int)).Dest != (0 : Int)) with
          | true => rfl
          | false =>
            simp only [BEq.rfl, cond_true, Bool.false_or]
            cases hd2 : ((atI p.Parts ((k : Int) + 1)).Dest != (0 : Int)) with
            | true => rfl
            | false => rfl
        rw [hA]
        cases ((((atI p.Parts (k : Int)).Dest != 0) || ((atI p.Parts ((k : Int) + 1)).Dest != 0)) || ((atI p.Parts (k : Int)).Node != (atI p.Parts ((k : Int) + 1)).Node)) with
        | true => rfl
        | false =>
          cases hq : decide (1099511627776 ≤ p.Version) with
          | true => rfl
          | false =>
            have hlt : (p.Parts.take (k + 1)).length ≤ 16 := by simp; omega
            have hld : (p.Parts.drop (k + 2)).length ≤ 16 := by simp; omega
            have e1 : ((k : Int) + 1).toNat = k + 1 := by omega
            have e2 : ((k : Int) + 2).toNat = k + 2 := by omega
            simp only [cond_false, cond_true, Int.toNat_natCast, e1, e2, List.take_length, List.nil_append, List.drop_zero, show (0 : Int).toNat = 0 from rfl, List.length_append, forall_const]
            rw [req_pos (by first | omega | (simp; done) | (simp; omega)), req_pos (by first | omega | (simp; done) | (simp; omega)), req_pos (by first | omega | (simp; done) | (simp; omega)), req_pos (by first | omega | (simp; done) | (simp; omega))]
            rw [w64 (by omega) (by simp only [decide_eq_false_iff_not] at hq; omega)]

end Go.Proofs.Ytdkakeiccefbgaa
