/-
  CHAPTER 29, PLAIN: the reference's division of a partition, closed (part j).
  Conditions: none.
-/
import Derived.Test.YtdkakeiccefbgaaDi
set_option linter.all false
namespace Go.Proofs.Ytdkakeiccefbgaa
open Go.ChangeShapes

def empP : TPlacement := ⟨0, []⟩

def splitP (p : TPlacement) (id : Int) (key : Str) (fresh : Int) : TPlacement × Int :=
  cond (!pvB p) (empP, 1) (cond (decide (findP p.Parts id < 0)) (empP, 9) (cond ((atI p.Parts (findP p.Parts id)).Dest != 0) (empP, 19)
    (cond (((((!boundB key) || (!sLt (atI p.Parts (findP p.Parts id)).From key)) || ((nextF p.Parts (findP p.Parts id).toNat != ([] : Str)) && (!sLt key (nextF p.Parts (findP p.Parts id).toNat)))) || (decide (fresh < 1))) || (decide (1099511627776 < fresh))) (empP, 1)
      (cond (decide (0 ≤ findP p.Parts fresh)) (empP, 8) (cond ((decide ((16 : Int) ≤ (p.Parts.length : Int))) || (decide (1099511627776 ≤ p.Version))) (empP, 2)
        (⟨p.Version + 1, (p.Parts.take ((findP p.Parts id).toNat + 1) ++ [⟨fresh, key, (atI p.Parts (findP p.Parts id)).Node, 0, []⟩]) ++ p.Parts.drop ((findP p.Parts id).toNat + 1)⟩, 0))))))

theorem pvB_ver {p : TPlacement} (h : pvB p = true) : 0 ≤ p.Version ∧ p.Version ≤ 1099511627776 := by
  simp only [pvB, headBad, Bool.and_eq_true, Bool.not_eq_true', Bool.or_eq_false_iff, decide_eq_false_iff_not] at h
  omega

end Go.Proofs.Ytdkakeiccefbgaa
