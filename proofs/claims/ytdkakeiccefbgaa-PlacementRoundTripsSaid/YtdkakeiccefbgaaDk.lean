/-
  CHAPTER 29, PLAIN: the reference's joining of partitions, closed (part k).
  Conditions: none.
-/
import Derived.Test.YtdkakeiccefbgaaDj
set_option linter.all false
namespace Go.Proofs.Ytdkakeiccefbgaa
open Go.ChangeShapes

def mergeP (p : TPlacement) (id : Int) : TPlacement × Int :=
  cond (!pvB p) (empP, 1) (cond (decide (findP p.Parts id < 0) || decide ((p.Parts.length : Int) ≤ findP p.Parts id + 1)) (empP, 9)
    (cond ((((atI p.Parts (findP p.Parts id)).Dest != 0) || ((atI p.Parts (findP p.Parts id + 1)).Dest != 0)) || ((atI p.Parts (findP p.Parts id)).Node != (atI p.Parts (findP p.Parts id + 1)).Node)) (empP, 19)
      (cond (decide (1099511627776 ≤ p.Version)) (empP, 2) (⟨p.Version + 1, p.Parts.take ((findP p.Parts id).toNat + 1) ++ p.Parts.drop ((findP p.Parts id).toNat + 2)⟩, 0))))

end Go.Proofs.Ytdkakeiccefbgaa
