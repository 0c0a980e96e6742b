/-
 WHAT SPLIT AND MERGE KEEP (from chapter 29)
 Conditions: none.
-/
import Derived.Test.YtglnnhmmipopiaaGreatOy
set_option linter.all false
namespace Go.Proofs.YtglnnhmmipopiaaGreat
open Go.ChangeShapes
def divL (l : List TPart) (k : Nat) (key : Str) (fresh : Int) : List TPart := (l.take (k + 1) ++ [⟨fresh, key, (ap l k).Node, 0, []⟩]) ++ l.drop (k + 1)
structure DivOk (v : Int) (l : List TPart) (k : Nat) (key : Str) (fresh : Int) : Prop where
 pv : PV v l
 lt : k < l.length
 dest : (ap l k).Dest = 0
 bnd : boundB key = true
 lo : sLt (ap l k).From key = true
 hi : k + 1 < l.length → sLt key (ap l (k + 1)).From = true
 fr : 1 ≤ fresh ∧ fresh ≤ 1099511627776
 new : ∀ i, i < l.length → (ap l i).Id ≠ fresh
 len : l.length < 16
 ver : v < 1099511627776
section
variable {v : Int} {l : List TPart} {k : Nat} {key : Str} {fresh : Int}
theorem nodes_mem {p : TPlacement} (h : PV p.Version p.Parts) (x : Int) : x ∈ nodesRefP p ↔ 1 ≤ x ∧ x ≤ 16 ∧ ∃ i, i < p.Parts.length ∧ ((ap p.Parts i).Node = x ∨ (ap p.Parts i).Dest = x) := by
 unfold nodesRefP
 rw [if_pos (pv_iff.2 h), pickN_mem, hasN_iff]
 constructor
 ·rintro ⟨a, b, c⟩; exact ⟨a, by omega, c⟩
 ·rintro ⟨a, b, c⟩; exact ⟨a, by omega, c⟩
end
end Go.Proofs.YtglnnhmmipopiaaGreat
namespace Go.Proofs.YtglnnhmmipopiaaGreat
open Go.ChangeShapes
theorem splitP_ok {p : TPlacement} {id : Int} {key : Str} {fresh : Int} {k : Nat} (hf : findP p.Parts id = (k : Int)) (h : DivOk p.Version p.Parts k key fresh) : splitP p id key fresh = (⟨p.Version + 1, divL p.Parts k key fresh⟩, 0) := by
 have hv := pv_iff.2 h.pv
 have h1 := h.lt
 have h2 := h.fr
 have h3 := h.len
 have h4 := h.ver
 have h5 : findP p.Parts fresh < 0 := findP_none.2 h.new
 have hd : (atI p.Parts (k : Int)).Dest = 0 := h.dest
 have hlo : sLt (atI p.Parts (k : Int)).From key = true := h.lo
 have hn : ((nextF p.Parts k != ([] : Str)) && (!sLt key (nextF p.Parts k))) = false := by
  by_cases hk : k + 1 < p.Parts.length
  ·rw [nextF_eq hk, h.hi hk]; simp
  ·rw [nextF_last hk]; simp
 unfold splitP
 rw [hv, hf]
 simp only [Bool.not_true, cond_false, show ¬ (k : Int) < 0 by omega, decide_false, Int.toNat_natCast, hd, bne_self_eq_false, h.bnd, hlo, hn, Bool.or_self, show ¬ fresh < 1 by omega, show ¬ 1099511627776 < fresh by omega, show ¬ 0 ≤ findP p.Parts fresh by omega, show ¬ (16 : Int) ≤ (p.Parts.length : Int) by omega, show ¬ 1099511627776 ≤ p.Version by omega]
 rfl
def joinL (l : List TPart) (k : Nat) : List TPart := l.take (k + 1) ++ l.drop (k + 2)
structure JoinOk (v : Int) (l : List TPart) (k : Nat) : Prop where
 pv : PV v l
 lt : k + 1 < l.length
 dest : (ap l k).Dest = 0
 dest2 : (ap l (k + 1)).Dest = 0
 node : (ap l k).Node = (ap l (k + 1)).Node
 ver : v < 1099511627776
theorem mergeP_ok {p : TPlacement} {id : Int} {k : Nat} (hf : findP p.Parts id = (k : Int)) (h : JoinOk p.Version p.Parts k) : mergeP p id = (⟨p.Version + 1, joinL p.Parts k⟩, 0) := by
 have hv := pv_iff.2 h.pv
 have h1 := h.lt
 have h4 := h.ver
 have hd : (atI p.Parts (k : Int)).Dest = 0 := h.dest
 have hd2 : (atI p.Parts ((k : Int) + 1)).Dest = 0 := h.dest2
 have hn : (atI p.Parts (k : Int)).Node = (atI p.Parts ((k : Int) + 1)).Node := h.node
 unfold mergeP
 rw [hv, hf]
 simp only [Bool.not_true, cond_false, show ¬ (k : Int) < 0 by omega, show ¬ (p.Parts.length : Int) ≤ (k : Int) + 1 by omega, decide_false, Int.toNat_natCast, hd, hd2, bne_self_eq_false, hn, Bool.or_self, show ¬ 1099511627776 ≤ p.Version by omega]
 rfl
section
variable {v : Int} {l : List TPart} {k : Nat}
end
end Go.Proofs.YtglnnhmmipopiaaGreat
