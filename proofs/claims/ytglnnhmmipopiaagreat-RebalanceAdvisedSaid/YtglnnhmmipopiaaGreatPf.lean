/-
 ADVISE, CLOSED (part 5): Advise whole; THE LAW RebalanceAdvises IN PLAIN LEAN.
-/
import Derived.Test.YtglnnhmmipopiaaGreatPe
set_option linter.all false
namespace Go.Proofs.YtglnnhmmipopiaaGreat
def orP (a b : TMarker × Bool) : TMarker × Bool := cond a.2 (a.1, true) b
theorem or_some (a b : TMarker × Bool) : cond a.2 (some (a.1, true)) (some b) = some (orP a b) := by
 unfold orP; cases a.2 <;> rfl
theorem or_assoc (a b c : TMarker × Bool) : orP (orP a b) c = orP a (orP b c) := by
 unfold orP; cases a.2 <;> rfl
def loadQ (p : TPlacement) (h : List THeat) : TMarker × Bool := cond (decide (16 ≤ p.Parts.length)) (mk0, false) (resP (scanF (qL p h) p.Parts.length 0))
def advP (p : TPlacement) (l : List TShard) (h : List THeat) (nodes : Int) : TMarker × Bool :=
 cond (((((!dvB p l) || (!hvB h)) || (decide (nodes < (1 : Int)))) || (decide ((16 : Int) < nodes))) || (p.Version == (1099511627776 : Int))) (mk0, false)
  (orP (resP (scanF (qC p) p.Parts.length 0)) (orP (sizeP p (gthP l).1) (orP (loadQ p h) (orP (resP (scanF (qM p (szL p (allP l)) (ldL p h)) (p.Parts.length - 1) 0)) (movedP p l (szL p (allP l)) nodes)))))
theorem adv_impl {p : TPlacement} (hp : POk p) {l : List TShard} (hs : SOk l) (hn : dvB p l = true → (allP l).length ≤ 1000) {h : List THeat} (hh : HOk h) (nodes : Int) : F_rebalance_Advise p l h nodes = some (advP p l h nodes) := by
 have hhn : h.length ≤ 1000 := by have := hh.n; omega
 unfold F_rebalance_Advise advP
 rw [dvalid_impl hp hs, bnd_mk]
 cases hd : dvB p l with
 | false => rfl
 | true =>
  rw [gcall_eq (by rfl) (hvalid_impl hh), bnd_mk]
  cases hv : hvB h with
  | false => rfl
  | true =>
   cases hc : ((((!true) || (!true)) || (decide (nodes < (1 : Int)))) || (decide ((16 : Int) < nodes))) || (p.Version == (1099511627776 : Int)) with
   | true => rfl
   | false =>
    have hnn : 1 ≤ nodes ∧ nodes ≤ 16 := by
     simp only [Bool.not_true, Bool.or_false, Bool.or_eq_false_iff, decide_eq_false_iff_not] at hc
     omega
    have hn := hn hd
    have D := dv_all hd
    have hpl := pvB_len D.v
    obtain ⟨u, hu, hst, hpm⟩ := state_perm hd
    have hul : u.length ≤ 1000 := by rw [hpm.length_eq]; exact hn
    have e1 : sizesP p l = szL p (allP l) := by unfold sizesP; rw [hd]; rfl
    have e2 : loadsP p h = ldL p h := by unfold loadsP; rw [D.v, hv]; rfl
    have hS := szL_len p (allP l)
    have hD := ldL_len p h
    rw [cond_false, cond_false, gather_impl hs, bnd_mk, sizes_impl hp hs hn, bnd_mk, loads_impl hp hh, bnd_mk, hot_impl hh, bnd_mk, fr_impl D.v, bnd_mk, cont_impl (by show p.Parts.length ≤ 1000; omega), bnd_mk, hu, e1, e2,
     size_impl hp D.v hpm hul, bnd_mk, load_implS hp D.v _ hhn, bnd_mk, mer_impl (by exact hpl) (by exact hS) (by exact hD), bnd_mk, moved_implA hp hs D hS hnn, bnd_mk]
    refine (congrArg (cond _ _) (congrArg (cond _ _) (congrArg (cond _ _) (or_some _ _)))).trans ?_
    refine (congrArg (cond _ _) (congrArg (cond _ _) (or_some _ _))).trans ?_
    refine (congrArg (cond _ _) (or_some _ _)).trans ?_
    exact or_some _ _
end Go.Proofs.YtglnnhmmipopiaaGreat
