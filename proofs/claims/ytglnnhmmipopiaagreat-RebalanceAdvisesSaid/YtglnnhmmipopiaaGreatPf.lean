/-
 ADVISE, CLOSED (part 5): Advise whole; THE LAW RebalanceAdvises IN PLAIN LEAN.
-/
import Derived.Test.YtglnnhmmipopiaaGreatPe
set_option linter.all false
namespace Go.Proofs.YtglnnhmmipopiaaGreat
def orP (a b : TMarker × Bool) : TMarker × Bool := cond a.2 (a.1, true) b
theorem or_some (a b : TMarker × Bool) : cond a.2 (some (a.1, true)) (some b) = some (orP a b) := by
 unfold orP; cases a.2 <;> rfl
theorem or_assoc (a b c : TMarker × Bool) : orP (orP a b) c = orP a (orP b c) := by
 unfold orP; cases a.2 <;> rfl
theorem resP_or (o : Option TMarker) (b : TMarker × Bool) : orP (resP o) b = match o with | some m => (m, true) | none => b := by
 cases o <;> rfl
def loadQ (p : TPlacement) (h : List THeat) : TMarker × Bool := cond (decide (16 ≤ p.Parts.length)) (mk0, false) (resP (scanF (qL p h) p.Parts.length 0))
def advP (p : TPlacement) (l : List TShard) (h : List THeat) (nodes : Int) : TMarker × Bool :=
 cond (((((!dvB p l) || (!hvB h)) || (decide (nodes < (1 : Int)))) || (decide ((16 : Int) < nodes))) || (p.Version == (1099511627776 : Int))) (mk0, false)
  (orP (resP (scanF (qC p) p.Parts.length 0)) (orP (sizeP p (gthP l).1) (orP (loadQ p h) (orP (resP (scanF (qM p (szL p (allP l)) (ldL p h)) (p.Parts.length - 1) 0)) (movedP p l (szL p (allP l)) nodes)))))
theorem adv_impl {p : TPlacement} (hp : POk p) {l : List TShard} (hs : SOk l) (hn : dvB p l = true → (allP l).length ≤ 1000) {h : List THeat} (hh : HOk h) (nodes : Int) : F_rebalance_Advise p l h nodes = some (advP p l h nodes) := by
 have hhn : h.length ≤ 1000 := by have := hh.n; omega
 unfold F_rebalance_Advise advP
 rw [dvalid_impl hp hs, bnd_mk]
 cases hd : dvB p l with
 | false => rfl
 | true =>
  rw [gcall_eq (by rfl) (hvalid_impl hh), bnd_mk]
  cases hv : hvB h with
  | false => rfl
  | true =>
   cases hc : ((((!true) || (!true)) || (decide (nodes < (1 : Int)))) || (decide ((16 : Int) < nodes))) || (p.Version == (1099511627776 : Int)) with
   | true => rfl
   | false =>
    have hnn : 1 ≤ nodes ∧ nodes ≤ 16 := by
     simp only [Bool.not_true, Bool.or_false, Bool.or_eq_false_iff, decide_eq_false_iff_not] at hc
     omega
    have hn := hn hd
    have D := dv_all hd
    have hpl := pvB_len D.v
    obtain ⟨u, hu, hst, hpm⟩ := state_perm hd
    have hul : u.length ≤ 1000 := by rw [hpm.length_eq]; exact hn
    have e1 : sizesP p l = szL p (allP l) := by unfold sizesP; rw [hd]; rfl
    have e2 : loadsP p h = ldL p h := by unfold loadsP; rw [D.v, hv]; rfl
    have hS := szL_len p (allP l)
    have hD := ldL_len p h
    rw [cond_false, cond_false, gather_impl hs, bnd_mk, sizes_impl hp hs hn, bnd_mk, loads_impl hp hh, bnd_mk, hot_impl hh, bnd_mk, fr_impl D.v, bnd_mk, cont_impl (by show p.Parts.length ≤ 1000; omega), bnd_mk, hu, e1, e2,
     size_impl hp D.v hpm hul, bnd_mk, load_implS hp D.v _ hhn, bnd_mk, mer_impl (by exact hpl) (by exact hS) (by exact hD), bnd_mk, moved_implA hp hs D hS hnn, bnd_mk]
    refine (congrArg (cond _ _) (congrArg (cond _ _) (congrArg (cond _ _) (or_some _ _)))).trans ?_
    refine (congrArg (cond _ _) (congrArg (cond _ _) (or_some _ _))).trans ?_
    refine (congrArg (cond _ _) (or_some _ _)).trans ?_
    exact or_some _ _
theorem split_refA {p : TPlacement} (hp : POk p) {l : List TShard} (hs : SOk l) (hn : (allP l).length ≤ 1000) {h : List THeat} (hh : HOk h) (hd : dvB p l = true) (hv : hvB h = true) :
  F_clockworkref35_split p l h = some (orP (sizeP p (gthP l).1) (loadQ p h)) := by
 have D := dv_all hd
 have hpl := pvB_len D.v
 have hhn : h.length ≤ 1000 := by have := hh.n; omega
 obtain ⟨u, hu, hst, hpm⟩ := state_perm hd
 have hul : u.length ≤ 1000 := by rw [hpm.length_eq]; exact hn
 have e2 : loadsP p h = ldL p h := by unfold loadsP; rw [D.v, hv]; rfl
 unfold F_clockworkref35_split loadQ sizeP
 rw [dec16]
 cases decide (16 ≤ p.Parts.length) with
 | true => rfl
 | false =>
  rw [cond_false, cond_false, cond_false, gather_ref hs, bnd_mk, jn_mk, hu]
  refine (size_ref hp D.v hul _).trans ?_
  rw [resP_or]
  cases scanF (qS p u) p.Parts.length 0 with
  | some m => rfl
  | none =>
   show bnd (F_clockworkref35_Loads p h) _ = _
   rw [loads_ref hp hh, bnd_mk, e2, hot_ref hh, bnd_mk, jn_mk]
   refine (load_refS hp D.v hhn _ _).trans ?_
   cases scanF (qL p h) p.Parts.length 0 <;> rfl
theorem adv_ref {p : TPlacement} (hp : POk p) {l : List TShard} (hs : SOk l) (hn : (allP l).length ≤ 1000) {h : List THeat} (hh : HOk h) (nodes : Int) : F_clockworkref35_Advise p l h nodes = some (advP p l h nodes) := by
 unfold F_clockworkref35_Advise advP
 rw [dvalid_ref hp hs, bnd_mk]
 cases hd : dvB p l with
 | false => rfl
 | true =>
  rw [gcall_eq (by rfl) (hvalid_ref hh), bnd_mk]
  cases hv : hvB h with
  | false => rfl
  | true =>
   cases hc : ((((!true) || (!true)) || (decide (nodes < (1 : Int)))) || (decide ((16 : Int) < nodes))) || (p.Version == (1099511627776 : Int)) with
   | true => rfl
   | false =>
    have hnn : 1 ≤ nodes ∧ nodes ≤ 16 := by
     simp only [Bool.not_true, Bool.or_false, Bool.or_eq_false_iff, decide_eq_false_iff_not] at hc
     omega
    have D := dv_all hd
    have hpl := pvB_len D.v
    have e1 : sizesP p l = szL p (allP l) := by unfold sizesP; rw [hd]; rfl
    have e2 : loadsP p h = ldL p h := by unfold loadsP; rw [D.v, hv]; rfl
    have hS := szL_len p (allP l)
    have hD := ldL_len p h
    rw [cond_false, cond_false, moving33_ref hp (by omega), bnd_mk, cont_mv D.v]
    cases hm : mvP p with
    | cons d ds =>
     rw [show decide ((0 : Int) < (((d :: ds).length : Nat) : Int)) = true from decide_eq_true (by simp only [List.length_cons]; omega), cond_true, req_pos ⟨by omega, by simp only [List.length_cons]; omega⟩]
     rfl
    | nil =>
     rw [show decide ((0 : Int) < ((([] : List Int).length : Nat) : Int)) = false from rfl, cond_false, split_refA hp hs hn hh hd hv, bnd_mk, sizes_ref hp hs hn, bnd_mk, loads_ref hp hh, bnd_mk, e1, e2, jn_mk, mer_ref hpl hS hD]
     show _ = some (orP (sizeP p (gthP l).1) (orP (loadQ p h) _))
     rw [← or_assoc, ← or_some, resP_or]
     refine congrArg (cond _ _) ?_
     cases scanF (qM p (szL p (allP l)) (ldL p h)) (p.Parts.length - 1) 0 with
     | some m => rfl
     | none =>
      show bnd (F_clockworkref35_move p l nodes) _ = _
      rw [moved_refA hp hs D hn hnn, bnd_mk]
theorem plain_RebalanceAdvises (x0 : TPlacement) (x1 : List TShard) (x2 : List THeat) (x3 : Int) (o0 : okTPlacement x0) (o1 : (okLR okTShard) x1) (o2 : (okLR okTHeat) x2) (o3 : (okI .i64) x3) : F_clockworklaw35_RebalanceAdvises x0 x1 x2 x3 = some true := by
 have hp := okP33 o0
 have hsh := okSh o1
 unfold F_clockworklaw35_RebalanceAdvises
 rw [lives_t]
 obtain ⟨b, hb, hb2⟩ := few35 (p := x0) (l := x1) (h := x2) (fun s hss => by have := (o1.2 s hss).2.1; omega)
 rw [hb, bnd_mk]
 cases b with
 | false => rfl
 | true =>
  have f := hb2 rfl
  obtain ⟨hs, hn⟩ := few_sok f hsh
  have hh := few_hok f
  rw [show (!true) = false from rfl, cond_false, adv_impl hp hs (fun _ => by omega) hh, bnd_mk, adv_ref hp hs (by omega) hh, bnd_mk]
  generalize advP x0 x1 x2 x3 = a
  simp [gcall, bnd]
end Go.Proofs.YtglnnhmmipopiaaGreat
