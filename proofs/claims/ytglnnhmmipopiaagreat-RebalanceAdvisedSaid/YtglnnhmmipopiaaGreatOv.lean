/-
 SPLIT AND MERGE, CLOSED (from chapter 29)
 Conditions: none.
-/
import Derived.Test.YtglnnhmmipopiaaGreatOt
set_option linter.all false
namespace Go.Proofs.YtglnnhmmipopiaaGreat
open Go.ChangeShapes
def empP : TPlacement := ⟨0, []⟩
def splitP (p : TPlacement) (id : Int) (key : Str) (fresh : Int) : TPlacement × Int :=
 cond (!pvB p) (empP, 1) (cond (decide (findP p.Parts id < 0)) (empP, 9) (cond ((atI p.Parts (findP p.Parts id)).Dest != 0) (empP, 19)
  (cond (((((!boundB key) || (!sLt (atI p.Parts (findP p.Parts id)).From key)) || ((nextF p.Parts (findP p.Parts id).toNat != ([] : Str)) && (!sLt key (nextF p.Parts (findP p.Parts id).toNat)))) || (decide (fresh < 1))) || (decide (1099511627776 < fresh))) (empP, 1)
   (cond (decide (0 ≤ findP p.Parts fresh)) (empP, 8) (cond ((decide ((16 : Int) ≤ (p.Parts.length : Int))) || (decide (1099511627776 ≤ p.Version))) (empP, 2)
    (⟨p.Version + 1, (p.Parts.take ((findP p.Parts id).toNat + 1) ++ [⟨fresh, key, (atI p.Parts (findP p.Parts id)).Node, 0, []⟩]) ++ p.Parts.drop ((findP p.Parts id).toNat + 1)⟩, 0))))))
theorem pvB_ver {p : TPlacement} (h : pvB p = true) : 0 ≤ p.Version ∧ p.Version ≤ 1099511627776 := by
 simp only [pvB, headBad, Bool.and_eq_true, Bool.not_eq_true', Bool.or_eq_false_iff, decide_eq_false_iff_not] at h
 omega
theorem end_ref {p : TPlacement} {k : Nat} (hk : k < p.Parts.length) (hl : p.Parts.length ≤ 1000) : F_clockworkref29_end p (k : Int) = some (nextF p.Parts k) := by
 unfold F_clockworkref29_end nextF
 rw [wrap_succ (by omega)]
 by_cases h2 : k + 1 < p.Parts.length
 ·simp only [h2, show ((k + 1 : Nat) : Int) < (p.Parts.length : Int) by omega, show 0 ≤ ((k + 1 : Nat) : Int) by omega, decide_true, cond_true, and_self, req_t]
 ·simp only [h2, show ¬ ((k + 1 : Nat) : Int) < (p.Parts.length : Int) by omega, decide_false, cond_false]
theorem split_ref {p : TPlacement} {id : Int} {key : Str} {fresh : Int} (hl : p.Parts.length < big) (hs : ∀ x ∈ p.Parts, x.From.length < big ∧ x.Done.length < big) (hk : key.length < big) :
  F_clockworkref29_Split p id key fresh = some (splitP p id key fresh) := by
 unfold F_clockworkref29_Split splitP
 rw [valid29_ref hl hs, bnd_mk]
 cases hv : pvB p with
 | false => rfl
 | true =>
  have hle := pvB_len hv
  have hve := pvB_ver hv
  rw [find_ref hl, bnd_mk, find_ref hl]
  by_cases h : findP p.Parts id < 0
  ·simp [h, empP]
  ·have hb := firstIx_bd (fun x : TPart => x.Id == id) p.Parts 0
   obtain ⟨k, hkk⟩ : ∃ k : Nat, findP p.Parts id = (k : Int) := ⟨(findP p.Parts id).toNat, by omega⟩
   have hkl : k < p.Parts.length := by
    rw [show firstIx (fun x : TPart => x.Id == id) p.Parts 0 = (k : Int) from hkk] at hb; omega
   rw [hkk, bound_ref hk, end_ref hkl (by omega)]
   simp only [show ¬ (k : Int) < 0 by omega, decide_false, cond_false, show 0 ≤ (k : Int) by omega, show (k : Int) < (p.Parts.length : Int) by omega, and_self, implies_true, req_t, Bool.not_true, Bool.not_false, cond_true, bnd_mk, Int.toNat_natCast]
   rw [wrap_succ (show k < 9223372036854775807 by omega)]
   cases ((atI p.Parts (k : Int)).Dest != 0) with
   | true => rfl
   | false =>
    have hc : (cond ((!boundB key) == false) (atI p.Parts (k : Int)) default) = (cond (boundB key) (atI p.Parts (k : Int)) default) := by cases boundB key <;> rfl
    rw [hc]
    have hA : (((((!boundB key) || (!sLt (cond (boundB key) (atI p.Parts (k : Int)) default).From key)) || ((nextF p.Parts k != ([] : Str)) && (!sLt key (nextF p.Parts k)))) || (decide (fresh < 1))) || (decide (1099511627776 < fresh))) =
      (((((!boundB key) || (!sLt (atI p.Parts (k : Int)).From key)) || ((nextF p.Parts k != ([] : Str)) && (!sLt key (nextF p.Parts k)))) || (decide (fresh < 1))) || (decide (1099511627776 < fresh))) := by cases boundB key <;> rfl
    rw [hA]
    cases (((((!boundB key) || (!sLt (atI p.Parts (k : Int)).From key)) || ((nextF p.Parts k != ([] : Str)) && (!sLt key (nextF p.Parts k)))) || (decide (fresh < 1))) || (decide (1099511627776 < fresh))) with
    | true => rfl
    | false =>
     cases decide (0 ≤ findP p.Parts fresh) with
     | true => rfl
     | false =>
      cases hq : (decide ((16 : Int) ≤ (p.Parts.length : Int)) || decide (1099511627776 ≤ p.Version)) with
      | true => rfl
      | false =>
       have hlt : (p.Parts.take (k + 1)).length ≤ 16 := by simp; omega
       have hld : (p.Parts.drop (k + 1)).length ≤ 16 := by simp; omega
       simp only [cond_false, cond_true, Int.toNat_natCast, List.take_length, List.nil_append, List.drop_zero, show (0 : Int).toNat = 0 from rfl, List.length_append, List.length_cons, List.length_nil, forall_const]
       rw [req_pos (by constructor; exact Int.le_refl _; omega), req_pos (by omega), req_pos (by omega), req_pos (by omega), req_pos (by omega)]
       rw [w64 (by omega) (by omega)]
end Go.Proofs.YtglnnhmmipopiaaGreat
namespace Go.Proofs.YtglnnhmmipopiaaGreat
open Go.ChangeShapes
def mergeP (p : TPlacement) (id : Int) : TPlacement × Int :=
 cond (!pvB p) (empP, 1) (cond (decide (findP p.Parts id < 0) || decide ((p.Parts.length : Int) ≤ findP p.Parts id + 1)) (empP, 9)
  (cond ((((atI p.Parts (findP p.Parts id)).Dest != 0) || ((atI p.Parts (findP p.Parts id + 1)).Dest != 0)) || ((atI p.Parts (findP p.Parts id)).Node != (atI p.Parts (findP p.Parts id + 1)).Node)) (empP, 19)
   (cond (decide (1099511627776 ≤ p.Version)) (empP, 2) (⟨p.Version + 1, p.Parts.take ((findP p.Parts id).toNat + 1) ++ p.Parts.drop ((findP p.Parts id).toNat + 2)⟩, 0))))
theorem merge_ref {p : TPlacement} {id : Int} (hl : p.Parts.length < big) (hs : ∀ x ∈ p.Parts, x.From.length < big ∧ x.Done.length < big) : F_clockworkref29_Merge p id = some (mergeP p id) := by
 unfold F_clockworkref29_Merge mergeP
 rw [valid29_ref hl hs, bnd_mk]
 cases hv : pvB p with
 | false => rfl
 | true =>
  have hle := pvB_len hv
  have hve := pvB_ver hv
  rw [find_ref hl, bnd_mk]
  by_cases h : findP p.Parts id < 0
  ·simp [h, empP]
  ·have hb := firstIx_bd (fun x : TPart => x.Id == id) p.Parts 0
   obtain ⟨k, hkk⟩ : ∃ k : Nat, findP p.Parts id = (k : Int) := ⟨(findP p.Parts id).toNat, by omega⟩
   have hkl : k < p.Parts.length := by
    rw [show firstIx (fun x : TPart => x.Id == id) p.Parts 0 = (k : Int) from hkk] at hb; omega
   rw [hkk]
   have hw1 : IntKind.i64.wrap ((k : Int) + 1) = (k : Int) + 1 := w64 (by omega) (by omega)
   have hw2 : IntKind.i64.wrap ((k : Int) + 2) = (k : Int) + 2 := w64 (by omega) (by omega)
   simp only [show ¬ (k : Int) < 0 by omega, decide_false, Bool.false_or, cond_false, show 0 ≤ (k : Int) by omega, show (k : Int) < (p.Parts.length : Int) by omega, and_self, implies_true, req_t, Bool.not_true, Int.toNat_natCast, hw1, hw2]
   by_cases h9 : (p.Parts.length : Int) ≤ (k : Int) + 1
   ·simp [h9, empP]
   ·simp only [h9, decide_false, cond_false, show 0 ≤ (k : Int) + 1 by omega, show (k : Int) + 1 < (p.Parts.length : Int) by omega, and_self, implies_true, req_t]
    have hA : ((((atI p.Parts (k : Int)).Dest != (0 : Int)) || ((cond ((((atI p.Parts (k : Int)).Dest != (0 : Int))) == false) (atI p.Parts ((k : Int) + 1)) default).Dest != (0 : Int))) || ((cond (((((atI p.Parts (k : Int)).Dest != (0 : Int)) || ((cond ((((atI p.Parts (k : Int)).Dest != (0 : Int))) == false) (atI p.Parts ((k : Int) + 1)) default).Dest != (0 : Int)))) == false) (atI p.Parts (k : Int)) default).Node != (cond (((((atI p.Parts (k : Int)).Dest != (0 : Int)) || ((cond ((((atI p.Parts (k : Int)).Dest != (0 : Int))) == false) (atI p.Parts ((k : Int) + 1)) default).Dest != (0 : Int)))) == false) (atI p.Parts ((k : Int) + 1)) default).Node)) =
      ((((atI p.Parts (k : Int)).Dest != 0) || ((atI p.Parts ((k : Int) + 1)).Dest != 0)) || ((atI p.Parts (k : Int)).Node != (atI p.Parts ((k : Int) + 1)).Node)) := by
     cases hd : ((atI p.Parts (k : Int)).Dest != (0 : Int)) with
     | true => rfl
     | false =>
      simp only [BEq.rfl, cond_true, Bool.false_or]
      cases hd2 : ((atI p.Parts ((k : Int) + 1)).Dest != (0 : Int)) with
      | true => rfl
      | false => rfl
    rw [hA]
    cases ((((atI p.Parts (k : Int)).Dest != 0) || ((atI p.Parts ((k : Int) + 1)).Dest != 0)) || ((atI p.Parts (k : Int)).Node != (atI p.Parts ((k : Int) + 1)).Node)) with
    | true => rfl
    | false =>
     cases hq : decide (1099511627776 ≤ p.Version) with
     | true => rfl
     | false =>
      have hlt : (p.Parts.take (k + 1)).length ≤ 16 := by simp; omega
      have hld : (p.Parts.drop (k + 2)).length ≤ 16 := by simp; omega
      have e1 : ((k : Int) + 1).toNat = k + 1 := by omega
      have e2 : ((k : Int) + 2).toNat = k + 2 := by omega
      simp only [cond_false, cond_true, Int.toNat_natCast, e1, e2, List.take_length, List.nil_append, List.drop_zero, show (0 : Int).toNat = 0 from rfl, List.length_append, forall_const]
      rw [req_pos (by first | omega | (simp; done) | (simp; omega)), req_pos (by first | omega | (simp; done) | (simp; omega)), req_pos (by first | omega | (simp; done) | (simp; omega)), req_pos (by first | omega | (simp; done) | (simp; omega))]
      rw [w64 (by omega) (by simp only [decide_eq_false_iff_not] at hq; omega)]
end Go.Proofs.YtglnnhmmipopiaaGreat
namespace Go.Proofs.YtglnnhmmipopiaaGreat
open Go.ChangeShapes
theorem beq_dec {a b : Int} {q : Prop} [Decidable q] (h : a = b ↔ q) : (a == b) = decide q := by
 by_cases hq : q
 ·simp [h.2 hq, hq]
 ·simp [hq, mt h.1 hq]
theorem next_ne {p : TPlacement} (h : pvB p = true) {k : Nat} (hk : k + 1 < p.Parts.length) : (atI p.Parts ((k + 1 : Nat) : Int)).From ≠ [] := by
 intro he
 have hb := pv_part h hk
 rw [badPart_eq] at hb
 simp only [Bool.or_eq_false_iff, he, sLt_nil] at hb
 simp at hb
theorem findP_at {p : TPlacement} {id : Int} (h : ¬ findP p.Parts id < 0) : ∃ k : Nat, findP p.Parts id = (k : Int) ∧ k < p.Parts.length := by
 have hb := firstIx_bd (fun x : TPart => x.Id == id) p.Parts 0
 refine ⟨(findP p.Parts id).toNat, by omega, ?_⟩
 unfold findP at h ⊢
 omega
theorem split_impl {p : TPlacement} {id : Int} {key : Str} {fresh : Int} (hl : p.Parts.length < big) (hs : ∀ x ∈ p.Parts, x.From.length < big ∧ x.Done.length < big) (hk : key.length < big) :
  F_placement_Split p id key fresh = some (splitP p id key fresh) := by
 unfold F_placement_Split splitP
 rw [valid29_impl hl hs, bnd_mk]
 cases hv : pvB p with
 | false => rfl
 | true =>
  have hle := pvB_len hv
  have hve := pvB_ver hv
  rw [find_impl hl, bnd_mk, find_impl hl]
  by_cases h : findP p.Parts id < 0
  ·simp [h, empP]
  ·obtain ⟨k, hkk, hkl⟩ := findP_at h
   rw [hkk, bound_impl hk]
   rw [wrap_succ (show k < 9223372036854775807 by omega)]
   have hn : F_placement_number fresh = some (decide (1 ≤ fresh) && decide (fresh ≤ 1099511627776)) := rfl
   rw [hn]
   simp only [show ¬ (k : Int) < 0 by omega, decide_false, cond_false, show 0 ≤ (k : Int) by omega, show (k : Int) < (p.Parts.length : Int) by omega, and_self, req_t, Bool.not_true, Bool.not_false, cond_true, bnd_mk, Int.toNat_natCast]
   -- the condition on the key
   have hcond : ∀ A : Bool, (((!A) || (!((sLt (atI p.Parts (k : Int)).From key) && ((((k + 1 : Nat) : Int) == ((p.Parts.length : Nat) : Int)) || (sLt key (cond ((((((k + 1 : Nat) : Int) == ((p.Parts.length : Nat) : Int))) == false) && (((sLt (atI p.Parts (k : Int)).From key)) == true)) (atI p.Parts ((k + 1 : Nat) : Int)) default).From))))) ) =
     (((!A) || (!sLt (atI p.Parts (k : Int)).From key)) || ((nextF p.Parts k != ([] : Str)) && (!sLt key (nextF p.Parts k)))) := by
    intro A
    by_cases hlast : k + 1 < p.Parts.length
    ·have h1 : (((k + 1 : Nat) : Int) == ((p.Parts.length : Nat) : Int)) = false := by simp; omega
     have h2 : nextF p.Parts k = (atI p.Parts ((k + 1 : Nat) : Int)).From := by simp [nextF, hlast]
     have h3 : (nextF p.Parts k != ([] : Str)) = true := by rw [h2]; simpa using next_ne hv hlast
     rw [h1, h3, h2]
     cases A <;> cases sLt (atI p.Parts (k : Int)).From key <;> simp
    ·have h1 : (((k + 1 : Nat) : Int) == ((p.Parts.length : Nat) : Int)) = true := by simp; omega
     have h2 : nextF p.Parts k = [] := by simp [nextF, hlast]
     rw [h1, h2]
     cases A <;> cases sLt (atI p.Parts (k : Int)).From key <;> simp
   rw [req_pos (by
    intro hg
    simp only [Bool.and_eq_true, beq_iff_eq] at hg
    have := hg.1
    simp at this
    omega)]
   cases ((atI p.Parts (k : Int)).Dest != 0) with
   | true => rfl
   | false =>
    rw [cond_false, cond_false, hcond (boundB key)]
    cases hq : (((!boundB key) || (!sLt (atI p.Parts (k : Int)).From key)) || ((nextF p.Parts k != ([] : Str)) && (!sLt key (nextF p.Parts k)))) with
    | true => simp [empP]
    | false =>
     have hf : (!(decide (1 ≤ fresh) && decide (fresh ≤ 1099511627776))) = (decide (fresh < 1) || decide (1099511627776 < fresh)) := by
      by_cases h1 : 1 ≤ fresh <;> by_cases h2 : fresh ≤ 1099511627776 <;> simp [h1, h2] <;> omega
     simp only [BEq.rfl, gcall_t, bnd_mk, Bool.false_or, hf]
     cases (decide (fresh < 1) || decide (1099511627776 < fresh)) with
     | true => rfl
     | false =>
      simp only [cond_false]
      cases decide (0 ≤ findP p.Parts fresh) with
      | true => rfl
      | false =>
       have hc2 : ((((p.Parts.length : Nat) : Int) == (16 : Int)) || (p.Version == (1099511627776 : Int))) = (decide ((16 : Int) ≤ (p.Parts.length : Int)) || decide (1099511627776 ≤ p.Version)) := by
        have e1 : (((p.Parts.length : Nat) : Int) == (16 : Int)) = decide ((16 : Int) ≤ (p.Parts.length : Int)) := beq_dec (by omega)
        have e2 : (p.Version == (1099511627776 : Int)) = decide (1099511627776 ≤ p.Version) := beq_dec (by omega)
        rw [e1, e2]
       rw [hc2]
       cases hq2 : (decide ((16 : Int) ≤ (p.Parts.length : Int)) || decide (1099511627776 ≤ p.Version)) with
       | true => rfl
       | false =>
        simp only [Bool.or_eq_false_iff, decide_eq_false_iff_not] at hq2
        simp only [cond_false]
        rw [req_pos (by omega), req_pos (by omega), req_pos (by omega), w64 (by omega) (by omega)]
theorem merge_impl {p : TPlacement} {id : Int} (hl : p.Parts.length < big) (hs : ∀ x ∈ p.Parts, x.From.length < big ∧ x.Done.length < big) : F_placement_Merge p id = some (mergeP p id) := by
 unfold F_placement_Merge mergeP
 rw [valid29_impl hl hs, bnd_mk]
 cases hv : pvB p with
 | false => rfl
 | true =>
  have hle := pvB_len hv
  have hve := pvB_ver hv
  rw [find_impl hl, bnd_mk]
  by_cases h : findP p.Parts id < 0
  ·simp [h, empP]
  ·obtain ⟨k, hkk, hkl⟩ := findP_at h
   rw [hkk]
   have hw1 : IntKind.i64.wrap ((k : Int) + 1) = (k : Int) + 1 := w64 (by omega) (by omega)
   have hw2 : IntKind.i64.wrap ((k : Int) + 2) = (k : Int) + 2 := w64 (by omega) (by omega)
   simp only [hw1, hw2]
   have e1 : ((k : Int) + 1 == ((p.Parts.length : Nat) : Int)) = decide ((p.Parts.length : Int) ≤ (k : Int) + 1) := beq_dec (by omega)
   rw [e1]
   simp only [show ¬ (k : Int) < 0 by omega, decide_false, Bool.false_or, cond_false, show 0 ≤ (k : Int) by omega, show (k : Int) < (p.Parts.length : Int) by omega, and_self, req_t, Bool.not_true]
   by_cases h9 : (p.Parts.length : Int) ≤ (k : Int) + 1
   ·simp [h9, empP]
   ·simp only [h9, decide_false, cond_false, show 0 ≤ (k : Int) + 1 by omega, show (k : Int) + 1 < (p.Parts.length : Int) by omega, and_self, req_t]
    cases ((((atI p.Parts (k : Int)).Dest != 0) || ((atI p.Parts ((k : Int) + 1)).Dest != 0)) || ((atI p.Parts (k : Int)).Node != (atI p.Parts ((k : Int) + 1)).Node)) with
    | true => rfl
    | false =>
     have e2 : (p.Version == (1099511627776 : Int)) = decide (1099511627776 ≤ p.Version) := beq_dec (by omega)
     rw [e2]
     cases hq : decide (1099511627776 ≤ p.Version) with
     | true => rfl
     | false =>
      simp only [decide_eq_false_iff_not] at hq
      simp only [cond_false]
      rw [req_pos (by omega), req_pos ⟨trivial, by omega, by omega⟩, req_pos (by omega), w64 (by omega) (by omega)]
      have e3 : ((k : Int) + 1).toNat = k + 1 := by omega
      have e4 : ((k : Int) + 2).toNat = k + 2 := by omega
      rw [e3, e4, Int.toNat_natCast]
end Go.Proofs.YtglnnhmmipopiaaGreat
