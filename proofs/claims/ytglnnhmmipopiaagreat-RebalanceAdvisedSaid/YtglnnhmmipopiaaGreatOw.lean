/-
 SIZES AND LOADS, CLOSED; THE LAW RebalanceCounts IN PLAIN LEAN.
-/
import Derived.Test.YtglnnhmmipopiaaGreatOv
set_option linter.all false
namespace Go.Proofs.YtglnnhmmipopiaaGreat

/-! ### What the laws ask of their arguments -/
structure FewP (p : TPlacement) (l : List TShard) (h : List THeat) : Prop where
 qp : p.Parts.length ≤ 20
 qpf : ∀ x ∈ p.Parts, x.From.length ≤ 100 ∧ x.Done.length ≤ 100
 ql : l.length ≤ 8
 qn : (l.flatMap fun s => s.Pairs).length ≤ 60
 qk : ∀ s ∈ l, ∀ x ∈ s.Pairs, x.Key.length ≤ 100 ∧ x.Val.S.length ≤ 100
 qh : h.length ≤ 40
 qhk : ∀ x ∈ h, x.Key.length ≤ 100
theorem few1 {p : TPlacement} (hl : p.Parts.length ≤ 20) (J : Option Bool) : F_clockworkref35_Few_L1 p J ((((p.Parts.length : Nat) : Int)).toNat + 1) 0 = cond (p.Parts.any fun x => decide (100 < x.From.length) || decide (100 < x.Done.length)) (some false) J := by
 refine loopAny0 (l := p.Parts) (by omega) (L := fun n i => F_clockworkref35_Few_L1 p J n i) (E := some false) (J := J) (by omega) (fun n i hi => ?_) (fun n => ?_)
 ·try dsimp only
  rw [F_clockworkref35_Few_L1, decide_eq_true (by omega), cond_true, req_pos (by omega), req_pos (fun _ => by omega), atI_nat hi]
  have e1 : decide ((100 : Int) < ((p.Parts[i].From.length : Nat) : Int)) = decide (100 < p.Parts[i].From.length) := by rw [Bool.eq_iff_iff]; simp; omega
  rw [e1]
  cases decide (100 < p.Parts[i].From.length) with
  | true => rfl
  | false =>
   rw [show (false == false) = true from rfl, cond_true, Bool.false_or, Bool.false_or, show decide ((100 : Int) < ((p.Parts[i].Done.length : Nat) : Int)) = decide (100 < p.Parts[i].Done.length) by rw [Bool.eq_iff_iff]; simp; omega]
 ·try dsimp only
  rw [F_clockworkref35_Few_L1, decide_eq_false (by omega), cond_false]
theorem few2 {h : List THeat} (hl : h.length ≤ 40) (J : Option Bool) : F_clockworkref35_Few_L2 h J ((((h.length : Nat) : Int)).toNat + 1) 0 = cond (h.any fun x => decide (100 < x.Key.length)) (some false) J := by
 refine loopAny0 (l := h) (by omega) (L := fun n i => F_clockworkref35_Few_L2 h J n i) (E := some false) (J := J) (by omega) (fun n i hi => ?_) (fun n => ?_)
 ·try dsimp only
  rw [F_clockworkref35_Few_L2, decide_eq_true (by omega), cond_true, req_pos (by omega), atI_nat hi]
  congr 1
  rw [Bool.eq_iff_iff]; simp; omega
 ·try dsimp only
  rw [F_clockworkref35_Few_L2, decide_eq_false (by omega), cond_false]
def longP (x : TPair) : Bool := decide (100 < x.Key.length) || decide (100 < x.Val.S.length)
theorem few4 {l : List TShard} {i : Nat} (hi : i < l.length) (hp : l[i].Pairs.length ≤ 1000) (J : Option Bool) : F_clockworkref35_Few_L4 (i : Int) l J 1000000 0 = cond (l[i].Pairs.any longP) (some false) J := by
 refine loopAny0 (l := l[i].Pairs) (by omega) (L := fun n k => F_clockworkref35_Few_L4 (i : Int) l J n k) (E := some false) (J := J) (by omega) (fun n k hk => ?_) (fun n => ?_)
 ·try dsimp only
  rw [F_clockworkref35_Few_L4, req_pos (by omega), atI_nat hi, decide_eq_true (by omega), cond_true, req_pos (by omega), req_pos (by omega), req_pos (fun _ => by omega), atI_nat hk]
  have e1 : decide ((100 : Int) < ((l[i].Pairs[k].Key.length : Nat) : Int)) = decide (100 < l[i].Pairs[k].Key.length) := by rw [Bool.eq_iff_iff]; simp; omega
  rw [e1]
  unfold longP
  cases decide (100 < l[i].Pairs[k].Key.length) with
  | true => rw [req_pos (fun h => by simp at h)]; rfl
  | false =>
   rw [show (false == false) = true from rfl, cond_true, cond_true, req_pos (fun _ => by omega), atI_nat hk, Bool.false_or, Bool.false_or, show decide ((100 : Int) < ((l[i].Pairs[k].Val.S.length : Nat) : Int)) = decide (100 < l[i].Pairs[k].Val.S.length) by rw [Bool.eq_iff_iff]; simp; omega]
 ·try dsimp only
  rw [F_clockworkref35_Few_L4, req_pos (by omega), atI_nat hi, decide_eq_false (by omega), cond_false]
theorem few3 {l : List TShard} (hl : l.length ≤ 8) (hs : ∀ s ∈ l, s.Pairs.length < 4611686018427387904) (b' : Bool) : ∀ (n i : Nat) (acc : Nat), i ≤ l.length → l.length - i < n → acc ≤ 60 →
  ∃ b, F_clockworkref35_Few_L3 l 60 (some b') n (acc : Int) (i : Int) = some b ∧ (b = true → b' = true ∧ acc + ((l.drop i).flatMap fun s => s.Pairs).length ≤ 60 ∧ ∀ s ∈ l.drop i, (s.Pairs.any longP) = false)
 | 0, i, _, _, h, _ => by omega
 | n + 1, i, acc, h1, h2, h3 => by
  rw [F_clockworkref35_Few_L3]
  rcases Nat.lt_or_ge i l.length with hi | hi
  ·have hb := hs _ (List.getElem_mem hi)
   rw [decide_eq_true (by omega), cond_true, req_pos (by omega), atI_nat hi, w64 (n := (acc : Int) + ((l[i].Pairs.length : Nat) : Int)) (by omega) (by omega)]
   by_cases hm : 60 < acc + l[i].Pairs.length
   ·rw [decide_eq_true (by omega), cond_true]
    exact ⟨false, rfl, fun h => by cases h⟩
   ·rw [decide_eq_false (by omega), cond_false, jn_mk, few4 hi (by omega), wrap_succ (by omega)]
    cases hq : l[i].Pairs.any longP with
    | true => exact ⟨false, rfl, fun h => by cases h⟩
    | false =>
     obtain ⟨b, h4, h5⟩ := few3 hl hs b' n (i + 1) (acc + l[i].Pairs.length) (by omega) (by omega) (by omega)
     refine ⟨b, by rw [cond_false, show ((acc : Int) + ((l[i].Pairs.length : Nat) : Int)) = ((acc + l[i].Pairs.length : Nat) : Int) by omega]; exact h4, fun hbt => ?_⟩
     obtain ⟨h6, h7, h8⟩ := h5 hbt
     refine ⟨h6, ?_, fun s hss => ?_⟩
     ·rw [List.drop_eq_getElem_cons hi, List.flatMap_cons, List.length_append]; omega
     ·rw [List.drop_eq_getElem_cons hi] at hss
      rcases List.mem_cons.1 hss with rfl | hss
      ·exact hq
      ·exact h8 s hss
  ·rw [decide_eq_false (by omega), cond_false]
   refine ⟨b', rfl, fun h => ⟨h, ?_, ?_⟩⟩
   ·rw [List.drop_eq_nil_of_le hi]; simpa using h3
   ·rw [List.drop_eq_nil_of_le hi]; simp
theorem few35 {p : TPlacement} {l : List TShard} {h : List THeat} (hs : ∀ s ∈ l, s.Pairs.length < 4611686018427387904) : ∃ b, F_clockworkref35_Few p l h 60 = some b ∧ (b = true → FewP p l h) := by
 unfold F_clockworkref35_Few
 by_cases hc : p.Parts.length ≤ 20 ∧ l.length ≤ 8 ∧ h.length ≤ 40
 ·rw [show ((decide ((20 : Int) < ((p.Parts.length : Nat) : Int)) || decide ((8 : Int) < ((l.length : Nat) : Int))) || decide ((40 : Int) < ((h.length : Nat) : Int))) = false by simp; omega, cond_false, jn_mk, jn_mk, jn_mk, few1 hc.1, few2 hc.2.2]
  have hin : ∀ (b1 b2 : Bool), cond b2 (some false) (cond b1 (some false) (some true)) = some (!b2 && !b1) := by decide
  rw [hin]
  obtain ⟨b, h1, h2⟩ := few3 hc.2.1 hs (!(h.any fun x => decide (100 < x.Key.length)) && !(p.Parts.any fun x => decide (100 < x.From.length) || decide (100 < x.Done.length))) ((((l.length : Nat) : Int)).toNat + 1) 0 0 (by omega) (by omega) (by omega)
  refine ⟨b, h1, fun hb => ?_⟩
  obtain ⟨h3, h4, h5⟩ := h2 hb
  rw [Bool.and_eq_true, Bool.not_eq_true', Bool.not_eq_true'] at h3
  rw [List.drop_zero] at h4 h5
  refine ⟨hc.1, fun x hx => ?_, hc.2.1, by omega, fun s hss x hx => ?_, hc.2.2, fun x hx => ?_⟩
  ·have := List.any_eq_false.1 h3.2 x hx
   simp at this; omega
  ·have := List.any_eq_false.1 (h5 s hss) x hx
   unfold longP at this
   simp at this; omega
  ·have := List.any_eq_false.1 h3.1 x hx
   simp at this; omega
 ·rw [show ((decide ((20 : Int) < ((p.Parts.length : Nat) : Int)) || decide ((8 : Int) < ((l.length : Nat) : Int))) || decide ((40 : Int) < ((h.length : Nat) : Int))) = true by simp; omega, cond_true]
  exact ⟨false, rfl, fun h => by cases h⟩
end Go.Proofs.YtglnnhmmipopiaaGreat
