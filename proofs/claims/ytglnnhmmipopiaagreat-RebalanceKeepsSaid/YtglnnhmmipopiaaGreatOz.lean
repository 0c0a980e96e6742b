/-
 WHAT SPLIT AND MERGE KEEP (from chapter 29)
 Conditions: none.
-/
import Derived.Test.YtglnnhmmipopiaaGreatOy
set_option linter.all false
namespace Go.Proofs.YtglnnhmmipopiaaGreat
open Go.ChangeShapes
def divL (l : List TPart) (k : Nat) (key : Str) (fresh : Int) : List TPart := (l.take (k + 1) ++ [⟨fresh, key, (ap l k).Node, 0, []⟩]) ++ l.drop (k + 1)
structure DivOk (v : Int) (l : List TPart) (k : Nat) (key : Str) (fresh : Int) : Prop where
 pv : PV v l
 lt : k < l.length
 dest : (ap l k).Dest = 0
 bnd : boundB key = true
 lo : sLt (ap l k).From key = true
 hi : k + 1 < l.length → sLt key (ap l (k + 1)).From = true
 fr : 1 ≤ fresh ∧ fresh ≤ 1099511627776
 new : ∀ i, i < l.length → (ap l i).Id ≠ fresh
 len : l.length < 16
 ver : v < 1099511627776
theorem splitP_cases (p : TPlacement) (id : Int) (key : Str) (fresh : Int) :
  ((splitP p id key fresh).2 ≠ 0 ∧ (splitP p id key fresh).1 = empP) ∨
  ∃ k : Nat, findP p.Parts id = (k : Int) ∧ DivOk p.Version p.Parts k key fresh ∧ splitP p id key fresh = (⟨p.Version + 1, divL p.Parts k key fresh⟩, 0) := by
 unfold splitP
 cases hv : pvB p with
 | false => left; simp
 | true =>
  have pv := pv_iff.1 hv
  simp only [Bool.not_true, cond_false]
  by_cases h : findP p.Parts id < 0
  ·left; simp [h]
  obtain ⟨k, hkk, hkl⟩ := findP_at h
  rw [hkk]
  simp only [show ¬ (k : Int) < 0 by omega, decide_false, cond_false, Int.toNat_natCast]
  change ((cond ((ap p.Parts k).Dest != 0) _ _ : TPlacement × Int).2 ≠ 0 ∧ (cond ((ap p.Parts k).Dest != 0) _ _ : TPlacement × Int).1 = empP) ∨ _
  change (((cond ((ap p.Parts k).Dest != 0) (empP, 19) (cond (((((!boundB key) || (!sLt (ap p.Parts k).From key)) || ((nextF p.Parts k != ([] : Str)) && (!sLt key (nextF p.Parts k)))) || (decide (fresh < 1))) || (decide (1099511627776 < fresh))) (empP, 1)
   (cond (decide (0 ≤ findP p.Parts fresh)) (empP, 8) (cond ((decide ((16 : Int) ≤ (p.Parts.length : Int))) || (decide (1099511627776 ≤ p.Version))) (empP, 2)
    (⟨p.Version + 1, divL p.Parts k key fresh⟩, 0)))) : TPlacement × Int).2 ≠ 0 ∧ (cond ((ap p.Parts k).Dest != 0) (empP, 19) (cond (((((!boundB key) || (!sLt (ap p.Parts k).From key)) || ((nextF p.Parts k != ([] : Str)) && (!sLt key (nextF p.Parts k)))) || (decide (fresh < 1))) || (decide (1099511627776 < fresh))) (empP, 1)
   (cond (decide (0 ≤ findP p.Parts fresh)) (empP, 8) (cond ((decide ((16 : Int) ≤ (p.Parts.length : Int))) || (decide (1099511627776 ≤ p.Version))) (empP, 2)
    (⟨p.Version + 1, divL p.Parts k key fresh⟩, 0)))) : TPlacement × Int).1 = empP) ∨ ∃ k' : Nat, (k : Int) = (k' : Int) ∧ DivOk p.Version p.Parts k' key fresh ∧ (cond ((ap p.Parts k).Dest != 0) (empP, 19) (cond (((((!boundB key) || (!sLt (ap p.Parts k).From key)) || ((nextF p.Parts k != ([] : Str)) && (!sLt key (nextF p.Parts k)))) || (decide (fresh < 1))) || (decide (1099511627776 < fresh))) (empP, 1)
   (cond (decide (0 ≤ findP p.Parts fresh)) (empP, 8) (cond ((decide ((16 : Int) ≤ (p.Parts.length : Int))) || (decide (1099511627776 ≤ p.Version))) (empP, 2)
    (⟨p.Version + 1, divL p.Parts k key fresh⟩, 0)))) : TPlacement × Int) = (⟨p.Version + 1, divL p.Parts k' key fresh⟩, 0))
  cases h1 : ((ap p.Parts k).Dest != 0) with
  | true => left; simp
  | false =>
   simp only [cond_false]
   cases h2 : (((((!boundB key) || (!sLt (ap p.Parts k).From key)) || ((nextF p.Parts k != ([] : Str)) && (!sLt key (nextF p.Parts k)))) || (decide (fresh < 1))) || (decide (1099511627776 < fresh))) with
   | true => left; simp
   | false =>
    simp only [cond_false]
    cases h3 : decide (0 ≤ findP p.Parts fresh) with
    | true => left; simp
    | false =>
     simp only [cond_false]
     cases h4 : ((decide ((16 : Int) ≤ (p.Parts.length : Int))) || (decide (1099511627776 ≤ p.Version))) with
     | true => left; simp
     | false =>
      right
      simp only [Bool.or_eq_false_iff, Bool.not_eq_false', Bool.and_eq_false_iff, decide_eq_false_iff_not, bne_eq_false_iff_eq] at h1 h2 h3 h4
      refine ⟨k, rfl, ⟨pv, hkl, h1, h2.1.1.1.1, h2.1.1.1.2, fun hn => ?_, ⟨by omega, by omega⟩, findP_none.1 (by omega), by omega, by omega⟩, rfl⟩
      rcases h2.1.1.2 with g | g
      ·rw [nextF_eq hn] at g
       have := next_ne hv hn
       exact absurd g this
      ·rw [nextF_eq hn] at g; exact g
section
variable {v : Int} {l : List TPart} {k : Nat} {key : Str} {fresh : Int}
theorem div_len (hk : k < l.length) : (divL l k key fresh).length = l.length + 1 := by
 simp only [divL, List.length_append, List.length_take, List.length_drop, List.length_cons, List.length_nil]; omega
theorem div_ap (hk : k < l.length) (i : Nat) : ap (divL l k key fresh) i = if i ≤ k then ap l i else if i = k + 1 then ⟨fresh, key, (ap l k).Node, 0, []⟩ else ap l (i - 1) := by
 unfold divL
 have h1 : (l.take (k + 1)).length = k + 1 := by simp; omega
 rw [ap_app, ap_app]
 simp only [List.length_append, h1, List.length_cons, List.length_nil]
 by_cases hi : i ≤ k
 ·rw [if_pos (by omega), if_pos (by omega), if_pos hi, ap_take _ (by omega)]
 ·rw [if_neg hi]
  by_cases he : i = k + 1
  ·rw [if_pos he, if_pos (by omega), if_neg (by omega), he, Nat.sub_self]; rfl
  ·rw [if_neg he, if_neg (by omega), ap_drop]
   congr 1; omega
theorem div_next (h : DivOk v l k key fresh) (i : Nat) : nextF (divL l k key fresh) i = if i < k then nextF l i else if i = k then key else nextF l (i - 1) := by
 have hk := h.lt
 by_cases hi : i + 1 < l.length + 1
 ·rw [nextF_eq (by rw [div_len hk]; exact hi), div_ap hk]
  by_cases h1 : i < k
  ·rw [if_pos (by omega), if_pos h1, nextF_eq (by omega)]
  ·rw [if_neg (by omega), if_neg h1]
   by_cases h2 : i = k
   ·rw [if_pos (by omega), if_pos h2]
   ·rw [if_neg (by omega), if_neg h2, nextF_eq (by omega)]
    congr 2; omega
 ·rw [nextF_last (by rw [div_len hk]; omega), if_neg (by omega), if_neg (by omega), nextF_last (by omega)]
theorem div_pv (h : DivOk v l k key fresh) : PV (v + 1) (divL l k key fresh) := by
 have hk := h.lt
 have pv := h.pv
 have hl := div_len (key := key) (fresh := fresh) hk
 have hv := pv.ver
 have hlen := h.len
 have hver := h.ver
 have hA := div_ap (l := l) (key := key) (fresh := fresh) hk
 refine ⟨⟨by omega, by omega⟩, ⟨by omega, by omega⟩, ?_, ?_, ?_, ?_, ?_, ?_, ?_⟩
 ·rw [hA, if_pos (by omega)]; exact pv.head
 ·intro i hi
  rw [hl] at hi
  rw [hA]
  by_cases h1 : i ≤ k
  ·rw [if_pos h1]; exact pv.bnd i (by omega)
  ·rw [if_neg h1]
   by_cases h2 : i = k + 1
   ·rw [if_pos h2]; exact h.bnd
   ·rw [if_neg h2]; exact pv.bnd _ (by omega)
 ·intro i hi
  rw [hl] at hi
  rw [hA, hA]
  by_cases h1 : i + 1 ≤ k
  ·rw [if_pos (by omega), if_pos h1]; exact pv.asc i (by omega)
  ·rw [if_neg h1]
   by_cases h2 : i = k
   ·rw [if_pos (by omega), if_pos (by omega), h2]; exact h.lo
   ·rw [if_neg (by omega), if_neg (by omega : ¬ i + 1 = k + 1)]
    by_cases h3 : i = k + 1
    ·rw [if_pos h3, h3]; exact h.hi (by omega)
    ·rw [if_neg h3]
     have := pv.asc (i - 1) (by omega)
     rwa [show i - 1 + 1 = i + 1 - 1 by omega] at this
 ·intro i hi
  rw [hl] at hi
  rw [hA]
  by_cases h1 : i ≤ k
  ·rw [if_pos h1]; exact pv.id i (by omega)
  ·rw [if_neg h1]
   by_cases h2 : i = k + 1
   ·rw [if_pos h2]; exact h.fr
   ·rw [if_neg h2]; exact pv.id _ (by omega)
 ·intro i hi
  rw [hl] at hi
  rw [hA]
  by_cases h1 : i ≤ k
  ·rw [if_pos h1]; exact pv.node i (by omega)
  ·rw [if_neg h1]
   by_cases h2 : i = k + 1
   ·rw [if_pos h2]; exact pv.node k hk
   ·rw [if_neg h2]; exact pv.node _ (by omega)
 ·intro i hi
  rw [hl] at hi
  rw [hA, div_next h, hl]
  by_cases h1 : i < k
  ·rw [if_pos (by omega), if_pos h1]
   have := pv.mov i (by omega)
   rwa [show decide (i + 1 = l.length) = false by simp; omega, show decide (i + 1 = l.length + 1) = false by simp; omega] at *
  ·rw [if_neg h1]
   by_cases h2 : i = k
   ·rw [if_pos (by omega), if_pos h2, h2]
    exact ⟨fun _ => (pv.mov k hk).done h.dest, fun hn => absurd h.dest hn⟩
   ·rw [if_neg h2, if_neg (by omega)]
    by_cases h3 : i = k + 1
    ·rw [if_pos h3]
     exact ⟨fun _ => rfl, fun hn => absurd rfl hn⟩
    ·rw [if_neg h3]
     have := pv.mov (i - 1) (by omega)
     rwa [show decide (i - 1 + 1 = l.length) = decide (i + 1 = l.length + 1) by congr 1; apply propext; omega] at this
 ·intro i j hj hi
  rw [hl] at hi
  rw [hA, hA]
  by_cases h1 : i ≤ k
  ·rw [if_pos h1, if_pos (by omega)]; exact pv.uniq i j hj (by omega)
  ·rw [if_neg h1]
   by_cases h2 : i = k + 1
   ·rw [if_pos h2, if_pos (by omega)]; exact h.new j (by omega)
   ·rw [if_neg h2]
    by_cases h3 : j ≤ k
    ·rw [if_pos h3]; exact pv.uniq _ _ (by omega) (by omega)
    ·rw [if_neg h3]
     by_cases h4 : j = k + 1
     ·rw [if_pos h4]; exact (h.new _ (by omega)).symm
     ·rw [if_neg h4]; exact pv.uniq _ _ (by omega) (by omega)
theorem div_owner {v2 : Int} (h : DivOk v l k key fresh) (hq : PV v2 (divL l k key fresh)) (s : Str) : ownerP ⟨v2, divL l k key fresh⟩ s = ownerP ⟨v, l⟩ s := by
 have hk := h.lt
 have pv := h.pv
 obtain ⟨j, _, hj⟩ := index_in (p := ⟨v, l⟩) pv s
 have hl := div_len (key := key) (fresh := fresh) hk
 have hA := div_ap (l := l) (key := key) (fresh := fresh) hk
 have hjl := hj.lt
 simp only at hjl
 have hlo := hj.lo
 have hhi := hj.hi
 simp only at hlo hhi
 rw [owner_of (p := ⟨v, l⟩) pv hj]
 by_cases h1 : j < k
 ·rw [owner_of (p := ⟨v2, divL l k key fresh⟩) hq (i := j) ⟨by simp only; omega, by simp only; rw [hA, if_pos (by omega)]; exact hlo, fun _ => by simp only; rw [hA, if_pos (by omega)]; exact hhi (by omega)⟩]
  simp only
  rw [hA, if_pos (by omega)]
 ·by_cases h2 : j = k
  ·subst h2
   by_cases h3 : sLt s key = true
   ·rw [owner_of (p := ⟨v2, divL l j key fresh⟩) hq (i := j) ⟨by simp only; omega, by simp only; rw [hA, if_pos (by omega)]; exact hlo, fun _ => by simp only; rw [hA, if_neg (by omega), if_pos rfl]; exact h3⟩]
    simp only
    rw [hA, if_pos (by omega)]
   ·rw [owner_of (p := ⟨v2, divL l j key fresh⟩) hq (i := j + 1) ⟨by simp only; omega, by simp only; rw [hA, if_neg (by omega), if_pos rfl]; simpa using h3, fun hn => by
     simp only at hn ⊢
     rw [hA, if_neg (by omega), if_neg (by omega)]; exact hhi (by omega)⟩]
    simp only
    rw [hA, if_neg (by omega), if_pos rfl]
    simp [partOwner, h.dest]
  ·rw [owner_of (p := ⟨v2, divL l k key fresh⟩) hq (i := j + 1) ⟨by simp only; omega, by simp only; rw [hA, if_neg (by omega), if_neg (by omega)]; exact hlo, fun hn => by
    simp only at hn ⊢
    rw [hA, if_neg (by omega), if_neg (by omega)]; exact hhi (by omega)⟩]
   simp only
   rw [hA, if_neg (by omega), if_neg (by omega)]
   rfl
end
end Go.Proofs.YtglnnhmmipopiaaGreat
namespace Go.Proofs.YtglnnhmmipopiaaGreat
open Go.ChangeShapes
def joinL (l : List TPart) (k : Nat) : List TPart := l.take (k + 1) ++ l.drop (k + 2)
structure JoinOk (v : Int) (l : List TPart) (k : Nat) : Prop where
 pv : PV v l
 lt : k + 1 < l.length
 dest : (ap l k).Dest = 0
 dest2 : (ap l (k + 1)).Dest = 0
 node : (ap l k).Node = (ap l (k + 1)).Node
 ver : v < 1099511627776
theorem mergeP_ok {p : TPlacement} {id : Int} {k : Nat} (hf : findP p.Parts id = (k : Int)) (h : JoinOk p.Version p.Parts k) : mergeP p id = (⟨p.Version + 1, joinL p.Parts k⟩, 0) := by
 have hv := pv_iff.2 h.pv
 have h1 := h.lt
 have h4 := h.ver
 have hd : (atI p.Parts (k : Int)).Dest = 0 := h.dest
 have hd2 : (atI p.Parts ((k : Int) + 1)).Dest = 0 := h.dest2
 have hn : (atI p.Parts (k : Int)).Node = (atI p.Parts ((k : Int) + 1)).Node := h.node
 unfold mergeP
 rw [hv, hf]
 simp only [Bool.not_true, cond_false, show ¬ (k : Int) < 0 by omega, show ¬ (p.Parts.length : Int) ≤ (k : Int) + 1 by omega, decide_false, Int.toNat_natCast, hd, hd2, bne_self_eq_false, hn, Bool.or_self, show ¬ 1099511627776 ≤ p.Version by omega]
 rfl
theorem mergeP_cases (p : TPlacement) (id : Int) : ((mergeP p id).2 ≠ 0 ∧ (mergeP p id).1 = empP) ∨ ∃ k : Nat, findP p.Parts id = (k : Int) ∧ JoinOk p.Version p.Parts k ∧ mergeP p id = (⟨p.Version + 1, joinL p.Parts k⟩, 0) := by
 by_cases hj : ∃ k : Nat, findP p.Parts id = (k : Int) ∧ JoinOk p.Version p.Parts k
 ·obtain ⟨k, h1, h2⟩ := hj
  exact .inr ⟨k, h1, h2, mergeP_ok h1 h2⟩
 left
 unfold mergeP
 cases hv : pvB p with
 | false => simp
 | true =>
  simp only [Bool.not_true, cond_false]
  cases h1 : (decide (findP p.Parts id < 0) || decide ((p.Parts.length : Int) ≤ findP p.Parts id + 1)) with
  | true => simp
  | false =>
   simp only [cond_false]
   cases h2 : ((((atI p.Parts (findP p.Parts id)).Dest != 0) || ((atI p.Parts (findP p.Parts id + 1)).Dest != 0)) || ((atI p.Parts (findP p.Parts id)).Node != (atI p.Parts (findP p.Parts id + 1)).Node)) with
   | true => simp
   | false =>
    simp only [cond_false]
    cases h3 : (decide (1099511627776 ≤ p.Version)) with
    | true => simp
    | false =>
     exfalso
     simp only [Bool.or_eq_false_iff, decide_eq_false_iff_not, bne_eq_false_iff_eq] at h1 h2 h3
     obtain ⟨k, hk⟩ : ∃ k : Nat, findP p.Parts id = (k : Int) := ⟨(findP p.Parts id).toNat, by omega⟩
     rw [hk] at h1 h2
     exact hj ⟨k, hk, pv_iff.1 hv, by omega, h2.1.1, h2.1.2, h2.2, by omega⟩
section
variable {v : Int} {l : List TPart} {k : Nat}
theorem join_len (hk : k + 1 < l.length) : (joinL l k).length = l.length - 1 := by
 simp only [joinL, List.length_append, List.length_take, List.length_drop]; omega
theorem join_ap (hk : k + 1 < l.length) (i : Nat) : ap (joinL l k) i = if i ≤ k then ap l i else ap l (i + 1) := by
 unfold joinL
 have h1 : (l.take (k + 1)).length = k + 1 := by simp; omega
 rw [ap_app, h1]
 by_cases hi : i ≤ k
 ·rw [if_pos (by omega), if_pos hi, ap_take _ (by omega)]
 ·rw [if_neg (by omega), if_neg hi, ap_drop]
  congr 1; omega
theorem join_next (hk : k + 1 < l.length) (i : Nat) : nextF (joinL l k) i = if i < k then nextF l i else nextF l (i + 1) := by
 by_cases hi : i + 1 < l.length - 1
 ·rw [nextF_eq (by rw [join_len hk]; exact hi), join_ap hk]
  by_cases h1 : i < k
  ·rw [if_pos (by omega), if_pos h1, nextF_eq (by omega)]
  ·rw [if_neg (by omega), if_neg h1, nextF_eq (by omega)]
 ·rw [nextF_last (by rw [join_len hk]; omega), if_neg (by omega), nextF_last (by omega)]
theorem join_pv (h : JoinOk v l k) : PV (v + 1) (joinL l k) := by
 have hk := h.lt
 have pv := h.pv
 have hl := join_len hk
 have hv := pv.ver
 have hlen := pv.len
 have hver := h.ver
 have hA := join_ap hk
 refine ⟨⟨by omega, by omega⟩, ⟨by omega, by omega⟩, ?_, ?_, ?_, ?_, ?_, ?_, ?_⟩
 ·rw [hA, if_pos (by omega)]; exact pv.head
 ·intro i hi
  rw [hA]; split
  ·exact pv.bnd i (by omega)
  ·exact pv.bnd _ (by omega)
 ·intro i hi
  rw [hA, hA]
  by_cases h1 : i + 1 ≤ k
  ·rw [if_pos (by omega), if_pos h1]; exact pv.asc i (by omega)
  ·rw [if_neg h1]
   by_cases h2 : i ≤ k
   ·rw [if_pos h2]; exact pv.asc_lt (by omega) (by omega)
   ·rw [if_neg h2]; exact pv.asc (i + 1) (by omega)
 ·intro i hi
  rw [hA]; split
  ·exact pv.id i (by omega)
  ·exact pv.id _ (by omega)
 ·intro i hi
  rw [hA]; split
  ·exact pv.node i (by omega)
  ·exact pv.node _ (by omega)
 ·intro i hi
  rw [hA, join_next hk, hl]
  by_cases h1 : i < k
  ·rw [if_pos (by omega), if_pos h1]
   have := pv.mov i (by omega)
   rwa [show decide (i + 1 = l.length) = false by simp; omega, show decide (i + 1 = l.length - 1) = false by simp; omega] at *
  ·rw [if_neg h1]
   by_cases h2 : i ≤ k
   ·obtain rfl : i = k := by omega
    rw [if_pos h2]
    exact ⟨fun _ => (pv.mov i (by omega)).done h.dest, fun hn => absurd h.dest hn⟩
   ·rw [if_neg h2]
    have := pv.mov (i + 1) (by omega)
    rwa [show decide (i + 1 + 1 = l.length) = decide (i + 1 = l.length - 1) by congr 1; apply propext; omega] at this
 ·intro i j hj hi
  rw [hA, hA]
  by_cases h1 : i ≤ k
  ·rw [if_pos h1, if_pos (by omega)]; exact pv.uniq i j hj (by omega)
  ·rw [if_neg h1]
   by_cases h3 : j ≤ k
   ·rw [if_pos h3]; exact pv.uniq _ _ (by omega) (by omega)
   ·rw [if_neg h3]; exact pv.uniq _ _ (by omega) (by omega)
theorem join_owner {v2 : Int} (h : JoinOk v l k) (hq : PV v2 (joinL l k)) (s : Str) : ownerP ⟨v2, joinL l k⟩ s = ownerP ⟨v, l⟩ s := by
 have hk := h.lt
 have pv := h.pv
 obtain ⟨j, _, hj⟩ := index_in (p := ⟨v, l⟩) pv s
 have hl := join_len hk
 have hA := join_ap hk
 have hjl := hj.lt
 simp only at hjl
 have hlo := hj.lo
 have hhi := hj.hi
 simp only at hlo hhi
 rw [owner_of (p := ⟨v, l⟩) pv hj]
 by_cases h1 : j ≤ k
 ·rw [owner_of (p := ⟨v2, joinL l k⟩) hq (i := j) ⟨by simp only; omega, by simp only; rw [hA, if_pos h1]; exact hlo, fun hn => by
   simp only at hn ⊢
   rw [hA]
   by_cases h2 : j + 1 ≤ k
   ·rw [if_pos h2]; exact hhi (by omega)
   ·rw [if_neg h2]
    have a := hhi (by omega)
    have b := pv.asc (j + 1) (by omega)
    exact sLt_trans a b⟩]
  simp only
  rw [hA, if_pos h1]
 ·by_cases h2 : j = k + 1
  ·subst h2
   have hlow : sLt s (ap l k).From = false := by
    have a := sLt_asymm' (pv.asc k hk)
    exact le_le_trans a hlo
   rw [owner_of (p := ⟨v2, joinL l k⟩) hq (i := k) ⟨by simp only; omega, by simp only; rw [hA, if_pos (by omega)]; exact hlow, fun hn => by
    simp only at hn ⊢
    rw [hA, if_neg (by omega)]; exact hhi (by omega)⟩]
   simp only
   rw [hA, if_pos (by omega)]
   simp [partOwner, h.dest, h.dest2, h.node]
  ·rw [owner_of (p := ⟨v2, joinL l k⟩) hq (key := s) (i := j - 1) ⟨by simp only; omega, by
    simp only
    rw [hA, if_neg (by omega), show j - 1 + 1 = j by omega]; exact hlo, fun hn => by
    simp only at hn ⊢
    rw [hA, if_neg (by omega)]
    have := hhi (by omega)
    rwa [show j - 1 + 1 + 1 = j + 1 by omega]⟩]
   simp only
   rw [hA, if_neg (by omega), show j - 1 + 1 = j by omega]
end
end Go.Proofs.YtglnnhmmipopiaaGreat
