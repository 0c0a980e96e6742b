/-
  CHAPTER 29, PLAIN: joining partitions; the laws of dividing and joining (part p).
  Conditions: none.
-/
import Derived.Test.YtdkakeiccefbgaaUo
set_option linter.all false
namespace Go.Proofs.Ytdkakeiccefbgaa
open Go.ChangeShapes

theorem splitP_ok {p : TPlacement} {id : Int} {key : Str} {fresh : Int} {k : Nat} (hf : findP p.Parts id = (k : Int)) (h : DivOk p.Version p.Parts k key fresh) : splitP p id key fresh = (⟨p.Version + 1, divL p.Parts k key fresh⟩, 0) := by
  have hv := pv_iff.2 h.pv
  have h1 := h.lt
  have h2 := h.fr
  have h3 := h.len
  have h4 := h.ver
  have h5 : findP p.Parts fresh < 0 := findP_none.2 h.new
  have hd : (atI p.Parts (k : Int)).Dest = 0 := h.dest
  have hlo : sLt (atI p.Parts (k : Int)).From key = true := h.lo
  have hn : ((nextF p.Parts k != ([] : Str)) && (!sLt key (nextF p.Parts k))) = false := by
    by_cases hk : k + 1 < p.Parts.length
    · rw [nextF_eq hk, h.hi hk]; simp
    · rw [nextF_last hk]; simp
  unfold splitP
  rw [hv, hf]
  simp only [Bool.not_true, cond_false, show ¬ (k : Int) < 0 by omega, decide_false, Int.toNat_natCast, hd, bne_self_eq_false, h.bnd, hlo, hn, Bool.or_self, show ¬ fresh < 1 by omega, show ¬ 1099511627776 < fresh by omega, show ¬ 0 ≤ findP p.Parts fresh by omega, show ¬ (16 : Int) ≤ (p.Parts.length : Int) by omega, show ¬ 1099511627776 ≤ p.Version by omega]
  rfl

/-- The partitions behind a joining of partition k and the next one. -/
def joinL (l : List TPart) (k : Nat) : List TPart := l.take (k + 1) ++ l.drop (k + 2)

structure JoinOk (v : Int) (l : List TPart) (k : Nat) : Prop where
  pv : PV v l
  lt : k + 1 < l.length
  dest : (ap l k).Dest = 0
  dest2 : (ap l (k + 1)).Dest = 0
  node : (ap l k).Node = (ap l (k + 1)).Node
  ver : v < 1099511627776

theorem mergeP_ok {p : TPlacement} {id : Int} {k : Nat} (hf : findP p.Parts id = (k : Int)) (h : JoinOk p.Version p.Parts k) : mergeP p id = (⟨p.Version + 1, joinL p.Parts k⟩, 0) := by
  have hv := pv_iff.2 h.pv
  have h1 := h.lt
  have h4 := h.ver
  have hd : (atI p.Parts (k : Int)).Dest = 0 := h.dest
  have hd2 : (atI p.Parts ((k : Int) + 1)).Dest = 0 := h.dest2
  have hn : (atI p.Parts (k : Int)).Node = (atI p.Parts ((k : Int) + 1)).Node := h.node
  unfold mergeP
  rw [hv, hf]
  simp only [Bool.not_true, cond_false, show ¬ (k : Int) < 0 by omega, show ¬ (p.Parts.length : Int) ≤ (k : Int) + 1 by omega, decide_false, Int.toNat_natCast, hd, hd2, bne_self_eq_false, hn, Bool.or_self, show ¬ 1099511627776 ≤ p.Version by omega]
  rfl

theorem mergeP_cases (p : TPlacement) (id : Int) : ((mergeP p id).2 ≠ 0 ∧ (mergeP p id).1 = empP) ∨ ∃ k : Nat, findP p.Parts id = (k : Int) ∧ JoinOk p.Version p.Parts k ∧ mergeP p id = (⟨p.Version + 1, joinL p.Parts k⟩, 0) := by
  by_cases hj : ∃ k : Nat, findP p.Parts id = (k : Int) ∧ JoinOk p.Version p.Parts k
  · obtain ⟨k, h1, h2⟩ := hj
    exact .inr ⟨k, h1, h2, mergeP_ok h1 h2⟩
  left
  unfold mergeP
  cases hv : pvB p with
  | false => simp
  | true =>
    simp only [Bool.not_true, cond_false]
    cases h1 : (decide (findP p.Parts id < 0) || decide ((p.Parts.length : Int) ≤ findP p.Parts id + 1)) with
    | true => simp
    | false =>
      simp only [cond_false]
      cases h2 : ((((atI p.Parts (findP p.Parts id)).Dest != 0) || ((atI p.Parts (findP p.Parts id + 1)).Dest != 0)) || ((atI p.Parts (findP p.Parts id)).Node != (atI p.Parts (findP p.Parts id + 1)).Node)) with
      | true => simp
      | false =>
        simp only [cond_false]
        cases h3 : (decide (1099511627776 ≤ p.Version)) with
        | true => simp
        | false =>
          exfalso
          simp only [Bool.or_eq_false_iff, decide_eq_false_iff_not, bne_eq_false_iff_eq] at h1 h2 h3
          obtain ⟨k, hk⟩ : ∃ k : Nat, findP p.Parts id = (k : Int) := ⟨(findP p.Parts id).toNat, by omega⟩
          rw [hk] at h1 h2
          exact hj ⟨k, hk, pv_iff.1 hv, by omega, h2.1.1, h2.1.2, h2.2, by omega⟩

section
variable {v : Int} {l : List TPart} {k : Nat}

theorem join_len (hk : k + 1 < l.length) : (joinL l k).length = l.length - 1 := by
  simp only [joinL, List.length_append, List.length_take, List.length_drop]; omega

theorem join_ap (hk : k + 1 < l.length) (i : Nat) : ap (joinL l k) i = if i ≤ k then ap l i else ap l (i + 1) := by
  unfold joinL
  have h1 : (l.take (k + 1)).length = k + 1 := by simp; omega
  rw [ap_app, h1]
  by_cases hi : i ≤ k
  · rw [if_pos (by omega), if_pos hi, ap_take _ (by omega)]
  · rw [if_neg (by omega), if_neg hi, ap_drop]
    congr 1; omega

theorem join_next (hk : k + 1 < l.length) (i : Nat) : nextF (joinL l k) i = if i < k then nextF l i else nextF l (i + 1) := by
  by_cases hi : i + 1 < l.length - 1
  · rw [nextF_eq (by rw [join_len hk]; exact hi), join_ap hk]
    by_cases h1 : i < k
    · rw [if_pos (by omega), if_pos h1, nextF_eq (by omega)]
    · rw [if_neg (by omega), if_neg h1, nextF_eq (by omega)]
  · rw [nextF_last (by rw [join_len hk]; omega), if_neg (by omega), nextF_last (by omega)]

theorem join_pv (h : JoinOk v l k) : PV (v + 1) (joinL l k) := by
  have hk := h.lt
  have pv := h.pv
  have hl := join_len hk
  have hv := pv.ver
  have hlen := pv.len
  have hver := h.ver
  have hA := join_ap hk
  refine ⟨⟨by omega, by omega⟩, ⟨by omega, by omega⟩, ?_, ?_, ?_, ?_, ?_, ?_, ?_⟩
  · rw [hA, if_pos (by omega)]; exact pv.head
  · intro i hi
    rw [hA]; split
    · exact pv.bnd i (by omega)
    · exact pv.bnd _ (by omega)
  · intro i hi
    rw [hA, hA]
    by_cases h1 : i + 1 ≤ k
    · rw [if_pos (by omega), if_pos h1]; exact pv.asc i (by omega)
    · rw [if_neg h1]
      by_cases h2 : i ≤ k
      · rw [if_pos h2]; exact pv.asc_lt (by omega) (by omega)
      · rw [if_neg h2]; exact pv.asc (i + 1) (by omega)
  · intro i hi
    rw [hA]; split
    · exact pv.id i (by omega)
    · exact pv.id _ (by omega)
  · intro i hi
    rw [hA]; split
    · exact pv.node i (by omega)
    · exact pv.node _ (by omega)
  · intro i hi
    rw [hA, join_next hk, hl]
    by_cases h1 : i < k
    · rw [if_pos (by omega), if_pos h1]
      have := pv.mov i (by omega)
      rwa [show decide (i + 1 = l.length) = false by simp; omega, show decide (i + 1 = l.length - 1) = false by simp; omega] at *
    · rw [if_neg h1]
      by_cases h2 : i ≤ k
      · obtain rfl : i = k := by omega
        rw [if_pos h2]
        exact ⟨fun _ => (pv.mov i (by omega)).done h.dest, fun hn => absurd h.dest hn⟩
      · rw [if_neg h2]
        have := pv.mov (i + 1) (by omega)
        rwa [show decide (i + 1 + 1 = l.length) = decide (i + 1 = l.length - 1) by congr 1; apply propext; omega] at this
  · intro i j hj hi
    rw [hA, hA]
    by_cases h1 : i ≤ k
    · rw [if_pos h1, if_pos (by omega)]; exact pv.uniq i j hj (by omega)
    · rw [if_neg h1]
      by_cases h3 : j ≤ k
      · rw [if_pos h3]; exact pv.uniq _ _ (by omega) (by omega)
      · rw [if_neg h3]; exact pv.uniq _ _ (by omega) (by omega)

theorem join_owner {v2 : Int} (h : JoinOk v l k) (hq : PV v2 (joinL l k)) (s : Str) : ownerP ⟨v2, joinL l k⟩ s = ownerP ⟨v, l⟩ s := by
  have hk := h.lt
  have pv := h.pv
  obtain ⟨j, _, hj⟩ := index_in (p := ⟨v, l⟩) pv s
  have hl := join_len hk
  have hA := join_ap hk
  have hjl := hj.lt
  simp only at hjl
  have hlo := hj.lo
  have hhi := hj.hi
  simp only at hlo hhi
  rw [owner_of (p := ⟨v, l⟩) pv hj]
  by_cases h1 : j ≤ k
  · rw [owner_of (p := ⟨v2, joinL l k⟩) hq (i := j) ⟨by simp only; omega, by simp only; rw [hA, if_pos h1]; exact hlo, fun hn => by
      simp only at hn ⊢
      rw [hA]
      by_cases h2 : j + 1 ≤ k
      · rw [if_pos h2]; exact hhi (by omega)
      · rw [if_neg h2]
        have a := hhi (by omega)
        have b := pv.asc (j + 1) (by omega)
        exact sLt_trans a b⟩]
    simp only
    rw [hA, if_pos h1]
  · by_cases h2 : j = k + 1
    · subst h2
      have hlow : sLt s (ap l k).From = false := by
        have a := sLt_asymm' (pv.asc k hk)
        exact le_le_trans a hlo
      rw [owner_of (p := ⟨v2, joinL l k⟩) hq (i := k) ⟨by simp only; omega, by simp only; rw [hA, if_pos (by omega)]; exact hlow, fun hn => by
        simp only at hn ⊢
        rw [hA, if_neg (by omega)]; exact hhi (by omega)⟩]
      simp only
      rw [hA, if_pos (by omega)]
      simp [partOwner, h.dest, h.dest2, h.node]
    · rw [owner_of (p := ⟨v2, joinL l k⟩) hq (key := s) (i := j - 1) ⟨by simp only; omega, by
        simp only
        rw [hA, if_neg (by omega), show j - 1 + 1 = j by omega]; exact hlo, fun hn => by
        simp only at hn ⊢
        rw [hA, if_neg (by omega)]
        have := hhi (by omega)
        rwa [show j - 1 + 1 + 1 = j + 1 by omega]⟩]
      simp only
      rw [hA, if_neg (by omega), show j - 1 + 1 = j by omega]

theorem join_nodes {v2 : Int} (h : JoinOk v l k) (hq : PV v2 (joinL l k)) : nodesRefP ⟨v2, joinL l k⟩ = nodesRefP ⟨v, l⟩ := by
  have hk := h.lt
  have hl := join_len hk
  have hA := join_ap hk
  refine asc_ext (nodes_asc _) (nodes_asc _) fun x => ?_
  rw [nodes_mem (p := ⟨v2, joinL l k⟩) hq, nodes_mem (p := ⟨v, l⟩) h.pv]
  simp only [hl]
  constructor
  · rintro ⟨a, b, i, hi, c⟩
    refine ⟨a, b, ?_⟩
    rw [hA] at c
    by_cases h1 : i ≤ k
    · rw [if_pos h1] at c; exact ⟨i, by omega, c⟩
    · rw [if_neg h1] at c; exact ⟨i + 1, by omega, c⟩
  · rintro ⟨a, b, i, hi, c⟩
    refine ⟨a, b, ?_⟩
    by_cases h1 : i ≤ k
    · exact ⟨i, by omega, by rw [hA, if_pos h1]; exact c⟩
    · by_cases h2 : i = k + 1
      · subst h2
        refine ⟨k, by omega, ?_⟩
        rw [hA, if_pos (by omega)]
        rcases c with c | c
        · exact .inl (h.node.trans c)
        · rw [h.dest2] at c; omega
      · exact ⟨i - 1, by omega, by rw [hA, if_neg (by omega), show i - 1 + 1 = i by omega]; exact c⟩

theorem join_div {key : Str} {fresh : Int} (h : DivOk v l k key fresh) : joinL (divL l k key fresh) k = l := by
  have hk := h.lt
  have h1 : (l.take (k + 1)).length = k + 1 := by simp; omega
  unfold joinL divL
  rw [List.append_assoc, List.take_left' h1]
  have : (l.take (k + 1) ++ (([⟨fresh, key, (ap l k).Node, 0, []⟩] : List TPart) ++ l.drop (k + 1))).drop (k + 2) = l.drop (k + 1) := by
    rw [List.drop_append, h1, List.drop_of_length_le (by omega)]
    rw [show k + 2 - (k + 1) = 1 by omega]
    rfl
  rw [this, List.take_append_drop]

theorem div_join (h : JoinOk v l k) : divL (joinL l k) k (ap l (k + 1)).From (ap l (k + 1)).Id = l := by
  have hk := h.lt
  have hA := join_ap hk
  have hl := join_len hk
  refine ap_ext ?_ fun i hi => ?_
  · rw [div_len (by omega)]; omega
  · rw [div_len (by omega)] at hi
    rw [div_ap (by omega)]
    by_cases h1 : i ≤ k
    · rw [if_pos h1, hA, if_pos h1]
    · rw [if_neg h1]
      by_cases h2 : i = k + 1
      · rw [if_pos h2, h2, hA, if_pos (Nat.le_refl _), h.node]
        have hd := h.dest2
        have hdn := (h.pv.mov (k + 1) hk).done hd
        rw [← hd, ← hdn]
      · rw [if_neg h2, hA, if_neg (by omega), show i - 1 + 1 = i by omega]

end
end Go.Proofs.Ytdkakeiccefbgaa
