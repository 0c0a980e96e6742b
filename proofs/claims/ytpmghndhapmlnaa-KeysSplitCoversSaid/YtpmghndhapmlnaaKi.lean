/-
  The law KeysPrefixes of package keys.
-/
import Derived.Test.YtpmghndhapmlnaaKh
namespace Go.Proofs.Ytpmghndhapmlnaa

theorem succ_toNat {c : UInt8} (h : c.toNat ≤ 200) : (c + 1).toNat = c.toNat + 1 := by
  rw [UInt8.toNat_add]
  simp
  omega

theorem pre_iff {c : UInt8} (hc : c.toNat ≤ 200) : ∀ (q k : List UInt8), (sLt k (q ++ [c]) = false ∧ sLt k (q ++ [c + 1]) = true) ↔ k.take (q.length + 1) = q ++ [c]
  | [], [] => by simp [sLt, Op.bytesLess]
  | [], x :: t => by
    simp only [List.nil_append, sLt_cons, sLt_nil, succ_toNat hc, Bool.and_false, Bool.or_false, decide_eq_false_iff_not, decide_eq_true_eq, List.length_nil, Nat.zero_add, List.take_succ_cons, List.take_zero, List.cons.injEq, and_true]
    rw [← UInt8.toNat_inj]
    omega
  | y :: q, [] => by simp [sLt, Op.bytesLess]
  | y :: q, x :: t => by
    have ih := pre_iff hc q t
    simp only [List.cons_append, sLt_cons, List.length_cons, List.take_succ_cons, List.cons.injEq, ← ih, Bool.or_eq_false_iff, Bool.and_eq_false_iff, Bool.or_eq_true, Bool.and_eq_true, decide_eq_true_eq, decide_eq_false_iff_not]
    rw [← UInt8.toNat_inj]
    constructor
    · rintro ⟨⟨h1, h2⟩, h3⟩
      rcases h3 with h3 | ⟨h3, h4⟩
      · exact absurd h3 h1
      · rcases h2 with h2 | h2
        · exact absurd h3 h2
        · exact ⟨h3, h2, h4⟩
    · rintro ⟨h1, h2, h3⟩
      exact ⟨⟨by omega, .inr h2⟩, .inr ⟨h1, h3⟩⟩

theorem key_split {l : List UInt8} (h : keyL l = true) : ∃ q c, l = q ++ [c] ∧ nextK l = q ++ [c + 1] ∧ c.toNat ≤ 122 ∧ 45 ≤ c.toNat ∧ bndL l = true ∧ bndL (nextK l) = true := by
  obtain ⟨h1, h24⟩ := keyL_len h
  have hne : l ≠ [] := by intro e; rw [e] at h1; simp at h1
  have hl := List.dropLast_concat_getLast hne
  have hq : l.take (l.length - 1) = l.dropLast := by rw [List.dropLast_eq_take]
  have hlast : l[l.length - 1]?.getD 0 = l.getLast hne := by
    rw [List.getLast_eq_getElem, List.getElem?_eq_getElem (by omega)]
    rfl
  simp only [keyL, consists, Bool.and_eq_true, List.all_eq_true] at h
  have hall := h.2.2
  have hb : ∀ x : UInt8, keyB x.toNat = true → bndB x.toNat = true ∧ 45 ≤ x.toNat ∧ x.toNat ≤ 122 := by
    intro x hx
    simp only [keyB, bndB, Bool.or_eq_true, Bool.and_eq_true, decide_eq_true_eq, beq_iff_eq] at hx ⊢
    omega
  have hc := hb _ (hall _ (List.getLast_mem hne))
  have hn : nextK l = l.dropLast ++ [l.getLast hne + 1] := by
    unfold nextK lastI
    rw [hq, hlast]
  refine ⟨l.dropLast, l.getLast hne, hl.symm, hn, hc.2.2, hc.2.1, ?_, ?_⟩
  · simp only [bndL, consists, Bool.and_eq_true, decide_eq_true_eq, List.all_eq_true]
    exact ⟨h24, fun x hx => (hb x (hall x hx)).1⟩
  · rw [hn]
    simp only [bndL, consists, Bool.and_eq_true, decide_eq_true_eq, List.all_eq_true]
    refine ⟨by simp; omega, fun x hx => ?_⟩
    rcases List.mem_append.1 hx with hx | hx
    · exact (hb x (hall x (List.dropLast_subset _ hx))).1
    · simp only [List.mem_singleton] at hx
      subst hx
      rw [succ_toNat (by omega)]
      simp only [bndB, Bool.and_eq_true, decide_eq_true_eq]
      omega

def begins (k p : List UInt8) : Bool := decide ((p.length : Int) ≤ k.length) && k.take p.length == p

theorem begins_eq (k p : List UInt8) : begins k p = (k.take p.length == p) := by
  unfold begins
  cases h : k.take p.length == p with
  | false => simp
  | true =>
    have : k.take p.length = p := by simpa using h
    have h2 := congrArg List.length this
    simp only [List.length_take] at h2
    simp
    omega

theorem pref_law (p k : List UInt8) : ∃ x y n, prefV p = .tuple ⟨[RV x y, E n]⟩ ∧ (n = 0 → inL2 x y k = begins k p) := by
  unfold prefV
  split
  · rename_i h
    have : p = [] := by simpa using h
    subst this
    refine ⟨_, _, _, rfl, fun _ => ?_⟩
    have h0 : sLt k [] = false := sLt_nil k
    rw [begins_eq]
    simp [inL2, rngL, bndL, consists, h0]
  · split
    · rename_i hk
      refine ⟨_, _, _, rfl, fun _ => ?_⟩
      obtain ⟨q, c, e1, e2, hc, hc', b1, b2⟩ := key_split hk
      have hpre := pre_iff (c := c) (by omega) q
      have hlt : sLt p (nextK p) = true := by
        rw [e2]
        refine ((hpre p).2 ?_).2
        rw [e1]
        simp [List.take_of_length_le]
      have hne : nextK p ≠ [] := by rw [e2]; simp
      rw [begins_eq, Bool.eq_iff_iff, inL2_iff]
      simp only [Inn, rngL_iff, b1, b2, hlt, hne, false_or, true_and, beq_iff_eq, and_self, or_true]
      rw [e2]
      have hlen : p.length = q.length + 1 := by rw [e1]; simp
      rw [hlen]
      conv => lhs; rw [show sLt k p = sLt k (q ++ [c]) from by rw [e1]]
      conv => rhs; rw [show p = q ++ [c] from e1]
      exact hpre k
    · exact ⟨_, _, _, rfl, fun h => by simp at h⟩

theorem keysPrefixes_spec (p k : List UInt8) (V : View) : Spec Try.prog 5 [S p, S k] V fun _ v => v = .bool true := by
  refine Spec.enter2 (T := tyT) Try.func5 rfl (by kernel_rfl) rfl rfl ?_
  refine Exec.run tyOk 200 rfl ?_
  refine Exec.cond rfl (fun h => ?_) (fun h => ?_)
  · refine Exec.run tyOk 200 rfl ?_
    refine Exec.callS _ rfl rfl (lives_spec V) ?_
    refine Exec.run tyOk 200 rfl ?_
    exact Exec.ret tyOk rfl rfl rfl
  · simp only [Bool.or_eq_false_iff, decide_eq_false_iff_not] at h
    have hp : p.length ≤ 1000 := by omega
    obtain ⟨x, y, n, hv, hl⟩ := pref_law p k
    refine Exec.run tyOk 200 rfl ?_
    refine Exec.callS (.tuple ⟨[RV x y, E n]⟩) rfl rfl ((prefix_spec p V).cast hv) ?_
    refine Exec.run tyOk 200 rfl ?_
    refine Exec.callS (.tuple ⟨[RV x y, E n]⟩) rfl rfl ((rPrefix_spec p V hp).cast hv) ?_
    refine Exec.run tyOk 200 rfl ?_
    refine Exec.ifF rfl (by simp) ?_
    refine Exec.run tyOk 200 rfl ?_
    refine Exec.ssl tyOk (r := k.take p.length) rfl rfl (fun hg => by simp only [decide_eq_true_eq] at hg; simp only [loN, hiN]; exact ⟨by omega, by omega, by omega⟩) (by simp [loN, hiN]) ?_
    refine Exec.run tyOk 200 rfl ?_
    refine Exec.callS _ rfl rfl (fun _ => contains_spec x y k V) ?_
    refine Exec.run tyOk 200 rfl ?_
    refine Exec.callS _ rfl rfl (fun _ => lives_spec V) ?_
    refine Exec.run tyOk 200 rfl ?_
    refine Exec.ret tyOk rfl rfl ?_
    by_cases hn : n = 0
    · have hb := hl hn
      subst hn
      rw [hb]
      simp [retV, begins]
    · simp [retV, hn]

end Go.Proofs.Ytpmghndhapmlnaa
