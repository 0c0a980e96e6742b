/-
  The law KeysSplitCovers of package keys.
-/
import Derived.Test.YtpmghndhapmlnaaKi
namespace Go.Proofs.Ytpmghndhapmlnaa

theorem split_facts {a b t : List UInt8} (h : splBad a b t = false) : rngL a t = true ∧ rngL t b = true ∧ covL a b a t = true ∧ covL a b t b = true ∧ interV a t t b = .tuple ⟨[RV [] [], .bool false]⟩ ∧ inL2 t b t = true ∧
    ∀ k, inL2 a b k = (inL2 a t k != inL2 t b k) ∧ (inL2 a t k && inL2 t b k) = false := by
  simp only [splBad, Bool.or_eq_false_iff, Bool.not_eq_false', Bool.and_eq_false_iff, bne_eq_false_iff_eq] at h
  obtain ⟨⟨⟨hab, ht⟩, hat⟩, htb⟩ := h
  have htb' : b = [] ∨ sLt t b = true := by
    rcases htb with h | h
    · exact .inl h
    · exact .inr (by simpa using h)
  obtain ⟨ba, bb, _⟩ := rngL_iff.1 hab
  have tne : t ≠ [] := by rintro rfl; rw [sLt_nil] at hat; simp at hat
  have r1 : rngL a t = true := rngL_iff.2 ⟨ba, ht, .inr hat⟩
  have r2 : rngL t b = true := rngL_iff.2 ⟨ht, bb, htb'⟩
  refine ⟨r1, r2, ?_, ?_, ?_, ?_, ?_⟩
  · simp only [covL, r1, if_true, hab, sLt_irrefl, Bool.true_and, Bool.not_false, Bool.or_eq_true, Bool.and_eq_true, beq_iff_eq, bne_iff_ne, ne_eq, Bool.not_eq_true']
    rcases htb' with h | h
    · exact .inl h
    · exact .inr ⟨tne, sLt_asymm h⟩
  · simp only [covL, r2, if_true, hab, sLt_irrefl, sLt_asymm hat, Bool.true_and, Bool.not_false, Bool.or_eq_true, Bool.and_eq_true, beq_iff_eq, bne_iff_ne, ne_eq]
    by_cases hb : b = []
    · exact .inl hb
    · exact .inr ⟨hb, trivial⟩
  · have hl : loK a t = t := by unfold loK; rw [if_pos hat]
    have hh : hiK t b = t := by
      unfold hiK
      rw [if_neg]
      simp only [hiB, Bool.or_eq_true, Bool.and_eq_true, beq_iff_eq, bne_iff_ne, ne_eq, not_or, not_and, Bool.not_eq_true]
      refine ⟨tne, fun hb => ?_⟩
      rcases htb' with h | h
      · exact absurd h hb
      · exact sLt_asymm h
    have hr : rngL t t = false := by
      cases hx : rngL t t with
      | false => rfl
      | true =>
        rcases (rngL_iff.1 hx).2.2 with h | h
        · exact absurd h tne
        · rw [sLt_irrefl] at h; simp at h
    unfold interV
    rw [hl, hh]
    simp [r1, r2, hr]
  · exact inL2_iff.2 ⟨r2, sLt_irrefl t, htb'⟩
  · intro k
    cases hk : sLt k t with
    | true =>
      have e2 : inL2 t b k = false := by simp [inL2, hk]
      have e3 : b = [] ∨ sLt k b = true := htb'.imp id fun h => sLt_trans hk h
      have e1 : inL2 a b k = inL2 a t k := by
        rw [Bool.eq_iff_iff, inL2_iff, inL2_iff]
        exact ⟨fun h => ⟨r1, h.2.1, .inr hk⟩, fun h => ⟨hab, h.2.1, e3⟩⟩
      rw [e1, e2]
      simp
    | false =>
      have e1 : inL2 a t k = false := by
        cases hx : inL2 a t k with
        | false => rfl
        | true =>
          rcases (inL2_iff.1 hx).2.2 with h | h
          · exact absurd h tne
          · rw [hk] at h; simp at h
      have e2 : inL2 a b k = inL2 t b k := by
        rw [Bool.eq_iff_iff, inL2_iff, inL2_iff]
        exact ⟨fun h => ⟨r2, hk, h.2.2⟩, fun h => ⟨hab, sLt_asymm (lt_le hat hk), h.2.2⟩⟩
      rw [e1, e2]
      simp

theorem keysSplitCovers_spec (a b t k : List UInt8) (V : View) : Spec Try.prog 9 [RV a b, S t, S k] V fun _ v => v = .bool true := by
  refine Spec.enter3 (T := tyT) Try.func9 rfl (by kernel_rfl) rfl rfl ?_
  refine Exec.run tyOk 200 rfl ?_
  refine Exec.callS _ rfl rfl (short_spec a b V) ?_
  refine Exec.run tyOk 200 rfl ?_
  refine Exec.cond rfl (fun h => ?_) (fun h => ?_)
  · refine Exec.run tyOk 200 rfl ?_
    refine Exec.callS _ rfl rfl (lives_spec V) ?_
    refine Exec.run tyOk 200 rfl ?_
    exact Exec.ret tyOk rfl rfl rfl
  refine Exec.run tyOk 200 rfl ?_
  cases hbad : splBad a b t with
  | true =>
    have hv : splV a b t = .tuple ⟨[RV [] [], RV [] [], E 1]⟩ := by simp [splV, hbad]
    refine Exec.callS (.tuple ⟨[RV [] [], RV [] [], E 1]⟩) rfl rfl ((split_spec a b t V).cast hv) ?_
    refine Exec.run tyOk 200 rfl ?_
    refine Exec.ifT rfl rfl ?_
    refine Exec.run tyOk 200 rfl ?_
    refine Exec.callS _ rfl rfl (fun _ => lives_spec V) ?_
    refine Exec.run tyOk 200 rfl ?_
    exact Exec.ret tyOk rfl rfl rfl
  | false =>
    have hv : splV a b t = .tuple ⟨[RV a t, RV t b, E 0]⟩ := by simp [splV, hbad]
    obtain ⟨f1, f2, f3, f4, f5, f6, f7⟩ := split_facts hbad
    obtain ⟨g1, g2⟩ := f7 k
    refine Exec.callS (.tuple ⟨[RV a t, RV t b, E 0]⟩) rfl rfl ((split_spec a b t V).cast hv) ?_
    refine Exec.run tyOk 200 rfl ?_
    refine Exec.ifF rfl rfl ?_
    refine Exec.run tyOk 200 rfl ?_
    refine Exec.callS (.bool true) rfl rfl ((validRange_spec a t V).cast (by rw [f1])) ?_
    refine Exec.run tyOk 200 rfl ?_
    refine Exec.callS (.bool true) rfl rfl (fun _ => (validRange_spec t b V).cast (by rw [f2])) ?_
    refine Exec.run tyOk 200 rfl ?_
    refine Exec.callS (.bool true) rfl rfl (fun _ => (covers_spec a b a t V).cast (by rw [f3])) ?_
    refine Exec.run tyOk 200 rfl ?_
    refine Exec.callS (.bool true) rfl rfl (fun _ => (covers_spec a b t b V).cast (by rw [f4])) ?_
    refine Exec.run tyOk 200 rfl ?_
    refine Exec.ifF rfl rfl ?_
    refine Exec.run tyOk 200 rfl ?_
    refine Exec.callS (.tuple ⟨[RV [] [], .bool false]⟩) rfl rfl ((intersect_spec a t t b V).cast f5) ?_
    refine Exec.run tyOk 200 rfl ?_
    refine Exec.draws tyOk [(0, true), (1, true), (2, true), (3, true), (4, true), (6, true), (7, true), (9, true), (10, true), (5, false), (8, false), (11, false), (12, true), (13, true), (14, true), (15, true), (16, true), (17, true), (18, false), (19, true), (20, true), (21, true), (22, false), (23, true), (24, true), (25, true), (26, true), (27, true), (28, true), (29, false), (30, true), (31, true), (32, false), (33, true), (34, true)] rfl (by kernel_rfl) ?_
    refine Exec.run tyOk 200 rfl ?_
    refine Exec.callS _ rfl rfl (fun _ => contains_spec a b k V) ?_
    refine Exec.run tyOk 200 rfl ?_
    refine Exec.callS _ rfl rfl (fun _ => contains_spec a t k V) ?_
    refine Exec.run tyOk 200 rfl ?_
    refine Exec.callS _ rfl rfl (fun _ => contains_spec t b k V) ?_
    refine Exec.run tyOk 200 rfl ?_
    refine Exec.callS _ rfl rfl (fun _ => contains_spec a t k V) ?_
    refine Exec.run tyOk 200 rfl ?_
    refine Exec.callS _ rfl rfl (fun _ _ => contains_spec t b k V) ?_
    refine Exec.run tyOk 200 rfl ?_
    refine Exec.callS (.bool true) rfl rfl (fun _ => (contains_spec t b t V).cast (by rw [f6])) ?_
    refine Exec.run tyOk 200 rfl ?_
    refine Exec.callS _ rfl rfl (fun _ => lives_spec V) ?_
    refine Exec.run tyOk 200 rfl ?_
    refine Exec.ret tyOk rfl rfl ?_
    rw [g1]
    revert g2
    cases inL2 a t k <;> cases inL2 t b k <;> simp [retV]

end Go.Proofs.Ytpmghndhapmlnaa
