/-
  The reference of Intersect; the laws KeysCovers and KeysIntersects of package keys.
-/
import Derived.Test.YtpmghndhapmlnaaKg
namespace Go.Proofs.Ytpmghndhapmlnaa

theorem lo_len {a c : List UInt8} (ha : a.length ≤ 1000) (hc : c.length ≤ 1000) : (loK a c).length ≤ 1000 := by
  unfold loK
  split
  · exact hc
  · exact ha

theorem rIntersect_spec (a b c d : List UInt8) (V : View) (ha : a.length ≤ 1000) (hb : b.length ≤ 1000) (hc : c.length ≤ 1000) (hd : d.length ≤ 1000) :
    Spec Try.prog 27 [RV a b, RV c d] V fun _ v => v = interV a b c d := by
  refine Spec.enter2 (T := tyT) Try.func27 rfl (by kernel_rfl) rfl rfl ?_
  refine Exec.run tyOk 200 rfl ?_
  refine Exec.callS _ rfl rfl (rValidRange_spec a b V ha hb) ?_
  refine Exec.run tyOk 200 rfl ?_
  refine Exec.callS _ rfl rfl (fun _ => rValidRange_spec c d V hc hd) ?_
  refine Exec.run tyOk 200 rfl ?_
  refine Exec.cond rfl (fun h => ?_) (fun h => ?_)
  · refine Exec.run tyOk 200 rfl ?_
    refine Exec.ret tyOk rfl rfl ?_
    have : (!rngL a b || !rngL c d) = true := h
    simp only [interV, this, if_true]
    rfl
  have h0 : (!rngL a b || !rngL c d) = false := h
  refine Exec.run tyOk 200 rfl ?_
  refine Exec.cond rfl (fun h => ?_) (fun h => ?_)
  · have hl : loK a c = c := by unfold loK; rw [if_pos (show sLt a c = true from h)]
    refine Exec.run tyOk 200 rfl ?_
    refine Exec.cond rfl (fun h => ?_) (fun h => ?_)
    · have hh : hiK b d = d := by unfold hiK; rw [if_pos (show hiB b d = true from h)]
      refine Exec.run tyOk 200 rfl ?_
      refine Exec.callS _ rfl rfl (rValidRange_spec c d V hc hd) ?_
      refine Exec.run tyOk 200 rfl ?_
      refine Exec.cond rfl (fun h => ?_) (fun h => ?_)
      · refine Exec.run tyOk 200 rfl ?_
        refine Exec.ret tyOk rfl rfl ?_
        have hr : rngL c d = false := by simpa using h
        show retV _ = interV a b c d
        unfold interV
        rw [hl, hh, h0]
        simp only [hr, Bool.false_eq_true, if_false]
        rfl
      · refine Exec.run tyOk 200 rfl ?_
        refine Exec.ret tyOk rfl rfl ?_
        have hr : rngL c d = true := by simpa using h
        show retV _ = interV a b c d
        unfold interV
        rw [hl, hh, h0]
        simp only [hr, Bool.false_eq_true, if_false, if_true]
        rfl
    · have hh : hiK b d = b := by unfold hiK; rw [if_neg (by rw [show hiB b d = false from h]; simp)]
      refine Exec.run tyOk 200 rfl ?_
      refine Exec.callS _ rfl rfl (rValidRange_spec c b V hc hb) ?_
      refine Exec.run tyOk 200 rfl ?_
      refine Exec.cond rfl (fun h => ?_) (fun h => ?_)
      · refine Exec.run tyOk 200 rfl ?_
        refine Exec.ret tyOk rfl rfl ?_
        have hr : rngL c b = false := by simpa using h
        show retV _ = interV a b c d
        unfold interV
        rw [hl, hh, h0]
        simp only [hr, Bool.false_eq_true, if_false]
        rfl
      · refine Exec.run tyOk 200 rfl ?_
        refine Exec.ret tyOk rfl rfl ?_
        have hr : rngL c b = true := by simpa using h
        show retV _ = interV a b c d
        unfold interV
        rw [hl, hh, h0]
        simp only [hr, Bool.false_eq_true, if_false, if_true]
        rfl
  · have hl : loK a c = a := by unfold loK; rw [if_neg (by rw [show sLt a c = false from h]; simp)]
    refine Exec.run tyOk 200 rfl ?_
    refine Exec.cond rfl (fun h => ?_) (fun h => ?_)
    · have hh : hiK b d = d := by unfold hiK; rw [if_pos (show hiB b d = true from h)]
      refine Exec.run tyOk 200 rfl ?_
      refine Exec.callS _ rfl rfl (rValidRange_spec a d V ha hd) ?_
      refine Exec.run tyOk 200 rfl ?_
      refine Exec.cond rfl (fun h => ?_) (fun h => ?_)
      · refine Exec.run tyOk 200 rfl ?_
        refine Exec.ret tyOk rfl rfl ?_
        have hr : rngL a d = false := by simpa using h
        show retV _ = interV a b c d
        unfold interV
        rw [hl, hh, h0]
        simp only [hr, Bool.false_eq_true, if_false]
        rfl
      · refine Exec.run tyOk 200 rfl ?_
        refine Exec.ret tyOk rfl rfl ?_
        have hr : rngL a d = true := by simpa using h
        show retV _ = interV a b c d
        unfold interV
        rw [hl, hh, h0]
        simp only [hr, Bool.false_eq_true, if_false, if_true]
        rfl
    · have hh : hiK b d = b := by unfold hiK; rw [if_neg (by rw [show hiB b d = false from h]; simp)]
      refine Exec.run tyOk 200 rfl ?_
      refine Exec.callS _ rfl rfl (rValidRange_spec a b V ha hb) ?_
      refine Exec.run tyOk 200 rfl ?_
      refine Exec.cond rfl (fun h => ?_) (fun h => ?_)
      · refine Exec.run tyOk 200 rfl ?_
        refine Exec.ret tyOk rfl rfl ?_
        have hr : rngL a b = false := by simpa using h
        show retV _ = interV a b c d
        unfold interV
        rw [hl, hh, h0]
        simp only [hr, Bool.false_eq_true, if_false]
        rfl
      · refine Exec.run tyOk 200 rfl ?_
        refine Exec.ret tyOk rfl rfl ?_
        have hr : rngL a b = true := by simpa using h
        show retV _ = interV a b c d
        unfold interV
        rw [hl, hh, h0]
        simp only [hr, Bool.false_eq_true, if_false, if_true]
        rfl

/-! ### Plain laws of ranges -/

def Inn (a b k : List UInt8) : Prop := rngL a b = true ∧ sLt k a = false ∧ (b = [] ∨ sLt k b = true)

theorem inL2_iff {a b k : List UInt8} : inL2 a b k = true ↔ Inn a b k := by
  simp [inL2, Inn, and_assoc]

theorem sLt_asymm {a b : List UInt8} (h : sLt a b = true) : sLt b a = false := by
  cases hb : sLt b a with
  | false => rfl
  | true =>
    have := sLt_trans h hb
    rw [sLt_irrefl] at this
    simp at this

theorem covers_law {a b c d k : List UInt8} (h1 : covL a b c d = true) (h2 : inL2 c d k = true) : inL2 a b k = true := by
  rw [inL2_iff] at h2 ⊢
  obtain ⟨hr, hk1, hk2⟩ := h2
  simp only [covL, hr, if_true, Bool.and_eq_true, Bool.or_eq_true, Bool.not_eq_true', beq_iff_eq, bne_iff_ne, ne_eq] at h1
  obtain ⟨⟨ra, hca⟩, hb⟩ := h1
  refine ⟨ra, le_le hca hk1, ?_⟩
  rcases hb with hb | ⟨hd, hbd⟩
  · exact .inl hb
  · rcases hk2 with hk2 | hk2
    · exact absurd hk2 hd
    · exact .inr (lt_le hk2 hbd)

theorem rngL_iff {a b : List UInt8} : rngL a b = true ↔ bndL a = true ∧ bndL b = true ∧ (b = [] ∨ sLt a b = true) := by
  simp [rngL, and_assoc]

theorem lo_iff {a c k : List UInt8} : sLt k (loK a c) = false ↔ sLt k a = false ∧ sLt k c = false := by
  unfold loK
  split
  · rename_i h
    refine ⟨fun hk => ⟨?_, hk⟩, fun hk => hk.2⟩
    exact sLt_asymm (lt_le h hk)
  · rename_i h
    have h : sLt a c = false := by simpa using h
    exact ⟨fun hk => ⟨hk, le_le h hk⟩, fun hk => hk.1⟩

theorem hi_iff {b d k : List UInt8} : (hiK b d = [] ∨ sLt k (hiK b d) = true) ↔ (b = [] ∨ sLt k b = true) ∧ (d = [] ∨ sLt k d = true) := by
  unfold hiK
  split
  · rename_i h
    simp only [hiB, Bool.or_eq_true, Bool.and_eq_true, beq_iff_eq, bne_iff_ne, ne_eq] at h
    refine ⟨fun hk => ⟨?_, hk⟩, fun hk => hk.2⟩
    rcases h with h | ⟨h, h'⟩
    · exact .inl h
    · rcases hk with hk | hk
      · exact absurd hk h
      · exact .inr (sLt_trans hk h')
  · rename_i h
    simp only [hiB, Bool.or_eq_true, Bool.and_eq_true, beq_iff_eq, bne_iff_ne, ne_eq, not_or, not_and, Bool.not_eq_true] at h
    refine ⟨fun hk => ⟨hk, ?_⟩, fun hk => hk.1⟩
    by_cases hd : d = []
    · exact .inl hd
    · rcases hk with hk | hk
      · exact absurd hk h.1
      · exact .inr (lt_le hk (h.2 hd))

theorem bnd_lo {a c : List UInt8} (h1 : bndL a = true) (h2 : bndL c = true) : bndL (loK a c) = true := by
  unfold loK; split <;> assumption
theorem bnd_hi {b d : List UInt8} (h1 : bndL b = true) (h2 : bndL d = true) : bndL (hiK b d) = true := by
  unfold hiK; split <;> assumption

theorem inter_law (a b c d k : List UInt8) : ∃ x y ok, interV a b c d = .tuple ⟨[RV x y, .bool ok]⟩ ∧ (inL2 a b k && inL2 c d k) = (ok && inL2 x y k) := by
  unfold interV
  split
  · rename_i h
    refine ⟨[], [], false, rfl, ?_⟩
    simp only [Bool.or_eq_true, Bool.not_eq_true'] at h
    rcases h with h | h <;> simp [inL2, h]
  · rename_i h
    simp only [Bool.or_eq_true, Bool.not_eq_true', not_or, Bool.not_eq_false] at h
    obtain ⟨ra, rc⟩ := h
    obtain ⟨b1, b2, b3⟩ := rngL_iff.1 ra
    obtain ⟨c1, c2, c3⟩ := rngL_iff.1 rc
    split
    · rename_i hr
      refine ⟨_, _, true, rfl, ?_⟩
      rw [Bool.eq_iff_iff]
      simp only [Bool.and_eq_true, inL2_iff, Inn, ra, rc, hr, true_and, lo_iff, hi_iff]
      constructor
      · rintro ⟨⟨g1, g2⟩, g3, g4⟩; exact ⟨⟨g1, g3⟩, g2, g4⟩
      · rintro ⟨⟨g1, g3⟩, g2, g4⟩; exact ⟨⟨g1, g2⟩, g3, g4⟩
    · rename_i hr
      refine ⟨[], [], false, rfl, ?_⟩
      rw [Bool.false_and]
      cases hx : (inL2 a b k && inL2 c d k) with
      | false => rfl
      | true =>
      exfalso
      rw [Bool.and_eq_true, inL2_iff, inL2_iff] at hx
      obtain ⟨⟨_, g1, g2⟩, _, g3, g4⟩ := hx
      apply hr
      refine rngL_iff.2 ⟨bnd_lo b1 c1, bnd_hi b2 c2, ?_⟩
      rcases hi_iff.2 ⟨g2, g4⟩ with h | h
      · exact .inl h
      · exact .inr (le_lt (lo_iff.2 ⟨g1, g3⟩) h)

/-! ### The laws -/

theorem keysCovers_spec (a b c d k : List UInt8) (V : View) : Spec Try.prog 6 [RV a b, RV c d, S k] V fun _ v => v = .bool true := by
  refine Spec.enter3 (T := tyT) Try.func6 rfl (by kernel_rfl) rfl rfl ?_
  refine Exec.run tyOk 200 rfl ?_
  refine Exec.callS _ rfl rfl (short_spec a b V) ?_
  refine Exec.run tyOk 200 rfl ?_
  refine Exec.callS _ rfl rfl (fun _ => short_spec c d V) ?_
  refine Exec.run tyOk 200 rfl ?_
  refine Exec.cond rfl (fun h => ?_) (fun h => ?_)
  · refine Exec.run tyOk 200 rfl ?_
    refine Exec.callS _ rfl rfl (lives_spec V) ?_
    refine Exec.run tyOk 200 rfl ?_
    exact Exec.ret tyOk rfl rfl rfl
  · simp only [Bool.or_eq_false_iff, Bool.not_eq_false', decide_eq_false_iff_not] at h
    obtain ⟨ha, hb⟩ := short_len h.1.1
    obtain ⟨hc, hd⟩ := short_len h.1.2
    refine Exec.run tyOk 200 rfl ?_
    refine Exec.callS _ rfl rfl (covers_spec a b c d V) ?_
    refine Exec.run tyOk 200 rfl ?_
    refine Exec.callS _ rfl rfl (rCovers_spec a b c d V ha hb hc hd) ?_
    refine Exec.run tyOk 200 rfl ?_
    refine Exec.callS _ rfl rfl (fun _ _ => contains_spec c d k V) ?_
    refine Exec.run tyOk 200 rfl ?_
    refine Exec.callS _ rfl rfl (fun _ _ => contains_spec a b k V) ?_
    refine Exec.run tyOk 200 rfl ?_
    refine Exec.callS _ rfl rfl (fun _ => lives_spec V) ?_
    refine Exec.run tyOk 200 rfl ?_
    refine Exec.ret tyOk rfl rfl ?_
    have hp := covers_law (a := a) (b := b) (c := c) (d := d) (k := k)
    cases h1 : covL a b c d <;> cases h2 : inL2 c d k <;> cases h3 : inL2 a b k <;> simp_all [retV]

theorem keysIntersects_spec (a b c d k : List UInt8) (V : View) : Spec Try.prog 8 [RV a b, RV c d, S k] V fun _ v => v = .bool true := by
  refine Spec.enter3 (T := tyT) Try.func8 rfl (by kernel_rfl) rfl rfl ?_
  refine Exec.run tyOk 200 rfl ?_
  refine Exec.callS _ rfl rfl (short_spec a b V) ?_
  refine Exec.run tyOk 200 rfl ?_
  refine Exec.callS _ rfl rfl (fun _ => short_spec c d V) ?_
  refine Exec.run tyOk 200 rfl ?_
  refine Exec.cond rfl (fun h => ?_) (fun h => ?_)
  · refine Exec.run tyOk 200 rfl ?_
    refine Exec.callS _ rfl rfl (lives_spec V) ?_
    refine Exec.run tyOk 200 rfl ?_
    exact Exec.ret tyOk rfl rfl rfl
  · simp only [Bool.or_eq_false_iff, Bool.not_eq_false', decide_eq_false_iff_not] at h
    obtain ⟨ha, hb⟩ := short_len h.1.1
    obtain ⟨hc, hd⟩ := short_len h.1.2
    obtain ⟨x, y, ok, hv, hp⟩ := inter_law a b c d k
    refine Exec.run tyOk 200 rfl ?_
    refine Exec.callS (.tuple ⟨[RV x y, .bool ok]⟩) rfl rfl ((intersect_spec a b c d V).cast hv) ?_
    refine Exec.run tyOk 200 rfl ?_
    refine Exec.callS (.tuple ⟨[RV x y, .bool ok]⟩) rfl rfl ((rIntersect_spec a b c d V ha hb hc hd).cast hv) ?_
    refine Exec.run tyOk 200 rfl ?_
    refine Exec.callS _ rfl rfl (contains_spec a b k V) ?_
    refine Exec.run tyOk 200 rfl ?_
    refine Exec.callS _ rfl rfl (fun _ => contains_spec c d k V) ?_
    refine Exec.run tyOk 200 rfl ?_
    refine Exec.callS _ rfl rfl (fun _ _ => contains_spec x y k V) ?_
    refine Exec.run tyOk 200 rfl ?_
    refine Exec.callS _ rfl rfl (fun _ => lives_spec V) ?_
    refine Exec.run tyOk 200 rfl ?_
    refine Exec.ret tyOk rfl rfl ?_
    simp [retV, hp]

end Go.Proofs.Ytpmghndhapmlnaa
