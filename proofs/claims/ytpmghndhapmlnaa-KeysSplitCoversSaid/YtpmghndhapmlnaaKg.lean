/-
  The order of strings; the laws KeysSplits, KeysValid and KeysCovers of package keys.
-/
import Derived.Test.YtpmghndhapmlnaaKf
namespace Go.Proofs.Ytpmghndhapmlnaa

theorem sLt_irrefl : ∀ a : List UInt8, sLt a a = false
  | [] => rfl
  | x :: a => by
    have ih := sLt_irrefl a
    simp only [sLt] at ih ⊢
    simp [Op.bytesLess, ih]

theorem sLt_cons (x y : UInt8) (a b : List UInt8) : sLt (x :: a) (y :: b) = (decide (x.toNat < y.toNat) || (decide (x.toNat = y.toNat) && sLt a b)) := by
  simp only [sLt, Op.bytesLess]
  rw [show decide (x < y) = decide (x.toNat < y.toNat) from by simp [UInt8.lt_iff_toNat_lt]]
  rw [show (x == y) = decide (x.toNat = y.toNat) from by
    rw [Bool.eq_iff_iff]
    simp [UInt8.toNat_inj]]

theorem sLt_nil (a : List UInt8) : sLt a [] = false := by cases a <;> rfl

theorem sLt_trans : ∀ {a b c : List UInt8}, sLt a b = true → sLt b c = true → sLt a c = true
  | a, b, [], _, h => by rw [sLt_nil] at h; simp at h
  | a, [], c, h, _ => by rw [sLt_nil] at h; simp at h
  | [], _ :: _, _ :: _, _, _ => rfl
  | x :: a, y :: b, z :: c, h1, h2 => by
    rw [sLt_cons] at h1 h2 ⊢
    simp only [Bool.or_eq_true, Bool.and_eq_true, decide_eq_true_eq] at h1 h2 ⊢
    rcases h1 with h1 | ⟨h1, h1'⟩ <;> rcases h2 with h2 | ⟨h2, h2'⟩
    · left; omega
    · left; omega
    · left; omega
    · right; exact ⟨by omega, sLt_trans h1' h2'⟩

theorem sLt_conn : ∀ {a b : List UInt8}, sLt a b = false → sLt b a = false → a = b
  | [], [], _, _ => rfl
  | [], _ :: _, h, _ => by simp [sLt, Op.bytesLess] at h
  | _ :: _, [], _, h => by simp [sLt, Op.bytesLess] at h
  | x :: a, y :: b, h1, h2 => by
    rw [sLt_cons] at h1 h2
    simp only [Bool.or_eq_false_iff, Bool.and_eq_false_iff, decide_eq_false_iff_not] at h1 h2
    have hxy : x.toNat = y.toNat := by omega
    have e1 : sLt a b = false := by rcases h1.2 with h | h; exact absurd hxy h; exact h
    have e2 : sLt b a = false := by rcases h2.2 with h | h; exact absurd hxy.symm h; exact h
    rw [UInt8.toNat_inj.1 hxy, sLt_conn e1 e2]

/-- a ≤ b, b < c. -/
theorem le_lt {a b c : List UInt8} (h : sLt b a = false) (h2 : sLt b c = true) : sLt a c = true := by
  cases hab : sLt a b with
  | true => exact sLt_trans hab h2
  | false => rw [sLt_conn hab h]; exact h2

/-- a < b, b ≤ c. -/
theorem lt_le {a b c : List UInt8} (h : sLt a b = true) (h2 : sLt c b = false) : sLt a c = true := by
  cases hbc : sLt b c with
  | true => exact sLt_trans h hbc
  | false => rw [← sLt_conn hbc h2]; exact h

/-- a ≤ b, b ≤ c. -/
theorem le_le {a b c : List UInt8} (h : sLt b a = false) (h2 : sLt c b = false) : sLt c a = false := by
  cases hca : sLt c a with
  | false => rfl
  | true =>
    have := lt_le hca h
    rw [h2] at this
    simp at this

theorem short_len {a b : List UInt8} (h : shortL a b = true) : a.length ≤ 1000 ∧ b.length ≤ 1000 := by
  simp only [shortL, Bool.and_eq_true, decide_eq_true_eq] at h
  omega

theorem splV_parts (a b t : List UInt8) : ∃ x1 x2 y1 y2 n, splV a b t = .tuple ⟨[RV x1 x2, RV y1 y2, E n]⟩ := by
  unfold splV
  split
  · exact ⟨_, _, _, _, _, rfl⟩
  · exact ⟨_, _, _, _, _, rfl⟩

theorem keysSplits_spec (a b t : List UInt8) (V : View) : Spec Try.prog 3 [RV a b, S t] V fun _ v => v = .bool true := by
  refine Spec.enter2 (T := tyT) Try.func3 rfl (by kernel_rfl) rfl rfl ?_
  refine Exec.run tyOk 200 rfl ?_
  refine Exec.callS _ rfl rfl (short_spec a b V) ?_
  refine Exec.run tyOk 200 rfl ?_
  refine Exec.cond rfl (fun h => ?_) (fun h => ?_)
  · refine Exec.run tyOk 200 rfl ?_
    refine Exec.callS _ rfl rfl (lives_spec V) ?_
    refine Exec.run tyOk 200 rfl ?_
    exact Exec.ret tyOk rfl rfl rfl
  · simp only [Bool.or_eq_false_iff, Bool.not_eq_false', decide_eq_false_iff_not] at h
    obtain ⟨ha, hb⟩ := short_len h.1
    have ht : t.length ≤ 1000 := by omega
    obtain ⟨x1, x2, y1, y2, n, hv⟩ := splV_parts a b t
    refine Exec.run tyOk 200 rfl ?_
    refine Exec.callS (.tuple ⟨[RV x1 x2, RV y1 y2, E n]⟩) rfl rfl ((split_spec a b t V).cast hv) ?_
    refine Exec.run tyOk 200 rfl ?_
    refine Exec.callS (.tuple ⟨[RV x1 x2, RV y1 y2, E n]⟩) rfl rfl ((rSplit_spec a b t V ha hb ht).cast hv) ?_
    refine Exec.run tyOk 200 rfl ?_
    refine Exec.callS _ rfl rfl (fun _ => lives_spec V) ?_
    refine Exec.run tyOk 200 rfl ?_
    refine Exec.ret tyOk rfl rfl ?_
    simp [retV]

theorem keysValid_spec (a b k : List UInt8) (V : View) : Spec Try.prog 4 [RV a b, S k] V fun _ v => v = .bool true := by
  refine Spec.enter2 (T := tyT) Try.func4 rfl (by kernel_rfl) rfl rfl ?_
  refine Exec.run tyOk 200 rfl ?_
  refine Exec.callS _ rfl rfl (short_spec a b V) ?_
  refine Exec.run tyOk 200 rfl ?_
  refine Exec.cond rfl (fun h => ?_) (fun h => ?_)
  · refine Exec.run tyOk 200 rfl ?_
    refine Exec.callS _ rfl rfl (lives_spec V) ?_
    refine Exec.run tyOk 200 rfl ?_
    exact Exec.ret tyOk rfl rfl rfl
  · simp only [Bool.or_eq_false_iff, Bool.not_eq_false', decide_eq_false_iff_not] at h
    obtain ⟨ha, hb⟩ := short_len h.1
    have hk : k.length ≤ 1000 := by omega
    refine Exec.run tyOk 200 rfl ?_
    refine Exec.draws tyOk [(0, true), (2, true), (1, false), (3, false), (4, true), (5, true), (6, true), (8, true), (7, false), (9, false), (10, true), (11, true), (12, true), (13, true), (14, true), (16, true), (17, true), (15, false), (18, false), (19, true), (20, true), (21, true), (22, false), (23, true), (24, true)] rfl (by kernel_rfl) ?_
    refine Exec.run tyOk 200 rfl ?_
    refine Exec.callS _ rfl rfl (valid_spec k V) ?_
    refine Exec.run tyOk 200 rfl ?_
    refine Exec.callS _ rfl rfl (rValid_spec k V hk) ?_
    refine Exec.run tyOk 200 rfl ?_
    refine Exec.callS _ rfl rfl (fun _ => validRange_spec a b V) ?_
    refine Exec.run tyOk 200 rfl ?_
    refine Exec.callS _ rfl rfl (fun _ => rValidRange_spec a b V ha hb) ?_
    refine Exec.run tyOk 200 rfl ?_
    refine Exec.callS _ rfl rfl (fun _ => contains_spec a b k V) ?_
    refine Exec.run tyOk 200 rfl ?_
    refine Exec.callS _ rfl rfl (fun _ => rContains_spec a b k V ha hb) ?_
    refine Exec.run tyOk 200 rfl ?_
    refine Exec.callS _ rfl rfl (fun _ => lives_spec V) ?_
    refine Exec.run tyOk 200 rfl ?_
    refine Exec.ret tyOk rfl rfl ?_
    simp [retV]

end Go.Proofs.Ytpmghndhapmlnaa
