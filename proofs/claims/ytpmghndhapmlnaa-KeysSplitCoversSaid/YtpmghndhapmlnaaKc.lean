/-
  The references of package keys: contracts, the same as their originals'.
-/
import Derived.Test.YtpmghndhapmlnaaKb
namespace Go.Proofs.Ytpmghndhapmlnaa

theorem rBound_spec (l : List UInt8) (V : View) (h63 : l.length ≤ 1000) : Spec Try.prog 29 [S l] V fun _ v => v = .bool (bndL l) := by
  refine Spec.enter1 (T := tyT) Try.func29 rfl (by kernel_rfl) rfl rfl ?_
  refine Exec.run tyOk 200 rfl ?_
  refine Exec.loopR (fun i : Nat => [(3, .v (I i)), (0, .v (S l))])
      (fun i => i ≤ l.length ∧ (l.take i).all (fun c => bndB c.toNat) = true) (fun i => l.length - i) 0 ⟨rfl, rfl, trivial⟩ ⟨by omega, by simp⟩ ?_
  rintro i ⟨hi, hall⟩
  refine Exec.run tyOk 200 rfl ?_
  refine Exec.cond rfl (fun h => ?_) (fun h => ?_)
  · have hlt : i < l.length := by simpa using h
    refine Exec.run tyOk 200 rfl ?_
    refine Exec.idx tyOk rfl rfl ⟨by omega, by omega⟩ ?_
    refine Exec.run tyOk 200 rfl ?_
    refine Exec.idx tyOk rfl rfl (fun _ => ⟨by omega, by omega⟩) ?_
    refine Exec.run tyOk 200 rfl ?_
    refine Exec.cond rfl (fun h => ?_) (fun h => ?_)
    · refine Exec.run tyOk 200 rfl ?_
      refine Exec.ret tyOk rfl rfl ?_
      have hb : bndB (byteAt l i) = false := by
        simp [bndB] at h ⊢
        omega
      simp [retV, bndL, consists, all_false bndB l i hlt hb]
    · refine Exec.run tyOk 200 rfl ?_
      refine Exec.roundR (i + 1) ⟨look_int rfl (w64 (by omega) (by omega)), rfl, trivial⟩ (by omega) ⟨by omega, ?_⟩
      rw [all_snoc bndB l i hlt, hall]
      simp [bndB] at h ⊢
      omega
  · refine Exec.run tyOk 200 rfl ?_
    refine Exec.ret tyOk rfl rfl ?_
    have : i = l.length := by simp at h; omega
    subst this
    rw [List.take_length] at hall
    simp only [retV, bndL, consists, hall, Bool.and_true]
    congr 1
    simp
    omega

theorem rValid_spec (l : List UInt8) (V : View) (h63 : l.length ≤ 1000) : Spec Try.prog 15 [S l] V fun _ v => v = .bool (keyL l) := by
  refine Spec.enter1 (T := tyT) Try.func15 rfl (by kernel_rfl) rfl rfl ?_
  refine Exec.run tyOk 200 rfl ?_
  refine Exec.loopR (fun i : Nat => [(3, .v (I i)), (0, .v (S l))])
      (fun i => i ≤ l.length ∧ (l.take i).all (fun c => keyB c.toNat) = true) (fun i => l.length - i) 0 ⟨rfl, rfl, trivial⟩ ⟨by omega, by simp⟩ ?_
  rintro i ⟨hi, hall⟩
  refine Exec.run tyOk 200 rfl ?_
  refine Exec.cond rfl (fun h => ?_) (fun h => ?_)
  · have hlt : i < l.length := by simpa using h
    refine Exec.run tyOk 200 rfl ?_
    refine Exec.idx tyOk rfl rfl ⟨by omega, by omega⟩ ?_
    refine Exec.run tyOk 200 rfl ?_
    refine Exec.cond rfl (fun h => ?_) (fun h => ?_)
    · refine Exec.run tyOk 200 rfl ?_
      refine Exec.ret tyOk rfl rfl ?_
      have hb : keyB (byteAt l i) = false := by
        simp [keyB] at h ⊢
        omega
      simp [retV, keyL, consists, all_false keyB l i hlt hb]
    · refine Exec.run tyOk 200 rfl ?_
      refine Exec.roundR (i + 1) ⟨look_int rfl (w64 (by omega) (by omega)), rfl, trivial⟩ (by omega) ⟨by omega, ?_⟩
      rw [all_snoc keyB l i hlt, hall]
      simp [keyB] at h ⊢
      omega
  · refine Exec.run tyOk 200 rfl ?_
    refine Exec.ret tyOk rfl rfl ?_
    have : i = l.length := by simp at h; omega
    subst this
    rw [List.take_length] at hall
    simp only [retV, keyL, consists, hall, Bool.and_true]
    congr 1
    cases l with
    | nil => simp
    | cons c l =>
      rw [Bool.eq_iff_iff]
      simp
      omega

theorem rValidRange_spec (a b : List UInt8) (V : View) (ha : a.length ≤ 1000) (hb : b.length ≤ 1000) : Spec Try.prog 17 [RV a b] V fun _ v => v = .bool (rngL a b) := by
  refine Spec.enter1 (T := tyT) Try.func17 rfl (by kernel_rfl) rfl rfl ?_
  refine Exec.run tyOk 200 rfl ?_
  refine Exec.callS _ rfl rfl (rBound_spec a V ha) ?_
  refine Exec.run tyOk 200 rfl ?_
  refine Exec.callS _ rfl rfl (fun _ => rBound_spec b V hb) ?_
  refine Exec.run tyOk 200 rfl ?_
  exact Exec.ret tyOk rfl rfl rfl

theorem rContains_spec (a b k : List UInt8) (V : View) (ha : a.length ≤ 1000) (hb : b.length ≤ 1000) : Spec Try.prog 19 [RV a b, S k] V fun _ v => v = .bool (inL2 a b k) := by
  refine Spec.enter2 (T := tyT) Try.func19 rfl (by kernel_rfl) rfl rfl ?_
  refine Exec.run tyOk 200 rfl ?_
  refine Exec.callS _ rfl rfl (rValidRange_spec a b V ha hb) ?_
  refine Exec.run tyOk 200 rfl ?_
  exact Exec.ret tyOk rfl rfl rfl

theorem rCovers_spec (a b c d : List UInt8) (V : View) (ha : a.length ≤ 1000) (hb : b.length ≤ 1000) (hc : c.length ≤ 1000) (hd : d.length ≤ 1000) : Spec Try.prog 23 [RV a b, RV c d] V fun _ v => v = .bool (covL a b c d) := by
  refine Spec.enter2 (T := tyT) Try.func23 rfl (by kernel_rfl) rfl rfl ?_
  refine Exec.run tyOk 200 rfl ?_
  refine Exec.callS _ rfl rfl (rValidRange_spec c d V hc hd) ?_
  refine Exec.run tyOk 200 rfl ?_
  refine Exec.cond rfl (fun h => ?_) (fun h => ?_)
  · refine Exec.run tyOk 200 rfl ?_
    refine Exec.ret tyOk rfl rfl ?_
    have : rngL c d = false := by simpa using h
    simp [covL, this, retV]
  · refine Exec.run tyOk 200 rfl ?_
    refine Exec.callS _ rfl rfl (rValidRange_spec a b V ha hb) ?_
    refine Exec.run tyOk 200 rfl ?_
    refine Exec.ret tyOk rfl rfl ?_
    have : rngL c d = true := by simpa using h
    simp [covL, this, retV]

theorem rSplit_spec (a b t : List UInt8) (V : View) (ha : a.length ≤ 1000) (hb : b.length ≤ 1000) (ht : t.length ≤ 1000) : Spec Try.prog 13 [RV a b, S t] V fun _ v => v = splV a b t := by
  refine Spec.enter2 (T := tyT) Try.func13 rfl (by kernel_rfl) rfl rfl ?_
  refine Exec.run tyOk 200 rfl ?_
  refine Exec.callS _ rfl rfl (rValidRange_spec a b V ha hb) ?_
  refine Exec.run tyOk 200 rfl ?_
  refine Exec.callS _ rfl rfl (fun _ => rBound_spec t V ht) ?_
  refine Exec.run tyOk 200 rfl ?_
  refine Exec.cond rfl (fun h => ?_) (fun h => ?_)
  · refine Exec.run tyOk 200 rfl ?_
    refine Exec.ret tyOk rfl rfl ?_
    have : splBad a b t = true := h
    simp [splV, this, retV]
  · refine Exec.run tyOk 200 rfl ?_
    refine Exec.draws tyOk [(0, true), (1, true), (2, true), (3, true), (4, true), (5, true), (6, true), (7, true), (8, false), (9, false), (10, false)] rfl (by kernel_rfl) ?_
    refine Exec.run tyOk 200 rfl ?_
    refine Exec.ret tyOk rfl rfl ?_
    have : splBad a b t = false := h
    simp [splV, this, retV]

def shortL (a b : List UInt8) : Bool := decide ((a.length : Int) ≤ 100) && decide ((b.length : Int) ≤ 100)

theorem short_spec (a b : List UInt8) (V : View) : Spec Try.prog 10 [RV a b] V fun _ v => v = .bool (shortL a b) := by
  refine Spec.enter1 (T := tyT) Try.func10 rfl (by kernel_rfl) rfl rfl ?_
  refine Exec.run tyOk 200 rfl ?_
  exact Exec.ret tyOk rfl rfl rfl

end Go.Proofs.Ytpmghndhapmlnaa
