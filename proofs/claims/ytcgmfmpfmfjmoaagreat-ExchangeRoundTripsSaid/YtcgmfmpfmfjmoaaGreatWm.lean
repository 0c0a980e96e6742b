/-
  MAILS AS BYTES: reading undoes writing, and back.
  Conditions: strings are no longer than a million bytes.
-/
import Derived.Test.YtcgmfmpfmfjmoaaGreatWl
set_option linter.all false
namespace Go.Proofs.YtcgmfmpfmfjmoaaGreat
open Go.ChangeShapes

structure MR (m : TMail) : Prop where
  t : okI .i64 m.Txn
  f : okI .i64 m.From
  o : okI .i64 m.To
  kl : m.Keys.length ≤ 64
  k : ∀ x ∈ m.Keys, x.length ≤ 24
  p : ∀ x ∈ m.Pairs, PR x
  v : validM m = true

theorem keysB_pos {l : List Str} (h : ∀ x ∈ l, x.length ≤ 24) : l.length ≤ (keysB l).length := by
  induction l with
  | nil => simp
  | cons x l ih =>
    have := ih fun y hy => h y (by simp [hy])
    have hx := h x (by simp)
    have h1 := textB_len (a := x) (by omega)
    rw [keysB_cons, List.length_cons, List.length_append]
    omega

theorem validM_sta {m : TMail} (h : validM m = true) : staB m.Pairs = true := by
  simp only [validM, Bool.and_eq_true] at h
  exact h.2.2

theorem decodeM_of {m : TMail} (h : MR m) (hp : m.Pairs.length ≤ 1000) : decodeM (mailB m) = (m, 0) := by
  have hkl := h.kl
  have hkp := keysB_pos h.k
  have hd : (mailB m).drop 0 = intB m.Txn ++ (intB m.From ++ (intB m.To ++ (uintB m.Keys.length ++ (keysB m.Keys ++ (stateB m.Pairs ++ []))))) := by simp [mailB, headB, List.append_assoc]
  have d1 := drop_next hd
  have d2 := drop_next d1
  have d3 := drop_next d2
  have d4 := drop_next d3
  have d5 := drop_next d4
  have e0 := takeInt_of h.t hd
  rw [show ((0 : Nat) : Int) = 0 from rfl] at e0
  unfold decodeM
  rw [e0, thenM_ok, takeInt_of h.f d1, thenM_ok, takeInt_of h.o d2, thenM_ok, takeCount_of (by omega) h.kl (by simp; omega) d3, thenM_ok, Int.toNat_natCast, takeKeys_of h.k d4, thenM_ok, decodeS_of hp h.p (validM_sta h.v) d5, thenM_ok]
  have hl : (mailB m).length = 0 + (intB m.Txn).length + (intB m.From).length + (intB m.To).length + (uintB m.Keys.length).length + (keysB m.Keys).length + (stateB m.Pairs).length := by
    simp only [mailB, headB, List.length_append, Nat.zero_add]
  rw [hl, bne_self_eq_false, Bool.false_or]
  have : (⟨m.Txn, m.From, m.To, m.Keys, m.Pairs⟩ : TMail) = m := rfl
  rw [this, h.v]
  rfl

theorem decodeM_cases (s : Str) : (∃ e, decodeM s = (mZ, e) ∧ e ≠ 0) ∨ (∃ m, decodeM s = (m, 0) ∧ MR m ∧ m.Pairs.length ≤ s.length ∧ s = mailB m) := by
  unfold decodeM
  rcases takeInt_cases s 0 with ⟨e, h, he⟩ | ⟨k0, a, t0, hk0, o1, d0, h⟩
  · exact .inl ⟨e, by rw [h, thenM_no he], he⟩
  rw [h, thenM_ok]
  rcases takeInt_cases s ((k0 + (intB a).length : Nat) : Int) with ⟨e, h, he⟩ | ⟨k1, b, t1, hk1, o2, d1, h⟩
  · exact .inl ⟨e, by rw [h, thenM_no he], he⟩
  rw [h, thenM_ok]
  rcases takeInt_cases s ((k1 + (intB b).length : Nat) : Int) with ⟨e, h, he⟩ | ⟨k2, c, t2, hk2, o3, d2, h⟩
  · exact .inl ⟨e, by rw [h, thenM_no he], he⟩
  rw [h, thenM_ok]
  rcases takeCount_cases s ((k2 + (intB c).length : Nat) : Int) 64 with ⟨e, h, he⟩ | ⟨k3, n, t3, hk3, n1, n2, n3, d3, h⟩
  · exact .inl ⟨e, by rw [h, thenM_no he], he⟩
  rw [h, thenM_ok, Int.toNat_natCast]
  rcases takeKeys_cases s n ((k3 + (uintB n).length : Nat) : Int) with ⟨e, h, he⟩ | ⟨ks, q4, h, g2, g3, g4⟩
  · exact .inl ⟨e, by rw [h, thenM_no he], he⟩
  rw [h, thenM_ok]
  obtain ⟨t4, d4, hq4⟩ := g4 _ rfl
  rw [hq4]
  rcases decodeS_cases s ((k3 + (uintB n).length + (keysB ks).length : Nat) : Int) with ⟨e, h, he⟩ | ⟨k5, l, t5, hk5, h, v1, v2, v3, d5⟩
  · exact .inl ⟨e, by rw [h, thenM_no he], he⟩
  rw [h, thenM_ok]
  have e0 : k0 = 0 := by omega
  have e1 : k1 = k0 + (intB a).length := by omega
  have e2 : k2 = k1 + (intB b).length := by omega
  have e3 : k3 = k2 + (intB c).length := by omega
  have e5 : k5 = k3 + (uintB n).length + (keysB ks).length := by omega
  subst e0; subst e1; subst e2; subst e3; subst e5
  have f0 := drop_next d0
  have f1 := drop_next d1
  have f2 := drop_next d2
  have f3 := drop_next d3
  have f4 := drop_next d4
  rw [d1] at f0
  rw [d2] at f1
  rw [d3] at f2
  rw [d4] at f3
  rw [d5] at f4
  have hs : s = mailB ⟨a, b, c, ks, l⟩ ++ t5 := by
    have : s = s.drop 0 := rfl
    rw [this, d0, ← f0, ← f1, ← f2, ← f3, ← f4]
    simp only [mailB, headB, List.append_assoc, g2]
  cases hc : ((((0 + (intB a).length + (intB b).length + (intB c).length + (uintB n).length + (keysB ks).length + (stateB l).length : Nat) : Int) != (s.length : Int)) || (!validM ⟨a, b, c, ks, l⟩)) with
  | true => exact .inl ⟨5, by rw [cond_true], by decide⟩
  | false =>
    rw [cond_false]
    simp only [Bool.or_eq_false_iff, Bool.not_eq_false', bne_eq_false_iff_eq] at hc
    have hlen := congrArg List.length hs
    have ht : t5 = [] := by
      apply List.eq_nil_of_length_eq_zero
      simp only [mailB, headB, List.length_append, g2] at hlen
      omega
    subst ht
    exact .inr ⟨_, rfl, ⟨o1, o2, o3, by simp only; omega, g3, v3, hc.2⟩, v2, by simpa using hs⟩

end Go.Proofs.YtcgmfmpfmfjmoaaGreat
