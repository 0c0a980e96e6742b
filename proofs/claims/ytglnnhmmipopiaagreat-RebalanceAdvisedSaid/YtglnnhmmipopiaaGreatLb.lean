/-
 The order of strings. Plain Lean.
 Conditions: none here.
-/
import Derived.Test.YtglnnhmmipopiaaGreatLa
set_option linter.all false
namespace Go.Proofs.YtglnnhmmipopiaaGreat
theorem sLt_irrefl : ∀ a : List UInt8, sLt a a = false
 | [] => rfl
 | x :: a => by
  have ih := sLt_irrefl a
  simp only [sLt] at ih ⊢
  simp [Op.bytesLess, ih]
theorem sLt_cons (x y : UInt8) (a b : List UInt8) : sLt (x :: a) (y :: b) = (decide (x.toNat < y.toNat) || (decide (x.toNat = y.toNat) && sLt a b)) := by
 simp only [sLt, Op.bytesLess]
 rw [show decide (x < y) = decide (x.toNat < y.toNat) from by simp [UInt8.lt_iff_toNat_lt]]
 rw [show (x == y) = decide (x.toNat = y.toNat) from by
  rw [Bool.eq_iff_iff]
  simp [UInt8.toNat_inj]]
theorem sLt_nil (a : List UInt8) : sLt a [] = false := by cases a <;> rfl
theorem sLt_trans : ∀ {a b c : List UInt8}, sLt a b = true → sLt b c = true → sLt a c = true
 | a, b, [], _, h => by rw [sLt_nil] at h; simp at h
 | a, [], c, h, _ => by rw [sLt_nil] at h; simp at h
 | [], _ :: _, _ :: _, _, _ => rfl
 | x :: a, y :: b, z :: c, h1, h2 => by
  rw [sLt_cons] at h1 h2 ⊢
  simp only [Bool.or_eq_true, Bool.and_eq_true, decide_eq_true_eq] at h1 h2 ⊢
  rcases h1 with h1 | ⟨h1, h1'⟩ <;> rcases h2 with h2 | ⟨h2, h2'⟩
  ·left; omega
  ·left; omega
  ·left; omega
  ·right; exact ⟨by omega, sLt_trans h1' h2'⟩
theorem sLt_conn : ∀ {a b : List UInt8}, sLt a b = false → sLt b a = false → a = b
 | [], [], _, _ => rfl
 | [], _ :: _, h, _ => by simp [sLt, Op.bytesLess] at h
 | _ :: _, [], _, h => by simp [sLt, Op.bytesLess] at h
 | x :: a, y :: b, h1, h2 => by
  rw [sLt_cons] at h1 h2
  simp only [Bool.or_eq_false_iff, Bool.and_eq_false_iff, decide_eq_false_iff_not] at h1 h2
  have hxy : x.toNat = y.toNat := by omega
  have e1 : sLt a b = false := by rcases h1.2 with h | h; exact absurd hxy h; exact h
  have e2 : sLt b a = false := by rcases h2.2 with h | h; exact absurd hxy.symm h; exact h
  rw [UInt8.toNat_inj.1 hxy, sLt_conn e1 e2]
theorem any_congr {α : Type} {l : List α} {p q : α → Bool} (h : ∀ x ∈ l, p x = q x) : l.any p = l.any q := by
 rw [Bool.eq_iff_iff, List.any_eq_true, List.any_eq_true]
 exact ⟨fun ⟨x, hx, e⟩ => ⟨x, hx, by rw [← h x hx]; exact e⟩, fun ⟨x, hx, e⟩ => ⟨x, hx, by rw [h x hx]; exact e⟩⟩
theorem loopIx {α : Type} {l : List α} (hl : l.length < 9223372036854775808) {L : Nat → Int → Option Int} {q : α → Bool}
  (h1 : ∀ n (i : Nat) (h : i < l.length), L (n + 1) (i : Int) = cond (q l[i]) (some (i : Int)) (L n (IntKind.i64.wrap ((i : Int) + 1))))
  (h0 : ∀ n, L (n + 1) (l.length : Int) = some (-1)) : ∀ n i, i ≤ l.length → l.length - i < n → ∃ k, L n (i : Int) = some k ∧ decide (0 ≤ k) = (l.drop i).any q := by
 intro n
 induction n with
 | zero => intro i _ h; omega
 | succ n ih =>
  intro i hi hn
  rcases Nat.lt_or_ge i l.length with h | h
  ·rw [h1 n i h, wrap_succ (by omega), List.drop_eq_getElem_cons h, List.any_cons]
   cases hq : q l[i] with
   | true => exact ⟨i, rfl, by simp⟩
   | false =>
    obtain ⟨k, e, e2⟩ := ih (i + 1) (by omega) (by omega)
    exact ⟨k, e, by rw [e2]; rfl⟩
  ·have : i = l.length := by omega
   subst this
   exact ⟨-1, h0 n, by simp⟩
end Go.Proofs.YtglnnhmmipopiaaGreat
