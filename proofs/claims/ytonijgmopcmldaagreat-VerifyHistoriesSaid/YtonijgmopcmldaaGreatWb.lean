/-
  VARINTS IN PLAIN LEAN: reading undoes writing, and back. No program in sight.
  Conditions: none.
-/
import Derived.Test.YtonijgmopcmldaaGreatWa
set_option linter.all false
namespace Go.Proofs.YtonijgmopcmldaaGreat
open Go.ChangeShapes

theorem uintB_ne (v : Nat) : uintB v ≠ [] := by
  by_cases h : v < 128
  · rw [uintB_lo h]; simp
  · rw [uintB_hi (by omega)]; simp

theorem get_drop {s : Str} {n : Nat} {c : UInt8} {t : Str} (h : s.drop n = c :: t) : s[n]? = some c ∧ s.drop (n + 1) = t := by
  have h1 : s[n]? = some c := by
    have := congrArg (fun l => l[0]?) h
    simpa using this
  refine ⟨h1, ?_⟩
  have h2 : s.drop (n + 1) = (s.drop n).drop 1 := by rw [List.drop_drop]
  rw [h2, h]
  rfl

/-- What was written is read. -/
theorem takeU_write (s : Str) (p : Nat) : ∀ (n i acc v : Nat) (t : Str), n + i = 10 → 0 < n → v < 2 * 128 ^ (9 - i) → (v = 0 → i = 0) → s.drop (p + i) = uintB v ++ t →
    takeU s p n i acc = (((acc + v * 128 ^ i : Nat) : Int), ((p + i + (uintB v).length : Nat) : Int), 0)
  | 0, i, acc, v, t, hn, h0, hv, hz, hd => absurd h0 (by omega)
  | n + 1, i, acc, v, t, hn, h0, hv, hz, hd => by
    by_cases hlo : v < 128
    · rw [uintB_lo hlo] at hd ⊢
      obtain ⟨h1, h2⟩ := get_drop (c := byt v) (t := t) (by simpa using hd)
      have hc : (byt v).toNat = v := byt_toNat (by omega)
      rw [takeU, h1]
      simp only [hc]
      rw [if_neg, if_pos hlo, Nat.mod_eq_of_lt hlo]
      · simp
      · rintro (⟨rfl, h⟩ | ⟨h, h'⟩)
        · simp at hv; omega
        · have := hz h; omega
    · rw [uintB_hi (by omega)] at hd ⊢
      obtain ⟨h1, h2⟩ := get_drop (c := byt (v % 128 + 128)) (t := uintB (v / 128) ++ t) (by simpa using hd)
      have hc : (byt (v % 128 + 128)).toNat = v % 128 + 128 := byt_toNat (by omega)
      have hi : i < 9 := by
        rcases Nat.lt_or_ge i 9 with h | h
        · exact h
        · have : 9 - i = 0 := by omega
          rw [this] at hv; simp at hv; omega
      have hp : (128 : Nat) ^ (9 - i) = 128 * 128 ^ (9 - (i + 1)) := by
        rw [show 9 - i = (9 - (i + 1)) + 1 by omega, Nat.pow_succ, Nat.mul_comm]
      rw [takeU, h1]
      simp only [hc]
      rw [if_neg (by omega), if_neg (by omega)]
      have := takeU_write s p n (i + 1) (acc + (v % 128 + 128) % 128 * 128 ^ i) (v / 128) t (by omega) (by omega) (by rw [hp] at hv; omega) (by omega) (by rw [← Nat.add_assoc]; exact h2)
      rw [this]
      have e : (v % 128 + 128) % 128 = v % 128 := by omega
      have e2 : acc + (v % 128 + 128) % 128 * 128 ^ i + v / 128 * 128 ^ (i + 1) = acc + v * 128 ^ i := by
        rw [e, Nat.pow_succ, Nat.mul_comm (128 ^ i) 128, ← Nat.mul_assoc, Nat.add_assoc, ← Nat.add_mul]
        congr 2
        omega
      rw [e2]
      simp only [List.length_cons, Prod.mk.injEq, and_true, true_and]
      omega

/-- What is read was written, or there is an error and nothing else. -/
theorem takeU_read (s : Str) (p : Nat) : ∀ (n i acc : Nat), n + i = 10 →
    (∃ e, takeU s p n i acc = (0, 0, e) ∧ (e = 5 ∨ e = 6)) ∨
    (∃ v t, v < 2 * 128 ^ (9 - i) ∧ (v = 0 → i = 0) ∧ s.drop (p + i) = uintB v ++ t ∧ takeU s p n i acc = (((acc + v * 128 ^ i : Nat) : Int), ((p + i + (uintB v).length : Nat) : Int), 0))
  | 0, i, acc, hn => .inl ⟨5, rfl, .inl rfl⟩
  | n + 1, i, acc, hn => by
    rw [takeU]
    cases h1 : s[p + i]? with
    | none => exact .inl ⟨6, rfl, .inr rfl⟩
    | some c =>
      have hlt := (List.getElem?_eq_some_iff.1 h1).1
      have hd : s.drop (p + i) = c :: s.drop (p + i + 1) := by
        rw [List.drop_eq_getElem_cons hlt]
        congr 1
        exact (List.getElem?_eq_some_iff.1 h1).2
      have hc : c.toNat < 256 := c.toNat_lt
      have hbyt : byt c.toNat = c := by simp [byt]
      simp only
      by_cases hbad : i = 9 ∧ 1 < c.toNat ∨ c.toNat = 0 ∧ 0 < i
      · rw [if_pos hbad]; exact .inl ⟨5, rfl, .inl rfl⟩
      · rw [if_neg hbad]
        by_cases hlo : c.toNat < 128
        · rw [if_pos hlo]
          refine .inr ⟨c.toNat, s.drop (p + i + 1), ?_, ?_, ?_, ?_⟩
          · rcases Nat.lt_or_ge i 9 with h | h
            · have hp : (128 : Nat) ^ (9 - i) = 128 * 128 ^ (9 - (i + 1)) := by
                rw [show 9 - i = (9 - (i + 1)) + 1 by omega, Nat.pow_succ, Nat.mul_comm]
              have := Nat.pow_pos (n := 9 - (i + 1)) (show 0 < 128 by omega)
              rw [hp]; omega
            · have : 9 - i = 0 := by omega
              rw [this]; simp; omega
          · intro h; omega
          · rw [uintB_lo hlo, hbyt]; exact hd
          · rw [uintB_lo hlo, Nat.mod_eq_of_lt hlo]; simp
        · rw [if_neg hlo]
          have hi : i < 9 ∨ i = 9 ∧ n = 0 := by omega
          rcases takeU_read s p n (i + 1) (acc + c.toNat % 128 * 128 ^ i) (by omega) with ⟨e, h, he⟩ | ⟨v, t, g1, g2, g3, g4⟩
          · exact .inl ⟨e, h, he⟩
          · rcases hi with hi | ⟨rfl, rfl⟩
            · have hp : (128 : Nat) ^ (9 - i) = 128 * 128 ^ (9 - (i + 1)) := by
                rw [show 9 - i = (9 - (i + 1)) + 1 by omega, Nat.pow_succ, Nat.mul_comm]
              have hv0 : v ≠ 0 := fun h => by have := g2 h; omega
              have e1 : (c.toNat % 128 + 128 * v) / 128 = v := by omega
              have e2 : (c.toNat % 128 + 128 * v) % 128 + 128 = c.toNat := by omega
              have hu : uintB (c.toNat % 128 + 128 * v) = c :: uintB v := by
                rw [uintB_hi (by omega), e1, e2, hbyt]
              refine .inr ⟨c.toNat % 128 + 128 * v, t, by rw [hp]; omega, fun h => by omega, ?_, ?_⟩
              · rw [hu, hd, List.cons_append, ← g3, Nat.add_assoc]
              · rw [g4, hu]
                have e3 : acc + c.toNat % 128 * 128 ^ i + v * 128 ^ (i + 1) = acc + (c.toNat % 128 + 128 * v) * 128 ^ i := by
                  rw [Nat.pow_succ, Nat.mul_comm (128 ^ i) 128, ← Nat.mul_assoc, Nat.add_assoc, ← Nat.add_mul, Nat.mul_comm v 128]
                rw [e3]
                simp only [List.length_cons, Prod.mk.injEq, and_true, true_and]
                omega
            · simp [takeU] at g4

end Go.Proofs.YtonijgmopcmldaaGreat
