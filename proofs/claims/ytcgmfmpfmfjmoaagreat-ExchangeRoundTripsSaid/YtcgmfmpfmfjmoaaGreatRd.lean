/-
  THE TWO WIRES, CLOSED: reading.
  Conditions: strings are no longer than memory is.
-/
import Derived.Test.YtcgmfmpfmfjmoaaGreatRc
set_option linter.all false
namespace Go.Proofs.YtcgmfmpfmfjmoaaGreat
open Go.ChangeShapes

theorem wI {n : Nat} (h : n < 9223372036854775808) : IntKind.i64.wrap (n : Int) = (n : Int) := w64 (by omega) (by omega)

theorem takeU_cases (s : Str) (p : Nat) : (∃ e, takeU s p 10 0 0 = (0, 0, e) ∧ (e = 5 ∨ e = 6)) ∨
    (∃ v t, v < 18446744073709551616 ∧ s.drop p = uintB v ++ t ∧ takeU s p 10 0 0 = ((v : Int), ((p + (uintB v).length : Nat) : Int), 0)) := by
  rcases takeU_read s p 10 0 0 (by omega) with h | ⟨v, t, h1, h2, h3, h4⟩
  · exact .inl h
  · refine .inr ⟨v, t, by simpa using h1, by simpa using h3, ?_⟩
    simpa using h4

theorem byteAt_nat {s : Str} {n : Nat} {c : UInt8} (h : s[n]? = some c) : byteAt s n = (c.toNat : Int) := by
  simp [byteAt, h]

theorem decN (a b : Nat) : decide ((a : Int) < (b : Int)) = decide (a < b) := by
  by_cases h : a < b
  · rw [decide_eq_true h, decide_eq_true (by omega)]
  · rw [decide_eq_false h, decide_eq_false (by omega)]

theorem badB (i c : Nat) : (((i : Int) == 9 && decide ((1 : Int) < (c : Int))) || ((c : Int) == 0 && decide ((0 : Int) < (i : Int)))) = decide (i = 9 ∧ 1 < c ∨ c = 0 ∧ 0 < i) := by
  rw [Bool.eq_iff_iff]
  simp only [Bool.or_eq_true, Bool.and_eq_true, beq_iff_eq, decide_eq_true_eq]
  omega

theorem or_add {u c k : Nat} (h : u < 2 ^ k) : u ||| c * 2 ^ k = u + c * 2 ^ k := by
  have := Nat.two_pow_add_eq_or_of_lt h c
  rw [Nat.or_comm, Nat.mul_comm c, ← this, Nat.add_comm]

theorem p128 (i : Nat) : 128 ^ i = 2 ^ (7 * i) := by
  rw [Nat.pow_mul]

/-- What a round adds stays in 64 bits. -/
theorem roundB {i u c : Nat} (hi : i ≤ 9) (hu : u < 128 ^ i) (hc : c < 128) (h9 : i = 9 → c ≤ 1) : u + c % 128 * 128 ^ i < 18446744073709551616 ∧ u + c % 128 * 128 ^ i < 128 ^ (i + 1) ∧ c % 128 * 128 ^ i < 18446744073709551616 := by
  rw [Nat.mod_eq_of_lt hc]
  have hlt : u + c * 128 ^ i < 128 ^ (i + 1) := by
    rw [Nat.pow_succ]
    have : c * 128 ^ i ≤ 127 * 128 ^ i := Nat.mul_le_mul_right _ (by omega)
    omega
  rcases Nat.lt_or_ge i 9 with h | h
  · have h2 : 128 ^ (i + 1) ≤ 128 ^ 9 := Nat.pow_le_pow_right (by omega) (by omega)
    have h3 : (128 : Nat) ^ 9 = 9223372036854775808 := by decide
    exact ⟨by omega, hlt, by omega⟩
  · have hi9 : i = 9 := by omega
    have hc1 := h9 hi9
    subst hi9
    have h3 : (128 : Nat) ^ 9 = 9223372036854775808 := by decide
    rw [h3] at hu ⊢
    have : c * 9223372036854775808 ≤ 1 * 9223372036854775808 := Nat.mul_le_mul_right _ hc1
    exact ⟨by omega, by have h4 : (128 : Nat) ^ (9 + 1) = 1180591620717411303424 := by decide
                        omega, by omega⟩

theorem refT_loop (s : Str) (p : Nat) (hs : s.length < 9000000000000000000) (hp : p ≤ s.length) : ∀ (n i u w : Nat), n + i = 10 → u < 128 ^ i → (i ≤ 9 → w = 128 ^ i) →
    F_clockworkref02_TakeUint_L1 s (p : Int) (some (0, 0, 5)) (n + 1) (u : Int) (w : Int) (i : Int) = some (takeU s p n i u)
  | 0, i, u, w, hn, hu, hw => by
    rw [F_clockworkref02_TakeUint_L1, show ((10 : Int)) = ((10 : Nat) : Int) from rfl, decN, decide_eq_false (by omega), cond_false]
    rfl
  | n + 1, i, u, w, hn, hu, hw => by
    have hw := hw (by omega)
    subst hw
    have e1 : IntKind.i64.wrap ((p : Int) + (i : Int)) = ((p + i : Nat) : Int) := by rw [← Int.natCast_add]; exact wI (by omega)
    rw [F_clockworkref02_TakeUint_L1, show ((10 : Int)) = ((10 : Nat) : Int) from rfl, decN, decide_eq_true (by omega), cond_true, e1, takeU]
    cases hg : s[p + i]? with
    | none =>
      have : s.length ≤ p + i := List.getElem?_eq_none_iff.1 hg
      rw [decide_eq_true (by omega), cond_true]
    | some c =>
      have hlt := (List.getElem?_eq_some_iff.1 hg).1
      have hc256 : c.toNat < 256 := c.toNat_lt
      rw [decide_eq_false (by omega), cond_false, req_pos (by omega), Int.toNat_natCast, byteAt_nat hg, badB]
      simp only
      by_cases hbad : i = 9 ∧ 1 < c.toNat ∨ c.toNat = 0 ∧ 0 < i
      · rw [decide_eq_true hbad, cond_true, if_pos hbad]
      · rw [decide_eq_false hbad, cond_false, if_neg hbad, req_pos (by omega), show ((128 : Int)) = ((128 : Nat) : Int) from rfl, decN]
        have hb9 : i = 9 → c.toNat ≤ 1 := fun h => by omega
        have e2 : ∀ m : Nat, m < 18446744073709551616 → IntKind.u64.wrap (m : Int) = (m : Int) := fun m h => wrU64n h
        have hr : remI (c.toNat : Int) ((128 : Nat) : Int) = ((c.toNat % 128 : Nat) : Int) := rem128 _
        have hm : c.toNat % 128 < 128 := Nat.mod_lt _ (by omega)
        obtain ⟨b1, b2, b3⟩ := roundB (c := c.toNat % 128) (by omega) hu hm (fun h => by have := hb9 h; omega)
        rw [Nat.mod_mod] at b1 b2 b3
        rw [hr, e2 _ (by omega), ← Int.natCast_mul, e2 _ b3, ← Int.natCast_add, e2 _ b1]
        by_cases hlo : c.toNat < 128
        · rw [decide_eq_true hlo, cond_true, if_pos hlo]
          congr 1
          simp only [Prod.mk.injEq, true_and, and_true]
          rw [show ((p + i : Nat) : Int) + 1 = ((p + i + 1 : Nat) : Int) by omega]
          exact wI (by omega)
        · rw [decide_eq_false hlo, cond_false, if_neg hlo, wrap_succ (by omega)]
          have hi9 : i < 9 := by
            rcases Nat.lt_or_ge i 9 with h | h
            · exact h
            · have := hb9 (by omega); omega
          rw [← Int.natCast_mul, ← Nat.pow_succ]
          have hw2 : IntKind.u64.wrap ((128 ^ (i + 1) : Nat) : Int) = ((128 ^ (i + 1) : Nat) : Int) := by
            refine e2 _ ?_
            have h2 : 128 ^ (i + 1) ≤ 128 ^ 9 := Nat.pow_le_pow_right (by omega) (by omega)
            have h3 : (128 : Nat) ^ 9 = 9223372036854775808 := by decide
            omega
          rw [hw2]
          exact refT_loop s p hs hp n (i + 1) _ _ (by omega) b2 (fun _ => rfl)

def takeUint (s : Str) (p : Int) : Int × Int × Int := if p < 0 ∨ (s.length : Int) < p then (0, 0, 1) else takeU s p.toNat 10 0 0

theorem outB (s : Str) (p : Int) : (decide (p < (0 : Int)) || decide ((s.length : Int) < p)) = decide (p < 0 ∨ (s.length : Int) < p) := by
  rw [Bool.eq_iff_iff]
  simp

theorem ref_TakeUint {s : Str} {p : Int} (hs : s.length < 9000000000000000000) : F_clockworkref02_TakeUint s p = some (takeUint s p) := by
  unfold F_clockworkref02_TakeUint takeUint
  rw [outB]
  by_cases h : p < 0 ∨ (s.length : Int) < p
  · rw [decide_eq_true h, cond_true, if_pos h]
  · rw [decide_eq_false h, cond_false, if_neg h, jn_mk]
    obtain ⟨q, rfl⟩ : ∃ q : Nat, p = (q : Int) := ⟨p.toNat, by omega⟩
    rw [Int.toNat_natCast]
    exact refT_loop s q hs (by omega) 10 0 0 1 rfl (by omega) (fun _ => rfl)

theorem wireT_loop (s : Str) (p : Nat) (hs : s.length < 9000000000000000000) (hp : p ≤ s.length) : ∀ (n i u : Nat), n + i = 10 → u < 128 ^ i →
    F_wire_TakeUint_L1 s (p : Int) (some (0, 0, 5)) (n + 1) (u : Int) (i : Int) = some (takeU s p n i u)
  | 0, i, u, hn, hu => by
    rw [F_wire_TakeUint_L1, show ((10 : Int)) = ((10 : Nat) : Int) from rfl, decN, decide_eq_false (by omega), cond_false]
    rfl
  | n + 1, i, u, hn, hu => by
    have e1 : IntKind.i64.wrap ((p : Int) + (i : Int)) = ((p + i : Nat) : Int) := by rw [← Int.natCast_add]; exact wI (by omega)
    rw [F_wire_TakeUint_L1, show ((10 : Int)) = ((10 : Nat) : Int) from rfl, decN, decide_eq_true (by omega), cond_true, e1, takeU]
    cases hg : s[p + i]? with
    | none =>
      have : s.length ≤ p + i := List.getElem?_eq_none_iff.1 hg
      rw [decide_eq_true (by omega), cond_true]
    | some c =>
      have hlt := (List.getElem?_eq_some_iff.1 hg).1
      have hc256 : c.toNat < 256 := c.toNat_lt
      rw [decide_eq_false (by omega), cond_false, req_pos (by omega), Int.toNat_natCast, byteAt_nat hg, badB]
      simp only
      by_cases hbad : i = 9 ∧ 1 < c.toNat ∨ c.toNat = 0 ∧ 0 < i
      · rw [decide_eq_true hbad, cond_true, if_pos hbad]
      · have h7 : IntKind.i64.wrap ((7 : Int) * (i : Int)) = ((7 * i : Nat) : Int) := by
          rw [show ((7 : Int) * (i : Int)) = ((7 * i : Nat) : Int) by omega]; exact wI (by omega)
        rw [decide_eq_false hbad, cond_false, if_neg hbad, h7, req_pos (by omega), show ((128 : Int)) = ((128 : Nat) : Int) from rfl, decN]
        have hb9 : i = 9 → c.toNat ≤ 1 := fun h => by omega
        have e2 : ∀ m : Nat, m < 18446744073709551616 → IntKind.u64.wrap (m : Int) = (m : Int) := fun m h => wrU64n h
        have hm : c.toNat % 128 < 128 := Nat.mod_lt _ (by omega)
        obtain ⟨b1, b2, b3⟩ := roundB (c := c.toNat % 128) (by omega) hu hm (fun h => by have := hb9 h; omega)
        rw [Nat.mod_mod] at b1 b2 b3
        have hsh : shlI .u64 (IntKind.u64.wrap (bits .and .u8 (c.toNat : Int) 127)) ((7 * i : Nat) : Int) = ((c.toNat % 128 * 128 ^ i : Nat) : Int) := by
          rw [and127 _ hc256, e2 _ (by omega)]
          unfold shlI
          have e : min (((7 * i : Nat) : Int).toNat) IntKind.u64.bits = 7 * i := by
            show min (((7 * i : Nat) : Int).toNat) 64 = 7 * i
            omega
          rw [e]
          have : ((c.toNat % 128 : Nat) : Int) * 2 ^ (7 * i) = ((c.toNat % 128 * 128 ^ i : Nat) : Int) := by
            rw [p128]; push_cast; rfl
          rw [this, e2 _ b3]
        have hor : bits .or .u64 (u : Int) ((c.toNat % 128 * 128 ^ i : Nat) : Int) = ((u + c.toNat % 128 * 128 ^ i : Nat) : Int) := by
          rw [bits_or64 _ _ (by omega) b3, p128, or_add (by rw [← p128]; exact hu)]
        rw [hsh, hor]
        by_cases hlo : c.toNat < 128
        · rw [decide_eq_true hlo, cond_true, if_pos hlo]
          congr 1
          simp only [Prod.mk.injEq, true_and, and_true]
          rw [show ((p + i : Nat) : Int) + 1 = ((p + i + 1 : Nat) : Int) by omega]
          exact wI (by omega)
        · rw [decide_eq_false hlo, cond_false, if_neg hlo, wrap_succ (by omega)]
          exact wireT_loop s p hs hp n (i + 1) _ (by omega) b2

theorem wire_TakeUint {s : Str} {p : Int} (hs : s.length < 9000000000000000000) : F_wire_TakeUint s p = some (takeUint s p) := by
  unfold F_wire_TakeUint F_wire_outside takeUint
  rw [bnd_mk, outB]
  by_cases h : p < 0 ∨ (s.length : Int) < p
  · rw [decide_eq_true h, cond_true, if_pos h]
  · rw [decide_eq_false h, cond_false, if_neg h, jn_mk]
    obtain ⟨q, rfl⟩ : ∃ q : Nat, p = (q : Int) := ⟨p.toNat, by omega⟩
    rw [Int.toNat_natCast]
    exact wireT_loop s q hs (by omega) 10 0 0 rfl (by omega)

end Go.Proofs.YtcgmfmpfmfjmoaaGreat
