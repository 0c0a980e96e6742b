/-
  VARINTS IN PLAIN LEAN: numbers as bytes and back. No program in sight.
  Conditions: none.
-/
import Derived.Test.YtonijgmopcmldaaGreatLc
set_option linter.all false
namespace Go.Proofs.YtonijgmopcmldaaGreat
open Go.ChangeShapes

/-! ### Bits and remainders -/

theorem wrU8 (n : Int) : IntKind.u8.wrap n = n % 256 := by simp [IntKind.wrap, IntKind.bits, IntKind.signed]
theorem wrU64 (n : Int) : IntKind.u64.wrap n = n % 18446744073709551616 := by simp [IntKind.wrap, IntKind.bits, IntKind.signed]
theorem wrU64n {n : Nat} (h : n < 18446744073709551616) : IntKind.u64.wrap (n : Int) = (n : Int) := by rw [wrU64]; omega
theorem wrU64i {n : Int} (h0 : 0 ≤ n) (h : n < 18446744073709551616) : IntKind.u64.wrap n = n := by rw [wrU64]; omega

theorem ofInt_nat {w : Nat} (n : Nat) : BitVec.ofInt w (n : Int) = BitVec.ofNat w n := by
  apply BitVec.eq_of_toNat_eq
  simp [BitVec.toNat_ofInt, BitVec.toNat_ofNat]

theorem bits_or64 (a b : Nat) (ha : a < 18446744073709551616) (hb : b < 18446744073709551616) : bits .or .u64 (a : Int) (b : Int) = ((a ||| b : Nat) : Int) := by
  have h1 : a ||| b < 2 ^ 64 := Nat.or_lt_two_pow (by simpa using ha) (by simpa using hb)
  show IntKind.u64.wrap (((BitVec.ofInt 64 (a : Int) ||| BitVec.ofInt 64 (b : Int)).toNat : Nat) : Int) = _
  rw [ofInt_nat, ofInt_nat, BitVec.toNat_or, BitVec.toNat_ofNat, BitVec.toNat_ofNat]
  rw [Nat.mod_eq_of_lt (by simpa using ha), Nat.mod_eq_of_lt (by simpa using hb)]
  exact wrU64n (by simpa using h1)

theorem bits_and64 (a b : Nat) (ha : a < 18446744073709551616) (hb : b < 18446744073709551616) : bits .and .u64 (a : Int) (b : Int) = ((a &&& b : Nat) : Int) := by
  have h1 : a &&& b ≤ a := Nat.and_le_left
  show IntKind.u64.wrap (((BitVec.ofInt 64 (a : Int) &&& BitVec.ofInt 64 (b : Int)).toNat : Nat) : Int) = _
  rw [ofInt_nat, ofInt_nat, BitVec.toNat_and, BitVec.toNat_ofNat, BitVec.toNat_ofNat]
  rw [Nat.mod_eq_of_lt (by simpa using ha), Nat.mod_eq_of_lt (by simpa using hb)]
  exact wrU64n (by omega)

theorem bits_xor64 (a b : Nat) (ha : a < 18446744073709551616) (hb : b < 18446744073709551616) : bits .xor .u64 (a : Int) (b : Int) = ((a ^^^ b : Nat) : Int) := by
  have h1 : a ^^^ b < 2 ^ 64 := Nat.xor_lt_two_pow (by simpa using ha) (by simpa using hb)
  show IntKind.u64.wrap (((BitVec.ofInt 64 (a : Int) ^^^ BitVec.ofInt 64 (b : Int)).toNat : Nat) : Int) = _
  rw [ofInt_nat, ofInt_nat, BitVec.toNat_xor, BitVec.toNat_ofNat, BitVec.toNat_ofNat]
  rw [Nat.mod_eq_of_lt (by simpa using ha), Nat.mod_eq_of_lt (by simpa using hb)]
  exact wrU64n (by simpa using h1)

set_option maxRecDepth 100000 in
theorem or128 (n : Nat) : bits .or .u8 (IntKind.u8.wrap (n : Int)) 128 = ((n % 128 + 128 : Nat) : Int) := by
  have e : IntKind.u8.wrap (n : Int) = ((n % 256 : Nat) : Int) := by rw [wrU8]; omega
  have h : ∀ m, m < 256 → bits .or .u8 ((m : Nat) : Int) 128 = ((m % 128 + 128 : Nat) : Int) := by decide
  rw [e, h _ (Nat.mod_lt _ (by omega))]
  congr 1
  omega

set_option maxRecDepth 100000 in
theorem and127 (n : Nat) (hn : n < 256) : bits .and .u8 ((n : Nat) : Int) 127 = ((n % 128 : Nat) : Int) := by
  have h : ∀ m, m < 256 → bits .and .u8 ((m : Nat) : Int) 127 = ((m % 128 : Nat) : Int) := by decide
  exact h n hn

theorem and1 (n : Nat) : n &&& 1 = n % 2 := by
  have := Nat.and_two_pow_sub_one_eq_mod n 1
  simpa using this

/-- all bits turned -/
theorem xor_ones (y : Nat) (hy : y < 18446744073709551616) : y ^^^ 18446744073709551615 = 18446744073709551615 - y := by
  have e : BitVec.ofNat 64 y ^^^ BitVec.allOnes 64 = ~~~ BitVec.ofNat 64 y := BitVec.xor_allOnes
  have e2 := congrArg BitVec.toNat e
  simp only [BitVec.toNat_xor, BitVec.toNat_allOnes, BitVec.toNat_not, BitVec.toNat_ofNat] at e2
  rw [Nat.mod_eq_of_lt (by simpa using hy)] at e2
  simpa using e2

/-! ### Zigzag -/

def zig (x : Int) : Nat := if x < 0 then (-2 * x - 1).toNat else (2 * x).toNat
def unzig (u : Nat) : Int := if u % 2 = 1 then -((u / 2 : Nat) : Int) - 1 else ((u / 2 : Nat) : Int)

theorem unzig_zig (x : Int) : unzig (zig x) = x := by
  unfold unzig zig; split <;> split <;> omega
theorem zig_unzig (u : Nat) : zig (unzig u) = u := by
  unfold unzig zig; split <;> split <;> omega
theorem okI64 {x : Int} : okI .i64 x ↔ -9223372036854775808 ≤ x ∧ x ≤ 9223372036854775807 := Iff.rfl

theorem zig_lt {x : Int} (h : okI .i64 x) : zig x < 18446744073709551616 := by
  obtain ⟨h1, h2⟩ := okI64.1 h
  unfold zig; split <;> omega

theorem unzig_ok {u : Nat} (h : u < 18446744073709551616) : okI .i64 (unzig u) := by
  rw [okI64]
  unfold unzig
  split <;> omega

/-! ### Numbers as bytes -/

def byt (n : Nat) : UInt8 := UInt8.ofNat n

theorem byt_toNat {n : Nat} (h : n < 256) : (byt n).toNat = n := by simp [byt]; omega

def uintB (u : Nat) : Str := if u < 128 then [byt u] else byt (u % 128 + 128) :: uintB (u / 128)
termination_by u
decreasing_by omega

theorem uintB_lo {u : Nat} (h : u < 128) : uintB u = [byt u] := by rw [uintB, if_pos h]
theorem uintB_hi {u : Nat} (h : 128 ≤ u) : uintB u = byt (u % 128 + 128) :: uintB (u / 128) := by rw [uintB, if_neg (by omega)]

theorem uintB_len : ∀ (k u : Nat), u < 128 ^ (k + 1) → 1 ≤ (uintB u).length ∧ (uintB u).length ≤ k + 1
  | 0, u, h => by rw [uintB_lo (by omega)]; simp
  | k + 1, u, h => by
    by_cases hu : u < 128
    · rw [uintB_lo hu]; simp
    · rw [uintB_hi (by omega)]
      have := uintB_len k (u / 128) (by rw [Nat.div_lt_iff_lt_mul (by omega)]; rw [Nat.pow_succ] at h; omega)
      simp only [List.length_cons]
      omega

theorem uintB_len64 {u : Nat} (h : u < 18446744073709551616) : 1 ≤ (uintB u).length ∧ (uintB u).length ≤ 10 :=
  uintB_len 9 u (Nat.lt_of_lt_of_le h (by decide))

/-! ### Numbers read from bytes -/

/-- Round i of the reading at place p of s: u is what was read so far. -/
def takeU (s : Str) (at' : Nat) : Nat → Nat → Nat → Int × Int × Int
  | 0, _, _ => (0, 0, 5)
  | n + 1, i, u => match s[at' + i]? with
    | none => (0, 0, 6)
    | some c => if i = 9 ∧ 1 < c.toNat ∨ c.toNat = 0 ∧ 0 < i then (0, 0, 5)
      else if c.toNat < 128 then (((u + c.toNat % 128 * 128 ^ i : Nat) : Int), ((at' + i + 1 : Nat) : Int), 0)
      else takeU s at' n (i + 1) (u + c.toNat % 128 * 128 ^ i)

end Go.Proofs.YtonijgmopcmldaaGreat
