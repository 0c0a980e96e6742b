/-
  HASHES AND DIGESTS IN PLAIN LEAN: FNV over bytes, numbers as eight bytes, buckets, roots. No program in sight.
  Conditions: none.
-/
import Derived.Test.YtonijgmopcmldaaGreatWb
set_option linter.all false
namespace Go.Proofs.YtonijgmopcmldaaGreat
open Go.ChangeShapes

abbrev b64 : Nat := 18446744073709551616

def stepN (h b : Nat) : Nat := (h ^^^ b) * 1099511628211 % 18446744073709551616
def fnvN : Nat → Str → Nat
  | h, [] => h
  | h, b :: s => fnvN (stepN h b.toNat) s
def fnv (s : Str) : Nat := fnvN 14695981039346656037 s
/-- The n lowest bytes of a number. -/
def leN : Nat → Nat → Str
  | 0, _ => []
  | n + 1, u => byt (u % 256) :: leN n (u / 256)
def mixN (a b : Nat) : Nat := fnvN (fnv (leN 8 a)) (leN 8 b)
def bkt (k : Str) : Nat := fnv k % 64

theorem stepN_lt (h b : Nat) : stepN h b < 18446744073709551616 := Nat.mod_lt _ (by decide)

theorem fnvN_lt : ∀ (s : Str) {h : Nat}, h < 18446744073709551616 → fnvN h s < 18446744073709551616
  | [], h, hh => hh
  | b :: s, h, hh => fnvN_lt s (stepN_lt h _)

theorem fnv_lt (s : Str) : fnv s < 18446744073709551616 := fnvN_lt s (by decide)
theorem mixN_lt (a b : Nat) : mixN a b < 18446744073709551616 := fnvN_lt _ (fnv_lt _)
theorem bkt_lt (k : Str) : bkt k < 64 := Nat.mod_lt _ (by decide)

theorem fnvN_app : ∀ (s t : Str) (h : Nat), fnvN h (s ++ t) = fnvN (fnvN h s) t
  | [], _, _ => rfl
  | b :: s, t, h => fnvN_app s t _

theorem leN_len : ∀ (n u : Nat), (leN n u).length = n
  | 0, _ => rfl
  | n + 1, u => by simp [leN, leN_len n]

theorem leN_snoc : ∀ (n u : Nat), leN (n + 1) u = leN n u ++ [byt (u / 256 ^ n % 256)]
  | 0, u => by simp [leN]
  | n + 1, u => by
    rw [leN, leN_snoc n (u / 256), leN, List.cons_append, Nat.div_div_eq_div_mul, Nat.pow_succ, Nat.mul_comm (256 ^ n) 256]

/-- A step of the hash, as the program takes it. -/
theorem stepF {h : Nat} (hh : h < 18446744073709551616) (b : UInt8) : IntKind.u64.wrap (bits .xor .u64 (h : Int) (IntKind.u64.wrap (b.toNat : Int)) * 1099511628211) = ((stepN h b.toNat : Nat) : Int) := by
  have hb : b.toNat < 256 := b.toNat_lt
  rw [wrU64n (by omega), bits_xor64 _ _ hh (by omega), wrU64, stepN]
  omega

end Go.Proofs.YtonijgmopcmldaaGreat
