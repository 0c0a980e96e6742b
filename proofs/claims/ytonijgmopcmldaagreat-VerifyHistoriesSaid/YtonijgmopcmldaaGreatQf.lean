/-
  THE WIRES, CLOSED (writing alone); values as bytes.
  Conditions: none.
-/
import Derived.Test.YtonijgmopcmldaaGreatWb
import Derived.Test.YtonijgmopcmldaaGreatOq
set_option linter.all false

namespace Go.Proofs.YtonijgmopcmldaaGreat
open Go.ChangeShapes

theorem bytesS_app (a b : List Int) : bytesS (a ++ b) = bytesS a ++ bytesS b := by simp [bytesS]
theorem bytesS_one (n : Nat) : bytesS [(n : Int)] = [byt n] := by simp [bytesS, byt]
theorem bytesS_len (a : List Int) : (bytesS a).length = a.length := by simp [bytesS]

theorem quo128 {u : Nat} (h : u < 18446744073709551616) : quoI .u64 (u : Int) 128 = ((u / 128 : Nat) : Int) := by
  unfold quoI
  rw [Int.tdiv_eq_ediv_of_nonneg (by omega), show ((u : Int) / 128) = ((u / 128 : Nat) : Int) by omega]
  exact wrU64n (by omega)

theorem shr7 {u : Nat} (h : u < 18446744073709551616) : shrI .u64 (u : Int) 7 = ((u / 128 : Nat) : Int) := by
  unfold shrI
  have e : min (7 : Int).toNat IntKind.u64.bits = 7 := by decide
  rw [e, Int.fdiv_eq_ediv_of_nonneg _ (by decide)]
  omega

theorem rem128 (u : Nat) : remI (u : Int) 128 = ((u % 128 : Nat) : Int) := by
  unfold remI
  rw [Int.tmod_eq_emod_of_nonneg (by omega)]
  omega

theorem lowB (u : Nat) : IntKind.u8.wrap (IntKind.u8.wrap (remI (u : Int) 128) + 128) = ((u % 128 + 128 : Nat) : Int) := by
  rw [rem128, wrU8, wrU8]; omega

theorem dec128 (u : Nat) : decide ((128 : Int) ≤ (u : Int)) = decide (128 ≤ u) := by
  by_cases h : 128 ≤ u
  · rw [decide_eq_true h, decide_eq_true (by omega)]
  · rw [decide_eq_false h, decide_eq_false (by omega)]

/-! ### Writing -/

theorem refU_loop {J : Int → Str → Option Str} (hJ : ∀ (x : Nat) (a : Str), x < 128 → a.length ≤ 20 → J (x : Int) a = some (a ++ [byt x])) :
    ∀ (k u n : Nat) (a : Str), u < 18446744073709551616 → u < 128 ^ (k + 1) → u < n → a.length + k ≤ 20 → F_clockworkref02_Uint_L1 J n (u : Int) a = some (a ++ uintB u)
  | k, u, 0, a, h64, hk, hn, ha => absurd hn (by omega)
  | k, u, n + 1, a, h64, hk, hn, ha => by
    rw [F_clockworkref02_Uint_L1, dec128]
    by_cases h : 128 ≤ u
    · rw [decide_eq_true h, cond_true, quo128 h64, lowB, bytesS_one]
      cases k with
      | zero => omega
      | succ k =>
        rw [req_pos (by omega), req_pos (by simp only [List.length_cons, List.length_nil]; omega), req_pos (by omega)]
        rw [refU_loop hJ k (u / 128) n _ (by omega) (by rw [Nat.pow_succ] at hk; omega) (by omega) (by simp; omega)]
        rw [uintB_hi h]
        simp
    · rw [decide_eq_false h, cond_false, hJ u a (by omega) (by omega), uintB_lo (by omega)]

theorem ref_Uint {u : Nat} (h : u < 18446744073709551616) : F_clockworkref02_Uint (u : Int) = some (uintB u) := by
  unfold F_clockworkref02_Uint
  rw [jn_mk, Int.toNat_natCast]
  rw [refU_loop (fun x a hx ha => ?_) 9 u _ [] h (Nat.lt_of_lt_of_le h (by decide)) (by omega) (by simp)]
  · simp
  · have e : IntKind.u8.wrap (x : Int) = (x : Int) := by rw [wrU8]; omega
    simp only [e, bytesS_one]
    rw [req_pos (by simp only [List.length_cons, List.length_nil]; omega)]

theorem wireU_loop {J : Int → List Int → Option Str} (hJ : ∀ (x : Nat) (a : List Int), x < 128 → a.length ≤ 20 → J (x : Int) a = some (bytesS a ++ [byt x])) :
    ∀ (k u n : Nat) (a : List Int), u < 18446744073709551616 → u < 128 ^ (k + 1) → u < n → a.length + k ≤ 20 → F_wire_Uint_L1 J n (u : Int) a = some (bytesS a ++ uintB u)
  | k, u, 0, a, h64, hk, hn, ha => absurd hn (by omega)
  | k, u, n + 1, a, h64, hk, hn, ha => by
    rw [F_wire_Uint_L1, dec128]
    by_cases h : 128 ≤ u
    · rw [decide_eq_true h, cond_true, or128, shr7 h64]
      cases k with
      | zero => omega
      | succ k =>
        unfold F_wire_appended
        rw [req_pos (by simp; omega), bnd_mk, req_pos (by omega)]
        rw [wireU_loop hJ k (u / 128) n _ (by omega) (by rw [Nat.pow_succ] at hk; omega) (by omega) (by simp; omega)]
        rw [uintB_hi h, bytesS_app, bytesS_one]
        simp
    · rw [decide_eq_false h, cond_false, hJ u a (by omega) (by omega), uintB_lo (by omega)]

theorem wire_Uint {u : Nat} (h : u < 18446744073709551616) : F_wire_Uint (u : Int) = some (uintB u) := by
  unfold F_wire_Uint
  rw [jn_mk, Int.toNat_natCast]
  rw [wireU_loop (fun x a hx ha => ?_) 9 u _ [] h (Nat.lt_of_lt_of_le h (by decide)) (by omega) (by simp)]
  · simp [bytesS]
  · have e : IntKind.u8.wrap (x : Int) = (x : Int) := by rw [wrU8]; omega
    unfold F_wire_appended
    rw [e, req_pos (by simp; omega), bnd_mk, bytesS_app, bytesS_one]

def intB (x : Int) : Str := uintB (zig x)
def textB (s : Str) : Str := uintB s.length ++ s

theorem ref_Fold {x : Int} (h : okI .i64 x) : F_clockworkref02_Fold x = some (zig x : Int) := by
  obtain ⟨h1, h2⟩ := okI64.1 h
  unfold F_clockworkref02_Fold
  by_cases hx : x < 0
  · have g1 : IntKind.i64.wrap (x + 1) = x + 1 := w64 (by omega) (by omega)
    have g2 : IntKind.i64.wrap (0 - (x + 1)) = 0 - (x + 1) := w64 (by omega) (by omega)
    rw [decide_eq_true hx, cond_true, g1, g2, wrU64i (n := 0 - (x + 1)) (by omega) (by omega), wrU64i (n := 2 * (0 - (x + 1))) (by omega) (by omega), wrU64i (by omega) (by omega)]
    congr 1
    unfold zig
    rw [if_pos hx]
    omega
  · rw [decide_eq_false hx, cond_false, wrU64i (n := x) (by omega) (by omega), wrU64i (by omega) (by omega)]
    congr 1
    unfold zig
    rw [if_neg hx]
    omega

theorem ref_Int {x : Int} (h : okI .i64 x) : F_clockworkref02_Int x = some (intB x) := by
  unfold F_clockworkref02_Int
  rw [ref_Fold h, bnd_mk, ref_Uint (zig_lt h), bnd_mk, intB]

theorem wire_zig {x : Int} (h : okI .i64 x) : bits .xor .u64 (shlI .u64 (IntKind.u64.wrap x) 1) (IntKind.u64.wrap (shrI .i64 x 63)) = (zig x : Int) := by
  obtain ⟨h1, h2⟩ := okI64.1 h
  have e1 : shlI .u64 (IntKind.u64.wrap x) 1 = (((2 * x) % 18446744073709551616).toNat : Int) := by
    unfold shlI
    have e : min (1 : Int).toNat IntKind.u64.bits = 1 := by decide
    rw [e, wrU64, wrU64]
    omega
  have e2 : shrI .i64 x 63 = if x < 0 then -1 else 0 := by
    unfold shrI
    have e : min (63 : Int).toNat IntKind.i64.bits = 63 := by decide
    rw [e, Int.fdiv_eq_ediv_of_nonneg _ (by decide)]
    split <;> omega
  rw [e1, e2]
  by_cases hx : x < 0
  · rw [if_pos hx]
    have e3 : IntKind.u64.wrap (-1) = ((18446744073709551615 : Nat) : Int) := by decide
    rw [e3, bits_xor64 _ _ (by omega) (by omega), xor_ones _ (by omega)]
    unfold zig
    rw [if_pos hx]
    omega
  · rw [if_neg hx]
    have e3 : IntKind.u64.wrap 0 = ((0 : Nat) : Int) := by decide
    rw [e3, bits_xor64 _ _ (by omega) (by omega), Nat.xor_zero]
    unfold zig
    rw [if_neg hx]
    omega

theorem wire_Int {x : Int} (h : okI .i64 x) : F_wire_Int x = some (intB x) := by
  unfold F_wire_Int
  rw [req_pos (by omega), req_pos (by omega), wire_zig h, wire_Uint (zig_lt h), bnd_mk, intB]

theorem ref_Text {s : Str} (h : s.length ≤ 9000000000000000000) : F_clockworkref02_Text s = some (textB s) := by
  unfold F_clockworkref02_Text
  have hl := uintB_len64 (u := s.length) (by omega)
  rw [wrU64n (by omega), ref_Uint (by omega), bnd_mk, req_pos (by omega), textB]

theorem wire_Text {s : Str} (h : s.length ≤ 9000000000000000000) : F_wire_Text s = some (textB s) := by
  unfold F_wire_Text
  have hl := uintB_len64 (u := s.length) (by omega)
  rw [wrU64n (by omega), wire_Uint (by omega), bnd_mk, req_pos (by omega), textB]

end Go.Proofs.YtonijgmopcmldaaGreat

namespace Go.Proofs.YtonijgmopcmldaaGreat
open Go.ChangeShapes

theorem intB_len {x : Int} (h : okI .i64 x) : 1 ≤ (intB x).length ∧ (intB x).length ≤ 10 := uintB_len64 (zig_lt h)
theorem textB_len {a : Str} (h : a.length ≤ 200000000000000) : 1 ≤ (textB a).length ∧ (textB a).length ≤ 10 + a.length := by
  have := uintB_len64 (u := a.length) (by omega)
  simp only [textB, List.length_append]
  omega

theorem drop_next {s a t : Str} {k : Nat} (h : s.drop k = a ++ t) : s.drop (k + a.length) = t := by
  rw [← List.drop_drop, h, List.drop_left]

def valB (v : TValue) : Str := if v.Kind = 1 then uintB 1 ++ intB v.N else if v.Kind = 2 then uintB 2 ++ textB v.S else uintB 0

theorem u0 : uintB 0 = [byt 0] := uintB_lo (by omega)
theorem u1 : uintB 1 = [byt 1] := uintB_lo (by omega)
theorem u2 : uintB 2 = [byt 2] := uintB_lo (by omega)

theorem valB_len {v : TValue} (hN : okI .i64 v.N) (hS : v.S.length ≤ 200000000000000) : 1 ≤ (valB v).length ∧ (valB v).length ≤ 11 + v.S.length := by
  have h1 := intB_len hN
  have h2 := textB_len hS
  unfold valB
  rw [u0, u1, u2]
  split
  · simp only [List.length_append, List.length_cons, List.length_nil]; omega
  · split
    · simp only [List.length_append, List.length_cons, List.length_nil]; omega
    · simp only [List.length_cons, List.length_nil]; omega

theorem value_Enc {v : TValue} (hN : okI .i64 v.N) (hS : v.S.length ≤ 200000000000000) : F_value_Encode v = some (valB v) := by
  have h1 := intB_len hN
  have h2 := textB_len hS
  unfold F_value_Encode valB
  rw [show (1 : Int) = ((1 : Nat) : Int) from rfl, show (2 : Int) = ((2 : Nat) : Int) from rfl, show (0 : Int) = ((0 : Nat) : Int) from rfl, wire_Uint (by omega), wire_Uint (by omega), wire_Uint (by omega), wire_Int hN, wire_Text (by omega)]
  simp only [bnd_mk]
  rw [req_pos (by rw [u1]; simp only [List.length_cons, List.length_nil]; omega), req_pos (by rw [u2]; simp only [List.length_cons, List.length_nil]; omega)]
  by_cases c1 : v.Kind = 1
  · simp [c1]
  · by_cases c2 : v.Kind = 2
    · simp [c2]
    · have e1 : (v.Kind == 1) = false := by simpa using c1
      have e2 : (v.Kind == 2) = false := by simpa using c2
      simp [c1, c2, e1, e2]

theorem value_EncR {v : TValue} (hN : okI .i64 v.N) (hS : v.S.length ≤ 200000000000000) : F_clockworkref05_Encode v = some (valB v) := by
  have h1 := intB_len hN
  have h2 := textB_len hS
  unfold F_clockworkref05_Encode valB
  rw [show (1 : Int) = ((1 : Nat) : Int) from rfl, show (2 : Int) = ((2 : Nat) : Int) from rfl, show (0 : Int) = ((0 : Nat) : Int) from rfl, ref_Uint (by omega), ref_Uint (by omega), ref_Uint (by omega), ref_Int hN, ref_Text (by omega)]
  simp only [bnd_mk]
  rw [req_pos (by rw [u1]; simp only [List.length_cons, List.length_nil]; omega), req_pos (by rw [u2]; simp only [List.length_cons, List.length_nil]; omega)]
  by_cases c1 : v.Kind = 1
  · simp [c1]
  · by_cases c2 : v.Kind = 2
    · simp [c2]
    · have e1 : (v.Kind == 1) = false := by simpa using c1
      have e2 : (v.Kind == 2) = false := by simpa using c2
      simp [c1, c2, e1, e2]

end Go.Proofs.YtonijgmopcmldaaGreat
