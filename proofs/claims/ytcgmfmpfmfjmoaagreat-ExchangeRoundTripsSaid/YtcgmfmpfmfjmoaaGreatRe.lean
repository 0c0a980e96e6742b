/-
  THE TWO WIRES, CLOSED: reading of signed numbers, counts and texts; what is read was written, what was written is read.
  Conditions: strings are no longer than memory is.
-/
import Derived.Test.YtcgmfmpfmfjmoaaGreatRd
set_option linter.all false
namespace Go.Proofs.YtcgmfmpfmfjmoaaGreat
open Go.ChangeShapes

theorem drop_len {s a t : Str} {k : Nat} (h : s.drop k = a ++ t) (ha : 1 ≤ a.length) : k + a.length + t.length = s.length ∧ k < s.length := by
  have := congrArg List.length h
  simp only [List.length_drop, List.length_append] at this
  omega

theorem takeUint_of {s t : Str} {k v : Nat} (hv : v < 18446744073709551616) (h : s.drop k = uintB v ++ t) : takeUint s (k : Int) = ((v : Int), ((k + (uintB v).length : Nat) : Int), 0) := by
  have hl := drop_len h (uintB_len64 hv).1
  unfold takeUint
  rw [if_neg (by omega), Int.toNat_natCast, takeU_write s k 10 0 0 v t rfl (by omega) (by simpa using hv) (fun _ => rfl) (by simpa using h)]
  simp

theorem takeUint_cases (s : Str) (p : Int) : (∃ e, takeUint s p = (0, 0, e) ∧ e ≠ 0) ∨
    (∃ (k v : Nat) (t : Str), p = (k : Int) ∧ v < 18446744073709551616 ∧ s.drop k = uintB v ++ t ∧ takeUint s p = ((v : Int), ((k + (uintB v).length : Nat) : Int), 0)) := by
  unfold takeUint
  by_cases h : p < 0 ∨ (s.length : Int) < p
  · rw [if_pos h]; exact .inl ⟨1, rfl, by decide⟩
  · rw [if_neg h]
    rcases takeU_cases s p.toNat with ⟨e, h1, h2⟩ | ⟨v, t, h1, h2, h3⟩
    · exact .inl ⟨e, h1, by omega⟩
    · exact .inr ⟨p.toNat, v, t, by omega, h1, h2, h3⟩

def takeInt (s : Str) (p : Int) : Int × Int × Int := if (takeUint s p).2.2 = 0 then (unzig (takeUint s p).1.toNat, (takeUint s p).2.1, 0) else (0, 0, (takeUint s p).2.2)
def takeCount (s : Str) (p : Int) (m : Nat) : Int × Int × Int :=
  if (takeUint s p).2.2 = 0 then if (m : Int) < (takeUint s p).1 then (0, 0, 2) else if (s.length : Int) - (takeUint s p).2.1 < (takeUint s p).1 then (0, 0, 6) else ((takeUint s p).1, (takeUint s p).2.1, 0)
  else (0, 0, (takeUint s p).2.2)
def takeText (s : Str) (p : Int) (m : Nat) : Str × Int × Int :=
  if (takeCount s p m).2.2 = 0 then ((s.take ((takeCount s p m).2.1 + (takeCount s p m).1).toNat).drop (takeCount s p m).2.1.toNat, (takeCount s p m).2.1 + (takeCount s p m).1, 0) else ([], 0, (takeCount s p m).2.2)

theorem neB (e : Int) : (e != (0 : Int)) = !decide (e = 0) := by
  by_cases h : e = 0 <;> simp [h]

theorem ref_Unfold {v : Nat} (hv : v < 18446744073709551616) : F_clockworkref02_Unfold (v : Int) = some (unzig v) := by
  unfold F_clockworkref02_Unfold unzig
  have e1 : remI (v : Int) 2 = ((v % 2 : Nat) : Int) := by
    unfold remI
    rw [Int.tmod_eq_emod_of_nonneg (by omega)]
    omega
  have e2 : quoI .u64 (v : Int) 2 = ((v / 2 : Nat) : Int) := by
    unfold quoI
    rw [Int.tdiv_eq_ediv_of_nonneg (by omega), show ((v : Int) / 2) = ((v / 2 : Nat) : Int) by omega]
    exact wrU64n (by omega)
  rw [req_pos (by omega), req_pos (by omega), e1, e2]
  by_cases h : v % 2 = 1
  · rw [if_pos h, h, show (((1 : Nat) : Int) == (1 : Int)) = true from rfl, cond_true, wI (by omega)]
    have g1 : IntKind.i64.wrap ((0 : Int) - ((v / 2 : Nat) : Int)) = 0 - ((v / 2 : Nat) : Int) := w64 (by omega) (by omega)
    rw [g1, w64 (by omega) (by omega)]
    congr 1
    omega
  · rw [if_neg h, show v % 2 = 0 by omega, show (((0 : Nat) : Int) == (1 : Int)) = false from rfl, cond_false, wI (by omega)]
    rfl

theorem wI_hi {n : Int} (h1 : 9223372036854775808 ≤ n) (h2 : n < 18446744073709551616) : IntKind.i64.wrap n = n - 18446744073709551616 := by
  show (if (true && decide (n % 18446744073709551616 ≥ 9223372036854775808)) = true then n % 18446744073709551616 - 18446744073709551616 else n % 18446744073709551616) = _
  rw [if_pos (by simp; omega)]
  omega

theorem wire_unzig {v : Nat} (hv : v < 18446744073709551616) : bits .xor .i64 (IntKind.i64.wrap (shrI .u64 (v : Int) 1)) (IntKind.i64.wrap ((0 : Int) - (IntKind.i64.wrap (bits .and .u64 (v : Int) 1)))) = unzig v := by
  have e1 : shrI .u64 (v : Int) 1 = ((v / 2 : Nat) : Int) := by
    unfold shrI
    have e : min (1 : Int).toNat IntKind.u64.bits = 1 := by decide
    rw [e, Int.fdiv_eq_ediv_of_nonneg _ (by decide)]
    omega
  have e2 : bits .and .u64 (v : Int) 1 = ((v % 2 : Nat) : Int) := by
    rw [show (1 : Int) = ((1 : Nat) : Int) from rfl, bits_and64 v 1 hv (by omega), and1]
  rw [e1, e2, wI (by omega), wI (by omega)]
  unfold unzig
  by_cases h : v % 2 = 1
  · rw [if_pos h, h]
    have e3 : IntKind.i64.wrap ((0 : Int) - ((1 : Nat) : Int)) = -1 := by decide
    rw [e3]
    show IntKind.i64.wrap (((BitVec.ofInt 64 ((v / 2 : Nat) : Int) ^^^ BitVec.ofInt 64 (-1)).toNat : Nat) : Int) = _
    have e4 : BitVec.ofInt 64 (-1) = BitVec.ofNat 64 18446744073709551615 := by decide
    rw [e4, ofInt_nat, BitVec.toNat_xor, BitVec.toNat_ofNat, BitVec.toNat_ofNat, Nat.mod_eq_of_lt (by omega), Nat.mod_eq_of_lt (by omega), xor_ones _ (by omega)]
    rw [wI_hi (by omega) (by omega)]
    omega
  · rw [if_neg h, show v % 2 = 0 by omega]
    have e3 : IntKind.i64.wrap ((0 : Int) - ((0 : Nat) : Int)) = 0 := by decide
    rw [e3]
    show IntKind.i64.wrap (((BitVec.ofInt 64 ((v / 2 : Nat) : Int) ^^^ BitVec.ofInt 64 0).toNat : Nat) : Int) = _
    have e4 : BitVec.ofInt 64 0 = BitVec.ofNat 64 0 := by decide
    rw [e4, ofInt_nat, BitVec.toNat_xor, BitVec.toNat_ofNat, BitVec.toNat_ofNat, Nat.mod_eq_of_lt (by omega), Nat.zero_mod, Nat.xor_zero]
    exact wI (by omega)

section
variable {s : Str} {p : Int} (hs : s.length < 9000000000000000000)
include hs

theorem ref_TakeInt : F_clockworkref02_TakeInt s p = some (takeInt s p) := by
  unfold F_clockworkref02_TakeInt takeInt
  rw [ref_TakeUint hs, bnd_mk, neB]
  rcases takeUint_cases s p with ⟨e, h, he⟩ | ⟨k, v, t, rfl, h1, h2, h3⟩
  · rw [h]; simp [he]
  · rw [h3]; simp [ref_Unfold h1]

theorem wire_TakeInt : F_wire_TakeInt s p = some (takeInt s p) := by
  unfold F_wire_TakeInt takeInt
  rw [wire_TakeUint hs, bnd_mk, neB]
  rcases takeUint_cases s p with ⟨e, h, he⟩ | ⟨k, v, t, rfl, h1, h2, h3⟩
  · rw [h]; simp [he]
  · rw [h3]
    simp only [decide_true, Bool.not_true, cond_false, Int.toNat_natCast, if_true]
    rw [req_pos (by omega), wire_unzig h1]

theorem ref_TakeCount {m : Nat} (hm : m < 4294967296) : F_clockworkref02_TakeCount s p (m : Int) = some (takeCount s p m) := by
  unfold F_clockworkref02_TakeCount takeCount
  rw [ref_TakeUint hs, bnd_mk, neB]
  rcases takeUint_cases s p with ⟨e, h, he⟩ | ⟨k, v, t, rfl, h1, h2, h3⟩
  · rw [h]; simp [he]
  · have hl := drop_len h2 (uintB_len64 h1).1
    rw [h3]
    simp only [decide_true, Bool.not_true, cond_false, if_true]
    have g1 : IntKind.u64.wrap (m : Int) = (m : Int) := wrU64n (by omega)
    have g2 : IntKind.i64.wrap ((s.length : Int) - ((k + (uintB v).length : Nat) : Int)) = (s.length : Int) - ((k + (uintB v).length : Nat) : Int) := w64 (by omega) (by omega)
    rw [g1, g2, wrU64i (n := (s.length : Int) - ((k + (uintB v).length : Nat) : Int)) (by omega) (by omega), decide_eq_false (show ¬ (m : Int) < 0 by omega), Bool.false_or]
    by_cases c1 : (m : Int) < (v : Int)
    · rw [decide_eq_true c1, cond_true, if_pos c1]
    · rw [decide_eq_false c1, cond_false, if_neg c1]
      by_cases c2 : (s.length : Int) - ((k + (uintB v).length : Nat) : Int) < (v : Int)
      · rw [decide_eq_true c2, cond_true, if_pos c2]
      · rw [decide_eq_false c2, cond_false, if_neg c2, wI (by omega)]

theorem wire_TakeCount {m : Nat} (hm : m < 4294967296) : F_wire_TakeCount s p (m : Int) = some (takeCount s p m) := by
  unfold F_wire_TakeCount takeCount
  rw [wire_TakeUint hs, bnd_mk, neB]
  rcases takeUint_cases s p with ⟨e, h, he⟩ | ⟨k, v, t, rfl, h1, h2, h3⟩
  · rw [h]; simp [he]
  · have hl := drop_len h2 (uintB_len64 h1).1
    rw [h3]
    simp only [decide_true, Bool.not_true, cond_false, if_true]
    have g1 : IntKind.u64.wrap (m : Int) = (m : Int) := wrU64n (by omega)
    have g2 : IntKind.i64.wrap ((s.length : Int) - ((k + (uintB v).length : Nat) : Int)) = (s.length : Int) - ((k + (uintB v).length : Nat) : Int) := w64 (by omega) (by omega)
    rw [g1, g2, wrU64i (n := (s.length : Int) - ((k + (uintB v).length : Nat) : Int)) (by omega) (by omega), decide_eq_false (show ¬ (m : Int) < 0 by omega), Bool.false_or]
    by_cases c1 : (m : Int) < (v : Int)
    · rw [decide_eq_true c1, cond_true, if_pos c1]
    · rw [decide_eq_false c1, cond_false, if_neg c1]
      by_cases c2 : (s.length : Int) - ((k + (uintB v).length : Nat) : Int) < (v : Int)
      · rw [decide_eq_true c2, cond_true, if_pos c2]
      · rw [decide_eq_false c2, cond_false, if_neg c2, wI (by omega)]
end

theorem takeInt_of {s t : Str} {k : Nat} {x : Int} (hx : okI .i64 x) (h : s.drop k = intB x ++ t) : takeInt s (k : Int) = (x, ((k + (intB x).length : Nat) : Int), 0) := by
  unfold takeInt
  rw [takeUint_of (zig_lt hx) h, Int.toNat_natCast, unzig_zig]
  rfl

theorem takeInt_cases (s : Str) (p : Int) : (∃ e, takeInt s p = (0, 0, e) ∧ e ≠ 0) ∨
    (∃ (k : Nat) (x : Int) (t : Str), p = (k : Int) ∧ okI .i64 x ∧ s.drop k = intB x ++ t ∧ takeInt s p = (x, ((k + (intB x).length : Nat) : Int), 0)) := by
  unfold takeInt
  rcases takeUint_cases s p with ⟨e, h, he⟩ | ⟨k, v, t, rfl, h1, h2, h3⟩
  · rw [h]; exact .inl ⟨e, by simp [he], he⟩
  · rw [h3]
    refine .inr ⟨k, unzig v, t, rfl, unzig_ok h1, by rw [intB, zig_unzig]; exact h2, ?_⟩
    rw [intB, zig_unzig]
    simp

theorem takeCount_of {s t : Str} {k n m : Nat} (hn : n < 18446744073709551616) (hnm : n ≤ m) (ht : n ≤ t.length) (h : s.drop k = uintB n ++ t) : takeCount s (k : Int) m = ((n : Int), ((k + (uintB n).length : Nat) : Int), 0) := by
  have hl := drop_len h (uintB_len64 hn).1
  unfold takeCount
  rw [takeUint_of hn h]
  simp only [if_true]
  rw [if_neg (by omega), if_neg (by omega)]

theorem takeCount_cases (s : Str) (p : Int) (m : Nat) : (∃ e, takeCount s p m = (0, 0, e) ∧ e ≠ 0) ∨
    (∃ (k n : Nat) (t : Str), p = (k : Int) ∧ n < 18446744073709551616 ∧ n ≤ m ∧ n ≤ t.length ∧ s.drop k = uintB n ++ t ∧ takeCount s p m = ((n : Int), ((k + (uintB n).length : Nat) : Int), 0)) := by
  unfold takeCount
  rcases takeUint_cases s p with ⟨e, h, he⟩ | ⟨k, v, t, rfl, h1, h2, h3⟩
  · rw [h]; exact .inl ⟨e, by simp [he], he⟩
  · have hl := drop_len h2 (uintB_len64 h1).1
    rw [h3]
    simp only [if_true]
    by_cases c1 : (m : Int) < (v : Int)
    · rw [if_pos c1]; exact .inl ⟨2, rfl, by decide⟩
    · rw [if_neg c1]
      by_cases c2 : (s.length : Int) - ((k + (uintB v).length : Nat) : Int) < (v : Int)
      · rw [if_pos c2]; exact .inl ⟨6, rfl, by decide⟩
      · rw [if_neg c2]; exact .inr ⟨k, v, t, rfl, h1, by omega, by omega, h2, rfl⟩

theorem textB_split {s t : Str} {k n : Nat} (hn : n < 18446744073709551616) (ht : n ≤ t.length) (h : s.drop k = uintB n ++ t) : (s.take (k + (uintB n).length + n)).drop (k + (uintB n).length) = t.take n := by
  rw [List.drop_take, ← List.drop_drop, h, List.drop_left]
  congr 1
  omega

theorem takeText_cases (s : Str) (p : Int) (m : Nat) : (∃ e, takeText s p m = ([], 0, e) ∧ e ≠ 0) ∨
    (∃ (k : Nat) (a t : Str), p = (k : Int) ∧ a.length ≤ m ∧ a.length < 18446744073709551616 ∧ s.drop k = textB a ++ t ∧ takeText s p m = (a, ((k + (textB a).length : Nat) : Int), 0)) := by
  unfold takeText
  rcases takeCount_cases s p m with ⟨e, h, he⟩ | ⟨k, n, t, rfl, h1, h2, h3, h4, h5⟩
  · rw [h]; exact .inl ⟨e, by simp [he], he⟩
  · rw [h5]
    have hla : (t.take n).length = n := by simp; omega
    refine .inr ⟨k, t.take n, t.drop n, rfl, by omega, by omega, ?_, ?_⟩
    · rw [h4, textB, hla, List.append_assoc, List.take_append_drop]
    · simp only [if_true]
      rw [← Int.natCast_add, Int.toNat_natCast, Int.toNat_natCast, textB_split h1 h3 h4]
      simp only [textB, List.length_append, hla, Nat.add_assoc]

theorem takeText_of {s a t : Str} {k m : Nat} (hn : a.length < 18446744073709551616) (hm : a.length ≤ m) (h : s.drop k = textB a ++ t) : takeText s (k : Int) m = (a, ((k + (textB a).length : Nat) : Int), 0) := by
  have h' : s.drop k = uintB a.length ++ (a ++ t) := by rw [h, textB, List.append_assoc]
  have hl : a.length ≤ (a ++ t).length := by simp
  unfold takeText
  rw [takeCount_of hn hm hl h']
  simp only [if_true]
  rw [← Int.natCast_add, Int.toNat_natCast, Int.toNat_natCast, textB_split hn hl h', List.take_left]
  simp only [textB, List.length_append, Nat.add_assoc]

section
variable {s : Str} {p : Int} (hs : s.length < 9000000000000000000)
include hs

theorem wire_TakeText {m : Nat} (hm : m < 4294967296) : F_wire_TakeText s p (m : Int) = some (takeText s p m) := by
  unfold F_wire_TakeText takeText
  rw [wire_TakeCount hs hm, bnd_mk, neB]
  rcases takeCount_cases s p m with ⟨e, h, he⟩ | ⟨k, n, t, rfl, h1, h2, h3, h4, h5⟩
  · rw [h]; simp [he]
  · have hl := drop_len h4 (uintB_len64 h1).1
    rw [h5]
    simp only [decide_true, Bool.not_true, cond_false, if_true]
    have g1 : IntKind.i64.wrap (((k + (uintB n).length : Nat) : Int) + (n : Int)) = ((k + (uintB n).length : Nat) : Int) + (n : Int) := w64 (by omega) (by omega)
    rw [g1, req_pos (by omega)]

theorem ref_TakeText {m : Nat} (hm : m < 4294967296) : F_clockworkref02_TakeText s p (m : Int) = some (takeText s p m) := by
  unfold F_clockworkref02_TakeText takeText takeCount
  rw [ref_TakeUint hs, bnd_mk, neB]
  rcases takeUint_cases s p with ⟨e, h, he⟩ | ⟨k, v, t, rfl, h1, h2, h3⟩
  · rw [h]; simp [he]
  · have hl := drop_len h2 (uintB_len64 h1).1
    rw [h3]
    simp only [decide_true, Bool.not_true, cond_false, if_true]
    have g1 : IntKind.u64.wrap (m : Int) = (m : Int) := wrU64n (by omega)
    have g2 : IntKind.i64.wrap ((s.length : Int) - ((k + (uintB v).length : Nat) : Int)) = (s.length : Int) - ((k + (uintB v).length : Nat) : Int) := w64 (by omega) (by omega)
    rw [g1, g2, wrU64i (n := (s.length : Int) - ((k + (uintB v).length : Nat) : Int)) (by omega) (by omega), decide_eq_false (show ¬ (m : Int) < 0 by omega), Bool.false_or]
    by_cases c1 : (m : Int) < (v : Int)
    · rw [decide_eq_true c1, cond_true, if_pos c1]; rfl
    · rw [decide_eq_false c1, cond_false, if_neg c1]
      by_cases c2 : (s.length : Int) - ((k + (uintB v).length : Nat) : Int) < (v : Int)
      · rw [decide_eq_true c2, cond_true, if_pos c2]; rfl
      · rw [decide_eq_false c2, cond_false, if_neg c2]
        have g3 : IntKind.i64.wrap (v : Int) = (v : Int) := wI (by omega)
        have g4 : IntKind.i64.wrap (((k + (uintB v).length : Nat) : Int) + (v : Int)) = ((k + (uintB v).length : Nat) : Int) + (v : Int) := w64 (by omega) (by omega)
        rw [g3, g4, req_pos (by omega)]
        rfl
end

end Go.Proofs.YtcgmfmpfmfjmoaaGreat
