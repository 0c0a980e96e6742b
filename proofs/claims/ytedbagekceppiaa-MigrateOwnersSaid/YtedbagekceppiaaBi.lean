/-
  Chapter 30, plain texts: keys and footprints.
  Conditions: none.
-/
import Derived.Test.YtedbagekceppiaaBh
set_option linter.all false
namespace Go.Proofs.Ytedbagekceppiaa

def kch (b : Int) : Bool := (((((decide ((97 : Int) ≤ b)) && (decide (b ≤ (122 : Int)))) || ((decide ((48 : Int) ≤ b)) && (decide (b ≤ (57 : Int))))) || (b == (47 : Int))) || (b == (46 : Int))) || (b == (95 : Int)) || (b == (45 : Int))
def kvB (k : Str) : Bool := (decide (1 ≤ k.length) && decide (k.length ≤ 24)) && !((List.range k.length).any fun i => !kch (byteAt k i))

theorem consists_impl {k : Str} (hk : k.length < big) : F_keys_consists k (fun y0 => F_keys_Valid_1 y0) = some (decide (k.length ≤ 24) && !((List.range k.length).any fun i => !kch (byteAt k i))) := by
  unfold F_keys_consists
  by_cases h : k.length ≤ 24
  · have e : decide ((24 : Int) < (k.length : Int)) = false := by simp; omega
    rw [e, cond_false, jn_mk]
    refine (loopRng (len := k.length) (L := fun n i => F_keys_consists_L1 k (fun y0 => F_keys_Valid_1 y0) (some true) n i) (q := fun i => !kch (byteAt k i)) (E := some false) (J := some true) hk (by omega) ?_ ?_).trans ?_
    · intro n i hi
      try dsimp only
      rw [F_keys_consists_L1]
      simp only [show (i : Int) < (k.length : Int) by omega, decide_true, cond_true, show 0 ≤ (i : Int) by omega, true_and, implies_true, req_t, Int.toNat_natCast, F_keys_Valid_1, bnd_mk, kch]
    · intro n
      try dsimp only
      rw [F_keys_consists_L1]
      simp
    · cases ((List.range k.length).any fun i => !kch (byteAt k i)) <;> simp [h]
  · have e : decide ((24 : Int) < (k.length : Int)) = true := by simp; omega
    rw [e, cond_true]
    simp [h]

theorem keys_impl {k : Str} (hk : k.length < big) : F_keys_Valid k = some (kvB k) := by
  unfold F_keys_Valid
  rw [consists_impl hk]
  cases k with
  | nil => rfl
  | cons a l =>
    have e : ((a :: l) != ([] : Str)) = true := by rfl
    rw [e]
    simp [gcall, kvB, bnd]

theorem keys_ref {k : Str} (hk : k.length < big) : F_clockworkref04_Valid k = some (kvB k) := by
  unfold F_clockworkref04_Valid
  simp only [jn_mk]
  have e1 : (decide ((1 : Int) ≤ (k.length : Int)) && decide ((k.length : Int) ≤ (24 : Int))) = (decide (1 ≤ k.length) && decide (k.length ≤ 24)) := by
    rw [Bool.eq_iff_iff]; simp; omega
  rw [e1]
  refine (loopRng (len := k.length) (L := fun n i => F_clockworkref04_Valid_L1 k (some (decide (1 ≤ k.length) && decide (k.length ≤ 24))) n i) (q := fun i => !kch (byteAt k i)) (E := some false) (J := some (decide (1 ≤ k.length) && decide (k.length ≤ 24))) hk (by omega) ?_ ?_).trans ?_
  · intro n i hi
    try dsimp only
    rw [F_clockworkref04_Valid_L1]
    have e2 : (((((((decide ((byteAt k i) < (97 : Int))) || (decide ((122 : Int) < (byteAt k i)))) && ((decide ((byteAt k i) < (48 : Int))) || (decide ((57 : Int) < (byteAt k i))))) && ((byteAt k i) != (47 : Int))) && ((byteAt k i) != (46 : Int))) && ((byteAt k i) != (95 : Int))) && ((byteAt k i) != (45 : Int))) = !kch (byteAt k i) := by
      rw [Bool.eq_iff_iff]
      simp only [kch, Bool.and_eq_true, Bool.or_eq_true, decide_eq_true_eq, bne_iff_ne, Bool.not_eq_true', Bool.or_eq_false_iff, Bool.and_eq_false_iff, decide_eq_false_iff_not, beq_eq_false_iff_ne]
      omega
    simp only [show (i : Int) < (k.length : Int) by omega, decide_true, cond_true, show 0 ≤ (i : Int) by omega, true_and, implies_true, req_t, Int.toNat_natCast, e2]
  · intro n
    try dsimp only
    rw [F_clockworkref04_Valid_L1]
    simp
  · rw [kvB]
    cases ((List.range k.length).any fun i => !kch (byteAt k i)) <;> simp

def ascBad (l : List Str) (i : Nat) : Bool := !kvB (atI l (i : Int)) || (decide (0 < i) && !sLt (atI l ((i : Int) - 1)) (atI l (i : Int)))
def ascB (l : List Str) : Bool := !((List.range l.length).any fun i => ascBad l i)

theorem wrap_pred {i : Nat} (h0 : 0 < i) (h : i < 9223372036854775807) : IntKind.i64.wrap ((i : Int) - 1) = (i : Int) - 1 := w64 (by omega) (by omega)

end Go.Proofs.Ytedbagekceppiaa
