/-
  Chapter 31, plain texts: arguments that lie open (filled in the last text).
  Conditions: none.
-/
import Derived.Test.YtcgmfmpfmfjmoaaGreatEn
set_option linter.all false
namespace Go.Proofs.YtcgmfmpfmfjmoaaGreat

/-- The length of a list of pairs and of its strings. -/
structure PrOk (m : List TPair) : Prop where
  l : m.length < 9223372036854775808
  k : ∀ x ∈ m, x.Key.length < big ∧ x.Val.S.length < big

theorem PrOk.nil : PrOk [] := ⟨by decide, by simp⟩
theorem PrOk.sub {a b : List TPair} (h : PrOk a) (hl : b.length < 9223372036854775808) (hs : ∀ x ∈ b, x ∈ a) : PrOk b := ⟨hl, fun x hx => h.k x (hs x hx)⟩

/-! ### Values -/

def plainB (s : Str) : Bool := decide (s.length ≤ 64) && !((List.range s.length).any fun i => decide (byteAt s i < 32) || decide (126 < byteAt s i))

theorem plain_impl {s : Str} (hs : s.length < big) : F_value_plain s = some (plainB s) := by
  unfold F_value_plain
  simp only [jn_mk]
  have e2 : decide ((s.length : Int) ≤ 64) = decide (s.length ≤ 64) := by rw [Bool.eq_iff_iff]; simp; omega
  rw [e2]
  refine (loopRng (len := s.length) (L := fun n i => F_value_plain_L1 s (some (decide (s.length ≤ 64))) n i) (q := fun i => decide (byteAt s i < 32) || decide (126 < byteAt s i)) (E := some false) (J := some (decide (s.length ≤ 64))) hs (by omega) ?_ ?_).trans ?_
  · intro n i hi
    try dsimp only
    rw [F_value_plain_L1]
    simp only [show (i : Int) < (s.length : Int) by omega, decide_true, cond_true, show 0 ≤ (i : Int) by omega, true_and, implies_true, req_t, Int.toNat_natCast]
  · intro n
    try dsimp only
    rw [F_value_plain_L1]
    simp
  · rw [plainB]
    cases ((List.range s.length).any fun i => decide (byteAt s i < 32) || decide (126 < byteAt s i)) <;> simp

theorem plain_ref {s : Str} (hs : s.length < big) : F_clockworkref05_Plain s = some (plainB s) := by
  unfold F_clockworkref05_Plain
  simp only [jn_mk]
  by_cases h2 : (64 : Int) < (s.length : Int)
  · simp [h2, plainB, show ¬ s.length ≤ 64 by omega]
  simp only [h2, decide_false, cond_false]
  refine (loopRng (len := s.length) (L := fun n i => F_clockworkref05_Plain_L1 s (some true) n i) (q := fun i => decide (byteAt s i < 32) || decide (126 < byteAt s i)) (E := some false) (J := some true) hs (by omega) ?_ ?_).trans ?_
  · intro n i hi
    try dsimp only
    rw [F_clockworkref05_Plain_L1]
    simp only [show (i : Int) < (s.length : Int) by omega, decide_true, cond_true, show 0 ≤ (i : Int) by omega, true_and, implies_true, req_t, Int.toNat_natCast]
  · intro n
    try dsimp only
    rw [F_clockworkref05_Plain_L1]
    simp
  · simp only [plainB, show s.length ≤ 64 by omega, decide_true, Bool.true_and]
    cases ((List.range s.length).any fun i => decide (byteAt s i < 32) || decide (126 < byteAt s i)) <;> rfl

def vvB (v : TValue) : Bool := cond (v.Kind == 0) ((v.N == 0) && (v.S == ([] : Str))) (cond (v.Kind == 1) (v.S == ([] : Str)) (((v.Kind == 2) && (v.N == 0)) && plainB v.S))

theorem vvalid_impl {v : TValue} (hs : v.S.length < big) : F_value_Valid v = some (vvB v) := by
  unfold F_value_Valid vvB
  rw [plain_impl hs]
  cases h0 : v.Kind == 0 with
  | true => simp
  | false =>
    cases h1 : v.Kind == 1 with
    | true => simp
    | false =>
      cases h2 : v.Kind == 2 with
      | false => simp
      | true =>
        cases h3 : v.N == 0 with
        | false => simp [gcall, bnd]
        | true => simp [gcall, bnd]

theorem vvalid_ref {v : TValue} (hs : v.S.length < big) : F_clockworkref05_Valid v = some (vvB v) := by
  unfold F_clockworkref05_Valid vvB
  rw [plain_ref hs]
  cases h0 : v.Kind == 0 with
  | true => simp
  | false =>
    cases h1 : v.Kind == 1 with
    | true => simp
    | false =>
      cases h2 : v.Kind == 2 with
      | false => simp [gcall, bnd]
      | true =>
        cases h3 : v.N == 0 with
        | false => simp [gcall, bnd]
        | true => simp [gcall, bnd]

/-! ### Pairs -/

def pairEq (x y : TPair) : Bool := ((x.Key == y.Key) && (((x.Val.Kind == y.Val.Kind) && ((x.Val.N == y.Val.N) && ((x.Val.S == y.Val.S) && true))) && true))

theorem pairEq_iff (x y : TPair) : pairEq x y = true ↔ x = y := by
  obtain ⟨k, n, m, s⟩ := x
  obtain ⟨k', n', m', s'⟩ := y
  simp [pairEq, and_assoc]

theorem pairEq_refl (x : TPair) : pairEq x x = true := (pairEq_iff x x).2 rfl

theorem same06 {a b : List TPair} (ha : a.length < 9223372036854775808) (hb : b.length < 9223372036854775808) : F_clockworkref06_Same a b = some (eqL pairEq a b) := by
  unfold F_clockworkref06_Same
  simp only [jn_mk]
  refine loopEq (a := a) (b := b) (f := pairEq) ha hb (L := fun n i => F_clockworkref06_Same_L1 a b (some true) n i) (by omega) ?_ ?_
  · intro hl n i hi hj
    try dsimp only
    rw [F_clockworkref06_Same_L1]
    simp only [show (i : Int) < (a.length : Int) by omega, show (i : Int) < (b.length : Int) by omega, decide_true, cond_true, show 0 ≤ (i : Int) by omega, and_self, req_t]
    rw [show ((atI a (i : Int)).Key == (atI b (i : Int)).Key && ((atI a (i : Int)).Val.Kind == (atI b (i : Int)).Val.Kind && ((atI a (i : Int)).Val.N == (atI b (i : Int)).Val.N && ((atI a (i : Int)).Val.S == (atI b (i : Int)).Val.S && true)) && true)) = pairEq (atI a (i : Int)) (atI b (i : Int)) from rfl]
    cases pairEq (atI a (i : Int)) (atI b (i : Int)) <;> rfl
  · intro n
    try dsimp only
    rw [F_clockworkref06_Same_L1]
    simp

theorem same_st {a b : List TPair} (ha : a.length < 9223372036854775808) (hb : b.length < 9223372036854775808) : F_state_Same a b = some (eqL pairEq a b) := by
  unfold F_state_Same F_slices_Equal_api_Pair_api_Pair
  simp only [jn_mk]
  rw [loopEq (a := a) (b := b) (f := pairEq) ha hb (L := fun n i => F_slices_Equal_api_Pair_api_Pair_L1 a b (some true) n i) (by omega) ?_ ?_]
  · rfl
  · intro hl n i hi hj
    try dsimp only
    rw [F_slices_Equal_api_Pair_api_Pair_L1]
    simp only [show (i : Int) < (a.length : Int) by omega, show (i : Int) < (b.length : Int) by omega, decide_true, cond_true, show 0 ≤ (i : Int) by omega, and_self, req_t]
    rw [show ((atI a (i : Int)).Key == (atI b (i : Int)).Key && ((atI a (i : Int)).Val.Kind == (atI b (i : Int)).Val.Kind && ((atI a (i : Int)).Val.N == (atI b (i : Int)).Val.N && ((atI a (i : Int)).Val.S == (atI b (i : Int)).Val.S && true)) && true)) = pairEq (atI a (i : Int)) (atI b (i : Int)) from rfl]
    cases pairEq (atI a (i : Int)) (atI b (i : Int)) <;> rfl
  · intro n
    try dsimp only
    rw [F_slices_Equal_api_Pair_api_Pair_L1]
    simp

def strEq (a b : Str) : Bool := a == b
theorem strEq_iff (a b : Str) : strEq a b = true ↔ a = b := by simp [strEq]

theorem same04 {a b : List Str} (ha : a.length < 9223372036854775808) (hb : b.length < 9223372036854775808) : F_clockworkref04_Same a b = some (eqL strEq a b) := by
  unfold F_clockworkref04_Same
  simp only [jn_mk]
  refine loopEq (a := a) (b := b) (f := strEq) ha hb (L := fun n i => F_clockworkref04_Same_L1 a b (some true) n i) (by omega) ?_ ?_
  · intro hl n i hi hj
    try dsimp only
    rw [F_clockworkref04_Same_L1]
    simp only [show (i : Int) < (a.length : Int) by omega, show (i : Int) < (b.length : Int) by omega, decide_true, cond_true, show 0 ≤ (i : Int) by omega, and_self, req_t]
    rw [show (atI a (i : Int) != atI b (i : Int)) = !strEq (atI a (i : Int)) (atI b (i : Int)) from rfl]
    cases strEq (atI a (i : Int)) (atI b (i : Int)) <;> rfl
  · intro n
    try dsimp only
    rw [F_clockworkref04_Same_L1]
    simp

theorem same_keys {a b : List Str} (ha : a.length < 9223372036854775808) (hb : b.length < 9223372036854775808) : F_keys_Same a b = some (eqL strEq a b) := by
  unfold F_keys_Same F_slices_Equal_string_string
  simp only [jn_mk]
  rw [loopEq (a := a) (b := b) (f := strEq) ha hb (L := fun n i => F_slices_Equal_string_string_L1 a b (some true) n i) (by omega) ?_ ?_]
  · rfl
  · intro hl n i hi hj
    try dsimp only
    rw [F_slices_Equal_string_string_L1]
    simp only [show (i : Int) < (a.length : Int) by omega, show (i : Int) < (b.length : Int) by omega, decide_true, cond_true, show 0 ≤ (i : Int) by omega, and_self, req_t]
    rw [show (atI a (i : Int) != atI b (i : Int)) = !strEq (atI a (i : Int)) (atI b (i : Int)) from rfl]
    cases strEq (atI a (i : Int)) (atI b (i : Int)) <;> rfl
  · intro n
    try dsimp only
    rw [F_slices_Equal_string_string_L1]
    simp

/-! ### States -/

def prBad (l : List TPair) (i : Nat) : Bool := (!kvB (atI l (i : Int)).Key || !vvB (atI l (i : Int)).Val) || (decide (0 < i) && !sLt (atI l ((i : Int) - 1)).Key (atI l (i : Int)).Key)
def srtB (l : List TPair) : Bool := !((List.range l.length).any fun i => prBad l i)
def staB (l : List TPair) : Bool := srtB l && !(l.any fun x => x.Val.Kind == 0)

theorem sorted_impl {l : List TPair} (h : PrOk l) : F_state_sorted l = some (srtB l) := by
  have hl := h.l
  unfold F_state_sorted
  simp only [jn_mk]
  refine (loopRng (len := l.length) hl (L := fun n i => F_state_sorted_L1 l (some true) n i) (q := fun i => prBad l i) (E := some false) (J := some true) (by omega) ?_ ?_).trans ?_
  · intro n i hi
    have hm := h.k _ (at_mem29 hi)
    try dsimp only
    rw [F_state_sorted_L1]
    simp only [show (i : Int) < (l.length : Int) by omega, decide_true, cond_true, show 0 ≤ (i : Int) by omega, true_and, implies_true, req_t, keys_impl hm.1, bnd_mk]
    rw [vvalid_impl (v := ⟨(atI l (i : Int)).Val.Kind, (atI l (i : Int)).Val.N, (atI l (i : Int)).Val.S⟩) hm.2]
    cases hk : kvB (atI l (i : Int)).Key with
    | false => simp [prBad, hk, req, gcall, bnd]
    | true =>
      simp only [Bool.not_true, BEq.rfl, gcall_t, bnd_mk, Bool.false_or]
      rw [show vvB ⟨(atI l (i : Int)).Val.Kind, (atI l (i : Int)).Val.N, (atI l (i : Int)).Val.S⟩ = vvB (atI l (i : Int)).Val from rfl]
      cases hv : vvB (atI l (i : Int)).Val with
      | false => simp [prBad, hk, hv, req]
      | true =>
        by_cases h0 : 0 < i
        · have h0' : (0 : Int) < (i : Int) := by omega
          simp only [h0', decide_true, BEq.rfl, Bool.not_true, Bool.and_self, forall_const, wrap_pred h0 (by omega), Bool.true_and, Bool.false_or, prBad, hk, hv, h0, cond_true, Bool.or_self]
          rw [req_pos (by omega)]
        · have h0' : ¬ (0 : Int) < (i : Int) := by omega
          simp [h0', prBad, hk, hv, h0, req]
  · intro n
    try dsimp only
    rw [F_state_sorted_L1]
    simp
  · rw [srtB]
    cases ((List.range l.length).any fun i => prBad l i) <;> rfl

theorem svalid_impl {l : List TPair} (h : PrOk l) : F_state_Valid l = some (staB l) := by
  have hl := h.l
  unfold F_state_Valid F_slices_ContainsFunc_api_Pair_api_Pair F_slices_IndexFunc_api_Pair_api_Pair
  rw [sorted_impl h]
  simp only [jn_mk, bnd_mk]
  rw [loopHas (l := l) hl (L := fun n i => F_slices_IndexFunc_api_Pair_api_Pair_L1 l (fun y0 => F_state_absent y0) (some (-1)) n i) (q := fun x => x.Val.Kind == 0) ?_ ?_ (by omega)]
  · rw [staB]
    cases srtB l <;> simp [gcall, bnd]
  · intro n i hi
    try dsimp only
    rw [F_slices_IndexFunc_api_Pair_api_Pair_L1]
    simp only [show (i : Int) < (l.length : Int) by omega, decide_true, cond_true, show 0 ≤ (i : Int) by omega, and_self, req_t, F_state_absent, bnd_mk, atI_nat hi]
  · intro n
    try dsimp only
    rw [F_slices_IndexFunc_api_Pair_api_Pair_L1]
    simp

end Go.Proofs.YtcgmfmpfmfjmoaaGreat
