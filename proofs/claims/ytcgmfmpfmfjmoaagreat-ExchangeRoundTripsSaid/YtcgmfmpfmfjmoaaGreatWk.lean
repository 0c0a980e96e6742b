/-
  MAILS AS BYTES: what both sides write, which mails are valid.
  Conditions: strings are no longer than a million bytes.
-/
import Derived.Test.YtcgmfmpfmfjmoaaGreatWj
set_option linter.all false
namespace Go.Proofs.YtcgmfmpfmfjmoaaGreat
open Go.ChangeShapes

def keysB (l : List Str) : Str := (l.map textB).flatten
def headB (m : TMail) : Str := intB m.Txn ++ intB m.From ++ intB m.To
def mailB (m : TMail) : Str := headB m ++ uintB m.Keys.length ++ keysB m.Keys ++ stateB m.Pairs

theorem keysB_cons (x : Str) (l : List Str) : keysB (x :: l) = textB x ++ keysB l := by simp [keysB]

theorem fold_keys (l : List Str) : ∀ s : Str, l.foldl (fun s x => s ++ textB x) s = s ++ keysB l := by
  induction l with
  | nil => intro s; simp [keysB]
  | cons x l ih =>
    intro s
    rw [List.foldl_cons, ih]
    simp [keysB]

/-- A mail whose parts are small. -/
structure MW (m : TMail) : Prop where
  t : okI .i64 m.Txn
  f : okI .i64 m.From
  o : okI .i64 m.To
  kl : m.Keys.length ≤ 1000
  k : ∀ x ∈ m.Keys, x.length ≤ 1000
  pl : m.Pairs.length ≤ 1000
  p : ∀ x ∈ m.Pairs, PW x

theorem prsB_max {l : List TPair} (h : ∀ x ∈ l, PW x) : (prsB l).length ≤ l.length * 2100 := by
  induction l with
  | nil => simp [prsB]
  | cons x l ih =>
    have h1 := ih fun y hy => h y (by simp [hy])
    have h2 := prB_len (h x (by simp))
    rw [prsB_cons, List.length_cons, List.length_append]
    omega

theorem stateB_max {l : List TPair} (hl : l.length ≤ 1000) (h : ∀ x ∈ l, PW x) : (stateB l).length ≤ 3000000 := by
  have h1 := prsB_max h
  have h2 := uintB_len64 (u := l.length) (by omega)
  have : l.length * 2100 ≤ 1000 * 2100 := Nat.mul_le_mul_right _ hl
  simp only [stateB, List.length_append]
  omega

theorem keysB_max {l : List Str} (h : ∀ x ∈ l, x.length ≤ 1000) : (keysB l).length ≤ l.length * 1100 := by
  induction l with
  | nil => simp [keysB]
  | cons x l ih =>
    have h1 := ih fun y hy => h y (by simp [hy])
    have h0 := h x (by simp)
    have h2 := textB_len h0
    rw [keysB_cons, List.length_cons, List.length_append]
    omega

theorem headB_len {m : TMail} (h : MW m) : 1 ≤ (headB m).length ∧ (headB m).length ≤ 30 := by
  have h1 := intB_len h.t
  have h2 := intB_len h.f
  have h3 := intB_len h.o
  simp only [headB, List.length_append]
  omega

theorem mailB_max {m : TMail} (h : MW m) : 1 ≤ (mailB m).length ∧ (mailB m).length ≤ 5000000 := by
  have h1 := headB_len h
  have h2 := uintB_len64 (u := m.Keys.length) (by have := h.kl; omega)
  have h3 := keysB_max h.k
  have h4 := stateB_max h.pl h.p
  have : m.Keys.length * 1100 ≤ 1000 * 1100 := Nat.mul_le_mul_right _ h.kl
  simp only [mailB, List.length_append]
  omega

theorem mail_EncR {m : TMail} (h : MW m) : F_clockworkref31_Encode m = some (mailB m) := by
  have h1 := intB_len h.t
  have h2 := intB_len h.f
  have h3 := intB_len h.o
  have hkl := h.kl
  have h4 := uintB_len64 (u := m.Keys.length) (by omega)
  have h5 := stateB_max h.pl h.p
  have h6 := keysB_max h.k
  have h7 : m.Keys.length * 1100 ≤ 1000 * 1100 := Nat.mul_le_mul_right _ h.kl
  unfold F_clockworkref31_Encode
  rw [ref_Int h.t, bnd_mk, ref_Int h.f, bnd_mk, req_pos (by omega), ref_Int h.o, bnd_mk, req_pos (by simp only [List.length_append]; omega), wrU64n (by omega), ref_Uint (by omega), bnd_mk, req_pos (by simp only [List.length_append]; omega), state_EncR h.pl h.p]
  simp only [jn_mk, bnd_mk]
  refine (loopFold (l := m.Keys) (by omega) (L := fun n s i => F_clockworkref31_Encode_L1 m (fun x11 => req ((x11).length + (stateB m.Pairs).length ≤ 9223372036854775807) (some (x11 ++ stateB m.Pairs))) n s i) (J := fun x11 => req ((x11).length + (stateB m.Pairs).length ≤ 9223372036854775807) (some (x11 ++ stateB m.Pairs))) (f := fun s x => s ++ textB x) (fun i s => s.length ≤ 40 + i * 1100) ?_ ?_ ?_ (by omega) (by simp only [List.length_append]; omega)).trans ?_
  · intro n i s hi hs
    have l0 := h.k _ (List.getElem_mem hi)
    have l1 := textB_len l0
    have hi' : i * 1100 ≤ 1000 * 1100 := Nat.mul_le_mul_right _ (by omega)
    try dsimp only
    rw [F_clockworkref31_Encode_L1, decide_eq_true (show (i : Int) < ((m.Keys.length : Nat) : Int) by omega), cond_true, req_pos (by omega), atI_nat hi, ref_Text (by omega), bnd_mk, req_pos (by omega)]
  · intro i s hi hs
    have l0 := h.k _ (List.getElem_mem hi)
    have l1 := textB_len l0
    simp only [List.length_append]
    omega
  · intro n s hs
    try dsimp only
    rw [F_clockworkref31_Encode_L1, decide_eq_false (by omega), cond_false]
  · rw [fold_keys, req_pos (by simp only [List.length_append]; omega)]
    rfl

theorem enc3 {m : TMail} (h : MW m) (J : Str → Option Str) : F_exchange_Encode_L1 m J ((3 : Int).toNat + 1) [] 0 = J (headB m) := by
  have h1 := intB_len h.t
  have h2 := intB_len h.f
  have h3 := intB_len h.o
  show F_exchange_Encode_L1 m J 4 [] 0 = _
  rw [F_exchange_Encode_L1, show decide ((0 : Int) < 3) = true from rfl, cond_true, req_pos (show (0 : Int) ≤ 0 ∧ (0 : Int) < 3 by omega), show atI [m.Txn, m.From, m.To] 0 = m.Txn from rfl, wire_Int h.t, bnd_mk, bWrite_ok (by simp only [List.length_nil]; omega), bnd_mk, show IntKind.i64.wrap ((0 : Int) + 1) = 1 from by decide]
  rw [F_exchange_Encode_L1, show decide ((1 : Int) < 3) = true from rfl, cond_true, req_pos (show (0 : Int) ≤ 1 ∧ (1 : Int) < 3 by omega), show atI [m.Txn, m.From, m.To] 1 = m.From from rfl, wire_Int h.f, bnd_mk, bWrite_ok (by simp only [List.nil_append]; omega), bnd_mk, show IntKind.i64.wrap ((1 : Int) + 1) = 2 from by decide]
  rw [F_exchange_Encode_L1, show decide ((2 : Int) < 3) = true from rfl, cond_true, req_pos (show (0 : Int) ≤ 2 ∧ (2 : Int) < 3 by omega), show atI [m.Txn, m.From, m.To] 2 = m.To from rfl, wire_Int h.o, bnd_mk, bWrite_ok (by simp only [List.nil_append, List.length_append]; omega), bnd_mk, show IntKind.i64.wrap ((2 : Int) + 1) = 3 from by decide]
  rw [F_exchange_Encode_L1, show decide ((3 : Int) < 3) = false from rfl, cond_false]
  simp only [headB, List.nil_append]

theorem mail_Enc {m : TMail} (h : MW m) : F_exchange_Encode m = some (mailB m) := by
  have h1 := headB_len h
  have hkl := h.kl
  have h4 := uintB_len64 (u := m.Keys.length) (by omega)
  have h5 := stateB_max h.pl h.p
  have h6 := keysB_max h.k
  have h7 : m.Keys.length * 1100 ≤ 1000 * 1100 := Nat.mul_le_mul_right _ h.kl
  unfold F_exchange_Encode
  rw [jn_mk, enc3 h]
  rw [wrU64n (by omega), wire_Uint (by omega), bnd_mk, bWrite_ok (by omega), bnd_mk, state_Enc h.pl h.p]
  simp only [jn_mk, bnd_mk]
  refine (loopFold (l := m.Keys) (by omega) (L := fun n s i => F_exchange_Encode_L2 m (fun s => bnd (bWrite s (stateB m.Pairs)) fun y1 => req (y1 ≠ []) (some y1)) n s i) (J := fun s => bnd (bWrite s (stateB m.Pairs)) fun y1 => req (y1 ≠ []) (some y1)) (f := fun s x => s ++ textB x) (fun i s => s.length ≤ 40 + i * 1100) ?_ ?_ ?_ (by omega) (by simp only [List.length_append]; omega)).trans ?_
  · intro n i s hi hs
    have l0 := h.k _ (List.getElem_mem hi)
    have l1 := textB_len l0
    have hi' : i * 1100 ≤ 1000 * 1100 := Nat.mul_le_mul_right _ (by omega)
    try dsimp only
    rw [F_exchange_Encode_L2, decide_eq_true (show (i : Int) < ((m.Keys.length : Nat) : Int) by omega), cond_true, req_pos (by omega), atI_nat hi, wire_Text (by omega), bnd_mk, bWrite_ok (by omega), bnd_mk]
  · intro i s hi hs
    have l0 := h.k _ (List.getElem_mem hi)
    have l1 := textB_len l0
    simp only [List.length_append]
    omega
  · intro n s hs
    try dsimp only
    rw [F_exchange_Encode_L2, decide_eq_false (by omega), cond_false]
  · rw [fold_keys, bWrite_ok (by simp only [List.length_append]; omega), bnd_mk]
    refine (if_pos (fun hn => ?_)).trans rfl
    have := congrArg List.length hn
    simp only [List.length_append, List.length_nil] at this
    omega

/-! ### Valid mails -/

def validM (m : TMail) : Bool := (decide ((0 : Int) ≤ m.Txn) && decide (m.Txn ≤ (1099511627776 : Int)) && decide ((1 : Int) ≤ m.From) && decide (m.From ≤ (16 : Int)) && decide ((1 : Int) ≤ m.To) && decide (m.To ≤ (16 : Int)) && decide (m.Keys.length ≤ 64)) && (ascB m.Keys && staB m.Pairs)

theorem mvalid_ref {m : TMail} (hk : m.Keys.length < 9223372036854775808) (hks : ∀ x ∈ m.Keys, x.length < big) (hp : PrOk m.Pairs) : F_clockworkref31_Valid m = some (validM m) := by
  unfold F_clockworkref31_Valid validM
  have e1 : decide ((((m.Keys).length : Nat) : Int) ≤ (64 : Int)) = decide (m.Keys.length ≤ 64) := by rw [Bool.eq_iff_iff]; simp; omega
  rw [e1, asc_ref hk hks, svalid_ref hp]
  cases hb : (decide ((0 : Int) ≤ m.Txn) && decide (m.Txn ≤ (1099511627776 : Int)) && decide ((1 : Int) ≤ m.From) && decide (m.From ≤ (16 : Int)) && decide ((1 : Int) ≤ m.To) && decide (m.To ≤ (16 : Int)) && decide (m.Keys.length ≤ 64)) with
  | false => rfl
  | true =>
    simp only [BEq.rfl, gcall_t, bnd_mk, Bool.true_and]
    cases ascB m.Keys with
    | false => rfl
    | true => simp only [BEq.rfl, gcall_t, bnd_mk, Bool.true_and]

theorem mvalid_impl {m : TMail} (hk : m.Keys.length < 9223372036854775808) (hks : ∀ x ∈ m.Keys, x.length < big) (hp : PrOk m.Pairs) : F_exchange_validMail m = some (validM m) := by
  unfold F_exchange_validMail validM
  have e1 : (((((((decide (m.Txn < (0 : Int))) || (decide ((1099511627776 : Int) < m.Txn))) || (decide (m.From < (1 : Int)))) || (decide ((16 : Int) < m.From))) || (decide (m.To < (1 : Int)))) || (decide ((16 : Int) < m.To))) || (decide ((64 : Int) < (((m.Keys).length : Nat) : Int)))) =
      !(decide ((0 : Int) ≤ m.Txn) && decide (m.Txn ≤ (1099511627776 : Int)) && decide ((1 : Int) ≤ m.From) && decide (m.From ≤ (16 : Int)) && decide ((1 : Int) ≤ m.To) && decide (m.To ≤ (16 : Int)) && decide (m.Keys.length ≤ 64)) := by
    rw [Bool.eq_iff_iff]
    simp only [Bool.or_eq_true, decide_eq_true_eq, Bool.not_eq_true', Bool.and_eq_false_iff, decide_eq_false_iff_not]
    omega
  rw [e1]
  cases hb : (decide ((0 : Int) ≤ m.Txn) && decide (m.Txn ≤ (1099511627776 : Int)) && decide ((1 : Int) ≤ m.From) && decide (m.From ≤ (16 : Int)) && decide ((1 : Int) ≤ m.To) && decide (m.To ≤ (16 : Int)) && decide (m.Keys.length ≤ 64)) with
  | false => rfl
  | true =>
    simp only [Bool.not_true, cond_false, jn_mk, svalid_impl hp, bnd_mk, Bool.true_and]
    refine (loopRng (len := m.Keys.length) (L := fun n i => F_exchange_validMail_L1 m (some (staB m.Pairs)) n i) (q := fun i => ascBad m.Keys i) (E := some false) (J := some (staB m.Pairs)) (by omega) (by omega) ?_ ?_).trans ?_
    · intro n i hi
      try dsimp only
      rw [F_exchange_validMail_L1]
      simp only [show (i : Int) < (m.Keys.length : Int) by omega, decide_true, cond_true, show 0 ≤ (i : Int) by omega, true_and, implies_true, req_t, keys_impl (hks _ (at_mem29 hi)), bnd_mk]
      cases hk' : kvB (atI m.Keys (i : Int)) with
      | false => simp [ascBad, hk', req]
      | true =>
        by_cases h0 : 0 < i
        · have h0' : (0 : Int) < (i : Int) := by omega
          simp only [h0', decide_true, BEq.rfl, Bool.not_true, Bool.and_self, forall_const, wrap_pred h0 (by omega), Bool.true_and, Bool.false_or, ascBad, hk', h0, cond_true]
          rw [req_pos (by omega)]
        · have h0' : ¬ (0 : Int) < (i : Int) := by omega
          simp [h0', ascBad, hk', h0, req]
    · intro n
      try dsimp only
      rw [F_exchange_validMail_L1]
      simp
    · rw [ascB]
      cases ((List.range m.Keys.length).any fun i => ascBad m.Keys i) <;> simp

end Go.Proofs.YtcgmfmpfmfjmoaaGreat
