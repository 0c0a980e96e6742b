/-
  CHAPTER 29, PLAIN: ranges of partitions; the search of a key's partition in the reference, and one comparison of the program's (part d).
  Conditions: none.
-/
import Derived.Test.YtcgmfmpfmfjmoaaGreatEc
set_option linter.all false
namespace Go.Proofs.YtcgmfmpfmfjmoaaGreat
open Go.ChangeShapes

theorem firstIx_bd {α : Type} (q : α → Bool) : ∀ (l : List α) (i : Nat), firstIx q l i = -1 ∨ ((i : Int) ≤ firstIx q l i ∧ firstIx q l i < ((i + l.length : Nat) : Int))
  | [], i => Or.inl rfl
  | x :: l, i => by
    have ih := firstIx_bd q l (i + 1)
    by_cases h : q x = true
    · right; simp [firstIx, h]; omega
    · simp only [firstIx, h, if_false, List.length_cons, Bool.false_eq_true] at ih ⊢
      rcases ih with h | h
      · exact Or.inl h
      · right; omega

theorem loopSeqFrom {σ ρ : Type} {len i0 : Nat} (hl : len < 9223372036854775808) {L : Nat → σ → Int → Option ρ} {J : σ → Option ρ} {S : Nat → σ}
    (h1 : ∀ n (i : Nat), i0 ≤ i → i < len → L (n + 1) (S i) (i : Int) = L n (S (i + 1)) (IntKind.i64.wrap ((i : Int) + 1)))
    (h0 : ∀ n, L (n + 1) (S len) (len : Int) = J (S len)) : ∀ n i, i0 ≤ i → i ≤ len → len - i < n → L n (S i) (i : Int) = J (S len) := by
  intro n
  induction n with
  | zero => intro i _ _ h; omega
  | succ n ih =>
    intro i h2 hi hn
    rcases Nat.lt_or_ge i len with h | h
    · rw [h1 n i h2 h, wrap_succ (by omega), ih (i + 1) (by omega) (by omega) (by omega)]
    · have : i = len := by omega
      subst this
      exact h0 n

/-- The partition of a key: the last one that begins at it or before it. -/
def lastLe (l : List TPart) (key : Str) : Nat → Int
  | 0 => 0
  | k + 1 => if k = 0 then 0 else if sLt key (atI l (k : Int)).From = false then (k : Int) else lastLe l key k

def indexP (p : TPlacement) (key : Str) : Int := if pvB p = false then -1 else lastLe p.Parts key p.Parts.length

theorem pvB_len {p : TPlacement} (h : pvB p = true) : 1 ≤ p.Parts.length ∧ p.Parts.length ≤ 16 := by
  simp only [pvB, headBad, Bool.and_eq_true, Bool.not_eq_true', Bool.or_eq_false_iff, decide_eq_false_iff_not] at h
  omega

theorem byteAt_lt {s : Str} {k : Nat} (h : k < s.length) : byteAt s k = ((s[k].toNat : Nat) : Int) := by simp [byteAt, h]

/-- The program's comparison of a bound and a key, byte by byte. -/
theorem index2_impl {p : TPlacement} {key : Str} {i x : Int} {J6 J14 : Int → Option Int} (h1 : (atI p.Parts i).From.length ≤ 1000) :
    ∀ n k, k ≤ (atI p.Parts i).From.length → k ≤ key.length → (atI p.Parts i).From.length - k < n → F_placement_Index_L2 key p i J6 J14 n x (k : Int) = cond (!sLt (key.drop k) ((atI p.Parts i).From.drop k)) (J6 i) (J14 x) := by
  intro n
  induction n with
  | zero => intro k _ _ h; omega
  | succ n ih =>
    intro k hk hk2 hn
    rw [F_placement_Index_L2]
    rcases Nat.lt_or_ge k (atI p.Parts i).From.length with ha | ha
    · have ea : ((k : Int) == ((atI p.Parts i).From.length : Int)) = false := by rw [beq_eq_false_iff_ne]; omega
      rcases Nat.lt_or_ge k key.length with hb | hb
      · have eb : ((k : Int) == (key.length : Int)) = false := by rw [beq_eq_false_iff_ne]; omega
        rw [List.drop_eq_getElem_cons ha, List.drop_eq_getElem_cons hb, sLt_cons]
        simp only [ea, eb, show (k : Int) < (key.length : Int) by omega, show (k : Int) < ((atI p.Parts i).From.length : Int) by omega, show 0 ≤ (k : Int) by omega, decide_true, BEq.rfl, Bool.and_self, and_self, implies_true, req_t, Bool.false_or, Bool.true_and, Int.toNat_natCast, byteAt_lt ha, byteAt_lt hb]
        rw [wrap_succ (by omega), ih (k + 1) (by omega) (by omega) (by omega)]
        rcases Nat.lt_trichotomy ((atI p.Parts i).From[k]).toNat (key[k]).toNat with h | h | h
        · simp [h, show ¬ (key[k]).toNat < ((atI p.Parts i).From[k]).toNat by omega, show ¬ (key[k]).toNat = ((atI p.Parts i).From[k]).toNat by omega]
        · simp [h]
        · simp [h, show ¬ ((atI p.Parts i).From[k]).toNat < (key[k]).toNat by omega]
      · have hb' : k = key.length := by omega
        subst hb'
        rw [List.drop_eq_getElem_cons ha, List.drop_length]
        simp [ea, req, ha, sLt, Op.bytesLess]
    · have ha' : k = (atI p.Parts i).From.length := by omega
      subst ha'
      rw [List.drop_length, sLt_nil]
      simp [req]

end Go.Proofs.YtcgmfmpfmfjmoaaGreat
