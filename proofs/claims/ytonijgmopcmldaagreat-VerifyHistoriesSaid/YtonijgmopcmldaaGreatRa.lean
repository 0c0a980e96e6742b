/-
  FIRST AND BISECT IN PLAIN LEAN, AND THE LAWS ON THEM, BUT FOR WORKS.
-/
import Derived.Test.YtonijgmopcmldaaGreatNb
set_option linter.all false
namespace Go.Proofs.YtonijgmopcmldaaGreat
open Go.ChangeShapes

def dif (a b : List Int) (i : Int) : Bool := atI a i != atI b i

theorem quo2 {g : Int} (h0 : 0 ≤ g) (h : g < 4611686018427387904) : quoI .i64 g 2 = g / 2 := by
  unfold quoI
  rw [Int.tdiv_eq_ediv_of_nonneg h0, w64 (by omega) (by omega)]


/-- A search by halves: it ends between an equal place and one that differs. -/
theorem bis_spec {a b : List Int} (hb : b.length = a.length) (hl : a.length < 1000000) {J : Int → Int → Option (Int × Int)} :
    ∀ (n k : Nat) (hi lo st : Int), -1 ≤ lo → lo < hi → hi < (a.length : Int) → dif a b hi = true → (0 ≤ lo → dif a b lo = false) → hi - lo ≤ (2 ^ k : Nat) → (hi - lo).toNat ≤ n → 0 ≤ st → st + k < 4611686018427387904 → 0 < n →
      ∃ h s : Int, F_verify_Bisect_L1 a b J n hi lo st = J h s ∧ 0 ≤ h ∧ h < (a.length : Int) ∧ dif a b h = true ∧ (0 < h → dif a b (h - 1) = false) ∧ st ≤ s ∧ s ≤ st + k := by
  intro n
  induction n with
  | zero => intros; omega
  | succ n ih =>
    intro k hi lo st h1 h2 h3 h4 h5 h6 h7 h8 h9 _
    rw [F_verify_Bisect_L1, w64 (n := hi - lo) (by omega) (by omega)]
    by_cases hg : 1 < hi - lo
    · rw [decide_eq_true hg, cond_true, req_pos (by decide), quo2 (by omega) (by omega), w64 (n := lo + (hi - lo) / 2) (by omega) (by omega), req_pos (by omega), req_pos (by omega), w64 (n := st + 1) (by omega) (by omega)]
      cases k with
      | zero => simp at h6; omega
      | succ k =>
        have hp : ((2 ^ (k + 1) : Nat) : Int) = 2 * ((2 ^ k : Nat) : Int) := by rw [Nat.pow_succ]; omega
        rw [hp] at h6
        by_cases hd : dif a b (lo + (hi - lo) / 2) = true
        · rw [show (atI a (lo + (hi - lo) / 2) != atI b (lo + (hi - lo) / 2)) = true from hd, cond_true]
          obtain ⟨h, s, e, q⟩ := ih k (lo + (hi - lo) / 2) lo (st + 1) h1 (by omega) (by omega) hd h5 (by omega) (by omega) (by omega) (by omega) (by omega)
          exact ⟨h, s, e, q.1, q.2.1, q.2.2.1, q.2.2.2.1, by omega, by omega⟩
        · have hd : dif a b (lo + (hi - lo) / 2) = false := by simpa using hd
          rw [show (atI a (lo + (hi - lo) / 2) != atI b (lo + (hi - lo) / 2)) = false from hd, cond_false]
          obtain ⟨h, s, e, q⟩ := ih k hi (lo + (hi - lo) / 2) (st + 1) (by omega) (by omega) h3 h4 (fun _ => hd) (by omega) (by omega) (by omega) (by omega) (by omega)
          exact ⟨h, s, e, q.1, q.2.1, q.2.2.1, q.2.2.2.1, by omega, by omega⟩
    · rw [decide_eq_false hg, cond_false]
      refine ⟨hi, st, rfl, by omega, h3, h4, fun h => ?_, by omega, by omega⟩
      rw [show hi - 1 = lo by omega]
      exact h5 (by omega)

def digs : Nat → Nat → Nat
  | 0, _ => 0
  | n + 1, x => if 0 < x then digs n (x / 2) + 1 else 0

theorem digs_le : ∀ n x, digs n x ≤ n
  | 0, _ => Nat.le_refl _
  | n + 1, x => by
    have := digs_le n (x / 2)
    unfold digs
    split <;> omega

theorem digs_pow : ∀ n x, x ≤ n → x < 2 ^ digs n x
  | 0, x, h => by simp [digs]; omega
  | n + 1, x, h => by
    unfold digs
    split
    · have := digs_pow n (x / 2) (by omega)
      rw [Nat.pow_succ]; omega
    · simp; omega

/-- Bisect, whole. -/
theorem bis_whole {a b : List Int} (hb : b.length = a.length) (hl : a.length ≤ 300) (h0 : a.length ≠ 0) :
    ∃ r : Int × Int, F_verify_Bisect a b = some r ∧ 1 ≤ r.2 ∧ r.2 ≤ (digs (a.length + 1) a.length : Int) + 1 ∧
      (dif a b ((a.length : Int) - 1) = false → r = (-1, 1)) ∧
      (dif a b ((a.length : Int) - 1) = true → 0 ≤ r.1 ∧ r.1 < (a.length : Int) ∧ dif a b r.1 = true ∧ (0 < r.1 → dif a b (r.1 - 1) = false)) := by
  have e1 : IntKind.i64.wrap (((a.length : Nat) : Int) - 1) = (a.length : Int) - 1 := w64 (by omega) (by omega)
  unfold F_verify_Bisect
  rw [show ((((a.length : Nat) : Int) != ((b.length : Nat) : Int)) || (((a.length : Nat) : Int) == 0)) = false by simp only [Bool.or_eq_false_iff, bne_eq_false_iff_eq, beq_eq_false_iff_ne]; omega, cond_false, e1, req_pos (by omega), req_pos (by omega)]
  by_cases hd : dif a b ((a.length : Int) - 1) = true
  · rw [show (atI a ((a.length : Int) - 1) == atI b ((a.length : Int) - 1)) = false by simpa [dif] using hd, cond_false, jn_mk, w64 (n := (a.length : Int) - 1 - (-1)) (by omega) (by omega)]
    have hpw := digs_pow (a.length + 1) a.length (by omega)
    have hdl := digs_le (a.length + 1) a.length
    obtain ⟨h, s, e, q1, q2, q3, q4, q5, q6⟩ := bis_spec hb (by omega) (J := fun x9 x10 => some (x9, x10)) (((a.length : Int) - 1 - (-1)).toNat + 1) (digs (a.length + 1) a.length) ((a.length : Int) - 1) (-1) 1 (by omega) (by omega) (by omega) hd (by omega) (by omega) (by omega) (by omega) (by omega) (by omega)
    refine ⟨(h, s), e, q5, by show s ≤ _; omega, fun h => ?_, fun _ => ⟨q1, q2, q3, q4⟩⟩
    rw [hd] at h; cases h
  · have hd : dif a b ((a.length : Int) - 1) = false := by simpa using hd
    rw [show (atI a ((a.length : Int) - 1) == atI b ((a.length : Int) - 1)) = true by simpa [dif] using hd, cond_true]
    refine ⟨(-1, 1), rfl, by decide, by show (1 : Int) ≤ _; omega, fun _ => rfl, fun h => ?_⟩
    rw [hd] at h; cases h

theorem bis_loops (a b : List Int) (J : Int → Int → Option (Int × Int)) : ∀ (n : Nat) (hi lo st : Int), F_clockworkref54_Bisect_L1 a b J n lo hi st = F_verify_Bisect_L1 a b J n hi lo st
  | 0, _, _, _ => rfl
  | n + 1, hi, lo, st => by
    rw [F_clockworkref54_Bisect_L1, F_verify_Bisect_L1]
    simp only [bis_loops a b J n]

theorem bis_ref (a b : List Int) : F_clockworkref54_Bisect a b = F_verify_Bisect a b := by
  unfold F_clockworkref54_Bisect F_verify_Bisect
  simp only [jn_mk, bis_loops]

theorem bis_some (a b : List Int) (hl : a.length ≤ 300) : ∃ r, F_verify_Bisect a b = some r := by
  by_cases h : b.length = a.length ∧ a.length ≠ 0
  · obtain ⟨r, e, _⟩ := bis_whole h.1 hl h.2
    exact ⟨r, e⟩
  · refine ⟨(-1, 0), ?_⟩
    unfold F_verify_Bisect
    rw [show ((((a.length : Nat) : Int) != ((b.length : Nat) : Int)) || (((a.length : Nat) : Int) == 0)) = true by
      simp only [Bool.or_eq_true, bne_iff_ne, beq_iff_eq]; omega, cond_true]

/-! ### First -/

theorem first_spec {a b : List Int} {E : Option Int} {m : Nat} (hm : (m : Int) = min (a.length : Int) (b.length : Int)) (hl : m ≤ 300) :
    ∀ (n : Nat) (i : Nat), i ≤ m → m - i < n → (∃ f : Nat, i ≤ f ∧ f < m ∧ F_verify_First_L1 a b E n (i : Int) = some (f : Int) ∧ dif a b (f : Int) = true ∧ ∀ j : Nat, i ≤ j → j < f → dif a b (j : Int) = false) ∨
      (F_verify_First_L1 a b E n (i : Int) = E ∧ ∀ j : Nat, i ≤ j → j < m → dif a b (j : Int) = false)
  | 0, i, _, h => by omega
  | n + 1, i, h1, h2 => by
    rw [F_verify_First_L1, ← hm]
    rcases Nat.lt_or_ge i m with hi | hi
    · rw [decide_eq_true (by omega), cond_true, req_pos (by omega), req_pos (by omega)]
      by_cases hd : dif a b (i : Int) = true
      · left
        rw [show (atI a (i : Int) != atI b (i : Int)) = true from hd, cond_true]
        exact ⟨i, Nat.le_refl _, hi, rfl, hd, fun j _ _ => by omega⟩
      · have hd : dif a b (i : Int) = false := by simpa using hd
        rw [show (atI a (i : Int) != atI b (i : Int)) = false from hd, cond_false, wrap_succ (by omega)]
        rcases first_spec hm hl n (i + 1) (by omega) (by omega) with ⟨f, h3, h4, h5, h6, h7⟩ | ⟨h3, h4⟩
        · left
          refine ⟨f, by omega, h4, h5, h6, fun j h8 h9 => ?_⟩
          rcases Nat.lt_or_ge i j with h10 | h10
          · exact h7 j (by omega) h9
          · rw [show j = i by omega]; exact hd
        · right
          refine ⟨h3, fun j h8 h9 => ?_⟩
          rcases Nat.lt_or_ge i j with h10 | h10
          · exact h4 j (by omega) h9
          · rw [show j = i by omega]; exact hd
    · right
      rw [decide_eq_false (by omega), cond_false]
      exact ⟨rfl, fun j h8 h9 => by omega⟩

theorem first_loops {a b : List Int} {E : Option Int} {m : Nat} (hm : (m : Int) = min (a.length : Int) (b.length : Int)) (hl : m ≤ 300) :
    ∀ (n n' : Nat) (i : Nat), i ≤ m → m - i < n → m - i < n' → F_clockworkref54_First_L1 a b E n' (i : Int) = F_verify_First_L1 a b E n (i : Int)
  | 0, _, i, _, h, _ => by omega
  | _, 0, i, _, _, h => by omega
  | n + 1, n' + 1, i, h1, h2, h3 => by
    rw [F_verify_First_L1, F_clockworkref54_First_L1, ← hm]
    rcases Nat.lt_or_ge i m with hi | hi
    · rw [decide_eq_true (p := (i : Int) < (m : Int)) (by omega), decide_eq_true (by omega), decide_eq_true (by omega), Bool.and_true, wrap_succ (by omega), first_loops hm hl n n' (i + 1) (by omega) (by omega) (by omega)]
    · rw [decide_eq_false (p := (i : Int) < (m : Int)) (by omega), show (decide ((i : Int) < ((a.length : Nat) : Int)) && decide ((i : Int) < ((b.length : Nat) : Int))) = false by simp; omega, cond_false, cond_false]

theorem first_end (a b : List Int) : ∃ m : Nat, (m : Int) = min (a.length : Int) (b.length : Int) := ⟨min a.length b.length, by omega⟩

theorem first_ref {a b : List Int} (hl : a.length ≤ 300) : F_clockworkref54_First a b = F_verify_First a b := by
  obtain ⟨m, hm⟩ := first_end a b
  unfold F_clockworkref54_First F_verify_First
  rw [jn_mk, jn_mk]
  exact first_loops hm (by omega) _ _ 0 (by omega) (by omega) (by omega)

theorem first_some {a b : List Int} (hl : a.length ≤ 300) : ∃ f, F_verify_First a b = some f := by
  obtain ⟨m, hm⟩ := first_end a b
  unfold F_verify_First
  rw [jn_mk]
  rcases first_spec (E := cond (((a.length : Nat) : Int) == ((b.length : Nat) : Int)) (some (-1 : Int)) (some (min ((a.length : Nat) : Int) ((b.length : Nat) : Int)))) hm (by omega) ((min ((a.length : Nat) : Int) ((b.length : Nat) : Int)).toNat + 1) 0 (by omega) (by omega) with ⟨f, _, _, h, _⟩ | ⟨h, _⟩
  · exact ⟨_, h⟩
  · rw [show F_verify_First_L1 a b (cond (((a.length : Nat) : Int) == ((b.length : Nat) : Int)) (some (-1 : Int)) (some (min ((a.length : Nat) : Int) ((b.length : Nat) : Int)))) ((min ((a.length : Nat) : Int) ((b.length : Nat) : Int)).toNat + 1) 0 = _ from h]
    cases (((a.length : Nat) : Int) == ((b.length : Nat) : Int))
    · exact ⟨_, rfl⟩
    · exact ⟨_, rfl⟩

end Go.Proofs.YtonijgmopcmldaaGreat
