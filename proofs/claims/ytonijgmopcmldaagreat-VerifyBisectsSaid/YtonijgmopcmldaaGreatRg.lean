/-
  THE LAWS VerifyFirsts AND VerifyBisects IN PLAIN LEAN.
-/
import Derived.Test.YtonijgmopcmldaaGreatRf
set_option linter.all false
namespace Go.Proofs.YtonijgmopcmldaaGreat
open Go.ChangeShapes

theorem plain_VerifyFirsts (x0 : List Int) (x1 : List Int) (o0 : (okL (okI .u64)) x0) (o1 : (okL (okI .u64)) x1) : F_clockworklaw54_VerifyFirsts x0 x1 = some true := by
  unfold F_clockworklaw54_VerifyFirsts
  rw [works_t]
  by_cases h : x0.length ≤ 300 ∧ x1.length ≤ 300
  · rw [show (decide ((300 : Int) < ((x0.length : Nat) : Int)) || decide ((300 : Int) < ((x1.length : Nat) : Int))) = false by simp; omega, cond_false]
    obtain ⟨r, hr⟩ := bis_some x0 x1 h.1
    obtain ⟨f, hf⟩ := first_some (b := x1) h.1
    rw [hr, bnd_mk, bis_ref, hr, bnd_mk, hf, bnd_mk, first_ref h.1, hf, bnd_mk]
    simp [gcall]
  · rw [show (decide ((300 : Int) < ((x0.length : Nat) : Int)) || decide ((300 : Int) < ((x1.length : Nat) : Int))) = true by simp; omega, cond_true]
    rfl

theorem quo2' {x : Nat} (h : x < 4611686018427387904) : quoI .i64 (x : Int) 2 = ((x / 2 : Nat) : Int) := by
  rw [quo2 (by omega) (by omega)]; omega

theorem digs_loop {J : Int → Option Bool} : ∀ (n x : Nat) (d : Nat), x ≤ 300 → d + n ≤ 1000 → x < n → F_clockworklaw54_VerifyBisects_L2 J n (d : Int) (x : Int) = J ((d + digs n x : Nat) : Int)
  | 0, x, d, _, _, h => by omega
  | n + 1, x, d, h1, h2, h3 => by
    rw [F_clockworklaw54_VerifyBisects_L2, digs]
    by_cases hx : 0 < x
    · rw [decide_eq_true (by omega), cond_true, req_pos (by decide), quo2' (by omega), wrap_succ (by omega), if_pos hx, digs_loop n (x / 2) (d + 1) (by omega) (by omega) (by omega), show d + 1 + digs n (x / 2) = d + (digs n (x / 2) + 1) by omega]
    · rw [decide_eq_false (by omega), cond_false, if_neg hx]; rfl

theorem steady_loop {a b : List Int} (hb : b.length = a.length) (hl : a.length ≤ 300) (h0 : a.length ≠ 0) {J : Bool → Option Bool} : ∀ (n i : Nat) (s : Bool), i ≤ a.length → a.length - i < n →
    ∃ t, F_clockworklaw54_VerifyBisects_L1 a b J n s (i : Int) = J t ∧ (t = true → s = true ∧ ∀ k : Nat, i ≤ k → k < a.length → dif a b (k : Int) = true)
  | 0, i, s, _, h => by omega
  | n + 1, i, s, h1, h2 => by
    rw [F_clockworklaw54_VerifyBisects_L1, w64 (n := ((a.length : Nat) : Int) - 1) (by omega) (by omega)]
    rcases Nat.lt_or_ge i a.length with hi | hi
    · rw [decide_eq_true (by omega), cond_true, req_pos (fun _ => by omega), req_pos (fun _ => by omega), wrap_succ (by omega)]
      obtain ⟨t, h3, h4⟩ := steady_loop hb hl h0 (J := J) n (i + 1) (s && ((cond (s == true) (atI a (i : Int)) default) != (cond (s == true) (atI b (i : Int)) default))) (by omega) (by omega)
      refine ⟨t, h3, fun ht => ?_⟩
      obtain ⟨h5, h6⟩ := h4 ht
      cases s with
      | false => simp at h5
      | true =>
        refine ⟨rfl, fun k hk1 hk2 => ?_⟩
        rcases Nat.lt_or_ge i k with h | h
        · exact h6 k h hk2
        · rw [show k = i by omega]
          simpa [dif] using h5
    · rw [decide_eq_false (by omega), cond_false]
      exact ⟨s, rfl, fun h => ⟨h, fun k h5 h6 => by omega⟩⟩

theorem plain_VerifyBisects (x0 : List Int) (x1 : List Int) (o0 : (okL (okI .u64)) x0) (o1 : (okL (okI .u64)) x1) : F_clockworklaw54_VerifyBisects x0 x1 = some true := by
  unfold F_clockworklaw54_VerifyBisects
  rw [works_t]
  by_cases h : x0.length ≤ 300 ∧ x1.length = x0.length ∧ x0.length ≠ 0
  · obtain ⟨hl, hb, h0⟩ := h
    rw [show (decide ((300 : Int) < ((x0.length : Nat) : Int)) || (((x0.length : Nat) : Int) != ((x1.length : Nat) : Int)) || (((x0.length : Nat) : Int) == 0)) = false by
      simp only [Bool.or_eq_false_iff, bne_eq_false_iff_eq, beq_eq_false_iff_ne, decide_eq_false_iff_not]; omega, cond_false]
    obtain ⟨r, hr, r1, r2, r3, r4⟩ := bis_whole hb hl h0
    have hdl := digs_le (x0.length + 1) x0.length
    have e1 : IntKind.i64.wrap (((x0.length : Nat) : Int) - 1) = (x0.length : Int) - 1 := w64 (by omega) (by omega)
    rw [hr, bnd_mk, jn_mk]
    refine (digs_loop (((x0.length : Nat) : Int).toNat + 1) x0.length 0 hl (by omega) (by omega)).trans ?_
    rw [Nat.zero_add, show (((x0.length : Nat) : Int)).toNat + 1 = x0.length + 1 by omega, w64 (n := ((digs (x0.length + 1) x0.length : Nat) : Int) + 1) (by omega) (by omega),
      show (decide (r.2 < (1 : Int)) || decide (((digs (x0.length + 1) x0.length : Nat) : Int) + 1 < r.2)) = false by simp only [Bool.or_eq_false_iff, decide_eq_false_iff_not]; omega, cond_false, e1, req_pos (by omega), req_pos (by omega)]
    by_cases hd : dif x0 x1 ((x0.length : Int) - 1) = true
    · obtain ⟨q1, q2, q3, q4⟩ := r4 hd
      rw [show (atI x0 ((x0.length : Int) - 1) == atI x1 ((x0.length : Int) - 1)) = false by simpa [dif] using hd, cond_false, req_pos (fun _ => by omega), req_pos (fun _ => by omega),
        show (decide (r.1 < 0) || decide ((x0.length : Int) - 1 < r.1)) = false by simp only [Bool.or_eq_false_iff, decide_eq_false_iff_not]; omega,
        show (false == false) = true from rfl, cond_true, cond_true, Bool.false_or, show (atI x0 r.1 == atI x1 r.1) = false by simpa [dif] using q3, bnd_mk, w64 (n := r.1 - 1) (by omega) (by omega),
        req_pos (fun h => by simp at h; omega), req_pos (fun h => by simp at h; omega)]
      have hcond : (false || (decide (0 < r.1) && ((cond ((decide (0 < r.1) == true) && (false == false)) (atI x0 (r.1 - 1)) default) != (cond ((decide (0 < r.1) == true) && (false == false)) (atI x1 (r.1 - 1)) default)))) = false := by
        by_cases hz : 0 < r.1
        · rw [decide_eq_true hz]
          have := q4 hz
          simpa [dif] using this
        · rw [decide_eq_false hz]; rfl
      rw [hcond, cond_false]
      obtain ⟨m, hm⟩ := first_end x0 x1
      have hml : m = x0.length := by omega
      subst hml
      have hF : ∃ f : Nat, f < x0.length ∧ F_verify_First x0 x1 = some (f : Int) ∧ dif x0 x1 (f : Int) = true ∧ ∀ j : Nat, j < f → dif x0 x1 (j : Int) = false := by
        unfold F_verify_First
        rw [jn_mk]
        rcases first_spec (E := cond (((x0.length : Nat) : Int) == ((x1.length : Nat) : Int)) (some (-1 : Int)) (some (min ((x0.length : Nat) : Int) ((x1.length : Nat) : Int)))) hm hl ((min ((x0.length : Nat) : Int) ((x1.length : Nat) : Int)).toNat + 1) 0 (by omega) (by omega) with ⟨f, _, h4, h5, h6, h7⟩ | ⟨_, h4⟩
        · exact ⟨f, h4, h5, h6, fun j hj => h7 j (Nat.zero_le _) hj⟩
        · have := h4 (x0.length - 1) (Nat.zero_le _) (by omega)
          rw [show ((x0.length - 1 : Nat) : Int) = (x0.length : Int) - 1 by omega, hd] at this
          cases this
      obtain ⟨f, f1, f2, f3, f4⟩ := hF
      rw [f2, bnd_mk, jn_mk, show max (f : Int) 0 = (f : Int) by omega]
      obtain ⟨t, t1, t2⟩ := steady_loop hb hl h0 (J := fun (x27 : Bool) => (bnd (gcall ((((!x27) || (r.1 == (f : Int)))) == true) (some true)) fun x30 => (some (((!x27) || (r.1 == (f : Int))) && x30)))) (((x0.length : Int) - 1).toNat + 2) f true (by omega) (by omega)
      refine t1.trans ?_
      have : ((!t) || (r.1 == (f : Int))) = true := by
        cases t with
        | false => rfl
        | true =>
          obtain ⟨_, t3⟩ := t2 rfl
          rw [Bool.not_true, Bool.false_or, beq_iff_eq]
          rcases Int.lt_trichotomy r.1 (f : Int) with h | h | h
          · have := f4 r.1.toNat (by omega)
            rw [Int.toNat_of_nonneg q1, q3] at this; cases this
          · exact h
          · have h5 := t3 (r.1 - 1).toNat (by omega) (by omega)
            rw [Int.toNat_of_nonneg (by omega), q4 (by omega)] at h5; cases h5
      rw [this]; rfl
    · have hd : dif x0 x1 ((x0.length : Int) - 1) = false := by simpa using hd
      rw [show (atI x0 ((x0.length : Int) - 1) == atI x1 ((x0.length : Int) - 1)) = true by simpa [dif] using hd, cond_true, r3 hd]
      rfl
  · rw [show (decide ((300 : Int) < ((x0.length : Nat) : Int)) || (((x0.length : Nat) : Int) != ((x1.length : Nat) : Int)) || (((x0.length : Nat) : Int) == 0)) = true by
      simp only [Bool.or_eq_true, bne_iff_ne, beq_iff_eq, decide_eq_true_iff]; omega, cond_true]
    rfl

end Go.Proofs.YtonijgmopcmldaaGreat
