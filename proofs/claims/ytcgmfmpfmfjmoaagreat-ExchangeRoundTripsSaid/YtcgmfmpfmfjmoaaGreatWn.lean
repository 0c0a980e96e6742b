/-
  THE LAWS ON THE CODES OF MAILS.
  Conditions: none.
-/
import Derived.Test.YtcgmfmpfmfjmoaaGreatOp
import Derived.Test.YtcgmfmpfmfjmoaaGreatEs
import Derived.Test.YtcgmfmpfmfjmoaaGreatWm
set_option linter.all false
namespace Go.Proofs.YtcgmfmpfmfjmoaaGreat
open Go.ChangeShapes

theorem few_str {l : List TPair} (hl : l.length < 9223372036854775808) {m : Nat} (hm : m < 900000) : ∃ b, F_clockworkref31_Few l (m : Int) = some b ∧ (b = true → l.length ≤ m ∧ ∀ x ∈ l, x.Key.length ≤ 100 ∧ x.Val.S.length ≤ 100) := by
  unfold F_clockworkref31_Few
  simp only [jn_mk]
  have key : ∀ n (i : Nat), i ≤ m + 1 → m + 1 - i < n → (∀ k (hk : k < l.length), k < i → (l[k]).Key.length ≤ 100 ∧ (l[k]).Val.S.length ≤ 100) → ∃ b, F_clockworkref31_Few_L1 l (m : Int) (some (decide (((l.length : Nat) : Int) ≤ (m : Int)))) n (i : Int) = some b ∧ (b = true → l.length ≤ m ∧ ∀ x ∈ l, x.Key.length ≤ 100 ∧ x.Val.S.length ≤ 100) := by
    intro n
    induction n with
    | zero => intro i _ h; omega
    | succ n ih =>
      intro i hi hn hg
      rw [F_clockworkref31_Few_L1]
      by_cases h : i < l.length ∧ i ≤ m
      · have hc : (decide ((i : Int) < ((l.length : Nat) : Int)) && decide ((i : Int) ≤ (m : Int))) = true := by simp; omega
        rw [hc, cond_true, req_pos ⟨by omega, by omega⟩, req_pos (fun _ => ⟨by omega, by omega⟩), wrap_succ (by omega), atI_nat h.1]
        by_cases hk : (100 : Int) < (l[i].Key.length : Int)
        · exact ⟨false, by rw [decide_eq_true hk]; rfl, by simp⟩
        · by_cases hv : (100 : Int) < (l[i].Val.S.length : Int)
          · refine ⟨false, ?_, by simp⟩
            rw [decide_eq_false hk]
            simp only [BEq.rfl, cond_true, decide_eq_true hv, Bool.or_true]
          · obtain ⟨b, e, e2⟩ := ih (i + 1) (by omega) (by omega) (fun k hk' hki => by
              rcases Nat.lt_or_ge k i with h' | h'
              · exact hg k hk' h'
              · have : k = i := by omega
                subst this
                omega)
            refine ⟨b, ?_, e2⟩
            rw [decide_eq_false hk]
            simp only [BEq.rfl, cond_true, decide_eq_false hv, Bool.or_self, cond_false, e]
      · have hc : (decide ((i : Int) < ((l.length : Nat) : Int)) && decide ((i : Int) ≤ (m : Int))) = false := by
          rw [Bool.eq_false_iff]; simp; omega
        rw [hc, cond_false]
        refine ⟨_, rfl, fun hb => ?_⟩
        have hb : l.length ≤ m := by have := of_decide_eq_true hb; omega
        refine ⟨hb, fun x hx => ?_⟩
        obtain ⟨k, hk, rfl⟩ := List.getElem_of_mem hx
        exact hg k hk (by omega)
  have := key 1000000 0 (by omega) (by omega) (fun k _ h => by omega)
  rw [show ((0 : Nat) : Int) = 0 from rfl] at this
  exact this

theorem few_one {m : TMail} (hk : m.Keys.length < 9223372036854775808) (hp : m.Pairs.length < 9223372036854775808) : ∃ b, F_clockworkref31_FewMails [m] = some b ∧ (b = true → (m.Keys.length ≤ 10 ∧ ∀ x ∈ m.Keys, x.length ≤ 100) ∧ m.Pairs.length ≤ 10 ∧ ∀ x ∈ m.Pairs, x.Key.length ≤ 100 ∧ x.Val.S.length ≤ 100) := by
  unfold F_clockworkref31_FewMails
  simp only [jn_mk]
  rw [show (1000000 : Nat) = 999999 + 1 from rfl, F_clockworkref31_FewMails_L1]
  rw [show (decide ((0 : Int) < ((([m] : List TMail).length : Nat) : Int)) && decide ((0 : Int) < (13 : Int))) = true from rfl, cond_true, req_pos (by simp), req_pos (by simp), show atI [m] (0 : Int) = m from rfl]
  by_cases hk10 : (10 : Int) < ((m.Keys.length : Nat) : Int)
  · refine ⟨false, ?_, by simp⟩
    rw [decide_eq_true hk10]
    rfl
  · obtain ⟨b, e, e2⟩ := few_str hp (m := 10) (by decide)
    rw [decide_eq_false hk10]
    simp only [BEq.rfl, cond_true, gcall_t, Bool.false_or]
    rw [show ((10 : Int)) = ((10 : Nat) : Int) from rfl, e, bnd_mk]
    cases b with
    | false => exact ⟨false, rfl, by simp⟩
    | true =>
      simp only [Bool.not_true, cond_false, jn_mk]
      have hJ : F_clockworkref31_FewMails_L1 [m] (some (decide (((([m] : List TMail).length : Nat) : Int) ≤ (12 : Int)))) 999999 (IntKind.i64.wrap ((0 : Int) + 1)) = some true := by
        rw [show (999999 : Nat) = 999998 + 1 from rfl, F_clockworkref31_FewMails_L1, show IntKind.i64.wrap ((0 : Int) + 1) = 1 from by decide]
        rfl
      rw [hJ]
      have := loopAny0 (l := m.Keys) (by omega) (L := fun n k => F_clockworkref31_FewMails_L2 0 [m] (some true) n k) (q := fun k => decide ((100 : Int) < (k.length : Int))) (E := some false) (J := some true) (n := 999999 + 1) (by omega) ?_ ?_
      · refine ⟨_, this.trans (show _ = some (!(m.Keys.any fun k => decide ((100 : Int) < (k.length : Int)))) by cases (m.Keys.any fun k => decide ((100 : Int) < (k.length : Int))) <;> rfl), fun hb => ⟨⟨by omega, fun x hx => ?_⟩, (e2 rfl).1, (e2 rfl).2⟩⟩
        simp only [Bool.not_eq_true', List.any_eq_false, decide_eq_true_eq] at hb
        have := hb x hx
        omega
      · intro n k hk'
        try dsimp only
        rw [F_clockworkref31_FewMails_L2]
        simp only [show atI [m] (0 : Int) = m from rfl, show (k : Int) < (m.Keys.length : Int) by omega, decide_true, cond_true, show 0 ≤ (k : Int) by omega, and_self, req_t, atI_nat hk']
        rw [req_pos (by simp), req_pos (by simp)]
      · intro n
        try dsimp only
        rw [F_clockworkref31_FewMails_L2]
        simp only [show atI [m] (0 : Int) = m from rfl]
        rw [req_pos (by simp), decide_eq_false (by omega), cond_false]

end Go.Proofs.YtcgmfmpfmfjmoaaGreat
