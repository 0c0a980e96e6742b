/-
  Chapter 31, plain texts: mails; what a node keeps, sends and waits for.
  Conditions: none.
-/
import Derived.Test.YtcgmfmpfmfjmoaaGreatEp
set_option linter.all false
namespace Go.Proofs.YtcgmfmpfmfjmoaaGreat

/-- The lengths within a mail. -/
structure MOk (m : TMail) : Prop where
  kl : m.Keys.length < 9223372036854775808
  p : PrOk m.Pairs

def mailEq (a b : TMail) : Bool := (((a.Txn == b.Txn) && (a.From == b.From)) && (a.To == b.To)) && eqL strEq a.Keys b.Keys && eqL pairEq a.Pairs b.Pairs

theorem mailEq_iff (a b : TMail) : mailEq a b = true ↔ a = b := by
  obtain ⟨t, f, o, k, p⟩ := a
  obtain ⟨t', f', o', k', p'⟩ := b
  simp only [mailEq, Bool.and_eq_true, beq_iff_eq, eqL_iff strEq_iff, eqL_iff pairEq_iff, TMail.mk.injEq]
  constructor
  · rintro ⟨⟨⟨⟨a, b⟩, c⟩, d⟩, e⟩; exact ⟨a, b, c, d, e⟩
  · rintro ⟨a, b, c, d, e⟩; exact ⟨⟨⟨⟨a, b⟩, c⟩, d⟩, e⟩

theorem same31 {a b : TMail} (ha : MOk a) (hb : MOk b) : F_clockworkref31_Same a b = some (mailEq a b) := by
  unfold F_clockworkref31_Same mailEq
  rw [same04 ha.kl hb.kl, same06 ha.p.l hb.p.l]
  cases (((a.Txn == b.Txn) && (a.From == b.From)) && (a.To == b.To)) with
  | false => simp [gcall, bnd]
  | true => cases eqL strEq a.Keys b.Keys <;> simp [gcall, bnd]

theorem same_ex {a b : TMail} (ha : MOk a) (hb : MOk b) : F_exchange_same a b = some (mailEq a b) := by
  unfold F_exchange_same mailEq
  rw [same_keys ha.kl hb.kl, same_st ha.p.l hb.p.l]
  cases (((a.Txn == b.Txn) && (a.From == b.From)) && (a.To == b.To)) with
  | false => simp [gcall, bnd]
  | true => cases eqL strEq a.Keys b.Keys <;> simp [gcall, bnd]

theorem few_eq {l : List TPair} (hl : l.length < 9223372036854775808) {m : Nat} (hm : m < 900000) : ∃ b, F_clockworkref31_Few l (m : Int) = some b ∧ (b = true → l.length ≤ m) := by
  unfold F_clockworkref31_Few
  simp only [jn_mk]
  have key : ∀ n (i : Nat), i ≤ m + 1 → m + 1 - i < n → ∃ b, F_clockworkref31_Few_L1 l (m : Int) (some (decide (((l.length : Nat) : Int) ≤ (m : Int)))) n (i : Int) = some b ∧ (b = true → l.length ≤ m) := by
    intro n
    induction n with
    | zero => intro i _ h; omega
    | succ n ih =>
      intro i hi hn
      rw [F_clockworkref31_Few_L1]
      by_cases h : i < l.length ∧ i ≤ m
      · have hc : (decide ((i : Int) < ((l.length : Nat) : Int)) && decide ((i : Int) ≤ (m : Int))) = true := by simp; omega
        rw [hc, cond_true, req_pos ⟨by omega, by omega⟩, req_pos (fun _ => ⟨by omega, by omega⟩), wrap_succ (by omega)]
        obtain ⟨b, e, e2⟩ := ih (i + 1) (by omega) (by omega)
        rw [e]
        cases (_ || _ : Bool) with
        | true => exact ⟨false, rfl, by simp⟩
        | false => exact ⟨b, rfl, e2⟩
      · have hc : (decide ((i : Int) < ((l.length : Nat) : Int)) && decide ((i : Int) ≤ (m : Int))) = false := by
          rw [Bool.eq_false_iff]; simp; omega
        rw [hc, cond_false]
        exact ⟨_, rfl, by simp⟩
  have := key 1000000 0 (by omega) (by omega)
  rw [show ((0 : Nat) : Int) = 0 from rfl] at this
  exact this

def smallM (m : TMail) : Prop := m.Keys.length ≤ 10 ∧ m.Pairs.length ≤ 10

theorem fewMails_eq {l : List TMail} (hl : l.length < 9223372036854775808) (h : ∀ m ∈ l, MOk m) : ∃ b, F_clockworkref31_FewMails l = some b ∧ (b = true → l.length ≤ 12 ∧ ∀ m ∈ l, smallM m) := by
  unfold F_clockworkref31_FewMails
  simp only [jn_mk]
  have hK : ∀ (i : Nat) (hi : i < l.length) (J : Option Bool) (N : Nat), 10 < N → (l[i]).Keys.length ≤ 10 → F_clockworkref31_FewMails_L2 (i : Int) l J N 0 = some false ∨ F_clockworkref31_FewMails_L2 (i : Int) l J N 0 = J := by
    intro i hi J N hN hk
    have := loopAny0 (l := (l[i]).Keys) (by omega) (L := fun n k => F_clockworkref31_FewMails_L2 (i : Int) l J n k) (q := fun k => decide ((100 : Int) < (k.length : Int))) (E := some false) (J := J) (n := N) (by omega) ?_ ?_
    · rw [this]; cases ((l[i]).Keys.any fun k => decide ((100 : Int) < (k.length : Int))) <;> simp
    · intro n k hk
      try dsimp only
      rw [F_clockworkref31_FewMails_L2]
      simp only [atI_nat hi, show (i : Int) < (l.length : Int) by omega, show (k : Int) < ((l[i]).Keys.length : Int) by omega, decide_true, cond_true, show 0 ≤ (i : Int) by omega, show 0 ≤ (k : Int) by omega, and_self, req_t, atI_nat hk]
    · intro n
      try dsimp only
      rw [F_clockworkref31_FewMails_L2]
      simp only [atI_nat hi, show (i : Int) < (l.length : Int) by omega, show 0 ≤ (i : Int) by omega, and_self, req_t]
      simp
  have key : ∀ n (i : Nat), i ≤ 13 → 13 - i < n → (∀ k (hk : k < l.length), k < i → smallM l[k]) → ∃ b, F_clockworkref31_FewMails_L1 l (some (decide (((l.length : Nat) : Int) ≤ (12 : Int)))) n (i : Int) = some b ∧ (b = true → l.length ≤ 12 ∧ ∀ m ∈ l, smallM m) := by
    intro n
    induction n with
    | zero => intro i _ h; omega
    | succ n ih =>
      intro i hi hn hs
      rw [F_clockworkref31_FewMails_L1]
      by_cases h1 : i < l.length ∧ i < 13
      · have hm := h _ (List.getElem_mem h1.1)
        have hc : (decide ((i : Int) < ((l.length : Nat) : Int)) && decide ((i : Int) < (13 : Int))) = true := by simp; omega
        rw [hc, cond_true, req_pos ⟨by omega, by omega⟩, req_pos (fun _ => ⟨by omega, by omega⟩), wrap_succ (by omega), atI_nat h1.1]
        by_cases hk : (10 : Int) < ((l[i].Keys.length : Nat) : Int)
        · refine ⟨false, ?_, by simp⟩
          rw [show decide ((10 : Int) < ((l[i].Keys.length : Nat) : Int)) = true from decide_eq_true hk]; rfl
        · obtain ⟨b, e, e2⟩ := few_eq hm.p.l (m := 10) (by decide)
          simp only [hk, decide_false, BEq.rfl, cond_true, gcall_t, Bool.false_or]
          rw [show ((10 : Int)) = ((10 : Nat) : Int) from rfl, e, bnd_mk]
          cases b with
          | false => exact ⟨false, rfl, by simp⟩
          | true =>
            simp only [Bool.not_true, cond_false, jn_mk]
            rcases hK i h1.1 (F_clockworkref31_FewMails_L1 l (some (decide (((l.length : Nat) : Int) ≤ (12 : Int)))) n ((i + 1 : Nat) : Int)) 1000000 (by decide) (by omega) with e3 | e3
            · rw [e3]; exact ⟨false, rfl, by simp⟩
            · rw [e3]
              refine ih (i + 1) (by omega) (by omega) fun k hk hki => ?_
              rcases Nat.lt_or_ge k i with h' | h'
              · exact hs k hk h'
              · have : k = i := by omega
                subst this
                exact ⟨by omega, e2 rfl⟩
      · have hc : (decide ((i : Int) < ((l.length : Nat) : Int)) && decide ((i : Int) < (13 : Int))) = false := by
          rw [Bool.eq_false_iff]; simp; omega
        rw [hc, cond_false]
        refine ⟨_, rfl, fun hb => ?_⟩
        have hb : l.length ≤ 12 := by have := of_decide_eq_true hb; omega
        refine ⟨hb, fun m hm => ?_⟩
        obtain ⟨k, hk, rfl⟩ := List.getElem_of_mem hm
        exact hs k hk (by omega)
  have := key 1000000 0 (by omega) (by omega) (fun k _ h => by omega)
  rw [show ((0 : Nat) : Int) = 0 from rfl] at this
  exact this

/-! ### Collect -/

/-- The different mails of a transaction to a node. -/
def mine (txn node : Int) (l : List TMail) : List TMail :=
  l.foldl (fun out m => cond (((m.Txn == txn) && (m.To == node)) && !(out.any fun x => mailEq x m)) (out ++ [m]) out) []

theorem fold_mine_inv (txn node : Int) : ∀ (l out : List TMail), (l.foldl (fun out m => cond (((m.Txn == txn) && (m.To == node)) && !(out.any fun x => mailEq x m)) (out ++ [m]) out) out).length ≤ out.length + l.length ∧
    ∀ x ∈ l.foldl (fun out m => cond (((m.Txn == txn) && (m.To == node)) && !(out.any fun x => mailEq x m)) (out ++ [m]) out) out, x ∈ out ∨ (x ∈ l ∧ x.Txn = txn ∧ x.To = node)
  | [], out => by simp
  | m :: l, out => by
    rw [List.foldl_cons]
    cases hc : (((m.Txn == txn) && (m.To == node)) && !(out.any fun x => mailEq x m)) with
    | false =>
      obtain ⟨h1, h2⟩ := fold_mine_inv txn node l out
      refine ⟨by simp at h1 ⊢; omega, fun x hx => ?_⟩
      rcases h2 x hx with h | h
      · exact .inl h
      · exact .inr ⟨List.mem_cons_of_mem _ h.1, h.2⟩
    | true =>
      obtain ⟨h1, h2⟩ := fold_mine_inv txn node l (out ++ [m])
      refine ⟨by simp at h1 ⊢; omega, fun x hx => ?_⟩
      rcases h2 x hx with h | h
      · rcases List.mem_append.1 h with h | h
        · exact .inl h
        · rw [List.mem_singleton] at h
          subst h
          simp only [Bool.and_eq_true, beq_iff_eq] at hc
          exact .inr ⟨by simp, hc.1⟩
      · exact .inr ⟨List.mem_cons_of_mem _ h.1, h.2⟩

theorem mine_len (txn node : Int) (l : List TMail) : (mine txn node l).length ≤ l.length := by
  have := (fold_mine_inv txn node l []).1
  simpa [mine] using this

theorem mine_sub {txn node : Int} {l : List TMail} {x : TMail} (h : x ∈ mine txn node l) : x ∈ l ∧ x.Txn = txn ∧ x.To = node := by
  rcases (fold_mine_inv txn node l []).2 x h with h | h
  · simp at h
  · exact h

theorem containsMail {l : List TMail} (hl : l.length < 9223372036854775808) {g : TMail → Option Bool} {q : TMail → Bool} (h : ∀ x ∈ l, g x = some (q x)) : F_slices_ContainsFunc_api_Mail_api_Mail l g = some (l.any q) := by
  unfold F_slices_ContainsFunc_api_Mail_api_Mail F_slices_IndexFunc_api_Mail_api_Mail
  simp only [jn_mk]
  refine loopHas (l := l) hl (L := fun n i => F_slices_IndexFunc_api_Mail_api_Mail_L1 l g (some (-1)) n i) (q := q) ?_ ?_ (by omega)
  · intro n i hi
    try dsimp only
    rw [F_slices_IndexFunc_api_Mail_api_Mail_L1]
    simp only [show (i : Int) < (l.length : Int) by omega, decide_true, cond_true, show 0 ≤ (i : Int) by omega, and_self, req_t, atI_nat hi, h _ (List.getElem_mem hi), bnd_mk]
  · intro n
    try dsimp only
    rw [F_slices_IndexFunc_api_Mail_api_Mail_L1]
    simp

/-- What is collected of the mails that are left, after those that were seen. -/
def clP : List TMail → List TPair → List TMail → List TPair × Int
  | _, out, [] => (out, 0)
  | seen, out, m :: l => cond (seen.any fun x => x.From == m.From) ([], 8) (cond ((unionP out m.Pairs).2 != 0) ([], 8) (clP (seen ++ [m]) (unionP out m.Pairs).1 l))

def collectP (own : List TMail) : List TPair × Int := cond ((own.length : Int) == 0) ([], 9) (cond (own.any fun m => !staB m.Pairs) ([], 1) (clP [] [] own))

theorem union_inv {a b : List TPair} (ha : PrOk a) (hb : PrOk b) (hab : a.length + b.length < 9223372036854775808) : (unionP a b).1.length ≤ a.length + b.length ∧ PrOk (unionP a b).1 := by
  have h1 := mg_len a b
  have h2 := mg_sub a b
  unfold unionP
  cases staB a && staB b with
  | false => exact ⟨by simp, PrOk.nil⟩
  | true =>
    cases (mg a b).2 with
    | true => exact ⟨by simp, PrOk.nil⟩
    | false =>
      refine ⟨h1, ⟨by show (mg a b).1.length < _; omega, fun x hx => ?_⟩⟩
      rcases h2 x hx with h | h
      · exact ha.k x h
      · exact hb.k x h

theorem collect_impl {txn node : Int} {l : List TMail} (hl : l.length ≤ 1000) (h : ∀ m ∈ l, MOk m ∧ m.Pairs.length ≤ 100) : F_exchange_Collect txn node l = some (collectP (mine txn node l)) := by
  unfold F_exchange_Collect
  simp only [jn_mk]
  refine (loopFold (l := l) (by omega) (L := fun n s i => F_exchange_Collect_L3 l txn node (fun x7 =>
        bif ((x7.length : Nat) : Int) == 0 then some ([], 9)
        else
          F_exchange_Collect_L2 x7 (F_exchange_Collect_L1 x7 (fun x13 => some (x13, 0)) (((x7.length : Nat) : Int).toNat + 1) [] 0)
            (((x7.length : Nat) : Int).toNat + 1) 0) n s i) (J := fun x7 =>
        bif ((x7.length : Nat) : Int) == 0 then some ([], 9)
        else
          F_exchange_Collect_L2 x7 (F_exchange_Collect_L1 x7 (fun x13 => some (x13, 0)) (((x7.length : Nat) : Int).toNat + 1) [] 0)
            (((x7.length : Nat) : Int).toNat + 1) 0)
    (f := fun out m => cond (((m.Txn == txn) && (m.To == node)) && !(out.any fun x => mailEq x m)) (out ++ [m]) out) (fun i s => s.length ≤ i ∧ ∀ x ∈ s, MOk x) ?_ ?_ ?_ (by omega) ⟨by simp, by simp⟩).trans ?_
  · rintro n i s hi ⟨hs, hs2⟩
    have hm := h _ (List.getElem_mem hi)
    try dsimp only
    rw [F_exchange_Collect_L3]
    simp only [show (i : Int) < (l.length : Int) by omega, decide_true, cond_true, show 0 ≤ (i : Int) by omega, and_self, req_t, atI_nat hi, jn_mk]
    have hc : F_slices_ContainsFunc_api_Mail_api_Mail s (fun y0 => F_exchange_Collect_1 y0 l[i]) = some (s.any fun x => mailEq x l[i]) :=
      containsMail (by omega) fun x hx => by unfold F_exchange_Collect_1; rw [same_ex (hs2 x hx) hm.1]; rfl
    rw [hc]
    cases (l[i].Txn == txn) && (l[i].To == node) with
    | false => simp [gcall, bnd]
    | true =>
      simp only [BEq.rfl, gcall_t, bnd_mk, Bool.true_and]
      cases (s.any fun x => mailEq x l[i]) with
      | true => simp
      | false =>
        simp only [Bool.not_false, cond_true]
        rw [req_pos (by simp; omega)]
  · rintro i s hi ⟨hs, hs2⟩
    cases (((l[i].Txn == txn) && (l[i].To == node)) && !(s.any fun x => mailEq x l[i])) with
    | false => exact ⟨by simp; omega, hs2⟩
    | true =>
      refine ⟨by simp; omega, fun x hx => ?_⟩
      rcases List.mem_append.1 hx with hx | hx
      · exact hs2 x hx
      · rw [List.mem_singleton.1 hx]; exact (h _ (List.getElem_mem hi)).1
  · rintro n s _
    try dsimp only
    rw [F_exchange_Collect_L3]
    simp only [Int.lt_irrefl, decide_false, cond_false]
  · rw [← mine, collectP]
    have ho : ∀ m ∈ mine txn node l, MOk m ∧ m.Pairs.length ≤ 100 := fun m hm => h m (mine_sub hm).1
    have hol : (mine txn node l).length ≤ 1000 := Nat.le_trans (mine_len _ _ _) hl
    generalize mine txn node l = own at ho hol ⊢
    cases hz : ((own.length : Int) == 0) with
    | true => rfl
    | false =>
      rw [cond_false, cond_false]
      refine (loopAny0 (l := own) (by omega) (L := fun n i => F_exchange_Collect_L2 own (F_exchange_Collect_L1 own (fun x12 => some (x12, 0)) (((own.length : Nat) : Int).toNat + 1) [] 0) n i) (q := fun m => !staB m.Pairs)
        (E := some ([], 1)) (J := F_exchange_Collect_L1 own (fun x12 => some (x12, 0)) (((own.length : Nat) : Int).toNat + 1) [] 0) (n := ((own.length : Nat) : Int).toNat + 1) (by omega) ?_ ?_).trans ?_
      · intro n i hi
        have hm := ho _ (List.getElem_mem hi)
        try dsimp only
        rw [F_exchange_Collect_L2]
        simp only [show (i : Int) < (own.length : Int) by omega, decide_true, cond_true, show 0 ≤ (i : Int) by omega, and_self, req_t, atI_nat hi, svalid_impl hm.1.p, bnd_mk]
      · intro n
        try dsimp only
        rw [F_exchange_Collect_L2]
        simp
      · cases (own.any fun m => !staB m.Pairs) with
        | true => rfl
        | false =>
          rw [cond_false, cond_false]
          have key : ∀ n (i : Nat) (out : List TPair), i ≤ own.length → own.length - i < n → out.length ≤ 100 * i → PrOk out → F_exchange_Collect_L1 own (fun x12 => some (x12, 0)) n out (i : Int) = some (clP (own.take i) out (own.drop i)) := by
            intro n
            induction n with
            | zero => intro i _ _ h; omega
            | succ n ih =>
              intro i out hi hn hlen hok
              rw [F_exchange_Collect_L1]
              rcases Nat.lt_or_ge i own.length with hlt | hge
              · have hm := ho _ (List.getElem_mem hlt)
                have hu := union_inv hok hm.1.p (by omega)
                rw [List.drop_eq_getElem_cons hlt, clP]
                have e1 : own.take i ++ [own[i]] = own.take (i + 1) := by rw [List.take_append_getElem]
                rw [e1]
                simp only [show (i : Int) < (own.length : Int) by omega, decide_true, cond_true, show 0 ≤ (i : Int) by omega, show (i : Int) ≤ (own.length : Int) by omega, Int.le_refl, and_self, req_t, atI_nat hlt, Int.toNat_natCast, Int.toNat_zero, List.drop_zero]
                rw [containsMail (l := own.take i) (g := fun y0 => F_exchange_Collect_2 y0 own[i]) (q := fun x => x.From == own[i].From) (by rw [List.length_take]; omega) (fun x hx => rfl), bnd_mk]
                cases (own.take i).any fun x => x.From == own[i].From with
                | true => rfl
                | false =>
                  rw [cond_false, cond_false, union_impl hok hm.1.p (by omega), bnd_mk]
                  cases ((unionP out own[i].Pairs).2 != 0) with
                  | true => rfl
                  | false =>
                    rw [cond_false, cond_false, wrap_succ (by omega)]
                    exact ih (i + 1) _ (by omega) (by omega) (by omega) hu.2
              · have : i = own.length := by omega
                subst this
                simp [clP]
          have := key (((own.length : Nat) : Int).toNat + 1) 0 [] (by omega) (by omega) (by simp) PrOk.nil
          simpa using this

end Go.Proofs.YtcgmfmpfmfjmoaaGreat
