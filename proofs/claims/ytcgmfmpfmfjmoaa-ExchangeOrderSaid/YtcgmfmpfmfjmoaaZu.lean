/-
  Chapter 31, plain texts: what is collected does not depend on the order of mails, nor on their repetition.
  Conditions: none.
-/
import Derived.Test.YtcgmfmpfmfjmoaaZs
set_option linter.all false
namespace Go.Proofs.Ytcgmfmpfmfjmoaa

def dj (a b : List TPair) : Prop := ∀ x ∈ a, ∀ y ∈ b, x.Key ≠ y.Key

theorem union_dj {a b : List TPair} (ha : staB a = true) (hb : staB b = true) (hd : dj a b) : ∃ u, unionP a b = (u, 0) ∧ staB u = true ∧ ∀ x, x ∈ u ↔ x ∈ a ∨ x ∈ b := by
  obtain ⟨g1, g2⟩ := mg_spec (sta_iff.1 ha).2 (sta_iff.1 hb).2
  have hf : (mg a b).2 = false := by
    rw [g1, List.any_eq_false]
    intro y hy e
    obtain ⟨x, hx, e⟩ := List.any_eq_true.1 e
    exact hd x hx y hy (eq_of_beq e)
  obtain ⟨g3, g4⟩ := g2 hf
  refine ⟨(mg a b).1, ?_, sta_iff.2 ⟨fun x hx => ?_, g3⟩, g4⟩
  · rw [unionP, ha, hb, hf]; rfl
  · rcases (g4 x).1 hx with h | h
    · exact (sta_iff.1 ha).1 x h
    · exact (sta_iff.1 hb).1 x h

theorem union_not {a b : List TPair} (ha : staB a = true) (hb : staB b = true) (hd : ¬ dj a b) : unionP a b = ([], 8) := by
  obtain ⟨g1, _⟩ := mg_spec (sta_iff.1 ha).2 (sta_iff.1 hb).2
  have hf : (mg a b).2 = true := by
    cases h : (mg a b).2 with
    | true => rfl
    | false =>
      exfalso
      apply hd
      intro x hx y hy e
      rw [g1] at h
      have := List.any_eq_false.1 h y hy
      rw [Bool.not_eq_true, List.any_eq_false] at this
      exact this x hx (by simpa using e)
  rw [unionP, ha, hb, hf]; rfl

/-- The mails that are left can be put together with what is there. -/
def fit (seen : List TMail) (out : List TPair) (l : List TMail) : Prop :=
  (∀ m ∈ l, ∀ x ∈ seen, x.From ≠ m.From) ∧ l.Pairwise (fun a b => a.From ≠ b.From) ∧ (∀ m ∈ l, dj out m.Pairs) ∧ l.Pairwise (fun a b => dj a.Pairs b.Pairs)

theorem clP_spec : ∀ (l seen : List TMail) (out : List TPair), staB out = true → (∀ m ∈ l, staB m.Pairs = true) →
    (fit seen out l → ∃ u, clP seen out l = (u, 0) ∧ staB u = true ∧ ∀ x, x ∈ u ↔ x ∈ out ∨ ∃ m ∈ l, x ∈ m.Pairs) ∧ (¬ fit seen out l → clP seen out l = ([], 8))
  | [], seen, out, ho, _ => by
    refine ⟨fun _ => ⟨out, by rw [clP], ho, by simp⟩, fun h => absurd ?_ h⟩
    exact ⟨by simp, by simp, by simp, by simp⟩
  | m :: l, seen, out, ho, hv => by
    have hm := hv m (by simp)
    rw [clP]
    cases hs : seen.any fun x => x.From == m.From with
    | true =>
      refine ⟨fun ⟨h1, _⟩ => ?_, fun _ => rfl⟩
      exfalso
      obtain ⟨x, hx, e⟩ := List.any_eq_true.1 hs
      exact h1 m (by simp) x hx (eq_of_beq e)
    | false =>
      have hs' : ∀ x ∈ seen, x.From ≠ m.From := fun x hx e => List.any_eq_false.1 hs x hx (by simpa using e)
      rw [cond_false]
      by_cases hd : dj out m.Pairs
      · obtain ⟨u, e1, e2, e3⟩ := union_dj ho hm hd
        rw [e1]
        rw [show (((u, (0 : Int))).2 != 0) = false from rfl, cond_false]
        obtain ⟨h1, h2⟩ := clP_spec l (seen ++ [m]) u e2 (fun x hx => hv x (by simp [hx]))
        have key : fit seen out (m :: l) ↔ fit (seen ++ [m]) u l := by
          unfold fit
          rw [List.pairwise_cons, List.pairwise_cons]
          constructor
          · rintro ⟨a1, ⟨a2, a3⟩, a4, ⟨a5, a6⟩⟩
            refine ⟨fun y hy x hx => ?_, a3, fun y hy x hx z hz => ?_, a6⟩
            · rcases List.mem_append.1 hx with hx | hx
              · exact a1 y (by simp [hy]) x hx
              · rw [List.mem_singleton.1 hx]; exact a2 y hy
            · rcases (e3 x).1 hx with hx | hx
              · exact a4 y (by simp [hy]) x hx z hz
              · exact a5 y hy x hx z hz
          · rintro ⟨a1, a3, a4, a6⟩
            refine ⟨fun y hy x hx => ?_, ⟨fun y hy => a1 y hy m (by simp), a3⟩, fun y hy => ?_, ⟨fun y hy x hx z hz => a4 y hy x ((e3 x).2 (.inr hx)) z hz, a6⟩⟩
            · rcases List.mem_cons.1 hy with rfl | hy
              · exact hs' x hx
              · exact a1 y hy x (by simp [hx])
            · rcases List.mem_cons.1 hy with rfl | hy
              · exact hd
              · exact fun x hx z hz => a4 y hy x ((e3 x).2 (.inl hx)) z hz
        refine ⟨fun h => ?_, fun h => h2 (fun h' => h (key.2 h'))⟩
        obtain ⟨v, v1, v2, v3⟩ := h1 (key.1 h)
        refine ⟨v, v1, v2, fun x => ?_⟩
        rw [v3, e3, or_assoc]
        simp
      · rw [union_not ho hm hd]
        refine ⟨fun ⟨_, _, h, _⟩ => absurd (h m (by simp)) hd, fun _ => rfl⟩

theorem collect_perm {a b : List TMail} (h : List.Perm a b) : collectP a = collectP b := by
  unfold collectP
  rw [h.length_eq]
  cases ((b.length : Int) == 0) with
  | true => rfl
  | false =>
    rw [cond_false, cond_false]
    have hany : (a.any fun m => !staB m.Pairs) = (b.any fun m => !staB m.Pairs) := by
      rw [Bool.eq_iff_iff, List.any_eq_true, List.any_eq_true]
      exact ⟨fun ⟨x, hx, e⟩ => ⟨x, h.mem_iff.1 hx, e⟩, fun ⟨x, hx, e⟩ => ⟨x, h.mem_iff.2 hx, e⟩⟩
    rw [hany]
    cases hv : (b.any fun m => !staB m.Pairs) with
    | true => rfl
    | false =>
      rw [cond_false, cond_false]
      have hb : ∀ m ∈ b, staB m.Pairs = true := fun m hm => by simpa using List.any_eq_false.1 hv m hm
      have ha : ∀ m ∈ a, staB m.Pairs = true := fun m hm => hb m (h.mem_iff.1 hm)
      have h0 : staB ([] : List TPair) = true := sta_iff.2 ⟨by simp, List.Pairwise.nil⟩
      obtain ⟨a1, a2⟩ := clP_spec a [] [] h0 ha
      obtain ⟨b1, b2⟩ := clP_spec b [] [] h0 hb
      have hfit : fit [] [] a ↔ fit [] [] b := by
        unfold fit
        rw [h.pairwise_iff (R := fun a b : TMail => a.From ≠ b.From) (fun {x y} e e2 => e e2.symm), h.pairwise_iff (R := fun a b : TMail => dj a.Pairs b.Pairs) (fun {x y} e z hz w hw e2 => e w hw z hz e2.symm)]
        simp [dj]
      by_cases hf : fit [] [] b
      · obtain ⟨u, u1, u2, u3⟩ := a1 (hfit.2 hf)
        obtain ⟨v, v1, v2, v3⟩ := b1 hf
        rw [u1, v1, kasc_ext (sta_iff.1 u2).2 (sta_iff.1 v2).2 fun x => ?_]
        rw [u3, v3]
        exact or_congr_right ⟨fun ⟨m, hm, e⟩ => ⟨m, h.mem_iff.1 hm, e⟩, fun ⟨m, hm, e⟩ => ⟨m, h.mem_iff.2 hm, e⟩⟩
      · rw [b2 hf, a2 (fun h' => hf (hfit.1 h'))]

theorem fold_mine_nodup (txn node : Int) : ∀ (l out : List TMail), out.Nodup → (l.foldl (fun out m => cond (((m.Txn == txn) && (m.To == node)) && !(out.any fun x => mailEq x m)) (out ++ [m]) out) out).Nodup ∧
    ∀ x, x ∈ l.foldl (fun out m => cond (((m.Txn == txn) && (m.To == node)) && !(out.any fun x => mailEq x m)) (out ++ [m]) out) out ↔ x ∈ out ∨ (x ∈ l ∧ x.Txn = txn ∧ x.To = node)
  | [], out, h => by simp [h]
  | m :: l, out, h => by
    rw [List.foldl_cons]
    cases hc : (m.Txn == txn) && (m.To == node) with
    | false =>
      obtain ⟨h1, h2⟩ := fold_mine_nodup txn node l out h
      rw [Bool.false_and, cond_false]
      refine ⟨h1, fun x => ?_⟩
      rw [h2, List.mem_cons]
      constructor
      · rintro (h | h)
        · exact .inl h
        · exact .inr ⟨.inr h.1, h.2⟩
      · rintro (h | ⟨h | h, h'⟩)
        · exact .inl h
        · subst h
          simp [h'.1, h'.2] at hc
        · exact .inr ⟨h, h'⟩
    | true =>
      have hc' : m.Txn = txn ∧ m.To = node := by simpa using hc
      cases ha : out.any fun x => mailEq x m with
      | true =>
        obtain ⟨h1, h2⟩ := fold_mine_nodup txn node l out h
        obtain ⟨y, hy, e⟩ := List.any_eq_true.1 ha
        have e := (mailEq_iff y m).1 e
        subst e
        rw [Bool.not_true, Bool.and_false, cond_false]
        refine ⟨h1, fun x => ?_⟩
        rw [h2, List.mem_cons]
        constructor
        · rintro (h | h)
          · exact .inl h
          · exact .inr ⟨.inr h.1, h.2⟩
        · rintro (h | ⟨h | h, h'⟩)
          · exact .inl h
          · subst h; exact .inl hy
          · exact .inr ⟨h, h'⟩
      | false =>
        have hn : m ∉ out := fun hm => by
          have := List.any_eq_false.1 ha m hm
          exact this ((mailEq_iff m m).2 rfl)
        obtain ⟨h1, h2⟩ := fold_mine_nodup txn node l (out ++ [m]) (by
          rw [List.nodup_append]
          refine ⟨h, by simp, fun x hx y hy e => ?_⟩
          rw [List.mem_singleton.1 hy] at e
          rw [e] at hx
          exact hn hx)
        rw [Bool.not_false, Bool.and_true, cond_true]
        refine ⟨h1, fun x => ?_⟩
        rw [h2, List.mem_append, List.mem_singleton, List.mem_cons]
        constructor
        · rintro ((h | h) | h)
          · exact .inl h
          · subst h; exact .inr ⟨.inl rfl, hc'⟩
          · exact .inr ⟨.inr h.1, h.2⟩
        · rintro (h | ⟨h | h, h'⟩)
          · exact .inl (.inl h)
          · exact .inl (.inr h)
          · exact .inr ⟨h, h'⟩

theorem mine_perm {txn node : Int} {a b : List TMail} (h : ∀ x, x ∈ a ↔ x ∈ b) : List.Perm (mine txn node a) (mine txn node b) := by
  obtain ⟨a1, a2⟩ := fold_mine_nodup txn node a [] List.nodup_nil
  obtain ⟨b1, b2⟩ := fold_mine_nodup txn node b [] List.nodup_nil
  refine (List.perm_ext_iff_of_nodup a1 b1).2 fun x => ?_
  rw [a2, b2, h]

theorem collect_small {l : List TMail} (hlen : l.length ≤ 100) (h : ∀ m ∈ l, MOk m ∧ m.Pairs.length ≤ 100) (txn node : Int) : (collectP (mine txn node l)).1.length < 9223372036854775808 := by
  have ho : ∀ m ∈ mine txn node l, MOk m ∧ m.Pairs.length ≤ 100 := fun m hm => h m (mine_sub hm).1
  have hol : (mine txn node l).length ≤ 100 := Nat.le_trans (mine_len _ _ _) hlen
  generalize mine txn node l = own at ho hol ⊢
  have key : ∀ (l seen : List TMail) (out : List TPair), (∀ m ∈ l, MOk m ∧ m.Pairs.length ≤ 100) → PrOk out → out.length + 100 * l.length ≤ 100000 → (clP seen out l).1.length ≤ 100000 := by
    intro l
    induction l with
    | nil => intro seen out _ _ h; simpa [clP] using h
    | cons m l ih =>
      intro seen out h1 h2 h3
      rw [clP]
      rw [List.length_cons] at h3
      have hm := h1 m (by simp)
      have hu := union_inv h2 hm.1.p (by omega)
      cases seen.any fun x => x.From == m.From with
      | true => simp
      | false =>
        cases ((unionP out m.Pairs).2 != 0) with
        | true => simp
        | false => exact ih _ _ (fun x hx => h1 x (by simp [hx])) hu.2 (by omega)
  unfold collectP
  cases ((own.length : Int) == 0) with
  | true => simp
  | false =>
    cases (own.any fun m => !staB m.Pairs) with
    | true => simp
    | false => exact Nat.lt_of_le_of_lt (key own [] [] ho PrOk.nil (by simp; omega)) (by decide)

end Go.Proofs.Ytcgmfmpfmfjmoaa
