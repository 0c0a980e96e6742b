/-
  Chapter 31, plain texts: the union of two states, the program's and the reference's.
  Conditions: none.
-/
import Derived.Test.YtcgmfmpfmfjmoaaGreatEo
set_option linter.all false
namespace Go.Proofs.YtcgmfmpfmfjmoaaGreat

theorem order_eq (x y : TPair) : F_state_order x y = some (Go.Lib.compareBytes x.Key y.Key) := rfl

theorem merge_loop {a b : List TPair} (hab : a.length + b.length < 1000000) : ∀ n (i k : Nat) (acc : List TPair) (t : Bool), i ≤ a.length → k ≤ b.length → (a.length - i) + (b.length - k) < n →
    acc.length + (a.length - i) + (b.length - k) ≤ 1000000 → mergeF_L1 a b unKeep unKeep unTwice F_state_order n (acc, t) (i : Int) (k : Int) = some (acc ++ (mg (a.drop i) (b.drop k)).1, t || (mg (a.drop i) (b.drop k)).2) := by
  intro n
  induction n with
  | zero => intro i k acc t _ _ h; omega
  | succ n ih =>
    intro i k acc t hi hk hn hacc
    rw [mergeF_L1]
    simp only [jn_mk]
    have ei : (((i : Int) == (a.length : Int))) = decide (i = a.length) := by rw [Bool.eq_iff_iff]; simp; omega
    have ek : (((k : Int) == (b.length : Int))) = decide (k = b.length) := by rw [Bool.eq_iff_iff]; simp; omega
    have keep : ∀ x, acc.length < 1000000 → unKeep (acc, t) x = some (acc ++ [x], t) := fun x h => by
      unfold unKeep
      rw [req_pos (by simp only [List.length_append, List.length_cons, List.length_nil]; omega)]
    by_cases ha : i = a.length
    · by_cases hb : k = b.length
      · subst ha; subst hb
        simp [mg]
      · have hk' : k < b.length := by omega
        have hc : ((decide ((i : Int) < (a.length : Int))) || decide ((k : Int) < (b.length : Int))) = true := by simp; omega
        rw [hc, cond_true, ei, ek]
        simp only [ha, hb, decide_true, decide_false, cond_true, cond_false]
        rw [show decide ((1 : Int) < 0) = false by decide, show decide ((0 : Int) < 1) = true by decide, cond_false, cond_true, req_pos ⟨by omega, by omega⟩, keep _ (by omega), bnd_mk, wrap_succ (by omega)]
        rw [← ha, ih i (k + 1) _ _ (by omega) (by omega) (by omega) (by simp; omega)]
        rw [ha, List.drop_length, List.drop_eq_getElem_cons hk', mg, mg, atI_nat hk']
        simp
    · have hi' : i < a.length := by omega
      have hc : ((decide ((i : Int) < (a.length : Int))) || decide ((k : Int) < (b.length : Int))) = true := by simp; omega
      by_cases hb : k = b.length
      · rw [hc, cond_true, ei, ek]
        simp only [ha, hb, decide_true, decide_false, cond_true, cond_false]
        rw [show decide ((-1 : Int) < 0) = true by decide, cond_true, req_pos ⟨by omega, by omega⟩, keep _ (by omega), bnd_mk, wrap_succ (by omega)]
        rw [← hb, ih (i + 1) k _ _ (by omega) (by omega) (by omega) (by simp; omega)]
        rw [hb, List.drop_length, List.drop_eq_getElem_cons hi', mg_nil, mg_nil, atI_nat hi']
        simp
      · have hk' : k < b.length := by omega
        rw [hc, cond_true, ei, ek]
        simp only [ha, hb, decide_false, cond_false]
        rw [req_pos (p := 0 ≤ (i : Int) ∧ (i : Int) < (a.length : Int)) ⟨by omega, by omega⟩, req_pos (p := 0 ≤ (k : Int) ∧ (k : Int) < (b.length : Int)) ⟨by omega, by omega⟩, order_eq, bnd_mk]
        obtain ⟨c1, c2⟩ := cmp_lt (atI a (i : Int)).Key (atI b (k : Int)).Key
        rw [List.drop_eq_getElem_cons hi', List.drop_eq_getElem_cons hk', mg, ← atI_nat hi', ← atI_nat hk']
        cases h1 : sLt (atI a (i : Int)).Key (atI b (k : Int)).Key with
        | true =>
          rw [show decide (Go.Lib.compareBytes (atI a (i : Int)).Key (atI b (k : Int)).Key < 0) = true from decide_eq_true (c1.2 h1), cond_true, req_pos (p := 0 ≤ (i : Int) ∧ (i : Int) < (a.length : Int)) ⟨by omega, by omega⟩, keep _ (by omega), bnd_mk, wrap_succ (by omega), ih (i + 1) k _ _ (by omega) (by omega) (by omega) (by simp; omega)]
          rw [List.drop_eq_getElem_cons hk', ← atI_nat hk']
          simp
        | false =>
          rw [show decide (Go.Lib.compareBytes (atI a (i : Int)).Key (atI b (k : Int)).Key < 0) = false from decide_eq_false (fun h => by rw [c1.1 h] at h1; simp at h1), cond_false]
          cases h2 : sLt (atI b (k : Int)).Key (atI a (i : Int)).Key with
          | true =>
            rw [show decide (0 < Go.Lib.compareBytes (atI a (i : Int)).Key (atI b (k : Int)).Key) = true from decide_eq_true (c2.2 h2), cond_true, req_pos (p := 0 ≤ (k : Int) ∧ (k : Int) < (b.length : Int)) ⟨by omega, by omega⟩, keep _ (by omega), bnd_mk, wrap_succ (by omega), ih i (k + 1) _ _ (by omega) (by omega) (by omega) (by simp; omega)]
            rw [List.drop_eq_getElem_cons hi', ← atI_nat hi']
            simp
          | false =>
            rw [show decide (0 < Go.Lib.compareBytes (atI a (i : Int)).Key (atI b (k : Int)).Key) = false from decide_eq_false (fun h => by rw [c2.1 h] at h2; simp at h2), cond_false, req_pos (p := 0 ≤ (i : Int) ∧ (i : Int) < (a.length : Int)) ⟨by omega, by omega⟩, req_pos (p := 0 ≤ (k : Int) ∧ (k : Int) < (b.length : Int)) ⟨by omega, by omega⟩, unTwice, bnd_mk, wrap_succ (by omega), wrap_succ (by omega),
              ih (i + 1) (k + 1) _ _ (by omega) (by omega) (by omega) (by simp; omega)]
            simp

/-- The union of two states. -/
def unionP (a b : List TPair) : List TPair × Int := cond (staB a && staB b) (cond (mg a b).2 ([], 8) ((mg a b).1, 0)) ([], 1)

theorem union_impl {a b : List TPair} (ha : PrOk a) (hb : PrOk b) (hab : a.length + b.length < 1000000) : F_state_Union a b = some (unionP a b) := by
  unfold F_state_Union
  rw [svalid_impl ha, svalid_impl hb, bnd_mk, unionP]
  cases h1 : staB a with
  | false => simp [gcall, bnd]
  | true =>
    simp only [Bool.not_true, BEq.rfl, gcall_t, bnd_mk, Bool.false_or, Bool.true_and]
    cases h2 : staB b with
    | false => simp
    | true =>
      simp only [Bool.not_true, cond_false, cond_true]
      have := merge_loop (a := a) (b := b) hab 1000000 0 0 [] false (by omega) (by omega) (by omega) (by simp; omega)
      rw [mergeF, show ((0 : Int)) = ((0 : Nat) : Int) from rfl, this, bnd_mk]
      simp only [List.drop_zero, Bool.false_or, List.nil_append]
      cases (mg a b).2 <;> rfl

/-! ### The reference: insertion -/

def ins (l : List TPair) (p : TPair) : List TPair := l.takeWhile (fun x => sLt x.Key p.Key) ++ [p] ++ l.dropWhile (fun x => sLt x.Key p.Key)

theorem ins_spec {l : List TPair} {p : TPair} (hl : kAsc l) (hp : ∀ x ∈ l, x.Key ≠ p.Key) : kAsc (ins l p) ∧ (∀ x, x ∈ ins l p ↔ x = p ∨ x ∈ l) ∧ (ins l p).length = l.length + 1 := by
  have h2 : l.takeWhile (fun x => sLt x.Key p.Key) ++ l.dropWhile (fun x => sLt x.Key p.Key) = l := List.takeWhile_append_dropWhile
  have hA : ∀ x ∈ l.takeWhile (fun x => sLt x.Key p.Key), sLt x.Key p.Key = true := fun x hx => by
    have := List.all_takeWhile (p := fun x : TPair => sLt x.Key p.Key) (l := l)
    exact List.all_eq_true.1 this x hx
  have hB : ∀ x ∈ l.dropWhile (fun x => sLt x.Key p.Key), sLt p.Key x.Key = true := by
    have hd : kAsc (l.dropWhile (fun x => sLt x.Key p.Key)) := List.Pairwise.sublist (List.dropWhile_sublist _) hl
    cases hdw : l.dropWhile (fun x => sLt x.Key p.Key) with
    | nil => intro x hx; simp at hx
    | cons y m =>
      rw [hdw] at hd
      have hy : sLt y.Key p.Key = false := by
        have := List.head?_dropWhile_not (fun x : TPair => sLt x.Key p.Key) l
        rw [hdw] at this; simpa using this
      have hne : y.Key ≠ p.Key := hp y (by rw [← h2, hdw]; simp)
      have hy2 : sLt p.Key y.Key = true := by
        cases e : sLt p.Key y.Key with
        | true => rfl
        | false => exact absurd (sLt_conn hy e) hne
      intro x hx
      rcases List.mem_cons.1 hx with rfl | hx
      · exact hy2
      · exact sLt_trans hy2 ((List.pairwise_cons.1 hd).1 x hx)
  refine ⟨?_, fun x => ?_, ?_⟩
  · unfold ins kAsc
    rw [List.append_assoc, List.pairwise_append]
    have hl' : kAsc (l.takeWhile (fun x => sLt x.Key p.Key) ++ l.dropWhile (fun x => sLt x.Key p.Key)) := by rw [h2]; exact hl
    obtain ⟨p1, p2, p3⟩ := List.pairwise_append.1 hl'
    refine ⟨p1, List.pairwise_cons.2 ⟨hB, p2⟩, fun a ha b hb => ?_⟩
    rcases List.mem_cons.1 hb with rfl | hb
    · exact hA a ha
    · exact p3 a ha b hb
  · unfold ins
    rw [List.append_assoc, List.mem_append, List.singleton_append, List.mem_cons]
    have : x ∈ l ↔ x ∈ l.takeWhile (fun x => sLt x.Key p.Key) ∨ x ∈ l.dropWhile (fun x => sLt x.Key p.Key) := by rw [← List.mem_append, h2]
    rw [this]
    constructor
    · rintro (h | h | h)
      · exact .inr (.inl h)
      · exact .inl h
      · exact .inr (.inr h)
    · rintro (h | h | h)
      · exact .inr (.inl h)
      · exact .inl h
      · exact .inr (.inr h)
  · unfold ins
    have := congrArg List.length h2
    simp only [List.length_append, List.length_cons, List.length_nil] at this ⊢
    omega

/-- All of a list put into another that ascends and has none of its keys. -/
theorem fold_ins : ∀ {b l : List TPair}, kAsc l → kAsc b → (∀ x ∈ l, ∀ y ∈ b, x.Key ≠ y.Key) → kAsc (b.foldl ins l) ∧ (∀ x, x ∈ b.foldl ins l ↔ x ∈ l ∨ x ∈ b) ∧ (b.foldl ins l).length = l.length + b.length
  | [], l, h, _, _ => by simp [h]
  | y :: b, l, hl, hb, hd => by
    obtain ⟨hb1, hb2⟩ := List.pairwise_cons.1 hb
    obtain ⟨i1, i2, i3⟩ := ins_spec hl (p := y) (fun x hx => hd x hx y (by simp))
    obtain ⟨h1, h2, h3⟩ := fold_ins (b := b) (l := ins l y) i1 hb2 (fun x hx z hz => by
      rcases (i2 x).1 hx with rfl | hx
      · intro e; have := hb1 z hz; rw [e, sLt_irrefl] at this; simp at this
      · exact hd x hx z (by simp [hz]))
    rw [List.foldl_cons]
    refine ⟨h1, fun x => ?_, by rw [h3, i3, List.length_cons]; omega⟩
    rw [h2, i2, List.mem_cons]
    constructor
    · rintro ((h | h) | h)
      · exact .inr (.inl h)
      · exact .inl h
      · exact .inr (.inr h)
    · rintro (h | h | h)
      · exact .inl (.inr h)
      · exact .inl (.inl h)
      · exact .inr h

theorem ins_len (l : List TPair) (p : TPair) : (ins l p).length = l.length + 1 := by
  have h2 : l.takeWhile (fun x => sLt x.Key p.Key) ++ l.dropWhile (fun x => sLt x.Key p.Key) = l := List.takeWhile_append_dropWhile
  unfold ins
  have := congrArg List.length h2
  simp only [List.length_append, List.length_cons, List.length_nil] at this ⊢
  omega

end Go.Proofs.YtcgmfmpfmfjmoaaGreat
