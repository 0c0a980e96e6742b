/-
  THE DIFFERENCE OF TWO STATES, CLOSED: program and specification alike.
-/
import Derived.Test.YtonijgmopcmldaaGreatRb
set_option linter.all false
namespace Go.Proofs.YtonijgmopcmldaaGreat
open Go.ChangeShapes

def valEq (x y : TValue) : Bool := ((x.Kind == y.Kind) && ((x.N == y.N) && ((x.S == y.S) && true)))
theorem valEq_true (x y : TValue) : valEq x y = true ↔ x = y := by
  cases x; cases y
  simp [valEq]
instance : DecidableEq TValue := fun x y => decidable_of_iff _ (valEq_true x y)

def gone (x : TPair) : TPair := ⟨x.Key, default⟩

def mr : List TPair → List TPair → List TPair
  | [], b => b
  | x :: a, [] => gone x :: mr a []
  | x :: a, y :: b => if sLt x.Key y.Key = true then gone x :: mr a (y :: b) else if sLt y.Key x.Key = true then y :: mr (x :: a) b else if x.Val = y.Val then mr a b else y :: mr a b
termination_by a b => a.length + b.length

theorem mr_nil (x : TPair) (a : List TPair) : mr (x :: a) [] = gone x :: mr a [] := by rw [mr]
theorem mr_nil1 (b : List TPair) : mr [] b = b := by rw [mr]

theorem mr_len : ∀ a b : List TPair, (mr a b).length ≤ a.length + b.length
  | [], b => by simp [mr]
  | x :: a, [] => by
    have := mr_len a []
    rw [mr_nil]; simp at this ⊢; omega
  | x :: a, y :: b => by
    have h1 := mr_len a (y :: b)
    have h2 := mr_len (x :: a) b
    have h3 := mr_len a b
    simp only [List.length_cons] at h1 h2 ⊢
    rw [mr]
    split
    · simp only [List.length_cons]; omega
    · split
      · simp only [List.length_cons]; omega
      · split
        · omega
        · simp only [List.length_cons]; omega
termination_by a b => a.length + b.length

/-- What differs. -/
def DifP (a b : List TPair) (z : TPair) : Prop := (∃ x ∈ a, (∀ y ∈ b, y.Key ≠ x.Key) ∧ z = gone x) ∨ (z ∈ b ∧ z ∉ a)

theorem DifP.key {a b : List TPair} {z : TPair} (h : DifP a b z) : ∃ w, (w ∈ a ∨ w ∈ b) ∧ w.Key = z.Key := by
  rcases h with ⟨x, hx, _, rfl⟩ | ⟨h, _⟩
  · exact ⟨x, .inl hx, rfl⟩
  · exact ⟨z, .inr h, rfl⟩

theorem lt_ne {a b : TPair} (h : sLt a.Key b.Key = true) : a.Key ≠ b.Key := fun e => by rw [e, sLt_irrefl] at h; cases h

theorem mr_spec : ∀ {a b : List TPair}, kAsc a → kAsc b → kAsc (mr a b) ∧ ∀ z, z ∈ mr a b ↔ DifP a b z
  | [], b, _, hb => by
    rw [mr_nil1]; exact ⟨hb, fun z => by simp [DifP]⟩
  | x :: a, [], ha, hb => by
    obtain ⟨ha1, ha2⟩ := List.pairwise_cons.1 ha
    obtain ⟨h1, h2⟩ := mr_spec ha2 hb
    rw [mr_nil]
    refine ⟨List.pairwise_cons.2 ⟨fun z hz => ?_, h1⟩, fun z => ?_⟩
    · obtain ⟨w, hw, e⟩ := ((h2 z).1 hz).key
      rw [← e]
      rcases hw with hw | hw
      · exact ha1 w hw
      · cases hw
    · rw [List.mem_cons, h2]
      simp only [DifP, List.mem_cons, List.not_mem_nil, false_and, or_false, false_implies, implies_true, true_and]
      constructor
      · rintro (rfl | ⟨w, hw, rfl⟩)
        · exact ⟨x, .inl rfl, rfl⟩
        · exact ⟨w, .inr hw, rfl⟩
      · rintro ⟨w, rfl | hw, rfl⟩
        · exact .inl rfl
        · exact .inr ⟨w, hw, rfl⟩
  | x :: a, y :: b, ha, hb => by
    obtain ⟨ha1, ha2⟩ := List.pairwise_cons.1 ha
    obtain ⟨hb1, hb2⟩ := List.pairwise_cons.1 hb
    rw [mr]
    split
    · rename_i hxy
      obtain ⟨h1, h2⟩ := mr_spec (a := a) (b := y :: b) ha2 hb
      have hno : ∀ z ∈ y :: b, sLt x.Key z.Key = true := fun z hz => by
        rcases List.mem_cons.1 hz with rfl | hz
        · exact hxy
        · exact sLt_trans hxy (hb1 z hz)
      refine ⟨List.pairwise_cons.2 ⟨fun z hz => ?_, h1⟩, fun z => ?_⟩
      · obtain ⟨w, hw, e⟩ := ((h2 z).1 hz).key
        rw [← e]
        rcases hw with hw | hw
        · exact ha1 w hw
        · exact hno w hw
      · rw [List.mem_cons, h2]
        constructor
        · rintro (rfl | ⟨w, hw, hn, rfl⟩ | ⟨h3, h4⟩)
          · exact .inl ⟨x, List.mem_cons_self, fun w hw e => lt_ne (hno w hw) e.symm, rfl⟩
          · exact .inl ⟨w, List.mem_cons_of_mem _ hw, hn, rfl⟩
          · refine .inr ⟨h3, fun h => ?_⟩
            rcases List.mem_cons.1 h with rfl | h
            · exact lt_ne (hno _ h3) rfl
            · exact h4 h
        · rintro (⟨w, hw, hn, rfl⟩ | ⟨h3, h4⟩)
          · rcases List.mem_cons.1 hw with rfl | hw
            · exact .inl rfl
            · exact .inr (.inl ⟨w, hw, hn, rfl⟩)
          · exact .inr (.inr ⟨h3, fun h => h4 (List.mem_cons_of_mem _ h)⟩)
    · rename_i hxy
      simp only [Bool.not_eq_true] at hxy
      split
      · rename_i hyx
        obtain ⟨h1, h2⟩ := mr_spec (a := x :: a) (b := b) ha hb2
        have hno : ∀ z ∈ x :: a, sLt y.Key z.Key = true := fun z hz => by
          rcases List.mem_cons.1 hz with rfl | hz
          · exact hyx
          · exact sLt_trans hyx (ha1 z hz)
        refine ⟨List.pairwise_cons.2 ⟨fun z hz => ?_, h1⟩, fun z => ?_⟩
        · obtain ⟨w, hw, e⟩ := ((h2 z).1 hz).key
          rw [← e]
          rcases hw with hw | hw
          · exact hno w hw
          · exact hb1 w hw
        · rw [List.mem_cons, h2]
          constructor
          · rintro (rfl | ⟨w, hw, hn, rfl⟩ | ⟨h3, h4⟩)
            · exact .inr ⟨List.mem_cons_self, fun h => lt_ne (hno _ h) rfl⟩
            · refine .inl ⟨w, hw, fun v hv => ?_, rfl⟩
              rcases List.mem_cons.1 hv with rfl | hv
              · exact lt_ne (hno w hw)
              · exact hn v hv
            · exact .inr ⟨List.mem_cons_of_mem _ h3, h4⟩
          · rintro (⟨w, hw, hn, rfl⟩ | ⟨h3, h4⟩)
            · exact .inr (.inl ⟨w, hw, fun v hv => hn v (List.mem_cons_of_mem _ hv), rfl⟩)
            · rcases List.mem_cons.1 h3 with rfl | h3
              · exact .inl rfl
              · exact .inr (.inr ⟨h3, h4⟩)
      · rename_i hyx
        simp only [Bool.not_eq_true] at hyx
        have hk : x.Key = y.Key := sLt_conn hxy hyx
        obtain ⟨h1, h2⟩ := mr_spec (a := a) (b := b) ha2 hb2
        have hA : ∀ w ∈ a, sLt y.Key w.Key = true := fun w hw => hk ▸ ha1 w hw
        have d1 : ∀ z, DifP a b z → sLt y.Key z.Key = true := fun z hz => by
          obtain ⟨w, hw, e⟩ := hz.key
          rw [← e]
          rcases hw with hw | hw
          · exact hA w hw
          · exact hb1 w hw
        have d2 : ∀ z, DifP (x :: a) (y :: b) z ↔ (z = y ∧ y ≠ x) ∨ DifP a b z := fun z => by
          constructor
          · rintro (⟨w, hw, hn, rfl⟩ | ⟨h3, h4⟩)
            · rcases List.mem_cons.1 hw with rfl | hw
              · exact absurd hk.symm (hn y List.mem_cons_self)
              · exact .inr (.inl ⟨w, hw, fun v hv => hn v (List.mem_cons_of_mem _ hv), rfl⟩)
            · rcases List.mem_cons.1 h3 with rfl | h3
              · exact .inl ⟨rfl, fun e => h4 (e ▸ List.mem_cons_self)⟩
              · exact .inr (.inr ⟨h3, fun h => h4 (List.mem_cons_of_mem _ h)⟩)
          · rintro (⟨rfl, hne⟩ | ⟨w, hw, hn, rfl⟩ | ⟨h3, h4⟩)
            · refine .inr ⟨List.mem_cons_self, fun h => ?_⟩
              rcases List.mem_cons.1 h with h | h
              · exact hne h
              · exact lt_ne (hA _ h) rfl
            · refine .inl ⟨w, List.mem_cons_of_mem _ hw, fun v hv => ?_, rfl⟩
              rcases List.mem_cons.1 hv with rfl | hv
              · exact lt_ne (hA w hw)
              · exact hn v hv
            · refine .inr ⟨List.mem_cons_of_mem _ h3, fun h => ?_⟩
              rcases List.mem_cons.1 h with rfl | h
              · exact lt_ne (hb1 _ h3) hk.symm
              · exact h4 h
        split
        · rename_i hv
          have : y = x := by cases x; cases y; simp only at hk hv; rw [hk, hv]
          exact ⟨h1, fun z => by rw [h2, d2]; simp [this]⟩
        · rename_i hv
          have : y ≠ x := fun e => hv (by rw [e])
          refine ⟨List.pairwise_cons.2 ⟨fun z hz => d1 z ((h2 z).1 hz), h1⟩, fun z => ?_⟩
          rw [List.mem_cons, h2, d2]; simp [this]
termination_by a b => a.length + b.length

theorem valEq_iff (x y : TValue) : ((x.Kind == y.Kind) && ((x.N == y.N) && ((x.S == y.S) && true))) = decide (x = y) := by
  rw [Bool.eq_iff_iff, decide_eq_true_iff]
  exact valEq_true x y

theorem diB_eq (s : List TPair) (x y : TPair) (h : s.length < 1000000) : diBoth s x y = some (if x.Val = y.Val then s else s ++ [y]) := by
  unfold diBoth diAdd
  rw [valEq_iff, req_pos (by simp only [List.length_append, List.length_cons, List.length_nil]; omega)]
  by_cases e : x.Val = y.Val
  · rw [if_pos e, decide_eq_true e]; rfl
  · rw [if_neg e, decide_eq_false e]; rfl

theorem merge_loop {a b : List TPair} (hab : a.length + b.length < 1000000) : ∀ n (i k : Nat) (acc : List TPair), i ≤ a.length → k ≤ b.length → (a.length - i) + (b.length - k) < n →
    acc.length + (a.length - i) + (b.length - k) ≤ 1000000 → mergeF_L1 a b diRemove diAdd diBoth F_state_order n acc (i : Int) (k : Int) = some (acc ++ mr (a.drop i) (b.drop k)) := by
  intro n
  induction n with
  | zero => intro i k acc _ _ h; omega
  | succ n ih =>
    intro i k acc hi hk hn hacc
    rw [mergeF_L1]
    simp only [jn_mk]
    have ei : (((i : Int) == (a.length : Int))) = decide (i = a.length) := by rw [Bool.eq_iff_iff]; simp; omega
    have ek : (((k : Int) == (b.length : Int))) = decide (k = b.length) := by rw [Bool.eq_iff_iff]; simp; omega
    have kR : ∀ x, acc.length < 1000000 → diRemove acc x = some (acc ++ [gone x]) := fun x h => by
      unfold diRemove
      rw [req_pos (by simp only [List.length_append, List.length_cons, List.length_nil]; omega)]; rfl
    have kA : ∀ x, acc.length < 1000000 → diAdd acc x = some (acc ++ [x]) := fun x h => by
      unfold diAdd
      rw [req_pos (by simp only [List.length_append, List.length_cons, List.length_nil]; omega)]
    by_cases ha : i = a.length
    · by_cases hb : k = b.length
      · subst ha; subst hb
        simp [mr]
      · have hk' : k < b.length := by omega
        have hc : ((decide ((i : Int) < (a.length : Int))) || decide ((k : Int) < (b.length : Int))) = true := by simp; omega
        rw [hc, cond_true, ei, ek]
        simp only [ha, hb, decide_true, decide_false, cond_true, cond_false]
        rw [show decide ((1 : Int) < 0) = false by decide, show decide ((0 : Int) < 1) = true by decide, cond_false, cond_true, req_pos ⟨by omega, by omega⟩, kA _ (by omega), bnd_mk, wrap_succ (by omega)]
        rw [← ha, ih i (k + 1) _ (by omega) (by omega) (by omega) (by simp; omega)]
        rw [ha, List.drop_length, List.drop_eq_getElem_cons hk', mr_nil1, mr_nil1, atI_nat hk']
        simp
    · have hi' : i < a.length := by omega
      have hc : ((decide ((i : Int) < (a.length : Int))) || decide ((k : Int) < (b.length : Int))) = true := by simp; omega
      by_cases hb : k = b.length
      · rw [hc, cond_true, ei, ek]
        simp only [ha, hb, decide_true, decide_false, cond_true, cond_false]
        rw [show decide ((-1 : Int) < 0) = true by decide, cond_true, req_pos ⟨by omega, by omega⟩, kR _ (by omega), bnd_mk, wrap_succ (by omega)]
        rw [← hb, ih (i + 1) k _ (by omega) (by omega) (by omega) (by simp; omega)]
        rw [hb, List.drop_length, List.drop_eq_getElem_cons hi', mr_nil, atI_nat hi']
        simp
      · have hk' : k < b.length := by omega
        rw [hc, cond_true, ei, ek]
        simp only [ha, hb, decide_false, cond_false]
        rw [req_pos (p := 0 ≤ (i : Int) ∧ (i : Int) < (a.length : Int)) ⟨by omega, by omega⟩, req_pos (p := 0 ≤ (k : Int) ∧ (k : Int) < (b.length : Int)) ⟨by omega, by omega⟩, order_eq, bnd_mk]
        obtain ⟨c1, c2⟩ := cmp_lt (atI a (i : Int)).Key (atI b (k : Int)).Key
        rw [List.drop_eq_getElem_cons hi', List.drop_eq_getElem_cons hk', mr, ← atI_nat hi', ← atI_nat hk']
        cases h1 : sLt (atI a (i : Int)).Key (atI b (k : Int)).Key with
        | true =>
          rw [show decide (Go.Lib.compareBytes (atI a (i : Int)).Key (atI b (k : Int)).Key < 0) = true from decide_eq_true (c1.2 h1), cond_true, req_pos (p := 0 ≤ (i : Int) ∧ (i : Int) < (a.length : Int)) ⟨by omega, by omega⟩, kR _ (by omega), bnd_mk, wrap_succ (by omega), ih (i + 1) k _ (by omega) (by omega) (by omega) (by simp; omega)]
          rw [List.drop_eq_getElem_cons hk', ← atI_nat hk']
          simp
        | false =>
          rw [show decide (Go.Lib.compareBytes (atI a (i : Int)).Key (atI b (k : Int)).Key < 0) = false from decide_eq_false (fun h => by rw [c1.1 h] at h1; simp at h1), cond_false]
          cases h2 : sLt (atI b (k : Int)).Key (atI a (i : Int)).Key with
          | true =>
            rw [show decide (0 < Go.Lib.compareBytes (atI a (i : Int)).Key (atI b (k : Int)).Key) = true from decide_eq_true (c2.2 h2), cond_true, req_pos (p := 0 ≤ (k : Int) ∧ (k : Int) < (b.length : Int)) ⟨by omega, by omega⟩, kA _ (by omega), bnd_mk, wrap_succ (by omega), ih i (k + 1) _ (by omega) (by omega) (by omega) (by simp; omega)]
            rw [List.drop_eq_getElem_cons hi', ← atI_nat hi']
            simp
          | false =>
            rw [show decide (0 < Go.Lib.compareBytes (atI a (i : Int)).Key (atI b (k : Int)).Key) = false from decide_eq_false (fun h => by rw [c2.1 h] at h2; simp at h2), cond_false, req_pos (p := 0 ≤ (i : Int) ∧ (i : Int) < (a.length : Int)) ⟨by omega, by omega⟩, req_pos (p := 0 ≤ (k : Int) ∧ (k : Int) < (b.length : Int)) ⟨by omega, by omega⟩, diB_eq _ _ _ (by omega), bnd_mk, wrap_succ (by omega), wrap_succ (by omega),
              ih (i + 1) (k + 1) _ (by omega) (by omega) (by omega) (by split <;> (try simp only [List.length_append, List.length_cons, List.length_nil]) <;> omega)]
            split <;> simp

theorem with_eq {l : List TPair} (hl : l.length < 999999) (p : TPair) : F_clockworkref06_with l p = some (ins l p) := by
  unfold F_clockworkref06_with
  simp only [jn_mk]
  have key : ∀ (J : Int → Option (List TPair)) n (i : Nat), i ≤ l.length → l.length - i < n → F_clockworkref06_with_L1 l p J n (i : Int) = J ((i + ((l.drop i).takeWhile (fun x => sLt x.Key p.Key)).length : Nat) : Int) := by
    intro J n
    induction n with
    | zero => intro i _ h; omega
    | succ n ih =>
      intro i hi hn
      rw [F_clockworkref06_with_L1]
      rcases Nat.lt_or_ge i l.length with h | h
      · rw [List.drop_eq_getElem_cons h, List.takeWhile_cons, ← atI_nat h]
        simp only [show (i : Int) < (l.length : Int) by omega, decide_true, BEq.rfl, forall_const, cond_true, Bool.true_and, show 0 ≤ (i : Int) by omega, and_self, req_t]
        cases hs : sLt (atI l (i : Int)).Key p.Key with
        | true =>
          rw [cond_true, wrap_succ (by omega), ih (i + 1) (by omega) (by omega)]
          congr 1
          simp; omega
        | false => simp
      · have : i = l.length := by omega
        subst this
        simp [req]
  have := key (fun (x4 : Int) => (req (0 ≤ (0 : Int) ∧ (0 : Int) ≤ x4 ∧ x4 ≤ ((l).length : Int)) (req (((([] : List TPair) ++ ((l.take (x4).toNat).drop ((0 : Int)).toNat))).length * 48 ≤ 140737488355328) (req ((((([] : List TPair) ++ ((l.take (x4).toNat).drop ((0 : Int)).toNat)) ++ [p])).length * 48 ≤ 140737488355328) (req (0 ≤ x4 ∧ x4 ≤ (((l).length : Nat) : Int) ∧ (((l).length : Nat) : Int) ≤ ((l).length : Int)) (req (((((([] : List TPair) ++ ((l.take (x4).toNat).drop ((0 : Int)).toNat)) ++ [p]) ++ ((l.take ((((l).length : Nat) : Int)).toNat).drop (x4).toNat))).length * 48 ≤ 140737488355328) (some (((([] : List TPair) ++ ((l.take (x4).toNat).drop ((0 : Int)).toNat)) ++ [p]) ++ ((l.take ((((l).length : Nat) : Int)).toNat).drop (x4).toNat)))))))) ) 1000000 0 (by omega) (by omega)
  rw [show ((0 : Nat) : Int) = 0 from rfl] at this
  refine this.trans ?_
  simp only [List.drop_zero, Nat.zero_add, Int.toNat_natCast, Int.toNat_zero, List.nil_append]
  have htw : ((l.takeWhile (fun x => sLt x.Key p.Key)).length) ≤ l.length := (List.takeWhile_prefix _).length_le
  generalize hm : (l.takeWhile (fun x => sLt x.Key p.Key)).length = m at htw ⊢
  have e1 : l.take m = l.takeWhile (fun x => sLt x.Key p.Key) := by
    have := List.prefix_iff_eq_take.1 (List.takeWhile_prefix (p := fun x : TPair => sLt x.Key p.Key) (l := l))
    rw [hm] at this; exact this.symm
  have e2 : l.drop m = l.dropWhile (fun x => sLt x.Key p.Key) := by
    have h1 : l.take m ++ l.drop m = l := List.take_append_drop m l
    have h2 : l.takeWhile (fun x => sLt x.Key p.Key) ++ l.dropWhile (fun x => sLt x.Key p.Key) = l := List.takeWhile_append_dropWhile
    rw [← h2, ← e1] at h1
    have h3 : l.take m ++ l.drop m = l.take m ++ l.dropWhile (fun x => sLt x.Key p.Key) := by
      rw [List.take_append_drop, e1]; exact h2.symm
    exact List.append_cancel_left h3
  have h3 : (l.take m).length = m := by simp; omega
  rw [req_pos ⟨by omega, by omega, by omega⟩, req_pos (by simp; omega), req_pos (by simp; omega), req_pos ⟨by omega, by omega, by omega⟩, List.take_length, req_pos (by simp; omega), e1, e2]
  rfl


end Go.Proofs.YtonijgmopcmldaaGreat
