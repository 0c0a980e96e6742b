/-
  STATES AS BYTES: what both sides write and read.
  Conditions: strings are no longer than a million bytes.
-/
import Derived.Test.YtcgmfmpfmfjmoaaGreatWi
set_option linter.all false
namespace Go.Proofs.YtcgmfmpfmfjmoaaGreat
open Go.ChangeShapes

def prB (x : TPair) : Str := textB x.Key ++ valB x.Val
def prsB (l : List TPair) : Str := (l.map prB).flatten
def stateB (l : List TPair) : Str := uintB l.length ++ prsB l

theorem prsB_cons (x : TPair) (l : List TPair) : prsB (x :: l) = prB x ++ prsB l := by simp [prsB]

structure PW (x : TPair) : Prop where
  k : x.Key.length ≤ 1000
  n : okI .i64 x.Val.N
  s : x.Val.S.length ≤ 1000

theorem prB_len {x : TPair} (h : PW x) : 2 ≤ (prB x).length ∧ (prB x).length ≤ 2100 := by
  have h1 := textB_len h.k
  have h2 := valB_len h.n h.s
  have h3 := h.k
  have h4 := h.s
  simp only [prB, List.length_append]
  omega

theorem fold_prs (l : List TPair) : ∀ s : Str, l.foldl (fun s x => s ++ prB x) s = s ++ prsB l := by
  induction l with
  | nil => intro s; simp [prsB]
  | cons x l ih =>
    intro s
    rw [List.foldl_cons, ih]
    simp [prsB]

theorem bWrite_ok {s t : Str} (h : s.length + t.length ≤ 100000000) : bWrite s t = some (s ++ t) := by
  unfold bWrite
  rw [req_pos (by rw [List.length_append]; omega)]

theorem state_Enc {l : List TPair} (hn : l.length ≤ 1000) (hp : ∀ x ∈ l, PW x) : F_state_Encode l = some (stateB l) := by
  have hl2 := uintB_len64 (u := l.length) (by omega)
  unfold F_state_Encode
  rw [wrU64n (by omega), wire_Uint (by omega), bnd_mk, bWrite_ok (by simp; omega), bnd_mk]
  simp only [jn_mk, List.nil_append]
  refine (loopFold (l := l) (by omega) (L := fun n s i => F_state_Encode_L1 l (fun s => req (s ≠ []) (some s)) n s i) (J := fun s => req (s ≠ []) (some s)) (f := fun s x => s ++ prB x) (fun i s => s.length ≤ 20 + i * 3000) ?_ ?_ ?_ (by omega) (by simp; omega)).trans ?_
  · intro n i s h hs
    have hx := hp _ (List.getElem_mem h)
    have l0 := hx.k
    have l1 := textB_len hx.k
    have l2 := valB_len hx.n hx.s
    have l3 := hx.s
    have hi : i * 3000 ≤ 3000000 := by omega
    try dsimp only
    rw [F_state_Encode_L1]
    rw [decide_eq_true (show (i : Int) < ((l.length : Nat) : Int) by omega), cond_true, req_pos (by omega), atI_nat h, wire_Text (by omega), bnd_mk, bWrite_ok (by omega), bnd_mk, value_Enc hx.n hx.s, bnd_mk, bWrite_ok (by rw [List.length_append]; omega), bnd_mk]
    simp only [prB, List.append_assoc]
  · intro i s h hs
    have := prB_len (hp _ (List.getElem_mem h))
    simp only [List.length_append]
    omega
  · intro n s hs
    try dsimp only
    rw [F_state_Encode_L1, decide_eq_false (by omega), cond_false]
  · rw [fold_prs]
    exact if_pos (fun h => uintB_ne l.length (List.append_eq_nil_iff.1 h).1)

theorem state_EncR {l : List TPair} (hn : l.length ≤ 1000) (hp : ∀ x ∈ l, PW x) : F_clockworkref06_Encode l = some (stateB l) := by
  have hl2 := uintB_len64 (u := l.length) (by omega)
  unfold F_clockworkref06_Encode
  rw [wrU64n (by omega), ref_Uint (by omega), bnd_mk]
  simp only [jn_mk]
  refine (loopFold (l := l) (by omega) (L := fun n s i => F_clockworkref06_Encode_L1 l (fun s => some s) n s i) (J := fun s => some s) (f := fun s x => s ++ prB x) (fun i s => s.length ≤ 20 + i * 3000) ?_ ?_ ?_ (by omega) (by simp; omega)).trans ?_
  · intro n i s h hs
    have hx := hp _ (List.getElem_mem h)
    have l0 := hx.k
    have l1 := textB_len hx.k
    have l2 := valB_len hx.n hx.s
    have l3 := hx.s
    have hi : i * 3000 ≤ 3000000 := by omega
    try dsimp only
    rw [F_clockworkref06_Encode_L1]
    rw [decide_eq_true (show (i : Int) < ((l.length : Nat) : Int) by omega), cond_true, req_pos (by omega), req_pos (by omega), atI_nat h, ref_Text (by omega), bnd_mk, req_pos (by omega), value_EncR hx.n hx.s, bnd_mk, req_pos (by rw [List.length_append]; omega)]
    simp only [prB, List.append_assoc]
  · intro i s h hs
    have := prB_len (hp _ (List.getElem_mem h))
    simp only [List.length_append]
    omega
  · intro n s hs
    try dsimp only
    rw [F_clockworkref06_Encode_L1, decide_eq_false (by omega), cond_false]
  · rw [fold_prs]; rfl

/-! ### Reading -/

structure PR (x : TPair) : Prop where
  k : x.Key.length ≤ 24
  v : VOk x.Val

theorem PR.w {x : TPair} (h : PR x) : PW x := ⟨Nat.le_trans h.k (by omega), h.v.n, Nat.le_trans h.v.s (by omega)⟩

def prZ : TPair := ⟨[], vZ⟩
def takePr (s : Str) (p : Int) : TPair × Int × Int := thenR prZ (takeText s p 24) fun a q => thenR prZ (takeVal s q) fun v q => (⟨a, v⟩, q, 0)
def takePrs (s : Str) : Nat → Int → List TPair × Int × Int
  | 0, q => ([], q, 0)
  | n + 1, q => thenR [] (takePr s q) fun x q => thenR [] (takePrs s n q) fun l q => (x :: l, q, 0)
def decodeS (s : Str) (p : Int) : List TPair × Int × Int := thenR [] (takeCount s p 2147483647) fun n q => thenR [] (takePrs s n.toNat q) fun l q => cond (staB l) (l, q, 0) ([], 0, 5)

theorem takePr_of {s t : Str} {k : Nat} {x : TPair} (hx : PR x) (h : s.drop k = prB x ++ t) : takePr s (k : Int) = (x, ((k + (prB x).length : Nat) : Int), 0) := by
  have hk := hx.k
  simp only [prB, List.append_assoc] at h
  unfold takePr
  rw [takeText_of (by omega) hx.k h, thenR_ok, takeVal_of hx.v (drop_next h), thenR_ok]
  simp only [prB, List.length_append, Nat.add_assoc]

theorem takePr_cases (s : Str) (p : Int) : (∃ e, takePr s p = (prZ, 0, e) ∧ e ≠ 0) ∨
    (∃ (k : Nat) (x : TPair) (t : Str), p = (k : Int) ∧ PR x ∧ s.drop k = prB x ++ t ∧ takePr s p = (x, ((k + (prB x).length : Nat) : Int), 0)) := by
  rcases takeText_cases s p 24 with ⟨e, h, he⟩ | ⟨k, a, t, rfl, o1, o1', d1, h⟩
  · exact .inl ⟨e, by unfold takePr; rw [h, thenR_no he], he⟩
  rcases takeVal_cases s ((k + (textB a).length : Nat) : Int) with ⟨e, h2, he⟩ | ⟨k2, v, t2, e2, o2, d2, h2⟩
  · exact .inl ⟨e, by unfold takePr; rw [h, thenR_ok, h2, thenR_no he], he⟩
  have e2 : k2 = k + (textB a).length := by omega
  subst e2
  have hx : PR ⟨a, v⟩ := ⟨o1, o2⟩
  have hd : s.drop k = prB ⟨a, v⟩ ++ t2 := by
    have := drop_next d1
    rw [d2] at this
    rw [d1, ← this]
    simp only [prB, List.append_assoc]
  exact .inr ⟨k, _, t2, rfl, hx, hd, takePr_of hx hd⟩

theorem takePrs_cases (s : Str) : ∀ (n : Nat) (q : Int), (∃ e, takePrs s n q = ([], 0, e) ∧ e ≠ 0) ∨
    (∃ l q', takePrs s n q = (l, q', 0) ∧ l.length = n ∧ (∀ x ∈ l, PR x) ∧ (∀ k : Nat, q = (k : Int) → ∃ t, s.drop k = prsB l ++ t ∧ q' = ((k + (prsB l).length : Nat) : Int)))
  | 0, q => .inr ⟨[], q, rfl, rfl, fun x hx => by simp at hx, fun k hk => ⟨s.drop k, by simp [prsB], by simp [prsB, hk]⟩⟩
  | n + 1, q => by
    rw [takePrs]
    rcases takePr_cases s q with ⟨e, h, he⟩ | ⟨k, x, t, rfl, h1, h2, h3⟩
    · exact .inl ⟨e, by rw [h, thenR_no he], he⟩
    · rw [h3, thenR_ok]
      rcases takePrs_cases s n ((k + (prB x).length : Nat) : Int) with ⟨e, h, he⟩ | ⟨l, q', g1, g2, g3, g4⟩
      · exact .inl ⟨e, by rw [h, thenR_no he], he⟩
      · obtain ⟨t2, g5, g6⟩ := g4 _ rfl
        rw [g1, thenR_ok]
        refine .inr ⟨x :: l, q', rfl, by simp [g2], fun y hy => ?_, fun k' hk' => ⟨t2, ?_, ?_⟩⟩
        · rcases List.mem_cons.1 hy with rfl | hy
          · exact h1
          · exact g3 y hy
        · have : k' = k := by omega
          subst this
          rw [prsB_cons, List.append_assoc, ← g5, h2, drop_next h2]
        · have : k' = k := by omega
          subst this
          rw [g6, prsB_cons, List.length_append, Nat.add_assoc]

theorem takePrs_of {s t : Str} : ∀ {l : List TPair} {k : Nat}, (∀ x ∈ l, PR x) → s.drop k = prsB l ++ t → takePrs s l.length (k : Int) = (l, ((k + (prsB l).length : Nat) : Int), 0)
  | [], k, hl, h => by simp [takePrs, prsB]
  | x :: l, k, hl, h => by
    rw [prsB_cons, List.append_assoc] at h
    rw [List.length_cons, takePrs, takePr_of (hl x (by simp)) h, thenR_ok, takePrs_of (fun y hy => hl y (by simp [hy])) (drop_next h), thenR_ok, prsB_cons, List.length_append, Nat.add_assoc]

section
variable {s : Str} (hs : s.length ≤ 1000000)
include hs

theorem prOk_of {l : List TPair} {n : Nat} (hl : l.length = n) (hn : n ≤ 1000000) (h : ∀ x ∈ l, PR x) : PrOk l := by
  have e : big = 9223372036854775808 := rfl
  refine ⟨by omega, fun x hx => ?_⟩
  have h1 := (h x hx).k
  have h2 := (h x hx).v.s
  omega

theorem stD_loop {x3 : Int × Int × Int} {J : List TPair → Int → Option (List TPair × Int × Int)} {N : Nat} (hN : x3.1 = (N : Int)) (hN16 : N ≤ 1000000) : ∀ (n i : Nat) (acc : List TPair) (q : Int), n + i = N → acc.length = i →
    F_state_Decode_L1 x3 s J (n + 1) acc q (i : Int) = cond ((takePrs s n q).2.2 != (0 : Int)) (some ([], 0, (takePrs s n q).2.2)) (J (acc ++ (takePrs s n q).1) (takePrs s n q).2.1)
  | 0, i, acc, q, hn, ha => by
    rw [F_state_Decode_L1, hN, decN, decide_eq_false (by omega), cond_false]
    simp [takePrs]
  | n + 1, i, acc, q, hn, ha => by
    have hs' : s.length < 9000000000000000000 := by omega
    rw [F_state_Decode_L1, hN, decN, decide_eq_true (by omega), cond_true, show (24 : Int) = ((24 : Nat) : Int) from rfl, wire_TakeText hs' (by omega), bnd_mk, takePrs, takePr]
    rcases takeText_cases s q 24 with ⟨e, h, he⟩ | ⟨k, a, t, rfl, o1, o1', d1, h⟩
    · rw [h, thenR_no he, thenR_no he]
      simp only [neB, decide_eq_false he, Bool.not_false, cond_true]
    · rw [h, thenR_ok]
      simp only [neB, decide_true, Bool.not_true, cond_false]
      rw [value_Dec hs', bnd_mk]
      rcases takeVal_cases s ((k + (textB a).length : Nat) : Int) with ⟨e, h2, he⟩ | ⟨k2, v, t2, e2, o2, d2, h2⟩
      · rw [h2, thenR_no he, thenR_no he]
        simp only [decide_eq_false he, Bool.not_false, cond_true]
      · rw [h2, thenR_ok, thenR_ok]
        simp only [decide_true, Bool.not_true, cond_false]
        rw [req_pos (by simp; omega), wrap_succ (by omega), stD_loop hN hN16 n (i + 1) _ _ (by omega) (by simp [ha])]
        rcases takePrs_cases s n ((k2 + (valB v).length : Nat) : Int) with ⟨e, h, he⟩ | ⟨l, q', g1, g2, g3, g4⟩
        · rw [h, thenR_no he]
          simp only [neB, decide_eq_false he, Bool.not_false, cond_true]
        · rw [g1, thenR_ok]
          simp

theorem stR_loop {x3 : Int × Int × Int} {J : List TPair → Int → Option (List TPair × Int × Int)} {N : Nat} (hN : x3.1 = (N : Int)) (hN16 : N ≤ 1000000) : ∀ (n i : Nat) (acc : List TPair) (q : Int), n + i = N → acc.length = i →
    F_clockworkref06_Decode_L1 x3 s J (n + 1) acc q (i : Int) = cond ((takePrs s n q).2.2 != (0 : Int)) (some ([], 0, (takePrs s n q).2.2)) (J (acc ++ (takePrs s n q).1) (takePrs s n q).2.1)
  | 0, i, acc, q, hn, ha => by
    rw [F_clockworkref06_Decode_L1, hN, decN, decide_eq_false (by omega), cond_false]
    simp [takePrs]
  | n + 1, i, acc, q, hn, ha => by
    have hs' : s.length < 9000000000000000000 := by omega
    rw [F_clockworkref06_Decode_L1, hN, decN, decide_eq_true (by omega), cond_true, show (24 : Int) = ((24 : Nat) : Int) from rfl, ref_TakeText hs' (by omega), bnd_mk, takePrs, takePr]
    rcases takeText_cases s q 24 with ⟨e, h, he⟩ | ⟨k, a, t, rfl, o1, o1', d1, h⟩
    · rw [h, thenR_no he, thenR_no he]
      simp only [neB, decide_eq_false he, Bool.not_false, cond_true]
    · rw [h, thenR_ok]
      simp only [neB, decide_true, Bool.not_true, cond_false]
      rw [value_DecR hs', bnd_mk]
      rcases takeVal_cases s ((k + (textB a).length : Nat) : Int) with ⟨e, h2, he⟩ | ⟨k2, v, t2, e2, o2, d2, h2⟩
      · rw [h2, thenR_no he, thenR_no he]
        simp only [decide_eq_false he, Bool.not_false, cond_true]
      · rw [h2, thenR_ok, thenR_ok]
        simp only [decide_true, Bool.not_true, cond_false]
        rw [req_pos (by simp; omega), wrap_succ (by omega), stR_loop hN hN16 n (i + 1) _ _ (by omega) (by simp [ha])]
        rcases takePrs_cases s n ((k2 + (valB v).length : Nat) : Int) with ⟨e, h, he⟩ | ⟨l, q', g1, g2, g3, g4⟩
        · rw [h, thenR_no he]
          simp only [neB, decide_eq_false he, Bool.not_false, cond_true]
        · rw [g1, thenR_ok]
          simp

theorem state_Dec {p : Int} : F_state_Decode s p = some (decodeS s p) := by
  have hs' : s.length < 9000000000000000000 := by omega
  unfold F_state_Decode decodeS
  rw [show (2147483647 : Int) = ((2147483647 : Nat) : Int) from rfl, wire_TakeCount hs' (by omega), bnd_mk]
  refine thenR_f (d := ([] : List TPair)) fun hc => ?_
  simp only [jn_mk]
  rcases takeCount_cases s p 2147483647 with ⟨e, h, he⟩ | ⟨k, n, t, hk, h1, h2, h3, h4, h5⟩
  · rw [h] at hc; exact absurd hc he
  · have hd := drop_len h4 (uintB_len64 h1).1
    rw [h5]
    simp only [Int.toNat_natCast]
    rw [show ((0 : Int)) = ((0 : Nat) : Int) from rfl, stD_loop hs (N := n) rfl (by omega) n 0 [] _ (by omega) rfl]
    refine thenR_f (d := ([] : List TPair)) fun hp => ?_
    rcases takePrs_cases s n ((k + (uintB n).length : Nat) : Int) with ⟨e, h, he⟩ | ⟨l, q', g1, g2, g3, g4⟩
    · rw [h] at hp; exact absurd hp he
    · rw [g1]
      simp only [List.nil_append]
      rw [svalid_impl (prOk_of hs g2 (by omega) g3), bnd_mk]
      cases staB l <;> rfl

theorem state_DecR {p : Int} : F_clockworkref06_Decode s p = some (decodeS s p) := by
  have hs' : s.length < 9000000000000000000 := by omega
  unfold F_clockworkref06_Decode decodeS
  rw [show (2147483647 : Int) = ((2147483647 : Nat) : Int) from rfl, ref_TakeCount hs' (by omega), bnd_mk]
  refine thenR_f (d := ([] : List TPair)) fun hc => ?_
  simp only [jn_mk]
  rcases takeCount_cases s p 2147483647 with ⟨e, h, he⟩ | ⟨k, n, t, hk, h1, h2, h3, h4, h5⟩
  · rw [h] at hc; exact absurd hc he
  · have hd := drop_len h4 (uintB_len64 h1).1
    rw [h5]
    simp only [Int.toNat_natCast]
    rw [show ((0 : Int)) = ((0 : Nat) : Int) from rfl, stR_loop hs (N := n) rfl (by omega) n 0 [] _ (by omega) rfl]
    refine thenR_f (d := ([] : List TPair)) fun hp => ?_
    rcases takePrs_cases s n ((k + (uintB n).length : Nat) : Int) with ⟨e, h, he⟩ | ⟨l, q', g1, g2, g3, g4⟩
    · rw [h] at hp; exact absurd hp he
    · rw [g1]
      simp only [List.nil_append]
      rw [svalid_ref (prOk_of hs g2 (by omega) g3), bnd_mk]
      cases staB l <;> rfl
end

theorem prsB_pos {l : List TPair} (h : ∀ x ∈ l, PR x) : l.length ≤ (prsB l).length := by
  induction l with
  | nil => simp
  | cons x l ih =>
    have := ih fun y hy => h y (by simp [hy])
    have h1 := prB_len (h x (by simp)).w
    rw [prsB_cons, List.length_cons, List.length_append]
    omega

theorem decodeS_of {s t : Str} {k : Nat} {l : List TPair} (hn : l.length ≤ 1000) (hp : ∀ x ∈ l, PR x) (hv : staB l = true) (h : s.drop k = stateB l ++ t) : decodeS s (k : Int) = (l, ((k + (stateB l).length : Nat) : Int), 0) := by
  have hlen := prsB_pos hp
  simp only [stateB, List.append_assoc] at h
  unfold decodeS
  rw [takeCount_of (by omega) (by omega) (by simp; omega) h, thenR_ok, Int.toNat_natCast, takePrs_of hp (drop_next h), thenR_ok, hv, cond_true]
  simp only [stateB, List.length_append, Nat.add_assoc]

theorem decodeS_cases (s : Str) (p : Int) : (∃ e, decodeS s p = ([], 0, e) ∧ e ≠ 0) ∨
    (∃ (k : Nat) (l : List TPair) (t : Str), p = (k : Int) ∧ decodeS s p = (l, ((k + (stateB l).length : Nat) : Int), 0) ∧ staB l = true ∧ l.length ≤ s.length ∧ (∀ x ∈ l, PR x) ∧ s.drop k = stateB l ++ t) := by
  unfold decodeS
  rcases takeCount_cases s p 2147483647 with ⟨e, h, he⟩ | ⟨k, n, t, rfl, h1, h2, h3, h4, h5⟩
  · exact .inl ⟨e, by rw [h, thenR_no he], he⟩
  have hd := drop_len h4 (uintB_len64 h1).1
  rw [h5, thenR_ok, Int.toNat_natCast]
  rcases takePrs_cases s n ((k + (uintB n).length : Nat) : Int) with ⟨e, h, he⟩ | ⟨l, q', g1, g2, g3, g4⟩
  · exact .inl ⟨e, by rw [h, thenR_no he], he⟩
  rw [g1, thenR_ok]
  cases hval : staB l with
  | false => exact .inl ⟨5, rfl, by decide⟩
  | true =>
    obtain ⟨t3, g5, g6⟩ := g4 _ rfl
    refine .inr ⟨k, l, t3, rfl, ?_, hval, by omega, g3, ?_⟩
    · rw [g6, cond_true]
      simp only [stateB, List.length_append, Nat.add_assoc, g2]
    · have f1 := drop_next h4
      rw [h4, ← f1, g5]
      simp only [stateB, List.append_assoc, g2]

end Go.Proofs.YtcgmfmpfmfjmoaaGreat
