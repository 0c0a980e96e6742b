/-
  PLACEMENTS AS BYTES: what both sides read of a placement; reading undoes writing, and back.
  Conditions: strings are no longer than memory is.
-/
import Derived.Test.YtdkakeiccefbgaaWf
import Derived.Test.YtdkakeiccefbgaaDn
set_option linter.all false
namespace Go.Proofs.Ytdkakeiccefbgaa
open Go.ChangeShapes

def takeParts (s : Str) : Nat → Int → List TPart × Int × Int
  | 0, q => ([], q, 0)
  | n + 1, q => thenR [] (takePart s q) fun x q => thenR [] (takeParts s n q) fun l q => (x :: l, q, 0)

theorem partsB_cons (x : TPart) (l : List TPart) : partsB (x :: l) = partB x ++ partsB l := by simp [partsB]

theorem takeParts_cases (s : Str) : ∀ (n : Nat) (q : Int), (∃ e, takeParts s n q = ([], 0, e) ∧ e ≠ 0) ∨
    (∃ l q', takeParts s n q = (l, q', 0) ∧ l.length = n ∧ (∀ x ∈ l, Ok9 24 x) ∧ (∀ k : Nat, q = (k : Int) → ∃ t, s.drop k = partsB l ++ t ∧ q' = ((k + (partsB l).length : Nat) : Int)))
  | 0, q => .inr ⟨[], q, rfl, rfl, fun x hx => by simp at hx, fun k hk => ⟨s.drop k, by simp [partsB], by simp [partsB, hk]⟩⟩
  | n + 1, q => by
    rw [takeParts]
    rcases takePart_cases s q with ⟨e, h, he⟩ | ⟨k, x, t, rfl, h1, h2, h3⟩
    · exact .inl ⟨e, by rw [h, thenR_no he], he⟩
    · rw [h3, thenR_ok]
      rcases takeParts_cases s n ((k + (partB x).length : Nat) : Int) with ⟨e, h, he⟩ | ⟨l, q', g1, g2, g3, g4⟩
      · exact .inl ⟨e, by rw [h, thenR_no he], he⟩
      · obtain ⟨t2, g5, g6⟩ := g4 _ rfl
        rw [g1, thenR_ok]
        refine .inr ⟨x :: l, q', rfl, by simp [g2], fun y hy => ?_, fun k' hk' => ⟨t2, ?_, ?_⟩⟩
        · rcases List.mem_cons.1 hy with rfl | hy
          · exact h1
          · exact g3 y hy
        · have : k' = k := by omega
          subst this
          rw [partsB_cons, List.append_assoc, ← g5, h2, drop_next h2]
        · have : k' = k := by omega
          subst this
          rw [g6, partsB_cons, List.length_append, Nat.add_assoc]

theorem takeParts_of {s t : Str} : ∀ {l : List TPart} {k : Nat}, (∀ x ∈ l, Ok9 24 x) → s.drop k = partsB l ++ t → takeParts s l.length (k : Int) = (l, ((k + (partsB l).length : Nat) : Int), 0)
  | [], k, hl, h => by simp [takeParts, partsB]
  | x :: l, k, hl, h => by
    rw [partsB_cons, List.append_assoc] at h
    rw [List.length_cons, takeParts, takePart_of (hl x (by simp)) h, thenR_ok, takeParts_of (fun y hy => hl y (by simp [hy])) (drop_next h), thenR_ok, partsB_cons, List.length_append, Nat.add_assoc]

def nP : TPlacement := ⟨0, []⟩
def decodeP (s : Str) (p : Int) : TPlacement × Int × Int := thenR nP (takeInt s p) fun v q => thenR nP (takeCount s q 16) fun n q => thenR nP (takeParts s n.toNat q) fun l q => cond (pvB ⟨v, l⟩) (⟨v, l⟩, q, 0) (nP, 0, 5)

section
variable {s : Str} (hs : s.length < 9000000000000000000)
include hs

theorem refD_loop {x4 : Int × Int × Int} {J : Int → List TPart → List TPart → Int → Option (TPlacement × Int × Int)} {N : Nat} (hN : x4.1 = (N : Int)) (hN16 : N ≤ 16) : ∀ (n i : Nat) (acc : List TPart) (q : Int) (x18 : Int) (x20 : List TPart), n + i = N → acc.length = i →
    F_clockworkref29_Decode_L1 x4 s J (n + 1) x18 x20 acc q (i : Int) = cond ((takeParts s n q).2.2 != (0 : Int)) (some (nP, 0, (takeParts s n q).2.2)) (J x18 x20 (acc ++ (takeParts s n q).1) (takeParts s n q).2.1)
  | 0, i, acc, q, x18, x20, hn, ha => by
    rw [F_clockworkref29_Decode_L1, hN, decN, decide_eq_false (by omega), cond_false]
    simp [takeParts]
  | n + 1, i, acc, q, x18, x20, hn, ha => by
    rw [F_clockworkref29_Decode_L1, hN, decN, decide_eq_true (by omega), cond_true, ref_takePart hs, bnd_mk, takeParts, neB]
    rcases takePart_cases s q with ⟨e, h, he⟩ | ⟨k, x, t, rfl, h1, h2, h3⟩
    · rw [h, thenR_no he]
      simp only [decide_eq_false he, Bool.not_false, cond_true, neB]
      rfl
    · rw [h3, thenR_ok]
      simp only [decide_true, Bool.not_true, cond_false]
      rw [req_pos (by simp; omega), wrap_succ (by omega), refD_loop hN hN16 n (i + 1) (acc ++ [x]) _ x18 x20 (by omega) (by simp [ha])]
      rcases takeParts_cases s n ((k + (partB x).length : Nat) : Int) with ⟨e, h, he⟩ | ⟨l, q', g1, g2, g3, g4⟩
      · rw [h, thenR_no he]
        simp only [neB, decide_eq_false he, Bool.not_false, cond_true]
      · rw [g1, thenR_ok]
        simp

theorem okParts {v : Int} {l : List TPart} {n : Nat} (hl : l.length = n) (hn : n ≤ 16) (h : ∀ x ∈ l, Ok9 24 x) : (⟨v, l⟩ : TPlacement).Parts.length < big ∧ ∀ x ∈ (⟨v, l⟩ : TPlacement).Parts, x.From.length < big ∧ x.Done.length < big := by
  have e : big = 9223372036854775808 := rfl
  refine ⟨by simp only; omega, fun x hx => ?_⟩
  have := h x hx
  have h1 := this.fr
  have h2 := this.dn
  omega

theorem ref_Decode {p : Int} : F_clockworkref29_Decode s p = some (decodeP s p) := by
  unfold F_clockworkref29_Decode decodeP
  rw [ref_TakeInt hs, bnd_mk]
  refine thenR_f (d := nP) fun _ => ?_
  rw [show (16 : Int) = ((16 : Nat) : Int) from rfl, ref_TakeCount hs (by omega), bnd_mk]
  refine thenR_f (d := nP) fun hc => ?_
  simp only [jn_mk]
  rcases takeCount_cases s (takeInt s p).2.1 16 with ⟨e, h, he⟩ | ⟨k, n, t, hk, h1, h2, h3, h4, h5⟩
  · rw [h] at hc; exact absurd hc he
  · rw [h5]
    simp only [Int.toNat_natCast]
    rw [show ((0 : Int)) = ((0 : Nat) : Int) from rfl, refD_loop hs (N := n) rfl h2 n 0 [] _ _ _ (by omega) rfl]
    refine thenR_f (d := nP) fun hp => ?_
    rcases takeParts_cases s n ((k + (uintB n).length : Nat) : Int) with ⟨e, h, he⟩ | ⟨l, q', g1, g2, g3, g4⟩
    · rw [h] at hp; exact absurd hp he
    · rw [g1]
      have ho := okParts hs (v := (takeInt s p).1) g2 h2 g3
      simp only [List.nil_append]
      rw [valid29_ref ho.1 ho.2, bnd_mk]
      cases pvB ⟨(takeInt s p).1, l⟩ <;> rfl

/-- What the program does behind its loop. -/
def JD (v : Int) (x : List TPart) (at' e : Int) : Option (TPlacement × Int × Int) :=
  bnd (gcall ((e == (0 : Int)) == true) (F_placement_Valid (⟨v, x⟩ : TPlacement))) fun w =>
      jn (fun (e2 : Int) => cond (e2 != (0 : Int)) (some ((⟨0, ([] : List TPart)⟩ : TPlacement), (0 : Int), e2)) (some ((⟨v, x⟩ : TPlacement), at', (0 : Int)))) fun J2 => cond ((e == (0 : Int)) && (!w)) (J2 5) (J2 e)

omit hs in
theorem JD_e {v : Int} {x : List TPart} {q e : Int} (he : e ≠ 0) : JD v x q e = some (nP, 0, e) := by
  have : (e == (0 : Int)) = false := by simpa using he
  unfold JD
  rw [this]
  simp only [show (false == true) = false from rfl, gcall_f, bnd_mk, jn_mk, Bool.false_and, cond_false, neB, decide_eq_false he, Bool.not_false, cond_true]
  rfl

theorem JD_0 {v : Int} {x : List TPart} {n : Nat} {q : Int} (hl : x.length = n) (hn : n ≤ 16) (h : ∀ y ∈ x, Ok9 24 y) : JD v x q 0 = some (cond (pvB ⟨v, x⟩) (⟨v, x⟩, q, 0) (nP, 0, 5)) := by
  have ho := okParts hs (v := v) hl hn h
  unfold JD
  simp only [BEq.rfl, gcall_t, valid29_impl ho.1 ho.2, bnd_mk, jn_mk, Bool.true_and]
  cases pvB ⟨v, x⟩ <;> rfl

theorem impE_loop {J : List TPart → Int → Int → Option (TPlacement × Int × Int)} {N : Nat} (hN16 : N ≤ 16) {e : Int} (he : e ≠ 0) : ∀ (n i : Nat) (acc : List TPart) (q : Int), n + i = N → acc.length = i →
    ∃ x q', F_placement_Decode_L1 s (N : Int) J (n + 1) acc q e (i : Int) = J x q' e
  | 0, i, acc, q, hn, ha => ⟨acc, q, by rw [F_placement_Decode_L1, decN, decide_eq_false (by omega), cond_false]⟩
  | n + 1, i, acc, q, hn, ha => by
    obtain ⟨x, q', h⟩ := impE_loop (J := J) hN16 he n (i + 1) (acc ++ [⟨0, [], 0, 0, []⟩]) q (by omega) (by simp [ha])
    refine ⟨x, q', ?_⟩
    rw [F_placement_Decode_L1, decN, decide_eq_true (by omega), cond_true]
    simp only [rdNumber_e he, rdText_e he, bnd_mk]
    rw [req_pos (by simp; omega), wrap_succ (by omega)]
    exact h

theorem imp_loop {J : List TPart → Int → Int → Option (TPlacement × Int × Int)} {N : Nat} (hN16 : N ≤ 16) : ∀ (n i : Nat) (acc : List TPart) (q : Int), n + i = N → acc.length = i →
    ((takeParts s n q).2.2 = 0 ∧ F_placement_Decode_L1 s (N : Int) J (n + 1) acc q 0 (i : Int) = J (acc ++ (takeParts s n q).1) (takeParts s n q).2.1 0) ∨
    ((takeParts s n q).2.2 ≠ 0 ∧ ∃ x q', F_placement_Decode_L1 s (N : Int) J (n + 1) acc q 0 (i : Int) = J x q' (takeParts s n q).2.2)
  | 0, i, acc, q, hn, ha => .inl ⟨rfl, by rw [F_placement_Decode_L1, decN, decide_eq_false (by omega), cond_false]; simp [takeParts]⟩
  | n + 1, i, acc, q, hn, ha => by
    rw [F_placement_Decode_L1, decN, decide_eq_true (by omega), cond_true, takeParts, wrap_succ (i := i) (by omega)]
    rcases chain9 (p := q) hs (fun x at' e => req ((acc ++ [x]).length * 56 ≤ 140737488355328) (F_placement_Decode_L1 s (N : Int) J (n + 1) (acc ++ [x]) at' e ((i + 1 : Nat) : Int))) with ⟨h0, h⟩ | ⟨he, x, q', h⟩
    · have h' := h
      rw [req_pos (by simp; omega)] at h'
      rcases takePart_cases s q with ⟨e, g, he⟩ | ⟨k, x, t, rfl, h1, h2, h3⟩
      · rw [g] at h0; exact absurd h0 he
      · rw [h3] at h' ⊢
        rw [thenR_ok]
        rcases imp_loop (J := J) hN16 n (i + 1) (acc ++ [x]) ((k + (partB x).length : Nat) : Int) (by omega) (by simp [ha]) with ⟨g0, g⟩ | ⟨g0, y, q', g⟩
        · rcases takeParts_cases s n ((k + (partB x).length : Nat) : Int) with ⟨e, g5, he⟩ | ⟨l, q', g1, g2, g3, g4⟩
          · rw [g5] at g0; exact absurd g0 he
          · rw [g1] at g ⊢
            rw [thenR_ok]
            refine .inl ⟨rfl, ?_⟩
            rw [h', g]
            simp
        · rcases takeParts_cases s n ((k + (partB x).length : Nat) : Int) with ⟨e, g5, he⟩ | ⟨l, q', g1, g2, g3, g4⟩
          · rw [g5] at g ⊢
            rw [thenR_no he]
            exact .inr ⟨he, y, q', h'.trans g⟩
          · rw [g1] at g0; exact absurd rfl g0
    · have h' := h
      rw [req_pos (by simp; omega)] at h'
      obtain ⟨y, q2, g⟩ := impE_loop hs (J := J) hN16 he n (i + 1) (acc ++ [x]) q' (by omega) (by simp [ha])
      rcases takePart_cases s q with ⟨e, g5, he5⟩ | ⟨k, x, t, rfl, h1, h2, h3⟩
      · rw [g5] at h' g ⊢
        rw [thenR_no he5]
        exact .inr ⟨he5, y, q2, h'.trans g⟩
      · rw [h3] at he; exact absurd rfl he

theorem imp_Decode {p : Int} : F_placement_Decode s p = some (decodeP s p) := by
  unfold F_placement_Decode decodeP
  rw [rdNumber_0 hs, bnd_mk]
  refine thenR_f (d := nP) fun _ => ?_
  rw [show (16 : Int) = ((16 : Nat) : Int) from rfl, wire_TakeCount hs (by omega), bnd_mk]
  show F_placement_Decode_L1 s (takeCount s (takeInt s p).2.1 16).1 (JD (takeInt s p).1) _ [] _ _ 0 = _
  rcases takeCount_cases s (takeInt s p).2.1 16 with ⟨e, h, he⟩ | ⟨k, n, t, hk, h1, h2, h3, h4, h5⟩
  · rw [h, thenR_no he]
    obtain ⟨x, q', g⟩ := impE_loop hs (J := JD (takeInt s p).1) (N := 0) (by omega) he 0 0 [] 0 rfl rfl
    exact g.trans (JD_e he)
  · rw [h5, thenR_ok]
    simp only [Int.toNat_natCast]
    rcases imp_loop hs (J := JD (takeInt s p).1) (N := n) h2 n 0 [] ((k + (uintB n).length : Nat) : Int) (by omega) rfl with ⟨g0, g⟩ | ⟨g0, x, q', g⟩
    · refine g.trans ?_
      rcases takeParts_cases s n ((k + (uintB n).length : Nat) : Int) with ⟨e, g5, he⟩ | ⟨l, q', g1, g2, g3, g4⟩
      · rw [g5] at g0; exact absurd g0 he
      · rw [g1, thenR_ok]
        simp only [List.nil_append]
        exact JD_0 hs g2 h2 g3
    · refine g.trans ?_
      rcases takeParts_cases s n ((k + (uintB n).length : Nat) : Int) with ⟨e, g5, he⟩ | ⟨l, q', g1, g2, g3, g4⟩
      · rw [g5, thenR_no he]
        exact JD_e he
      · rw [g1] at g0; exact absurd rfl g0
end

/-! ### Reading undoes writing -/

theorem partB_pos {x : TPart} (h : okI .i64 x.Id) : 1 ≤ (partB x).length := by
  have := (intB_len h).1
  simp only [partB, List.length_append]
  omega

theorem partsB_pos {l : List TPart} (h : ∀ x ∈ l, Ok9 24 x) : l.length ≤ (partsB l).length := by
  induction l with
  | nil => simp
  | cons x l ih =>
    have := ih fun y hy => h y (by simp [hy])
    have h1 := partB_pos (h x (by simp)).id
    rw [partsB_cons, List.length_cons, List.length_append]
    omega

theorem decodeP_of {p : TPlacement} {s : Str} (hv : okI .i64 p.Version) (hn : p.Parts.length ≤ 16) (hp : ∀ x ∈ p.Parts, Ok9 24 x) (hval : pvB p = true) : decodeP (plB p ++ s) 0 = (p, ((plB p).length : Int), 0) := by
  have hd : (plB p ++ s).drop 0 = intB p.Version ++ (uintB p.Parts.length ++ (partsB p.Parts ++ s)) := by simp [plB, List.append_assoc]
  have h1 := drop_next hd
  have h2 := drop_next h1
  have hlen := partsB_pos hp
  unfold decodeP
  have e0 := takeInt_of hv hd
  rw [show ((0 : Nat) : Int) = 0 from rfl] at e0
  rw [e0, thenR_ok, takeCount_of (by omega) hn (by simp; omega) h1, thenR_ok, Int.toNat_natCast, takeParts_of hp h2, thenR_ok]
  have : (⟨p.Version, p.Parts⟩ : TPlacement) = p := rfl
  rw [this, hval, cond_true]
  simp only [plB, List.length_append, Nat.zero_add]

theorem decodeP_cases (s : Str) (p : Int) : (∃ e, decodeP s p = (nP, 0, e) ∧ e ≠ 0) ∨
    (∃ (k : Nat) (q : TPlacement) (t : Str), p = (k : Int) ∧ decodeP s p = (q, ((k + (plB q).length : Nat) : Int), 0) ∧ pvB q = true ∧ okI .i64 q.Version ∧ q.Parts.length ≤ 16 ∧ (∀ x ∈ q.Parts, Ok9 24 x) ∧ s.drop k = plB q ++ t) := by
  unfold decodeP
  rcases takeInt_cases s p with ⟨e, h, he⟩ | ⟨k, v, t, rfl, o1, d1, h⟩
  · exact .inl ⟨e, by rw [h, thenR_no he], he⟩
  rw [h, thenR_ok]
  rcases takeCount_cases s ((k + (intB v).length : Nat) : Int) 16 with ⟨e, h, he⟩ | ⟨k2, n, t2, e2, h1, h2, h3, h4, h5⟩
  · exact .inl ⟨e, by rw [h, thenR_no he], he⟩
  rw [h5, thenR_ok, Int.toNat_natCast]
  rcases takeParts_cases s n ((k2 + (uintB n).length : Nat) : Int) with ⟨e, h, he⟩ | ⟨l, q', g1, g2, g3, g4⟩
  · exact .inl ⟨e, by rw [h, thenR_no he], he⟩
  rw [g1, thenR_ok]
  cases hval : pvB ⟨v, l⟩ with
  | false => exact .inl ⟨5, rfl, by decide⟩
  | true =>
    obtain ⟨t3, g5, g6⟩ := g4 _ rfl
    have e2 : k2 = k + (intB v).length := by omega
    subst e2
    refine .inr ⟨k, ⟨v, l⟩, t3, rfl, ?_, hval, o1, by simp only; omega, g3, ?_⟩
    · rw [g6, cond_true]
      simp only [plB, List.length_append, Nat.add_assoc, g2]
    · have f1 := drop_next d1
      have f2 := drop_next h4
      rw [d1, ← f1, h4, ← f2, g5]
      simp only [plB, List.append_assoc, g2]

end Go.Proofs.Ytdkakeiccefbgaa
