/-
  MAILS AS BYTES: what both sides read.
  Conditions: strings are no longer than a million bytes.
-/
import Derived.Test.YtcgmfmpfmfjmoaaGreatWk
set_option linter.all false
namespace Go.Proofs.YtcgmfmpfmfjmoaaGreat
open Go.ChangeShapes

def mZ : TMail := ⟨0, 0, 0, [], []⟩
def thenM {α : Type} (r : α × Int × Int) (k : α → Int → TMail × Int) : TMail × Int := if r.2.2 = 0 then k r.1 r.2.1 else (mZ, r.2.2)
theorem thenM_f {α : Type} {r : α × Int × Int} {k : α → Int → TMail × Int} {X : Option (TMail × Int)} (h : r.2.2 = 0 → X = some (k r.1 r.2.1)) : cond (r.2.2 != (0 : Int)) (some (mZ, r.2.2)) X = some (thenM r k) := by
  rw [neB, thenM]
  by_cases hr : r.2.2 = 0
  · rw [decide_eq_true hr, Bool.not_true, cond_false, if_pos hr, h hr]
  · rw [decide_eq_false hr, Bool.not_false, cond_true, if_neg hr]
theorem thenM_ok {α : Type} {a : α} {q : Int} {k : α → Int → TMail × Int} : thenM (a, q, 0) k = k a q := rfl
theorem thenM_no {α : Type} {a : α} {q e : Int} {k : α → Int → TMail × Int} (h : e ≠ 0) : thenM (a, q, e) k = (mZ, e) := if_neg h

def takeKeys (s : Str) : Nat → Int → List Str × Int × Int
  | 0, q => ([], q, 0)
  | n + 1, q => thenR [] (takeText s q 24) fun x q => thenR [] (takeKeys s n q) fun l q => (x :: l, q, 0)

theorem takeKeys_cases (s : Str) : ∀ (n : Nat) (q : Int), (∃ e, takeKeys s n q = ([], 0, e) ∧ e ≠ 0) ∨
    (∃ l q', takeKeys s n q = (l, q', 0) ∧ l.length = n ∧ (∀ x ∈ l, x.length ≤ 24) ∧ (∀ k : Nat, q = (k : Int) → ∃ t, s.drop k = keysB l ++ t ∧ q' = ((k + (keysB l).length : Nat) : Int)))
  | 0, q => .inr ⟨[], q, rfl, rfl, fun x hx => by simp at hx, fun k hk => ⟨s.drop k, by simp [keysB], by simp [keysB, hk]⟩⟩
  | n + 1, q => by
    rw [takeKeys]
    rcases takeText_cases s q 24 with ⟨e, h, he⟩ | ⟨k, x, t, rfl, h1, _, h2, h3⟩
    · exact .inl ⟨e, by rw [h, thenR_no he], he⟩
    · rw [h3, thenR_ok]
      rcases takeKeys_cases s n ((k + (textB x).length : Nat) : Int) with ⟨e, h, he⟩ | ⟨l, q', g1, g2, g3, g4⟩
      · exact .inl ⟨e, by rw [h, thenR_no he], he⟩
      · obtain ⟨t2, g5, g6⟩ := g4 _ rfl
        rw [g1, thenR_ok]
        refine .inr ⟨x :: l, q', rfl, by simp [g2], fun y hy => ?_, fun k' hk' => ⟨t2, ?_, ?_⟩⟩
        · rcases List.mem_cons.1 hy with rfl | hy
          · exact h1
          · exact g3 y hy
        · have : k' = k := by omega
          subst this
          rw [keysB_cons, List.append_assoc, ← g5, h2, drop_next h2]
        · have : k' = k := by omega
          subst this
          rw [g6, keysB_cons, List.length_append, Nat.add_assoc]

theorem takeKeys_of {s t : Str} : ∀ {l : List Str} {k : Nat}, (∀ x ∈ l, x.length ≤ 24) → s.drop k = keysB l ++ t → takeKeys s l.length (k : Int) = (l, ((k + (keysB l).length : Nat) : Int), 0)
  | [], k, hl, h => by simp [takeKeys, keysB]
  | x :: l, k, hl, h => by
    have hx := hl x (by simp)
    rw [keysB_cons, List.append_assoc] at h
    rw [List.length_cons, takeKeys, takeText_of (by omega) hx h, thenR_ok, takeKeys_of (fun y hy => hl y (by simp [hy])) (drop_next h), thenR_ok, keysB_cons, List.length_append, Nat.add_assoc]

def decodeM (s : Str) : TMail × Int := thenM (takeInt s 0) fun a q => thenM (takeInt s q) fun b q => thenM (takeInt s q) fun c q => thenM (takeCount s q 64) fun n q => thenM (takeKeys s n.toNat q) fun ks q => thenM (decodeS s q) fun l q =>
  cond ((q != (s.length : Int)) || (!validM ⟨a, b, c, ks, l⟩)) (mZ, 5) (⟨a, b, c, ks, l⟩, 0)

section
variable {s : Str} (hs : s.length ≤ 1000000)
include hs

theorem kI_loop {x20 : Int × Int × Int} {J : TMail → List Int → List Str → Int → Option (TMail × Int)} {N : Nat} (hN : x20.1 = (N : Int)) (hN64 : N ≤ 64) (x43 : TMail) (x47 : List Int) : ∀ (n i : Nat) (acc : List Str) (q : Int), n + i = N → acc.length = i →
    F_exchange_Decode_L1 x20 s J (n + 1) x43 x47 acc q (i : Int) = cond ((takeKeys s n q).2.2 != (0 : Int)) (some (mZ, (takeKeys s n q).2.2)) (J x43 x47 (acc ++ (takeKeys s n q).1) (takeKeys s n q).2.1)
  | 0, i, acc, q, hn, ha => by
    rw [F_exchange_Decode_L1, hN, decN, decide_eq_false (by omega), cond_false]
    simp [takeKeys]
  | n + 1, i, acc, q, hn, ha => by
    have hs' : s.length < 9000000000000000000 := by omega
    rw [F_exchange_Decode_L1, hN, decN, decide_eq_true (by omega), cond_true, show (24 : Int) = ((24 : Nat) : Int) from rfl, wire_TakeText hs' (by omega), bnd_mk, takeKeys, neB]
    rcases takeText_cases s q 24 with ⟨e, h, he⟩ | ⟨k, x, t, rfl, h1, _, h2, h3⟩
    · rw [h, thenR_no he]
      simp only [decide_eq_false he, Bool.not_false, cond_true, neB]
      rfl
    · rw [h3, thenR_ok]
      simp only [decide_true, Bool.not_true, cond_false]
      rw [req_pos (by simp; omega), wrap_succ (by omega), kI_loop hN hN64 x43 x47 n (i + 1) (acc ++ [x]) _ (by omega) (by simp [ha])]
      rcases takeKeys_cases s n ((k + (textB x).length : Nat) : Int) with ⟨e, h, he⟩ | ⟨l, q', g1, g2, g3, g4⟩
      · rw [h, thenR_no he]
        simp only [neB, decide_eq_false he, Bool.not_false, cond_true]
      · rw [g1, thenR_ok]
        simp

theorem kR_loop {x20 : Int × Int × Int} {J : TMail → List Int → List Str → Int → Option (TMail × Int)} {N : Nat} (hN : x20.1 = (N : Int)) (hN64 : N ≤ 64) (x43 : TMail) (x47 : List Int) : ∀ (n i : Nat) (acc : List Str) (q : Int), n + i = N → acc.length = i →
    F_clockworkref31_Decode_L1 x20 s J (n + 1) x43 x47 acc q (i : Int) = cond ((takeKeys s n q).2.2 != (0 : Int)) (some (mZ, (takeKeys s n q).2.2)) (J x43 x47 (acc ++ (takeKeys s n q).1) (takeKeys s n q).2.1)
  | 0, i, acc, q, hn, ha => by
    rw [F_clockworkref31_Decode_L1, hN, decN, decide_eq_false (by omega), cond_false]
    simp [takeKeys]
  | n + 1, i, acc, q, hn, ha => by
    have hs' : s.length < 9000000000000000000 := by omega
    rw [F_clockworkref31_Decode_L1, hN, decN, decide_eq_true (by omega), cond_true, show (24 : Int) = ((24 : Nat) : Int) from rfl, ref_TakeText hs' (by omega), bnd_mk, takeKeys, neB]
    rcases takeText_cases s q 24 with ⟨e, h, he⟩ | ⟨k, x, t, rfl, h1, _, h2, h3⟩
    · rw [h, thenR_no he]
      simp only [decide_eq_false he, Bool.not_false, cond_true, neB]
      rfl
    · rw [h3, thenR_ok]
      simp only [decide_true, Bool.not_true, cond_false]
      rw [req_pos (by simp; omega), wrap_succ (by omega), kR_loop hN hN64 x43 x47 n (i + 1) (acc ++ [x]) _ (by omega) (by simp [ha])]
      rcases takeKeys_cases s n ((k + (textB x).length : Nat) : Int) with ⟨e, h, he⟩ | ⟨l, q', g1, g2, g3, g4⟩
      · rw [h, thenR_no he]
        simp only [neB, decide_eq_false he, Bool.not_false, cond_true]
      · rw [g1, thenR_ok]
        simp

theorem dec3 (J : TMail → List Int → Int → Option (TMail × Int)) (x57 : TMail) : F_exchange_Decode_L2 s J ((3 : Int).toNat + 1) x57 (List.replicate 3 (0 : Int)) 0 0 =
    cond ((takeInt s 0).2.2 != (0 : Int)) (some (mZ, (takeInt s 0).2.2)) (cond ((takeInt s (takeInt s 0).2.1).2.2 != (0 : Int)) (some (mZ, (takeInt s (takeInt s 0).2.1).2.2))
      (cond ((takeInt s (takeInt s (takeInt s 0).2.1).2.1).2.2 != (0 : Int)) (some (mZ, (takeInt s (takeInt s (takeInt s 0).2.1).2.1).2.2))
        (J x57 [(takeInt s 0).1, (takeInt s (takeInt s 0).2.1).1, (takeInt s (takeInt s (takeInt s 0).2.1).2.1).1] (takeInt s (takeInt s (takeInt s 0).2.1).2.1).2.1))) := by
  have hs' : s.length < 9000000000000000000 := by omega
  show F_exchange_Decode_L2 s J 4 x57 [0, 0, 0] 0 0 = _
  rw [F_exchange_Decode_L2, show decide ((0 : Int) < 3) = true from rfl, cond_true, wire_TakeInt hs', bnd_mk, req_pos (by simp), show IntKind.i64.wrap ((0 : Int) + 1) = 1 from by decide, show ([(0 : Int), 0, 0].set (0 : Int).toNat (takeInt s 0).1) = [(takeInt s 0).1, 0, 0] from rfl]
  rw [F_exchange_Decode_L2, show decide ((1 : Int) < 3) = true from rfl, cond_true, wire_TakeInt hs', bnd_mk, req_pos (by simp), show IntKind.i64.wrap ((1 : Int) + 1) = 2 from by decide, show ([(takeInt s 0).1, 0, 0].set (1 : Int).toNat (takeInt s (takeInt s 0).2.1).1) = [(takeInt s 0).1, (takeInt s (takeInt s 0).2.1).1, 0] from rfl]
  rw [F_exchange_Decode_L2, show decide ((2 : Int) < 3) = true from rfl, cond_true, wire_TakeInt hs', bnd_mk, req_pos (by simp), show IntKind.i64.wrap ((2 : Int) + 1) = 3 from by decide]
  rw [F_exchange_Decode_L2, show decide ((3 : Int) < 3) = false from rfl, cond_false]
  rfl

theorem dec3R (J : TMail → List Int → Int → Option (TMail × Int)) (x57 : TMail) : F_clockworkref31_Decode_L2 s J ((3 : Int).toNat + 1) x57 (List.replicate 3 (0 : Int)) 0 0 =
    cond ((takeInt s 0).2.2 != (0 : Int)) (some (mZ, (takeInt s 0).2.2)) (cond ((takeInt s (takeInt s 0).2.1).2.2 != (0 : Int)) (some (mZ, (takeInt s (takeInt s 0).2.1).2.2))
      (cond ((takeInt s (takeInt s (takeInt s 0).2.1).2.1).2.2 != (0 : Int)) (some (mZ, (takeInt s (takeInt s (takeInt s 0).2.1).2.1).2.2))
        (J x57 [(takeInt s 0).1, (takeInt s (takeInt s 0).2.1).1, (takeInt s (takeInt s (takeInt s 0).2.1).2.1).1] (takeInt s (takeInt s (takeInt s 0).2.1).2.1).2.1))) := by
  have hs' : s.length < 9000000000000000000 := by omega
  show F_clockworkref31_Decode_L2 s J 4 x57 [0, 0, 0] 0 0 = _
  rw [F_clockworkref31_Decode_L2, show decide ((0 : Int) < 3) = true from rfl, cond_true, ref_TakeInt hs', bnd_mk, req_pos (by simp), show IntKind.i64.wrap ((0 : Int) + 1) = 1 from by decide, show ([(0 : Int), 0, 0].set (0 : Int).toNat (takeInt s 0).1) = [(takeInt s 0).1, 0, 0] from rfl]
  rw [F_clockworkref31_Decode_L2, show decide ((1 : Int) < 3) = true from rfl, cond_true, ref_TakeInt hs', bnd_mk, req_pos (by simp), show IntKind.i64.wrap ((1 : Int) + 1) = 2 from by decide, show ([(takeInt s 0).1, 0, 0].set (1 : Int).toNat (takeInt s (takeInt s 0).2.1).1) = [(takeInt s 0).1, (takeInt s (takeInt s 0).2.1).1, 0] from rfl]
  rw [F_clockworkref31_Decode_L2, show decide ((2 : Int) < 3) = true from rfl, cond_true, ref_TakeInt hs', bnd_mk, req_pos (by simp), show IntKind.i64.wrap ((2 : Int) + 1) = 3 from by decide]
  rw [F_clockworkref31_Decode_L2, show decide ((3 : Int) < 3) = false from rfl, cond_false]
  rfl

theorem keysOk {l : List Str} {n : Nat} (hl : l.length = n) (hn : n ≤ 64) (h : ∀ x ∈ l, x.length ≤ 24) : l.length < 9223372036854775808 ∧ ∀ x ∈ l, x.length < big := by
  have e : big = 9223372036854775808 := rfl
  exact ⟨by omega, fun x hx => by have := h x hx; omega⟩

theorem decS_ok {q : Int} : PrOk (decodeS s q).1 := by
  rcases decodeS_cases s q with ⟨e, h, _⟩ | ⟨k, l, t, rfl, h, _, h2, h3, _⟩
  · rw [h]; exact PrOk.nil
  · rw [h]; exact prOk_of hs (n := l.length) rfl (by omega) h3

theorem mail_Dec : F_exchange_Decode s = some (decodeM s) := by
  have hs' : s.length < 9000000000000000000 := by omega
  unfold F_exchange_Decode decodeM
  simp only [jn_mk]
  rw [dec3 hs]
  refine thenM_f fun _ => ?_
  refine thenM_f fun _ => ?_
  refine thenM_f fun _ => ?_
  rw [req_pos (by simp), req_pos (by simp), req_pos (by simp), show (64 : Int) = ((64 : Nat) : Int) from rfl, wire_TakeCount hs' (by omega), bnd_mk]
  refine thenM_f fun hc => ?_
  generalize (takeInt s (takeInt s (takeInt s 0).2.1).2.1).2.1 = p at hc ⊢
  rcases takeCount_cases s p 64 with ⟨e, h, he⟩ | ⟨k, n, t, hk, h1, h2, h3, h4, h5⟩
  · rw [h] at hc; exact absurd hc he
  · rw [h5]
    simp only [Int.toNat_natCast]
    refine (kI_loop hs (N := n) rfl h2 _ _ n 0 [] _ (by omega) rfl).trans ?_
    refine thenM_f fun hp => ?_
    rcases takeKeys_cases s n ((k + (uintB n).length : Nat) : Int) with ⟨e, h, he⟩ | ⟨l, q', g1, g2, g3, g4⟩
    · rw [h] at hp; exact absurd hp he
    · rw [g1]
      simp only [List.nil_append]
      rw [state_Dec hs, bnd_mk]
      refine thenM_f fun _ => ?_
      have ho := keysOk hs g2 h2 g3
      simp only [show ∀ a b c : Int, atI [a, b, c] 0 = a from fun _ _ _ => rfl, show ∀ a b c : Int, atI [a, b, c] 1 = b from fun _ _ _ => rfl, show ∀ a b c : Int, atI [a, b, c] 2 = c from fun _ _ _ => rfl]
      rw [mvalid_impl (m := ⟨_, _, _, l, (decodeS s q').1⟩) ho.1 ho.2 (decS_ok hs)]
      cases hq : ((decodeS s q').2.1 != (s.length : Int)) with
      | true => rfl
      | false =>
        simp only [BEq.rfl, gcall_t, bnd_mk, Bool.false_or]
        generalize validM _ = v
        cases v <;> rfl

theorem mail_DecR : F_clockworkref31_Decode s = some (decodeM s) := by
  have hs' : s.length < 9000000000000000000 := by omega
  unfold F_clockworkref31_Decode decodeM
  simp only [jn_mk]
  rw [dec3R hs]
  refine thenM_f fun _ => ?_
  refine thenM_f fun _ => ?_
  refine thenM_f fun _ => ?_
  rw [req_pos (by simp), req_pos (by simp), req_pos (by simp), show (64 : Int) = ((64 : Nat) : Int) from rfl, ref_TakeCount hs' (by omega), bnd_mk]
  refine thenM_f fun hc => ?_
  generalize (takeInt s (takeInt s (takeInt s 0).2.1).2.1).2.1 = p at hc ⊢
  rcases takeCount_cases s p 64 with ⟨e, h, he⟩ | ⟨k, n, t, hk, h1, h2, h3, h4, h5⟩
  · rw [h] at hc; exact absurd hc he
  · rw [h5]
    simp only [Int.toNat_natCast]
    refine (kR_loop hs (N := n) rfl h2 _ _ n 0 [] _ (by omega) rfl).trans ?_
    refine thenM_f fun hp => ?_
    rcases takeKeys_cases s n ((k + (uintB n).length : Nat) : Int) with ⟨e, h, he⟩ | ⟨l, q', g1, g2, g3, g4⟩
    · rw [h] at hp; exact absurd hp he
    · rw [g1]
      simp only [List.nil_append]
      rw [state_DecR hs, bnd_mk]
      refine thenM_f fun _ => ?_
      have ho := keysOk hs g2 h2 g3
      simp only [show ∀ a b c : Int, atI [a, b, c] 0 = a from fun _ _ _ => rfl, show ∀ a b c : Int, atI [a, b, c] 1 = b from fun _ _ _ => rfl, show ∀ a b c : Int, atI [a, b, c] 2 = c from fun _ _ _ => rfl]
      rw [mvalid_ref (m := ⟨_, _, _, l, (decodeS s q').1⟩) ho.1 ho.2 (decS_ok hs)]
      cases hq : ((decodeS s q').2.1 != (s.length : Int)) with
      | true => rfl
      | false =>
        simp only [BEq.rfl, gcall_t, bnd_mk, Bool.false_or]
        generalize validM _ = v
        cases v <;> rfl
end

end Go.Proofs.YtcgmfmpfmfjmoaaGreat
