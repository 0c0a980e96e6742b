/-
  VALUES AND STATES AS BYTES: what both sides write and read.
  Conditions: strings are no longer than memory is.
-/
import Derived.Test.YtcgmfmpfmfjmoaaGreatEt
import Derived.Test.YtcgmfmpfmfjmoaaGreatRe
set_option linter.all false
namespace Go.Proofs.YtcgmfmpfmfjmoaaGreat
open Go.ChangeShapes

theorem intB_len {x : Int} (h : okI .i64 x) : 1 ≤ (intB x).length ∧ (intB x).length ≤ 10 := uintB_len64 (zig_lt h)
theorem textB_len {a : Str} (h : a.length ≤ 1000) : 1 ≤ (textB a).length ∧ (textB a).length ≤ 10 + a.length := by
  have := uintB_len64 (u := a.length) (by omega)
  simp only [textB, List.length_append]
  omega

theorem drop_next {s a t : Str} {k : Nat} (h : s.drop k = a ++ t) : s.drop (k + a.length) = t := by
  rw [← List.drop_drop, h, List.drop_left]

def thenR {α β : Type} (d : β) (r : α × Int × Int) (k : α → Int → β × Int × Int) : β × Int × Int := if r.2.2 = 0 then k r.1 r.2.1 else (d, 0, r.2.2)

theorem thenR_f {α β : Type} {d : β} {r : α × Int × Int} {k : α → Int → β × Int × Int} {X : Option (β × Int × Int)} (h : r.2.2 = 0 → X = some (k r.1 r.2.1)) : cond (r.2.2 != (0 : Int)) (some (d, (0 : Int), r.2.2)) X = some (thenR d r k) := by
  rw [neB, thenR]
  by_cases hr : r.2.2 = 0
  · rw [decide_eq_true hr, Bool.not_true, cond_false, if_pos hr, h hr]
  · rw [decide_eq_false hr, Bool.not_false, cond_true, if_neg hr]
theorem thenR_ok {α β : Type} {d : β} {a : α} {q : Int} {k : α → Int → β × Int × Int} : thenR d (a, q, 0) k = k a q := rfl
theorem thenR_no {α β : Type} {d : β} {a : α} {q e : Int} {k : α → Int → β × Int × Int} (h : e ≠ 0) : thenR d (a, q, e) k = (d, 0, e) := if_neg h

/-! ### Values -/

def valB (v : TValue) : Str := if v.Kind = 1 then uintB 1 ++ intB v.N else if v.Kind = 2 then uintB 2 ++ textB v.S else uintB 0

theorem u0 : uintB 0 = [byt 0] := uintB_lo (by omega)
theorem u1 : uintB 1 = [byt 1] := uintB_lo (by omega)
theorem u2 : uintB 2 = [byt 2] := uintB_lo (by omega)

theorem valB_len {v : TValue} (hN : okI .i64 v.N) (hS : v.S.length ≤ 1000) : 1 ≤ (valB v).length ∧ (valB v).length ≤ 11 + v.S.length := by
  have h1 := intB_len hN
  have h2 := textB_len hS
  unfold valB
  rw [u0, u1, u2]
  split
  · simp only [List.length_append, List.length_cons, List.length_nil]; omega
  · split
    · simp only [List.length_append, List.length_cons, List.length_nil]; omega
    · simp only [List.length_cons, List.length_nil]; omega

theorem value_Enc {v : TValue} (hN : okI .i64 v.N) (hS : v.S.length ≤ 1000) : F_value_Encode v = some (valB v) := by
  have h1 := intB_len hN
  have h2 := textB_len hS
  unfold F_value_Encode valB
  rw [show (1 : Int) = ((1 : Nat) : Int) from rfl, show (2 : Int) = ((2 : Nat) : Int) from rfl, show (0 : Int) = ((0 : Nat) : Int) from rfl, wire_Uint (by omega), wire_Uint (by omega), wire_Uint (by omega), wire_Int hN, wire_Text (by omega)]
  simp only [bnd_mk]
  rw [req_pos (by rw [u1]; simp only [List.length_cons, List.length_nil]; omega), req_pos (by rw [u2]; simp only [List.length_cons, List.length_nil]; omega)]
  by_cases c1 : v.Kind = 1
  · simp [c1]
  · by_cases c2 : v.Kind = 2
    · simp [c2]
    · have e1 : (v.Kind == 1) = false := by simpa using c1
      have e2 : (v.Kind == 2) = false := by simpa using c2
      simp [c1, c2, e1, e2]

theorem value_EncR {v : TValue} (hN : okI .i64 v.N) (hS : v.S.length ≤ 1000) : F_clockworkref05_Encode v = some (valB v) := by
  have h1 := intB_len hN
  have h2 := textB_len hS
  unfold F_clockworkref05_Encode valB
  rw [show (1 : Int) = ((1 : Nat) : Int) from rfl, show (2 : Int) = ((2 : Nat) : Int) from rfl, show (0 : Int) = ((0 : Nat) : Int) from rfl, ref_Uint (by omega), ref_Uint (by omega), ref_Uint (by omega), ref_Int hN, ref_Text (by omega)]
  simp only [bnd_mk]
  rw [req_pos (by rw [u1]; simp only [List.length_cons, List.length_nil]; omega), req_pos (by rw [u2]; simp only [List.length_cons, List.length_nil]; omega)]
  by_cases c1 : v.Kind = 1
  · simp [c1]
  · by_cases c2 : v.Kind = 2
    · simp [c2]
    · have e1 : (v.Kind == 1) = false := by simpa using c1
      have e2 : (v.Kind == 2) = false := by simpa using c2
      simp [c1, c2, e1, e2]

def vZ : TValue := ⟨0, 0, []⟩
def takeVal (s : Str) (p : Int) : TValue × Int × Int := thenR vZ (takeUint s p) fun c q =>
  if c = 0 then (vZ, q, 0) else if c = 1 then thenR vZ (takeInt s q) fun n q => (⟨1, n, []⟩, q, 0) else if c = 2 then thenR vZ (takeText s q 64) fun t q => cond (plainB t) (⟨2, 0, t⟩, q, 0) (vZ, 0, 5) else (vZ, 0, 5)

theorem takeText_small (s : Str) (q : Int) (m : Nat) : (takeText s q m).1.length ≤ m := by
  rcases takeText_cases s q m with ⟨e, h, _⟩ | ⟨k, a, t, _, h1, _, _, h⟩
  · rw [h]; simp
  · rw [h]; exact h1

section
variable {s : Str} {p : Int} (hs : s.length < 9000000000000000000)
include hs

theorem value_DecR : F_clockworkref05_Decode s p = some (takeVal s p) := by
  unfold F_clockworkref05_Decode takeVal
  rw [ref_TakeUint hs, bnd_mk]
  refine thenR_f (d := vZ) fun _ => ?_
  generalize (takeUint s p).1 = c
  generalize (takeUint s p).2.1 = q
  rw [ref_TakeInt hs, show (64 : Int) = ((64 : Nat) : Int) from rfl, ref_TakeText hs (by omega)]
  by_cases c0 : c = 0
  · simp [c0, vZ]
  · by_cases c1 : c = 1
    · subst c1
      simp only [show ((1 : Int) == 0) = false from rfl, cond_false, BEq.rfl, cond_true, bnd_mk, if_neg (show ¬ (1 : Int) = 0 by omega), if_true]
      exact thenR_f (d := vZ) fun _ => rfl
    · by_cases c2 : c = 2
      · subst c2
        simp only [show ((2 : Int) == 0) = false from rfl, show ((2 : Int) == 1) = false from rfl, cond_false, bne_self_eq_false, bnd_mk, if_neg (show ¬ (2 : Int) = 0 by omega), if_neg (show ¬ (2 : Int) = 1 by omega), if_true]
        refine thenR_f (d := vZ) fun _ => ?_
        have hl := takeText_small s q 64
        rw [plain_ref (by have e : big = 9223372036854775808 := rfl; omega), bnd_mk]
        cases plainB (takeText s q 64).1 <;> rfl
      · have e0 : (c == 0) = false := by simpa using c0
        have e1 : (c == 1) = false := by simpa using c1
        have e2 : (c != 2) = true := by simpa using c2
        rw [e0, e1, e2, if_neg c0, if_neg c1, if_neg c2]
        rfl

theorem value_Dec : F_value_Decode s p = some (takeVal s p) := by
  unfold F_value_Decode takeVal
  rw [wire_TakeUint hs, bnd_mk]
  refine thenR_f (d := vZ) fun _ => ?_
  generalize (takeUint s p).1 = c
  generalize (takeUint s p).2.1 = q
  rw [wire_TakeInt hs, show (64 : Int) = ((64 : Nat) : Int) from rfl, wire_TakeText hs (by omega)]
  by_cases c0 : c = 0
  · simp [c0, vZ]
  · by_cases c1 : c = 1
    · subst c1
      simp only [show ((1 : Int) == 0) = false from rfl, cond_false, BEq.rfl, cond_true, bnd_mk, if_neg (show ¬ (1 : Int) = 0 by omega), if_true]
      exact thenR_f (d := vZ) fun _ => rfl
    · by_cases c2 : c = 2
      · subst c2
        simp only [show ((2 : Int) == 0) = false from rfl, show ((2 : Int) == 1) = false from rfl, cond_false, BEq.rfl, cond_true, bnd_mk, if_neg (show ¬ (2 : Int) = 0 by omega), if_neg (show ¬ (2 : Int) = 1 by omega), if_true]
        have hl := takeText_small s q 64
        have hp := plain_impl (s := (takeText s q 64).1) (by have e : big = 9223372036854775808 := rfl; omega)
        unfold thenR
        by_cases he : (takeText s q 64).2.2 = 0
        · rw [if_pos he, he]
          simp only [BEq.rfl, gcall_t, hp, bnd_mk, jn_mk, Bool.true_and]
          cases plainB (takeText s q 64).1 <;> rfl
        · have e3 : ((takeText s q 64).2.2 == (0 : Int)) = false := by simpa using he
          rw [if_neg he, e3]
          simp only [show (false == true) = false from rfl, gcall_f, bnd_mk, jn_mk, Bool.false_and, cond_false, neB, decide_eq_false he, Bool.not_false, cond_true]
          rfl
      · have e0 : (c == 0) = false := by simpa using c0
        have e1 : (c == 1) = false := by simpa using c1
        have e2 : (c == 2) = false := by simpa using c2
        rw [e0, e1, e2, if_neg c0, if_neg c1, if_neg c2]
        rfl
end

structure VOk (v : TValue) : Prop where
  n : okI .i64 v.N
  s : v.S.length ≤ 64
  v : vvB v = true

theorem plainB_len {t : Str} (h : plainB t = true) : t.length ≤ 64 := by
  simp only [plainB, Bool.and_eq_true, decide_eq_true_eq] at h
  exact h.1

theorem takeVal_of {s t : Str} {k : Nat} {v : TValue} (hv : VOk v) (h : s.drop k = valB v ++ t) : takeVal s (k : Int) = (v, ((k + (valB v).length : Nat) : Int), 0) := by
  obtain ⟨vk, vn, vs⟩ := v
  obtain ⟨h1, h2, h3⟩ := hv
  simp only at h1 h2
  unfold takeVal
  by_cases c0 : vk = 0
  · subst c0
    simp only [vvB, BEq.rfl, cond_true, Bool.and_eq_true, beq_iff_eq] at h3
    obtain ⟨rfl, rfl⟩ := h3
    simp only [valB, if_neg (show ¬ (0 : Int) = 1 by omega), if_neg (show ¬ (0 : Int) = 2 by omega)] at h ⊢
    rw [takeUint_of (by omega) h, thenR_ok]
    rfl
  · by_cases c1 : vk = 1
    · subst c1
      have h3' : vs = [] := by simpa [vvB] using h3
      subst h3'
      simp only [valB, if_true, List.append_assoc] at h ⊢
      rw [takeUint_of (by omega) h, thenR_ok, if_neg (by simp), if_pos (by simp), takeInt_of h1 (drop_next h), thenR_ok]
      simp only [List.length_append, Nat.add_assoc]
    · have e0 : (vk == 0) = false := by simpa using c0
      have e1 : (vk == 1) = false := by simpa using c1
      simp only [vvB, e0, e1, cond_false, Bool.and_eq_true, beq_iff_eq] at h3
      obtain ⟨⟨rfl, rfl⟩, h3⟩ := h3
      simp only [valB, if_neg (show ¬ (2 : Int) = 1 by omega), if_true, List.append_assoc] at h ⊢
      rw [takeUint_of (by omega) h, thenR_ok, if_neg (by simp), if_neg (by simp), if_pos (by simp), takeText_of (by omega) h2 (drop_next h), thenR_ok, h3, cond_true]
      simp only [List.length_append, Nat.add_assoc]

theorem takeVal_cases (s : Str) (p : Int) : (∃ e, takeVal s p = (vZ, 0, e) ∧ e ≠ 0) ∨
    (∃ (k : Nat) (v : TValue) (t : Str), p = (k : Int) ∧ VOk v ∧ s.drop k = valB v ++ t ∧ takeVal s p = (v, ((k + (valB v).length : Nat) : Int), 0)) := by
  rcases takeUint_cases s p with ⟨e, h, he⟩ | ⟨k, c, t, rfl, h1, h2, h3⟩
  · exact .inl ⟨e, by unfold takeVal; rw [h, thenR_no he], he⟩
  by_cases c0 : c = 0
  · subst c0
    have hv : VOk vZ := ⟨okI64.2 (by simp [vZ]), by simp [vZ], by rfl⟩
    have hd : s.drop k = valB vZ ++ t := h2
    exact .inr ⟨k, vZ, t, rfl, hv, hd, takeVal_of hv hd⟩
  by_cases c1 : c = 1
  · subst c1
    rcases takeInt_cases s ((k + (uintB 1).length : Nat) : Int) with ⟨e, g, he⟩ | ⟨k2, n, t2, e2, g1, g2, g3⟩
    · exact .inl ⟨e, by unfold takeVal; rw [h3, thenR_ok, if_neg (by simp), if_pos (by simp), g, thenR_no he], he⟩
    · have e2 : k2 = k + (uintB 1).length := by omega
      subst e2
      have hv : VOk ⟨1, n, []⟩ := ⟨g1, by simp, by rfl⟩
      have hd : s.drop k = valB ⟨1, n, []⟩ ++ t2 := by
        have := drop_next h2
        rw [g2] at this
        rw [h2, ← this]
        simp [valB, List.append_assoc]
      exact .inr ⟨k, _, t2, rfl, hv, hd, takeVal_of hv hd⟩
  by_cases c2 : c = 2
  · subst c2
    rcases takeText_cases s ((k + (uintB 2).length : Nat) : Int) 64 with ⟨e, g, he⟩ | ⟨k2, a, t2, e2, g1, g1', g2, g3⟩
    · exact .inl ⟨e, by unfold takeVal; rw [h3, thenR_ok, if_neg (by simp), if_neg (by simp), if_pos (by simp), g, thenR_no he], he⟩
    · have e2 : k2 = k + (uintB 2).length := by omega
      subst e2
      cases hp : plainB a with
      | false => exact .inl ⟨5, by unfold takeVal; rw [h3, thenR_ok, if_neg (by simp), if_neg (by simp), if_pos (by simp), g3, thenR_ok, hp]; rfl, by decide⟩
      | true =>
        have hv : VOk ⟨2, 0, a⟩ := ⟨okI64.2 (by simp), g1, by simpa [vvB] using hp⟩
        have hd : s.drop k = valB ⟨2, 0, a⟩ ++ t2 := by
          have := drop_next h2
          rw [g2] at this
          rw [h2, ← this]
          simp [valB, List.append_assoc]
        exact .inr ⟨k, _, t2, rfl, hv, hd, takeVal_of hv hd⟩
  · exact .inl ⟨5, by unfold takeVal; rw [h3, thenR_ok, if_neg (by omega), if_neg (by omega), if_neg (by omega)], by decide⟩

end Go.Proofs.YtcgmfmpfmfjmoaaGreat
