/-
 LOOPS OF THE LEAN COUNTERPARTS, CLOSED. Plain Lean: no program in sight.
 Conditions: none here.
-/
import Derived.Test.YtglnnhmmipopiaaGreatMc
set_option linter.all false
namespace Go.Proofs.YtglnnhmmipopiaaGreat
open Go.ChangeShapes
theorem req_pos {ρ : Type} {p : Prop} [Decidable p] {k : Option ρ} (h : p) : req p k = k := if_pos h
@[simp] theorem req_t {ρ : Type} [Decidable True] {k : Option ρ} : req True k = k := if_pos trivial
@[simp] theorem bnd_mk {α ρ : Type} (a : α) (k : α → Option ρ) : bnd (some a) k = k a := rfl
@[simp] theorem jn_mk {κ ρ : Type} (j : κ) (f : κ → Option ρ) : jn j f = f j := rfl
@[simp] theorem gcall_t {α : Type} [Inhabited α] (x : Option α) : gcall true x = x := rfl
@[simp] theorem gcall_f {α : Type} [Inhabited α] (x : Option α) : gcall false x = some default := rfl
theorem wrap_succ {i : Nat} (h : i < 9223372036854775807) : IntKind.i64.wrap ((i : Int) + 1) = ((i + 1 : Nat) : Int) := by
 rw [w64 (by omega) (by omega)]; omega
theorem atI_nat {α : Type} [Inhabited α] {l : List α} {i : Nat} (h : i < l.length) : atI l (i : Int) = l[i] := by
 simp [atI, List.getD_eq_getElem?_getD, h]
theorem loopAny {α ρ : Type} {l : List α} (hl : l.length < 9223372036854775808) {L : Nat → Int → Option ρ} {J E : Option ρ} {q : α → Bool}
  (h1 : ∀ n (i : Nat) (h : i < l.length), L (n + 1) (i : Int) = cond (q l[i]) E (L n (IntKind.i64.wrap ((i : Int) + 1))))
  (h0 : ∀ n, L (n + 1) (l.length : Int) = J) : ∀ n i, i ≤ l.length → l.length - i < n → L n (i : Int) = cond ((l.drop i).any q) E J := by
 intro n
 induction n with
 | zero => intro i _ h; omega
 | succ n ih =>
  intro i hi hn
  rcases Nat.lt_or_ge i l.length with h | h
  ·rw [h1 n i h, wrap_succ (by omega), ih (i + 1) (by omega) (by omega), List.drop_eq_getElem_cons h, List.any_cons]
   cases q l[i] <;> rfl
  ·have : i = l.length := by omega
   subst this
   rw [h0]; simp
theorem loopAny0 {α ρ : Type} {l : List α} (hl : l.length < 9223372036854775808) {L : Nat → Int → Option ρ} {J E : Option ρ} {q : α → Bool} {n : Nat} (hn : l.length < n)
  (h1 : ∀ n (i : Nat) (h : i < l.length), L (n + 1) (i : Int) = cond (q l[i]) E (L n (IntKind.i64.wrap ((i : Int) + 1))))
  (h0 : ∀ n, L (n + 1) (l.length : Int) = J) : L n 0 = cond (l.any q) E J := by
 have := loopAny hl h1 h0 n 0 (by omega) (by omega)
 simpa using this
theorem loopRng {ρ : Type} {len : Nat} (hl : len < 9223372036854775808) {L : Nat → Int → Option ρ} {J E : Option ρ} {q : Nat → Bool} {n : Nat} (hn : len < n)
  (h1 : ∀ n (i : Nat) (h : i < len), L (n + 1) (i : Int) = cond (q i) E (L n (IntKind.i64.wrap ((i : Int) + 1))))
  (h0 : ∀ n, L (n + 1) (len : Int) = J) : L n 0 = cond ((List.range len).any q) E J := by
 refine loopAny0 (l := List.range len) (by simpa using hl) (by simpa using hn) ?_ (by simpa using h0)
 intro n i h
 have h' : i < len := by simpa using h
 rw [List.getElem_range]; exact h1 n i h'
theorem loopSeq {σ ρ : Type} {len : Nat} (hl : len < 9223372036854775808) {L : Nat → σ → Int → Option ρ} {J : σ → Option ρ} {S : Nat → σ}
  (h1 : ∀ n (i : Nat), i < len → L (n + 1) (S i) (i : Int) = L n (S (i + 1)) (IntKind.i64.wrap ((i : Int) + 1)))
  (h0 : ∀ n, L (n + 1) (S len) (len : Int) = J (S len)) : ∀ n i, i ≤ len → len - i < n → L n (S i) (i : Int) = J (S len) := by
 intro n
 induction n with
 | zero => intro i _ h; omega
 | succ n ih =>
  intro i hi hn
  rcases Nat.lt_or_ge i len with h | h
  ·rw [h1 n i h, wrap_succ (by omega), ih (i + 1) (by omega) (by omega)]
  ·have : i = len := by omega
   subst this
   exact h0 n
theorem map_set {α : Type} (f : Nat → α) (n t : Nat) (v : α) : ((List.range n).map f).set t v = (List.range n).map (fun j => if j = t then v else f j) := by
 apply List.ext_getElem (by simp)
 intro i h1 h2
 rw [List.getElem_set]
 simp only [List.getElem_map, List.getElem_range]
 by_cases h : t = i
 ·simp [h]
 ·simp [h, show ¬ i = t by omega]
theorem atI_map {α : Type} [Inhabited α] (f : Nat → α) {n : Nat} {j : Int} (h0 : 0 ≤ j) (h : j < (n : Int)) : atI ((List.range n).map f) j = f j.toNat := by
 have h' : j.toNat < n := by omega
 simp [atI, List.getD_eq_getElem?_getD, h']
theorem foldl_take_succ {α β : Type} (f : β → α → β) (a : β) (l : List α) (i : Nat) (h : i < l.length) : (l.take (i + 1)).foldl f a = f ((l.take i).foldl f a) l[i] := by
 rw [List.take_succ_eq_append_getElem h, List.foldl_append]; rfl
end Go.Proofs.YtglnnhmmipopiaaGreat
