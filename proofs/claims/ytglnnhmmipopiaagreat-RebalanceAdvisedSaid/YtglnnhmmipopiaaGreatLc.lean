/-
 LOOPS OVER LISTS, CLOSED (more): folds, filters, comparisons. Plain Lean.
 Conditions: none here.
-/
import Derived.Test.YtglnnhmmipopiaaGreatLb
set_option linter.all false
namespace Go.Proofs.YtglnnhmmipopiaaGreat
def foldE {α σ ρ : Type} (step : σ → α → Option ρ ⊕ σ) (J : σ → Option ρ) : List α → σ → Option ρ
 | [], s => J s
 | x :: l, s => match step s x with
  | .inl e => e
  | .inr s' => foldE step J l s'
theorem loopFE {α σ ρ : Type} {l : List α} (hl : l.length < 9223372036854775808) {L : Nat → σ → Int → Option ρ} {J : σ → Option ρ} {step : σ → α → Option ρ ⊕ σ} (Inv : Nat → σ → Prop)
  (h1 : ∀ n (i : Nat) s (h : i < l.length), Inv i s → L (n + 1) s (i : Int) = match step s l[i] with | .inl e => e | .inr s' => L n s' (IntKind.i64.wrap ((i : Int) + 1)))
  (hI : ∀ (i : Nat) s s' (h : i < l.length), Inv i s → step s l[i] = .inr s' → Inv (i + 1) s')
  (h0 : ∀ n s, Inv l.length s → L (n + 1) s (l.length : Int) = J s) : ∀ n (i : Nat) s, i ≤ l.length → l.length - i < n → Inv i s → L n s (i : Int) = foldE step J (l.drop i) s := by
 intro n
 induction n with
 | zero => intro i s _ h; omega
 | succ n ih =>
  intro i s hi hn hs
  rcases Nat.lt_or_ge i l.length with h | h
  ·rw [h1 n i s h hs, wrap_succ (by omega), List.drop_eq_getElem_cons h, foldE]
   cases e : step s l[i] with
   | inl x => rfl
   | inr s' => exact ih (i + 1) s' (by omega) (by omega) (hI i s s' h hs e)
  ·have : i = l.length := by omega
   subst this
   rw [h0 n s hs]; simp [foldE]
theorem loopFE0 {α σ ρ : Type} {l : List α} (hl : l.length < 9223372036854775808) {L : Nat → σ → Int → Option ρ} {J : σ → Option ρ} {step : σ → α → Option ρ ⊕ σ} (Inv : Nat → σ → Prop)
  (h1 : ∀ n (i : Nat) s (h : i < l.length), Inv i s → L (n + 1) s (i : Int) = match step s l[i] with | .inl e => e | .inr s' => L n s' (IntKind.i64.wrap ((i : Int) + 1)))
  (hI : ∀ (i : Nat) s s' (h : i < l.length), Inv i s → step s l[i] = .inr s' → Inv (i + 1) s')
  (h0 : ∀ n s, Inv l.length s → L (n + 1) s (l.length : Int) = J s) {n : Nat} (hn : l.length < n) {s : σ} (hs : Inv 0 s) : L n s 0 = foldE step J l s := by
 have := loopFE hl Inv h1 hI h0 n 0 s (by omega) (by omega) hs
 simpa using this
theorem loopFold {α σ ρ : Type} {l : List α} (hl : l.length < 9223372036854775808) {L : Nat → σ → Int → Option ρ} {J : σ → Option ρ} {f : σ → α → σ} (Inv : Nat → σ → Prop)
  (h1 : ∀ n (i : Nat) s (h : i < l.length), Inv i s → L (n + 1) s (i : Int) = L n (f s l[i]) (IntKind.i64.wrap ((i : Int) + 1)))
  (hI : ∀ (i : Nat) s (h : i < l.length), Inv i s → Inv (i + 1) (f s l[i]))
  (h0 : ∀ n s, Inv l.length s → L (n + 1) s (l.length : Int) = J s) {n : Nat} (hn : l.length < n) {s : σ} (hs : Inv 0 s) : L n s 0 = J (l.foldl f s) := by
 have := loopFE0 hl (L := L) (J := J) (step := fun s x => .inr (f s x)) Inv (fun n i s h hs => h1 n i s h hs) (fun i s s' h hs e => by cases e; exact hI i s h hs) h0 hn hs
 rw [this]
 clear this hs hn h0 hI h1 hl
 induction l generalizing s with
 | nil => rfl
 | cons x l ih => rw [foldE, List.foldl_cons]; exact ih
theorem loopFilter {α ρ : Type} {l : List α} (hl : l.length < 9223372036854775808) {L : Nat → List α → Int → Option ρ} {J : List α → Option ρ} {p : α → Bool}
  (h1 : ∀ n (i : Nat) acc (h : i < l.length), acc.length ≤ i → L (n + 1) acc (i : Int) = cond (p l[i]) (L n (acc ++ [l[i]]) (IntKind.i64.wrap ((i : Int) + 1))) (L n acc (IntKind.i64.wrap ((i : Int) + 1))))
  (h0 : ∀ n acc, acc.length ≤ l.length → L (n + 1) acc (l.length : Int) = J acc) {n : Nat} (hn : l.length < n) : L n [] 0 = J (l.filter p) := by
 have := loopFold hl (L := L) (J := J) (f := fun acc x => cond (p x) (acc ++ [x]) acc) (fun i acc => acc.length ≤ i)
  (fun n i s h hs => by rw [h1 n i s h hs]; cases p l[i] <;> rfl)
  (fun i s h hs => by cases p l[i] <;> simp <;> omega) h0 hn (s := []) (by simp)
 rw [this]
 congr 1
 have : ∀ (l acc : List α), l.foldl (fun acc x => cond (p x) (acc ++ [x]) acc) acc = acc ++ l.filter p := by
  intro l
  induction l with
  | nil => intro acc; simp
  | cons x l ih => intro acc; rw [List.foldl_cons, ih]; cases h : p x <;> simp [h]
 rw [this]; simp
theorem loopMap {α β ρ : Type} {l : List α} (hl : l.length < 9223372036854775808) {L : Nat → List β → Int → Option ρ} {J : List β → Option ρ} {g : α → β}
  (h1 : ∀ n (i : Nat) acc (h : i < l.length), acc.length ≤ i → L (n + 1) acc (i : Int) = L n (acc ++ [g l[i]]) (IntKind.i64.wrap ((i : Int) + 1)))
  (h0 : ∀ n acc, acc.length ≤ l.length → L (n + 1) acc (l.length : Int) = J acc) {n : Nat} (hn : l.length < n) : L n [] 0 = J (l.map g) := by
 have := loopFold hl (L := L) (J := J) (f := fun acc x => acc ++ [g x]) (fun i acc => acc.length ≤ i)
  (fun n i s h hs => h1 n i s h hs) (fun i s h hs => by simp; omega) h0 hn (s := []) (by simp)
 rw [this]
 congr 1
 have : ∀ (l : List α) acc, l.foldl (fun acc x => acc ++ [g x]) acc = acc ++ l.map g := by
  intro l
  induction l with
  | nil => intro acc; simp
  | cons x l ih => intro acc; rw [List.foldl_cons, ih]; simp
 rw [this]; simp
theorem loopHas {α : Type} {l : List α} (hl : l.length < 9223372036854775808) {L : Nat → Int → Option Int} {q : α → Bool}
  (h1 : ∀ n (i : Nat) (h : i < l.length), L (n + 1) (i : Int) = cond (q l[i]) (some (i : Int)) (L n (IntKind.i64.wrap ((i : Int) + 1))))
  (h0 : ∀ n, L (n + 1) (l.length : Int) = some (-1)) {n : Nat} (hn : l.length < n) : (bnd (L n 0) fun x => some (decide ((0 : Int) ≤ x))) = some (l.any q) := by
 obtain ⟨k, e, e2⟩ := loopIx hl h1 h0 n 0 (by omega) (by omega)
 rw [show ((0 : Int)) = ((0 : Nat) : Int) from rfl, e, bnd_mk]
 rw [show ((0 : Nat) : Int) = (0 : Int) from rfl, e2]; simp
end Go.Proofs.YtglnnhmmipopiaaGreat
