/-
 LOOPS OVER LISTS, CLOSED (more): folds, filters, comparisons. Plain Lean.
 Conditions: none here.
-/
import Derived.Test.YtglnnhmmipopiaaGreatLb
set_option linter.all false
namespace Go.Proofs.YtglnnhmmipopiaaGreat
def foldE {α σ ρ : Type} (step : σ → α → Option ρ ⊕ σ) (J : σ → Option ρ) : List α → σ → Option ρ
 | [], s => J s
 | x :: l, s => match step s x with
  | .inl e => e
  | .inr s' => foldE step J l s'
theorem loopFE {α σ ρ : Type} {l : List α} (hl : l.length < 9223372036854775808) {L : Nat → σ → Int → Option ρ} {J : σ → Option ρ} {step : σ → α → Option ρ ⊕ σ} (Inv : Nat → σ → Prop)
  (h1 : ∀ n (i : Nat) s (h : i < l.length), Inv i s → L (n + 1) s (i : Int) = match step s l[i] with | .inl e => e | .inr s' => L n s' (IntKind.i64.wrap ((i : Int) + 1)))
  (hI : ∀ (i : Nat) s s' (h : i < l.length), Inv i s → step s l[i] = .inr s' → Inv (i + 1) s')
  (h0 : ∀ n s, Inv l.length s → L (n + 1) s (l.length : Int) = J s) : ∀ n (i : Nat) s, i ≤ l.length → l.length - i < n → Inv i s → L n s (i : Int) = foldE step J (l.drop i) s := by
 intro n
 induction n with
 | zero => intro i s _ h; omega
 | succ n ih =>
  intro i s hi hn hs
  rcases Nat.lt_or_ge i l.length with h | h
  ·rw [h1 n i s h hs, wrap_succ (by omega), List.drop_eq_getElem_cons h, foldE]
   cases e : step s l[i] with
   | inl x => rfl
   | inr s' => exact ih (i + 1) s' (by omega) (by omega) (hI i s s' h hs e)
  ·have : i = l.length := by omega
   subst this
   rw [h0 n s hs]; simp [foldE]
theorem loopFE0 {α σ ρ : Type} {l : List α} (hl : l.length < 9223372036854775808) {L : Nat → σ → Int → Option ρ} {J : σ → Option ρ} {step : σ → α → Option ρ ⊕ σ} (Inv : Nat → σ → Prop)
  (h1 : ∀ n (i : Nat) s (h : i < l.length), Inv i s → L (n + 1) s (i : Int) = match step s l[i] with | .inl e => e | .inr s' => L n s' (IntKind.i64.wrap ((i : Int) + 1)))
  (hI : ∀ (i : Nat) s s' (h : i < l.length), Inv i s → step s l[i] = .inr s' → Inv (i + 1) s')
  (h0 : ∀ n s, Inv l.length s → L (n + 1) s (l.length : Int) = J s) {n : Nat} (hn : l.length < n) {s : σ} (hs : Inv 0 s) : L n s 0 = foldE step J l s := by
 have := loopFE hl Inv h1 hI h0 n 0 s (by omega) (by omega) hs
 simpa using this
theorem loopFold {α σ ρ : Type} {l : List α} (hl : l.length < 9223372036854775808) {L : Nat → σ → Int → Option ρ} {J : σ → Option ρ} {f : σ → α → σ} (Inv : Nat → σ → Prop)
  (h1 : ∀ n (i : Nat) s (h : i < l.length), Inv i s → L (n + 1) s (i : Int) = L n (f s l[i]) (IntKind.i64.wrap ((i : Int) + 1)))
  (hI : ∀ (i : Nat) s (h : i < l.length), Inv i s → Inv (i + 1) (f s l[i]))
  (h0 : ∀ n s, Inv l.length s → L (n + 1) s (l.length : Int) = J s) {n : Nat} (hn : l.length < n) {s : σ} (hs : Inv 0 s) : L n s 0 = J (l.foldl f s) := by
 have := loopFE0 hl (L := L) (J := J) (step := fun s x => .inr (f s x)) Inv (fun n i s h hs => h1 n i s h hs) (fun i s s' h hs e => by cases e; exact hI i s h hs) h0 hn hs
 rw [this]
 clear this hs hn h0 hI h1 hl
 induction l generalizing s with
 | nil => rfl
 | cons x l ih => rw [foldE, List.foldl_cons]; exact ih
theorem loopFilter {α ρ : Type} {l : List α} (hl : l.length < 9223372036854775808) {L : Nat → List α → Int → Option ρ} {J : List α → Option ρ} {p : α → Bool}
  (h1 : ∀ n (i : Nat) acc (h : i < l.length), acc.length ≤ i → L (n + 1) acc (i : Int) = cond (p l[i]) (L n (acc ++ [l[i]]) (IntKind.i64.wrap ((i : Int) + 1))) (L n acc (IntKind.i64.wrap ((i : Int) + 1))))
  (h0 : ∀ n acc, acc.length ≤ l.length → L (n + 1) acc (l.length : Int) = J acc) {n : Nat} (hn : l.length < n) : L n [] 0 = J (l.filter p) := by
 have := loopFold hl (L := L) (J := J) (f := fun acc x => cond (p x) (acc ++ [x]) acc) (fun i acc => acc.length ≤ i)
  (fun n i s h hs => by rw [h1 n i s h hs]; cases p l[i] <;> rfl)
  (fun i s h hs => by cases p l[i] <;> simp <;> omega) h0 hn (s := []) (by simp)
 rw [this]
 congr 1
 have : ∀ (l acc : List α), l.foldl (fun acc x => cond (p x) (acc ++ [x]) acc) acc = acc ++ l.filter p := by
  intro l
  induction l with
  | nil => intro acc; simp
  | cons x l ih => intro acc; rw [List.foldl_cons, ih]; cases h : p x <;> simp [h]
 rw [this]; simp
theorem loopMap {α β ρ : Type} {l : List α} (hl : l.length < 9223372036854775808) {L : Nat → List β → Int → Option ρ} {J : List β → Option ρ} {g : α → β}
  (h1 : ∀ n (i : Nat) acc (h : i < l.length), acc.length ≤ i → L (n + 1) acc (i : Int) = L n (acc ++ [g l[i]]) (IntKind.i64.wrap ((i : Int) + 1)))
  (h0 : ∀ n acc, acc.length ≤ l.length → L (n + 1) acc (l.length : Int) = J acc) {n : Nat} (hn : l.length < n) : L n [] 0 = J (l.map g) := by
 have := loopFold hl (L := L) (J := J) (f := fun acc x => acc ++ [g x]) (fun i acc => acc.length ≤ i)
  (fun n i s h hs => h1 n i s h hs) (fun i s h hs => by simp; omega) h0 hn (s := []) (by simp)
 rw [this]
 congr 1
 have : ∀ (l : List α) acc, l.foldl (fun acc x => acc ++ [g x]) acc = acc ++ l.map g := by
  intro l
  induction l with
  | nil => intro acc; simp
  | cons x l ih => intro acc; rw [List.foldl_cons, ih]; simp
 rw [this]; simp
def eqL {α : Type} (f : α → α → Bool) : List α → List α → Bool
 | [], [] => true
 | a :: l, b :: m => f a b && eqL f l m
 | _, _ => false
theorem eqL_len {α : Type} {f : α → α → Bool} : ∀ {a b : List α}, eqL f a b = true → a.length = b.length
 | [], [], _ => rfl
 | [], _ :: _, h => by simp [eqL] at h
 | _ :: _, [], h => by simp [eqL] at h
 | x :: a, y :: b, h => by simp [eqL] at h; simp [eqL_len h.2]
theorem eqL_range {α : Type} [Inhabited α] {f : α → α → Bool} : ∀ {a b : List α}, a.length = b.length → (!(List.range a.length).any fun i => !f (atI a (i : Int)) (atI b (i : Int))) = eqL f a b
 | [], [], _ => rfl
 | [], _ :: _, h => by simp at h
 | _ :: _, [], h => by simp at h
 | x :: a, y :: b, h => by
  have hl : a.length = b.length := by simpa using h
  rw [eqL, ← eqL_range hl, List.length_cons, List.range_succ_eq_map, List.any_cons, List.any_map]
  have e : ∀ i : Nat, (!f (atI (x :: a) ((i + 1 : Nat) : Int)) (atI (y :: b) ((i + 1 : Nat) : Int))) = (!f (atI a (i : Int)) (atI b (i : Int))) := fun i => by
   simp [atI]
  have e0 : f (atI (x :: a) ((0 : Nat) : Int)) (atI (y :: b) ((0 : Nat) : Int)) = f x y := by simp [atI]
  rw [e0, show ((fun i : Nat => !f (atI (x :: a) (i : Int)) (atI (y :: b) (i : Int))) ∘ Nat.succ) = fun i : Nat => !f (atI a (i : Int)) (atI b (i : Int)) from funext e]
  cases f x y <;> simp
theorem loopEq {α : Type} [Inhabited α] {a b : List α} {f : α → α → Bool} (hl : a.length < 9223372036854775808) (hb : b.length < 9223372036854775808) {L : Nat → Int → Option Bool} {n : Nat} (hn : a.length < n)
  (h1 : a.length = b.length → ∀ n (i : Nat) (h : i < a.length), i < b.length → L (n + 1) (i : Int) = cond (f (atI a (i : Int)) (atI b (i : Int))) (L n (IntKind.i64.wrap ((i : Int) + 1))) (some false))
  (h0 : ∀ n, L (n + 1) (a.length : Int) = some true) : cond (((a.length : Nat) : Int) != ((b.length : Nat) : Int)) (some false) (L n 0) = some (eqL f a b) := by
 by_cases h : a.length = b.length
 ·rw [show (((a.length : Nat) : Int) != ((b.length : Nat) : Int)) = false by simp [h], cond_false, ← eqL_range h]
  refine (loopRng (len := a.length) hl (L := L) (q := fun i => !f (atI a (i : Int)) (atI b (i : Int))) (E := some false) (J := some true) hn ?_ h0).trans ?_
  ·intro n i hi
   rw [h1 h n i hi (by omega)]; cases f (atI a (i : Int)) (atI b (i : Int)) <;> rfl
  ·cases ((List.range a.length).any fun i => !f (atI a (i : Int)) (atI b (i : Int))) <;> rfl
 ·have e : eqL f a b = false := by
   rw [Bool.eq_false_iff]; intro h'; exact h (eqL_len h')
  rw [e, show (((a.length : Nat) : Int) != ((b.length : Nat) : Int)) = true by simp; omega]; rfl
theorem loopHas {α : Type} {l : List α} (hl : l.length < 9223372036854775808) {L : Nat → Int → Option Int} {q : α → Bool}
  (h1 : ∀ n (i : Nat) (h : i < l.length), L (n + 1) (i : Int) = cond (q l[i]) (some (i : Int)) (L n (IntKind.i64.wrap ((i : Int) + 1))))
  (h0 : ∀ n, L (n + 1) (l.length : Int) = some (-1)) {n : Nat} (hn : l.length < n) : (bnd (L n 0) fun x => some (decide ((0 : Int) ≤ x))) = some (l.any q) := by
 obtain ⟨k, e, e2⟩ := loopIx hl h1 h0 n 0 (by omega) (by omega)
 rw [show ((0 : Int)) = ((0 : Nat) : Int) from rfl, e, bnd_mk]
 rw [show ((0 : Nat) : Int) = (0 : Int) from rfl, e2]; simp
end Go.Proofs.YtglnnhmmipopiaaGreat
