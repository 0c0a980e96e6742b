/-
  FUNCTIONS AS THEIR LEAN COUNTERPARTS (part c): arguments, read as data, opened.
  Conditions: none here.
-/
import Derived.Test.YtkbldnpifmjipaaGb
import Derived.ProofKit
import Derived.OpenShut
import Derived.JoinedCond
import Derived.Lib.SmallJoins
import Derived.Deep.Slices
import Derived.Carry
set_option linter.all false
namespace Go.Proofs.Ytkbldnpifmjipaa
open Go.ChangeShapes Go.WideShapes Go.ChangeAt Go.RowKit

/-- Whatever cells can be read as data of this type hold such data, of sizes that Go's numbers bear. -/
def Opens {α : Type} [Inhabited α] (P : Program) (t : Nat) (c : Cd α) (ok : α → Prop) : Prop :=
  ∀ (H : Type) (enc : TypeId × Value → H) (W : World) (fuel : Nat) (cs : List Value) (d : DataW H × List MemPlace), DataW.trod enc P W 0 (fun _ => true) true fuel t cs = some d → ∃ x, c.rep (fun a => W.cell? a) x cs ∧ ok x

def okI (k : IntKind) (n : Int) : Prop := k.min ≤ n ∧ n ≤ k.max
def okS (s : Str) : Prop := s.length ≤ 9223372036854775807
def okL {α : Type} (ok : α → Prop) (l : List α) : Prop := l.length ≤ 9223372036854775807 ∧ ∀ x ∈ l, ok x

theorem opens_int {P : Program} {t : Nat} {k : IntKind} (ht : P.underlying t = some (.int k)) : Opens P t (cInt k) (okI k) := by
  intro H enc W fuel cs d h
  obtain ⟨n, rfl, _, hw⟩ := DataW.trod_int ht h
  simp only [Lit.wf, Bool.and_eq_true, decide_eq_true_eq] at hw
  exact ⟨n, rfl, hw⟩

theorem opens_bool {P : Program} {t : Nat} (ht : P.underlying t = some .bool) : Opens P t cBool (fun _ => True) := by
  intro H enc W fuel cs d h
  obtain ⟨b, rfl, _⟩ := DataW.trod_bool ht h
  exact ⟨b, rfl, trivial⟩

theorem opens_str {P : Program} {t : Nat} (ht : P.underlying t = some .string) : Opens P t cStr okS := by
  intro H enc W fuel cs d h
  obtain ⟨s, rfl, _, hs⟩ := DataW.trod_string ht h
  exact ⟨s.data.toList, rfl, by
    have : s.data.toList.length ≤ maxLen := hs
    simpa [okS, maxLen] using this⟩

theorem exists_list {α : Type} {Q : Nat → α → Prop} : ∀ {n : Nat}, (∀ i, i < n → ∃ x, Q i x) → ∃ l : List α, l.length = n ∧ ∀ (i : Nat) (x : α), l[i]? = some x → Q i x
  | 0, _ => ⟨[], rfl, fun i x h => by simp at h⟩
  | n + 1, h => by
    obtain ⟨l, h1, h2⟩ := exists_list (n := n) fun i hi => h i (by omega)
    obtain ⟨x, hx⟩ := h n (by omega)
    refine ⟨l ++ [x], by simp [h1], fun i y hy => ?_⟩
    rw [List.getElem?_append] at hy
    split at hy
    · exact h2 i y hy
    · rename_i hi
      have : i - l.length = 0 := by
        refine Classical.byContradiction fun hc => ?_
        obtain ⟨k, hk⟩ : ∃ k, i - l.length = k + 1 := ⟨i - l.length - 1, by omega⟩
        rw [hk] at hy
        simp at hy
      rw [this] at hy
      simp at hy
      subst hy
      rw [show i = n by omega]
      exact hx

theorem opens_slice {α : Type} [Inhabited α] {P : Program} {t e : Nat} {c : Cd α} {ok : α → Prop} (ht : P.underlying t = some (.slice e)) (hsz : P.cellsOf e = c.sz) (he : Opens P e c ok) : Opens P t (cSl c) (okL ok) := by
  intro H enc W fuel cs d h
  rcases Go.Deep.open_slice ht h with ⟨rfl, _⟩ | ⟨a, len, cap, m, n, D, Pl, rfl, _, hlc, hcm, hm, _, hel⟩
  · exact ⟨[], ⟨none, 0, rfl, SlAt.nil⟩, by simp [okL]⟩
  · simp only [if_true] at hm
    subst hm
    have hsp0 : 0 < len → a.spot = none := by
      intro hl0
      obtain ⟨cs', k1, _⟩ := hel 0 (by omega)
      obtain ⟨_, k5, k6⟩ := World.cells?_some k1
      rw [hsz] at k5 k6
      have h0 := k6 0 c.pos
      have hlt : 0 < cs'.length := by rw [k5]; exact c.pos
      rw [List.getElem?_eq_getElem hlt] at h0
      unfold World.cell? at h0
      split at h0
      · split at h0
        · simp at h0
        · rename_i hs
          cases hq : a.spot with
          | none => rfl
          | some q =>
            exfalso
            apply hs
            simp [Addr.add, hq]
      · simp at h0
    have hall : ∀ i, i < len → ∃ x, (∃ cs', c.rep (fun a => W.cell? a) x cs' ∧ RdAt (fun a => W.cell? a) (some a) (i * c.sz) cs') ∧ ok x := by
      intro i hi
      obtain ⟨cs', k1, k2⟩ := hel i (by omega)
      obtain ⟨x, k3, k4⟩ := he H enc W n cs' _ k2
      obtain ⟨_, k5, k6⟩ := World.cells?_some k1
      rw [hsz] at k1 k5 k6
      have hsp : a.spot = none := hsp0 (by omega)
      refine ⟨x, ⟨cs', k3, a.block, a.off, ?_, fun j v hj => ?_⟩, k4⟩
      · cases a
        simp only at hsp
        subst hsp
        rfl
      · have hj' := (List.getElem?_eq_some_iff.1 hj).1
        have := k6 j (by omega)
        rw [hj] at this
        rw [← this]
        congr 1
        cases a
        simp only at hsp
        subst hsp
        simp [Addr.add_lit]
    obtain ⟨l, h1, h2⟩ := exists_list hall
    refine ⟨l, ⟨some a, m, by rw [h1], by omega, fun i x hx => (h2 i x hx).1⟩, ?_, ?_⟩
    · simp only [maxLen] at hcm
      omega
    · intro x hx
      obtain ⟨i, hi, rfl⟩ := List.mem_iff_getElem.1 hx
      exact (h2 i _ (List.getElem?_eq_getElem hi)).2

theorem fieldO {α : Type} [Inhabited α] {P : Program} {W : World} {H : Type} {enc : TypeId × Value → H} {n sz : Nat} {cs : List Value} {fs : Array Field} {xs : List (DataW H × List MemPlace)} {c : Cd α} {ok : α → Prop} {f : Field}
    (hf : ∀ (i : Nat) (f : Field), fs[i]? = some f → DataW.trod enc P W 0 (fun _ => true) true n f.type ((cs.drop f.offset).take (P.cellsOf f.type)) = xs[i]?) (hxs : xs.length = fs.size)
    (i : Nat) (hi : fs[i]? = some f) (hsz : P.cellsOf f.type = sz) (ho : Opens P f.type c ok) : ∃ x, c.rep (fun a => W.cell? a) x ((cs.drop f.offset).take sz) ∧ ok x := by
  have h1 := hf i f hi
  have hlt : i < xs.length := by
    rw [hxs]
    exact (Array.getElem?_eq_some_iff.1 hi).1
  rw [hsz, List.getElem?_eq_getElem hlt] at h1
  exact ho H enc W n _ _ h1

/-! ### Arguments -/

theorem openV_int {H : Type} {enc : TypeId × Value → H} {P : Program} {W : World} {base t : Nat} {k : IntKind} (ht : P.underlying t = some (.int k)) {v : Value} {d : DataW H} {p : List MemPlace}
    (hval : Value.okWide P W .any base t v) (h : DataW.Trod enc P W 0 (fun _ => true) true t v d p) : ∃ n, v = .int k n ∧ okI k n := by
  obtain ⟨n, rfl, _, _, hw⟩ := Go.ChangeShapes.open_int ht hval h
  simp only [Lit.wf, Bool.and_eq_true, decide_eq_true_eq] at hw
  exact ⟨n, rfl, hw⟩

theorem openV_bool {H : Type} {enc : TypeId × Value → H} {P : Program} {W : World} {base t : Nat} (ht : P.underlying t = some .bool) {v : Value} {d : DataW H} {p : List MemPlace}
    (hval : Value.okWide P W .any base t v) (h : DataW.Trod enc P W 0 (fun _ => true) true t v d p) : ∃ n, v = .bool n := by
  obtain ⟨n, rfl, _⟩ := Go.RowKit.open_bool ht hval h
  exact ⟨n, rfl⟩

theorem openV_str {H : Type} {enc : TypeId × Value → H} {P : Program} {W : World} {base t : Nat} (ht : P.underlying t = some .string) {v : Value} {d : DataW H} {p : List MemPlace}
    (hval : Value.okWide P W .any base t v) (h : DataW.Trod enc P W 0 (fun _ => true) true t v d p) : ∃ s : Str, v = .string ⟨⟨s⟩⟩ ∧ okS s := by
  obtain ⟨s, rfl, hs⟩ := Go.ChangeMaps.open_string ht hval h
  exact ⟨s.data.toList, rfl, by have := hs.2; simp [okS, maxLen] at this ⊢; first | exact this | exact this.1 | omega⟩

theorem openV_slice {α : Type} [Inhabited α] {H : Type} {enc : TypeId × Value → H} {P : Program} {W : World} {base t e : Nat} {c : Cd α} {ok : α → Prop} (ht : P.underlying t = some (.slice e)) (hsz : P.cellsOf e = c.sz) (he : Opens P e c ok)
    {v : Value} {d : DataW H} {p : List MemPlace} (hval : Value.okWide P W .any base t v) (h : DataW.Trod enc P W 0 (fun _ => true) true t v d p) :
    ∃ a k l, v = .slice a (List.length l) k ∧ SlAt c (fun a => W.cell? a) a k l ∧ okL ok l := by
  obtain ⟨a, n, k, rfl⟩ := okWide_slice ht hval
  obtain ⟨fuel, hf⟩ := h
  obtain ⟨l, ⟨a', k', h1, h2⟩, h3⟩ := opens_slice ht hsz he H enc W fuel _ _ hf
  simp [Value.cells] at h1
  obtain ⟨rfl, rfl, rfl⟩ := h1
  exact ⟨a, k, l, rfl, h2, h3⟩

theorem openV_struct {α : Type} [Inhabited α] {H : Type} {enc : TypeId × Value → H} {P : Program} {W : World} {base t : Nat} {fs : Array Field} {c : Cd α} {ok : α → Prop} (ht : P.underlying t = some (.struct fs)) (he : Opens P t c ok)
    {v : Value} {d : DataW H} {p : List MemPlace} (hval : Value.okWide P W .any base t v) (h : DataW.Trod enc P W 0 (fun _ => true) true t v d p) : ∃ cs x, v = .agg ⟨cs⟩ ∧ c.rep (fun a => W.cell? a) x cs ∧ ok x := by
  obtain ⟨cs, rfl, _⟩ := okWide_struct ht hval
  obtain ⟨fuel, hf⟩ := h
  obtain ⟨x, h1, h2⟩ := he H enc W fuel _ _ hf
  exact ⟨cs.toList, x, rfl, h1, h2⟩

end Go.Proofs.Ytkbldnpifmjipaa
