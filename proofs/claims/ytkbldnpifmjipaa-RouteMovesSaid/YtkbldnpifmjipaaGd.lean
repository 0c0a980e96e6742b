/-
  FUNCTIONS AS THEIR LEAN COUNTERPARTS (part d): the library's sort and its like, as the printed walks meet them.
  Conditions: none here.
-/
import Derived.Test.YtkbldnpifmjipaaGb
import Derived.Test.YtkbldnpifmjipaaFq
set_option linter.all false
namespace Go.Proofs.Ytkbldnpifmjipaa

theorem RowRep.ints {k : IntKind} {V : View} : ∀ {l : List Int} {cs : List Value}, RowRep (cInt k) V l cs → cs = l.map (Value.int k)
  | [], cs, h => h
  | x :: l, cs, ⟨e, r, h0, h1, h2⟩ => by
    subst h0
    rw [show e = [.int k x] from h1, RowRep.ints h2]; rfl

theorem RowRep.ofInts {k : IntKind} {V : View} : ∀ (l : List Int), RowRep (cInt k) V l (l.map (Value.int k))
  | [] => rfl
  | x :: l => ⟨[.int k x], _, rfl, rfl, RowRep.ofInts l⟩

/-- A list of numbers, sorted. -/
def sortL (l : List Int) : List Int := l.mergeSort fun x y => decide (x ≤ y)
/-- A list of numbers, runs of equal ones as one. -/
def compactL (l : List Int) : List Int := Go.Lib.compact l

theorem sortI_row {P : Program} {f : Nat} {a : Option Addr} {n c e : Nat} {l : List Int} {cs : List Value} {V : View} (hr : RowRep (cInt .i64) V l cs)
    (hs : ∀ cs', cs' = l.map (Value.int .i64) → SpecM P f [.slice a n c] ⟨.slice a n c, cs', e, 1⟩ V (fun V' v r' => v = .tuple #[] ∧ V' = V ∧ r' = ⟨.slice a n c, (sortL l).map (Value.int .i64), e, 1⟩)) :
    SpecM P f [.slice a n c] ⟨.slice a n c, cs, e, 1⟩ V (fun V' v r' => v = .tuple #[] ∧ V' = V ∧ r' = ⟨.slice a n c, (sortL l).map (Value.int .i64), e, 1⟩) := hs cs hr.ints

theorem compactI_row {P : Program} {f : Nat} {a : Option Addr} {n c e : Nat} {l : List Int} {cs : List Value} {V : View} (hr : RowRep (cInt .i64) V l cs)
    (hs : ∀ cs', cs' = l.map (Value.int .i64) → SpecM P f [.slice a n c] ⟨.slice a n c, cs', e, 1⟩ V (fun V' v r' => v = .slice a (compactL l).length c ∧ V' = V ∧ r' = ⟨.slice a (compactL l).length c, (compactL l).map (Value.int .i64), e, 1⟩)) :
    SpecM P f [.slice a n c] ⟨.slice a n c, cs, e, 1⟩ V (fun V' v r' => v = .slice a (compactL l).length c ∧ V' = V ∧ r' = ⟨.slice a (compactL l).length c, (compactL l).map (Value.int .i64), e, 1⟩) := hs cs hr.ints

end Go.Proofs.Ytkbldnpifmjipaa
