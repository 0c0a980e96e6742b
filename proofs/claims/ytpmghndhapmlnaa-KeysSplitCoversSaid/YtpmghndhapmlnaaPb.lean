/-
  Opening arguments: a range of keys, a string.
  Conditions: none here.
-/
import Derived.Test.YtpmghndhapmlnaaPa
import Derived.Lib.SmallJoins
namespace Go.Proofs.Ytpmghndhapmlnaa
open Go.ChangeShapes Go.WideShapes Go.ChangeAt Go.RowKit

theorem open_str {H : Type} {enc : TypeId × Value → H} {W : World} {base : Nat} {v : Value} {d : DataW H} {p : List MemPlace} (hval : Value.okWide Try.prog W .any base 9 v)
    (h : DataW.Trod enc Try.prog W 0 (fun _ => true) true 9 v d p) : ∃ l, v = S l := by
  obtain ⟨s, rfl, _⟩ := Go.ChangeMaps.open_string Try.underlying9 hval h
  exact ⟨s.data.toList, rfl⟩

theorem open_rng {H : Type} {enc : TypeId × Value → H} {W : World} {base : Nat} {v : Value} {d : DataW H} {p : List MemPlace} (hval : Value.okWide Try.prog W .any base 23 v)
    (h : DataW.Trod enc Try.prog W 0 (fun _ => true) true 23 v d p) : ∃ a b, v = RV a b := by
  obtain ⟨v0, v1, y0, y1, n, rfl, _, _, h0, h1⟩ := Go.Joins.open_agg2 Try.underlying23 (by kernel_rfl) (by kernel_rfl) hval h
  obtain ⟨s0, e0, _⟩ := DataW.trod_string Try.underlying9 h0
  obtain ⟨s1, e1, _⟩ := DataW.trod_string Try.underlying9 h1
  simp only [List.cons.injEq, and_true] at e0 e1
  subst e0; subst e1
  exact ⟨s0.data.toList, s1.data.toList, rfl⟩

end Go.Proofs.Ytpmghndhapmlnaa
