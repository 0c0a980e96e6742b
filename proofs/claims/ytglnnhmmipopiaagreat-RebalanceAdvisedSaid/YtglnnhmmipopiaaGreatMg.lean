/-
 A FRAMEWORK FOR PROOFS ABOUT CALLS (part g): arrays of numbers whose length the framework need not unfold; slices.Sort at []string.
 Conditions: the table of types is the program's (TOk).
-/
import Derived.Test.YtglnnhmmipopiaaGreatMf
import Derived.ChangeKeysEq
set_option linter.all false
namespace Go.Proofs.YtglnnhmmipopiaaGreat
section
open Go.Sort Go.RowKit
end

/-! ### Arrays of numbers -/
section
variable {C : Ctx} (hT : TOk C.P C.T) {o : Oper} {rest all : List Oper} {lr : List REnt} {k : List Kt} {L : Fr} {M : List OB} {V : View} {d : Nat}
include hT
end
section
variable {C : Ctx} {o : Oper} {rest all : List Oper} {lr : List REnt} {k : List Kt} {L : Fr} {M : List OB} {V : View} {d : Nat}
end

/-! ### Arrays held against each other; arrays handed back -/
theorem Exec.forkJ {C : Ctx} (q : List (Nat × Bool)) (I : List REnt → Fr → View → List OB → Prop) (m : Nat) {all : List Oper} (L2 : List Bool) {ends : List Nat} {n0 : Nat} {mask : List Nat} {V1 : View} {listed : List Bool} {n' : Nat} {p0 : List (Nat × Bool)} {lr : List REnt} {k : List Kt} {L : Fr} {M : List OB} {V : View} (hq : planOk all ends m L2 q = true)
  (hA : (∀ (p : List Nat) {lr0 lr' : List REnt} {L0 L' : Fr} {M0 M' : List OB} {V' : View}, pickMem M0 p = some M' → nodupN p = true → idN 0 n0 p = true → rowsOnly M' = true → SubS p L' L0 → SubE2 p lr' lr0 → I lr' L' V' M' → Exec C ⟨.draw ⟨all, L2, m, ends, n0, mask, V1, [], lr0⟩ :: k, L0, M0⟩ V') → Exec C ⟨.draw ⟨all, listed, n', ends, n0, mask, V1, p0, lr⟩ :: k, L, M⟩ V)
  (h : ∀ lr' L' V' M', I lr' L' V' M' → Exec C ⟨.draw ⟨all, L2, m, ends, n0, mask, V1, q, lr'⟩ :: k, L', M'⟩ V') : Exec C ⟨.draw ⟨all, listed, n', ends, n0, mask, V1, p0, lr⟩ :: k, L, M⟩ V :=
 hA fun p _ _ _ _ _ _ _ g1 g2 g3 g4 g5 g6 g7 => Exec.selD2 p hq g1 g2 g3 g4 g5 g6 (h _ _ _ _ g7)
end Go.Proofs.YtglnnhmmipopiaaGreat
