/-
  A FRAMEWORK FOR PROOFS ABOUT CALLS (part f): what strings.Builder's methods need: addresses held against each other, unsafe pointers, bytes of a string behind a row, a row turned to a string.
  Conditions: the table of types is the program's (TOk).
-/
import Derived.Test.YtonijgmopcmldaaGreatMe
import Derived.Lib.Builder
import Derived.Lib.AppendStr
import Derived.Lib.UnsafeStr
set_option linter.all false
namespace Go.Proofs.YtonijgmopcmldaaGreat
open Go.RowKit
section
variable {C : Ctx} {o : Oper} {rest all : List Oper} {lr : List REnt} {k : List Kt} {L : Fr} {M : List OB} {V : View} {d : Nat}
end
section
variable {C : Ctx} (hT : TOk C.P C.T) {o : Oper} {rest all : List Oper} {lr : List REnt} {k : List Kt} {L : Fr} {M : List OB} {V : View} {d : Nat}
include hT
end
section
variable {C : Ctx} {o : Oper} {rest all : List Oper} {lr : List REnt} {k : List Kt} {L : Fr} {M : List OB} {V : View} {d : Nat}
end
end Go.Proofs.YtonijgmopcmldaaGreat
