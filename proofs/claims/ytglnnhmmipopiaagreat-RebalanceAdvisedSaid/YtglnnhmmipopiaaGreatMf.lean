/-
 A FRAMEWORK FOR PROOFS ABOUT CALLS (part f): what strings.Builder's methods need: addresses held against each other, unsafe pointers, bytes of a string behind a row, a row turned to a string.
 Conditions: the table of types is the program's (TOk).
-/
import Derived.Test.YtglnnhmmipopiaaGreatMe
import Derived.Lib.Builder
import Derived.Lib.AppendStr
import Derived.Lib.UnsafeStr
set_option linter.all false
namespace Go.Proofs.YtglnnhmmipopiaaGreat
open Go.RowKit
section
variable {C : Ctx} {o : Oper} {rest all : List Oper} {lr : List REnt} {k : List Kt} {L : Fr} {M : List OB} {V : View} {d : Nat}
end
section
variable {C : Ctx} (hT : TOk C.P C.T) {o : Oper} {rest all : List Oper} {lr : List REnt} {k : List Kt} {L : Fr} {M : List OB} {V : View} {d : Nat}
include hT
end
def evParts (od : Look) : List (Nat × Operand) → Option (List (Nat × Value))
 | [] => some []
 | (i, x) :: l => match ev od [] x with
  | some (.v a) => match evParts od l with
   | some r => some ((i, a) :: r)
   | none => none
  | _ => none
theorem evParts_sound {env : List Nat} {M : List OB} {t : Array Value} {od : Look} (hO : Tells env M t od) : ∀ {xs : List (Nat × Operand)} {vs : List (Nat × Value)}, evParts od xs = some vs → xs.map (fun p => (p.1, (⟨t, []⟩ : Act).eval p.2)) = vs
 | [], vs, h => by simp only [evParts, Option.some.injEq] at h; subst h; rfl
 | (i, x) :: xs, vs, h => by
  unfold evParts at h
  split at h <;> try (simp at h; done)
  rename_i a hx
  split at h <;> try (simp at h; done)
  rename_i r hr
  simp only [Option.some.injEq] at h
  subst h
  have e1 := ev_sound hO (G := []) trivial hx
  simp only [den] at e1
  simp only [List.map_cons, e1, evParts_sound hO hr]
section
variable {C : Ctx} {o : Oper} {rest all : List Oper} {lr : List REnt} {k : List Kt} {L : Fr} {M : List OB} {V : View} {d : Nat}
theorem Exec.bldP {t : TypeId} {xs : List (Nat × Operand)} {vs : List (Nat × Value)} {r : Value} (hh : headOf C.nt all lr L o = some ([], d)) (ho : o.op = .build t ⟨xs⟩) (hv : evParts (opd L lr) xs = some vs) (hr : ∀ w, (Instr.build t ⟨vs⟩).run C.P w = .ok r w)
  (h : Exec C ⟨.ops rest all (⟨d, [], .v r, d⟩ :: lr) :: k, (d, .v r) :: L, M⟩ V) : Exec C ⟨.ops (o :: rest) all lr :: k, L, M⟩ V := by
 refine Exec.yieldsP (G := []) (x := .v r) hh (fun env t0 w h3 h4 _ _ => ⟨trivial, ?_⟩) h
 have e1 := evParts_sound (opd_sound h3 h4) hv
 unfold execOp
 simp only [ho, List.map_toArray, e1, Sem.run_bind, hr, Result.andThen_ok, Sem.run_pure, den]
end
end Go.Proofs.YtglnnhmmipopiaaGreat
