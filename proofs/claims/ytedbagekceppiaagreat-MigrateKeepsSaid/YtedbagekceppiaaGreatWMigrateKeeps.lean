/-
  The law MigrateKeeps: whatever it is called with, it returns true, and its arguments read as they did.
  Conditions: none beyond the statement's own.
-/
import Derived.Test.YtedbagekceppiaaGreatOp
import Derived.Test.YtedbagekceppiaaGreatCw
set_option linter.all false
namespace Go.Proofs.YtedbagekceppiaaGreat.migrateKeeps
open Go.ChangeShapes Go.WideShapes Go.ChangeAt Go.RowKit

theorem types : ∀ t ∈ Tryz.f5.params.toList, Tryz.prog.readableRec t = true ∧ t < Tryz.prog.types.size := by
  intro t ht
  rw [show Tryz.f5.params = #[47, 32] from Tryz.params5] at ht
  simp only [List.mem_cons, List.not_mem_nil, or_false] at ht
  rcases ht with rfl | rfl
  all_goals exact ⟨by kernel_rfl, of_decide_eq_true (by kernel_rfl)⟩

set_option maxRecDepth 100000 in
theorem contract (H : Type) (enc : TypeId × Value → H) (W : World) (base : Nat) (args : Array Value) (ds gs : List (DataW H)) (before : List MemPlace)
    (hval : ∀ (j : Nat) t v, Tryz.f5.params[j]? = some t → args[j]? = some v → Value.okWide Tryz.prog W .any base t v)
    (hW : DataW.Whole enc Tryz.prog Tryz.f5.params.toList Rows.migrateKeepsSpec.vars false W args.toList ds gs before) :
    Calls Tryz.prog 5 args W fun e W' => ∃ v, e = .returned v ∧ Rows.migrateKeepsSpec.post enc Tryz.prog Tryz.f5 false true false false W args v W' := by
  have hW' := hW
  obtain ⟨p, q, hA0, hV, rfl, hfz, hnd⟩ := hW
  have hA : DataW.TrodAll enc Tryz.prog W 0 (fun _ => true) true Tryz.f5.params.toList args.toList ds p := hA0
  rw [Tryz.params5] at hA hval
  obtain ⟨v0, v1, d0, d1, p0, p1, rfl, rfl, rfl, h0, h1⟩ := trodAll_two hA
  obtain ⟨rfl, rfl⟩ := trodVars_none hV
  obtain ⟨cs0, x0, rfl, rr0, o0⟩ := openV_struct Tryz.underlying47 opens_TMove_47 (hval 0 47 v0 rfl rfl) h0
  obtain ⟨a101, k101, a102, k102, rfl, h101, h102⟩ := rr0
  obtain ⟨a103, k103, x1, rfl, h103, o1⟩ := openV_slice Tryz.underlying32 (by kernel_rfl) opens_TPair_64 (hval 1 32 v1 rfl rfl) h1
  have hV : Holds (fun a => W.cell? a) W := fun _ _ h => h
  have hc : Calls Tryz.prog 5 ⟨[.agg ⟨[.int .i64 (x0.P.Version), .slice a101 ((x0.P.Parts).length) (k101), .int .i64 (x0.Id), .int .i64 (x0.Node), .slice a102 ((x0.Sizes).length) (k102)]⟩, .slice a103 ((x1).length) (k103)]⟩ W fun e W' => e = .returned (.bool true) ∧ Below W.heap.size W W' := by
    refine ((W_clockworklaw33_MigrateKeeps x0 x1 h101 h102 h103 (plain_MigrateKeeps x0 x1 o0 o1)).2 W hV).mono fun e W' ⟨v, V', h1, h2, _, _, _, h6⟩ => ?_
    rw [h1, h6]
    exact ⟨rfl, h2⟩
  refine hc.mono fun e W' ⟨he, hg⟩ => ?_
  exact ⟨_, he, law_post rfl (by kernel_rfl) types hW' rfl hg⟩

set_option maxRecDepth 100000 in
theorem lifted (os : Os) (started : os.Started) (H : Type) (enc : TypeId × Value → H) :
    ReturnsInHanded {} Tryz.checked os 5 .any (Rows.migrateKeepsSpec.pre6 enc Tryz.prog Tryz.f5 Rows.migrateKeepsRow.domain false) (Rows.migrateKeepsSpec.post enc Tryz.prog Tryz.f5 false true false false) := by
  refine returnsInHanded_of_change (C := Tryz.checked) own started (by kernel_rfl) Tryz.func5
    (ChangeSpec.witness6 (enc := enc) (C := Tryz.checked) false ⟨#[], #[.agg #[.int .i64 (0), .slice none (0) (0), .int .i64 (0), .int .i64 (0), .slice none (0) (0)], .slice none 0 0], []⟩ 8 (by kernel_rfl) (by kernel_rfl) (by kernel_rfl) (by kernel_rfl)) ?_
  intro W base args ds gs before hval hW _ _
  exact contract H enc W base args ds gs before hval hW

theorem proved : Rows.MigrateKeepsSaid :=
  OpenClaim.holds_of_wide 5 Tryz.f5 rfl rfl rfl rfl rfl rfl rfl ⟨rfl, rfl, rfl, rfl, rfl⟩ rfl rfl rfl rfl rfl (by kernel_rfl) Tryz.func5 (by kernel_rfl)
    (of_decide_eq_true (by kernel_rfl)) (by unfold Func.isWrapper; first | (rw [if_pos (by decide +kernel)]; kernel_rfl) | (rw [if_neg (by decide +kernel)]; exact ⟨rfl, rfl⟩))
    (fun os started H enc _ => lifted os started H enc)

end Go.Proofs.YtedbagekceppiaaGreat.migrateKeeps

theorem Go.Proofs.YtedbagekceppiaaGreat.migrateKeepsProved : Go.Proofs.YtedbagekceppiaaGreat.Rows.MigrateKeepsSaid := Go.Proofs.YtedbagekceppiaaGreat.migrateKeeps.proved
