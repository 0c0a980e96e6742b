/-
  The law VerifyEarliest: whatever it is called with, it returns true, and its arguments read as they did.
  Conditions: none beyond the statement's own.
-/
import Derived.Test.YtonijgmopcmldaaGreatOp
import Derived.Test.YtonijgmopcmldaaGreatRm
set_option linter.all false
namespace Go.Proofs.YtonijgmopcmldaaGreat.verifyEarliest
open Go.ChangeShapes Go.WideShapes Go.ChangeAt Go.RowKit

theorem types : ∀ t ∈ Tryz.f9.params.toList, Tryz.prog.readableRec t = true ∧ t < Tryz.prog.types.size := by
  intro t ht
  rw [show Tryz.f9.params = #[40, 40] from Tryz.params9] at ht
  simp only [List.mem_cons, List.not_mem_nil, or_false] at ht
  rcases ht with rfl | rfl
  all_goals exact ⟨by kernel_rfl, of_decide_eq_true (by kernel_rfl)⟩

set_option maxRecDepth 100000 in
theorem contract (H : Type) (enc : TypeId × Value → H) (W : World) (base : Nat) (args : Array Value) (ds gs : List (DataW H)) (before : List MemPlace)
    (hval : ∀ (j : Nat) t v, Tryz.f9.params[j]? = some t → args[j]? = some v → Value.okWide Tryz.prog W .any base t v)
    (hW : DataW.Whole enc Tryz.prog Tryz.f9.params.toList Rows.verifyEarliestSpec.vars false W args.toList ds gs before) :
    Calls Tryz.prog 9 args W fun e W' => ∃ v, e = .returned v ∧ Rows.verifyEarliestSpec.post enc Tryz.prog Tryz.f9 false true false false W args v W' := by
  have hW' := hW
  obtain ⟨p, q, hA0, hV, rfl, hfz, hnd⟩ := hW
  have hA : DataW.TrodAll enc Tryz.prog W 0 (fun _ => true) true Tryz.f9.params.toList args.toList ds p := hA0
  rw [Tryz.params9] at hA hval
  obtain ⟨v0, v1, d0, d1, p0, p1, rfl, rfl, rfl, h0, h1⟩ := trodAll_two hA
  obtain ⟨rfl, rfl⟩ := trodVars_none hV
  obtain ⟨cs0, x0, rfl, rr0, o0⟩ := openV_struct Tryz.underlying40 opens_TStore_40 (hval 0 40 v0 rfl rfl) h0
  obtain ⟨a101, k101, rfl, h101⟩ := rr0
  obtain ⟨cs1, x1, rfl, rr1, o1⟩ := openV_struct Tryz.underlying40 opens_TStore_40 (hval 1 40 v1 rfl rfl) h1
  obtain ⟨a102, k102, rfl, h102⟩ := rr1
  have hV : Holds (fun a => W.cell? a) W := fun _ _ h => h
  have hc : Calls Tryz.prog 9 ⟨[.agg ⟨[.int .i64 (x0.Floor), .int .i64 (x0.Last), .slice a101 ((x0.Rows).length) (k101)]⟩, .agg ⟨[.int .i64 (x1.Floor), .int .i64 (x1.Last), .slice a102 ((x1.Rows).length) (k102)]⟩]⟩ W fun e W' => e = .returned (.bool true) ∧ Below W.heap.size W W' := by
    refine ((W_clockworklaw54_VerifyEarliest x0 x1 h101 h102 (plain_VerifyEarliest x0 x1 o0 o1)).2 W hV).mono fun e W' ⟨v, V', h1, h2, _, _, _, h6⟩ => ?_
    rw [h1, h6]
    exact ⟨rfl, h2⟩
  refine hc.mono fun e W' ⟨he, hg⟩ => ?_
  exact ⟨_, he, law_post rfl (by kernel_rfl) types hW' rfl hg⟩

set_option maxRecDepth 100000 in
theorem lifted (os : Os) (started : os.Started) (H : Type) (enc : TypeId × Value → H) :
    ReturnsInHanded {} Tryz.checked os 9 .any (Rows.verifyEarliestSpec.pre6 enc Tryz.prog Tryz.f9 Rows.verifyEarliestRow.domain false) (Rows.verifyEarliestSpec.post enc Tryz.prog Tryz.f9 false true false false) := by
  refine returnsInHanded_of_change (C := Tryz.checked) own started (by kernel_rfl) Tryz.func9
    (ChangeSpec.witness6 (enc := enc) (C := Tryz.checked) false ⟨#[], #[.agg #[.int .i64 (0), .int .i64 (0), .slice none (0) (0)], .agg #[.int .i64 (0), .int .i64 (0), .slice none (0) (0)]], []⟩ 8 (by kernel_rfl) (by kernel_rfl) (by kernel_rfl) (by kernel_rfl)) ?_
  intro W base args ds gs before hval hW _ _
  exact contract H enc W base args ds gs before hval hW

theorem proved : Rows.VerifyEarliestSaid :=
  OpenClaim.holds_of_wide 9 Tryz.f9 rfl rfl rfl rfl rfl rfl rfl ⟨rfl, rfl, rfl, rfl, rfl⟩ rfl rfl rfl rfl rfl (by kernel_rfl) Tryz.func9 (by kernel_rfl)
    (of_decide_eq_true (by kernel_rfl)) (by unfold Func.isWrapper; first | (rw [if_pos (by decide +kernel)]; kernel_rfl) | (rw [if_neg (by decide +kernel)]; exact ⟨rfl, rfl⟩))
    (fun os started H enc _ => lifted os started H enc)

end Go.Proofs.YtonijgmopcmldaaGreat.verifyEarliest

theorem Go.Proofs.YtonijgmopcmldaaGreat.verifyEarliestProved : Go.Proofs.YtonijgmopcmldaaGreat.Rows.VerifyEarliestSaid := Go.Proofs.YtonijgmopcmldaaGreat.verifyEarliest.proved
