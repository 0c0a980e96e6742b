/-
  The law VerifyFinds: whatever it is called with, it returns true, and its arguments read as they did.
  Conditions: none beyond the statement's own.
-/
import Derived.Test.YtonijgmopcmldaaGreatOp
import Derived.Test.YtonijgmopcmldaaGreatRh
set_option linter.all false
namespace Go.Proofs.YtonijgmopcmldaaGreat.verifyFinds
open Go.ChangeShapes Go.WideShapes Go.ChangeAt Go.RowKit

theorem types : ∀ t ∈ Tryz.f8.params.toList, Tryz.prog.readableRec t = true ∧ t < Tryz.prog.types.size := by
  intro t ht
  rw [show Tryz.f8.params = #[24, 24] from Tryz.params8] at ht
  simp only [List.mem_cons, List.not_mem_nil, or_false] at ht
  rcases ht with rfl | rfl
  all_goals exact ⟨by kernel_rfl, of_decide_eq_true (by kernel_rfl)⟩

set_option maxRecDepth 100000 in
theorem contract (H : Type) (enc : TypeId × Value → H) (W : World) (base : Nat) (args : Array Value) (ds gs : List (DataW H)) (before : List MemPlace)
    (hval : ∀ (j : Nat) t v, Tryz.f8.params[j]? = some t → args[j]? = some v → Value.okWide Tryz.prog W .any base t v)
    (hW : DataW.Whole enc Tryz.prog Tryz.f8.params.toList Rows.verifyFindsSpec.vars false W args.toList ds gs before) :
    Calls Tryz.prog 8 args W fun e W' => ∃ v, e = .returned v ∧ Rows.verifyFindsSpec.post enc Tryz.prog Tryz.f8 false true false false W args v W' := by
  have hW' := hW
  obtain ⟨p, q, hA0, hV, rfl, hfz, hnd⟩ := hW
  have hA : DataW.TrodAll enc Tryz.prog W 0 (fun _ => true) true Tryz.f8.params.toList args.toList ds p := hA0
  rw [Tryz.params8] at hA hval
  obtain ⟨v0, v1, d0, d1, p0, p1, rfl, rfl, rfl, h0, h1⟩ := trodAll_two hA
  obtain ⟨rfl, rfl⟩ := trodVars_none hV
  obtain ⟨a101, k101, x0, rfl, h101, o0⟩ := openV_slice Tryz.underlying24 (by kernel_rfl) opens_TPair_55 (hval 0 24 v0 rfl rfl) h0
  obtain ⟨a102, k102, x1, rfl, h102, o1⟩ := openV_slice Tryz.underlying24 (by kernel_rfl) opens_TPair_55 (hval 1 24 v1 rfl rfl) h1
  have hV : Holds (fun a => W.cell? a) W := fun _ _ h => h
  have hc : Calls Tryz.prog 8 ⟨[.slice a101 ((x0).length) (k101), .slice a102 ((x1).length) (k102)]⟩ W fun e W' => e = .returned (.bool true) ∧ Below W.heap.size W W' := by
    refine ((W_clockworklaw54_VerifyFinds x0 x1 h101 h102 (plain_VerifyFinds x0 x1 o0 o1)).2 W hV).mono fun e W' ⟨v, V', h1, h2, _, _, _, h6⟩ => ?_
    rw [h1, h6]
    exact ⟨rfl, h2⟩
  refine hc.mono fun e W' ⟨he, hg⟩ => ?_
  exact ⟨_, he, law_post rfl (by kernel_rfl) types hW' rfl hg⟩

set_option maxRecDepth 100000 in
theorem lifted (os : Os) (started : os.Started) (H : Type) (enc : TypeId × Value → H) :
    ReturnsInHanded {} Tryz.checked os 8 .any (Rows.verifyFindsSpec.pre6 enc Tryz.prog Tryz.f8 Rows.verifyFindsRow.domain false) (Rows.verifyFindsSpec.post enc Tryz.prog Tryz.f8 false true false false) := by
  refine returnsInHanded_of_change (C := Tryz.checked) own started (by kernel_rfl) Tryz.func8
    (ChangeSpec.witness6 (enc := enc) (C := Tryz.checked) false ⟨#[], #[.slice none 0 0, .slice none 0 0], []⟩ 8 (by kernel_rfl) (by kernel_rfl) (by kernel_rfl) (by kernel_rfl)) ?_
  intro W base args ds gs before hval hW _ _
  exact contract H enc W base args ds gs before hval hW

theorem proved : Rows.VerifyFindsSaid :=
  OpenClaim.holds_of_wide 8 Tryz.f8 rfl rfl rfl rfl rfl rfl rfl ⟨rfl, rfl, rfl, rfl, rfl⟩ rfl rfl rfl rfl rfl (by kernel_rfl) Tryz.func8 (by kernel_rfl)
    (of_decide_eq_true (by kernel_rfl)) (by unfold Func.isWrapper; first | (rw [if_pos (by decide +kernel)]; kernel_rfl) | (rw [if_neg (by decide +kernel)]; exact ⟨rfl, rfl⟩))
    (fun os started H enc _ => lifted os started H enc)

end Go.Proofs.YtonijgmopcmldaaGreat.verifyFinds

theorem Go.Proofs.YtonijgmopcmldaaGreat.verifyFindsProved : Go.Proofs.YtonijgmopcmldaaGreat.Rows.VerifyFindsSaid := Go.Proofs.YtonijgmopcmldaaGreat.verifyFinds.proved
