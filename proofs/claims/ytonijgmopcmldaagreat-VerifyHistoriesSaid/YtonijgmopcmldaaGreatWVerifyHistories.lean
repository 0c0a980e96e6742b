/-
  The law VerifyHistories: whatever it is called with, it returns true, and its arguments read as they did.
  Conditions: none beyond the statement's own.
-/
import Derived.Test.YtonijgmopcmldaaGreatOp
import Derived.Test.YtonijgmopcmldaaGreatRi
set_option linter.all false
namespace Go.Proofs.YtonijgmopcmldaaGreat.verifyHistories
open Go.ChangeShapes Go.WideShapes Go.ChangeAt Go.RowKit

theorem types : ∀ t ∈ Tryz.f3.params.toList, Tryz.prog.readableRec t = true ∧ t < Tryz.prog.types.size := by
  intro t ht
  rw [show Tryz.f3.params = #[22] from Tryz.params3] at ht
  simp only [List.mem_cons, List.not_mem_nil, or_false] at ht
  subst ht
  all_goals exact ⟨by kernel_rfl, of_decide_eq_true (by kernel_rfl)⟩

set_option maxRecDepth 100000 in
theorem contract (H : Type) (enc : TypeId × Value → H) (W : World) (base : Nat) (args : Array Value) (ds gs : List (DataW H)) (before : List MemPlace)
    (hval : ∀ (j : Nat) t v, Tryz.f3.params[j]? = some t → args[j]? = some v → Value.okWide Tryz.prog W .any base t v)
    (hW : DataW.Whole enc Tryz.prog Tryz.f3.params.toList Rows.verifyHistoriesSpec.vars false W args.toList ds gs before) (hz : (DataW.weightsEach Tryz.prog (Tryz.f3.params.toList ++ Rows.verifyHistoriesSpec.plain.varTypes Tryz.prog) (ds ++ gs)).all (· ≤ reachBytes) = true) :
    Calls Tryz.prog 3 args W fun e W' => ∃ v, e = .returned v ∧ Rows.verifyHistoriesSpec.post enc Tryz.prog Tryz.f3 false true false false W args v W' := by
  have hW' := hW
  obtain ⟨p, q, hA0, hV, rfl, hfz, hnd⟩ := hW
  have hA : DataW.TrodAll enc Tryz.prog W 0 (fun _ => true) true Tryz.f3.params.toList args.toList ds p := hA0
  rw [Tryz.params3] at hA hval hz
  obtain ⟨v0, d0, rfl, rfl, h0⟩ := trodAll_one hA
  obtain ⟨rfl, rfl⟩ := trodVars_none hV
  have hz0 : ∀ n ∈ d0.weights Tryz.prog 22, n ≤ reachBytes := fun n hn => by
    have := List.all_eq_true.1 hz n (DataW.weights_mem_each (j := 0) rfl rfl n hn)
    simpa using this
  obtain ⟨a101, k101, x0, rfl, h101, o0⟩ := openVR_slice Tryz.underlying22 (by kernel_rfl) (opensR_slice Tryz.underlying24 (by kernel_rfl) opensR_TPair) (hval 0 22 v0 rfl rfl) h0 hz0
  have hV : Holds (fun a => W.cell? a) W := fun _ _ h => h
  have hc : Calls Tryz.prog 3 ⟨[.slice a101 ((x0).length) (k101)]⟩ W fun e W' => e = .returned (.bool true) ∧ Below W.heap.size W W' := by
    refine ((W_clockworklaw54_VerifyHistories x0 h101 (plain_VerifyHistories x0 o0)).2 W hV).mono fun e W' ⟨v, V', h1, h2, _, _, _, h6⟩ => ?_
    rw [h1, h6]
    exact ⟨rfl, h2⟩
  refine hc.mono fun e W' ⟨he, hg⟩ => ?_
  exact ⟨_, he, law_post rfl (by kernel_rfl) types hW' rfl hg⟩

set_option maxRecDepth 100000 in
theorem lifted (os : Os) (started : os.Started) (H : Type) (enc : TypeId × Value → H) :
    ReturnsInHanded {} Tryz.checked os 3 .any (Rows.verifyHistoriesSpec.pre6 enc Tryz.prog Tryz.f3 Rows.verifyHistoriesRow.domain false) (Rows.verifyHistoriesSpec.post enc Tryz.prog Tryz.f3 false true false false) := by
  refine returnsInHanded_of_change_sized (C := Tryz.checked) own started (by kernel_rfl) Tryz.func3
    (ChangeSpec.witness6 (enc := enc) (C := Tryz.checked) false ⟨#[], #[.slice none 0 0], []⟩ 8 (by kernel_rfl) (by kernel_rfl) (by kernel_rfl) (by kernel_rfl)) ?_
  intro W base args ds gs before hval hW _ hz _
  exact contract H enc W base args ds gs before hval hW hz

theorem proved : Rows.VerifyHistoriesSaid :=
  OpenClaim.holds_of_wide 3 Tryz.f3 rfl rfl rfl rfl rfl rfl rfl ⟨rfl, rfl, rfl, rfl, rfl⟩ rfl rfl rfl rfl rfl (by kernel_rfl) Tryz.func3 (by kernel_rfl)
    (of_decide_eq_true (by kernel_rfl)) (by unfold Func.isWrapper; first | (rw [if_pos (by decide +kernel)]; kernel_rfl) | (rw [if_neg (by decide +kernel)]; exact ⟨rfl, rfl⟩))
    (fun os started H enc _ => lifted os started H enc)

end Go.Proofs.YtonijgmopcmldaaGreat.verifyHistories

theorem Go.Proofs.YtonijgmopcmldaaGreat.verifyHistoriesProved : Go.Proofs.YtonijgmopcmldaaGreat.Rows.VerifyHistoriesSaid := Go.Proofs.YtonijgmopcmldaaGreat.verifyHistories.proved
