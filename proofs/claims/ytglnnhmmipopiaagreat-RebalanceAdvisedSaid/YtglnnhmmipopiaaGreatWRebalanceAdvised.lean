/-
  The law RebalanceAdvised: whatever it is called with, it returns true, and its arguments read as they did.
  Conditions: none beyond the statement's own.
-/
import Derived.Test.YtglnnhmmipopiaaGreatOp
import Derived.Test.YtglnnhmmipopiaaGreatPg
set_option linter.all false
namespace Go.Proofs.YtglnnhmmipopiaaGreat.rebalanceAdvised
open Go.ChangeShapes Go.WideShapes Go.ChangeAt Go.RowKit

theorem types : ∀ t ∈ Tryz.f7.params.toList, Tryz.prog.readableRec t = true ∧ t < Tryz.prog.types.size := by
  intro t ht
  rw [show Tryz.f7.params = #[24, 25, 40, 3] from Tryz.params7] at ht
  simp only [List.mem_cons, List.not_mem_nil, or_false] at ht
  rcases ht with rfl | rfl | rfl | rfl
  all_goals exact ⟨by kernel_rfl, of_decide_eq_true (by kernel_rfl)⟩

set_option maxRecDepth 100000 in
theorem contract (H : Type) (enc : TypeId × Value → H) (W : World) (base : Nat) (args : Array Value) (ds gs : List (DataW H)) (before : List MemPlace)
    (hval : ∀ (j : Nat) t v, Tryz.f7.params[j]? = some t → args[j]? = some v → Value.okWide Tryz.prog W .any base t v)
    (hW : DataW.Whole enc Tryz.prog Tryz.f7.params.toList Rows.rebalanceAdvisedSpec.vars false W args.toList ds gs before) (hz : (DataW.weightsEach Tryz.prog (Tryz.f7.params.toList ++ Rows.rebalanceAdvisedSpec.plain.varTypes Tryz.prog) (ds ++ gs)).all (· ≤ reachBytes) = true) :
    Calls Tryz.prog 7 args W fun e W' => ∃ v, e = .returned v ∧ Rows.rebalanceAdvisedSpec.post enc Tryz.prog Tryz.f7 false true false false W args v W' := by
  have hW' := hW
  obtain ⟨p, q, hA0, hV, rfl, hfz, hnd⟩ := hW
  have hA : DataW.TrodAll enc Tryz.prog W 0 (fun _ => true) true Tryz.f7.params.toList args.toList ds p := hA0
  rw [Tryz.params7] at hA hval hz
  obtain ⟨v0, v1, v2, v3, d0, d1, d2, d3, p0, p1, p2, p3, rfl, rfl, rfl, h0, h1, h2, h3⟩ := trodAll_four hA
  obtain ⟨rfl, rfl⟩ := trodVars_none hV
  have hz0 : ∀ n ∈ d0.weights Tryz.prog 24, n ≤ reachBytes := fun n hn => by
    have := List.all_eq_true.1 hz n (DataW.weights_mem_each (j := 0) rfl rfl n hn)
    simpa using this
  have hz1 : ∀ n ∈ d1.weights Tryz.prog 25, n ≤ reachBytes := fun n hn => by
    have := List.all_eq_true.1 hz n (DataW.weights_mem_each (j := 1) rfl rfl n hn)
    simpa using this
  have hz2 : ∀ n ∈ d2.weights Tryz.prog 40, n ≤ reachBytes := fun n hn => by
    have := List.all_eq_true.1 hz n (DataW.weights_mem_each (j := 2) rfl rfl n hn)
    simpa using this
  have hz3 : ∀ n ∈ d3.weights Tryz.prog 3, n ≤ reachBytes := fun n hn => by
    have := List.all_eq_true.1 hz n (DataW.weights_mem_each (j := 3) rfl rfl n hn)
    simpa using this
  obtain ⟨cs0, x0, rfl, rr0, o0⟩ := openVR_struct Tryz.underlying24 opens_TPlacement_24 (hval 0 24 v0 rfl rfl) h0 hz0
  obtain ⟨a101, k101, rfl, h101⟩ := rr0
  obtain ⟨a102, k102, x1, rfl, h102, o1⟩ := openVR_slice Tryz.underlying25 (by kernel_rfl) (of_decide_eq_true (by kernel_rfl)) opens_TShard_46 (hval 1 25 v1 rfl rfl) h1 hz1
  obtain ⟨a103, k103, x2, rfl, h103, o2⟩ := openVR_slice Tryz.underlying40 (by kernel_rfl) (of_decide_eq_true (by kernel_rfl)) opens_THeat_58 (hval 2 40 v2 rfl rfl) h2 hz2
  obtain ⟨x3, rfl, o3⟩ := openV_int Tryz.underlying3 (hval 3 3 v3 rfl rfl) h3
  have hV : Holds (fun a => W.cell? a) W := fun _ _ h => h
  have hc : Calls Tryz.prog 7 ⟨[.agg ⟨[.int .i64 (x0.Version), .slice a101 ((x0.Parts).length) (k101)]⟩, .slice a102 ((x1).length) (k102), .slice a103 ((x2).length) (k103), .int .i64 (x3)]⟩ W fun e W' => e = .returned (.bool true) ∧ Below W.heap.size W W' := by
    refine ((W_clockworklaw35_RebalanceAdvised x0 x1 x2 x3 h101 h102 h103 (plain_RebalanceAdvised x0 x1 x2 x3 o0 o1 o2 o3)).2 W hV).mono fun e W' ⟨v, V', h1, h2, _, _, _, h6⟩ => ?_
    rw [h1, h6]
    exact ⟨rfl, h2⟩
  refine hc.mono fun e W' ⟨he, hg⟩ => ?_
  exact ⟨_, he, law_post rfl (by kernel_rfl) types hW' rfl hg⟩

set_option maxRecDepth 100000 in
theorem lifted (os : Os) (started : os.Started) (H : Type) (enc : TypeId × Value → H) :
    ReturnsInHanded {} Tryz.checked os 7 .any (Rows.rebalanceAdvisedSpec.pre6 enc Tryz.prog Tryz.f7 Rows.rebalanceAdvisedRow.domain false) (Rows.rebalanceAdvisedSpec.post enc Tryz.prog Tryz.f7 false true false false) := by
  refine returnsInHanded_of_change_sized (C := Tryz.checked) own started (by kernel_rfl) Tryz.func7
    (ChangeSpec.witness6 (enc := enc) (C := Tryz.checked) false ⟨#[], #[.agg #[.int .i64 (0), .slice none (0) (0)], .slice none 0 0, .slice none 0 0, .int .i64 0], []⟩ 8 (by kernel_rfl) (by kernel_rfl) (by kernel_rfl) (by kernel_rfl)) ?_
  intro W base args ds gs before hval hW _ hz _
  exact contract H enc W base args ds gs before hval hW hz

theorem proved : Rows.RebalanceAdvisedSaid :=
  OpenClaim.holds_of_wide 7 Tryz.f7 rfl rfl rfl rfl rfl rfl rfl ⟨rfl, rfl, rfl, rfl, rfl⟩ rfl rfl rfl rfl rfl (by kernel_rfl) Tryz.func7 (by kernel_rfl)
    (of_decide_eq_true (by kernel_rfl)) (by unfold Func.isWrapper; first | (rw [if_pos (by decide +kernel)]; kernel_rfl) | (rw [if_neg (by decide +kernel)]; exact ⟨rfl, rfl⟩))
    (fun os started H enc _ => lifted os started H enc)

end Go.Proofs.YtglnnhmmipopiaaGreat.rebalanceAdvised

theorem Go.Proofs.YtglnnhmmipopiaaGreat.rebalanceAdvisedProved : Go.Proofs.YtglnnhmmipopiaaGreat.Rows.RebalanceAdvisedSaid := Go.Proofs.YtglnnhmmipopiaaGreat.rebalanceAdvised.proved
