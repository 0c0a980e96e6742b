/-
  The law ExchangeComplete: whatever it is called with, it returns true, and its arguments read as they did.
  Conditions: none beyond the statement's own.
-/
import Derived.Test.YtcgmfmpfmfjmoaaGreatOp
import Derived.Test.YtcgmfmpfmfjmoaaGreatYt
set_option linter.all false
namespace Go.Proofs.YtcgmfmpfmfjmoaaGreat.exchangeComplete
open Go.ChangeShapes Go.WideShapes Go.ChangeAt Go.RowKit

theorem types : ∀ t ∈ Tryz.f3.params.toList, Tryz.prog.readableRec t = true ∧ t < Tryz.prog.types.size := by
  intro t ht
  rw [show Tryz.f3.params = #[24, 27, 28, 3, 3] from Tryz.params3] at ht
  simp only [List.mem_cons, List.not_mem_nil, or_false] at ht
  rcases ht with rfl | rfl | rfl | rfl | rfl
  all_goals exact ⟨by kernel_rfl, of_decide_eq_true (by kernel_rfl)⟩

set_option maxRecDepth 100000 in
theorem contract (H : Type) (enc : TypeId × Value → H) (W : World) (base : Nat) (args : Array Value) (ds gs : List (DataW H)) (before : List MemPlace)
    (hval : ∀ (j : Nat) t v, Tryz.f3.params[j]? = some t → args[j]? = some v → Value.okWide Tryz.prog W .any base t v)
    (hW : DataW.Whole enc Tryz.prog Tryz.f3.params.toList Rows.exchangeCompleteSpec.vars false W args.toList ds gs before) :
    Calls Tryz.prog 3 args W fun e W' => ∃ v, e = .returned v ∧ Rows.exchangeCompleteSpec.post enc Tryz.prog Tryz.f3 false true false false W args v W' := by
  have hW' := hW
  obtain ⟨p, q, hA0, hV, rfl, hfz, hnd⟩ := hW
  have hA : DataW.TrodAll enc Tryz.prog W 0 (fun _ => true) true Tryz.f3.params.toList args.toList ds p := hA0
  rw [Tryz.params3] at hA hval
  obtain ⟨v0, v1, v2, v3, v4, d0, d1, d2, d3, d4, p0, p1, p2, p3, p4, rfl, rfl, rfl, h0, h1, h2, h3, h4⟩ := trodAll_five hA
  obtain ⟨rfl, rfl⟩ := trodVars_none hV
  obtain ⟨cs0, x0, rfl, rr0, o0⟩ := openV_struct Tryz.underlying24 opens_TPlacement_24 (hval 0 24 v0 rfl rfl) h0
  obtain ⟨a101, k101, rfl, h101⟩ := rr0
  obtain ⟨cs1, x1, rfl, rr1, o1⟩ := openV_struct Tryz.underlying27 opens_TFootprint_27 (hval 1 27 v1 rfl rfl) h1
  obtain ⟨a102, k102, a103, k103, rfl, h102, h103⟩ := rr1
  obtain ⟨a104, k104, x2, rfl, h104, o2⟩ := openV_slice Tryz.underlying28 (by kernel_rfl) opens_TPair_70 (hval 2 28 v2 rfl rfl) h2
  obtain ⟨x3, rfl, o3⟩ := openV_int Tryz.underlying3 (hval 3 3 v3 rfl rfl) h3
  obtain ⟨x4, rfl, o4⟩ := openV_int Tryz.underlying3 (hval 4 3 v4 rfl rfl) h4
  have hV : Holds (fun a => W.cell? a) W := fun _ _ h => h
  have hc : Calls Tryz.prog 3 ⟨[.agg ⟨[.int .i64 (x0.Version), .slice a101 ((x0.Parts).length) (k101)]⟩, .agg ⟨[.bool (x1.All), .slice a102 ((x1.Reads).length) (k102), .slice a103 ((x1.Writes).length) (k103)]⟩, .slice a104 ((x2).length) (k104), .int .i64 (x3), .int .i64 (x4)]⟩ W fun e W' => e = .returned (.bool true) ∧ Below W.heap.size W W' := by
    refine ((W_clockworklaw31_ExchangeComplete x0 x1 x2 x3 x4 h101 h102 h103 h104 (plain_ExchangeComplete x0 x1 x2 x3 x4 o0 o1 o2 o3 o4)).2 W hV).mono fun e W' ⟨v, V', h1, h2, _, _, _, h6⟩ => ?_
    rw [h1, h6]
    exact ⟨rfl, h2⟩
  refine hc.mono fun e W' ⟨he, hg⟩ => ?_
  exact ⟨_, he, law_post rfl (by kernel_rfl) types hW' rfl hg⟩

set_option maxRecDepth 100000 in
theorem lifted (os : Os) (started : os.Started) (H : Type) (enc : TypeId × Value → H) :
    ReturnsInHanded {} Tryz.checked os 3 .any (Rows.exchangeCompleteSpec.pre6 enc Tryz.prog Tryz.f3 Rows.exchangeCompleteRow.domain false) (Rows.exchangeCompleteSpec.post enc Tryz.prog Tryz.f3 false true false false) := by
  refine returnsInHanded_of_change (C := Tryz.checked) own started (by kernel_rfl) Tryz.func3
    (ChangeSpec.witness6 (enc := enc) (C := Tryz.checked) false ⟨#[], #[.agg #[.int .i64 (0), .slice none (0) (0)], .agg #[.bool (false), .slice none (0) (0), .slice none (0) (0)], .slice none 0 0, .int .i64 0, .int .i64 0], []⟩ 8 (by kernel_rfl) (by kernel_rfl) (by kernel_rfl) (by kernel_rfl)) ?_
  intro W base args ds gs before hval hW _ _
  exact contract H enc W base args ds gs before hval hW

theorem proved : Rows.ExchangeCompleteSaid :=
  OpenClaim.holds_of_wide 3 Tryz.f3 rfl rfl rfl rfl rfl rfl rfl ⟨rfl, rfl, rfl, rfl, rfl⟩ rfl rfl rfl rfl rfl (by kernel_rfl) Tryz.func3 (by kernel_rfl)
    (of_decide_eq_true (by kernel_rfl)) (by unfold Func.isWrapper; first | (rw [if_pos (by decide +kernel)]; kernel_rfl) | (rw [if_neg (by decide +kernel)]; exact ⟨rfl, rfl⟩))
    (fun os started H enc _ => lifted os started H enc)

end Go.Proofs.YtcgmfmpfmfjmoaaGreat.exchangeComplete

theorem Go.Proofs.YtcgmfmpfmfjmoaaGreat.exchangeCompleteProved : Go.Proofs.YtcgmfmpfmfjmoaaGreat.Rows.ExchangeCompleteSaid := Go.Proofs.YtcgmfmpfmfjmoaaGreat.exchangeComplete.proved
