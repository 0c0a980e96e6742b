/-
  The law KeysSplitCovers: whatever it is called with, it returns true, and its arguments read as they did.
  Conditions: none beyond the statement's own.
-/
import Derived.Test.YtpmghndhapmlnaaPb
import Derived.Test.YtpmghndhapmlnaaKj
namespace Go.Proofs.Ytpmghndhapmlnaa.keysSplitCovers
open Go.ChangeShapes Go.WideShapes Go.ChangeAt Go.RowKit

theorem types : ∀ t ∈ Try.f9.params.toList, Try.prog.readableRec t = true ∧ t < Try.prog.types.size := by
  intro t ht
  rw [show Try.f9.params = #[23, 9, 9] from Try.params9] at ht
  simp only [List.mem_cons, List.not_mem_nil, or_false] at ht
  rcases ht with rfl | rfl | rfl
  all_goals exact ⟨by kernel_rfl, of_decide_eq_true (by kernel_rfl)⟩

theorem contract (H : Type) (enc : TypeId × Value → H) (W : World) (base : Nat) (args : Array Value) (ds gs : List (DataW H)) (before : List MemPlace)
    (hval : ∀ (j : Nat) t v, Try.f9.params[j]? = some t → args[j]? = some v → Value.okWide Try.prog W .any base t v)
    (hW : DataW.Whole enc Try.prog Try.f9.params.toList Rows.keysSplitCoversSpec.vars false W args.toList ds gs before) :
    Calls Try.prog 9 args W fun e W' => ∃ v, e = .returned v ∧ Rows.keysSplitCoversSpec.post enc Try.prog Try.f9 false true false false W args v W' := by
  have hW' := hW
  obtain ⟨p, q, hA0, hV, rfl, hfz, hnd⟩ := hW
  have hA : DataW.TrodAll enc Try.prog W 0 (fun _ => true) true Try.f9.params.toList args.toList ds p := hA0
  rw [Try.params9] at hA hval
  obtain ⟨v0, v1, v2, d0, d1, d2, p0, p1, p2, rfl, rfl, rfl, h0, h1, h2⟩ := trodAll_three hA
  obtain ⟨rfl, rfl⟩ := trodVars_none hV
  obtain ⟨a0, b0, rfl⟩ := open_rng (hval 0 23 v0 rfl rfl) h0
  obtain ⟨l1, rfl⟩ := open_str (hval 1 9 v1 rfl rfl) h1
  obtain ⟨l2, rfl⟩ := open_str (hval 2 9 v2 rfl rfl) h2
  have hc : Calls Try.prog 9 ⟨[RV a0 b0, S l1, S l2]⟩ W fun e W' => e = .returned (.bool true) ∧ Below W.heap.size W W' :=
    Spec.calls fun V _ => keysSplitCovers_spec a0 b0 l1 l2 V
  refine hc.mono fun e W' ⟨he, hg⟩ => ?_
  exact ⟨_, he, law_post rfl (by kernel_rfl) types hW' rfl hg⟩

set_option maxRecDepth 100000 in
theorem lifted (os : Os) (started : os.Started) (H : Type) (enc : TypeId × Value → H) :
    ReturnsInHanded {} Try.checked os 9 .any (Rows.keysSplitCoversSpec.pre6 enc Try.prog Try.f9 Rows.keysSplitCoversRow.domain false) (Rows.keysSplitCoversSpec.post enc Try.prog Try.f9 false true false false) := by
  refine returnsInHanded_of_change (C := Try.checked) own started (by kernel_rfl) Try.func9
    (ChangeSpec.witness6 (enc := enc) (C := Try.checked) false ⟨#[], #[.agg #[.string .empty, .string .empty], .string .empty, .string .empty], []⟩ 8 (by kernel_rfl) (by kernel_rfl) (by kernel_rfl) (by kernel_rfl)) ?_
  intro W base args ds gs before hval hW _ _
  exact contract H enc W base args ds gs before hval hW

theorem proved : Rows.KeysSplitCoversSaid :=
  OpenClaim.holds_of_wide 9 Try.f9 rfl rfl rfl rfl rfl rfl rfl ⟨rfl, rfl, rfl, rfl, rfl⟩ rfl rfl rfl rfl rfl (by kernel_rfl) Try.func9 (by kernel_rfl)
    (of_decide_eq_true (by kernel_rfl)) (by unfold Func.isWrapper; first | (rw [if_pos (by decide +kernel)]; kernel_rfl) | (rw [if_neg (by decide +kernel)]; exact ⟨rfl, rfl⟩))
    (fun os started H enc _ => lifted os started H enc)

end Go.Proofs.Ytpmghndhapmlnaa.keysSplitCovers

theorem Go.Proofs.Ytpmghndhapmlnaa.keysSplitCoversProved : Go.Proofs.Ytpmghndhapmlnaa.Rows.KeysSplitCoversSaid := Go.Proofs.Ytpmghndhapmlnaa.keysSplitCovers.proved
