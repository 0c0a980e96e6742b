/-
  CHAPTER 29, PLAIN: the laws on Valid, on the reading functions and on Split and Merge (part m).
  Conditions: none.
-/
import Derived.Test.YtdkakeiccefbgaaOp
import Derived.Test.YtdkakeiccefbgaaDl
set_option linter.all false
namespace Go.Proofs.Ytdkakeiccefbgaa
open Go.ChangeShapes

theorem okP_facts {p : TPlacement} (h : okTPlacement p) : p.Parts.length < big ∧ ∀ x ∈ p.Parts, x.From.length < big ∧ x.Done.length < big := by
  obtain ⟨_, h1, h2⟩ := h
  have e : big = 9223372036854775808 := rfl
  refine ⟨by rw [e]; omega, fun x hx => ?_⟩
  obtain ⟨_, h3, _, _, h4⟩ := h2 x hx
  have h3 : x.From.length ≤ 9223372036854775807 := h3
  have h4 : x.Done.length ≤ 9223372036854775807 := h4
  rw [e]
  omega

def exM : TPlacement := ⟨0, [⟨1, [], 1, 2, [103]⟩]⟩
def exQ : TPlacement := ⟨1, [⟨1, [], 1, 0, []⟩, ⟨2, [109], 1, 0, []⟩]⟩
def exP : TPlacement := ⟨0, [⟨1, [], 1, 0, []⟩]⟩
theorem w1 : F_placement_New 1 = some (exP, 0) := by rw [new_impl]; rfl
theorem w2 : F_placement_Split exP 1 [109] 2 = some (exQ, 0) := by
  rw [split_impl (by decide) (by simp [exP, big]) (by decide)]; kernel_rfl
theorem w3 : F_placement_Range exQ 1 = some (⟨[], [109]⟩, 0) := by
  rw [range_impl (by decide) (by simp [exQ, big])]; kernel_rfl
theorem w4 : F_placement_Split exM 1 [107] 2 = some (⟨0, []⟩, 19) := by
  rw [split_impl (by decide) (by simp [exM, big]) (by decide)]; kernel_rfl
theorem w5 : F_placement_Merge exQ 1 = some (⟨2, [⟨1, [], 1, 0, []⟩]⟩, 0) := by
  rw [merge_impl (by decide) (by simp [exQ, big])]; kernel_rfl
theorem w6 : F_placement_Valid exQ = some true := by
  rw [valid29_impl (by decide) (by simp [exQ, big])]; kernel_rfl
theorem w7 : F_placement_Index exQ [109] = some 1 := by
  rw [index_impl (by decide) (by simp [exQ, big]) (by simp [exQ, big])]; kernel_rfl
theorem w8 : F_placement_Index exQ [108, 122] = some 0 := by
  rw [index_impl (by decide) (by simp [exQ, big]) (by simp [exQ, big])]; kernel_rfl
theorem w9 : F_placement_Owner exM [102] = some 2 := by
  rw [owner_impl (by decide) (by simp [exM, big]) (by simp [exM, big])]; kernel_rfl
theorem w10 : F_placement_Owner exM [103] = some 1 := by
  rw [owner_impl (by decide) (by simp [exM, big]) (by simp [exM, big])]; kernel_rfl
theorem w11 : F_placement_Nodes exM = some [1, 2] := by
  rw [nodes_impl (by decide) (by simp [exM, big]), nodes_eq]; kernel_rfl
theorem works_true : F_clockworklaw29_works = some true := by
  have h1 := w1; have h2 := w2; have h3 := w3; have h4 := w4; have h5 := w5; have h6 := w6; have h7 := w7; have h8 := w8; have h9 := w9; have h10 := w10; have h11 := w11
  have h12 : F_clockworkref23_Ints [1, 2] [1, 2] = some true := ints_self (by decide)
  unfold exM at h4 h9 h10 h11
  unfold F_clockworklaw29_works
  simp only [h1, bnd_mk, h2, h3, h4, h5, h6]
  simp only [bne_self_eq_false, Bool.or_self, cond_false, BEq.rfl, gcall_t, h7, bnd_mk, h8, h9, h10, h11, h12, Bool.and_self, List.length_cons, List.length_nil]
  rfl

theorem small_of {p : TPlacement} (h : fewB29 p = true) : ∀ x ∈ p.Parts, x.From.length ≤ 1000 := (few29_facts h).2.2

theorem newP_len (n : Int) : (newP n).1.Parts.length ≤ 1 ∧ ∀ x ∈ (newP n).1.Parts, x.From.length < big ∧ x.Done.length < big := by
  unfold newP
  split <;> simp

theorem ints_nodes (p : TPlacement) : F_clockworkref23_Ints (nodesImplP p) (nodesRefP p) = some true := by
  rw [nodes_eq]
  exact ints_self (by have := nodesRef_len p; have e : big = 9223372036854775808 := rfl; omega)

end Go.Proofs.Ytdkakeiccefbgaa
