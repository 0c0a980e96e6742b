/-
  Arguments of this program's laws, opened as data (printed by a program).
  Conditions: none.
-/
import Derived.Test.YtfinjeaoicfdeaaPc
import Derived.Test.YtfinjeaoicfdeaaHc
namespace Go.Proofs.Ytfinjeaoicfdeaa

def okTSpan (s : TSpan) : Prop := (okI .i64) s.Txn ∧ (okI .i64) s.Worker ∧ (okI .i64) s.Start ∧ (okI .i64) s.End
theorem opens_TSpan_31 : Opens Try.prog 31 cTSpan okTSpan := by
  intro H enc W fuel cs d h
  obtain ⟨xs, n, _, _, hl, hxs, hf⟩ := DataW.trod_struct Try.underlying31 h
  rw [show Try.prog.cellsOf 31 = 4 by kernel_rfl] at hl
  obtain ⟨c0, c1, c2, c3, rfl⟩ : ∃ c0 c1 c2 c3, cs = [c0, c1, c2, c3] := by
    match cs, hl with
    | [c0, c1, c2, c3], _ => exact ⟨_, _, _, _, rfl⟩
  obtain ⟨x0, r0, o0⟩ := fieldO (sz := 1) hf hxs 0 rfl (by kernel_rfl) (opens_int Try.underlying3)
  have e0 : [c0] = [.int .i64 (x0)] := r0
  simp only [List.cons.injEq, and_true] at e0
  obtain rfl := e0
  obtain ⟨x1, r1, o1⟩ := fieldO (sz := 1) hf hxs 1 rfl (by kernel_rfl) (opens_int Try.underlying3)
  have e1 : [c1] = [.int .i64 (x1)] := r1
  simp only [List.cons.injEq, and_true] at e1
  obtain rfl := e1
  obtain ⟨x2, r2, o2⟩ := fieldO (sz := 1) hf hxs 2 rfl (by kernel_rfl) (opens_int Try.underlying3)
  have e2 : [c2] = [.int .i64 (x2)] := r2
  simp only [List.cons.injEq, and_true] at e2
  obtain rfl := e2
  obtain ⟨x3, r3, o3⟩ := fieldO (sz := 1) hf hxs 3 rfl (by kernel_rfl) (opens_int Try.underlying3)
  have e3 : [c3] = [.int .i64 (x3)] := r3
  simp only [List.cons.injEq, and_true] at e3
  obtain rfl := e3
  exact ⟨⟨x0, x1, x2, x3⟩, rfl, ⟨o0, o1, o2, o3⟩⟩

def okTFootprint (s : TFootprint) : Prop := (fun _ => True) s.All ∧ (okL okS) s.Reads ∧ (okL okS) s.Writes
theorem opens_TFootprint_46 : Opens Try.prog 46 cTFootprint okTFootprint := by
  intro H enc W fuel cs d h
  obtain ⟨xs, n, _, _, hl, hxs, hf⟩ := DataW.trod_struct Try.underlying46 h
  rw [show Try.prog.cellsOf 46 = 3 by kernel_rfl] at hl
  obtain ⟨c0, c1, c2, rfl⟩ : ∃ c0 c1 c2, cs = [c0, c1, c2] := by
    match cs, hl with
    | [c0, c1, c2], _ => exact ⟨_, _, _, rfl⟩
  obtain ⟨x0, r0, o0⟩ := fieldO (sz := 1) hf hxs 0 rfl (by kernel_rfl) (opens_bool Try.underlying4)
  have e0 : [c0] = [.bool (x0)] := r0
  simp only [List.cons.injEq, and_true] at e0
  obtain rfl := e0
  obtain ⟨x1, r1, o1⟩ := fieldO (sz := 1) hf hxs 1 rfl (by kernel_rfl) (opens_slice Try.underlying44 (by kernel_rfl) (opens_str Try.underlying9))
  obtain ⟨a1, k1, e1, h1⟩ := r1
  replace e1 : [c1] = [.slice a1 ((x1).length) (k1)] := e1
  simp only [List.cons.injEq, and_true] at e1
  obtain rfl := e1
  obtain ⟨x2, r2, o2⟩ := fieldO (sz := 1) hf hxs 2 rfl (by kernel_rfl) (opens_slice Try.underlying44 (by kernel_rfl) (opens_str Try.underlying9))
  obtain ⟨a2, k2, e2, h2⟩ := r2
  replace e2 : [c2] = [.slice a2 ((x2).length) (k2)] := e2
  simp only [List.cons.injEq, and_true] at e2
  obtain rfl := e2
  exact ⟨⟨x0, x1, x2⟩, ⟨_, _, _, _, rfl, h1, h2⟩, ⟨o0, o1, o2⟩⟩

end Go.Proofs.Ytfinjeaoicfdeaa
