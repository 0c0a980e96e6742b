/-
  Arguments of this program's laws, opened as data (printed by a program).
  Conditions: none.
-/
import Derived.Test.YtdkakeiccefbgaaMc
import Derived.Test.YtdkakeiccefbgaaHc
set_option linter.all false
namespace Go.Proofs.Ytdkakeiccefbgaa

def okTPart (s : TPart) : Prop := (okI .i64) s.Id ∧ okS s.From ∧ (okI .i64) s.Node ∧ (okI .i64) s.Dest ∧ okS s.Done
theorem cells_5 {α : Type} {l : List α} (h : l.length = 5) : ∃ c0 c1 c2 c3 c4, l = [c0, c1, c2, c3, c4] := by
  match l, h with
  | [c0, c1, c2, c3, c4], _ => exact ⟨_, _, _, _, _, rfl⟩

theorem opens_TPart_49 : Opens Try.prog 49 cTPart okTPart := by
  intro H enc W fuel cs d h
  obtain ⟨xs, n, _, _, hl, hxs, hf⟩ := DataW.trod_struct Try.underlying49 h
  rw [show Try.prog.cellsOf 49 = 5 by kernel_rfl] at hl
  obtain ⟨c0, c1, c2, c3, c4, rfl⟩ : ∃ c0 c1 c2 c3 c4, cs = [c0, c1, c2, c3, c4] := by
    exact cells_5 hl
  obtain ⟨x0, r0, o0⟩ := fieldO (sz := 1) hf hxs 0 rfl (by kernel_rfl) (opens_int Try.underlying3)
  have e0 : [c0] = [.int .i64 (x0)] := r0
  simp only [List.cons.injEq, and_true] at e0
  obtain rfl := e0
  obtain ⟨x1, r1, o1⟩ := fieldO (sz := 1) hf hxs 1 rfl (by kernel_rfl) (opens_str Try.underlying9)
  have e1 : [c1] = [.string ⟨⟨x1⟩⟩] := r1
  simp only [List.cons.injEq, and_true] at e1
  obtain rfl := e1
  obtain ⟨x2, r2, o2⟩ := fieldO (sz := 1) hf hxs 2 rfl (by kernel_rfl) (opens_int Try.underlying3)
  have e2 : [c2] = [.int .i64 (x2)] := r2
  simp only [List.cons.injEq, and_true] at e2
  obtain rfl := e2
  obtain ⟨x3, r3, o3⟩ := fieldO (sz := 1) hf hxs 3 rfl (by kernel_rfl) (opens_int Try.underlying3)
  have e3 : [c3] = [.int .i64 (x3)] := r3
  simp only [List.cons.injEq, and_true] at e3
  obtain rfl := e3
  obtain ⟨x4, r4, o4⟩ := fieldO (sz := 1) hf hxs 4 rfl (by kernel_rfl) (opens_str Try.underlying9)
  have e4 : [c4] = [.string ⟨⟨x4⟩⟩] := r4
  simp only [List.cons.injEq, and_true] at e4
  obtain rfl := e4
  exact ⟨⟨x0, x1, x2, x3, x4⟩, rfl, ⟨o0, o1, o2, o3, o4⟩⟩

def okTPlacement (s : TPlacement) : Prop := (okI .i64) s.Version ∧ (okL okTPart) s.Parts
theorem cells_2 {α : Type} {l : List α} (h : l.length = 2) : ∃ c0 c1, l = [c0, c1] := by
  match l, h with
  | [c0, c1], _ => exact ⟨_, _, rfl⟩

theorem opens_TPlacement_24 : Opens Try.prog 24 cTPlacement okTPlacement := by
  intro H enc W fuel cs d h
  obtain ⟨xs, n, _, _, hl, hxs, hf⟩ := DataW.trod_struct Try.underlying24 h
  rw [show Try.prog.cellsOf 24 = 2 by kernel_rfl] at hl
  obtain ⟨c0, c1, rfl⟩ : ∃ c0 c1, cs = [c0, c1] := by
    exact cells_2 hl
  obtain ⟨x0, r0, o0⟩ := fieldO (sz := 1) hf hxs 0 rfl (by kernel_rfl) (opens_int Try.underlying2)
  have e0 : [c0] = [.int .i64 (x0)] := r0
  simp only [List.cons.injEq, and_true] at e0
  obtain rfl := e0
  obtain ⟨x1, r1, o1⟩ := fieldO (sz := 1) hf hxs 1 rfl (by kernel_rfl) (opens_slice Try.underlying22 (by kernel_rfl) opens_TPart_49)
  obtain ⟨a1, k1, e1, h1⟩ := r1
  replace e1 : [c1] = [.slice a1 ((x1).length) (k1)] := e1
  simp only [List.cons.injEq, and_true] at e1
  obtain rfl := e1
  exact ⟨⟨x0, x1⟩, ⟨_, _, rfl, h1⟩, ⟨o0, o1⟩⟩

end Go.Proofs.Ytdkakeiccefbgaa
