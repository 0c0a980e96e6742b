/-
  Arguments of this program's laws, opened as data (printed by a program).
  Conditions: none.
-/
import Derived.Test.YtedbagekceppiaaMc
import Derived.Test.YtedbagekceppiaaHe
set_option linter.all false
namespace Go.Proofs.Ytedbagekceppiaa

def okTPart (s : TPart) : Prop := (okI .i64) s.Id ∧ okS s.From ∧ (okI .i64) s.Node ∧ (okI .i64) s.Dest ∧ okS s.Done
theorem cells_5 {α : Type} {l : List α} (h : l.length = 5) : ∃ c0 c1 c2 c3 c4, l = [c0, c1, c2, c3, c4] := by
  match l, h with
  | [c0, c1, c2, c3, c4], _ => exact ⟨_, _, _, _, _, rfl⟩

theorem opens_TPart_62 : Opens Try.prog 62 cTPart okTPart := by
  intro H enc W fuel cs d h
  obtain ⟨xs, n, _, _, hl, hxs, hf⟩ := DataW.trod_struct Try.underlying62 h
  rw [show Try.prog.cellsOf 62 = 5 by kernel_rfl] at hl
  obtain ⟨c0, c1, c2, c3, c4, rfl⟩ : ∃ c0 c1 c2 c3 c4, cs = [c0, c1, c2, c3, c4] := by
    exact cells_5 hl
  obtain ⟨x0, r0, o0⟩ := fieldO (sz := 1) hf hxs 0 rfl (by kernel_rfl) (opens_int Try.underlying3)
  have e0 : [c0] = [.int .i64 (x0)] := r0
  simp only [List.cons.injEq, and_true] at e0
  obtain rfl := e0
  obtain ⟨x1, r1, o1⟩ := fieldO (sz := 1) hf hxs 1 rfl (by kernel_rfl) (opens_str Try.underlying9)
  have e1 : [c1] = [.string ⟨⟨x1⟩⟩] := r1
  simp only [List.cons.injEq, and_true] at e1
  obtain rfl := e1
  obtain ⟨x2, r2, o2⟩ := fieldO (sz := 1) hf hxs 2 rfl (by kernel_rfl) (opens_int Try.underlying3)
  have e2 : [c2] = [.int .i64 (x2)] := r2
  simp only [List.cons.injEq, and_true] at e2
  obtain rfl := e2
  obtain ⟨x3, r3, o3⟩ := fieldO (sz := 1) hf hxs 3 rfl (by kernel_rfl) (opens_int Try.underlying3)
  have e3 : [c3] = [.int .i64 (x3)] := r3
  simp only [List.cons.injEq, and_true] at e3
  obtain rfl := e3
  obtain ⟨x4, r4, o4⟩ := fieldO (sz := 1) hf hxs 4 rfl (by kernel_rfl) (opens_str Try.underlying9)
  have e4 : [c4] = [.string ⟨⟨x4⟩⟩] := r4
  simp only [List.cons.injEq, and_true] at e4
  obtain rfl := e4
  exact ⟨⟨x0, x1, x2, x3, x4⟩, rfl, ⟨o0, o1, o2, o3, o4⟩⟩

def okTPlacement (s : TPlacement) : Prop := (okI .i64) s.Version ∧ (okL okTPart) s.Parts
theorem cells_2 {α : Type} {l : List α} (h : l.length = 2) : ∃ c0 c1, l = [c0, c1] := by
  match l, h with
  | [c0, c1], _ => exact ⟨_, _, rfl⟩

theorem opens_TPlacement_24 : Opens Try.prog 24 cTPlacement okTPlacement := by
  intro H enc W fuel cs d h
  obtain ⟨xs, n, _, _, hl, hxs, hf⟩ := DataW.trod_struct Try.underlying24 h
  rw [show Try.prog.cellsOf 24 = 2 by kernel_rfl] at hl
  obtain ⟨c0, c1, rfl⟩ : ∃ c0 c1, cs = [c0, c1] := by
    exact cells_2 hl
  obtain ⟨x0, r0, o0⟩ := fieldO (sz := 1) hf hxs 0 rfl (by kernel_rfl) (opens_int Try.underlying2)
  have e0 : [c0] = [.int .i64 (x0)] := r0
  simp only [List.cons.injEq, and_true] at e0
  obtain rfl := e0
  obtain ⟨x1, r1, o1⟩ := fieldO (sz := 1) hf hxs 1 rfl (by kernel_rfl) (opens_slice Try.underlying22 (by kernel_rfl) opens_TPart_62)
  obtain ⟨a1, k1, e1, h1⟩ := r1
  replace e1 : [c1] = [.slice a1 ((x1).length) (k1)] := e1
  simp only [List.cons.injEq, and_true] at e1
  obtain rfl := e1
  exact ⟨⟨x0, x1⟩, ⟨_, _, rfl, h1⟩, ⟨o0, o1⟩⟩

def okTValue (s : TValue) : Prop := (okI .i64) s.Kind ∧ (okI .i64) s.N ∧ okS s.S
theorem cells_3 {α : Type} {l : List α} (h : l.length = 3) : ∃ c0 c1 c2, l = [c0, c1, c2] := by
  match l, h with
  | [c0, c1, c2], _ => exact ⟨_, _, _, rfl⟩

theorem opens_TValue_66 : Opens Try.prog 66 cTValue okTValue := by
  intro H enc W fuel cs d h
  obtain ⟨xs, n, _, _, hl, hxs, hf⟩ := DataW.trod_struct Try.underlying66 h
  rw [show Try.prog.cellsOf 66 = 3 by kernel_rfl] at hl
  obtain ⟨c0, c1, c2, rfl⟩ : ∃ c0 c1 c2, cs = [c0, c1, c2] := by
    exact cells_3 hl
  obtain ⟨x0, r0, o0⟩ := fieldO (sz := 1) hf hxs 0 rfl (by kernel_rfl) (opens_int Try.underlying3)
  have e0 : [c0] = [.int .i64 (x0)] := r0
  simp only [List.cons.injEq, and_true] at e0
  obtain rfl := e0
  obtain ⟨x1, r1, o1⟩ := fieldO (sz := 1) hf hxs 1 rfl (by kernel_rfl) (opens_int Try.underlying2)
  have e1 : [c1] = [.int .i64 (x1)] := r1
  simp only [List.cons.injEq, and_true] at e1
  obtain rfl := e1
  obtain ⟨x2, r2, o2⟩ := fieldO (sz := 1) hf hxs 2 rfl (by kernel_rfl) (opens_str Try.underlying9)
  have e2 : [c2] = [.string ⟨⟨x2⟩⟩] := r2
  simp only [List.cons.injEq, and_true] at e2
  obtain rfl := e2
  exact ⟨⟨x0, x1, x2⟩, rfl, ⟨o0, o1, o2⟩⟩

def okTPair (s : TPair) : Prop := okS s.Key ∧ okTValue s.Val
theorem cells_4 {α : Type} {l : List α} (h : l.length = 4) : ∃ c0 c1 c2 c3, l = [c0, c1, c2, c3] := by
  match l, h with
  | [c0, c1, c2, c3], _ => exact ⟨_, _, _, _, rfl⟩

theorem opens_TPair_68 : Opens Try.prog 68 cTPair okTPair := by
  intro H enc W fuel cs d h
  obtain ⟨xs, n, _, _, hl, hxs, hf⟩ := DataW.trod_struct Try.underlying68 h
  rw [show Try.prog.cellsOf 68 = 4 by kernel_rfl] at hl
  obtain ⟨c0, c1, c2, c3, rfl⟩ : ∃ c0 c1 c2 c3, cs = [c0, c1, c2, c3] := by
    exact cells_4 hl
  obtain ⟨x0, r0, o0⟩ := fieldO (sz := 1) hf hxs 0 rfl (by kernel_rfl) (opens_str Try.underlying9)
  have e0 : [c0] = [.string ⟨⟨x0⟩⟩] := r0
  simp only [List.cons.injEq, and_true] at e0
  obtain rfl := e0
  obtain ⟨x1, r1, o1⟩ := fieldO (sz := 3) hf hxs 1 rfl (by kernel_rfl) opens_TValue_66
  have e1 : [c1, c2, c3] = [.int .i64 (x1.Kind), .int .i64 (x1.N), .string ⟨⟨x1.S⟩⟩] := r1
  simp only [List.cons.injEq, and_true] at e1
  obtain ⟨rfl, rfl, rfl⟩ := e1
  exact ⟨⟨x0, x1⟩, rfl, ⟨o0, o1⟩⟩

def okTShard (s : TShard) : Prop := (okI .i64) s.Node ∧ (okL okTPair) s.Pairs
theorem opens_TShard_37 : Opens Try.prog 37 cTShard okTShard := by
  intro H enc W fuel cs d h
  obtain ⟨xs, n, _, _, hl, hxs, hf⟩ := DataW.trod_struct Try.underlying37 h
  rw [show Try.prog.cellsOf 37 = 2 by kernel_rfl] at hl
  obtain ⟨c0, c1, rfl⟩ : ∃ c0 c1, cs = [c0, c1] := by
    exact cells_2 hl
  obtain ⟨x0, r0, o0⟩ := fieldO (sz := 1) hf hxs 0 rfl (by kernel_rfl) (opens_int Try.underlying3)
  have e0 : [c0] = [.int .i64 (x0)] := r0
  simp only [List.cons.injEq, and_true] at e0
  obtain rfl := e0
  obtain ⟨x1, r1, o1⟩ := fieldO (sz := 1) hf hxs 1 rfl (by kernel_rfl) (opens_slice Try.underlying35 (by kernel_rfl) opens_TPair_68)
  obtain ⟨a1, k1, e1, h1⟩ := r1
  replace e1 : [c1] = [.slice a1 ((x1).length) (k1)] := e1
  simp only [List.cons.injEq, and_true] at e1
  obtain rfl := e1
  exact ⟨⟨x0, x1⟩, ⟨_, _, rfl, h1⟩, ⟨o0, o1⟩⟩

def okTRange (s : TRange) : Prop := okS s.From ∧ okS s.To
theorem opens_TRange_39 : Opens Try.prog 39 cTRange okTRange := by
  intro H enc W fuel cs d h
  obtain ⟨xs, n, _, _, hl, hxs, hf⟩ := DataW.trod_struct Try.underlying39 h
  rw [show Try.prog.cellsOf 39 = 2 by kernel_rfl] at hl
  obtain ⟨c0, c1, rfl⟩ : ∃ c0 c1, cs = [c0, c1] := by
    exact cells_2 hl
  obtain ⟨x0, r0, o0⟩ := fieldO (sz := 1) hf hxs 0 rfl (by kernel_rfl) (opens_str Try.underlying9)
  have e0 : [c0] = [.string ⟨⟨x0⟩⟩] := r0
  simp only [List.cons.injEq, and_true] at e0
  obtain rfl := e0
  obtain ⟨x1, r1, o1⟩ := fieldO (sz := 1) hf hxs 1 rfl (by kernel_rfl) (opens_str Try.underlying9)
  have e1 : [c1] = [.string ⟨⟨x1⟩⟩] := r1
  simp only [List.cons.injEq, and_true] at e1
  obtain rfl := e1
  exact ⟨⟨x0, x1⟩, rfl, ⟨o0, o1⟩⟩

def okTChunk (s : TChunk) : Prop := (okI .i64) s.Part ∧ (okI .i64) s.From ∧ (okI .i64) s.To ∧ okTRange s.Keys ∧ (okL okTPair) s.Pairs ∧ (fun _ => True) s.Last
theorem cells_7 {α : Type} {l : List α} (h : l.length = 7) : ∃ c0 c1 c2 c3 c4 c5 c6, l = [c0, c1, c2, c3, c4, c5, c6] := by
  match l, h with
  | [c0, c1, c2, c3, c4, c5, c6], _ => exact ⟨_, _, _, _, _, _, _, rfl⟩

theorem opens_TChunk_41 : Opens Try.prog 41 cTChunk okTChunk := by
  intro H enc W fuel cs d h
  obtain ⟨xs, n, _, _, hl, hxs, hf⟩ := DataW.trod_struct Try.underlying41 h
  rw [show Try.prog.cellsOf 41 = 7 by kernel_rfl] at hl
  obtain ⟨c0, c1, c2, c3, c4, c5, c6, rfl⟩ : ∃ c0 c1 c2 c3 c4 c5 c6, cs = [c0, c1, c2, c3, c4, c5, c6] := by
    exact cells_7 hl
  obtain ⟨x0, r0, o0⟩ := fieldO (sz := 1) hf hxs 0 rfl (by kernel_rfl) (opens_int Try.underlying3)
  have e0 : [c0] = [.int .i64 (x0)] := r0
  simp only [List.cons.injEq, and_true] at e0
  obtain rfl := e0
  obtain ⟨x1, r1, o1⟩ := fieldO (sz := 1) hf hxs 1 rfl (by kernel_rfl) (opens_int Try.underlying3)
  have e1 : [c1] = [.int .i64 (x1)] := r1
  simp only [List.cons.injEq, and_true] at e1
  obtain rfl := e1
  obtain ⟨x2, r2, o2⟩ := fieldO (sz := 1) hf hxs 2 rfl (by kernel_rfl) (opens_int Try.underlying3)
  have e2 : [c2] = [.int .i64 (x2)] := r2
  simp only [List.cons.injEq, and_true] at e2
  obtain rfl := e2
  obtain ⟨x3, r3, o3⟩ := fieldO (sz := 2) hf hxs 3 rfl (by kernel_rfl) opens_TRange_39
  have e3 : [c3, c4] = [.string ⟨⟨x3.From⟩⟩, .string ⟨⟨x3.To⟩⟩] := r3
  simp only [List.cons.injEq, and_true] at e3
  obtain ⟨rfl, rfl⟩ := e3
  obtain ⟨x4, r4, o4⟩ := fieldO (sz := 1) hf hxs 4 rfl (by kernel_rfl) (opens_slice Try.underlying35 (by kernel_rfl) opens_TPair_68)
  obtain ⟨a1, k1, e4, h1⟩ := r4
  replace e4 : [c5] = [.slice a1 ((x4).length) (k1)] := e4
  simp only [List.cons.injEq, and_true] at e4
  obtain rfl := e4
  obtain ⟨x5, r5, o5⟩ := fieldO (sz := 1) hf hxs 5 rfl (by kernel_rfl) (opens_bool Try.underlying4)
  have e5 : [c6] = [.bool (x5)] := r5
  simp only [List.cons.injEq, and_true] at e5
  obtain rfl := e5
  exact ⟨⟨x0, x1, x2, x3, x4, x5⟩, ⟨_, _, rfl, h1⟩, ⟨o0, o1, o2, o3, o4, o5⟩⟩

def okTMove (s : TMove) : Prop := okTPlacement s.P ∧ (okI .i64) s.Id ∧ (okI .i64) s.Node ∧ (okL (okI .i64)) s.Sizes
theorem opens_TMove_48 : Opens Try.prog 48 cTMove okTMove := by
  intro H enc W fuel cs d h
  obtain ⟨xs, n, _, _, hl, hxs, hf⟩ := DataW.trod_struct Try.underlying48 h
  rw [show Try.prog.cellsOf 48 = 5 by kernel_rfl] at hl
  obtain ⟨c0, c1, c2, c3, c4, rfl⟩ : ∃ c0 c1 c2 c3 c4, cs = [c0, c1, c2, c3, c4] := by
    exact cells_5 hl
  obtain ⟨x0, r0, o0⟩ := fieldO (sz := 2) hf hxs 0 rfl (by kernel_rfl) opens_TPlacement_24
  obtain ⟨a1, k1, e0, h1⟩ := r0
  replace e0 : [c0, c1] = [.int .i64 (x0.Version), .slice a1 ((x0.Parts).length) (k1)] := e0
  simp only [List.cons.injEq, and_true] at e0
  obtain ⟨rfl, rfl⟩ := e0
  obtain ⟨x1, r1, o1⟩ := fieldO (sz := 1) hf hxs 1 rfl (by kernel_rfl) (opens_int Try.underlying3)
  have e1 : [c2] = [.int .i64 (x1)] := r1
  simp only [List.cons.injEq, and_true] at e1
  obtain rfl := e1
  obtain ⟨x2, r2, o2⟩ := fieldO (sz := 1) hf hxs 2 rfl (by kernel_rfl) (opens_int Try.underlying3)
  have e2 : [c3] = [.int .i64 (x2)] := r2
  simp only [List.cons.injEq, and_true] at e2
  obtain rfl := e2
  obtain ⟨x3, r3, o3⟩ := fieldO (sz := 1) hf hxs 3 rfl (by kernel_rfl) (opens_slice Try.underlying32 (by kernel_rfl) (opens_int Try.underlying3))
  obtain ⟨a2, k2, e3, h2⟩ := r3
  replace e3 : [c4] = [.slice a2 ((x3).length) (k2)] := e3
  simp only [List.cons.injEq, and_true] at e3
  obtain rfl := e3
  exact ⟨⟨x0, x1, x2, x3⟩, ⟨_, _, _, _, rfl, h1, h2⟩, ⟨o0, o1, o2, o3⟩⟩

end Go.Proofs.Ytedbagekceppiaa
