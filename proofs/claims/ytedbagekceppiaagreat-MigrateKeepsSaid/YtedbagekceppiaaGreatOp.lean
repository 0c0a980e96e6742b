/-
  Arguments of this program's laws, opened as data (printed by a program).
  Conditions: none.
-/
import Derived.Test.YtedbagekceppiaaGreatMc
import Derived.Test.YtedbagekceppiaaGreatHe
set_option linter.all false
namespace Go.Proofs.YtedbagekceppiaaGreat

def okTPart (s : TPart) : Prop := (okI .i64) s.Id ∧ okS s.From ∧ (okI .i64) s.Node ∧ (okI .i64) s.Dest ∧ okS s.Done
theorem cells_5 {α : Type} {l : List α} (h : l.length = 5) : ∃ c0 c1 c2 c3 c4, l = [c0, c1, c2, c3, c4] := by
  match l, h with
  | [c0, c1, c2, c3, c4], _ => exact ⟨_, _, _, _, _, rfl⟩

theorem opens_TPart_56 : Opens Tryz.prog 56 cTPart okTPart := by
  intro H enc W fuel cs d h
  obtain ⟨xs, n, _, _, hl, hxs, hf⟩ := DataW.trod_struct Tryz.underlying56 h
  rw [show Tryz.prog.cellsOf 56 = 5 by kernel_rfl] at hl
  obtain ⟨c0, c1, c2, c3, c4, rfl⟩ : ∃ c0 c1 c2 c3 c4, cs = [c0, c1, c2, c3, c4] := by
    exact cells_5 hl
  obtain ⟨x0, r0, o0⟩ := fieldO (sz := 1) hf hxs 0 rfl (by kernel_rfl) (opens_int Tryz.underlying3)
  have e0 : [c0] = [.int .i64 (x0)] := r0
  simp only [List.cons.injEq, and_true] at e0
  obtain rfl := e0
  obtain ⟨x1, r1, o1⟩ := fieldO (sz := 1) hf hxs 1 rfl (by kernel_rfl) (opens_str Tryz.underlying9)
  have e1 : [c1] = [.string ⟨⟨x1⟩⟩] := r1
  simp only [List.cons.injEq, and_true] at e1
  obtain rfl := e1
  obtain ⟨x2, r2, o2⟩ := fieldO (sz := 1) hf hxs 2 rfl (by kernel_rfl) (opens_int Tryz.underlying3)
  have e2 : [c2] = [.int .i64 (x2)] := r2
  simp only [List.cons.injEq, and_true] at e2
  obtain rfl := e2
  obtain ⟨x3, r3, o3⟩ := fieldO (sz := 1) hf hxs 3 rfl (by kernel_rfl) (opens_int Tryz.underlying3)
  have e3 : [c3] = [.int .i64 (x3)] := r3
  simp only [List.cons.injEq, and_true] at e3
  obtain rfl := e3
  obtain ⟨x4, r4, o4⟩ := fieldO (sz := 1) hf hxs 4 rfl (by kernel_rfl) (opens_str Tryz.underlying9)
  have e4 : [c4] = [.string ⟨⟨x4⟩⟩] := r4
  simp only [List.cons.injEq, and_true] at e4
  obtain rfl := e4
  exact ⟨⟨x0, x1, x2, x3, x4⟩, rfl, ⟨o0, o1, o2, o3, o4⟩⟩

def okTPlacement (s : TPlacement) : Prop := (okI .i64) s.Version ∧ (okL okTPart) s.Parts
theorem cells_2 {α : Type} {l : List α} (h : l.length = 2) : ∃ c0 c1, l = [c0, c1] := by
  match l, h with
  | [c0, c1], _ => exact ⟨_, _, rfl⟩

theorem opens_TPlacement_24 : Opens Tryz.prog 24 cTPlacement okTPlacement := by
  intro H enc W fuel cs d h
  obtain ⟨xs, n, _, _, hl, hxs, hf⟩ := DataW.trod_struct Tryz.underlying24 h
  rw [show Tryz.prog.cellsOf 24 = 2 by kernel_rfl] at hl
  obtain ⟨c0, c1, rfl⟩ : ∃ c0 c1, cs = [c0, c1] := by
    exact cells_2 hl
  obtain ⟨x0, r0, o0⟩ := fieldO (sz := 1) hf hxs 0 rfl (by kernel_rfl) (opens_int Tryz.underlying2)
  have e0 : [c0] = [.int .i64 (x0)] := r0
  simp only [List.cons.injEq, and_true] at e0
  obtain rfl := e0
  obtain ⟨x1, r1, o1⟩ := fieldO (sz := 1) hf hxs 1 rfl (by kernel_rfl) (opens_slice Tryz.underlying22 (by kernel_rfl) opens_TPart_56)
  obtain ⟨a1, k1, e1, h1⟩ := r1
  replace e1 : [c1] = [.slice a1 ((x1).length) (k1)] := e1
  simp only [List.cons.injEq, and_true] at e1
  obtain rfl := e1
  exact ⟨⟨x0, x1⟩, ⟨_, _, rfl, h1⟩, ⟨o0, o1⟩⟩

def okTValue (s : TValue) : Prop := (okI .i64) s.Kind ∧ (okI .i64) s.N ∧ okS s.S
theorem cells_3 {α : Type} {l : List α} (h : l.length = 3) : ∃ c0 c1 c2, l = [c0, c1, c2] := by
  match l, h with
  | [c0, c1, c2], _ => exact ⟨_, _, _, rfl⟩

theorem opens_TValue_62 : Opens Tryz.prog 62 cTValue okTValue := by
  intro H enc W fuel cs d h
  obtain ⟨xs, n, _, _, hl, hxs, hf⟩ := DataW.trod_struct Tryz.underlying62 h
  rw [show Tryz.prog.cellsOf 62 = 3 by kernel_rfl] at hl
  obtain ⟨c0, c1, c2, rfl⟩ : ∃ c0 c1 c2, cs = [c0, c1, c2] := by
    exact cells_3 hl
  obtain ⟨x0, r0, o0⟩ := fieldO (sz := 1) hf hxs 0 rfl (by kernel_rfl) (opens_int Tryz.underlying3)
  have e0 : [c0] = [.int .i64 (x0)] := r0
  simp only [List.cons.injEq, and_true] at e0
  obtain rfl := e0
  obtain ⟨x1, r1, o1⟩ := fieldO (sz := 1) hf hxs 1 rfl (by kernel_rfl) (opens_int Tryz.underlying2)
  have e1 : [c1] = [.int .i64 (x1)] := r1
  simp only [List.cons.injEq, and_true] at e1
  obtain rfl := e1
  obtain ⟨x2, r2, o2⟩ := fieldO (sz := 1) hf hxs 2 rfl (by kernel_rfl) (opens_str Tryz.underlying9)
  have e2 : [c2] = [.string ⟨⟨x2⟩⟩] := r2
  simp only [List.cons.injEq, and_true] at e2
  obtain rfl := e2
  exact ⟨⟨x0, x1, x2⟩, rfl, ⟨o0, o1, o2⟩⟩

def okTPair (s : TPair) : Prop := okS s.Key ∧ okTValue s.Val
theorem cells_4 {α : Type} {l : List α} (h : l.length = 4) : ∃ c0 c1 c2 c3, l = [c0, c1, c2, c3] := by
  match l, h with
  | [c0, c1, c2, c3], _ => exact ⟨_, _, _, _, rfl⟩

theorem opens_TPair_64 : Opens Tryz.prog 64 cTPair okTPair := by
  intro H enc W fuel cs d h
  obtain ⟨xs, n, _, _, hl, hxs, hf⟩ := DataW.trod_struct Tryz.underlying64 h
  rw [show Tryz.prog.cellsOf 64 = 4 by kernel_rfl] at hl
  obtain ⟨c0, c1, c2, c3, rfl⟩ : ∃ c0 c1 c2 c3, cs = [c0, c1, c2, c3] := by
    exact cells_4 hl
  obtain ⟨x0, r0, o0⟩ := fieldO (sz := 1) hf hxs 0 rfl (by kernel_rfl) (opens_str Tryz.underlying9)
  have e0 : [c0] = [.string ⟨⟨x0⟩⟩] := r0
  simp only [List.cons.injEq, and_true] at e0
  obtain rfl := e0
  obtain ⟨x1, r1, o1⟩ := fieldO (sz := 3) hf hxs 1 rfl (by kernel_rfl) opens_TValue_62
  have e1 : [c1, c2, c3] = [.int .i64 (x1.Kind), .int .i64 (x1.N), .string ⟨⟨x1.S⟩⟩] := r1
  simp only [List.cons.injEq, and_true] at e1
  obtain ⟨rfl, rfl, rfl⟩ := e1
  exact ⟨⟨x0, x1⟩, rfl, ⟨o0, o1⟩⟩

def okTShard (s : TShard) : Prop := (okI .i64) s.Node ∧ (okL okTPair) s.Pairs
theorem opens_TShard_60 : Opens Tryz.prog 60 cTShard okTShard := by
  intro H enc W fuel cs d h
  obtain ⟨xs, n, _, _, hl, hxs, hf⟩ := DataW.trod_struct Tryz.underlying60 h
  rw [show Tryz.prog.cellsOf 60 = 2 by kernel_rfl] at hl
  obtain ⟨c0, c1, rfl⟩ : ∃ c0 c1, cs = [c0, c1] := by
    exact cells_2 hl
  obtain ⟨x0, r0, o0⟩ := fieldO (sz := 1) hf hxs 0 rfl (by kernel_rfl) (opens_int Tryz.underlying3)
  have e0 : [c0] = [.int .i64 (x0)] := r0
  simp only [List.cons.injEq, and_true] at e0
  obtain rfl := e0
  obtain ⟨x1, r1, o1⟩ := fieldO (sz := 1) hf hxs 1 rfl (by kernel_rfl) (opens_slice Tryz.underlying32 (by kernel_rfl) opens_TPair_64)
  obtain ⟨a1, k1, e1, h1⟩ := r1
  replace e1 : [c1] = [.slice a1 ((x1).length) (k1)] := e1
  simp only [List.cons.injEq, and_true] at e1
  obtain rfl := e1
  exact ⟨⟨x0, x1⟩, ⟨_, _, rfl, h1⟩, ⟨o0, o1⟩⟩

def okTStep (s : TStep) : Prop := (okI .i64) s.Id ∧ (okI .i64) s.N
theorem opens_TStep_27 : Opens Tryz.prog 27 cTStep okTStep := by
  intro H enc W fuel cs d h
  obtain ⟨xs, n, _, _, hl, hxs, hf⟩ := DataW.trod_struct Tryz.underlying27 h
  rw [show Tryz.prog.cellsOf 27 = 2 by kernel_rfl] at hl
  obtain ⟨c0, c1, rfl⟩ : ∃ c0 c1, cs = [c0, c1] := by
    exact cells_2 hl
  obtain ⟨x0, r0, o0⟩ := fieldO (sz := 1) hf hxs 0 rfl (by kernel_rfl) (opens_int Tryz.underlying3)
  have e0 : [c0] = [.int .i64 (x0)] := r0
  simp only [List.cons.injEq, and_true] at e0
  obtain rfl := e0
  obtain ⟨x1, r1, o1⟩ := fieldO (sz := 1) hf hxs 1 rfl (by kernel_rfl) (opens_int Tryz.underlying3)
  have e1 : [c1] = [.int .i64 (x1)] := r1
  simp only [List.cons.injEq, and_true] at e1
  obtain rfl := e1
  exact ⟨⟨x0, x1⟩, rfl, ⟨o0, o1⟩⟩

def okTMove (s : TMove) : Prop := okTPlacement s.P ∧ (okI .i64) s.Id ∧ (okI .i64) s.Node ∧ (okL (okI .i64)) s.Sizes
theorem opens_TMove_47 : Opens Tryz.prog 47 cTMove okTMove := by
  intro H enc W fuel cs d h
  obtain ⟨xs, n, _, _, hl, hxs, hf⟩ := DataW.trod_struct Tryz.underlying47 h
  rw [show Tryz.prog.cellsOf 47 = 5 by kernel_rfl] at hl
  obtain ⟨c0, c1, c2, c3, c4, rfl⟩ : ∃ c0 c1 c2 c3 c4, cs = [c0, c1, c2, c3, c4] := by
    exact cells_5 hl
  obtain ⟨x0, r0, o0⟩ := fieldO (sz := 2) hf hxs 0 rfl (by kernel_rfl) opens_TPlacement_24
  obtain ⟨a1, k1, e0, h1⟩ := r0
  replace e0 : [c0, c1] = [.int .i64 (x0.Version), .slice a1 ((x0.Parts).length) (k1)] := e0
  simp only [List.cons.injEq, and_true] at e0
  obtain ⟨rfl, rfl⟩ := e0
  obtain ⟨x1, r1, o1⟩ := fieldO (sz := 1) hf hxs 1 rfl (by kernel_rfl) (opens_int Tryz.underlying3)
  have e1 : [c2] = [.int .i64 (x1)] := r1
  simp only [List.cons.injEq, and_true] at e1
  obtain rfl := e1
  obtain ⟨x2, r2, o2⟩ := fieldO (sz := 1) hf hxs 2 rfl (by kernel_rfl) (opens_int Tryz.underlying3)
  have e2 : [c3] = [.int .i64 (x2)] := r2
  simp only [List.cons.injEq, and_true] at e2
  obtain rfl := e2
  obtain ⟨x3, r3, o3⟩ := fieldO (sz := 1) hf hxs 3 rfl (by kernel_rfl) (opens_slice Tryz.underlying45 (by kernel_rfl) (opens_int Tryz.underlying3))
  obtain ⟨a2, k2, e3, h2⟩ := r3
  replace e3 : [c4] = [.slice a2 ((x3).length) (k2)] := e3
  simp only [List.cons.injEq, and_true] at e3
  obtain rfl := e3
  exact ⟨⟨x0, x1, x2, x3⟩, ⟨_, _, _, _, rfl, h1, h2⟩, ⟨o0, o1, o2, o3⟩⟩

end Go.Proofs.YtedbagekceppiaaGreat
