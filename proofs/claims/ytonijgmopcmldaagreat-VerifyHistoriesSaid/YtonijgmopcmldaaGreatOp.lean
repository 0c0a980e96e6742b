/-
  Arguments of this program's laws, opened as data (printed by a program).
  Conditions: none.
-/
import Derived.Test.YtonijgmopcmldaaGreatMc
import Derived.Test.YtonijgmopcmldaaGreatHf
set_option linter.all false
namespace Go.Proofs.YtonijgmopcmldaaGreat

def okTValue (s : TValue) : Prop := (okI .i64) s.Kind ∧ (okI .i64) s.N ∧ okS s.S
theorem cells_3 {α : Type} {l : List α} (h : l.length = 3) : ∃ c0 c1 c2, l = [c0, c1, c2] := by
  match l, h with
  | [c0, c1, c2], _ => exact ⟨_, _, _, rfl⟩

theorem opens_TValue_53 : Opens Tryz.prog 53 cTValue okTValue := by
  intro H enc W fuel cs d h
  obtain ⟨xs, n, _, _, hl, hxs, hf⟩ := DataW.trod_struct Tryz.underlying53 h
  rw [show Tryz.prog.cellsOf 53 = 3 by kernel_rfl] at hl
  obtain ⟨c0, c1, c2, rfl⟩ : ∃ c0 c1 c2, cs = [c0, c1, c2] := by
    exact cells_3 hl
  obtain ⟨x0, r0, o0⟩ := fieldO (sz := 1) hf hxs 0 rfl (by kernel_rfl) (opens_int Tryz.underlying3)
  have e0 : [c0] = [.int .i64 (x0)] := r0
  simp only [List.cons.injEq, and_true] at e0
  obtain rfl := e0
  obtain ⟨x1, r1, o1⟩ := fieldO (sz := 1) hf hxs 1 rfl (by kernel_rfl) (opens_int Tryz.underlying2)
  have e1 : [c1] = [.int .i64 (x1)] := r1
  simp only [List.cons.injEq, and_true] at e1
  obtain rfl := e1
  obtain ⟨x2, r2, o2⟩ := fieldO (sz := 1) hf hxs 2 rfl (by kernel_rfl) (opens_str Tryz.underlying9)
  have e2 : [c2] = [.string ⟨⟨x2⟩⟩] := r2
  simp only [List.cons.injEq, and_true] at e2
  obtain rfl := e2
  exact ⟨⟨x0, x1, x2⟩, rfl, ⟨o0, o1, o2⟩⟩

def okTPair (s : TPair) : Prop := okS s.Key ∧ okTValue s.Val
theorem cells_4 {α : Type} {l : List α} (h : l.length = 4) : ∃ c0 c1 c2 c3, l = [c0, c1, c2, c3] := by
  match l, h with
  | [c0, c1, c2, c3], _ => exact ⟨_, _, _, _, rfl⟩

theorem opens_TPair_55 : Opens Tryz.prog 55 cTPair okTPair := by
  intro H enc W fuel cs d h
  obtain ⟨xs, n, _, _, hl, hxs, hf⟩ := DataW.trod_struct Tryz.underlying55 h
  rw [show Tryz.prog.cellsOf 55 = 4 by kernel_rfl] at hl
  obtain ⟨c0, c1, c2, c3, rfl⟩ : ∃ c0 c1 c2 c3, cs = [c0, c1, c2, c3] := by
    exact cells_4 hl
  obtain ⟨x0, r0, o0⟩ := fieldO (sz := 1) hf hxs 0 rfl (by kernel_rfl) (opens_str Tryz.underlying9)
  have e0 : [c0] = [.string ⟨⟨x0⟩⟩] := r0
  simp only [List.cons.injEq, and_true] at e0
  obtain rfl := e0
  obtain ⟨x1, r1, o1⟩ := fieldO (sz := 3) hf hxs 1 rfl (by kernel_rfl) opens_TValue_53
  have e1 : [c1, c2, c3] = [.int .i64 (x1.Kind), .int .i64 (x1.N), .string ⟨⟨x1.S⟩⟩] := r1
  simp only [List.cons.injEq, and_true] at e1
  obtain ⟨rfl, rfl, rfl⟩ := e1
  exact ⟨⟨x0, x1⟩, rfl, ⟨o0, o1⟩⟩

def okTVersion (s : TVersion) : Prop := (okI .i64) s.At ∧ okTValue s.Val
theorem opens_TVersion_87 : Opens Tryz.prog 87 cTVersion okTVersion := by
  intro H enc W fuel cs d h
  obtain ⟨xs, n, _, _, hl, hxs, hf⟩ := DataW.trod_struct Tryz.underlying87 h
  rw [show Tryz.prog.cellsOf 87 = 4 by kernel_rfl] at hl
  obtain ⟨c0, c1, c2, c3, rfl⟩ : ∃ c0 c1 c2 c3, cs = [c0, c1, c2, c3] := by
    exact cells_4 hl
  obtain ⟨x0, r0, o0⟩ := fieldO (sz := 1) hf hxs 0 rfl (by kernel_rfl) (opens_int Tryz.underlying2)
  have e0 : [c0] = [.int .i64 (x0)] := r0
  simp only [List.cons.injEq, and_true] at e0
  obtain rfl := e0
  obtain ⟨x1, r1, o1⟩ := fieldO (sz := 3) hf hxs 1 rfl (by kernel_rfl) opens_TValue_53
  have e1 : [c1, c2, c3] = [.int .i64 (x1.Kind), .int .i64 (x1.N), .string ⟨⟨x1.S⟩⟩] := r1
  simp only [List.cons.injEq, and_true] at e1
  obtain ⟨rfl, rfl, rfl⟩ := e1
  exact ⟨⟨x0, x1⟩, rfl, ⟨o0, o1⟩⟩

def okTRow (s : TRow) : Prop := okS s.Key ∧ (okL okTVersion) s.Vers
theorem cells_2 {α : Type} {l : List α} (h : l.length = 2) : ∃ c0 c1, l = [c0, c1] := by
  match l, h with
  | [c0, c1], _ => exact ⟨_, _, rfl⟩

theorem opens_TRow_73 : Opens Tryz.prog 73 cTRow okTRow := by
  intro H enc W fuel cs d h
  obtain ⟨xs, n, _, _, hl, hxs, hf⟩ := DataW.trod_struct Tryz.underlying73 h
  rw [show Tryz.prog.cellsOf 73 = 2 by kernel_rfl] at hl
  obtain ⟨c0, c1, rfl⟩ : ∃ c0 c1, cs = [c0, c1] := by
    exact cells_2 hl
  obtain ⟨x0, r0, o0⟩ := fieldO (sz := 1) hf hxs 0 rfl (by kernel_rfl) (opens_str Tryz.underlying9)
  have e0 : [c0] = [.string ⟨⟨x0⟩⟩] := r0
  simp only [List.cons.injEq, and_true] at e0
  obtain rfl := e0
  obtain ⟨x1, r1, o1⟩ := fieldO (sz := 1) hf hxs 1 rfl (by kernel_rfl) (opens_slice Tryz.underlying71 (by kernel_rfl) opens_TVersion_87)
  obtain ⟨a1, k1, e1, h1⟩ := r1
  replace e1 : [c1] = [.slice a1 ((x1).length) (k1)] := e1
  simp only [List.cons.injEq, and_true] at e1
  obtain rfl := e1
  exact ⟨⟨x0, x1⟩, ⟨_, _, rfl, h1⟩, ⟨o0, o1⟩⟩

def okTStore (s : TStore) : Prop := (okI .i64) s.Floor ∧ (okI .i64) s.Last ∧ (okL okTRow) s.Rows
theorem opens_TStore_40 : Opens Tryz.prog 40 cTStore okTStore := by
  intro H enc W fuel cs d h
  obtain ⟨xs, n, _, _, hl, hxs, hf⟩ := DataW.trod_struct Tryz.underlying40 h
  rw [show Tryz.prog.cellsOf 40 = 3 by kernel_rfl] at hl
  obtain ⟨c0, c1, c2, rfl⟩ : ∃ c0 c1 c2, cs = [c0, c1, c2] := by
    exact cells_3 hl
  obtain ⟨x0, r0, o0⟩ := fieldO (sz := 1) hf hxs 0 rfl (by kernel_rfl) (opens_int Tryz.underlying2)
  have e0 : [c0] = [.int .i64 (x0)] := r0
  simp only [List.cons.injEq, and_true] at e0
  obtain rfl := e0
  obtain ⟨x1, r1, o1⟩ := fieldO (sz := 1) hf hxs 1 rfl (by kernel_rfl) (opens_int Tryz.underlying2)
  have e1 : [c1] = [.int .i64 (x1)] := r1
  simp only [List.cons.injEq, and_true] at e1
  obtain rfl := e1
  obtain ⟨x2, r2, o2⟩ := fieldO (sz := 1) hf hxs 2 rfl (by kernel_rfl) (opens_slice Tryz.underlying38 (by kernel_rfl) opens_TRow_73)
  obtain ⟨a1, k1, e2, h1⟩ := r2
  replace e2 : [c2] = [.slice a1 ((x2).length) (k1)] := e2
  simp only [List.cons.injEq, and_true] at e2
  obtain rfl := e2
  exact ⟨⟨x0, x1, x2⟩, ⟨_, _, rfl, h1⟩, ⟨o0, o1, o2⟩⟩

end Go.Proofs.YtonijgmopcmldaaGreat
