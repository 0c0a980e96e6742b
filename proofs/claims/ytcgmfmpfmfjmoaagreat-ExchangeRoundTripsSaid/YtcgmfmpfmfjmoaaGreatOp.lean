/-
  Arguments of this program's laws, opened as data (printed by a program).
  Conditions: none.
-/
import Derived.Test.YtcgmfmpfmfjmoaaGreatMc
import Derived.Test.YtcgmfmpfmfjmoaaGreatHe
set_option linter.all false
namespace Go.Proofs.YtcgmfmpfmfjmoaaGreat

def okTValue (s : TValue) : Prop := (okI .i64) s.Kind ∧ (okI .i64) s.N ∧ okS s.S
theorem cells_3 {α : Type} {l : List α} (h : l.length = 3) : ∃ c0 c1 c2, l = [c0, c1, c2] := by
  match l, h with
  | [c0, c1, c2], _ => exact ⟨_, _, _, rfl⟩

theorem opens_TValue_68 : Opens Tryz.prog 68 cTValue okTValue := by
  intro H enc W fuel cs d h
  obtain ⟨xs, n, _, _, hl, hxs, hf⟩ := DataW.trod_struct Tryz.underlying68 h
  rw [show Tryz.prog.cellsOf 68 = 3 by kernel_rfl] at hl
  obtain ⟨c0, c1, c2, rfl⟩ : ∃ c0 c1 c2, cs = [c0, c1, c2] := by
    exact cells_3 hl
  obtain ⟨x0, r0, o0⟩ := fieldO (sz := 1) hf hxs 0 rfl (by kernel_rfl) (opens_int Tryz.underlying3)
  have e0 : [c0] = [.int .i64 (x0)] := r0
  simp only [List.cons.injEq, and_true] at e0
  obtain rfl := e0
  obtain ⟨x1, r1, o1⟩ := fieldO (sz := 1) hf hxs 1 rfl (by kernel_rfl) (opens_int Tryz.underlying2)
  have e1 : [c1] = [.int .i64 (x1)] := r1
  simp only [List.cons.injEq, and_true] at e1
  obtain rfl := e1
  obtain ⟨x2, r2, o2⟩ := fieldO (sz := 1) hf hxs 2 rfl (by kernel_rfl) (opens_str Tryz.underlying9)
  have e2 : [c2] = [.string ⟨⟨x2⟩⟩] := r2
  simp only [List.cons.injEq, and_true] at e2
  obtain rfl := e2
  exact ⟨⟨x0, x1, x2⟩, rfl, ⟨o0, o1, o2⟩⟩

def okTPair (s : TPair) : Prop := okS s.Key ∧ okTValue s.Val
theorem cells_4 {α : Type} {l : List α} (h : l.length = 4) : ∃ c0 c1 c2 c3, l = [c0, c1, c2, c3] := by
  match l, h with
  | [c0, c1, c2, c3], _ => exact ⟨_, _, _, _, rfl⟩

theorem opens_TPair_70 : Opens Tryz.prog 70 cTPair okTPair := by
  intro H enc W fuel cs d h
  obtain ⟨xs, n, _, _, hl, hxs, hf⟩ := DataW.trod_struct Tryz.underlying70 h
  rw [show Tryz.prog.cellsOf 70 = 4 by kernel_rfl] at hl
  obtain ⟨c0, c1, c2, c3, rfl⟩ : ∃ c0 c1 c2 c3, cs = [c0, c1, c2, c3] := by
    exact cells_4 hl
  obtain ⟨x0, r0, o0⟩ := fieldO (sz := 1) hf hxs 0 rfl (by kernel_rfl) (opens_str Tryz.underlying9)
  have e0 : [c0] = [.string ⟨⟨x0⟩⟩] := r0
  simp only [List.cons.injEq, and_true] at e0
  obtain rfl := e0
  obtain ⟨x1, r1, o1⟩ := fieldO (sz := 3) hf hxs 1 rfl (by kernel_rfl) opens_TValue_68
  have e1 : [c1, c2, c3] = [.int .i64 (x1.Kind), .int .i64 (x1.N), .string ⟨⟨x1.S⟩⟩] := r1
  simp only [List.cons.injEq, and_true] at e1
  obtain ⟨rfl, rfl, rfl⟩ := e1
  exact ⟨⟨x0, x1⟩, rfl, ⟨o0, o1⟩⟩

def okTMail (s : TMail) : Prop := (okI .i64) s.Txn ∧ (okI .i64) s.From ∧ (okI .i64) s.To ∧ (okL okS) s.Keys ∧ (okL okTPair) s.Pairs
theorem cells_5 {α : Type} {l : List α} (h : l.length = 5) : ∃ c0 c1 c2 c3 c4, l = [c0, c1, c2, c3, c4] := by
  match l, h with
  | [c0, c1, c2, c3, c4], _ => exact ⟨_, _, _, _, _, rfl⟩

theorem opens_TMail_50 : Opens Tryz.prog 50 cTMail okTMail := by
  intro H enc W fuel cs d h
  obtain ⟨xs, n, _, _, hl, hxs, hf⟩ := DataW.trod_struct Tryz.underlying50 h
  rw [show Tryz.prog.cellsOf 50 = 5 by kernel_rfl] at hl
  obtain ⟨c0, c1, c2, c3, c4, rfl⟩ : ∃ c0 c1 c2 c3 c4, cs = [c0, c1, c2, c3, c4] := by
    exact cells_5 hl
  obtain ⟨x0, r0, o0⟩ := fieldO (sz := 1) hf hxs 0 rfl (by kernel_rfl) (opens_int Tryz.underlying3)
  have e0 : [c0] = [.int .i64 (x0)] := r0
  simp only [List.cons.injEq, and_true] at e0
  obtain rfl := e0
  obtain ⟨x1, r1, o1⟩ := fieldO (sz := 1) hf hxs 1 rfl (by kernel_rfl) (opens_int Tryz.underlying3)
  have e1 : [c1] = [.int .i64 (x1)] := r1
  simp only [List.cons.injEq, and_true] at e1
  obtain rfl := e1
  obtain ⟨x2, r2, o2⟩ := fieldO (sz := 1) hf hxs 2 rfl (by kernel_rfl) (opens_int Tryz.underlying3)
  have e2 : [c2] = [.int .i64 (x2)] := r2
  simp only [List.cons.injEq, and_true] at e2
  obtain rfl := e2
  obtain ⟨x3, r3, o3⟩ := fieldO (sz := 1) hf hxs 3 rfl (by kernel_rfl) (opens_slice Tryz.underlying25 (by kernel_rfl) (opens_str Tryz.underlying9))
  obtain ⟨a1, k1, e3, h1⟩ := r3
  replace e3 : [c3] = [.slice a1 ((x3).length) (k1)] := e3
  simp only [List.cons.injEq, and_true] at e3
  obtain rfl := e3
  obtain ⟨x4, r4, o4⟩ := fieldO (sz := 1) hf hxs 4 rfl (by kernel_rfl) (opens_slice Tryz.underlying28 (by kernel_rfl) opens_TPair_70)
  obtain ⟨a2, k2, e4, h2⟩ := r4
  replace e4 : [c4] = [.slice a2 ((x4).length) (k2)] := e4
  simp only [List.cons.injEq, and_true] at e4
  obtain rfl := e4
  exact ⟨⟨x0, x1, x2, x3, x4⟩, ⟨_, _, _, _, rfl, h1, h2⟩, ⟨o0, o1, o2, o3, o4⟩⟩

end Go.Proofs.YtcgmfmpfmfjmoaaGreat
