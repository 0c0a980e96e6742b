/-
 Arguments of this program's laws, opened as data (printed by a program).
 Conditions: none.
-/
import Derived.Test.YtglnnhmmipopiaaGreatMj
import Derived.Test.YtglnnhmmipopiaaGreatHg
set_option linter.all false
namespace Go.Proofs.YtglnnhmmipopiaaGreat
def okTPart (s : TPart) : Prop := (okI .i64) s.Id ∧ okS s.From ∧ (okI .i64) s.Node ∧ (okI .i64) s.Dest ∧ okS s.Done
theorem cells_5 {α : Type} {l : List α} (h : l.length = 5) : ∃ c0 c1 c2 c3 c4, l = [c0, c1, c2, c3, c4] := by
 match l, h with
 | [c0, c1, c2, c3, c4], _ => exact ⟨_, _, _, _, _, rfl⟩
theorem opens_TPart_60 : OpensR Tryz.prog 60 cTPart okTPart := by
 intro H enc W fuel cs d h hw
 obtain ⟨xs, n, _, rfl, hl, hxs, hf⟩ := DataW.trod_struct Tryz.underlying60 h
 rw [show Tryz.prog.cellsOf 60 = 5 by kernel_rfl] at hl
 obtain ⟨c0, c1, c2, c3, c4, rfl⟩ : ∃ c0 c1 c2 c3 c4, cs = [c0, c1, c2, c3, c4] := by
  exact cells_5 hl
 obtain ⟨x0, r0, o0⟩ := fieldR (sz := 1) Tryz.underlying60 hf hxs hw 0 rfl (by kernel_rfl) (Opens.toR (opens_int Tryz.underlying3))
 have e0 : [c0] = [.int .i64 (x0)] := r0
 simp only [List.cons.injEq, and_true] at e0
 obtain rfl := e0
 obtain ⟨x1, r1, o1⟩ := fieldR (sz := 1) Tryz.underlying60 hf hxs hw 1 rfl (by kernel_rfl) (Opens.toR (opens_str Tryz.underlying9))
 have e1 : [c1] = [.string ⟨⟨x1⟩⟩] := r1
 simp only [List.cons.injEq, and_true] at e1
 obtain rfl := e1
 obtain ⟨x2, r2, o2⟩ := fieldR (sz := 1) Tryz.underlying60 hf hxs hw 2 rfl (by kernel_rfl) (Opens.toR (opens_int Tryz.underlying3))
 have e2 : [c2] = [.int .i64 (x2)] := r2
 simp only [List.cons.injEq, and_true] at e2
 obtain rfl := e2
 obtain ⟨x3, r3, o3⟩ := fieldR (sz := 1) Tryz.underlying60 hf hxs hw 3 rfl (by kernel_rfl) (Opens.toR (opens_int Tryz.underlying3))
 have e3 : [c3] = [.int .i64 (x3)] := r3
 simp only [List.cons.injEq, and_true] at e3
 obtain rfl := e3
 obtain ⟨x4, r4, o4⟩ := fieldR (sz := 1) Tryz.underlying60 hf hxs hw 4 rfl (by kernel_rfl) (Opens.toR (opens_str Tryz.underlying9))
 have e4 : [c4] = [.string ⟨⟨x4⟩⟩] := r4
 simp only [List.cons.injEq, and_true] at e4
 obtain rfl := e4
 exact ⟨⟨x0, x1, x2, x3, x4⟩, rfl, ⟨o0, o1, o2, o3, o4⟩⟩
def okTPlacement (s : TPlacement) : Prop := (okI .i64) s.Version ∧ (okLR okTPart) s.Parts
theorem cells_2 {α : Type} {l : List α} (h : l.length = 2) : ∃ c0 c1, l = [c0, c1] := by
 match l, h with
 | [c0, c1], _ => exact ⟨_, _, rfl⟩
theorem opens_TPlacement_24 : OpensR Tryz.prog 24 cTPlacement okTPlacement := by
 intro H enc W fuel cs d h hw
 obtain ⟨xs, n, _, rfl, hl, hxs, hf⟩ := DataW.trod_struct Tryz.underlying24 h
 rw [show Tryz.prog.cellsOf 24 = 2 by kernel_rfl] at hl
 obtain ⟨c0, c1, rfl⟩ : ∃ c0 c1, cs = [c0, c1] := by
  exact cells_2 hl
 obtain ⟨x0, r0, o0⟩ := fieldR (sz := 1) Tryz.underlying24 hf hxs hw 0 rfl (by kernel_rfl) (Opens.toR (opens_int Tryz.underlying2))
 have e0 : [c0] = [.int .i64 (x0)] := r0
 simp only [List.cons.injEq, and_true] at e0
 obtain rfl := e0
 obtain ⟨x1, r1, o1⟩ := fieldR (sz := 1) Tryz.underlying24 hf hxs hw 1 rfl (by kernel_rfl) (opensR_slice Tryz.underlying22 (by kernel_rfl) (of_decide_eq_true (by kernel_rfl)) opens_TPart_60)
 obtain ⟨a1, k1, e1, h1⟩ := r1
 replace e1 : [c1] = [.slice a1 ((x1).length) (k1)] := e1
 simp only [List.cons.injEq, and_true] at e1
 obtain rfl := e1
 exact ⟨⟨x0, x1⟩, ⟨_, _, rfl, h1⟩, ⟨o0, o1⟩⟩
def okTValue (s : TValue) : Prop := (okI .i64) s.Kind ∧ (okI .i64) s.N ∧ okS s.S
theorem cells_3 {α : Type} {l : List α} (h : l.length = 3) : ∃ c0 c1 c2, l = [c0, c1, c2] := by
 match l, h with
 | [c0, c1, c2], _ => exact ⟨_, _, _, rfl⟩
theorem opens_TValue_54 : OpensR Tryz.prog 54 cTValue okTValue := by
 intro H enc W fuel cs d h hw
 obtain ⟨xs, n, _, rfl, hl, hxs, hf⟩ := DataW.trod_struct Tryz.underlying54 h
 rw [show Tryz.prog.cellsOf 54 = 3 by kernel_rfl] at hl
 obtain ⟨c0, c1, c2, rfl⟩ : ∃ c0 c1 c2, cs = [c0, c1, c2] := by
  exact cells_3 hl
 obtain ⟨x0, r0, o0⟩ := fieldR (sz := 1) Tryz.underlying54 hf hxs hw 0 rfl (by kernel_rfl) (Opens.toR (opens_int Tryz.underlying3))
 have e0 : [c0] = [.int .i64 (x0)] := r0
 simp only [List.cons.injEq, and_true] at e0
 obtain rfl := e0
 obtain ⟨x1, r1, o1⟩ := fieldR (sz := 1) Tryz.underlying54 hf hxs hw 1 rfl (by kernel_rfl) (Opens.toR (opens_int Tryz.underlying2))
 have e1 : [c1] = [.int .i64 (x1)] := r1
 simp only [List.cons.injEq, and_true] at e1
 obtain rfl := e1
 obtain ⟨x2, r2, o2⟩ := fieldR (sz := 1) Tryz.underlying54 hf hxs hw 2 rfl (by kernel_rfl) (Opens.toR (opens_str Tryz.underlying9))
 have e2 : [c2] = [.string ⟨⟨x2⟩⟩] := r2
 simp only [List.cons.injEq, and_true] at e2
 obtain rfl := e2
 exact ⟨⟨x0, x1, x2⟩, rfl, ⟨o0, o1, o2⟩⟩
def okTPair (s : TPair) : Prop := okS s.Key ∧ okTValue s.Val
theorem cells_4 {α : Type} {l : List α} (h : l.length = 4) : ∃ c0 c1 c2 c3, l = [c0, c1, c2, c3] := by
 match l, h with
 | [c0, c1, c2, c3], _ => exact ⟨_, _, _, _, rfl⟩
theorem opens_TPair_56 : OpensR Tryz.prog 56 cTPair okTPair := by
 intro H enc W fuel cs d h hw
 obtain ⟨xs, n, _, rfl, hl, hxs, hf⟩ := DataW.trod_struct Tryz.underlying56 h
 rw [show Tryz.prog.cellsOf 56 = 4 by kernel_rfl] at hl
 obtain ⟨c0, c1, c2, c3, rfl⟩ : ∃ c0 c1 c2 c3, cs = [c0, c1, c2, c3] := by
  exact cells_4 hl
 obtain ⟨x0, r0, o0⟩ := fieldR (sz := 1) Tryz.underlying56 hf hxs hw 0 rfl (by kernel_rfl) (Opens.toR (opens_str Tryz.underlying9))
 have e0 : [c0] = [.string ⟨⟨x0⟩⟩] := r0
 simp only [List.cons.injEq, and_true] at e0
 obtain rfl := e0
 obtain ⟨x1, r1, o1⟩ := fieldR (sz := 3) Tryz.underlying56 hf hxs hw 1 rfl (by kernel_rfl) opens_TValue_54
 have e1 : [c1, c2, c3] = [.int .i64 (x1.Kind), .int .i64 (x1.N), .string ⟨⟨x1.S⟩⟩] := r1
 simp only [List.cons.injEq, and_true] at e1
 obtain ⟨rfl, rfl, rfl⟩ := e1
 exact ⟨⟨x0, x1⟩, rfl, ⟨o0, o1⟩⟩
def okTShard (s : TShard) : Prop := (okI .i64) s.Node ∧ (okLR okTPair) s.Pairs
theorem opens_TShard_46 : OpensR Tryz.prog 46 cTShard okTShard := by
 intro H enc W fuel cs d h hw
 obtain ⟨xs, n, _, rfl, hl, hxs, hf⟩ := DataW.trod_struct Tryz.underlying46 h
 rw [show Tryz.prog.cellsOf 46 = 2 by kernel_rfl] at hl
 obtain ⟨c0, c1, rfl⟩ : ∃ c0 c1, cs = [c0, c1] := by
  exact cells_2 hl
 obtain ⟨x0, r0, o0⟩ := fieldR (sz := 1) Tryz.underlying46 hf hxs hw 0 rfl (by kernel_rfl) (Opens.toR (opens_int Tryz.underlying3))
 have e0 : [c0] = [.int .i64 (x0)] := r0
 simp only [List.cons.injEq, and_true] at e0
 obtain rfl := e0
 obtain ⟨x1, r1, o1⟩ := fieldR (sz := 1) Tryz.underlying46 hf hxs hw 1 rfl (by kernel_rfl) (opensR_slice Tryz.underlying33 (by kernel_rfl) (of_decide_eq_true (by kernel_rfl)) opens_TPair_56)
 obtain ⟨a1, k1, e1, h1⟩ := r1
 replace e1 : [c1] = [.slice a1 ((x1).length) (k1)] := e1
 simp only [List.cons.injEq, and_true] at e1
 obtain rfl := e1
 exact ⟨⟨x0, x1⟩, ⟨_, _, rfl, h1⟩, ⟨o0, o1⟩⟩
def okTHeat (s : THeat) : Prop := okS s.Key ∧ (okI .i64) s.Count
theorem opens_THeat_58 : OpensR Tryz.prog 58 cTHeat okTHeat := by
 intro H enc W fuel cs d h hw
 obtain ⟨xs, n, _, rfl, hl, hxs, hf⟩ := DataW.trod_struct Tryz.underlying58 h
 rw [show Tryz.prog.cellsOf 58 = 2 by kernel_rfl] at hl
 obtain ⟨c0, c1, rfl⟩ : ∃ c0 c1, cs = [c0, c1] := by
  exact cells_2 hl
 obtain ⟨x0, r0, o0⟩ := fieldR (sz := 1) Tryz.underlying58 hf hxs hw 0 rfl (by kernel_rfl) (Opens.toR (opens_str Tryz.underlying9))
 have e0 : [c0] = [.string ⟨⟨x0⟩⟩] := r0
 simp only [List.cons.injEq, and_true] at e0
 obtain rfl := e0
 obtain ⟨x1, r1, o1⟩ := fieldR (sz := 1) Tryz.underlying58 hf hxs hw 1 rfl (by kernel_rfl) (Opens.toR (opens_int Tryz.underlying2))
 have e1 : [c1] = [.int .i64 (x1)] := r1
 simp only [List.cons.injEq, and_true] at e1
 obtain rfl := e1
 exact ⟨⟨x0, x1⟩, rfl, ⟨o0, o1⟩⟩
end Go.Proofs.YtglnnhmmipopiaaGreat
