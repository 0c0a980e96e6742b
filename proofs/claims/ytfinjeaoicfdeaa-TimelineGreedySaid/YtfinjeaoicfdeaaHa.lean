/-
  Functions of the program as their counterparts say them (printed by a program).
  Conditions: none.
-/
import Derived.Test.YtfinjeaoicfdeaaGb
import Derived.Test.YtfinjeaoicfdeaaTy
namespace Go.Proofs.Ytfinjeaoicfdeaa

structure TFootprint where
  All : Bool
  Reads : List Str
  Writes : List Str
instance : Inhabited TFootprint := ⟨⟨default, default, default⟩⟩
def cTFootprint : Cd TFootprint where
  sz := 3
  rep V s cs := ∃ (a1 : Option Addr) (k1 : Nat) (a2 : Option Addr) (k2 : Nat), cs = [.bool (s.All), .slice a1 ((s.Reads).length) (k1), .slice a2 ((s.Writes).length) (k2)] ∧ SlAt cStr V a1 k1 s.Reads ∧ SlAt cStr V a2 k2 s.Writes
  len h := by obtain ⟨a1, k1, a2, k2, rfl, _, _⟩ := h; rfl
  mono hv h := by
    obtain ⟨a1, k1, a2, k2, rfl, h1, h2⟩ := h
    exact ⟨a1, k1, a2, k2, rfl, h1.mono hv, h2.mono hv⟩
  one h := by obtain ⟨a1, k1, a2, k2, rfl, _, _⟩ := h; intro u hu; simp only [List.mem_cons, List.not_mem_nil, or_false] at hu; rcases hu with rfl | rfl | rfl <;> rfl
  pos := by omega
  dflt := ⟨[.bool (false), .slice none (0) (0), .slice none (0) (0)], fun _ => ⟨none, 0, none, 0, rfl, SlAt.nil, SlAt.nil⟩⟩

structure TSpan where
  Txn : Int
  Worker : Int
  Start : Int
  End : Int
instance : Inhabited TSpan := ⟨⟨default, default, default, default⟩⟩
def cTSpan : Cd TSpan where
  sz := 4
  rep _ s cs := cs = [.int .i64 (s.Txn), .int .i64 (s.Worker), .int .i64 (s.Start), .int .i64 (s.End)]
  len h := by subst h; rfl
  mono _ h := h
  one h := by subst h; intro u hu; simp only [List.mem_cons, List.not_mem_nil, or_false] at hu; rcases hu with rfl | rfl | rfl | rfl <;> rfl
  pos := by omega
  dflt := ⟨_, fun _ => rfl⟩

def F_timeline_Makespan_L1 (x1 : List TSpan) (J4 : Int → Option Int) : Nat → Int → Int → Option Int
  | 0, _, _ => none
  | n8 + 1, x6, x7 => (cond (decide (x7 < (((x1).length : Nat) : Int))) (req (0 ≤ x7 ∧ x7 < ((x1).length : Int)) (F_timeline_Makespan_L1 x1 J4 n8 ((max x6 (atI x1 x7).End)) ((IntKind.i64.wrap (x7 + (1 : Int)))))) (J4 x6))

def F_timeline_Makespan (x1 : List TSpan) : Option Int :=
  (jn (fun (x3 : Int) => (some x3)) (fun J4 => (F_timeline_Makespan_L1 x1 J4 (((((x1).length : Nat) : Int)).toNat + 1) ((0 : Int)) ((0 : Int)))))

set_option maxRecDepth 100000 in
theorem W_timeline_Makespan {V : View} (x1 : List TSpan) {a2 : Option Addr} {k2 : Nat} (h2 : SlAt cTSpan V a2 k2 x1) {r : Int} (hF : F_timeline_Makespan x1 = some r) :
    Spec Try.prog 13 [.slice a2 ((x1).length) (k2)] V (fun _ v => v = .int .i64 (r)) := by
  unfold F_timeline_Makespan at hF
  refine Spec.enter (T := tyT) Try.func13 rfl (by kernel_rfl) rfl rfl rfl ?_
  refine Exec.run tyOk 15 rfl ?_
  obtain ⟨J4, hJ4, hF⟩ := jn_some hF
  refine Exec.seam (fun L' V' M' => ∃ (x3 : Int), L' = [(3, .v (.int .i64 (x3)))] ∧ M' = [] ∧ J4 x3 = some r) rfl ?_ ?_
  · rintro L' V5 M' ⟨x3, rfl, rfl, hF⟩
    subst hJ4
    refine Exec.run tyOk 400 rfl ?_
    obtain rfl := some_inj hF
    exact Exec.ret tyOk rfl rfl rfl
  · skip
    refine Exec.run tyOk 400 rfl ?_
    refine Exec.loop (fun n8 L' V' M' => ∃ (x6 : Int) (x7 : Int), L' = [(3, .v (.int .i64 (x6))), (6, .v (.slice a2 ((x1).length) (k2))), (7, .v (.int .i64 ((((x1).length : Nat) : Int)))), (8, .v (.int .i64 (x7)))] ∧ M' = [] ∧ SlAt cTSpan V' a2 k2 x1 ∧ F_timeline_Makespan_L1 x1 J4 n8 x6 x7 = some r) ⟨(((((x1).length : Nat) : Int)).toNat + 1), [(3, .v (.int .i64 ((0 : Int)))), (6, .v (.slice a2 ((x1).length) (k2))), (7, .v (.int .i64 ((((x1).length : Nat) : Int)))), (8, .v (.int .i64 ((0 : Int))))], ⟨rfl, rfl, rfl, rfl, trivial⟩, (0 : Int), (0 : Int), rfl, rfl, h2, hF⟩ ?_
    rintro n8 L' V9 M' ⟨x6, x7, rfl, rfl, h10, hF⟩
    rcases n8 with _ | n8
    · exact absurd hF (by simp [F_timeline_Makespan_L1])
    rw [F_timeline_Makespan_L1] at hF
    refine Exec.run tyOk 400 rfl ?_
    rcases cond_some hF with ⟨hb, hF⟩ | ⟨hb, hF⟩
    · skip
      refine Exec.ifT rfl hb ?_
      refine Exec.run tyOk 400 rfl ?_
      obtain ⟨q11, hF⟩ := req_some hF
      obtain ⟨c12, hr12, hd12⟩ := SlAt.get h10 q11
      obtain rfl := hr12
      refine Exec.ia tyOk rfl rfl ⟨q11.1, q11.2, hd12.some⟩ ?_
      refine Exec.run tyOk 400 rfl ?_
      refine Exec.ld tyOk (x := .agg ⟨[.int .i64 ((atI x1 x7).Txn), .int .i64 ((atI x1 x7).Worker), .int .i64 ((atI x1 x7).Start), .int .i64 ((atI x1 x7).End)]⟩) rfl rfl hd12 rfl rfl ?_
      refine Exec.run tyOk 400 rfl ?_
      refine Exec.cut 0 [(3, .v (.int .i64 ((max x6 (atI x1 x7).End)))), (6, .v (.slice a2 ((x1).length) (k2))), (7, .v (.int .i64 ((((x1).length : Nat) : Int)))), (8, .v (.int .i64 ((IntKind.i64.wrap (x7 + (1 : Int))))))] (M' := []) rfl ⟨rfl, rfl, rfl, rfl, trivial⟩ rfl rfl rfl ?_
      exact Exec.round [(3, .v (.int .i64 ((max x6 (atI x1 x7).End)))), (6, .v (.slice a2 ((x1).length) (k2))), (7, .v (.int .i64 ((((x1).length : Nat) : Int)))), (8, .v (.int .i64 ((IntKind.i64.wrap (x7 + (1 : Int))))))] ⟨rfl, rfl, rfl, rfl, trivial⟩ ⟨n8, Nat.lt_succ_self _, (max x6 (atI x1 x7).End), (IntKind.i64.wrap (x7 + (1 : Int))), rfl, rfl, h10, hF⟩
    · skip
      refine Exec.ifF rfl hb ?_
      refine Exec.run tyOk 400 rfl ?_
      exact Exec.round [(3, .v (.int .i64 (x6)))] ⟨rfl, trivial⟩ ⟨x6, rfl, rfl, hF⟩

def F_clockworkref28_Same_L1 (x1 : List TSpan) (x3 : List TSpan) (J5 : Option Bool) : Nat → Int → Option Bool
  | 0, _ => none
  | n8 + 1, x7 => (cond (decide (x7 < (((x1).length : Nat) : Int))) (req (0 ≤ x7 ∧ x7 < ((x1).length : Int)) (req (0 ≤ x7 ∧ x7 < ((x3).length : Int)) (cond (!(((atI x1 x7).Txn == (atI x3 x7).Txn) && (((atI x1 x7).Worker == (atI x3 x7).Worker) && (((atI x1 x7).Start == (atI x3 x7).Start) && (((atI x1 x7).End == (atI x3 x7).End) && true))))) (some false) (F_clockworkref28_Same_L1 x1 x3 J5 n8 ((IntKind.i64.wrap (x7 + (1 : Int)))))))) J5)

def F_clockworkref28_Same (x1 : List TSpan) (x3 : List TSpan) : Option Bool :=
  (cond ((((x1).length : Nat) : Int) != (((x3).length : Nat) : Int)) (some false) (jn ((some true)) (fun J5 => (F_clockworkref28_Same_L1 x1 x3 J5 (((((x1).length : Nat) : Int)).toNat + 1) ((0 : Int))))))

set_option maxRecDepth 100000 in
theorem W_clockworkref28_Same {V : View} (x1 : List TSpan) (x3 : List TSpan) {a2 : Option Addr} {k2 : Nat} {a4 : Option Addr} {k4 : Nat} (h2 : SlAt cTSpan V a2 k2 x1) (h4 : SlAt cTSpan V a4 k4 x3) {r : Bool} (hF : F_clockworkref28_Same x1 x3 = some r) :
    Spec Try.prog 16 [.slice a2 ((x1).length) (k2), .slice a4 ((x3).length) (k4)] V (fun _ v => v = .bool (r)) := by
  unfold F_clockworkref28_Same at hF
  refine Spec.enter (T := tyT) Try.func16 rfl (by kernel_rfl) rfl rfl rfl ?_
  refine Exec.run tyOk 400 rfl ?_
  rcases cond_some hF with ⟨hb, hF⟩ | ⟨hb, hF⟩
  · skip
    refine Exec.ifT rfl hb ?_
    refine Exec.run tyOk 400 rfl ?_
    obtain rfl := some_inj hF
    exact Exec.ret tyOk rfl rfl rfl
  · skip
    refine Exec.ifF rfl hb ?_
    refine Exec.run tyOk 6 rfl ?_
    obtain ⟨J5, hJ5, hF⟩ := jn_some hF
    refine Exec.seam (fun L' V' M' => L' = [] ∧ M' = [] ∧ J5 = some r) rfl ?_ ?_
    · rintro L' V6 M' ⟨rfl, rfl, hF⟩
      subst hJ5
      refine Exec.run tyOk 400 rfl ?_
      obtain rfl := some_inj hF
      exact Exec.ret tyOk rfl rfl rfl
    · skip
      refine Exec.run tyOk 400 rfl ?_
      refine Exec.loop (fun n8 L' V' M' => ∃ (x7 : Int), L' = [(0, .v (.slice a2 ((x1).length) (k2))), (1, .v (.slice a4 ((x3).length) (k4))), (5, .v (.int .i64 (x7)))] ∧ M' = [] ∧ SlAt cTSpan V' a2 k2 x1 ∧ SlAt cTSpan V' a4 k4 x3 ∧ F_clockworkref28_Same_L1 x1 x3 J5 n8 x7 = some r) ⟨(((((x1).length : Nat) : Int)).toNat + 1), [(0, .v (.slice a2 ((x1).length) (k2))), (1, .v (.slice a4 ((x3).length) (k4))), (5, .v (.int .i64 ((0 : Int))))], ⟨rfl, rfl, rfl, trivial⟩, (0 : Int), rfl, rfl, h2, h4, hF⟩ ?_
      rintro n8 L' V9 M' ⟨x7, rfl, rfl, h10, h11, hF⟩
      rcases n8 with _ | n8
      · exact absurd hF (by simp [F_clockworkref28_Same_L1])
      rw [F_clockworkref28_Same_L1] at hF
      refine Exec.run tyOk 400 rfl ?_
      rcases cond_some hF with ⟨hb, hF⟩ | ⟨hb, hF⟩
      · skip
        refine Exec.ifT rfl hb ?_
        refine Exec.run tyOk 400 rfl ?_
        refine Exec.draws tyOk [(0, true), (1, true), (2, true), (3, true), (4, true), (5, true), (6, true), (7, true), (8, true)] rfl (by kernel_rfl) ?_
        refine Exec.run tyOk 400 rfl ?_
        obtain ⟨q12, hF⟩ := req_some hF
        obtain ⟨c13, hr13, hd13⟩ := SlAt.get h10 q12
        obtain rfl := hr13
        refine Exec.fia tyOk rfl rfl rfl ⟨q12.1, q12.2, hd13.some⟩ ?_
        refine Exec.run tyOk 400 rfl ?_
        refine Exec.fld tyOk (x := .agg ⟨[.int .i64 ((atI x1 x7).Txn), .int .i64 ((atI x1 x7).Worker), .int .i64 ((atI x1 x7).Start), .int .i64 ((atI x1 x7).End)]⟩) rfl rfl rfl hd13 rfl rfl ?_
        refine Exec.run tyOk 400 rfl ?_
        obtain ⟨q14, hF⟩ := req_some hF
        obtain ⟨c15, hr15, hd15⟩ := SlAt.get h11 q14
        obtain rfl := hr15
        refine Exec.fia tyOk rfl rfl rfl ⟨q14.1, q14.2, hd15.some⟩ ?_
        refine Exec.run tyOk 400 rfl ?_
        refine Exec.fld tyOk (x := .agg ⟨[.int .i64 ((atI x3 x7).Txn), .int .i64 ((atI x3 x7).Worker), .int .i64 ((atI x3 x7).Start), .int .i64 ((atI x3 x7).End)]⟩) rfl rfl rfl hd15 rfl rfl ?_
        refine Exec.run tyOk 400 rfl ?_
        rcases cond_some hF with ⟨hb, hF⟩ | ⟨hb, hF⟩
        · skip
          refine Exec.ifT rfl hb ?_
          refine Exec.run tyOk 400 rfl ?_
          obtain rfl := some_inj hF
          exact Exec.ret tyOk rfl rfl rfl
        · skip
          refine Exec.ifF rfl hb ?_
          refine Exec.run tyOk 400 rfl ?_
          exact Exec.round [(0, .v (.slice a2 ((x1).length) (k2))), (1, .v (.slice a4 ((x3).length) (k4))), (5, .v (.int .i64 ((IntKind.i64.wrap (x7 + (1 : Int))))))] ⟨rfl, rfl, rfl, trivial⟩ ⟨n8, Nat.lt_succ_self _, (IntKind.i64.wrap (x7 + (1 : Int))), rfl, rfl, h10, h11, hF⟩
      · skip
        refine Exec.ifF rfl hb ?_
        refine Exec.run tyOk 400 rfl ?_
        exact Exec.round [] trivial ⟨rfl, rfl, hF⟩

def F_clockworkref28_Few_L1 (x1 : List (List Int)) (x3 : Int) (J7 : Option Bool) : Nat → Int → Option Bool
  | 0, _ => none
  | n11 + 1, x10 => (cond (decide (x10 < (((x1).length : Nat) : Int))) (req (0 ≤ x10 ∧ x10 < ((x1).length : Int)) (cond (decide (x3 < ((((atI x1 x10)).length : Nat) : Int))) (some false) (F_clockworkref28_Few_L1 x1 x3 J7 n11 ((IntKind.i64.wrap (x10 + (1 : Int))))))) J7)

def F_clockworkref28_Few (x1 : List (List Int)) : Option Bool :=
  (jn (fun (x3 : Int) => (jn ((some ((decide ((((x1).length : Nat) : Int) ≤ (12 : Int))) || ((decide ((128 : Int) < (((x1).length : Nat) : Int))) && (decide ((((x1).length : Nat) : Int) ≤ (200 : Int))))))) (fun J7 => (F_clockworkref28_Few_L1 x1 x3 J7 (((((x1).length : Nat) : Int)).toNat + 1) ((0 : Int)))))) (fun J4 => (cond (decide ((128 : Int) < (((x1).length : Nat) : Int))) (J4 ((2 : Int))) (J4 ((20 : Int))))))

set_option maxRecDepth 100000 in
theorem W_clockworkref28_Few {V : View} (x1 : List (List Int)) {a2 : Option Addr} {k2 : Nat} (h2 : SlAt (cSl (cInt .i64)) V a2 k2 x1) {r : Bool} (hF : F_clockworkref28_Few x1 = some r) :
    Spec Try.prog 17 [.slice a2 ((x1).length) (k2)] V (fun _ v => v = .bool (r)) := by
  unfold F_clockworkref28_Few at hF
  refine Spec.enter (T := tyT) Try.func17 rfl (by kernel_rfl) rfl rfl rfl ?_
  refine Exec.run tyOk 400 rfl ?_
  obtain ⟨J4, hJ4, hF⟩ := jn_some hF
  refine Exec.seam (fun L' V' M' => ∃ (x3 : Int), L' = [(0, .v (.slice a2 ((x1).length) (k2))), (3, .v (.int .i64 (x3)))] ∧ M' = [] ∧ SlAt (cSl (cInt .i64)) V' a2 k2 x1 ∧ J4 x3 = some r) rfl ?_ ?_
  · rintro L' V5 M' ⟨x3, rfl, rfl, h6, hF⟩
    subst hJ4
    refine Exec.run tyOk 5 rfl ?_
    obtain ⟨J7, hJ7, hF⟩ := jn_some hF
    refine Exec.seam (fun L' V' M' => L' = [(0, .v (.slice a2 ((x1).length) (k2)))] ∧ M' = [] ∧ SlAt (cSl (cInt .i64)) V' a2 k2 x1 ∧ J7 = some r) rfl ?_ ?_
    · rintro L' V8 M' ⟨rfl, rfl, h9, hF⟩
      subst hJ7
      refine Exec.run tyOk 400 rfl ?_
      obtain rfl := some_inj hF
      exact Exec.ret tyOk rfl rfl rfl
    · skip
      refine Exec.run tyOk 400 rfl ?_
      refine Exec.loop (fun n11 L' V' M' => ∃ (x10 : Int), L' = [(0, .v (.slice a2 ((x1).length) (k2))), (3, .v (.int .i64 (x3))), (4, .v (.int .i64 (x10)))] ∧ M' = [] ∧ SlAt (cSl (cInt .i64)) V' a2 k2 x1 ∧ F_clockworkref28_Few_L1 x1 x3 J7 n11 x10 = some r) ⟨(((((x1).length : Nat) : Int)).toNat + 1), [(0, .v (.slice a2 ((x1).length) (k2))), (3, .v (.int .i64 (x3))), (4, .v (.int .i64 ((0 : Int))))], ⟨rfl, rfl, rfl, trivial⟩, (0 : Int), rfl, rfl, h6, hF⟩ ?_
      rintro n11 L' V12 M' ⟨x10, rfl, rfl, h13, hF⟩
      rcases n11 with _ | n11
      · exact absurd hF (by simp [F_clockworkref28_Few_L1])
      rw [F_clockworkref28_Few_L1] at hF
      refine Exec.run tyOk 400 rfl ?_
      rcases cond_some hF with ⟨hb, hF⟩ | ⟨hb, hF⟩
      · skip
        refine Exec.ifT rfl hb ?_
        refine Exec.run tyOk 400 rfl ?_
        obtain ⟨q14, hF⟩ := req_some hF
        obtain ⟨c15, hr15, hd15⟩ := SlAt.get h13 q14
        obtain ⟨a16, k16, rfl, h16⟩ := hr15
        refine Exec.ia tyOk rfl rfl ⟨q14.1, q14.2, hd15.some⟩ ?_
        refine Exec.run tyOk 400 rfl ?_
        refine Exec.ld tyOk (x := .slice a16 (((atI x1 x10)).length) (k16)) rfl rfl hd15 rfl rfl ?_
        refine Exec.run tyOk 400 rfl ?_
        rcases cond_some hF with ⟨hb, hF⟩ | ⟨hb, hF⟩
        · skip
          refine Exec.ifT rfl hb ?_
          refine Exec.run tyOk 400 rfl ?_
          obtain rfl := some_inj hF
          exact Exec.ret tyOk rfl rfl rfl
        · skip
          refine Exec.ifF rfl hb ?_
          refine Exec.run tyOk 400 rfl ?_
          exact Exec.round [(0, .v (.slice a2 ((x1).length) (k2))), (3, .v (.int .i64 (x3))), (4, .v (.int .i64 ((IntKind.i64.wrap (x10 + (1 : Int))))))] ⟨rfl, rfl, rfl, trivial⟩ ⟨n11, Nat.lt_succ_self _, (IntKind.i64.wrap (x10 + (1 : Int))), rfl, rfl, h13, hF⟩
      · skip
        refine Exec.ifF rfl hb ?_
        refine Exec.run tyOk 400 rfl ?_
        exact Exec.round [(0, .v (.slice a2 ((x1).length) (k2)))] ⟨rfl, trivial⟩ ⟨rfl, rfl, h13, hF⟩
  · skip
    refine Exec.run tyOk 400 rfl ?_
    rcases cond_some hF with ⟨hb, hF⟩ | ⟨hb, hF⟩
    · skip
      refine Exec.ifT rfl hb ?_
      refine Exec.run tyOk 400 rfl ?_
      exact Exec.round [(0, .v (.slice a2 ((x1).length) (k2))), (3, .v (.int .i64 ((2 : Int))))] ⟨rfl, rfl, trivial⟩ ⟨(2 : Int), rfl, rfl, h2, hF⟩
    · skip
      refine Exec.ifF rfl hb ?_
      refine Exec.run tyOk 400 rfl ?_
      exact Exec.round [(0, .v (.slice a2 ((x1).length) (k2))), (3, .v (.int .i64 ((20 : Int))))] ⟨rfl, rfl, trivial⟩ ⟨(20 : Int), rfl, rfl, h2, hF⟩

def F_clockworkref28_Makespan_L1 (x1 : List TSpan) (J4 : Int → Option Int) : Nat → Int → Int → Option Int
  | 0, _, _ => none
  | n8 + 1, x6, x7 => (cond (decide (x7 < (((x1).length : Nat) : Int))) (req (0 ≤ x7 ∧ x7 < ((x1).length : Int)) (F_clockworkref28_Makespan_L1 x1 J4 n8 ((max x6 (atI x1 x7).End)) ((IntKind.i64.wrap (x7 + (1 : Int)))))) (J4 x6))

def F_clockworkref28_Makespan (x1 : List TSpan) : Option Int :=
  (jn (fun (x3 : Int) => (some x3)) (fun J4 => (F_clockworkref28_Makespan_L1 x1 J4 (((((x1).length : Nat) : Int)).toNat + 1) ((0 : Int)) ((0 : Int)))))

set_option maxRecDepth 100000 in
theorem W_clockworkref28_Makespan {V : View} (x1 : List TSpan) {a2 : Option Addr} {k2 : Nat} (h2 : SlAt cTSpan V a2 k2 x1) {r : Int} (hF : F_clockworkref28_Makespan x1 = some r) :
    Spec Try.prog 20 [.slice a2 ((x1).length) (k2)] V (fun _ v => v = .int .i64 (r)) := by
  unfold F_clockworkref28_Makespan at hF
  refine Spec.enter (T := tyT) Try.func20 rfl (by kernel_rfl) rfl rfl rfl ?_
  refine Exec.run tyOk 13 rfl ?_
  obtain ⟨J4, hJ4, hF⟩ := jn_some hF
  refine Exec.seam (fun L' V' M' => ∃ (x3 : Int), L' = [(3, .v (.int .i64 (x3)))] ∧ M' = [] ∧ J4 x3 = some r) rfl ?_ ?_
  · rintro L' V5 M' ⟨x3, rfl, rfl, hF⟩
    subst hJ4
    refine Exec.run tyOk 400 rfl ?_
    obtain rfl := some_inj hF
    exact Exec.ret tyOk rfl rfl rfl
  · skip
    refine Exec.run tyOk 400 rfl ?_
    refine Exec.loop (fun n8 L' V' M' => ∃ (x6 : Int) (x7 : Int), L' = [(0, .v (.slice a2 ((x1).length) (k2))), (3, .v (.int .i64 (x6))), (4, .v (.int .i64 (x7)))] ∧ M' = [] ∧ SlAt cTSpan V' a2 k2 x1 ∧ F_clockworkref28_Makespan_L1 x1 J4 n8 x6 x7 = some r) ⟨(((((x1).length : Nat) : Int)).toNat + 1), [(0, .v (.slice a2 ((x1).length) (k2))), (3, .v (.int .i64 ((0 : Int)))), (4, .v (.int .i64 ((0 : Int))))], ⟨rfl, rfl, rfl, trivial⟩, (0 : Int), (0 : Int), rfl, rfl, h2, hF⟩ ?_
    rintro n8 L' V9 M' ⟨x6, x7, rfl, rfl, h10, hF⟩
    rcases n8 with _ | n8
    · exact absurd hF (by simp [F_clockworkref28_Makespan_L1])
    rw [F_clockworkref28_Makespan_L1] at hF
    refine Exec.run tyOk 400 rfl ?_
    rcases cond_some hF with ⟨hb, hF⟩ | ⟨hb, hF⟩
    · skip
      refine Exec.ifT rfl hb ?_
      refine Exec.run tyOk 400 rfl ?_
      obtain ⟨q11, hF⟩ := req_some hF
      obtain ⟨c12, hr12, hd12⟩ := SlAt.get h10 q11
      obtain rfl := hr12
      refine Exec.ia tyOk rfl rfl ⟨q11.1, q11.2, hd12.some⟩ ?_
      refine Exec.run tyOk 400 rfl ?_
      refine Exec.ld tyOk (x := .int .i64 ((atI x1 x7).End)) rfl rfl (RdAt.part hd12 3 1 rfl) rfl rfl ?_
      refine Exec.run tyOk 400 rfl ?_
      exact Exec.round [(0, .v (.slice a2 ((x1).length) (k2))), (3, .v (.int .i64 ((max x6 (atI x1 x7).End)))), (4, .v (.int .i64 ((IntKind.i64.wrap (x7 + (1 : Int))))))] ⟨rfl, rfl, rfl, trivial⟩ ⟨n8, Nat.lt_succ_self _, (max x6 (atI x1 x7).End), (IntKind.i64.wrap (x7 + (1 : Int))), rfl, rfl, h10, hF⟩
    · skip
      refine Exec.ifF rfl hb ?_
      refine Exec.run tyOk 400 rfl ?_
      exact Exec.round [(3, .v (.int .i64 (x6)))] ⟨rfl, trivial⟩ ⟨x6, rfl, rfl, hF⟩

def F_clockworkref28_Earliest_L2 (x13 : Int) (x1 : List (List Int)) (x12 : List TSpan) (J20 : Int → Option (List TSpan)) : Nat → Int → Int → Option (List TSpan)
  | 0, _, _ => none
  | n31 + 1, x29, x30 => (req (0 ≤ x13 ∧ x13 < ((x1).length : Int)) (cond (decide (x30 < ((((atI x1 x13)).length : Nat) : Int))) (req (0 ≤ x13 ∧ x13 < ((x1).length : Int)) (req (0 ≤ x30 ∧ x30 < (((atI x1 x13)).length : Int)) (req (0 ≤ (atI ((atI x1 x13)) x30) ∧ (atI ((atI x1 x13)) x30) < ((x12).length : Int)) (F_clockworkref28_Earliest_L2 x13 x1 x12 J20 n31 ((max x29 (atI x12 ((atI ((atI x1 x13)) x30))).End)) ((IntKind.i64.wrap (x30 + (1 : Int)))))))) (J20 x29)))

def F_clockworkref28_Earliest_L1 (x1 : List (List Int)) (x3 : List Int) (J8 : (List TSpan) → Option (List TSpan)) : Nat → (List TSpan) → Int → Option (List TSpan)
  | 0, _, _ => none
  | n14 + 1, x12, x13 => (cond (decide (x13 < (((x1).length : Nat) : Int))) (jn (fun (x19 : Int) => (req (0 ≤ x13 ∧ x13 < ((x3).length : Int)) (req (((x12 ++ [(⟨x13, x13, x19, (IntKind.i64.wrap (x19 + (atI x3 x13)))⟩ : TSpan)])).length * 32 ≤ 140737488355328) (F_clockworkref28_Earliest_L1 x1 x3 J8 n14 ((x12 ++ [(⟨x13, x13, x19, (IntKind.i64.wrap (x19 + (atI x3 x13)))⟩ : TSpan)])) ((IntKind.i64.wrap (x13 + (1 : Int)))))))) (fun J20 => (F_clockworkref28_Earliest_L2 x13 x1 x12 J20 (1000000 : Nat) ((0 : Int)) ((0 : Int))))) (J8 x12))

def F_clockworkref28_Earliest (x1 : List (List Int)) (x3 : List Int) : Option (List TSpan) :=
  (jn (fun (x7 : List TSpan) => (some x7)) (fun J8 => (F_clockworkref28_Earliest_L1 x1 x3 J8 (((((x1).length : Nat) : Int)).toNat + 1) (([] : List TSpan)) ((0 : Int)))))

set_option maxRecDepth 100000 in
theorem W_clockworkref28_Earliest {V : View} (x1 : List (List Int)) (x3 : List Int) {a2 : Option Addr} {k2 : Nat} {a4 : Option Addr} {k4 : Nat} (h2 : SlAt (cSl (cInt .i64)) V a2 k2 x1) (h4 : SlAt (cInt .i64) V a4 k4 x3) {r : List TSpan} (hF : F_clockworkref28_Earliest x1 x3 = some r) :
    Spec Try.prog 25 [.slice a2 ((x1).length) (k2), .slice a4 ((x3).length) (k4)] V (fun V' v => ∃ (a46 : Option Addr) (k46 : Nat), v = .slice a46 ((r).length) (k46) ∧ SlAt cTSpan V' a46 k46 r) := by
  unfold F_clockworkref28_Earliest at hF
  refine Spec.enter (T := tyT) Try.func25 rfl (by kernel_rfl) rfl rfl rfl ?_
  refine Exec.run tyOk 13 rfl ?_
  refine Exec.row0 31 4 rfl ?_
  have h5 : RowRep cTSpan V ([] : List TSpan) [] := RowRep.nil
  obtain ⟨J8, hJ8, hF⟩ := jn_some hF
  refine Exec.seam (fun L' V' M' => ∃ (x7 : List TSpan) (a6 : Option Addr) (k6 : Nat) (cs6 : List Value), L' = [(5, .v (.slice a6 ((x7).length) (k6)))] ∧ M' = [.row (.slice a6 ((x7).length) (k6)) cs6 31 4] ∧ RowRep cTSpan V' x7 cs6 ∧ J8 x7 = some r) rfl ?_ ?_
  · rintro L' V9 M' ⟨x7, a6, k6, cs6, rfl, rfl, h6, hF⟩
    subst hJ8
    refine Exec.run tyOk 400 rfl ?_
    refine Exec.frz 0 rfl rfl rfl (fun V10 hv10 hd10 hn10 => ?_)
    have hz10 := RowRep.slat h6 hv10 hd10 hn10
    obtain rfl := some_inj hF
    exact Exec.ret tyOk rfl rfl ⟨_, _, rfl, hz10⟩
  · skip
    refine Exec.run tyOk 400 rfl ?_
    refine Exec.loop (fun n14 L' V' M' => ∃ (x12 : List TSpan) (a11 : Option Addr) (k11 : Nat) (cs11 : List Value) (x13 : Int), L' = [(0, .v (.slice a2 ((x1).length) (k2))), (1, .v (.slice a4 ((x3).length) (k4))), (5, .v (.slice a11 ((x12).length) (k11))), (6, .v (.int .i64 (x13)))] ∧ M' = [.row (.slice a11 ((x12).length) (k11)) cs11 31 4] ∧ RowRep cTSpan V' x12 cs11 ∧ SlAt (cSl (cInt .i64)) V' a2 k2 x1 ∧ SlAt (cInt .i64) V' a4 k4 x3 ∧ F_clockworkref28_Earliest_L1 x1 x3 J8 n14 x12 x13 = some r) ⟨(((((x1).length : Nat) : Int)).toNat + 1), [(0, .v (.slice a2 ((x1).length) (k2))), (1, .v (.slice a4 ((x3).length) (k4))), (5, .v (.slice none ((([] : List TSpan)).length) (0))), (6, .v (.int .i64 ((0 : Int))))], ⟨rfl, rfl, rfl, rfl, trivial⟩, ([] : List TSpan), none, 0, [], (0 : Int), rfl, rfl, h5, h2, h4, hF⟩ ?_
    rintro n14 L' V15 M' ⟨x12, a11, k11, cs11, x13, rfl, rfl, h11, h16, h17, hF⟩
    rcases n14 with _ | n14
    · exact absurd hF (by simp [F_clockworkref28_Earliest_L1])
    rw [F_clockworkref28_Earliest_L1] at hF
    refine Exec.run tyOk 400 rfl ?_
    rcases cond_some hF with ⟨hb, hF⟩ | ⟨hb, hF⟩
    · skip
      refine Exec.ifT rfl hb ?_
      refine Exec.run tyOk 12 rfl ?_
      obtain ⟨J20, hJ20, hF⟩ := jn_some hF
      refine Exec.seam (fun L' V' M' => ∃ (x19 : Int), L' = [(0, .v (.slice a2 ((x1).length) (k2))), (1, .v (.slice a4 ((x3).length) (k4))), (5, .v (.slice a11 ((x12).length) (k11))), (6, .v (.int .i64 (x13))), (7, .v (.int .i64 (x19)))] ∧ M' = [.row (.slice a11 ((x12).length) (k11)) cs11 31 4] ∧ RowRep cTSpan V' x12 cs11 ∧ SlAt (cSl (cInt .i64)) V' a2 k2 x1 ∧ SlAt (cInt .i64) V' a4 k4 x3 ∧ J20 x19 = some r) rfl ?_ ?_
      · rintro L' V21 M' ⟨x19, rfl, rfl, h18, h22, h23, hF⟩
        subst hJ20
        refine Exec.run tyOk 400 rfl ?_
        obtain ⟨q24, hF⟩ := req_some hF
        obtain ⟨c25, hr25, hd25⟩ := SlAt.get h23 q24
        obtain rfl := hr25
        refine Exec.ia tyOk rfl rfl ⟨q24.1, q24.2, hd25.some⟩ ?_
        refine Exec.run tyOk 400 rfl ?_
        refine Exec.ld tyOk (x := .int .i64 ((atI x3 x13))) rfl rfl hd25 rfl rfl ?_
        refine Exec.run tyOk 400 rfl ?_
        refine Exec.bsl tyOk rfl rfl ?_
        refine Exec.run tyOk 400 rfl ?_
        obtain ⟨q27, hF⟩ := req_some hF
        refine Exec.app tyOk 0 1 (nm := ((x12 ++ [(⟨x13, x13, x19, (IntKind.i64.wrap (x19 + (atI x3 x13)))⟩ : TSpan)])).length) rfl rfl rfl rfl rfl rfl rfl rfl rfl (by simp) (fun _ _ => rfl) rfl q27 (fun a26 k26 => ?_)
        have h26 : RowRep cTSpan V21 (x12 ++ [(⟨x13, x13, x19, (IntKind.i64.wrap (x19 + (atI x3 x13)))⟩ : TSpan)]) (cs11 ++ [.int .i64 (x13), .int .i64 (x13), .int .i64 (x19), .int .i64 ((IntKind.i64.wrap (x19 + (atI x3 x13))))]) := RowRep.app h18 ⟨_, _, rfl, rfl, rfl⟩
        refine Exec.run tyOk 400 rfl ?_
        refine Exec.cut 1 [(0, .v (.slice a2 ((x1).length) (k2))), (1, .v (.slice a4 ((x3).length) (k4))), (5, .v (.slice a26 (((x12 ++ [(⟨x13, x13, x19, (IntKind.i64.wrap (x19 + (atI x3 x13)))⟩ : TSpan)])).length) (k26))), (6, .v (.int .i64 ((IntKind.i64.wrap (x13 + (1 : Int))))))] (M' := [.row (.slice a26 (((x12 ++ [(⟨x13, x13, x19, (IntKind.i64.wrap (x19 + (atI x3 x13)))⟩ : TSpan)])).length) (k26)) ((cs11 ++ [.int .i64 (x13), .int .i64 (x13), .int .i64 (x19), .int .i64 ((IntKind.i64.wrap (x19 + (atI x3 x13))))])) 31 4]) rfl ⟨rfl, rfl, rfl, rfl, trivial⟩ rfl rfl rfl ?_
        exact Exec.round [(0, .v (.slice a2 ((x1).length) (k2))), (1, .v (.slice a4 ((x3).length) (k4))), (5, .v (.slice a26 (((x12 ++ [(⟨x13, x13, x19, (IntKind.i64.wrap (x19 + (atI x3 x13)))⟩ : TSpan)])).length) (k26))), (6, .v (.int .i64 ((IntKind.i64.wrap (x13 + (1 : Int))))))] ⟨rfl, rfl, rfl, rfl, trivial⟩ ⟨n14, Nat.lt_succ_self _, (x12 ++ [(⟨x13, x13, x19, (IntKind.i64.wrap (x19 + (atI x3 x13)))⟩ : TSpan)]), a26, k26, (cs11 ++ [.int .i64 (x13), .int .i64 (x13), .int .i64 (x19), .int .i64 ((IntKind.i64.wrap (x19 + (atI x3 x13))))]), (IntKind.i64.wrap (x13 + (1 : Int))), rfl, rfl, h26, h22, h23, hF⟩
      · skip
        refine Exec.run tyOk 400 rfl ?_
        refine Exec.loop (fun n31 L' V' M' => ∃ (x29 : Int) (x30 : Int), L' = [(0, .v (.slice a2 ((x1).length) (k2))), (1, .v (.slice a4 ((x3).length) (k4))), (5, .v (.slice a11 ((x12).length) (k11))), (6, .v (.int .i64 (x13))), (7, .v (.int .i64 (x29))), (8, .v (.int .i64 (x30)))] ∧ M' = [.row (.slice a11 ((x12).length) (k11)) cs11 31 4] ∧ RowRep cTSpan V' x12 cs11 ∧ SlAt (cSl (cInt .i64)) V' a2 k2 x1 ∧ SlAt (cInt .i64) V' a4 k4 x3 ∧ F_clockworkref28_Earliest_L2 x13 x1 x12 J20 n31 x29 x30 = some r) ⟨(1000000 : Nat), [(0, .v (.slice a2 ((x1).length) (k2))), (1, .v (.slice a4 ((x3).length) (k4))), (5, .v (.slice a11 ((x12).length) (k11))), (6, .v (.int .i64 (x13))), (7, .v (.int .i64 ((0 : Int)))), (8, .v (.int .i64 ((0 : Int))))], ⟨rfl, rfl, rfl, rfl, rfl, rfl, trivial⟩, (0 : Int), (0 : Int), rfl, rfl, h11, h16, h17, hF⟩ ?_
        rintro n31 L' V32 M' ⟨x29, x30, rfl, rfl, h28, h33, h34, hF⟩
        rcases n31 with _ | n31
        · exact absurd hF (by simp [F_clockworkref28_Earliest_L2])
        rw [F_clockworkref28_Earliest_L2] at hF
        refine Exec.run tyOk 400 rfl ?_
        obtain ⟨q35, hF⟩ := req_some hF
        obtain ⟨c36, hr36, hd36⟩ := SlAt.get h33 q35
        obtain ⟨a37, k37, rfl, h37⟩ := hr36
        refine Exec.ia tyOk rfl rfl ⟨q35.1, q35.2, hd36.some⟩ ?_
        refine Exec.run tyOk 400 rfl ?_
        refine Exec.ld tyOk (x := .slice a37 (((atI x1 x13)).length) (k37)) rfl rfl hd36 rfl rfl ?_
        refine Exec.run tyOk 400 rfl ?_
        rcases cond_some hF with ⟨hb, hF⟩ | ⟨hb, hF⟩
        · skip
          refine Exec.ifT rfl hb ?_
          refine Exec.run tyOk 400 rfl ?_
          obtain ⟨q38, hF⟩ := req_some hF
          obtain ⟨c39, hr39, hd39⟩ := SlAt.get h33 q38
          obtain ⟨a40, k40, rfl, h40⟩ := hr39
          refine Exec.ia tyOk rfl rfl ⟨q38.1, q38.2, hd39.some⟩ ?_
          refine Exec.run tyOk 400 rfl ?_
          refine Exec.ld tyOk (x := .slice a40 (((atI x1 x13)).length) (k40)) rfl rfl hd39 rfl rfl ?_
          refine Exec.run tyOk 400 rfl ?_
          obtain ⟨q41, hF⟩ := req_some hF
          obtain ⟨c42, hr42, hd42⟩ := SlAt.get h40 q41
          obtain rfl := hr42
          refine Exec.ia tyOk rfl rfl ⟨q41.1, q41.2, hd42.some⟩ ?_
          refine Exec.run tyOk 400 rfl ?_
          refine Exec.ld tyOk (x := .int .i64 ((atI ((atI x1 x13)) x30))) rfl rfl hd42 rfl rfl ?_
          refine Exec.run tyOk 400 rfl ?_
          obtain ⟨q43, hF⟩ := req_some hF
          refine Exec.rowI 0 rfl (fun ra44 rb44 rc44 => ?_)
          obtain ⟨c45, hr45, hd45⟩ := RowRep.get h28 q43
          obtain rfl := hr45
          have rd44 : 0 ≤ (atI ((atI x1 x13)) x30) ∧ (atI ((atI x1 x13)) x30) < (((x12).length : Nat) : Int) := q43
          have rs44 := rb44 (by omega)
          refine Exec.ia tyOk rfl rfl ⟨rd44.1, rd44.2, rs44⟩ ?_
          refine Exec.run tyOk 400 rfl ?_
          refine Exec.ldR tyOk 0 (x := .int .i64 ((atI x12 ((atI ((atI x1 x13)) x30))).End)) rfl rfl rfl ⟨(CellsAt.part hd45 3 1 rfl), rs44⟩ rfl rfl ?_
          refine Exec.run tyOk 400 rfl ?_
          exact Exec.round [(0, .v (.slice a2 ((x1).length) (k2))), (1, .v (.slice a4 ((x3).length) (k4))), (5, .v (.slice a11 ((x12).length) (k11))), (6, .v (.int .i64 (x13))), (7, .v (.int .i64 ((max x29 (atI x12 ((atI ((atI x1 x13)) x30))).End)))), (8, .v (.int .i64 ((IntKind.i64.wrap (x30 + (1 : Int))))))] ⟨rfl, rfl, rfl, rfl, rfl, rfl, trivial⟩ ⟨n31, Nat.lt_succ_self _, (max x29 (atI x12 ((atI ((atI x1 x13)) x30))).End), (IntKind.i64.wrap (x30 + (1 : Int))), rfl, rfl, h28, h33, h34, hF⟩
        · skip
          refine Exec.ifF rfl hb ?_
          refine Exec.run tyOk 400 rfl ?_
          exact Exec.round [(0, .v (.slice a2 ((x1).length) (k2))), (1, .v (.slice a4 ((x3).length) (k4))), (5, .v (.slice a11 ((x12).length) (k11))), (6, .v (.int .i64 (x13))), (7, .v (.int .i64 (x29)))] ⟨rfl, rfl, rfl, rfl, rfl, trivial⟩ ⟨x29, rfl, rfl, h28, h33, h34, hF⟩
    · skip
      refine Exec.ifF rfl hb ?_
      refine Exec.run tyOk 400 rfl ?_
      exact Exec.round [(5, .v (.slice a11 ((x12).length) (k11)))] ⟨rfl, trivial⟩ ⟨x12, a11, k11, cs11, rfl, rfl, h11, hF⟩

def F_clockworkref19_Few_L1 (x1 : TFootprint) (J9 : Option Bool) : Nat → Int → Option Bool
  | 0, _ => none
  | n12 + 1, x11 => (cond (decide (x11 < (((x1.Writes).length : Nat) : Int))) (req (0 ≤ x11 ∧ x11 < ((x1.Writes).length : Int)) (cond (decide ((100 : Int) < (((atI x1.Writes x11)).length : Int))) (some false) (F_clockworkref19_Few_L1 x1 J9 n12 ((IntKind.i64.wrap (x11 + (1 : Int))))))) J9)

def F_clockworkref19_Few_L2 (x1 : TFootprint) (J5 : Option Bool) : Nat → Int → Option Bool
  | 0, _ => none
  | n19 + 1, x18 => (cond (decide (x18 < (((x1.Reads).length : Nat) : Int))) (req (0 ≤ x18 ∧ x18 < ((x1.Reads).length : Int)) (cond (decide ((100 : Int) < (((atI x1.Reads x18)).length : Int))) (some false) (F_clockworkref19_Few_L2 x1 J5 n19 ((IntKind.i64.wrap (x18 + (1 : Int))))))) J5)

def F_clockworkref19_Few (x1 : TFootprint) (x4 : Int) : Option Bool :=
  (cond ((decide (x4 < (((x1.Reads).length : Nat) : Int))) || (decide (x4 < (((x1.Writes).length : Nat) : Int)))) (some false) (jn ((jn ((some true)) (fun J9 => (F_clockworkref19_Few_L1 x1 J9 (((((x1.Writes).length : Nat) : Int)).toNat + 1) ((0 : Int)))))) (fun J5 => (F_clockworkref19_Few_L2 x1 J5 (((((x1.Reads).length : Nat) : Int)).toNat + 1) ((0 : Int))))))

set_option maxRecDepth 100000 in
theorem W_clockworkref19_Few {V : View} (x1 : TFootprint) (x4 : Int) {a2 : Option Addr} {k2 : Nat} {a3 : Option Addr} {k3 : Nat} (h2 : SlAt cStr V a2 k2 x1.Reads) (h3 : SlAt cStr V a3 k3 x1.Writes) {r : Bool} (hF : F_clockworkref19_Few x1 x4 = some r) :
    Spec Try.prog 26 [.agg ⟨[.bool (x1.All), .slice a2 ((x1.Reads).length) (k2), .slice a3 ((x1.Writes).length) (k3)]⟩, .int .i64 (x4)] V (fun _ v => v = .bool (r)) := by
  unfold F_clockworkref19_Few at hF
  refine Spec.enter (T := tyT) Try.func26 rfl (by kernel_rfl) rfl rfl rfl ?_
  refine Exec.run tyOk 400 rfl ?_
  rcases cond_some hF with ⟨hb, hF⟩ | ⟨hb, hF⟩
  · skip
    refine Exec.ifT rfl hb ?_
    refine Exec.run tyOk 400 rfl ?_
    obtain rfl := some_inj hF
    exact Exec.ret tyOk rfl rfl rfl
  · skip
    refine Exec.ifF rfl hb ?_
    refine Exec.run tyOk 6 rfl ?_
    obtain ⟨J5, hJ5, hF⟩ := jn_some hF
    refine Exec.seam (fun L' V' M' => L' = [(2, .ptr 0 0)] ∧ M' = [.blk [.v (.bool (x1.All)), .v (.slice a2 ((x1.Reads).length) (k2)), .v (.slice a3 ((x1.Writes).length) (k3))] 46] ∧ SlAt cStr V' a2 k2 x1.Reads ∧ SlAt cStr V' a3 k3 x1.Writes ∧ J5 = some r) rfl ?_ ?_
    · rintro L' V6 M' ⟨rfl, rfl, h7, h8, hF⟩
      subst hJ5
      refine Exec.run tyOk 5 rfl ?_
      obtain ⟨J9, hJ9, hF⟩ := jn_some hF
      refine Exec.seam (fun L' V' M' => L' = [] ∧ M' = [] ∧ J9 = some r) rfl ?_ ?_
      · rintro L' V10 M' ⟨rfl, rfl, hF⟩
        subst hJ9
        refine Exec.run tyOk 400 rfl ?_
        obtain rfl := some_inj hF
        exact Exec.ret tyOk rfl rfl rfl
      · skip
        refine Exec.run tyOk 400 rfl ?_
        refine Exec.loop (fun n12 L' V' M' => ∃ (x11 : Int), L' = [(2, .ptr 0 0), (6, .v (.int .i64 (x11)))] ∧ M' = [.blk [.v (.bool (x1.All)), .v (.slice a2 ((x1.Reads).length) (k2)), .v (.slice a3 ((x1.Writes).length) (k3))] 46] ∧ SlAt cStr V' a2 k2 x1.Reads ∧ SlAt cStr V' a3 k3 x1.Writes ∧ F_clockworkref19_Few_L1 x1 J9 n12 x11 = some r) ⟨(((((x1.Writes).length : Nat) : Int)).toNat + 1), [(2, .ptr 0 0), (6, .v (.int .i64 ((0 : Int))))], ⟨rfl, rfl, trivial⟩, (0 : Int), rfl, rfl, h7, h8, hF⟩ ?_
        rintro n12 L' V13 M' ⟨x11, rfl, rfl, h14, h15, hF⟩
        rcases n12 with _ | n12
        · exact absurd hF (by simp [F_clockworkref19_Few_L1])
        rw [F_clockworkref19_Few_L1] at hF
        refine Exec.run tyOk 400 rfl ?_
        rcases cond_some hF with ⟨hb, hF⟩ | ⟨hb, hF⟩
        · skip
          refine Exec.ifT rfl hb ?_
          refine Exec.run tyOk 400 rfl ?_
          obtain ⟨q16, hF⟩ := req_some hF
          obtain ⟨c17, hr17, hd17⟩ := SlAt.get h15 q16
          obtain rfl := hr17
          refine Exec.ia tyOk rfl rfl ⟨q16.1, q16.2, hd17.some⟩ ?_
          refine Exec.run tyOk 400 rfl ?_
          refine Exec.ld tyOk (x := .string ⟨⟨(atI x1.Writes x11)⟩⟩) rfl rfl hd17 rfl rfl ?_
          refine Exec.run tyOk 400 rfl ?_
          rcases cond_some hF with ⟨hb, hF⟩ | ⟨hb, hF⟩
          · skip
            refine Exec.ifT rfl hb ?_
            refine Exec.run tyOk 400 rfl ?_
            obtain rfl := some_inj hF
            exact Exec.ret tyOk rfl rfl rfl
          · skip
            refine Exec.ifF rfl hb ?_
            refine Exec.run tyOk 400 rfl ?_
            exact Exec.round [(2, .ptr 0 0), (6, .v (.int .i64 ((IntKind.i64.wrap (x11 + (1 : Int))))))] ⟨rfl, rfl, trivial⟩ ⟨n12, Nat.lt_succ_self _, (IntKind.i64.wrap (x11 + (1 : Int))), rfl, rfl, h14, h15, hF⟩
        · skip
          refine Exec.ifF rfl hb ?_
          refine Exec.run tyOk 400 rfl ?_
          refine Exec.cut 0 [] (M' := []) rfl trivial rfl rfl rfl ?_
          exact Exec.round [] trivial ⟨rfl, rfl, hF⟩
    · skip
      refine Exec.run tyOk 400 rfl ?_
      refine Exec.loop (fun n19 L' V' M' => ∃ (x18 : Int), L' = [(2, .ptr 0 0), (5, .v (.int .i64 (x18)))] ∧ M' = [.blk [.v (.bool (x1.All)), .v (.slice a2 ((x1.Reads).length) (k2)), .v (.slice a3 ((x1.Writes).length) (k3))] 46] ∧ SlAt cStr V' a2 k2 x1.Reads ∧ SlAt cStr V' a3 k3 x1.Writes ∧ F_clockworkref19_Few_L2 x1 J5 n19 x18 = some r) ⟨(((((x1.Reads).length : Nat) : Int)).toNat + 1), [(2, .ptr 0 0), (5, .v (.int .i64 ((0 : Int))))], ⟨rfl, rfl, trivial⟩, (0 : Int), rfl, rfl, h2, h3, hF⟩ ?_
      rintro n19 L' V20 M' ⟨x18, rfl, rfl, h21, h22, hF⟩
      rcases n19 with _ | n19
      · exact absurd hF (by simp [F_clockworkref19_Few_L2])
      rw [F_clockworkref19_Few_L2] at hF
      refine Exec.run tyOk 400 rfl ?_
      rcases cond_some hF with ⟨hb, hF⟩ | ⟨hb, hF⟩
      · skip
        refine Exec.ifT rfl hb ?_
        refine Exec.run tyOk 400 rfl ?_
        obtain ⟨q23, hF⟩ := req_some hF
        obtain ⟨c24, hr24, hd24⟩ := SlAt.get h21 q23
        obtain rfl := hr24
        refine Exec.ia tyOk rfl rfl ⟨q23.1, q23.2, hd24.some⟩ ?_
        refine Exec.run tyOk 400 rfl ?_
        refine Exec.ld tyOk (x := .string ⟨⟨(atI x1.Reads x18)⟩⟩) rfl rfl hd24 rfl rfl ?_
        refine Exec.run tyOk 400 rfl ?_
        rcases cond_some hF with ⟨hb, hF⟩ | ⟨hb, hF⟩
        · skip
          refine Exec.ifT rfl hb ?_
          refine Exec.run tyOk 400 rfl ?_
          obtain rfl := some_inj hF
          exact Exec.ret tyOk rfl rfl rfl
        · skip
          refine Exec.ifF rfl hb ?_
          refine Exec.run tyOk 400 rfl ?_
          exact Exec.round [(2, .ptr 0 0), (5, .v (.int .i64 ((IntKind.i64.wrap (x18 + (1 : Int))))))] ⟨rfl, rfl, trivial⟩ ⟨n19, Nat.lt_succ_self _, (IntKind.i64.wrap (x18 + (1 : Int))), rfl, rfl, h21, h22, hF⟩
      · skip
        refine Exec.ifF rfl hb ?_
        refine Exec.run tyOk 400 rfl ?_
        exact Exec.round [(2, .ptr 0 0)] ⟨rfl, trivial⟩ ⟨rfl, rfl, h21, h22, hF⟩

def F_timeline_validCosts_L1 (x2 : List Int) (J4 : Option Bool) : Nat → Int → Option Bool
  | 0, _ => none
  | n7 + 1, x6 => (cond (decide (x6 < (((x2).length : Nat) : Int))) (req (0 ≤ x6 ∧ x6 < ((x2).length : Int)) (cond ((decide ((atI x2 x6) < (1 : Int))) || (decide ((1000 : Int) < (atI x2 x6)))) (some false) (F_timeline_validCosts_L1 x2 J4 n7 ((IntKind.i64.wrap (x6 + (1 : Int))))))) J4)

def F_timeline_validCosts (x1 : Int) (x2 : List Int) : Option Bool :=
  (cond ((x1 != (((x2).length : Nat) : Int)) || (decide ((128 : Int) < x1))) (some false) (jn ((some true)) (fun J4 => (F_timeline_validCosts_L1 x2 J4 (((((x2).length : Nat) : Int)).toNat + 1) ((0 : Int))))))

set_option maxRecDepth 100000 in
theorem W_timeline_validCosts {V : View} (x1 : Int) (x2 : List Int) {a3 : Option Addr} {k3 : Nat} (h3 : SlAt (cInt .i64) V a3 k3 x2) {r : Bool} (hF : F_timeline_validCosts x1 x2 = some r) :
    Spec Try.prog 27 [.int .i64 (x1), .slice a3 ((x2).length) (k3)] V (fun _ v => v = .bool (r)) := by
  unfold F_timeline_validCosts at hF
  refine Spec.enter (T := tyT) Try.func27 rfl (by kernel_rfl) rfl rfl rfl ?_
  refine Exec.run tyOk 400 rfl ?_
  rcases cond_some hF with ⟨hb, hF⟩ | ⟨hb, hF⟩
  · skip
    refine Exec.ifT rfl hb ?_
    refine Exec.run tyOk 400 rfl ?_
    obtain rfl := some_inj hF
    exact Exec.ret tyOk rfl rfl rfl
  · skip
    refine Exec.ifF rfl hb ?_
    refine Exec.run tyOk 8 rfl ?_
    obtain ⟨J4, hJ4, hF⟩ := jn_some hF
    refine Exec.seam (fun L' V' M' => L' = [] ∧ M' = [] ∧ J4 = some r) rfl ?_ ?_
    · rintro L' V5 M' ⟨rfl, rfl, hF⟩
      subst hJ4
      refine Exec.run tyOk 400 rfl ?_
      obtain rfl := some_inj hF
      exact Exec.ret tyOk rfl rfl rfl
    · skip
      refine Exec.run tyOk 400 rfl ?_
      refine Exec.loop (fun n7 L' V' M' => ∃ (x6 : Int), L' = [(15, .v (.slice a3 ((x2).length) (k3))), (16, .v (.int .i64 ((((x2).length : Nat) : Int)))), (17, .v (.int .i64 (x6)))] ∧ M' = [] ∧ SlAt (cInt .i64) V' a3 k3 x2 ∧ F_timeline_validCosts_L1 x2 J4 n7 x6 = some r) ⟨(((((x2).length : Nat) : Int)).toNat + 1), [(15, .v (.slice a3 ((x2).length) (k3))), (16, .v (.int .i64 ((((x2).length : Nat) : Int)))), (17, .v (.int .i64 ((0 : Int))))], ⟨rfl, rfl, rfl, trivial⟩, (0 : Int), rfl, rfl, h3, hF⟩ ?_
      rintro n7 L' V8 M' ⟨x6, rfl, rfl, h9, hF⟩
      rcases n7 with _ | n7
      · exact absurd hF (by simp [F_timeline_validCosts_L1])
      rw [F_timeline_validCosts_L1] at hF
      refine Exec.run tyOk 400 rfl ?_
      rcases cond_some hF with ⟨hb, hF⟩ | ⟨hb, hF⟩
      · skip
        refine Exec.ifT rfl hb ?_
        refine Exec.run tyOk 400 rfl ?_
        obtain ⟨q10, hF⟩ := req_some hF
        obtain ⟨c11, hr11, hd11⟩ := SlAt.get h9 q10
        obtain rfl := hr11
        refine Exec.ia tyOk rfl rfl ⟨q10.1, q10.2, hd11.some⟩ ?_
        refine Exec.run tyOk 400 rfl ?_
        refine Exec.ld tyOk (x := .int .i64 ((atI x2 x6))) rfl rfl hd11 rfl rfl ?_
        refine Exec.run tyOk 400 rfl ?_
        rcases cond_some hF with ⟨hb, hF⟩ | ⟨hb, hF⟩
        · skip
          refine Exec.ifT rfl hb ?_
          refine Exec.run tyOk 400 rfl ?_
          obtain rfl := some_inj hF
          exact Exec.ret tyOk rfl rfl rfl
        · skip
          refine Exec.ifF rfl hb ?_
          refine Exec.run tyOk 400 rfl ?_
          exact Exec.round [(15, .v (.slice a3 ((x2).length) (k3))), (16, .v (.int .i64 ((((x2).length : Nat) : Int)))), (17, .v (.int .i64 ((IntKind.i64.wrap (x6 + (1 : Int))))))] ⟨rfl, rfl, rfl, trivial⟩ ⟨n7, Nat.lt_succ_self _, (IntKind.i64.wrap (x6 + (1 : Int))), rfl, rfl, h9, hF⟩
      · skip
        refine Exec.ifF rfl hb ?_
        refine Exec.run tyOk 400 rfl ?_
        exact Exec.round [] trivial ⟨rfl, rfl, hF⟩

def F_timeline_earliest_L2 (x1 : List (List Int)) (x15 : Int) (x14 : List TSpan) (J25 : Int → Option (List TSpan)) : Nat → Int → Int → Option (List TSpan)
  | 0, _, _ => none
  | n36 + 1, x34, x35 => (cond (decide (x35 < ((((atI x1 x15)).length : Nat) : Int))) (req (0 ≤ x35 ∧ x35 < (((atI x1 x15)).length : Int)) (req (0 ≤ (atI ((atI x1 x15)) x35) ∧ (atI ((atI x1 x15)) x35) < ((x14).length : Int)) (F_timeline_earliest_L2 x1 x15 x14 J25 n36 ((max x34 (atI x14 ((atI ((atI x1 x15)) x35))).End)) ((IntKind.i64.wrap (x35 + (1 : Int))))))) (J25 x34))

def F_timeline_earliest_L1 (x3 : List Int) (x1 : List (List Int)) (J10 : (List TSpan) → Option (List TSpan)) : Nat → (List TSpan) → Int → Option (List TSpan)
  | 0, _, _ => none
  | n16 + 1, x14, x15 => (cond (decide (x15 < (((x3).length : Nat) : Int))) (req (0 ≤ x15 ∧ x15 < ((x1).length : Int)) (jn (fun (x24 : Int) => (req (0 ≤ x15 ∧ x15 < ((x3).length : Int)) (req (((x14 ++ [(⟨x15, x15, x24, (IntKind.i64.wrap (x24 + (atI x3 x15)))⟩ : TSpan)])).length * 32 ≤ 140737488355328) (F_timeline_earliest_L1 x3 x1 J10 n16 ((x14 ++ [(⟨x15, x15, x24, (IntKind.i64.wrap (x24 + (atI x3 x15)))⟩ : TSpan)])) ((IntKind.i64.wrap (x15 + (1 : Int)))))))) (fun J25 => (F_timeline_earliest_L2 x1 x15 x14 J25 ((((((atI x1 x15)).length : Nat) : Int)).toNat + 1) ((0 : Int)) ((0 : Int)))))) (J10 x14))

def F_timeline_earliest (x1 : List (List Int)) (x3 : List Int) : Option (List TSpan) :=
  (req (0 ≤ (0 : Int) ∧ (0 : Int) ≤ (((x3).length : Nat) : Int)) (req (32 * ((((x3).length : Nat) : Int)).toNat ≤ 281474976710656) (jn (fun (x9 : List TSpan) => (some x9)) (fun J10 => (F_timeline_earliest_L1 x3 x1 J10 (((((x3).length : Nat) : Int)).toNat + 1) ((List.replicate ((0 : Int)).toNat (default : TSpan))) ((0 : Int)))))))

set_option maxRecDepth 100000 in
theorem W_timeline_earliest {V : View} (x1 : List (List Int)) (x3 : List Int) {a2 : Option Addr} {k2 : Nat} {a4 : Option Addr} {k4 : Nat} (h2 : SlAt (cSl (cInt .i64)) V a2 k2 x1) (h4 : SlAt (cInt .i64) V a4 k4 x3) {r : List TSpan} (hF : F_timeline_earliest x1 x3 = some r) :
    Spec Try.prog 29 [.slice a2 ((x1).length) (k2), .slice a4 ((x3).length) (k4)] V (fun V' v => ∃ (a46 : Option Addr) (k46 : Nat), v = .slice a46 ((r).length) (k46) ∧ SlAt cTSpan V' a46 k46 r) := by
  unfold F_timeline_earliest at hF
  refine Spec.enter (T := tyT) Try.func29 rfl (by kernel_rfl) rfl rfl rfl ?_
  refine Exec.run tyOk 400 rfl ?_
  obtain ⟨q5, hF⟩ := req_some hF
  obtain ⟨q6, hF⟩ := req_some hF
  refine Exec.mkr tyOk rfl rfl rfl rfl (nm := ((List.replicate ((0 : Int)).toNat (default : TSpan))).length) (by simp) q5 q6 (fun _ => rfl) (fun a7 => ?_)
  have h7 : RowRep cTSpan V (List.replicate ((0 : Int)).toNat (default : TSpan)) ((List.replicate ((List.replicate ((0 : Int)).toNat (default : TSpan))).length [.int .i64 (0), .int .i64 (0), .int .i64 (0), .int .i64 (0)]).flatten) := by rw [List.length_replicate]; exact RowRep.reps (c := cTSpan) rfl _
  refine Exec.run tyOk 9 rfl ?_
  obtain ⟨J10, hJ10, hF⟩ := jn_some hF
  refine Exec.seam (fun L' V' M' => ∃ (x9 : List TSpan) (a8 : Option Addr) (k8 : Nat) (cs8 : List Value), L' = [(5, .v (.slice a8 ((x9).length) (k8)))] ∧ M' = [.row (.slice a8 ((x9).length) (k8)) cs8 31 4] ∧ RowRep cTSpan V' x9 cs8 ∧ J10 x9 = some r) rfl ?_ ?_
  · rintro L' V11 M' ⟨x9, a8, k8, cs8, rfl, rfl, h8, hF⟩
    subst hJ10
    refine Exec.run tyOk 400 rfl ?_
    refine Exec.frz 0 rfl rfl rfl (fun V12 hv12 hd12 hn12 => ?_)
    have hz12 := RowRep.slat h8 hv12 hd12 hn12
    obtain rfl := some_inj hF
    exact Exec.ret tyOk rfl rfl ⟨_, _, rfl, hz12⟩
  · skip
    refine Exec.run tyOk 400 rfl ?_
    refine Exec.loop (fun n16 L' V' M' => ∃ (x14 : List TSpan) (a13 : Option Addr) (k13 : Nat) (cs13 : List Value) (x15 : Int), L' = [(0, .v (.slice a2 ((x1).length) (k2))), (1, .v (.slice a4 ((x3).length) (k4))), (5, .v (.slice a13 ((x14).length) (k13))), (14, .v (.int .i64 ((((x3).length : Nat) : Int)))), (15, .v (.int .i64 (x15)))] ∧ M' = [.row (.slice a13 ((x14).length) (k13)) cs13 31 4] ∧ RowRep cTSpan V' x14 cs13 ∧ SlAt (cSl (cInt .i64)) V' a2 k2 x1 ∧ SlAt (cInt .i64) V' a4 k4 x3 ∧ F_timeline_earliest_L1 x3 x1 J10 n16 x14 x15 = some r) ⟨(((((x3).length : Nat) : Int)).toNat + 1), [(0, .v (.slice a2 ((x1).length) (k2))), (1, .v (.slice a4 ((x3).length) (k4))), (5, .v (.slice ((some a7)) (((List.replicate ((0 : Int)).toNat (default : TSpan))).length) (((((x3).length : Nat) : Int)).toNat))), (14, .v (.int .i64 ((((x3).length : Nat) : Int)))), (15, .v (.int .i64 ((0 : Int))))], ⟨rfl, rfl, rfl, rfl, rfl, trivial⟩, (List.replicate ((0 : Int)).toNat (default : TSpan)), (some a7), ((((x3).length : Nat) : Int)).toNat, ((List.replicate ((List.replicate ((0 : Int)).toNat (default : TSpan))).length [.int .i64 (0), .int .i64 (0), .int .i64 (0), .int .i64 (0)]).flatten), (0 : Int), rfl, rfl, h7, h2, h4, hF⟩ ?_
    rintro n16 L' V17 M' ⟨x14, a13, k13, cs13, x15, rfl, rfl, h13, h18, h19, hF⟩
    rcases n16 with _ | n16
    · exact absurd hF (by simp [F_timeline_earliest_L1])
    rw [F_timeline_earliest_L1] at hF
    refine Exec.run tyOk 400 rfl ?_
    rcases cond_some hF with ⟨hb, hF⟩ | ⟨hb, hF⟩
    · skip
      refine Exec.ifT rfl hb ?_
      refine Exec.run tyOk 400 rfl ?_
      obtain ⟨q20, hF⟩ := req_some hF
      obtain ⟨c21, hr21, hd21⟩ := SlAt.get h18 q20
      obtain ⟨a22, k22, rfl, h22⟩ := hr21
      refine Exec.ia tyOk rfl rfl ⟨q20.1, q20.2, hd21.some⟩ ?_
      refine Exec.run tyOk 400 rfl ?_
      refine Exec.ld tyOk (x := .slice a22 (((atI x1 x15)).length) (k22)) rfl rfl hd21 rfl rfl ?_
      refine Exec.run tyOk 3 rfl ?_
      obtain ⟨J25, hJ25, hF⟩ := jn_some hF
      refine Exec.seam (fun L' V' M' => ∃ (x24 : Int), L' = [(0, .v (.slice a2 ((x1).length) (k2))), (1, .v (.slice a4 ((x3).length) (k4))), (5, .v (.slice a13 ((x14).length) (k13))), (6, .v (.int .i64 (x15))), (7, .v (.int .i64 (x24))), (14, .v (.int .i64 ((((x3).length : Nat) : Int)))), (15, .v (.int .i64 (x15)))] ∧ M' = [.row (.slice a13 ((x14).length) (k13)) cs13 31 4] ∧ RowRep cTSpan V' x14 cs13 ∧ SlAt (cSl (cInt .i64)) V' a2 k2 x1 ∧ SlAt (cInt .i64) V' a4 k4 x3 ∧ J25 x24 = some r) rfl ?_ ?_
      · rintro L' V26 M' ⟨x24, rfl, rfl, h23, h27, h28, hF⟩
        subst hJ25
        refine Exec.run tyOk 400 rfl ?_
        obtain ⟨q29, hF⟩ := req_some hF
        obtain ⟨c30, hr30, hd30⟩ := SlAt.get h28 q29
        obtain rfl := hr30
        refine Exec.ia tyOk rfl rfl ⟨q29.1, q29.2, hd30.some⟩ ?_
        refine Exec.run tyOk 400 rfl ?_
        refine Exec.ld tyOk (x := .int .i64 ((atI x3 x15))) rfl rfl hd30 rfl rfl ?_
        refine Exec.run tyOk 400 rfl ?_
        refine Exec.bsl tyOk rfl rfl ?_
        refine Exec.run tyOk 400 rfl ?_
        obtain ⟨q32, hF⟩ := req_some hF
        refine Exec.app tyOk 0 1 (nm := ((x14 ++ [(⟨x15, x15, x24, (IntKind.i64.wrap (x24 + (atI x3 x15)))⟩ : TSpan)])).length) rfl rfl rfl rfl rfl rfl rfl rfl rfl (by simp) (fun _ _ => rfl) rfl q32 (fun a31 k31 => ?_)
        have h31 : RowRep cTSpan V26 (x14 ++ [(⟨x15, x15, x24, (IntKind.i64.wrap (x24 + (atI x3 x15)))⟩ : TSpan)]) (cs13 ++ [.int .i64 (x15), .int .i64 (x15), .int .i64 (x24), .int .i64 ((IntKind.i64.wrap (x24 + (atI x3 x15))))]) := RowRep.app h23 ⟨_, _, rfl, rfl, rfl⟩
        refine Exec.run tyOk 400 rfl ?_
        refine Exec.cut 1 [(0, .v (.slice a2 ((x1).length) (k2))), (1, .v (.slice a4 ((x3).length) (k4))), (5, .v (.slice a31 (((x14 ++ [(⟨x15, x15, x24, (IntKind.i64.wrap (x24 + (atI x3 x15)))⟩ : TSpan)])).length) (k31))), (14, .v (.int .i64 ((((x3).length : Nat) : Int)))), (15, .v (.int .i64 ((IntKind.i64.wrap (x15 + (1 : Int))))))] (M' := [.row (.slice a31 (((x14 ++ [(⟨x15, x15, x24, (IntKind.i64.wrap (x24 + (atI x3 x15)))⟩ : TSpan)])).length) (k31)) ((cs13 ++ [.int .i64 (x15), .int .i64 (x15), .int .i64 (x24), .int .i64 ((IntKind.i64.wrap (x24 + (atI x3 x15))))])) 31 4]) rfl ⟨rfl, rfl, rfl, rfl, rfl, trivial⟩ rfl rfl rfl ?_
        exact Exec.round [(0, .v (.slice a2 ((x1).length) (k2))), (1, .v (.slice a4 ((x3).length) (k4))), (5, .v (.slice a31 (((x14 ++ [(⟨x15, x15, x24, (IntKind.i64.wrap (x24 + (atI x3 x15)))⟩ : TSpan)])).length) (k31))), (14, .v (.int .i64 ((((x3).length : Nat) : Int)))), (15, .v (.int .i64 ((IntKind.i64.wrap (x15 + (1 : Int))))))] ⟨rfl, rfl, rfl, rfl, rfl, trivial⟩ ⟨n16, Nat.lt_succ_self _, (x14 ++ [(⟨x15, x15, x24, (IntKind.i64.wrap (x24 + (atI x3 x15)))⟩ : TSpan)]), a31, k31, (cs13 ++ [.int .i64 (x15), .int .i64 (x15), .int .i64 (x24), .int .i64 ((IntKind.i64.wrap (x24 + (atI x3 x15))))]), (IntKind.i64.wrap (x15 + (1 : Int))), rfl, rfl, h31, h27, h28, hF⟩
      · skip
        refine Exec.run tyOk 400 rfl ?_
        refine Exec.loop (fun n36 L' V' M' => ∃ (x34 : Int) (x35 : Int), L' = [(0, .v (.slice a2 ((x1).length) (k2))), (1, .v (.slice a4 ((x3).length) (k4))), (5, .v (.slice a13 ((x14).length) (k13))), (6, .v (.int .i64 (x15))), (7, .v (.int .i64 (x34))), (14, .v (.int .i64 ((((x3).length : Nat) : Int)))), (15, .v (.int .i64 (x15))), (21, .v (.slice a22 (((atI x1 x15)).length) (k22))), (22, .v (.int .i64 (((((atI x1 x15)).length : Nat) : Int)))), (23, .v (.int .i64 (x35)))] ∧ M' = [.row (.slice a13 ((x14).length) (k13)) cs13 31 4] ∧ RowRep cTSpan V' x14 cs13 ∧ SlAt (cSl (cInt .i64)) V' a2 k2 x1 ∧ SlAt (cInt .i64) V' a4 k4 x3 ∧ SlAt (cInt .i64) V' a22 k22 ((atI x1 x15)) ∧ F_timeline_earliest_L2 x1 x15 x14 J25 n36 x34 x35 = some r) ⟨((((((atI x1 x15)).length : Nat) : Int)).toNat + 1), [(0, .v (.slice a2 ((x1).length) (k2))), (1, .v (.slice a4 ((x3).length) (k4))), (5, .v (.slice a13 ((x14).length) (k13))), (6, .v (.int .i64 (x15))), (7, .v (.int .i64 ((0 : Int)))), (14, .v (.int .i64 ((((x3).length : Nat) : Int)))), (15, .v (.int .i64 (x15))), (21, .v (.slice a22 (((atI x1 x15)).length) (k22))), (22, .v (.int .i64 (((((atI x1 x15)).length : Nat) : Int)))), (23, .v (.int .i64 ((0 : Int))))], ⟨rfl, rfl, rfl, rfl, rfl, rfl, rfl, rfl, rfl, rfl, trivial⟩, (0 : Int), (0 : Int), rfl, rfl, h13, h18, h19, h22, hF⟩ ?_
        rintro n36 L' V37 M' ⟨x34, x35, rfl, rfl, h33, h38, h39, h40, hF⟩
        rcases n36 with _ | n36
        · exact absurd hF (by simp [F_timeline_earliest_L2])
        rw [F_timeline_earliest_L2] at hF
        refine Exec.run tyOk 400 rfl ?_
        rcases cond_some hF with ⟨hb, hF⟩ | ⟨hb, hF⟩
        · skip
          refine Exec.ifT rfl hb ?_
          refine Exec.run tyOk 400 rfl ?_
          obtain ⟨q41, hF⟩ := req_some hF
          obtain ⟨c42, hr42, hd42⟩ := SlAt.get h40 q41
          obtain rfl := hr42
          refine Exec.ia tyOk rfl rfl ⟨q41.1, q41.2, hd42.some⟩ ?_
          refine Exec.run tyOk 400 rfl ?_
          refine Exec.ld tyOk (x := .int .i64 ((atI ((atI x1 x15)) x35))) rfl rfl hd42 rfl rfl ?_
          refine Exec.run tyOk 400 rfl ?_
          obtain ⟨q43, hF⟩ := req_some hF
          refine Exec.rowI 0 rfl (fun ra44 rb44 rc44 => ?_)
          obtain ⟨c45, hr45, hd45⟩ := RowRep.get h33 q43
          obtain rfl := hr45
          have rd44 : 0 ≤ (atI ((atI x1 x15)) x35) ∧ (atI ((atI x1 x15)) x35) < (((x14).length : Nat) : Int) := q43
          have rs44 := rb44 (by omega)
          refine Exec.ia tyOk rfl rfl ⟨rd44.1, rd44.2, rs44⟩ ?_
          refine Exec.run tyOk 400 rfl ?_
          refine Exec.ldR tyOk 0 (x := .int .i64 ((atI x14 ((atI ((atI x1 x15)) x35))).End)) rfl rfl rfl ⟨(CellsAt.part hd45 3 1 rfl), rs44⟩ rfl rfl ?_
          refine Exec.run tyOk 400 rfl ?_
          exact Exec.round [(0, .v (.slice a2 ((x1).length) (k2))), (1, .v (.slice a4 ((x3).length) (k4))), (5, .v (.slice a13 ((x14).length) (k13))), (6, .v (.int .i64 (x15))), (7, .v (.int .i64 ((max x34 (atI x14 ((atI ((atI x1 x15)) x35))).End)))), (14, .v (.int .i64 ((((x3).length : Nat) : Int)))), (15, .v (.int .i64 (x15))), (21, .v (.slice a22 (((atI x1 x15)).length) (k22))), (22, .v (.int .i64 (((((atI x1 x15)).length : Nat) : Int)))), (23, .v (.int .i64 ((IntKind.i64.wrap (x35 + (1 : Int))))))] ⟨rfl, rfl, rfl, rfl, rfl, rfl, rfl, rfl, rfl, rfl, trivial⟩ ⟨n36, Nat.lt_succ_self _, (max x34 (atI x14 ((atI ((atI x1 x15)) x35))).End), (IntKind.i64.wrap (x35 + (1 : Int))), rfl, rfl, h33, h38, h39, h40, hF⟩
        · skip
          refine Exec.ifF rfl hb ?_
          refine Exec.run tyOk 400 rfl ?_
          exact Exec.round [(0, .v (.slice a2 ((x1).length) (k2))), (1, .v (.slice a4 ((x3).length) (k4))), (5, .v (.slice a13 ((x14).length) (k13))), (6, .v (.int .i64 (x15))), (7, .v (.int .i64 (x34))), (14, .v (.int .i64 ((((x3).length : Nat) : Int)))), (15, .v (.int .i64 (x15)))] ⟨rfl, rfl, rfl, rfl, rfl, rfl, rfl, trivial⟩ ⟨x34, rfl, rfl, h33, h38, h39, hF⟩
    · skip
      refine Exec.ifF rfl hb ?_
      refine Exec.run tyOk 400 rfl ?_
      exact Exec.round [(5, .v (.slice a13 ((x14).length) (k13)))] ⟨rfl, trivial⟩ ⟨x14, a13, k13, cs13, rfl, rfl, h13, hF⟩

def F_clockworkref28_costs_L1 (x1 : List Int) (J4 : Option Bool) : Nat → Int → Option Bool
  | 0, _ => none
  | n8 + 1, x7 => (cond (decide (x7 < (((x1).length : Nat) : Int))) (req (0 ≤ x7 ∧ x7 < ((x1).length : Int)) (req ((((decide ((atI x1 x7) < (1 : Int)))) == false) = true → 0 ≤ x7 ∧ x7 < ((x1).length : Int)) (cond ((decide ((atI x1 x7) < (1 : Int))) || (decide ((1000 : Int) < (cond (((decide ((atI x1 x7) < (1 : Int)))) == false) (atI x1 x7) default)))) (some false) (F_clockworkref28_costs_L1 x1 J4 n8 ((IntKind.i64.wrap (x7 + (1 : Int)))))))) J4)

def F_clockworkref28_costs (x1 : List Int) (x3 : Int) : Option Bool :=
  (jn ((some (((((x1).length : Nat) : Int) == x3) && (decide (x3 ≤ (128 : Int)))))) (fun J4 => (F_clockworkref28_costs_L1 x1 J4 (((((x1).length : Nat) : Int)).toNat + 1) ((0 : Int)))))

set_option maxRecDepth 100000 in
theorem W_clockworkref28_costs {V : View} (x1 : List Int) (x3 : Int) {a2 : Option Addr} {k2 : Nat} (h2 : SlAt (cInt .i64) V a2 k2 x1) {r : Bool} (hF : F_clockworkref28_costs x1 x3 = some r) :
    Spec Try.prog 30 [.slice a2 ((x1).length) (k2), .int .i64 (x3)] V (fun _ v => v = .bool (r)) := by
  unfold F_clockworkref28_costs at hF
  refine Spec.enter (T := tyT) Try.func30 rfl (by kernel_rfl) rfl rfl rfl ?_
  refine Exec.run tyOk 9 rfl ?_
  obtain ⟨J4, hJ4, hF⟩ := jn_some hF
  refine Exec.seam (fun L' V' M' => L' = [(0, .v (.slice a2 ((x1).length) (k2))), (1, .v (.int .i64 (x3)))] ∧ M' = [] ∧ SlAt (cInt .i64) V' a2 k2 x1 ∧ J4 = some r) rfl ?_ ?_
  · rintro L' V5 M' ⟨rfl, rfl, h6, hF⟩
    subst hJ4
    refine Exec.run tyOk 400 rfl ?_
    obtain rfl := some_inj hF
    exact Exec.ret tyOk rfl rfl rfl
  · skip
    refine Exec.run tyOk 400 rfl ?_
    refine Exec.loop (fun n8 L' V' M' => ∃ (x7 : Int), L' = [(0, .v (.slice a2 ((x1).length) (k2))), (1, .v (.int .i64 (x3))), (5, .v (.int .i64 (x7)))] ∧ M' = [] ∧ SlAt (cInt .i64) V' a2 k2 x1 ∧ F_clockworkref28_costs_L1 x1 J4 n8 x7 = some r) ⟨(((((x1).length : Nat) : Int)).toNat + 1), [(0, .v (.slice a2 ((x1).length) (k2))), (1, .v (.int .i64 (x3))), (5, .v (.int .i64 ((0 : Int))))], ⟨rfl, rfl, rfl, trivial⟩, (0 : Int), rfl, rfl, h2, hF⟩ ?_
    rintro n8 L' V9 M' ⟨x7, rfl, rfl, h10, hF⟩
    rcases n8 with _ | n8
    · exact absurd hF (by simp [F_clockworkref28_costs_L1])
    rw [F_clockworkref28_costs_L1] at hF
    refine Exec.run tyOk 400 rfl ?_
    rcases cond_some hF with ⟨hb, hF⟩ | ⟨hb, hF⟩
    · skip
      refine Exec.ifT rfl hb ?_
      refine Exec.run tyOk 400 rfl ?_
      obtain ⟨q11, hF⟩ := req_some hF
      obtain ⟨c12, hr12, hd12⟩ := SlAt.get h10 q11
      obtain rfl := hr12
      refine Exec.ia tyOk rfl rfl ⟨q11.1, q11.2, hd12.some⟩ ?_
      refine Exec.run tyOk 400 rfl ?_
      refine Exec.ld tyOk (x := .int .i64 ((atI x1 x7))) rfl rfl hd12 rfl rfl ?_
      refine Exec.run tyOk 400 rfl ?_
      obtain ⟨q13, hF⟩ := req_some hF
      obtain ⟨c14, hr14, hd14⟩ := SlAt.gget (((decide ((atI x1 x7) < (1 : Int)))) == false) h10 q13
      obtain rfl := hr14
      refine Exec.ia tyOk rfl rfl (fun gg0 => ⟨(q13 (gd1_of gg0)).1, (q13 (gd1_of gg0)).2, (hd14 (gd1_of gg0)).some⟩) ?_
      refine Exec.run tyOk 400 rfl ?_
      refine Exec.ld tyOk (x := .int .i64 ((cond (((decide ((atI x1 x7) < (1 : Int)))) == false) (atI x1 x7) default))) rfl rfl (fun gg0 => (hd14 (gd1_of gg0))) rfl rfl ?_
      refine Exec.run tyOk 400 rfl ?_
      rcases cond_some hF with ⟨hb, hF⟩ | ⟨hb, hF⟩
      · skip
        refine Exec.ifT rfl hb ?_
        refine Exec.run tyOk 400 rfl ?_
        obtain rfl := some_inj hF
        exact Exec.ret tyOk rfl rfl rfl
      · skip
        refine Exec.ifF rfl hb ?_
        refine Exec.run tyOk 400 rfl ?_
        exact Exec.round [(0, .v (.slice a2 ((x1).length) (k2))), (1, .v (.int .i64 (x3))), (5, .v (.int .i64 ((IntKind.i64.wrap (x7 + (1 : Int))))))] ⟨rfl, rfl, rfl, trivial⟩ ⟨n8, Nat.lt_succ_self _, (IntKind.i64.wrap (x7 + (1 : Int))), rfl, rfl, h10, hF⟩
    · skip
      refine Exec.ifF rfl hb ?_
      refine Exec.run tyOk 400 rfl ?_
      exact Exec.round [(0, .v (.slice a2 ((x1).length) (k2))), (1, .v (.int .i64 (x3)))] ⟨rfl, rfl, trivial⟩ ⟨rfl, rfl, h10, hF⟩

def F_timeline_valid_L2 (x1 : List (List Int)) (x9 : Int) (J16 : Option Bool) : Nat → Int → Option Bool
  | 0, _ => none
  | n20 + 1, x19 => (cond (decide (x19 < ((((atI x1 x9)).length : Nat) : Int))) (req (0 ≤ x19 ∧ x19 < (((atI x1 x9)).length : Int)) (cond ((decide ((atI ((atI x1 x9)) x19) < (0 : Int))) || (decide (x9 ≤ (atI ((atI x1 x9)) x19)))) (some false) (F_timeline_valid_L2 x1 x9 J16 n20 ((IntKind.i64.wrap (x19 + (1 : Int))))))) J16)

def F_timeline_valid_L1 (x1 : List (List Int)) (J7 : Option Bool) : Nat → Int → Option Bool
  | 0, _ => none
  | n10 + 1, x9 => (cond (decide (x9 < (((x1).length : Nat) : Int))) (req (0 ≤ x9 ∧ x9 < ((x1).length : Int)) (jn ((F_timeline_valid_L1 x1 J7 n10 ((IntKind.i64.wrap (x9 + (1 : Int)))))) (fun J16 => (F_timeline_valid_L2 x1 x9 J16 ((((((atI x1 x9)).length : Nat) : Int)).toNat + 1) ((0 : Int)))))) J7)

def F_timeline_valid (x1 : List (List Int)) (x3 : List Int) (x5 : Int) : Option Bool :=
  (bnd (F_timeline_validCosts ((((x1).length : Nat) : Int)) x3) fun x6 => (cond (((!x6) || (decide (x5 < (1 : Int)))) || (decide ((64 : Int) < x5))) (some false) (jn ((some true)) (fun J7 => (F_timeline_valid_L1 x1 J7 (((((x1).length : Nat) : Int)).toNat + 1) ((0 : Int)))))))

set_option maxRecDepth 100000 in
theorem W_timeline_valid {V : View} (x1 : List (List Int)) (x3 : List Int) (x5 : Int) {a2 : Option Addr} {k2 : Nat} {a4 : Option Addr} {k4 : Nat} (h2 : SlAt (cSl (cInt .i64)) V a2 k2 x1) (h4 : SlAt (cInt .i64) V a4 k4 x3) {r : Bool} (hF : F_timeline_valid x1 x3 x5 = some r) :
    Spec Try.prog 33 [.slice a2 ((x1).length) (k2), .slice a4 ((x3).length) (k4), .int .i64 (x5)] V (fun _ v => v = .bool (r)) := by
  unfold F_timeline_valid at hF
  refine Spec.enter (T := tyT) Try.func33 rfl (by kernel_rfl) rfl rfl rfl ?_
  refine Exec.run tyOk 400 rfl ?_
  obtain ⟨x6, hx6, hF⟩ := bnd_some hF
  refine Exec.callS (.bool (x6)) rfl rfl (W_timeline_validCosts ((((x1).length : Nat) : Int)) x3 h4 hx6) ?_
  refine Exec.run tyOk 400 rfl ?_
  rcases cond_some hF with ⟨hb, hF⟩ | ⟨hb, hF⟩
  · skip
    refine Exec.ifT rfl hb ?_
    refine Exec.run tyOk 400 rfl ?_
    obtain rfl := some_inj hF
    exact Exec.ret tyOk rfl rfl rfl
  · skip
    refine Exec.ifF rfl hb ?_
    refine Exec.run tyOk 8 rfl ?_
    obtain ⟨J7, hJ7, hF⟩ := jn_some hF
    refine Exec.seam (fun L' V' M' => L' = [] ∧ M' = [] ∧ J7 = some r) rfl ?_ ?_
    · rintro L' V8 M' ⟨rfl, rfl, hF⟩
      subst hJ7
      refine Exec.run tyOk 400 rfl ?_
      obtain rfl := some_inj hF
      exact Exec.ret tyOk rfl rfl rfl
    · skip
      refine Exec.run tyOk 400 rfl ?_
      refine Exec.loop (fun n10 L' V' M' => ∃ (x9 : Int), L' = [(24, .v (.slice a2 ((x1).length) (k2))), (25, .v (.int .i64 ((((x1).length : Nat) : Int)))), (26, .v (.int .i64 (x9)))] ∧ M' = [] ∧ SlAt (cSl (cInt .i64)) V' a2 k2 x1 ∧ F_timeline_valid_L1 x1 J7 n10 x9 = some r) ⟨(((((x1).length : Nat) : Int)).toNat + 1), [(24, .v (.slice a2 ((x1).length) (k2))), (25, .v (.int .i64 ((((x1).length : Nat) : Int)))), (26, .v (.int .i64 ((0 : Int))))], ⟨rfl, rfl, rfl, trivial⟩, (0 : Int), rfl, rfl, h2, hF⟩ ?_
      rintro n10 L' V11 M' ⟨x9, rfl, rfl, h12, hF⟩
      rcases n10 with _ | n10
      · exact absurd hF (by simp [F_timeline_valid_L1])
      rw [F_timeline_valid_L1] at hF
      refine Exec.run tyOk 400 rfl ?_
      rcases cond_some hF with ⟨hb, hF⟩ | ⟨hb, hF⟩
      · skip
        refine Exec.ifT rfl hb ?_
        refine Exec.run tyOk 400 rfl ?_
        obtain ⟨q13, hF⟩ := req_some hF
        obtain ⟨c14, hr14, hd14⟩ := SlAt.get h12 q13
        obtain ⟨a15, k15, rfl, h15⟩ := hr14
        refine Exec.ia tyOk rfl rfl ⟨q13.1, q13.2, hd14.some⟩ ?_
        refine Exec.run tyOk 400 rfl ?_
        refine Exec.ld tyOk (x := .slice a15 (((atI x1 x9)).length) (k15)) rfl rfl hd14 rfl rfl ?_
        refine Exec.run tyOk 9 rfl ?_
        obtain ⟨J16, hJ16, hF⟩ := jn_some hF
        refine Exec.seam (fun L' V' M' => L' = [(24, .v (.slice a2 ((x1).length) (k2))), (25, .v (.int .i64 ((((x1).length : Nat) : Int)))), (26, .v (.int .i64 (x9)))] ∧ M' = [] ∧ SlAt (cSl (cInt .i64)) V' a2 k2 x1 ∧ J16 = some r) rfl ?_ ?_
        · rintro L' V17 M' ⟨rfl, rfl, h18, hF⟩
          subst hJ16
          refine Exec.run tyOk 400 rfl ?_
          exact Exec.round [(24, .v (.slice a2 ((x1).length) (k2))), (25, .v (.int .i64 ((((x1).length : Nat) : Int)))), (26, .v (.int .i64 ((IntKind.i64.wrap (x9 + (1 : Int))))))] ⟨rfl, rfl, rfl, trivial⟩ ⟨n10, Nat.lt_succ_self _, (IntKind.i64.wrap (x9 + (1 : Int))), rfl, rfl, h18, hF⟩
        · skip
          refine Exec.run tyOk 400 rfl ?_
          refine Exec.loop (fun n20 L' V' M' => ∃ (x19 : Int), L' = [(7, .v (.int .i64 (x9))), (24, .v (.slice a2 ((x1).length) (k2))), (25, .v (.int .i64 ((((x1).length : Nat) : Int)))), (26, .v (.int .i64 (x9))), (31, .v (.slice a15 (((atI x1 x9)).length) (k15))), (32, .v (.int .i64 (((((atI x1 x9)).length : Nat) : Int)))), (33, .v (.int .i64 (x19)))] ∧ M' = [] ∧ SlAt (cSl (cInt .i64)) V' a2 k2 x1 ∧ SlAt (cInt .i64) V' a15 k15 ((atI x1 x9)) ∧ F_timeline_valid_L2 x1 x9 J16 n20 x19 = some r) ⟨((((((atI x1 x9)).length : Nat) : Int)).toNat + 1), [(7, .v (.int .i64 (x9))), (24, .v (.slice a2 ((x1).length) (k2))), (25, .v (.int .i64 ((((x1).length : Nat) : Int)))), (26, .v (.int .i64 (x9))), (31, .v (.slice a15 (((atI x1 x9)).length) (k15))), (32, .v (.int .i64 (((((atI x1 x9)).length : Nat) : Int)))), (33, .v (.int .i64 ((0 : Int))))], ⟨rfl, rfl, rfl, rfl, rfl, rfl, rfl, trivial⟩, (0 : Int), rfl, rfl, h12, h15, hF⟩ ?_
          rintro n20 L' V21 M' ⟨x19, rfl, rfl, h22, h23, hF⟩
          rcases n20 with _ | n20
          · exact absurd hF (by simp [F_timeline_valid_L2])
          rw [F_timeline_valid_L2] at hF
          refine Exec.run tyOk 400 rfl ?_
          rcases cond_some hF with ⟨hb, hF⟩ | ⟨hb, hF⟩
          · skip
            refine Exec.ifT rfl hb ?_
            refine Exec.run tyOk 400 rfl ?_
            obtain ⟨q24, hF⟩ := req_some hF
            obtain ⟨c25, hr25, hd25⟩ := SlAt.get h23 q24
            obtain rfl := hr25
            refine Exec.ia tyOk rfl rfl ⟨q24.1, q24.2, hd25.some⟩ ?_
            refine Exec.run tyOk 400 rfl ?_
            refine Exec.ld tyOk (x := .int .i64 ((atI ((atI x1 x9)) x19))) rfl rfl hd25 rfl rfl ?_
            refine Exec.run tyOk 400 rfl ?_
            rcases cond_some hF with ⟨hb, hF⟩ | ⟨hb, hF⟩
            · skip
              refine Exec.ifT rfl hb ?_
              refine Exec.run tyOk 400 rfl ?_
              obtain rfl := some_inj hF
              exact Exec.ret tyOk rfl rfl rfl
            · skip
              refine Exec.ifF rfl hb ?_
              refine Exec.run tyOk 400 rfl ?_
              exact Exec.round [(7, .v (.int .i64 (x9))), (24, .v (.slice a2 ((x1).length) (k2))), (25, .v (.int .i64 ((((x1).length : Nat) : Int)))), (26, .v (.int .i64 (x9))), (31, .v (.slice a15 (((atI x1 x9)).length) (k15))), (32, .v (.int .i64 (((((atI x1 x9)).length : Nat) : Int)))), (33, .v (.int .i64 ((IntKind.i64.wrap (x19 + (1 : Int))))))] ⟨rfl, rfl, rfl, rfl, rfl, rfl, rfl, trivial⟩ ⟨n20, Nat.lt_succ_self _, (IntKind.i64.wrap (x19 + (1 : Int))), rfl, rfl, h22, h23, hF⟩
          · skip
            refine Exec.ifF rfl hb ?_
            refine Exec.run tyOk 400 rfl ?_
            exact Exec.round [(24, .v (.slice a2 ((x1).length) (k2))), (25, .v (.int .i64 ((((x1).length : Nat) : Int)))), (26, .v (.int .i64 (x9)))] ⟨rfl, rfl, rfl, trivial⟩ ⟨rfl, rfl, h22, hF⟩
      · skip
        refine Exec.ifF rfl hb ?_
        refine Exec.run tyOk 400 rfl ?_
        exact Exec.round [] trivial ⟨rfl, rfl, hF⟩

def F_timeline_places_L1 (x2 : List TSpan) (x1 : Int) (J14 : (List Int) → Option (List Int × Bool)) : Nat → (List Int) → Int → Option (List Int × Bool)
  | 0, _, _ => none
  | n20 + 1, x18, x19 => (cond (decide (x19 < (((x2).length : Nat) : Int))) (req (0 ≤ x19 ∧ x19 < ((x2).length : Int)) (req (((((decide ((atI x2 x19).Txn < (0 : Int))) || (decide (x1 ≤ (atI x2 x19).Txn)))) == false) = true → 0 ≤ (atI x2 x19).Txn ∧ (atI x2 x19).Txn < ((x18).length : Int)) (cond (((decide ((atI x2 x19).Txn < (0 : Int))) || (decide (x1 ≤ (atI x2 x19).Txn))) || (decide ((0 : Int) ≤ (cond ((((decide ((atI x2 x19).Txn < (0 : Int))) || (decide (x1 ≤ (atI x2 x19).Txn)))) == false) (atI x18 ((atI x2 x19).Txn)) default)))) (some (([] : List Int), false)) (req (0 ≤ (atI x2 x19).Txn ∧ (atI x2 x19).Txn < ((x18).length : Int)) (F_timeline_places_L1 x2 x1 J14 n20 ((x18.set ((atI x2 x19).Txn).toNat x19)) ((IntKind.i64.wrap (x19 + (1 : Int))))))))) (J14 x18))

def F_timeline_places_L2 (x1 : Int) (J9 : (List Int) → Option (List Int × Bool)) : Nat → (List Int) → Int → Option (List Int × Bool)
  | 0, _, _ => none
  | n35 + 1, x33, x34 => (cond (decide (x34 < ((((List.replicate (x1).toNat (default : Int))).length : Nat) : Int))) (req (0 ≤ x34 ∧ x34 < ((x33).length : Int)) (F_timeline_places_L2 x1 J9 n35 ((x33.set (x34).toNat ((-1 : Int)))) ((IntKind.i64.wrap (x34 + (1 : Int)))))) (J9 x33))

def F_timeline_places (x1 : Int) (x2 : List TSpan) : Option (List Int × Bool) :=
  (cond (x1 != (((x2).length : Nat) : Int)) (some (([] : List Int), false)) (req (0 ≤ x1 ∧ x1 ≤ x1) (req (8 * (x1).toNat ≤ 281474976710656) (jn (fun (x8 : List Int) => (jn (fun (x13 : List Int) => (some (x13, true))) (fun J14 => (F_timeline_places_L1 x2 x1 J14 (((((x2).length : Nat) : Int)).toNat + 1) x8 ((0 : Int)))))) (fun J9 => (F_timeline_places_L2 x1 J9 ((((((List.replicate (x1).toNat (default : Int))).length : Nat) : Int)).toNat + 1) ((List.replicate (x1).toNat (default : Int))) ((0 : Int))))))))

set_option maxRecDepth 100000 in
theorem W_timeline_places {V : View} (x1 : Int) (x2 : List TSpan) {a3 : Option Addr} {k3 : Nat} (h3 : SlAt cTSpan V a3 k3 x2) {r : List Int × Bool} (hF : F_timeline_places x1 x2 = some r) :
    Spec Try.prog 36 [.int .i64 (x1), .slice a3 ((x2).length) (k3)] V (fun V' v => ∃ (a42 : Option Addr) (k42 : Nat), v = .tuple ⟨[.slice a42 ((r.1).length) (k42), .bool (r.2)]⟩ ∧ SlAt (cInt .i64) V' a42 k42 r.1) := by
  unfold F_timeline_places at hF
  refine Spec.enter (T := tyT) Try.func36 rfl (by kernel_rfl) rfl rfl rfl ?_
  refine Exec.run tyOk 400 rfl ?_
  rcases cond_some hF with ⟨hb, hF⟩ | ⟨hb, hF⟩
  · skip
    refine Exec.ifT rfl hb ?_
    refine Exec.run tyOk 400 rfl ?_
    obtain rfl := some_inj hF
    exact Exec.ret tyOk rfl rfl ⟨_, _, rfl, SlAt.nil⟩
  · skip
    refine Exec.ifF rfl hb ?_
    refine Exec.run tyOk 400 rfl ?_
    obtain ⟨q4, hF⟩ := req_some hF
    obtain ⟨q5, hF⟩ := req_some hF
    refine Exec.mkr tyOk rfl rfl rfl rfl (nm := ((List.replicate (x1).toNat (default : Int))).length) (by simp) q4 q5 (fun _ => rfl) (fun a6 => ?_)
    have h6 : RowRep (cInt .i64) V (List.replicate (x1).toNat (default : Int)) ((List.replicate ((List.replicate (x1).toNat (default : Int))).length [.int .i64 (0)]).flatten) := by rw [List.length_replicate]; exact RowRep.reps (c := (cInt .i64)) rfl _
    refine Exec.run tyOk 9 rfl ?_
    obtain ⟨J9, hJ9, hF⟩ := jn_some hF
    refine Exec.seam (fun L' V' M' => ∃ (x8 : List Int) (a7 : Option Addr) (k7 : Nat) (cs7 : List Value), L' = [(0, .v (.int .i64 (x1))), (1, .v (.slice a3 ((x2).length) (k3))), (6, .v (.slice a7 ((x8).length) (k7)))] ∧ M' = [.row (.slice a7 ((x8).length) (k7)) cs7 3 1] ∧ RowRep (cInt .i64) V' x8 cs7 ∧ SlAt cTSpan V' a3 k3 x2 ∧ J9 x8 = some r) rfl ?_ ?_
    · rintro L' V10 M' ⟨x8, a7, k7, cs7, rfl, rfl, h7, h11, hF⟩
      subst hJ9
      refine Exec.run tyOk 7 rfl ?_
      obtain ⟨J14, hJ14, hF⟩ := jn_some hF
      refine Exec.seam (fun L' V' M' => ∃ (x13 : List Int) (a12 : Option Addr) (k12 : Nat) (cs12 : List Value), L' = [(6, .v (.slice a12 ((x13).length) (k12)))] ∧ M' = [.row (.slice a12 ((x13).length) (k12)) cs12 3 1] ∧ RowRep (cInt .i64) V' x13 cs12 ∧ J14 x13 = some r) rfl ?_ ?_
      · rintro L' V15 M' ⟨x13, a12, k12, cs12, rfl, rfl, h12, hF⟩
        subst hJ14
        refine Exec.run tyOk 400 rfl ?_
        refine Exec.frz 0 rfl rfl rfl (fun V16 hv16 hd16 hn16 => ?_)
        have hz16 := RowRep.slat h12 hv16 hd16 hn16
        obtain rfl := some_inj hF
        exact Exec.ret tyOk rfl rfl ⟨_, _, rfl, hz16⟩
      · skip
        refine Exec.run tyOk 400 rfl ?_
        refine Exec.loop (fun n20 L' V' M' => ∃ (x18 : List Int) (a17 : Option Addr) (k17 : Nat) (cs17 : List Value) (x19 : Int), L' = [(0, .v (.int .i64 (x1))), (6, .v (.slice a17 ((x18).length) (k17))), (25, .v (.slice a3 ((x2).length) (k3))), (26, .v (.int .i64 ((((x2).length : Nat) : Int)))), (27, .v (.int .i64 (x19)))] ∧ M' = [.row (.slice a17 ((x18).length) (k17)) cs17 3 1] ∧ RowRep (cInt .i64) V' x18 cs17 ∧ SlAt cTSpan V' a3 k3 x2 ∧ F_timeline_places_L1 x2 x1 J14 n20 x18 x19 = some r) ⟨(((((x2).length : Nat) : Int)).toNat + 1), [(0, .v (.int .i64 (x1))), (6, .v (.slice a7 ((x8).length) (k7))), (25, .v (.slice a3 ((x2).length) (k3))), (26, .v (.int .i64 ((((x2).length : Nat) : Int)))), (27, .v (.int .i64 ((0 : Int))))], ⟨rfl, rfl, rfl, rfl, rfl, trivial⟩, x8, a7, k7, cs7, (0 : Int), rfl, rfl, h7, h11, hF⟩ ?_
        rintro n20 L' V21 M' ⟨x18, a17, k17, cs17, x19, rfl, rfl, h17, h22, hF⟩
        rcases n20 with _ | n20
        · exact absurd hF (by simp [F_timeline_places_L1])
        rw [F_timeline_places_L1] at hF
        refine Exec.run tyOk 400 rfl ?_
        rcases cond_some hF with ⟨hb, hF⟩ | ⟨hb, hF⟩
        · skip
          refine Exec.ifT rfl hb ?_
          refine Exec.run tyOk 400 rfl ?_
          obtain ⟨q23, hF⟩ := req_some hF
          obtain ⟨c24, hr24, hd24⟩ := SlAt.get h22 q23
          obtain rfl := hr24
          refine Exec.ia tyOk rfl rfl ⟨q23.1, q23.2, hd24.some⟩ ?_
          refine Exec.run tyOk 400 rfl ?_
          refine Exec.ld tyOk (x := .agg ⟨[.int .i64 ((atI x2 x19).Txn), .int .i64 ((atI x2 x19).Worker), .int .i64 ((atI x2 x19).Start), .int .i64 ((atI x2 x19).End)]⟩) rfl rfl hd24 rfl rfl ?_
          refine Exec.run tyOk 400 rfl ?_
          obtain ⟨q25, hF⟩ := req_some hF
          refine Exec.rowI 0 rfl (fun ra26 rb26 rc26 => ?_)
          obtain ⟨c27, hr27, hd27⟩ := RowRep.gget ((((decide ((atI x2 x19).Txn < (0 : Int))) || (decide (x1 ≤ (atI x2 x19).Txn)))) == false) h17 q25
          obtain rfl := hr27
          have rd26 : ((((decide ((atI x2 x19).Txn < (0 : Int))) || (decide (x1 ≤ (atI x2 x19).Txn)))) == false) = true → 0 ≤ (atI x2 x19).Txn ∧ (atI x2 x19).Txn < (((x18).length : Nat) : Int) := q25
          have rs26 : ((((decide ((atI x2 x19).Txn < (0 : Int))) || (decide (x1 ≤ (atI x2 x19).Txn)))) == false) = true → ∃ b o, a17 = some ⟨b, o, none⟩ := fun hg => rb26 (by have := rd26 hg; omega)
          refine Exec.ia tyOk rfl rfl (fun gg0 => ⟨(rd26 (gd1_of gg0)).1, (rd26 (gd1_of gg0)).2, rs26 (gd1_of gg0)⟩) ?_
          refine Exec.run tyOk 400 rfl ?_
          refine Exec.ldR tyOk 0 (x := .int .i64 ((cond ((((decide ((atI x2 x19).Txn < (0 : Int))) || (decide (x1 ≤ (atI x2 x19).Txn)))) == false) (atI x18 ((atI x2 x19).Txn)) default))) rfl rfl rfl (fun gg0 => ⟨(hd27 (gd1_of gg0)), (rs26 (gd1_of gg0))⟩) rfl rfl ?_
          refine Exec.run tyOk 400 rfl ?_
          rcases cond_some hF with ⟨hb, hF⟩ | ⟨hb, hF⟩
          · skip
            refine Exec.ifT rfl hb ?_
            refine Exec.run tyOk 400 rfl ?_
            obtain rfl := some_inj hF
            exact Exec.ret tyOk rfl rfl ⟨_, _, rfl, SlAt.nil⟩
          · skip
            refine Exec.ifF rfl hb ?_
            refine Exec.run tyOk 400 rfl ?_
            obtain ⟨q28, hF⟩ := req_some hF
            refine Exec.rowI 0 rfl (fun ra29 rb29 rc29 => ?_)
            obtain ⟨c30, hr30, hd30⟩ := RowRep.get h17 q28
            obtain rfl := hr30
            have rd29 : 0 ≤ (atI x2 x19).Txn ∧ (atI x2 x19).Txn < (((x18).length : Nat) : Int) := q28
            have rs29 := rb29 (by omega)
            refine Exec.ia tyOk rfl rfl ⟨rd29.1, rd29.2, rs29⟩ ?_
            refine Exec.run tyOk 400 rfl ?_
            have rl31 := RowRep.len h17
            have h31 : RowRep (cInt .i64) V21 (x18.set ((atI x2 x19).Txn).toNat x19) (cs17.take (((atI x2 x19).Txn).toNat * 1) ++ [.int .i64 (x19)] ++ cs17.drop ((((atI x2 x19).Txn).toNat * 1) + 1)) := RowRep.set h17 q28 rfl
            refine Exec.stR tyOk 0 rfl rfl rfl rfl rfl rs29 (stB q28 rl31) rfl rfl rfl ?_
            refine Exec.run tyOk 400 rfl ?_
            refine Exec.cut 1 [(0, .v (.int .i64 (x1))), (6, .v (.slice a17 ((x18).length) (k17))), (25, .v (.slice a3 ((x2).length) (k3))), (26, .v (.int .i64 ((((x2).length : Nat) : Int)))), (27, .v (.int .i64 ((IntKind.i64.wrap (x19 + (1 : Int))))))] (M' := [.row (.slice a17 ((x18).length) (k17)) ((cs17.take (((atI x2 x19).Txn).toNat * 1) ++ [.int .i64 (x19)] ++ cs17.drop ((((atI x2 x19).Txn).toNat * 1) + 1))) 3 1]) rfl ⟨rfl, rfl, rfl, rfl, rfl, trivial⟩ rfl rfl rfl ?_
            exact Exec.round [(0, .v (.int .i64 (x1))), (6, .v (.slice a17 (((x18.set ((atI x2 x19).Txn).toNat x19)).length) (k17))), (25, .v (.slice a3 ((x2).length) (k3))), (26, .v (.int .i64 ((((x2).length : Nat) : Int)))), (27, .v (.int .i64 ((IntKind.i64.wrap (x19 + (1 : Int))))))] ⟨rfl, look_eq rfl (by simp), rfl, rfl, rfl, trivial⟩ ⟨n20, Nat.lt_succ_self _, (x18.set ((atI x2 x19).Txn).toNat x19), a17, k17, (cs17.take (((atI x2 x19).Txn).toNat * 1) ++ [.int .i64 (x19)] ++ cs17.drop ((((atI x2 x19).Txn).toNat * 1) + 1)), (IntKind.i64.wrap (x19 + (1 : Int))), rfl, (by simp), h31, h22, hF⟩
        · skip
          refine Exec.ifF rfl hb ?_
          refine Exec.run tyOk 400 rfl ?_
          exact Exec.round [(6, .v (.slice a17 ((x18).length) (k17)))] ⟨rfl, trivial⟩ ⟨x18, a17, k17, cs17, rfl, rfl, h17, hF⟩
    · skip
      refine Exec.run tyOk 400 rfl ?_
      refine Exec.loop (fun n35 L' V' M' => ∃ (x33 : List Int) (a32 : Option Addr) (k32 : Nat) (cs32 : List Value) (x34 : Int), L' = [(0, .v (.int .i64 (x1))), (1, .v (.slice a3 ((x2).length) (k3))), (6, .v (.slice a32 ((x33).length) (k32))), (17, .v (.int .i64 (((((List.replicate (x1).toNat (default : Int))).length : Nat) : Int)))), (18, .v (.int .i64 (x34)))] ∧ M' = [.row (.slice a32 ((x33).length) (k32)) cs32 3 1] ∧ RowRep (cInt .i64) V' x33 cs32 ∧ SlAt cTSpan V' a3 k3 x2 ∧ F_timeline_places_L2 x1 J9 n35 x33 x34 = some r) ⟨((((((List.replicate (x1).toNat (default : Int))).length : Nat) : Int)).toNat + 1), [(0, .v (.int .i64 (x1))), (1, .v (.slice a3 ((x2).length) (k3))), (6, .v (.slice ((some a6)) (((List.replicate (x1).toNat (default : Int))).length) ((x1).toNat))), (17, .v (.int .i64 (((((List.replicate (x1).toNat (default : Int))).length : Nat) : Int)))), (18, .v (.int .i64 ((0 : Int))))], ⟨rfl, rfl, rfl, rfl, rfl, trivial⟩, (List.replicate (x1).toNat (default : Int)), (some a6), (x1).toNat, ((List.replicate ((List.replicate (x1).toNat (default : Int))).length [.int .i64 (0)]).flatten), (0 : Int), rfl, rfl, h6, h3, hF⟩ ?_
      rintro n35 L' V36 M' ⟨x33, a32, k32, cs32, x34, rfl, rfl, h32, h37, hF⟩
      rcases n35 with _ | n35
      · exact absurd hF (by simp [F_timeline_places_L2])
      rw [F_timeline_places_L2] at hF
      refine Exec.run tyOk 400 rfl ?_
      rcases cond_some hF with ⟨hb, hF⟩ | ⟨hb, hF⟩
      · skip
        refine Exec.ifT rfl hb ?_
        refine Exec.run tyOk 400 rfl ?_
        obtain ⟨q38, hF⟩ := req_some hF
        refine Exec.rowI 0 rfl (fun ra39 rb39 rc39 => ?_)
        obtain ⟨c40, hr40, hd40⟩ := RowRep.get h32 q38
        obtain rfl := hr40
        have rd39 : 0 ≤ x34 ∧ x34 < (((x33).length : Nat) : Int) := q38
        have rs39 := rb39 (by omega)
        refine Exec.ia tyOk rfl rfl ⟨rd39.1, rd39.2, rs39⟩ ?_
        refine Exec.run tyOk 400 rfl ?_
        have rl41 := RowRep.len h32
        have h41 : RowRep (cInt .i64) V36 (x33.set (x34).toNat ((-1 : Int))) (cs32.take ((x34).toNat * 1) ++ [.int .i64 ((-1 : Int))] ++ cs32.drop (((x34).toNat * 1) + 1)) := RowRep.set h32 q38 rfl
        refine Exec.stR tyOk 0 rfl rfl rfl rfl rfl rs39 (stB q38 rl41) rfl rfl rfl ?_
        refine Exec.run tyOk 400 rfl ?_
        exact Exec.round [(0, .v (.int .i64 (x1))), (1, .v (.slice a3 ((x2).length) (k3))), (6, .v (.slice a32 (((x33.set (x34).toNat ((-1 : Int)))).length) (k32))), (17, .v (.int .i64 (((((List.replicate (x1).toNat (default : Int))).length : Nat) : Int)))), (18, .v (.int .i64 ((IntKind.i64.wrap (x34 + (1 : Int))))))] ⟨rfl, rfl, look_eq rfl (by simp), rfl, rfl, trivial⟩ ⟨n35, Nat.lt_succ_self _, (x33.set (x34).toNat ((-1 : Int))), a32, k32, (cs32.take ((x34).toNat * 1) ++ [.int .i64 ((-1 : Int))] ++ cs32.drop (((x34).toNat * 1) + 1)), (IntKind.i64.wrap (x34 + (1 : Int))), rfl, (by simp), h41, h37, hF⟩
      · skip
        refine Exec.ifF rfl hb ?_
        refine Exec.run tyOk 400 rfl ?_
        exact Exec.round [(0, .v (.int .i64 (x1))), (1, .v (.slice a3 ((x2).length) (k3))), (6, .v (.slice a32 ((x33).length) (k32)))] ⟨rfl, rfl, rfl, trivial⟩ ⟨x33, a32, k32, cs32, rfl, rfl, h32, h37, hF⟩

def F_timeline_fits (x1 : TSpan) (x2 : Int) (x3 : Int) : Option Bool :=
  (some (((((decide ((0 : Int) ≤ x1.Worker)) && (decide (x1.Worker < x3))) && (decide ((0 : Int) ≤ x1.Start))) && (decide (x1.Start ≤ x1.End))) && ((IntKind.i64.wrap (x1.End - x1.Start)) == x2)))

set_option maxRecDepth 100000 in
theorem W_timeline_fits {V : View} (x1 : TSpan) (x2 : Int) (x3 : Int)   {r : Bool} (hF : F_timeline_fits x1 x2 x3 = some r) :
    Spec Try.prog 37 [.agg ⟨[.int .i64 (x1.Txn), .int .i64 (x1.Worker), .int .i64 (x1.Start), .int .i64 (x1.End)]⟩, .int .i64 (x2), .int .i64 (x3)] V (fun _ v => v = .bool (r)) := by
  unfold F_timeline_fits at hF
  refine Spec.enter (T := tyT) Try.func37 rfl (by kernel_rfl) rfl rfl rfl ?_
  refine Exec.run tyOk 400 rfl ?_
  obtain rfl := some_inj hF
  exact Exec.ret tyOk rfl rfl rfl

def F_clockworkref28_places_L2 (x1 : List TSpan) (x14 : Int) (J20 : Int → Option (List Int × Bool)) : Nat → Int → Int → Option (List Int × Bool)
  | 0, _, _ => none
  | n28 + 1, x26, x27 => (cond (decide (x27 < (((x1).length : Nat) : Int))) (req (0 ≤ x27 ∧ x27 < ((x1).length : Int)) (jn (fun (x34 : Int) => (F_clockworkref28_places_L2 x1 x14 J20 n28 x34 ((IntKind.i64.wrap (x27 + (1 : Int)))))) (fun J35 => (cond ((atI x1 x27).Txn == x14) (J35 x27) (J35 x26))))) (J20 x26))

def F_clockworkref28_places_L1 (x3 : Int) (x1 : List TSpan) (J7 : (List Int) → Option (List Int × Bool)) : Nat → (List Int) → Int → Option (List Int × Bool)
  | 0, _, _ => none
  | n15 + 1, x13, x14 => (cond (decide (x14 < x3)) (jn (fun (x19 : Int) => (cond (decide (x19 < (0 : Int))) (some (([] : List Int), false)) (req (((x13 ++ [x19])).length * 8 ≤ 140737488355328) (F_clockworkref28_places_L1 x3 x1 J7 n15 ((x13 ++ [x19])) ((IntKind.i64.wrap (x14 + (1 : Int)))))))) (fun J20 => (F_clockworkref28_places_L2 x1 x14 J20 (((((x1).length : Nat) : Int)).toNat + 1) ((-1 : Int)) ((0 : Int))))) (J7 x13))

def F_clockworkref28_places (x1 : List TSpan) (x3 : Int) : Option (List Int × Bool) :=
  (jn (fun (x6 : List Int) => (some (x6, ((((x1).length : Nat) : Int) == x3)))) (fun J7 => (F_clockworkref28_places_L1 x3 x1 J7 ((x3).toNat + 1) (([] : List Int)) ((0 : Int)))))

set_option maxRecDepth 100000 in
theorem W_clockworkref28_places {V : View} (x1 : List TSpan) (x3 : Int) {a2 : Option Addr} {k2 : Nat} (h2 : SlAt cTSpan V a2 k2 x1) {r : List Int × Bool} (hF : F_clockworkref28_places x1 x3 = some r) :
    Spec Try.prog 38 [.slice a2 ((x1).length) (k2), .int .i64 (x3)] V (fun V' v => ∃ (a38 : Option Addr) (k38 : Nat), v = .tuple ⟨[.slice a38 ((r.1).length) (k38), .bool (r.2)]⟩ ∧ SlAt (cInt .i64) V' a38 k38 r.1) := by
  unfold F_clockworkref28_places at hF
  refine Spec.enter (T := tyT) Try.func38 rfl (by kernel_rfl) rfl rfl rfl ?_
  refine Exec.run tyOk 14 rfl ?_
  refine Exec.row0 3 1 rfl ?_
  have h4 : RowRep (cInt .i64) V ([] : List Int) [] := RowRep.nil
  obtain ⟨J7, hJ7, hF⟩ := jn_some hF
  refine Exec.seam (fun L' V' M' => ∃ (x6 : List Int) (a5 : Option Addr) (k5 : Nat) (cs5 : List Value), L' = [(0, .v (.slice a2 ((x1).length) (k2))), (1, .v (.int .i64 (x3))), (6, .v (.slice a5 ((x6).length) (k5)))] ∧ M' = [.row (.slice a5 ((x6).length) (k5)) cs5 3 1] ∧ RowRep (cInt .i64) V' x6 cs5 ∧ SlAt cTSpan V' a2 k2 x1 ∧ J7 x6 = some r) rfl ?_ ?_
  · rintro L' V8 M' ⟨x6, a5, k5, cs5, rfl, rfl, h5, h9, hF⟩
    subst hJ7
    refine Exec.run tyOk 400 rfl ?_
    refine Exec.frz 0 rfl rfl rfl (fun V10 hv10 hd10 hn10 => ?_)
    have hz10 := RowRep.slat h5 hv10 hd10 hn10
    have h11 := SlAt.mono h9 hv10
    obtain rfl := some_inj hF
    exact Exec.ret tyOk rfl rfl ⟨_, _, rfl, hz10⟩
  · skip
    refine Exec.run tyOk 400 rfl ?_
    refine Exec.loop (fun n15 L' V' M' => ∃ (x13 : List Int) (a12 : Option Addr) (k12 : Nat) (cs12 : List Value) (x14 : Int), L' = [(0, .v (.slice a2 ((x1).length) (k2))), (1, .v (.int .i64 (x3))), (6, .v (.slice a12 ((x13).length) (k12))), (7, .v (.int .i64 (x14)))] ∧ M' = [.row (.slice a12 ((x13).length) (k12)) cs12 3 1] ∧ RowRep (cInt .i64) V' x13 cs12 ∧ SlAt cTSpan V' a2 k2 x1 ∧ F_clockworkref28_places_L1 x3 x1 J7 n15 x13 x14 = some r) ⟨((x3).toNat + 1), [(0, .v (.slice a2 ((x1).length) (k2))), (1, .v (.int .i64 (x3))), (6, .v (.slice none ((([] : List Int)).length) (0))), (7, .v (.int .i64 ((0 : Int))))], ⟨rfl, rfl, rfl, rfl, trivial⟩, ([] : List Int), none, 0, [], (0 : Int), rfl, rfl, h4, h2, hF⟩ ?_
    rintro n15 L' V16 M' ⟨x13, a12, k12, cs12, x14, rfl, rfl, h12, h17, hF⟩
    rcases n15 with _ | n15
    · exact absurd hF (by simp [F_clockworkref28_places_L1])
    rw [F_clockworkref28_places_L1] at hF
    refine Exec.run tyOk 400 rfl ?_
    rcases cond_some hF with ⟨hb, hF⟩ | ⟨hb, hF⟩
    · skip
      refine Exec.ifT rfl hb ?_
      refine Exec.run tyOk 12 rfl ?_
      obtain ⟨J20, hJ20, hF⟩ := jn_some hF
      refine Exec.seam (fun L' V' M' => ∃ (x19 : Int), L' = [(0, .v (.slice a2 ((x1).length) (k2))), (1, .v (.int .i64 (x3))), (6, .v (.slice a12 ((x13).length) (k12))), (7, .v (.int .i64 (x14))), (8, .v (.int .i64 (x19)))] ∧ M' = [.row (.slice a12 ((x13).length) (k12)) cs12 3 1] ∧ RowRep (cInt .i64) V' x13 cs12 ∧ SlAt cTSpan V' a2 k2 x1 ∧ J20 x19 = some r) rfl ?_ ?_
      · rintro L' V21 M' ⟨x19, rfl, rfl, h18, h22, hF⟩
        subst hJ20
        refine Exec.run tyOk 400 rfl ?_
        rcases cond_some hF with ⟨hb, hF⟩ | ⟨hb, hF⟩
        · skip
          refine Exec.ifT rfl hb ?_
          refine Exec.run tyOk 400 rfl ?_
          obtain rfl := some_inj hF
          exact Exec.ret tyOk rfl rfl ⟨_, _, rfl, SlAt.nil⟩
        · skip
          refine Exec.ifF rfl hb ?_
          refine Exec.run tyOk 400 rfl ?_
          refine Exec.bsl tyOk rfl rfl ?_
          refine Exec.run tyOk 400 rfl ?_
          obtain ⟨q24, hF⟩ := req_some hF
          refine Exec.app tyOk 0 1 (nm := ((x13 ++ [x19])).length) rfl rfl rfl rfl rfl rfl rfl rfl rfl (by simp) (fun _ _ => rfl) rfl q24 (fun a23 k23 => ?_)
          have h23 : RowRep (cInt .i64) V21 (x13 ++ [x19]) (cs12 ++ [.int .i64 (x19)]) := RowRep.app h18 ⟨_, _, rfl, rfl, rfl⟩
          refine Exec.run tyOk 400 rfl ?_
          refine Exec.cut 1 [(0, .v (.slice a2 ((x1).length) (k2))), (1, .v (.int .i64 (x3))), (6, .v (.slice a23 (((x13 ++ [x19])).length) (k23))), (7, .v (.int .i64 ((IntKind.i64.wrap (x14 + (1 : Int))))))] (M' := [.row (.slice a23 (((x13 ++ [x19])).length) (k23)) ((cs12 ++ [.int .i64 (x19)])) 3 1]) rfl ⟨rfl, rfl, rfl, rfl, trivial⟩ rfl rfl rfl ?_
          exact Exec.round [(0, .v (.slice a2 ((x1).length) (k2))), (1, .v (.int .i64 (x3))), (6, .v (.slice a23 (((x13 ++ [x19])).length) (k23))), (7, .v (.int .i64 ((IntKind.i64.wrap (x14 + (1 : Int))))))] ⟨rfl, rfl, rfl, rfl, trivial⟩ ⟨n15, Nat.lt_succ_self _, (x13 ++ [x19]), a23, k23, (cs12 ++ [.int .i64 (x19)]), (IntKind.i64.wrap (x14 + (1 : Int))), rfl, rfl, h23, h22, hF⟩
      · skip
        refine Exec.run tyOk 400 rfl ?_
        refine Exec.loop (fun n28 L' V' M' => ∃ (x26 : Int) (x27 : Int), L' = [(0, .v (.slice a2 ((x1).length) (k2))), (1, .v (.int .i64 (x3))), (6, .v (.slice a12 ((x13).length) (k12))), (7, .v (.int .i64 (x14))), (8, .v (.int .i64 (x26))), (9, .v (.int .i64 (x27)))] ∧ M' = [.row (.slice a12 ((x13).length) (k12)) cs12 3 1] ∧ RowRep (cInt .i64) V' x13 cs12 ∧ SlAt cTSpan V' a2 k2 x1 ∧ F_clockworkref28_places_L2 x1 x14 J20 n28 x26 x27 = some r) ⟨(((((x1).length : Nat) : Int)).toNat + 1), [(0, .v (.slice a2 ((x1).length) (k2))), (1, .v (.int .i64 (x3))), (6, .v (.slice a12 ((x13).length) (k12))), (7, .v (.int .i64 (x14))), (8, .v (.int .i64 ((-1 : Int)))), (9, .v (.int .i64 ((0 : Int))))], ⟨rfl, rfl, rfl, rfl, rfl, rfl, trivial⟩, (-1 : Int), (0 : Int), rfl, rfl, h12, h17, hF⟩ ?_
        rintro n28 L' V29 M' ⟨x26, x27, rfl, rfl, h25, h30, hF⟩
        rcases n28 with _ | n28
        · exact absurd hF (by simp [F_clockworkref28_places_L2])
        rw [F_clockworkref28_places_L2] at hF
        refine Exec.run tyOk 400 rfl ?_
        rcases cond_some hF with ⟨hb, hF⟩ | ⟨hb, hF⟩
        · skip
          refine Exec.ifT rfl hb ?_
          refine Exec.run tyOk 400 rfl ?_
          obtain ⟨q31, hF⟩ := req_some hF
          obtain ⟨c32, hr32, hd32⟩ := SlAt.get h30 q31
          obtain rfl := hr32
          refine Exec.ia tyOk rfl rfl ⟨q31.1, q31.2, hd32.some⟩ ?_
          refine Exec.run tyOk 400 rfl ?_
          refine Exec.ld tyOk (x := .int .i64 ((atI x1 x27).Txn)) rfl rfl (RdAt.part hd32 0 1 rfl) rfl rfl ?_
          refine Exec.run tyOk 400 rfl ?_
          obtain ⟨J35, hJ35, hF⟩ := jn_some hF
          refine Exec.seam (fun L' V' M' => ∃ (x34 : Int), L' = [(0, .v (.slice a2 ((x1).length) (k2))), (1, .v (.int .i64 (x3))), (6, .v (.slice a12 ((x13).length) (k12))), (7, .v (.int .i64 (x14))), (8, .v (.int .i64 (x34))), (9, .v (.int .i64 (x27)))] ∧ M' = [.row (.slice a12 ((x13).length) (k12)) cs12 3 1] ∧ RowRep (cInt .i64) V' x13 cs12 ∧ SlAt cTSpan V' a2 k2 x1 ∧ J35 x34 = some r) rfl ?_ ?_
          · rintro L' V36 M' ⟨x34, rfl, rfl, h33, h37, hF⟩
            subst hJ35
            refine Exec.run tyOk 400 rfl ?_
            exact Exec.round [(0, .v (.slice a2 ((x1).length) (k2))), (1, .v (.int .i64 (x3))), (6, .v (.slice a12 ((x13).length) (k12))), (7, .v (.int .i64 (x14))), (8, .v (.int .i64 (x34))), (9, .v (.int .i64 ((IntKind.i64.wrap (x27 + (1 : Int))))))] ⟨rfl, rfl, rfl, rfl, rfl, rfl, trivial⟩ ⟨n28, Nat.lt_succ_self _, x34, (IntKind.i64.wrap (x27 + (1 : Int))), rfl, rfl, h33, h37, hF⟩
          · skip
            refine Exec.run tyOk 400 rfl ?_
            rcases cond_some hF with ⟨hb, hF⟩ | ⟨hb, hF⟩
            · skip
              refine Exec.ifT rfl hb ?_
              refine Exec.run tyOk 400 rfl ?_
              exact Exec.round [(0, .v (.slice a2 ((x1).length) (k2))), (1, .v (.int .i64 (x3))), (6, .v (.slice a12 ((x13).length) (k12))), (7, .v (.int .i64 (x14))), (8, .v (.int .i64 (x27))), (9, .v (.int .i64 (x27)))] ⟨rfl, rfl, rfl, rfl, rfl, rfl, trivial⟩ ⟨x27, rfl, rfl, h25, h30, hF⟩
            · skip
              refine Exec.ifF rfl hb ?_
              refine Exec.run tyOk 400 rfl ?_
              exact Exec.round [(0, .v (.slice a2 ((x1).length) (k2))), (1, .v (.int .i64 (x3))), (6, .v (.slice a12 ((x13).length) (k12))), (7, .v (.int .i64 (x14))), (8, .v (.int .i64 (x26))), (9, .v (.int .i64 (x27)))] ⟨rfl, rfl, rfl, rfl, rfl, rfl, trivial⟩ ⟨x26, rfl, rfl, h25, h30, hF⟩
        · skip
          refine Exec.ifF rfl hb ?_
          refine Exec.run tyOk 400 rfl ?_
          exact Exec.round [(0, .v (.slice a2 ((x1).length) (k2))), (1, .v (.int .i64 (x3))), (6, .v (.slice a12 ((x13).length) (k12))), (7, .v (.int .i64 (x14))), (8, .v (.int .i64 (x26)))] ⟨rfl, rfl, rfl, rfl, rfl, trivial⟩ ⟨x26, rfl, rfl, h25, h30, hF⟩
    · skip
      refine Exec.ifF rfl hb ?_
      refine Exec.run tyOk 400 rfl ?_
      exact Exec.round [(0, .v (.slice a2 ((x1).length) (k2))), (1, .v (.int .i64 (x3))), (6, .v (.slice a12 ((x13).length) (k12)))] ⟨rfl, rfl, rfl, trivial⟩ ⟨x13, a12, k12, cs12, rfl, rfl, h12, h17, hF⟩

def F_clockworkref04_Has_L1 (x1 : List Str) (x3 : Str) (J4 : Option Bool) : Nat → Int → Option Bool
  | 0, _ => none
  | n7 + 1, x6 => (cond (decide (x6 < (((x1).length : Nat) : Int))) (req (0 ≤ x6 ∧ x6 < ((x1).length : Int)) (cond ((atI x1 x6) == x3) (some true) (F_clockworkref04_Has_L1 x1 x3 J4 n7 ((IntKind.i64.wrap (x6 + (1 : Int))))))) J4)

def F_clockworkref04_Has (x1 : List Str) (x3 : Str) : Option Bool :=
  (jn ((some false)) (fun J4 => (F_clockworkref04_Has_L1 x1 x3 J4 (((((x1).length : Nat) : Int)).toNat + 1) ((0 : Int)))))

set_option maxRecDepth 100000 in
theorem W_clockworkref04_Has {V : View} (x1 : List Str) (x3 : Str) {a2 : Option Addr} {k2 : Nat} (h2 : SlAt cStr V a2 k2 x1) {r : Bool} (hF : F_clockworkref04_Has x1 x3 = some r) :
    Spec Try.prog 51 [.slice a2 ((x1).length) (k2), .string ⟨⟨x3⟩⟩] V (fun _ v => v = .bool (r)) := by
  unfold F_clockworkref04_Has at hF
  refine Spec.enter (T := tyT) Try.func51 rfl (by kernel_rfl) rfl rfl rfl ?_
  refine Exec.run tyOk 9 rfl ?_
  obtain ⟨J4, hJ4, hF⟩ := jn_some hF
  refine Exec.seam (fun L' V' M' => L' = [] ∧ M' = [] ∧ J4 = some r) rfl ?_ ?_
  · rintro L' V5 M' ⟨rfl, rfl, hF⟩
    subst hJ4
    refine Exec.run tyOk 400 rfl ?_
    obtain rfl := some_inj hF
    exact Exec.ret tyOk rfl rfl rfl
  · skip
    refine Exec.run tyOk 400 rfl ?_
    refine Exec.loop (fun n7 L' V' M' => ∃ (x6 : Int), L' = [(0, .v (.slice a2 ((x1).length) (k2))), (1, .v (.string ⟨⟨x3⟩⟩)), (5, .v (.int .i64 (x6)))] ∧ M' = [] ∧ SlAt cStr V' a2 k2 x1 ∧ F_clockworkref04_Has_L1 x1 x3 J4 n7 x6 = some r) ⟨(((((x1).length : Nat) : Int)).toNat + 1), [(0, .v (.slice a2 ((x1).length) (k2))), (1, .v (.string ⟨⟨x3⟩⟩)), (5, .v (.int .i64 ((0 : Int))))], ⟨rfl, rfl, rfl, trivial⟩, (0 : Int), rfl, rfl, h2, hF⟩ ?_
    rintro n7 L' V8 M' ⟨x6, rfl, rfl, h9, hF⟩
    rcases n7 with _ | n7
    · exact absurd hF (by simp [F_clockworkref04_Has_L1])
    rw [F_clockworkref04_Has_L1] at hF
    refine Exec.run tyOk 400 rfl ?_
    rcases cond_some hF with ⟨hb, hF⟩ | ⟨hb, hF⟩
    · skip
      refine Exec.ifT rfl hb ?_
      refine Exec.run tyOk 400 rfl ?_
      obtain ⟨q10, hF⟩ := req_some hF
      obtain ⟨c11, hr11, hd11⟩ := SlAt.get h9 q10
      obtain rfl := hr11
      refine Exec.ia tyOk rfl rfl ⟨q10.1, q10.2, hd11.some⟩ ?_
      refine Exec.run tyOk 400 rfl ?_
      refine Exec.ld tyOk (x := .string ⟨⟨(atI x1 x6)⟩⟩) rfl rfl hd11 rfl rfl ?_
      refine Exec.run tyOk 400 rfl ?_
      rcases cond_some hF with ⟨hb, hF⟩ | ⟨hb, hF⟩
      · skip
        refine Exec.ifT rfl hb ?_
        refine Exec.run tyOk 400 rfl ?_
        obtain rfl := some_inj hF
        exact Exec.ret tyOk rfl rfl rfl
      · skip
        refine Exec.ifF rfl hb ?_
        refine Exec.run tyOk 400 rfl ?_
        exact Exec.round [(0, .v (.slice a2 ((x1).length) (k2))), (1, .v (.string ⟨⟨x3⟩⟩)), (5, .v (.int .i64 ((IntKind.i64.wrap (x6 + (1 : Int))))))] ⟨rfl, rfl, rfl, trivial⟩ ⟨n7, Nat.lt_succ_self _, (IntKind.i64.wrap (x6 + (1 : Int))), rfl, rfl, h9, hF⟩
    · skip
      refine Exec.ifF rfl hb ?_
      refine Exec.run tyOk 400 rfl ?_
      exact Exec.round [] trivial ⟨rfl, rfl, hF⟩

def F_slices_IndexFunc_string_string_L1 (x1 : List Str) (g4 : Str → Option Bool) (J5 : Option Int) : Nat → Int → Option Int
  | 0, _ => none
  | n8 + 1, x7 => (cond (decide (x7 < (((x1).length : Nat) : Int))) (req (0 ≤ x7 ∧ x7 < ((x1).length : Int)) (bnd (g4 ((atI x1 x7))) fun x14 => (cond x14 (some x7) (F_slices_IndexFunc_string_string_L1 x1 g4 J5 n8 ((IntKind.i64.wrap (x7 + (1 : Int)))))))) J5)

def F_slices_IndexFunc_string_string (x1 : List Str) (g4 : Str → Option Bool) : Option Int :=
  (jn ((some (-1 : Int))) (fun J5 => (F_slices_IndexFunc_string_string_L1 x1 g4 J5 (((((x1).length : Nat) : Int)).toNat + 1) ((0 : Int)))))

set_option maxRecDepth 100000 in
theorem W_slices_IndexFunc_string_string {V : View} (x1 : List Str) (g4 : Str → Option Bool) {f4 : Nat} {ca4 : List Value} {a2 : Option Addr} {k2 : Nat} (h2 : SlAt cStr V a2 k2 x1) (hg4 : FnSpec1 Try.prog f4 ca4 V (fun (y : Str) => .string ⟨⟨y⟩⟩) (fun (r : Bool) => .bool (r)) g4) {r : Int} (hF : F_slices_IndexFunc_string_string x1 g4 = some r) :
    Spec Try.prog 52 [.slice a2 ((x1).length) (k2), .func (.func f4) #[] ⟨ca4⟩] V (fun _ v => v = .int .i64 (r)) := by
  unfold F_slices_IndexFunc_string_string at hF
  refine Spec.enter (T := tyT) Try.func52 rfl (by kernel_rfl) rfl rfl rfl ?_
  refine Exec.run tyOk 11 rfl ?_
  obtain ⟨J5, hJ5, hF⟩ := jn_some hF
  refine Exec.seam (fun L' V' M' => L' = [] ∧ M' = [] ∧ J5 = some r) rfl ?_ ?_
  · rintro L' V6 M' ⟨rfl, rfl, hF⟩
    subst hJ5
    refine Exec.run tyOk 400 rfl ?_
    obtain rfl := some_inj hF
    exact Exec.ret tyOk rfl rfl rfl
  · skip
    refine Exec.run tyOk 400 rfl ?_
    refine Exec.loop (fun n8 L' V' M' => ∃ (x7 : Int), L' = [(0, .v (.slice a2 ((x1).length) (k2))), (1, .v (.func (.func f4) #[] ⟨ca4⟩)), (7, .v (.int .i64 ((((x1).length : Nat) : Int)))), (8, .v (.int .i64 (x7)))] ∧ M' = [] ∧ SlAt cStr V' a2 k2 x1 ∧ FnSpec1 Try.prog f4 ca4 V' (fun (y : Str) => .string ⟨⟨y⟩⟩) (fun (r : Bool) => .bool (r)) g4 ∧ F_slices_IndexFunc_string_string_L1 x1 g4 J5 n8 x7 = some r) ⟨(((((x1).length : Nat) : Int)).toNat + 1), [(0, .v (.slice a2 ((x1).length) (k2))), (1, .v (.func (.func f4) #[] ⟨ca4⟩)), (7, .v (.int .i64 ((((x1).length : Nat) : Int)))), (8, .v (.int .i64 ((0 : Int))))], ⟨rfl, rfl, rfl, rfl, trivial⟩, (0 : Int), rfl, rfl, h2, hg4, hF⟩ ?_
    rintro n8 L' V9 M' ⟨x7, rfl, rfl, h10, h11, hF⟩
    rcases n8 with _ | n8
    · exact absurd hF (by simp [F_slices_IndexFunc_string_string_L1])
    rw [F_slices_IndexFunc_string_string_L1] at hF
    refine Exec.run tyOk 400 rfl ?_
    rcases cond_some hF with ⟨hb, hF⟩ | ⟨hb, hF⟩
    · skip
      refine Exec.ifT rfl hb ?_
      refine Exec.run tyOk 400 rfl ?_
      obtain ⟨q12, hF⟩ := req_some hF
      obtain ⟨c13, hr13, hd13⟩ := SlAt.get h10 q12
      obtain rfl := hr13
      refine Exec.ia tyOk rfl rfl ⟨q12.1, q12.2, hd13.some⟩ ?_
      refine Exec.run tyOk 400 rfl ?_
      refine Exec.ld tyOk (x := .string ⟨⟨(atI x1 x7)⟩⟩) rfl rfl hd13 rfl rfl ?_
      refine Exec.run tyOk 400 rfl ?_
      obtain ⟨x14, hx14, hF⟩ := bnd_some hF
      refine Exec.callS (.bool (x14)) rfl rfl (h11.at hx14) ?_
      refine Exec.run tyOk 400 rfl ?_
      rcases cond_some hF with ⟨hb, hF⟩ | ⟨hb, hF⟩
      · skip
        refine Exec.ifT rfl hb ?_
        refine Exec.run tyOk 400 rfl ?_
        obtain rfl := some_inj hF
        exact Exec.ret tyOk rfl rfl rfl
      · skip
        refine Exec.ifF rfl hb ?_
        refine Exec.run tyOk 400 rfl ?_
        exact Exec.round [(0, .v (.slice a2 ((x1).length) (k2))), (1, .v (.func (.func f4) #[] ⟨ca4⟩)), (7, .v (.int .i64 ((((x1).length : Nat) : Int)))), (8, .v (.int .i64 ((IntKind.i64.wrap (x7 + (1 : Int))))))] ⟨rfl, rfl, rfl, rfl, trivial⟩ ⟨n8, Nat.lt_succ_self _, (IntKind.i64.wrap (x7 + (1 : Int))), rfl, rfl, h10, h11, hF⟩
    · skip
      refine Exec.ifF rfl hb ?_
      refine Exec.run tyOk 400 rfl ?_
      exact Exec.round [] trivial ⟨rfl, rfl, hF⟩

def F_slices_Index_string_string_L1 (x1 : List Str) (x3 : Str) (J4 : Option Int) : Nat → Int → Option Int
  | 0, _ => none
  | n7 + 1, x6 => (cond (decide (x6 < (((x1).length : Nat) : Int))) (req (0 ≤ x6 ∧ x6 < ((x1).length : Int)) (cond (x3 == (atI x1 x6)) (some x6) (F_slices_Index_string_string_L1 x1 x3 J4 n7 ((IntKind.i64.wrap (x6 + (1 : Int))))))) J4)

def F_slices_Index_string_string (x1 : List Str) (x3 : Str) : Option Int :=
  (jn ((some (-1 : Int))) (fun J4 => (F_slices_Index_string_string_L1 x1 x3 J4 (((((x1).length : Nat) : Int)).toNat + 1) ((0 : Int)))))

set_option maxRecDepth 100000 in
theorem W_slices_Index_string_string {V : View} (x1 : List Str) (x3 : Str) {a2 : Option Addr} {k2 : Nat} (h2 : SlAt cStr V a2 k2 x1) {r : Int} (hF : F_slices_Index_string_string x1 x3 = some r) :
    Spec Try.prog 53 [.slice a2 ((x1).length) (k2), .string ⟨⟨x3⟩⟩] V (fun _ v => v = .int .i64 (r)) := by
  unfold F_slices_Index_string_string at hF
  refine Spec.enter (T := tyT) Try.func53 rfl (by kernel_rfl) rfl rfl rfl ?_
  refine Exec.run tyOk 11 rfl ?_
  obtain ⟨J4, hJ4, hF⟩ := jn_some hF
  refine Exec.seam (fun L' V' M' => L' = [] ∧ M' = [] ∧ J4 = some r) rfl ?_ ?_
  · rintro L' V5 M' ⟨rfl, rfl, hF⟩
    subst hJ4
    refine Exec.run tyOk 400 rfl ?_
    obtain rfl := some_inj hF
    exact Exec.ret tyOk rfl rfl rfl
  · skip
    refine Exec.run tyOk 400 rfl ?_
    refine Exec.loop (fun n7 L' V' M' => ∃ (x6 : Int), L' = [(0, .v (.slice a2 ((x1).length) (k2))), (1, .v (.string ⟨⟨x3⟩⟩)), (7, .v (.int .i64 ((((x1).length : Nat) : Int)))), (8, .v (.int .i64 (x6)))] ∧ M' = [] ∧ SlAt cStr V' a2 k2 x1 ∧ F_slices_Index_string_string_L1 x1 x3 J4 n7 x6 = some r) ⟨(((((x1).length : Nat) : Int)).toNat + 1), [(0, .v (.slice a2 ((x1).length) (k2))), (1, .v (.string ⟨⟨x3⟩⟩)), (7, .v (.int .i64 ((((x1).length : Nat) : Int)))), (8, .v (.int .i64 ((0 : Int))))], ⟨rfl, rfl, rfl, rfl, trivial⟩, (0 : Int), rfl, rfl, h2, hF⟩ ?_
    rintro n7 L' V8 M' ⟨x6, rfl, rfl, h9, hF⟩
    rcases n7 with _ | n7
    · exact absurd hF (by simp [F_slices_Index_string_string_L1])
    rw [F_slices_Index_string_string_L1] at hF
    refine Exec.run tyOk 400 rfl ?_
    rcases cond_some hF with ⟨hb, hF⟩ | ⟨hb, hF⟩
    · skip
      refine Exec.ifT rfl hb ?_
      refine Exec.run tyOk 400 rfl ?_
      obtain ⟨q10, hF⟩ := req_some hF
      obtain ⟨c11, hr11, hd11⟩ := SlAt.get h9 q10
      obtain rfl := hr11
      refine Exec.ia tyOk rfl rfl ⟨q10.1, q10.2, hd11.some⟩ ?_
      refine Exec.run tyOk 400 rfl ?_
      refine Exec.ld tyOk (x := .string ⟨⟨(atI x1 x6)⟩⟩) rfl rfl hd11 rfl rfl ?_
      refine Exec.run tyOk 400 rfl ?_
      rcases cond_some hF with ⟨hb, hF⟩ | ⟨hb, hF⟩
      · skip
        refine Exec.ifT rfl hb ?_
        refine Exec.run tyOk 400 rfl ?_
        obtain rfl := some_inj hF
        exact Exec.ret tyOk rfl rfl rfl
      · skip
        refine Exec.ifF rfl hb ?_
        refine Exec.run tyOk 400 rfl ?_
        exact Exec.round [(0, .v (.slice a2 ((x1).length) (k2))), (1, .v (.string ⟨⟨x3⟩⟩)), (7, .v (.int .i64 ((((x1).length : Nat) : Int)))), (8, .v (.int .i64 ((IntKind.i64.wrap (x6 + (1 : Int))))))] ⟨rfl, rfl, rfl, rfl, trivial⟩ ⟨n7, Nat.lt_succ_self _, (IntKind.i64.wrap (x6 + (1 : Int))), rfl, rfl, h9, hF⟩
    · skip
      refine Exec.ifF rfl hb ?_
      refine Exec.run tyOk 400 rfl ?_
      exact Exec.round [] trivial ⟨rfl, rfl, hF⟩

def F_slices_isNaN_string (x1 : Str) : Option Bool :=
  (some (x1 != x1))

set_option maxRecDepth 100000 in
theorem W_slices_isNaN_string {V : View} (x1 : Str)   {r : Bool} (hF : F_slices_isNaN_string x1 = some r) :
    Spec Try.prog 56 [.string ⟨⟨x1⟩⟩] V (fun _ v => v = .bool (r)) := by
  unfold F_slices_isNaN_string at hF
  refine Spec.enter (T := tyT) Try.func56 rfl (by kernel_rfl) rfl rfl rfl ?_
  refine Exec.run tyOk 400 rfl ?_
  obtain rfl := some_inj hF
  exact Exec.ret tyOk rfl rfl rfl

def F_keys_consists_L1 (x1 : Str) (g3 : Int → Option Bool) (J4 : Option Bool) : Nat → Int → Option Bool
  | 0, _ => none
  | n7 + 1, x6 => (cond (decide (x6 < ((x1).length : Int))) (req (0 ≤ x6 ∧ x6 < ((x1).length : Int)) (bnd (g3 ((byteAt x1 (x6).toNat))) fun x11 => (cond (!x11) (some false) (F_keys_consists_L1 x1 g3 J4 n7 ((IntKind.i64.wrap (x6 + (1 : Int)))))))) J4)

def F_keys_consists (x1 : Str) (g3 : Int → Option Bool) : Option Bool :=
  (cond (decide ((24 : Int) < ((x1).length : Int))) (some false) (jn ((some true)) (fun J4 => (F_keys_consists_L1 x1 g3 J4 ((((x1).length : Int)).toNat + 1) ((0 : Int))))))

set_option maxRecDepth 100000 in
theorem W_keys_consists {V : View} (x1 : Str) (g3 : Int → Option Bool) {f3 : Nat} {ca3 : List Value}  (hg3 : FnSpec1 Try.prog f3 ca3 V (fun (y : Int) => .int .u8 (y)) (fun (r : Bool) => .bool (r)) g3) {r : Bool} (hF : F_keys_consists x1 g3 = some r) :
    Spec Try.prog 58 [.string ⟨⟨x1⟩⟩, .func (.func f3) #[] ⟨ca3⟩] V (fun _ v => v = .bool (r)) := by
  unfold F_keys_consists at hF
  refine Spec.enter (T := tyT) Try.func58 rfl (by kernel_rfl) rfl rfl rfl ?_
  refine Exec.run tyOk 400 rfl ?_
  rcases cond_some hF with ⟨hb, hF⟩ | ⟨hb, hF⟩
  · skip
    refine Exec.ifT rfl hb ?_
    refine Exec.run tyOk 400 rfl ?_
    obtain rfl := some_inj hF
    exact Exec.ret tyOk rfl rfl rfl
  · skip
    refine Exec.ifF rfl hb ?_
    refine Exec.run tyOk 8 rfl ?_
    obtain ⟨J4, hJ4, hF⟩ := jn_some hF
    refine Exec.seam (fun L' V' M' => L' = [] ∧ M' = [] ∧ J4 = some r) rfl ?_ ?_
    · rintro L' V5 M' ⟨rfl, rfl, hF⟩
      subst hJ4
      refine Exec.run tyOk 400 rfl ?_
      obtain rfl := some_inj hF
      exact Exec.ret tyOk rfl rfl rfl
    · skip
      refine Exec.run tyOk 400 rfl ?_
      refine Exec.loop (fun n7 L' V' M' => ∃ (x6 : Int), L' = [(0, .v (.string ⟨⟨x1⟩⟩)), (1, .v (.func (.func f3) #[] ⟨ca3⟩)), (10, .v (.int .i64 (((x1).length : Int)))), (11, .v (.int .i64 (x6)))] ∧ M' = [] ∧ FnSpec1 Try.prog f3 ca3 V' (fun (y : Int) => .int .u8 (y)) (fun (r : Bool) => .bool (r)) g3 ∧ F_keys_consists_L1 x1 g3 J4 n7 x6 = some r) ⟨((((x1).length : Int)).toNat + 1), [(0, .v (.string ⟨⟨x1⟩⟩)), (1, .v (.func (.func f3) #[] ⟨ca3⟩)), (10, .v (.int .i64 (((x1).length : Int)))), (11, .v (.int .i64 ((0 : Int))))], ⟨rfl, rfl, rfl, rfl, trivial⟩, (0 : Int), rfl, rfl, hg3, hF⟩ ?_
      rintro n7 L' V8 M' ⟨x6, rfl, rfl, h9, hF⟩
      rcases n7 with _ | n7
      · exact absurd hF (by simp [F_keys_consists_L1])
      rw [F_keys_consists_L1] at hF
      refine Exec.run tyOk 400 rfl ?_
      rcases cond_some hF with ⟨hb, hF⟩ | ⟨hb, hF⟩
      · skip
        refine Exec.ifT rfl hb ?_
        refine Exec.run tyOk 400 rfl ?_
        obtain ⟨q10, hF⟩ := req_some hF
        refine Exec.idx tyOk rfl rfl q10 ?_
        refine Exec.run tyOk 400 rfl ?_
        obtain ⟨x11, hx11, hF⟩ := bnd_some hF
        refine Exec.callS (.bool (x11)) rfl rfl (h9.at hx11) ?_
        refine Exec.run tyOk 400 rfl ?_
        rcases cond_some hF with ⟨hb, hF⟩ | ⟨hb, hF⟩
        · skip
          refine Exec.ifT rfl hb ?_
          refine Exec.run tyOk 400 rfl ?_
          obtain rfl := some_inj hF
          exact Exec.ret tyOk rfl rfl rfl
        · skip
          refine Exec.ifF rfl hb ?_
          refine Exec.run tyOk 400 rfl ?_
          exact Exec.round [(0, .v (.string ⟨⟨x1⟩⟩)), (1, .v (.func (.func f3) #[] ⟨ca3⟩)), (10, .v (.int .i64 (((x1).length : Int)))), (11, .v (.int .i64 ((IntKind.i64.wrap (x6 + (1 : Int))))))] ⟨rfl, rfl, rfl, rfl, trivial⟩ ⟨n7, Nat.lt_succ_self _, (IntKind.i64.wrap (x6 + (1 : Int))), rfl, rfl, h9, hF⟩
      · skip
        refine Exec.ifF rfl hb ?_
        refine Exec.run tyOk 400 rfl ?_
        exact Exec.round [] trivial ⟨rfl, rfl, hF⟩

def F_keys_Valid_1 (x1 : Int) : Option Bool :=
  (some (((((((decide ((97 : Int) ≤ x1)) && (decide (x1 ≤ (122 : Int)))) || ((decide ((48 : Int) ≤ x1)) && (decide (x1 ≤ (57 : Int))))) || (x1 == (47 : Int))) || (x1 == (46 : Int))) || (x1 == (95 : Int))) || (x1 == (45 : Int))))

set_option maxRecDepth 100000 in
theorem W_keys_Valid_1 {V : View} (x1 : Int)   {r : Bool} (hF : F_keys_Valid_1 x1 = some r) :
    Spec Try.prog 59 [.int .u8 (x1)] V (fun _ v => v = .bool (r)) := by
  unfold F_keys_Valid_1 at hF
  refine Spec.enter (T := tyT) Try.func59 rfl (by kernel_rfl) rfl rfl rfl ?_
  refine Exec.run tyOk 400 rfl ?_
  obtain rfl := some_inj hF
  exact Exec.ret tyOk rfl rfl rfl

def F_cmp_isNaN_string (x1 : Str) : Option Bool :=
  (some (x1 != x1))

set_option maxRecDepth 100000 in
theorem W_cmp_isNaN_string {V : View} (x1 : Str)   {r : Bool} (hF : F_cmp_isNaN_string x1 = some r) :
    Spec Try.prog 60 [.string ⟨⟨x1⟩⟩] V (fun _ v => v = .bool (r)) := by
  unfold F_cmp_isNaN_string at hF
  refine Spec.enter (T := tyT) Try.func60 rfl (by kernel_rfl) rfl rfl rfl ?_
  refine Exec.run tyOk 400 rfl ?_
  obtain rfl := some_inj hF
  exact Exec.ret tyOk rfl rfl rfl

end Go.Proofs.Ytfinjeaoicfdeaa
