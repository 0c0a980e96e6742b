/-
  Functions of the program as their counterparts say them (printed by a program).
  Conditions: none.
-/
import Derived.Test.YtedbagekceppiaaMd
import Derived.Test.YtedbagekceppiaaSh
import Derived.Test.YtedbagekceppiaaTy
set_option linter.all false
namespace Go.Proofs.Ytedbagekceppiaa

structure TPart where
  Id : Int
  From : Str
  Node : Int
  Dest : Int
  Done : Str
instance : Inhabited TPart := ⟨⟨default, default, default, default, default⟩⟩
def cTPart : Cd TPart where
  sz := 5
  rep _ s cs := cs = [.int .i64 (s.Id), .string ⟨⟨s.From⟩⟩, .int .i64 (s.Node), .int .i64 (s.Dest), .string ⟨⟨s.Done⟩⟩]
  len h := by subst h; rfl
  mono _ h := h
  one h := by subst h; intro u hu; simp only [List.mem_cons, List.not_mem_nil, or_false] at hu; rcases hu with rfl | rfl | rfl | rfl | rfl <;> rfl
  pos := by omega
  dflt := ⟨_, fun _ => rfl⟩

structure TPlacement where
  Version : Int
  Parts : List TPart
instance : Inhabited TPlacement := ⟨⟨default, default⟩⟩
def cTPlacement : Cd TPlacement where
  sz := 2
  rep V s cs := ∃ (a1 : Option Addr) (k1 : Nat), cs = [.int .i64 (s.Version), .slice a1 ((s.Parts).length) (k1)] ∧ SlAt cTPart V a1 k1 s.Parts
  len h := by obtain ⟨a1, k1, rfl, _⟩ := h; rfl
  mono hv h := by
    obtain ⟨a1, k1, rfl, h1⟩ := h
    exact ⟨a1, k1, rfl, h1.mono hv⟩
  one h := by obtain ⟨a1, k1, rfl, _⟩ := h; intro u hu; simp only [List.mem_cons, List.not_mem_nil, or_false] at hu; rcases hu with rfl | rfl <;> rfl
  pos := by omega
  dflt := ⟨[.int .i64 (0), .slice none (0) (0)], fun _ => ⟨none, 0, rfl, SlAt.nil⟩⟩

structure TValue where
  Kind : Int
  N : Int
  S : Str
instance : Inhabited TValue := ⟨⟨default, default, default⟩⟩
def cTValue : Cd TValue where
  sz := 3
  rep _ s cs := cs = [.int .i64 (s.Kind), .int .i64 (s.N), .string ⟨⟨s.S⟩⟩]
  len h := by subst h; rfl
  mono _ h := h
  one h := by subst h; intro u hu; simp only [List.mem_cons, List.not_mem_nil, or_false] at hu; rcases hu with rfl | rfl | rfl <;> rfl
  pos := by omega
  dflt := ⟨_, fun _ => rfl⟩

structure TPair where
  Key : Str
  Val : TValue
instance : Inhabited TPair := ⟨⟨default, default⟩⟩
def cTPair : Cd TPair where
  sz := 4
  rep _ s cs := cs = [.string ⟨⟨s.Key⟩⟩, .int .i64 (s.Val.Kind), .int .i64 (s.Val.N), .string ⟨⟨s.Val.S⟩⟩]
  len h := by subst h; rfl
  mono _ h := h
  one h := by subst h; intro u hu; simp only [List.mem_cons, List.not_mem_nil, or_false] at hu; rcases hu with rfl | rfl | rfl | rfl <;> rfl
  pos := by omega
  dflt := ⟨_, fun _ => rfl⟩

structure TShard where
  Node : Int
  Pairs : List TPair
instance : Inhabited TShard := ⟨⟨default, default⟩⟩
def cTShard : Cd TShard where
  sz := 2
  rep V s cs := ∃ (a1 : Option Addr) (k1 : Nat), cs = [.int .i64 (s.Node), .slice a1 ((s.Pairs).length) (k1)] ∧ SlAt cTPair V a1 k1 s.Pairs
  len h := by obtain ⟨a1, k1, rfl, _⟩ := h; rfl
  mono hv h := by
    obtain ⟨a1, k1, rfl, h1⟩ := h
    exact ⟨a1, k1, rfl, h1.mono hv⟩
  one h := by obtain ⟨a1, k1, rfl, _⟩ := h; intro u hu; simp only [List.mem_cons, List.not_mem_nil, or_false] at hu; rcases hu with rfl | rfl <;> rfl
  pos := by omega
  dflt := ⟨[.int .i64 (0), .slice none (0) (0)], fun _ => ⟨none, 0, rfl, SlAt.nil⟩⟩

structure TRange where
  From : Str
  To : Str
instance : Inhabited TRange := ⟨⟨default, default⟩⟩
def cTRange : Cd TRange where
  sz := 2
  rep _ s cs := cs = [.string ⟨⟨s.From⟩⟩, .string ⟨⟨s.To⟩⟩]
  len h := by subst h; rfl
  mono _ h := h
  one h := by subst h; intro u hu; simp only [List.mem_cons, List.not_mem_nil, or_false] at hu; rcases hu with rfl | rfl <;> rfl
  pos := by omega
  dflt := ⟨_, fun _ => rfl⟩

structure TChunk where
  Part : Int
  From : Int
  To : Int
  Keys : TRange
  Pairs : List TPair
  Last : Bool
instance : Inhabited TChunk := ⟨⟨default, default, default, default, default, default⟩⟩
def cTChunk : Cd TChunk where
  sz := 7
  rep V s cs := ∃ (a1 : Option Addr) (k1 : Nat), cs = [.int .i64 (s.Part), .int .i64 (s.From), .int .i64 (s.To), .string ⟨⟨s.Keys.From⟩⟩, .string ⟨⟨s.Keys.To⟩⟩, .slice a1 ((s.Pairs).length) (k1), .bool (s.Last)] ∧ SlAt cTPair V a1 k1 s.Pairs
  len h := by obtain ⟨a1, k1, rfl, _⟩ := h; rfl
  mono hv h := by
    obtain ⟨a1, k1, rfl, h1⟩ := h
    exact ⟨a1, k1, rfl, h1.mono hv⟩
  one h := by obtain ⟨a1, k1, rfl, _⟩ := h; intro u hu; simp only [List.mem_cons, List.not_mem_nil, or_false] at hu; rcases hu with rfl | rfl | rfl | rfl | rfl | rfl | rfl <;> rfl
  pos := by omega
  dflt := ⟨[.int .i64 (0), .int .i64 (0), .int .i64 (0), .string ⟨⟨[]⟩⟩, .string ⟨⟨[]⟩⟩, .slice none (0) (0), .bool (false)], fun _ => ⟨none, 0, rfl, SlAt.nil⟩⟩

structure TMove where
  P : TPlacement
  Id : Int
  Node : Int
  Sizes : List Int
instance : Inhabited TMove := ⟨⟨default, default, default, default⟩⟩
def cTMove : Cd TMove where
  sz := 5
  rep V s cs := ∃ (a1 : Option Addr) (k1 : Nat) (a2 : Option Addr) (k2 : Nat), cs = [.int .i64 (s.P.Version), .slice a1 ((s.P.Parts).length) (k1), .int .i64 (s.Id), .int .i64 (s.Node), .slice a2 ((s.Sizes).length) (k2)] ∧ SlAt cTPart V a1 k1 s.P.Parts ∧ SlAt (cInt .i64) V a2 k2 s.Sizes
  len h := by obtain ⟨a1, k1, a2, k2, rfl, _, _⟩ := h; rfl
  mono hv h := by
    obtain ⟨a1, k1, a2, k2, rfl, h1, h2⟩ := h
    exact ⟨a1, k1, a2, k2, rfl, h1.mono hv, h2.mono hv⟩
  one h := by obtain ⟨a1, k1, a2, k2, rfl, _, _⟩ := h; intro u hu; simp only [List.mem_cons, List.not_mem_nil, or_false] at hu; rcases hu with rfl | rfl | rfl | rfl | rfl <;> rfl
  pos := by omega
  dflt := ⟨[.int .i64 (0), .slice none (0) (0), .int .i64 (0), .int .i64 (0), .slice none (0) (0)], fun _ => ⟨none, 0, none, 0, rfl, SlAt.nil, SlAt.nil⟩⟩

def F_clockworklaw33_few_L1 (x3 : List TShard) (J5 : Option Bool) : Nat → Int → Option Bool
  | 0, _ => none
  | n8 + 1, x7 => (cond (decide (x7 < (((x3).length : Nat) : Int))) (req (0 ≤ x7 ∧ x7 < ((x3).length : Int)) (cond (decide ((60 : Int) < ((((atI x3 x7).Pairs).length : Nat) : Int))) (some false) (F_clockworklaw33_few_L1 x3 J5 n8 ((IntKind.i64.wrap (x7 + (1 : Int))))))) J5)

def F_clockworklaw33_few (x1 : TPlacement) (x3 : List TShard) : Option Bool :=
  (cond ((decide ((40 : Int) < (((x1.Parts).length : Nat) : Int))) || (decide ((40 : Int) < (((x3).length : Nat) : Int)))) (some false) (jn ((some true)) (fun J5 => (F_clockworklaw33_few_L1 x3 J5 (((((x3).length : Nat) : Int)).toNat + 1) ((0 : Int))))))

set_option maxRecDepth 100000 in
theorem W_clockworklaw33_few {V : View} (x1 : TPlacement) (x3 : List TShard) {a2 : Option Addr} {k2 : Nat} {a4 : Option Addr} {k4 : Nat} (h2 : SlAt cTPart V a2 k2 x1.Parts) (h4 : SlAt cTShard V a4 k4 x3) {r : Bool} (hF : F_clockworklaw33_few x1 x3 = some r) :
    Spec Try.prog 8 [.agg ⟨[.int .i64 (x1.Version), .slice a2 ((x1.Parts).length) (k2)]⟩, .slice a4 ((x3).length) (k4)] V (fun _ v => v = .bool (r)) := by
  unfold F_clockworklaw33_few at hF
  refine Spec.enter (T := tyT) Try.func8 rfl (by kernel_rfl) rfl rfl rfl ?_
  refine Exec.run tyOk 400 rfl ?_
  rcases cond_some hF with ⟨hb, hF⟩ | ⟨hb, hF⟩
  · skip
    refine Exec.ifT rfl hb ?_
    refine Exec.run tyOk 400 rfl ?_
    obtain rfl := some_inj hF
    exact Exec.ret tyOk rfl rfl rfl
  · skip
    refine Exec.ifF rfl hb ?_
    refine Exec.run tyOk 6 rfl ?_
    obtain ⟨J5, hJ5, hF⟩ := jn_some hF
    refine Exec.seam (fun L' V' M' => L' = [] ∧ M' = [] ∧ J5 = some r) rfl ?_ ?_
    · rintro L' V6 M' ⟨rfl, rfl, hF⟩
      subst hJ5
      refine Exec.run tyOk 400 rfl ?_
      obtain rfl := some_inj hF
      exact Exec.ret tyOk rfl rfl rfl
    · skip
      refine Exec.run tyOk 400 rfl ?_
      refine Exec.cut 0 [(1, .v (.slice a4 ((x3).length) (k4))), (5, .v (.int .i64 ((0 : Int))))] (M' := []) rfl ⟨rfl, rfl, trivial⟩ rfl rfl rfl ?_
      refine Exec.loop (fun n8 L' V' M' => ∃ (x7 : Int), L' = [(1, .v (.slice a4 ((x3).length) (k4))), (5, .v (.int .i64 (x7)))] ∧ M' = [] ∧ SlAt cTShard V' a4 k4 x3 ∧ F_clockworklaw33_few_L1 x3 J5 n8 x7 = some r) ⟨(((((x3).length : Nat) : Int)).toNat + 1), [(1, .v (.slice a4 ((x3).length) (k4))), (5, .v (.int .i64 ((0 : Int))))], ⟨rfl, rfl, trivial⟩, (0 : Int), rfl, rfl, h4, hF⟩ ?_
      rintro n8 L' V9 M' ⟨x7, rfl, rfl, h10, hF⟩
      rcases n8 with _ | n8
      · exact absurd hF (by simp [F_clockworklaw33_few_L1])
      rw [F_clockworklaw33_few_L1] at hF
      refine Exec.run tyOk 400 rfl ?_
      rcases cond_some hF with ⟨hb, hF⟩ | ⟨hb, hF⟩
      · skip
        refine Exec.ifT rfl hb ?_
        refine Exec.run tyOk 400 rfl ?_
        obtain ⟨q11, hF⟩ := req_some hF
        obtain ⟨c12, hr12, hd12⟩ := SlAt.get h10 q11
        obtain ⟨a13, k13, rfl, h13⟩ := hr12
        refine Exec.ia tyOk rfl rfl ⟨q11.1, q11.2, hd12.some⟩ ?_
        refine Exec.run tyOk 400 rfl ?_
        refine Exec.ld tyOk (x := .slice a13 (((atI x3 x7).Pairs).length) (k13)) rfl rfl (RdAt.part hd12 1 1 rfl) rfl rfl ?_
        refine Exec.run tyOk 400 rfl ?_
        rcases cond_some hF with ⟨hb, hF⟩ | ⟨hb, hF⟩
        · skip
          refine Exec.ifT rfl hb ?_
          refine Exec.run tyOk 400 rfl ?_
          obtain rfl := some_inj hF
          exact Exec.ret tyOk rfl rfl rfl
        · skip
          refine Exec.ifF rfl hb ?_
          refine Exec.run tyOk 400 rfl ?_
          exact Exec.round [(1, .v (.slice a4 ((x3).length) (k4))), (5, .v (.int .i64 ((IntKind.i64.wrap (x7 + (1 : Int))))))] ⟨rfl, rfl, trivial⟩ ⟨n8, Nat.lt_succ_self _, (IntKind.i64.wrap (x7 + (1 : Int))), rfl, rfl, h10, hF⟩
      · skip
        refine Exec.ifF rfl hb ?_
        refine Exec.run tyOk 400 rfl ?_
        exact Exec.round [] trivial ⟨rfl, rfl, hF⟩

def F_clockworkref29_Same_L1 (x1 : TPlacement) (x3 : TPlacement) (J5 : Option Bool) : Nat → Int → Option Bool
  | 0, _ => none
  | n8 + 1, x7 => (cond (decide (x7 < (((x1.Parts).length : Nat) : Int))) (req (0 ≤ x7 ∧ x7 < ((x1.Parts).length : Int)) (req (0 ≤ x7 ∧ x7 < ((x3.Parts).length : Int)) (cond (!(((atI x1.Parts x7).Id == (atI x3.Parts x7).Id) && (((atI x1.Parts x7).From == (atI x3.Parts x7).From) && (((atI x1.Parts x7).Node == (atI x3.Parts x7).Node) && (((atI x1.Parts x7).Dest == (atI x3.Parts x7).Dest) && (((atI x1.Parts x7).Done == (atI x3.Parts x7).Done) && true)))))) (some false) (F_clockworkref29_Same_L1 x1 x3 J5 n8 ((IntKind.i64.wrap (x7 + (1 : Int)))))))) J5)

def F_clockworkref29_Same (x1 : TPlacement) (x3 : TPlacement) : Option Bool :=
  (cond ((x1.Version != x3.Version) || ((((x1.Parts).length : Nat) : Int) != (((x3.Parts).length : Nat) : Int))) (some false) (jn ((some true)) (fun J5 => (F_clockworkref29_Same_L1 x1 x3 J5 (((((x1.Parts).length : Nat) : Int)).toNat + 1) ((0 : Int))))))

set_option maxRecDepth 100000 in
theorem W_clockworkref29_Same {V : View} (x1 : TPlacement) (x3 : TPlacement) {a2 : Option Addr} {k2 : Nat} {a4 : Option Addr} {k4 : Nat} (h2 : SlAt cTPart V a2 k2 x1.Parts) (h4 : SlAt cTPart V a4 k4 x3.Parts) {r : Bool} (hF : F_clockworkref29_Same x1 x3 = some r) :
    Spec Try.prog 12 [.agg ⟨[.int .i64 (x1.Version), .slice a2 ((x1.Parts).length) (k2)]⟩, .agg ⟨[.int .i64 (x3.Version), .slice a4 ((x3.Parts).length) (k4)]⟩] V (fun _ v => v = .bool (r)) := by
  unfold F_clockworkref29_Same at hF
  refine Spec.enter (T := tyT) Try.func12 rfl (by kernel_rfl) rfl rfl rfl ?_
  refine Exec.run tyOk 400 rfl ?_
  rcases cond_some hF with ⟨hb, hF⟩ | ⟨hb, hF⟩
  · skip
    refine Exec.ifT rfl hb ?_
    refine Exec.run tyOk 400 rfl ?_
    obtain rfl := some_inj hF
    exact Exec.ret tyOk rfl rfl rfl
  · skip
    refine Exec.ifF rfl hb ?_
    refine Exec.run tyOk 6 rfl ?_
    obtain ⟨J5, hJ5, hF⟩ := jn_some hF
    refine Exec.seam (fun L' V' M' => L' = [] ∧ M' = [] ∧ J5 = some r) rfl ?_ ?_
    · rintro L' V6 M' ⟨rfl, rfl, hF⟩
      subst hJ5
      refine Exec.run tyOk 400 rfl ?_
      obtain rfl := some_inj hF
      exact Exec.ret tyOk rfl rfl rfl
    · skip
      refine Exec.run tyOk 400 rfl ?_
      refine Exec.loop (fun n8 L' V' M' => ∃ (x7 : Int), L' = [(2, .ptr 0 0), (3, .ptr 1 0), (5, .v (.int .i64 (x7)))] ∧ M' = [.blk [.v (.int .i64 (x1.Version)), .v (.slice a2 ((x1.Parts).length) (k2))] 24, .blk [.v (.int .i64 (x3.Version)), .v (.slice a4 ((x3.Parts).length) (k4))] 24] ∧ SlAt cTPart V' a2 k2 x1.Parts ∧ SlAt cTPart V' a4 k4 x3.Parts ∧ F_clockworkref29_Same_L1 x1 x3 J5 n8 x7 = some r) ⟨(((((x1.Parts).length : Nat) : Int)).toNat + 1), [(2, .ptr 0 0), (3, .ptr 1 0), (5, .v (.int .i64 ((0 : Int))))], ⟨rfl, rfl, rfl, trivial⟩, (0 : Int), rfl, rfl, h2, h4, hF⟩ ?_
      rintro n8 L' V9 M' ⟨x7, rfl, rfl, h10, h11, hF⟩
      rcases n8 with _ | n8
      · exact absurd hF (by simp [F_clockworkref29_Same_L1])
      rw [F_clockworkref29_Same_L1] at hF
      refine Exec.run tyOk 400 rfl ?_
      rcases cond_some hF with ⟨hb, hF⟩ | ⟨hb, hF⟩
      · skip
        refine Exec.ifT rfl hb ?_
        refine Exec.run tyOk 400 rfl ?_
        refine Exec.draws tyOk [(0, true), (1, true), (2, true), (3, true), (4, true), (5, true), (6, true), (7, true), (8, true), (9, true), (10, true)] rfl (by kernel_rfl) ?_
        refine Exec.run tyOk 400 rfl ?_
        obtain ⟨q12, hF⟩ := req_some hF
        obtain ⟨c13, hr13, hd13⟩ := SlAt.get h10 q12
        obtain rfl := hr13
        refine Exec.fia tyOk rfl rfl rfl ⟨q12.1, q12.2, hd13.some⟩ ?_
        refine Exec.run tyOk 400 rfl ?_
        refine Exec.fld tyOk (x := .agg ⟨[.int .i64 ((atI x1.Parts x7).Id), .string ⟨⟨(atI x1.Parts x7).From⟩⟩, .int .i64 ((atI x1.Parts x7).Node), .int .i64 ((atI x1.Parts x7).Dest), .string ⟨⟨(atI x1.Parts x7).Done⟩⟩]⟩) rfl rfl rfl hd13 rfl rfl ?_
        refine Exec.run tyOk 400 rfl ?_
        obtain ⟨q14, hF⟩ := req_some hF
        obtain ⟨c15, hr15, hd15⟩ := SlAt.get h11 q14
        obtain rfl := hr15
        refine Exec.fia tyOk rfl rfl rfl ⟨q14.1, q14.2, hd15.some⟩ ?_
        refine Exec.run tyOk 400 rfl ?_
        refine Exec.fld tyOk (x := .agg ⟨[.int .i64 ((atI x3.Parts x7).Id), .string ⟨⟨(atI x3.Parts x7).From⟩⟩, .int .i64 ((atI x3.Parts x7).Node), .int .i64 ((atI x3.Parts x7).Dest), .string ⟨⟨(atI x3.Parts x7).Done⟩⟩]⟩) rfl rfl rfl hd15 rfl rfl ?_
        refine Exec.run tyOk 400 rfl ?_
        rcases cond_some hF with ⟨hb, hF⟩ | ⟨hb, hF⟩
        · skip
          refine Exec.ifT rfl hb ?_
          refine Exec.run tyOk 400 rfl ?_
          obtain rfl := some_inj hF
          exact Exec.ret tyOk rfl rfl rfl
        · skip
          refine Exec.ifF rfl hb ?_
          refine Exec.run tyOk 400 rfl ?_
          exact Exec.round [(2, .ptr 0 0), (3, .ptr 1 0), (5, .v (.int .i64 ((IntKind.i64.wrap (x7 + (1 : Int))))))] ⟨rfl, rfl, rfl, trivial⟩ ⟨n8, Nat.lt_succ_self _, (IntKind.i64.wrap (x7 + (1 : Int))), rfl, rfl, h10, h11, hF⟩
      · skip
        refine Exec.ifF rfl hb ?_
        refine Exec.run tyOk 400 rfl ?_
        refine Exec.cut 0 [] (M' := []) rfl trivial rfl rfl rfl ?_
        exact Exec.round [] trivial ⟨rfl, rfl, hF⟩

def F_clockworkref23_Ints_L1 (x1 : List Int) (x3 : List Int) (J5 : Option Bool) : Nat → Int → Option Bool
  | 0, _ => none
  | n8 + 1, x7 => (cond (decide (x7 < (((x1).length : Nat) : Int))) (req (0 ≤ x7 ∧ x7 < ((x1).length : Int)) (req (0 ≤ x7 ∧ x7 < ((x3).length : Int)) (cond ((atI x1 x7) != (atI x3 x7)) (some false) (F_clockworkref23_Ints_L1 x1 x3 J5 n8 ((IntKind.i64.wrap (x7 + (1 : Int)))))))) J5)

def F_clockworkref23_Ints (x1 : List Int) (x3 : List Int) : Option Bool :=
  (cond ((((x1).length : Nat) : Int) != (((x3).length : Nat) : Int)) (some false) (jn ((some true)) (fun J5 => (F_clockworkref23_Ints_L1 x1 x3 J5 (((((x1).length : Nat) : Int)).toNat + 1) ((0 : Int))))))

set_option maxRecDepth 100000 in
theorem W_clockworkref23_Ints {V : View} (x1 : List Int) (x3 : List Int) {a2 : Option Addr} {k2 : Nat} {a4 : Option Addr} {k4 : Nat} (h2 : SlAt (cInt .i64) V a2 k2 x1) (h4 : SlAt (cInt .i64) V a4 k4 x3) {r : Bool} (hF : F_clockworkref23_Ints x1 x3 = some r) :
    Spec Try.prog 13 [.slice a2 ((x1).length) (k2), .slice a4 ((x3).length) (k4)] V (fun _ v => v = .bool (r)) := by
  unfold F_clockworkref23_Ints at hF
  refine Spec.enter (T := tyT) Try.func13 rfl (by kernel_rfl) rfl rfl rfl ?_
  refine Exec.run tyOk 400 rfl ?_
  rcases cond_some hF with ⟨hb, hF⟩ | ⟨hb, hF⟩
  · skip
    refine Exec.ifT rfl hb ?_
    refine Exec.run tyOk 400 rfl ?_
    obtain rfl := some_inj hF
    exact Exec.ret tyOk rfl rfl rfl
  · skip
    refine Exec.ifF rfl hb ?_
    refine Exec.run tyOk 6 rfl ?_
    obtain ⟨J5, hJ5, hF⟩ := jn_some hF
    refine Exec.seam (fun L' V' M' => L' = [] ∧ M' = [] ∧ J5 = some r) rfl ?_ ?_
    · rintro L' V6 M' ⟨rfl, rfl, hF⟩
      subst hJ5
      refine Exec.run tyOk 400 rfl ?_
      obtain rfl := some_inj hF
      exact Exec.ret tyOk rfl rfl rfl
    · skip
      refine Exec.run tyOk 400 rfl ?_
      refine Exec.loop (fun n8 L' V' M' => ∃ (x7 : Int), L' = [(0, .v (.slice a2 ((x1).length) (k2))), (1, .v (.slice a4 ((x3).length) (k4))), (5, .v (.int .i64 (x7)))] ∧ M' = [] ∧ SlAt (cInt .i64) V' a2 k2 x1 ∧ SlAt (cInt .i64) V' a4 k4 x3 ∧ F_clockworkref23_Ints_L1 x1 x3 J5 n8 x7 = some r) ⟨(((((x1).length : Nat) : Int)).toNat + 1), [(0, .v (.slice a2 ((x1).length) (k2))), (1, .v (.slice a4 ((x3).length) (k4))), (5, .v (.int .i64 ((0 : Int))))], ⟨rfl, rfl, rfl, trivial⟩, (0 : Int), rfl, rfl, h2, h4, hF⟩ ?_
      rintro n8 L' V9 M' ⟨x7, rfl, rfl, h10, h11, hF⟩
      rcases n8 with _ | n8
      · exact absurd hF (by simp [F_clockworkref23_Ints_L1])
      rw [F_clockworkref23_Ints_L1] at hF
      refine Exec.run tyOk 400 rfl ?_
      rcases cond_some hF with ⟨hb, hF⟩ | ⟨hb, hF⟩
      · skip
        refine Exec.ifT rfl hb ?_
        refine Exec.run tyOk 400 rfl ?_
        refine Exec.draws tyOk [(0, true), (1, true), (2, true), (3, true), (4, true), (5, true), (6, true), (7, true), (8, true)] rfl (by kernel_rfl) ?_
        refine Exec.run tyOk 400 rfl ?_
        obtain ⟨q12, hF⟩ := req_some hF
        obtain ⟨c13, hr13, hd13⟩ := SlAt.get h10 q12
        obtain rfl := hr13
        refine Exec.fia tyOk rfl rfl rfl ⟨q12.1, q12.2, hd13.some⟩ ?_
        refine Exec.run tyOk 400 rfl ?_
        refine Exec.fld tyOk (x := .int .i64 ((atI x1 x7))) rfl rfl rfl hd13 rfl rfl ?_
        refine Exec.run tyOk 400 rfl ?_
        obtain ⟨q14, hF⟩ := req_some hF
        obtain ⟨c15, hr15, hd15⟩ := SlAt.get h11 q14
        obtain rfl := hr15
        refine Exec.fia tyOk rfl rfl rfl ⟨q14.1, q14.2, hd15.some⟩ ?_
        refine Exec.run tyOk 400 rfl ?_
        refine Exec.fld tyOk (x := .int .i64 ((atI x3 x7))) rfl rfl rfl hd15 rfl rfl ?_
        refine Exec.run tyOk 400 rfl ?_
        rcases cond_some hF with ⟨hb, hF⟩ | ⟨hb, hF⟩
        · skip
          refine Exec.ifT rfl hb ?_
          refine Exec.run tyOk 400 rfl ?_
          obtain rfl := some_inj hF
          exact Exec.ret tyOk rfl rfl rfl
        · skip
          refine Exec.ifF rfl hb ?_
          refine Exec.run tyOk 400 rfl ?_
          exact Exec.round [(0, .v (.slice a2 ((x1).length) (k2))), (1, .v (.slice a4 ((x3).length) (k4))), (5, .v (.int .i64 ((IntKind.i64.wrap (x7 + (1 : Int))))))] ⟨rfl, rfl, rfl, trivial⟩ ⟨n8, Nat.lt_succ_self _, (IntKind.i64.wrap (x7 + (1 : Int))), rfl, rfl, h10, h11, hF⟩
      · skip
        refine Exec.ifF rfl hb ?_
        refine Exec.run tyOk 400 rfl ?_
        exact Exec.round [] trivial ⟨rfl, rfl, hF⟩

def F_clockworklaw33_at_L1 (x1 : List TShard) (x3 : Int) (J6 : TShard → Option TShard) : Nat → TShard → Int → Option TShard
  | 0, _, _ => none
  | n11 + 1, x8, x10 => (cond (decide (x10 < (((x1).length : Nat) : Int))) (req (0 ≤ x10 ∧ x10 < ((x1).length : Int)) (cond ((atI x1 x10).Node == x3) (req (0 ≤ x10 ∧ x10 < ((x1).length : Int)) (some (atI x1 x10))) (F_clockworklaw33_at_L1 x1 x3 J6 n11 x8 ((IntKind.i64.wrap (x10 + (1 : Int))))))) (J6 x8))

def F_clockworklaw33_at (x1 : List TShard) (x3 : Int) : Option TShard :=
  (jn (fun (x4 : TShard) => (some (⟨x3, ([] : List TPair)⟩ : TShard))) (fun J6 => (F_clockworklaw33_at_L1 x1 x3 J6 (((((x1).length : Nat) : Int)).toNat + 1) ((default : TShard)) ((0 : Int)))))

set_option maxRecDepth 100000 in
theorem W_clockworklaw33_at {V : View} (x1 : List TShard) (x3 : Int) {a2 : Option Addr} {k2 : Nat} (h2 : SlAt cTShard V a2 k2 x1) {r : TShard} (hF : F_clockworklaw33_at x1 x3 = some r) :
    Spec Try.prog 20 [.slice a2 ((x1).length) (k2), .int .i64 (x3)] V (fun V' v => ∃ (a20 : Option Addr) (k20 : Nat), v = .agg ⟨[.int .i64 (r.Node), .slice a20 ((r.Pairs).length) (k20)]⟩ ∧ SlAt cTPair V' a20 k20 r.Pairs) := by
  unfold F_clockworklaw33_at at hF
  refine Spec.enter (T := tyT) Try.func20 rfl (by kernel_rfl) rfl rfl rfl ?_
  refine Exec.run tyOk 9 rfl ?_
  obtain ⟨J6, hJ6, hF⟩ := jn_some hF
  refine Exec.seam (fun L' V' M' => ∃ (x4 : TShard) (a5 : Option Addr) (k5 : Nat), L' = [(1, .v (.int .i64 (x3))), (4, .ptr 0 0)] ∧ M' = [.blk [.v (.int .i64 (x4.Node)), .v (.slice a5 ((x4.Pairs).length) (k5))] 37] ∧ SlAt cTPair V' a5 k5 x4.Pairs ∧ J6 x4 = some r) rfl ?_ ?_
  · rintro L' V7 M' ⟨x4, a5, k5, rfl, rfl, h5, hF⟩
    subst hJ6
    refine Exec.run tyOk 400 rfl ?_
    obtain rfl := some_inj hF
    exact Exec.ret tyOk rfl rfl ⟨_, _, rfl, SlAt.nil⟩
  · skip
    refine Exec.run tyOk 400 rfl ?_
    refine Exec.loop (fun n11 L' V' M' => ∃ (x8 : TShard) (a9 : Option Addr) (k9 : Nat) (x10 : Int), L' = [(0, .v (.slice a2 ((x1).length) (k2))), (1, .v (.int .i64 (x3))), (4, .ptr 0 0), (5, .v (.int .i64 (x10)))] ∧ M' = [.blk [.v (.int .i64 (x8.Node)), .v (.slice a9 ((x8.Pairs).length) (k9))] 37] ∧ SlAt cTPair V' a9 k9 x8.Pairs ∧ SlAt cTShard V' a2 k2 x1 ∧ F_clockworklaw33_at_L1 x1 x3 J6 n11 x8 x10 = some r) ⟨(((((x1).length : Nat) : Int)).toNat + 1), [(0, .v (.slice a2 ((x1).length) (k2))), (1, .v (.int .i64 (x3))), (4, .ptr 0 0), (5, .v (.int .i64 ((0 : Int))))], ⟨rfl, rfl, rfl, rfl, trivial⟩, (default : TShard), none, 0, (0 : Int), rfl, rfl, SlAt.nil, h2, hF⟩ ?_
    rintro n11 L' V12 M' ⟨x8, a9, k9, x10, rfl, rfl, h9, h13, hF⟩
    rcases n11 with _ | n11
    · exact absurd hF (by simp [F_clockworklaw33_at_L1])
    rw [F_clockworklaw33_at_L1] at hF
    refine Exec.run tyOk 400 rfl ?_
    rcases cond_some hF with ⟨hb, hF⟩ | ⟨hb, hF⟩
    · skip
      refine Exec.ifT rfl hb ?_
      refine Exec.run tyOk 400 rfl ?_
      obtain ⟨q14, hF⟩ := req_some hF
      obtain ⟨c15, hr15, hd15⟩ := SlAt.get h13 q14
      obtain ⟨a16, k16, rfl, h16⟩ := hr15
      refine Exec.ia tyOk rfl rfl ⟨q14.1, q14.2, hd15.some⟩ ?_
      refine Exec.run tyOk 400 rfl ?_
      refine Exec.ld tyOk (x := .int .i64 ((atI x1 x10).Node)) rfl rfl (RdAt.part hd15 0 1 rfl) rfl rfl ?_
      refine Exec.run tyOk 400 rfl ?_
      rcases cond_some hF with ⟨hb, hF⟩ | ⟨hb, hF⟩
      · skip
        refine Exec.ifT rfl hb ?_
        refine Exec.run tyOk 400 rfl ?_
        obtain ⟨q17, hF⟩ := req_some hF
        obtain ⟨c18, hr18, hd18⟩ := SlAt.get h13 q17
        obtain ⟨a19, k19, rfl, h19⟩ := hr18
        refine Exec.ia tyOk rfl rfl ⟨q17.1, q17.2, hd18.some⟩ ?_
        refine Exec.run tyOk 400 rfl ?_
        refine Exec.ld tyOk (x := .agg ⟨[.int .i64 ((atI x1 x10).Node), .slice a19 (((atI x1 x10).Pairs).length) (k19)]⟩) rfl rfl hd18 rfl rfl ?_
        refine Exec.run tyOk 400 rfl ?_
        obtain rfl := some_inj hF
        exact Exec.ret tyOk rfl rfl ⟨_, _, rfl, h19⟩
      · skip
        refine Exec.ifF rfl hb ?_
        refine Exec.run tyOk 400 rfl ?_
        exact Exec.round [(0, .v (.slice a2 ((x1).length) (k2))), (1, .v (.int .i64 (x3))), (4, .ptr 0 0), (5, .v (.int .i64 ((IntKind.i64.wrap (x10 + (1 : Int))))))] ⟨rfl, rfl, rfl, rfl, trivial⟩ ⟨n11, Nat.lt_succ_self _, x8, a9, k9, (IntKind.i64.wrap (x10 + (1 : Int))), rfl, rfl, h9, h13, hF⟩
    · skip
      refine Exec.ifF rfl hb ?_
      refine Exec.run tyOk 400 rfl ?_
      exact Exec.round [(1, .v (.int .i64 (x3))), (4, .ptr 0 0)] ⟨rfl, rfl, trivial⟩ ⟨x8, a9, k9, rfl, rfl, h9, hF⟩

def F_clockworkref06_Same_L1 (x1 : List TPair) (x3 : List TPair) (J5 : Option Bool) : Nat → Int → Option Bool
  | 0, _ => none
  | n8 + 1, x7 => (cond (decide (x7 < (((x1).length : Nat) : Int))) (req (0 ≤ x7 ∧ x7 < ((x1).length : Int)) (req (0 ≤ x7 ∧ x7 < ((x3).length : Int)) (cond (!(((atI x1 x7).Key == (atI x3 x7).Key) && ((((atI x1 x7).Val.Kind == (atI x3 x7).Val.Kind) && (((atI x1 x7).Val.N == (atI x3 x7).Val.N) && (((atI x1 x7).Val.S == (atI x3 x7).Val.S) && true))) && true))) (some false) (F_clockworkref06_Same_L1 x1 x3 J5 n8 ((IntKind.i64.wrap (x7 + (1 : Int)))))))) J5)

def F_clockworkref06_Same (x1 : List TPair) (x3 : List TPair) : Option Bool :=
  (cond ((((x1).length : Nat) : Int) != (((x3).length : Nat) : Int)) (some false) (jn ((some true)) (fun J5 => (F_clockworkref06_Same_L1 x1 x3 J5 (((((x1).length : Nat) : Int)).toNat + 1) ((0 : Int))))))

set_option maxRecDepth 100000 in
theorem W_clockworkref06_Same {V : View} (x1 : List TPair) (x3 : List TPair) {a2 : Option Addr} {k2 : Nat} {a4 : Option Addr} {k4 : Nat} (h2 : SlAt cTPair V a2 k2 x1) (h4 : SlAt cTPair V a4 k4 x3) {r : Bool} (hF : F_clockworkref06_Same x1 x3 = some r) :
    Spec Try.prog 22 [.slice a2 ((x1).length) (k2), .slice a4 ((x3).length) (k4)] V (fun _ v => v = .bool (r)) := by
  unfold F_clockworkref06_Same at hF
  refine Spec.enter (T := tyT) Try.func22 rfl (by kernel_rfl) rfl rfl rfl ?_
  refine Exec.run tyOk 400 rfl ?_
  rcases cond_some hF with ⟨hb, hF⟩ | ⟨hb, hF⟩
  · skip
    refine Exec.ifT rfl hb ?_
    refine Exec.run tyOk 400 rfl ?_
    obtain rfl := some_inj hF
    exact Exec.ret tyOk rfl rfl rfl
  · skip
    refine Exec.ifF rfl hb ?_
    refine Exec.run tyOk 6 rfl ?_
    obtain ⟨J5, hJ5, hF⟩ := jn_some hF
    refine Exec.seam (fun L' V' M' => L' = [] ∧ M' = [] ∧ J5 = some r) rfl ?_ ?_
    · rintro L' V6 M' ⟨rfl, rfl, hF⟩
      subst hJ5
      refine Exec.run tyOk 400 rfl ?_
      obtain rfl := some_inj hF
      exact Exec.ret tyOk rfl rfl rfl
    · skip
      refine Exec.run tyOk 400 rfl ?_
      refine Exec.loop (fun n8 L' V' M' => ∃ (x7 : Int), L' = [(0, .v (.slice a2 ((x1).length) (k2))), (1, .v (.slice a4 ((x3).length) (k4))), (5, .v (.int .i64 (x7)))] ∧ M' = [] ∧ SlAt cTPair V' a2 k2 x1 ∧ SlAt cTPair V' a4 k4 x3 ∧ F_clockworkref06_Same_L1 x1 x3 J5 n8 x7 = some r) ⟨(((((x1).length : Nat) : Int)).toNat + 1), [(0, .v (.slice a2 ((x1).length) (k2))), (1, .v (.slice a4 ((x3).length) (k4))), (5, .v (.int .i64 ((0 : Int))))], ⟨rfl, rfl, rfl, trivial⟩, (0 : Int), rfl, rfl, h2, h4, hF⟩ ?_
      rintro n8 L' V9 M' ⟨x7, rfl, rfl, h10, h11, hF⟩
      rcases n8 with _ | n8
      · exact absurd hF (by simp [F_clockworkref06_Same_L1])
      rw [F_clockworkref06_Same_L1] at hF
      refine Exec.run tyOk 400 rfl ?_
      rcases cond_some hF with ⟨hb, hF⟩ | ⟨hb, hF⟩
      · skip
        refine Exec.ifT rfl hb ?_
        refine Exec.run tyOk 400 rfl ?_
        refine Exec.draws tyOk [(0, true), (1, true), (2, true), (3, true), (4, true), (5, true), (6, true), (7, true), (8, true)] rfl (by kernel_rfl) ?_
        refine Exec.run tyOk 400 rfl ?_
        obtain ⟨q12, hF⟩ := req_some hF
        obtain ⟨c13, hr13, hd13⟩ := SlAt.get h10 q12
        obtain rfl := hr13
        refine Exec.fia tyOk rfl rfl rfl ⟨q12.1, q12.2, hd13.some⟩ ?_
        refine Exec.run tyOk 400 rfl ?_
        refine Exec.fld tyOk (x := .agg ⟨[.string ⟨⟨(atI x1 x7).Key⟩⟩, .int .i64 ((atI x1 x7).Val.Kind), .int .i64 ((atI x1 x7).Val.N), .string ⟨⟨(atI x1 x7).Val.S⟩⟩]⟩) rfl rfl rfl hd13 rfl rfl ?_
        refine Exec.run tyOk 400 rfl ?_
        obtain ⟨q14, hF⟩ := req_some hF
        obtain ⟨c15, hr15, hd15⟩ := SlAt.get h11 q14
        obtain rfl := hr15
        refine Exec.fia tyOk rfl rfl rfl ⟨q14.1, q14.2, hd15.some⟩ ?_
        refine Exec.run tyOk 400 rfl ?_
        refine Exec.fld tyOk (x := .agg ⟨[.string ⟨⟨(atI x3 x7).Key⟩⟩, .int .i64 ((atI x3 x7).Val.Kind), .int .i64 ((atI x3 x7).Val.N), .string ⟨⟨(atI x3 x7).Val.S⟩⟩]⟩) rfl rfl rfl hd15 rfl rfl ?_
        refine Exec.run tyOk 400 rfl ?_
        rcases cond_some hF with ⟨hb, hF⟩ | ⟨hb, hF⟩
        · skip
          refine Exec.ifT rfl hb ?_
          refine Exec.run tyOk 400 rfl ?_
          obtain rfl := some_inj hF
          exact Exec.ret tyOk rfl rfl rfl
        · skip
          refine Exec.ifF rfl hb ?_
          refine Exec.run tyOk 400 rfl ?_
          exact Exec.round [(0, .v (.slice a2 ((x1).length) (k2))), (1, .v (.slice a4 ((x3).length) (k4))), (5, .v (.int .i64 ((IntKind.i64.wrap (x7 + (1 : Int))))))] ⟨rfl, rfl, rfl, trivial⟩ ⟨n8, Nat.lt_succ_self _, (IntKind.i64.wrap (x7 + (1 : Int))), rfl, rfl, h10, h11, hF⟩
      · skip
        refine Exec.ifF rfl hb ?_
        refine Exec.run tyOk 400 rfl ?_
        exact Exec.round [] trivial ⟨rfl, rfl, hF⟩

def F_clockworklaw33_pair (x1 : Str) : Option TPair :=
  (some (⟨x1, (⟨(1 : Int), (1 : Int), []⟩ : TValue)⟩ : TPair))

set_option maxRecDepth 100000 in
theorem W_clockworklaw33_pair {V : View} (x1 : Str)   {r : TPair} (hF : F_clockworklaw33_pair x1 = some r) :
    Spec Try.prog 27 [.string ⟨⟨x1⟩⟩] V (fun _ v => v = .agg ⟨[.string ⟨⟨r.Key⟩⟩, .int .i64 (r.Val.Kind), .int .i64 (r.Val.N), .string ⟨⟨r.Val.S⟩⟩]⟩) := by
  unfold F_clockworklaw33_pair at hF
  refine Spec.enter (T := tyT) Try.func27 rfl (by kernel_rfl) rfl rfl rfl ?_
  refine Exec.run tyOk 400 rfl ?_
  obtain rfl := some_inj hF
  exact Exec.ret tyOk rfl rfl rfl

def F_migrate_changed (x1 : TPlacement) (x3 : Int) (x4 : TPart) : Option TPlacement :=
  (req (0 ≤ (((x1.Parts).length : Nat) : Int) ∧ (((x1.Parts).length : Nat) : Int) ≤ (((x1.Parts).length : Nat) : Int)) (req (56 * ((((x1.Parts).length : Nat) : Int)).toNat ≤ 281474976710656) (req (0 ≤ x3 ∧ x3 < (((cpL x1.Parts ((List.replicate ((((x1.Parts).length : Nat) : Int)).toNat (default : TPart))))).length : Int)) (some (⟨(IntKind.i64.wrap (x1.Version + (1 : Int))), ((cpL x1.Parts ((List.replicate ((((x1.Parts).length : Nat) : Int)).toNat (default : TPart)))).set (x3).toNat x4)⟩ : TPlacement)))))

set_option maxRecDepth 100000 in
theorem W_migrate_changed {V : View} (x1 : TPlacement) (x3 : Int) (x4 : TPart) {a2 : Option Addr} {k2 : Nat} (h2 : SlAt cTPart V a2 k2 x1.Parts) {r : TPlacement} (hF : F_migrate_changed x1 x3 x4 = some r) :
    Spec Try.prog 30 [.agg ⟨[.int .i64 (x1.Version), .slice a2 ((x1.Parts).length) (k2)]⟩, .int .i64 (x3), .agg ⟨[.int .i64 (x4.Id), .string ⟨⟨x4.From⟩⟩, .int .i64 (x4.Node), .int .i64 (x4.Dest), .string ⟨⟨x4.Done⟩⟩]⟩] V (fun V' v => ∃ (a16 : Option Addr) (k16 : Nat), v = .agg ⟨[.int .i64 (r.Version), .slice a16 ((r.Parts).length) (k16)]⟩ ∧ SlAt cTPart V' a16 k16 r.Parts) := by
  unfold F_migrate_changed at hF
  refine Spec.enter (T := tyT) Try.func30 rfl (by kernel_rfl) rfl rfl rfl ?_
  refine Exec.run tyOk 400 rfl ?_
  obtain ⟨q5, hF⟩ := req_some hF
  obtain ⟨q6, hF⟩ := req_some hF
  refine Exec.mkr tyOk rfl rfl rfl rfl (nm := ((List.replicate ((((x1.Parts).length : Nat) : Int)).toNat (default : TPart))).length) (by simp) q5 q6 (fun _ => rfl) (fun a7 => ?_)
  have h7 : RowRep cTPart V (List.replicate ((((x1.Parts).length : Nat) : Int)).toNat (default : TPart)) ((List.replicate ((List.replicate ((((x1.Parts).length : Nat) : Int)).toNat (default : TPart))).length [.int .i64 (0), .string ⟨⟨[]⟩⟩, .int .i64 (0), .int .i64 (0), .string ⟨⟨[]⟩⟩]).flatten) := by rw [List.length_replicate]; exact RowRep.reps (c := cTPart) rfl _
  refine Exec.run tyOk 400 rfl ?_
  refine Exec.cpV tyOk (cd := cTPart) 3 rfl rfl rfl rfl rfl rfl h7 rfl h2 rfl (fun _ => rfl) rfl (fun cs8 h8 => ?_)
  refine Exec.run tyOk 400 rfl ?_
  obtain ⟨q9, hF⟩ := req_some hF
  refine Exec.rowI 3 rfl (fun ra10 rb10 rc10 => ?_)
  obtain ⟨c11, hr11, hd11⟩ := RowRep.get h8 q9
  obtain rfl := hr11
  have rd10 : 0 ≤ x3 ∧ x3 < ((((List.replicate ((((x1.Parts).length : Nat) : Int)).toNat (default : TPart))).length : Nat) : Int) := (by simpa using q9)
  have rs10 := rb10 (by omega)
  refine Exec.ia tyOk rfl rfl ⟨rd10.1, rd10.2, rs10⟩ ?_
  refine Exec.run tyOk 400 rfl ?_
  have rl12 := RowRep.len h8
  have h12 : RowRep cTPart V ((cpL x1.Parts ((List.replicate ((((x1.Parts).length : Nat) : Int)).toNat (default : TPart)))).set (x3).toNat x4) (cs8.take ((x3).toNat * 5) ++ [.int .i64 (x4.Id), .string ⟨⟨x4.From⟩⟩, .int .i64 (x4.Node), .int .i64 (x4.Dest), .string ⟨⟨x4.Done⟩⟩] ++ cs8.drop (((x3).toNat * 5) + 5)) := RowRep.set h8 q9 rfl
  refine Exec.stR tyOk 3 rfl rfl rfl rfl rfl rs10 (stB q9 rl12) rfl rfl rfl ?_
  refine Exec.run tyOk 400 rfl ?_
  refine Exec.frz 3 rfl rfl rfl (fun V13 hv13 hd13 hn13 => ?_)
  have hz13 := RowRep.slat h12 hv13 hd13 (Nat.le_trans (Nat.le_of_eq (by simp)) hn13)
  have h14 := SlAt.mono h2 hv13
  obtain rfl := some_inj hF
  exact Exec.ret tyOk rfl rfl ⟨_, _, (by simp [retV]), hz13⟩

def F_clockworkref29_Find_L1 (x1 : TPlacement) (x3 : Int) (J4 : Option Int) : Nat → Int → Option Int
  | 0, _ => none
  | n7 + 1, x6 => (cond (decide (x6 < (((x1.Parts).length : Nat) : Int))) (req (0 ≤ x6 ∧ x6 < ((x1.Parts).length : Int)) (cond ((atI x1.Parts x6).Id == x3) (some x6) (F_clockworkref29_Find_L1 x1 x3 J4 n7 ((IntKind.i64.wrap (x6 + (1 : Int))))))) J4)

def F_clockworkref29_Find (x1 : TPlacement) (x3 : Int) : Option Int :=
  (jn ((some (-1 : Int))) (fun J4 => (F_clockworkref29_Find_L1 x1 x3 J4 (((((x1.Parts).length : Nat) : Int)).toNat + 1) ((0 : Int)))))

set_option maxRecDepth 100000 in
theorem W_clockworkref29_Find {V : View} (x1 : TPlacement) (x3 : Int) {a2 : Option Addr} {k2 : Nat} (h2 : SlAt cTPart V a2 k2 x1.Parts) {r : Int} (hF : F_clockworkref29_Find x1 x3 = some r) :
    Spec Try.prog 32 [.agg ⟨[.int .i64 (x1.Version), .slice a2 ((x1.Parts).length) (k2)]⟩, .int .i64 (x3)] V (fun _ v => v = .int .i64 (r)) := by
  unfold F_clockworkref29_Find at hF
  refine Spec.enter (T := tyT) Try.func32 rfl (by kernel_rfl) rfl rfl rfl ?_
  refine Exec.run tyOk 10 rfl ?_
  obtain ⟨J4, hJ4, hF⟩ := jn_some hF
  refine Exec.seam (fun L' V' M' => L' = [] ∧ M' = [] ∧ J4 = some r) rfl ?_ ?_
  · rintro L' V5 M' ⟨rfl, rfl, hF⟩
    subst hJ4
    refine Exec.run tyOk 400 rfl ?_
    obtain rfl := some_inj hF
    exact Exec.ret tyOk rfl rfl rfl
  · skip
    refine Exec.run tyOk 400 rfl ?_
    refine Exec.loop (fun n7 L' V' M' => ∃ (x6 : Int), L' = [(1, .v (.int .i64 (x3))), (2, .ptr 0 0), (5, .v (.int .i64 (x6)))] ∧ M' = [.blk [.v (.int .i64 (x1.Version)), .v (.slice a2 ((x1.Parts).length) (k2))] 24] ∧ SlAt cTPart V' a2 k2 x1.Parts ∧ F_clockworkref29_Find_L1 x1 x3 J4 n7 x6 = some r) ⟨(((((x1.Parts).length : Nat) : Int)).toNat + 1), [(1, .v (.int .i64 (x3))), (2, .ptr 0 0), (5, .v (.int .i64 ((0 : Int))))], ⟨rfl, rfl, rfl, trivial⟩, (0 : Int), rfl, rfl, h2, hF⟩ ?_
    rintro n7 L' V8 M' ⟨x6, rfl, rfl, h9, hF⟩
    rcases n7 with _ | n7
    · exact absurd hF (by simp [F_clockworkref29_Find_L1])
    rw [F_clockworkref29_Find_L1] at hF
    refine Exec.run tyOk 400 rfl ?_
    rcases cond_some hF with ⟨hb, hF⟩ | ⟨hb, hF⟩
    · skip
      refine Exec.ifT rfl hb ?_
      refine Exec.run tyOk 400 rfl ?_
      obtain ⟨q10, hF⟩ := req_some hF
      obtain ⟨c11, hr11, hd11⟩ := SlAt.get h9 q10
      obtain rfl := hr11
      refine Exec.ia tyOk rfl rfl ⟨q10.1, q10.2, hd11.some⟩ ?_
      refine Exec.run tyOk 400 rfl ?_
      refine Exec.ld tyOk (x := .int .i64 ((atI x1.Parts x6).Id)) rfl rfl (RdAt.part hd11 0 1 rfl) rfl rfl ?_
      refine Exec.run tyOk 400 rfl ?_
      rcases cond_some hF with ⟨hb, hF⟩ | ⟨hb, hF⟩
      · skip
        refine Exec.ifT rfl hb ?_
        refine Exec.run tyOk 400 rfl ?_
        obtain rfl := some_inj hF
        exact Exec.ret tyOk rfl rfl rfl
      · skip
        refine Exec.ifF rfl hb ?_
        refine Exec.run tyOk 400 rfl ?_
        exact Exec.round [(1, .v (.int .i64 (x3))), (2, .ptr 0 0), (5, .v (.int .i64 ((IntKind.i64.wrap (x6 + (1 : Int))))))] ⟨rfl, rfl, rfl, trivial⟩ ⟨n7, Nat.lt_succ_self _, (IntKind.i64.wrap (x6 + (1 : Int))), rfl, rfl, h9, hF⟩
    · skip
      refine Exec.ifF rfl hb ?_
      refine Exec.run tyOk 400 rfl ?_
      refine Exec.cut 0 [] (M' := []) rfl trivial rfl rfl rfl ?_
      exact Exec.round [] trivial ⟨rfl, rfl, hF⟩

def F_clockworkref33_with (x1 : TPlacement) (x3 : Int) (x4 : TPart) : Option TPlacement :=
  (req (true = true → 0 ≤ (0 : Int) ∧ (0 : Int) ≤ x3 ∧ x3 ≤ ((x1.Parts).length : Int)) (req (((([] : List TPart) ++ (cond true ((x1.Parts.take (x3).toNat).drop ((0 : Int)).toNat) ([] : List TPart)))).length * 56 ≤ 140737488355328) (req ((((([] : List TPart) ++ (cond true ((x1.Parts.take (x3).toNat).drop ((0 : Int)).toNat) ([] : List TPart))) ++ [x4])).length * 56 ≤ 140737488355328) (req (true = true → 0 ≤ (IntKind.i64.wrap (x3 + (1 : Int))) ∧ (IntKind.i64.wrap (x3 + (1 : Int))) ≤ (((x1.Parts).length : Nat) : Int) ∧ (((x1.Parts).length : Nat) : Int) ≤ ((x1.Parts).length : Int)) (req (((((([] : List TPart) ++ (cond true ((x1.Parts.take (x3).toNat).drop ((0 : Int)).toNat) ([] : List TPart))) ++ [x4]) ++ (cond true ((x1.Parts.take ((((x1.Parts).length : Nat) : Int)).toNat).drop ((IntKind.i64.wrap (x3 + (1 : Int)))).toNat) ([] : List TPart)))).length * 56 ≤ 140737488355328) (some (⟨(IntKind.i64.wrap (x1.Version + (1 : Int))), (((([] : List TPart) ++ (cond true ((x1.Parts.take (x3).toNat).drop ((0 : Int)).toNat) ([] : List TPart))) ++ [x4]) ++ (cond true ((x1.Parts.take ((((x1.Parts).length : Nat) : Int)).toNat).drop ((IntKind.i64.wrap (x3 + (1 : Int)))).toNat) ([] : List TPart)))⟩ : TPlacement)))))))

set_option maxRecDepth 100000 in
theorem W_clockworkref33_with {V : View} (x1 : TPlacement) (x3 : Int) (x4 : TPart) {a2 : Option Addr} {k2 : Nat} (h2 : SlAt cTPart V a2 k2 x1.Parts) {r : TPlacement} (hF : F_clockworkref33_with x1 x3 x4 = some r) :
    Spec Try.prog 33 [.agg ⟨[.int .i64 (x1.Version), .slice a2 ((x1.Parts).length) (k2)]⟩, .int .i64 (x3), .agg ⟨[.int .i64 (x4.Id), .string ⟨⟨x4.From⟩⟩, .int .i64 (x4.Node), .int .i64 (x4.Dest), .string ⟨⟨x4.Done⟩⟩]⟩] V (fun V' v => ∃ (a20 : Option Addr) (k20 : Nat), v = .agg ⟨[.int .i64 (r.Version), .slice a20 ((r.Parts).length) (k20)]⟩ ∧ SlAt cTPart V' a20 k20 r.Parts) := by
  unfold F_clockworkref33_with at hF
  refine Spec.enter (T := tyT) Try.func33 rfl (by kernel_rfl) rfl rfl rfl ?_
  refine Exec.run tyOk 400 rfl ?_
  refine Exec.drawsE tyOk [8] [] [(0, true), (1, true), (2, true), (3, true), (4, true), (5, true), (6, false), (7, true), (8, false)] (by kernel_rfl) ?_
  refine Exec.run tyOk 400 rfl ?_
  obtain ⟨q5, hF⟩ := req_some hF
  refine Exec.fgslv tyOk (c := cTPart) (g := true) rfl rfl rfl (lo := (0 : Int)) (hi := x3) rfl rfl h2 (by simp) rfl (rfl) q5 (fun a6 k6 h6 => ?_)
  refine Exec.run tyOk 400 rfl ?_
  refine Exec.row0 62 5 rfl ?_
  have h7 : RowRep cTPart V [] [] := RowRep.nil
  obtain ⟨q9, hF⟩ := req_some hF
  refine Exec.appS tyOk (cd := cTPart) 4 (nm := ((([] : List TPart) ++ (cond true ((x1.Parts.take (x3).toNat).drop ((0 : Int)).toNat) ([] : List TPart)))).length) rfl rfl rfl rfl rfl rfl h6 (by first | rfl | simp) (by first | rfl | exact List.length_append.symm | simp) (fun _ _ _ => rfl) rfl q9 (fun cs8 hs8 a8 k8 => ?_)
  have h8 : RowRep cTPart V (([] : List TPart) ++ (cond true ((x1.Parts.take (x3).toNat).drop ((0 : Int)).toNat) ([] : List TPart))) ([] ++ cs8) := RowRep.app h7 hs8
  refine Exec.run tyOk 400 rfl ?_
  refine Exec.bsl tyOk rfl rfl ?_
  refine Exec.run tyOk 400 rfl ?_
  obtain ⟨q11, hF⟩ := req_some hF
  refine Exec.app tyOk 4 5 (nm := (((([] : List TPart) ++ (cond true ((x1.Parts.take (x3).toNat).drop ((0 : Int)).toNat) ([] : List TPart))) ++ [x4])).length) rfl rfl rfl rfl rfl rfl rfl rfl rfl (by simp) (fun _ _ => rfl) rfl q11 (fun a10 k10 => ?_)
  have h10 : RowRep cTPart V ((([] : List TPart) ++ (cond true ((x1.Parts.take (x3).toNat).drop ((0 : Int)).toNat) ([] : List TPart))) ++ [x4]) (([] ++ cs8) ++ [.int .i64 (x4.Id), .string ⟨⟨x4.From⟩⟩, .int .i64 (x4.Node), .int .i64 (x4.Dest), .string ⟨⟨x4.Done⟩⟩]) := RowRep.app h8 ⟨_, _, rfl, rfl, rfl⟩
  refine Exec.run tyOk 400 rfl ?_
  refine Exec.drawsE tyOk [9] [4] [(0, true), (1, true), (2, true), (3, true), (4, true), (5, true), (6, true), (7, false), (8, true), (9, false)] (by kernel_rfl) ?_
  refine Exec.run tyOk 400 rfl ?_
  obtain ⟨q12, hF⟩ := req_some hF
  refine Exec.fgslv tyOk (c := cTPart) (g := true) rfl rfl rfl (lo := (IntKind.i64.wrap (x3 + (1 : Int)))) (hi := (((x1.Parts).length : Nat) : Int)) rfl rfl h2 (by simp) rfl (rfl) q12 (fun a13 k13 h13 => ?_)
  refine Exec.run tyOk 400 rfl ?_
  obtain ⟨q15, hF⟩ := req_some hF
  refine Exec.appS tyOk (cd := cTPart) 4 (nm := ((((([] : List TPart) ++ (cond true ((x1.Parts.take (x3).toNat).drop ((0 : Int)).toNat) ([] : List TPart))) ++ [x4]) ++ (cond true ((x1.Parts.take ((((x1.Parts).length : Nat) : Int)).toNat).drop ((IntKind.i64.wrap (x3 + (1 : Int)))).toNat) ([] : List TPart)))).length) rfl rfl rfl rfl rfl rfl h13 (by first | rfl | simp) (by first | rfl | exact List.length_append.symm | simp) (fun _ _ _ => rfl) rfl q15 (fun cs14 hs14 a14 k14 => ?_)
  have h14 : RowRep cTPart V (((([] : List TPart) ++ (cond true ((x1.Parts.take (x3).toNat).drop ((0 : Int)).toNat) ([] : List TPart))) ++ [x4]) ++ (cond true ((x1.Parts.take ((((x1.Parts).length : Nat) : Int)).toNat).drop ((IntKind.i64.wrap (x3 + (1 : Int)))).toNat) ([] : List TPart))) ((([] ++ cs8) ++ [.int .i64 (x4.Id), .string ⟨⟨x4.From⟩⟩, .int .i64 (x4.Node), .int .i64 (x4.Dest), .string ⟨⟨x4.Done⟩⟩]) ++ cs14) := RowRep.app h10 hs14
  refine Exec.run tyOk 400 rfl ?_
  refine Exec.frz 4 rfl rfl rfl (fun V16 hv16 hd16 hn16 => ?_)
  have hz16 := RowRep.slat h14 hv16 hd16 hn16
  have h17 := SlAt.mono h2 hv16
  have h18 := SlAt.mono h6 hv16
  have h19 := SlAt.mono h13 hv16
  obtain rfl := some_inj hF
  exact Exec.ret tyOk rfl rfl ⟨_, _, rfl, hz16⟩

def F_placement_bound_L1 (x1 : Str) (J2 : Option Bool) : Nat → Int → Option Bool
  | 0, _ => none
  | n5 + 1, x4 => (cond (decide (x4 < ((x1).length : Int))) (req (0 ≤ x4 ∧ x4 < ((x1).length : Int)) (req ((((decide ((byteAt x1 (x4).toNat) < (33 : Int)))) == false) = true → 0 ≤ x4 ∧ x4 < ((x1).length : Int)) (cond ((decide ((byteAt x1 (x4).toNat) < (33 : Int))) || (decide ((126 : Int) < (byteAt x1 (x4).toNat)))) (some false) (F_placement_bound_L1 x1 J2 n5 ((IntKind.i64.wrap (x4 + (1 : Int)))))))) J2)

def F_placement_bound (x1 : Str) : Option Bool :=
  (jn ((some (decide (((x1).length : Int) ≤ (24 : Int))))) (fun J2 => (F_placement_bound_L1 x1 J2 ((((x1).length : Int)).toNat + 1) ((0 : Int)))))

set_option maxRecDepth 100000 in
theorem W_placement_bound {V : View} (x1 : Str)   {r : Bool} (hF : F_placement_bound x1 = some r) :
    Spec Try.prog 48 [.string ⟨⟨x1⟩⟩] V (fun _ v => v = .bool (r)) := by
  unfold F_placement_bound at hF
  refine Spec.enter (T := tyT) Try.func48 rfl (by kernel_rfl) rfl rfl rfl ?_
  refine Exec.run tyOk 9 rfl ?_
  obtain ⟨J2, hJ2, hF⟩ := jn_some hF
  refine Exec.seam (fun L' V' M' => L' = [(0, .v (.string ⟨⟨x1⟩⟩))] ∧ M' = [] ∧ J2 = some r) rfl ?_ ?_
  · rintro L' V3 M' ⟨rfl, rfl, hF⟩
    subst hJ2
    refine Exec.run tyOk 400 rfl ?_
    obtain rfl := some_inj hF
    exact Exec.ret tyOk rfl rfl rfl
  · skip
    refine Exec.run tyOk 400 rfl ?_
    refine Exec.loop (fun n5 L' V' M' => ∃ (x4 : Int), L' = [(0, .v (.string ⟨⟨x1⟩⟩)), (3, .v (.int .i64 (x4)))] ∧ M' = [] ∧ F_placement_bound_L1 x1 J2 n5 x4 = some r) ⟨((((x1).length : Int)).toNat + 1), [(0, .v (.string ⟨⟨x1⟩⟩)), (3, .v (.int .i64 ((0 : Int))))], ⟨rfl, rfl, trivial⟩, (0 : Int), rfl, rfl, hF⟩ ?_
    rintro n5 L' V6 M' ⟨x4, rfl, rfl, hF⟩
    rcases n5 with _ | n5
    · exact absurd hF (by simp [F_placement_bound_L1])
    rw [F_placement_bound_L1] at hF
    refine Exec.run tyOk 400 rfl ?_
    rcases cond_some hF with ⟨hb, hF⟩ | ⟨hb, hF⟩
    · skip
      refine Exec.ifT rfl hb ?_
      refine Exec.run tyOk 400 rfl ?_
      obtain ⟨q7, hF⟩ := req_some hF
      refine Exec.idx tyOk rfl rfl q7 ?_
      refine Exec.run tyOk 400 rfl ?_
      obtain ⟨q8, hF⟩ := req_some hF
      refine Exec.idx tyOk rfl rfl (fun gg0 => q8 (gd1_of gg0)) ?_
      refine Exec.run tyOk 400 rfl ?_
      rcases cond_some hF with ⟨hb, hF⟩ | ⟨hb, hF⟩
      · skip
        refine Exec.ifT rfl hb ?_
        refine Exec.run tyOk 400 rfl ?_
        obtain rfl := some_inj hF
        exact Exec.ret tyOk rfl rfl rfl
      · skip
        refine Exec.ifF rfl hb ?_
        refine Exec.run tyOk 400 rfl ?_
        exact Exec.round [(0, .v (.string ⟨⟨x1⟩⟩)), (3, .v (.int .i64 ((IntKind.i64.wrap (x4 + (1 : Int))))))] ⟨rfl, rfl, trivial⟩ ⟨n5, Nat.lt_succ_self _, (IntKind.i64.wrap (x4 + (1 : Int))), rfl, rfl, hF⟩
    · skip
      refine Exec.ifF rfl hb ?_
      refine Exec.run tyOk 400 rfl ?_
      exact Exec.round [(0, .v (.string ⟨⟨x1⟩⟩))] ⟨rfl, trivial⟩ ⟨rfl, rfl, hF⟩

def F_placement_number (x1 : Int) : Option Bool :=
  (some ((decide ((1 : Int) ≤ x1)) && (decide (x1 ≤ (1099511627776 : Int)))))

set_option maxRecDepth 100000 in
theorem W_placement_number {V : View} (x1 : Int)   {r : Bool} (hF : F_placement_number x1 = some r) :
    Spec Try.prog 49 [.int .i64 (x1)] V (fun _ v => v = .bool (r)) := by
  unfold F_placement_number at hF
  refine Spec.enter (T := tyT) Try.func49 rfl (by kernel_rfl) rfl rfl rfl ?_
  refine Exec.run tyOk 400 rfl ?_
  obtain rfl := some_inj hF
  exact Exec.ret tyOk rfl rfl rfl

def F_placement_node (x1 : Int) : Option Bool :=
  (some ((decide ((1 : Int) ≤ x1)) && (decide (x1 ≤ (16 : Int)))))

set_option maxRecDepth 100000 in
theorem W_placement_node {V : View} (x1 : Int)   {r : Bool} (hF : F_placement_node x1 = some r) :
    Spec Try.prog 50 [.int .i64 (x1)] V (fun _ v => v = .bool (r)) := by
  unfold F_placement_node at hF
  refine Spec.enter (T := tyT) Try.func50 rfl (by kernel_rfl) rfl rfl rfl ?_
  refine Exec.run tyOk 400 rfl ?_
  obtain rfl := some_inj hF
  exact Exec.ret tyOk rfl rfl rfl

def F_placement_validMove (x1 : List TPart) (x3 : Int) : Option Bool :=
  (req (0 ≤ x3 ∧ x3 < ((x1).length : Int)) (cond ((atI x1 x3).Dest == (0 : Int)) (some ((atI x1 x3).Done == ([] : Str))) (bnd (F_placement_node ((atI x1 x3).Dest)) fun x6 => (bnd (gcall (((x6 && ((atI x1 x3).Dest != (atI x1 x3).Node))) == true) (F_placement_bound ((atI x1 x3).Done))) fun x7 => (req ((((((IntKind.i64.wrap (x3 + (1 : Int))) == (((x1).length : Nat) : Int))) == false) && (((((x6 && ((atI x1 x3).Dest != (atI x1 x3).Node)) && x7) && (!sLt (atI x1 x3).Done (atI x1 x3).From))) == true)) = true → 0 ≤ (IntKind.i64.wrap (x3 + (1 : Int))) ∧ (IntKind.i64.wrap (x3 + (1 : Int))) < ((x1).length : Int)) (some ((((x6 && ((atI x1 x3).Dest != (atI x1 x3).Node)) && x7) && (!sLt (atI x1 x3).Done (atI x1 x3).From)) && (((IntKind.i64.wrap (x3 + (1 : Int))) == (((x1).length : Nat) : Int)) || (sLt (atI x1 x3).Done (cond (((((IntKind.i64.wrap (x3 + (1 : Int))) == (((x1).length : Nat) : Int))) == false) && (((((x6 && ((atI x1 x3).Dest != (atI x1 x3).Node)) && x7) && (!sLt (atI x1 x3).Done (atI x1 x3).From))) == true)) (atI x1 ((IntKind.i64.wrap (x3 + (1 : Int))))) default).From)))))))))

set_option maxRecDepth 100000 in
theorem W_placement_validMove {V : View} (x1 : List TPart) (x3 : Int) {a2 : Option Addr} {k2 : Nat} (h2 : SlAt cTPart V a2 k2 x1) {r : Bool} (hF : F_placement_validMove x1 x3 = some r) :
    Spec Try.prog 51 [.slice a2 ((x1).length) (k2), .int .i64 (x3)] V (fun _ v => v = .bool (r)) := by
  unfold F_placement_validMove at hF
  refine Spec.enter (T := tyT) Try.func51 rfl (by kernel_rfl) rfl rfl rfl ?_
  refine Exec.run tyOk 400 rfl ?_
  obtain ⟨q4, hF⟩ := req_some hF
  obtain ⟨c5, hr5, hd5⟩ := SlAt.get h2 q4
  obtain rfl := hr5
  refine Exec.ia tyOk rfl rfl ⟨q4.1, q4.2, hd5.some⟩ ?_
  refine Exec.run tyOk 400 rfl ?_
  refine Exec.ld tyOk (x := .agg ⟨[.int .i64 ((atI x1 x3).Id), .string ⟨⟨(atI x1 x3).From⟩⟩, .int .i64 ((atI x1 x3).Node), .int .i64 ((atI x1 x3).Dest), .string ⟨⟨(atI x1 x3).Done⟩⟩]⟩) rfl rfl hd5 rfl rfl ?_
  refine Exec.run tyOk 400 rfl ?_
  rcases cond_some hF with ⟨hb, hF⟩ | ⟨hb, hF⟩
  · skip
    refine Exec.ifT rfl hb ?_
    refine Exec.run tyOk 400 rfl ?_
    obtain rfl := some_inj hF
    exact Exec.ret tyOk rfl rfl rfl
  · skip
    refine Exec.ifF rfl hb ?_
    refine Exec.run tyOk 400 rfl ?_
    refine Exec.draws tyOk [(0, true), (1, true), (2, false), (3, false), (4, true), (5, true), (6, false), (7, false), (8, false), (9, false), (10, false), (11, false), (12, false), (13, false), (14, false), (15, false), (16, true), (17, true), (18, false), (19, false), (20, false), (21, false), (22, false), (23, true), (24, true), (25, false), (26, false), (27, false), (28, false), (29, true), (30, true), (31, true), (32, false), (33, false), (34, false), (35, false), (36, false), (37, false), (38, false), (39, false), (40, false)] rfl (by kernel_rfl) ?_
    refine Exec.run tyOk 400 rfl ?_
    obtain ⟨x6, hx6, hF⟩ := bnd_some hF
    refine Exec.callS (.bool (x6)) rfl rfl (W_placement_node ((atI x1 x3).Dest)  hx6) ?_
    refine Exec.run tyOk 400 rfl ?_
    obtain ⟨x7, hx7, hF⟩ := bnd_some hF
    refine Exec.callS (.bool (x7)) rfl rfl (fun gg0 => W_placement_bound ((atI x1 x3).Done)  (gcall_some hx7 (gd1_of gg0))) ?_
    refine Exec.run tyOk 400 rfl ?_
    obtain ⟨q8, hF⟩ := req_some hF
    obtain ⟨c9, hr9, hd9⟩ := SlAt.gget (((((IntKind.i64.wrap (x3 + (1 : Int))) == (((x1).length : Nat) : Int))) == false) && (((((x6 && ((atI x1 x3).Dest != (atI x1 x3).Node)) && x7) && (!sLt (atI x1 x3).Done (atI x1 x3).From))) == true)) h2 q8
    obtain rfl := hr9
    refine Exec.ia tyOk rfl rfl (fun gg0 gg1 => ⟨(q8 (gd2_of gg0 gg1)).1, (q8 (gd2_of gg0 gg1)).2, (hd9 (gd2_of gg0 gg1)).some⟩) ?_
    refine Exec.run tyOk 400 rfl ?_
    refine Exec.ld tyOk (x := .string ⟨⟨(cond (((((IntKind.i64.wrap (x3 + (1 : Int))) == (((x1).length : Nat) : Int))) == false) && (((((x6 && ((atI x1 x3).Dest != (atI x1 x3).Node)) && x7) && (!sLt (atI x1 x3).Done (atI x1 x3).From))) == true)) (atI x1 ((IntKind.i64.wrap (x3 + (1 : Int))))) default).From⟩⟩) rfl rfl (fun gg0 gg1 => (RdAt.part (hd9 (gd2_of gg0 gg1)) 1 1 rfl)) rfl rfl ?_
    refine Exec.run tyOk 400 rfl ?_
    obtain rfl := some_inj hF
    exact Exec.ret tyOk rfl rfl rfl

def F_slices_IndexFunc_api_Part_api_Part_L1 (x1 : List TPart) (g4 : TPart → Option Bool) (J5 : Option Int) : Nat → Int → Option Int
  | 0, _ => none
  | n8 + 1, x7 => (cond (decide (x7 < (((x1).length : Nat) : Int))) (req (0 ≤ x7 ∧ x7 < ((x1).length : Int)) (bnd (g4 ((atI x1 x7))) fun x14 => (cond x14 (some x7) (F_slices_IndexFunc_api_Part_api_Part_L1 x1 g4 J5 n8 ((IntKind.i64.wrap (x7 + (1 : Int)))))))) J5)

def F_slices_IndexFunc_api_Part_api_Part (x1 : List TPart) (g4 : TPart → Option Bool) : Option Int :=
  (jn ((some (-1 : Int))) (fun J5 => (F_slices_IndexFunc_api_Part_api_Part_L1 x1 g4 J5 (((((x1).length : Nat) : Int)).toNat + 1) ((0 : Int)))))

set_option maxRecDepth 100000 in
theorem W_slices_IndexFunc_api_Part_api_Part {V : View} (x1 : List TPart) (g4 : TPart → Option Bool) {f4 : Nat} {ca4 : List Value} {a2 : Option Addr} {k2 : Nat} (h2 : SlAt cTPart V a2 k2 x1) (hg4 : FnSpec1 Try.prog f4 ca4 V (fun (y : TPart) => .agg ⟨[.int .i64 (y.Id), .string ⟨⟨y.From⟩⟩, .int .i64 (y.Node), .int .i64 (y.Dest), .string ⟨⟨y.Done⟩⟩]⟩) (fun (r : Bool) => .bool (r)) g4) {r : Int} (hF : F_slices_IndexFunc_api_Part_api_Part x1 g4 = some r) :
    Spec Try.prog 53 [.slice a2 ((x1).length) (k2), .func (.func f4) #[] ⟨ca4⟩] V (fun _ v => v = .int .i64 (r)) := by
  unfold F_slices_IndexFunc_api_Part_api_Part at hF
  refine Spec.enter (T := tyT) Try.func53 rfl (by kernel_rfl) rfl rfl rfl ?_
  refine Exec.run tyOk 11 rfl ?_
  obtain ⟨J5, hJ5, hF⟩ := jn_some hF
  refine Exec.seam (fun L' V' M' => L' = [] ∧ M' = [] ∧ J5 = some r) rfl ?_ ?_
  · rintro L' V6 M' ⟨rfl, rfl, hF⟩
    subst hJ5
    refine Exec.run tyOk 400 rfl ?_
    obtain rfl := some_inj hF
    exact Exec.ret tyOk rfl rfl rfl
  · skip
    refine Exec.run tyOk 400 rfl ?_
    refine Exec.loop (fun n8 L' V' M' => ∃ (x7 : Int), L' = [(0, .v (.slice a2 ((x1).length) (k2))), (1, .v (.func (.func f4) #[] ⟨ca4⟩)), (7, .v (.int .i64 ((((x1).length : Nat) : Int)))), (8, .v (.int .i64 (x7)))] ∧ M' = [] ∧ SlAt cTPart V' a2 k2 x1 ∧ FnSpec1 Try.prog f4 ca4 V' (fun (y : TPart) => .agg ⟨[.int .i64 (y.Id), .string ⟨⟨y.From⟩⟩, .int .i64 (y.Node), .int .i64 (y.Dest), .string ⟨⟨y.Done⟩⟩]⟩) (fun (r : Bool) => .bool (r)) g4 ∧ F_slices_IndexFunc_api_Part_api_Part_L1 x1 g4 J5 n8 x7 = some r) ⟨(((((x1).length : Nat) : Int)).toNat + 1), [(0, .v (.slice a2 ((x1).length) (k2))), (1, .v (.func (.func f4) #[] ⟨ca4⟩)), (7, .v (.int .i64 ((((x1).length : Nat) : Int)))), (8, .v (.int .i64 ((0 : Int))))], ⟨rfl, rfl, rfl, rfl, trivial⟩, (0 : Int), rfl, rfl, h2, hg4, hF⟩ ?_
    rintro n8 L' V9 M' ⟨x7, rfl, rfl, h10, h11, hF⟩
    rcases n8 with _ | n8
    · exact absurd hF (by simp [F_slices_IndexFunc_api_Part_api_Part_L1])
    rw [F_slices_IndexFunc_api_Part_api_Part_L1] at hF
    refine Exec.run tyOk 400 rfl ?_
    rcases cond_some hF with ⟨hb, hF⟩ | ⟨hb, hF⟩
    · skip
      refine Exec.ifT rfl hb ?_
      refine Exec.run tyOk 400 rfl ?_
      obtain ⟨q12, hF⟩ := req_some hF
      obtain ⟨c13, hr13, hd13⟩ := SlAt.get h10 q12
      obtain rfl := hr13
      refine Exec.ia tyOk rfl rfl ⟨q12.1, q12.2, hd13.some⟩ ?_
      refine Exec.run tyOk 400 rfl ?_
      refine Exec.ld tyOk (x := .agg ⟨[.int .i64 ((atI x1 x7).Id), .string ⟨⟨(atI x1 x7).From⟩⟩, .int .i64 ((atI x1 x7).Node), .int .i64 ((atI x1 x7).Dest), .string ⟨⟨(atI x1 x7).Done⟩⟩]⟩) rfl rfl hd13 rfl rfl ?_
      refine Exec.run tyOk 400 rfl ?_
      obtain ⟨x14, hx14, hF⟩ := bnd_some hF
      refine Exec.callS (.bool (x14)) rfl rfl (h11.at hx14) ?_
      refine Exec.run tyOk 400 rfl ?_
      rcases cond_some hF with ⟨hb, hF⟩ | ⟨hb, hF⟩
      · skip
        refine Exec.ifT rfl hb ?_
        refine Exec.run tyOk 400 rfl ?_
        obtain rfl := some_inj hF
        exact Exec.ret tyOk rfl rfl rfl
      · skip
        refine Exec.ifF rfl hb ?_
        refine Exec.run tyOk 400 rfl ?_
        exact Exec.round [(0, .v (.slice a2 ((x1).length) (k2))), (1, .v (.func (.func f4) #[] ⟨ca4⟩)), (7, .v (.int .i64 ((((x1).length : Nat) : Int)))), (8, .v (.int .i64 ((IntKind.i64.wrap (x7 + (1 : Int))))))] ⟨rfl, rfl, rfl, rfl, trivial⟩ ⟨n8, Nat.lt_succ_self _, (IntKind.i64.wrap (x7 + (1 : Int))), rfl, rfl, h10, h11, hF⟩
    · skip
      refine Exec.ifF rfl hb ?_
      refine Exec.run tyOk 400 rfl ?_
      exact Exec.round [] trivial ⟨rfl, rfl, hF⟩

def F_migrate_find_1 (x1 : TPart) (x2 : Int) : Option Bool :=
  (some (x1.Id == x2))

set_option maxRecDepth 100000 in
theorem W_migrate_find_1 {V : View} (x1 : TPart) (x2 : Int) {b0 o0 : Nat} (hc0 : RdAt V (some ⟨b0, o0, none⟩) 0 [.int .i64 (x2)]) {r : Bool} (hF : F_migrate_find_1 x1 x2 = some r) :
    Spec Try.prog 54 [.agg ⟨[.int .i64 (x1.Id), .string ⟨⟨x1.From⟩⟩, .int .i64 (x1.Node), .int .i64 (x1.Dest), .string ⟨⟨x1.Done⟩⟩]⟩, .pointer (some ⟨b0, o0, none⟩)] V (fun _ v => v = .bool (r)) := by
  unfold F_migrate_find_1 at hF
  refine Spec.enter (T := tyT) Try.func54 rfl (by kernel_rfl) rfl rfl rfl ?_
  refine Exec.run tyOk 400 rfl ?_
  refine Exec.ld tyOk (x := .int .i64 (x2)) rfl rfl hc0 rfl rfl ?_
  refine Exec.run tyOk 400 rfl ?_
  obtain rfl := some_inj hF
  exact Exec.ret tyOk rfl rfl rfl

def F_clockworkref29_Bound_L1 (x1 : Str) (J2 : Option Bool) : Nat → Int → Option Bool
  | 0, _ => none
  | n5 + 1, x4 => (cond (decide (x4 < ((x1).length : Int))) (req (0 ≤ x4 ∧ x4 < ((x1).length : Int)) (req ((((decide ((byteAt x1 (x4).toNat) < (33 : Int)))) == false) = true → 0 ≤ x4 ∧ x4 < ((x1).length : Int)) (cond ((decide ((byteAt x1 (x4).toNat) < (33 : Int))) || (decide ((126 : Int) < (byteAt x1 (x4).toNat)))) (some false) (F_clockworkref29_Bound_L1 x1 J2 n5 ((IntKind.i64.wrap (x4 + (1 : Int)))))))) J2)

def F_clockworkref29_Bound (x1 : Str) : Option Bool :=
  (cond (decide ((24 : Int) < ((x1).length : Int))) (some false) (jn ((some true)) (fun J2 => (F_clockworkref29_Bound_L1 x1 J2 ((((x1).length : Int)).toNat + 1) ((0 : Int))))))

set_option maxRecDepth 100000 in
theorem W_clockworkref29_Bound {V : View} (x1 : Str)   {r : Bool} (hF : F_clockworkref29_Bound x1 = some r) :
    Spec Try.prog 55 [.string ⟨⟨x1⟩⟩] V (fun _ v => v = .bool (r)) := by
  unfold F_clockworkref29_Bound at hF
  refine Spec.enter (T := tyT) Try.func55 rfl (by kernel_rfl) rfl rfl rfl ?_
  refine Exec.run tyOk 400 rfl ?_
  rcases cond_some hF with ⟨hb, hF⟩ | ⟨hb, hF⟩
  · skip
    refine Exec.ifT rfl hb ?_
    refine Exec.run tyOk 400 rfl ?_
    obtain rfl := some_inj hF
    exact Exec.ret tyOk rfl rfl rfl
  · skip
    refine Exec.ifF rfl hb ?_
    refine Exec.run tyOk 6 rfl ?_
    obtain ⟨J2, hJ2, hF⟩ := jn_some hF
    refine Exec.seam (fun L' V' M' => L' = [] ∧ M' = [] ∧ J2 = some r) rfl ?_ ?_
    · rintro L' V3 M' ⟨rfl, rfl, hF⟩
      subst hJ2
      refine Exec.run tyOk 400 rfl ?_
      obtain rfl := some_inj hF
      exact Exec.ret tyOk rfl rfl rfl
    · skip
      refine Exec.run tyOk 400 rfl ?_
      refine Exec.loop (fun n5 L' V' M' => ∃ (x4 : Int), L' = [(0, .v (.string ⟨⟨x1⟩⟩)), (3, .v (.int .i64 (x4)))] ∧ M' = [] ∧ F_clockworkref29_Bound_L1 x1 J2 n5 x4 = some r) ⟨((((x1).length : Int)).toNat + 1), [(0, .v (.string ⟨⟨x1⟩⟩)), (3, .v (.int .i64 ((0 : Int))))], ⟨rfl, rfl, trivial⟩, (0 : Int), rfl, rfl, hF⟩ ?_
      rintro n5 L' V6 M' ⟨x4, rfl, rfl, hF⟩
      rcases n5 with _ | n5
      · exact absurd hF (by simp [F_clockworkref29_Bound_L1])
      rw [F_clockworkref29_Bound_L1] at hF
      refine Exec.run tyOk 400 rfl ?_
      rcases cond_some hF with ⟨hb, hF⟩ | ⟨hb, hF⟩
      · skip
        refine Exec.ifT rfl hb ?_
        refine Exec.run tyOk 400 rfl ?_
        obtain ⟨q7, hF⟩ := req_some hF
        refine Exec.idx tyOk rfl rfl q7 ?_
        refine Exec.run tyOk 400 rfl ?_
        obtain ⟨q8, hF⟩ := req_some hF
        refine Exec.idx tyOk rfl rfl (fun gg0 => q8 (gd1_of gg0)) ?_
        refine Exec.run tyOk 400 rfl ?_
        rcases cond_some hF with ⟨hb, hF⟩ | ⟨hb, hF⟩
        · skip
          refine Exec.ifT rfl hb ?_
          refine Exec.run tyOk 400 rfl ?_
          obtain rfl := some_inj hF
          exact Exec.ret tyOk rfl rfl rfl
        · skip
          refine Exec.ifF rfl hb ?_
          refine Exec.run tyOk 400 rfl ?_
          exact Exec.round [(0, .v (.string ⟨⟨x1⟩⟩)), (3, .v (.int .i64 ((IntKind.i64.wrap (x4 + (1 : Int))))))] ⟨rfl, rfl, trivial⟩ ⟨n5, Nat.lt_succ_self _, (IntKind.i64.wrap (x4 + (1 : Int))), rfl, rfl, hF⟩
      · skip
        refine Exec.ifF rfl hb ?_
        refine Exec.run tyOk 400 rfl ?_
        exact Exec.round [] trivial ⟨rfl, rfl, hF⟩

def F_clockworkref29_moves (x1 : TPart) (x2 : Str) (x3 : Bool) : Option Bool :=
  (cond (x1.Dest == (0 : Int)) (some (x1.Done == ([] : Str))) (bnd (gcall (((((decide ((1 : Int) ≤ x1.Dest)) && (decide (x1.Dest ≤ (16 : Int)))) && (x1.Dest != x1.Node))) == true) (F_clockworkref29_Bound x1.Done)) fun x4 => (some ((((((decide ((1 : Int) ≤ x1.Dest)) && (decide (x1.Dest ≤ (16 : Int)))) && (x1.Dest != x1.Node)) && x4) && (!sLt x1.Done x1.From)) && (x3 || (sLt x1.Done x2))))))

set_option maxRecDepth 100000 in
theorem W_clockworkref29_moves {V : View} (x1 : TPart) (x2 : Str) (x3 : Bool)   {r : Bool} (hF : F_clockworkref29_moves x1 x2 x3 = some r) :
    Spec Try.prog 56 [.agg ⟨[.int .i64 (x1.Id), .string ⟨⟨x1.From⟩⟩, .int .i64 (x1.Node), .int .i64 (x1.Dest), .string ⟨⟨x1.Done⟩⟩]⟩, .string ⟨⟨x2⟩⟩, .bool (x3)] V (fun _ v => v = .bool (r)) := by
  unfold F_clockworkref29_moves at hF
  refine Spec.enter (T := tyT) Try.func56 rfl (by kernel_rfl) rfl rfl rfl ?_
  refine Exec.run tyOk 400 rfl ?_
  rcases cond_some hF with ⟨hb, hF⟩ | ⟨hb, hF⟩
  · skip
    refine Exec.ifT rfl hb ?_
    refine Exec.run tyOk 400 rfl ?_
    obtain rfl := some_inj hF
    exact Exec.ret tyOk rfl rfl rfl
  · skip
    refine Exec.ifF rfl hb ?_
    refine Exec.run tyOk 400 rfl ?_
    obtain ⟨x4, hx4, hF⟩ := bnd_some hF
    refine Exec.callS (.bool (x4)) rfl rfl (fun gg0 => W_clockworkref29_Bound x1.Done  (gcall_some hx4 (gd1_of gg0))) ?_
    refine Exec.run tyOk 400 rfl ?_
    obtain rfl := some_inj hF
    exact Exec.ret tyOk rfl rfl rfl

def F_state_absent (x1 : TPair) : Option Bool :=
  (some (x1.Val.Kind == (0 : Int)))

set_option maxRecDepth 100000 in
theorem W_state_absent {V : View} (x1 : TPair)   {r : Bool} (hF : F_state_absent x1 = some r) :
    Spec Try.prog 59 [.agg ⟨[.string ⟨⟨x1.Key⟩⟩, .int .i64 (x1.Val.Kind), .int .i64 (x1.Val.N), .string ⟨⟨x1.Val.S⟩⟩]⟩] V (fun _ v => v = .bool (r)) := by
  unfold F_state_absent at hF
  refine Spec.enter (T := tyT) Try.func59 rfl (by kernel_rfl) rfl rfl rfl ?_
  refine Exec.run tyOk 400 rfl ?_
  obtain rfl := some_inj hF
  exact Exec.ret tyOk rfl rfl rfl

-- contracts: FnSt1
abbrev mkPair : TPair → Value := fun (y : TPair) => .agg ⟨[.string ⟨⟨y.Key⟩⟩, .int .i64 (y.Val.Kind), .int .i64 (y.Val.N), .string ⟨⟨y.Val.S⟩⟩]⟩

def mergeF_L1 {σ : Type} (x1 : List TPair) (x3 : List TPair) (g8 : σ → TPair → Option σ) (g10 : σ → TPair → Option σ) (g12 : σ → TPair → TPair → Option σ) (g6 : TPair → TPair → Option Int) : Nat → σ → Int → Int → Option σ
  | 0, _, _, _ => none
  | n15 + 1, s, x13, x14 => (cond ((decide (x13 < (((x1).length : Nat) : Int))) || (decide (x14 < (((x3).length : Nat) : Int)))) (jn (fun (x23 : Int) => (cond (decide (x23 < (0 : Int))) (req (0 ≤ x13 ∧ x13 < ((x1).length : Int)) (bnd (g8 s ((atI x1 x13))) fun x34 => (mergeF_L1 x1 x3 g8 g10 g12 g6 n15 x34 ((IntKind.i64.wrap (x13 + (1 : Int)))) x14))) (cond (decide ((0 : Int) < x23)) (req (0 ≤ x14 ∧ x14 < ((x3).length : Int)) (bnd (g10 s ((atI x3 x14))) fun x37 => (mergeF_L1 x1 x3 g8 g10 g12 g6 n15 x37 x13 ((IntKind.i64.wrap (x14 + (1 : Int))))))) (req (0 ≤ x13 ∧ x13 < ((x1).length : Int)) (req (0 ≤ x14 ∧ x14 < ((x3).length : Int)) (bnd (g12 s ((atI x1 x13)) ((atI x3 x14))) fun x42 => (mergeF_L1 x1 x3 g8 g10 g12 g6 n15 x42 ((IntKind.i64.wrap (x13 + (1 : Int)))) ((IntKind.i64.wrap (x14 + (1 : Int))))))))))) (fun J24 => (cond (x13 == (((x1).length : Nat) : Int)) (J24 ((1 : Int))) (cond (x14 == (((x3).length : Nat) : Int)) (J24 ((-1 : Int))) (req (0 ≤ x13 ∧ x13 < ((x1).length : Int)) (req (0 ≤ x14 ∧ x14 < ((x3).length : Int)) (bnd (g6 ((atI x1 x13)) ((atI x3 x14))) fun x47 => (J24 x47)))))))) (some s))

def mergeF {σ : Type} (x1 : List TPair) (x3 : List TPair) (g6 : TPair → TPair → Option Int) (g8 : σ → TPair → Option σ) (g10 : σ → TPair → Option σ) (g12 : σ → TPair → TPair → Option σ)  (s : σ) : Option σ :=
  (mergeF_L1 x1 x3 g8 g10 g12 g6 (1000000 : Nat) s ((0 : Int)) ((0 : Int)))

set_option maxRecDepth 100000 in
theorem X_merge {σ : Type} {rel : View → σ → RowD → RowD → RowD → Prop} {V : View} (x1 : List TPair) (x3 : List TPair) (g6 : TPair → TPair → Option Int) {f6 : Nat} {ca6 : List Value} (g8 : σ → TPair → Option σ) {f8 : Nat} {ca8 : List Value} (g10 : σ → TPair → Option σ) {f10 : Nat} {ca10 : List Value} (g12 : σ → TPair → TPair → Option σ) {f12 : Nat} {ca12 : List Value} {a2 : Option Addr} {k2 : Nat} {a4 : Option Addr} {k4 : Nat} (h2 : SlAt cTPair V a2 k2 x1) (h4 : SlAt cTPair V a4 k4 x3) (hg6 : FnSpec2 Try.prog f6 ca6 V mkPair mkPair (fun (r : Int) => .int .i64 (r)) g6) (hg8 : FnSt1 Try.prog f8 ca8 V mkPair rel g8) (hg10 : FnSt1 Try.prog f10 ca10 V mkPair rel g10) (hg12 : FnSt2 Try.prog f12 ca12 V mkPair mkPair rel g12) {s r : σ} {r0 r1 r2 : RowD} (hrel : rel V s r0 r1 r2) (hF : mergeF x1 x3 g6 g8 g10 g12 s = some r) :
    SpecR Try.prog 62 [.slice a2 ((x1).length) (k2), .slice a4 ((x3).length) (k4), .func (.func f6) #[] ⟨ca6⟩, .func (.func f8) #[] ⟨ca8⟩, .func (.func f10) #[] ⟨ca10⟩, .func (.func f12) #[] ⟨ca12⟩] [r0, r1, r2] V (fun V' v rs' => v = .tuple ⟨[]⟩ ∧ ∃ q0 q1 q2, rs' = [q0, q1, q2] ∧ rel V' r q0 q1 q2) := by
  unfold mergeF at hF
  refine SpecR.enter (T := tyT) Try.func62 rfl (by kernel_rfl) rfl rfl rfl (M := [.row r0.x r0.cs r0.e r0.sz, .row r1.x r1.cs r1.e r1.sz, .row r2.x r2.cs r2.e r2.sz]) rfl ?_
  refine Exec.run tyOk 400 rfl ?_
  refine Exec.loop (fun n15 L' V' M' => ∃ (s : σ) (r0 r1 r2 : RowD) (x13 : Int) (x14 : Int), L' = [(0, .v (.slice a2 ((x1).length) (k2))), (1, .v (.slice a4 ((x3).length) (k4))), (2, .v (.func (.func f6) #[] ⟨ca6⟩)), (3, .v (.func (.func f8) #[] ⟨ca8⟩)), (4, .v (.func (.func f10) #[] ⟨ca10⟩)), (5, .v (.func (.func f12) #[] ⟨ca12⟩)), (12, .v (.int .i64 (x13))), (13, .v (.int .i64 (x14)))] ∧ M' = [.row r0.x r0.cs r0.e r0.sz, .row r1.x r1.cs r1.e r1.sz, .row r2.x r2.cs r2.e r2.sz] ∧ SlAt cTPair V' a2 k2 x1 ∧ SlAt cTPair V' a4 k4 x3 ∧ FnSpec2 Try.prog f6 ca6 V' mkPair mkPair (fun (r : Int) => .int .i64 (r)) g6 ∧ FnSt1 Try.prog f8 ca8 V' mkPair rel g8 ∧ FnSt1 Try.prog f10 ca10 V' mkPair rel g10 ∧ FnSt2 Try.prog f12 ca12 V' mkPair mkPair rel g12 ∧ rel V' s r0 r1 r2 ∧ mergeF_L1 x1 x3 g8 g10 g12 g6 n15 s x13 x14 = some r) ⟨(1000000 : Nat), [(0, .v (.slice a2 ((x1).length) (k2))), (1, .v (.slice a4 ((x3).length) (k4))), (2, .v (.func (.func f6) #[] ⟨ca6⟩)), (3, .v (.func (.func f8) #[] ⟨ca8⟩)), (4, .v (.func (.func f10) #[] ⟨ca10⟩)), (5, .v (.func (.func f12) #[] ⟨ca12⟩)), (12, .v (.int .i64 ((0 : Int)))), (13, .v (.int .i64 ((0 : Int))))], ⟨rfl, rfl, rfl, rfl, rfl, rfl, rfl, rfl, trivial⟩, s, r0, r1, r2, (0 : Int), (0 : Int), rfl, rfl, h2, h4, hg6, hg8, hg10, hg12, hrel, hF⟩ ?_
  clear hrel
  rintro n15 L' V16 M' ⟨s, r0, r1, r2, x13, x14, rfl, rfl, h17, h18, h19, h20, h21, h22, hrel, hF⟩
  rcases n15 with _ | n15
  · exact absurd hF (by simp [mergeF_L1])
  rw [mergeF_L1] at hF
  refine Exec.run tyOk 400 rfl ?_
  rcases cond_some hF with ⟨hb, hF⟩ | ⟨hb, hF⟩
  · skip
    refine Exec.ifT rfl hb ?_
    refine Exec.run tyOk 400 rfl ?_
    obtain ⟨J24, hJ24, hF⟩ := jn_some hF
    refine Exec.seam (fun L' V' M' => ∃ (x23 : Int), L' = [(0, .v (.slice a2 ((x1).length) (k2))), (1, .v (.slice a4 ((x3).length) (k4))), (2, .v (.func (.func f6) #[] ⟨ca6⟩)), (3, .v (.func (.func f8) #[] ⟨ca8⟩)), (4, .v (.func (.func f10) #[] ⟨ca10⟩)), (5, .v (.func (.func f12) #[] ⟨ca12⟩)), (12, .v (.int .i64 (x13))), (13, .v (.int .i64 (x14))), (14, .v (.int .i64 (x23)))] ∧ M' = [.row r0.x r0.cs r0.e r0.sz, .row r1.x r1.cs r1.e r1.sz, .row r2.x r2.cs r2.e r2.sz] ∧ SlAt cTPair V' a2 k2 x1 ∧ SlAt cTPair V' a4 k4 x3 ∧ FnSpec2 Try.prog f6 ca6 V' mkPair mkPair (fun (r : Int) => .int .i64 (r)) g6 ∧ FnSt1 Try.prog f8 ca8 V' mkPair rel g8 ∧ FnSt1 Try.prog f10 ca10 V' mkPair rel g10 ∧ FnSt2 Try.prog f12 ca12 V' mkPair mkPair rel g12 ∧ rel V' s r0 r1 r2 ∧ J24 x23 = some r) rfl ?_ ?_
    · rintro L' V25 M' ⟨x23, rfl, rfl, h26, h27, h28, h29, h30, h31, hrel, hF⟩
      subst hJ24
      refine Exec.run tyOk 400 rfl ?_
      rcases cond_some hF with ⟨hb, hF⟩ | ⟨hb, hF⟩
      · skip
        refine Exec.ifT rfl hb ?_
        refine Exec.run tyOk 400 rfl ?_
        obtain ⟨q32, hF⟩ := req_some hF
        obtain ⟨c33, hr33, hd33⟩ := SlAt.get h26 q32
        obtain rfl := hr33
        refine Exec.ia tyOk rfl rfl ⟨q32.1, q32.2, hd33.some⟩ ?_
        refine Exec.run tyOk 400 rfl ?_
        refine Exec.ld tyOk (x := .agg ⟨[.string ⟨⟨(atI x1 x13).Key⟩⟩, .int .i64 ((atI x1 x13).Val.Kind), .int .i64 ((atI x1 x13).Val.N), .string ⟨⟨(atI x1 x13).Val.S⟩⟩]⟩) rfl rfl hd33 rfl rfl ?_
        refine Exec.run tyOk 400 rfl ?_
        obtain ⟨x34, hx34, hF⟩ := bnd_some hF
        refine Exec.callR [0, 1, 2] (rs := [r0, r1, r2]) rfl rfl rfl rfl rfl rfl (h29 _ (VLe.refl _) s r0 r1 r2 _ _ hrel hx34) ?_
        rintro V50 _ _ hv50 ⟨rfl, q0, q1, q2, rfl, hrel2⟩
        refine ⟨_, rfl, ?_⟩
        refine Exec.run tyOk 400 rfl ?_
        exact Exec.round [(0, .v (.slice a2 ((x1).length) (k2))), (1, .v (.slice a4 ((x3).length) (k4))), (2, .v (.func (.func f6) #[] ⟨ca6⟩)), (3, .v (.func (.func f8) #[] ⟨ca8⟩)), (4, .v (.func (.func f10) #[] ⟨ca10⟩)), (5, .v (.func (.func f12) #[] ⟨ca12⟩)), (12, .v (.int .i64 ((IntKind.i64.wrap (x13 + (1 : Int)))))), (13, .v (.int .i64 (x14)))] ⟨rfl, rfl, rfl, rfl, rfl, rfl, rfl, rfl, trivial⟩ ⟨n15, Nat.lt_succ_self _, x34, q0, q1, q2, (IntKind.i64.wrap (x13 + (1 : Int))), x14, rfl, rfl, SlAt.mono h26 hv50, SlAt.mono h27 hv50, h28.mono hv50, h29.mono hv50, h30.mono hv50, h31.mono hv50, hrel2, hF⟩
      · skip
        refine Exec.ifF rfl hb ?_
        refine Exec.run tyOk 400 rfl ?_
        rcases cond_some hF with ⟨hb, hF⟩ | ⟨hb, hF⟩
        · skip
          refine Exec.ifT rfl hb ?_
          refine Exec.run tyOk 400 rfl ?_
          obtain ⟨q35, hF⟩ := req_some hF
          obtain ⟨c36, hr36, hd36⟩ := SlAt.get h27 q35
          obtain rfl := hr36
          refine Exec.ia tyOk rfl rfl ⟨q35.1, q35.2, hd36.some⟩ ?_
          refine Exec.run tyOk 400 rfl ?_
          refine Exec.ld tyOk (x := .agg ⟨[.string ⟨⟨(atI x3 x14).Key⟩⟩, .int .i64 ((atI x3 x14).Val.Kind), .int .i64 ((atI x3 x14).Val.N), .string ⟨⟨(atI x3 x14).Val.S⟩⟩]⟩) rfl rfl hd36 rfl rfl ?_
          refine Exec.run tyOk 400 rfl ?_
          obtain ⟨x37, hx37, hF⟩ := bnd_some hF
          refine Exec.callR [0, 1, 2] (rs := [r0, r1, r2]) rfl rfl rfl rfl rfl rfl (h30 _ (VLe.refl _) s r0 r1 r2 _ _ hrel hx37) ?_
          rintro V50 _ _ hv50 ⟨rfl, q0, q1, q2, rfl, hrel2⟩
          refine ⟨_, rfl, ?_⟩
          refine Exec.run tyOk 400 rfl ?_
          exact Exec.round [(0, .v (.slice a2 ((x1).length) (k2))), (1, .v (.slice a4 ((x3).length) (k4))), (2, .v (.func (.func f6) #[] ⟨ca6⟩)), (3, .v (.func (.func f8) #[] ⟨ca8⟩)), (4, .v (.func (.func f10) #[] ⟨ca10⟩)), (5, .v (.func (.func f12) #[] ⟨ca12⟩)), (12, .v (.int .i64 (x13))), (13, .v (.int .i64 ((IntKind.i64.wrap (x14 + (1 : Int))))))] ⟨rfl, rfl, rfl, rfl, rfl, rfl, rfl, rfl, trivial⟩ ⟨n15, Nat.lt_succ_self _, x37, q0, q1, q2, x13, (IntKind.i64.wrap (x14 + (1 : Int))), rfl, rfl, SlAt.mono h26 hv50, SlAt.mono h27 hv50, h28.mono hv50, h29.mono hv50, h30.mono hv50, h31.mono hv50, hrel2, hF⟩
        · skip
          refine Exec.ifF rfl hb ?_
          refine Exec.run tyOk 400 rfl ?_
          refine Exec.drawsE tyOk [] [0, 1, 2] [(0, true), (1, true), (2, true), (3, true), (4, true), (5, true), (6, true), (7, true), (8, true), (9, false)] (by kernel_rfl) ?_
          refine Exec.run tyOk 400 rfl ?_
          obtain ⟨q38, hF⟩ := req_some hF
          obtain ⟨c39, hr39, hd39⟩ := SlAt.get h26 q38
          obtain rfl := hr39
          refine Exec.fia tyOk rfl rfl rfl ⟨q38.1, q38.2, hd39.some⟩ ?_
          refine Exec.run tyOk 400 rfl ?_
          refine Exec.fld tyOk (x := .agg ⟨[.string ⟨⟨(atI x1 x13).Key⟩⟩, .int .i64 ((atI x1 x13).Val.Kind), .int .i64 ((atI x1 x13).Val.N), .string ⟨⟨(atI x1 x13).Val.S⟩⟩]⟩) rfl rfl rfl hd39 rfl rfl ?_
          refine Exec.run tyOk 400 rfl ?_
          obtain ⟨q40, hF⟩ := req_some hF
          obtain ⟨c41, hr41, hd41⟩ := SlAt.get h27 q40
          obtain rfl := hr41
          refine Exec.fia tyOk rfl rfl rfl ⟨q40.1, q40.2, hd41.some⟩ ?_
          refine Exec.run tyOk 400 rfl ?_
          refine Exec.fld tyOk (x := .agg ⟨[.string ⟨⟨(atI x3 x14).Key⟩⟩, .int .i64 ((atI x3 x14).Val.Kind), .int .i64 ((atI x3 x14).Val.N), .string ⟨⟨(atI x3 x14).Val.S⟩⟩]⟩) rfl rfl rfl hd41 rfl rfl ?_
          refine Exec.run tyOk 400 rfl ?_
          obtain ⟨x42, hx42, hF⟩ := bnd_some hF
          refine Exec.callR [0, 1, 2] (rs := [r0, r1, r2]) rfl rfl rfl rfl rfl rfl (h31 _ (VLe.refl _) s r0 r1 r2 _ _ _ hrel hx42) ?_
          rintro V50 _ _ hv50 ⟨rfl, q0, q1, q2, rfl, hrel2⟩
          refine ⟨_, rfl, ?_⟩
          refine Exec.run tyOk 400 rfl ?_
          exact Exec.round [(0, .v (.slice a2 ((x1).length) (k2))), (1, .v (.slice a4 ((x3).length) (k4))), (2, .v (.func (.func f6) #[] ⟨ca6⟩)), (3, .v (.func (.func f8) #[] ⟨ca8⟩)), (4, .v (.func (.func f10) #[] ⟨ca10⟩)), (5, .v (.func (.func f12) #[] ⟨ca12⟩)), (12, .v (.int .i64 ((IntKind.i64.wrap (x13 + (1 : Int)))))), (13, .v (.int .i64 ((IntKind.i64.wrap (x14 + (1 : Int))))))] ⟨rfl, rfl, rfl, rfl, rfl, rfl, rfl, rfl, trivial⟩ ⟨n15, Nat.lt_succ_self _, x42, q0, q1, q2, (IntKind.i64.wrap (x13 + (1 : Int))), (IntKind.i64.wrap (x14 + (1 : Int))), rfl, rfl, SlAt.mono h26 hv50, SlAt.mono h27 hv50, h28.mono hv50, h29.mono hv50, h30.mono hv50, h31.mono hv50, hrel2, hF⟩
    · skip
      refine Exec.run tyOk 400 rfl ?_
      rcases cond_some hF with ⟨hb, hF⟩ | ⟨hb, hF⟩
      · skip
        refine Exec.ifT rfl hb ?_
        refine Exec.run tyOk 400 rfl ?_
        exact Exec.round [(0, .v (.slice a2 ((x1).length) (k2))), (1, .v (.slice a4 ((x3).length) (k4))), (2, .v (.func (.func f6) #[] ⟨ca6⟩)), (3, .v (.func (.func f8) #[] ⟨ca8⟩)), (4, .v (.func (.func f10) #[] ⟨ca10⟩)), (5, .v (.func (.func f12) #[] ⟨ca12⟩)), (12, .v (.int .i64 (x13))), (13, .v (.int .i64 (x14))), (14, .v (.int .i64 ((1 : Int))))] ⟨rfl, rfl, rfl, rfl, rfl, rfl, rfl, rfl, rfl, trivial⟩ ⟨(1 : Int), rfl, rfl, h17, h18, h19, h20, h21, h22, hrel, hF⟩
      · skip
        refine Exec.ifF rfl hb ?_
        refine Exec.run tyOk 400 rfl ?_
        rcases cond_some hF with ⟨hb, hF⟩ | ⟨hb, hF⟩
        · skip
          refine Exec.ifT rfl hb ?_
          refine Exec.run tyOk 400 rfl ?_
          exact Exec.round [(0, .v (.slice a2 ((x1).length) (k2))), (1, .v (.slice a4 ((x3).length) (k4))), (2, .v (.func (.func f6) #[] ⟨ca6⟩)), (3, .v (.func (.func f8) #[] ⟨ca8⟩)), (4, .v (.func (.func f10) #[] ⟨ca10⟩)), (5, .v (.func (.func f12) #[] ⟨ca12⟩)), (12, .v (.int .i64 (x13))), (13, .v (.int .i64 (x14))), (14, .v (.int .i64 ((-1 : Int))))] ⟨rfl, rfl, rfl, rfl, rfl, rfl, rfl, rfl, rfl, trivial⟩ ⟨(-1 : Int), rfl, rfl, h17, h18, h19, h20, h21, h22, hrel, hF⟩
        · skip
          refine Exec.ifF rfl hb ?_
          refine Exec.run tyOk 400 rfl ?_
          refine Exec.draws tyOk [(0, true), (1, true), (2, true), (3, true), (4, true), (5, true), (6, true), (7, true), (8, true), (9, false), (10, false)] rfl (by kernel_rfl) ?_
          refine Exec.run tyOk 400 rfl ?_
          obtain ⟨q43, hF⟩ := req_some hF
          obtain ⟨c44, hr44, hd44⟩ := SlAt.get h17 q43
          obtain rfl := hr44
          refine Exec.fia tyOk rfl rfl rfl ⟨q43.1, q43.2, hd44.some⟩ ?_
          refine Exec.run tyOk 400 rfl ?_
          refine Exec.fld tyOk (x := .agg ⟨[.string ⟨⟨(atI x1 x13).Key⟩⟩, .int .i64 ((atI x1 x13).Val.Kind), .int .i64 ((atI x1 x13).Val.N), .string ⟨⟨(atI x1 x13).Val.S⟩⟩]⟩) rfl rfl rfl hd44 rfl rfl ?_
          refine Exec.run tyOk 400 rfl ?_
          obtain ⟨q45, hF⟩ := req_some hF
          obtain ⟨c46, hr46, hd46⟩ := SlAt.get h18 q45
          obtain rfl := hr46
          refine Exec.fia tyOk rfl rfl rfl ⟨q45.1, q45.2, hd46.some⟩ ?_
          refine Exec.run tyOk 400 rfl ?_
          refine Exec.fld tyOk (x := .agg ⟨[.string ⟨⟨(atI x3 x14).Key⟩⟩, .int .i64 ((atI x3 x14).Val.Kind), .int .i64 ((atI x3 x14).Val.N), .string ⟨⟨(atI x3 x14).Val.S⟩⟩]⟩) rfl rfl rfl hd46 rfl rfl ?_
          refine Exec.run tyOk 400 rfl ?_
          obtain ⟨x47, hx47, hF⟩ := bnd_some hF
          refine Exec.callS (.int .i64 (x47)) rfl rfl (h19.at hx47) ?_
          refine Exec.run tyOk 400 rfl ?_
          exact Exec.round [(0, .v (.slice a2 ((x1).length) (k2))), (1, .v (.slice a4 ((x3).length) (k4))), (2, .v (.func (.func f6) #[] ⟨ca6⟩)), (3, .v (.func (.func f8) #[] ⟨ca8⟩)), (4, .v (.func (.func f10) #[] ⟨ca10⟩)), (5, .v (.func (.func f12) #[] ⟨ca12⟩)), (12, .v (.int .i64 (x13))), (13, .v (.int .i64 (x14))), (14, .v (.int .i64 (x47)))] ⟨rfl, rfl, rfl, rfl, rfl, rfl, rfl, rfl, rfl, trivial⟩ ⟨x47, rfl, rfl, h17, h18, h19, h20, h21, h22, hrel, hF⟩
  · skip
    refine Exec.ifF rfl hb ?_
    refine Exec.run tyOk 400 rfl ?_
    obtain rfl := some_inj hF
    exact Exec.fall tyOk rfl rfl ⟨[r0, r1, r2], rfl, rfl, rfl, r0, r1, r2, rfl, hrel⟩



def F_clockworkref04_Bound_L1 (x1 : Str) (J2 : Option Bool) : Nat → Int → Option Bool
  | 0, _ => none
  | n5 + 1, x4 => (cond (decide (x4 < ((x1).length : Int))) (req (0 ≤ x4 ∧ x4 < ((x1).length : Int)) (req ((((decide ((byteAt x1 (x4).toNat) < (33 : Int)))) == false) = true → 0 ≤ x4 ∧ x4 < ((x1).length : Int)) (cond ((decide ((byteAt x1 (x4).toNat) < (33 : Int))) || (decide ((126 : Int) < (byteAt x1 (x4).toNat)))) (some false) (F_clockworkref04_Bound_L1 x1 J2 n5 ((IntKind.i64.wrap (x4 + (1 : Int)))))))) J2)

def F_clockworkref04_Bound (x1 : Str) : Option Bool :=
  (jn ((some (decide (((x1).length : Int) ≤ (24 : Int))))) (fun J2 => (F_clockworkref04_Bound_L1 x1 J2 ((((x1).length : Int)).toNat + 1) ((0 : Int)))))

set_option maxRecDepth 100000 in
theorem W_clockworkref04_Bound {V : View} (x1 : Str)   {r : Bool} (hF : F_clockworkref04_Bound x1 = some r) :
    Spec Try.prog 66 [.string ⟨⟨x1⟩⟩] V (fun _ v => v = .bool (r)) := by
  unfold F_clockworkref04_Bound at hF
  refine Spec.enter (T := tyT) Try.func66 rfl (by kernel_rfl) rfl rfl rfl ?_
  refine Exec.run tyOk 9 rfl ?_
  obtain ⟨J2, hJ2, hF⟩ := jn_some hF
  refine Exec.seam (fun L' V' M' => L' = [(0, .v (.string ⟨⟨x1⟩⟩))] ∧ M' = [] ∧ J2 = some r) rfl ?_ ?_
  · rintro L' V3 M' ⟨rfl, rfl, hF⟩
    subst hJ2
    refine Exec.run tyOk 400 rfl ?_
    obtain rfl := some_inj hF
    exact Exec.ret tyOk rfl rfl rfl
  · skip
    refine Exec.run tyOk 400 rfl ?_
    refine Exec.loop (fun n5 L' V' M' => ∃ (x4 : Int), L' = [(0, .v (.string ⟨⟨x1⟩⟩)), (3, .v (.int .i64 (x4)))] ∧ M' = [] ∧ F_clockworkref04_Bound_L1 x1 J2 n5 x4 = some r) ⟨((((x1).length : Int)).toNat + 1), [(0, .v (.string ⟨⟨x1⟩⟩)), (3, .v (.int .i64 ((0 : Int))))], ⟨rfl, rfl, trivial⟩, (0 : Int), rfl, rfl, hF⟩ ?_
    rintro n5 L' V6 M' ⟨x4, rfl, rfl, hF⟩
    rcases n5 with _ | n5
    · exact absurd hF (by simp [F_clockworkref04_Bound_L1])
    rw [F_clockworkref04_Bound_L1] at hF
    refine Exec.run tyOk 400 rfl ?_
    rcases cond_some hF with ⟨hb, hF⟩ | ⟨hb, hF⟩
    · skip
      refine Exec.ifT rfl hb ?_
      refine Exec.run tyOk 400 rfl ?_
      obtain ⟨q7, hF⟩ := req_some hF
      refine Exec.idx tyOk rfl rfl q7 ?_
      refine Exec.run tyOk 400 rfl ?_
      obtain ⟨q8, hF⟩ := req_some hF
      refine Exec.idx tyOk rfl rfl (fun gg0 => q8 (gd1_of gg0)) ?_
      refine Exec.run tyOk 400 rfl ?_
      rcases cond_some hF with ⟨hb, hF⟩ | ⟨hb, hF⟩
      · skip
        refine Exec.ifT rfl hb ?_
        refine Exec.run tyOk 400 rfl ?_
        obtain rfl := some_inj hF
        exact Exec.ret tyOk rfl rfl rfl
      · skip
        refine Exec.ifF rfl hb ?_
        refine Exec.run tyOk 400 rfl ?_
        exact Exec.round [(0, .v (.string ⟨⟨x1⟩⟩)), (3, .v (.int .i64 ((IntKind.i64.wrap (x4 + (1 : Int))))))] ⟨rfl, rfl, trivial⟩ ⟨n5, Nat.lt_succ_self _, (IntKind.i64.wrap (x4 + (1 : Int))), rfl, rfl, hF⟩
    · skip
      refine Exec.ifF rfl hb ?_
      refine Exec.run tyOk 400 rfl ?_
      exact Exec.round [(0, .v (.string ⟨⟨x1⟩⟩))] ⟨rfl, trivial⟩ ⟨rfl, rfl, hF⟩

end Go.Proofs.Ytedbagekceppiaa
