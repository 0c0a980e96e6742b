/-
  Functions of the program as their counterparts say them (printed by a program).
  Conditions: none.
-/
import Derived.Test.YtdkakeiccefbgaaMe
import Derived.Test.YtdkakeiccefbgaaSh
import Derived.Test.YtdkakeiccefbgaaTy
set_option linter.all false
namespace Go.Proofs.Ytdkakeiccefbgaa

structure TPart where
  Id : Int
  From : Str
  Node : Int
  Dest : Int
  Done : Str
instance : Inhabited TPart := ⟨⟨default, default, default, default, default⟩⟩
def cTPart : Cd TPart where
  sz := 5
  rep _ s cs := cs = [.int .i64 (s.Id), .string ⟨⟨s.From⟩⟩, .int .i64 (s.Node), .int .i64 (s.Dest), .string ⟨⟨s.Done⟩⟩]
  len h := by subst h; rfl
  mono _ h := h
  one h := by subst h; intro u hu; simp only [List.mem_cons, List.not_mem_nil, or_false] at hu; rcases hu with rfl | rfl | rfl | rfl | rfl <;> rfl
  pos := by omega
  dflt := ⟨_, fun _ => rfl⟩

structure TPlacement where
  Version : Int
  Parts : List TPart
instance : Inhabited TPlacement := ⟨⟨default, default⟩⟩
def cTPlacement : Cd TPlacement where
  sz := 2
  rep V s cs := ∃ (a1 : Option Addr) (k1 : Nat), cs = [.int .i64 (s.Version), .slice a1 ((s.Parts).length) (k1)] ∧ SlAt cTPart V a1 k1 s.Parts
  len h := by obtain ⟨a1, k1, rfl, _⟩ := h; rfl
  mono hv h := by
    obtain ⟨a1, k1, rfl, h1⟩ := h
    exact ⟨a1, k1, rfl, h1.mono hv⟩
  one h := by obtain ⟨a1, k1, rfl, _⟩ := h; intro u hu; simp only [List.mem_cons, List.not_mem_nil, or_false] at hu; rcases hu with rfl | rfl <;> rfl
  pos := by omega
  dflt := ⟨[.int .i64 (0), .slice none (0) (0)], fun _ => ⟨none, 0, rfl, SlAt.nil⟩⟩

structure TCut where
  Id : Int
  Key : Str
  Fresh : Int
instance : Inhabited TCut := ⟨⟨default, default, default⟩⟩
def cTCut : Cd TCut where
  sz := 3
  rep _ s cs := cs = [.int .i64 (s.Id), .string ⟨⟨s.Key⟩⟩, .int .i64 (s.Fresh)]
  len h := by subst h; rfl
  mono _ h := h
  one h := by subst h; intro u hu; simp only [List.mem_cons, List.not_mem_nil, or_false] at hu; rcases hu with rfl | rfl | rfl <;> rfl
  pos := by omega
  dflt := ⟨_, fun _ => rfl⟩

structure TRange where
  From : Str
  To : Str
instance : Inhabited TRange := ⟨⟨default, default⟩⟩
def cTRange : Cd TRange where
  sz := 2
  rep _ s cs := cs = [.string ⟨⟨s.From⟩⟩, .string ⟨⟨s.To⟩⟩]
  len h := by subst h; rfl
  mono _ h := h
  one h := by subst h; intro u hu; simp only [List.mem_cons, List.not_mem_nil, or_false] at hu; rcases hu with rfl | rfl <;> rfl
  pos := by omega
  dflt := ⟨_, fun _ => rfl⟩

def F_clockworklaw29_few_L1 (x1 : TPlacement) (J3 : Option Bool) : Nat → Int → Option Bool
  | 0, _ => none
  | n6 + 1, x5 => (cond (decide (x5 < (((x1.Parts).length : Nat) : Int))) (req (0 ≤ x5 ∧ x5 < ((x1.Parts).length : Int)) (req ((((decide ((100 : Int) < (((atI x1.Parts x5).From).length : Int)))) == false) = true → 0 ≤ x5 ∧ x5 < ((x1.Parts).length : Int)) (cond ((decide ((100 : Int) < (((atI x1.Parts x5).From).length : Int))) || (decide ((100 : Int) < (((cond (((decide ((100 : Int) < (((atI x1.Parts x5).From).length : Int)))) == false) (atI x1.Parts x5) default).Done).length : Int)))) (some false) (F_clockworklaw29_few_L1 x1 J3 n6 ((IntKind.i64.wrap (x5 + (1 : Int)))))))) J3)

def F_clockworklaw29_few (x1 : TPlacement) : Option Bool :=
  (cond (decide ((40 : Int) < (((x1.Parts).length : Nat) : Int))) (some false) (jn ((some true)) (fun J3 => (F_clockworklaw29_few_L1 x1 J3 (((((x1.Parts).length : Nat) : Int)).toNat + 1) ((0 : Int))))))

set_option maxRecDepth 100000 in
theorem W_clockworklaw29_few {V : View} (x1 : TPlacement) {a2 : Option Addr} {k2 : Nat} (h2 : SlAt cTPart V a2 k2 x1.Parts) {r : Bool} (hF : F_clockworklaw29_few x1 = some r) :
    Spec Try.prog 11 [.agg ⟨[.int .i64 (x1.Version), .slice a2 ((x1.Parts).length) (k2)]⟩] V (fun _ v => v = .bool (r)) := by
  unfold F_clockworklaw29_few at hF
  refine Spec.enter (T := tyT) Try.func11 rfl (by kernel_rfl) rfl rfl rfl ?_
  refine Exec.run tyOk 400 rfl ?_
  rcases cond_some hF with ⟨hb, hF⟩ | ⟨hb, hF⟩
  · skip
    refine Exec.ifT rfl hb ?_
    refine Exec.run tyOk 400 rfl ?_
    obtain rfl := some_inj hF
    exact Exec.ret tyOk rfl rfl rfl
  · skip
    refine Exec.ifF rfl hb ?_
    refine Exec.run tyOk 6 rfl ?_
    obtain ⟨J3, hJ3, hF⟩ := jn_some hF
    refine Exec.seam (fun L' V' M' => L' = [] ∧ M' = [] ∧ J3 = some r) rfl ?_ ?_
    · rintro L' V4 M' ⟨rfl, rfl, hF⟩
      subst hJ3
      refine Exec.run tyOk 400 rfl ?_
      obtain rfl := some_inj hF
      exact Exec.ret tyOk rfl rfl rfl
    · skip
      refine Exec.run tyOk 400 rfl ?_
      refine Exec.loop (fun n6 L' V' M' => ∃ (x5 : Int), L' = [(1, .ptr 0 0), (3, .v (.int .i64 (x5)))] ∧ M' = [.blk [.v (.int .i64 (x1.Version)), .v (.slice a2 ((x1.Parts).length) (k2))] 24] ∧ SlAt cTPart V' a2 k2 x1.Parts ∧ F_clockworklaw29_few_L1 x1 J3 n6 x5 = some r) ⟨(((((x1.Parts).length : Nat) : Int)).toNat + 1), [(1, .ptr 0 0), (3, .v (.int .i64 ((0 : Int))))], ⟨rfl, rfl, trivial⟩, (0 : Int), rfl, rfl, h2, hF⟩ ?_
      rintro n6 L' V7 M' ⟨x5, rfl, rfl, h8, hF⟩
      rcases n6 with _ | n6
      · exact absurd hF (by simp [F_clockworklaw29_few_L1])
      rw [F_clockworklaw29_few_L1] at hF
      refine Exec.run tyOk 400 rfl ?_
      rcases cond_some hF with ⟨hb, hF⟩ | ⟨hb, hF⟩
      · skip
        refine Exec.ifT rfl hb ?_
        refine Exec.run tyOk 400 rfl ?_
        obtain ⟨q9, hF⟩ := req_some hF
        obtain ⟨c10, hr10, hd10⟩ := SlAt.get h8 q9
        obtain rfl := hr10
        refine Exec.ia tyOk rfl rfl ⟨q9.1, q9.2, hd10.some⟩ ?_
        refine Exec.run tyOk 400 rfl ?_
        refine Exec.ld tyOk (x := .string ⟨⟨(atI x1.Parts x5).From⟩⟩) rfl rfl (RdAt.part hd10 1 1 rfl) rfl rfl ?_
        refine Exec.run tyOk 400 rfl ?_
        obtain ⟨q11, hF⟩ := req_some hF
        obtain ⟨c12, hr12, hd12⟩ := SlAt.gget (((decide ((100 : Int) < (((atI x1.Parts x5).From).length : Int)))) == false) h8 q11
        obtain rfl := hr12
        refine Exec.ia tyOk rfl rfl (fun gg0 => ⟨(q11 (gd1_of gg0)).1, (q11 (gd1_of gg0)).2, (hd12 (gd1_of gg0)).some⟩) ?_
        refine Exec.run tyOk 400 rfl ?_
        refine Exec.ld tyOk (x := .string ⟨⟨(cond (((decide ((100 : Int) < (((atI x1.Parts x5).From).length : Int)))) == false) (atI x1.Parts x5) default).Done⟩⟩) rfl rfl (fun gg0 => (RdAt.part (hd12 (gd1_of gg0)) 4 1 rfl)) rfl rfl ?_
        refine Exec.run tyOk 400 rfl ?_
        rcases cond_some hF with ⟨hb, hF⟩ | ⟨hb, hF⟩
        · skip
          refine Exec.ifT rfl hb ?_
          refine Exec.run tyOk 400 rfl ?_
          obtain rfl := some_inj hF
          exact Exec.ret tyOk rfl rfl rfl
        · skip
          refine Exec.ifF rfl hb ?_
          refine Exec.run tyOk 400 rfl ?_
          exact Exec.round [(1, .ptr 0 0), (3, .v (.int .i64 ((IntKind.i64.wrap (x5 + (1 : Int))))))] ⟨rfl, rfl, trivial⟩ ⟨n6, Nat.lt_succ_self _, (IntKind.i64.wrap (x5 + (1 : Int))), rfl, rfl, h8, hF⟩
      · skip
        refine Exec.ifF rfl hb ?_
        refine Exec.run tyOk 400 rfl ?_
        refine Exec.cut 0 [] (M' := []) rfl trivial rfl rfl rfl ?_
        exact Exec.round [] trivial ⟨rfl, rfl, hF⟩

def F_clockworkref29_Same_L1 (x1 : TPlacement) (x3 : TPlacement) (J5 : Option Bool) : Nat → Int → Option Bool
  | 0, _ => none
  | n8 + 1, x7 => (cond (decide (x7 < (((x1.Parts).length : Nat) : Int))) (req (0 ≤ x7 ∧ x7 < ((x1.Parts).length : Int)) (req (0 ≤ x7 ∧ x7 < ((x3.Parts).length : Int)) (cond (!(((atI x1.Parts x7).Id == (atI x3.Parts x7).Id) && (((atI x1.Parts x7).From == (atI x3.Parts x7).From) && (((atI x1.Parts x7).Node == (atI x3.Parts x7).Node) && (((atI x1.Parts x7).Dest == (atI x3.Parts x7).Dest) && (((atI x1.Parts x7).Done == (atI x3.Parts x7).Done) && true)))))) (some false) (F_clockworkref29_Same_L1 x1 x3 J5 n8 ((IntKind.i64.wrap (x7 + (1 : Int)))))))) J5)

def F_clockworkref29_Same (x1 : TPlacement) (x3 : TPlacement) : Option Bool :=
  (cond ((x1.Version != x3.Version) || ((((x1.Parts).length : Nat) : Int) != (((x3.Parts).length : Nat) : Int))) (some false) (jn ((some true)) (fun J5 => (F_clockworkref29_Same_L1 x1 x3 J5 (((((x1.Parts).length : Nat) : Int)).toNat + 1) ((0 : Int))))))

set_option maxRecDepth 100000 in
theorem W_clockworkref29_Same {V : View} (x1 : TPlacement) (x3 : TPlacement) {a2 : Option Addr} {k2 : Nat} {a4 : Option Addr} {k4 : Nat} (h2 : SlAt cTPart V a2 k2 x1.Parts) (h4 : SlAt cTPart V a4 k4 x3.Parts) {r : Bool} (hF : F_clockworkref29_Same x1 x3 = some r) :
    Spec Try.prog 17 [.agg ⟨[.int .i64 (x1.Version), .slice a2 ((x1.Parts).length) (k2)]⟩, .agg ⟨[.int .i64 (x3.Version), .slice a4 ((x3.Parts).length) (k4)]⟩] V (fun _ v => v = .bool (r)) := by
  unfold F_clockworkref29_Same at hF
  refine Spec.enter (T := tyT) Try.func17 rfl (by kernel_rfl) rfl rfl rfl ?_
  refine Exec.run tyOk 400 rfl ?_
  rcases cond_some hF with ⟨hb, hF⟩ | ⟨hb, hF⟩
  · skip
    refine Exec.ifT rfl hb ?_
    refine Exec.run tyOk 400 rfl ?_
    obtain rfl := some_inj hF
    exact Exec.ret tyOk rfl rfl rfl
  · skip
    refine Exec.ifF rfl hb ?_
    refine Exec.run tyOk 6 rfl ?_
    obtain ⟨J5, hJ5, hF⟩ := jn_some hF
    refine Exec.seam (fun L' V' M' => L' = [] ∧ M' = [] ∧ J5 = some r) rfl ?_ ?_
    · rintro L' V6 M' ⟨rfl, rfl, hF⟩
      subst hJ5
      refine Exec.run tyOk 400 rfl ?_
      obtain rfl := some_inj hF
      exact Exec.ret tyOk rfl rfl rfl
    · skip
      refine Exec.run tyOk 400 rfl ?_
      refine Exec.loop (fun n8 L' V' M' => ∃ (x7 : Int), L' = [(2, .ptr 0 0), (3, .ptr 1 0), (5, .v (.int .i64 (x7)))] ∧ M' = [.blk [.v (.int .i64 (x1.Version)), .v (.slice a2 ((x1.Parts).length) (k2))] 24, .blk [.v (.int .i64 (x3.Version)), .v (.slice a4 ((x3.Parts).length) (k4))] 24] ∧ SlAt cTPart V' a2 k2 x1.Parts ∧ SlAt cTPart V' a4 k4 x3.Parts ∧ F_clockworkref29_Same_L1 x1 x3 J5 n8 x7 = some r) ⟨(((((x1.Parts).length : Nat) : Int)).toNat + 1), [(2, .ptr 0 0), (3, .ptr 1 0), (5, .v (.int .i64 ((0 : Int))))], ⟨rfl, rfl, rfl, trivial⟩, (0 : Int), rfl, rfl, h2, h4, hF⟩ ?_
      rintro n8 L' V9 M' ⟨x7, rfl, rfl, h10, h11, hF⟩
      rcases n8 with _ | n8
      · exact absurd hF (by simp [F_clockworkref29_Same_L1])
      rw [F_clockworkref29_Same_L1] at hF
      refine Exec.run tyOk 400 rfl ?_
      rcases cond_some hF with ⟨hb, hF⟩ | ⟨hb, hF⟩
      · skip
        refine Exec.ifT rfl hb ?_
        refine Exec.run tyOk 400 rfl ?_
        refine Exec.draws tyOk [(0, true), (1, true), (2, true), (3, true), (4, true), (5, true), (6, true), (7, true), (8, true), (9, true), (10, true)] rfl (by kernel_rfl) ?_
        refine Exec.run tyOk 400 rfl ?_
        obtain ⟨q12, hF⟩ := req_some hF
        obtain ⟨c13, hr13, hd13⟩ := SlAt.get h10 q12
        obtain rfl := hr13
        refine Exec.fia tyOk rfl rfl rfl ⟨q12.1, q12.2, hd13.some⟩ ?_
        refine Exec.run tyOk 400 rfl ?_
        refine Exec.fld tyOk (x := .agg ⟨[.int .i64 ((atI x1.Parts x7).Id), .string ⟨⟨(atI x1.Parts x7).From⟩⟩, .int .i64 ((atI x1.Parts x7).Node), .int .i64 ((atI x1.Parts x7).Dest), .string ⟨⟨(atI x1.Parts x7).Done⟩⟩]⟩) rfl rfl rfl hd13 rfl rfl ?_
        refine Exec.run tyOk 400 rfl ?_
        obtain ⟨q14, hF⟩ := req_some hF
        obtain ⟨c15, hr15, hd15⟩ := SlAt.get h11 q14
        obtain rfl := hr15
        refine Exec.fia tyOk rfl rfl rfl ⟨q14.1, q14.2, hd15.some⟩ ?_
        refine Exec.run tyOk 400 rfl ?_
        refine Exec.fld tyOk (x := .agg ⟨[.int .i64 ((atI x3.Parts x7).Id), .string ⟨⟨(atI x3.Parts x7).From⟩⟩, .int .i64 ((atI x3.Parts x7).Node), .int .i64 ((atI x3.Parts x7).Dest), .string ⟨⟨(atI x3.Parts x7).Done⟩⟩]⟩) rfl rfl rfl hd15 rfl rfl ?_
        refine Exec.run tyOk 400 rfl ?_
        rcases cond_some hF with ⟨hb, hF⟩ | ⟨hb, hF⟩
        · skip
          refine Exec.ifT rfl hb ?_
          refine Exec.run tyOk 400 rfl ?_
          obtain rfl := some_inj hF
          exact Exec.ret tyOk rfl rfl rfl
        · skip
          refine Exec.ifF rfl hb ?_
          refine Exec.run tyOk 400 rfl ?_
          exact Exec.round [(2, .ptr 0 0), (3, .ptr 1 0), (5, .v (.int .i64 ((IntKind.i64.wrap (x7 + (1 : Int))))))] ⟨rfl, rfl, rfl, trivial⟩ ⟨n8, Nat.lt_succ_self _, (IntKind.i64.wrap (x7 + (1 : Int))), rfl, rfl, h10, h11, hF⟩
      · skip
        refine Exec.ifF rfl hb ?_
        refine Exec.run tyOk 400 rfl ?_
        refine Exec.cut 0 [] (M' := []) rfl trivial rfl rfl rfl ?_
        exact Exec.round [] trivial ⟨rfl, rfl, hF⟩

def F_clockworkref23_Ints_L1 (x1 : List Int) (x3 : List Int) (J5 : Option Bool) : Nat → Int → Option Bool
  | 0, _ => none
  | n8 + 1, x7 => (cond (decide (x7 < (((x1).length : Nat) : Int))) (req (0 ≤ x7 ∧ x7 < ((x1).length : Int)) (req (0 ≤ x7 ∧ x7 < ((x3).length : Int)) (cond ((atI x1 x7) != (atI x3 x7)) (some false) (F_clockworkref23_Ints_L1 x1 x3 J5 n8 ((IntKind.i64.wrap (x7 + (1 : Int)))))))) J5)

def F_clockworkref23_Ints (x1 : List Int) (x3 : List Int) : Option Bool :=
  (cond ((((x1).length : Nat) : Int) != (((x3).length : Nat) : Int)) (some false) (jn ((some true)) (fun J5 => (F_clockworkref23_Ints_L1 x1 x3 J5 (((((x1).length : Nat) : Int)).toNat + 1) ((0 : Int))))))

set_option maxRecDepth 100000 in
theorem W_clockworkref23_Ints {V : View} (x1 : List Int) (x3 : List Int) {a2 : Option Addr} {k2 : Nat} {a4 : Option Addr} {k4 : Nat} (h2 : SlAt (cInt .i64) V a2 k2 x1) (h4 : SlAt (cInt .i64) V a4 k4 x3) {r : Bool} (hF : F_clockworkref23_Ints x1 x3 = some r) :
    Spec Try.prog 24 [.slice a2 ((x1).length) (k2), .slice a4 ((x3).length) (k4)] V (fun _ v => v = .bool (r)) := by
  unfold F_clockworkref23_Ints at hF
  refine Spec.enter (T := tyT) Try.func24 rfl (by kernel_rfl) rfl rfl rfl ?_
  refine Exec.run tyOk 400 rfl ?_
  rcases cond_some hF with ⟨hb, hF⟩ | ⟨hb, hF⟩
  · skip
    refine Exec.ifT rfl hb ?_
    refine Exec.run tyOk 400 rfl ?_
    obtain rfl := some_inj hF
    exact Exec.ret tyOk rfl rfl rfl
  · skip
    refine Exec.ifF rfl hb ?_
    refine Exec.run tyOk 6 rfl ?_
    obtain ⟨J5, hJ5, hF⟩ := jn_some hF
    refine Exec.seam (fun L' V' M' => L' = [] ∧ M' = [] ∧ J5 = some r) rfl ?_ ?_
    · rintro L' V6 M' ⟨rfl, rfl, hF⟩
      subst hJ5
      refine Exec.run tyOk 400 rfl ?_
      obtain rfl := some_inj hF
      exact Exec.ret tyOk rfl rfl rfl
    · skip
      refine Exec.run tyOk 400 rfl ?_
      refine Exec.loop (fun n8 L' V' M' => ∃ (x7 : Int), L' = [(0, .v (.slice a2 ((x1).length) (k2))), (1, .v (.slice a4 ((x3).length) (k4))), (5, .v (.int .i64 (x7)))] ∧ M' = [] ∧ SlAt (cInt .i64) V' a2 k2 x1 ∧ SlAt (cInt .i64) V' a4 k4 x3 ∧ F_clockworkref23_Ints_L1 x1 x3 J5 n8 x7 = some r) ⟨(((((x1).length : Nat) : Int)).toNat + 1), [(0, .v (.slice a2 ((x1).length) (k2))), (1, .v (.slice a4 ((x3).length) (k4))), (5, .v (.int .i64 ((0 : Int))))], ⟨rfl, rfl, rfl, trivial⟩, (0 : Int), rfl, rfl, h2, h4, hF⟩ ?_
      rintro n8 L' V9 M' ⟨x7, rfl, rfl, h10, h11, hF⟩
      rcases n8 with _ | n8
      · exact absurd hF (by simp [F_clockworkref23_Ints_L1])
      rw [F_clockworkref23_Ints_L1] at hF
      refine Exec.run tyOk 400 rfl ?_
      rcases cond_some hF with ⟨hb, hF⟩ | ⟨hb, hF⟩
      · skip
        refine Exec.ifT rfl hb ?_
        refine Exec.run tyOk 400 rfl ?_
        refine Exec.draws tyOk [(0, true), (1, true), (2, true), (3, true), (4, true), (5, true), (6, true), (7, true), (8, true)] rfl (by kernel_rfl) ?_
        refine Exec.run tyOk 400 rfl ?_
        obtain ⟨q12, hF⟩ := req_some hF
        obtain ⟨c13, hr13, hd13⟩ := SlAt.get h10 q12
        obtain rfl := hr13
        refine Exec.fia tyOk rfl rfl rfl ⟨q12.1, q12.2, hd13.some⟩ ?_
        refine Exec.run tyOk 400 rfl ?_
        refine Exec.fld tyOk (x := .int .i64 ((atI x1 x7))) rfl rfl rfl hd13 rfl rfl ?_
        refine Exec.run tyOk 400 rfl ?_
        obtain ⟨q14, hF⟩ := req_some hF
        obtain ⟨c15, hr15, hd15⟩ := SlAt.get h11 q14
        obtain rfl := hr15
        refine Exec.fia tyOk rfl rfl rfl ⟨q14.1, q14.2, hd15.some⟩ ?_
        refine Exec.run tyOk 400 rfl ?_
        refine Exec.fld tyOk (x := .int .i64 ((atI x3 x7))) rfl rfl rfl hd15 rfl rfl ?_
        refine Exec.run tyOk 400 rfl ?_
        rcases cond_some hF with ⟨hb, hF⟩ | ⟨hb, hF⟩
        · skip
          refine Exec.ifT rfl hb ?_
          refine Exec.run tyOk 400 rfl ?_
          obtain rfl := some_inj hF
          exact Exec.ret tyOk rfl rfl rfl
        · skip
          refine Exec.ifF rfl hb ?_
          refine Exec.run tyOk 400 rfl ?_
          exact Exec.round [(0, .v (.slice a2 ((x1).length) (k2))), (1, .v (.slice a4 ((x3).length) (k4))), (5, .v (.int .i64 ((IntKind.i64.wrap (x7 + (1 : Int))))))] ⟨rfl, rfl, rfl, trivial⟩ ⟨n8, Nat.lt_succ_self _, (IntKind.i64.wrap (x7 + (1 : Int))), rfl, rfl, h10, h11, hF⟩
      · skip
        refine Exec.ifF rfl hb ?_
        refine Exec.run tyOk 400 rfl ?_
        exact Exec.round [] trivial ⟨rfl, rfl, hF⟩

def F_placement_node (x1 : Int) : Option Bool :=
  (some ((decide ((1 : Int) ≤ x1)) && (decide (x1 ≤ (16 : Int)))))

set_option maxRecDepth 100000 in
theorem W_placement_node {V : View} (x1 : Int)   {r : Bool} (hF : F_placement_node x1 = some r) :
    Spec Try.prog 36 [.int .i64 (x1)] V (fun _ v => v = .bool (r)) := by
  unfold F_placement_node at hF
  refine Spec.enter (T := tyT) Try.func36 rfl (by kernel_rfl) rfl rfl rfl ?_
  refine Exec.run tyOk 400 rfl ?_
  obtain rfl := some_inj hF
  exact Exec.ret tyOk rfl rfl rfl

def F_placement_bound_L1 (x1 : Str) (J2 : Option Bool) : Nat → Int → Option Bool
  | 0, _ => none
  | n5 + 1, x4 => (cond (decide (x4 < ((x1).length : Int))) (req (0 ≤ x4 ∧ x4 < ((x1).length : Int)) (req ((((decide ((byteAt x1 (x4).toNat) < (33 : Int)))) == false) = true → 0 ≤ x4 ∧ x4 < ((x1).length : Int)) (cond ((decide ((byteAt x1 (x4).toNat) < (33 : Int))) || (decide ((126 : Int) < (byteAt x1 (x4).toNat)))) (some false) (F_placement_bound_L1 x1 J2 n5 ((IntKind.i64.wrap (x4 + (1 : Int)))))))) J2)

def F_placement_bound (x1 : Str) : Option Bool :=
  (jn ((some (decide (((x1).length : Int) ≤ (24 : Int))))) (fun J2 => (F_placement_bound_L1 x1 J2 ((((x1).length : Int)).toNat + 1) ((0 : Int)))))

set_option maxRecDepth 100000 in
theorem W_placement_bound {V : View} (x1 : Str)   {r : Bool} (hF : F_placement_bound x1 = some r) :
    Spec Try.prog 37 [.string ⟨⟨x1⟩⟩] V (fun _ v => v = .bool (r)) := by
  unfold F_placement_bound at hF
  refine Spec.enter (T := tyT) Try.func37 rfl (by kernel_rfl) rfl rfl rfl ?_
  refine Exec.run tyOk 9 rfl ?_
  obtain ⟨J2, hJ2, hF⟩ := jn_some hF
  refine Exec.seam (fun L' V' M' => L' = [(0, .v (.string ⟨⟨x1⟩⟩))] ∧ M' = [] ∧ J2 = some r) rfl ?_ ?_
  · rintro L' V3 M' ⟨rfl, rfl, hF⟩
    subst hJ2
    refine Exec.run tyOk 400 rfl ?_
    obtain rfl := some_inj hF
    exact Exec.ret tyOk rfl rfl rfl
  · skip
    refine Exec.run tyOk 400 rfl ?_
    refine Exec.loop (fun n5 L' V' M' => ∃ (x4 : Int), L' = [(0, .v (.string ⟨⟨x1⟩⟩)), (3, .v (.int .i64 (x4)))] ∧ M' = [] ∧ F_placement_bound_L1 x1 J2 n5 x4 = some r) ⟨((((x1).length : Int)).toNat + 1), [(0, .v (.string ⟨⟨x1⟩⟩)), (3, .v (.int .i64 ((0 : Int))))], ⟨rfl, rfl, trivial⟩, (0 : Int), rfl, rfl, hF⟩ ?_
    rintro n5 L' V6 M' ⟨x4, rfl, rfl, hF⟩
    rcases n5 with _ | n5
    · exact absurd hF (by simp [F_placement_bound_L1])
    rw [F_placement_bound_L1] at hF
    refine Exec.run tyOk 400 rfl ?_
    rcases cond_some hF with ⟨hb, hF⟩ | ⟨hb, hF⟩
    · skip
      refine Exec.ifT rfl hb ?_
      refine Exec.run tyOk 400 rfl ?_
      obtain ⟨q7, hF⟩ := req_some hF
      refine Exec.idx tyOk rfl rfl q7 ?_
      refine Exec.run tyOk 400 rfl ?_
      obtain ⟨q8, hF⟩ := req_some hF
      refine Exec.idx tyOk rfl rfl (fun gg0 => q8 (gd1_of gg0)) ?_
      refine Exec.run tyOk 400 rfl ?_
      rcases cond_some hF with ⟨hb, hF⟩ | ⟨hb, hF⟩
      · skip
        refine Exec.ifT rfl hb ?_
        refine Exec.run tyOk 400 rfl ?_
        obtain rfl := some_inj hF
        exact Exec.ret tyOk rfl rfl rfl
      · skip
        refine Exec.ifF rfl hb ?_
        refine Exec.run tyOk 400 rfl ?_
        exact Exec.round [(0, .v (.string ⟨⟨x1⟩⟩)), (3, .v (.int .i64 ((IntKind.i64.wrap (x4 + (1 : Int))))))] ⟨rfl, rfl, trivial⟩ ⟨n5, Nat.lt_succ_self _, (IntKind.i64.wrap (x4 + (1 : Int))), rfl, rfl, hF⟩
    · skip
      refine Exec.ifF rfl hb ?_
      refine Exec.run tyOk 400 rfl ?_
      exact Exec.round [(0, .v (.string ⟨⟨x1⟩⟩))] ⟨rfl, trivial⟩ ⟨rfl, rfl, hF⟩

def F_placement_number (x1 : Int) : Option Bool :=
  (some ((decide ((1 : Int) ≤ x1)) && (decide (x1 ≤ (1099511627776 : Int)))))

set_option maxRecDepth 100000 in
theorem W_placement_number {V : View} (x1 : Int)   {r : Bool} (hF : F_placement_number x1 = some r) :
    Spec Try.prog 38 [.int .i64 (x1)] V (fun _ v => v = .bool (r)) := by
  unfold F_placement_number at hF
  refine Spec.enter (T := tyT) Try.func38 rfl (by kernel_rfl) rfl rfl rfl ?_
  refine Exec.run tyOk 400 rfl ?_
  obtain rfl := some_inj hF
  exact Exec.ret tyOk rfl rfl rfl

def F_placement_validMove (x1 : List TPart) (x3 : Int) : Option Bool :=
  (req (0 ≤ x3 ∧ x3 < ((x1).length : Int)) (cond ((atI x1 x3).Dest == (0 : Int)) (some ((atI x1 x3).Done == ([] : Str))) (bnd (F_placement_node ((atI x1 x3).Dest)) fun x6 => (bnd (gcall (((x6 && ((atI x1 x3).Dest != (atI x1 x3).Node))) == true) (F_placement_bound ((atI x1 x3).Done))) fun x7 => (req ((((((IntKind.i64.wrap (x3 + (1 : Int))) == (((x1).length : Nat) : Int))) == false) && (((((x6 && ((atI x1 x3).Dest != (atI x1 x3).Node)) && x7) && (!sLt (atI x1 x3).Done (atI x1 x3).From))) == true)) = true → 0 ≤ (IntKind.i64.wrap (x3 + (1 : Int))) ∧ (IntKind.i64.wrap (x3 + (1 : Int))) < ((x1).length : Int)) (some ((((x6 && ((atI x1 x3).Dest != (atI x1 x3).Node)) && x7) && (!sLt (atI x1 x3).Done (atI x1 x3).From)) && (((IntKind.i64.wrap (x3 + (1 : Int))) == (((x1).length : Nat) : Int)) || (sLt (atI x1 x3).Done (cond (((((IntKind.i64.wrap (x3 + (1 : Int))) == (((x1).length : Nat) : Int))) == false) && (((((x6 && ((atI x1 x3).Dest != (atI x1 x3).Node)) && x7) && (!sLt (atI x1 x3).Done (atI x1 x3).From))) == true)) (atI x1 ((IntKind.i64.wrap (x3 + (1 : Int))))) default).From)))))))))

set_option maxRecDepth 100000 in
theorem W_placement_validMove {V : View} (x1 : List TPart) (x3 : Int) {a2 : Option Addr} {k2 : Nat} (h2 : SlAt cTPart V a2 k2 x1) {r : Bool} (hF : F_placement_validMove x1 x3 = some r) :
    Spec Try.prog 39 [.slice a2 ((x1).length) (k2), .int .i64 (x3)] V (fun _ v => v = .bool (r)) := by
  unfold F_placement_validMove at hF
  refine Spec.enter (T := tyT) Try.func39 rfl (by kernel_rfl) rfl rfl rfl ?_
  refine Exec.run tyOk 400 rfl ?_
  obtain ⟨q4, hF⟩ := req_some hF
  obtain ⟨c5, hr5, hd5⟩ := SlAt.get h2 q4
  obtain rfl := hr5
  refine Exec.ia tyOk rfl rfl ⟨q4.1, q4.2, hd5.some⟩ ?_
  refine Exec.run tyOk 400 rfl ?_
  refine Exec.ld tyOk (x := .agg ⟨[.int .i64 ((atI x1 x3).Id), .string ⟨⟨(atI x1 x3).From⟩⟩, .int .i64 ((atI x1 x3).Node), .int .i64 ((atI x1 x3).Dest), .string ⟨⟨(atI x1 x3).Done⟩⟩]⟩) rfl rfl hd5 rfl rfl ?_
  refine Exec.run tyOk 400 rfl ?_
  rcases cond_some hF with ⟨hb, hF⟩ | ⟨hb, hF⟩
  · skip
    refine Exec.ifT rfl hb ?_
    refine Exec.run tyOk 400 rfl ?_
    obtain rfl := some_inj hF
    exact Exec.ret tyOk rfl rfl rfl
  · skip
    refine Exec.ifF rfl hb ?_
    refine Exec.run tyOk 400 rfl ?_
    refine Exec.draws tyOk [(0, true), (1, true), (2, false), (3, false), (4, true), (5, true), (6, false), (7, false), (8, false), (9, false), (10, false), (11, false), (12, false), (13, false), (14, false), (15, false), (16, true), (17, true), (18, false), (19, false), (20, false), (21, false), (22, false), (23, true), (24, true), (25, false), (26, false), (27, false), (28, false), (29, true), (30, true), (31, true), (32, false), (33, false), (34, false), (35, false), (36, false), (37, false), (38, false), (39, false), (40, false)] rfl (by kernel_rfl) ?_
    refine Exec.run tyOk 400 rfl ?_
    obtain ⟨x6, hx6, hF⟩ := bnd_some hF
    refine Exec.callS (.bool (x6)) rfl rfl (W_placement_node ((atI x1 x3).Dest)  hx6) ?_
    refine Exec.run tyOk 400 rfl ?_
    obtain ⟨x7, hx7, hF⟩ := bnd_some hF
    refine Exec.callS (.bool (x7)) rfl rfl (fun gg0 => W_placement_bound ((atI x1 x3).Done)  (gcall_some hx7 (gd1_of gg0))) ?_
    refine Exec.run tyOk 400 rfl ?_
    obtain ⟨q8, hF⟩ := req_some hF
    obtain ⟨c9, hr9, hd9⟩ := SlAt.gget (((((IntKind.i64.wrap (x3 + (1 : Int))) == (((x1).length : Nat) : Int))) == false) && (((((x6 && ((atI x1 x3).Dest != (atI x1 x3).Node)) && x7) && (!sLt (atI x1 x3).Done (atI x1 x3).From))) == true)) h2 q8
    obtain rfl := hr9
    refine Exec.ia tyOk rfl rfl (fun gg0 gg1 => ⟨(q8 (gd2_of gg0 gg1)).1, (q8 (gd2_of gg0 gg1)).2, (hd9 (gd2_of gg0 gg1)).some⟩) ?_
    refine Exec.run tyOk 400 rfl ?_
    refine Exec.ld tyOk (x := .string ⟨⟨(cond (((((IntKind.i64.wrap (x3 + (1 : Int))) == (((x1).length : Nat) : Int))) == false) && (((((x6 && ((atI x1 x3).Dest != (atI x1 x3).Node)) && x7) && (!sLt (atI x1 x3).Done (atI x1 x3).From))) == true)) (atI x1 ((IntKind.i64.wrap (x3 + (1 : Int))))) default).From⟩⟩) rfl rfl (fun gg0 gg1 => (RdAt.part (hd9 (gd2_of gg0 gg1)) 1 1 rfl)) rfl rfl ?_
    refine Exec.run tyOk 400 rfl ?_
    obtain rfl := some_inj hF
    exact Exec.ret tyOk rfl rfl rfl

def F_clockworkref29_Bound_L1 (x1 : Str) (J2 : Option Bool) : Nat → Int → Option Bool
  | 0, _ => none
  | n5 + 1, x4 => (cond (decide (x4 < ((x1).length : Int))) (req (0 ≤ x4 ∧ x4 < ((x1).length : Int)) (req ((((decide ((byteAt x1 (x4).toNat) < (33 : Int)))) == false) = true → 0 ≤ x4 ∧ x4 < ((x1).length : Int)) (cond ((decide ((byteAt x1 (x4).toNat) < (33 : Int))) || (decide ((126 : Int) < (byteAt x1 (x4).toNat)))) (some false) (F_clockworkref29_Bound_L1 x1 J2 n5 ((IntKind.i64.wrap (x4 + (1 : Int)))))))) J2)

def F_clockworkref29_Bound (x1 : Str) : Option Bool :=
  (cond (decide ((24 : Int) < ((x1).length : Int))) (some false) (jn ((some true)) (fun J2 => (F_clockworkref29_Bound_L1 x1 J2 ((((x1).length : Int)).toNat + 1) ((0 : Int))))))

set_option maxRecDepth 100000 in
theorem W_clockworkref29_Bound {V : View} (x1 : Str)   {r : Bool} (hF : F_clockworkref29_Bound x1 = some r) :
    Spec Try.prog 41 [.string ⟨⟨x1⟩⟩] V (fun _ v => v = .bool (r)) := by
  unfold F_clockworkref29_Bound at hF
  refine Spec.enter (T := tyT) Try.func41 rfl (by kernel_rfl) rfl rfl rfl ?_
  refine Exec.run tyOk 400 rfl ?_
  rcases cond_some hF with ⟨hb, hF⟩ | ⟨hb, hF⟩
  · skip
    refine Exec.ifT rfl hb ?_
    refine Exec.run tyOk 400 rfl ?_
    obtain rfl := some_inj hF
    exact Exec.ret tyOk rfl rfl rfl
  · skip
    refine Exec.ifF rfl hb ?_
    refine Exec.run tyOk 6 rfl ?_
    obtain ⟨J2, hJ2, hF⟩ := jn_some hF
    refine Exec.seam (fun L' V' M' => L' = [] ∧ M' = [] ∧ J2 = some r) rfl ?_ ?_
    · rintro L' V3 M' ⟨rfl, rfl, hF⟩
      subst hJ2
      refine Exec.run tyOk 400 rfl ?_
      obtain rfl := some_inj hF
      exact Exec.ret tyOk rfl rfl rfl
    · skip
      refine Exec.run tyOk 400 rfl ?_
      refine Exec.loop (fun n5 L' V' M' => ∃ (x4 : Int), L' = [(0, .v (.string ⟨⟨x1⟩⟩)), (3, .v (.int .i64 (x4)))] ∧ M' = [] ∧ F_clockworkref29_Bound_L1 x1 J2 n5 x4 = some r) ⟨((((x1).length : Int)).toNat + 1), [(0, .v (.string ⟨⟨x1⟩⟩)), (3, .v (.int .i64 ((0 : Int))))], ⟨rfl, rfl, trivial⟩, (0 : Int), rfl, rfl, hF⟩ ?_
      rintro n5 L' V6 M' ⟨x4, rfl, rfl, hF⟩
      rcases n5 with _ | n5
      · exact absurd hF (by simp [F_clockworkref29_Bound_L1])
      rw [F_clockworkref29_Bound_L1] at hF
      refine Exec.run tyOk 400 rfl ?_
      rcases cond_some hF with ⟨hb, hF⟩ | ⟨hb, hF⟩
      · skip
        refine Exec.ifT rfl hb ?_
        refine Exec.run tyOk 400 rfl ?_
        obtain ⟨q7, hF⟩ := req_some hF
        refine Exec.idx tyOk rfl rfl q7 ?_
        refine Exec.run tyOk 400 rfl ?_
        obtain ⟨q8, hF⟩ := req_some hF
        refine Exec.idx tyOk rfl rfl (fun gg0 => q8 (gd1_of gg0)) ?_
        refine Exec.run tyOk 400 rfl ?_
        rcases cond_some hF with ⟨hb, hF⟩ | ⟨hb, hF⟩
        · skip
          refine Exec.ifT rfl hb ?_
          refine Exec.run tyOk 400 rfl ?_
          obtain rfl := some_inj hF
          exact Exec.ret tyOk rfl rfl rfl
        · skip
          refine Exec.ifF rfl hb ?_
          refine Exec.run tyOk 400 rfl ?_
          exact Exec.round [(0, .v (.string ⟨⟨x1⟩⟩)), (3, .v (.int .i64 ((IntKind.i64.wrap (x4 + (1 : Int))))))] ⟨rfl, rfl, trivial⟩ ⟨n5, Nat.lt_succ_self _, (IntKind.i64.wrap (x4 + (1 : Int))), rfl, rfl, hF⟩
      · skip
        refine Exec.ifF rfl hb ?_
        refine Exec.run tyOk 400 rfl ?_
        exact Exec.round [] trivial ⟨rfl, rfl, hF⟩

def F_clockworkref29_moves (x1 : TPart) (x2 : Str) (x3 : Bool) : Option Bool :=
  (cond (x1.Dest == (0 : Int)) (some (x1.Done == ([] : Str))) (bnd (gcall (((((decide ((1 : Int) ≤ x1.Dest)) && (decide (x1.Dest ≤ (16 : Int)))) && (x1.Dest != x1.Node))) == true) (F_clockworkref29_Bound x1.Done)) fun x4 => (some ((((((decide ((1 : Int) ≤ x1.Dest)) && (decide (x1.Dest ≤ (16 : Int)))) && (x1.Dest != x1.Node)) && x4) && (!sLt x1.Done x1.From)) && (x3 || (sLt x1.Done x2))))))

set_option maxRecDepth 100000 in
theorem W_clockworkref29_moves {V : View} (x1 : TPart) (x2 : Str) (x3 : Bool)   {r : Bool} (hF : F_clockworkref29_moves x1 x2 x3 = some r) :
    Spec Try.prog 42 [.agg ⟨[.int .i64 (x1.Id), .string ⟨⟨x1.From⟩⟩, .int .i64 (x1.Node), .int .i64 (x1.Dest), .string ⟨⟨x1.Done⟩⟩]⟩, .string ⟨⟨x2⟩⟩, .bool (x3)] V (fun _ v => v = .bool (r)) := by
  unfold F_clockworkref29_moves at hF
  refine Spec.enter (T := tyT) Try.func42 rfl (by kernel_rfl) rfl rfl rfl ?_
  refine Exec.run tyOk 400 rfl ?_
  rcases cond_some hF with ⟨hb, hF⟩ | ⟨hb, hF⟩
  · skip
    refine Exec.ifT rfl hb ?_
    refine Exec.run tyOk 400 rfl ?_
    obtain rfl := some_inj hF
    exact Exec.ret tyOk rfl rfl rfl
  · skip
    refine Exec.ifF rfl hb ?_
    refine Exec.run tyOk 400 rfl ?_
    obtain ⟨x4, hx4, hF⟩ := bnd_some hF
    refine Exec.callS (.bool (x4)) rfl rfl (fun gg0 => W_clockworkref29_Bound x1.Done  (gcall_some hx4 (gd1_of gg0))) ?_
    refine Exec.run tyOk 400 rfl ?_
    obtain rfl := some_inj hF
    exact Exec.ret tyOk rfl rfl rfl

set_option maxRecDepth 100000 in
theorem W_slices_Insert_api_Part_api_Part {V : View} (x : List TPart) (y : TPart) {a : Option Addr} {c b : Nat} {cs ds : List Value} (hr : RowRep cTPart V x cs) (hy : RowRep cTPart V [y] ds) {i : Int} (hi : 0 ≤ i ∧ i ≤ (x.length : Int)) (hb : (x.length + 1) * 56 ≤ 140737488355328) :
    SpecR Try.prog 46 [.slice a x.length c, .int .i64 i, .slice (some ⟨b, 0, none⟩) 1 1] [⟨.slice a x.length c, cs, 49, 5⟩, ⟨.slice (some ⟨b, 0, none⟩) 1 1, ds, 49, 5⟩] V
      (fun V' v rs' => ∃ a' k' cs' r2, v = .slice a' (x.take i.toNat ++ [y] ++ x.drop i.toNat).length k' ∧ rs' = [⟨.slice a' (x.take i.toNat ++ [y] ++ x.drop i.toNat).length k', cs', 49, 5⟩, r2] ∧ RowRep cTPart V' (x.take i.toNat ++ [y] ++ x.drop i.toNat) cs') := by
  have hlen : (x.take i.toNat ++ [y] ++ x.drop i.toNat).length = x.length + 1 := by simp; omega
  rw [hlen]
  have hone := hr.ones
  have hone2 := hy.ones
  have hsz : cTPart.sz = 5 := rfl
  have hdl : ds.length = 5 := by simpa [hsz] using hy.len
  have hcl : cs.length = x.length * 5 := hr.len
  have hW : ∀ n : Int, 0 ≤ n → n ≤ 9223372036854775807 → IntKind.i64.wrap n = n := fun n h h' => w64 (by omega) h'
  refine SpecR.enter (T := tyT) Try.func46 rfl (by kernel_rfl) rfl rfl rfl rfl ?_
  refine Exec.rowA 0 rfl (fun r1 r2 r3 r4 r5 => ?_)
  have r3' : c ≤ 9223372036854775807 := r3
  refine Exec.run tyOk 400 rfl ?_
  refine Exec.slx tyOk rfl rfl (lo := i) (hi := (x.length : Int)) rfl rfl ⟨by omega, by omega, by omega⟩ (lo' := i.toNat) rfl rfl rfl ?_
  refine Exec.run tyOk 400 rfl ?_
  refine Exec.ifF rfl rfl ?_
  refine Exec.run tyOk 400 rfl ?_
  cases hb1 : (i == (x.length : Int))
  case true =>
    have he : i = (x.length : Int) := by simpa using hb1
    refine Exec.ifT rfl rfl ?_
    refine Exec.run tyOk 400 rfl ?_
    refine Exec.appJ tyOk 0 rfl rfl rfl rfl rfl rfl (.row 1 (off := 0) rfl (l := ds) (fun j v hv => by simpa using hv)) hone2 (by simpa using hdl) (nm := x.length + 1) rfl (fun _ => rfl) rfl hb (fun a' c' => ?_)
    refine Exec.run tyOk 400 rfl ?_
    refine Exec.ret tyOk rfl rfl ?_
    dsimp only
    refine ⟨[⟨.slice a' (x.length + 1) c', cs ++ ds, 49, 5⟩, _], rfl, rfl, a', c', cs ++ ds, _, rfl, rfl, ?_⟩
    have : x.take i.toNat ++ [y] ++ x.drop i.toNat = x ++ [y] := by rw [he]; simp
    rw [this]
    exact hr.app hy
  case false =>
    have hlt : i < (x.length : Int) := by simp at hb1; omega
    obtain ⟨g, rfl⟩ : ∃ g, a = some ⟨g, 0, none⟩ := by
      cases a with
      | none => have := (r4 rfl).1; omega
      | some p => obtain ⟨g, rfl⟩ := r5 p rfl; exact ⟨g, rfl⟩
    have hin : i.toNat < x.length := by omega
    have ei : ((i.toNat : Nat) : Int) = i := Int.toNat_of_nonneg hi.1
    have hfin : RowRep cTPart V (x.take i.toNat ++ [y] ++ x.drop i.toNat) (cs.take (i.toNat * 5) ++ ds ++ cs.drop (i.toNat * 5)) := ((hr.take i.toNat).app hy).app (hr.drop i.toNat)
    have e0 : slAd (some ⟨g, 0, none⟩) c 0 5 = some ⟨g, 0, none⟩ := by simp [slAd, Addr.add_lit]
    refine Exec.ifF rfl rfl ?_
    refine Exec.run tyOk 400 rfl ?_
    have ew : IntKind.i64.wrap ((x.length : Int) + ((1 : Nat) : Int)) = ((x.length + 1 : Nat) : Int) := by rw [hW _ (by omega) (by omega)]; omega
    cases hb2 : decide ((c : Int) < IntKind.i64.wrap ((x.length : Int) + ((1 : Nat) : Int)))
    case true =>
      -- no room
      have hc : c < x.length + 1 := by rw [ew] at hb2; simp at hb2; omega
      refine Exec.ifT rfl rfl ?_
      refine Exec.run tyOk 400 rfl ?_
      refine Exec.slx tyOk rfl rfl (lo := 0) (hi := i) rfl rfl ⟨by omega, by omega, by omega⟩ (lo' := 0) rfl (n' := i.toNat) (by omega) (c' := c) (by omega) ?_
      refine Exec.run tyOk 400 rfl ?_
      have eq : IntKind.i64.wrap (IntKind.i64.wrap ((x.length : Int) + ((1 : Nat) : Int)) - i) = ((x.length + 1 - i.toNat : Nat) : Int) := by
        rw [ew, hW _ (by omega) (by omega)]; omega
      have e5 : i.toNat + (x.length + 1 - i.toNat) = x.length + 1 := by omega
      refine Exec.apZ tyOk 0 rfl rfl rfl rfl rfl rfl rfl e0 rfl eq (by omega) rfl (by omega) (by omega) (by rw [e5]; exact hb) (nq := x.length + 1) e5 (fun _ => rfl) (fun b2 c2 => ?_)
      have hzl : (List.replicate (x.length + 1 - i.toNat) ([.int .i64 (0), .string ⟨⟨[]⟩⟩, .int .i64 (0), .int .i64 (0), .string ⟨⟨[]⟩⟩] : List Value)).flatten.length = (x.length + 1 - i.toNat) * 5 := by simp [List.length_flatten]
      refine Exec.run tyOk 400 rfl ?_
      refine Exec.rowA 2 rfl (fun s1 s2 s3 s4 s5 => ?_)
      refine Exec.slx tyOk rfl rfl (lo := i) (hi := ((x.length + 1 : Nat) : Int)) rfl rfl ⟨by omega, by omega, by omega⟩ (lo' := i.toNat) rfl (n' := x.length + 1 - i.toNat) (by omega) rfl ?_
      refine Exec.run tyOk 400 rfl ?_
      have a1 : slAd (some ⟨b2, 0, none⟩) c2 i.toNat 5 = some ⟨b2, i.toNat * 5, none⟩ := by simp only [slAd]; rw [if_neg (by omega)]; simp only [Option.map_some, Addr.add_lit, Nat.zero_add]
      refine Exec.cpR tyOk 2 rfl rfl rfl a1 rfl rfl (.row 1 (off := 0) rfl (l := ds) (fun j v hv => by simpa using hv)) (m := 1) (Nat.min_eq_left (by omega)) (by simpa using hdl) ?_ hone2 rfl rfl rfl ?_
      · simp only [List.length_append, List.length_take, hdl]; rw [hzl]; show i.toNat * 5 + 5 ≤ min (i.toNat * 5) cs.length + (x.length + 1 - i.toNat) * 5; omega
      refine Exec.run tyOk 400 rfl ?_
      refine Exec.drawsE tyOk [] [2] [(0, true), (1, true), (2, true), (3, true), (4, true), (5, true), (6, true), (7, true), (8, false)] (by kernel_rfl) ?_
      refine Exec.run tyOk 400 rfl ?_
      have ew2 : IntKind.i64.wrap (i + ((1 : Nat) : Int)) = ((i.toNat + 1 : Nat) : Int) := by rw [hW _ (by omega) (by omega)]; omega
      refine Exec.fslx tyOk rfl rfl rfl (lo := IntKind.i64.wrap (i + ((1 : Nat) : Int))) (hi := ((x.length + 1 : Nat) : Int)) rfl rfl ⟨by omega, by omega, by omega⟩ (lo' := i.toNat + 1) (by omega) (n' := x.length - i.toNat) (by omega) rfl ?_
      refine Exec.run tyOk 400 rfl ?_
      refine Exec.fslx tyOk rfl rfl rfl (lo := i) (hi := (x.length : Int)) rfl rfl ⟨by omega, by omega, by omega⟩ (lo' := i.toNat) rfl (n' := x.length - i.toNat) (by omega) rfl ?_
      refine Exec.run tyOk 400 rfl ?_
      have a3 : slAd (some ⟨g, 0, none⟩) c i.toNat 5 = some ⟨g, i.toNat * 5, none⟩ := by simp only [slAd]; rw [if_neg (by omega)]; simp only [Option.map_some, Addr.add_lit, Nat.zero_add]
      have a2 : ∃ o2, (o2 = (i.toNat + 1) * 5 ∨ (x.length - i.toNat = 0)) ∧ slAd (some ⟨b2, 0, none⟩) c2 (i.toNat + 1) 5 = some ⟨b2, o2, none⟩ := by
        refine ⟨(i.toNat + 1) * 5, .inl rfl, ?_⟩
        simp only [slAd]; rw [if_neg (by omega)]; simp only [Option.map_some, Addr.add_lit, Nat.zero_add]
      obtain ⟨o2, ho2, a2⟩ := a2
      have ho2 : o2 = (i.toNat + 1) * 5 := by omega
      subst ho2
      refine Exec.cpR tyOk 2 rfl rfl rfl a2 rfl rfl (by rw [a3]; exact .row 0 (off := i.toNat * 5) rfl (l := cs.drop (i.toNat * 5)) (fun j v hv => by rwa [List.getElem?_drop] at hv)) (m := x.length - i.toNat) (Nat.min_self _) (by show (cs.drop (i.toNat * 5)).length = (x.length - i.toNat) * 5; simp; omega) ?_ (fun u hu => hone u (List.mem_of_mem_drop hu)) rfl rfl rfl ?_
      · simp only [List.length_append, List.length_take, List.length_drop, hdl]; rw [hzl]; show (i.toNat + 1) * 5 + (cs.length - i.toNat * 5) ≤ _; omega
      refine Exec.run tyOk 400 rfl ?_
      have hfc := insZ_cells (cs := cs) (ds := ds) (n := x.length) (i := i.toNat) (sz := 5) hcl hdl hzl hin
      refine Exec.sel [2, 1] [(6, .v (.slice (some ⟨b2, 0, none⟩) (x.length + 1) c2))] rfl rfl rfl rfl ⟨⟨_, rfl, rfl⟩, trivial⟩ ?_
      refine Exec.ret tyOk rfl rfl ?_
      dsimp only
      refine ⟨[⟨.slice (some ⟨b2, 0, none⟩) (x.length + 1) c2, _, 49, 5⟩, _], rfl, rfl, _, c2, _, _, rfl, rfl, ?_⟩
      rw [← hfc] at hfin
      exact hfin
    case false =>
      have hc : x.length + 1 ≤ c := by rw [ew] at hb2; simp at hb2; omega
      refine Exec.ifF rfl rfl ?_
      refine Exec.run tyOk 400 rfl ?_
      refine Exec.slx tyOk rfl rfl (lo := 0) (hi := IntKind.i64.wrap ((x.length : Int) + ((1 : Nat) : Int))) rfl rfl ⟨by omega, by omega, by omega⟩ (lo' := 0) rfl (n' := x.length + 1) (by omega) (c' := c) (by omega) ?_
      refine Exec.run tyOk 400 rfl ?_
      refine Exec.rowEx 0 1 rfl hc (fun _ => rfl) rfl (fun js hjs => ?_)
      have hjs : js.length = 5 := by simpa using hjs
      have ew2 : IntKind.i64.wrap (i + ((1 : Nat) : Int)) = ((i.toNat + 1 : Nat) : Int) := by rw [hW _ (by omega) (by omega)]; omega
      refine Exec.slx tyOk rfl rfl (lo := IntKind.i64.wrap (i + ((1 : Nat) : Int))) (hi := ((x.length + 1 : Nat) : Int)) rfl rfl ⟨by omega, by omega, by omega⟩ (lo' := i.toNat + 1) (by omega) (n' := x.length - i.toNat) (by omega) rfl ?_
      refine Exec.run tyOk 400 rfl ?_
      have a2 : slAd (some ⟨g, 0, none⟩) c (i.toNat + 1) 5 = some ⟨g, (i.toNat + 1) * 5, none⟩ := by
        simp only [slAd]; rw [if_neg (by omega)]; simp only [Option.map_some, Addr.add_lit, Nat.zero_add]
      have a3 : slAd (some ⟨g, 0, none⟩) c i.toNat 5 = some ⟨g, i.toNat * 5, none⟩ := by simp only [slAd]; rw [if_neg (by omega)]; simp only [Option.map_some, Addr.add_lit, Nat.zero_add]
      rw [e0]
      refine Exec.ovl 0 1 (t := 22) (tb := 4) (e := 49) (ez := 5) rfl rfl rfl Try.func65 (by kernel_rfl) (by kernel_rfl) (by kernel_rfl) (by kernel_rfl) Try.underlying22 Try.sizeOf49 rfl a2 (by decide) ?_ rfl rfl ?_
      · show 0 < c * 5; omega
      refine Exec.run tyOk 400 rfl ?_
      refine Exec.ifT rfl rfl ?_
      refine Exec.run tyOk 400 rfl ?_
      refine Exec.drawsE tyOk [] [0] [(0, true), (1, true), (2, true), (3, true), (4, true), (5, true), (6, true), (7, true), (8, false)] (by kernel_rfl) ?_
      refine Exec.run tyOk 400 rfl ?_
      refine Exec.fslx tyOk rfl rfl rfl (lo := IntKind.i64.wrap (i + ((1 : Nat) : Int))) (hi := ((x.length + 1 : Nat) : Int)) rfl rfl ⟨by omega, by omega, by omega⟩ (lo' := i.toNat + 1) (by omega) (n' := x.length - i.toNat) (by omega) rfl ?_
      refine Exec.run tyOk 400 rfl ?_
      refine Exec.fslx tyOk rfl rfl rfl (lo := i) (hi := ((x.length + 1 : Nat) : Int)) rfl rfl ⟨by omega, by omega, by omega⟩ (lo' := i.toNat) rfl (n' := x.length + 1 - i.toNat) (by omega) rfl ?_
      refine Exec.run tyOk 400 rfl ?_
      refine Exec.cpR tyOk 0 rfl rfl rfl a2 rfl rfl (by rw [a3]; exact .row 0 (off := i.toNat * 5) rfl (l := cs.drop (i.toNat * 5)) (fun j v hv => by
          rw [List.getElem?_drop] at hv
          rw [List.getElem?_append, if_pos (List.getElem?_eq_some_iff.1 hv).1]; exact hv)) (m := x.length - i.toNat) (Nat.min_eq_right (by omega)) (by show (cs.drop (i.toNat * 5)).length = (x.length - i.toNat) * 5; simp; omega) ?_ (fun u hu => hone u (List.mem_of_mem_drop hu)) rfl rfl rfl ?_
      · simp only [List.length_append, List.length_drop]; omega
      refine Exec.run tyOk 400 rfl ?_
      refine Exec.slx tyOk rfl rfl (lo := i) (hi := ((x.length + 1 : Nat) : Int)) rfl rfl ⟨by omega, by omega, by omega⟩ (lo' := i.toNat) rfl (n' := x.length + 1 - i.toNat) (by omega) rfl ?_
      refine Exec.run tyOk 400 rfl ?_
      refine Exec.cpR tyOk 0 rfl rfl rfl a3 rfl rfl (.row 1 (off := 0) rfl (l := ds) (fun j v hv => by simpa using hv)) (m := 1) (Nat.min_eq_left (by omega)) (by simpa using hdl) ?_ hone2 rfl rfl rfl ?_
      · simp only [List.length_append, List.length_take, List.length_drop, hdl]; omega
      refine Exec.run tyOk 400 rfl ?_
      refine Exec.ret tyOk rfl rfl ?_
      dsimp only
      refine ⟨[⟨.slice (some ⟨g, 0, none⟩) (x.length + 1) c, _, 49, 5⟩, _], rfl, rfl, _, c, _, _, rfl, rfl, ?_⟩
      have hfc := ins_cells (cs := cs) (ds := ds) (js := js) (n := x.length) (i := i.toNat) (sz := 5) hcl hdl hjs hin
      rw [← hfc] at hfin
      exact hfin

set_option maxRecDepth 100000 in
theorem W_slices_Clone_api_Part_api_Part {V : View} (x : List TPart) {a : Option Addr} {k : Nat} (h : SlAt cTPart V a k x) (hb : x.length * 56 ≤ 140737488355328) :
    SpecM Try.prog 47 [.slice a x.length k] ⟨.slice none 0 0, [], 49, 5⟩ V (fun V' v r' => ∃ a' k' cs', v = .slice a' x.length k' ∧ r' = ⟨.slice a' x.length k', cs', 49, 5⟩ ∧ RowRep cTPart V' x cs') := by
  refine SpecM.enter (T := tyT) Try.func47 rfl (by kernel_rfl) rfl rfl rfl ?_
  refine Exec.run tyOk 400 rfl ?_
  refine Exec.nilS tyOk rfl rfl ?_
  refine Exec.run tyOk 400 rfl ?_
  rcases hn : a.isNone with _ | _
  · refine Exec.ifF rfl (by simp [hn]) ?_
    refine Exec.run tyOk 400 rfl ?_
    refine Exec.bsl tyOk rfl rfl ?_
    refine Exec.fixR 1 (n := 0) (sz := 5) rfl rfl rfl rfl rfl (fun _ => rfl) (fun _ => rfl) (fun _ => rfl) (fun b => ?_)
    refine Exec.run tyOk 400 rfl ?_
    refine Exec.appS tyOk (cd := cTPart) 1 (nm := x.length) rfl rfl rfl rfl rfl rfl h rfl (by simp) (fun _ _ _ => rfl) rfl hb (fun cs hs a' k' => ?_)
    refine Exec.run tyOk 400 rfl ?_
    refine Exec.ret tyOk rfl rfl ?_
    dsimp only
    exact RowEnd.at 1 rfl ⟨a', k', _, rfl, rfl, hs⟩
  · refine Exec.ifT rfl (by simp [hn]) ?_
    refine Exec.run tyOk 400 rfl ?_
    have ha : a = none := by cases a <;> simp at hn ⊢
    have hx : x = [] := by
      cases x with
      | nil => rfl
      | cons y l =>
        obtain ⟨cs, h1, b, o, h2, _⟩ := h.2 0 y rfl
        rw [ha] at h2; simp at h2
    subst hx
    refine Exec.ret tyOk rfl rfl ?_
    dsimp only
    exact RowEnd.at 0 rfl ⟨none, 0, [], rfl, rfl, rfl⟩


set_option maxRecDepth 100000 in
theorem W_slices_Delete_api_Part_api_Part {V : View} (x : List TPart) {a : Option Addr} {c : Nat} {cs : List Value} (hr : RowRep cTPart V x cs) {i j : Int} (hij : 0 ≤ i ∧ i ≤ j ∧ j ≤ (x.length : Int)) (hx : x.length < 9223372036854775808) :
    SpecM Try.prog 48 [.slice a x.length c, .int .i64 i, .int .i64 j] ⟨.slice a x.length c, cs, 49, 5⟩ V (fun V' v r' => ∃ cs', v = .slice a (x.take i.toNat ++ x.drop j.toNat).length c ∧ r' = ⟨.slice a (x.take i.toNat ++ x.drop j.toNat).length c, cs', 49, 5⟩ ∧ RowRep cTPart V' (x.take i.toNat ++ x.drop j.toNat) cs') := by
  have hone := hr.ones
  have hsz : cTPart.sz = 5 := rfl
  refine SpecM.enter (T := tyT) Try.func48 rfl (by kernel_rfl) rfl rfl rfl ?_
  refine Exec.rowA 0 rfl (fun r1 r2 r3 r4 r5 => ?_)
  have r1 : cs.length = x.length * 5 := r1
  refine Exec.run tyOk 400 rfl ?_
  refine Exec.slx3 tyOk rfl rfl rfl rfl rfl rfl rfl ⟨hij.1, hij.2.1, hij.2.2, by omega⟩ rfl rfl rfl ?_
  refine Exec.run tyOk 400 rfl ?_
  cases hb : (i == j)
  · have hne : i < j := by simp at hb; omega
    refine Exec.ifF rfl rfl ?_
    refine Exec.run tyOk 400 rfl ?_
    -- something is taken out: there is a row
    obtain ⟨g, rfl⟩ : ∃ g, a = some ⟨g, 0, none⟩ := by
      cases a with
      | none => have := (r4 rfl).1; omega
      | some p => obtain ⟨g, rfl⟩ := r5 p rfl; exact ⟨g, rfl⟩
    refine Exec.drawsE tyOk [] [0] [(0, true), (1, true), (2, true), (3, true), (4, true), (5, true), (6, false), (7, false)] (by kernel_rfl) ?_
    refine Exec.run tyOk 400 rfl ?_
    refine Exec.fslx tyOk rfl rfl rfl (lo := 0) (hi := i) rfl rfl ⟨by decide, hij.1, by omega⟩ (lo' := 0) rfl (n' := i.toNat) (by omega) (c' := c) (by omega) ?_
    refine Exec.run tyOk 400 rfl ?_
    refine Exec.fslx tyOk rfl rfl rfl (lo := j) (hi := (x.length : Int)) rfl rfl ⟨by omega, hij.2.2, by omega⟩ rfl (n' := x.length - j.toNat) (by omega) rfl ?_
    refine Exec.run tyOk 400 rfl ?_
    have e0 : slAd (some ⟨g, 0, none⟩) c 0 5 = some ⟨g, 0, none⟩ := by simp [slAd, Addr.add_lit]
    have hsrc : ∃ ad, slAd (some ⟨g, 0, none⟩) c j.toNat 5 = some ad ∧ Src [.row (.slice (some ⟨g, 0, none⟩) x.length c) cs 49 5] V (slAd (some ⟨g, 0, none⟩) c j.toNat 5) (cs.drop (j.toNat * 5)) := by
      by_cases hc : c = j.toNat
      · have : cs.drop (j.toNat * 5) = [] := by rw [List.drop_eq_nil_iff]; omega
        rw [this]
        simp only [slAd, if_pos hc]
        exact ⟨_, rfl, .nil _⟩
      · simp only [slAd, if_neg hc, Option.map_some, Addr.add_lit, Nat.zero_add]
        exact ⟨_, rfl, .row 0 rfl (fun jj v hv => by rwa [List.getElem?_drop] at hv)⟩
    obtain ⟨ad, ha2, hsrc⟩ := hsrc
    refine Exec.apIn tyOk 0 rfl rfl rfl e0 rfl ha2 rfl hsrc (by simp; omega) (by omega) (fun u hu => hone u (List.mem_of_mem_drop hu)) hone rfl rfl rfl ?_
    refine Exec.run tyOk 400 rfl ?_
    refine Exec.rowTr 0 (i.toNat + (x.length - j.toNat)) rfl (by omega) rfl rfl ?_
    refine Exec.slx tyOk rfl rfl (lo := ((i.toNat + (x.length - j.toNat) : Nat) : Int)) (hi := (x.length : Int)) rfl rfl ⟨by omega, by omega, by omega⟩ (lo' := i.toNat + (x.length - j.toNat)) (by omega) rfl rfl ?_
    refine Exec.run tyOk 400 rfl ?_
    refine Exec.clrR tyOk 0 rfl rfl rfl rfl ?_ rfl ?_ rfl (Nat.le_refl _) ?_ rfl rfl ?_
    · decide
    · simp only [slAd]; rw [if_neg (by omega)]; simp only [Option.map_some, Addr.add_lit, Nat.zero_add]
    · show (i.toNat + (x.length - j.toNat)) * 5 + (((x.length : Nat) : Int).toNat - (i.toNat + (x.length - j.toNat))) * 5 ≤ c * 5; omega
    refine Exec.run tyOk 400 rfl ?_
    have hlen : (x.take i.toNat ++ x.drop j.toNat).length = i.toNat + (x.length - j.toNat) := by simp; omega
    rw [hlen]
    refine Exec.ret tyOk rfl rfl ?_
    dsimp only
    refine RowEnd.at 0 rfl ⟨_, rfl, rfl, ?_⟩
    have hcells : (cs.take (i.toNat * 5) ++ cs.drop (j.toNat * 5) ++ cs.drop (i.toNat * 5 + (cs.drop (j.toNat * 5)).length)).take ((i.toNat + (x.length - j.toNat)) * 5) = cs.take (i.toNat * 5) ++ cs.drop (j.toNat * 5) := by
      rw [List.take_left']
      simp only [List.length_append, List.length_take, List.length_drop]; omega
    rw [hcells]
    exact (hr.take i.toNat).app (hr.drop j.toNat)
  · have he : i = j := by simpa using hb
    refine Exec.ifT rfl rfl ?_
    refine Exec.run tyOk 400 rfl ?_
    subst he
    rw [List.take_append_drop]
    refine Exec.ret tyOk rfl rfl ?_
    dsimp only
    exact RowEnd.at 0 rfl ⟨cs, rfl, rfl, hr⟩

def F_clockworkref02_Uint_L1 (J4 : Int → Str → Option Str) : Nat → Int → Str → Option Str
  | 0, _, _ => none
  | n10 + 1, x8, x9 => (cond (decide ((128 : Int) ≤ x8)) (req ((128 : Int) ≠ 0) (req ((x9).length + ((bytesS (([(IntKind.u8.wrap ((IntKind.u8.wrap (remI x8 (128 : Int))) + (128 : Int)))] : List Int)))).length ≤ 9223372036854775807) (req ((128 : Int) ≠ 0) (F_clockworkref02_Uint_L1 J4 n10 ((quoI .u64 x8 (128 : Int))) ((x9 ++ (bytesS (([(IntKind.u8.wrap ((IntKind.u8.wrap (remI x8 (128 : Int))) + (128 : Int)))] : List Int))))))))) (J4 x8 x9))

def F_clockworkref02_Uint (x1 : Int) : Option Str :=
  (jn (fun (x2 : Int) (x3 : Str) => (req ((x3).length + ((bytesS (([(IntKind.u8.wrap x2)] : List Int)))).length ≤ 9223372036854775807) (some (x3 ++ (bytesS (([(IntKind.u8.wrap x2)] : List Int))))))) (fun J4 => (F_clockworkref02_Uint_L1 J4 ((x1).toNat + 2) x1 (([] : Str)))))

set_option maxRecDepth 100000 in
theorem W_clockworkref02_Uint {V : View} (x1 : Int)   {r : Str} (hF : F_clockworkref02_Uint x1 = some r) :
    Spec Try.prog 59 [.int .u64 (x1)] V (fun _ v => v = .string ⟨⟨r⟩⟩) := by
  unfold F_clockworkref02_Uint at hF
  refine Spec.enter (T := tyT) Try.func59 rfl (by kernel_rfl) rfl rfl rfl ?_
  refine Exec.run tyOk 9 rfl ?_
  obtain ⟨J4, hJ4, hF⟩ := jn_some hF
  refine Exec.seam (fun L' V' M' => ∃ (x2 : Int) (x3 : Str), L' = [(0, .v (.int .u64 (x2))), (3, .v (.string ⟨⟨x3⟩⟩))] ∧ M' = [] ∧ J4 x2 x3 = some r) rfl ?_ ?_
  · rintro L' V5 M' ⟨x2, x3, rfl, rfl, hF⟩
    subst hJ4
    refine Exec.run tyOk 400 rfl ?_
    refine Exec.bsV tyOk rfl rfl rfl rfl rfl (fun V6 a6 hv6 hd6 => ?_)
    have h6 : SlAt (cInt .u8) V6 (some a6) 1 ([(IntKind.u8.wrap x2)] : List Int) := RowRep.slat (c := (cInt .u8)) (V := V6) (cs := [.int .u8 ((IntKind.u8.wrap x2))]) ⟨_, _, rfl, rfl, rfl⟩ (VLe.refl _) (fun _ => hd6) (by simp)
    refine Exec.run tyOk 400 rfl ?_
    refine Exec.b2sV tyOk rfl rfl rfl rfl rfl rfl rfl h6 (by simp) ?_
    refine Exec.run tyOk 400 rfl ?_
    obtain ⟨q7, hF⟩ := req_some hF
    refine Exec.cat rfl rfl q7 ?_
    refine Exec.run tyOk 400 rfl ?_
    obtain rfl := some_inj hF
    exact Exec.ret tyOk rfl rfl rfl
  · skip
    refine Exec.run tyOk 400 rfl ?_
    refine Exec.loop (fun n10 L' V' M' => ∃ (x8 : Int) (x9 : Str), L' = [(0, .v (.int .u64 (x8))), (3, .v (.string ⟨⟨x9⟩⟩))] ∧ M' = [] ∧ F_clockworkref02_Uint_L1 J4 n10 x8 x9 = some r) ⟨((x1).toNat + 2), [(0, .v (.int .u64 (x1))), (3, .v (.string ⟨⟨([] : Str)⟩⟩))], ⟨rfl, rfl, trivial⟩, x1, ([] : Str), rfl, rfl, hF⟩ ?_
    rintro n10 L' V11 M' ⟨x8, x9, rfl, rfl, hF⟩
    rcases n10 with _ | n10
    · exact absurd hF (by simp [F_clockworkref02_Uint_L1])
    rw [F_clockworkref02_Uint_L1] at hF
    refine Exec.run tyOk 400 rfl ?_
    rcases cond_some hF with ⟨hb, hF⟩ | ⟨hb, hF⟩
    · skip
      refine Exec.ifT rfl hb ?_
      refine Exec.run tyOk 400 rfl ?_
      obtain ⟨q12, hF⟩ := req_some hF
      refine Exec.ari rfl rfl q12 ?_
      refine Exec.run tyOk 400 rfl ?_
      refine Exec.bsV tyOk rfl rfl rfl rfl rfl (fun V13 a13 hv13 hd13 => ?_)
      have h13 : SlAt (cInt .u8) V13 (some a13) 1 ([(IntKind.u8.wrap ((IntKind.u8.wrap (remI x8 (128 : Int))) + (128 : Int)))] : List Int) := RowRep.slat (c := (cInt .u8)) (V := V13) (cs := [.int .u8 ((IntKind.u8.wrap ((IntKind.u8.wrap (remI x8 (128 : Int))) + (128 : Int))))]) ⟨_, _, rfl, rfl, rfl⟩ (VLe.refl _) (fun _ => hd13) (by simp)
      refine Exec.run tyOk 400 rfl ?_
      refine Exec.b2sV tyOk rfl rfl rfl rfl rfl rfl rfl h13 (by simp) ?_
      refine Exec.run tyOk 400 rfl ?_
      obtain ⟨q14, hF⟩ := req_some hF
      refine Exec.cat rfl rfl q14 ?_
      refine Exec.run tyOk 400 rfl ?_
      obtain ⟨q15, hF⟩ := req_some hF
      refine Exec.ari rfl rfl q15 ?_
      refine Exec.run tyOk 400 rfl ?_
      refine Exec.cut 0 [(0, .v (.int .u64 ((quoI .u64 x8 (128 : Int))))), (3, .v (.string ⟨⟨(x9 ++ (bytesS (([(IntKind.u8.wrap ((IntKind.u8.wrap (remI x8 (128 : Int))) + (128 : Int)))] : List Int))))⟩⟩))] (M' := []) rfl ⟨rfl, rfl, trivial⟩ rfl rfl rfl ?_
      exact Exec.round [(0, .v (.int .u64 ((quoI .u64 x8 (128 : Int))))), (3, .v (.string ⟨⟨(x9 ++ (bytesS (([(IntKind.u8.wrap ((IntKind.u8.wrap (remI x8 (128 : Int))) + (128 : Int)))] : List Int))))⟩⟩))] ⟨rfl, rfl, trivial⟩ ⟨n10, Nat.lt_succ_self _, (quoI .u64 x8 (128 : Int)), (x9 ++ (bytesS (([(IntKind.u8.wrap ((IntKind.u8.wrap (remI x8 (128 : Int))) + (128 : Int)))] : List Int)))), rfl, rfl, hF⟩
    · skip
      refine Exec.ifF rfl hb ?_
      refine Exec.run tyOk 400 rfl ?_
      exact Exec.round [(0, .v (.int .u64 (x8))), (3, .v (.string ⟨⟨x9⟩⟩))] ⟨rfl, rfl, trivial⟩ ⟨x8, x9, rfl, rfl, hF⟩

def F_clockworkref02_Text (x1 : Str) : Option Str :=
  (bnd (F_clockworkref02_Uint ((IntKind.u64.wrap ((x1).length : Int)))) fun x2 => (req ((x2).length + (x1).length ≤ 9223372036854775807) (some (x2 ++ x1))))

set_option maxRecDepth 100000 in
theorem W_clockworkref02_Text {V : View} (x1 : Str)   {r : Str} (hF : F_clockworkref02_Text x1 = some r) :
    Spec Try.prog 60 [.string ⟨⟨x1⟩⟩] V (fun _ v => v = .string ⟨⟨r⟩⟩) := by
  unfold F_clockworkref02_Text at hF
  refine Spec.enter (T := tyT) Try.func60 rfl (by kernel_rfl) rfl rfl rfl ?_
  refine Exec.run tyOk 400 rfl ?_
  obtain ⟨x2, hx2, hF⟩ := bnd_some hF
  refine Exec.callS (.string ⟨⟨x2⟩⟩) rfl rfl (W_clockworkref02_Uint ((IntKind.u64.wrap ((x1).length : Int)))  hx2) ?_
  refine Exec.run tyOk 400 rfl ?_
  obtain ⟨q3, hF⟩ := req_some hF
  refine Exec.cat rfl rfl q3 ?_
  refine Exec.run tyOk 400 rfl ?_
  obtain rfl := some_inj hF
  exact Exec.ret tyOk rfl rfl rfl

def F_slices_IndexFunc_api_Part_api_Part_L1 (x1 : List TPart) (g4 : TPart → Option Bool) (J5 : Option Int) : Nat → Int → Option Int
  | 0, _ => none
  | n8 + 1, x7 => (cond (decide (x7 < (((x1).length : Nat) : Int))) (req (0 ≤ x7 ∧ x7 < ((x1).length : Int)) (bnd (g4 ((atI x1 x7))) fun x14 => (cond x14 (some x7) (F_slices_IndexFunc_api_Part_api_Part_L1 x1 g4 J5 n8 ((IntKind.i64.wrap (x7 + (1 : Int)))))))) J5)

def F_slices_IndexFunc_api_Part_api_Part (x1 : List TPart) (g4 : TPart → Option Bool) : Option Int :=
  (jn ((some (-1 : Int))) (fun J5 => (F_slices_IndexFunc_api_Part_api_Part_L1 x1 g4 J5 (((((x1).length : Nat) : Int)).toNat + 1) ((0 : Int)))))

set_option maxRecDepth 100000 in
theorem W_slices_IndexFunc_api_Part_api_Part {V : View} (x1 : List TPart) (g4 : TPart → Option Bool) {f4 : Nat} {ca4 : List Value} {a2 : Option Addr} {k2 : Nat} (h2 : SlAt cTPart V a2 k2 x1) (hg4 : FnSpec1 Try.prog f4 ca4 V (fun (y : TPart) => .agg ⟨[.int .i64 (y.Id), .string ⟨⟨y.From⟩⟩, .int .i64 (y.Node), .int .i64 (y.Dest), .string ⟨⟨y.Done⟩⟩]⟩) (fun (r : Bool) => .bool (r)) g4) {r : Int} (hF : F_slices_IndexFunc_api_Part_api_Part x1 g4 = some r) :
    Spec Try.prog 61 [.slice a2 ((x1).length) (k2), .func (.func f4) #[] ⟨ca4⟩] V (fun _ v => v = .int .i64 (r)) := by
  unfold F_slices_IndexFunc_api_Part_api_Part at hF
  refine Spec.enter (T := tyT) Try.func61 rfl (by kernel_rfl) rfl rfl rfl ?_
  refine Exec.run tyOk 11 rfl ?_
  obtain ⟨J5, hJ5, hF⟩ := jn_some hF
  refine Exec.seam (fun L' V' M' => L' = [] ∧ M' = [] ∧ J5 = some r) rfl ?_ ?_
  · rintro L' V6 M' ⟨rfl, rfl, hF⟩
    subst hJ5
    refine Exec.run tyOk 400 rfl ?_
    obtain rfl := some_inj hF
    exact Exec.ret tyOk rfl rfl rfl
  · skip
    refine Exec.run tyOk 400 rfl ?_
    refine Exec.loop (fun n8 L' V' M' => ∃ (x7 : Int), L' = [(0, .v (.slice a2 ((x1).length) (k2))), (1, .v (.func (.func f4) #[] ⟨ca4⟩)), (7, .v (.int .i64 ((((x1).length : Nat) : Int)))), (8, .v (.int .i64 (x7)))] ∧ M' = [] ∧ SlAt cTPart V' a2 k2 x1 ∧ FnSpec1 Try.prog f4 ca4 V' (fun (y : TPart) => .agg ⟨[.int .i64 (y.Id), .string ⟨⟨y.From⟩⟩, .int .i64 (y.Node), .int .i64 (y.Dest), .string ⟨⟨y.Done⟩⟩]⟩) (fun (r : Bool) => .bool (r)) g4 ∧ F_slices_IndexFunc_api_Part_api_Part_L1 x1 g4 J5 n8 x7 = some r) ⟨(((((x1).length : Nat) : Int)).toNat + 1), [(0, .v (.slice a2 ((x1).length) (k2))), (1, .v (.func (.func f4) #[] ⟨ca4⟩)), (7, .v (.int .i64 ((((x1).length : Nat) : Int)))), (8, .v (.int .i64 ((0 : Int))))], ⟨rfl, rfl, rfl, rfl, trivial⟩, (0 : Int), rfl, rfl, h2, hg4, hF⟩ ?_
    rintro n8 L' V9 M' ⟨x7, rfl, rfl, h10, h11, hF⟩
    rcases n8 with _ | n8
    · exact absurd hF (by simp [F_slices_IndexFunc_api_Part_api_Part_L1])
    rw [F_slices_IndexFunc_api_Part_api_Part_L1] at hF
    refine Exec.run tyOk 400 rfl ?_
    rcases cond_some hF with ⟨hb, hF⟩ | ⟨hb, hF⟩
    · skip
      refine Exec.ifT rfl hb ?_
      refine Exec.run tyOk 400 rfl ?_
      obtain ⟨q12, hF⟩ := req_some hF
      obtain ⟨c13, hr13, hd13⟩ := SlAt.get h10 q12
      obtain rfl := hr13
      refine Exec.ia tyOk rfl rfl ⟨q12.1, q12.2, hd13.some⟩ ?_
      refine Exec.run tyOk 400 rfl ?_
      refine Exec.ld tyOk (x := .agg ⟨[.int .i64 ((atI x1 x7).Id), .string ⟨⟨(atI x1 x7).From⟩⟩, .int .i64 ((atI x1 x7).Node), .int .i64 ((atI x1 x7).Dest), .string ⟨⟨(atI x1 x7).Done⟩⟩]⟩) rfl rfl hd13 rfl rfl ?_
      refine Exec.run tyOk 400 rfl ?_
      obtain ⟨x14, hx14, hF⟩ := bnd_some hF
      refine Exec.callS (.bool (x14)) rfl rfl (h11.at hx14) ?_
      refine Exec.run tyOk 400 rfl ?_
      rcases cond_some hF with ⟨hb, hF⟩ | ⟨hb, hF⟩
      · skip
        refine Exec.ifT rfl hb ?_
        refine Exec.run tyOk 400 rfl ?_
        obtain rfl := some_inj hF
        exact Exec.ret tyOk rfl rfl rfl
      · skip
        refine Exec.ifF rfl hb ?_
        refine Exec.run tyOk 400 rfl ?_
        exact Exec.round [(0, .v (.slice a2 ((x1).length) (k2))), (1, .v (.func (.func f4) #[] ⟨ca4⟩)), (7, .v (.int .i64 ((((x1).length : Nat) : Int)))), (8, .v (.int .i64 ((IntKind.i64.wrap (x7 + (1 : Int))))))] ⟨rfl, rfl, rfl, rfl, trivial⟩ ⟨n8, Nat.lt_succ_self _, (IntKind.i64.wrap (x7 + (1 : Int))), rfl, rfl, h10, h11, hF⟩
    · skip
      refine Exec.ifF rfl hb ?_
      refine Exec.run tyOk 400 rfl ?_
      exact Exec.round [] trivial ⟨rfl, rfl, hF⟩

def F_placement_find_1 (x1 : TPart) (x2 : Int) : Option Bool :=
  (some (x1.Id == x2))

set_option maxRecDepth 100000 in
theorem W_placement_find_1 {V : View} (x1 : TPart) (x2 : Int) {b0 o0 : Nat} (hc0 : RdAt V (some ⟨b0, o0, none⟩) 0 [.int .i64 (x2)]) {r : Bool} (hF : F_placement_find_1 x1 x2 = some r) :
    Spec Try.prog 62 [.agg ⟨[.int .i64 (x1.Id), .string ⟨⟨x1.From⟩⟩, .int .i64 (x1.Node), .int .i64 (x1.Dest), .string ⟨⟨x1.Done⟩⟩]⟩, .pointer (some ⟨b0, o0, none⟩)] V (fun _ v => v = .bool (r)) := by
  unfold F_placement_find_1 at hF
  refine Spec.enter (T := tyT) Try.func62 rfl (by kernel_rfl) rfl rfl rfl ?_
  refine Exec.run tyOk 400 rfl ?_
  refine Exec.ld tyOk (x := .int .i64 (x2)) rfl rfl hc0 rfl rfl ?_
  refine Exec.run tyOk 400 rfl ?_
  obtain rfl := some_inj hF
  exact Exec.ret tyOk rfl rfl rfl

def F_clockworkref02_TakeUint_L1 (x1 : Str) (x2 : Int) (J3 : Option (Int × Int × Int)) : Nat → Int → Int → Int → Option (Int × Int × Int)
  | 0, _, _, _ => none
  | n8 + 1, x5, x6, x7 => (cond (decide (x7 < (10 : Int))) (cond (decide (((x1).length : Int) ≤ (IntKind.i64.wrap (x2 + x7)))) (some ((0 : Int), (0 : Int), (6 : Int))) (req (0 ≤ (IntKind.i64.wrap (x2 + x7)) ∧ (IntKind.i64.wrap (x2 + x7)) < ((x1).length : Int)) (cond (((x7 == (9 : Int)) && (decide ((1 : Int) < (byteAt x1 ((IntKind.i64.wrap (x2 + x7))).toNat)))) || (((byteAt x1 ((IntKind.i64.wrap (x2 + x7))).toNat) == (0 : Int)) && (decide ((0 : Int) < x7)))) (some ((0 : Int), (0 : Int), (5 : Int))) (req ((128 : Int) ≠ 0) (cond (decide ((byteAt x1 ((IntKind.i64.wrap (x2 + x7))).toNat) < (128 : Int))) (some ((IntKind.u64.wrap (x5 + (IntKind.u64.wrap ((IntKind.u64.wrap (remI (byteAt x1 ((IntKind.i64.wrap (x2 + x7))).toNat) (128 : Int))) * x6)))), (IntKind.i64.wrap ((IntKind.i64.wrap (x2 + x7)) + (1 : Int))), (0 : Int))) (F_clockworkref02_TakeUint_L1 x1 x2 J3 n8 ((IntKind.u64.wrap (x5 + (IntKind.u64.wrap ((IntKind.u64.wrap (remI (byteAt x1 ((IntKind.i64.wrap (x2 + x7))).toNat) (128 : Int))) * x6))))) ((IntKind.u64.wrap (x6 * (128 : Int)))) ((IntKind.i64.wrap (x7 + (1 : Int)))))))))) J3)

def F_clockworkref02_TakeUint (x1 : Str) (x2 : Int) : Option (Int × Int × Int) :=
  (cond ((decide (x2 < (0 : Int))) || (decide (((x1).length : Int) < x2))) (some ((0 : Int), (0 : Int), (1 : Int))) (jn ((some ((0 : Int), (0 : Int), (5 : Int)))) (fun J3 => (F_clockworkref02_TakeUint_L1 x1 x2 J3 (((10 : Int)).toNat + 1) ((0 : Int)) ((1 : Int)) ((0 : Int))))))

set_option maxRecDepth 100000 in
theorem W_clockworkref02_TakeUint {V : View} (x1 : Str) (x2 : Int)   {r : Int × Int × Int} (hF : F_clockworkref02_TakeUint x1 x2 = some r) :
    Spec Try.prog 70 [.string ⟨⟨x1⟩⟩, .int .i64 (x2)] V (fun _ v => v = .tuple ⟨[.int .u64 (r.1), .int .i64 (r.2.1), .int .i64 (r.2.2)]⟩) := by
  unfold F_clockworkref02_TakeUint at hF
  refine Spec.enter (T := tyT) Try.func70 rfl (by kernel_rfl) rfl rfl rfl ?_
  refine Exec.run tyOk 400 rfl ?_
  rcases cond_some hF with ⟨hb, hF⟩ | ⟨hb, hF⟩
  · skip
    refine Exec.ifT rfl hb ?_
    refine Exec.run tyOk 400 rfl ?_
    obtain rfl := some_inj hF
    exact Exec.ret tyOk rfl rfl rfl
  · skip
    refine Exec.ifF rfl hb ?_
    refine Exec.run tyOk 11 rfl ?_
    obtain ⟨J3, hJ3, hF⟩ := jn_some hF
    refine Exec.seam (fun L' V' M' => L' = [] ∧ M' = [] ∧ J3 = some r) rfl ?_ ?_
    · rintro L' V4 M' ⟨rfl, rfl, hF⟩
      subst hJ3
      refine Exec.run tyOk 400 rfl ?_
      obtain rfl := some_inj hF
      exact Exec.ret tyOk rfl rfl rfl
    · skip
      refine Exec.run tyOk 400 rfl ?_
      refine Exec.loop (fun n8 L' V' M' => ∃ (x5 : Int) (x6 : Int) (x7 : Int), L' = [(0, .v (.string ⟨⟨x1⟩⟩)), (1, .v (.int .i64 (x2))), (7, .v (.int .u64 (x5))), (8, .v (.int .u64 (x6))), (9, .v (.int .i64 (x7)))] ∧ M' = [] ∧ F_clockworkref02_TakeUint_L1 x1 x2 J3 n8 x5 x6 x7 = some r) ⟨(((10 : Int)).toNat + 1), [(0, .v (.string ⟨⟨x1⟩⟩)), (1, .v (.int .i64 (x2))), (7, .v (.int .u64 ((0 : Int)))), (8, .v (.int .u64 ((1 : Int)))), (9, .v (.int .i64 ((0 : Int))))], ⟨rfl, rfl, rfl, rfl, rfl, trivial⟩, (0 : Int), (1 : Int), (0 : Int), rfl, rfl, hF⟩ ?_
      rintro n8 L' V9 M' ⟨x5, x6, x7, rfl, rfl, hF⟩
      rcases n8 with _ | n8
      · exact absurd hF (by simp [F_clockworkref02_TakeUint_L1])
      rw [F_clockworkref02_TakeUint_L1] at hF
      refine Exec.run tyOk 400 rfl ?_
      rcases cond_some hF with ⟨hb, hF⟩ | ⟨hb, hF⟩
      · skip
        refine Exec.ifT rfl hb ?_
        refine Exec.run tyOk 400 rfl ?_
        rcases cond_some hF with ⟨hb, hF⟩ | ⟨hb, hF⟩
        · skip
          refine Exec.ifT rfl hb ?_
          refine Exec.run tyOk 400 rfl ?_
          obtain rfl := some_inj hF
          exact Exec.ret tyOk rfl rfl rfl
        · skip
          refine Exec.ifF rfl hb ?_
          refine Exec.run tyOk 400 rfl ?_
          obtain ⟨q10, hF⟩ := req_some hF
          refine Exec.idx tyOk rfl rfl q10 ?_
          refine Exec.run tyOk 400 rfl ?_
          rcases cond_some hF with ⟨hb, hF⟩ | ⟨hb, hF⟩
          · skip
            refine Exec.ifT rfl hb ?_
            refine Exec.run tyOk 400 rfl ?_
            obtain rfl := some_inj hF
            exact Exec.ret tyOk rfl rfl rfl
          · skip
            refine Exec.ifF rfl hb ?_
            refine Exec.run tyOk 400 rfl ?_
            obtain ⟨q11, hF⟩ := req_some hF
            refine Exec.ari rfl rfl q11 ?_
            refine Exec.run tyOk 400 rfl ?_
            rcases cond_some hF with ⟨hb, hF⟩ | ⟨hb, hF⟩
            · skip
              refine Exec.ifT rfl hb ?_
              refine Exec.run tyOk 400 rfl ?_
              obtain rfl := some_inj hF
              exact Exec.ret tyOk rfl rfl rfl
            · skip
              refine Exec.ifF rfl hb ?_
              refine Exec.run tyOk 400 rfl ?_
              exact Exec.round [(0, .v (.string ⟨⟨x1⟩⟩)), (1, .v (.int .i64 (x2))), (7, .v (.int .u64 ((IntKind.u64.wrap (x5 + (IntKind.u64.wrap ((IntKind.u64.wrap (remI (byteAt x1 ((IntKind.i64.wrap (x2 + x7))).toNat) (128 : Int))) * x6))))))), (8, .v (.int .u64 ((IntKind.u64.wrap (x6 * (128 : Int)))))), (9, .v (.int .i64 ((IntKind.i64.wrap (x7 + (1 : Int))))))] ⟨rfl, rfl, rfl, rfl, rfl, trivial⟩ ⟨n8, Nat.lt_succ_self _, (IntKind.u64.wrap (x5 + (IntKind.u64.wrap ((IntKind.u64.wrap (remI (byteAt x1 ((IntKind.i64.wrap (x2 + x7))).toNat) (128 : Int))) * x6)))), (IntKind.u64.wrap (x6 * (128 : Int))), (IntKind.i64.wrap (x7 + (1 : Int))), rfl, rfl, hF⟩
      · skip
        refine Exec.ifF rfl hb ?_
        refine Exec.run tyOk 400 rfl ?_
        exact Exec.round [] trivial ⟨rfl, rfl, hF⟩

def F_clockworkref02_Unfold (x1 : Int) : Option Int :=
  (req ((2 : Int) ≠ 0) (cond ((remI x1 (2 : Int)) == (1 : Int)) (req ((2 : Int) ≠ 0) (some (IntKind.i64.wrap ((IntKind.i64.wrap ((0 : Int) - (IntKind.i64.wrap (quoI .u64 x1 (2 : Int))))) - (1 : Int))))) (req ((2 : Int) ≠ 0) (some (IntKind.i64.wrap (quoI .u64 x1 (2 : Int)))))))

set_option maxRecDepth 100000 in
theorem W_clockworkref02_Unfold {V : View} (x1 : Int)   {r : Int} (hF : F_clockworkref02_Unfold x1 = some r) :
    Spec Try.prog 71 [.int .u64 (x1)] V (fun _ v => v = .int .i64 (r)) := by
  unfold F_clockworkref02_Unfold at hF
  refine Spec.enter (T := tyT) Try.func71 rfl (by kernel_rfl) rfl rfl rfl ?_
  refine Exec.run tyOk 400 rfl ?_
  obtain ⟨q2, hF⟩ := req_some hF
  refine Exec.ari rfl rfl q2 ?_
  refine Exec.run tyOk 400 rfl ?_
  rcases cond_some hF with ⟨hb, hF⟩ | ⟨hb, hF⟩
  · skip
    refine Exec.ifT rfl hb ?_
    refine Exec.run tyOk 400 rfl ?_
    obtain ⟨q3, hF⟩ := req_some hF
    refine Exec.ari rfl rfl q3 ?_
    refine Exec.run tyOk 400 rfl ?_
    obtain rfl := some_inj hF
    exact Exec.ret tyOk rfl rfl rfl
  · skip
    refine Exec.ifF rfl hb ?_
    refine Exec.run tyOk 400 rfl ?_
    obtain ⟨q4, hF⟩ := req_some hF
    refine Exec.ari rfl rfl q4 ?_
    refine Exec.run tyOk 400 rfl ?_
    obtain rfl := some_inj hF
    exact Exec.ret tyOk rfl rfl rfl

def F_clockworkref02_TakeText (x1 : Str) (x2 : Int) (x3 : Int) : Option (Str × Int × Int) :=
  (bnd (F_clockworkref02_TakeUint x1 x2) fun x4 => (cond (x4.2.2 != (0 : Int)) (some (([] : Str), (0 : Int), x4.2.2)) (cond ((decide (x3 < (0 : Int))) || (decide ((IntKind.u64.wrap x3) < x4.1))) (some (([] : Str), (0 : Int), (2 : Int))) (cond (decide ((IntKind.u64.wrap (IntKind.i64.wrap (((x1).length : Int) - x4.2.1))) < x4.1)) (some (([] : Str), (0 : Int), (6 : Int))) (req (0 ≤ x4.2.1 ∧ x4.2.1 ≤ (IntKind.i64.wrap (x4.2.1 + (IntKind.i64.wrap x4.1))) ∧ (IntKind.i64.wrap (x4.2.1 + (IntKind.i64.wrap x4.1))) ≤ (((x1).length : Nat) : Int)) (some (((x1.take ((IntKind.i64.wrap (x4.2.1 + (IntKind.i64.wrap x4.1)))).toNat).drop (x4.2.1).toNat), (IntKind.i64.wrap (x4.2.1 + (IntKind.i64.wrap x4.1))), (0 : Int))))))))

set_option maxRecDepth 100000 in
theorem W_clockworkref02_TakeText {V : View} (x1 : Str) (x2 : Int) (x3 : Int)   {r : Str × Int × Int} (hF : F_clockworkref02_TakeText x1 x2 x3 = some r) :
    Spec Try.prog 72 [.string ⟨⟨x1⟩⟩, .int .i64 (x2), .int .i64 (x3)] V (fun _ v => v = .tuple ⟨[.string ⟨⟨r.1⟩⟩, .int .i64 (r.2.1), .int .i64 (r.2.2)]⟩) := by
  unfold F_clockworkref02_TakeText at hF
  refine Spec.enter (T := tyT) Try.func72 rfl (by kernel_rfl) rfl rfl rfl ?_
  refine Exec.run tyOk 400 rfl ?_
  obtain ⟨x4, hx4, hF⟩ := bnd_some hF
  refine Exec.callS (.tuple ⟨[.int .u64 (x4.1), .int .i64 (x4.2.1), .int .i64 (x4.2.2)]⟩) rfl rfl (W_clockworkref02_TakeUint x1 x2  hx4) ?_
  refine Exec.run tyOk 400 rfl ?_
  rcases cond_some hF with ⟨hb, hF⟩ | ⟨hb, hF⟩
  · skip
    refine Exec.ifT rfl hb ?_
    refine Exec.run tyOk 400 rfl ?_
    obtain rfl := some_inj hF
    exact Exec.ret tyOk rfl rfl rfl
  · skip
    refine Exec.ifF rfl hb ?_
    refine Exec.run tyOk 400 rfl ?_
    rcases cond_some hF with ⟨hb, hF⟩ | ⟨hb, hF⟩
    · skip
      refine Exec.ifT rfl hb ?_
      refine Exec.run tyOk 400 rfl ?_
      obtain rfl := some_inj hF
      exact Exec.ret tyOk rfl rfl rfl
    · skip
      refine Exec.ifF rfl hb ?_
      refine Exec.run tyOk 400 rfl ?_
      rcases cond_some hF with ⟨hb, hF⟩ | ⟨hb, hF⟩
      · skip
        refine Exec.ifT rfl hb ?_
        refine Exec.run tyOk 400 rfl ?_
        obtain rfl := some_inj hF
        exact Exec.ret tyOk rfl rfl rfl
      · skip
        refine Exec.ifF rfl hb ?_
        refine Exec.run tyOk 400 rfl ?_
        obtain ⟨q5, hF⟩ := req_some hF
        refine Exec.ssl tyOk (r := ((x1.take ((IntKind.i64.wrap (x4.2.1 + (IntKind.i64.wrap x4.1)))).toNat).drop (x4.2.1).toNat)) rfl rfl q5 rfl ?_
        refine Exec.run tyOk 400 rfl ?_
        obtain rfl := some_inj hF
        exact Exec.ret tyOk rfl rfl rfl

def F_wire_appended (x1 : List Int) (x3 : Int) : Option (List Int) := (req (((x1 ++ [x3])).length * 1 ≤ 140737488355328) (some (x1 ++ [x3])))

set_option maxRecDepth 100000 in
theorem W_wire_appended {V : View} (x1 : List Int) (x3 : Int) {a2 : Option Addr} {k2 : Nat} (h2 : SlAt (cInt .u8) V a2 k2 x1) {r : List Int} (hF : F_wire_appended x1 x3 = some r) :
    Spec Try.prog 73 [.slice a2 ((x1).length) (k2), .int .u8 (x3)] V (fun V' v => ∃ (a29 : Option Addr) (k29 : Nat), v = .slice a29 ((r).length) (k29) ∧ SlAt (cInt .u8) V' a29 k29 r) := by
  unfold F_wire_appended at hF
  refine Spec.enter (T := tyT) Try.func73 rfl (by kernel_rfl) rfl rfl rfl ?_
  refine Exec.run tyOk 400 rfl ?_
  obtain ⟨q8, hF⟩ := req_some hF
  obtain rfl := some_inj hF
  have hcap := h2.1
  refine Exec.slx3 tyOk rfl rfl rfl rfl rfl rfl rfl ⟨by simp [loN], by simp [loN], Int.le_refl _, by omega⟩ (l' := 0) rfl (n' := x1.length) (by simp) (c' := x1.length) (by simp) ?_
  refine Exec.run tyOk 400 rfl ?_
  refine Exec.bsl tyOk rfl rfl ?_
  refine Exec.run tyOk 400 rfl ?_
  refine Exec.appO tyOk (cd := cInt .u8) 0 (nm := (x1 ++ [x3]).length) rfl rfl rfl rfl rfl rfl rfl (by simp) (fun _ _ _ => rfl) q8 h2 rfl rfl rfl rfl (by omega) (fun cs3 a3 k3 hcs3 => ?_)
  have h13 : RowRep (cInt .u8) V (x1 ++ [x3]) (cs3 ++ [.int .u8 x3]) := RowRep.app hcs3 ⟨_, _, rfl, rfl, rfl⟩
  refine Exec.run tyOk 400 rfl ?_
  refine Exec.frz 1 rfl rfl rfl (fun V19 hv19 hd19 hn19 => ?_)
  have hz19 := RowRep.slat h13 hv19 hd19 hn19
  exact Exec.ret tyOk rfl rfl ⟨_, _, rfl, hz19⟩

end Go.Proofs.Ytdkakeiccefbgaa
