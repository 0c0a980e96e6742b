/-
  Functions of the program as their counterparts say them (printed by a program).
  Conditions: none.
-/
import Derived.Test.YtdkakeiccefbgaaGh
import Derived.Test.YtdkakeiccefbgaaGd
import Derived.Test.YtdkakeiccefbgaaSh
import Derived.Test.YtdkakeiccefbgaaTy
set_option linter.all false
namespace Go.Proofs.Ytdkakeiccefbgaa

structure TPart where
  Id : Int
  From : Str
  Node : Int
  Dest : Int
  Done : Str
instance : Inhabited TPart := ⟨⟨default, default, default, default, default⟩⟩
def cTPart : Cd TPart where
  sz := 5
  rep _ s cs := cs = [.int .i64 (s.Id), .string ⟨⟨s.From⟩⟩, .int .i64 (s.Node), .int .i64 (s.Dest), .string ⟨⟨s.Done⟩⟩]
  len h := by subst h; rfl
  mono _ h := h
  one h := by subst h; intro u hu; simp only [List.mem_cons, List.not_mem_nil, or_false] at hu; rcases hu with rfl | rfl | rfl | rfl | rfl <;> rfl
  pos := by omega
  dflt := ⟨_, fun _ => rfl⟩

structure TPlacement where
  Version : Int
  Parts : List TPart
instance : Inhabited TPlacement := ⟨⟨default, default⟩⟩
def cTPlacement : Cd TPlacement where
  sz := 2
  rep V s cs := ∃ (a1 : Option Addr) (k1 : Nat), cs = [.int .i64 (s.Version), .slice a1 ((s.Parts).length) (k1)] ∧ SlAt cTPart V a1 k1 s.Parts
  len h := by obtain ⟨a1, k1, rfl, _⟩ := h; rfl
  mono hv h := by
    obtain ⟨a1, k1, rfl, h1⟩ := h
    exact ⟨a1, k1, rfl, h1.mono hv⟩
  one h := by obtain ⟨a1, k1, rfl, _⟩ := h; intro u hu; simp only [List.mem_cons, List.not_mem_nil, or_false] at hu; rcases hu with rfl | rfl <;> rfl
  pos := by omega
  dflt := ⟨[.int .i64 (0), .slice none (0) (0)], fun _ => ⟨none, 0, rfl, SlAt.nil⟩⟩

structure TCut where
  Id : Int
  Key : Str
  Fresh : Int
instance : Inhabited TCut := ⟨⟨default, default, default⟩⟩
def cTCut : Cd TCut where
  sz := 3
  rep _ s cs := cs = [.int .i64 (s.Id), .string ⟨⟨s.Key⟩⟩, .int .i64 (s.Fresh)]
  len h := by subst h; rfl
  mono _ h := h
  one h := by subst h; intro u hu; simp only [List.mem_cons, List.not_mem_nil, or_false] at hu; rcases hu with rfl | rfl | rfl <;> rfl
  pos := by omega
  dflt := ⟨_, fun _ => rfl⟩

structure TRange where
  From : Str
  To : Str
instance : Inhabited TRange := ⟨⟨default, default⟩⟩
def cTRange : Cd TRange where
  sz := 2
  rep _ s cs := cs = [.string ⟨⟨s.From⟩⟩, .string ⟨⟨s.To⟩⟩]
  len h := by subst h; rfl
  mono _ h := h
  one h := by subst h; intro u hu; simp only [List.mem_cons, List.not_mem_nil, or_false] at hu; rcases hu with rfl | rfl <;> rfl
  pos := by omega
  dflt := ⟨_, fun _ => rfl⟩

structure Treader where
  s : Str
  at_ : Int
  e : Int
instance : Inhabited Treader := ⟨⟨default, default, default⟩⟩
def cTreader : Cd Treader where
  sz := 3
  rep _ s cs := cs = [.string ⟨⟨s.s⟩⟩, .int .i64 (s.at_), .int .i64 (s.e)]
  len h := by subst h; rfl
  mono _ h := h
  one h := by subst h; intro u hu; simp only [List.mem_cons, List.not_mem_nil, or_false] at hu; rcases hu with rfl | rfl | rfl <;> rfl
  pos := by omega
  dflt := ⟨_, fun _ => rfl⟩

def F_clockworklaw29_few_L1 (x1 : TPlacement) (J3 : Option Bool) : Nat → Int → Option Bool
  | 0, _ => none
  | n6 + 1, x5 => (cond (decide (x5 < (((x1.Parts).length : Nat) : Int))) (req (0 ≤ x5 ∧ x5 < ((x1.Parts).length : Int)) (req ((((decide ((100 : Int) < (((atI x1.Parts x5).From).length : Int)))) == false) = true → 0 ≤ x5 ∧ x5 < ((x1.Parts).length : Int)) (cond ((decide ((100 : Int) < (((atI x1.Parts x5).From).length : Int))) || (decide ((100 : Int) < (((cond (((decide ((100 : Int) < (((atI x1.Parts x5).From).length : Int)))) == false) (atI x1.Parts x5) default).Done).length : Int)))) (some false) (F_clockworklaw29_few_L1 x1 J3 n6 ((IntKind.i64.wrap (x5 + (1 : Int)))))))) J3)

def F_clockworklaw29_few (x1 : TPlacement) : Option Bool :=
  (cond (decide ((40 : Int) < (((x1.Parts).length : Nat) : Int))) (some false) (jn ((some true)) (fun J3 => (F_clockworklaw29_few_L1 x1 J3 (((((x1.Parts).length : Nat) : Int)).toNat + 1) ((0 : Int))))))

set_option maxRecDepth 100000 in
theorem W_clockworklaw29_few {V : View} (x1 : TPlacement) {a2 : Option Addr} {k2 : Nat} (h2 : SlAt cTPart V a2 k2 x1.Parts) {r : Bool} (hF : F_clockworklaw29_few x1 = some r) :
    Spec Try.prog 11 [.agg ⟨[.int .i64 (x1.Version), .slice a2 ((x1.Parts).length) (k2)]⟩] V (fun _ v => v = .bool (r)) := by
  unfold F_clockworklaw29_few at hF
  refine Spec.enter (T := tyT) Try.func11 rfl (by kernel_rfl) rfl rfl rfl ?_
  refine Exec.run tyOk 400 rfl ?_
  rcases cond_some hF with ⟨hb, hF⟩ | ⟨hb, hF⟩
  · skip
    refine Exec.ifT rfl hb ?_
    refine Exec.run tyOk 400 rfl ?_
    obtain rfl := some_inj hF
    exact Exec.ret tyOk rfl rfl rfl
  · skip
    refine Exec.ifF rfl hb ?_
    refine Exec.run tyOk 6 rfl ?_
    obtain ⟨J3, hJ3, hF⟩ := jn_some hF
    refine Exec.seam (fun L' V' M' => L' = [] ∧ M' = [] ∧ J3 = some r) rfl ?_ ?_
    · rintro L' V4 M' ⟨rfl, rfl, hF⟩
      subst hJ3
      refine Exec.run tyOk 400 rfl ?_
      obtain rfl := some_inj hF
      exact Exec.ret tyOk rfl rfl rfl
    · skip
      refine Exec.run tyOk 400 rfl ?_
      refine Exec.loop (fun n6 L' V' M' => ∃ (x5 : Int), L' = [(1, .ptr 0 0), (3, .v (.int .i64 (x5)))] ∧ M' = [.blk [.v (.int .i64 (x1.Version)), .v (.slice a2 ((x1.Parts).length) (k2))] 24] ∧ SlAt cTPart V' a2 k2 x1.Parts ∧ F_clockworklaw29_few_L1 x1 J3 n6 x5 = some r) ⟨(((((x1.Parts).length : Nat) : Int)).toNat + 1), [(1, .ptr 0 0), (3, .v (.int .i64 ((0 : Int))))], ⟨rfl, rfl, trivial⟩, (0 : Int), rfl, rfl, h2, hF⟩ ?_
      rintro n6 L' V7 M' ⟨x5, rfl, rfl, h8, hF⟩
      rcases n6 with _ | n6
      · exact absurd hF (by simp [F_clockworklaw29_few_L1])
      rw [F_clockworklaw29_few_L1] at hF
      refine Exec.run tyOk 400 rfl ?_
      rcases cond_some hF with ⟨hb, hF⟩ | ⟨hb, hF⟩
      · skip
        refine Exec.ifT rfl hb ?_
        refine Exec.run tyOk 400 rfl ?_
        obtain ⟨q9, hF⟩ := req_some hF
        obtain ⟨c10, hr10, hd10⟩ := SlAt.get h8 q9
        obtain rfl := hr10
        refine Exec.ia tyOk rfl rfl ⟨q9.1, q9.2, hd10.some⟩ ?_
        refine Exec.run tyOk 400 rfl ?_
        refine Exec.ld tyOk (x := .string ⟨⟨(atI x1.Parts x5).From⟩⟩) rfl rfl (RdAt.part hd10 1 1 rfl) rfl rfl ?_
        refine Exec.run tyOk 400 rfl ?_
        obtain ⟨q11, hF⟩ := req_some hF
        obtain ⟨c12, hr12, hd12⟩ := SlAt.gget (((decide ((100 : Int) < (((atI x1.Parts x5).From).length : Int)))) == false) h8 q11
        obtain rfl := hr12
        refine Exec.ia tyOk rfl rfl (fun gg0 => ⟨(q11 (gd1_of gg0)).1, (q11 (gd1_of gg0)).2, (hd12 (gd1_of gg0)).some⟩) ?_
        refine Exec.run tyOk 400 rfl ?_
        refine Exec.ld tyOk (x := .string ⟨⟨(cond (((decide ((100 : Int) < (((atI x1.Parts x5).From).length : Int)))) == false) (atI x1.Parts x5) default).Done⟩⟩) rfl rfl (fun gg0 => (RdAt.part (hd12 (gd1_of gg0)) 4 1 rfl)) rfl rfl ?_
        refine Exec.run tyOk 400 rfl ?_
        rcases cond_some hF with ⟨hb, hF⟩ | ⟨hb, hF⟩
        · skip
          refine Exec.ifT rfl hb ?_
          refine Exec.run tyOk 400 rfl ?_
          obtain rfl := some_inj hF
          exact Exec.ret tyOk rfl rfl rfl
        · skip
          refine Exec.ifF rfl hb ?_
          refine Exec.run tyOk 400 rfl ?_
          exact Exec.round [(1, .ptr 0 0), (3, .v (.int .i64 ((IntKind.i64.wrap (x5 + (1 : Int))))))] ⟨rfl, rfl, trivial⟩ ⟨n6, Nat.lt_succ_self _, (IntKind.i64.wrap (x5 + (1 : Int))), rfl, rfl, h8, hF⟩
      · skip
        refine Exec.ifF rfl hb ?_
        refine Exec.run tyOk 400 rfl ?_
        refine Exec.cut 0 [] (M' := []) rfl trivial rfl rfl rfl ?_
        exact Exec.round [] trivial ⟨rfl, rfl, hF⟩

def F_clockworkref29_New (x1 : Int) : Option (TPlacement × Int) :=
  (cond ((decide (x1 < (1 : Int))) || (decide ((16 : Int) < x1))) (some ((⟨0, ([] : List TPart)⟩ : TPlacement), (1 : Int))) (some ((⟨0, ([(⟨(1 : Int), [], x1, 0, []⟩ : TPart)] : List TPart)⟩ : TPlacement), (0 : Int))))

set_option maxRecDepth 100000 in
theorem W_clockworkref29_New {V : View} (x1 : Int)   {r : TPlacement × Int} (hF : F_clockworkref29_New x1 = some r) :
    Spec Try.prog 14 [.int .i64 (x1)] V (fun V' v => ∃ (a3 : Option Addr) (k3 : Nat), v = .tuple ⟨[.agg ⟨[.int .i64 (r.1.Version), .slice a3 ((r.1.Parts).length) (k3)]⟩, .int .i64 (r.2)]⟩ ∧ SlAt cTPart V' a3 k3 r.1.Parts) := by
  unfold F_clockworkref29_New at hF
  refine Spec.enter (T := tyT) Try.func14 rfl (by kernel_rfl) rfl rfl rfl ?_
  refine Exec.run tyOk 400 rfl ?_
  rcases cond_some hF with ⟨hb, hF⟩ | ⟨hb, hF⟩
  · skip
    refine Exec.ifT rfl hb ?_
    refine Exec.run tyOk 400 rfl ?_
    obtain rfl := some_inj hF
    exact Exec.ret tyOk rfl rfl ⟨_, _, rfl, SlAt.nil⟩
  · skip
    refine Exec.ifF rfl hb ?_
    refine Exec.run tyOk 400 rfl ?_
    refine Exec.bsV tyOk rfl rfl rfl rfl rfl (fun V2 a2 hv2 hd2 => ?_)
    have h2 : SlAt cTPart V2 (some a2) 1 ([(⟨(1 : Int), [], x1, 0, []⟩ : TPart)] : List TPart) := RowRep.slat (c := cTPart) (V := V2) (cs := [.int .i64 ((1 : Int)), .string ⟨⟨[]⟩⟩, .int .i64 (x1), .int .i64 (0), .string ⟨⟨[]⟩⟩]) ⟨_, _, rfl, rfl, rfl⟩ (VLe.refl _) (fun _ => hd2) (by simp)
    refine Exec.run tyOk 400 rfl ?_
    obtain rfl := some_inj hF
    exact Exec.ret tyOk rfl rfl ⟨_, _, rfl, h2⟩

def F_clockworkref29_Same_L1 (x1 : TPlacement) (x3 : TPlacement) (J5 : Option Bool) : Nat → Int → Option Bool
  | 0, _ => none
  | n8 + 1, x7 => (cond (decide (x7 < (((x1.Parts).length : Nat) : Int))) (req (0 ≤ x7 ∧ x7 < ((x1.Parts).length : Int)) (req (0 ≤ x7 ∧ x7 < ((x3.Parts).length : Int)) (cond (!(((atI x1.Parts x7).Id == (atI x3.Parts x7).Id) && (((atI x1.Parts x7).From == (atI x3.Parts x7).From) && (((atI x1.Parts x7).Node == (atI x3.Parts x7).Node) && (((atI x1.Parts x7).Dest == (atI x3.Parts x7).Dest) && (((atI x1.Parts x7).Done == (atI x3.Parts x7).Done) && true)))))) (some false) (F_clockworkref29_Same_L1 x1 x3 J5 n8 ((IntKind.i64.wrap (x7 + (1 : Int)))))))) J5)

def F_clockworkref29_Same (x1 : TPlacement) (x3 : TPlacement) : Option Bool :=
  (cond ((x1.Version != x3.Version) || ((((x1.Parts).length : Nat) : Int) != (((x3.Parts).length : Nat) : Int))) (some false) (jn ((some true)) (fun J5 => (F_clockworkref29_Same_L1 x1 x3 J5 (((((x1.Parts).length : Nat) : Int)).toNat + 1) ((0 : Int))))))

set_option maxRecDepth 100000 in
theorem W_clockworkref29_Same {V : View} (x1 : TPlacement) (x3 : TPlacement) {a2 : Option Addr} {k2 : Nat} {a4 : Option Addr} {k4 : Nat} (h2 : SlAt cTPart V a2 k2 x1.Parts) (h4 : SlAt cTPart V a4 k4 x3.Parts) {r : Bool} (hF : F_clockworkref29_Same x1 x3 = some r) :
    Spec Try.prog 17 [.agg ⟨[.int .i64 (x1.Version), .slice a2 ((x1.Parts).length) (k2)]⟩, .agg ⟨[.int .i64 (x3.Version), .slice a4 ((x3.Parts).length) (k4)]⟩] V (fun _ v => v = .bool (r)) := by
  unfold F_clockworkref29_Same at hF
  refine Spec.enter (T := tyT) Try.func17 rfl (by kernel_rfl) rfl rfl rfl ?_
  refine Exec.run tyOk 400 rfl ?_
  rcases cond_some hF with ⟨hb, hF⟩ | ⟨hb, hF⟩
  · skip
    refine Exec.ifT rfl hb ?_
    refine Exec.run tyOk 400 rfl ?_
    obtain rfl := some_inj hF
    exact Exec.ret tyOk rfl rfl rfl
  · skip
    refine Exec.ifF rfl hb ?_
    refine Exec.run tyOk 6 rfl ?_
    obtain ⟨J5, hJ5, hF⟩ := jn_some hF
    refine Exec.seam (fun L' V' M' => L' = [] ∧ M' = [] ∧ J5 = some r) rfl ?_ ?_
    · rintro L' V6 M' ⟨rfl, rfl, hF⟩
      subst hJ5
      refine Exec.run tyOk 400 rfl ?_
      obtain rfl := some_inj hF
      exact Exec.ret tyOk rfl rfl rfl
    · skip
      refine Exec.run tyOk 400 rfl ?_
      refine Exec.loop (fun n8 L' V' M' => ∃ (x7 : Int), L' = [(2, .ptr 0 0), (3, .ptr 1 0), (5, .v (.int .i64 (x7)))] ∧ M' = [.blk [.v (.int .i64 (x1.Version)), .v (.slice a2 ((x1.Parts).length) (k2))] 24, .blk [.v (.int .i64 (x3.Version)), .v (.slice a4 ((x3.Parts).length) (k4))] 24] ∧ SlAt cTPart V' a2 k2 x1.Parts ∧ SlAt cTPart V' a4 k4 x3.Parts ∧ F_clockworkref29_Same_L1 x1 x3 J5 n8 x7 = some r) ⟨(((((x1.Parts).length : Nat) : Int)).toNat + 1), [(2, .ptr 0 0), (3, .ptr 1 0), (5, .v (.int .i64 ((0 : Int))))], ⟨rfl, rfl, rfl, trivial⟩, (0 : Int), rfl, rfl, h2, h4, hF⟩ ?_
      rintro n8 L' V9 M' ⟨x7, rfl, rfl, h10, h11, hF⟩
      rcases n8 with _ | n8
      · exact absurd hF (by simp [F_clockworkref29_Same_L1])
      rw [F_clockworkref29_Same_L1] at hF
      refine Exec.run tyOk 400 rfl ?_
      rcases cond_some hF with ⟨hb, hF⟩ | ⟨hb, hF⟩
      · skip
        refine Exec.ifT rfl hb ?_
        refine Exec.run tyOk 400 rfl ?_
        refine Exec.draws tyOk [(0, true), (1, true), (2, true), (3, true), (4, true), (5, true), (6, true), (7, true), (8, true), (9, true), (10, true)] rfl (by kernel_rfl) ?_
        refine Exec.run tyOk 400 rfl ?_
        obtain ⟨q12, hF⟩ := req_some hF
        obtain ⟨c13, hr13, hd13⟩ := SlAt.get h10 q12
        obtain rfl := hr13
        refine Exec.fia tyOk rfl rfl rfl ⟨q12.1, q12.2, hd13.some⟩ ?_
        refine Exec.run tyOk 400 rfl ?_
        refine Exec.fld tyOk (x := .agg ⟨[.int .i64 ((atI x1.Parts x7).Id), .string ⟨⟨(atI x1.Parts x7).From⟩⟩, .int .i64 ((atI x1.Parts x7).Node), .int .i64 ((atI x1.Parts x7).Dest), .string ⟨⟨(atI x1.Parts x7).Done⟩⟩]⟩) rfl rfl rfl hd13 rfl rfl ?_
        refine Exec.run tyOk 400 rfl ?_
        obtain ⟨q14, hF⟩ := req_some hF
        obtain ⟨c15, hr15, hd15⟩ := SlAt.get h11 q14
        obtain rfl := hr15
        refine Exec.fia tyOk rfl rfl rfl ⟨q14.1, q14.2, hd15.some⟩ ?_
        refine Exec.run tyOk 400 rfl ?_
        refine Exec.fld tyOk (x := .agg ⟨[.int .i64 ((atI x3.Parts x7).Id), .string ⟨⟨(atI x3.Parts x7).From⟩⟩, .int .i64 ((atI x3.Parts x7).Node), .int .i64 ((atI x3.Parts x7).Dest), .string ⟨⟨(atI x3.Parts x7).Done⟩⟩]⟩) rfl rfl rfl hd15 rfl rfl ?_
        refine Exec.run tyOk 400 rfl ?_
        rcases cond_some hF with ⟨hb, hF⟩ | ⟨hb, hF⟩
        · skip
          refine Exec.ifT rfl hb ?_
          refine Exec.run tyOk 400 rfl ?_
          obtain rfl := some_inj hF
          exact Exec.ret tyOk rfl rfl rfl
        · skip
          refine Exec.ifF rfl hb ?_
          refine Exec.run tyOk 400 rfl ?_
          exact Exec.round [(2, .ptr 0 0), (3, .ptr 1 0), (5, .v (.int .i64 ((IntKind.i64.wrap (x7 + (1 : Int))))))] ⟨rfl, rfl, rfl, trivial⟩ ⟨n8, Nat.lt_succ_self _, (IntKind.i64.wrap (x7 + (1 : Int))), rfl, rfl, h10, h11, hF⟩
      · skip
        refine Exec.ifF rfl hb ?_
        refine Exec.run tyOk 400 rfl ?_
        refine Exec.cut 0 [] (M' := []) rfl trivial rfl rfl rfl ?_
        exact Exec.round [] trivial ⟨rfl, rfl, hF⟩

def F_clockworkref23_Ints_L1 (x1 : List Int) (x3 : List Int) (J5 : Option Bool) : Nat → Int → Option Bool
  | 0, _ => none
  | n8 + 1, x7 => (cond (decide (x7 < (((x1).length : Nat) : Int))) (req (0 ≤ x7 ∧ x7 < ((x1).length : Int)) (req (0 ≤ x7 ∧ x7 < ((x3).length : Int)) (cond ((atI x1 x7) != (atI x3 x7)) (some false) (F_clockworkref23_Ints_L1 x1 x3 J5 n8 ((IntKind.i64.wrap (x7 + (1 : Int)))))))) J5)

def F_clockworkref23_Ints (x1 : List Int) (x3 : List Int) : Option Bool :=
  (cond ((((x1).length : Nat) : Int) != (((x3).length : Nat) : Int)) (some false) (jn ((some true)) (fun J5 => (F_clockworkref23_Ints_L1 x1 x3 J5 (((((x1).length : Nat) : Int)).toNat + 1) ((0 : Int))))))

set_option maxRecDepth 100000 in
theorem W_clockworkref23_Ints {V : View} (x1 : List Int) (x3 : List Int) {a2 : Option Addr} {k2 : Nat} {a4 : Option Addr} {k4 : Nat} (h2 : SlAt (cInt .i64) V a2 k2 x1) (h4 : SlAt (cInt .i64) V a4 k4 x3) {r : Bool} (hF : F_clockworkref23_Ints x1 x3 = some r) :
    Spec Try.prog 24 [.slice a2 ((x1).length) (k2), .slice a4 ((x3).length) (k4)] V (fun _ v => v = .bool (r)) := by
  unfold F_clockworkref23_Ints at hF
  refine Spec.enter (T := tyT) Try.func24 rfl (by kernel_rfl) rfl rfl rfl ?_
  refine Exec.run tyOk 400 rfl ?_
  rcases cond_some hF with ⟨hb, hF⟩ | ⟨hb, hF⟩
  · skip
    refine Exec.ifT rfl hb ?_
    refine Exec.run tyOk 400 rfl ?_
    obtain rfl := some_inj hF
    exact Exec.ret tyOk rfl rfl rfl
  · skip
    refine Exec.ifF rfl hb ?_
    refine Exec.run tyOk 6 rfl ?_
    obtain ⟨J5, hJ5, hF⟩ := jn_some hF
    refine Exec.seam (fun L' V' M' => L' = [] ∧ M' = [] ∧ J5 = some r) rfl ?_ ?_
    · rintro L' V6 M' ⟨rfl, rfl, hF⟩
      subst hJ5
      refine Exec.run tyOk 400 rfl ?_
      obtain rfl := some_inj hF
      exact Exec.ret tyOk rfl rfl rfl
    · skip
      refine Exec.run tyOk 400 rfl ?_
      refine Exec.loop (fun n8 L' V' M' => ∃ (x7 : Int), L' = [(0, .v (.slice a2 ((x1).length) (k2))), (1, .v (.slice a4 ((x3).length) (k4))), (5, .v (.int .i64 (x7)))] ∧ M' = [] ∧ SlAt (cInt .i64) V' a2 k2 x1 ∧ SlAt (cInt .i64) V' a4 k4 x3 ∧ F_clockworkref23_Ints_L1 x1 x3 J5 n8 x7 = some r) ⟨(((((x1).length : Nat) : Int)).toNat + 1), [(0, .v (.slice a2 ((x1).length) (k2))), (1, .v (.slice a4 ((x3).length) (k4))), (5, .v (.int .i64 ((0 : Int))))], ⟨rfl, rfl, rfl, trivial⟩, (0 : Int), rfl, rfl, h2, h4, hF⟩ ?_
      rintro n8 L' V9 M' ⟨x7, rfl, rfl, h10, h11, hF⟩
      rcases n8 with _ | n8
      · exact absurd hF (by simp [F_clockworkref23_Ints_L1])
      rw [F_clockworkref23_Ints_L1] at hF
      refine Exec.run tyOk 400 rfl ?_
      rcases cond_some hF with ⟨hb, hF⟩ | ⟨hb, hF⟩
      · skip
        refine Exec.ifT rfl hb ?_
        refine Exec.run tyOk 400 rfl ?_
        refine Exec.draws tyOk [(0, true), (1, true), (2, true), (3, true), (4, true), (5, true), (6, true), (7, true), (8, true)] rfl (by kernel_rfl) ?_
        refine Exec.run tyOk 400 rfl ?_
        obtain ⟨q12, hF⟩ := req_some hF
        obtain ⟨c13, hr13, hd13⟩ := SlAt.get h10 q12
        obtain rfl := hr13
        refine Exec.fia tyOk rfl rfl rfl ⟨q12.1, q12.2, hd13.some⟩ ?_
        refine Exec.run tyOk 400 rfl ?_
        refine Exec.fld tyOk (x := .int .i64 ((atI x1 x7))) rfl rfl rfl hd13 rfl rfl ?_
        refine Exec.run tyOk 400 rfl ?_
        obtain ⟨q14, hF⟩ := req_some hF
        obtain ⟨c15, hr15, hd15⟩ := SlAt.get h11 q14
        obtain rfl := hr15
        refine Exec.fia tyOk rfl rfl rfl ⟨q14.1, q14.2, hd15.some⟩ ?_
        refine Exec.run tyOk 400 rfl ?_
        refine Exec.fld tyOk (x := .int .i64 ((atI x3 x7))) rfl rfl rfl hd15 rfl rfl ?_
        refine Exec.run tyOk 400 rfl ?_
        rcases cond_some hF with ⟨hb, hF⟩ | ⟨hb, hF⟩
        · skip
          refine Exec.ifT rfl hb ?_
          refine Exec.run tyOk 400 rfl ?_
          obtain rfl := some_inj hF
          exact Exec.ret tyOk rfl rfl rfl
        · skip
          refine Exec.ifF rfl hb ?_
          refine Exec.run tyOk 400 rfl ?_
          exact Exec.round [(0, .v (.slice a2 ((x1).length) (k2))), (1, .v (.slice a4 ((x3).length) (k4))), (5, .v (.int .i64 ((IntKind.i64.wrap (x7 + (1 : Int))))))] ⟨rfl, rfl, rfl, trivial⟩ ⟨n8, Nat.lt_succ_self _, (IntKind.i64.wrap (x7 + (1 : Int))), rfl, rfl, h10, h11, hF⟩
      · skip
        refine Exec.ifF rfl hb ?_
        refine Exec.run tyOk 400 rfl ?_
        exact Exec.round [] trivial ⟨rfl, rfl, hF⟩

def F_clockworkref29_Find_L1 (x1 : TPlacement) (x3 : Int) (J4 : Option Int) : Nat → Int → Option Int
  | 0, _ => none
  | n7 + 1, x6 => (cond (decide (x6 < (((x1.Parts).length : Nat) : Int))) (req (0 ≤ x6 ∧ x6 < ((x1.Parts).length : Int)) (cond ((atI x1.Parts x6).Id == x3) (some x6) (F_clockworkref29_Find_L1 x1 x3 J4 n7 ((IntKind.i64.wrap (x6 + (1 : Int))))))) J4)

def F_clockworkref29_Find (x1 : TPlacement) (x3 : Int) : Option Int :=
  (jn ((some (-1 : Int))) (fun J4 => (F_clockworkref29_Find_L1 x1 x3 J4 (((((x1.Parts).length : Nat) : Int)).toNat + 1) ((0 : Int)))))

set_option maxRecDepth 100000 in
theorem W_clockworkref29_Find {V : View} (x1 : TPlacement) (x3 : Int) {a2 : Option Addr} {k2 : Nat} (h2 : SlAt cTPart V a2 k2 x1.Parts) {r : Int} (hF : F_clockworkref29_Find x1 x3 = some r) :
    Spec Try.prog 31 [.agg ⟨[.int .i64 (x1.Version), .slice a2 ((x1.Parts).length) (k2)]⟩, .int .i64 (x3)] V (fun _ v => v = .int .i64 (r)) := by
  unfold F_clockworkref29_Find at hF
  refine Spec.enter (T := tyT) Try.func31 rfl (by kernel_rfl) rfl rfl rfl ?_
  refine Exec.run tyOk 10 rfl ?_
  obtain ⟨J4, hJ4, hF⟩ := jn_some hF
  refine Exec.seam (fun L' V' M' => L' = [] ∧ M' = [] ∧ J4 = some r) rfl ?_ ?_
  · rintro L' V5 M' ⟨rfl, rfl, hF⟩
    subst hJ4
    refine Exec.run tyOk 400 rfl ?_
    obtain rfl := some_inj hF
    exact Exec.ret tyOk rfl rfl rfl
  · skip
    refine Exec.run tyOk 400 rfl ?_
    refine Exec.loop (fun n7 L' V' M' => ∃ (x6 : Int), L' = [(1, .v (.int .i64 (x3))), (2, .ptr 0 0), (5, .v (.int .i64 (x6)))] ∧ M' = [.blk [.v (.int .i64 (x1.Version)), .v (.slice a2 ((x1.Parts).length) (k2))] 24] ∧ SlAt cTPart V' a2 k2 x1.Parts ∧ F_clockworkref29_Find_L1 x1 x3 J4 n7 x6 = some r) ⟨(((((x1.Parts).length : Nat) : Int)).toNat + 1), [(1, .v (.int .i64 (x3))), (2, .ptr 0 0), (5, .v (.int .i64 ((0 : Int))))], ⟨rfl, rfl, rfl, trivial⟩, (0 : Int), rfl, rfl, h2, hF⟩ ?_
    rintro n7 L' V8 M' ⟨x6, rfl, rfl, h9, hF⟩
    rcases n7 with _ | n7
    · exact absurd hF (by simp [F_clockworkref29_Find_L1])
    rw [F_clockworkref29_Find_L1] at hF
    refine Exec.run tyOk 400 rfl ?_
    rcases cond_some hF with ⟨hb, hF⟩ | ⟨hb, hF⟩
    · skip
      refine Exec.ifT rfl hb ?_
      refine Exec.run tyOk 400 rfl ?_
      obtain ⟨q10, hF⟩ := req_some hF
      obtain ⟨c11, hr11, hd11⟩ := SlAt.get h9 q10
      obtain rfl := hr11
      refine Exec.ia tyOk rfl rfl ⟨q10.1, q10.2, hd11.some⟩ ?_
      refine Exec.run tyOk 400 rfl ?_
      refine Exec.ld tyOk (x := .int .i64 ((atI x1.Parts x6).Id)) rfl rfl (RdAt.part hd11 0 1 rfl) rfl rfl ?_
      refine Exec.run tyOk 400 rfl ?_
      rcases cond_some hF with ⟨hb, hF⟩ | ⟨hb, hF⟩
      · skip
        refine Exec.ifT rfl hb ?_
        refine Exec.run tyOk 400 rfl ?_
        obtain rfl := some_inj hF
        exact Exec.ret tyOk rfl rfl rfl
      · skip
        refine Exec.ifF rfl hb ?_
        refine Exec.run tyOk 400 rfl ?_
        exact Exec.round [(1, .v (.int .i64 (x3))), (2, .ptr 0 0), (5, .v (.int .i64 ((IntKind.i64.wrap (x6 + (1 : Int))))))] ⟨rfl, rfl, rfl, trivial⟩ ⟨n7, Nat.lt_succ_self _, (IntKind.i64.wrap (x6 + (1 : Int))), rfl, rfl, h9, hF⟩
    · skip
      refine Exec.ifF rfl hb ?_
      refine Exec.run tyOk 400 rfl ?_
      refine Exec.cut 0 [] (M' := []) rfl trivial rfl rfl rfl ?_
      exact Exec.round [] trivial ⟨rfl, rfl, hF⟩

def F_placement_node (x1 : Int) : Option Bool :=
  (some ((decide ((1 : Int) ≤ x1)) && (decide (x1 ≤ (16 : Int)))))

set_option maxRecDepth 100000 in
theorem W_placement_node {V : View} (x1 : Int)   {r : Bool} (hF : F_placement_node x1 = some r) :
    Spec Try.prog 36 [.int .i64 (x1)] V (fun _ v => v = .bool (r)) := by
  unfold F_placement_node at hF
  refine Spec.enter (T := tyT) Try.func36 rfl (by kernel_rfl) rfl rfl rfl ?_
  refine Exec.run tyOk 400 rfl ?_
  obtain rfl := some_inj hF
  exact Exec.ret tyOk rfl rfl rfl

def F_placement_bound_L1 (x1 : Str) (J2 : Option Bool) : Nat → Int → Option Bool
  | 0, _ => none
  | n5 + 1, x4 => (cond (decide (x4 < ((x1).length : Int))) (req (0 ≤ x4 ∧ x4 < ((x1).length : Int)) (req ((((decide ((byteAt x1 (x4).toNat) < (33 : Int)))) == false) = true → 0 ≤ x4 ∧ x4 < ((x1).length : Int)) (cond ((decide ((byteAt x1 (x4).toNat) < (33 : Int))) || (decide ((126 : Int) < (byteAt x1 (x4).toNat)))) (some false) (F_placement_bound_L1 x1 J2 n5 ((IntKind.i64.wrap (x4 + (1 : Int)))))))) J2)

def F_placement_bound (x1 : Str) : Option Bool :=
  (jn ((some (decide (((x1).length : Int) ≤ (24 : Int))))) (fun J2 => (F_placement_bound_L1 x1 J2 ((((x1).length : Int)).toNat + 1) ((0 : Int)))))

set_option maxRecDepth 100000 in
theorem W_placement_bound {V : View} (x1 : Str)   {r : Bool} (hF : F_placement_bound x1 = some r) :
    Spec Try.prog 37 [.string ⟨⟨x1⟩⟩] V (fun _ v => v = .bool (r)) := by
  unfold F_placement_bound at hF
  refine Spec.enter (T := tyT) Try.func37 rfl (by kernel_rfl) rfl rfl rfl ?_
  refine Exec.run tyOk 9 rfl ?_
  obtain ⟨J2, hJ2, hF⟩ := jn_some hF
  refine Exec.seam (fun L' V' M' => L' = [(0, .v (.string ⟨⟨x1⟩⟩))] ∧ M' = [] ∧ J2 = some r) rfl ?_ ?_
  · rintro L' V3 M' ⟨rfl, rfl, hF⟩
    subst hJ2
    refine Exec.run tyOk 400 rfl ?_
    obtain rfl := some_inj hF
    exact Exec.ret tyOk rfl rfl rfl
  · skip
    refine Exec.run tyOk 400 rfl ?_
    refine Exec.loop (fun n5 L' V' M' => ∃ (x4 : Int), L' = [(0, .v (.string ⟨⟨x1⟩⟩)), (3, .v (.int .i64 (x4)))] ∧ M' = [] ∧ F_placement_bound_L1 x1 J2 n5 x4 = some r) ⟨((((x1).length : Int)).toNat + 1), [(0, .v (.string ⟨⟨x1⟩⟩)), (3, .v (.int .i64 ((0 : Int))))], ⟨rfl, rfl, trivial⟩, (0 : Int), rfl, rfl, hF⟩ ?_
    rintro n5 L' V6 M' ⟨x4, rfl, rfl, hF⟩
    rcases n5 with _ | n5
    · exact absurd hF (by simp [F_placement_bound_L1])
    rw [F_placement_bound_L1] at hF
    refine Exec.run tyOk 400 rfl ?_
    rcases cond_some hF with ⟨hb, hF⟩ | ⟨hb, hF⟩
    · skip
      refine Exec.ifT rfl hb ?_
      refine Exec.run tyOk 400 rfl ?_
      obtain ⟨q7, hF⟩ := req_some hF
      refine Exec.idx tyOk rfl rfl q7 ?_
      refine Exec.run tyOk 400 rfl ?_
      obtain ⟨q8, hF⟩ := req_some hF
      refine Exec.idx tyOk rfl rfl (fun gg0 => q8 (gd1_of gg0)) ?_
      refine Exec.run tyOk 400 rfl ?_
      rcases cond_some hF with ⟨hb, hF⟩ | ⟨hb, hF⟩
      · skip
        refine Exec.ifT rfl hb ?_
        refine Exec.run tyOk 400 rfl ?_
        obtain rfl := some_inj hF
        exact Exec.ret tyOk rfl rfl rfl
      · skip
        refine Exec.ifF rfl hb ?_
        refine Exec.run tyOk 400 rfl ?_
        exact Exec.round [(0, .v (.string ⟨⟨x1⟩⟩)), (3, .v (.int .i64 ((IntKind.i64.wrap (x4 + (1 : Int))))))] ⟨rfl, rfl, trivial⟩ ⟨n5, Nat.lt_succ_self _, (IntKind.i64.wrap (x4 + (1 : Int))), rfl, rfl, hF⟩
    · skip
      refine Exec.ifF rfl hb ?_
      refine Exec.run tyOk 400 rfl ?_
      exact Exec.round [(0, .v (.string ⟨⟨x1⟩⟩))] ⟨rfl, trivial⟩ ⟨rfl, rfl, hF⟩

def F_placement_number (x1 : Int) : Option Bool :=
  (some ((decide ((1 : Int) ≤ x1)) && (decide (x1 ≤ (1099511627776 : Int)))))

set_option maxRecDepth 100000 in
theorem W_placement_number {V : View} (x1 : Int)   {r : Bool} (hF : F_placement_number x1 = some r) :
    Spec Try.prog 38 [.int .i64 (x1)] V (fun _ v => v = .bool (r)) := by
  unfold F_placement_number at hF
  refine Spec.enter (T := tyT) Try.func38 rfl (by kernel_rfl) rfl rfl rfl ?_
  refine Exec.run tyOk 400 rfl ?_
  obtain rfl := some_inj hF
  exact Exec.ret tyOk rfl rfl rfl

def F_placement_validMove (x1 : List TPart) (x3 : Int) : Option Bool :=
  (req (0 ≤ x3 ∧ x3 < ((x1).length : Int)) (cond ((atI x1 x3).Dest == (0 : Int)) (some ((atI x1 x3).Done == ([] : Str))) (bnd (F_placement_node ((atI x1 x3).Dest)) fun x6 => (bnd (gcall (((x6 && ((atI x1 x3).Dest != (atI x1 x3).Node))) == true) (F_placement_bound ((atI x1 x3).Done))) fun x7 => (req ((((((IntKind.i64.wrap (x3 + (1 : Int))) == (((x1).length : Nat) : Int))) == false) && (((((x6 && ((atI x1 x3).Dest != (atI x1 x3).Node)) && x7) && (!sLt (atI x1 x3).Done (atI x1 x3).From))) == true)) = true → 0 ≤ (IntKind.i64.wrap (x3 + (1 : Int))) ∧ (IntKind.i64.wrap (x3 + (1 : Int))) < ((x1).length : Int)) (some ((((x6 && ((atI x1 x3).Dest != (atI x1 x3).Node)) && x7) && (!sLt (atI x1 x3).Done (atI x1 x3).From)) && (((IntKind.i64.wrap (x3 + (1 : Int))) == (((x1).length : Nat) : Int)) || (sLt (atI x1 x3).Done (cond (((((IntKind.i64.wrap (x3 + (1 : Int))) == (((x1).length : Nat) : Int))) == false) && (((((x6 && ((atI x1 x3).Dest != (atI x1 x3).Node)) && x7) && (!sLt (atI x1 x3).Done (atI x1 x3).From))) == true)) (atI x1 ((IntKind.i64.wrap (x3 + (1 : Int))))) default).From)))))))))

set_option maxRecDepth 100000 in
theorem W_placement_validMove {V : View} (x1 : List TPart) (x3 : Int) {a2 : Option Addr} {k2 : Nat} (h2 : SlAt cTPart V a2 k2 x1) {r : Bool} (hF : F_placement_validMove x1 x3 = some r) :
    Spec Try.prog 39 [.slice a2 ((x1).length) (k2), .int .i64 (x3)] V (fun _ v => v = .bool (r)) := by
  unfold F_placement_validMove at hF
  refine Spec.enter (T := tyT) Try.func39 rfl (by kernel_rfl) rfl rfl rfl ?_
  refine Exec.run tyOk 400 rfl ?_
  obtain ⟨q4, hF⟩ := req_some hF
  obtain ⟨c5, hr5, hd5⟩ := SlAt.get h2 q4
  obtain rfl := hr5
  refine Exec.ia tyOk rfl rfl ⟨q4.1, q4.2, hd5.some⟩ ?_
  refine Exec.run tyOk 400 rfl ?_
  refine Exec.ld tyOk (x := .agg ⟨[.int .i64 ((atI x1 x3).Id), .string ⟨⟨(atI x1 x3).From⟩⟩, .int .i64 ((atI x1 x3).Node), .int .i64 ((atI x1 x3).Dest), .string ⟨⟨(atI x1 x3).Done⟩⟩]⟩) rfl rfl hd5 rfl rfl ?_
  refine Exec.run tyOk 400 rfl ?_
  rcases cond_some hF with ⟨hb, hF⟩ | ⟨hb, hF⟩
  · skip
    refine Exec.ifT rfl hb ?_
    refine Exec.run tyOk 400 rfl ?_
    obtain rfl := some_inj hF
    exact Exec.ret tyOk rfl rfl rfl
  · skip
    refine Exec.ifF rfl hb ?_
    refine Exec.run tyOk 400 rfl ?_
    refine Exec.draws tyOk [(0, true), (1, true), (2, false), (3, false), (4, true), (5, true), (6, false), (7, false), (8, false), (9, false), (10, false), (11, false), (12, false), (13, false), (14, false), (15, false), (16, true), (17, true), (18, false), (19, false), (20, false), (21, false), (22, false), (23, true), (24, true), (25, false), (26, false), (27, false), (28, false), (29, true), (30, true), (31, true), (32, false), (33, false), (34, false), (35, false), (36, false), (37, false), (38, false), (39, false), (40, false)] rfl (by kernel_rfl) ?_
    refine Exec.run tyOk 400 rfl ?_
    obtain ⟨x6, hx6, hF⟩ := bnd_some hF
    refine Exec.callS (.bool (x6)) rfl rfl (W_placement_node ((atI x1 x3).Dest)  hx6) ?_
    refine Exec.run tyOk 400 rfl ?_
    obtain ⟨x7, hx7, hF⟩ := bnd_some hF
    refine Exec.callS (.bool (x7)) rfl rfl (fun gg0 => W_placement_bound ((atI x1 x3).Done)  (gcall_some hx7 (gd1_of gg0))) ?_
    refine Exec.run tyOk 400 rfl ?_
    obtain ⟨q8, hF⟩ := req_some hF
    obtain ⟨c9, hr9, hd9⟩ := SlAt.gget (((((IntKind.i64.wrap (x3 + (1 : Int))) == (((x1).length : Nat) : Int))) == false) && (((((x6 && ((atI x1 x3).Dest != (atI x1 x3).Node)) && x7) && (!sLt (atI x1 x3).Done (atI x1 x3).From))) == true)) h2 q8
    obtain rfl := hr9
    refine Exec.ia tyOk rfl rfl (fun gg0 gg1 => ⟨(q8 (gd2_of gg0 gg1)).1, (q8 (gd2_of gg0 gg1)).2, (hd9 (gd2_of gg0 gg1)).some⟩) ?_
    refine Exec.run tyOk 400 rfl ?_
    refine Exec.ld tyOk (x := .string ⟨⟨(cond (((((IntKind.i64.wrap (x3 + (1 : Int))) == (((x1).length : Nat) : Int))) == false) && (((((x6 && ((atI x1 x3).Dest != (atI x1 x3).Node)) && x7) && (!sLt (atI x1 x3).Done (atI x1 x3).From))) == true)) (atI x1 ((IntKind.i64.wrap (x3 + (1 : Int))))) default).From⟩⟩) rfl rfl (fun gg0 gg1 => (RdAt.part (hd9 (gd2_of gg0 gg1)) 1 1 rfl)) rfl rfl ?_
    refine Exec.run tyOk 400 rfl ?_
    obtain rfl := some_inj hF
    exact Exec.ret tyOk rfl rfl rfl

def F_clockworkref29_Bound_L1 (x1 : Str) (J2 : Option Bool) : Nat → Int → Option Bool
  | 0, _ => none
  | n5 + 1, x4 => (cond (decide (x4 < ((x1).length : Int))) (req (0 ≤ x4 ∧ x4 < ((x1).length : Int)) (req ((((decide ((byteAt x1 (x4).toNat) < (33 : Int)))) == false) = true → 0 ≤ x4 ∧ x4 < ((x1).length : Int)) (cond ((decide ((byteAt x1 (x4).toNat) < (33 : Int))) || (decide ((126 : Int) < (byteAt x1 (x4).toNat)))) (some false) (F_clockworkref29_Bound_L1 x1 J2 n5 ((IntKind.i64.wrap (x4 + (1 : Int)))))))) J2)

def F_clockworkref29_Bound (x1 : Str) : Option Bool :=
  (cond (decide ((24 : Int) < ((x1).length : Int))) (some false) (jn ((some true)) (fun J2 => (F_clockworkref29_Bound_L1 x1 J2 ((((x1).length : Int)).toNat + 1) ((0 : Int))))))

set_option maxRecDepth 100000 in
theorem W_clockworkref29_Bound {V : View} (x1 : Str)   {r : Bool} (hF : F_clockworkref29_Bound x1 = some r) :
    Spec Try.prog 41 [.string ⟨⟨x1⟩⟩] V (fun _ v => v = .bool (r)) := by
  unfold F_clockworkref29_Bound at hF
  refine Spec.enter (T := tyT) Try.func41 rfl (by kernel_rfl) rfl rfl rfl ?_
  refine Exec.run tyOk 400 rfl ?_
  rcases cond_some hF with ⟨hb, hF⟩ | ⟨hb, hF⟩
  · skip
    refine Exec.ifT rfl hb ?_
    refine Exec.run tyOk 400 rfl ?_
    obtain rfl := some_inj hF
    exact Exec.ret tyOk rfl rfl rfl
  · skip
    refine Exec.ifF rfl hb ?_
    refine Exec.run tyOk 6 rfl ?_
    obtain ⟨J2, hJ2, hF⟩ := jn_some hF
    refine Exec.seam (fun L' V' M' => L' = [] ∧ M' = [] ∧ J2 = some r) rfl ?_ ?_
    · rintro L' V3 M' ⟨rfl, rfl, hF⟩
      subst hJ2
      refine Exec.run tyOk 400 rfl ?_
      obtain rfl := some_inj hF
      exact Exec.ret tyOk rfl rfl rfl
    · skip
      refine Exec.run tyOk 400 rfl ?_
      refine Exec.loop (fun n5 L' V' M' => ∃ (x4 : Int), L' = [(0, .v (.string ⟨⟨x1⟩⟩)), (3, .v (.int .i64 (x4)))] ∧ M' = [] ∧ F_clockworkref29_Bound_L1 x1 J2 n5 x4 = some r) ⟨((((x1).length : Int)).toNat + 1), [(0, .v (.string ⟨⟨x1⟩⟩)), (3, .v (.int .i64 ((0 : Int))))], ⟨rfl, rfl, trivial⟩, (0 : Int), rfl, rfl, hF⟩ ?_
      rintro n5 L' V6 M' ⟨x4, rfl, rfl, hF⟩
      rcases n5 with _ | n5
      · exact absurd hF (by simp [F_clockworkref29_Bound_L1])
      rw [F_clockworkref29_Bound_L1] at hF
      refine Exec.run tyOk 400 rfl ?_
      rcases cond_some hF with ⟨hb, hF⟩ | ⟨hb, hF⟩
      · skip
        refine Exec.ifT rfl hb ?_
        refine Exec.run tyOk 400 rfl ?_
        obtain ⟨q7, hF⟩ := req_some hF
        refine Exec.idx tyOk rfl rfl q7 ?_
        refine Exec.run tyOk 400 rfl ?_
        obtain ⟨q8, hF⟩ := req_some hF
        refine Exec.idx tyOk rfl rfl (fun gg0 => q8 (gd1_of gg0)) ?_
        refine Exec.run tyOk 400 rfl ?_
        rcases cond_some hF with ⟨hb, hF⟩ | ⟨hb, hF⟩
        · skip
          refine Exec.ifT rfl hb ?_
          refine Exec.run tyOk 400 rfl ?_
          obtain rfl := some_inj hF
          exact Exec.ret tyOk rfl rfl rfl
        · skip
          refine Exec.ifF rfl hb ?_
          refine Exec.run tyOk 400 rfl ?_
          exact Exec.round [(0, .v (.string ⟨⟨x1⟩⟩)), (3, .v (.int .i64 ((IntKind.i64.wrap (x4 + (1 : Int))))))] ⟨rfl, rfl, trivial⟩ ⟨n5, Nat.lt_succ_self _, (IntKind.i64.wrap (x4 + (1 : Int))), rfl, rfl, hF⟩
      · skip
        refine Exec.ifF rfl hb ?_
        refine Exec.run tyOk 400 rfl ?_
        exact Exec.round [] trivial ⟨rfl, rfl, hF⟩

def F_clockworkref29_moves (x1 : TPart) (x2 : Str) (x3 : Bool) : Option Bool :=
  (cond (x1.Dest == (0 : Int)) (some (x1.Done == ([] : Str))) (bnd (gcall (((((decide ((1 : Int) ≤ x1.Dest)) && (decide (x1.Dest ≤ (16 : Int)))) && (x1.Dest != x1.Node))) == true) (F_clockworkref29_Bound x1.Done)) fun x4 => (some ((((((decide ((1 : Int) ≤ x1.Dest)) && (decide (x1.Dest ≤ (16 : Int)))) && (x1.Dest != x1.Node)) && x4) && (!sLt x1.Done x1.From)) && (x3 || (sLt x1.Done x2))))))

set_option maxRecDepth 100000 in
theorem W_clockworkref29_moves {V : View} (x1 : TPart) (x2 : Str) (x3 : Bool)   {r : Bool} (hF : F_clockworkref29_moves x1 x2 x3 = some r) :
    Spec Try.prog 42 [.agg ⟨[.int .i64 (x1.Id), .string ⟨⟨x1.From⟩⟩, .int .i64 (x1.Node), .int .i64 (x1.Dest), .string ⟨⟨x1.Done⟩⟩]⟩, .string ⟨⟨x2⟩⟩, .bool (x3)] V (fun _ v => v = .bool (r)) := by
  unfold F_clockworkref29_moves at hF
  refine Spec.enter (T := tyT) Try.func42 rfl (by kernel_rfl) rfl rfl rfl ?_
  refine Exec.run tyOk 400 rfl ?_
  rcases cond_some hF with ⟨hb, hF⟩ | ⟨hb, hF⟩
  · skip
    refine Exec.ifT rfl hb ?_
    refine Exec.run tyOk 400 rfl ?_
    obtain rfl := some_inj hF
    exact Exec.ret tyOk rfl rfl rfl
  · skip
    refine Exec.ifF rfl hb ?_
    refine Exec.run tyOk 400 rfl ?_
    obtain ⟨x4, hx4, hF⟩ := bnd_some hF
    refine Exec.callS (.bool (x4)) rfl rfl (fun gg0 => W_clockworkref29_Bound x1.Done  (gcall_some hx4 (gd1_of gg0))) ?_
    refine Exec.run tyOk 400 rfl ?_
    obtain rfl := some_inj hF
    exact Exec.ret tyOk rfl rfl rfl

def F_clockworkref29_end (x1 : TPlacement) (x3 : Int) : Option Str :=
  (cond (decide ((IntKind.i64.wrap (x3 + (1 : Int))) < (((x1.Parts).length : Nat) : Int))) (req (0 ≤ (IntKind.i64.wrap (x3 + (1 : Int))) ∧ (IntKind.i64.wrap (x3 + (1 : Int))) < ((x1.Parts).length : Int)) (some (atI x1.Parts ((IntKind.i64.wrap (x3 + (1 : Int))))).From)) (some ([] : Str)))

set_option maxRecDepth 100000 in
theorem W_clockworkref29_end {V : View} (x1 : TPlacement) (x3 : Int) {a2 : Option Addr} {k2 : Nat} (h2 : SlAt cTPart V a2 k2 x1.Parts) {r : Str} (hF : F_clockworkref29_end x1 x3 = some r) :
    Spec Try.prog 43 [.agg ⟨[.int .i64 (x1.Version), .slice a2 ((x1.Parts).length) (k2)]⟩, .int .i64 (x3)] V (fun _ v => v = .string ⟨⟨r⟩⟩) := by
  unfold F_clockworkref29_end at hF
  refine Spec.enter (T := tyT) Try.func43 rfl (by kernel_rfl) rfl rfl rfl ?_
  refine Exec.run tyOk 400 rfl ?_
  rcases cond_some hF with ⟨hb, hF⟩ | ⟨hb, hF⟩
  · skip
    refine Exec.ifT rfl hb ?_
    refine Exec.run tyOk 400 rfl ?_
    obtain ⟨q4, hF⟩ := req_some hF
    obtain ⟨c5, hr5, hd5⟩ := SlAt.get h2 q4
    obtain rfl := hr5
    refine Exec.ia tyOk rfl rfl ⟨q4.1, q4.2, hd5.some⟩ ?_
    refine Exec.run tyOk 400 rfl ?_
    refine Exec.ld tyOk (x := .string ⟨⟨(atI x1.Parts ((IntKind.i64.wrap (x3 + (1 : Int))))).From⟩⟩) rfl rfl (RdAt.part hd5 1 1 rfl) rfl rfl ?_
    refine Exec.run tyOk 400 rfl ?_
    obtain rfl := some_inj hF
    exact Exec.ret tyOk rfl rfl rfl
  · skip
    refine Exec.ifF rfl hb ?_
    refine Exec.run tyOk 400 rfl ?_
    obtain rfl := some_inj hF
    exact Exec.ret tyOk rfl rfl rfl

end Go.Proofs.Ytdkakeiccefbgaa
