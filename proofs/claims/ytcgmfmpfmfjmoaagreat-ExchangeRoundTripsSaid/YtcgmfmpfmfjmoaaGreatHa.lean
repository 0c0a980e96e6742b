/-
  Functions of the program as their counterparts say them (printed by a program).
  Conditions: none.
-/
import Derived.Test.YtcgmfmpfmfjmoaaGreatMf
import Derived.Test.YtcgmfmpfmfjmoaaGreatSh
import Derived.Test.YtcgmfmpfmfjmoaaGreatTy
set_option linter.all false
namespace Go.Proofs.YtcgmfmpfmfjmoaaGreat

structure TPart where
  Id : Int
  From : Str
  Node : Int
  Dest : Int
  Done : Str
instance : Inhabited TPart := ⟨⟨default, default, default, default, default⟩⟩
def cTPart : Cd TPart where
  sz := 5
  rep _ s cs := cs = [.int .i64 (s.Id), .string ⟨⟨s.From⟩⟩, .int .i64 (s.Node), .int .i64 (s.Dest), .string ⟨⟨s.Done⟩⟩]
  len h := by subst h; rfl
  mono _ h := h
  one h := by subst h; intro u hu; simp only [List.mem_cons, List.not_mem_nil, or_false] at hu; rcases hu with rfl | rfl | rfl | rfl | rfl <;> rfl
  pos := by omega
  dflt := ⟨_, fun _ => rfl⟩

structure TPlacement where
  Version : Int
  Parts : List TPart
instance : Inhabited TPlacement := ⟨⟨default, default⟩⟩
def cTPlacement : Cd TPlacement where
  sz := 2
  rep V s cs := ∃ (a1 : Option Addr) (k1 : Nat), cs = [.int .i64 (s.Version), .slice a1 ((s.Parts).length) (k1)] ∧ SlAt cTPart V a1 k1 s.Parts
  len h := by obtain ⟨a1, k1, rfl, _⟩ := h; rfl
  mono hv h := by
    obtain ⟨a1, k1, rfl, h1⟩ := h
    exact ⟨a1, k1, rfl, h1.mono hv⟩
  one h := by obtain ⟨a1, k1, rfl, _⟩ := h; intro u hu; simp only [List.mem_cons, List.not_mem_nil, or_false] at hu; rcases hu with rfl | rfl <;> rfl
  pos := by omega
  dflt := ⟨[.int .i64 (0), .slice none (0) (0)], fun _ => ⟨none, 0, rfl, SlAt.nil⟩⟩

structure TFootprint where
  All : Bool
  Reads : List Str
  Writes : List Str
instance : Inhabited TFootprint := ⟨⟨default, default, default⟩⟩
def cTFootprint : Cd TFootprint where
  sz := 3
  rep V s cs := ∃ (a1 : Option Addr) (k1 : Nat) (a2 : Option Addr) (k2 : Nat), cs = [.bool (s.All), .slice a1 ((s.Reads).length) (k1), .slice a2 ((s.Writes).length) (k2)] ∧ SlAt cStr V a1 k1 s.Reads ∧ SlAt cStr V a2 k2 s.Writes
  len h := by obtain ⟨a1, k1, a2, k2, rfl, _, _⟩ := h; rfl
  mono hv h := by
    obtain ⟨a1, k1, a2, k2, rfl, h1, h2⟩ := h
    exact ⟨a1, k1, a2, k2, rfl, h1.mono hv, h2.mono hv⟩
  one h := by obtain ⟨a1, k1, a2, k2, rfl, _, _⟩ := h; intro u hu; simp only [List.mem_cons, List.not_mem_nil, or_false] at hu; rcases hu with rfl | rfl | rfl <;> rfl
  pos := by omega
  dflt := ⟨[.bool (false), .slice none (0) (0), .slice none (0) (0)], fun _ => ⟨none, 0, none, 0, rfl, SlAt.nil, SlAt.nil⟩⟩

structure TValue where
  Kind : Int
  N : Int
  S : Str
instance : Inhabited TValue := ⟨⟨default, default, default⟩⟩
def cTValue : Cd TValue where
  sz := 3
  rep _ s cs := cs = [.int .i64 (s.Kind), .int .i64 (s.N), .string ⟨⟨s.S⟩⟩]
  len h := by subst h; rfl
  mono _ h := h
  one h := by subst h; intro u hu; simp only [List.mem_cons, List.not_mem_nil, or_false] at hu; rcases hu with rfl | rfl | rfl <;> rfl
  pos := by omega
  dflt := ⟨_, fun _ => rfl⟩

structure TPair where
  Key : Str
  Val : TValue
instance : Inhabited TPair := ⟨⟨default, default⟩⟩
def cTPair : Cd TPair where
  sz := 4
  rep _ s cs := cs = [.string ⟨⟨s.Key⟩⟩, .int .i64 (s.Val.Kind), .int .i64 (s.Val.N), .string ⟨⟨s.Val.S⟩⟩]
  len h := by subst h; rfl
  mono _ h := h
  one h := by subst h; intro u hu; simp only [List.mem_cons, List.not_mem_nil, or_false] at hu; rcases hu with rfl | rfl | rfl | rfl <;> rfl
  pos := by omega
  dflt := ⟨_, fun _ => rfl⟩

structure TShard where
  Node : Int
  Pairs : List TPair
instance : Inhabited TShard := ⟨⟨default, default⟩⟩
def cTShard : Cd TShard where
  sz := 2
  rep V s cs := ∃ (a1 : Option Addr) (k1 : Nat), cs = [.int .i64 (s.Node), .slice a1 ((s.Pairs).length) (k1)] ∧ SlAt cTPair V a1 k1 s.Pairs
  len h := by obtain ⟨a1, k1, rfl, _⟩ := h; rfl
  mono hv h := by
    obtain ⟨a1, k1, rfl, h1⟩ := h
    exact ⟨a1, k1, rfl, h1.mono hv⟩
  one h := by obtain ⟨a1, k1, rfl, _⟩ := h; intro u hu; simp only [List.mem_cons, List.not_mem_nil, or_false] at hu; rcases hu with rfl | rfl <;> rfl
  pos := by omega
  dflt := ⟨[.int .i64 (0), .slice none (0) (0)], fun _ => ⟨none, 0, rfl, SlAt.nil⟩⟩

structure TMail where
  Txn : Int
  From : Int
  To : Int
  Keys : List Str
  Pairs : List TPair
instance : Inhabited TMail := ⟨⟨default, default, default, default, default⟩⟩
def cTMail : Cd TMail where
  sz := 5
  rep V s cs := ∃ (a1 : Option Addr) (k1 : Nat) (a2 : Option Addr) (k2 : Nat), cs = [.int .i64 (s.Txn), .int .i64 (s.From), .int .i64 (s.To), .slice a1 ((s.Keys).length) (k1), .slice a2 ((s.Pairs).length) (k2)] ∧ SlAt cStr V a1 k1 s.Keys ∧ SlAt cTPair V a2 k2 s.Pairs
  len h := by obtain ⟨a1, k1, a2, k2, rfl, _, _⟩ := h; rfl
  mono hv h := by
    obtain ⟨a1, k1, a2, k2, rfl, h1, h2⟩ := h
    exact ⟨a1, k1, a2, k2, rfl, h1.mono hv, h2.mono hv⟩
  one h := by obtain ⟨a1, k1, a2, k2, rfl, _, _⟩ := h; intro u hu; simp only [List.mem_cons, List.not_mem_nil, or_false] at hu; rcases hu with rfl | rfl | rfl | rfl | rfl <;> rfl
  pos := by omega
  dflt := ⟨[.int .i64 (0), .int .i64 (0), .int .i64 (0), .slice none (0) (0), .slice none (0) (0)], fun _ => ⟨none, 0, none, 0, rfl, SlAt.nil, SlAt.nil⟩⟩

def F_clockworkref31_Few_L1 (x1 : List TPair) (x3 : Int) (J4 : Option Bool) : Nat → Int → Option Bool
  | 0, _ => none
  | n8 + 1, x7 => (cond ((decide (x7 < (((x1).length : Nat) : Int))) && (decide (x7 ≤ x3))) (req (0 ≤ x7 ∧ x7 < ((x1).length : Int)) (req ((((decide ((100 : Int) < (((atI x1 x7).Key).length : Int)))) == false) = true → 0 ≤ x7 ∧ x7 < ((x1).length : Int)) (cond ((decide ((100 : Int) < (((atI x1 x7).Key).length : Int))) || (decide ((100 : Int) < (((cond (((decide ((100 : Int) < (((atI x1 x7).Key).length : Int)))) == false) (atI x1 x7) default).Val.S).length : Int)))) (some false) (F_clockworkref31_Few_L1 x1 x3 J4 n8 ((IntKind.i64.wrap (x7 + (1 : Int)))))))) J4)

def F_clockworkref31_Few (x1 : List TPair) (x3 : Int) : Option Bool :=
  (jn ((some (decide ((((x1).length : Nat) : Int) ≤ x3)))) (fun J4 => (F_clockworkref31_Few_L1 x1 x3 J4 (1000000 : Nat) ((0 : Int)))))

set_option maxRecDepth 100000 in
theorem W_clockworkref31_Few {V : View} (x1 : List TPair) (x3 : Int) {a2 : Option Addr} {k2 : Nat} (h2 : SlAt cTPair V a2 k2 x1) {r : Bool} (hF : F_clockworkref31_Few x1 x3 = some r) :
    Spec Tryz.prog 10 [.slice a2 ((x1).length) (k2), .int .i64 (x3)] V (fun _ v => v = .bool (r)) := by
  unfold F_clockworkref31_Few at hF
  refine Spec.enter (T := tyT) Tryz.func10 rfl (by kernel_rfl) rfl rfl rfl ?_
  refine Exec.run tyOk 9 rfl ?_
  obtain ⟨J4, hJ4, hF⟩ := jn_some hF
  refine Exec.seam (fun L' V' M' => L' = [(0, .v (.slice a2 ((x1).length) (k2))), (1, .v (.int .i64 (x3)))] ∧ M' = [] ∧ SlAt cTPair V' a2 k2 x1 ∧ J4 = some r) rfl ?_ ?_
  · rintro L' V5 M' ⟨rfl, rfl, h6, hF⟩
    subst hJ4
    refine Exec.run tyOk 400 rfl ?_
    obtain rfl := some_inj hF
    exact Exec.ret tyOk rfl rfl rfl
  · skip
    refine Exec.run tyOk 400 rfl ?_
    refine Exec.loop (fun n8 L' V' M' => ∃ (x7 : Int), L' = [(0, .v (.slice a2 ((x1).length) (k2))), (1, .v (.int .i64 (x3))), (5, .v (.int .i64 (x7)))] ∧ M' = [] ∧ SlAt cTPair V' a2 k2 x1 ∧ F_clockworkref31_Few_L1 x1 x3 J4 n8 x7 = some r) ⟨(1000000 : Nat), [(0, .v (.slice a2 ((x1).length) (k2))), (1, .v (.int .i64 (x3))), (5, .v (.int .i64 ((0 : Int))))], ⟨rfl, rfl, rfl, trivial⟩, (0 : Int), rfl, rfl, h2, hF⟩ ?_
    rintro n8 L' V9 M' ⟨x7, rfl, rfl, h10, hF⟩
    rcases n8 with _ | n8
    · exact absurd hF (by simp [F_clockworkref31_Few_L1])
    rw [F_clockworkref31_Few_L1] at hF
    refine Exec.run tyOk 400 rfl ?_
    rcases cond_some hF with ⟨hb, hF⟩ | ⟨hb, hF⟩
    · skip
      refine Exec.ifT rfl hb ?_
      refine Exec.run tyOk 400 rfl ?_
      obtain ⟨q11, hF⟩ := req_some hF
      obtain ⟨c12, hr12, hd12⟩ := SlAt.get h10 q11
      obtain rfl := hr12
      refine Exec.ia tyOk rfl rfl ⟨q11.1, q11.2, hd12.some⟩ ?_
      refine Exec.run tyOk 400 rfl ?_
      refine Exec.ld tyOk (x := .string ⟨⟨(atI x1 x7).Key⟩⟩) rfl rfl (RdAt.part hd12 0 1 rfl) rfl rfl ?_
      refine Exec.run tyOk 400 rfl ?_
      obtain ⟨q13, hF⟩ := req_some hF
      obtain ⟨c14, hr14, hd14⟩ := SlAt.gget (((decide ((100 : Int) < (((atI x1 x7).Key).length : Int)))) == false) h10 q13
      obtain rfl := hr14
      refine Exec.ia tyOk rfl rfl (fun gg0 => ⟨(q13 (gd1_of gg0)).1, (q13 (gd1_of gg0)).2, (hd14 (gd1_of gg0)).some⟩) ?_
      refine Exec.run tyOk 400 rfl ?_
      refine Exec.ld tyOk (x := .string ⟨⟨(cond (((decide ((100 : Int) < (((atI x1 x7).Key).length : Int)))) == false) (atI x1 x7) default).Val.S⟩⟩) rfl rfl (fun gg0 => (RdAt.part (hd14 (gd1_of gg0)) 3 1 rfl)) rfl rfl ?_
      refine Exec.run tyOk 400 rfl ?_
      rcases cond_some hF with ⟨hb, hF⟩ | ⟨hb, hF⟩
      · skip
        refine Exec.ifT rfl hb ?_
        refine Exec.run tyOk 400 rfl ?_
        obtain rfl := some_inj hF
        exact Exec.ret tyOk rfl rfl rfl
      · skip
        refine Exec.ifF rfl hb ?_
        refine Exec.run tyOk 400 rfl ?_
        exact Exec.round [(0, .v (.slice a2 ((x1).length) (k2))), (1, .v (.int .i64 (x3))), (5, .v (.int .i64 ((IntKind.i64.wrap (x7 + (1 : Int))))))] ⟨rfl, rfl, rfl, trivial⟩ ⟨n8, Nat.lt_succ_self _, (IntKind.i64.wrap (x7 + (1 : Int))), rfl, rfl, h10, hF⟩
    · skip
      refine Exec.ifF rfl hb ?_
      refine Exec.run tyOk 400 rfl ?_
      exact Exec.round [(0, .v (.slice a2 ((x1).length) (k2))), (1, .v (.int .i64 (x3)))] ⟨rfl, rfl, trivial⟩ ⟨rfl, rfl, h10, hF⟩

def F_clockworkref06_Same_L1 (x1 : List TPair) (x3 : List TPair) (J5 : Option Bool) : Nat → Int → Option Bool
  | 0, _ => none
  | n8 + 1, x7 => (cond (decide (x7 < (((x1).length : Nat) : Int))) (req (0 ≤ x7 ∧ x7 < ((x1).length : Int)) (req (0 ≤ x7 ∧ x7 < ((x3).length : Int)) (cond (!(((atI x1 x7).Key == (atI x3 x7).Key) && ((((atI x1 x7).Val.Kind == (atI x3 x7).Val.Kind) && (((atI x1 x7).Val.N == (atI x3 x7).Val.N) && (((atI x1 x7).Val.S == (atI x3 x7).Val.S) && true))) && true))) (some false) (F_clockworkref06_Same_L1 x1 x3 J5 n8 ((IntKind.i64.wrap (x7 + (1 : Int)))))))) J5)

def F_clockworkref06_Same (x1 : List TPair) (x3 : List TPair) : Option Bool :=
  (cond ((((x1).length : Nat) : Int) != (((x3).length : Nat) : Int)) (some false) (jn ((some true)) (fun J5 => (F_clockworkref06_Same_L1 x1 x3 J5 (((((x1).length : Nat) : Int)).toNat + 1) ((0 : Int))))))

set_option maxRecDepth 100000 in
theorem W_clockworkref06_Same {V : View} (x1 : List TPair) (x3 : List TPair) {a2 : Option Addr} {k2 : Nat} {a4 : Option Addr} {k4 : Nat} (h2 : SlAt cTPair V a2 k2 x1) (h4 : SlAt cTPair V a4 k4 x3) {r : Bool} (hF : F_clockworkref06_Same x1 x3 = some r) :
    Spec Tryz.prog 21 [.slice a2 ((x1).length) (k2), .slice a4 ((x3).length) (k4)] V (fun _ v => v = .bool (r)) := by
  unfold F_clockworkref06_Same at hF
  refine Spec.enter (T := tyT) Tryz.func21 rfl (by kernel_rfl) rfl rfl rfl ?_
  refine Exec.run tyOk 400 rfl ?_
  rcases cond_some hF with ⟨hb, hF⟩ | ⟨hb, hF⟩
  · skip
    refine Exec.ifT rfl hb ?_
    refine Exec.run tyOk 400 rfl ?_
    obtain rfl := some_inj hF
    exact Exec.ret tyOk rfl rfl rfl
  · skip
    refine Exec.ifF rfl hb ?_
    refine Exec.run tyOk 6 rfl ?_
    obtain ⟨J5, hJ5, hF⟩ := jn_some hF
    refine Exec.seam (fun L' V' M' => L' = [] ∧ M' = [] ∧ J5 = some r) rfl ?_ ?_
    · rintro L' V6 M' ⟨rfl, rfl, hF⟩
      subst hJ5
      refine Exec.run tyOk 400 rfl ?_
      obtain rfl := some_inj hF
      exact Exec.ret tyOk rfl rfl rfl
    · skip
      refine Exec.run tyOk 400 rfl ?_
      refine Exec.loop (fun n8 L' V' M' => ∃ (x7 : Int), L' = [(0, .v (.slice a2 ((x1).length) (k2))), (1, .v (.slice a4 ((x3).length) (k4))), (5, .v (.int .i64 (x7)))] ∧ M' = [] ∧ SlAt cTPair V' a2 k2 x1 ∧ SlAt cTPair V' a4 k4 x3 ∧ F_clockworkref06_Same_L1 x1 x3 J5 n8 x7 = some r) ⟨(((((x1).length : Nat) : Int)).toNat + 1), [(0, .v (.slice a2 ((x1).length) (k2))), (1, .v (.slice a4 ((x3).length) (k4))), (5, .v (.int .i64 ((0 : Int))))], ⟨rfl, rfl, rfl, trivial⟩, (0 : Int), rfl, rfl, h2, h4, hF⟩ ?_
      rintro n8 L' V9 M' ⟨x7, rfl, rfl, h10, h11, hF⟩
      rcases n8 with _ | n8
      · exact absurd hF (by simp [F_clockworkref06_Same_L1])
      rw [F_clockworkref06_Same_L1] at hF
      refine Exec.run tyOk 400 rfl ?_
      rcases cond_some hF with ⟨hb, hF⟩ | ⟨hb, hF⟩
      · skip
        refine Exec.ifT rfl hb ?_
        refine Exec.run tyOk 400 rfl ?_
        refine Exec.draws tyOk [(0, true), (1, true), (2, true), (3, true), (4, true), (5, true), (6, true), (7, true), (8, true)] rfl (by kernel_rfl) ?_
        refine Exec.run tyOk 400 rfl ?_
        obtain ⟨q12, hF⟩ := req_some hF
        obtain ⟨c13, hr13, hd13⟩ := SlAt.get h10 q12
        obtain rfl := hr13
        refine Exec.fia tyOk rfl rfl rfl ⟨q12.1, q12.2, hd13.some⟩ ?_
        refine Exec.run tyOk 400 rfl ?_
        refine Exec.fld tyOk (x := .agg ⟨[.string ⟨⟨(atI x1 x7).Key⟩⟩, .int .i64 ((atI x1 x7).Val.Kind), .int .i64 ((atI x1 x7).Val.N), .string ⟨⟨(atI x1 x7).Val.S⟩⟩]⟩) rfl rfl rfl hd13 rfl rfl ?_
        refine Exec.run tyOk 400 rfl ?_
        obtain ⟨q14, hF⟩ := req_some hF
        obtain ⟨c15, hr15, hd15⟩ := SlAt.get h11 q14
        obtain rfl := hr15
        refine Exec.fia tyOk rfl rfl rfl ⟨q14.1, q14.2, hd15.some⟩ ?_
        refine Exec.run tyOk 400 rfl ?_
        refine Exec.fld tyOk (x := .agg ⟨[.string ⟨⟨(atI x3 x7).Key⟩⟩, .int .i64 ((atI x3 x7).Val.Kind), .int .i64 ((atI x3 x7).Val.N), .string ⟨⟨(atI x3 x7).Val.S⟩⟩]⟩) rfl rfl rfl hd15 rfl rfl ?_
        refine Exec.run tyOk 400 rfl ?_
        rcases cond_some hF with ⟨hb, hF⟩ | ⟨hb, hF⟩
        · skip
          refine Exec.ifT rfl hb ?_
          refine Exec.run tyOk 400 rfl ?_
          obtain rfl := some_inj hF
          exact Exec.ret tyOk rfl rfl rfl
        · skip
          refine Exec.ifF rfl hb ?_
          refine Exec.run tyOk 400 rfl ?_
          exact Exec.round [(0, .v (.slice a2 ((x1).length) (k2))), (1, .v (.slice a4 ((x3).length) (k4))), (5, .v (.int .i64 ((IntKind.i64.wrap (x7 + (1 : Int))))))] ⟨rfl, rfl, rfl, trivial⟩ ⟨n8, Nat.lt_succ_self _, (IntKind.i64.wrap (x7 + (1 : Int))), rfl, rfl, h10, h11, hF⟩
      · skip
        refine Exec.ifF rfl hb ?_
        refine Exec.run tyOk 400 rfl ?_
        exact Exec.round [] trivial ⟨rfl, rfl, hF⟩

def F_clockworkref31_FewMails_L2 (x6 : Int) (x1 : List TMail) (J19 : Option Bool) : Nat → Int → Option Bool
  | 0, _ => none
  | n23 + 1, x22 => (req (0 ≤ x6 ∧ x6 < ((x1).length : Int)) (cond (decide (x22 < ((((atI x1 x6).Keys).length : Nat) : Int))) (req (0 ≤ x6 ∧ x6 < ((x1).length : Int)) (req (0 ≤ x22 ∧ x22 < (((atI x1 x6).Keys).length : Int)) (cond (decide ((100 : Int) < (((atI ((atI x1 x6).Keys) x22)).length : Int))) (some false) (F_clockworkref31_FewMails_L2 x6 x1 J19 n23 ((IntKind.i64.wrap (x22 + (1 : Int)))))))) J19))

def F_clockworkref31_FewMails_L1 (x1 : List TMail) (J3 : Option Bool) : Nat → Int → Option Bool
  | 0, _ => none
  | n7 + 1, x6 => (cond ((decide (x6 < (((x1).length : Nat) : Int))) && (decide (x6 < (13 : Int)))) (req (0 ≤ x6 ∧ x6 < ((x1).length : Int)) (req ((((decide ((10 : Int) < ((((atI x1 x6).Keys).length : Nat) : Int)))) == false) = true → 0 ≤ x6 ∧ x6 < ((x1).length : Int)) (bnd (gcall (((decide ((10 : Int) < ((((atI x1 x6).Keys).length : Nat) : Int)))) == false) (F_clockworkref31_Few ((cond (((decide ((10 : Int) < ((((atI x1 x6).Keys).length : Nat) : Int)))) == false) (atI x1 x6) default).Pairs) ((10 : Int)))) fun x18 => (cond ((decide ((10 : Int) < ((((atI x1 x6).Keys).length : Nat) : Int))) || (!x18)) (some false) (jn ((F_clockworkref31_FewMails_L1 x1 J3 n7 ((IntKind.i64.wrap (x6 + (1 : Int)))))) (fun J19 => (F_clockworkref31_FewMails_L2 x6 x1 J19 (1000000 : Nat) ((0 : Int))))))))) J3)

def F_clockworkref31_FewMails (x1 : List TMail) : Option Bool :=
  (jn ((some (decide ((((x1).length : Nat) : Int) ≤ (12 : Int))))) (fun J3 => (F_clockworkref31_FewMails_L1 x1 J3 (1000000 : Nat) ((0 : Int)))))

set_option maxRecDepth 100000 in
theorem W_clockworkref31_FewMails {V : View} (x1 : List TMail) {a2 : Option Addr} {k2 : Nat} (h2 : SlAt cTMail V a2 k2 x1) {r : Bool} (hF : F_clockworkref31_FewMails x1 = some r) :
    Spec Tryz.prog 28 [.slice a2 ((x1).length) (k2)] V (fun _ v => v = .bool (r)) := by
  unfold F_clockworkref31_FewMails at hF
  refine Spec.enter (T := tyT) Tryz.func28 rfl (by kernel_rfl) rfl rfl rfl ?_
  refine Exec.run tyOk 9 rfl ?_
  obtain ⟨J3, hJ3, hF⟩ := jn_some hF
  refine Exec.seam (fun L' V' M' => L' = [(0, .v (.slice a2 ((x1).length) (k2)))] ∧ M' = [] ∧ SlAt cTMail V' a2 k2 x1 ∧ J3 = some r) rfl ?_ ?_
  · rintro L' V4 M' ⟨rfl, rfl, h5, hF⟩
    subst hJ3
    refine Exec.run tyOk 400 rfl ?_
    obtain rfl := some_inj hF
    exact Exec.ret tyOk rfl rfl rfl
  · skip
    refine Exec.run tyOk 400 rfl ?_
    refine Exec.loop (fun n7 L' V' M' => ∃ (x6 : Int), L' = [(0, .v (.slice a2 ((x1).length) (k2))), (3, .v (.int .i64 (x6)))] ∧ M' = [] ∧ SlAt cTMail V' a2 k2 x1 ∧ F_clockworkref31_FewMails_L1 x1 J3 n7 x6 = some r) ⟨(1000000 : Nat), [(0, .v (.slice a2 ((x1).length) (k2))), (3, .v (.int .i64 ((0 : Int))))], ⟨rfl, rfl, trivial⟩, (0 : Int), rfl, rfl, h2, hF⟩ ?_
    rintro n7 L' V8 M' ⟨x6, rfl, rfl, h9, hF⟩
    rcases n7 with _ | n7
    · exact absurd hF (by simp [F_clockworkref31_FewMails_L1])
    rw [F_clockworkref31_FewMails_L1] at hF
    refine Exec.run tyOk 400 rfl ?_
    rcases cond_some hF with ⟨hb, hF⟩ | ⟨hb, hF⟩
    · skip
      refine Exec.ifT rfl hb ?_
      refine Exec.run tyOk 400 rfl ?_
      obtain ⟨q10, hF⟩ := req_some hF
      obtain ⟨c11, hr11, hd11⟩ := SlAt.get h9 q10
      obtain ⟨a12, k12, a13, k13, rfl, h12, h13⟩ := hr11
      refine Exec.ia tyOk rfl rfl ⟨q10.1, q10.2, hd11.some⟩ ?_
      refine Exec.run tyOk 400 rfl ?_
      refine Exec.ld tyOk (x := .slice a12 (((atI x1 x6).Keys).length) (k12)) rfl rfl (RdAt.part hd11 3 1 rfl) rfl rfl ?_
      refine Exec.run tyOk 400 rfl ?_
      obtain ⟨q14, hF⟩ := req_some hF
      obtain ⟨c15, hr15, hd15⟩ := SlAt.gget (((decide ((10 : Int) < ((((atI x1 x6).Keys).length : Nat) : Int)))) == false) h9 q14
      obtain ⟨a16, k16, a17, k17, rfl, h16, h17⟩ := hr15
      refine Exec.ia tyOk rfl rfl (fun gg0 => ⟨(q14 (gd1_of gg0)).1, (q14 (gd1_of gg0)).2, (hd15 (gd1_of gg0)).some⟩) ?_
      refine Exec.run tyOk 400 rfl ?_
      refine Exec.ld tyOk (x := .slice a17 (((cond (((decide ((10 : Int) < ((((atI x1 x6).Keys).length : Nat) : Int)))) == false) (atI x1 x6) default).Pairs).length) (k17)) rfl rfl (fun gg0 => (RdAt.part (hd15 (gd1_of gg0)) 4 1 rfl)) rfl rfl ?_
      refine Exec.run tyOk 400 rfl ?_
      obtain ⟨x18, hx18, hF⟩ := bnd_some hF
      refine Exec.callS (.bool (x18)) rfl rfl (fun gg0 => W_clockworkref31_Few ((cond (((decide ((10 : Int) < ((((atI x1 x6).Keys).length : Nat) : Int)))) == false) (atI x1 x6) default).Pairs) ((10 : Int)) h17 (gcall_some hx18 (gd1_of gg0))) ?_
      refine Exec.run tyOk 400 rfl ?_
      rcases cond_some hF with ⟨hb, hF⟩ | ⟨hb, hF⟩
      · skip
        refine Exec.ifT rfl hb ?_
        refine Exec.run tyOk 400 rfl ?_
        obtain rfl := some_inj hF
        exact Exec.ret tyOk rfl rfl rfl
      · skip
        refine Exec.ifF rfl hb ?_
        refine Exec.run tyOk 5 rfl ?_
        obtain ⟨J19, hJ19, hF⟩ := jn_some hF
        refine Exec.seam (fun L' V' M' => L' = [(0, .v (.slice a2 ((x1).length) (k2))), (3, .v (.int .i64 (x6)))] ∧ M' = [] ∧ SlAt cTMail V' a2 k2 x1 ∧ J19 = some r) rfl ?_ ?_
        · rintro L' V20 M' ⟨rfl, rfl, h21, hF⟩
          subst hJ19
          refine Exec.run tyOk 400 rfl ?_
          exact Exec.round [(0, .v (.slice a2 ((x1).length) (k2))), (3, .v (.int .i64 ((IntKind.i64.wrap (x6 + (1 : Int))))))] ⟨rfl, rfl, trivial⟩ ⟨n7, Nat.lt_succ_self _, (IntKind.i64.wrap (x6 + (1 : Int))), rfl, rfl, h21, hF⟩
        · skip
          refine Exec.run tyOk 400 rfl ?_
          refine Exec.loop (fun n23 L' V' M' => ∃ (x22 : Int), L' = [(0, .v (.slice a2 ((x1).length) (k2))), (3, .v (.int .i64 (x6))), (4, .v (.int .i64 (x22)))] ∧ M' = [] ∧ SlAt cTMail V' a2 k2 x1 ∧ F_clockworkref31_FewMails_L2 x6 x1 J19 n23 x22 = some r) ⟨(1000000 : Nat), [(0, .v (.slice a2 ((x1).length) (k2))), (3, .v (.int .i64 (x6))), (4, .v (.int .i64 ((0 : Int))))], ⟨rfl, rfl, rfl, trivial⟩, (0 : Int), rfl, rfl, h9, hF⟩ ?_
          rintro n23 L' V24 M' ⟨x22, rfl, rfl, h25, hF⟩
          rcases n23 with _ | n23
          · exact absurd hF (by simp [F_clockworkref31_FewMails_L2])
          rw [F_clockworkref31_FewMails_L2] at hF
          refine Exec.run tyOk 400 rfl ?_
          obtain ⟨q26, hF⟩ := req_some hF
          obtain ⟨c27, hr27, hd27⟩ := SlAt.get h25 q26
          obtain ⟨a28, k28, a29, k29, rfl, h28, h29⟩ := hr27
          refine Exec.ia tyOk rfl rfl ⟨q26.1, q26.2, hd27.some⟩ ?_
          refine Exec.run tyOk 400 rfl ?_
          refine Exec.ld tyOk (x := .slice a28 (((atI x1 x6).Keys).length) (k28)) rfl rfl (RdAt.part hd27 3 1 rfl) rfl rfl ?_
          refine Exec.run tyOk 400 rfl ?_
          rcases cond_some hF with ⟨hb, hF⟩ | ⟨hb, hF⟩
          · skip
            refine Exec.ifT rfl hb ?_
            refine Exec.run tyOk 400 rfl ?_
            obtain ⟨q30, hF⟩ := req_some hF
            obtain ⟨c31, hr31, hd31⟩ := SlAt.get h25 q30
            obtain ⟨a32, k32, a33, k33, rfl, h32, h33⟩ := hr31
            refine Exec.ia tyOk rfl rfl ⟨q30.1, q30.2, hd31.some⟩ ?_
            refine Exec.run tyOk 400 rfl ?_
            refine Exec.ld tyOk (x := .slice a32 (((atI x1 x6).Keys).length) (k32)) rfl rfl (RdAt.part hd31 3 1 rfl) rfl rfl ?_
            refine Exec.run tyOk 400 rfl ?_
            obtain ⟨q34, hF⟩ := req_some hF
            obtain ⟨c35, hr35, hd35⟩ := SlAt.get h32 q34
            obtain rfl := hr35
            refine Exec.ia tyOk rfl rfl ⟨q34.1, q34.2, hd35.some⟩ ?_
            refine Exec.run tyOk 400 rfl ?_
            refine Exec.ld tyOk (x := .string ⟨⟨(atI ((atI x1 x6).Keys) x22)⟩⟩) rfl rfl hd35 rfl rfl ?_
            refine Exec.run tyOk 400 rfl ?_
            rcases cond_some hF with ⟨hb, hF⟩ | ⟨hb, hF⟩
            · skip
              refine Exec.ifT rfl hb ?_
              refine Exec.run tyOk 400 rfl ?_
              obtain rfl := some_inj hF
              exact Exec.ret tyOk rfl rfl rfl
            · skip
              refine Exec.ifF rfl hb ?_
              refine Exec.run tyOk 400 rfl ?_
              exact Exec.round [(0, .v (.slice a2 ((x1).length) (k2))), (3, .v (.int .i64 (x6))), (4, .v (.int .i64 ((IntKind.i64.wrap (x22 + (1 : Int))))))] ⟨rfl, rfl, rfl, trivial⟩ ⟨n23, Nat.lt_succ_self _, (IntKind.i64.wrap (x22 + (1 : Int))), rfl, rfl, h25, hF⟩
          · skip
            refine Exec.ifF rfl hb ?_
            refine Exec.run tyOk 400 rfl ?_
            exact Exec.round [(0, .v (.slice a2 ((x1).length) (k2))), (3, .v (.int .i64 (x6)))] ⟨rfl, rfl, trivial⟩ ⟨rfl, rfl, h25, hF⟩
    · skip
      refine Exec.ifF rfl hb ?_
      refine Exec.run tyOk 400 rfl ?_
      exact Exec.round [(0, .v (.slice a2 ((x1).length) (k2)))] ⟨rfl, trivial⟩ ⟨rfl, rfl, h9, hF⟩

def F_placement_bound_L1 (x1 : Str) (J2 : Option Bool) : Nat → Int → Option Bool
  | 0, _ => none
  | n5 + 1, x4 => (cond (decide (x4 < ((x1).length : Int))) (req (0 ≤ x4 ∧ x4 < ((x1).length : Int)) (req ((((decide ((byteAt x1 (x4).toNat) < (33 : Int)))) == false) = true → 0 ≤ x4 ∧ x4 < ((x1).length : Int)) (cond ((decide ((byteAt x1 (x4).toNat) < (33 : Int))) || (decide ((126 : Int) < (byteAt x1 (x4).toNat)))) (some false) (F_placement_bound_L1 x1 J2 n5 ((IntKind.i64.wrap (x4 + (1 : Int)))))))) J2)

def F_placement_bound (x1 : Str) : Option Bool :=
  (jn ((some (decide (((x1).length : Int) ≤ (24 : Int))))) (fun J2 => (F_placement_bound_L1 x1 J2 ((((x1).length : Int)).toNat + 1) ((0 : Int)))))

set_option maxRecDepth 100000 in
theorem W_placement_bound {V : View} (x1 : Str)   {r : Bool} (hF : F_placement_bound x1 = some r) :
    Spec Tryz.prog 38 [.string ⟨⟨x1⟩⟩] V (fun _ v => v = .bool (r)) := by
  unfold F_placement_bound at hF
  refine Spec.enter (T := tyT) Tryz.func38 rfl (by kernel_rfl) rfl rfl rfl ?_
  refine Exec.run tyOk 9 rfl ?_
  obtain ⟨J2, hJ2, hF⟩ := jn_some hF
  refine Exec.seam (fun L' V' M' => L' = [(0, .v (.string ⟨⟨x1⟩⟩))] ∧ M' = [] ∧ J2 = some r) rfl ?_ ?_
  · rintro L' V3 M' ⟨rfl, rfl, hF⟩
    subst hJ2
    refine Exec.run tyOk 400 rfl ?_
    obtain rfl := some_inj hF
    exact Exec.ret tyOk rfl rfl rfl
  · skip
    refine Exec.run tyOk 400 rfl ?_
    refine Exec.loop (fun n5 L' V' M' => ∃ (x4 : Int), L' = [(0, .v (.string ⟨⟨x1⟩⟩)), (3, .v (.int .i64 (x4)))] ∧ M' = [] ∧ F_placement_bound_L1 x1 J2 n5 x4 = some r) ⟨((((x1).length : Int)).toNat + 1), [(0, .v (.string ⟨⟨x1⟩⟩)), (3, .v (.int .i64 ((0 : Int))))], ⟨rfl, rfl, trivial⟩, (0 : Int), rfl, rfl, hF⟩ ?_
    rintro n5 L' V6 M' ⟨x4, rfl, rfl, hF⟩
    rcases n5 with _ | n5
    · exact absurd hF (by simp [F_placement_bound_L1])
    rw [F_placement_bound_L1] at hF
    refine Exec.run tyOk 400 rfl ?_
    rcases cond_some hF with ⟨hb, hF⟩ | ⟨hb, hF⟩
    · skip
      refine Exec.ifT rfl hb ?_
      refine Exec.run tyOk 400 rfl ?_
      obtain ⟨q7, hF⟩ := req_some hF
      refine Exec.idx tyOk rfl rfl q7 ?_
      refine Exec.run tyOk 400 rfl ?_
      obtain ⟨q8, hF⟩ := req_some hF
      refine Exec.idx tyOk rfl rfl (fun gg0 => q8 (gd1_of gg0)) ?_
      refine Exec.run tyOk 400 rfl ?_
      rcases cond_some hF with ⟨hb, hF⟩ | ⟨hb, hF⟩
      · skip
        refine Exec.ifT rfl hb ?_
        refine Exec.run tyOk 400 rfl ?_
        obtain rfl := some_inj hF
        exact Exec.ret tyOk rfl rfl rfl
      · skip
        refine Exec.ifF rfl hb ?_
        refine Exec.run tyOk 400 rfl ?_
        exact Exec.round [(0, .v (.string ⟨⟨x1⟩⟩)), (3, .v (.int .i64 ((IntKind.i64.wrap (x4 + (1 : Int))))))] ⟨rfl, rfl, trivial⟩ ⟨n5, Nat.lt_succ_self _, (IntKind.i64.wrap (x4 + (1 : Int))), rfl, rfl, hF⟩
    · skip
      refine Exec.ifF rfl hb ?_
      refine Exec.run tyOk 400 rfl ?_
      exact Exec.round [(0, .v (.string ⟨⟨x1⟩⟩))] ⟨rfl, trivial⟩ ⟨rfl, rfl, hF⟩

def F_placement_number (x1 : Int) : Option Bool :=
  (some ((decide ((1 : Int) ≤ x1)) && (decide (x1 ≤ (1099511627776 : Int)))))

set_option maxRecDepth 100000 in
theorem W_placement_number {V : View} (x1 : Int)   {r : Bool} (hF : F_placement_number x1 = some r) :
    Spec Tryz.prog 39 [.int .i64 (x1)] V (fun _ v => v = .bool (r)) := by
  unfold F_placement_number at hF
  refine Spec.enter (T := tyT) Tryz.func39 rfl (by kernel_rfl) rfl rfl rfl ?_
  refine Exec.run tyOk 400 rfl ?_
  obtain rfl := some_inj hF
  exact Exec.ret tyOk rfl rfl rfl

def F_placement_node (x1 : Int) : Option Bool :=
  (some ((decide ((1 : Int) ≤ x1)) && (decide (x1 ≤ (16 : Int)))))

set_option maxRecDepth 100000 in
theorem W_placement_node {V : View} (x1 : Int)   {r : Bool} (hF : F_placement_node x1 = some r) :
    Spec Tryz.prog 40 [.int .i64 (x1)] V (fun _ v => v = .bool (r)) := by
  unfold F_placement_node at hF
  refine Spec.enter (T := tyT) Tryz.func40 rfl (by kernel_rfl) rfl rfl rfl ?_
  refine Exec.run tyOk 400 rfl ?_
  obtain rfl := some_inj hF
  exact Exec.ret tyOk rfl rfl rfl

def F_placement_validMove (x1 : List TPart) (x3 : Int) : Option Bool :=
  (req (0 ≤ x3 ∧ x3 < ((x1).length : Int)) (cond ((atI x1 x3).Dest == (0 : Int)) (some ((atI x1 x3).Done == ([] : Str))) (bnd (F_placement_node ((atI x1 x3).Dest)) fun x6 => (bnd (gcall (((x6 && ((atI x1 x3).Dest != (atI x1 x3).Node))) == true) (F_placement_bound ((atI x1 x3).Done))) fun x7 => (req ((((((IntKind.i64.wrap (x3 + (1 : Int))) == (((x1).length : Nat) : Int))) == false) && (((((x6 && ((atI x1 x3).Dest != (atI x1 x3).Node)) && x7) && (!sLt (atI x1 x3).Done (atI x1 x3).From))) == true)) = true → 0 ≤ (IntKind.i64.wrap (x3 + (1 : Int))) ∧ (IntKind.i64.wrap (x3 + (1 : Int))) < ((x1).length : Int)) (some ((((x6 && ((atI x1 x3).Dest != (atI x1 x3).Node)) && x7) && (!sLt (atI x1 x3).Done (atI x1 x3).From)) && (((IntKind.i64.wrap (x3 + (1 : Int))) == (((x1).length : Nat) : Int)) || (sLt (atI x1 x3).Done (cond (((((IntKind.i64.wrap (x3 + (1 : Int))) == (((x1).length : Nat) : Int))) == false) && (((((x6 && ((atI x1 x3).Dest != (atI x1 x3).Node)) && x7) && (!sLt (atI x1 x3).Done (atI x1 x3).From))) == true)) (atI x1 ((IntKind.i64.wrap (x3 + (1 : Int))))) default).From)))))))))

set_option maxRecDepth 100000 in
theorem W_placement_validMove {V : View} (x1 : List TPart) (x3 : Int) {a2 : Option Addr} {k2 : Nat} (h2 : SlAt cTPart V a2 k2 x1) {r : Bool} (hF : F_placement_validMove x1 x3 = some r) :
    Spec Tryz.prog 41 [.slice a2 ((x1).length) (k2), .int .i64 (x3)] V (fun _ v => v = .bool (r)) := by
  unfold F_placement_validMove at hF
  refine Spec.enter (T := tyT) Tryz.func41 rfl (by kernel_rfl) rfl rfl rfl ?_
  refine Exec.run tyOk 400 rfl ?_
  obtain ⟨q4, hF⟩ := req_some hF
  obtain ⟨c5, hr5, hd5⟩ := SlAt.get h2 q4
  obtain rfl := hr5
  refine Exec.ia tyOk rfl rfl ⟨q4.1, q4.2, hd5.some⟩ ?_
  refine Exec.run tyOk 400 rfl ?_
  refine Exec.ld tyOk (x := .agg ⟨[.int .i64 ((atI x1 x3).Id), .string ⟨⟨(atI x1 x3).From⟩⟩, .int .i64 ((atI x1 x3).Node), .int .i64 ((atI x1 x3).Dest), .string ⟨⟨(atI x1 x3).Done⟩⟩]⟩) rfl rfl hd5 rfl rfl ?_
  refine Exec.run tyOk 400 rfl ?_
  rcases cond_some hF with ⟨hb, hF⟩ | ⟨hb, hF⟩
  · skip
    refine Exec.ifT rfl hb ?_
    refine Exec.run tyOk 400 rfl ?_
    obtain rfl := some_inj hF
    exact Exec.ret tyOk rfl rfl rfl
  · skip
    refine Exec.ifF rfl hb ?_
    refine Exec.run tyOk 400 rfl ?_
    refine Exec.draws tyOk [(0, true), (1, true), (2, false), (3, false), (4, true), (5, true), (6, false), (7, false), (8, false), (9, false), (10, false), (11, false), (12, false), (13, false), (14, false), (15, false), (16, true), (17, true), (18, false), (19, false), (20, false), (21, false), (22, false), (23, true), (24, true), (25, false), (26, false), (27, false), (28, false), (29, true), (30, true), (31, true), (32, false), (33, false), (34, false), (35, false), (36, false), (37, false), (38, false), (39, false), (40, false)] rfl (by kernel_rfl) ?_
    refine Exec.run tyOk 400 rfl ?_
    obtain ⟨x6, hx6, hF⟩ := bnd_some hF
    refine Exec.callS (.bool (x6)) rfl rfl (W_placement_node ((atI x1 x3).Dest)  hx6) ?_
    refine Exec.run tyOk 400 rfl ?_
    obtain ⟨x7, hx7, hF⟩ := bnd_some hF
    refine Exec.callS (.bool (x7)) rfl rfl (fun gg0 => W_placement_bound ((atI x1 x3).Done)  (gcall_some hx7 (gd1_of gg0))) ?_
    refine Exec.run tyOk 400 rfl ?_
    obtain ⟨q8, hF⟩ := req_some hF
    obtain ⟨c9, hr9, hd9⟩ := SlAt.gget (((((IntKind.i64.wrap (x3 + (1 : Int))) == (((x1).length : Nat) : Int))) == false) && (((((x6 && ((atI x1 x3).Dest != (atI x1 x3).Node)) && x7) && (!sLt (atI x1 x3).Done (atI x1 x3).From))) == true)) h2 q8
    obtain rfl := hr9
    refine Exec.ia tyOk rfl rfl (fun gg0 gg1 => ⟨(q8 (gd2_of gg0 gg1)).1, (q8 (gd2_of gg0 gg1)).2, (hd9 (gd2_of gg0 gg1)).some⟩) ?_
    refine Exec.run tyOk 400 rfl ?_
    refine Exec.ld tyOk (x := .string ⟨⟨(cond (((((IntKind.i64.wrap (x3 + (1 : Int))) == (((x1).length : Nat) : Int))) == false) && (((((x6 && ((atI x1 x3).Dest != (atI x1 x3).Node)) && x7) && (!sLt (atI x1 x3).Done (atI x1 x3).From))) == true)) (atI x1 ((IntKind.i64.wrap (x3 + (1 : Int))))) default).From⟩⟩) rfl rfl (fun gg0 gg1 => (RdAt.part (hd9 (gd2_of gg0 gg1)) 1 1 rfl)) rfl rfl ?_
    refine Exec.run tyOk 400 rfl ?_
    obtain rfl := some_inj hF
    exact Exec.ret tyOk rfl rfl rfl

def F_clockworklaw31_pair (x1 : Str) (x2 : Int) : Option TPair :=
  (some (⟨x1, (⟨(1 : Int), x2, []⟩ : TValue)⟩ : TPair))

set_option maxRecDepth 100000 in
theorem W_clockworklaw31_pair {V : View} (x1 : Str) (x2 : Int)   {r : TPair} (hF : F_clockworklaw31_pair x1 x2 = some r) :
    Spec Tryz.prog 45 [.string ⟨⟨x1⟩⟩, .int .i64 (x2)] V (fun _ v => v = .agg ⟨[.string ⟨⟨r.Key⟩⟩, .int .i64 (r.Val.Kind), .int .i64 (r.Val.N), .string ⟨⟨r.Val.S⟩⟩]⟩) := by
  unfold F_clockworklaw31_pair at hF
  refine Spec.enter (T := tyT) Tryz.func45 rfl (by kernel_rfl) rfl rfl rfl ?_
  refine Exec.run tyOk 400 rfl ?_
  obtain rfl := some_inj hF
  exact Exec.ret tyOk rfl rfl rfl

def F_clockworkref04_Same_L1 (x1 : List Str) (x3 : List Str) (J5 : Option Bool) : Nat → Int → Option Bool
  | 0, _ => none
  | n8 + 1, x7 => (cond (decide (x7 < (((x1).length : Nat) : Int))) (req (0 ≤ x7 ∧ x7 < ((x1).length : Int)) (req (0 ≤ x7 ∧ x7 < ((x3).length : Int)) (cond ((atI x1 x7) != (atI x3 x7)) (some false) (F_clockworkref04_Same_L1 x1 x3 J5 n8 ((IntKind.i64.wrap (x7 + (1 : Int)))))))) J5)

def F_clockworkref04_Same (x1 : List Str) (x3 : List Str) : Option Bool :=
  (cond ((((x1).length : Nat) : Int) != (((x3).length : Nat) : Int)) (some false) (jn ((some true)) (fun J5 => (F_clockworkref04_Same_L1 x1 x3 J5 (((((x1).length : Nat) : Int)).toNat + 1) ((0 : Int))))))

set_option maxRecDepth 100000 in
theorem W_clockworkref04_Same {V : View} (x1 : List Str) (x3 : List Str) {a2 : Option Addr} {k2 : Nat} {a4 : Option Addr} {k4 : Nat} (h2 : SlAt cStr V a2 k2 x1) (h4 : SlAt cStr V a4 k4 x3) {r : Bool} (hF : F_clockworkref04_Same x1 x3 = some r) :
    Spec Tryz.prog 46 [.slice a2 ((x1).length) (k2), .slice a4 ((x3).length) (k4)] V (fun _ v => v = .bool (r)) := by
  unfold F_clockworkref04_Same at hF
  refine Spec.enter (T := tyT) Tryz.func46 rfl (by kernel_rfl) rfl rfl rfl ?_
  refine Exec.run tyOk 400 rfl ?_
  rcases cond_some hF with ⟨hb, hF⟩ | ⟨hb, hF⟩
  · skip
    refine Exec.ifT rfl hb ?_
    refine Exec.run tyOk 400 rfl ?_
    obtain rfl := some_inj hF
    exact Exec.ret tyOk rfl rfl rfl
  · skip
    refine Exec.ifF rfl hb ?_
    refine Exec.run tyOk 6 rfl ?_
    obtain ⟨J5, hJ5, hF⟩ := jn_some hF
    refine Exec.seam (fun L' V' M' => L' = [] ∧ M' = [] ∧ J5 = some r) rfl ?_ ?_
    · rintro L' V6 M' ⟨rfl, rfl, hF⟩
      subst hJ5
      refine Exec.run tyOk 400 rfl ?_
      obtain rfl := some_inj hF
      exact Exec.ret tyOk rfl rfl rfl
    · skip
      refine Exec.run tyOk 400 rfl ?_
      refine Exec.loop (fun n8 L' V' M' => ∃ (x7 : Int), L' = [(0, .v (.slice a2 ((x1).length) (k2))), (1, .v (.slice a4 ((x3).length) (k4))), (5, .v (.int .i64 (x7)))] ∧ M' = [] ∧ SlAt cStr V' a2 k2 x1 ∧ SlAt cStr V' a4 k4 x3 ∧ F_clockworkref04_Same_L1 x1 x3 J5 n8 x7 = some r) ⟨(((((x1).length : Nat) : Int)).toNat + 1), [(0, .v (.slice a2 ((x1).length) (k2))), (1, .v (.slice a4 ((x3).length) (k4))), (5, .v (.int .i64 ((0 : Int))))], ⟨rfl, rfl, rfl, trivial⟩, (0 : Int), rfl, rfl, h2, h4, hF⟩ ?_
      rintro n8 L' V9 M' ⟨x7, rfl, rfl, h10, h11, hF⟩
      rcases n8 with _ | n8
      · exact absurd hF (by simp [F_clockworkref04_Same_L1])
      rw [F_clockworkref04_Same_L1] at hF
      refine Exec.run tyOk 400 rfl ?_
      rcases cond_some hF with ⟨hb, hF⟩ | ⟨hb, hF⟩
      · skip
        refine Exec.ifT rfl hb ?_
        refine Exec.run tyOk 400 rfl ?_
        refine Exec.draws tyOk [(0, true), (1, true), (2, true), (3, true), (4, true), (5, true), (6, true), (7, true), (8, true)] rfl (by kernel_rfl) ?_
        refine Exec.run tyOk 400 rfl ?_
        obtain ⟨q12, hF⟩ := req_some hF
        obtain ⟨c13, hr13, hd13⟩ := SlAt.get h10 q12
        obtain rfl := hr13
        refine Exec.fia tyOk rfl rfl rfl ⟨q12.1, q12.2, hd13.some⟩ ?_
        refine Exec.run tyOk 400 rfl ?_
        refine Exec.fld tyOk (x := .string ⟨⟨(atI x1 x7)⟩⟩) rfl rfl rfl hd13 rfl rfl ?_
        refine Exec.run tyOk 400 rfl ?_
        obtain ⟨q14, hF⟩ := req_some hF
        obtain ⟨c15, hr15, hd15⟩ := SlAt.get h11 q14
        obtain rfl := hr15
        refine Exec.fia tyOk rfl rfl rfl ⟨q14.1, q14.2, hd15.some⟩ ?_
        refine Exec.run tyOk 400 rfl ?_
        refine Exec.fld tyOk (x := .string ⟨⟨(atI x3 x7)⟩⟩) rfl rfl rfl hd15 rfl rfl ?_
        refine Exec.run tyOk 400 rfl ?_
        rcases cond_some hF with ⟨hb, hF⟩ | ⟨hb, hF⟩
        · skip
          refine Exec.ifT rfl hb ?_
          refine Exec.run tyOk 400 rfl ?_
          obtain rfl := some_inj hF
          exact Exec.ret tyOk rfl rfl rfl
        · skip
          refine Exec.ifF rfl hb ?_
          refine Exec.run tyOk 400 rfl ?_
          exact Exec.round [(0, .v (.slice a2 ((x1).length) (k2))), (1, .v (.slice a4 ((x3).length) (k4))), (5, .v (.int .i64 ((IntKind.i64.wrap (x7 + (1 : Int))))))] ⟨rfl, rfl, rfl, trivial⟩ ⟨n8, Nat.lt_succ_self _, (IntKind.i64.wrap (x7 + (1 : Int))), rfl, rfl, h10, h11, hF⟩
      · skip
        refine Exec.ifF rfl hb ?_
        refine Exec.run tyOk 400 rfl ?_
        exact Exec.round [] trivial ⟨rfl, rfl, hF⟩

def F_exchange_Complete_1 (x1 : TMail) (x4 : Int) (x5 : Int) (x6 : Int) : Option Bool :=
  (some (((x1.Txn == x4) && (x1.From == x5)) && (x1.To == x6)))

set_option maxRecDepth 100000 in
theorem W_exchange_Complete_1 {V : View} (x1 : TMail) (x4 : Int) (x5 : Int) (x6 : Int) {a2 : Option Addr} {k2 : Nat} {a3 : Option Addr} {k3 : Nat} {b0 o0 : Nat} {b1 o1 : Nat} {b2 o2 : Nat} (h2 : SlAt cStr V a2 k2 x1.Keys) (h3 : SlAt cTPair V a3 k3 x1.Pairs) (hc0 : RdAt V (some ⟨b0, o0, none⟩) 0 [.int .i64 (x4)]) (hc1 : RdAt V (some ⟨b1, o1, none⟩) 0 [.int .i64 (x5)]) (hc2 : RdAt V (some ⟨b2, o2, none⟩) 0 [.int .i64 (x6)]) {r : Bool} (hF : F_exchange_Complete_1 x1 x4 x5 x6 = some r) :
    Spec Tryz.prog 57 [.agg ⟨[.int .i64 (x1.Txn), .int .i64 (x1.From), .int .i64 (x1.To), .slice a2 ((x1.Keys).length) (k2), .slice a3 ((x1.Pairs).length) (k3)]⟩, .pointer (some ⟨b0, o0, none⟩), .pointer (some ⟨b1, o1, none⟩), .pointer (some ⟨b2, o2, none⟩)] V (fun _ v => v = .bool (r)) := by
  unfold F_exchange_Complete_1 at hF
  refine Spec.enter (T := tyT) Tryz.func57 rfl (by kernel_rfl) rfl rfl rfl ?_
  refine Exec.run tyOk 400 rfl ?_
  refine Exec.ld tyOk (x := .int .i64 (x4)) rfl rfl hc0 rfl rfl ?_
  refine Exec.run tyOk 400 rfl ?_
  refine Exec.ld tyOk (x := .int .i64 (x5)) rfl rfl (fun _ => hc1) rfl rfl ?_
  refine Exec.run tyOk 400 rfl ?_
  refine Exec.ld tyOk (x := .int .i64 (x6)) rfl rfl (fun _ => hc2) rfl rfl ?_
  refine Exec.run tyOk 400 rfl ?_
  obtain rfl := some_inj hF
  exact Exec.ret tyOk rfl rfl rfl

def F_exchange_Collect_2 (x1 : TMail) (x4 : TMail) : Option Bool :=
  (some (x1.From == x4.From))

set_option maxRecDepth 100000 in
theorem W_exchange_Collect_2 {V : View} (x1 : TMail) (x4 : TMail) {a2 : Option Addr} {k2 : Nat} {a3 : Option Addr} {k3 : Nat} {a5 : Option Addr} {k5 : Nat} {a6 : Option Addr} {k6 : Nat} {b0 o0 : Nat} (h2 : SlAt cStr V a2 k2 x1.Keys) (h3 : SlAt cTPair V a3 k3 x1.Pairs) (h5 : SlAt cStr V a5 k5 x4.Keys) (h6 : SlAt cTPair V a6 k6 x4.Pairs) (hc0 : RdAt V (some ⟨b0, o0, none⟩) 0 [.int .i64 (x4.Txn), .int .i64 (x4.From), .int .i64 (x4.To), .slice a5 ((x4.Keys).length) (k5), .slice a6 ((x4.Pairs).length) (k6)]) {r : Bool} (hF : F_exchange_Collect_2 x1 x4 = some r) :
    Spec Tryz.prog 61 [.agg ⟨[.int .i64 (x1.Txn), .int .i64 (x1.From), .int .i64 (x1.To), .slice a2 ((x1.Keys).length) (k2), .slice a3 ((x1.Pairs).length) (k3)]⟩, .pointer (some ⟨b0, o0, none⟩)] V (fun _ v => v = .bool (r)) := by
  unfold F_exchange_Collect_2 at hF
  refine Spec.enter (T := tyT) Tryz.func61 rfl (by kernel_rfl) rfl rfl rfl ?_
  refine Exec.run tyOk 400 rfl ?_
  refine Exec.ld tyOk (x := .int .i64 (x4.From)) rfl rfl (RdAt.shift (RdAt.part hc0 1 1 rfl)) rfl rfl ?_
  refine Exec.run tyOk 400 rfl ?_
  obtain rfl := some_inj hF
  exact Exec.ret tyOk rfl rfl rfl

def F_clockworkref02_Uint_L1 (J4 : Int → Str → Option Str) : Nat → Int → Str → Option Str
  | 0, _, _ => none
  | n10 + 1, x8, x9 => (cond (decide ((128 : Int) ≤ x8)) (req ((128 : Int) ≠ 0) (req ((x9).length + ((bytesS (([(IntKind.u8.wrap ((IntKind.u8.wrap (remI x8 (128 : Int))) + (128 : Int)))] : List Int)))).length ≤ 9223372036854775807) (req ((128 : Int) ≠ 0) (F_clockworkref02_Uint_L1 J4 n10 ((quoI .u64 x8 (128 : Int))) ((x9 ++ (bytesS (([(IntKind.u8.wrap ((IntKind.u8.wrap (remI x8 (128 : Int))) + (128 : Int)))] : List Int))))))))) (J4 x8 x9))

def F_clockworkref02_Uint (x1 : Int) : Option Str :=
  (jn (fun (x2 : Int) (x3 : Str) => (req ((x3).length + ((bytesS (([(IntKind.u8.wrap x2)] : List Int)))).length ≤ 9223372036854775807) (some (x3 ++ (bytesS (([(IntKind.u8.wrap x2)] : List Int))))))) (fun J4 => (F_clockworkref02_Uint_L1 J4 ((x1).toNat + 2) x1 (([] : Str)))))

set_option maxRecDepth 100000 in
theorem W_clockworkref02_Uint {V : View} (x1 : Int)   {r : Str} (hF : F_clockworkref02_Uint x1 = some r) :
    Spec Tryz.prog 90 [.int .u64 (x1)] V (fun _ v => v = .string ⟨⟨r⟩⟩) := by
  unfold F_clockworkref02_Uint at hF
  refine Spec.enter (T := tyT) Tryz.func90 rfl (by kernel_rfl) rfl rfl rfl ?_
  refine Exec.run tyOk 9 rfl ?_
  obtain ⟨J4, hJ4, hF⟩ := jn_some hF
  refine Exec.seam (fun L' V' M' => ∃ (x2 : Int) (x3 : Str), L' = [(0, .v (.int .u64 (x2))), (3, .v (.string ⟨⟨x3⟩⟩))] ∧ M' = [] ∧ J4 x2 x3 = some r) rfl ?_ ?_
  · rintro L' V5 M' ⟨x2, x3, rfl, rfl, hF⟩
    subst hJ4
    refine Exec.run tyOk 400 rfl ?_
    refine Exec.bsV tyOk rfl rfl rfl rfl rfl (fun V6 a6 hv6 hd6 => ?_)
    have h6 : SlAt (cInt .u8) V6 (some a6) 1 ([(IntKind.u8.wrap x2)] : List Int) := RowRep.slat (c := (cInt .u8)) (V := V6) (cs := [.int .u8 ((IntKind.u8.wrap x2))]) ⟨_, _, rfl, rfl, rfl⟩ (VLe.refl _) (fun _ => hd6) (by simp)
    refine Exec.run tyOk 400 rfl ?_
    refine Exec.b2sV tyOk rfl rfl rfl rfl rfl rfl rfl h6 (by simp) ?_
    refine Exec.run tyOk 400 rfl ?_
    obtain ⟨q7, hF⟩ := req_some hF
    refine Exec.cat rfl rfl q7 ?_
    refine Exec.run tyOk 400 rfl ?_
    obtain rfl := some_inj hF
    exact Exec.ret tyOk rfl rfl rfl
  · skip
    refine Exec.run tyOk 400 rfl ?_
    refine Exec.loop (fun n10 L' V' M' => ∃ (x8 : Int) (x9 : Str), L' = [(0, .v (.int .u64 (x8))), (3, .v (.string ⟨⟨x9⟩⟩))] ∧ M' = [] ∧ F_clockworkref02_Uint_L1 J4 n10 x8 x9 = some r) ⟨((x1).toNat + 2), [(0, .v (.int .u64 (x1))), (3, .v (.string ⟨⟨([] : Str)⟩⟩))], ⟨rfl, rfl, trivial⟩, x1, ([] : Str), rfl, rfl, hF⟩ ?_
    rintro n10 L' V11 M' ⟨x8, x9, rfl, rfl, hF⟩
    rcases n10 with _ | n10
    · exact absurd hF (by simp [F_clockworkref02_Uint_L1])
    rw [F_clockworkref02_Uint_L1] at hF
    refine Exec.run tyOk 400 rfl ?_
    rcases cond_some hF with ⟨hb, hF⟩ | ⟨hb, hF⟩
    · skip
      refine Exec.ifT rfl hb ?_
      refine Exec.run tyOk 400 rfl ?_
      obtain ⟨q12, hF⟩ := req_some hF
      refine Exec.ari rfl rfl q12 ?_
      refine Exec.run tyOk 400 rfl ?_
      refine Exec.bsV tyOk rfl rfl rfl rfl rfl (fun V13 a13 hv13 hd13 => ?_)
      have h13 : SlAt (cInt .u8) V13 (some a13) 1 ([(IntKind.u8.wrap ((IntKind.u8.wrap (remI x8 (128 : Int))) + (128 : Int)))] : List Int) := RowRep.slat (c := (cInt .u8)) (V := V13) (cs := [.int .u8 ((IntKind.u8.wrap ((IntKind.u8.wrap (remI x8 (128 : Int))) + (128 : Int))))]) ⟨_, _, rfl, rfl, rfl⟩ (VLe.refl _) (fun _ => hd13) (by simp)
      refine Exec.run tyOk 400 rfl ?_
      refine Exec.b2sV tyOk rfl rfl rfl rfl rfl rfl rfl h13 (by simp) ?_
      refine Exec.run tyOk 400 rfl ?_
      obtain ⟨q14, hF⟩ := req_some hF
      refine Exec.cat rfl rfl q14 ?_
      refine Exec.run tyOk 400 rfl ?_
      obtain ⟨q15, hF⟩ := req_some hF
      refine Exec.ari rfl rfl q15 ?_
      refine Exec.run tyOk 400 rfl ?_
      refine Exec.cut 0 [(0, .v (.int .u64 ((quoI .u64 x8 (128 : Int))))), (3, .v (.string ⟨⟨(x9 ++ (bytesS (([(IntKind.u8.wrap ((IntKind.u8.wrap (remI x8 (128 : Int))) + (128 : Int)))] : List Int))))⟩⟩))] (M' := []) rfl ⟨rfl, rfl, trivial⟩ rfl rfl rfl ?_
      exact Exec.round [(0, .v (.int .u64 ((quoI .u64 x8 (128 : Int))))), (3, .v (.string ⟨⟨(x9 ++ (bytesS (([(IntKind.u8.wrap ((IntKind.u8.wrap (remI x8 (128 : Int))) + (128 : Int)))] : List Int))))⟩⟩))] ⟨rfl, rfl, trivial⟩ ⟨n10, Nat.lt_succ_self _, (quoI .u64 x8 (128 : Int)), (x9 ++ (bytesS (([(IntKind.u8.wrap ((IntKind.u8.wrap (remI x8 (128 : Int))) + (128 : Int)))] : List Int)))), rfl, rfl, hF⟩
    · skip
      refine Exec.ifF rfl hb ?_
      refine Exec.run tyOk 400 rfl ?_
      exact Exec.round [(0, .v (.int .u64 (x8))), (3, .v (.string ⟨⟨x9⟩⟩))] ⟨rfl, rfl, trivial⟩ ⟨x8, x9, rfl, rfl, hF⟩

def F_clockworkref02_Text (x1 : Str) : Option Str :=
  (bnd (F_clockworkref02_Uint ((IntKind.u64.wrap ((x1).length : Int)))) fun x2 => (req ((x2).length + (x1).length ≤ 9223372036854775807) (some (x2 ++ x1))))

set_option maxRecDepth 100000 in
theorem W_clockworkref02_Text {V : View} (x1 : Str)   {r : Str} (hF : F_clockworkref02_Text x1 = some r) :
    Spec Tryz.prog 91 [.string ⟨⟨x1⟩⟩] V (fun _ v => v = .string ⟨⟨r⟩⟩) := by
  unfold F_clockworkref02_Text at hF
  refine Spec.enter (T := tyT) Tryz.func91 rfl (by kernel_rfl) rfl rfl rfl ?_
  refine Exec.run tyOk 400 rfl ?_
  obtain ⟨x2, hx2, hF⟩ := bnd_some hF
  refine Exec.callS (.string ⟨⟨x2⟩⟩) rfl rfl (W_clockworkref02_Uint ((IntKind.u64.wrap ((x1).length : Int)))  hx2) ?_
  refine Exec.run tyOk 400 rfl ?_
  obtain ⟨q3, hF⟩ := req_some hF
  refine Exec.cat rfl rfl q3 ?_
  refine Exec.run tyOk 400 rfl ?_
  obtain rfl := some_inj hF
  exact Exec.ret tyOk rfl rfl rfl

def F_slices_IndexFunc_api_Part_api_Part_L1 (x1 : List TPart) (g4 : TPart → Option Bool) (J5 : Option Int) : Nat → Int → Option Int
  | 0, _ => none
  | n8 + 1, x7 => (cond (decide (x7 < (((x1).length : Nat) : Int))) (req (0 ≤ x7 ∧ x7 < ((x1).length : Int)) (bnd (g4 ((atI x1 x7))) fun x14 => (cond x14 (some x7) (F_slices_IndexFunc_api_Part_api_Part_L1 x1 g4 J5 n8 ((IntKind.i64.wrap (x7 + (1 : Int)))))))) J5)

def F_slices_IndexFunc_api_Part_api_Part (x1 : List TPart) (g4 : TPart → Option Bool) : Option Int :=
  (jn ((some (-1 : Int))) (fun J5 => (F_slices_IndexFunc_api_Part_api_Part_L1 x1 g4 J5 (((((x1).length : Nat) : Int)).toNat + 1) ((0 : Int)))))

set_option maxRecDepth 100000 in
theorem W_slices_IndexFunc_api_Part_api_Part {V : View} (x1 : List TPart) (g4 : TPart → Option Bool) {f4 : Nat} {ca4 : List Value} {a2 : Option Addr} {k2 : Nat} (h2 : SlAt cTPart V a2 k2 x1) (hg4 : FnSpec1 Tryz.prog f4 ca4 V (fun (y : TPart) => .agg ⟨[.int .i64 (y.Id), .string ⟨⟨y.From⟩⟩, .int .i64 (y.Node), .int .i64 (y.Dest), .string ⟨⟨y.Done⟩⟩]⟩) (fun (r : Bool) => .bool (r)) g4) {r : Int} (hF : F_slices_IndexFunc_api_Part_api_Part x1 g4 = some r) :
    Spec Tryz.prog 94 [.slice a2 ((x1).length) (k2), .func (.func f4) #[] ⟨ca4⟩] V (fun _ v => v = .int .i64 (r)) := by
  unfold F_slices_IndexFunc_api_Part_api_Part at hF
  refine Spec.enter (T := tyT) Tryz.func94 rfl (by kernel_rfl) rfl rfl rfl ?_
  refine Exec.run tyOk 11 rfl ?_
  obtain ⟨J5, hJ5, hF⟩ := jn_some hF
  refine Exec.seam (fun L' V' M' => L' = [] ∧ M' = [] ∧ J5 = some r) rfl ?_ ?_
  · rintro L' V6 M' ⟨rfl, rfl, hF⟩
    subst hJ5
    refine Exec.run tyOk 400 rfl ?_
    obtain rfl := some_inj hF
    exact Exec.ret tyOk rfl rfl rfl
  · skip
    refine Exec.run tyOk 400 rfl ?_
    refine Exec.loop (fun n8 L' V' M' => ∃ (x7 : Int), L' = [(0, .v (.slice a2 ((x1).length) (k2))), (1, .v (.func (.func f4) #[] ⟨ca4⟩)), (7, .v (.int .i64 ((((x1).length : Nat) : Int)))), (8, .v (.int .i64 (x7)))] ∧ M' = [] ∧ SlAt cTPart V' a2 k2 x1 ∧ FnSpec1 Tryz.prog f4 ca4 V' (fun (y : TPart) => .agg ⟨[.int .i64 (y.Id), .string ⟨⟨y.From⟩⟩, .int .i64 (y.Node), .int .i64 (y.Dest), .string ⟨⟨y.Done⟩⟩]⟩) (fun (r : Bool) => .bool (r)) g4 ∧ F_slices_IndexFunc_api_Part_api_Part_L1 x1 g4 J5 n8 x7 = some r) ⟨(((((x1).length : Nat) : Int)).toNat + 1), [(0, .v (.slice a2 ((x1).length) (k2))), (1, .v (.func (.func f4) #[] ⟨ca4⟩)), (7, .v (.int .i64 ((((x1).length : Nat) : Int)))), (8, .v (.int .i64 ((0 : Int))))], ⟨rfl, rfl, rfl, rfl, trivial⟩, (0 : Int), rfl, rfl, h2, hg4, hF⟩ ?_
    rintro n8 L' V9 M' ⟨x7, rfl, rfl, h10, h11, hF⟩
    rcases n8 with _ | n8
    · exact absurd hF (by simp [F_slices_IndexFunc_api_Part_api_Part_L1])
    rw [F_slices_IndexFunc_api_Part_api_Part_L1] at hF
    refine Exec.run tyOk 400 rfl ?_
    rcases cond_some hF with ⟨hb, hF⟩ | ⟨hb, hF⟩
    · skip
      refine Exec.ifT rfl hb ?_
      refine Exec.run tyOk 400 rfl ?_
      obtain ⟨q12, hF⟩ := req_some hF
      obtain ⟨c13, hr13, hd13⟩ := SlAt.get h10 q12
      obtain rfl := hr13
      refine Exec.ia tyOk rfl rfl ⟨q12.1, q12.2, hd13.some⟩ ?_
      refine Exec.run tyOk 400 rfl ?_
      refine Exec.ld tyOk (x := .agg ⟨[.int .i64 ((atI x1 x7).Id), .string ⟨⟨(atI x1 x7).From⟩⟩, .int .i64 ((atI x1 x7).Node), .int .i64 ((atI x1 x7).Dest), .string ⟨⟨(atI x1 x7).Done⟩⟩]⟩) rfl rfl hd13 rfl rfl ?_
      refine Exec.run tyOk 400 rfl ?_
      obtain ⟨x14, hx14, hF⟩ := bnd_some hF
      refine Exec.callS (.bool (x14)) rfl rfl (h11.at hx14) ?_
      refine Exec.run tyOk 400 rfl ?_
      rcases cond_some hF with ⟨hb, hF⟩ | ⟨hb, hF⟩
      · skip
        refine Exec.ifT rfl hb ?_
        refine Exec.run tyOk 400 rfl ?_
        obtain rfl := some_inj hF
        exact Exec.ret tyOk rfl rfl rfl
      · skip
        refine Exec.ifF rfl hb ?_
        refine Exec.run tyOk 400 rfl ?_
        exact Exec.round [(0, .v (.slice a2 ((x1).length) (k2))), (1, .v (.func (.func f4) #[] ⟨ca4⟩)), (7, .v (.int .i64 ((((x1).length : Nat) : Int)))), (8, .v (.int .i64 ((IntKind.i64.wrap (x7 + (1 : Int))))))] ⟨rfl, rfl, rfl, rfl, trivial⟩ ⟨n8, Nat.lt_succ_self _, (IntKind.i64.wrap (x7 + (1 : Int))), rfl, rfl, h10, h11, hF⟩
    · skip
      refine Exec.ifF rfl hb ?_
      refine Exec.run tyOk 400 rfl ?_
      exact Exec.round [] trivial ⟨rfl, rfl, hF⟩

def F_placement_find_1 (x1 : TPart) (x2 : Int) : Option Bool :=
  (some (x1.Id == x2))

set_option maxRecDepth 100000 in
theorem W_placement_find_1 {V : View} (x1 : TPart) (x2 : Int) {b0 o0 : Nat} (hc0 : RdAt V (some ⟨b0, o0, none⟩) 0 [.int .i64 (x2)]) {r : Bool} (hF : F_placement_find_1 x1 x2 = some r) :
    Spec Tryz.prog 95 [.agg ⟨[.int .i64 (x1.Id), .string ⟨⟨x1.From⟩⟩, .int .i64 (x1.Node), .int .i64 (x1.Dest), .string ⟨⟨x1.Done⟩⟩]⟩, .pointer (some ⟨b0, o0, none⟩)] V (fun _ v => v = .bool (r)) := by
  unfold F_placement_find_1 at hF
  refine Spec.enter (T := tyT) Tryz.func95 rfl (by kernel_rfl) rfl rfl rfl ?_
  refine Exec.run tyOk 400 rfl ?_
  refine Exec.ld tyOk (x := .int .i64 (x2)) rfl rfl hc0 rfl rfl ?_
  refine Exec.run tyOk 400 rfl ?_
  obtain rfl := some_inj hF
  exact Exec.ret tyOk rfl rfl rfl

def F_slices_Index_int_int_L1 (x1 : List Int) (x3 : Int) (J4 : Option Int) : Nat → Int → Option Int
  | 0, _ => none
  | n7 + 1, x6 => (cond (decide (x6 < (((x1).length : Nat) : Int))) (req (0 ≤ x6 ∧ x6 < ((x1).length : Int)) (cond (x3 == (atI x1 x6)) (some x6) (F_slices_Index_int_int_L1 x1 x3 J4 n7 ((IntKind.i64.wrap (x6 + (1 : Int))))))) J4)

def F_slices_Index_int_int (x1 : List Int) (x3 : Int) : Option Int :=
  (jn ((some (-1 : Int))) (fun J4 => (F_slices_Index_int_int_L1 x1 x3 J4 (((((x1).length : Nat) : Int)).toNat + 1) ((0 : Int)))))

set_option maxRecDepth 100000 in
theorem W_slices_Index_int_int {V : View} (x1 : List Int) (x3 : Int) {a2 : Option Addr} {k2 : Nat} (h2 : SlAt (cInt .i64) V a2 k2 x1) {r : Int} (hF : F_slices_Index_int_int x1 x3 = some r) :
    Spec Tryz.prog 99 [.slice a2 ((x1).length) (k2), .int .i64 (x3)] V (fun _ v => v = .int .i64 (r)) := by
  unfold F_slices_Index_int_int at hF
  refine Spec.enter (T := tyT) Tryz.func99 rfl (by kernel_rfl) rfl rfl rfl ?_
  refine Exec.run tyOk 11 rfl ?_
  obtain ⟨J4, hJ4, hF⟩ := jn_some hF
  refine Exec.seam (fun L' V' M' => L' = [] ∧ M' = [] ∧ J4 = some r) rfl ?_ ?_
  · rintro L' V5 M' ⟨rfl, rfl, hF⟩
    subst hJ4
    refine Exec.run tyOk 400 rfl ?_
    obtain rfl := some_inj hF
    exact Exec.ret tyOk rfl rfl rfl
  · skip
    refine Exec.run tyOk 400 rfl ?_
    refine Exec.loop (fun n7 L' V' M' => ∃ (x6 : Int), L' = [(0, .v (.slice a2 ((x1).length) (k2))), (1, .v (.int .i64 (x3))), (7, .v (.int .i64 ((((x1).length : Nat) : Int)))), (8, .v (.int .i64 (x6)))] ∧ M' = [] ∧ SlAt (cInt .i64) V' a2 k2 x1 ∧ F_slices_Index_int_int_L1 x1 x3 J4 n7 x6 = some r) ⟨(((((x1).length : Nat) : Int)).toNat + 1), [(0, .v (.slice a2 ((x1).length) (k2))), (1, .v (.int .i64 (x3))), (7, .v (.int .i64 ((((x1).length : Nat) : Int)))), (8, .v (.int .i64 ((0 : Int))))], ⟨rfl, rfl, rfl, rfl, trivial⟩, (0 : Int), rfl, rfl, h2, hF⟩ ?_
    rintro n7 L' V8 M' ⟨x6, rfl, rfl, h9, hF⟩
    rcases n7 with _ | n7
    · exact absurd hF (by simp [F_slices_Index_int_int_L1])
    rw [F_slices_Index_int_int_L1] at hF
    refine Exec.run tyOk 400 rfl ?_
    rcases cond_some hF with ⟨hb, hF⟩ | ⟨hb, hF⟩
    · skip
      refine Exec.ifT rfl hb ?_
      refine Exec.run tyOk 400 rfl ?_
      obtain ⟨q10, hF⟩ := req_some hF
      obtain ⟨c11, hr11, hd11⟩ := SlAt.get h9 q10
      obtain rfl := hr11
      refine Exec.ia tyOk rfl rfl ⟨q10.1, q10.2, hd11.some⟩ ?_
      refine Exec.run tyOk 400 rfl ?_
      refine Exec.ld tyOk (x := .int .i64 ((atI x1 x6))) rfl rfl hd11 rfl rfl ?_
      refine Exec.run tyOk 400 rfl ?_
      rcases cond_some hF with ⟨hb, hF⟩ | ⟨hb, hF⟩
      · skip
        refine Exec.ifT rfl hb ?_
        refine Exec.run tyOk 400 rfl ?_
        obtain rfl := some_inj hF
        exact Exec.ret tyOk rfl rfl rfl
      · skip
        refine Exec.ifF rfl hb ?_
        refine Exec.run tyOk 400 rfl ?_
        exact Exec.round [(0, .v (.slice a2 ((x1).length) (k2))), (1, .v (.int .i64 (x3))), (7, .v (.int .i64 ((((x1).length : Nat) : Int)))), (8, .v (.int .i64 ((IntKind.i64.wrap (x6 + (1 : Int))))))] ⟨rfl, rfl, rfl, rfl, trivial⟩ ⟨n7, Nat.lt_succ_self _, (IntKind.i64.wrap (x6 + (1 : Int))), rfl, rfl, h9, hF⟩
    · skip
      refine Exec.ifF rfl hb ?_
      refine Exec.run tyOk 400 rfl ?_
      exact Exec.round [] trivial ⟨rfl, rfl, hF⟩

def F_slices_IndexFunc_api_Mail_api_Mail_L1 (x1 : List TMail) (g4 : TMail → Option Bool) (J9 : Option Int) : Nat → Int → Option Int
  | 0, _ => none
  | n12 + 1, x11 => (cond (decide (x11 < (((x1).length : Nat) : Int))) (req (0 ≤ x11 ∧ x11 < ((x1).length : Int)) (bnd (g4 ((atI x1 x11))) fun x20 => (cond x20 (some x11) (F_slices_IndexFunc_api_Mail_api_Mail_L1 x1 g4 J9 n12 ((IntKind.i64.wrap (x11 + (1 : Int)))))))) J9)

def F_slices_IndexFunc_api_Mail_api_Mail (x1 : List TMail) (g4 : TMail → Option Bool) : Option Int :=
  (jn ((some (-1 : Int))) (fun J9 => (F_slices_IndexFunc_api_Mail_api_Mail_L1 x1 g4 J9 (((((x1).length : Nat) : Int)).toNat + 1) ((0 : Int)))))

set_option maxRecDepth 100000 in
theorem W_slices_IndexFunc_api_Mail_api_Mail {V : View} (x1 : List TMail) (g4 : TMail → Option Bool) {f4 : Nat} {ca4 : List Value} {a2 : Option Addr} {k2 : Nat} (h2 : SlAt cTMail V a2 k2 x1) (hg4 : FnSpecS1 Tryz.prog f4 ca4 V cTMail (fun (r : Bool) => .bool (r)) g4) {r : Int} (hF : F_slices_IndexFunc_api_Mail_api_Mail x1 g4 = some r) :
    Spec Tryz.prog 105 [.slice a2 ((x1).length) (k2), .func (.func f4) #[] ⟨ca4⟩] V (fun _ v => v = .int .i64 (r)) := by
  unfold F_slices_IndexFunc_api_Mail_api_Mail at hF
  refine Spec.enter (T := tyT) Tryz.func105 rfl (by kernel_rfl) rfl rfl rfl ?_
  refine Exec.run tyOk 11 rfl ?_
  obtain ⟨J9, hJ9, hF⟩ := jn_some hF
  refine Exec.seam (fun L' V' M' => L' = [] ∧ M' = [] ∧ J9 = some r) rfl ?_ ?_
  · rintro L' V10 M' ⟨rfl, rfl, hF⟩
    subst hJ9
    refine Exec.run tyOk 400 rfl ?_
    obtain rfl := some_inj hF
    exact Exec.ret tyOk rfl rfl rfl
  · skip
    refine Exec.run tyOk 400 rfl ?_
    refine Exec.loop (fun n12 L' V' M' => ∃ (x11 : Int), L' = [(0, .v (.slice a2 ((x1).length) (k2))), (1, .v (.func (.func f4) #[] ⟨ca4⟩)), (7, .v (.int .i64 ((((x1).length : Nat) : Int)))), (8, .v (.int .i64 (x11)))] ∧ M' = [] ∧ SlAt cTMail V' a2 k2 x1 ∧ FnSpecS1 Tryz.prog f4 ca4 V' cTMail (fun (r : Bool) => .bool (r)) g4 ∧ F_slices_IndexFunc_api_Mail_api_Mail_L1 x1 g4 J9 n12 x11 = some r) ⟨(((((x1).length : Nat) : Int)).toNat + 1), [(0, .v (.slice a2 ((x1).length) (k2))), (1, .v (.func (.func f4) #[] ⟨ca4⟩)), (7, .v (.int .i64 ((((x1).length : Nat) : Int)))), (8, .v (.int .i64 ((0 : Int))))], ⟨rfl, rfl, rfl, rfl, trivial⟩, (0 : Int), rfl, rfl, h2, hg4, hF⟩ ?_
    rintro n12 L' V13 M' ⟨x11, rfl, rfl, h14, h15, hF⟩
    rcases n12 with _ | n12
    · exact absurd hF (by simp [F_slices_IndexFunc_api_Mail_api_Mail_L1])
    rw [F_slices_IndexFunc_api_Mail_api_Mail_L1] at hF
    refine Exec.run tyOk 400 rfl ?_
    rcases cond_some hF with ⟨hb, hF⟩ | ⟨hb, hF⟩
    · skip
      refine Exec.ifT rfl hb ?_
      refine Exec.run tyOk 400 rfl ?_
      obtain ⟨q16, hF⟩ := req_some hF
      obtain ⟨c17, hr17, hd17⟩ := SlAt.get h14 q16
      obtain ⟨a18, k18, a19, k19, rfl, h18, h19⟩ := hr17
      refine Exec.ia tyOk rfl rfl ⟨q16.1, q16.2, hd17.some⟩ ?_
      refine Exec.run tyOk 400 rfl ?_
      refine Exec.ld tyOk (x := .agg ⟨[.int .i64 ((atI x1 x11).Txn), .int .i64 ((atI x1 x11).From), .int .i64 ((atI x1 x11).To), .slice a18 (((atI x1 x11).Keys).length) (k18), .slice a19 (((atI x1 x11).Pairs).length) (k19)]⟩) rfl rfl hd17 rfl rfl ?_
      refine Exec.run tyOk 400 rfl ?_
      obtain ⟨x20, hx20, hF⟩ := bnd_some hF
      refine Exec.callS (.bool (x20)) rfl rfl (h15.at ⟨_, _, _, _, rfl, h18, h19⟩ hx20) ?_
      refine Exec.run tyOk 400 rfl ?_
      rcases cond_some hF with ⟨hb, hF⟩ | ⟨hb, hF⟩
      · skip
        refine Exec.ifT rfl hb ?_
        refine Exec.run tyOk 400 rfl ?_
        obtain rfl := some_inj hF
        exact Exec.ret tyOk rfl rfl rfl
      · skip
        refine Exec.ifF rfl hb ?_
        refine Exec.run tyOk 400 rfl ?_
        exact Exec.round [(0, .v (.slice a2 ((x1).length) (k2))), (1, .v (.func (.func f4) #[] ⟨ca4⟩)), (7, .v (.int .i64 ((((x1).length : Nat) : Int)))), (8, .v (.int .i64 ((IntKind.i64.wrap (x11 + (1 : Int))))))] ⟨rfl, rfl, rfl, rfl, trivial⟩ ⟨n12, Nat.lt_succ_self _, (IntKind.i64.wrap (x11 + (1 : Int))), rfl, rfl, h14, h15, hF⟩
    · skip
      refine Exec.ifF rfl hb ?_
      refine Exec.run tyOk 400 rfl ?_
      exact Exec.round [] trivial ⟨rfl, rfl, hF⟩

def F_state_absent (x1 : TPair) : Option Bool :=
  (some (x1.Val.Kind == (0 : Int)))

set_option maxRecDepth 100000 in
theorem W_state_absent {V : View} (x1 : TPair)   {r : Bool} (hF : F_state_absent x1 = some r) :
    Spec Tryz.prog 110 [.agg ⟨[.string ⟨⟨x1.Key⟩⟩, .int .i64 (x1.Val.Kind), .int .i64 (x1.Val.N), .string ⟨⟨x1.Val.S⟩⟩]⟩] V (fun _ v => v = .bool (r)) := by
  unfold F_state_absent at hF
  refine Spec.enter (T := tyT) Tryz.func110 rfl (by kernel_rfl) rfl rfl rfl ?_
  refine Exec.run tyOk 400 rfl ?_
  obtain rfl := some_inj hF
  exact Exec.ret tyOk rfl rfl rfl

-- contracts: FnSt1
abbrev mkPair : TPair → Value := fun (y : TPair) => .agg ⟨[.string ⟨⟨y.Key⟩⟩, .int .i64 (y.Val.Kind), .int .i64 (y.Val.N), .string ⟨⟨y.Val.S⟩⟩]⟩

def mergeF_L1 {σ : Type} (x1 : List TPair) (x3 : List TPair) (g8 : σ → TPair → Option σ) (g10 : σ → TPair → Option σ) (g12 : σ → TPair → TPair → Option σ) (g6 : TPair → TPair → Option Int) : Nat → σ → Int → Int → Option σ
  | 0, _, _, _ => none
  | n15 + 1, s, x13, x14 => (cond ((decide (x13 < (((x1).length : Nat) : Int))) || (decide (x14 < (((x3).length : Nat) : Int)))) (jn (fun (x23 : Int) => (cond (decide (x23 < (0 : Int))) (req (0 ≤ x13 ∧ x13 < ((x1).length : Int)) (bnd (g8 s ((atI x1 x13))) fun x34 => (mergeF_L1 x1 x3 g8 g10 g12 g6 n15 x34 ((IntKind.i64.wrap (x13 + (1 : Int)))) x14))) (cond (decide ((0 : Int) < x23)) (req (0 ≤ x14 ∧ x14 < ((x3).length : Int)) (bnd (g10 s ((atI x3 x14))) fun x37 => (mergeF_L1 x1 x3 g8 g10 g12 g6 n15 x37 x13 ((IntKind.i64.wrap (x14 + (1 : Int))))))) (req (0 ≤ x13 ∧ x13 < ((x1).length : Int)) (req (0 ≤ x14 ∧ x14 < ((x3).length : Int)) (bnd (g12 s ((atI x1 x13)) ((atI x3 x14))) fun x42 => (mergeF_L1 x1 x3 g8 g10 g12 g6 n15 x42 ((IntKind.i64.wrap (x13 + (1 : Int)))) ((IntKind.i64.wrap (x14 + (1 : Int))))))))))) (fun J24 => (cond (x13 == (((x1).length : Nat) : Int)) (J24 ((1 : Int))) (cond (x14 == (((x3).length : Nat) : Int)) (J24 ((-1 : Int))) (req (0 ≤ x13 ∧ x13 < ((x1).length : Int)) (req (0 ≤ x14 ∧ x14 < ((x3).length : Int)) (bnd (g6 ((atI x1 x13)) ((atI x3 x14))) fun x47 => (J24 x47)))))))) (some s))

def mergeF {σ : Type} (x1 : List TPair) (x3 : List TPair) (g6 : TPair → TPair → Option Int) (g8 : σ → TPair → Option σ) (g10 : σ → TPair → Option σ) (g12 : σ → TPair → TPair → Option σ)  (s : σ) : Option σ :=
  (mergeF_L1 x1 x3 g8 g10 g12 g6 (1000000 : Nat) s ((0 : Int)) ((0 : Int)))

set_option maxRecDepth 100000 in
theorem X_merge {σ : Type} {rel : View → σ → RowD → RowD → RowD → Prop} {V : View} (x1 : List TPair) (x3 : List TPair) (g6 : TPair → TPair → Option Int) {f6 : Nat} {ca6 : List Value} (g8 : σ → TPair → Option σ) {f8 : Nat} {ca8 : List Value} (g10 : σ → TPair → Option σ) {f10 : Nat} {ca10 : List Value} (g12 : σ → TPair → TPair → Option σ) {f12 : Nat} {ca12 : List Value} {a2 : Option Addr} {k2 : Nat} {a4 : Option Addr} {k4 : Nat} (h2 : SlAt cTPair V a2 k2 x1) (h4 : SlAt cTPair V a4 k4 x3) (hg6 : FnSpec2 Tryz.prog f6 ca6 V mkPair mkPair (fun (r : Int) => .int .i64 (r)) g6) (hg8 : FnSt1 Tryz.prog f8 ca8 V mkPair rel g8) (hg10 : FnSt1 Tryz.prog f10 ca10 V mkPair rel g10) (hg12 : FnSt2 Tryz.prog f12 ca12 V mkPair mkPair rel g12) {s r : σ} {r0 r1 r2 : RowD} (hrel : rel V s r0 r1 r2) (hF : mergeF x1 x3 g6 g8 g10 g12 s = some r) :
    SpecR Tryz.prog 112 [.slice a2 ((x1).length) (k2), .slice a4 ((x3).length) (k4), .func (.func f6) #[] ⟨ca6⟩, .func (.func f8) #[] ⟨ca8⟩, .func (.func f10) #[] ⟨ca10⟩, .func (.func f12) #[] ⟨ca12⟩] [r0, r1, r2] V (fun V' v rs' => v = .tuple ⟨[]⟩ ∧ ∃ q0 q1 q2, rs' = [q0, q1, q2] ∧ rel V' r q0 q1 q2) := by
  unfold mergeF at hF
  refine SpecR.enter (T := tyT) Tryz.func112 rfl (by kernel_rfl) rfl rfl rfl (M := [.row r0.x r0.cs r0.e r0.sz, .row r1.x r1.cs r1.e r1.sz, .row r2.x r2.cs r2.e r2.sz]) rfl ?_
  refine Exec.run tyOk 400 rfl ?_
  refine Exec.loop (fun n15 L' V' M' => ∃ (s : σ) (r0 r1 r2 : RowD) (x13 : Int) (x14 : Int), L' = [(0, .v (.slice a2 ((x1).length) (k2))), (1, .v (.slice a4 ((x3).length) (k4))), (2, .v (.func (.func f6) #[] ⟨ca6⟩)), (3, .v (.func (.func f8) #[] ⟨ca8⟩)), (4, .v (.func (.func f10) #[] ⟨ca10⟩)), (5, .v (.func (.func f12) #[] ⟨ca12⟩)), (12, .v (.int .i64 (x13))), (13, .v (.int .i64 (x14)))] ∧ M' = [.row r0.x r0.cs r0.e r0.sz, .row r1.x r1.cs r1.e r1.sz, .row r2.x r2.cs r2.e r2.sz] ∧ SlAt cTPair V' a2 k2 x1 ∧ SlAt cTPair V' a4 k4 x3 ∧ FnSpec2 Tryz.prog f6 ca6 V' mkPair mkPair (fun (r : Int) => .int .i64 (r)) g6 ∧ FnSt1 Tryz.prog f8 ca8 V' mkPair rel g8 ∧ FnSt1 Tryz.prog f10 ca10 V' mkPair rel g10 ∧ FnSt2 Tryz.prog f12 ca12 V' mkPair mkPair rel g12 ∧ rel V' s r0 r1 r2 ∧ mergeF_L1 x1 x3 g8 g10 g12 g6 n15 s x13 x14 = some r) ⟨(1000000 : Nat), [(0, .v (.slice a2 ((x1).length) (k2))), (1, .v (.slice a4 ((x3).length) (k4))), (2, .v (.func (.func f6) #[] ⟨ca6⟩)), (3, .v (.func (.func f8) #[] ⟨ca8⟩)), (4, .v (.func (.func f10) #[] ⟨ca10⟩)), (5, .v (.func (.func f12) #[] ⟨ca12⟩)), (12, .v (.int .i64 ((0 : Int)))), (13, .v (.int .i64 ((0 : Int))))], ⟨rfl, rfl, rfl, rfl, rfl, rfl, rfl, rfl, trivial⟩, s, r0, r1, r2, (0 : Int), (0 : Int), rfl, rfl, h2, h4, hg6, hg8, hg10, hg12, hrel, hF⟩ ?_
  clear hrel
  rintro n15 L' V16 M' ⟨s, r0, r1, r2, x13, x14, rfl, rfl, h17, h18, h19, h20, h21, h22, hrel, hF⟩
  rcases n15 with _ | n15
  · exact absurd hF (by simp [mergeF_L1])
  rw [mergeF_L1] at hF
  refine Exec.run tyOk 400 rfl ?_
  rcases cond_some hF with ⟨hb, hF⟩ | ⟨hb, hF⟩
  · skip
    refine Exec.ifT rfl hb ?_
    refine Exec.run tyOk 400 rfl ?_
    obtain ⟨J24, hJ24, hF⟩ := jn_some hF
    refine Exec.seam (fun L' V' M' => ∃ (x23 : Int), L' = [(0, .v (.slice a2 ((x1).length) (k2))), (1, .v (.slice a4 ((x3).length) (k4))), (2, .v (.func (.func f6) #[] ⟨ca6⟩)), (3, .v (.func (.func f8) #[] ⟨ca8⟩)), (4, .v (.func (.func f10) #[] ⟨ca10⟩)), (5, .v (.func (.func f12) #[] ⟨ca12⟩)), (12, .v (.int .i64 (x13))), (13, .v (.int .i64 (x14))), (14, .v (.int .i64 (x23)))] ∧ M' = [.row r0.x r0.cs r0.e r0.sz, .row r1.x r1.cs r1.e r1.sz, .row r2.x r2.cs r2.e r2.sz] ∧ SlAt cTPair V' a2 k2 x1 ∧ SlAt cTPair V' a4 k4 x3 ∧ FnSpec2 Tryz.prog f6 ca6 V' mkPair mkPair (fun (r : Int) => .int .i64 (r)) g6 ∧ FnSt1 Tryz.prog f8 ca8 V' mkPair rel g8 ∧ FnSt1 Tryz.prog f10 ca10 V' mkPair rel g10 ∧ FnSt2 Tryz.prog f12 ca12 V' mkPair mkPair rel g12 ∧ rel V' s r0 r1 r2 ∧ J24 x23 = some r) rfl ?_ ?_
    · rintro L' V25 M' ⟨x23, rfl, rfl, h26, h27, h28, h29, h30, h31, hrel, hF⟩
      subst hJ24
      refine Exec.run tyOk 400 rfl ?_
      rcases cond_some hF with ⟨hb, hF⟩ | ⟨hb, hF⟩
      · skip
        refine Exec.ifT rfl hb ?_
        refine Exec.run tyOk 400 rfl ?_
        obtain ⟨q32, hF⟩ := req_some hF
        obtain ⟨c33, hr33, hd33⟩ := SlAt.get h26 q32
        obtain rfl := hr33
        refine Exec.ia tyOk rfl rfl ⟨q32.1, q32.2, hd33.some⟩ ?_
        refine Exec.run tyOk 400 rfl ?_
        refine Exec.ld tyOk (x := .agg ⟨[.string ⟨⟨(atI x1 x13).Key⟩⟩, .int .i64 ((atI x1 x13).Val.Kind), .int .i64 ((atI x1 x13).Val.N), .string ⟨⟨(atI x1 x13).Val.S⟩⟩]⟩) rfl rfl hd33 rfl rfl ?_
        refine Exec.run tyOk 400 rfl ?_
        obtain ⟨x34, hx34, hF⟩ := bnd_some hF
        refine Exec.callR [0, 1, 2] (rs := [r0, r1, r2]) rfl rfl rfl rfl rfl rfl (h29 _ (VLe.refl _) s r0 r1 r2 _ _ hrel hx34) ?_
        rintro V50 _ _ hv50 ⟨rfl, q0, q1, q2, rfl, hrel2⟩
        refine ⟨_, rfl, ?_⟩
        refine Exec.run tyOk 400 rfl ?_
        exact Exec.round [(0, .v (.slice a2 ((x1).length) (k2))), (1, .v (.slice a4 ((x3).length) (k4))), (2, .v (.func (.func f6) #[] ⟨ca6⟩)), (3, .v (.func (.func f8) #[] ⟨ca8⟩)), (4, .v (.func (.func f10) #[] ⟨ca10⟩)), (5, .v (.func (.func f12) #[] ⟨ca12⟩)), (12, .v (.int .i64 ((IntKind.i64.wrap (x13 + (1 : Int)))))), (13, .v (.int .i64 (x14)))] ⟨rfl, rfl, rfl, rfl, rfl, rfl, rfl, rfl, trivial⟩ ⟨n15, Nat.lt_succ_self _, x34, q0, q1, q2, (IntKind.i64.wrap (x13 + (1 : Int))), x14, rfl, rfl, SlAt.mono h26 hv50, SlAt.mono h27 hv50, h28.mono hv50, h29.mono hv50, h30.mono hv50, h31.mono hv50, hrel2, hF⟩
      · skip
        refine Exec.ifF rfl hb ?_
        refine Exec.run tyOk 400 rfl ?_
        rcases cond_some hF with ⟨hb, hF⟩ | ⟨hb, hF⟩
        · skip
          refine Exec.ifT rfl hb ?_
          refine Exec.run tyOk 400 rfl ?_
          obtain ⟨q35, hF⟩ := req_some hF
          obtain ⟨c36, hr36, hd36⟩ := SlAt.get h27 q35
          obtain rfl := hr36
          refine Exec.ia tyOk rfl rfl ⟨q35.1, q35.2, hd36.some⟩ ?_
          refine Exec.run tyOk 400 rfl ?_
          refine Exec.ld tyOk (x := .agg ⟨[.string ⟨⟨(atI x3 x14).Key⟩⟩, .int .i64 ((atI x3 x14).Val.Kind), .int .i64 ((atI x3 x14).Val.N), .string ⟨⟨(atI x3 x14).Val.S⟩⟩]⟩) rfl rfl hd36 rfl rfl ?_
          refine Exec.run tyOk 400 rfl ?_
          obtain ⟨x37, hx37, hF⟩ := bnd_some hF
          refine Exec.callR [0, 1, 2] (rs := [r0, r1, r2]) rfl rfl rfl rfl rfl rfl (h30 _ (VLe.refl _) s r0 r1 r2 _ _ hrel hx37) ?_
          rintro V50 _ _ hv50 ⟨rfl, q0, q1, q2, rfl, hrel2⟩
          refine ⟨_, rfl, ?_⟩
          refine Exec.run tyOk 400 rfl ?_
          exact Exec.round [(0, .v (.slice a2 ((x1).length) (k2))), (1, .v (.slice a4 ((x3).length) (k4))), (2, .v (.func (.func f6) #[] ⟨ca6⟩)), (3, .v (.func (.func f8) #[] ⟨ca8⟩)), (4, .v (.func (.func f10) #[] ⟨ca10⟩)), (5, .v (.func (.func f12) #[] ⟨ca12⟩)), (12, .v (.int .i64 (x13))), (13, .v (.int .i64 ((IntKind.i64.wrap (x14 + (1 : Int))))))] ⟨rfl, rfl, rfl, rfl, rfl, rfl, rfl, rfl, trivial⟩ ⟨n15, Nat.lt_succ_self _, x37, q0, q1, q2, x13, (IntKind.i64.wrap (x14 + (1 : Int))), rfl, rfl, SlAt.mono h26 hv50, SlAt.mono h27 hv50, h28.mono hv50, h29.mono hv50, h30.mono hv50, h31.mono hv50, hrel2, hF⟩
        · skip
          refine Exec.ifF rfl hb ?_
          refine Exec.run tyOk 400 rfl ?_
          refine Exec.drawsE tyOk [] [0, 1, 2] [(0, true), (1, true), (2, true), (3, true), (4, true), (5, true), (6, true), (7, true), (8, true), (9, false)] (by kernel_rfl) ?_
          refine Exec.run tyOk 400 rfl ?_
          obtain ⟨q38, hF⟩ := req_some hF
          obtain ⟨c39, hr39, hd39⟩ := SlAt.get h26 q38
          obtain rfl := hr39
          refine Exec.fia tyOk rfl rfl rfl ⟨q38.1, q38.2, hd39.some⟩ ?_
          refine Exec.run tyOk 400 rfl ?_
          refine Exec.fld tyOk (x := .agg ⟨[.string ⟨⟨(atI x1 x13).Key⟩⟩, .int .i64 ((atI x1 x13).Val.Kind), .int .i64 ((atI x1 x13).Val.N), .string ⟨⟨(atI x1 x13).Val.S⟩⟩]⟩) rfl rfl rfl hd39 rfl rfl ?_
          refine Exec.run tyOk 400 rfl ?_
          obtain ⟨q40, hF⟩ := req_some hF
          obtain ⟨c41, hr41, hd41⟩ := SlAt.get h27 q40
          obtain rfl := hr41
          refine Exec.fia tyOk rfl rfl rfl ⟨q40.1, q40.2, hd41.some⟩ ?_
          refine Exec.run tyOk 400 rfl ?_
          refine Exec.fld tyOk (x := .agg ⟨[.string ⟨⟨(atI x3 x14).Key⟩⟩, .int .i64 ((atI x3 x14).Val.Kind), .int .i64 ((atI x3 x14).Val.N), .string ⟨⟨(atI x3 x14).Val.S⟩⟩]⟩) rfl rfl rfl hd41 rfl rfl ?_
          refine Exec.run tyOk 400 rfl ?_
          obtain ⟨x42, hx42, hF⟩ := bnd_some hF
          refine Exec.callR [0, 1, 2] (rs := [r0, r1, r2]) rfl rfl rfl rfl rfl rfl (h31 _ (VLe.refl _) s r0 r1 r2 _ _ _ hrel hx42) ?_
          rintro V50 _ _ hv50 ⟨rfl, q0, q1, q2, rfl, hrel2⟩
          refine ⟨_, rfl, ?_⟩
          refine Exec.run tyOk 400 rfl ?_
          exact Exec.round [(0, .v (.slice a2 ((x1).length) (k2))), (1, .v (.slice a4 ((x3).length) (k4))), (2, .v (.func (.func f6) #[] ⟨ca6⟩)), (3, .v (.func (.func f8) #[] ⟨ca8⟩)), (4, .v (.func (.func f10) #[] ⟨ca10⟩)), (5, .v (.func (.func f12) #[] ⟨ca12⟩)), (12, .v (.int .i64 ((IntKind.i64.wrap (x13 + (1 : Int)))))), (13, .v (.int .i64 ((IntKind.i64.wrap (x14 + (1 : Int))))))] ⟨rfl, rfl, rfl, rfl, rfl, rfl, rfl, rfl, trivial⟩ ⟨n15, Nat.lt_succ_self _, x42, q0, q1, q2, (IntKind.i64.wrap (x13 + (1 : Int))), (IntKind.i64.wrap (x14 + (1 : Int))), rfl, rfl, SlAt.mono h26 hv50, SlAt.mono h27 hv50, h28.mono hv50, h29.mono hv50, h30.mono hv50, h31.mono hv50, hrel2, hF⟩
    · skip
      refine Exec.run tyOk 400 rfl ?_
      rcases cond_some hF with ⟨hb, hF⟩ | ⟨hb, hF⟩
      · skip
        refine Exec.ifT rfl hb ?_
        refine Exec.run tyOk 400 rfl ?_
        exact Exec.round [(0, .v (.slice a2 ((x1).length) (k2))), (1, .v (.slice a4 ((x3).length) (k4))), (2, .v (.func (.func f6) #[] ⟨ca6⟩)), (3, .v (.func (.func f8) #[] ⟨ca8⟩)), (4, .v (.func (.func f10) #[] ⟨ca10⟩)), (5, .v (.func (.func f12) #[] ⟨ca12⟩)), (12, .v (.int .i64 (x13))), (13, .v (.int .i64 (x14))), (14, .v (.int .i64 ((1 : Int))))] ⟨rfl, rfl, rfl, rfl, rfl, rfl, rfl, rfl, rfl, trivial⟩ ⟨(1 : Int), rfl, rfl, h17, h18, h19, h20, h21, h22, hrel, hF⟩
      · skip
        refine Exec.ifF rfl hb ?_
        refine Exec.run tyOk 400 rfl ?_
        rcases cond_some hF with ⟨hb, hF⟩ | ⟨hb, hF⟩
        · skip
          refine Exec.ifT rfl hb ?_
          refine Exec.run tyOk 400 rfl ?_
          exact Exec.round [(0, .v (.slice a2 ((x1).length) (k2))), (1, .v (.slice a4 ((x3).length) (k4))), (2, .v (.func (.func f6) #[] ⟨ca6⟩)), (3, .v (.func (.func f8) #[] ⟨ca8⟩)), (4, .v (.func (.func f10) #[] ⟨ca10⟩)), (5, .v (.func (.func f12) #[] ⟨ca12⟩)), (12, .v (.int .i64 (x13))), (13, .v (.int .i64 (x14))), (14, .v (.int .i64 ((-1 : Int))))] ⟨rfl, rfl, rfl, rfl, rfl, rfl, rfl, rfl, rfl, trivial⟩ ⟨(-1 : Int), rfl, rfl, h17, h18, h19, h20, h21, h22, hrel, hF⟩
        · skip
          refine Exec.ifF rfl hb ?_
          refine Exec.run tyOk 400 rfl ?_
          refine Exec.draws tyOk [(0, true), (1, true), (2, true), (3, true), (4, true), (5, true), (6, true), (7, true), (8, true), (9, false), (10, false)] rfl (by kernel_rfl) ?_
          refine Exec.run tyOk 400 rfl ?_
          obtain ⟨q43, hF⟩ := req_some hF
          obtain ⟨c44, hr44, hd44⟩ := SlAt.get h17 q43
          obtain rfl := hr44
          refine Exec.fia tyOk rfl rfl rfl ⟨q43.1, q43.2, hd44.some⟩ ?_
          refine Exec.run tyOk 400 rfl ?_
          refine Exec.fld tyOk (x := .agg ⟨[.string ⟨⟨(atI x1 x13).Key⟩⟩, .int .i64 ((atI x1 x13).Val.Kind), .int .i64 ((atI x1 x13).Val.N), .string ⟨⟨(atI x1 x13).Val.S⟩⟩]⟩) rfl rfl rfl hd44 rfl rfl ?_
          refine Exec.run tyOk 400 rfl ?_
          obtain ⟨q45, hF⟩ := req_some hF
          obtain ⟨c46, hr46, hd46⟩ := SlAt.get h18 q45
          obtain rfl := hr46
          refine Exec.fia tyOk rfl rfl rfl ⟨q45.1, q45.2, hd46.some⟩ ?_
          refine Exec.run tyOk 400 rfl ?_
          refine Exec.fld tyOk (x := .agg ⟨[.string ⟨⟨(atI x3 x14).Key⟩⟩, .int .i64 ((atI x3 x14).Val.Kind), .int .i64 ((atI x3 x14).Val.N), .string ⟨⟨(atI x3 x14).Val.S⟩⟩]⟩) rfl rfl rfl hd46 rfl rfl ?_
          refine Exec.run tyOk 400 rfl ?_
          obtain ⟨x47, hx47, hF⟩ := bnd_some hF
          refine Exec.callS (.int .i64 (x47)) rfl rfl (h19.at hx47) ?_
          refine Exec.run tyOk 400 rfl ?_
          exact Exec.round [(0, .v (.slice a2 ((x1).length) (k2))), (1, .v (.slice a4 ((x3).length) (k4))), (2, .v (.func (.func f6) #[] ⟨ca6⟩)), (3, .v (.func (.func f8) #[] ⟨ca8⟩)), (4, .v (.func (.func f10) #[] ⟨ca10⟩)), (5, .v (.func (.func f12) #[] ⟨ca12⟩)), (12, .v (.int .i64 (x13))), (13, .v (.int .i64 (x14))), (14, .v (.int .i64 (x47)))] ⟨rfl, rfl, rfl, rfl, rfl, rfl, rfl, rfl, rfl, trivial⟩ ⟨x47, rfl, rfl, h17, h18, h19, h20, h21, h22, hrel, hF⟩
  · skip
    refine Exec.ifF rfl hb ?_
    refine Exec.run tyOk 400 rfl ?_
    obtain rfl := some_inj hF
    exact Exec.fall tyOk rfl rfl ⟨[r0, r1, r2], rfl, rfl, rfl, r0, r1, r2, rfl, hrel⟩



def F_slices_Index_string_string_L1 (x1 : List Str) (x3 : Str) (J4 : Option Int) : Nat → Int → Option Int
  | 0, _ => none
  | n7 + 1, x6 => (cond (decide (x6 < (((x1).length : Nat) : Int))) (req (0 ≤ x6 ∧ x6 < ((x1).length : Int)) (cond (x3 == (atI x1 x6)) (some x6) (F_slices_Index_string_string_L1 x1 x3 J4 n7 ((IntKind.i64.wrap (x6 + (1 : Int))))))) J4)

def F_slices_Index_string_string (x1 : List Str) (x3 : Str) : Option Int :=
  (jn ((some (-1 : Int))) (fun J4 => (F_slices_Index_string_string_L1 x1 x3 J4 (((((x1).length : Nat) : Int)).toNat + 1) ((0 : Int)))))

set_option maxRecDepth 100000 in
theorem W_slices_Index_string_string {V : View} (x1 : List Str) (x3 : Str) {a2 : Option Addr} {k2 : Nat} (h2 : SlAt cStr V a2 k2 x1) {r : Int} (hF : F_slices_Index_string_string x1 x3 = some r) :
    Spec Tryz.prog 115 [.slice a2 ((x1).length) (k2), .string ⟨⟨x3⟩⟩] V (fun _ v => v = .int .i64 (r)) := by
  unfold F_slices_Index_string_string at hF
  refine Spec.enter (T := tyT) Tryz.func115 rfl (by kernel_rfl) rfl rfl rfl ?_
  refine Exec.run tyOk 11 rfl ?_
  obtain ⟨J4, hJ4, hF⟩ := jn_some hF
  refine Exec.seam (fun L' V' M' => L' = [] ∧ M' = [] ∧ J4 = some r) rfl ?_ ?_
  · rintro L' V5 M' ⟨rfl, rfl, hF⟩
    subst hJ4
    refine Exec.run tyOk 400 rfl ?_
    obtain rfl := some_inj hF
    exact Exec.ret tyOk rfl rfl rfl
  · skip
    refine Exec.run tyOk 400 rfl ?_
    refine Exec.loop (fun n7 L' V' M' => ∃ (x6 : Int), L' = [(0, .v (.slice a2 ((x1).length) (k2))), (1, .v (.string ⟨⟨x3⟩⟩)), (7, .v (.int .i64 ((((x1).length : Nat) : Int)))), (8, .v (.int .i64 (x6)))] ∧ M' = [] ∧ SlAt cStr V' a2 k2 x1 ∧ F_slices_Index_string_string_L1 x1 x3 J4 n7 x6 = some r) ⟨(((((x1).length : Nat) : Int)).toNat + 1), [(0, .v (.slice a2 ((x1).length) (k2))), (1, .v (.string ⟨⟨x3⟩⟩)), (7, .v (.int .i64 ((((x1).length : Nat) : Int)))), (8, .v (.int .i64 ((0 : Int))))], ⟨rfl, rfl, rfl, rfl, trivial⟩, (0 : Int), rfl, rfl, h2, hF⟩ ?_
    rintro n7 L' V8 M' ⟨x6, rfl, rfl, h9, hF⟩
    rcases n7 with _ | n7
    · exact absurd hF (by simp [F_slices_Index_string_string_L1])
    rw [F_slices_Index_string_string_L1] at hF
    refine Exec.run tyOk 400 rfl ?_
    rcases cond_some hF with ⟨hb, hF⟩ | ⟨hb, hF⟩
    · skip
      refine Exec.ifT rfl hb ?_
      refine Exec.run tyOk 400 rfl ?_
      obtain ⟨q10, hF⟩ := req_some hF
      obtain ⟨c11, hr11, hd11⟩ := SlAt.get h9 q10
      obtain rfl := hr11
      refine Exec.ia tyOk rfl rfl ⟨q10.1, q10.2, hd11.some⟩ ?_
      refine Exec.run tyOk 400 rfl ?_
      refine Exec.ld tyOk (x := .string ⟨⟨(atI x1 x6)⟩⟩) rfl rfl hd11 rfl rfl ?_
      refine Exec.run tyOk 400 rfl ?_
      rcases cond_some hF with ⟨hb, hF⟩ | ⟨hb, hF⟩
      · skip
        refine Exec.ifT rfl hb ?_
        refine Exec.run tyOk 400 rfl ?_
        obtain rfl := some_inj hF
        exact Exec.ret tyOk rfl rfl rfl
      · skip
        refine Exec.ifF rfl hb ?_
        refine Exec.run tyOk 400 rfl ?_
        exact Exec.round [(0, .v (.slice a2 ((x1).length) (k2))), (1, .v (.string ⟨⟨x3⟩⟩)), (7, .v (.int .i64 ((((x1).length : Nat) : Int)))), (8, .v (.int .i64 ((IntKind.i64.wrap (x6 + (1 : Int))))))] ⟨rfl, rfl, rfl, rfl, trivial⟩ ⟨n7, Nat.lt_succ_self _, (IntKind.i64.wrap (x6 + (1 : Int))), rfl, rfl, h9, hF⟩
    · skip
      refine Exec.ifF rfl hb ?_
      refine Exec.run tyOk 400 rfl ?_
      exact Exec.round [] trivial ⟨rfl, rfl, hF⟩

end Go.Proofs.YtcgmfmpfmfjmoaaGreat
