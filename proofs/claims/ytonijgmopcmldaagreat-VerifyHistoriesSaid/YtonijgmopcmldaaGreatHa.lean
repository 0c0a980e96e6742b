/-
  Functions of the program as their counterparts say them (printed by a program).
  Conditions: none.
-/
import Derived.Test.YtonijgmopcmldaaGreatMh
import Derived.Test.YtonijgmopcmldaaGreatSh
import Derived.Test.YtonijgmopcmldaaGreatTy
set_option linter.all false
namespace Go.Proofs.YtonijgmopcmldaaGreat

structure TValue where
  Kind : Int
  N : Int
  S : Str
instance : Inhabited TValue := ⟨⟨default, default, default⟩⟩
def cTValue : Cd TValue where
  sz := 3
  rep _ s cs := cs = [.int .i64 (s.Kind), .int .i64 (s.N), .string ⟨⟨s.S⟩⟩]
  len h := by subst h; rfl
  mono _ h := h
  one h := by subst h; intro u hu; simp only [List.mem_cons, List.not_mem_nil, or_false] at hu; rcases hu with rfl | rfl | rfl <;> rfl
  pos := by omega
  dflt := ⟨_, fun _ => rfl⟩

structure TPair where
  Key : Str
  Val : TValue
instance : Inhabited TPair := ⟨⟨default, default⟩⟩
def cTPair : Cd TPair where
  sz := 4
  rep _ s cs := cs = [.string ⟨⟨s.Key⟩⟩, .int .i64 (s.Val.Kind), .int .i64 (s.Val.N), .string ⟨⟨s.Val.S⟩⟩]
  len h := by subst h; rfl
  mono _ h := h
  one h := by subst h; intro u hu; simp only [List.mem_cons, List.not_mem_nil, or_false] at hu; rcases hu with rfl | rfl | rfl | rfl <;> rfl
  pos := by omega
  dflt := ⟨_, fun _ => rfl⟩

structure TVersion where
  At : Int
  Val : TValue
instance : Inhabited TVersion := ⟨⟨default, default⟩⟩
def cTVersion : Cd TVersion where
  sz := 4
  rep _ s cs := cs = [.int .i64 (s.At), .int .i64 (s.Val.Kind), .int .i64 (s.Val.N), .string ⟨⟨s.Val.S⟩⟩]
  len h := by subst h; rfl
  mono _ h := h
  one h := by subst h; intro u hu; simp only [List.mem_cons, List.not_mem_nil, or_false] at hu; rcases hu with rfl | rfl | rfl | rfl <;> rfl
  pos := by omega
  dflt := ⟨_, fun _ => rfl⟩

structure TRow where
  Key : Str
  Vers : List TVersion
instance : Inhabited TRow := ⟨⟨default, default⟩⟩
def cTRow : Cd TRow where
  sz := 2
  rep V s cs := ∃ (a1 : Option Addr) (k1 : Nat), cs = [.string ⟨⟨s.Key⟩⟩, .slice a1 ((s.Vers).length) (k1)] ∧ SlAt cTVersion V a1 k1 s.Vers
  len h := by obtain ⟨a1, k1, rfl, _⟩ := h; rfl
  mono hv h := by
    obtain ⟨a1, k1, rfl, h1⟩ := h
    exact ⟨a1, k1, rfl, h1.mono hv⟩
  one h := by obtain ⟨a1, k1, rfl, _⟩ := h; intro u hu; simp only [List.mem_cons, List.not_mem_nil, or_false] at hu; rcases hu with rfl | rfl <;> rfl
  pos := by omega
  dflt := ⟨[.string ⟨⟨[]⟩⟩, .slice none (0) (0)], fun _ => ⟨none, 0, rfl, SlAt.nil⟩⟩

structure TStore where
  Floor : Int
  Last : Int
  Rows : List TRow
instance : Inhabited TStore := ⟨⟨default, default, default⟩⟩
def cTStore : Cd TStore where
  sz := 3
  rep V s cs := ∃ (a1 : Option Addr) (k1 : Nat), cs = [.int .i64 (s.Floor), .int .i64 (s.Last), .slice a1 ((s.Rows).length) (k1)] ∧ SlAt cTRow V a1 k1 s.Rows
  len h := by obtain ⟨a1, k1, rfl, _⟩ := h; rfl
  mono hv h := by
    obtain ⟨a1, k1, rfl, h1⟩ := h
    exact ⟨a1, k1, rfl, h1.mono hv⟩
  one h := by obtain ⟨a1, k1, rfl, _⟩ := h; intro u hu; simp only [List.mem_cons, List.not_mem_nil, or_false] at hu; rcases hu with rfl | rfl | rfl <;> rfl
  pos := by omega
  dflt := ⟨[.int .i64 (0), .int .i64 (0), .slice none (0) (0)], fun _ => ⟨none, 0, rfl, SlAt.nil⟩⟩

structure TTree where
  Buckets : List Int
  Root : Int
instance : Inhabited TTree := ⟨⟨default, default⟩⟩
def cTTree : Cd TTree where
  sz := 2
  rep V s cs := ∃ (a1 : Option Addr) (k1 : Nat), cs = [.slice a1 ((s.Buckets).length) (k1), .int .u64 (s.Root)] ∧ SlAt (cInt .u64) V a1 k1 s.Buckets
  len h := by obtain ⟨a1, k1, rfl, _⟩ := h; rfl
  mono hv h := by
    obtain ⟨a1, k1, rfl, h1⟩ := h
    exact ⟨a1, k1, rfl, h1.mono hv⟩
  one h := by obtain ⟨a1, k1, rfl, _⟩ := h; intro u hu; simp only [List.mem_cons, List.not_mem_nil, or_false] at hu; rcases hu with rfl | rfl <;> rfl
  pos := by omega
  dflt := ⟨[.slice none (0) (0), .int .u64 (0)], fun _ => ⟨none, 0, rfl, SlAt.nil⟩⟩

def F_clockworklaw54_numbers_L1 (x1 : List Int) (x3 : List Int) (J5 : Option Bool) : Nat → Int → Option Bool
  | 0, _ => none
  | n8 + 1, x7 => (cond (decide (x7 < (((x1).length : Nat) : Int))) (req (0 ≤ x7 ∧ x7 < ((x1).length : Int)) (req (0 ≤ x7 ∧ x7 < ((x3).length : Int)) (cond ((atI x1 x7) != (atI x3 x7)) (some false) (F_clockworklaw54_numbers_L1 x1 x3 J5 n8 ((IntKind.i64.wrap (x7 + (1 : Int)))))))) J5)

def F_clockworklaw54_numbers (x1 : List Int) (x3 : List Int) : Option Bool :=
  (cond ((((x1).length : Nat) : Int) != (((x3).length : Nat) : Int)) (some false) (jn ((some true)) (fun J5 => (F_clockworklaw54_numbers_L1 x1 x3 J5 (((((x1).length : Nat) : Int)).toNat + 1) ((0 : Int))))))

set_option maxRecDepth 100000 in
theorem W_clockworklaw54_numbers {V : View} (x1 : List Int) (x3 : List Int) {a2 : Option Addr} {k2 : Nat} {a4 : Option Addr} {k4 : Nat} (h2 : SlAt (cInt .u64) V a2 k2 x1) (h4 : SlAt (cInt .u64) V a4 k4 x3) {r : Bool} (hF : F_clockworklaw54_numbers x1 x3 = some r) :
    Spec Tryz.prog 11 [.slice a2 ((x1).length) (k2), .slice a4 ((x3).length) (k4)] V (fun _ v => v = .bool (r)) := by
  unfold F_clockworklaw54_numbers at hF
  refine Spec.enter (T := tyT) Tryz.func11 rfl (by kernel_rfl) rfl rfl rfl ?_
  refine Exec.run tyOk 400 rfl ?_
  rcases cond_some hF with ⟨hb, hF⟩ | ⟨hb, hF⟩
  · skip
    refine Exec.ifT rfl hb ?_
    refine Exec.run tyOk 400 rfl ?_
    obtain rfl := some_inj hF
    exact Exec.ret tyOk rfl rfl rfl
  · skip
    refine Exec.ifF rfl hb ?_
    refine Exec.run tyOk 6 rfl ?_
    obtain ⟨J5, hJ5, hF⟩ := jn_some hF
    refine Exec.seam (fun L' V' M' => L' = [] ∧ M' = [] ∧ J5 = some r) rfl ?_ ?_
    · rintro L' V6 M' ⟨rfl, rfl, hF⟩
      subst hJ5
      refine Exec.run tyOk 400 rfl ?_
      obtain rfl := some_inj hF
      exact Exec.ret tyOk rfl rfl rfl
    · skip
      refine Exec.run tyOk 400 rfl ?_
      refine Exec.loop (fun n8 L' V' M' => ∃ (x7 : Int), L' = [(0, .v (.slice a2 ((x1).length) (k2))), (1, .v (.slice a4 ((x3).length) (k4))), (5, .v (.int .i64 (x7)))] ∧ M' = [] ∧ SlAt (cInt .u64) V' a2 k2 x1 ∧ SlAt (cInt .u64) V' a4 k4 x3 ∧ F_clockworklaw54_numbers_L1 x1 x3 J5 n8 x7 = some r) ⟨(((((x1).length : Nat) : Int)).toNat + 1), [(0, .v (.slice a2 ((x1).length) (k2))), (1, .v (.slice a4 ((x3).length) (k4))), (5, .v (.int .i64 ((0 : Int))))], ⟨rfl, rfl, rfl, trivial⟩, (0 : Int), rfl, rfl, h2, h4, hF⟩ ?_
      rintro n8 L' V9 M' ⟨x7, rfl, rfl, h10, h11, hF⟩
      rcases n8 with _ | n8
      · exact absurd hF (by simp [F_clockworklaw54_numbers_L1])
      rw [F_clockworklaw54_numbers_L1] at hF
      refine Exec.run tyOk 400 rfl ?_
      rcases cond_some hF with ⟨hb, hF⟩ | ⟨hb, hF⟩
      · skip
        refine Exec.ifT rfl hb ?_
        refine Exec.run tyOk 400 rfl ?_
        refine Exec.draws tyOk [(0, true), (1, true), (2, true), (3, true), (4, true), (5, true), (6, true), (7, true), (8, true)] rfl (by kernel_rfl) ?_
        refine Exec.run tyOk 400 rfl ?_
        obtain ⟨q12, hF⟩ := req_some hF
        obtain ⟨c13, hr13, hd13⟩ := SlAt.get h10 q12
        obtain rfl := hr13
        refine Exec.fia tyOk rfl rfl rfl ⟨q12.1, q12.2, hd13.some⟩ ?_
        refine Exec.run tyOk 400 rfl ?_
        refine Exec.fld tyOk (x := .int .u64 ((atI x1 x7))) rfl rfl rfl hd13 rfl rfl ?_
        refine Exec.run tyOk 400 rfl ?_
        obtain ⟨q14, hF⟩ := req_some hF
        obtain ⟨c15, hr15, hd15⟩ := SlAt.get h11 q14
        obtain rfl := hr15
        refine Exec.fia tyOk rfl rfl rfl ⟨q14.1, q14.2, hd15.some⟩ ?_
        refine Exec.run tyOk 400 rfl ?_
        refine Exec.fld tyOk (x := .int .u64 ((atI x3 x7))) rfl rfl rfl hd15 rfl rfl ?_
        refine Exec.run tyOk 400 rfl ?_
        rcases cond_some hF with ⟨hb, hF⟩ | ⟨hb, hF⟩
        · skip
          refine Exec.ifT rfl hb ?_
          refine Exec.run tyOk 400 rfl ?_
          obtain rfl := some_inj hF
          exact Exec.ret tyOk rfl rfl rfl
        · skip
          refine Exec.ifF rfl hb ?_
          refine Exec.run tyOk 400 rfl ?_
          exact Exec.round [(0, .v (.slice a2 ((x1).length) (k2))), (1, .v (.slice a4 ((x3).length) (k4))), (5, .v (.int .i64 ((IntKind.i64.wrap (x7 + (1 : Int))))))] ⟨rfl, rfl, rfl, trivial⟩ ⟨n8, Nat.lt_succ_self _, (IntKind.i64.wrap (x7 + (1 : Int))), rfl, rfl, h10, h11, hF⟩
      · skip
        refine Exec.ifF rfl hb ?_
        refine Exec.run tyOk 400 rfl ?_
        exact Exec.round [] trivial ⟨rfl, rfl, hF⟩

def F_verify_Bisect_L1 (x1 : List Int) (x3 : List Int) (J11 : Int → Int → Option (Int × Int)) : Nat → Int → Int → Int → Option (Int × Int)
  | 0, _, _, _ => none
  | n16 + 1, x13, x14, x15 => (cond (decide ((1 : Int) < (IntKind.i64.wrap (x13 - x14)))) (req ((2 : Int) ≠ 0) (req (0 ≤ (IntKind.i64.wrap (x14 + (quoI .i64 (IntKind.i64.wrap (x13 - x14)) (2 : Int)))) ∧ (IntKind.i64.wrap (x14 + (quoI .i64 (IntKind.i64.wrap (x13 - x14)) (2 : Int)))) < ((x1).length : Int)) (req (0 ≤ (IntKind.i64.wrap (x14 + (quoI .i64 (IntKind.i64.wrap (x13 - x14)) (2 : Int)))) ∧ (IntKind.i64.wrap (x14 + (quoI .i64 (IntKind.i64.wrap (x13 - x14)) (2 : Int)))) < ((x3).length : Int)) (cond ((atI x1 ((IntKind.i64.wrap (x14 + (quoI .i64 (IntKind.i64.wrap (x13 - x14)) (2 : Int)))))) != (atI x3 ((IntKind.i64.wrap (x14 + (quoI .i64 (IntKind.i64.wrap (x13 - x14)) (2 : Int))))))) (F_verify_Bisect_L1 x1 x3 J11 n16 ((IntKind.i64.wrap (x14 + (quoI .i64 (IntKind.i64.wrap (x13 - x14)) (2 : Int))))) x14 ((IntKind.i64.wrap (x15 + (1 : Int))))) (F_verify_Bisect_L1 x1 x3 J11 n16 x13 ((IntKind.i64.wrap (x14 + (quoI .i64 (IntKind.i64.wrap (x13 - x14)) (2 : Int))))) ((IntKind.i64.wrap (x15 + (1 : Int))))))))) (J11 x13 x15))

def F_verify_Bisect (x1 : List Int) (x3 : List Int) : Option (Int × Int) :=
  (cond (((((x1).length : Nat) : Int) != (((x3).length : Nat) : Int)) || ((((x1).length : Nat) : Int) == (0 : Int))) (some ((-1 : Int), (0 : Int))) (req (0 ≤ (IntKind.i64.wrap ((((x1).length : Nat) : Int) - (1 : Int))) ∧ (IntKind.i64.wrap ((((x1).length : Nat) : Int) - (1 : Int))) < ((x1).length : Int)) (req (0 ≤ (IntKind.i64.wrap ((((x1).length : Nat) : Int) - (1 : Int))) ∧ (IntKind.i64.wrap ((((x1).length : Nat) : Int) - (1 : Int))) < ((x3).length : Int)) (cond ((atI x1 ((IntKind.i64.wrap ((((x1).length : Nat) : Int) - (1 : Int))))) == (atI x3 ((IntKind.i64.wrap ((((x1).length : Nat) : Int) - (1 : Int)))))) (some ((-1 : Int), (1 : Int))) (jn (fun (x9 : Int) (x10 : Int) => (some (x9, x10))) (fun J11 => (F_verify_Bisect_L1 x1 x3 J11 (((IntKind.i64.wrap ((IntKind.i64.wrap ((((x1).length : Nat) : Int) - (1 : Int))) - (-1 : Int)))).toNat + 1) ((IntKind.i64.wrap ((((x1).length : Nat) : Int) - (1 : Int)))) ((-1 : Int)) ((1 : Int)))))))))

set_option maxRecDepth 100000 in
theorem W_verify_Bisect {V : View} (x1 : List Int) (x3 : List Int) {a2 : Option Addr} {k2 : Nat} {a4 : Option Addr} {k4 : Nat} (h2 : SlAt (cInt .u64) V a2 k2 x1) (h4 : SlAt (cInt .u64) V a4 k4 x3) {r : Int × Int} (hF : F_verify_Bisect x1 x3 = some r) :
    Spec Tryz.prog 14 [.slice a2 ((x1).length) (k2), .slice a4 ((x3).length) (k4)] V (fun _ v => v = .tuple ⟨[.int .i64 (r.1), .int .i64 (r.2)]⟩) := by
  unfold F_verify_Bisect at hF
  refine Spec.enter (T := tyT) Tryz.func14 rfl (by kernel_rfl) rfl rfl rfl ?_
  refine Exec.run tyOk 400 rfl ?_
  rcases cond_some hF with ⟨hb, hF⟩ | ⟨hb, hF⟩
  · skip
    refine Exec.ifT rfl hb ?_
    refine Exec.run tyOk 400 rfl ?_
    obtain rfl := some_inj hF
    exact Exec.ret tyOk rfl rfl rfl
  · skip
    refine Exec.ifF rfl hb ?_
    refine Exec.run tyOk 400 rfl ?_
    refine Exec.draws tyOk [(0, true), (1, true), (2, true), (3, true), (4, true), (5, true), (6, true), (7, true), (8, true)] rfl (by kernel_rfl) ?_
    refine Exec.run tyOk 400 rfl ?_
    obtain ⟨q5, hF⟩ := req_some hF
    obtain ⟨c6, hr6, hd6⟩ := SlAt.get h2 q5
    obtain rfl := hr6
    refine Exec.fia tyOk rfl rfl rfl ⟨q5.1, q5.2, hd6.some⟩ ?_
    refine Exec.run tyOk 400 rfl ?_
    refine Exec.fld tyOk (x := .int .u64 ((atI x1 ((IntKind.i64.wrap ((((x1).length : Nat) : Int) - (1 : Int))))))) rfl rfl rfl hd6 rfl rfl ?_
    refine Exec.run tyOk 400 rfl ?_
    obtain ⟨q7, hF⟩ := req_some hF
    obtain ⟨c8, hr8, hd8⟩ := SlAt.get h4 q7
    obtain rfl := hr8
    refine Exec.fia tyOk rfl rfl rfl ⟨q7.1, q7.2, hd8.some⟩ ?_
    refine Exec.run tyOk 400 rfl ?_
    refine Exec.fld tyOk (x := .int .u64 ((atI x3 ((IntKind.i64.wrap ((((x1).length : Nat) : Int) - (1 : Int))))))) rfl rfl rfl hd8 rfl rfl ?_
    refine Exec.run tyOk 400 rfl ?_
    rcases cond_some hF with ⟨hb, hF⟩ | ⟨hb, hF⟩
    · skip
      refine Exec.ifT rfl hb ?_
      refine Exec.run tyOk 400 rfl ?_
      obtain rfl := some_inj hF
      exact Exec.ret tyOk rfl rfl rfl
    · skip
      refine Exec.ifF rfl hb ?_
      refine Exec.run tyOk 10 rfl ?_
      obtain ⟨J11, hJ11, hF⟩ := jn_some hF
      refine Exec.seam (fun L' V' M' => ∃ (x9 : Int) (x10 : Int), L' = [(6, .v (.int .i64 (x9))), (8, .v (.int .i64 (x10)))] ∧ M' = [] ∧ J11 x9 x10 = some r) rfl ?_ ?_
      · rintro L' V12 M' ⟨x9, x10, rfl, rfl, hF⟩
        subst hJ11
        refine Exec.run tyOk 400 rfl ?_
        obtain rfl := some_inj hF
        exact Exec.ret tyOk rfl rfl rfl
      · skip
        refine Exec.run tyOk 400 rfl ?_
        refine Exec.loop (fun n16 L' V' M' => ∃ (x13 : Int) (x14 : Int) (x15 : Int), L' = [(0, .v (.slice a2 ((x1).length) (k2))), (1, .v (.slice a4 ((x3).length) (k4))), (6, .v (.int .i64 (x13))), (7, .v (.int .i64 (x14))), (8, .v (.int .i64 (x15)))] ∧ M' = [] ∧ SlAt (cInt .u64) V' a2 k2 x1 ∧ SlAt (cInt .u64) V' a4 k4 x3 ∧ F_verify_Bisect_L1 x1 x3 J11 n16 x13 x14 x15 = some r) ⟨(((IntKind.i64.wrap ((IntKind.i64.wrap ((((x1).length : Nat) : Int) - (1 : Int))) - (-1 : Int)))).toNat + 1), [(0, .v (.slice a2 ((x1).length) (k2))), (1, .v (.slice a4 ((x3).length) (k4))), (6, .v (.int .i64 ((IntKind.i64.wrap ((((x1).length : Nat) : Int) - (1 : Int)))))), (7, .v (.int .i64 ((-1 : Int)))), (8, .v (.int .i64 ((1 : Int))))], ⟨rfl, rfl, rfl, rfl, rfl, trivial⟩, (IntKind.i64.wrap ((((x1).length : Nat) : Int) - (1 : Int))), (-1 : Int), (1 : Int), rfl, rfl, h2, h4, hF⟩ ?_
        rintro n16 L' V17 M' ⟨x13, x14, x15, rfl, rfl, h18, h19, hF⟩
        rcases n16 with _ | n16
        · exact absurd hF (by simp [F_verify_Bisect_L1])
        rw [F_verify_Bisect_L1] at hF
        refine Exec.run tyOk 400 rfl ?_
        rcases cond_some hF with ⟨hb, hF⟩ | ⟨hb, hF⟩
        · skip
          refine Exec.ifT rfl hb ?_
          refine Exec.run tyOk 400 rfl ?_
          obtain ⟨q20, hF⟩ := req_some hF
          refine Exec.ari rfl rfl q20 ?_
          refine Exec.run tyOk 400 rfl ?_
          refine Exec.draws tyOk [(0, true), (1, true), (2, true), (3, true), (4, true), (5, true), (6, true), (7, true), (8, true)] rfl (by kernel_rfl) ?_
          refine Exec.run tyOk 400 rfl ?_
          obtain ⟨q21, hF⟩ := req_some hF
          obtain ⟨c22, hr22, hd22⟩ := SlAt.get h18 q21
          obtain rfl := hr22
          refine Exec.fia tyOk rfl rfl rfl ⟨q21.1, q21.2, hd22.some⟩ ?_
          refine Exec.run tyOk 400 rfl ?_
          refine Exec.fld tyOk (x := .int .u64 ((atI x1 ((IntKind.i64.wrap (x14 + (quoI .i64 (IntKind.i64.wrap (x13 - x14)) (2 : Int)))))))) rfl rfl rfl hd22 rfl rfl ?_
          refine Exec.run tyOk 400 rfl ?_
          obtain ⟨q23, hF⟩ := req_some hF
          obtain ⟨c24, hr24, hd24⟩ := SlAt.get h19 q23
          obtain rfl := hr24
          refine Exec.fia tyOk rfl rfl rfl ⟨q23.1, q23.2, hd24.some⟩ ?_
          refine Exec.run tyOk 400 rfl ?_
          refine Exec.fld tyOk (x := .int .u64 ((atI x3 ((IntKind.i64.wrap (x14 + (quoI .i64 (IntKind.i64.wrap (x13 - x14)) (2 : Int)))))))) rfl rfl rfl hd24 rfl rfl ?_
          refine Exec.run tyOk 400 rfl ?_
          rcases cond_some hF with ⟨hb, hF⟩ | ⟨hb, hF⟩
          · skip
            refine Exec.ifT rfl hb ?_
            refine Exec.run tyOk 400 rfl ?_
            exact Exec.round [(0, .v (.slice a2 ((x1).length) (k2))), (1, .v (.slice a4 ((x3).length) (k4))), (6, .v (.int .i64 ((IntKind.i64.wrap (x14 + (quoI .i64 (IntKind.i64.wrap (x13 - x14)) (2 : Int))))))), (7, .v (.int .i64 (x14))), (8, .v (.int .i64 ((IntKind.i64.wrap (x15 + (1 : Int))))))] ⟨rfl, rfl, rfl, rfl, rfl, trivial⟩ ⟨n16, Nat.lt_succ_self _, (IntKind.i64.wrap (x14 + (quoI .i64 (IntKind.i64.wrap (x13 - x14)) (2 : Int)))), x14, (IntKind.i64.wrap (x15 + (1 : Int))), rfl, rfl, h18, h19, hF⟩
          · skip
            refine Exec.ifF rfl hb ?_
            refine Exec.run tyOk 400 rfl ?_
            exact Exec.round [(0, .v (.slice a2 ((x1).length) (k2))), (1, .v (.slice a4 ((x3).length) (k4))), (6, .v (.int .i64 (x13))), (7, .v (.int .i64 ((IntKind.i64.wrap (x14 + (quoI .i64 (IntKind.i64.wrap (x13 - x14)) (2 : Int))))))), (8, .v (.int .i64 ((IntKind.i64.wrap (x15 + (1 : Int))))))] ⟨rfl, rfl, rfl, rfl, rfl, trivial⟩ ⟨n16, Nat.lt_succ_self _, x13, (IntKind.i64.wrap (x14 + (quoI .i64 (IntKind.i64.wrap (x13 - x14)) (2 : Int)))), (IntKind.i64.wrap (x15 + (1 : Int))), rfl, rfl, h18, h19, hF⟩
        · skip
          refine Exec.ifF rfl hb ?_
          refine Exec.run tyOk 400 rfl ?_
          exact Exec.round [(6, .v (.int .i64 (x13))), (8, .v (.int .i64 (x15)))] ⟨rfl, rfl, trivial⟩ ⟨x13, x15, rfl, rfl, hF⟩

def F_clockworkref54_Bisect_L1 (x1 : List Int) (x3 : List Int) (J11 : Int → Int → Option (Int × Int)) : Nat → Int → Int → Int → Option (Int × Int)
  | 0, _, _, _ => none
  | n16 + 1, x13, x14, x15 => (cond (decide ((1 : Int) < (IntKind.i64.wrap (x14 - x13)))) (req ((2 : Int) ≠ 0) (req (0 ≤ (IntKind.i64.wrap (x13 + (quoI .i64 (IntKind.i64.wrap (x14 - x13)) (2 : Int)))) ∧ (IntKind.i64.wrap (x13 + (quoI .i64 (IntKind.i64.wrap (x14 - x13)) (2 : Int)))) < ((x1).length : Int)) (req (0 ≤ (IntKind.i64.wrap (x13 + (quoI .i64 (IntKind.i64.wrap (x14 - x13)) (2 : Int)))) ∧ (IntKind.i64.wrap (x13 + (quoI .i64 (IntKind.i64.wrap (x14 - x13)) (2 : Int)))) < ((x3).length : Int)) (cond ((atI x1 ((IntKind.i64.wrap (x13 + (quoI .i64 (IntKind.i64.wrap (x14 - x13)) (2 : Int)))))) != (atI x3 ((IntKind.i64.wrap (x13 + (quoI .i64 (IntKind.i64.wrap (x14 - x13)) (2 : Int))))))) (F_clockworkref54_Bisect_L1 x1 x3 J11 n16 x13 ((IntKind.i64.wrap (x13 + (quoI .i64 (IntKind.i64.wrap (x14 - x13)) (2 : Int))))) ((IntKind.i64.wrap (x15 + (1 : Int))))) (F_clockworkref54_Bisect_L1 x1 x3 J11 n16 ((IntKind.i64.wrap (x13 + (quoI .i64 (IntKind.i64.wrap (x14 - x13)) (2 : Int))))) x14 ((IntKind.i64.wrap (x15 + (1 : Int))))))))) (J11 x14 x15))

def F_clockworkref54_Bisect (x1 : List Int) (x3 : List Int) : Option (Int × Int) :=
  (cond (((((x1).length : Nat) : Int) != (((x3).length : Nat) : Int)) || ((((x1).length : Nat) : Int) == (0 : Int))) (some ((-1 : Int), (0 : Int))) (req (0 ≤ (IntKind.i64.wrap ((((x1).length : Nat) : Int) - (1 : Int))) ∧ (IntKind.i64.wrap ((((x1).length : Nat) : Int) - (1 : Int))) < ((x1).length : Int)) (req (0 ≤ (IntKind.i64.wrap ((((x1).length : Nat) : Int) - (1 : Int))) ∧ (IntKind.i64.wrap ((((x1).length : Nat) : Int) - (1 : Int))) < ((x3).length : Int)) (cond ((atI x1 ((IntKind.i64.wrap ((((x1).length : Nat) : Int) - (1 : Int))))) == (atI x3 ((IntKind.i64.wrap ((((x1).length : Nat) : Int) - (1 : Int)))))) (some ((-1 : Int), (1 : Int))) (jn (fun (x9 : Int) (x10 : Int) => (some (x9, x10))) (fun J11 => (F_clockworkref54_Bisect_L1 x1 x3 J11 (((IntKind.i64.wrap ((IntKind.i64.wrap ((((x1).length : Nat) : Int) - (1 : Int))) - (-1 : Int)))).toNat + 1) ((-1 : Int)) ((IntKind.i64.wrap ((((x1).length : Nat) : Int) - (1 : Int)))) ((1 : Int)))))))))

set_option maxRecDepth 100000 in
theorem W_clockworkref54_Bisect {V : View} (x1 : List Int) (x3 : List Int) {a2 : Option Addr} {k2 : Nat} {a4 : Option Addr} {k4 : Nat} (h2 : SlAt (cInt .u64) V a2 k2 x1) (h4 : SlAt (cInt .u64) V a4 k4 x3) {r : Int × Int} (hF : F_clockworkref54_Bisect x1 x3 = some r) :
    Spec Tryz.prog 15 [.slice a2 ((x1).length) (k2), .slice a4 ((x3).length) (k4)] V (fun _ v => v = .tuple ⟨[.int .i64 (r.1), .int .i64 (r.2)]⟩) := by
  unfold F_clockworkref54_Bisect at hF
  refine Spec.enter (T := tyT) Tryz.func15 rfl (by kernel_rfl) rfl rfl rfl ?_
  refine Exec.run tyOk 400 rfl ?_
  rcases cond_some hF with ⟨hb, hF⟩ | ⟨hb, hF⟩
  · skip
    refine Exec.ifT rfl hb ?_
    refine Exec.run tyOk 400 rfl ?_
    obtain rfl := some_inj hF
    exact Exec.ret tyOk rfl rfl rfl
  · skip
    refine Exec.ifF rfl hb ?_
    refine Exec.run tyOk 400 rfl ?_
    refine Exec.draws tyOk [(0, true), (1, true), (2, true), (3, true), (4, true), (5, true), (6, true), (7, true), (8, true)] rfl (by kernel_rfl) ?_
    refine Exec.run tyOk 400 rfl ?_
    obtain ⟨q5, hF⟩ := req_some hF
    obtain ⟨c6, hr6, hd6⟩ := SlAt.get h2 q5
    obtain rfl := hr6
    refine Exec.fia tyOk rfl rfl rfl ⟨q5.1, q5.2, hd6.some⟩ ?_
    refine Exec.run tyOk 400 rfl ?_
    refine Exec.fld tyOk (x := .int .u64 ((atI x1 ((IntKind.i64.wrap ((((x1).length : Nat) : Int) - (1 : Int))))))) rfl rfl rfl hd6 rfl rfl ?_
    refine Exec.run tyOk 400 rfl ?_
    obtain ⟨q7, hF⟩ := req_some hF
    obtain ⟨c8, hr8, hd8⟩ := SlAt.get h4 q7
    obtain rfl := hr8
    refine Exec.fia tyOk rfl rfl rfl ⟨q7.1, q7.2, hd8.some⟩ ?_
    refine Exec.run tyOk 400 rfl ?_
    refine Exec.fld tyOk (x := .int .u64 ((atI x3 ((IntKind.i64.wrap ((((x1).length : Nat) : Int) - (1 : Int))))))) rfl rfl rfl hd8 rfl rfl ?_
    refine Exec.run tyOk 400 rfl ?_
    rcases cond_some hF with ⟨hb, hF⟩ | ⟨hb, hF⟩
    · skip
      refine Exec.ifT rfl hb ?_
      refine Exec.run tyOk 400 rfl ?_
      obtain rfl := some_inj hF
      exact Exec.ret tyOk rfl rfl rfl
    · skip
      refine Exec.ifF rfl hb ?_
      refine Exec.run tyOk 2 rfl ?_
      obtain ⟨J11, hJ11, hF⟩ := jn_some hF
      refine Exec.seam (fun L' V' M' => ∃ (x9 : Int) (x10 : Int), L' = [(7, .v (.int .i64 (x9))), (8, .v (.int .i64 (x10)))] ∧ M' = [] ∧ J11 x9 x10 = some r) rfl ?_ ?_
      · rintro L' V12 M' ⟨x9, x10, rfl, rfl, hF⟩
        subst hJ11
        refine Exec.run tyOk 400 rfl ?_
        obtain rfl := some_inj hF
        exact Exec.ret tyOk rfl rfl rfl
      · skip
        refine Exec.run tyOk 400 rfl ?_
        refine Exec.loop (fun n16 L' V' M' => ∃ (x13 : Int) (x14 : Int) (x15 : Int), L' = [(0, .v (.slice a2 ((x1).length) (k2))), (1, .v (.slice a4 ((x3).length) (k4))), (6, .v (.int .i64 (x13))), (7, .v (.int .i64 (x14))), (8, .v (.int .i64 (x15)))] ∧ M' = [] ∧ SlAt (cInt .u64) V' a2 k2 x1 ∧ SlAt (cInt .u64) V' a4 k4 x3 ∧ F_clockworkref54_Bisect_L1 x1 x3 J11 n16 x13 x14 x15 = some r) ⟨(((IntKind.i64.wrap ((IntKind.i64.wrap ((((x1).length : Nat) : Int) - (1 : Int))) - (-1 : Int)))).toNat + 1), [(0, .v (.slice a2 ((x1).length) (k2))), (1, .v (.slice a4 ((x3).length) (k4))), (6, .v (.int .i64 ((-1 : Int)))), (7, .v (.int .i64 ((IntKind.i64.wrap ((((x1).length : Nat) : Int) - (1 : Int)))))), (8, .v (.int .i64 ((1 : Int))))], ⟨rfl, rfl, rfl, rfl, rfl, trivial⟩, (-1 : Int), (IntKind.i64.wrap ((((x1).length : Nat) : Int) - (1 : Int))), (1 : Int), rfl, rfl, h2, h4, hF⟩ ?_
        rintro n16 L' V17 M' ⟨x13, x14, x15, rfl, rfl, h18, h19, hF⟩
        rcases n16 with _ | n16
        · exact absurd hF (by simp [F_clockworkref54_Bisect_L1])
        rw [F_clockworkref54_Bisect_L1] at hF
        refine Exec.run tyOk 400 rfl ?_
        rcases cond_some hF with ⟨hb, hF⟩ | ⟨hb, hF⟩
        · skip
          refine Exec.ifT rfl hb ?_
          refine Exec.run tyOk 400 rfl ?_
          obtain ⟨q20, hF⟩ := req_some hF
          refine Exec.ari rfl rfl q20 ?_
          refine Exec.run tyOk 400 rfl ?_
          refine Exec.draws tyOk [(0, true), (1, true), (2, true), (3, true), (4, true), (5, true), (6, true), (7, true), (8, true)] rfl (by kernel_rfl) ?_
          refine Exec.run tyOk 400 rfl ?_
          obtain ⟨q21, hF⟩ := req_some hF
          obtain ⟨c22, hr22, hd22⟩ := SlAt.get h18 q21
          obtain rfl := hr22
          refine Exec.fia tyOk rfl rfl rfl ⟨q21.1, q21.2, hd22.some⟩ ?_
          refine Exec.run tyOk 400 rfl ?_
          refine Exec.fld tyOk (x := .int .u64 ((atI x1 ((IntKind.i64.wrap (x13 + (quoI .i64 (IntKind.i64.wrap (x14 - x13)) (2 : Int)))))))) rfl rfl rfl hd22 rfl rfl ?_
          refine Exec.run tyOk 400 rfl ?_
          obtain ⟨q23, hF⟩ := req_some hF
          obtain ⟨c24, hr24, hd24⟩ := SlAt.get h19 q23
          obtain rfl := hr24
          refine Exec.fia tyOk rfl rfl rfl ⟨q23.1, q23.2, hd24.some⟩ ?_
          refine Exec.run tyOk 400 rfl ?_
          refine Exec.fld tyOk (x := .int .u64 ((atI x3 ((IntKind.i64.wrap (x13 + (quoI .i64 (IntKind.i64.wrap (x14 - x13)) (2 : Int)))))))) rfl rfl rfl hd24 rfl rfl ?_
          refine Exec.run tyOk 400 rfl ?_
          rcases cond_some hF with ⟨hb, hF⟩ | ⟨hb, hF⟩
          · skip
            refine Exec.ifT rfl hb ?_
            refine Exec.run tyOk 400 rfl ?_
            exact Exec.round [(0, .v (.slice a2 ((x1).length) (k2))), (1, .v (.slice a4 ((x3).length) (k4))), (6, .v (.int .i64 (x13))), (7, .v (.int .i64 ((IntKind.i64.wrap (x13 + (quoI .i64 (IntKind.i64.wrap (x14 - x13)) (2 : Int))))))), (8, .v (.int .i64 ((IntKind.i64.wrap (x15 + (1 : Int))))))] ⟨rfl, rfl, rfl, rfl, rfl, trivial⟩ ⟨n16, Nat.lt_succ_self _, x13, (IntKind.i64.wrap (x13 + (quoI .i64 (IntKind.i64.wrap (x14 - x13)) (2 : Int)))), (IntKind.i64.wrap (x15 + (1 : Int))), rfl, rfl, h18, h19, hF⟩
          · skip
            refine Exec.ifF rfl hb ?_
            refine Exec.run tyOk 400 rfl ?_
            exact Exec.round [(0, .v (.slice a2 ((x1).length) (k2))), (1, .v (.slice a4 ((x3).length) (k4))), (6, .v (.int .i64 ((IntKind.i64.wrap (x13 + (quoI .i64 (IntKind.i64.wrap (x14 - x13)) (2 : Int))))))), (7, .v (.int .i64 (x14))), (8, .v (.int .i64 ((IntKind.i64.wrap (x15 + (1 : Int))))))] ⟨rfl, rfl, rfl, rfl, rfl, trivial⟩ ⟨n16, Nat.lt_succ_self _, (IntKind.i64.wrap (x13 + (quoI .i64 (IntKind.i64.wrap (x14 - x13)) (2 : Int)))), x14, (IntKind.i64.wrap (x15 + (1 : Int))), rfl, rfl, h18, h19, hF⟩
        · skip
          refine Exec.ifF rfl hb ?_
          refine Exec.run tyOk 400 rfl ?_
          exact Exec.round [(7, .v (.int .i64 (x14))), (8, .v (.int .i64 (x15)))] ⟨rfl, rfl, trivial⟩ ⟨x14, x15, rfl, rfl, hF⟩

def F_verify_First_L1 (x1 : List Int) (x3 : List Int) (J5 : Option Int) : Nat → Int → Option Int
  | 0, _ => none
  | n10 + 1, x9 => (cond (decide (x9 < (min (((x1).length : Nat) : Int) (((x3).length : Nat) : Int)))) (req (0 ≤ x9 ∧ x9 < ((x1).length : Int)) (req (0 ≤ x9 ∧ x9 < ((x3).length : Int)) (cond ((atI x1 x9) != (atI x3 x9)) (some x9) (F_verify_First_L1 x1 x3 J5 n10 ((IntKind.i64.wrap (x9 + (1 : Int)))))))) J5)

def F_verify_First (x1 : List Int) (x3 : List Int) : Option Int :=
  (jn ((cond ((((x1).length : Nat) : Int) == (((x3).length : Nat) : Int)) (some (-1 : Int)) (some (min (((x1).length : Nat) : Int) (((x3).length : Nat) : Int))))) (fun J5 => (F_verify_First_L1 x1 x3 J5 (((min (((x1).length : Nat) : Int) (((x3).length : Nat) : Int))).toNat + 1) ((0 : Int)))))

set_option maxRecDepth 100000 in
theorem W_verify_First {V : View} (x1 : List Int) (x3 : List Int) {a2 : Option Addr} {k2 : Nat} {a4 : Option Addr} {k4 : Nat} (h2 : SlAt (cInt .u64) V a2 k2 x1) (h4 : SlAt (cInt .u64) V a4 k4 x3) {r : Int} (hF : F_verify_First x1 x3 = some r) :
    Spec Tryz.prog 16 [.slice a2 ((x1).length) (k2), .slice a4 ((x3).length) (k4)] V (fun _ v => v = .int .i64 (r)) := by
  unfold F_verify_First at hF
  refine Spec.enter (T := tyT) Tryz.func16 rfl (by kernel_rfl) rfl rfl rfl ?_
  refine Exec.run tyOk 19 rfl ?_
  obtain ⟨J5, hJ5, hF⟩ := jn_some hF
  refine Exec.seam (fun L' V' M' => L' = [(0, .v (.slice a2 ((x1).length) (k2))), (1, .v (.slice a4 ((x3).length) (k4))), (5, .v (.int .i64 ((min (((x1).length : Nat) : Int) (((x3).length : Nat) : Int)))))] ∧ M' = [] ∧ SlAt (cInt .u64) V' a2 k2 x1 ∧ SlAt (cInt .u64) V' a4 k4 x3 ∧ J5 = some r) rfl ?_ ?_
  · rintro L' V6 M' ⟨rfl, rfl, h7, h8, hF⟩
    subst hJ5
    refine Exec.run tyOk 400 rfl ?_
    rcases cond_some hF with ⟨hb, hF⟩ | ⟨hb, hF⟩
    · skip
      refine Exec.ifT rfl hb ?_
      refine Exec.run tyOk 400 rfl ?_
      obtain rfl := some_inj hF
      exact Exec.ret tyOk rfl rfl rfl
    · skip
      refine Exec.ifF rfl hb ?_
      refine Exec.run tyOk 400 rfl ?_
      obtain rfl := some_inj hF
      exact Exec.ret tyOk rfl rfl rfl
  · skip
    refine Exec.run tyOk 400 rfl ?_
    refine Exec.loop (fun n10 L' V' M' => ∃ (x9 : Int), L' = [(0, .v (.slice a2 ((x1).length) (k2))), (1, .v (.slice a4 ((x3).length) (k4))), (5, .v (.int .i64 ((min (((x1).length : Nat) : Int) (((x3).length : Nat) : Int))))), (12, .v (.int .i64 ((min (((x1).length : Nat) : Int) (((x3).length : Nat) : Int))))), (13, .v (.int .i64 (x9)))] ∧ M' = [] ∧ SlAt (cInt .u64) V' a2 k2 x1 ∧ SlAt (cInt .u64) V' a4 k4 x3 ∧ F_verify_First_L1 x1 x3 J5 n10 x9 = some r) ⟨(((min (((x1).length : Nat) : Int) (((x3).length : Nat) : Int))).toNat + 1), [(0, .v (.slice a2 ((x1).length) (k2))), (1, .v (.slice a4 ((x3).length) (k4))), (5, .v (.int .i64 ((min (((x1).length : Nat) : Int) (((x3).length : Nat) : Int))))), (12, .v (.int .i64 ((min (((x1).length : Nat) : Int) (((x3).length : Nat) : Int))))), (13, .v (.int .i64 ((0 : Int))))], ⟨rfl, rfl, rfl, rfl, rfl, trivial⟩, (0 : Int), rfl, rfl, h2, h4, hF⟩ ?_
    rintro n10 L' V11 M' ⟨x9, rfl, rfl, h12, h13, hF⟩
    rcases n10 with _ | n10
    · exact absurd hF (by simp [F_verify_First_L1])
    rw [F_verify_First_L1] at hF
    refine Exec.run tyOk 400 rfl ?_
    rcases cond_some hF with ⟨hb, hF⟩ | ⟨hb, hF⟩
    · skip
      refine Exec.ifT rfl hb ?_
      refine Exec.run tyOk 400 rfl ?_
      refine Exec.draws tyOk [(0, true), (1, true), (2, true), (3, true), (4, true), (5, true), (6, true), (7, true), (8, true)] rfl (by kernel_rfl) ?_
      refine Exec.run tyOk 400 rfl ?_
      obtain ⟨q14, hF⟩ := req_some hF
      obtain ⟨c15, hr15, hd15⟩ := SlAt.get h12 q14
      obtain rfl := hr15
      refine Exec.fia tyOk rfl rfl rfl ⟨q14.1, q14.2, hd15.some⟩ ?_
      refine Exec.run tyOk 400 rfl ?_
      refine Exec.fld tyOk (x := .int .u64 ((atI x1 x9))) rfl rfl rfl hd15 rfl rfl ?_
      refine Exec.run tyOk 400 rfl ?_
      obtain ⟨q16, hF⟩ := req_some hF
      obtain ⟨c17, hr17, hd17⟩ := SlAt.get h13 q16
      obtain rfl := hr17
      refine Exec.fia tyOk rfl rfl rfl ⟨q16.1, q16.2, hd17.some⟩ ?_
      refine Exec.run tyOk 400 rfl ?_
      refine Exec.fld tyOk (x := .int .u64 ((atI x3 x9))) rfl rfl rfl hd17 rfl rfl ?_
      refine Exec.run tyOk 400 rfl ?_
      rcases cond_some hF with ⟨hb, hF⟩ | ⟨hb, hF⟩
      · skip
        refine Exec.ifT rfl hb ?_
        refine Exec.run tyOk 400 rfl ?_
        obtain rfl := some_inj hF
        exact Exec.ret tyOk rfl rfl rfl
      · skip
        refine Exec.ifF rfl hb ?_
        refine Exec.run tyOk 400 rfl ?_
        exact Exec.round [(0, .v (.slice a2 ((x1).length) (k2))), (1, .v (.slice a4 ((x3).length) (k4))), (5, .v (.int .i64 ((min (((x1).length : Nat) : Int) (((x3).length : Nat) : Int))))), (12, .v (.int .i64 ((min (((x1).length : Nat) : Int) (((x3).length : Nat) : Int))))), (13, .v (.int .i64 ((IntKind.i64.wrap (x9 + (1 : Int))))))] ⟨rfl, rfl, rfl, rfl, rfl, trivial⟩ ⟨n10, Nat.lt_succ_self _, (IntKind.i64.wrap (x9 + (1 : Int))), rfl, rfl, h12, h13, hF⟩
    · skip
      refine Exec.ifF rfl hb ?_
      refine Exec.run tyOk 400 rfl ?_
      exact Exec.round [(0, .v (.slice a2 ((x1).length) (k2))), (1, .v (.slice a4 ((x3).length) (k4))), (5, .v (.int .i64 ((min (((x1).length : Nat) : Int) (((x3).length : Nat) : Int)))))] ⟨rfl, rfl, rfl, trivial⟩ ⟨rfl, rfl, h12, h13, hF⟩

def F_clockworkref54_First_L1 (x1 : List Int) (x3 : List Int) (J5 : Option Int) : Nat → Int → Option Int
  | 0, _ => none
  | n10 + 1, x9 => (cond ((decide (x9 < (((x1).length : Nat) : Int))) && (decide (x9 < (((x3).length : Nat) : Int)))) (req (0 ≤ x9 ∧ x9 < ((x1).length : Int)) (req (0 ≤ x9 ∧ x9 < ((x3).length : Int)) (cond ((atI x1 x9) != (atI x3 x9)) (some x9) (F_clockworkref54_First_L1 x1 x3 J5 n10 ((IntKind.i64.wrap (x9 + (1 : Int)))))))) J5)

def F_clockworkref54_First (x1 : List Int) (x3 : List Int) : Option Int :=
  (jn ((cond ((((x1).length : Nat) : Int) == (((x3).length : Nat) : Int)) (some (-1 : Int)) (some (min (((x1).length : Nat) : Int) (((x3).length : Nat) : Int))))) (fun J5 => (F_clockworkref54_First_L1 x1 x3 J5 (1000000 : Nat) ((0 : Int)))))

set_option maxRecDepth 100000 in
theorem W_clockworkref54_First {V : View} (x1 : List Int) (x3 : List Int) {a2 : Option Addr} {k2 : Nat} {a4 : Option Addr} {k4 : Nat} (h2 : SlAt (cInt .u64) V a2 k2 x1) (h4 : SlAt (cInt .u64) V a4 k4 x3) {r : Int} (hF : F_clockworkref54_First x1 x3 = some r) :
    Spec Tryz.prog 17 [.slice a2 ((x1).length) (k2), .slice a4 ((x3).length) (k4)] V (fun _ v => v = .int .i64 (r)) := by
  unfold F_clockworkref54_First at hF
  refine Spec.enter (T := tyT) Tryz.func17 rfl (by kernel_rfl) rfl rfl rfl ?_
  refine Exec.run tyOk 9 rfl ?_
  obtain ⟨J5, hJ5, hF⟩ := jn_some hF
  refine Exec.seam (fun L' V' M' => L' = [(0, .v (.slice a2 ((x1).length) (k2))), (1, .v (.slice a4 ((x3).length) (k4)))] ∧ M' = [] ∧ SlAt (cInt .u64) V' a2 k2 x1 ∧ SlAt (cInt .u64) V' a4 k4 x3 ∧ J5 = some r) rfl ?_ ?_
  · rintro L' V6 M' ⟨rfl, rfl, h7, h8, hF⟩
    subst hJ5
    refine Exec.run tyOk 400 rfl ?_
    rcases cond_some hF with ⟨hb, hF⟩ | ⟨hb, hF⟩
    · skip
      refine Exec.ifT rfl hb ?_
      refine Exec.run tyOk 400 rfl ?_
      obtain rfl := some_inj hF
      exact Exec.ret tyOk rfl rfl rfl
    · skip
      refine Exec.ifF rfl hb ?_
      refine Exec.run tyOk 400 rfl ?_
      obtain rfl := some_inj hF
      exact Exec.ret tyOk rfl rfl rfl
  · skip
    refine Exec.run tyOk 400 rfl ?_
    refine Exec.loop (fun n10 L' V' M' => ∃ (x9 : Int), L' = [(0, .v (.slice a2 ((x1).length) (k2))), (1, .v (.slice a4 ((x3).length) (k4))), (5, .v (.int .i64 (x9)))] ∧ M' = [] ∧ SlAt (cInt .u64) V' a2 k2 x1 ∧ SlAt (cInt .u64) V' a4 k4 x3 ∧ F_clockworkref54_First_L1 x1 x3 J5 n10 x9 = some r) ⟨(1000000 : Nat), [(0, .v (.slice a2 ((x1).length) (k2))), (1, .v (.slice a4 ((x3).length) (k4))), (5, .v (.int .i64 ((0 : Int))))], ⟨rfl, rfl, rfl, trivial⟩, (0 : Int), rfl, rfl, h2, h4, hF⟩ ?_
    rintro n10 L' V11 M' ⟨x9, rfl, rfl, h12, h13, hF⟩
    rcases n10 with _ | n10
    · exact absurd hF (by simp [F_clockworkref54_First_L1])
    rw [F_clockworkref54_First_L1] at hF
    refine Exec.run tyOk 400 rfl ?_
    rcases cond_some hF with ⟨hb, hF⟩ | ⟨hb, hF⟩
    · skip
      refine Exec.ifT rfl hb ?_
      refine Exec.run tyOk 400 rfl ?_
      refine Exec.draws tyOk [(0, true), (1, true), (2, true), (3, true), (4, true), (5, true), (6, true), (7, true), (8, true)] rfl (by kernel_rfl) ?_
      refine Exec.run tyOk 400 rfl ?_
      obtain ⟨q14, hF⟩ := req_some hF
      obtain ⟨c15, hr15, hd15⟩ := SlAt.get h12 q14
      obtain rfl := hr15
      refine Exec.fia tyOk rfl rfl rfl ⟨q14.1, q14.2, hd15.some⟩ ?_
      refine Exec.run tyOk 400 rfl ?_
      refine Exec.fld tyOk (x := .int .u64 ((atI x1 x9))) rfl rfl rfl hd15 rfl rfl ?_
      refine Exec.run tyOk 400 rfl ?_
      obtain ⟨q16, hF⟩ := req_some hF
      obtain ⟨c17, hr17, hd17⟩ := SlAt.get h13 q16
      obtain rfl := hr17
      refine Exec.fia tyOk rfl rfl rfl ⟨q16.1, q16.2, hd17.some⟩ ?_
      refine Exec.run tyOk 400 rfl ?_
      refine Exec.fld tyOk (x := .int .u64 ((atI x3 x9))) rfl rfl rfl hd17 rfl rfl ?_
      refine Exec.run tyOk 400 rfl ?_
      rcases cond_some hF with ⟨hb, hF⟩ | ⟨hb, hF⟩
      · skip
        refine Exec.ifT rfl hb ?_
        refine Exec.run tyOk 400 rfl ?_
        obtain rfl := some_inj hF
        exact Exec.ret tyOk rfl rfl rfl
      · skip
        refine Exec.ifF rfl hb ?_
        refine Exec.run tyOk 400 rfl ?_
        exact Exec.round [(0, .v (.slice a2 ((x1).length) (k2))), (1, .v (.slice a4 ((x3).length) (k4))), (5, .v (.int .i64 ((IntKind.i64.wrap (x9 + (1 : Int))))))] ⟨rfl, rfl, rfl, trivial⟩ ⟨n10, Nat.lt_succ_self _, (IntKind.i64.wrap (x9 + (1 : Int))), rfl, rfl, h12, h13, hF⟩
    · skip
      refine Exec.ifF rfl hb ?_
      refine Exec.run tyOk 400 rfl ?_
      exact Exec.round [(0, .v (.slice a2 ((x1).length) (k2))), (1, .v (.slice a4 ((x3).length) (k4)))] ⟨rfl, rfl, trivial⟩ ⟨rfl, rfl, h12, h13, hF⟩

def F_clockworkref04_Same_L1 (x1 : List Str) (x3 : List Str) (J5 : Option Bool) : Nat → Int → Option Bool
  | 0, _ => none
  | n8 + 1, x7 => (cond (decide (x7 < (((x1).length : Nat) : Int))) (req (0 ≤ x7 ∧ x7 < ((x1).length : Int)) (req (0 ≤ x7 ∧ x7 < ((x3).length : Int)) (cond ((atI x1 x7) != (atI x3 x7)) (some false) (F_clockworkref04_Same_L1 x1 x3 J5 n8 ((IntKind.i64.wrap (x7 + (1 : Int)))))))) J5)

def F_clockworkref04_Same (x1 : List Str) (x3 : List Str) : Option Bool :=
  (cond ((((x1).length : Nat) : Int) != (((x3).length : Nat) : Int)) (some false) (jn ((some true)) (fun J5 => (F_clockworkref04_Same_L1 x1 x3 J5 (((((x1).length : Nat) : Int)).toNat + 1) ((0 : Int))))))

set_option maxRecDepth 100000 in
theorem W_clockworkref04_Same {V : View} (x1 : List Str) (x3 : List Str) {a2 : Option Addr} {k2 : Nat} {a4 : Option Addr} {k4 : Nat} (h2 : SlAt cStr V a2 k2 x1) (h4 : SlAt cStr V a4 k4 x3) {r : Bool} (hF : F_clockworkref04_Same x1 x3 = some r) :
    Spec Tryz.prog 20 [.slice a2 ((x1).length) (k2), .slice a4 ((x3).length) (k4)] V (fun _ v => v = .bool (r)) := by
  unfold F_clockworkref04_Same at hF
  refine Spec.enter (T := tyT) Tryz.func20 rfl (by kernel_rfl) rfl rfl rfl ?_
  refine Exec.run tyOk 400 rfl ?_
  rcases cond_some hF with ⟨hb, hF⟩ | ⟨hb, hF⟩
  · skip
    refine Exec.ifT rfl hb ?_
    refine Exec.run tyOk 400 rfl ?_
    obtain rfl := some_inj hF
    exact Exec.ret tyOk rfl rfl rfl
  · skip
    refine Exec.ifF rfl hb ?_
    refine Exec.run tyOk 6 rfl ?_
    obtain ⟨J5, hJ5, hF⟩ := jn_some hF
    refine Exec.seam (fun L' V' M' => L' = [] ∧ M' = [] ∧ J5 = some r) rfl ?_ ?_
    · rintro L' V6 M' ⟨rfl, rfl, hF⟩
      subst hJ5
      refine Exec.run tyOk 400 rfl ?_
      obtain rfl := some_inj hF
      exact Exec.ret tyOk rfl rfl rfl
    · skip
      refine Exec.run tyOk 400 rfl ?_
      refine Exec.loop (fun n8 L' V' M' => ∃ (x7 : Int), L' = [(0, .v (.slice a2 ((x1).length) (k2))), (1, .v (.slice a4 ((x3).length) (k4))), (5, .v (.int .i64 (x7)))] ∧ M' = [] ∧ SlAt cStr V' a2 k2 x1 ∧ SlAt cStr V' a4 k4 x3 ∧ F_clockworkref04_Same_L1 x1 x3 J5 n8 x7 = some r) ⟨(((((x1).length : Nat) : Int)).toNat + 1), [(0, .v (.slice a2 ((x1).length) (k2))), (1, .v (.slice a4 ((x3).length) (k4))), (5, .v (.int .i64 ((0 : Int))))], ⟨rfl, rfl, rfl, trivial⟩, (0 : Int), rfl, rfl, h2, h4, hF⟩ ?_
      rintro n8 L' V9 M' ⟨x7, rfl, rfl, h10, h11, hF⟩
      rcases n8 with _ | n8
      · exact absurd hF (by simp [F_clockworkref04_Same_L1])
      rw [F_clockworkref04_Same_L1] at hF
      refine Exec.run tyOk 400 rfl ?_
      rcases cond_some hF with ⟨hb, hF⟩ | ⟨hb, hF⟩
      · skip
        refine Exec.ifT rfl hb ?_
        refine Exec.run tyOk 400 rfl ?_
        refine Exec.draws tyOk [(0, true), (1, true), (2, true), (3, true), (4, true), (5, true), (6, true), (7, true), (8, true)] rfl (by kernel_rfl) ?_
        refine Exec.run tyOk 400 rfl ?_
        obtain ⟨q12, hF⟩ := req_some hF
        obtain ⟨c13, hr13, hd13⟩ := SlAt.get h10 q12
        obtain rfl := hr13
        refine Exec.fia tyOk rfl rfl rfl ⟨q12.1, q12.2, hd13.some⟩ ?_
        refine Exec.run tyOk 400 rfl ?_
        refine Exec.fld tyOk (x := .string ⟨⟨(atI x1 x7)⟩⟩) rfl rfl rfl hd13 rfl rfl ?_
        refine Exec.run tyOk 400 rfl ?_
        obtain ⟨q14, hF⟩ := req_some hF
        obtain ⟨c15, hr15, hd15⟩ := SlAt.get h11 q14
        obtain rfl := hr15
        refine Exec.fia tyOk rfl rfl rfl ⟨q14.1, q14.2, hd15.some⟩ ?_
        refine Exec.run tyOk 400 rfl ?_
        refine Exec.fld tyOk (x := .string ⟨⟨(atI x3 x7)⟩⟩) rfl rfl rfl hd15 rfl rfl ?_
        refine Exec.run tyOk 400 rfl ?_
        rcases cond_some hF with ⟨hb, hF⟩ | ⟨hb, hF⟩
        · skip
          refine Exec.ifT rfl hb ?_
          refine Exec.run tyOk 400 rfl ?_
          obtain rfl := some_inj hF
          exact Exec.ret tyOk rfl rfl rfl
        · skip
          refine Exec.ifF rfl hb ?_
          refine Exec.run tyOk 400 rfl ?_
          exact Exec.round [(0, .v (.slice a2 ((x1).length) (k2))), (1, .v (.slice a4 ((x3).length) (k4))), (5, .v (.int .i64 ((IntKind.i64.wrap (x7 + (1 : Int))))))] ⟨rfl, rfl, rfl, trivial⟩ ⟨n8, Nat.lt_succ_self _, (IntKind.i64.wrap (x7 + (1 : Int))), rfl, rfl, h10, h11, hF⟩
      · skip
        refine Exec.ifF rfl hb ?_
        refine Exec.run tyOk 400 rfl ?_
        exact Exec.round [] trivial ⟨rfl, rfl, hF⟩

def F_clockworklaw54_few_L1 (x1 : TStore) (J3 : Option Bool) : Nat → Int → Option Bool
  | 0, _ => none
  | n6 + 1, x5 => (cond (decide (x5 < (((x1.Rows).length : Nat) : Int))) (req (0 ≤ x5 ∧ x5 < ((x1.Rows).length : Int)) (cond (decide ((40 : Int) < ((((atI x1.Rows x5).Vers).length : Nat) : Int))) (some false) (F_clockworklaw54_few_L1 x1 J3 n6 ((IntKind.i64.wrap (x5 + (1 : Int))))))) J3)

def F_clockworklaw54_few (x1 : TStore) : Option Bool :=
  (cond (decide ((40 : Int) < (((x1.Rows).length : Nat) : Int))) (some false) (jn ((some true)) (fun J3 => (F_clockworklaw54_few_L1 x1 J3 (((((x1.Rows).length : Nat) : Int)).toNat + 1) ((0 : Int))))))

set_option maxRecDepth 100000 in
theorem W_clockworklaw54_few {V : View} (x1 : TStore) {a2 : Option Addr} {k2 : Nat} (h2 : SlAt cTRow V a2 k2 x1.Rows) {r : Bool} (hF : F_clockworklaw54_few x1 = some r) :
    Spec Tryz.prog 21 [.agg ⟨[.int .i64 (x1.Floor), .int .i64 (x1.Last), .slice a2 ((x1.Rows).length) (k2)]⟩] V (fun _ v => v = .bool (r)) := by
  unfold F_clockworklaw54_few at hF
  refine Spec.enter (T := tyT) Tryz.func21 rfl (by kernel_rfl) rfl rfl rfl ?_
  refine Exec.run tyOk 400 rfl ?_
  rcases cond_some hF with ⟨hb, hF⟩ | ⟨hb, hF⟩
  · skip
    refine Exec.ifT rfl hb ?_
    refine Exec.run tyOk 400 rfl ?_
    obtain rfl := some_inj hF
    exact Exec.ret tyOk rfl rfl rfl
  · skip
    refine Exec.ifF rfl hb ?_
    refine Exec.run tyOk 6 rfl ?_
    obtain ⟨J3, hJ3, hF⟩ := jn_some hF
    refine Exec.seam (fun L' V' M' => L' = [] ∧ M' = [] ∧ J3 = some r) rfl ?_ ?_
    · rintro L' V4 M' ⟨rfl, rfl, hF⟩
      subst hJ3
      refine Exec.run tyOk 400 rfl ?_
      obtain rfl := some_inj hF
      exact Exec.ret tyOk rfl rfl rfl
    · skip
      refine Exec.run tyOk 400 rfl ?_
      refine Exec.loop (fun n6 L' V' M' => ∃ (x5 : Int), L' = [(1, .ptr 0 0), (3, .v (.int .i64 (x5)))] ∧ M' = [.blk [.v (.int .i64 (x1.Floor)), .v (.int .i64 (x1.Last)), .v (.slice a2 ((x1.Rows).length) (k2))] 40] ∧ SlAt cTRow V' a2 k2 x1.Rows ∧ F_clockworklaw54_few_L1 x1 J3 n6 x5 = some r) ⟨(((((x1.Rows).length : Nat) : Int)).toNat + 1), [(1, .ptr 0 0), (3, .v (.int .i64 ((0 : Int))))], ⟨rfl, rfl, trivial⟩, (0 : Int), rfl, rfl, h2, hF⟩ ?_
      rintro n6 L' V7 M' ⟨x5, rfl, rfl, h8, hF⟩
      rcases n6 with _ | n6
      · exact absurd hF (by simp [F_clockworklaw54_few_L1])
      rw [F_clockworklaw54_few_L1] at hF
      refine Exec.run tyOk 400 rfl ?_
      rcases cond_some hF with ⟨hb, hF⟩ | ⟨hb, hF⟩
      · skip
        refine Exec.ifT rfl hb ?_
        refine Exec.run tyOk 400 rfl ?_
        obtain ⟨q9, hF⟩ := req_some hF
        obtain ⟨c10, hr10, hd10⟩ := SlAt.get h8 q9
        obtain ⟨a11, k11, rfl, h11⟩ := hr10
        refine Exec.ia tyOk rfl rfl ⟨q9.1, q9.2, hd10.some⟩ ?_
        refine Exec.run tyOk 400 rfl ?_
        refine Exec.ld tyOk (x := .slice a11 (((atI x1.Rows x5).Vers).length) (k11)) rfl rfl (RdAt.part hd10 1 1 rfl) rfl rfl ?_
        refine Exec.run tyOk 400 rfl ?_
        rcases cond_some hF with ⟨hb, hF⟩ | ⟨hb, hF⟩
        · skip
          refine Exec.ifT rfl hb ?_
          refine Exec.run tyOk 400 rfl ?_
          obtain rfl := some_inj hF
          exact Exec.ret tyOk rfl rfl rfl
        · skip
          refine Exec.ifF rfl hb ?_
          refine Exec.run tyOk 400 rfl ?_
          exact Exec.round [(1, .ptr 0 0), (3, .v (.int .i64 ((IntKind.i64.wrap (x5 + (1 : Int))))))] ⟨rfl, rfl, trivial⟩ ⟨n6, Nat.lt_succ_self _, (IntKind.i64.wrap (x5 + (1 : Int))), rfl, rfl, h8, hF⟩
      · skip
        refine Exec.ifF rfl hb ?_
        refine Exec.run tyOk 400 rfl ?_
        refine Exec.cut 0 [] (M' := []) rfl trivial rfl rfl rfl ?_
        exact Exec.round [] trivial ⟨rfl, rfl, hF⟩

def F_clockworklaw54_pair (x1 : Str) (x2 : Int) : Option TPair :=
  (some (⟨x1, (⟨(1 : Int), x2, []⟩ : TValue)⟩ : TPair))

set_option maxRecDepth 100000 in
theorem W_clockworklaw54_pair {V : View} (x1 : Str) (x2 : Int)   {r : TPair} (hF : F_clockworklaw54_pair x1 x2 = some r) :
    Spec Tryz.prog 31 [.string ⟨⟨x1⟩⟩, .int .i64 (x2)] V (fun _ v => v = .agg ⟨[.string ⟨⟨r.Key⟩⟩, .int .i64 (r.Val.Kind), .int .i64 (r.Val.N), .string ⟨⟨r.Val.S⟩⟩]⟩) := by
  unfold F_clockworklaw54_pair at hF
  refine Spec.enter (T := tyT) Tryz.func31 rfl (by kernel_rfl) rfl rfl rfl ?_
  refine Exec.run tyOk 400 rfl ?_
  obtain rfl := some_inj hF
  exact Exec.ret tyOk rfl rfl rfl

def F_clockworkref54_has_L1 (x1 : List Int) (x3 : Int) (J4 : Option Bool) : Nat → Int → Option Bool
  | 0, _ => none
  | n7 + 1, x6 => (cond (decide (x6 < (((x1).length : Nat) : Int))) (req (0 ≤ x6 ∧ x6 < ((x1).length : Int)) (cond ((atI x1 x6) == x3) (some true) (F_clockworkref54_has_L1 x1 x3 J4 n7 ((IntKind.i64.wrap (x6 + (1 : Int))))))) J4)

def F_clockworkref54_has (x1 : List Int) (x3 : Int) : Option Bool :=
  (jn ((some false)) (fun J4 => (F_clockworkref54_has_L1 x1 x3 J4 (((((x1).length : Nat) : Int)).toNat + 1) ((0 : Int)))))

set_option maxRecDepth 100000 in
theorem W_clockworkref54_has {V : View} (x1 : List Int) (x3 : Int) {a2 : Option Addr} {k2 : Nat} (h2 : SlAt (cInt .i64) V a2 k2 x1) {r : Bool} (hF : F_clockworkref54_has x1 x3 = some r) :
    Spec Tryz.prog 40 [.slice a2 ((x1).length) (k2), .int .i64 (x3)] V (fun _ v => v = .bool (r)) := by
  unfold F_clockworkref54_has at hF
  refine Spec.enter (T := tyT) Tryz.func40 rfl (by kernel_rfl) rfl rfl rfl ?_
  refine Exec.run tyOk 9 rfl ?_
  obtain ⟨J4, hJ4, hF⟩ := jn_some hF
  refine Exec.seam (fun L' V' M' => L' = [] ∧ M' = [] ∧ J4 = some r) rfl ?_ ?_
  · rintro L' V5 M' ⟨rfl, rfl, hF⟩
    subst hJ4
    refine Exec.run tyOk 400 rfl ?_
    obtain rfl := some_inj hF
    exact Exec.ret tyOk rfl rfl rfl
  · skip
    refine Exec.run tyOk 400 rfl ?_
    refine Exec.loop (fun n7 L' V' M' => ∃ (x6 : Int), L' = [(0, .v (.slice a2 ((x1).length) (k2))), (1, .v (.int .i64 (x3))), (5, .v (.int .i64 (x6)))] ∧ M' = [] ∧ SlAt (cInt .i64) V' a2 k2 x1 ∧ F_clockworkref54_has_L1 x1 x3 J4 n7 x6 = some r) ⟨(((((x1).length : Nat) : Int)).toNat + 1), [(0, .v (.slice a2 ((x1).length) (k2))), (1, .v (.int .i64 (x3))), (5, .v (.int .i64 ((0 : Int))))], ⟨rfl, rfl, rfl, trivial⟩, (0 : Int), rfl, rfl, h2, hF⟩ ?_
    rintro n7 L' V8 M' ⟨x6, rfl, rfl, h9, hF⟩
    rcases n7 with _ | n7
    · exact absurd hF (by simp [F_clockworkref54_has_L1])
    rw [F_clockworkref54_has_L1] at hF
    refine Exec.run tyOk 400 rfl ?_
    rcases cond_some hF with ⟨hb, hF⟩ | ⟨hb, hF⟩
    · skip
      refine Exec.ifT rfl hb ?_
      refine Exec.run tyOk 400 rfl ?_
      obtain ⟨q10, hF⟩ := req_some hF
      obtain ⟨c11, hr11, hd11⟩ := SlAt.get h9 q10
      obtain rfl := hr11
      refine Exec.ia tyOk rfl rfl ⟨q10.1, q10.2, hd11.some⟩ ?_
      refine Exec.run tyOk 400 rfl ?_
      refine Exec.ld tyOk (x := .int .i64 ((atI x1 x6))) rfl rfl hd11 rfl rfl ?_
      refine Exec.run tyOk 400 rfl ?_
      rcases cond_some hF with ⟨hb, hF⟩ | ⟨hb, hF⟩
      · skip
        refine Exec.ifT rfl hb ?_
        refine Exec.run tyOk 400 rfl ?_
        obtain rfl := some_inj hF
        exact Exec.ret tyOk rfl rfl rfl
      · skip
        refine Exec.ifF rfl hb ?_
        refine Exec.run tyOk 400 rfl ?_
        exact Exec.round [(0, .v (.slice a2 ((x1).length) (k2))), (1, .v (.int .i64 (x3))), (5, .v (.int .i64 ((IntKind.i64.wrap (x6 + (1 : Int))))))] ⟨rfl, rfl, rfl, trivial⟩ ⟨n7, Nat.lt_succ_self _, (IntKind.i64.wrap (x6 + (1 : Int))), rfl, rfl, h9, hF⟩
    · skip
      refine Exec.ifF rfl hb ?_
      refine Exec.run tyOk 400 rfl ?_
      exact Exec.round [] trivial ⟨rfl, rfl, hF⟩

def F_verify_turns_L3 (x3 : List TStore) (x16 : Int) (x30 : Int) (x1 : Int) (x2 : Int) (J40 : (List Int) → Option (List Int)) : Nat → (List Int) → Int → Option (List Int)
  | 0, _, _ => none
  | n47 + 1, x45, x46 => (cond (decide (x46 < ((((atI ((atI x3 x16).Rows) x30).Vers).length : Nat) : Int))) (req (0 ≤ x46 ∧ x46 < (((atI ((atI x3 x16).Rows) x30).Vers).length : Int)) (jn (fun (x55 : List Int) => (F_verify_turns_L3 x3 x16 x30 x1 x2 J40 n47 x55 ((IntKind.i64.wrap (x46 + (1 : Int)))))) (fun J56 => (cond ((decide (x1 < (atI ((atI ((atI x3 x16).Rows) x30).Vers) x46).At)) && (decide ((atI ((atI ((atI x3 x16).Rows) x30).Vers) x46).At ≤ x2))) (req (((x45 ++ [(atI ((atI ((atI x3 x16).Rows) x30).Vers) x46).At])).length * 8 ≤ 140737488355328) (J56 ((x45 ++ [(atI ((atI ((atI x3 x16).Rows) x30).Vers) x46).At])))) (J56 x45))))) (J40 x45))

def F_verify_turns_L2 (x3 : List TStore) (x16 : Int) (x1 : Int) (x2 : Int) (J25 : (List Int) → Option (List Int)) : Nat → (List Int) → Int → Option (List Int)
  | 0, _, _ => none
  | n31 + 1, x29, x30 => (cond (decide (x30 < ((((atI x3 x16).Rows).length : Nat) : Int))) (req (0 ≤ x30 ∧ x30 < (((atI x3 x16).Rows).length : Int)) (jn (fun (x39 : List Int) => (F_verify_turns_L2 x3 x16 x1 x2 J25 n31 x39 ((IntKind.i64.wrap (x30 + (1 : Int)))))) (fun J40 => (F_verify_turns_L3 x3 x16 x30 x1 x2 J40 ((((((atI ((atI x3 x16).Rows) x30).Vers).length : Nat) : Int)).toNat + 1) x29 ((0 : Int)))))) (J25 x29))

def F_verify_turns_L1 (x3 : List TStore) (x1 : Int) (x2 : Int) (J8 : (List Int) → Option (List Int)) : Nat → (List Int) → Int → Option (List Int)
  | 0, _, _ => none
  | n17 + 1, x15, x16 => (cond (decide (x16 < (((x3).length : Nat) : Int))) (req (0 ≤ x16 ∧ x16 < ((x3).length : Int)) (jn (fun (x24 : List Int) => (F_verify_turns_L1 x3 x1 x2 J8 n17 x24 ((IntKind.i64.wrap (x16 + (1 : Int)))))) (fun J25 => (F_verify_turns_L2 x3 x16 x1 x2 J25 ((((((atI x3 x16).Rows).length : Nat) : Int)).toNat + 1) x15 ((0 : Int)))))) (J8 x15))

def F_verify_turns (x1 : Int) (x2 : Int) (x3 : List TStore) : Option (List Int) :=
  (jn (fun (x7 : List Int) => (req ((x7).length < 4611686018427387904) (some (compactL (sortL x7))))) (fun J8 => (F_verify_turns_L1 x3 x1 x2 J8 (((((x3).length : Nat) : Int)).toNat + 1) (([x1] : List Int)) ((0 : Int)))))

set_option maxRecDepth 100000 in
theorem W_verify_turns {V : View} (x1 : Int) (x2 : Int) (x3 : List TStore) {a4 : Option Addr} {k4 : Nat} (h4 : SlAt cTStore V a4 k4 x3) {r : List Int} (hF : F_verify_turns x1 x2 x3 = some r) :
    Spec Tryz.prog 43 [.int .i64 (x1), .int .i64 (x2), .slice a4 ((x3).length) (k4)] V (fun V' v => ∃ (a63 : Option Addr) (k63 : Nat), v = .slice a63 ((r).length) (k63) ∧ SlAt (cInt .i64) V' a63 k63 r) := by
  unfold F_verify_turns at hF
  refine Spec.enter (T := tyT) Tryz.func43 rfl (by kernel_rfl) rfl rfl rfl ?_
  refine Exec.run tyOk 400 rfl ?_
  refine Exec.bsl tyOk rfl rfl ?_
  refine Exec.fixR 0 (n := 1) (sz := 1) rfl rfl rfl rfl rfl (fun _ => rfl) (fun _ => rfl) (fun _ => rfl) (fun b5 => ?_)
  have h5 : RowRep (cInt .i64) V ([x1] : List Int) [.int .i64 (x1)] := ⟨_, _, rfl, rfl, rfl⟩
  refine Exec.run tyOk 9 rfl ?_
  obtain ⟨J8, hJ8, hF⟩ := jn_some hF
  refine Exec.seam (fun L' V' M' => ∃ (x7 : List Int) (a6 : Option Addr) (k6 : Nat) (cs6 : List Value), L' = [(7, .v (.slice a6 ((x7).length) (k6)))] ∧ M' = [.row (.slice a6 ((x7).length) (k6)) cs6 2 1] ∧ RowRep (cInt .i64) V' x7 cs6 ∧ J8 x7 = some r) rfl ?_ ?_
  · rintro L' V9 M' ⟨x7, a6, k6, cs6, rfl, rfl, h6, hF⟩
    subst hJ8
    refine Exec.run tyOk 400 rfl ?_
    obtain ⟨q11, hF⟩ := req_some hF
    refine Exec.callM 0 rfl rfl rfl rfl (sortI_row h6 (fun cs e => by subst e; exact (sortI_specM ⟨_, rfl, by kernel_rfl, by kernel_rfl⟩ Tryz.slices_Sort_int Tryz.slices_Sort_int_none q11))) ?_
    rintro VV10 _ _ _ ⟨rfl, hVV, rfl⟩
    have hVV := hVV.symm
    subst hVV
    refine ⟨_, rfl, ?_⟩
    have h10 : RowRep (cInt .i64) V9 (sortL x7) ((sortL x7).map (Value.int .i64)) := RowRep.ofInts _
    refine Exec.run tyOk 400 rfl ?_
    refine Exec.callM 0 rfl rfl rfl rfl (compactI_row h10 (fun cs e => by subst e; exact (compactI_specM ⟨_, rfl, by kernel_rfl, by kernel_rfl⟩ Tryz.slices_Compact_int Tryz.slices_Compact_int_empty))) ?_
    rintro VV12 _ _ _ ⟨rfl, hVV, rfl⟩
    have hVV := hVV.symm
    subst hVV
    refine ⟨_, rfl, ?_⟩
    have h12 : RowRep (cInt .i64) V9 (compactL (sortL x7)) ((compactL (sortL x7)).map (Value.int .i64)) := RowRep.ofInts _
    refine Exec.run tyOk 400 rfl ?_
    refine Exec.frz 0 rfl rfl rfl (fun V13 hv13 hd13 hn13 => ?_)
    have hz13 := RowRep.slat h12 hv13 hd13 hn13
    obtain rfl := some_inj hF
    exact Exec.ret tyOk rfl rfl ⟨_, _, rfl, hz13⟩
  · skip
    refine Exec.run tyOk 400 rfl ?_
    refine Exec.loop (fun n17 L' V' M' => ∃ (x15 : List Int) (a14 : Option Addr) (k14 : Nat) (cs14 : List Value) (x16 : Int), L' = [(0, .v (.int .i64 (x1))), (1, .v (.int .i64 (x2))), (7, .v (.slice a14 ((x15).length) (k14))), (16, .v (.slice a4 ((x3).length) (k4))), (17, .v (.int .i64 ((((x3).length : Nat) : Int)))), (18, .v (.int .i64 (x16)))] ∧ M' = [.row (.slice a14 ((x15).length) (k14)) cs14 2 1] ∧ RowRep (cInt .i64) V' x15 cs14 ∧ SlAt cTStore V' a4 k4 x3 ∧ F_verify_turns_L1 x3 x1 x2 J8 n17 x15 x16 = some r) ⟨(((((x3).length : Nat) : Int)).toNat + 1), [(0, .v (.int .i64 (x1))), (1, .v (.int .i64 (x2))), (7, .v (.slice ((some ⟨b5, 0, none⟩)) ((([x1] : List Int)).length) (1))), (16, .v (.slice a4 ((x3).length) (k4))), (17, .v (.int .i64 ((((x3).length : Nat) : Int)))), (18, .v (.int .i64 ((0 : Int))))], ⟨rfl, rfl, rfl, rfl, rfl, rfl, trivial⟩, ([x1] : List Int), (some ⟨b5, 0, none⟩), 1, [.int .i64 (x1)], (0 : Int), rfl, rfl, h5, h4, hF⟩ ?_
    rintro n17 L' V18 M' ⟨x15, a14, k14, cs14, x16, rfl, rfl, h14, h19, hF⟩
    rcases n17 with _ | n17
    · exact absurd hF (by simp [F_verify_turns_L1])
    rw [F_verify_turns_L1] at hF
    refine Exec.run tyOk 400 rfl ?_
    rcases cond_some hF with ⟨hb, hF⟩ | ⟨hb, hF⟩
    · skip
      refine Exec.ifT rfl hb ?_
      refine Exec.run tyOk 400 rfl ?_
      obtain ⟨q20, hF⟩ := req_some hF
      obtain ⟨c21, hr21, hd21⟩ := SlAt.get h19 q20
      obtain ⟨a22, k22, rfl, h22⟩ := hr21
      refine Exec.ia tyOk rfl rfl ⟨q20.1, q20.2, hd21.some⟩ ?_
      refine Exec.run tyOk 400 rfl ?_
      refine Exec.ld tyOk (x := .agg ⟨[.int .i64 ((atI x3 x16).Floor), .int .i64 ((atI x3 x16).Last), .slice a22 (((atI x3 x16).Rows).length) (k22)]⟩) rfl rfl hd21 rfl rfl ?_
      refine Exec.run tyOk 10 rfl ?_
      obtain ⟨J25, hJ25, hF⟩ := jn_some hF
      refine Exec.seam (fun L' V' M' => ∃ (x24 : List Int) (a23 : Option Addr) (k23 : Nat) (cs23 : List Value), L' = [(0, .v (.int .i64 (x1))), (1, .v (.int .i64 (x2))), (7, .v (.slice a23 ((x24).length) (k23))), (16, .v (.slice a4 ((x3).length) (k4))), (17, .v (.int .i64 ((((x3).length : Nat) : Int)))), (18, .v (.int .i64 (x16)))] ∧ M' = [.row (.slice a23 ((x24).length) (k23)) cs23 2 1] ∧ RowRep (cInt .i64) V' x24 cs23 ∧ SlAt cTStore V' a4 k4 x3 ∧ J25 x24 = some r) rfl ?_ ?_
      · rintro L' V26 M' ⟨x24, a23, k23, cs23, rfl, rfl, h23, h27, hF⟩
        subst hJ25
        refine Exec.run tyOk 400 rfl ?_
        exact Exec.round [(0, .v (.int .i64 (x1))), (1, .v (.int .i64 (x2))), (7, .v (.slice a23 ((x24).length) (k23))), (16, .v (.slice a4 ((x3).length) (k4))), (17, .v (.int .i64 ((((x3).length : Nat) : Int)))), (18, .v (.int .i64 ((IntKind.i64.wrap (x16 + (1 : Int))))))] ⟨rfl, rfl, rfl, rfl, rfl, rfl, trivial⟩ ⟨n17, Nat.lt_succ_self _, x24, a23, k23, cs23, (IntKind.i64.wrap (x16 + (1 : Int))), rfl, rfl, h23, h27, hF⟩
      · skip
        refine Exec.run tyOk 400 rfl ?_
        refine Exec.cut 1 [(0, .v (.int .i64 (x1))), (1, .v (.int .i64 (x2))), (7, .v (.slice a14 ((x15).length) (k14))), (16, .v (.slice a4 ((x3).length) (k4))), (17, .v (.int .i64 ((((x3).length : Nat) : Int)))), (18, .v (.int .i64 (x16))), (23, .v (.slice a22 (((atI x3 x16).Rows).length) (k22))), (24, .v (.int .i64 (((((atI x3 x16).Rows).length : Nat) : Int)))), (25, .v (.int .i64 ((0 : Int))))] (M' := [.row (.slice a14 ((x15).length) (k14)) cs14 2 1]) rfl ⟨rfl, rfl, rfl, rfl, rfl, rfl, rfl, rfl, rfl, trivial⟩ rfl rfl rfl ?_
        refine Exec.loop (fun n31 L' V' M' => ∃ (x29 : List Int) (a28 : Option Addr) (k28 : Nat) (cs28 : List Value) (x30 : Int), L' = [(0, .v (.int .i64 (x1))), (1, .v (.int .i64 (x2))), (7, .v (.slice a28 ((x29).length) (k28))), (16, .v (.slice a4 ((x3).length) (k4))), (17, .v (.int .i64 ((((x3).length : Nat) : Int)))), (18, .v (.int .i64 (x16))), (23, .v (.slice a22 (((atI x3 x16).Rows).length) (k22))), (24, .v (.int .i64 (((((atI x3 x16).Rows).length : Nat) : Int)))), (25, .v (.int .i64 (x30)))] ∧ M' = [.row (.slice a28 ((x29).length) (k28)) cs28 2 1] ∧ RowRep (cInt .i64) V' x29 cs28 ∧ SlAt cTStore V' a4 k4 x3 ∧ SlAt cTRow V' a22 k22 ((atI x3 x16).Rows) ∧ F_verify_turns_L2 x3 x16 x1 x2 J25 n31 x29 x30 = some r) ⟨((((((atI x3 x16).Rows).length : Nat) : Int)).toNat + 1), [(0, .v (.int .i64 (x1))), (1, .v (.int .i64 (x2))), (7, .v (.slice a14 ((x15).length) (k14))), (16, .v (.slice a4 ((x3).length) (k4))), (17, .v (.int .i64 ((((x3).length : Nat) : Int)))), (18, .v (.int .i64 (x16))), (23, .v (.slice a22 (((atI x3 x16).Rows).length) (k22))), (24, .v (.int .i64 (((((atI x3 x16).Rows).length : Nat) : Int)))), (25, .v (.int .i64 ((0 : Int))))], ⟨rfl, rfl, rfl, rfl, rfl, rfl, rfl, rfl, rfl, trivial⟩, x15, a14, k14, cs14, (0 : Int), rfl, rfl, h14, h19, h22, hF⟩ ?_
        rintro n31 L' V32 M' ⟨x29, a28, k28, cs28, x30, rfl, rfl, h28, h33, h34, hF⟩
        rcases n31 with _ | n31
        · exact absurd hF (by simp [F_verify_turns_L2])
        rw [F_verify_turns_L2] at hF
        refine Exec.run tyOk 400 rfl ?_
        rcases cond_some hF with ⟨hb, hF⟩ | ⟨hb, hF⟩
        · skip
          refine Exec.ifT rfl hb ?_
          refine Exec.run tyOk 400 rfl ?_
          obtain ⟨q35, hF⟩ := req_some hF
          obtain ⟨c36, hr36, hd36⟩ := SlAt.get h34 q35
          obtain ⟨a37, k37, rfl, h37⟩ := hr36
          refine Exec.ia tyOk rfl rfl ⟨q35.1, q35.2, hd36.some⟩ ?_
          refine Exec.run tyOk 400 rfl ?_
          refine Exec.ld tyOk (x := .agg ⟨[.string ⟨⟨(atI ((atI x3 x16).Rows) x30).Key⟩⟩, .slice a37 (((atI ((atI x3 x16).Rows) x30).Vers).length) (k37)]⟩) rfl rfl hd36 rfl rfl ?_
          refine Exec.run tyOk 10 rfl ?_
          obtain ⟨J40, hJ40, hF⟩ := jn_some hF
          refine Exec.seam (fun L' V' M' => ∃ (x39 : List Int) (a38 : Option Addr) (k38 : Nat) (cs38 : List Value), L' = [(0, .v (.int .i64 (x1))), (1, .v (.int .i64 (x2))), (7, .v (.slice a38 ((x39).length) (k38))), (16, .v (.slice a4 ((x3).length) (k4))), (17, .v (.int .i64 ((((x3).length : Nat) : Int)))), (18, .v (.int .i64 (x16))), (23, .v (.slice a22 (((atI x3 x16).Rows).length) (k22))), (24, .v (.int .i64 (((((atI x3 x16).Rows).length : Nat) : Int)))), (25, .v (.int .i64 (x30)))] ∧ M' = [.row (.slice a38 ((x39).length) (k38)) cs38 2 1] ∧ RowRep (cInt .i64) V' x39 cs38 ∧ SlAt cTStore V' a4 k4 x3 ∧ SlAt cTRow V' a22 k22 ((atI x3 x16).Rows) ∧ J40 x39 = some r) rfl ?_ ?_
          · rintro L' V41 M' ⟨x39, a38, k38, cs38, rfl, rfl, h38, h42, h43, hF⟩
            subst hJ40
            refine Exec.run tyOk 400 rfl ?_
            exact Exec.round [(0, .v (.int .i64 (x1))), (1, .v (.int .i64 (x2))), (7, .v (.slice a38 ((x39).length) (k38))), (16, .v (.slice a4 ((x3).length) (k4))), (17, .v (.int .i64 ((((x3).length : Nat) : Int)))), (18, .v (.int .i64 (x16))), (23, .v (.slice a22 (((atI x3 x16).Rows).length) (k22))), (24, .v (.int .i64 (((((atI x3 x16).Rows).length : Nat) : Int)))), (25, .v (.int .i64 ((IntKind.i64.wrap (x30 + (1 : Int))))))] ⟨rfl, rfl, rfl, rfl, rfl, rfl, rfl, rfl, rfl, trivial⟩ ⟨n31, Nat.lt_succ_self _, x39, a38, k38, cs38, (IntKind.i64.wrap (x30 + (1 : Int))), rfl, rfl, h38, h42, h43, hF⟩
          · skip
            refine Exec.run tyOk 400 rfl ?_
            refine Exec.cut 1 [(0, .v (.int .i64 (x1))), (1, .v (.int .i64 (x2))), (7, .v (.slice a28 ((x29).length) (k28))), (16, .v (.slice a4 ((x3).length) (k4))), (17, .v (.int .i64 ((((x3).length : Nat) : Int)))), (18, .v (.int .i64 (x16))), (23, .v (.slice a22 (((atI x3 x16).Rows).length) (k22))), (24, .v (.int .i64 (((((atI x3 x16).Rows).length : Nat) : Int)))), (25, .v (.int .i64 (x30))), (30, .v (.slice a37 (((atI ((atI x3 x16).Rows) x30).Vers).length) (k37))), (31, .v (.int .i64 (((((atI ((atI x3 x16).Rows) x30).Vers).length : Nat) : Int)))), (32, .v (.int .i64 ((0 : Int))))] (M' := [.row (.slice a28 ((x29).length) (k28)) cs28 2 1]) rfl ⟨rfl, rfl, rfl, rfl, rfl, rfl, rfl, rfl, rfl, rfl, rfl, rfl, trivial⟩ rfl rfl rfl ?_
            refine Exec.loop (fun n47 L' V' M' => ∃ (x45 : List Int) (a44 : Option Addr) (k44 : Nat) (cs44 : List Value) (x46 : Int), L' = [(0, .v (.int .i64 (x1))), (1, .v (.int .i64 (x2))), (7, .v (.slice a44 ((x45).length) (k44))), (16, .v (.slice a4 ((x3).length) (k4))), (17, .v (.int .i64 ((((x3).length : Nat) : Int)))), (18, .v (.int .i64 (x16))), (23, .v (.slice a22 (((atI x3 x16).Rows).length) (k22))), (24, .v (.int .i64 (((((atI x3 x16).Rows).length : Nat) : Int)))), (25, .v (.int .i64 (x30))), (30, .v (.slice a37 (((atI ((atI x3 x16).Rows) x30).Vers).length) (k37))), (31, .v (.int .i64 (((((atI ((atI x3 x16).Rows) x30).Vers).length : Nat) : Int)))), (32, .v (.int .i64 (x46)))] ∧ M' = [.row (.slice a44 ((x45).length) (k44)) cs44 2 1] ∧ RowRep (cInt .i64) V' x45 cs44 ∧ SlAt cTStore V' a4 k4 x3 ∧ SlAt cTRow V' a22 k22 ((atI x3 x16).Rows) ∧ SlAt cTVersion V' a37 k37 ((atI ((atI x3 x16).Rows) x30).Vers) ∧ F_verify_turns_L3 x3 x16 x30 x1 x2 J40 n47 x45 x46 = some r) ⟨((((((atI ((atI x3 x16).Rows) x30).Vers).length : Nat) : Int)).toNat + 1), [(0, .v (.int .i64 (x1))), (1, .v (.int .i64 (x2))), (7, .v (.slice a28 ((x29).length) (k28))), (16, .v (.slice a4 ((x3).length) (k4))), (17, .v (.int .i64 ((((x3).length : Nat) : Int)))), (18, .v (.int .i64 (x16))), (23, .v (.slice a22 (((atI x3 x16).Rows).length) (k22))), (24, .v (.int .i64 (((((atI x3 x16).Rows).length : Nat) : Int)))), (25, .v (.int .i64 (x30))), (30, .v (.slice a37 (((atI ((atI x3 x16).Rows) x30).Vers).length) (k37))), (31, .v (.int .i64 (((((atI ((atI x3 x16).Rows) x30).Vers).length : Nat) : Int)))), (32, .v (.int .i64 ((0 : Int))))], ⟨rfl, rfl, rfl, rfl, rfl, rfl, rfl, rfl, rfl, rfl, rfl, rfl, trivial⟩, x29, a28, k28, cs28, (0 : Int), rfl, rfl, h28, h33, h34, h37, hF⟩ ?_
            rintro n47 L' V48 M' ⟨x45, a44, k44, cs44, x46, rfl, rfl, h44, h49, h50, h51, hF⟩
            rcases n47 with _ | n47
            · exact absurd hF (by simp [F_verify_turns_L3])
            rw [F_verify_turns_L3] at hF
            refine Exec.run tyOk 400 rfl ?_
            rcases cond_some hF with ⟨hb, hF⟩ | ⟨hb, hF⟩
            · skip
              refine Exec.ifT rfl hb ?_
              refine Exec.run tyOk 400 rfl ?_
              obtain ⟨q52, hF⟩ := req_some hF
              obtain ⟨c53, hr53, hd53⟩ := SlAt.get h51 q52
              obtain rfl := hr53
              refine Exec.ia tyOk rfl rfl ⟨q52.1, q52.2, hd53.some⟩ ?_
              refine Exec.run tyOk 400 rfl ?_
              refine Exec.ld tyOk (x := .agg ⟨[.int .i64 ((atI ((atI ((atI x3 x16).Rows) x30).Vers) x46).At), .int .i64 ((atI ((atI ((atI x3 x16).Rows) x30).Vers) x46).Val.Kind), .int .i64 ((atI ((atI ((atI x3 x16).Rows) x30).Vers) x46).Val.N), .string ⟨⟨(atI ((atI ((atI x3 x16).Rows) x30).Vers) x46).Val.S⟩⟩]⟩) rfl rfl hd53 rfl rfl ?_
              refine Exec.run tyOk 400 rfl ?_
              obtain ⟨J56, hJ56, hF⟩ := jn_some hF
              refine Exec.seam (fun L' V' M' => ∃ (x55 : List Int) (a54 : Option Addr) (k54 : Nat) (cs54 : List Value), L' = [(0, .v (.int .i64 (x1))), (1, .v (.int .i64 (x2))), (7, .v (.slice a54 ((x55).length) (k54))), (16, .v (.slice a4 ((x3).length) (k4))), (17, .v (.int .i64 ((((x3).length : Nat) : Int)))), (18, .v (.int .i64 (x16))), (23, .v (.slice a22 (((atI x3 x16).Rows).length) (k22))), (24, .v (.int .i64 (((((atI x3 x16).Rows).length : Nat) : Int)))), (25, .v (.int .i64 (x30))), (30, .v (.slice a37 (((atI ((atI x3 x16).Rows) x30).Vers).length) (k37))), (31, .v (.int .i64 (((((atI ((atI x3 x16).Rows) x30).Vers).length : Nat) : Int)))), (32, .v (.int .i64 (x46)))] ∧ M' = [.row (.slice a54 ((x55).length) (k54)) cs54 2 1] ∧ RowRep (cInt .i64) V' x55 cs54 ∧ SlAt cTStore V' a4 k4 x3 ∧ SlAt cTRow V' a22 k22 ((atI x3 x16).Rows) ∧ SlAt cTVersion V' a37 k37 ((atI ((atI x3 x16).Rows) x30).Vers) ∧ J56 x55 = some r) rfl ?_ ?_
              · rintro L' V57 M' ⟨x55, a54, k54, cs54, rfl, rfl, h54, h58, h59, h60, hF⟩
                subst hJ56
                refine Exec.run tyOk 400 rfl ?_
                exact Exec.round [(0, .v (.int .i64 (x1))), (1, .v (.int .i64 (x2))), (7, .v (.slice a54 ((x55).length) (k54))), (16, .v (.slice a4 ((x3).length) (k4))), (17, .v (.int .i64 ((((x3).length : Nat) : Int)))), (18, .v (.int .i64 (x16))), (23, .v (.slice a22 (((atI x3 x16).Rows).length) (k22))), (24, .v (.int .i64 (((((atI x3 x16).Rows).length : Nat) : Int)))), (25, .v (.int .i64 (x30))), (30, .v (.slice a37 (((atI ((atI x3 x16).Rows) x30).Vers).length) (k37))), (31, .v (.int .i64 (((((atI ((atI x3 x16).Rows) x30).Vers).length : Nat) : Int)))), (32, .v (.int .i64 ((IntKind.i64.wrap (x46 + (1 : Int))))))] ⟨rfl, rfl, rfl, rfl, rfl, rfl, rfl, rfl, rfl, rfl, rfl, rfl, trivial⟩ ⟨n47, Nat.lt_succ_self _, x55, a54, k54, cs54, (IntKind.i64.wrap (x46 + (1 : Int))), rfl, rfl, h54, h58, h59, h60, hF⟩
              · skip
                refine Exec.run tyOk 400 rfl ?_
                rcases cond_some hF with ⟨hb, hF⟩ | ⟨hb, hF⟩
                · skip
                  refine Exec.ifT rfl hb ?_
                  refine Exec.run tyOk 400 rfl ?_
                  refine Exec.bsl tyOk rfl rfl ?_
                  refine Exec.run tyOk 400 rfl ?_
                  obtain ⟨q62, hF⟩ := req_some hF
                  refine Exec.app tyOk 0 2 (nm := ((x45 ++ [(atI ((atI ((atI x3 x16).Rows) x30).Vers) x46).At])).length) rfl rfl rfl rfl rfl rfl rfl rfl rfl (by simp) (fun _ _ => rfl) rfl q62 (fun a61 k61 => ?_)
                  have h61 : RowRep (cInt .i64) V48 (x45 ++ [(atI ((atI ((atI x3 x16).Rows) x30).Vers) x46).At]) (cs44 ++ [.int .i64 ((atI ((atI ((atI x3 x16).Rows) x30).Vers) x46).At)]) := RowRep.app h44 ⟨_, _, rfl, rfl, rfl⟩
                  refine Exec.run tyOk 400 rfl ?_
                  refine Exec.cut 1 [(0, .v (.int .i64 (x1))), (1, .v (.int .i64 (x2))), (7, .v (.slice a61 (((x45 ++ [(atI ((atI ((atI x3 x16).Rows) x30).Vers) x46).At])).length) (k61))), (16, .v (.slice a4 ((x3).length) (k4))), (17, .v (.int .i64 ((((x3).length : Nat) : Int)))), (18, .v (.int .i64 (x16))), (23, .v (.slice a22 (((atI x3 x16).Rows).length) (k22))), (24, .v (.int .i64 (((((atI x3 x16).Rows).length : Nat) : Int)))), (25, .v (.int .i64 (x30))), (30, .v (.slice a37 (((atI ((atI x3 x16).Rows) x30).Vers).length) (k37))), (31, .v (.int .i64 (((((atI ((atI x3 x16).Rows) x30).Vers).length : Nat) : Int)))), (32, .v (.int .i64 (x46)))] (M' := [.row (.slice a61 (((x45 ++ [(atI ((atI ((atI x3 x16).Rows) x30).Vers) x46).At])).length) (k61)) ((cs44 ++ [.int .i64 ((atI ((atI ((atI x3 x16).Rows) x30).Vers) x46).At)])) 2 1]) rfl ⟨rfl, rfl, rfl, rfl, rfl, rfl, rfl, rfl, rfl, rfl, rfl, rfl, trivial⟩ rfl rfl rfl ?_
                  exact Exec.round [(0, .v (.int .i64 (x1))), (1, .v (.int .i64 (x2))), (7, .v (.slice a61 (((x45 ++ [(atI ((atI ((atI x3 x16).Rows) x30).Vers) x46).At])).length) (k61))), (16, .v (.slice a4 ((x3).length) (k4))), (17, .v (.int .i64 ((((x3).length : Nat) : Int)))), (18, .v (.int .i64 (x16))), (23, .v (.slice a22 (((atI x3 x16).Rows).length) (k22))), (24, .v (.int .i64 (((((atI x3 x16).Rows).length : Nat) : Int)))), (25, .v (.int .i64 (x30))), (30, .v (.slice a37 (((atI ((atI x3 x16).Rows) x30).Vers).length) (k37))), (31, .v (.int .i64 (((((atI ((atI x3 x16).Rows) x30).Vers).length : Nat) : Int)))), (32, .v (.int .i64 (x46)))] ⟨rfl, rfl, rfl, rfl, rfl, rfl, rfl, rfl, rfl, rfl, rfl, rfl, trivial⟩ ⟨(x45 ++ [(atI ((atI ((atI x3 x16).Rows) x30).Vers) x46).At]), a61, k61, (cs44 ++ [.int .i64 ((atI ((atI ((atI x3 x16).Rows) x30).Vers) x46).At)]), rfl, rfl, h61, h49, h50, h51, hF⟩
                · skip
                  refine Exec.ifF rfl hb ?_
                  refine Exec.run tyOk 400 rfl ?_
                  refine Exec.cut 1 [(0, .v (.int .i64 (x1))), (1, .v (.int .i64 (x2))), (7, .v (.slice a44 ((x45).length) (k44))), (16, .v (.slice a4 ((x3).length) (k4))), (17, .v (.int .i64 ((((x3).length : Nat) : Int)))), (18, .v (.int .i64 (x16))), (23, .v (.slice a22 (((atI x3 x16).Rows).length) (k22))), (24, .v (.int .i64 (((((atI x3 x16).Rows).length : Nat) : Int)))), (25, .v (.int .i64 (x30))), (30, .v (.slice a37 (((atI ((atI x3 x16).Rows) x30).Vers).length) (k37))), (31, .v (.int .i64 (((((atI ((atI x3 x16).Rows) x30).Vers).length : Nat) : Int)))), (32, .v (.int .i64 (x46)))] (M' := [.row (.slice a44 ((x45).length) (k44)) cs44 2 1]) rfl ⟨rfl, rfl, rfl, rfl, rfl, rfl, rfl, rfl, rfl, rfl, rfl, rfl, trivial⟩ rfl rfl rfl ?_
                  exact Exec.round [(0, .v (.int .i64 (x1))), (1, .v (.int .i64 (x2))), (7, .v (.slice a44 ((x45).length) (k44))), (16, .v (.slice a4 ((x3).length) (k4))), (17, .v (.int .i64 ((((x3).length : Nat) : Int)))), (18, .v (.int .i64 (x16))), (23, .v (.slice a22 (((atI x3 x16).Rows).length) (k22))), (24, .v (.int .i64 (((((atI x3 x16).Rows).length : Nat) : Int)))), (25, .v (.int .i64 (x30))), (30, .v (.slice a37 (((atI ((atI x3 x16).Rows) x30).Vers).length) (k37))), (31, .v (.int .i64 (((((atI ((atI x3 x16).Rows) x30).Vers).length : Nat) : Int)))), (32, .v (.int .i64 (x46)))] ⟨rfl, rfl, rfl, rfl, rfl, rfl, rfl, rfl, rfl, rfl, rfl, rfl, trivial⟩ ⟨x45, a44, k44, cs44, rfl, rfl, h44, h49, h50, h51, hF⟩
            · skip
              refine Exec.ifF rfl hb ?_
              refine Exec.run tyOk 400 rfl ?_
              exact Exec.round [(0, .v (.int .i64 (x1))), (1, .v (.int .i64 (x2))), (7, .v (.slice a44 ((x45).length) (k44))), (16, .v (.slice a4 ((x3).length) (k4))), (17, .v (.int .i64 ((((x3).length : Nat) : Int)))), (18, .v (.int .i64 (x16))), (23, .v (.slice a22 (((atI x3 x16).Rows).length) (k22))), (24, .v (.int .i64 (((((atI x3 x16).Rows).length : Nat) : Int)))), (25, .v (.int .i64 (x30)))] ⟨rfl, rfl, rfl, rfl, rfl, rfl, rfl, rfl, rfl, trivial⟩ ⟨x45, a44, k44, cs44, rfl, rfl, h44, h49, h50, hF⟩
        · skip
          refine Exec.ifF rfl hb ?_
          refine Exec.run tyOk 400 rfl ?_
          exact Exec.round [(0, .v (.int .i64 (x1))), (1, .v (.int .i64 (x2))), (7, .v (.slice a28 ((x29).length) (k28))), (16, .v (.slice a4 ((x3).length) (k4))), (17, .v (.int .i64 ((((x3).length : Nat) : Int)))), (18, .v (.int .i64 (x16)))] ⟨rfl, rfl, rfl, rfl, rfl, rfl, trivial⟩ ⟨x29, a28, k28, cs28, rfl, rfl, h28, h33, hF⟩
    · skip
      refine Exec.ifF rfl hb ?_
      refine Exec.run tyOk 400 rfl ?_
      exact Exec.round [(7, .v (.slice a14 ((x15).length) (k14)))] ⟨rfl, trivial⟩ ⟨x15, a14, k14, cs14, rfl, rfl, h14, hF⟩

def F_clockworkref06_Same_L1 (x1 : List TPair) (x3 : List TPair) (J5 : Option Bool) : Nat → Int → Option Bool
  | 0, _ => none
  | n8 + 1, x7 => (cond (decide (x7 < (((x1).length : Nat) : Int))) (req (0 ≤ x7 ∧ x7 < ((x1).length : Int)) (req (0 ≤ x7 ∧ x7 < ((x3).length : Int)) (cond (!(((atI x1 x7).Key == (atI x3 x7).Key) && ((((atI x1 x7).Val.Kind == (atI x3 x7).Val.Kind) && (((atI x1 x7).Val.N == (atI x3 x7).Val.N) && (((atI x1 x7).Val.S == (atI x3 x7).Val.S) && true))) && true))) (some false) (F_clockworkref06_Same_L1 x1 x3 J5 n8 ((IntKind.i64.wrap (x7 + (1 : Int)))))))) J5)

def F_clockworkref06_Same (x1 : List TPair) (x3 : List TPair) : Option Bool :=
  (cond ((((x1).length : Nat) : Int) != (((x3).length : Nat) : Int)) (some false) (jn ((some true)) (fun J5 => (F_clockworkref06_Same_L1 x1 x3 J5 (((((x1).length : Nat) : Int)).toNat + 1) ((0 : Int))))))

set_option maxRecDepth 100000 in
theorem W_clockworkref06_Same {V : View} (x1 : List TPair) (x3 : List TPair) {a2 : Option Addr} {k2 : Nat} {a4 : Option Addr} {k4 : Nat} (h2 : SlAt cTPair V a2 k2 x1) (h4 : SlAt cTPair V a4 k4 x3) {r : Bool} (hF : F_clockworkref06_Same x1 x3 = some r) :
    Spec Tryz.prog 47 [.slice a2 ((x1).length) (k2), .slice a4 ((x3).length) (k4)] V (fun _ v => v = .bool (r)) := by
  unfold F_clockworkref06_Same at hF
  refine Spec.enter (T := tyT) Tryz.func47 rfl (by kernel_rfl) rfl rfl rfl ?_
  refine Exec.run tyOk 400 rfl ?_
  rcases cond_some hF with ⟨hb, hF⟩ | ⟨hb, hF⟩
  · skip
    refine Exec.ifT rfl hb ?_
    refine Exec.run tyOk 400 rfl ?_
    obtain rfl := some_inj hF
    exact Exec.ret tyOk rfl rfl rfl
  · skip
    refine Exec.ifF rfl hb ?_
    refine Exec.run tyOk 6 rfl ?_
    obtain ⟨J5, hJ5, hF⟩ := jn_some hF
    refine Exec.seam (fun L' V' M' => L' = [] ∧ M' = [] ∧ J5 = some r) rfl ?_ ?_
    · rintro L' V6 M' ⟨rfl, rfl, hF⟩
      subst hJ5
      refine Exec.run tyOk 400 rfl ?_
      obtain rfl := some_inj hF
      exact Exec.ret tyOk rfl rfl rfl
    · skip
      refine Exec.run tyOk 400 rfl ?_
      refine Exec.loop (fun n8 L' V' M' => ∃ (x7 : Int), L' = [(0, .v (.slice a2 ((x1).length) (k2))), (1, .v (.slice a4 ((x3).length) (k4))), (5, .v (.int .i64 (x7)))] ∧ M' = [] ∧ SlAt cTPair V' a2 k2 x1 ∧ SlAt cTPair V' a4 k4 x3 ∧ F_clockworkref06_Same_L1 x1 x3 J5 n8 x7 = some r) ⟨(((((x1).length : Nat) : Int)).toNat + 1), [(0, .v (.slice a2 ((x1).length) (k2))), (1, .v (.slice a4 ((x3).length) (k4))), (5, .v (.int .i64 ((0 : Int))))], ⟨rfl, rfl, rfl, trivial⟩, (0 : Int), rfl, rfl, h2, h4, hF⟩ ?_
      rintro n8 L' V9 M' ⟨x7, rfl, rfl, h10, h11, hF⟩
      rcases n8 with _ | n8
      · exact absurd hF (by simp [F_clockworkref06_Same_L1])
      rw [F_clockworkref06_Same_L1] at hF
      refine Exec.run tyOk 400 rfl ?_
      rcases cond_some hF with ⟨hb, hF⟩ | ⟨hb, hF⟩
      · skip
        refine Exec.ifT rfl hb ?_
        refine Exec.run tyOk 400 rfl ?_
        refine Exec.draws tyOk [(0, true), (1, true), (2, true), (3, true), (4, true), (5, true), (6, true), (7, true), (8, true)] rfl (by kernel_rfl) ?_
        refine Exec.run tyOk 400 rfl ?_
        obtain ⟨q12, hF⟩ := req_some hF
        obtain ⟨c13, hr13, hd13⟩ := SlAt.get h10 q12
        obtain rfl := hr13
        refine Exec.fia tyOk rfl rfl rfl ⟨q12.1, q12.2, hd13.some⟩ ?_
        refine Exec.run tyOk 400 rfl ?_
        refine Exec.fld tyOk (x := .agg ⟨[.string ⟨⟨(atI x1 x7).Key⟩⟩, .int .i64 ((atI x1 x7).Val.Kind), .int .i64 ((atI x1 x7).Val.N), .string ⟨⟨(atI x1 x7).Val.S⟩⟩]⟩) rfl rfl rfl hd13 rfl rfl ?_
        refine Exec.run tyOk 400 rfl ?_
        obtain ⟨q14, hF⟩ := req_some hF
        obtain ⟨c15, hr15, hd15⟩ := SlAt.get h11 q14
        obtain rfl := hr15
        refine Exec.fia tyOk rfl rfl rfl ⟨q14.1, q14.2, hd15.some⟩ ?_
        refine Exec.run tyOk 400 rfl ?_
        refine Exec.fld tyOk (x := .agg ⟨[.string ⟨⟨(atI x3 x7).Key⟩⟩, .int .i64 ((atI x3 x7).Val.Kind), .int .i64 ((atI x3 x7).Val.N), .string ⟨⟨(atI x3 x7).Val.S⟩⟩]⟩) rfl rfl rfl hd15 rfl rfl ?_
        refine Exec.run tyOk 400 rfl ?_
        rcases cond_some hF with ⟨hb, hF⟩ | ⟨hb, hF⟩
        · skip
          refine Exec.ifT rfl hb ?_
          refine Exec.run tyOk 400 rfl ?_
          obtain rfl := some_inj hF
          exact Exec.ret tyOk rfl rfl rfl
        · skip
          refine Exec.ifF rfl hb ?_
          refine Exec.run tyOk 400 rfl ?_
          exact Exec.round [(0, .v (.slice a2 ((x1).length) (k2))), (1, .v (.slice a4 ((x3).length) (k4))), (5, .v (.int .i64 ((IntKind.i64.wrap (x7 + (1 : Int))))))] ⟨rfl, rfl, rfl, trivial⟩ ⟨n8, Nat.lt_succ_self _, (IntKind.i64.wrap (x7 + (1 : Int))), rfl, rfl, h10, h11, hF⟩
      · skip
        refine Exec.ifF rfl hb ?_
        refine Exec.run tyOk 400 rfl ?_
        exact Exec.round [] trivial ⟨rfl, rfl, hF⟩

def F_clockworkref54_next_L2 (x16 : Int) (x1 : TStore) (x3 : TStore) (x5 : Int) (J23 : Int → Option Int) : Nat → Int → Int → Option Int
  | 0, _, _ => none
  | n30 + 1, x28, x29 => (req (0 ≤ x16 ∧ x16 < ((((([] : List TRow) ++ x1.Rows) ++ x3.Rows)).length : Int)) (cond (decide (x29 < ((((atI (((([] : List TRow) ++ x1.Rows) ++ x3.Rows)) x16).Vers).length : Nat) : Int))) (req (0 ≤ x16 ∧ x16 < ((((([] : List TRow) ++ x1.Rows) ++ x3.Rows)).length : Int)) (req (0 ≤ x29 ∧ x29 < (((atI (((([] : List TRow) ++ x1.Rows) ++ x3.Rows)) x16).Vers).length : Int)) (jn (fun (x45 : Int) => (F_clockworkref54_next_L2 x16 x1 x3 x5 J23 n30 x45 ((IntKind.i64.wrap (x29 + (1 : Int)))))) (fun J46 => (cond ((decide (x5 < (atI ((atI (((([] : List TRow) ++ x1.Rows) ++ x3.Rows)) x16).Vers) x29).At)) && ((x28 == x5) || (decide ((atI ((atI (((([] : List TRow) ++ x1.Rows) ++ x3.Rows)) x16).Vers) x29).At < x28)))) (J46 ((atI ((atI (((([] : List TRow) ++ x1.Rows) ++ x3.Rows)) x16).Vers) x29).At)) (J46 x28)))))) (J23 x28)))

def F_clockworkref54_next_L1 (x1 : TStore) (x3 : TStore) (x5 : Int) (J12 : Int → Option Int) : Nat → Int → Int → Option Int
  | 0, _, _ => none
  | n17 + 1, x15, x16 => (cond (decide (x16 < (((((([] : List TRow) ++ x1.Rows) ++ x3.Rows)).length : Nat) : Int))) (jn (fun (x22 : Int) => (F_clockworkref54_next_L1 x1 x3 x5 J12 n17 x22 ((IntKind.i64.wrap (x16 + (1 : Int)))))) (fun J23 => (F_clockworkref54_next_L2 x16 x1 x3 x5 J23 (1000000 : Nat) x15 ((0 : Int))))) (J12 x15))

def F_clockworkref54_next (x1 : TStore) (x3 : TStore) (x5 : Int) : Option Int :=
  (req (((([] : List TRow) ++ x1.Rows)).length * 40 ≤ 140737488355328) (req ((((([] : List TRow) ++ x1.Rows) ++ x3.Rows)).length * 40 ≤ 140737488355328) (jn (fun (x11 : Int) => (some x11)) (fun J12 => (F_clockworkref54_next_L1 x1 x3 x5 J12 (((((((([] : List TRow) ++ x1.Rows) ++ x3.Rows)).length : Nat) : Int)).toNat + 1) x5 ((0 : Int)))))))

set_option maxRecDepth 100000 in
theorem W_clockworkref54_next {V : View} (x1 : TStore) (x3 : TStore) (x5 : Int) {a2 : Option Addr} {k2 : Nat} {a4 : Option Addr} {k4 : Nat} (h2 : SlAt cTRow V a2 k2 x1.Rows) (h4 : SlAt cTRow V a4 k4 x3.Rows) {r : Int} (hF : F_clockworkref54_next x1 x3 x5 = some r) :
    Spec Tryz.prog 48 [.agg ⟨[.int .i64 (x1.Floor), .int .i64 (x1.Last), .slice a2 ((x1.Rows).length) (k2)]⟩, .agg ⟨[.int .i64 (x3.Floor), .int .i64 (x3.Last), .slice a4 ((x3.Rows).length) (k4)]⟩, .int .i64 (x5)] V (fun _ v => v = .int .i64 (r)) := by
  unfold F_clockworkref54_next at hF
  refine Spec.enter (T := tyT) Tryz.func48 rfl (by kernel_rfl) rfl rfl rfl ?_
  refine Exec.run tyOk 400 rfl ?_
  refine Exec.row0 73 2 rfl ?_
  have h6 : RowRep cTRow V [] [] := RowRep.nil
  obtain ⟨q8, hF⟩ := req_some hF
  refine Exec.appS tyOk (cd := cTRow) 2 (nm := ((([] : List TRow) ++ x1.Rows)).length) rfl rfl rfl rfl rfl rfl h2 (by first | rfl | simp) (by first | rfl | exact List.length_append.symm | simp) (fun _ _ _ => rfl) rfl q8 (fun cs7 hs7 a7 k7 => ?_)
  have h7 : RowRep cTRow V (([] : List TRow) ++ x1.Rows) ([] ++ cs7) := RowRep.app h6 hs7
  refine Exec.run tyOk 400 rfl ?_
  obtain ⟨q10, hF⟩ := req_some hF
  refine Exec.appS tyOk (cd := cTRow) 2 (nm := (((([] : List TRow) ++ x1.Rows) ++ x3.Rows)).length) rfl rfl rfl rfl rfl rfl h4 (by first | rfl | simp) (by first | rfl | exact List.length_append.symm | simp) (fun _ _ _ => rfl) rfl q10 (fun cs9 hs9 a9 k9 => ?_)
  have h9 : RowRep cTRow V ((([] : List TRow) ++ x1.Rows) ++ x3.Rows) (([] ++ cs7) ++ cs9) := RowRep.app h7 hs9
  refine Exec.run tyOk 7 rfl ?_
  obtain ⟨J12, hJ12, hF⟩ := jn_some hF
  refine Exec.seam (fun L' V' M' => ∃ (x11 : Int), L' = [(7, .v (.int .i64 (x11)))] ∧ M' = [] ∧ J12 x11 = some r) rfl ?_ ?_
  · rintro L' V13 M' ⟨x11, rfl, rfl, hF⟩
    subst hJ12
    refine Exec.run tyOk 400 rfl ?_
    obtain rfl := some_inj hF
    exact Exec.ret tyOk rfl rfl rfl
  · skip
    refine Exec.run tyOk 400 rfl ?_
    refine Exec.loop (fun n17 L' V' M' => ∃ (x15 : Int) (x16 : Int), L' = [(2, .v (.int .i64 (x5))), (7, .v (.int .i64 (x15))), (8, .v (.slice a9 ((((([] : List TRow) ++ x1.Rows) ++ x3.Rows)).length) (k9))), (9, .v (.int .i64 (x16)))] ∧ M' = [.blk [.v (.int .i64 (x1.Floor)), .v (.int .i64 (x1.Last)), .v (.slice a2 ((x1.Rows).length) (k2))] 40, .blk [.v (.int .i64 (x3.Floor)), .v (.int .i64 (x3.Last)), .v (.slice a4 ((x3.Rows).length) (k4))] 40, .row (.slice a9 ((((([] : List TRow) ++ x1.Rows) ++ x3.Rows)).length) (k9)) ((([] ++ cs7) ++ cs9)) 73 2] ∧ RowRep cTRow V' (((([] : List TRow) ++ x1.Rows) ++ x3.Rows)) ((([] ++ cs7) ++ cs9)) ∧ SlAt cTRow V' a2 k2 x1.Rows ∧ SlAt cTRow V' a4 k4 x3.Rows ∧ F_clockworkref54_next_L1 x1 x3 x5 J12 n17 x15 x16 = some r) ⟨(((((((([] : List TRow) ++ x1.Rows) ++ x3.Rows)).length : Nat) : Int)).toNat + 1), [(2, .v (.int .i64 (x5))), (7, .v (.int .i64 (x5))), (8, .v (.slice a9 ((((([] : List TRow) ++ x1.Rows) ++ x3.Rows)).length) (k9))), (9, .v (.int .i64 ((0 : Int))))], ⟨rfl, rfl, rfl, rfl, trivial⟩, x5, (0 : Int), rfl, rfl, h9, h2, h4, hF⟩ ?_
    rintro n17 L' V18 M' ⟨x15, x16, rfl, rfl, h14, h19, h20, hF⟩
    rcases n17 with _ | n17
    · exact absurd hF (by simp [F_clockworkref54_next_L1])
    rw [F_clockworkref54_next_L1] at hF
    refine Exec.run tyOk 400 rfl ?_
    rcases cond_some hF with ⟨hb, hF⟩ | ⟨hb, hF⟩
    · skip
      refine Exec.ifT rfl hb ?_
      refine Exec.run tyOk 7 rfl ?_
      obtain ⟨J23, hJ23, hF⟩ := jn_some hF
      refine Exec.seam (fun L' V' M' => ∃ (x22 : Int), L' = [(2, .v (.int .i64 (x5))), (7, .v (.int .i64 (x22))), (8, .v (.slice a9 ((((([] : List TRow) ++ x1.Rows) ++ x3.Rows)).length) (k9))), (9, .v (.int .i64 (x16)))] ∧ M' = [.blk [.v (.int .i64 (x1.Floor)), .v (.int .i64 (x1.Last)), .v (.slice a2 ((x1.Rows).length) (k2))] 40, .blk [.v (.int .i64 (x3.Floor)), .v (.int .i64 (x3.Last)), .v (.slice a4 ((x3.Rows).length) (k4))] 40, .row (.slice a9 ((((([] : List TRow) ++ x1.Rows) ++ x3.Rows)).length) (k9)) ((([] ++ cs7) ++ cs9)) 73 2] ∧ RowRep cTRow V' (((([] : List TRow) ++ x1.Rows) ++ x3.Rows)) ((([] ++ cs7) ++ cs9)) ∧ SlAt cTRow V' a2 k2 x1.Rows ∧ SlAt cTRow V' a4 k4 x3.Rows ∧ J23 x22 = some r) rfl ?_ ?_
      · rintro L' V24 M' ⟨x22, rfl, rfl, h21, h25, h26, hF⟩
        subst hJ23
        refine Exec.run tyOk 400 rfl ?_
        exact Exec.round [(2, .v (.int .i64 (x5))), (7, .v (.int .i64 (x22))), (8, .v (.slice a9 ((((([] : List TRow) ++ x1.Rows) ++ x3.Rows)).length) (k9))), (9, .v (.int .i64 ((IntKind.i64.wrap (x16 + (1 : Int))))))] ⟨rfl, rfl, rfl, rfl, trivial⟩ ⟨n17, Nat.lt_succ_self _, x22, (IntKind.i64.wrap (x16 + (1 : Int))), rfl, rfl, h21, h25, h26, hF⟩
      · skip
        refine Exec.run tyOk 400 rfl ?_
        refine Exec.loop (fun n30 L' V' M' => ∃ (x28 : Int) (x29 : Int), L' = [(2, .v (.int .i64 (x5))), (7, .v (.int .i64 (x28))), (8, .v (.slice a9 ((((([] : List TRow) ++ x1.Rows) ++ x3.Rows)).length) (k9))), (9, .v (.int .i64 (x16))), (10, .v (.int .i64 (x29)))] ∧ M' = [.blk [.v (.int .i64 (x1.Floor)), .v (.int .i64 (x1.Last)), .v (.slice a2 ((x1.Rows).length) (k2))] 40, .blk [.v (.int .i64 (x3.Floor)), .v (.int .i64 (x3.Last)), .v (.slice a4 ((x3.Rows).length) (k4))] 40, .row (.slice a9 ((((([] : List TRow) ++ x1.Rows) ++ x3.Rows)).length) (k9)) ((([] ++ cs7) ++ cs9)) 73 2] ∧ RowRep cTRow V' (((([] : List TRow) ++ x1.Rows) ++ x3.Rows)) ((([] ++ cs7) ++ cs9)) ∧ SlAt cTRow V' a2 k2 x1.Rows ∧ SlAt cTRow V' a4 k4 x3.Rows ∧ F_clockworkref54_next_L2 x16 x1 x3 x5 J23 n30 x28 x29 = some r) ⟨(1000000 : Nat), [(2, .v (.int .i64 (x5))), (7, .v (.int .i64 (x15))), (8, .v (.slice a9 ((((([] : List TRow) ++ x1.Rows) ++ x3.Rows)).length) (k9))), (9, .v (.int .i64 (x16))), (10, .v (.int .i64 ((0 : Int))))], ⟨rfl, rfl, rfl, rfl, rfl, trivial⟩, x15, (0 : Int), rfl, rfl, h14, h19, h20, hF⟩ ?_
        rintro n30 L' V31 M' ⟨x28, x29, rfl, rfl, h27, h32, h33, hF⟩
        rcases n30 with _ | n30
        · exact absurd hF (by simp [F_clockworkref54_next_L2])
        rw [F_clockworkref54_next_L2] at hF
        refine Exec.run tyOk 400 rfl ?_
        obtain ⟨q34, hF⟩ := req_some hF
        refine Exec.rowI 2 rfl (fun ra35 rb35 rc35 => ?_)
        obtain ⟨c36, hr36, hd36⟩ := RowRep.get h27 q34
        obtain ⟨a37, k37, rfl, h37⟩ := hr36
        have rd35 : 0 ≤ x16 ∧ x16 < (((((([] : List TRow) ++ x1.Rows) ++ x3.Rows)).length : Nat) : Int) := q34
        have rs35 := rb35 (by omega)
        refine Exec.ia tyOk rfl rfl ⟨rd35.1, rd35.2, rs35⟩ ?_
        refine Exec.run tyOk 400 rfl ?_
        refine Exec.ldR tyOk 2 (x := .slice a37 (((atI (((([] : List TRow) ++ x1.Rows) ++ x3.Rows)) x16).Vers).length) (k37)) rfl rfl rfl ⟨(CellsAt.part hd36 1 1 rfl), rs35⟩ rfl rfl ?_
        refine Exec.run tyOk 400 rfl ?_
        rcases cond_some hF with ⟨hb, hF⟩ | ⟨hb, hF⟩
        · skip
          refine Exec.ifT rfl hb ?_
          refine Exec.run tyOk 400 rfl ?_
          obtain ⟨q38, hF⟩ := req_some hF
          refine Exec.rowI 2 rfl (fun ra39 rb39 rc39 => ?_)
          obtain ⟨c40, hr40, hd40⟩ := RowRep.get h27 q38
          obtain ⟨a41, k41, rfl, h41⟩ := hr40
          have rd39 : 0 ≤ x16 ∧ x16 < (((((([] : List TRow) ++ x1.Rows) ++ x3.Rows)).length : Nat) : Int) := q38
          have rs39 := rb39 (by omega)
          refine Exec.ia tyOk rfl rfl ⟨rd39.1, rd39.2, rs39⟩ ?_
          refine Exec.run tyOk 400 rfl ?_
          refine Exec.ldR tyOk 2 (x := .slice a41 (((atI (((([] : List TRow) ++ x1.Rows) ++ x3.Rows)) x16).Vers).length) (k41)) rfl rfl rfl ⟨(CellsAt.part hd40 1 1 rfl), rs39⟩ rfl rfl ?_
          refine Exec.run tyOk 400 rfl ?_
          obtain ⟨q42, hF⟩ := req_some hF
          obtain ⟨c43, hr43, hd43⟩ := SlAt.get h41 q42
          obtain rfl := hr43
          refine Exec.ia tyOk rfl rfl ⟨q42.1, q42.2, hd43.some⟩ ?_
          refine Exec.run tyOk 400 rfl ?_
          refine Exec.ld tyOk (x := .int .i64 ((atI ((atI (((([] : List TRow) ++ x1.Rows) ++ x3.Rows)) x16).Vers) x29).At)) rfl rfl (RdAt.part hd43 0 1 rfl) rfl rfl ?_
          refine Exec.run tyOk 400 rfl ?_
          obtain ⟨J46, hJ46, hF⟩ := jn_some hF
          refine Exec.seam (fun L' V' M' => ∃ (x45 : Int), L' = [(2, .v (.int .i64 (x5))), (7, .v (.int .i64 (x45))), (8, .v (.slice a9 ((((([] : List TRow) ++ x1.Rows) ++ x3.Rows)).length) (k9))), (9, .v (.int .i64 (x16))), (10, .v (.int .i64 (x29)))] ∧ M' = [.blk [.v (.int .i64 (x1.Floor)), .v (.int .i64 (x1.Last)), .v (.slice a2 ((x1.Rows).length) (k2))] 40, .blk [.v (.int .i64 (x3.Floor)), .v (.int .i64 (x3.Last)), .v (.slice a4 ((x3.Rows).length) (k4))] 40, .row (.slice a9 ((((([] : List TRow) ++ x1.Rows) ++ x3.Rows)).length) (k9)) ((([] ++ cs7) ++ cs9)) 73 2] ∧ RowRep cTRow V' (((([] : List TRow) ++ x1.Rows) ++ x3.Rows)) ((([] ++ cs7) ++ cs9)) ∧ SlAt cTRow V' a2 k2 x1.Rows ∧ SlAt cTRow V' a4 k4 x3.Rows ∧ J46 x45 = some r) rfl ?_ ?_
          · rintro L' V47 M' ⟨x45, rfl, rfl, h44, h48, h49, hF⟩
            subst hJ46
            refine Exec.run tyOk 400 rfl ?_
            exact Exec.round [(2, .v (.int .i64 (x5))), (7, .v (.int .i64 (x45))), (8, .v (.slice a9 ((((([] : List TRow) ++ x1.Rows) ++ x3.Rows)).length) (k9))), (9, .v (.int .i64 (x16))), (10, .v (.int .i64 ((IntKind.i64.wrap (x29 + (1 : Int))))))] ⟨rfl, rfl, rfl, rfl, rfl, trivial⟩ ⟨n30, Nat.lt_succ_self _, x45, (IntKind.i64.wrap (x29 + (1 : Int))), rfl, rfl, h44, h48, h49, hF⟩
          · skip
            refine Exec.run tyOk 400 rfl ?_
            rcases cond_some hF with ⟨hb, hF⟩ | ⟨hb, hF⟩
            · skip
              refine Exec.ifT rfl hb ?_
              refine Exec.run tyOk 400 rfl ?_
              exact Exec.round [(2, .v (.int .i64 (x5))), (7, .v (.int .i64 ((atI ((atI (((([] : List TRow) ++ x1.Rows) ++ x3.Rows)) x16).Vers) x29).At))), (8, .v (.slice a9 ((((([] : List TRow) ++ x1.Rows) ++ x3.Rows)).length) (k9))), (9, .v (.int .i64 (x16))), (10, .v (.int .i64 (x29)))] ⟨rfl, rfl, rfl, rfl, rfl, trivial⟩ ⟨(atI ((atI (((([] : List TRow) ++ x1.Rows) ++ x3.Rows)) x16).Vers) x29).At, rfl, rfl, h27, h32, h33, hF⟩
            · skip
              refine Exec.ifF rfl hb ?_
              refine Exec.run tyOk 400 rfl ?_
              exact Exec.round [(2, .v (.int .i64 (x5))), (7, .v (.int .i64 (x28))), (8, .v (.slice a9 ((((([] : List TRow) ++ x1.Rows) ++ x3.Rows)).length) (k9))), (9, .v (.int .i64 (x16))), (10, .v (.int .i64 (x29)))] ⟨rfl, rfl, rfl, rfl, rfl, trivial⟩ ⟨x28, rfl, rfl, h27, h32, h33, hF⟩
        · skip
          refine Exec.ifF rfl hb ?_
          refine Exec.run tyOk 400 rfl ?_
          exact Exec.round [(2, .v (.int .i64 (x5))), (7, .v (.int .i64 (x28))), (8, .v (.slice a9 ((((([] : List TRow) ++ x1.Rows) ++ x3.Rows)).length) (k9))), (9, .v (.int .i64 (x16)))] ⟨rfl, rfl, rfl, rfl, trivial⟩ ⟨x28, rfl, rfl, h27, h32, h33, hF⟩
    · skip
      refine Exec.ifF rfl hb ?_
      refine Exec.run tyOk 400 rfl ?_
      refine Exec.cut 0 [(7, .v (.int .i64 (x15)))] (M' := []) rfl ⟨rfl, trivial⟩ rfl rfl rfl ?_
      exact Exec.round [(7, .v (.int .i64 (x15)))] ⟨rfl, trivial⟩ ⟨x15, rfl, rfl, hF⟩

def F_clockworkref06_Has_L1 (x1 : List TPair) (x3 : Str) (J4 : Option Bool) : Nat → Int → Option Bool
  | 0, _ => none
  | n7 + 1, x6 => (cond (decide (x6 < (((x1).length : Nat) : Int))) (req (0 ≤ x6 ∧ x6 < ((x1).length : Int)) (cond ((atI x1 x6).Key == x3) (some true) (F_clockworkref06_Has_L1 x1 x3 J4 n7 ((IntKind.i64.wrap (x6 + (1 : Int))))))) J4)

def F_clockworkref06_Has (x1 : List TPair) (x3 : Str) : Option Bool :=
  (jn ((some false)) (fun J4 => (F_clockworkref06_Has_L1 x1 x3 J4 (((((x1).length : Nat) : Int)).toNat + 1) ((0 : Int)))))

set_option maxRecDepth 100000 in
theorem W_clockworkref06_Has {V : View} (x1 : List TPair) (x3 : Str) {a2 : Option Addr} {k2 : Nat} (h2 : SlAt cTPair V a2 k2 x1) {r : Bool} (hF : F_clockworkref06_Has x1 x3 = some r) :
    Spec Tryz.prog 50 [.slice a2 ((x1).length) (k2), .string ⟨⟨x3⟩⟩] V (fun _ v => v = .bool (r)) := by
  unfold F_clockworkref06_Has at hF
  refine Spec.enter (T := tyT) Tryz.func50 rfl (by kernel_rfl) rfl rfl rfl ?_
  refine Exec.run tyOk 9 rfl ?_
  obtain ⟨J4, hJ4, hF⟩ := jn_some hF
  refine Exec.seam (fun L' V' M' => L' = [] ∧ M' = [] ∧ J4 = some r) rfl ?_ ?_
  · rintro L' V5 M' ⟨rfl, rfl, hF⟩
    subst hJ4
    refine Exec.run tyOk 400 rfl ?_
    obtain rfl := some_inj hF
    exact Exec.ret tyOk rfl rfl rfl
  · skip
    refine Exec.run tyOk 400 rfl ?_
    refine Exec.loop (fun n7 L' V' M' => ∃ (x6 : Int), L' = [(0, .v (.slice a2 ((x1).length) (k2))), (1, .v (.string ⟨⟨x3⟩⟩)), (5, .v (.int .i64 (x6)))] ∧ M' = [] ∧ SlAt cTPair V' a2 k2 x1 ∧ F_clockworkref06_Has_L1 x1 x3 J4 n7 x6 = some r) ⟨(((((x1).length : Nat) : Int)).toNat + 1), [(0, .v (.slice a2 ((x1).length) (k2))), (1, .v (.string ⟨⟨x3⟩⟩)), (5, .v (.int .i64 ((0 : Int))))], ⟨rfl, rfl, rfl, trivial⟩, (0 : Int), rfl, rfl, h2, hF⟩ ?_
    rintro n7 L' V8 M' ⟨x6, rfl, rfl, h9, hF⟩
    rcases n7 with _ | n7
    · exact absurd hF (by simp [F_clockworkref06_Has_L1])
    rw [F_clockworkref06_Has_L1] at hF
    refine Exec.run tyOk 400 rfl ?_
    rcases cond_some hF with ⟨hb, hF⟩ | ⟨hb, hF⟩
    · skip
      refine Exec.ifT rfl hb ?_
      refine Exec.run tyOk 400 rfl ?_
      obtain ⟨q10, hF⟩ := req_some hF
      obtain ⟨c11, hr11, hd11⟩ := SlAt.get h9 q10
      obtain rfl := hr11
      refine Exec.ia tyOk rfl rfl ⟨q10.1, q10.2, hd11.some⟩ ?_
      refine Exec.run tyOk 400 rfl ?_
      refine Exec.ld tyOk (x := .string ⟨⟨(atI x1 x6).Key⟩⟩) rfl rfl (RdAt.part hd11 0 1 rfl) rfl rfl ?_
      refine Exec.run tyOk 400 rfl ?_
      rcases cond_some hF with ⟨hb, hF⟩ | ⟨hb, hF⟩
      · skip
        refine Exec.ifT rfl hb ?_
        refine Exec.run tyOk 400 rfl ?_
        obtain rfl := some_inj hF
        exact Exec.ret tyOk rfl rfl rfl
      · skip
        refine Exec.ifF rfl hb ?_
        refine Exec.run tyOk 400 rfl ?_
        exact Exec.round [(0, .v (.slice a2 ((x1).length) (k2))), (1, .v (.string ⟨⟨x3⟩⟩)), (5, .v (.int .i64 ((IntKind.i64.wrap (x6 + (1 : Int))))))] ⟨rfl, rfl, rfl, trivial⟩ ⟨n7, Nat.lt_succ_self _, (IntKind.i64.wrap (x6 + (1 : Int))), rfl, rfl, h9, hF⟩
    · skip
      refine Exec.ifF rfl hb ?_
      refine Exec.run tyOk 400 rfl ?_
      exact Exec.round [] trivial ⟨rfl, rfl, hF⟩

def F_clockworkref06_Get_L1 (x1 : List TPair) (x3 : Str) (J5 : TValue → Option TValue) : Nat → TValue → Int → Option TValue
  | 0, _, _ => none
  | n9 + 1, x7, x8 => (cond (decide (x8 < (((x1).length : Nat) : Int))) (req (0 ≤ x8 ∧ x8 < ((x1).length : Int)) (cond ((atI x1 x8).Key == x3) (req (0 ≤ x8 ∧ x8 < ((x1).length : Int)) (some (atI x1 x8).Val)) (F_clockworkref06_Get_L1 x1 x3 J5 n9 x7 ((IntKind.i64.wrap (x8 + (1 : Int))))))) (J5 x7))

def F_clockworkref06_Get (x1 : List TPair) (x3 : Str) : Option TValue :=
  (jn (fun (x4 : TValue) => (some (⟨0, 0, []⟩ : TValue))) (fun J5 => (F_clockworkref06_Get_L1 x1 x3 J5 (((((x1).length : Nat) : Int)).toNat + 1) ((default : TValue)) ((0 : Int)))))

set_option maxRecDepth 100000 in
theorem W_clockworkref06_Get {V : View} (x1 : List TPair) (x3 : Str) {a2 : Option Addr} {k2 : Nat} (h2 : SlAt cTPair V a2 k2 x1) {r : TValue} (hF : F_clockworkref06_Get x1 x3 = some r) :
    Spec Tryz.prog 51 [.slice a2 ((x1).length) (k2), .string ⟨⟨x3⟩⟩] V (fun _ v => v = .agg ⟨[.int .i64 (r.Kind), .int .i64 (r.N), .string ⟨⟨r.S⟩⟩]⟩) := by
  unfold F_clockworkref06_Get at hF
  refine Spec.enter (T := tyT) Tryz.func51 rfl (by kernel_rfl) rfl rfl rfl ?_
  refine Exec.run tyOk 9 rfl ?_
  obtain ⟨J5, hJ5, hF⟩ := jn_some hF
  refine Exec.seam (fun L' V' M' => ∃ (x4 : TValue), L' = [(4, .ptr 0 0)] ∧ M' = [.blk [.v (.int .i64 (x4.Kind)), .v (.int .i64 (x4.N)), .v (.string ⟨⟨x4.S⟩⟩)] 53] ∧ J5 x4 = some r) rfl ?_ ?_
  · rintro L' V6 M' ⟨x4, rfl, rfl, hF⟩
    subst hJ5
    refine Exec.run tyOk 400 rfl ?_
    obtain rfl := some_inj hF
    exact Exec.ret tyOk rfl rfl rfl
  · skip
    refine Exec.run tyOk 400 rfl ?_
    refine Exec.loop (fun n9 L' V' M' => ∃ (x7 : TValue) (x8 : Int), L' = [(0, .v (.slice a2 ((x1).length) (k2))), (1, .v (.string ⟨⟨x3⟩⟩)), (4, .ptr 0 0), (5, .v (.int .i64 (x8)))] ∧ M' = [.blk [.v (.int .i64 (x7.Kind)), .v (.int .i64 (x7.N)), .v (.string ⟨⟨x7.S⟩⟩)] 53] ∧ SlAt cTPair V' a2 k2 x1 ∧ F_clockworkref06_Get_L1 x1 x3 J5 n9 x7 x8 = some r) ⟨(((((x1).length : Nat) : Int)).toNat + 1), [(0, .v (.slice a2 ((x1).length) (k2))), (1, .v (.string ⟨⟨x3⟩⟩)), (4, .ptr 0 0), (5, .v (.int .i64 ((0 : Int))))], ⟨rfl, rfl, rfl, rfl, trivial⟩, (default : TValue), (0 : Int), rfl, rfl, h2, hF⟩ ?_
    rintro n9 L' V10 M' ⟨x7, x8, rfl, rfl, h11, hF⟩
    rcases n9 with _ | n9
    · exact absurd hF (by simp [F_clockworkref06_Get_L1])
    rw [F_clockworkref06_Get_L1] at hF
    refine Exec.run tyOk 400 rfl ?_
    rcases cond_some hF with ⟨hb, hF⟩ | ⟨hb, hF⟩
    · skip
      refine Exec.ifT rfl hb ?_
      refine Exec.run tyOk 400 rfl ?_
      obtain ⟨q12, hF⟩ := req_some hF
      obtain ⟨c13, hr13, hd13⟩ := SlAt.get h11 q12
      obtain rfl := hr13
      refine Exec.ia tyOk rfl rfl ⟨q12.1, q12.2, hd13.some⟩ ?_
      refine Exec.run tyOk 400 rfl ?_
      refine Exec.ld tyOk (x := .string ⟨⟨(atI x1 x8).Key⟩⟩) rfl rfl (RdAt.part hd13 0 1 rfl) rfl rfl ?_
      refine Exec.run tyOk 400 rfl ?_
      rcases cond_some hF with ⟨hb, hF⟩ | ⟨hb, hF⟩
      · skip
        refine Exec.ifT rfl hb ?_
        refine Exec.run tyOk 400 rfl ?_
        obtain ⟨q14, hF⟩ := req_some hF
        obtain ⟨c15, hr15, hd15⟩ := SlAt.get h11 q14
        obtain rfl := hr15
        refine Exec.ia tyOk rfl rfl ⟨q14.1, q14.2, hd15.some⟩ ?_
        refine Exec.run tyOk 400 rfl ?_
        refine Exec.ld tyOk (x := .agg ⟨[.int .i64 ((atI x1 x8).Val.Kind), .int .i64 ((atI x1 x8).Val.N), .string ⟨⟨(atI x1 x8).Val.S⟩⟩]⟩) rfl rfl (RdAt.part hd15 1 3 rfl) rfl rfl ?_
        refine Exec.run tyOk 400 rfl ?_
        obtain rfl := some_inj hF
        exact Exec.ret tyOk rfl rfl rfl
      · skip
        refine Exec.ifF rfl hb ?_
        refine Exec.run tyOk 400 rfl ?_
        exact Exec.round [(0, .v (.slice a2 ((x1).length) (k2))), (1, .v (.string ⟨⟨x3⟩⟩)), (4, .ptr 0 0), (5, .v (.int .i64 ((IntKind.i64.wrap (x8 + (1 : Int))))))] ⟨rfl, rfl, rfl, rfl, trivial⟩ ⟨n9, Nat.lt_succ_self _, x7, (IntKind.i64.wrap (x8 + (1 : Int))), rfl, rfl, h11, hF⟩
    · skip
      refine Exec.ifF rfl hb ?_
      refine Exec.run tyOk 400 rfl ?_
      exact Exec.round [(4, .ptr 0 0)] ⟨rfl, trivial⟩ ⟨x7, rfl, rfl, hF⟩

def F_clockworkref06_with_L1 (x1 : List TPair) (x3 : TPair) (J5 : Int → Option (List TPair)) : Nat → Int → Option (List TPair)
  | 0, _ => none
  | n24 + 1, x23 => (req ((((decide (x23 < (((x1).length : Nat) : Int)))) == true) = true → 0 ≤ x23 ∧ x23 < ((x1).length : Int)) (cond ((decide (x23 < (((x1).length : Nat) : Int))) && (sLt (cond (((decide (x23 < (((x1).length : Nat) : Int)))) == true) (atI x1 x23) default).Key x3.Key)) (F_clockworkref06_with_L1 x1 x3 J5 n24 ((IntKind.i64.wrap (x23 + (1 : Int))))) (J5 x23)))

def F_clockworkref06_with (x1 : List TPair) (x3 : TPair) : Option (List TPair) :=
  (jn (fun (x4 : Int) => (req (0 ≤ (0 : Int) ∧ (0 : Int) ≤ x4 ∧ x4 ≤ ((x1).length : Int)) (req (((([] : List TPair) ++ ((x1.take (x4).toNat).drop ((0 : Int)).toNat))).length * 48 ≤ 140737488355328) (req ((((([] : List TPair) ++ ((x1.take (x4).toNat).drop ((0 : Int)).toNat)) ++ [x3])).length * 48 ≤ 140737488355328) (req (0 ≤ x4 ∧ x4 ≤ (((x1).length : Nat) : Int) ∧ (((x1).length : Nat) : Int) ≤ ((x1).length : Int)) (req (((((([] : List TPair) ++ ((x1.take (x4).toNat).drop ((0 : Int)).toNat)) ++ [x3]) ++ ((x1.take ((((x1).length : Nat) : Int)).toNat).drop (x4).toNat))).length * 48 ≤ 140737488355328) (some (((([] : List TPair) ++ ((x1.take (x4).toNat).drop ((0 : Int)).toNat)) ++ [x3]) ++ ((x1.take ((((x1).length : Nat) : Int)).toNat).drop (x4).toNat))))))))) (fun J5 => (F_clockworkref06_with_L1 x1 x3 J5 (1000000 : Nat) ((0 : Int)))))

set_option maxRecDepth 100000 in
theorem W_clockworkref06_with {V : View} (x1 : List TPair) (x3 : TPair) {a2 : Option Addr} {k2 : Nat} (h2 : SlAt cTPair V a2 k2 x1) {r : List TPair} (hF : F_clockworkref06_with x1 x3 = some r) :
    Spec Tryz.prog 52 [.slice a2 ((x1).length) (k2), .agg ⟨[.string ⟨⟨x3.Key⟩⟩, .int .i64 (x3.Val.Kind), .int .i64 (x3.Val.N), .string ⟨⟨x3.Val.S⟩⟩]⟩] V (fun V' v => ∃ (a29 : Option Addr) (k29 : Nat), v = .slice a29 ((r).length) (k29) ∧ SlAt cTPair V' a29 k29 r) := by
  unfold F_clockworkref06_with at hF
  refine Spec.enter (T := tyT) Tryz.func52 rfl (by kernel_rfl) rfl rfl rfl ?_
  refine Exec.run tyOk 10 rfl ?_
  obtain ⟨J5, hJ5, hF⟩ := jn_some hF
  refine Exec.seam (fun L' V' M' => ∃ (x4 : Int), L' = [(0, .v (.slice a2 ((x1).length) (k2))), (3, .ptr 0 0), (5, .v (.int .i64 (x4)))] ∧ M' = [.blk [.v (.string ⟨⟨x3.Key⟩⟩), .v (.int .i64 (x3.Val.Kind)), .v (.int .i64 (x3.Val.N)), .v (.string ⟨⟨x3.Val.S⟩⟩)] 55] ∧ SlAt cTPair V' a2 k2 x1 ∧ J5 x4 = some r) rfl ?_ ?_
  · rintro L' V6 M' ⟨x4, rfl, rfl, h7, hF⟩
    subst hJ5
    refine Exec.run tyOk 400 rfl ?_
    obtain ⟨q8, hF⟩ := req_some hF
    refine Exec.slv tyOk (c := cTPair) rfl rfl (lo := (0 : Int)) (hi := x4) rfl rfl h7 (by simp) rfl q8 (fun a9 k9 h9 => ?_)
    refine Exec.run tyOk 400 rfl ?_
    refine Exec.row0 55 4 rfl ?_
    have h10 : RowRep cTPair V6 [] [] := RowRep.nil
    obtain ⟨q12, hF⟩ := req_some hF
    refine Exec.appS tyOk (cd := cTPair) 1 (nm := ((([] : List TPair) ++ ((x1.take (x4).toNat).drop ((0 : Int)).toNat))).length) rfl rfl rfl rfl rfl rfl h9 (by first | rfl | simp) (by first | rfl | exact List.length_append.symm | simp) (fun _ _ _ => rfl) rfl q12 (fun cs11 hs11 a11 k11 => ?_)
    have h11 : RowRep cTPair V6 (([] : List TPair) ++ ((x1.take (x4).toNat).drop ((0 : Int)).toNat)) ([] ++ cs11) := RowRep.app h10 hs11
    refine Exec.run tyOk 400 rfl ?_
    refine Exec.bsl tyOk rfl rfl ?_
    refine Exec.run tyOk 400 rfl ?_
    obtain ⟨q14, hF⟩ := req_some hF
    refine Exec.app tyOk 1 2 (nm := (((([] : List TPair) ++ ((x1.take (x4).toNat).drop ((0 : Int)).toNat)) ++ [x3])).length) rfl rfl rfl rfl rfl rfl rfl rfl rfl (by simp) (fun _ _ => rfl) rfl q14 (fun a13 k13 => ?_)
    have h13 : RowRep cTPair V6 ((([] : List TPair) ++ ((x1.take (x4).toNat).drop ((0 : Int)).toNat)) ++ [x3]) (([] ++ cs11) ++ [.string ⟨⟨x3.Key⟩⟩, .int .i64 (x3.Val.Kind), .int .i64 (x3.Val.N), .string ⟨⟨x3.Val.S⟩⟩]) := RowRep.app h11 ⟨_, _, rfl, rfl, rfl⟩
    refine Exec.run tyOk 400 rfl ?_
    obtain ⟨q15, hF⟩ := req_some hF
    refine Exec.slv tyOk (c := cTPair) rfl rfl (lo := x4) (hi := (((x1).length : Nat) : Int)) rfl rfl h7 (by simp) rfl q15 (fun a16 k16 h16 => ?_)
    refine Exec.run tyOk 400 rfl ?_
    obtain ⟨q18, hF⟩ := req_some hF
    refine Exec.appS tyOk (cd := cTPair) 1 (nm := ((((([] : List TPair) ++ ((x1.take (x4).toNat).drop ((0 : Int)).toNat)) ++ [x3]) ++ ((x1.take ((((x1).length : Nat) : Int)).toNat).drop (x4).toNat))).length) rfl rfl rfl rfl rfl rfl h16 (by first | rfl | simp) (by first | rfl | exact List.length_append.symm | simp) (fun _ _ _ => rfl) rfl q18 (fun cs17 hs17 a17 k17 => ?_)
    have h17 : RowRep cTPair V6 (((([] : List TPair) ++ ((x1.take (x4).toNat).drop ((0 : Int)).toNat)) ++ [x3]) ++ ((x1.take ((((x1).length : Nat) : Int)).toNat).drop (x4).toNat)) ((([] ++ cs11) ++ [.string ⟨⟨x3.Key⟩⟩, .int .i64 (x3.Val.Kind), .int .i64 (x3.Val.N), .string ⟨⟨x3.Val.S⟩⟩]) ++ cs17) := RowRep.app h13 hs17
    refine Exec.run tyOk 400 rfl ?_
    refine Exec.frz 1 rfl rfl rfl (fun V19 hv19 hd19 hn19 => ?_)
    have hz19 := RowRep.slat h17 hv19 hd19 hn19
    have h20 := SlAt.mono h7 hv19
    have h21 := SlAt.mono h9 hv19
    have h22 := SlAt.mono h16 hv19
    obtain rfl := some_inj hF
    exact Exec.ret tyOk rfl rfl ⟨_, _, rfl, hz19⟩
  · skip
    refine Exec.run tyOk 400 rfl ?_
    refine Exec.loop (fun n24 L' V' M' => ∃ (x23 : Int), L' = [(0, .v (.slice a2 ((x1).length) (k2))), (3, .ptr 0 0), (5, .v (.int .i64 (x23)))] ∧ M' = [.blk [.v (.string ⟨⟨x3.Key⟩⟩), .v (.int .i64 (x3.Val.Kind)), .v (.int .i64 (x3.Val.N)), .v (.string ⟨⟨x3.Val.S⟩⟩)] 55] ∧ SlAt cTPair V' a2 k2 x1 ∧ F_clockworkref06_with_L1 x1 x3 J5 n24 x23 = some r) ⟨(1000000 : Nat), [(0, .v (.slice a2 ((x1).length) (k2))), (3, .ptr 0 0), (5, .v (.int .i64 ((0 : Int))))], ⟨rfl, rfl, rfl, trivial⟩, (0 : Int), rfl, rfl, h2, hF⟩ ?_
    rintro n24 L' V25 M' ⟨x23, rfl, rfl, h26, hF⟩
    rcases n24 with _ | n24
    · exact absurd hF (by simp [F_clockworkref06_with_L1])
    rw [F_clockworkref06_with_L1] at hF
    refine Exec.run tyOk 400 rfl ?_
    refine Exec.draws tyOk [(0, true), (1, true), (2, true), (3, true), (4, true), (5, true), (6, true), (7, true), (8, true), (9, true), (10, true), (11, true), (12, true), (13, true)] rfl (by kernel_rfl) ?_
    refine Exec.run tyOk 400 rfl ?_
    obtain ⟨q27, hF⟩ := req_some hF
    obtain ⟨c28, hr28, hd28⟩ := SlAt.gget (((decide (x23 < (((x1).length : Nat) : Int)))) == true) h26 q27
    obtain rfl := hr28
    refine Exec.fia tyOk rfl rfl rfl (fun gg0 => ⟨(q27 (gd1_of gg0)).1, (q27 (gd1_of gg0)).2, (hd28 (gd1_of gg0)).some⟩) ?_
    refine Exec.run tyOk 400 rfl ?_
    refine Exec.fld tyOk (x := .string ⟨⟨(cond (((decide (x23 < (((x1).length : Nat) : Int)))) == true) (atI x1 x23) default).Key⟩⟩) rfl rfl rfl (fun gg0 => (RdAt.part (hd28 (gd1_of gg0)) 0 1 rfl)) rfl rfl ?_
    refine Exec.run tyOk 400 rfl ?_
    rcases cond_some hF with ⟨hb, hF⟩ | ⟨hb, hF⟩
    · skip
      refine Exec.ifT rfl hb ?_
      refine Exec.run tyOk 400 rfl ?_
      exact Exec.round [(0, .v (.slice a2 ((x1).length) (k2))), (3, .ptr 0 0), (5, .v (.int .i64 ((IntKind.i64.wrap (x23 + (1 : Int))))))] ⟨rfl, rfl, rfl, trivial⟩ ⟨n24, Nat.lt_succ_self _, (IntKind.i64.wrap (x23 + (1 : Int))), rfl, rfl, h26, hF⟩
    · skip
      refine Exec.ifF rfl hb ?_
      refine Exec.run tyOk 400 rfl ?_
      exact Exec.round [(0, .v (.slice a2 ((x1).length) (k2))), (3, .ptr 0 0), (5, .v (.int .i64 (x23)))] ⟨rfl, rfl, rfl, trivial⟩ ⟨x23, rfl, rfl, h26, hF⟩

def F_clockworkref04_Insert_L1 (x1 : List Str) (x3 : Str) (J5 : Int → Option (List Str)) : Nat → Int → Option (List Str)
  | 0, _ => none
  | n26 + 1, x25 => (req ((((decide (x25 < (((x1).length : Nat) : Int)))) == true) = true → 0 ≤ x25 ∧ x25 < ((x1).length : Int)) (cond ((decide (x25 < (((x1).length : Nat) : Int))) && (sLt (cond (((decide (x25 < (((x1).length : Nat) : Int)))) == true) (atI x1 x25) default) x3)) (F_clockworkref04_Insert_L1 x1 x3 J5 n26 ((IntKind.i64.wrap (x25 + (1 : Int))))) (J5 x25)))

def F_clockworkref04_Insert (x1 : List Str) (x3 : Str) : Option (List Str) :=
  (jn (fun (x4 : Int) => (req ((((decide (x4 < (((x1).length : Nat) : Int)))) == true) = true → 0 ≤ x4 ∧ x4 < ((x1).length : Int)) (cond ((decide (x4 < (((x1).length : Nat) : Int))) && ((cond (((decide (x4 < (((x1).length : Nat) : Int)))) == true) (atI x1 x4) default) == x3)) (some x1) (req (0 ≤ (0 : Int) ∧ (0 : Int) ≤ x4 ∧ x4 ≤ ((x1).length : Int)) (req (((([] : List Str) ++ ((x1.take (x4).toNat).drop ((0 : Int)).toNat))).length * 16 ≤ 140737488355328) (req ((((([] : List Str) ++ ((x1.take (x4).toNat).drop ((0 : Int)).toNat)) ++ [x3])).length * 16 ≤ 140737488355328) (req (0 ≤ x4 ∧ x4 ≤ (((x1).length : Nat) : Int) ∧ (((x1).length : Nat) : Int) ≤ ((x1).length : Int)) (req (((((([] : List Str) ++ ((x1.take (x4).toNat).drop ((0 : Int)).toNat)) ++ [x3]) ++ ((x1.take ((((x1).length : Nat) : Int)).toNat).drop (x4).toNat))).length * 16 ≤ 140737488355328) (some (((([] : List Str) ++ ((x1.take (x4).toNat).drop ((0 : Int)).toNat)) ++ [x3]) ++ ((x1.take ((((x1).length : Nat) : Int)).toNat).drop (x4).toNat))))))))))) (fun J5 => (F_clockworkref04_Insert_L1 x1 x3 J5 (1000000 : Nat) ((0 : Int)))))

set_option maxRecDepth 100000 in
theorem W_clockworkref04_Insert {V : View} (x1 : List Str) (x3 : Str) {a2 : Option Addr} {k2 : Nat} (h2 : SlAt cStr V a2 k2 x1) {r : List Str} (hF : F_clockworkref04_Insert x1 x3 = some r) :
    Spec Tryz.prog 57 [.slice a2 ((x1).length) (k2), .string ⟨⟨x3⟩⟩] V (fun V' v => ∃ (a31 : Option Addr) (k31 : Nat), v = .slice a31 ((r).length) (k31) ∧ SlAt cStr V' a31 k31 r) := by
  unfold F_clockworkref04_Insert at hF
  refine Spec.enter (T := tyT) Tryz.func57 rfl (by kernel_rfl) rfl rfl rfl ?_
  refine Exec.run tyOk 9 rfl ?_
  obtain ⟨J5, hJ5, hF⟩ := jn_some hF
  refine Exec.seam (fun L' V' M' => ∃ (x4 : Int), L' = [(0, .v (.slice a2 ((x1).length) (k2))), (1, .v (.string ⟨⟨x3⟩⟩)), (5, .v (.int .i64 (x4)))] ∧ M' = [] ∧ SlAt cStr V' a2 k2 x1 ∧ J5 x4 = some r) rfl ?_ ?_
  · rintro L' V6 M' ⟨x4, rfl, rfl, h7, hF⟩
    subst hJ5
    refine Exec.run tyOk 400 rfl ?_
    obtain ⟨q8, hF⟩ := req_some hF
    obtain ⟨c9, hr9, hd9⟩ := SlAt.gget (((decide (x4 < (((x1).length : Nat) : Int)))) == true) h7 q8
    obtain rfl := hr9
    refine Exec.ia tyOk rfl rfl (fun gg0 => ⟨(q8 (gd1_of gg0)).1, (q8 (gd1_of gg0)).2, (hd9 (gd1_of gg0)).some⟩) ?_
    refine Exec.run tyOk 400 rfl ?_
    refine Exec.ld tyOk (x := .string ⟨⟨(cond (((decide (x4 < (((x1).length : Nat) : Int)))) == true) (atI x1 x4) default)⟩⟩) rfl rfl (fun gg0 => (hd9 (gd1_of gg0))) rfl rfl ?_
    refine Exec.run tyOk 400 rfl ?_
    rcases cond_some hF with ⟨hb, hF⟩ | ⟨hb, hF⟩
    · skip
      refine Exec.ifT rfl hb ?_
      refine Exec.run tyOk 400 rfl ?_
      obtain rfl := some_inj hF
      exact Exec.ret tyOk rfl rfl ⟨_, _, rfl, h7⟩
    · skip
      refine Exec.ifF rfl hb ?_
      refine Exec.run tyOk 400 rfl ?_
      obtain ⟨q10, hF⟩ := req_some hF
      refine Exec.slv tyOk (c := cStr) rfl rfl (lo := (0 : Int)) (hi := x4) rfl rfl h7 (by simp) rfl q10 (fun a11 k11 h11 => ?_)
      refine Exec.run tyOk 400 rfl ?_
      refine Exec.row0 9 1 rfl ?_
      have h12 : RowRep cStr V6 [] [] := RowRep.nil
      obtain ⟨q14, hF⟩ := req_some hF
      refine Exec.appS tyOk (cd := cStr) 0 (nm := ((([] : List Str) ++ ((x1.take (x4).toNat).drop ((0 : Int)).toNat))).length) rfl rfl rfl rfl rfl rfl h11 (by first | rfl | simp) (by first | rfl | exact List.length_append.symm | simp) (fun _ _ _ => rfl) rfl q14 (fun cs13 hs13 a13 k13 => ?_)
      have h13 : RowRep cStr V6 (([] : List Str) ++ ((x1.take (x4).toNat).drop ((0 : Int)).toNat)) ([] ++ cs13) := RowRep.app h12 hs13
      refine Exec.run tyOk 400 rfl ?_
      refine Exec.bsl tyOk rfl rfl ?_
      refine Exec.run tyOk 400 rfl ?_
      obtain ⟨q16, hF⟩ := req_some hF
      refine Exec.app tyOk 0 1 (nm := (((([] : List Str) ++ ((x1.take (x4).toNat).drop ((0 : Int)).toNat)) ++ [x3])).length) rfl rfl rfl rfl rfl rfl rfl rfl rfl (by simp) (fun _ _ => rfl) rfl q16 (fun a15 k15 => ?_)
      have h15 : RowRep cStr V6 ((([] : List Str) ++ ((x1.take (x4).toNat).drop ((0 : Int)).toNat)) ++ [x3]) (([] ++ cs13) ++ [.string ⟨⟨x3⟩⟩]) := RowRep.app h13 ⟨_, _, rfl, rfl, rfl⟩
      refine Exec.run tyOk 400 rfl ?_
      obtain ⟨q17, hF⟩ := req_some hF
      refine Exec.slv tyOk (c := cStr) rfl rfl (lo := x4) (hi := (((x1).length : Nat) : Int)) rfl rfl h7 (by simp) rfl q17 (fun a18 k18 h18 => ?_)
      refine Exec.run tyOk 400 rfl ?_
      obtain ⟨q20, hF⟩ := req_some hF
      refine Exec.appS tyOk (cd := cStr) 0 (nm := ((((([] : List Str) ++ ((x1.take (x4).toNat).drop ((0 : Int)).toNat)) ++ [x3]) ++ ((x1.take ((((x1).length : Nat) : Int)).toNat).drop (x4).toNat))).length) rfl rfl rfl rfl rfl rfl h18 (by first | rfl | simp) (by first | rfl | exact List.length_append.symm | simp) (fun _ _ _ => rfl) rfl q20 (fun cs19 hs19 a19 k19 => ?_)
      have h19 : RowRep cStr V6 (((([] : List Str) ++ ((x1.take (x4).toNat).drop ((0 : Int)).toNat)) ++ [x3]) ++ ((x1.take ((((x1).length : Nat) : Int)).toNat).drop (x4).toNat)) ((([] ++ cs13) ++ [.string ⟨⟨x3⟩⟩]) ++ cs19) := RowRep.app h15 hs19
      refine Exec.run tyOk 400 rfl ?_
      refine Exec.frz 0 rfl rfl rfl (fun V21 hv21 hd21 hn21 => ?_)
      have hz21 := RowRep.slat h19 hv21 hd21 hn21
      have h22 := SlAt.mono h7 hv21
      have h23 := SlAt.mono h11 hv21
      have h24 := SlAt.mono h18 hv21
      obtain rfl := some_inj hF
      exact Exec.ret tyOk rfl rfl ⟨_, _, rfl, hz21⟩
  · skip
    refine Exec.run tyOk 400 rfl ?_
    refine Exec.loop (fun n26 L' V' M' => ∃ (x25 : Int), L' = [(0, .v (.slice a2 ((x1).length) (k2))), (1, .v (.string ⟨⟨x3⟩⟩)), (5, .v (.int .i64 (x25)))] ∧ M' = [] ∧ SlAt cStr V' a2 k2 x1 ∧ F_clockworkref04_Insert_L1 x1 x3 J5 n26 x25 = some r) ⟨(1000000 : Nat), [(0, .v (.slice a2 ((x1).length) (k2))), (1, .v (.string ⟨⟨x3⟩⟩)), (5, .v (.int .i64 ((0 : Int))))], ⟨rfl, rfl, rfl, trivial⟩, (0 : Int), rfl, rfl, h2, hF⟩ ?_
    rintro n26 L' V27 M' ⟨x25, rfl, rfl, h28, hF⟩
    rcases n26 with _ | n26
    · exact absurd hF (by simp [F_clockworkref04_Insert_L1])
    rw [F_clockworkref04_Insert_L1] at hF
    refine Exec.run tyOk 400 rfl ?_
    obtain ⟨q29, hF⟩ := req_some hF
    obtain ⟨c30, hr30, hd30⟩ := SlAt.gget (((decide (x25 < (((x1).length : Nat) : Int)))) == true) h28 q29
    obtain rfl := hr30
    refine Exec.ia tyOk rfl rfl (fun gg0 => ⟨(q29 (gd1_of gg0)).1, (q29 (gd1_of gg0)).2, (hd30 (gd1_of gg0)).some⟩) ?_
    refine Exec.run tyOk 400 rfl ?_
    refine Exec.ld tyOk (x := .string ⟨⟨(cond (((decide (x25 < (((x1).length : Nat) : Int)))) == true) (atI x1 x25) default)⟩⟩) rfl rfl (fun gg0 => (hd30 (gd1_of gg0))) rfl rfl ?_
    refine Exec.run tyOk 400 rfl ?_
    rcases cond_some hF with ⟨hb, hF⟩ | ⟨hb, hF⟩
    · skip
      refine Exec.ifT rfl hb ?_
      refine Exec.run tyOk 400 rfl ?_
      exact Exec.round [(0, .v (.slice a2 ((x1).length) (k2))), (1, .v (.string ⟨⟨x3⟩⟩)), (5, .v (.int .i64 ((IntKind.i64.wrap (x25 + (1 : Int))))))] ⟨rfl, rfl, rfl, trivial⟩ ⟨n26, Nat.lt_succ_self _, (IntKind.i64.wrap (x25 + (1 : Int))), rfl, rfl, h28, hF⟩
    · skip
      refine Exec.ifF rfl hb ?_
      refine Exec.run tyOk 400 rfl ?_
      exact Exec.round [(0, .v (.slice a2 ((x1).length) (k2))), (1, .v (.string ⟨⟨x3⟩⟩)), (5, .v (.int .i64 (x25)))] ⟨rfl, rfl, rfl, trivial⟩ ⟨x25, rfl, rfl, h28, hF⟩

def F_clockworkref22_find_L1 (x1 : TStore) (x3 : Str) (J6 : TRow → Option TRow) : Nat → TRow → Int → Option TRow
  | 0, _, _ => none
  | n12 + 1, x9, x11 => (cond (decide (x11 < (((x1.Rows).length : Nat) : Int))) (req (0 ≤ x11 ∧ x11 < ((x1.Rows).length : Int)) (cond ((atI x1.Rows x11).Key == x3) (req (0 ≤ x11 ∧ x11 < ((x1.Rows).length : Int)) (some (atI x1.Rows x11))) (F_clockworkref22_find_L1 x1 x3 J6 n12 x9 ((IntKind.i64.wrap (x11 + (1 : Int))))))) (J6 x9))

def F_clockworkref22_find (x1 : TStore) (x3 : Str) : Option TRow :=
  (jn (fun (x4 : TRow) => (some (⟨x3, ([] : List TVersion)⟩ : TRow))) (fun J6 => (F_clockworkref22_find_L1 x1 x3 J6 (((((x1.Rows).length : Nat) : Int)).toNat + 1) ((default : TRow)) ((0 : Int)))))

set_option maxRecDepth 100000 in
theorem W_clockworkref22_find {V : View} (x1 : TStore) (x3 : Str) {a2 : Option Addr} {k2 : Nat} (h2 : SlAt cTRow V a2 k2 x1.Rows) {r : TRow} (hF : F_clockworkref22_find x1 x3 = some r) :
    Spec Tryz.prog 58 [.agg ⟨[.int .i64 (x1.Floor), .int .i64 (x1.Last), .slice a2 ((x1.Rows).length) (k2)]⟩, .string ⟨⟨x3⟩⟩] V (fun V' v => ∃ (a21 : Option Addr) (k21 : Nat), v = .agg ⟨[.string ⟨⟨r.Key⟩⟩, .slice a21 ((r.Vers).length) (k21)]⟩ ∧ SlAt cTVersion V' a21 k21 r.Vers) := by
  unfold F_clockworkref22_find at hF
  refine Spec.enter (T := tyT) Tryz.func58 rfl (by kernel_rfl) rfl rfl rfl ?_
  refine Exec.run tyOk 10 rfl ?_
  obtain ⟨J6, hJ6, hF⟩ := jn_some hF
  refine Exec.seam (fun L' V' M' => ∃ (x4 : TRow) (a5 : Option Addr) (k5 : Nat), L' = [(1, .v (.string ⟨⟨x3⟩⟩)), (4, .ptr 1 0)] ∧ M' = [.blk [.v (.int .i64 (x1.Floor)), .v (.int .i64 (x1.Last)), .v (.slice a2 ((x1.Rows).length) (k2))] 40, .blk [.v (.string ⟨⟨x4.Key⟩⟩), .v (.slice a5 ((x4.Vers).length) (k5))] 73] ∧ SlAt cTVersion V' a5 k5 x4.Vers ∧ SlAt cTRow V' a2 k2 x1.Rows ∧ J6 x4 = some r) rfl ?_ ?_
  · rintro L' V7 M' ⟨x4, a5, k5, rfl, rfl, h5, h8, hF⟩
    subst hJ6
    refine Exec.run tyOk 400 rfl ?_
    obtain rfl := some_inj hF
    exact Exec.ret tyOk rfl rfl ⟨_, _, rfl, SlAt.nil⟩
  · skip
    refine Exec.run tyOk 400 rfl ?_
    refine Exec.loop (fun n12 L' V' M' => ∃ (x9 : TRow) (a10 : Option Addr) (k10 : Nat) (x11 : Int), L' = [(1, .v (.string ⟨⟨x3⟩⟩)), (2, .ptr 0 0), (4, .ptr 1 0), (5, .v (.int .i64 (x11)))] ∧ M' = [.blk [.v (.int .i64 (x1.Floor)), .v (.int .i64 (x1.Last)), .v (.slice a2 ((x1.Rows).length) (k2))] 40, .blk [.v (.string ⟨⟨x9.Key⟩⟩), .v (.slice a10 ((x9.Vers).length) (k10))] 73] ∧ SlAt cTVersion V' a10 k10 x9.Vers ∧ SlAt cTRow V' a2 k2 x1.Rows ∧ F_clockworkref22_find_L1 x1 x3 J6 n12 x9 x11 = some r) ⟨(((((x1.Rows).length : Nat) : Int)).toNat + 1), [(1, .v (.string ⟨⟨x3⟩⟩)), (2, .ptr 0 0), (4, .ptr 1 0), (5, .v (.int .i64 ((0 : Int))))], ⟨rfl, rfl, rfl, rfl, trivial⟩, (default : TRow), none, 0, (0 : Int), rfl, rfl, SlAt.nil, h2, hF⟩ ?_
    rintro n12 L' V13 M' ⟨x9, a10, k10, x11, rfl, rfl, h10, h14, hF⟩
    rcases n12 with _ | n12
    · exact absurd hF (by simp [F_clockworkref22_find_L1])
    rw [F_clockworkref22_find_L1] at hF
    refine Exec.run tyOk 400 rfl ?_
    rcases cond_some hF with ⟨hb, hF⟩ | ⟨hb, hF⟩
    · skip
      refine Exec.ifT rfl hb ?_
      refine Exec.run tyOk 400 rfl ?_
      obtain ⟨q15, hF⟩ := req_some hF
      obtain ⟨c16, hr16, hd16⟩ := SlAt.get h14 q15
      obtain ⟨a17, k17, rfl, h17⟩ := hr16
      refine Exec.ia tyOk rfl rfl ⟨q15.1, q15.2, hd16.some⟩ ?_
      refine Exec.run tyOk 400 rfl ?_
      refine Exec.ld tyOk (x := .string ⟨⟨(atI x1.Rows x11).Key⟩⟩) rfl rfl (RdAt.part hd16 0 1 rfl) rfl rfl ?_
      refine Exec.run tyOk 400 rfl ?_
      rcases cond_some hF with ⟨hb, hF⟩ | ⟨hb, hF⟩
      · skip
        refine Exec.ifT rfl hb ?_
        refine Exec.run tyOk 400 rfl ?_
        obtain ⟨q18, hF⟩ := req_some hF
        obtain ⟨c19, hr19, hd19⟩ := SlAt.get h14 q18
        obtain ⟨a20, k20, rfl, h20⟩ := hr19
        refine Exec.ia tyOk rfl rfl ⟨q18.1, q18.2, hd19.some⟩ ?_
        refine Exec.run tyOk 400 rfl ?_
        refine Exec.ld tyOk (x := .agg ⟨[.string ⟨⟨(atI x1.Rows x11).Key⟩⟩, .slice a20 (((atI x1.Rows x11).Vers).length) (k20)]⟩) rfl rfl hd19 rfl rfl ?_
        refine Exec.run tyOk 400 rfl ?_
        obtain rfl := some_inj hF
        exact Exec.ret tyOk rfl rfl ⟨_, _, rfl, h20⟩
      · skip
        refine Exec.ifF rfl hb ?_
        refine Exec.run tyOk 400 rfl ?_
        exact Exec.round [(1, .v (.string ⟨⟨x3⟩⟩)), (2, .ptr 0 0), (4, .ptr 1 0), (5, .v (.int .i64 ((IntKind.i64.wrap (x11 + (1 : Int))))))] ⟨rfl, rfl, rfl, rfl, trivial⟩ ⟨n12, Nat.lt_succ_self _, x9, a10, k10, (IntKind.i64.wrap (x11 + (1 : Int))), rfl, rfl, h10, h14, hF⟩
    · skip
      refine Exec.ifF rfl hb ?_
      refine Exec.run tyOk 400 rfl ?_
      exact Exec.round [(1, .v (.string ⟨⟨x3⟩⟩)), (4, .ptr 1 0)] ⟨rfl, rfl, trivial⟩ ⟨x9, a10, k10, rfl, rfl, h10, h14, hF⟩

def F_clockworkref22_seen_L1 (x1 : TRow) (x3 : Int) (J5 : TValue → Option TValue) : Nat → TValue → Int → Option TValue
  | 0, _, _ => none
  | n10 + 1, x8, x9 => (cond (decide (x9 < (((x1.Vers).length : Nat) : Int))) (req (0 ≤ x9 ∧ x9 < ((x1.Vers).length : Int)) (jn (fun (x15 : TValue) => (F_clockworkref22_seen_L1 x1 x3 J5 n10 x15 ((IntKind.i64.wrap (x9 + (1 : Int)))))) (fun J16 => (cond (decide ((atI x1.Vers x9).At ≤ x3)) (req (0 ≤ x9 ∧ x9 < ((x1.Vers).length : Int)) (J16 ((atI x1.Vers x9).Val))) (J16 x8))))) (J5 x8))

def F_clockworkref22_seen (x1 : TRow) (x3 : Int) : Option TValue :=
  (jn (fun (x4 : TValue) => (some x4)) (fun J5 => (F_clockworkref22_seen_L1 x1 x3 J5 (((((x1.Vers).length : Nat) : Int)).toNat + 1) ((⟨0, 0, []⟩ : TValue)) ((0 : Int)))))

set_option maxRecDepth 100000 in
theorem W_clockworkref22_seen {V : View} (x1 : TRow) (x3 : Int) {a2 : Option Addr} {k2 : Nat} (h2 : SlAt cTVersion V a2 k2 x1.Vers) {r : TValue} (hF : F_clockworkref22_seen x1 x3 = some r) :
    Spec Tryz.prog 59 [.agg ⟨[.string ⟨⟨x1.Key⟩⟩, .slice a2 ((x1.Vers).length) (k2)]⟩, .int .i64 (x3)] V (fun _ v => v = .agg ⟨[.int .i64 (r.Kind), .int .i64 (r.N), .string ⟨⟨r.S⟩⟩]⟩) := by
  unfold F_clockworkref22_seen at hF
  refine Spec.enter (T := tyT) Tryz.func59 rfl (by kernel_rfl) rfl rfl rfl ?_
  refine Exec.run tyOk 16 rfl ?_
  obtain ⟨J5, hJ5, hF⟩ := jn_some hF
  refine Exec.seam (fun L' V' M' => ∃ (x4 : TValue), L' = [(4, .ptr 1 0), (5, .ptr 2 0)] ∧ M' = [.blk [.v (.string ⟨⟨x1.Key⟩⟩), .v (.slice a2 ((x1.Vers).length) (k2))] 73, .blk [.v (.int .i64 (0)), .v (.int .i64 (0)), .v (.string ⟨⟨[]⟩⟩)] 53, .blk [.v (.int .i64 (x4.Kind)), .v (.int .i64 (x4.N)), .v (.string ⟨⟨x4.S⟩⟩)] 53] ∧ SlAt cTVersion V' a2 k2 x1.Vers ∧ J5 x4 = some r) rfl ?_ ?_
  · rintro L' V6 M' ⟨x4, rfl, rfl, h7, hF⟩
    subst hJ5
    refine Exec.run tyOk 400 rfl ?_
    obtain rfl := some_inj hF
    exact Exec.ret tyOk rfl rfl rfl
  · skip
    refine Exec.run tyOk 400 rfl ?_
    refine Exec.loop (fun n10 L' V' M' => ∃ (x8 : TValue) (x9 : Int), L' = [(1, .v (.int .i64 (x3))), (2, .ptr 0 0), (4, .ptr 1 0), (5, .ptr 2 0), (6, .v (.int .i64 (x9)))] ∧ M' = [.blk [.v (.string ⟨⟨x1.Key⟩⟩), .v (.slice a2 ((x1.Vers).length) (k2))] 73, .blk [.v (.int .i64 (0)), .v (.int .i64 (0)), .v (.string ⟨⟨[]⟩⟩)] 53, .blk [.v (.int .i64 (x8.Kind)), .v (.int .i64 (x8.N)), .v (.string ⟨⟨x8.S⟩⟩)] 53] ∧ SlAt cTVersion V' a2 k2 x1.Vers ∧ F_clockworkref22_seen_L1 x1 x3 J5 n10 x8 x9 = some r) ⟨(((((x1.Vers).length : Nat) : Int)).toNat + 1), [(1, .v (.int .i64 (x3))), (2, .ptr 0 0), (4, .ptr 1 0), (5, .ptr 2 0), (6, .v (.int .i64 ((0 : Int))))], ⟨rfl, rfl, rfl, rfl, rfl, trivial⟩, (⟨0, 0, []⟩ : TValue), (0 : Int), rfl, rfl, h2, hF⟩ ?_
    rintro n10 L' V11 M' ⟨x8, x9, rfl, rfl, h12, hF⟩
    rcases n10 with _ | n10
    · exact absurd hF (by simp [F_clockworkref22_seen_L1])
    rw [F_clockworkref22_seen_L1] at hF
    refine Exec.run tyOk 400 rfl ?_
    rcases cond_some hF with ⟨hb, hF⟩ | ⟨hb, hF⟩
    · skip
      refine Exec.ifT rfl hb ?_
      refine Exec.run tyOk 400 rfl ?_
      obtain ⟨q13, hF⟩ := req_some hF
      obtain ⟨c14, hr14, hd14⟩ := SlAt.get h12 q13
      obtain rfl := hr14
      refine Exec.ia tyOk rfl rfl ⟨q13.1, q13.2, hd14.some⟩ ?_
      refine Exec.run tyOk 400 rfl ?_
      refine Exec.ld tyOk (x := .int .i64 ((atI x1.Vers x9).At)) rfl rfl (RdAt.part hd14 0 1 rfl) rfl rfl ?_
      refine Exec.run tyOk 400 rfl ?_
      obtain ⟨J16, hJ16, hF⟩ := jn_some hF
      refine Exec.seam (fun L' V' M' => ∃ (x15 : TValue), L' = [(1, .v (.int .i64 (x3))), (2, .ptr 0 0), (4, .ptr 1 0), (5, .ptr 2 0), (6, .v (.int .i64 (x9)))] ∧ M' = [.blk [.v (.string ⟨⟨x1.Key⟩⟩), .v (.slice a2 ((x1.Vers).length) (k2))] 73, .blk [.v (.int .i64 (0)), .v (.int .i64 (0)), .v (.string ⟨⟨[]⟩⟩)] 53, .blk [.v (.int .i64 (x15.Kind)), .v (.int .i64 (x15.N)), .v (.string ⟨⟨x15.S⟩⟩)] 53] ∧ SlAt cTVersion V' a2 k2 x1.Vers ∧ J16 x15 = some r) rfl ?_ ?_
      · rintro L' V17 M' ⟨x15, rfl, rfl, h18, hF⟩
        subst hJ16
        refine Exec.run tyOk 400 rfl ?_
        exact Exec.round [(1, .v (.int .i64 (x3))), (2, .ptr 0 0), (4, .ptr 1 0), (5, .ptr 2 0), (6, .v (.int .i64 ((IntKind.i64.wrap (x9 + (1 : Int))))))] ⟨rfl, rfl, rfl, rfl, rfl, trivial⟩ ⟨n10, Nat.lt_succ_self _, x15, (IntKind.i64.wrap (x9 + (1 : Int))), rfl, rfl, h18, hF⟩
      · skip
        refine Exec.run tyOk 400 rfl ?_
        rcases cond_some hF with ⟨hb, hF⟩ | ⟨hb, hF⟩
        · skip
          refine Exec.ifT rfl hb ?_
          refine Exec.run tyOk 400 rfl ?_
          obtain ⟨q19, hF⟩ := req_some hF
          obtain ⟨c20, hr20, hd20⟩ := SlAt.get h12 q19
          obtain rfl := hr20
          refine Exec.ia tyOk rfl rfl ⟨q19.1, q19.2, hd20.some⟩ ?_
          refine Exec.run tyOk 400 rfl ?_
          refine Exec.ld tyOk (x := .agg ⟨[.int .i64 ((atI x1.Vers x9).Val.Kind), .int .i64 ((atI x1.Vers x9).Val.N), .string ⟨⟨(atI x1.Vers x9).Val.S⟩⟩]⟩) rfl rfl (RdAt.part hd20 1 3 rfl) rfl rfl ?_
          refine Exec.run tyOk 400 rfl ?_
          exact Exec.round [(1, .v (.int .i64 (x3))), (2, .ptr 0 0), (4, .ptr 1 0), (5, .ptr 2 0), (6, .v (.int .i64 (x9)))] ⟨rfl, rfl, rfl, rfl, rfl, trivial⟩ ⟨(atI x1.Vers x9).Val, rfl, rfl, h12, hF⟩
        · skip
          refine Exec.ifF rfl hb ?_
          refine Exec.run tyOk 400 rfl ?_
          exact Exec.round [(1, .v (.int .i64 (x3))), (2, .ptr 0 0), (4, .ptr 1 0), (5, .ptr 2 0), (6, .v (.int .i64 (x9)))] ⟨rfl, rfl, rfl, rfl, rfl, trivial⟩ ⟨x8, rfl, rfl, h12, hF⟩
    · skip
      refine Exec.ifF rfl hb ?_
      refine Exec.run tyOk 400 rfl ?_
      exact Exec.round [(4, .ptr 1 0), (5, .ptr 2 0)] ⟨rfl, rfl, trivial⟩ ⟨x8, rfl, rfl, h12, hF⟩

def F_checksum_Extend_L1 (x2 : Str) (J4 : Int → Option Int) : Nat → Int → Int → Option Int
  | 0, _, _ => none
  | n8 + 1, x6, x7 => (cond (decide (x7 < ((x2).length : Int))) (req (0 ≤ x7 ∧ x7 < ((x2).length : Int)) (F_checksum_Extend_L1 x2 J4 n8 ((IntKind.u64.wrap ((bits .xor .u64 x6 (IntKind.u64.wrap (byteAt x2 (x7).toNat))) * (1099511628211 : Int)))) ((IntKind.i64.wrap (x7 + (1 : Int)))))) (J4 x6))

def F_checksum_Extend (x1 : Int) (x2 : Str) : Option Int :=
  (jn (fun (x3 : Int) => (some x3)) (fun J4 => (F_checksum_Extend_L1 x2 J4 ((((x2).length : Int)).toNat + 1) x1 ((0 : Int)))))

set_option maxRecDepth 100000 in
theorem W_checksum_Extend {V : View} (x1 : Int) (x2 : Str)   {r : Int} (hF : F_checksum_Extend x1 x2 = some r) :
    Spec Tryz.prog 60 [.int .u64 (x1), .string ⟨⟨x2⟩⟩] V (fun _ v => v = .int .u64 (r)) := by
  unfold F_checksum_Extend at hF
  refine Spec.enter (T := tyT) Tryz.func60 rfl (by kernel_rfl) rfl rfl rfl ?_
  refine Exec.run tyOk 11 rfl ?_
  obtain ⟨J4, hJ4, hF⟩ := jn_some hF
  refine Exec.seam (fun L' V' M' => ∃ (x3 : Int), L' = [(0, .v (.int .u64 (x3)))] ∧ M' = [] ∧ J4 x3 = some r) rfl ?_ ?_
  · rintro L' V5 M' ⟨x3, rfl, rfl, hF⟩
    subst hJ4
    refine Exec.run tyOk 400 rfl ?_
    obtain rfl := some_inj hF
    exact Exec.ret tyOk rfl rfl rfl
  · skip
    refine Exec.run tyOk 400 rfl ?_
    refine Exec.loop (fun n8 L' V' M' => ∃ (x6 : Int) (x7 : Int), L' = [(0, .v (.int .u64 (x6))), (1, .v (.string ⟨⟨x2⟩⟩)), (7, .v (.int .i64 (((x2).length : Int)))), (8, .v (.int .i64 (x7)))] ∧ M' = [] ∧ F_checksum_Extend_L1 x2 J4 n8 x6 x7 = some r) ⟨((((x2).length : Int)).toNat + 1), [(0, .v (.int .u64 (x1))), (1, .v (.string ⟨⟨x2⟩⟩)), (7, .v (.int .i64 (((x2).length : Int)))), (8, .v (.int .i64 ((0 : Int))))], ⟨rfl, rfl, rfl, rfl, trivial⟩, x1, (0 : Int), rfl, rfl, hF⟩ ?_
    rintro n8 L' V9 M' ⟨x6, x7, rfl, rfl, hF⟩
    rcases n8 with _ | n8
    · exact absurd hF (by simp [F_checksum_Extend_L1])
    rw [F_checksum_Extend_L1] at hF
    refine Exec.run tyOk 400 rfl ?_
    rcases cond_some hF with ⟨hb, hF⟩ | ⟨hb, hF⟩
    · skip
      refine Exec.ifT rfl hb ?_
      refine Exec.run tyOk 400 rfl ?_
      obtain ⟨q10, hF⟩ := req_some hF
      refine Exec.idx tyOk rfl rfl q10 ?_
      refine Exec.run tyOk 400 rfl ?_
      exact Exec.round [(0, .v (.int .u64 ((IntKind.u64.wrap ((bits .xor .u64 x6 (IntKind.u64.wrap (byteAt x2 (x7).toNat))) * (1099511628211 : Int)))))), (1, .v (.string ⟨⟨x2⟩⟩)), (7, .v (.int .i64 (((x2).length : Int)))), (8, .v (.int .i64 ((IntKind.i64.wrap (x7 + (1 : Int))))))] ⟨rfl, rfl, rfl, rfl, trivial⟩ ⟨n8, Nat.lt_succ_self _, (IntKind.u64.wrap ((bits .xor .u64 x6 (IntKind.u64.wrap (byteAt x2 (x7).toNat))) * (1099511628211 : Int))), (IntKind.i64.wrap (x7 + (1 : Int))), rfl, rfl, hF⟩
    · skip
      refine Exec.ifF rfl hb ?_
      refine Exec.run tyOk 400 rfl ?_
      exact Exec.round [(0, .v (.int .u64 (x6)))] ⟨rfl, trivial⟩ ⟨x6, rfl, rfl, hF⟩

def F_digest_little_L1 (x1 : Int) (J5 : (List Int) → Option Str) : Nat → (List Int) → Int → Option Str
  | 0, _, _ => none
  | n13 + 1, x11, x12 => (cond (decide (x12 < (8 : Int))) (req (0 ≤ (IntKind.i64.wrap ((8 : Int) * x12))) (req (0 ≤ x12 ∧ x12 < ((x11).length : Int)) (F_digest_little_L1 x1 J5 n13 ((x11.set (x12).toNat ((IntKind.u8.wrap (shrI .u64 x1 (IntKind.i64.wrap ((8 : Int) * x12))))))) ((IntKind.i64.wrap (x12 + (1 : Int))))))) (J5 x11))

def F_digest_little (x1 : Int) : Option Str :=
  (jn (fun (x4 : List Int) => (some (bytesS x4))) (fun J5 => (F_digest_little_L1 x1 J5 (((8 : Int)).toNat + 1) ((List.replicate 8 (0 : Int))) ((0 : Int)))))

set_option maxRecDepth 100000 in
theorem W_digest_little {V : View} (x1 : Int)   {r : Str} (hF : F_digest_little x1 = some r) :
    Spec Tryz.prog 61 [.int .u64 (x1)] V (fun _ v => v = .string ⟨⟨r⟩⟩) := by
  unfold F_digest_little at hF
  refine Spec.enter (T := tyT) Tryz.func61 rfl (by kernel_rfl) rfl rfl rfl ?_
  refine Exec.run tyOk 7 rfl ?_
  refine Exec.fixR 0 (n := 8) (sz := 1) (cs := (List.replicate 8 (.int .u8 0))) rfl rfl rfl rfl rfl (fun _ => rfl) (fun _ => rfl) (fun _ => rfl) (fun b2 => ?_)
  have h2 : RowRep (cInt .u8) V (List.replicate 8 (0 : Int)) (List.replicate 8 (.int .u8 0)) := by have := RowRep.ofInts (k := .u8) (V := V) (List.replicate 8 (0 : Int)); rwa [List.map_replicate] at this
  refine Exec.run tyOk 6 rfl ?_
  obtain ⟨J5, hJ5, hF⟩ := jn_some hF
  refine Exec.seam (fun L' V' M' => ∃ (x4 : List Int) (cs3 : List Value), L' = [(3, .v (.pointer (some ⟨b2, 0, none⟩)))] ∧ M' = [.row (.slice ((some ⟨b2, 0, none⟩)) (8) (8)) cs3 111 1] ∧ RowRep (cInt .u8) V' x4 cs3 ∧ J5 x4 = some r) rfl ?_ ?_
  · rintro L' V6 M' ⟨x4, cs3, rfl, rfl, h3, hF⟩
    subst hJ5
    refine Exec.run tyOk 400 rfl ?_
    refine Exec.rowI 0 rfl (fun ra7 rb7 rc7 => ?_)
    have hl7 : (x4).length = 8 := by have := RowRep.len h3; simp only [cInt] at this; omega
    refine Exec.slA tyOk rfl rfl hl7 ?_
    refine Exec.run tyOk 400 rfl ?_
    refine Exec.rowI 0 rfl (fun ra9 rb9 rc9 => ?_)
    have hl9 : (x4).length = 8 := by have := RowRep.len h3; simp only [cInt] at this; omega
    refine Exec.frz 0 rfl rfl rfl (fun V8 hv8 hd8 hn8 => ?_)
    replace hn8 := Nat.le_of_eq hl9
    have hz8 := RowRep.slat h3 hv8 hd8 hn8
    refine Exec.b2sV tyOk rfl rfl rfl rfl rfl rfl rfl hz8 (by simp) ?_
    refine Exec.run tyOk 400 rfl ?_
    obtain rfl := some_inj hF
    exact Exec.ret tyOk rfl rfl rfl
  · skip
    refine Exec.run tyOk 400 rfl ?_
    refine Exec.loop (fun n13 L' V' M' => ∃ (x11 : List Int) (cs10 : List Value) (x12 : Int), L' = [(0, .v (.int .u64 (x1))), (3, .v (.pointer (some ⟨b2, 0, none⟩))), (5, .v (.int .i64 (x12)))] ∧ M' = [.row (.slice ((some ⟨b2, 0, none⟩)) (8) (8)) cs10 111 1] ∧ RowRep (cInt .u8) V' x11 cs10 ∧ F_digest_little_L1 x1 J5 n13 x11 x12 = some r) ⟨(((8 : Int)).toNat + 1), [(0, .v (.int .u64 (x1))), (3, .v (.pointer (some ⟨b2, 0, none⟩))), (5, .v (.int .i64 ((0 : Int))))], ⟨rfl, rfl, rfl, trivial⟩, (List.replicate 8 (0 : Int)), (List.replicate 8 (.int .u8 0)), (0 : Int), rfl, rfl, h2, hF⟩ ?_
    rintro n13 L' V14 M' ⟨x11, cs10, x12, rfl, rfl, h10, hF⟩
    rcases n13 with _ | n13
    · exact absurd hF (by simp [F_digest_little_L1])
    rw [F_digest_little_L1] at hF
    refine Exec.run tyOk 400 rfl ?_
    rcases cond_some hF with ⟨hb, hF⟩ | ⟨hb, hF⟩
    · skip
      refine Exec.ifT rfl hb ?_
      refine Exec.run tyOk 400 rfl ?_
      obtain ⟨q15, hF⟩ := req_some hF
      refine Exec.ari rfl rfl q15 ?_
      refine Exec.run tyOk 400 rfl ?_
      obtain ⟨q16, hF⟩ := req_some hF
      refine Exec.rowI 0 rfl (fun ra17 rb17 rc17 => ?_)
      obtain ⟨c18, hr18, hd18⟩ := h10.get q16
      obtain rfl := hr18
      have rl17 := RowRep.len h10
      refine Exec.iaA tyOk rfl rfl (ixA q16 rl17 ra17 (cInt .u8).pos) ?_
      refine Exec.run tyOk 400 rfl ?_
      have rl19 := RowRep.len h10
      have h19 : RowRep (cInt .u8) V14 (x11.set (x12).toNat ((IntKind.u8.wrap (shrI .u64 x1 (IntKind.i64.wrap ((8 : Int) * x12)))))) (cs10.take ((x12).toNat * 1) ++ [.int .u8 ((IntKind.u8.wrap (shrI .u64 x1 (IntKind.i64.wrap ((8 : Int) * x12)))))] ++ cs10.drop (((x12).toNat * 1) + 1)) := RowRep.set h10 q16 rfl
      refine Exec.stR tyOk 0 rfl rfl rfl rfl rfl ⟨_, _, rfl⟩ (stB q16 rl19) rfl rfl rfl ?_
      refine Exec.run tyOk 400 rfl ?_
      exact Exec.round [(0, .v (.int .u64 (x1))), (3, .v (.pointer (some ⟨b2, 0, none⟩))), (5, .v (.int .i64 ((IntKind.i64.wrap (x12 + (1 : Int))))))] ⟨rfl, rfl, rfl, trivial⟩ ⟨n13, Nat.lt_succ_self _, (x11.set (x12).toNat ((IntKind.u8.wrap (shrI .u64 x1 (IntKind.i64.wrap ((8 : Int) * x12)))))), (cs10.take ((x12).toNat * 1) ++ [.int .u8 ((IntKind.u8.wrap (shrI .u64 x1 (IntKind.i64.wrap ((8 : Int) * x12)))))] ++ cs10.drop (((x12).toNat * 1) + 1)), (IntKind.i64.wrap (x12 + (1 : Int))), rfl, rfl, h19, hF⟩
    · skip
      refine Exec.ifF rfl hb ?_
      refine Exec.run tyOk 400 rfl ?_
      exact Exec.round [(3, .v (.pointer (some ⟨b2, 0, none⟩)))] ⟨rfl, trivial⟩ ⟨x11, cs10, rfl, rfl, h10, hF⟩

end Go.Proofs.YtonijgmopcmldaaGreat
