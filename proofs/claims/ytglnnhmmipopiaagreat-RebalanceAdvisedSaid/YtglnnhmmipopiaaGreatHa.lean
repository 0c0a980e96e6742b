/-
 Functions of the program as their counterparts say them (printed by a program).
 Conditions: none.
-/
import Derived.Test.YtglnnhmmipopiaaGreatMi
import Derived.Test.YtglnnhmmipopiaaGreatSh
import Derived.Test.YtglnnhmmipopiaaGreatTy
set_option linter.all false
namespace Go.Proofs.YtglnnhmmipopiaaGreat
set_option maxRecDepth 100000
theorem xr {fn : Func} {nt : Nat} {V0 : View} {R : View → Value → List OB → Prop} {s : St} {k : List Kt} {L : Fr} {M : List OB} {V : View} (hr : Go.Proofs.YtglnnhmmipopiaaGreat.run tyT nt V 400 s = ⟨k, L, M⟩) (h : Exec ⟨Tryz.prog, tyT, fn, nt, V0, R⟩ ⟨k, L, M⟩ V) : Exec ⟨Tryz.prog, tyT, fn, nt, V0, R⟩ s V := Exec.run tyOk 400 hr h
structure TPart where
 Id : Int
 From : Str
 Node : Int
 Dest : Int
 Done : Str
instance : Inhabited TPart := ⟨⟨default, default, default, default, default⟩⟩
def cTPart : Cd TPart where
 sz := 5
 rep _ s cs := cs = [.int .i64 (s.Id), .string ⟨⟨s.From⟩⟩, .int .i64 (s.Node), .int .i64 (s.Dest), .string ⟨⟨s.Done⟩⟩]
 len h := by subst h; rfl
 mono _ h := h
 one h := by subst h; intro u hu; simp only [List.mem_cons, List.not_mem_nil, or_false] at hu; rcases hu with rfl | rfl | rfl | rfl | rfl <;> rfl
 pos := by omega
 dflt := ⟨_, fun _ => rfl⟩
structure TPlacement where
 Version : Int
 Parts : List TPart
instance : Inhabited TPlacement := ⟨⟨default, default⟩⟩
def cTPlacement : Cd TPlacement where
 sz := 2
 rep V s cs := ∃ (a1 : Option Addr) (k1 : Nat), cs = [.int .i64 (s.Version), .slice a1 ((s.Parts).length) (k1)] ∧ SlAt cTPart V a1 k1 s.Parts
 len h := by obtain ⟨a1, k1, rfl, _⟩ := h; rfl
 mono hv h := by
  obtain ⟨a1, k1, rfl, h1⟩ := h
  exact ⟨a1, k1, rfl, h1.mono hv⟩
 one h := by obtain ⟨a1, k1, rfl, _⟩ := h; intro u hu; simp only [List.mem_cons, List.not_mem_nil, or_false] at hu; rcases hu with rfl | rfl <;> rfl
 pos := by omega
 dflt := ⟨[.int .i64 (0), .slice none (0) (0)], fun _ => ⟨none, 0, rfl, SlAt.nil⟩⟩
structure TValue where
 Kind : Int
 N : Int
 S : Str
instance : Inhabited TValue := ⟨⟨default, default, default⟩⟩
def cTValue : Cd TValue where
 sz := 3
 rep _ s cs := cs = [.int .i64 (s.Kind), .int .i64 (s.N), .string ⟨⟨s.S⟩⟩]
 len h := by subst h; rfl
 mono _ h := h
 one h := by subst h; intro u hu; simp only [List.mem_cons, List.not_mem_nil, or_false] at hu; rcases hu with rfl | rfl | rfl <;> rfl
 pos := by omega
 dflt := ⟨_, fun _ => rfl⟩
structure TPair where
 Key : Str
 Val : TValue
instance : Inhabited TPair := ⟨⟨default, default⟩⟩
def cTPair : Cd TPair where
 sz := 4
 rep _ s cs := cs = [.string ⟨⟨s.Key⟩⟩, .int .i64 (s.Val.Kind), .int .i64 (s.Val.N), .string ⟨⟨s.Val.S⟩⟩]
 len h := by subst h; rfl
 mono _ h := h
 one h := by subst h; intro u hu; simp only [List.mem_cons, List.not_mem_nil, or_false] at hu; rcases hu with rfl | rfl | rfl | rfl <;> rfl
 pos := by omega
 dflt := ⟨_, fun _ => rfl⟩
structure TShard where
 Node : Int
 Pairs : List TPair
instance : Inhabited TShard := ⟨⟨default, default⟩⟩
def cTShard : Cd TShard where
 sz := 2
 rep V s cs := ∃ (a1 : Option Addr) (k1 : Nat), cs = [.int .i64 (s.Node), .slice a1 ((s.Pairs).length) (k1)] ∧ SlAt cTPair V a1 k1 s.Pairs
 len h := by obtain ⟨a1, k1, rfl, _⟩ := h; rfl
 mono hv h := by
  obtain ⟨a1, k1, rfl, h1⟩ := h
  exact ⟨a1, k1, rfl, h1.mono hv⟩
 one h := by obtain ⟨a1, k1, rfl, _⟩ := h; intro u hu; simp only [List.mem_cons, List.not_mem_nil, or_false] at hu; rcases hu with rfl | rfl <;> rfl
 pos := by omega
 dflt := ⟨[.int .i64 (0), .slice none (0) (0)], fun _ => ⟨none, 0, rfl, SlAt.nil⟩⟩
structure TMarker where
 Kind : Int
 Part : Int
 New : Int
 Node : Int
 N : Int
 Key : Str
instance : Inhabited TMarker := ⟨⟨default, default, default, default, default, default⟩⟩
structure THeat where
 Key : Str
 Count : Int
instance : Inhabited THeat := ⟨⟨default, default⟩⟩
def cTHeat : Cd THeat where
 sz := 2
 rep _ s cs := cs = [.string ⟨⟨s.Key⟩⟩, .int .i64 (s.Count)]
 len h := by subst h; rfl
 mono _ h := h
 one h := by subst h; intro u hu; simp only [List.mem_cons, List.not_mem_nil, or_false] at hu; rcases hu with rfl | rfl <;> rfl
 pos := by omega
 dflt := ⟨_, fun _ => rfl⟩
structure Tboard where
 p : TPlacement
 l : List TShard
 m : TMarker
instance : Inhabited Tboard := ⟨⟨default, default, default⟩⟩
structure TRange where
 From : Str
 To : Str
instance : Inhabited TRange := ⟨⟨default, default⟩⟩
structure TChunk where
 Part : Int
 From : Int
 To : Int
 Keys : TRange
 Pairs : List TPair
 Last : Bool
instance : Inhabited TChunk := ⟨⟨default, default, default, default, default, default⟩⟩
structure Tadvice where
 p : TPlacement
 state : List TPair
 sizes : List Int
 loads : List Int
 hot : List Str
 fresh : Int
instance : Inhabited Tadvice := ⟨⟨default, default, default, default, default, default⟩⟩
def F_clockworkref35_Few_L1 (x1 : TPlacement) (J15 : Option Bool) : Nat → Int → Option Bool
 | 0, _ => none
 | n18 + 1, x17 => (cond (decide (x17 < (((x1.Parts).length : Nat) : Int))) (req (0 ≤ x17 ∧ x17 < ((x1.Parts).length : Int)) (req ((((decide ((100 : Int) < (((atI x1.Parts x17).From).length : Int)))) == false) = true → 0 ≤ x17 ∧ x17 < ((x1.Parts).length : Int)) (cond ((decide ((100 : Int) < (((atI x1.Parts x17).From).length : Int))) || (decide ((100 : Int) < (((cond (((decide ((100 : Int) < (((atI x1.Parts x17).From).length : Int)))) == false) (atI x1.Parts x17) default).Done).length : Int)))) (some false) (F_clockworkref35_Few_L1 x1 J15 n18 ((IntKind.i64.wrap (x17 + (1 : Int)))))))) J15)
def F_clockworkref35_Few_L2 (x5 : List THeat) (J12 : Option Bool) : Nat → Int → Option Bool
 | 0, _ => none
 | n26 + 1, x25 => (cond (decide (x25 < (((x5).length : Nat) : Int))) (req (0 ≤ x25 ∧ x25 < ((x5).length : Int)) (cond (decide ((100 : Int) < (((atI x5 x25).Key).length : Int))) (some false) (F_clockworkref35_Few_L2 x5 J12 n26 ((IntKind.i64.wrap (x25 + (1 : Int))))))) J12)
def F_clockworkref35_Few_L4 (x33 : Int) (x3 : List TShard) (J42 : Option Bool) : Nat → Int → Option Bool
 | 0, _ => none
 | n48 + 1, x47 => (req (0 ≤ x33 ∧ x33 < ((x3).length : Int)) (cond (decide (x47 < ((((atI x3 x33).Pairs).length : Nat) : Int))) (req (0 ≤ x33 ∧ x33 < ((x3).length : Int)) (req (0 ≤ x47 ∧ x47 < (((atI x3 x33).Pairs).length : Int)) (req ((((decide ((100 : Int) < (((atI ((atI x3 x33).Pairs) x47).Key).length : Int)))) == false) = true → 0 ≤ x33 ∧ x33 < ((x3).length : Int)) (req ((((decide ((100 : Int) < (((atI ((atI x3 x33).Pairs) x47).Key).length : Int)))) == false) = true → 0 ≤ x47 ∧ x47 < (((cond (((decide ((100 : Int) < (((atI ((atI x3 x33).Pairs) x47).Key).length : Int)))) == false) (atI x3 x33) default).Pairs).length : Int)) (cond ((decide ((100 : Int) < (((atI ((atI x3 x33).Pairs) x47).Key).length : Int))) || (decide ((100 : Int) < (((cond (((decide ((100 : Int) < (((atI ((atI x3 x33).Pairs) x47).Key).length : Int)))) == false) (atI ((cond (((decide ((100 : Int) < (((atI ((atI x3 x33).Pairs) x47).Key).length : Int)))) == false) (atI x3 x33) default).Pairs) x47) default).Val.S).length : Int)))) (some false) (F_clockworkref35_Few_L4 x33 x3 J42 n48 ((IntKind.i64.wrap (x47 + (1 : Int)))))))))) J42))
def F_clockworkref35_Few_L3 (x3 : List TShard) (x7 : Int) (J8 : Option Bool) : Nat → Int → Int → Option Bool
 | 0, _, _ => none
 | n34 + 1, x32, x33 => (cond (decide (x33 < (((x3).length : Nat) : Int))) (req (0 ≤ x33 ∧ x33 < ((x3).length : Int)) (cond (decide (x7 < (IntKind.i64.wrap (x32 + ((((atI x3 x33).Pairs).length : Nat) : Int))))) (some false) (jn ((F_clockworkref35_Few_L3 x3 x7 J8 n34 ((IntKind.i64.wrap (x32 + ((((atI x3 x33).Pairs).length : Nat) : Int)))) ((IntKind.i64.wrap (x33 + (1 : Int)))))) (fun J42 => (F_clockworkref35_Few_L4 x33 x3 J42 (1000000 : Nat) ((0 : Int))))))) J8)
def F_clockworkref35_Few (x1 : TPlacement) (x3 : List TShard) (x5 : List THeat) (x7 : Int) : Option Bool :=
 (cond (((decide ((20 : Int) < (((x1.Parts).length : Nat) : Int))) || (decide ((8 : Int) < (((x3).length : Nat) : Int)))) || (decide ((40 : Int) < (((x5).length : Nat) : Int)))) (some false) (jn ((jn ((jn ((some true)) (fun J15 => (F_clockworkref35_Few_L1 x1 J15 (((((x1.Parts).length : Nat) : Int)).toNat + 1) ((0 : Int)))))) (fun J12 => (F_clockworkref35_Few_L2 x5 J12 (((((x5).length : Nat) : Int)).toNat + 1) ((0 : Int)))))) (fun J8 => (F_clockworkref35_Few_L3 x3 x7 J8 (((((x3).length : Nat) : Int)).toNat + 1) ((0 : Int)) ((0 : Int))))))
theorem W_clockworkref35_Few {V : View} (x1 : TPlacement) (x3 : List TShard) (x5 : List THeat) (x7 : Int) {a2 : Option Addr} {k2 : Nat} {a4 : Option Addr} {k4 : Nat} {a6 : Option Addr} {k6 : Nat} (h2 : SlAt cTPart V a2 k2 x1.Parts) (h4 : SlAt cTShard V a4 k4 x3) (h6 : SlAt cTHeat V a6 k6 x5) {r : Bool} (hF : F_clockworkref35_Few x1 x3 x5 x7 = some r) :
  Spec Tryz.prog 8 [.agg ⟨[.int .i64 (x1.Version), .slice a2 ((x1.Parts).length) (k2)]⟩, .slice a4 ((x3).length) (k4), .slice a6 ((x5).length) (k6), .int .i64 (x7)] V (fun _ v => v = .bool (r)) := by
 unfold F_clockworkref35_Few at hF
 refine Spec.enter (T := tyT) Tryz.func8 rfl (by kernel_rfl) rfl rfl rfl ?_
 refine xr rfl ?_
 rcases cond_some hF with ⟨hb, hF⟩ | ⟨hb, hF⟩
 ·refine Exec.ifT rfl hb ?_
  refine xr rfl ?_
  obtain rfl := some_inj hF
  exact Exec.ret tyOk rfl rfl rfl
 ·refine Exec.ifF rfl hb ?_
  refine Exec.run tyOk 10 rfl ?_
  obtain ⟨J8, hJ8, hF⟩ := jn_some hF
  refine Exec.seam (fun L' V' M' => L' = [(2, .v (.slice a6 ((x5).length) (k6))), (4, .ptr 0 0)] ∧ M' = [.blk [.v (.int .i64 (x1.Version)), .v (.slice a2 ((x1.Parts).length) (k2))] 24] ∧ SlAt cTHeat V' a6 k6 x5 ∧ SlAt cTPart V' a2 k2 x1.Parts ∧ J8 = some r) rfl ?_ ?_
  ·rintro L' V9 M' ⟨rfl, rfl, h10, h11, hF⟩
   subst hJ8
   refine Exec.run tyOk 5 rfl ?_
   obtain ⟨J12, hJ12, hF⟩ := jn_some hF
   refine Exec.seam (fun L' V' M' => L' = [(4, .ptr 0 0)] ∧ M' = [.blk [.v (.int .i64 (x1.Version)), .v (.slice a2 ((x1.Parts).length) (k2))] 24] ∧ SlAt cTPart V' a2 k2 x1.Parts ∧ J12 = some r) rfl ?_ ?_
   ·rintro L' V13 M' ⟨rfl, rfl, h14, hF⟩
    subst hJ12
    refine Exec.run tyOk 5 rfl ?_
    obtain ⟨J15, hJ15, hF⟩ := jn_some hF
    refine Exec.seam (fun L' V' M' => L' = [] ∧ M' = [] ∧ J15 = some r) rfl ?_ ?_
    ·rintro L' V16 M' ⟨rfl, rfl, hF⟩
     subst hJ15
     refine xr rfl ?_
     obtain rfl := some_inj hF
     exact Exec.ret tyOk rfl rfl rfl
    ·refine xr rfl ?_
     refine Exec.loop (fun n18 L' V' M' => ∃ (x17 : Int), L' = [(4, .ptr 0 0), (13, .v (.int .i64 (x17)))] ∧ M' = [.blk [.v (.int .i64 (x1.Version)), .v (.slice a2 ((x1.Parts).length) (k2))] 24] ∧ SlAt cTPart V' a2 k2 x1.Parts ∧ F_clockworkref35_Few_L1 x1 J15 n18 x17 = some r) ⟨(((((x1.Parts).length : Nat) : Int)).toNat + 1), [(4, .ptr 0 0), (13, .v (.int .i64 ((0 : Int))))], ⟨rfl, rfl, trivial⟩, (0 : Int), rfl, rfl, h14, hF⟩ ?_
     rintro n18 L' V19 M' ⟨x17, rfl, rfl, h20, hF⟩
     rcases n18 with _ | n18
     ·exact absurd hF (by simp [F_clockworkref35_Few_L1])
     rw [F_clockworkref35_Few_L1] at hF
     refine xr rfl ?_
     rcases cond_some hF with ⟨hb, hF⟩ | ⟨hb, hF⟩
     ·refine Exec.ifT rfl hb ?_
      refine xr rfl ?_
      obtain ⟨q21, hF⟩ := req_some hF
      obtain ⟨c22, hr22, hd22⟩ := SlAt.get h20 q21
      obtain rfl := hr22
      refine Exec.ia tyOk rfl rfl ⟨q21.1, q21.2, hd22.some⟩ ?_
      refine xr rfl ?_
      refine Exec.ld tyOk (x := .string ⟨⟨(atI x1.Parts x17).From⟩⟩) rfl rfl (RdAt.part hd22 1 1 rfl) rfl rfl ?_
      refine xr rfl ?_
      obtain ⟨q23, hF⟩ := req_some hF
      obtain ⟨c24, hr24, hd24⟩ := SlAt.gget (((decide ((100 : Int) < (((atI x1.Parts x17).From).length : Int)))) == false) h20 q23
      obtain rfl := hr24
      refine Exec.ia tyOk rfl rfl (fun gg0 => ⟨(q23 (gd1_of gg0)).1, (q23 (gd1_of gg0)).2, (hd24 (gd1_of gg0)).some⟩) ?_
      refine xr rfl ?_
      refine Exec.ld tyOk (x := .string ⟨⟨(cond (((decide ((100 : Int) < (((atI x1.Parts x17).From).length : Int)))) == false) (atI x1.Parts x17) default).Done⟩⟩) rfl rfl (fun gg0 => (RdAt.part (hd24 (gd1_of gg0)) 4 1 rfl)) rfl rfl ?_
      refine xr rfl ?_
      rcases cond_some hF with ⟨hb, hF⟩ | ⟨hb, hF⟩
      ·refine Exec.ifT rfl hb ?_
       refine xr rfl ?_
       obtain rfl := some_inj hF
       exact Exec.ret tyOk rfl rfl rfl
      ·refine Exec.ifF rfl hb ?_
       refine xr rfl ?_
       exact Exec.round [(4, .ptr 0 0), (13, .v (.int .i64 ((IntKind.i64.wrap (x17 + (1 : Int))))))] ⟨rfl, rfl, trivial⟩ ⟨n18, Nat.lt_succ_self _, (IntKind.i64.wrap (x17 + (1 : Int))), rfl, rfl, h20, hF⟩
     ·refine Exec.ifF rfl hb ?_
      refine xr rfl ?_
      refine Exec.cut 0 [] (M' := []) rfl trivial rfl rfl rfl ?_
      exact Exec.round [] trivial ⟨rfl, rfl, hF⟩
   ·refine xr rfl ?_
    refine Exec.loop (fun n26 L' V' M' => ∃ (x25 : Int), L' = [(2, .v (.slice a6 ((x5).length) (k6))), (4, .ptr 0 0), (12, .v (.int .i64 (x25)))] ∧ M' = [.blk [.v (.int .i64 (x1.Version)), .v (.slice a2 ((x1.Parts).length) (k2))] 24] ∧ SlAt cTHeat V' a6 k6 x5 ∧ SlAt cTPart V' a2 k2 x1.Parts ∧ F_clockworkref35_Few_L2 x5 J12 n26 x25 = some r) ⟨(((((x5).length : Nat) : Int)).toNat + 1), [(2, .v (.slice a6 ((x5).length) (k6))), (4, .ptr 0 0), (12, .v (.int .i64 ((0 : Int))))], ⟨rfl, rfl, rfl, trivial⟩, (0 : Int), rfl, rfl, h10, h11, hF⟩ ?_
    rintro n26 L' V27 M' ⟨x25, rfl, rfl, h28, h29, hF⟩
    rcases n26 with _ | n26
    ·exact absurd hF (by simp [F_clockworkref35_Few_L2])
    rw [F_clockworkref35_Few_L2] at hF
    refine xr rfl ?_
    rcases cond_some hF with ⟨hb, hF⟩ | ⟨hb, hF⟩
    ·refine Exec.ifT rfl hb ?_
     refine xr rfl ?_
     obtain ⟨q30, hF⟩ := req_some hF
     obtain ⟨c31, hr31, hd31⟩ := SlAt.get h28 q30
     obtain rfl := hr31
     refine Exec.ia tyOk rfl rfl ⟨q30.1, q30.2, hd31.some⟩ ?_
     refine xr rfl ?_
     refine Exec.ld tyOk (x := .string ⟨⟨(atI x5 x25).Key⟩⟩) rfl rfl (RdAt.part hd31 0 1 rfl) rfl rfl ?_
     refine xr rfl ?_
     rcases cond_some hF with ⟨hb, hF⟩ | ⟨hb, hF⟩
     ·refine Exec.ifT rfl hb ?_
      refine xr rfl ?_
      obtain rfl := some_inj hF
      exact Exec.ret tyOk rfl rfl rfl
     ·refine Exec.ifF rfl hb ?_
      refine xr rfl ?_
      exact Exec.round [(2, .v (.slice a6 ((x5).length) (k6))), (4, .ptr 0 0), (12, .v (.int .i64 ((IntKind.i64.wrap (x25 + (1 : Int))))))] ⟨rfl, rfl, rfl, trivial⟩ ⟨n26, Nat.lt_succ_self _, (IntKind.i64.wrap (x25 + (1 : Int))), rfl, rfl, h28, h29, hF⟩
    ·refine Exec.ifF rfl hb ?_
     refine xr rfl ?_
     exact Exec.round [(4, .ptr 0 0)] ⟨rfl, trivial⟩ ⟨rfl, rfl, h29, hF⟩
  ·refine xr rfl ?_
   refine Exec.loop (fun n34 L' V' M' => ∃ (x32 : Int) (x33 : Int), L' = [(1, .v (.slice a4 ((x3).length) (k4))), (2, .v (.slice a6 ((x5).length) (k6))), (3, .v (.int .i64 (x7))), (4, .ptr 0 0), (9, .v (.int .i64 (x32))), (10, .v (.int .i64 (x33)))] ∧ M' = [.blk [.v (.int .i64 (x1.Version)), .v (.slice a2 ((x1.Parts).length) (k2))] 24] ∧ SlAt cTShard V' a4 k4 x3 ∧ SlAt cTHeat V' a6 k6 x5 ∧ SlAt cTPart V' a2 k2 x1.Parts ∧ F_clockworkref35_Few_L3 x3 x7 J8 n34 x32 x33 = some r) ⟨(((((x3).length : Nat) : Int)).toNat + 1), [(1, .v (.slice a4 ((x3).length) (k4))), (2, .v (.slice a6 ((x5).length) (k6))), (3, .v (.int .i64 (x7))), (4, .ptr 0 0), (9, .v (.int .i64 ((0 : Int)))), (10, .v (.int .i64 ((0 : Int))))], ⟨rfl, rfl, rfl, rfl, rfl, rfl, trivial⟩, (0 : Int), (0 : Int), rfl, rfl, h4, h6, h2, hF⟩ ?_
   rintro n34 L' V35 M' ⟨x32, x33, rfl, rfl, h36, h37, h38, hF⟩
   rcases n34 with _ | n34
   ·exact absurd hF (by simp [F_clockworkref35_Few_L3])
   rw [F_clockworkref35_Few_L3] at hF
   refine xr rfl ?_
   rcases cond_some hF with ⟨hb, hF⟩ | ⟨hb, hF⟩
   ·refine Exec.ifT rfl hb ?_
    refine xr rfl ?_
    obtain ⟨q39, hF⟩ := req_some hF
    obtain ⟨c40, hr40, hd40⟩ := SlAt.get h36 q39
    obtain ⟨a41, k41, rfl, h41⟩ := hr40
    refine Exec.ia tyOk rfl rfl ⟨q39.1, q39.2, hd40.some⟩ ?_
    refine xr rfl ?_
    refine Exec.ld tyOk (x := .slice a41 (((atI x3 x33).Pairs).length) (k41)) rfl rfl (RdAt.part hd40 1 1 rfl) rfl rfl ?_
    refine xr rfl ?_
    rcases cond_some hF with ⟨hb, hF⟩ | ⟨hb, hF⟩
    ·refine Exec.ifT rfl hb ?_
     refine xr rfl ?_
     obtain rfl := some_inj hF
     exact Exec.ret tyOk rfl rfl rfl
    ·refine Exec.ifF rfl hb ?_
     refine Exec.run tyOk 5 rfl ?_
     obtain ⟨J42, hJ42, hF⟩ := jn_some hF
     refine Exec.seam (fun L' V' M' => L' = [(1, .v (.slice a4 ((x3).length) (k4))), (2, .v (.slice a6 ((x5).length) (k6))), (3, .v (.int .i64 (x7))), (4, .ptr 0 0), (9, .v (.int .i64 ((IntKind.i64.wrap (x32 + ((((atI x3 x33).Pairs).length : Nat) : Int)))))), (10, .v (.int .i64 (x33)))] ∧ M' = [.blk [.v (.int .i64 (x1.Version)), .v (.slice a2 ((x1.Parts).length) (k2))] 24] ∧ SlAt cTShard V' a4 k4 x3 ∧ SlAt cTHeat V' a6 k6 x5 ∧ SlAt cTPart V' a2 k2 x1.Parts ∧ J42 = some r) rfl ?_ ?_
     ·rintro L' V43 M' ⟨rfl, rfl, h44, h45, h46, hF⟩
      subst hJ42
      refine xr rfl ?_
      exact Exec.round [(1, .v (.slice a4 ((x3).length) (k4))), (2, .v (.slice a6 ((x5).length) (k6))), (3, .v (.int .i64 (x7))), (4, .ptr 0 0), (9, .v (.int .i64 ((IntKind.i64.wrap (x32 + ((((atI x3 x33).Pairs).length : Nat) : Int)))))), (10, .v (.int .i64 ((IntKind.i64.wrap (x33 + (1 : Int))))))] ⟨rfl, rfl, rfl, rfl, rfl, rfl, trivial⟩ ⟨n34, Nat.lt_succ_self _, (IntKind.i64.wrap (x32 + ((((atI x3 x33).Pairs).length : Nat) : Int))), (IntKind.i64.wrap (x33 + (1 : Int))), rfl, rfl, h44, h45, h46, hF⟩
     ·refine xr rfl ?_
      refine Exec.loop (fun n48 L' V' M' => ∃ (x47 : Int), L' = [(1, .v (.slice a4 ((x3).length) (k4))), (2, .v (.slice a6 ((x5).length) (k6))), (3, .v (.int .i64 (x7))), (4, .ptr 0 0), (9, .v (.int .i64 ((IntKind.i64.wrap (x32 + ((((atI x3 x33).Pairs).length : Nat) : Int)))))), (10, .v (.int .i64 (x33))), (11, .v (.int .i64 (x47)))] ∧ M' = [.blk [.v (.int .i64 (x1.Version)), .v (.slice a2 ((x1.Parts).length) (k2))] 24] ∧ SlAt cTShard V' a4 k4 x3 ∧ SlAt cTHeat V' a6 k6 x5 ∧ SlAt cTPart V' a2 k2 x1.Parts ∧ F_clockworkref35_Few_L4 x33 x3 J42 n48 x47 = some r) ⟨(1000000 : Nat), [(1, .v (.slice a4 ((x3).length) (k4))), (2, .v (.slice a6 ((x5).length) (k6))), (3, .v (.int .i64 (x7))), (4, .ptr 0 0), (9, .v (.int .i64 ((IntKind.i64.wrap (x32 + ((((atI x3 x33).Pairs).length : Nat) : Int)))))), (10, .v (.int .i64 (x33))), (11, .v (.int .i64 ((0 : Int))))], ⟨rfl, rfl, rfl, rfl, rfl, rfl, rfl, trivial⟩, (0 : Int), rfl, rfl, h36, h37, h38, hF⟩ ?_
      rintro n48 L' V49 M' ⟨x47, rfl, rfl, h50, h51, h52, hF⟩
      rcases n48 with _ | n48
      ·exact absurd hF (by simp [F_clockworkref35_Few_L4])
      rw [F_clockworkref35_Few_L4] at hF
      refine xr rfl ?_
      obtain ⟨q53, hF⟩ := req_some hF
      obtain ⟨c54, hr54, hd54⟩ := SlAt.get h50 q53
      obtain ⟨a55, k55, rfl, h55⟩ := hr54
      refine Exec.ia tyOk rfl rfl ⟨q53.1, q53.2, hd54.some⟩ ?_
      refine xr rfl ?_
      refine Exec.ld tyOk (x := .slice a55 (((atI x3 x33).Pairs).length) (k55)) rfl rfl (RdAt.part hd54 1 1 rfl) rfl rfl ?_
      refine xr rfl ?_
      rcases cond_some hF with ⟨hb, hF⟩ | ⟨hb, hF⟩
      ·refine Exec.ifT rfl hb ?_
       refine xr rfl ?_
       obtain ⟨q56, hF⟩ := req_some hF
       obtain ⟨c57, hr57, hd57⟩ := SlAt.get h50 q56
       obtain ⟨a58, k58, rfl, h58⟩ := hr57
       refine Exec.ia tyOk rfl rfl ⟨q56.1, q56.2, hd57.some⟩ ?_
       refine xr rfl ?_
       refine Exec.ld tyOk (x := .slice a58 (((atI x3 x33).Pairs).length) (k58)) rfl rfl (RdAt.part hd57 1 1 rfl) rfl rfl ?_
       refine xr rfl ?_
       obtain ⟨q59, hF⟩ := req_some hF
       obtain ⟨c60, hr60, hd60⟩ := SlAt.get h58 q59
       obtain rfl := hr60
       refine Exec.ia tyOk rfl rfl ⟨q59.1, q59.2, hd60.some⟩ ?_
       refine xr rfl ?_
       refine Exec.ld tyOk (x := .string ⟨⟨(atI ((atI x3 x33).Pairs) x47).Key⟩⟩) rfl rfl (RdAt.part hd60 0 1 rfl) rfl rfl ?_
       refine xr rfl ?_
       obtain ⟨q61, hF⟩ := req_some hF
       obtain ⟨c62, hr62, hd62⟩ := SlAt.gget (((decide ((100 : Int) < (((atI ((atI x3 x33).Pairs) x47).Key).length : Int)))) == false) h50 q61
       obtain ⟨a63, k63, rfl, h63⟩ := hr62
       refine Exec.ia tyOk rfl rfl (fun gg0 => ⟨(q61 (gd1_of gg0)).1, (q61 (gd1_of gg0)).2, (hd62 (gd1_of gg0)).some⟩) ?_
       refine xr rfl ?_
       refine Exec.ld tyOk (x := .slice a63 (((cond (((decide ((100 : Int) < (((atI ((atI x3 x33).Pairs) x47).Key).length : Int)))) == false) (atI x3 x33) default).Pairs).length) (k63)) rfl rfl (fun gg0 => (RdAt.part (hd62 (gd1_of gg0)) 1 1 rfl)) rfl rfl ?_
       refine xr rfl ?_
       obtain ⟨q64, hF⟩ := req_some hF
       obtain ⟨c65, hr65, hd65⟩ := SlAt.gget (((decide ((100 : Int) < (((atI ((atI x3 x33).Pairs) x47).Key).length : Int)))) == false) h63 q64
       obtain rfl := hr65
       refine Exec.ia tyOk rfl rfl (fun gg0 => ⟨(q64 (gd1_of gg0)).1, (q64 (gd1_of gg0)).2, (hd65 (gd1_of gg0)).some⟩) ?_
       refine xr rfl ?_
       refine Exec.ld tyOk (x := .string ⟨⟨(cond (((decide ((100 : Int) < (((atI ((atI x3 x33).Pairs) x47).Key).length : Int)))) == false) (atI ((cond (((decide ((100 : Int) < (((atI ((atI x3 x33).Pairs) x47).Key).length : Int)))) == false) (atI x3 x33) default).Pairs) x47) default).Val.S⟩⟩) rfl rfl (fun gg0 => (RdAt.part (hd65 (gd1_of gg0)) 3 1 rfl)) rfl rfl ?_
       refine xr rfl ?_
       rcases cond_some hF with ⟨hb, hF⟩ | ⟨hb, hF⟩
       ·refine Exec.ifT rfl hb ?_
        refine xr rfl ?_
        obtain rfl := some_inj hF
        exact Exec.ret tyOk rfl rfl rfl
       ·refine Exec.ifF rfl hb ?_
        refine xr rfl ?_
        exact Exec.round [(1, .v (.slice a4 ((x3).length) (k4))), (2, .v (.slice a6 ((x5).length) (k6))), (3, .v (.int .i64 (x7))), (4, .ptr 0 0), (9, .v (.int .i64 ((IntKind.i64.wrap (x32 + ((((atI x3 x33).Pairs).length : Nat) : Int)))))), (10, .v (.int .i64 (x33))), (11, .v (.int .i64 ((IntKind.i64.wrap (x47 + (1 : Int))))))] ⟨rfl, rfl, rfl, rfl, rfl, rfl, rfl, trivial⟩ ⟨n48, Nat.lt_succ_self _, (IntKind.i64.wrap (x47 + (1 : Int))), rfl, rfl, h50, h51, h52, hF⟩
      ·refine Exec.ifF rfl hb ?_
       refine xr rfl ?_
       exact Exec.round [(1, .v (.slice a4 ((x3).length) (k4))), (2, .v (.slice a6 ((x5).length) (k6))), (3, .v (.int .i64 (x7))), (4, .ptr 0 0), (9, .v (.int .i64 ((IntKind.i64.wrap (x32 + ((((atI x3 x33).Pairs).length : Nat) : Int)))))), (10, .v (.int .i64 (x33)))] ⟨rfl, rfl, rfl, rfl, rfl, rfl, trivial⟩ ⟨rfl, rfl, h50, h51, h52, hF⟩
   ·refine Exec.ifF rfl hb ?_
    refine xr rfl ?_
    exact Exec.round [(2, .v (.slice a6 ((x5).length) (k6))), (4, .ptr 0 0)] ⟨rfl, rfl, trivial⟩ ⟨rfl, rfl, h37, h38, hF⟩
def F_clockworkref06_Same_L1 (x1 : List TPair) (x3 : List TPair) (J5 : Option Bool) : Nat → Int → Option Bool
 | 0, _ => none
 | n8 + 1, x7 => (cond (decide (x7 < (((x1).length : Nat) : Int))) (req (0 ≤ x7 ∧ x7 < ((x1).length : Int)) (req (0 ≤ x7 ∧ x7 < ((x3).length : Int)) (cond (!(((atI x1 x7).Key == (atI x3 x7).Key) && ((((atI x1 x7).Val.Kind == (atI x3 x7).Val.Kind) && (((atI x1 x7).Val.N == (atI x3 x7).Val.N) && (((atI x1 x7).Val.S == (atI x3 x7).Val.S) && true))) && true))) (some false) (F_clockworkref06_Same_L1 x1 x3 J5 n8 ((IntKind.i64.wrap (x7 + (1 : Int)))))))) J5)
def F_clockworkref06_Same (x1 : List TPair) (x3 : List TPair) : Option Bool :=
 (cond ((((x1).length : Nat) : Int) != (((x3).length : Nat) : Int)) (some false) (jn ((some true)) (fun J5 => (F_clockworkref06_Same_L1 x1 x3 J5 (((((x1).length : Nat) : Int)).toNat + 1) ((0 : Int))))))
def F_clockworklaw35_forty_L1 (J4 : (List TPair) → Option (List TPair)) : Nat → (List TPair) → Int → Option (List TPair)
 | 0, _, _ => none
 | n10 + 1, x8, x9 => (cond (decide (x9 < (40 : Int))) (req ((10 : Int) ≠ 0) (req ((10 : Int) ≠ 0) (req (((x8 ++ [(⟨(bytesS (([(97 : Int), (IntKind.u8.wrap (IntKind.i64.wrap ((48 : Int) + (quoI .i64 x9 (10 : Int))))), (IntKind.u8.wrap (IntKind.i64.wrap ((48 : Int) + (remI x9 (10 : Int)))))] : List Int))), (⟨(1 : Int), (1 : Int), []⟩ : TValue)⟩ : TPair)])).length * 48 ≤ 140737488355328) (F_clockworklaw35_forty_L1 J4 n10 ((x8 ++ [(⟨(bytesS (([(97 : Int), (IntKind.u8.wrap (IntKind.i64.wrap ((48 : Int) + (quoI .i64 x9 (10 : Int))))), (IntKind.u8.wrap (IntKind.i64.wrap ((48 : Int) + (remI x9 (10 : Int)))))] : List Int))), (⟨(1 : Int), (1 : Int), []⟩ : TValue)⟩ : TPair)])) ((IntKind.i64.wrap (x9 + (1 : Int)))))))) (J4 x8))
def F_clockworklaw35_forty  : Option (List TPair) :=
 (jn (fun (x3 : List TPair) => (some x3)) (fun J4 => (F_clockworklaw35_forty_L1 J4 (((40 : Int)).toNat + 1) (([] : List TPair)) ((0 : Int)))))
theorem W_clockworklaw35_forty {V : View}    {r : List TPair} (hF : F_clockworklaw35_forty  = some r) :
  Spec Tryz.prog 24 [] V (fun V' v => ∃ (a18 : Option Addr) (k18 : Nat), v = .slice a18 ((r).length) (k18) ∧ SlAt cTPair V' a18 k18 r) := by
 unfold F_clockworklaw35_forty at hF
 refine Spec.enter (T := tyT) Tryz.func24 rfl (by kernel_rfl) rfl rfl rfl ?_
 refine Exec.run tyOk 13 rfl ?_
 refine Exec.row0 56 4 rfl ?_
 have h1 : RowRep cTPair V ([] : List TPair) [] := RowRep.nil
 obtain ⟨J4, hJ4, hF⟩ := jn_some hF
 refine Exec.seam (fun L' V' M' => ∃ (x3 : List TPair) (a2 : Option Addr) (k2 : Nat) (cs2 : List Value), L' = [(1, .v (.slice a2 ((x3).length) (k2)))] ∧ M' = [.row (.slice a2 ((x3).length) (k2)) cs2 56 4] ∧ RowRep cTPair V' x3 cs2 ∧ J4 x3 = some r) rfl ?_ ?_
 ·rintro L' V5 M' ⟨x3, a2, k2, cs2, rfl, rfl, h2, hF⟩
  subst hJ4
  refine xr rfl ?_
  refine Exec.frz 0 rfl rfl rfl (fun V6 hv6 hd6 hn6 => ?_)
  have hz6 := RowRep.slat h2 hv6 hd6 hn6
  obtain rfl := some_inj hF
  exact Exec.ret tyOk rfl rfl ⟨_, _, rfl, hz6⟩
 ·refine xr rfl ?_
  refine Exec.loop (fun n10 L' V' M' => ∃ (x8 : List TPair) (a7 : Option Addr) (k7 : Nat) (cs7 : List Value) (x9 : Int), L' = [(1, .v (.slice a7 ((x8).length) (k7))), (2, .v (.int .i64 (x9)))] ∧ M' = [.row (.slice a7 ((x8).length) (k7)) cs7 56 4] ∧ RowRep cTPair V' x8 cs7 ∧ F_clockworklaw35_forty_L1 J4 n10 x8 x9 = some r) ⟨(((40 : Int)).toNat + 1), [(1, .v (.slice none ((([] : List TPair)).length) (0))), (2, .v (.int .i64 ((0 : Int))))], ⟨rfl, rfl, trivial⟩, ([] : List TPair), none, 0, [], (0 : Int), rfl, rfl, h1, hF⟩ ?_
  rintro n10 L' V11 M' ⟨x8, a7, k7, cs7, x9, rfl, rfl, h7, hF⟩
  rcases n10 with _ | n10
  ·exact absurd hF (by simp [F_clockworklaw35_forty_L1])
  rw [F_clockworklaw35_forty_L1] at hF
  refine xr rfl ?_
  rcases cond_some hF with ⟨hb, hF⟩ | ⟨hb, hF⟩
  ·refine Exec.ifT rfl hb ?_
   refine xr rfl ?_
   obtain ⟨q12, hF⟩ := req_some hF
   refine Exec.ari rfl rfl q12 ?_
   refine xr rfl ?_
   obtain ⟨q13, hF⟩ := req_some hF
   refine Exec.ari rfl rfl q13 ?_
   refine xr rfl ?_
   refine Exec.bsV tyOk rfl rfl rfl rfl rfl (fun V14 a14 hv14 hd14 => ?_)
   have h15 := RowRep.mono hv14 h7
   have h14 : SlAt (cInt .u8) V14 (some a14) 3 ([(97 : Int), (IntKind.u8.wrap (IntKind.i64.wrap ((48 : Int) + (quoI .i64 x9 (10 : Int))))), (IntKind.u8.wrap (IntKind.i64.wrap ((48 : Int) + (remI x9 (10 : Int)))))] : List Int) := RowRep.slat (c := (cInt .u8)) (V := V14) (cs := [.int .u8 ((97 : Int)), .int .u8 ((IntKind.u8.wrap (IntKind.i64.wrap ((48 : Int) + (quoI .i64 x9 (10 : Int)))))), .int .u8 ((IntKind.u8.wrap (IntKind.i64.wrap ((48 : Int) + (remI x9 (10 : Int))))))]) ⟨_, _, rfl, rfl, ⟨_, _, rfl, rfl, ⟨_, _, rfl, rfl, rfl⟩⟩⟩ (VLe.refl _) (fun _ => hd14) (by simp)
   refine xr rfl ?_
   refine Exec.b2sV tyOk rfl rfl rfl rfl rfl rfl rfl h14 (by simp) ?_
   refine xr rfl ?_
   refine Exec.bsl tyOk rfl rfl ?_
   refine xr rfl ?_
   obtain ⟨q17, hF⟩ := req_some hF
   refine Exec.app tyOk 0 2 (nm := ((x8 ++ [(⟨(bytesS (([(97 : Int), (IntKind.u8.wrap (IntKind.i64.wrap ((48 : Int) + (quoI .i64 x9 (10 : Int))))), (IntKind.u8.wrap (IntKind.i64.wrap ((48 : Int) + (remI x9 (10 : Int)))))] : List Int))), (⟨(1 : Int), (1 : Int), []⟩ : TValue)⟩ : TPair)])).length) rfl rfl rfl rfl rfl rfl rfl rfl rfl (by simp) (fun _ _ => rfl) rfl q17 (fun a16 k16 => ?_)
   have h16 : RowRep cTPair V14 (x8 ++ [(⟨(bytesS (([(97 : Int), (IntKind.u8.wrap (IntKind.i64.wrap ((48 : Int) + (quoI .i64 x9 (10 : Int))))), (IntKind.u8.wrap (IntKind.i64.wrap ((48 : Int) + (remI x9 (10 : Int)))))] : List Int))), (⟨(1 : Int), (1 : Int), []⟩ : TValue)⟩ : TPair)]) (cs7 ++ [.string ⟨⟨(bytesS (([(97 : Int), (IntKind.u8.wrap (IntKind.i64.wrap ((48 : Int) + (quoI .i64 x9 (10 : Int))))), (IntKind.u8.wrap (IntKind.i64.wrap ((48 : Int) + (remI x9 (10 : Int)))))] : List Int)))⟩⟩, .int .i64 ((1 : Int)), .int .i64 ((1 : Int)), .string ⟨⟨[]⟩⟩]) := RowRep.app h15 ⟨_, _, rfl, rfl, rfl⟩
   refine xr rfl ?_
   refine Exec.cut 1 [(1, .v (.slice a16 (((x8 ++ [(⟨(bytesS (([(97 : Int), (IntKind.u8.wrap (IntKind.i64.wrap ((48 : Int) + (quoI .i64 x9 (10 : Int))))), (IntKind.u8.wrap (IntKind.i64.wrap ((48 : Int) + (remI x9 (10 : Int)))))] : List Int))), (⟨(1 : Int), (1 : Int), []⟩ : TValue)⟩ : TPair)])).length) (k16))), (2, .v (.int .i64 ((IntKind.i64.wrap (x9 + (1 : Int))))))] (M' := [.row (.slice a16 (((x8 ++ [(⟨(bytesS (([(97 : Int), (IntKind.u8.wrap (IntKind.i64.wrap ((48 : Int) + (quoI .i64 x9 (10 : Int))))), (IntKind.u8.wrap (IntKind.i64.wrap ((48 : Int) + (remI x9 (10 : Int)))))] : List Int))), (⟨(1 : Int), (1 : Int), []⟩ : TValue)⟩ : TPair)])).length) (k16)) ((cs7 ++ [.string ⟨⟨(bytesS (([(97 : Int), (IntKind.u8.wrap (IntKind.i64.wrap ((48 : Int) + (quoI .i64 x9 (10 : Int))))), (IntKind.u8.wrap (IntKind.i64.wrap ((48 : Int) + (remI x9 (10 : Int)))))] : List Int)))⟩⟩, .int .i64 ((1 : Int)), .int .i64 ((1 : Int)), .string ⟨⟨[]⟩⟩])) 56 4]) rfl ⟨rfl, rfl, trivial⟩ rfl rfl rfl ?_
   exact Exec.round [(1, .v (.slice a16 (((x8 ++ [(⟨(bytesS (([(97 : Int), (IntKind.u8.wrap (IntKind.i64.wrap ((48 : Int) + (quoI .i64 x9 (10 : Int))))), (IntKind.u8.wrap (IntKind.i64.wrap ((48 : Int) + (remI x9 (10 : Int)))))] : List Int))), (⟨(1 : Int), (1 : Int), []⟩ : TValue)⟩ : TPair)])).length) (k16))), (2, .v (.int .i64 ((IntKind.i64.wrap (x9 + (1 : Int))))))] ⟨rfl, rfl, trivial⟩ ⟨n10, Nat.lt_succ_self _, (x8 ++ [(⟨(bytesS (([(97 : Int), (IntKind.u8.wrap (IntKind.i64.wrap ((48 : Int) + (quoI .i64 x9 (10 : Int))))), (IntKind.u8.wrap (IntKind.i64.wrap ((48 : Int) + (remI x9 (10 : Int)))))] : List Int))), (⟨(1 : Int), (1 : Int), []⟩ : TValue)⟩ : TPair)]), a16, k16, (cs7 ++ [.string ⟨⟨(bytesS (([(97 : Int), (IntKind.u8.wrap (IntKind.i64.wrap ((48 : Int) + (quoI .i64 x9 (10 : Int))))), (IntKind.u8.wrap (IntKind.i64.wrap ((48 : Int) + (remI x9 (10 : Int)))))] : List Int)))⟩⟩, .int .i64 ((1 : Int)), .int .i64 ((1 : Int)), .string ⟨⟨[]⟩⟩]), (IntKind.i64.wrap (x9 + (1 : Int))), rfl, rfl, h16, hF⟩
  ·refine Exec.ifF rfl hb ?_
   refine xr rfl ?_
   exact Exec.round [(1, .v (.slice a7 ((x8).length) (k7)))] ⟨rfl, trivial⟩ ⟨x8, a7, k7, cs7, rfl, rfl, h7, hF⟩
def F_rebalance_plain (x1 : TMarker) : Option Bool :=
 (cond (x1.Kind == (1 : Int)) (some ((x1.Node == (0 : Int)) && (x1.N == (0 : Int)))) (cond (x1.Kind == (2 : Int)) (some ((((x1.New == (0 : Int)) && (x1.Node == (0 : Int))) && (x1.N == (0 : Int))) && (x1.Key == ([] : Str)))) (cond (x1.Kind == (3 : Int)) (some (((x1.New == (0 : Int)) && (x1.N == (0 : Int))) && (x1.Key == ([] : Str)))) (cond (x1.Kind == (4 : Int)) (some (((x1.New == (0 : Int)) && (x1.Node == (0 : Int))) && (x1.Key == ([] : Str)))) (some false)))))
theorem W_rebalance_plain {V : View} (x1 : TMarker)   {r : Bool} (hF : F_rebalance_plain x1 = some r) :
  Spec Tryz.prog 25 [.agg ⟨[.int .i64 (x1.Kind), .int .i64 (x1.Part), .int .i64 (x1.New), .int .i64 (x1.Node), .int .i64 (x1.N), .string ⟨⟨x1.Key⟩⟩]⟩] V (fun _ v => v = .bool (r)) := by
 unfold F_rebalance_plain at hF
 refine Spec.enter (T := tyT) Tryz.func25 rfl (by kernel_rfl) rfl rfl rfl ?_
 refine xr rfl ?_
 rcases cond_some hF with ⟨hb, hF⟩ | ⟨hb, hF⟩
 ·refine Exec.ifT rfl hb ?_
  refine xr rfl ?_
  obtain rfl := some_inj hF
  exact Exec.ret tyOk rfl rfl rfl
 ·refine Exec.ifF rfl hb ?_
  refine xr rfl ?_
  rcases cond_some hF with ⟨hb, hF⟩ | ⟨hb, hF⟩
  ·refine Exec.ifT rfl hb ?_
   refine xr rfl ?_
   obtain rfl := some_inj hF
   exact Exec.ret tyOk rfl rfl rfl
  ·refine Exec.ifF rfl hb ?_
   refine xr rfl ?_
   rcases cond_some hF with ⟨hb, hF⟩ | ⟨hb, hF⟩
   ·refine Exec.ifT rfl hb ?_
    refine xr rfl ?_
    obtain rfl := some_inj hF
    exact Exec.ret tyOk rfl rfl rfl
   ·refine Exec.ifF rfl hb ?_
    refine xr rfl ?_
    rcases cond_some hF with ⟨hb, hF⟩ | ⟨hb, hF⟩
    ·refine Exec.ifT rfl hb ?_
     refine xr rfl ?_
     obtain rfl := some_inj hF
     exact Exec.ret tyOk rfl rfl rfl
    ·refine Exec.ifF rfl hb ?_
     refine xr rfl ?_
     obtain rfl := some_inj hF
     exact Exec.ret tyOk rfl rfl rfl
section
open Go.RowKit Go.Proofs
def muF (s : Nat) (n : Int) (a : Act) : Nat := match a.tmps[s]? with
 | some (.int _ i) => (n - i).toNat
 | _ => 0
theorem RSt.muF {nt : Nat} {V0 : View} {FR : Frm} {ds : List Deferred} {L : Fr} {V : View} {M : List OB} {a : Act} {w : World} (h : RSt nt V0 FR ds L V M a w) {s : Nat} {i : Int} (n : Int) (hs : lookL L s = some (.v (.int .i64 i))) :
  Go.Proofs.YtglnnhmmipopiaaGreat.muF s n a = (n - i).toNat := by
 obtain ⟨env, _, hl⟩ := h.st
 have h1 : a.tmps[s]? = some (.int .i64 i) := (hl s _ hs).1
 simp [Go.Proofs.YtglnnhmmipopiaaGreat.muF, h1]
def freeL (ids : List Int) : Nat → Int → Option Int
 | 0, _ => none
 | n + 1, i => if i ∈ ids then freeL ids n (i + 1) else some i
theorem freeL_le {ids : List Int} : ∀ {n : Nat} {i r : Int}, freeL ids n i = some r → i ≤ r
 | 0, _, _, h => by cases h
 | n + 1, i, r, h => by
  unfold freeL at h
  split at h
  ·have := freeL_le h; omega
  ·have := some_inj h; omega
def F_rebalance_freeId (x1 : TPlacement) : Option Int :=
 req (x1.Parts.length < 1000000 ∧ ∀ p ∈ x1.Parts, IntKind.i64.min ≤ p.Id ∧ p.Id ≤ IntKind.i64.max) (freeL (x1.Parts.map fun p => p.Id) 1000000 1)
theorem W_rebalance_freeId {V : View} (x1 : TPlacement) {a2 : Option Addr} {k2 : Nat} (h2 : SlAt cTPart V a2 k2 x1.Parts) {r : Int} (hF : F_rebalance_freeId x1 = some r) :
  Spec Tryz.prog 49 [.agg ⟨[.int .i64 (x1.Version), .slice a2 ((x1.Parts).length) (k2)]⟩] V (fun _ v => v = .int .i64 r) := by
 unfold F_rebalance_freeId at hF
 obtain ⟨⟨hm, hid⟩, hF⟩ := req_some hF
 refine Spec.enterF Tryz.func49 rfl (by kernel_rfl) rfl rfl rfl (fun w a s => ?_)
 refine wpIn_seq ?_
 refine s.region (ro := none) (T := tyT) (fn := Tryz.f49) (fun L' V' M' => L' = [(1, .ptr 0 0)] ∧ M' = [.blk [.v (.int .i64 x1.Version), .v (.slice a2 ((x1.Parts).length) (k2))] 24] ∧ VLe V V') ?_ rfl ?_
 ·refine xr rfl ?_
  exact Exec.round [(1, .ptr 0 0)] ⟨rfl, trivial⟩ ⟨rfl, rfl, VLe.refl V⟩
 clear s a
 rintro L' V1 M' a1 w1 ⟨rfl, rfl, hv1⟩ s
 have h5 := SlAt.mono h2 hv1
 show Code.wpIn _ _ _ _ _ _ _
 refine wpIn_seq ?_
 refine region_ops (ro := none) ?_
 refine s.mkMap (k := 3) (e := 4) rfl rfl rfl (by decide) (fun b o1 a2' w2 hFb hs1 s => ?_)
 refine s.ops (ro := none) (T := tyT) (fn := Tryz.f49) (ops := [_]) (rest := []) (fun L' V' M' => L' = [(1, .ptr 0 0), (3, .v (.map (some b)))] ∧ M' = [.blk [.v (.int .i64 x1.Version), .v (.slice a2 ((x1.Parts).length) (k2))] 24] ∧ VLe V1 V') rfl ?_ rfl ?_
 ·refine xr rfl ?_
  exact Exec.round [(1, .ptr 0 0), (3, .v (.map (some b)))] ⟨rfl, rfl, trivial⟩ ⟨rfl, rfl, VLe.refl V1⟩
 rintro L' V2 M' a3 w3 ⟨rfl, rfl, hv2⟩ s
 refine wpListIn_nil ?_
 have h6 := SlAt.mono h5 hv2
 show Code.wpIn _ _ _ _ _ _ _
 refine wpIn_seq ?_
 refine wpIn_seq ?_
 refine s.region (ro := none) (T := tyT) (fn := Tryz.f49) (fun L' V' M' => L' = [(3, .v (.map (some b))), (9, .v (.slice a2 ((x1.Parts).length) (k2))), (10, .v (.int .i64 (((x1.Parts).length : Nat) : Int))), (11, .v (.int .i64 0))] ∧ M' = [] ∧ VLe V2 V') ?_ rfl ?_
 ·refine xr rfl ?_
  refine Exec.cut 0 [(3, .v (.map (some b))), (9, .v (.slice a2 ((x1.Parts).length) (k2))), (10, .v (.int .i64 (((x1.Parts).length : Nat) : Int))), (11, .v (.int .i64 0))] (M' := []) rfl ⟨rfl, rfl, rfl, rfl, trivial⟩ rfl rfl rfl ?_
  exact Exec.round [(3, .v (.map (some b))), (9, .v (.slice a2 ((x1.Parts).length) (k2))), (10, .v (.int .i64 (((x1.Parts).length : Nat) : Int))), (11, .v (.int .i64 0))] ⟨rfl, rfl, rfl, rfl, trivial⟩ ⟨rfl, rfl, VLe.refl V2⟩
 rintro L' V3 M' a4 w4 ⟨rfl, rfl, hv3⟩ s
 have h7 := SlAt.mono h6 hv3
 show Code.wpIn _ _ _ _ _ _ _
 refine wpIn_block ?_
 refine wpIn_loop (fun a' w' => ∃ (i : Int) (o1 : Obj) (V' : View), (0 ≤ i ∧ i ≤ (x1.Parts.length : Int)) ∧ VLe V3 V' ∧ SetO Tryz.prog 3 4 ((x1.Parts.take i.toNat).map fun p => p.Id) o1 ∧ RSt 25 V ((frAll w).add b o1) [] [(3, .v (.map (some b))), (9, .v (.slice a2 ((x1.Parts).length) (k2))), (10, .v (.int .i64 (((x1.Parts).length : Nat) : Int))), (11, .v (.int .i64 i))] V' [] a' w')
  (fun a' _ => muF 11 x1.Parts.length a') ⟨0, o1, V3, ⟨Int.le_refl _, by omega⟩, VLe.refl _, by simpa using hs1, s⟩ ?_
 ·rintro a5 w5 ⟨i, o2, V4, hi, hv4, hs2, s5⟩
  have h8 := SlAt.mono h7 hv4
  rw [s5.muF (s := 11) x1.Parts.length rfl]
  refine wpIn_seq ?_
  refine s5.region (ro := none) (T := tyT) (fn := Tryz.f49) (fun L' V' M' => L' = [(3, .v (.map (some b))), (9, .v (.slice a2 ((x1.Parts).length) (k2))), (10, .v (.int .i64 (((x1.Parts).length : Nat) : Int))), (11, .v (.int .i64 i)), (12, .v (.bool (decide (i < (x1.Parts.length : Int)))))] ∧ M' = [] ∧ V' = V4) ?_ rfl ?_
  ·refine xr rfl ?_
   exact Exec.round [(3, .v (.map (some b))), (9, .v (.slice a2 ((x1.Parts).length) (k2))), (10, .v (.int .i64 (((x1.Parts).length : Nat) : Int))), (11, .v (.int .i64 i)), (12, .v (.bool (decide (i < (x1.Parts.length : Int)))))] ⟨rfl, rfl, rfl, rfl, rfl, trivial⟩ ⟨rfl, rfl, rfl⟩
  rintro L' V5 M' a6 w6 ⟨rfl, rfl, rfl⟩ s6
  show Code.wpIn _ _ _ _ _ _ _
  refine wpIn_seq ?_
  refine wpIn_cond_split (s6.eval (s := 12) rfl) (fun hc => ?_) (fun hc => ?_)
  case _ =>
   have hlt : i < (x1.Parts.length : Int) := by simpa using hc
   refine wpIn_skip ?_
   show Code.wpIn _ _ _ _ _ _ _
   obtain ⟨c13, hr13, hd13⟩ := SlAt.get h8 (n := i) ⟨hi.1, hlt⟩
   obtain rfl := hr13
   have hil : i.toNat < x1.Parts.length := by omega
   have hat : atI x1.Parts i = x1.Parts[i.toNat] := by simp [atI, List.getD_eq_getElem?_getD, hil]
   refine wpIn_seq ?_
   refine wpIn_block ?_
   refine wpIn_seq ?_
   refine s6.region (ro := none) (T := tyT) (fn := Tryz.f49) (fun L' V' M' => L' = [(3, .v (.map (some b))), (5, .ptr 0 0), (9, .v (.slice a2 ((x1.Parts).length) (k2))), (10, .v (.int .i64 (((x1.Parts).length : Nat) : Int))), (11, .v (.int .i64 i))] ∧ M' = [.blk [.v (.int .i64 (atI x1.Parts i).Id), .v (.string ⟨⟨(atI x1.Parts i).From⟩⟩), .v (.int .i64 (atI x1.Parts i).Node), .v (.int .i64 (atI x1.Parts i).Dest), .v (.string ⟨⟨(atI x1.Parts i).Done⟩⟩)] 60] ∧ V' = V5) ?_ rfl ?_
   ·refine xr rfl ?_
    refine Exec.ia tyOk rfl rfl ⟨hi.1, hlt, hd13.some⟩ ?_
    refine xr rfl ?_
    refine Exec.ld tyOk (x := .agg ⟨[.int .i64 (atI x1.Parts i).Id, .string ⟨⟨(atI x1.Parts i).From⟩⟩, .int .i64 (atI x1.Parts i).Node, .int .i64 (atI x1.Parts i).Dest, .string ⟨⟨(atI x1.Parts i).Done⟩⟩]⟩) rfl rfl hd13 rfl rfl ?_
    refine xr rfl ?_
    exact Exec.round [(3, .v (.map (some b))), (5, .ptr 0 0), (9, .v (.slice a2 ((x1.Parts).length) (k2))), (10, .v (.int .i64 (((x1.Parts).length : Nat) : Int))), (11, .v (.int .i64 i))] ⟨rfl, rfl, rfl, rfl, rfl, trivial⟩ ⟨rfl, rfl, rfl⟩
   rintro L' V6 M' a7 w7 ⟨rfl, rfl, rfl⟩ s7
   show Code.wpIn _ _ _ _ _ _ _
   refine region_ops (ro := none) ?_
   refine s7.ops (ro := none) (T := tyT) (fn := Tryz.f49) (ops := [_, _, _]) (rest := [_]) (fun L' V' M' => L' = [(3, .v (.map (some b))), (9, .v (.slice a2 ((x1.Parts).length) (k2))), (10, .v (.int .i64 (((x1.Parts).length : Nat) : Int))), (11, .v (.int .i64 i)), (15, .v (.map (some b))), (17, .v (.int .i64 (atI x1.Parts i).Id))] ∧ M' = [] ∧ V' = V6) rfl ?_ rfl ?_
   ·refine xr rfl ?_
    refine Exec.cut 0 [(3, .v (.map (some b))), (9, .v (.slice a2 ((x1.Parts).length) (k2))), (10, .v (.int .i64 (((x1.Parts).length : Nat) : Int))), (11, .v (.int .i64 i)), (15, .v (.map (some b))), (17, .v (.int .i64 (atI x1.Parts i).Id))] (M' := []) rfl ⟨rfl, rfl, rfl, rfl, rfl, rfl, trivial⟩ rfl rfl rfl ?_
    exact Exec.round [(3, .v (.map (some b))), (9, .v (.slice a2 ((x1.Parts).length) (k2))), (10, .v (.int .i64 (((x1.Parts).length : Nat) : Int))), (11, .v (.int .i64 i)), (15, .v (.map (some b))), (17, .v (.int .i64 (atI x1.Parts i).Id))] ⟨rfl, rfl, rfl, rfl, rfl, rfl, trivial⟩ ⟨rfl, rfl, rfl⟩
   rintro L' V7 M' a8 w8 ⟨rfl, rfl, rfl⟩ s8
   refine s8.putMap (i := (atI x1.Parts i).Id) hFb hs2 rfl rfl rfl Tryz.underlying119 Tryz.underlying3 Tryz.underlying4 (by rw [List.length_map, List.length_take]; have e : maxLen = 9223372036854775807 := rfl; omega) (by rw [hat]; exact hid _ (List.getElem_mem hil)) rfl rfl (fun o3 a9 w9 hs3 s9 => ?_)
   refine wpListIn_nil ?_
   show Code.wpIn _ _ _ _ _ _ _
   refine s9.region (ro := none) (T := tyT) (fn := Tryz.f49) (fun L' V' M' => L' = [(3, .v (.map (some b))), (9, .v (.slice a2 ((x1.Parts).length) (k2))), (10, .v (.int .i64 (((x1.Parts).length : Nat) : Int))), (11, .v (.int .i64 (IntKind.i64.wrap (i + (1 : Int)))))] ∧ M' = [] ∧ V' = V7) ?_ rfl ?_
   ·refine xr rfl ?_
    exact Exec.round [(3, .v (.map (some b))), (9, .v (.slice a2 ((x1.Parts).length) (k2))), (10, .v (.int .i64 (((x1.Parts).length : Nat) : Int))), (11, .v (.int .i64 (IntKind.i64.wrap (i + (1 : Int)))))] ⟨rfl, rfl, rfl, rfl, trivial⟩ ⟨rfl, rfl, rfl⟩
   rintro L' V8 M' a10 w10 ⟨rfl, rfl, rfl⟩ s10
   have hw : IntKind.i64.wrap (i + (1 : Int)) = i + 1 := w64 (by omega) (by omega)
   rw [hw] at s10
   have ht1 : (i + 1).toNat = i.toNat + 1 := by omega
   refine ⟨⟨i + 1, o3, V8, ⟨by omega, by omega⟩, hv4, ?_, s10⟩, ?_⟩
   ·rw [ht1, List.take_succ_eq_append_getElem hil, List.map_append, ← hat]; exact hs3
   ·rw [s10.muF (s := 11) x1.Parts.length rfl]
    omega
  case _ =>
   have hge : (x1.Parts.length : Int) ≤ i := by simpa using hc
   have he : i.toNat = x1.Parts.length := by omega
   rw [he, List.take_length] at hs2
   refine wpIn_exit ?_
   show Code.wpIn _ _ _ _ _ _ _
   refine wpIn_seq ?_
   refine s6.region (ro := none) (T := tyT) (fn := Tryz.f49) (fun L' V' M' => L' = [(3, .v (.map (some b))), (6, .v (.int .i64 1))] ∧ M' = [] ∧ V' = V5) ?_ rfl ?_
   ·refine xr rfl ?_
    exact Exec.round [(3, .v (.map (some b))), (6, .v (.int .i64 1))] ⟨rfl, rfl, trivial⟩ ⟨rfl, rfl, rfl⟩
   rintro L' V6 M' a7 w7 ⟨rfl, rfl, rfl⟩ s7
   show Code.wpIn _ _ _ _ _ _ _
   refine wpIn_seq ?_
   refine wpIn_block ?_
   refine wpIn_loop (fun a' w' => ∃ (i : Int) (n : Nat) (V' : View), (1 ≤ i ∧ i + n = 1000001) ∧ freeL (x1.Parts.map fun p => p.Id) n i = some r ∧ VLe V6 V' ∧ RSt 25 V ((frAll w).add b o2) [] [(3, .v (.map (some b))), (6, .v (.int .i64 i))] V' [] a' w')
    (fun a' _ => muF 6 r a') ⟨1, 1000000, V6, ⟨Int.le_refl _, by omega⟩, hF, VLe.refl _, s7⟩ ?_
   rintro a8 w8 ⟨j, n, V7, hj, hfj, hv7, s8⟩
   rw [s8.muF (s := 6) r rfl]
   refine wpIn_seq ?_
   refine wpIn_seq ?_
   refine region_ops (ro := none) ?_
   refine s8.ops (ro := none) (T := tyT) (fn := Tryz.f49) (ops := [_, _]) (rest := [_]) (fun L' V' M' => L' = [(3, .v (.map (some b))), (6, .v (.int .i64 j)), (19, .v (.map (some b))), (20, .v (.int .i64 j))] ∧ M' = [] ∧ V' = V7) rfl ?_ rfl ?_
   ·refine xr rfl ?_
    exact Exec.round [(3, .v (.map (some b))), (6, .v (.int .i64 j)), (19, .v (.map (some b))), (20, .v (.int .i64 j))] ⟨rfl, rfl, rfl, rfl, trivial⟩ ⟨rfl, rfl, rfl⟩
   rintro L' V8 M' a9 w9 ⟨rfl, rfl, rfl⟩ s9
   refine s9.getMap (i := j) hs2 rfl rfl rfl (by decide) Tryz.underlying119 Tryz.underlying3 Tryz.underlying4 (fun w => by simp [Tryz.zeroValue4]) (by show (-9223372036854775808 : Int) ≤ j ∧ j ≤ 9223372036854775807; omega) rfl rfl (fun a10 s10 => ?_)
   refine wpListIn_nil ?_
   show Code.wpIn _ _ _ _ _ _ _
   cases n with
   | zero => cases hfj
   | succ n =>
   unfold freeL at hfj
   refine wpIn_cond_split (s10.eval (s := 21) rfl) (fun hc => ?_) (fun hc => ?_)
   case _ =>
    have hin : j ∈ (x1.Parts.map fun p => p.Id) := by simpa using hc
    rw [if_pos hin] at hfj
    have hle := freeL_le hfj
    refine wpIn_skip ?_
    show Code.wpIn _ _ _ _ _ _ _
    refine wpIn_block ?_
    refine s10.region (ro := none) (T := tyT) (fn := Tryz.f49) (fun L' V' M' => L' = [(3, .v (.map (some b))), (6, .v (.int .i64 (IntKind.i64.wrap (j + (1 : Int)))))] ∧ M' = [] ∧ V' = V8) ?_ rfl ?_
    ·refine xr rfl ?_
     exact Exec.round [(3, .v (.map (some b))), (6, .v (.int .i64 (IntKind.i64.wrap (j + (1 : Int)))))] ⟨rfl, rfl, trivial⟩ ⟨rfl, rfl, rfl⟩
    rintro L' V9 M' a11 w11 ⟨rfl, rfl, rfl⟩ s11
    have hw : IntKind.i64.wrap (j + (1 : Int)) = j + 1 := w64 (by omega) (by omega)
    rw [hw] at s11
    refine ⟨⟨j + 1, n, V9, ⟨by omega, by omega⟩, hfj, hv7, s11⟩, ?_⟩
    rw [s11.muF (s := 6) r rfl]
    omega
   case _ =>
    have hnin : j ∉ (x1.Parts.map fun p => p.Id) := by simpa using hc
    rw [if_neg hnin] at hfj
    obtain rfl := some_inj hfj
    refine wpIn_exit ?_
    show Code.wpIn _ _ _ _ _ _ _
    refine wpIn_seq ?_
    refine s10.region (ro := none) (T := tyT) (fn := Tryz.f49) (fun L' V' M' => L' = [(2, .v (.int .i64 j))] ∧ M' = [] ∧ V' = V8) ?_ rfl ?_
    ·refine xr rfl ?_
     exact Exec.round [(2, .v (.int .i64 j))] ⟨rfl, trivial⟩ ⟨rfl, rfl, rfl⟩
    rintro L' V9 M' a11 w11 ⟨rfl, rfl, rfl⟩ s11
    show Code.wpIn _ _ _ _ _ _ _
    refine wpIn_ret ?_
    exact s11.leaves0 (T := tyT) tyOk rfl rfl (fun env hW => ⟨_, env, V9, _, rfl, hW.strong rfl rfl rfl (fun c y hy => .inl (by
     rw [Frm.add_blk]
     by_cases e : c = b
     ·subst e; rw [hFb] at hy; cases hy
     ·rw [if_neg e]; exact hy)), rfl⟩)
end
def F_rebalance_advice_continued_L1 (x1 : Tadvice) (J8 : TMarker → Option (TMarker × Bool)) : Nat → TMarker → Int → Option (TMarker × Bool)
 | 0, _, _ => none
 | n17 + 1, x15, x16 => (cond (decide (x16 < (((x1.p.Parts).length : Nat) : Int))) (req (0 ≤ x16 ∧ x16 < ((x1.p.Parts).length : Int)) (cond ((atI x1.p.Parts x16).Dest != (0 : Int)) (some ((⟨(4 : Int), (atI x1.p.Parts x16).Id, 0, 0, (16 : Int), []⟩ : TMarker), true)) (F_rebalance_advice_continued_L1 x1 J8 n17 x15 ((IntKind.i64.wrap (x16 + (1 : Int))))))) (J8 x15))
def F_rebalance_advice_continued (x1 : Tadvice) : Option (TMarker × Bool) :=
 (jn (fun (x7 : TMarker) => (some ((⟨0, 0, 0, 0, 0, []⟩ : TMarker), false))) (fun J8 => (F_rebalance_advice_continued_L1 x1 J8 (((((x1.p.Parts).length : Nat) : Int)).toNat + 1) ((default : TMarker)) ((0 : Int)))))
theorem W_rebalance_advice_continued {V : View} (x1 : Tadvice) {a2 : Option Addr} {k2 : Nat} {a3 : Option Addr} {k3 : Nat} {a4 : Option Addr} {k4 : Nat} {a5 : Option Addr} {k5 : Nat} {a6 : Option Addr} {k6 : Nat} (h2 : SlAt cTPart V a2 k2 x1.p.Parts) (h3 : SlAt cTPair V a3 k3 x1.state) (h4 : SlAt (cInt .i64) V a4 k4 x1.sizes) (h5 : SlAt (cInt .i64) V a5 k5 x1.loads) (h6 : SlAt cStr V a6 k6 x1.hot) {r : TMarker × Bool} (hF : F_rebalance_advice_continued x1 = some r) :
  Spec Tryz.prog 50 [.agg ⟨[.int .i64 (x1.p.Version), .slice a2 ((x1.p.Parts).length) (k2), .slice a3 ((x1.state).length) (k3), .slice a4 ((x1.sizes).length) (k4), .slice a5 ((x1.loads).length) (k5), .slice a6 ((x1.hot).length) (k6), .int .i64 (x1.fresh)]⟩] V (fun _ v => v = .tuple ⟨[.agg ⟨[.int .i64 (r.1.Kind), .int .i64 (r.1.Part), .int .i64 (r.1.New), .int .i64 (r.1.Node), .int .i64 (r.1.N), .string ⟨⟨r.1.Key⟩⟩]⟩, .bool (r.2)]⟩) := by
 unfold F_rebalance_advice_continued at hF
 refine Spec.enter (T := tyT) Tryz.func50 rfl (by kernel_rfl) rfl rfl rfl ?_
 refine Exec.run tyOk 15 rfl ?_
 obtain ⟨J8, hJ8, hF⟩ := jn_some hF
 refine Exec.seam (fun L' V' M' => ∃ (x7 : TMarker), L' = [(2, .ptr 1 0)] ∧ M' = [.blk [.v (.int .i64 (x1.p.Version)), .v (.slice a2 ((x1.p.Parts).length) (k2)), .v (.slice a3 ((x1.state).length) (k3)), .v (.slice a4 ((x1.sizes).length) (k4)), .v (.slice a5 ((x1.loads).length) (k5)), .v (.slice a6 ((x1.hot).length) (k6)), .v (.int .i64 (x1.fresh))] 89, .blk [.v (.int .i64 (x7.Kind)), .v (.int .i64 (x7.Part)), .v (.int .i64 (x7.New)), .v (.int .i64 (x7.Node)), .v (.int .i64 (x7.N)), .v (.string ⟨⟨x7.Key⟩⟩)] 27] ∧ SlAt cTPart V' a2 k2 x1.p.Parts ∧ SlAt cTPair V' a3 k3 x1.state ∧ SlAt (cInt .i64) V' a4 k4 x1.sizes ∧ SlAt (cInt .i64) V' a5 k5 x1.loads ∧ SlAt cStr V' a6 k6 x1.hot ∧ J8 x7 = some r) rfl ?_ ?_
 ·rintro L' V9 M' ⟨x7, rfl, rfl, h10, h11, h12, h13, h14, hF⟩
  subst hJ8
  refine xr rfl ?_
  obtain rfl := some_inj hF
  exact Exec.ret tyOk rfl rfl rfl
 ·refine xr rfl ?_
  refine Exec.loop (fun n17 L' V' M' => ∃ (x15 : TMarker) (x16 : Int), L' = [(2, .ptr 1 0), (8, .v (.slice a2 ((x1.p.Parts).length) (k2))), (9, .v (.int .i64 ((((x1.p.Parts).length : Nat) : Int)))), (10, .v (.int .i64 (x16)))] ∧ M' = [.blk [.v (.int .i64 (x1.p.Version)), .v (.slice a2 ((x1.p.Parts).length) (k2)), .v (.slice a3 ((x1.state).length) (k3)), .v (.slice a4 ((x1.sizes).length) (k4)), .v (.slice a5 ((x1.loads).length) (k5)), .v (.slice a6 ((x1.hot).length) (k6)), .v (.int .i64 (x1.fresh))] 89, .blk [.v (.int .i64 (x15.Kind)), .v (.int .i64 (x15.Part)), .v (.int .i64 (x15.New)), .v (.int .i64 (x15.Node)), .v (.int .i64 (x15.N)), .v (.string ⟨⟨x15.Key⟩⟩)] 27] ∧ SlAt cTPart V' a2 k2 x1.p.Parts ∧ SlAt cTPair V' a3 k3 x1.state ∧ SlAt (cInt .i64) V' a4 k4 x1.sizes ∧ SlAt (cInt .i64) V' a5 k5 x1.loads ∧ SlAt cStr V' a6 k6 x1.hot ∧ F_rebalance_advice_continued_L1 x1 J8 n17 x15 x16 = some r) ⟨(((((x1.p.Parts).length : Nat) : Int)).toNat + 1), [(2, .ptr 1 0), (8, .v (.slice a2 ((x1.p.Parts).length) (k2))), (9, .v (.int .i64 ((((x1.p.Parts).length : Nat) : Int)))), (10, .v (.int .i64 ((0 : Int))))], ⟨rfl, rfl, rfl, rfl, trivial⟩, (default : TMarker), (0 : Int), rfl, rfl, h2, h3, h4, h5, h6, hF⟩ ?_
  rintro n17 L' V18 M' ⟨x15, x16, rfl, rfl, h19, h20, h21, h22, h23, hF⟩
  rcases n17 with _ | n17
  ·exact absurd hF (by simp [F_rebalance_advice_continued_L1])
  rw [F_rebalance_advice_continued_L1] at hF
  refine xr rfl ?_
  rcases cond_some hF with ⟨hb, hF⟩ | ⟨hb, hF⟩
  ·refine Exec.ifT rfl hb ?_
   refine xr rfl ?_
   obtain ⟨q24, hF⟩ := req_some hF
   obtain ⟨c25, hr25, hd25⟩ := SlAt.get h19 q24
   obtain rfl := hr25
   refine Exec.ia tyOk rfl rfl ⟨q24.1, q24.2, hd25.some⟩ ?_
   refine xr rfl ?_
   refine Exec.ld tyOk (x := .agg ⟨[.int .i64 ((atI x1.p.Parts x16).Id), .string ⟨⟨(atI x1.p.Parts x16).From⟩⟩, .int .i64 ((atI x1.p.Parts x16).Node), .int .i64 ((atI x1.p.Parts x16).Dest), .string ⟨⟨(atI x1.p.Parts x16).Done⟩⟩]⟩) rfl rfl hd25 rfl rfl ?_
   refine xr rfl ?_
   rcases cond_some hF with ⟨hb, hF⟩ | ⟨hb, hF⟩
   ·refine Exec.ifT rfl hb ?_
    refine xr rfl ?_
    obtain rfl := some_inj hF
    exact Exec.ret tyOk rfl rfl rfl
   ·refine Exec.ifF rfl hb ?_
    refine xr rfl ?_
    refine Exec.cut 2 [(2, .ptr 1 0), (8, .v (.slice a2 ((x1.p.Parts).length) (k2))), (9, .v (.int .i64 ((((x1.p.Parts).length : Nat) : Int)))), (10, .v (.int .i64 ((IntKind.i64.wrap (x16 + (1 : Int))))))] (M' := [.blk [.v (.int .i64 (x1.p.Version)), .v (.slice a2 ((x1.p.Parts).length) (k2)), .v (.slice a3 ((x1.state).length) (k3)), .v (.slice a4 ((x1.sizes).length) (k4)), .v (.slice a5 ((x1.loads).length) (k5)), .v (.slice a6 ((x1.hot).length) (k6)), .v (.int .i64 (x1.fresh))] 89, .blk [.v (.int .i64 (x15.Kind)), .v (.int .i64 (x15.Part)), .v (.int .i64 (x15.New)), .v (.int .i64 (x15.Node)), .v (.int .i64 (x15.N)), .v (.string ⟨⟨x15.Key⟩⟩)] 27]) rfl ⟨rfl, rfl, rfl, rfl, trivial⟩ rfl rfl rfl ?_
    exact Exec.round [(2, .ptr 1 0), (8, .v (.slice a2 ((x1.p.Parts).length) (k2))), (9, .v (.int .i64 ((((x1.p.Parts).length : Nat) : Int)))), (10, .v (.int .i64 ((IntKind.i64.wrap (x16 + (1 : Int))))))] ⟨rfl, rfl, rfl, rfl, trivial⟩ ⟨n17, Nat.lt_succ_self _, x15, (IntKind.i64.wrap (x16 + (1 : Int))), rfl, rfl, h19, h20, h21, h22, h23, hF⟩
  ·refine Exec.ifF rfl hb ?_
   refine xr rfl ?_
   exact Exec.round [(2, .ptr 1 0)] ⟨rfl, trivial⟩ ⟨x15, rfl, rfl, h19, h20, h21, h22, h23, hF⟩
def F_rebalance_advice_merged_L1 (x1 : Tadvice) (J8 : TMarker → Option (TMarker × Bool)) : Nat → TMarker → Int → Option (TMarker × Bool)
 | 0, _, _ => none
 | n17 + 1, x15, x16 => (cond (decide (x16 < (IntKind.i64.wrap ((((x1.p.Parts).length : Nat) : Int) - (1 : Int))))) (req (0 ≤ x16 ∧ x16 < ((x1.p.Parts).length : Int)) (req (0 ≤ (IntKind.i64.wrap (x16 + (1 : Int))) ∧ (IntKind.i64.wrap (x16 + (1 : Int))) < ((x1.p.Parts).length : Int)) (req (((((atI x1.p.Parts x16).Node == (atI x1.p.Parts ((IntKind.i64.wrap (x16 + (1 : Int))))).Node)) == true) = true → 0 ≤ x16 ∧ x16 < ((x1.sizes).length : Int)) (req (((((atI x1.p.Parts x16).Node == (atI x1.p.Parts ((IntKind.i64.wrap (x16 + (1 : Int))))).Node)) == true) = true → 0 ≤ (IntKind.i64.wrap (x16 + (1 : Int))) ∧ (IntKind.i64.wrap (x16 + (1 : Int))) < ((x1.sizes).length : Int)) (bnd (some ((((atI x1.p.Parts x16).Node == (atI x1.p.Parts ((IntKind.i64.wrap (x16 + (1 : Int))))).Node) && (decide ((IntKind.i64.wrap ((cond ((((atI x1.p.Parts x16).Node == (atI x1.p.Parts ((IntKind.i64.wrap (x16 + (1 : Int))))).Node)) == true) (atI x1.sizes x16) default) + (cond ((((atI x1.p.Parts x16).Node == (atI x1.p.Parts ((IntKind.i64.wrap (x16 + (1 : Int))))).Node)) == true) (atI x1.sizes ((IntKind.i64.wrap (x16 + (1 : Int))))) default))) ≤ (8 : Int)))))) fun x32 => (req (((x32) == true) = true → 0 ≤ x16 ∧ x16 < ((x1.loads).length : Int)) (req ((((x32 && (decide ((cond ((x32) == true) (atI x1.loads x16) default) ≤ (16 : Int))))) == true) = true → 0 ≤ (IntKind.i64.wrap (x16 + (1 : Int))) ∧ (IntKind.i64.wrap (x16 + (1 : Int))) < ((x1.loads).length : Int)) (cond ((x32 && (decide ((cond ((x32) == true) (atI x1.loads x16) default) ≤ (16 : Int)))) && (decide ((cond (((x32 && (decide ((cond ((x32) == true) (atI x1.loads x16) default) ≤ (16 : Int))))) == true) (atI x1.loads ((IntKind.i64.wrap (x16 + (1 : Int))))) default) ≤ (16 : Int)))) (req (0 ≤ x16 ∧ x16 < ((x1.p.Parts).length : Int)) (some ((⟨(2 : Int), (atI x1.p.Parts x16).Id, 0, 0, 0, []⟩ : TMarker), true))) (F_rebalance_advice_merged_L1 x1 J8 n17 x15 ((IntKind.i64.wrap (x16 + (1 : Int))))))))))))) (J8 x15))
def F_rebalance_advice_merged (x1 : Tadvice) : Option (TMarker × Bool) :=
 (jn (fun (x7 : TMarker) => (some ((⟨0, 0, 0, 0, 0, []⟩ : TMarker), false))) (fun J8 => (F_rebalance_advice_merged_L1 x1 J8 (((IntKind.i64.wrap ((((x1.p.Parts).length : Nat) : Int) - (1 : Int)))).toNat + 1) ((default : TMarker)) ((0 : Int)))))
theorem W_rebalance_advice_merged {V : View} (x1 : Tadvice) {a2 : Option Addr} {k2 : Nat} {a3 : Option Addr} {k3 : Nat} {a4 : Option Addr} {k4 : Nat} {a5 : Option Addr} {k5 : Nat} {a6 : Option Addr} {k6 : Nat} (h2 : SlAt cTPart V a2 k2 x1.p.Parts) (h3 : SlAt cTPair V a3 k3 x1.state) (h4 : SlAt (cInt .i64) V a4 k4 x1.sizes) (h5 : SlAt (cInt .i64) V a5 k5 x1.loads) (h6 : SlAt cStr V a6 k6 x1.hot) {r : TMarker × Bool} (hF : F_rebalance_advice_merged x1 = some r) :
  Spec Tryz.prog 53 [.agg ⟨[.int .i64 (x1.p.Version), .slice a2 ((x1.p.Parts).length) (k2), .slice a3 ((x1.state).length) (k3), .slice a4 ((x1.sizes).length) (k4), .slice a5 ((x1.loads).length) (k5), .slice a6 ((x1.hot).length) (k6), .int .i64 (x1.fresh)]⟩] V (fun _ v => v = .tuple ⟨[.agg ⟨[.int .i64 (r.1.Kind), .int .i64 (r.1.Part), .int .i64 (r.1.New), .int .i64 (r.1.Node), .int .i64 (r.1.N), .string ⟨⟨r.1.Key⟩⟩]⟩, .bool (r.2)]⟩) := by
 unfold F_rebalance_advice_merged at hF
 refine Spec.enter (T := tyT) Tryz.func53 rfl (by kernel_rfl) rfl rfl rfl ?_
 refine Exec.run tyOk 16 rfl ?_
 obtain ⟨J8, hJ8, hF⟩ := jn_some hF
 refine Exec.seam (fun L' V' M' => ∃ (x7 : TMarker), L' = [(2, .ptr 1 0)] ∧ M' = [.blk [.v (.int .i64 (x1.p.Version)), .v (.slice a2 ((x1.p.Parts).length) (k2)), .v (.slice a3 ((x1.state).length) (k3)), .v (.slice a4 ((x1.sizes).length) (k4)), .v (.slice a5 ((x1.loads).length) (k5)), .v (.slice a6 ((x1.hot).length) (k6)), .v (.int .i64 (x1.fresh))] 89, .blk [.v (.int .i64 (x7.Kind)), .v (.int .i64 (x7.Part)), .v (.int .i64 (x7.New)), .v (.int .i64 (x7.Node)), .v (.int .i64 (x7.N)), .v (.string ⟨⟨x7.Key⟩⟩)] 27] ∧ SlAt cTPart V' a2 k2 x1.p.Parts ∧ SlAt cTPair V' a3 k3 x1.state ∧ SlAt (cInt .i64) V' a4 k4 x1.sizes ∧ SlAt (cInt .i64) V' a5 k5 x1.loads ∧ SlAt cStr V' a6 k6 x1.hot ∧ J8 x7 = some r) rfl ?_ ?_
 ·rintro L' V9 M' ⟨x7, rfl, rfl, h10, h11, h12, h13, h14, hF⟩
  subst hJ8
  refine xr rfl ?_
  obtain rfl := some_inj hF
  exact Exec.ret tyOk rfl rfl rfl
 ·refine xr rfl ?_
  refine Exec.loop (fun n17 L' V' M' => ∃ (x15 : TMarker) (x16 : Int), L' = [(1, .ptr 0 0), (2, .ptr 1 0), (9, .v (.int .i64 ((IntKind.i64.wrap ((((x1.p.Parts).length : Nat) : Int) - (1 : Int)))))), (10, .v (.int .i64 (x16)))] ∧ M' = [.blk [.v (.int .i64 (x1.p.Version)), .v (.slice a2 ((x1.p.Parts).length) (k2)), .v (.slice a3 ((x1.state).length) (k3)), .v (.slice a4 ((x1.sizes).length) (k4)), .v (.slice a5 ((x1.loads).length) (k5)), .v (.slice a6 ((x1.hot).length) (k6)), .v (.int .i64 (x1.fresh))] 89, .blk [.v (.int .i64 (x15.Kind)), .v (.int .i64 (x15.Part)), .v (.int .i64 (x15.New)), .v (.int .i64 (x15.Node)), .v (.int .i64 (x15.N)), .v (.string ⟨⟨x15.Key⟩⟩)] 27] ∧ SlAt cTPart V' a2 k2 x1.p.Parts ∧ SlAt cTPair V' a3 k3 x1.state ∧ SlAt (cInt .i64) V' a4 k4 x1.sizes ∧ SlAt (cInt .i64) V' a5 k5 x1.loads ∧ SlAt cStr V' a6 k6 x1.hot ∧ F_rebalance_advice_merged_L1 x1 J8 n17 x15 x16 = some r) ⟨(((IntKind.i64.wrap ((((x1.p.Parts).length : Nat) : Int) - (1 : Int)))).toNat + 1), [(1, .ptr 0 0), (2, .ptr 1 0), (9, .v (.int .i64 ((IntKind.i64.wrap ((((x1.p.Parts).length : Nat) : Int) - (1 : Int)))))), (10, .v (.int .i64 ((0 : Int))))], ⟨rfl, rfl, rfl, rfl, trivial⟩, (default : TMarker), (0 : Int), rfl, rfl, h2, h3, h4, h5, h6, hF⟩ ?_
  rintro n17 L' V18 M' ⟨x15, x16, rfl, rfl, h19, h20, h21, h22, h23, hF⟩
  rcases n17 with _ | n17
  ·exact absurd hF (by simp [F_rebalance_advice_merged_L1])
  rw [F_rebalance_advice_merged_L1] at hF
  refine xr rfl ?_
  rcases cond_some hF with ⟨hb, hF⟩ | ⟨hb, hF⟩
  ·refine Exec.ifT rfl hb ?_
   refine xr rfl ?_
   refine Exec.draws tyOk [(0, true), (1, true), (2, true), (3, true), (4, true), (5, true), (6, true), (7, true), (8, true), (9, true), (10, true), (11, true), (12, true), (13, true), (14, true), (15, true), (16, true), (17, true), (18, true), (19, true), (20, true), (21, true), (22, true), (23, true), (24, true), (25, true), (26, true), (27, true), (28, true), (29, true), (30, true), (31, true), (32, true), (33, true), (34, true), (35, true), (36, true), (37, true), (38, true), (39, true), (40, true), (41, true), (42, true), (43, true), (44, true), (45, true), (46, true), (47, true)] rfl (by kernel_rfl) ?_
   refine xr rfl ?_
   obtain ⟨q24, hF⟩ := req_some hF
   obtain ⟨c25, hr25, hd25⟩ := SlAt.get h19 q24
   obtain rfl := hr25
   refine Exec.fia tyOk rfl rfl rfl ⟨q24.1, q24.2, hd25.some⟩ ?_
   refine xr rfl ?_
   refine Exec.fld tyOk (x := .int .i64 ((atI x1.p.Parts x16).Node)) rfl rfl rfl (RdAt.part hd25 2 1 rfl) rfl rfl ?_
   refine xr rfl ?_
   obtain ⟨q26, hF⟩ := req_some hF
   obtain ⟨c27, hr27, hd27⟩ := SlAt.get h19 q26
   obtain rfl := hr27
   refine Exec.fia tyOk rfl rfl rfl ⟨q26.1, q26.2, hd27.some⟩ ?_
   refine xr rfl ?_
   refine Exec.fld tyOk (x := .int .i64 ((atI x1.p.Parts ((IntKind.i64.wrap (x16 + (1 : Int))))).Node)) rfl rfl rfl (RdAt.part hd27 2 1 rfl) rfl rfl ?_
   refine xr rfl ?_
   obtain ⟨q28, hF⟩ := req_some hF
   obtain ⟨c29, hr29, hd29⟩ := SlAt.gget ((((atI x1.p.Parts x16).Node == (atI x1.p.Parts ((IntKind.i64.wrap (x16 + (1 : Int))))).Node)) == true) h21 q28
   obtain rfl := hr29
   refine Exec.fia tyOk rfl rfl rfl (fun gg0 => ⟨(q28 (gd1_of gg0)).1, (q28 (gd1_of gg0)).2, (hd29 (gd1_of gg0)).some⟩) ?_
   refine xr rfl ?_
   refine Exec.fld tyOk (x := .int .i64 ((cond ((((atI x1.p.Parts x16).Node == (atI x1.p.Parts ((IntKind.i64.wrap (x16 + (1 : Int))))).Node)) == true) (atI x1.sizes x16) default))) rfl rfl rfl (fun gg0 => (hd29 (gd1_of gg0))) rfl rfl ?_
   refine xr rfl ?_
   obtain ⟨q30, hF⟩ := req_some hF
   obtain ⟨c31, hr31, hd31⟩ := SlAt.gget ((((atI x1.p.Parts x16).Node == (atI x1.p.Parts ((IntKind.i64.wrap (x16 + (1 : Int))))).Node)) == true) h21 q30
   obtain rfl := hr31
   refine Exec.fia tyOk rfl rfl rfl (fun gg0 => ⟨(q30 (gd1_of gg0)).1, (q30 (gd1_of gg0)).2, (hd31 (gd1_of gg0)).some⟩) ?_
   refine xr rfl ?_
   refine Exec.fld tyOk (x := .int .i64 ((cond ((((atI x1.p.Parts x16).Node == (atI x1.p.Parts ((IntKind.i64.wrap (x16 + (1 : Int))))).Node)) == true) (atI x1.sizes ((IntKind.i64.wrap (x16 + (1 : Int))))) default))) rfl rfl rfl (fun gg0 => (hd31 (gd1_of gg0))) rfl rfl ?_
   refine Exec.run tyOk 3 rfl ?_
   obtain ⟨x32, hx32, hF⟩ := bnd_some hF
   refine Exec.nameD (some_inj hx32) 43 rfl rfl rfl rfl ?_
   refine xr rfl ?_
   obtain ⟨q33, hF⟩ := req_some hF
   obtain ⟨c34, hr34, hd34⟩ := SlAt.gget ((x32) == true) h22 q33
   obtain rfl := hr34
   refine Exec.fia tyOk rfl rfl rfl (fun gg0 => ⟨(q33 (gd1_of gg0)).1, (q33 (gd1_of gg0)).2, (hd34 (gd1_of gg0)).some⟩) ?_
   refine xr rfl ?_
   refine Exec.fld tyOk (x := .int .i64 ((cond ((x32) == true) (atI x1.loads x16) default))) rfl rfl rfl (fun gg0 => (hd34 (gd1_of gg0))) rfl rfl ?_
   refine xr rfl ?_
   obtain ⟨q35, hF⟩ := req_some hF
   obtain ⟨c36, hr36, hd36⟩ := SlAt.gget (((x32 && (decide ((cond ((x32) == true) (atI x1.loads x16) default) ≤ (16 : Int))))) == true) h22 q35
   obtain rfl := hr36
   refine Exec.fia tyOk rfl rfl rfl (fun gg0 => ⟨(q35 (gd1_of gg0)).1, (q35 (gd1_of gg0)).2, (hd36 (gd1_of gg0)).some⟩) ?_
   refine xr rfl ?_
   refine Exec.fld tyOk (x := .int .i64 ((cond (((x32 && (decide ((cond ((x32) == true) (atI x1.loads x16) default) ≤ (16 : Int))))) == true) (atI x1.loads ((IntKind.i64.wrap (x16 + (1 : Int))))) default))) rfl rfl rfl (fun gg0 => (hd36 (gd1_of gg0))) rfl rfl ?_
   refine xr rfl ?_
   rcases cond_some hF with ⟨hb, hF⟩ | ⟨hb, hF⟩
   ·refine Exec.ifT rfl hb ?_
    refine xr rfl ?_
    obtain ⟨q37, hF⟩ := req_some hF
    obtain ⟨c38, hr38, hd38⟩ := SlAt.get h19 q37
    obtain rfl := hr38
    refine Exec.ia tyOk rfl rfl ⟨q37.1, q37.2, hd38.some⟩ ?_
    refine xr rfl ?_
    refine Exec.ld tyOk (x := .int .i64 ((atI x1.p.Parts x16).Id)) rfl rfl (RdAt.part hd38 0 1 rfl) rfl rfl ?_
    refine xr rfl ?_
    obtain rfl := some_inj hF
    exact Exec.ret tyOk rfl rfl rfl
   ·refine Exec.ifF rfl hb ?_
    refine xr rfl ?_
    exact Exec.round [(1, .ptr 0 0), (2, .ptr 1 0), (9, .v (.int .i64 ((IntKind.i64.wrap ((((x1.p.Parts).length : Nat) : Int) - (1 : Int)))))), (10, .v (.int .i64 ((IntKind.i64.wrap (x16 + (1 : Int))))))] ⟨rfl, rfl, rfl, rfl, trivial⟩ ⟨n17, Nat.lt_succ_self _, x15, (IntKind.i64.wrap (x16 + (1 : Int))), rfl, rfl, h19, h20, h21, h22, h23, hF⟩
  ·refine Exec.ifF rfl hb ?_
   refine xr rfl ?_
   exact Exec.round [(2, .ptr 1 0)] ⟨rfl, trivial⟩ ⟨x15, rfl, rfl, h19, h20, h21, h22, h23, hF⟩
def F_state_absent (x1 : TPair) : Option Bool :=
 (some (x1.Val.Kind == (0 : Int)))
theorem W_state_absent {V : View} (x1 : TPair)   {r : Bool} (hF : F_state_absent x1 = some r) :
  Spec Tryz.prog 65 [.agg ⟨[.string ⟨⟨x1.Key⟩⟩, .int .i64 (x1.Val.Kind), .int .i64 (x1.Val.N), .string ⟨⟨x1.Val.S⟩⟩]⟩] V (fun _ v => v = .bool (r)) := by
 unfold F_state_absent at hF
 refine Spec.enter (T := tyT) Tryz.func65 rfl (by kernel_rfl) rfl rfl rfl ?_
 refine xr rfl ?_
 obtain rfl := some_inj hF
 exact Exec.ret tyOk rfl rfl rfl
-- contracts: FnSt1
abbrev mkPair : TPair → Value := fun (y : TPair) => .agg ⟨[.string ⟨⟨y.Key⟩⟩, .int .i64 (y.Val.Kind), .int .i64 (y.Val.N), .string ⟨⟨y.Val.S⟩⟩]⟩
def mergeF_L1 {σ : Type} (x1 : List TPair) (x3 : List TPair) (g8 : σ → TPair → Option σ) (g10 : σ → TPair → Option σ) (g12 : σ → TPair → TPair → Option σ) (g6 : TPair → TPair → Option Int) : Nat → σ → Int → Int → Option σ
 | 0, _, _, _ => none
 | n15 + 1, s, x13, x14 => (cond ((decide (x13 < (((x1).length : Nat) : Int))) || (decide (x14 < (((x3).length : Nat) : Int)))) (jn (fun (x23 : Int) => (cond (decide (x23 < (0 : Int))) (req (0 ≤ x13 ∧ x13 < ((x1).length : Int)) (bnd (g8 s ((atI x1 x13))) fun x34 => (mergeF_L1 x1 x3 g8 g10 g12 g6 n15 x34 ((IntKind.i64.wrap (x13 + (1 : Int)))) x14))) (cond (decide ((0 : Int) < x23)) (req (0 ≤ x14 ∧ x14 < ((x3).length : Int)) (bnd (g10 s ((atI x3 x14))) fun x37 => (mergeF_L1 x1 x3 g8 g10 g12 g6 n15 x37 x13 ((IntKind.i64.wrap (x14 + (1 : Int))))))) (req (0 ≤ x13 ∧ x13 < ((x1).length : Int)) (req (0 ≤ x14 ∧ x14 < ((x3).length : Int)) (bnd (g12 s ((atI x1 x13)) ((atI x3 x14))) fun x42 => (mergeF_L1 x1 x3 g8 g10 g12 g6 n15 x42 ((IntKind.i64.wrap (x13 + (1 : Int)))) ((IntKind.i64.wrap (x14 + (1 : Int))))))))))) (fun J24 => (cond (x13 == (((x1).length : Nat) : Int)) (J24 ((1 : Int))) (cond (x14 == (((x3).length : Nat) : Int)) (J24 ((-1 : Int))) (req (0 ≤ x13 ∧ x13 < ((x1).length : Int)) (req (0 ≤ x14 ∧ x14 < ((x3).length : Int)) (bnd (g6 ((atI x1 x13)) ((atI x3 x14))) fun x47 => (J24 x47)))))))) (some s))
def mergeF {σ : Type} (x1 : List TPair) (x3 : List TPair) (g6 : TPair → TPair → Option Int) (g8 : σ → TPair → Option σ) (g10 : σ → TPair → Option σ) (g12 : σ → TPair → TPair → Option σ)  (s : σ) : Option σ :=
 (mergeF_L1 x1 x3 g8 g10 g12 g6 (1000000 : Nat) s ((0 : Int)) ((0 : Int)))
theorem X_merge {σ : Type} {rel : View → σ → RowD → RowD → RowD → Prop} {V : View} (x1 : List TPair) (x3 : List TPair) (g6 : TPair → TPair → Option Int) {f6 : Nat} {ca6 : List Value} (g8 : σ → TPair → Option σ) {f8 : Nat} {ca8 : List Value} (g10 : σ → TPair → Option σ) {f10 : Nat} {ca10 : List Value} (g12 : σ → TPair → TPair → Option σ) {f12 : Nat} {ca12 : List Value} {a2 : Option Addr} {k2 : Nat} {a4 : Option Addr} {k4 : Nat} (h2 : SlAt cTPair V a2 k2 x1) (h4 : SlAt cTPair V a4 k4 x3) (hg6 : FnSpec2 Tryz.prog f6 ca6 V mkPair mkPair (fun (r : Int) => .int .i64 (r)) g6) (hg8 : FnSt1 Tryz.prog f8 ca8 V mkPair rel g8) (hg10 : FnSt1 Tryz.prog f10 ca10 V mkPair rel g10) (hg12 : FnSt2 Tryz.prog f12 ca12 V mkPair mkPair rel g12) {s r : σ} {r0 r1 r2 : RowD} (hrel : rel V s r0 r1 r2) (hF : mergeF x1 x3 g6 g8 g10 g12 s = some r) :
  SpecR Tryz.prog 67 [.slice a2 ((x1).length) (k2), .slice a4 ((x3).length) (k4), .func (.func f6) #[] ⟨ca6⟩, .func (.func f8) #[] ⟨ca8⟩, .func (.func f10) #[] ⟨ca10⟩, .func (.func f12) #[] ⟨ca12⟩] [r0, r1, r2] V (fun V' v rs' => v = .tuple ⟨[]⟩ ∧ ∃ q0 q1 q2, rs' = [q0, q1, q2] ∧ rel V' r q0 q1 q2) := by
 unfold mergeF at hF
 refine SpecR.enter (T := tyT) Tryz.func67 rfl (by kernel_rfl) rfl rfl rfl (M := [.row r0.x r0.cs r0.e r0.sz, .row r1.x r1.cs r1.e r1.sz, .row r2.x r2.cs r2.e r2.sz]) rfl ?_
 refine xr rfl ?_
 refine Exec.loop (fun n15 L' V' M' => ∃ (s : σ) (r0 r1 r2 : RowD) (x13 : Int) (x14 : Int), L' = [(0, .v (.slice a2 ((x1).length) (k2))), (1, .v (.slice a4 ((x3).length) (k4))), (2, .v (.func (.func f6) #[] ⟨ca6⟩)), (3, .v (.func (.func f8) #[] ⟨ca8⟩)), (4, .v (.func (.func f10) #[] ⟨ca10⟩)), (5, .v (.func (.func f12) #[] ⟨ca12⟩)), (12, .v (.int .i64 (x13))), (13, .v (.int .i64 (x14)))] ∧ M' = [.row r0.x r0.cs r0.e r0.sz, .row r1.x r1.cs r1.e r1.sz, .row r2.x r2.cs r2.e r2.sz] ∧ SlAt cTPair V' a2 k2 x1 ∧ SlAt cTPair V' a4 k4 x3 ∧ FnSpec2 Tryz.prog f6 ca6 V' mkPair mkPair (fun (r : Int) => .int .i64 (r)) g6 ∧ FnSt1 Tryz.prog f8 ca8 V' mkPair rel g8 ∧ FnSt1 Tryz.prog f10 ca10 V' mkPair rel g10 ∧ FnSt2 Tryz.prog f12 ca12 V' mkPair mkPair rel g12 ∧ rel V' s r0 r1 r2 ∧ mergeF_L1 x1 x3 g8 g10 g12 g6 n15 s x13 x14 = some r) ⟨(1000000 : Nat), [(0, .v (.slice a2 ((x1).length) (k2))), (1, .v (.slice a4 ((x3).length) (k4))), (2, .v (.func (.func f6) #[] ⟨ca6⟩)), (3, .v (.func (.func f8) #[] ⟨ca8⟩)), (4, .v (.func (.func f10) #[] ⟨ca10⟩)), (5, .v (.func (.func f12) #[] ⟨ca12⟩)), (12, .v (.int .i64 ((0 : Int)))), (13, .v (.int .i64 ((0 : Int))))], ⟨rfl, rfl, rfl, rfl, rfl, rfl, rfl, rfl, trivial⟩, s, r0, r1, r2, (0 : Int), (0 : Int), rfl, rfl, h2, h4, hg6, hg8, hg10, hg12, hrel, hF⟩ ?_
 clear hrel
 rintro n15 L' V16 M' ⟨s, r0, r1, r2, x13, x14, rfl, rfl, h17, h18, h19, h20, h21, h22, hrel, hF⟩
 rcases n15 with _ | n15
 ·exact absurd hF (by simp [mergeF_L1])
 rw [mergeF_L1] at hF
 refine xr rfl ?_
 rcases cond_some hF with ⟨hb, hF⟩ | ⟨hb, hF⟩
 ·refine Exec.ifT rfl hb ?_
  refine xr rfl ?_
  obtain ⟨J24, hJ24, hF⟩ := jn_some hF
  refine Exec.seam (fun L' V' M' => ∃ (x23 : Int), L' = [(0, .v (.slice a2 ((x1).length) (k2))), (1, .v (.slice a4 ((x3).length) (k4))), (2, .v (.func (.func f6) #[] ⟨ca6⟩)), (3, .v (.func (.func f8) #[] ⟨ca8⟩)), (4, .v (.func (.func f10) #[] ⟨ca10⟩)), (5, .v (.func (.func f12) #[] ⟨ca12⟩)), (12, .v (.int .i64 (x13))), (13, .v (.int .i64 (x14))), (14, .v (.int .i64 (x23)))] ∧ M' = [.row r0.x r0.cs r0.e r0.sz, .row r1.x r1.cs r1.e r1.sz, .row r2.x r2.cs r2.e r2.sz] ∧ SlAt cTPair V' a2 k2 x1 ∧ SlAt cTPair V' a4 k4 x3 ∧ FnSpec2 Tryz.prog f6 ca6 V' mkPair mkPair (fun (r : Int) => .int .i64 (r)) g6 ∧ FnSt1 Tryz.prog f8 ca8 V' mkPair rel g8 ∧ FnSt1 Tryz.prog f10 ca10 V' mkPair rel g10 ∧ FnSt2 Tryz.prog f12 ca12 V' mkPair mkPair rel g12 ∧ rel V' s r0 r1 r2 ∧ J24 x23 = some r) rfl ?_ ?_
  ·rintro L' V25 M' ⟨x23, rfl, rfl, h26, h27, h28, h29, h30, h31, hrel, hF⟩
   subst hJ24
   refine xr rfl ?_
   rcases cond_some hF with ⟨hb, hF⟩ | ⟨hb, hF⟩
   ·refine Exec.ifT rfl hb ?_
    refine xr rfl ?_
    obtain ⟨q32, hF⟩ := req_some hF
    obtain ⟨c33, hr33, hd33⟩ := SlAt.get h26 q32
    obtain rfl := hr33
    refine Exec.ia tyOk rfl rfl ⟨q32.1, q32.2, hd33.some⟩ ?_
    refine xr rfl ?_
    refine Exec.ld tyOk (x := .agg ⟨[.string ⟨⟨(atI x1 x13).Key⟩⟩, .int .i64 ((atI x1 x13).Val.Kind), .int .i64 ((atI x1 x13).Val.N), .string ⟨⟨(atI x1 x13).Val.S⟩⟩]⟩) rfl rfl hd33 rfl rfl ?_
    refine xr rfl ?_
    obtain ⟨x34, hx34, hF⟩ := bnd_some hF
    refine Exec.callR [0, 1, 2] (rs := [r0, r1, r2]) rfl rfl rfl rfl rfl rfl (h29 _ (VLe.refl _) s r0 r1 r2 _ _ hrel hx34) ?_
    rintro V50 _ _ hv50 ⟨rfl, q0, q1, q2, rfl, hrel2⟩
    refine ⟨_, rfl, ?_⟩
    refine xr rfl ?_
    exact Exec.round [(0, .v (.slice a2 ((x1).length) (k2))), (1, .v (.slice a4 ((x3).length) (k4))), (2, .v (.func (.func f6) #[] ⟨ca6⟩)), (3, .v (.func (.func f8) #[] ⟨ca8⟩)), (4, .v (.func (.func f10) #[] ⟨ca10⟩)), (5, .v (.func (.func f12) #[] ⟨ca12⟩)), (12, .v (.int .i64 ((IntKind.i64.wrap (x13 + (1 : Int)))))), (13, .v (.int .i64 (x14)))] ⟨rfl, rfl, rfl, rfl, rfl, rfl, rfl, rfl, trivial⟩ ⟨n15, Nat.lt_succ_self _, x34, q0, q1, q2, (IntKind.i64.wrap (x13 + (1 : Int))), x14, rfl, rfl, SlAt.mono h26 hv50, SlAt.mono h27 hv50, h28.mono hv50, h29.mono hv50, h30.mono hv50, h31.mono hv50, hrel2, hF⟩
   ·refine Exec.ifF rfl hb ?_
    refine xr rfl ?_
    rcases cond_some hF with ⟨hb, hF⟩ | ⟨hb, hF⟩
    ·refine Exec.ifT rfl hb ?_
     refine xr rfl ?_
     obtain ⟨q35, hF⟩ := req_some hF
     obtain ⟨c36, hr36, hd36⟩ := SlAt.get h27 q35
     obtain rfl := hr36
     refine Exec.ia tyOk rfl rfl ⟨q35.1, q35.2, hd36.some⟩ ?_
     refine xr rfl ?_
     refine Exec.ld tyOk (x := .agg ⟨[.string ⟨⟨(atI x3 x14).Key⟩⟩, .int .i64 ((atI x3 x14).Val.Kind), .int .i64 ((atI x3 x14).Val.N), .string ⟨⟨(atI x3 x14).Val.S⟩⟩]⟩) rfl rfl hd36 rfl rfl ?_
     refine xr rfl ?_
     obtain ⟨x37, hx37, hF⟩ := bnd_some hF
     refine Exec.callR [0, 1, 2] (rs := [r0, r1, r2]) rfl rfl rfl rfl rfl rfl (h30 _ (VLe.refl _) s r0 r1 r2 _ _ hrel hx37) ?_
     rintro V50 _ _ hv50 ⟨rfl, q0, q1, q2, rfl, hrel2⟩
     refine ⟨_, rfl, ?_⟩
     refine xr rfl ?_
     exact Exec.round [(0, .v (.slice a2 ((x1).length) (k2))), (1, .v (.slice a4 ((x3).length) (k4))), (2, .v (.func (.func f6) #[] ⟨ca6⟩)), (3, .v (.func (.func f8) #[] ⟨ca8⟩)), (4, .v (.func (.func f10) #[] ⟨ca10⟩)), (5, .v (.func (.func f12) #[] ⟨ca12⟩)), (12, .v (.int .i64 (x13))), (13, .v (.int .i64 ((IntKind.i64.wrap (x14 + (1 : Int))))))] ⟨rfl, rfl, rfl, rfl, rfl, rfl, rfl, rfl, trivial⟩ ⟨n15, Nat.lt_succ_self _, x37, q0, q1, q2, x13, (IntKind.i64.wrap (x14 + (1 : Int))), rfl, rfl, SlAt.mono h26 hv50, SlAt.mono h27 hv50, h28.mono hv50, h29.mono hv50, h30.mono hv50, h31.mono hv50, hrel2, hF⟩
    ·refine Exec.ifF rfl hb ?_
     refine xr rfl ?_
     refine Exec.drawsE tyOk [] [0, 1, 2] [(0, true), (1, true), (2, true), (3, true), (4, true), (5, true), (6, true), (7, true), (8, true), (9, false)] (by kernel_rfl) ?_
     refine xr rfl ?_
     obtain ⟨q38, hF⟩ := req_some hF
     obtain ⟨c39, hr39, hd39⟩ := SlAt.get h26 q38
     obtain rfl := hr39
     refine Exec.fia tyOk rfl rfl rfl ⟨q38.1, q38.2, hd39.some⟩ ?_
     refine xr rfl ?_
     refine Exec.fld tyOk (x := .agg ⟨[.string ⟨⟨(atI x1 x13).Key⟩⟩, .int .i64 ((atI x1 x13).Val.Kind), .int .i64 ((atI x1 x13).Val.N), .string ⟨⟨(atI x1 x13).Val.S⟩⟩]⟩) rfl rfl rfl hd39 rfl rfl ?_
     refine xr rfl ?_
     obtain ⟨q40, hF⟩ := req_some hF
     obtain ⟨c41, hr41, hd41⟩ := SlAt.get h27 q40
     obtain rfl := hr41
     refine Exec.fia tyOk rfl rfl rfl ⟨q40.1, q40.2, hd41.some⟩ ?_
     refine xr rfl ?_
     refine Exec.fld tyOk (x := .agg ⟨[.string ⟨⟨(atI x3 x14).Key⟩⟩, .int .i64 ((atI x3 x14).Val.Kind), .int .i64 ((atI x3 x14).Val.N), .string ⟨⟨(atI x3 x14).Val.S⟩⟩]⟩) rfl rfl rfl hd41 rfl rfl ?_
     refine xr rfl ?_
     obtain ⟨x42, hx42, hF⟩ := bnd_some hF
     refine Exec.callR [0, 1, 2] (rs := [r0, r1, r2]) rfl rfl rfl rfl rfl rfl (h31 _ (VLe.refl _) s r0 r1 r2 _ _ _ hrel hx42) ?_
     rintro V50 _ _ hv50 ⟨rfl, q0, q1, q2, rfl, hrel2⟩
     refine ⟨_, rfl, ?_⟩
     refine xr rfl ?_
     exact Exec.round [(0, .v (.slice a2 ((x1).length) (k2))), (1, .v (.slice a4 ((x3).length) (k4))), (2, .v (.func (.func f6) #[] ⟨ca6⟩)), (3, .v (.func (.func f8) #[] ⟨ca8⟩)), (4, .v (.func (.func f10) #[] ⟨ca10⟩)), (5, .v (.func (.func f12) #[] ⟨ca12⟩)), (12, .v (.int .i64 ((IntKind.i64.wrap (x13 + (1 : Int)))))), (13, .v (.int .i64 ((IntKind.i64.wrap (x14 + (1 : Int))))))] ⟨rfl, rfl, rfl, rfl, rfl, rfl, rfl, rfl, trivial⟩ ⟨n15, Nat.lt_succ_self _, x42, q0, q1, q2, (IntKind.i64.wrap (x13 + (1 : Int))), (IntKind.i64.wrap (x14 + (1 : Int))), rfl, rfl, SlAt.mono h26 hv50, SlAt.mono h27 hv50, h28.mono hv50, h29.mono hv50, h30.mono hv50, h31.mono hv50, hrel2, hF⟩
  ·refine xr rfl ?_
   rcases cond_some hF with ⟨hb, hF⟩ | ⟨hb, hF⟩
   ·refine Exec.ifT rfl hb ?_
    refine xr rfl ?_
    exact Exec.round [(0, .v (.slice a2 ((x1).length) (k2))), (1, .v (.slice a4 ((x3).length) (k4))), (2, .v (.func (.func f6) #[] ⟨ca6⟩)), (3, .v (.func (.func f8) #[] ⟨ca8⟩)), (4, .v (.func (.func f10) #[] ⟨ca10⟩)), (5, .v (.func (.func f12) #[] ⟨ca12⟩)), (12, .v (.int .i64 (x13))), (13, .v (.int .i64 (x14))), (14, .v (.int .i64 ((1 : Int))))] ⟨rfl, rfl, rfl, rfl, rfl, rfl, rfl, rfl, rfl, trivial⟩ ⟨(1 : Int), rfl, rfl, h17, h18, h19, h20, h21, h22, hrel, hF⟩
   ·refine Exec.ifF rfl hb ?_
    refine xr rfl ?_
    rcases cond_some hF with ⟨hb, hF⟩ | ⟨hb, hF⟩
    ·refine Exec.ifT rfl hb ?_
     refine xr rfl ?_
     exact Exec.round [(0, .v (.slice a2 ((x1).length) (k2))), (1, .v (.slice a4 ((x3).length) (k4))), (2, .v (.func (.func f6) #[] ⟨ca6⟩)), (3, .v (.func (.func f8) #[] ⟨ca8⟩)), (4, .v (.func (.func f10) #[] ⟨ca10⟩)), (5, .v (.func (.func f12) #[] ⟨ca12⟩)), (12, .v (.int .i64 (x13))), (13, .v (.int .i64 (x14))), (14, .v (.int .i64 ((-1 : Int))))] ⟨rfl, rfl, rfl, rfl, rfl, rfl, rfl, rfl, rfl, trivial⟩ ⟨(-1 : Int), rfl, rfl, h17, h18, h19, h20, h21, h22, hrel, hF⟩
    ·refine Exec.ifF rfl hb ?_
     refine xr rfl ?_
     refine Exec.draws tyOk [(0, true), (1, true), (2, true), (3, true), (4, true), (5, true), (6, true), (7, true), (8, true), (9, false), (10, false)] rfl (by kernel_rfl) ?_
     refine xr rfl ?_
     obtain ⟨q43, hF⟩ := req_some hF
     obtain ⟨c44, hr44, hd44⟩ := SlAt.get h17 q43
     obtain rfl := hr44
     refine Exec.fia tyOk rfl rfl rfl ⟨q43.1, q43.2, hd44.some⟩ ?_
     refine xr rfl ?_
     refine Exec.fld tyOk (x := .agg ⟨[.string ⟨⟨(atI x1 x13).Key⟩⟩, .int .i64 ((atI x1 x13).Val.Kind), .int .i64 ((atI x1 x13).Val.N), .string ⟨⟨(atI x1 x13).Val.S⟩⟩]⟩) rfl rfl rfl hd44 rfl rfl ?_
     refine xr rfl ?_
     obtain ⟨q45, hF⟩ := req_some hF
     obtain ⟨c46, hr46, hd46⟩ := SlAt.get h18 q45
     obtain rfl := hr46
     refine Exec.fia tyOk rfl rfl rfl ⟨q45.1, q45.2, hd46.some⟩ ?_
     refine xr rfl ?_
     refine Exec.fld tyOk (x := .agg ⟨[.string ⟨⟨(atI x3 x14).Key⟩⟩, .int .i64 ((atI x3 x14).Val.Kind), .int .i64 ((atI x3 x14).Val.N), .string ⟨⟨(atI x3 x14).Val.S⟩⟩]⟩) rfl rfl rfl hd46 rfl rfl ?_
     refine xr rfl ?_
     obtain ⟨x47, hx47, hF⟩ := bnd_some hF
     refine Exec.callS (.int .i64 (x47)) rfl rfl (h19.at hx47) ?_
     refine xr rfl ?_
     exact Exec.round [(0, .v (.slice a2 ((x1).length) (k2))), (1, .v (.slice a4 ((x3).length) (k4))), (2, .v (.func (.func f6) #[] ⟨ca6⟩)), (3, .v (.func (.func f8) #[] ⟨ca8⟩)), (4, .v (.func (.func f10) #[] ⟨ca10⟩)), (5, .v (.func (.func f12) #[] ⟨ca12⟩)), (12, .v (.int .i64 (x13))), (13, .v (.int .i64 (x14))), (14, .v (.int .i64 (x47)))] ⟨rfl, rfl, rfl, rfl, rfl, rfl, rfl, rfl, rfl, trivial⟩ ⟨x47, rfl, rfl, h17, h18, h19, h20, h21, h22, hrel, hF⟩
 ·refine Exec.ifF rfl hb ?_
  refine xr rfl ?_
  obtain rfl := some_inj hF
  exact Exec.fall tyOk rfl rfl ⟨[r0, r1, r2], rfl, rfl, rfl, r0, r1, r2, rfl, hrel⟩
def F_placement_bound_L1 (x1 : Str) (J2 : Option Bool) : Nat → Int → Option Bool
 | 0, _ => none
 | n5 + 1, x4 => (cond (decide (x4 < ((x1).length : Int))) (req (0 ≤ x4 ∧ x4 < ((x1).length : Int)) (req ((((decide ((byteAt x1 (x4).toNat) < (33 : Int)))) == false) = true → 0 ≤ x4 ∧ x4 < ((x1).length : Int)) (cond ((decide ((byteAt x1 (x4).toNat) < (33 : Int))) || (decide ((126 : Int) < (byteAt x1 (x4).toNat)))) (some false) (F_placement_bound_L1 x1 J2 n5 ((IntKind.i64.wrap (x4 + (1 : Int)))))))) J2)
def F_placement_bound (x1 : Str) : Option Bool :=
 (jn ((some (decide (((x1).length : Int) ≤ (24 : Int))))) (fun J2 => (F_placement_bound_L1 x1 J2 ((((x1).length : Int)).toNat + 1) ((0 : Int)))))
theorem W_placement_bound {V : View} (x1 : Str)   {r : Bool} (hF : F_placement_bound x1 = some r) :
  Spec Tryz.prog 72 [.string ⟨⟨x1⟩⟩] V (fun _ v => v = .bool (r)) := by
 unfold F_placement_bound at hF
 refine Spec.enter (T := tyT) Tryz.func72 rfl (by kernel_rfl) rfl rfl rfl ?_
 refine Exec.run tyOk 9 rfl ?_
 obtain ⟨J2, hJ2, hF⟩ := jn_some hF
 refine Exec.seam (fun L' V' M' => L' = [(0, .v (.string ⟨⟨x1⟩⟩))] ∧ M' = [] ∧ J2 = some r) rfl ?_ ?_
 ·rintro L' V3 M' ⟨rfl, rfl, hF⟩
  subst hJ2
  refine xr rfl ?_
  obtain rfl := some_inj hF
  exact Exec.ret tyOk rfl rfl rfl
 ·refine xr rfl ?_
  refine Exec.loop (fun n5 L' V' M' => ∃ (x4 : Int), L' = [(0, .v (.string ⟨⟨x1⟩⟩)), (3, .v (.int .i64 (x4)))] ∧ M' = [] ∧ F_placement_bound_L1 x1 J2 n5 x4 = some r) ⟨((((x1).length : Int)).toNat + 1), [(0, .v (.string ⟨⟨x1⟩⟩)), (3, .v (.int .i64 ((0 : Int))))], ⟨rfl, rfl, trivial⟩, (0 : Int), rfl, rfl, hF⟩ ?_
  rintro n5 L' V6 M' ⟨x4, rfl, rfl, hF⟩
  rcases n5 with _ | n5
  ·exact absurd hF (by simp [F_placement_bound_L1])
  rw [F_placement_bound_L1] at hF
  refine xr rfl ?_
  rcases cond_some hF with ⟨hb, hF⟩ | ⟨hb, hF⟩
  ·refine Exec.ifT rfl hb ?_
   refine xr rfl ?_
   obtain ⟨q7, hF⟩ := req_some hF
   refine Exec.idx tyOk rfl rfl q7 ?_
   refine xr rfl ?_
   obtain ⟨q8, hF⟩ := req_some hF
   refine Exec.idx tyOk rfl rfl (fun gg0 => q8 (gd1_of gg0)) ?_
   refine xr rfl ?_
   rcases cond_some hF with ⟨hb, hF⟩ | ⟨hb, hF⟩
   ·refine Exec.ifT rfl hb ?_
    refine xr rfl ?_
    obtain rfl := some_inj hF
    exact Exec.ret tyOk rfl rfl rfl
   ·refine Exec.ifF rfl hb ?_
    refine xr rfl ?_
    exact Exec.round [(0, .v (.string ⟨⟨x1⟩⟩)), (3, .v (.int .i64 ((IntKind.i64.wrap (x4 + (1 : Int))))))] ⟨rfl, rfl, trivial⟩ ⟨n5, Nat.lt_succ_self _, (IntKind.i64.wrap (x4 + (1 : Int))), rfl, rfl, hF⟩
  ·refine Exec.ifF rfl hb ?_
   refine xr rfl ?_
   exact Exec.round [(0, .v (.string ⟨⟨x1⟩⟩))] ⟨rfl, trivial⟩ ⟨rfl, rfl, hF⟩
def F_placement_number (x1 : Int) : Option Bool :=
 (some ((decide ((1 : Int) ≤ x1)) && (decide (x1 ≤ (1099511627776 : Int)))))
theorem W_placement_number {V : View} (x1 : Int)   {r : Bool} (hF : F_placement_number x1 = some r) :
  Spec Tryz.prog 73 [.int .i64 (x1)] V (fun _ v => v = .bool (r)) := by
 unfold F_placement_number at hF
 refine Spec.enter (T := tyT) Tryz.func73 rfl (by kernel_rfl) rfl rfl rfl ?_
 refine xr rfl ?_
 obtain rfl := some_inj hF
 exact Exec.ret tyOk rfl rfl rfl
def F_placement_node (x1 : Int) : Option Bool :=
 (some ((decide ((1 : Int) ≤ x1)) && (decide (x1 ≤ (16 : Int)))))
theorem W_placement_node {V : View} (x1 : Int)   {r : Bool} (hF : F_placement_node x1 = some r) :
  Spec Tryz.prog 74 [.int .i64 (x1)] V (fun _ v => v = .bool (r)) := by
 unfold F_placement_node at hF
 refine Spec.enter (T := tyT) Tryz.func74 rfl (by kernel_rfl) rfl rfl rfl ?_
 refine xr rfl ?_
 obtain rfl := some_inj hF
 exact Exec.ret tyOk rfl rfl rfl
def F_placement_validMove (x1 : List TPart) (x3 : Int) : Option Bool :=
 (req (0 ≤ x3 ∧ x3 < ((x1).length : Int)) (cond ((atI x1 x3).Dest == (0 : Int)) (some ((atI x1 x3).Done == ([] : Str))) (bnd (F_placement_node ((atI x1 x3).Dest)) fun x6 => (bnd (gcall (((x6 && ((atI x1 x3).Dest != (atI x1 x3).Node))) == true) (F_placement_bound ((atI x1 x3).Done))) fun x7 => (req ((((((IntKind.i64.wrap (x3 + (1 : Int))) == (((x1).length : Nat) : Int))) == false) && (((((x6 && ((atI x1 x3).Dest != (atI x1 x3).Node)) && x7) && (!sLt (atI x1 x3).Done (atI x1 x3).From))) == true)) = true → 0 ≤ (IntKind.i64.wrap (x3 + (1 : Int))) ∧ (IntKind.i64.wrap (x3 + (1 : Int))) < ((x1).length : Int)) (some ((((x6 && ((atI x1 x3).Dest != (atI x1 x3).Node)) && x7) && (!sLt (atI x1 x3).Done (atI x1 x3).From)) && (((IntKind.i64.wrap (x3 + (1 : Int))) == (((x1).length : Nat) : Int)) || (sLt (atI x1 x3).Done (cond (((((IntKind.i64.wrap (x3 + (1 : Int))) == (((x1).length : Nat) : Int))) == false) && (((((x6 && ((atI x1 x3).Dest != (atI x1 x3).Node)) && x7) && (!sLt (atI x1 x3).Done (atI x1 x3).From))) == true)) (atI x1 ((IntKind.i64.wrap (x3 + (1 : Int))))) default).From)))))))))
theorem W_placement_validMove {V : View} (x1 : List TPart) (x3 : Int) {a2 : Option Addr} {k2 : Nat} (h2 : SlAt cTPart V a2 k2 x1) {r : Bool} (hF : F_placement_validMove x1 x3 = some r) :
  Spec Tryz.prog 75 [.slice a2 ((x1).length) (k2), .int .i64 (x3)] V (fun _ v => v = .bool (r)) := by
 unfold F_placement_validMove at hF
 refine Spec.enter (T := tyT) Tryz.func75 rfl (by kernel_rfl) rfl rfl rfl ?_
 refine xr rfl ?_
 obtain ⟨q4, hF⟩ := req_some hF
 obtain ⟨c5, hr5, hd5⟩ := SlAt.get h2 q4
 obtain rfl := hr5
 refine Exec.ia tyOk rfl rfl ⟨q4.1, q4.2, hd5.some⟩ ?_
 refine xr rfl ?_
 refine Exec.ld tyOk (x := .agg ⟨[.int .i64 ((atI x1 x3).Id), .string ⟨⟨(atI x1 x3).From⟩⟩, .int .i64 ((atI x1 x3).Node), .int .i64 ((atI x1 x3).Dest), .string ⟨⟨(atI x1 x3).Done⟩⟩]⟩) rfl rfl hd5 rfl rfl ?_
 refine xr rfl ?_
 rcases cond_some hF with ⟨hb, hF⟩ | ⟨hb, hF⟩
 ·refine Exec.ifT rfl hb ?_
  refine xr rfl ?_
  obtain rfl := some_inj hF
  exact Exec.ret tyOk rfl rfl rfl
 ·refine Exec.ifF rfl hb ?_
  refine xr rfl ?_
  refine Exec.draws tyOk [(0, true), (1, true), (2, false), (3, false), (4, true), (5, true), (6, false), (7, false), (8, false), (9, false), (10, false), (11, false), (12, false), (13, false), (14, false), (15, false), (16, true), (17, true), (18, false), (19, false), (20, false), (21, false), (22, false), (23, true), (24, true), (25, false), (26, false), (27, false), (28, false), (29, true), (30, true), (31, true), (32, false), (33, false), (34, false), (35, false), (36, false), (37, false), (38, false), (39, false), (40, false)] rfl (by kernel_rfl) ?_
  refine xr rfl ?_
  obtain ⟨x6, hx6, hF⟩ := bnd_some hF
  refine Exec.callS (.bool (x6)) rfl rfl (W_placement_node ((atI x1 x3).Dest)  hx6) ?_
  refine xr rfl ?_
  obtain ⟨x7, hx7, hF⟩ := bnd_some hF
  refine Exec.callS (.bool (x7)) rfl rfl (fun gg0 => W_placement_bound ((atI x1 x3).Done)  (gcall_some hx7 (gd1_of gg0))) ?_
  refine xr rfl ?_
  obtain ⟨q8, hF⟩ := req_some hF
  obtain ⟨c9, hr9, hd9⟩ := SlAt.gget (((((IntKind.i64.wrap (x3 + (1 : Int))) == (((x1).length : Nat) : Int))) == false) && (((((x6 && ((atI x1 x3).Dest != (atI x1 x3).Node)) && x7) && (!sLt (atI x1 x3).Done (atI x1 x3).From))) == true)) h2 q8
  obtain rfl := hr9
  refine Exec.ia tyOk rfl rfl (fun gg0 gg1 => ⟨(q8 (gd2_of gg0 gg1)).1, (q8 (gd2_of gg0 gg1)).2, (hd9 (gd2_of gg0 gg1)).some⟩) ?_
  refine xr rfl ?_
  refine Exec.ld tyOk (x := .string ⟨⟨(cond (((((IntKind.i64.wrap (x3 + (1 : Int))) == (((x1).length : Nat) : Int))) == false) && (((((x6 && ((atI x1 x3).Dest != (atI x1 x3).Node)) && x7) && (!sLt (atI x1 x3).Done (atI x1 x3).From))) == true)) (atI x1 ((IntKind.i64.wrap (x3 + (1 : Int))))) default).From⟩⟩) rfl rfl (fun gg0 gg1 => (RdAt.part (hd9 (gd2_of gg0 gg1)) 1 1 rfl)) rfl rfl ?_
  refine xr rfl ?_
  obtain rfl := some_inj hF
  exact Exec.ret tyOk rfl rfl rfl
def F_clockworkref29_Bound_L1 (x1 : Str) (J2 : Option Bool) : Nat → Int → Option Bool
 | 0, _ => none
 | n5 + 1, x4 => (cond (decide (x4 < ((x1).length : Int))) (req (0 ≤ x4 ∧ x4 < ((x1).length : Int)) (req ((((decide ((byteAt x1 (x4).toNat) < (33 : Int)))) == false) = true → 0 ≤ x4 ∧ x4 < ((x1).length : Int)) (cond ((decide ((byteAt x1 (x4).toNat) < (33 : Int))) || (decide ((126 : Int) < (byteAt x1 (x4).toNat)))) (some false) (F_clockworkref29_Bound_L1 x1 J2 n5 ((IntKind.i64.wrap (x4 + (1 : Int)))))))) J2)
def F_clockworkref29_Bound (x1 : Str) : Option Bool :=
 (cond (decide ((24 : Int) < ((x1).length : Int))) (some false) (jn ((some true)) (fun J2 => (F_clockworkref29_Bound_L1 x1 J2 ((((x1).length : Int)).toNat + 1) ((0 : Int))))))
theorem W_clockworkref29_Bound {V : View} (x1 : Str)   {r : Bool} (hF : F_clockworkref29_Bound x1 = some r) :
  Spec Tryz.prog 81 [.string ⟨⟨x1⟩⟩] V (fun _ v => v = .bool (r)) := by
 unfold F_clockworkref29_Bound at hF
 refine Spec.enter (T := tyT) Tryz.func81 rfl (by kernel_rfl) rfl rfl rfl ?_
 refine xr rfl ?_
 rcases cond_some hF with ⟨hb, hF⟩ | ⟨hb, hF⟩
 ·refine Exec.ifT rfl hb ?_
  refine xr rfl ?_
  obtain rfl := some_inj hF
  exact Exec.ret tyOk rfl rfl rfl
 ·refine Exec.ifF rfl hb ?_
  refine Exec.run tyOk 6 rfl ?_
  obtain ⟨J2, hJ2, hF⟩ := jn_some hF
  refine Exec.seam (fun L' V' M' => L' = [] ∧ M' = [] ∧ J2 = some r) rfl ?_ ?_
  ·rintro L' V3 M' ⟨rfl, rfl, hF⟩
   subst hJ2
   refine xr rfl ?_
   obtain rfl := some_inj hF
   exact Exec.ret tyOk rfl rfl rfl
  ·refine xr rfl ?_
   refine Exec.loop (fun n5 L' V' M' => ∃ (x4 : Int), L' = [(0, .v (.string ⟨⟨x1⟩⟩)), (3, .v (.int .i64 (x4)))] ∧ M' = [] ∧ F_clockworkref29_Bound_L1 x1 J2 n5 x4 = some r) ⟨((((x1).length : Int)).toNat + 1), [(0, .v (.string ⟨⟨x1⟩⟩)), (3, .v (.int .i64 ((0 : Int))))], ⟨rfl, rfl, trivial⟩, (0 : Int), rfl, rfl, hF⟩ ?_
   rintro n5 L' V6 M' ⟨x4, rfl, rfl, hF⟩
   rcases n5 with _ | n5
   ·exact absurd hF (by simp [F_clockworkref29_Bound_L1])
   rw [F_clockworkref29_Bound_L1] at hF
   refine xr rfl ?_
   rcases cond_some hF with ⟨hb, hF⟩ | ⟨hb, hF⟩
   ·refine Exec.ifT rfl hb ?_
    refine xr rfl ?_
    obtain ⟨q7, hF⟩ := req_some hF
    refine Exec.idx tyOk rfl rfl q7 ?_
    refine xr rfl ?_
    obtain ⟨q8, hF⟩ := req_some hF
    refine Exec.idx tyOk rfl rfl (fun gg0 => q8 (gd1_of gg0)) ?_
    refine xr rfl ?_
    rcases cond_some hF with ⟨hb, hF⟩ | ⟨hb, hF⟩
    ·refine Exec.ifT rfl hb ?_
     refine xr rfl ?_
     obtain rfl := some_inj hF
     exact Exec.ret tyOk rfl rfl rfl
    ·refine Exec.ifF rfl hb ?_
     refine xr rfl ?_
     exact Exec.round [(0, .v (.string ⟨⟨x1⟩⟩)), (3, .v (.int .i64 ((IntKind.i64.wrap (x4 + (1 : Int))))))] ⟨rfl, rfl, trivial⟩ ⟨n5, Nat.lt_succ_self _, (IntKind.i64.wrap (x4 + (1 : Int))), rfl, rfl, hF⟩
   ·refine Exec.ifF rfl hb ?_
    refine xr rfl ?_
    exact Exec.round [] trivial ⟨rfl, rfl, hF⟩
def F_clockworkref29_moves (x1 : TPart) (x2 : Str) (x3 : Bool) : Option Bool :=
 (cond (x1.Dest == (0 : Int)) (some (x1.Done == ([] : Str))) (bnd (gcall (((((decide ((1 : Int) ≤ x1.Dest)) && (decide (x1.Dest ≤ (16 : Int)))) && (x1.Dest != x1.Node))) == true) (F_clockworkref29_Bound x1.Done)) fun x4 => (some ((((((decide ((1 : Int) ≤ x1.Dest)) && (decide (x1.Dest ≤ (16 : Int)))) && (x1.Dest != x1.Node)) && x4) && (!sLt x1.Done x1.From)) && (x3 || (sLt x1.Done x2))))))
theorem W_clockworkref29_moves {V : View} (x1 : TPart) (x2 : Str) (x3 : Bool)   {r : Bool} (hF : F_clockworkref29_moves x1 x2 x3 = some r) :
  Spec Tryz.prog 82 [.agg ⟨[.int .i64 (x1.Id), .string ⟨⟨x1.From⟩⟩, .int .i64 (x1.Node), .int .i64 (x1.Dest), .string ⟨⟨x1.Done⟩⟩]⟩, .string ⟨⟨x2⟩⟩, .bool (x3)] V (fun _ v => v = .bool (r)) := by
 unfold F_clockworkref29_moves at hF
 refine Spec.enter (T := tyT) Tryz.func82 rfl (by kernel_rfl) rfl rfl rfl ?_
 refine xr rfl ?_
 rcases cond_some hF with ⟨hb, hF⟩ | ⟨hb, hF⟩
 ·refine Exec.ifT rfl hb ?_
  refine xr rfl ?_
  obtain rfl := some_inj hF
  exact Exec.ret tyOk rfl rfl rfl
 ·refine Exec.ifF rfl hb ?_
  refine xr rfl ?_
  obtain ⟨x4, hx4, hF⟩ := bnd_some hF
  refine Exec.callS (.bool (x4)) rfl rfl (fun gg0 => W_clockworkref29_Bound x1.Done  (gcall_some hx4 (gd1_of gg0))) ?_
  refine xr rfl ?_
  obtain rfl := some_inj hF
  exact Exec.ret tyOk rfl rfl rfl
def F_clockworkref04_Valid_L1 (x1 : Str) (J2 : Option Bool) : Nat → Int → Option Bool
 | 0, _ => none
 | n5 + 1, x4 => (cond (decide (x4 < ((x1).length : Int))) (req (0 ≤ x4 ∧ x4 < ((x1).length : Int)) (cond (((((((decide ((byteAt x1 (x4).toNat) < (97 : Int))) || (decide ((122 : Int) < (byteAt x1 (x4).toNat)))) && ((decide ((byteAt x1 (x4).toNat) < (48 : Int))) || (decide ((57 : Int) < (byteAt x1 (x4).toNat))))) && ((byteAt x1 (x4).toNat) != (47 : Int))) && ((byteAt x1 (x4).toNat) != (46 : Int))) && ((byteAt x1 (x4).toNat) != (95 : Int))) && ((byteAt x1 (x4).toNat) != (45 : Int))) (some false) (F_clockworkref04_Valid_L1 x1 J2 n5 ((IntKind.i64.wrap (x4 + (1 : Int))))))) J2)
def F_clockworkref04_Valid (x1 : Str) : Option Bool :=
 (jn ((some ((decide ((1 : Int) ≤ ((x1).length : Int))) && (decide (((x1).length : Int) ≤ (24 : Int)))))) (fun J2 => (F_clockworkref04_Valid_L1 x1 J2 ((((x1).length : Int)).toNat + 1) ((0 : Int)))))
theorem W_clockworkref04_Valid {V : View} (x1 : Str)   {r : Bool} (hF : F_clockworkref04_Valid x1 = some r) :
  Spec Tryz.prog 83 [.string ⟨⟨x1⟩⟩] V (fun _ v => v = .bool (r)) := by
 unfold F_clockworkref04_Valid at hF
 refine Spec.enter (T := tyT) Tryz.func83 rfl (by kernel_rfl) rfl rfl rfl ?_
 refine Exec.run tyOk 9 rfl ?_
 obtain ⟨J2, hJ2, hF⟩ := jn_some hF
 refine Exec.seam (fun L' V' M' => L' = [(0, .v (.string ⟨⟨x1⟩⟩))] ∧ M' = [] ∧ J2 = some r) rfl ?_ ?_
 ·rintro L' V3 M' ⟨rfl, rfl, hF⟩
  subst hJ2
  refine xr rfl ?_
  obtain rfl := some_inj hF
  exact Exec.ret tyOk rfl rfl rfl
 ·refine xr rfl ?_
  refine Exec.loop (fun n5 L' V' M' => ∃ (x4 : Int), L' = [(0, .v (.string ⟨⟨x1⟩⟩)), (3, .v (.int .i64 (x4)))] ∧ M' = [] ∧ F_clockworkref04_Valid_L1 x1 J2 n5 x4 = some r) ⟨((((x1).length : Int)).toNat + 1), [(0, .v (.string ⟨⟨x1⟩⟩)), (3, .v (.int .i64 ((0 : Int))))], ⟨rfl, rfl, trivial⟩, (0 : Int), rfl, rfl, hF⟩ ?_
  rintro n5 L' V6 M' ⟨x4, rfl, rfl, hF⟩
  rcases n5 with _ | n5
  ·exact absurd hF (by simp [F_clockworkref04_Valid_L1])
  rw [F_clockworkref04_Valid_L1] at hF
  refine xr rfl ?_
  rcases cond_some hF with ⟨hb, hF⟩ | ⟨hb, hF⟩
  ·refine Exec.ifT rfl hb ?_
   refine xr rfl ?_
   obtain ⟨q7, hF⟩ := req_some hF
   refine Exec.idx tyOk rfl rfl q7 ?_
   refine xr rfl ?_
   rcases cond_some hF with ⟨hb, hF⟩ | ⟨hb, hF⟩
   ·refine Exec.ifT rfl hb ?_
    refine xr rfl ?_
    obtain rfl := some_inj hF
    exact Exec.ret tyOk rfl rfl rfl
   ·refine Exec.ifF rfl hb ?_
    refine xr rfl ?_
    exact Exec.round [(0, .v (.string ⟨⟨x1⟩⟩)), (3, .v (.int .i64 ((IntKind.i64.wrap (x4 + (1 : Int))))))] ⟨rfl, rfl, trivial⟩ ⟨n5, Nat.lt_succ_self _, (IntKind.i64.wrap (x4 + (1 : Int))), rfl, rfl, hF⟩
  ·refine Exec.ifF rfl hb ?_
   refine xr rfl ?_
   exact Exec.round [(0, .v (.string ⟨⟨x1⟩⟩))] ⟨rfl, trivial⟩ ⟨rfl, rfl, hF⟩
def F_clockworkref29_Find_L1 (x1 : TPlacement) (x3 : Int) (J4 : Option Int) : Nat → Int → Option Int
 | 0, _ => none
 | n7 + 1, x6 => (cond (decide (x6 < (((x1.Parts).length : Nat) : Int))) (req (0 ≤ x6 ∧ x6 < ((x1.Parts).length : Int)) (cond ((atI x1.Parts x6).Id == x3) (some x6) (F_clockworkref29_Find_L1 x1 x3 J4 n7 ((IntKind.i64.wrap (x6 + (1 : Int))))))) J4)
def F_clockworkref29_Find (x1 : TPlacement) (x3 : Int) : Option Int :=
 (jn ((some (-1 : Int))) (fun J4 => (F_clockworkref29_Find_L1 x1 x3 J4 (((((x1.Parts).length : Nat) : Int)).toNat + 1) ((0 : Int)))))
theorem W_clockworkref29_Find {V : View} (x1 : TPlacement) (x3 : Int) {a2 : Option Addr} {k2 : Nat} (h2 : SlAt cTPart V a2 k2 x1.Parts) {r : Int} (hF : F_clockworkref29_Find x1 x3 = some r) :
  Spec Tryz.prog 84 [.agg ⟨[.int .i64 (x1.Version), .slice a2 ((x1.Parts).length) (k2)]⟩, .int .i64 (x3)] V (fun _ v => v = .int .i64 (r)) := by
 unfold F_clockworkref29_Find at hF
 refine Spec.enter (T := tyT) Tryz.func84 rfl (by kernel_rfl) rfl rfl rfl ?_
 refine Exec.run tyOk 10 rfl ?_
 obtain ⟨J4, hJ4, hF⟩ := jn_some hF
 refine Exec.seam (fun L' V' M' => L' = [] ∧ M' = [] ∧ J4 = some r) rfl ?_ ?_
 ·rintro L' V5 M' ⟨rfl, rfl, hF⟩
  subst hJ4
  refine xr rfl ?_
  obtain rfl := some_inj hF
  exact Exec.ret tyOk rfl rfl rfl
 ·refine xr rfl ?_
  refine Exec.loop (fun n7 L' V' M' => ∃ (x6 : Int), L' = [(1, .v (.int .i64 (x3))), (2, .ptr 0 0), (5, .v (.int .i64 (x6)))] ∧ M' = [.blk [.v (.int .i64 (x1.Version)), .v (.slice a2 ((x1.Parts).length) (k2))] 24] ∧ SlAt cTPart V' a2 k2 x1.Parts ∧ F_clockworkref29_Find_L1 x1 x3 J4 n7 x6 = some r) ⟨(((((x1.Parts).length : Nat) : Int)).toNat + 1), [(1, .v (.int .i64 (x3))), (2, .ptr 0 0), (5, .v (.int .i64 ((0 : Int))))], ⟨rfl, rfl, rfl, trivial⟩, (0 : Int), rfl, rfl, h2, hF⟩ ?_
  rintro n7 L' V8 M' ⟨x6, rfl, rfl, h9, hF⟩
  rcases n7 with _ | n7
  ·exact absurd hF (by simp [F_clockworkref29_Find_L1])
  rw [F_clockworkref29_Find_L1] at hF
  refine xr rfl ?_
  rcases cond_some hF with ⟨hb, hF⟩ | ⟨hb, hF⟩
  ·refine Exec.ifT rfl hb ?_
   refine xr rfl ?_
   obtain ⟨q10, hF⟩ := req_some hF
   obtain ⟨c11, hr11, hd11⟩ := SlAt.get h9 q10
   obtain rfl := hr11
   refine Exec.ia tyOk rfl rfl ⟨q10.1, q10.2, hd11.some⟩ ?_
   refine xr rfl ?_
   refine Exec.ld tyOk (x := .int .i64 ((atI x1.Parts x6).Id)) rfl rfl (RdAt.part hd11 0 1 rfl) rfl rfl ?_
   refine xr rfl ?_
   rcases cond_some hF with ⟨hb, hF⟩ | ⟨hb, hF⟩
   ·refine Exec.ifT rfl hb ?_
    refine xr rfl ?_
    obtain rfl := some_inj hF
    exact Exec.ret tyOk rfl rfl rfl
   ·refine Exec.ifF rfl hb ?_
    refine xr rfl ?_
    exact Exec.round [(1, .v (.int .i64 (x3))), (2, .ptr 0 0), (5, .v (.int .i64 ((IntKind.i64.wrap (x6 + (1 : Int))))))] ⟨rfl, rfl, rfl, trivial⟩ ⟨n7, Nat.lt_succ_self _, (IntKind.i64.wrap (x6 + (1 : Int))), rfl, rfl, h9, hF⟩
  ·refine Exec.ifF rfl hb ?_
   refine xr rfl ?_
   refine Exec.cut 0 [] (M' := []) rfl trivial rfl rfl rfl ?_
   exact Exec.round [] trivial ⟨rfl, rfl, hF⟩
end Go.Proofs.YtglnnhmmipopiaaGreat
