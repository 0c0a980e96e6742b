/-
 Functions of the program as their counterparts say them (printed by a program).
 Conditions: none.
-/
import Derived.Test.YtglnnhmmipopiaaGreatHa
set_option linter.all false
namespace Go.Proofs.YtglnnhmmipopiaaGreat
set_option maxRecDepth 100000
def F_clockworkref29_end (x1 : TPlacement) (x3 : Int) : Option Str :=
 (cond (decide ((IntKind.i64.wrap (x3 + (1 : Int))) < (((x1.Parts).length : Nat) : Int))) (req (0 ≤ (IntKind.i64.wrap (x3 + (1 : Int))) ∧ (IntKind.i64.wrap (x3 + (1 : Int))) < ((x1.Parts).length : Int)) (some (atI x1.Parts ((IntKind.i64.wrap (x3 + (1 : Int))))).From)) (some ([] : Str)))
def F_clockworkref33_with (x1 : TPlacement) (x3 : Int) (x4 : TPart) : Option TPlacement :=
 (req (true = true → 0 ≤ (0 : Int) ∧ (0 : Int) ≤ x3 ∧ x3 ≤ ((x1.Parts).length : Int)) (req (((([] : List TPart) ++ (cond true ((x1.Parts.take (x3).toNat).drop ((0 : Int)).toNat) ([] : List TPart)))).length * 56 ≤ 140737488355328) (req ((((([] : List TPart) ++ (cond true ((x1.Parts.take (x3).toNat).drop ((0 : Int)).toNat) ([] : List TPart))) ++ [x4])).length * 56 ≤ 140737488355328) (req (true = true → 0 ≤ (IntKind.i64.wrap (x3 + (1 : Int))) ∧ (IntKind.i64.wrap (x3 + (1 : Int))) ≤ (((x1.Parts).length : Nat) : Int) ∧ (((x1.Parts).length : Nat) : Int) ≤ ((x1.Parts).length : Int)) (req (((((([] : List TPart) ++ (cond true ((x1.Parts.take (x3).toNat).drop ((0 : Int)).toNat) ([] : List TPart))) ++ [x4]) ++ (cond true ((x1.Parts.take ((((x1.Parts).length : Nat) : Int)).toNat).drop ((IntKind.i64.wrap (x3 + (1 : Int)))).toNat) ([] : List TPart)))).length * 56 ≤ 140737488355328) (some (⟨(IntKind.i64.wrap (x1.Version + (1 : Int))), (((([] : List TPart) ++ (cond true ((x1.Parts.take (x3).toNat).drop ((0 : Int)).toNat) ([] : List TPart))) ++ [x4]) ++ (cond true ((x1.Parts.take ((((x1.Parts).length : Nat) : Int)).toNat).drop ((IntKind.i64.wrap (x3 + (1 : Int)))).toNat) ([] : List TPart)))⟩ : TPlacement)))))))
def F_heat_convert_api_Heat_string_L1 (x1 : List THeat) (g4 : THeat → Option (Str × Bool)) (J8 : (List Str) → Option (List Str)) : Nat → (List Str) → Int → Option (List Str)
 | 0, _, _ => none
 | n14 + 1, x12, x13 => (cond (decide (x13 < (((x1).length : Nat) : Int))) (req (0 ≤ x13 ∧ x13 < ((x1).length : Int)) (bnd (g4 ((atI x1 x13))) fun x20 => (jn (fun (x22 : List Str) => (F_heat_convert_api_Heat_string_L1 x1 g4 J8 n14 x22 ((IntKind.i64.wrap (x13 + (1 : Int)))))) (fun J23 => (cond x20.2 (req (((x12 ++ [x20.1])).length * 16 ≤ 140737488355328) (J23 ((x12 ++ [x20.1])))) (J23 x12)))))) (J8 x12))
def F_heat_convert_api_Heat_string (x1 : List THeat) (g4 : THeat → Option (Str × Bool)) : Option (List Str) :=
 (jn (fun (x7 : List Str) => (some x7)) (fun J8 => (F_heat_convert_api_Heat_string_L1 x1 g4 J8 (((((x1).length : Nat) : Int)).toNat + 1) (([] : List Str)) ((0 : Int)))))
theorem W_heat_convert_api_Heat_string {V : View} (x1 : List THeat) (g4 : THeat → Option (Str × Bool)) {f4 : Nat} {ca4 : List Value} {a2 : Option Addr} {k2 : Nat} (h2 : SlAt cTHeat V a2 k2 x1) (hg4 : FnSpec1 Tryz.prog f4 ca4 V (fun (y : THeat) => .agg ⟨[.string ⟨⟨y.Key⟩⟩, .int .i64 (y.Count)]⟩) (fun (r : Str × Bool) => .tuple ⟨[.string ⟨⟨r.1⟩⟩, .bool (r.2)]⟩) g4) {r : List Str} (hF : F_heat_convert_api_Heat_string x1 g4 = some r) :
  Spec Tryz.prog 91 [.slice a2 ((x1).length) (k2), .func (.func f4) #[] ⟨ca4⟩] V (fun V' v => ∃ (a29 : Option Addr) (k29 : Nat), v = .slice a29 ((r).length) (k29) ∧ SlAt cStr V' a29 k29 r) := by
 unfold F_heat_convert_api_Heat_string at hF
 refine Spec.enter (T := tyT) Tryz.func91 rfl (by kernel_rfl) rfl rfl rfl ?_
 refine Exec.run tyOk 15 rfl ?_
 refine Exec.row0 9 1 rfl ?_
 have h5 : RowRep cStr V ([] : List Str) [] := RowRep.nil
 obtain ⟨J8, hJ8, hF⟩ := jn_some hF
 refine Exec.seam (fun L' V' M' => ∃ (x7 : List Str) (a6 : Option Addr) (k6 : Nat) (cs6 : List Value), L' = [(5, .v (.slice a6 ((x7).length) (k6)))] ∧ M' = [.row (.slice a6 ((x7).length) (k6)) cs6 9 1] ∧ RowRep cStr V' x7 cs6 ∧ J8 x7 = some r) rfl ?_ ?_
 ·rintro L' V9 M' ⟨x7, a6, k6, cs6, rfl, rfl, h6, hF⟩
  subst hJ8
  refine xr rfl ?_
  refine Exec.frz 0 rfl rfl rfl (fun V10 hv10 hd10 hn10 => ?_)
  have hz10 := RowRep.slat h6 hv10 hd10 hn10
  obtain rfl := some_inj hF
  exact Exec.ret tyOk rfl rfl ⟨_, _, rfl, hz10⟩
 ·refine xr rfl ?_
  refine Exec.loop (fun n14 L' V' M' => ∃ (x12 : List Str) (a11 : Option Addr) (k11 : Nat) (cs11 : List Value) (x13 : Int), L' = [(1, .v (.func (.func f4) #[] ⟨ca4⟩)), (5, .v (.slice a11 ((x12).length) (k11))), (10, .v (.slice a2 ((x1).length) (k2))), (11, .v (.int .i64 ((((x1).length : Nat) : Int)))), (12, .v (.int .i64 (x13)))] ∧ M' = [.row (.slice a11 ((x12).length) (k11)) cs11 9 1] ∧ RowRep cStr V' x12 cs11 ∧ FnSpec1 Tryz.prog f4 ca4 V' (fun (y : THeat) => .agg ⟨[.string ⟨⟨y.Key⟩⟩, .int .i64 (y.Count)]⟩) (fun (r : Str × Bool) => .tuple ⟨[.string ⟨⟨r.1⟩⟩, .bool (r.2)]⟩) g4 ∧ SlAt cTHeat V' a2 k2 x1 ∧ F_heat_convert_api_Heat_string_L1 x1 g4 J8 n14 x12 x13 = some r) ⟨(((((x1).length : Nat) : Int)).toNat + 1), [(1, .v (.func (.func f4) #[] ⟨ca4⟩)), (5, .v (.slice none ((([] : List Str)).length) (0))), (10, .v (.slice a2 ((x1).length) (k2))), (11, .v (.int .i64 ((((x1).length : Nat) : Int)))), (12, .v (.int .i64 ((0 : Int))))], ⟨rfl, rfl, rfl, rfl, rfl, trivial⟩, ([] : List Str), none, 0, [], (0 : Int), rfl, rfl, h5, hg4, h2, hF⟩ ?_
  rintro n14 L' V15 M' ⟨x12, a11, k11, cs11, x13, rfl, rfl, h11, h16, h17, hF⟩
  rcases n14 with _ | n14
  ·exact absurd hF (by simp [F_heat_convert_api_Heat_string_L1])
  rw [F_heat_convert_api_Heat_string_L1] at hF
  refine xr rfl ?_
  rcases cond_some hF with ⟨hb, hF⟩ | ⟨hb, hF⟩
  ·refine Exec.ifT rfl hb ?_
   refine xr rfl ?_
   obtain ⟨q18, hF⟩ := req_some hF
   obtain ⟨c19, hr19, hd19⟩ := SlAt.get h17 q18
   obtain rfl := hr19
   refine Exec.ia tyOk rfl rfl ⟨q18.1, q18.2, hd19.some⟩ ?_
   refine xr rfl ?_
   refine Exec.ld tyOk (x := .agg ⟨[.string ⟨⟨(atI x1 x13).Key⟩⟩, .int .i64 ((atI x1 x13).Count)]⟩) rfl rfl hd19 rfl rfl ?_
   refine xr rfl ?_
   obtain ⟨x20, hx20, hF⟩ := bnd_some hF
   refine Exec.callS (.tuple ⟨[.string ⟨⟨x20.1⟩⟩, .bool (x20.2)]⟩) rfl rfl (h16.at hx20) ?_
   refine xr rfl ?_
   obtain ⟨J23, hJ23, hF⟩ := jn_some hF
   refine Exec.seam (fun L' V' M' => ∃ (x22 : List Str) (a21 : Option Addr) (k21 : Nat) (cs21 : List Value), L' = [(1, .v (.func (.func f4) #[] ⟨ca4⟩)), (5, .v (.slice a21 ((x22).length) (k21))), (10, .v (.slice a2 ((x1).length) (k2))), (11, .v (.int .i64 ((((x1).length : Nat) : Int)))), (12, .v (.int .i64 (x13)))] ∧ M' = [.row (.slice a21 ((x22).length) (k21)) cs21 9 1] ∧ RowRep cStr V' x22 cs21 ∧ FnSpec1 Tryz.prog f4 ca4 V' (fun (y : THeat) => .agg ⟨[.string ⟨⟨y.Key⟩⟩, .int .i64 (y.Count)]⟩) (fun (r : Str × Bool) => .tuple ⟨[.string ⟨⟨r.1⟩⟩, .bool (r.2)]⟩) g4 ∧ SlAt cTHeat V' a2 k2 x1 ∧ J23 x22 = some r) rfl ?_ ?_
   ·rintro L' V24 M' ⟨x22, a21, k21, cs21, rfl, rfl, h21, h25, h26, hF⟩
    subst hJ23
    refine xr rfl ?_
    exact Exec.round [(1, .v (.func (.func f4) #[] ⟨ca4⟩)), (5, .v (.slice a21 ((x22).length) (k21))), (10, .v (.slice a2 ((x1).length) (k2))), (11, .v (.int .i64 ((((x1).length : Nat) : Int)))), (12, .v (.int .i64 ((IntKind.i64.wrap (x13 + (1 : Int))))))] ⟨rfl, rfl, rfl, rfl, rfl, trivial⟩ ⟨n14, Nat.lt_succ_self _, x22, a21, k21, cs21, (IntKind.i64.wrap (x13 + (1 : Int))), rfl, rfl, h21, h25, h26, hF⟩
   ·refine xr rfl ?_
    rcases cond_some hF with ⟨hb, hF⟩ | ⟨hb, hF⟩
    ·refine Exec.ifT rfl hb ?_
     refine xr rfl ?_
     refine Exec.bsl tyOk rfl rfl ?_
     refine xr rfl ?_
     obtain ⟨q28, hF⟩ := req_some hF
     refine Exec.app tyOk 0 2 (nm := ((x12 ++ [x20.1])).length) rfl rfl rfl rfl rfl rfl rfl rfl rfl (by simp) (fun _ _ => rfl) rfl q28 (fun a27 k27 => ?_)
     have h27 : RowRep cStr V15 (x12 ++ [x20.1]) (cs11 ++ [.string ⟨⟨x20.1⟩⟩]) := RowRep.app h11 ⟨_, _, rfl, rfl, rfl⟩
     refine xr rfl ?_
     refine Exec.cut 1 [(1, .v (.func (.func f4) #[] ⟨ca4⟩)), (5, .v (.slice a27 (((x12 ++ [x20.1])).length) (k27))), (10, .v (.slice a2 ((x1).length) (k2))), (11, .v (.int .i64 ((((x1).length : Nat) : Int)))), (12, .v (.int .i64 (x13)))] (M' := [.row (.slice a27 (((x12 ++ [x20.1])).length) (k27)) ((cs11 ++ [.string ⟨⟨x20.1⟩⟩])) 9 1]) rfl ⟨rfl, rfl, rfl, rfl, rfl, trivial⟩ rfl rfl rfl ?_
     exact Exec.round [(1, .v (.func (.func f4) #[] ⟨ca4⟩)), (5, .v (.slice a27 (((x12 ++ [x20.1])).length) (k27))), (10, .v (.slice a2 ((x1).length) (k2))), (11, .v (.int .i64 ((((x1).length : Nat) : Int)))), (12, .v (.int .i64 (x13)))] ⟨rfl, rfl, rfl, rfl, rfl, trivial⟩ ⟨(x12 ++ [x20.1]), a27, k27, (cs11 ++ [.string ⟨⟨x20.1⟩⟩]), rfl, rfl, h27, h16, h17, hF⟩
    ·refine Exec.ifF rfl hb ?_
     refine xr rfl ?_
     refine Exec.cut 1 [(1, .v (.func (.func f4) #[] ⟨ca4⟩)), (5, .v (.slice a11 ((x12).length) (k11))), (10, .v (.slice a2 ((x1).length) (k2))), (11, .v (.int .i64 ((((x1).length : Nat) : Int)))), (12, .v (.int .i64 (x13)))] (M' := [.row (.slice a11 ((x12).length) (k11)) cs11 9 1]) rfl ⟨rfl, rfl, rfl, rfl, rfl, trivial⟩ rfl rfl rfl ?_
     exact Exec.round [(1, .v (.func (.func f4) #[] ⟨ca4⟩)), (5, .v (.slice a11 ((x12).length) (k11))), (10, .v (.slice a2 ((x1).length) (k2))), (11, .v (.int .i64 ((((x1).length : Nat) : Int)))), (12, .v (.int .i64 (x13)))] ⟨rfl, rfl, rfl, rfl, rfl, trivial⟩ ⟨x12, a11, k11, cs11, rfl, rfl, h11, h16, h17, hF⟩
  ·refine Exec.ifF rfl hb ?_
   refine xr rfl ?_
   exact Exec.round [(5, .v (.slice a11 ((x12).length) (k11)))] ⟨rfl, trivial⟩ ⟨x12, a11, k11, cs11, rfl, rfl, h11, hF⟩
def F_heat_Hot_1 (x1 : THeat) (x2 : Int) : Option (Str × Bool) :=
 (some (x1.Key, (decide (x2 ≤ x1.Count))))
theorem W_heat_Hot_1 {V : View} (x1 : THeat) (x2 : Int) {b0 o0 : Nat} (hc0 : RdAt V (some ⟨b0, o0, none⟩) 0 [.int .i64 (x2)]) {r : Str × Bool} (hF : F_heat_Hot_1 x1 x2 = some r) :
  Spec Tryz.prog 92 [.agg ⟨[.string ⟨⟨x1.Key⟩⟩, .int .i64 (x1.Count)]⟩, .pointer (some ⟨b0, o0, none⟩)] V (fun _ v => v = .tuple ⟨[.string ⟨⟨r.1⟩⟩, .bool (r.2)]⟩) := by
 unfold F_heat_Hot_1 at hF
 refine Spec.enter (T := tyT) Tryz.func92 rfl (by kernel_rfl) rfl rfl rfl ?_
 refine xr rfl ?_
 refine Exec.draws tyOk [(0, true), (1, true), (2, true), (3, true), (4, true), (5, true), (6, true), (7, true)] rfl (by kernel_rfl) ?_
 refine xr rfl ?_
 refine Exec.fld tyOk (x := .int .i64 (x2)) rfl rfl rfl hc0 rfl rfl ?_
 refine xr rfl ?_
 obtain rfl := some_inj hF
 exact Exec.ret tyOk rfl rfl rfl
def F_clockworkref35_fresh_L1 (x1 : TPlacement) (J4 : Int → Option Int) : Nat → Int → Option Int
 | 0, _ => none
 | n7 + 1, x6 => (bnd (F_clockworkref29_Find x1 x6) fun x10 => (cond (decide ((0 : Int) ≤ x10)) (F_clockworkref35_fresh_L1 x1 J4 n7 ((IntKind.i64.wrap (x6 + (1 : Int))))) (J4 x6)))
def F_clockworkref35_fresh (x1 : TPlacement) : Option Int :=
 (jn (fun (x3 : Int) => (some x3)) (fun J4 => (F_clockworkref35_fresh_L1 x1 J4 (1000000 : Nat) ((1 : Int)))))
theorem W_clockworkref35_fresh {V : View} (x1 : TPlacement) {a2 : Option Addr} {k2 : Nat} (h2 : SlAt cTPart V a2 k2 x1.Parts) {r : Int} (hF : F_clockworkref35_fresh x1 = some r) :
  Spec Tryz.prog 95 [.agg ⟨[.int .i64 (x1.Version), .slice a2 ((x1.Parts).length) (k2)]⟩] V (fun _ v => v = .int .i64 (r)) := by
 unfold F_clockworkref35_fresh at hF
 refine Spec.enter (T := tyT) Tryz.func95 rfl (by kernel_rfl) rfl rfl rfl ?_
 refine Exec.run tyOk 10 rfl ?_
 obtain ⟨J4, hJ4, hF⟩ := jn_some hF
 refine Exec.seam (fun L' V' M' => ∃ (x3 : Int), L' = [(3, .v (.int .i64 (x3)))] ∧ M' = [] ∧ J4 x3 = some r) rfl ?_ ?_
 ·rintro L' V5 M' ⟨x3, rfl, rfl, hF⟩
  subst hJ4
  refine xr rfl ?_
  obtain rfl := some_inj hF
  exact Exec.ret tyOk rfl rfl rfl
 ·refine xr rfl ?_
  refine Exec.loop (fun n7 L' V' M' => ∃ (x6 : Int), L' = [(1, .ptr 0 0), (3, .v (.int .i64 (x6)))] ∧ M' = [.blk [.v (.int .i64 (x1.Version)), .v (.slice a2 ((x1.Parts).length) (k2))] 24] ∧ SlAt cTPart V' a2 k2 x1.Parts ∧ F_clockworkref35_fresh_L1 x1 J4 n7 x6 = some r) ⟨(1000000 : Nat), [(1, .ptr 0 0), (3, .v (.int .i64 ((1 : Int))))], ⟨rfl, rfl, trivial⟩, (1 : Int), rfl, rfl, h2, hF⟩ ?_
  rintro n7 L' V8 M' ⟨x6, rfl, rfl, h9, hF⟩
  rcases n7 with _ | n7
  ·exact absurd hF (by simp [F_clockworkref35_fresh_L1])
  rw [F_clockworkref35_fresh_L1] at hF
  refine xr rfl ?_
  obtain ⟨x10, hx10, hF⟩ := bnd_some hF
  refine Exec.callS (.int .i64 (x10)) rfl rfl (W_clockworkref29_Find x1 x6 h9 hx10) ?_
  refine xr rfl ?_
  rcases cond_some hF with ⟨hb, hF⟩ | ⟨hb, hF⟩
  ·refine Exec.ifT rfl hb ?_
   refine xr rfl ?_
   exact Exec.round [(1, .ptr 0 0), (3, .v (.int .i64 ((IntKind.i64.wrap (x6 + (1 : Int))))))] ⟨rfl, rfl, trivial⟩ ⟨n7, Nat.lt_succ_self _, (IntKind.i64.wrap (x6 + (1 : Int))), rfl, rfl, h9, hF⟩
  ·refine Exec.ifF rfl hb ?_
   refine xr rfl ?_
   refine Exec.cut 0 [(3, .v (.int .i64 (x6)))] (M' := []) rfl ⟨rfl, trivial⟩ rfl rfl rfl ?_
   exact Exec.round [(3, .v (.int .i64 (x6)))] ⟨rfl, trivial⟩ ⟨x6, rfl, rfl, hF⟩
def F_clockworkref35_pairs_L1 (x1 : List TShard) (x3 : Int) (J4 : Option Int) : Nat → Int → Option Int
 | 0, _ => none
 | n7 + 1, x6 => (cond (decide (x6 < (((x1).length : Nat) : Int))) (req (0 ≤ x6 ∧ x6 < ((x1).length : Int)) (cond ((atI x1 x6).Node == x3) (req (0 ≤ x6 ∧ x6 < ((x1).length : Int)) (some ((((atI x1 x6).Pairs).length : Nat) : Int))) (F_clockworkref35_pairs_L1 x1 x3 J4 n7 ((IntKind.i64.wrap (x6 + (1 : Int))))))) J4)
def F_clockworkref35_pairs (x1 : List TShard) (x3 : Int) : Option Int :=
 (jn ((some (0 : Int))) (fun J4 => (F_clockworkref35_pairs_L1 x1 x3 J4 (((((x1).length : Nat) : Int)).toNat + 1) ((0 : Int)))))
theorem W_clockworkref35_pairs {V : View} (x1 : List TShard) (x3 : Int) {a2 : Option Addr} {k2 : Nat} (h2 : SlAt cTShard V a2 k2 x1) {r : Int} (hF : F_clockworkref35_pairs x1 x3 = some r) :
  Spec Tryz.prog 97 [.slice a2 ((x1).length) (k2), .int .i64 (x3)] V (fun _ v => v = .int .i64 (r)) := by
 unfold F_clockworkref35_pairs at hF
 refine Spec.enter (T := tyT) Tryz.func97 rfl (by kernel_rfl) rfl rfl rfl ?_
 refine Exec.run tyOk 9 rfl ?_
 obtain ⟨J4, hJ4, hF⟩ := jn_some hF
 refine Exec.seam (fun L' V' M' => L' = [] ∧ M' = [] ∧ J4 = some r) rfl ?_ ?_
 ·rintro L' V5 M' ⟨rfl, rfl, hF⟩
  subst hJ4
  refine xr rfl ?_
  obtain rfl := some_inj hF
  exact Exec.ret tyOk rfl rfl rfl
 ·refine xr rfl ?_
  refine Exec.loop (fun n7 L' V' M' => ∃ (x6 : Int), L' = [(0, .v (.slice a2 ((x1).length) (k2))), (1, .v (.int .i64 (x3))), (5, .v (.int .i64 (x6)))] ∧ M' = [] ∧ SlAt cTShard V' a2 k2 x1 ∧ F_clockworkref35_pairs_L1 x1 x3 J4 n7 x6 = some r) ⟨(((((x1).length : Nat) : Int)).toNat + 1), [(0, .v (.slice a2 ((x1).length) (k2))), (1, .v (.int .i64 (x3))), (5, .v (.int .i64 ((0 : Int))))], ⟨rfl, rfl, rfl, trivial⟩, (0 : Int), rfl, rfl, h2, hF⟩ ?_
  rintro n7 L' V8 M' ⟨x6, rfl, rfl, h9, hF⟩
  rcases n7 with _ | n7
  ·exact absurd hF (by simp [F_clockworkref35_pairs_L1])
  rw [F_clockworkref35_pairs_L1] at hF
  refine xr rfl ?_
  rcases cond_some hF with ⟨hb, hF⟩ | ⟨hb, hF⟩
  ·refine Exec.ifT rfl hb ?_
   refine xr rfl ?_
   obtain ⟨q10, hF⟩ := req_some hF
   obtain ⟨c11, hr11, hd11⟩ := SlAt.get h9 q10
   obtain ⟨a12, k12, rfl, h12⟩ := hr11
   refine Exec.ia tyOk rfl rfl ⟨q10.1, q10.2, hd11.some⟩ ?_
   refine xr rfl ?_
   refine Exec.ld tyOk (x := .int .i64 ((atI x1 x6).Node)) rfl rfl (RdAt.part hd11 0 1 rfl) rfl rfl ?_
   refine xr rfl ?_
   rcases cond_some hF with ⟨hb, hF⟩ | ⟨hb, hF⟩
   ·refine Exec.ifT rfl hb ?_
    refine xr rfl ?_
    obtain ⟨q13, hF⟩ := req_some hF
    obtain ⟨c14, hr14, hd14⟩ := SlAt.get h9 q13
    obtain ⟨a15, k15, rfl, h15⟩ := hr14
    refine Exec.ia tyOk rfl rfl ⟨q13.1, q13.2, hd14.some⟩ ?_
    refine xr rfl ?_
    refine Exec.ld tyOk (x := .slice a15 (((atI x1 x6).Pairs).length) (k15)) rfl rfl (RdAt.part hd14 1 1 rfl) rfl rfl ?_
    refine xr rfl ?_
    obtain rfl := some_inj hF
    exact Exec.ret tyOk rfl rfl rfl
   ·refine Exec.ifF rfl hb ?_
    refine xr rfl ?_
    exact Exec.round [(0, .v (.slice a2 ((x1).length) (k2))), (1, .v (.int .i64 (x3))), (5, .v (.int .i64 ((IntKind.i64.wrap (x6 + (1 : Int))))))] ⟨rfl, rfl, rfl, trivial⟩ ⟨n7, Nat.lt_succ_self _, (IntKind.i64.wrap (x6 + (1 : Int))), rfl, rfl, h9, hF⟩
  ·refine Exec.ifF rfl hb ?_
   refine xr rfl ?_
   exact Exec.round [] trivial ⟨rfl, rfl, hF⟩
theorem W_slices_Insert_api_Part_api_Part {V : View} (x : List TPart) (y : TPart) {a : Option Addr} {c b : Nat} {cs ds : List Value} (hr : RowRep cTPart V x cs) (hy : RowRep cTPart V [y] ds) {i : Int} (hi : 0 ≤ i ∧ i ≤ (x.length : Int)) (hb : (x.length + 1) * 56 ≤ 140737488355328) :
  SpecR Tryz.prog 99 [.slice a x.length c, .int .i64 i, .slice (some ⟨b, 0, none⟩) 1 1] [⟨.slice a x.length c, cs, 60, 5⟩, ⟨.slice (some ⟨b, 0, none⟩) 1 1, ds, 60, 5⟩] V
   (fun V' v rs' => ∃ a' k' cs' r2, v = .slice a' (x.take i.toNat ++ [y] ++ x.drop i.toNat).length k' ∧ rs' = [⟨.slice a' (x.take i.toNat ++ [y] ++ x.drop i.toNat).length k', cs', 60, 5⟩, r2] ∧ RowRep cTPart V' (x.take i.toNat ++ [y] ++ x.drop i.toNat) cs') := by
 have hlen : (x.take i.toNat ++ [y] ++ x.drop i.toNat).length = x.length + 1 := by simp; omega
 rw [hlen]
 have hone := hr.ones
 have hone2 := hy.ones
 have hsz : cTPart.sz = 5 := rfl
 have hdl : ds.length = 5 := by simpa [hsz] using hy.len
 have hcl : cs.length = x.length * 5 := hr.len
 have hW : ∀ n : Int, 0 ≤ n → n ≤ 9223372036854775807 → IntKind.i64.wrap n = n := fun n h h' => w64 (by omega) h'
 refine SpecR.enter (T := tyT) Tryz.func99 rfl (by kernel_rfl) rfl rfl rfl rfl ?_
 refine Exec.rowA 0 rfl (fun r1 r2 r3 r4 r5 => ?_)
 have r3' : c ≤ 9223372036854775807 := r3
 refine xr rfl ?_
 refine Exec.slx tyOk rfl rfl (lo := i) (hi := (x.length : Int)) rfl rfl ⟨by omega, by omega, by omega⟩ (lo' := i.toNat) rfl rfl rfl ?_
 refine xr rfl ?_
 refine Exec.ifF rfl rfl ?_
 refine xr rfl ?_
 cases hb1 : (i == (x.length : Int))
 case true =>
  have he : i = (x.length : Int) := by simpa using hb1
  refine Exec.ifT rfl rfl ?_
  refine xr rfl ?_
  refine Exec.appJ tyOk 0 rfl rfl rfl rfl rfl rfl (.row 1 (off := 0) rfl (l := ds) (fun j v hv => by simpa using hv)) hone2 (by simpa using hdl) (nm := x.length + 1) rfl (fun _ => rfl) rfl hb (fun a' c' => ?_)
  refine xr rfl ?_
  refine Exec.ret tyOk rfl rfl ?_
  dsimp only
  refine ⟨[⟨.slice a' (x.length + 1) c', cs ++ ds, 60, 5⟩, _], rfl, rfl, a', c', cs ++ ds, _, rfl, rfl, ?_⟩
  have : x.take i.toNat ++ [y] ++ x.drop i.toNat = x ++ [y] := by rw [he]; simp
  rw [this]
  exact hr.app hy
 case false =>
  have hlt : i < (x.length : Int) := by simp at hb1; omega
  obtain ⟨g, rfl⟩ : ∃ g, a = some ⟨g, 0, none⟩ := by
   cases a with
   | none => have := (r4 rfl).1; omega
   | some p => obtain ⟨g, rfl⟩ := r5 p rfl; exact ⟨g, rfl⟩
  have hin : i.toNat < x.length := by omega
  have ei : ((i.toNat : Nat) : Int) = i := Int.toNat_of_nonneg hi.1
  have hfin : RowRep cTPart V (x.take i.toNat ++ [y] ++ x.drop i.toNat) (cs.take (i.toNat * 5) ++ ds ++ cs.drop (i.toNat * 5)) := ((hr.take i.toNat).app hy).app (hr.drop i.toNat)
  have e0 : slAd (some ⟨g, 0, none⟩) c 0 5 = some ⟨g, 0, none⟩ := by simp [slAd, Addr.add_lit]
  refine Exec.ifF rfl rfl ?_
  refine xr rfl ?_
  have ew : IntKind.i64.wrap ((x.length : Int) + ((1 : Nat) : Int)) = ((x.length + 1 : Nat) : Int) := by rw [hW _ (by omega) (by omega)]; omega
  cases hb2 : decide ((c : Int) < IntKind.i64.wrap ((x.length : Int) + ((1 : Nat) : Int)))
  case true =>
   -- no room
   have hc : c < x.length + 1 := by rw [ew] at hb2; simp at hb2; omega
   refine Exec.ifT rfl rfl ?_
   refine xr rfl ?_
   refine Exec.slx tyOk rfl rfl (lo := 0) (hi := i) rfl rfl ⟨by omega, by omega, by omega⟩ (lo' := 0) rfl (n' := i.toNat) (by omega) (c' := c) (by omega) ?_
   refine xr rfl ?_
   have eq : IntKind.i64.wrap (IntKind.i64.wrap ((x.length : Int) + ((1 : Nat) : Int)) - i) = ((x.length + 1 - i.toNat : Nat) : Int) := by
    rw [ew, hW _ (by omega) (by omega)]; omega
   have e5 : i.toNat + (x.length + 1 - i.toNat) = x.length + 1 := by omega
   refine Exec.apZ tyOk 0 rfl rfl rfl rfl rfl rfl rfl e0 rfl eq (by omega) rfl (by omega) (by omega) (by rw [e5]; exact hb) (nq := x.length + 1) e5 (fun _ => rfl) (fun b2 c2 => ?_)
   have hzl : (List.replicate (x.length + 1 - i.toNat) ([.int .i64 (0), .string ⟨⟨[]⟩⟩, .int .i64 (0), .int .i64 (0), .string ⟨⟨[]⟩⟩] : List Value)).flatten.length = (x.length + 1 - i.toNat) * 5 := by simp [List.length_flatten]
   refine xr rfl ?_
   refine Exec.rowA 2 rfl (fun s1 s2 s3 s4 s5 => ?_)
   refine Exec.slx tyOk rfl rfl (lo := i) (hi := ((x.length + 1 : Nat) : Int)) rfl rfl ⟨by omega, by omega, by omega⟩ (lo' := i.toNat) rfl (n' := x.length + 1 - i.toNat) (by omega) rfl ?_
   refine xr rfl ?_
   have a1 : slAd (some ⟨b2, 0, none⟩) c2 i.toNat 5 = some ⟨b2, i.toNat * 5, none⟩ := by simp only [slAd]; rw [if_neg (by omega)]; simp only [Option.map_some, Addr.add_lit, Nat.zero_add]
   refine Exec.cpR tyOk 2 rfl rfl rfl a1 rfl rfl (.row 1 (off := 0) rfl (l := ds) (fun j v hv => by simpa using hv)) (m := 1) (Nat.min_eq_left (by omega)) (by simpa using hdl) ?_ hone2 rfl rfl rfl ?_
   ·simp only [List.length_append, List.length_take, hdl]; rw [hzl]; show i.toNat * 5 + 5 ≤ min (i.toNat * 5) cs.length + (x.length + 1 - i.toNat) * 5; omega
   refine xr rfl ?_
   refine Exec.drawsE tyOk [] [2] [(0, true), (1, true), (2, true), (3, true), (4, true), (5, true), (6, true), (7, true), (8, false)] (by kernel_rfl) ?_
   refine xr rfl ?_
   have ew2 : IntKind.i64.wrap (i + ((1 : Nat) : Int)) = ((i.toNat + 1 : Nat) : Int) := by rw [hW _ (by omega) (by omega)]; omega
   refine Exec.fslx tyOk rfl rfl rfl (lo := IntKind.i64.wrap (i + ((1 : Nat) : Int))) (hi := ((x.length + 1 : Nat) : Int)) rfl rfl ⟨by omega, by omega, by omega⟩ (lo' := i.toNat + 1) (by omega) (n' := x.length - i.toNat) (by omega) rfl ?_
   refine xr rfl ?_
   refine Exec.fslx tyOk rfl rfl rfl (lo := i) (hi := (x.length : Int)) rfl rfl ⟨by omega, by omega, by omega⟩ (lo' := i.toNat) rfl (n' := x.length - i.toNat) (by omega) rfl ?_
   refine xr rfl ?_
   have a3 : slAd (some ⟨g, 0, none⟩) c i.toNat 5 = some ⟨g, i.toNat * 5, none⟩ := by simp only [slAd]; rw [if_neg (by omega)]; simp only [Option.map_some, Addr.add_lit, Nat.zero_add]
   have a2 : ∃ o2, (o2 = (i.toNat + 1) * 5 ∨ (x.length - i.toNat = 0)) ∧ slAd (some ⟨b2, 0, none⟩) c2 (i.toNat + 1) 5 = some ⟨b2, o2, none⟩ := by
    refine ⟨(i.toNat + 1) * 5, .inl rfl, ?_⟩
    simp only [slAd]; rw [if_neg (by omega)]; simp only [Option.map_some, Addr.add_lit, Nat.zero_add]
   obtain ⟨o2, ho2, a2⟩ := a2
   have ho2 : o2 = (i.toNat + 1) * 5 := by omega
   subst ho2
   refine Exec.cpR tyOk 2 rfl rfl rfl a2 rfl rfl (by rw [a3]; exact .row 0 (off := i.toNat * 5) rfl (l := cs.drop (i.toNat * 5)) (fun j v hv => by rwa [List.getElem?_drop] at hv)) (m := x.length - i.toNat) (Nat.min_self _) (by show (cs.drop (i.toNat * 5)).length = (x.length - i.toNat) * 5; simp; omega) ?_ (fun u hu => hone u (List.mem_of_mem_drop hu)) rfl rfl rfl ?_
   ·simp only [List.length_append, List.length_take, List.length_drop, hdl]; rw [hzl]; show (i.toNat + 1) * 5 + (cs.length - i.toNat * 5) ≤ _; omega
   refine xr rfl ?_
   have hfc := insZ_cells (cs := cs) (ds := ds) (n := x.length) (i := i.toNat) (sz := 5) hcl hdl hzl hin
   refine Exec.sel [2, 1] [(6, .v (.slice (some ⟨b2, 0, none⟩) (x.length + 1) c2))] rfl rfl rfl rfl ⟨⟨_, rfl, rfl⟩, trivial⟩ ?_
   refine Exec.ret tyOk rfl rfl ?_
   dsimp only
   refine ⟨[⟨.slice (some ⟨b2, 0, none⟩) (x.length + 1) c2, _, 60, 5⟩, _], rfl, rfl, _, c2, _, _, rfl, rfl, ?_⟩
   rw [← hfc] at hfin
   exact hfin
  case false =>
   have hc : x.length + 1 ≤ c := by rw [ew] at hb2; simp at hb2; omega
   refine Exec.ifF rfl rfl ?_
   refine xr rfl ?_
   refine Exec.slx tyOk rfl rfl (lo := 0) (hi := IntKind.i64.wrap ((x.length : Int) + ((1 : Nat) : Int))) rfl rfl ⟨by omega, by omega, by omega⟩ (lo' := 0) rfl (n' := x.length + 1) (by omega) (c' := c) (by omega) ?_
   refine xr rfl ?_
   refine Exec.rowEx 0 1 rfl hc (fun _ => rfl) rfl (fun js hjs => ?_)
   have hjs : js.length = 5 := by simpa using hjs
   have ew2 : IntKind.i64.wrap (i + ((1 : Nat) : Int)) = ((i.toNat + 1 : Nat) : Int) := by rw [hW _ (by omega) (by omega)]; omega
   refine Exec.slx tyOk rfl rfl (lo := IntKind.i64.wrap (i + ((1 : Nat) : Int))) (hi := ((x.length + 1 : Nat) : Int)) rfl rfl ⟨by omega, by omega, by omega⟩ (lo' := i.toNat + 1) (by omega) (n' := x.length - i.toNat) (by omega) rfl ?_
   refine xr rfl ?_
   have a2 : slAd (some ⟨g, 0, none⟩) c (i.toNat + 1) 5 = some ⟨g, (i.toNat + 1) * 5, none⟩ := by
    simp only [slAd]; rw [if_neg (by omega)]; simp only [Option.map_some, Addr.add_lit, Nat.zero_add]
   have a3 : slAd (some ⟨g, 0, none⟩) c i.toNat 5 = some ⟨g, i.toNat * 5, none⟩ := by simp only [slAd]; rw [if_neg (by omega)]; simp only [Option.map_some, Addr.add_lit, Nat.zero_add]
   rw [e0]
   refine Exec.ovl 0 1 (t := 22) (tb := 4) (e := 60) (ez := 5) rfl rfl rfl Tryz.func121 (by kernel_rfl) (by kernel_rfl) (by kernel_rfl) (by kernel_rfl) Tryz.underlying22 Tryz.sizeOf60 rfl a2 (by decide) ?_ rfl rfl ?_
   ·show 0 < c * 5; omega
   refine xr rfl ?_
   refine Exec.ifT rfl rfl ?_
   refine xr rfl ?_
   refine Exec.drawsE tyOk [] [0] [(0, true), (1, true), (2, true), (3, true), (4, true), (5, true), (6, true), (7, true), (8, false)] (by kernel_rfl) ?_
   refine xr rfl ?_
   refine Exec.fslx tyOk rfl rfl rfl (lo := IntKind.i64.wrap (i + ((1 : Nat) : Int))) (hi := ((x.length + 1 : Nat) : Int)) rfl rfl ⟨by omega, by omega, by omega⟩ (lo' := i.toNat + 1) (by omega) (n' := x.length - i.toNat) (by omega) rfl ?_
   refine xr rfl ?_
   refine Exec.fslx tyOk rfl rfl rfl (lo := i) (hi := ((x.length + 1 : Nat) : Int)) rfl rfl ⟨by omega, by omega, by omega⟩ (lo' := i.toNat) rfl (n' := x.length + 1 - i.toNat) (by omega) rfl ?_
   refine xr rfl ?_
   refine Exec.cpR tyOk 0 rfl rfl rfl a2 rfl rfl (by rw [a3]; exact .row 0 (off := i.toNat * 5) rfl (l := cs.drop (i.toNat * 5)) (fun j v hv => by
     rw [List.getElem?_drop] at hv
     rw [List.getElem?_append, if_pos (List.getElem?_eq_some_iff.1 hv).1]; exact hv)) (m := x.length - i.toNat) (Nat.min_eq_right (by omega)) (by show (cs.drop (i.toNat * 5)).length = (x.length - i.toNat) * 5; simp; omega) ?_ (fun u hu => hone u (List.mem_of_mem_drop hu)) rfl rfl rfl ?_
   ·simp only [List.length_append, List.length_drop]; omega
   refine xr rfl ?_
   refine Exec.slx tyOk rfl rfl (lo := i) (hi := ((x.length + 1 : Nat) : Int)) rfl rfl ⟨by omega, by omega, by omega⟩ (lo' := i.toNat) rfl (n' := x.length + 1 - i.toNat) (by omega) rfl ?_
   refine xr rfl ?_
   refine Exec.cpR tyOk 0 rfl rfl rfl a3 rfl rfl (.row 1 (off := 0) rfl (l := ds) (fun j v hv => by simpa using hv)) (m := 1) (Nat.min_eq_left (by omega)) (by simpa using hdl) ?_ hone2 rfl rfl rfl ?_
   ·simp only [List.length_append, List.length_take, List.length_drop, hdl]; omega
   refine xr rfl ?_
   refine Exec.ret tyOk rfl rfl ?_
   dsimp only
   refine ⟨[⟨.slice (some ⟨g, 0, none⟩) (x.length + 1) c, _, 60, 5⟩, _], rfl, rfl, _, c, _, _, rfl, rfl, ?_⟩
   have hfc := ins_cells (cs := cs) (ds := ds) (js := js) (n := x.length) (i := i.toNat) (sz := 5) hcl hdl hjs hin
   rw [← hfc] at hfin
   exact hfin
theorem W_slices_Clone_api_Part_api_Part {V : View} (x : List TPart) {a : Option Addr} {k : Nat} (h : SlAt cTPart V a k x) (hb : x.length * 56 ≤ 140737488355328) :
  SpecM Tryz.prog 100 [.slice a x.length k] ⟨.slice none 0 0, [], 60, 5⟩ V (fun V' v r' => ∃ a' k' cs', v = .slice a' x.length k' ∧ r' = ⟨.slice a' x.length k', cs', 60, 5⟩ ∧ RowRep cTPart V' x cs') := by
 refine SpecM.enter (T := tyT) Tryz.func100 rfl (by kernel_rfl) rfl rfl rfl ?_
 refine xr rfl ?_
 refine Exec.nilS tyOk rfl rfl ?_
 refine xr rfl ?_
 rcases hn : a.isNone with _ | _
 ·refine Exec.ifF rfl (by simp [hn]) ?_
  refine xr rfl ?_
  refine Exec.bsl tyOk rfl rfl ?_
  refine Exec.fixR 1 (n := 0) (sz := 5) rfl rfl rfl rfl rfl (fun _ => rfl) (fun _ => rfl) (fun _ => rfl) (fun b => ?_)
  refine xr rfl ?_
  refine Exec.appS tyOk (cd := cTPart) 1 (nm := x.length) rfl rfl rfl rfl rfl rfl h rfl (by simp) (fun _ _ _ => rfl) rfl hb (fun cs hs a' k' => ?_)
  refine xr rfl ?_
  refine Exec.ret tyOk rfl rfl ?_
  dsimp only
  exact RowEnd.at 1 rfl ⟨a', k', _, rfl, rfl, hs⟩
 ·refine Exec.ifT rfl (by simp [hn]) ?_
  refine xr rfl ?_
  have ha : a = none := by cases a <;> simp at hn ⊢
  have hx : x = [] := by
   cases x with
   | nil => rfl
   | cons y l =>
    obtain ⟨cs, h1, b, o, h2, _⟩ := h.2 0 y rfl
    rw [ha] at h2; simp at h2
  subst hx
  refine Exec.ret tyOk rfl rfl ?_
  dsimp only
  exact RowEnd.at 0 rfl ⟨none, 0, [], rfl, rfl, rfl⟩
theorem W_slices_Delete_api_Part_api_Part {V : View} (x : List TPart) {a : Option Addr} {c : Nat} {cs : List Value} (hr : RowRep cTPart V x cs) {i j : Int} (hij : 0 ≤ i ∧ i ≤ j ∧ j ≤ (x.length : Int)) (hx : x.length < 9223372036854775808) :
  SpecM Tryz.prog 101 [.slice a x.length c, .int .i64 i, .int .i64 j] ⟨.slice a x.length c, cs, 60, 5⟩ V (fun V' v r' => ∃ cs', v = .slice a (x.take i.toNat ++ x.drop j.toNat).length c ∧ r' = ⟨.slice a (x.take i.toNat ++ x.drop j.toNat).length c, cs', 60, 5⟩ ∧ RowRep cTPart V' (x.take i.toNat ++ x.drop j.toNat) cs') := by
 have hone := hr.ones
 have hsz : cTPart.sz = 5 := rfl
 refine SpecM.enter (T := tyT) Tryz.func101 rfl (by kernel_rfl) rfl rfl rfl ?_
 refine Exec.rowA 0 rfl (fun r1 r2 r3 r4 r5 => ?_)
 have r1 : cs.length = x.length * 5 := r1
 refine xr rfl ?_
 refine Exec.slx3 tyOk rfl rfl rfl rfl rfl rfl rfl ⟨hij.1, hij.2.1, hij.2.2, by omega⟩ rfl rfl rfl ?_
 refine xr rfl ?_
 cases hb : (i == j)
 ·have hne : i < j := by simp at hb; omega
  refine Exec.ifF rfl rfl ?_
  refine xr rfl ?_
  -- something is taken out: there is a row
  obtain ⟨g, rfl⟩ : ∃ g, a = some ⟨g, 0, none⟩ := by
   cases a with
   | none => have := (r4 rfl).1; omega
   | some p => obtain ⟨g, rfl⟩ := r5 p rfl; exact ⟨g, rfl⟩
  refine Exec.drawsE tyOk [] [0] [(0, true), (1, true), (2, true), (3, true), (4, true), (5, true), (6, false), (7, false)] (by kernel_rfl) ?_
  refine xr rfl ?_
  refine Exec.fslx tyOk rfl rfl rfl (lo := 0) (hi := i) rfl rfl ⟨by decide, hij.1, by omega⟩ (lo' := 0) rfl (n' := i.toNat) (by omega) (c' := c) (by omega) ?_
  refine xr rfl ?_
  refine Exec.fslx tyOk rfl rfl rfl (lo := j) (hi := (x.length : Int)) rfl rfl ⟨by omega, hij.2.2, by omega⟩ rfl (n' := x.length - j.toNat) (by omega) rfl ?_
  refine xr rfl ?_
  have e0 : slAd (some ⟨g, 0, none⟩) c 0 5 = some ⟨g, 0, none⟩ := by simp [slAd, Addr.add_lit]
  have hsrc : ∃ ad, slAd (some ⟨g, 0, none⟩) c j.toNat 5 = some ad ∧ Src [.row (.slice (some ⟨g, 0, none⟩) x.length c) cs 60 5] V (slAd (some ⟨g, 0, none⟩) c j.toNat 5) (cs.drop (j.toNat * 5)) := by
   by_cases hc : c = j.toNat
   ·have : cs.drop (j.toNat * 5) = [] := by rw [List.drop_eq_nil_iff]; omega
    rw [this]
    simp only [slAd, if_pos hc]
    exact ⟨_, rfl, .nil _⟩
   ·simp only [slAd, if_neg hc, Option.map_some, Addr.add_lit, Nat.zero_add]
    exact ⟨_, rfl, .row 0 rfl (fun jj v hv => by rwa [List.getElem?_drop] at hv)⟩
  obtain ⟨ad, ha2, hsrc⟩ := hsrc
  refine Exec.apIn tyOk 0 rfl rfl rfl e0 rfl ha2 rfl hsrc (by simp; omega) (by omega) (fun u hu => hone u (List.mem_of_mem_drop hu)) hone rfl rfl rfl ?_
  refine xr rfl ?_
  refine Exec.rowTr 0 (i.toNat + (x.length - j.toNat)) rfl (by omega) rfl rfl ?_
  refine Exec.slx tyOk rfl rfl (lo := ((i.toNat + (x.length - j.toNat) : Nat) : Int)) (hi := (x.length : Int)) rfl rfl ⟨by omega, by omega, by omega⟩ (lo' := i.toNat + (x.length - j.toNat)) (by omega) rfl rfl ?_
  refine xr rfl ?_
  refine Exec.clrR tyOk 0 rfl rfl rfl rfl ?_ rfl ?_ rfl (Nat.le_refl _) ?_ rfl rfl ?_
  ·decide
  ·simp only [slAd]; rw [if_neg (by omega)]; simp only [Option.map_some, Addr.add_lit, Nat.zero_add]
  ·show (i.toNat + (x.length - j.toNat)) * 5 + (((x.length : Nat) : Int).toNat - (i.toNat + (x.length - j.toNat))) * 5 ≤ c * 5; omega
  refine xr rfl ?_
  have hlen : (x.take i.toNat ++ x.drop j.toNat).length = i.toNat + (x.length - j.toNat) := by simp; omega
  rw [hlen]
  refine Exec.ret tyOk rfl rfl ?_
  dsimp only
  refine RowEnd.at 0 rfl ⟨_, rfl, rfl, ?_⟩
  have hcells : (cs.take (i.toNat * 5) ++ cs.drop (j.toNat * 5) ++ cs.drop (i.toNat * 5 + (cs.drop (j.toNat * 5)).length)).take ((i.toNat + (x.length - j.toNat)) * 5) = cs.take (i.toNat * 5) ++ cs.drop (j.toNat * 5) := by
   rw [List.take_left']
   simp only [List.length_append, List.length_take, List.length_drop]; omega
  rw [hcells]
  exact (hr.take i.toNat).app (hr.drop j.toNat)
 ·have he : i = j := by simpa using hb
  refine Exec.ifT rfl rfl ?_
  refine xr rfl ?_
  subst he
  rw [List.take_append_drop]
  refine Exec.ret tyOk rfl rfl ?_
  dsimp only
  exact RowEnd.at 0 rfl ⟨cs, rfl, rfl, hr⟩
def F_migrate_changed (x1 : TPlacement) (x3 : Int) (x4 : TPart) : Option TPlacement :=
 (req (0 ≤ (((x1.Parts).length : Nat) : Int) ∧ (((x1.Parts).length : Nat) : Int) ≤ (((x1.Parts).length : Nat) : Int)) (req (56 * ((((x1.Parts).length : Nat) : Int)).toNat ≤ 281474976710656) (req (0 ≤ x3 ∧ x3 < (((cpL x1.Parts ((List.replicate ((((x1.Parts).length : Nat) : Int)).toNat (default : TPart))))).length : Int)) (some (⟨(IntKind.i64.wrap (x1.Version + (1 : Int))), ((cpL x1.Parts ((List.replicate ((((x1.Parts).length : Nat) : Int)).toNat (default : TPart)))).set (x3).toNat x4)⟩ : TPlacement)))))
theorem W_migrate_changed {V : View} (x1 : TPlacement) (x3 : Int) (x4 : TPart) {a2 : Option Addr} {k2 : Nat} (h2 : SlAt cTPart V a2 k2 x1.Parts) {r : TPlacement} (hF : F_migrate_changed x1 x3 x4 = some r) :
  Spec Tryz.prog 103 [.agg ⟨[.int .i64 (x1.Version), .slice a2 ((x1.Parts).length) (k2)]⟩, .int .i64 (x3), .agg ⟨[.int .i64 (x4.Id), .string ⟨⟨x4.From⟩⟩, .int .i64 (x4.Node), .int .i64 (x4.Dest), .string ⟨⟨x4.Done⟩⟩]⟩] V (fun V' v => ∃ (a16 : Option Addr) (k16 : Nat), v = .agg ⟨[.int .i64 (r.Version), .slice a16 ((r.Parts).length) (k16)]⟩ ∧ SlAt cTPart V' a16 k16 r.Parts) := by
 unfold F_migrate_changed at hF
 refine Spec.enter (T := tyT) Tryz.func103 rfl (by kernel_rfl) rfl rfl rfl ?_
 refine xr rfl ?_
 obtain ⟨q5, hF⟩ := req_some hF
 obtain ⟨q6, hF⟩ := req_some hF
 refine Exec.mkr tyOk rfl rfl rfl rfl (nm := ((List.replicate ((((x1.Parts).length : Nat) : Int)).toNat (default : TPart))).length) (by simp) q5 q6 (fun _ => rfl) (fun a7 => ?_)
 have h7 : RowRep cTPart V (List.replicate ((((x1.Parts).length : Nat) : Int)).toNat (default : TPart)) ((List.replicate ((List.replicate ((((x1.Parts).length : Nat) : Int)).toNat (default : TPart))).length [.int .i64 (0), .string ⟨⟨[]⟩⟩, .int .i64 (0), .int .i64 (0), .string ⟨⟨[]⟩⟩]).flatten) := by rw [List.length_replicate]; exact RowRep.reps (c := cTPart) rfl _
 refine xr rfl ?_
 refine Exec.cpV tyOk (cd := cTPart) 3 rfl rfl rfl rfl rfl rfl h7 rfl h2 rfl (fun _ => rfl) rfl (fun cs8 h8 => ?_)
 refine xr rfl ?_
 obtain ⟨q9, hF⟩ := req_some hF
 refine Exec.rowI 3 rfl (fun ra10 rb10 rc10 => ?_)
 obtain ⟨c11, hr11, hd11⟩ := RowRep.get h8 q9
 obtain rfl := hr11
 have rd10 : 0 ≤ x3 ∧ x3 < ((((List.replicate ((((x1.Parts).length : Nat) : Int)).toNat (default : TPart))).length : Nat) : Int) := (by simpa using q9)
 have rs10 := rb10 (by omega)
 refine Exec.ia tyOk rfl rfl ⟨rd10.1, rd10.2, rs10⟩ ?_
 refine xr rfl ?_
 have rl12 := RowRep.len h8
 have h12 : RowRep cTPart V ((cpL x1.Parts ((List.replicate ((((x1.Parts).length : Nat) : Int)).toNat (default : TPart)))).set (x3).toNat x4) (cs8.take ((x3).toNat * 5) ++ [.int .i64 (x4.Id), .string ⟨⟨x4.From⟩⟩, .int .i64 (x4.Node), .int .i64 (x4.Dest), .string ⟨⟨x4.Done⟩⟩] ++ cs8.drop (((x3).toNat * 5) + 5)) := RowRep.set h8 q9 rfl
 refine Exec.stR tyOk 3 rfl rfl rfl rfl rfl rs10 (stB q9 rl12) rfl rfl rfl ?_
 refine xr rfl ?_
 refine Exec.frz 3 rfl rfl rfl (fun V13 hv13 hd13 hn13 => ?_)
 have hz13 := RowRep.slat h12 hv13 hd13 (Nat.le_trans (Nat.le_of_eq (by simp)) hn13)
 have h14 := SlAt.mono h2 hv13
 obtain rfl := some_inj hF
 exact Exec.ret tyOk rfl rfl ⟨_, _, (by simp [retV]), hz13⟩
def F_slices_IndexFunc_api_Pair_api_Pair_L1 (x1 : List TPair) (g4 : TPair → Option Bool) (J5 : Option Int) : Nat → Int → Option Int
 | 0, _ => none
 | n8 + 1, x7 => (cond (decide (x7 < (((x1).length : Nat) : Int))) (req (0 ≤ x7 ∧ x7 < ((x1).length : Int)) (bnd (g4 ((atI x1 x7))) fun x14 => (cond x14 (some x7) (F_slices_IndexFunc_api_Pair_api_Pair_L1 x1 g4 J5 n8 ((IntKind.i64.wrap (x7 + (1 : Int)))))))) J5)
def F_slices_IndexFunc_api_Pair_api_Pair (x1 : List TPair) (g4 : TPair → Option Bool) : Option Int :=
 (jn ((some (-1 : Int))) (fun J5 => (F_slices_IndexFunc_api_Pair_api_Pair_L1 x1 g4 J5 (((((x1).length : Nat) : Int)).toNat + 1) ((0 : Int)))))
theorem W_slices_IndexFunc_api_Pair_api_Pair {V : View} (x1 : List TPair) (g4 : TPair → Option Bool) {f4 : Nat} {ca4 : List Value} {a2 : Option Addr} {k2 : Nat} (h2 : SlAt cTPair V a2 k2 x1) (hg4 : FnSpec1 Tryz.prog f4 ca4 V (fun (y : TPair) => .agg ⟨[.string ⟨⟨y.Key⟩⟩, .int .i64 (y.Val.Kind), .int .i64 (y.Val.N), .string ⟨⟨y.Val.S⟩⟩]⟩) (fun (r : Bool) => .bool (r)) g4) {r : Int} (hF : F_slices_IndexFunc_api_Pair_api_Pair x1 g4 = some r) :
  Spec Tryz.prog 109 [.slice a2 ((x1).length) (k2), .func (.func f4) #[] ⟨ca4⟩] V (fun _ v => v = .int .i64 (r)) := by
 unfold F_slices_IndexFunc_api_Pair_api_Pair at hF
 refine Spec.enter (T := tyT) Tryz.func109 rfl (by kernel_rfl) rfl rfl rfl ?_
 refine Exec.run tyOk 11 rfl ?_
 obtain ⟨J5, hJ5, hF⟩ := jn_some hF
 refine Exec.seam (fun L' V' M' => L' = [] ∧ M' = [] ∧ J5 = some r) rfl ?_ ?_
 ·rintro L' V6 M' ⟨rfl, rfl, hF⟩
  subst hJ5
  refine xr rfl ?_
  obtain rfl := some_inj hF
  exact Exec.ret tyOk rfl rfl rfl
 ·refine xr rfl ?_
  refine Exec.loop (fun n8 L' V' M' => ∃ (x7 : Int), L' = [(0, .v (.slice a2 ((x1).length) (k2))), (1, .v (.func (.func f4) #[] ⟨ca4⟩)), (7, .v (.int .i64 ((((x1).length : Nat) : Int)))), (8, .v (.int .i64 (x7)))] ∧ M' = [] ∧ SlAt cTPair V' a2 k2 x1 ∧ FnSpec1 Tryz.prog f4 ca4 V' (fun (y : TPair) => .agg ⟨[.string ⟨⟨y.Key⟩⟩, .int .i64 (y.Val.Kind), .int .i64 (y.Val.N), .string ⟨⟨y.Val.S⟩⟩]⟩) (fun (r : Bool) => .bool (r)) g4 ∧ F_slices_IndexFunc_api_Pair_api_Pair_L1 x1 g4 J5 n8 x7 = some r) ⟨(((((x1).length : Nat) : Int)).toNat + 1), [(0, .v (.slice a2 ((x1).length) (k2))), (1, .v (.func (.func f4) #[] ⟨ca4⟩)), (7, .v (.int .i64 ((((x1).length : Nat) : Int)))), (8, .v (.int .i64 ((0 : Int))))], ⟨rfl, rfl, rfl, rfl, trivial⟩, (0 : Int), rfl, rfl, h2, hg4, hF⟩ ?_
  rintro n8 L' V9 M' ⟨x7, rfl, rfl, h10, h11, hF⟩
  rcases n8 with _ | n8
  ·exact absurd hF (by simp [F_slices_IndexFunc_api_Pair_api_Pair_L1])
  rw [F_slices_IndexFunc_api_Pair_api_Pair_L1] at hF
  refine xr rfl ?_
  rcases cond_some hF with ⟨hb, hF⟩ | ⟨hb, hF⟩
  ·refine Exec.ifT rfl hb ?_
   refine xr rfl ?_
   obtain ⟨q12, hF⟩ := req_some hF
   obtain ⟨c13, hr13, hd13⟩ := SlAt.get h10 q12
   obtain rfl := hr13
   refine Exec.ia tyOk rfl rfl ⟨q12.1, q12.2, hd13.some⟩ ?_
   refine xr rfl ?_
   refine Exec.ld tyOk (x := .agg ⟨[.string ⟨⟨(atI x1 x7).Key⟩⟩, .int .i64 ((atI x1 x7).Val.Kind), .int .i64 ((atI x1 x7).Val.N), .string ⟨⟨(atI x1 x7).Val.S⟩⟩]⟩) rfl rfl hd13 rfl rfl ?_
   refine xr rfl ?_
   obtain ⟨x14, hx14, hF⟩ := bnd_some hF
   refine Exec.callS (.bool (x14)) rfl rfl (h11.at hx14) ?_
   refine xr rfl ?_
   rcases cond_some hF with ⟨hb, hF⟩ | ⟨hb, hF⟩
   ·refine Exec.ifT rfl hb ?_
    refine xr rfl ?_
    obtain rfl := some_inj hF
    exact Exec.ret tyOk rfl rfl rfl
   ·refine Exec.ifF rfl hb ?_
    refine xr rfl ?_
    exact Exec.round [(0, .v (.slice a2 ((x1).length) (k2))), (1, .v (.func (.func f4) #[] ⟨ca4⟩)), (7, .v (.int .i64 ((((x1).length : Nat) : Int)))), (8, .v (.int .i64 ((IntKind.i64.wrap (x7 + (1 : Int))))))] ⟨rfl, rfl, rfl, rfl, trivial⟩ ⟨n8, Nat.lt_succ_self _, (IntKind.i64.wrap (x7 + (1 : Int))), rfl, rfl, h10, h11, hF⟩
  ·refine Exec.ifF rfl hb ?_
   refine xr rfl ?_
   exact Exec.round [] trivial ⟨rfl, rfl, hF⟩
def F_strings_Compare (x1 x2 : Str) : Option Int := some (Go.Lib.compareBytes x1 x2)
theorem W_strings_Compare {V : View} (x1 x2 : Str) {r : Int} (hF : F_strings_Compare x1 x2 = some r) :
  Spec Tryz.prog 110 [.string ⟨⟨x1⟩⟩, .string ⟨⟨x2⟩⟩] V (fun _ v => v = .int .i64 r) := by
 obtain rfl := some_inj hF
 exact Spec.pure ⟨_, Tryz.func110, by kernel_rfl, by kernel_rfl⟩ (fun w => Tryz.strings_Compare ⟨⟨x1⟩⟩ ⟨⟨x2⟩⟩ w)
def F_slices_IndexFunc_api_Part_api_Part_L1 (x1 : List TPart) (g4 : TPart → Option Bool) (J5 : Option Int) : Nat → Int → Option Int
 | 0, _ => none
 | n8 + 1, x7 => (cond (decide (x7 < (((x1).length : Nat) : Int))) (req (0 ≤ x7 ∧ x7 < ((x1).length : Int)) (bnd (g4 ((atI x1 x7))) fun x14 => (cond x14 (some x7) (F_slices_IndexFunc_api_Part_api_Part_L1 x1 g4 J5 n8 ((IntKind.i64.wrap (x7 + (1 : Int)))))))) J5)
def F_slices_IndexFunc_api_Part_api_Part (x1 : List TPart) (g4 : TPart → Option Bool) : Option Int :=
 (jn ((some (-1 : Int))) (fun J5 => (F_slices_IndexFunc_api_Part_api_Part_L1 x1 g4 J5 (((((x1).length : Nat) : Int)).toNat + 1) ((0 : Int)))))
theorem W_slices_IndexFunc_api_Part_api_Part {V : View} (x1 : List TPart) (g4 : TPart → Option Bool) {f4 : Nat} {ca4 : List Value} {a2 : Option Addr} {k2 : Nat} (h2 : SlAt cTPart V a2 k2 x1) (hg4 : FnSpec1 Tryz.prog f4 ca4 V (fun (y : TPart) => .agg ⟨[.int .i64 (y.Id), .string ⟨⟨y.From⟩⟩, .int .i64 (y.Node), .int .i64 (y.Dest), .string ⟨⟨y.Done⟩⟩]⟩) (fun (r : Bool) => .bool (r)) g4) {r : Int} (hF : F_slices_IndexFunc_api_Part_api_Part x1 g4 = some r) :
  Spec Tryz.prog 113 [.slice a2 ((x1).length) (k2), .func (.func f4) #[] ⟨ca4⟩] V (fun _ v => v = .int .i64 (r)) := by
 unfold F_slices_IndexFunc_api_Part_api_Part at hF
 refine Spec.enter (T := tyT) Tryz.func113 rfl (by kernel_rfl) rfl rfl rfl ?_
 refine Exec.run tyOk 11 rfl ?_
 obtain ⟨J5, hJ5, hF⟩ := jn_some hF
 refine Exec.seam (fun L' V' M' => L' = [] ∧ M' = [] ∧ J5 = some r) rfl ?_ ?_
 ·rintro L' V6 M' ⟨rfl, rfl, hF⟩
  subst hJ5
  refine xr rfl ?_
  obtain rfl := some_inj hF
  exact Exec.ret tyOk rfl rfl rfl
 ·refine xr rfl ?_
  refine Exec.loop (fun n8 L' V' M' => ∃ (x7 : Int), L' = [(0, .v (.slice a2 ((x1).length) (k2))), (1, .v (.func (.func f4) #[] ⟨ca4⟩)), (7, .v (.int .i64 ((((x1).length : Nat) : Int)))), (8, .v (.int .i64 (x7)))] ∧ M' = [] ∧ SlAt cTPart V' a2 k2 x1 ∧ FnSpec1 Tryz.prog f4 ca4 V' (fun (y : TPart) => .agg ⟨[.int .i64 (y.Id), .string ⟨⟨y.From⟩⟩, .int .i64 (y.Node), .int .i64 (y.Dest), .string ⟨⟨y.Done⟩⟩]⟩) (fun (r : Bool) => .bool (r)) g4 ∧ F_slices_IndexFunc_api_Part_api_Part_L1 x1 g4 J5 n8 x7 = some r) ⟨(((((x1).length : Nat) : Int)).toNat + 1), [(0, .v (.slice a2 ((x1).length) (k2))), (1, .v (.func (.func f4) #[] ⟨ca4⟩)), (7, .v (.int .i64 ((((x1).length : Nat) : Int)))), (8, .v (.int .i64 ((0 : Int))))], ⟨rfl, rfl, rfl, rfl, trivial⟩, (0 : Int), rfl, rfl, h2, hg4, hF⟩ ?_
  rintro n8 L' V9 M' ⟨x7, rfl, rfl, h10, h11, hF⟩
  rcases n8 with _ | n8
  ·exact absurd hF (by simp [F_slices_IndexFunc_api_Part_api_Part_L1])
  rw [F_slices_IndexFunc_api_Part_api_Part_L1] at hF
  refine xr rfl ?_
  rcases cond_some hF with ⟨hb, hF⟩ | ⟨hb, hF⟩
  ·refine Exec.ifT rfl hb ?_
   refine xr rfl ?_
   obtain ⟨q12, hF⟩ := req_some hF
   obtain ⟨c13, hr13, hd13⟩ := SlAt.get h10 q12
   obtain rfl := hr13
   refine Exec.ia tyOk rfl rfl ⟨q12.1, q12.2, hd13.some⟩ ?_
   refine xr rfl ?_
   refine Exec.ld tyOk (x := .agg ⟨[.int .i64 ((atI x1 x7).Id), .string ⟨⟨(atI x1 x7).From⟩⟩, .int .i64 ((atI x1 x7).Node), .int .i64 ((atI x1 x7).Dest), .string ⟨⟨(atI x1 x7).Done⟩⟩]⟩) rfl rfl hd13 rfl rfl ?_
   refine xr rfl ?_
   obtain ⟨x14, hx14, hF⟩ := bnd_some hF
   refine Exec.callS (.bool (x14)) rfl rfl (h11.at hx14) ?_
   refine xr rfl ?_
   rcases cond_some hF with ⟨hb, hF⟩ | ⟨hb, hF⟩
   ·refine Exec.ifT rfl hb ?_
    refine xr rfl ?_
    obtain rfl := some_inj hF
    exact Exec.ret tyOk rfl rfl rfl
   ·refine Exec.ifF rfl hb ?_
    refine xr rfl ?_
    exact Exec.round [(0, .v (.slice a2 ((x1).length) (k2))), (1, .v (.func (.func f4) #[] ⟨ca4⟩)), (7, .v (.int .i64 ((((x1).length : Nat) : Int)))), (8, .v (.int .i64 ((IntKind.i64.wrap (x7 + (1 : Int))))))] ⟨rfl, rfl, rfl, rfl, trivial⟩ ⟨n8, Nat.lt_succ_self _, (IntKind.i64.wrap (x7 + (1 : Int))), rfl, rfl, h10, h11, hF⟩
  ·refine Exec.ifF rfl hb ?_
   refine xr rfl ?_
   exact Exec.round [] trivial ⟨rfl, rfl, hF⟩
def F_placement_find_1 (x1 : TPart) (x2 : Int) : Option Bool :=
 (some (x1.Id == x2))
theorem W_placement_find_1 {V : View} (x1 : TPart) (x2 : Int) {b0 o0 : Nat} (hc0 : RdAt V (some ⟨b0, o0, none⟩) 0 [.int .i64 (x2)]) {r : Bool} (hF : F_placement_find_1 x1 x2 = some r) :
  Spec Tryz.prog 114 [.agg ⟨[.int .i64 (x1.Id), .string ⟨⟨x1.From⟩⟩, .int .i64 (x1.Node), .int .i64 (x1.Dest), .string ⟨⟨x1.Done⟩⟩]⟩, .pointer (some ⟨b0, o0, none⟩)] V (fun _ v => v = .bool (r)) := by
 unfold F_placement_find_1 at hF
 refine Spec.enter (T := tyT) Tryz.func114 rfl (by kernel_rfl) rfl rfl rfl ?_
 refine xr rfl ?_
 refine Exec.ld tyOk (x := .int .i64 (x2)) rfl rfl hc0 rfl rfl ?_
 refine xr rfl ?_
 obtain rfl := some_inj hF
 exact Exec.ret tyOk rfl rfl rfl
def F_keys_consists_L1 (x1 : Str) (g3 : Int → Option Bool) (J4 : Option Bool) : Nat → Int → Option Bool
 | 0, _ => none
 | n7 + 1, x6 => (cond (decide (x6 < ((x1).length : Int))) (req (0 ≤ x6 ∧ x6 < ((x1).length : Int)) (bnd (g3 ((byteAt x1 (x6).toNat))) fun x11 => (cond (!x11) (some false) (F_keys_consists_L1 x1 g3 J4 n7 ((IntKind.i64.wrap (x6 + (1 : Int)))))))) J4)
def F_keys_consists (x1 : Str) (g3 : Int → Option Bool) : Option Bool :=
 (cond (decide ((24 : Int) < ((x1).length : Int))) (some false) (jn ((some true)) (fun J4 => (F_keys_consists_L1 x1 g3 J4 ((((x1).length : Int)).toNat + 1) ((0 : Int))))))
theorem W_keys_consists {V : View} (x1 : Str) (g3 : Int → Option Bool) {f3 : Nat} {ca3 : List Value}  (hg3 : FnSpec1 Tryz.prog f3 ca3 V (fun (y : Int) => .int .u8 (y)) (fun (r : Bool) => .bool (r)) g3) {r : Bool} (hF : F_keys_consists x1 g3 = some r) :
  Spec Tryz.prog 116 [.string ⟨⟨x1⟩⟩, .func (.func f3) #[] ⟨ca3⟩] V (fun _ v => v = .bool (r)) := by
 unfold F_keys_consists at hF
 refine Spec.enter (T := tyT) Tryz.func116 rfl (by kernel_rfl) rfl rfl rfl ?_
 refine xr rfl ?_
 rcases cond_some hF with ⟨hb, hF⟩ | ⟨hb, hF⟩
 ·refine Exec.ifT rfl hb ?_
  refine xr rfl ?_
  obtain rfl := some_inj hF
  exact Exec.ret tyOk rfl rfl rfl
 ·refine Exec.ifF rfl hb ?_
  refine Exec.run tyOk 8 rfl ?_
  obtain ⟨J4, hJ4, hF⟩ := jn_some hF
  refine Exec.seam (fun L' V' M' => L' = [] ∧ M' = [] ∧ J4 = some r) rfl ?_ ?_
  ·rintro L' V5 M' ⟨rfl, rfl, hF⟩
   subst hJ4
   refine xr rfl ?_
   obtain rfl := some_inj hF
   exact Exec.ret tyOk rfl rfl rfl
  ·refine xr rfl ?_
   refine Exec.loop (fun n7 L' V' M' => ∃ (x6 : Int), L' = [(0, .v (.string ⟨⟨x1⟩⟩)), (1, .v (.func (.func f3) #[] ⟨ca3⟩)), (10, .v (.int .i64 (((x1).length : Int)))), (11, .v (.int .i64 (x6)))] ∧ M' = [] ∧ FnSpec1 Tryz.prog f3 ca3 V' (fun (y : Int) => .int .u8 (y)) (fun (r : Bool) => .bool (r)) g3 ∧ F_keys_consists_L1 x1 g3 J4 n7 x6 = some r) ⟨((((x1).length : Int)).toNat + 1), [(0, .v (.string ⟨⟨x1⟩⟩)), (1, .v (.func (.func f3) #[] ⟨ca3⟩)), (10, .v (.int .i64 (((x1).length : Int)))), (11, .v (.int .i64 ((0 : Int))))], ⟨rfl, rfl, rfl, rfl, trivial⟩, (0 : Int), rfl, rfl, hg3, hF⟩ ?_
   rintro n7 L' V8 M' ⟨x6, rfl, rfl, h9, hF⟩
   rcases n7 with _ | n7
   ·exact absurd hF (by simp [F_keys_consists_L1])
   rw [F_keys_consists_L1] at hF
   refine xr rfl ?_
   rcases cond_some hF with ⟨hb, hF⟩ | ⟨hb, hF⟩
   ·refine Exec.ifT rfl hb ?_
    refine xr rfl ?_
    obtain ⟨q10, hF⟩ := req_some hF
    refine Exec.idx tyOk rfl rfl q10 ?_
    refine xr rfl ?_
    obtain ⟨x11, hx11, hF⟩ := bnd_some hF
    refine Exec.callS (.bool (x11)) rfl rfl (h9.at hx11) ?_
    refine xr rfl ?_
    rcases cond_some hF with ⟨hb, hF⟩ | ⟨hb, hF⟩
    ·refine Exec.ifT rfl hb ?_
     refine xr rfl ?_
     obtain rfl := some_inj hF
     exact Exec.ret tyOk rfl rfl rfl
    ·refine Exec.ifF rfl hb ?_
     refine xr rfl ?_
     exact Exec.round [(0, .v (.string ⟨⟨x1⟩⟩)), (1, .v (.func (.func f3) #[] ⟨ca3⟩)), (10, .v (.int .i64 (((x1).length : Int)))), (11, .v (.int .i64 ((IntKind.i64.wrap (x6 + (1 : Int))))))] ⟨rfl, rfl, rfl, rfl, trivial⟩ ⟨n7, Nat.lt_succ_self _, (IntKind.i64.wrap (x6 + (1 : Int))), rfl, rfl, h9, hF⟩
   ·refine Exec.ifF rfl hb ?_
    refine xr rfl ?_
    exact Exec.round [] trivial ⟨rfl, rfl, hF⟩
def F_keys_Valid_1 (x1 : Int) : Option Bool :=
 (some (((((((decide ((97 : Int) ≤ x1)) && (decide (x1 ≤ (122 : Int)))) || ((decide ((48 : Int) ≤ x1)) && (decide (x1 ≤ (57 : Int))))) || (x1 == (47 : Int))) || (x1 == (46 : Int))) || (x1 == (95 : Int))) || (x1 == (45 : Int))))
theorem W_keys_Valid_1 {V : View} (x1 : Int)   {r : Bool} (hF : F_keys_Valid_1 x1 = some r) :
  Spec Tryz.prog 117 [.int .u8 (x1)] V (fun _ v => v = .bool (r)) := by
 unfold F_keys_Valid_1 at hF
 refine Spec.enter (T := tyT) Tryz.func117 rfl (by kernel_rfl) rfl rfl rfl ?_
 refine xr rfl ?_
 obtain rfl := some_inj hF
 exact Exec.ret tyOk rfl rfl rfl
def F_clockworkref06_Has_L1 (x1 : List TPair) (x3 : Str) (J4 : Option Bool) : Nat → Int → Option Bool
 | 0, _ => none
 | n7 + 1, x6 => (cond (decide (x6 < (((x1).length : Nat) : Int))) (req (0 ≤ x6 ∧ x6 < ((x1).length : Int)) (cond ((atI x1 x6).Key == x3) (some true) (F_clockworkref06_Has_L1 x1 x3 J4 n7 ((IntKind.i64.wrap (x6 + (1 : Int))))))) J4)
def F_clockworkref06_Has (x1 : List TPair) (x3 : Str) : Option Bool :=
 (jn ((some false)) (fun J4 => (F_clockworkref06_Has_L1 x1 x3 J4 (((((x1).length : Nat) : Int)).toNat + 1) ((0 : Int)))))
theorem W_clockworkref06_Has {V : View} (x1 : List TPair) (x3 : Str) {a2 : Option Addr} {k2 : Nat} (h2 : SlAt cTPair V a2 k2 x1) {r : Bool} (hF : F_clockworkref06_Has x1 x3 = some r) :
  Spec Tryz.prog 119 [.slice a2 ((x1).length) (k2), .string ⟨⟨x3⟩⟩] V (fun _ v => v = .bool (r)) := by
 unfold F_clockworkref06_Has at hF
 refine Spec.enter (T := tyT) Tryz.func119 rfl (by kernel_rfl) rfl rfl rfl ?_
 refine Exec.run tyOk 9 rfl ?_
 obtain ⟨J4, hJ4, hF⟩ := jn_some hF
 refine Exec.seam (fun L' V' M' => L' = [] ∧ M' = [] ∧ J4 = some r) rfl ?_ ?_
 ·rintro L' V5 M' ⟨rfl, rfl, hF⟩
  subst hJ4
  refine xr rfl ?_
  obtain rfl := some_inj hF
  exact Exec.ret tyOk rfl rfl rfl
 ·refine xr rfl ?_
  refine Exec.loop (fun n7 L' V' M' => ∃ (x6 : Int), L' = [(0, .v (.slice a2 ((x1).length) (k2))), (1, .v (.string ⟨⟨x3⟩⟩)), (5, .v (.int .i64 (x6)))] ∧ M' = [] ∧ SlAt cTPair V' a2 k2 x1 ∧ F_clockworkref06_Has_L1 x1 x3 J4 n7 x6 = some r) ⟨(((((x1).length : Nat) : Int)).toNat + 1), [(0, .v (.slice a2 ((x1).length) (k2))), (1, .v (.string ⟨⟨x3⟩⟩)), (5, .v (.int .i64 ((0 : Int))))], ⟨rfl, rfl, rfl, trivial⟩, (0 : Int), rfl, rfl, h2, hF⟩ ?_
  rintro n7 L' V8 M' ⟨x6, rfl, rfl, h9, hF⟩
  rcases n7 with _ | n7
  ·exact absurd hF (by simp [F_clockworkref06_Has_L1])
  rw [F_clockworkref06_Has_L1] at hF
  refine xr rfl ?_
  rcases cond_some hF with ⟨hb, hF⟩ | ⟨hb, hF⟩
  ·refine Exec.ifT rfl hb ?_
   refine xr rfl ?_
   obtain ⟨q10, hF⟩ := req_some hF
   obtain ⟨c11, hr11, hd11⟩ := SlAt.get h9 q10
   obtain rfl := hr11
   refine Exec.ia tyOk rfl rfl ⟨q10.1, q10.2, hd11.some⟩ ?_
   refine xr rfl ?_
   refine Exec.ld tyOk (x := .string ⟨⟨(atI x1 x6).Key⟩⟩) rfl rfl (RdAt.part hd11 0 1 rfl) rfl rfl ?_
   refine xr rfl ?_
   rcases cond_some hF with ⟨hb, hF⟩ | ⟨hb, hF⟩
   ·refine Exec.ifT rfl hb ?_
    refine xr rfl ?_
    obtain rfl := some_inj hF
    exact Exec.ret tyOk rfl rfl rfl
   ·refine Exec.ifF rfl hb ?_
    refine xr rfl ?_
    exact Exec.round [(0, .v (.slice a2 ((x1).length) (k2))), (1, .v (.string ⟨⟨x3⟩⟩)), (5, .v (.int .i64 ((IntKind.i64.wrap (x6 + (1 : Int))))))] ⟨rfl, rfl, rfl, trivial⟩ ⟨n7, Nat.lt_succ_self _, (IntKind.i64.wrap (x6 + (1 : Int))), rfl, rfl, h9, hF⟩
  ·refine Exec.ifF rfl hb ?_
   refine xr rfl ?_
   exact Exec.round [] trivial ⟨rfl, rfl, hF⟩
def F_migrate_find_1 (x1 : TPart) (x2 : Int) : Option Bool :=
 (some (x1.Id == x2))
theorem W_migrate_find_1 {V : View} (x1 : TPart) (x2 : Int) {b0 o0 : Nat} (hc0 : RdAt V (some ⟨b0, o0, none⟩) 0 [.int .i64 (x2)]) {r : Bool} (hF : F_migrate_find_1 x1 x2 = some r) :
  Spec Tryz.prog 123 [.agg ⟨[.int .i64 (x1.Id), .string ⟨⟨x1.From⟩⟩, .int .i64 (x1.Node), .int .i64 (x1.Dest), .string ⟨⟨x1.Done⟩⟩]⟩, .pointer (some ⟨b0, o0, none⟩)] V (fun _ v => v = .bool (r)) := by
 unfold F_migrate_find_1 at hF
 refine Spec.enter (T := tyT) Tryz.func123 rfl (by kernel_rfl) rfl rfl rfl ?_
 refine xr rfl ?_
 refine Exec.ld tyOk (x := .int .i64 (x2)) rfl rfl hc0 rfl rfl ?_
 refine xr rfl ?_
 obtain rfl := some_inj hF
 exact Exec.ret tyOk rfl rfl rfl
def F_value_plain_L1 (x1 : Str) (J2 : Option Bool) : Nat → Int → Option Bool
 | 0, _ => none
 | n5 + 1, x4 => (cond (decide (x4 < ((x1).length : Int))) (req (0 ≤ x4 ∧ x4 < ((x1).length : Int)) (req ((((decide ((byteAt x1 (x4).toNat) < (32 : Int)))) == false) = true → 0 ≤ x4 ∧ x4 < ((x1).length : Int)) (cond ((decide ((byteAt x1 (x4).toNat) < (32 : Int))) || (decide ((126 : Int) < (byteAt x1 (x4).toNat)))) (some false) (F_value_plain_L1 x1 J2 n5 ((IntKind.i64.wrap (x4 + (1 : Int)))))))) J2)
def F_value_plain (x1 : Str) : Option Bool :=
 (jn ((some (decide (((x1).length : Int) ≤ (64 : Int))))) (fun J2 => (F_value_plain_L1 x1 J2 ((((x1).length : Int)).toNat + 1) ((0 : Int)))))
theorem W_value_plain {V : View} (x1 : Str)   {r : Bool} (hF : F_value_plain x1 = some r) :
  Spec Tryz.prog 125 [.string ⟨⟨x1⟩⟩] V (fun _ v => v = .bool (r)) := by
 unfold F_value_plain at hF
 refine Spec.enter (T := tyT) Tryz.func125 rfl (by kernel_rfl) rfl rfl rfl ?_
 refine Exec.run tyOk 9 rfl ?_
 obtain ⟨J2, hJ2, hF⟩ := jn_some hF
 refine Exec.seam (fun L' V' M' => L' = [(0, .v (.string ⟨⟨x1⟩⟩))] ∧ M' = [] ∧ J2 = some r) rfl ?_ ?_
 ·rintro L' V3 M' ⟨rfl, rfl, hF⟩
  subst hJ2
  refine xr rfl ?_
  obtain rfl := some_inj hF
  exact Exec.ret tyOk rfl rfl rfl
 ·refine xr rfl ?_
  refine Exec.loop (fun n5 L' V' M' => ∃ (x4 : Int), L' = [(0, .v (.string ⟨⟨x1⟩⟩)), (3, .v (.int .i64 (x4)))] ∧ M' = [] ∧ F_value_plain_L1 x1 J2 n5 x4 = some r) ⟨((((x1).length : Int)).toNat + 1), [(0, .v (.string ⟨⟨x1⟩⟩)), (3, .v (.int .i64 ((0 : Int))))], ⟨rfl, rfl, trivial⟩, (0 : Int), rfl, rfl, hF⟩ ?_
  rintro n5 L' V6 M' ⟨x4, rfl, rfl, hF⟩
  rcases n5 with _ | n5
  ·exact absurd hF (by simp [F_value_plain_L1])
  rw [F_value_plain_L1] at hF
  refine xr rfl ?_
  rcases cond_some hF with ⟨hb, hF⟩ | ⟨hb, hF⟩
  ·refine Exec.ifT rfl hb ?_
   refine xr rfl ?_
   obtain ⟨q7, hF⟩ := req_some hF
   refine Exec.idx tyOk rfl rfl q7 ?_
   refine xr rfl ?_
   obtain ⟨q8, hF⟩ := req_some hF
   refine Exec.idx tyOk rfl rfl (fun gg0 => q8 (gd1_of gg0)) ?_
   refine xr rfl ?_
   rcases cond_some hF with ⟨hb, hF⟩ | ⟨hb, hF⟩
   ·refine Exec.ifT rfl hb ?_
    refine xr rfl ?_
    obtain rfl := some_inj hF
    exact Exec.ret tyOk rfl rfl rfl
   ·refine Exec.ifF rfl hb ?_
    refine xr rfl ?_
    exact Exec.round [(0, .v (.string ⟨⟨x1⟩⟩)), (3, .v (.int .i64 ((IntKind.i64.wrap (x4 + (1 : Int))))))] ⟨rfl, rfl, trivial⟩ ⟨n5, Nat.lt_succ_self _, (IntKind.i64.wrap (x4 + (1 : Int))), rfl, rfl, hF⟩
  ·refine Exec.ifF rfl hb ?_
   refine xr rfl ?_
   exact Exec.round [(0, .v (.string ⟨⟨x1⟩⟩))] ⟨rfl, trivial⟩ ⟨rfl, rfl, hF⟩
def F_clockworkref06_ascending_L1 (x1 : List TPair) (J3 : Option Bool) : Nat → Int → Option Bool
 | 0, _ => none
 | n6 + 1, x5 => (cond (decide (x5 < (((x1).length : Nat) : Int))) (req (0 ≤ x5 ∧ x5 < ((x1).length : Int)) (bnd (F_clockworkref04_Valid ((atI x1 x5).Key)) fun x11 => (req (((((decide ((0 : Int) < x5))) == true) && (((!x11)) == false)) = true → 0 ≤ x5 ∧ x5 < ((x1).length : Int)) (req (((((decide ((0 : Int) < x5))) == true) && (((!x11)) == false)) = true → 0 ≤ (IntKind.i64.wrap (x5 - (1 : Int))) ∧ (IntKind.i64.wrap (x5 - (1 : Int))) < ((x1).length : Int)) (cond ((!x11) || ((decide ((0 : Int) < x5)) && (!sLt (cond ((((decide ((0 : Int) < x5))) == true) && (((!x11)) == false)) (atI x1 ((IntKind.i64.wrap (x5 - (1 : Int))))) default).Key (cond ((((decide ((0 : Int) < x5))) == true) && (((!x11)) == false)) (atI x1 x5) default).Key))) (some false) (F_clockworkref06_ascending_L1 x1 J3 n6 ((IntKind.i64.wrap (x5 + (1 : Int)))))))))) J3)
def F_clockworkref06_ascending (x1 : List TPair) : Option Bool :=
 (jn ((some true)) (fun J3 => (F_clockworkref06_ascending_L1 x1 J3 (((((x1).length : Nat) : Int)).toNat + 1) ((0 : Int)))))
theorem W_clockworkref06_ascending {V : View} (x1 : List TPair) {a2 : Option Addr} {k2 : Nat} (h2 : SlAt cTPair V a2 k2 x1) {r : Bool} (hF : F_clockworkref06_ascending x1 = some r) :
  Spec Tryz.prog 139 [.slice a2 ((x1).length) (k2)] V (fun _ v => v = .bool (r)) := by
 unfold F_clockworkref06_ascending at hF
 refine Spec.enter (T := tyT) Tryz.func139 rfl (by kernel_rfl) rfl rfl rfl ?_
 refine Exec.run tyOk 9 rfl ?_
 obtain ⟨J3, hJ3, hF⟩ := jn_some hF
 refine Exec.seam (fun L' V' M' => L' = [] ∧ M' = [] ∧ J3 = some r) rfl ?_ ?_
 ·rintro L' V4 M' ⟨rfl, rfl, hF⟩
  subst hJ3
  refine xr rfl ?_
  obtain rfl := some_inj hF
  exact Exec.ret tyOk rfl rfl rfl
 ·refine xr rfl ?_
  refine Exec.loop (fun n6 L' V' M' => ∃ (x5 : Int), L' = [(0, .v (.slice a2 ((x1).length) (k2))), (3, .v (.int .i64 (x5)))] ∧ M' = [] ∧ SlAt cTPair V' a2 k2 x1 ∧ F_clockworkref06_ascending_L1 x1 J3 n6 x5 = some r) ⟨(((((x1).length : Nat) : Int)).toNat + 1), [(0, .v (.slice a2 ((x1).length) (k2))), (3, .v (.int .i64 ((0 : Int))))], ⟨rfl, rfl, trivial⟩, (0 : Int), rfl, rfl, h2, hF⟩ ?_
  rintro n6 L' V7 M' ⟨x5, rfl, rfl, h8, hF⟩
  rcases n6 with _ | n6
  ·exact absurd hF (by simp [F_clockworkref06_ascending_L1])
  rw [F_clockworkref06_ascending_L1] at hF
  refine xr rfl ?_
  rcases cond_some hF with ⟨hb, hF⟩ | ⟨hb, hF⟩
  ·refine Exec.ifT rfl hb ?_
   refine xr rfl ?_
   refine Exec.draws tyOk [(0, true), (1, true), (2, true), (3, true), (4, true), (5, false), (6, false), (7, false), (8, false), (9, false), (10, false), (11, true), (12, true), (13, true), (14, true), (15, true), (16, true), (17, false), (18, false), (19, false), (20, false), (21, false), (22, false), (23, false), (24, false)] rfl (by kernel_rfl) ?_
   refine xr rfl ?_
   obtain ⟨q9, hF⟩ := req_some hF
   obtain ⟨c10, hr10, hd10⟩ := SlAt.get h8 q9
   obtain rfl := hr10
   refine Exec.fia tyOk rfl rfl rfl ⟨q9.1, q9.2, hd10.some⟩ ?_
   refine xr rfl ?_
   refine Exec.fld tyOk (x := .string ⟨⟨(atI x1 x5).Key⟩⟩) rfl rfl rfl (RdAt.part hd10 0 1 rfl) rfl rfl ?_
   refine xr rfl ?_
   obtain ⟨x11, hx11, hF⟩ := bnd_some hF
   refine Exec.callS (.bool (x11)) rfl rfl (W_clockworkref04_Valid ((atI x1 x5).Key)  hx11) ?_
   refine xr rfl ?_
   obtain ⟨q12, hF⟩ := req_some hF
   obtain ⟨c13, hr13, hd13⟩ := SlAt.gget ((((decide ((0 : Int) < x5))) == true) && (((!x11)) == false)) h8 q12
   obtain rfl := hr13
   refine Exec.fia tyOk rfl rfl rfl (fun gg0 gg1 => ⟨(q12 (gd2_of gg0 gg1)).1, (q12 (gd2_of gg0 gg1)).2, (hd13 (gd2_of gg0 gg1)).some⟩) ?_
   refine xr rfl ?_
   refine Exec.fld tyOk (x := .string ⟨⟨(cond ((((decide ((0 : Int) < x5))) == true) && (((!x11)) == false)) (atI x1 x5) default).Key⟩⟩) rfl rfl rfl (fun gg0 gg1 => (RdAt.part (hd13 (gd2_of gg0 gg1)) 0 1 rfl)) rfl rfl ?_
   refine xr rfl ?_
   obtain ⟨q14, hF⟩ := req_some hF
   obtain ⟨c15, hr15, hd15⟩ := SlAt.gget ((((decide ((0 : Int) < x5))) == true) && (((!x11)) == false)) h8 q14
   obtain rfl := hr15
   refine Exec.ia tyOk rfl rfl (fun gg0 gg1 => ⟨(q14 (gd2_of gg0 gg1)).1, (q14 (gd2_of gg0 gg1)).2, (hd15 (gd2_of gg0 gg1)).some⟩) ?_
   refine xr rfl ?_
   refine Exec.ld tyOk (x := .string ⟨⟨(cond ((((decide ((0 : Int) < x5))) == true) && (((!x11)) == false)) (atI x1 ((IntKind.i64.wrap (x5 - (1 : Int))))) default).Key⟩⟩) rfl rfl (fun gg0 gg1 => (RdAt.part (hd15 (gd2_of gg0 gg1)) 0 1 rfl)) rfl rfl ?_
   refine xr rfl ?_
   rcases cond_some hF with ⟨hb, hF⟩ | ⟨hb, hF⟩
   ·refine Exec.ifT rfl hb ?_
    refine xr rfl ?_
    obtain rfl := some_inj hF
    exact Exec.ret tyOk rfl rfl rfl
   ·refine Exec.ifF rfl hb ?_
    refine xr rfl ?_
    exact Exec.round [(0, .v (.slice a2 ((x1).length) (k2))), (3, .v (.int .i64 ((IntKind.i64.wrap (x5 + (1 : Int))))))] ⟨rfl, rfl, trivial⟩ ⟨n6, Nat.lt_succ_self _, (IntKind.i64.wrap (x5 + (1 : Int))), rfl, rfl, h8, hF⟩
  ·refine Exec.ifF rfl hb ?_
   refine xr rfl ?_
   exact Exec.round [] trivial ⟨rfl, rfl, hF⟩
end Go.Proofs.YtglnnhmmipopiaaGreat
