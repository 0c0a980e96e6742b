/-
  Functions of the program as their counterparts say them (printed by a program).
  Conditions: none.
-/
import Derived.Test.YtedbagekceppiaaHa
set_option linter.all false
namespace Go.Proofs.Ytedbagekceppiaa

def F_clockworkref06_Has_L1 (x1 : List TPair) (x3 : Str) (J4 : Option Bool) : Nat → Int → Option Bool
  | 0, _ => none
  | n7 + 1, x6 => (cond (decide (x6 < (((x1).length : Nat) : Int))) (req (0 ≤ x6 ∧ x6 < ((x1).length : Int)) (cond ((atI x1 x6).Key == x3) (some true) (F_clockworkref06_Has_L1 x1 x3 J4 n7 ((IntKind.i64.wrap (x6 + (1 : Int))))))) J4)

def F_clockworkref06_Has (x1 : List TPair) (x3 : Str) : Option Bool :=
  (jn ((some false)) (fun J4 => (F_clockworkref06_Has_L1 x1 x3 J4 (((((x1).length : Nat) : Int)).toNat + 1) ((0 : Int)))))

set_option maxRecDepth 100000 in
theorem W_clockworkref06_Has {V : View} (x1 : List TPair) (x3 : Str) {a2 : Option Addr} {k2 : Nat} (h2 : SlAt cTPair V a2 k2 x1) {r : Bool} (hF : F_clockworkref06_Has x1 x3 = some r) :
    Spec Try.prog 67 [.slice a2 ((x1).length) (k2), .string ⟨⟨x3⟩⟩] V (fun _ v => v = .bool (r)) := by
  unfold F_clockworkref06_Has at hF
  refine Spec.enter (T := tyT) Try.func67 rfl (by kernel_rfl) rfl rfl rfl ?_
  refine Exec.run tyOk 9 rfl ?_
  obtain ⟨J4, hJ4, hF⟩ := jn_some hF
  refine Exec.seam (fun L' V' M' => L' = [] ∧ M' = [] ∧ J4 = some r) rfl ?_ ?_
  · rintro L' V5 M' ⟨rfl, rfl, hF⟩
    subst hJ4
    refine Exec.run tyOk 400 rfl ?_
    obtain rfl := some_inj hF
    exact Exec.ret tyOk rfl rfl rfl
  · skip
    refine Exec.run tyOk 400 rfl ?_
    refine Exec.loop (fun n7 L' V' M' => ∃ (x6 : Int), L' = [(0, .v (.slice a2 ((x1).length) (k2))), (1, .v (.string ⟨⟨x3⟩⟩)), (5, .v (.int .i64 (x6)))] ∧ M' = [] ∧ SlAt cTPair V' a2 k2 x1 ∧ F_clockworkref06_Has_L1 x1 x3 J4 n7 x6 = some r) ⟨(((((x1).length : Nat) : Int)).toNat + 1), [(0, .v (.slice a2 ((x1).length) (k2))), (1, .v (.string ⟨⟨x3⟩⟩)), (5, .v (.int .i64 ((0 : Int))))], ⟨rfl, rfl, rfl, trivial⟩, (0 : Int), rfl, rfl, h2, hF⟩ ?_
    rintro n7 L' V8 M' ⟨x6, rfl, rfl, h9, hF⟩
    rcases n7 with _ | n7
    · exact absurd hF (by simp [F_clockworkref06_Has_L1])
    rw [F_clockworkref06_Has_L1] at hF
    refine Exec.run tyOk 400 rfl ?_
    rcases cond_some hF with ⟨hb, hF⟩ | ⟨hb, hF⟩
    · skip
      refine Exec.ifT rfl hb ?_
      refine Exec.run tyOk 400 rfl ?_
      obtain ⟨q10, hF⟩ := req_some hF
      obtain ⟨c11, hr11, hd11⟩ := SlAt.get h9 q10
      obtain rfl := hr11
      refine Exec.ia tyOk rfl rfl ⟨q10.1, q10.2, hd11.some⟩ ?_
      refine Exec.run tyOk 400 rfl ?_
      refine Exec.ld tyOk (x := .string ⟨⟨(atI x1 x6).Key⟩⟩) rfl rfl (RdAt.part hd11 0 1 rfl) rfl rfl ?_
      refine Exec.run tyOk 400 rfl ?_
      rcases cond_some hF with ⟨hb, hF⟩ | ⟨hb, hF⟩
      · skip
        refine Exec.ifT rfl hb ?_
        refine Exec.run tyOk 400 rfl ?_
        obtain rfl := some_inj hF
        exact Exec.ret tyOk rfl rfl rfl
      · skip
        refine Exec.ifF rfl hb ?_
        refine Exec.run tyOk 400 rfl ?_
        exact Exec.round [(0, .v (.slice a2 ((x1).length) (k2))), (1, .v (.string ⟨⟨x3⟩⟩)), (5, .v (.int .i64 ((IntKind.i64.wrap (x6 + (1 : Int))))))] ⟨rfl, rfl, rfl, trivial⟩ ⟨n7, Nat.lt_succ_self _, (IntKind.i64.wrap (x6 + (1 : Int))), rfl, rfl, h9, hF⟩
    · skip
      refine Exec.ifF rfl hb ?_
      refine Exec.run tyOk 400 rfl ?_
      exact Exec.round [] trivial ⟨rfl, rfl, hF⟩

def F_placement_find_1 (x1 : TPart) (x2 : Int) : Option Bool :=
  (some (x1.Id == x2))

set_option maxRecDepth 100000 in
theorem W_placement_find_1 {V : View} (x1 : TPart) (x2 : Int) {b0 o0 : Nat} (hc0 : RdAt V (some ⟨b0, o0, none⟩) 0 [.int .i64 (x2)]) {r : Bool} (hF : F_placement_find_1 x1 x2 = some r) :
    Spec Try.prog 72 [.agg ⟨[.int .i64 (x1.Id), .string ⟨⟨x1.From⟩⟩, .int .i64 (x1.Node), .int .i64 (x1.Dest), .string ⟨⟨x1.Done⟩⟩]⟩, .pointer (some ⟨b0, o0, none⟩)] V (fun _ v => v = .bool (r)) := by
  unfold F_placement_find_1 at hF
  refine Spec.enter (T := tyT) Try.func72 rfl (by kernel_rfl) rfl rfl rfl ?_
  refine Exec.run tyOk 400 rfl ?_
  refine Exec.ld tyOk (x := .int .i64 (x2)) rfl rfl hc0 rfl rfl ?_
  refine Exec.run tyOk 400 rfl ?_
  obtain rfl := some_inj hF
  exact Exec.ret tyOk rfl rfl rfl

def F_slices_IndexFunc_api_Pair_api_Pair_L1 (x1 : List TPair) (g4 : TPair → Option Bool) (J5 : Option Int) : Nat → Int → Option Int
  | 0, _ => none
  | n8 + 1, x7 => (cond (decide (x7 < (((x1).length : Nat) : Int))) (req (0 ≤ x7 ∧ x7 < ((x1).length : Int)) (bnd (g4 ((atI x1 x7))) fun x14 => (cond x14 (some x7) (F_slices_IndexFunc_api_Pair_api_Pair_L1 x1 g4 J5 n8 ((IntKind.i64.wrap (x7 + (1 : Int)))))))) J5)

def F_slices_IndexFunc_api_Pair_api_Pair (x1 : List TPair) (g4 : TPair → Option Bool) : Option Int :=
  (jn ((some (-1 : Int))) (fun J5 => (F_slices_IndexFunc_api_Pair_api_Pair_L1 x1 g4 J5 (((((x1).length : Nat) : Int)).toNat + 1) ((0 : Int)))))

set_option maxRecDepth 100000 in
theorem W_slices_IndexFunc_api_Pair_api_Pair {V : View} (x1 : List TPair) (g4 : TPair → Option Bool) {f4 : Nat} {ca4 : List Value} {a2 : Option Addr} {k2 : Nat} (h2 : SlAt cTPair V a2 k2 x1) (hg4 : FnSpec1 Try.prog f4 ca4 V (fun (y : TPair) => .agg ⟨[.string ⟨⟨y.Key⟩⟩, .int .i64 (y.Val.Kind), .int .i64 (y.Val.N), .string ⟨⟨y.Val.S⟩⟩]⟩) (fun (r : Bool) => .bool (r)) g4) {r : Int} (hF : F_slices_IndexFunc_api_Pair_api_Pair x1 g4 = some r) :
    Spec Try.prog 75 [.slice a2 ((x1).length) (k2), .func (.func f4) #[] ⟨ca4⟩] V (fun _ v => v = .int .i64 (r)) := by
  unfold F_slices_IndexFunc_api_Pair_api_Pair at hF
  refine Spec.enter (T := tyT) Try.func75 rfl (by kernel_rfl) rfl rfl rfl ?_
  refine Exec.run tyOk 11 rfl ?_
  obtain ⟨J5, hJ5, hF⟩ := jn_some hF
  refine Exec.seam (fun L' V' M' => L' = [] ∧ M' = [] ∧ J5 = some r) rfl ?_ ?_
  · rintro L' V6 M' ⟨rfl, rfl, hF⟩
    subst hJ5
    refine Exec.run tyOk 400 rfl ?_
    obtain rfl := some_inj hF
    exact Exec.ret tyOk rfl rfl rfl
  · skip
    refine Exec.run tyOk 400 rfl ?_
    refine Exec.loop (fun n8 L' V' M' => ∃ (x7 : Int), L' = [(0, .v (.slice a2 ((x1).length) (k2))), (1, .v (.func (.func f4) #[] ⟨ca4⟩)), (7, .v (.int .i64 ((((x1).length : Nat) : Int)))), (8, .v (.int .i64 (x7)))] ∧ M' = [] ∧ SlAt cTPair V' a2 k2 x1 ∧ FnSpec1 Try.prog f4 ca4 V' (fun (y : TPair) => .agg ⟨[.string ⟨⟨y.Key⟩⟩, .int .i64 (y.Val.Kind), .int .i64 (y.Val.N), .string ⟨⟨y.Val.S⟩⟩]⟩) (fun (r : Bool) => .bool (r)) g4 ∧ F_slices_IndexFunc_api_Pair_api_Pair_L1 x1 g4 J5 n8 x7 = some r) ⟨(((((x1).length : Nat) : Int)).toNat + 1), [(0, .v (.slice a2 ((x1).length) (k2))), (1, .v (.func (.func f4) #[] ⟨ca4⟩)), (7, .v (.int .i64 ((((x1).length : Nat) : Int)))), (8, .v (.int .i64 ((0 : Int))))], ⟨rfl, rfl, rfl, rfl, trivial⟩, (0 : Int), rfl, rfl, h2, hg4, hF⟩ ?_
    rintro n8 L' V9 M' ⟨x7, rfl, rfl, h10, h11, hF⟩
    rcases n8 with _ | n8
    · exact absurd hF (by simp [F_slices_IndexFunc_api_Pair_api_Pair_L1])
    rw [F_slices_IndexFunc_api_Pair_api_Pair_L1] at hF
    refine Exec.run tyOk 400 rfl ?_
    rcases cond_some hF with ⟨hb, hF⟩ | ⟨hb, hF⟩
    · skip
      refine Exec.ifT rfl hb ?_
      refine Exec.run tyOk 400 rfl ?_
      obtain ⟨q12, hF⟩ := req_some hF
      obtain ⟨c13, hr13, hd13⟩ := SlAt.get h10 q12
      obtain rfl := hr13
      refine Exec.ia tyOk rfl rfl ⟨q12.1, q12.2, hd13.some⟩ ?_
      refine Exec.run tyOk 400 rfl ?_
      refine Exec.ld tyOk (x := .agg ⟨[.string ⟨⟨(atI x1 x7).Key⟩⟩, .int .i64 ((atI x1 x7).Val.Kind), .int .i64 ((atI x1 x7).Val.N), .string ⟨⟨(atI x1 x7).Val.S⟩⟩]⟩) rfl rfl hd13 rfl rfl ?_
      refine Exec.run tyOk 400 rfl ?_
      obtain ⟨x14, hx14, hF⟩ := bnd_some hF
      refine Exec.callS (.bool (x14)) rfl rfl (h11.at hx14) ?_
      refine Exec.run tyOk 400 rfl ?_
      rcases cond_some hF with ⟨hb, hF⟩ | ⟨hb, hF⟩
      · skip
        refine Exec.ifT rfl hb ?_
        refine Exec.run tyOk 400 rfl ?_
        obtain rfl := some_inj hF
        exact Exec.ret tyOk rfl rfl rfl
      · skip
        refine Exec.ifF rfl hb ?_
        refine Exec.run tyOk 400 rfl ?_
        exact Exec.round [(0, .v (.slice a2 ((x1).length) (k2))), (1, .v (.func (.func f4) #[] ⟨ca4⟩)), (7, .v (.int .i64 ((((x1).length : Nat) : Int)))), (8, .v (.int .i64 ((IntKind.i64.wrap (x7 + (1 : Int))))))] ⟨rfl, rfl, rfl, rfl, trivial⟩ ⟨n8, Nat.lt_succ_self _, (IntKind.i64.wrap (x7 + (1 : Int))), rfl, rfl, h10, h11, hF⟩
    · skip
      refine Exec.ifF rfl hb ?_
      refine Exec.run tyOk 400 rfl ?_
      exact Exec.round [] trivial ⟨rfl, rfl, hF⟩

def F_keys_consists_L1 (x1 : Str) (g3 : Int → Option Bool) (J4 : Option Bool) : Nat → Int → Option Bool
  | 0, _ => none
  | n7 + 1, x6 => (cond (decide (x6 < ((x1).length : Int))) (req (0 ≤ x6 ∧ x6 < ((x1).length : Int)) (bnd (g3 ((byteAt x1 (x6).toNat))) fun x11 => (cond (!x11) (some false) (F_keys_consists_L1 x1 g3 J4 n7 ((IntKind.i64.wrap (x6 + (1 : Int)))))))) J4)

def F_keys_consists (x1 : Str) (g3 : Int → Option Bool) : Option Bool :=
  (cond (decide ((24 : Int) < ((x1).length : Int))) (some false) (jn ((some true)) (fun J4 => (F_keys_consists_L1 x1 g3 J4 ((((x1).length : Int)).toNat + 1) ((0 : Int))))))

set_option maxRecDepth 100000 in
theorem W_keys_consists {V : View} (x1 : Str) (g3 : Int → Option Bool) {f3 : Nat} {ca3 : List Value}  (hg3 : FnSpec1 Try.prog f3 ca3 V (fun (y : Int) => .int .u8 (y)) (fun (r : Bool) => .bool (r)) g3) {r : Bool} (hF : F_keys_consists x1 g3 = some r) :
    Spec Try.prog 76 [.string ⟨⟨x1⟩⟩, .func (.func f3) #[] ⟨ca3⟩] V (fun _ v => v = .bool (r)) := by
  unfold F_keys_consists at hF
  refine Spec.enter (T := tyT) Try.func76 rfl (by kernel_rfl) rfl rfl rfl ?_
  refine Exec.run tyOk 400 rfl ?_
  rcases cond_some hF with ⟨hb, hF⟩ | ⟨hb, hF⟩
  · skip
    refine Exec.ifT rfl hb ?_
    refine Exec.run tyOk 400 rfl ?_
    obtain rfl := some_inj hF
    exact Exec.ret tyOk rfl rfl rfl
  · skip
    refine Exec.ifF rfl hb ?_
    refine Exec.run tyOk 8 rfl ?_
    obtain ⟨J4, hJ4, hF⟩ := jn_some hF
    refine Exec.seam (fun L' V' M' => L' = [] ∧ M' = [] ∧ J4 = some r) rfl ?_ ?_
    · rintro L' V5 M' ⟨rfl, rfl, hF⟩
      subst hJ4
      refine Exec.run tyOk 400 rfl ?_
      obtain rfl := some_inj hF
      exact Exec.ret tyOk rfl rfl rfl
    · skip
      refine Exec.run tyOk 400 rfl ?_
      refine Exec.loop (fun n7 L' V' M' => ∃ (x6 : Int), L' = [(0, .v (.string ⟨⟨x1⟩⟩)), (1, .v (.func (.func f3) #[] ⟨ca3⟩)), (10, .v (.int .i64 (((x1).length : Int)))), (11, .v (.int .i64 (x6)))] ∧ M' = [] ∧ FnSpec1 Try.prog f3 ca3 V' (fun (y : Int) => .int .u8 (y)) (fun (r : Bool) => .bool (r)) g3 ∧ F_keys_consists_L1 x1 g3 J4 n7 x6 = some r) ⟨((((x1).length : Int)).toNat + 1), [(0, .v (.string ⟨⟨x1⟩⟩)), (1, .v (.func (.func f3) #[] ⟨ca3⟩)), (10, .v (.int .i64 (((x1).length : Int)))), (11, .v (.int .i64 ((0 : Int))))], ⟨rfl, rfl, rfl, rfl, trivial⟩, (0 : Int), rfl, rfl, hg3, hF⟩ ?_
      rintro n7 L' V8 M' ⟨x6, rfl, rfl, h9, hF⟩
      rcases n7 with _ | n7
      · exact absurd hF (by simp [F_keys_consists_L1])
      rw [F_keys_consists_L1] at hF
      refine Exec.run tyOk 400 rfl ?_
      rcases cond_some hF with ⟨hb, hF⟩ | ⟨hb, hF⟩
      · skip
        refine Exec.ifT rfl hb ?_
        refine Exec.run tyOk 400 rfl ?_
        obtain ⟨q10, hF⟩ := req_some hF
        refine Exec.idx tyOk rfl rfl q10 ?_
        refine Exec.run tyOk 400 rfl ?_
        obtain ⟨x11, hx11, hF⟩ := bnd_some hF
        refine Exec.callS (.bool (x11)) rfl rfl (h9.at hx11) ?_
        refine Exec.run tyOk 400 rfl ?_
        rcases cond_some hF with ⟨hb, hF⟩ | ⟨hb, hF⟩
        · skip
          refine Exec.ifT rfl hb ?_
          refine Exec.run tyOk 400 rfl ?_
          obtain rfl := some_inj hF
          exact Exec.ret tyOk rfl rfl rfl
        · skip
          refine Exec.ifF rfl hb ?_
          refine Exec.run tyOk 400 rfl ?_
          exact Exec.round [(0, .v (.string ⟨⟨x1⟩⟩)), (1, .v (.func (.func f3) #[] ⟨ca3⟩)), (10, .v (.int .i64 (((x1).length : Int)))), (11, .v (.int .i64 ((IntKind.i64.wrap (x6 + (1 : Int))))))] ⟨rfl, rfl, rfl, rfl, trivial⟩ ⟨n7, Nat.lt_succ_self _, (IntKind.i64.wrap (x6 + (1 : Int))), rfl, rfl, h9, hF⟩
      · skip
        refine Exec.ifF rfl hb ?_
        refine Exec.run tyOk 400 rfl ?_
        exact Exec.round [] trivial ⟨rfl, rfl, hF⟩

def F_keys_isBound_1 (x1 : Int) : Option Bool :=
  (some ((decide ((33 : Int) ≤ x1)) && (decide (x1 ≤ (126 : Int)))))

set_option maxRecDepth 100000 in
theorem W_keys_isBound_1 {V : View} (x1 : Int)   {r : Bool} (hF : F_keys_isBound_1 x1 = some r) :
    Spec Try.prog 77 [.int .u8 (x1)] V (fun _ v => v = .bool (r)) := by
  unfold F_keys_isBound_1 at hF
  refine Spec.enter (T := tyT) Try.func77 rfl (by kernel_rfl) rfl rfl rfl ?_
  refine Exec.run tyOk 400 rfl ?_
  obtain rfl := some_inj hF
  exact Exec.ret tyOk rfl rfl rfl

def F_strings_Compare (x1 x2 : Str) : Option Int := some (Go.Lib.compareBytes x1 x2)

theorem W_strings_Compare {V : View} (x1 x2 : Str) {r : Int} (hF : F_strings_Compare x1 x2 = some r) :
    Spec Try.prog 78 [.string ⟨⟨x1⟩⟩, .string ⟨⟨x2⟩⟩] V (fun _ v => v = .int .i64 r) := by
  obtain rfl := some_inj hF
  exact Spec.pure ⟨_, Try.func78, by kernel_rfl, by kernel_rfl⟩ (fun w => Try.strings_Compare ⟨⟨x1⟩⟩ ⟨⟨x2⟩⟩ w)


def F_clockworkref06_with_L1 (x1 : List TPair) (x3 : TPair) (J5 : Int → Option (List TPair)) : Nat → Int → Option (List TPair)
  | 0, _ => none
  | n24 + 1, x23 => (req ((((decide (x23 < (((x1).length : Nat) : Int)))) == true) = true → 0 ≤ x23 ∧ x23 < ((x1).length : Int)) (cond ((decide (x23 < (((x1).length : Nat) : Int))) && (sLt (cond (((decide (x23 < (((x1).length : Nat) : Int)))) == true) (atI x1 x23) default).Key x3.Key)) (F_clockworkref06_with_L1 x1 x3 J5 n24 ((IntKind.i64.wrap (x23 + (1 : Int))))) (J5 x23)))

def F_clockworkref06_with (x1 : List TPair) (x3 : TPair) : Option (List TPair) :=
  (jn (fun (x4 : Int) => (req (0 ≤ (0 : Int) ∧ (0 : Int) ≤ x4 ∧ x4 ≤ ((x1).length : Int)) (req (((([] : List TPair) ++ ((x1.take (x4).toNat).drop ((0 : Int)).toNat))).length * 48 ≤ 140737488355328) (req ((((([] : List TPair) ++ ((x1.take (x4).toNat).drop ((0 : Int)).toNat)) ++ [x3])).length * 48 ≤ 140737488355328) (req (0 ≤ x4 ∧ x4 ≤ (((x1).length : Nat) : Int) ∧ (((x1).length : Nat) : Int) ≤ ((x1).length : Int)) (req (((((([] : List TPair) ++ ((x1.take (x4).toNat).drop ((0 : Int)).toNat)) ++ [x3]) ++ ((x1.take ((((x1).length : Nat) : Int)).toNat).drop (x4).toNat))).length * 48 ≤ 140737488355328) (some (((([] : List TPair) ++ ((x1.take (x4).toNat).drop ((0 : Int)).toNat)) ++ [x3]) ++ ((x1.take ((((x1).length : Nat) : Int)).toNat).drop (x4).toNat))))))))) (fun J5 => (F_clockworkref06_with_L1 x1 x3 J5 (1000000 : Nat) ((0 : Int)))))

set_option maxRecDepth 100000 in
theorem W_clockworkref06_with {V : View} (x1 : List TPair) (x3 : TPair) {a2 : Option Addr} {k2 : Nat} (h2 : SlAt cTPair V a2 k2 x1) {r : List TPair} (hF : F_clockworkref06_with x1 x3 = some r) :
    Spec Try.prog 81 [.slice a2 ((x1).length) (k2), .agg ⟨[.string ⟨⟨x3.Key⟩⟩, .int .i64 (x3.Val.Kind), .int .i64 (x3.Val.N), .string ⟨⟨x3.Val.S⟩⟩]⟩] V (fun V' v => ∃ (a29 : Option Addr) (k29 : Nat), v = .slice a29 ((r).length) (k29) ∧ SlAt cTPair V' a29 k29 r) := by
  unfold F_clockworkref06_with at hF
  refine Spec.enter (T := tyT) Try.func81 rfl (by kernel_rfl) rfl rfl rfl ?_
  refine Exec.run tyOk 10 rfl ?_
  obtain ⟨J5, hJ5, hF⟩ := jn_some hF
  refine Exec.seam (fun L' V' M' => ∃ (x4 : Int), L' = [(0, .v (.slice a2 ((x1).length) (k2))), (3, .ptr 0 0), (5, .v (.int .i64 (x4)))] ∧ M' = [.blk [.v (.string ⟨⟨x3.Key⟩⟩), .v (.int .i64 (x3.Val.Kind)), .v (.int .i64 (x3.Val.N)), .v (.string ⟨⟨x3.Val.S⟩⟩)] 68] ∧ SlAt cTPair V' a2 k2 x1 ∧ J5 x4 = some r) rfl ?_ ?_
  · rintro L' V6 M' ⟨x4, rfl, rfl, h7, hF⟩
    subst hJ5
    refine Exec.run tyOk 400 rfl ?_
    obtain ⟨q8, hF⟩ := req_some hF
    refine Exec.slv tyOk (c := cTPair) rfl rfl (lo := (0 : Int)) (hi := x4) rfl rfl h7 (by simp) rfl q8 (fun a9 k9 h9 => ?_)
    refine Exec.run tyOk 400 rfl ?_
    refine Exec.row0 68 4 rfl ?_
    have h10 : RowRep cTPair V6 [] [] := RowRep.nil
    obtain ⟨q12, hF⟩ := req_some hF
    refine Exec.appS tyOk (cd := cTPair) 1 (nm := ((([] : List TPair) ++ ((x1.take (x4).toNat).drop ((0 : Int)).toNat))).length) rfl rfl rfl rfl rfl rfl h9 (by first | rfl | simp) (by first | rfl | exact List.length_append.symm | simp) (fun _ _ _ => rfl) rfl q12 (fun cs11 hs11 a11 k11 => ?_)
    have h11 : RowRep cTPair V6 (([] : List TPair) ++ ((x1.take (x4).toNat).drop ((0 : Int)).toNat)) ([] ++ cs11) := RowRep.app h10 hs11
    refine Exec.run tyOk 400 rfl ?_
    refine Exec.bsl tyOk rfl rfl ?_
    refine Exec.run tyOk 400 rfl ?_
    obtain ⟨q14, hF⟩ := req_some hF
    refine Exec.app tyOk 1 2 (nm := (((([] : List TPair) ++ ((x1.take (x4).toNat).drop ((0 : Int)).toNat)) ++ [x3])).length) rfl rfl rfl rfl rfl rfl rfl rfl rfl (by simp) (fun _ _ => rfl) rfl q14 (fun a13 k13 => ?_)
    have h13 : RowRep cTPair V6 ((([] : List TPair) ++ ((x1.take (x4).toNat).drop ((0 : Int)).toNat)) ++ [x3]) (([] ++ cs11) ++ [.string ⟨⟨x3.Key⟩⟩, .int .i64 (x3.Val.Kind), .int .i64 (x3.Val.N), .string ⟨⟨x3.Val.S⟩⟩]) := RowRep.app h11 ⟨_, _, rfl, rfl, rfl⟩
    refine Exec.run tyOk 400 rfl ?_
    obtain ⟨q15, hF⟩ := req_some hF
    refine Exec.slv tyOk (c := cTPair) rfl rfl (lo := x4) (hi := (((x1).length : Nat) : Int)) rfl rfl h7 (by simp) rfl q15 (fun a16 k16 h16 => ?_)
    refine Exec.run tyOk 400 rfl ?_
    obtain ⟨q18, hF⟩ := req_some hF
    refine Exec.appS tyOk (cd := cTPair) 1 (nm := ((((([] : List TPair) ++ ((x1.take (x4).toNat).drop ((0 : Int)).toNat)) ++ [x3]) ++ ((x1.take ((((x1).length : Nat) : Int)).toNat).drop (x4).toNat))).length) rfl rfl rfl rfl rfl rfl h16 (by first | rfl | simp) (by first | rfl | exact List.length_append.symm | simp) (fun _ _ _ => rfl) rfl q18 (fun cs17 hs17 a17 k17 => ?_)
    have h17 : RowRep cTPair V6 (((([] : List TPair) ++ ((x1.take (x4).toNat).drop ((0 : Int)).toNat)) ++ [x3]) ++ ((x1.take ((((x1).length : Nat) : Int)).toNat).drop (x4).toNat)) ((([] ++ cs11) ++ [.string ⟨⟨x3.Key⟩⟩, .int .i64 (x3.Val.Kind), .int .i64 (x3.Val.N), .string ⟨⟨x3.Val.S⟩⟩]) ++ cs17) := RowRep.app h13 hs17
    refine Exec.run tyOk 400 rfl ?_
    refine Exec.frz 1 rfl rfl rfl (fun V19 hv19 hd19 hn19 => ?_)
    have hz19 := RowRep.slat h17 hv19 hd19 hn19
    have h20 := SlAt.mono h7 hv19
    have h21 := SlAt.mono h9 hv19
    have h22 := SlAt.mono h16 hv19
    obtain rfl := some_inj hF
    exact Exec.ret tyOk rfl rfl ⟨_, _, rfl, hz19⟩
  · skip
    refine Exec.run tyOk 400 rfl ?_
    refine Exec.loop (fun n24 L' V' M' => ∃ (x23 : Int), L' = [(0, .v (.slice a2 ((x1).length) (k2))), (3, .ptr 0 0), (5, .v (.int .i64 (x23)))] ∧ M' = [.blk [.v (.string ⟨⟨x3.Key⟩⟩), .v (.int .i64 (x3.Val.Kind)), .v (.int .i64 (x3.Val.N)), .v (.string ⟨⟨x3.Val.S⟩⟩)] 68] ∧ SlAt cTPair V' a2 k2 x1 ∧ F_clockworkref06_with_L1 x1 x3 J5 n24 x23 = some r) ⟨(1000000 : Nat), [(0, .v (.slice a2 ((x1).length) (k2))), (3, .ptr 0 0), (5, .v (.int .i64 ((0 : Int))))], ⟨rfl, rfl, rfl, trivial⟩, (0 : Int), rfl, rfl, h2, hF⟩ ?_
    rintro n24 L' V25 M' ⟨x23, rfl, rfl, h26, hF⟩
    rcases n24 with _ | n24
    · exact absurd hF (by simp [F_clockworkref06_with_L1])
    rw [F_clockworkref06_with_L1] at hF
    refine Exec.run tyOk 400 rfl ?_
    refine Exec.draws tyOk [(0, true), (1, true), (2, true), (3, true), (4, true), (5, true), (6, true), (7, true), (8, true), (9, true), (10, true), (11, true), (12, true), (13, true)] rfl (by kernel_rfl) ?_
    refine Exec.run tyOk 400 rfl ?_
    obtain ⟨q27, hF⟩ := req_some hF
    obtain ⟨c28, hr28, hd28⟩ := SlAt.gget (((decide (x23 < (((x1).length : Nat) : Int)))) == true) h26 q27
    obtain rfl := hr28
    refine Exec.fia tyOk rfl rfl rfl (fun gg0 => ⟨(q27 (gd1_of gg0)).1, (q27 (gd1_of gg0)).2, (hd28 (gd1_of gg0)).some⟩) ?_
    refine Exec.run tyOk 400 rfl ?_
    refine Exec.fld tyOk (x := .string ⟨⟨(cond (((decide (x23 < (((x1).length : Nat) : Int)))) == true) (atI x1 x23) default).Key⟩⟩) rfl rfl rfl (fun gg0 => (RdAt.part (hd28 (gd1_of gg0)) 0 1 rfl)) rfl rfl ?_
    refine Exec.run tyOk 400 rfl ?_
    rcases cond_some hF with ⟨hb, hF⟩ | ⟨hb, hF⟩
    · skip
      refine Exec.ifT rfl hb ?_
      refine Exec.run tyOk 400 rfl ?_
      exact Exec.round [(0, .v (.slice a2 ((x1).length) (k2))), (3, .ptr 0 0), (5, .v (.int .i64 ((IntKind.i64.wrap (x23 + (1 : Int))))))] ⟨rfl, rfl, rfl, trivial⟩ ⟨n24, Nat.lt_succ_self _, (IntKind.i64.wrap (x23 + (1 : Int))), rfl, rfl, h26, hF⟩
    · skip
      refine Exec.ifF rfl hb ?_
      refine Exec.run tyOk 400 rfl ?_
      exact Exec.round [(0, .v (.slice a2 ((x1).length) (k2))), (3, .ptr 0 0), (5, .v (.int .i64 (x23)))] ⟨rfl, rfl, rfl, trivial⟩ ⟨x23, rfl, rfl, h26, hF⟩

def F_keys_Valid_1 (x1 : Int) : Option Bool :=
  (some (((((((decide ((97 : Int) ≤ x1)) && (decide (x1 ≤ (122 : Int)))) || ((decide ((48 : Int) ≤ x1)) && (decide (x1 ≤ (57 : Int))))) || (x1 == (47 : Int))) || (x1 == (46 : Int))) || (x1 == (95 : Int))) || (x1 == (45 : Int))))

set_option maxRecDepth 100000 in
theorem W_keys_Valid_1 {V : View} (x1 : Int)   {r : Bool} (hF : F_keys_Valid_1 x1 = some r) :
    Spec Try.prog 84 [.int .u8 (x1)] V (fun _ v => v = .bool (r)) := by
  unfold F_keys_Valid_1 at hF
  refine Spec.enter (T := tyT) Try.func84 rfl (by kernel_rfl) rfl rfl rfl ?_
  refine Exec.run tyOk 400 rfl ?_
  obtain rfl := some_inj hF
  exact Exec.ret tyOk rfl rfl rfl

def F_value_plain_L1 (x1 : Str) (J2 : Option Bool) : Nat → Int → Option Bool
  | 0, _ => none
  | n5 + 1, x4 => (cond (decide (x4 < ((x1).length : Int))) (req (0 ≤ x4 ∧ x4 < ((x1).length : Int)) (req ((((decide ((byteAt x1 (x4).toNat) < (32 : Int)))) == false) = true → 0 ≤ x4 ∧ x4 < ((x1).length : Int)) (cond ((decide ((byteAt x1 (x4).toNat) < (32 : Int))) || (decide ((126 : Int) < (byteAt x1 (x4).toNat)))) (some false) (F_value_plain_L1 x1 J2 n5 ((IntKind.i64.wrap (x4 + (1 : Int)))))))) J2)

def F_value_plain (x1 : Str) : Option Bool :=
  (jn ((some (decide (((x1).length : Int) ≤ (64 : Int))))) (fun J2 => (F_value_plain_L1 x1 J2 ((((x1).length : Int)).toNat + 1) ((0 : Int)))))

set_option maxRecDepth 100000 in
theorem W_value_plain {V : View} (x1 : Str)   {r : Bool} (hF : F_value_plain x1 = some r) :
    Spec Try.prog 85 [.string ⟨⟨x1⟩⟩] V (fun _ v => v = .bool (r)) := by
  unfold F_value_plain at hF
  refine Spec.enter (T := tyT) Try.func85 rfl (by kernel_rfl) rfl rfl rfl ?_
  refine Exec.run tyOk 9 rfl ?_
  obtain ⟨J2, hJ2, hF⟩ := jn_some hF
  refine Exec.seam (fun L' V' M' => L' = [(0, .v (.string ⟨⟨x1⟩⟩))] ∧ M' = [] ∧ J2 = some r) rfl ?_ ?_
  · rintro L' V3 M' ⟨rfl, rfl, hF⟩
    subst hJ2
    refine Exec.run tyOk 400 rfl ?_
    obtain rfl := some_inj hF
    exact Exec.ret tyOk rfl rfl rfl
  · skip
    refine Exec.run tyOk 400 rfl ?_
    refine Exec.loop (fun n5 L' V' M' => ∃ (x4 : Int), L' = [(0, .v (.string ⟨⟨x1⟩⟩)), (3, .v (.int .i64 (x4)))] ∧ M' = [] ∧ F_value_plain_L1 x1 J2 n5 x4 = some r) ⟨((((x1).length : Int)).toNat + 1), [(0, .v (.string ⟨⟨x1⟩⟩)), (3, .v (.int .i64 ((0 : Int))))], ⟨rfl, rfl, trivial⟩, (0 : Int), rfl, rfl, hF⟩ ?_
    rintro n5 L' V6 M' ⟨x4, rfl, rfl, hF⟩
    rcases n5 with _ | n5
    · exact absurd hF (by simp [F_value_plain_L1])
    rw [F_value_plain_L1] at hF
    refine Exec.run tyOk 400 rfl ?_
    rcases cond_some hF with ⟨hb, hF⟩ | ⟨hb, hF⟩
    · skip
      refine Exec.ifT rfl hb ?_
      refine Exec.run tyOk 400 rfl ?_
      obtain ⟨q7, hF⟩ := req_some hF
      refine Exec.idx tyOk rfl rfl q7 ?_
      refine Exec.run tyOk 400 rfl ?_
      obtain ⟨q8, hF⟩ := req_some hF
      refine Exec.idx tyOk rfl rfl (fun gg0 => q8 (gd1_of gg0)) ?_
      refine Exec.run tyOk 400 rfl ?_
      rcases cond_some hF with ⟨hb, hF⟩ | ⟨hb, hF⟩
      · skip
        refine Exec.ifT rfl hb ?_
        refine Exec.run tyOk 400 rfl ?_
        obtain rfl := some_inj hF
        exact Exec.ret tyOk rfl rfl rfl
      · skip
        refine Exec.ifF rfl hb ?_
        refine Exec.run tyOk 400 rfl ?_
        exact Exec.round [(0, .v (.string ⟨⟨x1⟩⟩)), (3, .v (.int .i64 ((IntKind.i64.wrap (x4 + (1 : Int))))))] ⟨rfl, rfl, trivial⟩ ⟨n5, Nat.lt_succ_self _, (IntKind.i64.wrap (x4 + (1 : Int))), rfl, rfl, hF⟩
    · skip
      refine Exec.ifF rfl hb ?_
      refine Exec.run tyOk 400 rfl ?_
      exact Exec.round [(0, .v (.string ⟨⟨x1⟩⟩))] ⟨rfl, trivial⟩ ⟨rfl, rfl, hF⟩

def F_clockworkref05_Plain_L1 (x1 : Str) (J2 : Option Bool) : Nat → Int → Option Bool
  | 0, _ => none
  | n5 + 1, x4 => (cond (decide (x4 < ((x1).length : Int))) (req (0 ≤ x4 ∧ x4 < ((x1).length : Int)) (req ((((decide ((byteAt x1 (x4).toNat) < (32 : Int)))) == false) = true → 0 ≤ x4 ∧ x4 < ((x1).length : Int)) (cond ((decide ((byteAt x1 (x4).toNat) < (32 : Int))) || (decide ((126 : Int) < (byteAt x1 (x4).toNat)))) (some false) (F_clockworkref05_Plain_L1 x1 J2 n5 ((IntKind.i64.wrap (x4 + (1 : Int)))))))) J2)

def F_clockworkref05_Plain (x1 : Str) : Option Bool :=
  (cond (decide ((64 : Int) < ((x1).length : Int))) (some false) (jn ((some true)) (fun J2 => (F_clockworkref05_Plain_L1 x1 J2 ((((x1).length : Int)).toNat + 1) ((0 : Int))))))

set_option maxRecDepth 100000 in
theorem W_clockworkref05_Plain {V : View} (x1 : Str)   {r : Bool} (hF : F_clockworkref05_Plain x1 = some r) :
    Spec Try.prog 87 [.string ⟨⟨x1⟩⟩] V (fun _ v => v = .bool (r)) := by
  unfold F_clockworkref05_Plain at hF
  refine Spec.enter (T := tyT) Try.func87 rfl (by kernel_rfl) rfl rfl rfl ?_
  refine Exec.run tyOk 400 rfl ?_
  rcases cond_some hF with ⟨hb, hF⟩ | ⟨hb, hF⟩
  · skip
    refine Exec.ifT rfl hb ?_
    refine Exec.run tyOk 400 rfl ?_
    obtain rfl := some_inj hF
    exact Exec.ret tyOk rfl rfl rfl
  · skip
    refine Exec.ifF rfl hb ?_
    refine Exec.run tyOk 6 rfl ?_
    obtain ⟨J2, hJ2, hF⟩ := jn_some hF
    refine Exec.seam (fun L' V' M' => L' = [] ∧ M' = [] ∧ J2 = some r) rfl ?_ ?_
    · rintro L' V3 M' ⟨rfl, rfl, hF⟩
      subst hJ2
      refine Exec.run tyOk 400 rfl ?_
      obtain rfl := some_inj hF
      exact Exec.ret tyOk rfl rfl rfl
    · skip
      refine Exec.run tyOk 400 rfl ?_
      refine Exec.loop (fun n5 L' V' M' => ∃ (x4 : Int), L' = [(0, .v (.string ⟨⟨x1⟩⟩)), (3, .v (.int .i64 (x4)))] ∧ M' = [] ∧ F_clockworkref05_Plain_L1 x1 J2 n5 x4 = some r) ⟨((((x1).length : Int)).toNat + 1), [(0, .v (.string ⟨⟨x1⟩⟩)), (3, .v (.int .i64 ((0 : Int))))], ⟨rfl, rfl, trivial⟩, (0 : Int), rfl, rfl, hF⟩ ?_
      rintro n5 L' V6 M' ⟨x4, rfl, rfl, hF⟩
      rcases n5 with _ | n5
      · exact absurd hF (by simp [F_clockworkref05_Plain_L1])
      rw [F_clockworkref05_Plain_L1] at hF
      refine Exec.run tyOk 400 rfl ?_
      rcases cond_some hF with ⟨hb, hF⟩ | ⟨hb, hF⟩
      · skip
        refine Exec.ifT rfl hb ?_
        refine Exec.run tyOk 400 rfl ?_
        obtain ⟨q7, hF⟩ := req_some hF
        refine Exec.idx tyOk rfl rfl q7 ?_
        refine Exec.run tyOk 400 rfl ?_
        obtain ⟨q8, hF⟩ := req_some hF
        refine Exec.idx tyOk rfl rfl (fun gg0 => q8 (gd1_of gg0)) ?_
        refine Exec.run tyOk 400 rfl ?_
        rcases cond_some hF with ⟨hb, hF⟩ | ⟨hb, hF⟩
        · skip
          refine Exec.ifT rfl hb ?_
          refine Exec.run tyOk 400 rfl ?_
          obtain rfl := some_inj hF
          exact Exec.ret tyOk rfl rfl rfl
        · skip
          refine Exec.ifF rfl hb ?_
          refine Exec.run tyOk 400 rfl ?_
          exact Exec.round [(0, .v (.string ⟨⟨x1⟩⟩)), (3, .v (.int .i64 ((IntKind.i64.wrap (x4 + (1 : Int))))))] ⟨rfl, rfl, trivial⟩ ⟨n5, Nat.lt_succ_self _, (IntKind.i64.wrap (x4 + (1 : Int))), rfl, rfl, hF⟩
      · skip
        refine Exec.ifF rfl hb ?_
        refine Exec.run tyOk 400 rfl ?_
        exact Exec.round [] trivial ⟨rfl, rfl, hF⟩

def F_clockworkref04_Valid_L1 (x1 : Str) (J2 : Option Bool) : Nat → Int → Option Bool
  | 0, _ => none
  | n5 + 1, x4 => (cond (decide (x4 < ((x1).length : Int))) (req (0 ≤ x4 ∧ x4 < ((x1).length : Int)) (cond (((((((decide ((byteAt x1 (x4).toNat) < (97 : Int))) || (decide ((122 : Int) < (byteAt x1 (x4).toNat)))) && ((decide ((byteAt x1 (x4).toNat) < (48 : Int))) || (decide ((57 : Int) < (byteAt x1 (x4).toNat))))) && ((byteAt x1 (x4).toNat) != (47 : Int))) && ((byteAt x1 (x4).toNat) != (46 : Int))) && ((byteAt x1 (x4).toNat) != (95 : Int))) && ((byteAt x1 (x4).toNat) != (45 : Int))) (some false) (F_clockworkref04_Valid_L1 x1 J2 n5 ((IntKind.i64.wrap (x4 + (1 : Int))))))) J2)

def F_clockworkref04_Valid (x1 : Str) : Option Bool :=
  (jn ((some ((decide ((1 : Int) ≤ ((x1).length : Int))) && (decide (((x1).length : Int) ≤ (24 : Int)))))) (fun J2 => (F_clockworkref04_Valid_L1 x1 J2 ((((x1).length : Int)).toNat + 1) ((0 : Int)))))

set_option maxRecDepth 100000 in
theorem W_clockworkref04_Valid {V : View} (x1 : Str)   {r : Bool} (hF : F_clockworkref04_Valid x1 = some r) :
    Spec Try.prog 88 [.string ⟨⟨x1⟩⟩] V (fun _ v => v = .bool (r)) := by
  unfold F_clockworkref04_Valid at hF
  refine Spec.enter (T := tyT) Try.func88 rfl (by kernel_rfl) rfl rfl rfl ?_
  refine Exec.run tyOk 9 rfl ?_
  obtain ⟨J2, hJ2, hF⟩ := jn_some hF
  refine Exec.seam (fun L' V' M' => L' = [(0, .v (.string ⟨⟨x1⟩⟩))] ∧ M' = [] ∧ J2 = some r) rfl ?_ ?_
  · rintro L' V3 M' ⟨rfl, rfl, hF⟩
    subst hJ2
    refine Exec.run tyOk 400 rfl ?_
    obtain rfl := some_inj hF
    exact Exec.ret tyOk rfl rfl rfl
  · skip
    refine Exec.run tyOk 400 rfl ?_
    refine Exec.loop (fun n5 L' V' M' => ∃ (x4 : Int), L' = [(0, .v (.string ⟨⟨x1⟩⟩)), (3, .v (.int .i64 (x4)))] ∧ M' = [] ∧ F_clockworkref04_Valid_L1 x1 J2 n5 x4 = some r) ⟨((((x1).length : Int)).toNat + 1), [(0, .v (.string ⟨⟨x1⟩⟩)), (3, .v (.int .i64 ((0 : Int))))], ⟨rfl, rfl, trivial⟩, (0 : Int), rfl, rfl, hF⟩ ?_
    rintro n5 L' V6 M' ⟨x4, rfl, rfl, hF⟩
    rcases n5 with _ | n5
    · exact absurd hF (by simp [F_clockworkref04_Valid_L1])
    rw [F_clockworkref04_Valid_L1] at hF
    refine Exec.run tyOk 400 rfl ?_
    rcases cond_some hF with ⟨hb, hF⟩ | ⟨hb, hF⟩
    · skip
      refine Exec.ifT rfl hb ?_
      refine Exec.run tyOk 400 rfl ?_
      obtain ⟨q7, hF⟩ := req_some hF
      refine Exec.idx tyOk rfl rfl q7 ?_
      refine Exec.run tyOk 400 rfl ?_
      rcases cond_some hF with ⟨hb, hF⟩ | ⟨hb, hF⟩
      · skip
        refine Exec.ifT rfl hb ?_
        refine Exec.run tyOk 400 rfl ?_
        obtain rfl := some_inj hF
        exact Exec.ret tyOk rfl rfl rfl
      · skip
        refine Exec.ifF rfl hb ?_
        refine Exec.run tyOk 400 rfl ?_
        exact Exec.round [(0, .v (.string ⟨⟨x1⟩⟩)), (3, .v (.int .i64 ((IntKind.i64.wrap (x4 + (1 : Int))))))] ⟨rfl, rfl, trivial⟩ ⟨n5, Nat.lt_succ_self _, (IntKind.i64.wrap (x4 + (1 : Int))), rfl, rfl, hF⟩
    · skip
      refine Exec.ifF rfl hb ?_
      refine Exec.run tyOk 400 rfl ?_
      exact Exec.round [(0, .v (.string ⟨⟨x1⟩⟩))] ⟨rfl, trivial⟩ ⟨rfl, rfl, hF⟩

def F_math_bits_Len32 (x1 : Int) : Option Int :=
  (jn (fun (x2 : Int) (x3 : Int) => (jn (fun (x6 : Int) (x7 : Int) => (req (0 ≤ (IntKind.u8.wrap x6) ∧ (IntKind.u8.wrap x6) < ((([0, 1, 2, 2, 3, 3, 3, 3, 4, 4, 4, 4, 4, 4, 4, 4, 5, 5, 5, 5, 5, 5, 5, 5, 5, 5, 5, 5, 5, 5, 5, 5, 6, 6, 6, 6, 6, 6, 6, 6, 6, 6, 6, 6, 6, 6, 6, 6, 6, 6, 6, 6, 6, 6, 6, 6, 6, 6, 6, 6, 6, 6, 6, 6, 7, 7, 7, 7, 7, 7, 7, 7, 7, 7, 7, 7, 7, 7, 7, 7, 7, 7, 7, 7, 7, 7, 7, 7, 7, 7, 7, 7, 7, 7, 7, 7, 7, 7, 7, 7, 7, 7, 7, 7, 7, 7, 7, 7, 7, 7, 7, 7, 7, 7, 7, 7, 7, 7, 7, 7, 7, 7, 7, 7, 7, 7, 7, 7, 8, 8, 8, 8, 8, 8, 8, 8, 8, 8, 8, 8, 8, 8, 8, 8, 8, 8, 8, 8, 8, 8, 8, 8, 8, 8, 8, 8, 8, 8, 8, 8, 8, 8, 8, 8, 8, 8, 8, 8, 8, 8, 8, 8, 8, 8, 8, 8, 8, 8, 8, 8, 8, 8, 8, 8, 8, 8, 8, 8, 8, 8, 8, 8, 8, 8, 8, 8, 8, 8, 8, 8, 8, 8, 8, 8, 8, 8, 8, 8, 8, 8, 8, 8, 8, 8, 8, 8, 8, 8, 8, 8, 8, 8, 8, 8, 8, 8, 8, 8, 8, 8, 8, 8, 8, 8, 8, 8, 8, 8, 8, 8, 8, 8, 8, 8, 8, 8, 8, 8, 8, 8, 8, 8, 8, 8, 8, 8] : Str)).length : Int)) (some (IntKind.i64.wrap (x7 + (IntKind.i64.wrap (byteAt (([0, 1, 2, 2, 3, 3, 3, 3, 4, 4, 4, 4, 4, 4, 4, 4, 5, 5, 5, 5, 5, 5, 5, 5, 5, 5, 5, 5, 5, 5, 5, 5, 6, 6, 6, 6, 6, 6, 6, 6, 6, 6, 6, 6, 6, 6, 6, 6, 6, 6, 6, 6, 6, 6, 6, 6, 6, 6, 6, 6, 6, 6, 6, 6, 7, 7, 7, 7, 7, 7, 7, 7, 7, 7, 7, 7, 7, 7, 7, 7, 7, 7, 7, 7, 7, 7, 7, 7, 7, 7, 7, 7, 7, 7, 7, 7, 7, 7, 7, 7, 7, 7, 7, 7, 7, 7, 7, 7, 7, 7, 7, 7, 7, 7, 7, 7, 7, 7, 7, 7, 7, 7, 7, 7, 7, 7, 7, 7, 8, 8, 8, 8, 8, 8, 8, 8, 8, 8, 8, 8, 8, 8, 8, 8, 8, 8, 8, 8, 8, 8, 8, 8, 8, 8, 8, 8, 8, 8, 8, 8, 8, 8, 8, 8, 8, 8, 8, 8, 8, 8, 8, 8, 8, 8, 8, 8, 8, 8, 8, 8, 8, 8, 8, 8, 8, 8, 8, 8, 8, 8, 8, 8, 8, 8, 8, 8, 8, 8, 8, 8, 8, 8, 8, 8, 8, 8, 8, 8, 8, 8, 8, 8, 8, 8, 8, 8, 8, 8, 8, 8, 8, 8, 8, 8, 8, 8, 8, 8, 8, 8, 8, 8, 8, 8, 8, 8, 8, 8, 8, 8, 8, 8, 8, 8, 8, 8, 8, 8, 8, 8, 8, 8, 8, 8, 8, 8] : Str)) ((IntKind.u8.wrap x6)).toNat))))))) (fun J8 => (cond (decide ((256 : Int) ≤ x2)) (req (0 ≤ (8 : Int)) (J8 ((shrI .u32 x2 (8 : Int))) ((IntKind.i64.wrap (x3 + (8 : Int)))))) (J8 x2 x3))))) (fun J4 => (cond (decide ((65536 : Int) ≤ x1)) (req (0 ≤ (16 : Int)) (J4 ((shrI .u32 x1 (16 : Int))) ((16 : Int)))) (J4 x1 ((0 : Int))))))

set_option maxRecDepth 100000 in
theorem W_math_bits_Len32 {V : View} (x1 : Int)   {r : Int} (hF : F_math_bits_Len32 x1 = some r) :
    Spec Try.prog 105 [.int .u32 (x1)] V (fun _ v => v = .int .i64 (r)) := by
  unfold F_math_bits_Len32 at hF
  refine Spec.enter (T := tyT) Try.func105 rfl (by kernel_rfl) rfl rfl rfl ?_
  refine Exec.run tyOk 400 rfl ?_
  obtain ⟨J4, hJ4, hF⟩ := jn_some hF
  refine Exec.seam (fun L' V' M' => ∃ (x2 : Int) (x3 : Int), L' = [(0, .v (.int .u32 (x2))), (2, .v (.int .i64 (x3)))] ∧ M' = [] ∧ J4 x2 x3 = some r) rfl ?_ ?_
  · rintro L' V5 M' ⟨x2, x3, rfl, rfl, hF⟩
    subst hJ4
    refine Exec.run tyOk 400 rfl ?_
    obtain ⟨J8, hJ8, hF⟩ := jn_some hF
    refine Exec.seam (fun L' V' M' => ∃ (x6 : Int) (x7 : Int), L' = [(0, .v (.int .u32 (x6))), (2, .v (.int .i64 (x7)))] ∧ M' = [] ∧ J8 x6 x7 = some r) rfl ?_ ?_
    · rintro L' V9 M' ⟨x6, x7, rfl, rfl, hF⟩
      subst hJ8
      refine Exec.run tyOk 400 rfl ?_
      obtain ⟨q10, hF⟩ := req_some hF
      refine Exec.idx tyOk rfl rfl q10 ?_
      refine Exec.run tyOk 400 rfl ?_
      obtain rfl := some_inj hF
      exact Exec.ret tyOk rfl rfl rfl
    · skip
      refine Exec.run tyOk 400 rfl ?_
      rcases cond_some hF with ⟨hb, hF⟩ | ⟨hb, hF⟩
      · skip
        refine Exec.ifT rfl hb ?_
        refine Exec.run tyOk 400 rfl ?_
        obtain ⟨q11, hF⟩ := req_some hF
        refine Exec.ari rfl rfl q11 ?_
        refine Exec.run tyOk 400 rfl ?_
        exact Exec.round [(0, .v (.int .u32 ((shrI .u32 x2 (8 : Int))))), (2, .v (.int .i64 ((IntKind.i64.wrap (x3 + (8 : Int))))))] ⟨rfl, rfl, trivial⟩ ⟨(shrI .u32 x2 (8 : Int)), (IntKind.i64.wrap (x3 + (8 : Int))), rfl, rfl, hF⟩
      · skip
        refine Exec.ifF rfl hb ?_
        refine Exec.run tyOk 400 rfl ?_
        exact Exec.round [(0, .v (.int .u32 (x2))), (2, .v (.int .i64 (x3)))] ⟨rfl, rfl, trivial⟩ ⟨x2, x3, rfl, rfl, hF⟩
  · skip
    refine Exec.run tyOk 400 rfl ?_
    rcases cond_some hF with ⟨hb, hF⟩ | ⟨hb, hF⟩
    · skip
      refine Exec.ifT rfl hb ?_
      refine Exec.run tyOk 400 rfl ?_
      obtain ⟨q12, hF⟩ := req_some hF
      refine Exec.ari rfl rfl q12 ?_
      refine Exec.run tyOk 400 rfl ?_
      exact Exec.round [(0, .v (.int .u32 ((shrI .u32 x1 (16 : Int))))), (2, .v (.int .i64 ((16 : Int))))] ⟨rfl, rfl, trivial⟩ ⟨(shrI .u32 x1 (16 : Int)), (16 : Int), rfl, rfl, hF⟩
    · skip
      refine Exec.ifF rfl hb ?_
      refine Exec.run tyOk 400 rfl ?_
      exact Exec.round [(0, .v (.int .u32 (x1))), (2, .v (.int .i64 ((0 : Int))))] ⟨rfl, rfl, trivial⟩ ⟨x1, (0 : Int), rfl, rfl, hF⟩

def F_math_bits_Len64 (x1 : Int) : Option Int :=
  (jn (fun (x2 : Int) (x3 : Int) => (jn (fun (x6 : Int) (x7 : Int) => (jn (fun (x10 : Int) (x11 : Int) => (req (0 ≤ (IntKind.u8.wrap x10) ∧ (IntKind.u8.wrap x10) < ((([0, 1, 2, 2, 3, 3, 3, 3, 4, 4, 4, 4, 4, 4, 4, 4, 5, 5, 5, 5, 5, 5, 5, 5, 5, 5, 5, 5, 5, 5, 5, 5, 6, 6, 6, 6, 6, 6, 6, 6, 6, 6, 6, 6, 6, 6, 6, 6, 6, 6, 6, 6, 6, 6, 6, 6, 6, 6, 6, 6, 6, 6, 6, 6, 7, 7, 7, 7, 7, 7, 7, 7, 7, 7, 7, 7, 7, 7, 7, 7, 7, 7, 7, 7, 7, 7, 7, 7, 7, 7, 7, 7, 7, 7, 7, 7, 7, 7, 7, 7, 7, 7, 7, 7, 7, 7, 7, 7, 7, 7, 7, 7, 7, 7, 7, 7, 7, 7, 7, 7, 7, 7, 7, 7, 7, 7, 7, 7, 8, 8, 8, 8, 8, 8, 8, 8, 8, 8, 8, 8, 8, 8, 8, 8, 8, 8, 8, 8, 8, 8, 8, 8, 8, 8, 8, 8, 8, 8, 8, 8, 8, 8, 8, 8, 8, 8, 8, 8, 8, 8, 8, 8, 8, 8, 8, 8, 8, 8, 8, 8, 8, 8, 8, 8, 8, 8, 8, 8, 8, 8, 8, 8, 8, 8, 8, 8, 8, 8, 8, 8, 8, 8, 8, 8, 8, 8, 8, 8, 8, 8, 8, 8, 8, 8, 8, 8, 8, 8, 8, 8, 8, 8, 8, 8, 8, 8, 8, 8, 8, 8, 8, 8, 8, 8, 8, 8, 8, 8, 8, 8, 8, 8, 8, 8, 8, 8, 8, 8, 8, 8, 8, 8, 8, 8, 8, 8] : Str)).length : Int)) (some (IntKind.i64.wrap (x11 + (IntKind.i64.wrap (byteAt (([0, 1, 2, 2, 3, 3, 3, 3, 4, 4, 4, 4, 4, 4, 4, 4, 5, 5, 5, 5, 5, 5, 5, 5, 5, 5, 5, 5, 5, 5, 5, 5, 6, 6, 6, 6, 6, 6, 6, 6, 6, 6, 6, 6, 6, 6, 6, 6, 6, 6, 6, 6, 6, 6, 6, 6, 6, 6, 6, 6, 6, 6, 6, 6, 7, 7, 7, 7, 7, 7, 7, 7, 7, 7, 7, 7, 7, 7, 7, 7, 7, 7, 7, 7, 7, 7, 7, 7, 7, 7, 7, 7, 7, 7, 7, 7, 7, 7, 7, 7, 7, 7, 7, 7, 7, 7, 7, 7, 7, 7, 7, 7, 7, 7, 7, 7, 7, 7, 7, 7, 7, 7, 7, 7, 7, 7, 7, 7, 8, 8, 8, 8, 8, 8, 8, 8, 8, 8, 8, 8, 8, 8, 8, 8, 8, 8, 8, 8, 8, 8, 8, 8, 8, 8, 8, 8, 8, 8, 8, 8, 8, 8, 8, 8, 8, 8, 8, 8, 8, 8, 8, 8, 8, 8, 8, 8, 8, 8, 8, 8, 8, 8, 8, 8, 8, 8, 8, 8, 8, 8, 8, 8, 8, 8, 8, 8, 8, 8, 8, 8, 8, 8, 8, 8, 8, 8, 8, 8, 8, 8, 8, 8, 8, 8, 8, 8, 8, 8, 8, 8, 8, 8, 8, 8, 8, 8, 8, 8, 8, 8, 8, 8, 8, 8, 8, 8, 8, 8, 8, 8, 8, 8, 8, 8, 8, 8, 8, 8, 8, 8, 8, 8, 8, 8, 8, 8] : Str)) ((IntKind.u8.wrap x10)).toNat))))))) (fun J12 => (cond (decide ((256 : Int) ≤ x6)) (req (0 ≤ (8 : Int)) (J12 ((shrI .u64 x6 (8 : Int))) ((IntKind.i64.wrap (x7 + (8 : Int)))))) (J12 x6 x7))))) (fun J8 => (cond (decide ((65536 : Int) ≤ x2)) (req (0 ≤ (16 : Int)) (J8 ((shrI .u64 x2 (16 : Int))) ((IntKind.i64.wrap (x3 + (16 : Int)))))) (J8 x2 x3))))) (fun J4 => (cond (decide ((4294967296 : Int) ≤ x1)) (req (0 ≤ (32 : Int)) (J4 ((shrI .u64 x1 (32 : Int))) ((32 : Int)))) (J4 x1 ((0 : Int))))))

set_option maxRecDepth 100000 in
theorem W_math_bits_Len64 {V : View} (x1 : Int)   {r : Int} (hF : F_math_bits_Len64 x1 = some r) :
    Spec Try.prog 106 [.int .u64 (x1)] V (fun _ v => v = .int .i64 (r)) := by
  unfold F_math_bits_Len64 at hF
  refine Spec.enter (T := tyT) Try.func106 rfl (by kernel_rfl) rfl rfl rfl ?_
  refine Exec.run tyOk 400 rfl ?_
  obtain ⟨J4, hJ4, hF⟩ := jn_some hF
  refine Exec.seam (fun L' V' M' => ∃ (x2 : Int) (x3 : Int), L' = [(0, .v (.int .u64 (x2))), (2, .v (.int .i64 (x3)))] ∧ M' = [] ∧ J4 x2 x3 = some r) rfl ?_ ?_
  · rintro L' V5 M' ⟨x2, x3, rfl, rfl, hF⟩
    subst hJ4
    refine Exec.run tyOk 400 rfl ?_
    obtain ⟨J8, hJ8, hF⟩ := jn_some hF
    refine Exec.seam (fun L' V' M' => ∃ (x6 : Int) (x7 : Int), L' = [(0, .v (.int .u64 (x6))), (2, .v (.int .i64 (x7)))] ∧ M' = [] ∧ J8 x6 x7 = some r) rfl ?_ ?_
    · rintro L' V9 M' ⟨x6, x7, rfl, rfl, hF⟩
      subst hJ8
      refine Exec.run tyOk 400 rfl ?_
      obtain ⟨J12, hJ12, hF⟩ := jn_some hF
      refine Exec.seam (fun L' V' M' => ∃ (x10 : Int) (x11 : Int), L' = [(0, .v (.int .u64 (x10))), (2, .v (.int .i64 (x11)))] ∧ M' = [] ∧ J12 x10 x11 = some r) rfl ?_ ?_
      · rintro L' V13 M' ⟨x10, x11, rfl, rfl, hF⟩
        subst hJ12
        refine Exec.run tyOk 400 rfl ?_
        obtain ⟨q14, hF⟩ := req_some hF
        refine Exec.idx tyOk rfl rfl q14 ?_
        refine Exec.run tyOk 400 rfl ?_
        obtain rfl := some_inj hF
        exact Exec.ret tyOk rfl rfl rfl
      · skip
        refine Exec.run tyOk 400 rfl ?_
        rcases cond_some hF with ⟨hb, hF⟩ | ⟨hb, hF⟩
        · skip
          refine Exec.ifT rfl hb ?_
          refine Exec.run tyOk 400 rfl ?_
          obtain ⟨q15, hF⟩ := req_some hF
          refine Exec.ari rfl rfl q15 ?_
          refine Exec.run tyOk 400 rfl ?_
          exact Exec.round [(0, .v (.int .u64 ((shrI .u64 x6 (8 : Int))))), (2, .v (.int .i64 ((IntKind.i64.wrap (x7 + (8 : Int))))))] ⟨rfl, rfl, trivial⟩ ⟨(shrI .u64 x6 (8 : Int)), (IntKind.i64.wrap (x7 + (8 : Int))), rfl, rfl, hF⟩
        · skip
          refine Exec.ifF rfl hb ?_
          refine Exec.run tyOk 400 rfl ?_
          exact Exec.round [(0, .v (.int .u64 (x6))), (2, .v (.int .i64 (x7)))] ⟨rfl, rfl, trivial⟩ ⟨x6, x7, rfl, rfl, hF⟩
    · skip
      refine Exec.run tyOk 400 rfl ?_
      rcases cond_some hF with ⟨hb, hF⟩ | ⟨hb, hF⟩
      · skip
        refine Exec.ifT rfl hb ?_
        refine Exec.run tyOk 400 rfl ?_
        obtain ⟨q16, hF⟩ := req_some hF
        refine Exec.ari rfl rfl q16 ?_
        refine Exec.run tyOk 400 rfl ?_
        exact Exec.round [(0, .v (.int .u64 ((shrI .u64 x2 (16 : Int))))), (2, .v (.int .i64 ((IntKind.i64.wrap (x3 + (16 : Int))))))] ⟨rfl, rfl, trivial⟩ ⟨(shrI .u64 x2 (16 : Int)), (IntKind.i64.wrap (x3 + (16 : Int))), rfl, rfl, hF⟩
      · skip
        refine Exec.ifF rfl hb ?_
        refine Exec.run tyOk 400 rfl ?_
        exact Exec.round [(0, .v (.int .u64 (x2))), (2, .v (.int .i64 (x3)))] ⟨rfl, rfl, trivial⟩ ⟨x2, x3, rfl, rfl, hF⟩
  · skip
    refine Exec.run tyOk 400 rfl ?_
    rcases cond_some hF with ⟨hb, hF⟩ | ⟨hb, hF⟩
    · skip
      refine Exec.ifT rfl hb ?_
      refine Exec.run tyOk 400 rfl ?_
      obtain ⟨q17, hF⟩ := req_some hF
      refine Exec.ari rfl rfl q17 ?_
      refine Exec.run tyOk 400 rfl ?_
      exact Exec.round [(0, .v (.int .u64 ((shrI .u64 x1 (32 : Int))))), (2, .v (.int .i64 ((32 : Int))))] ⟨rfl, rfl, trivial⟩ ⟨(shrI .u64 x1 (32 : Int)), (32 : Int), rfl, rfl, hF⟩
    · skip
      refine Exec.ifF rfl hb ?_
      refine Exec.run tyOk 400 rfl ?_
      exact Exec.round [(0, .v (.int .u64 (x1))), (2, .v (.int .i64 ((0 : Int))))] ⟨rfl, rfl, trivial⟩ ⟨x1, (0 : Int), rfl, rfl, hF⟩

def F_cmp_isNaN_int (x1 : Int) : Option Bool :=
  (some (x1 != x1))

set_option maxRecDepth 100000 in
theorem W_cmp_isNaN_int {V : View} (x1 : Int)   {r : Bool} (hF : F_cmp_isNaN_int x1 = some r) :
    Spec Try.prog 112 [.int .i64 (x1)] V (fun _ v => v = .bool (r)) := by
  unfold F_cmp_isNaN_int at hF
  refine Spec.enter (T := tyT) Try.func112 rfl (by kernel_rfl) rfl rfl rfl ?_
  refine Exec.run tyOk 400 rfl ?_
  obtain rfl := some_inj hF
  exact Exec.ret tyOk rfl rfl rfl

def F_clockworkref32_Same_L1 (x1 : List TShard) (x3 : List TShard) (J5 : Option Bool) : Nat → Int → Option Bool
  | 0, _ => none
  | n8 + 1, x7 => (cond (decide (x7 < (((x1).length : Nat) : Int))) (req (0 ≤ x7 ∧ x7 < ((x1).length : Int)) (req (0 ≤ x7 ∧ x7 < ((x3).length : Int)) (req (((((atI x1 x7).Node != (atI x3 x7).Node)) == false) = true → 0 ≤ x7 ∧ x7 < ((x1).length : Int)) (req (((((atI x1 x7).Node != (atI x3 x7).Node)) == false) = true → 0 ≤ x7 ∧ x7 < ((x3).length : Int)) (bnd (gcall ((((atI x1 x7).Node != (atI x3 x7).Node)) == false) (F_clockworkref06_Same ((cond ((((atI x1 x7).Node != (atI x3 x7).Node)) == false) (atI x1 x7) default).Pairs) ((cond ((((atI x1 x7).Node != (atI x3 x7).Node)) == false) (atI x3 x7) default).Pairs))) fun x24 => (cond (((atI x1 x7).Node != (atI x3 x7).Node) || (!x24)) (some false) (F_clockworkref32_Same_L1 x1 x3 J5 n8 ((IntKind.i64.wrap (x7 + (1 : Int))))))))))) J5)

def F_clockworkref32_Same (x1 : List TShard) (x3 : List TShard) : Option Bool :=
  (cond ((((x1).length : Nat) : Int) != (((x3).length : Nat) : Int)) (some false) (jn ((some true)) (fun J5 => (F_clockworkref32_Same_L1 x1 x3 J5 (((((x1).length : Nat) : Int)).toNat + 1) ((0 : Int))))))

set_option maxRecDepth 100000 in
theorem W_clockworkref32_Same {V : View} (x1 : List TShard) (x3 : List TShard) {a2 : Option Addr} {k2 : Nat} {a4 : Option Addr} {k4 : Nat} (h2 : SlAt cTShard V a2 k2 x1) (h4 : SlAt cTShard V a4 k4 x3) {r : Bool} (hF : F_clockworkref32_Same x1 x3 = some r) :
    Spec Try.prog 18 [.slice a2 ((x1).length) (k2), .slice a4 ((x3).length) (k4)] V (fun _ v => v = .bool (r)) := by
  unfold F_clockworkref32_Same at hF
  refine Spec.enter (T := tyT) Try.func18 rfl (by kernel_rfl) rfl rfl rfl ?_
  refine Exec.run tyOk 400 rfl ?_
  rcases cond_some hF with ⟨hb, hF⟩ | ⟨hb, hF⟩
  · skip
    refine Exec.ifT rfl hb ?_
    refine Exec.run tyOk 400 rfl ?_
    obtain rfl := some_inj hF
    exact Exec.ret tyOk rfl rfl rfl
  · skip
    refine Exec.ifF rfl hb ?_
    refine Exec.run tyOk 6 rfl ?_
    obtain ⟨J5, hJ5, hF⟩ := jn_some hF
    refine Exec.seam (fun L' V' M' => L' = [] ∧ M' = [] ∧ J5 = some r) rfl ?_ ?_
    · rintro L' V6 M' ⟨rfl, rfl, hF⟩
      subst hJ5
      refine Exec.run tyOk 400 rfl ?_
      obtain rfl := some_inj hF
      exact Exec.ret tyOk rfl rfl rfl
    · skip
      refine Exec.run tyOk 400 rfl ?_
      refine Exec.loop (fun n8 L' V' M' => ∃ (x7 : Int), L' = [(0, .v (.slice a2 ((x1).length) (k2))), (1, .v (.slice a4 ((x3).length) (k4))), (5, .v (.int .i64 (x7)))] ∧ M' = [] ∧ SlAt cTShard V' a2 k2 x1 ∧ SlAt cTShard V' a4 k4 x3 ∧ F_clockworkref32_Same_L1 x1 x3 J5 n8 x7 = some r) ⟨(((((x1).length : Nat) : Int)).toNat + 1), [(0, .v (.slice a2 ((x1).length) (k2))), (1, .v (.slice a4 ((x3).length) (k4))), (5, .v (.int .i64 ((0 : Int))))], ⟨rfl, rfl, rfl, trivial⟩, (0 : Int), rfl, rfl, h2, h4, hF⟩ ?_
      rintro n8 L' V9 M' ⟨x7, rfl, rfl, h10, h11, hF⟩
      rcases n8 with _ | n8
      · exact absurd hF (by simp [F_clockworkref32_Same_L1])
      rw [F_clockworkref32_Same_L1] at hF
      refine Exec.run tyOk 400 rfl ?_
      rcases cond_some hF with ⟨hb, hF⟩ | ⟨hb, hF⟩
      · skip
        refine Exec.ifT rfl hb ?_
        refine Exec.run tyOk 400 rfl ?_
        refine Exec.draws tyOk [(0, true), (1, true), (2, true), (3, true), (4, true), (5, true), (6, true), (7, true), (8, true), (9, true), (10, true), (11, true), (12, true), (13, true), (14, true), (15, true), (16, true), (17, true), (18, true), (19, true), (20, true), (21, true), (22, false), (23, false), (24, false)] rfl (by kernel_rfl) ?_
        refine Exec.run tyOk 400 rfl ?_
        obtain ⟨q12, hF⟩ := req_some hF
        obtain ⟨c13, hr13, hd13⟩ := SlAt.get h10 q12
        obtain ⟨a14, k14, rfl, h14⟩ := hr13
        refine Exec.fia tyOk rfl rfl rfl ⟨q12.1, q12.2, hd13.some⟩ ?_
        refine Exec.run tyOk 400 rfl ?_
        refine Exec.fld tyOk (x := .int .i64 ((atI x1 x7).Node)) rfl rfl rfl (RdAt.part hd13 0 1 rfl) rfl rfl ?_
        refine Exec.run tyOk 400 rfl ?_
        obtain ⟨q15, hF⟩ := req_some hF
        obtain ⟨c16, hr16, hd16⟩ := SlAt.get h11 q15
        obtain ⟨a17, k17, rfl, h17⟩ := hr16
        refine Exec.fia tyOk rfl rfl rfl ⟨q15.1, q15.2, hd16.some⟩ ?_
        refine Exec.run tyOk 400 rfl ?_
        refine Exec.fld tyOk (x := .int .i64 ((atI x3 x7).Node)) rfl rfl rfl (RdAt.part hd16 0 1 rfl) rfl rfl ?_
        refine Exec.run tyOk 400 rfl ?_
        obtain ⟨q18, hF⟩ := req_some hF
        obtain ⟨c19, hr19, hd19⟩ := SlAt.gget ((((atI x1 x7).Node != (atI x3 x7).Node)) == false) h10 q18
        obtain ⟨a20, k20, rfl, h20⟩ := hr19
        refine Exec.fia tyOk rfl rfl rfl (fun gg0 => ⟨(q18 (gd1_of gg0)).1, (q18 (gd1_of gg0)).2, (hd19 (gd1_of gg0)).some⟩) ?_
        refine Exec.run tyOk 400 rfl ?_
        refine Exec.fld tyOk (x := .slice a20 (((cond ((((atI x1 x7).Node != (atI x3 x7).Node)) == false) (atI x1 x7) default).Pairs).length) (k20)) rfl rfl rfl (fun gg0 => (RdAt.part (hd19 (gd1_of gg0)) 1 1 rfl)) rfl rfl ?_
        refine Exec.run tyOk 400 rfl ?_
        obtain ⟨q21, hF⟩ := req_some hF
        obtain ⟨c22, hr22, hd22⟩ := SlAt.gget ((((atI x1 x7).Node != (atI x3 x7).Node)) == false) h11 q21
        obtain ⟨a23, k23, rfl, h23⟩ := hr22
        refine Exec.fia tyOk rfl rfl rfl (fun gg0 => ⟨(q21 (gd1_of gg0)).1, (q21 (gd1_of gg0)).2, (hd22 (gd1_of gg0)).some⟩) ?_
        refine Exec.run tyOk 400 rfl ?_
        refine Exec.fld tyOk (x := .slice a23 (((cond ((((atI x1 x7).Node != (atI x3 x7).Node)) == false) (atI x3 x7) default).Pairs).length) (k23)) rfl rfl rfl (fun gg0 => (RdAt.part (hd22 (gd1_of gg0)) 1 1 rfl)) rfl rfl ?_
        refine Exec.run tyOk 400 rfl ?_
        obtain ⟨x24, hx24, hF⟩ := bnd_some hF
        refine Exec.callS (.bool (x24)) rfl rfl (fun gg0 => W_clockworkref06_Same ((cond ((((atI x1 x7).Node != (atI x3 x7).Node)) == false) (atI x1 x7) default).Pairs) ((cond ((((atI x1 x7).Node != (atI x3 x7).Node)) == false) (atI x3 x7) default).Pairs) h20 h23 (gcall_some hx24 (gd1_of gg0))) ?_
        refine Exec.run tyOk 400 rfl ?_
        rcases cond_some hF with ⟨hb, hF⟩ | ⟨hb, hF⟩
        · skip
          refine Exec.ifT rfl hb ?_
          refine Exec.run tyOk 400 rfl ?_
          obtain rfl := some_inj hF
          exact Exec.ret tyOk rfl rfl rfl
        · skip
          refine Exec.ifF rfl hb ?_
          refine Exec.run tyOk 400 rfl ?_
          exact Exec.round [(0, .v (.slice a2 ((x1).length) (k2))), (1, .v (.slice a4 ((x3).length) (k4))), (5, .v (.int .i64 ((IntKind.i64.wrap (x7 + (1 : Int))))))] ⟨rfl, rfl, rfl, trivial⟩ ⟨n8, Nat.lt_succ_self _, (IntKind.i64.wrap (x7 + (1 : Int))), rfl, rfl, h10, h11, hF⟩
      · skip
        refine Exec.ifF rfl hb ?_
        refine Exec.run tyOk 400 rfl ?_
        exact Exec.round [] trivial ⟨rfl, rfl, hF⟩

def F_clockworklaw33_part (x1 : TPlacement) (x3 : Int) : Option TPart :=
  (bnd (F_clockworkref29_Find x1 x3) fun x4 => (cond (decide (x4 < (0 : Int))) (some (⟨0, [], 0, 0, []⟩ : TPart)) (req (0 ≤ x4 ∧ x4 < ((x1.Parts).length : Int)) (some (atI x1.Parts x4)))))

set_option maxRecDepth 100000 in
theorem W_clockworklaw33_part {V : View} (x1 : TPlacement) (x3 : Int) {a2 : Option Addr} {k2 : Nat} (h2 : SlAt cTPart V a2 k2 x1.Parts) {r : TPart} (hF : F_clockworklaw33_part x1 x3 = some r) :
    Spec Try.prog 26 [.agg ⟨[.int .i64 (x1.Version), .slice a2 ((x1.Parts).length) (k2)]⟩, .int .i64 (x3)] V (fun _ v => v = .agg ⟨[.int .i64 (r.Id), .string ⟨⟨r.From⟩⟩, .int .i64 (r.Node), .int .i64 (r.Dest), .string ⟨⟨r.Done⟩⟩]⟩) := by
  unfold F_clockworklaw33_part at hF
  refine Spec.enter (T := tyT) Try.func26 rfl (by kernel_rfl) rfl rfl rfl ?_
  refine Exec.run tyOk 400 rfl ?_
  obtain ⟨x4, hx4, hF⟩ := bnd_some hF
  refine Exec.callS (.int .i64 (x4)) rfl rfl (W_clockworkref29_Find x1 x3 h2 hx4) ?_
  refine Exec.run tyOk 400 rfl ?_
  rcases cond_some hF with ⟨hb, hF⟩ | ⟨hb, hF⟩
  · skip
    refine Exec.ifT rfl hb ?_
    refine Exec.run tyOk 400 rfl ?_
    obtain rfl := some_inj hF
    exact Exec.ret tyOk rfl rfl rfl
  · skip
    refine Exec.ifF rfl hb ?_
    refine Exec.run tyOk 400 rfl ?_
    obtain ⟨q5, hF⟩ := req_some hF
    obtain ⟨c6, hr6, hd6⟩ := SlAt.get h2 q5
    obtain rfl := hr6
    refine Exec.ia tyOk rfl rfl ⟨q5.1, q5.2, hd6.some⟩ ?_
    refine Exec.run tyOk 400 rfl ?_
    refine Exec.ld tyOk (x := .agg ⟨[.int .i64 ((atI x1.Parts x4).Id), .string ⟨⟨(atI x1.Parts x4).From⟩⟩, .int .i64 ((atI x1.Parts x4).Node), .int .i64 ((atI x1.Parts x4).Dest), .string ⟨⟨(atI x1.Parts x4).Done⟩⟩]⟩) rfl rfl hd6 rfl rfl ?_
    refine Exec.run tyOk 400 rfl ?_
    obtain rfl := some_inj hF
    exact Exec.ret tyOk rfl rfl rfl

def F_migrate_find (x1 : TPlacement) (x3 : Int) : Option Int :=
  (bnd (F_slices_IndexFunc_api_Part_api_Part x1.Parts (fun y0 => F_migrate_find_1 y0 x3)) fun x6 => (some x6))

set_option maxRecDepth 100000 in
theorem W_migrate_find {V : View} (x1 : TPlacement) (x3 : Int) {a2 : Option Addr} {k2 : Nat} (h2 : SlAt cTPart V a2 k2 x1.Parts) {r : Int} (hF : F_migrate_find x1 x3 = some r) :
    Spec Try.prog 29 [.agg ⟨[.int .i64 (x1.Version), .slice a2 ((x1.Parts).length) (k2)]⟩, .int .i64 (x3)] V (fun _ v => v = .int .i64 (r)) := by
  unfold F_migrate_find at hF
  refine Spec.enter (T := tyT) Try.func29 rfl (by kernel_rfl) rfl rfl rfl ?_
  refine Exec.run tyOk 400 rfl ?_
  refine Exec.openB 1 rfl rfl rfl rfl (fun _ => rfl) (fun _ => rfl) (fun V4 b4 hv4 hd4 => ?_)
  have h5 := SlAt.mono h2 hv4
  refine Exec.mkf rfl rfl ?_
  refine Exec.run tyOk 400 rfl ?_
  obtain ⟨x6, hx6, hF⟩ := bnd_some hF
  refine Exec.callS (.int .i64 (x6)) rfl rfl (W_slices_IndexFunc_api_Part_api_Part x1.Parts (fun y0 => F_migrate_find_1 y0 x3) h5 (fun V' hv y0 r hr => W_migrate_find_1 y0 x3 (RdAt.mono hd4 hv) hr) hx6) ?_
  refine Exec.run tyOk 400 rfl ?_
  obtain rfl := some_inj hF
  exact Exec.ret tyOk rfl rfl rfl

def F_clockworkref29_Valid_L2 (x7 : Int) (x1 : TPlacement) (J22 : Option Bool) : Nat → Int → Option Bool
  | 0, _ => none
  | n26 + 1, x25 => (cond (decide (x25 < x7)) (req (0 ≤ x25 ∧ x25 < ((x1.Parts).length : Int)) (cond ((atI x1.Parts x25).Id == (atI x1.Parts x7).Id) (some false) (F_clockworkref29_Valid_L2 x7 x1 J22 n26 ((IntKind.i64.wrap (x25 + (1 : Int))))))) J22)

def F_clockworkref29_Valid_L1 (x1 : TPlacement) (J5 : Option Bool) : Nat → Int → Option Bool
  | 0, _ => none
  | n8 + 1, x7 => (cond (decide (x7 < (((x1.Parts).length : Nat) : Int))) (req (0 ≤ x7 ∧ x7 < ((x1.Parts).length : Int)) (jn (fun (x13 : Str) => (bnd (F_clockworkref29_Bound ((atI x1.Parts x7).From)) fun x17 => (req (((((decide ((0 : Int) < x7))) == true) && (((!x17)) == false)) = true → 0 ≤ (IntKind.i64.wrap (x7 - (1 : Int))) ∧ (IntKind.i64.wrap (x7 - (1 : Int))) < ((x1.Parts).length : Int)) (bnd (some (((((((!x17) || ((decide ((0 : Int) < x7)) && (!sLt (cond ((((decide ((0 : Int) < x7))) == true) && (((!x17)) == false)) (atI x1.Parts ((IntKind.i64.wrap (x7 - (1 : Int))))) default).From (atI x1.Parts x7).From))) || (decide ((atI x1.Parts x7).Id < (1 : Int)))) || (decide ((1099511627776 : Int) < (atI x1.Parts x7).Id))) || (decide ((atI x1.Parts x7).Node < (1 : Int)))) || (decide ((16 : Int) < (atI x1.Parts x7).Node))))) fun x20 => (bnd (gcall ((x20) == false) (F_clockworkref29_moves ((atI x1.Parts x7)) x13 (((IntKind.i64.wrap (x7 + (1 : Int))) == (((x1.Parts).length : Nat) : Int))))) fun x21 => (cond (x20 || (!x21)) (some false) (jn ((F_clockworkref29_Valid_L1 x1 J5 n8 ((IntKind.i64.wrap (x7 + (1 : Int)))))) (fun J22 => (F_clockworkref29_Valid_L2 x7 x1 J22 ((x7).toNat + 1) ((0 : Int))))))))))) (fun J14 => (cond (decide ((IntKind.i64.wrap (x7 + (1 : Int))) < (((x1.Parts).length : Nat) : Int))) (req (0 ≤ (IntKind.i64.wrap (x7 + (1 : Int))) ∧ (IntKind.i64.wrap (x7 + (1 : Int))) < ((x1.Parts).length : Int)) (J14 ((atI x1.Parts ((IntKind.i64.wrap (x7 + (1 : Int))))).From))) (J14 (([] : Str))))))) J5)

def F_clockworkref29_Valid (x1 : TPlacement) : Option Bool :=
  (req (((((((decide (x1.Version < (0 : Int))) || (decide ((1099511627776 : Int) < x1.Version))) || (decide ((((x1.Parts).length : Nat) : Int) < (1 : Int)))) || (decide ((16 : Int) < (((x1.Parts).length : Nat) : Int))))) == false) = true → 0 ≤ (0 : Int) ∧ (0 : Int) < ((x1.Parts).length : Int)) (cond (((((decide (x1.Version < (0 : Int))) || (decide ((1099511627776 : Int) < x1.Version))) || (decide ((((x1.Parts).length : Nat) : Int) < (1 : Int)))) || (decide ((16 : Int) < (((x1.Parts).length : Nat) : Int)))) || ((cond ((((((decide (x1.Version < (0 : Int))) || (decide ((1099511627776 : Int) < x1.Version))) || (decide ((((x1.Parts).length : Nat) : Int) < (1 : Int)))) || (decide ((16 : Int) < (((x1.Parts).length : Nat) : Int))))) == false) (atI x1.Parts ((0 : Int))) default).From != ([] : Str))) (some false) (jn ((some true)) (fun J5 => (F_clockworkref29_Valid_L1 x1 J5 (((((x1.Parts).length : Nat) : Int)).toNat + 1) ((0 : Int)))))))

set_option maxRecDepth 100000 in
theorem W_clockworkref29_Valid {V : View} (x1 : TPlacement) {a2 : Option Addr} {k2 : Nat} (h2 : SlAt cTPart V a2 k2 x1.Parts) {r : Bool} (hF : F_clockworkref29_Valid x1 = some r) :
    Spec Try.prog 31 [.agg ⟨[.int .i64 (x1.Version), .slice a2 ((x1.Parts).length) (k2)]⟩] V (fun _ v => v = .bool (r)) := by
  unfold F_clockworkref29_Valid at hF
  refine Spec.enter (T := tyT) Try.func31 rfl (by kernel_rfl) rfl rfl rfl ?_
  refine Exec.run tyOk 400 rfl ?_
  obtain ⟨q3, hF⟩ := req_some hF
  obtain ⟨c4, hr4, hd4⟩ := SlAt.gget ((((((decide (x1.Version < (0 : Int))) || (decide ((1099511627776 : Int) < x1.Version))) || (decide ((((x1.Parts).length : Nat) : Int) < (1 : Int)))) || (decide ((16 : Int) < (((x1.Parts).length : Nat) : Int))))) == false) h2 q3
  obtain rfl := hr4
  refine Exec.ia tyOk rfl rfl (fun gg0 => ⟨(q3 (gd1_of gg0)).1, (q3 (gd1_of gg0)).2, (hd4 (gd1_of gg0)).some⟩) ?_
  refine Exec.run tyOk 400 rfl ?_
  refine Exec.ld tyOk (x := .string ⟨⟨(cond ((((((decide (x1.Version < (0 : Int))) || (decide ((1099511627776 : Int) < x1.Version))) || (decide ((((x1.Parts).length : Nat) : Int) < (1 : Int)))) || (decide ((16 : Int) < (((x1.Parts).length : Nat) : Int))))) == false) (atI x1.Parts ((0 : Int))) default).From⟩⟩) rfl rfl (fun gg0 => (RdAt.part (hd4 (gd1_of gg0)) 1 1 rfl)) rfl rfl ?_
  refine Exec.run tyOk 400 rfl ?_
  rcases cond_some hF with ⟨hb, hF⟩ | ⟨hb, hF⟩
  · skip
    refine Exec.ifT rfl hb ?_
    refine Exec.run tyOk 400 rfl ?_
    obtain rfl := some_inj hF
    exact Exec.ret tyOk rfl rfl rfl
  · skip
    refine Exec.ifF rfl hb ?_
    refine Exec.run tyOk 6 rfl ?_
    obtain ⟨J5, hJ5, hF⟩ := jn_some hF
    refine Exec.seam (fun L' V' M' => L' = [] ∧ M' = [] ∧ J5 = some r) rfl ?_ ?_
    · rintro L' V6 M' ⟨rfl, rfl, hF⟩
      subst hJ5
      refine Exec.run tyOk 400 rfl ?_
      obtain rfl := some_inj hF
      exact Exec.ret tyOk rfl rfl rfl
    · skip
      refine Exec.run tyOk 400 rfl ?_
      refine Exec.loop (fun n8 L' V' M' => ∃ (x7 : Int), L' = [(1, .ptr 0 0), (3, .v (.int .i64 ((((x1.Parts).length : Nat) : Int)))), (4, .v (.int .i64 (x7)))] ∧ M' = [.blk [.v (.int .i64 (x1.Version)), .v (.slice a2 ((x1.Parts).length) (k2))] 24] ∧ SlAt cTPart V' a2 k2 x1.Parts ∧ F_clockworkref29_Valid_L1 x1 J5 n8 x7 = some r) ⟨(((((x1.Parts).length : Nat) : Int)).toNat + 1), [(1, .ptr 0 0), (3, .v (.int .i64 ((((x1.Parts).length : Nat) : Int)))), (4, .v (.int .i64 ((0 : Int))))], ⟨rfl, rfl, rfl, trivial⟩, (0 : Int), rfl, rfl, h2, hF⟩ ?_
      rintro n8 L' V9 M' ⟨x7, rfl, rfl, h10, hF⟩
      rcases n8 with _ | n8
      · exact absurd hF (by simp [F_clockworkref29_Valid_L1])
      rw [F_clockworkref29_Valid_L1] at hF
      refine Exec.run tyOk 400 rfl ?_
      rcases cond_some hF with ⟨hb, hF⟩ | ⟨hb, hF⟩
      · skip
        refine Exec.ifT rfl hb ?_
        refine Exec.run tyOk 400 rfl ?_
        obtain ⟨q11, hF⟩ := req_some hF
        obtain ⟨c12, hr12, hd12⟩ := SlAt.get h10 q11
        obtain rfl := hr12
        refine Exec.ia tyOk rfl rfl ⟨q11.1, q11.2, hd12.some⟩ ?_
        refine Exec.run tyOk 400 rfl ?_
        refine Exec.ld tyOk (x := .agg ⟨[.int .i64 ((atI x1.Parts x7).Id), .string ⟨⟨(atI x1.Parts x7).From⟩⟩, .int .i64 ((atI x1.Parts x7).Node), .int .i64 ((atI x1.Parts x7).Dest), .string ⟨⟨(atI x1.Parts x7).Done⟩⟩]⟩) rfl rfl hd12 rfl rfl ?_
        refine Exec.run tyOk 400 rfl ?_
        obtain ⟨J14, hJ14, hF⟩ := jn_some hF
        refine Exec.seam (fun L' V' M' => ∃ (x13 : Str), L' = [(1, .ptr 0 0), (3, .v (.int .i64 ((((x1.Parts).length : Nat) : Int)))), (4, .v (.int .i64 (x7))), (5, .ptr 1 0), (6, .v (.string ⟨⟨x13⟩⟩))] ∧ M' = [.blk [.v (.int .i64 (x1.Version)), .v (.slice a2 ((x1.Parts).length) (k2))] 24, .blk [.v (.int .i64 ((atI x1.Parts x7).Id)), .v (.string ⟨⟨(atI x1.Parts x7).From⟩⟩), .v (.int .i64 ((atI x1.Parts x7).Node)), .v (.int .i64 ((atI x1.Parts x7).Dest)), .v (.string ⟨⟨(atI x1.Parts x7).Done⟩⟩)] 62] ∧ SlAt cTPart V' a2 k2 x1.Parts ∧ J14 x13 = some r) rfl ?_ ?_
        · rintro L' V15 M' ⟨x13, rfl, rfl, h16, hF⟩
          subst hJ14
          refine Exec.run tyOk 400 rfl ?_
          refine Exec.draws tyOk [(0, true), (1, true), (2, false), (3, false), (4, false), (5, false), (6, false), (7, false), (8, true), (9, true), (10, true), (11, true), (12, false), (13, false), (14, false), (15, false), (16, false), (17, false), (18, false), (19, false), (20, false), (21, false), (22, false), (23, false), (24, false), (25, false), (26, false), (27, false), (28, false), (29, false), (30, false), (31, false), (32, false), (33, false), (34, false), (35, false), (36, false), (37, false), (38, false), (39, false), (40, false), (41, true), (42, true), (43, true), (44, true), (45, false), (46, false), (47, false), (48, false), (49, false)] rfl (by kernel_rfl) ?_
          refine Exec.run tyOk 400 rfl ?_
          obtain ⟨x17, hx17, hF⟩ := bnd_some hF
          refine Exec.callS (.bool (x17)) rfl rfl (W_clockworkref29_Bound ((atI x1.Parts x7).From)  hx17) ?_
          refine Exec.run tyOk 400 rfl ?_
          obtain ⟨q18, hF⟩ := req_some hF
          obtain ⟨c19, hr19, hd19⟩ := SlAt.gget ((((decide ((0 : Int) < x7))) == true) && (((!x17)) == false)) h16 q18
          obtain rfl := hr19
          refine Exec.ia tyOk rfl rfl (fun gg0 gg1 => ⟨(q18 (gd2_of gg0 gg1)).1, (q18 (gd2_of gg0 gg1)).2, (hd19 (gd2_of gg0 gg1)).some⟩) ?_
          refine Exec.run tyOk 400 rfl ?_
          refine Exec.ld tyOk (x := .string ⟨⟨(cond ((((decide ((0 : Int) < x7))) == true) && (((!x17)) == false)) (atI x1.Parts ((IntKind.i64.wrap (x7 - (1 : Int))))) default).From⟩⟩) rfl rfl (fun gg0 gg1 => (RdAt.part (hd19 (gd2_of gg0 gg1)) 1 1 rfl)) rfl rfl ?_
          refine Exec.run tyOk 69 rfl ?_
          obtain ⟨x20, hx20, hF⟩ := bnd_some hF
          refine Exec.nameO (some_inj hx20) 95 rfl rfl rfl rfl ?_
          refine Exec.run tyOk 400 rfl ?_
          obtain ⟨x21, hx21, hF⟩ := bnd_some hF
          refine Exec.callS (.bool (x21)) rfl rfl (fun gg0 => W_clockworkref29_moves ((atI x1.Parts x7)) x13 (((IntKind.i64.wrap (x7 + (1 : Int))) == (((x1.Parts).length : Nat) : Int)))  (gcall_some hx21 (gd1_of gg0))) ?_
          refine Exec.run tyOk 400 rfl ?_
          rcases cond_some hF with ⟨hb, hF⟩ | ⟨hb, hF⟩
          · skip
            refine Exec.ifT rfl hb ?_
            refine Exec.run tyOk 400 rfl ?_
            obtain rfl := some_inj hF
            exact Exec.ret tyOk rfl rfl rfl
          · skip
            refine Exec.ifF rfl hb ?_
            refine Exec.run tyOk 5 rfl ?_
            obtain ⟨J22, hJ22, hF⟩ := jn_some hF
            refine Exec.seam (fun L' V' M' => L' = [(1, .ptr 0 0), (3, .v (.int .i64 ((((x1.Parts).length : Nat) : Int)))), (4, .v (.int .i64 (x7)))] ∧ M' = [.blk [.v (.int .i64 (x1.Version)), .v (.slice a2 ((x1.Parts).length) (k2))] 24] ∧ SlAt cTPart V' a2 k2 x1.Parts ∧ J22 = some r) rfl ?_ ?_
            · rintro L' V23 M' ⟨rfl, rfl, h24, hF⟩
              subst hJ22
              refine Exec.run tyOk 400 rfl ?_
              exact Exec.round [(1, .ptr 0 0), (3, .v (.int .i64 ((((x1.Parts).length : Nat) : Int)))), (4, .v (.int .i64 ((IntKind.i64.wrap (x7 + (1 : Int))))))] ⟨rfl, rfl, rfl, trivial⟩ ⟨n8, Nat.lt_succ_self _, (IntKind.i64.wrap (x7 + (1 : Int))), rfl, rfl, h24, hF⟩
            · skip
              refine Exec.run tyOk 400 rfl ?_
              refine Exec.loop (fun n26 L' V' M' => ∃ (x25 : Int), L' = [(1, .ptr 0 0), (3, .v (.int .i64 ((((x1.Parts).length : Nat) : Int)))), (4, .v (.int .i64 (x7))), (5, .ptr 1 0), (7, .v (.int .i64 (x25)))] ∧ M' = [.blk [.v (.int .i64 (x1.Version)), .v (.slice a2 ((x1.Parts).length) (k2))] 24, .blk [.v (.int .i64 ((atI x1.Parts x7).Id)), .v (.string ⟨⟨(atI x1.Parts x7).From⟩⟩), .v (.int .i64 ((atI x1.Parts x7).Node)), .v (.int .i64 ((atI x1.Parts x7).Dest)), .v (.string ⟨⟨(atI x1.Parts x7).Done⟩⟩)] 62] ∧ SlAt cTPart V' a2 k2 x1.Parts ∧ F_clockworkref29_Valid_L2 x7 x1 J22 n26 x25 = some r) ⟨((x7).toNat + 1), [(1, .ptr 0 0), (3, .v (.int .i64 ((((x1.Parts).length : Nat) : Int)))), (4, .v (.int .i64 (x7))), (5, .ptr 1 0), (7, .v (.int .i64 ((0 : Int))))], ⟨rfl, rfl, rfl, rfl, rfl, trivial⟩, (0 : Int), rfl, rfl, h16, hF⟩ ?_
              rintro n26 L' V27 M' ⟨x25, rfl, rfl, h28, hF⟩
              rcases n26 with _ | n26
              · exact absurd hF (by simp [F_clockworkref29_Valid_L2])
              rw [F_clockworkref29_Valid_L2] at hF
              refine Exec.run tyOk 400 rfl ?_
              rcases cond_some hF with ⟨hb, hF⟩ | ⟨hb, hF⟩
              · skip
                refine Exec.ifT rfl hb ?_
                refine Exec.run tyOk 400 rfl ?_
                refine Exec.draws tyOk [(0, true), (1, true), (2, true), (3, true), (4, true), (5, true), (6, true), (7, true), (8, true)] rfl (by kernel_rfl) ?_
                refine Exec.run tyOk 400 rfl ?_
                obtain ⟨q29, hF⟩ := req_some hF
                obtain ⟨c30, hr30, hd30⟩ := SlAt.get h28 q29
                obtain rfl := hr30
                refine Exec.fia tyOk rfl rfl rfl ⟨q29.1, q29.2, hd30.some⟩ ?_
                refine Exec.run tyOk 400 rfl ?_
                refine Exec.fld tyOk (x := .int .i64 ((atI x1.Parts x25).Id)) rfl rfl rfl (RdAt.part hd30 0 1 rfl) rfl rfl ?_
                refine Exec.run tyOk 400 rfl ?_
                rcases cond_some hF with ⟨hb, hF⟩ | ⟨hb, hF⟩
                · skip
                  refine Exec.ifT rfl hb ?_
                  refine Exec.run tyOk 400 rfl ?_
                  obtain rfl := some_inj hF
                  exact Exec.ret tyOk rfl rfl rfl
                · skip
                  refine Exec.ifF rfl hb ?_
                  refine Exec.run tyOk 400 rfl ?_
                  exact Exec.round [(1, .ptr 0 0), (3, .v (.int .i64 ((((x1.Parts).length : Nat) : Int)))), (4, .v (.int .i64 (x7))), (5, .ptr 1 0), (7, .v (.int .i64 ((IntKind.i64.wrap (x25 + (1 : Int))))))] ⟨rfl, rfl, rfl, rfl, rfl, trivial⟩ ⟨n26, Nat.lt_succ_self _, (IntKind.i64.wrap (x25 + (1 : Int))), rfl, rfl, h28, hF⟩
              · skip
                refine Exec.ifF rfl hb ?_
                refine Exec.run tyOk 400 rfl ?_
                refine Exec.cut 1 [(1, .ptr 0 0), (3, .v (.int .i64 ((((x1.Parts).length : Nat) : Int)))), (4, .v (.int .i64 (x7)))] (M' := [.blk [.v (.int .i64 (x1.Version)), .v (.slice a2 ((x1.Parts).length) (k2))] 24]) rfl ⟨rfl, rfl, rfl, trivial⟩ rfl rfl rfl ?_
                exact Exec.round [(1, .ptr 0 0), (3, .v (.int .i64 ((((x1.Parts).length : Nat) : Int)))), (4, .v (.int .i64 (x7)))] ⟨rfl, rfl, rfl, trivial⟩ ⟨rfl, rfl, h28, hF⟩
        · skip
          refine Exec.run tyOk 400 rfl ?_
          rcases cond_some hF with ⟨hb, hF⟩ | ⟨hb, hF⟩
          · skip
            refine Exec.ifT rfl hb ?_
            refine Exec.run tyOk 400 rfl ?_
            obtain ⟨q31, hF⟩ := req_some hF
            obtain ⟨c32, hr32, hd32⟩ := SlAt.get h10 q31
            obtain rfl := hr32
            refine Exec.ia tyOk rfl rfl ⟨q31.1, q31.2, hd32.some⟩ ?_
            refine Exec.run tyOk 400 rfl ?_
            refine Exec.ld tyOk (x := .string ⟨⟨(atI x1.Parts ((IntKind.i64.wrap (x7 + (1 : Int))))).From⟩⟩) rfl rfl (RdAt.part hd32 1 1 rfl) rfl rfl ?_
            refine Exec.run tyOk 400 rfl ?_
            exact Exec.round [(1, .ptr 0 0), (3, .v (.int .i64 ((((x1.Parts).length : Nat) : Int)))), (4, .v (.int .i64 (x7))), (5, .ptr 1 0), (6, .v (.string ⟨⟨(atI x1.Parts ((IntKind.i64.wrap (x7 + (1 : Int))))).From⟩⟩))] ⟨rfl, rfl, rfl, rfl, rfl, trivial⟩ ⟨(atI x1.Parts ((IntKind.i64.wrap (x7 + (1 : Int))))).From, rfl, rfl, h10, hF⟩
          · skip
            refine Exec.ifF rfl hb ?_
            refine Exec.run tyOk 400 rfl ?_
            exact Exec.round [(1, .ptr 0 0), (3, .v (.int .i64 ((((x1.Parts).length : Nat) : Int)))), (4, .v (.int .i64 (x7))), (5, .ptr 1 0), (6, .v (.string ⟨⟨([] : Str)⟩⟩))] ⟨rfl, rfl, rfl, rfl, rfl, trivial⟩ ⟨([] : Str), rfl, rfl, h10, hF⟩
      · skip
        refine Exec.ifF rfl hb ?_
        refine Exec.run tyOk 400 rfl ?_
        refine Exec.cut 0 [] (M' := []) rfl trivial rfl rfl rfl ?_
        exact Exec.round [] trivial ⟨rfl, rfl, hF⟩

def F_clockworkref04_ValidRange (x1 : TRange) : Option Bool :=
  (bnd (F_clockworkref04_Bound x1.From) fun x2 => (bnd (gcall ((x2) == true) (F_clockworkref04_Bound x1.To)) fun x3 => (some ((x2 && x3) && ((x1.To == ([] : Str)) || (sLt x1.From x1.To))))))

set_option maxRecDepth 100000 in
theorem W_clockworkref04_ValidRange {V : View} (x1 : TRange)   {r : Bool} (hF : F_clockworkref04_ValidRange x1 = some r) :
    Spec Try.prog 40 [.agg ⟨[.string ⟨⟨x1.From⟩⟩, .string ⟨⟨x1.To⟩⟩]⟩] V (fun _ v => v = .bool (r)) := by
  unfold F_clockworkref04_ValidRange at hF
  refine Spec.enter (T := tyT) Try.func40 rfl (by kernel_rfl) rfl rfl rfl ?_
  refine Exec.run tyOk 400 rfl ?_
  obtain ⟨x2, hx2, hF⟩ := bnd_some hF
  refine Exec.callS (.bool (x2)) rfl rfl (W_clockworkref04_Bound x1.From  hx2) ?_
  refine Exec.run tyOk 400 rfl ?_
  obtain ⟨x3, hx3, hF⟩ := bnd_some hF
  refine Exec.callS (.bool (x3)) rfl rfl (fun gg0 => W_clockworkref04_Bound x1.To  (gcall_some hx3 (gd1_of gg0))) ?_
  refine Exec.run tyOk 400 rfl ?_
  obtain rfl := some_inj hF
  exact Exec.ret tyOk rfl rfl rfl

def F_clockworkref04_Contains (x1 : TRange) (x2 : Str) : Option Bool :=
  (bnd (F_clockworkref04_ValidRange x1) fun x3 => (some ((x3 && (!sLt x2 x1.From)) && ((x1.To == ([] : Str)) || (sLt x2 x1.To)))))

set_option maxRecDepth 100000 in
theorem W_clockworkref04_Contains {V : View} (x1 : TRange) (x2 : Str)   {r : Bool} (hF : F_clockworkref04_Contains x1 x2 = some r) :
    Spec Try.prog 41 [.agg ⟨[.string ⟨⟨x1.From⟩⟩, .string ⟨⟨x1.To⟩⟩]⟩, .string ⟨⟨x2⟩⟩] V (fun _ v => v = .bool (r)) := by
  unfold F_clockworkref04_Contains at hF
  refine Spec.enter (T := tyT) Try.func41 rfl (by kernel_rfl) rfl rfl rfl ?_
  refine Exec.run tyOk 400 rfl ?_
  obtain ⟨x3, hx3, hF⟩ := bnd_some hF
  refine Exec.callS (.bool (x3)) rfl rfl (W_clockworkref04_ValidRange x1  hx3) ?_
  refine Exec.run tyOk 400 rfl ?_
  obtain rfl := some_inj hF
  exact Exec.ret tyOk rfl rfl rfl

end Go.Proofs.Ytedbagekceppiaa
