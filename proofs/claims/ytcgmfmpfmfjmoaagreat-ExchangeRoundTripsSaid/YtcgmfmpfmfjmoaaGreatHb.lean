/-
  Functions of the program as their counterparts say them (printed by a program).
  Conditions: none.
-/
import Derived.Test.YtcgmfmpfmfjmoaaGreatHa
set_option linter.all false
namespace Go.Proofs.YtcgmfmpfmfjmoaaGreat

def F_clockworkref02_TakeUint_L1 (x1 : Str) (x2 : Int) (J3 : Option (Int × Int × Int)) : Nat → Int → Int → Int → Option (Int × Int × Int)
  | 0, _, _, _ => none
  | n8 + 1, x5, x6, x7 => (cond (decide (x7 < (10 : Int))) (cond (decide (((x1).length : Int) ≤ (IntKind.i64.wrap (x2 + x7)))) (some ((0 : Int), (0 : Int), (6 : Int))) (req (0 ≤ (IntKind.i64.wrap (x2 + x7)) ∧ (IntKind.i64.wrap (x2 + x7)) < ((x1).length : Int)) (cond (((x7 == (9 : Int)) && (decide ((1 : Int) < (byteAt x1 ((IntKind.i64.wrap (x2 + x7))).toNat)))) || (((byteAt x1 ((IntKind.i64.wrap (x2 + x7))).toNat) == (0 : Int)) && (decide ((0 : Int) < x7)))) (some ((0 : Int), (0 : Int), (5 : Int))) (req ((128 : Int) ≠ 0) (cond (decide ((byteAt x1 ((IntKind.i64.wrap (x2 + x7))).toNat) < (128 : Int))) (some ((IntKind.u64.wrap (x5 + (IntKind.u64.wrap ((IntKind.u64.wrap (remI (byteAt x1 ((IntKind.i64.wrap (x2 + x7))).toNat) (128 : Int))) * x6)))), (IntKind.i64.wrap ((IntKind.i64.wrap (x2 + x7)) + (1 : Int))), (0 : Int))) (F_clockworkref02_TakeUint_L1 x1 x2 J3 n8 ((IntKind.u64.wrap (x5 + (IntKind.u64.wrap ((IntKind.u64.wrap (remI (byteAt x1 ((IntKind.i64.wrap (x2 + x7))).toNat) (128 : Int))) * x6))))) ((IntKind.u64.wrap (x6 * (128 : Int)))) ((IntKind.i64.wrap (x7 + (1 : Int)))))))))) J3)

def F_clockworkref02_TakeUint (x1 : Str) (x2 : Int) : Option (Int × Int × Int) :=
  (cond ((decide (x2 < (0 : Int))) || (decide (((x1).length : Int) < x2))) (some ((0 : Int), (0 : Int), (1 : Int))) (jn ((some ((0 : Int), (0 : Int), (5 : Int)))) (fun J3 => (F_clockworkref02_TakeUint_L1 x1 x2 J3 (((10 : Int)).toNat + 1) ((0 : Int)) ((1 : Int)) ((0 : Int))))))

set_option maxRecDepth 100000 in
theorem W_clockworkref02_TakeUint {V : View} (x1 : Str) (x2 : Int)   {r : Int × Int × Int} (hF : F_clockworkref02_TakeUint x1 x2 = some r) :
    Spec Tryz.prog 125 [.string ⟨⟨x1⟩⟩, .int .i64 (x2)] V (fun _ v => v = .tuple ⟨[.int .u64 (r.1), .int .i64 (r.2.1), .int .i64 (r.2.2)]⟩) := by
  unfold F_clockworkref02_TakeUint at hF
  refine Spec.enter (T := tyT) Tryz.func125 rfl (by kernel_rfl) rfl rfl rfl ?_
  refine Exec.run tyOk 400 rfl ?_
  rcases cond_some hF with ⟨hb, hF⟩ | ⟨hb, hF⟩
  · skip
    refine Exec.ifT rfl hb ?_
    refine Exec.run tyOk 400 rfl ?_
    obtain rfl := some_inj hF
    exact Exec.ret tyOk rfl rfl rfl
  · skip
    refine Exec.ifF rfl hb ?_
    refine Exec.run tyOk 11 rfl ?_
    obtain ⟨J3, hJ3, hF⟩ := jn_some hF
    refine Exec.seam (fun L' V' M' => L' = [] ∧ M' = [] ∧ J3 = some r) rfl ?_ ?_
    · rintro L' V4 M' ⟨rfl, rfl, hF⟩
      subst hJ3
      refine Exec.run tyOk 400 rfl ?_
      obtain rfl := some_inj hF
      exact Exec.ret tyOk rfl rfl rfl
    · skip
      refine Exec.run tyOk 400 rfl ?_
      refine Exec.loop (fun n8 L' V' M' => ∃ (x5 : Int) (x6 : Int) (x7 : Int), L' = [(0, .v (.string ⟨⟨x1⟩⟩)), (1, .v (.int .i64 (x2))), (7, .v (.int .u64 (x5))), (8, .v (.int .u64 (x6))), (9, .v (.int .i64 (x7)))] ∧ M' = [] ∧ F_clockworkref02_TakeUint_L1 x1 x2 J3 n8 x5 x6 x7 = some r) ⟨(((10 : Int)).toNat + 1), [(0, .v (.string ⟨⟨x1⟩⟩)), (1, .v (.int .i64 (x2))), (7, .v (.int .u64 ((0 : Int)))), (8, .v (.int .u64 ((1 : Int)))), (9, .v (.int .i64 ((0 : Int))))], ⟨rfl, rfl, rfl, rfl, rfl, trivial⟩, (0 : Int), (1 : Int), (0 : Int), rfl, rfl, hF⟩ ?_
      rintro n8 L' V9 M' ⟨x5, x6, x7, rfl, rfl, hF⟩
      rcases n8 with _ | n8
      · exact absurd hF (by simp [F_clockworkref02_TakeUint_L1])
      rw [F_clockworkref02_TakeUint_L1] at hF
      refine Exec.run tyOk 400 rfl ?_
      rcases cond_some hF with ⟨hb, hF⟩ | ⟨hb, hF⟩
      · skip
        refine Exec.ifT rfl hb ?_
        refine Exec.run tyOk 400 rfl ?_
        rcases cond_some hF with ⟨hb, hF⟩ | ⟨hb, hF⟩
        · skip
          refine Exec.ifT rfl hb ?_
          refine Exec.run tyOk 400 rfl ?_
          obtain rfl := some_inj hF
          exact Exec.ret tyOk rfl rfl rfl
        · skip
          refine Exec.ifF rfl hb ?_
          refine Exec.run tyOk 400 rfl ?_
          obtain ⟨q10, hF⟩ := req_some hF
          refine Exec.idx tyOk rfl rfl q10 ?_
          refine Exec.run tyOk 400 rfl ?_
          rcases cond_some hF with ⟨hb, hF⟩ | ⟨hb, hF⟩
          · skip
            refine Exec.ifT rfl hb ?_
            refine Exec.run tyOk 400 rfl ?_
            obtain rfl := some_inj hF
            exact Exec.ret tyOk rfl rfl rfl
          · skip
            refine Exec.ifF rfl hb ?_
            refine Exec.run tyOk 400 rfl ?_
            obtain ⟨q11, hF⟩ := req_some hF
            refine Exec.ari rfl rfl q11 ?_
            refine Exec.run tyOk 400 rfl ?_
            rcases cond_some hF with ⟨hb, hF⟩ | ⟨hb, hF⟩
            · skip
              refine Exec.ifT rfl hb ?_
              refine Exec.run tyOk 400 rfl ?_
              obtain rfl := some_inj hF
              exact Exec.ret tyOk rfl rfl rfl
            · skip
              refine Exec.ifF rfl hb ?_
              refine Exec.run tyOk 400 rfl ?_
              exact Exec.round [(0, .v (.string ⟨⟨x1⟩⟩)), (1, .v (.int .i64 (x2))), (7, .v (.int .u64 ((IntKind.u64.wrap (x5 + (IntKind.u64.wrap ((IntKind.u64.wrap (remI (byteAt x1 ((IntKind.i64.wrap (x2 + x7))).toNat) (128 : Int))) * x6))))))), (8, .v (.int .u64 ((IntKind.u64.wrap (x6 * (128 : Int)))))), (9, .v (.int .i64 ((IntKind.i64.wrap (x7 + (1 : Int))))))] ⟨rfl, rfl, rfl, rfl, rfl, trivial⟩ ⟨n8, Nat.lt_succ_self _, (IntKind.u64.wrap (x5 + (IntKind.u64.wrap ((IntKind.u64.wrap (remI (byteAt x1 ((IntKind.i64.wrap (x2 + x7))).toNat) (128 : Int))) * x6)))), (IntKind.u64.wrap (x6 * (128 : Int))), (IntKind.i64.wrap (x7 + (1 : Int))), rfl, rfl, hF⟩
      · skip
        refine Exec.ifF rfl hb ?_
        refine Exec.run tyOk 400 rfl ?_
        exact Exec.round [] trivial ⟨rfl, rfl, hF⟩

def F_clockworkref02_Unfold (x1 : Int) : Option Int :=
  (req ((2 : Int) ≠ 0) (cond ((remI x1 (2 : Int)) == (1 : Int)) (req ((2 : Int) ≠ 0) (some (IntKind.i64.wrap ((IntKind.i64.wrap ((0 : Int) - (IntKind.i64.wrap (quoI .u64 x1 (2 : Int))))) - (1 : Int))))) (req ((2 : Int) ≠ 0) (some (IntKind.i64.wrap (quoI .u64 x1 (2 : Int)))))))

set_option maxRecDepth 100000 in
theorem W_clockworkref02_Unfold {V : View} (x1 : Int)   {r : Int} (hF : F_clockworkref02_Unfold x1 = some r) :
    Spec Tryz.prog 126 [.int .u64 (x1)] V (fun _ v => v = .int .i64 (r)) := by
  unfold F_clockworkref02_Unfold at hF
  refine Spec.enter (T := tyT) Tryz.func126 rfl (by kernel_rfl) rfl rfl rfl ?_
  refine Exec.run tyOk 400 rfl ?_
  obtain ⟨q2, hF⟩ := req_some hF
  refine Exec.ari rfl rfl q2 ?_
  refine Exec.run tyOk 400 rfl ?_
  rcases cond_some hF with ⟨hb, hF⟩ | ⟨hb, hF⟩
  · skip
    refine Exec.ifT rfl hb ?_
    refine Exec.run tyOk 400 rfl ?_
    obtain ⟨q3, hF⟩ := req_some hF
    refine Exec.ari rfl rfl q3 ?_
    refine Exec.run tyOk 400 rfl ?_
    obtain rfl := some_inj hF
    exact Exec.ret tyOk rfl rfl rfl
  · skip
    refine Exec.ifF rfl hb ?_
    refine Exec.run tyOk 400 rfl ?_
    obtain ⟨q4, hF⟩ := req_some hF
    refine Exec.ari rfl rfl q4 ?_
    refine Exec.run tyOk 400 rfl ?_
    obtain rfl := some_inj hF
    exact Exec.ret tyOk rfl rfl rfl

def F_wire_appended (x1 : List Int) (x3 : Int) : Option (List Int) := (req (((x1 ++ [x3])).length * 1 ≤ 140737488355328) (some (x1 ++ [x3])))

set_option maxRecDepth 100000 in
theorem W_wire_appended {V : View} (x1 : List Int) (x3 : Int) {a2 : Option Addr} {k2 : Nat} (h2 : SlAt (cInt .u8) V a2 k2 x1) {r : List Int} (hF : F_wire_appended x1 x3 = some r) :
    Spec Tryz.prog 129 [.slice a2 ((x1).length) (k2), .int .u8 (x3)] V (fun V' v => ∃ (a29 : Option Addr) (k29 : Nat), v = .slice a29 ((r).length) (k29) ∧ SlAt (cInt .u8) V' a29 k29 r) := by
  unfold F_wire_appended at hF
  refine Spec.enter (T := tyT) Tryz.func129 rfl (by kernel_rfl) rfl rfl rfl ?_
  refine Exec.run tyOk 400 rfl ?_
  obtain ⟨q8, hF⟩ := req_some hF
  obtain rfl := some_inj hF
  have hcap := h2.1
  refine Exec.slx3 tyOk rfl rfl rfl rfl rfl rfl rfl ⟨by simp [loN], by simp [loN], Int.le_refl _, by omega⟩ (l' := 0) rfl (n' := x1.length) (by simp) (c' := x1.length) (by simp) ?_
  refine Exec.run tyOk 400 rfl ?_
  refine Exec.bsl tyOk rfl rfl ?_
  refine Exec.run tyOk 400 rfl ?_
  refine Exec.appO tyOk (cd := cInt .u8) 0 (nm := (x1 ++ [x3]).length) rfl rfl rfl rfl rfl rfl rfl (by simp) (fun _ _ _ => rfl) q8 h2 rfl rfl rfl rfl (by omega) (fun cs3 a3 k3 hcs3 => ?_)
  have h13 : RowRep (cInt .u8) V (x1 ++ [x3]) (cs3 ++ [.int .u8 x3]) := RowRep.app hcs3 ⟨_, _, rfl, rfl, rfl⟩
  refine Exec.run tyOk 400 rfl ?_
  refine Exec.frz 1 rfl rfl rfl (fun V19 hv19 hd19 hn19 => ?_)
  have hz19 := RowRep.slat h13 hv19 hd19 hn19
  exact Exec.ret tyOk rfl rfl ⟨_, _, rfl, hz19⟩

def F_clockworkref02_Fold (x1 : Int) : Option Int :=
  (cond (decide (x1 < (0 : Int))) (some (IntKind.u64.wrap ((IntKind.u64.wrap ((2 : Int) * (IntKind.u64.wrap (IntKind.i64.wrap ((0 : Int) - (IntKind.i64.wrap (x1 + (1 : Int)))))))) + (1 : Int)))) (some (IntKind.u64.wrap ((2 : Int) * (IntKind.u64.wrap x1)))))

set_option maxRecDepth 100000 in
theorem W_clockworkref02_Fold {V : View} (x1 : Int)   {r : Int} (hF : F_clockworkref02_Fold x1 = some r) :
    Spec Tryz.prog 131 [.int .i64 (x1)] V (fun _ v => v = .int .u64 (r)) := by
  unfold F_clockworkref02_Fold at hF
  refine Spec.enter (T := tyT) Tryz.func131 rfl (by kernel_rfl) rfl rfl rfl ?_
  refine Exec.run tyOk 400 rfl ?_
  rcases cond_some hF with ⟨hb, hF⟩ | ⟨hb, hF⟩
  · skip
    refine Exec.ifT rfl hb ?_
    refine Exec.run tyOk 400 rfl ?_
    obtain rfl := some_inj hF
    exact Exec.ret tyOk rfl rfl rfl
  · skip
    refine Exec.ifF rfl hb ?_
    refine Exec.run tyOk 400 rfl ?_
    obtain rfl := some_inj hF
    exact Exec.ret tyOk rfl rfl rfl

def F_clockworkref04_Valid_L1 (x1 : Str) (J2 : Option Bool) : Nat → Int → Option Bool
  | 0, _ => none
  | n5 + 1, x4 => (cond (decide (x4 < ((x1).length : Int))) (req (0 ≤ x4 ∧ x4 < ((x1).length : Int)) (cond (((((((decide ((byteAt x1 (x4).toNat) < (97 : Int))) || (decide ((122 : Int) < (byteAt x1 (x4).toNat)))) && ((decide ((byteAt x1 (x4).toNat) < (48 : Int))) || (decide ((57 : Int) < (byteAt x1 (x4).toNat))))) && ((byteAt x1 (x4).toNat) != (47 : Int))) && ((byteAt x1 (x4).toNat) != (46 : Int))) && ((byteAt x1 (x4).toNat) != (95 : Int))) && ((byteAt x1 (x4).toNat) != (45 : Int))) (some false) (F_clockworkref04_Valid_L1 x1 J2 n5 ((IntKind.i64.wrap (x4 + (1 : Int))))))) J2)

def F_clockworkref04_Valid (x1 : Str) : Option Bool :=
  (jn ((some ((decide ((1 : Int) ≤ ((x1).length : Int))) && (decide (((x1).length : Int) ≤ (24 : Int)))))) (fun J2 => (F_clockworkref04_Valid_L1 x1 J2 ((((x1).length : Int)).toNat + 1) ((0 : Int)))))

set_option maxRecDepth 100000 in
theorem W_clockworkref04_Valid {V : View} (x1 : Str)   {r : Bool} (hF : F_clockworkref04_Valid x1 = some r) :
    Spec Tryz.prog 133 [.string ⟨⟨x1⟩⟩] V (fun _ v => v = .bool (r)) := by
  unfold F_clockworkref04_Valid at hF
  refine Spec.enter (T := tyT) Tryz.func133 rfl (by kernel_rfl) rfl rfl rfl ?_
  refine Exec.run tyOk 9 rfl ?_
  obtain ⟨J2, hJ2, hF⟩ := jn_some hF
  refine Exec.seam (fun L' V' M' => L' = [(0, .v (.string ⟨⟨x1⟩⟩))] ∧ M' = [] ∧ J2 = some r) rfl ?_ ?_
  · rintro L' V3 M' ⟨rfl, rfl, hF⟩
    subst hJ2
    refine Exec.run tyOk 400 rfl ?_
    obtain rfl := some_inj hF
    exact Exec.ret tyOk rfl rfl rfl
  · skip
    refine Exec.run tyOk 400 rfl ?_
    refine Exec.loop (fun n5 L' V' M' => ∃ (x4 : Int), L' = [(0, .v (.string ⟨⟨x1⟩⟩)), (3, .v (.int .i64 (x4)))] ∧ M' = [] ∧ F_clockworkref04_Valid_L1 x1 J2 n5 x4 = some r) ⟨((((x1).length : Int)).toNat + 1), [(0, .v (.string ⟨⟨x1⟩⟩)), (3, .v (.int .i64 ((0 : Int))))], ⟨rfl, rfl, trivial⟩, (0 : Int), rfl, rfl, hF⟩ ?_
    rintro n5 L' V6 M' ⟨x4, rfl, rfl, hF⟩
    rcases n5 with _ | n5
    · exact absurd hF (by simp [F_clockworkref04_Valid_L1])
    rw [F_clockworkref04_Valid_L1] at hF
    refine Exec.run tyOk 400 rfl ?_
    rcases cond_some hF with ⟨hb, hF⟩ | ⟨hb, hF⟩
    · skip
      refine Exec.ifT rfl hb ?_
      refine Exec.run tyOk 400 rfl ?_
      obtain ⟨q7, hF⟩ := req_some hF
      refine Exec.idx tyOk rfl rfl q7 ?_
      refine Exec.run tyOk 400 rfl ?_
      rcases cond_some hF with ⟨hb, hF⟩ | ⟨hb, hF⟩
      · skip
        refine Exec.ifT rfl hb ?_
        refine Exec.run tyOk 400 rfl ?_
        obtain rfl := some_inj hF
        exact Exec.ret tyOk rfl rfl rfl
      · skip
        refine Exec.ifF rfl hb ?_
        refine Exec.run tyOk 400 rfl ?_
        exact Exec.round [(0, .v (.string ⟨⟨x1⟩⟩)), (3, .v (.int .i64 ((IntKind.i64.wrap (x4 + (1 : Int))))))] ⟨rfl, rfl, trivial⟩ ⟨n5, Nat.lt_succ_self _, (IntKind.i64.wrap (x4 + (1 : Int))), rfl, rfl, hF⟩
    · skip
      refine Exec.ifF rfl hb ?_
      refine Exec.run tyOk 400 rfl ?_
      exact Exec.round [(0, .v (.string ⟨⟨x1⟩⟩))] ⟨rfl, trivial⟩ ⟨rfl, rfl, hF⟩

def F_keys_consists_L1 (x1 : Str) (g3 : Int → Option Bool) (J4 : Option Bool) : Nat → Int → Option Bool
  | 0, _ => none
  | n7 + 1, x6 => (cond (decide (x6 < ((x1).length : Int))) (req (0 ≤ x6 ∧ x6 < ((x1).length : Int)) (bnd (g3 ((byteAt x1 (x6).toNat))) fun x11 => (cond (!x11) (some false) (F_keys_consists_L1 x1 g3 J4 n7 ((IntKind.i64.wrap (x6 + (1 : Int)))))))) J4)

def F_keys_consists (x1 : Str) (g3 : Int → Option Bool) : Option Bool :=
  (cond (decide ((24 : Int) < ((x1).length : Int))) (some false) (jn ((some true)) (fun J4 => (F_keys_consists_L1 x1 g3 J4 ((((x1).length : Int)).toNat + 1) ((0 : Int))))))

set_option maxRecDepth 100000 in
theorem W_keys_consists {V : View} (x1 : Str) (g3 : Int → Option Bool) {f3 : Nat} {ca3 : List Value}  (hg3 : FnSpec1 Tryz.prog f3 ca3 V (fun (y : Int) => .int .u8 (y)) (fun (r : Bool) => .bool (r)) g3) {r : Bool} (hF : F_keys_consists x1 g3 = some r) :
    Spec Tryz.prog 134 [.string ⟨⟨x1⟩⟩, .func (.func f3) #[] ⟨ca3⟩] V (fun _ v => v = .bool (r)) := by
  unfold F_keys_consists at hF
  refine Spec.enter (T := tyT) Tryz.func134 rfl (by kernel_rfl) rfl rfl rfl ?_
  refine Exec.run tyOk 400 rfl ?_
  rcases cond_some hF with ⟨hb, hF⟩ | ⟨hb, hF⟩
  · skip
    refine Exec.ifT rfl hb ?_
    refine Exec.run tyOk 400 rfl ?_
    obtain rfl := some_inj hF
    exact Exec.ret tyOk rfl rfl rfl
  · skip
    refine Exec.ifF rfl hb ?_
    refine Exec.run tyOk 8 rfl ?_
    obtain ⟨J4, hJ4, hF⟩ := jn_some hF
    refine Exec.seam (fun L' V' M' => L' = [] ∧ M' = [] ∧ J4 = some r) rfl ?_ ?_
    · rintro L' V5 M' ⟨rfl, rfl, hF⟩
      subst hJ4
      refine Exec.run tyOk 400 rfl ?_
      obtain rfl := some_inj hF
      exact Exec.ret tyOk rfl rfl rfl
    · skip
      refine Exec.run tyOk 400 rfl ?_
      refine Exec.loop (fun n7 L' V' M' => ∃ (x6 : Int), L' = [(0, .v (.string ⟨⟨x1⟩⟩)), (1, .v (.func (.func f3) #[] ⟨ca3⟩)), (10, .v (.int .i64 (((x1).length : Int)))), (11, .v (.int .i64 (x6)))] ∧ M' = [] ∧ FnSpec1 Tryz.prog f3 ca3 V' (fun (y : Int) => .int .u8 (y)) (fun (r : Bool) => .bool (r)) g3 ∧ F_keys_consists_L1 x1 g3 J4 n7 x6 = some r) ⟨((((x1).length : Int)).toNat + 1), [(0, .v (.string ⟨⟨x1⟩⟩)), (1, .v (.func (.func f3) #[] ⟨ca3⟩)), (10, .v (.int .i64 (((x1).length : Int)))), (11, .v (.int .i64 ((0 : Int))))], ⟨rfl, rfl, rfl, rfl, trivial⟩, (0 : Int), rfl, rfl, hg3, hF⟩ ?_
      rintro n7 L' V8 M' ⟨x6, rfl, rfl, h9, hF⟩
      rcases n7 with _ | n7
      · exact absurd hF (by simp [F_keys_consists_L1])
      rw [F_keys_consists_L1] at hF
      refine Exec.run tyOk 400 rfl ?_
      rcases cond_some hF with ⟨hb, hF⟩ | ⟨hb, hF⟩
      · skip
        refine Exec.ifT rfl hb ?_
        refine Exec.run tyOk 400 rfl ?_
        obtain ⟨q10, hF⟩ := req_some hF
        refine Exec.idx tyOk rfl rfl q10 ?_
        refine Exec.run tyOk 400 rfl ?_
        obtain ⟨x11, hx11, hF⟩ := bnd_some hF
        refine Exec.callS (.bool (x11)) rfl rfl (h9.at hx11) ?_
        refine Exec.run tyOk 400 rfl ?_
        rcases cond_some hF with ⟨hb, hF⟩ | ⟨hb, hF⟩
        · skip
          refine Exec.ifT rfl hb ?_
          refine Exec.run tyOk 400 rfl ?_
          obtain rfl := some_inj hF
          exact Exec.ret tyOk rfl rfl rfl
        · skip
          refine Exec.ifF rfl hb ?_
          refine Exec.run tyOk 400 rfl ?_
          exact Exec.round [(0, .v (.string ⟨⟨x1⟩⟩)), (1, .v (.func (.func f3) #[] ⟨ca3⟩)), (10, .v (.int .i64 (((x1).length : Int)))), (11, .v (.int .i64 ((IntKind.i64.wrap (x6 + (1 : Int))))))] ⟨rfl, rfl, rfl, rfl, trivial⟩ ⟨n7, Nat.lt_succ_self _, (IntKind.i64.wrap (x6 + (1 : Int))), rfl, rfl, h9, hF⟩
      · skip
        refine Exec.ifF rfl hb ?_
        refine Exec.run tyOk 400 rfl ?_
        exact Exec.round [] trivial ⟨rfl, rfl, hF⟩

def F_keys_Valid_1 (x1 : Int) : Option Bool :=
  (some (((((((decide ((97 : Int) ≤ x1)) && (decide (x1 ≤ (122 : Int)))) || ((decide ((48 : Int) ≤ x1)) && (decide (x1 ≤ (57 : Int))))) || (x1 == (47 : Int))) || (x1 == (46 : Int))) || (x1 == (95 : Int))) || (x1 == (45 : Int))))

set_option maxRecDepth 100000 in
theorem W_keys_Valid_1 {V : View} (x1 : Int)   {r : Bool} (hF : F_keys_Valid_1 x1 = some r) :
    Spec Tryz.prog 135 [.int .u8 (x1)] V (fun _ v => v = .bool (r)) := by
  unfold F_keys_Valid_1 at hF
  refine Spec.enter (T := tyT) Tryz.func135 rfl (by kernel_rfl) rfl rfl rfl ?_
  refine Exec.run tyOk 400 rfl ?_
  obtain rfl := some_inj hF
  exact Exec.ret tyOk rfl rfl rfl

def F_clockworkref05_Plain_L1 (x1 : Str) (J2 : Option Bool) : Nat → Int → Option Bool
  | 0, _ => none
  | n5 + 1, x4 => (cond (decide (x4 < ((x1).length : Int))) (req (0 ≤ x4 ∧ x4 < ((x1).length : Int)) (req ((((decide ((byteAt x1 (x4).toNat) < (32 : Int)))) == false) = true → 0 ≤ x4 ∧ x4 < ((x1).length : Int)) (cond ((decide ((byteAt x1 (x4).toNat) < (32 : Int))) || (decide ((126 : Int) < (byteAt x1 (x4).toNat)))) (some false) (F_clockworkref05_Plain_L1 x1 J2 n5 ((IntKind.i64.wrap (x4 + (1 : Int)))))))) J2)

def F_clockworkref05_Plain (x1 : Str) : Option Bool :=
  (cond (decide ((64 : Int) < ((x1).length : Int))) (some false) (jn ((some true)) (fun J2 => (F_clockworkref05_Plain_L1 x1 J2 ((((x1).length : Int)).toNat + 1) ((0 : Int))))))

set_option maxRecDepth 100000 in
theorem W_clockworkref05_Plain {V : View} (x1 : Str)   {r : Bool} (hF : F_clockworkref05_Plain x1 = some r) :
    Spec Tryz.prog 136 [.string ⟨⟨x1⟩⟩] V (fun _ v => v = .bool (r)) := by
  unfold F_clockworkref05_Plain at hF
  refine Spec.enter (T := tyT) Tryz.func136 rfl (by kernel_rfl) rfl rfl rfl ?_
  refine Exec.run tyOk 400 rfl ?_
  rcases cond_some hF with ⟨hb, hF⟩ | ⟨hb, hF⟩
  · skip
    refine Exec.ifT rfl hb ?_
    refine Exec.run tyOk 400 rfl ?_
    obtain rfl := some_inj hF
    exact Exec.ret tyOk rfl rfl rfl
  · skip
    refine Exec.ifF rfl hb ?_
    refine Exec.run tyOk 6 rfl ?_
    obtain ⟨J2, hJ2, hF⟩ := jn_some hF
    refine Exec.seam (fun L' V' M' => L' = [] ∧ M' = [] ∧ J2 = some r) rfl ?_ ?_
    · rintro L' V3 M' ⟨rfl, rfl, hF⟩
      subst hJ2
      refine Exec.run tyOk 400 rfl ?_
      obtain rfl := some_inj hF
      exact Exec.ret tyOk rfl rfl rfl
    · skip
      refine Exec.run tyOk 400 rfl ?_
      refine Exec.loop (fun n5 L' V' M' => ∃ (x4 : Int), L' = [(0, .v (.string ⟨⟨x1⟩⟩)), (3, .v (.int .i64 (x4)))] ∧ M' = [] ∧ F_clockworkref05_Plain_L1 x1 J2 n5 x4 = some r) ⟨((((x1).length : Int)).toNat + 1), [(0, .v (.string ⟨⟨x1⟩⟩)), (3, .v (.int .i64 ((0 : Int))))], ⟨rfl, rfl, trivial⟩, (0 : Int), rfl, rfl, hF⟩ ?_
      rintro n5 L' V6 M' ⟨x4, rfl, rfl, hF⟩
      rcases n5 with _ | n5
      · exact absurd hF (by simp [F_clockworkref05_Plain_L1])
      rw [F_clockworkref05_Plain_L1] at hF
      refine Exec.run tyOk 400 rfl ?_
      rcases cond_some hF with ⟨hb, hF⟩ | ⟨hb, hF⟩
      · skip
        refine Exec.ifT rfl hb ?_
        refine Exec.run tyOk 400 rfl ?_
        obtain ⟨q7, hF⟩ := req_some hF
        refine Exec.idx tyOk rfl rfl q7 ?_
        refine Exec.run tyOk 400 rfl ?_
        obtain ⟨q8, hF⟩ := req_some hF
        refine Exec.idx tyOk rfl rfl (fun gg0 => q8 (gd1_of gg0)) ?_
        refine Exec.run tyOk 400 rfl ?_
        rcases cond_some hF with ⟨hb, hF⟩ | ⟨hb, hF⟩
        · skip
          refine Exec.ifT rfl hb ?_
          refine Exec.run tyOk 400 rfl ?_
          obtain rfl := some_inj hF
          exact Exec.ret tyOk rfl rfl rfl
        · skip
          refine Exec.ifF rfl hb ?_
          refine Exec.run tyOk 400 rfl ?_
          exact Exec.round [(0, .v (.string ⟨⟨x1⟩⟩)), (3, .v (.int .i64 ((IntKind.i64.wrap (x4 + (1 : Int))))))] ⟨rfl, rfl, trivial⟩ ⟨n5, Nat.lt_succ_self _, (IntKind.i64.wrap (x4 + (1 : Int))), rfl, rfl, hF⟩
      · skip
        refine Exec.ifF rfl hb ?_
        refine Exec.run tyOk 400 rfl ?_
        exact Exec.round [] trivial ⟨rfl, rfl, hF⟩

def F_slices_Equal_string_string_L1 (x1 : List Str) (x3 : List Str) (J5 : Option Bool) : Nat → Int → Option Bool
  | 0, _ => none
  | n8 + 1, x7 => (cond (decide (x7 < (((x1).length : Nat) : Int))) (req (0 ≤ x7 ∧ x7 < ((x1).length : Int)) (req (0 ≤ x7 ∧ x7 < ((x3).length : Int)) (cond ((atI x1 x7) != (atI x3 x7)) (some false) (F_slices_Equal_string_string_L1 x1 x3 J5 n8 ((IntKind.i64.wrap (x7 + (1 : Int)))))))) J5)

def F_slices_Equal_string_string (x1 : List Str) (x3 : List Str) : Option Bool :=
  (cond ((((x1).length : Nat) : Int) != (((x3).length : Nat) : Int)) (some false) (jn ((some true)) (fun J5 => (F_slices_Equal_string_string_L1 x1 x3 J5 (((((x1).length : Nat) : Int)).toNat + 1) ((0 : Int))))))

set_option maxRecDepth 100000 in
theorem W_slices_Equal_string_string {V : View} (x1 : List Str) (x3 : List Str) {a2 : Option Addr} {k2 : Nat} {a4 : Option Addr} {k4 : Nat} (h2 : SlAt cStr V a2 k2 x1) (h4 : SlAt cStr V a4 k4 x3) {r : Bool} (hF : F_slices_Equal_string_string x1 x3 = some r) :
    Spec Tryz.prog 140 [.slice a2 ((x1).length) (k2), .slice a4 ((x3).length) (k4)] V (fun _ v => v = .bool (r)) := by
  unfold F_slices_Equal_string_string at hF
  refine Spec.enter (T := tyT) Tryz.func140 rfl (by kernel_rfl) rfl rfl rfl ?_
  refine Exec.run tyOk 400 rfl ?_
  rcases cond_some hF with ⟨hb, hF⟩ | ⟨hb, hF⟩
  · skip
    refine Exec.ifT rfl hb ?_
    refine Exec.run tyOk 400 rfl ?_
    obtain rfl := some_inj hF
    exact Exec.ret tyOk rfl rfl rfl
  · skip
    refine Exec.ifF rfl hb ?_
    refine Exec.run tyOk 8 rfl ?_
    obtain ⟨J5, hJ5, hF⟩ := jn_some hF
    refine Exec.seam (fun L' V' M' => L' = [] ∧ M' = [] ∧ J5 = some r) rfl ?_ ?_
    · rintro L' V6 M' ⟨rfl, rfl, hF⟩
      subst hJ5
      refine Exec.run tyOk 400 rfl ?_
      obtain rfl := some_inj hF
      exact Exec.ret tyOk rfl rfl rfl
    · skip
      refine Exec.run tyOk 400 rfl ?_
      refine Exec.loop (fun n8 L' V' M' => ∃ (x7 : Int), L' = [(0, .v (.slice a2 ((x1).length) (k2))), (1, .v (.slice a4 ((x3).length) (k4))), (12, .v (.int .i64 ((((x1).length : Nat) : Int)))), (13, .v (.int .i64 (x7)))] ∧ M' = [] ∧ SlAt cStr V' a2 k2 x1 ∧ SlAt cStr V' a4 k4 x3 ∧ F_slices_Equal_string_string_L1 x1 x3 J5 n8 x7 = some r) ⟨(((((x1).length : Nat) : Int)).toNat + 1), [(0, .v (.slice a2 ((x1).length) (k2))), (1, .v (.slice a4 ((x3).length) (k4))), (12, .v (.int .i64 ((((x1).length : Nat) : Int)))), (13, .v (.int .i64 ((0 : Int))))], ⟨rfl, rfl, rfl, rfl, trivial⟩, (0 : Int), rfl, rfl, h2, h4, hF⟩ ?_
      rintro n8 L' V9 M' ⟨x7, rfl, rfl, h10, h11, hF⟩
      rcases n8 with _ | n8
      · exact absurd hF (by simp [F_slices_Equal_string_string_L1])
      rw [F_slices_Equal_string_string_L1] at hF
      refine Exec.run tyOk 400 rfl ?_
      rcases cond_some hF with ⟨hb, hF⟩ | ⟨hb, hF⟩
      · skip
        refine Exec.ifT rfl hb ?_
        refine Exec.run tyOk 400 rfl ?_
        refine Exec.draws tyOk [(0, true), (1, true), (2, true), (3, true), (4, true), (5, true), (6, true), (7, true), (8, true)] rfl (by kernel_rfl) ?_
        refine Exec.run tyOk 400 rfl ?_
        obtain ⟨q12, hF⟩ := req_some hF
        obtain ⟨c13, hr13, hd13⟩ := SlAt.get h10 q12
        obtain rfl := hr13
        refine Exec.fia tyOk rfl rfl rfl ⟨q12.1, q12.2, hd13.some⟩ ?_
        refine Exec.run tyOk 400 rfl ?_
        refine Exec.fld tyOk (x := .string ⟨⟨(atI x1 x7)⟩⟩) rfl rfl rfl hd13 rfl rfl ?_
        refine Exec.run tyOk 400 rfl ?_
        obtain ⟨q14, hF⟩ := req_some hF
        obtain ⟨c15, hr15, hd15⟩ := SlAt.get h11 q14
        obtain rfl := hr15
        refine Exec.fia tyOk rfl rfl rfl ⟨q14.1, q14.2, hd15.some⟩ ?_
        refine Exec.run tyOk 400 rfl ?_
        refine Exec.fld tyOk (x := .string ⟨⟨(atI x3 x7)⟩⟩) rfl rfl rfl hd15 rfl rfl ?_
        refine Exec.run tyOk 400 rfl ?_
        rcases cond_some hF with ⟨hb, hF⟩ | ⟨hb, hF⟩
        · skip
          refine Exec.ifT rfl hb ?_
          refine Exec.run tyOk 400 rfl ?_
          obtain rfl := some_inj hF
          exact Exec.ret tyOk rfl rfl rfl
        · skip
          refine Exec.ifF rfl hb ?_
          refine Exec.run tyOk 400 rfl ?_
          exact Exec.round [(0, .v (.slice a2 ((x1).length) (k2))), (1, .v (.slice a4 ((x3).length) (k4))), (12, .v (.int .i64 ((((x1).length : Nat) : Int)))), (13, .v (.int .i64 ((IntKind.i64.wrap (x7 + (1 : Int))))))] ⟨rfl, rfl, rfl, rfl, trivial⟩ ⟨n8, Nat.lt_succ_self _, (IntKind.i64.wrap (x7 + (1 : Int))), rfl, rfl, h10, h11, hF⟩
      · skip
        refine Exec.ifF rfl hb ?_
        refine Exec.run tyOk 400 rfl ?_
        exact Exec.round [] trivial ⟨rfl, rfl, hF⟩

def F_slices_Equal_api_Pair_api_Pair_L1 (x1 : List TPair) (x3 : List TPair) (J5 : Option Bool) : Nat → Int → Option Bool
  | 0, _ => none
  | n8 + 1, x7 => (cond (decide (x7 < (((x1).length : Nat) : Int))) (req (0 ≤ x7 ∧ x7 < ((x1).length : Int)) (req (0 ≤ x7 ∧ x7 < ((x3).length : Int)) (cond (!(((atI x1 x7).Key == (atI x3 x7).Key) && ((((atI x1 x7).Val.Kind == (atI x3 x7).Val.Kind) && (((atI x1 x7).Val.N == (atI x3 x7).Val.N) && (((atI x1 x7).Val.S == (atI x3 x7).Val.S) && true))) && true))) (some false) (F_slices_Equal_api_Pair_api_Pair_L1 x1 x3 J5 n8 ((IntKind.i64.wrap (x7 + (1 : Int)))))))) J5)

def F_slices_Equal_api_Pair_api_Pair (x1 : List TPair) (x3 : List TPair) : Option Bool :=
  (cond ((((x1).length : Nat) : Int) != (((x3).length : Nat) : Int)) (some false) (jn ((some true)) (fun J5 => (F_slices_Equal_api_Pair_api_Pair_L1 x1 x3 J5 (((((x1).length : Nat) : Int)).toNat + 1) ((0 : Int))))))

set_option maxRecDepth 100000 in
theorem W_slices_Equal_api_Pair_api_Pair {V : View} (x1 : List TPair) (x3 : List TPair) {a2 : Option Addr} {k2 : Nat} {a4 : Option Addr} {k4 : Nat} (h2 : SlAt cTPair V a2 k2 x1) (h4 : SlAt cTPair V a4 k4 x3) {r : Bool} (hF : F_slices_Equal_api_Pair_api_Pair x1 x3 = some r) :
    Spec Tryz.prog 141 [.slice a2 ((x1).length) (k2), .slice a4 ((x3).length) (k4)] V (fun _ v => v = .bool (r)) := by
  unfold F_slices_Equal_api_Pair_api_Pair at hF
  refine Spec.enter (T := tyT) Tryz.func141 rfl (by kernel_rfl) rfl rfl rfl ?_
  refine Exec.run tyOk 400 rfl ?_
  rcases cond_some hF with ⟨hb, hF⟩ | ⟨hb, hF⟩
  · skip
    refine Exec.ifT rfl hb ?_
    refine Exec.run tyOk 400 rfl ?_
    obtain rfl := some_inj hF
    exact Exec.ret tyOk rfl rfl rfl
  · skip
    refine Exec.ifF rfl hb ?_
    refine Exec.run tyOk 8 rfl ?_
    obtain ⟨J5, hJ5, hF⟩ := jn_some hF
    refine Exec.seam (fun L' V' M' => L' = [] ∧ M' = [] ∧ J5 = some r) rfl ?_ ?_
    · rintro L' V6 M' ⟨rfl, rfl, hF⟩
      subst hJ5
      refine Exec.run tyOk 400 rfl ?_
      obtain rfl := some_inj hF
      exact Exec.ret tyOk rfl rfl rfl
    · skip
      refine Exec.run tyOk 400 rfl ?_
      refine Exec.loop (fun n8 L' V' M' => ∃ (x7 : Int), L' = [(0, .v (.slice a2 ((x1).length) (k2))), (1, .v (.slice a4 ((x3).length) (k4))), (12, .v (.int .i64 ((((x1).length : Nat) : Int)))), (13, .v (.int .i64 (x7)))] ∧ M' = [] ∧ SlAt cTPair V' a2 k2 x1 ∧ SlAt cTPair V' a4 k4 x3 ∧ F_slices_Equal_api_Pair_api_Pair_L1 x1 x3 J5 n8 x7 = some r) ⟨(((((x1).length : Nat) : Int)).toNat + 1), [(0, .v (.slice a2 ((x1).length) (k2))), (1, .v (.slice a4 ((x3).length) (k4))), (12, .v (.int .i64 ((((x1).length : Nat) : Int)))), (13, .v (.int .i64 ((0 : Int))))], ⟨rfl, rfl, rfl, rfl, trivial⟩, (0 : Int), rfl, rfl, h2, h4, hF⟩ ?_
      rintro n8 L' V9 M' ⟨x7, rfl, rfl, h10, h11, hF⟩
      rcases n8 with _ | n8
      · exact absurd hF (by simp [F_slices_Equal_api_Pair_api_Pair_L1])
      rw [F_slices_Equal_api_Pair_api_Pair_L1] at hF
      refine Exec.run tyOk 400 rfl ?_
      rcases cond_some hF with ⟨hb, hF⟩ | ⟨hb, hF⟩
      · skip
        refine Exec.ifT rfl hb ?_
        refine Exec.run tyOk 400 rfl ?_
        refine Exec.draws tyOk [(0, true), (1, true), (2, true), (3, true), (4, true), (5, true), (6, true), (7, true), (8, true)] rfl (by kernel_rfl) ?_
        refine Exec.run tyOk 400 rfl ?_
        obtain ⟨q12, hF⟩ := req_some hF
        obtain ⟨c13, hr13, hd13⟩ := SlAt.get h10 q12
        obtain rfl := hr13
        refine Exec.fia tyOk rfl rfl rfl ⟨q12.1, q12.2, hd13.some⟩ ?_
        refine Exec.run tyOk 400 rfl ?_
        refine Exec.fld tyOk (x := .agg ⟨[.string ⟨⟨(atI x1 x7).Key⟩⟩, .int .i64 ((atI x1 x7).Val.Kind), .int .i64 ((atI x1 x7).Val.N), .string ⟨⟨(atI x1 x7).Val.S⟩⟩]⟩) rfl rfl rfl hd13 rfl rfl ?_
        refine Exec.run tyOk 400 rfl ?_
        obtain ⟨q14, hF⟩ := req_some hF
        obtain ⟨c15, hr15, hd15⟩ := SlAt.get h11 q14
        obtain rfl := hr15
        refine Exec.fia tyOk rfl rfl rfl ⟨q14.1, q14.2, hd15.some⟩ ?_
        refine Exec.run tyOk 400 rfl ?_
        refine Exec.fld tyOk (x := .agg ⟨[.string ⟨⟨(atI x3 x7).Key⟩⟩, .int .i64 ((atI x3 x7).Val.Kind), .int .i64 ((atI x3 x7).Val.N), .string ⟨⟨(atI x3 x7).Val.S⟩⟩]⟩) rfl rfl rfl hd15 rfl rfl ?_
        refine Exec.run tyOk 400 rfl ?_
        rcases cond_some hF with ⟨hb, hF⟩ | ⟨hb, hF⟩
        · skip
          refine Exec.ifT rfl hb ?_
          refine Exec.run tyOk 400 rfl ?_
          obtain rfl := some_inj hF
          exact Exec.ret tyOk rfl rfl rfl
        · skip
          refine Exec.ifF rfl hb ?_
          refine Exec.run tyOk 400 rfl ?_
          exact Exec.round [(0, .v (.slice a2 ((x1).length) (k2))), (1, .v (.slice a4 ((x3).length) (k4))), (12, .v (.int .i64 ((((x1).length : Nat) : Int)))), (13, .v (.int .i64 ((IntKind.i64.wrap (x7 + (1 : Int))))))] ⟨rfl, rfl, rfl, rfl, trivial⟩ ⟨n8, Nat.lt_succ_self _, (IntKind.i64.wrap (x7 + (1 : Int))), rfl, rfl, h10, h11, hF⟩
      · skip
        refine Exec.ifF rfl hb ?_
        refine Exec.run tyOk 400 rfl ?_
        exact Exec.round [] trivial ⟨rfl, rfl, hF⟩

def F_slices_IndexFunc_api_Pair_api_Pair_L1 (x1 : List TPair) (g4 : TPair → Option Bool) (J5 : Option Int) : Nat → Int → Option Int
  | 0, _ => none
  | n8 + 1, x7 => (cond (decide (x7 < (((x1).length : Nat) : Int))) (req (0 ≤ x7 ∧ x7 < ((x1).length : Int)) (bnd (g4 ((atI x1 x7))) fun x14 => (cond x14 (some x7) (F_slices_IndexFunc_api_Pair_api_Pair_L1 x1 g4 J5 n8 ((IntKind.i64.wrap (x7 + (1 : Int)))))))) J5)

def F_slices_IndexFunc_api_Pair_api_Pair (x1 : List TPair) (g4 : TPair → Option Bool) : Option Int :=
  (jn ((some (-1 : Int))) (fun J5 => (F_slices_IndexFunc_api_Pair_api_Pair_L1 x1 g4 J5 (((((x1).length : Nat) : Int)).toNat + 1) ((0 : Int)))))

set_option maxRecDepth 100000 in
theorem W_slices_IndexFunc_api_Pair_api_Pair {V : View} (x1 : List TPair) (g4 : TPair → Option Bool) {f4 : Nat} {ca4 : List Value} {a2 : Option Addr} {k2 : Nat} (h2 : SlAt cTPair V a2 k2 x1) (hg4 : FnSpec1 Tryz.prog f4 ca4 V (fun (y : TPair) => .agg ⟨[.string ⟨⟨y.Key⟩⟩, .int .i64 (y.Val.Kind), .int .i64 (y.Val.N), .string ⟨⟨y.Val.S⟩⟩]⟩) (fun (r : Bool) => .bool (r)) g4) {r : Int} (hF : F_slices_IndexFunc_api_Pair_api_Pair x1 g4 = some r) :
    Spec Tryz.prog 143 [.slice a2 ((x1).length) (k2), .func (.func f4) #[] ⟨ca4⟩] V (fun _ v => v = .int .i64 (r)) := by
  unfold F_slices_IndexFunc_api_Pair_api_Pair at hF
  refine Spec.enter (T := tyT) Tryz.func143 rfl (by kernel_rfl) rfl rfl rfl ?_
  refine Exec.run tyOk 11 rfl ?_
  obtain ⟨J5, hJ5, hF⟩ := jn_some hF
  refine Exec.seam (fun L' V' M' => L' = [] ∧ M' = [] ∧ J5 = some r) rfl ?_ ?_
  · rintro L' V6 M' ⟨rfl, rfl, hF⟩
    subst hJ5
    refine Exec.run tyOk 400 rfl ?_
    obtain rfl := some_inj hF
    exact Exec.ret tyOk rfl rfl rfl
  · skip
    refine Exec.run tyOk 400 rfl ?_
    refine Exec.loop (fun n8 L' V' M' => ∃ (x7 : Int), L' = [(0, .v (.slice a2 ((x1).length) (k2))), (1, .v (.func (.func f4) #[] ⟨ca4⟩)), (7, .v (.int .i64 ((((x1).length : Nat) : Int)))), (8, .v (.int .i64 (x7)))] ∧ M' = [] ∧ SlAt cTPair V' a2 k2 x1 ∧ FnSpec1 Tryz.prog f4 ca4 V' (fun (y : TPair) => .agg ⟨[.string ⟨⟨y.Key⟩⟩, .int .i64 (y.Val.Kind), .int .i64 (y.Val.N), .string ⟨⟨y.Val.S⟩⟩]⟩) (fun (r : Bool) => .bool (r)) g4 ∧ F_slices_IndexFunc_api_Pair_api_Pair_L1 x1 g4 J5 n8 x7 = some r) ⟨(((((x1).length : Nat) : Int)).toNat + 1), [(0, .v (.slice a2 ((x1).length) (k2))), (1, .v (.func (.func f4) #[] ⟨ca4⟩)), (7, .v (.int .i64 ((((x1).length : Nat) : Int)))), (8, .v (.int .i64 ((0 : Int))))], ⟨rfl, rfl, rfl, rfl, trivial⟩, (0 : Int), rfl, rfl, h2, hg4, hF⟩ ?_
    rintro n8 L' V9 M' ⟨x7, rfl, rfl, h10, h11, hF⟩
    rcases n8 with _ | n8
    · exact absurd hF (by simp [F_slices_IndexFunc_api_Pair_api_Pair_L1])
    rw [F_slices_IndexFunc_api_Pair_api_Pair_L1] at hF
    refine Exec.run tyOk 400 rfl ?_
    rcases cond_some hF with ⟨hb, hF⟩ | ⟨hb, hF⟩
    · skip
      refine Exec.ifT rfl hb ?_
      refine Exec.run tyOk 400 rfl ?_
      obtain ⟨q12, hF⟩ := req_some hF
      obtain ⟨c13, hr13, hd13⟩ := SlAt.get h10 q12
      obtain rfl := hr13
      refine Exec.ia tyOk rfl rfl ⟨q12.1, q12.2, hd13.some⟩ ?_
      refine Exec.run tyOk 400 rfl ?_
      refine Exec.ld tyOk (x := .agg ⟨[.string ⟨⟨(atI x1 x7).Key⟩⟩, .int .i64 ((atI x1 x7).Val.Kind), .int .i64 ((atI x1 x7).Val.N), .string ⟨⟨(atI x1 x7).Val.S⟩⟩]⟩) rfl rfl hd13 rfl rfl ?_
      refine Exec.run tyOk 400 rfl ?_
      obtain ⟨x14, hx14, hF⟩ := bnd_some hF
      refine Exec.callS (.bool (x14)) rfl rfl (h11.at hx14) ?_
      refine Exec.run tyOk 400 rfl ?_
      rcases cond_some hF with ⟨hb, hF⟩ | ⟨hb, hF⟩
      · skip
        refine Exec.ifT rfl hb ?_
        refine Exec.run tyOk 400 rfl ?_
        obtain rfl := some_inj hF
        exact Exec.ret tyOk rfl rfl rfl
      · skip
        refine Exec.ifF rfl hb ?_
        refine Exec.run tyOk 400 rfl ?_
        exact Exec.round [(0, .v (.slice a2 ((x1).length) (k2))), (1, .v (.func (.func f4) #[] ⟨ca4⟩)), (7, .v (.int .i64 ((((x1).length : Nat) : Int)))), (8, .v (.int .i64 ((IntKind.i64.wrap (x7 + (1 : Int))))))] ⟨rfl, rfl, rfl, rfl, trivial⟩ ⟨n8, Nat.lt_succ_self _, (IntKind.i64.wrap (x7 + (1 : Int))), rfl, rfl, h10, h11, hF⟩
    · skip
      refine Exec.ifF rfl hb ?_
      refine Exec.run tyOk 400 rfl ?_
      exact Exec.round [] trivial ⟨rfl, rfl, hF⟩

def F_strings_Compare (x1 x2 : Str) : Option Int := some (Go.Lib.compareBytes x1 x2)

theorem W_strings_Compare {V : View} (x1 x2 : Str) {r : Int} (hF : F_strings_Compare x1 x2 = some r) :
    Spec Tryz.prog 144 [.string ⟨⟨x1⟩⟩, .string ⟨⟨x2⟩⟩] V (fun _ v => v = .int .i64 r) := by
  obtain rfl := some_inj hF
  exact Spec.pure ⟨_, Tryz.func144, by kernel_rfl, by kernel_rfl⟩ (fun w => Tryz.strings_Compare ⟨⟨x1⟩⟩ ⟨⟨x2⟩⟩ w)


def F_wire_outside (x1 : Str) (x2 : Int) : Option Bool :=
  (some ((decide (x2 < (0 : Int))) || (decide (((x1).length : Int) < x2))))

set_option maxRecDepth 100000 in
theorem W_wire_outside {V : View} (x1 : Str) (x2 : Int)   {r : Bool} (hF : F_wire_outside x1 x2 = some r) :
    Spec Tryz.prog 146 [.string ⟨⟨x1⟩⟩, .int .i64 (x2)] V (fun _ v => v = .bool (r)) := by
  unfold F_wire_outside at hF
  refine Spec.enter (T := tyT) Tryz.func146 rfl (by kernel_rfl) rfl rfl rfl ?_
  refine Exec.run tyOk 400 rfl ?_
  obtain rfl := some_inj hF
  exact Exec.ret tyOk rfl rfl rfl

def F_value_Int (x1 : Int) : Option TValue :=
  (some (⟨(1 : Int), x1, []⟩ : TValue))

set_option maxRecDepth 100000 in
theorem W_value_Int {V : View} (x1 : Int)   {r : TValue} (hF : F_value_Int x1 = some r) :
    Spec Tryz.prog 147 [.int .i64 (x1)] V (fun _ v => v = .agg ⟨[.int .i64 (r.Kind), .int .i64 (r.N), .string ⟨⟨r.S⟩⟩]⟩) := by
  unfold F_value_Int at hF
  refine Spec.enter (T := tyT) Tryz.func147 rfl (by kernel_rfl) rfl rfl rfl ?_
  refine Exec.run tyOk 400 rfl ?_
  obtain rfl := some_inj hF
  exact Exec.ret tyOk rfl rfl rfl

def F_value_plain_L1 (x1 : Str) (J2 : Option Bool) : Nat → Int → Option Bool
  | 0, _ => none
  | n5 + 1, x4 => (cond (decide (x4 < ((x1).length : Int))) (req (0 ≤ x4 ∧ x4 < ((x1).length : Int)) (req ((((decide ((byteAt x1 (x4).toNat) < (32 : Int)))) == false) = true → 0 ≤ x4 ∧ x4 < ((x1).length : Int)) (cond ((decide ((byteAt x1 (x4).toNat) < (32 : Int))) || (decide ((126 : Int) < (byteAt x1 (x4).toNat)))) (some false) (F_value_plain_L1 x1 J2 n5 ((IntKind.i64.wrap (x4 + (1 : Int)))))))) J2)

def F_value_plain (x1 : Str) : Option Bool :=
  (jn ((some (decide (((x1).length : Int) ≤ (64 : Int))))) (fun J2 => (F_value_plain_L1 x1 J2 ((((x1).length : Int)).toNat + 1) ((0 : Int)))))

set_option maxRecDepth 100000 in
theorem W_value_plain {V : View} (x1 : Str)   {r : Bool} (hF : F_value_plain x1 = some r) :
    Spec Tryz.prog 148 [.string ⟨⟨x1⟩⟩] V (fun _ v => v = .bool (r)) := by
  unfold F_value_plain at hF
  refine Spec.enter (T := tyT) Tryz.func148 rfl (by kernel_rfl) rfl rfl rfl ?_
  refine Exec.run tyOk 9 rfl ?_
  obtain ⟨J2, hJ2, hF⟩ := jn_some hF
  refine Exec.seam (fun L' V' M' => L' = [(0, .v (.string ⟨⟨x1⟩⟩))] ∧ M' = [] ∧ J2 = some r) rfl ?_ ?_
  · rintro L' V3 M' ⟨rfl, rfl, hF⟩
    subst hJ2
    refine Exec.run tyOk 400 rfl ?_
    obtain rfl := some_inj hF
    exact Exec.ret tyOk rfl rfl rfl
  · skip
    refine Exec.run tyOk 400 rfl ?_
    refine Exec.loop (fun n5 L' V' M' => ∃ (x4 : Int), L' = [(0, .v (.string ⟨⟨x1⟩⟩)), (3, .v (.int .i64 (x4)))] ∧ M' = [] ∧ F_value_plain_L1 x1 J2 n5 x4 = some r) ⟨((((x1).length : Int)).toNat + 1), [(0, .v (.string ⟨⟨x1⟩⟩)), (3, .v (.int .i64 ((0 : Int))))], ⟨rfl, rfl, trivial⟩, (0 : Int), rfl, rfl, hF⟩ ?_
    rintro n5 L' V6 M' ⟨x4, rfl, rfl, hF⟩
    rcases n5 with _ | n5
    · exact absurd hF (by simp [F_value_plain_L1])
    rw [F_value_plain_L1] at hF
    refine Exec.run tyOk 400 rfl ?_
    rcases cond_some hF with ⟨hb, hF⟩ | ⟨hb, hF⟩
    · skip
      refine Exec.ifT rfl hb ?_
      refine Exec.run tyOk 400 rfl ?_
      obtain ⟨q7, hF⟩ := req_some hF
      refine Exec.idx tyOk rfl rfl q7 ?_
      refine Exec.run tyOk 400 rfl ?_
      obtain ⟨q8, hF⟩ := req_some hF
      refine Exec.idx tyOk rfl rfl (fun gg0 => q8 (gd1_of gg0)) ?_
      refine Exec.run tyOk 400 rfl ?_
      rcases cond_some hF with ⟨hb, hF⟩ | ⟨hb, hF⟩
      · skip
        refine Exec.ifT rfl hb ?_
        refine Exec.run tyOk 400 rfl ?_
        obtain rfl := some_inj hF
        exact Exec.ret tyOk rfl rfl rfl
      · skip
        refine Exec.ifF rfl hb ?_
        refine Exec.run tyOk 400 rfl ?_
        exact Exec.round [(0, .v (.string ⟨⟨x1⟩⟩)), (3, .v (.int .i64 ((IntKind.i64.wrap (x4 + (1 : Int))))))] ⟨rfl, rfl, trivial⟩ ⟨n5, Nat.lt_succ_self _, (IntKind.i64.wrap (x4 + (1 : Int))), rfl, rfl, hF⟩
    · skip
      refine Exec.ifF rfl hb ?_
      refine Exec.run tyOk 400 rfl ?_
      exact Exec.round [(0, .v (.string ⟨⟨x1⟩⟩))] ⟨rfl, trivial⟩ ⟨rfl, rfl, hF⟩

def F_clockworkref05_Int (x1 : Int) : Option TValue :=
  (some (⟨(1 : Int), x1, []⟩ : TValue))

set_option maxRecDepth 100000 in
theorem W_clockworkref05_Int {V : View} (x1 : Int)   {r : TValue} (hF : F_clockworkref05_Int x1 = some r) :
    Spec Tryz.prog 149 [.int .i64 (x1)] V (fun _ v => v = .agg ⟨[.int .i64 (r.Kind), .int .i64 (r.N), .string ⟨⟨r.S⟩⟩]⟩) := by
  unfold F_clockworkref05_Int at hF
  refine Spec.enter (T := tyT) Tryz.func149 rfl (by kernel_rfl) rfl rfl rfl ?_
  refine Exec.run tyOk 400 rfl ?_
  obtain rfl := some_inj hF
  exact Exec.ret tyOk rfl rfl rfl

def F_clockworkref31_Same (x1 : TMail) (x4 : TMail) : Option Bool :=
  (bnd (gcall (((((x1.Txn == x4.Txn) && (x1.From == x4.From)) && (x1.To == x4.To))) == true) (F_clockworkref04_Same x1.Keys x4.Keys)) fun x7 => (bnd (gcall ((((((x1.Txn == x4.Txn) && (x1.From == x4.From)) && (x1.To == x4.To)) && x7)) == true) (F_clockworkref06_Same x1.Pairs x4.Pairs)) fun x8 => (some (((((x1.Txn == x4.Txn) && (x1.From == x4.From)) && (x1.To == x4.To)) && x7) && x8))))

set_option maxRecDepth 100000 in
theorem W_clockworkref31_Same {V : View} (x1 : TMail) (x4 : TMail) {a2 : Option Addr} {k2 : Nat} {a3 : Option Addr} {k3 : Nat} {a5 : Option Addr} {k5 : Nat} {a6 : Option Addr} {k6 : Nat} (h2 : SlAt cStr V a2 k2 x1.Keys) (h3 : SlAt cTPair V a3 k3 x1.Pairs) (h5 : SlAt cStr V a5 k5 x4.Keys) (h6 : SlAt cTPair V a6 k6 x4.Pairs) {r : Bool} (hF : F_clockworkref31_Same x1 x4 = some r) :
    Spec Tryz.prog 35 [.agg ⟨[.int .i64 (x1.Txn), .int .i64 (x1.From), .int .i64 (x1.To), .slice a2 ((x1.Keys).length) (k2), .slice a3 ((x1.Pairs).length) (k3)]⟩, .agg ⟨[.int .i64 (x4.Txn), .int .i64 (x4.From), .int .i64 (x4.To), .slice a5 ((x4.Keys).length) (k5), .slice a6 ((x4.Pairs).length) (k6)]⟩] V (fun _ v => v = .bool (r)) := by
  unfold F_clockworkref31_Same at hF
  refine Spec.enter (T := tyT) Tryz.func35 rfl (by kernel_rfl) rfl rfl rfl ?_
  refine Exec.run tyOk 400 rfl ?_
  obtain ⟨x7, hx7, hF⟩ := bnd_some hF
  refine Exec.callS (.bool (x7)) rfl rfl (fun gg0 => W_clockworkref04_Same x1.Keys x4.Keys h2 h5 (gcall_some hx7 (gd1_of gg0))) ?_
  refine Exec.run tyOk 400 rfl ?_
  obtain ⟨x8, hx8, hF⟩ := bnd_some hF
  refine Exec.callS (.bool (x8)) rfl rfl (fun gg0 => W_clockworkref06_Same x1.Pairs x4.Pairs h3 h6 (gcall_some hx8 (gd1_of gg0))) ?_
  refine Exec.run tyOk 400 rfl ?_
  obtain rfl := some_inj hF
  exact Exec.ret tyOk rfl rfl rfl

def F_placement_find (x1 : List TPart) (x3 : Int) : Option Int :=
  (bnd (F_slices_IndexFunc_api_Part_api_Part x1 (fun y0 => F_placement_find_1 y0 x3)) fun x6 => (some x6))

set_option maxRecDepth 100000 in
theorem W_placement_find {V : View} (x1 : List TPart) (x3 : Int) {a2 : Option Addr} {k2 : Nat} (h2 : SlAt cTPart V a2 k2 x1) {r : Int} (hF : F_placement_find x1 x3 = some r) :
    Spec Tryz.prog 42 [.slice a2 ((x1).length) (k2), .int .i64 (x3)] V (fun _ v => v = .int .i64 (r)) := by
  unfold F_placement_find at hF
  refine Spec.enter (T := tyT) Tryz.func42 rfl (by kernel_rfl) rfl rfl rfl ?_
  refine Exec.run tyOk 400 rfl ?_
  refine Exec.openB 0 rfl rfl rfl rfl (fun _ => rfl) (fun _ => rfl) (fun V4 b4 hv4 hd4 => ?_)
  have h5 := SlAt.mono h2 hv4
  refine Exec.mkf rfl rfl ?_
  refine Exec.run tyOk 400 rfl ?_
  obtain ⟨x6, hx6, hF⟩ := bnd_some hF
  refine Exec.callS (.int .i64 (x6)) rfl rfl (W_slices_IndexFunc_api_Part_api_Part x1 (fun y0 => F_placement_find_1 y0 x3) h5 (fun V' hv y0 r hr => W_placement_find_1 y0 x3 (RdAt.mono hd4 hv) hr) hx6) ?_
  refine Exec.run tyOk 400 rfl ?_
  obtain rfl := some_inj hF
  exact Exec.ret tyOk rfl rfl rfl

def F_slices_Contains_int_int (x1 : List Int) (x3 : Int) : Option Bool :=
  (bnd (F_slices_Index_int_int x1 x3) fun x4 => (some (decide ((0 : Int) ≤ x4))))

set_option maxRecDepth 100000 in
theorem W_slices_Contains_int_int {V : View} (x1 : List Int) (x3 : Int) {a2 : Option Addr} {k2 : Nat} (h2 : SlAt (cInt .i64) V a2 k2 x1) {r : Bool} (hF : F_slices_Contains_int_int x1 x3 = some r) :
    Spec Tryz.prog 49 [.slice a2 ((x1).length) (k2), .int .i64 (x3)] V (fun _ v => v = .bool (r)) := by
  unfold F_slices_Contains_int_int at hF
  refine Spec.enter (T := tyT) Tryz.func49 rfl (by kernel_rfl) rfl rfl rfl ?_
  refine Exec.run tyOk 400 rfl ?_
  obtain ⟨x4, hx4, hF⟩ := bnd_some hF
  refine Exec.callS (.int .i64 (x4)) rfl rfl (W_slices_Index_int_int x1 x3 h2 hx4) ?_
  refine Exec.run tyOk 400 rfl ?_
  obtain rfl := some_inj hF
  exact Exec.ret tyOk rfl rfl rfl

def F_slices_ContainsFunc_api_Mail_api_Mail (x1 : List TMail) (g4 : TMail → Option Bool) : Option Bool :=
  (bnd (F_slices_IndexFunc_api_Mail_api_Mail x1 g4) fun x9 => (some (decide ((0 : Int) ≤ x9))))

set_option maxRecDepth 100000 in
theorem W_slices_ContainsFunc_api_Mail_api_Mail {V : View} (x1 : List TMail) (g4 : TMail → Option Bool) {f4 : Nat} {ca4 : List Value} {a2 : Option Addr} {k2 : Nat} (h2 : SlAt cTMail V a2 k2 x1) (hg4 : FnSpecS1 Tryz.prog f4 ca4 V cTMail (fun (r : Bool) => .bool (r)) g4) {r : Bool} (hF : F_slices_ContainsFunc_api_Mail_api_Mail x1 g4 = some r) :
    Spec Tryz.prog 56 [.slice a2 ((x1).length) (k2), .func (.func f4) #[] ⟨ca4⟩] V (fun _ v => v = .bool (r)) := by
  unfold F_slices_ContainsFunc_api_Mail_api_Mail at hF
  refine Spec.enter (T := tyT) Tryz.func56 rfl (by kernel_rfl) rfl rfl rfl ?_
  refine Exec.run tyOk 400 rfl ?_
  obtain ⟨x9, hx9, hF⟩ := bnd_some hF
  refine Exec.callS (.int .i64 (x9)) rfl rfl (W_slices_IndexFunc_api_Mail_api_Mail x1 g4 h2 hg4 hx9) ?_
  refine Exec.run tyOk 400 rfl ?_
  obtain rfl := some_inj hF
  exact Exec.ret tyOk rfl rfl rfl

end Go.Proofs.YtcgmfmpfmfjmoaaGreat
