/-
  Functions of the program as their counterparts say them (printed by a program).
  Conditions: none.
-/
import Derived.Test.YtcgmfmpfmfjmoaaGreatHc
set_option linter.all false
namespace Go.Proofs.YtcgmfmpfmfjmoaaGreat

def F_clockworkref19_Valid (x1 : TFootprint) : Option Bool :=
  (cond x1.All (some (((((x1.Reads).length : Nat) : Int) == (0 : Int)) && ((((x1.Writes).length : Nat) : Int) == (0 : Int)))) (bnd (gcall ((((decide ((((x1.Reads).length : Nat) : Int) ≤ (64 : Int))) && (decide ((((x1.Writes).length : Nat) : Int) ≤ (64 : Int))))) == true) (F_clockworkref04_Ascending x1.Reads)) fun x4 => (bnd (gcall (((((decide ((((x1.Reads).length : Nat) : Int) ≤ (64 : Int))) && (decide ((((x1.Writes).length : Nat) : Int) ≤ (64 : Int)))) && x4)) == true) (F_clockworkref04_Ascending x1.Writes)) fun x5 => (some ((((decide ((((x1.Reads).length : Nat) : Int) ≤ (64 : Int))) && (decide ((((x1.Writes).length : Nat) : Int) ≤ (64 : Int)))) && x4) && x5)))))

set_option maxRecDepth 100000 in
theorem W_clockworkref19_Valid {V : View} (x1 : TFootprint) {a2 : Option Addr} {k2 : Nat} {a3 : Option Addr} {k3 : Nat} (h2 : SlAt cStr V a2 k2 x1.Reads) (h3 : SlAt cStr V a3 k3 x1.Writes) {r : Bool} (hF : F_clockworkref19_Valid x1 = some r) :
    Spec Tryz.prog 71 [.agg ⟨[.bool (x1.All), .slice a2 ((x1.Reads).length) (k2), .slice a3 ((x1.Writes).length) (k3)]⟩] V (fun _ v => v = .bool (r)) := by
  unfold F_clockworkref19_Valid at hF
  refine Spec.enter (T := tyT) Tryz.func71 rfl (by kernel_rfl) rfl rfl rfl ?_
  refine Exec.run tyOk 400 rfl ?_
  rcases cond_some hF with ⟨hb, hF⟩ | ⟨hb, hF⟩
  · skip
    refine Exec.ifT rfl hb ?_
    refine Exec.run tyOk 400 rfl ?_
    obtain rfl := some_inj hF
    exact Exec.ret tyOk rfl rfl rfl
  · skip
    refine Exec.ifF rfl hb ?_
    refine Exec.run tyOk 400 rfl ?_
    obtain ⟨x4, hx4, hF⟩ := bnd_some hF
    refine Exec.callS (.bool (x4)) rfl rfl (fun gg0 => W_clockworkref04_Ascending x1.Reads h2 (gcall_some hx4 (gd1_of gg0))) ?_
    refine Exec.run tyOk 400 rfl ?_
    obtain ⟨x5, hx5, hF⟩ := bnd_some hF
    refine Exec.callS (.bool (x5)) rfl rfl (fun gg0 => W_clockworkref04_Ascending x1.Writes h3 (gcall_some hx5 (gd1_of gg0))) ?_
    refine Exec.run tyOk 400 rfl ?_
    obtain rfl := some_inj hF
    exact Exec.ret tyOk rfl rfl rfl

def F_placement_Index_L2 (x3 : Str) (x1 : TPlacement) (x9 : Int) (J6 : Int → Option Int) (J14 : Int → Option Int) : Nat → Int → Int → Option Int
  | 0, _, _ => none
  | n21 + 1, x19, x20 => (req (((((decide (x20 < ((x3).length : Int)))) == true) && (((x20 == (((atI x1.Parts x9).From).length : Int))) == false)) = true → 0 ≤ x20 ∧ x20 < (((atI x1.Parts x9).From).length : Int)) (req (((((decide (x20 < ((x3).length : Int)))) == true) && (((x20 == (((atI x1.Parts x9).From).length : Int))) == false)) = true → 0 ≤ x20 ∧ x20 < ((x3).length : Int)) (cond ((x20 == (((atI x1.Parts x9).From).length : Int)) || ((decide (x20 < ((x3).length : Int))) && (decide ((byteAt ((atI x1.Parts x9).From) (x20).toNat) < (byteAt x3 (x20).toNat))))) (J6 x9) (req ((((x20 == ((x3).length : Int))) == false) = true → 0 ≤ x20 ∧ x20 < (((atI x1.Parts x9).From).length : Int)) (req ((((x20 == ((x3).length : Int))) == false) = true → 0 ≤ x20 ∧ x20 < ((x3).length : Int)) (cond ((x20 == ((x3).length : Int)) || (decide ((byteAt x3 (x20).toNat) < (byteAt ((atI x1.Parts x9).From) (x20).toNat)))) (J14 x19) (F_placement_Index_L2 x3 x1 x9 J6 J14 n21 x19 ((IntKind.i64.wrap (x20 + (1 : Int)))))))))))

def F_placement_Index_L1 (x1 : TPlacement) (x3 : Str) (J6 : Int → Option Int) : Nat → Int → Int → Option Int
  | 0, _, _ => none
  | n10 + 1, x8, x9 => (cond (decide ((0 : Int) < x9)) (jn (fun (x13 : Int) => (F_placement_Index_L1 x1 x3 J6 n10 x13 ((IntKind.i64.wrap (x9 - (1 : Int)))))) (fun J14 => (req (0 ≤ x9 ∧ x9 < ((x1.Parts).length : Int)) (F_placement_Index_L2 x3 x1 x9 J6 J14 (1000000 : Nat) x8 ((0 : Int)))))) (J6 x8))

def F_placement_Index (x1 : TPlacement) (x3 : Str) : Option Int :=
  (bnd (F_placement_Valid x1) fun x4 => (cond (!x4) (some (-1 : Int)) (jn (fun (x5 : Int) => (some x5)) (fun J6 => (F_placement_Index_L1 x1 x3 J6 (((IntKind.i64.wrap ((((x1.Parts).length : Nat) : Int) - (1 : Int)))).toNat + 1) ((0 : Int)) ((IntKind.i64.wrap ((((x1.Parts).length : Nat) : Int) - (1 : Int)))))))))

set_option maxRecDepth 100000 in
theorem W_placement_Index {V : View} (x1 : TPlacement) (x3 : Str) {a2 : Option Addr} {k2 : Nat} (h2 : SlAt cTPart V a2 k2 x1.Parts) {r : Int} (hF : F_placement_Index x1 x3 = some r) :
    Spec Tryz.prog 100 [.agg ⟨[.int .i64 (x1.Version), .slice a2 ((x1.Parts).length) (k2)]⟩, .string ⟨⟨x3⟩⟩] V (fun _ v => v = .int .i64 (r)) := by
  unfold F_placement_Index at hF
  refine Spec.enter (T := tyT) Tryz.func100 rfl (by kernel_rfl) rfl rfl rfl ?_
  refine Exec.run tyOk 400 rfl ?_
  refine Exec.scope ?_
  refine Exec.run tyOk 400 rfl ?_
  obtain ⟨x4, hx4, hF⟩ := bnd_some hF
  refine Exec.callS (.bool (x4)) rfl rfl (W_placement_Valid x1 h2 hx4) ?_
  refine Exec.run tyOk 400 rfl ?_
  rcases cond_some hF with ⟨hb, hF⟩ | ⟨hb, hF⟩
  · skip
    refine Exec.ifT rfl hb ?_
    refine Exec.run tyOk 400 rfl ?_
    obtain rfl := some_inj hF
    exact Exec.ret tyOk rfl rfl rfl
  · skip
    refine Exec.ifF rfl hb ?_
    refine Exec.run tyOk 16 rfl ?_
    obtain ⟨J6, hJ6, hF⟩ := jn_some hF
    refine Exec.seam (fun L' V' M' => ∃ (x5 : Int), L' = [(5, .v (.int .i64 (x5)))] ∧ M' = [] ∧ J6 x5 = some r) rfl ?_ ?_
    · rintro L' V7 M' ⟨x5, rfl, rfl, hF⟩
      subst hJ6
      refine Exec.run tyOk 400 rfl ?_
      obtain rfl := some_inj hF
      exact Exec.ret tyOk rfl rfl rfl
    · skip
      refine Exec.run tyOk 400 rfl ?_
      refine Exec.loop (fun n10 L' V' M' => ∃ (x8 : Int) (x9 : Int), L' = [(1, .v (.string ⟨⟨x3⟩⟩)), (2, .ptr 0 0), (5, .v (.int .i64 (x8))), (6, .v (.int .i64 (x9)))] ∧ M' = [.blk [.v (.int .i64 (x1.Version)), .v (.slice a2 ((x1.Parts).length) (k2))] 24] ∧ SlAt cTPart V' a2 k2 x1.Parts ∧ F_placement_Index_L1 x1 x3 J6 n10 x8 x9 = some r) ⟨(((IntKind.i64.wrap ((((x1.Parts).length : Nat) : Int) - (1 : Int)))).toNat + 1), [(1, .v (.string ⟨⟨x3⟩⟩)), (2, .ptr 0 0), (5, .v (.int .i64 ((0 : Int)))), (6, .v (.int .i64 ((IntKind.i64.wrap ((((x1.Parts).length : Nat) : Int) - (1 : Int))))))], ⟨rfl, rfl, rfl, rfl, trivial⟩, (0 : Int), (IntKind.i64.wrap ((((x1.Parts).length : Nat) : Int) - (1 : Int))), rfl, rfl, h2, hF⟩ ?_
      rintro n10 L' V11 M' ⟨x8, x9, rfl, rfl, h12, hF⟩
      rcases n10 with _ | n10
      · exact absurd hF (by simp [F_placement_Index_L1])
      rw [F_placement_Index_L1] at hF
      refine Exec.run tyOk 400 rfl ?_
      rcases cond_some hF with ⟨hb, hF⟩ | ⟨hb, hF⟩
      · skip
        refine Exec.ifT rfl hb ?_
        refine Exec.run tyOk 2 rfl ?_
        obtain ⟨J14, hJ14, hF⟩ := jn_some hF
        refine Exec.seam (fun L' V' M' => ∃ (x13 : Int), L' = [(1, .v (.string ⟨⟨x3⟩⟩)), (2, .ptr 0 0), (5, .v (.int .i64 (x13))), (6, .v (.int .i64 (x9)))] ∧ M' = [.blk [.v (.int .i64 (x1.Version)), .v (.slice a2 ((x1.Parts).length) (k2))] 24] ∧ SlAt cTPart V' a2 k2 x1.Parts ∧ J14 x13 = some r) rfl ?_ ?_
        · rintro L' V15 M' ⟨x13, rfl, rfl, h16, hF⟩
          subst hJ14
          refine Exec.run tyOk 400 rfl ?_
          exact Exec.round [(1, .v (.string ⟨⟨x3⟩⟩)), (2, .ptr 0 0), (5, .v (.int .i64 (x13))), (6, .v (.int .i64 ((IntKind.i64.wrap (x9 - (1 : Int))))))] ⟨rfl, rfl, rfl, rfl, trivial⟩ ⟨n10, Nat.lt_succ_self _, x13, (IntKind.i64.wrap (x9 - (1 : Int))), rfl, rfl, h16, hF⟩
        · skip
          refine Exec.run tyOk 400 rfl ?_
          obtain ⟨q17, hF⟩ := req_some hF
          obtain ⟨c18, hr18, hd18⟩ := SlAt.get h12 q17
          obtain rfl := hr18
          refine Exec.ia tyOk rfl rfl ⟨q17.1, q17.2, hd18.some⟩ ?_
          refine Exec.run tyOk 400 rfl ?_
          refine Exec.ld tyOk (x := .string ⟨⟨(atI x1.Parts x9).From⟩⟩) rfl rfl (RdAt.part hd18 1 1 rfl) rfl rfl ?_
          refine Exec.run tyOk 400 rfl ?_
          refine Exec.loop (fun n21 L' V' M' => ∃ (x19 : Int) (x20 : Int), L' = [(1, .v (.string ⟨⟨x3⟩⟩)), (2, .ptr 0 0), (5, .v (.int .i64 (x19))), (6, .v (.int .i64 (x9))), (7, .v (.string ⟨⟨(atI x1.Parts x9).From⟩⟩)), (8, .v (.int .i64 (x20)))] ∧ M' = [.blk [.v (.int .i64 (x1.Version)), .v (.slice a2 ((x1.Parts).length) (k2))] 24] ∧ SlAt cTPart V' a2 k2 x1.Parts ∧ F_placement_Index_L2 x3 x1 x9 J6 J14 n21 x19 x20 = some r) ⟨(1000000 : Nat), [(1, .v (.string ⟨⟨x3⟩⟩)), (2, .ptr 0 0), (5, .v (.int .i64 (x8))), (6, .v (.int .i64 (x9))), (7, .v (.string ⟨⟨(atI x1.Parts x9).From⟩⟩)), (8, .v (.int .i64 ((0 : Int))))], ⟨rfl, rfl, rfl, rfl, rfl, rfl, trivial⟩, x8, (0 : Int), rfl, rfl, h12, hF⟩ ?_
          rintro n21 L' V22 M' ⟨x19, x20, rfl, rfl, h23, hF⟩
          rcases n21 with _ | n21
          · exact absurd hF (by simp [F_placement_Index_L2])
          rw [F_placement_Index_L2] at hF
          refine Exec.run tyOk 400 rfl ?_
          refine Exec.draws tyOk [(0, true), (1, true), (2, true), (3, true), (4, true), (5, true), (6, true), (7, true), (8, true), (9, true), (10, true), (11, true), (12, true), (13, true), (14, true), (15, true), (16, true), (17, true), (18, true), (19, true)] rfl (by kernel_rfl) ?_
          refine Exec.run tyOk 400 rfl ?_
          obtain ⟨q24, hF⟩ := req_some hF
          refine Exec.fidx tyOk rfl rfl rfl (fun gg0 gg1 => q24 (gd2_of gg0 gg1)) ?_
          refine Exec.run tyOk 400 rfl ?_
          obtain ⟨q25, hF⟩ := req_some hF
          refine Exec.fidx tyOk rfl rfl rfl (fun gg0 gg1 => q25 (gd2_of gg0 gg1)) ?_
          refine Exec.run tyOk 400 rfl ?_
          rcases cond_some hF with ⟨hb, hF⟩ | ⟨hb, hF⟩
          · skip
            refine Exec.ifT rfl hb ?_
            refine Exec.run tyOk 400 rfl ?_
            refine Exec.cut 0 [(5, .v (.int .i64 (x9)))] (M' := []) rfl ⟨rfl, trivial⟩ rfl rfl rfl ?_
            exact Exec.round [(5, .v (.int .i64 (x9)))] ⟨rfl, trivial⟩ ⟨x9, rfl, rfl, hF⟩
          · skip
            refine Exec.ifF rfl hb ?_
            refine Exec.run tyOk 400 rfl ?_
            refine Exec.draws tyOk [(0, true), (1, true), (2, true), (3, true), (4, true), (5, true), (6, true), (7, true), (8, true), (9, true), (10, true), (11, true), (12, true), (13, true)] rfl (by kernel_rfl) ?_
            refine Exec.run tyOk 400 rfl ?_
            obtain ⟨q26, hF⟩ := req_some hF
            refine Exec.fidx tyOk rfl rfl rfl (fun gg0 => q26 (gd1_of gg0)) ?_
            refine Exec.run tyOk 400 rfl ?_
            obtain ⟨q27, hF⟩ := req_some hF
            refine Exec.fidx tyOk rfl rfl rfl (fun gg0 => q27 (gd1_of gg0)) ?_
            refine Exec.run tyOk 400 rfl ?_
            rcases cond_some hF with ⟨hb, hF⟩ | ⟨hb, hF⟩
            · skip
              refine Exec.ifT rfl hb ?_
              refine Exec.run tyOk 400 rfl ?_
              exact Exec.round [(1, .v (.string ⟨⟨x3⟩⟩)), (2, .ptr 0 0), (5, .v (.int .i64 (x19))), (6, .v (.int .i64 (x9)))] ⟨rfl, rfl, rfl, rfl, trivial⟩ ⟨x19, rfl, rfl, h23, hF⟩
            · skip
              refine Exec.ifF rfl hb ?_
              refine Exec.run tyOk 400 rfl ?_
              exact Exec.round [(1, .v (.string ⟨⟨x3⟩⟩)), (2, .ptr 0 0), (5, .v (.int .i64 (x19))), (6, .v (.int .i64 (x9))), (7, .v (.string ⟨⟨(atI x1.Parts x9).From⟩⟩)), (8, .v (.int .i64 ((IntKind.i64.wrap (x20 + (1 : Int))))))] ⟨rfl, rfl, rfl, rfl, rfl, rfl, trivial⟩ ⟨n21, Nat.lt_succ_self _, x19, (IntKind.i64.wrap (x20 + (1 : Int))), rfl, rfl, h23, hF⟩
      · skip
        refine Exec.ifF rfl hb ?_
        refine Exec.run tyOk 400 rfl ?_
        refine Exec.cut 0 [(5, .v (.int .i64 (x8)))] (M' := []) rfl ⟨rfl, trivial⟩ rfl rfl rfl ?_
        exact Exec.round [(5, .v (.int .i64 (x8)))] ⟨rfl, trivial⟩ ⟨x8, rfl, rfl, hF⟩

def F_state_sorted_L1 (x1 : List TPair) (J3 : Option Bool) : Nat → Int → Option Bool
  | 0, _ => none
  | n6 + 1, x5 => (cond (decide (x5 < (((x1).length : Nat) : Int))) (req (0 ≤ x5 ∧ x5 < ((x1).length : Int)) (bnd (F_keys_Valid ((atI x1 x5).Key)) fun x11 => (bnd (gcall (((!x11)) == false) (F_value_Valid ((⟨(atI x1 x5).Val.Kind, (atI x1 x5).Val.N, (atI x1 x5).Val.S⟩ : TValue)))) fun x12 => (req (((((decide ((0 : Int) < x5))) == true) && ((((!x11) || (!x12))) == false)) = true → 0 ≤ (IntKind.i64.wrap (x5 - (1 : Int))) ∧ (IntKind.i64.wrap (x5 - (1 : Int))) < ((x1).length : Int)) (cond (((!x11) || (!x12)) || ((decide ((0 : Int) < x5)) && (!sLt (cond ((((decide ((0 : Int) < x5))) == true) && ((((!x11) || (!x12))) == false)) (atI x1 ((IntKind.i64.wrap (x5 - (1 : Int))))) default).Key (atI x1 x5).Key))) (some false) (F_state_sorted_L1 x1 J3 n6 ((IntKind.i64.wrap (x5 + (1 : Int)))))))))) J3)

def F_state_sorted (x1 : List TPair) : Option Bool :=
  (jn ((some true)) (fun J3 => (F_state_sorted_L1 x1 J3 (((((x1).length : Nat) : Int)).toNat + 1) ((0 : Int)))))

set_option maxRecDepth 100000 in
theorem W_state_sorted {V : View} (x1 : List TPair) {a2 : Option Addr} {k2 : Nat} (h2 : SlAt cTPair V a2 k2 x1) {r : Bool} (hF : F_state_sorted x1 = some r) :
    Spec Tryz.prog 108 [.slice a2 ((x1).length) (k2)] V (fun _ v => v = .bool (r)) := by
  unfold F_state_sorted at hF
  refine Spec.enter (T := tyT) Tryz.func108 rfl (by kernel_rfl) rfl rfl rfl ?_
  refine Exec.run tyOk 11 rfl ?_
  obtain ⟨J3, hJ3, hF⟩ := jn_some hF
  refine Exec.seam (fun L' V' M' => L' = [] ∧ M' = [] ∧ J3 = some r) rfl ?_ ?_
  · rintro L' V4 M' ⟨rfl, rfl, hF⟩
    subst hJ3
    refine Exec.run tyOk 400 rfl ?_
    obtain rfl := some_inj hF
    exact Exec.ret tyOk rfl rfl rfl
  · skip
    refine Exec.run tyOk 400 rfl ?_
    refine Exec.loop (fun n6 L' V' M' => ∃ (x5 : Int), L' = [(0, .v (.slice a2 ((x1).length) (k2))), (5, .v (.slice a2 ((x1).length) (k2))), (6, .v (.int .i64 ((((x1).length : Nat) : Int)))), (7, .v (.int .i64 (x5)))] ∧ M' = [] ∧ SlAt cTPair V' a2 k2 x1 ∧ F_state_sorted_L1 x1 J3 n6 x5 = some r) ⟨(((((x1).length : Nat) : Int)).toNat + 1), [(0, .v (.slice a2 ((x1).length) (k2))), (5, .v (.slice a2 ((x1).length) (k2))), (6, .v (.int .i64 ((((x1).length : Nat) : Int)))), (7, .v (.int .i64 ((0 : Int))))], ⟨rfl, rfl, rfl, rfl, trivial⟩, (0 : Int), rfl, rfl, h2, hF⟩ ?_
    rintro n6 L' V7 M' ⟨x5, rfl, rfl, h8, hF⟩
    rcases n6 with _ | n6
    · exact absurd hF (by simp [F_state_sorted_L1])
    rw [F_state_sorted_L1] at hF
    refine Exec.run tyOk 400 rfl ?_
    rcases cond_some hF with ⟨hb, hF⟩ | ⟨hb, hF⟩
    · skip
      refine Exec.ifT rfl hb ?_
      refine Exec.run tyOk 400 rfl ?_
      obtain ⟨q9, hF⟩ := req_some hF
      obtain ⟨c10, hr10, hd10⟩ := SlAt.get h8 q9
      obtain rfl := hr10
      refine Exec.ia tyOk rfl rfl ⟨q9.1, q9.2, hd10.some⟩ ?_
      refine Exec.run tyOk 400 rfl ?_
      refine Exec.ld tyOk (x := .agg ⟨[.string ⟨⟨(atI x1 x5).Key⟩⟩, .int .i64 ((atI x1 x5).Val.Kind), .int .i64 ((atI x1 x5).Val.N), .string ⟨⟨(atI x1 x5).Val.S⟩⟩]⟩) rfl rfl hd10 rfl rfl ?_
      refine Exec.run tyOk 400 rfl ?_
      refine Exec.draws tyOk [(0, true), (1, true), (2, false), (3, false), (4, false), (5, false), (6, false), (7, false), (8, false), (9, false), (10, false), (11, false), (12, false), (13, false), (14, true), (15, true), (16, true), (17, true), (18, true), (19, true), (20, false), (21, false), (22, false), (23, false), (24, false)] rfl (by kernel_rfl) ?_
      refine Exec.run tyOk 400 rfl ?_
      obtain ⟨x11, hx11, hF⟩ := bnd_some hF
      refine Exec.callS (.bool (x11)) rfl rfl (W_keys_Valid ((atI x1 x5).Key)  hx11) ?_
      refine Exec.run tyOk 400 rfl ?_
      obtain ⟨x12, hx12, hF⟩ := bnd_some hF
      refine Exec.callS (.bool (x12)) rfl rfl (fun gg0 => W_value_Valid ((⟨(atI x1 x5).Val.Kind, (atI x1 x5).Val.N, (atI x1 x5).Val.S⟩ : TValue))  (gcall_some hx12 (gd1_of gg0))) ?_
      refine Exec.run tyOk 400 rfl ?_
      obtain ⟨q13, hF⟩ := req_some hF
      obtain ⟨c14, hr14, hd14⟩ := SlAt.gget ((((decide ((0 : Int) < x5))) == true) && ((((!x11) || (!x12))) == false)) h8 q13
      obtain rfl := hr14
      refine Exec.fia tyOk rfl rfl rfl (fun gg0 gg1 => ⟨(q13 (gd2_of gg0 gg1)).1, (q13 (gd2_of gg0 gg1)).2, (hd14 (gd2_of gg0 gg1)).some⟩) ?_
      refine Exec.run tyOk 400 rfl ?_
      refine Exec.fld tyOk (x := .string ⟨⟨(cond ((((decide ((0 : Int) < x5))) == true) && ((((!x11) || (!x12))) == false)) (atI x1 ((IntKind.i64.wrap (x5 - (1 : Int))))) default).Key⟩⟩) rfl rfl rfl (fun gg0 gg1 => (RdAt.part (hd14 (gd2_of gg0 gg1)) 0 1 rfl)) rfl rfl ?_
      refine Exec.run tyOk 400 rfl ?_
      rcases cond_some hF with ⟨hb, hF⟩ | ⟨hb, hF⟩
      · skip
        refine Exec.ifT rfl hb ?_
        refine Exec.run tyOk 400 rfl ?_
        obtain rfl := some_inj hF
        exact Exec.ret tyOk rfl rfl rfl
      · skip
        refine Exec.ifF rfl hb ?_
        refine Exec.run tyOk 400 rfl ?_
        refine Exec.cut 0 [(0, .v (.slice a2 ((x1).length) (k2))), (5, .v (.slice a2 ((x1).length) (k2))), (6, .v (.int .i64 ((((x1).length : Nat) : Int)))), (7, .v (.int .i64 ((IntKind.i64.wrap (x5 + (1 : Int))))))] (M' := []) rfl ⟨rfl, rfl, rfl, rfl, trivial⟩ rfl rfl rfl ?_
        exact Exec.round [(0, .v (.slice a2 ((x1).length) (k2))), (5, .v (.slice a2 ((x1).length) (k2))), (6, .v (.int .i64 ((((x1).length : Nat) : Int)))), (7, .v (.int .i64 ((IntKind.i64.wrap (x5 + (1 : Int))))))] ⟨rfl, rfl, rfl, rfl, trivial⟩ ⟨n6, Nat.lt_succ_self _, (IntKind.i64.wrap (x5 + (1 : Int))), rfl, rfl, h8, hF⟩
    · skip
      refine Exec.ifF rfl hb ?_
      refine Exec.run tyOk 400 rfl ?_
      exact Exec.round [] trivial ⟨rfl, rfl, hF⟩

def F_clockworkref30_valid (x1 : TPlacement) (x3 : TFootprint) : Option Bool :=
  (bnd (F_clockworkref29_Valid x1) fun x6 => (bnd (gcall ((x6) == true) (F_clockworkref19_Valid x3)) fun x7 => (some (x6 && x7))))

set_option maxRecDepth 100000 in
theorem W_clockworkref30_valid {V : View} (x1 : TPlacement) (x3 : TFootprint) {a2 : Option Addr} {k2 : Nat} {a4 : Option Addr} {k4 : Nat} {a5 : Option Addr} {k5 : Nat} (h2 : SlAt cTPart V a2 k2 x1.Parts) (h4 : SlAt cStr V a4 k4 x3.Reads) (h5 : SlAt cStr V a5 k5 x3.Writes) {r : Bool} (hF : F_clockworkref30_valid x1 x3 = some r) :
    Spec Tryz.prog 116 [.agg ⟨[.int .i64 (x1.Version), .slice a2 ((x1.Parts).length) (k2)]⟩, .agg ⟨[.bool (x3.All), .slice a4 ((x3.Reads).length) (k4), .slice a5 ((x3.Writes).length) (k5)]⟩] V (fun _ v => v = .bool (r)) := by
  unfold F_clockworkref30_valid at hF
  refine Spec.enter (T := tyT) Tryz.func116 rfl (by kernel_rfl) rfl rfl rfl ?_
  refine Exec.run tyOk 400 rfl ?_
  obtain ⟨x6, hx6, hF⟩ := bnd_some hF
  refine Exec.callS (.bool (x6)) rfl rfl (W_clockworkref29_Valid x1 h2 hx6) ?_
  refine Exec.run tyOk 400 rfl ?_
  obtain ⟨x7, hx7, hF⟩ := bnd_some hF
  refine Exec.callS (.bool (x7)) rfl rfl (fun gg0 => W_clockworkref19_Valid x3 h4 h5 (gcall_some hx7 (gd1_of gg0))) ?_
  refine Exec.run tyOk 400 rfl ?_
  obtain rfl := some_inj hF
  exact Exec.ret tyOk rfl rfl rfl

def F_footprint_Valid (x1 : TFootprint) : Option Bool :=
  (cond x1.All (some (((((x1.Reads).length : Nat) : Int) == (0 : Int)) && ((((x1.Writes).length : Nat) : Int) == (0 : Int)))) (bnd (F_footprint_ascending x1.Reads) fun x4 => (bnd (gcall ((x4) == true) (F_footprint_ascending x1.Writes)) fun x5 => (some (x4 && x5)))))

set_option maxRecDepth 100000 in
theorem W_footprint_Valid {V : View} (x1 : TFootprint) {a2 : Option Addr} {k2 : Nat} {a3 : Option Addr} {k3 : Nat} (h2 : SlAt cStr V a2 k2 x1.Reads) (h3 : SlAt cStr V a3 k3 x1.Writes) {r : Bool} (hF : F_footprint_Valid x1 = some r) :
    Spec Tryz.prog 12 [.agg ⟨[.bool (x1.All), .slice a2 ((x1.Reads).length) (k2), .slice a3 ((x1.Writes).length) (k3)]⟩] V (fun _ v => v = .bool (r)) := by
  unfold F_footprint_Valid at hF
  refine Spec.enter (T := tyT) Tryz.func12 rfl (by kernel_rfl) rfl rfl rfl ?_
  refine Exec.run tyOk 400 rfl ?_
  rcases cond_some hF with ⟨hb, hF⟩ | ⟨hb, hF⟩
  · skip
    refine Exec.ifT rfl hb ?_
    refine Exec.run tyOk 400 rfl ?_
    obtain rfl := some_inj hF
    exact Exec.ret tyOk rfl rfl rfl
  · skip
    refine Exec.ifF rfl hb ?_
    refine Exec.run tyOk 400 rfl ?_
    obtain ⟨x4, hx4, hF⟩ := bnd_some hF
    refine Exec.callS (.bool (x4)) rfl rfl (W_footprint_ascending x1.Reads h2 hx4) ?_
    refine Exec.run tyOk 400 rfl ?_
    obtain ⟨x5, hx5, hF⟩ := bnd_some hF
    refine Exec.callS (.bool (x5)) rfl rfl (fun gg0 => W_footprint_ascending x1.Writes h3 (gcall_some hx5 (gd1_of gg0))) ?_
    refine Exec.run tyOk 400 rfl ?_
    obtain rfl := some_inj hF
    exact Exec.ret tyOk rfl rfl rfl

def F_clockworkref06_Valid_L1 (x1 : List TPair) (J3 : Option Bool) : Nat → Int → Option Bool
  | 0, _ => none
  | n8 + 1, x7 => (cond (decide (x7 < (((x1).length : Nat) : Int))) (req (0 ≤ x7 ∧ x7 < ((x1).length : Int)) (cond ((atI x1 x7).Val.Kind == (0 : Int)) (some false) (F_clockworkref06_Valid_L1 x1 J3 n8 ((IntKind.i64.wrap (x7 + (1 : Int))))))) J3)

def F_clockworkref06_Valid (x1 : List TPair) : Option Bool :=
  (jn ((bnd (F_clockworkref06_ValidWrites x1) fun x6 => (some x6))) (fun J3 => (F_clockworkref06_Valid_L1 x1 J3 (((((x1).length : Nat) : Int)).toNat + 1) ((0 : Int)))))

set_option maxRecDepth 100000 in
theorem W_clockworkref06_Valid {V : View} (x1 : List TPair) {a2 : Option Addr} {k2 : Nat} (h2 : SlAt cTPair V a2 k2 x1) {r : Bool} (hF : F_clockworkref06_Valid x1 = some r) :
    Spec Tryz.prog 13 [.slice a2 ((x1).length) (k2)] V (fun _ v => v = .bool (r)) := by
  unfold F_clockworkref06_Valid at hF
  refine Spec.enter (T := tyT) Tryz.func13 rfl (by kernel_rfl) rfl rfl rfl ?_
  refine Exec.run tyOk 9 rfl ?_
  obtain ⟨J3, hJ3, hF⟩ := jn_some hF
  refine Exec.seam (fun L' V' M' => L' = [(0, .v (.slice a2 ((x1).length) (k2)))] ∧ M' = [] ∧ SlAt cTPair V' a2 k2 x1 ∧ J3 = some r) rfl ?_ ?_
  · rintro L' V4 M' ⟨rfl, rfl, h5, hF⟩
    subst hJ3
    refine Exec.run tyOk 400 rfl ?_
    obtain ⟨x6, hx6, hF⟩ := bnd_some hF
    refine Exec.callS (.bool (x6)) rfl rfl (W_clockworkref06_ValidWrites x1 h5 hx6) ?_
    refine Exec.run tyOk 400 rfl ?_
    obtain rfl := some_inj hF
    exact Exec.ret tyOk rfl rfl rfl
  · skip
    refine Exec.run tyOk 400 rfl ?_
    refine Exec.loop (fun n8 L' V' M' => ∃ (x7 : Int), L' = [(0, .v (.slice a2 ((x1).length) (k2))), (3, .v (.int .i64 (x7)))] ∧ M' = [] ∧ SlAt cTPair V' a2 k2 x1 ∧ F_clockworkref06_Valid_L1 x1 J3 n8 x7 = some r) ⟨(((((x1).length : Nat) : Int)).toNat + 1), [(0, .v (.slice a2 ((x1).length) (k2))), (3, .v (.int .i64 ((0 : Int))))], ⟨rfl, rfl, trivial⟩, (0 : Int), rfl, rfl, h2, hF⟩ ?_
    rintro n8 L' V9 M' ⟨x7, rfl, rfl, h10, hF⟩
    rcases n8 with _ | n8
    · exact absurd hF (by simp [F_clockworkref06_Valid_L1])
    rw [F_clockworkref06_Valid_L1] at hF
    refine Exec.run tyOk 400 rfl ?_
    rcases cond_some hF with ⟨hb, hF⟩ | ⟨hb, hF⟩
    · skip
      refine Exec.ifT rfl hb ?_
      refine Exec.run tyOk 400 rfl ?_
      obtain ⟨q11, hF⟩ := req_some hF
      obtain ⟨c12, hr12, hd12⟩ := SlAt.get h10 q11
      obtain rfl := hr12
      refine Exec.ia tyOk rfl rfl ⟨q11.1, q11.2, hd12.some⟩ ?_
      refine Exec.run tyOk 400 rfl ?_
      refine Exec.ld tyOk (x := .int .i64 ((atI x1 x7).Val.Kind)) rfl rfl (RdAt.part hd12 1 1 rfl) rfl rfl ?_
      refine Exec.run tyOk 400 rfl ?_
      rcases cond_some hF with ⟨hb, hF⟩ | ⟨hb, hF⟩
      · skip
        refine Exec.ifT rfl hb ?_
        refine Exec.run tyOk 400 rfl ?_
        obtain rfl := some_inj hF
        exact Exec.ret tyOk rfl rfl rfl
      · skip
        refine Exec.ifF rfl hb ?_
        refine Exec.run tyOk 400 rfl ?_
        exact Exec.round [(0, .v (.slice a2 ((x1).length) (k2))), (3, .v (.int .i64 ((IntKind.i64.wrap (x7 + (1 : Int))))))] ⟨rfl, rfl, trivial⟩ ⟨n8, Nat.lt_succ_self _, (IntKind.i64.wrap (x7 + (1 : Int))), rfl, rfl, h10, hF⟩
    · skip
      refine Exec.ifF rfl hb ?_
      refine Exec.run tyOk 400 rfl ?_
      exact Exec.round [(0, .v (.slice a2 ((x1).length) (k2)))] ⟨rfl, trivial⟩ ⟨rfl, rfl, h10, hF⟩

def F_clockworkref29_Owner (x1 : TPlacement) (x3 : Str) : Option Int :=
  (bnd (F_clockworkref29_Index x1 x3) fun x4 => (cond (decide (x4 < (0 : Int))) (some (0 : Int)) (req (0 ≤ x4 ∧ x4 < ((x1.Parts).length : Int)) (req (((((atI x1.Parts x4).Dest != (0 : Int))) == true) = true → 0 ≤ x4 ∧ x4 < ((x1.Parts).length : Int)) (cond (((atI x1.Parts x4).Dest != (0 : Int)) && (sLt x3 (cond ((((atI x1.Parts x4).Dest != (0 : Int))) == true) (atI x1.Parts x4) default).Done)) (req (0 ≤ x4 ∧ x4 < ((x1.Parts).length : Int)) (some (atI x1.Parts x4).Dest)) (req (0 ≤ x4 ∧ x4 < ((x1.Parts).length : Int)) (some (atI x1.Parts x4).Node)))))))

set_option maxRecDepth 100000 in
theorem W_clockworkref29_Owner {V : View} (x1 : TPlacement) (x3 : Str) {a2 : Option Addr} {k2 : Nat} (h2 : SlAt cTPart V a2 k2 x1.Parts) {r : Int} (hF : F_clockworkref29_Owner x1 x3 = some r) :
    Spec Tryz.prog 23 [.agg ⟨[.int .i64 (x1.Version), .slice a2 ((x1.Parts).length) (k2)]⟩, .string ⟨⟨x3⟩⟩] V (fun _ v => v = .int .i64 (r)) := by
  unfold F_clockworkref29_Owner at hF
  refine Spec.enter (T := tyT) Tryz.func23 rfl (by kernel_rfl) rfl rfl rfl ?_
  refine Exec.run tyOk 400 rfl ?_
  obtain ⟨x4, hx4, hF⟩ := bnd_some hF
  refine Exec.callS (.int .i64 (x4)) rfl rfl (W_clockworkref29_Index x1 x3 h2 hx4) ?_
  refine Exec.run tyOk 400 rfl ?_
  rcases cond_some hF with ⟨hb, hF⟩ | ⟨hb, hF⟩
  · skip
    refine Exec.ifT rfl hb ?_
    refine Exec.run tyOk 400 rfl ?_
    obtain rfl := some_inj hF
    exact Exec.ret tyOk rfl rfl rfl
  · skip
    refine Exec.ifF rfl hb ?_
    refine Exec.run tyOk 400 rfl ?_
    obtain ⟨q5, hF⟩ := req_some hF
    obtain ⟨c6, hr6, hd6⟩ := SlAt.get h2 q5
    obtain rfl := hr6
    refine Exec.ia tyOk rfl rfl ⟨q5.1, q5.2, hd6.some⟩ ?_
    refine Exec.run tyOk 400 rfl ?_
    refine Exec.ld tyOk (x := .int .i64 ((atI x1.Parts x4).Dest)) rfl rfl (RdAt.part hd6 3 1 rfl) rfl rfl ?_
    refine Exec.run tyOk 400 rfl ?_
    obtain ⟨q7, hF⟩ := req_some hF
    obtain ⟨c8, hr8, hd8⟩ := SlAt.gget ((((atI x1.Parts x4).Dest != (0 : Int))) == true) h2 q7
    obtain rfl := hr8
    refine Exec.ia tyOk rfl rfl (fun gg0 => ⟨(q7 (gd1_of gg0)).1, (q7 (gd1_of gg0)).2, (hd8 (gd1_of gg0)).some⟩) ?_
    refine Exec.run tyOk 400 rfl ?_
    refine Exec.ld tyOk (x := .string ⟨⟨(cond ((((atI x1.Parts x4).Dest != (0 : Int))) == true) (atI x1.Parts x4) default).Done⟩⟩) rfl rfl (fun gg0 => (RdAt.part (hd8 (gd1_of gg0)) 4 1 rfl)) rfl rfl ?_
    refine Exec.run tyOk 400 rfl ?_
    rcases cond_some hF with ⟨hb, hF⟩ | ⟨hb, hF⟩
    · skip
      refine Exec.ifT rfl hb ?_
      refine Exec.run tyOk 400 rfl ?_
      obtain ⟨q9, hF⟩ := req_some hF
      obtain ⟨c10, hr10, hd10⟩ := SlAt.get h2 q9
      obtain rfl := hr10
      refine Exec.ia tyOk rfl rfl ⟨q9.1, q9.2, hd10.some⟩ ?_
      refine Exec.run tyOk 400 rfl ?_
      refine Exec.ld tyOk (x := .int .i64 ((atI x1.Parts x4).Dest)) rfl rfl (RdAt.part hd10 3 1 rfl) rfl rfl ?_
      refine Exec.run tyOk 400 rfl ?_
      obtain rfl := some_inj hF
      exact Exec.ret tyOk rfl rfl rfl
    · skip
      refine Exec.ifF rfl hb ?_
      refine Exec.run tyOk 400 rfl ?_
      obtain ⟨q11, hF⟩ := req_some hF
      obtain ⟨c12, hr12, hd12⟩ := SlAt.get h2 q11
      obtain rfl := hr12
      refine Exec.ia tyOk rfl rfl ⟨q11.1, q11.2, hd12.some⟩ ?_
      refine Exec.run tyOk 400 rfl ?_
      refine Exec.ld tyOk (x := .int .i64 ((atI x1.Parts x4).Node)) rfl rfl (RdAt.part hd12 2 1 rfl) rfl rfl ?_
      refine Exec.run tyOk 400 rfl ?_
      obtain rfl := some_inj hF
      exact Exec.ret tyOk rfl rfl rfl

def F_placement_Owner (x1 : TPlacement) (x3 : Str) : Option Int :=
  (bnd (F_placement_Index x1 x3) fun x4 => (cond (decide (x4 < (0 : Int))) (some (0 : Int)) (req (0 ≤ x4 ∧ x4 < ((x1.Parts).length : Int)) (cond (((atI x1.Parts x4).Dest != (0 : Int)) && (sLt x3 (atI x1.Parts x4).Done)) (some (atI x1.Parts x4).Dest) (some (atI x1.Parts x4).Node)))))

set_option maxRecDepth 100000 in
theorem W_placement_Owner {V : View} (x1 : TPlacement) (x3 : Str) {a2 : Option Addr} {k2 : Nat} (h2 : SlAt cTPart V a2 k2 x1.Parts) {r : Int} (hF : F_placement_Owner x1 x3 = some r) :
    Spec Tryz.prog 50 [.agg ⟨[.int .i64 (x1.Version), .slice a2 ((x1.Parts).length) (k2)]⟩, .string ⟨⟨x3⟩⟩] V (fun _ v => v = .int .i64 (r)) := by
  unfold F_placement_Owner at hF
  refine Spec.enter (T := tyT) Tryz.func50 rfl (by kernel_rfl) rfl rfl rfl ?_
  refine Exec.run tyOk 400 rfl ?_
  obtain ⟨x4, hx4, hF⟩ := bnd_some hF
  refine Exec.callS (.int .i64 (x4)) rfl rfl (W_placement_Index x1 x3 h2 hx4) ?_
  refine Exec.run tyOk 400 rfl ?_
  rcases cond_some hF with ⟨hb, hF⟩ | ⟨hb, hF⟩
  · skip
    refine Exec.ifT rfl hb ?_
    refine Exec.run tyOk 400 rfl ?_
    obtain rfl := some_inj hF
    exact Exec.ret tyOk rfl rfl rfl
  · skip
    refine Exec.ifF rfl hb ?_
    refine Exec.run tyOk 400 rfl ?_
    obtain ⟨q5, hF⟩ := req_some hF
    obtain ⟨c6, hr6, hd6⟩ := SlAt.get h2 q5
    obtain rfl := hr6
    refine Exec.ia tyOk rfl rfl ⟨q5.1, q5.2, hd6.some⟩ ?_
    refine Exec.run tyOk 400 rfl ?_
    refine Exec.ld tyOk (x := .agg ⟨[.int .i64 ((atI x1.Parts x4).Id), .string ⟨⟨(atI x1.Parts x4).From⟩⟩, .int .i64 ((atI x1.Parts x4).Node), .int .i64 ((atI x1.Parts x4).Dest), .string ⟨⟨(atI x1.Parts x4).Done⟩⟩]⟩) rfl rfl hd6 rfl rfl ?_
    refine Exec.run tyOk 400 rfl ?_
    rcases cond_some hF with ⟨hb, hF⟩ | ⟨hb, hF⟩
    · skip
      refine Exec.ifT rfl hb ?_
      refine Exec.run tyOk 400 rfl ?_
      obtain rfl := some_inj hF
      exact Exec.ret tyOk rfl rfl rfl
    · skip
      refine Exec.ifF rfl hb ?_
      refine Exec.run tyOk 400 rfl ?_
      obtain rfl := some_inj hF
      exact Exec.ret tyOk rfl rfl rfl

def F_route_valid (x1 : TPlacement) (x3 : TFootprint) : Option Bool :=
  (bnd (F_placement_Valid x1) fun x6 => (bnd (gcall ((x6) == true) (F_footprint_Valid x3)) fun x7 => (some (x6 && x7))))

set_option maxRecDepth 100000 in
theorem W_route_valid {V : View} (x1 : TPlacement) (x3 : TFootprint) {a2 : Option Addr} {k2 : Nat} {a4 : Option Addr} {k4 : Nat} {a5 : Option Addr} {k5 : Nat} (h2 : SlAt cTPart V a2 k2 x1.Parts) (h4 : SlAt cStr V a4 k4 x3.Reads) (h5 : SlAt cStr V a5 k5 x3.Writes) {r : Bool} (hF : F_route_valid x1 x3 = some r) :
    Spec Tryz.prog 51 [.agg ⟨[.int .i64 (x1.Version), .slice a2 ((x1.Parts).length) (k2)]⟩, .agg ⟨[.bool (x3.All), .slice a4 ((x3.Reads).length) (k4), .slice a5 ((x3.Writes).length) (k5)]⟩] V (fun _ v => v = .bool (r)) := by
  unfold F_route_valid at hF
  refine Spec.enter (T := tyT) Tryz.func51 rfl (by kernel_rfl) rfl rfl rfl ?_
  refine Exec.run tyOk 400 rfl ?_
  obtain ⟨x6, hx6, hF⟩ := bnd_some hF
  refine Exec.callS (.bool (x6)) rfl rfl (W_placement_Valid x1 h2 hx6) ?_
  refine Exec.run tyOk 400 rfl ?_
  obtain ⟨x7, hx7, hF⟩ := bnd_some hF
  refine Exec.callS (.bool (x7)) rfl rfl (fun gg0 => W_footprint_Valid x3 h4 h5 (gcall_some hx7 (gd1_of gg0))) ?_
  refine Exec.run tyOk 400 rfl ?_
  obtain rfl := some_inj hF
  exact Exec.ret tyOk rfl rfl rfl

def F_exchange_Collect_1 (x1 : TMail) (x4 : TMail) : Option Bool :=
  (bnd (F_exchange_same x1 x4) fun x7 => (some x7))

set_option maxRecDepth 100000 in
theorem W_exchange_Collect_1 {V : View} (x1 : TMail) (x4 : TMail) {a2 : Option Addr} {k2 : Nat} {a3 : Option Addr} {k3 : Nat} {a5 : Option Addr} {k5 : Nat} {a6 : Option Addr} {k6 : Nat} {b0 o0 : Nat} (h2 : SlAt cStr V a2 k2 x1.Keys) (h3 : SlAt cTPair V a3 k3 x1.Pairs) (h5 : SlAt cStr V a5 k5 x4.Keys) (h6 : SlAt cTPair V a6 k6 x4.Pairs) (hc0 : RdAt V (some ⟨b0, o0, none⟩) 0 [.int .i64 (x4.Txn), .int .i64 (x4.From), .int .i64 (x4.To), .slice a5 ((x4.Keys).length) (k5), .slice a6 ((x4.Pairs).length) (k6)]) {r : Bool} (hF : F_exchange_Collect_1 x1 x4 = some r) :
    Spec Tryz.prog 58 [.agg ⟨[.int .i64 (x1.Txn), .int .i64 (x1.From), .int .i64 (x1.To), .slice a2 ((x1.Keys).length) (k2), .slice a3 ((x1.Pairs).length) (k3)]⟩, .pointer (some ⟨b0, o0, none⟩)] V (fun _ v => v = .bool (r)) := by
  unfold F_exchange_Collect_1 at hF
  refine Spec.enter (T := tyT) Tryz.func58 rfl (by kernel_rfl) rfl rfl rfl ?_
  refine Exec.run tyOk 400 rfl ?_
  refine Exec.ld tyOk (x := .agg ⟨[.int .i64 (x4.Txn), .int .i64 (x4.From), .int .i64 (x4.To), .slice a5 ((x4.Keys).length) (k5), .slice a6 ((x4.Pairs).length) (k6)]⟩) rfl rfl hc0 rfl rfl ?_
  refine Exec.run tyOk 400 rfl ?_
  obtain ⟨x7, hx7, hF⟩ := bnd_some hF
  refine Exec.callS (.bool (x7)) rfl rfl (W_exchange_same x1 x4 h2 h3 h5 h6 hx7) ?_
  refine Exec.run tyOk 400 rfl ?_
  obtain rfl := some_inj hF
  exact Exec.ret tyOk rfl rfl rfl

def F_state_Valid (x1 : List TPair) : Option Bool :=
  (bnd (F_state_sorted x1) fun x3 => (bnd (gcall ((x3) == true) (F_slices_ContainsFunc_api_Pair_api_Pair x1 (fun y0 => F_state_absent y0 ))) fun x4 => (some (x3 && (!x4)))))

set_option maxRecDepth 100000 in
theorem W_state_Valid {V : View} (x1 : List TPair) {a2 : Option Addr} {k2 : Nat} (h2 : SlAt cTPair V a2 k2 x1) {r : Bool} (hF : F_state_Valid x1 = some r) :
    Spec Tryz.prog 60 [.slice a2 ((x1).length) (k2)] V (fun _ v => v = .bool (r)) := by
  unfold F_state_Valid at hF
  refine Spec.enter (T := tyT) Tryz.func60 rfl (by kernel_rfl) rfl rfl rfl ?_
  refine Exec.run tyOk 400 rfl ?_
  obtain ⟨x3, hx3, hF⟩ := bnd_some hF
  refine Exec.callS (.bool (x3)) rfl rfl (W_state_sorted x1 h2 hx3) ?_
  refine Exec.run tyOk 400 rfl ?_
  obtain ⟨x4, hx4, hF⟩ := bnd_some hF
  refine Exec.callS (.bool (x4)) rfl rfl (fun gg0 => W_slices_ContainsFunc_api_Pair_api_Pair x1 (fun y0 => F_state_absent y0 ) h2 (fun V' hv y0 r hr => W_state_absent y0   hr) (gcall_some hx4 (gd1_of gg0))) ?_
  refine Exec.run tyOk 400 rfl ?_
  obtain rfl := some_inj hF
  exact Exec.ret tyOk rfl rfl rfl

-- uses W_state_merge_api_Pair
def unRel (b0 b2 : Nat) (_V : View) (s : List TPair × Bool) (r0 r1 r2 : RowD) : Prop :=
  ∃ a k cs, r0 = ⟨.slice (some ⟨b0, 0, none⟩) 1 1, [.slice a s.1.length k], 28, 1⟩ ∧ r1 = ⟨.slice a s.1.length k, cs, 70, 4⟩ ∧
    r2 = ⟨.slice (some ⟨b2, 0, none⟩) 1 1, [.bool s.2], 4, 1⟩ ∧ RowRep cTPair _V s.1 cs

def unKeep (s : List TPair × Bool) (y : TPair) : Option (List TPair × Bool) := req ((s.1 ++ [y]).length * 48 ≤ 140737488355328) (some (s.1 ++ [y], s.2))
def unTwice (s : List TPair × Bool) (_ _ : TPair) : Option (List TPair × Bool) := some (s.1, true)

set_option maxRecDepth 100000 in
theorem X_Union1 {V : View} (b0 b2 : Nat) : FnSt1 Tryz.prog 111 [.pointer (some ⟨b0, 0, none⟩)] V mkPair (unRel b0 b2) unKeep := by
  intro V1 hv s r0 r1 r2 y s' ⟨a, k, cs, h0, h1, h2, hrep⟩ hg
  subst h0; subst h1; subst h2
  obtain ⟨l, t⟩ := s
  unfold unKeep at hg
  obtain ⟨q, hg⟩ := req_some hg
  obtain rfl := some_inj hg
  refine SpecR.enter (T := tyT) Tryz.func111 rfl (by kernel_rfl) rfl rfl rfl (M := [.row (.slice (some ⟨b0, 0, none⟩) 1 1) [.slice a l.length k] 28 1, .row (.slice a l.length k) cs 70 4, .row (.slice (some ⟨b2, 0, none⟩) 1 1) [.bool t] 4 1]) rfl ?_
  refine Exec.run tyOk 400 rfl ?_
  refine Exec.ldR tyOk 0 (l := [.slice a l.length k]) rfl rfl rfl ⟨fun j v hv => by simpa using hv, b0, 0, rfl⟩ rfl rfl ?_
  refine Exec.run tyOk 400 rfl ?_
  refine Exec.bsl tyOk rfl rfl ?_
  refine Exec.run tyOk 400 rfl ?_
  refine Exec.app tyOk 1 4 (nm := (l ++ [y]).length) rfl rfl rfl rfl rfl rfl rfl rfl rfl (by simp) (fun _ _ => rfl) rfl q (fun a3 k3 => ?_)
  refine Exec.run tyOk 400 rfl ?_
  refine Exec.stR tyOk 0 rfl rfl rfl rfl rfl ⟨b0, 0, rfl⟩ (Nat.le_refl _) rfl rfl rfl ?_
  refine Exec.run tyOk 400 rfl ?_
  refine Exec.fall tyOk rfl rfl ?_
  dsimp only
  exact ⟨[⟨.slice (some ⟨b0, 0, none⟩) 1 1, [.slice a3 (l ++ [y]).length k3], _, 1⟩, ⟨.slice a3 (l ++ [y]).length k3, _, _, 4⟩, ⟨.slice (some ⟨b2, 0, none⟩) 1 1, [.bool t], _, 1⟩], rfl, rfl, rfl, _, _, _, rfl, a3, k3, _, rfl, rfl, rfl, RowRep.app hrep ⟨_, _, rfl, rfl, rfl⟩⟩

set_option maxRecDepth 100000 in
theorem X_Union2 {V : View} (b0 b2 : Nat) : FnSt2 Tryz.prog 114 [.pointer (some ⟨b2, 0, none⟩)] V mkPair mkPair (unRel b0 b2) unTwice := by
  intro V1 hv s r0 r1 r2 y y2 s' ⟨a, k, cs, h0, h1, h2, hrep⟩ hg
  subst h0; subst h1; subst h2
  obtain ⟨l, t⟩ := s
  unfold unTwice at hg
  obtain rfl := some_inj hg
  refine SpecR.enter (T := tyT) Tryz.func114 rfl (by kernel_rfl) rfl rfl rfl (M := [.row (.slice (some ⟨b0, 0, none⟩) 1 1) [.slice a l.length k] 28 1, .row (.slice a l.length k) cs 70 4, .row (.slice (some ⟨b2, 0, none⟩) 1 1) [.bool t] 4 1]) rfl ?_
  refine Exec.run tyOk 400 rfl ?_
  refine Exec.stR tyOk 2 rfl rfl rfl rfl rfl ⟨b2, 0, rfl⟩ (Nat.le_refl _) rfl rfl rfl ?_
  refine Exec.run tyOk 400 rfl ?_
  refine Exec.fall tyOk rfl rfl ?_
  dsimp only
  exact ⟨[⟨.slice (some ⟨b0, 0, none⟩) 1 1, [.slice a l.length k], _, 1⟩, ⟨.slice a l.length k, cs, _, 4⟩, ⟨.slice (some ⟨b2, 0, none⟩) 1 1, [.bool true], _, 1⟩], rfl, rfl, rfl, _, _, _, rfl, a, k, cs, rfl, rfl, rfl, hrep⟩

def F_state_Union (x1 x3 : List TPair) : Option (List TPair × Int) :=
  bnd (F_state_Valid x1) fun x5 => bnd (gcall ((!x5) == false) (F_state_Valid x3)) fun x6 => cond ((!x5) || (!x6)) (some ([], 1))
    (bnd (mergeF x1 x3 F_state_order unKeep unKeep unTwice ([], false)) fun s => cond s.2 (some ([], 8)) (some (s.1, 0)))

set_option maxRecDepth 100000 in
theorem W_state_Union {V : View} (x1 : List TPair) (x3 : List TPair) {a2 : Option Addr} {k2 : Nat} {a4 : Option Addr} {k4 : Nat} (h2 : SlAt cTPair V a2 k2 x1) (h4 : SlAt cTPair V a4 k4 x3) {r : List TPair × Int} (hF : F_state_Union x1 x3 = some r) :
    Spec Tryz.prog 62 [.slice a2 ((x1).length) (k2), .slice a4 ((x3).length) (k4)] V (fun V' v => ∃ (a22 : Option Addr) (k22 : Nat), v = .tuple ⟨[.slice a22 ((r.1).length) (k22), .int .i64 (r.2)]⟩ ∧ SlAt cTPair V' a22 k22 r.1) := by
  unfold F_state_Union at hF
  refine Spec.enter (T := tyT) Tryz.func62 rfl (by kernel_rfl) rfl rfl rfl ?_
  refine Exec.run tyOk 400 rfl ?_
  obtain ⟨x5, hx5, hF⟩ := bnd_some hF
  refine Exec.callS (.bool (x5)) rfl rfl (W_state_Valid x1 h2 hx5) ?_
  refine Exec.run tyOk 400 rfl ?_
  obtain ⟨x6, hx6, hF⟩ := bnd_some hF
  refine Exec.callS (.bool (x6)) rfl rfl (fun gg0 => W_state_Valid x3 h4 (gcall_some hx6 (gd1_of gg0))) ?_
  refine Exec.run tyOk 400 rfl ?_
  rcases cond_some hF with ⟨hb, hF⟩ | ⟨hb, hF⟩
  · skip
    refine Exec.ifT rfl hb ?_
    refine Exec.run tyOk 400 rfl ?_
    obtain rfl := some_inj hF
    exact Exec.ret tyOk rfl rfl ⟨_, _, rfl, SlAt.nil⟩
  · skip
    refine Exec.ifF rfl hb ?_
    refine Exec.run tyOk 400 rfl ?_
    refine Exec.fixR 0 (n := 1) (sz := 1) rfl rfl rfl rfl rfl (fun _ => rfl) (fun _ => rfl) (fun _ => rfl) (fun b0 => ?_)
    refine Exec.mkf rfl rfl ?_
    refine Exec.run tyOk 400 rfl ?_
    refine Exec.fixR 1 (n := 1) (sz := 1) rfl rfl rfl rfl rfl (fun _ => rfl) (fun _ => rfl) (fun _ => rfl) (fun b2 => ?_)
    refine Exec.mkf rfl rfl ?_
    refine Exec.row0 70 4 rfl ?_
    obtain ⟨s, hs, hF⟩ := bnd_some hF
    refine Exec.callR [0, 2, 1] (rs := [⟨.slice (some ⟨b0, 0, none⟩) 1 1, [.slice none 0 0], 28, 1⟩, ⟨.slice none 0 0, [], 70, 4⟩, ⟨.slice (some ⟨b2, 0, none⟩) 1 1, [.bool false], 4, 1⟩]) rfl rfl rfl rfl rfl rfl
      (X_merge (rel := unRel b0 b2) x1 x3 F_state_order unKeep unKeep unTwice h2 h4 (fun V' hv y0 y1 r hr => W_state_order y0 y1 hr) (X_Union1 b0 b2) (X_Union1 b0 b2) (X_Union2 b0 b2) (s := ([], false)) ⟨none, 0, [], rfl, rfl, rfl, RowRep.nil⟩ hs) ?_
    rintro V7 _ _ hv7 ⟨rfl, q0, q1, q2, rfl, a, k, cs, rfl, rfl, rfl, hrep⟩
    refine ⟨_, rfl, ?_⟩
    refine Exec.run tyOk 400 rfl ?_
    refine Exec.ldR tyOk 1 (l := [.bool s.2]) rfl rfl rfl ⟨fun j v hv => by simpa using hv, b2, 0, rfl⟩ rfl rfl ?_
    refine Exec.run tyOk 400 rfl ?_
    rcases cond_some hF with ⟨hb, hF⟩ | ⟨hb, hF⟩
    · skip
      refine Exec.ifT rfl hb ?_
      refine Exec.run tyOk 400 rfl ?_
      obtain rfl := some_inj hF
      exact Exec.ret tyOk rfl rfl ⟨_, _, rfl, SlAt.nil⟩
    · skip
      refine Exec.ifF rfl hb ?_
      refine Exec.run tyOk 400 rfl ?_
      refine Exec.ldR tyOk 0 (l := [.slice a s.1.length k]) rfl rfl rfl ⟨fun j v hv => by simpa using hv, b0, 0, rfl⟩ rfl rfl ?_
      refine Exec.run tyOk 400 rfl ?_
      refine Exec.frz 2 rfl rfl rfl (fun V13 hv13 hd13 hn13 => ?_)
      have hz13 := RowRep.slat hrep hv13 hd13 hn13
      obtain rfl := some_inj hF
      exact Exec.ret tyOk rfl rfl ⟨_, _, rfl, hz13⟩


def F_clockworkref31_valid (x1 : TPlacement) (x3 : TShard) (x5 : TFootprint) : Option Bool :=
  (bnd (F_clockworkref29_Valid x1) fun x8 => (bnd (gcall ((x8) == true) (F_clockworkref19_Valid x5)) fun x9 => (bnd (gcall (((x8 && x9)) == true) (F_clockworkref06_Valid x3.Pairs)) fun x10 => (some ((x8 && x9) && x10)))))

set_option maxRecDepth 100000 in
theorem W_clockworkref31_valid {V : View} (x1 : TPlacement) (x3 : TShard) (x5 : TFootprint) {a2 : Option Addr} {k2 : Nat} {a4 : Option Addr} {k4 : Nat} {a6 : Option Addr} {k6 : Nat} {a7 : Option Addr} {k7 : Nat} (h2 : SlAt cTPart V a2 k2 x1.Parts) (h4 : SlAt cTPair V a4 k4 x3.Pairs) (h6 : SlAt cStr V a6 k6 x5.Reads) (h7 : SlAt cStr V a7 k7 x5.Writes) {r : Bool} (hF : F_clockworkref31_valid x1 x3 x5 = some r) :
    Spec Tryz.prog 66 [.agg ⟨[.int .i64 (x1.Version), .slice a2 ((x1.Parts).length) (k2)]⟩, .agg ⟨[.int .i64 (x3.Node), .slice a4 ((x3.Pairs).length) (k4)]⟩, .agg ⟨[.bool (x5.All), .slice a6 ((x5.Reads).length) (k6), .slice a7 ((x5.Writes).length) (k7)]⟩] V (fun _ v => v = .bool (r)) := by
  unfold F_clockworkref31_valid at hF
  refine Spec.enter (T := tyT) Tryz.func66 rfl (by kernel_rfl) rfl rfl rfl ?_
  refine Exec.run tyOk 400 rfl ?_
  obtain ⟨x8, hx8, hF⟩ := bnd_some hF
  refine Exec.callS (.bool (x8)) rfl rfl (W_clockworkref29_Valid x1 h2 hx8) ?_
  refine Exec.run tyOk 400 rfl ?_
  obtain ⟨x9, hx9, hF⟩ := bnd_some hF
  refine Exec.callS (.bool (x9)) rfl rfl (fun gg0 => W_clockworkref19_Valid x5 h6 h7 (gcall_some hx9 (gd1_of gg0))) ?_
  refine Exec.run tyOk 400 rfl ?_
  obtain ⟨x10, hx10, hF⟩ := bnd_some hF
  refine Exec.callS (.bool (x10)) rfl rfl (fun gg0 => W_clockworkref06_Valid x3.Pairs h4 (gcall_some hx10 (gd1_of gg0))) ?_
  refine Exec.run tyOk 400 rfl ?_
  obtain rfl := some_inj hF
  exact Exec.ret tyOk rfl rfl rfl

def F_clockworkref30_owners_L1 (J16 : (List Int) → (List Int) → Option (List Int)) : Nat → (List Int) → (List Int) → Int → Option (List Int)
  | 0, _, _, _ => none
  | n27 + 1, x23, x25, x26 => (cond (decide (x26 ≤ (16 : Int))) (bnd (F_clockworkref30_Has x23 x26) fun x30 => (jn (fun (x32 : List Int) (x34 : List Int) => (F_clockworkref30_owners_L1 J16 n27 x32 x34 ((IntKind.i64.wrap (x26 + (1 : Int)))))) (fun J35 => (cond x30 (req (((x25 ++ [x26])).length * 8 ≤ 140737488355328) (J35 x23 ((x25 ++ [x26])))) (J35 x23 x25))))) (J16 x23 x25))

def F_clockworkref30_owners_L2 (x3 : List Str) (x1 : TPlacement) (J8 : (List Int) → Option (List Int)) : Nat → (List Int) → Int → Option (List Int)
  | 0, _, _ => none
  | n43 + 1, x41, x42 => (cond (decide (x42 < (((x3).length : Nat) : Int))) (req (0 ≤ x42 ∧ x42 < ((x3).length : Int)) (bnd (F_clockworkref29_Owner x1 ((atI x3 x42))) fun x49 => (req (((x41 ++ [x49])).length * 8 ≤ 140737488355328) (F_clockworkref30_owners_L2 x3 x1 J8 n43 ((x41 ++ [x49])) ((IntKind.i64.wrap (x42 + (1 : Int)))))))) (J8 x41))

def F_clockworkref30_owners (x1 : TPlacement) (x3 : List Str) : Option (List Int) :=
  (jn (fun (x7 : List Int) => (jn (fun (x13 : List Int) (x15 : List Int) => (some x15)) (fun J16 => (F_clockworkref30_owners_L1 J16 (((16 : Int)).toNat + 2) x7 (([] : List Int)) ((1 : Int)))))) (fun J8 => (F_clockworkref30_owners_L2 x3 x1 J8 (((((x3).length : Nat) : Int)).toNat + 1) (([] : List Int)) ((0 : Int)))))

set_option maxRecDepth 100000 in
theorem W_clockworkref30_owners {V : View} (x1 : TPlacement) (x3 : List Str) {a2 : Option Addr} {k2 : Nat} {a4 : Option Addr} {k4 : Nat} (h2 : SlAt cTPart V a2 k2 x1.Parts) (h4 : SlAt cStr V a4 k4 x3) {r : List Int} (hF : F_clockworkref30_owners x1 x3 = some r) :
    Spec Tryz.prog 117 [.agg ⟨[.int .i64 (x1.Version), .slice a2 ((x1.Parts).length) (k2)]⟩, .slice a4 ((x3).length) (k4)] V (fun V' v => ∃ (a52 : Option Addr) (k52 : Nat), v = .slice a52 ((r).length) (k52) ∧ SlAt (cInt .i64) V' a52 k52 r) := by
  unfold F_clockworkref30_owners at hF
  refine Spec.enter (T := tyT) Tryz.func117 rfl (by kernel_rfl) rfl rfl rfl ?_
  refine Exec.run tyOk 14 rfl ?_
  refine Exec.row0 3 1 rfl ?_
  have h5 : RowRep (cInt .i64) V ([] : List Int) [] := RowRep.nil
  obtain ⟨J8, hJ8, hF⟩ := jn_some hF
  refine Exec.seam (fun L' V' M' => ∃ (x7 : List Int) (a6 : Option Addr) (k6 : Nat) (cs6 : List Value), L' = [(5, .v (.slice a6 ((x7).length) (k6)))] ∧ M' = [.blk [.v (.int .i64 (x1.Version)), .v (.slice a2 ((x1.Parts).length) (k2))] 24, .row (.slice a6 ((x7).length) (k6)) cs6 3 1] ∧ RowRep (cInt .i64) V' x7 cs6 ∧ SlAt cTPart V' a2 k2 x1.Parts ∧ J8 x7 = some r) rfl ?_ ?_
  · rintro L' V9 M' ⟨x7, a6, k6, cs6, rfl, rfl, h6, h10, hF⟩
    subst hJ8
    refine Exec.run tyOk 9 rfl ?_
    refine Exec.row0 3 1 rfl ?_
    have h11 : RowRep (cInt .i64) V9 ([] : List Int) [] := RowRep.nil
    obtain ⟨J16, hJ16, hF⟩ := jn_some hF
    refine Exec.seam (fun L' V' M' => ∃ (x13 : List Int) (a12 : Option Addr) (k12 : Nat) (cs12 : List Value) (x15 : List Int) (a14 : Option Addr) (k14 : Nat) (cs14 : List Value), L' = [(7, .v (.slice a14 ((x15).length) (k14)))] ∧ M' = [.blk [.v (.int .i64 (x1.Version)), .v (.slice a2 ((x1.Parts).length) (k2))] 24, .row (.slice a12 ((x13).length) (k12)) cs12 3 1, .row (.slice a14 ((x15).length) (k14)) cs14 3 1] ∧ RowRep (cInt .i64) V' x13 cs12 ∧ RowRep (cInt .i64) V' x15 cs14 ∧ SlAt cTPart V' a2 k2 x1.Parts ∧ J16 x13 x15 = some r) rfl ?_ ?_
    · rintro L' V17 M' ⟨x13, a12, k12, cs12, x15, a14, k14, cs14, rfl, rfl, h12, h14, h18, hF⟩
      subst hJ16
      refine Exec.run tyOk 400 rfl ?_
      refine Exec.frz 2 rfl rfl rfl (fun V19 hv19 hd19 hn19 => ?_)
      have hz19 := RowRep.slat h14 hv19 hd19 hn19
      have h20 := SlAt.mono h18 hv19
      have h21 := RowRep.mono hv19 h12
      obtain rfl := some_inj hF
      exact Exec.ret tyOk rfl rfl ⟨_, _, rfl, hz19⟩
    · skip
      refine Exec.run tyOk 400 rfl ?_
      refine Exec.loop (fun n27 L' V' M' => ∃ (x23 : List Int) (a22 : Option Addr) (k22 : Nat) (cs22 : List Value) (x25 : List Int) (a24 : Option Addr) (k24 : Nat) (cs24 : List Value) (x26 : Int), L' = [(5, .v (.slice a22 ((x23).length) (k22))), (7, .v (.slice a24 ((x25).length) (k24))), (8, .v (.int .i64 (x26)))] ∧ M' = [.blk [.v (.int .i64 (x1.Version)), .v (.slice a2 ((x1.Parts).length) (k2))] 24, .row (.slice a22 ((x23).length) (k22)) cs22 3 1, .row (.slice a24 ((x25).length) (k24)) cs24 3 1] ∧ RowRep (cInt .i64) V' x23 cs22 ∧ RowRep (cInt .i64) V' x25 cs24 ∧ SlAt cTPart V' a2 k2 x1.Parts ∧ F_clockworkref30_owners_L1 J16 n27 x23 x25 x26 = some r) ⟨(((16 : Int)).toNat + 2), [(5, .v (.slice a6 ((x7).length) (k6))), (7, .v (.slice none ((([] : List Int)).length) (0))), (8, .v (.int .i64 ((1 : Int))))], ⟨rfl, rfl, rfl, trivial⟩, x7, a6, k6, cs6, ([] : List Int), none, 0, [], (1 : Int), rfl, rfl, h6, h11, h10, hF⟩ ?_
      rintro n27 L' V28 M' ⟨x23, a22, k22, cs22, x25, a24, k24, cs24, x26, rfl, rfl, h22, h24, h29, hF⟩
      rcases n27 with _ | n27
      · exact absurd hF (by simp [F_clockworkref30_owners_L1])
      rw [F_clockworkref30_owners_L1] at hF
      refine Exec.run tyOk 400 rfl ?_
      rcases cond_some hF with ⟨hb, hF⟩ | ⟨hb, hF⟩
      · skip
        refine Exec.ifT rfl hb ?_
        refine Exec.run tyOk 400 rfl ?_
        obtain ⟨x30, hx30, hF⟩ := bnd_some hF
        refine Exec.callL (.bool (x30)) rfl rfl (fun _ hv hl => W_clockworkref30_Has x23 x26 (RowRep.slat h22 hv (hl 1 _ _ _ _ _ _ rfl).1 (hl 1 _ _ _ _ _ _ rfl).2) hx30) ?_
        refine Exec.run tyOk 400 rfl ?_
        obtain ⟨J35, hJ35, hF⟩ := jn_some hF
        refine Exec.seam (fun L' V' M' => ∃ (x32 : List Int) (a31 : Option Addr) (k31 : Nat) (cs31 : List Value) (x34 : List Int) (a33 : Option Addr) (k33 : Nat) (cs33 : List Value), L' = [(5, .v (.slice a31 ((x32).length) (k31))), (7, .v (.slice a33 ((x34).length) (k33))), (8, .v (.int .i64 (x26)))] ∧ M' = [.blk [.v (.int .i64 (x1.Version)), .v (.slice a2 ((x1.Parts).length) (k2))] 24, .row (.slice a31 ((x32).length) (k31)) cs31 3 1, .row (.slice a33 ((x34).length) (k33)) cs33 3 1] ∧ RowRep (cInt .i64) V' x32 cs31 ∧ RowRep (cInt .i64) V' x34 cs33 ∧ SlAt cTPart V' a2 k2 x1.Parts ∧ J35 x32 x34 = some r) rfl ?_ ?_
        · rintro L' V36 M' ⟨x32, a31, k31, cs31, x34, a33, k33, cs33, rfl, rfl, h31, h33, h37, hF⟩
          subst hJ35
          refine Exec.run tyOk 400 rfl ?_
          exact Exec.round [(5, .v (.slice a31 ((x32).length) (k31))), (7, .v (.slice a33 ((x34).length) (k33))), (8, .v (.int .i64 ((IntKind.i64.wrap (x26 + (1 : Int))))))] ⟨rfl, rfl, rfl, trivial⟩ ⟨n27, Nat.lt_succ_self _, x32, a31, k31, cs31, x34, a33, k33, cs33, (IntKind.i64.wrap (x26 + (1 : Int))), rfl, rfl, h31, h33, h37, hF⟩
        · skip
          refine Exec.run tyOk 400 rfl ?_
          rcases cond_some hF with ⟨hb, hF⟩ | ⟨hb, hF⟩
          · skip
            refine Exec.ifT rfl hb ?_
            refine Exec.run tyOk 400 rfl ?_
            refine Exec.bsl tyOk rfl rfl ?_
            refine Exec.run tyOk 400 rfl ?_
            obtain ⟨q39, hF⟩ := req_some hF
            refine Exec.app tyOk 2 3 (nm := ((x25 ++ [x26])).length) rfl rfl rfl rfl rfl rfl rfl rfl rfl (by simp) (fun _ _ => rfl) rfl q39 (fun a38 k38 => ?_)
            have h38 : RowRep (cInt .i64) V28 (x25 ++ [x26]) (cs24 ++ [.int .i64 (x26)]) := RowRep.app h24 ⟨_, _, rfl, rfl, rfl⟩
            refine Exec.run tyOk 400 rfl ?_
            refine Exec.cut 3 [(5, .v (.slice a22 ((x23).length) (k22))), (7, .v (.slice a38 (((x25 ++ [x26])).length) (k38))), (8, .v (.int .i64 (x26)))] (M' := [.blk [.v (.int .i64 (x1.Version)), .v (.slice a2 ((x1.Parts).length) (k2))] 24, .row (.slice a22 ((x23).length) (k22)) cs22 3 1, .row (.slice a38 (((x25 ++ [x26])).length) (k38)) ((cs24 ++ [.int .i64 (x26)])) 3 1]) rfl ⟨rfl, rfl, rfl, trivial⟩ rfl rfl rfl ?_
            exact Exec.round [(5, .v (.slice a22 ((x23).length) (k22))), (7, .v (.slice a38 (((x25 ++ [x26])).length) (k38))), (8, .v (.int .i64 (x26)))] ⟨rfl, rfl, rfl, trivial⟩ ⟨x23, a22, k22, cs22, (x25 ++ [x26]), a38, k38, (cs24 ++ [.int .i64 (x26)]), rfl, rfl, h22, h38, h29, hF⟩
          · skip
            refine Exec.ifF rfl hb ?_
            refine Exec.run tyOk 400 rfl ?_
            exact Exec.round [(5, .v (.slice a22 ((x23).length) (k22))), (7, .v (.slice a24 ((x25).length) (k24))), (8, .v (.int .i64 (x26)))] ⟨rfl, rfl, rfl, trivial⟩ ⟨x23, a22, k22, cs22, x25, a24, k24, cs24, rfl, rfl, h22, h24, h29, hF⟩
      · skip
        refine Exec.ifF rfl hb ?_
        refine Exec.run tyOk 400 rfl ?_
        exact Exec.round [(7, .v (.slice a24 ((x25).length) (k24)))] ⟨rfl, trivial⟩ ⟨x23, a22, k22, cs22, x25, a24, k24, cs24, rfl, rfl, h22, h24, h29, hF⟩
  · skip
    refine Exec.run tyOk 400 rfl ?_
    refine Exec.loop (fun n43 L' V' M' => ∃ (x41 : List Int) (a40 : Option Addr) (k40 : Nat) (cs40 : List Value) (x42 : Int), L' = [(1, .v (.slice a4 ((x3).length) (k4))), (2, .ptr 0 0), (5, .v (.slice a40 ((x41).length) (k40))), (6, .v (.int .i64 (x42)))] ∧ M' = [.blk [.v (.int .i64 (x1.Version)), .v (.slice a2 ((x1.Parts).length) (k2))] 24, .row (.slice a40 ((x41).length) (k40)) cs40 3 1] ∧ RowRep (cInt .i64) V' x41 cs40 ∧ SlAt cStr V' a4 k4 x3 ∧ SlAt cTPart V' a2 k2 x1.Parts ∧ F_clockworkref30_owners_L2 x3 x1 J8 n43 x41 x42 = some r) ⟨(((((x3).length : Nat) : Int)).toNat + 1), [(1, .v (.slice a4 ((x3).length) (k4))), (2, .ptr 0 0), (5, .v (.slice none ((([] : List Int)).length) (0))), (6, .v (.int .i64 ((0 : Int))))], ⟨rfl, rfl, rfl, rfl, trivial⟩, ([] : List Int), none, 0, [], (0 : Int), rfl, rfl, h5, h4, h2, hF⟩ ?_
    rintro n43 L' V44 M' ⟨x41, a40, k40, cs40, x42, rfl, rfl, h40, h45, h46, hF⟩
    rcases n43 with _ | n43
    · exact absurd hF (by simp [F_clockworkref30_owners_L2])
    rw [F_clockworkref30_owners_L2] at hF
    refine Exec.run tyOk 400 rfl ?_
    rcases cond_some hF with ⟨hb, hF⟩ | ⟨hb, hF⟩
    · skip
      refine Exec.ifT rfl hb ?_
      refine Exec.run tyOk 400 rfl ?_
      refine Exec.drawsE tyOk [8] [] [(0, true), (1, true), (2, true), (3, true), (4, true), (5, true), (6, false), (7, false), (8, false), (9, false)] (by kernel_rfl) ?_
      refine Exec.run tyOk 400 rfl ?_
      obtain ⟨q47, hF⟩ := req_some hF
      obtain ⟨c48, hr48, hd48⟩ := SlAt.get h45 q47
      obtain rfl := hr48
      refine Exec.fia tyOk rfl rfl rfl ⟨q47.1, q47.2, hd48.some⟩ ?_
      refine Exec.run tyOk 400 rfl ?_
      refine Exec.fld tyOk (x := .string ⟨⟨(atI x3 x42)⟩⟩) rfl rfl rfl hd48 rfl rfl ?_
      refine Exec.run tyOk 400 rfl ?_
      obtain ⟨x49, hx49, hF⟩ := bnd_some hF
      refine Exec.callS (.int .i64 (x49)) rfl rfl (W_clockworkref29_Owner x1 ((atI x3 x42)) h46 hx49) ?_
      refine Exec.run tyOk 400 rfl ?_
      refine Exec.bsl tyOk rfl rfl ?_
      refine Exec.run tyOk 400 rfl ?_
      obtain ⟨q51, hF⟩ := req_some hF
      refine Exec.app tyOk 1 2 (nm := ((x41 ++ [x49])).length) rfl rfl rfl rfl rfl rfl rfl rfl rfl (by simp) (fun _ _ => rfl) rfl q51 (fun a50 k50 => ?_)
      have h50 : RowRep (cInt .i64) V44 (x41 ++ [x49]) (cs40 ++ [.int .i64 (x49)]) := RowRep.app h40 ⟨_, _, rfl, rfl, rfl⟩
      refine Exec.run tyOk 400 rfl ?_
      refine Exec.cut 2 [(1, .v (.slice a4 ((x3).length) (k4))), (2, .ptr 0 0), (5, .v (.slice a50 (((x41 ++ [x49])).length) (k50))), (6, .v (.int .i64 ((IntKind.i64.wrap (x42 + (1 : Int))))))] (M' := [.blk [.v (.int .i64 (x1.Version)), .v (.slice a2 ((x1.Parts).length) (k2))] 24, .row (.slice a50 (((x41 ++ [x49])).length) (k50)) ((cs40 ++ [.int .i64 (x49)])) 3 1]) rfl ⟨rfl, rfl, rfl, rfl, trivial⟩ rfl rfl rfl ?_
      exact Exec.round [(1, .v (.slice a4 ((x3).length) (k4))), (2, .ptr 0 0), (5, .v (.slice a50 (((x41 ++ [x49])).length) (k50))), (6, .v (.int .i64 ((IntKind.i64.wrap (x42 + (1 : Int))))))] ⟨rfl, rfl, rfl, rfl, trivial⟩ ⟨n43, Nat.lt_succ_self _, (x41 ++ [x49]), a50, k50, (cs40 ++ [.int .i64 (x49)]), (IntKind.i64.wrap (x42 + (1 : Int))), rfl, rfl, h50, h45, h46, hF⟩
    · skip
      refine Exec.ifF rfl hb ?_
      refine Exec.run tyOk 400 rfl ?_
      exact Exec.round [(5, .v (.slice a40 ((x41).length) (k40)))] ⟨rfl, trivial⟩ ⟨x41, a40, k40, cs40, rfl, rfl, h40, h46, hF⟩

def F_clockworkref30_Active (x1 : TPlacement) (x3 : TFootprint) : Option (List Int) :=
  (bnd (F_clockworkref30_valid x1 x3) fun x6 => (cond (!x6) (some ([] : List Int)) (cond x3.All (bnd (F_clockworkref29_Nodes x1) fun x7 => (some x7)) (bnd (F_clockworkref30_owners x1 x3.Writes) fun x13 => (some x13)))))

set_option maxRecDepth 100000 in
theorem W_clockworkref30_Active {V : View} (x1 : TPlacement) (x3 : TFootprint) {a2 : Option Addr} {k2 : Nat} {a4 : Option Addr} {k4 : Nat} {a5 : Option Addr} {k5 : Nat} (h2 : SlAt cTPart V a2 k2 x1.Parts) (h4 : SlAt cStr V a4 k4 x3.Reads) (h5 : SlAt cStr V a5 k5 x3.Writes) {r : List Int} (hF : F_clockworkref30_Active x1 x3 = some r) :
    Spec Tryz.prog 118 [.agg ⟨[.int .i64 (x1.Version), .slice a2 ((x1.Parts).length) (k2)]⟩, .agg ⟨[.bool (x3.All), .slice a4 ((x3.Reads).length) (k4), .slice a5 ((x3.Writes).length) (k5)]⟩] V (fun V' v => ∃ (a19 : Option Addr) (k19 : Nat), v = .slice a19 ((r).length) (k19) ∧ SlAt (cInt .i64) V' a19 k19 r) := by
  unfold F_clockworkref30_Active at hF
  refine Spec.enter (T := tyT) Tryz.func118 rfl (by kernel_rfl) rfl rfl rfl ?_
  refine Exec.run tyOk 400 rfl ?_
  obtain ⟨x6, hx6, hF⟩ := bnd_some hF
  refine Exec.callS (.bool (x6)) rfl rfl (W_clockworkref30_valid x1 x3 h2 h4 h5 hx6) ?_
  refine Exec.run tyOk 400 rfl ?_
  rcases cond_some hF with ⟨hb, hF⟩ | ⟨hb, hF⟩
  · skip
    refine Exec.ifT rfl hb ?_
    refine Exec.run tyOk 400 rfl ?_
    obtain rfl := some_inj hF
    exact Exec.ret tyOk rfl rfl ⟨_, _, rfl, SlAt.nil⟩
  · skip
    refine Exec.ifF rfl hb ?_
    refine Exec.run tyOk 400 rfl ?_
    rcases cond_some hF with ⟨hb, hF⟩ | ⟨hb, hF⟩
    · skip
      refine Exec.ifT rfl hb ?_
      refine Exec.run tyOk 400 rfl ?_
      obtain ⟨x7, hx7, hF⟩ := bnd_some hF
      refine Exec.call rfl rfl (W_clockworkref29_Nodes x1 h2 hx7) ?_
      rintro V9 _ hv9 ⟨a8, k8, rfl, h8⟩
      have h10 := SlAt.mono h2 hv9
      have h11 := SlAt.mono h4 hv9
      have h12 := SlAt.mono h5 hv9
      refine Exec.run tyOk 400 rfl ?_
      obtain rfl := some_inj hF
      exact Exec.ret tyOk rfl rfl ⟨_, _, rfl, h8⟩
    · skip
      refine Exec.ifF rfl hb ?_
      refine Exec.run tyOk 400 rfl ?_
      obtain ⟨x13, hx13, hF⟩ := bnd_some hF
      refine Exec.call rfl rfl (W_clockworkref30_owners x1 x3.Writes h2 h5 hx13) ?_
      rintro V15 _ hv15 ⟨a14, k14, rfl, h14⟩
      have h16 := SlAt.mono h2 hv15
      have h17 := SlAt.mono h4 hv15
      have h18 := SlAt.mono h5 hv15
      refine Exec.run tyOk 400 rfl ?_
      obtain rfl := some_inj hF
      exact Exec.ret tyOk rfl rfl ⟨_, _, rfl, h14⟩

def F_clockworkref06_Apply_L1 (x3 : List TPair) (J77 : (List TPair) → Option (List TPair × Int)) : Nat → (List TPair) → Int → Option (List TPair × Int)
  | 0, _, _ => none
  | n82 + 1, x79, x81 => (cond (decide (x81 < (((x3).length : Nat) : Int))) (req (0 ≤ x81 ∧ x81 < ((x3).length : Int)) (jn (fun (x87 : List TPair) => (F_clockworkref06_Apply_L1 x3 J77 n82 x87 ((IntKind.i64.wrap (x81 + (1 : Int)))))) (fun J89 => (cond ((atI x3 x81).Val.Kind != (0 : Int)) (req (0 ≤ x81 ∧ x81 < ((x3).length : Int)) (bnd (F_clockworkref06_with x79 ((atI x3 x81))) fun x94 => (J89 x94))) (J89 x79))))) (J77 x79))

def F_clockworkref06_Apply_L2 (x1 : List TPair) (x3 : List TPair) (J10 : (List TPair) → Option (List TPair × Int)) : Nat → (List TPair) → Int → Option (List TPair × Int)
  | 0, _, _ => none
  | n104 + 1, x102, x103 => (cond (decide (x103 < (((x1).length : Nat) : Int))) (req (0 ≤ x103 ∧ x103 < ((x1).length : Int)) (bnd (F_clockworkref06_Has x3 ((atI x1 x103).Key)) fun x110 => (jn (fun (x112 : List TPair) => (F_clockworkref06_Apply_L2 x1 x3 J10 n104 x112 ((IntKind.i64.wrap (x103 + (1 : Int)))))) (fun J113 => (cond (!x110) (req (0 ≤ x103 ∧ x103 < ((x1).length : Int)) (req (((x102 ++ [(atI x1 x103)])).length * 48 ≤ 140737488355328) (J113 ((x102 ++ [(atI x1 x103)]))))) (J113 x102)))))) (J10 x102))

def F_clockworkref06_Apply (x1 : List TPair) (x3 : List TPair) : Option (List TPair × Int) :=
  (bnd (F_clockworkref06_Valid x1) fun x5 => (bnd (gcall (((!x5)) == false) (F_clockworkref06_ValidWrites x3)) fun x6 => (cond ((!x5) || (!x6)) (some (([] : List TPair), (1 : Int))) (jn (fun (x9 : List TPair) => (jn (fun (x75 : List TPair) => (some (x75, (0 : Int)))) (fun J77 => (F_clockworkref06_Apply_L1 x3 J77 (((((x3).length : Nat) : Int)).toNat + 1) x9 ((0 : Int)))))) (fun J10 => (F_clockworkref06_Apply_L2 x1 x3 J10 (((((x1).length : Nat) : Int)).toNat + 1) (([] : List TPair)) ((0 : Int))))))))

set_option maxRecDepth 100000 in
theorem W_clockworkref06_Apply {V : View} (x1 : List TPair) (x3 : List TPair) {a2 : Option Addr} {k2 : Nat} {a4 : Option Addr} {k4 : Nat} (h2 : SlAt cTPair V a2 k2 x1) (h4 : SlAt cTPair V a4 k4 x3) {r : List TPair × Int} (hF : F_clockworkref06_Apply x1 x3 = some r) :
    Spec Tryz.prog 122 [.slice a2 ((x1).length) (k2), .slice a4 ((x3).length) (k4)] V (fun V' v => ∃ (a121 : Option Addr) (k121 : Nat), v = .tuple ⟨[.slice a121 ((r.1).length) (k121), .int .i64 (r.2)]⟩ ∧ SlAt cTPair V' a121 k121 r.1) := by
  unfold F_clockworkref06_Apply at hF
  refine Spec.enter (T := tyT) Tryz.func122 rfl (by kernel_rfl) rfl rfl rfl ?_
  refine Exec.run tyOk 400 rfl ?_
  obtain ⟨x5, hx5, hF⟩ := bnd_some hF
  refine Exec.callS (.bool (x5)) rfl rfl (W_clockworkref06_Valid x1 h2 hx5) ?_
  refine Exec.run tyOk 400 rfl ?_
  obtain ⟨x6, hx6, hF⟩ := bnd_some hF
  refine Exec.callS (.bool (x6)) rfl rfl (fun gg0 => W_clockworkref06_ValidWrites x3 h4 (gcall_some hx6 (gd1_of gg0))) ?_
  refine Exec.run tyOk 400 rfl ?_
  rcases cond_some hF with ⟨hb, hF⟩ | ⟨hb, hF⟩
  · skip
    refine Exec.ifT rfl hb ?_
    refine Exec.run tyOk 400 rfl ?_
    obtain rfl := some_inj hF
    exact Exec.ret tyOk rfl rfl ⟨_, _, rfl, SlAt.nil⟩
  · skip
    refine Exec.ifF rfl hb ?_
    refine Exec.run tyOk 10 rfl ?_
    refine Exec.row0 70 4 rfl ?_
    have h7 : RowRep cTPair V ([] : List TPair) [] := RowRep.nil
    obtain ⟨J10, hJ10, hF⟩ := jn_some hF
    refine Exec.seam (fun L' V' M' => ∃ (x9 : List TPair) (a8 : Option Addr) (k8 : Nat) (cs8 : List Value), L' = [(1, .v (.slice a4 ((x3).length) (k4))), (6, .v (.slice a8 ((x9).length) (k8)))] ∧ M' = [.row (.slice a8 ((x9).length) (k8)) cs8 70 4] ∧ RowRep cTPair V' x9 cs8 ∧ SlAt cTPair V' a4 k4 x3 ∧ J10 x9 = some r) rfl ?_ ?_
    · rintro L' V11 M' ⟨x9, a8, k8, cs8, rfl, rfl, h8, h12, hF⟩
      subst hJ10
      refine Exec.run tyOk 5 rfl ?_
      refine Exec.frz 0 rfl rfl rfl (fun V73 hv73 hd73 hn73 => ?_)
      have hz73 := RowRep.slat h8 hv73 hd73 hn73
      have h74 := SlAt.mono h12 hv73
      obtain ⟨J77, hJ77, hF⟩ := jn_some hF
      refine Exec.seam (fun L' V' M' => ∃ (x75 : List TPair) (a76 : Option Addr) (k76 : Nat), L' = [(6, .v (.slice a76 ((x75).length) (k76)))] ∧ M' = [] ∧ SlAt cTPair V' a76 k76 x75 ∧ J77 x75 = some r) rfl ?_ ?_
      · rintro L' V78 M' ⟨x75, a76, k76, rfl, rfl, h76, hF⟩
        subst hJ77
        refine Exec.run tyOk 400 rfl ?_
        obtain rfl := some_inj hF
        exact Exec.ret tyOk rfl rfl ⟨_, _, rfl, h76⟩
      · skip
        refine Exec.run tyOk 400 rfl ?_
        refine Exec.cut 0 [(1, .v (.slice a4 ((x3).length) (k4))), (6, .v (.slice a8 ((x9).length) (k8))), (8, .v (.int .i64 ((0 : Int))))] (M' := []) rfl ⟨rfl, rfl, rfl, trivial⟩ rfl rfl rfl ?_
        refine Exec.loop (fun n82 L' V' M' => ∃ (x79 : List TPair) (a80 : Option Addr) (k80 : Nat) (x81 : Int), L' = [(1, .v (.slice a4 ((x3).length) (k4))), (6, .v (.slice a80 ((x79).length) (k80))), (8, .v (.int .i64 (x81)))] ∧ M' = [] ∧ SlAt cTPair V' a80 k80 x79 ∧ SlAt cTPair V' a4 k4 x3 ∧ F_clockworkref06_Apply_L1 x3 J77 n82 x79 x81 = some r) ⟨(((((x3).length : Nat) : Int)).toNat + 1), [(1, .v (.slice a4 ((x3).length) (k4))), (6, .v (.slice a8 ((x9).length) (k8))), (8, .v (.int .i64 ((0 : Int))))], ⟨rfl, rfl, rfl, trivial⟩, x9, a8, k8, (0 : Int), rfl, rfl, hz73, h74, hF⟩ ?_
        rintro n82 L' V83 M' ⟨x79, a80, k80, x81, rfl, rfl, h80, h84, hF⟩
        rcases n82 with _ | n82
        · exact absurd hF (by simp [F_clockworkref06_Apply_L1])
        rw [F_clockworkref06_Apply_L1] at hF
        refine Exec.run tyOk 400 rfl ?_
        rcases cond_some hF with ⟨hb, hF⟩ | ⟨hb, hF⟩
        · skip
          refine Exec.ifT rfl hb ?_
          refine Exec.run tyOk 400 rfl ?_
          obtain ⟨q85, hF⟩ := req_some hF
          obtain ⟨c86, hr86, hd86⟩ := SlAt.get h84 q85
          obtain rfl := hr86
          refine Exec.ia tyOk rfl rfl ⟨q85.1, q85.2, hd86.some⟩ ?_
          refine Exec.run tyOk 400 rfl ?_
          refine Exec.ld tyOk (x := .int .i64 ((atI x3 x81).Val.Kind)) rfl rfl (RdAt.part hd86 1 1 rfl) rfl rfl ?_
          refine Exec.run tyOk 400 rfl ?_
          obtain ⟨J89, hJ89, hF⟩ := jn_some hF
          refine Exec.seam (fun L' V' M' => ∃ (x87 : List TPair) (a88 : Option Addr) (k88 : Nat), L' = [(1, .v (.slice a4 ((x3).length) (k4))), (6, .v (.slice a88 ((x87).length) (k88))), (8, .v (.int .i64 (x81)))] ∧ M' = [] ∧ SlAt cTPair V' a88 k88 x87 ∧ SlAt cTPair V' a4 k4 x3 ∧ J89 x87 = some r) rfl ?_ ?_
          · rintro L' V90 M' ⟨x87, a88, k88, rfl, rfl, h88, h91, hF⟩
            subst hJ89
            refine Exec.run tyOk 400 rfl ?_
            exact Exec.round [(1, .v (.slice a4 ((x3).length) (k4))), (6, .v (.slice a88 ((x87).length) (k88))), (8, .v (.int .i64 ((IntKind.i64.wrap (x81 + (1 : Int))))))] ⟨rfl, rfl, rfl, trivial⟩ ⟨n82, Nat.lt_succ_self _, x87, a88, k88, (IntKind.i64.wrap (x81 + (1 : Int))), rfl, rfl, h88, h91, hF⟩
          · skip
            refine Exec.run tyOk 400 rfl ?_
            rcases cond_some hF with ⟨hb, hF⟩ | ⟨hb, hF⟩
            · skip
              refine Exec.ifT rfl hb ?_
              refine Exec.run tyOk 400 rfl ?_
              obtain ⟨q92, hF⟩ := req_some hF
              obtain ⟨c93, hr93, hd93⟩ := SlAt.get h84 q92
              obtain rfl := hr93
              refine Exec.ia tyOk rfl rfl ⟨q92.1, q92.2, hd93.some⟩ ?_
              refine Exec.run tyOk 400 rfl ?_
              refine Exec.ld tyOk (x := .agg ⟨[.string ⟨⟨(atI x3 x81).Key⟩⟩, .int .i64 ((atI x3 x81).Val.Kind), .int .i64 ((atI x3 x81).Val.N), .string ⟨⟨(atI x3 x81).Val.S⟩⟩]⟩) rfl rfl hd93 rfl rfl ?_
              refine Exec.run tyOk 400 rfl ?_
              obtain ⟨x94, hx94, hF⟩ := bnd_some hF
              refine Exec.call rfl rfl (W_clockworkref06_with x79 ((atI x3 x81)) h80 hx94) ?_
              rintro V96 _ hv96 ⟨a95, k95, rfl, h95⟩
              have h97 := SlAt.mono h84 hv96
              have h98 := SlAt.mono h80 hv96
              refine Exec.run tyOk 400 rfl ?_
              exact Exec.round [(1, .v (.slice a4 ((x3).length) (k4))), (6, .v (.slice a95 ((x94).length) (k95))), (8, .v (.int .i64 (x81)))] ⟨rfl, rfl, rfl, trivial⟩ ⟨x94, a95, k95, rfl, rfl, h95, h97, hF⟩
            · skip
              refine Exec.ifF rfl hb ?_
              refine Exec.run tyOk 400 rfl ?_
              exact Exec.round [(1, .v (.slice a4 ((x3).length) (k4))), (6, .v (.slice a80 ((x79).length) (k80))), (8, .v (.int .i64 (x81)))] ⟨rfl, rfl, rfl, trivial⟩ ⟨x79, a80, k80, rfl, rfl, h80, h84, hF⟩
        · skip
          refine Exec.ifF rfl hb ?_
          refine Exec.run tyOk 400 rfl ?_
          exact Exec.round [(6, .v (.slice a80 ((x79).length) (k80)))] ⟨rfl, trivial⟩ ⟨x79, a80, k80, rfl, rfl, h80, hF⟩
    · skip
      refine Exec.run tyOk 400 rfl ?_
      refine Exec.loop (fun n104 L' V' M' => ∃ (x102 : List TPair) (a101 : Option Addr) (k101 : Nat) (cs101 : List Value) (x103 : Int), L' = [(0, .v (.slice a2 ((x1).length) (k2))), (1, .v (.slice a4 ((x3).length) (k4))), (6, .v (.slice a101 ((x102).length) (k101))), (7, .v (.int .i64 (x103)))] ∧ M' = [.row (.slice a101 ((x102).length) (k101)) cs101 70 4] ∧ RowRep cTPair V' x102 cs101 ∧ SlAt cTPair V' a2 k2 x1 ∧ SlAt cTPair V' a4 k4 x3 ∧ F_clockworkref06_Apply_L2 x1 x3 J10 n104 x102 x103 = some r) ⟨(((((x1).length : Nat) : Int)).toNat + 1), [(0, .v (.slice a2 ((x1).length) (k2))), (1, .v (.slice a4 ((x3).length) (k4))), (6, .v (.slice none ((([] : List TPair)).length) (0))), (7, .v (.int .i64 ((0 : Int))))], ⟨rfl, rfl, rfl, rfl, trivial⟩, ([] : List TPair), none, 0, [], (0 : Int), rfl, rfl, h7, h2, h4, hF⟩ ?_
      rintro n104 L' V105 M' ⟨x102, a101, k101, cs101, x103, rfl, rfl, h101, h106, h107, hF⟩
      rcases n104 with _ | n104
      · exact absurd hF (by simp [F_clockworkref06_Apply_L2])
      rw [F_clockworkref06_Apply_L2] at hF
      refine Exec.run tyOk 400 rfl ?_
      rcases cond_some hF with ⟨hb, hF⟩ | ⟨hb, hF⟩
      · skip
        refine Exec.ifT rfl hb ?_
        refine Exec.run tyOk 400 rfl ?_
        obtain ⟨q108, hF⟩ := req_some hF
        obtain ⟨c109, hr109, hd109⟩ := SlAt.get h106 q108
        obtain rfl := hr109
        refine Exec.ia tyOk rfl rfl ⟨q108.1, q108.2, hd109.some⟩ ?_
        refine Exec.run tyOk 400 rfl ?_
        refine Exec.ld tyOk (x := .string ⟨⟨(atI x1 x103).Key⟩⟩) rfl rfl (RdAt.part hd109 0 1 rfl) rfl rfl ?_
        refine Exec.run tyOk 400 rfl ?_
        obtain ⟨x110, hx110, hF⟩ := bnd_some hF
        refine Exec.callS (.bool (x110)) rfl rfl (W_clockworkref06_Has x3 ((atI x1 x103).Key) h107 hx110) ?_
        refine Exec.run tyOk 400 rfl ?_
        obtain ⟨J113, hJ113, hF⟩ := jn_some hF
        refine Exec.seam (fun L' V' M' => ∃ (x112 : List TPair) (a111 : Option Addr) (k111 : Nat) (cs111 : List Value), L' = [(0, .v (.slice a2 ((x1).length) (k2))), (1, .v (.slice a4 ((x3).length) (k4))), (6, .v (.slice a111 ((x112).length) (k111))), (7, .v (.int .i64 (x103)))] ∧ M' = [.row (.slice a111 ((x112).length) (k111)) cs111 70 4] ∧ RowRep cTPair V' x112 cs111 ∧ SlAt cTPair V' a2 k2 x1 ∧ SlAt cTPair V' a4 k4 x3 ∧ J113 x112 = some r) rfl ?_ ?_
        · rintro L' V114 M' ⟨x112, a111, k111, cs111, rfl, rfl, h111, h115, h116, hF⟩
          subst hJ113
          refine Exec.run tyOk 400 rfl ?_
          exact Exec.round [(0, .v (.slice a2 ((x1).length) (k2))), (1, .v (.slice a4 ((x3).length) (k4))), (6, .v (.slice a111 ((x112).length) (k111))), (7, .v (.int .i64 ((IntKind.i64.wrap (x103 + (1 : Int))))))] ⟨rfl, rfl, rfl, rfl, trivial⟩ ⟨n104, Nat.lt_succ_self _, x112, a111, k111, cs111, (IntKind.i64.wrap (x103 + (1 : Int))), rfl, rfl, h111, h115, h116, hF⟩
        · skip
          refine Exec.run tyOk 400 rfl ?_
          rcases cond_some hF with ⟨hb, hF⟩ | ⟨hb, hF⟩
          · skip
            refine Exec.ifT rfl hb ?_
            refine Exec.run tyOk 400 rfl ?_
            obtain ⟨q117, hF⟩ := req_some hF
            obtain ⟨c118, hr118, hd118⟩ := SlAt.get h106 q117
            obtain rfl := hr118
            refine Exec.ia tyOk rfl rfl ⟨q117.1, q117.2, hd118.some⟩ ?_
            refine Exec.run tyOk 400 rfl ?_
            refine Exec.ld tyOk (x := .agg ⟨[.string ⟨⟨(atI x1 x103).Key⟩⟩, .int .i64 ((atI x1 x103).Val.Kind), .int .i64 ((atI x1 x103).Val.N), .string ⟨⟨(atI x1 x103).Val.S⟩⟩]⟩) rfl rfl hd118 rfl rfl ?_
            refine Exec.run tyOk 400 rfl ?_
            refine Exec.bsl tyOk rfl rfl ?_
            refine Exec.run tyOk 400 rfl ?_
            obtain ⟨q120, hF⟩ := req_some hF
            refine Exec.app tyOk 0 1 (nm := ((x102 ++ [(atI x1 x103)])).length) rfl rfl rfl rfl rfl rfl rfl rfl rfl (by simp) (fun _ _ => rfl) rfl q120 (fun a119 k119 => ?_)
            have h119 : RowRep cTPair V105 (x102 ++ [(atI x1 x103)]) (cs101 ++ [.string ⟨⟨(atI x1 x103).Key⟩⟩, .int .i64 ((atI x1 x103).Val.Kind), .int .i64 ((atI x1 x103).Val.N), .string ⟨⟨(atI x1 x103).Val.S⟩⟩]) := RowRep.app h101 ⟨_, _, rfl, rfl, rfl⟩
            refine Exec.run tyOk 400 rfl ?_
            refine Exec.cut 1 [(0, .v (.slice a2 ((x1).length) (k2))), (1, .v (.slice a4 ((x3).length) (k4))), (6, .v (.slice a119 (((x102 ++ [(atI x1 x103)])).length) (k119))), (7, .v (.int .i64 (x103)))] (M' := [.row (.slice a119 (((x102 ++ [(atI x1 x103)])).length) (k119)) ((cs101 ++ [.string ⟨⟨(atI x1 x103).Key⟩⟩, .int .i64 ((atI x1 x103).Val.Kind), .int .i64 ((atI x1 x103).Val.N), .string ⟨⟨(atI x1 x103).Val.S⟩⟩])) 70 4]) rfl ⟨rfl, rfl, rfl, rfl, trivial⟩ rfl rfl rfl ?_
            exact Exec.round [(0, .v (.slice a2 ((x1).length) (k2))), (1, .v (.slice a4 ((x3).length) (k4))), (6, .v (.slice a119 (((x102 ++ [(atI x1 x103)])).length) (k119))), (7, .v (.int .i64 (x103)))] ⟨rfl, rfl, rfl, rfl, trivial⟩ ⟨(x102 ++ [(atI x1 x103)]), a119, k119, (cs101 ++ [.string ⟨⟨(atI x1 x103).Key⟩⟩, .int .i64 ((atI x1 x103).Val.Kind), .int .i64 ((atI x1 x103).Val.N), .string ⟨⟨(atI x1 x103).Val.S⟩⟩]), rfl, rfl, h119, h106, h107, hF⟩
          · skip
            refine Exec.ifF rfl hb ?_
            refine Exec.run tyOk 400 rfl ?_
            exact Exec.round [(0, .v (.slice a2 ((x1).length) (k2))), (1, .v (.slice a4 ((x3).length) (k4))), (6, .v (.slice a101 ((x102).length) (k101))), (7, .v (.int .i64 (x103)))] ⟨rfl, rfl, rfl, rfl, trivial⟩ ⟨x102, a101, k101, cs101, rfl, rfl, h101, h106, h107, hF⟩
      · skip
        refine Exec.ifF rfl hb ?_
        refine Exec.run tyOk 400 rfl ?_
        exact Exec.round [(1, .v (.slice a4 ((x3).length) (k4))), (6, .v (.slice a101 ((x102).length) (k101)))] ⟨rfl, rfl, trivial⟩ ⟨x102, a101, k101, cs101, rfl, rfl, h101, h107, hF⟩

def F_clockworkref31_Shards_L2 (x3 : List TPair) (x20 : Int) (x5 : List Int) (x1 : TPlacement) (J33 : (List TShard) → (List TPair) → Option (List TShard)) : Nat → (List TShard) → (List TPair) → Int → Option (List TShard)
  | 0, _, _, _ => none
  | n50 + 1, x46, x48, x49 => (cond (decide (x49 < (((x3).length : Nat) : Int))) (req (0 ≤ x49 ∧ x49 < ((x3).length : Int)) (req (0 ≤ x20 ∧ x20 < ((x5).length : Int)) (bnd (F_clockworkref29_Owner x1 ((atI x3 x49).Key)) fun x59 => (jn (fun (x61 : List TShard) (x63 : List TPair) => (F_clockworkref31_Shards_L2 x3 x20 x5 x1 J33 n50 x61 x63 ((IntKind.i64.wrap (x49 + (1 : Int)))))) (fun J64 => (cond (x59 == (atI x5 x20)) (req (0 ≤ x49 ∧ x49 < ((x3).length : Int)) (req (((x48 ++ [(atI x3 x49)])).length * 48 ≤ 140737488355328) (J64 x46 ((x48 ++ [(atI x3 x49)]))))) (J64 x46 x48))))))) (J33 x46 x48))

def F_clockworkref31_Shards_L1 (x5 : List Int) (x3 : List TPair) (x1 : TPlacement) (J13 : (List TShard) → Option (List TShard)) : Nat → (List TShard) → Int → Option (List TShard)
  | 0, _, _ => none
  | n21 + 1, x19, x20 => (cond (decide (x20 < (((x5).length : Nat) : Int))) (req (0 ≤ x20 ∧ x20 < ((x5).length : Int)) (jn (fun (x30 : List TShard) (x32 : List TPair) => (req (((x30 ++ [(⟨(atI x5 x20), x32⟩ : TShard)])).length * 32 ≤ 140737488355328) (F_clockworkref31_Shards_L1 x5 x3 x1 J13 n21 ((x30 ++ [(⟨(atI x5 x20), x32⟩ : TShard)])) ((IntKind.i64.wrap (x20 + (1 : Int))))))) (fun J33 => (F_clockworkref31_Shards_L2 x3 x20 x5 x1 J33 (((((x3).length : Nat) : Int)).toNat + 1) x19 (([] : List TPair)) ((0 : Int)))))) (J13 x19))

def F_clockworkref31_Shards (x1 : TPlacement) (x3 : List TPair) : Option (List TShard) :=
  (bnd (F_clockworkref29_Nodes x1) fun x5 => (jn (fun (x12 : List TShard) => (some x12)) (fun J13 => (F_clockworkref31_Shards_L1 x5 x3 x1 J13 (((((x5).length : Nat) : Int)).toNat + 1) (([] : List TShard)) ((0 : Int))))))

set_option maxRecDepth 100000 in
theorem W_clockworkref31_Shards {V : View} (x1 : TPlacement) (x3 : List TPair) {a2 : Option Addr} {k2 : Nat} {a4 : Option Addr} {k4 : Nat} (h2 : SlAt cTPart V a2 k2 x1.Parts) (h4 : SlAt cTPair V a4 k4 x3) {r : List TShard} (hF : F_clockworkref31_Shards x1 x3 = some r) :
    Spec Tryz.prog 15 [.agg ⟨[.int .i64 (x1.Version), .slice a2 ((x1.Parts).length) (k2)]⟩, .slice a4 ((x3).length) (k4)] V (fun V' v => ∃ (a73 : Option Addr) (k73 : Nat), v = .slice a73 ((r).length) (k73) ∧ SlAt cTShard V' a73 k73 r) := by
  unfold F_clockworkref31_Shards at hF
  refine Spec.enter (T := tyT) Tryz.func15 rfl (by kernel_rfl) rfl rfl rfl ?_
  refine Exec.run tyOk 400 rfl ?_
  obtain ⟨x5, hx5, hF⟩ := bnd_some hF
  refine Exec.call rfl rfl (W_clockworkref29_Nodes x1 h2 hx5) ?_
  rintro V7 _ hv7 ⟨a6, k6, rfl, h6⟩
  have h8 := SlAt.mono h2 hv7
  have h9 := SlAt.mono h4 hv7
  refine Exec.run tyOk 11 rfl ?_
  refine Exec.row0 40 2 rfl ?_
  have h10 : RowRep cTShard V7 ([] : List TShard) [] := RowRep.nil
  obtain ⟨J13, hJ13, hF⟩ := jn_some hF
  refine Exec.seam (fun L' V' M' => ∃ (x12 : List TShard) (a11 : Option Addr) (k11 : Nat) (cs11 : List Value), L' = [(6, .v (.slice a11 ((x12).length) (k11)))] ∧ M' = [.blk [.v (.int .i64 (x1.Version)), .v (.slice a2 ((x1.Parts).length) (k2))] 24, .row (.slice a11 ((x12).length) (k11)) cs11 40 2] ∧ RowRep cTShard V' x12 cs11 ∧ SlAt cTPart V' a2 k2 x1.Parts ∧ J13 x12 = some r) rfl ?_ ?_
  · rintro L' V14 M' ⟨x12, a11, k11, cs11, rfl, rfl, h11, h15, hF⟩
    subst hJ13
    refine Exec.run tyOk 400 rfl ?_
    refine Exec.frz 1 rfl rfl rfl (fun V16 hv16 hd16 hn16 => ?_)
    have hz16 := RowRep.slat h11 hv16 hd16 hn16
    have h17 := SlAt.mono h15 hv16
    obtain rfl := some_inj hF
    exact Exec.ret tyOk rfl rfl ⟨_, _, rfl, hz16⟩
  · skip
    refine Exec.run tyOk 400 rfl ?_
    refine Exec.loop (fun n21 L' V' M' => ∃ (x19 : List TShard) (a18 : Option Addr) (k18 : Nat) (cs18 : List Value) (x20 : Int), L' = [(1, .v (.slice a4 ((x3).length) (k4))), (2, .ptr 0 0), (5, .v (.slice a6 ((x5).length) (k6))), (6, .v (.slice a18 ((x19).length) (k18))), (7, .v (.int .i64 (x20)))] ∧ M' = [.blk [.v (.int .i64 (x1.Version)), .v (.slice a2 ((x1.Parts).length) (k2))] 24, .row (.slice a18 ((x19).length) (k18)) cs18 40 2] ∧ RowRep cTShard V' x19 cs18 ∧ SlAt cTPair V' a4 k4 x3 ∧ SlAt (cInt .i64) V' a6 k6 x5 ∧ SlAt cTPart V' a2 k2 x1.Parts ∧ F_clockworkref31_Shards_L1 x5 x3 x1 J13 n21 x19 x20 = some r) ⟨(((((x5).length : Nat) : Int)).toNat + 1), [(1, .v (.slice a4 ((x3).length) (k4))), (2, .ptr 0 0), (5, .v (.slice a6 ((x5).length) (k6))), (6, .v (.slice none ((([] : List TShard)).length) (0))), (7, .v (.int .i64 ((0 : Int))))], ⟨rfl, rfl, rfl, rfl, rfl, trivial⟩, ([] : List TShard), none, 0, [], (0 : Int), rfl, rfl, h10, h9, h6, h8, hF⟩ ?_
    rintro n21 L' V22 M' ⟨x19, a18, k18, cs18, x20, rfl, rfl, h18, h23, h24, h25, hF⟩
    rcases n21 with _ | n21
    · exact absurd hF (by simp [F_clockworkref31_Shards_L1])
    rw [F_clockworkref31_Shards_L1] at hF
    refine Exec.run tyOk 400 rfl ?_
    rcases cond_some hF with ⟨hb, hF⟩ | ⟨hb, hF⟩
    · skip
      refine Exec.ifT rfl hb ?_
      refine Exec.run tyOk 400 rfl ?_
      obtain ⟨q26, hF⟩ := req_some hF
      obtain ⟨c27, hr27, hd27⟩ := SlAt.get h24 q26
      obtain rfl := hr27
      refine Exec.ia tyOk rfl rfl ⟨q26.1, q26.2, hd27.some⟩ ?_
      refine Exec.run tyOk 400 rfl ?_
      refine Exec.ld tyOk (x := .int .i64 ((atI x5 x20))) rfl rfl hd27 rfl rfl ?_
      refine Exec.run tyOk 9 rfl ?_
      refine Exec.row0 70 4 rfl ?_
      have h28 : RowRep cTPair V22 ([] : List TPair) [] := RowRep.nil
      obtain ⟨J33, hJ33, hF⟩ := jn_some hF
      refine Exec.seam (fun L' V' M' => ∃ (x30 : List TShard) (a29 : Option Addr) (k29 : Nat) (cs29 : List Value) (x32 : List TPair) (a31 : Option Addr) (k31 : Nat) (cs31 : List Value), L' = [(1, .v (.slice a4 ((x3).length) (k4))), (2, .ptr 0 0), (5, .v (.slice a6 ((x5).length) (k6))), (6, .v (.slice a29 ((x30).length) (k29))), (7, .v (.int .i64 (x20))), (8, .ptr 2 0)] ∧ M' = [.blk [.v (.int .i64 (x1.Version)), .v (.slice a2 ((x1.Parts).length) (k2))] 24, .row (.slice a29 ((x30).length) (k29)) cs29 40 2, .blk [.v (.int .i64 ((atI x5 x20))), .v (.slice a31 ((x32).length) (k31))] 40, .row (.slice a31 ((x32).length) (k31)) cs31 70 4] ∧ RowRep cTShard V' x30 cs29 ∧ RowRep cTPair V' x32 cs31 ∧ SlAt cTPair V' a4 k4 x3 ∧ SlAt (cInt .i64) V' a6 k6 x5 ∧ SlAt cTPart V' a2 k2 x1.Parts ∧ J33 x30 x32 = some r) rfl ?_ ?_
      · rintro L' V34 M' ⟨x30, a29, k29, cs29, x32, a31, k31, cs31, rfl, rfl, h29, h31, h35, h36, h37, hF⟩
        subst hJ33
        refine Exec.run tyOk 400 rfl ?_
        refine Exec.frz 3 rfl rfl rfl (fun V38 hv38 hd38 hn38 => ?_)
        have hz38 := RowRep.slat h31 hv38 hd38 hn38
        have h39 := SlAt.mono h35 hv38
        have h40 := SlAt.mono h36 hv38
        have h41 := SlAt.mono h37 hv38
        have h42 := RowRep.mono hv38 h29
        refine Exec.bsl tyOk rfl rfl ?_
        refine Exec.run tyOk 400 rfl ?_
        obtain ⟨q44, hF⟩ := req_some hF
        refine Exec.app tyOk 1 4 (nm := ((x30 ++ [(⟨(atI x5 x20), x32⟩ : TShard)])).length) rfl rfl rfl rfl rfl rfl rfl rfl rfl (by simp) (fun _ _ => rfl) rfl q44 (fun a43 k43 => ?_)
        have h43 : RowRep cTShard V38 (x30 ++ [(⟨(atI x5 x20), x32⟩ : TShard)]) (cs29 ++ [.int .i64 ((atI x5 x20)), .slice a31 ((x32).length) (k31)]) := RowRep.app h42 ⟨_, _, rfl, ⟨_, _, rfl, hz38⟩, rfl⟩
        refine Exec.run tyOk 400 rfl ?_
        refine Exec.cut 2 [(1, .v (.slice a4 ((x3).length) (k4))), (2, .ptr 0 0), (5, .v (.slice a6 ((x5).length) (k6))), (6, .v (.slice a43 (((x30 ++ [(⟨(atI x5 x20), x32⟩ : TShard)])).length) (k43))), (7, .v (.int .i64 ((IntKind.i64.wrap (x20 + (1 : Int))))))] (M' := [.blk [.v (.int .i64 (x1.Version)), .v (.slice a2 ((x1.Parts).length) (k2))] 24, .row (.slice a43 (((x30 ++ [(⟨(atI x5 x20), x32⟩ : TShard)])).length) (k43)) ((cs29 ++ [.int .i64 ((atI x5 x20)), .slice a31 ((x32).length) (k31)])) 40 2]) rfl ⟨rfl, rfl, rfl, rfl, rfl, trivial⟩ rfl rfl rfl ?_
        exact Exec.round [(1, .v (.slice a4 ((x3).length) (k4))), (2, .ptr 0 0), (5, .v (.slice a6 ((x5).length) (k6))), (6, .v (.slice a43 (((x30 ++ [(⟨(atI x5 x20), x32⟩ : TShard)])).length) (k43))), (7, .v (.int .i64 ((IntKind.i64.wrap (x20 + (1 : Int))))))] ⟨rfl, rfl, rfl, rfl, rfl, trivial⟩ ⟨n21, Nat.lt_succ_self _, (x30 ++ [(⟨(atI x5 x20), x32⟩ : TShard)]), a43, k43, (cs29 ++ [.int .i64 ((atI x5 x20)), .slice a31 ((x32).length) (k31)]), (IntKind.i64.wrap (x20 + (1 : Int))), rfl, rfl, h43, h39, h40, h41, hF⟩
      · skip
        refine Exec.run tyOk 400 rfl ?_
        refine Exec.loop (fun n50 L' V' M' => ∃ (x46 : List TShard) (a45 : Option Addr) (k45 : Nat) (cs45 : List Value) (x48 : List TPair) (a47 : Option Addr) (k47 : Nat) (cs47 : List Value) (x49 : Int), L' = [(1, .v (.slice a4 ((x3).length) (k4))), (2, .ptr 0 0), (5, .v (.slice a6 ((x5).length) (k6))), (6, .v (.slice a45 ((x46).length) (k45))), (7, .v (.int .i64 (x20))), (8, .ptr 2 0), (9, .v (.int .i64 (x49)))] ∧ M' = [.blk [.v (.int .i64 (x1.Version)), .v (.slice a2 ((x1.Parts).length) (k2))] 24, .row (.slice a45 ((x46).length) (k45)) cs45 40 2, .blk [.v (.int .i64 ((atI x5 x20))), .v (.slice a47 ((x48).length) (k47))] 40, .row (.slice a47 ((x48).length) (k47)) cs47 70 4] ∧ RowRep cTShard V' x46 cs45 ∧ RowRep cTPair V' x48 cs47 ∧ SlAt cTPair V' a4 k4 x3 ∧ SlAt (cInt .i64) V' a6 k6 x5 ∧ SlAt cTPart V' a2 k2 x1.Parts ∧ F_clockworkref31_Shards_L2 x3 x20 x5 x1 J33 n50 x46 x48 x49 = some r) ⟨(((((x3).length : Nat) : Int)).toNat + 1), [(1, .v (.slice a4 ((x3).length) (k4))), (2, .ptr 0 0), (5, .v (.slice a6 ((x5).length) (k6))), (6, .v (.slice a18 ((x19).length) (k18))), (7, .v (.int .i64 (x20))), (8, .ptr 2 0), (9, .v (.int .i64 ((0 : Int))))], ⟨rfl, rfl, rfl, rfl, rfl, rfl, rfl, trivial⟩, x19, a18, k18, cs18, ([] : List TPair), none, 0, [], (0 : Int), rfl, rfl, h18, h28, h23, h24, h25, hF⟩ ?_
        rintro n50 L' V51 M' ⟨x46, a45, k45, cs45, x48, a47, k47, cs47, x49, rfl, rfl, h45, h47, h52, h53, h54, hF⟩
        rcases n50 with _ | n50
        · exact absurd hF (by simp [F_clockworkref31_Shards_L2])
        rw [F_clockworkref31_Shards_L2] at hF
        refine Exec.run tyOk 400 rfl ?_
        rcases cond_some hF with ⟨hb, hF⟩ | ⟨hb, hF⟩
        · skip
          refine Exec.ifT rfl hb ?_
          refine Exec.run tyOk 400 rfl ?_
          refine Exec.draws tyOk [(0, true), (1, true), (2, true), (3, true), (4, true), (5, true), (7, true), (8, true), (9, true), (10, true), (6, false), (11, false)] rfl (by kernel_rfl) ?_
          refine Exec.run tyOk 400 rfl ?_
          obtain ⟨q55, hF⟩ := req_some hF
          obtain ⟨c56, hr56, hd56⟩ := SlAt.get h52 q55
          obtain rfl := hr56
          refine Exec.fia tyOk rfl rfl rfl ⟨q55.1, q55.2, hd56.some⟩ ?_
          refine Exec.run tyOk 400 rfl ?_
          refine Exec.fld tyOk (x := .string ⟨⟨(atI x3 x49).Key⟩⟩) rfl rfl rfl (RdAt.part hd56 0 1 rfl) rfl rfl ?_
          refine Exec.run tyOk 400 rfl ?_
          obtain ⟨q57, hF⟩ := req_some hF
          obtain ⟨c58, hr58, hd58⟩ := SlAt.get h53 q57
          obtain rfl := hr58
          refine Exec.fia tyOk rfl rfl rfl ⟨q57.1, q57.2, hd58.some⟩ ?_
          refine Exec.run tyOk 400 rfl ?_
          refine Exec.fld tyOk (x := .int .i64 ((atI x5 x20))) rfl rfl rfl hd58 rfl rfl ?_
          refine Exec.run tyOk 400 rfl ?_
          obtain ⟨x59, hx59, hF⟩ := bnd_some hF
          refine Exec.callS (.int .i64 (x59)) rfl rfl (W_clockworkref29_Owner x1 ((atI x3 x49).Key) h54 hx59) ?_
          refine Exec.run tyOk 400 rfl ?_
          obtain ⟨J64, hJ64, hF⟩ := jn_some hF
          refine Exec.seam (fun L' V' M' => ∃ (x61 : List TShard) (a60 : Option Addr) (k60 : Nat) (cs60 : List Value) (x63 : List TPair) (a62 : Option Addr) (k62 : Nat) (cs62 : List Value), L' = [(1, .v (.slice a4 ((x3).length) (k4))), (2, .ptr 0 0), (5, .v (.slice a6 ((x5).length) (k6))), (6, .v (.slice a60 ((x61).length) (k60))), (7, .v (.int .i64 (x20))), (8, .ptr 2 0), (9, .v (.int .i64 (x49)))] ∧ M' = [.blk [.v (.int .i64 (x1.Version)), .v (.slice a2 ((x1.Parts).length) (k2))] 24, .row (.slice a60 ((x61).length) (k60)) cs60 40 2, .blk [.v (.int .i64 ((atI x5 x20))), .v (.slice a62 ((x63).length) (k62))] 40, .row (.slice a62 ((x63).length) (k62)) cs62 70 4] ∧ RowRep cTShard V' x61 cs60 ∧ RowRep cTPair V' x63 cs62 ∧ SlAt cTPair V' a4 k4 x3 ∧ SlAt (cInt .i64) V' a6 k6 x5 ∧ SlAt cTPart V' a2 k2 x1.Parts ∧ J64 x61 x63 = some r) rfl ?_ ?_
          · rintro L' V65 M' ⟨x61, a60, k60, cs60, x63, a62, k62, cs62, rfl, rfl, h60, h62, h66, h67, h68, hF⟩
            subst hJ64
            refine Exec.run tyOk 400 rfl ?_
            exact Exec.round [(1, .v (.slice a4 ((x3).length) (k4))), (2, .ptr 0 0), (5, .v (.slice a6 ((x5).length) (k6))), (6, .v (.slice a60 ((x61).length) (k60))), (7, .v (.int .i64 (x20))), (8, .ptr 2 0), (9, .v (.int .i64 ((IntKind.i64.wrap (x49 + (1 : Int))))))] ⟨rfl, rfl, rfl, rfl, rfl, rfl, rfl, trivial⟩ ⟨n50, Nat.lt_succ_self _, x61, a60, k60, cs60, x63, a62, k62, cs62, (IntKind.i64.wrap (x49 + (1 : Int))), rfl, rfl, h60, h62, h66, h67, h68, hF⟩
          · skip
            refine Exec.run tyOk 400 rfl ?_
            rcases cond_some hF with ⟨hb, hF⟩ | ⟨hb, hF⟩
            · skip
              refine Exec.ifT rfl hb ?_
              refine Exec.run tyOk 400 rfl ?_
              refine Exec.drawsE tyOk [9] [3] [(0, true), (1, true), (2, true), (3, true), (4, true), (5, true), (6, false), (7, false), (8, true), (9, false)] (by kernel_rfl) ?_
              refine Exec.run tyOk 400 rfl ?_
              obtain ⟨q69, hF⟩ := req_some hF
              obtain ⟨c70, hr70, hd70⟩ := SlAt.get h52 q69
              obtain rfl := hr70
              refine Exec.fia tyOk rfl rfl rfl ⟨q69.1, q69.2, hd70.some⟩ ?_
              refine Exec.run tyOk 400 rfl ?_
              refine Exec.fld tyOk (x := .agg ⟨[.string ⟨⟨(atI x3 x49).Key⟩⟩, .int .i64 ((atI x3 x49).Val.Kind), .int .i64 ((atI x3 x49).Val.N), .string ⟨⟨(atI x3 x49).Val.S⟩⟩]⟩) rfl rfl rfl hd70 rfl rfl ?_
              refine Exec.run tyOk 400 rfl ?_
              refine Exec.bsl tyOk rfl rfl ?_
              refine Exec.run tyOk 400 rfl ?_
              obtain ⟨q72, hF⟩ := req_some hF
              refine Exec.app tyOk 3 4 (nm := ((x48 ++ [(atI x3 x49)])).length) rfl rfl rfl rfl rfl rfl rfl rfl rfl (by simp) (fun _ _ => rfl) rfl q72 (fun a71 k71 => ?_)
              have h71 : RowRep cTPair V51 (x48 ++ [(atI x3 x49)]) (cs47 ++ [.string ⟨⟨(atI x3 x49).Key⟩⟩, .int .i64 ((atI x3 x49).Val.Kind), .int .i64 ((atI x3 x49).Val.N), .string ⟨⟨(atI x3 x49).Val.S⟩⟩]) := RowRep.app h47 ⟨_, _, rfl, rfl, rfl⟩
              refine Exec.run tyOk 400 rfl ?_
              refine Exec.cut 4 [(1, .v (.slice a4 ((x3).length) (k4))), (2, .ptr 0 0), (5, .v (.slice a6 ((x5).length) (k6))), (6, .v (.slice a45 ((x46).length) (k45))), (7, .v (.int .i64 (x20))), (8, .ptr 2 0), (9, .v (.int .i64 (x49)))] (M' := [.blk [.v (.int .i64 (x1.Version)), .v (.slice a2 ((x1.Parts).length) (k2))] 24, .row (.slice a45 ((x46).length) (k45)) cs45 40 2, .blk [.v (.int .i64 ((atI x5 x20))), .v (.slice a71 (((x48 ++ [(atI x3 x49)])).length) (k71))] 40, .row (.slice a71 (((x48 ++ [(atI x3 x49)])).length) (k71)) ((cs47 ++ [.string ⟨⟨(atI x3 x49).Key⟩⟩, .int .i64 ((atI x3 x49).Val.Kind), .int .i64 ((atI x3 x49).Val.N), .string ⟨⟨(atI x3 x49).Val.S⟩⟩])) 70 4]) rfl ⟨rfl, rfl, rfl, rfl, rfl, rfl, rfl, trivial⟩ rfl rfl rfl ?_
              exact Exec.round [(1, .v (.slice a4 ((x3).length) (k4))), (2, .ptr 0 0), (5, .v (.slice a6 ((x5).length) (k6))), (6, .v (.slice a45 ((x46).length) (k45))), (7, .v (.int .i64 (x20))), (8, .ptr 2 0), (9, .v (.int .i64 (x49)))] ⟨rfl, rfl, rfl, rfl, rfl, rfl, rfl, trivial⟩ ⟨x46, a45, k45, cs45, (x48 ++ [(atI x3 x49)]), a71, k71, (cs47 ++ [.string ⟨⟨(atI x3 x49).Key⟩⟩, .int .i64 ((atI x3 x49).Val.Kind), .int .i64 ((atI x3 x49).Val.N), .string ⟨⟨(atI x3 x49).Val.S⟩⟩]), rfl, rfl, h45, h71, h52, h53, h54, hF⟩
            · skip
              refine Exec.ifF rfl hb ?_
              refine Exec.run tyOk 400 rfl ?_
              exact Exec.round [(1, .v (.slice a4 ((x3).length) (k4))), (2, .ptr 0 0), (5, .v (.slice a6 ((x5).length) (k6))), (6, .v (.slice a45 ((x46).length) (k45))), (7, .v (.int .i64 (x20))), (8, .ptr 2 0), (9, .v (.int .i64 (x49)))] ⟨rfl, rfl, rfl, rfl, rfl, rfl, rfl, trivial⟩ ⟨x46, a45, k45, cs45, x48, a47, k47, cs47, rfl, rfl, h45, h47, h52, h53, h54, hF⟩
        · skip
          refine Exec.ifF rfl hb ?_
          refine Exec.run tyOk 400 rfl ?_
          exact Exec.round [(1, .v (.slice a4 ((x3).length) (k4))), (2, .ptr 0 0), (5, .v (.slice a6 ((x5).length) (k6))), (6, .v (.slice a45 ((x46).length) (k45))), (7, .v (.int .i64 (x20))), (8, .ptr 2 0)] ⟨rfl, rfl, rfl, rfl, rfl, rfl, trivial⟩ ⟨x46, a45, k45, cs45, x48, a47, k47, cs47, rfl, rfl, h45, h47, h52, h53, h54, hF⟩
    · skip
      refine Exec.ifF rfl hb ?_
      refine Exec.run tyOk 400 rfl ?_
      exact Exec.round [(6, .v (.slice a18 ((x19).length) (k18)))] ⟨rfl, trivial⟩ ⟨x19, a18, k18, cs18, rfl, rfl, h18, h25, hF⟩

section
open Go.RowKit Go.Proofs

def ownerAll (x5 : TPlacement) : List Str → Option (List Int)
  | [] => some []
  | k :: l => bnd (F_placement_Owner x5 k) fun y => bnd (ownerAll x5 l) fun r => some (y :: r)

theorem ownerAll_app {x5 : TPlacement} : ∀ {l1 l2 : List Str} {r : List Int}, ownerAll x5 (l1 ++ l2) = some r → ∃ r1 r2, ownerAll x5 l1 = some r1 ∧ ownerAll x5 l2 = some r2 ∧ r = r1 ++ r2
  | [], l2, r, h => ⟨[], r, rfl, h, rfl⟩
  | k :: l1, l2, r, h => by
    simp only [List.cons_append, ownerAll] at h ⊢
    obtain ⟨y, hy, h⟩ := bnd_some h
    obtain ⟨q, hq, h⟩ := bnd_some h
    obtain rfl := some_inj h
    obtain ⟨r1, r2, e1, e2, rfl⟩ := ownerAll_app hq
    exact ⟨y :: r1, r2, by rw [hy, e1]; rfl, e2, rfl⟩

theorem drop_at {α : Type} [Inhabited α] (l : List α) (i : Int) (hi : 0 ≤ i ∧ i < (l.length : Int)) : l.drop i.toNat = atI l i :: l.drop (i + 1).toNat := by
  have h : i.toNat < l.length := by omega
  rw [List.drop_eq_getElem_cons h, show (i + 1).toNat = i.toNat + 1 by omega]
  congr 1
  simp [atI, List.getD_eq_getElem?_getD, h]

def mu (s : Nat) (n : Nat) (a : Act) : Nat := match a.tmps[s]? with
  | some (.int _ i) => ((n : Int) - i).toNat
  | _ => 0

theorem ItSt.mu {V : View} {w0 : World} {J : List Int → World → Prop} {nt : Nat} {L : Fr} {pre : List Int} {a : Act} {w : World} (h : ItSt V w0 J nt L pre a w) {s : Nat} {i : Int} (n : Nat) (hs : lookL L s = some (.v (.int .i64 i))) :
    Go.Proofs.YtcgmfmpfmfjmoaaGreat.mu s n a = ((n : Int) - i).toNat := by
  have h1 : a.tmps[s]? = some (.int .i64 i) := (h.lk s _ hs).1
  simp [Go.Proofs.YtcgmfmpfmfjmoaaGreat.mu, h1]

set_option maxRecDepth 100000 in
theorem X_owners1 {V : View} (x3 : List (List Str)) (x5 : TPlacement) {a4 : Option Addr} {k4 : Nat} {b0 : Nat} {a6 : Option Addr} {k6 : Nat} {b1 : Nat} (h4 : SlAt (cSl cStr) V a4 k4 x3) (hc0 : RdAt V (some ⟨b0, 0, none⟩) 0 [.slice a4 ((x3).length) (k4)])
    (h6 : SlAt cTPart V a6 k6 x5.Parts) (hc1 : RdAt V (some ⟨b1, 0, none⟩) 0 [.int .i64 (x5.Version), .slice a6 ((x5.Parts).length) (k6)]) (hm3 : x3.length < 9223372036854775807) (hm5 : ∀ l ∈ x3, l.length < 9223372036854775807) {xs : List Int} (hF : ownerAll x5 x3.flatten = some xs) (w0 : World) (hw0 : Holds V w0) :
    SeqB Tryz.prog 104 #[.pointer (some ⟨b0, 0, none⟩), .pointer (some ⟨b1, 0, none⟩)] xs w0 := by
  intro l J W hBW hJ hY h0
  have hV : Holds V W := holds_below hw0 hBW
  have e : (#[Value.func (.yield l) #[] #[]] ++ #[Value.pointer (some ⟨b0, 0, none⟩), Value.pointer (some ⟨b1, 0, none⟩)] : Array Value) = ⟨[Value.func (.yield l) #[] #[], Value.pointer (some ⟨b0, 0, none⟩), Value.pointer (some ⟨b1, 0, none⟩)]⟩ := by simp
  rw [e]
  refine (callsIn_wide (n := 0)).1 (callsIn_of_wp Tryz.func104 rfl trivial ?_)
  have s0 : ItSt V w0 J 28 [(0, .v (.func (.yield l) #[] #[])), (1, .v (.pointer (some ⟨b0, 0, none⟩))), (2, .v (.pointer (some ⟨b1, 0, none⟩)))] [] { tmps := (⟨[Value.func (.yield l) #[] #[], Value.pointer (some ⟨b0, 0, none⟩), Value.pointer (some ⟨b1, 0, none⟩)]⟩ : Array Value) ++ Array.replicate (Tryz.f104.ntmps - (⟨[Value.func (.yield l) #[] #[], Value.pointer (some ⟨b0, 0, none⟩), Value.pointer (some ⟨b1, 0, none⟩)]⟩ : Array Value).size) undef, defers := [] } W :=
    ⟨rfl, by rw [Array.size_append, Array.size_replicate]; rfl, lok_args [Value.func (.yield l) #[] #[], Value.pointer (some ⟨b0, 0, none⟩), Value.pointer (some ⟨b1, 0, none⟩)] _, hV, hBW, h0⟩
  refine wpIn_seq ?_
  refine s0.stretch (T := tyT) (fn := Tryz.f104) hJ (fun L' V' => L' = [(0, .v (.func (.yield l) #[] #[])), (2, .v (.pointer (some ⟨b1, 0, none⟩))), (8, .v (.slice a4 ((x3).length) (k4))), (9, .v (.int .i64 ((((x3).length : Nat) : Int)))), (10, .v (.int .i64 0))]) ?_ ?_
  · refine Exec.run tyOk 400 rfl ?_
    refine Exec.ld tyOk (x := .slice a4 ((x3).length) (k4)) rfl rfl hc0 rfl rfl ?_
    refine Exec.run tyOk 400 rfl ?_
    exact Exec.round [(0, .v (.func (.yield l) #[] #[])), (2, .v (.pointer (some ⟨b1, 0, none⟩))), (8, .v (.slice a4 ((x3).length) (k4))), (9, .v (.int .i64 ((((x3).length : Nat) : Int)))), (10, .v (.int .i64 0))] ⟨rfl, rfl, rfl, rfl, rfl, trivial⟩ ⟨rfl, rfl⟩
  rintro L' V' a1 w1 rfl hv1 s1
  clear s0
  show Code.wpIn _ _ _ _ _ _ _
  refine wpIn_block ?_
  refine wpIn_loop (fun a w => ∃ (i : Int) (pre r : List Int), (0 ≤ i ∧ i ≤ (x3.length : Int)) ∧ ItSt V w0 J 28 [(0, .v (.func (.yield l) #[] #[])), (2, .v (.pointer (some ⟨b1, 0, none⟩))), (8, .v (.slice a4 ((x3).length) (k4))), (9, .v (.int .i64 ((((x3).length : Nat) : Int)))), (10, .v (.int .i64 i))] pre a w ∧ xs = pre ++ r ∧ ownerAll x5 (x3.drop i.toNat).flatten = some r)
    (fun a _ => mu 10 x3.length a) ⟨0, [], xs, ⟨Int.le_refl _, by omega⟩, s1, rfl, hF⟩ ?_
  clear s1
  rintro a w ⟨i, pre, r, hi, s, hx, hr⟩
  rw [s.mu (s := 10) x3.length rfl]
  refine wpIn_seq ?_
  refine s.stretch (T := tyT) (fn := Tryz.f104) hJ (fun L' V' => L' = [(0, .v (.func (.yield l) #[] #[])), (2, .v (.pointer (some ⟨b1, 0, none⟩))), (8, .v (.slice a4 ((x3).length) (k4))), (9, .v (.int .i64 ((((x3).length : Nat) : Int)))), (10, .v (.int .i64 i)), (11, .v (.bool (decide (i < (x3.length : Int)))))]) ?_ ?_
  · refine Exec.run tyOk 400 rfl ?_
    exact Exec.round [(0, .v (.func (.yield l) #[] #[])), (2, .v (.pointer (some ⟨b1, 0, none⟩))), (8, .v (.slice a4 ((x3).length) (k4))), (9, .v (.int .i64 ((((x3).length : Nat) : Int)))), (10, .v (.int .i64 i)), (11, .v (.bool (decide (i < (x3.length : Int)))))] ⟨rfl, rfl, rfl, rfl, rfl, rfl, trivial⟩ ⟨rfl, rfl⟩
  clear s
  rintro L' V2 a2 w2 rfl hv2 s
  show Code.wpIn _ _ _ _ _ _ _
  refine wpIn_seq ?_
  refine wpIn_cond_split (s.eval (s := 11) rfl) (fun hc => ?_) (fun hc => ?_)
  case _ =>
    have hlt : i < (x3.length : Int) := by simpa using hc
    refine wpIn_skip ?_
    show Code.wpIn _ _ _ _ _ _ _
    have hd := drop_at x3 i ⟨hi.1, hlt⟩
    rw [hd, List.flatten_cons] at hr
    obtain ⟨r1, r2, hr1, hr2, rfl⟩ := ownerAll_app hr
    have hil := SlAt.get h4 (n := i) ⟨hi.1, hlt⟩
    obtain ⟨c15, hr15, hd15⟩ := hil
    obtain ⟨a16, k16, rfl, h16⟩ := hr15
    refine wpIn_seq ?_
    refine wpIn_block ?_
    refine wpIn_seq ?_
    refine s.stretch (T := tyT) (fn := Tryz.f104) hJ (fun L' V' => L' = [(0, .v (.func (.yield l) #[] #[])), (2, .v (.pointer (some ⟨b1, 0, none⟩))), (5, .v (.slice a16 (((atI x3 i)).length) (k16))), (8, .v (.slice a4 ((x3).length) (k4))), (9, .v (.int .i64 ((((x3).length : Nat) : Int)))), (10, .v (.int .i64 i))]) ?_ ?_
    · refine Exec.run tyOk 400 rfl ?_
      refine Exec.ia tyOk rfl rfl ⟨hi.1, hlt, hd15.some⟩ ?_
      refine Exec.run tyOk 400 rfl ?_
      refine Exec.ld tyOk (x := .slice a16 (((atI x3 i)).length) (k16)) rfl rfl hd15 rfl rfl ?_
      refine Exec.run tyOk 8 rfl ?_
      exact Exec.round [(0, .v (.func (.yield l) #[] #[])), (2, .v (.pointer (some ⟨b1, 0, none⟩))), (5, .v (.slice a16 (((atI x3 i)).length) (k16))), (8, .v (.slice a4 ((x3).length) (k4))), (9, .v (.int .i64 ((((x3).length : Nat) : Int)))), (10, .v (.int .i64 i))] ⟨rfl, rfl, rfl, rfl, rfl, rfl, trivial⟩ ⟨rfl, rfl⟩
    clear s
    rintro L' V3 a3 w3 rfl hv3 s
    show Code.wpIn _ _ _ _ _ _ _
    refine wpIn_seq ?_
    refine s.stretch (T := tyT) (fn := Tryz.f104) hJ (fun L' V' => L' = [(0, .v (.func (.yield l) #[] #[])), (2, .v (.pointer (some ⟨b1, 0, none⟩))), (8, .v (.slice a4 ((x3).length) (k4))), (9, .v (.int .i64 ((((x3).length : Nat) : Int)))), (10, .v (.int .i64 i)), (14, .v (.slice a16 (((atI x3 i)).length) (k16))), (15, .v (.int .i64 ((((atI x3 i).length : Nat) : Int)))), (16, .v (.int .i64 0))]) ?_ ?_
    · refine Exec.run tyOk 400 rfl ?_
      exact Exec.round [(0, .v (.func (.yield l) #[] #[])), (2, .v (.pointer (some ⟨b1, 0, none⟩))), (8, .v (.slice a4 ((x3).length) (k4))), (9, .v (.int .i64 ((((x3).length : Nat) : Int)))), (10, .v (.int .i64 i)), (14, .v (.slice a16 (((atI x3 i)).length) (k16))), (15, .v (.int .i64 ((((atI x3 i).length : Nat) : Int)))), (16, .v (.int .i64 0))] ⟨rfl, rfl, rfl, rfl, rfl, rfl, rfl, rfl, trivial⟩ ⟨rfl, rfl⟩
    clear s
    rintro L' V4 a4' w4 rfl hv4 s
    show Code.wpIn _ _ _ _ _ _ _
    refine wpIn_block ?_
    refine wpIn_loop (fun a w => ∃ (j : Int) (pre r1 : List Int), (0 ≤ j ∧ j ≤ ((atI x3 i).length : Int)) ∧ ItSt V w0 J 28 [(0, .v (.func (.yield l) #[] #[])), (2, .v (.pointer (some ⟨b1, 0, none⟩))), (8, .v (.slice a4 ((x3).length) (k4))), (9, .v (.int .i64 ((((x3).length : Nat) : Int)))), (10, .v (.int .i64 i)), (14, .v (.slice a16 (((atI x3 i)).length) (k16))), (15, .v (.int .i64 ((((atI x3 i).length : Nat) : Int)))), (16, .v (.int .i64 j))] pre a w ∧ xs = pre ++ (r1 ++ r2) ∧ ownerAll x5 ((atI x3 i).drop j.toNat) = some r1)
      (fun a _ => mu 16 (atI x3 i).length a) ⟨0, pre, r1, ⟨Int.le_refl _, by omega⟩, s, hx, hr1⟩ ?_
    clear s hx hr1
    rintro a w ⟨j, pre, r1, hj, s, hx, hr1⟩
    rw [s.mu (s := 16) (atI x3 i).length rfl]
    refine wpIn_seq ?_
    refine s.stretch (T := tyT) (fn := Tryz.f104) hJ (fun L' V' => L' = [(0, .v (.func (.yield l) #[] #[])), (2, .v (.pointer (some ⟨b1, 0, none⟩))), (8, .v (.slice a4 ((x3).length) (k4))), (9, .v (.int .i64 ((((x3).length : Nat) : Int)))), (10, .v (.int .i64 i)), (14, .v (.slice a16 (((atI x3 i)).length) (k16))), (15, .v (.int .i64 ((((atI x3 i).length : Nat) : Int)))), (16, .v (.int .i64 j)), (17, .v (.bool (decide (j < ((atI x3 i).length : Int)))))]) ?_ ?_
    · refine Exec.run tyOk 400 rfl ?_
      exact Exec.round [(0, .v (.func (.yield l) #[] #[])), (2, .v (.pointer (some ⟨b1, 0, none⟩))), (8, .v (.slice a4 ((x3).length) (k4))), (9, .v (.int .i64 ((((x3).length : Nat) : Int)))), (10, .v (.int .i64 i)), (14, .v (.slice a16 (((atI x3 i)).length) (k16))), (15, .v (.int .i64 ((((atI x3 i).length : Nat) : Int)))), (16, .v (.int .i64 j)), (17, .v (.bool (decide (j < ((atI x3 i).length : Int)))))] ⟨rfl, rfl, rfl, rfl, rfl, rfl, rfl, rfl, rfl, trivial⟩ ⟨rfl, rfl⟩
    clear s
    rintro L' V5 a5 w5 rfl hv5 s
    show Code.wpIn _ _ _ _ _ _ _
    refine wpIn_seq ?_
    refine wpIn_cond_split (s.eval (s := 17) rfl) (fun hc => ?_) (fun hc => ?_)
    case _ =>
      have hlt2 : j < ((atI x3 i).length : Int) := by simpa using hc
      refine wpIn_skip ?_
      show Code.wpIn _ _ _ _ _ _ _
      have hd2 := drop_at (atI x3 i) j ⟨hj.1, hlt2⟩
      rw [hd2, ownerAll] at hr1
      obtain ⟨y, hy, hr1⟩ := bnd_some hr1
      obtain ⟨r3, hr3, hr1⟩ := bnd_some hr1
      obtain rfl := some_inj hr1
      obtain ⟨c32, hr32, hd32⟩ := SlAt.get h16 (n := j) ⟨hj.1, hlt2⟩
      obtain rfl := hr32
      refine wpIn_seq ?_
      refine wpIn_block ?_
      refine wpIn_seq ?_
      refine s.stretch (T := tyT) (fn := Tryz.f104) hJ (fun L' V' => L' = [(0, .v (.func (.yield l) #[] #[])), (2, .v (.pointer (some ⟨b1, 0, none⟩))), (7, .v (.string ⟨⟨(atI ((atI x3 i)) j)⟩⟩)), (8, .v (.slice a4 ((x3).length) (k4))), (9, .v (.int .i64 ((((x3).length : Nat) : Int)))), (10, .v (.int .i64 i)), (14, .v (.slice a16 (((atI x3 i)).length) (k16))), (15, .v (.int .i64 ((((atI x3 i).length : Nat) : Int)))), (16, .v (.int .i64 j))]) ?_ ?_
      · refine Exec.run tyOk 400 rfl ?_
        refine Exec.ia tyOk rfl rfl ⟨hj.1, hlt2, hd32.some⟩ ?_
        refine Exec.run tyOk 400 rfl ?_
        refine Exec.ld tyOk (x := .string ⟨⟨(atI ((atI x3 i)) j)⟩⟩) rfl rfl hd32 rfl rfl ?_
        refine Exec.run tyOk 8 rfl ?_
        exact Exec.round [(0, .v (.func (.yield l) #[] #[])), (2, .v (.pointer (some ⟨b1, 0, none⟩))), (7, .v (.string ⟨⟨(atI ((atI x3 i)) j)⟩⟩)), (8, .v (.slice a4 ((x3).length) (k4))), (9, .v (.int .i64 ((((x3).length : Nat) : Int)))), (10, .v (.int .i64 i)), (14, .v (.slice a16 (((atI x3 i)).length) (k16))), (15, .v (.int .i64 ((((atI x3 i).length : Nat) : Int)))), (16, .v (.int .i64 j))] ⟨rfl, rfl, rfl, rfl, rfl, rfl, rfl, rfl, rfl, trivial⟩ ⟨rfl, rfl⟩
      clear s
      rintro L' V6 a6' w6 rfl hv6 s
      show Code.wpIn _ _ _ _ _ _ _
      refine wpIn_seq ?_
      refine s.head (T := tyT) (fn := Tryz.f104) hJ (fun L' V' => L' = [(0, .v (.func (.yield l) #[] #[])), (2, .v (.pointer (some ⟨b1, 0, none⟩))), (8, .v (.slice a4 ((x3).length) (k4))), (9, .v (.int .i64 ((((x3).length : Nat) : Int)))), (10, .v (.int .i64 i)), (14, .v (.slice a16 (((atI x3 i)).length) (k16))), (15, .v (.int .i64 ((((atI x3 i).length : Nat) : Int)))), (16, .v (.int .i64 j)), (20, .v (.func (.yield l) #[] #[])), (23, .v (.int .i64 y))]) (ops := [_, _, _, _]) (rest := [_, _]) ?_ rfl ?_
      · refine Exec.run tyOk 400 rfl ?_
        refine Exec.ld tyOk (x := .agg ⟨[.int .i64 (x5.Version), .slice a6 ((x5.Parts).length) (k6)]⟩) rfl rfl hc1 rfl rfl ?_
        refine Exec.run tyOk 400 rfl ?_
        refine Exec.callS (.int .i64 y) rfl rfl (W_placement_Owner x5 ((atI ((atI x3 i)) j)) h6 hy) ?_
        refine Exec.run tyOk 400 rfl ?_
        exact Exec.round [(0, .v (.func (.yield l) #[] #[])), (2, .v (.pointer (some ⟨b1, 0, none⟩))), (8, .v (.slice a4 ((x3).length) (k4))), (9, .v (.int .i64 ((((x3).length : Nat) : Int)))), (10, .v (.int .i64 i)), (14, .v (.slice a16 (((atI x3 i)).length) (k16))), (15, .v (.int .i64 ((((atI x3 i).length : Nat) : Int)))), (16, .v (.int .i64 j)), (20, .v (.func (.yield l) #[] #[])), (23, .v (.int .i64 y))] ⟨rfl, rfl, rfl, rfl, rfl, rfl, rfl, rfl, rfl, rfl, trivial⟩ ⟨rfl, rfl⟩
      clear s
      rintro L' V7 a7 w7 rfl hv7 s
      refine s.yield (l := l) (x := y) (d := 24) (g := 20) (ar := 23) rfl rfl rfl (by decide) rfl rfl (hY pre y (r3 ++ r2) w7 (by rw [hx]; simp) s.j s.bl) hw0 ?_
      clear s
      intro a8 w8 s
      refine s.ops (T := tyT) (fn := Tryz.f104) hJ (fun L' V' => L' = [(0, .v (.func (.yield l) #[] #[])), (2, .v (.pointer (some ⟨b1, 0, none⟩))), (8, .v (.slice a4 ((x3).length) (k4))), (9, .v (.int .i64 ((((x3).length : Nat) : Int)))), (10, .v (.int .i64 i)), (14, .v (.slice a16 (((atI x3 i)).length) (k16))), (15, .v (.int .i64 ((((atI x3 i).length : Nat) : Int)))), (16, .v (.int .i64 j)), (25, .v (.bool false))]) ?_ ?_
      · refine Exec.run tyOk 400 rfl ?_
        exact Exec.round [(0, .v (.func (.yield l) #[] #[])), (2, .v (.pointer (some ⟨b1, 0, none⟩))), (8, .v (.slice a4 ((x3).length) (k4))), (9, .v (.int .i64 ((((x3).length : Nat) : Int)))), (10, .v (.int .i64 i)), (14, .v (.slice a16 (((atI x3 i)).length) (k16))), (15, .v (.int .i64 ((((atI x3 i).length : Nat) : Int)))), (16, .v (.int .i64 j)), (25, .v (.bool false))] ⟨rfl, rfl, rfl, rfl, rfl, rfl, rfl, rfl, rfl, trivial⟩ ⟨rfl, rfl⟩
      clear s
      rintro L' V9 a9 w9 rfl hv9 s
      show Code.wpIn _ _ _ _ _ _ _
      refine wpIn_cond_false (s.eval (s := 25) rfl) ?_
      refine wpIn_skip ?_
      show Code.wpIn _ _ _ _ _ _ _
      refine s.stretch (T := tyT) (fn := Tryz.f104) hJ (fun L' V' => L' = [(0, .v (.func (.yield l) #[] #[])), (2, .v (.pointer (some ⟨b1, 0, none⟩))), (8, .v (.slice a4 ((x3).length) (k4))), (9, .v (.int .i64 ((((x3).length : Nat) : Int)))), (10, .v (.int .i64 i)), (14, .v (.slice a16 (((atI x3 i)).length) (k16))), (15, .v (.int .i64 ((((atI x3 i).length : Nat) : Int)))), (16, .v (.int .i64 (IntKind.i64.wrap (j + (1 : Int)))))]) ?_ ?_
      · refine Exec.run tyOk 400 rfl ?_
        exact Exec.round [(0, .v (.func (.yield l) #[] #[])), (2, .v (.pointer (some ⟨b1, 0, none⟩))), (8, .v (.slice a4 ((x3).length) (k4))), (9, .v (.int .i64 ((((x3).length : Nat) : Int)))), (10, .v (.int .i64 i)), (14, .v (.slice a16 (((atI x3 i)).length) (k16))), (15, .v (.int .i64 ((((atI x3 i).length : Nat) : Int)))), (16, .v (.int .i64 (IntKind.i64.wrap (j + (1 : Int)))))] ⟨rfl, rfl, rfl, rfl, rfl, rfl, rfl, rfl, trivial⟩ ⟨rfl, rfl⟩
      clear s
      rintro L' V10 a10 w10 rfl hv10 s
      have hm := hm5 (atI x3 i) (by
        have := List.mem_of_mem_drop (i := i.toNat) (l := x3) (a := atI x3 i) (by rw [hd]; simp)
        exact this)
      have hw : IntKind.i64.wrap (j + (1 : Int)) = j + 1 := w64 (by omega) (by omega)
      rw [hw] at s
      refine ⟨⟨j + 1, pre ++ [y], r3, ⟨by omega, by omega⟩, s, by rw [hx]; simp, hr3⟩, ?_⟩
      rw [s.mu (s := 16) (atI x3 i).length rfl]
      omega
    case _ =>
      have hge : ((atI x3 i).length : Int) ≤ j := by simpa using hc
      refine wpIn_exit ?_
      have he : j.toNat = (atI x3 i).length := by omega
      rw [he, List.drop_length, ownerAll] at hr1
      obtain rfl := some_inj hr1
      show Code.wpIn _ _ _ _ _ _ _
      refine s.stretch (T := tyT) (fn := Tryz.f104) hJ (fun L' V' => L' = [(0, .v (.func (.yield l) #[] #[])), (2, .v (.pointer (some ⟨b1, 0, none⟩))), (8, .v (.slice a4 ((x3).length) (k4))), (9, .v (.int .i64 ((((x3).length : Nat) : Int)))), (10, .v (.int .i64 (IntKind.i64.wrap (i + (1 : Int)))))]) ?_ ?_
      · refine Exec.run tyOk 400 rfl ?_
        exact Exec.round [(0, .v (.func (.yield l) #[] #[])), (2, .v (.pointer (some ⟨b1, 0, none⟩))), (8, .v (.slice a4 ((x3).length) (k4))), (9, .v (.int .i64 ((((x3).length : Nat) : Int)))), (10, .v (.int .i64 (IntKind.i64.wrap (i + (1 : Int)))))] ⟨rfl, rfl, rfl, rfl, rfl, trivial⟩ ⟨rfl, rfl⟩
      clear s
      rintro L' V10 a10 w10 rfl hv10 s
      have hw : IntKind.i64.wrap (i + (1 : Int)) = i + 1 := w64 (by omega) (by omega)
      rw [hw] at s
      refine ⟨⟨i + 1, pre, r2, ⟨by omega, by omega⟩, s, by rw [hx]; simp, hr2⟩, ?_⟩
      rw [s.mu (s := 10) x3.length rfl]
      omega
  case _ =>
    have hge : (x3.length : Int) ≤ i := by simpa using hc
    refine wpIn_exit ?_
    have he : i.toNat = x3.length := by omega
    rw [he, List.drop_length, List.flatten_nil, ownerAll] at hr
    obtain rfl := some_inj hr
    rw [List.append_nil] at hx
    subst hx
    show bodyPost Tryz.prog Tryz.f104 (fun e W' => (∃ v, e = .returned v) ∧ J _ W') .normal _ _
    exact bodyPost_end (v := .tuple #[]) (by simp [results, show Tryz.f104.results = #[] from rfl]) s.df ⟨⟨_, rfl⟩, s.j⟩

/-! ### slices.AppendSeq, Collect, Sorted at []int -/

def seqRen : Go.Shelf.Ren := ⟨fun | 11 => 162 | n => n, fun | 0 => 0 | 24 => 41 | 26 => 3 | 28 => 83 | 33 => 72 | n => n, fun n => n⟩
theorem seqLays : Go.Proofs.SlLaysZI.n11 Tryz.prog seqRen := {
  mixed := by kernel_rfl
  f11 := ⟨ "slices.AppendSeq[[]int,int]", by kernel_rfl, Tryz.func162.trans (congrArg some (by kernel_rfl))⟩
  t0 := Tryz.underlying0
  a0 := Tryz.isAgg0
  z0 := Tryz.sizeOf0
  v0 := Tryz.zeroValue0
  t24 := Tryz.underlying41
  a24 := Tryz.isAgg41
  z24 := Tryz.sizeOf41
  v24 := Tryz.zeroValue41
  t26 := Tryz.underlying3
  a26 := Tryz.isAgg3
  z26 := Tryz.sizeOf3
  v26 := Tryz.zeroValue3
  t28 := Tryz.underlying83
  a28 := Tryz.isAgg83
  z28 := Tryz.sizeOf83
  v28 := Tryz.zeroValue83
  i26 := by kernel_rfl }

theorem X_AppendSeq {V : View} {v : Value} {xs : List Int} (hs : SeqAt Tryz.prog V v xs) (hNb : xs.length * 8 ≤ 140737488355328) :
    SpecM Tryz.prog 162 [.slice none 0 0, v] ⟨.slice none 0 0, [], 3, 1⟩ V (fun V' r r' => V' = V ∧ ∃ a k, r = .slice a xs.length k ∧ r' = ⟨.slice a xs.length k, xs.map (Value.int .i64), 3, 1⟩) :=
  appendSeq_specM seqLays ⟨_, Tryz.func162, by kernel_rfl, by kernel_rfl⟩ hs hNb

set_option maxRecDepth 100000 in
theorem X_Collect {V : View} {v : Value} {xs : List Int} (hs : SeqAt Tryz.prog V v xs) (hNb : xs.length * 8 ≤ 140737488355328) :
    SpecM Tryz.prog 139 [v] ⟨.slice none 0 0, [], 3, 1⟩ V (fun V' r r' => V' = V ∧ ∃ a k, r = .slice a xs.length k ∧ r' = ⟨.slice a xs.length k, xs.map (Value.int .i64), 3, 1⟩) := by
  refine SpecM.enter (T := tyT) Tryz.func139 rfl (by kernel_rfl) rfl rfl rfl ?_
  refine Exec.run tyOk 400 rfl ?_
  refine Exec.callM 0 rfl rfl rfl rfl (X_AppendSeq hs hNb) ?_
  rintro VV _ _ _ ⟨hVV, a, k, rfl, rfl⟩
  have hVV := hVV.symm
  subst hVV
  refine ⟨_, rfl, ?_⟩
  refine Exec.run tyOk 400 rfl ?_
  refine Exec.ret tyOk rfl rfl ?_
  dsimp only
  exact RowEnd.at 0 rfl ⟨rfl, a, k, rfl, rfl⟩

set_option maxRecDepth 100000 in
theorem X_Sorted {V : View} {v : Value} {xs : List Int} (hs : SeqAt Tryz.prog V v xs) (hNb : xs.length * 8 ≤ 140737488355328) :
    SpecM Tryz.prog 103 [v] ⟨.slice none 0 0, [], 3, 1⟩ V (fun V' r r' => V' = V ∧ ∃ a k, r = .slice a xs.length k ∧ r' = ⟨.slice a xs.length k, (sortL xs).map (Value.int .i64), 3, 1⟩) := by
  refine SpecM.enter (T := tyT) Tryz.func103 rfl (by kernel_rfl) rfl rfl rfl ?_
  refine Exec.run tyOk 400 rfl ?_
  refine Exec.callM 0 rfl rfl rfl rfl (X_Collect hs hNb) ?_
  rintro VV _ _ _ ⟨hVV, a, k, rfl, rfl⟩
  have hVV := hVV.symm
  subst hVV
  refine ⟨_, rfl, ?_⟩
  refine Exec.run tyOk 400 rfl ?_
  refine Exec.callM 0 rfl rfl rfl rfl (sortI_row (RowRep.ofInts xs) (fun cs e => by subst e; exact (sortI_specM ⟨_, rfl, by kernel_rfl, by kernel_rfl⟩ Tryz.slices_Sort_int Tryz.slices_Sort_int_none (by omega)))) ?_
  rintro VV _ _ _ ⟨rfl, hVV, rfl⟩
  have hVV := hVV.symm
  subst hVV
  refine ⟨_, rfl, ?_⟩
  refine Exec.run tyOk 400 rfl ?_
  refine Exec.ret tyOk rfl rfl ?_
  dsimp only
  exact RowEnd.at 0 rfl ⟨rfl, a, k, rfl, rfl⟩

theorem sortL_len (l : List Int) : (sortL l).length = l.length := by simp [sortL]

set_option maxRecDepth 100000 in
theorem X_different {V : View} {v : Value} {xs : List Int} (hs : SeqAt Tryz.prog V v xs) (hNb : xs.length * 8 ≤ 140737488355328) :
    Spec Tryz.prog 53 [v] V (fun V' r => ∃ (a : Option Addr) (k : Nat), r = .slice a (compactL (sortL xs)).length k ∧ SlAt (cInt .i64) V' a k (compactL (sortL xs))) := by
  refine Spec.enter (T := tyT) Tryz.func53 rfl (by kernel_rfl) rfl rfl rfl ?_
  refine Exec.run tyOk 400 rfl ?_
  refine Exec.row0 3 1 rfl ?_
  refine Exec.callM 0 rfl rfl rfl rfl (X_Sorted hs hNb) ?_
  rintro VV _ _ _ ⟨hVV, a, k, rfl, rfl⟩
  have hVV := hVV.symm
  subst hVV
  refine ⟨_, rfl, ?_⟩
  refine Exec.run tyOk 400 rfl ?_
  refine Exec.callM 0 rfl rfl rfl rfl (compactI_row (RowRep.ofInts (sortL xs)) (fun cs e => by subst e; exact (compactI_specM ⟨_, rfl, by kernel_rfl, by kernel_rfl⟩ Tryz.slices_Compact_int Tryz.slices_Compact_int_empty))) ?_
  rintro VV _ _ _ ⟨rfl, hVV, rfl⟩
  have hVV := hVV.symm
  subst hVV
  refine ⟨_, rfl, ?_⟩
  have h12 : RowRep (cInt .i64) V (compactL (sortL xs)) ((compactL (sortL xs)).map (Value.int .i64)) := RowRep.ofInts _
  refine Exec.run tyOk 400 rfl ?_
  refine Exec.frz 0 rfl rfl rfl (fun V13 hv13 hd13 hn13 => ?_)
  have hz13 := RowRep.slat h12 hv13 hd13 hn13
  exact Exec.ret tyOk rfl rfl ⟨_, _, rfl, hz13⟩

/-! ### route.owners -/

def ownersF (x1 : TPlacement) (x3 : List (List Str)) : Option (List Int) := ownerAll x1 x3.flatten

set_option maxRecDepth 100000 in
theorem X_owners {V : View} (x1 : TPlacement) (x3 : List (List Str)) {a2 : Option Addr} {k2 : Nat} {a4 : Option Addr} {k4 : Nat} (h2 : SlAt cTPart V a2 k2 x1.Parts) (h4 : SlAt (cSl cStr) V a4 k4 x3)
    (hm3 : x3.length < 9223372036854775807) (hm5 : ∀ l ∈ x3, l.length < 9223372036854775807) {xs : List Int} (hF : ownersF x1 x3 = some xs) :
    Spec Tryz.prog 54 [.agg ⟨[.int .i64 (x1.Version), .slice a2 ((x1.Parts).length) (k2)]⟩, .slice a4 ((x3).length) (k4)] V (fun V' v => SeqAt Tryz.prog V' v xs) := by
  refine Spec.enter (T := tyT) Tryz.func54 rfl (by kernel_rfl) rfl rfl rfl ?_
  refine Exec.run tyOk 400 rfl ?_
  refine Exec.openB 0 rfl rfl rfl rfl (fun _ => rfl) (fun _ => rfl) (fun V4 b4 hv4 hd4 => ?_)
  have h5 := SlAt.mono h2 hv4
  have h6 := SlAt.mono h4 hv4
  refine Exec.openB 1 rfl rfl rfl rfl (fun _ => rfl) (fun _ => rfl) (fun V5 b5 hv5 hd5 => ?_)
  have h7 := SlAt.mono h5 hv5
  have h8 := SlAt.mono h6 hv5
  have hd6 := RdAt.mono hd4 hv5
  refine Exec.mkf rfl rfl ?_
  refine Exec.run tyOk 400 rfl ?_
  refine Exec.ret tyOk rfl rfl ⟨_, _, rfl, fun args w => ?_, fun w hw => X_owners1 x3 x1 h8 hd5 h7 hd6 hm3 hm5 hF w hw⟩
  exact enters_of Tryz.func104 (by kernel_rfl) rfl args w


def F_route_Nodes (x1 : TPlacement) (x3 : TFootprint) : Option (List Int) :=
  bnd (F_route_valid x1 x3) fun x6 => cond (!x6) (some []) (cond x3.All (F_placement_Nodes x1)
    (req (x3.Reads.length + x3.Writes.length ≤ 17592186044416) (bnd (ownersF x1 [x3.Reads, x3.Writes]) fun x8 => some (compactL (sortL x8)))))

theorem ownerAll_len {x5 : TPlacement} : ∀ {l : List Str} {r : List Int}, ownerAll x5 l = some r → r.length = l.length
  | [], r, h => by obtain rfl := some_inj h; rfl
  | k :: l, r, h => by
    simp only [ownerAll] at h
    obtain ⟨y, hy, h⟩ := bnd_some h
    obtain ⟨q, hq, h⟩ := bnd_some h
    obtain rfl := some_inj h
    simp [ownerAll_len hq]

set_option maxRecDepth 100000 in
theorem W_route_Nodes {V : View} (x1 : TPlacement) (x3 : TFootprint) {a2 : Option Addr} {k2 : Nat} {a4 : Option Addr} {k4 : Nat} {a5 : Option Addr} {k5 : Nat} (h2 : SlAt cTPart V a2 k2 x1.Parts) (h4 : SlAt cStr V a4 k4 x3.Reads) (h5 : SlAt cStr V a5 k5 x3.Writes) {r : List Int} (hF : F_route_Nodes x1 x3 = some r) :
    Spec Tryz.prog 17 [.agg ⟨[.int .i64 (x1.Version), .slice a2 ((x1.Parts).length) (k2)]⟩, .agg ⟨[.bool (x3.All), .slice a4 ((x3.Reads).length) (k4), .slice a5 ((x3.Writes).length) (k5)]⟩] V (fun V' v => ∃ (a29 : Option Addr) (k29 : Nat), v = .slice a29 ((r).length) (k29) ∧ SlAt (cInt .i64) V' a29 k29 r) := by
  unfold F_route_Nodes at hF
  refine Spec.enter (T := tyT) Tryz.func17 rfl (by kernel_rfl) rfl rfl rfl ?_
  refine Exec.run tyOk 400 rfl ?_
  obtain ⟨x6, hx6, hF⟩ := bnd_some hF
  refine Exec.callS (.bool (x6)) rfl rfl (W_route_valid x1 x3 h2 h4 h5 hx6) ?_
  refine Exec.run tyOk 400 rfl ?_
  rcases cond_some hF with ⟨hb, hF⟩ | ⟨hb, hF⟩
  · skip
    refine Exec.ifT rfl hb ?_
    refine Exec.run tyOk 400 rfl ?_
    obtain rfl := some_inj hF
    exact Exec.ret tyOk rfl rfl ⟨_, _, rfl, SlAt.nil⟩
  · skip
    refine Exec.ifF rfl hb ?_
    refine Exec.run tyOk 400 rfl ?_
    rcases cond_some hF with ⟨hb, hF⟩ | ⟨hb, hF⟩
    · skip
      refine Exec.ifT rfl hb ?_
      refine Exec.run tyOk 400 rfl ?_
      refine Exec.call rfl rfl (W_placement_Nodes x1 h2 hF) ?_
      rintro V9 _ hv9 ⟨a8, k8, rfl, h8⟩
      refine Exec.run tyOk 400 rfl ?_
      exact Exec.ret tyOk rfl rfl ⟨_, _, rfl, h8⟩
    · skip
      refine Exec.ifF rfl hb ?_
      refine Exec.run tyOk 400 rfl ?_
      obtain ⟨q7, hF⟩ := req_some hF
      obtain ⟨x8, hx8, hF⟩ := bnd_some hF
      refine Exec.bsV tyOk rfl rfl rfl rfl rfl (fun V9 a9 hv9 hd9 => ?_)
      have h9 : SlAt (cSl cStr) V9 (some a9) 2 ([x3.Reads, x3.Writes] : List (List Str)) := RowRep.slat (c := (cSl cStr)) (V := V9) (cs := [.slice a4 ((x3.Reads).length) (k4), .slice a5 ((x3.Writes).length) (k5)]) ⟨_, _, rfl, ⟨_, _, rfl, (SlAt.mono h4 hv9)⟩, ⟨_, _, rfl, ⟨_, _, rfl, (SlAt.mono h5 hv9)⟩, rfl⟩⟩ (VLe.refl _) (fun _ => hd9) (by simp)
      have h10 := SlAt.mono h2 hv9
      refine Exec.run tyOk 400 rfl ?_
      refine Exec.call rfl rfl (X_owners x1 [x3.Reads, x3.Writes] h10 h9 (by simp) (by simp; omega) hx8) ?_
      rintro V11 v11 hv11 h11
      refine Exec.run tyOk 400 rfl ?_
      refine Exec.call rfl rfl (X_different h11 (by have := ownerAll_len hx8; simp at this; omega)) ?_
      rintro V12 _ hv12 ⟨a12, k12, rfl, h12⟩
      refine Exec.run tyOk 400 rfl ?_
      obtain rfl := some_inj hF
      exact Exec.ret tyOk rfl rfl ⟨_, _, rfl, h12⟩

end

def F_exchange_Complete_L1 (x12 : List Int) (x8 : List TMail) (x6 : Int) (x7 : Int) (J19 : Option Bool) : Nat → Int → Option Bool
  | 0, _ => none
  | n103 + 1, x102 => (cond (decide (x102 < (((x12).length : Nat) : Int))) (req (0 ≤ x102 ∧ x102 < ((x12).length : Int)) (bnd (F_slices_ContainsFunc_api_Mail_api_Mail x8 (fun y0 => F_exchange_Complete_1 y0 x6 ((atI x12 x102)) x7)) fun x119 => (cond (!x119) (some false) (F_exchange_Complete_L1 x12 x8 x6 x7 J19 n103 ((IntKind.i64.wrap (x102 + (1 : Int)))))))) J19)

def F_exchange_Complete (x1 : TPlacement) (x3 : TFootprint) (x6 : Int) (x7 : Int) (x8 : List TMail) : Option Bool :=
  (bnd (F_placement_Valid x1) fun x10 => (bnd (gcall (((!x10)) == false) (F_footprint_Valid x3)) fun x11 => (cond ((!x10) || (!x11)) (some false) (bnd (F_route_Nodes x1 x3) fun x12 => (jn ((some true)) (fun J19 => (F_exchange_Complete_L1 x12 x8 x6 x7 J19 (((((x12).length : Nat) : Int)).toNat + 1) ((0 : Int)))))))))

set_option maxRecDepth 100000 in
theorem W_exchange_Complete {V : View} (x1 : TPlacement) (x3 : TFootprint) (x6 : Int) (x7 : Int) (x8 : List TMail) {a2 : Option Addr} {k2 : Nat} {a4 : Option Addr} {k4 : Nat} {a5 : Option Addr} {k5 : Nat} {a9 : Option Addr} {k9 : Nat} (h2 : SlAt cTPart V a2 k2 x1.Parts) (h4 : SlAt cStr V a4 k4 x3.Reads) (h5 : SlAt cStr V a5 k5 x3.Writes) (h9 : SlAt cTMail V a9 k9 x8) {r : Bool} (hF : F_exchange_Complete x1 x3 x6 x7 x8 = some r) :
    Spec Tryz.prog 19 [.agg ⟨[.int .i64 (x1.Version), .slice a2 ((x1.Parts).length) (k2)]⟩, .agg ⟨[.bool (x3.All), .slice a4 ((x3.Reads).length) (k4), .slice a5 ((x3.Writes).length) (k5)]⟩, .int .i64 (x6), .int .i64 (x7), .slice a9 ((x8).length) (k9)] V (fun _ v => v = .bool (r)) := by
  unfold F_exchange_Complete at hF
  refine Spec.enter (T := tyT) Tryz.func19 rfl (by kernel_rfl) rfl rfl rfl ?_
  refine Exec.run tyOk 400 rfl ?_
  obtain ⟨x10, hx10, hF⟩ := bnd_some hF
  refine Exec.callS (.bool (x10)) rfl rfl (W_placement_Valid x1 h2 hx10) ?_
  refine Exec.run tyOk 400 rfl ?_
  obtain ⟨x11, hx11, hF⟩ := bnd_some hF
  refine Exec.callS (.bool (x11)) rfl rfl (fun gg0 => W_footprint_Valid x3 h4 h5 (gcall_some hx11 (gd1_of gg0))) ?_
  refine Exec.run tyOk 400 rfl ?_
  rcases cond_some hF with ⟨hb, hF⟩ | ⟨hb, hF⟩
  · skip
    refine Exec.ifT rfl hb ?_
    refine Exec.run tyOk 400 rfl ?_
    obtain rfl := some_inj hF
    exact Exec.ret tyOk rfl rfl rfl
  · skip
    refine Exec.ifF rfl hb ?_
    refine Exec.run tyOk 400 rfl ?_
    obtain ⟨x12, hx12, hF⟩ := bnd_some hF
    refine Exec.call rfl rfl (W_route_Nodes x1 x3 h2 h4 h5 hx12) ?_
    rintro V14 _ hv14 ⟨a13, k13, rfl, h13⟩
    have h15 := SlAt.mono h2 hv14
    have h16 := SlAt.mono h4 hv14
    have h17 := SlAt.mono h5 hv14
    have h18 := SlAt.mono h9 hv14
    refine Exec.run tyOk 3 rfl ?_
    obtain ⟨J19, hJ19, hF⟩ := jn_some hF
    refine Exec.seam (fun L' V' M' => L' = [] ∧ M' = [] ∧ J19 = some r) rfl ?_ ?_
    · rintro L' V20 M' ⟨rfl, rfl, hF⟩
      subst hJ19
      refine Exec.run tyOk 400 rfl ?_
      obtain rfl := some_inj hF
      exact Exec.ret tyOk rfl rfl rfl
    · skip
      refine Exec.run tyOk 400 rfl ?_
      refine Exec.fixA 2 (n := 1) (sz := 1) rfl rfl rfl rfl rfl (fun _ => rfl) (fun _ => rfl) (fun b58 => ?_)
      refine Exec.frz 2 rfl rfl rfl (fun V58 hv58 hdx58 _ => ?_)
      have hd58 := hdx58 (by simp)
      have h59 := SlAt.mono h15 hv58
      have h60 := SlAt.mono h16 hv58
      have h61 := SlAt.mono h17 hv58
      have h62 := SlAt.mono h18 hv58
      have h63 := SlAt.mono h13 hv58
      refine Exec.fixA 3 (n := 1) (sz := 1) rfl rfl rfl rfl rfl (fun _ => rfl) (fun _ => rfl) (fun b95 => ?_)
      refine Exec.frz 3 rfl rfl rfl (fun V95 hv95 hdx95 _ => ?_)
      have hd95 := hdx95 (by simp)
      have h96 := SlAt.mono h59 hv95
      have h97 := SlAt.mono h60 hv95
      have h98 := SlAt.mono h61 hv95
      have h99 := SlAt.mono h62 hv95
      have h100 := RdAt.mono hd58 hv95
      have h101 := SlAt.mono h63 hv95
      refine Exec.cut 0 [(4, .v (.slice a9 ((x8).length) (k9))), (7, .v (.pointer (some ⟨b58, 0, none⟩))), (8, .v (.pointer (some ⟨b95, 0, none⟩))), (24, .v (.slice a13 ((x12).length) (k13))), (25, .v (.int .i64 ((((x12).length : Nat) : Int)))), (26, .v (.int .i64 ((0 : Int))))] (M' := []) rfl ⟨rfl, rfl, rfl, rfl, rfl, rfl, trivial⟩ rfl rfl rfl ?_
      refine Exec.loop (fun n103 L' V' M' => ∃ (x102 : Int), L' = [(4, .v (.slice a9 ((x8).length) (k9))), (7, .v (.pointer (some ⟨b58, 0, none⟩))), (8, .v (.pointer (some ⟨b95, 0, none⟩))), (24, .v (.slice a13 ((x12).length) (k13))), (25, .v (.int .i64 ((((x12).length : Nat) : Int)))), (26, .v (.int .i64 (x102)))] ∧ M' = [] ∧ SlAt cTMail V' a9 k9 x8 ∧ RdAt V' (some ⟨b58, 0, none⟩) 0 [.int .i64 (x6)] ∧ RdAt V' (some ⟨b95, 0, none⟩) 0 [.int .i64 (x7)] ∧ SlAt (cInt .i64) V' a13 k13 x12 ∧ F_exchange_Complete_L1 x12 x8 x6 x7 J19 n103 x102 = some r) ⟨(((((x12).length : Nat) : Int)).toNat + 1), [(4, .v (.slice a9 ((x8).length) (k9))), (7, .v (.pointer (some ⟨b58, 0, none⟩))), (8, .v (.pointer (some ⟨b95, 0, none⟩))), (24, .v (.slice a13 ((x12).length) (k13))), (25, .v (.int .i64 ((((x12).length : Nat) : Int)))), (26, .v (.int .i64 ((0 : Int))))], ⟨rfl, rfl, rfl, rfl, rfl, rfl, trivial⟩, (0 : Int), rfl, rfl, h99, h100, hd95, h101, hF⟩ ?_
      rintro n103 L' V104 M' ⟨x102, rfl, rfl, h105, h106, h107, h108, hF⟩
      rcases n103 with _ | n103
      · exact absurd hF (by simp [F_exchange_Complete_L1])
      rw [F_exchange_Complete_L1] at hF
      refine Exec.run tyOk 400 rfl ?_
      rcases cond_some hF with ⟨hb, hF⟩ | ⟨hb, hF⟩
      · skip
        refine Exec.ifT rfl hb ?_
        refine Exec.run tyOk 400 rfl ?_
        obtain ⟨q109, hF⟩ := req_some hF
        obtain ⟨c110, hr110, hd110⟩ := SlAt.get h108 q109
        obtain rfl := hr110
        refine Exec.ia tyOk rfl rfl ⟨q109.1, q109.2, hd110.some⟩ ?_
        refine Exec.run tyOk 400 rfl ?_
        refine Exec.ld tyOk (x := .int .i64 ((atI x12 x102))) rfl rfl hd110 rfl rfl ?_
        refine Exec.run tyOk 400 rfl ?_
        refine Exec.openB 0 rfl rfl rfl rfl (fun _ => rfl) (fun _ => rfl) (fun V111 b111 hv111 hd111 => ?_)
        have h112 := SlAt.mono h105 hv111
        have h113 := RdAt.mono h106 hv111
        have h114 := RdAt.mono h107 hv111
        have h115 := SlAt.mono h108 hv111
        refine Exec.mkf rfl rfl ?_
        refine Exec.run tyOk 400 rfl ?_
        obtain ⟨x119, hx119, hF⟩ := bnd_some hF
        refine Exec.callS (.bool (x119)) rfl rfl (W_slices_ContainsFunc_api_Mail_api_Mail x8 (fun y0 => F_exchange_Complete_1 y0 x6 ((atI x12 x102)) x7) h112 (fun V' hv y0 _ r hrp hr => by obtain ⟨_, _, _, _, rfl, s0, s1⟩ := hrp; exact W_exchange_Complete_1 y0 x6 ((atI x12 x102)) x7 s0 s1 (RdAt.mono h113 hv) (RdAt.mono hd111 hv) (RdAt.mono h114 hv) hr) hx119) ?_
        refine Exec.run tyOk 400 rfl ?_
        rcases cond_some hF with ⟨hb, hF⟩ | ⟨hb, hF⟩
        · skip
          refine Exec.ifT rfl hb ?_
          refine Exec.run tyOk 400 rfl ?_
          obtain rfl := some_inj hF
          exact Exec.ret tyOk rfl rfl rfl
        · skip
          refine Exec.ifF rfl hb ?_
          refine Exec.run tyOk 400 rfl ?_
          refine Exec.cut 0 [(4, .v (.slice a9 ((x8).length) (k9))), (7, .v (.pointer (some ⟨b58, 0, none⟩))), (8, .v (.pointer (some ⟨b95, 0, none⟩))), (24, .v (.slice a13 ((x12).length) (k13))), (25, .v (.int .i64 ((((x12).length : Nat) : Int)))), (26, .v (.int .i64 ((IntKind.i64.wrap (x102 + (1 : Int))))))] (M' := []) rfl ⟨rfl, rfl, rfl, rfl, rfl, rfl, trivial⟩ rfl rfl rfl ?_
          exact Exec.round [(4, .v (.slice a9 ((x8).length) (k9))), (7, .v (.pointer (some ⟨b58, 0, none⟩))), (8, .v (.pointer (some ⟨b95, 0, none⟩))), (24, .v (.slice a13 ((x12).length) (k13))), (25, .v (.int .i64 ((((x12).length : Nat) : Int)))), (26, .v (.int .i64 ((IntKind.i64.wrap (x102 + (1 : Int))))))] ⟨rfl, rfl, rfl, rfl, rfl, rfl, trivial⟩ ⟨n103, Nat.lt_succ_self _, (IntKind.i64.wrap (x102 + (1 : Int))), rfl, rfl, h112, h113, h114, h115, hF⟩
      · skip
        refine Exec.ifF rfl hb ?_
        refine Exec.run tyOk 400 rfl ?_
        exact Exec.round [] trivial ⟨rfl, rfl, hF⟩

def F_exchange_Collect_L1 (x7 : List TMail) (J15 : (List TPair) → Option (List TPair × Int)) : Nat → (List TPair) → Int → Option (List TPair × Int)
  | 0, _, _ => none
  | n59 + 1, x56, x58 => (cond (decide (x58 < (((x7).length : Nat) : Int))) (req (0 ≤ x58 ∧ x58 < ((x7).length : Int)) (req (0 ≤ (0 : Int) ∧ (0 : Int) ≤ x58 ∧ x58 ≤ ((x7).length : Int)) (bnd (F_slices_ContainsFunc_api_Mail_api_Mail (((x7.take (x58).toNat).drop ((0 : Int)).toNat)) (fun y0 => F_exchange_Collect_2 y0 ((atI x7 x58)))) fun x77 => (cond x77 (some (([] : List TPair), (8 : Int))) (bnd (F_state_Union x56 ((atI x7 x58).Pairs)) fun x78 => (cond (x78.2 != (0 : Int)) (some (([] : List TPair), (8 : Int))) (F_exchange_Collect_L1 x7 J15 n59 x78.1 ((IntKind.i64.wrap (x58 + (1 : Int))))))))))) (J15 x56))

def F_exchange_Collect_L2 (x7 : List TMail) (J11 : Option (List TPair × Int)) : Nat → Int → Option (List TPair × Int)
  | 0, _ => none
  | n90 + 1, x89 => (cond (decide (x89 < (((x7).length : Nat) : Int))) (req (0 ≤ x89 ∧ x89 < ((x7).length : Int)) (bnd (F_state_Valid ((atI x7 x89).Pairs)) fun x97 => (cond (!x97) (some (([] : List TPair), (1 : Int))) (F_exchange_Collect_L2 x7 J11 n90 ((IntKind.i64.wrap (x89 + (1 : Int)))))))) J11)

def F_exchange_Collect_L3 (x3 : List TMail) (x1 : Int) (x2 : Int) (J8 : (List TMail) → Option (List TPair × Int)) : Nat → (List TMail) → Int → Option (List TPair × Int)
  | 0, _, _ => none
  | n101 + 1, x99, x100 => (cond (decide (x100 < (((x3).length : Nat) : Int))) (req (0 ≤ x100 ∧ x100 < ((x3).length : Int)) (bnd (gcall (((((atI x3 x100).Txn == x1) && ((atI x3 x100).To == x2))) == true) (F_slices_ContainsFunc_api_Mail_api_Mail x99 (fun y0 => F_exchange_Collect_1 y0 ((atI x3 x100))))) fun x116 => (jn (fun (x118 : List TMail) => (F_exchange_Collect_L3 x3 x1 x2 J8 n101 x118 ((IntKind.i64.wrap (x100 + (1 : Int)))))) (fun J119 => (cond ((((atI x3 x100).Txn == x1) && ((atI x3 x100).To == x2)) && (!x116)) (req (((x99 ++ [(atI x3 x100)])).length * 72 ≤ 140737488355328) (J119 ((x99 ++ [(atI x3 x100)])))) (J119 x99)))))) (J8 x99))

def F_exchange_Collect (x1 : Int) (x2 : Int) (x3 : List TMail) : Option (List TPair × Int) :=
  (jn (fun (x7 : List TMail) => (cond ((((x7).length : Nat) : Int) == (0 : Int)) (some (([] : List TPair), (9 : Int))) (jn ((jn (fun (x13 : List TPair) => (some (x13, (0 : Int)))) (fun J15 => (F_exchange_Collect_L1 x7 J15 (((((x7).length : Nat) : Int)).toNat + 1) (([] : List TPair)) ((0 : Int)))))) (fun J11 => (F_exchange_Collect_L2 x7 J11 (((((x7).length : Nat) : Int)).toNat + 1) ((0 : Int))))))) (fun J8 => (F_exchange_Collect_L3 x3 x1 x2 J8 (((((x3).length : Nat) : Int)).toNat + 1) (([] : List TMail)) ((0 : Int)))))

set_option maxRecDepth 100000 in
theorem W_exchange_Collect {V : View} (x1 : Int) (x2 : Int) (x3 : List TMail) {a4 : Option Addr} {k4 : Nat} (h4 : SlAt cTMail V a4 k4 x3) {r : List TPair × Int} (hF : F_exchange_Collect x1 x2 x3 = some r) :
    Spec Tryz.prog 20 [.int .i64 (x1), .int .i64 (x2), .slice a4 ((x3).length) (k4)] V (fun V' v => ∃ (a124 : Option Addr) (k124 : Nat), v = .tuple ⟨[.slice a124 ((r.1).length) (k124), .int .i64 (r.2)]⟩ ∧ SlAt cTPair V' a124 k124 r.1) := by
  unfold F_exchange_Collect at hF
  refine Spec.enter (T := tyT) Tryz.func20 rfl (by kernel_rfl) rfl rfl rfl ?_
  refine Exec.run tyOk 16 rfl ?_
  refine Exec.row0 50 5 rfl ?_
  have h5 : RowRep cTMail V ([] : List TMail) [] := RowRep.nil
  obtain ⟨J8, hJ8, hF⟩ := jn_some hF
  refine Exec.seam (fun L' V' M' => ∃ (x7 : List TMail) (a6 : Option Addr) (k6 : Nat) (cs6 : List Value), L' = [(8, .v (.slice a6 ((x7).length) (k6)))] ∧ M' = [.row (.slice a6 ((x7).length) (k6)) cs6 50 5] ∧ RowRep cTMail V' x7 cs6 ∧ J8 x7 = some r) rfl ?_ ?_
  · rintro L' V9 M' ⟨x7, a6, k6, cs6, rfl, rfl, h6, hF⟩
    subst hJ8
    refine Exec.run tyOk 400 rfl ?_
    rcases cond_some hF with ⟨hb, hF⟩ | ⟨hb, hF⟩
    · skip
      refine Exec.ifT rfl hb ?_
      refine Exec.run tyOk 400 rfl ?_
      obtain rfl := some_inj hF
      exact Exec.ret tyOk rfl rfl ⟨_, _, rfl, SlAt.nil⟩
    · skip
      refine Exec.ifF rfl hb ?_
      refine Exec.run tyOk 8 rfl ?_
      obtain ⟨J11, hJ11, hF⟩ := jn_some hF
      refine Exec.seam (fun L' V' M' => L' = [(8, .v (.slice a6 ((x7).length) (k6)))] ∧ M' = [.row (.slice a6 ((x7).length) (k6)) cs6 50 5] ∧ RowRep cTMail V' x7 cs6 ∧ J11 = some r) rfl ?_ ?_
      · rintro L' V12 M' ⟨rfl, rfl, h10, hF⟩
        subst hJ11
        refine Exec.run tyOk 11 rfl ?_
        obtain ⟨J15, hJ15, hF⟩ := jn_some hF
        refine Exec.seam (fun L' V' M' => ∃ (x13 : List TPair) (a14 : Option Addr) (k14 : Nat), L' = [(13, .v (.slice a14 ((x13).length) (k14)))] ∧ M' = [] ∧ SlAt cTPair V' a14 k14 x13 ∧ J15 x13 = some r) rfl ?_ ?_
        · rintro L' V16 M' ⟨x13, a14, k14, rfl, rfl, h14, hF⟩
          subst hJ15
          refine Exec.run tyOk 400 rfl ?_
          obtain rfl := some_inj hF
          exact Exec.ret tyOk rfl rfl ⟨_, _, rfl, h14⟩
        · skip
          refine Exec.run tyOk 400 rfl ?_
          refine Exec.frz 0 rfl rfl rfl (fun V55 hv55 hd55 hn55 => ?_)
          have hz55 := RowRep.slat h10 hv55 hd55 hn55
          refine Exec.cut 0 [(8, .v (.slice a6 ((x7).length) (k6))), (13, .v (.slice none (0) (0))), (59, .v (.slice a6 ((x7).length) (k6))), (60, .v (.int .i64 ((((x7).length : Nat) : Int)))), (61, .v (.int .i64 ((0 : Int))))] (M' := []) rfl ⟨rfl, rfl, rfl, rfl, rfl, trivial⟩ rfl rfl rfl ?_
          refine Exec.loop (fun n59 L' V' M' => ∃ (x56 : List TPair) (a57 : Option Addr) (k57 : Nat) (x58 : Int), L' = [(8, .v (.slice a6 ((x7).length) (k6))), (13, .v (.slice a57 ((x56).length) (k57))), (59, .v (.slice a6 ((x7).length) (k6))), (60, .v (.int .i64 ((((x7).length : Nat) : Int)))), (61, .v (.int .i64 (x58)))] ∧ M' = [] ∧ SlAt cTPair V' a57 k57 x56 ∧ SlAt cTMail V' a6 k6 x7 ∧ F_exchange_Collect_L1 x7 J15 n59 x56 x58 = some r) ⟨(((((x7).length : Nat) : Int)).toNat + 1), [(8, .v (.slice a6 ((x7).length) (k6))), (13, .v (.slice none (0) (0))), (59, .v (.slice a6 ((x7).length) (k6))), (60, .v (.int .i64 ((((x7).length : Nat) : Int)))), (61, .v (.int .i64 ((0 : Int))))], ⟨rfl, rfl, rfl, rfl, rfl, trivial⟩, ([] : List TPair), none, 0, (0 : Int), rfl, rfl, SlAt.nil, hz55, hF⟩ ?_
          rintro n59 L' V60 M' ⟨x56, a57, k57, x58, rfl, rfl, h57, h61, hF⟩
          rcases n59 with _ | n59
          · exact absurd hF (by simp [F_exchange_Collect_L1])
          rw [F_exchange_Collect_L1] at hF
          refine Exec.run tyOk 400 rfl ?_
          rcases cond_some hF with ⟨hb, hF⟩ | ⟨hb, hF⟩
          · skip
            refine Exec.ifT rfl hb ?_
            refine Exec.run tyOk 400 rfl ?_
            obtain ⟨q62, hF⟩ := req_some hF
            obtain ⟨c63, hr63, hd63⟩ := SlAt.get h61 q62
            obtain ⟨a64, k64, a65, k65, rfl, h64, h65⟩ := hr63
            refine Exec.ia tyOk rfl rfl ⟨q62.1, q62.2, hd63.some⟩ ?_
            refine Exec.run tyOk 400 rfl ?_
            refine Exec.ld tyOk (x := .agg ⟨[.int .i64 ((atI x7 x58).Txn), .int .i64 ((atI x7 x58).From), .int .i64 ((atI x7 x58).To), .slice a64 (((atI x7 x58).Keys).length) (k64), .slice a65 (((atI x7 x58).Pairs).length) (k65)]⟩) rfl rfl hd63 rfl rfl ?_
            refine Exec.run tyOk 400 rfl ?_
            obtain ⟨q66, hF⟩ := req_some hF
            refine Exec.slv tyOk (c := cTMail) rfl rfl (lo := (0 : Int)) (hi := x58) rfl rfl h61 (by simp) rfl q66 (fun a67 k67 h67 => ?_)
            refine Exec.run tyOk 400 rfl ?_
            refine Exec.openB 0 rfl rfl rfl rfl (fun _ => rfl) (fun _ => rfl) (fun V68 b68 hv68 hd68 => ?_)
            have h69 := SlAt.mono h61 hv68
            have h70 := SlAt.mono h57 hv68
            have h71 := SlAt.mono h64 hv68
            have h72 := SlAt.mono h65 hv68
            have h74 := SlAt.mono h67 hv68
            refine Exec.mkf rfl rfl ?_
            refine Exec.run tyOk 400 rfl ?_
            obtain ⟨x77, hx77, hF⟩ := bnd_some hF
            refine Exec.callS (.bool (x77)) rfl rfl (W_slices_ContainsFunc_api_Mail_api_Mail (((x7.take (x58).toNat).drop ((0 : Int)).toNat)) (fun y0 => F_exchange_Collect_2 y0 ((atI x7 x58))) h74 (fun V' hv y0 _ r hrp hr => by obtain ⟨_, _, _, _, rfl, s0, s1⟩ := hrp; exact W_exchange_Collect_2 y0 ((atI x7 x58)) s0 s1 (SlAt.mono h71 hv) (SlAt.mono h72 hv) (RdAt.mono hd68 hv) hr) hx77) ?_
            refine Exec.run tyOk 400 rfl ?_
            rcases cond_some hF with ⟨hb, hF⟩ | ⟨hb, hF⟩
            · skip
              refine Exec.ifT rfl hb ?_
              refine Exec.run tyOk 400 rfl ?_
              obtain rfl := some_inj hF
              exact Exec.ret tyOk rfl rfl ⟨_, _, rfl, SlAt.nil⟩
            · skip
              refine Exec.ifF rfl hb ?_
              refine Exec.run tyOk 400 rfl ?_
              refine Exec.ld tyOk (x := .slice a65 (((atI x7 x58).Pairs).length) (k65)) rfl rfl (RdAt.shift (RdAt.part hd68 4 1 rfl)) rfl rfl ?_
              refine Exec.run tyOk 400 rfl ?_
              obtain ⟨x78, hx78, hF⟩ := bnd_some hF
              refine Exec.call rfl rfl (W_state_Union x56 ((atI x7 x58).Pairs) h70 h72 hx78) ?_
              rintro V80 _ hv80 ⟨a79, k79, rfl, h79⟩
              have h81 := SlAt.mono h69 hv80
              have h82 := SlAt.mono h70 hv80
              have h83 := RdAt.mono hd68 hv80
              have h84 := SlAt.mono h71 hv80
              have h85 := SlAt.mono h72 hv80
              have h87 := SlAt.mono h74 hv80
              refine Exec.run tyOk 400 rfl ?_
              rcases cond_some hF with ⟨hb, hF⟩ | ⟨hb, hF⟩
              · skip
                refine Exec.ifT rfl hb ?_
                refine Exec.run tyOk 400 rfl ?_
                obtain rfl := some_inj hF
                exact Exec.ret tyOk rfl rfl ⟨_, _, rfl, SlAt.nil⟩
              · skip
                refine Exec.ifF rfl hb ?_
                refine Exec.run tyOk 400 rfl ?_
                refine Exec.cut 0 [(8, .v (.slice a6 ((x7).length) (k6))), (13, .v (.slice a79 ((x78.1).length) (k79))), (59, .v (.slice a6 ((x7).length) (k6))), (60, .v (.int .i64 ((((x7).length : Nat) : Int)))), (61, .v (.int .i64 ((IntKind.i64.wrap (x58 + (1 : Int))))))] (M' := []) rfl ⟨rfl, rfl, rfl, rfl, rfl, trivial⟩ rfl rfl rfl ?_
                exact Exec.round [(8, .v (.slice a6 ((x7).length) (k6))), (13, .v (.slice a79 ((x78.1).length) (k79))), (59, .v (.slice a6 ((x7).length) (k6))), (60, .v (.int .i64 ((((x7).length : Nat) : Int)))), (61, .v (.int .i64 ((IntKind.i64.wrap (x58 + (1 : Int))))))] ⟨rfl, rfl, rfl, rfl, rfl, trivial⟩ ⟨n59, Nat.lt_succ_self _, x78.1, a79, k79, (IntKind.i64.wrap (x58 + (1 : Int))), rfl, rfl, h79, h81, hF⟩
          · skip
            refine Exec.ifF rfl hb ?_
            refine Exec.run tyOk 400 rfl ?_
            exact Exec.round [(13, .v (.slice a57 ((x56).length) (k57)))] ⟨rfl, trivial⟩ ⟨x56, a57, k57, rfl, rfl, h57, hF⟩
      · skip
        refine Exec.run tyOk 400 rfl ?_
        refine Exec.loop (fun n90 L' V' M' => ∃ (x89 : Int), L' = [(8, .v (.slice a6 ((x7).length) (k6))), (48, .v (.slice a6 ((x7).length) (k6))), (49, .v (.int .i64 ((((x7).length : Nat) : Int)))), (50, .v (.int .i64 (x89)))] ∧ M' = [.row (.slice a6 ((x7).length) (k6)) cs6 50 5] ∧ RowRep cTMail V' x7 cs6 ∧ F_exchange_Collect_L2 x7 J11 n90 x89 = some r) ⟨(((((x7).length : Nat) : Int)).toNat + 1), [(8, .v (.slice a6 ((x7).length) (k6))), (48, .v (.slice a6 ((x7).length) (k6))), (49, .v (.int .i64 ((((x7).length : Nat) : Int)))), (50, .v (.int .i64 ((0 : Int))))], ⟨rfl, rfl, rfl, rfl, trivial⟩, (0 : Int), rfl, rfl, h6, hF⟩ ?_
        rintro n90 L' V91 M' ⟨x89, rfl, rfl, h88, hF⟩
        rcases n90 with _ | n90
        · exact absurd hF (by simp [F_exchange_Collect_L2])
        rw [F_exchange_Collect_L2] at hF
        refine Exec.run tyOk 400 rfl ?_
        rcases cond_some hF with ⟨hb, hF⟩ | ⟨hb, hF⟩
        · skip
          refine Exec.ifT rfl hb ?_
          refine Exec.run tyOk 400 rfl ?_
          obtain ⟨q92, hF⟩ := req_some hF
          refine Exec.rowI 0 rfl (fun ra93 rb93 rc93 => ?_)
          obtain ⟨c94, hr94, hd94⟩ := RowRep.get h88 q92
          obtain ⟨a95, k95, a96, k96, rfl, h95, h96⟩ := hr94
          have rd93 : 0 ≤ x89 ∧ x89 < (((x7).length : Nat) : Int) := q92
          have rs93 := rb93 (by omega)
          refine Exec.ia tyOk rfl rfl ⟨rd93.1, rd93.2, rs93⟩ ?_
          refine Exec.run tyOk 400 rfl ?_
          refine Exec.ldR tyOk 0 (x := .agg ⟨[.int .i64 ((atI x7 x89).Txn), .int .i64 ((atI x7 x89).From), .int .i64 ((atI x7 x89).To), .slice a95 (((atI x7 x89).Keys).length) (k95), .slice a96 (((atI x7 x89).Pairs).length) (k96)]⟩) rfl rfl rfl ⟨hd94, rs93⟩ rfl rfl ?_
          refine Exec.run tyOk 400 rfl ?_
          obtain ⟨x97, hx97, hF⟩ := bnd_some hF
          refine Exec.callS (.bool (x97)) rfl rfl (W_state_Valid ((atI x7 x89).Pairs) h96 hx97) ?_
          refine Exec.run tyOk 400 rfl ?_
          rcases cond_some hF with ⟨hb, hF⟩ | ⟨hb, hF⟩
          · skip
            refine Exec.ifT rfl hb ?_
            refine Exec.run tyOk 400 rfl ?_
            obtain rfl := some_inj hF
            exact Exec.ret tyOk rfl rfl ⟨_, _, rfl, SlAt.nil⟩
          · skip
            refine Exec.ifF rfl hb ?_
            refine Exec.run tyOk 400 rfl ?_
            refine Exec.cut 1 [(8, .v (.slice a6 ((x7).length) (k6))), (48, .v (.slice a6 ((x7).length) (k6))), (49, .v (.int .i64 ((((x7).length : Nat) : Int)))), (50, .v (.int .i64 ((IntKind.i64.wrap (x89 + (1 : Int))))))] (M' := [.row (.slice a6 ((x7).length) (k6)) cs6 50 5]) rfl ⟨rfl, rfl, rfl, rfl, trivial⟩ rfl rfl rfl ?_
            exact Exec.round [(8, .v (.slice a6 ((x7).length) (k6))), (48, .v (.slice a6 ((x7).length) (k6))), (49, .v (.int .i64 ((((x7).length : Nat) : Int)))), (50, .v (.int .i64 ((IntKind.i64.wrap (x89 + (1 : Int))))))] ⟨rfl, rfl, rfl, rfl, trivial⟩ ⟨n90, Nat.lt_succ_self _, (IntKind.i64.wrap (x89 + (1 : Int))), rfl, rfl, h88, hF⟩
        · skip
          refine Exec.ifF rfl hb ?_
          refine Exec.run tyOk 400 rfl ?_
          exact Exec.round [(8, .v (.slice a6 ((x7).length) (k6)))] ⟨rfl, trivial⟩ ⟨rfl, rfl, h88, hF⟩
  · skip
    refine Exec.run tyOk 400 rfl ?_
    refine Exec.loop (fun n101 L' V' M' => ∃ (x99 : List TMail) (a98 : Option Addr) (k98 : Nat) (cs98 : List Value) (x100 : Int), L' = [(0, .v (.int .i64 (x1))), (1, .v (.int .i64 (x2))), (8, .v (.slice a98 ((x99).length) (k98))), (18, .v (.slice a4 ((x3).length) (k4))), (19, .v (.int .i64 ((((x3).length : Nat) : Int)))), (20, .v (.int .i64 (x100)))] ∧ M' = [.row (.slice a98 ((x99).length) (k98)) cs98 50 5] ∧ RowRep cTMail V' x99 cs98 ∧ SlAt cTMail V' a4 k4 x3 ∧ F_exchange_Collect_L3 x3 x1 x2 J8 n101 x99 x100 = some r) ⟨(((((x3).length : Nat) : Int)).toNat + 1), [(0, .v (.int .i64 (x1))), (1, .v (.int .i64 (x2))), (8, .v (.slice none ((([] : List TMail)).length) (0))), (18, .v (.slice a4 ((x3).length) (k4))), (19, .v (.int .i64 ((((x3).length : Nat) : Int)))), (20, .v (.int .i64 ((0 : Int))))], ⟨rfl, rfl, rfl, rfl, rfl, rfl, trivial⟩, ([] : List TMail), none, 0, [], (0 : Int), rfl, rfl, h5, h4, hF⟩ ?_
    rintro n101 L' V102 M' ⟨x99, a98, k98, cs98, x100, rfl, rfl, h98, h103, hF⟩
    rcases n101 with _ | n101
    · exact absurd hF (by simp [F_exchange_Collect_L3])
    rw [F_exchange_Collect_L3] at hF
    refine Exec.run tyOk 400 rfl ?_
    rcases cond_some hF with ⟨hb, hF⟩ | ⟨hb, hF⟩
    · skip
      refine Exec.ifT rfl hb ?_
      refine Exec.run tyOk 400 rfl ?_
      obtain ⟨q104, hF⟩ := req_some hF
      obtain ⟨c105, hr105, hd105⟩ := SlAt.get h103 q104
      obtain ⟨a106, k106, a107, k107, rfl, h106, h107⟩ := hr105
      refine Exec.ia tyOk rfl rfl ⟨q104.1, q104.2, hd105.some⟩ ?_
      refine Exec.run tyOk 400 rfl ?_
      refine Exec.ld tyOk (x := .agg ⟨[.int .i64 ((atI x3 x100).Txn), .int .i64 ((atI x3 x100).From), .int .i64 ((atI x3 x100).To), .slice a106 (((atI x3 x100).Keys).length) (k106), .slice a107 (((atI x3 x100).Pairs).length) (k107)]⟩) rfl rfl hd105 rfl rfl ?_
      refine Exec.run tyOk 400 rfl ?_
      refine Exec.openB 1 rfl rfl rfl rfl (fun _ => rfl) (fun _ => rfl) (fun V108 b108 hv108 hd108 => ?_)
      have h109 := SlAt.mono h106 hv108
      have h110 := SlAt.mono h107 hv108
      have h111 := SlAt.mono h103 hv108
      have h113 := RowRep.mono hv108 h98
      refine Exec.mkf rfl rfl ?_
      refine Exec.run tyOk 400 rfl ?_
      obtain ⟨x116, hx116, hF⟩ := bnd_some hF
      refine Exec.callL (.bool (x116)) rfl rfl (fun _ hv hl => fun gg0 => W_slices_ContainsFunc_api_Mail_api_Mail x99 (fun y0 => F_exchange_Collect_1 y0 ((atI x3 x100))) (RowRep.slat h113 hv (hl 0 _ _ _ _ _ _ rfl).1 (hl 0 _ _ _ _ _ _ rfl).2) (fun V' hv2 y0 _ r hrp hr => by obtain ⟨_, _, _, _, rfl, s0, s1⟩ := hrp; exact W_exchange_Collect_1 y0 ((atI x3 x100)) s0 s1 (SlAt.mono h109 (hv.trans hv2)) (SlAt.mono h110 (hv.trans hv2)) (RdAt.mono hd108 (hv.trans hv2)) hr) (gcall_some hx116 (gd1_of gg0))) ?_
      refine Exec.run tyOk 400 rfl ?_
      obtain ⟨J119, hJ119, hF⟩ := jn_some hF
      refine Exec.seam (fun L' V' M' => ∃ (x118 : List TMail) (a117 : Option Addr) (k117 : Nat) (cs117 : List Value), L' = [(0, .v (.int .i64 (x1))), (1, .v (.int .i64 (x2))), (8, .v (.slice a117 ((x118).length) (k117))), (18, .v (.slice a4 ((x3).length) (k4))), (19, .v (.int .i64 ((((x3).length : Nat) : Int)))), (20, .v (.int .i64 (x100)))] ∧ M' = [.row (.slice a117 ((x118).length) (k117)) cs117 50 5] ∧ RowRep cTMail V' x118 cs117 ∧ SlAt cTMail V' a4 k4 x3 ∧ J119 x118 = some r) rfl ?_ ?_
      · rintro L' V120 M' ⟨x118, a117, k117, cs117, rfl, rfl, h117, h121, hF⟩
        subst hJ119
        refine Exec.run tyOk 400 rfl ?_
        exact Exec.round [(0, .v (.int .i64 (x1))), (1, .v (.int .i64 (x2))), (8, .v (.slice a117 ((x118).length) (k117))), (18, .v (.slice a4 ((x3).length) (k4))), (19, .v (.int .i64 ((((x3).length : Nat) : Int)))), (20, .v (.int .i64 ((IntKind.i64.wrap (x100 + (1 : Int))))))] ⟨rfl, rfl, rfl, rfl, rfl, rfl, trivial⟩ ⟨n101, Nat.lt_succ_self _, x118, a117, k117, cs117, (IntKind.i64.wrap (x100 + (1 : Int))), rfl, rfl, h117, h121, hF⟩
      · skip
        refine Exec.run tyOk 400 rfl ?_
        rcases cond_some hF with ⟨hb, hF⟩ | ⟨hb, hF⟩
        · skip
          refine Exec.ifT rfl hb ?_
          refine Exec.run tyOk 400 rfl ?_
          refine Exec.ld tyOk (x := .agg ⟨[.int .i64 ((atI x3 x100).Txn), .int .i64 ((atI x3 x100).From), .int .i64 ((atI x3 x100).To), .slice a106 (((atI x3 x100).Keys).length) (k106), .slice a107 (((atI x3 x100).Pairs).length) (k107)]⟩) rfl rfl hd108 rfl rfl ?_
          refine Exec.run tyOk 400 rfl ?_
          refine Exec.bsl tyOk rfl rfl ?_
          refine Exec.run tyOk 400 rfl ?_
          obtain ⟨q123, hF⟩ := req_some hF
          refine Exec.app tyOk 0 2 (nm := ((x99 ++ [(atI x3 x100)])).length) rfl rfl rfl rfl rfl rfl rfl rfl rfl (by simp) (fun _ _ => rfl) rfl q123 (fun a122 k122 => ?_)
          have h122 : RowRep cTMail V108 (x99 ++ [(atI x3 x100)]) (cs98 ++ [.int .i64 ((atI x3 x100).Txn), .int .i64 ((atI x3 x100).From), .int .i64 ((atI x3 x100).To), .slice a106 (((atI x3 x100).Keys).length) (k106), .slice a107 (((atI x3 x100).Pairs).length) (k107)]) := RowRep.app h113 ⟨_, _, rfl, ⟨_, _, _, _, rfl, h109, h110⟩, rfl⟩
          refine Exec.run tyOk 400 rfl ?_
          refine Exec.cut 1 [(0, .v (.int .i64 (x1))), (1, .v (.int .i64 (x2))), (8, .v (.slice a122 (((x99 ++ [(atI x3 x100)])).length) (k122))), (18, .v (.slice a4 ((x3).length) (k4))), (19, .v (.int .i64 ((((x3).length : Nat) : Int)))), (20, .v (.int .i64 (x100)))] (M' := [.row (.slice a122 (((x99 ++ [(atI x3 x100)])).length) (k122)) ((cs98 ++ [.int .i64 ((atI x3 x100).Txn), .int .i64 ((atI x3 x100).From), .int .i64 ((atI x3 x100).To), .slice a106 (((atI x3 x100).Keys).length) (k106), .slice a107 (((atI x3 x100).Pairs).length) (k107)])) 50 5]) rfl ⟨rfl, rfl, rfl, rfl, rfl, rfl, trivial⟩ rfl rfl rfl ?_
          exact Exec.round [(0, .v (.int .i64 (x1))), (1, .v (.int .i64 (x2))), (8, .v (.slice a122 (((x99 ++ [(atI x3 x100)])).length) (k122))), (18, .v (.slice a4 ((x3).length) (k4))), (19, .v (.int .i64 ((((x3).length : Nat) : Int)))), (20, .v (.int .i64 (x100)))] ⟨rfl, rfl, rfl, rfl, rfl, rfl, trivial⟩ ⟨(x99 ++ [(atI x3 x100)]), a122, k122, (cs98 ++ [.int .i64 ((atI x3 x100).Txn), .int .i64 ((atI x3 x100).From), .int .i64 ((atI x3 x100).To), .slice a106 (((atI x3 x100).Keys).length) (k106), .slice a107 (((atI x3 x100).Pairs).length) (k107)]), rfl, rfl, h122, h111, hF⟩
        · skip
          refine Exec.ifF rfl hb ?_
          refine Exec.run tyOk 400 rfl ?_
          refine Exec.cut 1 [(0, .v (.int .i64 (x1))), (1, .v (.int .i64 (x2))), (8, .v (.slice a98 ((x99).length) (k98))), (18, .v (.slice a4 ((x3).length) (k4))), (19, .v (.int .i64 ((((x3).length : Nat) : Int)))), (20, .v (.int .i64 (x100)))] (M' := [.row (.slice a98 ((x99).length) (k98)) cs98 50 5]) rfl ⟨rfl, rfl, rfl, rfl, rfl, rfl, trivial⟩ rfl rfl rfl ?_
          exact Exec.round [(0, .v (.int .i64 (x1))), (1, .v (.int .i64 (x2))), (8, .v (.slice a98 ((x99).length) (k98))), (18, .v (.slice a4 ((x3).length) (k4))), (19, .v (.int .i64 ((((x3).length : Nat) : Int)))), (20, .v (.int .i64 (x100)))] ⟨rfl, rfl, rfl, rfl, rfl, rfl, trivial⟩ ⟨x99, a98, k98, cs98, rfl, rfl, h113, h111, hF⟩
    · skip
      refine Exec.ifF rfl hb ?_
      refine Exec.run tyOk 400 rfl ?_
      exact Exec.round [(8, .v (.slice a98 ((x99).length) (k98)))] ⟨rfl, trivial⟩ ⟨x99, a98, k98, cs98, rfl, rfl, h98, hF⟩

end Go.Proofs.YtcgmfmpfmfjmoaaGreat
