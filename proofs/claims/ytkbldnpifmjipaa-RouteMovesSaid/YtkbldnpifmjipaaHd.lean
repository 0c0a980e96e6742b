/-
  Functions of the program as their counterparts say them (printed by a program).
  Conditions: none.
-/
import Derived.Test.YtkbldnpifmjipaaHc
set_option linter.all false
namespace Go.Proofs.Ytkbldnpifmjipaa

def F_placement_Index_L2 (x3 : Str) (x1 : TPlacement) (x9 : Int) (J6 : Int → Option Int) (J14 : Int → Option Int) : Nat → Int → Int → Option Int
  | 0, _, _ => none
  | n21 + 1, x19, x20 => (req (((((decide (x20 < ((x3).length : Int)))) == true) && (((x20 == (((atI x1.Parts x9).From).length : Int))) == false)) = true → 0 ≤ x20 ∧ x20 < (((atI x1.Parts x9).From).length : Int)) (req (((((decide (x20 < ((x3).length : Int)))) == true) && (((x20 == (((atI x1.Parts x9).From).length : Int))) == false)) = true → 0 ≤ x20 ∧ x20 < ((x3).length : Int)) (cond ((x20 == (((atI x1.Parts x9).From).length : Int)) || ((decide (x20 < ((x3).length : Int))) && (decide ((byteAt ((atI x1.Parts x9).From) (x20).toNat) < (byteAt x3 (x20).toNat))))) (J6 x9) (req ((((x20 == ((x3).length : Int))) == false) = true → 0 ≤ x20 ∧ x20 < (((atI x1.Parts x9).From).length : Int)) (req ((((x20 == ((x3).length : Int))) == false) = true → 0 ≤ x20 ∧ x20 < ((x3).length : Int)) (cond ((x20 == ((x3).length : Int)) || (decide ((byteAt x3 (x20).toNat) < (byteAt ((atI x1.Parts x9).From) (x20).toNat)))) (J14 x19) (F_placement_Index_L2 x3 x1 x9 J6 J14 n21 x19 ((IntKind.i64.wrap (x20 + (1 : Int)))))))))))

def F_placement_Index_L1 (x1 : TPlacement) (x3 : Str) (J6 : Int → Option Int) : Nat → Int → Int → Option Int
  | 0, _, _ => none
  | n10 + 1, x8, x9 => (cond (decide ((0 : Int) < x9)) (jn (fun (x13 : Int) => (F_placement_Index_L1 x1 x3 J6 n10 x13 ((IntKind.i64.wrap (x9 - (1 : Int)))))) (fun J14 => (req (0 ≤ x9 ∧ x9 < ((x1.Parts).length : Int)) (F_placement_Index_L2 x3 x1 x9 J6 J14 (1000000 : Nat) x8 ((0 : Int)))))) (J6 x8))

def F_placement_Index (x1 : TPlacement) (x3 : Str) : Option Int :=
  (bnd (F_placement_Valid x1) fun x4 => (cond (!x4) (some (-1 : Int)) (jn (fun (x5 : Int) => (some x5)) (fun J6 => (F_placement_Index_L1 x1 x3 J6 (((IntKind.i64.wrap ((((x1.Parts).length : Nat) : Int) - (1 : Int)))).toNat + 1) ((0 : Int)) ((IntKind.i64.wrap ((((x1.Parts).length : Nat) : Int) - (1 : Int)))))))))

set_option maxRecDepth 100000 in
theorem W_placement_Index {V : View} (x1 : TPlacement) (x3 : Str) {a2 : Option Addr} {k2 : Nat} (h2 : SlAt cTPart V a2 k2 x1.Parts) {r : Int} (hF : F_placement_Index x1 x3 = some r) :
    Spec Try.prog 45 [.agg ⟨[.int .i64 (x1.Version), .slice a2 ((x1.Parts).length) (k2)]⟩, .string ⟨⟨x3⟩⟩] V (fun _ v => v = .int .i64 (r)) := by
  unfold F_placement_Index at hF
  refine Spec.enter (T := tyT) Try.func45 rfl (by kernel_rfl) rfl rfl rfl ?_
  refine Exec.run tyOk 400 rfl ?_
  refine Exec.scope ?_
  refine Exec.run tyOk 400 rfl ?_
  obtain ⟨x4, hx4, hF⟩ := bnd_some hF
  refine Exec.callS (.bool (x4)) rfl rfl (W_placement_Valid x1 h2 hx4) ?_
  refine Exec.run tyOk 400 rfl ?_
  rcases cond_some hF with ⟨hb, hF⟩ | ⟨hb, hF⟩
  · skip
    refine Exec.ifT rfl hb ?_
    refine Exec.run tyOk 400 rfl ?_
    obtain rfl := some_inj hF
    exact Exec.ret tyOk rfl rfl rfl
  · skip
    refine Exec.ifF rfl hb ?_
    refine Exec.run tyOk 16 rfl ?_
    obtain ⟨J6, hJ6, hF⟩ := jn_some hF
    refine Exec.seam (fun L' V' M' => ∃ (x5 : Int), L' = [(5, .v (.int .i64 (x5)))] ∧ M' = [] ∧ J6 x5 = some r) rfl ?_ ?_
    · rintro L' V7 M' ⟨x5, rfl, rfl, hF⟩
      subst hJ6
      refine Exec.run tyOk 400 rfl ?_
      obtain rfl := some_inj hF
      exact Exec.ret tyOk rfl rfl rfl
    · skip
      refine Exec.run tyOk 400 rfl ?_
      refine Exec.loop (fun n10 L' V' M' => ∃ (x8 : Int) (x9 : Int), L' = [(1, .v (.string ⟨⟨x3⟩⟩)), (2, .ptr 0 0), (5, .v (.int .i64 (x8))), (6, .v (.int .i64 (x9)))] ∧ M' = [.blk [.v (.int .i64 (x1.Version)), .v (.slice a2 ((x1.Parts).length) (k2))] 24] ∧ SlAt cTPart V' a2 k2 x1.Parts ∧ F_placement_Index_L1 x1 x3 J6 n10 x8 x9 = some r) ⟨(((IntKind.i64.wrap ((((x1.Parts).length : Nat) : Int) - (1 : Int)))).toNat + 1), [(1, .v (.string ⟨⟨x3⟩⟩)), (2, .ptr 0 0), (5, .v (.int .i64 ((0 : Int)))), (6, .v (.int .i64 ((IntKind.i64.wrap ((((x1.Parts).length : Nat) : Int) - (1 : Int))))))], ⟨rfl, rfl, rfl, rfl, trivial⟩, (0 : Int), (IntKind.i64.wrap ((((x1.Parts).length : Nat) : Int) - (1 : Int))), rfl, rfl, h2, hF⟩ ?_
      rintro n10 L' V11 M' ⟨x8, x9, rfl, rfl, h12, hF⟩
      rcases n10 with _ | n10
      · exact absurd hF (by simp [F_placement_Index_L1])
      rw [F_placement_Index_L1] at hF
      refine Exec.run tyOk 400 rfl ?_
      rcases cond_some hF with ⟨hb, hF⟩ | ⟨hb, hF⟩
      · skip
        refine Exec.ifT rfl hb ?_
        refine Exec.run tyOk 2 rfl ?_
        obtain ⟨J14, hJ14, hF⟩ := jn_some hF
        refine Exec.seam (fun L' V' M' => ∃ (x13 : Int), L' = [(1, .v (.string ⟨⟨x3⟩⟩)), (2, .ptr 0 0), (5, .v (.int .i64 (x13))), (6, .v (.int .i64 (x9)))] ∧ M' = [.blk [.v (.int .i64 (x1.Version)), .v (.slice a2 ((x1.Parts).length) (k2))] 24] ∧ SlAt cTPart V' a2 k2 x1.Parts ∧ J14 x13 = some r) rfl ?_ ?_
        · rintro L' V15 M' ⟨x13, rfl, rfl, h16, hF⟩
          subst hJ14
          refine Exec.run tyOk 400 rfl ?_
          exact Exec.round [(1, .v (.string ⟨⟨x3⟩⟩)), (2, .ptr 0 0), (5, .v (.int .i64 (x13))), (6, .v (.int .i64 ((IntKind.i64.wrap (x9 - (1 : Int))))))] ⟨rfl, rfl, rfl, rfl, trivial⟩ ⟨n10, Nat.lt_succ_self _, x13, (IntKind.i64.wrap (x9 - (1 : Int))), rfl, rfl, h16, hF⟩
        · skip
          refine Exec.run tyOk 400 rfl ?_
          obtain ⟨q17, hF⟩ := req_some hF
          obtain ⟨c18, hr18, hd18⟩ := SlAt.get h12 q17
          obtain rfl := hr18
          refine Exec.ia tyOk rfl rfl ⟨q17.1, q17.2, hd18.some⟩ ?_
          refine Exec.run tyOk 400 rfl ?_
          refine Exec.ld tyOk (x := .string ⟨⟨(atI x1.Parts x9).From⟩⟩) rfl rfl (RdAt.part hd18 1 1 rfl) rfl rfl ?_
          refine Exec.run tyOk 400 rfl ?_
          refine Exec.loop (fun n21 L' V' M' => ∃ (x19 : Int) (x20 : Int), L' = [(1, .v (.string ⟨⟨x3⟩⟩)), (2, .ptr 0 0), (5, .v (.int .i64 (x19))), (6, .v (.int .i64 (x9))), (7, .v (.string ⟨⟨(atI x1.Parts x9).From⟩⟩)), (8, .v (.int .i64 (x20)))] ∧ M' = [.blk [.v (.int .i64 (x1.Version)), .v (.slice a2 ((x1.Parts).length) (k2))] 24] ∧ SlAt cTPart V' a2 k2 x1.Parts ∧ F_placement_Index_L2 x3 x1 x9 J6 J14 n21 x19 x20 = some r) ⟨(1000000 : Nat), [(1, .v (.string ⟨⟨x3⟩⟩)), (2, .ptr 0 0), (5, .v (.int .i64 (x8))), (6, .v (.int .i64 (x9))), (7, .v (.string ⟨⟨(atI x1.Parts x9).From⟩⟩)), (8, .v (.int .i64 ((0 : Int))))], ⟨rfl, rfl, rfl, rfl, rfl, rfl, trivial⟩, x8, (0 : Int), rfl, rfl, h12, hF⟩ ?_
          rintro n21 L' V22 M' ⟨x19, x20, rfl, rfl, h23, hF⟩
          rcases n21 with _ | n21
          · exact absurd hF (by simp [F_placement_Index_L2])
          rw [F_placement_Index_L2] at hF
          refine Exec.run tyOk 400 rfl ?_
          refine Exec.draws tyOk [(0, true), (1, true), (2, true), (3, true), (4, true), (5, true), (6, true), (7, true), (8, true), (9, true), (10, true), (11, true), (12, true), (13, true), (14, true), (15, true), (16, true), (17, true), (18, true), (19, true)] rfl (by kernel_rfl) ?_
          refine Exec.run tyOk 400 rfl ?_
          obtain ⟨q24, hF⟩ := req_some hF
          refine Exec.fidx tyOk rfl rfl rfl (fun gg0 gg1 => q24 (gd2_of gg0 gg1)) ?_
          refine Exec.run tyOk 400 rfl ?_
          obtain ⟨q25, hF⟩ := req_some hF
          refine Exec.fidx tyOk rfl rfl rfl (fun gg0 gg1 => q25 (gd2_of gg0 gg1)) ?_
          refine Exec.run tyOk 400 rfl ?_
          rcases cond_some hF with ⟨hb, hF⟩ | ⟨hb, hF⟩
          · skip
            refine Exec.ifT rfl hb ?_
            refine Exec.run tyOk 400 rfl ?_
            refine Exec.cut 0 [(5, .v (.int .i64 (x9)))] (M' := []) rfl ⟨rfl, trivial⟩ rfl rfl rfl ?_
            exact Exec.round [(5, .v (.int .i64 (x9)))] ⟨rfl, trivial⟩ ⟨x9, rfl, rfl, hF⟩
          · skip
            refine Exec.ifF rfl hb ?_
            refine Exec.run tyOk 400 rfl ?_
            refine Exec.draws tyOk [(0, true), (1, true), (2, true), (3, true), (4, true), (5, true), (6, true), (7, true), (8, true), (9, true), (10, true), (11, true), (12, true), (13, true)] rfl (by kernel_rfl) ?_
            refine Exec.run tyOk 400 rfl ?_
            obtain ⟨q26, hF⟩ := req_some hF
            refine Exec.fidx tyOk rfl rfl rfl (fun gg0 => q26 (gd1_of gg0)) ?_
            refine Exec.run tyOk 400 rfl ?_
            obtain ⟨q27, hF⟩ := req_some hF
            refine Exec.fidx tyOk rfl rfl rfl (fun gg0 => q27 (gd1_of gg0)) ?_
            refine Exec.run tyOk 400 rfl ?_
            rcases cond_some hF with ⟨hb, hF⟩ | ⟨hb, hF⟩
            · skip
              refine Exec.ifT rfl hb ?_
              refine Exec.run tyOk 400 rfl ?_
              exact Exec.round [(1, .v (.string ⟨⟨x3⟩⟩)), (2, .ptr 0 0), (5, .v (.int .i64 (x19))), (6, .v (.int .i64 (x9)))] ⟨rfl, rfl, rfl, rfl, trivial⟩ ⟨x19, rfl, rfl, h23, hF⟩
            · skip
              refine Exec.ifF rfl hb ?_
              refine Exec.run tyOk 400 rfl ?_
              exact Exec.round [(1, .v (.string ⟨⟨x3⟩⟩)), (2, .ptr 0 0), (5, .v (.int .i64 (x19))), (6, .v (.int .i64 (x9))), (7, .v (.string ⟨⟨(atI x1.Parts x9).From⟩⟩)), (8, .v (.int .i64 ((IntKind.i64.wrap (x20 + (1 : Int))))))] ⟨rfl, rfl, rfl, rfl, rfl, rfl, trivial⟩ ⟨n21, Nat.lt_succ_self _, x19, (IntKind.i64.wrap (x20 + (1 : Int))), rfl, rfl, h23, hF⟩
      · skip
        refine Exec.ifF rfl hb ?_
        refine Exec.run tyOk 400 rfl ?_
        refine Exec.cut 0 [(5, .v (.int .i64 (x8)))] (M' := []) rfl ⟨rfl, trivial⟩ rfl rfl rfl ?_
        exact Exec.round [(5, .v (.int .i64 (x8)))] ⟨rfl, trivial⟩ ⟨x8, rfl, rfl, hF⟩

def F_clockworkref19_Valid (x1 : TFootprint) : Option Bool :=
  (cond x1.All (some (((((x1.Reads).length : Nat) : Int) == (0 : Int)) && ((((x1.Writes).length : Nat) : Int) == (0 : Int)))) (bnd (gcall ((((decide ((((x1.Reads).length : Nat) : Int) ≤ (64 : Int))) && (decide ((((x1.Writes).length : Nat) : Int) ≤ (64 : Int))))) == true) (F_clockworkref04_Ascending x1.Reads)) fun x4 => (bnd (gcall (((((decide ((((x1.Reads).length : Nat) : Int) ≤ (64 : Int))) && (decide ((((x1.Writes).length : Nat) : Int) ≤ (64 : Int)))) && x4)) == true) (F_clockworkref04_Ascending x1.Writes)) fun x5 => (some ((((decide ((((x1.Reads).length : Nat) : Int) ≤ (64 : Int))) && (decide ((((x1.Writes).length : Nat) : Int) ≤ (64 : Int)))) && x4) && x5)))))

set_option maxRecDepth 100000 in
theorem W_clockworkref19_Valid {V : View} (x1 : TFootprint) {a2 : Option Addr} {k2 : Nat} {a3 : Option Addr} {k3 : Nat} (h2 : SlAt cStr V a2 k2 x1.Reads) (h3 : SlAt cStr V a3 k3 x1.Writes) {r : Bool} (hF : F_clockworkref19_Valid x1 = some r) :
    Spec Try.prog 51 [.agg ⟨[.bool (x1.All), .slice a2 ((x1.Reads).length) (k2), .slice a3 ((x1.Writes).length) (k3)]⟩] V (fun _ v => v = .bool (r)) := by
  unfold F_clockworkref19_Valid at hF
  refine Spec.enter (T := tyT) Try.func51 rfl (by kernel_rfl) rfl rfl rfl ?_
  refine Exec.run tyOk 400 rfl ?_
  rcases cond_some hF with ⟨hb, hF⟩ | ⟨hb, hF⟩
  · skip
    refine Exec.ifT rfl hb ?_
    refine Exec.run tyOk 400 rfl ?_
    obtain rfl := some_inj hF
    exact Exec.ret tyOk rfl rfl rfl
  · skip
    refine Exec.ifF rfl hb ?_
    refine Exec.run tyOk 400 rfl ?_
    obtain ⟨x4, hx4, hF⟩ := bnd_some hF
    refine Exec.callS (.bool (x4)) rfl rfl (fun gg0 => W_clockworkref04_Ascending x1.Reads h2 (gcall_some hx4 (gd1_of gg0))) ?_
    refine Exec.run tyOk 400 rfl ?_
    obtain ⟨x5, hx5, hF⟩ := bnd_some hF
    refine Exec.callS (.bool (x5)) rfl rfl (fun gg0 => W_clockworkref04_Ascending x1.Writes h3 (gcall_some hx5 (gd1_of gg0))) ?_
    refine Exec.run tyOk 400 rfl ?_
    obtain rfl := some_inj hF
    exact Exec.ret tyOk rfl rfl rfl

def F_clockworkref29_Owner (x1 : TPlacement) (x3 : Str) : Option Int :=
  (bnd (F_clockworkref29_Index x1 x3) fun x4 => (cond (decide (x4 < (0 : Int))) (some (0 : Int)) (req (0 ≤ x4 ∧ x4 < ((x1.Parts).length : Int)) (req (((((atI x1.Parts x4).Dest != (0 : Int))) == true) = true → 0 ≤ x4 ∧ x4 < ((x1.Parts).length : Int)) (cond (((atI x1.Parts x4).Dest != (0 : Int)) && (sLt x3 (cond ((((atI x1.Parts x4).Dest != (0 : Int))) == true) (atI x1.Parts x4) default).Done)) (req (0 ≤ x4 ∧ x4 < ((x1.Parts).length : Int)) (some (atI x1.Parts x4).Dest)) (req (0 ≤ x4 ∧ x4 < ((x1.Parts).length : Int)) (some (atI x1.Parts x4).Node)))))))

set_option maxRecDepth 100000 in
theorem W_clockworkref29_Owner {V : View} (x1 : TPlacement) (x3 : Str) {a2 : Option Addr} {k2 : Nat} (h2 : SlAt cTPart V a2 k2 x1.Parts) {r : Int} (hF : F_clockworkref29_Owner x1 x3 = some r) :
    Spec Try.prog 52 [.agg ⟨[.int .i64 (x1.Version), .slice a2 ((x1.Parts).length) (k2)]⟩, .string ⟨⟨x3⟩⟩] V (fun _ v => v = .int .i64 (r)) := by
  unfold F_clockworkref29_Owner at hF
  refine Spec.enter (T := tyT) Try.func52 rfl (by kernel_rfl) rfl rfl rfl ?_
  refine Exec.run tyOk 400 rfl ?_
  obtain ⟨x4, hx4, hF⟩ := bnd_some hF
  refine Exec.callS (.int .i64 (x4)) rfl rfl (W_clockworkref29_Index x1 x3 h2 hx4) ?_
  refine Exec.run tyOk 400 rfl ?_
  rcases cond_some hF with ⟨hb, hF⟩ | ⟨hb, hF⟩
  · skip
    refine Exec.ifT rfl hb ?_
    refine Exec.run tyOk 400 rfl ?_
    obtain rfl := some_inj hF
    exact Exec.ret tyOk rfl rfl rfl
  · skip
    refine Exec.ifF rfl hb ?_
    refine Exec.run tyOk 400 rfl ?_
    obtain ⟨q5, hF⟩ := req_some hF
    obtain ⟨c6, hr6, hd6⟩ := SlAt.get h2 q5
    obtain rfl := hr6
    refine Exec.ia tyOk rfl rfl ⟨q5.1, q5.2, hd6.some⟩ ?_
    refine Exec.run tyOk 400 rfl ?_
    refine Exec.ld tyOk (x := .int .i64 ((atI x1.Parts x4).Dest)) rfl rfl (RdAt.part hd6 3 1 rfl) rfl rfl ?_
    refine Exec.run tyOk 400 rfl ?_
    obtain ⟨q7, hF⟩ := req_some hF
    obtain ⟨c8, hr8, hd8⟩ := SlAt.gget ((((atI x1.Parts x4).Dest != (0 : Int))) == true) h2 q7
    obtain rfl := hr8
    refine Exec.ia tyOk rfl rfl (fun gg0 => ⟨(q7 (gd1_of gg0)).1, (q7 (gd1_of gg0)).2, (hd8 (gd1_of gg0)).some⟩) ?_
    refine Exec.run tyOk 400 rfl ?_
    refine Exec.ld tyOk (x := .string ⟨⟨(cond ((((atI x1.Parts x4).Dest != (0 : Int))) == true) (atI x1.Parts x4) default).Done⟩⟩) rfl rfl (fun gg0 => (RdAt.part (hd8 (gd1_of gg0)) 4 1 rfl)) rfl rfl ?_
    refine Exec.run tyOk 400 rfl ?_
    rcases cond_some hF with ⟨hb, hF⟩ | ⟨hb, hF⟩
    · skip
      refine Exec.ifT rfl hb ?_
      refine Exec.run tyOk 400 rfl ?_
      obtain ⟨q9, hF⟩ := req_some hF
      obtain ⟨c10, hr10, hd10⟩ := SlAt.get h2 q9
      obtain rfl := hr10
      refine Exec.ia tyOk rfl rfl ⟨q9.1, q9.2, hd10.some⟩ ?_
      refine Exec.run tyOk 400 rfl ?_
      refine Exec.ld tyOk (x := .int .i64 ((atI x1.Parts x4).Dest)) rfl rfl (RdAt.part hd10 3 1 rfl) rfl rfl ?_
      refine Exec.run tyOk 400 rfl ?_
      obtain rfl := some_inj hF
      exact Exec.ret tyOk rfl rfl rfl
    · skip
      refine Exec.ifF rfl hb ?_
      refine Exec.run tyOk 400 rfl ?_
      obtain ⟨q11, hF⟩ := req_some hF
      obtain ⟨c12, hr12, hd12⟩ := SlAt.get h2 q11
      obtain rfl := hr12
      refine Exec.ia tyOk rfl rfl ⟨q11.1, q11.2, hd12.some⟩ ?_
      refine Exec.run tyOk 400 rfl ?_
      refine Exec.ld tyOk (x := .int .i64 ((atI x1.Parts x4).Node)) rfl rfl (RdAt.part hd12 2 1 rfl) rfl rfl ?_
      refine Exec.run tyOk 400 rfl ?_
      obtain rfl := some_inj hF
      exact Exec.ret tyOk rfl rfl rfl

def F_slices_BinarySearch_string_string_L1 (x1 : List Str) (x3 : Str) (J5 : Int → Option (Int × Bool)) : Nat → Int → Int → Option (Int × Bool)
  | 0, _, _ => none
  | n16 + 1, x14, x15 => (cond (decide (x14 < x15)) (req (0 ≤ (1 : Int)) (req (0 ≤ (IntKind.i64.wrap (shrI .u64 (IntKind.u64.wrap (IntKind.i64.wrap (x14 + x15))) (1 : Int))) ∧ (IntKind.i64.wrap (shrI .u64 (IntKind.u64.wrap (IntKind.i64.wrap (x14 + x15))) (1 : Int))) < ((x1).length : Int)) (bnd (F_cmp_Less_string ((atI x1 ((IntKind.i64.wrap (shrI .u64 (IntKind.u64.wrap (IntKind.i64.wrap (x14 + x15))) (1 : Int)))))) x3) fun x22 => (cond x22 (F_slices_BinarySearch_string_string_L1 x1 x3 J5 n16 ((IntKind.i64.wrap ((IntKind.i64.wrap (shrI .u64 (IntKind.u64.wrap (IntKind.i64.wrap (x14 + x15))) (1 : Int))) + (1 : Int)))) x15) (F_slices_BinarySearch_string_string_L1 x1 x3 J5 n16 x14 ((IntKind.i64.wrap (shrI .u64 (IntKind.u64.wrap (IntKind.i64.wrap (x14 + x15))) (1 : Int))))))))) (J5 x14))

def F_slices_BinarySearch_string_string (x1 : List Str) (x3 : Str) : Option (Int × Bool) :=
  (jn (fun (x4 : Int) => (req ((((decide (x4 < (((x1).length : Nat) : Int)))) == true) = true → 0 ≤ x4 ∧ x4 < ((x1).length : Int)) (req ((((((cond (((decide (x4 < (((x1).length : Nat) : Int)))) == true) (atI x1 x4) default) == x3)) == false) && (((decide (x4 < (((x1).length : Nat) : Int)))) == true)) = true → 0 ≤ x4 ∧ x4 < ((x1).length : Int)) (bnd (gcall (((((cond (((decide (x4 < (((x1).length : Nat) : Int)))) == true) (atI x1 x4) default) == x3)) == false) && (((decide (x4 < (((x1).length : Nat) : Int)))) == true)) (F_slices_isNaN_string ((cond (((((cond (((decide (x4 < (((x1).length : Nat) : Int)))) == true) (atI x1 x4) default) == x3)) == false) && (((decide (x4 < (((x1).length : Nat) : Int)))) == true)) (atI x1 x4) default)))) fun x12 => (bnd (gcall (((x12) == true) && (((((cond (((decide (x4 < (((x1).length : Nat) : Int)))) == true) (atI x1 x4) default) == x3)) == false) && (((decide (x4 < (((x1).length : Nat) : Int)))) == true))) (F_slices_isNaN_string x3)) fun x13 => (some (x4, ((decide (x4 < (((x1).length : Nat) : Int))) && (((cond (((decide (x4 < (((x1).length : Nat) : Int)))) == true) (atI x1 x4) default) == x3) || (x12 && x13)))))))))) (fun J5 => (F_slices_BinarySearch_string_string_L1 x1 x3 J5 (1000000 : Nat) ((0 : Int)) ((((x1).length : Nat) : Int)))))

set_option maxRecDepth 100000 in
theorem W_slices_BinarySearch_string_string {V : View} (x1 : List Str) (x3 : Str) {a2 : Option Addr} {k2 : Nat} (h2 : SlAt cStr V a2 k2 x1) {r : Int × Bool} (hF : F_slices_BinarySearch_string_string x1 x3 = some r) :
    Spec Try.prog 57 [.slice a2 ((x1).length) (k2), .string ⟨⟨x3⟩⟩] V (fun _ v => v = .tuple ⟨[.int .i64 (r.1), .bool (r.2)]⟩) := by
  unfold F_slices_BinarySearch_string_string at hF
  refine Spec.enter (T := tyT) Try.func57 rfl (by kernel_rfl) rfl rfl rfl ?_
  refine Exec.run tyOk 18 rfl ?_
  obtain ⟨J5, hJ5, hF⟩ := jn_some hF
  refine Exec.seam (fun L' V' M' => ∃ (x4 : Int), L' = [(0, .v (.slice a2 ((x1).length) (k2))), (1, .v (.string ⟨⟨x3⟩⟩)), (6, .v (.int .i64 ((((x1).length : Nat) : Int)))), (7, .v (.int .i64 (x4)))] ∧ M' = [] ∧ SlAt cStr V' a2 k2 x1 ∧ J5 x4 = some r) rfl ?_ ?_
  · rintro L' V6 M' ⟨x4, rfl, rfl, h7, hF⟩
    subst hJ5
    refine Exec.run tyOk 400 rfl ?_
    obtain ⟨q8, hF⟩ := req_some hF
    obtain ⟨c9, hr9, hd9⟩ := SlAt.gget (((decide (x4 < (((x1).length : Nat) : Int)))) == true) h7 q8
    obtain rfl := hr9
    refine Exec.ia tyOk rfl rfl (fun gg0 => ⟨(q8 (gd1_of gg0)).1, (q8 (gd1_of gg0)).2, (hd9 (gd1_of gg0)).some⟩) ?_
    refine Exec.run tyOk 400 rfl ?_
    refine Exec.ld tyOk (x := .string ⟨⟨(cond (((decide (x4 < (((x1).length : Nat) : Int)))) == true) (atI x1 x4) default)⟩⟩) rfl rfl (fun gg0 => (hd9 (gd1_of gg0))) rfl rfl ?_
    refine Exec.run tyOk 400 rfl ?_
    obtain ⟨q10, hF⟩ := req_some hF
    obtain ⟨c11, hr11, hd11⟩ := SlAt.gget (((((cond (((decide (x4 < (((x1).length : Nat) : Int)))) == true) (atI x1 x4) default) == x3)) == false) && (((decide (x4 < (((x1).length : Nat) : Int)))) == true)) h7 q10
    obtain rfl := hr11
    refine Exec.ia tyOk rfl rfl (fun gg0 gg1 => ⟨(q10 (gd2_of gg0 gg1)).1, (q10 (gd2_of gg0 gg1)).2, (hd11 (gd2_of gg0 gg1)).some⟩) ?_
    refine Exec.run tyOk 400 rfl ?_
    refine Exec.ld tyOk (x := .string ⟨⟨(cond (((((cond (((decide (x4 < (((x1).length : Nat) : Int)))) == true) (atI x1 x4) default) == x3)) == false) && (((decide (x4 < (((x1).length : Nat) : Int)))) == true)) (atI x1 x4) default)⟩⟩) rfl rfl (fun gg0 gg1 => (hd11 (gd2_of gg0 gg1))) rfl rfl ?_
    refine Exec.run tyOk 400 rfl ?_
    obtain ⟨x12, hx12, hF⟩ := bnd_some hF
    refine Exec.callS (.bool (x12)) rfl rfl (fun gg0 gg1 => W_slices_isNaN_string ((cond (((((cond (((decide (x4 < (((x1).length : Nat) : Int)))) == true) (atI x1 x4) default) == x3)) == false) && (((decide (x4 < (((x1).length : Nat) : Int)))) == true)) (atI x1 x4) default))  (gcall_some hx12 (gd2_of gg0 gg1))) ?_
    refine Exec.run tyOk 400 rfl ?_
    obtain ⟨x13, hx13, hF⟩ := bnd_some hF
    refine Exec.callS (.bool (x13)) rfl rfl (fun gg0 gg1 gg2 => W_slices_isNaN_string x3  (gcall_some hx13 (gd3_of gg0 gg1 gg2))) ?_
    refine Exec.run tyOk 400 rfl ?_
    obtain rfl := some_inj hF
    exact Exec.ret tyOk rfl rfl rfl
  · skip
    refine Exec.run tyOk 400 rfl ?_
    refine Exec.loop (fun n16 L' V' M' => ∃ (x14 : Int) (x15 : Int), L' = [(0, .v (.slice a2 ((x1).length) (k2))), (1, .v (.string ⟨⟨x3⟩⟩)), (6, .v (.int .i64 ((((x1).length : Nat) : Int)))), (7, .v (.int .i64 (x14))), (8, .v (.int .i64 (x15)))] ∧ M' = [] ∧ SlAt cStr V' a2 k2 x1 ∧ F_slices_BinarySearch_string_string_L1 x1 x3 J5 n16 x14 x15 = some r) ⟨(1000000 : Nat), [(0, .v (.slice a2 ((x1).length) (k2))), (1, .v (.string ⟨⟨x3⟩⟩)), (6, .v (.int .i64 ((((x1).length : Nat) : Int)))), (7, .v (.int .i64 ((0 : Int)))), (8, .v (.int .i64 ((((x1).length : Nat) : Int))))], ⟨rfl, rfl, rfl, rfl, rfl, trivial⟩, (0 : Int), (((x1).length : Nat) : Int), rfl, rfl, h2, hF⟩ ?_
    rintro n16 L' V17 M' ⟨x14, x15, rfl, rfl, h18, hF⟩
    rcases n16 with _ | n16
    · exact absurd hF (by simp [F_slices_BinarySearch_string_string_L1])
    rw [F_slices_BinarySearch_string_string_L1] at hF
    refine Exec.run tyOk 400 rfl ?_
    rcases cond_some hF with ⟨hb, hF⟩ | ⟨hb, hF⟩
    · skip
      refine Exec.ifT rfl hb ?_
      refine Exec.run tyOk 400 rfl ?_
      obtain ⟨q19, hF⟩ := req_some hF
      refine Exec.ari rfl rfl q19 ?_
      refine Exec.run tyOk 400 rfl ?_
      obtain ⟨q20, hF⟩ := req_some hF
      obtain ⟨c21, hr21, hd21⟩ := SlAt.get h18 q20
      obtain rfl := hr21
      refine Exec.ia tyOk rfl rfl ⟨q20.1, q20.2, hd21.some⟩ ?_
      refine Exec.run tyOk 400 rfl ?_
      refine Exec.ld tyOk (x := .string ⟨⟨(atI x1 ((IntKind.i64.wrap (shrI .u64 (IntKind.u64.wrap (IntKind.i64.wrap (x14 + x15))) (1 : Int)))))⟩⟩) rfl rfl hd21 rfl rfl ?_
      refine Exec.run tyOk 400 rfl ?_
      obtain ⟨x22, hx22, hF⟩ := bnd_some hF
      refine Exec.callS (.bool (x22)) rfl rfl (W_cmp_Less_string ((atI x1 ((IntKind.i64.wrap (shrI .u64 (IntKind.u64.wrap (IntKind.i64.wrap (x14 + x15))) (1 : Int)))))) x3  hx22) ?_
      refine Exec.run tyOk 400 rfl ?_
      rcases cond_some hF with ⟨hb, hF⟩ | ⟨hb, hF⟩
      · skip
        refine Exec.ifT rfl hb ?_
        refine Exec.run tyOk 400 rfl ?_
        exact Exec.round [(0, .v (.slice a2 ((x1).length) (k2))), (1, .v (.string ⟨⟨x3⟩⟩)), (6, .v (.int .i64 ((((x1).length : Nat) : Int)))), (7, .v (.int .i64 ((IntKind.i64.wrap ((IntKind.i64.wrap (shrI .u64 (IntKind.u64.wrap (IntKind.i64.wrap (x14 + x15))) (1 : Int))) + (1 : Int)))))), (8, .v (.int .i64 (x15)))] ⟨rfl, rfl, rfl, rfl, rfl, trivial⟩ ⟨n16, Nat.lt_succ_self _, (IntKind.i64.wrap ((IntKind.i64.wrap (shrI .u64 (IntKind.u64.wrap (IntKind.i64.wrap (x14 + x15))) (1 : Int))) + (1 : Int))), x15, rfl, rfl, h18, hF⟩
      · skip
        refine Exec.ifF rfl hb ?_
        refine Exec.run tyOk 400 rfl ?_
        exact Exec.round [(0, .v (.slice a2 ((x1).length) (k2))), (1, .v (.string ⟨⟨x3⟩⟩)), (6, .v (.int .i64 ((((x1).length : Nat) : Int)))), (7, .v (.int .i64 (x14))), (8, .v (.int .i64 ((IntKind.i64.wrap (shrI .u64 (IntKind.u64.wrap (IntKind.i64.wrap (x14 + x15))) (1 : Int))))))] ⟨rfl, rfl, rfl, rfl, rfl, trivial⟩ ⟨n16, Nat.lt_succ_self _, x14, (IntKind.i64.wrap (shrI .u64 (IntKind.u64.wrap (IntKind.i64.wrap (x14 + x15))) (1 : Int))), rfl, rfl, h18, hF⟩
    · skip
      refine Exec.ifF rfl hb ?_
      refine Exec.run tyOk 400 rfl ?_
      exact Exec.round [(0, .v (.slice a2 ((x1).length) (k2))), (1, .v (.string ⟨⟨x3⟩⟩)), (6, .v (.int .i64 ((((x1).length : Nat) : Int)))), (7, .v (.int .i64 (x14)))] ⟨rfl, rfl, rfl, rfl, trivial⟩ ⟨x14, rfl, rfl, h18, hF⟩

def F_footprint_Valid (x1 : TFootprint) : Option Bool :=
  (cond x1.All (some (((((x1.Reads).length : Nat) : Int) == (0 : Int)) && ((((x1.Writes).length : Nat) : Int) == (0 : Int)))) (bnd (F_footprint_ascending x1.Reads) fun x4 => (bnd (gcall ((x4) == true) (F_footprint_ascending x1.Writes)) fun x5 => (some (x4 && x5)))))

set_option maxRecDepth 100000 in
theorem W_footprint_Valid {V : View} (x1 : TFootprint) {a2 : Option Addr} {k2 : Nat} {a3 : Option Addr} {k3 : Nat} (h2 : SlAt cStr V a2 k2 x1.Reads) (h3 : SlAt cStr V a3 k3 x1.Writes) {r : Bool} (hF : F_footprint_Valid x1 = some r) :
    Spec Try.prog 19 [.agg ⟨[.bool (x1.All), .slice a2 ((x1.Reads).length) (k2), .slice a3 ((x1.Writes).length) (k3)]⟩] V (fun _ v => v = .bool (r)) := by
  unfold F_footprint_Valid at hF
  refine Spec.enter (T := tyT) Try.func19 rfl (by kernel_rfl) rfl rfl rfl ?_
  refine Exec.run tyOk 400 rfl ?_
  rcases cond_some hF with ⟨hb, hF⟩ | ⟨hb, hF⟩
  · skip
    refine Exec.ifT rfl hb ?_
    refine Exec.run tyOk 400 rfl ?_
    obtain rfl := some_inj hF
    exact Exec.ret tyOk rfl rfl rfl
  · skip
    refine Exec.ifF rfl hb ?_
    refine Exec.run tyOk 400 rfl ?_
    obtain ⟨x4, hx4, hF⟩ := bnd_some hF
    refine Exec.callS (.bool (x4)) rfl rfl (W_footprint_ascending x1.Reads h2 hx4) ?_
    refine Exec.run tyOk 400 rfl ?_
    obtain ⟨x5, hx5, hF⟩ := bnd_some hF
    refine Exec.callS (.bool (x5)) rfl rfl (fun gg0 => W_footprint_ascending x1.Writes h3 (gcall_some hx5 (gd1_of gg0))) ?_
    refine Exec.run tyOk 400 rfl ?_
    obtain rfl := some_inj hF
    exact Exec.ret tyOk rfl rfl rfl

def F_placement_Owner (x1 : TPlacement) (x3 : Str) : Option Int :=
  (bnd (F_placement_Index x1 x3) fun x4 => (cond (decide (x4 < (0 : Int))) (some (0 : Int)) (req (0 ≤ x4 ∧ x4 < ((x1.Parts).length : Int)) (cond (((atI x1.Parts x4).Dest != (0 : Int)) && (sLt x3 (atI x1.Parts x4).Done)) (some (atI x1.Parts x4).Dest) (some (atI x1.Parts x4).Node)))))

set_option maxRecDepth 100000 in
theorem W_placement_Owner {V : View} (x1 : TPlacement) (x3 : Str) {a2 : Option Addr} {k2 : Nat} (h2 : SlAt cTPart V a2 k2 x1.Parts) {r : Int} (hF : F_placement_Owner x1 x3 = some r) :
    Spec Try.prog 25 [.agg ⟨[.int .i64 (x1.Version), .slice a2 ((x1.Parts).length) (k2)]⟩, .string ⟨⟨x3⟩⟩] V (fun _ v => v = .int .i64 (r)) := by
  unfold F_placement_Owner at hF
  refine Spec.enter (T := tyT) Try.func25 rfl (by kernel_rfl) rfl rfl rfl ?_
  refine Exec.run tyOk 400 rfl ?_
  obtain ⟨x4, hx4, hF⟩ := bnd_some hF
  refine Exec.callS (.int .i64 (x4)) rfl rfl (W_placement_Index x1 x3 h2 hx4) ?_
  refine Exec.run tyOk 400 rfl ?_
  rcases cond_some hF with ⟨hb, hF⟩ | ⟨hb, hF⟩
  · skip
    refine Exec.ifT rfl hb ?_
    refine Exec.run tyOk 400 rfl ?_
    obtain rfl := some_inj hF
    exact Exec.ret tyOk rfl rfl rfl
  · skip
    refine Exec.ifF rfl hb ?_
    refine Exec.run tyOk 400 rfl ?_
    obtain ⟨q5, hF⟩ := req_some hF
    obtain ⟨c6, hr6, hd6⟩ := SlAt.get h2 q5
    obtain rfl := hr6
    refine Exec.ia tyOk rfl rfl ⟨q5.1, q5.2, hd6.some⟩ ?_
    refine Exec.run tyOk 400 rfl ?_
    refine Exec.ld tyOk (x := .agg ⟨[.int .i64 ((atI x1.Parts x4).Id), .string ⟨⟨(atI x1.Parts x4).From⟩⟩, .int .i64 ((atI x1.Parts x4).Node), .int .i64 ((atI x1.Parts x4).Dest), .string ⟨⟨(atI x1.Parts x4).Done⟩⟩]⟩) rfl rfl hd6 rfl rfl ?_
    refine Exec.run tyOk 400 rfl ?_
    rcases cond_some hF with ⟨hb, hF⟩ | ⟨hb, hF⟩
    · skip
      refine Exec.ifT rfl hb ?_
      refine Exec.run tyOk 400 rfl ?_
      obtain rfl := some_inj hF
      exact Exec.ret tyOk rfl rfl rfl
    · skip
      refine Exec.ifF rfl hb ?_
      refine Exec.run tyOk 400 rfl ?_
      obtain rfl := some_inj hF
      exact Exec.ret tyOk rfl rfl rfl

def F_route_valid (x1 : TPlacement) (x3 : TFootprint) : Option Bool :=
  (bnd (F_placement_Valid x1) fun x6 => (bnd (gcall ((x6) == true) (F_footprint_Valid x3)) fun x7 => (some (x6 && x7))))

set_option maxRecDepth 100000 in
theorem W_route_valid {V : View} (x1 : TPlacement) (x3 : TFootprint) {a2 : Option Addr} {k2 : Nat} {a4 : Option Addr} {k4 : Nat} {a5 : Option Addr} {k5 : Nat} (h2 : SlAt cTPart V a2 k2 x1.Parts) (h4 : SlAt cStr V a4 k4 x3.Reads) (h5 : SlAt cStr V a5 k5 x3.Writes) {r : Bool} (hF : F_route_valid x1 x3 = some r) :
    Spec Try.prog 27 [.agg ⟨[.int .i64 (x1.Version), .slice a2 ((x1.Parts).length) (k2)]⟩, .agg ⟨[.bool (x3.All), .slice a4 ((x3.Reads).length) (k4), .slice a5 ((x3.Writes).length) (k5)]⟩] V (fun _ v => v = .bool (r)) := by
  unfold F_route_valid at hF
  refine Spec.enter (T := tyT) Try.func27 rfl (by kernel_rfl) rfl rfl rfl ?_
  refine Exec.run tyOk 400 rfl ?_
  obtain ⟨x6, hx6, hF⟩ := bnd_some hF
  refine Exec.callS (.bool (x6)) rfl rfl (W_placement_Valid x1 h2 hx6) ?_
  refine Exec.run tyOk 400 rfl ?_
  obtain ⟨x7, hx7, hF⟩ := bnd_some hF
  refine Exec.callS (.bool (x7)) rfl rfl (fun gg0 => W_footprint_Valid x3 h4 h5 (gcall_some hx7 (gd1_of gg0))) ?_
  refine Exec.run tyOk 400 rfl ?_
  obtain rfl := some_inj hF
  exact Exec.ret tyOk rfl rfl rfl

def F_clockworkref30_valid (x1 : TPlacement) (x3 : TFootprint) : Option Bool :=
  (bnd (F_clockworkref29_Valid x1) fun x6 => (bnd (gcall ((x6) == true) (F_clockworkref19_Valid x3)) fun x7 => (some (x6 && x7))))

set_option maxRecDepth 100000 in
theorem W_clockworkref30_valid {V : View} (x1 : TPlacement) (x3 : TFootprint) {a2 : Option Addr} {k2 : Nat} {a4 : Option Addr} {k4 : Nat} {a5 : Option Addr} {k5 : Nat} (h2 : SlAt cTPart V a2 k2 x1.Parts) (h4 : SlAt cStr V a4 k4 x3.Reads) (h5 : SlAt cStr V a5 k5 x3.Writes) {r : Bool} (hF : F_clockworkref30_valid x1 x3 = some r) :
    Spec Try.prog 31 [.agg ⟨[.int .i64 (x1.Version), .slice a2 ((x1.Parts).length) (k2)]⟩, .agg ⟨[.bool (x3.All), .slice a4 ((x3.Reads).length) (k4), .slice a5 ((x3.Writes).length) (k5)]⟩] V (fun _ v => v = .bool (r)) := by
  unfold F_clockworkref30_valid at hF
  refine Spec.enter (T := tyT) Try.func31 rfl (by kernel_rfl) rfl rfl rfl ?_
  refine Exec.run tyOk 400 rfl ?_
  obtain ⟨x6, hx6, hF⟩ := bnd_some hF
  refine Exec.callS (.bool (x6)) rfl rfl (W_clockworkref29_Valid x1 h2 hx6) ?_
  refine Exec.run tyOk 400 rfl ?_
  obtain ⟨x7, hx7, hF⟩ := bnd_some hF
  refine Exec.callS (.bool (x7)) rfl rfl (fun gg0 => W_clockworkref19_Valid x3 h4 h5 (gcall_some hx7 (gd1_of gg0))) ?_
  refine Exec.run tyOk 400 rfl ?_
  obtain rfl := some_inj hF
  exact Exec.ret tyOk rfl rfl rfl

def F_clockworkref30_owners_L1 (x7 : List Int) (J64 : (List Int) → Option (List Int)) : Nat → (List Int) → Int → Option (List Int)
  | 0, _, _ => none
  | n72 + 1, x70, x71 => (cond (decide (x71 ≤ (16 : Int))) (bnd (F_clockworkref30_Has x7 x71) fun x76 => (jn (fun (x78 : List Int) => (F_clockworkref30_owners_L1 x7 J64 n72 x78 ((IntKind.i64.wrap (x71 + (1 : Int)))))) (fun J79 => (cond x76 (req (((x70 ++ [x71])).length * 8 ≤ 140737488355328) (J79 ((x70 ++ [x71])))) (J79 x70))))) (J64 x70))

def F_clockworkref30_owners_L2 (x3 : List Str) (x1 : TPlacement) (J8 : (List Int) → Option (List Int)) : Nat → (List Int) → Int → Option (List Int)
  | 0, _, _ => none
  | n88 + 1, x86, x87 => (cond (decide (x87 < (((x3).length : Nat) : Int))) (req (0 ≤ x87 ∧ x87 < ((x3).length : Int)) (bnd (F_clockworkref29_Owner x1 ((atI x3 x87))) fun x94 => (req (((x86 ++ [x94])).length * 8 ≤ 140737488355328) (F_clockworkref30_owners_L2 x3 x1 J8 n88 ((x86 ++ [x94])) ((IntKind.i64.wrap (x87 + (1 : Int)))))))) (J8 x86))

def F_clockworkref30_owners (x1 : TPlacement) (x3 : List Str) : Option (List Int) :=
  (jn (fun (x7 : List Int) => (jn (fun (x63 : List Int) => (some x63)) (fun J64 => (F_clockworkref30_owners_L1 x7 J64 (((16 : Int)).toNat + 2) (([] : List Int)) ((1 : Int)))))) (fun J8 => (F_clockworkref30_owners_L2 x3 x1 J8 (((((x3).length : Nat) : Int)).toNat + 1) (([] : List Int)) ((0 : Int)))))

set_option maxRecDepth 100000 in
theorem W_clockworkref30_owners {V : View} (x1 : TPlacement) (x3 : List Str) {a2 : Option Addr} {k2 : Nat} {a4 : Option Addr} {k4 : Nat} (h2 : SlAt cTPart V a2 k2 x1.Parts) (h4 : SlAt cStr V a4 k4 x3) {r : List Int} (hF : F_clockworkref30_owners x1 x3 = some r) :
    Spec Try.prog 33 [.agg ⟨[.int .i64 (x1.Version), .slice a2 ((x1.Parts).length) (k2)]⟩, .slice a4 ((x3).length) (k4)] V (fun V' v => ∃ (a97 : Option Addr) (k97 : Nat), v = .slice a97 ((r).length) (k97) ∧ SlAt (cInt .i64) V' a97 k97 r) := by
  unfold F_clockworkref30_owners at hF
  refine Spec.enter (T := tyT) Try.func33 rfl (by kernel_rfl) rfl rfl rfl ?_
  refine Exec.run tyOk 14 rfl ?_
  refine Exec.row0 3 1 rfl ?_
  have h5 : RowRep (cInt .i64) V ([] : List Int) [] := RowRep.nil
  obtain ⟨J8, hJ8, hF⟩ := jn_some hF
  refine Exec.seam (fun L' V' M' => ∃ (x7 : List Int) (a6 : Option Addr) (k6 : Nat) (cs6 : List Value), L' = [(5, .v (.slice a6 ((x7).length) (k6)))] ∧ M' = [.blk [.v (.int .i64 (x1.Version)), .v (.slice a2 ((x1.Parts).length) (k2))] 24, .row (.slice a6 ((x7).length) (k6)) cs6 3 1] ∧ RowRep (cInt .i64) V' x7 cs6 ∧ SlAt cTPart V' a2 k2 x1.Parts ∧ J8 x7 = some r) rfl ?_ ?_
  · rintro L' V9 M' ⟨x7, a6, k6, cs6, rfl, rfl, h6, h10, hF⟩
    subst hJ8
    refine Exec.run tyOk 9 rfl ?_
    refine Exec.frz 1 rfl rfl rfl (fun V59 hv59 hd59 hn59 => ?_)
    have hz59 := RowRep.slat h6 hv59 hd59 hn59
    have h60 := SlAt.mono h10 hv59
    refine Exec.row0 3 1 rfl ?_
    have h61 : RowRep (cInt .i64) V59 ([] : List Int) [] := RowRep.nil
    obtain ⟨J64, hJ64, hF⟩ := jn_some hF
    refine Exec.seam (fun L' V' M' => ∃ (x63 : List Int) (a62 : Option Addr) (k62 : Nat) (cs62 : List Value), L' = [(7, .v (.slice a62 ((x63).length) (k62)))] ∧ M' = [.blk [.v (.int .i64 (x1.Version)), .v (.slice a2 ((x1.Parts).length) (k2))] 24, .unk, .row (.slice a62 ((x63).length) (k62)) cs62 3 1] ∧ RowRep (cInt .i64) V' x63 cs62 ∧ SlAt cTPart V' a2 k2 x1.Parts ∧ J64 x63 = some r) rfl ?_ ?_
    · rintro L' V65 M' ⟨x63, a62, k62, cs62, rfl, rfl, h62, h66, hF⟩
      subst hJ64
      refine Exec.run tyOk 400 rfl ?_
      refine Exec.frz 2 rfl rfl rfl (fun V67 hv67 hd67 hn67 => ?_)
      have hz67 := RowRep.slat h62 hv67 hd67 hn67
      have h68 := SlAt.mono h66 hv67
      obtain rfl := some_inj hF
      exact Exec.ret tyOk rfl rfl ⟨_, _, rfl, hz67⟩
    · skip
      refine Exec.run tyOk 400 rfl ?_
      refine Exec.loop (fun n72 L' V' M' => ∃ (x70 : List Int) (a69 : Option Addr) (k69 : Nat) (cs69 : List Value) (x71 : Int), L' = [(5, .v (.slice a6 ((x7).length) (k6))), (7, .v (.slice a69 ((x70).length) (k69))), (8, .v (.int .i64 (x71)))] ∧ M' = [.blk [.v (.int .i64 (x1.Version)), .v (.slice a2 ((x1.Parts).length) (k2))] 24, .unk, .row (.slice a69 ((x70).length) (k69)) cs69 3 1] ∧ RowRep (cInt .i64) V' x70 cs69 ∧ SlAt (cInt .i64) V' a6 k6 x7 ∧ SlAt cTPart V' a2 k2 x1.Parts ∧ F_clockworkref30_owners_L1 x7 J64 n72 x70 x71 = some r) ⟨(((16 : Int)).toNat + 2), [(5, .v (.slice a6 ((x7).length) (k6))), (7, .v (.slice none ((([] : List Int)).length) (0))), (8, .v (.int .i64 ((1 : Int))))], ⟨rfl, rfl, rfl, trivial⟩, ([] : List Int), none, 0, [], (1 : Int), rfl, rfl, h61, hz59, h60, hF⟩ ?_
      rintro n72 L' V73 M' ⟨x70, a69, k69, cs69, x71, rfl, rfl, h69, h74, h75, hF⟩
      rcases n72 with _ | n72
      · exact absurd hF (by simp [F_clockworkref30_owners_L1])
      rw [F_clockworkref30_owners_L1] at hF
      refine Exec.run tyOk 400 rfl ?_
      rcases cond_some hF with ⟨hb, hF⟩ | ⟨hb, hF⟩
      · skip
        refine Exec.ifT rfl hb ?_
        refine Exec.run tyOk 400 rfl ?_
        obtain ⟨x76, hx76, hF⟩ := bnd_some hF
        refine Exec.callS (.bool (x76)) rfl rfl (W_clockworkref30_Has x7 x71 h74 hx76) ?_
        refine Exec.run tyOk 400 rfl ?_
        obtain ⟨J79, hJ79, hF⟩ := jn_some hF
        refine Exec.seam (fun L' V' M' => ∃ (x78 : List Int) (a77 : Option Addr) (k77 : Nat) (cs77 : List Value), L' = [(5, .v (.slice a6 ((x7).length) (k6))), (7, .v (.slice a77 ((x78).length) (k77))), (8, .v (.int .i64 (x71)))] ∧ M' = [.blk [.v (.int .i64 (x1.Version)), .v (.slice a2 ((x1.Parts).length) (k2))] 24, .unk, .row (.slice a77 ((x78).length) (k77)) cs77 3 1] ∧ RowRep (cInt .i64) V' x78 cs77 ∧ SlAt (cInt .i64) V' a6 k6 x7 ∧ SlAt cTPart V' a2 k2 x1.Parts ∧ J79 x78 = some r) rfl ?_ ?_
        · rintro L' V80 M' ⟨x78, a77, k77, cs77, rfl, rfl, h77, h81, h82, hF⟩
          subst hJ79
          refine Exec.run tyOk 400 rfl ?_
          exact Exec.round [(5, .v (.slice a6 ((x7).length) (k6))), (7, .v (.slice a77 ((x78).length) (k77))), (8, .v (.int .i64 ((IntKind.i64.wrap (x71 + (1 : Int))))))] ⟨rfl, rfl, rfl, trivial⟩ ⟨n72, Nat.lt_succ_self _, x78, a77, k77, cs77, (IntKind.i64.wrap (x71 + (1 : Int))), rfl, rfl, h77, h81, h82, hF⟩
        · skip
          refine Exec.run tyOk 400 rfl ?_
          rcases cond_some hF with ⟨hb, hF⟩ | ⟨hb, hF⟩
          · skip
            refine Exec.ifT rfl hb ?_
            refine Exec.run tyOk 400 rfl ?_
            refine Exec.bsl tyOk rfl rfl ?_
            refine Exec.run tyOk 400 rfl ?_
            obtain ⟨q84, hF⟩ := req_some hF
            refine Exec.app tyOk 2 3 (nm := ((x70 ++ [x71])).length) rfl rfl rfl rfl rfl rfl rfl rfl rfl (by simp) (fun _ _ => rfl) rfl q84 (fun a83 k83 => ?_)
            have h83 : RowRep (cInt .i64) V73 (x70 ++ [x71]) (cs69 ++ [.int .i64 (x71)]) := RowRep.app h69 ⟨_, _, rfl, rfl, rfl⟩
            refine Exec.run tyOk 400 rfl ?_
            refine Exec.cut 3 [(5, .v (.slice a6 ((x7).length) (k6))), (7, .v (.slice a83 (((x70 ++ [x71])).length) (k83))), (8, .v (.int .i64 (x71)))] (M' := [.blk [.v (.int .i64 (x1.Version)), .v (.slice a2 ((x1.Parts).length) (k2))] 24, .unk, .row (.slice a83 (((x70 ++ [x71])).length) (k83)) ((cs69 ++ [.int .i64 (x71)])) 3 1]) rfl ⟨rfl, rfl, rfl, trivial⟩ rfl rfl rfl ?_
            exact Exec.round [(5, .v (.slice a6 ((x7).length) (k6))), (7, .v (.slice a83 (((x70 ++ [x71])).length) (k83))), (8, .v (.int .i64 (x71)))] ⟨rfl, rfl, rfl, trivial⟩ ⟨(x70 ++ [x71]), a83, k83, (cs69 ++ [.int .i64 (x71)]), rfl, rfl, h83, h74, h75, hF⟩
          · skip
            refine Exec.ifF rfl hb ?_
            refine Exec.run tyOk 400 rfl ?_
            exact Exec.round [(5, .v (.slice a6 ((x7).length) (k6))), (7, .v (.slice a69 ((x70).length) (k69))), (8, .v (.int .i64 (x71)))] ⟨rfl, rfl, rfl, trivial⟩ ⟨x70, a69, k69, cs69, rfl, rfl, h69, h74, h75, hF⟩
      · skip
        refine Exec.ifF rfl hb ?_
        refine Exec.run tyOk 400 rfl ?_
        exact Exec.round [(7, .v (.slice a69 ((x70).length) (k69)))] ⟨rfl, trivial⟩ ⟨x70, a69, k69, cs69, rfl, rfl, h69, h75, hF⟩
  · skip
    refine Exec.run tyOk 400 rfl ?_
    refine Exec.loop (fun n88 L' V' M' => ∃ (x86 : List Int) (a85 : Option Addr) (k85 : Nat) (cs85 : List Value) (x87 : Int), L' = [(1, .v (.slice a4 ((x3).length) (k4))), (2, .ptr 0 0), (5, .v (.slice a85 ((x86).length) (k85))), (6, .v (.int .i64 (x87)))] ∧ M' = [.blk [.v (.int .i64 (x1.Version)), .v (.slice a2 ((x1.Parts).length) (k2))] 24, .row (.slice a85 ((x86).length) (k85)) cs85 3 1] ∧ RowRep (cInt .i64) V' x86 cs85 ∧ SlAt cStr V' a4 k4 x3 ∧ SlAt cTPart V' a2 k2 x1.Parts ∧ F_clockworkref30_owners_L2 x3 x1 J8 n88 x86 x87 = some r) ⟨(((((x3).length : Nat) : Int)).toNat + 1), [(1, .v (.slice a4 ((x3).length) (k4))), (2, .ptr 0 0), (5, .v (.slice none ((([] : List Int)).length) (0))), (6, .v (.int .i64 ((0 : Int))))], ⟨rfl, rfl, rfl, rfl, trivial⟩, ([] : List Int), none, 0, [], (0 : Int), rfl, rfl, h5, h4, h2, hF⟩ ?_
    rintro n88 L' V89 M' ⟨x86, a85, k85, cs85, x87, rfl, rfl, h85, h90, h91, hF⟩
    rcases n88 with _ | n88
    · exact absurd hF (by simp [F_clockworkref30_owners_L2])
    rw [F_clockworkref30_owners_L2] at hF
    refine Exec.run tyOk 400 rfl ?_
    rcases cond_some hF with ⟨hb, hF⟩ | ⟨hb, hF⟩
    · skip
      refine Exec.ifT rfl hb ?_
      refine Exec.run tyOk 400 rfl ?_
      refine Exec.drawsE tyOk [8] [] [(0, true), (1, true), (2, true), (3, true), (4, true), (5, true), (6, false), (7, false), (8, false), (9, false)] (by kernel_rfl) ?_
      refine Exec.run tyOk 400 rfl ?_
      obtain ⟨q92, hF⟩ := req_some hF
      obtain ⟨c93, hr93, hd93⟩ := SlAt.get h90 q92
      obtain rfl := hr93
      refine Exec.fia tyOk rfl rfl rfl ⟨q92.1, q92.2, hd93.some⟩ ?_
      refine Exec.run tyOk 400 rfl ?_
      refine Exec.fld tyOk (x := .string ⟨⟨(atI x3 x87)⟩⟩) rfl rfl rfl hd93 rfl rfl ?_
      refine Exec.run tyOk 400 rfl ?_
      obtain ⟨x94, hx94, hF⟩ := bnd_some hF
      refine Exec.callS (.int .i64 (x94)) rfl rfl (W_clockworkref29_Owner x1 ((atI x3 x87)) h91 hx94) ?_
      refine Exec.run tyOk 400 rfl ?_
      refine Exec.bsl tyOk rfl rfl ?_
      refine Exec.run tyOk 400 rfl ?_
      obtain ⟨q96, hF⟩ := req_some hF
      refine Exec.app tyOk 1 2 (nm := ((x86 ++ [x94])).length) rfl rfl rfl rfl rfl rfl rfl rfl rfl (by simp) (fun _ _ => rfl) rfl q96 (fun a95 k95 => ?_)
      have h95 : RowRep (cInt .i64) V89 (x86 ++ [x94]) (cs85 ++ [.int .i64 (x94)]) := RowRep.app h85 ⟨_, _, rfl, rfl, rfl⟩
      refine Exec.run tyOk 400 rfl ?_
      refine Exec.cut 2 [(1, .v (.slice a4 ((x3).length) (k4))), (2, .ptr 0 0), (5, .v (.slice a95 (((x86 ++ [x94])).length) (k95))), (6, .v (.int .i64 ((IntKind.i64.wrap (x87 + (1 : Int))))))] (M' := [.blk [.v (.int .i64 (x1.Version)), .v (.slice a2 ((x1.Parts).length) (k2))] 24, .row (.slice a95 (((x86 ++ [x94])).length) (k95)) ((cs85 ++ [.int .i64 (x94)])) 3 1]) rfl ⟨rfl, rfl, rfl, rfl, trivial⟩ rfl rfl rfl ?_
      exact Exec.round [(1, .v (.slice a4 ((x3).length) (k4))), (2, .ptr 0 0), (5, .v (.slice a95 (((x86 ++ [x94])).length) (k95))), (6, .v (.int .i64 ((IntKind.i64.wrap (x87 + (1 : Int))))))] ⟨rfl, rfl, rfl, rfl, trivial⟩ ⟨n88, Nat.lt_succ_self _, (x86 ++ [x94]), a95, k95, (cs85 ++ [.int .i64 (x94)]), (IntKind.i64.wrap (x87 + (1 : Int))), rfl, rfl, h95, h90, h91, hF⟩
    · skip
      refine Exec.ifF rfl hb ?_
      refine Exec.run tyOk 400 rfl ?_
      exact Exec.round [(5, .v (.slice a85 ((x86).length) (k85)))] ⟨rfl, trivial⟩ ⟨x86, a85, k85, cs85, rfl, rfl, h85, h91, hF⟩

def F_route_owned_L1 (x3 : List Str) (x1 : TPlacement) (x5 : Int) (J9 : (List Str) → Option (List Str)) : Nat → (List Str) → Int → Option (List Str)
  | 0, _, _ => none
  | n17 + 1, x15, x16 => (cond (decide (x16 < (((x3).length : Nat) : Int))) (req (0 ≤ x16 ∧ x16 < ((x3).length : Int)) (bnd (F_placement_Owner x1 ((atI x3 x16))) fun x23 => (jn (fun (x25 : List Str) => (F_route_owned_L1 x3 x1 x5 J9 n17 x25 ((IntKind.i64.wrap (x16 + (1 : Int)))))) (fun J26 => (cond (x23 == x5) (req (((x15 ++ [(atI x3 x16)])).length * 16 ≤ 140737488355328) (J26 ((x15 ++ [(atI x3 x16)])))) (J26 x15)))))) (J9 x15))

def F_route_owned (x1 : TPlacement) (x3 : List Str) (x5 : Int) : Option (List Str) :=
  (jn (fun (x8 : List Str) => (some x8)) (fun J9 => (F_route_owned_L1 x3 x1 x5 J9 (((((x3).length : Nat) : Int)).toNat + 1) (([] : List Str)) ((0 : Int)))))

set_option maxRecDepth 100000 in
theorem W_route_owned {V : View} (x1 : TPlacement) (x3 : List Str) (x5 : Int) {a2 : Option Addr} {k2 : Nat} {a4 : Option Addr} {k4 : Nat} (h2 : SlAt cTPart V a2 k2 x1.Parts) (h4 : SlAt cStr V a4 k4 x3) {r : List Str} (hF : F_route_owned x1 x3 x5 = some r) :
    Spec Try.prog 42 [.agg ⟨[.int .i64 (x1.Version), .slice a2 ((x1.Parts).length) (k2)]⟩, .slice a4 ((x3).length) (k4), .int .i64 (x5)] V (fun V' v => ∃ (a32 : Option Addr) (k32 : Nat), v = .slice a32 ((r).length) (k32) ∧ SlAt cStr V' a32 k32 r) := by
  unfold F_route_owned at hF
  refine Spec.enter (T := tyT) Try.func42 rfl (by kernel_rfl) rfl rfl rfl ?_
  refine Exec.run tyOk 16 rfl ?_
  refine Exec.row0 9 1 rfl ?_
  have h6 : RowRep cStr V ([] : List Str) [] := RowRep.nil
  obtain ⟨J9, hJ9, hF⟩ := jn_some hF
  refine Exec.seam (fun L' V' M' => ∃ (x8 : List Str) (a7 : Option Addr) (k7 : Nat) (cs7 : List Value), L' = [(7, .v (.slice a7 ((x8).length) (k7)))] ∧ M' = [.blk [.v (.int .i64 (x1.Version)), .v (.slice a2 ((x1.Parts).length) (k2))] 24, .row (.slice a7 ((x8).length) (k7)) cs7 9 1] ∧ RowRep cStr V' x8 cs7 ∧ SlAt cTPart V' a2 k2 x1.Parts ∧ J9 x8 = some r) rfl ?_ ?_
  · rintro L' V10 M' ⟨x8, a7, k7, cs7, rfl, rfl, h7, h11, hF⟩
    subst hJ9
    refine Exec.run tyOk 400 rfl ?_
    refine Exec.frz 1 rfl rfl rfl (fun V12 hv12 hd12 hn12 => ?_)
    have hz12 := RowRep.slat h7 hv12 hd12 hn12
    have h13 := SlAt.mono h11 hv12
    obtain rfl := some_inj hF
    exact Exec.ret tyOk rfl rfl ⟨_, _, rfl, hz12⟩
  · skip
    refine Exec.run tyOk 400 rfl ?_
    refine Exec.loop (fun n17 L' V' M' => ∃ (x15 : List Str) (a14 : Option Addr) (k14 : Nat) (cs14 : List Value) (x16 : Int), L' = [(2, .v (.int .i64 (x5))), (3, .ptr 0 0), (7, .v (.slice a14 ((x15).length) (k14))), (10, .v (.slice a4 ((x3).length) (k4))), (11, .v (.int .i64 ((((x3).length : Nat) : Int)))), (12, .v (.int .i64 (x16)))] ∧ M' = [.blk [.v (.int .i64 (x1.Version)), .v (.slice a2 ((x1.Parts).length) (k2))] 24, .row (.slice a14 ((x15).length) (k14)) cs14 9 1] ∧ RowRep cStr V' x15 cs14 ∧ SlAt cStr V' a4 k4 x3 ∧ SlAt cTPart V' a2 k2 x1.Parts ∧ F_route_owned_L1 x3 x1 x5 J9 n17 x15 x16 = some r) ⟨(((((x3).length : Nat) : Int)).toNat + 1), [(2, .v (.int .i64 (x5))), (3, .ptr 0 0), (7, .v (.slice none ((([] : List Str)).length) (0))), (10, .v (.slice a4 ((x3).length) (k4))), (11, .v (.int .i64 ((((x3).length : Nat) : Int)))), (12, .v (.int .i64 ((0 : Int))))], ⟨rfl, rfl, rfl, rfl, rfl, rfl, trivial⟩, ([] : List Str), none, 0, [], (0 : Int), rfl, rfl, h6, h4, h2, hF⟩ ?_
    rintro n17 L' V18 M' ⟨x15, a14, k14, cs14, x16, rfl, rfl, h14, h19, h20, hF⟩
    rcases n17 with _ | n17
    · exact absurd hF (by simp [F_route_owned_L1])
    rw [F_route_owned_L1] at hF
    refine Exec.run tyOk 400 rfl ?_
    rcases cond_some hF with ⟨hb, hF⟩ | ⟨hb, hF⟩
    · skip
      refine Exec.ifT rfl hb ?_
      refine Exec.run tyOk 400 rfl ?_
      obtain ⟨q21, hF⟩ := req_some hF
      obtain ⟨c22, hr22, hd22⟩ := SlAt.get h19 q21
      obtain rfl := hr22
      refine Exec.ia tyOk rfl rfl ⟨q21.1, q21.2, hd22.some⟩ ?_
      refine Exec.run tyOk 400 rfl ?_
      refine Exec.ld tyOk (x := .string ⟨⟨(atI x3 x16)⟩⟩) rfl rfl hd22 rfl rfl ?_
      refine Exec.run tyOk 400 rfl ?_
      obtain ⟨x23, hx23, hF⟩ := bnd_some hF
      refine Exec.callS (.int .i64 (x23)) rfl rfl (W_placement_Owner x1 ((atI x3 x16)) h20 hx23) ?_
      refine Exec.run tyOk 400 rfl ?_
      obtain ⟨J26, hJ26, hF⟩ := jn_some hF
      refine Exec.seam (fun L' V' M' => ∃ (x25 : List Str) (a24 : Option Addr) (k24 : Nat) (cs24 : List Value), L' = [(2, .v (.int .i64 (x5))), (3, .ptr 0 0), (7, .v (.slice a24 ((x25).length) (k24))), (10, .v (.slice a4 ((x3).length) (k4))), (11, .v (.int .i64 ((((x3).length : Nat) : Int)))), (12, .v (.int .i64 (x16)))] ∧ M' = [.blk [.v (.int .i64 (x1.Version)), .v (.slice a2 ((x1.Parts).length) (k2))] 24, .row (.slice a24 ((x25).length) (k24)) cs24 9 1] ∧ RowRep cStr V' x25 cs24 ∧ SlAt cStr V' a4 k4 x3 ∧ SlAt cTPart V' a2 k2 x1.Parts ∧ J26 x25 = some r) rfl ?_ ?_
      · rintro L' V27 M' ⟨x25, a24, k24, cs24, rfl, rfl, h24, h28, h29, hF⟩
        subst hJ26
        refine Exec.run tyOk 400 rfl ?_
        exact Exec.round [(2, .v (.int .i64 (x5))), (3, .ptr 0 0), (7, .v (.slice a24 ((x25).length) (k24))), (10, .v (.slice a4 ((x3).length) (k4))), (11, .v (.int .i64 ((((x3).length : Nat) : Int)))), (12, .v (.int .i64 ((IntKind.i64.wrap (x16 + (1 : Int))))))] ⟨rfl, rfl, rfl, rfl, rfl, rfl, trivial⟩ ⟨n17, Nat.lt_succ_self _, x25, a24, k24, cs24, (IntKind.i64.wrap (x16 + (1 : Int))), rfl, rfl, h24, h28, h29, hF⟩
      · skip
        refine Exec.run tyOk 400 rfl ?_
        rcases cond_some hF with ⟨hb, hF⟩ | ⟨hb, hF⟩
        · skip
          refine Exec.ifT rfl hb ?_
          refine Exec.run tyOk 400 rfl ?_
          refine Exec.bsl tyOk rfl rfl ?_
          refine Exec.run tyOk 400 rfl ?_
          obtain ⟨q31, hF⟩ := req_some hF
          refine Exec.app tyOk 1 2 (nm := ((x15 ++ [(atI x3 x16)])).length) rfl rfl rfl rfl rfl rfl rfl rfl rfl (by simp) (fun _ _ => rfl) rfl q31 (fun a30 k30 => ?_)
          have h30 : RowRep cStr V18 (x15 ++ [(atI x3 x16)]) (cs14 ++ [.string ⟨⟨(atI x3 x16)⟩⟩]) := RowRep.app h14 ⟨_, _, rfl, rfl, rfl⟩
          refine Exec.run tyOk 400 rfl ?_
          refine Exec.cut 2 [(2, .v (.int .i64 (x5))), (3, .ptr 0 0), (7, .v (.slice a30 (((x15 ++ [(atI x3 x16)])).length) (k30))), (10, .v (.slice a4 ((x3).length) (k4))), (11, .v (.int .i64 ((((x3).length : Nat) : Int)))), (12, .v (.int .i64 (x16)))] (M' := [.blk [.v (.int .i64 (x1.Version)), .v (.slice a2 ((x1.Parts).length) (k2))] 24, .row (.slice a30 (((x15 ++ [(atI x3 x16)])).length) (k30)) ((cs14 ++ [.string ⟨⟨(atI x3 x16)⟩⟩])) 9 1]) rfl ⟨rfl, rfl, rfl, rfl, rfl, rfl, trivial⟩ rfl rfl rfl ?_
          exact Exec.round [(2, .v (.int .i64 (x5))), (3, .ptr 0 0), (7, .v (.slice a30 (((x15 ++ [(atI x3 x16)])).length) (k30))), (10, .v (.slice a4 ((x3).length) (k4))), (11, .v (.int .i64 ((((x3).length : Nat) : Int)))), (12, .v (.int .i64 (x16)))] ⟨rfl, rfl, rfl, rfl, rfl, rfl, trivial⟩ ⟨(x15 ++ [(atI x3 x16)]), a30, k30, (cs14 ++ [.string ⟨⟨(atI x3 x16)⟩⟩]), rfl, rfl, h30, h19, h20, hF⟩
        · skip
          refine Exec.ifF rfl hb ?_
          refine Exec.run tyOk 400 rfl ?_
          exact Exec.round [(2, .v (.int .i64 (x5))), (3, .ptr 0 0), (7, .v (.slice a14 ((x15).length) (k14))), (10, .v (.slice a4 ((x3).length) (k4))), (11, .v (.int .i64 ((((x3).length : Nat) : Int)))), (12, .v (.int .i64 (x16)))] ⟨rfl, rfl, rfl, rfl, rfl, rfl, trivial⟩ ⟨x15, a14, k14, cs14, rfl, rfl, h14, h19, h20, hF⟩
    · skip
      refine Exec.ifF rfl hb ?_
      refine Exec.run tyOk 400 rfl ?_
      exact Exec.round [(7, .v (.slice a14 ((x15).length) (k14)))] ⟨rfl, trivial⟩ ⟨x15, a14, k14, cs14, rfl, rfl, h14, h20, hF⟩

def F_clockworkref30_owned_L1 (x3 : List Str) (x1 : TPlacement) (x5 : Int) (J9 : (List Str) → Option (List Str)) : Nat → (List Str) → Int → Option (List Str)
  | 0, _, _ => none
  | n17 + 1, x15, x16 => (cond (decide (x16 < (((x3).length : Nat) : Int))) (req (0 ≤ x16 ∧ x16 < ((x3).length : Int)) (bnd (F_clockworkref29_Owner x1 ((atI x3 x16))) fun x23 => (jn (fun (x25 : List Str) => (F_clockworkref30_owned_L1 x3 x1 x5 J9 n17 x25 ((IntKind.i64.wrap (x16 + (1 : Int)))))) (fun J26 => (cond (x23 == x5) (req (0 ≤ x16 ∧ x16 < ((x3).length : Int)) (req (((x15 ++ [(atI x3 x16)])).length * 16 ≤ 140737488355328) (J26 ((x15 ++ [(atI x3 x16)]))))) (J26 x15)))))) (J9 x15))

def F_clockworkref30_owned (x1 : TPlacement) (x3 : List Str) (x5 : Int) : Option (List Str) :=
  (jn (fun (x8 : List Str) => (some x8)) (fun J9 => (F_clockworkref30_owned_L1 x3 x1 x5 J9 (((((x3).length : Nat) : Int)).toNat + 1) (([] : List Str)) ((0 : Int)))))

set_option maxRecDepth 100000 in
theorem W_clockworkref30_owned {V : View} (x1 : TPlacement) (x3 : List Str) (x5 : Int) {a2 : Option Addr} {k2 : Nat} {a4 : Option Addr} {k4 : Nat} (h2 : SlAt cTPart V a2 k2 x1.Parts) (h4 : SlAt cStr V a4 k4 x3) {r : List Str} (hF : F_clockworkref30_owned x1 x3 x5 = some r) :
    Spec Try.prog 43 [.agg ⟨[.int .i64 (x1.Version), .slice a2 ((x1.Parts).length) (k2)]⟩, .slice a4 ((x3).length) (k4), .int .i64 (x5)] V (fun V' v => ∃ (a34 : Option Addr) (k34 : Nat), v = .slice a34 ((r).length) (k34) ∧ SlAt cStr V' a34 k34 r) := by
  unfold F_clockworkref30_owned at hF
  refine Spec.enter (T := tyT) Try.func43 rfl (by kernel_rfl) rfl rfl rfl ?_
  refine Exec.run tyOk 14 rfl ?_
  refine Exec.row0 9 1 rfl ?_
  have h6 : RowRep cStr V ([] : List Str) [] := RowRep.nil
  obtain ⟨J9, hJ9, hF⟩ := jn_some hF
  refine Exec.seam (fun L' V' M' => ∃ (x8 : List Str) (a7 : Option Addr) (k7 : Nat) (cs7 : List Value), L' = [(7, .v (.slice a7 ((x8).length) (k7)))] ∧ M' = [.blk [.v (.int .i64 (x1.Version)), .v (.slice a2 ((x1.Parts).length) (k2))] 24, .row (.slice a7 ((x8).length) (k7)) cs7 9 1] ∧ RowRep cStr V' x8 cs7 ∧ SlAt cTPart V' a2 k2 x1.Parts ∧ J9 x8 = some r) rfl ?_ ?_
  · rintro L' V10 M' ⟨x8, a7, k7, cs7, rfl, rfl, h7, h11, hF⟩
    subst hJ9
    refine Exec.run tyOk 400 rfl ?_
    refine Exec.frz 1 rfl rfl rfl (fun V12 hv12 hd12 hn12 => ?_)
    have hz12 := RowRep.slat h7 hv12 hd12 hn12
    have h13 := SlAt.mono h11 hv12
    obtain rfl := some_inj hF
    exact Exec.ret tyOk rfl rfl ⟨_, _, rfl, hz12⟩
  · skip
    refine Exec.run tyOk 400 rfl ?_
    refine Exec.loop (fun n17 L' V' M' => ∃ (x15 : List Str) (a14 : Option Addr) (k14 : Nat) (cs14 : List Value) (x16 : Int), L' = [(1, .v (.slice a4 ((x3).length) (k4))), (2, .v (.int .i64 (x5))), (3, .ptr 0 0), (7, .v (.slice a14 ((x15).length) (k14))), (8, .v (.int .i64 (x16)))] ∧ M' = [.blk [.v (.int .i64 (x1.Version)), .v (.slice a2 ((x1.Parts).length) (k2))] 24, .row (.slice a14 ((x15).length) (k14)) cs14 9 1] ∧ RowRep cStr V' x15 cs14 ∧ SlAt cStr V' a4 k4 x3 ∧ SlAt cTPart V' a2 k2 x1.Parts ∧ F_clockworkref30_owned_L1 x3 x1 x5 J9 n17 x15 x16 = some r) ⟨(((((x3).length : Nat) : Int)).toNat + 1), [(1, .v (.slice a4 ((x3).length) (k4))), (2, .v (.int .i64 (x5))), (3, .ptr 0 0), (7, .v (.slice none ((([] : List Str)).length) (0))), (8, .v (.int .i64 ((0 : Int))))], ⟨rfl, rfl, rfl, rfl, rfl, trivial⟩, ([] : List Str), none, 0, [], (0 : Int), rfl, rfl, h6, h4, h2, hF⟩ ?_
    rintro n17 L' V18 M' ⟨x15, a14, k14, cs14, x16, rfl, rfl, h14, h19, h20, hF⟩
    rcases n17 with _ | n17
    · exact absurd hF (by simp [F_clockworkref30_owned_L1])
    rw [F_clockworkref30_owned_L1] at hF
    refine Exec.run tyOk 400 rfl ?_
    rcases cond_some hF with ⟨hb, hF⟩ | ⟨hb, hF⟩
    · skip
      refine Exec.ifT rfl hb ?_
      refine Exec.run tyOk 400 rfl ?_
      refine Exec.draws tyOk [(0, true), (1, true), (2, true), (3, true), (4, true), (6, true), (5, false), (7, false)] rfl (by kernel_rfl) ?_
      refine Exec.run tyOk 400 rfl ?_
      obtain ⟨q21, hF⟩ := req_some hF
      obtain ⟨c22, hr22, hd22⟩ := SlAt.get h19 q21
      obtain rfl := hr22
      refine Exec.fia tyOk rfl rfl rfl ⟨q21.1, q21.2, hd22.some⟩ ?_
      refine Exec.run tyOk 400 rfl ?_
      refine Exec.fld tyOk (x := .string ⟨⟨(atI x3 x16)⟩⟩) rfl rfl rfl hd22 rfl rfl ?_
      refine Exec.run tyOk 400 rfl ?_
      obtain ⟨x23, hx23, hF⟩ := bnd_some hF
      refine Exec.callS (.int .i64 (x23)) rfl rfl (W_clockworkref29_Owner x1 ((atI x3 x16)) h20 hx23) ?_
      refine Exec.run tyOk 400 rfl ?_
      obtain ⟨J26, hJ26, hF⟩ := jn_some hF
      refine Exec.seam (fun L' V' M' => ∃ (x25 : List Str) (a24 : Option Addr) (k24 : Nat) (cs24 : List Value), L' = [(1, .v (.slice a4 ((x3).length) (k4))), (2, .v (.int .i64 (x5))), (3, .ptr 0 0), (7, .v (.slice a24 ((x25).length) (k24))), (8, .v (.int .i64 (x16)))] ∧ M' = [.blk [.v (.int .i64 (x1.Version)), .v (.slice a2 ((x1.Parts).length) (k2))] 24, .row (.slice a24 ((x25).length) (k24)) cs24 9 1] ∧ RowRep cStr V' x25 cs24 ∧ SlAt cStr V' a4 k4 x3 ∧ SlAt cTPart V' a2 k2 x1.Parts ∧ J26 x25 = some r) rfl ?_ ?_
      · rintro L' V27 M' ⟨x25, a24, k24, cs24, rfl, rfl, h24, h28, h29, hF⟩
        subst hJ26
        refine Exec.run tyOk 400 rfl ?_
        exact Exec.round [(1, .v (.slice a4 ((x3).length) (k4))), (2, .v (.int .i64 (x5))), (3, .ptr 0 0), (7, .v (.slice a24 ((x25).length) (k24))), (8, .v (.int .i64 ((IntKind.i64.wrap (x16 + (1 : Int))))))] ⟨rfl, rfl, rfl, rfl, rfl, trivial⟩ ⟨n17, Nat.lt_succ_self _, x25, a24, k24, cs24, (IntKind.i64.wrap (x16 + (1 : Int))), rfl, rfl, h24, h28, h29, hF⟩
      · skip
        refine Exec.run tyOk 400 rfl ?_
        rcases cond_some hF with ⟨hb, hF⟩ | ⟨hb, hF⟩
        · skip
          refine Exec.ifT rfl hb ?_
          refine Exec.run tyOk 400 rfl ?_
          obtain ⟨q30, hF⟩ := req_some hF
          obtain ⟨c31, hr31, hd31⟩ := SlAt.get h19 q30
          obtain rfl := hr31
          refine Exec.ia tyOk rfl rfl ⟨q30.1, q30.2, hd31.some⟩ ?_
          refine Exec.run tyOk 400 rfl ?_
          refine Exec.ld tyOk (x := .string ⟨⟨(atI x3 x16)⟩⟩) rfl rfl hd31 rfl rfl ?_
          refine Exec.run tyOk 400 rfl ?_
          refine Exec.bsl tyOk rfl rfl ?_
          refine Exec.run tyOk 400 rfl ?_
          obtain ⟨q33, hF⟩ := req_some hF
          refine Exec.app tyOk 1 2 (nm := ((x15 ++ [(atI x3 x16)])).length) rfl rfl rfl rfl rfl rfl rfl rfl rfl (by simp) (fun _ _ => rfl) rfl q33 (fun a32 k32 => ?_)
          have h32 : RowRep cStr V18 (x15 ++ [(atI x3 x16)]) (cs14 ++ [.string ⟨⟨(atI x3 x16)⟩⟩]) := RowRep.app h14 ⟨_, _, rfl, rfl, rfl⟩
          refine Exec.run tyOk 400 rfl ?_
          refine Exec.cut 2 [(1, .v (.slice a4 ((x3).length) (k4))), (2, .v (.int .i64 (x5))), (3, .ptr 0 0), (7, .v (.slice a32 (((x15 ++ [(atI x3 x16)])).length) (k32))), (8, .v (.int .i64 (x16)))] (M' := [.blk [.v (.int .i64 (x1.Version)), .v (.slice a2 ((x1.Parts).length) (k2))] 24, .row (.slice a32 (((x15 ++ [(atI x3 x16)])).length) (k32)) ((cs14 ++ [.string ⟨⟨(atI x3 x16)⟩⟩])) 9 1]) rfl ⟨rfl, rfl, rfl, rfl, rfl, trivial⟩ rfl rfl rfl ?_
          exact Exec.round [(1, .v (.slice a4 ((x3).length) (k4))), (2, .v (.int .i64 (x5))), (3, .ptr 0 0), (7, .v (.slice a32 (((x15 ++ [(atI x3 x16)])).length) (k32))), (8, .v (.int .i64 (x16)))] ⟨rfl, rfl, rfl, rfl, rfl, trivial⟩ ⟨(x15 ++ [(atI x3 x16)]), a32, k32, (cs14 ++ [.string ⟨⟨(atI x3 x16)⟩⟩]), rfl, rfl, h32, h19, h20, hF⟩
        · skip
          refine Exec.ifF rfl hb ?_
          refine Exec.run tyOk 400 rfl ?_
          exact Exec.round [(1, .v (.slice a4 ((x3).length) (k4))), (2, .v (.int .i64 (x5))), (3, .ptr 0 0), (7, .v (.slice a14 ((x15).length) (k14))), (8, .v (.int .i64 (x16)))] ⟨rfl, rfl, rfl, rfl, rfl, trivial⟩ ⟨x15, a14, k14, cs14, rfl, rfl, h14, h19, h20, hF⟩
    · skip
      refine Exec.ifF rfl hb ?_
      refine Exec.run tyOk 400 rfl ?_
      exact Exec.round [(7, .v (.slice a14 ((x15).length) (k14)))] ⟨rfl, trivial⟩ ⟨x15, a14, k14, cs14, rfl, rfl, h14, h20, hF⟩

def F_footprint_within_L1 (x3 : List Str) (x1 : List Str) (J5 : Option Bool) : Nat → Int → Option Bool
  | 0, _ => none
  | n8 + 1, x7 => (cond (decide (x7 < (((x3).length : Nat) : Int))) (req (0 ≤ x7 ∧ x7 < ((x3).length : Int)) (bnd (F_slices_BinarySearch_string_string x1 ((atI x3 x7))) fun x14 => (cond (!x14.2) (some false) (F_footprint_within_L1 x3 x1 J5 n8 ((IntKind.i64.wrap (x7 + (1 : Int)))))))) J5)

def F_footprint_within (x1 : List Str) (x3 : List Str) : Option Bool :=
  (jn ((some true)) (fun J5 => (F_footprint_within_L1 x3 x1 J5 (((((x3).length : Nat) : Int)).toNat + 1) ((0 : Int)))))

set_option maxRecDepth 100000 in
theorem W_footprint_within {V : View} (x1 : List Str) (x3 : List Str) {a2 : Option Addr} {k2 : Nat} {a4 : Option Addr} {k4 : Nat} (h2 : SlAt cStr V a2 k2 x1) (h4 : SlAt cStr V a4 k4 x3) {r : Bool} (hF : F_footprint_within x1 x3 = some r) :
    Spec Try.prog 44 [.slice a2 ((x1).length) (k2), .slice a4 ((x3).length) (k4)] V (fun _ v => v = .bool (r)) := by
  unfold F_footprint_within at hF
  refine Spec.enter (T := tyT) Try.func44 rfl (by kernel_rfl) rfl rfl rfl ?_
  refine Exec.run tyOk 11 rfl ?_
  obtain ⟨J5, hJ5, hF⟩ := jn_some hF
  refine Exec.seam (fun L' V' M' => L' = [] ∧ M' = [] ∧ J5 = some r) rfl ?_ ?_
  · rintro L' V6 M' ⟨rfl, rfl, hF⟩
    subst hJ5
    refine Exec.run tyOk 400 rfl ?_
    obtain rfl := some_inj hF
    exact Exec.ret tyOk rfl rfl rfl
  · skip
    refine Exec.run tyOk 400 rfl ?_
    refine Exec.loop (fun n8 L' V' M' => ∃ (x7 : Int), L' = [(0, .v (.slice a2 ((x1).length) (k2))), (9, .v (.slice a4 ((x3).length) (k4))), (10, .v (.int .i64 ((((x3).length : Nat) : Int)))), (11, .v (.int .i64 (x7)))] ∧ M' = [] ∧ SlAt cStr V' a2 k2 x1 ∧ SlAt cStr V' a4 k4 x3 ∧ F_footprint_within_L1 x3 x1 J5 n8 x7 = some r) ⟨(((((x3).length : Nat) : Int)).toNat + 1), [(0, .v (.slice a2 ((x1).length) (k2))), (9, .v (.slice a4 ((x3).length) (k4))), (10, .v (.int .i64 ((((x3).length : Nat) : Int)))), (11, .v (.int .i64 ((0 : Int))))], ⟨rfl, rfl, rfl, rfl, trivial⟩, (0 : Int), rfl, rfl, h2, h4, hF⟩ ?_
    rintro n8 L' V9 M' ⟨x7, rfl, rfl, h10, h11, hF⟩
    rcases n8 with _ | n8
    · exact absurd hF (by simp [F_footprint_within_L1])
    rw [F_footprint_within_L1] at hF
    refine Exec.run tyOk 400 rfl ?_
    rcases cond_some hF with ⟨hb, hF⟩ | ⟨hb, hF⟩
    · skip
      refine Exec.ifT rfl hb ?_
      refine Exec.run tyOk 400 rfl ?_
      obtain ⟨q12, hF⟩ := req_some hF
      obtain ⟨c13, hr13, hd13⟩ := SlAt.get h11 q12
      obtain rfl := hr13
      refine Exec.ia tyOk rfl rfl ⟨q12.1, q12.2, hd13.some⟩ ?_
      refine Exec.run tyOk 400 rfl ?_
      refine Exec.ld tyOk (x := .string ⟨⟨(atI x3 x7)⟩⟩) rfl rfl hd13 rfl rfl ?_
      refine Exec.run tyOk 400 rfl ?_
      obtain ⟨x14, hx14, hF⟩ := bnd_some hF
      refine Exec.callS (.tuple ⟨[.int .i64 (x14.1), .bool (x14.2)]⟩) rfl rfl (W_slices_BinarySearch_string_string x1 ((atI x3 x7)) h10 hx14) ?_
      refine Exec.run tyOk 400 rfl ?_
      rcases cond_some hF with ⟨hb, hF⟩ | ⟨hb, hF⟩
      · skip
        refine Exec.ifT rfl hb ?_
        refine Exec.run tyOk 400 rfl ?_
        obtain rfl := some_inj hF
        exact Exec.ret tyOk rfl rfl rfl
      · skip
        refine Exec.ifF rfl hb ?_
        refine Exec.run tyOk 400 rfl ?_
        exact Exec.round [(0, .v (.slice a2 ((x1).length) (k2))), (9, .v (.slice a4 ((x3).length) (k4))), (10, .v (.int .i64 ((((x3).length : Nat) : Int)))), (11, .v (.int .i64 ((IntKind.i64.wrap (x7 + (1 : Int))))))] ⟨rfl, rfl, rfl, rfl, trivial⟩ ⟨n8, Nat.lt_succ_self _, (IntKind.i64.wrap (x7 + (1 : Int))), rfl, rfl, h10, h11, hF⟩
    · skip
      refine Exec.ifF rfl hb ?_
      refine Exec.run tyOk 400 rfl ?_
      exact Exec.round [] trivial ⟨rfl, rfl, hF⟩

end Go.Proofs.Ytkbldnpifmjipaa
