/-
  Functions of the program as their counterparts say them (printed by a program).
  Conditions: none.
-/
import Derived.Test.YtedbagekceppiaaGreatHc
set_option linter.all false
namespace Go.Proofs.YtedbagekceppiaaGreat

def F_placement_Range (x1 : TPlacement) (x3 : Int) : Option (TRange × Int) :=
  (bnd (F_placement_Valid x1) fun x4 => (cond (!x4) (some ((⟨[], []⟩ : TRange), (1 : Int))) (bnd (F_placement_find x1.Parts x3) fun x5 => (cond (decide (x5 < (0 : Int))) (some ((⟨[], []⟩ : TRange), (9 : Int))) (req (0 ≤ x5 ∧ x5 < ((x1.Parts).length : Int)) (jn (fun (x8 : TRange) => (some (x8, (0 : Int)))) (fun J9 => (cond (decide ((IntKind.i64.wrap (x5 + (1 : Int))) < (((x1.Parts).length : Nat) : Int))) (req (0 ≤ (IntKind.i64.wrap (x5 + (1 : Int))) ∧ (IntKind.i64.wrap (x5 + (1 : Int))) < ((x1.Parts).length : Int)) (J9 ((⟨(atI x1.Parts x5).From, (atI x1.Parts ((IntKind.i64.wrap (x5 + (1 : Int))))).From⟩ : TRange)))) (J9 ((⟨(atI x1.Parts x5).From, []⟩ : TRange)))))))))))

set_option maxRecDepth 100000 in
theorem W_placement_Range {V : View} (x1 : TPlacement) (x3 : Int) {a2 : Option Addr} {k2 : Nat} (h2 : SlAt cTPart V a2 k2 x1.Parts) {r : TRange × Int} (hF : F_placement_Range x1 x3 = some r) :
    Spec Tryz.prog 26 [.agg ⟨[.int .i64 (x1.Version), .slice a2 ((x1.Parts).length) (k2)]⟩, .int .i64 (x3)] V (fun _ v => v = .tuple ⟨[.agg ⟨[.string ⟨⟨r.1.From⟩⟩, .string ⟨⟨r.1.To⟩⟩]⟩, .int .i64 (r.2)]⟩) := by
  unfold F_placement_Range at hF
  refine Spec.enter (T := tyT) Tryz.func26 rfl (by kernel_rfl) rfl rfl rfl ?_
  refine Exec.run tyOk 400 rfl ?_
  obtain ⟨x4, hx4, hF⟩ := bnd_some hF
  refine Exec.callS (.bool (x4)) rfl rfl (W_placement_Valid x1 h2 hx4) ?_
  refine Exec.run tyOk 400 rfl ?_
  rcases cond_some hF with ⟨hb, hF⟩ | ⟨hb, hF⟩
  · skip
    refine Exec.ifT rfl hb ?_
    refine Exec.run tyOk 400 rfl ?_
    obtain rfl := some_inj hF
    exact Exec.ret tyOk rfl rfl rfl
  · skip
    refine Exec.ifF rfl hb ?_
    refine Exec.run tyOk 400 rfl ?_
    obtain ⟨x5, hx5, hF⟩ := bnd_some hF
    refine Exec.callS (.int .i64 (x5)) rfl rfl (W_placement_find x1.Parts x3 h2 hx5) ?_
    refine Exec.run tyOk 400 rfl ?_
    rcases cond_some hF with ⟨hb, hF⟩ | ⟨hb, hF⟩
    · skip
      refine Exec.ifT rfl hb ?_
      refine Exec.run tyOk 400 rfl ?_
      obtain rfl := some_inj hF
      exact Exec.ret tyOk rfl rfl rfl
    · skip
      refine Exec.ifF rfl hb ?_
      refine Exec.run tyOk 400 rfl ?_
      obtain ⟨q6, hF⟩ := req_some hF
      obtain ⟨c7, hr7, hd7⟩ := SlAt.get h2 q6
      obtain rfl := hr7
      refine Exec.ia tyOk rfl rfl ⟨q6.1, q6.2, hd7.some⟩ ?_
      refine Exec.run tyOk 400 rfl ?_
      refine Exec.ld tyOk (x := .string ⟨⟨(atI x1.Parts x5).From⟩⟩) rfl rfl (RdAt.part hd7 1 1 rfl) rfl rfl ?_
      refine Exec.run tyOk 400 rfl ?_
      obtain ⟨J9, hJ9, hF⟩ := jn_some hF
      refine Exec.seam (fun L' V' M' => ∃ (x8 : TRange), L' = [(4, .ptr 1 0), (7, .ptr 2 0)] ∧ M' = [.blk [.v (.int .i64 (x1.Version)), .v (.slice a2 ((x1.Parts).length) (k2))] 24, .blk [.v (.string ⟨⟨[]⟩⟩), .v (.string ⟨⟨[]⟩⟩)] 31, .blk [.v (.string ⟨⟨x8.From⟩⟩), .v (.string ⟨⟨x8.To⟩⟩)] 31] ∧ SlAt cTPart V' a2 k2 x1.Parts ∧ J9 x8 = some r) rfl ?_ ?_
      · rintro L' V10 M' ⟨x8, rfl, rfl, h11, hF⟩
        subst hJ9
        refine Exec.run tyOk 400 rfl ?_
        obtain rfl := some_inj hF
        exact Exec.ret tyOk rfl rfl rfl
      · skip
        refine Exec.run tyOk 400 rfl ?_
        rcases cond_some hF with ⟨hb, hF⟩ | ⟨hb, hF⟩
        · skip
          refine Exec.ifT rfl hb ?_
          refine Exec.run tyOk 400 rfl ?_
          obtain ⟨q12, hF⟩ := req_some hF
          obtain ⟨c13, hr13, hd13⟩ := SlAt.get h2 q12
          obtain rfl := hr13
          refine Exec.ia tyOk rfl rfl ⟨q12.1, q12.2, hd13.some⟩ ?_
          refine Exec.run tyOk 400 rfl ?_
          refine Exec.ld tyOk (x := .string ⟨⟨(atI x1.Parts ((IntKind.i64.wrap (x5 + (1 : Int))))).From⟩⟩) rfl rfl (RdAt.part hd13 1 1 rfl) rfl rfl ?_
          refine Exec.run tyOk 400 rfl ?_
          exact Exec.round [(4, .ptr 1 0), (7, .ptr 2 0)] ⟨rfl, rfl, trivial⟩ ⟨(⟨(atI x1.Parts x5).From, (atI x1.Parts ((IntKind.i64.wrap (x5 + (1 : Int))))).From⟩ : TRange), rfl, rfl, h2, hF⟩
        · skip
          refine Exec.ifF rfl hb ?_
          refine Exec.run tyOk 400 rfl ?_
          exact Exec.round [(4, .ptr 1 0), (7, .ptr 2 0)] ⟨rfl, rfl, trivial⟩ ⟨(⟨(atI x1.Parts x5).From, []⟩ : TRange), rfl, rfl, h2, hF⟩

def F_state_Slice_L1 (x1 : List TPair) (x3 : TRange) (J7 : (List TPair) → Option (List TPair)) : Nat → (List TPair) → Int → Option (List TPair)
  | 0, _, _ => none
  | n13 + 1, x11, x12 => (cond (decide (x12 < (((x1).length : Nat) : Int))) (req (0 ≤ x12 ∧ x12 < ((x1).length : Int)) (bnd (F_keys_Contains x3 ((atI x1 x12).Key)) fun x18 => (jn (fun (x20 : List TPair) => (F_state_Slice_L1 x1 x3 J7 n13 x20 ((IntKind.i64.wrap (x12 + (1 : Int)))))) (fun J21 => (cond x18 (req (((x11 ++ [(atI x1 x12)])).length * 48 ≤ 140737488355328) (J21 ((x11 ++ [(atI x1 x12)])))) (J21 x11)))))) (J7 x11))

def F_state_Slice (x1 : List TPair) (x3 : TRange) : Option (List TPair) :=
  (jn (fun (x6 : List TPair) => (some x6)) (fun J7 => (F_state_Slice_L1 x1 x3 J7 (((((x1).length : Nat) : Int)).toNat + 1) (([] : List TPair)) ((0 : Int)))))

set_option maxRecDepth 100000 in
theorem W_state_Slice {V : View} (x1 : List TPair) (x3 : TRange) {a2 : Option Addr} {k2 : Nat} (h2 : SlAt cTPair V a2 k2 x1) {r : List TPair} (hF : F_state_Slice x1 x3 = some r) :
    Spec Tryz.prog 27 [.slice a2 ((x1).length) (k2), .agg ⟨[.string ⟨⟨x3.From⟩⟩, .string ⟨⟨x3.To⟩⟩]⟩] V (fun V' v => ∃ (a26 : Option Addr) (k26 : Nat), v = .slice a26 ((r).length) (k26) ∧ SlAt cTPair V' a26 k26 r) := by
  unfold F_state_Slice at hF
  refine Spec.enter (T := tyT) Tryz.func27 rfl (by kernel_rfl) rfl rfl rfl ?_
  refine Exec.run tyOk 16 rfl ?_
  refine Exec.row0 64 4 rfl ?_
  have h4 : RowRep cTPair V ([] : List TPair) [] := RowRep.nil
  obtain ⟨J7, hJ7, hF⟩ := jn_some hF
  refine Exec.seam (fun L' V' M' => ∃ (x6 : List TPair) (a5 : Option Addr) (k5 : Nat) (cs5 : List Value), L' = [(5, .v (.slice a5 ((x6).length) (k5)))] ∧ M' = [.blk [.v (.string ⟨⟨x3.From⟩⟩), .v (.string ⟨⟨x3.To⟩⟩)] 31, .row (.slice a5 ((x6).length) (k5)) cs5 64 4] ∧ RowRep cTPair V' x6 cs5 ∧ J7 x6 = some r) rfl ?_ ?_
  · rintro L' V8 M' ⟨x6, a5, k5, cs5, rfl, rfl, h5, hF⟩
    subst hJ7
    refine Exec.run tyOk 400 rfl ?_
    refine Exec.frz 1 rfl rfl rfl (fun V9 hv9 hd9 hn9 => ?_)
    have hz9 := RowRep.slat h5 hv9 hd9 hn9
    obtain rfl := some_inj hF
    exact Exec.ret tyOk rfl rfl ⟨_, _, rfl, hz9⟩
  · skip
    refine Exec.run tyOk 400 rfl ?_
    refine Exec.loop (fun n13 L' V' M' => ∃ (x11 : List TPair) (a10 : Option Addr) (k10 : Nat) (cs10 : List Value) (x12 : Int), L' = [(3, .ptr 0 0), (5, .v (.slice a10 ((x11).length) (k10))), (8, .v (.slice a2 ((x1).length) (k2))), (9, .v (.int .i64 ((((x1).length : Nat) : Int)))), (10, .v (.int .i64 (x12)))] ∧ M' = [.blk [.v (.string ⟨⟨x3.From⟩⟩), .v (.string ⟨⟨x3.To⟩⟩)] 31, .row (.slice a10 ((x11).length) (k10)) cs10 64 4] ∧ RowRep cTPair V' x11 cs10 ∧ SlAt cTPair V' a2 k2 x1 ∧ F_state_Slice_L1 x1 x3 J7 n13 x11 x12 = some r) ⟨(((((x1).length : Nat) : Int)).toNat + 1), [(3, .ptr 0 0), (5, .v (.slice none ((([] : List TPair)).length) (0))), (8, .v (.slice a2 ((x1).length) (k2))), (9, .v (.int .i64 ((((x1).length : Nat) : Int)))), (10, .v (.int .i64 ((0 : Int))))], ⟨rfl, rfl, rfl, rfl, rfl, trivial⟩, ([] : List TPair), none, 0, [], (0 : Int), rfl, rfl, h4, h2, hF⟩ ?_
    rintro n13 L' V14 M' ⟨x11, a10, k10, cs10, x12, rfl, rfl, h10, h15, hF⟩
    rcases n13 with _ | n13
    · exact absurd hF (by simp [F_state_Slice_L1])
    rw [F_state_Slice_L1] at hF
    refine Exec.run tyOk 400 rfl ?_
    rcases cond_some hF with ⟨hb, hF⟩ | ⟨hb, hF⟩
    · skip
      refine Exec.ifT rfl hb ?_
      refine Exec.run tyOk 400 rfl ?_
      obtain ⟨q16, hF⟩ := req_some hF
      obtain ⟨c17, hr17, hd17⟩ := SlAt.get h15 q16
      obtain rfl := hr17
      refine Exec.ia tyOk rfl rfl ⟨q16.1, q16.2, hd17.some⟩ ?_
      refine Exec.run tyOk 400 rfl ?_
      refine Exec.ld tyOk (x := .agg ⟨[.string ⟨⟨(atI x1 x12).Key⟩⟩, .int .i64 ((atI x1 x12).Val.Kind), .int .i64 ((atI x1 x12).Val.N), .string ⟨⟨(atI x1 x12).Val.S⟩⟩]⟩) rfl rfl hd17 rfl rfl ?_
      refine Exec.run tyOk 400 rfl ?_
      obtain ⟨x18, hx18, hF⟩ := bnd_some hF
      refine Exec.callS (.bool (x18)) rfl rfl (W_keys_Contains x3 ((atI x1 x12).Key)  hx18) ?_
      refine Exec.run tyOk 400 rfl ?_
      obtain ⟨J21, hJ21, hF⟩ := jn_some hF
      refine Exec.seam (fun L' V' M' => ∃ (x20 : List TPair) (a19 : Option Addr) (k19 : Nat) (cs19 : List Value), L' = [(3, .ptr 0 0), (5, .v (.slice a19 ((x20).length) (k19))), (8, .v (.slice a2 ((x1).length) (k2))), (9, .v (.int .i64 ((((x1).length : Nat) : Int)))), (10, .v (.int .i64 (x12)))] ∧ M' = [.blk [.v (.string ⟨⟨x3.From⟩⟩), .v (.string ⟨⟨x3.To⟩⟩)] 31, .row (.slice a19 ((x20).length) (k19)) cs19 64 4] ∧ RowRep cTPair V' x20 cs19 ∧ SlAt cTPair V' a2 k2 x1 ∧ J21 x20 = some r) rfl ?_ ?_
      · rintro L' V22 M' ⟨x20, a19, k19, cs19, rfl, rfl, h19, h23, hF⟩
        subst hJ21
        refine Exec.run tyOk 400 rfl ?_
        exact Exec.round [(3, .ptr 0 0), (5, .v (.slice a19 ((x20).length) (k19))), (8, .v (.slice a2 ((x1).length) (k2))), (9, .v (.int .i64 ((((x1).length : Nat) : Int)))), (10, .v (.int .i64 ((IntKind.i64.wrap (x12 + (1 : Int))))))] ⟨rfl, rfl, rfl, rfl, rfl, trivial⟩ ⟨n13, Nat.lt_succ_self _, x20, a19, k19, cs19, (IntKind.i64.wrap (x12 + (1 : Int))), rfl, rfl, h19, h23, hF⟩
      · skip
        refine Exec.run tyOk 400 rfl ?_
        rcases cond_some hF with ⟨hb, hF⟩ | ⟨hb, hF⟩
        · skip
          refine Exec.ifT rfl hb ?_
          refine Exec.run tyOk 400 rfl ?_
          refine Exec.bsl tyOk rfl rfl ?_
          refine Exec.run tyOk 400 rfl ?_
          obtain ⟨q25, hF⟩ := req_some hF
          refine Exec.app tyOk 1 3 (nm := ((x11 ++ [(atI x1 x12)])).length) rfl rfl rfl rfl rfl rfl rfl rfl rfl (by simp) (fun _ _ => rfl) rfl q25 (fun a24 k24 => ?_)
          have h24 : RowRep cTPair V14 (x11 ++ [(atI x1 x12)]) (cs10 ++ [.string ⟨⟨(atI x1 x12).Key⟩⟩, .int .i64 ((atI x1 x12).Val.Kind), .int .i64 ((atI x1 x12).Val.N), .string ⟨⟨(atI x1 x12).Val.S⟩⟩]) := RowRep.app h10 ⟨_, _, rfl, rfl, rfl⟩
          refine Exec.run tyOk 400 rfl ?_
          refine Exec.cut 2 [(3, .ptr 0 0), (5, .v (.slice a24 (((x11 ++ [(atI x1 x12)])).length) (k24))), (8, .v (.slice a2 ((x1).length) (k2))), (9, .v (.int .i64 ((((x1).length : Nat) : Int)))), (10, .v (.int .i64 (x12)))] (M' := [.blk [.v (.string ⟨⟨x3.From⟩⟩), .v (.string ⟨⟨x3.To⟩⟩)] 31, .row (.slice a24 (((x11 ++ [(atI x1 x12)])).length) (k24)) ((cs10 ++ [.string ⟨⟨(atI x1 x12).Key⟩⟩, .int .i64 ((atI x1 x12).Val.Kind), .int .i64 ((atI x1 x12).Val.N), .string ⟨⟨(atI x1 x12).Val.S⟩⟩])) 64 4]) rfl ⟨rfl, rfl, rfl, rfl, rfl, trivial⟩ rfl rfl rfl ?_
          exact Exec.round [(3, .ptr 0 0), (5, .v (.slice a24 (((x11 ++ [(atI x1 x12)])).length) (k24))), (8, .v (.slice a2 ((x1).length) (k2))), (9, .v (.int .i64 ((((x1).length : Nat) : Int)))), (10, .v (.int .i64 (x12)))] ⟨rfl, rfl, rfl, rfl, rfl, trivial⟩ ⟨(x11 ++ [(atI x1 x12)]), a24, k24, (cs10 ++ [.string ⟨⟨(atI x1 x12).Key⟩⟩, .int .i64 ((atI x1 x12).Val.Kind), .int .i64 ((atI x1 x12).Val.N), .string ⟨⟨(atI x1 x12).Val.S⟩⟩]), rfl, rfl, h24, h15, hF⟩
        · skip
          refine Exec.ifF rfl hb ?_
          refine Exec.run tyOk 400 rfl ?_
          refine Exec.cut 2 [(3, .ptr 0 0), (5, .v (.slice a10 ((x11).length) (k10))), (8, .v (.slice a2 ((x1).length) (k2))), (9, .v (.int .i64 ((((x1).length : Nat) : Int)))), (10, .v (.int .i64 (x12)))] (M' := [.blk [.v (.string ⟨⟨x3.From⟩⟩), .v (.string ⟨⟨x3.To⟩⟩)] 31, .row (.slice a10 ((x11).length) (k10)) cs10 64 4]) rfl ⟨rfl, rfl, rfl, rfl, rfl, trivial⟩ rfl rfl rfl ?_
          exact Exec.round [(3, .ptr 0 0), (5, .v (.slice a10 ((x11).length) (k10))), (8, .v (.slice a2 ((x1).length) (k2))), (9, .v (.int .i64 ((((x1).length : Nat) : Int)))), (10, .v (.int .i64 (x12)))] ⟨rfl, rfl, rfl, rfl, rfl, trivial⟩ ⟨x11, a10, k10, cs10, rfl, rfl, h10, h15, hF⟩
    · skip
      refine Exec.ifF rfl hb ?_
      refine Exec.run tyOk 400 rfl ?_
      exact Exec.round [(5, .v (.slice a10 ((x11).length) (k10)))] ⟨rfl, trivial⟩ ⟨x11, a10, k10, cs10, rfl, rfl, h10, hF⟩

def F_clockworkref06_Slice_L1 (x1 : List TPair) (x3 : TRange) (J7 : (List TPair) → Option (List TPair)) : Nat → (List TPair) → Int → Option (List TPair)
  | 0, _, _ => none
  | n13 + 1, x11, x12 => (cond (decide (x12 < (((x1).length : Nat) : Int))) (req (0 ≤ x12 ∧ x12 < ((x1).length : Int)) (bnd (F_clockworkref04_Contains x3 ((atI x1 x12).Key)) fun x18 => (jn (fun (x20 : List TPair) => (F_clockworkref06_Slice_L1 x1 x3 J7 n13 x20 ((IntKind.i64.wrap (x12 + (1 : Int)))))) (fun J21 => (cond x18 (req (0 ≤ x12 ∧ x12 < ((x1).length : Int)) (req (((x11 ++ [(atI x1 x12)])).length * 48 ≤ 140737488355328) (J21 ((x11 ++ [(atI x1 x12)]))))) (J21 x11)))))) (J7 x11))

def F_clockworkref06_Slice (x1 : List TPair) (x3 : TRange) : Option (List TPair) :=
  (jn (fun (x6 : List TPair) => (some x6)) (fun J7 => (F_clockworkref06_Slice_L1 x1 x3 J7 (((((x1).length : Nat) : Int)).toNat + 1) (([] : List TPair)) ((0 : Int)))))

set_option maxRecDepth 100000 in
theorem W_clockworkref06_Slice {V : View} (x1 : List TPair) (x3 : TRange) {a2 : Option Addr} {k2 : Nat} (h2 : SlAt cTPair V a2 k2 x1) {r : List TPair} (hF : F_clockworkref06_Slice x1 x3 = some r) :
    Spec Tryz.prog 32 [.slice a2 ((x1).length) (k2), .agg ⟨[.string ⟨⟨x3.From⟩⟩, .string ⟨⟨x3.To⟩⟩]⟩] V (fun V' v => ∃ (a28 : Option Addr) (k28 : Nat), v = .slice a28 ((r).length) (k28) ∧ SlAt cTPair V' a28 k28 r) := by
  unfold F_clockworkref06_Slice at hF
  refine Spec.enter (T := tyT) Tryz.func32 rfl (by kernel_rfl) rfl rfl rfl ?_
  refine Exec.run tyOk 14 rfl ?_
  refine Exec.row0 64 4 rfl ?_
  have h4 : RowRep cTPair V ([] : List TPair) [] := RowRep.nil
  obtain ⟨J7, hJ7, hF⟩ := jn_some hF
  refine Exec.seam (fun L' V' M' => ∃ (x6 : List TPair) (a5 : Option Addr) (k5 : Nat) (cs5 : List Value), L' = [(5, .v (.slice a5 ((x6).length) (k5)))] ∧ M' = [.blk [.v (.string ⟨⟨x3.From⟩⟩), .v (.string ⟨⟨x3.To⟩⟩)] 31, .row (.slice a5 ((x6).length) (k5)) cs5 64 4] ∧ RowRep cTPair V' x6 cs5 ∧ J7 x6 = some r) rfl ?_ ?_
  · rintro L' V8 M' ⟨x6, a5, k5, cs5, rfl, rfl, h5, hF⟩
    subst hJ7
    refine Exec.run tyOk 400 rfl ?_
    refine Exec.frz 1 rfl rfl rfl (fun V9 hv9 hd9 hn9 => ?_)
    have hz9 := RowRep.slat h5 hv9 hd9 hn9
    obtain rfl := some_inj hF
    exact Exec.ret tyOk rfl rfl ⟨_, _, rfl, hz9⟩
  · skip
    refine Exec.run tyOk 400 rfl ?_
    refine Exec.loop (fun n13 L' V' M' => ∃ (x11 : List TPair) (a10 : Option Addr) (k10 : Nat) (cs10 : List Value) (x12 : Int), L' = [(0, .v (.slice a2 ((x1).length) (k2))), (3, .ptr 0 0), (5, .v (.slice a10 ((x11).length) (k10))), (6, .v (.int .i64 (x12)))] ∧ M' = [.blk [.v (.string ⟨⟨x3.From⟩⟩), .v (.string ⟨⟨x3.To⟩⟩)] 31, .row (.slice a10 ((x11).length) (k10)) cs10 64 4] ∧ RowRep cTPair V' x11 cs10 ∧ SlAt cTPair V' a2 k2 x1 ∧ F_clockworkref06_Slice_L1 x1 x3 J7 n13 x11 x12 = some r) ⟨(((((x1).length : Nat) : Int)).toNat + 1), [(0, .v (.slice a2 ((x1).length) (k2))), (3, .ptr 0 0), (5, .v (.slice none ((([] : List TPair)).length) (0))), (6, .v (.int .i64 ((0 : Int))))], ⟨rfl, rfl, rfl, rfl, trivial⟩, ([] : List TPair), none, 0, [], (0 : Int), rfl, rfl, h4, h2, hF⟩ ?_
    rintro n13 L' V14 M' ⟨x11, a10, k10, cs10, x12, rfl, rfl, h10, h15, hF⟩
    rcases n13 with _ | n13
    · exact absurd hF (by simp [F_clockworkref06_Slice_L1])
    rw [F_clockworkref06_Slice_L1] at hF
    refine Exec.run tyOk 400 rfl ?_
    rcases cond_some hF with ⟨hb, hF⟩ | ⟨hb, hF⟩
    · skip
      refine Exec.ifT rfl hb ?_
      refine Exec.run tyOk 400 rfl ?_
      refine Exec.draws tyOk [(0, true), (1, true), (2, true), (3, true), (4, true), (5, true), (6, false)] rfl (by kernel_rfl) ?_
      refine Exec.run tyOk 400 rfl ?_
      obtain ⟨q16, hF⟩ := req_some hF
      obtain ⟨c17, hr17, hd17⟩ := SlAt.get h15 q16
      obtain rfl := hr17
      refine Exec.fia tyOk rfl rfl rfl ⟨q16.1, q16.2, hd17.some⟩ ?_
      refine Exec.run tyOk 400 rfl ?_
      refine Exec.fld tyOk (x := .string ⟨⟨(atI x1 x12).Key⟩⟩) rfl rfl rfl (RdAt.part hd17 0 1 rfl) rfl rfl ?_
      refine Exec.run tyOk 400 rfl ?_
      obtain ⟨x18, hx18, hF⟩ := bnd_some hF
      refine Exec.callS (.bool (x18)) rfl rfl (W_clockworkref04_Contains x3 ((atI x1 x12).Key)  hx18) ?_
      refine Exec.run tyOk 400 rfl ?_
      obtain ⟨J21, hJ21, hF⟩ := jn_some hF
      refine Exec.seam (fun L' V' M' => ∃ (x20 : List TPair) (a19 : Option Addr) (k19 : Nat) (cs19 : List Value), L' = [(0, .v (.slice a2 ((x1).length) (k2))), (3, .ptr 0 0), (5, .v (.slice a19 ((x20).length) (k19))), (6, .v (.int .i64 (x12)))] ∧ M' = [.blk [.v (.string ⟨⟨x3.From⟩⟩), .v (.string ⟨⟨x3.To⟩⟩)] 31, .row (.slice a19 ((x20).length) (k19)) cs19 64 4] ∧ RowRep cTPair V' x20 cs19 ∧ SlAt cTPair V' a2 k2 x1 ∧ J21 x20 = some r) rfl ?_ ?_
      · rintro L' V22 M' ⟨x20, a19, k19, cs19, rfl, rfl, h19, h23, hF⟩
        subst hJ21
        refine Exec.run tyOk 400 rfl ?_
        exact Exec.round [(0, .v (.slice a2 ((x1).length) (k2))), (3, .ptr 0 0), (5, .v (.slice a19 ((x20).length) (k19))), (6, .v (.int .i64 ((IntKind.i64.wrap (x12 + (1 : Int))))))] ⟨rfl, rfl, rfl, rfl, trivial⟩ ⟨n13, Nat.lt_succ_self _, x20, a19, k19, cs19, (IntKind.i64.wrap (x12 + (1 : Int))), rfl, rfl, h19, h23, hF⟩
      · skip
        refine Exec.run tyOk 400 rfl ?_
        rcases cond_some hF with ⟨hb, hF⟩ | ⟨hb, hF⟩
        · skip
          refine Exec.ifT rfl hb ?_
          refine Exec.run tyOk 400 rfl ?_
          obtain ⟨q24, hF⟩ := req_some hF
          obtain ⟨c25, hr25, hd25⟩ := SlAt.get h15 q24
          obtain rfl := hr25
          refine Exec.ia tyOk rfl rfl ⟨q24.1, q24.2, hd25.some⟩ ?_
          refine Exec.run tyOk 400 rfl ?_
          refine Exec.ld tyOk (x := .agg ⟨[.string ⟨⟨(atI x1 x12).Key⟩⟩, .int .i64 ((atI x1 x12).Val.Kind), .int .i64 ((atI x1 x12).Val.N), .string ⟨⟨(atI x1 x12).Val.S⟩⟩]⟩) rfl rfl hd25 rfl rfl ?_
          refine Exec.run tyOk 400 rfl ?_
          refine Exec.bsl tyOk rfl rfl ?_
          refine Exec.run tyOk 400 rfl ?_
          obtain ⟨q27, hF⟩ := req_some hF
          refine Exec.app tyOk 1 2 (nm := ((x11 ++ [(atI x1 x12)])).length) rfl rfl rfl rfl rfl rfl rfl rfl rfl (by simp) (fun _ _ => rfl) rfl q27 (fun a26 k26 => ?_)
          have h26 : RowRep cTPair V14 (x11 ++ [(atI x1 x12)]) (cs10 ++ [.string ⟨⟨(atI x1 x12).Key⟩⟩, .int .i64 ((atI x1 x12).Val.Kind), .int .i64 ((atI x1 x12).Val.N), .string ⟨⟨(atI x1 x12).Val.S⟩⟩]) := RowRep.app h10 ⟨_, _, rfl, rfl, rfl⟩
          refine Exec.run tyOk 400 rfl ?_
          refine Exec.cut 2 [(0, .v (.slice a2 ((x1).length) (k2))), (3, .ptr 0 0), (5, .v (.slice a26 (((x11 ++ [(atI x1 x12)])).length) (k26))), (6, .v (.int .i64 (x12)))] (M' := [.blk [.v (.string ⟨⟨x3.From⟩⟩), .v (.string ⟨⟨x3.To⟩⟩)] 31, .row (.slice a26 (((x11 ++ [(atI x1 x12)])).length) (k26)) ((cs10 ++ [.string ⟨⟨(atI x1 x12).Key⟩⟩, .int .i64 ((atI x1 x12).Val.Kind), .int .i64 ((atI x1 x12).Val.N), .string ⟨⟨(atI x1 x12).Val.S⟩⟩])) 64 4]) rfl ⟨rfl, rfl, rfl, rfl, trivial⟩ rfl rfl rfl ?_
          exact Exec.round [(0, .v (.slice a2 ((x1).length) (k2))), (3, .ptr 0 0), (5, .v (.slice a26 (((x11 ++ [(atI x1 x12)])).length) (k26))), (6, .v (.int .i64 (x12)))] ⟨rfl, rfl, rfl, rfl, trivial⟩ ⟨(x11 ++ [(atI x1 x12)]), a26, k26, (cs10 ++ [.string ⟨⟨(atI x1 x12).Key⟩⟩, .int .i64 ((atI x1 x12).Val.Kind), .int .i64 ((atI x1 x12).Val.N), .string ⟨⟨(atI x1 x12).Val.S⟩⟩]), rfl, rfl, h26, h15, hF⟩
        · skip
          refine Exec.ifF rfl hb ?_
          refine Exec.run tyOk 400 rfl ?_
          exact Exec.round [(0, .v (.slice a2 ((x1).length) (k2))), (3, .ptr 0 0), (5, .v (.slice a10 ((x11).length) (k10))), (6, .v (.int .i64 (x12)))] ⟨rfl, rfl, rfl, rfl, trivial⟩ ⟨x11, a10, k10, cs10, rfl, rfl, h10, h15, hF⟩
    · skip
      refine Exec.ifF rfl hb ?_
      refine Exec.run tyOk 400 rfl ?_
      exact Exec.round [(5, .v (.slice a10 ((x11).length) (k10)))] ⟨rfl, trivial⟩ ⟨x11, a10, k10, cs10, rfl, rfl, h10, hF⟩

def F_clockworkref06_Valid_L1 (x1 : List TPair) (J3 : Option Bool) : Nat → Int → Option Bool
  | 0, _ => none
  | n8 + 1, x7 => (cond (decide (x7 < (((x1).length : Nat) : Int))) (req (0 ≤ x7 ∧ x7 < ((x1).length : Int)) (cond ((atI x1 x7).Val.Kind == (0 : Int)) (some false) (F_clockworkref06_Valid_L1 x1 J3 n8 ((IntKind.i64.wrap (x7 + (1 : Int))))))) J3)

def F_clockworkref06_Valid (x1 : List TPair) : Option Bool :=
  (jn ((bnd (F_clockworkref06_ValidWrites x1) fun x6 => (some x6))) (fun J3 => (F_clockworkref06_Valid_L1 x1 J3 (((((x1).length : Nat) : Int)).toNat + 1) ((0 : Int)))))

set_option maxRecDepth 100000 in
theorem W_clockworkref06_Valid {V : View} (x1 : List TPair) {a2 : Option Addr} {k2 : Nat} (h2 : SlAt cTPair V a2 k2 x1) {r : Bool} (hF : F_clockworkref06_Valid x1 = some r) :
    Spec Tryz.prog 35 [.slice a2 ((x1).length) (k2)] V (fun _ v => v = .bool (r)) := by
  unfold F_clockworkref06_Valid at hF
  refine Spec.enter (T := tyT) Tryz.func35 rfl (by kernel_rfl) rfl rfl rfl ?_
  refine Exec.run tyOk 9 rfl ?_
  obtain ⟨J3, hJ3, hF⟩ := jn_some hF
  refine Exec.seam (fun L' V' M' => L' = [(0, .v (.slice a2 ((x1).length) (k2)))] ∧ M' = [] ∧ SlAt cTPair V' a2 k2 x1 ∧ J3 = some r) rfl ?_ ?_
  · rintro L' V4 M' ⟨rfl, rfl, h5, hF⟩
    subst hJ3
    refine Exec.run tyOk 400 rfl ?_
    obtain ⟨x6, hx6, hF⟩ := bnd_some hF
    refine Exec.callS (.bool (x6)) rfl rfl (W_clockworkref06_ValidWrites x1 h5 hx6) ?_
    refine Exec.run tyOk 400 rfl ?_
    obtain rfl := some_inj hF
    exact Exec.ret tyOk rfl rfl rfl
  · skip
    refine Exec.run tyOk 400 rfl ?_
    refine Exec.loop (fun n8 L' V' M' => ∃ (x7 : Int), L' = [(0, .v (.slice a2 ((x1).length) (k2))), (3, .v (.int .i64 (x7)))] ∧ M' = [] ∧ SlAt cTPair V' a2 k2 x1 ∧ F_clockworkref06_Valid_L1 x1 J3 n8 x7 = some r) ⟨(((((x1).length : Nat) : Int)).toNat + 1), [(0, .v (.slice a2 ((x1).length) (k2))), (3, .v (.int .i64 ((0 : Int))))], ⟨rfl, rfl, trivial⟩, (0 : Int), rfl, rfl, h2, hF⟩ ?_
    rintro n8 L' V9 M' ⟨x7, rfl, rfl, h10, hF⟩
    rcases n8 with _ | n8
    · exact absurd hF (by simp [F_clockworkref06_Valid_L1])
    rw [F_clockworkref06_Valid_L1] at hF
    refine Exec.run tyOk 400 rfl ?_
    rcases cond_some hF with ⟨hb, hF⟩ | ⟨hb, hF⟩
    · skip
      refine Exec.ifT rfl hb ?_
      refine Exec.run tyOk 400 rfl ?_
      obtain ⟨q11, hF⟩ := req_some hF
      obtain ⟨c12, hr12, hd12⟩ := SlAt.get h10 q11
      obtain rfl := hr12
      refine Exec.ia tyOk rfl rfl ⟨q11.1, q11.2, hd12.some⟩ ?_
      refine Exec.run tyOk 400 rfl ?_
      refine Exec.ld tyOk (x := .int .i64 ((atI x1 x7).Val.Kind)) rfl rfl (RdAt.part hd12 1 1 rfl) rfl rfl ?_
      refine Exec.run tyOk 400 rfl ?_
      rcases cond_some hF with ⟨hb, hF⟩ | ⟨hb, hF⟩
      · skip
        refine Exec.ifT rfl hb ?_
        refine Exec.run tyOk 400 rfl ?_
        obtain rfl := some_inj hF
        exact Exec.ret tyOk rfl rfl rfl
      · skip
        refine Exec.ifF rfl hb ?_
        refine Exec.run tyOk 400 rfl ?_
        exact Exec.round [(0, .v (.slice a2 ((x1).length) (k2))), (3, .v (.int .i64 ((IntKind.i64.wrap (x7 + (1 : Int))))))] ⟨rfl, rfl, trivial⟩ ⟨n8, Nat.lt_succ_self _, (IntKind.i64.wrap (x7 + (1 : Int))), rfl, rfl, h10, hF⟩
    · skip
      refine Exec.ifF rfl hb ?_
      refine Exec.run tyOk 400 rfl ?_
      exact Exec.round [(0, .v (.slice a2 ((x1).length) (k2)))] ⟨rfl, trivial⟩ ⟨rfl, rfl, h10, hF⟩

def F_state_Valid (x1 : List TPair) : Option Bool :=
  (bnd (F_state_sorted x1) fun x3 => (bnd (gcall ((x3) == true) (F_slices_ContainsFunc_api_Pair_api_Pair x1 (fun y0 => F_state_absent y0 ))) fun x4 => (some (x3 && (!x4)))))

set_option maxRecDepth 100000 in
theorem W_state_Valid {V : View} (x1 : List TPair) {a2 : Option Addr} {k2 : Nat} (h2 : SlAt cTPair V a2 k2 x1) {r : Bool} (hF : F_state_Valid x1 = some r) :
    Spec Tryz.prog 44 [.slice a2 ((x1).length) (k2)] V (fun _ v => v = .bool (r)) := by
  unfold F_state_Valid at hF
  refine Spec.enter (T := tyT) Tryz.func44 rfl (by kernel_rfl) rfl rfl rfl ?_
  refine Exec.run tyOk 400 rfl ?_
  obtain ⟨x3, hx3, hF⟩ := bnd_some hF
  refine Exec.callS (.bool (x3)) rfl rfl (W_state_sorted x1 h2 hx3) ?_
  refine Exec.run tyOk 400 rfl ?_
  obtain ⟨x4, hx4, hF⟩ := bnd_some hF
  refine Exec.callS (.bool (x4)) rfl rfl (fun gg0 => W_slices_ContainsFunc_api_Pair_api_Pair x1 (fun y0 => F_state_absent y0 ) h2 (fun V' hv y0 r hr => W_state_absent y0   hr) (gcall_some hx4 (gd1_of gg0))) ?_
  refine Exec.run tyOk 400 rfl ?_
  obtain rfl := some_inj hF
  exact Exec.ret tyOk rfl rfl rfl

-- uses W_state_merge_api_Pair
def unRel (b0 b2 : Nat) (_V : View) (s : List TPair × Bool) (r0 r1 r2 : RowD) : Prop :=
  ∃ a k cs, r0 = ⟨.slice (some ⟨b0, 0, none⟩) 1 1, [.slice a s.1.length k], 32, 1⟩ ∧ r1 = ⟨.slice a s.1.length k, cs, 64, 4⟩ ∧
    r2 = ⟨.slice (some ⟨b2, 0, none⟩) 1 1, [.bool s.2], 4, 1⟩ ∧ RowRep cTPair _V s.1 cs

def unKeep (s : List TPair × Bool) (y : TPair) : Option (List TPair × Bool) := req ((s.1 ++ [y]).length * 48 ≤ 140737488355328) (some (s.1 ++ [y], s.2))
def unTwice (s : List TPair × Bool) (_ _ : TPair) : Option (List TPair × Bool) := some (s.1, true)

set_option maxRecDepth 100000 in
theorem X_Union1 {V : View} (b0 b2 : Nat) : FnSt1 Tryz.prog 70 [.pointer (some ⟨b0, 0, none⟩)] V mkPair (unRel b0 b2) unKeep := by
  intro V1 hv s r0 r1 r2 y s' ⟨a, k, cs, h0, h1, h2, hrep⟩ hg
  subst h0; subst h1; subst h2
  obtain ⟨l, t⟩ := s
  unfold unKeep at hg
  obtain ⟨q, hg⟩ := req_some hg
  obtain rfl := some_inj hg
  refine SpecR.enter (T := tyT) Tryz.func70 rfl (by kernel_rfl) rfl rfl rfl (M := [.row (.slice (some ⟨b0, 0, none⟩) 1 1) [.slice a l.length k] 32 1, .row (.slice a l.length k) cs 64 4, .row (.slice (some ⟨b2, 0, none⟩) 1 1) [.bool t] 4 1]) rfl ?_
  refine Exec.run tyOk 400 rfl ?_
  refine Exec.ldR tyOk 0 (l := [.slice a l.length k]) rfl rfl rfl ⟨fun j v hv => by simpa using hv, b0, 0, rfl⟩ rfl rfl ?_
  refine Exec.run tyOk 400 rfl ?_
  refine Exec.bsl tyOk rfl rfl ?_
  refine Exec.run tyOk 400 rfl ?_
  refine Exec.app tyOk 1 4 (nm := (l ++ [y]).length) rfl rfl rfl rfl rfl rfl rfl rfl rfl (by simp) (fun _ _ => rfl) rfl q (fun a3 k3 => ?_)
  refine Exec.run tyOk 400 rfl ?_
  refine Exec.stR tyOk 0 rfl rfl rfl rfl rfl ⟨b0, 0, rfl⟩ (Nat.le_refl _) rfl rfl rfl ?_
  refine Exec.run tyOk 400 rfl ?_
  refine Exec.fall tyOk rfl rfl ?_
  dsimp only
  exact ⟨[⟨.slice (some ⟨b0, 0, none⟩) 1 1, [.slice a3 (l ++ [y]).length k3], _, 1⟩, ⟨.slice a3 (l ++ [y]).length k3, _, _, 4⟩, ⟨.slice (some ⟨b2, 0, none⟩) 1 1, [.bool t], _, 1⟩], rfl, rfl, rfl, _, _, _, rfl, a3, k3, _, rfl, rfl, rfl, RowRep.app hrep ⟨_, _, rfl, rfl, rfl⟩⟩

set_option maxRecDepth 100000 in
theorem X_Union2 {V : View} (b0 b2 : Nat) : FnSt2 Tryz.prog 73 [.pointer (some ⟨b2, 0, none⟩)] V mkPair mkPair (unRel b0 b2) unTwice := by
  intro V1 hv s r0 r1 r2 y y2 s' ⟨a, k, cs, h0, h1, h2, hrep⟩ hg
  subst h0; subst h1; subst h2
  obtain ⟨l, t⟩ := s
  unfold unTwice at hg
  obtain rfl := some_inj hg
  refine SpecR.enter (T := tyT) Tryz.func73 rfl (by kernel_rfl) rfl rfl rfl (M := [.row (.slice (some ⟨b0, 0, none⟩) 1 1) [.slice a l.length k] 32 1, .row (.slice a l.length k) cs 64 4, .row (.slice (some ⟨b2, 0, none⟩) 1 1) [.bool t] 4 1]) rfl ?_
  refine Exec.run tyOk 400 rfl ?_
  refine Exec.stR tyOk 2 rfl rfl rfl rfl rfl ⟨b2, 0, rfl⟩ (Nat.le_refl _) rfl rfl rfl ?_
  refine Exec.run tyOk 400 rfl ?_
  refine Exec.fall tyOk rfl rfl ?_
  dsimp only
  exact ⟨[⟨.slice (some ⟨b0, 0, none⟩) 1 1, [.slice a l.length k], _, 1⟩, ⟨.slice a l.length k, cs, _, 4⟩, ⟨.slice (some ⟨b2, 0, none⟩) 1 1, [.bool true], _, 1⟩], rfl, rfl, rfl, _, _, _, rfl, a, k, cs, rfl, rfl, rfl, hrep⟩

def F_state_Union (x1 x3 : List TPair) : Option (List TPair × Int) :=
  bnd (F_state_Valid x1) fun x5 => bnd (gcall ((!x5) == false) (F_state_Valid x3)) fun x6 => cond ((!x5) || (!x6)) (some ([], 1))
    (bnd (mergeF x1 x3 F_state_order unKeep unKeep unTwice ([], false)) fun s => cond s.2 (some ([], 8)) (some (s.1, 0)))

set_option maxRecDepth 100000 in
theorem W_state_Union {V : View} (x1 : List TPair) (x3 : List TPair) {a2 : Option Addr} {k2 : Nat} {a4 : Option Addr} {k4 : Nat} (h2 : SlAt cTPair V a2 k2 x1) (h4 : SlAt cTPair V a4 k4 x3) {r : List TPair × Int} (hF : F_state_Union x1 x3 = some r) :
    Spec Tryz.prog 47 [.slice a2 ((x1).length) (k2), .slice a4 ((x3).length) (k4)] V (fun V' v => ∃ (a22 : Option Addr) (k22 : Nat), v = .tuple ⟨[.slice a22 ((r.1).length) (k22), .int .i64 (r.2)]⟩ ∧ SlAt cTPair V' a22 k22 r.1) := by
  unfold F_state_Union at hF
  refine Spec.enter (T := tyT) Tryz.func47 rfl (by kernel_rfl) rfl rfl rfl ?_
  refine Exec.run tyOk 400 rfl ?_
  obtain ⟨x5, hx5, hF⟩ := bnd_some hF
  refine Exec.callS (.bool (x5)) rfl rfl (W_state_Valid x1 h2 hx5) ?_
  refine Exec.run tyOk 400 rfl ?_
  obtain ⟨x6, hx6, hF⟩ := bnd_some hF
  refine Exec.callS (.bool (x6)) rfl rfl (fun gg0 => W_state_Valid x3 h4 (gcall_some hx6 (gd1_of gg0))) ?_
  refine Exec.run tyOk 400 rfl ?_
  rcases cond_some hF with ⟨hb, hF⟩ | ⟨hb, hF⟩
  · skip
    refine Exec.ifT rfl hb ?_
    refine Exec.run tyOk 400 rfl ?_
    obtain rfl := some_inj hF
    exact Exec.ret tyOk rfl rfl ⟨_, _, rfl, SlAt.nil⟩
  · skip
    refine Exec.ifF rfl hb ?_
    refine Exec.run tyOk 400 rfl ?_
    refine Exec.fixR 0 (n := 1) (sz := 1) rfl rfl rfl rfl rfl (fun _ => rfl) (fun _ => rfl) (fun _ => rfl) (fun b0 => ?_)
    refine Exec.mkf rfl rfl ?_
    refine Exec.run tyOk 400 rfl ?_
    refine Exec.fixR 1 (n := 1) (sz := 1) rfl rfl rfl rfl rfl (fun _ => rfl) (fun _ => rfl) (fun _ => rfl) (fun b2 => ?_)
    refine Exec.mkf rfl rfl ?_
    refine Exec.row0 64 4 rfl ?_
    obtain ⟨s, hs, hF⟩ := bnd_some hF
    refine Exec.callR [0, 2, 1] (rs := [⟨.slice (some ⟨b0, 0, none⟩) 1 1, [.slice none 0 0], 32, 1⟩, ⟨.slice none 0 0, [], 64, 4⟩, ⟨.slice (some ⟨b2, 0, none⟩) 1 1, [.bool false], 4, 1⟩]) rfl rfl rfl rfl rfl rfl
      (X_merge (rel := unRel b0 b2) x1 x3 F_state_order unKeep unKeep unTwice h2 h4 (fun V' hv y0 y1 r hr => W_state_order y0 y1 hr) (X_Union1 b0 b2) (X_Union1 b0 b2) (X_Union2 b0 b2) (s := ([], false)) ⟨none, 0, [], rfl, rfl, rfl, RowRep.nil⟩ hs) ?_
    rintro V7 _ _ hv7 ⟨rfl, q0, q1, q2, rfl, a, k, cs, rfl, rfl, rfl, hrep⟩
    refine ⟨_, rfl, ?_⟩
    refine Exec.run tyOk 400 rfl ?_
    refine Exec.ldR tyOk 1 (l := [.bool s.2]) rfl rfl rfl ⟨fun j v hv => by simpa using hv, b2, 0, rfl⟩ rfl rfl ?_
    refine Exec.run tyOk 400 rfl ?_
    rcases cond_some hF with ⟨hb, hF⟩ | ⟨hb, hF⟩
    · skip
      refine Exec.ifT rfl hb ?_
      refine Exec.run tyOk 400 rfl ?_
      obtain rfl := some_inj hF
      exact Exec.ret tyOk rfl rfl ⟨_, _, rfl, SlAt.nil⟩
    · skip
      refine Exec.ifF rfl hb ?_
      refine Exec.run tyOk 400 rfl ?_
      refine Exec.ldR tyOk 0 (l := [.slice a s.1.length k]) rfl rfl rfl ⟨fun j v hv => by simpa using hv, b0, 0, rfl⟩ rfl rfl ?_
      refine Exec.run tyOk 400 rfl ?_
      refine Exec.frz 2 rfl rfl rfl (fun V13 hv13 hd13 hn13 => ?_)
      have hz13 := RowRep.slat hrep hv13 hd13 hn13
      obtain rfl := some_inj hF
      exact Exec.ret tyOk rfl rfl ⟨_, _, rfl, hz13⟩


def F_dist_Gather_L1 (x1 : List TShard) (J8 : (List TPair) → Option (List TPair × Int)) : Nat → (List TPair) → Int → Option (List TPair × Int)
  | 0, _, _ => none
  | n13 + 1, x10, x12 => (cond (decide (x12 < (((x1).length : Nat) : Int))) (req (0 ≤ x12 ∧ x12 < ((x1).length : Int)) (bnd (F_state_Union x10 ((atI x1 x12).Pairs)) fun x19 => (cond (x19.2 != (0 : Int)) (some (([] : List TPair), x19.2)) (F_dist_Gather_L1 x1 J8 n13 x19.1 ((IntKind.i64.wrap (x12 + (1 : Int)))))))) (J8 x10))

def F_dist_Gather_L2 (x1 : List TShard) (J3 : Option (List TPair × Int)) : Nat → Int → Option (List TPair × Int)
  | 0, _ => none
  | n27 + 1, x26 => (cond (decide (x26 < (((x1).length : Nat) : Int))) (req (0 ≤ x26 ∧ x26 < ((x1).length : Int)) (req ((((decide ((0 : Int) < x26))) == true) = true → 0 ≤ (IntKind.i64.wrap (x26 - (1 : Int))) ∧ (IntKind.i64.wrap (x26 - (1 : Int))) < ((x1).length : Int)) (bnd (gcall ((((decide ((0 : Int) < x26)) && (decide ((atI x1 x26).Node ≤ (cond (((decide ((0 : Int) < x26))) == true) (atI x1 ((IntKind.i64.wrap (x26 - (1 : Int))))) default).Node)))) == false) (F_state_Valid ((atI x1 x26).Pairs))) fun x36 => (cond (((decide ((0 : Int) < x26)) && (decide ((atI x1 x26).Node ≤ (cond (((decide ((0 : Int) < x26))) == true) (atI x1 ((IntKind.i64.wrap (x26 - (1 : Int))))) default).Node))) || (!x36)) (some (([] : List TPair), (1 : Int))) (F_dist_Gather_L2 x1 J3 n27 ((IntKind.i64.wrap (x26 + (1 : Int))))))))) J3)

def F_dist_Gather (x1 : List TShard) : Option (List TPair × Int) :=
  (jn ((jn (fun (x6 : List TPair) => (some (x6, (0 : Int)))) (fun J8 => (F_dist_Gather_L1 x1 J8 (((((x1).length : Nat) : Int)).toNat + 1) (([] : List TPair)) ((0 : Int)))))) (fun J3 => (F_dist_Gather_L2 x1 J3 (((((x1).length : Nat) : Int)).toNat + 1) ((0 : Int)))))

set_option maxRecDepth 100000 in
theorem W_dist_Gather {V : View} (x1 : List TShard) {a2 : Option Addr} {k2 : Nat} (h2 : SlAt cTShard V a2 k2 x1) {r : List TPair × Int} (hF : F_dist_Gather x1 = some r) :
    Spec Tryz.prog 50 [.slice a2 ((x1).length) (k2)] V (fun V' v => ∃ (a37 : Option Addr) (k37 : Nat), v = .tuple ⟨[.slice a37 ((r.1).length) (k37), .int .i64 (r.2)]⟩ ∧ SlAt cTPair V' a37 k37 r.1) := by
  unfold F_dist_Gather at hF
  refine Spec.enter (T := tyT) Tryz.func50 rfl (by kernel_rfl) rfl rfl rfl ?_
  refine Exec.run tyOk 12 rfl ?_
  obtain ⟨J3, hJ3, hF⟩ := jn_some hF
  refine Exec.seam (fun L' V' M' => L' = [(0, .v (.slice a2 ((x1).length) (k2)))] ∧ M' = [] ∧ SlAt cTShard V' a2 k2 x1 ∧ J3 = some r) rfl ?_ ?_
  · rintro L' V4 M' ⟨rfl, rfl, h5, hF⟩
    subst hJ3
    refine Exec.run tyOk 11 rfl ?_
    obtain ⟨J8, hJ8, hF⟩ := jn_some hF
    refine Exec.seam (fun L' V' M' => ∃ (x6 : List TPair) (a7 : Option Addr) (k7 : Nat), L' = [(6, .v (.slice a7 ((x6).length) (k7)))] ∧ M' = [] ∧ SlAt cTPair V' a7 k7 x6 ∧ J8 x6 = some r) rfl ?_ ?_
    · rintro L' V9 M' ⟨x6, a7, k7, rfl, rfl, h7, hF⟩
      subst hJ8
      refine Exec.run tyOk 400 rfl ?_
      obtain rfl := some_inj hF
      exact Exec.ret tyOk rfl rfl ⟨_, _, rfl, h7⟩
    · skip
      refine Exec.run tyOk 400 rfl ?_
      refine Exec.loop (fun n13 L' V' M' => ∃ (x10 : List TPair) (a11 : Option Addr) (k11 : Nat) (x12 : Int), L' = [(6, .v (.slice a11 ((x10).length) (k11))), (38, .v (.slice a2 ((x1).length) (k2))), (39, .v (.int .i64 ((((x1).length : Nat) : Int)))), (40, .v (.int .i64 (x12)))] ∧ M' = [] ∧ SlAt cTPair V' a11 k11 x10 ∧ SlAt cTShard V' a2 k2 x1 ∧ F_dist_Gather_L1 x1 J8 n13 x10 x12 = some r) ⟨(((((x1).length : Nat) : Int)).toNat + 1), [(6, .v (.slice none (0) (0))), (38, .v (.slice a2 ((x1).length) (k2))), (39, .v (.int .i64 ((((x1).length : Nat) : Int)))), (40, .v (.int .i64 ((0 : Int))))], ⟨rfl, rfl, rfl, rfl, trivial⟩, ([] : List TPair), none, 0, (0 : Int), rfl, rfl, SlAt.nil, h5, hF⟩ ?_
      rintro n13 L' V14 M' ⟨x10, a11, k11, x12, rfl, rfl, h11, h15, hF⟩
      rcases n13 with _ | n13
      · exact absurd hF (by simp [F_dist_Gather_L1])
      rw [F_dist_Gather_L1] at hF
      refine Exec.run tyOk 400 rfl ?_
      rcases cond_some hF with ⟨hb, hF⟩ | ⟨hb, hF⟩
      · skip
        refine Exec.ifT rfl hb ?_
        refine Exec.run tyOk 400 rfl ?_
        obtain ⟨q16, hF⟩ := req_some hF
        obtain ⟨c17, hr17, hd17⟩ := SlAt.get h15 q16
        obtain ⟨a18, k18, rfl, h18⟩ := hr17
        refine Exec.ia tyOk rfl rfl ⟨q16.1, q16.2, hd17.some⟩ ?_
        refine Exec.run tyOk 400 rfl ?_
        refine Exec.ld tyOk (x := .agg ⟨[.int .i64 ((atI x1 x12).Node), .slice a18 (((atI x1 x12).Pairs).length) (k18)]⟩) rfl rfl hd17 rfl rfl ?_
        refine Exec.run tyOk 400 rfl ?_
        obtain ⟨x19, hx19, hF⟩ := bnd_some hF
        refine Exec.call rfl rfl (W_state_Union x10 ((atI x1 x12).Pairs) h11 h18 hx19) ?_
        rintro V21 _ hv21 ⟨a20, k20, rfl, h20⟩
        have h22 := SlAt.mono h11 hv21
        have h23 := SlAt.mono h15 hv21
        have h25 := SlAt.mono h18 hv21
        refine Exec.run tyOk 400 rfl ?_
        rcases cond_some hF with ⟨hb, hF⟩ | ⟨hb, hF⟩
        · skip
          refine Exec.ifT rfl hb ?_
          refine Exec.run tyOk 400 rfl ?_
          obtain rfl := some_inj hF
          exact Exec.ret tyOk rfl rfl ⟨_, _, rfl, SlAt.nil⟩
        · skip
          refine Exec.ifF rfl hb ?_
          refine Exec.run tyOk 400 rfl ?_
          refine Exec.cut 0 [(6, .v (.slice a20 ((x19.1).length) (k20))), (38, .v (.slice a2 ((x1).length) (k2))), (39, .v (.int .i64 ((((x1).length : Nat) : Int)))), (40, .v (.int .i64 ((IntKind.i64.wrap (x12 + (1 : Int))))))] (M' := []) rfl ⟨rfl, rfl, rfl, rfl, trivial⟩ rfl rfl rfl ?_
          exact Exec.round [(6, .v (.slice a20 ((x19.1).length) (k20))), (38, .v (.slice a2 ((x1).length) (k2))), (39, .v (.int .i64 ((((x1).length : Nat) : Int)))), (40, .v (.int .i64 ((IntKind.i64.wrap (x12 + (1 : Int))))))] ⟨rfl, rfl, rfl, rfl, trivial⟩ ⟨n13, Nat.lt_succ_self _, x19.1, a20, k20, (IntKind.i64.wrap (x12 + (1 : Int))), rfl, rfl, h20, h23, hF⟩
      · skip
        refine Exec.ifF rfl hb ?_
        refine Exec.run tyOk 400 rfl ?_
        exact Exec.round [(6, .v (.slice a11 ((x10).length) (k11)))] ⟨rfl, trivial⟩ ⟨x10, a11, k11, rfl, rfl, h11, hF⟩
  · skip
    refine Exec.run tyOk 400 rfl ?_
    refine Exec.loop (fun n27 L' V' M' => ∃ (x26 : Int), L' = [(0, .v (.slice a2 ((x1).length) (k2))), (11, .v (.slice a2 ((x1).length) (k2))), (12, .v (.int .i64 ((((x1).length : Nat) : Int)))), (13, .v (.int .i64 (x26)))] ∧ M' = [] ∧ SlAt cTShard V' a2 k2 x1 ∧ F_dist_Gather_L2 x1 J3 n27 x26 = some r) ⟨(((((x1).length : Nat) : Int)).toNat + 1), [(0, .v (.slice a2 ((x1).length) (k2))), (11, .v (.slice a2 ((x1).length) (k2))), (12, .v (.int .i64 ((((x1).length : Nat) : Int)))), (13, .v (.int .i64 ((0 : Int))))], ⟨rfl, rfl, rfl, rfl, trivial⟩, (0 : Int), rfl, rfl, h2, hF⟩ ?_
    rintro n27 L' V28 M' ⟨x26, rfl, rfl, h29, hF⟩
    rcases n27 with _ | n27
    · exact absurd hF (by simp [F_dist_Gather_L2])
    rw [F_dist_Gather_L2] at hF
    refine Exec.run tyOk 400 rfl ?_
    rcases cond_some hF with ⟨hb, hF⟩ | ⟨hb, hF⟩
    · skip
      refine Exec.ifT rfl hb ?_
      refine Exec.run tyOk 400 rfl ?_
      obtain ⟨q30, hF⟩ := req_some hF
      obtain ⟨c31, hr31, hd31⟩ := SlAt.get h29 q30
      obtain ⟨a32, k32, rfl, h32⟩ := hr31
      refine Exec.ia tyOk rfl rfl ⟨q30.1, q30.2, hd31.some⟩ ?_
      refine Exec.run tyOk 400 rfl ?_
      refine Exec.ld tyOk (x := .agg ⟨[.int .i64 ((atI x1 x26).Node), .slice a32 (((atI x1 x26).Pairs).length) (k32)]⟩) rfl rfl hd31 rfl rfl ?_
      refine Exec.run tyOk 400 rfl ?_
      refine Exec.draws tyOk [(0, true), (1, true), (2, true), (3, true), (4, true), (5, true), (6, true), (7, true), (8, true), (9, true), (10, true), (11, true), (12, true), (13, true), (14, true), (15, true), (16, false), (17, false), (18, false)] rfl (by kernel_rfl) ?_
      refine Exec.run tyOk 400 rfl ?_
      obtain ⟨q33, hF⟩ := req_some hF
      obtain ⟨c34, hr34, hd34⟩ := SlAt.gget (((decide ((0 : Int) < x26))) == true) h29 q33
      obtain ⟨a35, k35, rfl, h35⟩ := hr34
      refine Exec.fia tyOk rfl rfl rfl (fun gg0 => ⟨(q33 (gd1_of gg0)).1, (q33 (gd1_of gg0)).2, (hd34 (gd1_of gg0)).some⟩) ?_
      refine Exec.run tyOk 400 rfl ?_
      refine Exec.fld tyOk (x := .int .i64 ((cond (((decide ((0 : Int) < x26))) == true) (atI x1 ((IntKind.i64.wrap (x26 - (1 : Int))))) default).Node)) rfl rfl rfl (fun gg0 => (RdAt.part (hd34 (gd1_of gg0)) 0 1 rfl)) rfl rfl ?_
      refine Exec.run tyOk 400 rfl ?_
      obtain ⟨x36, hx36, hF⟩ := bnd_some hF
      refine Exec.callS (.bool (x36)) rfl rfl (fun gg0 => W_state_Valid ((atI x1 x26).Pairs) h32 (gcall_some hx36 (gd1_of gg0))) ?_
      refine Exec.run tyOk 400 rfl ?_
      rcases cond_some hF with ⟨hb, hF⟩ | ⟨hb, hF⟩
      · skip
        refine Exec.ifT rfl hb ?_
        refine Exec.run tyOk 400 rfl ?_
        obtain rfl := some_inj hF
        exact Exec.ret tyOk rfl rfl ⟨_, _, rfl, SlAt.nil⟩
      · skip
        refine Exec.ifF rfl hb ?_
        refine Exec.run tyOk 400 rfl ?_
        refine Exec.cut 0 [(0, .v (.slice a2 ((x1).length) (k2))), (11, .v (.slice a2 ((x1).length) (k2))), (12, .v (.int .i64 ((((x1).length : Nat) : Int)))), (13, .v (.int .i64 ((IntKind.i64.wrap (x26 + (1 : Int))))))] (M' := []) rfl ⟨rfl, rfl, rfl, rfl, trivial⟩ rfl rfl rfl ?_
        exact Exec.round [(0, .v (.slice a2 ((x1).length) (k2))), (11, .v (.slice a2 ((x1).length) (k2))), (12, .v (.int .i64 ((((x1).length : Nat) : Int)))), (13, .v (.int .i64 ((IntKind.i64.wrap (x26 + (1 : Int))))))] ⟨rfl, rfl, rfl, rfl, trivial⟩ ⟨n27, Nat.lt_succ_self _, (IntKind.i64.wrap (x26 + (1 : Int))), rfl, rfl, h29, hF⟩
    · skip
      refine Exec.ifF rfl hb ?_
      refine Exec.run tyOk 400 rfl ?_
      exact Exec.round [(0, .v (.slice a2 ((x1).length) (k2)))] ⟨rfl, trivial⟩ ⟨rfl, rfl, h29, hF⟩

def F_clockworkref06_Apply_L1 (x3 : List TPair) (J77 : (List TPair) → Option (List TPair × Int)) : Nat → (List TPair) → Int → Option (List TPair × Int)
  | 0, _, _ => none
  | n82 + 1, x79, x81 => (cond (decide (x81 < (((x3).length : Nat) : Int))) (req (0 ≤ x81 ∧ x81 < ((x3).length : Int)) (jn (fun (x87 : List TPair) => (F_clockworkref06_Apply_L1 x3 J77 n82 x87 ((IntKind.i64.wrap (x81 + (1 : Int)))))) (fun J89 => (cond ((atI x3 x81).Val.Kind != (0 : Int)) (req (0 ≤ x81 ∧ x81 < ((x3).length : Int)) (bnd (F_clockworkref06_with x79 ((atI x3 x81))) fun x94 => (J89 x94))) (J89 x79))))) (J77 x79))

def F_clockworkref06_Apply_L2 (x1 : List TPair) (x3 : List TPair) (J10 : (List TPair) → Option (List TPair × Int)) : Nat → (List TPair) → Int → Option (List TPair × Int)
  | 0, _, _ => none
  | n104 + 1, x102, x103 => (cond (decide (x103 < (((x1).length : Nat) : Int))) (req (0 ≤ x103 ∧ x103 < ((x1).length : Int)) (bnd (F_clockworkref06_Has x3 ((atI x1 x103).Key)) fun x110 => (jn (fun (x112 : List TPair) => (F_clockworkref06_Apply_L2 x1 x3 J10 n104 x112 ((IntKind.i64.wrap (x103 + (1 : Int)))))) (fun J113 => (cond (!x110) (req (0 ≤ x103 ∧ x103 < ((x1).length : Int)) (req (((x102 ++ [(atI x1 x103)])).length * 48 ≤ 140737488355328) (J113 ((x102 ++ [(atI x1 x103)]))))) (J113 x102)))))) (J10 x102))

def F_clockworkref06_Apply (x1 : List TPair) (x3 : List TPair) : Option (List TPair × Int) :=
  (bnd (F_clockworkref06_Valid x1) fun x5 => (bnd (gcall (((!x5)) == false) (F_clockworkref06_ValidWrites x3)) fun x6 => (cond ((!x5) || (!x6)) (some (([] : List TPair), (1 : Int))) (jn (fun (x9 : List TPair) => (jn (fun (x75 : List TPair) => (some (x75, (0 : Int)))) (fun J77 => (F_clockworkref06_Apply_L1 x3 J77 (((((x3).length : Nat) : Int)).toNat + 1) x9 ((0 : Int)))))) (fun J10 => (F_clockworkref06_Apply_L2 x1 x3 J10 (((((x1).length : Nat) : Int)).toNat + 1) (([] : List TPair)) ((0 : Int))))))))

set_option maxRecDepth 100000 in
theorem W_clockworkref06_Apply {V : View} (x1 : List TPair) (x3 : List TPair) {a2 : Option Addr} {k2 : Nat} {a4 : Option Addr} {k4 : Nat} (h2 : SlAt cTPair V a2 k2 x1) (h4 : SlAt cTPair V a4 k4 x3) {r : List TPair × Int} (hF : F_clockworkref06_Apply x1 x3 = some r) :
    Spec Tryz.prog 64 [.slice a2 ((x1).length) (k2), .slice a4 ((x3).length) (k4)] V (fun V' v => ∃ (a121 : Option Addr) (k121 : Nat), v = .tuple ⟨[.slice a121 ((r.1).length) (k121), .int .i64 (r.2)]⟩ ∧ SlAt cTPair V' a121 k121 r.1) := by
  unfold F_clockworkref06_Apply at hF
  refine Spec.enter (T := tyT) Tryz.func64 rfl (by kernel_rfl) rfl rfl rfl ?_
  refine Exec.run tyOk 400 rfl ?_
  obtain ⟨x5, hx5, hF⟩ := bnd_some hF
  refine Exec.callS (.bool (x5)) rfl rfl (W_clockworkref06_Valid x1 h2 hx5) ?_
  refine Exec.run tyOk 400 rfl ?_
  obtain ⟨x6, hx6, hF⟩ := bnd_some hF
  refine Exec.callS (.bool (x6)) rfl rfl (fun gg0 => W_clockworkref06_ValidWrites x3 h4 (gcall_some hx6 (gd1_of gg0))) ?_
  refine Exec.run tyOk 400 rfl ?_
  rcases cond_some hF with ⟨hb, hF⟩ | ⟨hb, hF⟩
  · skip
    refine Exec.ifT rfl hb ?_
    refine Exec.run tyOk 400 rfl ?_
    obtain rfl := some_inj hF
    exact Exec.ret tyOk rfl rfl ⟨_, _, rfl, SlAt.nil⟩
  · skip
    refine Exec.ifF rfl hb ?_
    refine Exec.run tyOk 10 rfl ?_
    refine Exec.row0 64 4 rfl ?_
    have h7 : RowRep cTPair V ([] : List TPair) [] := RowRep.nil
    obtain ⟨J10, hJ10, hF⟩ := jn_some hF
    refine Exec.seam (fun L' V' M' => ∃ (x9 : List TPair) (a8 : Option Addr) (k8 : Nat) (cs8 : List Value), L' = [(1, .v (.slice a4 ((x3).length) (k4))), (6, .v (.slice a8 ((x9).length) (k8)))] ∧ M' = [.row (.slice a8 ((x9).length) (k8)) cs8 64 4] ∧ RowRep cTPair V' x9 cs8 ∧ SlAt cTPair V' a4 k4 x3 ∧ J10 x9 = some r) rfl ?_ ?_
    · rintro L' V11 M' ⟨x9, a8, k8, cs8, rfl, rfl, h8, h12, hF⟩
      subst hJ10
      refine Exec.run tyOk 5 rfl ?_
      refine Exec.frz 0 rfl rfl rfl (fun V73 hv73 hd73 hn73 => ?_)
      have hz73 := RowRep.slat h8 hv73 hd73 hn73
      have h74 := SlAt.mono h12 hv73
      obtain ⟨J77, hJ77, hF⟩ := jn_some hF
      refine Exec.seam (fun L' V' M' => ∃ (x75 : List TPair) (a76 : Option Addr) (k76 : Nat), L' = [(6, .v (.slice a76 ((x75).length) (k76)))] ∧ M' = [] ∧ SlAt cTPair V' a76 k76 x75 ∧ J77 x75 = some r) rfl ?_ ?_
      · rintro L' V78 M' ⟨x75, a76, k76, rfl, rfl, h76, hF⟩
        subst hJ77
        refine Exec.run tyOk 400 rfl ?_
        obtain rfl := some_inj hF
        exact Exec.ret tyOk rfl rfl ⟨_, _, rfl, h76⟩
      · skip
        refine Exec.run tyOk 400 rfl ?_
        refine Exec.cut 0 [(1, .v (.slice a4 ((x3).length) (k4))), (6, .v (.slice a8 ((x9).length) (k8))), (8, .v (.int .i64 ((0 : Int))))] (M' := []) rfl ⟨rfl, rfl, rfl, trivial⟩ rfl rfl rfl ?_
        refine Exec.loop (fun n82 L' V' M' => ∃ (x79 : List TPair) (a80 : Option Addr) (k80 : Nat) (x81 : Int), L' = [(1, .v (.slice a4 ((x3).length) (k4))), (6, .v (.slice a80 ((x79).length) (k80))), (8, .v (.int .i64 (x81)))] ∧ M' = [] ∧ SlAt cTPair V' a80 k80 x79 ∧ SlAt cTPair V' a4 k4 x3 ∧ F_clockworkref06_Apply_L1 x3 J77 n82 x79 x81 = some r) ⟨(((((x3).length : Nat) : Int)).toNat + 1), [(1, .v (.slice a4 ((x3).length) (k4))), (6, .v (.slice a8 ((x9).length) (k8))), (8, .v (.int .i64 ((0 : Int))))], ⟨rfl, rfl, rfl, trivial⟩, x9, a8, k8, (0 : Int), rfl, rfl, hz73, h74, hF⟩ ?_
        rintro n82 L' V83 M' ⟨x79, a80, k80, x81, rfl, rfl, h80, h84, hF⟩
        rcases n82 with _ | n82
        · exact absurd hF (by simp [F_clockworkref06_Apply_L1])
        rw [F_clockworkref06_Apply_L1] at hF
        refine Exec.run tyOk 400 rfl ?_
        rcases cond_some hF with ⟨hb, hF⟩ | ⟨hb, hF⟩
        · skip
          refine Exec.ifT rfl hb ?_
          refine Exec.run tyOk 400 rfl ?_
          obtain ⟨q85, hF⟩ := req_some hF
          obtain ⟨c86, hr86, hd86⟩ := SlAt.get h84 q85
          obtain rfl := hr86
          refine Exec.ia tyOk rfl rfl ⟨q85.1, q85.2, hd86.some⟩ ?_
          refine Exec.run tyOk 400 rfl ?_
          refine Exec.ld tyOk (x := .int .i64 ((atI x3 x81).Val.Kind)) rfl rfl (RdAt.part hd86 1 1 rfl) rfl rfl ?_
          refine Exec.run tyOk 400 rfl ?_
          obtain ⟨J89, hJ89, hF⟩ := jn_some hF
          refine Exec.seam (fun L' V' M' => ∃ (x87 : List TPair) (a88 : Option Addr) (k88 : Nat), L' = [(1, .v (.slice a4 ((x3).length) (k4))), (6, .v (.slice a88 ((x87).length) (k88))), (8, .v (.int .i64 (x81)))] ∧ M' = [] ∧ SlAt cTPair V' a88 k88 x87 ∧ SlAt cTPair V' a4 k4 x3 ∧ J89 x87 = some r) rfl ?_ ?_
          · rintro L' V90 M' ⟨x87, a88, k88, rfl, rfl, h88, h91, hF⟩
            subst hJ89
            refine Exec.run tyOk 400 rfl ?_
            exact Exec.round [(1, .v (.slice a4 ((x3).length) (k4))), (6, .v (.slice a88 ((x87).length) (k88))), (8, .v (.int .i64 ((IntKind.i64.wrap (x81 + (1 : Int))))))] ⟨rfl, rfl, rfl, trivial⟩ ⟨n82, Nat.lt_succ_self _, x87, a88, k88, (IntKind.i64.wrap (x81 + (1 : Int))), rfl, rfl, h88, h91, hF⟩
          · skip
            refine Exec.run tyOk 400 rfl ?_
            rcases cond_some hF with ⟨hb, hF⟩ | ⟨hb, hF⟩
            · skip
              refine Exec.ifT rfl hb ?_
              refine Exec.run tyOk 400 rfl ?_
              obtain ⟨q92, hF⟩ := req_some hF
              obtain ⟨c93, hr93, hd93⟩ := SlAt.get h84 q92
              obtain rfl := hr93
              refine Exec.ia tyOk rfl rfl ⟨q92.1, q92.2, hd93.some⟩ ?_
              refine Exec.run tyOk 400 rfl ?_
              refine Exec.ld tyOk (x := .agg ⟨[.string ⟨⟨(atI x3 x81).Key⟩⟩, .int .i64 ((atI x3 x81).Val.Kind), .int .i64 ((atI x3 x81).Val.N), .string ⟨⟨(atI x3 x81).Val.S⟩⟩]⟩) rfl rfl hd93 rfl rfl ?_
              refine Exec.run tyOk 400 rfl ?_
              obtain ⟨x94, hx94, hF⟩ := bnd_some hF
              refine Exec.call rfl rfl (W_clockworkref06_with x79 ((atI x3 x81)) h80 hx94) ?_
              rintro V96 _ hv96 ⟨a95, k95, rfl, h95⟩
              have h97 := SlAt.mono h84 hv96
              have h98 := SlAt.mono h80 hv96
              refine Exec.run tyOk 400 rfl ?_
              exact Exec.round [(1, .v (.slice a4 ((x3).length) (k4))), (6, .v (.slice a95 ((x94).length) (k95))), (8, .v (.int .i64 (x81)))] ⟨rfl, rfl, rfl, trivial⟩ ⟨x94, a95, k95, rfl, rfl, h95, h97, hF⟩
            · skip
              refine Exec.ifF rfl hb ?_
              refine Exec.run tyOk 400 rfl ?_
              exact Exec.round [(1, .v (.slice a4 ((x3).length) (k4))), (6, .v (.slice a80 ((x79).length) (k80))), (8, .v (.int .i64 (x81)))] ⟨rfl, rfl, rfl, trivial⟩ ⟨x79, a80, k80, rfl, rfl, h80, h84, hF⟩
        · skip
          refine Exec.ifF rfl hb ?_
          refine Exec.run tyOk 400 rfl ?_
          exact Exec.round [(6, .v (.slice a80 ((x79).length) (k80)))] ⟨rfl, trivial⟩ ⟨x79, a80, k80, rfl, rfl, h80, hF⟩
    · skip
      refine Exec.run tyOk 400 rfl ?_
      refine Exec.loop (fun n104 L' V' M' => ∃ (x102 : List TPair) (a101 : Option Addr) (k101 : Nat) (cs101 : List Value) (x103 : Int), L' = [(0, .v (.slice a2 ((x1).length) (k2))), (1, .v (.slice a4 ((x3).length) (k4))), (6, .v (.slice a101 ((x102).length) (k101))), (7, .v (.int .i64 (x103)))] ∧ M' = [.row (.slice a101 ((x102).length) (k101)) cs101 64 4] ∧ RowRep cTPair V' x102 cs101 ∧ SlAt cTPair V' a2 k2 x1 ∧ SlAt cTPair V' a4 k4 x3 ∧ F_clockworkref06_Apply_L2 x1 x3 J10 n104 x102 x103 = some r) ⟨(((((x1).length : Nat) : Int)).toNat + 1), [(0, .v (.slice a2 ((x1).length) (k2))), (1, .v (.slice a4 ((x3).length) (k4))), (6, .v (.slice none ((([] : List TPair)).length) (0))), (7, .v (.int .i64 ((0 : Int))))], ⟨rfl, rfl, rfl, rfl, trivial⟩, ([] : List TPair), none, 0, [], (0 : Int), rfl, rfl, h7, h2, h4, hF⟩ ?_
      rintro n104 L' V105 M' ⟨x102, a101, k101, cs101, x103, rfl, rfl, h101, h106, h107, hF⟩
      rcases n104 with _ | n104
      · exact absurd hF (by simp [F_clockworkref06_Apply_L2])
      rw [F_clockworkref06_Apply_L2] at hF
      refine Exec.run tyOk 400 rfl ?_
      rcases cond_some hF with ⟨hb, hF⟩ | ⟨hb, hF⟩
      · skip
        refine Exec.ifT rfl hb ?_
        refine Exec.run tyOk 400 rfl ?_
        obtain ⟨q108, hF⟩ := req_some hF
        obtain ⟨c109, hr109, hd109⟩ := SlAt.get h106 q108
        obtain rfl := hr109
        refine Exec.ia tyOk rfl rfl ⟨q108.1, q108.2, hd109.some⟩ ?_
        refine Exec.run tyOk 400 rfl ?_
        refine Exec.ld tyOk (x := .string ⟨⟨(atI x1 x103).Key⟩⟩) rfl rfl (RdAt.part hd109 0 1 rfl) rfl rfl ?_
        refine Exec.run tyOk 400 rfl ?_
        obtain ⟨x110, hx110, hF⟩ := bnd_some hF
        refine Exec.callS (.bool (x110)) rfl rfl (W_clockworkref06_Has x3 ((atI x1 x103).Key) h107 hx110) ?_
        refine Exec.run tyOk 400 rfl ?_
        obtain ⟨J113, hJ113, hF⟩ := jn_some hF
        refine Exec.seam (fun L' V' M' => ∃ (x112 : List TPair) (a111 : Option Addr) (k111 : Nat) (cs111 : List Value), L' = [(0, .v (.slice a2 ((x1).length) (k2))), (1, .v (.slice a4 ((x3).length) (k4))), (6, .v (.slice a111 ((x112).length) (k111))), (7, .v (.int .i64 (x103)))] ∧ M' = [.row (.slice a111 ((x112).length) (k111)) cs111 64 4] ∧ RowRep cTPair V' x112 cs111 ∧ SlAt cTPair V' a2 k2 x1 ∧ SlAt cTPair V' a4 k4 x3 ∧ J113 x112 = some r) rfl ?_ ?_
        · rintro L' V114 M' ⟨x112, a111, k111, cs111, rfl, rfl, h111, h115, h116, hF⟩
          subst hJ113
          refine Exec.run tyOk 400 rfl ?_
          exact Exec.round [(0, .v (.slice a2 ((x1).length) (k2))), (1, .v (.slice a4 ((x3).length) (k4))), (6, .v (.slice a111 ((x112).length) (k111))), (7, .v (.int .i64 ((IntKind.i64.wrap (x103 + (1 : Int))))))] ⟨rfl, rfl, rfl, rfl, trivial⟩ ⟨n104, Nat.lt_succ_self _, x112, a111, k111, cs111, (IntKind.i64.wrap (x103 + (1 : Int))), rfl, rfl, h111, h115, h116, hF⟩
        · skip
          refine Exec.run tyOk 400 rfl ?_
          rcases cond_some hF with ⟨hb, hF⟩ | ⟨hb, hF⟩
          · skip
            refine Exec.ifT rfl hb ?_
            refine Exec.run tyOk 400 rfl ?_
            obtain ⟨q117, hF⟩ := req_some hF
            obtain ⟨c118, hr118, hd118⟩ := SlAt.get h106 q117
            obtain rfl := hr118
            refine Exec.ia tyOk rfl rfl ⟨q117.1, q117.2, hd118.some⟩ ?_
            refine Exec.run tyOk 400 rfl ?_
            refine Exec.ld tyOk (x := .agg ⟨[.string ⟨⟨(atI x1 x103).Key⟩⟩, .int .i64 ((atI x1 x103).Val.Kind), .int .i64 ((atI x1 x103).Val.N), .string ⟨⟨(atI x1 x103).Val.S⟩⟩]⟩) rfl rfl hd118 rfl rfl ?_
            refine Exec.run tyOk 400 rfl ?_
            refine Exec.bsl tyOk rfl rfl ?_
            refine Exec.run tyOk 400 rfl ?_
            obtain ⟨q120, hF⟩ := req_some hF
            refine Exec.app tyOk 0 1 (nm := ((x102 ++ [(atI x1 x103)])).length) rfl rfl rfl rfl rfl rfl rfl rfl rfl (by simp) (fun _ _ => rfl) rfl q120 (fun a119 k119 => ?_)
            have h119 : RowRep cTPair V105 (x102 ++ [(atI x1 x103)]) (cs101 ++ [.string ⟨⟨(atI x1 x103).Key⟩⟩, .int .i64 ((atI x1 x103).Val.Kind), .int .i64 ((atI x1 x103).Val.N), .string ⟨⟨(atI x1 x103).Val.S⟩⟩]) := RowRep.app h101 ⟨_, _, rfl, rfl, rfl⟩
            refine Exec.run tyOk 400 rfl ?_
            refine Exec.cut 1 [(0, .v (.slice a2 ((x1).length) (k2))), (1, .v (.slice a4 ((x3).length) (k4))), (6, .v (.slice a119 (((x102 ++ [(atI x1 x103)])).length) (k119))), (7, .v (.int .i64 (x103)))] (M' := [.row (.slice a119 (((x102 ++ [(atI x1 x103)])).length) (k119)) ((cs101 ++ [.string ⟨⟨(atI x1 x103).Key⟩⟩, .int .i64 ((atI x1 x103).Val.Kind), .int .i64 ((atI x1 x103).Val.N), .string ⟨⟨(atI x1 x103).Val.S⟩⟩])) 64 4]) rfl ⟨rfl, rfl, rfl, rfl, trivial⟩ rfl rfl rfl ?_
            exact Exec.round [(0, .v (.slice a2 ((x1).length) (k2))), (1, .v (.slice a4 ((x3).length) (k4))), (6, .v (.slice a119 (((x102 ++ [(atI x1 x103)])).length) (k119))), (7, .v (.int .i64 (x103)))] ⟨rfl, rfl, rfl, rfl, trivial⟩ ⟨(x102 ++ [(atI x1 x103)]), a119, k119, (cs101 ++ [.string ⟨⟨(atI x1 x103).Key⟩⟩, .int .i64 ((atI x1 x103).Val.Kind), .int .i64 ((atI x1 x103).Val.N), .string ⟨⟨(atI x1 x103).Val.S⟩⟩]), rfl, rfl, h119, h106, h107, hF⟩
          · skip
            refine Exec.ifF rfl hb ?_
            refine Exec.run tyOk 400 rfl ?_
            exact Exec.round [(0, .v (.slice a2 ((x1).length) (k2))), (1, .v (.slice a4 ((x3).length) (k4))), (6, .v (.slice a101 ((x102).length) (k101))), (7, .v (.int .i64 (x103)))] ⟨rfl, rfl, rfl, rfl, trivial⟩ ⟨x102, a101, k101, cs101, rfl, rfl, h101, h106, h107, hF⟩
      · skip
        refine Exec.ifF rfl hb ?_
        refine Exec.run tyOk 400 rfl ?_
        exact Exec.round [(1, .v (.slice a4 ((x3).length) (k4))), (6, .v (.slice a101 ((x102).length) (k101)))] ⟨rfl, rfl, trivial⟩ ⟨x102, a101, k101, cs101, rfl, rfl, h101, h107, hF⟩

def F_placement_Owner (x1 : TPlacement) (x3 : Str) : Option Int :=
  (bnd (F_placement_Index x1 x3) fun x4 => (cond (decide (x4 < (0 : Int))) (some (0 : Int)) (req (0 ≤ x4 ∧ x4 < ((x1.Parts).length : Int)) (cond (((atI x1.Parts x4).Dest != (0 : Int)) && (sLt x3 (atI x1.Parts x4).Done)) (some (atI x1.Parts x4).Dest) (some (atI x1.Parts x4).Node)))))

set_option maxRecDepth 100000 in
theorem W_placement_Owner {V : View} (x1 : TPlacement) (x3 : Str) {a2 : Option Addr} {k2 : Nat} (h2 : SlAt cTPart V a2 k2 x1.Parts) {r : Int} (hF : F_placement_Owner x1 x3 = some r) :
    Spec Tryz.prog 89 [.agg ⟨[.int .i64 (x1.Version), .slice a2 ((x1.Parts).length) (k2)]⟩, .string ⟨⟨x3⟩⟩] V (fun _ v => v = .int .i64 (r)) := by
  unfold F_placement_Owner at hF
  refine Spec.enter (T := tyT) Tryz.func89 rfl (by kernel_rfl) rfl rfl rfl ?_
  refine Exec.run tyOk 400 rfl ?_
  obtain ⟨x4, hx4, hF⟩ := bnd_some hF
  refine Exec.callS (.int .i64 (x4)) rfl rfl (W_placement_Index x1 x3 h2 hx4) ?_
  refine Exec.run tyOk 400 rfl ?_
  rcases cond_some hF with ⟨hb, hF⟩ | ⟨hb, hF⟩
  · skip
    refine Exec.ifT rfl hb ?_
    refine Exec.run tyOk 400 rfl ?_
    obtain rfl := some_inj hF
    exact Exec.ret tyOk rfl rfl rfl
  · skip
    refine Exec.ifF rfl hb ?_
    refine Exec.run tyOk 400 rfl ?_
    obtain ⟨q5, hF⟩ := req_some hF
    obtain ⟨c6, hr6, hd6⟩ := SlAt.get h2 q5
    obtain rfl := hr6
    refine Exec.ia tyOk rfl rfl ⟨q5.1, q5.2, hd6.some⟩ ?_
    refine Exec.run tyOk 400 rfl ?_
    refine Exec.ld tyOk (x := .agg ⟨[.int .i64 ((atI x1.Parts x4).Id), .string ⟨⟨(atI x1.Parts x4).From⟩⟩, .int .i64 ((atI x1.Parts x4).Node), .int .i64 ((atI x1.Parts x4).Dest), .string ⟨⟨(atI x1.Parts x4).Done⟩⟩]⟩) rfl rfl hd6 rfl rfl ?_
    refine Exec.run tyOk 400 rfl ?_
    rcases cond_some hF with ⟨hb, hF⟩ | ⟨hb, hF⟩
    · skip
      refine Exec.ifT rfl hb ?_
      refine Exec.run tyOk 400 rfl ?_
      obtain rfl := some_inj hF
      exact Exec.ret tyOk rfl rfl rfl
    · skip
      refine Exec.ifF rfl hb ?_
      refine Exec.run tyOk 400 rfl ?_
      obtain rfl := some_inj hF
      exact Exec.ret tyOk rfl rfl rfl

def F_clockworkref32_Valid_L2 (x13 : Int) (x3 : List TShard) (x6 : List Int) (x1 : TPlacement) (J28 : Option Bool) : Nat → Int → Option Bool
  | 0, _ => none
  | n34 + 1, x33 => (req (0 ≤ x13 ∧ x13 < ((x3).length : Int)) (cond (decide (x33 < ((((atI x3 x13).Pairs).length : Nat) : Int))) (req (0 ≤ x13 ∧ x13 < ((x3).length : Int)) (req (0 ≤ x33 ∧ x33 < (((atI x3 x13).Pairs).length : Int)) (req (0 ≤ x13 ∧ x13 < ((x6).length : Int)) (bnd (F_clockworkref29_Owner x1 ((atI ((atI x3 x13).Pairs) x33).Key)) fun x49 => (cond (x49 != (atI x6 x13)) (some false) (F_clockworkref32_Valid_L2 x13 x3 x6 x1 J28 n34 ((IntKind.i64.wrap (x33 + (1 : Int)))))))))) J28))

def F_clockworkref32_Valid_L1 (x3 : List TShard) (x6 : List Int) (x1 : TPlacement) (J11 : Option Bool) : Nat → Int → Option Bool
  | 0, _ => none
  | n14 + 1, x13 => (cond (decide (x13 < (((x3).length : Nat) : Int))) (req (0 ≤ x13 ∧ x13 < ((x3).length : Int)) (req (0 ≤ x13 ∧ x13 < ((x6).length : Int)) (req (((((atI x3 x13).Node != (atI x6 x13))) == false) = true → 0 ≤ x13 ∧ x13 < ((x3).length : Int)) (bnd (gcall ((((atI x3 x13).Node != (atI x6 x13))) == false) (F_clockworkref06_Valid ((cond ((((atI x3 x13).Node != (atI x6 x13))) == false) (atI x3 x13) default).Pairs))) fun x27 => (cond (((atI x3 x13).Node != (atI x6 x13)) || (!x27)) (some false) (jn ((F_clockworkref32_Valid_L1 x3 x6 x1 J11 n14 ((IntKind.i64.wrap (x13 + (1 : Int)))))) (fun J28 => (F_clockworkref32_Valid_L2 x13 x3 x6 x1 J28 (1000000 : Nat) ((0 : Int)))))))))) J11)

def F_clockworkref32_Valid (x1 : TPlacement) (x3 : List TShard) : Option Bool :=
  (bnd (F_clockworkref29_Valid x1) fun x5 => (cond (!x5) (some false) (bnd (F_clockworkref29_Nodes x1) fun x6 => (cond ((((x6).length : Nat) : Int) != (((x3).length : Nat) : Int)) (some false) (jn ((some true)) (fun J11 => (F_clockworkref32_Valid_L1 x3 x6 x1 J11 (((((x3).length : Nat) : Int)).toNat + 1) ((0 : Int)))))))))

set_option maxRecDepth 100000 in
theorem W_clockworkref32_Valid {V : View} (x1 : TPlacement) (x3 : List TShard) {a2 : Option Addr} {k2 : Nat} {a4 : Option Addr} {k4 : Nat} (h2 : SlAt cTPart V a2 k2 x1.Parts) (h4 : SlAt cTShard V a4 k4 x3) {r : Bool} (hF : F_clockworkref32_Valid x1 x3 = some r) :
    Spec Tryz.prog 18 [.agg ⟨[.int .i64 (x1.Version), .slice a2 ((x1.Parts).length) (k2)]⟩, .slice a4 ((x3).length) (k4)] V (fun _ v => v = .bool (r)) := by
  unfold F_clockworkref32_Valid at hF
  refine Spec.enter (T := tyT) Tryz.func18 rfl (by kernel_rfl) rfl rfl rfl ?_
  refine Exec.run tyOk 400 rfl ?_
  obtain ⟨x5, hx5, hF⟩ := bnd_some hF
  refine Exec.callS (.bool (x5)) rfl rfl (W_clockworkref29_Valid x1 h2 hx5) ?_
  refine Exec.run tyOk 400 rfl ?_
  rcases cond_some hF with ⟨hb, hF⟩ | ⟨hb, hF⟩
  · skip
    refine Exec.ifT rfl hb ?_
    refine Exec.run tyOk 400 rfl ?_
    obtain rfl := some_inj hF
    exact Exec.ret tyOk rfl rfl rfl
  · skip
    refine Exec.ifF rfl hb ?_
    refine Exec.run tyOk 400 rfl ?_
    obtain ⟨x6, hx6, hF⟩ := bnd_some hF
    refine Exec.call rfl rfl (W_clockworkref29_Nodes x1 h2 hx6) ?_
    rintro V8 _ hv8 ⟨a7, k7, rfl, h7⟩
    have h9 := SlAt.mono h2 hv8
    have h10 := SlAt.mono h4 hv8
    refine Exec.run tyOk 400 rfl ?_
    rcases cond_some hF with ⟨hb, hF⟩ | ⟨hb, hF⟩
    · skip
      refine Exec.ifT rfl hb ?_
      refine Exec.run tyOk 400 rfl ?_
      obtain rfl := some_inj hF
      exact Exec.ret tyOk rfl rfl rfl
    · skip
      refine Exec.ifF rfl hb ?_
      refine Exec.run tyOk 6 rfl ?_
      obtain ⟨J11, hJ11, hF⟩ := jn_some hF
      refine Exec.seam (fun L' V' M' => L' = [] ∧ M' = [] ∧ J11 = some r) rfl ?_ ?_
      · rintro L' V12 M' ⟨rfl, rfl, hF⟩
        subst hJ11
        refine Exec.run tyOk 400 rfl ?_
        obtain rfl := some_inj hF
        exact Exec.ret tyOk rfl rfl rfl
      · skip
        refine Exec.run tyOk 400 rfl ?_
        refine Exec.loop (fun n14 L' V' M' => ∃ (x13 : Int), L' = [(1, .v (.slice a4 ((x3).length) (k4))), (2, .ptr 0 0), (5, .v (.slice a7 ((x6).length) (k7))), (6, .v (.int .i64 (x13)))] ∧ M' = [.blk [.v (.int .i64 (x1.Version)), .v (.slice a2 ((x1.Parts).length) (k2))] 24] ∧ SlAt cTShard V' a4 k4 x3 ∧ SlAt (cInt .i64) V' a7 k7 x6 ∧ SlAt cTPart V' a2 k2 x1.Parts ∧ F_clockworkref32_Valid_L1 x3 x6 x1 J11 n14 x13 = some r) ⟨(((((x3).length : Nat) : Int)).toNat + 1), [(1, .v (.slice a4 ((x3).length) (k4))), (2, .ptr 0 0), (5, .v (.slice a7 ((x6).length) (k7))), (6, .v (.int .i64 ((0 : Int))))], ⟨rfl, rfl, rfl, rfl, trivial⟩, (0 : Int), rfl, rfl, h10, h7, h9, hF⟩ ?_
        rintro n14 L' V15 M' ⟨x13, rfl, rfl, h16, h17, h18, hF⟩
        rcases n14 with _ | n14
        · exact absurd hF (by simp [F_clockworkref32_Valid_L1])
        rw [F_clockworkref32_Valid_L1] at hF
        refine Exec.run tyOk 400 rfl ?_
        rcases cond_some hF with ⟨hb, hF⟩ | ⟨hb, hF⟩
        · skip
          refine Exec.ifT rfl hb ?_
          refine Exec.run tyOk 400 rfl ?_
          refine Exec.draws tyOk [(0, true), (1, true), (2, true), (3, true), (4, true), (5, true), (6, true), (7, true), (8, true), (9, true), (10, true), (11, true), (12, true), (13, true), (14, true), (15, true), (16, false), (17, false), (18, false)] rfl (by kernel_rfl) ?_
          refine Exec.run tyOk 400 rfl ?_
          obtain ⟨q19, hF⟩ := req_some hF
          obtain ⟨c20, hr20, hd20⟩ := SlAt.get h16 q19
          obtain ⟨a21, k21, rfl, h21⟩ := hr20
          refine Exec.fia tyOk rfl rfl rfl ⟨q19.1, q19.2, hd20.some⟩ ?_
          refine Exec.run tyOk 400 rfl ?_
          refine Exec.fld tyOk (x := .int .i64 ((atI x3 x13).Node)) rfl rfl rfl (RdAt.part hd20 0 1 rfl) rfl rfl ?_
          refine Exec.run tyOk 400 rfl ?_
          obtain ⟨q22, hF⟩ := req_some hF
          obtain ⟨c23, hr23, hd23⟩ := SlAt.get h17 q22
          obtain rfl := hr23
          refine Exec.fia tyOk rfl rfl rfl ⟨q22.1, q22.2, hd23.some⟩ ?_
          refine Exec.run tyOk 400 rfl ?_
          refine Exec.fld tyOk (x := .int .i64 ((atI x6 x13))) rfl rfl rfl hd23 rfl rfl ?_
          refine Exec.run tyOk 400 rfl ?_
          obtain ⟨q24, hF⟩ := req_some hF
          obtain ⟨c25, hr25, hd25⟩ := SlAt.gget ((((atI x3 x13).Node != (atI x6 x13))) == false) h16 q24
          obtain ⟨a26, k26, rfl, h26⟩ := hr25
          refine Exec.fia tyOk rfl rfl rfl (fun gg0 => ⟨(q24 (gd1_of gg0)).1, (q24 (gd1_of gg0)).2, (hd25 (gd1_of gg0)).some⟩) ?_
          refine Exec.run tyOk 400 rfl ?_
          refine Exec.fld tyOk (x := .slice a26 (((cond ((((atI x3 x13).Node != (atI x6 x13))) == false) (atI x3 x13) default).Pairs).length) (k26)) rfl rfl rfl (fun gg0 => (RdAt.part (hd25 (gd1_of gg0)) 1 1 rfl)) rfl rfl ?_
          refine Exec.run tyOk 400 rfl ?_
          obtain ⟨x27, hx27, hF⟩ := bnd_some hF
          refine Exec.callS (.bool (x27)) rfl rfl (fun gg0 => W_clockworkref06_Valid ((cond ((((atI x3 x13).Node != (atI x6 x13))) == false) (atI x3 x13) default).Pairs) h26 (gcall_some hx27 (gd1_of gg0))) ?_
          refine Exec.run tyOk 400 rfl ?_
          rcases cond_some hF with ⟨hb, hF⟩ | ⟨hb, hF⟩
          · skip
            refine Exec.ifT rfl hb ?_
            refine Exec.run tyOk 400 rfl ?_
            obtain rfl := some_inj hF
            exact Exec.ret tyOk rfl rfl rfl
          · skip
            refine Exec.ifF rfl hb ?_
            refine Exec.run tyOk 5 rfl ?_
            obtain ⟨J28, hJ28, hF⟩ := jn_some hF
            refine Exec.seam (fun L' V' M' => L' = [(1, .v (.slice a4 ((x3).length) (k4))), (2, .ptr 0 0), (5, .v (.slice a7 ((x6).length) (k7))), (6, .v (.int .i64 (x13)))] ∧ M' = [.blk [.v (.int .i64 (x1.Version)), .v (.slice a2 ((x1.Parts).length) (k2))] 24] ∧ SlAt cTShard V' a4 k4 x3 ∧ SlAt (cInt .i64) V' a7 k7 x6 ∧ SlAt cTPart V' a2 k2 x1.Parts ∧ J28 = some r) rfl ?_ ?_
            · rintro L' V29 M' ⟨rfl, rfl, h30, h31, h32, hF⟩
              subst hJ28
              refine Exec.run tyOk 400 rfl ?_
              exact Exec.round [(1, .v (.slice a4 ((x3).length) (k4))), (2, .ptr 0 0), (5, .v (.slice a7 ((x6).length) (k7))), (6, .v (.int .i64 ((IntKind.i64.wrap (x13 + (1 : Int))))))] ⟨rfl, rfl, rfl, rfl, trivial⟩ ⟨n14, Nat.lt_succ_self _, (IntKind.i64.wrap (x13 + (1 : Int))), rfl, rfl, h30, h31, h32, hF⟩
            · skip
              refine Exec.run tyOk 400 rfl ?_
              refine Exec.loop (fun n34 L' V' M' => ∃ (x33 : Int), L' = [(1, .v (.slice a4 ((x3).length) (k4))), (2, .ptr 0 0), (5, .v (.slice a7 ((x6).length) (k7))), (6, .v (.int .i64 (x13))), (7, .v (.int .i64 (x33)))] ∧ M' = [.blk [.v (.int .i64 (x1.Version)), .v (.slice a2 ((x1.Parts).length) (k2))] 24] ∧ SlAt cTShard V' a4 k4 x3 ∧ SlAt (cInt .i64) V' a7 k7 x6 ∧ SlAt cTPart V' a2 k2 x1.Parts ∧ F_clockworkref32_Valid_L2 x13 x3 x6 x1 J28 n34 x33 = some r) ⟨(1000000 : Nat), [(1, .v (.slice a4 ((x3).length) (k4))), (2, .ptr 0 0), (5, .v (.slice a7 ((x6).length) (k7))), (6, .v (.int .i64 (x13))), (7, .v (.int .i64 ((0 : Int))))], ⟨rfl, rfl, rfl, rfl, rfl, trivial⟩, (0 : Int), rfl, rfl, h16, h17, h18, hF⟩ ?_
              rintro n34 L' V35 M' ⟨x33, rfl, rfl, h36, h37, h38, hF⟩
              rcases n34 with _ | n34
              · exact absurd hF (by simp [F_clockworkref32_Valid_L2])
              rw [F_clockworkref32_Valid_L2] at hF
              refine Exec.run tyOk 400 rfl ?_
              obtain ⟨q39, hF⟩ := req_some hF
              obtain ⟨c40, hr40, hd40⟩ := SlAt.get h36 q39
              obtain ⟨a41, k41, rfl, h41⟩ := hr40
              refine Exec.ia tyOk rfl rfl ⟨q39.1, q39.2, hd40.some⟩ ?_
              refine Exec.run tyOk 400 rfl ?_
              refine Exec.ld tyOk (x := .slice a41 (((atI x3 x13).Pairs).length) (k41)) rfl rfl (RdAt.part hd40 1 1 rfl) rfl rfl ?_
              refine Exec.run tyOk 400 rfl ?_
              rcases cond_some hF with ⟨hb, hF⟩ | ⟨hb, hF⟩
              · skip
                refine Exec.ifT rfl hb ?_
                refine Exec.run tyOk 400 rfl ?_
                refine Exec.draws tyOk [(0, true), (1, true), (2, true), (3, true), (4, true), (5, true), (6, true), (7, true), (8, true), (9, true), (11, true), (12, true), (13, true), (14, true), (10, false), (15, false)] rfl (by kernel_rfl) ?_
                refine Exec.run tyOk 400 rfl ?_
                obtain ⟨q42, hF⟩ := req_some hF
                obtain ⟨c43, hr43, hd43⟩ := SlAt.get h36 q42
                obtain ⟨a44, k44, rfl, h44⟩ := hr43
                refine Exec.fia tyOk rfl rfl rfl ⟨q42.1, q42.2, hd43.some⟩ ?_
                refine Exec.run tyOk 400 rfl ?_
                refine Exec.fld tyOk (x := .slice a44 (((atI x3 x13).Pairs).length) (k44)) rfl rfl rfl (RdAt.part hd43 1 1 rfl) rfl rfl ?_
                refine Exec.run tyOk 400 rfl ?_
                obtain ⟨q45, hF⟩ := req_some hF
                obtain ⟨c46, hr46, hd46⟩ := SlAt.get h44 q45
                obtain rfl := hr46
                refine Exec.fia tyOk rfl rfl rfl ⟨q45.1, q45.2, hd46.some⟩ ?_
                refine Exec.run tyOk 400 rfl ?_
                refine Exec.fld tyOk (x := .string ⟨⟨(atI ((atI x3 x13).Pairs) x33).Key⟩⟩) rfl rfl rfl (RdAt.part hd46 0 1 rfl) rfl rfl ?_
                refine Exec.run tyOk 400 rfl ?_
                obtain ⟨q47, hF⟩ := req_some hF
                obtain ⟨c48, hr48, hd48⟩ := SlAt.get h37 q47
                obtain rfl := hr48
                refine Exec.fia tyOk rfl rfl rfl ⟨q47.1, q47.2, hd48.some⟩ ?_
                refine Exec.run tyOk 400 rfl ?_
                refine Exec.fld tyOk (x := .int .i64 ((atI x6 x13))) rfl rfl rfl hd48 rfl rfl ?_
                refine Exec.run tyOk 400 rfl ?_
                obtain ⟨x49, hx49, hF⟩ := bnd_some hF
                refine Exec.callS (.int .i64 (x49)) rfl rfl (W_clockworkref29_Owner x1 ((atI ((atI x3 x13).Pairs) x33).Key) h38 hx49) ?_
                refine Exec.run tyOk 400 rfl ?_
                rcases cond_some hF with ⟨hb, hF⟩ | ⟨hb, hF⟩
                · skip
                  refine Exec.ifT rfl hb ?_
                  refine Exec.run tyOk 400 rfl ?_
                  obtain rfl := some_inj hF
                  exact Exec.ret tyOk rfl rfl rfl
                · skip
                  refine Exec.ifF rfl hb ?_
                  refine Exec.run tyOk 400 rfl ?_
                  exact Exec.round [(1, .v (.slice a4 ((x3).length) (k4))), (2, .ptr 0 0), (5, .v (.slice a7 ((x6).length) (k7))), (6, .v (.int .i64 (x13))), (7, .v (.int .i64 ((IntKind.i64.wrap (x33 + (1 : Int))))))] ⟨rfl, rfl, rfl, rfl, rfl, trivial⟩ ⟨n34, Nat.lt_succ_self _, (IntKind.i64.wrap (x33 + (1 : Int))), rfl, rfl, h36, h37, h38, hF⟩
              · skip
                refine Exec.ifF rfl hb ?_
                refine Exec.run tyOk 400 rfl ?_
                exact Exec.round [(1, .v (.slice a4 ((x3).length) (k4))), (2, .ptr 0 0), (5, .v (.slice a7 ((x6).length) (k7))), (6, .v (.int .i64 (x13)))] ⟨rfl, rfl, rfl, rfl, trivial⟩ ⟨rfl, rfl, h36, h37, h38, hF⟩
        · skip
          refine Exec.ifF rfl hb ?_
          refine Exec.run tyOk 400 rfl ?_
          refine Exec.cut 0 [] (M' := []) rfl trivial rfl rfl rfl ?_
          exact Exec.round [] trivial ⟨rfl, rfl, hF⟩

def F_migrate_Receive_L1 (x1 : TShard) (x3 : TChunk) (J16 : (List TPair) → Option (TShard × Int)) : Nat → (List TPair) → Int → Option (TShard × Int)
  | 0, _, _ => none
  | n32 + 1, x30, x31 => (cond (decide (x31 < (((x1.Pairs).length : Nat) : Int))) (req (0 ≤ x31 ∧ x31 < ((x1.Pairs).length : Int)) (bnd (F_keys_Contains ((⟨x3.Keys.From, x3.Keys.To⟩ : TRange)) ((atI x1.Pairs x31).Key)) fun x38 => (jn (fun (x40 : List TPair) => (F_migrate_Receive_L1 x1 x3 J16 n32 x40 ((IntKind.i64.wrap (x31 + (1 : Int)))))) (fun J41 => (cond (!x38) (req (((x30 ++ [(atI x1.Pairs x31)])).length * 48 ≤ 140737488355328) (J41 ((x30 ++ [(atI x1.Pairs x31)])))) (J41 x30)))))) (J16 x30))

def F_migrate_Receive (x1 : TShard) (x3 : TChunk) : Option (TShard × Int) :=
  (bnd (gcall (((x1.Node != x3.To)) == false) (F_state_Valid x1.Pairs)) fun x5 => (bnd (gcall ((((x1.Node != x3.To) || (!x5))) == false) (F_keys_ValidRange ((⟨x3.Keys.From, x3.Keys.To⟩ : TRange)))) fun x6 => (bnd (gcall (((((x1.Node != x3.To) || (!x5)) || (!x6))) == false) (F_state_Valid x3.Pairs)) fun x7 => (bnd (gcall ((((((x1.Node != x3.To) || (!x5)) || (!x6)) || (!x7))) == false) (F_state_Slice x3.Pairs ((⟨x3.Keys.From, x3.Keys.To⟩ : TRange)))) fun x8 => (cond (((((x1.Node != x3.To) || (!x5)) || (!x6)) || (!x7)) || ((((x8).length : Nat) : Int) != (((x3.Pairs).length : Nat) : Int))) (some ((⟨0, ([] : List TPair)⟩ : TShard), (1 : Int))) (jn (fun (x15 : List TPair) => (bnd (F_state_Union x15 x3.Pairs) fun x23 => (cond (x23.2 != (0 : Int)) (some ((⟨0, ([] : List TPair)⟩ : TShard), x23.2)) (some ((⟨x1.Node, x23.1⟩ : TShard), (0 : Int)))))) (fun J16 => (F_migrate_Receive_L1 x1 x3 J16 (((((x1.Pairs).length : Nat) : Int)).toNat + 1) (([] : List TPair)) ((0 : Int))))))))))

set_option maxRecDepth 100000 in
theorem W_migrate_Receive {V : View} (x1 : TShard) (x3 : TChunk) {a2 : Option Addr} {k2 : Nat} {a4 : Option Addr} {k4 : Nat} (h2 : SlAt cTPair V a2 k2 x1.Pairs) (h4 : SlAt cTPair V a4 k4 x3.Pairs) {r : TShard × Int} (hF : F_migrate_Receive x1 x3 = some r) :
    Spec Tryz.prog 22 [.agg ⟨[.int .i64 (x1.Node), .slice a2 ((x1.Pairs).length) (k2)]⟩, .agg ⟨[.int .i64 (x3.Part), .int .i64 (x3.From), .int .i64 (x3.To), .string ⟨⟨x3.Keys.From⟩⟩, .string ⟨⟨x3.Keys.To⟩⟩, .slice a4 ((x3.Pairs).length) (k4), .bool (x3.Last)]⟩] V (fun V' v => ∃ (a47 : Option Addr) (k47 : Nat), v = .tuple ⟨[.agg ⟨[.int .i64 (r.1.Node), .slice a47 ((r.1.Pairs).length) (k47)]⟩, .int .i64 (r.2)]⟩ ∧ SlAt cTPair V' a47 k47 r.1.Pairs) := by
  unfold F_migrate_Receive at hF
  refine Spec.enter (T := tyT) Tryz.func22 rfl (by kernel_rfl) rfl rfl rfl ?_
  refine Exec.run tyOk 400 rfl ?_
  refine Exec.draws tyOk [(0, true), (1, true), (2, true), (3, true), (4, true), (5, true), (6, true), (7, true), (8, false), (9, false), (10, false), (11, false), (12, false), (13, false), (14, false), (15, false), (16, false), (17, false), (18, false), (19, false), (20, false), (21, false), (22, false), (23, false), (24, true), (25, true), (26, true), (27, true), (30, true), (31, true), (32, true), (28, false), (29, false), (33, false), (34, false)] rfl (by kernel_rfl) ?_
  refine Exec.run tyOk 400 rfl ?_
  obtain ⟨x5, hx5, hF⟩ := bnd_some hF
  refine Exec.callS (.bool (x5)) rfl rfl (fun gg0 => W_state_Valid x1.Pairs h2 (gcall_some hx5 (gd1_of gg0))) ?_
  refine Exec.run tyOk 400 rfl ?_
  obtain ⟨x6, hx6, hF⟩ := bnd_some hF
  refine Exec.callS (.bool (x6)) rfl rfl (fun gg0 => W_keys_ValidRange ((⟨x3.Keys.From, x3.Keys.To⟩ : TRange))  (gcall_some hx6 (gd1_of gg0))) ?_
  refine Exec.run tyOk 400 rfl ?_
  obtain ⟨x7, hx7, hF⟩ := bnd_some hF
  refine Exec.callS (.bool (x7)) rfl rfl (fun gg0 => W_state_Valid x3.Pairs h4 (gcall_some hx7 (gd1_of gg0))) ?_
  refine Exec.run tyOk 400 rfl ?_
  obtain ⟨x8, hx8, hF⟩ := bnd_some hF
  refine Exec.callG (fun y : Option Addr × Nat => .slice y.1 ((x8).length) (y.2)) (none, 0) (R := fun V' y => SlAt cTPair V' y.1 y.2 x8) rfl rfl rfl (fun gg0 => (W_state_Slice x3.Pairs ((⟨x3.Keys.From, x3.Keys.To⟩ : TRange)) h4 (gcall_some hx8 (gd1_of gg0))).mono (fun V' _ _ ⟨a9, k9, e1, h9⟩ => ⟨⟨a9, k9⟩, e1, h9⟩)) ?_
  rintro V10 ⟨a9, k9⟩ hv10 hg10
  have h9 : SlAt cTPair V10 a9 k9 x8 := gslat1 hx8 (fun gg0 => (hg10 gg0))
  have h11 := SlAt.mono h2 hv10
  have h12 := SlAt.mono h4 hv10
  refine Exec.run tyOk 400 rfl ?_
  rcases cond_some hF with ⟨hb, hF⟩ | ⟨hb, hF⟩
  · skip
    refine Exec.ifT rfl hb ?_
    refine Exec.run tyOk 400 rfl ?_
    obtain rfl := some_inj hF
    exact Exec.ret tyOk rfl rfl ⟨_, _, rfl, SlAt.nil⟩
  · skip
    refine Exec.ifF rfl hb ?_
    refine Exec.run tyOk 13 rfl ?_
    refine Exec.row0 64 4 rfl ?_
    have h13 : RowRep cTPair V10 ([] : List TPair) [] := RowRep.nil
    obtain ⟨J16, hJ16, hF⟩ := jn_some hF
    refine Exec.seam (fun L' V' M' => ∃ (x15 : List TPair) (a14 : Option Addr) (k14 : Nat) (cs14 : List Value), L' = [(2, .ptr 0 0), (3, .ptr 1 0), (4, .ptr 2 0), (6, .v (.slice a14 ((x15).length) (k14)))] ∧ M' = [.blk [.v (.int .i64 (x1.Node)), .v (.slice a2 ((x1.Pairs).length) (k2))] 60, .blk [.v (.int .i64 (x3.Part)), .v (.int .i64 (x3.From)), .v (.int .i64 (x3.To)), .v (.string ⟨⟨x3.Keys.From⟩⟩), .v (.string ⟨⟨x3.Keys.To⟩⟩), .v (.slice a4 ((x3.Pairs).length) (k4)), .v (.bool (x3.Last))] 34, .blk [.v (.int .i64 (0)), .v (.slice none (0) (0))] 60, .row (.slice a14 ((x15).length) (k14)) cs14 64 4] ∧ RowRep cTPair V' x15 cs14 ∧ SlAt cTPair V' a2 k2 x1.Pairs ∧ SlAt cTPair V' a4 k4 x3.Pairs ∧ J16 x15 = some r) rfl ?_ ?_
    · rintro L' V17 M' ⟨x15, a14, k14, cs14, rfl, rfl, h14, h18, h19, hF⟩
      subst hJ16
      refine Exec.run tyOk 400 rfl ?_
      refine Exec.frz 3 rfl rfl rfl (fun V20 hv20 hd20 hn20 => ?_)
      have hz20 := RowRep.slat h14 hv20 hd20 hn20
      have h21 := SlAt.mono h19 hv20
      have h22 := SlAt.mono h18 hv20
      obtain ⟨x23, hx23, hF⟩ := bnd_some hF
      refine Exec.call rfl rfl (W_state_Union x15 x3.Pairs hz20 h21 hx23) ?_
      rintro V25 _ hv25 ⟨a24, k24, rfl, h24⟩
      have h26 := SlAt.mono hz20 hv25
      have h27 := SlAt.mono h21 hv25
      have h28 := SlAt.mono h22 hv25
      refine Exec.run tyOk 400 rfl ?_
      rcases cond_some hF with ⟨hb, hF⟩ | ⟨hb, hF⟩
      · skip
        refine Exec.ifT rfl hb ?_
        refine Exec.run tyOk 400 rfl ?_
        obtain rfl := some_inj hF
        exact Exec.ret tyOk rfl rfl ⟨_, _, rfl, SlAt.nil⟩
      · skip
        refine Exec.ifF rfl hb ?_
        refine Exec.run tyOk 400 rfl ?_
        obtain rfl := some_inj hF
        exact Exec.ret tyOk rfl rfl ⟨_, _, rfl, h24⟩
    · skip
      refine Exec.run tyOk 400 rfl ?_
      refine Exec.loop (fun n32 L' V' M' => ∃ (x30 : List TPair) (a29 : Option Addr) (k29 : Nat) (cs29 : List Value) (x31 : Int), L' = [(2, .ptr 0 0), (3, .ptr 1 0), (4, .ptr 2 0), (6, .v (.slice a29 ((x30).length) (k29))), (48, .v (.slice a2 ((x1.Pairs).length) (k2))), (49, .v (.int .i64 ((((x1.Pairs).length : Nat) : Int)))), (50, .v (.int .i64 (x31)))] ∧ M' = [.blk [.v (.int .i64 (x1.Node)), .v (.slice a2 ((x1.Pairs).length) (k2))] 60, .blk [.v (.int .i64 (x3.Part)), .v (.int .i64 (x3.From)), .v (.int .i64 (x3.To)), .v (.string ⟨⟨x3.Keys.From⟩⟩), .v (.string ⟨⟨x3.Keys.To⟩⟩), .v (.slice a4 ((x3.Pairs).length) (k4)), .v (.bool (x3.Last))] 34, .blk [.v (.int .i64 (0)), .v (.slice none (0) (0))] 60, .row (.slice a29 ((x30).length) (k29)) cs29 64 4] ∧ RowRep cTPair V' x30 cs29 ∧ SlAt cTPair V' a2 k2 x1.Pairs ∧ SlAt cTPair V' a4 k4 x3.Pairs ∧ F_migrate_Receive_L1 x1 x3 J16 n32 x30 x31 = some r) ⟨(((((x1.Pairs).length : Nat) : Int)).toNat + 1), [(2, .ptr 0 0), (3, .ptr 1 0), (4, .ptr 2 0), (6, .v (.slice none ((([] : List TPair)).length) (0))), (48, .v (.slice a2 ((x1.Pairs).length) (k2))), (49, .v (.int .i64 ((((x1.Pairs).length : Nat) : Int)))), (50, .v (.int .i64 ((0 : Int))))], ⟨rfl, rfl, rfl, rfl, rfl, rfl, rfl, trivial⟩, ([] : List TPair), none, 0, [], (0 : Int), rfl, rfl, h13, h11, h12, hF⟩ ?_
      rintro n32 L' V33 M' ⟨x30, a29, k29, cs29, x31, rfl, rfl, h29, h34, h35, hF⟩
      rcases n32 with _ | n32
      · exact absurd hF (by simp [F_migrate_Receive_L1])
      rw [F_migrate_Receive_L1] at hF
      refine Exec.run tyOk 400 rfl ?_
      rcases cond_some hF with ⟨hb, hF⟩ | ⟨hb, hF⟩
      · skip
        refine Exec.ifT rfl hb ?_
        refine Exec.run tyOk 400 rfl ?_
        obtain ⟨q36, hF⟩ := req_some hF
        obtain ⟨c37, hr37, hd37⟩ := SlAt.get h34 q36
        obtain rfl := hr37
        refine Exec.ia tyOk rfl rfl ⟨q36.1, q36.2, hd37.some⟩ ?_
        refine Exec.run tyOk 400 rfl ?_
        refine Exec.ld tyOk (x := .agg ⟨[.string ⟨⟨(atI x1.Pairs x31).Key⟩⟩, .int .i64 ((atI x1.Pairs x31).Val.Kind), .int .i64 ((atI x1.Pairs x31).Val.N), .string ⟨⟨(atI x1.Pairs x31).Val.S⟩⟩]⟩) rfl rfl hd37 rfl rfl ?_
        refine Exec.run tyOk 400 rfl ?_
        obtain ⟨x38, hx38, hF⟩ := bnd_some hF
        refine Exec.callS (.bool (x38)) rfl rfl (W_keys_Contains ((⟨x3.Keys.From, x3.Keys.To⟩ : TRange)) ((atI x1.Pairs x31).Key)  hx38) ?_
        refine Exec.run tyOk 400 rfl ?_
        obtain ⟨J41, hJ41, hF⟩ := jn_some hF
        refine Exec.seam (fun L' V' M' => ∃ (x40 : List TPair) (a39 : Option Addr) (k39 : Nat) (cs39 : List Value), L' = [(2, .ptr 0 0), (3, .ptr 1 0), (4, .ptr 2 0), (6, .v (.slice a39 ((x40).length) (k39))), (48, .v (.slice a2 ((x1.Pairs).length) (k2))), (49, .v (.int .i64 ((((x1.Pairs).length : Nat) : Int)))), (50, .v (.int .i64 (x31)))] ∧ M' = [.blk [.v (.int .i64 (x1.Node)), .v (.slice a2 ((x1.Pairs).length) (k2))] 60, .blk [.v (.int .i64 (x3.Part)), .v (.int .i64 (x3.From)), .v (.int .i64 (x3.To)), .v (.string ⟨⟨x3.Keys.From⟩⟩), .v (.string ⟨⟨x3.Keys.To⟩⟩), .v (.slice a4 ((x3.Pairs).length) (k4)), .v (.bool (x3.Last))] 34, .blk [.v (.int .i64 (0)), .v (.slice none (0) (0))] 60, .row (.slice a39 ((x40).length) (k39)) cs39 64 4] ∧ RowRep cTPair V' x40 cs39 ∧ SlAt cTPair V' a2 k2 x1.Pairs ∧ SlAt cTPair V' a4 k4 x3.Pairs ∧ J41 x40 = some r) rfl ?_ ?_
        · rintro L' V42 M' ⟨x40, a39, k39, cs39, rfl, rfl, h39, h43, h44, hF⟩
          subst hJ41
          refine Exec.run tyOk 400 rfl ?_
          exact Exec.round [(2, .ptr 0 0), (3, .ptr 1 0), (4, .ptr 2 0), (6, .v (.slice a39 ((x40).length) (k39))), (48, .v (.slice a2 ((x1.Pairs).length) (k2))), (49, .v (.int .i64 ((((x1.Pairs).length : Nat) : Int)))), (50, .v (.int .i64 ((IntKind.i64.wrap (x31 + (1 : Int))))))] ⟨rfl, rfl, rfl, rfl, rfl, rfl, rfl, trivial⟩ ⟨n32, Nat.lt_succ_self _, x40, a39, k39, cs39, (IntKind.i64.wrap (x31 + (1 : Int))), rfl, rfl, h39, h43, h44, hF⟩
        · skip
          refine Exec.run tyOk 400 rfl ?_
          rcases cond_some hF with ⟨hb, hF⟩ | ⟨hb, hF⟩
          · skip
            refine Exec.ifT rfl hb ?_
            refine Exec.run tyOk 400 rfl ?_
            refine Exec.bsl tyOk rfl rfl ?_
            refine Exec.run tyOk 400 rfl ?_
            obtain ⟨q46, hF⟩ := req_some hF
            refine Exec.app tyOk 3 5 (nm := ((x30 ++ [(atI x1.Pairs x31)])).length) rfl rfl rfl rfl rfl rfl rfl rfl rfl (by simp) (fun _ _ => rfl) rfl q46 (fun a45 k45 => ?_)
            have h45 : RowRep cTPair V33 (x30 ++ [(atI x1.Pairs x31)]) (cs29 ++ [.string ⟨⟨(atI x1.Pairs x31).Key⟩⟩, .int .i64 ((atI x1.Pairs x31).Val.Kind), .int .i64 ((atI x1.Pairs x31).Val.N), .string ⟨⟨(atI x1.Pairs x31).Val.S⟩⟩]) := RowRep.app h29 ⟨_, _, rfl, rfl, rfl⟩
            refine Exec.run tyOk 400 rfl ?_
            refine Exec.cut 4 [(2, .ptr 0 0), (3, .ptr 1 0), (4, .ptr 2 0), (6, .v (.slice a45 (((x30 ++ [(atI x1.Pairs x31)])).length) (k45))), (48, .v (.slice a2 ((x1.Pairs).length) (k2))), (49, .v (.int .i64 ((((x1.Pairs).length : Nat) : Int)))), (50, .v (.int .i64 (x31)))] (M' := [.blk [.v (.int .i64 (x1.Node)), .v (.slice a2 ((x1.Pairs).length) (k2))] 60, .blk [.v (.int .i64 (x3.Part)), .v (.int .i64 (x3.From)), .v (.int .i64 (x3.To)), .v (.string ⟨⟨x3.Keys.From⟩⟩), .v (.string ⟨⟨x3.Keys.To⟩⟩), .v (.slice a4 ((x3.Pairs).length) (k4)), .v (.bool (x3.Last))] 34, .blk [.v (.int .i64 (0)), .v (.slice none (0) (0))] 60, .row (.slice a45 (((x30 ++ [(atI x1.Pairs x31)])).length) (k45)) ((cs29 ++ [.string ⟨⟨(atI x1.Pairs x31).Key⟩⟩, .int .i64 ((atI x1.Pairs x31).Val.Kind), .int .i64 ((atI x1.Pairs x31).Val.N), .string ⟨⟨(atI x1.Pairs x31).Val.S⟩⟩])) 64 4]) rfl ⟨rfl, rfl, rfl, rfl, rfl, rfl, rfl, trivial⟩ rfl rfl rfl ?_
            exact Exec.round [(2, .ptr 0 0), (3, .ptr 1 0), (4, .ptr 2 0), (6, .v (.slice a45 (((x30 ++ [(atI x1.Pairs x31)])).length) (k45))), (48, .v (.slice a2 ((x1.Pairs).length) (k2))), (49, .v (.int .i64 ((((x1.Pairs).length : Nat) : Int)))), (50, .v (.int .i64 (x31)))] ⟨rfl, rfl, rfl, rfl, rfl, rfl, rfl, trivial⟩ ⟨(x30 ++ [(atI x1.Pairs x31)]), a45, k45, (cs29 ++ [.string ⟨⟨(atI x1.Pairs x31).Key⟩⟩, .int .i64 ((atI x1.Pairs x31).Val.Kind), .int .i64 ((atI x1.Pairs x31).Val.N), .string ⟨⟨(atI x1.Pairs x31).Val.S⟩⟩]), rfl, rfl, h45, h34, h35, hF⟩
          · skip
            refine Exec.ifF rfl hb ?_
            refine Exec.run tyOk 400 rfl ?_
            refine Exec.cut 4 [(2, .ptr 0 0), (3, .ptr 1 0), (4, .ptr 2 0), (6, .v (.slice a29 ((x30).length) (k29))), (48, .v (.slice a2 ((x1.Pairs).length) (k2))), (49, .v (.int .i64 ((((x1.Pairs).length : Nat) : Int)))), (50, .v (.int .i64 (x31)))] (M' := [.blk [.v (.int .i64 (x1.Node)), .v (.slice a2 ((x1.Pairs).length) (k2))] 60, .blk [.v (.int .i64 (x3.Part)), .v (.int .i64 (x3.From)), .v (.int .i64 (x3.To)), .v (.string ⟨⟨x3.Keys.From⟩⟩), .v (.string ⟨⟨x3.Keys.To⟩⟩), .v (.slice a4 ((x3.Pairs).length) (k4)), .v (.bool (x3.Last))] 34, .blk [.v (.int .i64 (0)), .v (.slice none (0) (0))] 60, .row (.slice a29 ((x30).length) (k29)) cs29 64 4]) rfl ⟨rfl, rfl, rfl, rfl, rfl, rfl, rfl, trivial⟩ rfl rfl rfl ?_
            exact Exec.round [(2, .ptr 0 0), (3, .ptr 1 0), (4, .ptr 2 0), (6, .v (.slice a29 ((x30).length) (k29))), (48, .v (.slice a2 ((x1.Pairs).length) (k2))), (49, .v (.int .i64 ((((x1.Pairs).length : Nat) : Int)))), (50, .v (.int .i64 (x31)))] ⟨rfl, rfl, rfl, rfl, rfl, rfl, rfl, trivial⟩ ⟨x30, a29, k29, cs29, rfl, rfl, h29, h34, h35, hF⟩
      · skip
        refine Exec.ifF rfl hb ?_
        refine Exec.run tyOk 400 rfl ?_
        exact Exec.round [(2, .ptr 0 0), (3, .ptr 1 0), (4, .ptr 2 0), (6, .v (.slice a29 ((x30).length) (k29)))] ⟨rfl, rfl, rfl, rfl, trivial⟩ ⟨x30, a29, k29, cs29, rfl, rfl, h29, h34, h35, hF⟩

def F_clockworkref33_find (x1 : TPlacement) (x3 : List TShard) (x5 : Int) : Option (Int × Int) :=
  (bnd (F_clockworkref32_Valid x1 x3) fun x6 => (cond (!x6) (some ((0 : Int), (1 : Int))) (bnd (F_clockworkref29_Find x1 x5) fun x7 => (cond (decide (x7 < (0 : Int))) (some ((0 : Int), (9 : Int))) (req (0 ≤ x7 ∧ x7 < ((x1.Parts).length : Int)) (cond ((atI x1.Parts x7).Dest == (0 : Int)) (some ((0 : Int), (19 : Int))) (cond (decide ((1099511627776 : Int) ≤ x1.Version)) (some ((0 : Int), (2 : Int))) (some (x7, (0 : Int))))))))))

set_option maxRecDepth 100000 in
theorem W_clockworkref33_find {V : View} (x1 : TPlacement) (x3 : List TShard) (x5 : Int) {a2 : Option Addr} {k2 : Nat} {a4 : Option Addr} {k4 : Nat} (h2 : SlAt cTPart V a2 k2 x1.Parts) (h4 : SlAt cTShard V a4 k4 x3) {r : Int × Int} (hF : F_clockworkref33_find x1 x3 x5 = some r) :
    Spec Tryz.prog 30 [.agg ⟨[.int .i64 (x1.Version), .slice a2 ((x1.Parts).length) (k2)]⟩, .slice a4 ((x3).length) (k4), .int .i64 (x5)] V (fun _ v => v = .tuple ⟨[.int .i64 (r.1), .int .i64 (r.2)]⟩) := by
  unfold F_clockworkref33_find at hF
  refine Spec.enter (T := tyT) Tryz.func30 rfl (by kernel_rfl) rfl rfl rfl ?_
  refine Exec.run tyOk 400 rfl ?_
  obtain ⟨x6, hx6, hF⟩ := bnd_some hF
  refine Exec.callS (.bool (x6)) rfl rfl (W_clockworkref32_Valid x1 x3 h2 h4 hx6) ?_
  refine Exec.run tyOk 400 rfl ?_
  rcases cond_some hF with ⟨hb, hF⟩ | ⟨hb, hF⟩
  · skip
    refine Exec.ifT rfl hb ?_
    refine Exec.run tyOk 400 rfl ?_
    obtain rfl := some_inj hF
    exact Exec.ret tyOk rfl rfl rfl
  · skip
    refine Exec.ifF rfl hb ?_
    refine Exec.run tyOk 400 rfl ?_
    obtain ⟨x7, hx7, hF⟩ := bnd_some hF
    refine Exec.callS (.int .i64 (x7)) rfl rfl (W_clockworkref29_Find x1 x5 h2 hx7) ?_
    refine Exec.run tyOk 400 rfl ?_
    rcases cond_some hF with ⟨hb, hF⟩ | ⟨hb, hF⟩
    · skip
      refine Exec.ifT rfl hb ?_
      refine Exec.run tyOk 400 rfl ?_
      obtain rfl := some_inj hF
      exact Exec.ret tyOk rfl rfl rfl
    · skip
      refine Exec.ifF rfl hb ?_
      refine Exec.run tyOk 400 rfl ?_
      obtain ⟨q8, hF⟩ := req_some hF
      obtain ⟨c9, hr9, hd9⟩ := SlAt.get h2 q8
      obtain rfl := hr9
      refine Exec.ia tyOk rfl rfl ⟨q8.1, q8.2, hd9.some⟩ ?_
      refine Exec.run tyOk 400 rfl ?_
      refine Exec.ld tyOk (x := .int .i64 ((atI x1.Parts x7).Dest)) rfl rfl (RdAt.part hd9 3 1 rfl) rfl rfl ?_
      refine Exec.run tyOk 400 rfl ?_
      rcases cond_some hF with ⟨hb, hF⟩ | ⟨hb, hF⟩
      · skip
        refine Exec.ifT rfl hb ?_
        refine Exec.run tyOk 400 rfl ?_
        obtain rfl := some_inj hF
        exact Exec.ret tyOk rfl rfl rfl
      · skip
        refine Exec.ifF rfl hb ?_
        refine Exec.run tyOk 400 rfl ?_
        rcases cond_some hF with ⟨hb, hF⟩ | ⟨hb, hF⟩
        · skip
          refine Exec.ifT rfl hb ?_
          refine Exec.run tyOk 400 rfl ?_
          obtain rfl := some_inj hF
          exact Exec.ret tyOk rfl rfl rfl
        · skip
          refine Exec.ifF rfl hb ?_
          refine Exec.run tyOk 400 rfl ?_
          obtain rfl := some_inj hF
          exact Exec.ret tyOk rfl rfl rfl

def F_clockworkref32_Load_L2 (x3 : List TPair) (x22 : Int) (x7 : List Int) (x1 : TPlacement) (J35 : (List TShard) → (List TPair) → Option (List TShard)) : Nat → (List TShard) → (List TPair) → Int → Option (List TShard)
  | 0, _, _, _ => none
  | n52 + 1, x48, x50, x51 => (cond (decide (x51 < (((x3).length : Nat) : Int))) (req (0 ≤ x51 ∧ x51 < ((x3).length : Int)) (req (0 ≤ x22 ∧ x22 < ((x7).length : Int)) (bnd (F_clockworkref29_Owner x1 ((atI x3 x51).Key)) fun x61 => (jn (fun (x63 : List TShard) (x65 : List TPair) => (F_clockworkref32_Load_L2 x3 x22 x7 x1 J35 n52 x63 x65 ((IntKind.i64.wrap (x51 + (1 : Int)))))) (fun J66 => (cond (x61 == (atI x7 x22)) (req (0 ≤ x51 ∧ x51 < ((x3).length : Int)) (req (((x50 ++ [(atI x3 x51)])).length * 48 ≤ 140737488355328) (J66 x48 ((x50 ++ [(atI x3 x51)]))))) (J66 x48 x50))))))) (J35 x48 x50))

def F_clockworkref32_Load_L1 (x7 : List Int) (x3 : List TPair) (x1 : TPlacement) (J15 : (List TShard) → Option (List TShard)) : Nat → (List TShard) → Int → Option (List TShard)
  | 0, _, _ => none
  | n23 + 1, x21, x22 => (cond (decide (x22 < (((x7).length : Nat) : Int))) (req (0 ≤ x22 ∧ x22 < ((x7).length : Int)) (jn (fun (x32 : List TShard) (x34 : List TPair) => (req (((x32 ++ [(⟨(atI x7 x22), x34⟩ : TShard)])).length * 32 ≤ 140737488355328) (F_clockworkref32_Load_L1 x7 x3 x1 J15 n23 ((x32 ++ [(⟨(atI x7 x22), x34⟩ : TShard)])) ((IntKind.i64.wrap (x22 + (1 : Int))))))) (fun J35 => (F_clockworkref32_Load_L2 x3 x22 x7 x1 J35 (((((x3).length : Nat) : Int)).toNat + 1) x21 (([] : List TPair)) ((0 : Int)))))) (J15 x21))

def F_clockworkref32_Load (x1 : TPlacement) (x3 : List TPair) : Option (List TShard) :=
  (bnd (F_clockworkref29_Valid x1) fun x5 => (bnd (gcall (((!x5)) == false) (F_clockworkref06_Valid x3)) fun x6 => (cond ((!x5) || (!x6)) (some ([] : List TShard)) (bnd (F_clockworkref29_Nodes x1) fun x7 => (jn (fun (x14 : List TShard) => (some x14)) (fun J15 => (F_clockworkref32_Load_L1 x7 x3 x1 J15 (((((x7).length : Nat) : Int)).toNat + 1) (([] : List TShard)) ((0 : Int)))))))))

set_option maxRecDepth 100000 in
theorem W_clockworkref32_Load {V : View} (x1 : TPlacement) (x3 : List TPair) {a2 : Option Addr} {k2 : Nat} {a4 : Option Addr} {k4 : Nat} (h2 : SlAt cTPart V a2 k2 x1.Parts) (h4 : SlAt cTPair V a4 k4 x3) {r : List TShard} (hF : F_clockworkref32_Load x1 x3 = some r) :
    Spec Tryz.prog 34 [.agg ⟨[.int .i64 (x1.Version), .slice a2 ((x1.Parts).length) (k2)]⟩, .slice a4 ((x3).length) (k4)] V (fun V' v => ∃ (a75 : Option Addr) (k75 : Nat), v = .slice a75 ((r).length) (k75) ∧ SlAt cTShard V' a75 k75 r) := by
  unfold F_clockworkref32_Load at hF
  refine Spec.enter (T := tyT) Tryz.func34 rfl (by kernel_rfl) rfl rfl rfl ?_
  refine Exec.run tyOk 400 rfl ?_
  obtain ⟨x5, hx5, hF⟩ := bnd_some hF
  refine Exec.callS (.bool (x5)) rfl rfl (W_clockworkref29_Valid x1 h2 hx5) ?_
  refine Exec.run tyOk 400 rfl ?_
  obtain ⟨x6, hx6, hF⟩ := bnd_some hF
  refine Exec.callS (.bool (x6)) rfl rfl (fun gg0 => W_clockworkref06_Valid x3 h4 (gcall_some hx6 (gd1_of gg0))) ?_
  refine Exec.run tyOk 400 rfl ?_
  rcases cond_some hF with ⟨hb, hF⟩ | ⟨hb, hF⟩
  · skip
    refine Exec.ifT rfl hb ?_
    refine Exec.run tyOk 400 rfl ?_
    obtain rfl := some_inj hF
    exact Exec.ret tyOk rfl rfl ⟨_, _, rfl, SlAt.nil⟩
  · skip
    refine Exec.ifF rfl hb ?_
    refine Exec.run tyOk 400 rfl ?_
    obtain ⟨x7, hx7, hF⟩ := bnd_some hF
    refine Exec.call rfl rfl (W_clockworkref29_Nodes x1 h2 hx7) ?_
    rintro V9 _ hv9 ⟨a8, k8, rfl, h8⟩
    have h10 := SlAt.mono h2 hv9
    have h11 := SlAt.mono h4 hv9
    refine Exec.run tyOk 11 rfl ?_
    refine Exec.row0 60 2 rfl ?_
    have h12 : RowRep cTShard V9 ([] : List TShard) [] := RowRep.nil
    obtain ⟨J15, hJ15, hF⟩ := jn_some hF
    refine Exec.seam (fun L' V' M' => ∃ (x14 : List TShard) (a13 : Option Addr) (k13 : Nat) (cs13 : List Value), L' = [(6, .v (.slice a13 ((x14).length) (k13)))] ∧ M' = [.blk [.v (.int .i64 (x1.Version)), .v (.slice a2 ((x1.Parts).length) (k2))] 24, .row (.slice a13 ((x14).length) (k13)) cs13 60 2] ∧ RowRep cTShard V' x14 cs13 ∧ SlAt cTPart V' a2 k2 x1.Parts ∧ J15 x14 = some r) rfl ?_ ?_
    · rintro L' V16 M' ⟨x14, a13, k13, cs13, rfl, rfl, h13, h17, hF⟩
      subst hJ15
      refine Exec.run tyOk 400 rfl ?_
      refine Exec.frz 1 rfl rfl rfl (fun V18 hv18 hd18 hn18 => ?_)
      have hz18 := RowRep.slat h13 hv18 hd18 hn18
      have h19 := SlAt.mono h17 hv18
      obtain rfl := some_inj hF
      exact Exec.ret tyOk rfl rfl ⟨_, _, rfl, hz18⟩
    · skip
      refine Exec.run tyOk 400 rfl ?_
      refine Exec.loop (fun n23 L' V' M' => ∃ (x21 : List TShard) (a20 : Option Addr) (k20 : Nat) (cs20 : List Value) (x22 : Int), L' = [(1, .v (.slice a4 ((x3).length) (k4))), (2, .ptr 0 0), (5, .v (.slice a8 ((x7).length) (k8))), (6, .v (.slice a20 ((x21).length) (k20))), (7, .v (.int .i64 (x22)))] ∧ M' = [.blk [.v (.int .i64 (x1.Version)), .v (.slice a2 ((x1.Parts).length) (k2))] 24, .row (.slice a20 ((x21).length) (k20)) cs20 60 2] ∧ RowRep cTShard V' x21 cs20 ∧ SlAt cTPair V' a4 k4 x3 ∧ SlAt (cInt .i64) V' a8 k8 x7 ∧ SlAt cTPart V' a2 k2 x1.Parts ∧ F_clockworkref32_Load_L1 x7 x3 x1 J15 n23 x21 x22 = some r) ⟨(((((x7).length : Nat) : Int)).toNat + 1), [(1, .v (.slice a4 ((x3).length) (k4))), (2, .ptr 0 0), (5, .v (.slice a8 ((x7).length) (k8))), (6, .v (.slice none ((([] : List TShard)).length) (0))), (7, .v (.int .i64 ((0 : Int))))], ⟨rfl, rfl, rfl, rfl, rfl, trivial⟩, ([] : List TShard), none, 0, [], (0 : Int), rfl, rfl, h12, h11, h8, h10, hF⟩ ?_
      rintro n23 L' V24 M' ⟨x21, a20, k20, cs20, x22, rfl, rfl, h20, h25, h26, h27, hF⟩
      rcases n23 with _ | n23
      · exact absurd hF (by simp [F_clockworkref32_Load_L1])
      rw [F_clockworkref32_Load_L1] at hF
      refine Exec.run tyOk 400 rfl ?_
      rcases cond_some hF with ⟨hb, hF⟩ | ⟨hb, hF⟩
      · skip
        refine Exec.ifT rfl hb ?_
        refine Exec.run tyOk 400 rfl ?_
        obtain ⟨q28, hF⟩ := req_some hF
        obtain ⟨c29, hr29, hd29⟩ := SlAt.get h26 q28
        obtain rfl := hr29
        refine Exec.ia tyOk rfl rfl ⟨q28.1, q28.2, hd29.some⟩ ?_
        refine Exec.run tyOk 400 rfl ?_
        refine Exec.ld tyOk (x := .int .i64 ((atI x7 x22))) rfl rfl hd29 rfl rfl ?_
        refine Exec.run tyOk 9 rfl ?_
        refine Exec.row0 64 4 rfl ?_
        have h30 : RowRep cTPair V24 ([] : List TPair) [] := RowRep.nil
        obtain ⟨J35, hJ35, hF⟩ := jn_some hF
        refine Exec.seam (fun L' V' M' => ∃ (x32 : List TShard) (a31 : Option Addr) (k31 : Nat) (cs31 : List Value) (x34 : List TPair) (a33 : Option Addr) (k33 : Nat) (cs33 : List Value), L' = [(1, .v (.slice a4 ((x3).length) (k4))), (2, .ptr 0 0), (5, .v (.slice a8 ((x7).length) (k8))), (6, .v (.slice a31 ((x32).length) (k31))), (7, .v (.int .i64 (x22))), (8, .ptr 2 0)] ∧ M' = [.blk [.v (.int .i64 (x1.Version)), .v (.slice a2 ((x1.Parts).length) (k2))] 24, .row (.slice a31 ((x32).length) (k31)) cs31 60 2, .blk [.v (.int .i64 ((atI x7 x22))), .v (.slice a33 ((x34).length) (k33))] 60, .row (.slice a33 ((x34).length) (k33)) cs33 64 4] ∧ RowRep cTShard V' x32 cs31 ∧ RowRep cTPair V' x34 cs33 ∧ SlAt cTPair V' a4 k4 x3 ∧ SlAt (cInt .i64) V' a8 k8 x7 ∧ SlAt cTPart V' a2 k2 x1.Parts ∧ J35 x32 x34 = some r) rfl ?_ ?_
        · rintro L' V36 M' ⟨x32, a31, k31, cs31, x34, a33, k33, cs33, rfl, rfl, h31, h33, h37, h38, h39, hF⟩
          subst hJ35
          refine Exec.run tyOk 400 rfl ?_
          refine Exec.frz 3 rfl rfl rfl (fun V40 hv40 hd40 hn40 => ?_)
          have hz40 := RowRep.slat h33 hv40 hd40 hn40
          have h41 := SlAt.mono h37 hv40
          have h42 := SlAt.mono h38 hv40
          have h43 := SlAt.mono h39 hv40
          have h44 := RowRep.mono hv40 h31
          refine Exec.bsl tyOk rfl rfl ?_
          refine Exec.run tyOk 400 rfl ?_
          obtain ⟨q46, hF⟩ := req_some hF
          refine Exec.app tyOk 1 4 (nm := ((x32 ++ [(⟨(atI x7 x22), x34⟩ : TShard)])).length) rfl rfl rfl rfl rfl rfl rfl rfl rfl (by simp) (fun _ _ => rfl) rfl q46 (fun a45 k45 => ?_)
          have h45 : RowRep cTShard V40 (x32 ++ [(⟨(atI x7 x22), x34⟩ : TShard)]) (cs31 ++ [.int .i64 ((atI x7 x22)), .slice a33 ((x34).length) (k33)]) := RowRep.app h44 ⟨_, _, rfl, ⟨_, _, rfl, hz40⟩, rfl⟩
          refine Exec.run tyOk 400 rfl ?_
          refine Exec.cut 2 [(1, .v (.slice a4 ((x3).length) (k4))), (2, .ptr 0 0), (5, .v (.slice a8 ((x7).length) (k8))), (6, .v (.slice a45 (((x32 ++ [(⟨(atI x7 x22), x34⟩ : TShard)])).length) (k45))), (7, .v (.int .i64 ((IntKind.i64.wrap (x22 + (1 : Int))))))] (M' := [.blk [.v (.int .i64 (x1.Version)), .v (.slice a2 ((x1.Parts).length) (k2))] 24, .row (.slice a45 (((x32 ++ [(⟨(atI x7 x22), x34⟩ : TShard)])).length) (k45)) ((cs31 ++ [.int .i64 ((atI x7 x22)), .slice a33 ((x34).length) (k33)])) 60 2]) rfl ⟨rfl, rfl, rfl, rfl, rfl, trivial⟩ rfl rfl rfl ?_
          exact Exec.round [(1, .v (.slice a4 ((x3).length) (k4))), (2, .ptr 0 0), (5, .v (.slice a8 ((x7).length) (k8))), (6, .v (.slice a45 (((x32 ++ [(⟨(atI x7 x22), x34⟩ : TShard)])).length) (k45))), (7, .v (.int .i64 ((IntKind.i64.wrap (x22 + (1 : Int))))))] ⟨rfl, rfl, rfl, rfl, rfl, trivial⟩ ⟨n23, Nat.lt_succ_self _, (x32 ++ [(⟨(atI x7 x22), x34⟩ : TShard)]), a45, k45, (cs31 ++ [.int .i64 ((atI x7 x22)), .slice a33 ((x34).length) (k33)]), (IntKind.i64.wrap (x22 + (1 : Int))), rfl, rfl, h45, h41, h42, h43, hF⟩
        · skip
          refine Exec.run tyOk 400 rfl ?_
          refine Exec.loop (fun n52 L' V' M' => ∃ (x48 : List TShard) (a47 : Option Addr) (k47 : Nat) (cs47 : List Value) (x50 : List TPair) (a49 : Option Addr) (k49 : Nat) (cs49 : List Value) (x51 : Int), L' = [(1, .v (.slice a4 ((x3).length) (k4))), (2, .ptr 0 0), (5, .v (.slice a8 ((x7).length) (k8))), (6, .v (.slice a47 ((x48).length) (k47))), (7, .v (.int .i64 (x22))), (8, .ptr 2 0), (9, .v (.int .i64 (x51)))] ∧ M' = [.blk [.v (.int .i64 (x1.Version)), .v (.slice a2 ((x1.Parts).length) (k2))] 24, .row (.slice a47 ((x48).length) (k47)) cs47 60 2, .blk [.v (.int .i64 ((atI x7 x22))), .v (.slice a49 ((x50).length) (k49))] 60, .row (.slice a49 ((x50).length) (k49)) cs49 64 4] ∧ RowRep cTShard V' x48 cs47 ∧ RowRep cTPair V' x50 cs49 ∧ SlAt cTPair V' a4 k4 x3 ∧ SlAt (cInt .i64) V' a8 k8 x7 ∧ SlAt cTPart V' a2 k2 x1.Parts ∧ F_clockworkref32_Load_L2 x3 x22 x7 x1 J35 n52 x48 x50 x51 = some r) ⟨(((((x3).length : Nat) : Int)).toNat + 1), [(1, .v (.slice a4 ((x3).length) (k4))), (2, .ptr 0 0), (5, .v (.slice a8 ((x7).length) (k8))), (6, .v (.slice a20 ((x21).length) (k20))), (7, .v (.int .i64 (x22))), (8, .ptr 2 0), (9, .v (.int .i64 ((0 : Int))))], ⟨rfl, rfl, rfl, rfl, rfl, rfl, rfl, trivial⟩, x21, a20, k20, cs20, ([] : List TPair), none, 0, [], (0 : Int), rfl, rfl, h20, h30, h25, h26, h27, hF⟩ ?_
          rintro n52 L' V53 M' ⟨x48, a47, k47, cs47, x50, a49, k49, cs49, x51, rfl, rfl, h47, h49, h54, h55, h56, hF⟩
          rcases n52 with _ | n52
          · exact absurd hF (by simp [F_clockworkref32_Load_L2])
          rw [F_clockworkref32_Load_L2] at hF
          refine Exec.run tyOk 400 rfl ?_
          rcases cond_some hF with ⟨hb, hF⟩ | ⟨hb, hF⟩
          · skip
            refine Exec.ifT rfl hb ?_
            refine Exec.run tyOk 400 rfl ?_
            refine Exec.draws tyOk [(0, true), (1, true), (2, true), (3, true), (4, true), (5, true), (7, true), (8, true), (9, true), (10, true), (6, false), (11, false)] rfl (by kernel_rfl) ?_
            refine Exec.run tyOk 400 rfl ?_
            obtain ⟨q57, hF⟩ := req_some hF
            obtain ⟨c58, hr58, hd58⟩ := SlAt.get h54 q57
            obtain rfl := hr58
            refine Exec.fia tyOk rfl rfl rfl ⟨q57.1, q57.2, hd58.some⟩ ?_
            refine Exec.run tyOk 400 rfl ?_
            refine Exec.fld tyOk (x := .string ⟨⟨(atI x3 x51).Key⟩⟩) rfl rfl rfl (RdAt.part hd58 0 1 rfl) rfl rfl ?_
            refine Exec.run tyOk 400 rfl ?_
            obtain ⟨q59, hF⟩ := req_some hF
            obtain ⟨c60, hr60, hd60⟩ := SlAt.get h55 q59
            obtain rfl := hr60
            refine Exec.fia tyOk rfl rfl rfl ⟨q59.1, q59.2, hd60.some⟩ ?_
            refine Exec.run tyOk 400 rfl ?_
            refine Exec.fld tyOk (x := .int .i64 ((atI x7 x22))) rfl rfl rfl hd60 rfl rfl ?_
            refine Exec.run tyOk 400 rfl ?_
            obtain ⟨x61, hx61, hF⟩ := bnd_some hF
            refine Exec.callS (.int .i64 (x61)) rfl rfl (W_clockworkref29_Owner x1 ((atI x3 x51).Key) h56 hx61) ?_
            refine Exec.run tyOk 400 rfl ?_
            obtain ⟨J66, hJ66, hF⟩ := jn_some hF
            refine Exec.seam (fun L' V' M' => ∃ (x63 : List TShard) (a62 : Option Addr) (k62 : Nat) (cs62 : List Value) (x65 : List TPair) (a64 : Option Addr) (k64 : Nat) (cs64 : List Value), L' = [(1, .v (.slice a4 ((x3).length) (k4))), (2, .ptr 0 0), (5, .v (.slice a8 ((x7).length) (k8))), (6, .v (.slice a62 ((x63).length) (k62))), (7, .v (.int .i64 (x22))), (8, .ptr 2 0), (9, .v (.int .i64 (x51)))] ∧ M' = [.blk [.v (.int .i64 (x1.Version)), .v (.slice a2 ((x1.Parts).length) (k2))] 24, .row (.slice a62 ((x63).length) (k62)) cs62 60 2, .blk [.v (.int .i64 ((atI x7 x22))), .v (.slice a64 ((x65).length) (k64))] 60, .row (.slice a64 ((x65).length) (k64)) cs64 64 4] ∧ RowRep cTShard V' x63 cs62 ∧ RowRep cTPair V' x65 cs64 ∧ SlAt cTPair V' a4 k4 x3 ∧ SlAt (cInt .i64) V' a8 k8 x7 ∧ SlAt cTPart V' a2 k2 x1.Parts ∧ J66 x63 x65 = some r) rfl ?_ ?_
            · rintro L' V67 M' ⟨x63, a62, k62, cs62, x65, a64, k64, cs64, rfl, rfl, h62, h64, h68, h69, h70, hF⟩
              subst hJ66
              refine Exec.run tyOk 400 rfl ?_
              exact Exec.round [(1, .v (.slice a4 ((x3).length) (k4))), (2, .ptr 0 0), (5, .v (.slice a8 ((x7).length) (k8))), (6, .v (.slice a62 ((x63).length) (k62))), (7, .v (.int .i64 (x22))), (8, .ptr 2 0), (9, .v (.int .i64 ((IntKind.i64.wrap (x51 + (1 : Int))))))] ⟨rfl, rfl, rfl, rfl, rfl, rfl, rfl, trivial⟩ ⟨n52, Nat.lt_succ_self _, x63, a62, k62, cs62, x65, a64, k64, cs64, (IntKind.i64.wrap (x51 + (1 : Int))), rfl, rfl, h62, h64, h68, h69, h70, hF⟩
            · skip
              refine Exec.run tyOk 400 rfl ?_
              rcases cond_some hF with ⟨hb, hF⟩ | ⟨hb, hF⟩
              · skip
                refine Exec.ifT rfl hb ?_
                refine Exec.run tyOk 400 rfl ?_
                refine Exec.drawsE tyOk [9] [3] [(0, true), (1, true), (2, true), (3, true), (4, true), (5, true), (6, false), (7, false), (8, true), (9, false)] (by kernel_rfl) ?_
                refine Exec.run tyOk 400 rfl ?_
                obtain ⟨q71, hF⟩ := req_some hF
                obtain ⟨c72, hr72, hd72⟩ := SlAt.get h54 q71
                obtain rfl := hr72
                refine Exec.fia tyOk rfl rfl rfl ⟨q71.1, q71.2, hd72.some⟩ ?_
                refine Exec.run tyOk 400 rfl ?_
                refine Exec.fld tyOk (x := .agg ⟨[.string ⟨⟨(atI x3 x51).Key⟩⟩, .int .i64 ((atI x3 x51).Val.Kind), .int .i64 ((atI x3 x51).Val.N), .string ⟨⟨(atI x3 x51).Val.S⟩⟩]⟩) rfl rfl rfl hd72 rfl rfl ?_
                refine Exec.run tyOk 400 rfl ?_
                refine Exec.bsl tyOk rfl rfl ?_
                refine Exec.run tyOk 400 rfl ?_
                obtain ⟨q74, hF⟩ := req_some hF
                refine Exec.app tyOk 3 4 (nm := ((x50 ++ [(atI x3 x51)])).length) rfl rfl rfl rfl rfl rfl rfl rfl rfl (by simp) (fun _ _ => rfl) rfl q74 (fun a73 k73 => ?_)
                have h73 : RowRep cTPair V53 (x50 ++ [(atI x3 x51)]) (cs49 ++ [.string ⟨⟨(atI x3 x51).Key⟩⟩, .int .i64 ((atI x3 x51).Val.Kind), .int .i64 ((atI x3 x51).Val.N), .string ⟨⟨(atI x3 x51).Val.S⟩⟩]) := RowRep.app h49 ⟨_, _, rfl, rfl, rfl⟩
                refine Exec.run tyOk 400 rfl ?_
                refine Exec.cut 4 [(1, .v (.slice a4 ((x3).length) (k4))), (2, .ptr 0 0), (5, .v (.slice a8 ((x7).length) (k8))), (6, .v (.slice a47 ((x48).length) (k47))), (7, .v (.int .i64 (x22))), (8, .ptr 2 0), (9, .v (.int .i64 (x51)))] (M' := [.blk [.v (.int .i64 (x1.Version)), .v (.slice a2 ((x1.Parts).length) (k2))] 24, .row (.slice a47 ((x48).length) (k47)) cs47 60 2, .blk [.v (.int .i64 ((atI x7 x22))), .v (.slice a73 (((x50 ++ [(atI x3 x51)])).length) (k73))] 60, .row (.slice a73 (((x50 ++ [(atI x3 x51)])).length) (k73)) ((cs49 ++ [.string ⟨⟨(atI x3 x51).Key⟩⟩, .int .i64 ((atI x3 x51).Val.Kind), .int .i64 ((atI x3 x51).Val.N), .string ⟨⟨(atI x3 x51).Val.S⟩⟩])) 64 4]) rfl ⟨rfl, rfl, rfl, rfl, rfl, rfl, rfl, trivial⟩ rfl rfl rfl ?_
                exact Exec.round [(1, .v (.slice a4 ((x3).length) (k4))), (2, .ptr 0 0), (5, .v (.slice a8 ((x7).length) (k8))), (6, .v (.slice a47 ((x48).length) (k47))), (7, .v (.int .i64 (x22))), (8, .ptr 2 0), (9, .v (.int .i64 (x51)))] ⟨rfl, rfl, rfl, rfl, rfl, rfl, rfl, trivial⟩ ⟨x48, a47, k47, cs47, (x50 ++ [(atI x3 x51)]), a73, k73, (cs49 ++ [.string ⟨⟨(atI x3 x51).Key⟩⟩, .int .i64 ((atI x3 x51).Val.Kind), .int .i64 ((atI x3 x51).Val.N), .string ⟨⟨(atI x3 x51).Val.S⟩⟩]), rfl, rfl, h47, h73, h54, h55, h56, hF⟩
              · skip
                refine Exec.ifF rfl hb ?_
                refine Exec.run tyOk 400 rfl ?_
                exact Exec.round [(1, .v (.slice a4 ((x3).length) (k4))), (2, .ptr 0 0), (5, .v (.slice a8 ((x7).length) (k8))), (6, .v (.slice a47 ((x48).length) (k47))), (7, .v (.int .i64 (x22))), (8, .ptr 2 0), (9, .v (.int .i64 (x51)))] ⟨rfl, rfl, rfl, rfl, rfl, rfl, rfl, trivial⟩ ⟨x48, a47, k47, cs47, x50, a49, k49, cs49, rfl, rfl, h47, h49, h54, h55, h56, hF⟩
          · skip
            refine Exec.ifF rfl hb ?_
            refine Exec.run tyOk 400 rfl ?_
            exact Exec.round [(1, .v (.slice a4 ((x3).length) (k4))), (2, .ptr 0 0), (5, .v (.slice a8 ((x7).length) (k8))), (6, .v (.slice a47 ((x48).length) (k47))), (7, .v (.int .i64 (x22))), (8, .ptr 2 0)] ⟨rfl, rfl, rfl, rfl, rfl, rfl, trivial⟩ ⟨x48, a47, k47, cs47, x50, a49, k49, cs49, rfl, rfl, h47, h49, h54, h55, h56, hF⟩
      · skip
        refine Exec.ifF rfl hb ?_
        refine Exec.run tyOk 400 rfl ?_
        exact Exec.round [(6, .v (.slice a20 ((x21).length) (k20)))] ⟨rfl, trivial⟩ ⟨x21, a20, k20, cs20, rfl, rfl, h20, h27, hF⟩

def F_clockworkref06_Union_L1 (x3 : List TPair) (x1 : List TPair) (J7 : Option (List TPair × Int)) : Nat → Int → Option (List TPair × Int)
  | 0, _ => none
  | n17 + 1, x16 => (cond (decide (x16 < (((x3).length : Nat) : Int))) (req (0 ≤ x16 ∧ x16 < ((x3).length : Int)) (bnd (F_clockworkref06_Has x1 ((atI x3 x16).Key)) fun x23 => (cond x23 (some (([] : List TPair), (8 : Int))) (F_clockworkref06_Union_L1 x3 x1 J7 n17 ((IntKind.i64.wrap (x16 + (1 : Int)))))))) J7)

def F_clockworkref06_Union (x1 : List TPair) (x3 : List TPair) : Option (List TPair × Int) :=
  (bnd (F_clockworkref06_Valid x1) fun x5 => (bnd (gcall (((!x5)) == false) (F_clockworkref06_Valid x3)) fun x6 => (cond ((!x5) || (!x6)) (some (([] : List TPair), (1 : Int))) (jn ((bnd (F_clockworkref06_Apply x1 x3) fun x11 => (some (x11.1, x11.2)))) (fun J7 => (F_clockworkref06_Union_L1 x3 x1 J7 (((((x3).length : Nat) : Int)).toNat + 1) ((0 : Int))))))))

set_option maxRecDepth 100000 in
theorem W_clockworkref06_Union {V : View} (x1 : List TPair) (x3 : List TPair) {a2 : Option Addr} {k2 : Nat} {a4 : Option Addr} {k4 : Nat} (h2 : SlAt cTPair V a2 k2 x1) (h4 : SlAt cTPair V a4 k4 x3) {r : List TPair × Int} (hF : F_clockworkref06_Union x1 x3 = some r) :
    Spec Tryz.prog 40 [.slice a2 ((x1).length) (k2), .slice a4 ((x3).length) (k4)] V (fun V' v => ∃ (a24 : Option Addr) (k24 : Nat), v = .tuple ⟨[.slice a24 ((r.1).length) (k24), .int .i64 (r.2)]⟩ ∧ SlAt cTPair V' a24 k24 r.1) := by
  unfold F_clockworkref06_Union at hF
  refine Spec.enter (T := tyT) Tryz.func40 rfl (by kernel_rfl) rfl rfl rfl ?_
  refine Exec.run tyOk 400 rfl ?_
  obtain ⟨x5, hx5, hF⟩ := bnd_some hF
  refine Exec.callS (.bool (x5)) rfl rfl (W_clockworkref06_Valid x1 h2 hx5) ?_
  refine Exec.run tyOk 400 rfl ?_
  obtain ⟨x6, hx6, hF⟩ := bnd_some hF
  refine Exec.callS (.bool (x6)) rfl rfl (fun gg0 => W_clockworkref06_Valid x3 h4 (gcall_some hx6 (gd1_of gg0))) ?_
  refine Exec.run tyOk 400 rfl ?_
  rcases cond_some hF with ⟨hb, hF⟩ | ⟨hb, hF⟩
  · skip
    refine Exec.ifT rfl hb ?_
    refine Exec.run tyOk 400 rfl ?_
    obtain rfl := some_inj hF
    exact Exec.ret tyOk rfl rfl ⟨_, _, rfl, SlAt.nil⟩
  · skip
    refine Exec.ifF rfl hb ?_
    refine Exec.run tyOk 6 rfl ?_
    obtain ⟨J7, hJ7, hF⟩ := jn_some hF
    refine Exec.seam (fun L' V' M' => L' = [(0, .v (.slice a2 ((x1).length) (k2))), (1, .v (.slice a4 ((x3).length) (k4)))] ∧ M' = [] ∧ SlAt cTPair V' a2 k2 x1 ∧ SlAt cTPair V' a4 k4 x3 ∧ J7 = some r) rfl ?_ ?_
    · rintro L' V8 M' ⟨rfl, rfl, h9, h10, hF⟩
      subst hJ7
      refine Exec.run tyOk 400 rfl ?_
      obtain ⟨x11, hx11, hF⟩ := bnd_some hF
      refine Exec.call rfl rfl (W_clockworkref06_Apply x1 x3 h9 h10 hx11) ?_
      rintro V13 _ hv13 ⟨a12, k12, rfl, h12⟩
      have h14 := SlAt.mono h9 hv13
      have h15 := SlAt.mono h10 hv13
      refine Exec.run tyOk 400 rfl ?_
      obtain rfl := some_inj hF
      exact Exec.ret tyOk rfl rfl ⟨_, _, rfl, h12⟩
    · skip
      refine Exec.run tyOk 400 rfl ?_
      refine Exec.loop (fun n17 L' V' M' => ∃ (x16 : Int), L' = [(0, .v (.slice a2 ((x1).length) (k2))), (1, .v (.slice a4 ((x3).length) (k4))), (6, .v (.int .i64 (x16)))] ∧ M' = [] ∧ SlAt cTPair V' a2 k2 x1 ∧ SlAt cTPair V' a4 k4 x3 ∧ F_clockworkref06_Union_L1 x3 x1 J7 n17 x16 = some r) ⟨(((((x3).length : Nat) : Int)).toNat + 1), [(0, .v (.slice a2 ((x1).length) (k2))), (1, .v (.slice a4 ((x3).length) (k4))), (6, .v (.int .i64 ((0 : Int))))], ⟨rfl, rfl, rfl, trivial⟩, (0 : Int), rfl, rfl, h2, h4, hF⟩ ?_
      rintro n17 L' V18 M' ⟨x16, rfl, rfl, h19, h20, hF⟩
      rcases n17 with _ | n17
      · exact absurd hF (by simp [F_clockworkref06_Union_L1])
      rw [F_clockworkref06_Union_L1] at hF
      refine Exec.run tyOk 400 rfl ?_
      rcases cond_some hF with ⟨hb, hF⟩ | ⟨hb, hF⟩
      · skip
        refine Exec.ifT rfl hb ?_
        refine Exec.run tyOk 400 rfl ?_
        obtain ⟨q21, hF⟩ := req_some hF
        obtain ⟨c22, hr22, hd22⟩ := SlAt.get h20 q21
        obtain rfl := hr22
        refine Exec.ia tyOk rfl rfl ⟨q21.1, q21.2, hd22.some⟩ ?_
        refine Exec.run tyOk 400 rfl ?_
        refine Exec.ld tyOk (x := .string ⟨⟨(atI x3 x16).Key⟩⟩) rfl rfl (RdAt.part hd22 0 1 rfl) rfl rfl ?_
        refine Exec.run tyOk 400 rfl ?_
        obtain ⟨x23, hx23, hF⟩ := bnd_some hF
        refine Exec.callS (.bool (x23)) rfl rfl (W_clockworkref06_Has x1 ((atI x3 x16).Key) h19 hx23) ?_
        refine Exec.run tyOk 400 rfl ?_
        rcases cond_some hF with ⟨hb, hF⟩ | ⟨hb, hF⟩
        · skip
          refine Exec.ifT rfl hb ?_
          refine Exec.run tyOk 400 rfl ?_
          obtain rfl := some_inj hF
          exact Exec.ret tyOk rfl rfl ⟨_, _, rfl, SlAt.nil⟩
        · skip
          refine Exec.ifF rfl hb ?_
          refine Exec.run tyOk 400 rfl ?_
          exact Exec.round [(0, .v (.slice a2 ((x1).length) (k2))), (1, .v (.slice a4 ((x3).length) (k4))), (6, .v (.int .i64 ((IntKind.i64.wrap (x16 + (1 : Int))))))] ⟨rfl, rfl, rfl, trivial⟩ ⟨n17, Nat.lt_succ_self _, (IntKind.i64.wrap (x16 + (1 : Int))), rfl, rfl, h19, h20, hF⟩
      · skip
        refine Exec.ifF rfl hb ?_
        refine Exec.run tyOk 400 rfl ?_
        exact Exec.round [(0, .v (.slice a2 ((x1).length) (k2))), (1, .v (.slice a4 ((x3).length) (k4)))] ⟨rfl, rfl, trivial⟩ ⟨rfl, rfl, h19, h20, hF⟩

def F_dist_owned_L1 (x3 : List TPair) (x1 : TPlacement) (x5 : Int) (J9 : (List TPair) → Option (List TPair)) : Nat → (List TPair) → Int → Option (List TPair)
  | 0, _, _ => none
  | n17 + 1, x15, x16 => (cond (decide (x16 < (((x3).length : Nat) : Int))) (req (0 ≤ x16 ∧ x16 < ((x3).length : Int)) (bnd (F_placement_Owner x1 ((atI x3 x16).Key)) fun x23 => (jn (fun (x25 : List TPair) => (F_dist_owned_L1 x3 x1 x5 J9 n17 x25 ((IntKind.i64.wrap (x16 + (1 : Int)))))) (fun J26 => (cond (x23 == x5) (req (((x15 ++ [(atI x3 x16)])).length * 48 ≤ 140737488355328) (J26 ((x15 ++ [(atI x3 x16)])))) (J26 x15)))))) (J9 x15))

def F_dist_owned (x1 : TPlacement) (x3 : List TPair) (x5 : Int) : Option (List TPair) :=
  (jn (fun (x8 : List TPair) => (some x8)) (fun J9 => (F_dist_owned_L1 x3 x1 x5 J9 (((((x3).length : Nat) : Int)).toNat + 1) (([] : List TPair)) ((0 : Int)))))

set_option maxRecDepth 100000 in
theorem W_dist_owned {V : View} (x1 : TPlacement) (x3 : List TPair) (x5 : Int) {a2 : Option Addr} {k2 : Nat} {a4 : Option Addr} {k4 : Nat} (h2 : SlAt cTPart V a2 k2 x1.Parts) (h4 : SlAt cTPair V a4 k4 x3) {r : List TPair} (hF : F_dist_owned x1 x3 x5 = some r) :
    Spec Tryz.prog 75 [.agg ⟨[.int .i64 (x1.Version), .slice a2 ((x1.Parts).length) (k2)]⟩, .slice a4 ((x3).length) (k4), .int .i64 (x5)] V (fun V' v => ∃ (a32 : Option Addr) (k32 : Nat), v = .slice a32 ((r).length) (k32) ∧ SlAt cTPair V' a32 k32 r) := by
  unfold F_dist_owned at hF
  refine Spec.enter (T := tyT) Tryz.func75 rfl (by kernel_rfl) rfl rfl rfl ?_
  refine Exec.run tyOk 16 rfl ?_
  refine Exec.row0 64 4 rfl ?_
  have h6 : RowRep cTPair V ([] : List TPair) [] := RowRep.nil
  obtain ⟨J9, hJ9, hF⟩ := jn_some hF
  refine Exec.seam (fun L' V' M' => ∃ (x8 : List TPair) (a7 : Option Addr) (k7 : Nat) (cs7 : List Value), L' = [(7, .v (.slice a7 ((x8).length) (k7)))] ∧ M' = [.blk [.v (.int .i64 (x1.Version)), .v (.slice a2 ((x1.Parts).length) (k2))] 24, .row (.slice a7 ((x8).length) (k7)) cs7 64 4] ∧ RowRep cTPair V' x8 cs7 ∧ SlAt cTPart V' a2 k2 x1.Parts ∧ J9 x8 = some r) rfl ?_ ?_
  · rintro L' V10 M' ⟨x8, a7, k7, cs7, rfl, rfl, h7, h11, hF⟩
    subst hJ9
    refine Exec.run tyOk 400 rfl ?_
    refine Exec.frz 1 rfl rfl rfl (fun V12 hv12 hd12 hn12 => ?_)
    have hz12 := RowRep.slat h7 hv12 hd12 hn12
    have h13 := SlAt.mono h11 hv12
    obtain rfl := some_inj hF
    exact Exec.ret tyOk rfl rfl ⟨_, _, rfl, hz12⟩
  · skip
    refine Exec.run tyOk 400 rfl ?_
    refine Exec.loop (fun n17 L' V' M' => ∃ (x15 : List TPair) (a14 : Option Addr) (k14 : Nat) (cs14 : List Value) (x16 : Int), L' = [(2, .v (.int .i64 (x5))), (3, .ptr 0 0), (7, .v (.slice a14 ((x15).length) (k14))), (10, .v (.slice a4 ((x3).length) (k4))), (11, .v (.int .i64 ((((x3).length : Nat) : Int)))), (12, .v (.int .i64 (x16)))] ∧ M' = [.blk [.v (.int .i64 (x1.Version)), .v (.slice a2 ((x1.Parts).length) (k2))] 24, .row (.slice a14 ((x15).length) (k14)) cs14 64 4] ∧ RowRep cTPair V' x15 cs14 ∧ SlAt cTPair V' a4 k4 x3 ∧ SlAt cTPart V' a2 k2 x1.Parts ∧ F_dist_owned_L1 x3 x1 x5 J9 n17 x15 x16 = some r) ⟨(((((x3).length : Nat) : Int)).toNat + 1), [(2, .v (.int .i64 (x5))), (3, .ptr 0 0), (7, .v (.slice none ((([] : List TPair)).length) (0))), (10, .v (.slice a4 ((x3).length) (k4))), (11, .v (.int .i64 ((((x3).length : Nat) : Int)))), (12, .v (.int .i64 ((0 : Int))))], ⟨rfl, rfl, rfl, rfl, rfl, rfl, trivial⟩, ([] : List TPair), none, 0, [], (0 : Int), rfl, rfl, h6, h4, h2, hF⟩ ?_
    rintro n17 L' V18 M' ⟨x15, a14, k14, cs14, x16, rfl, rfl, h14, h19, h20, hF⟩
    rcases n17 with _ | n17
    · exact absurd hF (by simp [F_dist_owned_L1])
    rw [F_dist_owned_L1] at hF
    refine Exec.run tyOk 400 rfl ?_
    rcases cond_some hF with ⟨hb, hF⟩ | ⟨hb, hF⟩
    · skip
      refine Exec.ifT rfl hb ?_
      refine Exec.run tyOk 400 rfl ?_
      obtain ⟨q21, hF⟩ := req_some hF
      obtain ⟨c22, hr22, hd22⟩ := SlAt.get h19 q21
      obtain rfl := hr22
      refine Exec.ia tyOk rfl rfl ⟨q21.1, q21.2, hd22.some⟩ ?_
      refine Exec.run tyOk 400 rfl ?_
      refine Exec.ld tyOk (x := .agg ⟨[.string ⟨⟨(atI x3 x16).Key⟩⟩, .int .i64 ((atI x3 x16).Val.Kind), .int .i64 ((atI x3 x16).Val.N), .string ⟨⟨(atI x3 x16).Val.S⟩⟩]⟩) rfl rfl hd22 rfl rfl ?_
      refine Exec.run tyOk 400 rfl ?_
      obtain ⟨x23, hx23, hF⟩ := bnd_some hF
      refine Exec.callS (.int .i64 (x23)) rfl rfl (W_placement_Owner x1 ((atI x3 x16).Key) h20 hx23) ?_
      refine Exec.run tyOk 400 rfl ?_
      obtain ⟨J26, hJ26, hF⟩ := jn_some hF
      refine Exec.seam (fun L' V' M' => ∃ (x25 : List TPair) (a24 : Option Addr) (k24 : Nat) (cs24 : List Value), L' = [(2, .v (.int .i64 (x5))), (3, .ptr 0 0), (7, .v (.slice a24 ((x25).length) (k24))), (10, .v (.slice a4 ((x3).length) (k4))), (11, .v (.int .i64 ((((x3).length : Nat) : Int)))), (12, .v (.int .i64 (x16)))] ∧ M' = [.blk [.v (.int .i64 (x1.Version)), .v (.slice a2 ((x1.Parts).length) (k2))] 24, .row (.slice a24 ((x25).length) (k24)) cs24 64 4] ∧ RowRep cTPair V' x25 cs24 ∧ SlAt cTPair V' a4 k4 x3 ∧ SlAt cTPart V' a2 k2 x1.Parts ∧ J26 x25 = some r) rfl ?_ ?_
      · rintro L' V27 M' ⟨x25, a24, k24, cs24, rfl, rfl, h24, h28, h29, hF⟩
        subst hJ26
        refine Exec.run tyOk 400 rfl ?_
        exact Exec.round [(2, .v (.int .i64 (x5))), (3, .ptr 0 0), (7, .v (.slice a24 ((x25).length) (k24))), (10, .v (.slice a4 ((x3).length) (k4))), (11, .v (.int .i64 ((((x3).length : Nat) : Int)))), (12, .v (.int .i64 ((IntKind.i64.wrap (x16 + (1 : Int))))))] ⟨rfl, rfl, rfl, rfl, rfl, rfl, trivial⟩ ⟨n17, Nat.lt_succ_self _, x25, a24, k24, cs24, (IntKind.i64.wrap (x16 + (1 : Int))), rfl, rfl, h24, h28, h29, hF⟩
      · skip
        refine Exec.run tyOk 400 rfl ?_
        rcases cond_some hF with ⟨hb, hF⟩ | ⟨hb, hF⟩
        · skip
          refine Exec.ifT rfl hb ?_
          refine Exec.run tyOk 400 rfl ?_
          refine Exec.bsl tyOk rfl rfl ?_
          refine Exec.run tyOk 400 rfl ?_
          obtain ⟨q31, hF⟩ := req_some hF
          refine Exec.app tyOk 1 3 (nm := ((x15 ++ [(atI x3 x16)])).length) rfl rfl rfl rfl rfl rfl rfl rfl rfl (by simp) (fun _ _ => rfl) rfl q31 (fun a30 k30 => ?_)
          have h30 : RowRep cTPair V18 (x15 ++ [(atI x3 x16)]) (cs14 ++ [.string ⟨⟨(atI x3 x16).Key⟩⟩, .int .i64 ((atI x3 x16).Val.Kind), .int .i64 ((atI x3 x16).Val.N), .string ⟨⟨(atI x3 x16).Val.S⟩⟩]) := RowRep.app h14 ⟨_, _, rfl, rfl, rfl⟩
          refine Exec.run tyOk 400 rfl ?_
          refine Exec.cut 2 [(2, .v (.int .i64 (x5))), (3, .ptr 0 0), (7, .v (.slice a30 (((x15 ++ [(atI x3 x16)])).length) (k30))), (10, .v (.slice a4 ((x3).length) (k4))), (11, .v (.int .i64 ((((x3).length : Nat) : Int)))), (12, .v (.int .i64 (x16)))] (M' := [.blk [.v (.int .i64 (x1.Version)), .v (.slice a2 ((x1.Parts).length) (k2))] 24, .row (.slice a30 (((x15 ++ [(atI x3 x16)])).length) (k30)) ((cs14 ++ [.string ⟨⟨(atI x3 x16).Key⟩⟩, .int .i64 ((atI x3 x16).Val.Kind), .int .i64 ((atI x3 x16).Val.N), .string ⟨⟨(atI x3 x16).Val.S⟩⟩])) 64 4]) rfl ⟨rfl, rfl, rfl, rfl, rfl, rfl, trivial⟩ rfl rfl rfl ?_
          exact Exec.round [(2, .v (.int .i64 (x5))), (3, .ptr 0 0), (7, .v (.slice a30 (((x15 ++ [(atI x3 x16)])).length) (k30))), (10, .v (.slice a4 ((x3).length) (k4))), (11, .v (.int .i64 ((((x3).length : Nat) : Int)))), (12, .v (.int .i64 (x16)))] ⟨rfl, rfl, rfl, rfl, rfl, rfl, trivial⟩ ⟨(x15 ++ [(atI x3 x16)]), a30, k30, (cs14 ++ [.string ⟨⟨(atI x3 x16).Key⟩⟩, .int .i64 ((atI x3 x16).Val.Kind), .int .i64 ((atI x3 x16).Val.N), .string ⟨⟨(atI x3 x16).Val.S⟩⟩]), rfl, rfl, h30, h19, h20, hF⟩
        · skip
          refine Exec.ifF rfl hb ?_
          refine Exec.run tyOk 400 rfl ?_
          refine Exec.cut 2 [(2, .v (.int .i64 (x5))), (3, .ptr 0 0), (7, .v (.slice a14 ((x15).length) (k14))), (10, .v (.slice a4 ((x3).length) (k4))), (11, .v (.int .i64 ((((x3).length : Nat) : Int)))), (12, .v (.int .i64 (x16)))] (M' := [.blk [.v (.int .i64 (x1.Version)), .v (.slice a2 ((x1.Parts).length) (k2))] 24, .row (.slice a14 ((x15).length) (k14)) cs14 64 4]) rfl ⟨rfl, rfl, rfl, rfl, rfl, rfl, trivial⟩ rfl rfl rfl ?_
          exact Exec.round [(2, .v (.int .i64 (x5))), (3, .ptr 0 0), (7, .v (.slice a14 ((x15).length) (k14))), (10, .v (.slice a4 ((x3).length) (k4))), (11, .v (.int .i64 ((((x3).length : Nat) : Int)))), (12, .v (.int .i64 (x16)))] ⟨rfl, rfl, rfl, rfl, rfl, rfl, trivial⟩ ⟨x15, a14, k14, cs14, rfl, rfl, h14, h19, h20, hF⟩
    · skip
      refine Exec.ifF rfl hb ?_
      refine Exec.run tyOk 400 rfl ?_
      exact Exec.round [(7, .v (.slice a14 ((x15).length) (k14)))] ⟨rfl, trivial⟩ ⟨x15, a14, k14, cs14, rfl, rfl, h14, h20, hF⟩

def F_clockworklaw33_begun (x1 : TMove) (x4 : List TPair) : Option (TPlacement × List TShard × Bool) :=
  (bnd (F_clockworklaw33_few ((⟨x1.P.Version, x1.P.Parts⟩ : TPlacement)) (([] : List TShard))) fun x6 => (bnd (gcall (((((!x6) || (decide ((60 : Int) < (((x4).length : Nat) : Int)))) || (decide ((20 : Int) < (((x1.Sizes).length : Nat) : Int))))) == false) (F_clockworkref06_Valid x4)) fun x7 => (bnd (gcall ((((((!x6) || (decide ((60 : Int) < (((x4).length : Nat) : Int)))) || (decide ((20 : Int) < (((x1.Sizes).length : Nat) : Int)))) || (!x7))) == false) (F_clockworkref29_Valid ((⟨x1.P.Version, x1.P.Parts⟩ : TPlacement)))) fun x8 => (cond ((((((!x6) || (decide ((60 : Int) < (((x4).length : Nat) : Int)))) || (decide ((20 : Int) < (((x1.Sizes).length : Nat) : Int)))) || (!x7)) || (!x8)) || (decide ((1099511627746 : Int) < x1.P.Version))) (some ((⟨0, ([] : List TPart)⟩ : TPlacement), ([] : List TShard), false)) (bnd (F_clockworkref33_Start ((⟨x1.P.Version, x1.P.Parts⟩ : TPlacement)) x1.Id x1.Node) fun x9 => (bnd (F_clockworkref32_Load x9.1 x4) fun x15 => (some (x9.1, x15, (x9.2 == (0 : Int))))))))))

set_option maxRecDepth 100000 in
theorem W_clockworklaw33_begun {V : View} (x1 : TMove) (x4 : List TPair) {a2 : Option Addr} {k2 : Nat} {a3 : Option Addr} {k3 : Nat} {a5 : Option Addr} {k5 : Nat} (h2 : SlAt cTPart V a2 k2 x1.P.Parts) (h3 : SlAt (cInt .i64) V a3 k3 x1.Sizes) (h5 : SlAt cTPair V a5 k5 x4) {r : TPlacement × List TShard × Bool} (hF : F_clockworklaw33_begun x1 x4 = some r) :
    Spec Tryz.prog 15 [.agg ⟨[.int .i64 (x1.P.Version), .slice a2 ((x1.P.Parts).length) (k2), .int .i64 (x1.Id), .int .i64 (x1.Node), .slice a3 ((x1.Sizes).length) (k3)]⟩, .slice a5 ((x4).length) (k5)] V (fun V' v => ∃ (a22 : Option Addr) (k22 : Nat) (a23 : Option Addr) (k23 : Nat), v = .tuple ⟨[.agg ⟨[.int .i64 (r.1.Version), .slice a22 ((r.1.Parts).length) (k22)]⟩, .slice a23 ((r.2.1).length) (k23), .bool (r.2.2)]⟩ ∧ SlAt cTPart V' a22 k22 r.1.Parts ∧ SlAt cTShard V' a23 k23 r.2.1) := by
  unfold F_clockworklaw33_begun at hF
  refine Spec.enter (T := tyT) Tryz.func15 rfl (by kernel_rfl) rfl rfl rfl ?_
  refine Exec.run tyOk 400 rfl ?_
  obtain ⟨x6, hx6, hF⟩ := bnd_some hF
  refine Exec.callS (.bool (x6)) rfl rfl (W_clockworklaw33_few ((⟨x1.P.Version, x1.P.Parts⟩ : TPlacement)) (([] : List TShard)) h2 SlAt.nil hx6) ?_
  refine Exec.run tyOk 400 rfl ?_
  obtain ⟨x7, hx7, hF⟩ := bnd_some hF
  refine Exec.callS (.bool (x7)) rfl rfl (fun gg0 => W_clockworkref06_Valid x4 h5 (gcall_some hx7 (gd1_of gg0))) ?_
  refine Exec.run tyOk 400 rfl ?_
  obtain ⟨x8, hx8, hF⟩ := bnd_some hF
  refine Exec.callS (.bool (x8)) rfl rfl (fun gg0 => W_clockworkref29_Valid ((⟨x1.P.Version, x1.P.Parts⟩ : TPlacement)) h2 (gcall_some hx8 (gd1_of gg0))) ?_
  refine Exec.run tyOk 400 rfl ?_
  rcases cond_some hF with ⟨hb, hF⟩ | ⟨hb, hF⟩
  · skip
    refine Exec.ifT rfl hb ?_
    refine Exec.run tyOk 400 rfl ?_
    obtain rfl := some_inj hF
    exact Exec.ret tyOk rfl rfl ⟨_, _, _, _, rfl, SlAt.nil, SlAt.nil⟩
  · skip
    refine Exec.ifF rfl hb ?_
    refine Exec.run tyOk 400 rfl ?_
    obtain ⟨x9, hx9, hF⟩ := bnd_some hF
    refine Exec.call rfl rfl (W_clockworkref33_Start ((⟨x1.P.Version, x1.P.Parts⟩ : TPlacement)) x1.Id x1.Node h2 hx9) ?_
    rintro V11 _ hv11 ⟨a10, k10, rfl, h10⟩
    have h12 := SlAt.mono h2 hv11
    have h13 := SlAt.mono h3 hv11
    have h14 := SlAt.mono h5 hv11
    refine Exec.run tyOk 400 rfl ?_
    refine Exec.draws tyOk [(0, true), (1, true), (2, true), (4, true), (5, true), (3, false), (6, false), (7, false), (8, false)] rfl (by kernel_rfl) ?_
    refine Exec.run tyOk 400 rfl ?_
    obtain ⟨x15, hx15, hF⟩ := bnd_some hF
    refine Exec.call rfl rfl (W_clockworkref32_Load x9.1 x4 h10 h14 hx15) ?_
    rintro V17 _ hv17 ⟨a16, k16, rfl, h16⟩
    have h18 := SlAt.mono h12 hv17
    have h19 := SlAt.mono h13 hv17
    have h20 := SlAt.mono h14 hv17
    have h21 := SlAt.mono h10 hv17
    refine Exec.run tyOk 400 rfl ?_
    obtain rfl := some_inj hF
    exact Exec.ret tyOk rfl rfl ⟨_, _, _, _, rfl, h21, h16⟩

def F_clockworkref32_Gather_L1 (x1 : List TShard) (J8 : (List TPair) → Option (List TPair × Int)) : Nat → (List TPair) → Int → Option (List TPair × Int)
  | 0, _, _ => none
  | n13 + 1, x10, x12 => (cond (decide (x12 < (((x1).length : Nat) : Int))) (req (0 ≤ x12 ∧ x12 < ((x1).length : Int)) (bnd (F_clockworkref06_Union x10 ((atI x1 x12).Pairs)) fun x19 => (cond (x19.2 != (0 : Int)) (some (([] : List TPair), x19.2)) (F_clockworkref32_Gather_L1 x1 J8 n13 x19.1 ((IntKind.i64.wrap (x12 + (1 : Int)))))))) (J8 x10))

def F_clockworkref32_Gather_L2 (x1 : List TShard) (J3 : Option (List TPair × Int)) : Nat → Int → Option (List TPair × Int)
  | 0, _ => none
  | n27 + 1, x26 => (cond (decide (x26 < (((x1).length : Nat) : Int))) (req ((((decide ((0 : Int) < x26))) == true) = true → 0 ≤ x26 ∧ x26 < ((x1).length : Int)) (req ((((decide ((0 : Int) < x26))) == true) = true → 0 ≤ (IntKind.i64.wrap (x26 - (1 : Int))) ∧ (IntKind.i64.wrap (x26 - (1 : Int))) < ((x1).length : Int)) (req (((((decide ((0 : Int) < x26)) && (decide ((cond (((decide ((0 : Int) < x26))) == true) (atI x1 x26) default).Node ≤ (cond (((decide ((0 : Int) < x26))) == true) (atI x1 ((IntKind.i64.wrap (x26 - (1 : Int))))) default).Node)))) == false) = true → 0 ≤ x26 ∧ x26 < ((x1).length : Int)) (bnd (gcall ((((decide ((0 : Int) < x26)) && (decide ((cond (((decide ((0 : Int) < x26))) == true) (atI x1 x26) default).Node ≤ (cond (((decide ((0 : Int) < x26))) == true) (atI x1 ((IntKind.i64.wrap (x26 - (1 : Int))))) default).Node)))) == false) (F_clockworkref06_Valid ((cond ((((decide ((0 : Int) < x26)) && (decide ((cond (((decide ((0 : Int) < x26))) == true) (atI x1 x26) default).Node ≤ (cond (((decide ((0 : Int) < x26))) == true) (atI x1 ((IntKind.i64.wrap (x26 - (1 : Int))))) default).Node)))) == false) (atI x1 x26) default).Pairs))) fun x39 => (cond (((decide ((0 : Int) < x26)) && (decide ((cond (((decide ((0 : Int) < x26))) == true) (atI x1 x26) default).Node ≤ (cond (((decide ((0 : Int) < x26))) == true) (atI x1 ((IntKind.i64.wrap (x26 - (1 : Int))))) default).Node))) || (!x39)) (some (([] : List TPair), (1 : Int))) (F_clockworkref32_Gather_L2 x1 J3 n27 ((IntKind.i64.wrap (x26 + (1 : Int)))))))))) J3)

def F_clockworkref32_Gather (x1 : List TShard) : Option (List TPair × Int) :=
  (jn ((jn (fun (x6 : List TPair) => (some (x6, (0 : Int)))) (fun J8 => (F_clockworkref32_Gather_L1 x1 J8 (((((x1).length : Nat) : Int)).toNat + 1) (([] : List TPair)) ((0 : Int)))))) (fun J3 => (F_clockworkref32_Gather_L2 x1 J3 (((((x1).length : Nat) : Int)).toNat + 1) ((0 : Int)))))

set_option maxRecDepth 100000 in
theorem W_clockworkref32_Gather {V : View} (x1 : List TShard) {a2 : Option Addr} {k2 : Nat} (h2 : SlAt cTShard V a2 k2 x1) {r : List TPair × Int} (hF : F_clockworkref32_Gather x1 = some r) :
    Spec Tryz.prog 17 [.slice a2 ((x1).length) (k2)] V (fun V' v => ∃ (a40 : Option Addr) (k40 : Nat), v = .tuple ⟨[.slice a40 ((r.1).length) (k40), .int .i64 (r.2)]⟩ ∧ SlAt cTPair V' a40 k40 r.1) := by
  unfold F_clockworkref32_Gather at hF
  refine Spec.enter (T := tyT) Tryz.func17 rfl (by kernel_rfl) rfl rfl rfl ?_
  refine Exec.run tyOk 10 rfl ?_
  obtain ⟨J3, hJ3, hF⟩ := jn_some hF
  refine Exec.seam (fun L' V' M' => L' = [(0, .v (.slice a2 ((x1).length) (k2)))] ∧ M' = [] ∧ SlAt cTShard V' a2 k2 x1 ∧ J3 = some r) rfl ?_ ?_
  · rintro L' V4 M' ⟨rfl, rfl, h5, hF⟩
    subst hJ3
    refine Exec.run tyOk 9 rfl ?_
    obtain ⟨J8, hJ8, hF⟩ := jn_some hF
    refine Exec.seam (fun L' V' M' => ∃ (x6 : List TPair) (a7 : Option Addr) (k7 : Nat), L' = [(5, .v (.slice a7 ((x6).length) (k7)))] ∧ M' = [] ∧ SlAt cTPair V' a7 k7 x6 ∧ J8 x6 = some r) rfl ?_ ?_
    · rintro L' V9 M' ⟨x6, a7, k7, rfl, rfl, h7, hF⟩
      subst hJ8
      refine Exec.run tyOk 400 rfl ?_
      obtain rfl := some_inj hF
      exact Exec.ret tyOk rfl rfl ⟨_, _, rfl, h7⟩
    · skip
      refine Exec.run tyOk 400 rfl ?_
      refine Exec.loop (fun n13 L' V' M' => ∃ (x10 : List TPair) (a11 : Option Addr) (k11 : Nat) (x12 : Int), L' = [(0, .v (.slice a2 ((x1).length) (k2))), (5, .v (.slice a11 ((x10).length) (k11))), (6, .v (.int .i64 (x12)))] ∧ M' = [] ∧ SlAt cTPair V' a11 k11 x10 ∧ SlAt cTShard V' a2 k2 x1 ∧ F_clockworkref32_Gather_L1 x1 J8 n13 x10 x12 = some r) ⟨(((((x1).length : Nat) : Int)).toNat + 1), [(0, .v (.slice a2 ((x1).length) (k2))), (5, .v (.slice none (0) (0))), (6, .v (.int .i64 ((0 : Int))))], ⟨rfl, rfl, rfl, trivial⟩, ([] : List TPair), none, 0, (0 : Int), rfl, rfl, SlAt.nil, h5, hF⟩ ?_
      rintro n13 L' V14 M' ⟨x10, a11, k11, x12, rfl, rfl, h11, h15, hF⟩
      rcases n13 with _ | n13
      · exact absurd hF (by simp [F_clockworkref32_Gather_L1])
      rw [F_clockworkref32_Gather_L1] at hF
      refine Exec.run tyOk 400 rfl ?_
      rcases cond_some hF with ⟨hb, hF⟩ | ⟨hb, hF⟩
      · skip
        refine Exec.ifT rfl hb ?_
        refine Exec.run tyOk 400 rfl ?_
        obtain ⟨q16, hF⟩ := req_some hF
        obtain ⟨c17, hr17, hd17⟩ := SlAt.get h15 q16
        obtain ⟨a18, k18, rfl, h18⟩ := hr17
        refine Exec.ia tyOk rfl rfl ⟨q16.1, q16.2, hd17.some⟩ ?_
        refine Exec.run tyOk 400 rfl ?_
        refine Exec.ld tyOk (x := .slice a18 (((atI x1 x12).Pairs).length) (k18)) rfl rfl (RdAt.part hd17 1 1 rfl) rfl rfl ?_
        refine Exec.run tyOk 400 rfl ?_
        obtain ⟨x19, hx19, hF⟩ := bnd_some hF
        refine Exec.call rfl rfl (W_clockworkref06_Union x10 ((atI x1 x12).Pairs) h11 h18 hx19) ?_
        rintro V21 _ hv21 ⟨a20, k20, rfl, h20⟩
        have h22 := SlAt.mono h15 hv21
        have h23 := SlAt.mono h11 hv21
        have h25 := SlAt.mono h18 hv21
        refine Exec.run tyOk 400 rfl ?_
        rcases cond_some hF with ⟨hb, hF⟩ | ⟨hb, hF⟩
        · skip
          refine Exec.ifT rfl hb ?_
          refine Exec.run tyOk 400 rfl ?_
          obtain rfl := some_inj hF
          exact Exec.ret tyOk rfl rfl ⟨_, _, rfl, SlAt.nil⟩
        · skip
          refine Exec.ifF rfl hb ?_
          refine Exec.run tyOk 400 rfl ?_
          exact Exec.round [(0, .v (.slice a2 ((x1).length) (k2))), (5, .v (.slice a20 ((x19.1).length) (k20))), (6, .v (.int .i64 ((IntKind.i64.wrap (x12 + (1 : Int))))))] ⟨rfl, rfl, rfl, trivial⟩ ⟨n13, Nat.lt_succ_self _, x19.1, a20, k20, (IntKind.i64.wrap (x12 + (1 : Int))), rfl, rfl, h20, h22, hF⟩
      · skip
        refine Exec.ifF rfl hb ?_
        refine Exec.run tyOk 400 rfl ?_
        exact Exec.round [(5, .v (.slice a11 ((x10).length) (k11)))] ⟨rfl, trivial⟩ ⟨x10, a11, k11, rfl, rfl, h11, hF⟩
  · skip
    refine Exec.run tyOk 400 rfl ?_
    refine Exec.loop (fun n27 L' V' M' => ∃ (x26 : Int), L' = [(0, .v (.slice a2 ((x1).length) (k2))), (4, .v (.int .i64 (x26)))] ∧ M' = [] ∧ SlAt cTShard V' a2 k2 x1 ∧ F_clockworkref32_Gather_L2 x1 J3 n27 x26 = some r) ⟨(((((x1).length : Nat) : Int)).toNat + 1), [(0, .v (.slice a2 ((x1).length) (k2))), (4, .v (.int .i64 ((0 : Int))))], ⟨rfl, rfl, trivial⟩, (0 : Int), rfl, rfl, h2, hF⟩ ?_
    rintro n27 L' V28 M' ⟨x26, rfl, rfl, h29, hF⟩
    rcases n27 with _ | n27
    · exact absurd hF (by simp [F_clockworkref32_Gather_L2])
    rw [F_clockworkref32_Gather_L2] at hF
    refine Exec.run tyOk 400 rfl ?_
    rcases cond_some hF with ⟨hb, hF⟩ | ⟨hb, hF⟩
    · skip
      refine Exec.ifT rfl hb ?_
      refine Exec.run tyOk 400 rfl ?_
      refine Exec.draws tyOk [(0, true), (1, true), (2, true), (3, true), (4, true), (5, true), (6, true), (7, true), (8, true), (9, true), (10, true), (11, true), (12, true), (13, true), (14, true), (15, true), (16, true), (17, true), (18, true), (19, true), (20, true), (21, true), (22, false), (23, false), (24, false)] rfl (by kernel_rfl) ?_
      refine Exec.run tyOk 400 rfl ?_
      obtain ⟨q30, hF⟩ := req_some hF
      obtain ⟨c31, hr31, hd31⟩ := SlAt.gget (((decide ((0 : Int) < x26))) == true) h29 q30
      obtain ⟨a32, k32, rfl, h32⟩ := hr31
      refine Exec.fia tyOk rfl rfl rfl (fun gg0 => ⟨(q30 (gd1_of gg0)).1, (q30 (gd1_of gg0)).2, (hd31 (gd1_of gg0)).some⟩) ?_
      refine Exec.run tyOk 400 rfl ?_
      refine Exec.fld tyOk (x := .int .i64 ((cond (((decide ((0 : Int) < x26))) == true) (atI x1 x26) default).Node)) rfl rfl rfl (fun gg0 => (RdAt.part (hd31 (gd1_of gg0)) 0 1 rfl)) rfl rfl ?_
      refine Exec.run tyOk 400 rfl ?_
      obtain ⟨q33, hF⟩ := req_some hF
      obtain ⟨c34, hr34, hd34⟩ := SlAt.gget (((decide ((0 : Int) < x26))) == true) h29 q33
      obtain ⟨a35, k35, rfl, h35⟩ := hr34
      refine Exec.fia tyOk rfl rfl rfl (fun gg0 => ⟨(q33 (gd1_of gg0)).1, (q33 (gd1_of gg0)).2, (hd34 (gd1_of gg0)).some⟩) ?_
      refine Exec.run tyOk 400 rfl ?_
      refine Exec.fld tyOk (x := .int .i64 ((cond (((decide ((0 : Int) < x26))) == true) (atI x1 ((IntKind.i64.wrap (x26 - (1 : Int))))) default).Node)) rfl rfl rfl (fun gg0 => (RdAt.part (hd34 (gd1_of gg0)) 0 1 rfl)) rfl rfl ?_
      refine Exec.run tyOk 400 rfl ?_
      obtain ⟨q36, hF⟩ := req_some hF
      obtain ⟨c37, hr37, hd37⟩ := SlAt.gget ((((decide ((0 : Int) < x26)) && (decide ((cond (((decide ((0 : Int) < x26))) == true) (atI x1 x26) default).Node ≤ (cond (((decide ((0 : Int) < x26))) == true) (atI x1 ((IntKind.i64.wrap (x26 - (1 : Int))))) default).Node)))) == false) h29 q36
      obtain ⟨a38, k38, rfl, h38⟩ := hr37
      refine Exec.fia tyOk rfl rfl rfl (fun gg0 => ⟨(q36 (gd1_of gg0)).1, (q36 (gd1_of gg0)).2, (hd37 (gd1_of gg0)).some⟩) ?_
      refine Exec.run tyOk 400 rfl ?_
      refine Exec.fld tyOk (x := .slice a38 (((cond ((((decide ((0 : Int) < x26)) && (decide ((cond (((decide ((0 : Int) < x26))) == true) (atI x1 x26) default).Node ≤ (cond (((decide ((0 : Int) < x26))) == true) (atI x1 ((IntKind.i64.wrap (x26 - (1 : Int))))) default).Node)))) == false) (atI x1 x26) default).Pairs).length) (k38)) rfl rfl rfl (fun gg0 => (RdAt.part (hd37 (gd1_of gg0)) 1 1 rfl)) rfl rfl ?_
      refine Exec.run tyOk 400 rfl ?_
      obtain ⟨x39, hx39, hF⟩ := bnd_some hF
      refine Exec.callS (.bool (x39)) rfl rfl (fun gg0 => W_clockworkref06_Valid ((cond ((((decide ((0 : Int) < x26)) && (decide ((cond (((decide ((0 : Int) < x26))) == true) (atI x1 x26) default).Node ≤ (cond (((decide ((0 : Int) < x26))) == true) (atI x1 ((IntKind.i64.wrap (x26 - (1 : Int))))) default).Node)))) == false) (atI x1 x26) default).Pairs) h38 (gcall_some hx39 (gd1_of gg0))) ?_
      refine Exec.run tyOk 400 rfl ?_
      rcases cond_some hF with ⟨hb, hF⟩ | ⟨hb, hF⟩
      · skip
        refine Exec.ifT rfl hb ?_
        refine Exec.run tyOk 400 rfl ?_
        obtain rfl := some_inj hF
        exact Exec.ret tyOk rfl rfl ⟨_, _, rfl, SlAt.nil⟩
      · skip
        refine Exec.ifF rfl hb ?_
        refine Exec.run tyOk 400 rfl ?_
        exact Exec.round [(0, .v (.slice a2 ((x1).length) (k2))), (4, .v (.int .i64 ((IntKind.i64.wrap (x26 + (1 : Int))))))] ⟨rfl, rfl, trivial⟩ ⟨n27, Nat.lt_succ_self _, (IntKind.i64.wrap (x26 + (1 : Int))), rfl, rfl, h29, hF⟩
    · skip
      refine Exec.ifF rfl hb ?_
      refine Exec.run tyOk 400 rfl ?_
      exact Exec.round [(0, .v (.slice a2 ((x1).length) (k2)))] ⟨rfl, trivial⟩ ⟨rfl, rfl, h29, hF⟩

def F_dist_Valid_L1 (x3 : List TShard) (x5 : List Int) (x1 : TPlacement) (J11 : Option Bool) : Nat → Int → Option Bool
  | 0, _ => none
  | n14 + 1, x13 => (cond (decide (x13 < (((x3).length : Nat) : Int))) (req (0 ≤ x13 ∧ x13 < ((x3).length : Int)) (req (0 ≤ x13 ∧ x13 < ((x5).length : Int)) (bnd (gcall ((((atI x3 x13).Node != (atI x5 x13))) == false) (F_state_Valid ((atI x3 x13).Pairs))) fun x24 => (bnd (gcall (((((atI x3 x13).Node != (atI x5 x13)) || (!x24))) == false) (F_dist_owned x1 ((atI x3 x13).Pairs) ((atI x3 x13).Node))) fun x25 => (cond ((((atI x3 x13).Node != (atI x5 x13)) || (!x24)) || ((((x25).length : Nat) : Int) != ((((atI x3 x13).Pairs).length : Nat) : Int))) (some false) (F_dist_Valid_L1 x3 x5 x1 J11 n14 ((IntKind.i64.wrap (x13 + (1 : Int)))))))))) J11)

def F_dist_Valid (x1 : TPlacement) (x3 : List TShard) : Option Bool :=
  (bnd (F_placement_Nodes x1) fun x5 => (bnd (F_placement_Valid x1) fun x10 => (cond ((!x10) || ((((x3).length : Nat) : Int) != (((x5).length : Nat) : Int))) (some false) (jn ((some true)) (fun J11 => (F_dist_Valid_L1 x3 x5 x1 J11 (((((x3).length : Nat) : Int)).toNat + 1) ((0 : Int))))))))

set_option maxRecDepth 100000 in
theorem W_dist_Valid {V : View} (x1 : TPlacement) (x3 : List TShard) {a2 : Option Addr} {k2 : Nat} {a4 : Option Addr} {k4 : Nat} (h2 : SlAt cTPart V a2 k2 x1.Parts) (h4 : SlAt cTShard V a4 k4 x3) {r : Bool} (hF : F_dist_Valid x1 x3 = some r) :
    Spec Tryz.prog 48 [.agg ⟨[.int .i64 (x1.Version), .slice a2 ((x1.Parts).length) (k2)]⟩, .slice a4 ((x3).length) (k4)] V (fun _ v => v = .bool (r)) := by
  unfold F_dist_Valid at hF
  refine Spec.enter (T := tyT) Tryz.func48 rfl (by kernel_rfl) rfl rfl rfl ?_
  refine Exec.run tyOk 400 rfl ?_
  obtain ⟨x5, hx5, hF⟩ := bnd_some hF
  refine Exec.call rfl rfl (W_placement_Nodes x1 h2 hx5) ?_
  rintro V7 _ hv7 ⟨a6, k6, rfl, h6⟩
  have h8 := SlAt.mono h2 hv7
  have h9 := SlAt.mono h4 hv7
  refine Exec.run tyOk 400 rfl ?_
  obtain ⟨x10, hx10, hF⟩ := bnd_some hF
  refine Exec.callS (.bool (x10)) rfl rfl (W_placement_Valid x1 h8 hx10) ?_
  refine Exec.run tyOk 400 rfl ?_
  rcases cond_some hF with ⟨hb, hF⟩ | ⟨hb, hF⟩
  · skip
    refine Exec.ifT rfl hb ?_
    refine Exec.run tyOk 400 rfl ?_
    obtain rfl := some_inj hF
    exact Exec.ret tyOk rfl rfl rfl
  · skip
    refine Exec.ifF rfl hb ?_
    refine Exec.run tyOk 8 rfl ?_
    obtain ⟨J11, hJ11, hF⟩ := jn_some hF
    refine Exec.seam (fun L' V' M' => L' = [] ∧ M' = [] ∧ J11 = some r) rfl ?_ ?_
    · rintro L' V12 M' ⟨rfl, rfl, hF⟩
      subst hJ11
      refine Exec.run tyOk 400 rfl ?_
      obtain rfl := some_inj hF
      exact Exec.ret tyOk rfl rfl rfl
    · skip
      refine Exec.run tyOk 400 rfl ?_
      refine Exec.loop (fun n14 L' V' M' => ∃ (x13 : Int), L' = [(2, .ptr 0 0), (5, .v (.slice a6 ((x5).length) (k6))), (20, .v (.slice a4 ((x3).length) (k4))), (21, .v (.int .i64 ((((x3).length : Nat) : Int)))), (22, .v (.int .i64 (x13)))] ∧ M' = [.blk [.v (.int .i64 (x1.Version)), .v (.slice a2 ((x1.Parts).length) (k2))] 24] ∧ SlAt (cInt .i64) V' a6 k6 x5 ∧ SlAt cTShard V' a4 k4 x3 ∧ SlAt cTPart V' a2 k2 x1.Parts ∧ F_dist_Valid_L1 x3 x5 x1 J11 n14 x13 = some r) ⟨(((((x3).length : Nat) : Int)).toNat + 1), [(2, .ptr 0 0), (5, .v (.slice a6 ((x5).length) (k6))), (20, .v (.slice a4 ((x3).length) (k4))), (21, .v (.int .i64 ((((x3).length : Nat) : Int)))), (22, .v (.int .i64 ((0 : Int))))], ⟨rfl, rfl, rfl, rfl, rfl, trivial⟩, (0 : Int), rfl, rfl, h6, h9, h8, hF⟩ ?_
      rintro n14 L' V15 M' ⟨x13, rfl, rfl, h16, h17, h18, hF⟩
      rcases n14 with _ | n14
      · exact absurd hF (by simp [F_dist_Valid_L1])
      rw [F_dist_Valid_L1] at hF
      refine Exec.run tyOk 400 rfl ?_
      rcases cond_some hF with ⟨hb, hF⟩ | ⟨hb, hF⟩
      · skip
        refine Exec.ifT rfl hb ?_
        refine Exec.run tyOk 400 rfl ?_
        obtain ⟨q19, hF⟩ := req_some hF
        obtain ⟨c20, hr20, hd20⟩ := SlAt.get h17 q19
        obtain ⟨a21, k21, rfl, h21⟩ := hr20
        refine Exec.ia tyOk rfl rfl ⟨q19.1, q19.2, hd20.some⟩ ?_
        refine Exec.run tyOk 400 rfl ?_
        refine Exec.ld tyOk (x := .agg ⟨[.int .i64 ((atI x3 x13).Node), .slice a21 (((atI x3 x13).Pairs).length) (k21)]⟩) rfl rfl hd20 rfl rfl ?_
        refine Exec.run tyOk 400 rfl ?_
        refine Exec.draws tyOk [(0, true), (1, true), (2, true), (3, true), (4, true), (5, true), (6, true), (7, true), (8, true), (9, true), (10, false), (11, false), (12, false), (13, false), (14, true), (15, true), (16, true), (17, true), (18, true), (21, true), (22, true), (23, true), (19, false), (20, false), (24, false), (25, false)] rfl (by kernel_rfl) ?_
        refine Exec.run tyOk 400 rfl ?_
        obtain ⟨q22, hF⟩ := req_some hF
        obtain ⟨c23, hr23, hd23⟩ := SlAt.get h16 q22
        obtain rfl := hr23
        refine Exec.fia tyOk rfl rfl rfl ⟨q22.1, q22.2, hd23.some⟩ ?_
        refine Exec.run tyOk 400 rfl ?_
        refine Exec.fld tyOk (x := .int .i64 ((atI x5 x13))) rfl rfl rfl hd23 rfl rfl ?_
        refine Exec.run tyOk 400 rfl ?_
        obtain ⟨x24, hx24, hF⟩ := bnd_some hF
        refine Exec.callS (.bool (x24)) rfl rfl (fun gg0 => W_state_Valid ((atI x3 x13).Pairs) h21 (gcall_some hx24 (gd1_of gg0))) ?_
        refine Exec.run tyOk 400 rfl ?_
        obtain ⟨x25, hx25, hF⟩ := bnd_some hF
        refine Exec.callG (fun y : Option Addr × Nat => .slice y.1 ((x25).length) (y.2)) (none, 0) (R := fun V' y => SlAt cTPair V' y.1 y.2 x25) rfl rfl rfl (fun gg0 => (W_dist_owned x1 ((atI x3 x13).Pairs) ((atI x3 x13).Node) h18 h21 (gcall_some hx25 (gd1_of gg0))).mono (fun V' _ _ ⟨a26, k26, e1, h26⟩ => ⟨⟨a26, k26⟩, e1, h26⟩)) ?_
        rintro V27 ⟨a26, k26⟩ hv27 hg27
        have h26 : SlAt cTPair V27 a26 k26 x25 := gslat1 hx25 (fun gg0 => (hg27 gg0))
        have h28 := SlAt.mono h16 hv27
        have h29 := SlAt.mono h17 hv27
        have h31 := SlAt.mono h21 hv27
        have h33 := SlAt.mono h18 hv27
        refine Exec.run tyOk 400 rfl ?_
        rcases cond_some hF with ⟨hb, hF⟩ | ⟨hb, hF⟩
        · skip
          refine Exec.ifT rfl hb ?_
          refine Exec.run tyOk 400 rfl ?_
          obtain rfl := some_inj hF
          exact Exec.ret tyOk rfl rfl rfl
        · skip
          refine Exec.ifF rfl hb ?_
          refine Exec.run tyOk 400 rfl ?_
          refine Exec.cut 1 [(2, .ptr 0 0), (5, .v (.slice a6 ((x5).length) (k6))), (20, .v (.slice a4 ((x3).length) (k4))), (21, .v (.int .i64 ((((x3).length : Nat) : Int)))), (22, .v (.int .i64 ((IntKind.i64.wrap (x13 + (1 : Int))))))] (M' := [.blk [.v (.int .i64 (x1.Version)), .v (.slice a2 ((x1.Parts).length) (k2))] 24]) rfl ⟨rfl, rfl, rfl, rfl, rfl, trivial⟩ rfl rfl rfl ?_
          exact Exec.round [(2, .ptr 0 0), (5, .v (.slice a6 ((x5).length) (k6))), (20, .v (.slice a4 ((x3).length) (k4))), (21, .v (.int .i64 ((((x3).length : Nat) : Int)))), (22, .v (.int .i64 ((IntKind.i64.wrap (x13 + (1 : Int))))))] ⟨rfl, rfl, rfl, rfl, rfl, trivial⟩ ⟨n14, Nat.lt_succ_self _, (IntKind.i64.wrap (x13 + (1 : Int))), rfl, rfl, h28, h29, h33, hF⟩
      · skip
        refine Exec.ifF rfl hb ?_
        refine Exec.run tyOk 400 rfl ?_
        refine Exec.cut 0 [] (M' := []) rfl trivial rfl rfl rfl ?_
        exact Exec.round [] trivial ⟨rfl, rfl, hF⟩

def F_dist_Load_L1 (x7 : List Int) (x1 : TPlacement) (x3 : List TPair) (J15 : (List TShard) → Option (List TShard)) : Nat → (List TShard) → Int → Option (List TShard)
  | 0, _, _ => none
  | n23 + 1, x21, x22 => (cond (decide (x22 < (((x7).length : Nat) : Int))) (req (0 ≤ x22 ∧ x22 < ((x7).length : Int)) (bnd (F_dist_owned x1 x3 ((atI x7 x22))) fun x30 => (req (((x21 ++ [(⟨(atI x7 x22), x30⟩ : TShard)])).length * 32 ≤ 140737488355328) (F_dist_Load_L1 x7 x1 x3 J15 n23 ((x21 ++ [(⟨(atI x7 x22), x30⟩ : TShard)])) ((IntKind.i64.wrap (x22 + (1 : Int)))))))) (J15 x21))

def F_dist_Load (x1 : TPlacement) (x3 : List TPair) : Option (List TShard) :=
  (bnd (F_placement_Valid x1) fun x5 => (bnd (gcall (((!x5)) == false) (F_state_Valid x3)) fun x6 => (cond ((!x5) || (!x6)) (some ([] : List TShard)) (bnd (F_placement_Nodes x1) fun x7 => (jn (fun (x14 : List TShard) => (some x14)) (fun J15 => (F_dist_Load_L1 x7 x1 x3 J15 (((((x7).length : Nat) : Int)).toNat + 1) (([] : List TShard)) ((0 : Int)))))))))

set_option maxRecDepth 100000 in
theorem W_dist_Load {V : View} (x1 : TPlacement) (x3 : List TPair) {a2 : Option Addr} {k2 : Nat} {a4 : Option Addr} {k4 : Nat} (h2 : SlAt cTPart V a2 k2 x1.Parts) (h4 : SlAt cTPair V a4 k4 x3) {r : List TShard} (hF : F_dist_Load x1 x3 = some r) :
    Spec Tryz.prog 51 [.agg ⟨[.int .i64 (x1.Version), .slice a2 ((x1.Parts).length) (k2)]⟩, .slice a4 ((x3).length) (k4)] V (fun V' v => ∃ (a40 : Option Addr) (k40 : Nat), v = .slice a40 ((r).length) (k40) ∧ SlAt cTShard V' a40 k40 r) := by
  unfold F_dist_Load at hF
  refine Spec.enter (T := tyT) Tryz.func51 rfl (by kernel_rfl) rfl rfl rfl ?_
  refine Exec.run tyOk 400 rfl ?_
  obtain ⟨x5, hx5, hF⟩ := bnd_some hF
  refine Exec.callS (.bool (x5)) rfl rfl (W_placement_Valid x1 h2 hx5) ?_
  refine Exec.run tyOk 400 rfl ?_
  obtain ⟨x6, hx6, hF⟩ := bnd_some hF
  refine Exec.callS (.bool (x6)) rfl rfl (fun gg0 => W_state_Valid x3 h4 (gcall_some hx6 (gd1_of gg0))) ?_
  refine Exec.run tyOk 400 rfl ?_
  rcases cond_some hF with ⟨hb, hF⟩ | ⟨hb, hF⟩
  · skip
    refine Exec.ifT rfl hb ?_
    refine Exec.run tyOk 400 rfl ?_
    obtain rfl := some_inj hF
    exact Exec.ret tyOk rfl rfl ⟨_, _, rfl, SlAt.nil⟩
  · skip
    refine Exec.ifF rfl hb ?_
    refine Exec.run tyOk 400 rfl ?_
    obtain ⟨x7, hx7, hF⟩ := bnd_some hF
    refine Exec.call rfl rfl (W_placement_Nodes x1 h2 hx7) ?_
    rintro V9 _ hv9 ⟨a8, k8, rfl, h8⟩
    have h10 := SlAt.mono h2 hv9
    have h11 := SlAt.mono h4 hv9
    refine Exec.run tyOk 3 rfl ?_
    refine Exec.row0 60 2 rfl ?_
    have h12 : RowRep cTShard V9 ([] : List TShard) [] := RowRep.nil
    obtain ⟨J15, hJ15, hF⟩ := jn_some hF
    refine Exec.seam (fun L' V' M' => ∃ (x14 : List TShard) (a13 : Option Addr) (k13 : Nat) (cs13 : List Value), L' = [(5, .v (.slice a13 ((x14).length) (k13)))] ∧ M' = [.blk [.v (.int .i64 (x1.Version)), .v (.slice a2 ((x1.Parts).length) (k2))] 24, .row (.slice a13 ((x14).length) (k13)) cs13 60 2] ∧ RowRep cTShard V' x14 cs13 ∧ SlAt cTPart V' a2 k2 x1.Parts ∧ J15 x14 = some r) rfl ?_ ?_
    · rintro L' V16 M' ⟨x14, a13, k13, cs13, rfl, rfl, h13, h17, hF⟩
      subst hJ15
      refine Exec.run tyOk 400 rfl ?_
      refine Exec.frz 1 rfl rfl rfl (fun V18 hv18 hd18 hn18 => ?_)
      have hz18 := RowRep.slat h13 hv18 hd18 hn18
      have h19 := SlAt.mono h17 hv18
      obtain rfl := some_inj hF
      exact Exec.ret tyOk rfl rfl ⟨_, _, rfl, hz18⟩
    · skip
      refine Exec.run tyOk 400 rfl ?_
      refine Exec.loop (fun n23 L' V' M' => ∃ (x21 : List TShard) (a20 : Option Addr) (k20 : Nat) (cs20 : List Value) (x22 : Int), L' = [(1, .v (.slice a4 ((x3).length) (k4))), (2, .ptr 0 0), (5, .v (.slice a20 ((x21).length) (k20))), (17, .v (.slice a8 ((x7).length) (k8))), (18, .v (.int .i64 ((((x7).length : Nat) : Int)))), (19, .v (.int .i64 (x22)))] ∧ M' = [.blk [.v (.int .i64 (x1.Version)), .v (.slice a2 ((x1.Parts).length) (k2))] 24, .row (.slice a20 ((x21).length) (k20)) cs20 60 2] ∧ RowRep cTShard V' x21 cs20 ∧ SlAt cTPair V' a4 k4 x3 ∧ SlAt (cInt .i64) V' a8 k8 x7 ∧ SlAt cTPart V' a2 k2 x1.Parts ∧ F_dist_Load_L1 x7 x1 x3 J15 n23 x21 x22 = some r) ⟨(((((x7).length : Nat) : Int)).toNat + 1), [(1, .v (.slice a4 ((x3).length) (k4))), (2, .ptr 0 0), (5, .v (.slice none ((([] : List TShard)).length) (0))), (17, .v (.slice a8 ((x7).length) (k8))), (18, .v (.int .i64 ((((x7).length : Nat) : Int)))), (19, .v (.int .i64 ((0 : Int))))], ⟨rfl, rfl, rfl, rfl, rfl, rfl, trivial⟩, ([] : List TShard), none, 0, [], (0 : Int), rfl, rfl, h12, h11, h8, h10, hF⟩ ?_
      rintro n23 L' V24 M' ⟨x21, a20, k20, cs20, x22, rfl, rfl, h20, h25, h26, h27, hF⟩
      rcases n23 with _ | n23
      · exact absurd hF (by simp [F_dist_Load_L1])
      rw [F_dist_Load_L1] at hF
      refine Exec.run tyOk 400 rfl ?_
      rcases cond_some hF with ⟨hb, hF⟩ | ⟨hb, hF⟩
      · skip
        refine Exec.ifT rfl hb ?_
        refine Exec.run tyOk 400 rfl ?_
        obtain ⟨q28, hF⟩ := req_some hF
        obtain ⟨c29, hr29, hd29⟩ := SlAt.get h26 q28
        obtain rfl := hr29
        refine Exec.ia tyOk rfl rfl ⟨q28.1, q28.2, hd29.some⟩ ?_
        refine Exec.run tyOk 400 rfl ?_
        refine Exec.ld tyOk (x := .int .i64 ((atI x7 x22))) rfl rfl hd29 rfl rfl ?_
        refine Exec.run tyOk 400 rfl ?_
        obtain ⟨x30, hx30, hF⟩ := bnd_some hF
        refine Exec.call rfl rfl (W_dist_owned x1 x3 ((atI x7 x22)) h27 h25 hx30) ?_
        rintro V32 _ hv32 ⟨a31, k31, rfl, h31⟩
        have h33 := SlAt.mono h25 hv32
        have h34 := SlAt.mono h26 hv32
        have h36 := SlAt.mono h27 hv32
        have h37 := RowRep.mono hv32 h20
        refine Exec.run tyOk 400 rfl ?_
        refine Exec.bsl tyOk rfl rfl ?_
        refine Exec.run tyOk 400 rfl ?_
        obtain ⟨q39, hF⟩ := req_some hF
        refine Exec.app tyOk 1 2 (nm := ((x21 ++ [(⟨(atI x7 x22), x30⟩ : TShard)])).length) rfl rfl rfl rfl rfl rfl rfl rfl rfl (by simp) (fun _ _ => rfl) rfl q39 (fun a38 k38 => ?_)
        have h38 : RowRep cTShard V32 (x21 ++ [(⟨(atI x7 x22), x30⟩ : TShard)]) (cs20 ++ [.int .i64 ((atI x7 x22)), .slice a31 ((x30).length) (k31)]) := RowRep.app h37 ⟨_, _, rfl, ⟨_, _, rfl, h31⟩, rfl⟩
        refine Exec.run tyOk 400 rfl ?_
        refine Exec.cut 2 [(1, .v (.slice a4 ((x3).length) (k4))), (2, .ptr 0 0), (5, .v (.slice a38 (((x21 ++ [(⟨(atI x7 x22), x30⟩ : TShard)])).length) (k38))), (17, .v (.slice a8 ((x7).length) (k8))), (18, .v (.int .i64 ((((x7).length : Nat) : Int)))), (19, .v (.int .i64 ((IntKind.i64.wrap (x22 + (1 : Int))))))] (M' := [.blk [.v (.int .i64 (x1.Version)), .v (.slice a2 ((x1.Parts).length) (k2))] 24, .row (.slice a38 (((x21 ++ [(⟨(atI x7 x22), x30⟩ : TShard)])).length) (k38)) ((cs20 ++ [.int .i64 ((atI x7 x22)), .slice a31 ((x30).length) (k31)])) 60 2]) rfl ⟨rfl, rfl, rfl, rfl, rfl, rfl, trivial⟩ rfl rfl rfl ?_
        exact Exec.round [(1, .v (.slice a4 ((x3).length) (k4))), (2, .ptr 0 0), (5, .v (.slice a38 (((x21 ++ [(⟨(atI x7 x22), x30⟩ : TShard)])).length) (k38))), (17, .v (.slice a8 ((x7).length) (k8))), (18, .v (.int .i64 ((((x7).length : Nat) : Int)))), (19, .v (.int .i64 ((IntKind.i64.wrap (x22 + (1 : Int))))))] ⟨rfl, rfl, rfl, rfl, rfl, rfl, trivial⟩ ⟨n23, Nat.lt_succ_self _, (x21 ++ [(⟨(atI x7 x22), x30⟩ : TShard)]), a38, k38, (cs20 ++ [.int .i64 ((atI x7 x22)), .slice a31 ((x30).length) (k31)]), (IntKind.i64.wrap (x22 + (1 : Int))), rfl, rfl, h38, h33, h34, h36, hF⟩
      · skip
        refine Exec.ifF rfl hb ?_
        refine Exec.run tyOk 400 rfl ?_
        exact Exec.round [(5, .v (.slice a20 ((x21).length) (k20)))] ⟨rfl, trivial⟩ ⟨x21, a20, k20, cs20, rfl, rfl, h20, h27, hF⟩

def F_clockworkref33_Chunk (x1 : TPlacement) (x3 : List TShard) (x5 : Int) (x6 : Int) : Option (TPlacement × List TShard × TChunk × Int) :=
  (cond (decide (x6 < (1 : Int))) (some ((⟨0, ([] : List TPart)⟩ : TPlacement), ([] : List TShard), (⟨0, 0, 0, (default : TRange), ([] : List TPair), false⟩ : TChunk), (1 : Int))) (bnd (F_clockworkref33_find x1 x3 x5) fun x7 => (cond (x7.2 != (0 : Int)) (some ((⟨0, ([] : List TPart)⟩ : TPlacement), ([] : List TShard), (⟨0, 0, 0, (default : TRange), ([] : List TPair), false⟩ : TChunk), x7.2)) (req (0 ≤ x7.1 ∧ x7.1 < ((x1.Parts).length : Int)) (bnd (F_clockworkref32_Gather x3) fun x10 => (bnd (F_clockworkref29_Range x1 x5) fun x16 => (bnd (F_clockworkref06_Slice x10.1 ((⟨(atI x1.Parts x7.1).Done, x16.1.To⟩ : TRange))) fun x17 => (jn (fun (x52 : TPart) (x53 : TChunk) => (bnd (F_clockworkref33_with x1 x7.1 x52) fun x59 => (bnd (F_clockworkref32_Load x59 x10.1) fun x65 => (some (x59, x65, x53, (0 : Int)))))) (fun J55 => (cond (decide ((((x17).length : Nat) : Int) ≤ x6)) (J55 ((⟨(atI x1.Parts x7.1).Id, (atI x1.Parts x7.1).From, (atI x1.Parts x7.1).Dest, (0 : Int), ([] : Str)⟩ : TPart)) ((⟨x5, (atI x1.Parts x7.1).Node, (atI x1.Parts x7.1).Dest, (⟨(atI x1.Parts x7.1).Done, x16.1.To⟩ : TRange), x17, (decide ((((x17).length : Nat) : Int) ≤ x6))⟩ : TChunk))) (req (true = true → 0 ≤ (0 : Int) ∧ (0 : Int) ≤ x6 ∧ x6 ≤ ((x17).length : Int)) (req (((([] : List TPair) ++ (cond true ((x17.take (x6).toNat).drop ((0 : Int)).toNat) ([] : List TPair)))).length * 48 ≤ 140737488355328) (req (0 ≤ x6 ∧ x6 < ((x17).length : Int)) (J55 ((⟨(atI x1.Parts x7.1).Id, (atI x1.Parts x7.1).From, (atI x1.Parts x7.1).Node, (atI x1.Parts x7.1).Dest, (atI x17 x6).Key⟩ : TPart)) ((⟨x5, (atI x1.Parts x7.1).Node, (atI x1.Parts x7.1).Dest, (⟨(atI x1.Parts x7.1).Done, (atI x17 x6).Key⟩ : TRange), (([] : List TPair) ++ (cond true ((x17.take (x6).toNat).drop ((0 : Int)).toNat) ([] : List TPair))), (decide ((((x17).length : Nat) : Int) ≤ x6))⟩ : TChunk))))))))))))))))

set_option maxRecDepth 100000 in
theorem W_clockworkref33_Chunk {V : View} (x1 : TPlacement) (x3 : List TShard) (x5 : Int) (x6 : Int) {a2 : Option Addr} {k2 : Nat} {a4 : Option Addr} {k4 : Nat} (h2 : SlAt cTPart V a2 k2 x1.Parts) (h4 : SlAt cTShard V a4 k4 x3) {r : TPlacement × List TShard × TChunk × Int} (hF : F_clockworkref33_Chunk x1 x3 x5 x6 = some r) :
    Spec Tryz.prog 9 [.agg ⟨[.int .i64 (x1.Version), .slice a2 ((x1.Parts).length) (k2)]⟩, .slice a4 ((x3).length) (k4), .int .i64 (x5), .int .i64 (x6)] V (fun V' v => ∃ (a87 : Option Addr) (k87 : Nat) (a88 : Option Addr) (k88 : Nat) (a89 : Option Addr) (k89 : Nat), v = .tuple ⟨[.agg ⟨[.int .i64 (r.1.Version), .slice a87 ((r.1.Parts).length) (k87)]⟩, .slice a88 ((r.2.1).length) (k88), .agg ⟨[.int .i64 (r.2.2.1.Part), .int .i64 (r.2.2.1.From), .int .i64 (r.2.2.1.To), .string ⟨⟨r.2.2.1.Keys.From⟩⟩, .string ⟨⟨r.2.2.1.Keys.To⟩⟩, .slice a89 ((r.2.2.1.Pairs).length) (k89), .bool (r.2.2.1.Last)]⟩, .int .i64 (r.2.2.2)]⟩ ∧ SlAt cTPart V' a87 k87 r.1.Parts ∧ SlAt cTShard V' a88 k88 r.2.1 ∧ SlAt cTPair V' a89 k89 r.2.2.1.Pairs) := by
  unfold F_clockworkref33_Chunk at hF
  refine Spec.enter (T := tyT) Tryz.func9 rfl (by kernel_rfl) rfl rfl rfl ?_
  refine Exec.run tyOk 400 rfl ?_
  rcases cond_some hF with ⟨hb, hF⟩ | ⟨hb, hF⟩
  · skip
    refine Exec.ifT rfl hb ?_
    refine Exec.run tyOk 400 rfl ?_
    obtain rfl := some_inj hF
    exact Exec.ret tyOk rfl rfl ⟨_, _, _, _, _, _, rfl, SlAt.nil, SlAt.nil, SlAt.nil⟩
  · skip
    refine Exec.ifF rfl hb ?_
    refine Exec.run tyOk 400 rfl ?_
    obtain ⟨x7, hx7, hF⟩ := bnd_some hF
    refine Exec.callS (.tuple ⟨[.int .i64 (x7.1), .int .i64 (x7.2)]⟩) rfl rfl (W_clockworkref33_find x1 x3 x5 h2 h4 hx7) ?_
    refine Exec.run tyOk 400 rfl ?_
    rcases cond_some hF with ⟨hb, hF⟩ | ⟨hb, hF⟩
    · skip
      refine Exec.ifT rfl hb ?_
      refine Exec.run tyOk 400 rfl ?_
      obtain rfl := some_inj hF
      exact Exec.ret tyOk rfl rfl ⟨_, _, _, _, _, _, rfl, SlAt.nil, SlAt.nil, SlAt.nil⟩
    · skip
      refine Exec.ifF rfl hb ?_
      refine Exec.run tyOk 400 rfl ?_
      obtain ⟨q8, hF⟩ := req_some hF
      obtain ⟨c9, hr9, hd9⟩ := SlAt.get h2 q8
      obtain rfl := hr9
      refine Exec.ia tyOk rfl rfl ⟨q8.1, q8.2, hd9.some⟩ ?_
      refine Exec.run tyOk 400 rfl ?_
      refine Exec.ld tyOk (x := .agg ⟨[.int .i64 ((atI x1.Parts x7.1).Id), .string ⟨⟨(atI x1.Parts x7.1).From⟩⟩, .int .i64 ((atI x1.Parts x7.1).Node), .int .i64 ((atI x1.Parts x7.1).Dest), .string ⟨⟨(atI x1.Parts x7.1).Done⟩⟩]⟩) rfl rfl hd9 rfl rfl ?_
      refine Exec.run tyOk 400 rfl ?_
      obtain ⟨x10, hx10, hF⟩ := bnd_some hF
      refine Exec.call rfl rfl (W_clockworkref32_Gather x3 h4 hx10) ?_
      rintro V12 _ hv12 ⟨a11, k11, rfl, h11⟩
      have h13 := SlAt.mono h2 hv12
      have h14 := SlAt.mono h4 hv12
      refine Exec.run tyOk 400 rfl ?_
      obtain ⟨x16, hx16, hF⟩ := bnd_some hF
      refine Exec.callS (.tuple ⟨[.agg ⟨[.string ⟨⟨x16.1.From⟩⟩, .string ⟨⟨x16.1.To⟩⟩]⟩, .int .i64 (x16.2)]⟩) rfl rfl (W_clockworkref29_Range x1 x5 h13 hx16) ?_
      refine Exec.run tyOk 400 rfl ?_
      obtain ⟨x17, hx17, hF⟩ := bnd_some hF
      refine Exec.call rfl rfl (W_clockworkref06_Slice x10.1 ((⟨(atI x1.Parts x7.1).Done, x16.1.To⟩ : TRange)) h11 hx17) ?_
      rintro V19 _ hv19 ⟨a18, k18, rfl, h18⟩
      have h20 := SlAt.mono h13 hv19
      have h21 := SlAt.mono h14 hv19
      have h22 := SlAt.mono h11 hv19
      refine Exec.run tyOk 400 rfl ?_
      obtain ⟨J55, hJ55, hF⟩ := jn_some hF
      refine Exec.seam (fun L' V' M' => ∃ (x52 : TPart) (x53 : TChunk) (a54 : Option Addr) (k54 : Nat), L' = [(4, .ptr 0 0), (8, .ptr 1 0), (10, .ptr 2 0), (12, .v (.int .i64 (x7.1))), (14, .ptr 3 0), (15, .v (.slice a11 ((x10.1).length) (k11))), (20, .ptr 5 0)] ∧ M' = [.blk [.v (.int .i64 (x1.Version)), .v (.slice a2 ((x1.Parts).length) (k2))] 24, .blk [.v (.int .i64 (0)), .v (.slice none (0) (0))] 24, .blk [.v (.int .i64 (0)), .v (.int .i64 (0)), .v (.int .i64 (0)), .v (.string ⟨⟨[]⟩⟩), .v (.string ⟨⟨[]⟩⟩), .v (.slice none (0) (0)), .v (.bool (false))] 34, .blk [.v (.int .i64 (x52.Id)), .v (.string ⟨⟨x52.From⟩⟩), .v (.int .i64 (x52.Node)), .v (.int .i64 (x52.Dest)), .v (.string ⟨⟨x52.Done⟩⟩)] 56, .blk [.v (.string ⟨⟨(atI x1.Parts x7.1).Done⟩⟩), .v (.string ⟨⟨x16.1.To⟩⟩)] 31, .blk [.v (.int .i64 (x53.Part)), .v (.int .i64 (x53.From)), .v (.int .i64 (x53.To)), .v (.string ⟨⟨x53.Keys.From⟩⟩), .v (.string ⟨⟨x53.Keys.To⟩⟩), .v (.slice a54 ((x53.Pairs).length) (k54)), .v (.bool (x53.Last))] 34] ∧ SlAt cTPair V' a54 k54 x53.Pairs ∧ SlAt cTPair V' a11 k11 x10.1 ∧ SlAt cTPart V' a2 k2 x1.Parts ∧ J55 x52 x53 = some r) rfl ?_ ?_
      · rintro L' V56 M' ⟨x52, x53, a54, k54, rfl, rfl, h54, h57, h58, hF⟩
        subst hJ55
        refine Exec.run tyOk 400 rfl ?_
        obtain ⟨x59, hx59, hF⟩ := bnd_some hF
        refine Exec.call rfl rfl (W_clockworkref33_with x1 x7.1 x52 h58 hx59) ?_
        rintro V61 _ hv61 ⟨a60, k60, rfl, h60⟩
        have h62 := SlAt.mono h57 hv61
        have h63 := SlAt.mono h58 hv61
        have h64 := SlAt.mono h54 hv61
        refine Exec.run tyOk 400 rfl ?_
        refine Exec.draws tyOk [(0, true), (1, true), (2, true), (4, true), (3, false), (5, false), (6, false), (7, false), (8, false)] rfl (by kernel_rfl) ?_
        refine Exec.run tyOk 400 rfl ?_
        obtain ⟨x65, hx65, hF⟩ := bnd_some hF
        refine Exec.call rfl rfl (W_clockworkref32_Load x59 x10.1 h60 h62 hx65) ?_
        rintro V67 _ hv67 ⟨a66, k66, rfl, h66⟩
        have h68 := SlAt.mono h62 hv67
        have h69 := SlAt.mono h63 hv67
        have h70 := SlAt.mono h60 hv67
        have h71 := SlAt.mono h64 hv67
        refine Exec.run tyOk 400 rfl ?_
        obtain rfl := some_inj hF
        exact Exec.ret tyOk rfl rfl ⟨_, _, _, _, _, _, rfl, h70, h66, h71⟩
      · skip
        refine Exec.run tyOk 400 rfl ?_
        rcases cond_some hF with ⟨hb, hF⟩ | ⟨hb, hF⟩
        · skip
          refine Exec.ifT rfl hb ?_
          refine Exec.run tyOk 400 rfl ?_
          exact Exec.round [(4, .ptr 0 0), (8, .ptr 1 0), (10, .ptr 2 0), (12, .v (.int .i64 (x7.1))), (14, .ptr 3 0), (15, .v (.slice a11 ((x10.1).length) (k11))), (20, .ptr 5 0)] ⟨rfl, rfl, rfl, rfl, rfl, rfl, rfl, trivial⟩ ⟨(⟨(atI x1.Parts x7.1).Id, (atI x1.Parts x7.1).From, (atI x1.Parts x7.1).Dest, (0 : Int), ([] : Str)⟩ : TPart), (⟨x5, (atI x1.Parts x7.1).Node, (atI x1.Parts x7.1).Dest, (⟨(atI x1.Parts x7.1).Done, x16.1.To⟩ : TRange), x17, (decide ((((x17).length : Nat) : Int) ≤ x6))⟩ : TChunk), a18, k18, rfl, rfl, h18, h22, h20, hF⟩
        · skip
          refine Exec.ifF rfl hb ?_
          refine Exec.run tyOk 400 rfl ?_
          refine Exec.drawsE tyOk [7] [] [(0, true), (1, true), (2, true), (3, true), (4, true), (5, false), (6, true), (7, false)] (by kernel_rfl) ?_
          refine Exec.run tyOk 400 rfl ?_
          obtain ⟨q72, hF⟩ := req_some hF
          refine Exec.fgslv tyOk (c := cTPair) (g := true) rfl rfl rfl (lo := (0 : Int)) (hi := x6) rfl rfl h18 (by simp) rfl (rfl) q72 (fun a73 k73 h73 => ?_)
          refine Exec.run tyOk 400 rfl ?_
          refine Exec.row0 64 4 rfl ?_
          have h74 : RowRep cTPair V19 [] [] := RowRep.nil
          obtain ⟨q76, hF⟩ := req_some hF
          refine Exec.appS tyOk (cd := cTPair) 6 (nm := ((([] : List TPair) ++ (cond true ((x17.take (x6).toNat).drop ((0 : Int)).toNat) ([] : List TPair)))).length) rfl rfl rfl rfl rfl rfl h73 (by first | rfl | simp) (by first | rfl | exact List.length_append.symm | simp) (fun _ _ _ => rfl) rfl q76 (fun cs75 hs75 a75 k75 => ?_)
          have h75 : RowRep cTPair V19 (([] : List TPair) ++ (cond true ((x17.take (x6).toNat).drop ((0 : Int)).toNat) ([] : List TPair))) ([] ++ cs75) := RowRep.app h74 hs75
          refine Exec.run tyOk 400 rfl ?_
          obtain ⟨q77, hF⟩ := req_some hF
          obtain ⟨c78, hr78, hd78⟩ := SlAt.get h18 q77
          obtain rfl := hr78
          refine Exec.ia tyOk rfl rfl ⟨q77.1, q77.2, hd78.some⟩ ?_
          refine Exec.run tyOk 400 rfl ?_
          refine Exec.ld tyOk (x := .string ⟨⟨(atI x17 x6).Key⟩⟩) rfl rfl (RdAt.part hd78 0 1 rfl) rfl rfl ?_
          refine Exec.run tyOk 400 rfl ?_
          refine Exec.frz 6 rfl rfl rfl (fun V79 hv79 hd79 hn79 => ?_)
          have hz79 := RowRep.slat h75 hv79 hd79 hn79
          have h80 := SlAt.mono h20 hv79
          have h81 := SlAt.mono h21 hv79
          have h82 := SlAt.mono h22 hv79
          have h83 := SlAt.mono h18 hv79
          have h85 := SlAt.mono h73 hv79
          refine Exec.cut 6 [(4, .ptr 0 0), (8, .ptr 1 0), (10, .ptr 2 0), (12, .v (.int .i64 (x7.1))), (14, .ptr 3 0), (15, .v (.slice a11 ((x10.1).length) (k11))), (20, .ptr 5 0)] (M' := [.blk [.v (.int .i64 (x1.Version)), .v (.slice a2 ((x1.Parts).length) (k2))] 24, .blk [.v (.int .i64 (0)), .v (.slice none (0) (0))] 24, .blk [.v (.int .i64 (0)), .v (.int .i64 (0)), .v (.int .i64 (0)), .v (.string ⟨⟨[]⟩⟩), .v (.string ⟨⟨[]⟩⟩), .v (.slice none (0) (0)), .v (.bool (false))] 34, .blk [.v (.int .i64 ((atI x1.Parts x7.1).Id)), .v (.string ⟨⟨(atI x1.Parts x7.1).From⟩⟩), .v (.int .i64 ((atI x1.Parts x7.1).Node)), .v (.int .i64 ((atI x1.Parts x7.1).Dest)), .v (.string ⟨⟨(atI x17 x6).Key⟩⟩)] 56, .blk [.v (.string ⟨⟨(atI x1.Parts x7.1).Done⟩⟩), .v (.string ⟨⟨x16.1.To⟩⟩)] 31, .blk [.v (.int .i64 (x5)), .v (.int .i64 ((atI x1.Parts x7.1).Node)), .v (.int .i64 ((atI x1.Parts x7.1).Dest)), .v (.string ⟨⟨(atI x1.Parts x7.1).Done⟩⟩), .v (.string ⟨⟨(atI x17 x6).Key⟩⟩), .v (.slice a75 (((([] : List TPair) ++ (cond true ((x17.take (x6).toNat).drop ((0 : Int)).toNat) ([] : List TPair)))).length) (k75)), .v (.bool ((decide ((((x17).length : Nat) : Int) ≤ x6))))] 34]) rfl ⟨rfl, rfl, rfl, rfl, rfl, rfl, rfl, trivial⟩ rfl rfl rfl ?_
          exact Exec.round [(4, .ptr 0 0), (8, .ptr 1 0), (10, .ptr 2 0), (12, .v (.int .i64 (x7.1))), (14, .ptr 3 0), (15, .v (.slice a11 ((x10.1).length) (k11))), (20, .ptr 5 0)] ⟨rfl, rfl, rfl, rfl, rfl, rfl, rfl, trivial⟩ ⟨(⟨(atI x1.Parts x7.1).Id, (atI x1.Parts x7.1).From, (atI x1.Parts x7.1).Node, (atI x1.Parts x7.1).Dest, (atI x17 x6).Key⟩ : TPart), (⟨x5, (atI x1.Parts x7.1).Node, (atI x1.Parts x7.1).Dest, (⟨(atI x1.Parts x7.1).Done, (atI x17 x6).Key⟩ : TRange), (([] : List TPair) ++ (cond true ((x17.take (x6).toNat).drop ((0 : Int)).toNat) ([] : List TPair))), (decide ((((x17).length : Nat) : Int) ≤ x6))⟩ : TChunk), a75, k75, rfl, rfl, hz79, h82, h80, hF⟩

end Go.Proofs.YtedbagekceppiaaGreat
