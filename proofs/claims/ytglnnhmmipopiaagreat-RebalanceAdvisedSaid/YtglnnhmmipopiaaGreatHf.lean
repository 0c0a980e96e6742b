/-
 Functions of the program as their counterparts say them (printed by a program).
 Conditions: none.
-/
import Derived.Test.YtglnnhmmipopiaaGreatHe
set_option linter.all false
namespace Go.Proofs.YtglnnhmmipopiaaGreat
set_option maxRecDepth 100000
def F_clockworkref33_find (x1 : TPlacement) (x3 : List TShard) (x5 : Int) : Option (Int × Int) :=
 (bnd (F_clockworkref32_Valid x1 x3) fun x6 => (cond (!x6) (some ((0 : Int), (1 : Int))) (bnd (F_clockworkref29_Find x1 x5) fun x7 => (cond (decide (x7 < (0 : Int))) (some ((0 : Int), (9 : Int))) (req (0 ≤ x7 ∧ x7 < ((x1.Parts).length : Int)) (cond ((atI x1.Parts x7).Dest == (0 : Int)) (some ((0 : Int), (19 : Int))) (cond (decide ((1099511627776 : Int) ≤ x1.Version)) (some ((0 : Int), (2 : Int))) (some (x7, (0 : Int))))))))))
def F_clockworkref06_Union_L1 (x3 : List TPair) (x1 : List TPair) (J7 : Option (List TPair × Int)) : Nat → Int → Option (List TPair × Int)
 | 0, _ => none
 | n17 + 1, x16 => (cond (decide (x16 < (((x3).length : Nat) : Int))) (req (0 ≤ x16 ∧ x16 < ((x3).length : Int)) (bnd (F_clockworkref06_Has x1 ((atI x3 x16).Key)) fun x23 => (cond x23 (some (([] : List TPair), (8 : Int))) (F_clockworkref06_Union_L1 x3 x1 J7 n17 ((IntKind.i64.wrap (x16 + (1 : Int)))))))) J7)
def F_clockworkref06_Union (x1 : List TPair) (x3 : List TPair) : Option (List TPair × Int) :=
 (bnd (F_clockworkref06_Valid x1) fun x5 => (bnd (gcall (((!x5)) == false) (F_clockworkref06_Valid x3)) fun x6 => (cond ((!x5) || (!x6)) (some (([] : List TPair), (1 : Int))) (jn ((bnd (F_clockworkref06_Apply x1 x3) fun x11 => (some (x11.1, x11.2)))) (fun J7 => (F_clockworkref06_Union_L1 x3 x1 J7 (((((x3).length : Nat) : Int)).toNat + 1) ((0 : Int))))))))
theorem W_clockworkref06_Union {V : View} (x1 : List TPair) (x3 : List TPair) {a2 : Option Addr} {k2 : Nat} {a4 : Option Addr} {k4 : Nat} (h2 : SlAt cTPair V a2 k2 x1) (h4 : SlAt cTPair V a4 k4 x3) {r : List TPair × Int} (hF : F_clockworkref06_Union x1 x3 = some r) :
  Spec Tryz.prog 90 [.slice a2 ((x1).length) (k2), .slice a4 ((x3).length) (k4)] V (fun V' v => ∃ (a24 : Option Addr) (k24 : Nat), v = .tuple ⟨[.slice a24 ((r.1).length) (k24), .int .i64 (r.2)]⟩ ∧ SlAt cTPair V' a24 k24 r.1) := by
 unfold F_clockworkref06_Union at hF
 refine Spec.enter (T := tyT) Tryz.func90 rfl (by kernel_rfl) rfl rfl rfl ?_
 refine xr rfl ?_
 obtain ⟨x5, hx5, hF⟩ := bnd_some hF
 refine Exec.callS (.bool (x5)) rfl rfl (W_clockworkref06_Valid x1 h2 hx5) ?_
 refine xr rfl ?_
 obtain ⟨x6, hx6, hF⟩ := bnd_some hF
 refine Exec.callS (.bool (x6)) rfl rfl (fun gg0 => W_clockworkref06_Valid x3 h4 (gcall_some hx6 (gd1_of gg0))) ?_
 refine xr rfl ?_
 rcases cond_some hF with ⟨hb, hF⟩ | ⟨hb, hF⟩
 ·refine Exec.ifT rfl hb ?_
  refine xr rfl ?_
  obtain rfl := some_inj hF
  exact Exec.ret tyOk rfl rfl ⟨_, _, rfl, SlAt.nil⟩
 ·refine Exec.ifF rfl hb ?_
  refine Exec.run tyOk 6 rfl ?_
  obtain ⟨J7, hJ7, hF⟩ := jn_some hF
  refine Exec.seam (fun L' V' M' => L' = [(0, .v (.slice a2 ((x1).length) (k2))), (1, .v (.slice a4 ((x3).length) (k4)))] ∧ M' = [] ∧ SlAt cTPair V' a2 k2 x1 ∧ SlAt cTPair V' a4 k4 x3 ∧ J7 = some r) rfl ?_ ?_
  ·rintro L' V8 M' ⟨rfl, rfl, h9, h10, hF⟩
   subst hJ7
   refine xr rfl ?_
   obtain ⟨x11, hx11, hF⟩ := bnd_some hF
   refine Exec.call rfl rfl (W_clockworkref06_Apply x1 x3 h9 h10 hx11) ?_
   rintro V13 _ hv13 ⟨a12, k12, rfl, h12⟩
   have h14 := SlAt.mono h9 hv13
   have h15 := SlAt.mono h10 hv13
   refine xr rfl ?_
   obtain rfl := some_inj hF
   exact Exec.ret tyOk rfl rfl ⟨_, _, rfl, h12⟩
  ·refine xr rfl ?_
   refine Exec.loop (fun n17 L' V' M' => ∃ (x16 : Int), L' = [(0, .v (.slice a2 ((x1).length) (k2))), (1, .v (.slice a4 ((x3).length) (k4))), (6, .v (.int .i64 (x16)))] ∧ M' = [] ∧ SlAt cTPair V' a2 k2 x1 ∧ SlAt cTPair V' a4 k4 x3 ∧ F_clockworkref06_Union_L1 x3 x1 J7 n17 x16 = some r) ⟨(((((x3).length : Nat) : Int)).toNat + 1), [(0, .v (.slice a2 ((x1).length) (k2))), (1, .v (.slice a4 ((x3).length) (k4))), (6, .v (.int .i64 ((0 : Int))))], ⟨rfl, rfl, rfl, trivial⟩, (0 : Int), rfl, rfl, h2, h4, hF⟩ ?_
   rintro n17 L' V18 M' ⟨x16, rfl, rfl, h19, h20, hF⟩
   rcases n17 with _ | n17
   ·exact absurd hF (by simp [F_clockworkref06_Union_L1])
   rw [F_clockworkref06_Union_L1] at hF
   refine xr rfl ?_
   rcases cond_some hF with ⟨hb, hF⟩ | ⟨hb, hF⟩
   ·refine Exec.ifT rfl hb ?_
    refine xr rfl ?_
    obtain ⟨q21, hF⟩ := req_some hF
    obtain ⟨c22, hr22, hd22⟩ := SlAt.get h20 q21
    obtain rfl := hr22
    refine Exec.ia tyOk rfl rfl ⟨q21.1, q21.2, hd22.some⟩ ?_
    refine xr rfl ?_
    refine Exec.ld tyOk (x := .string ⟨⟨(atI x3 x16).Key⟩⟩) rfl rfl (RdAt.part hd22 0 1 rfl) rfl rfl ?_
    refine xr rfl ?_
    obtain ⟨x23, hx23, hF⟩ := bnd_some hF
    refine Exec.callS (.bool (x23)) rfl rfl (W_clockworkref06_Has x1 ((atI x3 x16).Key) h19 hx23) ?_
    refine xr rfl ?_
    rcases cond_some hF with ⟨hb, hF⟩ | ⟨hb, hF⟩
    ·refine Exec.ifT rfl hb ?_
     refine xr rfl ?_
     obtain rfl := some_inj hF
     exact Exec.ret tyOk rfl rfl ⟨_, _, rfl, SlAt.nil⟩
    ·refine Exec.ifF rfl hb ?_
     refine xr rfl ?_
     exact Exec.round [(0, .v (.slice a2 ((x1).length) (k2))), (1, .v (.slice a4 ((x3).length) (k4))), (6, .v (.int .i64 ((IntKind.i64.wrap (x16 + (1 : Int))))))] ⟨rfl, rfl, rfl, trivial⟩ ⟨n17, Nat.lt_succ_self _, (IntKind.i64.wrap (x16 + (1 : Int))), rfl, rfl, h19, h20, hF⟩
   ·refine Exec.ifF rfl hb ?_
    refine xr rfl ?_
    exact Exec.round [(0, .v (.slice a2 ((x1).length) (k2))), (1, .v (.slice a4 ((x3).length) (k4)))] ⟨rfl, rfl, trivial⟩ ⟨rfl, rfl, h19, h20, hF⟩
def F_migrate_moving (x1 : TPlacement) (x3 : List TShard) (x5 : Int) : Option (Int × Int) :=
 (bnd (F_dist_Valid x1 x3) fun x6 => (cond (!x6) (some ((0 : Int), (1 : Int))) (bnd (F_migrate_find x1 x5) fun x7 => (cond (decide (x7 < (0 : Int))) (some ((0 : Int), (9 : Int))) (req (0 ≤ x7 ∧ x7 < ((x1.Parts).length : Int)) (cond ((atI x1.Parts x7).Dest == (0 : Int)) (some ((0 : Int), (19 : Int))) (cond (x1.Version == (1099511627776 : Int)) (some ((0 : Int), (2 : Int))) (some (x7, (0 : Int))))))))))
theorem W_migrate_moving {V : View} (x1 : TPlacement) (x3 : List TShard) (x5 : Int) {a2 : Option Addr} {k2 : Nat} {a4 : Option Addr} {k4 : Nat} (h2 : SlAt cTPart V a2 k2 x1.Parts) (h4 : SlAt cTShard V a4 k4 x3) {r : Int × Int} (hF : F_migrate_moving x1 x3 x5 = some r) :
  Spec Tryz.prog 104 [.agg ⟨[.int .i64 (x1.Version), .slice a2 ((x1.Parts).length) (k2)]⟩, .slice a4 ((x3).length) (k4), .int .i64 (x5)] V (fun _ v => v = .tuple ⟨[.int .i64 (r.1), .int .i64 (r.2)]⟩) := by
 unfold F_migrate_moving at hF
 refine Spec.enter (T := tyT) Tryz.func104 rfl (by kernel_rfl) rfl rfl rfl ?_
 refine xr rfl ?_
 obtain ⟨x6, hx6, hF⟩ := bnd_some hF
 refine Exec.callS (.bool (x6)) rfl rfl (W_dist_Valid x1 x3 h2 h4 hx6) ?_
 refine xr rfl ?_
 rcases cond_some hF with ⟨hb, hF⟩ | ⟨hb, hF⟩
 ·refine Exec.ifT rfl hb ?_
  refine xr rfl ?_
  obtain rfl := some_inj hF
  exact Exec.ret tyOk rfl rfl rfl
 ·refine Exec.ifF rfl hb ?_
  refine xr rfl ?_
  obtain ⟨x7, hx7, hF⟩ := bnd_some hF
  refine Exec.callS (.int .i64 (x7)) rfl rfl (W_migrate_find x1 x5 h2 hx7) ?_
  refine xr rfl ?_
  rcases cond_some hF with ⟨hb, hF⟩ | ⟨hb, hF⟩
  ·refine Exec.ifT rfl hb ?_
   refine xr rfl ?_
   obtain rfl := some_inj hF
   exact Exec.ret tyOk rfl rfl rfl
  ·refine Exec.ifF rfl hb ?_
   refine xr rfl ?_
   obtain ⟨q8, hF⟩ := req_some hF
   obtain ⟨c9, hr9, hd9⟩ := SlAt.get h2 q8
   obtain rfl := hr9
   refine Exec.ia tyOk rfl rfl ⟨q8.1, q8.2, hd9.some⟩ ?_
   refine xr rfl ?_
   refine Exec.ld tyOk (x := .int .i64 ((atI x1.Parts x7).Dest)) rfl rfl (RdAt.part hd9 3 1 rfl) rfl rfl ?_
   refine xr rfl ?_
   rcases cond_some hF with ⟨hb, hF⟩ | ⟨hb, hF⟩
   ·refine Exec.ifT rfl hb ?_
    refine xr rfl ?_
    obtain rfl := some_inj hF
    exact Exec.ret tyOk rfl rfl rfl
   ·refine Exec.ifF rfl hb ?_
    refine xr rfl ?_
    rcases cond_some hF with ⟨hb, hF⟩ | ⟨hb, hF⟩
    ·refine Exec.ifT rfl hb ?_
     refine xr rfl ?_
     obtain rfl := some_inj hF
     exact Exec.ret tyOk rfl rfl rfl
    ·refine Exec.ifF rfl hb ?_
     refine xr rfl ?_
     obtain rfl := some_inj hF
     exact Exec.ret tyOk rfl rfl rfl
def F_state_Slice_L1 (x1 : List TPair) (x3 : TRange) (J7 : (List TPair) → Option (List TPair)) : Nat → (List TPair) → Int → Option (List TPair)
 | 0, _, _ => none
 | n13 + 1, x11, x12 => (cond (decide (x12 < (((x1).length : Nat) : Int))) (req (0 ≤ x12 ∧ x12 < ((x1).length : Int)) (bnd (F_keys_Contains x3 ((atI x1 x12).Key)) fun x18 => (jn (fun (x20 : List TPair) => (F_state_Slice_L1 x1 x3 J7 n13 x20 ((IntKind.i64.wrap (x12 + (1 : Int)))))) (fun J21 => (cond x18 (req (((x11 ++ [(atI x1 x12)])).length * 48 ≤ 140737488355328) (J21 ((x11 ++ [(atI x1 x12)])))) (J21 x11)))))) (J7 x11))
def F_state_Slice (x1 : List TPair) (x3 : TRange) : Option (List TPair) :=
 (jn (fun (x6 : List TPair) => (some x6)) (fun J7 => (F_state_Slice_L1 x1 x3 J7 (((((x1).length : Nat) : Int)).toNat + 1) (([] : List TPair)) ((0 : Int)))))
theorem W_state_Slice {V : View} (x1 : List TPair) (x3 : TRange) {a2 : Option Addr} {k2 : Nat} (h2 : SlAt cTPair V a2 k2 x1) {r : List TPair} (hF : F_state_Slice x1 x3 = some r) :
  Spec Tryz.prog 106 [.slice a2 ((x1).length) (k2), .agg ⟨[.string ⟨⟨x3.From⟩⟩, .string ⟨⟨x3.To⟩⟩]⟩] V (fun V' v => ∃ (a26 : Option Addr) (k26 : Nat), v = .slice a26 ((r).length) (k26) ∧ SlAt cTPair V' a26 k26 r) := by
 unfold F_state_Slice at hF
 refine Spec.enter (T := tyT) Tryz.func106 rfl (by kernel_rfl) rfl rfl rfl ?_
 refine Exec.run tyOk 16 rfl ?_
 refine Exec.row0 56 4 rfl ?_
 have h4 : RowRep cTPair V ([] : List TPair) [] := RowRep.nil
 obtain ⟨J7, hJ7, hF⟩ := jn_some hF
 refine Exec.seam (fun L' V' M' => ∃ (x6 : List TPair) (a5 : Option Addr) (k5 : Nat) (cs5 : List Value), L' = [(5, .v (.slice a5 ((x6).length) (k5)))] ∧ M' = [.blk [.v (.string ⟨⟨x3.From⟩⟩), .v (.string ⟨⟨x3.To⟩⟩)] 79, .row (.slice a5 ((x6).length) (k5)) cs5 56 4] ∧ RowRep cTPair V' x6 cs5 ∧ J7 x6 = some r) rfl ?_ ?_
 ·rintro L' V8 M' ⟨x6, a5, k5, cs5, rfl, rfl, h5, hF⟩
  subst hJ7
  refine xr rfl ?_
  refine Exec.frz 1 rfl rfl rfl (fun V9 hv9 hd9 hn9 => ?_)
  have hz9 := RowRep.slat h5 hv9 hd9 hn9
  obtain rfl := some_inj hF
  exact Exec.ret tyOk rfl rfl ⟨_, _, rfl, hz9⟩
 ·refine xr rfl ?_
  refine Exec.loop (fun n13 L' V' M' => ∃ (x11 : List TPair) (a10 : Option Addr) (k10 : Nat) (cs10 : List Value) (x12 : Int), L' = [(3, .ptr 0 0), (5, .v (.slice a10 ((x11).length) (k10))), (8, .v (.slice a2 ((x1).length) (k2))), (9, .v (.int .i64 ((((x1).length : Nat) : Int)))), (10, .v (.int .i64 (x12)))] ∧ M' = [.blk [.v (.string ⟨⟨x3.From⟩⟩), .v (.string ⟨⟨x3.To⟩⟩)] 79, .row (.slice a10 ((x11).length) (k10)) cs10 56 4] ∧ RowRep cTPair V' x11 cs10 ∧ SlAt cTPair V' a2 k2 x1 ∧ F_state_Slice_L1 x1 x3 J7 n13 x11 x12 = some r) ⟨(((((x1).length : Nat) : Int)).toNat + 1), [(3, .ptr 0 0), (5, .v (.slice none ((([] : List TPair)).length) (0))), (8, .v (.slice a2 ((x1).length) (k2))), (9, .v (.int .i64 ((((x1).length : Nat) : Int)))), (10, .v (.int .i64 ((0 : Int))))], ⟨rfl, rfl, rfl, rfl, rfl, trivial⟩, ([] : List TPair), none, 0, [], (0 : Int), rfl, rfl, h4, h2, hF⟩ ?_
  rintro n13 L' V14 M' ⟨x11, a10, k10, cs10, x12, rfl, rfl, h10, h15, hF⟩
  rcases n13 with _ | n13
  ·exact absurd hF (by simp [F_state_Slice_L1])
  rw [F_state_Slice_L1] at hF
  refine xr rfl ?_
  rcases cond_some hF with ⟨hb, hF⟩ | ⟨hb, hF⟩
  ·refine Exec.ifT rfl hb ?_
   refine xr rfl ?_
   obtain ⟨q16, hF⟩ := req_some hF
   obtain ⟨c17, hr17, hd17⟩ := SlAt.get h15 q16
   obtain rfl := hr17
   refine Exec.ia tyOk rfl rfl ⟨q16.1, q16.2, hd17.some⟩ ?_
   refine xr rfl ?_
   refine Exec.ld tyOk (x := .agg ⟨[.string ⟨⟨(atI x1 x12).Key⟩⟩, .int .i64 ((atI x1 x12).Val.Kind), .int .i64 ((atI x1 x12).Val.N), .string ⟨⟨(atI x1 x12).Val.S⟩⟩]⟩) rfl rfl hd17 rfl rfl ?_
   refine xr rfl ?_
   obtain ⟨x18, hx18, hF⟩ := bnd_some hF
   refine Exec.callS (.bool (x18)) rfl rfl (W_keys_Contains x3 ((atI x1 x12).Key)  hx18) ?_
   refine xr rfl ?_
   obtain ⟨J21, hJ21, hF⟩ := jn_some hF
   refine Exec.seam (fun L' V' M' => ∃ (x20 : List TPair) (a19 : Option Addr) (k19 : Nat) (cs19 : List Value), L' = [(3, .ptr 0 0), (5, .v (.slice a19 ((x20).length) (k19))), (8, .v (.slice a2 ((x1).length) (k2))), (9, .v (.int .i64 ((((x1).length : Nat) : Int)))), (10, .v (.int .i64 (x12)))] ∧ M' = [.blk [.v (.string ⟨⟨x3.From⟩⟩), .v (.string ⟨⟨x3.To⟩⟩)] 79, .row (.slice a19 ((x20).length) (k19)) cs19 56 4] ∧ RowRep cTPair V' x20 cs19 ∧ SlAt cTPair V' a2 k2 x1 ∧ J21 x20 = some r) rfl ?_ ?_
   ·rintro L' V22 M' ⟨x20, a19, k19, cs19, rfl, rfl, h19, h23, hF⟩
    subst hJ21
    refine xr rfl ?_
    exact Exec.round [(3, .ptr 0 0), (5, .v (.slice a19 ((x20).length) (k19))), (8, .v (.slice a2 ((x1).length) (k2))), (9, .v (.int .i64 ((((x1).length : Nat) : Int)))), (10, .v (.int .i64 ((IntKind.i64.wrap (x12 + (1 : Int))))))] ⟨rfl, rfl, rfl, rfl, rfl, trivial⟩ ⟨n13, Nat.lt_succ_self _, x20, a19, k19, cs19, (IntKind.i64.wrap (x12 + (1 : Int))), rfl, rfl, h19, h23, hF⟩
   ·refine xr rfl ?_
    rcases cond_some hF with ⟨hb, hF⟩ | ⟨hb, hF⟩
    ·refine Exec.ifT rfl hb ?_
     refine xr rfl ?_
     refine Exec.bsl tyOk rfl rfl ?_
     refine xr rfl ?_
     obtain ⟨q25, hF⟩ := req_some hF
     refine Exec.app tyOk 1 3 (nm := ((x11 ++ [(atI x1 x12)])).length) rfl rfl rfl rfl rfl rfl rfl rfl rfl (by simp) (fun _ _ => rfl) rfl q25 (fun a24 k24 => ?_)
     have h24 : RowRep cTPair V14 (x11 ++ [(atI x1 x12)]) (cs10 ++ [.string ⟨⟨(atI x1 x12).Key⟩⟩, .int .i64 ((atI x1 x12).Val.Kind), .int .i64 ((atI x1 x12).Val.N), .string ⟨⟨(atI x1 x12).Val.S⟩⟩]) := RowRep.app h10 ⟨_, _, rfl, rfl, rfl⟩
     refine xr rfl ?_
     refine Exec.cut 2 [(3, .ptr 0 0), (5, .v (.slice a24 (((x11 ++ [(atI x1 x12)])).length) (k24))), (8, .v (.slice a2 ((x1).length) (k2))), (9, .v (.int .i64 ((((x1).length : Nat) : Int)))), (10, .v (.int .i64 (x12)))] (M' := [.blk [.v (.string ⟨⟨x3.From⟩⟩), .v (.string ⟨⟨x3.To⟩⟩)] 79, .row (.slice a24 (((x11 ++ [(atI x1 x12)])).length) (k24)) ((cs10 ++ [.string ⟨⟨(atI x1 x12).Key⟩⟩, .int .i64 ((atI x1 x12).Val.Kind), .int .i64 ((atI x1 x12).Val.N), .string ⟨⟨(atI x1 x12).Val.S⟩⟩])) 56 4]) rfl ⟨rfl, rfl, rfl, rfl, rfl, trivial⟩ rfl rfl rfl ?_
     exact Exec.round [(3, .ptr 0 0), (5, .v (.slice a24 (((x11 ++ [(atI x1 x12)])).length) (k24))), (8, .v (.slice a2 ((x1).length) (k2))), (9, .v (.int .i64 ((((x1).length : Nat) : Int)))), (10, .v (.int .i64 (x12)))] ⟨rfl, rfl, rfl, rfl, rfl, trivial⟩ ⟨(x11 ++ [(atI x1 x12)]), a24, k24, (cs10 ++ [.string ⟨⟨(atI x1 x12).Key⟩⟩, .int .i64 ((atI x1 x12).Val.Kind), .int .i64 ((atI x1 x12).Val.N), .string ⟨⟨(atI x1 x12).Val.S⟩⟩]), rfl, rfl, h24, h15, hF⟩
    ·refine Exec.ifF rfl hb ?_
     refine xr rfl ?_
     refine Exec.cut 2 [(3, .ptr 0 0), (5, .v (.slice a10 ((x11).length) (k10))), (8, .v (.slice a2 ((x1).length) (k2))), (9, .v (.int .i64 ((((x1).length : Nat) : Int)))), (10, .v (.int .i64 (x12)))] (M' := [.blk [.v (.string ⟨⟨x3.From⟩⟩), .v (.string ⟨⟨x3.To⟩⟩)] 79, .row (.slice a10 ((x11).length) (k10)) cs10 56 4]) rfl ⟨rfl, rfl, rfl, rfl, rfl, trivial⟩ rfl rfl rfl ?_
     exact Exec.round [(3, .ptr 0 0), (5, .v (.slice a10 ((x11).length) (k10))), (8, .v (.slice a2 ((x1).length) (k2))), (9, .v (.int .i64 ((((x1).length : Nat) : Int)))), (10, .v (.int .i64 (x12)))] ⟨rfl, rfl, rfl, rfl, rfl, trivial⟩ ⟨x11, a10, k10, cs10, rfl, rfl, h10, h15, hF⟩
  ·refine Exec.ifF rfl hb ?_
   refine xr rfl ?_
   exact Exec.round [(5, .v (.slice a10 ((x11).length) (k10)))] ⟨rfl, trivial⟩ ⟨x11, a10, k10, cs10, rfl, rfl, h10, hF⟩
def F_migrate_moved (x1 : TPlacement) (x3 : List TShard) : Option (List TShard) :=
 (bnd (F_dist_Gather x3) fun x5 => (bnd (F_dist_Load x1 x5.1) fun x10 => (some x10)))
theorem W_migrate_moved {V : View} (x1 : TPlacement) (x3 : List TShard) {a2 : Option Addr} {k2 : Nat} {a4 : Option Addr} {k4 : Nat} (h2 : SlAt cTPart V a2 k2 x1.Parts) (h4 : SlAt cTShard V a4 k4 x3) {r : List TShard} (hF : F_migrate_moved x1 x3 = some r) :
  Spec Tryz.prog 107 [.agg ⟨[.int .i64 (x1.Version), .slice a2 ((x1.Parts).length) (k2)]⟩, .slice a4 ((x3).length) (k4)] V (fun V' v => ∃ (a16 : Option Addr) (k16 : Nat), v = .slice a16 ((r).length) (k16) ∧ SlAt cTShard V' a16 k16 r) := by
 unfold F_migrate_moved at hF
 refine Spec.enter (T := tyT) Tryz.func107 rfl (by kernel_rfl) rfl rfl rfl ?_
 refine xr rfl ?_
 obtain ⟨x5, hx5, hF⟩ := bnd_some hF
 refine Exec.call rfl rfl (W_dist_Gather x3 h4 hx5) ?_
 rintro V7 _ hv7 ⟨a6, k6, rfl, h6⟩
 have h8 := SlAt.mono h2 hv7
 have h9 := SlAt.mono h4 hv7
 refine xr rfl ?_
 obtain ⟨x10, hx10, hF⟩ := bnd_some hF
 refine Exec.call rfl rfl (W_dist_Load x1 x5.1 h8 h6 hx10) ?_
 rintro V12 _ hv12 ⟨a11, k11, rfl, h11⟩
 have h13 := SlAt.mono h8 hv12
 have h14 := SlAt.mono h9 hv12
 have h15 := SlAt.mono h6 hv12
 refine xr rfl ?_
 obtain rfl := some_inj hF
 exact Exec.ret tyOk rfl rfl ⟨_, _, rfl, h11⟩
def F_clockworkref35_Sizes_L2 (x18 : Int) (x3 : List TShard) (x1 : TPlacement) (J25 : (List Int) → Option (List Int)) : Nat → (List Int) → Int → Option (List Int)
 | 0, _, _ => none
 | n32 + 1, x30, x31 => (req (0 ≤ x18 ∧ x18 < ((x3).length : Int)) (cond (decide (x31 < ((((atI x3 x18).Pairs).length : Nat) : Int))) (req (0 ≤ x18 ∧ x18 < ((x3).length : Int)) (req (0 ≤ x31 ∧ x31 < (((atI x3 x18).Pairs).length : Int)) (bnd (F_clockworkref29_Index x1 ((atI ((atI x3 x18).Pairs) x31).Key)) fun x44 => (req (0 ≤ x44 ∧ x44 < ((x30).length : Int)) (req (0 ≤ x44 ∧ x44 < ((x30).length : Int)) (F_clockworkref35_Sizes_L2 x18 x3 x1 J25 n32 ((x30.set (x44).toNat ((IntKind.i64.wrap ((atI x30 x44) + (1 : Int)))))) ((IntKind.i64.wrap (x31 + (1 : Int)))))))))) (J25 x30)))
def F_clockworkref35_Sizes_L1 (x3 : List TShard) (x1 : TPlacement) (J11 : (List Int) → Option (List Int)) : Nat → (List Int) → Int → Option (List Int)
 | 0, _, _ => none
 | n19 + 1, x17, x18 => (cond (decide (x18 < (((x3).length : Nat) : Int))) (jn (fun (x24 : List Int) => (F_clockworkref35_Sizes_L1 x3 x1 J11 n19 x24 ((IntKind.i64.wrap (x18 + (1 : Int)))))) (fun J25 => (F_clockworkref35_Sizes_L2 x18 x3 x1 J25 (1000000 : Nat) x17 ((0 : Int))))) (J11 x17))
def F_clockworkref35_Sizes (x1 : TPlacement) (x3 : List TShard) : Option (List Int) :=
 (bnd (F_clockworkref32_Valid x1 x3) fun x5 => (cond (!x5) (some ([] : List Int)) (req (0 ≤ (((x1.Parts).length : Nat) : Int) ∧ (((x1.Parts).length : Nat) : Int) ≤ (((x1.Parts).length : Nat) : Int)) (req (8 * ((((x1.Parts).length : Nat) : Int)).toNat ≤ 281474976710656) (jn (fun (x10 : List Int) => (some x10)) (fun J11 => (F_clockworkref35_Sizes_L1 x3 x1 J11 (((((x3).length : Nat) : Int)).toNat + 1) ((List.replicate ((((x1.Parts).length : Nat) : Int)).toNat (default : Int))) ((0 : Int)))))))))
theorem W_clockworkref35_Sizes {V : View} (x1 : TPlacement) (x3 : List TShard) {a2 : Option Addr} {k2 : Nat} {a4 : Option Addr} {k4 : Nat} (h2 : SlAt cTPart V a2 k2 x1.Parts) (h4 : SlAt cTShard V a4 k4 x3) {r : List Int} (hF : F_clockworkref35_Sizes x1 x3 = some r) :
  Spec Tryz.prog 16 [.agg ⟨[.int .i64 (x1.Version), .slice a2 ((x1.Parts).length) (k2)]⟩, .slice a4 ((x3).length) (k4)] V (fun V' v => ∃ (a52 : Option Addr) (k52 : Nat), v = .slice a52 ((r).length) (k52) ∧ SlAt (cInt .i64) V' a52 k52 r) := by
 unfold F_clockworkref35_Sizes at hF
 refine Spec.enter (T := tyT) Tryz.func16 rfl (by kernel_rfl) rfl rfl rfl ?_
 refine xr rfl ?_
 obtain ⟨x5, hx5, hF⟩ := bnd_some hF
 refine Exec.callS (.bool (x5)) rfl rfl (W_clockworkref32_Valid x1 x3 h2 h4 hx5) ?_
 refine xr rfl ?_
 rcases cond_some hF with ⟨hb, hF⟩ | ⟨hb, hF⟩
 ·refine Exec.ifT rfl hb ?_
  refine xr rfl ?_
  obtain rfl := some_inj hF
  exact Exec.ret tyOk rfl rfl ⟨_, _, rfl, SlAt.nil⟩
 ·refine Exec.ifF rfl hb ?_
  refine xr rfl ?_
  obtain ⟨q6, hF⟩ := req_some hF
  obtain ⟨q7, hF⟩ := req_some hF
  refine Exec.mkr tyOk rfl rfl rfl rfl (nm := ((List.replicate ((((x1.Parts).length : Nat) : Int)).toNat (default : Int))).length) (by simp) q6 q7 (fun _ => rfl) (fun a8 => ?_)
  have h8 : RowRep (cInt .i64) V (List.replicate ((((x1.Parts).length : Nat) : Int)).toNat (default : Int)) ((List.replicate ((List.replicate ((((x1.Parts).length : Nat) : Int)).toNat (default : Int))).length [.int .i64 (0)]).flatten) := by rw [List.length_replicate]; exact RowRep.reps (c := (cInt .i64)) rfl _
  refine Exec.run tyOk 7 rfl ?_
  obtain ⟨J11, hJ11, hF⟩ := jn_some hF
  refine Exec.seam (fun L' V' M' => ∃ (x10 : List Int) (a9 : Option Addr) (k9 : Nat) (cs9 : List Value), L' = [(5, .v (.slice a9 ((x10).length) (k9)))] ∧ M' = [.blk [.v (.int .i64 (x1.Version)), .v (.slice a2 ((x1.Parts).length) (k2))] 24, .row (.slice a9 ((x10).length) (k9)) cs9 3 1] ∧ RowRep (cInt .i64) V' x10 cs9 ∧ SlAt cTPart V' a2 k2 x1.Parts ∧ J11 x10 = some r) rfl ?_ ?_
  ·rintro L' V12 M' ⟨x10, a9, k9, cs9, rfl, rfl, h9, h13, hF⟩
   subst hJ11
   refine xr rfl ?_
   refine Exec.frz 1 rfl rfl rfl (fun V14 hv14 hd14 hn14 => ?_)
   have hz14 := RowRep.slat h9 hv14 hd14 hn14
   have h15 := SlAt.mono h13 hv14
   obtain rfl := some_inj hF
   exact Exec.ret tyOk rfl rfl ⟨_, _, rfl, hz14⟩
  ·refine xr rfl ?_
   refine Exec.loop (fun n19 L' V' M' => ∃ (x17 : List Int) (a16 : Option Addr) (k16 : Nat) (cs16 : List Value) (x18 : Int), L' = [(1, .v (.slice a4 ((x3).length) (k4))), (2, .ptr 0 0), (5, .v (.slice a16 ((x17).length) (k16))), (6, .v (.int .i64 (x18)))] ∧ M' = [.blk [.v (.int .i64 (x1.Version)), .v (.slice a2 ((x1.Parts).length) (k2))] 24, .row (.slice a16 ((x17).length) (k16)) cs16 3 1] ∧ RowRep (cInt .i64) V' x17 cs16 ∧ SlAt cTShard V' a4 k4 x3 ∧ SlAt cTPart V' a2 k2 x1.Parts ∧ F_clockworkref35_Sizes_L1 x3 x1 J11 n19 x17 x18 = some r) ⟨(((((x3).length : Nat) : Int)).toNat + 1), [(1, .v (.slice a4 ((x3).length) (k4))), (2, .ptr 0 0), (5, .v (.slice ((some a8)) (((List.replicate ((((x1.Parts).length : Nat) : Int)).toNat (default : Int))).length) (((((x1.Parts).length : Nat) : Int)).toNat))), (6, .v (.int .i64 ((0 : Int))))], ⟨rfl, rfl, rfl, rfl, trivial⟩, (List.replicate ((((x1.Parts).length : Nat) : Int)).toNat (default : Int)), (some a8), ((((x1.Parts).length : Nat) : Int)).toNat, ((List.replicate ((List.replicate ((((x1.Parts).length : Nat) : Int)).toNat (default : Int))).length [.int .i64 (0)]).flatten), (0 : Int), rfl, rfl, h8, h4, h2, hF⟩ ?_
   rintro n19 L' V20 M' ⟨x17, a16, k16, cs16, x18, rfl, rfl, h16, h21, h22, hF⟩
   rcases n19 with _ | n19
   ·exact absurd hF (by simp [F_clockworkref35_Sizes_L1])
   rw [F_clockworkref35_Sizes_L1] at hF
   refine xr rfl ?_
   rcases cond_some hF with ⟨hb, hF⟩ | ⟨hb, hF⟩
   ·refine Exec.ifT rfl hb ?_
    refine Exec.run tyOk 7 rfl ?_
    obtain ⟨J25, hJ25, hF⟩ := jn_some hF
    refine Exec.seam (fun L' V' M' => ∃ (x24 : List Int) (a23 : Option Addr) (k23 : Nat) (cs23 : List Value), L' = [(1, .v (.slice a4 ((x3).length) (k4))), (2, .ptr 0 0), (5, .v (.slice a23 ((x24).length) (k23))), (6, .v (.int .i64 (x18)))] ∧ M' = [.blk [.v (.int .i64 (x1.Version)), .v (.slice a2 ((x1.Parts).length) (k2))] 24, .row (.slice a23 ((x24).length) (k23)) cs23 3 1] ∧ RowRep (cInt .i64) V' x24 cs23 ∧ SlAt cTShard V' a4 k4 x3 ∧ SlAt cTPart V' a2 k2 x1.Parts ∧ J25 x24 = some r) rfl ?_ ?_
    ·rintro L' V26 M' ⟨x24, a23, k23, cs23, rfl, rfl, h23, h27, h28, hF⟩
     subst hJ25
     refine xr rfl ?_
     exact Exec.round [(1, .v (.slice a4 ((x3).length) (k4))), (2, .ptr 0 0), (5, .v (.slice a23 ((x24).length) (k23))), (6, .v (.int .i64 ((IntKind.i64.wrap (x18 + (1 : Int))))))] ⟨rfl, rfl, rfl, rfl, trivial⟩ ⟨n19, Nat.lt_succ_self _, x24, a23, k23, cs23, (IntKind.i64.wrap (x18 + (1 : Int))), rfl, rfl, h23, h27, h28, hF⟩
    ·refine xr rfl ?_
     refine Exec.loop (fun n32 L' V' M' => ∃ (x30 : List Int) (a29 : Option Addr) (k29 : Nat) (cs29 : List Value) (x31 : Int), L' = [(1, .v (.slice a4 ((x3).length) (k4))), (2, .ptr 0 0), (5, .v (.slice a29 ((x30).length) (k29))), (6, .v (.int .i64 (x18))), (7, .v (.int .i64 (x31)))] ∧ M' = [.blk [.v (.int .i64 (x1.Version)), .v (.slice a2 ((x1.Parts).length) (k2))] 24, .row (.slice a29 ((x30).length) (k29)) cs29 3 1] ∧ RowRep (cInt .i64) V' x30 cs29 ∧ SlAt cTShard V' a4 k4 x3 ∧ SlAt cTPart V' a2 k2 x1.Parts ∧ F_clockworkref35_Sizes_L2 x18 x3 x1 J25 n32 x30 x31 = some r) ⟨(1000000 : Nat), [(1, .v (.slice a4 ((x3).length) (k4))), (2, .ptr 0 0), (5, .v (.slice a16 ((x17).length) (k16))), (6, .v (.int .i64 (x18))), (7, .v (.int .i64 ((0 : Int))))], ⟨rfl, rfl, rfl, rfl, rfl, trivial⟩, x17, a16, k16, cs16, (0 : Int), rfl, rfl, h16, h21, h22, hF⟩ ?_
     rintro n32 L' V33 M' ⟨x30, a29, k29, cs29, x31, rfl, rfl, h29, h34, h35, hF⟩
     rcases n32 with _ | n32
     ·exact absurd hF (by simp [F_clockworkref35_Sizes_L2])
     rw [F_clockworkref35_Sizes_L2] at hF
     refine xr rfl ?_
     obtain ⟨q36, hF⟩ := req_some hF
     obtain ⟨c37, hr37, hd37⟩ := SlAt.get h34 q36
     obtain ⟨a38, k38, rfl, h38⟩ := hr37
     refine Exec.ia tyOk rfl rfl ⟨q36.1, q36.2, hd37.some⟩ ?_
     refine xr rfl ?_
     refine Exec.ld tyOk (x := .slice a38 (((atI x3 x18).Pairs).length) (k38)) rfl rfl (RdAt.part hd37 1 1 rfl) rfl rfl ?_
     refine xr rfl ?_
     rcases cond_some hF with ⟨hb, hF⟩ | ⟨hb, hF⟩
     ·refine Exec.ifT rfl hb ?_
      refine xr rfl ?_
      refine Exec.draws tyOk [(0, true), (1, true), (2, true), (3, true), (4, true), (5, true), (6, true), (7, true), (8, true), (9, true), (10, false), (11, false)] rfl (by kernel_rfl) ?_
      refine xr rfl ?_
      obtain ⟨q39, hF⟩ := req_some hF
      obtain ⟨c40, hr40, hd40⟩ := SlAt.get h34 q39
      obtain ⟨a41, k41, rfl, h41⟩ := hr40
      refine Exec.fia tyOk rfl rfl rfl ⟨q39.1, q39.2, hd40.some⟩ ?_
      refine xr rfl ?_
      refine Exec.fld tyOk (x := .slice a41 (((atI x3 x18).Pairs).length) (k41)) rfl rfl rfl (RdAt.part hd40 1 1 rfl) rfl rfl ?_
      refine xr rfl ?_
      obtain ⟨q42, hF⟩ := req_some hF
      obtain ⟨c43, hr43, hd43⟩ := SlAt.get h41 q42
      obtain rfl := hr43
      refine Exec.fia tyOk rfl rfl rfl ⟨q42.1, q42.2, hd43.some⟩ ?_
      refine xr rfl ?_
      refine Exec.fld tyOk (x := .string ⟨⟨(atI ((atI x3 x18).Pairs) x31).Key⟩⟩) rfl rfl rfl (RdAt.part hd43 0 1 rfl) rfl rfl ?_
      refine xr rfl ?_
      obtain ⟨x44, hx44, hF⟩ := bnd_some hF
      refine Exec.callS (.int .i64 (x44)) rfl rfl (W_clockworkref29_Index x1 ((atI ((atI x3 x18).Pairs) x31).Key) h35 hx44) ?_
      refine xr rfl ?_
      obtain ⟨q45, hF⟩ := req_some hF
      refine Exec.rowI 1 rfl (fun ra46 rb46 rc46 => ?_)
      obtain ⟨c47, hr47, hd47⟩ := RowRep.get h29 q45
      obtain rfl := hr47
      have rd46 : 0 ≤ x44 ∧ x44 < (((x30).length : Nat) : Int) := q45
      have rs46 := rb46 (by omega)
      refine Exec.ia tyOk rfl rfl ⟨rd46.1, rd46.2, rs46⟩ ?_
      refine xr rfl ?_
      refine Exec.ldR tyOk 1 (x := .int .i64 ((atI x30 x44))) rfl rfl rfl ⟨hd47, rs46⟩ rfl rfl ?_
      refine xr rfl ?_
      obtain ⟨q48, hF⟩ := req_some hF
      refine Exec.rowI 1 rfl (fun ra49 rb49 rc49 => ?_)
      obtain ⟨c50, hr50, hd50⟩ := RowRep.get h29 q48
      obtain rfl := hr50
      have rd49 : 0 ≤ x44 ∧ x44 < (((x30).length : Nat) : Int) := q48
      have rs49 := rb49 (by omega)
      refine Exec.ia tyOk rfl rfl ⟨rd49.1, rd49.2, rs49⟩ ?_
      refine xr rfl ?_
      have rl51 := RowRep.len h29
      have h51 : RowRep (cInt .i64) V33 (x30.set (x44).toNat ((IntKind.i64.wrap ((atI x30 x44) + (1 : Int))))) (cs29.take ((x44).toNat * 1) ++ [.int .i64 ((IntKind.i64.wrap ((atI x30 x44) + (1 : Int))))] ++ cs29.drop (((x44).toNat * 1) + 1)) := RowRep.set h29 q48 rfl
      refine Exec.stR tyOk 1 rfl rfl rfl rfl rfl rs49 (stB q48 rl51) rfl rfl rfl ?_
      refine xr rfl ?_
      exact Exec.round [(1, .v (.slice a4 ((x3).length) (k4))), (2, .ptr 0 0), (5, .v (.slice a29 (((x30.set (x44).toNat ((IntKind.i64.wrap ((atI x30 x44) + (1 : Int)))))).length) (k29))), (6, .v (.int .i64 (x18))), (7, .v (.int .i64 ((IntKind.i64.wrap (x31 + (1 : Int))))))] ⟨rfl, rfl, look_eq rfl (by simp), rfl, rfl, trivial⟩ ⟨n32, Nat.lt_succ_self _, (x30.set (x44).toNat ((IntKind.i64.wrap ((atI x30 x44) + (1 : Int))))), a29, k29, (cs29.take ((x44).toNat * 1) ++ [.int .i64 ((IntKind.i64.wrap ((atI x30 x44) + (1 : Int))))] ++ cs29.drop (((x44).toNat * 1) + 1)), (IntKind.i64.wrap (x31 + (1 : Int))), rfl, (by simp), h51, h34, h35, hF⟩
     ·refine Exec.ifF rfl hb ?_
      refine xr rfl ?_
      exact Exec.round [(1, .v (.slice a4 ((x3).length) (k4))), (2, .ptr 0 0), (5, .v (.slice a29 ((x30).length) (k29))), (6, .v (.int .i64 (x18)))] ⟨rfl, rfl, rfl, rfl, trivial⟩ ⟨x30, a29, k29, cs29, rfl, rfl, h29, h34, h35, hF⟩
   ·refine Exec.ifF rfl hb ?_
    refine xr rfl ?_
    exact Exec.round [(5, .v (.slice a16 ((x17).length) (k16)))] ⟨rfl, trivial⟩ ⟨x17, a16, k16, cs16, rfl, rfl, h16, h22, hF⟩
def F_rebalance_board_split (x1 : Tboard) : Option (TPlacement × List TShard × Int) :=
 (bnd (F_placement_Split ((⟨x1.p.Version, x1.p.Parts⟩ : TPlacement)) x1.m.Part x1.m.Key x1.m.New) fun x4 => (bnd (F_rebalance_board_loaded x1 x4.1 x4.2) fun x9 => (some (x9.1, x9.2.1, x9.2.2))))
theorem W_rebalance_board_split {V : View} (x1 : Tboard) {a2 : Option Addr} {k2 : Nat} {a3 : Option Addr} {k3 : Nat} (h2 : SlAt cTPart V a2 k2 x1.p.Parts) (h3 : SlAt cTShard V a3 k3 x1.l) {r : TPlacement × List TShard × Int} (hF : F_rebalance_board_split x1 = some r) :
  Spec Tryz.prog 26 [.agg ⟨[.int .i64 (x1.p.Version), .slice a2 ((x1.p.Parts).length) (k2), .slice a3 ((x1.l).length) (k3), .int .i64 (x1.m.Kind), .int .i64 (x1.m.Part), .int .i64 (x1.m.New), .int .i64 (x1.m.Node), .int .i64 (x1.m.N), .string ⟨⟨x1.m.Key⟩⟩]⟩] V (fun V' v => ∃ (a16 : Option Addr) (k16 : Nat) (a17 : Option Addr) (k17 : Nat), v = .tuple ⟨[.agg ⟨[.int .i64 (r.1.Version), .slice a16 ((r.1.Parts).length) (k16)]⟩, .slice a17 ((r.2.1).length) (k17), .int .i64 (r.2.2)]⟩ ∧ SlAt cTPart V' a16 k16 r.1.Parts ∧ SlAt cTShard V' a17 k17 r.2.1) := by
 unfold F_rebalance_board_split at hF
 refine Spec.enter (T := tyT) Tryz.func26 rfl (by kernel_rfl) rfl rfl rfl ?_
 refine xr rfl ?_
 refine Exec.draws tyOk [(0, true), (1, true), (2, true), (3, true), (4, true), (5, true), (6, true), (7, true), (8, true), (9, true), (10, true), (11, true), (12, false), (13, true), (14, false), (15, false), (16, true), (17, true), (18, false), (19, false), (20, false), (21, false)] rfl (by kernel_rfl) ?_
 refine xr rfl ?_
 obtain ⟨x4, hx4, hF⟩ := bnd_some hF
 refine Exec.call rfl rfl (W_placement_Split ((⟨x1.p.Version, x1.p.Parts⟩ : TPlacement)) x1.m.Part x1.m.Key x1.m.New h2 hx4) ?_
 rintro V6 _ hv6 ⟨a5, k5, rfl, h5⟩
 have h7 := SlAt.mono h2 hv6
 have h8 := SlAt.mono h3 hv6
 refine xr rfl ?_
 obtain ⟨x9, hx9, hF⟩ := bnd_some hF
 refine Exec.call rfl rfl (W_rebalance_board_loaded x1 x4.1 x4.2 h7 h8 h5 hx9) ?_
 rintro V12 _ hv12 ⟨a10, k10, a11, k11, rfl, h10, h11⟩
 have h13 := SlAt.mono h7 hv12
 have h14 := SlAt.mono h8 hv12
 have h15 := SlAt.mono h5 hv12
 refine xr rfl ?_
 obtain rfl := some_inj hF
 exact Exec.ret tyOk rfl rfl ⟨_, _, _, _, rfl, h10, h11⟩
def F_rebalance_board_merge (x1 : Tboard) : Option (TPlacement × List TShard × Int) :=
 (bnd (F_placement_Merge ((⟨x1.p.Version, x1.p.Parts⟩ : TPlacement)) x1.m.Part) fun x4 => (bnd (F_rebalance_board_loaded x1 x4.1 x4.2) fun x9 => (some (x9.1, x9.2.1, x9.2.2))))
theorem W_rebalance_board_merge {V : View} (x1 : Tboard) {a2 : Option Addr} {k2 : Nat} {a3 : Option Addr} {k3 : Nat} (h2 : SlAt cTPart V a2 k2 x1.p.Parts) (h3 : SlAt cTShard V a3 k3 x1.l) {r : TPlacement × List TShard × Int} (hF : F_rebalance_board_merge x1 = some r) :
  Spec Tryz.prog 27 [.agg ⟨[.int .i64 (x1.p.Version), .slice a2 ((x1.p.Parts).length) (k2), .slice a3 ((x1.l).length) (k3), .int .i64 (x1.m.Kind), .int .i64 (x1.m.Part), .int .i64 (x1.m.New), .int .i64 (x1.m.Node), .int .i64 (x1.m.N), .string ⟨⟨x1.m.Key⟩⟩]⟩] V (fun V' v => ∃ (a16 : Option Addr) (k16 : Nat) (a17 : Option Addr) (k17 : Nat), v = .tuple ⟨[.agg ⟨[.int .i64 (r.1.Version), .slice a16 ((r.1.Parts).length) (k16)]⟩, .slice a17 ((r.2.1).length) (k17), .int .i64 (r.2.2)]⟩ ∧ SlAt cTPart V' a16 k16 r.1.Parts ∧ SlAt cTShard V' a17 k17 r.2.1) := by
 unfold F_rebalance_board_merge at hF
 refine Spec.enter (T := tyT) Tryz.func27 rfl (by kernel_rfl) rfl rfl rfl ?_
 refine xr rfl ?_
 refine Exec.draws tyOk [(0, true), (1, true), (2, true), (3, true), (4, true), (5, true), (6, false), (7, true), (8, false), (9, false), (10, true), (11, true), (12, false), (13, false), (14, false), (15, false)] rfl (by kernel_rfl) ?_
 refine xr rfl ?_
 obtain ⟨x4, hx4, hF⟩ := bnd_some hF
 refine Exec.call rfl rfl (W_placement_Merge ((⟨x1.p.Version, x1.p.Parts⟩ : TPlacement)) x1.m.Part h2 hx4) ?_
 rintro V6 _ hv6 ⟨a5, k5, rfl, h5⟩
 have h7 := SlAt.mono h2 hv6
 have h8 := SlAt.mono h3 hv6
 refine xr rfl ?_
 obtain ⟨x9, hx9, hF⟩ := bnd_some hF
 refine Exec.call rfl rfl (W_rebalance_board_loaded x1 x4.1 x4.2 h7 h8 h5 hx9) ?_
 rintro V12 _ hv12 ⟨a10, k10, a11, k11, rfl, h10, h11⟩
 have h13 := SlAt.mono h7 hv12
 have h14 := SlAt.mono h8 hv12
 have h15 := SlAt.mono h5 hv12
 refine xr rfl ?_
 obtain rfl := some_inj hF
 exact Exec.ret tyOk rfl rfl ⟨_, _, _, _, rfl, h10, h11⟩
def F_rebalance_board_move (x1 : Tboard) : Option (TPlacement × List TShard × Int) :=
 (bnd (F_migrate_Start ((⟨x1.p.Version, x1.p.Parts⟩ : TPlacement)) x1.m.Part x1.m.Node) fun x4 => (bnd (F_rebalance_board_loaded x1 x4.1 x4.2) fun x9 => (some (x9.1, x9.2.1, x9.2.2))))
theorem W_rebalance_board_move {V : View} (x1 : Tboard) {a2 : Option Addr} {k2 : Nat} {a3 : Option Addr} {k3 : Nat} (h2 : SlAt cTPart V a2 k2 x1.p.Parts) (h3 : SlAt cTShard V a3 k3 x1.l) {r : TPlacement × List TShard × Int} (hF : F_rebalance_board_move x1 = some r) :
  Spec Tryz.prog 28 [.agg ⟨[.int .i64 (x1.p.Version), .slice a2 ((x1.p.Parts).length) (k2), .slice a3 ((x1.l).length) (k3), .int .i64 (x1.m.Kind), .int .i64 (x1.m.Part), .int .i64 (x1.m.New), .int .i64 (x1.m.Node), .int .i64 (x1.m.N), .string ⟨⟨x1.m.Key⟩⟩]⟩] V (fun V' v => ∃ (a16 : Option Addr) (k16 : Nat) (a17 : Option Addr) (k17 : Nat), v = .tuple ⟨[.agg ⟨[.int .i64 (r.1.Version), .slice a16 ((r.1.Parts).length) (k16)]⟩, .slice a17 ((r.2.1).length) (k17), .int .i64 (r.2.2)]⟩ ∧ SlAt cTPart V' a16 k16 r.1.Parts ∧ SlAt cTShard V' a17 k17 r.2.1) := by
 unfold F_rebalance_board_move at hF
 refine Spec.enter (T := tyT) Tryz.func28 rfl (by kernel_rfl) rfl rfl rfl ?_
 refine xr rfl ?_
 refine Exec.draws tyOk [(0, true), (1, true), (2, true), (3, true), (4, true), (5, true), (6, true), (7, true), (8, true), (9, false), (10, true), (11, false), (12, false), (13, true), (14, true), (15, false), (16, false), (17, false), (18, false)] rfl (by kernel_rfl) ?_
 refine xr rfl ?_
 obtain ⟨x4, hx4, hF⟩ := bnd_some hF
 refine Exec.call rfl rfl (W_migrate_Start ((⟨x1.p.Version, x1.p.Parts⟩ : TPlacement)) x1.m.Part x1.m.Node h2 hx4) ?_
 rintro V6 _ hv6 ⟨a5, k5, rfl, h5⟩
 have h7 := SlAt.mono h2 hv6
 have h8 := SlAt.mono h3 hv6
 refine xr rfl ?_
 obtain ⟨x9, hx9, hF⟩ := bnd_some hF
 refine Exec.call rfl rfl (W_rebalance_board_loaded x1 x4.1 x4.2 h7 h8 h5 hx9) ?_
 rintro V12 _ hv12 ⟨a10, k10, a11, k11, rfl, h10, h11⟩
 have h13 := SlAt.mono h7 hv12
 have h14 := SlAt.mono h8 hv12
 have h15 := SlAt.mono h5 hv12
 refine xr rfl ?_
 obtain rfl := some_inj hF
 exact Exec.ret tyOk rfl rfl ⟨_, _, _, _, rfl, h10, h11⟩
def F_clockworkref32_Gather_L1 (x1 : List TShard) (J8 : (List TPair) → Option (List TPair × Int)) : Nat → (List TPair) → Int → Option (List TPair × Int)
 | 0, _, _ => none
 | n13 + 1, x10, x12 => (cond (decide (x12 < (((x1).length : Nat) : Int))) (req (0 ≤ x12 ∧ x12 < ((x1).length : Int)) (bnd (F_clockworkref06_Union x10 ((atI x1 x12).Pairs)) fun x19 => (cond (x19.2 != (0 : Int)) (some (([] : List TPair), x19.2)) (F_clockworkref32_Gather_L1 x1 J8 n13 x19.1 ((IntKind.i64.wrap (x12 + (1 : Int)))))))) (J8 x10))
def F_clockworkref32_Gather_L2 (x1 : List TShard) (J3 : Option (List TPair × Int)) : Nat → Int → Option (List TPair × Int)
 | 0, _ => none
 | n27 + 1, x26 => (cond (decide (x26 < (((x1).length : Nat) : Int))) (req ((((decide ((0 : Int) < x26))) == true) = true → 0 ≤ x26 ∧ x26 < ((x1).length : Int)) (req ((((decide ((0 : Int) < x26))) == true) = true → 0 ≤ (IntKind.i64.wrap (x26 - (1 : Int))) ∧ (IntKind.i64.wrap (x26 - (1 : Int))) < ((x1).length : Int)) (req (((((decide ((0 : Int) < x26)) && (decide ((cond (((decide ((0 : Int) < x26))) == true) (atI x1 x26) default).Node ≤ (cond (((decide ((0 : Int) < x26))) == true) (atI x1 ((IntKind.i64.wrap (x26 - (1 : Int))))) default).Node)))) == false) = true → 0 ≤ x26 ∧ x26 < ((x1).length : Int)) (bnd (gcall ((((decide ((0 : Int) < x26)) && (decide ((cond (((decide ((0 : Int) < x26))) == true) (atI x1 x26) default).Node ≤ (cond (((decide ((0 : Int) < x26))) == true) (atI x1 ((IntKind.i64.wrap (x26 - (1 : Int))))) default).Node)))) == false) (F_clockworkref06_Valid ((cond ((((decide ((0 : Int) < x26)) && (decide ((cond (((decide ((0 : Int) < x26))) == true) (atI x1 x26) default).Node ≤ (cond (((decide ((0 : Int) < x26))) == true) (atI x1 ((IntKind.i64.wrap (x26 - (1 : Int))))) default).Node)))) == false) (atI x1 x26) default).Pairs))) fun x39 => (cond (((decide ((0 : Int) < x26)) && (decide ((cond (((decide ((0 : Int) < x26))) == true) (atI x1 x26) default).Node ≤ (cond (((decide ((0 : Int) < x26))) == true) (atI x1 ((IntKind.i64.wrap (x26 - (1 : Int))))) default).Node))) || (!x39)) (some (([] : List TPair), (1 : Int))) (F_clockworkref32_Gather_L2 x1 J3 n27 ((IntKind.i64.wrap (x26 + (1 : Int)))))))))) J3)
def F_clockworkref32_Gather (x1 : List TShard) : Option (List TPair × Int) :=
 (jn ((jn (fun (x6 : List TPair) => (some (x6, (0 : Int)))) (fun J8 => (F_clockworkref32_Gather_L1 x1 J8 (((((x1).length : Nat) : Int)).toNat + 1) (([] : List TPair)) ((0 : Int)))))) (fun J3 => (F_clockworkref32_Gather_L2 x1 J3 (((((x1).length : Nat) : Int)).toNat + 1) ((0 : Int)))))
theorem W_clockworkref32_Gather {V : View} (x1 : List TShard) {a2 : Option Addr} {k2 : Nat} (h2 : SlAt cTShard V a2 k2 x1) {r : List TPair × Int} (hF : F_clockworkref32_Gather x1 = some r) :
  Spec Tryz.prog 46 [.slice a2 ((x1).length) (k2)] V (fun V' v => ∃ (a40 : Option Addr) (k40 : Nat), v = .tuple ⟨[.slice a40 ((r.1).length) (k40), .int .i64 (r.2)]⟩ ∧ SlAt cTPair V' a40 k40 r.1) := by
 unfold F_clockworkref32_Gather at hF
 refine Spec.enter (T := tyT) Tryz.func46 rfl (by kernel_rfl) rfl rfl rfl ?_
 refine Exec.run tyOk 10 rfl ?_
 obtain ⟨J3, hJ3, hF⟩ := jn_some hF
 refine Exec.seam (fun L' V' M' => L' = [(0, .v (.slice a2 ((x1).length) (k2)))] ∧ M' = [] ∧ SlAt cTShard V' a2 k2 x1 ∧ J3 = some r) rfl ?_ ?_
 ·rintro L' V4 M' ⟨rfl, rfl, h5, hF⟩
  subst hJ3
  refine Exec.run tyOk 9 rfl ?_
  obtain ⟨J8, hJ8, hF⟩ := jn_some hF
  refine Exec.seam (fun L' V' M' => ∃ (x6 : List TPair) (a7 : Option Addr) (k7 : Nat), L' = [(5, .v (.slice a7 ((x6).length) (k7)))] ∧ M' = [] ∧ SlAt cTPair V' a7 k7 x6 ∧ J8 x6 = some r) rfl ?_ ?_
  ·rintro L' V9 M' ⟨x6, a7, k7, rfl, rfl, h7, hF⟩
   subst hJ8
   refine xr rfl ?_
   obtain rfl := some_inj hF
   exact Exec.ret tyOk rfl rfl ⟨_, _, rfl, h7⟩
  ·refine xr rfl ?_
   refine Exec.loop (fun n13 L' V' M' => ∃ (x10 : List TPair) (a11 : Option Addr) (k11 : Nat) (x12 : Int), L' = [(0, .v (.slice a2 ((x1).length) (k2))), (5, .v (.slice a11 ((x10).length) (k11))), (6, .v (.int .i64 (x12)))] ∧ M' = [] ∧ SlAt cTPair V' a11 k11 x10 ∧ SlAt cTShard V' a2 k2 x1 ∧ F_clockworkref32_Gather_L1 x1 J8 n13 x10 x12 = some r) ⟨(((((x1).length : Nat) : Int)).toNat + 1), [(0, .v (.slice a2 ((x1).length) (k2))), (5, .v (.slice none (0) (0))), (6, .v (.int .i64 ((0 : Int))))], ⟨rfl, rfl, rfl, trivial⟩, ([] : List TPair), none, 0, (0 : Int), rfl, rfl, SlAt.nil, h5, hF⟩ ?_
   rintro n13 L' V14 M' ⟨x10, a11, k11, x12, rfl, rfl, h11, h15, hF⟩
   rcases n13 with _ | n13
   ·exact absurd hF (by simp [F_clockworkref32_Gather_L1])
   rw [F_clockworkref32_Gather_L1] at hF
   refine xr rfl ?_
   rcases cond_some hF with ⟨hb, hF⟩ | ⟨hb, hF⟩
   ·refine Exec.ifT rfl hb ?_
    refine xr rfl ?_
    obtain ⟨q16, hF⟩ := req_some hF
    obtain ⟨c17, hr17, hd17⟩ := SlAt.get h15 q16
    obtain ⟨a18, k18, rfl, h18⟩ := hr17
    refine Exec.ia tyOk rfl rfl ⟨q16.1, q16.2, hd17.some⟩ ?_
    refine xr rfl ?_
    refine Exec.ld tyOk (x := .slice a18 (((atI x1 x12).Pairs).length) (k18)) rfl rfl (RdAt.part hd17 1 1 rfl) rfl rfl ?_
    refine xr rfl ?_
    obtain ⟨x19, hx19, hF⟩ := bnd_some hF
    refine Exec.call rfl rfl (W_clockworkref06_Union x10 ((atI x1 x12).Pairs) h11 h18 hx19) ?_
    rintro V21 _ hv21 ⟨a20, k20, rfl, h20⟩
    have h22 := SlAt.mono h15 hv21
    have h23 := SlAt.mono h11 hv21
    have h25 := SlAt.mono h18 hv21
    refine xr rfl ?_
    rcases cond_some hF with ⟨hb, hF⟩ | ⟨hb, hF⟩
    ·refine Exec.ifT rfl hb ?_
     refine xr rfl ?_
     obtain rfl := some_inj hF
     exact Exec.ret tyOk rfl rfl ⟨_, _, rfl, SlAt.nil⟩
    ·refine Exec.ifF rfl hb ?_
     refine xr rfl ?_
     exact Exec.round [(0, .v (.slice a2 ((x1).length) (k2))), (5, .v (.slice a20 ((x19.1).length) (k20))), (6, .v (.int .i64 ((IntKind.i64.wrap (x12 + (1 : Int))))))] ⟨rfl, rfl, rfl, trivial⟩ ⟨n13, Nat.lt_succ_self _, x19.1, a20, k20, (IntKind.i64.wrap (x12 + (1 : Int))), rfl, rfl, h20, h22, hF⟩
   ·refine Exec.ifF rfl hb ?_
    refine xr rfl ?_
    exact Exec.round [(5, .v (.slice a11 ((x10).length) (k11)))] ⟨rfl, trivial⟩ ⟨x10, a11, k11, rfl, rfl, h11, hF⟩
 ·refine xr rfl ?_
  refine Exec.loop (fun n27 L' V' M' => ∃ (x26 : Int), L' = [(0, .v (.slice a2 ((x1).length) (k2))), (4, .v (.int .i64 (x26)))] ∧ M' = [] ∧ SlAt cTShard V' a2 k2 x1 ∧ F_clockworkref32_Gather_L2 x1 J3 n27 x26 = some r) ⟨(((((x1).length : Nat) : Int)).toNat + 1), [(0, .v (.slice a2 ((x1).length) (k2))), (4, .v (.int .i64 ((0 : Int))))], ⟨rfl, rfl, trivial⟩, (0 : Int), rfl, rfl, h2, hF⟩ ?_
  rintro n27 L' V28 M' ⟨x26, rfl, rfl, h29, hF⟩
  rcases n27 with _ | n27
  ·exact absurd hF (by simp [F_clockworkref32_Gather_L2])
  rw [F_clockworkref32_Gather_L2] at hF
  refine xr rfl ?_
  rcases cond_some hF with ⟨hb, hF⟩ | ⟨hb, hF⟩
  ·refine Exec.ifT rfl hb ?_
   refine xr rfl ?_
   refine Exec.draws tyOk [(0, true), (1, true), (2, true), (3, true), (4, true), (5, true), (6, true), (7, true), (8, true), (9, true), (10, true), (11, true), (12, true), (13, true), (14, true), (15, true), (16, true), (17, true), (18, true), (19, true), (20, true), (21, true), (22, false), (23, false), (24, false)] rfl (by kernel_rfl) ?_
   refine xr rfl ?_
   obtain ⟨q30, hF⟩ := req_some hF
   obtain ⟨c31, hr31, hd31⟩ := SlAt.gget (((decide ((0 : Int) < x26))) == true) h29 q30
   obtain ⟨a32, k32, rfl, h32⟩ := hr31
   refine Exec.fia tyOk rfl rfl rfl (fun gg0 => ⟨(q30 (gd1_of gg0)).1, (q30 (gd1_of gg0)).2, (hd31 (gd1_of gg0)).some⟩) ?_
   refine xr rfl ?_
   refine Exec.fld tyOk (x := .int .i64 ((cond (((decide ((0 : Int) < x26))) == true) (atI x1 x26) default).Node)) rfl rfl rfl (fun gg0 => (RdAt.part (hd31 (gd1_of gg0)) 0 1 rfl)) rfl rfl ?_
   refine xr rfl ?_
   obtain ⟨q33, hF⟩ := req_some hF
   obtain ⟨c34, hr34, hd34⟩ := SlAt.gget (((decide ((0 : Int) < x26))) == true) h29 q33
   obtain ⟨a35, k35, rfl, h35⟩ := hr34
   refine Exec.fia tyOk rfl rfl rfl (fun gg0 => ⟨(q33 (gd1_of gg0)).1, (q33 (gd1_of gg0)).2, (hd34 (gd1_of gg0)).some⟩) ?_
   refine xr rfl ?_
   refine Exec.fld tyOk (x := .int .i64 ((cond (((decide ((0 : Int) < x26))) == true) (atI x1 ((IntKind.i64.wrap (x26 - (1 : Int))))) default).Node)) rfl rfl rfl (fun gg0 => (RdAt.part (hd34 (gd1_of gg0)) 0 1 rfl)) rfl rfl ?_
   refine xr rfl ?_
   obtain ⟨q36, hF⟩ := req_some hF
   obtain ⟨c37, hr37, hd37⟩ := SlAt.gget ((((decide ((0 : Int) < x26)) && (decide ((cond (((decide ((0 : Int) < x26))) == true) (atI x1 x26) default).Node ≤ (cond (((decide ((0 : Int) < x26))) == true) (atI x1 ((IntKind.i64.wrap (x26 - (1 : Int))))) default).Node)))) == false) h29 q36
   obtain ⟨a38, k38, rfl, h38⟩ := hr37
   refine Exec.fia tyOk rfl rfl rfl (fun gg0 => ⟨(q36 (gd1_of gg0)).1, (q36 (gd1_of gg0)).2, (hd37 (gd1_of gg0)).some⟩) ?_
   refine xr rfl ?_
   refine Exec.fld tyOk (x := .slice a38 (((cond ((((decide ((0 : Int) < x26)) && (decide ((cond (((decide ((0 : Int) < x26))) == true) (atI x1 x26) default).Node ≤ (cond (((decide ((0 : Int) < x26))) == true) (atI x1 ((IntKind.i64.wrap (x26 - (1 : Int))))) default).Node)))) == false) (atI x1 x26) default).Pairs).length) (k38)) rfl rfl rfl (fun gg0 => (RdAt.part (hd37 (gd1_of gg0)) 1 1 rfl)) rfl rfl ?_
   refine xr rfl ?_
   obtain ⟨x39, hx39, hF⟩ := bnd_some hF
   refine Exec.callS (.bool (x39)) rfl rfl (fun gg0 => W_clockworkref06_Valid ((cond ((((decide ((0 : Int) < x26)) && (decide ((cond (((decide ((0 : Int) < x26))) == true) (atI x1 x26) default).Node ≤ (cond (((decide ((0 : Int) < x26))) == true) (atI x1 ((IntKind.i64.wrap (x26 - (1 : Int))))) default).Node)))) == false) (atI x1 x26) default).Pairs) h38 (gcall_some hx39 (gd1_of gg0))) ?_
   refine xr rfl ?_
   rcases cond_some hF with ⟨hb, hF⟩ | ⟨hb, hF⟩
   ·refine Exec.ifT rfl hb ?_
    refine xr rfl ?_
    obtain rfl := some_inj hF
    exact Exec.ret tyOk rfl rfl ⟨_, _, rfl, SlAt.nil⟩
   ·refine Exec.ifF rfl hb ?_
    refine xr rfl ?_
    exact Exec.round [(0, .v (.slice a2 ((x1).length) (k2))), (4, .v (.int .i64 ((IntKind.i64.wrap (x26 + (1 : Int))))))] ⟨rfl, rfl, trivial⟩ ⟨n27, Nat.lt_succ_self _, (IntKind.i64.wrap (x26 + (1 : Int))), rfl, rfl, h29, hF⟩
  ·refine Exec.ifF rfl hb ?_
   refine xr rfl ?_
   exact Exec.round [(0, .v (.slice a2 ((x1).length) (k2)))] ⟨rfl, trivial⟩ ⟨rfl, rfl, h29, hF⟩
def F_clockworkref35_split_L2 (x23 : List Str) (x34 : Int) (x18 : List Int) (x1 : TPlacement) (J41 : TMarker → Option (TMarker × Bool)) : Nat → TMarker → Int → Option (TMarker × Bool)
 | 0, _, _ => none
 | n48 + 1, x46, x47 => (cond (decide (x47 < (((x23).length : Nat) : Int))) (req (0 ≤ x34 ∧ x34 < ((x18).length : Int)) (req ((((decide ((64 : Int) < (atI x18 x34)))) == true) = true → 0 ≤ x47 ∧ x47 < ((x23).length : Int)) (bnd (gcall (((decide ((64 : Int) < (atI x18 x34)))) == true) (F_clockworkref29_Index x1 ((cond (((decide ((64 : Int) < (atI x18 x34)))) == true) (atI x23 x47) default)))) fun x57 => (req (((((decide ((64 : Int) < (atI x18 x34))) && (x57 == x34))) == true) = true → 0 ≤ x47 ∧ x47 < ((x23).length : Int)) (req (((((decide ((64 : Int) < (atI x18 x34))) && (x57 == x34))) == true) = true → 0 ≤ x34 ∧ x34 < ((x1.Parts).length : Int)) (cond (((decide ((64 : Int) < (atI x18 x34))) && (x57 == x34)) && (sLt (cond ((((decide ((64 : Int) < (atI x18 x34))) && (x57 == x34))) == true) (atI x1.Parts x34) default).From (cond ((((decide ((64 : Int) < (atI x18 x34))) && (x57 == x34))) == true) (atI x23 x47) default))) (req (0 ≤ x34 ∧ x34 < ((x1.Parts).length : Int)) (req (0 ≤ x47 ∧ x47 < ((x23).length : Int)) (bnd (F_clockworkref35_fresh x1) fun x66 => (some ((⟨(1 : Int), (atI x1.Parts x34).Id, x66, 0, 0, (atI x23 x47)⟩ : TMarker), true))))) (F_clockworkref35_split_L2 x23 x34 x18 x1 J41 n48 x46 ((IntKind.i64.wrap (x47 + (1 : Int))))))))))) (J41 x46))
def F_clockworkref35_split_L1 (x1 : TPlacement) (x23 : List Str) (x18 : List Int) (J30 : TMarker → Option (TMarker × Bool)) : Nat → TMarker → Int → Option (TMarker × Bool)
 | 0, _, _ => none
 | n35 + 1, x33, x34 => (cond (decide (x34 < (((x1.Parts).length : Nat) : Int))) (jn (fun (x40 : TMarker) => (F_clockworkref35_split_L1 x1 x23 x18 J30 n35 x40 ((IntKind.i64.wrap (x34 + (1 : Int)))))) (fun J41 => (F_clockworkref35_split_L2 x23 x34 x18 x1 J41 (((((x23).length : Nat) : Int)).toNat + 1) x33 ((0 : Int))))) (J30 x33))
def F_clockworkref35_split_L3 (x1 : TPlacement) (x7 : List TPair × Int) (J14 : TMarker → Option (TMarker × Bool)) : Nat → TMarker → Int → Option (TMarker × Bool)
 | 0, _, _ => none
 | n69 + 1, x67, x68 => (cond (decide (x68 < (((x1.Parts).length : Nat) : Int))) (bnd (F_clockworkref35_keys x1 x7.1 x68) fun x74 => (cond (decide ((32 : Int) < (((x74).length : Nat) : Int))) (req (0 ≤ x68 ∧ x68 < ((x1.Parts).length : Int)) (req ((2 : Int) ≠ 0) (req (0 ≤ (quoI .i64 (((x74).length : Nat) : Int) (2 : Int)) ∧ (quoI .i64 (((x74).length : Nat) : Int) (2 : Int)) < ((x74).length : Int)) (bnd (F_clockworkref35_fresh x1) fun x85 => (some ((⟨(1 : Int), (atI x1.Parts x68).Id, x85, 0, 0, (atI x74 ((quoI .i64 (((x74).length : Nat) : Int) (2 : Int))))⟩ : TMarker), true)))))) (F_clockworkref35_split_L3 x1 x7 J14 n69 x67 ((IntKind.i64.wrap (x68 + (1 : Int))))))) (J14 x67))
def F_clockworkref35_split (x1 : TPlacement) (x3 : List TShard) (x5 : List THeat) : Option (TMarker × Bool) :=
 (cond (decide ((16 : Int) ≤ (((x1.Parts).length : Nat) : Int))) (some ((⟨0, 0, 0, 0, 0, []⟩ : TMarker), false)) (bnd (F_clockworkref32_Gather x3) fun x7 => (jn (fun (x13 : TMarker) => (bnd (F_clockworkref35_Loads x1 x5) fun x18 => (bnd (F_clockworkref34_Hot x5 ((8 : Int))) fun x23 => (jn (fun (x29 : TMarker) => (some ((⟨0, 0, 0, 0, 0, []⟩ : TMarker), false))) (fun J30 => (F_clockworkref35_split_L1 x1 x23 x18 J30 (((((x1.Parts).length : Nat) : Int)).toNat + 1) x13 ((0 : Int)))))))) (fun J14 => (F_clockworkref35_split_L3 x1 x7 J14 (((((x1.Parts).length : Nat) : Int)).toNat + 1) ((default : TMarker)) ((0 : Int)))))))
theorem W_clockworkref35_split {V : View} (x1 : TPlacement) (x3 : List TShard) (x5 : List THeat) {a2 : Option Addr} {k2 : Nat} {a4 : Option Addr} {k4 : Nat} {a6 : Option Addr} {k6 : Nat} (h2 : SlAt cTPart V a2 k2 x1.Parts) (h4 : SlAt cTShard V a4 k4 x3) (h6 : SlAt cTHeat V a6 k6 x5) {r : TMarker × Bool} (hF : F_clockworkref35_split x1 x3 x5 = some r) :
  Spec Tryz.prog 56 [.agg ⟨[.int .i64 (x1.Version), .slice a2 ((x1.Parts).length) (k2)]⟩, .slice a4 ((x3).length) (k4), .slice a6 ((x5).length) (k6)] V (fun _ v => v = .tuple ⟨[.agg ⟨[.int .i64 (r.1.Kind), .int .i64 (r.1.Part), .int .i64 (r.1.New), .int .i64 (r.1.Node), .int .i64 (r.1.N), .string ⟨⟨r.1.Key⟩⟩]⟩, .bool (r.2)]⟩) := by
 unfold F_clockworkref35_split at hF
 refine Spec.enter (T := tyT) Tryz.func56 rfl (by kernel_rfl) rfl rfl rfl ?_
 refine xr rfl ?_
 rcases cond_some hF with ⟨hb, hF⟩ | ⟨hb, hF⟩
 ·refine Exec.ifT rfl hb ?_
  refine xr rfl ?_
  obtain rfl := some_inj hF
  exact Exec.ret tyOk rfl rfl rfl
 ·refine Exec.ifF rfl hb ?_
  refine xr rfl ?_
  obtain ⟨x7, hx7, hF⟩ := bnd_some hF
  refine Exec.call rfl rfl (W_clockworkref32_Gather x3 h4 hx7) ?_
  rintro V9 _ hv9 ⟨a8, k8, rfl, h8⟩
  have h10 := SlAt.mono h2 hv9
  have h11 := SlAt.mono h4 hv9
  have h12 := SlAt.mono h6 hv9
  refine Exec.run tyOk 11 rfl ?_
  obtain ⟨J14, hJ14, hF⟩ := jn_some hF
  refine Exec.seam (fun L' V' M' => ∃ (x13 : TMarker), L' = [(2, .v (.slice a6 ((x5).length) (k6))), (3, .ptr 0 0), (6, .ptr 1 0)] ∧ M' = [.blk [.v (.int .i64 (x1.Version)), .v (.slice a2 ((x1.Parts).length) (k2))] 24, .blk [.v (.int .i64 (x13.Kind)), .v (.int .i64 (x13.Part)), .v (.int .i64 (x13.New)), .v (.int .i64 (x13.Node)), .v (.int .i64 (x13.N)), .v (.string ⟨⟨x13.Key⟩⟩)] 27] ∧ SlAt cTHeat V' a6 k6 x5 ∧ SlAt cTPart V' a2 k2 x1.Parts ∧ J14 x13 = some r) rfl ?_ ?_
  ·rintro L' V15 M' ⟨x13, rfl, rfl, h16, h17, hF⟩
   subst hJ14
   refine xr rfl ?_
   obtain ⟨x18, hx18, hF⟩ := bnd_some hF
   refine Exec.call rfl rfl (W_clockworkref35_Loads x1 x5 h17 h16 hx18) ?_
   rintro V20 _ hv20 ⟨a19, k19, rfl, h19⟩
   have h21 := SlAt.mono h16 hv20
   have h22 := SlAt.mono h17 hv20
   refine xr rfl ?_
   obtain ⟨x23, hx23, hF⟩ := bnd_some hF
   refine Exec.call rfl rfl (W_clockworkref34_Hot x5 ((8 : Int)) h21 hx23) ?_
   rintro V25 _ hv25 ⟨a24, k24, rfl, h24⟩
   have h26 := SlAt.mono h21 hv25
   have h27 := SlAt.mono h19 hv25
   have h28 := SlAt.mono h22 hv25
   refine Exec.run tyOk 7 rfl ?_
   obtain ⟨J30, hJ30, hF⟩ := jn_some hF
   refine Exec.seam (fun L' V' M' => ∃ (x29 : TMarker), L' = [(6, .ptr 1 0)] ∧ M' = [.blk [.v (.int .i64 (x1.Version)), .v (.slice a2 ((x1.Parts).length) (k2))] 24, .blk [.v (.int .i64 (x29.Kind)), .v (.int .i64 (x29.Part)), .v (.int .i64 (x29.New)), .v (.int .i64 (x29.Node)), .v (.int .i64 (x29.N)), .v (.string ⟨⟨x29.Key⟩⟩)] 27] ∧ SlAt cTPart V' a2 k2 x1.Parts ∧ J30 x29 = some r) rfl ?_ ?_
   ·rintro L' V31 M' ⟨x29, rfl, rfl, h32, hF⟩
    subst hJ30
    refine xr rfl ?_
    obtain rfl := some_inj hF
    exact Exec.ret tyOk rfl rfl rfl
   ·refine xr rfl ?_
    refine Exec.loop (fun n35 L' V' M' => ∃ (x33 : TMarker) (x34 : Int), L' = [(3, .ptr 0 0), (6, .ptr 1 0), (12, .v (.slice a19 ((x18).length) (k19))), (13, .v (.slice a24 ((x23).length) (k24))), (14, .v (.int .i64 (x34)))] ∧ M' = [.blk [.v (.int .i64 (x1.Version)), .v (.slice a2 ((x1.Parts).length) (k2))] 24, .blk [.v (.int .i64 (x33.Kind)), .v (.int .i64 (x33.Part)), .v (.int .i64 (x33.New)), .v (.int .i64 (x33.Node)), .v (.int .i64 (x33.N)), .v (.string ⟨⟨x33.Key⟩⟩)] 27] ∧ SlAt (cInt .i64) V' a19 k19 x18 ∧ SlAt cStr V' a24 k24 x23 ∧ SlAt cTPart V' a2 k2 x1.Parts ∧ F_clockworkref35_split_L1 x1 x23 x18 J30 n35 x33 x34 = some r) ⟨(((((x1.Parts).length : Nat) : Int)).toNat + 1), [(3, .ptr 0 0), (6, .ptr 1 0), (12, .v (.slice a19 ((x18).length) (k19))), (13, .v (.slice a24 ((x23).length) (k24))), (14, .v (.int .i64 ((0 : Int))))], ⟨rfl, rfl, rfl, rfl, rfl, trivial⟩, x13, (0 : Int), rfl, rfl, h27, h24, h28, hF⟩ ?_
    rintro n35 L' V36 M' ⟨x33, x34, rfl, rfl, h37, h38, h39, hF⟩
    rcases n35 with _ | n35
    ·exact absurd hF (by simp [F_clockworkref35_split_L1])
    rw [F_clockworkref35_split_L1] at hF
    refine xr rfl ?_
    rcases cond_some hF with ⟨hb, hF⟩ | ⟨hb, hF⟩
    ·refine Exec.ifT rfl hb ?_
     refine Exec.run tyOk 7 rfl ?_
     obtain ⟨J41, hJ41, hF⟩ := jn_some hF
     refine Exec.seam (fun L' V' M' => ∃ (x40 : TMarker), L' = [(3, .ptr 0 0), (6, .ptr 1 0), (12, .v (.slice a19 ((x18).length) (k19))), (13, .v (.slice a24 ((x23).length) (k24))), (14, .v (.int .i64 (x34)))] ∧ M' = [.blk [.v (.int .i64 (x1.Version)), .v (.slice a2 ((x1.Parts).length) (k2))] 24, .blk [.v (.int .i64 (x40.Kind)), .v (.int .i64 (x40.Part)), .v (.int .i64 (x40.New)), .v (.int .i64 (x40.Node)), .v (.int .i64 (x40.N)), .v (.string ⟨⟨x40.Key⟩⟩)] 27] ∧ SlAt (cInt .i64) V' a19 k19 x18 ∧ SlAt cStr V' a24 k24 x23 ∧ SlAt cTPart V' a2 k2 x1.Parts ∧ J41 x40 = some r) rfl ?_ ?_
     ·rintro L' V42 M' ⟨x40, rfl, rfl, h43, h44, h45, hF⟩
      subst hJ41
      refine xr rfl ?_
      exact Exec.round [(3, .ptr 0 0), (6, .ptr 1 0), (12, .v (.slice a19 ((x18).length) (k19))), (13, .v (.slice a24 ((x23).length) (k24))), (14, .v (.int .i64 ((IntKind.i64.wrap (x34 + (1 : Int))))))] ⟨rfl, rfl, rfl, rfl, rfl, trivial⟩ ⟨n35, Nat.lt_succ_self _, x40, (IntKind.i64.wrap (x34 + (1 : Int))), rfl, rfl, h43, h44, h45, hF⟩
     ·refine xr rfl ?_
      refine Exec.loop (fun n48 L' V' M' => ∃ (x46 : TMarker) (x47 : Int), L' = [(3, .ptr 0 0), (6, .ptr 1 0), (12, .v (.slice a19 ((x18).length) (k19))), (13, .v (.slice a24 ((x23).length) (k24))), (14, .v (.int .i64 (x34))), (15, .v (.int .i64 (x47)))] ∧ M' = [.blk [.v (.int .i64 (x1.Version)), .v (.slice a2 ((x1.Parts).length) (k2))] 24, .blk [.v (.int .i64 (x46.Kind)), .v (.int .i64 (x46.Part)), .v (.int .i64 (x46.New)), .v (.int .i64 (x46.Node)), .v (.int .i64 (x46.N)), .v (.string ⟨⟨x46.Key⟩⟩)] 27] ∧ SlAt (cInt .i64) V' a19 k19 x18 ∧ SlAt cStr V' a24 k24 x23 ∧ SlAt cTPart V' a2 k2 x1.Parts ∧ F_clockworkref35_split_L2 x23 x34 x18 x1 J41 n48 x46 x47 = some r) ⟨(((((x23).length : Nat) : Int)).toNat + 1), [(3, .ptr 0 0), (6, .ptr 1 0), (12, .v (.slice a19 ((x18).length) (k19))), (13, .v (.slice a24 ((x23).length) (k24))), (14, .v (.int .i64 (x34))), (15, .v (.int .i64 ((0 : Int))))], ⟨rfl, rfl, rfl, rfl, rfl, rfl, trivial⟩, x33, (0 : Int), rfl, rfl, h37, h38, h39, hF⟩ ?_
      rintro n48 L' V49 M' ⟨x46, x47, rfl, rfl, h50, h51, h52, hF⟩
      rcases n48 with _ | n48
      ·exact absurd hF (by simp [F_clockworkref35_split_L2])
      rw [F_clockworkref35_split_L2] at hF
      refine xr rfl ?_
      rcases cond_some hF with ⟨hb, hF⟩ | ⟨hb, hF⟩
      ·refine Exec.ifT rfl hb ?_
       refine xr rfl ?_
       refine Exec.draws tyOk [(0, true), (1, true), (2, true), (3, true), (4, true), (5, true), (6, true), (7, true), (8, true), (9, true), (10, true), (12, true), (11, false), (13, false), (14, false), (15, false), (16, true), (17, true), (18, true), (19, true), (20, true), (21, true), (22, false), (23, false), (24, false), (25, false), (26, false), (27, false)] rfl (by kernel_rfl) ?_
       refine xr rfl ?_
       obtain ⟨q53, hF⟩ := req_some hF
       obtain ⟨c54, hr54, hd54⟩ := SlAt.get h50 q53
       obtain rfl := hr54
       refine Exec.fia tyOk rfl rfl rfl ⟨q53.1, q53.2, hd54.some⟩ ?_
       refine xr rfl ?_
       refine Exec.fld tyOk (x := .int .i64 ((atI x18 x34))) rfl rfl rfl hd54 rfl rfl ?_
       refine xr rfl ?_
       obtain ⟨q55, hF⟩ := req_some hF
       obtain ⟨c56, hr56, hd56⟩ := SlAt.gget (((decide ((64 : Int) < (atI x18 x34)))) == true) h51 q55
       obtain rfl := hr56
       refine Exec.fia tyOk rfl rfl rfl (fun gg0 => ⟨(q55 (gd1_of gg0)).1, (q55 (gd1_of gg0)).2, (hd56 (gd1_of gg0)).some⟩) ?_
       refine xr rfl ?_
       refine Exec.fld tyOk (x := .string ⟨⟨(cond (((decide ((64 : Int) < (atI x18 x34)))) == true) (atI x23 x47) default)⟩⟩) rfl rfl rfl (fun gg0 => (hd56 (gd1_of gg0))) rfl rfl ?_
       refine xr rfl ?_
       obtain ⟨x57, hx57, hF⟩ := bnd_some hF
       refine Exec.callS (.int .i64 (x57)) rfl rfl (fun gg0 => W_clockworkref29_Index x1 ((cond (((decide ((64 : Int) < (atI x18 x34)))) == true) (atI x23 x47) default)) h52 (gcall_some hx57 (gd1_of gg0))) ?_
       refine xr rfl ?_
       obtain ⟨q58, hF⟩ := req_some hF
       obtain ⟨c59, hr59, hd59⟩ := SlAt.gget ((((decide ((64 : Int) < (atI x18 x34))) && (x57 == x34))) == true) h51 q58
       obtain rfl := hr59
       refine Exec.fia tyOk rfl rfl rfl (fun gg0 => ⟨(q58 (gd1_of gg0)).1, (q58 (gd1_of gg0)).2, (hd59 (gd1_of gg0)).some⟩) ?_
       refine xr rfl ?_
       refine Exec.fld tyOk (x := .string ⟨⟨(cond ((((decide ((64 : Int) < (atI x18 x34))) && (x57 == x34))) == true) (atI x23 x47) default)⟩⟩) rfl rfl rfl (fun gg0 => (hd59 (gd1_of gg0))) rfl rfl ?_
       refine xr rfl ?_
       obtain ⟨q60, hF⟩ := req_some hF
       obtain ⟨c61, hr61, hd61⟩ := SlAt.gget ((((decide ((64 : Int) < (atI x18 x34))) && (x57 == x34))) == true) h52 q60
       obtain rfl := hr61
       refine Exec.ia tyOk rfl rfl (fun gg0 => ⟨(q60 (gd1_of gg0)).1, (q60 (gd1_of gg0)).2, (hd61 (gd1_of gg0)).some⟩) ?_
       refine xr rfl ?_
       refine Exec.ld tyOk (x := .string ⟨⟨(cond ((((decide ((64 : Int) < (atI x18 x34))) && (x57 == x34))) == true) (atI x1.Parts x34) default).From⟩⟩) rfl rfl (fun gg0 => (RdAt.part (hd61 (gd1_of gg0)) 1 1 rfl)) rfl rfl ?_
       refine xr rfl ?_
       rcases cond_some hF with ⟨hb, hF⟩ | ⟨hb, hF⟩
       ·refine Exec.ifT rfl hb ?_
        refine xr rfl ?_
        refine Exec.draws tyOk [(0, true), (1, true), (2, true), (3, true), (4, true), (5, true), (6, true), (8, true), (9, true), (10, true), (11, true), (7, false), (12, false), (13, false), (14, false)] rfl (by kernel_rfl) ?_
        refine xr rfl ?_
        obtain ⟨q62, hF⟩ := req_some hF
        obtain ⟨c63, hr63, hd63⟩ := SlAt.get h52 q62
        obtain rfl := hr63
        refine Exec.fia tyOk rfl rfl rfl ⟨q62.1, q62.2, hd63.some⟩ ?_
        refine xr rfl ?_
        refine Exec.fld tyOk (x := .int .i64 ((atI x1.Parts x34).Id)) rfl rfl rfl (RdAt.part hd63 0 1 rfl) rfl rfl ?_
        refine xr rfl ?_
        obtain ⟨q64, hF⟩ := req_some hF
        obtain ⟨c65, hr65, hd65⟩ := SlAt.get h51 q64
        obtain rfl := hr65
        refine Exec.fia tyOk rfl rfl rfl ⟨q64.1, q64.2, hd65.some⟩ ?_
        refine xr rfl ?_
        refine Exec.fld tyOk (x := .string ⟨⟨(atI x23 x47)⟩⟩) rfl rfl rfl hd65 rfl rfl ?_
        refine xr rfl ?_
        obtain ⟨x66, hx66, hF⟩ := bnd_some hF
        refine Exec.callS (.int .i64 (x66)) rfl rfl (W_clockworkref35_fresh x1 h52 hx66) ?_
        refine xr rfl ?_
        obtain rfl := some_inj hF
        exact Exec.ret tyOk rfl rfl rfl
       ·refine Exec.ifF rfl hb ?_
        refine xr rfl ?_
        exact Exec.round [(3, .ptr 0 0), (6, .ptr 1 0), (12, .v (.slice a19 ((x18).length) (k19))), (13, .v (.slice a24 ((x23).length) (k24))), (14, .v (.int .i64 (x34))), (15, .v (.int .i64 ((IntKind.i64.wrap (x47 + (1 : Int))))))] ⟨rfl, rfl, rfl, rfl, rfl, rfl, trivial⟩ ⟨n48, Nat.lt_succ_self _, x46, (IntKind.i64.wrap (x47 + (1 : Int))), rfl, rfl, h50, h51, h52, hF⟩
      ·refine Exec.ifF rfl hb ?_
       refine xr rfl ?_
       exact Exec.round [(3, .ptr 0 0), (6, .ptr 1 0), (12, .v (.slice a19 ((x18).length) (k19))), (13, .v (.slice a24 ((x23).length) (k24))), (14, .v (.int .i64 (x34)))] ⟨rfl, rfl, rfl, rfl, rfl, trivial⟩ ⟨x46, rfl, rfl, h50, h51, h52, hF⟩
    ·refine Exec.ifF rfl hb ?_
     refine xr rfl ?_
     exact Exec.round [(6, .ptr 1 0)] ⟨rfl, trivial⟩ ⟨x33, rfl, rfl, h39, hF⟩
  ·refine xr rfl ?_
   refine Exec.loop (fun n69 L' V' M' => ∃ (x67 : TMarker) (x68 : Int), L' = [(2, .v (.slice a6 ((x5).length) (k6))), (3, .ptr 0 0), (6, .ptr 1 0), (8, .v (.slice a8 ((x7.1).length) (k8))), (10, .v (.int .i64 (x68)))] ∧ M' = [.blk [.v (.int .i64 (x1.Version)), .v (.slice a2 ((x1.Parts).length) (k2))] 24, .blk [.v (.int .i64 (x67.Kind)), .v (.int .i64 (x67.Part)), .v (.int .i64 (x67.New)), .v (.int .i64 (x67.Node)), .v (.int .i64 (x67.N)), .v (.string ⟨⟨x67.Key⟩⟩)] 27] ∧ SlAt cTHeat V' a6 k6 x5 ∧ SlAt cTPair V' a8 k8 x7.1 ∧ SlAt cTPart V' a2 k2 x1.Parts ∧ F_clockworkref35_split_L3 x1 x7 J14 n69 x67 x68 = some r) ⟨(((((x1.Parts).length : Nat) : Int)).toNat + 1), [(2, .v (.slice a6 ((x5).length) (k6))), (3, .ptr 0 0), (6, .ptr 1 0), (8, .v (.slice a8 ((x7.1).length) (k8))), (10, .v (.int .i64 ((0 : Int))))], ⟨rfl, rfl, rfl, rfl, rfl, trivial⟩, (default : TMarker), (0 : Int), rfl, rfl, h12, h8, h10, hF⟩ ?_
   rintro n69 L' V70 M' ⟨x67, x68, rfl, rfl, h71, h72, h73, hF⟩
   rcases n69 with _ | n69
   ·exact absurd hF (by simp [F_clockworkref35_split_L3])
   rw [F_clockworkref35_split_L3] at hF
   refine xr rfl ?_
   rcases cond_some hF with ⟨hb, hF⟩ | ⟨hb, hF⟩
   ·refine Exec.ifT rfl hb ?_
    refine xr rfl ?_
    obtain ⟨x74, hx74, hF⟩ := bnd_some hF
    refine Exec.call rfl rfl (W_clockworkref35_keys x1 x7.1 x68 h73 h72 hx74) ?_
    rintro V76 _ hv76 ⟨a75, k75, rfl, h75⟩
    have h77 := SlAt.mono h71 hv76
    have h78 := SlAt.mono h72 hv76
    have h79 := SlAt.mono h73 hv76
    refine xr rfl ?_
    rcases cond_some hF with ⟨hb, hF⟩ | ⟨hb, hF⟩
    ·refine Exec.ifT rfl hb ?_
     refine xr rfl ?_
     refine Exec.draws tyOk [(0, true), (1, true), (2, true), (3, true), (4, true), (5, true), (6, true), (8, true), (9, true), (10, true), (11, true), (12, true), (13, true), (7, false), (14, false), (15, false), (16, false)] rfl (by kernel_rfl) ?_
     refine xr rfl ?_
     obtain ⟨q80, hF⟩ := req_some hF
     obtain ⟨c81, hr81, hd81⟩ := SlAt.get h79 q80
     obtain rfl := hr81
     refine Exec.fia tyOk rfl rfl rfl ⟨q80.1, q80.2, hd81.some⟩ ?_
     refine xr rfl ?_
     refine Exec.fld tyOk (x := .int .i64 ((atI x1.Parts x68).Id)) rfl rfl rfl (RdAt.part hd81 0 1 rfl) rfl rfl ?_
     refine xr rfl ?_
     obtain ⟨q82, hF⟩ := req_some hF
     refine Exec.fari rfl rfl rfl q82 ?_
     refine xr rfl ?_
     obtain ⟨q83, hF⟩ := req_some hF
     obtain ⟨c84, hr84, hd84⟩ := SlAt.get h75 q83
     obtain rfl := hr84
     refine Exec.fia tyOk rfl rfl rfl ⟨q83.1, q83.2, hd84.some⟩ ?_
     refine xr rfl ?_
     refine Exec.fld tyOk (x := .string ⟨⟨(atI x74 ((quoI .i64 (((x74).length : Nat) : Int) (2 : Int))))⟩⟩) rfl rfl rfl hd84 rfl rfl ?_
     refine xr rfl ?_
     obtain ⟨x85, hx85, hF⟩ := bnd_some hF
     refine Exec.callS (.int .i64 (x85)) rfl rfl (W_clockworkref35_fresh x1 h79 hx85) ?_
     refine xr rfl ?_
     obtain rfl := some_inj hF
     exact Exec.ret tyOk rfl rfl rfl
    ·refine Exec.ifF rfl hb ?_
     refine xr rfl ?_
     exact Exec.round [(2, .v (.slice a6 ((x5).length) (k6))), (3, .ptr 0 0), (6, .ptr 1 0), (8, .v (.slice a8 ((x7.1).length) (k8))), (10, .v (.int .i64 ((IntKind.i64.wrap (x68 + (1 : Int))))))] ⟨rfl, rfl, rfl, rfl, rfl, trivial⟩ ⟨n69, Nat.lt_succ_self _, x67, (IntKind.i64.wrap (x68 + (1 : Int))), rfl, rfl, h77, h78, h79, hF⟩
   ·refine Exec.ifF rfl hb ?_
    refine xr rfl ?_
    exact Exec.round [(2, .v (.slice a6 ((x5).length) (k6))), (3, .ptr 0 0), (6, .ptr 1 0)] ⟨rfl, rfl, rfl, trivial⟩ ⟨x67, rfl, rfl, h71, h73, hF⟩
def F_clockworkref35_move_L1 (x1 : TPlacement) (x9 : Int) (x19 : List Int) (J25 : Int → Option (TMarker × Bool)) : Nat → Int → Int → Option (TMarker × Bool)
 | 0, _, _ => none
 | n40 + 1, x38, x39 => (cond (decide (x39 < (((x1.Parts).length : Nat) : Int))) (req (0 ≤ x39 ∧ x39 < ((x1.Parts).length : Int)) (req (((((decide (x38 < (0 : Int)))) == false) && ((((atI x1.Parts x39).Node == x9)) == true)) = true → 0 ≤ x39 ∧ x39 < ((x19).length : Int)) (req (((((decide (x38 < (0 : Int)))) == false) && ((((atI x1.Parts x39).Node == x9)) == true)) = true → 0 ≤ x38 ∧ x38 < ((x19).length : Int)) (jn (fun (x51 : Int) => (F_clockworkref35_move_L1 x1 x9 x19 J25 n40 x51 ((IntKind.i64.wrap (x39 + (1 : Int)))))) (fun J52 => (cond (((atI x1.Parts x39).Node == x9) && ((decide (x38 < (0 : Int))) || (decide ((cond ((((decide (x38 < (0 : Int)))) == false) && ((((atI x1.Parts x39).Node == x9)) == true)) (atI x19 x38) default) < (cond ((((decide (x38 < (0 : Int)))) == false) && ((((atI x1.Parts x39).Node == x9)) == true)) (atI x19 x39) default))))) (J52 x39) (J52 x38))))))) (J25 x38))
def F_clockworkref35_move_L2 (x5 : Int) (x3 : List TShard) (J15 : Int → Option (TMarker × Bool)) : Nat → Int → Int → Option (TMarker × Bool)
 | 0, _, _ => none
 | n59 + 1, x57, x58 => (cond (decide (x58 ≤ x5)) (bnd (F_clockworkref35_pairs x3 x58) fun x63 => (bnd (F_clockworkref35_pairs x3 x57) fun x64 => (jn (fun (x65 : Int) => (F_clockworkref35_move_L2 x5 x3 J15 n59 x65 ((IntKind.i64.wrap (x58 + (1 : Int)))))) (fun J66 => (cond (decide (x63 < x64)) (J66 x58) (J66 x57)))))) (J15 x57))
def F_clockworkref35_move_L3 (x3 : List TShard) (J10 : Int → Option (TMarker × Bool)) : Nat → Int → Int → Option (TMarker × Bool)
 | 0, _, _ => none
 | n72 + 1, x70, x71 => (cond (decide (x71 < (((x3).length : Nat) : Int))) (req (0 ≤ x71 ∧ x71 < ((x3).length : Int)) (bnd (F_clockworkref35_pairs x3 ((atI x3 x71).Node)) fun x79 => (bnd (F_clockworkref35_pairs x3 x70) fun x80 => (jn (fun (x81 : Int) => (F_clockworkref35_move_L3 x3 J10 n72 x81 ((IntKind.i64.wrap (x71 + (1 : Int)))))) (fun J82 => (cond (decide (x80 < x79)) (req (0 ≤ x71 ∧ x71 < ((x3).length : Int)) (J82 ((atI x3 x71).Node))) (J82 x70))))))) (J10 x70))
def F_clockworkref35_move (x1 : TPlacement) (x3 : List TShard) (x5 : Int) : Option (TMarker × Bool) :=
 (req (0 ≤ (0 : Int) ∧ (0 : Int) < ((x3).length : Int)) (jn (fun (x9 : Int) => (jn (fun (x14 : Int) => (bnd (F_clockworkref35_Sizes x1 x3) fun x19 => (jn (fun (x24 : Int) => (req ((((decide (x24 < (0 : Int)))) == false) = true → 0 ≤ x24 ∧ x24 < ((x19).length : Int)) (req (((((decide (x24 < (0 : Int))) || (decide ((cond (((decide (x24 < (0 : Int)))) == false) (atI x19 x24) default) ≤ (0 : Int))))) == false) = true → 0 ≤ x24 ∧ x24 < ((x19).length : Int)) (bnd (gcall ((((decide (x24 < (0 : Int))) || (decide ((cond (((decide (x24 < (0 : Int)))) == false) (atI x19 x24) default) ≤ (0 : Int))))) == false) (F_clockworkref35_pairs x3 x9)) fun x34 => (bnd (gcall ((((decide (x24 < (0 : Int))) || (decide ((cond (((decide (x24 < (0 : Int)))) == false) (atI x19 x24) default) ≤ (0 : Int))))) == false) (F_clockworkref35_pairs x3 x14)) fun x35 => (cond (((decide (x24 < (0 : Int))) || (decide ((cond (((decide (x24 < (0 : Int)))) == false) (atI x19 x24) default) ≤ (0 : Int)))) || (decide ((IntKind.i64.wrap (x34 - x35)) ≤ (cond ((((decide (x24 < (0 : Int))) || (decide ((cond (((decide (x24 < (0 : Int)))) == false) (atI x19 x24) default) ≤ (0 : Int))))) == false) (atI x19 x24) default)))) (some ((⟨0, 0, 0, 0, 0, []⟩ : TMarker), false)) (req (0 ≤ x24 ∧ x24 < ((x1.Parts).length : Int)) (some ((⟨(3 : Int), (atI x1.Parts x24).Id, 0, x14, 0, []⟩ : TMarker), true))))))))) (fun J25 => (F_clockworkref35_move_L1 x1 x9 x19 J25 (((((x1.Parts).length : Nat) : Int)).toNat + 1) ((-1 : Int)) ((0 : Int))))))) (fun J15 => (F_clockworkref35_move_L2 x5 x3 J15 ((x5).toNat + 2) ((1 : Int)) ((1 : Int)))))) (fun J10 => (F_clockworkref35_move_L3 x3 J10 (((((x3).length : Nat) : Int)).toNat + 1) ((atI x3 ((0 : Int))).Node) ((0 : Int))))))
theorem W_clockworkref35_move {V : View} (x1 : TPlacement) (x3 : List TShard) (x5 : Int) {a2 : Option Addr} {k2 : Nat} {a4 : Option Addr} {k4 : Nat} (h2 : SlAt cTPart V a2 k2 x1.Parts) (h4 : SlAt cTShard V a4 k4 x3) {r : TMarker × Bool} (hF : F_clockworkref35_move x1 x3 x5 = some r) :
  Spec Tryz.prog 57 [.agg ⟨[.int .i64 (x1.Version), .slice a2 ((x1.Parts).length) (k2)]⟩, .slice a4 ((x3).length) (k4), .int .i64 (x5)] V (fun _ v => v = .tuple ⟨[.agg ⟨[.int .i64 (r.1.Kind), .int .i64 (r.1.Part), .int .i64 (r.1.New), .int .i64 (r.1.Node), .int .i64 (r.1.N), .string ⟨⟨r.1.Key⟩⟩]⟩, .bool (r.2)]⟩) := by
 unfold F_clockworkref35_move at hF
 refine Spec.enter (T := tyT) Tryz.func57 rfl (by kernel_rfl) rfl rfl rfl ?_
 refine xr rfl ?_
 obtain ⟨q6, hF⟩ := req_some hF
 obtain ⟨c7, hr7, hd7⟩ := SlAt.get h4 q6
 obtain ⟨a8, k8, rfl, h8⟩ := hr7
 refine Exec.ia tyOk rfl rfl ⟨q6.1, q6.2, hd7.some⟩ ?_
 refine xr rfl ?_
 refine Exec.ld tyOk (x := .int .i64 ((atI x3 ((0 : Int))).Node)) rfl rfl (RdAt.part hd7 0 1 rfl) rfl rfl ?_
 refine Exec.run tyOk 7 rfl ?_
 obtain ⟨J10, hJ10, hF⟩ := jn_some hF
 refine Exec.seam (fun L' V' M' => ∃ (x9 : Int), L' = [(1, .v (.slice a4 ((x3).length) (k4))), (2, .v (.int .i64 (x5))), (3, .ptr 0 0), (6, .ptr 1 0), (8, .v (.int .i64 (x9)))] ∧ M' = [.blk [.v (.int .i64 (x1.Version)), .v (.slice a2 ((x1.Parts).length) (k2))] 24, .blk [.v (.int .i64 (0)), .v (.int .i64 (0)), .v (.int .i64 (0)), .v (.int .i64 (0)), .v (.int .i64 (0)), .v (.string ⟨⟨[]⟩⟩)] 27] ∧ SlAt cTShard V' a4 k4 x3 ∧ SlAt cTPart V' a2 k2 x1.Parts ∧ J10 x9 = some r) rfl ?_ ?_
 ·rintro L' V11 M' ⟨x9, rfl, rfl, h12, h13, hF⟩
  subst hJ10
  refine Exec.run tyOk 9 rfl ?_
  obtain ⟨J15, hJ15, hF⟩ := jn_some hF
  refine Exec.seam (fun L' V' M' => ∃ (x14 : Int), L' = [(1, .v (.slice a4 ((x3).length) (k4))), (3, .ptr 0 0), (6, .ptr 1 0), (8, .v (.int .i64 (x9))), (10, .v (.int .i64 (x14)))] ∧ M' = [.blk [.v (.int .i64 (x1.Version)), .v (.slice a2 ((x1.Parts).length) (k2))] 24, .blk [.v (.int .i64 (0)), .v (.int .i64 (0)), .v (.int .i64 (0)), .v (.int .i64 (0)), .v (.int .i64 (0)), .v (.string ⟨⟨[]⟩⟩)] 27] ∧ SlAt cTShard V' a4 k4 x3 ∧ SlAt cTPart V' a2 k2 x1.Parts ∧ J15 x14 = some r) rfl ?_ ?_
  ·rintro L' V16 M' ⟨x14, rfl, rfl, h17, h18, hF⟩
   subst hJ15
   refine xr rfl ?_
   obtain ⟨x19, hx19, hF⟩ := bnd_some hF
   refine Exec.call rfl rfl (W_clockworkref35_Sizes x1 x3 h18 h17 hx19) ?_
   rintro V21 _ hv21 ⟨a20, k20, rfl, h20⟩
   have h22 := SlAt.mono h17 hv21
   have h23 := SlAt.mono h18 hv21
   refine Exec.run tyOk 11 rfl ?_
   obtain ⟨J25, hJ25, hF⟩ := jn_some hF
   refine Exec.seam (fun L' V' M' => ∃ (x24 : Int), L' = [(1, .v (.slice a4 ((x3).length) (k4))), (3, .ptr 0 0), (6, .ptr 1 0), (8, .v (.int .i64 (x9))), (10, .v (.int .i64 (x14))), (12, .v (.slice a20 ((x19).length) (k20))), (13, .v (.int .i64 (x24)))] ∧ M' = [.blk [.v (.int .i64 (x1.Version)), .v (.slice a2 ((x1.Parts).length) (k2))] 24, .blk [.v (.int .i64 (0)), .v (.int .i64 (0)), .v (.int .i64 (0)), .v (.int .i64 (0)), .v (.int .i64 (0)), .v (.string ⟨⟨[]⟩⟩)] 27] ∧ SlAt cTShard V' a4 k4 x3 ∧ SlAt (cInt .i64) V' a20 k20 x19 ∧ SlAt cTPart V' a2 k2 x1.Parts ∧ J25 x24 = some r) rfl ?_ ?_
   ·rintro L' V26 M' ⟨x24, rfl, rfl, h27, h28, h29, hF⟩
    subst hJ25
    refine xr rfl ?_
    refine Exec.draws tyOk [(0, true), (1, true), (2, true), (3, true), (4, true), (5, true), (6, true), (7, true), (8, true), (9, true), (10, true), (11, true), (12, true), (13, true), (14, true), (15, true), (17, true), (18, true), (16, false), (19, false), (20, false), (21, false), (22, false)] rfl (by kernel_rfl) ?_
    refine xr rfl ?_
    obtain ⟨q30, hF⟩ := req_some hF
    obtain ⟨c31, hr31, hd31⟩ := SlAt.gget (((decide (x24 < (0 : Int)))) == false) h28 q30
    obtain rfl := hr31
    refine Exec.fia tyOk rfl rfl rfl (fun gg0 => ⟨(q30 (gd1_of gg0)).1, (q30 (gd1_of gg0)).2, (hd31 (gd1_of gg0)).some⟩) ?_
    refine xr rfl ?_
    refine Exec.fld tyOk (x := .int .i64 ((cond (((decide (x24 < (0 : Int)))) == false) (atI x19 x24) default))) rfl rfl rfl (fun gg0 => (hd31 (gd1_of gg0))) rfl rfl ?_
    refine xr rfl ?_
    obtain ⟨q32, hF⟩ := req_some hF
    obtain ⟨c33, hr33, hd33⟩ := SlAt.gget ((((decide (x24 < (0 : Int))) || (decide ((cond (((decide (x24 < (0 : Int)))) == false) (atI x19 x24) default) ≤ (0 : Int))))) == false) h28 q32
    obtain rfl := hr33
    refine Exec.fia tyOk rfl rfl rfl (fun gg0 => ⟨(q32 (gd1_of gg0)).1, (q32 (gd1_of gg0)).2, (hd33 (gd1_of gg0)).some⟩) ?_
    refine xr rfl ?_
    refine Exec.fld tyOk (x := .int .i64 ((cond ((((decide (x24 < (0 : Int))) || (decide ((cond (((decide (x24 < (0 : Int)))) == false) (atI x19 x24) default) ≤ (0 : Int))))) == false) (atI x19 x24) default))) rfl rfl rfl (fun gg0 => (hd33 (gd1_of gg0))) rfl rfl ?_
    refine xr rfl ?_
    obtain ⟨x34, hx34, hF⟩ := bnd_some hF
    refine Exec.callS (.int .i64 (x34)) rfl rfl (fun gg0 => W_clockworkref35_pairs x3 x9 h27 (gcall_some hx34 (gd1_of gg0))) ?_
    refine xr rfl ?_
    obtain ⟨x35, hx35, hF⟩ := bnd_some hF
    refine Exec.callS (.int .i64 (x35)) rfl rfl (fun gg0 => W_clockworkref35_pairs x3 x14 h27 (gcall_some hx35 (gd1_of gg0))) ?_
    refine xr rfl ?_
    rcases cond_some hF with ⟨hb, hF⟩ | ⟨hb, hF⟩
    ·refine Exec.ifT rfl hb ?_
     refine xr rfl ?_
     obtain rfl := some_inj hF
     exact Exec.ret tyOk rfl rfl rfl
    ·refine Exec.ifF rfl hb ?_
     refine xr rfl ?_
     obtain ⟨q36, hF⟩ := req_some hF
     obtain ⟨c37, hr37, hd37⟩ := SlAt.get h29 q36
     obtain rfl := hr37
     refine Exec.ia tyOk rfl rfl ⟨q36.1, q36.2, hd37.some⟩ ?_
     refine xr rfl ?_
     refine Exec.ld tyOk (x := .int .i64 ((atI x1.Parts x24).Id)) rfl rfl (RdAt.part hd37 0 1 rfl) rfl rfl ?_
     refine xr rfl ?_
     obtain rfl := some_inj hF
     exact Exec.ret tyOk rfl rfl rfl
   ·refine xr rfl ?_
    refine Exec.loop (fun n40 L' V' M' => ∃ (x38 : Int) (x39 : Int), L' = [(1, .v (.slice a4 ((x3).length) (k4))), (3, .ptr 0 0), (6, .ptr 1 0), (8, .v (.int .i64 (x9))), (10, .v (.int .i64 (x14))), (12, .v (.slice a20 ((x19).length) (k20))), (13, .v (.int .i64 (x38))), (14, .v (.int .i64 (x39)))] ∧ M' = [.blk [.v (.int .i64 (x1.Version)), .v (.slice a2 ((x1.Parts).length) (k2))] 24, .blk [.v (.int .i64 (0)), .v (.int .i64 (0)), .v (.int .i64 (0)), .v (.int .i64 (0)), .v (.int .i64 (0)), .v (.string ⟨⟨[]⟩⟩)] 27] ∧ SlAt cTShard V' a4 k4 x3 ∧ SlAt (cInt .i64) V' a20 k20 x19 ∧ SlAt cTPart V' a2 k2 x1.Parts ∧ F_clockworkref35_move_L1 x1 x9 x19 J25 n40 x38 x39 = some r) ⟨(((((x1.Parts).length : Nat) : Int)).toNat + 1), [(1, .v (.slice a4 ((x3).length) (k4))), (3, .ptr 0 0), (6, .ptr 1 0), (8, .v (.int .i64 (x9))), (10, .v (.int .i64 (x14))), (12, .v (.slice a20 ((x19).length) (k20))), (13, .v (.int .i64 ((-1 : Int)))), (14, .v (.int .i64 ((0 : Int))))], ⟨rfl, rfl, rfl, rfl, rfl, rfl, rfl, rfl, trivial⟩, (-1 : Int), (0 : Int), rfl, rfl, h22, h20, h23, hF⟩ ?_
    rintro n40 L' V41 M' ⟨x38, x39, rfl, rfl, h42, h43, h44, hF⟩
    rcases n40 with _ | n40
    ·exact absurd hF (by simp [F_clockworkref35_move_L1])
    rw [F_clockworkref35_move_L1] at hF
    refine xr rfl ?_
    rcases cond_some hF with ⟨hb, hF⟩ | ⟨hb, hF⟩
    ·refine Exec.ifT rfl hb ?_
     refine xr rfl ?_
     refine Exec.draws tyOk [(0, true), (1, true), (2, true), (3, true), (4, true), (5, true), (6, true), (7, true), (8, true), (9, true), (10, true), (11, true), (12, true), (13, true), (14, true), (15, true), (16, true), (17, true), (18, true), (19, true), (20, true), (21, true), (22, true)] rfl (by kernel_rfl) ?_
     refine xr rfl ?_
     obtain ⟨q45, hF⟩ := req_some hF
     obtain ⟨c46, hr46, hd46⟩ := SlAt.get h44 q45
     obtain rfl := hr46
     refine Exec.fia tyOk rfl rfl rfl ⟨q45.1, q45.2, hd46.some⟩ ?_
     refine xr rfl ?_
     refine Exec.fld tyOk (x := .int .i64 ((atI x1.Parts x39).Node)) rfl rfl rfl (RdAt.part hd46 2 1 rfl) rfl rfl ?_
     refine xr rfl ?_
     obtain ⟨q47, hF⟩ := req_some hF
     obtain ⟨c48, hr48, hd48⟩ := SlAt.gget ((((decide (x38 < (0 : Int)))) == false) && ((((atI x1.Parts x39).Node == x9)) == true)) h43 q47
     obtain rfl := hr48
     refine Exec.fia tyOk rfl rfl rfl (fun gg0 gg1 => ⟨(q47 (gd2_of gg0 gg1)).1, (q47 (gd2_of gg0 gg1)).2, (hd48 (gd2_of gg0 gg1)).some⟩) ?_
     refine xr rfl ?_
     refine Exec.fld tyOk (x := .int .i64 ((cond ((((decide (x38 < (0 : Int)))) == false) && ((((atI x1.Parts x39).Node == x9)) == true)) (atI x19 x39) default))) rfl rfl rfl (fun gg0 gg1 => (hd48 (gd2_of gg0 gg1))) rfl rfl ?_
     refine xr rfl ?_
     obtain ⟨q49, hF⟩ := req_some hF
     obtain ⟨c50, hr50, hd50⟩ := SlAt.gget ((((decide (x38 < (0 : Int)))) == false) && ((((atI x1.Parts x39).Node == x9)) == true)) h43 q49
     obtain rfl := hr50
     refine Exec.fia tyOk rfl rfl rfl (fun gg0 gg1 => ⟨(q49 (gd2_of gg0 gg1)).1, (q49 (gd2_of gg0 gg1)).2, (hd50 (gd2_of gg0 gg1)).some⟩) ?_
     refine xr rfl ?_
     refine Exec.fld tyOk (x := .int .i64 ((cond ((((decide (x38 < (0 : Int)))) == false) && ((((atI x1.Parts x39).Node == x9)) == true)) (atI x19 x38) default))) rfl rfl rfl (fun gg0 gg1 => (hd50 (gd2_of gg0 gg1))) rfl rfl ?_
     refine xr rfl ?_
     obtain ⟨J52, hJ52, hF⟩ := jn_some hF
     refine Exec.seam (fun L' V' M' => ∃ (x51 : Int), L' = [(1, .v (.slice a4 ((x3).length) (k4))), (3, .ptr 0 0), (6, .ptr 1 0), (8, .v (.int .i64 (x9))), (10, .v (.int .i64 (x14))), (12, .v (.slice a20 ((x19).length) (k20))), (13, .v (.int .i64 (x51))), (14, .v (.int .i64 (x39)))] ∧ M' = [.blk [.v (.int .i64 (x1.Version)), .v (.slice a2 ((x1.Parts).length) (k2))] 24, .blk [.v (.int .i64 (0)), .v (.int .i64 (0)), .v (.int .i64 (0)), .v (.int .i64 (0)), .v (.int .i64 (0)), .v (.string ⟨⟨[]⟩⟩)] 27] ∧ SlAt cTShard V' a4 k4 x3 ∧ SlAt (cInt .i64) V' a20 k20 x19 ∧ SlAt cTPart V' a2 k2 x1.Parts ∧ J52 x51 = some r) rfl ?_ ?_
     ·rintro L' V53 M' ⟨x51, rfl, rfl, h54, h55, h56, hF⟩
      subst hJ52
      refine xr rfl ?_
      exact Exec.round [(1, .v (.slice a4 ((x3).length) (k4))), (3, .ptr 0 0), (6, .ptr 1 0), (8, .v (.int .i64 (x9))), (10, .v (.int .i64 (x14))), (12, .v (.slice a20 ((x19).length) (k20))), (13, .v (.int .i64 (x51))), (14, .v (.int .i64 ((IntKind.i64.wrap (x39 + (1 : Int))))))] ⟨rfl, rfl, rfl, rfl, rfl, rfl, rfl, rfl, trivial⟩ ⟨n40, Nat.lt_succ_self _, x51, (IntKind.i64.wrap (x39 + (1 : Int))), rfl, rfl, h54, h55, h56, hF⟩
     ·refine xr rfl ?_
      rcases cond_some hF with ⟨hb, hF⟩ | ⟨hb, hF⟩
      ·refine Exec.ifT rfl hb ?_
       refine xr rfl ?_
       exact Exec.round [(1, .v (.slice a4 ((x3).length) (k4))), (3, .ptr 0 0), (6, .ptr 1 0), (8, .v (.int .i64 (x9))), (10, .v (.int .i64 (x14))), (12, .v (.slice a20 ((x19).length) (k20))), (13, .v (.int .i64 (x39))), (14, .v (.int .i64 (x39)))] ⟨rfl, rfl, rfl, rfl, rfl, rfl, rfl, rfl, trivial⟩ ⟨x39, rfl, rfl, h42, h43, h44, hF⟩
      ·refine Exec.ifF rfl hb ?_
       refine xr rfl ?_
       exact Exec.round [(1, .v (.slice a4 ((x3).length) (k4))), (3, .ptr 0 0), (6, .ptr 1 0), (8, .v (.int .i64 (x9))), (10, .v (.int .i64 (x14))), (12, .v (.slice a20 ((x19).length) (k20))), (13, .v (.int .i64 (x38))), (14, .v (.int .i64 (x39)))] ⟨rfl, rfl, rfl, rfl, rfl, rfl, rfl, rfl, trivial⟩ ⟨x38, rfl, rfl, h42, h43, h44, hF⟩
    ·refine Exec.ifF rfl hb ?_
     refine xr rfl ?_
     exact Exec.round [(1, .v (.slice a4 ((x3).length) (k4))), (3, .ptr 0 0), (6, .ptr 1 0), (8, .v (.int .i64 (x9))), (10, .v (.int .i64 (x14))), (12, .v (.slice a20 ((x19).length) (k20))), (13, .v (.int .i64 (x38)))] ⟨rfl, rfl, rfl, rfl, rfl, rfl, rfl, trivial⟩ ⟨x38, rfl, rfl, h42, h43, h44, hF⟩
  ·refine xr rfl ?_
   refine Exec.loop (fun n59 L' V' M' => ∃ (x57 : Int) (x58 : Int), L' = [(1, .v (.slice a4 ((x3).length) (k4))), (2, .v (.int .i64 (x5))), (3, .ptr 0 0), (6, .ptr 1 0), (8, .v (.int .i64 (x9))), (10, .v (.int .i64 (x57))), (11, .v (.int .i64 (x58)))] ∧ M' = [.blk [.v (.int .i64 (x1.Version)), .v (.slice a2 ((x1.Parts).length) (k2))] 24, .blk [.v (.int .i64 (0)), .v (.int .i64 (0)), .v (.int .i64 (0)), .v (.int .i64 (0)), .v (.int .i64 (0)), .v (.string ⟨⟨[]⟩⟩)] 27] ∧ SlAt cTShard V' a4 k4 x3 ∧ SlAt cTPart V' a2 k2 x1.Parts ∧ F_clockworkref35_move_L2 x5 x3 J15 n59 x57 x58 = some r) ⟨((x5).toNat + 2), [(1, .v (.slice a4 ((x3).length) (k4))), (2, .v (.int .i64 (x5))), (3, .ptr 0 0), (6, .ptr 1 0), (8, .v (.int .i64 (x9))), (10, .v (.int .i64 ((1 : Int)))), (11, .v (.int .i64 ((1 : Int))))], ⟨rfl, rfl, rfl, rfl, rfl, rfl, rfl, trivial⟩, (1 : Int), (1 : Int), rfl, rfl, h12, h13, hF⟩ ?_
   rintro n59 L' V60 M' ⟨x57, x58, rfl, rfl, h61, h62, hF⟩
   rcases n59 with _ | n59
   ·exact absurd hF (by simp [F_clockworkref35_move_L2])
   rw [F_clockworkref35_move_L2] at hF
   refine xr rfl ?_
   rcases cond_some hF with ⟨hb, hF⟩ | ⟨hb, hF⟩
   ·refine Exec.ifT rfl hb ?_
    refine xr rfl ?_
    obtain ⟨x63, hx63, hF⟩ := bnd_some hF
    refine Exec.callS (.int .i64 (x63)) rfl rfl (W_clockworkref35_pairs x3 x58 h61 hx63) ?_
    refine xr rfl ?_
    obtain ⟨x64, hx64, hF⟩ := bnd_some hF
    refine Exec.callS (.int .i64 (x64)) rfl rfl (W_clockworkref35_pairs x3 x57 h61 hx64) ?_
    refine xr rfl ?_
    obtain ⟨J66, hJ66, hF⟩ := jn_some hF
    refine Exec.seam (fun L' V' M' => ∃ (x65 : Int), L' = [(1, .v (.slice a4 ((x3).length) (k4))), (2, .v (.int .i64 (x5))), (3, .ptr 0 0), (6, .ptr 1 0), (8, .v (.int .i64 (x9))), (10, .v (.int .i64 (x65))), (11, .v (.int .i64 (x58)))] ∧ M' = [.blk [.v (.int .i64 (x1.Version)), .v (.slice a2 ((x1.Parts).length) (k2))] 24, .blk [.v (.int .i64 (0)), .v (.int .i64 (0)), .v (.int .i64 (0)), .v (.int .i64 (0)), .v (.int .i64 (0)), .v (.string ⟨⟨[]⟩⟩)] 27] ∧ SlAt cTShard V' a4 k4 x3 ∧ SlAt cTPart V' a2 k2 x1.Parts ∧ J66 x65 = some r) rfl ?_ ?_
    ·rintro L' V67 M' ⟨x65, rfl, rfl, h68, h69, hF⟩
     subst hJ66
     refine xr rfl ?_
     exact Exec.round [(1, .v (.slice a4 ((x3).length) (k4))), (2, .v (.int .i64 (x5))), (3, .ptr 0 0), (6, .ptr 1 0), (8, .v (.int .i64 (x9))), (10, .v (.int .i64 (x65))), (11, .v (.int .i64 ((IntKind.i64.wrap (x58 + (1 : Int))))))] ⟨rfl, rfl, rfl, rfl, rfl, rfl, rfl, trivial⟩ ⟨n59, Nat.lt_succ_self _, x65, (IntKind.i64.wrap (x58 + (1 : Int))), rfl, rfl, h68, h69, hF⟩
    ·refine xr rfl ?_
     rcases cond_some hF with ⟨hb, hF⟩ | ⟨hb, hF⟩
     ·refine Exec.ifT rfl hb ?_
      refine xr rfl ?_
      exact Exec.round [(1, .v (.slice a4 ((x3).length) (k4))), (2, .v (.int .i64 (x5))), (3, .ptr 0 0), (6, .ptr 1 0), (8, .v (.int .i64 (x9))), (10, .v (.int .i64 (x58))), (11, .v (.int .i64 (x58)))] ⟨rfl, rfl, rfl, rfl, rfl, rfl, rfl, trivial⟩ ⟨x58, rfl, rfl, h61, h62, hF⟩
     ·refine Exec.ifF rfl hb ?_
      refine xr rfl ?_
      exact Exec.round [(1, .v (.slice a4 ((x3).length) (k4))), (2, .v (.int .i64 (x5))), (3, .ptr 0 0), (6, .ptr 1 0), (8, .v (.int .i64 (x9))), (10, .v (.int .i64 (x57))), (11, .v (.int .i64 (x58)))] ⟨rfl, rfl, rfl, rfl, rfl, rfl, rfl, trivial⟩ ⟨x57, rfl, rfl, h61, h62, hF⟩
   ·refine Exec.ifF rfl hb ?_
    refine xr rfl ?_
    exact Exec.round [(1, .v (.slice a4 ((x3).length) (k4))), (3, .ptr 0 0), (6, .ptr 1 0), (8, .v (.int .i64 (x9))), (10, .v (.int .i64 (x57)))] ⟨rfl, rfl, rfl, rfl, rfl, trivial⟩ ⟨x57, rfl, rfl, h61, h62, hF⟩
 ·refine xr rfl ?_
  refine Exec.loop (fun n72 L' V' M' => ∃ (x70 : Int) (x71 : Int), L' = [(1, .v (.slice a4 ((x3).length) (k4))), (2, .v (.int .i64 (x5))), (3, .ptr 0 0), (6, .ptr 1 0), (8, .v (.int .i64 (x70))), (9, .v (.int .i64 (x71)))] ∧ M' = [.blk [.v (.int .i64 (x1.Version)), .v (.slice a2 ((x1.Parts).length) (k2))] 24, .blk [.v (.int .i64 (0)), .v (.int .i64 (0)), .v (.int .i64 (0)), .v (.int .i64 (0)), .v (.int .i64 (0)), .v (.string ⟨⟨[]⟩⟩)] 27] ∧ SlAt cTShard V' a4 k4 x3 ∧ SlAt cTPart V' a2 k2 x1.Parts ∧ F_clockworkref35_move_L3 x3 J10 n72 x70 x71 = some r) ⟨(((((x3).length : Nat) : Int)).toNat + 1), [(1, .v (.slice a4 ((x3).length) (k4))), (2, .v (.int .i64 (x5))), (3, .ptr 0 0), (6, .ptr 1 0), (8, .v (.int .i64 ((atI x3 ((0 : Int))).Node))), (9, .v (.int .i64 ((0 : Int))))], ⟨rfl, rfl, rfl, rfl, rfl, rfl, trivial⟩, (atI x3 ((0 : Int))).Node, (0 : Int), rfl, rfl, h4, h2, hF⟩ ?_
  rintro n72 L' V73 M' ⟨x70, x71, rfl, rfl, h74, h75, hF⟩
  rcases n72 with _ | n72
  ·exact absurd hF (by simp [F_clockworkref35_move_L3])
  rw [F_clockworkref35_move_L3] at hF
  refine xr rfl ?_
  rcases cond_some hF with ⟨hb, hF⟩ | ⟨hb, hF⟩
  ·refine Exec.ifT rfl hb ?_
   refine xr rfl ?_
   obtain ⟨q76, hF⟩ := req_some hF
   obtain ⟨c77, hr77, hd77⟩ := SlAt.get h74 q76
   obtain ⟨a78, k78, rfl, h78⟩ := hr77
   refine Exec.ia tyOk rfl rfl ⟨q76.1, q76.2, hd77.some⟩ ?_
   refine xr rfl ?_
   refine Exec.ld tyOk (x := .int .i64 ((atI x3 x71).Node)) rfl rfl (RdAt.part hd77 0 1 rfl) rfl rfl ?_
   refine xr rfl ?_
   obtain ⟨x79, hx79, hF⟩ := bnd_some hF
   refine Exec.callS (.int .i64 (x79)) rfl rfl (W_clockworkref35_pairs x3 ((atI x3 x71).Node) h74 hx79) ?_
   refine xr rfl ?_
   obtain ⟨x80, hx80, hF⟩ := bnd_some hF
   refine Exec.callS (.int .i64 (x80)) rfl rfl (W_clockworkref35_pairs x3 x70 h74 hx80) ?_
   refine xr rfl ?_
   obtain ⟨J82, hJ82, hF⟩ := jn_some hF
   refine Exec.seam (fun L' V' M' => ∃ (x81 : Int), L' = [(1, .v (.slice a4 ((x3).length) (k4))), (2, .v (.int .i64 (x5))), (3, .ptr 0 0), (6, .ptr 1 0), (8, .v (.int .i64 (x81))), (9, .v (.int .i64 (x71)))] ∧ M' = [.blk [.v (.int .i64 (x1.Version)), .v (.slice a2 ((x1.Parts).length) (k2))] 24, .blk [.v (.int .i64 (0)), .v (.int .i64 (0)), .v (.int .i64 (0)), .v (.int .i64 (0)), .v (.int .i64 (0)), .v (.string ⟨⟨[]⟩⟩)] 27] ∧ SlAt cTShard V' a4 k4 x3 ∧ SlAt cTPart V' a2 k2 x1.Parts ∧ J82 x81 = some r) rfl ?_ ?_
   ·rintro L' V83 M' ⟨x81, rfl, rfl, h84, h85, hF⟩
    subst hJ82
    refine xr rfl ?_
    exact Exec.round [(1, .v (.slice a4 ((x3).length) (k4))), (2, .v (.int .i64 (x5))), (3, .ptr 0 0), (6, .ptr 1 0), (8, .v (.int .i64 (x81))), (9, .v (.int .i64 ((IntKind.i64.wrap (x71 + (1 : Int))))))] ⟨rfl, rfl, rfl, rfl, rfl, rfl, trivial⟩ ⟨n72, Nat.lt_succ_self _, x81, (IntKind.i64.wrap (x71 + (1 : Int))), rfl, rfl, h84, h85, hF⟩
   ·refine xr rfl ?_
    rcases cond_some hF with ⟨hb, hF⟩ | ⟨hb, hF⟩
    ·refine Exec.ifT rfl hb ?_
     refine xr rfl ?_
     obtain ⟨q86, hF⟩ := req_some hF
     obtain ⟨c87, hr87, hd87⟩ := SlAt.get h74 q86
     obtain ⟨a88, k88, rfl, h88⟩ := hr87
     refine Exec.ia tyOk rfl rfl ⟨q86.1, q86.2, hd87.some⟩ ?_
     refine xr rfl ?_
     refine Exec.ld tyOk (x := .int .i64 ((atI x3 x71).Node)) rfl rfl (RdAt.part hd87 0 1 rfl) rfl rfl ?_
     refine xr rfl ?_
     exact Exec.round [(1, .v (.slice a4 ((x3).length) (k4))), (2, .v (.int .i64 (x5))), (3, .ptr 0 0), (6, .ptr 1 0), (8, .v (.int .i64 ((atI x3 x71).Node))), (9, .v (.int .i64 (x71)))] ⟨rfl, rfl, rfl, rfl, rfl, rfl, trivial⟩ ⟨(atI x3 x71).Node, rfl, rfl, h74, h75, hF⟩
    ·refine Exec.ifF rfl hb ?_
     refine xr rfl ?_
     exact Exec.round [(1, .v (.slice a4 ((x3).length) (k4))), (2, .v (.int .i64 (x5))), (3, .ptr 0 0), (6, .ptr 1 0), (8, .v (.int .i64 (x70))), (9, .v (.int .i64 (x71)))] ⟨rfl, rfl, rfl, rfl, rfl, rfl, trivial⟩ ⟨x70, rfl, rfl, h74, h75, hF⟩
  ·refine Exec.ifF rfl hb ?_
   refine xr rfl ?_
   exact Exec.round [(1, .v (.slice a4 ((x3).length) (k4))), (2, .v (.int .i64 (x5))), (3, .ptr 0 0), (6, .ptr 1 0), (8, .v (.int .i64 (x70)))] ⟨rfl, rfl, rfl, rfl, rfl, trivial⟩ ⟨x70, rfl, rfl, h74, h75, hF⟩
def F_migrate_Chunk_L1 (x3 : List TShard) (x1 : TPlacement) (x7 : Int × Int) (x10 : TRange × Int) (J13 : (List TPair) → Option (TPlacement × List TShard × TChunk × Int)) : Nat → (List TPair) → Int → Option (TPlacement × List TShard × TChunk × Int)
 | 0, _, _ => none
 | n54 + 1, x51, x53 => (cond (decide (x53 < (((x3).length : Nat) : Int))) (req (0 ≤ x53 ∧ x53 < ((x3).length : Int)) (jn (fun (x61 : List TPair) => (F_migrate_Chunk_L1 x3 x1 x7 x10 J13 n54 x61 ((IntKind.i64.wrap (x53 + (1 : Int)))))) (fun J63 => (cond ((atI x3 x53).Node == (atI x1.Parts x7.1).Node) (bnd (F_state_Slice ((atI x3 x53).Pairs) ((⟨(atI x1.Parts x7.1).Done, x10.1.To⟩ : TRange))) fun x67 => (J63 x67)) (J63 x51))))) (J13 x51))
def F_migrate_Chunk (x1 : TPlacement) (x3 : List TShard) (x5 : Int) (x6 : Int) : Option (TPlacement × List TShard × TChunk × Int) :=
 (cond (decide (x6 < (1 : Int))) (some ((⟨0, ([] : List TPart)⟩ : TPlacement), ([] : List TShard), (⟨0, 0, 0, (default : TRange), ([] : List TPair), false⟩ : TChunk), (1 : Int))) (bnd (F_migrate_moving x1 x3 x5) fun x7 => (cond (x7.2 != (0 : Int)) (some ((⟨0, ([] : List TPart)⟩ : TPlacement), ([] : List TShard), (⟨0, 0, 0, (default : TRange), ([] : List TPair), false⟩ : TChunk), x7.2)) (req (0 ≤ x7.1 ∧ x7.1 < ((x1.Parts).length : Int)) (bnd (F_placement_Range x1 x5) fun x10 => (jn (fun (x11 : List TPair) => (jn (fun (x17 : TPart) (x18 : TChunk) => (bnd (F_migrate_changed x1 x7.1 x17) fun x24 => (bnd (F_migrate_moved x24 x3) fun x30 => (some (x24, x30, x18, (0 : Int)))))) (fun J20 => (cond (decide (x6 < (((x11).length : Nat) : Int))) (req (0 ≤ x6 ∧ x6 < ((x11).length : Int)) (req (0 ≤ x6 ∧ x6 ≤ x6) (req (48 * (x6).toNat ≤ 281474976710656) (req (0 ≤ x6 ∧ x6 < ((x11).length : Int)) (J20 ((⟨(atI x1.Parts x7.1).Id, (atI x1.Parts x7.1).From, (atI x1.Parts x7.1).Node, (atI x1.Parts x7.1).Dest, (atI x11 x6).Key⟩ : TPart)) ((⟨x5, (atI x1.Parts x7.1).Node, (atI x1.Parts x7.1).Dest, (⟨(atI x1.Parts x7.1).Done, (atI x11 x6).Key⟩ : TRange), (cpL x11 ((List.replicate (x6).toNat (default : TPair)))), false⟩ : TChunk))))))) (J20 ((⟨(atI x1.Parts x7.1).Id, (atI x1.Parts x7.1).From, (atI x1.Parts x7.1).Dest, (0 : Int), ([] : Str)⟩ : TPart)) ((⟨x5, (atI x1.Parts x7.1).Node, (atI x1.Parts x7.1).Dest, (⟨(atI x1.Parts x7.1).Done, x10.1.To⟩ : TRange), x11, true⟩ : TChunk))))))) (fun J13 => (F_migrate_Chunk_L1 x3 x1 x7 x10 J13 (((((x3).length : Nat) : Int)).toNat + 1) (([] : List TPair)) ((0 : Int))))))))))
theorem W_migrate_Chunk {V : View} (x1 : TPlacement) (x3 : List TShard) (x5 : Int) (x6 : Int) {a2 : Option Addr} {k2 : Nat} {a4 : Option Addr} {k4 : Nat} (h2 : SlAt cTPart V a2 k2 x1.Parts) (h4 : SlAt cTShard V a4 k4 x3) {r : TPlacement × List TShard × TChunk × Int} (hF : F_migrate_Chunk x1 x3 x5 x6 = some r) :
  Spec Tryz.prog 62 [.agg ⟨[.int .i64 (x1.Version), .slice a2 ((x1.Parts).length) (k2)]⟩, .slice a4 ((x3).length) (k4), .int .i64 (x5), .int .i64 (x6)] V (fun V' v => ∃ (a75 : Option Addr) (k75 : Nat) (a76 : Option Addr) (k76 : Nat) (a77 : Option Addr) (k77 : Nat), v = .tuple ⟨[.agg ⟨[.int .i64 (r.1.Version), .slice a75 ((r.1.Parts).length) (k75)]⟩, .slice a76 ((r.2.1).length) (k76), .agg ⟨[.int .i64 (r.2.2.1.Part), .int .i64 (r.2.2.1.From), .int .i64 (r.2.2.1.To), .string ⟨⟨r.2.2.1.Keys.From⟩⟩, .string ⟨⟨r.2.2.1.Keys.To⟩⟩, .slice a77 ((r.2.2.1.Pairs).length) (k77), .bool (r.2.2.1.Last)]⟩, .int .i64 (r.2.2.2)]⟩ ∧ SlAt cTPart V' a75 k75 r.1.Parts ∧ SlAt cTShard V' a76 k76 r.2.1 ∧ SlAt cTPair V' a77 k77 r.2.2.1.Pairs) := by
 unfold F_migrate_Chunk at hF
 refine Spec.enter (T := tyT) Tryz.func62 rfl (by kernel_rfl) rfl rfl rfl ?_
 refine xr rfl ?_
 rcases cond_some hF with ⟨hb, hF⟩ | ⟨hb, hF⟩
 ·refine Exec.ifT rfl hb ?_
  refine xr rfl ?_
  obtain rfl := some_inj hF
  exact Exec.ret tyOk rfl rfl ⟨_, _, _, _, _, _, rfl, SlAt.nil, SlAt.nil, SlAt.nil⟩
 ·refine Exec.ifF rfl hb ?_
  refine xr rfl ?_
  obtain ⟨x7, hx7, hF⟩ := bnd_some hF
  refine Exec.callS (.tuple ⟨[.int .i64 (x7.1), .int .i64 (x7.2)]⟩) rfl rfl (W_migrate_moving x1 x3 x5 h2 h4 hx7) ?_
  refine xr rfl ?_
  rcases cond_some hF with ⟨hb, hF⟩ | ⟨hb, hF⟩
  ·refine Exec.ifT rfl hb ?_
   refine xr rfl ?_
   obtain rfl := some_inj hF
   exact Exec.ret tyOk rfl rfl ⟨_, _, _, _, _, _, rfl, SlAt.nil, SlAt.nil, SlAt.nil⟩
  ·refine Exec.ifF rfl hb ?_
   refine xr rfl ?_
   obtain ⟨q8, hF⟩ := req_some hF
   obtain ⟨c9, hr9, hd9⟩ := SlAt.get h2 q8
   obtain rfl := hr9
   refine Exec.ia tyOk rfl rfl ⟨q8.1, q8.2, hd9.some⟩ ?_
   refine xr rfl ?_
   refine Exec.ld tyOk (x := .agg ⟨[.int .i64 ((atI x1.Parts x7.1).Id), .string ⟨⟨(atI x1.Parts x7.1).From⟩⟩, .int .i64 ((atI x1.Parts x7.1).Node), .int .i64 ((atI x1.Parts x7.1).Dest), .string ⟨⟨(atI x1.Parts x7.1).Done⟩⟩]⟩) rfl rfl hd9 rfl rfl ?_
   refine xr rfl ?_
   obtain ⟨x10, hx10, hF⟩ := bnd_some hF
   refine Exec.callS (.tuple ⟨[.agg ⟨[.string ⟨⟨x10.1.From⟩⟩, .string ⟨⟨x10.1.To⟩⟩]⟩, .int .i64 (x10.2)]⟩) rfl rfl (W_placement_Range x1 x5 h2 hx10) ?_
   refine Exec.run tyOk 25 rfl ?_
   obtain ⟨J13, hJ13, hF⟩ := jn_some hF
   refine Exec.seam (fun L' V' M' => ∃ (x11 : List TPair) (a12 : Option Addr) (k12 : Nat), L' = [(1, .v (.slice a4 ((x3).length) (k4))), (2, .v (.int .i64 (x5))), (3, .v (.int .i64 (x6))), (4, .ptr 0 0), (8, .ptr 1 0), (10, .ptr 2 0), (12, .v (.int .i64 (x7.1))), (14, .ptr 3 0), (15, .ptr 4 0), (17, .v (.slice a12 ((x11).length) (k12)))] ∧ M' = [.blk [.v (.int .i64 (x1.Version)), .v (.slice a2 ((x1.Parts).length) (k2))] 24, .blk [.v (.int .i64 (0)), .v (.slice none (0) (0))] 24, .blk [.v (.int .i64 (0)), .v (.int .i64 (0)), .v (.int .i64 (0)), .v (.string ⟨⟨[]⟩⟩), .v (.string ⟨⟨[]⟩⟩), .v (.slice none (0) (0)), .v (.bool (false))] 81, .blk [.v (.int .i64 ((atI x1.Parts x7.1).Id)), .v (.string ⟨⟨(atI x1.Parts x7.1).From⟩⟩), .v (.int .i64 ((atI x1.Parts x7.1).Node)), .v (.int .i64 ((atI x1.Parts x7.1).Dest)), .v (.string ⟨⟨(atI x1.Parts x7.1).Done⟩⟩)] 60, .blk [.v (.string ⟨⟨(atI x1.Parts x7.1).Done⟩⟩), .v (.string ⟨⟨x10.1.To⟩⟩)] 79] ∧ SlAt cTPair V' a12 k12 x11 ∧ SlAt cTShard V' a4 k4 x3 ∧ SlAt cTPart V' a2 k2 x1.Parts ∧ J13 x11 = some r) rfl ?_ ?_
   ·rintro L' V14 M' ⟨x11, a12, k12, rfl, rfl, h12, h15, h16, hF⟩
    subst hJ13
    refine xr rfl ?_
    obtain ⟨J20, hJ20, hF⟩ := jn_some hF
    refine Exec.seam (fun L' V' M' => ∃ (x17 : TPart) (x18 : TChunk) (a19 : Option Addr) (k19 : Nat), L' = [(1, .v (.slice a4 ((x3).length) (k4))), (4, .ptr 0 0), (8, .ptr 1 0), (10, .ptr 2 0), (12, .v (.int .i64 (x7.1))), (14, .ptr 3 0), (20, .ptr 5 0)] ∧ M' = [.blk [.v (.int .i64 (x1.Version)), .v (.slice a2 ((x1.Parts).length) (k2))] 24, .blk [.v (.int .i64 (0)), .v (.slice none (0) (0))] 24, .blk [.v (.int .i64 (0)), .v (.int .i64 (0)), .v (.int .i64 (0)), .v (.string ⟨⟨[]⟩⟩), .v (.string ⟨⟨[]⟩⟩), .v (.slice none (0) (0)), .v (.bool (false))] 81, .blk [.v (.int .i64 (x17.Id)), .v (.string ⟨⟨x17.From⟩⟩), .v (.int .i64 (x17.Node)), .v (.int .i64 (x17.Dest)), .v (.string ⟨⟨x17.Done⟩⟩)] 60, .blk [.v (.string ⟨⟨(atI x1.Parts x7.1).Done⟩⟩), .v (.string ⟨⟨x10.1.To⟩⟩)] 79, .blk [.v (.int .i64 (x18.Part)), .v (.int .i64 (x18.From)), .v (.int .i64 (x18.To)), .v (.string ⟨⟨x18.Keys.From⟩⟩), .v (.string ⟨⟨x18.Keys.To⟩⟩), .v (.slice a19 ((x18.Pairs).length) (k19)), .v (.bool (x18.Last))] 81] ∧ SlAt cTPair V' a19 k19 x18.Pairs ∧ SlAt cTShard V' a4 k4 x3 ∧ SlAt cTPart V' a2 k2 x1.Parts ∧ J20 x17 x18 = some r) rfl ?_ ?_
    ·rintro L' V21 M' ⟨x17, x18, a19, k19, rfl, rfl, h19, h22, h23, hF⟩
     subst hJ20
     refine xr rfl ?_
     obtain ⟨x24, hx24, hF⟩ := bnd_some hF
     refine Exec.call rfl rfl (W_migrate_changed x1 x7.1 x17 h23 hx24) ?_
     rintro V26 _ hv26 ⟨a25, k25, rfl, h25⟩
     have h27 := SlAt.mono h22 hv26
     have h28 := SlAt.mono h23 hv26
     have h29 := SlAt.mono h19 hv26
     refine xr rfl ?_
     refine Exec.draws tyOk [(0, true), (1, true), (2, true), (4, true), (3, false), (5, false), (6, false), (7, false), (8, false)] rfl (by kernel_rfl) ?_
     refine xr rfl ?_
     obtain ⟨x30, hx30, hF⟩ := bnd_some hF
     refine Exec.call rfl rfl (W_migrate_moved x24 x3 h25 h27 hx30) ?_
     rintro V32 _ hv32 ⟨a31, k31, rfl, h31⟩
     have h33 := SlAt.mono h27 hv32
     have h34 := SlAt.mono h28 hv32
     have h35 := SlAt.mono h25 hv32
     have h36 := SlAt.mono h29 hv32
     refine xr rfl ?_
     obtain rfl := some_inj hF
     exact Exec.ret tyOk rfl rfl ⟨_, _, _, _, _, _, rfl, h35, h31, h36⟩
    ·refine xr rfl ?_
     rcases cond_some hF with ⟨hb, hF⟩ | ⟨hb, hF⟩
     ·refine Exec.ifT rfl hb ?_
      refine xr rfl ?_
      refine Exec.draws tyOk [(0, true), (1, true), (2, true), (3, true), (4, true), (5, true), (6, false), (7, false), (8, false), (9, false)] rfl (by kernel_rfl) ?_
      refine xr rfl ?_
      obtain ⟨q37, hF⟩ := req_some hF
      obtain ⟨c38, hr38, hd38⟩ := SlAt.get h12 q37
      obtain rfl := hr38
      refine Exec.fia tyOk rfl rfl rfl ⟨q37.1, q37.2, hd38.some⟩ ?_
      refine xr rfl ?_
      refine Exec.fld tyOk (x := .string ⟨⟨(atI x11 x6).Key⟩⟩) rfl rfl rfl (RdAt.part hd38 0 1 rfl) rfl rfl ?_
      refine xr rfl ?_
      obtain ⟨q39, hF⟩ := req_some hF
      obtain ⟨q40, hF⟩ := req_some hF
      refine Exec.mkr tyOk rfl rfl rfl rfl (nm := ((List.replicate (x6).toNat (default : TPair))).length) (by simp) q39 q40 (fun _ => rfl) (fun a41 => ?_)
      have h41 : RowRep cTPair V14 (List.replicate (x6).toNat (default : TPair)) ((List.replicate ((List.replicate (x6).toNat (default : TPair))).length [.string ⟨⟨[]⟩⟩, .int .i64 (0), .int .i64 (0), .string ⟨⟨[]⟩⟩]).flatten) := by rw [List.length_replicate]; exact RowRep.reps (c := cTPair) rfl _
      refine xr rfl ?_
      refine Exec.cpV tyOk (cd := cTPair) 6 rfl rfl rfl rfl rfl rfl h41 rfl h12 rfl (fun _ => rfl) rfl (fun cs42 h42 => ?_)
      refine xr rfl ?_
      obtain ⟨q43, hF⟩ := req_some hF
      obtain ⟨c44, hr44, hd44⟩ := SlAt.get h12 q43
      obtain rfl := hr44
      refine Exec.ia tyOk rfl rfl ⟨q43.1, q43.2, hd44.some⟩ ?_
      refine xr rfl ?_
      refine Exec.ld tyOk (x := .string ⟨⟨(atI x11 x6).Key⟩⟩) rfl rfl (RdAt.part hd44 0 1 rfl) rfl rfl ?_
      refine xr rfl ?_
      refine Exec.frz 6 rfl rfl rfl (fun V45 hv45 hd45 hn45 => ?_)
      have hz45 := RowRep.slat h42 hv45 hd45 (Nat.le_trans (Nat.le_of_eq (by simp)) hn45)
      have h46 := SlAt.mono h15 hv45
      have h47 := SlAt.mono h12 hv45
      have h50 := SlAt.mono h16 hv45
      refine Exec.cut 6 [(1, .v (.slice a4 ((x3).length) (k4))), (4, .ptr 0 0), (8, .ptr 1 0), (10, .ptr 2 0), (12, .v (.int .i64 (x7.1))), (14, .ptr 3 0), (20, .ptr 5 0)] (M' := [.blk [.v (.int .i64 (x1.Version)), .v (.slice a2 ((x1.Parts).length) (k2))] 24, .blk [.v (.int .i64 (0)), .v (.slice none (0) (0))] 24, .blk [.v (.int .i64 (0)), .v (.int .i64 (0)), .v (.int .i64 (0)), .v (.string ⟨⟨[]⟩⟩), .v (.string ⟨⟨[]⟩⟩), .v (.slice none (0) (0)), .v (.bool (false))] 81, .blk [.v (.int .i64 ((atI x1.Parts x7.1).Id)), .v (.string ⟨⟨(atI x1.Parts x7.1).From⟩⟩), .v (.int .i64 ((atI x1.Parts x7.1).Node)), .v (.int .i64 ((atI x1.Parts x7.1).Dest)), .v (.string ⟨⟨(atI x11 x6).Key⟩⟩)] 60, .blk [.v (.string ⟨⟨(atI x1.Parts x7.1).Done⟩⟩), .v (.string ⟨⟨x10.1.To⟩⟩)] 79, .blk [.v (.int .i64 (x5)), .v (.int .i64 ((atI x1.Parts x7.1).Node)), .v (.int .i64 ((atI x1.Parts x7.1).Dest)), .v (.string ⟨⟨(atI x1.Parts x7.1).Done⟩⟩), .v (.string ⟨⟨(atI x11 x6).Key⟩⟩), .v (.slice ((some a41)) (((List.replicate (x6).toNat (default : TPair))).length) ((x6).toNat)), .v (.bool (false))] 81]) rfl ⟨rfl, rfl, rfl, rfl, rfl, rfl, rfl, trivial⟩ rfl rfl rfl ?_
      exact Exec.round [(1, .v (.slice a4 ((x3).length) (k4))), (4, .ptr 0 0), (8, .ptr 1 0), (10, .ptr 2 0), (12, .v (.int .i64 (x7.1))), (14, .ptr 3 0), (20, .ptr 5 0)] ⟨rfl, rfl, rfl, rfl, rfl, rfl, rfl, trivial⟩ ⟨(⟨(atI x1.Parts x7.1).Id, (atI x1.Parts x7.1).From, (atI x1.Parts x7.1).Node, (atI x1.Parts x7.1).Dest, (atI x11 x6).Key⟩ : TPart), (⟨x5, (atI x1.Parts x7.1).Node, (atI x1.Parts x7.1).Dest, (⟨(atI x1.Parts x7.1).Done, (atI x11 x6).Key⟩ : TRange), (cpL x11 ((List.replicate (x6).toNat (default : TPair)))), false⟩ : TChunk), (some a41), (x6).toNat, rfl, (by simp), hz45, h46, h50, hF⟩
     ·refine Exec.ifF rfl hb ?_
      refine xr rfl ?_
      exact Exec.round [(1, .v (.slice a4 ((x3).length) (k4))), (4, .ptr 0 0), (8, .ptr 1 0), (10, .ptr 2 0), (12, .v (.int .i64 (x7.1))), (14, .ptr 3 0), (20, .ptr 5 0)] ⟨rfl, rfl, rfl, rfl, rfl, rfl, rfl, trivial⟩ ⟨(⟨(atI x1.Parts x7.1).Id, (atI x1.Parts x7.1).From, (atI x1.Parts x7.1).Dest, (0 : Int), ([] : Str)⟩ : TPart), (⟨x5, (atI x1.Parts x7.1).Node, (atI x1.Parts x7.1).Dest, (⟨(atI x1.Parts x7.1).Done, x10.1.To⟩ : TRange), x11, true⟩ : TChunk), a12, k12, rfl, rfl, h12, h15, h16, hF⟩
   ·refine xr rfl ?_
    refine Exec.loop (fun n54 L' V' M' => ∃ (x51 : List TPair) (a52 : Option Addr) (k52 : Nat) (x53 : Int), L' = [(1, .v (.slice a4 ((x3).length) (k4))), (2, .v (.int .i64 (x5))), (3, .v (.int .i64 (x6))), (4, .ptr 0 0), (8, .ptr 1 0), (10, .ptr 2 0), (12, .v (.int .i64 (x7.1))), (14, .ptr 3 0), (15, .ptr 4 0), (17, .v (.slice a52 ((x51).length) (k52))), (52, .v (.slice a4 ((x3).length) (k4))), (53, .v (.int .i64 ((((x3).length : Nat) : Int)))), (54, .v (.int .i64 (x53)))] ∧ M' = [.blk [.v (.int .i64 (x1.Version)), .v (.slice a2 ((x1.Parts).length) (k2))] 24, .blk [.v (.int .i64 (0)), .v (.slice none (0) (0))] 24, .blk [.v (.int .i64 (0)), .v (.int .i64 (0)), .v (.int .i64 (0)), .v (.string ⟨⟨[]⟩⟩), .v (.string ⟨⟨[]⟩⟩), .v (.slice none (0) (0)), .v (.bool (false))] 81, .blk [.v (.int .i64 ((atI x1.Parts x7.1).Id)), .v (.string ⟨⟨(atI x1.Parts x7.1).From⟩⟩), .v (.int .i64 ((atI x1.Parts x7.1).Node)), .v (.int .i64 ((atI x1.Parts x7.1).Dest)), .v (.string ⟨⟨(atI x1.Parts x7.1).Done⟩⟩)] 60, .blk [.v (.string ⟨⟨(atI x1.Parts x7.1).Done⟩⟩), .v (.string ⟨⟨x10.1.To⟩⟩)] 79] ∧ SlAt cTPair V' a52 k52 x51 ∧ SlAt cTShard V' a4 k4 x3 ∧ SlAt cTPart V' a2 k2 x1.Parts ∧ F_migrate_Chunk_L1 x3 x1 x7 x10 J13 n54 x51 x53 = some r) ⟨(((((x3).length : Nat) : Int)).toNat + 1), [(1, .v (.slice a4 ((x3).length) (k4))), (2, .v (.int .i64 (x5))), (3, .v (.int .i64 (x6))), (4, .ptr 0 0), (8, .ptr 1 0), (10, .ptr 2 0), (12, .v (.int .i64 (x7.1))), (14, .ptr 3 0), (15, .ptr 4 0), (17, .v (.slice none (0) (0))), (52, .v (.slice a4 ((x3).length) (k4))), (53, .v (.int .i64 ((((x3).length : Nat) : Int)))), (54, .v (.int .i64 ((0 : Int))))], ⟨rfl, rfl, rfl, rfl, rfl, rfl, rfl, rfl, rfl, rfl, rfl, rfl, rfl, trivial⟩, ([] : List TPair), none, 0, (0 : Int), rfl, rfl, SlAt.nil, h4, h2, hF⟩ ?_
    rintro n54 L' V55 M' ⟨x51, a52, k52, x53, rfl, rfl, h52, h56, h57, hF⟩
    rcases n54 with _ | n54
    ·exact absurd hF (by simp [F_migrate_Chunk_L1])
    rw [F_migrate_Chunk_L1] at hF
    refine xr rfl ?_
    rcases cond_some hF with ⟨hb, hF⟩ | ⟨hb, hF⟩
    ·refine Exec.ifT rfl hb ?_
     refine xr rfl ?_
     obtain ⟨q58, hF⟩ := req_some hF
     obtain ⟨c59, hr59, hd59⟩ := SlAt.get h56 q58
     obtain ⟨a60, k60, rfl, h60⟩ := hr59
     refine Exec.ia tyOk rfl rfl ⟨q58.1, q58.2, hd59.some⟩ ?_
     refine xr rfl ?_
     refine Exec.ld tyOk (x := .agg ⟨[.int .i64 ((atI x3 x53).Node), .slice a60 (((atI x3 x53).Pairs).length) (k60)]⟩) rfl rfl hd59 rfl rfl ?_
     refine xr rfl ?_
     obtain ⟨J63, hJ63, hF⟩ := jn_some hF
     refine Exec.seam (fun L' V' M' => ∃ (x61 : List TPair) (a62 : Option Addr) (k62 : Nat), L' = [(1, .v (.slice a4 ((x3).length) (k4))), (2, .v (.int .i64 (x5))), (3, .v (.int .i64 (x6))), (4, .ptr 0 0), (8, .ptr 1 0), (10, .ptr 2 0), (12, .v (.int .i64 (x7.1))), (14, .ptr 3 0), (15, .ptr 4 0), (17, .v (.slice a62 ((x61).length) (k62))), (52, .v (.slice a4 ((x3).length) (k4))), (53, .v (.int .i64 ((((x3).length : Nat) : Int)))), (54, .v (.int .i64 (x53)))] ∧ M' = [.blk [.v (.int .i64 (x1.Version)), .v (.slice a2 ((x1.Parts).length) (k2))] 24, .blk [.v (.int .i64 (0)), .v (.slice none (0) (0))] 24, .blk [.v (.int .i64 (0)), .v (.int .i64 (0)), .v (.int .i64 (0)), .v (.string ⟨⟨[]⟩⟩), .v (.string ⟨⟨[]⟩⟩), .v (.slice none (0) (0)), .v (.bool (false))] 81, .blk [.v (.int .i64 ((atI x1.Parts x7.1).Id)), .v (.string ⟨⟨(atI x1.Parts x7.1).From⟩⟩), .v (.int .i64 ((atI x1.Parts x7.1).Node)), .v (.int .i64 ((atI x1.Parts x7.1).Dest)), .v (.string ⟨⟨(atI x1.Parts x7.1).Done⟩⟩)] 60, .blk [.v (.string ⟨⟨(atI x1.Parts x7.1).Done⟩⟩), .v (.string ⟨⟨x10.1.To⟩⟩)] 79] ∧ SlAt cTPair V' a62 k62 x61 ∧ SlAt cTShard V' a4 k4 x3 ∧ SlAt cTPart V' a2 k2 x1.Parts ∧ J63 x61 = some r) rfl ?_ ?_
     ·rintro L' V64 M' ⟨x61, a62, k62, rfl, rfl, h62, h65, h66, hF⟩
      subst hJ63
      refine xr rfl ?_
      exact Exec.round [(1, .v (.slice a4 ((x3).length) (k4))), (2, .v (.int .i64 (x5))), (3, .v (.int .i64 (x6))), (4, .ptr 0 0), (8, .ptr 1 0), (10, .ptr 2 0), (12, .v (.int .i64 (x7.1))), (14, .ptr 3 0), (15, .ptr 4 0), (17, .v (.slice a62 ((x61).length) (k62))), (52, .v (.slice a4 ((x3).length) (k4))), (53, .v (.int .i64 ((((x3).length : Nat) : Int)))), (54, .v (.int .i64 ((IntKind.i64.wrap (x53 + (1 : Int))))))] ⟨rfl, rfl, rfl, rfl, rfl, rfl, rfl, rfl, rfl, rfl, rfl, rfl, rfl, trivial⟩ ⟨n54, Nat.lt_succ_self _, x61, a62, k62, (IntKind.i64.wrap (x53 + (1 : Int))), rfl, rfl, h62, h65, h66, hF⟩
     ·refine xr rfl ?_
      rcases cond_some hF with ⟨hb, hF⟩ | ⟨hb, hF⟩
      ·refine Exec.ifT rfl hb ?_
       refine xr rfl ?_
       obtain ⟨x67, hx67, hF⟩ := bnd_some hF
       refine Exec.call rfl rfl (W_state_Slice ((atI x3 x53).Pairs) ((⟨(atI x1.Parts x7.1).Done, x10.1.To⟩ : TRange)) h60 hx67) ?_
       rintro V69 _ hv69 ⟨a68, k68, rfl, h68⟩
       have h70 := SlAt.mono h56 hv69
       have h71 := SlAt.mono h52 hv69
       have h73 := SlAt.mono h60 hv69
       have h74 := SlAt.mono h57 hv69
       refine xr rfl ?_
       refine Exec.cut 5 [(1, .v (.slice a4 ((x3).length) (k4))), (2, .v (.int .i64 (x5))), (3, .v (.int .i64 (x6))), (4, .ptr 0 0), (8, .ptr 1 0), (10, .ptr 2 0), (12, .v (.int .i64 (x7.1))), (14, .ptr 3 0), (15, .ptr 4 0), (17, .v (.slice a68 ((x67).length) (k68))), (52, .v (.slice a4 ((x3).length) (k4))), (53, .v (.int .i64 ((((x3).length : Nat) : Int)))), (54, .v (.int .i64 (x53)))] (M' := [.blk [.v (.int .i64 (x1.Version)), .v (.slice a2 ((x1.Parts).length) (k2))] 24, .blk [.v (.int .i64 (0)), .v (.slice none (0) (0))] 24, .blk [.v (.int .i64 (0)), .v (.int .i64 (0)), .v (.int .i64 (0)), .v (.string ⟨⟨[]⟩⟩), .v (.string ⟨⟨[]⟩⟩), .v (.slice none (0) (0)), .v (.bool (false))] 81, .blk [.v (.int .i64 ((atI x1.Parts x7.1).Id)), .v (.string ⟨⟨(atI x1.Parts x7.1).From⟩⟩), .v (.int .i64 ((atI x1.Parts x7.1).Node)), .v (.int .i64 ((atI x1.Parts x7.1).Dest)), .v (.string ⟨⟨(atI x1.Parts x7.1).Done⟩⟩)] 60, .blk [.v (.string ⟨⟨(atI x1.Parts x7.1).Done⟩⟩), .v (.string ⟨⟨x10.1.To⟩⟩)] 79]) rfl ⟨rfl, rfl, rfl, rfl, rfl, rfl, rfl, rfl, rfl, rfl, rfl, rfl, rfl, trivial⟩ rfl rfl rfl ?_
       exact Exec.round [(1, .v (.slice a4 ((x3).length) (k4))), (2, .v (.int .i64 (x5))), (3, .v (.int .i64 (x6))), (4, .ptr 0 0), (8, .ptr 1 0), (10, .ptr 2 0), (12, .v (.int .i64 (x7.1))), (14, .ptr 3 0), (15, .ptr 4 0), (17, .v (.slice a68 ((x67).length) (k68))), (52, .v (.slice a4 ((x3).length) (k4))), (53, .v (.int .i64 ((((x3).length : Nat) : Int)))), (54, .v (.int .i64 (x53)))] ⟨rfl, rfl, rfl, rfl, rfl, rfl, rfl, rfl, rfl, rfl, rfl, rfl, rfl, trivial⟩ ⟨x67, a68, k68, rfl, rfl, h68, h70, h74, hF⟩
      ·refine Exec.ifF rfl hb ?_
       refine xr rfl ?_
       refine Exec.cut 5 [(1, .v (.slice a4 ((x3).length) (k4))), (2, .v (.int .i64 (x5))), (3, .v (.int .i64 (x6))), (4, .ptr 0 0), (8, .ptr 1 0), (10, .ptr 2 0), (12, .v (.int .i64 (x7.1))), (14, .ptr 3 0), (15, .ptr 4 0), (17, .v (.slice a52 ((x51).length) (k52))), (52, .v (.slice a4 ((x3).length) (k4))), (53, .v (.int .i64 ((((x3).length : Nat) : Int)))), (54, .v (.int .i64 (x53)))] (M' := [.blk [.v (.int .i64 (x1.Version)), .v (.slice a2 ((x1.Parts).length) (k2))] 24, .blk [.v (.int .i64 (0)), .v (.slice none (0) (0))] 24, .blk [.v (.int .i64 (0)), .v (.int .i64 (0)), .v (.int .i64 (0)), .v (.string ⟨⟨[]⟩⟩), .v (.string ⟨⟨[]⟩⟩), .v (.slice none (0) (0)), .v (.bool (false))] 81, .blk [.v (.int .i64 ((atI x1.Parts x7.1).Id)), .v (.string ⟨⟨(atI x1.Parts x7.1).From⟩⟩), .v (.int .i64 ((atI x1.Parts x7.1).Node)), .v (.int .i64 ((atI x1.Parts x7.1).Dest)), .v (.string ⟨⟨(atI x1.Parts x7.1).Done⟩⟩)] 60, .blk [.v (.string ⟨⟨(atI x1.Parts x7.1).Done⟩⟩), .v (.string ⟨⟨x10.1.To⟩⟩)] 79]) rfl ⟨rfl, rfl, rfl, rfl, rfl, rfl, rfl, rfl, rfl, rfl, rfl, rfl, rfl, trivial⟩ rfl rfl rfl ?_
       exact Exec.round [(1, .v (.slice a4 ((x3).length) (k4))), (2, .v (.int .i64 (x5))), (3, .v (.int .i64 (x6))), (4, .ptr 0 0), (8, .ptr 1 0), (10, .ptr 2 0), (12, .v (.int .i64 (x7.1))), (14, .ptr 3 0), (15, .ptr 4 0), (17, .v (.slice a52 ((x51).length) (k52))), (52, .v (.slice a4 ((x3).length) (k4))), (53, .v (.int .i64 ((((x3).length : Nat) : Int)))), (54, .v (.int .i64 (x53)))] ⟨rfl, rfl, rfl, rfl, rfl, rfl, rfl, rfl, rfl, rfl, rfl, rfl, rfl, trivial⟩ ⟨x51, a52, k52, rfl, rfl, h52, h56, h57, hF⟩
    ·refine Exec.ifF rfl hb ?_
     refine xr rfl ?_
     exact Exec.round [(1, .v (.slice a4 ((x3).length) (k4))), (2, .v (.int .i64 (x5))), (3, .v (.int .i64 (x6))), (4, .ptr 0 0), (8, .ptr 1 0), (10, .ptr 2 0), (12, .v (.int .i64 (x7.1))), (14, .ptr 3 0), (15, .ptr 4 0), (17, .v (.slice a52 ((x51).length) (k52)))] ⟨rfl, rfl, rfl, rfl, rfl, rfl, rfl, rfl, rfl, rfl, trivial⟩ ⟨x51, a52, k52, rfl, rfl, h52, h56, h57, hF⟩
def F_clockworkref35_Advise_L1 (x1 : TPlacement) (x19 : List Int) (x26 : List Int) (J35 : TMarker → Option (TMarker × Bool)) : Nat → TMarker → Int → Option (TMarker × Bool)
 | 0, _, _ => none
 | n42 + 1, x40, x41 => (cond (decide ((IntKind.i64.wrap (x41 + (1 : Int))) < (((x1.Parts).length : Nat) : Int))) (req (0 ≤ x41 ∧ x41 < ((x1.Parts).length : Int)) (req (0 ≤ (IntKind.i64.wrap (x41 + (1 : Int))) ∧ (IntKind.i64.wrap (x41 + (1 : Int))) < ((x1.Parts).length : Int)) (req (((((atI x1.Parts x41).Node == (atI x1.Parts ((IntKind.i64.wrap (x41 + (1 : Int))))).Node)) == true) = true → 0 ≤ x41 ∧ x41 < ((x19).length : Int)) (req (((((atI x1.Parts x41).Node == (atI x1.Parts ((IntKind.i64.wrap (x41 + (1 : Int))))).Node)) == true) = true → 0 ≤ (IntKind.i64.wrap (x41 + (1 : Int))) ∧ (IntKind.i64.wrap (x41 + (1 : Int))) < ((x19).length : Int)) (bnd (some ((((atI x1.Parts x41).Node == (atI x1.Parts ((IntKind.i64.wrap (x41 + (1 : Int))))).Node) && (decide ((IntKind.i64.wrap ((cond ((((atI x1.Parts x41).Node == (atI x1.Parts ((IntKind.i64.wrap (x41 + (1 : Int))))).Node)) == true) (atI x19 x41) default) + (cond ((((atI x1.Parts x41).Node == (atI x1.Parts ((IntKind.i64.wrap (x41 + (1 : Int))))).Node)) == true) (atI x19 ((IntKind.i64.wrap (x41 + (1 : Int))))) default))) ≤ (8 : Int)))))) fun x56 => (req (((x56) == true) = true → 0 ≤ x41 ∧ x41 < ((x26).length : Int)) (req ((((x56 && (decide ((cond ((x56) == true) (atI x26 x41) default) ≤ (16 : Int))))) == true) = true → 0 ≤ (IntKind.i64.wrap (x41 + (1 : Int))) ∧ (IntKind.i64.wrap (x41 + (1 : Int))) < ((x26).length : Int)) (cond ((x56 && (decide ((cond ((x56) == true) (atI x26 x41) default) ≤ (16 : Int)))) && (decide ((cond (((x56 && (decide ((cond ((x56) == true) (atI x26 x41) default) ≤ (16 : Int))))) == true) (atI x26 ((IntKind.i64.wrap (x41 + (1 : Int))))) default) ≤ (16 : Int)))) (req (0 ≤ x41 ∧ x41 < ((x1.Parts).length : Int)) (some ((⟨(2 : Int), (atI x1.Parts x41).Id, 0, 0, 0, []⟩ : TMarker), true))) (F_clockworkref35_Advise_L1 x1 x19 x26 J35 n42 x40 ((IntKind.i64.wrap (x41 + (1 : Int))))))))))))) (J35 x40))
def F_clockworkref35_Advise (x1 : TPlacement) (x3 : List TShard) (x5 : List THeat) (x7 : Int) : Option (TMarker × Bool) :=
 (bnd (F_clockworkref32_Valid x1 x3) fun x8 => (bnd (gcall (((!x8)) == false) (F_clockworkref34_Valid x5)) fun x9 => (cond (((((!x8) || (!x9)) || (decide (x7 < (1 : Int)))) || (decide ((16 : Int) < x7))) || (x1.Version == (1099511627776 : Int))) (some ((⟨0, 0, 0, 0, 0, []⟩ : TMarker), false)) (bnd (F_clockworkref33_Moving x1) fun x10 => (cond (decide ((0 : Int) < (((x10).length : Nat) : Int))) (req (0 ≤ (0 : Int) ∧ (0 : Int) < ((x10).length : Int)) (some ((⟨(4 : Int), (atI x10 ((0 : Int))), 0, 0, (16 : Int), []⟩ : TMarker), true))) (bnd (F_clockworkref35_split x1 x3 x5) fun x18 => (cond x18.2 (some (x18.1, true)) (bnd (F_clockworkref35_Sizes x1 x3) fun x19 => (bnd (F_clockworkref35_Loads x1 x5) fun x26 => (jn (fun (x34 : TMarker) => (bnd (F_clockworkref35_move x1 x3 x7) fun x39 => (some (x39.1, x39.2)))) (fun J35 => (F_clockworkref35_Advise_L1 x1 x19 x26 J35 (((((x1.Parts).length : Nat) : Int)).toNat + 1) ((default : TMarker)) ((0 : Int))))))))))))))
theorem W_clockworkref35_Advise {V : View} (x1 : TPlacement) (x3 : List TShard) (x5 : List THeat) (x7 : Int) {a2 : Option Addr} {k2 : Nat} {a4 : Option Addr} {k4 : Nat} {a6 : Option Addr} {k6 : Nat} (h2 : SlAt cTPart V a2 k2 x1.Parts) (h4 : SlAt cTShard V a4 k4 x3) (h6 : SlAt cTHeat V a6 k6 x5) {r : TMarker × Bool} (hF : F_clockworkref35_Advise x1 x3 x5 x7 = some r) :
  Spec Tryz.prog 23 [.agg ⟨[.int .i64 (x1.Version), .slice a2 ((x1.Parts).length) (k2)]⟩, .slice a4 ((x3).length) (k4), .slice a6 ((x5).length) (k6), .int .i64 (x7)] V (fun _ v => v = .tuple ⟨[.agg ⟨[.int .i64 (r.1.Kind), .int .i64 (r.1.Part), .int .i64 (r.1.New), .int .i64 (r.1.Node), .int .i64 (r.1.N), .string ⟨⟨r.1.Key⟩⟩]⟩, .bool (r.2)]⟩) := by
 unfold F_clockworkref35_Advise at hF
 refine Spec.enter (T := tyT) Tryz.func23 rfl (by kernel_rfl) rfl rfl rfl ?_
 refine xr rfl ?_
 obtain ⟨x8, hx8, hF⟩ := bnd_some hF
 refine Exec.callS (.bool (x8)) rfl rfl (W_clockworkref32_Valid x1 x3 h2 h4 hx8) ?_
 refine xr rfl ?_
 obtain ⟨x9, hx9, hF⟩ := bnd_some hF
 refine Exec.callS (.bool (x9)) rfl rfl (fun gg0 => W_clockworkref34_Valid x5 h6 (gcall_some hx9 (gd1_of gg0))) ?_
 refine xr rfl ?_
 rcases cond_some hF with ⟨hb, hF⟩ | ⟨hb, hF⟩
 ·refine Exec.ifT rfl hb ?_
  refine xr rfl ?_
  obtain rfl := some_inj hF
  exact Exec.ret tyOk rfl rfl rfl
 ·refine Exec.ifF rfl hb ?_
  refine xr rfl ?_
  obtain ⟨x10, hx10, hF⟩ := bnd_some hF
  refine Exec.call rfl rfl (W_clockworkref33_Moving x1 h2 hx10) ?_
  rintro V12 _ hv12 ⟨a11, k11, rfl, h11⟩
  have h13 := SlAt.mono h2 hv12
  have h14 := SlAt.mono h4 hv12
  have h15 := SlAt.mono h6 hv12
  refine xr rfl ?_
  rcases cond_some hF with ⟨hb, hF⟩ | ⟨hb, hF⟩
  ·refine Exec.ifT rfl hb ?_
   refine xr rfl ?_
   obtain ⟨q16, hF⟩ := req_some hF
   obtain ⟨c17, hr17, hd17⟩ := SlAt.get h11 q16
   obtain rfl := hr17
   refine Exec.ia tyOk rfl rfl ⟨q16.1, q16.2, hd17.some⟩ ?_
   refine xr rfl ?_
   refine Exec.ld tyOk (x := .int .i64 ((atI x10 ((0 : Int))))) rfl rfl hd17 rfl rfl ?_
   refine xr rfl ?_
   obtain rfl := some_inj hF
   exact Exec.ret tyOk rfl rfl rfl
  ·refine Exec.ifF rfl hb ?_
   refine xr rfl ?_
   obtain ⟨x18, hx18, hF⟩ := bnd_some hF
   refine Exec.callS (.tuple ⟨[.agg ⟨[.int .i64 (x18.1.Kind), .int .i64 (x18.1.Part), .int .i64 (x18.1.New), .int .i64 (x18.1.Node), .int .i64 (x18.1.N), .string ⟨⟨x18.1.Key⟩⟩]⟩, .bool (x18.2)]⟩) rfl rfl (W_clockworkref35_split x1 x3 x5 h13 h14 h15 hx18) ?_
   refine xr rfl ?_
   rcases cond_some hF with ⟨hb, hF⟩ | ⟨hb, hF⟩
   ·refine Exec.ifT rfl hb ?_
    refine xr rfl ?_
    obtain rfl := some_inj hF
    exact Exec.ret tyOk rfl rfl rfl
   ·refine Exec.ifF rfl hb ?_
    refine xr rfl ?_
    obtain ⟨x19, hx19, hF⟩ := bnd_some hF
    refine Exec.call rfl rfl (W_clockworkref35_Sizes x1 x3 h13 h14 hx19) ?_
    rintro V21 _ hv21 ⟨a20, k20, rfl, h20⟩
    have h22 := SlAt.mono h13 hv21
    have h23 := SlAt.mono h14 hv21
    have h24 := SlAt.mono h15 hv21
    have h25 := SlAt.mono h11 hv21
    refine xr rfl ?_
    obtain ⟨x26, hx26, hF⟩ := bnd_some hF
    refine Exec.call rfl rfl (W_clockworkref35_Loads x1 x5 h22 h24 hx26) ?_
    rintro V28 _ hv28 ⟨a27, k27, rfl, h27⟩
    have h29 := SlAt.mono h22 hv28
    have h30 := SlAt.mono h23 hv28
    have h31 := SlAt.mono h24 hv28
    have h32 := SlAt.mono h25 hv28
    have h33 := SlAt.mono h20 hv28
    refine Exec.run tyOk 7 rfl ?_
    obtain ⟨J35, hJ35, hF⟩ := jn_some hF
    refine Exec.seam (fun L' V' M' => ∃ (x34 : TMarker), L' = [(1, .v (.slice a4 ((x3).length) (k4))), (3, .v (.int .i64 (x7))), (4, .ptr 0 0), (8, .ptr 1 0)] ∧ M' = [.blk [.v (.int .i64 (x1.Version)), .v (.slice a2 ((x1.Parts).length) (k2))] 24, .blk [.v (.int .i64 (x34.Kind)), .v (.int .i64 (x34.Part)), .v (.int .i64 (x34.New)), .v (.int .i64 (x34.Node)), .v (.int .i64 (x34.N)), .v (.string ⟨⟨x34.Key⟩⟩)] 27] ∧ SlAt cTShard V' a4 k4 x3 ∧ SlAt cTPart V' a2 k2 x1.Parts ∧ J35 x34 = some r) rfl ?_ ?_
    ·rintro L' V36 M' ⟨x34, rfl, rfl, h37, h38, hF⟩
     subst hJ35
     refine xr rfl ?_
     obtain ⟨x39, hx39, hF⟩ := bnd_some hF
     refine Exec.callS (.tuple ⟨[.agg ⟨[.int .i64 (x39.1.Kind), .int .i64 (x39.1.Part), .int .i64 (x39.1.New), .int .i64 (x39.1.Node), .int .i64 (x39.1.N), .string ⟨⟨x39.1.Key⟩⟩]⟩, .bool (x39.2)]⟩) rfl rfl (W_clockworkref35_move x1 x3 x7 h38 h37 hx39) ?_
     refine xr rfl ?_
     obtain rfl := some_inj hF
     exact Exec.ret tyOk rfl rfl rfl
    ·refine xr rfl ?_
     refine Exec.cut 2 [(1, .v (.slice a4 ((x3).length) (k4))), (3, .v (.int .i64 (x7))), (4, .ptr 0 0), (8, .ptr 1 0), (13, .v (.slice a20 ((x19).length) (k20))), (14, .v (.slice a27 ((x26).length) (k27))), (15, .v (.int .i64 ((0 : Int))))] (M' := [.blk [.v (.int .i64 (x1.Version)), .v (.slice a2 ((x1.Parts).length) (k2))] 24, .blk [.v (.int .i64 (0)), .v (.int .i64 (0)), .v (.int .i64 (0)), .v (.int .i64 (0)), .v (.int .i64 (0)), .v (.string ⟨⟨[]⟩⟩)] 27]) rfl ⟨rfl, rfl, rfl, rfl, rfl, rfl, rfl, trivial⟩ rfl rfl rfl ?_
     refine Exec.loop (fun n42 L' V' M' => ∃ (x40 : TMarker) (x41 : Int), L' = [(1, .v (.slice a4 ((x3).length) (k4))), (3, .v (.int .i64 (x7))), (4, .ptr 0 0), (8, .ptr 1 0), (13, .v (.slice a20 ((x19).length) (k20))), (14, .v (.slice a27 ((x26).length) (k27))), (15, .v (.int .i64 (x41)))] ∧ M' = [.blk [.v (.int .i64 (x1.Version)), .v (.slice a2 ((x1.Parts).length) (k2))] 24, .blk [.v (.int .i64 (x40.Kind)), .v (.int .i64 (x40.Part)), .v (.int .i64 (x40.New)), .v (.int .i64 (x40.Node)), .v (.int .i64 (x40.N)), .v (.string ⟨⟨x40.Key⟩⟩)] 27] ∧ SlAt cTShard V' a4 k4 x3 ∧ SlAt (cInt .i64) V' a20 k20 x19 ∧ SlAt (cInt .i64) V' a27 k27 x26 ∧ SlAt cTPart V' a2 k2 x1.Parts ∧ F_clockworkref35_Advise_L1 x1 x19 x26 J35 n42 x40 x41 = some r) ⟨(((((x1.Parts).length : Nat) : Int)).toNat + 1), [(1, .v (.slice a4 ((x3).length) (k4))), (3, .v (.int .i64 (x7))), (4, .ptr 0 0), (8, .ptr 1 0), (13, .v (.slice a20 ((x19).length) (k20))), (14, .v (.slice a27 ((x26).length) (k27))), (15, .v (.int .i64 ((0 : Int))))], ⟨rfl, rfl, rfl, rfl, rfl, rfl, rfl, trivial⟩, (default : TMarker), (0 : Int), rfl, rfl, h30, h33, h27, h29, hF⟩ ?_
     rintro n42 L' V43 M' ⟨x40, x41, rfl, rfl, h44, h45, h46, h47, hF⟩
     rcases n42 with _ | n42
     ·exact absurd hF (by simp [F_clockworkref35_Advise_L1])
     rw [F_clockworkref35_Advise_L1] at hF
     refine xr rfl ?_
     rcases cond_some hF with ⟨hb, hF⟩ | ⟨hb, hF⟩
     ·refine Exec.ifT rfl hb ?_
      refine xr rfl ?_
      refine Exec.draws tyOk [(0, true), (1, true), (2, true), (3, true), (4, true), (5, true), (6, true), (7, true), (8, true), (9, true), (10, true), (11, true), (12, true), (13, true), (14, true), (15, true), (16, true), (17, true), (18, true), (19, true), (20, true), (21, true), (22, true), (23, true), (24, true), (25, true), (26, true), (27, true), (28, true), (29, true), (30, true), (31, true), (32, true), (33, true), (34, true), (35, true), (36, true), (37, true), (38, true), (39, true), (40, true), (41, true)] rfl (by kernel_rfl) ?_
      refine xr rfl ?_
      obtain ⟨q48, hF⟩ := req_some hF
      obtain ⟨c49, hr49, hd49⟩ := SlAt.get h47 q48
      obtain rfl := hr49
      refine Exec.fia tyOk rfl rfl rfl ⟨q48.1, q48.2, hd49.some⟩ ?_
      refine xr rfl ?_
      refine Exec.fld tyOk (x := .int .i64 ((atI x1.Parts x41).Node)) rfl rfl rfl (RdAt.part hd49 2 1 rfl) rfl rfl ?_
      refine xr rfl ?_
      obtain ⟨q50, hF⟩ := req_some hF
      obtain ⟨c51, hr51, hd51⟩ := SlAt.get h47 q50
      obtain rfl := hr51
      refine Exec.fia tyOk rfl rfl rfl ⟨q50.1, q50.2, hd51.some⟩ ?_
      refine xr rfl ?_
      refine Exec.fld tyOk (x := .int .i64 ((atI x1.Parts ((IntKind.i64.wrap (x41 + (1 : Int))))).Node)) rfl rfl rfl (RdAt.part hd51 2 1 rfl) rfl rfl ?_
      refine xr rfl ?_
      obtain ⟨q52, hF⟩ := req_some hF
      obtain ⟨c53, hr53, hd53⟩ := SlAt.gget ((((atI x1.Parts x41).Node == (atI x1.Parts ((IntKind.i64.wrap (x41 + (1 : Int))))).Node)) == true) h45 q52
      obtain rfl := hr53
      refine Exec.fia tyOk rfl rfl rfl (fun gg0 => ⟨(q52 (gd1_of gg0)).1, (q52 (gd1_of gg0)).2, (hd53 (gd1_of gg0)).some⟩) ?_
      refine xr rfl ?_
      refine Exec.fld tyOk (x := .int .i64 ((cond ((((atI x1.Parts x41).Node == (atI x1.Parts ((IntKind.i64.wrap (x41 + (1 : Int))))).Node)) == true) (atI x19 x41) default))) rfl rfl rfl (fun gg0 => (hd53 (gd1_of gg0))) rfl rfl ?_
      refine xr rfl ?_
      obtain ⟨q54, hF⟩ := req_some hF
      obtain ⟨c55, hr55, hd55⟩ := SlAt.gget ((((atI x1.Parts x41).Node == (atI x1.Parts ((IntKind.i64.wrap (x41 + (1 : Int))))).Node)) == true) h45 q54
      obtain rfl := hr55
      refine Exec.fia tyOk rfl rfl rfl (fun gg0 => ⟨(q54 (gd1_of gg0)).1, (q54 (gd1_of gg0)).2, (hd55 (gd1_of gg0)).some⟩) ?_
      refine xr rfl ?_
      refine Exec.fld tyOk (x := .int .i64 ((cond ((((atI x1.Parts x41).Node == (atI x1.Parts ((IntKind.i64.wrap (x41 + (1 : Int))))).Node)) == true) (atI x19 ((IntKind.i64.wrap (x41 + (1 : Int))))) default))) rfl rfl rfl (fun gg0 => (hd55 (gd1_of gg0))) rfl rfl ?_
      refine Exec.run tyOk 3 rfl ?_
      obtain ⟨x56, hx56, hF⟩ := bnd_some hF
      refine Exec.nameD (some_inj hx56) 97 rfl rfl rfl rfl ?_
      refine xr rfl ?_
      obtain ⟨q57, hF⟩ := req_some hF
      obtain ⟨c58, hr58, hd58⟩ := SlAt.gget ((x56) == true) h46 q57
      obtain rfl := hr58
      refine Exec.fia tyOk rfl rfl rfl (fun gg0 => ⟨(q57 (gd1_of gg0)).1, (q57 (gd1_of gg0)).2, (hd58 (gd1_of gg0)).some⟩) ?_
      refine xr rfl ?_
      refine Exec.fld tyOk (x := .int .i64 ((cond ((x56) == true) (atI x26 x41) default))) rfl rfl rfl (fun gg0 => (hd58 (gd1_of gg0))) rfl rfl ?_
      refine xr rfl ?_
      obtain ⟨q59, hF⟩ := req_some hF
      obtain ⟨c60, hr60, hd60⟩ := SlAt.gget (((x56 && (decide ((cond ((x56) == true) (atI x26 x41) default) ≤ (16 : Int))))) == true) h46 q59
      obtain rfl := hr60
      refine Exec.fia tyOk rfl rfl rfl (fun gg0 => ⟨(q59 (gd1_of gg0)).1, (q59 (gd1_of gg0)).2, (hd60 (gd1_of gg0)).some⟩) ?_
      refine xr rfl ?_
      refine Exec.fld tyOk (x := .int .i64 ((cond (((x56 && (decide ((cond ((x56) == true) (atI x26 x41) default) ≤ (16 : Int))))) == true) (atI x26 ((IntKind.i64.wrap (x41 + (1 : Int))))) default))) rfl rfl rfl (fun gg0 => (hd60 (gd1_of gg0))) rfl rfl ?_
      refine xr rfl ?_
      rcases cond_some hF with ⟨hb, hF⟩ | ⟨hb, hF⟩
      ·refine Exec.ifT rfl hb ?_
       refine xr rfl ?_
       obtain ⟨q61, hF⟩ := req_some hF
       obtain ⟨c62, hr62, hd62⟩ := SlAt.get h47 q61
       obtain rfl := hr62
       refine Exec.ia tyOk rfl rfl ⟨q61.1, q61.2, hd62.some⟩ ?_
       refine xr rfl ?_
       refine Exec.ld tyOk (x := .int .i64 ((atI x1.Parts x41).Id)) rfl rfl (RdAt.part hd62 0 1 rfl) rfl rfl ?_
       refine xr rfl ?_
       obtain rfl := some_inj hF
       exact Exec.ret tyOk rfl rfl rfl
      ·refine Exec.ifF rfl hb ?_
       refine xr rfl ?_
       exact Exec.round [(1, .v (.slice a4 ((x3).length) (k4))), (3, .v (.int .i64 (x7))), (4, .ptr 0 0), (8, .ptr 1 0), (13, .v (.slice a20 ((x19).length) (k20))), (14, .v (.slice a27 ((x26).length) (k27))), (15, .v (.int .i64 ((IntKind.i64.wrap (x41 + (1 : Int))))))] ⟨rfl, rfl, rfl, rfl, rfl, rfl, rfl, trivial⟩ ⟨n42, Nat.lt_succ_self _, x40, (IntKind.i64.wrap (x41 + (1 : Int))), rfl, rfl, h44, h45, h46, h47, hF⟩
     ·refine Exec.ifF rfl hb ?_
      refine xr rfl ?_
      exact Exec.round [(1, .v (.slice a4 ((x3).length) (k4))), (3, .v (.int .i64 (x7))), (4, .ptr 0 0), (8, .ptr 1 0)] ⟨rfl, rfl, rfl, rfl, trivial⟩ ⟨x40, rfl, rfl, h44, h47, hF⟩
def F_rebalance_board_chunk (x1 : Tboard) : Option (TPlacement × List TShard × Int) :=
 (bnd (F_migrate_Chunk ((⟨x1.p.Version, x1.p.Parts⟩ : TPlacement)) x1.l x1.m.Part x1.m.N) fun x4 => (cond (x4.2.2.2 != (0 : Int)) (some ((⟨0, ([] : List TPart)⟩ : TPlacement), ([] : List TShard), x4.2.2.2)) (some (x4.1, x4.2.1, (0 : Int)))))
theorem W_rebalance_board_chunk {V : View} (x1 : Tboard) {a2 : Option Addr} {k2 : Nat} {a3 : Option Addr} {k3 : Nat} (h2 : SlAt cTPart V a2 k2 x1.p.Parts) (h3 : SlAt cTShard V a3 k3 x1.l) {r : TPlacement × List TShard × Int} (hF : F_rebalance_board_chunk x1 = some r) :
  Spec Tryz.prog 29 [.agg ⟨[.int .i64 (x1.p.Version), .slice a2 ((x1.p.Parts).length) (k2), .slice a3 ((x1.l).length) (k3), .int .i64 (x1.m.Kind), .int .i64 (x1.m.Part), .int .i64 (x1.m.New), .int .i64 (x1.m.Node), .int .i64 (x1.m.N), .string ⟨⟨x1.m.Key⟩⟩]⟩] V (fun V' v => ∃ (a11 : Option Addr) (k11 : Nat) (a12 : Option Addr) (k12 : Nat), v = .tuple ⟨[.agg ⟨[.int .i64 (r.1.Version), .slice a11 ((r.1.Parts).length) (k11)]⟩, .slice a12 ((r.2.1).length) (k12), .int .i64 (r.2.2)]⟩ ∧ SlAt cTPart V' a11 k11 r.1.Parts ∧ SlAt cTShard V' a12 k12 r.2.1) := by
 unfold F_rebalance_board_chunk at hF
 refine Spec.enter (T := tyT) Tryz.func29 rfl (by kernel_rfl) rfl rfl rfl ?_
 refine xr rfl ?_
 obtain ⟨x4, hx4, hF⟩ := bnd_some hF
 refine Exec.call rfl rfl (W_migrate_Chunk ((⟨x1.p.Version, x1.p.Parts⟩ : TPlacement)) x1.l x1.m.Part x1.m.N h2 h3 hx4) ?_
 rintro V8 _ hv8 ⟨a5, k5, a6, k6, a7, k7, rfl, h5, h6, h7⟩
 have h9 := SlAt.mono h2 hv8
 have h10 := SlAt.mono h3 hv8
 refine xr rfl ?_
 rcases cond_some hF with ⟨hb, hF⟩ | ⟨hb, hF⟩
 ·refine Exec.ifT rfl hb ?_
  refine xr rfl ?_
  obtain rfl := some_inj hF
  exact Exec.ret tyOk rfl rfl ⟨_, _, _, _, rfl, SlAt.nil, SlAt.nil⟩
 ·refine Exec.ifF rfl hb ?_
  refine xr rfl ?_
  obtain rfl := some_inj hF
  exact Exec.ret tyOk rfl rfl ⟨_, _, _, _, rfl, h5, h6⟩
def F_clockworkref33_Chunk (x1 : TPlacement) (x3 : List TShard) (x5 : Int) (x6 : Int) : Option (TPlacement × List TShard × TChunk × Int) :=
 (cond (decide (x6 < (1 : Int))) (some ((⟨0, ([] : List TPart)⟩ : TPlacement), ([] : List TShard), (⟨0, 0, 0, (default : TRange), ([] : List TPair), false⟩ : TChunk), (1 : Int))) (bnd (F_clockworkref33_find x1 x3 x5) fun x7 => (cond (x7.2 != (0 : Int)) (some ((⟨0, ([] : List TPart)⟩ : TPlacement), ([] : List TShard), (⟨0, 0, 0, (default : TRange), ([] : List TPair), false⟩ : TChunk), x7.2)) (req (0 ≤ x7.1 ∧ x7.1 < ((x1.Parts).length : Int)) (bnd (F_clockworkref32_Gather x3) fun x10 => (bnd (F_clockworkref29_Range x1 x5) fun x16 => (bnd (F_clockworkref06_Slice x10.1 ((⟨(atI x1.Parts x7.1).Done, x16.1.To⟩ : TRange))) fun x17 => (jn (fun (x52 : TPart) (x53 : TChunk) => (bnd (F_clockworkref33_with x1 x7.1 x52) fun x59 => (bnd (F_clockworkref32_Load x59 x10.1) fun x65 => (some (x59, x65, x53, (0 : Int)))))) (fun J55 => (cond (decide ((((x17).length : Nat) : Int) ≤ x6)) (J55 ((⟨(atI x1.Parts x7.1).Id, (atI x1.Parts x7.1).From, (atI x1.Parts x7.1).Dest, (0 : Int), ([] : Str)⟩ : TPart)) ((⟨x5, (atI x1.Parts x7.1).Node, (atI x1.Parts x7.1).Dest, (⟨(atI x1.Parts x7.1).Done, x16.1.To⟩ : TRange), x17, (decide ((((x17).length : Nat) : Int) ≤ x6))⟩ : TChunk))) (req (true = true → 0 ≤ (0 : Int) ∧ (0 : Int) ≤ x6 ∧ x6 ≤ ((x17).length : Int)) (req (((([] : List TPair) ++ (cond true ((x17.take (x6).toNat).drop ((0 : Int)).toNat) ([] : List TPair)))).length * 48 ≤ 140737488355328) (req (0 ≤ x6 ∧ x6 < ((x17).length : Int)) (J55 ((⟨(atI x1.Parts x7.1).Id, (atI x1.Parts x7.1).From, (atI x1.Parts x7.1).Node, (atI x1.Parts x7.1).Dest, (atI x17 x6).Key⟩ : TPart)) ((⟨x5, (atI x1.Parts x7.1).Node, (atI x1.Parts x7.1).Dest, (⟨(atI x1.Parts x7.1).Done, (atI x17 x6).Key⟩ : TRange), (([] : List TPair) ++ (cond true ((x17.take (x6).toNat).drop ((0 : Int)).toNat) ([] : List TPair))), (decide ((((x17).length : Nat) : Int) ≤ x6))⟩ : TChunk))))))))))))))))
section
open Go.RowKit Go.Proofs
theorem cells_at1 {cs : List Value} {off : Nat} {x : Value} (h : cs[off]? = some x) : CellsAt cs off [x] := fun j v hj => by
 cases j with
 | zero => rw [Nat.add_zero, h]; simpa using hj
 | succ j => simp at hj
theorem run_bldA (w : World) : (Instr.build 67 ⟨[(0, .func (.func 26) #[] #[]), (1, .func (.func 27) #[] #[]), (2, .func (.func 28) #[] #[]), (3, .func (.func 29) #[] #[])]⟩).run Tryz.prog w = .ok (.agg ⟨[.func (.func 26) #[] #[], .func (.func 27) #[] #[], .func (.func 28) #[] #[], .func (.func 29) #[] #[]]⟩) w := by
 simp [Instr.build, Tryz.zeroValue67, run_underlying Tryz.underlying67, Tryz.sizeOf63, Instr.fill, Value.cells]
def F_rebalance_Apply (x1 : TPlacement) (x3 : List TShard) (x5 : TMarker) : Option (TPlacement × List TShard × Int) :=
 (bnd (F_dist_Valid x1 x3) fun x6 => (bnd (gcall (((!x6)) == false) (F_rebalance_plain x5)) fun x7 => (cond ((!x6) || (!x7)) (some ((⟨0, ([] : List TPart)⟩ : TPlacement), ([] : List TShard), (1 : Int)))
  (if x5.Kind = 1 then F_rebalance_board_split ⟨x1, x3, x5⟩ else if x5.Kind = 2 then F_rebalance_board_merge ⟨x1, x3, x5⟩ else if x5.Kind = 3 then F_rebalance_board_move ⟨x1, x3, x5⟩ else if x5.Kind = 4 then F_rebalance_board_chunk ⟨x1, x3, x5⟩ else none))))
theorem W_rebalance_Apply {V : View} (x1 : TPlacement) (x3 : List TShard) (x5 : TMarker) {a2 : Option Addr} {k2 : Nat} {a4 : Option Addr} {k4 : Nat} (h2 : SlAt cTPart V a2 k2 x1.Parts) (h4 : SlAt cTShard V a4 k4 x3) {r : TPlacement × List TShard × Int} (hF : F_rebalance_Apply x1 x3 x5 = some r) :
  Spec Tryz.prog 10 [.agg ⟨[.int .i64 (x1.Version), .slice a2 ((x1.Parts).length) (k2)]⟩, .slice a4 ((x3).length) (k4), .agg ⟨[.int .i64 (x5.Kind), .int .i64 (x5.Part), .int .i64 (x5.New), .int .i64 (x5.Node), .int .i64 (x5.N), .string ⟨⟨x5.Key⟩⟩]⟩] V (fun V' v => ∃ (a14 : Option Addr) (k14 : Nat) (a15 : Option Addr) (k15 : Nat), v = .tuple ⟨[.agg ⟨[.int .i64 (r.1.Version), .slice a14 ((r.1.Parts).length) (k14)]⟩, .slice a15 ((r.2.1).length) (k15), .int .i64 (r.2.2)]⟩ ∧ SlAt cTPart V' a14 k14 r.1.Parts ∧ SlAt cTShard V' a15 k15 r.2.1) := by
 unfold F_rebalance_Apply at hF
 refine Spec.enter (T := tyT) Tryz.func10 rfl (by kernel_rfl) rfl rfl rfl ?_
 refine xr rfl ?_
 obtain ⟨x6, hx6, hF⟩ := bnd_some hF
 refine Exec.callS (.bool (x6)) rfl rfl (W_dist_Valid x1 x3 h2 h4 hx6) ?_
 refine xr rfl ?_
 obtain ⟨x7, hx7, hF⟩ := bnd_some hF
 refine Exec.callS (.bool (x7)) rfl rfl (fun gg0 => W_rebalance_plain x5  (gcall_some hx7 (gd1_of gg0))) ?_
 refine xr rfl ?_
 rcases cond_some hF with ⟨hb, hF⟩ | ⟨hb, hF⟩
 ·refine Exec.ifT rfl hb ?_
  refine xr rfl ?_
  obtain rfl := some_inj hF
  exact Exec.ret tyOk rfl rfl ⟨_, _, _, _, rfl, SlAt.nil, SlAt.nil⟩
 ·refine Exec.ifF rfl hb ?_
  refine xr rfl ?_
  refine Exec.bldP rfl rfl rfl (run_bldA) ?_
  refine xr rfl ?_
  refine Exec.fixA 3 (n := 4) (sz := 1) rfl rfl rfl rfl rfl (fun _ => rfl) (fun _ => rfl) (fun b20 => ?_)
  have hx7' : x7 = true := by cases x7 <;> simp_all
  by_cases hk0 : x5.Kind = 1
  ·rw [if_pos hk0] at hF
   refine Exec.draws tyOk [(0, true), (1, true), (2, true), (3, true), (4, true), (5, true), (6, true), (7, true), (8, true), (9, false), (10, true), (11, true), (12, false), (13, false), (14, false), (15, false)] rfl (by kernel_rfl) ?_
   refine xr rfl ?_
   refine Exec.fiaA tyOk rfl rfl rfl (show 0 ≤ IntKind.i64.wrap (x5.Kind - 1) ∧ IntKind.i64.wrap (x5.Kind - 1) < ((4 : Nat) : Int) from by rw [hk0]; decide) ?_
   refine xr rfl ?_
   refine Exec.fldR tyOk 3 (x := .func (.func 26) #[] #[]) rfl rfl rfl rfl ⟨cells_at1 (by rw [hk0]; rfl), _, _, rfl⟩ rfl rfl ?_
   refine xr rfl ?_
   refine Exec.call rfl rfl (W_rebalance_board_split ((⟨x1, x3, x5⟩ : Tboard)) h2 h4 hF) ?_
   rintro V11 _ hv11 ⟨a9, k9, a10, k10, rfl, h9, h10⟩
   refine xr rfl ?_
   exact Exec.ret tyOk rfl rfl ⟨_, _, _, _, rfl, h9, h10⟩
  rw [if_neg hk0] at hF
  by_cases hk1 : x5.Kind = 2
  ·rw [if_pos hk1] at hF
   refine Exec.draws tyOk [(0, true), (1, true), (2, true), (3, true), (4, true), (5, true), (6, true), (7, true), (8, true), (9, false), (10, true), (11, true), (12, false), (13, false), (14, false), (15, false)] rfl (by kernel_rfl) ?_
   refine xr rfl ?_
   refine Exec.fiaA tyOk rfl rfl rfl (show 0 ≤ IntKind.i64.wrap (x5.Kind - 1) ∧ IntKind.i64.wrap (x5.Kind - 1) < ((4 : Nat) : Int) from by rw [hk1]; decide) ?_
   refine xr rfl ?_
   refine Exec.fldR tyOk 3 (x := .func (.func 27) #[] #[]) rfl rfl rfl rfl ⟨cells_at1 (by rw [hk1]; rfl), _, _, rfl⟩ rfl rfl ?_
   refine xr rfl ?_
   refine Exec.call rfl rfl (W_rebalance_board_merge ((⟨x1, x3, x5⟩ : Tboard)) h2 h4 hF) ?_
   rintro V11 _ hv11 ⟨a9, k9, a10, k10, rfl, h9, h10⟩
   refine xr rfl ?_
   exact Exec.ret tyOk rfl rfl ⟨_, _, _, _, rfl, h9, h10⟩
  rw [if_neg hk1] at hF
  by_cases hk2 : x5.Kind = 3
  ·rw [if_pos hk2] at hF
   refine Exec.draws tyOk [(0, true), (1, true), (2, true), (3, true), (4, true), (5, true), (6, true), (7, true), (8, true), (9, false), (10, true), (11, true), (12, false), (13, false), (14, false), (15, false)] rfl (by kernel_rfl) ?_
   refine xr rfl ?_
   refine Exec.fiaA tyOk rfl rfl rfl (show 0 ≤ IntKind.i64.wrap (x5.Kind - 1) ∧ IntKind.i64.wrap (x5.Kind - 1) < ((4 : Nat) : Int) from by rw [hk2]; decide) ?_
   refine xr rfl ?_
   refine Exec.fldR tyOk 3 (x := .func (.func 28) #[] #[]) rfl rfl rfl rfl ⟨cells_at1 (by rw [hk2]; rfl), _, _, rfl⟩ rfl rfl ?_
   refine xr rfl ?_
   refine Exec.call rfl rfl (W_rebalance_board_move ((⟨x1, x3, x5⟩ : Tboard)) h2 h4 hF) ?_
   rintro V11 _ hv11 ⟨a9, k9, a10, k10, rfl, h9, h10⟩
   refine xr rfl ?_
   exact Exec.ret tyOk rfl rfl ⟨_, _, _, _, rfl, h9, h10⟩
  rw [if_neg hk2] at hF
  by_cases hk3 : x5.Kind = 4
  ·rw [if_pos hk3] at hF
   refine Exec.draws tyOk [(0, true), (1, true), (2, true), (3, true), (4, true), (5, true), (6, true), (7, true), (8, true), (9, false), (10, true), (11, true), (12, false), (13, false), (14, false), (15, false)] rfl (by kernel_rfl) ?_
   refine xr rfl ?_
   refine Exec.fiaA tyOk rfl rfl rfl (show 0 ≤ IntKind.i64.wrap (x5.Kind - 1) ∧ IntKind.i64.wrap (x5.Kind - 1) < ((4 : Nat) : Int) from by rw [hk3]; decide) ?_
   refine xr rfl ?_
   refine Exec.fldR tyOk 3 (x := .func (.func 29) #[] #[]) rfl rfl rfl rfl ⟨cells_at1 (by rw [hk3]; rfl), _, _, rfl⟩ rfl rfl ?_
   refine xr rfl ?_
   refine Exec.call rfl rfl (W_rebalance_board_chunk ((⟨x1, x3, x5⟩ : Tboard)) h2 h4 hF) ?_
   rintro V11 _ hv11 ⟨a9, k9, a10, k10, rfl, h9, h10⟩
   refine xr rfl ?_
   exact Exec.ret tyOk rfl rfl ⟨_, _, _, _, rfl, h9, h10⟩
  rw [if_neg hk3] at hF
  cases hF
end
def F_clockworklaw35_lives_L1 (J22 : TPlacement → (List TShard) → Option Bool) : Nat → TPlacement → TMarker → (List TShard) → Int → Option Bool
 | 0, _, _, _, _ => none
 | n38 + 1, x32, x34, x35, x37 => (cond (decide (x37 < (3 : Int))) (bnd (F_rebalance_Apply x32 x35 x34) fun x40 => (bnd (F_rebalance_Advise x40.1 x40.2.1 (([] : List THeat)) ((2 : Int))) fun x46 => (cond (((x40.2.2 != (0 : Int)) || (!(x46.2 == (decide (x37 < (2 : Int)))))) || (x46.2 && (!((x46.1.Kind == (4 : Int)) && ((x46.1.Part == (1 : Int)) && ((x46.1.New == 0) && ((x46.1.Node == 0) && ((x46.1.N == (16 : Int)) && ((x46.1.Key == []) && true))))))))) (some false) (F_clockworklaw35_lives_L1 J22 n38 x40.1 x46.1 x40.2.1 ((IntKind.i64.wrap (x37 + (1 : Int)))))))) (J22 x32 x35))
def F_clockworklaw35_lives  : Option Bool :=
 (bnd (F_clockworklaw35_forty ) fun x2 => (bnd (F_rebalance_Advise ((⟨0, ([(⟨(1 : Int), [], (1 : Int), 0, []⟩ : TPart)] : List TPart)⟩ : TPlacement)) (([(⟨(1 : Int), x2⟩ : TShard)] : List TShard)) (([] : List THeat)) ((2 : Int))) fun x9 => (cond ((!x9.2) || (!((x9.1.Kind == (1 : Int)) && ((x9.1.Part == (1 : Int)) && ((x9.1.New == (2 : Int)) && ((x9.1.Node == 0) && ((x9.1.N == 0) && ((x9.1.Key == ([97, 50, 48] : Str)) && true)))))))) (some false) (bnd (F_rebalance_Apply ((⟨0, ([(⟨(1 : Int), [], (1 : Int), 0, []⟩ : TPart)] : List TPart)⟩ : TPlacement)) (([(⟨(1 : Int), x2⟩ : TShard)] : List TShard)) x9.1) fun x10 => (bnd (F_rebalance_Advise x10.1 x10.2.1 (([] : List THeat)) ((2 : Int))) fun x17 => (cond (((x10.2.2 != (0 : Int)) || (!x17.2)) || (!((x17.1.Kind == (3 : Int)) && ((x17.1.Part == (1 : Int)) && ((x17.1.New == 0) && ((x17.1.Node == (2 : Int)) && ((x17.1.N == 0) && ((x17.1.Key == []) && true)))))))) (some false) (jn (fun (x18 : TPlacement) (x20 : List TShard) => (req (((((((x20).length : Nat) : Int) == (2 : Int))) == true) = true → 0 ≤ (0 : Int) ∧ (0 : Int) < ((x20).length : Int)) (req ((((((((x20).length : Nat) : Int) == (2 : Int)) && (((((cond ((((((x20).length : Nat) : Int) == (2 : Int))) == true) (atI x20 ((0 : Int))) default).Pairs).length : Nat) : Int) == (20 : Int)))) == true) = true → 0 ≤ (0 : Int) ∧ (0 : Int) < ((x18.Parts).length : Int)) (bnd (some (((((((x20).length : Nat) : Int) == (2 : Int)) && (((((cond ((((((x20).length : Nat) : Int) == (2 : Int))) == true) (atI x20 ((0 : Int))) default).Pairs).length : Nat) : Int) == (20 : Int))) && ((cond (((((((x20).length : Nat) : Int) == (2 : Int)) && (((((cond ((((((x20).length : Nat) : Int) == (2 : Int))) == true) (atI x20 ((0 : Int))) default).Pairs).length : Nat) : Int) == (20 : Int)))) == true) (atI x18.Parts ((0 : Int))) default).Node == (2 : Int))))) fun x29 => (req (((x29) == true) = true → 0 ≤ (0 : Int) ∧ (0 : Int) < ((x18.Parts).length : Int)) (some (x29 && ((cond ((x29) == true) (atI x18.Parts ((0 : Int))) default).Dest == (0 : Int))))))))) (fun J22 => (F_clockworklaw35_lives_L1 J22 (((3 : Int)).toNat + 1) x10.1 x17.1 x10.2.1 ((0 : Int)))))))))))
theorem W_clockworklaw35_lives {V : View}    {r : Bool} (hF : F_clockworklaw35_lives  = some r) :
  Spec Tryz.prog 9 [] V (fun _ v => v = .bool (r)) := by
 unfold F_clockworklaw35_lives at hF
 refine Spec.enter (T := tyT) Tryz.func9 rfl (by kernel_rfl) rfl rfl rfl ?_
 refine xr rfl ?_
 refine Exec.bsV tyOk rfl rfl rfl rfl rfl (fun V1 a1 hv1 hd1 => ?_)
 have h1 : SlAt cTPart V1 (some a1) 1 ([(⟨(1 : Int), [], (1 : Int), 0, []⟩ : TPart)] : List TPart) := RowRep.slat (c := cTPart) (V := V1) (cs := [.int .i64 ((1 : Int)), .string ⟨⟨[]⟩⟩, .int .i64 ((1 : Int)), .int .i64 (0), .string ⟨⟨[]⟩⟩]) ⟨_, _, rfl, rfl, rfl⟩ (VLe.refl _) (fun _ => hd1) (by simp)
 refine xr rfl ?_
 obtain ⟨x2, hx2, hF⟩ := bnd_some hF
 refine Exec.call rfl rfl (W_clockworklaw35_forty   hx2) ?_
 rintro V4 _ hv4 ⟨a3, k3, rfl, h3⟩
 have h5 := SlAt.mono h1 hv4
 refine xr rfl ?_
 refine Exec.bsV tyOk rfl rfl rfl rfl rfl (fun V6 a6 hv6 hd6 => ?_)
 have h7 := SlAt.mono h5 hv6
 have h8 := SlAt.mono h3 hv6
 have h6 : SlAt cTShard V6 (some a6) 1 ([(⟨(1 : Int), x2⟩ : TShard)] : List TShard) := RowRep.slat (c := cTShard) (V := V6) (cs := [.int .i64 ((1 : Int)), .slice a3 ((x2).length) (k3)]) ⟨_, _, rfl, ⟨_, _, rfl, (SlAt.mono h3 hv6)⟩, rfl⟩ (VLe.refl _) (fun _ => hd6) (by simp)
 refine xr rfl ?_
 obtain ⟨x9, hx9, hF⟩ := bnd_some hF
 refine Exec.callS (.tuple ⟨[.agg ⟨[.int .i64 (x9.1.Kind), .int .i64 (x9.1.Part), .int .i64 (x9.1.New), .int .i64 (x9.1.Node), .int .i64 (x9.1.N), .string ⟨⟨x9.1.Key⟩⟩]⟩, .bool (x9.2)]⟩) rfl rfl (W_rebalance_Advise ((⟨0, ([(⟨(1 : Int), [], (1 : Int), 0, []⟩ : TPart)] : List TPart)⟩ : TPlacement)) (([(⟨(1 : Int), x2⟩ : TShard)] : List TShard)) (([] : List THeat)) ((2 : Int)) h7 h6 SlAt.nil hx9) ?_
 refine xr rfl ?_
 rcases cond_some hF with ⟨hb, hF⟩ | ⟨hb, hF⟩
 ·refine Exec.ifT rfl hb ?_
  refine xr rfl ?_
  obtain rfl := some_inj hF
  exact Exec.ret tyOk rfl rfl rfl
 ·refine Exec.ifF rfl hb ?_
  refine xr rfl ?_
  obtain ⟨x10, hx10, hF⟩ := bnd_some hF
  refine Exec.call rfl rfl (W_rebalance_Apply ((⟨0, ([(⟨(1 : Int), [], (1 : Int), 0, []⟩ : TPart)] : List TPart)⟩ : TPlacement)) (([(⟨(1 : Int), x2⟩ : TShard)] : List TShard)) x9.1 h7 h6 hx10) ?_
  rintro V13 _ hv13 ⟨a11, k11, a12, k12, rfl, h11, h12⟩
  have h14 := SlAt.mono h6 hv13
  have h15 := SlAt.mono h7 hv13
  have h16 := SlAt.mono h8 hv13
  refine xr rfl ?_
  obtain ⟨x17, hx17, hF⟩ := bnd_some hF
  refine Exec.callS (.tuple ⟨[.agg ⟨[.int .i64 (x17.1.Kind), .int .i64 (x17.1.Part), .int .i64 (x17.1.New), .int .i64 (x17.1.Node), .int .i64 (x17.1.N), .string ⟨⟨x17.1.Key⟩⟩]⟩, .bool (x17.2)]⟩) rfl rfl (W_rebalance_Advise x10.1 x10.2.1 (([] : List THeat)) ((2 : Int)) h11 h12 SlAt.nil hx17) ?_
  refine xr rfl ?_
  rcases cond_some hF with ⟨hb, hF⟩ | ⟨hb, hF⟩
  ·refine Exec.ifT rfl hb ?_
   refine xr rfl ?_
   obtain rfl := some_inj hF
   exact Exec.ret tyOk rfl rfl rfl
  ·refine Exec.ifF rfl hb ?_
   refine Exec.run tyOk 6 rfl ?_
   obtain ⟨J22, hJ22, hF⟩ := jn_some hF
   refine Exec.seam (fun L' V' M' => ∃ (x18 : TPlacement) (a19 : Option Addr) (k19 : Nat) (x20 : List TShard) (a21 : Option Addr) (k21 : Nat), L' = [(1, .ptr 1 0), (2, .v (.slice a21 ((x20).length) (k21)))] ∧ M' = [.unk, .blk [.v (.int .i64 (x18.Version)), .v (.slice a19 ((x18.Parts).length) (k19))] 24] ∧ SlAt cTPart V' a19 k19 x18.Parts ∧ SlAt cTShard V' a21 k21 x20 ∧ J22 x18 x20 = some r) rfl ?_ ?_
   ·rintro L' V23 M' ⟨x18, a19, k19, x20, a21, k21, rfl, rfl, h19, h21, hF⟩
    subst hJ22
    refine xr rfl ?_
    obtain ⟨q24, hF⟩ := req_some hF
    obtain ⟨c25, hr25, hd25⟩ := SlAt.gget ((((((x20).length : Nat) : Int) == (2 : Int))) == true) h21 q24
    obtain ⟨a26, k26, rfl, h26⟩ := hr25
    refine Exec.ia tyOk rfl rfl (fun gg0 => ⟨(q24 (gd1_of gg0)).1, (q24 (gd1_of gg0)).2, (hd25 (gd1_of gg0)).some⟩) ?_
    refine xr rfl ?_
    refine Exec.ld tyOk (x := .slice a26 (((cond ((((((x20).length : Nat) : Int) == (2 : Int))) == true) (atI x20 ((0 : Int))) default).Pairs).length) (k26)) rfl rfl (fun gg0 => (RdAt.part (hd25 (gd1_of gg0)) 1 1 rfl)) rfl rfl ?_
    refine xr rfl ?_
    obtain ⟨q27, hF⟩ := req_some hF
    obtain ⟨c28, hr28, hd28⟩ := SlAt.gget (((((((x20).length : Nat) : Int) == (2 : Int)) && (((((cond ((((((x20).length : Nat) : Int) == (2 : Int))) == true) (atI x20 ((0 : Int))) default).Pairs).length : Nat) : Int) == (20 : Int)))) == true) h19 q27
    obtain rfl := hr28
    refine Exec.ia tyOk rfl rfl (fun gg0 => ⟨(q27 (gd1_of gg0)).1, (q27 (gd1_of gg0)).2, (hd28 (gd1_of gg0)).some⟩) ?_
    refine xr rfl ?_
    refine Exec.ld tyOk (x := .int .i64 ((cond (((((((x20).length : Nat) : Int) == (2 : Int)) && (((((cond ((((((x20).length : Nat) : Int) == (2 : Int))) == true) (atI x20 ((0 : Int))) default).Pairs).length : Nat) : Int) == (20 : Int)))) == true) (atI x18.Parts ((0 : Int))) default).Node)) rfl rfl (fun gg0 => (RdAt.part (hd28 (gd1_of gg0)) 2 1 rfl)) rfl rfl ?_
    refine Exec.run tyOk 2 rfl ?_
    obtain ⟨x29, hx29, hF⟩ := bnd_some hF
    refine Exec.nameO (some_inj hx29) 103 rfl rfl rfl rfl ?_
    refine xr rfl ?_
    obtain ⟨q30, hF⟩ := req_some hF
    obtain ⟨c31, hr31, hd31⟩ := SlAt.gget ((x29) == true) h19 q30
    obtain rfl := hr31
    refine Exec.ia tyOk rfl rfl (fun gg0 => ⟨(q30 (gd1_of gg0)).1, (q30 (gd1_of gg0)).2, (hd31 (gd1_of gg0)).some⟩) ?_
    refine xr rfl ?_
    refine Exec.ld tyOk (x := .int .i64 ((cond ((x29) == true) (atI x18.Parts ((0 : Int))) default).Dest)) rfl rfl (fun gg0 => (RdAt.part (hd31 (gd1_of gg0)) 3 1 rfl)) rfl rfl ?_
    refine xr rfl ?_
    obtain rfl := some_inj hF
    exact Exec.ret tyOk rfl rfl rfl
   ·refine xr rfl ?_
    refine Exec.loop (fun n38 L' V' M' => ∃ (x32 : TPlacement) (a33 : Option Addr) (k33 : Nat) (x34 : TMarker) (x35 : List TShard) (a36 : Option Addr) (k36 : Nat) (x37 : Int), L' = [(1, .ptr 1 0), (2, .v (.slice a36 ((x35).length) (k36))), (3, .ptr 3 0), (6, .v (.int .i64 (x37)))] ∧ M' = [.unk, .blk [.v (.int .i64 (x32.Version)), .v (.slice a33 ((x32.Parts).length) (k33))] 24, .unk, .blk [.v (.int .i64 (x34.Kind)), .v (.int .i64 (x34.Part)), .v (.int .i64 (x34.New)), .v (.int .i64 (x34.Node)), .v (.int .i64 (x34.N)), .v (.string ⟨⟨x34.Key⟩⟩)] 27] ∧ SlAt cTPart V' a33 k33 x32.Parts ∧ SlAt cTShard V' a36 k36 x35 ∧ F_clockworklaw35_lives_L1 J22 n38 x32 x34 x35 x37 = some r) ⟨(((3 : Int)).toNat + 1), [(1, .ptr 1 0), (2, .v (.slice a12 ((x10.2.1).length) (k12))), (3, .ptr 3 0), (6, .v (.int .i64 ((0 : Int))))], ⟨rfl, rfl, rfl, rfl, trivial⟩, x10.1, a11, k11, x17.1, x10.2.1, a12, k12, (0 : Int), rfl, rfl, h11, h12, hF⟩ ?_
    rintro n38 L' V39 M' ⟨x32, a33, k33, x34, x35, a36, k36, x37, rfl, rfl, h33, h36, hF⟩
    rcases n38 with _ | n38
    ·exact absurd hF (by simp [F_clockworklaw35_lives_L1])
    rw [F_clockworklaw35_lives_L1] at hF
    refine xr rfl ?_
    rcases cond_some hF with ⟨hb, hF⟩ | ⟨hb, hF⟩
    ·refine Exec.ifT rfl hb ?_
     refine xr rfl ?_
     obtain ⟨x40, hx40, hF⟩ := bnd_some hF
     refine Exec.call rfl rfl (W_rebalance_Apply x32 x35 x34 h33 h36 hx40) ?_
     rintro V43 _ hv43 ⟨a41, k41, a42, k42, rfl, h41, h42⟩
     have h44 := SlAt.mono h36 hv43
     have h45 := SlAt.mono h33 hv43
     refine xr rfl ?_
     obtain ⟨x46, hx46, hF⟩ := bnd_some hF
     refine Exec.callS (.tuple ⟨[.agg ⟨[.int .i64 (x46.1.Kind), .int .i64 (x46.1.Part), .int .i64 (x46.1.New), .int .i64 (x46.1.Node), .int .i64 (x46.1.N), .string ⟨⟨x46.1.Key⟩⟩]⟩, .bool (x46.2)]⟩) rfl rfl (W_rebalance_Advise x40.1 x40.2.1 (([] : List THeat)) ((2 : Int)) h41 h42 SlAt.nil hx46) ?_
     refine xr rfl ?_
     rcases cond_some hF with ⟨hb, hF⟩ | ⟨hb, hF⟩
     ·refine Exec.ifT rfl hb ?_
      refine xr rfl ?_
      obtain rfl := some_inj hF
      exact Exec.ret tyOk rfl rfl rfl
     ·refine Exec.ifF rfl hb ?_
      refine xr rfl ?_
      exact Exec.round [(1, .ptr 1 0), (2, .v (.slice a42 ((x40.2.1).length) (k42))), (3, .ptr 3 0), (6, .v (.int .i64 ((IntKind.i64.wrap (x37 + (1 : Int))))))] ⟨rfl, rfl, rfl, rfl, trivial⟩ ⟨n38, Nat.lt_succ_self _, x40.1, a41, k41, x46.1, x40.2.1, a42, k42, (IntKind.i64.wrap (x37 + (1 : Int))), rfl, rfl, h41, h42, hF⟩
    ·refine Exec.ifF rfl hb ?_
     refine xr rfl ?_
     refine Exec.cut 2 [(1, .ptr 1 0), (2, .v (.slice a36 ((x35).length) (k36)))] (M' := [.unk, .blk [.v (.int .i64 (x32.Version)), .v (.slice a33 ((x32.Parts).length) (k33))] 24]) rfl ⟨rfl, rfl, trivial⟩ rfl rfl rfl ?_
     exact Exec.round [(1, .ptr 1 0), (2, .v (.slice a36 ((x35).length) (k36)))] ⟨rfl, rfl, trivial⟩ ⟨x32, a33, k33, x35, a36, k36, rfl, rfl, h33, h36, hF⟩
end Go.Proofs.YtglnnhmmipopiaaGreat
