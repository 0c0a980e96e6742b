/-
  Functions of the program as their counterparts say them (printed by a program).
  Conditions: none.
-/
import Derived.Test.YtedbagekceppiaaHd
set_option linter.all false
namespace Go.Proofs.Ytedbagekceppiaa

def F_dist_Load_L1 (x7 : List Int) (x1 : TPlacement) (x3 : List TPair) (J15 : (List TShard) → Option (List TShard)) : Nat → (List TShard) → Int → Option (List TShard)
  | 0, _, _ => none
  | n23 + 1, x21, x22 => (cond (decide (x22 < (((x7).length : Nat) : Int))) (req (0 ≤ x22 ∧ x22 < ((x7).length : Int)) (bnd (F_dist_owned x1 x3 ((atI x7 x22))) fun x30 => (req (((x21 ++ [(⟨(atI x7 x22), x30⟩ : TShard)])).length * 32 ≤ 140737488355328) (F_dist_Load_L1 x7 x1 x3 J15 n23 ((x21 ++ [(⟨(atI x7 x22), x30⟩ : TShard)])) ((IntKind.i64.wrap (x22 + (1 : Int)))))))) (J15 x21))

def F_dist_Load (x1 : TPlacement) (x3 : List TPair) : Option (List TShard) :=
  (bnd (F_placement_Valid x1) fun x5 => (bnd (gcall (((!x5)) == false) (F_state_Valid x3)) fun x6 => (cond ((!x5) || (!x6)) (some ([] : List TShard)) (bnd (F_placement_Nodes x1) fun x7 => (jn (fun (x14 : List TShard) => (some x14)) (fun J15 => (F_dist_Load_L1 x7 x1 x3 J15 (((((x7).length : Nat) : Int)).toNat + 1) (([] : List TShard)) ((0 : Int)))))))))

set_option maxRecDepth 100000 in
theorem W_dist_Load {V : View} (x1 : TPlacement) (x3 : List TPair) {a2 : Option Addr} {k2 : Nat} {a4 : Option Addr} {k4 : Nat} (h2 : SlAt cTPart V a2 k2 x1.Parts) (h4 : SlAt cTPair V a4 k4 x3) {r : List TShard} (hF : F_dist_Load x1 x3 = some r) :
    Spec Try.prog 71 [.agg ⟨[.int .i64 (x1.Version), .slice a2 ((x1.Parts).length) (k2)]⟩, .slice a4 ((x3).length) (k4)] V (fun V' v => ∃ (a40 : Option Addr) (k40 : Nat), v = .slice a40 ((r).length) (k40) ∧ SlAt cTShard V' a40 k40 r) := by
  unfold F_dist_Load at hF
  refine Spec.enter (T := tyT) Try.func71 rfl (by kernel_rfl) rfl rfl rfl ?_
  refine Exec.run tyOk 400 rfl ?_
  obtain ⟨x5, hx5, hF⟩ := bnd_some hF
  refine Exec.callS (.bool (x5)) rfl rfl (W_placement_Valid x1 h2 hx5) ?_
  refine Exec.run tyOk 400 rfl ?_
  obtain ⟨x6, hx6, hF⟩ := bnd_some hF
  refine Exec.callS (.bool (x6)) rfl rfl (fun gg0 => W_state_Valid x3 h4 (gcall_some hx6 (gd1_of gg0))) ?_
  refine Exec.run tyOk 400 rfl ?_
  rcases cond_some hF with ⟨hb, hF⟩ | ⟨hb, hF⟩
  · skip
    refine Exec.ifT rfl hb ?_
    refine Exec.run tyOk 400 rfl ?_
    obtain rfl := some_inj hF
    exact Exec.ret tyOk rfl rfl ⟨_, _, rfl, SlAt.nil⟩
  · skip
    refine Exec.ifF rfl hb ?_
    refine Exec.run tyOk 400 rfl ?_
    obtain ⟨x7, hx7, hF⟩ := bnd_some hF
    refine Exec.call rfl rfl (W_placement_Nodes x1 h2 hx7) ?_
    rintro V9 _ hv9 ⟨a8, k8, rfl, h8⟩
    have h10 := SlAt.mono h2 hv9
    have h11 := SlAt.mono h4 hv9
    refine Exec.run tyOk 3 rfl ?_
    refine Exec.row0 37 2 rfl ?_
    have h12 : RowRep cTShard V9 ([] : List TShard) [] := RowRep.nil
    obtain ⟨J15, hJ15, hF⟩ := jn_some hF
    refine Exec.seam (fun L' V' M' => ∃ (x14 : List TShard) (a13 : Option Addr) (k13 : Nat) (cs13 : List Value), L' = [(5, .v (.slice a13 ((x14).length) (k13)))] ∧ M' = [.blk [.v (.int .i64 (x1.Version)), .v (.slice a2 ((x1.Parts).length) (k2))] 24, .row (.slice a13 ((x14).length) (k13)) cs13 37 2] ∧ RowRep cTShard V' x14 cs13 ∧ SlAt cTPart V' a2 k2 x1.Parts ∧ J15 x14 = some r) rfl ?_ ?_
    · rintro L' V16 M' ⟨x14, a13, k13, cs13, rfl, rfl, h13, h17, hF⟩
      subst hJ15
      refine Exec.run tyOk 400 rfl ?_
      refine Exec.frz 1 rfl rfl rfl (fun V18 hv18 hd18 hn18 => ?_)
      have hz18 := RowRep.slat h13 hv18 hd18 hn18
      have h19 := SlAt.mono h17 hv18
      obtain rfl := some_inj hF
      exact Exec.ret tyOk rfl rfl ⟨_, _, rfl, hz18⟩
    · skip
      refine Exec.run tyOk 400 rfl ?_
      refine Exec.loop (fun n23 L' V' M' => ∃ (x21 : List TShard) (a20 : Option Addr) (k20 : Nat) (cs20 : List Value) (x22 : Int), L' = [(1, .v (.slice a4 ((x3).length) (k4))), (2, .ptr 0 0), (5, .v (.slice a20 ((x21).length) (k20))), (17, .v (.slice a8 ((x7).length) (k8))), (18, .v (.int .i64 ((((x7).length : Nat) : Int)))), (19, .v (.int .i64 (x22)))] ∧ M' = [.blk [.v (.int .i64 (x1.Version)), .v (.slice a2 ((x1.Parts).length) (k2))] 24, .row (.slice a20 ((x21).length) (k20)) cs20 37 2] ∧ RowRep cTShard V' x21 cs20 ∧ SlAt cTPair V' a4 k4 x3 ∧ SlAt (cInt .i64) V' a8 k8 x7 ∧ SlAt cTPart V' a2 k2 x1.Parts ∧ F_dist_Load_L1 x7 x1 x3 J15 n23 x21 x22 = some r) ⟨(((((x7).length : Nat) : Int)).toNat + 1), [(1, .v (.slice a4 ((x3).length) (k4))), (2, .ptr 0 0), (5, .v (.slice none ((([] : List TShard)).length) (0))), (17, .v (.slice a8 ((x7).length) (k8))), (18, .v (.int .i64 ((((x7).length : Nat) : Int)))), (19, .v (.int .i64 ((0 : Int))))], ⟨rfl, rfl, rfl, rfl, rfl, rfl, trivial⟩, ([] : List TShard), none, 0, [], (0 : Int), rfl, rfl, h12, h11, h8, h10, hF⟩ ?_
      rintro n23 L' V24 M' ⟨x21, a20, k20, cs20, x22, rfl, rfl, h20, h25, h26, h27, hF⟩
      rcases n23 with _ | n23
      · exact absurd hF (by simp [F_dist_Load_L1])
      rw [F_dist_Load_L1] at hF
      refine Exec.run tyOk 400 rfl ?_
      rcases cond_some hF with ⟨hb, hF⟩ | ⟨hb, hF⟩
      · skip
        refine Exec.ifT rfl hb ?_
        refine Exec.run tyOk 400 rfl ?_
        obtain ⟨q28, hF⟩ := req_some hF
        obtain ⟨c29, hr29, hd29⟩ := SlAt.get h26 q28
        obtain rfl := hr29
        refine Exec.ia tyOk rfl rfl ⟨q28.1, q28.2, hd29.some⟩ ?_
        refine Exec.run tyOk 400 rfl ?_
        refine Exec.ld tyOk (x := .int .i64 ((atI x7 x22))) rfl rfl hd29 rfl rfl ?_
        refine Exec.run tyOk 400 rfl ?_
        obtain ⟨x30, hx30, hF⟩ := bnd_some hF
        refine Exec.call rfl rfl (W_dist_owned x1 x3 ((atI x7 x22)) h27 h25 hx30) ?_
        rintro V32 _ hv32 ⟨a31, k31, rfl, h31⟩
        have h33 := SlAt.mono h25 hv32
        have h34 := SlAt.mono h26 hv32
        have h36 := SlAt.mono h27 hv32
        have h37 := RowRep.mono hv32 h20
        refine Exec.run tyOk 400 rfl ?_
        refine Exec.bsl tyOk rfl rfl ?_
        refine Exec.run tyOk 400 rfl ?_
        obtain ⟨q39, hF⟩ := req_some hF
        refine Exec.app tyOk 1 2 (nm := ((x21 ++ [(⟨(atI x7 x22), x30⟩ : TShard)])).length) rfl rfl rfl rfl rfl rfl rfl rfl rfl (by simp) (fun _ _ => rfl) rfl q39 (fun a38 k38 => ?_)
        have h38 : RowRep cTShard V32 (x21 ++ [(⟨(atI x7 x22), x30⟩ : TShard)]) (cs20 ++ [.int .i64 ((atI x7 x22)), .slice a31 ((x30).length) (k31)]) := RowRep.app h37 ⟨_, _, rfl, ⟨_, _, rfl, h31⟩, rfl⟩
        refine Exec.run tyOk 400 rfl ?_
        refine Exec.cut 2 [(1, .v (.slice a4 ((x3).length) (k4))), (2, .ptr 0 0), (5, .v (.slice a38 (((x21 ++ [(⟨(atI x7 x22), x30⟩ : TShard)])).length) (k38))), (17, .v (.slice a8 ((x7).length) (k8))), (18, .v (.int .i64 ((((x7).length : Nat) : Int)))), (19, .v (.int .i64 ((IntKind.i64.wrap (x22 + (1 : Int))))))] (M' := [.blk [.v (.int .i64 (x1.Version)), .v (.slice a2 ((x1.Parts).length) (k2))] 24, .row (.slice a38 (((x21 ++ [(⟨(atI x7 x22), x30⟩ : TShard)])).length) (k38)) ((cs20 ++ [.int .i64 ((atI x7 x22)), .slice a31 ((x30).length) (k31)])) 37 2]) rfl ⟨rfl, rfl, rfl, rfl, rfl, rfl, trivial⟩ rfl rfl rfl ?_
        exact Exec.round [(1, .v (.slice a4 ((x3).length) (k4))), (2, .ptr 0 0), (5, .v (.slice a38 (((x21 ++ [(⟨(atI x7 x22), x30⟩ : TShard)])).length) (k38))), (17, .v (.slice a8 ((x7).length) (k8))), (18, .v (.int .i64 ((((x7).length : Nat) : Int)))), (19, .v (.int .i64 ((IntKind.i64.wrap (x22 + (1 : Int))))))] ⟨rfl, rfl, rfl, rfl, rfl, rfl, trivial⟩ ⟨n23, Nat.lt_succ_self _, (x21 ++ [(⟨(atI x7 x22), x30⟩ : TShard)]), a38, k38, (cs20 ++ [.int .i64 ((atI x7 x22)), .slice a31 ((x30).length) (k31)]), (IntKind.i64.wrap (x22 + (1 : Int))), rfl, rfl, h38, h33, h34, h36, hF⟩
      · skip
        refine Exec.ifF rfl hb ?_
        refine Exec.run tyOk 400 rfl ?_
        exact Exec.round [(5, .v (.slice a20 ((x21).length) (k20)))] ⟨rfl, trivial⟩ ⟨x21, a20, k20, cs20, rfl, rfl, h20, h27, hF⟩

def F_migrate_moving (x1 : TPlacement) (x3 : List TShard) (x5 : Int) : Option (Int × Int) :=
  (bnd (F_dist_Valid x1 x3) fun x6 => (cond (!x6) (some ((0 : Int), (1 : Int))) (bnd (F_migrate_find x1 x5) fun x7 => (cond (decide (x7 < (0 : Int))) (some ((0 : Int), (9 : Int))) (req (0 ≤ x7 ∧ x7 < ((x1.Parts).length : Int)) (cond ((atI x1.Parts x7).Dest == (0 : Int)) (some ((0 : Int), (19 : Int))) (cond (x1.Version == (1099511627776 : Int)) (some ((0 : Int), (2 : Int))) (some (x7, (0 : Int))))))))))

set_option maxRecDepth 100000 in
theorem W_migrate_moving {V : View} (x1 : TPlacement) (x3 : List TShard) (x5 : Int) {a2 : Option Addr} {k2 : Nat} {a4 : Option Addr} {k4 : Nat} (h2 : SlAt cTPart V a2 k2 x1.Parts) (h4 : SlAt cTShard V a4 k4 x3) {r : Int × Int} (hF : F_migrate_moving x1 x3 x5 = some r) :
    Spec Try.prog 43 [.agg ⟨[.int .i64 (x1.Version), .slice a2 ((x1.Parts).length) (k2)]⟩, .slice a4 ((x3).length) (k4), .int .i64 (x5)] V (fun _ v => v = .tuple ⟨[.int .i64 (r.1), .int .i64 (r.2)]⟩) := by
  unfold F_migrate_moving at hF
  refine Spec.enter (T := tyT) Try.func43 rfl (by kernel_rfl) rfl rfl rfl ?_
  refine Exec.run tyOk 400 rfl ?_
  obtain ⟨x6, hx6, hF⟩ := bnd_some hF
  refine Exec.callS (.bool (x6)) rfl rfl (W_dist_Valid x1 x3 h2 h4 hx6) ?_
  refine Exec.run tyOk 400 rfl ?_
  rcases cond_some hF with ⟨hb, hF⟩ | ⟨hb, hF⟩
  · skip
    refine Exec.ifT rfl hb ?_
    refine Exec.run tyOk 400 rfl ?_
    obtain rfl := some_inj hF
    exact Exec.ret tyOk rfl rfl rfl
  · skip
    refine Exec.ifF rfl hb ?_
    refine Exec.run tyOk 400 rfl ?_
    obtain ⟨x7, hx7, hF⟩ := bnd_some hF
    refine Exec.callS (.int .i64 (x7)) rfl rfl (W_migrate_find x1 x5 h2 hx7) ?_
    refine Exec.run tyOk 400 rfl ?_
    rcases cond_some hF with ⟨hb, hF⟩ | ⟨hb, hF⟩
    · skip
      refine Exec.ifT rfl hb ?_
      refine Exec.run tyOk 400 rfl ?_
      obtain rfl := some_inj hF
      exact Exec.ret tyOk rfl rfl rfl
    · skip
      refine Exec.ifF rfl hb ?_
      refine Exec.run tyOk 400 rfl ?_
      obtain ⟨q8, hF⟩ := req_some hF
      obtain ⟨c9, hr9, hd9⟩ := SlAt.get h2 q8
      obtain rfl := hr9
      refine Exec.ia tyOk rfl rfl ⟨q8.1, q8.2, hd9.some⟩ ?_
      refine Exec.run tyOk 400 rfl ?_
      refine Exec.ld tyOk (x := .int .i64 ((atI x1.Parts x7).Dest)) rfl rfl (RdAt.part hd9 3 1 rfl) rfl rfl ?_
      refine Exec.run tyOk 400 rfl ?_
      rcases cond_some hF with ⟨hb, hF⟩ | ⟨hb, hF⟩
      · skip
        refine Exec.ifT rfl hb ?_
        refine Exec.run tyOk 400 rfl ?_
        obtain rfl := some_inj hF
        exact Exec.ret tyOk rfl rfl rfl
      · skip
        refine Exec.ifF rfl hb ?_
        refine Exec.run tyOk 400 rfl ?_
        rcases cond_some hF with ⟨hb, hF⟩ | ⟨hb, hF⟩
        · skip
          refine Exec.ifT rfl hb ?_
          refine Exec.run tyOk 400 rfl ?_
          obtain rfl := some_inj hF
          exact Exec.ret tyOk rfl rfl rfl
        · skip
          refine Exec.ifF rfl hb ?_
          refine Exec.run tyOk 400 rfl ?_
          obtain rfl := some_inj hF
          exact Exec.ret tyOk rfl rfl rfl

def F_migrate_moved (x1 : TPlacement) (x3 : List TShard) : Option (List TShard) :=
  (bnd (F_dist_Gather x3) fun x5 => (bnd (F_dist_Load x1 x5.1) fun x10 => (some x10)))

set_option maxRecDepth 100000 in
theorem W_migrate_moved {V : View} (x1 : TPlacement) (x3 : List TShard) {a2 : Option Addr} {k2 : Nat} {a4 : Option Addr} {k4 : Nat} (h2 : SlAt cTPart V a2 k2 x1.Parts) (h4 : SlAt cTShard V a4 k4 x3) {r : List TShard} (hF : F_migrate_moved x1 x3 = some r) :
    Spec Try.prog 45 [.agg ⟨[.int .i64 (x1.Version), .slice a2 ((x1.Parts).length) (k2)]⟩, .slice a4 ((x3).length) (k4)] V (fun V' v => ∃ (a16 : Option Addr) (k16 : Nat), v = .slice a16 ((r).length) (k16) ∧ SlAt cTShard V' a16 k16 r) := by
  unfold F_migrate_moved at hF
  refine Spec.enter (T := tyT) Try.func45 rfl (by kernel_rfl) rfl rfl rfl ?_
  refine Exec.run tyOk 400 rfl ?_
  obtain ⟨x5, hx5, hF⟩ := bnd_some hF
  refine Exec.call rfl rfl (W_dist_Gather x3 h4 hx5) ?_
  rintro V7 _ hv7 ⟨a6, k6, rfl, h6⟩
  have h8 := SlAt.mono h2 hv7
  have h9 := SlAt.mono h4 hv7
  refine Exec.run tyOk 400 rfl ?_
  obtain ⟨x10, hx10, hF⟩ := bnd_some hF
  refine Exec.call rfl rfl (W_dist_Load x1 x5.1 h8 h6 hx10) ?_
  rintro V12 _ hv12 ⟨a11, k11, rfl, h11⟩
  have h13 := SlAt.mono h8 hv12
  have h14 := SlAt.mono h9 hv12
  have h15 := SlAt.mono h6 hv12
  refine Exec.run tyOk 400 rfl ?_
  obtain rfl := some_inj hF
  exact Exec.ret tyOk rfl rfl ⟨_, _, rfl, h11⟩

def F_migrate_Chunk_L1 (x3 : List TShard) (x1 : TPlacement) (x7 : Int × Int) (x10 : TRange × Int) (J13 : (List TPair) → Option (TPlacement × List TShard × TChunk × Int)) : Nat → (List TPair) → Int → Option (TPlacement × List TShard × TChunk × Int)
  | 0, _, _ => none
  | n54 + 1, x51, x53 => (cond (decide (x53 < (((x3).length : Nat) : Int))) (req (0 ≤ x53 ∧ x53 < ((x3).length : Int)) (jn (fun (x61 : List TPair) => (F_migrate_Chunk_L1 x3 x1 x7 x10 J13 n54 x61 ((IntKind.i64.wrap (x53 + (1 : Int)))))) (fun J63 => (cond ((atI x3 x53).Node == (atI x1.Parts x7.1).Node) (bnd (F_state_Slice ((atI x3 x53).Pairs) ((⟨(atI x1.Parts x7.1).Done, x10.1.To⟩ : TRange))) fun x67 => (J63 x67)) (J63 x51))))) (J13 x51))

def F_migrate_Chunk (x1 : TPlacement) (x3 : List TShard) (x5 : Int) (x6 : Int) : Option (TPlacement × List TShard × TChunk × Int) :=
  (cond (decide (x6 < (1 : Int))) (some ((⟨0, ([] : List TPart)⟩ : TPlacement), ([] : List TShard), (⟨0, 0, 0, (default : TRange), ([] : List TPair), false⟩ : TChunk), (1 : Int))) (bnd (F_migrate_moving x1 x3 x5) fun x7 => (cond (x7.2 != (0 : Int)) (some ((⟨0, ([] : List TPart)⟩ : TPlacement), ([] : List TShard), (⟨0, 0, 0, (default : TRange), ([] : List TPair), false⟩ : TChunk), x7.2)) (req (0 ≤ x7.1 ∧ x7.1 < ((x1.Parts).length : Int)) (bnd (F_placement_Range x1 x5) fun x10 => (jn (fun (x11 : List TPair) => (jn (fun (x17 : TPart) (x18 : TChunk) => (bnd (F_migrate_changed x1 x7.1 x17) fun x24 => (bnd (F_migrate_moved x24 x3) fun x30 => (some (x24, x30, x18, (0 : Int)))))) (fun J20 => (cond (decide (x6 < (((x11).length : Nat) : Int))) (req (0 ≤ x6 ∧ x6 < ((x11).length : Int)) (req (0 ≤ x6 ∧ x6 ≤ x6) (req (48 * (x6).toNat ≤ 281474976710656) (req (0 ≤ x6 ∧ x6 < ((x11).length : Int)) (J20 ((⟨(atI x1.Parts x7.1).Id, (atI x1.Parts x7.1).From, (atI x1.Parts x7.1).Node, (atI x1.Parts x7.1).Dest, (atI x11 x6).Key⟩ : TPart)) ((⟨x5, (atI x1.Parts x7.1).Node, (atI x1.Parts x7.1).Dest, (⟨(atI x1.Parts x7.1).Done, (atI x11 x6).Key⟩ : TRange), (cpL x11 ((List.replicate (x6).toNat (default : TPair)))), false⟩ : TChunk))))))) (J20 ((⟨(atI x1.Parts x7.1).Id, (atI x1.Parts x7.1).From, (atI x1.Parts x7.1).Dest, (0 : Int), ([] : Str)⟩ : TPart)) ((⟨x5, (atI x1.Parts x7.1).Node, (atI x1.Parts x7.1).Dest, (⟨(atI x1.Parts x7.1).Done, x10.1.To⟩ : TRange), x11, true⟩ : TChunk))))))) (fun J13 => (F_migrate_Chunk_L1 x3 x1 x7 x10 J13 (((((x3).length : Nat) : Int)).toNat + 1) (([] : List TPair)) ((0 : Int))))))))))

set_option maxRecDepth 100000 in
theorem W_migrate_Chunk {V : View} (x1 : TPlacement) (x3 : List TShard) (x5 : Int) (x6 : Int) {a2 : Option Addr} {k2 : Nat} {a4 : Option Addr} {k4 : Nat} (h2 : SlAt cTPart V a2 k2 x1.Parts) (h4 : SlAt cTShard V a4 k4 x3) {r : TPlacement × List TShard × TChunk × Int} (hF : F_migrate_Chunk x1 x3 x5 x6 = some r) :
    Spec Try.prog 21 [.agg ⟨[.int .i64 (x1.Version), .slice a2 ((x1.Parts).length) (k2)]⟩, .slice a4 ((x3).length) (k4), .int .i64 (x5), .int .i64 (x6)] V (fun V' v => ∃ (a75 : Option Addr) (k75 : Nat) (a76 : Option Addr) (k76 : Nat) (a77 : Option Addr) (k77 : Nat), v = .tuple ⟨[.agg ⟨[.int .i64 (r.1.Version), .slice a75 ((r.1.Parts).length) (k75)]⟩, .slice a76 ((r.2.1).length) (k76), .agg ⟨[.int .i64 (r.2.2.1.Part), .int .i64 (r.2.2.1.From), .int .i64 (r.2.2.1.To), .string ⟨⟨r.2.2.1.Keys.From⟩⟩, .string ⟨⟨r.2.2.1.Keys.To⟩⟩, .slice a77 ((r.2.2.1.Pairs).length) (k77), .bool (r.2.2.1.Last)]⟩, .int .i64 (r.2.2.2)]⟩ ∧ SlAt cTPart V' a75 k75 r.1.Parts ∧ SlAt cTShard V' a76 k76 r.2.1 ∧ SlAt cTPair V' a77 k77 r.2.2.1.Pairs) := by
  unfold F_migrate_Chunk at hF
  refine Spec.enter (T := tyT) Try.func21 rfl (by kernel_rfl) rfl rfl rfl ?_
  refine Exec.run tyOk 400 rfl ?_
  rcases cond_some hF with ⟨hb, hF⟩ | ⟨hb, hF⟩
  · skip
    refine Exec.ifT rfl hb ?_
    refine Exec.run tyOk 400 rfl ?_
    obtain rfl := some_inj hF
    exact Exec.ret tyOk rfl rfl ⟨_, _, _, _, _, _, rfl, SlAt.nil, SlAt.nil, SlAt.nil⟩
  · skip
    refine Exec.ifF rfl hb ?_
    refine Exec.run tyOk 400 rfl ?_
    obtain ⟨x7, hx7, hF⟩ := bnd_some hF
    refine Exec.callS (.tuple ⟨[.int .i64 (x7.1), .int .i64 (x7.2)]⟩) rfl rfl (W_migrate_moving x1 x3 x5 h2 h4 hx7) ?_
    refine Exec.run tyOk 400 rfl ?_
    rcases cond_some hF with ⟨hb, hF⟩ | ⟨hb, hF⟩
    · skip
      refine Exec.ifT rfl hb ?_
      refine Exec.run tyOk 400 rfl ?_
      obtain rfl := some_inj hF
      exact Exec.ret tyOk rfl rfl ⟨_, _, _, _, _, _, rfl, SlAt.nil, SlAt.nil, SlAt.nil⟩
    · skip
      refine Exec.ifF rfl hb ?_
      refine Exec.run tyOk 400 rfl ?_
      obtain ⟨q8, hF⟩ := req_some hF
      obtain ⟨c9, hr9, hd9⟩ := SlAt.get h2 q8
      obtain rfl := hr9
      refine Exec.ia tyOk rfl rfl ⟨q8.1, q8.2, hd9.some⟩ ?_
      refine Exec.run tyOk 400 rfl ?_
      refine Exec.ld tyOk (x := .agg ⟨[.int .i64 ((atI x1.Parts x7.1).Id), .string ⟨⟨(atI x1.Parts x7.1).From⟩⟩, .int .i64 ((atI x1.Parts x7.1).Node), .int .i64 ((atI x1.Parts x7.1).Dest), .string ⟨⟨(atI x1.Parts x7.1).Done⟩⟩]⟩) rfl rfl hd9 rfl rfl ?_
      refine Exec.run tyOk 400 rfl ?_
      obtain ⟨x10, hx10, hF⟩ := bnd_some hF
      refine Exec.callS (.tuple ⟨[.agg ⟨[.string ⟨⟨x10.1.From⟩⟩, .string ⟨⟨x10.1.To⟩⟩]⟩, .int .i64 (x10.2)]⟩) rfl rfl (W_placement_Range x1 x5 h2 hx10) ?_
      refine Exec.run tyOk 25 rfl ?_
      obtain ⟨J13, hJ13, hF⟩ := jn_some hF
      refine Exec.seam (fun L' V' M' => ∃ (x11 : List TPair) (a12 : Option Addr) (k12 : Nat), L' = [(1, .v (.slice a4 ((x3).length) (k4))), (2, .v (.int .i64 (x5))), (3, .v (.int .i64 (x6))), (4, .ptr 0 0), (8, .ptr 1 0), (10, .ptr 2 0), (12, .v (.int .i64 (x7.1))), (14, .ptr 3 0), (15, .ptr 4 0), (17, .v (.slice a12 ((x11).length) (k12)))] ∧ M' = [.blk [.v (.int .i64 (x1.Version)), .v (.slice a2 ((x1.Parts).length) (k2))] 24, .blk [.v (.int .i64 (0)), .v (.slice none (0) (0))] 24, .blk [.v (.int .i64 (0)), .v (.int .i64 (0)), .v (.int .i64 (0)), .v (.string ⟨⟨[]⟩⟩), .v (.string ⟨⟨[]⟩⟩), .v (.slice none (0) (0)), .v (.bool (false))] 41, .blk [.v (.int .i64 ((atI x1.Parts x7.1).Id)), .v (.string ⟨⟨(atI x1.Parts x7.1).From⟩⟩), .v (.int .i64 ((atI x1.Parts x7.1).Node)), .v (.int .i64 ((atI x1.Parts x7.1).Dest)), .v (.string ⟨⟨(atI x1.Parts x7.1).Done⟩⟩)] 62, .blk [.v (.string ⟨⟨(atI x1.Parts x7.1).Done⟩⟩), .v (.string ⟨⟨x10.1.To⟩⟩)] 39] ∧ SlAt cTPair V' a12 k12 x11 ∧ SlAt cTShard V' a4 k4 x3 ∧ SlAt cTPart V' a2 k2 x1.Parts ∧ J13 x11 = some r) rfl ?_ ?_
      · rintro L' V14 M' ⟨x11, a12, k12, rfl, rfl, h12, h15, h16, hF⟩
        subst hJ13
        refine Exec.run tyOk 400 rfl ?_
        obtain ⟨J20, hJ20, hF⟩ := jn_some hF
        refine Exec.seam (fun L' V' M' => ∃ (x17 : TPart) (x18 : TChunk) (a19 : Option Addr) (k19 : Nat), L' = [(1, .v (.slice a4 ((x3).length) (k4))), (4, .ptr 0 0), (8, .ptr 1 0), (10, .ptr 2 0), (12, .v (.int .i64 (x7.1))), (14, .ptr 3 0), (20, .ptr 5 0)] ∧ M' = [.blk [.v (.int .i64 (x1.Version)), .v (.slice a2 ((x1.Parts).length) (k2))] 24, .blk [.v (.int .i64 (0)), .v (.slice none (0) (0))] 24, .blk [.v (.int .i64 (0)), .v (.int .i64 (0)), .v (.int .i64 (0)), .v (.string ⟨⟨[]⟩⟩), .v (.string ⟨⟨[]⟩⟩), .v (.slice none (0) (0)), .v (.bool (false))] 41, .blk [.v (.int .i64 (x17.Id)), .v (.string ⟨⟨x17.From⟩⟩), .v (.int .i64 (x17.Node)), .v (.int .i64 (x17.Dest)), .v (.string ⟨⟨x17.Done⟩⟩)] 62, .blk [.v (.string ⟨⟨(atI x1.Parts x7.1).Done⟩⟩), .v (.string ⟨⟨x10.1.To⟩⟩)] 39, .blk [.v (.int .i64 (x18.Part)), .v (.int .i64 (x18.From)), .v (.int .i64 (x18.To)), .v (.string ⟨⟨x18.Keys.From⟩⟩), .v (.string ⟨⟨x18.Keys.To⟩⟩), .v (.slice a19 ((x18.Pairs).length) (k19)), .v (.bool (x18.Last))] 41] ∧ SlAt cTPair V' a19 k19 x18.Pairs ∧ SlAt cTShard V' a4 k4 x3 ∧ SlAt cTPart V' a2 k2 x1.Parts ∧ J20 x17 x18 = some r) rfl ?_ ?_
        · rintro L' V21 M' ⟨x17, x18, a19, k19, rfl, rfl, h19, h22, h23, hF⟩
          subst hJ20
          refine Exec.run tyOk 400 rfl ?_
          obtain ⟨x24, hx24, hF⟩ := bnd_some hF
          refine Exec.call rfl rfl (W_migrate_changed x1 x7.1 x17 h23 hx24) ?_
          rintro V26 _ hv26 ⟨a25, k25, rfl, h25⟩
          have h27 := SlAt.mono h22 hv26
          have h28 := SlAt.mono h23 hv26
          have h29 := SlAt.mono h19 hv26
          refine Exec.run tyOk 400 rfl ?_
          refine Exec.draws tyOk [(0, true), (1, true), (2, true), (4, true), (3, false), (5, false), (6, false), (7, false), (8, false)] rfl (by kernel_rfl) ?_
          refine Exec.run tyOk 400 rfl ?_
          obtain ⟨x30, hx30, hF⟩ := bnd_some hF
          refine Exec.call rfl rfl (W_migrate_moved x24 x3 h25 h27 hx30) ?_
          rintro V32 _ hv32 ⟨a31, k31, rfl, h31⟩
          have h33 := SlAt.mono h27 hv32
          have h34 := SlAt.mono h28 hv32
          have h35 := SlAt.mono h25 hv32
          have h36 := SlAt.mono h29 hv32
          refine Exec.run tyOk 400 rfl ?_
          obtain rfl := some_inj hF
          exact Exec.ret tyOk rfl rfl ⟨_, _, _, _, _, _, rfl, h35, h31, h36⟩
        · skip
          refine Exec.run tyOk 400 rfl ?_
          rcases cond_some hF with ⟨hb, hF⟩ | ⟨hb, hF⟩
          · skip
            refine Exec.ifT rfl hb ?_
            refine Exec.run tyOk 400 rfl ?_
            refine Exec.draws tyOk [(0, true), (1, true), (2, true), (3, true), (4, true), (5, true), (6, false), (7, false), (8, false), (9, false)] rfl (by kernel_rfl) ?_
            refine Exec.run tyOk 400 rfl ?_
            obtain ⟨q37, hF⟩ := req_some hF
            obtain ⟨c38, hr38, hd38⟩ := SlAt.get h12 q37
            obtain rfl := hr38
            refine Exec.fia tyOk rfl rfl rfl ⟨q37.1, q37.2, hd38.some⟩ ?_
            refine Exec.run tyOk 400 rfl ?_
            refine Exec.fld tyOk (x := .string ⟨⟨(atI x11 x6).Key⟩⟩) rfl rfl rfl (RdAt.part hd38 0 1 rfl) rfl rfl ?_
            refine Exec.run tyOk 400 rfl ?_
            obtain ⟨q39, hF⟩ := req_some hF
            obtain ⟨q40, hF⟩ := req_some hF
            refine Exec.mkr tyOk rfl rfl rfl rfl (nm := ((List.replicate (x6).toNat (default : TPair))).length) (by simp) q39 q40 (fun _ => rfl) (fun a41 => ?_)
            have h41 : RowRep cTPair V14 (List.replicate (x6).toNat (default : TPair)) ((List.replicate ((List.replicate (x6).toNat (default : TPair))).length [.string ⟨⟨[]⟩⟩, .int .i64 (0), .int .i64 (0), .string ⟨⟨[]⟩⟩]).flatten) := by rw [List.length_replicate]; exact RowRep.reps (c := cTPair) rfl _
            refine Exec.run tyOk 400 rfl ?_
            refine Exec.cpV tyOk (cd := cTPair) 6 rfl rfl rfl rfl rfl rfl h41 rfl h12 rfl (fun _ => rfl) rfl (fun cs42 h42 => ?_)
            refine Exec.run tyOk 400 rfl ?_
            obtain ⟨q43, hF⟩ := req_some hF
            obtain ⟨c44, hr44, hd44⟩ := SlAt.get h12 q43
            obtain rfl := hr44
            refine Exec.ia tyOk rfl rfl ⟨q43.1, q43.2, hd44.some⟩ ?_
            refine Exec.run tyOk 400 rfl ?_
            refine Exec.ld tyOk (x := .string ⟨⟨(atI x11 x6).Key⟩⟩) rfl rfl (RdAt.part hd44 0 1 rfl) rfl rfl ?_
            refine Exec.run tyOk 400 rfl ?_
            refine Exec.frz 6 rfl rfl rfl (fun V45 hv45 hd45 hn45 => ?_)
            have hz45 := RowRep.slat h42 hv45 hd45 (Nat.le_trans (Nat.le_of_eq (by simp)) hn45)
            have h46 := SlAt.mono h15 hv45
            have h47 := SlAt.mono h12 hv45
            have h50 := SlAt.mono h16 hv45
            refine Exec.cut 6 [(1, .v (.slice a4 ((x3).length) (k4))), (4, .ptr 0 0), (8, .ptr 1 0), (10, .ptr 2 0), (12, .v (.int .i64 (x7.1))), (14, .ptr 3 0), (20, .ptr 5 0)] (M' := [.blk [.v (.int .i64 (x1.Version)), .v (.slice a2 ((x1.Parts).length) (k2))] 24, .blk [.v (.int .i64 (0)), .v (.slice none (0) (0))] 24, .blk [.v (.int .i64 (0)), .v (.int .i64 (0)), .v (.int .i64 (0)), .v (.string ⟨⟨[]⟩⟩), .v (.string ⟨⟨[]⟩⟩), .v (.slice none (0) (0)), .v (.bool (false))] 41, .blk [.v (.int .i64 ((atI x1.Parts x7.1).Id)), .v (.string ⟨⟨(atI x1.Parts x7.1).From⟩⟩), .v (.int .i64 ((atI x1.Parts x7.1).Node)), .v (.int .i64 ((atI x1.Parts x7.1).Dest)), .v (.string ⟨⟨(atI x11 x6).Key⟩⟩)] 62, .blk [.v (.string ⟨⟨(atI x1.Parts x7.1).Done⟩⟩), .v (.string ⟨⟨x10.1.To⟩⟩)] 39, .blk [.v (.int .i64 (x5)), .v (.int .i64 ((atI x1.Parts x7.1).Node)), .v (.int .i64 ((atI x1.Parts x7.1).Dest)), .v (.string ⟨⟨(atI x1.Parts x7.1).Done⟩⟩), .v (.string ⟨⟨(atI x11 x6).Key⟩⟩), .v (.slice ((some a41)) (((List.replicate (x6).toNat (default : TPair))).length) ((x6).toNat)), .v (.bool (false))] 41]) rfl ⟨rfl, rfl, rfl, rfl, rfl, rfl, rfl, trivial⟩ rfl rfl rfl ?_
            exact Exec.round [(1, .v (.slice a4 ((x3).length) (k4))), (4, .ptr 0 0), (8, .ptr 1 0), (10, .ptr 2 0), (12, .v (.int .i64 (x7.1))), (14, .ptr 3 0), (20, .ptr 5 0)] ⟨rfl, rfl, rfl, rfl, rfl, rfl, rfl, trivial⟩ ⟨(⟨(atI x1.Parts x7.1).Id, (atI x1.Parts x7.1).From, (atI x1.Parts x7.1).Node, (atI x1.Parts x7.1).Dest, (atI x11 x6).Key⟩ : TPart), (⟨x5, (atI x1.Parts x7.1).Node, (atI x1.Parts x7.1).Dest, (⟨(atI x1.Parts x7.1).Done, (atI x11 x6).Key⟩ : TRange), (cpL x11 ((List.replicate (x6).toNat (default : TPair)))), false⟩ : TChunk), (some a41), (x6).toNat, rfl, (by simp), hz45, h46, h50, hF⟩
          · skip
            refine Exec.ifF rfl hb ?_
            refine Exec.run tyOk 400 rfl ?_
            exact Exec.round [(1, .v (.slice a4 ((x3).length) (k4))), (4, .ptr 0 0), (8, .ptr 1 0), (10, .ptr 2 0), (12, .v (.int .i64 (x7.1))), (14, .ptr 3 0), (20, .ptr 5 0)] ⟨rfl, rfl, rfl, rfl, rfl, rfl, rfl, trivial⟩ ⟨(⟨(atI x1.Parts x7.1).Id, (atI x1.Parts x7.1).From, (atI x1.Parts x7.1).Dest, (0 : Int), ([] : Str)⟩ : TPart), (⟨x5, (atI x1.Parts x7.1).Node, (atI x1.Parts x7.1).Dest, (⟨(atI x1.Parts x7.1).Done, x10.1.To⟩ : TRange), x11, true⟩ : TChunk), a12, k12, rfl, rfl, h12, h15, h16, hF⟩
      · skip
        refine Exec.run tyOk 400 rfl ?_
        refine Exec.loop (fun n54 L' V' M' => ∃ (x51 : List TPair) (a52 : Option Addr) (k52 : Nat) (x53 : Int), L' = [(1, .v (.slice a4 ((x3).length) (k4))), (2, .v (.int .i64 (x5))), (3, .v (.int .i64 (x6))), (4, .ptr 0 0), (8, .ptr 1 0), (10, .ptr 2 0), (12, .v (.int .i64 (x7.1))), (14, .ptr 3 0), (15, .ptr 4 0), (17, .v (.slice a52 ((x51).length) (k52))), (52, .v (.slice a4 ((x3).length) (k4))), (53, .v (.int .i64 ((((x3).length : Nat) : Int)))), (54, .v (.int .i64 (x53)))] ∧ M' = [.blk [.v (.int .i64 (x1.Version)), .v (.slice a2 ((x1.Parts).length) (k2))] 24, .blk [.v (.int .i64 (0)), .v (.slice none (0) (0))] 24, .blk [.v (.int .i64 (0)), .v (.int .i64 (0)), .v (.int .i64 (0)), .v (.string ⟨⟨[]⟩⟩), .v (.string ⟨⟨[]⟩⟩), .v (.slice none (0) (0)), .v (.bool (false))] 41, .blk [.v (.int .i64 ((atI x1.Parts x7.1).Id)), .v (.string ⟨⟨(atI x1.Parts x7.1).From⟩⟩), .v (.int .i64 ((atI x1.Parts x7.1).Node)), .v (.int .i64 ((atI x1.Parts x7.1).Dest)), .v (.string ⟨⟨(atI x1.Parts x7.1).Done⟩⟩)] 62, .blk [.v (.string ⟨⟨(atI x1.Parts x7.1).Done⟩⟩), .v (.string ⟨⟨x10.1.To⟩⟩)] 39] ∧ SlAt cTPair V' a52 k52 x51 ∧ SlAt cTShard V' a4 k4 x3 ∧ SlAt cTPart V' a2 k2 x1.Parts ∧ F_migrate_Chunk_L1 x3 x1 x7 x10 J13 n54 x51 x53 = some r) ⟨(((((x3).length : Nat) : Int)).toNat + 1), [(1, .v (.slice a4 ((x3).length) (k4))), (2, .v (.int .i64 (x5))), (3, .v (.int .i64 (x6))), (4, .ptr 0 0), (8, .ptr 1 0), (10, .ptr 2 0), (12, .v (.int .i64 (x7.1))), (14, .ptr 3 0), (15, .ptr 4 0), (17, .v (.slice none (0) (0))), (52, .v (.slice a4 ((x3).length) (k4))), (53, .v (.int .i64 ((((x3).length : Nat) : Int)))), (54, .v (.int .i64 ((0 : Int))))], ⟨rfl, rfl, rfl, rfl, rfl, rfl, rfl, rfl, rfl, rfl, rfl, rfl, rfl, trivial⟩, ([] : List TPair), none, 0, (0 : Int), rfl, rfl, SlAt.nil, h4, h2, hF⟩ ?_
        rintro n54 L' V55 M' ⟨x51, a52, k52, x53, rfl, rfl, h52, h56, h57, hF⟩
        rcases n54 with _ | n54
        · exact absurd hF (by simp [F_migrate_Chunk_L1])
        rw [F_migrate_Chunk_L1] at hF
        refine Exec.run tyOk 400 rfl ?_
        rcases cond_some hF with ⟨hb, hF⟩ | ⟨hb, hF⟩
        · skip
          refine Exec.ifT rfl hb ?_
          refine Exec.run tyOk 400 rfl ?_
          obtain ⟨q58, hF⟩ := req_some hF
          obtain ⟨c59, hr59, hd59⟩ := SlAt.get h56 q58
          obtain ⟨a60, k60, rfl, h60⟩ := hr59
          refine Exec.ia tyOk rfl rfl ⟨q58.1, q58.2, hd59.some⟩ ?_
          refine Exec.run tyOk 400 rfl ?_
          refine Exec.ld tyOk (x := .agg ⟨[.int .i64 ((atI x3 x53).Node), .slice a60 (((atI x3 x53).Pairs).length) (k60)]⟩) rfl rfl hd59 rfl rfl ?_
          refine Exec.run tyOk 400 rfl ?_
          obtain ⟨J63, hJ63, hF⟩ := jn_some hF
          refine Exec.seam (fun L' V' M' => ∃ (x61 : List TPair) (a62 : Option Addr) (k62 : Nat), L' = [(1, .v (.slice a4 ((x3).length) (k4))), (2, .v (.int .i64 (x5))), (3, .v (.int .i64 (x6))), (4, .ptr 0 0), (8, .ptr 1 0), (10, .ptr 2 0), (12, .v (.int .i64 (x7.1))), (14, .ptr 3 0), (15, .ptr 4 0), (17, .v (.slice a62 ((x61).length) (k62))), (52, .v (.slice a4 ((x3).length) (k4))), (53, .v (.int .i64 ((((x3).length : Nat) : Int)))), (54, .v (.int .i64 (x53)))] ∧ M' = [.blk [.v (.int .i64 (x1.Version)), .v (.slice a2 ((x1.Parts).length) (k2))] 24, .blk [.v (.int .i64 (0)), .v (.slice none (0) (0))] 24, .blk [.v (.int .i64 (0)), .v (.int .i64 (0)), .v (.int .i64 (0)), .v (.string ⟨⟨[]⟩⟩), .v (.string ⟨⟨[]⟩⟩), .v (.slice none (0) (0)), .v (.bool (false))] 41, .blk [.v (.int .i64 ((atI x1.Parts x7.1).Id)), .v (.string ⟨⟨(atI x1.Parts x7.1).From⟩⟩), .v (.int .i64 ((atI x1.Parts x7.1).Node)), .v (.int .i64 ((atI x1.Parts x7.1).Dest)), .v (.string ⟨⟨(atI x1.Parts x7.1).Done⟩⟩)] 62, .blk [.v (.string ⟨⟨(atI x1.Parts x7.1).Done⟩⟩), .v (.string ⟨⟨x10.1.To⟩⟩)] 39] ∧ SlAt cTPair V' a62 k62 x61 ∧ SlAt cTShard V' a4 k4 x3 ∧ SlAt cTPart V' a2 k2 x1.Parts ∧ J63 x61 = some r) rfl ?_ ?_
          · rintro L' V64 M' ⟨x61, a62, k62, rfl, rfl, h62, h65, h66, hF⟩
            subst hJ63
            refine Exec.run tyOk 400 rfl ?_
            exact Exec.round [(1, .v (.slice a4 ((x3).length) (k4))), (2, .v (.int .i64 (x5))), (3, .v (.int .i64 (x6))), (4, .ptr 0 0), (8, .ptr 1 0), (10, .ptr 2 0), (12, .v (.int .i64 (x7.1))), (14, .ptr 3 0), (15, .ptr 4 0), (17, .v (.slice a62 ((x61).length) (k62))), (52, .v (.slice a4 ((x3).length) (k4))), (53, .v (.int .i64 ((((x3).length : Nat) : Int)))), (54, .v (.int .i64 ((IntKind.i64.wrap (x53 + (1 : Int))))))] ⟨rfl, rfl, rfl, rfl, rfl, rfl, rfl, rfl, rfl, rfl, rfl, rfl, rfl, trivial⟩ ⟨n54, Nat.lt_succ_self _, x61, a62, k62, (IntKind.i64.wrap (x53 + (1 : Int))), rfl, rfl, h62, h65, h66, hF⟩
          · skip
            refine Exec.run tyOk 400 rfl ?_
            rcases cond_some hF with ⟨hb, hF⟩ | ⟨hb, hF⟩
            · skip
              refine Exec.ifT rfl hb ?_
              refine Exec.run tyOk 400 rfl ?_
              obtain ⟨x67, hx67, hF⟩ := bnd_some hF
              refine Exec.call rfl rfl (W_state_Slice ((atI x3 x53).Pairs) ((⟨(atI x1.Parts x7.1).Done, x10.1.To⟩ : TRange)) h60 hx67) ?_
              rintro V69 _ hv69 ⟨a68, k68, rfl, h68⟩
              have h70 := SlAt.mono h56 hv69
              have h71 := SlAt.mono h52 hv69
              have h73 := SlAt.mono h60 hv69
              have h74 := SlAt.mono h57 hv69
              refine Exec.run tyOk 400 rfl ?_
              refine Exec.cut 5 [(1, .v (.slice a4 ((x3).length) (k4))), (2, .v (.int .i64 (x5))), (3, .v (.int .i64 (x6))), (4, .ptr 0 0), (8, .ptr 1 0), (10, .ptr 2 0), (12, .v (.int .i64 (x7.1))), (14, .ptr 3 0), (15, .ptr 4 0), (17, .v (.slice a68 ((x67).length) (k68))), (52, .v (.slice a4 ((x3).length) (k4))), (53, .v (.int .i64 ((((x3).length : Nat) : Int)))), (54, .v (.int .i64 (x53)))] (M' := [.blk [.v (.int .i64 (x1.Version)), .v (.slice a2 ((x1.Parts).length) (k2))] 24, .blk [.v (.int .i64 (0)), .v (.slice none (0) (0))] 24, .blk [.v (.int .i64 (0)), .v (.int .i64 (0)), .v (.int .i64 (0)), .v (.string ⟨⟨[]⟩⟩), .v (.string ⟨⟨[]⟩⟩), .v (.slice none (0) (0)), .v (.bool (false))] 41, .blk [.v (.int .i64 ((atI x1.Parts x7.1).Id)), .v (.string ⟨⟨(atI x1.Parts x7.1).From⟩⟩), .v (.int .i64 ((atI x1.Parts x7.1).Node)), .v (.int .i64 ((atI x1.Parts x7.1).Dest)), .v (.string ⟨⟨(atI x1.Parts x7.1).Done⟩⟩)] 62, .blk [.v (.string ⟨⟨(atI x1.Parts x7.1).Done⟩⟩), .v (.string ⟨⟨x10.1.To⟩⟩)] 39]) rfl ⟨rfl, rfl, rfl, rfl, rfl, rfl, rfl, rfl, rfl, rfl, rfl, rfl, rfl, trivial⟩ rfl rfl rfl ?_
              exact Exec.round [(1, .v (.slice a4 ((x3).length) (k4))), (2, .v (.int .i64 (x5))), (3, .v (.int .i64 (x6))), (4, .ptr 0 0), (8, .ptr 1 0), (10, .ptr 2 0), (12, .v (.int .i64 (x7.1))), (14, .ptr 3 0), (15, .ptr 4 0), (17, .v (.slice a68 ((x67).length) (k68))), (52, .v (.slice a4 ((x3).length) (k4))), (53, .v (.int .i64 ((((x3).length : Nat) : Int)))), (54, .v (.int .i64 (x53)))] ⟨rfl, rfl, rfl, rfl, rfl, rfl, rfl, rfl, rfl, rfl, rfl, rfl, rfl, trivial⟩ ⟨x67, a68, k68, rfl, rfl, h68, h70, h74, hF⟩
            · skip
              refine Exec.ifF rfl hb ?_
              refine Exec.run tyOk 400 rfl ?_
              refine Exec.cut 5 [(1, .v (.slice a4 ((x3).length) (k4))), (2, .v (.int .i64 (x5))), (3, .v (.int .i64 (x6))), (4, .ptr 0 0), (8, .ptr 1 0), (10, .ptr 2 0), (12, .v (.int .i64 (x7.1))), (14, .ptr 3 0), (15, .ptr 4 0), (17, .v (.slice a52 ((x51).length) (k52))), (52, .v (.slice a4 ((x3).length) (k4))), (53, .v (.int .i64 ((((x3).length : Nat) : Int)))), (54, .v (.int .i64 (x53)))] (M' := [.blk [.v (.int .i64 (x1.Version)), .v (.slice a2 ((x1.Parts).length) (k2))] 24, .blk [.v (.int .i64 (0)), .v (.slice none (0) (0))] 24, .blk [.v (.int .i64 (0)), .v (.int .i64 (0)), .v (.int .i64 (0)), .v (.string ⟨⟨[]⟩⟩), .v (.string ⟨⟨[]⟩⟩), .v (.slice none (0) (0)), .v (.bool (false))] 41, .blk [.v (.int .i64 ((atI x1.Parts x7.1).Id)), .v (.string ⟨⟨(atI x1.Parts x7.1).From⟩⟩), .v (.int .i64 ((atI x1.Parts x7.1).Node)), .v (.int .i64 ((atI x1.Parts x7.1).Dest)), .v (.string ⟨⟨(atI x1.Parts x7.1).Done⟩⟩)] 62, .blk [.v (.string ⟨⟨(atI x1.Parts x7.1).Done⟩⟩), .v (.string ⟨⟨x10.1.To⟩⟩)] 39]) rfl ⟨rfl, rfl, rfl, rfl, rfl, rfl, rfl, rfl, rfl, rfl, rfl, rfl, rfl, trivial⟩ rfl rfl rfl ?_
              exact Exec.round [(1, .v (.slice a4 ((x3).length) (k4))), (2, .v (.int .i64 (x5))), (3, .v (.int .i64 (x6))), (4, .ptr 0 0), (8, .ptr 1 0), (10, .ptr 2 0), (12, .v (.int .i64 (x7.1))), (14, .ptr 3 0), (15, .ptr 4 0), (17, .v (.slice a52 ((x51).length) (k52))), (52, .v (.slice a4 ((x3).length) (k4))), (53, .v (.int .i64 ((((x3).length : Nat) : Int)))), (54, .v (.int .i64 (x53)))] ⟨rfl, rfl, rfl, rfl, rfl, rfl, rfl, rfl, rfl, rfl, rfl, rfl, rfl, trivial⟩ ⟨x51, a52, k52, rfl, rfl, h52, h56, h57, hF⟩
        · skip
          refine Exec.ifF rfl hb ?_
          refine Exec.run tyOk 400 rfl ?_
          exact Exec.round [(1, .v (.slice a4 ((x3).length) (k4))), (2, .v (.int .i64 (x5))), (3, .v (.int .i64 (x6))), (4, .ptr 0 0), (8, .ptr 1 0), (10, .ptr 2 0), (12, .v (.int .i64 (x7.1))), (14, .ptr 3 0), (15, .ptr 4 0), (17, .v (.slice a52 ((x51).length) (k52)))] ⟨rfl, rfl, rfl, rfl, rfl, rfl, rfl, rfl, rfl, rfl, trivial⟩ ⟨x51, a52, k52, rfl, rfl, h52, h56, h57, hF⟩

def F_migrate_Cancel (x1 : TPlacement) (x3 : List TShard) (x5 : Int) : Option (TPlacement × List TShard × Int) :=
  (bnd (F_migrate_moving x1 x3 x5) fun x6 => (cond (x6.2 != (0 : Int)) (some ((⟨0, ([] : List TPart)⟩ : TPlacement), ([] : List TShard), x6.2)) (req (0 ≤ x6.1 ∧ x6.1 < ((x1.Parts).length : Int)) (bnd (F_migrate_changed x1 x6.1 ((⟨(atI x1.Parts x6.1).Id, (atI x1.Parts x6.1).From, (atI x1.Parts x6.1).Node, (0 : Int), ([] : Str)⟩ : TPart))) fun x9 => (bnd (F_migrate_moved x9 x3) fun x15 => (some (x9, x15, (0 : Int))))))))

set_option maxRecDepth 100000 in
theorem W_migrate_Cancel {V : View} (x1 : TPlacement) (x3 : List TShard) (x5 : Int) {a2 : Option Addr} {k2 : Nat} {a4 : Option Addr} {k4 : Nat} (h2 : SlAt cTPart V a2 k2 x1.Parts) (h4 : SlAt cTShard V a4 k4 x3) {r : TPlacement × List TShard × Int} (hF : F_migrate_Cancel x1 x3 x5 = some r) :
    Spec Try.prog 23 [.agg ⟨[.int .i64 (x1.Version), .slice a2 ((x1.Parts).length) (k2)]⟩, .slice a4 ((x3).length) (k4), .int .i64 (x5)] V (fun V' v => ∃ (a22 : Option Addr) (k22 : Nat) (a23 : Option Addr) (k23 : Nat), v = .tuple ⟨[.agg ⟨[.int .i64 (r.1.Version), .slice a22 ((r.1.Parts).length) (k22)]⟩, .slice a23 ((r.2.1).length) (k23), .int .i64 (r.2.2)]⟩ ∧ SlAt cTPart V' a22 k22 r.1.Parts ∧ SlAt cTShard V' a23 k23 r.2.1) := by
  unfold F_migrate_Cancel at hF
  refine Spec.enter (T := tyT) Try.func23 rfl (by kernel_rfl) rfl rfl rfl ?_
  refine Exec.run tyOk 400 rfl ?_
  obtain ⟨x6, hx6, hF⟩ := bnd_some hF
  refine Exec.callS (.tuple ⟨[.int .i64 (x6.1), .int .i64 (x6.2)]⟩) rfl rfl (W_migrate_moving x1 x3 x5 h2 h4 hx6) ?_
  refine Exec.run tyOk 400 rfl ?_
  rcases cond_some hF with ⟨hb, hF⟩ | ⟨hb, hF⟩
  · skip
    refine Exec.ifT rfl hb ?_
    refine Exec.run tyOk 400 rfl ?_
    obtain rfl := some_inj hF
    exact Exec.ret tyOk rfl rfl ⟨_, _, _, _, rfl, SlAt.nil, SlAt.nil⟩
  · skip
    refine Exec.ifF rfl hb ?_
    refine Exec.run tyOk 400 rfl ?_
    obtain ⟨q7, hF⟩ := req_some hF
    obtain ⟨c8, hr8, hd8⟩ := SlAt.get h2 q7
    obtain rfl := hr8
    refine Exec.ia tyOk rfl rfl ⟨q7.1, q7.2, hd8.some⟩ ?_
    refine Exec.run tyOk 400 rfl ?_
    refine Exec.ld tyOk (x := .agg ⟨[.int .i64 ((atI x1.Parts x6.1).Id), .string ⟨⟨(atI x1.Parts x6.1).From⟩⟩, .int .i64 ((atI x1.Parts x6.1).Node), .int .i64 ((atI x1.Parts x6.1).Dest), .string ⟨⟨(atI x1.Parts x6.1).Done⟩⟩]⟩) rfl rfl hd8 rfl rfl ?_
    refine Exec.run tyOk 400 rfl ?_
    obtain ⟨x9, hx9, hF⟩ := bnd_some hF
    refine Exec.call rfl rfl (W_migrate_changed x1 x6.1 ((⟨(atI x1.Parts x6.1).Id, (atI x1.Parts x6.1).From, (atI x1.Parts x6.1).Node, (0 : Int), ([] : Str)⟩ : TPart)) h2 hx9) ?_
    rintro V11 _ hv11 ⟨a10, k10, rfl, h10⟩
    have h12 := SlAt.mono h2 hv11
    have h13 := SlAt.mono h4 hv11
    refine Exec.run tyOk 400 rfl ?_
    refine Exec.draws tyOk [(0, true), (1, true), (2, true), (3, false), (4, false), (5, false), (6, false)] rfl (by kernel_rfl) ?_
    refine Exec.run tyOk 400 rfl ?_
    obtain ⟨x15, hx15, hF⟩ := bnd_some hF
    refine Exec.call rfl rfl (W_migrate_moved x9 x3 h10 h13 hx15) ?_
    rintro V17 _ hv17 ⟨a16, k16, rfl, h16⟩
    have h18 := SlAt.mono h12 hv17
    have h19 := SlAt.mono h13 hv17
    have h21 := SlAt.mono h10 hv17
    refine Exec.run tyOk 400 rfl ?_
    obtain rfl := some_inj hF
    exact Exec.ret tyOk rfl rfl ⟨_, _, _, _, rfl, h21, h16⟩

def F_clockworklaw33_works  : Option Bool :=
  (bnd (F_migrate_Start ((⟨0, ([(⟨(1 : Int), [], (1 : Int), 0, []⟩ : TPart)] : List TPart)⟩ : TPlacement)) ((1 : Int)) ((2 : Int))) fun x2 => (bnd (F_clockworklaw33_pair (([97] : Str))) fun x6 => (bnd (F_clockworklaw33_pair (([98] : Str))) fun x7 => (bnd (F_clockworklaw33_pair (([99] : Str))) fun x8 => (bnd (F_migrate_Chunk x2.1 (([(⟨(1 : Int), ([x6, x7, x8] : List TPair)⟩ : TShard), (⟨(2 : Int), ([] : List TPair)⟩ : TShard)] : List TShard)) ((1 : Int)) ((2 : Int))) fun x16 => (cond (((((x2.2 != (0 : Int)) || (x16.2.2.2 != (0 : Int))) || ((((x2.1.Parts).length : Nat) : Int) != (1 : Int))) || ((((x16.1.Parts).length : Nat) : Int) != (1 : Int))) || ((((x16.2.1).length : Nat) : Int) != (2 : Int))) (some false) (bnd (F_migrate_Chunk x16.1 x16.2.1 ((1 : Int)) ((2 : Int))) fun x25 => (bnd (F_migrate_Cancel x16.1 x16.2.1 ((1 : Int))) fun x37 => (cond ((((((x25.2.2.2 != (0 : Int)) || (x37.2.2 != (0 : Int))) || ((((x25.1.Parts).length : Nat) : Int) != (1 : Int))) || ((((x25.2.1).length : Nat) : Int) != (1 : Int))) || ((((x37.1.Parts).length : Nat) : Int) != (1 : Int))) || ((((x37.2.1).length : Nat) : Int) != (1 : Int))) (some false) (bnd (F_migrate_Receive ((⟨(2 : Int), ([] : List TPair)⟩ : TShard)) x16.2.2.1) fun x51 => (req (0 ≤ (0 : Int) ∧ (0 : Int) < ((x2.1.Parts).length : Int)) (req (((((atI x2.1.Parts ((0 : Int))).Dest == (2 : Int))) == true) = true → 0 ≤ (0 : Int) ∧ (0 : Int) < ((x2.1.Parts).length : Int)) (req ((((((atI x2.1.Parts ((0 : Int))).Dest == (2 : Int)) && ((cond ((((atI x2.1.Parts ((0 : Int))).Dest == (2 : Int))) == true) (atI x2.1.Parts ((0 : Int))) default).Done == ([] : Str)))) == true) = true → 0 ≤ (0 : Int) ∧ (0 : Int) < ((x16.1.Parts).length : Int)) (bnd (some (((((atI x2.1.Parts ((0 : Int))).Dest == (2 : Int)) && ((cond ((((atI x2.1.Parts ((0 : Int))).Dest == (2 : Int))) == true) (atI x2.1.Parts ((0 : Int))) default).Done == ([] : Str))) && ((cond (((((atI x2.1.Parts ((0 : Int))).Dest == (2 : Int)) && ((cond ((((atI x2.1.Parts ((0 : Int))).Dest == (2 : Int))) == true) (atI x2.1.Parts ((0 : Int))) default).Done == ([] : Str)))) == true) (atI x16.1.Parts ((0 : Int))) default).Done == ([99] : Str))))) fun x72 => (req (((x72) == true) = true → 0 ≤ (1 : Int) ∧ (1 : Int) < ((x16.2.1).length : Int)) (req (((((((x72 && (((((cond ((x72) == true) (atI x16.2.1 ((1 : Int))) default).Pairs).length : Nat) : Int) == (2 : Int))) && ((x16.2.2.1.Keys.From == []) && ((x16.2.2.1.Keys.To == ([99] : Str)) && true))) && (!x16.2.2.1.Last)) && x25.2.2.1.Last)) == true) = true → 0 ≤ (0 : Int) ∧ (0 : Int) < ((x25.1.Parts).length : Int)) (bnd (some ((((((x72 && (((((cond ((x72) == true) (atI x16.2.1 ((1 : Int))) default).Pairs).length : Nat) : Int) == (2 : Int))) && ((x16.2.2.1.Keys.From == []) && ((x16.2.2.1.Keys.To == ([99] : Str)) && true))) && (!x16.2.2.1.Last)) && x25.2.2.1.Last) && (((cond ((((((x72 && (((((cond ((x72) == true) (atI x16.2.1 ((1 : Int))) default).Pairs).length : Nat) : Int) == (2 : Int))) && ((x16.2.2.1.Keys.From == []) && ((x16.2.2.1.Keys.To == ([99] : Str)) && true))) && (!x16.2.2.1.Last)) && x25.2.2.1.Last)) == true) (atI x25.1.Parts ((0 : Int))) default).Id == (1 : Int)) && (((cond ((((((x72 && (((((cond ((x72) == true) (atI x16.2.1 ((1 : Int))) default).Pairs).length : Nat) : Int) == (2 : Int))) && ((x16.2.2.1.Keys.From == []) && ((x16.2.2.1.Keys.To == ([99] : Str)) && true))) && (!x16.2.2.1.Last)) && x25.2.2.1.Last)) == true) (atI x25.1.Parts ((0 : Int))) default).From == []) && (((cond ((((((x72 && (((((cond ((x72) == true) (atI x16.2.1 ((1 : Int))) default).Pairs).length : Nat) : Int) == (2 : Int))) && ((x16.2.2.1.Keys.From == []) && ((x16.2.2.1.Keys.To == ([99] : Str)) && true))) && (!x16.2.2.1.Last)) && x25.2.2.1.Last)) == true) (atI x25.1.Parts ((0 : Int))) default).Node == (2 : Int)) && (((cond ((((((x72 && (((((cond ((x72) == true) (atI x16.2.1 ((1 : Int))) default).Pairs).length : Nat) : Int) == (2 : Int))) && ((x16.2.2.1.Keys.From == []) && ((x16.2.2.1.Keys.To == ([99] : Str)) && true))) && (!x16.2.2.1.Last)) && x25.2.2.1.Last)) == true) (atI x25.1.Parts ((0 : Int))) default).Dest == 0) && (((cond ((((((x72 && (((((cond ((x72) == true) (atI x16.2.1 ((1 : Int))) default).Pairs).length : Nat) : Int) == (2 : Int))) && ((x16.2.2.1.Keys.From == []) && ((x16.2.2.1.Keys.To == ([99] : Str)) && true))) && (!x16.2.2.1.Last)) && x25.2.2.1.Last)) == true) (atI x25.1.Parts ((0 : Int))) default).Done == []) && true)))))))) fun x78 => (req (((x78) == true) = true → 0 ≤ (0 : Int) ∧ (0 : Int) < ((x25.2.1).length : Int)) (req ((((x78 && (((((cond ((x78) == true) (atI x25.2.1 ((0 : Int))) default).Pairs).length : Nat) : Int) == (3 : Int)))) == true) = true → 0 ≤ (0 : Int) ∧ (0 : Int) < ((x37.1.Parts).length : Int)) (bnd (some (((x78 && (((((cond ((x78) == true) (atI x25.2.1 ((0 : Int))) default).Pairs).length : Nat) : Int) == (3 : Int))) && (((cond (((x78 && (((((cond ((x78) == true) (atI x25.2.1 ((0 : Int))) default).Pairs).length : Nat) : Int) == (3 : Int)))) == true) (atI x37.1.Parts ((0 : Int))) default).Id == (1 : Int)) && (((cond (((x78 && (((((cond ((x78) == true) (atI x25.2.1 ((0 : Int))) default).Pairs).length : Nat) : Int) == (3 : Int)))) == true) (atI x37.1.Parts ((0 : Int))) default).From == []) && (((cond (((x78 && (((((cond ((x78) == true) (atI x25.2.1 ((0 : Int))) default).Pairs).length : Nat) : Int) == (3 : Int)))) == true) (atI x37.1.Parts ((0 : Int))) default).Node == (1 : Int)) && (((cond (((x78 && (((((cond ((x78) == true) (atI x25.2.1 ((0 : Int))) default).Pairs).length : Nat) : Int) == (3 : Int)))) == true) (atI x37.1.Parts ((0 : Int))) default).Dest == 0) && (((cond (((x78 && (((((cond ((x78) == true) (atI x25.2.1 ((0 : Int))) default).Pairs).length : Nat) : Int) == (3 : Int)))) == true) (atI x37.1.Parts ((0 : Int))) default).Done == []) && true)))))))) fun x84 => (req (((x84) == true) = true → 0 ≤ (0 : Int) ∧ (0 : Int) < ((x37.2.1).length : Int)) (req (((((x84 && (((((cond ((x84) == true) (atI x37.2.1 ((0 : Int))) default).Pairs).length : Nat) : Int) == (3 : Int))) && (x51.2 == (0 : Int)))) == true) = true → 0 ≤ (1 : Int) ∧ (1 : Int) < ((x16.2.1).length : Int)) (bnd (gcall ((((x84 && (((((cond ((x84) == true) (atI x37.2.1 ((0 : Int))) default).Pairs).length : Nat) : Int) == (3 : Int))) && (x51.2 == (0 : Int)))) == true) (F_clockworkref06_Same x51.1.Pairs ((cond ((((x84 && (((((cond ((x84) == true) (atI x37.2.1 ((0 : Int))) default).Pairs).length : Nat) : Int) == (3 : Int))) && (x51.2 == (0 : Int)))) == true) (atI x16.2.1 ((1 : Int))) default).Pairs))) fun x91 => (bnd (gcall (((((x84 && (((((cond ((x84) == true) (atI x37.2.1 ((0 : Int))) default).Pairs).length : Nat) : Int) == (3 : Int))) && (x51.2 == (0 : Int))) && x91)) == true) (F_migrate_Moving x16.1)) fun x92 => (bnd (gcall (((((x84 && (((((cond ((x84) == true) (atI x37.2.1 ((0 : Int))) default).Pairs).length : Nat) : Int) == (3 : Int))) && (x51.2 == (0 : Int))) && x91)) == true) (F_clockworkref23_Ints x92 (([(1 : Int)] : List Int)))) fun x272 => (some ((((x84 && (((((cond ((x84) == true) (atI x37.2.1 ((0 : Int))) default).Pairs).length : Nat) : Int) == (3 : Int))) && (x51.2 == (0 : Int))) && x91) && x272)))))))))))))))))))))))))))

set_option maxRecDepth 100000 in
theorem W_clockworklaw33_works {V : View}    {r : Bool} (hF : F_clockworklaw33_works  = some r) :
    Spec Try.prog 9 [] V (fun _ v => v = .bool (r)) := by
  unfold F_clockworklaw33_works at hF
  refine Spec.enter (T := tyT) Try.func9 rfl (by kernel_rfl) rfl rfl rfl ?_
  refine Exec.run tyOk 400 rfl ?_
  refine Exec.bsV tyOk rfl rfl rfl rfl rfl (fun V1 a1 hv1 hd1 => ?_)
  have h1 : SlAt cTPart V1 (some a1) 1 ([(⟨(1 : Int), [], (1 : Int), 0, []⟩ : TPart)] : List TPart) := RowRep.slat (c := cTPart) (V := V1) (cs := [.int .i64 ((1 : Int)), .string ⟨⟨[]⟩⟩, .int .i64 ((1 : Int)), .int .i64 (0), .string ⟨⟨[]⟩⟩]) ⟨_, _, rfl, rfl, rfl⟩ (VLe.refl _) (fun _ => hd1) (by simp)
  refine Exec.run tyOk 400 rfl ?_
  obtain ⟨x2, hx2, hF⟩ := bnd_some hF
  refine Exec.call rfl rfl (W_migrate_Start ((⟨0, ([(⟨(1 : Int), [], (1 : Int), 0, []⟩ : TPart)] : List TPart)⟩ : TPlacement)) ((1 : Int)) ((2 : Int)) h1 hx2) ?_
  rintro V4 _ hv4 ⟨a3, k3, rfl, h3⟩
  have h5 := SlAt.mono h1 hv4
  refine Exec.run tyOk 400 rfl ?_
  obtain ⟨x6, hx6, hF⟩ := bnd_some hF
  refine Exec.callS (.agg ⟨[.string ⟨⟨x6.Key⟩⟩, .int .i64 (x6.Val.Kind), .int .i64 (x6.Val.N), .string ⟨⟨x6.Val.S⟩⟩]⟩) rfl rfl (W_clockworklaw33_pair (([97] : Str))  hx6) ?_
  refine Exec.run tyOk 400 rfl ?_
  obtain ⟨x7, hx7, hF⟩ := bnd_some hF
  refine Exec.callS (.agg ⟨[.string ⟨⟨x7.Key⟩⟩, .int .i64 (x7.Val.Kind), .int .i64 (x7.Val.N), .string ⟨⟨x7.Val.S⟩⟩]⟩) rfl rfl (W_clockworklaw33_pair (([98] : Str))  hx7) ?_
  refine Exec.run tyOk 400 rfl ?_
  obtain ⟨x8, hx8, hF⟩ := bnd_some hF
  refine Exec.callS (.agg ⟨[.string ⟨⟨x8.Key⟩⟩, .int .i64 (x8.Val.Kind), .int .i64 (x8.Val.N), .string ⟨⟨x8.Val.S⟩⟩]⟩) rfl rfl (W_clockworklaw33_pair (([99] : Str))  hx8) ?_
  refine Exec.run tyOk 400 rfl ?_
  refine Exec.bsV tyOk rfl rfl rfl rfl rfl (fun V9 a9 hv9 hd9 => ?_)
  have h10 := SlAt.mono h5 hv9
  have h11 := SlAt.mono h3 hv9
  have h9 : SlAt cTPair V9 (some a9) 3 ([x6, x7, x8] : List TPair) := RowRep.slat (c := cTPair) (V := V9) (cs := [.string ⟨⟨x6.Key⟩⟩, .int .i64 (x6.Val.Kind), .int .i64 (x6.Val.N), .string ⟨⟨x6.Val.S⟩⟩, .string ⟨⟨x7.Key⟩⟩, .int .i64 (x7.Val.Kind), .int .i64 (x7.Val.N), .string ⟨⟨x7.Val.S⟩⟩, .string ⟨⟨x8.Key⟩⟩, .int .i64 (x8.Val.Kind), .int .i64 (x8.Val.N), .string ⟨⟨x8.Val.S⟩⟩]) ⟨_, _, rfl, rfl, ⟨_, _, rfl, rfl, ⟨_, _, rfl, rfl, rfl⟩⟩⟩ (VLe.refl _) (fun _ => hd9) (by simp)
  refine Exec.run tyOk 400 rfl ?_
  refine Exec.bsV tyOk rfl rfl rfl rfl rfl (fun V12 a12 hv12 hd12 => ?_)
  have h13 := SlAt.mono h10 hv12
  have h14 := SlAt.mono h11 hv12
  have h15 := SlAt.mono h9 hv12
  have h12 : SlAt cTShard V12 (some a12) 2 ([(⟨(1 : Int), ([x6, x7, x8] : List TPair)⟩ : TShard), (⟨(2 : Int), ([] : List TPair)⟩ : TShard)] : List TShard) := RowRep.slat (c := cTShard) (V := V12) (cs := [.int .i64 ((1 : Int)), .slice ((some a9)) (3) (3), .int .i64 ((2 : Int)), .slice none (0) (0)]) ⟨_, _, rfl, ⟨_, _, rfl, (SlAt.mono h9 hv12)⟩, ⟨_, _, rfl, ⟨_, _, rfl, SlAt.nil⟩, rfl⟩⟩ (VLe.refl _) (fun _ => hd12) (by simp)
  refine Exec.run tyOk 400 rfl ?_
  obtain ⟨x16, hx16, hF⟩ := bnd_some hF
  refine Exec.call rfl rfl (W_migrate_Chunk x2.1 (([(⟨(1 : Int), ([x6, x7, x8] : List TPair)⟩ : TShard), (⟨(2 : Int), ([] : List TPair)⟩ : TShard)] : List TShard)) ((1 : Int)) ((2 : Int)) h14 h12 hx16) ?_
  rintro V20 _ hv20 ⟨a17, k17, a18, k18, a19, k19, rfl, h17, h18, h19⟩
  have h21 := SlAt.mono h12 hv20
  have h22 := SlAt.mono h13 hv20
  have h23 := SlAt.mono h14 hv20
  have h24 := SlAt.mono h15 hv20
  refine Exec.run tyOk 400 rfl ?_
  rcases cond_some hF with ⟨hb, hF⟩ | ⟨hb, hF⟩
  · skip
    refine Exec.ifT rfl hb ?_
    refine Exec.run tyOk 400 rfl ?_
    obtain rfl := some_inj hF
    exact Exec.ret tyOk rfl rfl rfl
  · skip
    refine Exec.ifF rfl hb ?_
    refine Exec.run tyOk 400 rfl ?_
    obtain ⟨x25, hx25, hF⟩ := bnd_some hF
    refine Exec.call rfl rfl (W_migrate_Chunk x16.1 x16.2.1 ((1 : Int)) ((2 : Int)) h17 h18 hx25) ?_
    rintro V29 _ hv29 ⟨a26, k26, a27, k27, a28, k28, rfl, h26, h27, h28⟩
    have h30 := SlAt.mono h21 hv29
    have h31 := SlAt.mono h18 hv29
    have h32 := SlAt.mono h22 hv29
    have h33 := SlAt.mono h23 hv29
    have h34 := SlAt.mono h24 hv29
    have h35 := SlAt.mono h17 hv29
    have h36 := SlAt.mono h19 hv29
    refine Exec.run tyOk 400 rfl ?_
    obtain ⟨x37, hx37, hF⟩ := bnd_some hF
    refine Exec.call rfl rfl (W_migrate_Cancel x16.1 x16.2.1 ((1 : Int)) h35 h31 hx37) ?_
    rintro V40 _ hv40 ⟨a38, k38, a39, k39, rfl, h38, h39⟩
    have h41 := SlAt.mono h30 hv40
    have h42 := SlAt.mono h31 hv40
    have h43 := SlAt.mono h27 hv40
    have h44 := SlAt.mono h32 hv40
    have h45 := SlAt.mono h33 hv40
    have h46 := SlAt.mono h34 hv40
    have h47 := SlAt.mono h35 hv40
    have h48 := SlAt.mono h36 hv40
    have h49 := SlAt.mono h26 hv40
    have h50 := SlAt.mono h28 hv40
    refine Exec.run tyOk 400 rfl ?_
    rcases cond_some hF with ⟨hb, hF⟩ | ⟨hb, hF⟩
    · skip
      refine Exec.ifT rfl hb ?_
      refine Exec.run tyOk 400 rfl ?_
      obtain rfl := some_inj hF
      exact Exec.ret tyOk rfl rfl rfl
    · skip
      refine Exec.ifF rfl hb ?_
      refine Exec.run tyOk 400 rfl ?_
      obtain ⟨x51, hx51, hF⟩ := bnd_some hF
      refine Exec.call rfl rfl (W_migrate_Receive ((⟨(2 : Int), ([] : List TPair)⟩ : TShard)) x16.2.2.1 SlAt.nil h48 hx51) ?_
      rintro V53 _ hv53 ⟨a52, k52, rfl, h52⟩
      have h54 := SlAt.mono h41 hv53
      have h55 := SlAt.mono h42 hv53
      have h56 := SlAt.mono h43 hv53
      have h57 := SlAt.mono h39 hv53
      have h58 := SlAt.mono h44 hv53
      have h59 := SlAt.mono h45 hv53
      have h60 := SlAt.mono h46 hv53
      have h61 := SlAt.mono h47 hv53
      have h62 := SlAt.mono h48 hv53
      have h63 := SlAt.mono h49 hv53
      have h64 := SlAt.mono h50 hv53
      have h65 := SlAt.mono h38 hv53
      refine Exec.run tyOk 400 rfl ?_
      refine Exec.draws tyOk [(0, true), (1, true), (2, true), (3, true), (4, true), (5, true), (6, true), (7, true), (8, true), (9, true), (10, true), (11, true), (12, true), (13, true), (14, true), (15, true), (16, true), (17, true), (18, true), (19, true), (20, true), (21, true), (22, true), (23, true), (24, true), (25, true), (26, true), (27, true), (28, true), (29, true), (30, true), (31, true), (32, true), (33, true), (34, true), (35, true), (36, true), (37, true), (38, true), (39, true), (40, true), (41, true), (42, true), (43, true), (44, true), (45, true), (46, true), (47, true), (48, true), (49, true), (50, true), (51, true), (52, true), (53, true), (54, true), (55, true), (56, true), (57, true), (58, true), (59, true), (60, true), (61, true), (62, true), (63, true), (64, true), (65, true), (66, true), (67, true), (68, true), (69, true), (70, true), (71, true), (72, true), (73, true), (74, true), (75, true), (76, true), (77, true), (78, true), (79, true), (80, true), (81, true), (82, true), (83, true), (84, true), (85, true), (86, true), (87, true), (88, false), (89, false), (90, false), (91, true)] rfl (by kernel_rfl) ?_
      refine Exec.run tyOk 400 rfl ?_
      obtain ⟨q66, hF⟩ := req_some hF
      obtain ⟨c67, hr67, hd67⟩ := SlAt.get h59 q66
      obtain rfl := hr67
      refine Exec.fia tyOk rfl rfl rfl ⟨q66.1, q66.2, hd67.some⟩ ?_
      refine Exec.run tyOk 400 rfl ?_
      refine Exec.fld tyOk (x := .int .i64 ((atI x2.1.Parts ((0 : Int))).Dest)) rfl rfl rfl (RdAt.part hd67 3 1 rfl) rfl rfl ?_
      refine Exec.run tyOk 400 rfl ?_
      obtain ⟨q68, hF⟩ := req_some hF
      obtain ⟨c69, hr69, hd69⟩ := SlAt.gget ((((atI x2.1.Parts ((0 : Int))).Dest == (2 : Int))) == true) h59 q68
      obtain rfl := hr69
      refine Exec.fia tyOk rfl rfl rfl (fun gg0 => ⟨(q68 (gd1_of gg0)).1, (q68 (gd1_of gg0)).2, (hd69 (gd1_of gg0)).some⟩) ?_
      refine Exec.run tyOk 400 rfl ?_
      refine Exec.fld tyOk (x := .string ⟨⟨(cond ((((atI x2.1.Parts ((0 : Int))).Dest == (2 : Int))) == true) (atI x2.1.Parts ((0 : Int))) default).Done⟩⟩) rfl rfl rfl (fun gg0 => (RdAt.part (hd69 (gd1_of gg0)) 4 1 rfl)) rfl rfl ?_
      refine Exec.run tyOk 400 rfl ?_
      obtain ⟨q70, hF⟩ := req_some hF
      obtain ⟨c71, hr71, hd71⟩ := SlAt.gget (((((atI x2.1.Parts ((0 : Int))).Dest == (2 : Int)) && ((cond ((((atI x2.1.Parts ((0 : Int))).Dest == (2 : Int))) == true) (atI x2.1.Parts ((0 : Int))) default).Done == ([] : Str)))) == true) h61 q70
      obtain rfl := hr71
      refine Exec.fia tyOk rfl rfl rfl (fun gg0 => ⟨(q70 (gd1_of gg0)).1, (q70 (gd1_of gg0)).2, (hd71 (gd1_of gg0)).some⟩) ?_
      refine Exec.run tyOk 400 rfl ?_
      refine Exec.fld tyOk (x := .string ⟨⟨(cond (((((atI x2.1.Parts ((0 : Int))).Dest == (2 : Int)) && ((cond ((((atI x2.1.Parts ((0 : Int))).Dest == (2 : Int))) == true) (atI x2.1.Parts ((0 : Int))) default).Done == ([] : Str)))) == true) (atI x16.1.Parts ((0 : Int))) default).Done⟩⟩) rfl rfl rfl (fun gg0 => (RdAt.part (hd71 (gd1_of gg0)) 4 1 rfl)) rfl rfl ?_
      refine Exec.run tyOk 2 rfl ?_
      obtain ⟨x72, hx72, hF⟩ := bnd_some hF
      refine Exec.nameD (some_inj hx72) 134 rfl rfl rfl rfl ?_
      refine Exec.run tyOk 400 rfl ?_
      obtain ⟨q73, hF⟩ := req_some hF
      obtain ⟨c74, hr74, hd74⟩ := SlAt.gget ((x72) == true) h55 q73
      obtain ⟨a75, k75, rfl, h75⟩ := hr74
      refine Exec.fia tyOk rfl rfl rfl (fun gg0 => ⟨(q73 (gd1_of gg0)).1, (q73 (gd1_of gg0)).2, (hd74 (gd1_of gg0)).some⟩) ?_
      refine Exec.run tyOk 400 rfl ?_
      refine Exec.fld tyOk (x := .slice a75 (((cond ((x72) == true) (atI x16.2.1 ((1 : Int))) default).Pairs).length) (k75)) rfl rfl rfl (fun gg0 => (RdAt.part (hd74 (gd1_of gg0)) 1 1 rfl)) rfl rfl ?_
      refine Exec.run tyOk 400 rfl ?_
      obtain ⟨q76, hF⟩ := req_some hF
      obtain ⟨c77, hr77, hd77⟩ := SlAt.gget ((((((x72 && (((((cond ((x72) == true) (atI x16.2.1 ((1 : Int))) default).Pairs).length : Nat) : Int) == (2 : Int))) && ((x16.2.2.1.Keys.From == []) && ((x16.2.2.1.Keys.To == ([99] : Str)) && true))) && (!x16.2.2.1.Last)) && x25.2.2.1.Last)) == true) h63 q76
      obtain rfl := hr77
      refine Exec.fia tyOk rfl rfl rfl (fun gg0 => ⟨(q76 (gd1_of gg0)).1, (q76 (gd1_of gg0)).2, (hd77 (gd1_of gg0)).some⟩) ?_
      refine Exec.run tyOk 400 rfl ?_
      refine Exec.fld tyOk (x := .agg ⟨[.int .i64 ((cond ((((((x72 && (((((cond ((x72) == true) (atI x16.2.1 ((1 : Int))) default).Pairs).length : Nat) : Int) == (2 : Int))) && ((x16.2.2.1.Keys.From == []) && ((x16.2.2.1.Keys.To == ([99] : Str)) && true))) && (!x16.2.2.1.Last)) && x25.2.2.1.Last)) == true) (atI x25.1.Parts ((0 : Int))) default).Id), .string ⟨⟨(cond ((((((x72 && (((((cond ((x72) == true) (atI x16.2.1 ((1 : Int))) default).Pairs).length : Nat) : Int) == (2 : Int))) && ((x16.2.2.1.Keys.From == []) && ((x16.2.2.1.Keys.To == ([99] : Str)) && true))) && (!x16.2.2.1.Last)) && x25.2.2.1.Last)) == true) (atI x25.1.Parts ((0 : Int))) default).From⟩⟩, .int .i64 ((cond ((((((x72 && (((((cond ((x72) == true) (atI x16.2.1 ((1 : Int))) default).Pairs).length : Nat) : Int) == (2 : Int))) && ((x16.2.2.1.Keys.From == []) && ((x16.2.2.1.Keys.To == ([99] : Str)) && true))) && (!x16.2.2.1.Last)) && x25.2.2.1.Last)) == true) (atI x25.1.Parts ((0 : Int))) default).Node), .int .i64 ((cond ((((((x72 && (((((cond ((x72) == true) (atI x16.2.1 ((1 : Int))) default).Pairs).length : Nat) : Int) == (2 : Int))) && ((x16.2.2.1.Keys.From == []) && ((x16.2.2.1.Keys.To == ([99] : Str)) && true))) && (!x16.2.2.1.Last)) && x25.2.2.1.Last)) == true) (atI x25.1.Parts ((0 : Int))) default).Dest), .string ⟨⟨(cond ((((((x72 && (((((cond ((x72) == true) (atI x16.2.1 ((1 : Int))) default).Pairs).length : Nat) : Int) == (2 : Int))) && ((x16.2.2.1.Keys.From == []) && ((x16.2.2.1.Keys.To == ([99] : Str)) && true))) && (!x16.2.2.1.Last)) && x25.2.2.1.Last)) == true) (atI x25.1.Parts ((0 : Int))) default).Done⟩⟩]⟩) rfl rfl rfl (fun gg0 => (hd77 (gd1_of gg0))) rfl rfl ?_
      refine Exec.run tyOk 3 rfl ?_
      obtain ⟨x78, hx78, hF⟩ := bnd_some hF
      refine Exec.nameD (some_inj hx78) 165 rfl rfl rfl rfl ?_
      refine Exec.run tyOk 400 rfl ?_
      obtain ⟨q79, hF⟩ := req_some hF
      obtain ⟨c80, hr80, hd80⟩ := SlAt.gget ((x78) == true) h56 q79
      obtain ⟨a81, k81, rfl, h81⟩ := hr80
      refine Exec.fia tyOk rfl rfl rfl (fun gg0 => ⟨(q79 (gd1_of gg0)).1, (q79 (gd1_of gg0)).2, (hd80 (gd1_of gg0)).some⟩) ?_
      refine Exec.run tyOk 400 rfl ?_
      refine Exec.fld tyOk (x := .slice a81 (((cond ((x78) == true) (atI x25.2.1 ((0 : Int))) default).Pairs).length) (k81)) rfl rfl rfl (fun gg0 => (RdAt.part (hd80 (gd1_of gg0)) 1 1 rfl)) rfl rfl ?_
      refine Exec.run tyOk 400 rfl ?_
      obtain ⟨q82, hF⟩ := req_some hF
      obtain ⟨c83, hr83, hd83⟩ := SlAt.gget (((x78 && (((((cond ((x78) == true) (atI x25.2.1 ((0 : Int))) default).Pairs).length : Nat) : Int) == (3 : Int)))) == true) h65 q82
      obtain rfl := hr83
      refine Exec.fia tyOk rfl rfl rfl (fun gg0 => ⟨(q82 (gd1_of gg0)).1, (q82 (gd1_of gg0)).2, (hd83 (gd1_of gg0)).some⟩) ?_
      refine Exec.run tyOk 400 rfl ?_
      refine Exec.fld tyOk (x := .agg ⟨[.int .i64 ((cond (((x78 && (((((cond ((x78) == true) (atI x25.2.1 ((0 : Int))) default).Pairs).length : Nat) : Int) == (3 : Int)))) == true) (atI x37.1.Parts ((0 : Int))) default).Id), .string ⟨⟨(cond (((x78 && (((((cond ((x78) == true) (atI x25.2.1 ((0 : Int))) default).Pairs).length : Nat) : Int) == (3 : Int)))) == true) (atI x37.1.Parts ((0 : Int))) default).From⟩⟩, .int .i64 ((cond (((x78 && (((((cond ((x78) == true) (atI x25.2.1 ((0 : Int))) default).Pairs).length : Nat) : Int) == (3 : Int)))) == true) (atI x37.1.Parts ((0 : Int))) default).Node), .int .i64 ((cond (((x78 && (((((cond ((x78) == true) (atI x25.2.1 ((0 : Int))) default).Pairs).length : Nat) : Int) == (3 : Int)))) == true) (atI x37.1.Parts ((0 : Int))) default).Dest), .string ⟨⟨(cond (((x78 && (((((cond ((x78) == true) (atI x25.2.1 ((0 : Int))) default).Pairs).length : Nat) : Int) == (3 : Int)))) == true) (atI x37.1.Parts ((0 : Int))) default).Done⟩⟩]⟩) rfl rfl rfl (fun gg0 => (hd83 (gd1_of gg0))) rfl rfl ?_
      refine Exec.run tyOk 3 rfl ?_
      obtain ⟨x84, hx84, hF⟩ := bnd_some hF
      refine Exec.nameD (some_inj hx84) 181 rfl rfl rfl rfl ?_
      refine Exec.run tyOk 400 rfl ?_
      obtain ⟨q85, hF⟩ := req_some hF
      obtain ⟨c86, hr86, hd86⟩ := SlAt.gget ((x84) == true) h57 q85
      obtain ⟨a87, k87, rfl, h87⟩ := hr86
      refine Exec.fia tyOk rfl rfl rfl (fun gg0 => ⟨(q85 (gd1_of gg0)).1, (q85 (gd1_of gg0)).2, (hd86 (gd1_of gg0)).some⟩) ?_
      refine Exec.run tyOk 400 rfl ?_
      refine Exec.fld tyOk (x := .slice a87 (((cond ((x84) == true) (atI x37.2.1 ((0 : Int))) default).Pairs).length) (k87)) rfl rfl rfl (fun gg0 => (RdAt.part (hd86 (gd1_of gg0)) 1 1 rfl)) rfl rfl ?_
      refine Exec.run tyOk 400 rfl ?_
      obtain ⟨q88, hF⟩ := req_some hF
      obtain ⟨c89, hr89, hd89⟩ := SlAt.gget ((((x84 && (((((cond ((x84) == true) (atI x37.2.1 ((0 : Int))) default).Pairs).length : Nat) : Int) == (3 : Int))) && (x51.2 == (0 : Int)))) == true) h55 q88
      obtain ⟨a90, k90, rfl, h90⟩ := hr89
      refine Exec.fia tyOk rfl rfl rfl (fun gg0 => ⟨(q88 (gd1_of gg0)).1, (q88 (gd1_of gg0)).2, (hd89 (gd1_of gg0)).some⟩) ?_
      refine Exec.run tyOk 400 rfl ?_
      refine Exec.fld tyOk (x := .slice a90 (((cond ((((x84 && (((((cond ((x84) == true) (atI x37.2.1 ((0 : Int))) default).Pairs).length : Nat) : Int) == (3 : Int))) && (x51.2 == (0 : Int)))) == true) (atI x16.2.1 ((1 : Int))) default).Pairs).length) (k90)) rfl rfl rfl (fun gg0 => (RdAt.part (hd89 (gd1_of gg0)) 1 1 rfl)) rfl rfl ?_
      refine Exec.run tyOk 400 rfl ?_
      obtain ⟨x91, hx91, hF⟩ := bnd_some hF
      refine Exec.callS (.bool (x91)) rfl rfl (fun gg0 => W_clockworkref06_Same x51.1.Pairs ((cond ((((x84 && (((((cond ((x84) == true) (atI x37.2.1 ((0 : Int))) default).Pairs).length : Nat) : Int) == (3 : Int))) && (x51.2 == (0 : Int)))) == true) (atI x16.2.1 ((1 : Int))) default).Pairs) h52 h90 (gcall_some hx91 (gd1_of gg0))) ?_
      refine Exec.run tyOk 400 rfl ?_
      obtain ⟨x92, hx92, hF⟩ := bnd_some hF
      refine Exec.fork2 92 93 [(93, false)] [(92, false)] [(94, false), (95, false), (96, false)] (fun lr' L' V' M' => ∃ (a93 : Option Addr) (k93 : Nat) (a121 : Addr), lr' = [⟨202, [], .v (.bool ((((x84 && (((((cond ((x84) == true) (atI x37.2.1 ((0 : Int))) default).Pairs).length : Nat) : Int) == (3 : Int))) && (x51.2 == (0 : Int))) && x91))), 202⟩, ⟨203, [], .v (.bool ((((x84 && (((((cond ((x84) == true) (atI x37.2.1 ((0 : Int))) default).Pairs).length : Nat) : Int) == (3 : Int))) && (x51.2 == (0 : Int))) && x91))), 202⟩, ⟨205, [(202, true)], .v (.slice a93 ((x92).length) (k93)), 205⟩, ⟨206, [(202, true)], .v (.slice ((some a121)) (1) (1)), 206⟩] ∧ L' = [(0, .v (.bool (false))), (203, .v (.bool ((((x84 && (((((cond ((x84) == true) (atI x37.2.1 ((0 : Int))) default).Pairs).length : Nat) : Int) == (3 : Int))) && (x51.2 == (0 : Int))) && x91))))] ∧ M' = [.unk, .blk [.v (.int .i64 (0)), .v (.slice ((some a1)) (1) (1))] 24, .blk [.v (.int .i64 (x2.1.Version)), .v (.slice a3 ((x2.1.Parts).length) (k3))] 24, .unk, .unk, .blk [.v (.int .i64 (x16.1.Version)), .v (.slice a17 ((x16.1.Parts).length) (k17))] 24, .blk [.v (.int .i64 (x16.2.2.1.Part)), .v (.int .i64 (x16.2.2.1.From)), .v (.int .i64 (x16.2.2.1.To)), .v (.string ⟨⟨x16.2.2.1.Keys.From⟩⟩), .v (.string ⟨⟨x16.2.2.1.Keys.To⟩⟩), .v (.slice a19 ((x16.2.2.1.Pairs).length) (k19)), .v (.bool (x16.2.2.1.Last))] 41, .blk [.v (.int .i64 (x25.1.Version)), .v (.slice a26 ((x25.1.Parts).length) (k26))] 24, .blk [.v (.int .i64 (x25.2.2.1.Part)), .v (.int .i64 (x25.2.2.1.From)), .v (.int .i64 (x25.2.2.1.To)), .v (.string ⟨⟨x25.2.2.1.Keys.From⟩⟩), .v (.string ⟨⟨x25.2.2.1.Keys.To⟩⟩), .v (.slice a28 ((x25.2.2.1.Pairs).length) (k28)), .v (.bool (x25.2.2.1.Last))] 41, .blk [.v (.int .i64 (x37.1.Version)), .v (.slice a38 ((x37.1.Parts).length) (k38))] 24, .blk [.v (.int .i64 (x51.1.Node)), .v (.slice a52 ((x51.1.Pairs).length) (k52))] 37, .unk] ∧ SlAt (cInt .i64) V' a93 k93 x92 ∧ (((((x84 && (((((cond ((x84) == true) (atI x37.2.1 ((0 : Int))) default).Pairs).length : Nat) : Int) == (3 : Int))) && (x51.2 == (0 : Int))) && x91)) = true → SlAt (cInt .i64) V' ((some a121)) 1 (([(1 : Int)] : List Int))) ∧ SlAt cTPart V' ((some a1)) 1 (([(⟨(1 : Int), [], (1 : Int), 0, []⟩ : TPart)] : List TPart)) ∧ SlAt cTPart V' a3 k3 x2.1.Parts ∧ SlAt cTPart V' a17 k17 x16.1.Parts ∧ SlAt cTPair V' a19 k19 x16.2.2.1.Pairs ∧ SlAt cTPart V' a26 k26 x25.1.Parts ∧ SlAt cTPair V' a28 k28 x25.2.2.1.Pairs ∧ SlAt cTPart V' a38 k38 x37.1.Parts ∧ SlAt cTPair V' a52 k52 x51.1.Pairs) 3 [true, true, true, true, true, true, true, true, true, true, true, true, true, true, true, true, true, true, true, true, true, true, true, true, true, true, true, true, true, true, true, true, true, true, true, true, true, true, true, true, true, true, true, true, true, true, true, true, true, true, true, true, true, true, true, true, true, true, true, true, true, true, true, true, true, true, true, true, true, true, true, true, true, true, true, true, true, true, true, true, true, true, true, true, true, true, true, true, true, true, true, true, true, true, false, false, false] rfl (by kernel_rfl) rfl rfl (by kernel_rfl) (by kernel_rfl) (by kernel_rfl) (by kernel_rfl) (fun join => ?_) (fun join => ?_) ?_
      · skip
        refine Exec.run tyOk 400 rfl ?_
        refine Exec.callG (fun y : Option Addr × Nat => .slice y.1 ((x92).length) (y.2)) (none, 0) (R := fun V' y => SlAt (cInt .i64) V' y.1 y.2 x92) rfl rfl rfl (fun gg0 => (W_migrate_Moving x16.1 h61 (gcall_some hx92 (gd1_of gg0))).mono (fun V' _ _ ⟨a149, k149, e1, h149⟩ => ⟨⟨a149, k149⟩, e1, h149⟩)) ?_
        rintro V150 ⟨a149, k149⟩ hv150 hg150
        have h149 : SlAt (cInt .i64) V150 a149 k149 x92 := gslat1 hx92 (fun gg0 => (hg150 gg0))
        have h151 := SlAt.mono h54 hv150
        have h152 := SlAt.mono h55 hv150
        have h153 := SlAt.mono h56 hv150
        have h154 := SlAt.mono h57 hv150
        have h155 := SlAt.mono h58 hv150
        have h156 := SlAt.mono h59 hv150
        have h157 := SlAt.mono h60 hv150
        have h158 := SlAt.mono h61 hv150
        have h159 := SlAt.mono h62 hv150
        have h160 := SlAt.mono h63 hv150
        have h161 := SlAt.mono h64 hv150
        have h162 := SlAt.mono h65 hv150
        have h163 := SlAt.mono h52 hv150
        have h168 := SlAt.mono h75 hv150
        have h171 := SlAt.mono h81 hv150
        have h174 := SlAt.mono h87 hv150
        have h176 := SlAt.mono h90 hv150
        refine Exec.run tyOk 400 rfl ?_
        refine Exec.gbsV tyOk rfl rfl rfl rfl (fun V177 a177 hv177 hg177 => ?_) rfl
        have h178 := SlAt.mono h151 hv177
        have h179 := SlAt.mono h152 hv177
        have h180 := SlAt.mono h153 hv177
        have h181 := SlAt.mono h154 hv177
        have h182 := SlAt.mono h155 hv177
        have h183 := SlAt.mono h156 hv177
        have h184 := SlAt.mono h157 hv177
        have h185 := SlAt.mono h158 hv177
        have h186 := SlAt.mono h159 hv177
        have h187 := SlAt.mono h160 hv177
        have h188 := SlAt.mono h161 hv177
        have h189 := SlAt.mono h162 hv177
        have h190 := SlAt.mono h163 hv177
        have h195 := SlAt.mono h168 hv177
        have h198 := SlAt.mono h171 hv177
        have h201 := SlAt.mono h174 hv177
        have h203 := SlAt.mono h176 hv177
        have h204 := SlAt.mono h149 hv177
        have h177 : ((((x84 && (((((cond ((x84) == true) (atI x37.2.1 ((0 : Int))) default).Pairs).length : Nat) : Int) == (3 : Int))) && (x51.2 == (0 : Int))) && x91)) = true → SlAt (cInt .i64) V177 ((some a177)) 1 (([(1 : Int)] : List Int)) := fun gg0 => RowRep.slat (c := (cInt .i64)) (V := V177) (cs := [.int .i64 ((1 : Int))]) ⟨_, _, rfl, rfl, rfl⟩ (VLe.refl _) (fun _ => hg177 gg0) (by simp)
        refine Exec.run tyOk 400 rfl ?_
        exact join [0, 1, 2, 3, 4, 5, 6, 7, 8, 9, 10, 11] (lr' := [⟨202, [], .v (.bool ((((x84 && (((((cond ((x84) == true) (atI x37.2.1 ((0 : Int))) default).Pairs).length : Nat) : Int) == (3 : Int))) && (x51.2 == (0 : Int))) && x91))), 202⟩, ⟨203, [], .v (.bool ((((x84 && (((((cond ((x84) == true) (atI x37.2.1 ((0 : Int))) default).Pairs).length : Nat) : Int) == (3 : Int))) && (x51.2 == (0 : Int))) && x91))), 202⟩, ⟨205, [(202, true)], .v (.slice a149 ((x92).length) (k149)), 205⟩, ⟨206, [(202, true)], .v (.slice ((some a177)) (1) (1)), 206⟩]) (L' := [(0, .v (.bool (false))), (203, .v (.bool ((((x84 && (((((cond ((x84) == true) (atI x37.2.1 ((0 : Int))) default).Pairs).length : Nat) : Int) == (3 : Int))) && (x51.2 == (0 : Int))) && x91))))]) rfl rfl rfl rfl ⟨⟨_, rfl, rfl⟩, ⟨_, rfl, rfl⟩, trivial⟩ ⟨⟨_, rfl, rfl⟩, ⟨_, rfl, rfl⟩, ⟨_, rfl, rfl⟩, ⟨_, rfl, rfl⟩, trivial⟩ ⟨_, _, _, rfl, rfl, rfl, h204, h177, h182, h183, h185, h186, h187, h188, h189, h190⟩
      · skip
        refine Exec.run tyOk 400 rfl ?_
        refine Exec.gbsV tyOk rfl rfl rfl rfl (fun V205 a205 hv205 hg205 => ?_) rfl
        have h206 := SlAt.mono h54 hv205
        have h207 := SlAt.mono h55 hv205
        have h208 := SlAt.mono h56 hv205
        have h209 := SlAt.mono h57 hv205
        have h210 := SlAt.mono h58 hv205
        have h211 := SlAt.mono h59 hv205
        have h212 := SlAt.mono h60 hv205
        have h213 := SlAt.mono h61 hv205
        have h214 := SlAt.mono h62 hv205
        have h215 := SlAt.mono h63 hv205
        have h216 := SlAt.mono h64 hv205
        have h217 := SlAt.mono h65 hv205
        have h218 := SlAt.mono h52 hv205
        have h223 := SlAt.mono h75 hv205
        have h226 := SlAt.mono h81 hv205
        have h229 := SlAt.mono h87 hv205
        have h231 := SlAt.mono h90 hv205
        have h205 : ((((x84 && (((((cond ((x84) == true) (atI x37.2.1 ((0 : Int))) default).Pairs).length : Nat) : Int) == (3 : Int))) && (x51.2 == (0 : Int))) && x91)) = true → SlAt (cInt .i64) V205 ((some a205)) 1 (([(1 : Int)] : List Int)) := fun gg0 => RowRep.slat (c := (cInt .i64)) (V := V205) (cs := [.int .i64 ((1 : Int))]) ⟨_, _, rfl, rfl, rfl⟩ (VLe.refl _) (fun _ => hg205 gg0) (by simp)
        refine Exec.run tyOk 400 rfl ?_
        refine Exec.callG (fun y : Option Addr × Nat => .slice y.1 ((x92).length) (y.2)) (none, 0) (R := fun V' y => SlAt (cInt .i64) V' y.1 y.2 x92) rfl rfl rfl (fun gg0 => (W_migrate_Moving x16.1 h213 (gcall_some hx92 (gd1_of gg0))).mono (fun V' _ _ ⟨a232, k232, e1, h232⟩ => ⟨⟨a232, k232⟩, e1, h232⟩)) ?_
        rintro V233 ⟨a232, k232⟩ hv233 hg233
        have h232 : SlAt (cInt .i64) V233 a232 k232 x92 := gslat1 hx92 (fun gg0 => (hg233 gg0))
        have h234 := SlAt.mono h206 hv233
        have h235 := SlAt.mono h207 hv233
        have h236 := SlAt.mono h208 hv233
        have h237 := SlAt.mono h209 hv233
        have h238 := SlAt.mono h210 hv233
        have h239 := SlAt.mono h211 hv233
        have h240 := SlAt.mono h212 hv233
        have h241 := SlAt.mono h213 hv233
        have h242 := SlAt.mono h214 hv233
        have h243 := SlAt.mono h215 hv233
        have h244 := SlAt.mono h216 hv233
        have h245 := SlAt.mono h217 hv233
        have h246 := SlAt.mono h218 hv233
        have h251 := SlAt.mono h223 hv233
        have h254 := SlAt.mono h226 hv233
        have h257 := SlAt.mono h229 hv233
        have h259 := SlAt.mono h231 hv233
        have h260 : ((((x84 && (((((cond ((x84) == true) (atI x37.2.1 ((0 : Int))) default).Pairs).length : Nat) : Int) == (3 : Int))) && (x51.2 == (0 : Int))) && x91)) = true → SlAt (cInt .i64) V233 ((some a205)) 1 (([(1 : Int)] : List Int)) := fun gg0 => SlAt.mono (h205 gg0) hv233
        refine Exec.run tyOk 400 rfl ?_
        exact join [0, 1, 2, 3, 4, 5, 6, 7, 8, 9, 10, 11] (lr' := [⟨202, [], .v (.bool ((((x84 && (((((cond ((x84) == true) (atI x37.2.1 ((0 : Int))) default).Pairs).length : Nat) : Int) == (3 : Int))) && (x51.2 == (0 : Int))) && x91))), 202⟩, ⟨203, [], .v (.bool ((((x84 && (((((cond ((x84) == true) (atI x37.2.1 ((0 : Int))) default).Pairs).length : Nat) : Int) == (3 : Int))) && (x51.2 == (0 : Int))) && x91))), 202⟩, ⟨205, [(202, true)], .v (.slice a232 ((x92).length) (k232)), 205⟩, ⟨206, [(202, true)], .v (.slice ((some a205)) (1) (1)), 206⟩]) (L' := [(0, .v (.bool (false))), (203, .v (.bool ((((x84 && (((((cond ((x84) == true) (atI x37.2.1 ((0 : Int))) default).Pairs).length : Nat) : Int) == (3 : Int))) && (x51.2 == (0 : Int))) && x91))))]) rfl rfl rfl rfl ⟨⟨_, rfl, rfl⟩, ⟨_, rfl, rfl⟩, trivial⟩ ⟨⟨_, rfl, rfl⟩, ⟨_, rfl, rfl⟩, ⟨_, rfl, rfl⟩, ⟨_, rfl, rfl⟩, trivial⟩ ⟨_, _, _, rfl, rfl, rfl, h232, h260, h238, h239, h241, h242, h243, h244, h245, h246⟩
      rintro lr' L' VV261 M' ⟨a93, k93, a121, rfl, rfl, rfl, h262, h263, h264, h265, h266, h267, h268, h269, h270, h271⟩
      refine Exec.run tyOk 400 rfl ?_
      obtain ⟨x272, hx272, hF⟩ := bnd_some hF
      refine Exec.callS (.bool (x272)) rfl rfl (fun gg0 => W_clockworkref23_Ints x92 (([(1 : Int)] : List Int)) h262 (h263 gg0) (gcall_some hx272 (gd1_of gg0))) ?_
      refine Exec.run tyOk 400 rfl ?_
      obtain rfl := some_inj hF
      exact Exec.ret tyOk rfl rfl rfl

def F_clockworklaw33_MigrateStarts (x1 : TPlacement) (x3 : Int) (x4 : Int) : Option Bool :=
  (bnd (F_clockworklaw33_few x1 (([] : List TShard))) fun x5 => (cond (!x5) (bnd (F_clockworklaw33_works ) fun x6 => (some x6)) (bnd (F_migrate_Start x1 x3 x4) fun x7 => (bnd (F_clockworkref33_Start x1 x3 x4) fun x11 => (bnd (F_clockworkref29_Same x7.1 x11.1) fun x16 => (bnd (gcall (((x16 && (x7.2 == x11.2))) == true) (F_migrate_Moving x1)) fun x17 => (bnd (gcall (((x16 && (x7.2 == x11.2))) == true) (F_clockworkref33_Moving x1)) fun x23 => (bnd (gcall (((x16 && (x7.2 == x11.2))) == true) (F_clockworkref23_Ints x17 x23)) fun x30 => (bnd (gcall ((((x16 && (x7.2 == x11.2)) && x30)) == true) (F_clockworklaw33_works )) fun x31 => (some (((x16 && (x7.2 == x11.2)) && x30) && x31)))))))))))

set_option maxRecDepth 100000 in
theorem W_clockworklaw33_MigrateStarts {V : View} (x1 : TPlacement) (x3 : Int) (x4 : Int) {a2 : Option Addr} {k2 : Nat} (h2 : SlAt cTPart V a2 k2 x1.Parts) {r : Bool} (hF : F_clockworklaw33_MigrateStarts x1 x3 x4 = some r) :
    Spec Try.prog 3 [.agg ⟨[.int .i64 (x1.Version), .slice a2 ((x1.Parts).length) (k2)]⟩, .int .i64 (x3), .int .i64 (x4)] V (fun _ v => v = .bool (r)) := by
  unfold F_clockworklaw33_MigrateStarts at hF
  refine Spec.enter (T := tyT) Try.func3 rfl (by kernel_rfl) rfl rfl rfl ?_
  refine Exec.run tyOk 400 rfl ?_
  obtain ⟨x5, hx5, hF⟩ := bnd_some hF
  refine Exec.callS (.bool (x5)) rfl rfl (W_clockworklaw33_few x1 (([] : List TShard)) h2 SlAt.nil hx5) ?_
  refine Exec.run tyOk 400 rfl ?_
  rcases cond_some hF with ⟨hb, hF⟩ | ⟨hb, hF⟩
  · skip
    refine Exec.ifT rfl hb ?_
    refine Exec.run tyOk 400 rfl ?_
    obtain ⟨x6, hx6, hF⟩ := bnd_some hF
    refine Exec.callS (.bool (x6)) rfl rfl (W_clockworklaw33_works   hx6) ?_
    refine Exec.run tyOk 400 rfl ?_
    obtain rfl := some_inj hF
    exact Exec.ret tyOk rfl rfl rfl
  · skip
    refine Exec.ifF rfl hb ?_
    refine Exec.run tyOk 400 rfl ?_
    obtain ⟨x7, hx7, hF⟩ := bnd_some hF
    refine Exec.call rfl rfl (W_migrate_Start x1 x3 x4 h2 hx7) ?_
    rintro V9 _ hv9 ⟨a8, k8, rfl, h8⟩
    have h10 := SlAt.mono h2 hv9
    refine Exec.run tyOk 400 rfl ?_
    obtain ⟨x11, hx11, hF⟩ := bnd_some hF
    refine Exec.call rfl rfl (W_clockworkref33_Start x1 x3 x4 h10 hx11) ?_
    rintro V13 _ hv13 ⟨a12, k12, rfl, h12⟩
    have h14 := SlAt.mono h10 hv13
    have h15 := SlAt.mono h8 hv13
    refine Exec.run tyOk 400 rfl ?_
    refine Exec.draws tyOk [(0, true), (1, true), (2, false), (3, false), (4, true), (5, false), (6, false), (7, false), (8, false), (9, true), (11, true), (10, false), (12, false), (13, false), (14, false), (15, false), (16, false), (17, false), (18, false)] rfl (by kernel_rfl) ?_
    refine Exec.run tyOk 400 rfl ?_
    obtain ⟨x16, hx16, hF⟩ := bnd_some hF
    refine Exec.callS (.bool (x16)) rfl rfl (W_clockworkref29_Same x7.1 x11.1 h15 h12 hx16) ?_
    refine Exec.run tyOk 400 rfl ?_
    obtain ⟨x17, hx17, hF⟩ := bnd_some hF
    refine Exec.callG (fun y : Option Addr × Nat => .slice y.1 ((x17).length) (y.2)) (none, 0) (R := fun V' y => SlAt (cInt .i64) V' y.1 y.2 x17) rfl rfl rfl (fun gg0 => (W_migrate_Moving x1 h14 (gcall_some hx17 (gd1_of gg0))).mono (fun V' _ _ ⟨a18, k18, e1, h18⟩ => ⟨⟨a18, k18⟩, e1, h18⟩)) ?_
    rintro V19 ⟨a18, k18⟩ hv19 hg19
    have h18 : SlAt (cInt .i64) V19 a18 k18 x17 := gslat1 hx17 (fun gg0 => (hg19 gg0))
    have h20 := SlAt.mono h14 hv19
    have h21 := SlAt.mono h15 hv19
    have h22 := SlAt.mono h12 hv19
    refine Exec.run tyOk 400 rfl ?_
    obtain ⟨x23, hx23, hF⟩ := bnd_some hF
    refine Exec.callG (fun y : Option Addr × Nat => .slice y.1 ((x23).length) (y.2)) (none, 0) (R := fun V' y => SlAt (cInt .i64) V' y.1 y.2 x23) rfl rfl rfl (fun gg0 => (W_clockworkref33_Moving x1 h20 (gcall_some hx23 (gd1_of gg0))).mono (fun V' _ _ ⟨a24, k24, e1, h24⟩ => ⟨⟨a24, k24⟩, e1, h24⟩)) ?_
    rintro V25 ⟨a24, k24⟩ hv25 hg25
    have h24 : SlAt (cInt .i64) V25 a24 k24 x23 := gslat1 hx23 (fun gg0 => (hg25 gg0))
    have h26 := SlAt.mono h20 hv25
    have h27 := SlAt.mono h21 hv25
    have h28 := SlAt.mono h22 hv25
    have h29 := SlAt.mono h18 hv25
    refine Exec.run tyOk 400 rfl ?_
    obtain ⟨x30, hx30, hF⟩ := bnd_some hF
    refine Exec.callS (.bool (x30)) rfl rfl (fun gg0 => W_clockworkref23_Ints x17 x23 h29 h24 (gcall_some hx30 (gd1_of gg0))) ?_
    refine Exec.run tyOk 400 rfl ?_
    obtain ⟨x31, hx31, hF⟩ := bnd_some hF
    refine Exec.callS (.bool (x31)) rfl rfl (fun gg0 => W_clockworklaw33_works   (gcall_some hx31 (gd1_of gg0))) ?_
    refine Exec.run tyOk 400 rfl ?_
    obtain rfl := some_inj hF
    exact Exec.ret tyOk rfl rfl rfl

def F_clockworklaw33_MigrateReceives (x1 : TShard) (x3 : TChunk) : Option Bool :=
  (cond ((decide ((60 : Int) < (((x1.Pairs).length : Nat) : Int))) || (decide ((60 : Int) < (((x3.Pairs).length : Nat) : Int)))) (bnd (F_clockworklaw33_works ) fun x5 => (some x5)) (bnd (F_migrate_Receive x1 x3) fun x6 => (bnd (F_clockworkref33_Receive x1 x3) fun x11 => (bnd (F_clockworkref32_Same (([x6.1] : List TShard)) (([x11.1] : List TShard))) fun x28 => (bnd (gcall (((x28 && (x6.2 == x11.2))) == true) (F_clockworklaw33_works )) fun x29 => (some ((x28 && (x6.2 == x11.2)) && x29)))))))

set_option maxRecDepth 100000 in
theorem W_clockworklaw33_MigrateReceives {V : View} (x1 : TShard) (x3 : TChunk) {a2 : Option Addr} {k2 : Nat} {a4 : Option Addr} {k4 : Nat} (h2 : SlAt cTPair V a2 k2 x1.Pairs) (h4 : SlAt cTPair V a4 k4 x3.Pairs) {r : Bool} (hF : F_clockworklaw33_MigrateReceives x1 x3 = some r) :
    Spec Try.prog 4 [.agg ⟨[.int .i64 (x1.Node), .slice a2 ((x1.Pairs).length) (k2)]⟩, .agg ⟨[.int .i64 (x3.Part), .int .i64 (x3.From), .int .i64 (x3.To), .string ⟨⟨x3.Keys.From⟩⟩, .string ⟨⟨x3.Keys.To⟩⟩, .slice a4 ((x3.Pairs).length) (k4), .bool (x3.Last)]⟩] V (fun _ v => v = .bool (r)) := by
  unfold F_clockworklaw33_MigrateReceives at hF
  refine Spec.enter (T := tyT) Try.func4 rfl (by kernel_rfl) rfl rfl rfl ?_
  refine Exec.run tyOk 400 rfl ?_
  rcases cond_some hF with ⟨hb, hF⟩ | ⟨hb, hF⟩
  · skip
    refine Exec.ifT rfl hb ?_
    refine Exec.run tyOk 400 rfl ?_
    obtain ⟨x5, hx5, hF⟩ := bnd_some hF
    refine Exec.callS (.bool (x5)) rfl rfl (W_clockworklaw33_works   hx5) ?_
    refine Exec.run tyOk 400 rfl ?_
    obtain rfl := some_inj hF
    exact Exec.ret tyOk rfl rfl rfl
  · skip
    refine Exec.ifF rfl hb ?_
    refine Exec.run tyOk 400 rfl ?_
    obtain ⟨x6, hx6, hF⟩ := bnd_some hF
    refine Exec.call rfl rfl (W_migrate_Receive x1 x3 h2 h4 hx6) ?_
    rintro V8 _ hv8 ⟨a7, k7, rfl, h7⟩
    have h9 := SlAt.mono h2 hv8
    have h10 := SlAt.mono h4 hv8
    refine Exec.run tyOk 400 rfl ?_
    obtain ⟨x11, hx11, hF⟩ := bnd_some hF
    refine Exec.call rfl rfl (W_clockworkref33_Receive x1 x3 h9 h10 hx11) ?_
    rintro V13 _ hv13 ⟨a12, k12, rfl, h12⟩
    have h14 := SlAt.mono h9 hv13
    have h15 := SlAt.mono h10 hv13
    have h16 := SlAt.mono h7 hv13
    refine Exec.run tyOk 400 rfl ?_
    refine Exec.bsV tyOk rfl rfl rfl rfl rfl (fun V17 a17 hv17 hd17 => ?_)
    have h18 := SlAt.mono h14 hv17
    have h19 := SlAt.mono h15 hv17
    have h20 := SlAt.mono h16 hv17
    have h21 := SlAt.mono h12 hv17
    have h17 : SlAt cTShard V17 (some a17) 1 ([x6.1] : List TShard) := RowRep.slat (c := cTShard) (V := V17) (cs := [.int .i64 (x6.1.Node), .slice a7 ((x6.1.Pairs).length) (k7)]) ⟨_, _, rfl, ⟨_, _, rfl, (SlAt.mono h16 hv17)⟩, rfl⟩ (VLe.refl _) (fun _ => hd17) (by simp)
    refine Exec.run tyOk 400 rfl ?_
    refine Exec.bsV tyOk rfl rfl rfl rfl rfl (fun V22 a22 hv22 hd22 => ?_)
    have h23 := SlAt.mono h18 hv22
    have h24 := SlAt.mono h19 hv22
    have h25 := SlAt.mono h20 hv22
    have h26 := SlAt.mono h21 hv22
    have h27 := SlAt.mono h17 hv22
    have h22 : SlAt cTShard V22 (some a22) 1 ([x11.1] : List TShard) := RowRep.slat (c := cTShard) (V := V22) (cs := [.int .i64 (x11.1.Node), .slice a12 ((x11.1.Pairs).length) (k12)]) ⟨_, _, rfl, ⟨_, _, rfl, (SlAt.mono h21 hv22)⟩, rfl⟩ (VLe.refl _) (fun _ => hd22) (by simp)
    refine Exec.run tyOk 400 rfl ?_
    obtain ⟨x28, hx28, hF⟩ := bnd_some hF
    refine Exec.callS (.bool (x28)) rfl rfl (W_clockworkref32_Same (([x6.1] : List TShard)) (([x11.1] : List TShard)) h27 h22 hx28) ?_
    refine Exec.run tyOk 400 rfl ?_
    obtain ⟨x29, hx29, hF⟩ := bnd_some hF
    refine Exec.callS (.bool (x29)) rfl rfl (fun gg0 => W_clockworklaw33_works   (gcall_some hx29 (gd1_of gg0))) ?_
    refine Exec.run tyOk 400 rfl ?_
    obtain rfl := some_inj hF
    exact Exec.ret tyOk rfl rfl rfl

def F_clockworklaw33_MigrateDelivers_L1 (x1 : TMove) (x6 : Bool) (J24 : Bool → Option Bool) : Nat → TPlacement → TShard → (List TShard) → Bool → Int → Option Bool
  | 0, _, _, _, _, _ => none
  | n35 + 1, x27, x29, x31, x33, x34 => (cond ((decide (x34 ≤ (((x1.Sizes).length : Nat) : Int))) && (!x33)) (jn (fun (x39 : Int) => (bnd (F_migrate_Chunk x27 x31 x1.Id x39) fun x47 => (cond (x47.2.2.2 != (0 : Int)) (some false) (bnd (F_migrate_Receive x29 x47.2.2.1) fun x57 => (jn (fun (x68 : TShard) (x70 : Int) => (bnd (gcall ((((x70 != (0 : Int)) || (x68.Node != x1.Node))) == false) (F_clockworklaw33_at x47.2.1 x1.Node)) fun x80 => (bnd (gcall ((((x70 != (0 : Int)) || (x68.Node != x1.Node))) == false) (F_clockworkref06_Same x68.Pairs x80.Pairs)) fun x91 => (cond (((x70 != (0 : Int)) || (x68.Node != x1.Node)) || (!x91)) (some false) (F_clockworklaw33_MigrateDelivers_L1 x1 x6 J24 n35 x47.1 x68 x47.2.1 x47.2.2.1.Last ((IntKind.i64.wrap (x34 + (1 : Int))))))))) (fun J71 => (cond ((x57.2 == (0 : Int)) && x6) (bnd (F_migrate_Receive x57.1 x47.2.2.1) fun x92 => (J71 x92.1 x92.2)) (J71 x57.1 x57.2)))))))) (fun J40 => (cond (decide (x34 < (((x1.Sizes).length : Nat) : Int))) (req (0 ≤ x34 ∧ x34 < ((x1.Sizes).length : Int)) (J40 ((max (atI x1.Sizes x34) (1 : Int))))) (J40 ((60 : Int)))))) (J24 x33))

def F_clockworklaw33_MigrateDelivers (x1 : TMove) (x4 : List TPair) (x6 : Bool) : Option Bool :=
  (bnd (F_clockworklaw33_begun x1 x4) fun x7 => (cond (!x7.2.2) (bnd (F_clockworklaw33_works ) fun x14 => (some x14)) (bnd (F_clockworklaw33_at x7.2.1 x1.Node) fun x15 => (jn (fun (x23 : Bool) => (bnd (gcall ((x23) == true) (F_clockworklaw33_works )) fun x26 => (some (x23 && x26)))) (fun J24 => (F_clockworklaw33_MigrateDelivers_L1 x1 x6 J24 (1000000 : Nat) x7.1 x15 x7.2.1 false ((0 : Int))))))))

set_option maxRecDepth 100000 in
theorem W_clockworklaw33_MigrateDelivers {V : View} (x1 : TMove) (x4 : List TPair) (x6 : Bool) {a2 : Option Addr} {k2 : Nat} {a3 : Option Addr} {k3 : Nat} {a5 : Option Addr} {k5 : Nat} (h2 : SlAt cTPart V a2 k2 x1.P.Parts) (h3 : SlAt (cInt .i64) V a3 k3 x1.Sizes) (h5 : SlAt cTPair V a5 k5 x4) {r : Bool} (hF : F_clockworklaw33_MigrateDelivers x1 x4 x6 = some r) :
    Spec Try.prog 5 [.agg ⟨[.int .i64 (x1.P.Version), .slice a2 ((x1.P.Parts).length) (k2), .int .i64 (x1.Id), .int .i64 (x1.Node), .slice a3 ((x1.Sizes).length) (k3)]⟩, .slice a5 ((x4).length) (k5), .bool (x6)] V (fun _ v => v = .bool (r)) := by
  unfold F_clockworklaw33_MigrateDelivers at hF
  refine Spec.enter (T := tyT) Try.func5 rfl (by kernel_rfl) rfl rfl rfl ?_
  refine Exec.run tyOk 400 rfl ?_
  obtain ⟨x7, hx7, hF⟩ := bnd_some hF
  refine Exec.call rfl rfl (W_clockworklaw33_begun x1 x4 h2 h3 h5 hx7) ?_
  rintro V10 _ hv10 ⟨a8, k8, a9, k9, rfl, h8, h9⟩
  have h11 := SlAt.mono h2 hv10
  have h12 := SlAt.mono h3 hv10
  have h13 := SlAt.mono h5 hv10
  refine Exec.run tyOk 400 rfl ?_
  rcases cond_some hF with ⟨hb, hF⟩ | ⟨hb, hF⟩
  · skip
    refine Exec.ifT rfl hb ?_
    refine Exec.run tyOk 400 rfl ?_
    obtain ⟨x14, hx14, hF⟩ := bnd_some hF
    refine Exec.callS (.bool (x14)) rfl rfl (W_clockworklaw33_works   hx14) ?_
    refine Exec.run tyOk 400 rfl ?_
    obtain rfl := some_inj hF
    exact Exec.ret tyOk rfl rfl rfl
  · skip
    refine Exec.ifF rfl hb ?_
    refine Exec.run tyOk 400 rfl ?_
    obtain ⟨x15, hx15, hF⟩ := bnd_some hF
    refine Exec.call rfl rfl (W_clockworklaw33_at x7.2.1 x1.Node h9 hx15) ?_
    rintro V17 _ hv17 ⟨a16, k16, rfl, h16⟩
    have h18 := SlAt.mono h11 hv17
    have h19 := SlAt.mono h12 hv17
    have h20 := SlAt.mono h13 hv17
    have h21 := SlAt.mono h9 hv17
    have h22 := SlAt.mono h8 hv17
    refine Exec.run tyOk 12 rfl ?_
    obtain ⟨J24, hJ24, hF⟩ := jn_some hF
    refine Exec.seam (fun L' V' M' => ∃ (x23 : Bool), L' = [(11, .v (.bool (x23)))] ∧ M' = [] ∧ J24 x23 = some r) rfl ?_ ?_
    · rintro L' V25 M' ⟨x23, rfl, rfl, hF⟩
      subst hJ24
      refine Exec.run tyOk 400 rfl ?_
      obtain ⟨x26, hx26, hF⟩ := bnd_some hF
      refine Exec.callS (.bool (x26)) rfl rfl (fun gg0 => W_clockworklaw33_works   (gcall_some hx26 (gd1_of gg0))) ?_
      refine Exec.run tyOk 400 rfl ?_
      obtain rfl := some_inj hF
      exact Exec.ret tyOk rfl rfl rfl
    · skip
      refine Exec.run tyOk 400 rfl ?_
      refine Exec.loop (fun n35 L' V' M' => ∃ (x27 : TPlacement) (a28 : Option Addr) (k28 : Nat) (x29 : TShard) (a30 : Option Addr) (k30 : Nat) (x31 : List TShard) (a32 : Option Addr) (k32 : Nat) (x33 : Bool) (x34 : Int), L' = [(2, .v (.bool (x6))), (3, .ptr 0 0), (7, .ptr 1 0), (8, .v (.slice a32 ((x31).length) (k32))), (10, .ptr 2 0), (11, .v (.bool (x33))), (12, .v (.int .i64 (x34)))] ∧ M' = [.blk [.v (.int .i64 (x1.P.Version)), .v (.slice a2 ((x1.P.Parts).length) (k2)), .v (.int .i64 (x1.Id)), .v (.int .i64 (x1.Node)), .v (.slice a3 ((x1.Sizes).length) (k3))] 48, .blk [.v (.int .i64 (x27.Version)), .v (.slice a28 ((x27.Parts).length) (k28))] 24, .blk [.v (.int .i64 (x29.Node)), .v (.slice a30 ((x29.Pairs).length) (k30))] 37] ∧ SlAt cTPart V' a28 k28 x27.Parts ∧ SlAt cTPair V' a30 k30 x29.Pairs ∧ SlAt cTShard V' a32 k32 x31 ∧ SlAt cTPart V' a2 k2 x1.P.Parts ∧ SlAt (cInt .i64) V' a3 k3 x1.Sizes ∧ F_clockworklaw33_MigrateDelivers_L1 x1 x6 J24 n35 x27 x29 x31 x33 x34 = some r) ⟨(1000000 : Nat), [(2, .v (.bool (x6))), (3, .ptr 0 0), (7, .ptr 1 0), (8, .v (.slice a9 ((x7.2.1).length) (k9))), (10, .ptr 2 0), (11, .v (.bool (false))), (12, .v (.int .i64 ((0 : Int))))], ⟨rfl, rfl, rfl, rfl, rfl, rfl, rfl, trivial⟩, x7.1, a8, k8, x15, a16, k16, x7.2.1, a9, k9, false, (0 : Int), rfl, rfl, h22, h16, h21, h18, h19, hF⟩ ?_
      rintro n35 L' V36 M' ⟨x27, a28, k28, x29, a30, k30, x31, a32, k32, x33, x34, rfl, rfl, h28, h30, h32, h37, h38, hF⟩
      rcases n35 with _ | n35
      · exact absurd hF (by simp [F_clockworklaw33_MigrateDelivers_L1])
      rw [F_clockworklaw33_MigrateDelivers_L1] at hF
      refine Exec.run tyOk 400 rfl ?_
      rcases cond_some hF with ⟨hb, hF⟩ | ⟨hb, hF⟩
      · skip
        refine Exec.ifT rfl hb ?_
        refine Exec.run tyOk 400 rfl ?_
        obtain ⟨J40, hJ40, hF⟩ := jn_some hF
        refine Exec.seam (fun L' V' M' => ∃ (x39 : Int), L' = [(2, .v (.bool (x6))), (3, .ptr 0 0), (7, .ptr 1 0), (8, .v (.slice a32 ((x31).length) (k32))), (10, .ptr 2 0), (12, .v (.int .i64 (x34))), (13, .v (.int .i64 (x39)))] ∧ M' = [.blk [.v (.int .i64 (x1.P.Version)), .v (.slice a2 ((x1.P.Parts).length) (k2)), .v (.int .i64 (x1.Id)), .v (.int .i64 (x1.Node)), .v (.slice a3 ((x1.Sizes).length) (k3))] 48, .blk [.v (.int .i64 (x27.Version)), .v (.slice a28 ((x27.Parts).length) (k28))] 24, .blk [.v (.int .i64 (x29.Node)), .v (.slice a30 ((x29.Pairs).length) (k30))] 37] ∧ SlAt cTShard V' a32 k32 x31 ∧ SlAt cTPart V' a2 k2 x1.P.Parts ∧ SlAt (cInt .i64) V' a3 k3 x1.Sizes ∧ SlAt cTPart V' a28 k28 x27.Parts ∧ SlAt cTPair V' a30 k30 x29.Pairs ∧ J40 x39 = some r) rfl ?_ ?_
        · rintro L' V41 M' ⟨x39, rfl, rfl, h42, h43, h44, h45, h46, hF⟩
          subst hJ40
          refine Exec.run tyOk 400 rfl ?_
          obtain ⟨x47, hx47, hF⟩ := bnd_some hF
          refine Exec.call rfl rfl (W_migrate_Chunk x27 x31 x1.Id x39 h45 h42 hx47) ?_
          rintro V51 _ hv51 ⟨a48, k48, a49, k49, a50, k50, rfl, h48, h49, h50⟩
          have h52 := SlAt.mono h42 hv51
          have h53 := SlAt.mono h45 hv51
          have h54 := SlAt.mono h43 hv51
          have h55 := SlAt.mono h44 hv51
          have h56 := SlAt.mono h46 hv51
          refine Exec.run tyOk 400 rfl ?_
          rcases cond_some hF with ⟨hb, hF⟩ | ⟨hb, hF⟩
          · skip
            refine Exec.ifT rfl hb ?_
            refine Exec.run tyOk 400 rfl ?_
            obtain rfl := some_inj hF
            exact Exec.ret tyOk rfl rfl rfl
          · skip
            refine Exec.ifF rfl hb ?_
            refine Exec.run tyOk 400 rfl ?_
            obtain ⟨x57, hx57, hF⟩ := bnd_some hF
            refine Exec.call rfl rfl (W_migrate_Receive x29 x47.2.2.1 h56 h50 hx57) ?_
            rintro V59 _ hv59 ⟨a58, k58, rfl, h58⟩
            have h60 := SlAt.mono h52 hv59
            have h61 := SlAt.mono h49 hv59
            have h62 := SlAt.mono h48 hv59
            have h63 := SlAt.mono h50 hv59
            have h64 := SlAt.mono h53 hv59
            have h65 := SlAt.mono h56 hv59
            have h66 := SlAt.mono h54 hv59
            have h67 := SlAt.mono h55 hv59
            refine Exec.run tyOk 400 rfl ?_
            obtain ⟨J71, hJ71, hF⟩ := jn_some hF
            refine Exec.seam (fun L' V' M' => ∃ (x68 : TShard) (a69 : Option Addr) (k69 : Nat) (x70 : Int), L' = [(2, .v (.bool (x6))), (3, .ptr 0 0), (7, .ptr 1 0), (10, .ptr 2 0), (12, .v (.int .i64 (x34))), (14, .ptr 3 0), (15, .v (.slice a49 ((x47.2.1).length) (k49))), (16, .ptr 4 0), (17, .v (.int .i64 (x70))), (18, .ptr 5 0)] ∧ M' = [.blk [.v (.int .i64 (x1.P.Version)), .v (.slice a2 ((x1.P.Parts).length) (k2)), .v (.int .i64 (x1.Id)), .v (.int .i64 (x1.Node)), .v (.slice a3 ((x1.Sizes).length) (k3))] 48, .blk [.v (.int .i64 (x27.Version)), .v (.slice a28 ((x27.Parts).length) (k28))] 24, .blk [.v (.int .i64 (x29.Node)), .v (.slice a30 ((x29.Pairs).length) (k30))] 37, .blk [.v (.int .i64 (x47.1.Version)), .v (.slice a48 ((x47.1.Parts).length) (k48))] 24, .blk [.v (.int .i64 (x47.2.2.1.Part)), .v (.int .i64 (x47.2.2.1.From)), .v (.int .i64 (x47.2.2.1.To)), .v (.string ⟨⟨x47.2.2.1.Keys.From⟩⟩), .v (.string ⟨⟨x47.2.2.1.Keys.To⟩⟩), .v (.slice a50 ((x47.2.2.1.Pairs).length) (k50)), .v (.bool (x47.2.2.1.Last))] 41, .blk [.v (.int .i64 (x68.Node)), .v (.slice a69 ((x68.Pairs).length) (k69))] 37] ∧ SlAt cTPair V' a69 k69 x68.Pairs ∧ SlAt cTShard V' a49 k49 x47.2.1 ∧ SlAt cTPart V' a2 k2 x1.P.Parts ∧ SlAt (cInt .i64) V' a3 k3 x1.Sizes ∧ SlAt cTPart V' a28 k28 x27.Parts ∧ SlAt cTPair V' a30 k30 x29.Pairs ∧ SlAt cTPart V' a48 k48 x47.1.Parts ∧ SlAt cTPair V' a50 k50 x47.2.2.1.Pairs ∧ J71 x68 x70 = some r) rfl ?_ ?_
            · rintro L' V72 M' ⟨x68, a69, k69, x70, rfl, rfl, h69, h73, h74, h75, h76, h77, h78, h79, hF⟩
              subst hJ71
              refine Exec.run tyOk 400 rfl ?_
              refine Exec.draws tyOk [(0, true), (1, true), (2, true), (3, true), (4, true), (5, true), (6, true), (7, true), (8, true), (9, true), (10, true), (11, true), (12, true), (13, true), (14, true), (15, false), (16, false), (17, false), (18, false), (19, false)] rfl (by kernel_rfl) ?_
              refine Exec.run tyOk 400 rfl ?_
              obtain ⟨x80, hx80, hF⟩ := bnd_some hF
              refine Exec.callG (fun y : Option Addr × Nat => .agg ⟨[.int .i64 (x80.Node), .slice y.1 ((x80.Pairs).length) (y.2)]⟩) (none, 0) (R := fun V' y => SlAt cTPair V' y.1 y.2 x80.Pairs) rfl rfl rfl (fun gg0 => (W_clockworklaw33_at x47.2.1 x1.Node h73 (gcall_some hx80 (gd1_of gg0))).mono (fun V' _ _ ⟨a81, k81, e1, h81⟩ => ⟨⟨a81, k81⟩, e1, h81⟩)) ?_
              rintro V82 ⟨a81, k81⟩ hv82 hg82
              have h81 : SlAt cTPair V82 a81 k81 x80.Pairs := gslatF1 (c := cTPair) (V := V82) (a := a81) (k := k81) (f := fun (y : TShard) => y.Pairs) rfl hx80 (fun gg0 => (hg82 gg0))
              have h83 := SlAt.mono h73 hv82
              have h84 := SlAt.mono h69 hv82
              have h85 := SlAt.mono h74 hv82
              have h86 := SlAt.mono h75 hv82
              have h87 := SlAt.mono h76 hv82
              have h88 := SlAt.mono h77 hv82
              have h89 := SlAt.mono h78 hv82
              have h90 := SlAt.mono h79 hv82
              refine Exec.run tyOk 400 rfl ?_
              obtain ⟨x91, hx91, hF⟩ := bnd_some hF
              refine Exec.callS (.bool (x91)) rfl rfl (fun gg0 => W_clockworkref06_Same x68.Pairs x80.Pairs h84 h81 (gcall_some hx91 (gd1_of gg0))) ?_
              refine Exec.run tyOk 400 rfl ?_
              rcases cond_some hF with ⟨hb, hF⟩ | ⟨hb, hF⟩
              · skip
                refine Exec.ifT rfl hb ?_
                refine Exec.run tyOk 400 rfl ?_
                obtain rfl := some_inj hF
                exact Exec.ret tyOk rfl rfl rfl
              · skip
                refine Exec.ifF rfl hb ?_
                refine Exec.run tyOk 400 rfl ?_
                refine Exec.draws tyOk [(0, true), (1, true), (2, true), (3, true), (4, true), (5, false), (6, false), (7, false), (8, false)] rfl (by kernel_rfl) ?_
                refine Exec.run tyOk 400 rfl ?_
                refine Exec.cut 3 [(2, .v (.bool (x6))), (3, .ptr 0 0), (7, .ptr 1 0), (8, .v (.slice a49 ((x47.2.1).length) (k49))), (10, .ptr 2 0), (11, .v (.bool (x47.2.2.1.Last))), (12, .v (.int .i64 ((IntKind.i64.wrap (x34 + (1 : Int))))))] (M' := [.blk [.v (.int .i64 (x1.P.Version)), .v (.slice a2 ((x1.P.Parts).length) (k2)), .v (.int .i64 (x1.Id)), .v (.int .i64 (x1.Node)), .v (.slice a3 ((x1.Sizes).length) (k3))] 48, .blk [.v (.int .i64 (x47.1.Version)), .v (.slice a48 ((x47.1.Parts).length) (k48))] 24, .blk [.v (.int .i64 (x68.Node)), .v (.slice a69 ((x68.Pairs).length) (k69))] 37]) rfl ⟨rfl, rfl, rfl, rfl, rfl, rfl, rfl, trivial⟩ rfl rfl rfl ?_
                exact Exec.round [(2, .v (.bool (x6))), (3, .ptr 0 0), (7, .ptr 1 0), (8, .v (.slice a49 ((x47.2.1).length) (k49))), (10, .ptr 2 0), (11, .v (.bool (x47.2.2.1.Last))), (12, .v (.int .i64 ((IntKind.i64.wrap (x34 + (1 : Int))))))] ⟨rfl, rfl, rfl, rfl, rfl, rfl, rfl, trivial⟩ ⟨n35, Nat.lt_succ_self _, x47.1, a48, k48, x68, a69, k69, x47.2.1, a49, k49, x47.2.2.1.Last, (IntKind.i64.wrap (x34 + (1 : Int))), rfl, rfl, h89, h84, h83, h85, h86, hF⟩
            · skip
              refine Exec.run tyOk 400 rfl ?_
              rcases cond_some hF with ⟨hb, hF⟩ | ⟨hb, hF⟩
              · skip
                refine Exec.ifT rfl hb ?_
                refine Exec.run tyOk 400 rfl ?_
                obtain ⟨x92, hx92, hF⟩ := bnd_some hF
                refine Exec.call rfl rfl (W_migrate_Receive x57.1 x47.2.2.1 h58 h63 hx92) ?_
                rintro V94 _ hv94 ⟨a93, k93, rfl, h93⟩
                have h95 := SlAt.mono h60 hv94
                have h96 := SlAt.mono h61 hv94
                have h97 := SlAt.mono h62 hv94
                have h98 := SlAt.mono h63 hv94
                have h99 := SlAt.mono h64 hv94
                have h100 := SlAt.mono h58 hv94
                have h101 := SlAt.mono h65 hv94
                have h102 := SlAt.mono h66 hv94
                have h103 := SlAt.mono h67 hv94
                refine Exec.run tyOk 400 rfl ?_
                exact Exec.round [(2, .v (.bool (x6))), (3, .ptr 0 0), (7, .ptr 1 0), (10, .ptr 2 0), (12, .v (.int .i64 (x34))), (14, .ptr 3 0), (15, .v (.slice a49 ((x47.2.1).length) (k49))), (16, .ptr 4 0), (17, .v (.int .i64 (x92.2))), (18, .ptr 5 0)] ⟨rfl, rfl, rfl, rfl, rfl, rfl, rfl, rfl, rfl, rfl, trivial⟩ ⟨x92.1, a93, k93, x92.2, rfl, rfl, h93, h96, h102, h103, h99, h101, h97, h98, hF⟩
              · skip
                refine Exec.ifF rfl hb ?_
                refine Exec.run tyOk 400 rfl ?_
                exact Exec.round [(2, .v (.bool (x6))), (3, .ptr 0 0), (7, .ptr 1 0), (10, .ptr 2 0), (12, .v (.int .i64 (x34))), (14, .ptr 3 0), (15, .v (.slice a49 ((x47.2.1).length) (k49))), (16, .ptr 4 0), (17, .v (.int .i64 (x57.2))), (18, .ptr 5 0)] ⟨rfl, rfl, rfl, rfl, rfl, rfl, rfl, rfl, rfl, rfl, trivial⟩ ⟨x57.1, a58, k58, x57.2, rfl, rfl, h58, h61, h66, h67, h64, h65, h62, h63, hF⟩
        · skip
          refine Exec.run tyOk 400 rfl ?_
          rcases cond_some hF with ⟨hb, hF⟩ | ⟨hb, hF⟩
          · skip
            refine Exec.ifT rfl hb ?_
            refine Exec.run tyOk 400 rfl ?_
            obtain ⟨q104, hF⟩ := req_some hF
            obtain ⟨c105, hr105, hd105⟩ := SlAt.get h38 q104
            obtain rfl := hr105
            refine Exec.ia tyOk rfl rfl ⟨q104.1, q104.2, hd105.some⟩ ?_
            refine Exec.run tyOk 400 rfl ?_
            refine Exec.ld tyOk (x := .int .i64 ((atI x1.Sizes x34))) rfl rfl hd105 rfl rfl ?_
            refine Exec.run tyOk 400 rfl ?_
            exact Exec.round [(2, .v (.bool (x6))), (3, .ptr 0 0), (7, .ptr 1 0), (8, .v (.slice a32 ((x31).length) (k32))), (10, .ptr 2 0), (12, .v (.int .i64 (x34))), (13, .v (.int .i64 ((max (atI x1.Sizes x34) (1 : Int)))))] ⟨rfl, rfl, rfl, rfl, rfl, rfl, rfl, trivial⟩ ⟨(max (atI x1.Sizes x34) (1 : Int)), rfl, rfl, h32, h37, h38, h28, h30, hF⟩
          · skip
            refine Exec.ifF rfl hb ?_
            refine Exec.run tyOk 400 rfl ?_
            exact Exec.round [(2, .v (.bool (x6))), (3, .ptr 0 0), (7, .ptr 1 0), (8, .v (.slice a32 ((x31).length) (k32))), (10, .ptr 2 0), (12, .v (.int .i64 (x34))), (13, .v (.int .i64 ((60 : Int))))] ⟨rfl, rfl, rfl, rfl, rfl, rfl, rfl, trivial⟩ ⟨(60 : Int), rfl, rfl, h32, h37, h38, h28, h30, hF⟩
      · skip
        refine Exec.ifF rfl hb ?_
        refine Exec.run tyOk 400 rfl ?_
        refine Exec.cut 0 [(11, .v (.bool (x33)))] (M' := []) rfl ⟨rfl, trivial⟩ rfl rfl rfl ?_
        exact Exec.round [(11, .v (.bool (x33)))] ⟨rfl, trivial⟩ ⟨x33, rfl, rfl, hF⟩

def F_clockworklaw33_MigrateReturns_L1 (x1 : TMove) (J18 : TPlacement → (List TShard) → Option Bool) : Nat → TPlacement → (List TShard) → Int → Option Bool
  | 0, _, _, _ => none
  | n50 + 1, x45, x47, x49 => (cond (decide (x49 < (((x1.Sizes).length : Nat) : Int))) (req (0 ≤ x49 ∧ x49 < ((x1.Sizes).length : Int)) (bnd (F_migrate_Chunk x45 x47 x1.Id ((max (atI x1.Sizes x49) (1 : Int)))) fun x57 => (cond (x57.2.2.2 != (0 : Int)) (some false) (cond x57.2.2.1.Last (bnd (F_migrate_Cancel x57.1 x57.2.1 x1.Id) fun x126 => (bnd (gcall (((x126.2.2 == (19 : Int))) == true) (F_clockworklaw33_works )) fun x137 => (some ((x126.2.2 == (19 : Int)) && x137)))) (F_clockworklaw33_MigrateReturns_L1 x1 J18 n50 x57.1 x57.2.1 ((IntKind.i64.wrap (x49 + (1 : Int))))))))) (J18 x45 x47))

def F_clockworklaw33_MigrateReturns (x1 : TMove) (x4 : List TPair) : Option Bool :=
  (bnd (F_clockworklaw33_begun x1 x4) fun x6 => (cond (!x6.2.2) (bnd (F_clockworklaw33_works ) fun x13 => (some x13)) (jn (fun (x14 : TPlacement) (x16 : List TShard) => (bnd (F_migrate_Cancel x14 x16 x1.Id) fun x23 => (bnd (gcall (((x23.2.2 == (0 : Int))) == true) (F_clockworkref29_Same x23.1 ((⟨(IntKind.i64.wrap (x14.Version + (1 : Int))), x1.P.Parts⟩ : TPlacement)))) fun x32 => (bnd (gcall ((((x23.2.2 == (0 : Int)) && x32)) == true) (F_clockworkref32_Load ((⟨x1.P.Version, x1.P.Parts⟩ : TPlacement)) x4)) fun x33 => (bnd (gcall ((((x23.2.2 == (0 : Int)) && x32)) == true) (F_clockworkref32_Same x23.2.1 x33)) fun x43 => (bnd (gcall (((((x23.2.2 == (0 : Int)) && x32) && x43)) == true) (F_clockworklaw33_works )) fun x44 => (some ((((x23.2.2 == (0 : Int)) && x32) && x43) && x44)))))))) (fun J18 => (F_clockworklaw33_MigrateReturns_L1 x1 J18 (((((x1.Sizes).length : Nat) : Int)).toNat + 1) x6.1 x6.2.1 ((0 : Int)))))))

set_option maxRecDepth 100000 in
theorem W_clockworklaw33_MigrateReturns {V : View} (x1 : TMove) (x4 : List TPair) {a2 : Option Addr} {k2 : Nat} {a3 : Option Addr} {k3 : Nat} {a5 : Option Addr} {k5 : Nat} (h2 : SlAt cTPart V a2 k2 x1.P.Parts) (h3 : SlAt (cInt .i64) V a3 k3 x1.Sizes) (h5 : SlAt cTPair V a5 k5 x4) {r : Bool} (hF : F_clockworklaw33_MigrateReturns x1 x4 = some r) :
    Spec Try.prog 6 [.agg ⟨[.int .i64 (x1.P.Version), .slice a2 ((x1.P.Parts).length) (k2), .int .i64 (x1.Id), .int .i64 (x1.Node), .slice a3 ((x1.Sizes).length) (k3)]⟩, .slice a5 ((x4).length) (k5)] V (fun _ v => v = .bool (r)) := by
  unfold F_clockworklaw33_MigrateReturns at hF
  refine Spec.enter (T := tyT) Try.func6 rfl (by kernel_rfl) rfl rfl rfl ?_
  refine Exec.run tyOk 400 rfl ?_
  obtain ⟨x6, hx6, hF⟩ := bnd_some hF
  refine Exec.call rfl rfl (W_clockworklaw33_begun x1 x4 h2 h3 h5 hx6) ?_
  rintro V9 _ hv9 ⟨a7, k7, a8, k8, rfl, h7, h8⟩
  have h10 := SlAt.mono h2 hv9
  have h11 := SlAt.mono h3 hv9
  have h12 := SlAt.mono h5 hv9
  refine Exec.run tyOk 400 rfl ?_
  rcases cond_some hF with ⟨hb, hF⟩ | ⟨hb, hF⟩
  · skip
    refine Exec.ifT rfl hb ?_
    refine Exec.run tyOk 400 rfl ?_
    obtain ⟨x13, hx13, hF⟩ := bnd_some hF
    refine Exec.callS (.bool (x13)) rfl rfl (W_clockworklaw33_works   hx13) ?_
    refine Exec.run tyOk 400 rfl ?_
    obtain rfl := some_inj hF
    exact Exec.ret tyOk rfl rfl rfl
  · skip
    refine Exec.ifF rfl hb ?_
    refine Exec.run tyOk 6 rfl ?_
    obtain ⟨J18, hJ18, hF⟩ := jn_some hF
    refine Exec.seam (fun L' V' M' => ∃ (x14 : TPlacement) (a15 : Option Addr) (k15 : Nat) (x16 : List TShard) (a17 : Option Addr) (k17 : Nat), L' = [(1, .v (.slice a5 ((x4).length) (k5))), (2, .ptr 0 0), (5, .ptr 1 0), (6, .v (.slice a17 ((x16).length) (k17)))] ∧ M' = [.blk [.v (.int .i64 (x1.P.Version)), .v (.slice a2 ((x1.P.Parts).length) (k2)), .v (.int .i64 (x1.Id)), .v (.int .i64 (x1.Node)), .v (.slice a3 ((x1.Sizes).length) (k3))] 48, .blk [.v (.int .i64 (x14.Version)), .v (.slice a15 ((x14.Parts).length) (k15))] 24] ∧ SlAt cTPart V' a15 k15 x14.Parts ∧ SlAt cTShard V' a17 k17 x16 ∧ SlAt cTPair V' a5 k5 x4 ∧ SlAt cTPart V' a2 k2 x1.P.Parts ∧ SlAt (cInt .i64) V' a3 k3 x1.Sizes ∧ J18 x14 x16 = some r) rfl ?_ ?_
    · rintro L' V19 M' ⟨x14, a15, k15, x16, a17, k17, rfl, rfl, h15, h17, h20, h21, h22, hF⟩
      subst hJ18
      refine Exec.run tyOk 400 rfl ?_
      obtain ⟨x23, hx23, hF⟩ := bnd_some hF
      refine Exec.call rfl rfl (W_migrate_Cancel x14 x16 x1.Id h15 h17 hx23) ?_
      rintro V26 _ hv26 ⟨a24, k24, a25, k25, rfl, h24, h25⟩
      have h27 := SlAt.mono h20 hv26
      have h28 := SlAt.mono h17 hv26
      have h29 := SlAt.mono h15 hv26
      have h30 := SlAt.mono h21 hv26
      have h31 := SlAt.mono h22 hv26
      refine Exec.run tyOk 400 rfl ?_
      obtain ⟨x32, hx32, hF⟩ := bnd_some hF
      refine Exec.callS (.bool (x32)) rfl rfl (fun gg0 => W_clockworkref29_Same x23.1 ((⟨(IntKind.i64.wrap (x14.Version + (1 : Int))), x1.P.Parts⟩ : TPlacement)) h24 h30 (gcall_some hx32 (gd1_of gg0))) ?_
      refine Exec.run tyOk 400 rfl ?_
      obtain ⟨x33, hx33, hF⟩ := bnd_some hF
      refine Exec.callG (fun y : Option Addr × Nat => .slice y.1 ((x33).length) (y.2)) (none, 0) (R := fun V' y => SlAt cTShard V' y.1 y.2 x33) rfl rfl rfl (fun gg0 => (W_clockworkref32_Load ((⟨x1.P.Version, x1.P.Parts⟩ : TPlacement)) x4 h30 h27 (gcall_some hx33 (gd1_of gg0))).mono (fun V' _ _ ⟨a34, k34, e1, h34⟩ => ⟨⟨a34, k34⟩, e1, h34⟩)) ?_
      rintro V35 ⟨a34, k34⟩ hv35 hg35
      have h34 : SlAt cTShard V35 a34 k34 x33 := gslat1 hx33 (fun gg0 => (hg35 gg0))
      have h36 := SlAt.mono h27 hv35
      have h37 := SlAt.mono h28 hv35
      have h38 := SlAt.mono h25 hv35
      have h39 := SlAt.mono h24 hv35
      have h40 := SlAt.mono h29 hv35
      have h41 := SlAt.mono h30 hv35
      have h42 := SlAt.mono h31 hv35
      refine Exec.run tyOk 400 rfl ?_
      obtain ⟨x43, hx43, hF⟩ := bnd_some hF
      refine Exec.callS (.bool (x43)) rfl rfl (fun gg0 => W_clockworkref32_Same x23.2.1 x33 h38 h34 (gcall_some hx43 (gd1_of gg0))) ?_
      refine Exec.run tyOk 400 rfl ?_
      obtain ⟨x44, hx44, hF⟩ := bnd_some hF
      refine Exec.callS (.bool (x44)) rfl rfl (fun gg0 => W_clockworklaw33_works   (gcall_some hx44 (gd1_of gg0))) ?_
      refine Exec.run tyOk 400 rfl ?_
      obtain rfl := some_inj hF
      exact Exec.ret tyOk rfl rfl rfl
    · skip
      refine Exec.run tyOk 400 rfl ?_
      refine Exec.loop (fun n50 L' V' M' => ∃ (x45 : TPlacement) (a46 : Option Addr) (k46 : Nat) (x47 : List TShard) (a48 : Option Addr) (k48 : Nat) (x49 : Int), L' = [(1, .v (.slice a5 ((x4).length) (k5))), (2, .ptr 0 0), (5, .ptr 1 0), (6, .v (.slice a48 ((x47).length) (k48))), (8, .v (.int .i64 (x49)))] ∧ M' = [.blk [.v (.int .i64 (x1.P.Version)), .v (.slice a2 ((x1.P.Parts).length) (k2)), .v (.int .i64 (x1.Id)), .v (.int .i64 (x1.Node)), .v (.slice a3 ((x1.Sizes).length) (k3))] 48, .blk [.v (.int .i64 (x45.Version)), .v (.slice a46 ((x45.Parts).length) (k46))] 24] ∧ SlAt cTPart V' a46 k46 x45.Parts ∧ SlAt cTShard V' a48 k48 x47 ∧ SlAt cTPair V' a5 k5 x4 ∧ SlAt cTPart V' a2 k2 x1.P.Parts ∧ SlAt (cInt .i64) V' a3 k3 x1.Sizes ∧ F_clockworklaw33_MigrateReturns_L1 x1 J18 n50 x45 x47 x49 = some r) ⟨(((((x1.Sizes).length : Nat) : Int)).toNat + 1), [(1, .v (.slice a5 ((x4).length) (k5))), (2, .ptr 0 0), (5, .ptr 1 0), (6, .v (.slice a8 ((x6.2.1).length) (k8))), (8, .v (.int .i64 ((0 : Int))))], ⟨rfl, rfl, rfl, rfl, rfl, trivial⟩, x6.1, a7, k7, x6.2.1, a8, k8, (0 : Int), rfl, rfl, h7, h8, h12, h10, h11, hF⟩ ?_
      rintro n50 L' V51 M' ⟨x45, a46, k46, x47, a48, k48, x49, rfl, rfl, h46, h48, h52, h53, h54, hF⟩
      rcases n50 with _ | n50
      · exact absurd hF (by simp [F_clockworklaw33_MigrateReturns_L1])
      rw [F_clockworklaw33_MigrateReturns_L1] at hF
      refine Exec.run tyOk 400 rfl ?_
      rcases cond_some hF with ⟨hb, hF⟩ | ⟨hb, hF⟩
      · skip
        refine Exec.ifT rfl hb ?_
        refine Exec.run tyOk 400 rfl ?_
        refine Exec.drawsE tyOk [] [] [(0, true), (1, true), (2, true), (3, true), (4, true), (5, true), (6, true), (7, true), (8, true), (9, true)] (by kernel_rfl) ?_
        refine Exec.run tyOk 400 rfl ?_
        obtain ⟨q55, hF⟩ := req_some hF
        obtain ⟨c56, hr56, hd56⟩ := SlAt.get h54 q55
        obtain rfl := hr56
        refine Exec.fia tyOk rfl rfl rfl ⟨q55.1, q55.2, hd56.some⟩ ?_
        refine Exec.run tyOk 400 rfl ?_
        refine Exec.fld tyOk (x := .int .i64 ((atI x1.Sizes x49))) rfl rfl rfl hd56 rfl rfl ?_
        refine Exec.run tyOk 400 rfl ?_
        obtain ⟨x57, hx57, hF⟩ := bnd_some hF
        refine Exec.fork3 10 16 17 [(11, true), (12, true), (13, true), (14, true), (15, true)] [] [] [(18, false), (19, true), (20, false), (21, true)] (fun lr' L' V' M' => ∃ (a58 : Option Addr) (k58 : Nat) (a59 : Option Addr) (k59 : Nat) (a60 : Option Addr) (k60 : Nat), lr' = [] ∧ L' = [(1, .v (.slice a5 ((x4).length) (k5))), (2, .ptr 0 0), (5, .ptr 1 0), (8, .v (.int .i64 (x49))), (9, .ptr 2 0), (11, .ptr 3 0), (46, .v (.agg ⟨[.int .i64 (x57.1.Version), .slice a58 ((x57.1.Parts).length) (k58)]⟩)), (47, .v (.slice a59 ((x57.2.1).length) (k59))), (48, .v (.agg ⟨[.int .i64 (x57.2.2.1.Part), .int .i64 (x57.2.2.1.From), .int .i64 (x57.2.2.1.To), .string ⟨⟨x57.2.2.1.Keys.From⟩⟩, .string ⟨⟨x57.2.2.1.Keys.To⟩⟩, .slice a60 ((x57.2.2.1.Pairs).length) (k60), .bool (x57.2.2.1.Last)]⟩)), (49, .v (.int .i64 (x57.2.2.2)))] ∧ M' = [.blk [.v (.int .i64 (x1.P.Version)), .v (.slice a2 ((x1.P.Parts).length) (k2)), .v (.int .i64 (x1.Id)), .v (.int .i64 (x1.Node)), .v (.slice a3 ((x1.Sizes).length) (k3))] 48, .blk [.v (.int .i64 (x45.Version)), .v (.slice a46 ((x45.Parts).length) (k46))] 24, .blk [.v (.int .i64 (0)), .v (.slice none (0) (0))] 24, .blk [.v (.int .i64 (0)), .v (.int .i64 (0)), .v (.int .i64 (0)), .v (.string ⟨⟨[]⟩⟩), .v (.string ⟨⟨[]⟩⟩), .v (.slice none (0) (0)), .v (.bool (false))] 41] ∧ SlAt cTPair V' a5 k5 x4 ∧ SlAt cTPart V' a58 k58 x57.1.Parts ∧ SlAt cTShard V' a59 k59 x57.2.1 ∧ SlAt cTPair V' a60 k60 x57.2.2.1.Pairs ∧ SlAt cTPart V' a2 k2 x1.P.Parts ∧ SlAt (cInt .i64) V' a3 k3 x1.Sizes ∧ SlAt cTPart V' a46 k46 x45.Parts) 4 [true, true, true, true, true, true, true, true, true, true, true, true, true, true, true, true, true, true, false, false, false, false] rfl (by kernel_rfl) rfl rfl rfl (by kernel_rfl) (by kernel_rfl) (by kernel_rfl) (by kernel_rfl) (by kernel_rfl) (fun join => ?_) (fun join => ?_) (fun join => ?_) ?_
        · skip
          refine Exec.run tyOk 400 rfl ?_
          refine Exec.call rfl rfl (W_migrate_Chunk x45 x47 x1.Id ((max (atI x1.Sizes x49) (1 : Int))) h46 h48 hx57) ?_
          rintro V71 _ hv71 ⟨a68, k68, a69, k69, a70, k70, rfl, h68, h69, h70⟩
          have h72 := SlAt.mono h52 hv71
          have h73 := SlAt.mono h48 hv71
          have h74 := SlAt.mono h54 hv71
          have h75 := SlAt.mono h46 hv71
          have h77 := SlAt.mono h53 hv71
          refine Exec.run tyOk 400 rfl ?_
          refine Exec.pick2 (i := 16) (j := 17) [(17, false)] [(16, false)] rfl (by kernel_rfl) rfl rfl (by kernel_rfl) (by kernel_rfl) (by kernel_rfl) ?_ ?_
          · skip
            refine Exec.run tyOk 400 rfl ?_
            exact join [0, 1, 2, 3] (lr' := []) (L' := [(1, .v (.slice a5 ((x4).length) (k5))), (2, .ptr 0 0), (5, .ptr 1 0), (8, .v (.int .i64 (x49))), (9, .ptr 2 0), (11, .ptr 3 0), (46, .v (.agg ⟨[.int .i64 (x57.1.Version), .slice a68 ((x57.1.Parts).length) (k68)]⟩)), (47, .v (.slice a69 ((x57.2.1).length) (k69))), (48, .v (.agg ⟨[.int .i64 (x57.2.2.1.Part), .int .i64 (x57.2.2.1.From), .int .i64 (x57.2.2.1.To), .string ⟨⟨x57.2.2.1.Keys.From⟩⟩, .string ⟨⟨x57.2.2.1.Keys.To⟩⟩, .slice a70 ((x57.2.2.1.Pairs).length) (k70), .bool (x57.2.2.1.Last)]⟩)), (49, .v (.int .i64 (x57.2.2.2)))]) rfl rfl rfl rfl ⟨⟨_, rfl, rfl⟩, ⟨_, rfl, rfl⟩, ⟨_, rfl, rfl⟩, ⟨_, rfl, rfl⟩, ⟨_, rfl, rfl⟩, ⟨_, rfl, rfl⟩, ⟨_, rfl, rfl⟩, ⟨_, rfl, rfl⟩, ⟨_, rfl, rfl⟩, ⟨_, rfl, rfl⟩, trivial⟩ trivial ⟨_, _, _, _, _, _, rfl, rfl, rfl, h72, h68, h69, h70, h77, h74, h75⟩
          · skip
            refine Exec.run tyOk 400 rfl ?_
            exact join [0, 1, 3, 2] (lr' := []) (L' := [(1, .v (.slice a5 ((x4).length) (k5))), (2, .ptr 0 0), (5, .ptr 1 0), (8, .v (.int .i64 (x49))), (9, .ptr 2 0), (11, .ptr 3 0), (46, .v (.agg ⟨[.int .i64 (x57.1.Version), .slice a68 ((x57.1.Parts).length) (k68)]⟩)), (47, .v (.slice a69 ((x57.2.1).length) (k69))), (48, .v (.agg ⟨[.int .i64 (x57.2.2.1.Part), .int .i64 (x57.2.2.1.From), .int .i64 (x57.2.2.1.To), .string ⟨⟨x57.2.2.1.Keys.From⟩⟩, .string ⟨⟨x57.2.2.1.Keys.To⟩⟩, .slice a70 ((x57.2.2.1.Pairs).length) (k70), .bool (x57.2.2.1.Last)]⟩)), (49, .v (.int .i64 (x57.2.2.2)))]) rfl rfl rfl rfl ⟨⟨_, rfl, rfl⟩, ⟨_, rfl, rfl⟩, ⟨_, rfl, rfl⟩, ⟨_, rfl, rfl⟩, ⟨_, rfl, rfl⟩, ⟨_, rfl, rfl⟩, ⟨_, rfl, rfl⟩, ⟨_, rfl, rfl⟩, ⟨_, rfl, rfl⟩, ⟨_, rfl, rfl⟩, trivial⟩ trivial ⟨_, _, _, _, _, _, rfl, rfl, rfl, h72, h68, h69, h70, h77, h74, h75⟩
        · skip
          refine Exec.run tyOk 400 rfl ?_
          refine Exec.pick2 (i := 10) (j := 17) [(11, true), (12, true), (13, true), (14, true), (15, true), (17, false)] [(10, false), (11, true), (12, true), (13, true), (14, true), (15, true)] rfl (by kernel_rfl) rfl rfl (by kernel_rfl) (by kernel_rfl) (by kernel_rfl) ?_ ?_
          · skip
            refine Exec.run tyOk 400 rfl ?_
            refine Exec.call rfl rfl (W_migrate_Chunk x45 x47 x1.Id ((max (atI x1.Sizes x49) (1 : Int))) h46 h48 hx57) ?_
            rintro V81 _ hv81 ⟨a78, k78, a79, k79, a80, k80, rfl, h78, h79, h80⟩
            have h82 := SlAt.mono h52 hv81
            have h83 := SlAt.mono h48 hv81
            have h84 := SlAt.mono h54 hv81
            have h85 := SlAt.mono h46 hv81
            have h87 := SlAt.mono h53 hv81
            refine Exec.run tyOk 400 rfl ?_
            exact join [0, 1, 2, 3] (lr' := []) (L' := [(1, .v (.slice a5 ((x4).length) (k5))), (2, .ptr 0 0), (5, .ptr 1 0), (8, .v (.int .i64 (x49))), (9, .ptr 2 0), (11, .ptr 3 0), (46, .v (.agg ⟨[.int .i64 (x57.1.Version), .slice a78 ((x57.1.Parts).length) (k78)]⟩)), (47, .v (.slice a79 ((x57.2.1).length) (k79))), (48, .v (.agg ⟨[.int .i64 (x57.2.2.1.Part), .int .i64 (x57.2.2.1.From), .int .i64 (x57.2.2.1.To), .string ⟨⟨x57.2.2.1.Keys.From⟩⟩, .string ⟨⟨x57.2.2.1.Keys.To⟩⟩, .slice a80 ((x57.2.2.1.Pairs).length) (k80), .bool (x57.2.2.1.Last)]⟩)), (49, .v (.int .i64 (x57.2.2.2)))]) rfl rfl rfl rfl ⟨⟨_, rfl, rfl⟩, ⟨_, rfl, rfl⟩, ⟨_, rfl, rfl⟩, ⟨_, rfl, rfl⟩, ⟨_, rfl, rfl⟩, ⟨_, rfl, rfl⟩, ⟨_, rfl, rfl⟩, ⟨_, rfl, rfl⟩, ⟨_, rfl, rfl⟩, ⟨_, rfl, rfl⟩, trivial⟩ trivial ⟨_, _, _, _, _, _, rfl, rfl, rfl, h82, h78, h79, h80, h87, h84, h85⟩
          · skip
            refine Exec.run tyOk 400 rfl ?_
            refine Exec.call rfl rfl (W_migrate_Chunk x45 x47 x1.Id ((max (atI x1.Sizes x49) (1 : Int))) h46 h48 hx57) ?_
            rintro V91 _ hv91 ⟨a88, k88, a89, k89, a90, k90, rfl, h88, h89, h90⟩
            have h92 := SlAt.mono h52 hv91
            have h93 := SlAt.mono h48 hv91
            have h94 := SlAt.mono h54 hv91
            have h95 := SlAt.mono h46 hv91
            have h97 := SlAt.mono h53 hv91
            refine Exec.run tyOk 400 rfl ?_
            exact join [0, 1, 2, 3] (lr' := []) (L' := [(1, .v (.slice a5 ((x4).length) (k5))), (2, .ptr 0 0), (5, .ptr 1 0), (8, .v (.int .i64 (x49))), (9, .ptr 2 0), (11, .ptr 3 0), (46, .v (.agg ⟨[.int .i64 (x57.1.Version), .slice a88 ((x57.1.Parts).length) (k88)]⟩)), (47, .v (.slice a89 ((x57.2.1).length) (k89))), (48, .v (.agg ⟨[.int .i64 (x57.2.2.1.Part), .int .i64 (x57.2.2.1.From), .int .i64 (x57.2.2.1.To), .string ⟨⟨x57.2.2.1.Keys.From⟩⟩, .string ⟨⟨x57.2.2.1.Keys.To⟩⟩, .slice a90 ((x57.2.2.1.Pairs).length) (k90), .bool (x57.2.2.1.Last)]⟩)), (49, .v (.int .i64 (x57.2.2.2)))]) rfl rfl rfl rfl ⟨⟨_, rfl, rfl⟩, ⟨_, rfl, rfl⟩, ⟨_, rfl, rfl⟩, ⟨_, rfl, rfl⟩, ⟨_, rfl, rfl⟩, ⟨_, rfl, rfl⟩, ⟨_, rfl, rfl⟩, ⟨_, rfl, rfl⟩, ⟨_, rfl, rfl⟩, ⟨_, rfl, rfl⟩, trivial⟩ trivial ⟨_, _, _, _, _, _, rfl, rfl, rfl, h92, h88, h89, h90, h97, h94, h95⟩
        · skip
          refine Exec.run tyOk 400 rfl ?_
          refine Exec.pick2 (i := 10) (j := 16) [(11, true), (12, true), (13, true), (14, true), (15, true), (16, false)] [(10, false), (11, true), (12, true), (13, true), (14, true), (15, true)] rfl (by kernel_rfl) rfl rfl (by kernel_rfl) (by kernel_rfl) (by kernel_rfl) ?_ ?_
          · skip
            refine Exec.run tyOk 400 rfl ?_
            refine Exec.call rfl rfl (W_migrate_Chunk x45 x47 x1.Id ((max (atI x1.Sizes x49) (1 : Int))) h46 h48 hx57) ?_
            rintro V101 _ hv101 ⟨a98, k98, a99, k99, a100, k100, rfl, h98, h99, h100⟩
            have h102 := SlAt.mono h52 hv101
            have h103 := SlAt.mono h48 hv101
            have h104 := SlAt.mono h54 hv101
            have h105 := SlAt.mono h46 hv101
            have h107 := SlAt.mono h53 hv101
            refine Exec.run tyOk 400 rfl ?_
            exact join [0, 1, 3, 2] (lr' := []) (L' := [(1, .v (.slice a5 ((x4).length) (k5))), (2, .ptr 0 0), (5, .ptr 1 0), (8, .v (.int .i64 (x49))), (9, .ptr 2 0), (11, .ptr 3 0), (46, .v (.agg ⟨[.int .i64 (x57.1.Version), .slice a98 ((x57.1.Parts).length) (k98)]⟩)), (47, .v (.slice a99 ((x57.2.1).length) (k99))), (48, .v (.agg ⟨[.int .i64 (x57.2.2.1.Part), .int .i64 (x57.2.2.1.From), .int .i64 (x57.2.2.1.To), .string ⟨⟨x57.2.2.1.Keys.From⟩⟩, .string ⟨⟨x57.2.2.1.Keys.To⟩⟩, .slice a100 ((x57.2.2.1.Pairs).length) (k100), .bool (x57.2.2.1.Last)]⟩)), (49, .v (.int .i64 (x57.2.2.2)))]) rfl rfl rfl rfl ⟨⟨_, rfl, rfl⟩, ⟨_, rfl, rfl⟩, ⟨_, rfl, rfl⟩, ⟨_, rfl, rfl⟩, ⟨_, rfl, rfl⟩, ⟨_, rfl, rfl⟩, ⟨_, rfl, rfl⟩, ⟨_, rfl, rfl⟩, ⟨_, rfl, rfl⟩, ⟨_, rfl, rfl⟩, trivial⟩ trivial ⟨_, _, _, _, _, _, rfl, rfl, rfl, h102, h98, h99, h100, h107, h104, h105⟩
          · skip
            refine Exec.run tyOk 400 rfl ?_
            refine Exec.call rfl rfl (W_migrate_Chunk x45 x47 x1.Id ((max (atI x1.Sizes x49) (1 : Int))) h46 h48 hx57) ?_
            rintro V111 _ hv111 ⟨a108, k108, a109, k109, a110, k110, rfl, h108, h109, h110⟩
            have h112 := SlAt.mono h52 hv111
            have h113 := SlAt.mono h48 hv111
            have h114 := SlAt.mono h54 hv111
            have h115 := SlAt.mono h46 hv111
            have h117 := SlAt.mono h53 hv111
            refine Exec.run tyOk 400 rfl ?_
            exact join [0, 1, 3, 2] (lr' := []) (L' := [(1, .v (.slice a5 ((x4).length) (k5))), (2, .ptr 0 0), (5, .ptr 1 0), (8, .v (.int .i64 (x49))), (9, .ptr 2 0), (11, .ptr 3 0), (46, .v (.agg ⟨[.int .i64 (x57.1.Version), .slice a108 ((x57.1.Parts).length) (k108)]⟩)), (47, .v (.slice a109 ((x57.2.1).length) (k109))), (48, .v (.agg ⟨[.int .i64 (x57.2.2.1.Part), .int .i64 (x57.2.2.1.From), .int .i64 (x57.2.2.1.To), .string ⟨⟨x57.2.2.1.Keys.From⟩⟩, .string ⟨⟨x57.2.2.1.Keys.To⟩⟩, .slice a110 ((x57.2.2.1.Pairs).length) (k110), .bool (x57.2.2.1.Last)]⟩)), (49, .v (.int .i64 (x57.2.2.2)))]) rfl rfl rfl rfl ⟨⟨_, rfl, rfl⟩, ⟨_, rfl, rfl⟩, ⟨_, rfl, rfl⟩, ⟨_, rfl, rfl⟩, ⟨_, rfl, rfl⟩, ⟨_, rfl, rfl⟩, ⟨_, rfl, rfl⟩, ⟨_, rfl, rfl⟩, ⟨_, rfl, rfl⟩, ⟨_, rfl, rfl⟩, trivial⟩ trivial ⟨_, _, _, _, _, _, rfl, rfl, rfl, h112, h108, h109, h110, h117, h114, h115⟩
        rintro lr' L' VV118 M' ⟨a58, k58, a59, k59, a60, k60, rfl, rfl, rfl, h119, h120, h121, h122, h123, h124, h125⟩
        refine Exec.run tyOk 400 rfl ?_
        rcases cond_some hF with ⟨hb, hF⟩ | ⟨hb, hF⟩
        · skip
          refine Exec.ifT rfl hb ?_
          refine Exec.run tyOk 400 rfl ?_
          obtain rfl := some_inj hF
          exact Exec.ret tyOk rfl rfl rfl
        · skip
          refine Exec.ifF rfl hb ?_
          refine Exec.run tyOk 400 rfl ?_
          rcases cond_some hF with ⟨hb, hF⟩ | ⟨hb, hF⟩
          · skip
            refine Exec.ifT rfl hb ?_
            refine Exec.run tyOk 400 rfl ?_
            obtain ⟨x126, hx126, hF⟩ := bnd_some hF
            refine Exec.call rfl rfl (W_migrate_Cancel x57.1 x57.2.1 x1.Id h120 h121 hx126) ?_
            rintro V129 _ hv129 ⟨a127, k127, a128, k128, rfl, h127, h128⟩
            have h130 := SlAt.mono h119 hv129
            have h131 := SlAt.mono h121 hv129
            have h132 := SlAt.mono h120 hv129
            have h133 := SlAt.mono h122 hv129
            have h134 := SlAt.mono h123 hv129
            have h135 := SlAt.mono h124 hv129
            have h136 := SlAt.mono h125 hv129
            refine Exec.run tyOk 400 rfl ?_
            obtain ⟨x137, hx137, hF⟩ := bnd_some hF
            refine Exec.callS (.bool (x137)) rfl rfl (fun gg0 => W_clockworklaw33_works   (gcall_some hx137 (gd1_of gg0))) ?_
            refine Exec.run tyOk 400 rfl ?_
            obtain rfl := some_inj hF
            exact Exec.ret tyOk rfl rfl rfl
          · skip
            refine Exec.ifF rfl hb ?_
            refine Exec.run tyOk 400 rfl ?_
            refine Exec.cut 2 [(1, .v (.slice a5 ((x4).length) (k5))), (2, .ptr 0 0), (5, .ptr 1 0), (6, .v (.slice a59 ((x57.2.1).length) (k59))), (8, .v (.int .i64 ((IntKind.i64.wrap (x49 + (1 : Int))))))] (M' := [.blk [.v (.int .i64 (x1.P.Version)), .v (.slice a2 ((x1.P.Parts).length) (k2)), .v (.int .i64 (x1.Id)), .v (.int .i64 (x1.Node)), .v (.slice a3 ((x1.Sizes).length) (k3))] 48, .blk [.v (.int .i64 (x57.1.Version)), .v (.slice a58 ((x57.1.Parts).length) (k58))] 24]) rfl ⟨rfl, rfl, rfl, rfl, rfl, trivial⟩ rfl rfl rfl ?_
            exact Exec.round [(1, .v (.slice a5 ((x4).length) (k5))), (2, .ptr 0 0), (5, .ptr 1 0), (6, .v (.slice a59 ((x57.2.1).length) (k59))), (8, .v (.int .i64 ((IntKind.i64.wrap (x49 + (1 : Int))))))] ⟨rfl, rfl, rfl, rfl, rfl, trivial⟩ ⟨n50, Nat.lt_succ_self _, x57.1, a58, k58, x57.2.1, a59, k59, (IntKind.i64.wrap (x49 + (1 : Int))), rfl, rfl, h120, h121, h119, h123, h124, hF⟩
      · skip
        refine Exec.ifF rfl hb ?_
        refine Exec.run tyOk 400 rfl ?_
        exact Exec.round [(1, .v (.slice a5 ((x4).length) (k5))), (2, .ptr 0 0), (5, .ptr 1 0), (6, .v (.slice a48 ((x47).length) (k48)))] ⟨rfl, rfl, rfl, rfl, trivial⟩ ⟨x45, a46, k46, x47, a48, k48, rfl, rfl, h46, h48, h52, h53, h54, hF⟩

def F_clockworklaw33_MigrateOwners_L1 (x1 : TMove) (x6 : Str) (J17 : Option Bool) : Nat → TPlacement → (List TShard) → Int → Option Bool
  | 0, _, _, _ => none
  | n25 + 1, x20, x22, x24 => (cond (decide (x24 < (((x1.Sizes).length : Nat) : Int))) (req (0 ≤ x24 ∧ x24 < ((x1.Sizes).length : Int)) (bnd (F_migrate_Chunk x20 x22 x1.Id ((max (atI x1.Sizes x24) (1 : Int)))) fun x31 => (bnd (gcall (((((x31.2.2.2 != (0 : Int)) || (x31.2.2.1.Part != x1.Id)) || (x31.2.2.1.To != x1.Node))) == false) (F_clockworklaw33_part ((⟨x1.P.Version, x1.P.Parts⟩ : TPlacement)) x1.Id)) fun x93 => (cond ((((x31.2.2.2 != (0 : Int)) || (x31.2.2.1.Part != x1.Id)) || (x31.2.2.1.To != x1.Node)) || (x31.2.2.1.From != x93.Node)) (some false) (bnd (F_clockworkref29_Owner x20 x6) fun x94 => (bnd (F_clockworkref29_Owner x31.1 x6) fun x95 => (jn ((cond x31.2.2.1.Last (bnd (F_clockworklaw33_works ) fun x104 => (some x104)) (F_clockworklaw33_MigrateOwners_L1 x1 x6 J17 n25 x31.1 x31.2.1 ((IntKind.i64.wrap (x24 + (1 : Int))))))) (fun J96 => (cond ((!sLt x6 x31.2.2.1.Keys.From) && ((x31.2.2.1.Keys.To == ([] : Str)) || (sLt x6 x31.2.2.1.Keys.To))) (cond ((x94 != x31.2.2.1.From) || (x95 != x31.2.2.1.To)) (some false) J96) (cond (x94 != x95) (some false) J96)))))))))) J17)

def F_clockworklaw33_MigrateOwners (x1 : TMove) (x4 : List TPair) (x6 : Str) : Option Bool :=
  (bnd (F_clockworklaw33_begun x1 x4) fun x7 => (cond ((!x7.2.2) || (decide ((100 : Int) < ((x6).length : Int)))) (bnd (F_clockworklaw33_works ) fun x14 => (some x14)) (bnd (F_clockworkref29_Owner x7.1 x6) fun x15 => (bnd (F_clockworkref29_Owner ((⟨x1.P.Version, x1.P.Parts⟩ : TPlacement)) x6) fun x16 => (cond (x15 != x16) (some false) (jn ((bnd (F_clockworklaw33_works ) fun x19 => (some x19))) (fun J17 => (F_clockworklaw33_MigrateOwners_L1 x1 x6 J17 (((((x1.Sizes).length : Nat) : Int)).toNat + 1) x7.1 x7.2.1 ((0 : Int))))))))))

set_option maxRecDepth 100000 in
theorem W_clockworklaw33_MigrateOwners {V : View} (x1 : TMove) (x4 : List TPair) (x6 : Str) {a2 : Option Addr} {k2 : Nat} {a3 : Option Addr} {k3 : Nat} {a5 : Option Addr} {k5 : Nat} (h2 : SlAt cTPart V a2 k2 x1.P.Parts) (h3 : SlAt (cInt .i64) V a3 k3 x1.Sizes) (h5 : SlAt cTPair V a5 k5 x4) {r : Bool} (hF : F_clockworklaw33_MigrateOwners x1 x4 x6 = some r) :
    Spec Try.prog 7 [.agg ⟨[.int .i64 (x1.P.Version), .slice a2 ((x1.P.Parts).length) (k2), .int .i64 (x1.Id), .int .i64 (x1.Node), .slice a3 ((x1.Sizes).length) (k3)]⟩, .slice a5 ((x4).length) (k5), .string ⟨⟨x6⟩⟩] V (fun _ v => v = .bool (r)) := by
  unfold F_clockworklaw33_MigrateOwners at hF
  refine Spec.enter (T := tyT) Try.func7 rfl (by kernel_rfl) rfl rfl rfl ?_
  refine Exec.run tyOk 400 rfl ?_
  obtain ⟨x7, hx7, hF⟩ := bnd_some hF
  refine Exec.call rfl rfl (W_clockworklaw33_begun x1 x4 h2 h3 h5 hx7) ?_
  rintro V10 _ hv10 ⟨a8, k8, a9, k9, rfl, h8, h9⟩
  have h11 := SlAt.mono h2 hv10
  have h12 := SlAt.mono h3 hv10
  have h13 := SlAt.mono h5 hv10
  refine Exec.run tyOk 400 rfl ?_
  rcases cond_some hF with ⟨hb, hF⟩ | ⟨hb, hF⟩
  · skip
    refine Exec.ifT rfl hb ?_
    refine Exec.run tyOk 400 rfl ?_
    obtain ⟨x14, hx14, hF⟩ := bnd_some hF
    refine Exec.callS (.bool (x14)) rfl rfl (W_clockworklaw33_works   hx14) ?_
    refine Exec.run tyOk 400 rfl ?_
    obtain rfl := some_inj hF
    exact Exec.ret tyOk rfl rfl rfl
  · skip
    refine Exec.ifF rfl hb ?_
    refine Exec.run tyOk 400 rfl ?_
    refine Exec.draws tyOk [(0, true), (1, true), (3, true), (4, true), (5, true), (2, false), (6, false), (7, false)] rfl (by kernel_rfl) ?_
    refine Exec.run tyOk 400 rfl ?_
    obtain ⟨x15, hx15, hF⟩ := bnd_some hF
    refine Exec.callS (.int .i64 (x15)) rfl rfl (W_clockworkref29_Owner x7.1 x6 h8 hx15) ?_
    refine Exec.run tyOk 400 rfl ?_
    obtain ⟨x16, hx16, hF⟩ := bnd_some hF
    refine Exec.callS (.int .i64 (x16)) rfl rfl (W_clockworkref29_Owner ((⟨x1.P.Version, x1.P.Parts⟩ : TPlacement)) x6 h11 hx16) ?_
    refine Exec.run tyOk 400 rfl ?_
    rcases cond_some hF with ⟨hb, hF⟩ | ⟨hb, hF⟩
    · skip
      refine Exec.ifT rfl hb ?_
      refine Exec.run tyOk 400 rfl ?_
      obtain rfl := some_inj hF
      exact Exec.ret tyOk rfl rfl rfl
    · skip
      refine Exec.ifF rfl hb ?_
      refine Exec.run tyOk 6 rfl ?_
      obtain ⟨J17, hJ17, hF⟩ := jn_some hF
      refine Exec.seam (fun L' V' M' => L' = [] ∧ M' = [] ∧ J17 = some r) rfl ?_ ?_
      · rintro L' V18 M' ⟨rfl, rfl, hF⟩
        subst hJ17
        refine Exec.run tyOk 400 rfl ?_
        obtain ⟨x19, hx19, hF⟩ := bnd_some hF
        refine Exec.callS (.bool (x19)) rfl rfl (W_clockworklaw33_works   hx19) ?_
        refine Exec.run tyOk 400 rfl ?_
        obtain rfl := some_inj hF
        exact Exec.ret tyOk rfl rfl rfl
      · skip
        refine Exec.run tyOk 400 rfl ?_
        refine Exec.loop (fun n25 L' V' M' => ∃ (x20 : TPlacement) (a21 : Option Addr) (k21 : Nat) (x22 : List TShard) (a23 : Option Addr) (k23 : Nat) (x24 : Int), L' = [(2, .v (.string ⟨⟨x6⟩⟩)), (3, .ptr 0 0), (7, .ptr 1 0), (8, .v (.slice a23 ((x22).length) (k23))), (10, .v (.int .i64 (x24)))] ∧ M' = [.blk [.v (.int .i64 (x1.P.Version)), .v (.slice a2 ((x1.P.Parts).length) (k2)), .v (.int .i64 (x1.Id)), .v (.int .i64 (x1.Node)), .v (.slice a3 ((x1.Sizes).length) (k3))] 48, .blk [.v (.int .i64 (x20.Version)), .v (.slice a21 ((x20.Parts).length) (k21))] 24] ∧ SlAt cTPart V' a21 k21 x20.Parts ∧ SlAt cTShard V' a23 k23 x22 ∧ SlAt cTPart V' a2 k2 x1.P.Parts ∧ SlAt (cInt .i64) V' a3 k3 x1.Sizes ∧ F_clockworklaw33_MigrateOwners_L1 x1 x6 J17 n25 x20 x22 x24 = some r) ⟨(((((x1.Sizes).length : Nat) : Int)).toNat + 1), [(2, .v (.string ⟨⟨x6⟩⟩)), (3, .ptr 0 0), (7, .ptr 1 0), (8, .v (.slice a9 ((x7.2.1).length) (k9))), (10, .v (.int .i64 ((0 : Int))))], ⟨rfl, rfl, rfl, rfl, rfl, trivial⟩, x7.1, a8, k8, x7.2.1, a9, k9, (0 : Int), rfl, rfl, h8, h9, h11, h12, hF⟩ ?_
        rintro n25 L' V26 M' ⟨x20, a21, k21, x22, a23, k23, x24, rfl, rfl, h21, h23, h27, h28, hF⟩
        rcases n25 with _ | n25
        · exact absurd hF (by simp [F_clockworklaw33_MigrateOwners_L1])
        rw [F_clockworklaw33_MigrateOwners_L1] at hF
        refine Exec.run tyOk 400 rfl ?_
        rcases cond_some hF with ⟨hb, hF⟩ | ⟨hb, hF⟩
        · skip
          refine Exec.ifT rfl hb ?_
          refine Exec.run tyOk 400 rfl ?_
          refine Exec.drawsE tyOk [] [] [(0, true), (1, true), (2, true), (3, true), (4, true), (5, true), (6, true), (7, true), (8, true), (9, true)] (by kernel_rfl) ?_
          refine Exec.run tyOk 400 rfl ?_
          obtain ⟨q29, hF⟩ := req_some hF
          obtain ⟨c30, hr30, hd30⟩ := SlAt.get h28 q29
          obtain rfl := hr30
          refine Exec.fia tyOk rfl rfl rfl ⟨q29.1, q29.2, hd30.some⟩ ?_
          refine Exec.run tyOk 400 rfl ?_
          refine Exec.fld tyOk (x := .int .i64 ((atI x1.Sizes x24))) rfl rfl rfl hd30 rfl rfl ?_
          refine Exec.run tyOk 400 rfl ?_
          obtain ⟨x31, hx31, hF⟩ := bnd_some hF
          refine Exec.fork3 10 16 17 [(11, true), (12, true), (13, true), (14, true), (15, true)] [] [] [(18, false), (19, true), (20, false), (21, true)] (fun lr' L' V' M' => ∃ (a32 : Option Addr) (k32 : Nat) (a33 : Option Addr) (k33 : Nat) (a34 : Option Addr) (k34 : Nat), lr' = [] ∧ L' = [(2, .v (.string ⟨⟨x6⟩⟩)), (3, .ptr 0 0), (7, .ptr 1 0), (10, .v (.int .i64 (x24))), (11, .ptr 2 0), (13, .ptr 3 0), (59, .v (.agg ⟨[.int .i64 (x31.1.Version), .slice a32 ((x31.1.Parts).length) (k32)]⟩)), (60, .v (.slice a33 ((x31.2.1).length) (k33))), (61, .v (.agg ⟨[.int .i64 (x31.2.2.1.Part), .int .i64 (x31.2.2.1.From), .int .i64 (x31.2.2.1.To), .string ⟨⟨x31.2.2.1.Keys.From⟩⟩, .string ⟨⟨x31.2.2.1.Keys.To⟩⟩, .slice a34 ((x31.2.2.1.Pairs).length) (k34), .bool (x31.2.2.1.Last)]⟩)), (62, .v (.int .i64 (x31.2.2.2)))] ∧ M' = [.blk [.v (.int .i64 (x1.P.Version)), .v (.slice a2 ((x1.P.Parts).length) (k2)), .v (.int .i64 (x1.Id)), .v (.int .i64 (x1.Node)), .v (.slice a3 ((x1.Sizes).length) (k3))] 48, .blk [.v (.int .i64 (x20.Version)), .v (.slice a21 ((x20.Parts).length) (k21))] 24, .blk [.v (.int .i64 (0)), .v (.slice none (0) (0))] 24, .blk [.v (.int .i64 (0)), .v (.int .i64 (0)), .v (.int .i64 (0)), .v (.string ⟨⟨[]⟩⟩), .v (.string ⟨⟨[]⟩⟩), .v (.slice none (0) (0)), .v (.bool (false))] 41] ∧ SlAt cTPart V' a32 k32 x31.1.Parts ∧ SlAt cTShard V' a33 k33 x31.2.1 ∧ SlAt cTPair V' a34 k34 x31.2.2.1.Pairs ∧ SlAt cTPart V' a2 k2 x1.P.Parts ∧ SlAt (cInt .i64) V' a3 k3 x1.Sizes ∧ SlAt cTPart V' a21 k21 x20.Parts) 4 [true, true, true, true, true, true, true, true, true, true, true, true, true, true, true, true, true, true, false, false, false, false] rfl (by kernel_rfl) rfl rfl rfl (by kernel_rfl) (by kernel_rfl) (by kernel_rfl) (by kernel_rfl) (by kernel_rfl) (fun join => ?_) (fun join => ?_) (fun join => ?_) ?_
          · skip
            refine Exec.run tyOk 400 rfl ?_
            refine Exec.call rfl rfl (W_migrate_Chunk x20 x22 x1.Id ((max (atI x1.Sizes x24) (1 : Int))) h21 h23 hx31) ?_
            rintro V44 _ hv44 ⟨a41, k41, a42, k42, a43, k43, rfl, h41, h42, h43⟩
            have h45 := SlAt.mono h23 hv44
            have h46 := SlAt.mono h28 hv44
            have h47 := SlAt.mono h21 hv44
            have h49 := SlAt.mono h27 hv44
            refine Exec.run tyOk 400 rfl ?_
            refine Exec.pick2 (i := 16) (j := 17) [(17, false)] [(16, false)] rfl (by kernel_rfl) rfl rfl (by kernel_rfl) (by kernel_rfl) (by kernel_rfl) ?_ ?_
            · skip
              refine Exec.run tyOk 400 rfl ?_
              exact join [0, 1, 2, 3] (lr' := []) (L' := [(2, .v (.string ⟨⟨x6⟩⟩)), (3, .ptr 0 0), (7, .ptr 1 0), (10, .v (.int .i64 (x24))), (11, .ptr 2 0), (13, .ptr 3 0), (59, .v (.agg ⟨[.int .i64 (x31.1.Version), .slice a41 ((x31.1.Parts).length) (k41)]⟩)), (60, .v (.slice a42 ((x31.2.1).length) (k42))), (61, .v (.agg ⟨[.int .i64 (x31.2.2.1.Part), .int .i64 (x31.2.2.1.From), .int .i64 (x31.2.2.1.To), .string ⟨⟨x31.2.2.1.Keys.From⟩⟩, .string ⟨⟨x31.2.2.1.Keys.To⟩⟩, .slice a43 ((x31.2.2.1.Pairs).length) (k43), .bool (x31.2.2.1.Last)]⟩)), (62, .v (.int .i64 (x31.2.2.2)))]) rfl rfl rfl rfl ⟨⟨_, rfl, rfl⟩, ⟨_, rfl, rfl⟩, ⟨_, rfl, rfl⟩, ⟨_, rfl, rfl⟩, ⟨_, rfl, rfl⟩, ⟨_, rfl, rfl⟩, ⟨_, rfl, rfl⟩, ⟨_, rfl, rfl⟩, ⟨_, rfl, rfl⟩, ⟨_, rfl, rfl⟩, trivial⟩ trivial ⟨_, _, _, _, _, _, rfl, rfl, rfl, h41, h42, h43, h49, h46, h47⟩
            · skip
              refine Exec.run tyOk 400 rfl ?_
              exact join [0, 1, 3, 2] (lr' := []) (L' := [(2, .v (.string ⟨⟨x6⟩⟩)), (3, .ptr 0 0), (7, .ptr 1 0), (10, .v (.int .i64 (x24))), (11, .ptr 2 0), (13, .ptr 3 0), (59, .v (.agg ⟨[.int .i64 (x31.1.Version), .slice a41 ((x31.1.Parts).length) (k41)]⟩)), (60, .v (.slice a42 ((x31.2.1).length) (k42))), (61, .v (.agg ⟨[.int .i64 (x31.2.2.1.Part), .int .i64 (x31.2.2.1.From), .int .i64 (x31.2.2.1.To), .string ⟨⟨x31.2.2.1.Keys.From⟩⟩, .string ⟨⟨x31.2.2.1.Keys.To⟩⟩, .slice a43 ((x31.2.2.1.Pairs).length) (k43), .bool (x31.2.2.1.Last)]⟩)), (62, .v (.int .i64 (x31.2.2.2)))]) rfl rfl rfl rfl ⟨⟨_, rfl, rfl⟩, ⟨_, rfl, rfl⟩, ⟨_, rfl, rfl⟩, ⟨_, rfl, rfl⟩, ⟨_, rfl, rfl⟩, ⟨_, rfl, rfl⟩, ⟨_, rfl, rfl⟩, ⟨_, rfl, rfl⟩, ⟨_, rfl, rfl⟩, ⟨_, rfl, rfl⟩, trivial⟩ trivial ⟨_, _, _, _, _, _, rfl, rfl, rfl, h41, h42, h43, h49, h46, h47⟩
          · skip
            refine Exec.run tyOk 400 rfl ?_
            refine Exec.pick2 (i := 10) (j := 17) [(11, true), (12, true), (13, true), (14, true), (15, true), (17, false)] [(10, false), (11, true), (12, true), (13, true), (14, true), (15, true)] rfl (by kernel_rfl) rfl rfl (by kernel_rfl) (by kernel_rfl) (by kernel_rfl) ?_ ?_
            · skip
              refine Exec.run tyOk 400 rfl ?_
              refine Exec.call rfl rfl (W_migrate_Chunk x20 x22 x1.Id ((max (atI x1.Sizes x24) (1 : Int))) h21 h23 hx31) ?_
              rintro V53 _ hv53 ⟨a50, k50, a51, k51, a52, k52, rfl, h50, h51, h52⟩
              have h54 := SlAt.mono h23 hv53
              have h55 := SlAt.mono h28 hv53
              have h56 := SlAt.mono h21 hv53
              have h58 := SlAt.mono h27 hv53
              refine Exec.run tyOk 400 rfl ?_
              exact join [0, 1, 2, 3] (lr' := []) (L' := [(2, .v (.string ⟨⟨x6⟩⟩)), (3, .ptr 0 0), (7, .ptr 1 0), (10, .v (.int .i64 (x24))), (11, .ptr 2 0), (13, .ptr 3 0), (59, .v (.agg ⟨[.int .i64 (x31.1.Version), .slice a50 ((x31.1.Parts).length) (k50)]⟩)), (60, .v (.slice a51 ((x31.2.1).length) (k51))), (61, .v (.agg ⟨[.int .i64 (x31.2.2.1.Part), .int .i64 (x31.2.2.1.From), .int .i64 (x31.2.2.1.To), .string ⟨⟨x31.2.2.1.Keys.From⟩⟩, .string ⟨⟨x31.2.2.1.Keys.To⟩⟩, .slice a52 ((x31.2.2.1.Pairs).length) (k52), .bool (x31.2.2.1.Last)]⟩)), (62, .v (.int .i64 (x31.2.2.2)))]) rfl rfl rfl rfl ⟨⟨_, rfl, rfl⟩, ⟨_, rfl, rfl⟩, ⟨_, rfl, rfl⟩, ⟨_, rfl, rfl⟩, ⟨_, rfl, rfl⟩, ⟨_, rfl, rfl⟩, ⟨_, rfl, rfl⟩, ⟨_, rfl, rfl⟩, ⟨_, rfl, rfl⟩, ⟨_, rfl, rfl⟩, trivial⟩ trivial ⟨_, _, _, _, _, _, rfl, rfl, rfl, h50, h51, h52, h58, h55, h56⟩
            · skip
              refine Exec.run tyOk 400 rfl ?_
              refine Exec.call rfl rfl (W_migrate_Chunk x20 x22 x1.Id ((max (atI x1.Sizes x24) (1 : Int))) h21 h23 hx31) ?_
              rintro V62 _ hv62 ⟨a59, k59, a60, k60, a61, k61, rfl, h59, h60, h61⟩
              have h63 := SlAt.mono h23 hv62
              have h64 := SlAt.mono h28 hv62
              have h65 := SlAt.mono h21 hv62
              have h67 := SlAt.mono h27 hv62
              refine Exec.run tyOk 400 rfl ?_
              exact join [0, 1, 2, 3] (lr' := []) (L' := [(2, .v (.string ⟨⟨x6⟩⟩)), (3, .ptr 0 0), (7, .ptr 1 0), (10, .v (.int .i64 (x24))), (11, .ptr 2 0), (13, .ptr 3 0), (59, .v (.agg ⟨[.int .i64 (x31.1.Version), .slice a59 ((x31.1.Parts).length) (k59)]⟩)), (60, .v (.slice a60 ((x31.2.1).length) (k60))), (61, .v (.agg ⟨[.int .i64 (x31.2.2.1.Part), .int .i64 (x31.2.2.1.From), .int .i64 (x31.2.2.1.To), .string ⟨⟨x31.2.2.1.Keys.From⟩⟩, .string ⟨⟨x31.2.2.1.Keys.To⟩⟩, .slice a61 ((x31.2.2.1.Pairs).length) (k61), .bool (x31.2.2.1.Last)]⟩)), (62, .v (.int .i64 (x31.2.2.2)))]) rfl rfl rfl rfl ⟨⟨_, rfl, rfl⟩, ⟨_, rfl, rfl⟩, ⟨_, rfl, rfl⟩, ⟨_, rfl, rfl⟩, ⟨_, rfl, rfl⟩, ⟨_, rfl, rfl⟩, ⟨_, rfl, rfl⟩, ⟨_, rfl, rfl⟩, ⟨_, rfl, rfl⟩, ⟨_, rfl, rfl⟩, trivial⟩ trivial ⟨_, _, _, _, _, _, rfl, rfl, rfl, h59, h60, h61, h67, h64, h65⟩
          · skip
            refine Exec.run tyOk 400 rfl ?_
            refine Exec.pick2 (i := 10) (j := 16) [(11, true), (12, true), (13, true), (14, true), (15, true), (16, false)] [(10, false), (11, true), (12, true), (13, true), (14, true), (15, true)] rfl (by kernel_rfl) rfl rfl (by kernel_rfl) (by kernel_rfl) (by kernel_rfl) ?_ ?_
            · skip
              refine Exec.run tyOk 400 rfl ?_
              refine Exec.call rfl rfl (W_migrate_Chunk x20 x22 x1.Id ((max (atI x1.Sizes x24) (1 : Int))) h21 h23 hx31) ?_
              rintro V71 _ hv71 ⟨a68, k68, a69, k69, a70, k70, rfl, h68, h69, h70⟩
              have h72 := SlAt.mono h23 hv71
              have h73 := SlAt.mono h28 hv71
              have h74 := SlAt.mono h21 hv71
              have h76 := SlAt.mono h27 hv71
              refine Exec.run tyOk 400 rfl ?_
              exact join [0, 1, 3, 2] (lr' := []) (L' := [(2, .v (.string ⟨⟨x6⟩⟩)), (3, .ptr 0 0), (7, .ptr 1 0), (10, .v (.int .i64 (x24))), (11, .ptr 2 0), (13, .ptr 3 0), (59, .v (.agg ⟨[.int .i64 (x31.1.Version), .slice a68 ((x31.1.Parts).length) (k68)]⟩)), (60, .v (.slice a69 ((x31.2.1).length) (k69))), (61, .v (.agg ⟨[.int .i64 (x31.2.2.1.Part), .int .i64 (x31.2.2.1.From), .int .i64 (x31.2.2.1.To), .string ⟨⟨x31.2.2.1.Keys.From⟩⟩, .string ⟨⟨x31.2.2.1.Keys.To⟩⟩, .slice a70 ((x31.2.2.1.Pairs).length) (k70), .bool (x31.2.2.1.Last)]⟩)), (62, .v (.int .i64 (x31.2.2.2)))]) rfl rfl rfl rfl ⟨⟨_, rfl, rfl⟩, ⟨_, rfl, rfl⟩, ⟨_, rfl, rfl⟩, ⟨_, rfl, rfl⟩, ⟨_, rfl, rfl⟩, ⟨_, rfl, rfl⟩, ⟨_, rfl, rfl⟩, ⟨_, rfl, rfl⟩, ⟨_, rfl, rfl⟩, ⟨_, rfl, rfl⟩, trivial⟩ trivial ⟨_, _, _, _, _, _, rfl, rfl, rfl, h68, h69, h70, h76, h73, h74⟩
            · skip
              refine Exec.run tyOk 400 rfl ?_
              refine Exec.call rfl rfl (W_migrate_Chunk x20 x22 x1.Id ((max (atI x1.Sizes x24) (1 : Int))) h21 h23 hx31) ?_
              rintro V80 _ hv80 ⟨a77, k77, a78, k78, a79, k79, rfl, h77, h78, h79⟩
              have h81 := SlAt.mono h23 hv80
              have h82 := SlAt.mono h28 hv80
              have h83 := SlAt.mono h21 hv80
              have h85 := SlAt.mono h27 hv80
              refine Exec.run tyOk 400 rfl ?_
              exact join [0, 1, 3, 2] (lr' := []) (L' := [(2, .v (.string ⟨⟨x6⟩⟩)), (3, .ptr 0 0), (7, .ptr 1 0), (10, .v (.int .i64 (x24))), (11, .ptr 2 0), (13, .ptr 3 0), (59, .v (.agg ⟨[.int .i64 (x31.1.Version), .slice a77 ((x31.1.Parts).length) (k77)]⟩)), (60, .v (.slice a78 ((x31.2.1).length) (k78))), (61, .v (.agg ⟨[.int .i64 (x31.2.2.1.Part), .int .i64 (x31.2.2.1.From), .int .i64 (x31.2.2.1.To), .string ⟨⟨x31.2.2.1.Keys.From⟩⟩, .string ⟨⟨x31.2.2.1.Keys.To⟩⟩, .slice a79 ((x31.2.2.1.Pairs).length) (k79), .bool (x31.2.2.1.Last)]⟩)), (62, .v (.int .i64 (x31.2.2.2)))]) rfl rfl rfl rfl ⟨⟨_, rfl, rfl⟩, ⟨_, rfl, rfl⟩, ⟨_, rfl, rfl⟩, ⟨_, rfl, rfl⟩, ⟨_, rfl, rfl⟩, ⟨_, rfl, rfl⟩, ⟨_, rfl, rfl⟩, ⟨_, rfl, rfl⟩, ⟨_, rfl, rfl⟩, ⟨_, rfl, rfl⟩, trivial⟩ trivial ⟨_, _, _, _, _, _, rfl, rfl, rfl, h77, h78, h79, h85, h82, h83⟩
          rintro lr' L' VV86 M' ⟨a32, k32, a33, k33, a34, k34, rfl, rfl, rfl, h87, h88, h89, h90, h91, h92⟩
          refine Exec.run tyOk 400 rfl ?_
          refine Exec.draws tyOk [(0, true), (1, true), (2, true), (3, true), (4, true), (5, true), (6, true), (7, true), (8, true), (9, true), (10, true), (11, true), (12, true), (13, true), (14, true), (15, true), (16, true), (17, true), (18, true), (19, true), (20, true), (21, true), (22, true), (23, false), (24, false), (25, false), (26, false)] rfl (by kernel_rfl) ?_
          refine Exec.run tyOk 400 rfl ?_
          obtain ⟨x93, hx93, hF⟩ := bnd_some hF
          refine Exec.callS (.agg ⟨[.int .i64 (x93.Id), .string ⟨⟨x93.From⟩⟩, .int .i64 (x93.Node), .int .i64 (x93.Dest), .string ⟨⟨x93.Done⟩⟩]⟩) rfl rfl (fun gg0 => W_clockworklaw33_part ((⟨x1.P.Version, x1.P.Parts⟩ : TPlacement)) x1.Id h90 (gcall_some hx93 (gd1_of gg0))) ?_
          refine Exec.run tyOk 400 rfl ?_
          rcases cond_some hF with ⟨hb, hF⟩ | ⟨hb, hF⟩
          · skip
            refine Exec.ifT rfl hb ?_
            refine Exec.run tyOk 400 rfl ?_
            obtain rfl := some_inj hF
            exact Exec.ret tyOk rfl rfl rfl
          · skip
            refine Exec.ifF rfl hb ?_
            refine Exec.run tyOk 400 rfl ?_
            refine Exec.draws tyOk [(0, true), (1, true), (3, true), (4, true), (2, false), (5, false), (6, false), (7, false)] rfl (by kernel_rfl) ?_
            refine Exec.run tyOk 400 rfl ?_
            obtain ⟨x94, hx94, hF⟩ := bnd_some hF
            refine Exec.callS (.int .i64 (x94)) rfl rfl (W_clockworkref29_Owner x20 x6 h92 hx94) ?_
            refine Exec.run tyOk 400 rfl ?_
            obtain ⟨x95, hx95, hF⟩ := bnd_some hF
            refine Exec.callS (.int .i64 (x95)) rfl rfl (W_clockworkref29_Owner x31.1 x6 h87 hx95) ?_
            refine Exec.run tyOk 400 rfl ?_
            obtain ⟨J96, hJ96, hF⟩ := jn_some hF
            refine Exec.seam (fun L' V' M' => L' = [(2, .v (.string ⟨⟨x6⟩⟩)), (3, .ptr 0 0), (7, .ptr 1 0), (10, .v (.int .i64 (x24))), (11, .ptr 2 0), (12, .v (.slice a33 ((x31.2.1).length) (k33))), (13, .ptr 3 0)] ∧ M' = [.blk [.v (.int .i64 (x1.P.Version)), .v (.slice a2 ((x1.P.Parts).length) (k2)), .v (.int .i64 (x1.Id)), .v (.int .i64 (x1.Node)), .v (.slice a3 ((x1.Sizes).length) (k3))] 48, .blk [.v (.int .i64 (x20.Version)), .v (.slice a21 ((x20.Parts).length) (k21))] 24, .blk [.v (.int .i64 (x31.1.Version)), .v (.slice a32 ((x31.1.Parts).length) (k32))] 24, .blk [.v (.int .i64 (x31.2.2.1.Part)), .v (.int .i64 (x31.2.2.1.From)), .v (.int .i64 (x31.2.2.1.To)), .v (.string ⟨⟨x31.2.2.1.Keys.From⟩⟩), .v (.string ⟨⟨x31.2.2.1.Keys.To⟩⟩), .v (.slice a34 ((x31.2.2.1.Pairs).length) (k34)), .v (.bool (x31.2.2.1.Last))] 41] ∧ SlAt cTShard V' a33 k33 x31.2.1 ∧ SlAt cTPart V' a2 k2 x1.P.Parts ∧ SlAt (cInt .i64) V' a3 k3 x1.Sizes ∧ SlAt cTPart V' a21 k21 x20.Parts ∧ SlAt cTPart V' a32 k32 x31.1.Parts ∧ SlAt cTPair V' a34 k34 x31.2.2.1.Pairs ∧ J96 = some r) rfl ?_ ?_
            · rintro L' V97 M' ⟨rfl, rfl, h98, h99, h100, h101, h102, h103, hF⟩
              subst hJ96
              refine Exec.run tyOk 400 rfl ?_
              rcases cond_some hF with ⟨hb, hF⟩ | ⟨hb, hF⟩
              · skip
                refine Exec.ifT rfl hb ?_
                refine Exec.run tyOk 400 rfl ?_
                obtain ⟨x104, hx104, hF⟩ := bnd_some hF
                refine Exec.callS (.bool (x104)) rfl rfl (W_clockworklaw33_works   hx104) ?_
                refine Exec.run tyOk 400 rfl ?_
                obtain rfl := some_inj hF
                exact Exec.ret tyOk rfl rfl rfl
              · skip
                refine Exec.ifF rfl hb ?_
                refine Exec.run tyOk 400 rfl ?_
                refine Exec.cut 2 [(2, .v (.string ⟨⟨x6⟩⟩)), (3, .ptr 0 0), (7, .ptr 1 0), (8, .v (.slice a33 ((x31.2.1).length) (k33))), (10, .v (.int .i64 ((IntKind.i64.wrap (x24 + (1 : Int))))))] (M' := [.blk [.v (.int .i64 (x1.P.Version)), .v (.slice a2 ((x1.P.Parts).length) (k2)), .v (.int .i64 (x1.Id)), .v (.int .i64 (x1.Node)), .v (.slice a3 ((x1.Sizes).length) (k3))] 48, .blk [.v (.int .i64 (x31.1.Version)), .v (.slice a32 ((x31.1.Parts).length) (k32))] 24]) rfl ⟨rfl, rfl, rfl, rfl, rfl, trivial⟩ rfl rfl rfl ?_
                exact Exec.round [(2, .v (.string ⟨⟨x6⟩⟩)), (3, .ptr 0 0), (7, .ptr 1 0), (8, .v (.slice a33 ((x31.2.1).length) (k33))), (10, .v (.int .i64 ((IntKind.i64.wrap (x24 + (1 : Int))))))] ⟨rfl, rfl, rfl, rfl, rfl, trivial⟩ ⟨n25, Nat.lt_succ_self _, x31.1, a32, k32, x31.2.1, a33, k33, (IntKind.i64.wrap (x24 + (1 : Int))), rfl, rfl, h102, h98, h99, h100, hF⟩
            · skip
              refine Exec.run tyOk 400 rfl ?_
              rcases cond_some hF with ⟨hb, hF⟩ | ⟨hb, hF⟩
              · skip
                refine Exec.ifT rfl hb ?_
                refine Exec.run tyOk 400 rfl ?_
                rcases cond_some hF with ⟨hb, hF⟩ | ⟨hb, hF⟩
                · skip
                  refine Exec.ifT rfl hb ?_
                  refine Exec.run tyOk 400 rfl ?_
                  obtain rfl := some_inj hF
                  exact Exec.ret tyOk rfl rfl rfl
                · skip
                  refine Exec.ifF rfl hb ?_
                  refine Exec.run tyOk 400 rfl ?_
                  exact Exec.round [(2, .v (.string ⟨⟨x6⟩⟩)), (3, .ptr 0 0), (7, .ptr 1 0), (10, .v (.int .i64 (x24))), (11, .ptr 2 0), (12, .v (.slice a33 ((x31.2.1).length) (k33))), (13, .ptr 3 0)] ⟨rfl, rfl, rfl, rfl, rfl, rfl, rfl, trivial⟩ ⟨rfl, rfl, h88, h90, h91, h92, h87, h89, hF⟩
              · skip
                refine Exec.ifF rfl hb ?_
                refine Exec.run tyOk 400 rfl ?_
                rcases cond_some hF with ⟨hb, hF⟩ | ⟨hb, hF⟩
                · skip
                  refine Exec.ifT rfl hb ?_
                  refine Exec.run tyOk 400 rfl ?_
                  obtain rfl := some_inj hF
                  exact Exec.ret tyOk rfl rfl rfl
                · skip
                  refine Exec.ifF rfl hb ?_
                  refine Exec.run tyOk 400 rfl ?_
                  exact Exec.round [(2, .v (.string ⟨⟨x6⟩⟩)), (3, .ptr 0 0), (7, .ptr 1 0), (10, .v (.int .i64 (x24))), (11, .ptr 2 0), (12, .v (.slice a33 ((x31.2.1).length) (k33))), (13, .ptr 3 0)] ⟨rfl, rfl, rfl, rfl, rfl, rfl, rfl, trivial⟩ ⟨rfl, rfl, h88, h90, h91, h92, h87, h89, hF⟩
        · skip
          refine Exec.ifF rfl hb ?_
          refine Exec.run tyOk 400 rfl ?_
          refine Exec.cut 0 [] (M' := []) rfl trivial rfl rfl rfl ?_
          exact Exec.round [] trivial ⟨rfl, rfl, hF⟩

end Go.Proofs.Ytedbagekceppiaa
