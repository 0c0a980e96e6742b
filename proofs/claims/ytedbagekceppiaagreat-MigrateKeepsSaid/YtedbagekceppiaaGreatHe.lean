/-
  Functions of the program as their counterparts say them (printed by a program).
  Conditions: none.
-/
import Derived.Test.YtedbagekceppiaaGreatHd
set_option linter.all false
namespace Go.Proofs.YtedbagekceppiaaGreat

def F_clockworkref33_Cancel (x1 : TPlacement) (x3 : List TShard) (x5 : Int) : Option (TPlacement × List TShard × Int) :=
  (bnd (F_clockworkref33_find x1 x3 x5) fun x6 => (cond (x6.2 != (0 : Int)) (some ((⟨0, ([] : List TPart)⟩ : TPlacement), ([] : List TShard), x6.2)) (req (0 ≤ x6.1 ∧ x6.1 < ((x1.Parts).length : Int)) (bnd (F_clockworkref32_Gather x3) fun x9 => (bnd (F_clockworkref33_with x1 x6.1 ((⟨(atI x1.Parts x6.1).Id, (atI x1.Parts x6.1).From, (atI x1.Parts x6.1).Node, (0 : Int), ([] : Str)⟩ : TPart))) fun x15 => (bnd (F_clockworkref32_Load x15 x9.1) fun x22 => (some (x15, x22, (0 : Int)))))))))

set_option maxRecDepth 100000 in
theorem W_clockworkref33_Cancel {V : View} (x1 : TPlacement) (x3 : List TShard) (x5 : Int) {a2 : Option Addr} {k2 : Nat} {a4 : Option Addr} {k4 : Nat} (h2 : SlAt cTPart V a2 k2 x1.Parts) (h4 : SlAt cTShard V a4 k4 x3) {r : TPlacement × List TShard × Int} (hF : F_clockworkref33_Cancel x1 x3 x5 = some r) :
    Spec Tryz.prog 14 [.agg ⟨[.int .i64 (x1.Version), .slice a2 ((x1.Parts).length) (k2)]⟩, .slice a4 ((x3).length) (k4), .int .i64 (x5)] V (fun V' v => ∃ (a30 : Option Addr) (k30 : Nat) (a31 : Option Addr) (k31 : Nat), v = .tuple ⟨[.agg ⟨[.int .i64 (r.1.Version), .slice a30 ((r.1.Parts).length) (k30)]⟩, .slice a31 ((r.2.1).length) (k31), .int .i64 (r.2.2)]⟩ ∧ SlAt cTPart V' a30 k30 r.1.Parts ∧ SlAt cTShard V' a31 k31 r.2.1) := by
  unfold F_clockworkref33_Cancel at hF
  refine Spec.enter (T := tyT) Tryz.func14 rfl (by kernel_rfl) rfl rfl rfl ?_
  refine Exec.run tyOk 400 rfl ?_
  obtain ⟨x6, hx6, hF⟩ := bnd_some hF
  refine Exec.callS (.tuple ⟨[.int .i64 (x6.1), .int .i64 (x6.2)]⟩) rfl rfl (W_clockworkref33_find x1 x3 x5 h2 h4 hx6) ?_
  refine Exec.run tyOk 400 rfl ?_
  rcases cond_some hF with ⟨hb, hF⟩ | ⟨hb, hF⟩
  · skip
    refine Exec.ifT rfl hb ?_
    refine Exec.run tyOk 400 rfl ?_
    obtain rfl := some_inj hF
    exact Exec.ret tyOk rfl rfl ⟨_, _, _, _, rfl, SlAt.nil, SlAt.nil⟩
  · skip
    refine Exec.ifF rfl hb ?_
    refine Exec.run tyOk 400 rfl ?_
    obtain ⟨q7, hF⟩ := req_some hF
    obtain ⟨c8, hr8, hd8⟩ := SlAt.get h2 q7
    obtain rfl := hr8
    refine Exec.ia tyOk rfl rfl ⟨q7.1, q7.2, hd8.some⟩ ?_
    refine Exec.run tyOk 400 rfl ?_
    refine Exec.ld tyOk (x := .agg ⟨[.int .i64 ((atI x1.Parts x6.1).Id), .string ⟨⟨(atI x1.Parts x6.1).From⟩⟩, .int .i64 ((atI x1.Parts x6.1).Node), .int .i64 ((atI x1.Parts x6.1).Dest), .string ⟨⟨(atI x1.Parts x6.1).Done⟩⟩]⟩) rfl rfl hd8 rfl rfl ?_
    refine Exec.run tyOk 400 rfl ?_
    obtain ⟨x9, hx9, hF⟩ := bnd_some hF
    refine Exec.call rfl rfl (W_clockworkref32_Gather x3 h4 hx9) ?_
    rintro V11 _ hv11 ⟨a10, k10, rfl, h10⟩
    have h12 := SlAt.mono h2 hv11
    have h13 := SlAt.mono h4 hv11
    refine Exec.run tyOk 400 rfl ?_
    obtain ⟨x15, hx15, hF⟩ := bnd_some hF
    refine Exec.call rfl rfl (W_clockworkref33_with x1 x6.1 ((⟨(atI x1.Parts x6.1).Id, (atI x1.Parts x6.1).From, (atI x1.Parts x6.1).Node, (0 : Int), ([] : Str)⟩ : TPart)) h12 hx15) ?_
    rintro V17 _ hv17 ⟨a16, k16, rfl, h16⟩
    have h18 := SlAt.mono h12 hv17
    have h19 := SlAt.mono h13 hv17
    have h20 := SlAt.mono h10 hv17
    refine Exec.run tyOk 400 rfl ?_
    refine Exec.draws tyOk [(0, true), (1, true), (2, true), (3, false), (4, false), (5, false), (6, false)] rfl (by kernel_rfl) ?_
    refine Exec.run tyOk 400 rfl ?_
    obtain ⟨x22, hx22, hF⟩ := bnd_some hF
    refine Exec.call rfl rfl (W_clockworkref32_Load x15 x9.1 h16 h20 hx22) ?_
    rintro V24 _ hv24 ⟨a23, k23, rfl, h23⟩
    have h25 := SlAt.mono h18 hv24
    have h26 := SlAt.mono h19 hv24
    have h27 := SlAt.mono h20 hv24
    have h29 := SlAt.mono h16 hv24
    refine Exec.run tyOk 400 rfl ?_
    obtain rfl := some_inj hF
    exact Exec.ret tyOk rfl rfl ⟨_, _, _, _, rfl, h29, h23⟩

def F_migrate_moving (x1 : TPlacement) (x3 : List TShard) (x5 : Int) : Option (Int × Int) :=
  (bnd (F_dist_Valid x1 x3) fun x6 => (cond (!x6) (some ((0 : Int), (1 : Int))) (bnd (F_migrate_find x1 x5) fun x7 => (cond (decide (x7 < (0 : Int))) (some ((0 : Int), (9 : Int))) (req (0 ≤ x7 ∧ x7 < ((x1.Parts).length : Int)) (cond ((atI x1.Parts x7).Dest == (0 : Int)) (some ((0 : Int), (19 : Int))) (cond (x1.Version == (1099511627776 : Int)) (some ((0 : Int), (2 : Int))) (some (x7, (0 : Int))))))))))

set_option maxRecDepth 100000 in
theorem W_migrate_moving {V : View} (x1 : TPlacement) (x3 : List TShard) (x5 : Int) {a2 : Option Addr} {k2 : Nat} {a4 : Option Addr} {k4 : Nat} (h2 : SlAt cTPart V a2 k2 x1.Parts) (h4 : SlAt cTShard V a4 k4 x3) {r : Int × Int} (hF : F_migrate_moving x1 x3 x5 = some r) :
    Spec Tryz.prog 25 [.agg ⟨[.int .i64 (x1.Version), .slice a2 ((x1.Parts).length) (k2)]⟩, .slice a4 ((x3).length) (k4), .int .i64 (x5)] V (fun _ v => v = .tuple ⟨[.int .i64 (r.1), .int .i64 (r.2)]⟩) := by
  unfold F_migrate_moving at hF
  refine Spec.enter (T := tyT) Tryz.func25 rfl (by kernel_rfl) rfl rfl rfl ?_
  refine Exec.run tyOk 400 rfl ?_
  obtain ⟨x6, hx6, hF⟩ := bnd_some hF
  refine Exec.callS (.bool (x6)) rfl rfl (W_dist_Valid x1 x3 h2 h4 hx6) ?_
  refine Exec.run tyOk 400 rfl ?_
  rcases cond_some hF with ⟨hb, hF⟩ | ⟨hb, hF⟩
  · skip
    refine Exec.ifT rfl hb ?_
    refine Exec.run tyOk 400 rfl ?_
    obtain rfl := some_inj hF
    exact Exec.ret tyOk rfl rfl rfl
  · skip
    refine Exec.ifF rfl hb ?_
    refine Exec.run tyOk 400 rfl ?_
    obtain ⟨x7, hx7, hF⟩ := bnd_some hF
    refine Exec.callS (.int .i64 (x7)) rfl rfl (W_migrate_find x1 x5 h2 hx7) ?_
    refine Exec.run tyOk 400 rfl ?_
    rcases cond_some hF with ⟨hb, hF⟩ | ⟨hb, hF⟩
    · skip
      refine Exec.ifT rfl hb ?_
      refine Exec.run tyOk 400 rfl ?_
      obtain rfl := some_inj hF
      exact Exec.ret tyOk rfl rfl rfl
    · skip
      refine Exec.ifF rfl hb ?_
      refine Exec.run tyOk 400 rfl ?_
      obtain ⟨q8, hF⟩ := req_some hF
      obtain ⟨c9, hr9, hd9⟩ := SlAt.get h2 q8
      obtain rfl := hr9
      refine Exec.ia tyOk rfl rfl ⟨q8.1, q8.2, hd9.some⟩ ?_
      refine Exec.run tyOk 400 rfl ?_
      refine Exec.ld tyOk (x := .int .i64 ((atI x1.Parts x7).Dest)) rfl rfl (RdAt.part hd9 3 1 rfl) rfl rfl ?_
      refine Exec.run tyOk 400 rfl ?_
      rcases cond_some hF with ⟨hb, hF⟩ | ⟨hb, hF⟩
      · skip
        refine Exec.ifT rfl hb ?_
        refine Exec.run tyOk 400 rfl ?_
        obtain rfl := some_inj hF
        exact Exec.ret tyOk rfl rfl rfl
      · skip
        refine Exec.ifF rfl hb ?_
        refine Exec.run tyOk 400 rfl ?_
        rcases cond_some hF with ⟨hb, hF⟩ | ⟨hb, hF⟩
        · skip
          refine Exec.ifT rfl hb ?_
          refine Exec.run tyOk 400 rfl ?_
          obtain rfl := some_inj hF
          exact Exec.ret tyOk rfl rfl rfl
        · skip
          refine Exec.ifF rfl hb ?_
          refine Exec.run tyOk 400 rfl ?_
          obtain rfl := some_inj hF
          exact Exec.ret tyOk rfl rfl rfl

def F_migrate_moved (x1 : TPlacement) (x3 : List TShard) : Option (List TShard) :=
  (bnd (F_dist_Gather x3) fun x5 => (bnd (F_dist_Load x1 x5.1) fun x10 => (some x10)))

set_option maxRecDepth 100000 in
theorem W_migrate_moved {V : View} (x1 : TPlacement) (x3 : List TShard) {a2 : Option Addr} {k2 : Nat} {a4 : Option Addr} {k4 : Nat} (h2 : SlAt cTPart V a2 k2 x1.Parts) (h4 : SlAt cTShard V a4 k4 x3) {r : List TShard} (hF : F_migrate_moved x1 x3 = some r) :
    Spec Tryz.prog 29 [.agg ⟨[.int .i64 (x1.Version), .slice a2 ((x1.Parts).length) (k2)]⟩, .slice a4 ((x3).length) (k4)] V (fun V' v => ∃ (a16 : Option Addr) (k16 : Nat), v = .slice a16 ((r).length) (k16) ∧ SlAt cTShard V' a16 k16 r) := by
  unfold F_migrate_moved at hF
  refine Spec.enter (T := tyT) Tryz.func29 rfl (by kernel_rfl) rfl rfl rfl ?_
  refine Exec.run tyOk 400 rfl ?_
  obtain ⟨x5, hx5, hF⟩ := bnd_some hF
  refine Exec.call rfl rfl (W_dist_Gather x3 h4 hx5) ?_
  rintro V7 _ hv7 ⟨a6, k6, rfl, h6⟩
  have h8 := SlAt.mono h2 hv7
  have h9 := SlAt.mono h4 hv7
  refine Exec.run tyOk 400 rfl ?_
  obtain ⟨x10, hx10, hF⟩ := bnd_some hF
  refine Exec.call rfl rfl (W_dist_Load x1 x5.1 h8 h6 hx10) ?_
  rintro V12 _ hv12 ⟨a11, k11, rfl, h11⟩
  have h13 := SlAt.mono h8 hv12
  have h14 := SlAt.mono h9 hv12
  have h15 := SlAt.mono h6 hv12
  refine Exec.run tyOk 400 rfl ?_
  obtain rfl := some_inj hF
  exact Exec.ret tyOk rfl rfl ⟨_, _, rfl, h11⟩

def F_migrate_Chunk_L1 (x3 : List TShard) (x1 : TPlacement) (x7 : Int × Int) (x10 : TRange × Int) (J13 : (List TPair) → Option (TPlacement × List TShard × TChunk × Int)) : Nat → (List TPair) → Int → Option (TPlacement × List TShard × TChunk × Int)
  | 0, _, _ => none
  | n54 + 1, x51, x53 => (cond (decide (x53 < (((x3).length : Nat) : Int))) (req (0 ≤ x53 ∧ x53 < ((x3).length : Int)) (jn (fun (x61 : List TPair) => (F_migrate_Chunk_L1 x3 x1 x7 x10 J13 n54 x61 ((IntKind.i64.wrap (x53 + (1 : Int)))))) (fun J63 => (cond ((atI x3 x53).Node == (atI x1.Parts x7.1).Node) (bnd (F_state_Slice ((atI x3 x53).Pairs) ((⟨(atI x1.Parts x7.1).Done, x10.1.To⟩ : TRange))) fun x67 => (J63 x67)) (J63 x51))))) (J13 x51))

def F_migrate_Chunk (x1 : TPlacement) (x3 : List TShard) (x5 : Int) (x6 : Int) : Option (TPlacement × List TShard × TChunk × Int) :=
  (cond (decide (x6 < (1 : Int))) (some ((⟨0, ([] : List TPart)⟩ : TPlacement), ([] : List TShard), (⟨0, 0, 0, (default : TRange), ([] : List TPair), false⟩ : TChunk), (1 : Int))) (bnd (F_migrate_moving x1 x3 x5) fun x7 => (cond (x7.2 != (0 : Int)) (some ((⟨0, ([] : List TPart)⟩ : TPlacement), ([] : List TShard), (⟨0, 0, 0, (default : TRange), ([] : List TPair), false⟩ : TChunk), x7.2)) (req (0 ≤ x7.1 ∧ x7.1 < ((x1.Parts).length : Int)) (bnd (F_placement_Range x1 x5) fun x10 => (jn (fun (x11 : List TPair) => (jn (fun (x17 : TPart) (x18 : TChunk) => (bnd (F_migrate_changed x1 x7.1 x17) fun x24 => (bnd (F_migrate_moved x24 x3) fun x30 => (some (x24, x30, x18, (0 : Int)))))) (fun J20 => (cond (decide (x6 < (((x11).length : Nat) : Int))) (req (0 ≤ x6 ∧ x6 < ((x11).length : Int)) (req (0 ≤ x6 ∧ x6 ≤ x6) (req (48 * (x6).toNat ≤ 281474976710656) (req (0 ≤ x6 ∧ x6 < ((x11).length : Int)) (J20 ((⟨(atI x1.Parts x7.1).Id, (atI x1.Parts x7.1).From, (atI x1.Parts x7.1).Node, (atI x1.Parts x7.1).Dest, (atI x11 x6).Key⟩ : TPart)) ((⟨x5, (atI x1.Parts x7.1).Node, (atI x1.Parts x7.1).Dest, (⟨(atI x1.Parts x7.1).Done, (atI x11 x6).Key⟩ : TRange), (cpL x11 ((List.replicate (x6).toNat (default : TPair)))), false⟩ : TChunk))))))) (J20 ((⟨(atI x1.Parts x7.1).Id, (atI x1.Parts x7.1).From, (atI x1.Parts x7.1).Dest, (0 : Int), ([] : Str)⟩ : TPart)) ((⟨x5, (atI x1.Parts x7.1).Node, (atI x1.Parts x7.1).Dest, (⟨(atI x1.Parts x7.1).Done, x10.1.To⟩ : TRange), x11, true⟩ : TChunk))))))) (fun J13 => (F_migrate_Chunk_L1 x3 x1 x7 x10 J13 (((((x3).length : Nat) : Int)).toNat + 1) (([] : List TPair)) ((0 : Int))))))))))

set_option maxRecDepth 100000 in
theorem W_migrate_Chunk {V : View} (x1 : TPlacement) (x3 : List TShard) (x5 : Int) (x6 : Int) {a2 : Option Addr} {k2 : Nat} {a4 : Option Addr} {k4 : Nat} (h2 : SlAt cTPart V a2 k2 x1.Parts) (h4 : SlAt cTShard V a4 k4 x3) {r : TPlacement × List TShard × TChunk × Int} (hF : F_migrate_Chunk x1 x3 x5 x6 = some r) :
    Spec Tryz.prog 8 [.agg ⟨[.int .i64 (x1.Version), .slice a2 ((x1.Parts).length) (k2)]⟩, .slice a4 ((x3).length) (k4), .int .i64 (x5), .int .i64 (x6)] V (fun V' v => ∃ (a75 : Option Addr) (k75 : Nat) (a76 : Option Addr) (k76 : Nat) (a77 : Option Addr) (k77 : Nat), v = .tuple ⟨[.agg ⟨[.int .i64 (r.1.Version), .slice a75 ((r.1.Parts).length) (k75)]⟩, .slice a76 ((r.2.1).length) (k76), .agg ⟨[.int .i64 (r.2.2.1.Part), .int .i64 (r.2.2.1.From), .int .i64 (r.2.2.1.To), .string ⟨⟨r.2.2.1.Keys.From⟩⟩, .string ⟨⟨r.2.2.1.Keys.To⟩⟩, .slice a77 ((r.2.2.1.Pairs).length) (k77), .bool (r.2.2.1.Last)]⟩, .int .i64 (r.2.2.2)]⟩ ∧ SlAt cTPart V' a75 k75 r.1.Parts ∧ SlAt cTShard V' a76 k76 r.2.1 ∧ SlAt cTPair V' a77 k77 r.2.2.1.Pairs) := by
  unfold F_migrate_Chunk at hF
  refine Spec.enter (T := tyT) Tryz.func8 rfl (by kernel_rfl) rfl rfl rfl ?_
  refine Exec.run tyOk 400 rfl ?_
  rcases cond_some hF with ⟨hb, hF⟩ | ⟨hb, hF⟩
  · skip
    refine Exec.ifT rfl hb ?_
    refine Exec.run tyOk 400 rfl ?_
    obtain rfl := some_inj hF
    exact Exec.ret tyOk rfl rfl ⟨_, _, _, _, _, _, rfl, SlAt.nil, SlAt.nil, SlAt.nil⟩
  · skip
    refine Exec.ifF rfl hb ?_
    refine Exec.run tyOk 400 rfl ?_
    obtain ⟨x7, hx7, hF⟩ := bnd_some hF
    refine Exec.callS (.tuple ⟨[.int .i64 (x7.1), .int .i64 (x7.2)]⟩) rfl rfl (W_migrate_moving x1 x3 x5 h2 h4 hx7) ?_
    refine Exec.run tyOk 400 rfl ?_
    rcases cond_some hF with ⟨hb, hF⟩ | ⟨hb, hF⟩
    · skip
      refine Exec.ifT rfl hb ?_
      refine Exec.run tyOk 400 rfl ?_
      obtain rfl := some_inj hF
      exact Exec.ret tyOk rfl rfl ⟨_, _, _, _, _, _, rfl, SlAt.nil, SlAt.nil, SlAt.nil⟩
    · skip
      refine Exec.ifF rfl hb ?_
      refine Exec.run tyOk 400 rfl ?_
      obtain ⟨q8, hF⟩ := req_some hF
      obtain ⟨c9, hr9, hd9⟩ := SlAt.get h2 q8
      obtain rfl := hr9
      refine Exec.ia tyOk rfl rfl ⟨q8.1, q8.2, hd9.some⟩ ?_
      refine Exec.run tyOk 400 rfl ?_
      refine Exec.ld tyOk (x := .agg ⟨[.int .i64 ((atI x1.Parts x7.1).Id), .string ⟨⟨(atI x1.Parts x7.1).From⟩⟩, .int .i64 ((atI x1.Parts x7.1).Node), .int .i64 ((atI x1.Parts x7.1).Dest), .string ⟨⟨(atI x1.Parts x7.1).Done⟩⟩]⟩) rfl rfl hd9 rfl rfl ?_
      refine Exec.run tyOk 400 rfl ?_
      obtain ⟨x10, hx10, hF⟩ := bnd_some hF
      refine Exec.callS (.tuple ⟨[.agg ⟨[.string ⟨⟨x10.1.From⟩⟩, .string ⟨⟨x10.1.To⟩⟩]⟩, .int .i64 (x10.2)]⟩) rfl rfl (W_placement_Range x1 x5 h2 hx10) ?_
      refine Exec.run tyOk 25 rfl ?_
      obtain ⟨J13, hJ13, hF⟩ := jn_some hF
      refine Exec.seam (fun L' V' M' => ∃ (x11 : List TPair) (a12 : Option Addr) (k12 : Nat), L' = [(1, .v (.slice a4 ((x3).length) (k4))), (2, .v (.int .i64 (x5))), (3, .v (.int .i64 (x6))), (4, .ptr 0 0), (8, .ptr 1 0), (10, .ptr 2 0), (12, .v (.int .i64 (x7.1))), (14, .ptr 3 0), (15, .ptr 4 0), (17, .v (.slice a12 ((x11).length) (k12)))] ∧ M' = [.blk [.v (.int .i64 (x1.Version)), .v (.slice a2 ((x1.Parts).length) (k2))] 24, .blk [.v (.int .i64 (0)), .v (.slice none (0) (0))] 24, .blk [.v (.int .i64 (0)), .v (.int .i64 (0)), .v (.int .i64 (0)), .v (.string ⟨⟨[]⟩⟩), .v (.string ⟨⟨[]⟩⟩), .v (.slice none (0) (0)), .v (.bool (false))] 34, .blk [.v (.int .i64 ((atI x1.Parts x7.1).Id)), .v (.string ⟨⟨(atI x1.Parts x7.1).From⟩⟩), .v (.int .i64 ((atI x1.Parts x7.1).Node)), .v (.int .i64 ((atI x1.Parts x7.1).Dest)), .v (.string ⟨⟨(atI x1.Parts x7.1).Done⟩⟩)] 56, .blk [.v (.string ⟨⟨(atI x1.Parts x7.1).Done⟩⟩), .v (.string ⟨⟨x10.1.To⟩⟩)] 31] ∧ SlAt cTPair V' a12 k12 x11 ∧ SlAt cTShard V' a4 k4 x3 ∧ SlAt cTPart V' a2 k2 x1.Parts ∧ J13 x11 = some r) rfl ?_ ?_
      · rintro L' V14 M' ⟨x11, a12, k12, rfl, rfl, h12, h15, h16, hF⟩
        subst hJ13
        refine Exec.run tyOk 400 rfl ?_
        obtain ⟨J20, hJ20, hF⟩ := jn_some hF
        refine Exec.seam (fun L' V' M' => ∃ (x17 : TPart) (x18 : TChunk) (a19 : Option Addr) (k19 : Nat), L' = [(1, .v (.slice a4 ((x3).length) (k4))), (4, .ptr 0 0), (8, .ptr 1 0), (10, .ptr 2 0), (12, .v (.int .i64 (x7.1))), (14, .ptr 3 0), (20, .ptr 5 0)] ∧ M' = [.blk [.v (.int .i64 (x1.Version)), .v (.slice a2 ((x1.Parts).length) (k2))] 24, .blk [.v (.int .i64 (0)), .v (.slice none (0) (0))] 24, .blk [.v (.int .i64 (0)), .v (.int .i64 (0)), .v (.int .i64 (0)), .v (.string ⟨⟨[]⟩⟩), .v (.string ⟨⟨[]⟩⟩), .v (.slice none (0) (0)), .v (.bool (false))] 34, .blk [.v (.int .i64 (x17.Id)), .v (.string ⟨⟨x17.From⟩⟩), .v (.int .i64 (x17.Node)), .v (.int .i64 (x17.Dest)), .v (.string ⟨⟨x17.Done⟩⟩)] 56, .blk [.v (.string ⟨⟨(atI x1.Parts x7.1).Done⟩⟩), .v (.string ⟨⟨x10.1.To⟩⟩)] 31, .blk [.v (.int .i64 (x18.Part)), .v (.int .i64 (x18.From)), .v (.int .i64 (x18.To)), .v (.string ⟨⟨x18.Keys.From⟩⟩), .v (.string ⟨⟨x18.Keys.To⟩⟩), .v (.slice a19 ((x18.Pairs).length) (k19)), .v (.bool (x18.Last))] 34] ∧ SlAt cTPair V' a19 k19 x18.Pairs ∧ SlAt cTShard V' a4 k4 x3 ∧ SlAt cTPart V' a2 k2 x1.Parts ∧ J20 x17 x18 = some r) rfl ?_ ?_
        · rintro L' V21 M' ⟨x17, x18, a19, k19, rfl, rfl, h19, h22, h23, hF⟩
          subst hJ20
          refine Exec.run tyOk 400 rfl ?_
          obtain ⟨x24, hx24, hF⟩ := bnd_some hF
          refine Exec.call rfl rfl (W_migrate_changed x1 x7.1 x17 h23 hx24) ?_
          rintro V26 _ hv26 ⟨a25, k25, rfl, h25⟩
          have h27 := SlAt.mono h22 hv26
          have h28 := SlAt.mono h23 hv26
          have h29 := SlAt.mono h19 hv26
          refine Exec.run tyOk 400 rfl ?_
          refine Exec.draws tyOk [(0, true), (1, true), (2, true), (4, true), (3, false), (5, false), (6, false), (7, false), (8, false)] rfl (by kernel_rfl) ?_
          refine Exec.run tyOk 400 rfl ?_
          obtain ⟨x30, hx30, hF⟩ := bnd_some hF
          refine Exec.call rfl rfl (W_migrate_moved x24 x3 h25 h27 hx30) ?_
          rintro V32 _ hv32 ⟨a31, k31, rfl, h31⟩
          have h33 := SlAt.mono h27 hv32
          have h34 := SlAt.mono h28 hv32
          have h35 := SlAt.mono h25 hv32
          have h36 := SlAt.mono h29 hv32
          refine Exec.run tyOk 400 rfl ?_
          obtain rfl := some_inj hF
          exact Exec.ret tyOk rfl rfl ⟨_, _, _, _, _, _, rfl, h35, h31, h36⟩
        · skip
          refine Exec.run tyOk 400 rfl ?_
          rcases cond_some hF with ⟨hb, hF⟩ | ⟨hb, hF⟩
          · skip
            refine Exec.ifT rfl hb ?_
            refine Exec.run tyOk 400 rfl ?_
            refine Exec.draws tyOk [(0, true), (1, true), (2, true), (3, true), (4, true), (5, true), (6, false), (7, false), (8, false), (9, false)] rfl (by kernel_rfl) ?_
            refine Exec.run tyOk 400 rfl ?_
            obtain ⟨q37, hF⟩ := req_some hF
            obtain ⟨c38, hr38, hd38⟩ := SlAt.get h12 q37
            obtain rfl := hr38
            refine Exec.fia tyOk rfl rfl rfl ⟨q37.1, q37.2, hd38.some⟩ ?_
            refine Exec.run tyOk 400 rfl ?_
            refine Exec.fld tyOk (x := .string ⟨⟨(atI x11 x6).Key⟩⟩) rfl rfl rfl (RdAt.part hd38 0 1 rfl) rfl rfl ?_
            refine Exec.run tyOk 400 rfl ?_
            obtain ⟨q39, hF⟩ := req_some hF
            obtain ⟨q40, hF⟩ := req_some hF
            refine Exec.mkr tyOk rfl rfl rfl rfl (nm := ((List.replicate (x6).toNat (default : TPair))).length) (by simp) q39 q40 (fun _ => rfl) (fun a41 => ?_)
            have h41 : RowRep cTPair V14 (List.replicate (x6).toNat (default : TPair)) ((List.replicate ((List.replicate (x6).toNat (default : TPair))).length [.string ⟨⟨[]⟩⟩, .int .i64 (0), .int .i64 (0), .string ⟨⟨[]⟩⟩]).flatten) := by rw [List.length_replicate]; exact RowRep.reps (c := cTPair) rfl _
            refine Exec.run tyOk 400 rfl ?_
            refine Exec.cpV tyOk (cd := cTPair) 6 rfl rfl rfl rfl rfl rfl h41 rfl h12 rfl (fun _ => rfl) rfl (fun cs42 h42 => ?_)
            refine Exec.run tyOk 400 rfl ?_
            obtain ⟨q43, hF⟩ := req_some hF
            obtain ⟨c44, hr44, hd44⟩ := SlAt.get h12 q43
            obtain rfl := hr44
            refine Exec.ia tyOk rfl rfl ⟨q43.1, q43.2, hd44.some⟩ ?_
            refine Exec.run tyOk 400 rfl ?_
            refine Exec.ld tyOk (x := .string ⟨⟨(atI x11 x6).Key⟩⟩) rfl rfl (RdAt.part hd44 0 1 rfl) rfl rfl ?_
            refine Exec.run tyOk 400 rfl ?_
            refine Exec.frz 6 rfl rfl rfl (fun V45 hv45 hd45 hn45 => ?_)
            have hz45 := RowRep.slat h42 hv45 hd45 (Nat.le_trans (Nat.le_of_eq (by simp)) hn45)
            have h46 := SlAt.mono h15 hv45
            have h47 := SlAt.mono h12 hv45
            have h50 := SlAt.mono h16 hv45
            refine Exec.cut 6 [(1, .v (.slice a4 ((x3).length) (k4))), (4, .ptr 0 0), (8, .ptr 1 0), (10, .ptr 2 0), (12, .v (.int .i64 (x7.1))), (14, .ptr 3 0), (20, .ptr 5 0)] (M' := [.blk [.v (.int .i64 (x1.Version)), .v (.slice a2 ((x1.Parts).length) (k2))] 24, .blk [.v (.int .i64 (0)), .v (.slice none (0) (0))] 24, .blk [.v (.int .i64 (0)), .v (.int .i64 (0)), .v (.int .i64 (0)), .v (.string ⟨⟨[]⟩⟩), .v (.string ⟨⟨[]⟩⟩), .v (.slice none (0) (0)), .v (.bool (false))] 34, .blk [.v (.int .i64 ((atI x1.Parts x7.1).Id)), .v (.string ⟨⟨(atI x1.Parts x7.1).From⟩⟩), .v (.int .i64 ((atI x1.Parts x7.1).Node)), .v (.int .i64 ((atI x1.Parts x7.1).Dest)), .v (.string ⟨⟨(atI x11 x6).Key⟩⟩)] 56, .blk [.v (.string ⟨⟨(atI x1.Parts x7.1).Done⟩⟩), .v (.string ⟨⟨x10.1.To⟩⟩)] 31, .blk [.v (.int .i64 (x5)), .v (.int .i64 ((atI x1.Parts x7.1).Node)), .v (.int .i64 ((atI x1.Parts x7.1).Dest)), .v (.string ⟨⟨(atI x1.Parts x7.1).Done⟩⟩), .v (.string ⟨⟨(atI x11 x6).Key⟩⟩), .v (.slice ((some a41)) (((List.replicate (x6).toNat (default : TPair))).length) ((x6).toNat)), .v (.bool (false))] 34]) rfl ⟨rfl, rfl, rfl, rfl, rfl, rfl, rfl, trivial⟩ rfl rfl rfl ?_
            exact Exec.round [(1, .v (.slice a4 ((x3).length) (k4))), (4, .ptr 0 0), (8, .ptr 1 0), (10, .ptr 2 0), (12, .v (.int .i64 (x7.1))), (14, .ptr 3 0), (20, .ptr 5 0)] ⟨rfl, rfl, rfl, rfl, rfl, rfl, rfl, trivial⟩ ⟨(⟨(atI x1.Parts x7.1).Id, (atI x1.Parts x7.1).From, (atI x1.Parts x7.1).Node, (atI x1.Parts x7.1).Dest, (atI x11 x6).Key⟩ : TPart), (⟨x5, (atI x1.Parts x7.1).Node, (atI x1.Parts x7.1).Dest, (⟨(atI x1.Parts x7.1).Done, (atI x11 x6).Key⟩ : TRange), (cpL x11 ((List.replicate (x6).toNat (default : TPair)))), false⟩ : TChunk), (some a41), (x6).toNat, rfl, (by simp), hz45, h46, h50, hF⟩
          · skip
            refine Exec.ifF rfl hb ?_
            refine Exec.run tyOk 400 rfl ?_
            exact Exec.round [(1, .v (.slice a4 ((x3).length) (k4))), (4, .ptr 0 0), (8, .ptr 1 0), (10, .ptr 2 0), (12, .v (.int .i64 (x7.1))), (14, .ptr 3 0), (20, .ptr 5 0)] ⟨rfl, rfl, rfl, rfl, rfl, rfl, rfl, trivial⟩ ⟨(⟨(atI x1.Parts x7.1).Id, (atI x1.Parts x7.1).From, (atI x1.Parts x7.1).Dest, (0 : Int), ([] : Str)⟩ : TPart), (⟨x5, (atI x1.Parts x7.1).Node, (atI x1.Parts x7.1).Dest, (⟨(atI x1.Parts x7.1).Done, x10.1.To⟩ : TRange), x11, true⟩ : TChunk), a12, k12, rfl, rfl, h12, h15, h16, hF⟩
      · skip
        refine Exec.run tyOk 400 rfl ?_
        refine Exec.loop (fun n54 L' V' M' => ∃ (x51 : List TPair) (a52 : Option Addr) (k52 : Nat) (x53 : Int), L' = [(1, .v (.slice a4 ((x3).length) (k4))), (2, .v (.int .i64 (x5))), (3, .v (.int .i64 (x6))), (4, .ptr 0 0), (8, .ptr 1 0), (10, .ptr 2 0), (12, .v (.int .i64 (x7.1))), (14, .ptr 3 0), (15, .ptr 4 0), (17, .v (.slice a52 ((x51).length) (k52))), (52, .v (.slice a4 ((x3).length) (k4))), (53, .v (.int .i64 ((((x3).length : Nat) : Int)))), (54, .v (.int .i64 (x53)))] ∧ M' = [.blk [.v (.int .i64 (x1.Version)), .v (.slice a2 ((x1.Parts).length) (k2))] 24, .blk [.v (.int .i64 (0)), .v (.slice none (0) (0))] 24, .blk [.v (.int .i64 (0)), .v (.int .i64 (0)), .v (.int .i64 (0)), .v (.string ⟨⟨[]⟩⟩), .v (.string ⟨⟨[]⟩⟩), .v (.slice none (0) (0)), .v (.bool (false))] 34, .blk [.v (.int .i64 ((atI x1.Parts x7.1).Id)), .v (.string ⟨⟨(atI x1.Parts x7.1).From⟩⟩), .v (.int .i64 ((atI x1.Parts x7.1).Node)), .v (.int .i64 ((atI x1.Parts x7.1).Dest)), .v (.string ⟨⟨(atI x1.Parts x7.1).Done⟩⟩)] 56, .blk [.v (.string ⟨⟨(atI x1.Parts x7.1).Done⟩⟩), .v (.string ⟨⟨x10.1.To⟩⟩)] 31] ∧ SlAt cTPair V' a52 k52 x51 ∧ SlAt cTShard V' a4 k4 x3 ∧ SlAt cTPart V' a2 k2 x1.Parts ∧ F_migrate_Chunk_L1 x3 x1 x7 x10 J13 n54 x51 x53 = some r) ⟨(((((x3).length : Nat) : Int)).toNat + 1), [(1, .v (.slice a4 ((x3).length) (k4))), (2, .v (.int .i64 (x5))), (3, .v (.int .i64 (x6))), (4, .ptr 0 0), (8, .ptr 1 0), (10, .ptr 2 0), (12, .v (.int .i64 (x7.1))), (14, .ptr 3 0), (15, .ptr 4 0), (17, .v (.slice none (0) (0))), (52, .v (.slice a4 ((x3).length) (k4))), (53, .v (.int .i64 ((((x3).length : Nat) : Int)))), (54, .v (.int .i64 ((0 : Int))))], ⟨rfl, rfl, rfl, rfl, rfl, rfl, rfl, rfl, rfl, rfl, rfl, rfl, rfl, trivial⟩, ([] : List TPair), none, 0, (0 : Int), rfl, rfl, SlAt.nil, h4, h2, hF⟩ ?_
        rintro n54 L' V55 M' ⟨x51, a52, k52, x53, rfl, rfl, h52, h56, h57, hF⟩
        rcases n54 with _ | n54
        · exact absurd hF (by simp [F_migrate_Chunk_L1])
        rw [F_migrate_Chunk_L1] at hF
        refine Exec.run tyOk 400 rfl ?_
        rcases cond_some hF with ⟨hb, hF⟩ | ⟨hb, hF⟩
        · skip
          refine Exec.ifT rfl hb ?_
          refine Exec.run tyOk 400 rfl ?_
          obtain ⟨q58, hF⟩ := req_some hF
          obtain ⟨c59, hr59, hd59⟩ := SlAt.get h56 q58
          obtain ⟨a60, k60, rfl, h60⟩ := hr59
          refine Exec.ia tyOk rfl rfl ⟨q58.1, q58.2, hd59.some⟩ ?_
          refine Exec.run tyOk 400 rfl ?_
          refine Exec.ld tyOk (x := .agg ⟨[.int .i64 ((atI x3 x53).Node), .slice a60 (((atI x3 x53).Pairs).length) (k60)]⟩) rfl rfl hd59 rfl rfl ?_
          refine Exec.run tyOk 400 rfl ?_
          obtain ⟨J63, hJ63, hF⟩ := jn_some hF
          refine Exec.seam (fun L' V' M' => ∃ (x61 : List TPair) (a62 : Option Addr) (k62 : Nat), L' = [(1, .v (.slice a4 ((x3).length) (k4))), (2, .v (.int .i64 (x5))), (3, .v (.int .i64 (x6))), (4, .ptr 0 0), (8, .ptr 1 0), (10, .ptr 2 0), (12, .v (.int .i64 (x7.1))), (14, .ptr 3 0), (15, .ptr 4 0), (17, .v (.slice a62 ((x61).length) (k62))), (52, .v (.slice a4 ((x3).length) (k4))), (53, .v (.int .i64 ((((x3).length : Nat) : Int)))), (54, .v (.int .i64 (x53)))] ∧ M' = [.blk [.v (.int .i64 (x1.Version)), .v (.slice a2 ((x1.Parts).length) (k2))] 24, .blk [.v (.int .i64 (0)), .v (.slice none (0) (0))] 24, .blk [.v (.int .i64 (0)), .v (.int .i64 (0)), .v (.int .i64 (0)), .v (.string ⟨⟨[]⟩⟩), .v (.string ⟨⟨[]⟩⟩), .v (.slice none (0) (0)), .v (.bool (false))] 34, .blk [.v (.int .i64 ((atI x1.Parts x7.1).Id)), .v (.string ⟨⟨(atI x1.Parts x7.1).From⟩⟩), .v (.int .i64 ((atI x1.Parts x7.1).Node)), .v (.int .i64 ((atI x1.Parts x7.1).Dest)), .v (.string ⟨⟨(atI x1.Parts x7.1).Done⟩⟩)] 56, .blk [.v (.string ⟨⟨(atI x1.Parts x7.1).Done⟩⟩), .v (.string ⟨⟨x10.1.To⟩⟩)] 31] ∧ SlAt cTPair V' a62 k62 x61 ∧ SlAt cTShard V' a4 k4 x3 ∧ SlAt cTPart V' a2 k2 x1.Parts ∧ J63 x61 = some r) rfl ?_ ?_
          · rintro L' V64 M' ⟨x61, a62, k62, rfl, rfl, h62, h65, h66, hF⟩
            subst hJ63
            refine Exec.run tyOk 400 rfl ?_
            exact Exec.round [(1, .v (.slice a4 ((x3).length) (k4))), (2, .v (.int .i64 (x5))), (3, .v (.int .i64 (x6))), (4, .ptr 0 0), (8, .ptr 1 0), (10, .ptr 2 0), (12, .v (.int .i64 (x7.1))), (14, .ptr 3 0), (15, .ptr 4 0), (17, .v (.slice a62 ((x61).length) (k62))), (52, .v (.slice a4 ((x3).length) (k4))), (53, .v (.int .i64 ((((x3).length : Nat) : Int)))), (54, .v (.int .i64 ((IntKind.i64.wrap (x53 + (1 : Int))))))] ⟨rfl, rfl, rfl, rfl, rfl, rfl, rfl, rfl, rfl, rfl, rfl, rfl, rfl, trivial⟩ ⟨n54, Nat.lt_succ_self _, x61, a62, k62, (IntKind.i64.wrap (x53 + (1 : Int))), rfl, rfl, h62, h65, h66, hF⟩
          · skip
            refine Exec.run tyOk 400 rfl ?_
            rcases cond_some hF with ⟨hb, hF⟩ | ⟨hb, hF⟩
            · skip
              refine Exec.ifT rfl hb ?_
              refine Exec.run tyOk 400 rfl ?_
              obtain ⟨x67, hx67, hF⟩ := bnd_some hF
              refine Exec.call rfl rfl (W_state_Slice ((atI x3 x53).Pairs) ((⟨(atI x1.Parts x7.1).Done, x10.1.To⟩ : TRange)) h60 hx67) ?_
              rintro V69 _ hv69 ⟨a68, k68, rfl, h68⟩
              have h70 := SlAt.mono h56 hv69
              have h71 := SlAt.mono h52 hv69
              have h73 := SlAt.mono h60 hv69
              have h74 := SlAt.mono h57 hv69
              refine Exec.run tyOk 400 rfl ?_
              refine Exec.cut 5 [(1, .v (.slice a4 ((x3).length) (k4))), (2, .v (.int .i64 (x5))), (3, .v (.int .i64 (x6))), (4, .ptr 0 0), (8, .ptr 1 0), (10, .ptr 2 0), (12, .v (.int .i64 (x7.1))), (14, .ptr 3 0), (15, .ptr 4 0), (17, .v (.slice a68 ((x67).length) (k68))), (52, .v (.slice a4 ((x3).length) (k4))), (53, .v (.int .i64 ((((x3).length : Nat) : Int)))), (54, .v (.int .i64 (x53)))] (M' := [.blk [.v (.int .i64 (x1.Version)), .v (.slice a2 ((x1.Parts).length) (k2))] 24, .blk [.v (.int .i64 (0)), .v (.slice none (0) (0))] 24, .blk [.v (.int .i64 (0)), .v (.int .i64 (0)), .v (.int .i64 (0)), .v (.string ⟨⟨[]⟩⟩), .v (.string ⟨⟨[]⟩⟩), .v (.slice none (0) (0)), .v (.bool (false))] 34, .blk [.v (.int .i64 ((atI x1.Parts x7.1).Id)), .v (.string ⟨⟨(atI x1.Parts x7.1).From⟩⟩), .v (.int .i64 ((atI x1.Parts x7.1).Node)), .v (.int .i64 ((atI x1.Parts x7.1).Dest)), .v (.string ⟨⟨(atI x1.Parts x7.1).Done⟩⟩)] 56, .blk [.v (.string ⟨⟨(atI x1.Parts x7.1).Done⟩⟩), .v (.string ⟨⟨x10.1.To⟩⟩)] 31]) rfl ⟨rfl, rfl, rfl, rfl, rfl, rfl, rfl, rfl, rfl, rfl, rfl, rfl, rfl, trivial⟩ rfl rfl rfl ?_
              exact Exec.round [(1, .v (.slice a4 ((x3).length) (k4))), (2, .v (.int .i64 (x5))), (3, .v (.int .i64 (x6))), (4, .ptr 0 0), (8, .ptr 1 0), (10, .ptr 2 0), (12, .v (.int .i64 (x7.1))), (14, .ptr 3 0), (15, .ptr 4 0), (17, .v (.slice a68 ((x67).length) (k68))), (52, .v (.slice a4 ((x3).length) (k4))), (53, .v (.int .i64 ((((x3).length : Nat) : Int)))), (54, .v (.int .i64 (x53)))] ⟨rfl, rfl, rfl, rfl, rfl, rfl, rfl, rfl, rfl, rfl, rfl, rfl, rfl, trivial⟩ ⟨x67, a68, k68, rfl, rfl, h68, h70, h74, hF⟩
            · skip
              refine Exec.ifF rfl hb ?_
              refine Exec.run tyOk 400 rfl ?_
              refine Exec.cut 5 [(1, .v (.slice a4 ((x3).length) (k4))), (2, .v (.int .i64 (x5))), (3, .v (.int .i64 (x6))), (4, .ptr 0 0), (8, .ptr 1 0), (10, .ptr 2 0), (12, .v (.int .i64 (x7.1))), (14, .ptr 3 0), (15, .ptr 4 0), (17, .v (.slice a52 ((x51).length) (k52))), (52, .v (.slice a4 ((x3).length) (k4))), (53, .v (.int .i64 ((((x3).length : Nat) : Int)))), (54, .v (.int .i64 (x53)))] (M' := [.blk [.v (.int .i64 (x1.Version)), .v (.slice a2 ((x1.Parts).length) (k2))] 24, .blk [.v (.int .i64 (0)), .v (.slice none (0) (0))] 24, .blk [.v (.int .i64 (0)), .v (.int .i64 (0)), .v (.int .i64 (0)), .v (.string ⟨⟨[]⟩⟩), .v (.string ⟨⟨[]⟩⟩), .v (.slice none (0) (0)), .v (.bool (false))] 34, .blk [.v (.int .i64 ((atI x1.Parts x7.1).Id)), .v (.string ⟨⟨(atI x1.Parts x7.1).From⟩⟩), .v (.int .i64 ((atI x1.Parts x7.1).Node)), .v (.int .i64 ((atI x1.Parts x7.1).Dest)), .v (.string ⟨⟨(atI x1.Parts x7.1).Done⟩⟩)] 56, .blk [.v (.string ⟨⟨(atI x1.Parts x7.1).Done⟩⟩), .v (.string ⟨⟨x10.1.To⟩⟩)] 31]) rfl ⟨rfl, rfl, rfl, rfl, rfl, rfl, rfl, rfl, rfl, rfl, rfl, rfl, rfl, trivial⟩ rfl rfl rfl ?_
              exact Exec.round [(1, .v (.slice a4 ((x3).length) (k4))), (2, .v (.int .i64 (x5))), (3, .v (.int .i64 (x6))), (4, .ptr 0 0), (8, .ptr 1 0), (10, .ptr 2 0), (12, .v (.int .i64 (x7.1))), (14, .ptr 3 0), (15, .ptr 4 0), (17, .v (.slice a52 ((x51).length) (k52))), (52, .v (.slice a4 ((x3).length) (k4))), (53, .v (.int .i64 ((((x3).length : Nat) : Int)))), (54, .v (.int .i64 (x53)))] ⟨rfl, rfl, rfl, rfl, rfl, rfl, rfl, rfl, rfl, rfl, rfl, rfl, rfl, trivial⟩ ⟨x51, a52, k52, rfl, rfl, h52, h56, h57, hF⟩
        · skip
          refine Exec.ifF rfl hb ?_
          refine Exec.run tyOk 400 rfl ?_
          exact Exec.round [(1, .v (.slice a4 ((x3).length) (k4))), (2, .v (.int .i64 (x5))), (3, .v (.int .i64 (x6))), (4, .ptr 0 0), (8, .ptr 1 0), (10, .ptr 2 0), (12, .v (.int .i64 (x7.1))), (14, .ptr 3 0), (15, .ptr 4 0), (17, .v (.slice a52 ((x51).length) (k52)))] ⟨rfl, rfl, rfl, rfl, rfl, rfl, rfl, rfl, rfl, rfl, trivial⟩ ⟨x51, a52, k52, rfl, rfl, h52, h56, h57, hF⟩

def F_migrate_Cancel (x1 : TPlacement) (x3 : List TShard) (x5 : Int) : Option (TPlacement × List TShard × Int) :=
  (bnd (F_migrate_moving x1 x3 x5) fun x6 => (cond (x6.2 != (0 : Int)) (some ((⟨0, ([] : List TPart)⟩ : TPlacement), ([] : List TShard), x6.2)) (req (0 ≤ x6.1 ∧ x6.1 < ((x1.Parts).length : Int)) (bnd (F_migrate_changed x1 x6.1 ((⟨(atI x1.Parts x6.1).Id, (atI x1.Parts x6.1).From, (atI x1.Parts x6.1).Node, (0 : Int), ([] : Str)⟩ : TPart))) fun x9 => (bnd (F_migrate_moved x9 x3) fun x15 => (some (x9, x15, (0 : Int))))))))

set_option maxRecDepth 100000 in
theorem W_migrate_Cancel {V : View} (x1 : TPlacement) (x3 : List TShard) (x5 : Int) {a2 : Option Addr} {k2 : Nat} {a4 : Option Addr} {k4 : Nat} (h2 : SlAt cTPart V a2 k2 x1.Parts) (h4 : SlAt cTShard V a4 k4 x3) {r : TPlacement × List TShard × Int} (hF : F_migrate_Cancel x1 x3 x5 = some r) :
    Spec Tryz.prog 13 [.agg ⟨[.int .i64 (x1.Version), .slice a2 ((x1.Parts).length) (k2)]⟩, .slice a4 ((x3).length) (k4), .int .i64 (x5)] V (fun V' v => ∃ (a22 : Option Addr) (k22 : Nat) (a23 : Option Addr) (k23 : Nat), v = .tuple ⟨[.agg ⟨[.int .i64 (r.1.Version), .slice a22 ((r.1.Parts).length) (k22)]⟩, .slice a23 ((r.2.1).length) (k23), .int .i64 (r.2.2)]⟩ ∧ SlAt cTPart V' a22 k22 r.1.Parts ∧ SlAt cTShard V' a23 k23 r.2.1) := by
  unfold F_migrate_Cancel at hF
  refine Spec.enter (T := tyT) Tryz.func13 rfl (by kernel_rfl) rfl rfl rfl ?_
  refine Exec.run tyOk 400 rfl ?_
  obtain ⟨x6, hx6, hF⟩ := bnd_some hF
  refine Exec.callS (.tuple ⟨[.int .i64 (x6.1), .int .i64 (x6.2)]⟩) rfl rfl (W_migrate_moving x1 x3 x5 h2 h4 hx6) ?_
  refine Exec.run tyOk 400 rfl ?_
  rcases cond_some hF with ⟨hb, hF⟩ | ⟨hb, hF⟩
  · skip
    refine Exec.ifT rfl hb ?_
    refine Exec.run tyOk 400 rfl ?_
    obtain rfl := some_inj hF
    exact Exec.ret tyOk rfl rfl ⟨_, _, _, _, rfl, SlAt.nil, SlAt.nil⟩
  · skip
    refine Exec.ifF rfl hb ?_
    refine Exec.run tyOk 400 rfl ?_
    obtain ⟨q7, hF⟩ := req_some hF
    obtain ⟨c8, hr8, hd8⟩ := SlAt.get h2 q7
    obtain rfl := hr8
    refine Exec.ia tyOk rfl rfl ⟨q7.1, q7.2, hd8.some⟩ ?_
    refine Exec.run tyOk 400 rfl ?_
    refine Exec.ld tyOk (x := .agg ⟨[.int .i64 ((atI x1.Parts x6.1).Id), .string ⟨⟨(atI x1.Parts x6.1).From⟩⟩, .int .i64 ((atI x1.Parts x6.1).Node), .int .i64 ((atI x1.Parts x6.1).Dest), .string ⟨⟨(atI x1.Parts x6.1).Done⟩⟩]⟩) rfl rfl hd8 rfl rfl ?_
    refine Exec.run tyOk 400 rfl ?_
    obtain ⟨x9, hx9, hF⟩ := bnd_some hF
    refine Exec.call rfl rfl (W_migrate_changed x1 x6.1 ((⟨(atI x1.Parts x6.1).Id, (atI x1.Parts x6.1).From, (atI x1.Parts x6.1).Node, (0 : Int), ([] : Str)⟩ : TPart)) h2 hx9) ?_
    rintro V11 _ hv11 ⟨a10, k10, rfl, h10⟩
    have h12 := SlAt.mono h2 hv11
    have h13 := SlAt.mono h4 hv11
    refine Exec.run tyOk 400 rfl ?_
    refine Exec.draws tyOk [(0, true), (1, true), (2, true), (3, false), (4, false), (5, false), (6, false)] rfl (by kernel_rfl) ?_
    refine Exec.run tyOk 400 rfl ?_
    obtain ⟨x15, hx15, hF⟩ := bnd_some hF
    refine Exec.call rfl rfl (W_migrate_moved x9 x3 h10 h13 hx15) ?_
    rintro V17 _ hv17 ⟨a16, k16, rfl, h16⟩
    have h18 := SlAt.mono h12 hv17
    have h19 := SlAt.mono h13 hv17
    have h21 := SlAt.mono h10 hv17
    refine Exec.run tyOk 400 rfl ?_
    obtain rfl := some_inj hF
    exact Exec.ret tyOk rfl rfl ⟨_, _, _, _, rfl, h21, h16⟩

def F_clockworklaw33_works  : Option Bool :=
  (bnd (F_migrate_Start ((⟨0, ([(⟨(1 : Int), [], (1 : Int), 0, []⟩ : TPart)] : List TPart)⟩ : TPlacement)) ((1 : Int)) ((2 : Int))) fun x2 => (bnd (F_clockworklaw33_pair (([97] : Str))) fun x6 => (bnd (F_clockworklaw33_pair (([98] : Str))) fun x7 => (bnd (F_clockworklaw33_pair (([99] : Str))) fun x8 => (bnd (F_migrate_Chunk x2.1 (([(⟨(1 : Int), ([x6, x7, x8] : List TPair)⟩ : TShard), (⟨(2 : Int), ([] : List TPair)⟩ : TShard)] : List TShard)) ((1 : Int)) ((2 : Int))) fun x16 => (cond (((((x2.2 != (0 : Int)) || (x16.2.2.2 != (0 : Int))) || ((((x2.1.Parts).length : Nat) : Int) != (1 : Int))) || ((((x16.1.Parts).length : Nat) : Int) != (1 : Int))) || ((((x16.2.1).length : Nat) : Int) != (2 : Int))) (some false) (bnd (F_migrate_Chunk x16.1 x16.2.1 ((1 : Int)) ((2 : Int))) fun x25 => (bnd (F_migrate_Cancel x16.1 x16.2.1 ((1 : Int))) fun x37 => (cond ((((((x25.2.2.2 != (0 : Int)) || (x37.2.2 != (0 : Int))) || ((((x25.1.Parts).length : Nat) : Int) != (1 : Int))) || ((((x25.2.1).length : Nat) : Int) != (1 : Int))) || ((((x37.1.Parts).length : Nat) : Int) != (1 : Int))) || ((((x37.2.1).length : Nat) : Int) != (1 : Int))) (some false) (bnd (F_migrate_Receive ((⟨(2 : Int), ([] : List TPair)⟩ : TShard)) x16.2.2.1) fun x51 => (req (0 ≤ (0 : Int) ∧ (0 : Int) < ((x2.1.Parts).length : Int)) (req (((((atI x2.1.Parts ((0 : Int))).Dest == (2 : Int))) == true) = true → 0 ≤ (0 : Int) ∧ (0 : Int) < ((x2.1.Parts).length : Int)) (req ((((((atI x2.1.Parts ((0 : Int))).Dest == (2 : Int)) && ((cond ((((atI x2.1.Parts ((0 : Int))).Dest == (2 : Int))) == true) (atI x2.1.Parts ((0 : Int))) default).Done == ([] : Str)))) == true) = true → 0 ≤ (0 : Int) ∧ (0 : Int) < ((x16.1.Parts).length : Int)) (bnd (some (((((atI x2.1.Parts ((0 : Int))).Dest == (2 : Int)) && ((cond ((((atI x2.1.Parts ((0 : Int))).Dest == (2 : Int))) == true) (atI x2.1.Parts ((0 : Int))) default).Done == ([] : Str))) && ((cond (((((atI x2.1.Parts ((0 : Int))).Dest == (2 : Int)) && ((cond ((((atI x2.1.Parts ((0 : Int))).Dest == (2 : Int))) == true) (atI x2.1.Parts ((0 : Int))) default).Done == ([] : Str)))) == true) (atI x16.1.Parts ((0 : Int))) default).Done == ([99] : Str))))) fun x72 => (req (((x72) == true) = true → 0 ≤ (1 : Int) ∧ (1 : Int) < ((x16.2.1).length : Int)) (req (((((((x72 && (((((cond ((x72) == true) (atI x16.2.1 ((1 : Int))) default).Pairs).length : Nat) : Int) == (2 : Int))) && ((x16.2.2.1.Keys.From == []) && ((x16.2.2.1.Keys.To == ([99] : Str)) && true))) && (!x16.2.2.1.Last)) && x25.2.2.1.Last)) == true) = true → 0 ≤ (0 : Int) ∧ (0 : Int) < ((x25.1.Parts).length : Int)) (bnd (some ((((((x72 && (((((cond ((x72) == true) (atI x16.2.1 ((1 : Int))) default).Pairs).length : Nat) : Int) == (2 : Int))) && ((x16.2.2.1.Keys.From == []) && ((x16.2.2.1.Keys.To == ([99] : Str)) && true))) && (!x16.2.2.1.Last)) && x25.2.2.1.Last) && (((cond ((((((x72 && (((((cond ((x72) == true) (atI x16.2.1 ((1 : Int))) default).Pairs).length : Nat) : Int) == (2 : Int))) && ((x16.2.2.1.Keys.From == []) && ((x16.2.2.1.Keys.To == ([99] : Str)) && true))) && (!x16.2.2.1.Last)) && x25.2.2.1.Last)) == true) (atI x25.1.Parts ((0 : Int))) default).Id == (1 : Int)) && (((cond ((((((x72 && (((((cond ((x72) == true) (atI x16.2.1 ((1 : Int))) default).Pairs).length : Nat) : Int) == (2 : Int))) && ((x16.2.2.1.Keys.From == []) && ((x16.2.2.1.Keys.To == ([99] : Str)) && true))) && (!x16.2.2.1.Last)) && x25.2.2.1.Last)) == true) (atI x25.1.Parts ((0 : Int))) default).From == []) && (((cond ((((((x72 && (((((cond ((x72) == true) (atI x16.2.1 ((1 : Int))) default).Pairs).length : Nat) : Int) == (2 : Int))) && ((x16.2.2.1.Keys.From == []) && ((x16.2.2.1.Keys.To == ([99] : Str)) && true))) && (!x16.2.2.1.Last)) && x25.2.2.1.Last)) == true) (atI x25.1.Parts ((0 : Int))) default).Node == (2 : Int)) && (((cond ((((((x72 && (((((cond ((x72) == true) (atI x16.2.1 ((1 : Int))) default).Pairs).length : Nat) : Int) == (2 : Int))) && ((x16.2.2.1.Keys.From == []) && ((x16.2.2.1.Keys.To == ([99] : Str)) && true))) && (!x16.2.2.1.Last)) && x25.2.2.1.Last)) == true) (atI x25.1.Parts ((0 : Int))) default).Dest == 0) && (((cond ((((((x72 && (((((cond ((x72) == true) (atI x16.2.1 ((1 : Int))) default).Pairs).length : Nat) : Int) == (2 : Int))) && ((x16.2.2.1.Keys.From == []) && ((x16.2.2.1.Keys.To == ([99] : Str)) && true))) && (!x16.2.2.1.Last)) && x25.2.2.1.Last)) == true) (atI x25.1.Parts ((0 : Int))) default).Done == []) && true)))))))) fun x78 => (req (((x78) == true) = true → 0 ≤ (0 : Int) ∧ (0 : Int) < ((x25.2.1).length : Int)) (req ((((x78 && (((((cond ((x78) == true) (atI x25.2.1 ((0 : Int))) default).Pairs).length : Nat) : Int) == (3 : Int)))) == true) = true → 0 ≤ (0 : Int) ∧ (0 : Int) < ((x37.1.Parts).length : Int)) (bnd (some (((x78 && (((((cond ((x78) == true) (atI x25.2.1 ((0 : Int))) default).Pairs).length : Nat) : Int) == (3 : Int))) && (((cond (((x78 && (((((cond ((x78) == true) (atI x25.2.1 ((0 : Int))) default).Pairs).length : Nat) : Int) == (3 : Int)))) == true) (atI x37.1.Parts ((0 : Int))) default).Id == (1 : Int)) && (((cond (((x78 && (((((cond ((x78) == true) (atI x25.2.1 ((0 : Int))) default).Pairs).length : Nat) : Int) == (3 : Int)))) == true) (atI x37.1.Parts ((0 : Int))) default).From == []) && (((cond (((x78 && (((((cond ((x78) == true) (atI x25.2.1 ((0 : Int))) default).Pairs).length : Nat) : Int) == (3 : Int)))) == true) (atI x37.1.Parts ((0 : Int))) default).Node == (1 : Int)) && (((cond (((x78 && (((((cond ((x78) == true) (atI x25.2.1 ((0 : Int))) default).Pairs).length : Nat) : Int) == (3 : Int)))) == true) (atI x37.1.Parts ((0 : Int))) default).Dest == 0) && (((cond (((x78 && (((((cond ((x78) == true) (atI x25.2.1 ((0 : Int))) default).Pairs).length : Nat) : Int) == (3 : Int)))) == true) (atI x37.1.Parts ((0 : Int))) default).Done == []) && true)))))))) fun x84 => (req (((x84) == true) = true → 0 ≤ (0 : Int) ∧ (0 : Int) < ((x37.2.1).length : Int)) (req (((((x84 && (((((cond ((x84) == true) (atI x37.2.1 ((0 : Int))) default).Pairs).length : Nat) : Int) == (3 : Int))) && (x51.2 == (0 : Int)))) == true) = true → 0 ≤ (1 : Int) ∧ (1 : Int) < ((x16.2.1).length : Int)) (bnd (gcall ((((x84 && (((((cond ((x84) == true) (atI x37.2.1 ((0 : Int))) default).Pairs).length : Nat) : Int) == (3 : Int))) && (x51.2 == (0 : Int)))) == true) (F_clockworkref06_Same x51.1.Pairs ((cond ((((x84 && (((((cond ((x84) == true) (atI x37.2.1 ((0 : Int))) default).Pairs).length : Nat) : Int) == (3 : Int))) && (x51.2 == (0 : Int)))) == true) (atI x16.2.1 ((1 : Int))) default).Pairs))) fun x91 => (bnd (gcall (((((x84 && (((((cond ((x84) == true) (atI x37.2.1 ((0 : Int))) default).Pairs).length : Nat) : Int) == (3 : Int))) && (x51.2 == (0 : Int))) && x91)) == true) (F_migrate_Moving x16.1)) fun x92 => (bnd (gcall (((((x84 && (((((cond ((x84) == true) (atI x37.2.1 ((0 : Int))) default).Pairs).length : Nat) : Int) == (3 : Int))) && (x51.2 == (0 : Int))) && x91)) == true) (F_clockworkref23_Ints x92 (([(1 : Int)] : List Int)))) fun x272 => (some ((((x84 && (((((cond ((x84) == true) (atI x37.2.1 ((0 : Int))) default).Pairs).length : Nat) : Int) == (3 : Int))) && (x51.2 == (0 : Int))) && x91) && x272)))))))))))))))))))))))))))

set_option maxRecDepth 100000 in
theorem W_clockworklaw33_works {V : View}    {r : Bool} (hF : F_clockworklaw33_works  = some r) :
    Spec Tryz.prog 7 [] V (fun _ v => v = .bool (r)) := by
  unfold F_clockworklaw33_works at hF
  refine Spec.enter (T := tyT) Tryz.func7 rfl (by kernel_rfl) rfl rfl rfl ?_
  refine Exec.run tyOk 400 rfl ?_
  refine Exec.bsV tyOk rfl rfl rfl rfl rfl (fun V1 a1 hv1 hd1 => ?_)
  have h1 : SlAt cTPart V1 (some a1) 1 ([(⟨(1 : Int), [], (1 : Int), 0, []⟩ : TPart)] : List TPart) := RowRep.slat (c := cTPart) (V := V1) (cs := [.int .i64 ((1 : Int)), .string ⟨⟨[]⟩⟩, .int .i64 ((1 : Int)), .int .i64 (0), .string ⟨⟨[]⟩⟩]) ⟨_, _, rfl, rfl, rfl⟩ (VLe.refl _) (fun _ => hd1) (by simp)
  refine Exec.run tyOk 400 rfl ?_
  obtain ⟨x2, hx2, hF⟩ := bnd_some hF
  refine Exec.call rfl rfl (W_migrate_Start ((⟨0, ([(⟨(1 : Int), [], (1 : Int), 0, []⟩ : TPart)] : List TPart)⟩ : TPlacement)) ((1 : Int)) ((2 : Int)) h1 hx2) ?_
  rintro V4 _ hv4 ⟨a3, k3, rfl, h3⟩
  have h5 := SlAt.mono h1 hv4
  refine Exec.run tyOk 400 rfl ?_
  obtain ⟨x6, hx6, hF⟩ := bnd_some hF
  refine Exec.callS (.agg ⟨[.string ⟨⟨x6.Key⟩⟩, .int .i64 (x6.Val.Kind), .int .i64 (x6.Val.N), .string ⟨⟨x6.Val.S⟩⟩]⟩) rfl rfl (W_clockworklaw33_pair (([97] : Str))  hx6) ?_
  refine Exec.run tyOk 400 rfl ?_
  obtain ⟨x7, hx7, hF⟩ := bnd_some hF
  refine Exec.callS (.agg ⟨[.string ⟨⟨x7.Key⟩⟩, .int .i64 (x7.Val.Kind), .int .i64 (x7.Val.N), .string ⟨⟨x7.Val.S⟩⟩]⟩) rfl rfl (W_clockworklaw33_pair (([98] : Str))  hx7) ?_
  refine Exec.run tyOk 400 rfl ?_
  obtain ⟨x8, hx8, hF⟩ := bnd_some hF
  refine Exec.callS (.agg ⟨[.string ⟨⟨x8.Key⟩⟩, .int .i64 (x8.Val.Kind), .int .i64 (x8.Val.N), .string ⟨⟨x8.Val.S⟩⟩]⟩) rfl rfl (W_clockworklaw33_pair (([99] : Str))  hx8) ?_
  refine Exec.run tyOk 400 rfl ?_
  refine Exec.bsV tyOk rfl rfl rfl rfl rfl (fun V9 a9 hv9 hd9 => ?_)
  have h10 := SlAt.mono h5 hv9
  have h11 := SlAt.mono h3 hv9
  have h9 : SlAt cTPair V9 (some a9) 3 ([x6, x7, x8] : List TPair) := RowRep.slat (c := cTPair) (V := V9) (cs := [.string ⟨⟨x6.Key⟩⟩, .int .i64 (x6.Val.Kind), .int .i64 (x6.Val.N), .string ⟨⟨x6.Val.S⟩⟩, .string ⟨⟨x7.Key⟩⟩, .int .i64 (x7.Val.Kind), .int .i64 (x7.Val.N), .string ⟨⟨x7.Val.S⟩⟩, .string ⟨⟨x8.Key⟩⟩, .int .i64 (x8.Val.Kind), .int .i64 (x8.Val.N), .string ⟨⟨x8.Val.S⟩⟩]) ⟨_, _, rfl, rfl, ⟨_, _, rfl, rfl, ⟨_, _, rfl, rfl, rfl⟩⟩⟩ (VLe.refl _) (fun _ => hd9) (by simp)
  refine Exec.run tyOk 400 rfl ?_
  refine Exec.bsV tyOk rfl rfl rfl rfl rfl (fun V12 a12 hv12 hd12 => ?_)
  have h13 := SlAt.mono h10 hv12
  have h14 := SlAt.mono h11 hv12
  have h15 := SlAt.mono h9 hv12
  have h12 : SlAt cTShard V12 (some a12) 2 ([(⟨(1 : Int), ([x6, x7, x8] : List TPair)⟩ : TShard), (⟨(2 : Int), ([] : List TPair)⟩ : TShard)] : List TShard) := RowRep.slat (c := cTShard) (V := V12) (cs := [.int .i64 ((1 : Int)), .slice ((some a9)) (3) (3), .int .i64 ((2 : Int)), .slice none (0) (0)]) ⟨_, _, rfl, ⟨_, _, rfl, (SlAt.mono h9 hv12)⟩, ⟨_, _, rfl, ⟨_, _, rfl, SlAt.nil⟩, rfl⟩⟩ (VLe.refl _) (fun _ => hd12) (by simp)
  refine Exec.run tyOk 400 rfl ?_
  obtain ⟨x16, hx16, hF⟩ := bnd_some hF
  refine Exec.call rfl rfl (W_migrate_Chunk x2.1 (([(⟨(1 : Int), ([x6, x7, x8] : List TPair)⟩ : TShard), (⟨(2 : Int), ([] : List TPair)⟩ : TShard)] : List TShard)) ((1 : Int)) ((2 : Int)) h14 h12 hx16) ?_
  rintro V20 _ hv20 ⟨a17, k17, a18, k18, a19, k19, rfl, h17, h18, h19⟩
  have h21 := SlAt.mono h12 hv20
  have h22 := SlAt.mono h13 hv20
  have h23 := SlAt.mono h14 hv20
  have h24 := SlAt.mono h15 hv20
  refine Exec.run tyOk 400 rfl ?_
  rcases cond_some hF with ⟨hb, hF⟩ | ⟨hb, hF⟩
  · skip
    refine Exec.ifT rfl hb ?_
    refine Exec.run tyOk 400 rfl ?_
    obtain rfl := some_inj hF
    exact Exec.ret tyOk rfl rfl rfl
  · skip
    refine Exec.ifF rfl hb ?_
    refine Exec.run tyOk 400 rfl ?_
    obtain ⟨x25, hx25, hF⟩ := bnd_some hF
    refine Exec.call rfl rfl (W_migrate_Chunk x16.1 x16.2.1 ((1 : Int)) ((2 : Int)) h17 h18 hx25) ?_
    rintro V29 _ hv29 ⟨a26, k26, a27, k27, a28, k28, rfl, h26, h27, h28⟩
    have h30 := SlAt.mono h21 hv29
    have h31 := SlAt.mono h18 hv29
    have h32 := SlAt.mono h22 hv29
    have h33 := SlAt.mono h23 hv29
    have h34 := SlAt.mono h24 hv29
    have h35 := SlAt.mono h17 hv29
    have h36 := SlAt.mono h19 hv29
    refine Exec.run tyOk 400 rfl ?_
    obtain ⟨x37, hx37, hF⟩ := bnd_some hF
    refine Exec.call rfl rfl (W_migrate_Cancel x16.1 x16.2.1 ((1 : Int)) h35 h31 hx37) ?_
    rintro V40 _ hv40 ⟨a38, k38, a39, k39, rfl, h38, h39⟩
    have h41 := SlAt.mono h30 hv40
    have h42 := SlAt.mono h31 hv40
    have h43 := SlAt.mono h27 hv40
    have h44 := SlAt.mono h32 hv40
    have h45 := SlAt.mono h33 hv40
    have h46 := SlAt.mono h34 hv40
    have h47 := SlAt.mono h35 hv40
    have h48 := SlAt.mono h36 hv40
    have h49 := SlAt.mono h26 hv40
    have h50 := SlAt.mono h28 hv40
    refine Exec.run tyOk 400 rfl ?_
    rcases cond_some hF with ⟨hb, hF⟩ | ⟨hb, hF⟩
    · skip
      refine Exec.ifT rfl hb ?_
      refine Exec.run tyOk 400 rfl ?_
      obtain rfl := some_inj hF
      exact Exec.ret tyOk rfl rfl rfl
    · skip
      refine Exec.ifF rfl hb ?_
      refine Exec.run tyOk 400 rfl ?_
      obtain ⟨x51, hx51, hF⟩ := bnd_some hF
      refine Exec.call rfl rfl (W_migrate_Receive ((⟨(2 : Int), ([] : List TPair)⟩ : TShard)) x16.2.2.1 SlAt.nil h48 hx51) ?_
      rintro V53 _ hv53 ⟨a52, k52, rfl, h52⟩
      have h54 := SlAt.mono h41 hv53
      have h55 := SlAt.mono h42 hv53
      have h56 := SlAt.mono h43 hv53
      have h57 := SlAt.mono h39 hv53
      have h58 := SlAt.mono h44 hv53
      have h59 := SlAt.mono h45 hv53
      have h60 := SlAt.mono h46 hv53
      have h61 := SlAt.mono h47 hv53
      have h62 := SlAt.mono h48 hv53
      have h63 := SlAt.mono h49 hv53
      have h64 := SlAt.mono h50 hv53
      have h65 := SlAt.mono h38 hv53
      refine Exec.run tyOk 400 rfl ?_
      refine Exec.draws tyOk [(0, true), (1, true), (2, true), (3, true), (4, true), (5, true), (6, true), (7, true), (8, true), (9, true), (10, true), (11, true), (12, true), (13, true), (14, true), (15, true), (16, true), (17, true), (18, true), (19, true), (20, true), (21, true), (22, true), (23, true), (24, true), (25, true), (26, true), (27, true), (28, true), (29, true), (30, true), (31, true), (32, true), (33, true), (34, true), (35, true), (36, true), (37, true), (38, true), (39, true), (40, true), (41, true), (42, true), (43, true), (44, true), (45, true), (46, true), (47, true), (48, true), (49, true), (50, true), (51, true), (52, true), (53, true), (54, true), (55, true), (56, true), (57, true), (58, true), (59, true), (60, true), (61, true), (62, true), (63, true), (64, true), (65, true), (66, true), (67, true), (68, true), (69, true), (70, true), (71, true), (72, true), (73, true), (74, true), (75, true), (76, true), (77, true), (78, true), (79, true), (80, true), (81, true), (82, true), (83, true), (84, true), (85, true), (86, true), (87, true), (88, false), (89, false), (90, false), (91, true)] rfl (by kernel_rfl) ?_
      refine Exec.run tyOk 400 rfl ?_
      obtain ⟨q66, hF⟩ := req_some hF
      obtain ⟨c67, hr67, hd67⟩ := SlAt.get h59 q66
      obtain rfl := hr67
      refine Exec.fia tyOk rfl rfl rfl ⟨q66.1, q66.2, hd67.some⟩ ?_
      refine Exec.run tyOk 400 rfl ?_
      refine Exec.fld tyOk (x := .int .i64 ((atI x2.1.Parts ((0 : Int))).Dest)) rfl rfl rfl (RdAt.part hd67 3 1 rfl) rfl rfl ?_
      refine Exec.run tyOk 400 rfl ?_
      obtain ⟨q68, hF⟩ := req_some hF
      obtain ⟨c69, hr69, hd69⟩ := SlAt.gget ((((atI x2.1.Parts ((0 : Int))).Dest == (2 : Int))) == true) h59 q68
      obtain rfl := hr69
      refine Exec.fia tyOk rfl rfl rfl (fun gg0 => ⟨(q68 (gd1_of gg0)).1, (q68 (gd1_of gg0)).2, (hd69 (gd1_of gg0)).some⟩) ?_
      refine Exec.run tyOk 400 rfl ?_
      refine Exec.fld tyOk (x := .string ⟨⟨(cond ((((atI x2.1.Parts ((0 : Int))).Dest == (2 : Int))) == true) (atI x2.1.Parts ((0 : Int))) default).Done⟩⟩) rfl rfl rfl (fun gg0 => (RdAt.part (hd69 (gd1_of gg0)) 4 1 rfl)) rfl rfl ?_
      refine Exec.run tyOk 400 rfl ?_
      obtain ⟨q70, hF⟩ := req_some hF
      obtain ⟨c71, hr71, hd71⟩ := SlAt.gget (((((atI x2.1.Parts ((0 : Int))).Dest == (2 : Int)) && ((cond ((((atI x2.1.Parts ((0 : Int))).Dest == (2 : Int))) == true) (atI x2.1.Parts ((0 : Int))) default).Done == ([] : Str)))) == true) h61 q70
      obtain rfl := hr71
      refine Exec.fia tyOk rfl rfl rfl (fun gg0 => ⟨(q70 (gd1_of gg0)).1, (q70 (gd1_of gg0)).2, (hd71 (gd1_of gg0)).some⟩) ?_
      refine Exec.run tyOk 400 rfl ?_
      refine Exec.fld tyOk (x := .string ⟨⟨(cond (((((atI x2.1.Parts ((0 : Int))).Dest == (2 : Int)) && ((cond ((((atI x2.1.Parts ((0 : Int))).Dest == (2 : Int))) == true) (atI x2.1.Parts ((0 : Int))) default).Done == ([] : Str)))) == true) (atI x16.1.Parts ((0 : Int))) default).Done⟩⟩) rfl rfl rfl (fun gg0 => (RdAt.part (hd71 (gd1_of gg0)) 4 1 rfl)) rfl rfl ?_
      refine Exec.run tyOk 2 rfl ?_
      obtain ⟨x72, hx72, hF⟩ := bnd_some hF
      refine Exec.nameD (some_inj hx72) 134 rfl rfl rfl rfl ?_
      refine Exec.run tyOk 400 rfl ?_
      obtain ⟨q73, hF⟩ := req_some hF
      obtain ⟨c74, hr74, hd74⟩ := SlAt.gget ((x72) == true) h55 q73
      obtain ⟨a75, k75, rfl, h75⟩ := hr74
      refine Exec.fia tyOk rfl rfl rfl (fun gg0 => ⟨(q73 (gd1_of gg0)).1, (q73 (gd1_of gg0)).2, (hd74 (gd1_of gg0)).some⟩) ?_
      refine Exec.run tyOk 400 rfl ?_
      refine Exec.fld tyOk (x := .slice a75 (((cond ((x72) == true) (atI x16.2.1 ((1 : Int))) default).Pairs).length) (k75)) rfl rfl rfl (fun gg0 => (RdAt.part (hd74 (gd1_of gg0)) 1 1 rfl)) rfl rfl ?_
      refine Exec.run tyOk 400 rfl ?_
      obtain ⟨q76, hF⟩ := req_some hF
      obtain ⟨c77, hr77, hd77⟩ := SlAt.gget ((((((x72 && (((((cond ((x72) == true) (atI x16.2.1 ((1 : Int))) default).Pairs).length : Nat) : Int) == (2 : Int))) && ((x16.2.2.1.Keys.From == []) && ((x16.2.2.1.Keys.To == ([99] : Str)) && true))) && (!x16.2.2.1.Last)) && x25.2.2.1.Last)) == true) h63 q76
      obtain rfl := hr77
      refine Exec.fia tyOk rfl rfl rfl (fun gg0 => ⟨(q76 (gd1_of gg0)).1, (q76 (gd1_of gg0)).2, (hd77 (gd1_of gg0)).some⟩) ?_
      refine Exec.run tyOk 400 rfl ?_
      refine Exec.fld tyOk (x := .agg ⟨[.int .i64 ((cond ((((((x72 && (((((cond ((x72) == true) (atI x16.2.1 ((1 : Int))) default).Pairs).length : Nat) : Int) == (2 : Int))) && ((x16.2.2.1.Keys.From == []) && ((x16.2.2.1.Keys.To == ([99] : Str)) && true))) && (!x16.2.2.1.Last)) && x25.2.2.1.Last)) == true) (atI x25.1.Parts ((0 : Int))) default).Id), .string ⟨⟨(cond ((((((x72 && (((((cond ((x72) == true) (atI x16.2.1 ((1 : Int))) default).Pairs).length : Nat) : Int) == (2 : Int))) && ((x16.2.2.1.Keys.From == []) && ((x16.2.2.1.Keys.To == ([99] : Str)) && true))) && (!x16.2.2.1.Last)) && x25.2.2.1.Last)) == true) (atI x25.1.Parts ((0 : Int))) default).From⟩⟩, .int .i64 ((cond ((((((x72 && (((((cond ((x72) == true) (atI x16.2.1 ((1 : Int))) default).Pairs).length : Nat) : Int) == (2 : Int))) && ((x16.2.2.1.Keys.From == []) && ((x16.2.2.1.Keys.To == ([99] : Str)) && true))) && (!x16.2.2.1.Last)) && x25.2.2.1.Last)) == true) (atI x25.1.Parts ((0 : Int))) default).Node), .int .i64 ((cond ((((((x72 && (((((cond ((x72) == true) (atI x16.2.1 ((1 : Int))) default).Pairs).length : Nat) : Int) == (2 : Int))) && ((x16.2.2.1.Keys.From == []) && ((x16.2.2.1.Keys.To == ([99] : Str)) && true))) && (!x16.2.2.1.Last)) && x25.2.2.1.Last)) == true) (atI x25.1.Parts ((0 : Int))) default).Dest), .string ⟨⟨(cond ((((((x72 && (((((cond ((x72) == true) (atI x16.2.1 ((1 : Int))) default).Pairs).length : Nat) : Int) == (2 : Int))) && ((x16.2.2.1.Keys.From == []) && ((x16.2.2.1.Keys.To == ([99] : Str)) && true))) && (!x16.2.2.1.Last)) && x25.2.2.1.Last)) == true) (atI x25.1.Parts ((0 : Int))) default).Done⟩⟩]⟩) rfl rfl rfl (fun gg0 => (hd77 (gd1_of gg0))) rfl rfl ?_
      refine Exec.run tyOk 3 rfl ?_
      obtain ⟨x78, hx78, hF⟩ := bnd_some hF
      refine Exec.nameD (some_inj hx78) 165 rfl rfl rfl rfl ?_
      refine Exec.run tyOk 400 rfl ?_
      obtain ⟨q79, hF⟩ := req_some hF
      obtain ⟨c80, hr80, hd80⟩ := SlAt.gget ((x78) == true) h56 q79
      obtain ⟨a81, k81, rfl, h81⟩ := hr80
      refine Exec.fia tyOk rfl rfl rfl (fun gg0 => ⟨(q79 (gd1_of gg0)).1, (q79 (gd1_of gg0)).2, (hd80 (gd1_of gg0)).some⟩) ?_
      refine Exec.run tyOk 400 rfl ?_
      refine Exec.fld tyOk (x := .slice a81 (((cond ((x78) == true) (atI x25.2.1 ((0 : Int))) default).Pairs).length) (k81)) rfl rfl rfl (fun gg0 => (RdAt.part (hd80 (gd1_of gg0)) 1 1 rfl)) rfl rfl ?_
      refine Exec.run tyOk 400 rfl ?_
      obtain ⟨q82, hF⟩ := req_some hF
      obtain ⟨c83, hr83, hd83⟩ := SlAt.gget (((x78 && (((((cond ((x78) == true) (atI x25.2.1 ((0 : Int))) default).Pairs).length : Nat) : Int) == (3 : Int)))) == true) h65 q82
      obtain rfl := hr83
      refine Exec.fia tyOk rfl rfl rfl (fun gg0 => ⟨(q82 (gd1_of gg0)).1, (q82 (gd1_of gg0)).2, (hd83 (gd1_of gg0)).some⟩) ?_
      refine Exec.run tyOk 400 rfl ?_
      refine Exec.fld tyOk (x := .agg ⟨[.int .i64 ((cond (((x78 && (((((cond ((x78) == true) (atI x25.2.1 ((0 : Int))) default).Pairs).length : Nat) : Int) == (3 : Int)))) == true) (atI x37.1.Parts ((0 : Int))) default).Id), .string ⟨⟨(cond (((x78 && (((((cond ((x78) == true) (atI x25.2.1 ((0 : Int))) default).Pairs).length : Nat) : Int) == (3 : Int)))) == true) (atI x37.1.Parts ((0 : Int))) default).From⟩⟩, .int .i64 ((cond (((x78 && (((((cond ((x78) == true) (atI x25.2.1 ((0 : Int))) default).Pairs).length : Nat) : Int) == (3 : Int)))) == true) (atI x37.1.Parts ((0 : Int))) default).Node), .int .i64 ((cond (((x78 && (((((cond ((x78) == true) (atI x25.2.1 ((0 : Int))) default).Pairs).length : Nat) : Int) == (3 : Int)))) == true) (atI x37.1.Parts ((0 : Int))) default).Dest), .string ⟨⟨(cond (((x78 && (((((cond ((x78) == true) (atI x25.2.1 ((0 : Int))) default).Pairs).length : Nat) : Int) == (3 : Int)))) == true) (atI x37.1.Parts ((0 : Int))) default).Done⟩⟩]⟩) rfl rfl rfl (fun gg0 => (hd83 (gd1_of gg0))) rfl rfl ?_
      refine Exec.run tyOk 3 rfl ?_
      obtain ⟨x84, hx84, hF⟩ := bnd_some hF
      refine Exec.nameD (some_inj hx84) 181 rfl rfl rfl rfl ?_
      refine Exec.run tyOk 400 rfl ?_
      obtain ⟨q85, hF⟩ := req_some hF
      obtain ⟨c86, hr86, hd86⟩ := SlAt.gget ((x84) == true) h57 q85
      obtain ⟨a87, k87, rfl, h87⟩ := hr86
      refine Exec.fia tyOk rfl rfl rfl (fun gg0 => ⟨(q85 (gd1_of gg0)).1, (q85 (gd1_of gg0)).2, (hd86 (gd1_of gg0)).some⟩) ?_
      refine Exec.run tyOk 400 rfl ?_
      refine Exec.fld tyOk (x := .slice a87 (((cond ((x84) == true) (atI x37.2.1 ((0 : Int))) default).Pairs).length) (k87)) rfl rfl rfl (fun gg0 => (RdAt.part (hd86 (gd1_of gg0)) 1 1 rfl)) rfl rfl ?_
      refine Exec.run tyOk 400 rfl ?_
      obtain ⟨q88, hF⟩ := req_some hF
      obtain ⟨c89, hr89, hd89⟩ := SlAt.gget ((((x84 && (((((cond ((x84) == true) (atI x37.2.1 ((0 : Int))) default).Pairs).length : Nat) : Int) == (3 : Int))) && (x51.2 == (0 : Int)))) == true) h55 q88
      obtain ⟨a90, k90, rfl, h90⟩ := hr89
      refine Exec.fia tyOk rfl rfl rfl (fun gg0 => ⟨(q88 (gd1_of gg0)).1, (q88 (gd1_of gg0)).2, (hd89 (gd1_of gg0)).some⟩) ?_
      refine Exec.run tyOk 400 rfl ?_
      refine Exec.fld tyOk (x := .slice a90 (((cond ((((x84 && (((((cond ((x84) == true) (atI x37.2.1 ((0 : Int))) default).Pairs).length : Nat) : Int) == (3 : Int))) && (x51.2 == (0 : Int)))) == true) (atI x16.2.1 ((1 : Int))) default).Pairs).length) (k90)) rfl rfl rfl (fun gg0 => (RdAt.part (hd89 (gd1_of gg0)) 1 1 rfl)) rfl rfl ?_
      refine Exec.run tyOk 400 rfl ?_
      obtain ⟨x91, hx91, hF⟩ := bnd_some hF
      refine Exec.callS (.bool (x91)) rfl rfl (fun gg0 => W_clockworkref06_Same x51.1.Pairs ((cond ((((x84 && (((((cond ((x84) == true) (atI x37.2.1 ((0 : Int))) default).Pairs).length : Nat) : Int) == (3 : Int))) && (x51.2 == (0 : Int)))) == true) (atI x16.2.1 ((1 : Int))) default).Pairs) h52 h90 (gcall_some hx91 (gd1_of gg0))) ?_
      refine Exec.run tyOk 400 rfl ?_
      obtain ⟨x92, hx92, hF⟩ := bnd_some hF
      refine Exec.fork2 92 93 [(93, false)] [(92, false)] [(94, false), (95, false), (96, false)] (fun lr' L' V' M' => ∃ (a93 : Option Addr) (k93 : Nat) (a121 : Addr), lr' = [⟨202, [], .v (.bool ((((x84 && (((((cond ((x84) == true) (atI x37.2.1 ((0 : Int))) default).Pairs).length : Nat) : Int) == (3 : Int))) && (x51.2 == (0 : Int))) && x91))), 202⟩, ⟨203, [], .v (.bool ((((x84 && (((((cond ((x84) == true) (atI x37.2.1 ((0 : Int))) default).Pairs).length : Nat) : Int) == (3 : Int))) && (x51.2 == (0 : Int))) && x91))), 202⟩, ⟨205, [(202, true)], .v (.slice a93 ((x92).length) (k93)), 205⟩, ⟨206, [(202, true)], .v (.slice ((some a121)) (1) (1)), 206⟩] ∧ L' = [(0, .v (.bool (false))), (203, .v (.bool ((((x84 && (((((cond ((x84) == true) (atI x37.2.1 ((0 : Int))) default).Pairs).length : Nat) : Int) == (3 : Int))) && (x51.2 == (0 : Int))) && x91))))] ∧ M' = [.unk, .blk [.v (.int .i64 (0)), .v (.slice ((some a1)) (1) (1))] 24, .blk [.v (.int .i64 (x2.1.Version)), .v (.slice a3 ((x2.1.Parts).length) (k3))] 24, .unk, .unk, .blk [.v (.int .i64 (x16.1.Version)), .v (.slice a17 ((x16.1.Parts).length) (k17))] 24, .blk [.v (.int .i64 (x16.2.2.1.Part)), .v (.int .i64 (x16.2.2.1.From)), .v (.int .i64 (x16.2.2.1.To)), .v (.string ⟨⟨x16.2.2.1.Keys.From⟩⟩), .v (.string ⟨⟨x16.2.2.1.Keys.To⟩⟩), .v (.slice a19 ((x16.2.2.1.Pairs).length) (k19)), .v (.bool (x16.2.2.1.Last))] 34, .blk [.v (.int .i64 (x25.1.Version)), .v (.slice a26 ((x25.1.Parts).length) (k26))] 24, .blk [.v (.int .i64 (x25.2.2.1.Part)), .v (.int .i64 (x25.2.2.1.From)), .v (.int .i64 (x25.2.2.1.To)), .v (.string ⟨⟨x25.2.2.1.Keys.From⟩⟩), .v (.string ⟨⟨x25.2.2.1.Keys.To⟩⟩), .v (.slice a28 ((x25.2.2.1.Pairs).length) (k28)), .v (.bool (x25.2.2.1.Last))] 34, .blk [.v (.int .i64 (x37.1.Version)), .v (.slice a38 ((x37.1.Parts).length) (k38))] 24, .blk [.v (.int .i64 (x51.1.Node)), .v (.slice a52 ((x51.1.Pairs).length) (k52))] 60, .unk] ∧ SlAt (cInt .i64) V' a93 k93 x92 ∧ (((((x84 && (((((cond ((x84) == true) (atI x37.2.1 ((0 : Int))) default).Pairs).length : Nat) : Int) == (3 : Int))) && (x51.2 == (0 : Int))) && x91)) = true → SlAt (cInt .i64) V' ((some a121)) 1 (([(1 : Int)] : List Int))) ∧ SlAt cTPart V' ((some a1)) 1 (([(⟨(1 : Int), [], (1 : Int), 0, []⟩ : TPart)] : List TPart)) ∧ SlAt cTPart V' a3 k3 x2.1.Parts ∧ SlAt cTPart V' a17 k17 x16.1.Parts ∧ SlAt cTPair V' a19 k19 x16.2.2.1.Pairs ∧ SlAt cTPart V' a26 k26 x25.1.Parts ∧ SlAt cTPair V' a28 k28 x25.2.2.1.Pairs ∧ SlAt cTPart V' a38 k38 x37.1.Parts ∧ SlAt cTPair V' a52 k52 x51.1.Pairs) 3 [true, true, true, true, true, true, true, true, true, true, true, true, true, true, true, true, true, true, true, true, true, true, true, true, true, true, true, true, true, true, true, true, true, true, true, true, true, true, true, true, true, true, true, true, true, true, true, true, true, true, true, true, true, true, true, true, true, true, true, true, true, true, true, true, true, true, true, true, true, true, true, true, true, true, true, true, true, true, true, true, true, true, true, true, true, true, true, true, true, true, true, true, true, true, false, false, false] rfl (by kernel_rfl) rfl rfl (by kernel_rfl) (by kernel_rfl) (by kernel_rfl) (by kernel_rfl) (fun join => ?_) (fun join => ?_) ?_
      · skip
        refine Exec.run tyOk 400 rfl ?_
        refine Exec.callG (fun y : Option Addr × Nat => .slice y.1 ((x92).length) (y.2)) (none, 0) (R := fun V' y => SlAt (cInt .i64) V' y.1 y.2 x92) rfl rfl rfl (fun gg0 => (W_migrate_Moving x16.1 h61 (gcall_some hx92 (gd1_of gg0))).mono (fun V' _ _ ⟨a149, k149, e1, h149⟩ => ⟨⟨a149, k149⟩, e1, h149⟩)) ?_
        rintro V150 ⟨a149, k149⟩ hv150 hg150
        have h149 : SlAt (cInt .i64) V150 a149 k149 x92 := gslat1 hx92 (fun gg0 => (hg150 gg0))
        have h151 := SlAt.mono h54 hv150
        have h152 := SlAt.mono h55 hv150
        have h153 := SlAt.mono h56 hv150
        have h154 := SlAt.mono h57 hv150
        have h155 := SlAt.mono h58 hv150
        have h156 := SlAt.mono h59 hv150
        have h157 := SlAt.mono h60 hv150
        have h158 := SlAt.mono h61 hv150
        have h159 := SlAt.mono h62 hv150
        have h160 := SlAt.mono h63 hv150
        have h161 := SlAt.mono h64 hv150
        have h162 := SlAt.mono h65 hv150
        have h163 := SlAt.mono h52 hv150
        have h168 := SlAt.mono h75 hv150
        have h171 := SlAt.mono h81 hv150
        have h174 := SlAt.mono h87 hv150
        have h176 := SlAt.mono h90 hv150
        refine Exec.run tyOk 400 rfl ?_
        refine Exec.gbsV tyOk rfl rfl rfl rfl (fun V177 a177 hv177 hg177 => ?_) rfl
        have h178 := SlAt.mono h151 hv177
        have h179 := SlAt.mono h152 hv177
        have h180 := SlAt.mono h153 hv177
        have h181 := SlAt.mono h154 hv177
        have h182 := SlAt.mono h155 hv177
        have h183 := SlAt.mono h156 hv177
        have h184 := SlAt.mono h157 hv177
        have h185 := SlAt.mono h158 hv177
        have h186 := SlAt.mono h159 hv177
        have h187 := SlAt.mono h160 hv177
        have h188 := SlAt.mono h161 hv177
        have h189 := SlAt.mono h162 hv177
        have h190 := SlAt.mono h163 hv177
        have h195 := SlAt.mono h168 hv177
        have h198 := SlAt.mono h171 hv177
        have h201 := SlAt.mono h174 hv177
        have h203 := SlAt.mono h176 hv177
        have h204 := SlAt.mono h149 hv177
        have h177 : ((((x84 && (((((cond ((x84) == true) (atI x37.2.1 ((0 : Int))) default).Pairs).length : Nat) : Int) == (3 : Int))) && (x51.2 == (0 : Int))) && x91)) = true → SlAt (cInt .i64) V177 ((some a177)) 1 (([(1 : Int)] : List Int)) := fun gg0 => RowRep.slat (c := (cInt .i64)) (V := V177) (cs := [.int .i64 ((1 : Int))]) ⟨_, _, rfl, rfl, rfl⟩ (VLe.refl _) (fun _ => hg177 gg0) (by simp)
        refine Exec.run tyOk 400 rfl ?_
        exact join [0, 1, 2, 3, 4, 5, 6, 7, 8, 9, 10, 11] (lr' := [⟨202, [], .v (.bool ((((x84 && (((((cond ((x84) == true) (atI x37.2.1 ((0 : Int))) default).Pairs).length : Nat) : Int) == (3 : Int))) && (x51.2 == (0 : Int))) && x91))), 202⟩, ⟨203, [], .v (.bool ((((x84 && (((((cond ((x84) == true) (atI x37.2.1 ((0 : Int))) default).Pairs).length : Nat) : Int) == (3 : Int))) && (x51.2 == (0 : Int))) && x91))), 202⟩, ⟨205, [(202, true)], .v (.slice a149 ((x92).length) (k149)), 205⟩, ⟨206, [(202, true)], .v (.slice ((some a177)) (1) (1)), 206⟩]) (L' := [(0, .v (.bool (false))), (203, .v (.bool ((((x84 && (((((cond ((x84) == true) (atI x37.2.1 ((0 : Int))) default).Pairs).length : Nat) : Int) == (3 : Int))) && (x51.2 == (0 : Int))) && x91))))]) rfl rfl rfl rfl ⟨⟨_, rfl, rfl⟩, ⟨_, rfl, rfl⟩, trivial⟩ ⟨⟨_, rfl, rfl⟩, ⟨_, rfl, rfl⟩, ⟨_, rfl, rfl⟩, ⟨_, rfl, rfl⟩, trivial⟩ ⟨_, _, _, rfl, rfl, rfl, h204, h177, h182, h183, h185, h186, h187, h188, h189, h190⟩
      · skip
        refine Exec.run tyOk 400 rfl ?_
        refine Exec.gbsV tyOk rfl rfl rfl rfl (fun V205 a205 hv205 hg205 => ?_) rfl
        have h206 := SlAt.mono h54 hv205
        have h207 := SlAt.mono h55 hv205
        have h208 := SlAt.mono h56 hv205
        have h209 := SlAt.mono h57 hv205
        have h210 := SlAt.mono h58 hv205
        have h211 := SlAt.mono h59 hv205
        have h212 := SlAt.mono h60 hv205
        have h213 := SlAt.mono h61 hv205
        have h214 := SlAt.mono h62 hv205
        have h215 := SlAt.mono h63 hv205
        have h216 := SlAt.mono h64 hv205
        have h217 := SlAt.mono h65 hv205
        have h218 := SlAt.mono h52 hv205
        have h223 := SlAt.mono h75 hv205
        have h226 := SlAt.mono h81 hv205
        have h229 := SlAt.mono h87 hv205
        have h231 := SlAt.mono h90 hv205
        have h205 : ((((x84 && (((((cond ((x84) == true) (atI x37.2.1 ((0 : Int))) default).Pairs).length : Nat) : Int) == (3 : Int))) && (x51.2 == (0 : Int))) && x91)) = true → SlAt (cInt .i64) V205 ((some a205)) 1 (([(1 : Int)] : List Int)) := fun gg0 => RowRep.slat (c := (cInt .i64)) (V := V205) (cs := [.int .i64 ((1 : Int))]) ⟨_, _, rfl, rfl, rfl⟩ (VLe.refl _) (fun _ => hg205 gg0) (by simp)
        refine Exec.run tyOk 400 rfl ?_
        refine Exec.callG (fun y : Option Addr × Nat => .slice y.1 ((x92).length) (y.2)) (none, 0) (R := fun V' y => SlAt (cInt .i64) V' y.1 y.2 x92) rfl rfl rfl (fun gg0 => (W_migrate_Moving x16.1 h213 (gcall_some hx92 (gd1_of gg0))).mono (fun V' _ _ ⟨a232, k232, e1, h232⟩ => ⟨⟨a232, k232⟩, e1, h232⟩)) ?_
        rintro V233 ⟨a232, k232⟩ hv233 hg233
        have h232 : SlAt (cInt .i64) V233 a232 k232 x92 := gslat1 hx92 (fun gg0 => (hg233 gg0))
        have h234 := SlAt.mono h206 hv233
        have h235 := SlAt.mono h207 hv233
        have h236 := SlAt.mono h208 hv233
        have h237 := SlAt.mono h209 hv233
        have h238 := SlAt.mono h210 hv233
        have h239 := SlAt.mono h211 hv233
        have h240 := SlAt.mono h212 hv233
        have h241 := SlAt.mono h213 hv233
        have h242 := SlAt.mono h214 hv233
        have h243 := SlAt.mono h215 hv233
        have h244 := SlAt.mono h216 hv233
        have h245 := SlAt.mono h217 hv233
        have h246 := SlAt.mono h218 hv233
        have h251 := SlAt.mono h223 hv233
        have h254 := SlAt.mono h226 hv233
        have h257 := SlAt.mono h229 hv233
        have h259 := SlAt.mono h231 hv233
        have h260 : ((((x84 && (((((cond ((x84) == true) (atI x37.2.1 ((0 : Int))) default).Pairs).length : Nat) : Int) == (3 : Int))) && (x51.2 == (0 : Int))) && x91)) = true → SlAt (cInt .i64) V233 ((some a205)) 1 (([(1 : Int)] : List Int)) := fun gg0 => SlAt.mono (h205 gg0) hv233
        refine Exec.run tyOk 400 rfl ?_
        exact join [0, 1, 2, 3, 4, 5, 6, 7, 8, 9, 10, 11] (lr' := [⟨202, [], .v (.bool ((((x84 && (((((cond ((x84) == true) (atI x37.2.1 ((0 : Int))) default).Pairs).length : Nat) : Int) == (3 : Int))) && (x51.2 == (0 : Int))) && x91))), 202⟩, ⟨203, [], .v (.bool ((((x84 && (((((cond ((x84) == true) (atI x37.2.1 ((0 : Int))) default).Pairs).length : Nat) : Int) == (3 : Int))) && (x51.2 == (0 : Int))) && x91))), 202⟩, ⟨205, [(202, true)], .v (.slice a232 ((x92).length) (k232)), 205⟩, ⟨206, [(202, true)], .v (.slice ((some a205)) (1) (1)), 206⟩]) (L' := [(0, .v (.bool (false))), (203, .v (.bool ((((x84 && (((((cond ((x84) == true) (atI x37.2.1 ((0 : Int))) default).Pairs).length : Nat) : Int) == (3 : Int))) && (x51.2 == (0 : Int))) && x91))))]) rfl rfl rfl rfl ⟨⟨_, rfl, rfl⟩, ⟨_, rfl, rfl⟩, trivial⟩ ⟨⟨_, rfl, rfl⟩, ⟨_, rfl, rfl⟩, ⟨_, rfl, rfl⟩, ⟨_, rfl, rfl⟩, trivial⟩ ⟨_, _, _, rfl, rfl, rfl, h232, h260, h238, h239, h241, h242, h243, h244, h245, h246⟩
      rintro lr' L' VV261 M' ⟨a93, k93, a121, rfl, rfl, rfl, h262, h263, h264, h265, h266, h267, h268, h269, h270, h271⟩
      refine Exec.run tyOk 400 rfl ?_
      obtain ⟨x272, hx272, hF⟩ := bnd_some hF
      refine Exec.callS (.bool (x272)) rfl rfl (fun gg0 => W_clockworkref23_Ints x92 (([(1 : Int)] : List Int)) h262 (h263 gg0) (gcall_some hx272 (gd1_of gg0))) ?_
      refine Exec.run tyOk 400 rfl ?_
      obtain rfl := some_inj hF
      exact Exec.ret tyOk rfl rfl rfl

def F_clockworklaw33_MigrateChunks (x1 : TPlacement) (x3 : List TShard) (x5 : TStep) : Option Bool :=
  (bnd (F_clockworklaw33_few x1 x3) fun x6 => (cond (!x6) (bnd (F_clockworklaw33_works ) fun x7 => (some x7)) (bnd (F_migrate_Chunk x1 x3 x5.Id x5.N) fun x8 => (bnd (F_clockworkref33_Chunk x1 x3 x5.Id x5.N) fun x15 => (bnd (F_clockworkref29_Same x8.1 x15.1) fun x25 => (bnd (gcall ((x25) == true) (F_clockworkref32_Same x8.2.1 x15.2.1)) fun x26 => (bnd (gcall (((x25 && x26)) == true) (F_clockworkref33_SameChunk x8.2.2.1 x15.2.2.1)) fun x27 => (bnd (gcall (((((x25 && x26) && x27) && (x8.2.2.2 == x15.2.2.2))) == true) (F_clockworklaw33_works )) fun x28 => (some ((((x25 && x26) && x27) && (x8.2.2.2 == x15.2.2.2)) && x28))))))))))

set_option maxRecDepth 100000 in
theorem W_clockworklaw33_MigrateChunks {V : View} (x1 : TPlacement) (x3 : List TShard) (x5 : TStep) {a2 : Option Addr} {k2 : Nat} {a4 : Option Addr} {k4 : Nat} (h2 : SlAt cTPart V a2 k2 x1.Parts) (h4 : SlAt cTShard V a4 k4 x3) {r : Bool} (hF : F_clockworklaw33_MigrateChunks x1 x3 x5 = some r) :
    Spec Tryz.prog 3 [.agg ⟨[.int .i64 (x1.Version), .slice a2 ((x1.Parts).length) (k2)]⟩, .slice a4 ((x3).length) (k4), .agg ⟨[.int .i64 (x5.Id), .int .i64 (x5.N)]⟩] V (fun _ v => v = .bool (r)) := by
  unfold F_clockworklaw33_MigrateChunks at hF
  refine Spec.enter (T := tyT) Tryz.func3 rfl (by kernel_rfl) rfl rfl rfl ?_
  refine Exec.run tyOk 400 rfl ?_
  obtain ⟨x6, hx6, hF⟩ := bnd_some hF
  refine Exec.callS (.bool (x6)) rfl rfl (W_clockworklaw33_few x1 x3 h2 h4 hx6) ?_
  refine Exec.run tyOk 400 rfl ?_
  rcases cond_some hF with ⟨hb, hF⟩ | ⟨hb, hF⟩
  · skip
    refine Exec.ifT rfl hb ?_
    refine Exec.run tyOk 400 rfl ?_
    obtain ⟨x7, hx7, hF⟩ := bnd_some hF
    refine Exec.callS (.bool (x7)) rfl rfl (W_clockworklaw33_works   hx7) ?_
    refine Exec.run tyOk 400 rfl ?_
    obtain rfl := some_inj hF
    exact Exec.ret tyOk rfl rfl rfl
  · skip
    refine Exec.ifF rfl hb ?_
    refine Exec.run tyOk 400 rfl ?_
    obtain ⟨x8, hx8, hF⟩ := bnd_some hF
    refine Exec.call rfl rfl (W_migrate_Chunk x1 x3 x5.Id x5.N h2 h4 hx8) ?_
    rintro V12 _ hv12 ⟨a9, k9, a10, k10, a11, k11, rfl, h9, h10, h11⟩
    have h13 := SlAt.mono h2 hv12
    have h14 := SlAt.mono h4 hv12
    refine Exec.run tyOk 400 rfl ?_
    obtain ⟨x15, hx15, hF⟩ := bnd_some hF
    refine Exec.call rfl rfl (W_clockworkref33_Chunk x1 x3 x5.Id x5.N h13 h14 hx15) ?_
    rintro V19 _ hv19 ⟨a16, k16, a17, k17, a18, k18, rfl, h16, h17, h18⟩
    have h20 := SlAt.mono h13 hv19
    have h21 := SlAt.mono h14 hv19
    have h22 := SlAt.mono h10 hv19
    have h23 := SlAt.mono h9 hv19
    have h24 := SlAt.mono h11 hv19
    refine Exec.run tyOk 400 rfl ?_
    obtain ⟨x25, hx25, hF⟩ := bnd_some hF
    refine Exec.callS (.bool (x25)) rfl rfl (W_clockworkref29_Same x8.1 x15.1 h23 h16 hx25) ?_
    refine Exec.run tyOk 400 rfl ?_
    obtain ⟨x26, hx26, hF⟩ := bnd_some hF
    refine Exec.callS (.bool (x26)) rfl rfl (fun gg0 => W_clockworkref32_Same x8.2.1 x15.2.1 h22 h17 (gcall_some hx26 (gd1_of gg0))) ?_
    refine Exec.run tyOk 400 rfl ?_
    obtain ⟨x27, hx27, hF⟩ := bnd_some hF
    refine Exec.callS (.bool (x27)) rfl rfl (fun gg0 => W_clockworkref33_SameChunk x8.2.2.1 x15.2.2.1 h24 h18 (gcall_some hx27 (gd1_of gg0))) ?_
    refine Exec.run tyOk 400 rfl ?_
    obtain ⟨x28, hx28, hF⟩ := bnd_some hF
    refine Exec.callS (.bool (x28)) rfl rfl (fun gg0 => W_clockworklaw33_works   (gcall_some hx28 (gd1_of gg0))) ?_
    refine Exec.run tyOk 400 rfl ?_
    obtain rfl := some_inj hF
    exact Exec.ret tyOk rfl rfl rfl

def F_clockworklaw33_MigrateCancels (x1 : TPlacement) (x3 : List TShard) (x5 : Int) : Option Bool :=
  (bnd (F_clockworklaw33_few x1 x3) fun x6 => (cond (!x6) (bnd (F_clockworklaw33_works ) fun x7 => (some x7)) (bnd (F_migrate_Cancel x1 x3 x5) fun x8 => (bnd (F_clockworkref33_Cancel x1 x3 x5) fun x14 => (bnd (F_clockworkref29_Same x8.1 x14.1) fun x22 => (bnd (gcall ((x22) == true) (F_clockworkref32_Same x8.2.1 x14.2.1)) fun x23 => (bnd (gcall ((((x22 && x23) && (x8.2.2 == x14.2.2))) == true) (F_clockworklaw33_works )) fun x24 => (some (((x22 && x23) && (x8.2.2 == x14.2.2)) && x24)))))))))

set_option maxRecDepth 100000 in
theorem W_clockworklaw33_MigrateCancels {V : View} (x1 : TPlacement) (x3 : List TShard) (x5 : Int) {a2 : Option Addr} {k2 : Nat} {a4 : Option Addr} {k4 : Nat} (h2 : SlAt cTPart V a2 k2 x1.Parts) (h4 : SlAt cTShard V a4 k4 x3) {r : Bool} (hF : F_clockworklaw33_MigrateCancels x1 x3 x5 = some r) :
    Spec Tryz.prog 4 [.agg ⟨[.int .i64 (x1.Version), .slice a2 ((x1.Parts).length) (k2)]⟩, .slice a4 ((x3).length) (k4), .int .i64 (x5)] V (fun _ v => v = .bool (r)) := by
  unfold F_clockworklaw33_MigrateCancels at hF
  refine Spec.enter (T := tyT) Tryz.func4 rfl (by kernel_rfl) rfl rfl rfl ?_
  refine Exec.run tyOk 400 rfl ?_
  obtain ⟨x6, hx6, hF⟩ := bnd_some hF
  refine Exec.callS (.bool (x6)) rfl rfl (W_clockworklaw33_few x1 x3 h2 h4 hx6) ?_
  refine Exec.run tyOk 400 rfl ?_
  rcases cond_some hF with ⟨hb, hF⟩ | ⟨hb, hF⟩
  · skip
    refine Exec.ifT rfl hb ?_
    refine Exec.run tyOk 400 rfl ?_
    obtain ⟨x7, hx7, hF⟩ := bnd_some hF
    refine Exec.callS (.bool (x7)) rfl rfl (W_clockworklaw33_works   hx7) ?_
    refine Exec.run tyOk 400 rfl ?_
    obtain rfl := some_inj hF
    exact Exec.ret tyOk rfl rfl rfl
  · skip
    refine Exec.ifF rfl hb ?_
    refine Exec.run tyOk 400 rfl ?_
    obtain ⟨x8, hx8, hF⟩ := bnd_some hF
    refine Exec.call rfl rfl (W_migrate_Cancel x1 x3 x5 h2 h4 hx8) ?_
    rintro V11 _ hv11 ⟨a9, k9, a10, k10, rfl, h9, h10⟩
    have h12 := SlAt.mono h2 hv11
    have h13 := SlAt.mono h4 hv11
    refine Exec.run tyOk 400 rfl ?_
    obtain ⟨x14, hx14, hF⟩ := bnd_some hF
    refine Exec.call rfl rfl (W_clockworkref33_Cancel x1 x3 x5 h12 h13 hx14) ?_
    rintro V17 _ hv17 ⟨a15, k15, a16, k16, rfl, h15, h16⟩
    have h18 := SlAt.mono h12 hv17
    have h19 := SlAt.mono h13 hv17
    have h20 := SlAt.mono h10 hv17
    have h21 := SlAt.mono h9 hv17
    refine Exec.run tyOk 400 rfl ?_
    obtain ⟨x22, hx22, hF⟩ := bnd_some hF
    refine Exec.callS (.bool (x22)) rfl rfl (W_clockworkref29_Same x8.1 x14.1 h21 h15 hx22) ?_
    refine Exec.run tyOk 400 rfl ?_
    obtain ⟨x23, hx23, hF⟩ := bnd_some hF
    refine Exec.callS (.bool (x23)) rfl rfl (fun gg0 => W_clockworkref32_Same x8.2.1 x14.2.1 h20 h16 (gcall_some hx23 (gd1_of gg0))) ?_
    refine Exec.run tyOk 400 rfl ?_
    obtain ⟨x24, hx24, hF⟩ := bnd_some hF
    refine Exec.callS (.bool (x24)) rfl rfl (fun gg0 => W_clockworklaw33_works   (gcall_some hx24 (gd1_of gg0))) ?_
    refine Exec.run tyOk 400 rfl ?_
    obtain rfl := some_inj hF
    exact Exec.ret tyOk rfl rfl rfl

def F_clockworklaw33_MigrateKeeps_L1 (x1 : TMove) (x4 : List TPair) (J26 : TPlacement → Bool → Option Bool) : Nat → TPlacement → (List TShard) → Bool → Int → Option Bool
  | 0, _, _, _, _ => none
  | n39 + 1, x33, x35, x37, x38 => (cond ((decide (x38 ≤ (((x1.Sizes).length : Nat) : Int))) && (!x37)) (jn (fun (x44 : Int) => (bnd (F_migrate_Chunk x33 x35 x1.Id x44) fun x52 => (bnd (F_clockworkref32_Gather x52.2.1) fun x62 => (bnd (gcall ((((x52.2.2.2 != (0 : Int)) || (x62.2 != (0 : Int)))) == false) (F_clockworkref32_Valid x52.1 x52.2.1)) fun x73 => (bnd (gcall (((((x52.2.2.2 != (0 : Int)) || (x62.2 != (0 : Int))) || (!x73))) == false) (F_clockworkref06_Same x62.1 x4)) fun x74 => (cond ((((((x52.2.2.2 != (0 : Int)) || (x62.2 != (0 : Int))) || (!x73)) || (!x74)) || (decide (x44 < (((x52.2.2.1.Pairs).length : Nat) : Int)))) || (x52.1.Version != (IntKind.i64.wrap (x33.Version + (1 : Int))))) (some false) (F_clockworklaw33_MigrateKeeps_L1 x1 x4 J26 n39 x52.1 x52.2.1 x52.2.2.1.Last ((IntKind.i64.wrap (x38 + (1 : Int))))))))))) (fun J45 => (cond (decide (x38 < (((x1.Sizes).length : Nat) : Int))) (req (0 ≤ x38 ∧ x38 < ((x1.Sizes).length : Int)) (J45 ((max (atI x1.Sizes x38) (1 : Int))))) (J45 ((60 : Int)))))) (J26 x33 x37))

def F_clockworklaw33_MigrateKeeps (x1 : TMove) (x4 : List TPair) : Option Bool :=
  (bnd (F_clockworklaw33_begun x1 x4) fun x6 => (cond (!x6.2.2) (bnd (F_clockworklaw33_works ) fun x13 => (some x13)) (bnd (F_migrate_Start ((⟨x1.P.Version, x1.P.Parts⟩ : TPlacement)) x1.Id x1.Node) fun x14 => (bnd (gcall (((x14.2 != (0 : Int))) == false) (F_clockworkref29_Same x14.1 x6.1)) fun x22 => (cond ((x14.2 != (0 : Int)) || (!x22)) (some false) (jn (fun (x23 : TPlacement) (x25 : Bool) => (bnd (F_clockworklaw33_part x23 x1.Id) fun x30 => (bnd (gcall (((((x25 && (x30.Node == x1.Node)) && (x30.Dest == (0 : Int))) && (x30.Done == ([] : Str)))) == true) (F_clockworklaw33_part ((⟨x1.P.Version, x1.P.Parts⟩ : TPlacement)) x1.Id)) fun x31 => (bnd (gcall ((((((x25 && (x30.Node == x1.Node)) && (x30.Dest == (0 : Int))) && (x30.Done == ([] : Str))) && (x30.From == x31.From))) == true) (F_clockworklaw33_works )) fun x32 => (some (((((x25 && (x30.Node == x1.Node)) && (x30.Dest == (0 : Int))) && (x30.Done == ([] : Str))) && (x30.From == x31.From)) && x32)))))) (fun J26 => (F_clockworklaw33_MigrateKeeps_L1 x1 x4 J26 (1000000 : Nat) x6.1 x6.2.1 false ((0 : Int))))))))))

set_option maxRecDepth 100000 in
theorem W_clockworklaw33_MigrateKeeps {V : View} (x1 : TMove) (x4 : List TPair) {a2 : Option Addr} {k2 : Nat} {a3 : Option Addr} {k3 : Nat} {a5 : Option Addr} {k5 : Nat} (h2 : SlAt cTPart V a2 k2 x1.P.Parts) (h3 : SlAt (cInt .i64) V a3 k3 x1.Sizes) (h5 : SlAt cTPair V a5 k5 x4) {r : Bool} (hF : F_clockworklaw33_MigrateKeeps x1 x4 = some r) :
    Spec Tryz.prog 5 [.agg ⟨[.int .i64 (x1.P.Version), .slice a2 ((x1.P.Parts).length) (k2), .int .i64 (x1.Id), .int .i64 (x1.Node), .slice a3 ((x1.Sizes).length) (k3)]⟩, .slice a5 ((x4).length) (k5)] V (fun _ v => v = .bool (r)) := by
  unfold F_clockworklaw33_MigrateKeeps at hF
  refine Spec.enter (T := tyT) Tryz.func5 rfl (by kernel_rfl) rfl rfl rfl ?_
  refine Exec.run tyOk 400 rfl ?_
  obtain ⟨x6, hx6, hF⟩ := bnd_some hF
  refine Exec.call rfl rfl (W_clockworklaw33_begun x1 x4 h2 h3 h5 hx6) ?_
  rintro V9 _ hv9 ⟨a7, k7, a8, k8, rfl, h7, h8⟩
  have h10 := SlAt.mono h2 hv9
  have h11 := SlAt.mono h3 hv9
  have h12 := SlAt.mono h5 hv9
  refine Exec.run tyOk 400 rfl ?_
  rcases cond_some hF with ⟨hb, hF⟩ | ⟨hb, hF⟩
  · skip
    refine Exec.ifT rfl hb ?_
    refine Exec.run tyOk 400 rfl ?_
    obtain ⟨x13, hx13, hF⟩ := bnd_some hF
    refine Exec.callS (.bool (x13)) rfl rfl (W_clockworklaw33_works   hx13) ?_
    refine Exec.run tyOk 400 rfl ?_
    obtain rfl := some_inj hF
    exact Exec.ret tyOk rfl rfl rfl
  · skip
    refine Exec.ifF rfl hb ?_
    refine Exec.run tyOk 400 rfl ?_
    obtain ⟨x14, hx14, hF⟩ := bnd_some hF
    refine Exec.call rfl rfl (W_migrate_Start ((⟨x1.P.Version, x1.P.Parts⟩ : TPlacement)) x1.Id x1.Node h10 hx14) ?_
    rintro V16 _ hv16 ⟨a15, k15, rfl, h15⟩
    have h17 := SlAt.mono h10 hv16
    have h18 := SlAt.mono h11 hv16
    have h19 := SlAt.mono h12 hv16
    have h20 := SlAt.mono h8 hv16
    have h21 := SlAt.mono h7 hv16
    refine Exec.run tyOk 400 rfl ?_
    obtain ⟨x22, hx22, hF⟩ := bnd_some hF
    refine Exec.callS (.bool (x22)) rfl rfl (fun gg0 => W_clockworkref29_Same x14.1 x6.1 h15 h21 (gcall_some hx22 (gd1_of gg0))) ?_
    refine Exec.run tyOk 400 rfl ?_
    rcases cond_some hF with ⟨hb, hF⟩ | ⟨hb, hF⟩
    · skip
      refine Exec.ifT rfl hb ?_
      refine Exec.run tyOk 400 rfl ?_
      obtain rfl := some_inj hF
      exact Exec.ret tyOk rfl rfl rfl
    · skip
      refine Exec.ifF rfl hb ?_
      refine Exec.run tyOk 10 rfl ?_
      obtain ⟨J26, hJ26, hF⟩ := jn_some hF
      refine Exec.seam (fun L' V' M' => ∃ (x23 : TPlacement) (a24 : Option Addr) (k24 : Nat) (x25 : Bool), L' = [(2, .ptr 0 0), (5, .ptr 1 0), (10, .v (.bool (x25)))] ∧ M' = [.blk [.v (.int .i64 (x1.P.Version)), .v (.slice a2 ((x1.P.Parts).length) (k2)), .v (.int .i64 (x1.Id)), .v (.int .i64 (x1.Node)), .v (.slice a3 ((x1.Sizes).length) (k3))] 47, .blk [.v (.int .i64 (x23.Version)), .v (.slice a24 ((x23.Parts).length) (k24))] 24] ∧ SlAt cTPart V' a24 k24 x23.Parts ∧ SlAt cTPart V' a2 k2 x1.P.Parts ∧ SlAt (cInt .i64) V' a3 k3 x1.Sizes ∧ J26 x23 x25 = some r) rfl ?_ ?_
      · rintro L' V27 M' ⟨x23, a24, k24, x25, rfl, rfl, h24, h28, h29, hF⟩
        subst hJ26
        refine Exec.run tyOk 400 rfl ?_
        obtain ⟨x30, hx30, hF⟩ := bnd_some hF
        refine Exec.callS (.agg ⟨[.int .i64 (x30.Id), .string ⟨⟨x30.From⟩⟩, .int .i64 (x30.Node), .int .i64 (x30.Dest), .string ⟨⟨x30.Done⟩⟩]⟩) rfl rfl (W_clockworklaw33_part x23 x1.Id h24 hx30) ?_
        refine Exec.run tyOk 400 rfl ?_
        refine Exec.draws tyOk [(0, true), (1, true), (2, true), (3, true), (4, true), (5, true), (6, true), (7, true), (8, true), (9, true), (10, true), (11, true), (12, true), (13, true), (14, true), (15, true), (16, true), (17, true), (18, true), (19, true), (20, true), (21, true), (22, true), (23, true), (24, true), (25, false), (26, false), (27, false), (28, false), (29, false), (30, false), (31, false), (32, false)] rfl (by kernel_rfl) ?_
        refine Exec.run tyOk 400 rfl ?_
        obtain ⟨x31, hx31, hF⟩ := bnd_some hF
        refine Exec.callS (.agg ⟨[.int .i64 (x31.Id), .string ⟨⟨x31.From⟩⟩, .int .i64 (x31.Node), .int .i64 (x31.Dest), .string ⟨⟨x31.Done⟩⟩]⟩) rfl rfl (fun gg0 => W_clockworklaw33_part ((⟨x1.P.Version, x1.P.Parts⟩ : TPlacement)) x1.Id h28 (gcall_some hx31 (gd1_of gg0))) ?_
        refine Exec.run tyOk 400 rfl ?_
        obtain ⟨x32, hx32, hF⟩ := bnd_some hF
        refine Exec.callS (.bool (x32)) rfl rfl (fun gg0 => W_clockworklaw33_works   (gcall_some hx32 (gd1_of gg0))) ?_
        refine Exec.run tyOk 400 rfl ?_
        obtain rfl := some_inj hF
        exact Exec.ret tyOk rfl rfl rfl
      · skip
        refine Exec.run tyOk 400 rfl ?_
        refine Exec.cut 2 [(1, .v (.slice a5 ((x4).length) (k5))), (2, .ptr 0 0), (5, .ptr 1 0), (6, .v (.slice a8 ((x6.2.1).length) (k8))), (10, .v (.bool (false))), (11, .v (.int .i64 ((0 : Int))))] (M' := [.blk [.v (.int .i64 (x1.P.Version)), .v (.slice a2 ((x1.P.Parts).length) (k2)), .v (.int .i64 (x1.Id)), .v (.int .i64 (x1.Node)), .v (.slice a3 ((x1.Sizes).length) (k3))] 47, .blk [.v (.int .i64 (x6.1.Version)), .v (.slice a7 ((x6.1.Parts).length) (k7))] 24]) rfl ⟨rfl, rfl, rfl, rfl, rfl, rfl, trivial⟩ rfl rfl rfl ?_
        refine Exec.loop (fun n39 L' V' M' => ∃ (x33 : TPlacement) (a34 : Option Addr) (k34 : Nat) (x35 : List TShard) (a36 : Option Addr) (k36 : Nat) (x37 : Bool) (x38 : Int), L' = [(1, .v (.slice a5 ((x4).length) (k5))), (2, .ptr 0 0), (5, .ptr 1 0), (6, .v (.slice a36 ((x35).length) (k36))), (10, .v (.bool (x37))), (11, .v (.int .i64 (x38)))] ∧ M' = [.blk [.v (.int .i64 (x1.P.Version)), .v (.slice a2 ((x1.P.Parts).length) (k2)), .v (.int .i64 (x1.Id)), .v (.int .i64 (x1.Node)), .v (.slice a3 ((x1.Sizes).length) (k3))] 47, .blk [.v (.int .i64 (x33.Version)), .v (.slice a34 ((x33.Parts).length) (k34))] 24] ∧ SlAt cTPart V' a34 k34 x33.Parts ∧ SlAt cTShard V' a36 k36 x35 ∧ SlAt cTPair V' a5 k5 x4 ∧ SlAt cTPart V' a2 k2 x1.P.Parts ∧ SlAt (cInt .i64) V' a3 k3 x1.Sizes ∧ F_clockworklaw33_MigrateKeeps_L1 x1 x4 J26 n39 x33 x35 x37 x38 = some r) ⟨(1000000 : Nat), [(1, .v (.slice a5 ((x4).length) (k5))), (2, .ptr 0 0), (5, .ptr 1 0), (6, .v (.slice a8 ((x6.2.1).length) (k8))), (10, .v (.bool (false))), (11, .v (.int .i64 ((0 : Int))))], ⟨rfl, rfl, rfl, rfl, rfl, rfl, trivial⟩, x6.1, a7, k7, x6.2.1, a8, k8, false, (0 : Int), rfl, rfl, h21, h20, h19, h17, h18, hF⟩ ?_
        rintro n39 L' V40 M' ⟨x33, a34, k34, x35, a36, k36, x37, x38, rfl, rfl, h34, h36, h41, h42, h43, hF⟩
        rcases n39 with _ | n39
        · exact absurd hF (by simp [F_clockworklaw33_MigrateKeeps_L1])
        rw [F_clockworklaw33_MigrateKeeps_L1] at hF
        refine Exec.run tyOk 400 rfl ?_
        rcases cond_some hF with ⟨hb, hF⟩ | ⟨hb, hF⟩
        · skip
          refine Exec.ifT rfl hb ?_
          refine Exec.run tyOk 400 rfl ?_
          obtain ⟨J45, hJ45, hF⟩ := jn_some hF
          refine Exec.seam (fun L' V' M' => ∃ (x44 : Int), L' = [(1, .v (.slice a5 ((x4).length) (k5))), (2, .ptr 0 0), (5, .ptr 1 0), (6, .v (.slice a36 ((x35).length) (k36))), (11, .v (.int .i64 (x38))), (12, .v (.int .i64 (x44)))] ∧ M' = [.blk [.v (.int .i64 (x1.P.Version)), .v (.slice a2 ((x1.P.Parts).length) (k2)), .v (.int .i64 (x1.Id)), .v (.int .i64 (x1.Node)), .v (.slice a3 ((x1.Sizes).length) (k3))] 47, .blk [.v (.int .i64 (x33.Version)), .v (.slice a34 ((x33.Parts).length) (k34))] 24] ∧ SlAt cTPair V' a5 k5 x4 ∧ SlAt cTShard V' a36 k36 x35 ∧ SlAt cTPart V' a2 k2 x1.P.Parts ∧ SlAt (cInt .i64) V' a3 k3 x1.Sizes ∧ SlAt cTPart V' a34 k34 x33.Parts ∧ J45 x44 = some r) rfl ?_ ?_
          · rintro L' V46 M' ⟨x44, rfl, rfl, h47, h48, h49, h50, h51, hF⟩
            subst hJ45
            refine Exec.run tyOk 400 rfl ?_
            obtain ⟨x52, hx52, hF⟩ := bnd_some hF
            refine Exec.call rfl rfl (W_migrate_Chunk x33 x35 x1.Id x44 h51 h48 hx52) ?_
            rintro V56 _ hv56 ⟨a53, k53, a54, k54, a55, k55, rfl, h53, h54, h55⟩
            have h57 := SlAt.mono h47 hv56
            have h58 := SlAt.mono h48 hv56
            have h59 := SlAt.mono h51 hv56
            have h60 := SlAt.mono h49 hv56
            have h61 := SlAt.mono h50 hv56
            refine Exec.run tyOk 400 rfl ?_
            obtain ⟨x62, hx62, hF⟩ := bnd_some hF
            refine Exec.call rfl rfl (W_clockworkref32_Gather x52.2.1 h54 hx62) ?_
            rintro V64 _ hv64 ⟨a63, k63, rfl, h63⟩
            have h65 := SlAt.mono h57 hv64
            have h66 := SlAt.mono h58 hv64
            have h67 := SlAt.mono h54 hv64
            have h68 := SlAt.mono h53 hv64
            have h69 := SlAt.mono h55 hv64
            have h70 := SlAt.mono h59 hv64
            have h71 := SlAt.mono h60 hv64
            have h72 := SlAt.mono h61 hv64
            refine Exec.run tyOk 400 rfl ?_
            obtain ⟨x73, hx73, hF⟩ := bnd_some hF
            refine Exec.callS (.bool (x73)) rfl rfl (fun gg0 => W_clockworkref32_Valid x52.1 x52.2.1 h68 h67 (gcall_some hx73 (gd1_of gg0))) ?_
            refine Exec.run tyOk 400 rfl ?_
            obtain ⟨x74, hx74, hF⟩ := bnd_some hF
            refine Exec.callS (.bool (x74)) rfl rfl (fun gg0 => W_clockworkref06_Same x62.1 x4 h63 h65 (gcall_some hx74 (gd1_of gg0))) ?_
            refine Exec.run tyOk 400 rfl ?_
            rcases cond_some hF with ⟨hb, hF⟩ | ⟨hb, hF⟩
            · skip
              refine Exec.ifT rfl hb ?_
              refine Exec.run tyOk 400 rfl ?_
              obtain rfl := some_inj hF
              exact Exec.ret tyOk rfl rfl rfl
            · skip
              refine Exec.ifF rfl hb ?_
              refine Exec.run tyOk 400 rfl ?_
              refine Exec.draws tyOk [(0, true), (1, true), (2, true), (3, true), (4, false), (5, false), (6, false)] rfl (by kernel_rfl) ?_
              refine Exec.run tyOk 400 rfl ?_
              refine Exec.cut 2 [(1, .v (.slice a5 ((x4).length) (k5))), (2, .ptr 0 0), (5, .ptr 1 0), (6, .v (.slice a54 ((x52.2.1).length) (k54))), (10, .v (.bool (x52.2.2.1.Last))), (11, .v (.int .i64 ((IntKind.i64.wrap (x38 + (1 : Int))))))] (M' := [.blk [.v (.int .i64 (x1.P.Version)), .v (.slice a2 ((x1.P.Parts).length) (k2)), .v (.int .i64 (x1.Id)), .v (.int .i64 (x1.Node)), .v (.slice a3 ((x1.Sizes).length) (k3))] 47, .blk [.v (.int .i64 (x52.1.Version)), .v (.slice a53 ((x52.1.Parts).length) (k53))] 24]) rfl ⟨rfl, rfl, rfl, rfl, rfl, rfl, trivial⟩ rfl rfl rfl ?_
              exact Exec.round [(1, .v (.slice a5 ((x4).length) (k5))), (2, .ptr 0 0), (5, .ptr 1 0), (6, .v (.slice a54 ((x52.2.1).length) (k54))), (10, .v (.bool (x52.2.2.1.Last))), (11, .v (.int .i64 ((IntKind.i64.wrap (x38 + (1 : Int))))))] ⟨rfl, rfl, rfl, rfl, rfl, rfl, trivial⟩ ⟨n39, Nat.lt_succ_self _, x52.1, a53, k53, x52.2.1, a54, k54, x52.2.2.1.Last, (IntKind.i64.wrap (x38 + (1 : Int))), rfl, rfl, h68, h67, h65, h71, h72, hF⟩
          · skip
            refine Exec.run tyOk 400 rfl ?_
            rcases cond_some hF with ⟨hb, hF⟩ | ⟨hb, hF⟩
            · skip
              refine Exec.ifT rfl hb ?_
              refine Exec.run tyOk 400 rfl ?_
              obtain ⟨q75, hF⟩ := req_some hF
              obtain ⟨c76, hr76, hd76⟩ := SlAt.get h43 q75
              obtain rfl := hr76
              refine Exec.ia tyOk rfl rfl ⟨q75.1, q75.2, hd76.some⟩ ?_
              refine Exec.run tyOk 400 rfl ?_
              refine Exec.ld tyOk (x := .int .i64 ((atI x1.Sizes x38))) rfl rfl hd76 rfl rfl ?_
              refine Exec.run tyOk 400 rfl ?_
              exact Exec.round [(1, .v (.slice a5 ((x4).length) (k5))), (2, .ptr 0 0), (5, .ptr 1 0), (6, .v (.slice a36 ((x35).length) (k36))), (11, .v (.int .i64 (x38))), (12, .v (.int .i64 ((max (atI x1.Sizes x38) (1 : Int)))))] ⟨rfl, rfl, rfl, rfl, rfl, rfl, trivial⟩ ⟨(max (atI x1.Sizes x38) (1 : Int)), rfl, rfl, h41, h36, h42, h43, h34, hF⟩
            · skip
              refine Exec.ifF rfl hb ?_
              refine Exec.run tyOk 400 rfl ?_
              exact Exec.round [(1, .v (.slice a5 ((x4).length) (k5))), (2, .ptr 0 0), (5, .ptr 1 0), (6, .v (.slice a36 ((x35).length) (k36))), (11, .v (.int .i64 (x38))), (12, .v (.int .i64 ((60 : Int))))] ⟨rfl, rfl, rfl, rfl, rfl, rfl, trivial⟩ ⟨(60 : Int), rfl, rfl, h41, h36, h42, h43, h34, hF⟩
        · skip
          refine Exec.ifF rfl hb ?_
          refine Exec.run tyOk 400 rfl ?_
          exact Exec.round [(2, .ptr 0 0), (5, .ptr 1 0), (10, .v (.bool (x37)))] ⟨rfl, rfl, rfl, trivial⟩ ⟨x33, a34, k34, x37, rfl, rfl, h34, h42, h43, hF⟩

end Go.Proofs.YtedbagekceppiaaGreat
