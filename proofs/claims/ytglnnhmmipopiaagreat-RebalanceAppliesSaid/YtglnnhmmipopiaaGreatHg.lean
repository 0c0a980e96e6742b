/-
 Functions of the program as their counterparts say them (printed by a program).
 Conditions: none.
-/
import Derived.Test.YtglnnhmmipopiaaGreatHf
set_option linter.all false
namespace Go.Proofs.YtglnnhmmipopiaaGreat
set_option maxRecDepth 100000
def F_clockworklaw35_RebalanceCounts_L1 (x3 : List TShard) (x9 : List Int) (J51 : Int → Option Bool) : Nat → Int → Int → Option Bool
 | 0, _, _ => none
 | n56 + 1, x54, x55 => (cond ((decide (x55 < (((x3).length : Nat) : Int))) && (decide ((0 : Int) < (((x9).length : Nat) : Int)))) (req (0 ≤ x55 ∧ x55 < ((x3).length : Int)) (F_clockworklaw35_RebalanceCounts_L1 x3 x9 J51 n56 ((IntKind.i64.wrap (x54 - ((((atI x3 x55).Pairs).length : Nat) : Int)))) ((IntKind.i64.wrap (x55 + (1 : Int)))))) (J51 x54))
def F_clockworklaw35_RebalanceCounts_L2 (x22 : List Int) (x30 : List Int) (J46 : Option Bool) : Nat → Int → Option Bool
 | 0, _ => none
 | n64 + 1, x63 => (cond (decide (x63 < (((x22).length : Nat) : Int))) (req (0 ≤ x63 ∧ x63 < ((x22).length : Int)) (req (0 ≤ x63 ∧ x63 < ((x30).length : Int)) (cond ((atI x22 x63) != (atI x30 x63)) (some false) (F_clockworklaw35_RebalanceCounts_L2 x22 x30 J46 n64 ((IntKind.i64.wrap (x63 + (1 : Int)))))))) J46)
def F_clockworklaw35_RebalanceCounts_L3 (x9 : List Int) (x15 : List Int) (J40 : Int → Option Bool) : Nat → Int → Int → Option Bool
 | 0, _, _ => none
 | n76 + 1, x74, x75 => (cond (decide (x75 < (((x9).length : Nat) : Int))) (req (0 ≤ x75 ∧ x75 < ((x9).length : Int)) (req (0 ≤ x75 ∧ x75 < ((x15).length : Int)) (cond ((atI x9 x75) != (atI x15 x75)) (some false) (req (0 ≤ x75 ∧ x75 < ((x9).length : Int)) (F_clockworklaw35_RebalanceCounts_L3 x9 x15 J40 n76 ((IntKind.i64.wrap (x74 + (atI x9 x75)))) ((IntKind.i64.wrap (x75 + (1 : Int))))))))) (J40 x74))
def F_clockworklaw35_RebalanceCounts (x1 : TPlacement) (x3 : List TShard) (x5 : List THeat) : Option Bool :=
 (bnd (F_clockworkref35_Few x1 x3 x5 ((60 : Int))) fun x7 => (cond (!x7) (bnd (F_clockworklaw35_lives ) fun x8 => (some x8)) (bnd (F_rebalance_Sizes x1 x3) fun x9 => (bnd (F_clockworkref35_Sizes x1 x3) fun x15 => (bnd (F_rebalance_Loads x1 x5) fun x22 => (bnd (F_clockworkref35_Loads x1 x5) fun x30 => (cond (((((x9).length : Nat) : Int) != (((x15).length : Nat) : Int)) || ((((x22).length : Nat) : Int) != (((x30).length : Nat) : Int))) (some false) (jn (fun (x39 : Int) => (jn ((jn (fun (x50 : Int) => (bnd (gcall (((x50 == (0 : Int))) == true) (F_clockworklaw35_lives )) fun x53 => (some ((x50 == (0 : Int)) && x53)))) (fun J51 => (F_clockworklaw35_RebalanceCounts_L1 x3 x9 J51 (1000000 : Nat) x39 ((0 : Int)))))) (fun J46 => (F_clockworklaw35_RebalanceCounts_L2 x22 x30 J46 (((((x22).length : Nat) : Int)).toNat + 1) ((0 : Int)))))) (fun J40 => (F_clockworklaw35_RebalanceCounts_L3 x9 x15 J40 (((((x9).length : Nat) : Int)).toNat + 1) ((0 : Int)) ((0 : Int))))))))))))
theorem W_clockworklaw35_RebalanceCounts {V : View} (x1 : TPlacement) (x3 : List TShard) (x5 : List THeat) {a2 : Option Addr} {k2 : Nat} {a4 : Option Addr} {k4 : Nat} {a6 : Option Addr} {k6 : Nat} (h2 : SlAt cTPart V a2 k2 x1.Parts) (h4 : SlAt cTShard V a4 k4 x3) (h6 : SlAt cTHeat V a6 k6 x5) {r : Bool} (hF : F_clockworklaw35_RebalanceCounts x1 x3 x5 = some r) :
  Spec Tryz.prog 4 [.agg ⟨[.int .i64 (x1.Version), .slice a2 ((x1.Parts).length) (k2)]⟩, .slice a4 ((x3).length) (k4), .slice a6 ((x5).length) (k6)] V (fun _ v => v = .bool (r)) := by
 unfold F_clockworklaw35_RebalanceCounts at hF
 refine Spec.enter (T := tyT) Tryz.func4 rfl (by kernel_rfl) rfl rfl rfl ?_
 refine xr rfl ?_
 obtain ⟨x7, hx7, hF⟩ := bnd_some hF
 refine Exec.callS (.bool (x7)) rfl rfl (W_clockworkref35_Few x1 x3 x5 ((60 : Int)) h2 h4 h6 hx7) ?_
 refine xr rfl ?_
 rcases cond_some hF with ⟨hb, hF⟩ | ⟨hb, hF⟩
 ·refine Exec.ifT rfl hb ?_
  refine xr rfl ?_
  obtain ⟨x8, hx8, hF⟩ := bnd_some hF
  refine Exec.callS (.bool (x8)) rfl rfl (W_clockworklaw35_lives   hx8) ?_
  refine xr rfl ?_
  obtain rfl := some_inj hF
  exact Exec.ret tyOk rfl rfl rfl
 ·refine Exec.ifF rfl hb ?_
  refine xr rfl ?_
  obtain ⟨x9, hx9, hF⟩ := bnd_some hF
  refine Exec.call rfl rfl (W_rebalance_Sizes x1 x3 h2 h4 hx9) ?_
  rintro V11 _ hv11 ⟨a10, k10, rfl, h10⟩
  have h12 := SlAt.mono h2 hv11
  have h13 := SlAt.mono h4 hv11
  have h14 := SlAt.mono h6 hv11
  refine xr rfl ?_
  obtain ⟨x15, hx15, hF⟩ := bnd_some hF
  refine Exec.call rfl rfl (W_clockworkref35_Sizes x1 x3 h12 h13 hx15) ?_
  rintro V17 _ hv17 ⟨a16, k16, rfl, h16⟩
  have h18 := SlAt.mono h12 hv17
  have h19 := SlAt.mono h13 hv17
  have h20 := SlAt.mono h14 hv17
  have h21 := SlAt.mono h10 hv17
  refine xr rfl ?_
  obtain ⟨x22, hx22, hF⟩ := bnd_some hF
  refine Exec.call rfl rfl (W_rebalance_Loads x1 x5 h18 h20 hx22) ?_
  rintro V24 _ hv24 ⟨a23, k23, rfl, h23⟩
  have h25 := SlAt.mono h18 hv24
  have h26 := SlAt.mono h19 hv24
  have h27 := SlAt.mono h20 hv24
  have h28 := SlAt.mono h21 hv24
  have h29 := SlAt.mono h16 hv24
  refine xr rfl ?_
  obtain ⟨x30, hx30, hF⟩ := bnd_some hF
  refine Exec.call rfl rfl (W_clockworkref35_Loads x1 x5 h25 h27 hx30) ?_
  rintro V32 _ hv32 ⟨a31, k31, rfl, h31⟩
  have h33 := SlAt.mono h25 hv32
  have h34 := SlAt.mono h26 hv32
  have h35 := SlAt.mono h27 hv32
  have h36 := SlAt.mono h28 hv32
  have h37 := SlAt.mono h29 hv32
  have h38 := SlAt.mono h23 hv32
  refine xr rfl ?_
  rcases cond_some hF with ⟨hb, hF⟩ | ⟨hb, hF⟩
  ·refine Exec.ifT rfl hb ?_
   refine xr rfl ?_
   obtain rfl := some_inj hF
   exact Exec.ret tyOk rfl rfl rfl
  ·refine Exec.ifF rfl hb ?_
   refine Exec.run tyOk 10 rfl ?_
   obtain ⟨J40, hJ40, hF⟩ := jn_some hF
   refine Exec.seam (fun L' V' M' => ∃ (x39 : Int), L' = [(1, .v (.slice a4 ((x3).length) (k4))), (7, .v (.slice a10 ((x9).length) (k10))), (9, .v (.slice a23 ((x22).length) (k23))), (10, .v (.slice a31 ((x30).length) (k31))), (11, .v (.int .i64 (x39)))] ∧ M' = [] ∧ SlAt cTShard V' a4 k4 x3 ∧ SlAt (cInt .i64) V' a10 k10 x9 ∧ SlAt (cInt .i64) V' a23 k23 x22 ∧ SlAt (cInt .i64) V' a31 k31 x30 ∧ J40 x39 = some r) rfl ?_ ?_
   ·rintro L' V41 M' ⟨x39, rfl, rfl, h42, h43, h44, h45, hF⟩
    subst hJ40
    refine Exec.run tyOk 5 rfl ?_
    obtain ⟨J46, hJ46, hF⟩ := jn_some hF
    refine Exec.seam (fun L' V' M' => L' = [(1, .v (.slice a4 ((x3).length) (k4))), (7, .v (.slice a10 ((x9).length) (k10))), (11, .v (.int .i64 (x39)))] ∧ M' = [] ∧ SlAt cTShard V' a4 k4 x3 ∧ SlAt (cInt .i64) V' a10 k10 x9 ∧ J46 = some r) rfl ?_ ?_
    ·rintro L' V47 M' ⟨rfl, rfl, h48, h49, hF⟩
     subst hJ46
     refine Exec.run tyOk 5 rfl ?_
     obtain ⟨J51, hJ51, hF⟩ := jn_some hF
     refine Exec.seam (fun L' V' M' => ∃ (x50 : Int), L' = [(11, .v (.int .i64 (x50)))] ∧ M' = [] ∧ J51 x50 = some r) rfl ?_ ?_
     ·rintro L' V52 M' ⟨x50, rfl, rfl, hF⟩
      subst hJ51
      refine xr rfl ?_
      obtain ⟨x53, hx53, hF⟩ := bnd_some hF
      refine Exec.callS (.bool (x53)) rfl rfl (fun gg0 => W_clockworklaw35_lives   (gcall_some hx53 (gd1_of gg0))) ?_
      refine xr rfl ?_
      obtain rfl := some_inj hF
      exact Exec.ret tyOk rfl rfl rfl
     ·refine xr rfl ?_
      refine Exec.loop (fun n56 L' V' M' => ∃ (x54 : Int) (x55 : Int), L' = [(1, .v (.slice a4 ((x3).length) (k4))), (7, .v (.slice a10 ((x9).length) (k10))), (11, .v (.int .i64 (x54))), (14, .v (.int .i64 (x55)))] ∧ M' = [] ∧ SlAt cTShard V' a4 k4 x3 ∧ SlAt (cInt .i64) V' a10 k10 x9 ∧ F_clockworklaw35_RebalanceCounts_L1 x3 x9 J51 n56 x54 x55 = some r) ⟨(1000000 : Nat), [(1, .v (.slice a4 ((x3).length) (k4))), (7, .v (.slice a10 ((x9).length) (k10))), (11, .v (.int .i64 (x39))), (14, .v (.int .i64 ((0 : Int))))], ⟨rfl, rfl, rfl, rfl, trivial⟩, x39, (0 : Int), rfl, rfl, h48, h49, hF⟩ ?_
      rintro n56 L' V57 M' ⟨x54, x55, rfl, rfl, h58, h59, hF⟩
      rcases n56 with _ | n56
      ·exact absurd hF (by simp [F_clockworklaw35_RebalanceCounts_L1])
      rw [F_clockworklaw35_RebalanceCounts_L1] at hF
      refine xr rfl ?_
      rcases cond_some hF with ⟨hb, hF⟩ | ⟨hb, hF⟩
      ·refine Exec.ifT rfl hb ?_
       refine xr rfl ?_
       obtain ⟨q60, hF⟩ := req_some hF
       obtain ⟨c61, hr61, hd61⟩ := SlAt.get h58 q60
       obtain ⟨a62, k62, rfl, h62⟩ := hr61
       refine Exec.ia tyOk rfl rfl ⟨q60.1, q60.2, hd61.some⟩ ?_
       refine xr rfl ?_
       refine Exec.ld tyOk (x := .slice a62 (((atI x3 x55).Pairs).length) (k62)) rfl rfl (RdAt.part hd61 1 1 rfl) rfl rfl ?_
       refine xr rfl ?_
       exact Exec.round [(1, .v (.slice a4 ((x3).length) (k4))), (7, .v (.slice a10 ((x9).length) (k10))), (11, .v (.int .i64 ((IntKind.i64.wrap (x54 - ((((atI x3 x55).Pairs).length : Nat) : Int)))))), (14, .v (.int .i64 ((IntKind.i64.wrap (x55 + (1 : Int))))))] ⟨rfl, rfl, rfl, rfl, trivial⟩ ⟨n56, Nat.lt_succ_self _, (IntKind.i64.wrap (x54 - ((((atI x3 x55).Pairs).length : Nat) : Int))), (IntKind.i64.wrap (x55 + (1 : Int))), rfl, rfl, h58, h59, hF⟩
      ·refine Exec.ifF rfl hb ?_
       refine xr rfl ?_
       exact Exec.round [(11, .v (.int .i64 (x54)))] ⟨rfl, trivial⟩ ⟨x54, rfl, rfl, hF⟩
    ·refine xr rfl ?_
     refine Exec.loop (fun n64 L' V' M' => ∃ (x63 : Int), L' = [(1, .v (.slice a4 ((x3).length) (k4))), (7, .v (.slice a10 ((x9).length) (k10))), (9, .v (.slice a23 ((x22).length) (k23))), (10, .v (.slice a31 ((x30).length) (k31))), (11, .v (.int .i64 (x39))), (13, .v (.int .i64 (x63)))] ∧ M' = [] ∧ SlAt cTShard V' a4 k4 x3 ∧ SlAt (cInt .i64) V' a10 k10 x9 ∧ SlAt (cInt .i64) V' a23 k23 x22 ∧ SlAt (cInt .i64) V' a31 k31 x30 ∧ F_clockworklaw35_RebalanceCounts_L2 x22 x30 J46 n64 x63 = some r) ⟨(((((x22).length : Nat) : Int)).toNat + 1), [(1, .v (.slice a4 ((x3).length) (k4))), (7, .v (.slice a10 ((x9).length) (k10))), (9, .v (.slice a23 ((x22).length) (k23))), (10, .v (.slice a31 ((x30).length) (k31))), (11, .v (.int .i64 (x39))), (13, .v (.int .i64 ((0 : Int))))], ⟨rfl, rfl, rfl, rfl, rfl, rfl, trivial⟩, (0 : Int), rfl, rfl, h42, h43, h44, h45, hF⟩ ?_
     rintro n64 L' V65 M' ⟨x63, rfl, rfl, h66, h67, h68, h69, hF⟩
     rcases n64 with _ | n64
     ·exact absurd hF (by simp [F_clockworklaw35_RebalanceCounts_L2])
     rw [F_clockworklaw35_RebalanceCounts_L2] at hF
     refine xr rfl ?_
     rcases cond_some hF with ⟨hb, hF⟩ | ⟨hb, hF⟩
     ·refine Exec.ifT rfl hb ?_
      refine xr rfl ?_
      refine Exec.draws tyOk [(0, true), (1, true), (2, true), (3, true), (4, true), (5, true), (6, true), (7, true), (8, true)] rfl (by kernel_rfl) ?_
      refine xr rfl ?_
      obtain ⟨q70, hF⟩ := req_some hF
      obtain ⟨c71, hr71, hd71⟩ := SlAt.get h68 q70
      obtain rfl := hr71
      refine Exec.fia tyOk rfl rfl rfl ⟨q70.1, q70.2, hd71.some⟩ ?_
      refine xr rfl ?_
      refine Exec.fld tyOk (x := .int .i64 ((atI x22 x63))) rfl rfl rfl hd71 rfl rfl ?_
      refine xr rfl ?_
      obtain ⟨q72, hF⟩ := req_some hF
      obtain ⟨c73, hr73, hd73⟩ := SlAt.get h69 q72
      obtain rfl := hr73
      refine Exec.fia tyOk rfl rfl rfl ⟨q72.1, q72.2, hd73.some⟩ ?_
      refine xr rfl ?_
      refine Exec.fld tyOk (x := .int .i64 ((atI x30 x63))) rfl rfl rfl hd73 rfl rfl ?_
      refine xr rfl ?_
      rcases cond_some hF with ⟨hb, hF⟩ | ⟨hb, hF⟩
      ·refine Exec.ifT rfl hb ?_
       refine xr rfl ?_
       obtain rfl := some_inj hF
       exact Exec.ret tyOk rfl rfl rfl
      ·refine Exec.ifF rfl hb ?_
       refine xr rfl ?_
       exact Exec.round [(1, .v (.slice a4 ((x3).length) (k4))), (7, .v (.slice a10 ((x9).length) (k10))), (9, .v (.slice a23 ((x22).length) (k23))), (10, .v (.slice a31 ((x30).length) (k31))), (11, .v (.int .i64 (x39))), (13, .v (.int .i64 ((IntKind.i64.wrap (x63 + (1 : Int))))))] ⟨rfl, rfl, rfl, rfl, rfl, rfl, trivial⟩ ⟨n64, Nat.lt_succ_self _, (IntKind.i64.wrap (x63 + (1 : Int))), rfl, rfl, h66, h67, h68, h69, hF⟩
     ·refine Exec.ifF rfl hb ?_
      refine xr rfl ?_
      exact Exec.round [(1, .v (.slice a4 ((x3).length) (k4))), (7, .v (.slice a10 ((x9).length) (k10))), (11, .v (.int .i64 (x39)))] ⟨rfl, rfl, rfl, trivial⟩ ⟨rfl, rfl, h66, h67, hF⟩
   ·refine xr rfl ?_
    refine Exec.cut 0 [(1, .v (.slice a4 ((x3).length) (k4))), (7, .v (.slice a10 ((x9).length) (k10))), (8, .v (.slice a16 ((x15).length) (k16))), (9, .v (.slice a23 ((x22).length) (k23))), (10, .v (.slice a31 ((x30).length) (k31))), (11, .v (.int .i64 ((0 : Int)))), (12, .v (.int .i64 ((0 : Int))))] (M' := []) rfl ⟨rfl, rfl, rfl, rfl, rfl, rfl, rfl, trivial⟩ rfl rfl rfl ?_
    refine Exec.loop (fun n76 L' V' M' => ∃ (x74 : Int) (x75 : Int), L' = [(1, .v (.slice a4 ((x3).length) (k4))), (7, .v (.slice a10 ((x9).length) (k10))), (8, .v (.slice a16 ((x15).length) (k16))), (9, .v (.slice a23 ((x22).length) (k23))), (10, .v (.slice a31 ((x30).length) (k31))), (11, .v (.int .i64 (x74))), (12, .v (.int .i64 (x75)))] ∧ M' = [] ∧ SlAt cTShard V' a4 k4 x3 ∧ SlAt (cInt .i64) V' a10 k10 x9 ∧ SlAt (cInt .i64) V' a16 k16 x15 ∧ SlAt (cInt .i64) V' a23 k23 x22 ∧ SlAt (cInt .i64) V' a31 k31 x30 ∧ F_clockworklaw35_RebalanceCounts_L3 x9 x15 J40 n76 x74 x75 = some r) ⟨(((((x9).length : Nat) : Int)).toNat + 1), [(1, .v (.slice a4 ((x3).length) (k4))), (7, .v (.slice a10 ((x9).length) (k10))), (8, .v (.slice a16 ((x15).length) (k16))), (9, .v (.slice a23 ((x22).length) (k23))), (10, .v (.slice a31 ((x30).length) (k31))), (11, .v (.int .i64 ((0 : Int)))), (12, .v (.int .i64 ((0 : Int))))], ⟨rfl, rfl, rfl, rfl, rfl, rfl, rfl, trivial⟩, (0 : Int), (0 : Int), rfl, rfl, h34, h36, h37, h38, h31, hF⟩ ?_
    rintro n76 L' V77 M' ⟨x74, x75, rfl, rfl, h78, h79, h80, h81, h82, hF⟩
    rcases n76 with _ | n76
    ·exact absurd hF (by simp [F_clockworklaw35_RebalanceCounts_L3])
    rw [F_clockworklaw35_RebalanceCounts_L3] at hF
    refine xr rfl ?_
    rcases cond_some hF with ⟨hb, hF⟩ | ⟨hb, hF⟩
    ·refine Exec.ifT rfl hb ?_
     refine xr rfl ?_
     refine Exec.draws tyOk [(0, true), (1, true), (2, true), (3, true), (4, true), (5, true), (6, true), (7, true), (8, true)] rfl (by kernel_rfl) ?_
     refine xr rfl ?_
     obtain ⟨q83, hF⟩ := req_some hF
     obtain ⟨c84, hr84, hd84⟩ := SlAt.get h79 q83
     obtain rfl := hr84
     refine Exec.fia tyOk rfl rfl rfl ⟨q83.1, q83.2, hd84.some⟩ ?_
     refine xr rfl ?_
     refine Exec.fld tyOk (x := .int .i64 ((atI x9 x75))) rfl rfl rfl hd84 rfl rfl ?_
     refine xr rfl ?_
     obtain ⟨q85, hF⟩ := req_some hF
     obtain ⟨c86, hr86, hd86⟩ := SlAt.get h80 q85
     obtain rfl := hr86
     refine Exec.fia tyOk rfl rfl rfl ⟨q85.1, q85.2, hd86.some⟩ ?_
     refine xr rfl ?_
     refine Exec.fld tyOk (x := .int .i64 ((atI x15 x75))) rfl rfl rfl hd86 rfl rfl ?_
     refine xr rfl ?_
     rcases cond_some hF with ⟨hb, hF⟩ | ⟨hb, hF⟩
     ·refine Exec.ifT rfl hb ?_
      refine xr rfl ?_
      obtain rfl := some_inj hF
      exact Exec.ret tyOk rfl rfl rfl
     ·refine Exec.ifF rfl hb ?_
      refine xr rfl ?_
      obtain ⟨q87, hF⟩ := req_some hF
      obtain ⟨c88, hr88, hd88⟩ := SlAt.get h79 q87
      obtain rfl := hr88
      refine Exec.ia tyOk rfl rfl ⟨q87.1, q87.2, hd88.some⟩ ?_
      refine xr rfl ?_
      refine Exec.ld tyOk (x := .int .i64 ((atI x9 x75))) rfl rfl hd88 rfl rfl ?_
      refine xr rfl ?_
      exact Exec.round [(1, .v (.slice a4 ((x3).length) (k4))), (7, .v (.slice a10 ((x9).length) (k10))), (8, .v (.slice a16 ((x15).length) (k16))), (9, .v (.slice a23 ((x22).length) (k23))), (10, .v (.slice a31 ((x30).length) (k31))), (11, .v (.int .i64 ((IntKind.i64.wrap (x74 + (atI x9 x75)))))), (12, .v (.int .i64 ((IntKind.i64.wrap (x75 + (1 : Int))))))] ⟨rfl, rfl, rfl, rfl, rfl, rfl, rfl, trivial⟩ ⟨n76, Nat.lt_succ_self _, (IntKind.i64.wrap (x74 + (atI x9 x75))), (IntKind.i64.wrap (x75 + (1 : Int))), rfl, rfl, h78, h79, h80, h81, h82, hF⟩
    ·refine Exec.ifF rfl hb ?_
     refine xr rfl ?_
     exact Exec.round [(1, .v (.slice a4 ((x3).length) (k4))), (7, .v (.slice a10 ((x9).length) (k10))), (9, .v (.slice a23 ((x22).length) (k23))), (10, .v (.slice a31 ((x30).length) (k31))), (11, .v (.int .i64 (x74)))] ⟨rfl, rfl, rfl, rfl, rfl, trivial⟩ ⟨x74, rfl, rfl, h78, h79, h81, h82, hF⟩
def F_clockworklaw35_RebalanceApplies (x1 : TPlacement) (x3 : List TShard) (x5 : TMarker) : Option Bool :=
 (bnd (F_clockworkref35_Few x1 x3 (([] : List THeat)) ((60 : Int))) fun x6 => (cond ((!x6) || (decide ((100 : Int) < ((x5.Key).length : Int)))) (bnd (F_clockworklaw35_lives ) fun x7 => (some x7)) (bnd (F_rebalance_Apply x1 x3 x5) fun x8 => (bnd (F_clockworkref35_Apply x1 x3 x5) fun x14 => (bnd (F_clockworkref29_Same x8.1 x14.1) fun x22 => (bnd (gcall ((x22) == true) (F_clockworkref32_Same x8.2.1 x14.2.1)) fun x23 => (bnd (gcall ((((x22 && x23) && (x8.2.2 == x14.2.2))) == true) (F_clockworklaw35_lives )) fun x24 => (some (((x22 && x23) && (x8.2.2 == x14.2.2)) && x24)))))))))
theorem W_clockworklaw35_RebalanceApplies {V : View} (x1 : TPlacement) (x3 : List TShard) (x5 : TMarker) {a2 : Option Addr} {k2 : Nat} {a4 : Option Addr} {k4 : Nat} (h2 : SlAt cTPart V a2 k2 x1.Parts) (h4 : SlAt cTShard V a4 k4 x3) {r : Bool} (hF : F_clockworklaw35_RebalanceApplies x1 x3 x5 = some r) :
  Spec Tryz.prog 5 [.agg ⟨[.int .i64 (x1.Version), .slice a2 ((x1.Parts).length) (k2)]⟩, .slice a4 ((x3).length) (k4), .agg ⟨[.int .i64 (x5.Kind), .int .i64 (x5.Part), .int .i64 (x5.New), .int .i64 (x5.Node), .int .i64 (x5.N), .string ⟨⟨x5.Key⟩⟩]⟩] V (fun _ v => v = .bool (r)) := by
 unfold F_clockworklaw35_RebalanceApplies at hF
 refine Spec.enter (T := tyT) Tryz.func5 rfl (by kernel_rfl) rfl rfl rfl ?_
 refine xr rfl ?_
 obtain ⟨x6, hx6, hF⟩ := bnd_some hF
 refine Exec.callS (.bool (x6)) rfl rfl (W_clockworkref35_Few x1 x3 (([] : List THeat)) ((60 : Int)) h2 h4 SlAt.nil hx6) ?_
 refine xr rfl ?_
 rcases cond_some hF with ⟨hb, hF⟩ | ⟨hb, hF⟩
 ·refine Exec.ifT rfl hb ?_
  refine xr rfl ?_
  obtain ⟨x7, hx7, hF⟩ := bnd_some hF
  refine Exec.callS (.bool (x7)) rfl rfl (W_clockworklaw35_lives   hx7) ?_
  refine xr rfl ?_
  obtain rfl := some_inj hF
  exact Exec.ret tyOk rfl rfl rfl
 ·refine Exec.ifF rfl hb ?_
  refine xr rfl ?_
  obtain ⟨x8, hx8, hF⟩ := bnd_some hF
  refine Exec.call rfl rfl (W_rebalance_Apply x1 x3 x5 h2 h4 hx8) ?_
  rintro V11 _ hv11 ⟨a9, k9, a10, k10, rfl, h9, h10⟩
  have h12 := SlAt.mono h2 hv11
  have h13 := SlAt.mono h4 hv11
  refine xr rfl ?_
  obtain ⟨x14, hx14, hF⟩ := bnd_some hF
  refine Exec.call rfl rfl (W_clockworkref35_Apply x1 x3 x5 h12 h13 hx14) ?_
  rintro V17 _ hv17 ⟨a15, k15, a16, k16, rfl, h15, h16⟩
  have h18 := SlAt.mono h12 hv17
  have h19 := SlAt.mono h13 hv17
  have h20 := SlAt.mono h10 hv17
  have h21 := SlAt.mono h9 hv17
  refine xr rfl ?_
  obtain ⟨x22, hx22, hF⟩ := bnd_some hF
  refine Exec.callS (.bool (x22)) rfl rfl (W_clockworkref29_Same x8.1 x14.1 h21 h15 hx22) ?_
  refine xr rfl ?_
  obtain ⟨x23, hx23, hF⟩ := bnd_some hF
  refine Exec.callS (.bool (x23)) rfl rfl (fun gg0 => W_clockworkref32_Same x8.2.1 x14.2.1 h20 h16 (gcall_some hx23 (gd1_of gg0))) ?_
  refine xr rfl ?_
  obtain ⟨x24, hx24, hF⟩ := bnd_some hF
  refine Exec.callS (.bool (x24)) rfl rfl (fun gg0 => W_clockworklaw35_lives   (gcall_some hx24 (gd1_of gg0))) ?_
  refine xr rfl ?_
  obtain rfl := some_inj hF
  exact Exec.ret tyOk rfl rfl rfl
end Go.Proofs.YtglnnhmmipopiaaGreat
