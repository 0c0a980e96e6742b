/-
 Functions of the program as their counterparts say them (printed by a program).
 Conditions: none.
-/
import Derived.Test.YtglnnhmmipopiaaGreatHd
set_option linter.all false
namespace Go.Proofs.YtglnnhmmipopiaaGreat
set_option maxRecDepth 100000
def F_rebalance_Loads_L1 (x3 : List THeat) (x1 : TPlacement) (J12 : (List Int) → Option (List Int)) : Nat → (List Int) → Int → Option (List Int)
 | 0, _, _ => none
 | n20 + 1, x18, x19 => (cond (decide (x19 < (((x3).length : Nat) : Int))) (req (0 ≤ x19 ∧ x19 < ((x3).length : Int)) (bnd (F_placement_Index x1 ((atI x3 x19).Key)) fun x26 => (req (0 ≤ x26 ∧ x26 < ((x18).length : Int)) (req (0 ≤ x26 ∧ x26 < ((x18).length : Int)) (F_rebalance_Loads_L1 x3 x1 J12 n20 ((x18.set (x26).toNat ((IntKind.i64.wrap ((atI x18 x26) + (atI x3 x19).Count))))) ((IntKind.i64.wrap (x19 + (1 : Int))))))))) (J12 x18))
def F_rebalance_Loads (x1 : TPlacement) (x3 : List THeat) : Option (List Int) :=
 (bnd (F_placement_Valid x1) fun x5 => (bnd (gcall (((!x5)) == false) (F_heat_Valid x3)) fun x6 => (cond ((!x5) || (!x6)) (some ([] : List Int)) (req (0 ≤ (((x1.Parts).length : Nat) : Int) ∧ (((x1.Parts).length : Nat) : Int) ≤ (((x1.Parts).length : Nat) : Int)) (req (8 * ((((x1.Parts).length : Nat) : Int)).toNat ≤ 281474976710656) (jn (fun (x11 : List Int) => (some x11)) (fun J12 => (F_rebalance_Loads_L1 x3 x1 J12 (((((x3).length : Nat) : Int)).toNat + 1) ((List.replicate ((((x1.Parts).length : Nat) : Int)).toNat (default : Int))) ((0 : Int))))))))))
theorem W_rebalance_Loads {V : View} (x1 : TPlacement) (x3 : List THeat) {a2 : Option Addr} {k2 : Nat} {a4 : Option Addr} {k4 : Nat} (h2 : SlAt cTPart V a2 k2 x1.Parts) (h4 : SlAt cTHeat V a4 k4 x3) {r : List Int} (hF : F_rebalance_Loads x1 x3 = some r) :
  Spec Tryz.prog 17 [.agg ⟨[.int .i64 (x1.Version), .slice a2 ((x1.Parts).length) (k2)]⟩, .slice a4 ((x3).length) (k4)] V (fun V' v => ∃ (a34 : Option Addr) (k34 : Nat), v = .slice a34 ((r).length) (k34) ∧ SlAt (cInt .i64) V' a34 k34 r) := by
 unfold F_rebalance_Loads at hF
 refine Spec.enter (T := tyT) Tryz.func17 rfl (by kernel_rfl) rfl rfl rfl ?_
 refine xr rfl ?_
 obtain ⟨x5, hx5, hF⟩ := bnd_some hF
 refine Exec.callS (.bool (x5)) rfl rfl (W_placement_Valid x1 h2 hx5) ?_
 refine xr rfl ?_
 obtain ⟨x6, hx6, hF⟩ := bnd_some hF
 refine Exec.callS (.bool (x6)) rfl rfl (fun gg0 => W_heat_Valid x3 h4 (gcall_some hx6 (gd1_of gg0))) ?_
 refine xr rfl ?_
 rcases cond_some hF with ⟨hb, hF⟩ | ⟨hb, hF⟩
 ·refine Exec.ifT rfl hb ?_
  refine xr rfl ?_
  obtain rfl := some_inj hF
  exact Exec.ret tyOk rfl rfl ⟨_, _, rfl, SlAt.nil⟩
 ·refine Exec.ifF rfl hb ?_
  refine xr rfl ?_
  obtain ⟨q7, hF⟩ := req_some hF
  obtain ⟨q8, hF⟩ := req_some hF
  refine Exec.mkr tyOk rfl rfl rfl rfl (nm := ((List.replicate ((((x1.Parts).length : Nat) : Int)).toNat (default : Int))).length) (by simp) q7 q8 (fun _ => rfl) (fun a9 => ?_)
  have h9 : RowRep (cInt .i64) V (List.replicate ((((x1.Parts).length : Nat) : Int)).toNat (default : Int)) ((List.replicate ((List.replicate ((((x1.Parts).length : Nat) : Int)).toNat (default : Int))).length [.int .i64 (0)]).flatten) := by rw [List.length_replicate]; exact RowRep.reps (c := (cInt .i64)) rfl _
  refine Exec.run tyOk 9 rfl ?_
  obtain ⟨J12, hJ12, hF⟩ := jn_some hF
  refine Exec.seam (fun L' V' M' => ∃ (x11 : List Int) (a10 : Option Addr) (k10 : Nat) (cs10 : List Value), L' = [(5, .v (.slice a10 ((x11).length) (k10)))] ∧ M' = [.blk [.v (.int .i64 (x1.Version)), .v (.slice a2 ((x1.Parts).length) (k2))] 24, .row (.slice a10 ((x11).length) (k10)) cs10 2 1] ∧ RowRep (cInt .i64) V' x11 cs10 ∧ SlAt cTPart V' a2 k2 x1.Parts ∧ J12 x11 = some r) rfl ?_ ?_
  ·rintro L' V13 M' ⟨x11, a10, k10, cs10, rfl, rfl, h10, h14, hF⟩
   subst hJ12
   refine xr rfl ?_
   refine Exec.frz 1 rfl rfl rfl (fun V15 hv15 hd15 hn15 => ?_)
   have hz15 := RowRep.slat h10 hv15 hd15 hn15
   have h16 := SlAt.mono h14 hv15
   obtain rfl := some_inj hF
   exact Exec.ret tyOk rfl rfl ⟨_, _, rfl, hz15⟩
  ·refine xr rfl ?_
   refine Exec.loop (fun n20 L' V' M' => ∃ (x18 : List Int) (a17 : Option Addr) (k17 : Nat) (cs17 : List Value) (x19 : Int), L' = [(2, .ptr 0 0), (5, .v (.slice a17 ((x18).length) (k17))), (20, .v (.slice a4 ((x3).length) (k4))), (21, .v (.int .i64 ((((x3).length : Nat) : Int)))), (22, .v (.int .i64 (x19)))] ∧ M' = [.blk [.v (.int .i64 (x1.Version)), .v (.slice a2 ((x1.Parts).length) (k2))] 24, .row (.slice a17 ((x18).length) (k17)) cs17 2 1] ∧ RowRep (cInt .i64) V' x18 cs17 ∧ SlAt cTHeat V' a4 k4 x3 ∧ SlAt cTPart V' a2 k2 x1.Parts ∧ F_rebalance_Loads_L1 x3 x1 J12 n20 x18 x19 = some r) ⟨(((((x3).length : Nat) : Int)).toNat + 1), [(2, .ptr 0 0), (5, .v (.slice ((some a9)) (((List.replicate ((((x1.Parts).length : Nat) : Int)).toNat (default : Int))).length) (((((x1.Parts).length : Nat) : Int)).toNat))), (20, .v (.slice a4 ((x3).length) (k4))), (21, .v (.int .i64 ((((x3).length : Nat) : Int)))), (22, .v (.int .i64 ((0 : Int))))], ⟨rfl, rfl, rfl, rfl, rfl, trivial⟩, (List.replicate ((((x1.Parts).length : Nat) : Int)).toNat (default : Int)), (some a9), ((((x1.Parts).length : Nat) : Int)).toNat, ((List.replicate ((List.replicate ((((x1.Parts).length : Nat) : Int)).toNat (default : Int))).length [.int .i64 (0)]).flatten), (0 : Int), rfl, rfl, h9, h4, h2, hF⟩ ?_
   rintro n20 L' V21 M' ⟨x18, a17, k17, cs17, x19, rfl, rfl, h17, h22, h23, hF⟩
   rcases n20 with _ | n20
   ·exact absurd hF (by simp [F_rebalance_Loads_L1])
   rw [F_rebalance_Loads_L1] at hF
   refine xr rfl ?_
   rcases cond_some hF with ⟨hb, hF⟩ | ⟨hb, hF⟩
   ·refine Exec.ifT rfl hb ?_
    refine xr rfl ?_
    obtain ⟨q24, hF⟩ := req_some hF
    obtain ⟨c25, hr25, hd25⟩ := SlAt.get h22 q24
    obtain rfl := hr25
    refine Exec.ia tyOk rfl rfl ⟨q24.1, q24.2, hd25.some⟩ ?_
    refine xr rfl ?_
    refine Exec.ld tyOk (x := .agg ⟨[.string ⟨⟨(atI x3 x19).Key⟩⟩, .int .i64 ((atI x3 x19).Count)]⟩) rfl rfl hd25 rfl rfl ?_
    refine xr rfl ?_
    refine Exec.draws tyOk [(0, true), (1, true), (2, true), (3, true), (7, true), (8, true), (4, false), (5, false), (6, false), (9, false), (10, false), (11, false)] rfl (by kernel_rfl) ?_
    refine xr rfl ?_
    obtain ⟨x26, hx26, hF⟩ := bnd_some hF
    refine Exec.callS (.int .i64 (x26)) rfl rfl (W_placement_Index x1 ((atI x3 x19).Key) h23 hx26) ?_
    refine xr rfl ?_
    obtain ⟨q27, hF⟩ := req_some hF
    refine Exec.rowI 1 rfl (fun ra28 rb28 rc28 => ?_)
    obtain ⟨c29, hr29, hd29⟩ := RowRep.get h17 q27
    obtain rfl := hr29
    have rd28 : 0 ≤ x26 ∧ x26 < (((x18).length : Nat) : Int) := q27
    have rs28 := rb28 (by omega)
    refine Exec.ia tyOk rfl rfl ⟨rd28.1, rd28.2, rs28⟩ ?_
    refine xr rfl ?_
    refine Exec.ldR tyOk 1 (x := .int .i64 ((atI x18 x26))) rfl rfl rfl ⟨hd29, rs28⟩ rfl rfl ?_
    refine xr rfl ?_
    obtain ⟨q30, hF⟩ := req_some hF
    refine Exec.rowI 1 rfl (fun ra31 rb31 rc31 => ?_)
    obtain ⟨c32, hr32, hd32⟩ := RowRep.get h17 q30
    obtain rfl := hr32
    have rd31 : 0 ≤ x26 ∧ x26 < (((x18).length : Nat) : Int) := q30
    have rs31 := rb31 (by omega)
    refine Exec.ia tyOk rfl rfl ⟨rd31.1, rd31.2, rs31⟩ ?_
    refine xr rfl ?_
    have rl33 := RowRep.len h17
    have h33 : RowRep (cInt .i64) V21 (x18.set (x26).toNat ((IntKind.i64.wrap ((atI x18 x26) + (atI x3 x19).Count)))) (cs17.take ((x26).toNat * 1) ++ [.int .i64 ((IntKind.i64.wrap ((atI x18 x26) + (atI x3 x19).Count)))] ++ cs17.drop (((x26).toNat * 1) + 1)) := RowRep.set h17 q30 rfl
    refine Exec.stR tyOk 1 rfl rfl rfl rfl rfl rs31 (stB q30 rl33) rfl rfl rfl ?_
    refine xr rfl ?_
    refine Exec.cut 2 [(2, .ptr 0 0), (5, .v (.slice a17 ((x18).length) (k17))), (20, .v (.slice a4 ((x3).length) (k4))), (21, .v (.int .i64 ((((x3).length : Nat) : Int)))), (22, .v (.int .i64 ((IntKind.i64.wrap (x19 + (1 : Int))))))] (M' := [.blk [.v (.int .i64 (x1.Version)), .v (.slice a2 ((x1.Parts).length) (k2))] 24, .row (.slice a17 ((x18).length) (k17)) ((cs17.take ((x26).toNat * 1) ++ [.int .i64 ((IntKind.i64.wrap ((atI x18 x26) + (atI x3 x19).Count)))] ++ cs17.drop (((x26).toNat * 1) + 1))) 2 1]) rfl ⟨rfl, rfl, rfl, rfl, rfl, trivial⟩ rfl rfl rfl ?_
    exact Exec.round [(2, .ptr 0 0), (5, .v (.slice a17 (((x18.set (x26).toNat ((IntKind.i64.wrap ((atI x18 x26) + (atI x3 x19).Count))))).length) (k17))), (20, .v (.slice a4 ((x3).length) (k4))), (21, .v (.int .i64 ((((x3).length : Nat) : Int)))), (22, .v (.int .i64 ((IntKind.i64.wrap (x19 + (1 : Int))))))] ⟨rfl, look_eq rfl (by simp), rfl, rfl, rfl, trivial⟩ ⟨n20, Nat.lt_succ_self _, (x18.set (x26).toNat ((IntKind.i64.wrap ((atI x18 x26) + (atI x3 x19).Count)))), a17, k17, (cs17.take ((x26).toNat * 1) ++ [.int .i64 ((IntKind.i64.wrap ((atI x18 x26) + (atI x3 x19).Count)))] ++ cs17.drop (((x26).toNat * 1) + 1)), (IntKind.i64.wrap (x19 + (1 : Int))), rfl, (by simp), h33, h22, h23, hF⟩
   ·refine Exec.ifF rfl hb ?_
    refine xr rfl ?_
    exact Exec.round [(5, .v (.slice a17 ((x18).length) (k17)))] ⟨rfl, trivial⟩ ⟨x18, a17, k17, cs17, rfl, rfl, h17, h23, hF⟩
def F_clockworkref35_Loads_L1 (x3 : List THeat) (x1 : TPlacement) (J12 : (List Int) → Option (List Int)) : Nat → (List Int) → Int → Option (List Int)
 | 0, _, _ => none
 | n20 + 1, x18, x19 => (cond (decide (x19 < (((x3).length : Nat) : Int))) (req (0 ≤ x19 ∧ x19 < ((x3).length : Int)) (bnd (F_clockworkref29_Index x1 ((atI x3 x19).Key)) fun x26 => (req (0 ≤ x26 ∧ x26 < ((x18).length : Int)) (req (0 ≤ x19 ∧ x19 < ((x3).length : Int)) (req (0 ≤ x26 ∧ x26 < ((x18).length : Int)) (F_clockworkref35_Loads_L1 x3 x1 J12 n20 ((x18.set (x26).toNat ((IntKind.i64.wrap ((atI x18 x26) + (atI x3 x19).Count))))) ((IntKind.i64.wrap (x19 + (1 : Int)))))))))) (J12 x18))
def F_clockworkref35_Loads (x1 : TPlacement) (x3 : List THeat) : Option (List Int) :=
 (bnd (F_clockworkref29_Valid x1) fun x5 => (bnd (gcall (((!x5)) == false) (F_clockworkref34_Valid x3)) fun x6 => (cond ((!x5) || (!x6)) (some ([] : List Int)) (req (0 ≤ (((x1.Parts).length : Nat) : Int) ∧ (((x1.Parts).length : Nat) : Int) ≤ (((x1.Parts).length : Nat) : Int)) (req (8 * ((((x1.Parts).length : Nat) : Int)).toNat ≤ 281474976710656) (jn (fun (x11 : List Int) => (some x11)) (fun J12 => (F_clockworkref35_Loads_L1 x3 x1 J12 (((((x3).length : Nat) : Int)).toNat + 1) ((List.replicate ((((x1.Parts).length : Nat) : Int)).toNat (default : Int))) ((0 : Int))))))))))
theorem W_clockworkref35_Loads {V : View} (x1 : TPlacement) (x3 : List THeat) {a2 : Option Addr} {k2 : Nat} {a4 : Option Addr} {k4 : Nat} (h2 : SlAt cTPart V a2 k2 x1.Parts) (h4 : SlAt cTHeat V a4 k4 x3) {r : List Int} (hF : F_clockworkref35_Loads x1 x3 = some r) :
  Spec Tryz.prog 18 [.agg ⟨[.int .i64 (x1.Version), .slice a2 ((x1.Parts).length) (k2)]⟩, .slice a4 ((x3).length) (k4)] V (fun V' v => ∃ (a36 : Option Addr) (k36 : Nat), v = .slice a36 ((r).length) (k36) ∧ SlAt (cInt .i64) V' a36 k36 r) := by
 unfold F_clockworkref35_Loads at hF
 refine Spec.enter (T := tyT) Tryz.func18 rfl (by kernel_rfl) rfl rfl rfl ?_
 refine xr rfl ?_
 obtain ⟨x5, hx5, hF⟩ := bnd_some hF
 refine Exec.callS (.bool (x5)) rfl rfl (W_clockworkref29_Valid x1 h2 hx5) ?_
 refine xr rfl ?_
 obtain ⟨x6, hx6, hF⟩ := bnd_some hF
 refine Exec.callS (.bool (x6)) rfl rfl (fun gg0 => W_clockworkref34_Valid x3 h4 (gcall_some hx6 (gd1_of gg0))) ?_
 refine xr rfl ?_
 rcases cond_some hF with ⟨hb, hF⟩ | ⟨hb, hF⟩
 ·refine Exec.ifT rfl hb ?_
  refine xr rfl ?_
  obtain rfl := some_inj hF
  exact Exec.ret tyOk rfl rfl ⟨_, _, rfl, SlAt.nil⟩
 ·refine Exec.ifF rfl hb ?_
  refine xr rfl ?_
  obtain ⟨q7, hF⟩ := req_some hF
  obtain ⟨q8, hF⟩ := req_some hF
  refine Exec.mkr tyOk rfl rfl rfl rfl (nm := ((List.replicate ((((x1.Parts).length : Nat) : Int)).toNat (default : Int))).length) (by simp) q7 q8 (fun _ => rfl) (fun a9 => ?_)
  have h9 : RowRep (cInt .i64) V (List.replicate ((((x1.Parts).length : Nat) : Int)).toNat (default : Int)) ((List.replicate ((List.replicate ((((x1.Parts).length : Nat) : Int)).toNat (default : Int))).length [.int .i64 (0)]).flatten) := by rw [List.length_replicate]; exact RowRep.reps (c := (cInt .i64)) rfl _
  refine Exec.run tyOk 7 rfl ?_
  obtain ⟨J12, hJ12, hF⟩ := jn_some hF
  refine Exec.seam (fun L' V' M' => ∃ (x11 : List Int) (a10 : Option Addr) (k10 : Nat) (cs10 : List Value), L' = [(5, .v (.slice a10 ((x11).length) (k10)))] ∧ M' = [.blk [.v (.int .i64 (x1.Version)), .v (.slice a2 ((x1.Parts).length) (k2))] 24, .row (.slice a10 ((x11).length) (k10)) cs10 2 1] ∧ RowRep (cInt .i64) V' x11 cs10 ∧ SlAt cTPart V' a2 k2 x1.Parts ∧ J12 x11 = some r) rfl ?_ ?_
  ·rintro L' V13 M' ⟨x11, a10, k10, cs10, rfl, rfl, h10, h14, hF⟩
   subst hJ12
   refine xr rfl ?_
   refine Exec.frz 1 rfl rfl rfl (fun V15 hv15 hd15 hn15 => ?_)
   have hz15 := RowRep.slat h10 hv15 hd15 hn15
   have h16 := SlAt.mono h14 hv15
   obtain rfl := some_inj hF
   exact Exec.ret tyOk rfl rfl ⟨_, _, rfl, hz15⟩
  ·refine xr rfl ?_
   refine Exec.loop (fun n20 L' V' M' => ∃ (x18 : List Int) (a17 : Option Addr) (k17 : Nat) (cs17 : List Value) (x19 : Int), L' = [(1, .v (.slice a4 ((x3).length) (k4))), (2, .ptr 0 0), (5, .v (.slice a17 ((x18).length) (k17))), (6, .v (.int .i64 (x19)))] ∧ M' = [.blk [.v (.int .i64 (x1.Version)), .v (.slice a2 ((x1.Parts).length) (k2))] 24, .row (.slice a17 ((x18).length) (k17)) cs17 2 1] ∧ RowRep (cInt .i64) V' x18 cs17 ∧ SlAt cTHeat V' a4 k4 x3 ∧ SlAt cTPart V' a2 k2 x1.Parts ∧ F_clockworkref35_Loads_L1 x3 x1 J12 n20 x18 x19 = some r) ⟨(((((x3).length : Nat) : Int)).toNat + 1), [(1, .v (.slice a4 ((x3).length) (k4))), (2, .ptr 0 0), (5, .v (.slice ((some a9)) (((List.replicate ((((x1.Parts).length : Nat) : Int)).toNat (default : Int))).length) (((((x1.Parts).length : Nat) : Int)).toNat))), (6, .v (.int .i64 ((0 : Int))))], ⟨rfl, rfl, rfl, rfl, trivial⟩, (List.replicate ((((x1.Parts).length : Nat) : Int)).toNat (default : Int)), (some a9), ((((x1.Parts).length : Nat) : Int)).toNat, ((List.replicate ((List.replicate ((((x1.Parts).length : Nat) : Int)).toNat (default : Int))).length [.int .i64 (0)]).flatten), (0 : Int), rfl, rfl, h9, h4, h2, hF⟩ ?_
   rintro n20 L' V21 M' ⟨x18, a17, k17, cs17, x19, rfl, rfl, h17, h22, h23, hF⟩
   rcases n20 with _ | n20
   ·exact absurd hF (by simp [F_clockworkref35_Loads_L1])
   rw [F_clockworkref35_Loads_L1] at hF
   refine xr rfl ?_
   rcases cond_some hF with ⟨hb, hF⟩ | ⟨hb, hF⟩
   ·refine Exec.ifT rfl hb ?_
    refine xr rfl ?_
    refine Exec.draws tyOk [(0, true), (1, true), (2, true), (3, true), (4, true), (5, true), (6, false), (7, false)] rfl (by kernel_rfl) ?_
    refine xr rfl ?_
    obtain ⟨q24, hF⟩ := req_some hF
    obtain ⟨c25, hr25, hd25⟩ := SlAt.get h22 q24
    obtain rfl := hr25
    refine Exec.fia tyOk rfl rfl rfl ⟨q24.1, q24.2, hd25.some⟩ ?_
    refine xr rfl ?_
    refine Exec.fld tyOk (x := .string ⟨⟨(atI x3 x19).Key⟩⟩) rfl rfl rfl (RdAt.part hd25 0 1 rfl) rfl rfl ?_
    refine xr rfl ?_
    obtain ⟨x26, hx26, hF⟩ := bnd_some hF
    refine Exec.callS (.int .i64 (x26)) rfl rfl (W_clockworkref29_Index x1 ((atI x3 x19).Key) h23 hx26) ?_
    refine xr rfl ?_
    refine Exec.draws tyOk [(0, true), (1, true), (2, true), (3, true), (4, true), (5, true), (6, true), (7, true), (8, true), (9, true), (10, true), (11, true), (12, true), (13, false)] rfl (by kernel_rfl) ?_
    refine xr rfl ?_
    obtain ⟨q27, hF⟩ := req_some hF
    refine Exec.rowI 1 rfl (fun ra28 rb28 rc28 => ?_)
    obtain ⟨c29, hr29, hd29⟩ := RowRep.get h17 q27
    obtain rfl := hr29
    have rd28 : 0 ≤ x26 ∧ x26 < (((x18).length : Nat) : Int) := q27
    have rs28 := rb28 (by omega)
    refine Exec.fia tyOk rfl rfl rfl ⟨rd28.1, rd28.2, rs28⟩ ?_
    refine xr rfl ?_
    refine Exec.fldR tyOk 1 (x := .int .i64 ((atI x18 x26))) rfl rfl rfl rfl ⟨hd29, rs28⟩ rfl rfl ?_
    refine xr rfl ?_
    obtain ⟨q30, hF⟩ := req_some hF
    obtain ⟨c31, hr31, hd31⟩ := SlAt.get h22 q30
    obtain rfl := hr31
    refine Exec.fia tyOk rfl rfl rfl ⟨q30.1, q30.2, hd31.some⟩ ?_
    refine xr rfl ?_
    refine Exec.fld tyOk (x := .int .i64 ((atI x3 x19).Count)) rfl rfl rfl (RdAt.part hd31 1 1 rfl) rfl rfl ?_
    refine xr rfl ?_
    obtain ⟨q32, hF⟩ := req_some hF
    refine Exec.rowI 1 rfl (fun ra33 rb33 rc33 => ?_)
    obtain ⟨c34, hr34, hd34⟩ := RowRep.get h17 q32
    obtain rfl := hr34
    have rd33 : 0 ≤ x26 ∧ x26 < (((x18).length : Nat) : Int) := q32
    have rs33 := rb33 (by omega)
    refine Exec.fia tyOk rfl rfl rfl ⟨rd33.1, rd33.2, rs33⟩ ?_
    refine xr rfl ?_
    have rl35 := RowRep.len h17
    have h35 : RowRep (cInt .i64) V21 (x18.set (x26).toNat ((IntKind.i64.wrap ((atI x18 x26) + (atI x3 x19).Count)))) (cs17.take ((x26).toNat * 1) ++ [.int .i64 ((IntKind.i64.wrap ((atI x18 x26) + (atI x3 x19).Count)))] ++ cs17.drop (((x26).toNat * 1) + 1)) := RowRep.set h17 q32 rfl
    refine Exec.stR tyOk 1 rfl rfl rfl rfl rfl rs33 (stB q32 rl35) rfl rfl rfl ?_
    refine xr rfl ?_
    exact Exec.round [(1, .v (.slice a4 ((x3).length) (k4))), (2, .ptr 0 0), (5, .v (.slice a17 (((x18.set (x26).toNat ((IntKind.i64.wrap ((atI x18 x26) + (atI x3 x19).Count))))).length) (k17))), (6, .v (.int .i64 ((IntKind.i64.wrap (x19 + (1 : Int))))))] ⟨rfl, rfl, look_eq rfl (by simp), rfl, trivial⟩ ⟨n20, Nat.lt_succ_self _, (x18.set (x26).toNat ((IntKind.i64.wrap ((atI x18 x26) + (atI x3 x19).Count)))), a17, k17, (cs17.take ((x26).toNat * 1) ++ [.int .i64 ((IntKind.i64.wrap ((atI x18 x26) + (atI x3 x19).Count)))] ++ cs17.drop (((x26).toNat * 1) + 1)), (IntKind.i64.wrap (x19 + (1 : Int))), rfl, (by simp), h35, h22, h23, hF⟩
   ·refine Exec.ifF rfl hb ?_
    refine xr rfl ?_
    exact Exec.round [(5, .v (.slice a17 ((x18).length) (k17)))] ⟨rfl, trivial⟩ ⟨x18, a17, k17, cs17, rfl, rfl, h17, h23, hF⟩
def F_state_Valid (x1 : List TPair) : Option Bool :=
 (bnd (F_state_sorted x1) fun x3 => (bnd (gcall ((x3) == true) (F_slices_ContainsFunc_api_Pair_api_Pair x1 (fun y0 => F_state_absent y0 ))) fun x4 => (some (x3 && (!x4)))))
theorem W_state_Valid {V : View} (x1 : List TPair) {a2 : Option Addr} {k2 : Nat} (h2 : SlAt cTPair V a2 k2 x1) {r : Bool} (hF : F_state_Valid x1 = some r) :
  Spec Tryz.prog 30 [.slice a2 ((x1).length) (k2)] V (fun _ v => v = .bool (r)) := by
 unfold F_state_Valid at hF
 refine Spec.enter (T := tyT) Tryz.func30 rfl (by kernel_rfl) rfl rfl rfl ?_
 refine xr rfl ?_
 obtain ⟨x3, hx3, hF⟩ := bnd_some hF
 refine Exec.callS (.bool (x3)) rfl rfl (W_state_sorted x1 h2 hx3) ?_
 refine xr rfl ?_
 obtain ⟨x4, hx4, hF⟩ := bnd_some hF
 refine Exec.callS (.bool (x4)) rfl rfl (fun gg0 => W_slices_ContainsFunc_api_Pair_api_Pair x1 (fun y0 => F_state_absent y0 ) h2 (fun V' hv y0 r hr => W_state_absent y0   hr) (gcall_some hx4 (gd1_of gg0))) ?_
 refine xr rfl ?_
 obtain rfl := some_inj hF
 exact Exec.ret tyOk rfl rfl rfl
-- uses W_state_merge_api_Pair
def unRel (b0 b2 : Nat) (_V : View) (s : List TPair × Bool) (r0 r1 r2 : RowD) : Prop :=
 ∃ a k cs, r0 = ⟨.slice (some ⟨b0, 0, none⟩) 1 1, [.slice a s.1.length k], 33, 1⟩ ∧ r1 = ⟨.slice a s.1.length k, cs, 56, 4⟩ ∧
  r2 = ⟨.slice (some ⟨b2, 0, none⟩) 1 1, [.bool s.2], 4, 1⟩ ∧ RowRep cTPair _V s.1 cs
def unKeep (s : List TPair × Bool) (y : TPair) : Option (List TPair × Bool) := req ((s.1 ++ [y]).length * 48 ≤ 140737488355328) (some (s.1 ++ [y], s.2))
def unTwice (s : List TPair × Bool) (_ _ : TPair) : Option (List TPair × Bool) := some (s.1, true)
theorem X_Union1 {V : View} (b0 b2 : Nat) : FnSt1 Tryz.prog 66 [.pointer (some ⟨b0, 0, none⟩)] V mkPair (unRel b0 b2) unKeep := by
 intro V1 hv s r0 r1 r2 y s' ⟨a, k, cs, h0, h1, h2, hrep⟩ hg
 subst h0; subst h1; subst h2
 obtain ⟨l, t⟩ := s
 unfold unKeep at hg
 obtain ⟨q, hg⟩ := req_some hg
 obtain rfl := some_inj hg
 refine SpecR.enter (T := tyT) Tryz.func66 rfl (by kernel_rfl) rfl rfl rfl (M := [.row (.slice (some ⟨b0, 0, none⟩) 1 1) [.slice a l.length k] 33 1, .row (.slice a l.length k) cs 56 4, .row (.slice (some ⟨b2, 0, none⟩) 1 1) [.bool t] 4 1]) rfl ?_
 refine xr rfl ?_
 refine Exec.ldR tyOk 0 (l := [.slice a l.length k]) rfl rfl rfl ⟨fun j v hv => by simpa using hv, b0, 0, rfl⟩ rfl rfl ?_
 refine xr rfl ?_
 refine Exec.bsl tyOk rfl rfl ?_
 refine xr rfl ?_
 refine Exec.app tyOk 1 4 (nm := (l ++ [y]).length) rfl rfl rfl rfl rfl rfl rfl rfl rfl (by simp) (fun _ _ => rfl) rfl q (fun a3 k3 => ?_)
 refine xr rfl ?_
 refine Exec.stR tyOk 0 rfl rfl rfl rfl rfl ⟨b0, 0, rfl⟩ (Nat.le_refl _) rfl rfl rfl ?_
 refine xr rfl ?_
 refine Exec.fall tyOk rfl rfl ?_
 dsimp only
 exact ⟨[⟨.slice (some ⟨b0, 0, none⟩) 1 1, [.slice a3 (l ++ [y]).length k3], _, 1⟩, ⟨.slice a3 (l ++ [y]).length k3, _, _, 4⟩, ⟨.slice (some ⟨b2, 0, none⟩) 1 1, [.bool t], _, 1⟩], rfl, rfl, rfl, _, _, _, rfl, a3, k3, _, rfl, rfl, rfl, RowRep.app hrep ⟨_, _, rfl, rfl, rfl⟩⟩
theorem X_Union2 {V : View} (b0 b2 : Nat) : FnSt2 Tryz.prog 69 [.pointer (some ⟨b2, 0, none⟩)] V mkPair mkPair (unRel b0 b2) unTwice := by
 intro V1 hv s r0 r1 r2 y y2 s' ⟨a, k, cs, h0, h1, h2, hrep⟩ hg
 subst h0; subst h1; subst h2
 obtain ⟨l, t⟩ := s
 unfold unTwice at hg
 obtain rfl := some_inj hg
 refine SpecR.enter (T := tyT) Tryz.func69 rfl (by kernel_rfl) rfl rfl rfl (M := [.row (.slice (some ⟨b0, 0, none⟩) 1 1) [.slice a l.length k] 33 1, .row (.slice a l.length k) cs 56 4, .row (.slice (some ⟨b2, 0, none⟩) 1 1) [.bool t] 4 1]) rfl ?_
 refine xr rfl ?_
 refine Exec.stR tyOk 2 rfl rfl rfl rfl rfl ⟨b2, 0, rfl⟩ (Nat.le_refl _) rfl rfl rfl ?_
 refine xr rfl ?_
 refine Exec.fall tyOk rfl rfl ?_
 dsimp only
 exact ⟨[⟨.slice (some ⟨b0, 0, none⟩) 1 1, [.slice a l.length k], _, 1⟩, ⟨.slice a l.length k, cs, _, 4⟩, ⟨.slice (some ⟨b2, 0, none⟩) 1 1, [.bool true], _, 1⟩], rfl, rfl, rfl, _, _, _, rfl, a, k, cs, rfl, rfl, rfl, hrep⟩
def F_state_Union (x1 x3 : List TPair) : Option (List TPair × Int) :=
 bnd (F_state_Valid x1) fun x5 => bnd (gcall ((!x5) == false) (F_state_Valid x3)) fun x6 => cond ((!x5) || (!x6)) (some ([], 1))
  (bnd (mergeF x1 x3 F_state_order unKeep unKeep unTwice ([], false)) fun s => cond s.2 (some ([], 8)) (some (s.1, 0)))
theorem W_state_Union {V : View} (x1 : List TPair) (x3 : List TPair) {a2 : Option Addr} {k2 : Nat} {a4 : Option Addr} {k4 : Nat} (h2 : SlAt cTPair V a2 k2 x1) (h4 : SlAt cTPair V a4 k4 x3) {r : List TPair × Int} (hF : F_state_Union x1 x3 = some r) :
  Spec Tryz.prog 31 [.slice a2 ((x1).length) (k2), .slice a4 ((x3).length) (k4)] V (fun V' v => ∃ (a22 : Option Addr) (k22 : Nat), v = .tuple ⟨[.slice a22 ((r.1).length) (k22), .int .i64 (r.2)]⟩ ∧ SlAt cTPair V' a22 k22 r.1) := by
 unfold F_state_Union at hF
 refine Spec.enter (T := tyT) Tryz.func31 rfl (by kernel_rfl) rfl rfl rfl ?_
 refine xr rfl ?_
 obtain ⟨x5, hx5, hF⟩ := bnd_some hF
 refine Exec.callS (.bool (x5)) rfl rfl (W_state_Valid x1 h2 hx5) ?_
 refine xr rfl ?_
 obtain ⟨x6, hx6, hF⟩ := bnd_some hF
 refine Exec.callS (.bool (x6)) rfl rfl (fun gg0 => W_state_Valid x3 h4 (gcall_some hx6 (gd1_of gg0))) ?_
 refine xr rfl ?_
 rcases cond_some hF with ⟨hb, hF⟩ | ⟨hb, hF⟩
 ·refine Exec.ifT rfl hb ?_
  refine xr rfl ?_
  obtain rfl := some_inj hF
  exact Exec.ret tyOk rfl rfl ⟨_, _, rfl, SlAt.nil⟩
 ·refine Exec.ifF rfl hb ?_
  refine xr rfl ?_
  refine Exec.fixR 0 (n := 1) (sz := 1) rfl rfl rfl rfl rfl (fun _ => rfl) (fun _ => rfl) (fun _ => rfl) (fun b0 => ?_)
  refine Exec.mkf rfl rfl ?_
  refine xr rfl ?_
  refine Exec.fixR 1 (n := 1) (sz := 1) rfl rfl rfl rfl rfl (fun _ => rfl) (fun _ => rfl) (fun _ => rfl) (fun b2 => ?_)
  refine Exec.mkf rfl rfl ?_
  refine Exec.row0 56 4 rfl ?_
  obtain ⟨s, hs, hF⟩ := bnd_some hF
  refine Exec.callR [0, 2, 1] (rs := [⟨.slice (some ⟨b0, 0, none⟩) 1 1, [.slice none 0 0], 33, 1⟩, ⟨.slice none 0 0, [], 56, 4⟩, ⟨.slice (some ⟨b2, 0, none⟩) 1 1, [.bool false], 4, 1⟩]) rfl rfl rfl rfl rfl rfl
   (X_merge (rel := unRel b0 b2) x1 x3 F_state_order unKeep unKeep unTwice h2 h4 (fun V' hv y0 y1 r hr => W_state_order y0 y1 hr) (X_Union1 b0 b2) (X_Union1 b0 b2) (X_Union2 b0 b2) (s := ([], false)) ⟨none, 0, [], rfl, rfl, rfl, RowRep.nil⟩ hs) ?_
  rintro V7 _ _ hv7 ⟨rfl, q0, q1, q2, rfl, a, k, cs, rfl, rfl, rfl, hrep⟩
  refine ⟨_, rfl, ?_⟩
  refine xr rfl ?_
  refine Exec.ldR tyOk 1 (l := [.bool s.2]) rfl rfl rfl ⟨fun j v hv => by simpa using hv, b2, 0, rfl⟩ rfl rfl ?_
  refine xr rfl ?_
  rcases cond_some hF with ⟨hb, hF⟩ | ⟨hb, hF⟩
  ·refine Exec.ifT rfl hb ?_
   refine xr rfl ?_
   obtain rfl := some_inj hF
   exact Exec.ret tyOk rfl rfl ⟨_, _, rfl, SlAt.nil⟩
  ·refine Exec.ifF rfl hb ?_
   refine xr rfl ?_
   refine Exec.ldR tyOk 0 (l := [.slice a s.1.length k]) rfl rfl rfl ⟨fun j v hv => by simpa using hv, b0, 0, rfl⟩ rfl rfl ?_
   refine xr rfl ?_
   refine Exec.frz 2 rfl rfl rfl (fun V13 hv13 hd13 hn13 => ?_)
   have hz13 := RowRep.slat hrep hv13 hd13 hn13
   obtain rfl := some_inj hF
   exact Exec.ret tyOk rfl rfl ⟨_, _, rfl, hz13⟩
def F_placement_Nodes_L1 (x1 : TPlacement) (J7 : (List Int) → Option (List Int)) : Nat → (List Int) → Int → Option (List Int)
 | 0, _, _ => none
 | n18 + 1, x16, x17 => (cond (decide (x17 < (((x1.Parts).length : Nat) : Int))) (req (0 ≤ x17 ∧ x17 < ((x1.Parts).length : Int)) (req (((x16 ++ [(atI x1.Parts x17).Node])).length * 8 ≤ 140737488355328) (jn (fun (x26 : List Int) => (F_placement_Nodes_L1 x1 J7 n18 x26 ((IntKind.i64.wrap (x17 + (1 : Int)))))) (fun J27 => (cond ((atI x1.Parts x17).Dest != (0 : Int)) (req ((((x16 ++ [(atI x1.Parts x17).Node]) ++ [(atI x1.Parts x17).Dest])).length * 8 ≤ 140737488355328) (J27 (((x16 ++ [(atI x1.Parts x17).Node]) ++ [(atI x1.Parts x17).Dest])))) (J27 ((x16 ++ [(atI x1.Parts x17).Node])))))))) (J7 x16))
def F_placement_Nodes (x1 : TPlacement) : Option (List Int) :=
 (bnd (F_placement_Valid x1) fun x3 => (cond (!x3) (some ([] : List Int)) (jn (fun (x6 : List Int) => (req ((x6).length < 4611686018427387904) (some (compactL (sortL x6))))) (fun J7 => (F_placement_Nodes_L1 x1 J7 (((((x1.Parts).length : Nat) : Int)).toNat + 1) (([] : List Int)) ((0 : Int)))))))
theorem W_placement_Nodes {V : View} (x1 : TPlacement) {a2 : Option Addr} {k2 : Nat} (h2 : SlAt cTPart V a2 k2 x1.Parts) {r : List Int} (hF : F_placement_Nodes x1 = some r) :
  Spec Tryz.prog 32 [.agg ⟨[.int .i64 (x1.Version), .slice a2 ((x1.Parts).length) (k2)]⟩] V (fun V' v => ∃ (a32 : Option Addr) (k32 : Nat), v = .slice a32 ((r).length) (k32) ∧ SlAt (cInt .i64) V' a32 k32 r) := by
 unfold F_placement_Nodes at hF
 refine Spec.enter (T := tyT) Tryz.func32 rfl (by kernel_rfl) rfl rfl rfl ?_
 refine xr rfl ?_
 obtain ⟨x3, hx3, hF⟩ := bnd_some hF
 refine Exec.callS (.bool (x3)) rfl rfl (W_placement_Valid x1 h2 hx3) ?_
 refine xr rfl ?_
 rcases cond_some hF with ⟨hb, hF⟩ | ⟨hb, hF⟩
 ·refine Exec.ifT rfl hb ?_
  refine xr rfl ?_
  obtain rfl := some_inj hF
  exact Exec.ret tyOk rfl rfl ⟨_, _, rfl, SlAt.nil⟩
 ·refine Exec.ifF rfl hb ?_
  refine Exec.run tyOk 13 rfl ?_
  refine Exec.row0 3 1 rfl ?_
  have h4 : RowRep (cInt .i64) V ([] : List Int) [] := RowRep.nil
  obtain ⟨J7, hJ7, hF⟩ := jn_some hF
  refine Exec.seam (fun L' V' M' => ∃ (x6 : List Int) (a5 : Option Addr) (k5 : Nat) (cs5 : List Value), L' = [(3, .v (.slice a5 ((x6).length) (k5)))] ∧ M' = [.blk [.v (.int .i64 (x1.Version)), .v (.slice a2 ((x1.Parts).length) (k2))] 24, .row (.slice a5 ((x6).length) (k5)) cs5 3 1] ∧ RowRep (cInt .i64) V' x6 cs5 ∧ SlAt cTPart V' a2 k2 x1.Parts ∧ J7 x6 = some r) rfl ?_ ?_
  ·rintro L' V8 M' ⟨x6, a5, k5, cs5, rfl, rfl, h5, h9, hF⟩
   subst hJ7
   refine xr rfl ?_
   obtain ⟨q11, hF⟩ := req_some hF
   refine Exec.callM 1 rfl rfl rfl rfl (sortI_row h5 (fun cs e => by subst e; exact (sortI_specM ⟨_, rfl, by kernel_rfl, by kernel_rfl⟩ Tryz.slices_Sort_int Tryz.slices_Sort_int_none q11))) ?_
   rintro VV10 _ _ _ ⟨rfl, hVV, rfl⟩
   have hVV := hVV.symm
   subst hVV
   refine ⟨_, rfl, ?_⟩
   have h10 : RowRep (cInt .i64) V8 (sortL x6) ((sortL x6).map (Value.int .i64)) := RowRep.ofInts _
   refine xr rfl ?_
   refine Exec.callM 1 rfl rfl rfl rfl (compactI_row h10 (fun cs e => by subst e; exact (compactI_specM ⟨_, rfl, by kernel_rfl, by kernel_rfl⟩ Tryz.slices_Compact_int Tryz.slices_Compact_int_empty))) ?_
   rintro VV12 _ _ _ ⟨rfl, hVV, rfl⟩
   have hVV := hVV.symm
   subst hVV
   refine ⟨_, rfl, ?_⟩
   have h12 : RowRep (cInt .i64) V8 (compactL (sortL x6)) ((compactL (sortL x6)).map (Value.int .i64)) := RowRep.ofInts _
   refine xr rfl ?_
   refine Exec.frz 1 rfl rfl rfl (fun V13 hv13 hd13 hn13 => ?_)
   have hz13 := RowRep.slat h12 hv13 hd13 hn13
   have h14 := SlAt.mono h9 hv13
   obtain rfl := some_inj hF
   exact Exec.ret tyOk rfl rfl ⟨_, _, rfl, hz13⟩
  ·refine xr rfl ?_
   refine Exec.loop (fun n18 L' V' M' => ∃ (x16 : List Int) (a15 : Option Addr) (k15 : Nat) (cs15 : List Value) (x17 : Int), L' = [(3, .v (.slice a15 ((x16).length) (k15))), (10, .v (.slice a2 ((x1.Parts).length) (k2))), (11, .v (.int .i64 ((((x1.Parts).length : Nat) : Int)))), (12, .v (.int .i64 (x17)))] ∧ M' = [.blk [.v (.int .i64 (x1.Version)), .v (.slice a2 ((x1.Parts).length) (k2))] 24, .row (.slice a15 ((x16).length) (k15)) cs15 3 1] ∧ RowRep (cInt .i64) V' x16 cs15 ∧ SlAt cTPart V' a2 k2 x1.Parts ∧ F_placement_Nodes_L1 x1 J7 n18 x16 x17 = some r) ⟨(((((x1.Parts).length : Nat) : Int)).toNat + 1), [(3, .v (.slice none ((([] : List Int)).length) (0))), (10, .v (.slice a2 ((x1.Parts).length) (k2))), (11, .v (.int .i64 ((((x1.Parts).length : Nat) : Int)))), (12, .v (.int .i64 ((0 : Int))))], ⟨rfl, rfl, rfl, rfl, trivial⟩, ([] : List Int), none, 0, [], (0 : Int), rfl, rfl, h4, h2, hF⟩ ?_
   rintro n18 L' V19 M' ⟨x16, a15, k15, cs15, x17, rfl, rfl, h15, h20, hF⟩
   rcases n18 with _ | n18
   ·exact absurd hF (by simp [F_placement_Nodes_L1])
   rw [F_placement_Nodes_L1] at hF
   refine xr rfl ?_
   rcases cond_some hF with ⟨hb, hF⟩ | ⟨hb, hF⟩
   ·refine Exec.ifT rfl hb ?_
    refine xr rfl ?_
    obtain ⟨q21, hF⟩ := req_some hF
    obtain ⟨c22, hr22, hd22⟩ := SlAt.get h20 q21
    obtain rfl := hr22
    refine Exec.ia tyOk rfl rfl ⟨q21.1, q21.2, hd22.some⟩ ?_
    refine xr rfl ?_
    refine Exec.ld tyOk (x := .agg ⟨[.int .i64 ((atI x1.Parts x17).Id), .string ⟨⟨(atI x1.Parts x17).From⟩⟩, .int .i64 ((atI x1.Parts x17).Node), .int .i64 ((atI x1.Parts x17).Dest), .string ⟨⟨(atI x1.Parts x17).Done⟩⟩]⟩) rfl rfl hd22 rfl rfl ?_
    refine xr rfl ?_
    refine Exec.bsl tyOk rfl rfl ?_
    refine xr rfl ?_
    obtain ⟨q24, hF⟩ := req_some hF
    refine Exec.app tyOk 1 3 (nm := ((x16 ++ [(atI x1.Parts x17).Node])).length) rfl rfl rfl rfl rfl rfl rfl rfl rfl (by simp) (fun _ _ => rfl) rfl q24 (fun a23 k23 => ?_)
    have h23 : RowRep (cInt .i64) V19 (x16 ++ [(atI x1.Parts x17).Node]) (cs15 ++ [.int .i64 ((atI x1.Parts x17).Node)]) := RowRep.app h15 ⟨_, _, rfl, rfl, rfl⟩
    refine xr rfl ?_
    obtain ⟨J27, hJ27, hF⟩ := jn_some hF
    refine Exec.seam (fun L' V' M' => ∃ (x26 : List Int) (a25 : Option Addr) (k25 : Nat) (cs25 : List Value), L' = [(3, .v (.slice a25 ((x26).length) (k25))), (10, .v (.slice a2 ((x1.Parts).length) (k2))), (11, .v (.int .i64 ((((x1.Parts).length : Nat) : Int)))), (12, .v (.int .i64 (x17)))] ∧ M' = [.blk [.v (.int .i64 (x1.Version)), .v (.slice a2 ((x1.Parts).length) (k2))] 24, .row (.slice a25 ((x26).length) (k25)) cs25 3 1] ∧ RowRep (cInt .i64) V' x26 cs25 ∧ SlAt cTPart V' a2 k2 x1.Parts ∧ J27 x26 = some r) rfl ?_ ?_
    ·rintro L' V28 M' ⟨x26, a25, k25, cs25, rfl, rfl, h25, h29, hF⟩
     subst hJ27
     refine xr rfl ?_
     exact Exec.round [(3, .v (.slice a25 ((x26).length) (k25))), (10, .v (.slice a2 ((x1.Parts).length) (k2))), (11, .v (.int .i64 ((((x1.Parts).length : Nat) : Int)))), (12, .v (.int .i64 ((IntKind.i64.wrap (x17 + (1 : Int))))))] ⟨rfl, rfl, rfl, rfl, trivial⟩ ⟨n18, Nat.lt_succ_self _, x26, a25, k25, cs25, (IntKind.i64.wrap (x17 + (1 : Int))), rfl, rfl, h25, h29, hF⟩
    ·refine xr rfl ?_
     rcases cond_some hF with ⟨hb, hF⟩ | ⟨hb, hF⟩
     ·refine Exec.ifT rfl hb ?_
      refine xr rfl ?_
      refine Exec.bsl tyOk rfl rfl ?_
      refine xr rfl ?_
      obtain ⟨q31, hF⟩ := req_some hF
      refine Exec.app tyOk 1 4 (nm := (((x16 ++ [(atI x1.Parts x17).Node]) ++ [(atI x1.Parts x17).Dest])).length) rfl rfl rfl rfl rfl rfl rfl rfl rfl (by simp) (fun _ _ => rfl) rfl q31 (fun a30 k30 => ?_)
      have h30 : RowRep (cInt .i64) V19 ((x16 ++ [(atI x1.Parts x17).Node]) ++ [(atI x1.Parts x17).Dest]) ((cs15 ++ [.int .i64 ((atI x1.Parts x17).Node)]) ++ [.int .i64 ((atI x1.Parts x17).Dest)]) := RowRep.app h23 ⟨_, _, rfl, rfl, rfl⟩
      refine xr rfl ?_
      refine Exec.cut 2 [(3, .v (.slice a30 ((((x16 ++ [(atI x1.Parts x17).Node]) ++ [(atI x1.Parts x17).Dest])).length) (k30))), (10, .v (.slice a2 ((x1.Parts).length) (k2))), (11, .v (.int .i64 ((((x1.Parts).length : Nat) : Int)))), (12, .v (.int .i64 (x17)))] (M' := [.blk [.v (.int .i64 (x1.Version)), .v (.slice a2 ((x1.Parts).length) (k2))] 24, .row (.slice a30 ((((x16 ++ [(atI x1.Parts x17).Node]) ++ [(atI x1.Parts x17).Dest])).length) (k30)) (((cs15 ++ [.int .i64 ((atI x1.Parts x17).Node)]) ++ [.int .i64 ((atI x1.Parts x17).Dest)])) 3 1]) rfl ⟨rfl, rfl, rfl, rfl, trivial⟩ rfl rfl rfl ?_
      exact Exec.round [(3, .v (.slice a30 ((((x16 ++ [(atI x1.Parts x17).Node]) ++ [(atI x1.Parts x17).Dest])).length) (k30))), (10, .v (.slice a2 ((x1.Parts).length) (k2))), (11, .v (.int .i64 ((((x1.Parts).length : Nat) : Int)))), (12, .v (.int .i64 (x17)))] ⟨rfl, rfl, rfl, rfl, trivial⟩ ⟨((x16 ++ [(atI x1.Parts x17).Node]) ++ [(atI x1.Parts x17).Dest]), a30, k30, ((cs15 ++ [.int .i64 ((atI x1.Parts x17).Node)]) ++ [.int .i64 ((atI x1.Parts x17).Dest)]), rfl, rfl, h30, h20, hF⟩
     ·refine Exec.ifF rfl hb ?_
      refine xr rfl ?_
      refine Exec.cut 2 [(3, .v (.slice a23 (((x16 ++ [(atI x1.Parts x17).Node])).length) (k23))), (10, .v (.slice a2 ((x1.Parts).length) (k2))), (11, .v (.int .i64 ((((x1.Parts).length : Nat) : Int)))), (12, .v (.int .i64 (x17)))] (M' := [.blk [.v (.int .i64 (x1.Version)), .v (.slice a2 ((x1.Parts).length) (k2))] 24, .row (.slice a23 (((x16 ++ [(atI x1.Parts x17).Node])).length) (k23)) ((cs15 ++ [.int .i64 ((atI x1.Parts x17).Node)])) 3 1]) rfl ⟨rfl, rfl, rfl, rfl, trivial⟩ rfl rfl rfl ?_
      exact Exec.round [(3, .v (.slice a23 (((x16 ++ [(atI x1.Parts x17).Node])).length) (k23))), (10, .v (.slice a2 ((x1.Parts).length) (k2))), (11, .v (.int .i64 ((((x1.Parts).length : Nat) : Int)))), (12, .v (.int .i64 (x17)))] ⟨rfl, rfl, rfl, rfl, trivial⟩ ⟨(x16 ++ [(atI x1.Parts x17).Node]), a23, k23, (cs15 ++ [.int .i64 ((atI x1.Parts x17).Node)]), rfl, rfl, h23, h20, hF⟩
   ·refine Exec.ifF rfl hb ?_
    refine xr rfl ?_
    exact Exec.round [(3, .v (.slice a15 ((x16).length) (k15)))] ⟨rfl, trivial⟩ ⟨x16, a15, k15, cs15, rfl, rfl, h15, h20, hF⟩
def F_dist_owned_L1 (x3 : List TPair) (x1 : TPlacement) (x5 : Int) (J9 : (List TPair) → Option (List TPair)) : Nat → (List TPair) → Int → Option (List TPair)
 | 0, _, _ => none
 | n17 + 1, x15, x16 => (cond (decide (x16 < (((x3).length : Nat) : Int))) (req (0 ≤ x16 ∧ x16 < ((x3).length : Int)) (bnd (F_placement_Owner x1 ((atI x3 x16).Key)) fun x23 => (jn (fun (x25 : List TPair) => (F_dist_owned_L1 x3 x1 x5 J9 n17 x25 ((IntKind.i64.wrap (x16 + (1 : Int)))))) (fun J26 => (cond (x23 == x5) (req (((x15 ++ [(atI x3 x16)])).length * 48 ≤ 140737488355328) (J26 ((x15 ++ [(atI x3 x16)])))) (J26 x15)))))) (J9 x15))
def F_dist_owned (x1 : TPlacement) (x3 : List TPair) (x5 : Int) : Option (List TPair) :=
 (jn (fun (x8 : List TPair) => (some x8)) (fun J9 => (F_dist_owned_L1 x3 x1 x5 J9 (((((x3).length : Nat) : Int)).toNat + 1) (([] : List TPair)) ((0 : Int)))))
theorem W_dist_owned {V : View} (x1 : TPlacement) (x3 : List TPair) (x5 : Int) {a2 : Option Addr} {k2 : Nat} {a4 : Option Addr} {k4 : Nat} (h2 : SlAt cTPart V a2 k2 x1.Parts) (h4 : SlAt cTPair V a4 k4 x3) {r : List TPair} (hF : F_dist_owned x1 x3 x5 = some r) :
  Spec Tryz.prog 34 [.agg ⟨[.int .i64 (x1.Version), .slice a2 ((x1.Parts).length) (k2)]⟩, .slice a4 ((x3).length) (k4), .int .i64 (x5)] V (fun V' v => ∃ (a32 : Option Addr) (k32 : Nat), v = .slice a32 ((r).length) (k32) ∧ SlAt cTPair V' a32 k32 r) := by
 unfold F_dist_owned at hF
 refine Spec.enter (T := tyT) Tryz.func34 rfl (by kernel_rfl) rfl rfl rfl ?_
 refine Exec.run tyOk 16 rfl ?_
 refine Exec.row0 56 4 rfl ?_
 have h6 : RowRep cTPair V ([] : List TPair) [] := RowRep.nil
 obtain ⟨J9, hJ9, hF⟩ := jn_some hF
 refine Exec.seam (fun L' V' M' => ∃ (x8 : List TPair) (a7 : Option Addr) (k7 : Nat) (cs7 : List Value), L' = [(7, .v (.slice a7 ((x8).length) (k7)))] ∧ M' = [.blk [.v (.int .i64 (x1.Version)), .v (.slice a2 ((x1.Parts).length) (k2))] 24, .row (.slice a7 ((x8).length) (k7)) cs7 56 4] ∧ RowRep cTPair V' x8 cs7 ∧ SlAt cTPart V' a2 k2 x1.Parts ∧ J9 x8 = some r) rfl ?_ ?_
 ·rintro L' V10 M' ⟨x8, a7, k7, cs7, rfl, rfl, h7, h11, hF⟩
  subst hJ9
  refine xr rfl ?_
  refine Exec.frz 1 rfl rfl rfl (fun V12 hv12 hd12 hn12 => ?_)
  have hz12 := RowRep.slat h7 hv12 hd12 hn12
  have h13 := SlAt.mono h11 hv12
  obtain rfl := some_inj hF
  exact Exec.ret tyOk rfl rfl ⟨_, _, rfl, hz12⟩
 ·refine xr rfl ?_
  refine Exec.loop (fun n17 L' V' M' => ∃ (x15 : List TPair) (a14 : Option Addr) (k14 : Nat) (cs14 : List Value) (x16 : Int), L' = [(2, .v (.int .i64 (x5))), (3, .ptr 0 0), (7, .v (.slice a14 ((x15).length) (k14))), (10, .v (.slice a4 ((x3).length) (k4))), (11, .v (.int .i64 ((((x3).length : Nat) : Int)))), (12, .v (.int .i64 (x16)))] ∧ M' = [.blk [.v (.int .i64 (x1.Version)), .v (.slice a2 ((x1.Parts).length) (k2))] 24, .row (.slice a14 ((x15).length) (k14)) cs14 56 4] ∧ RowRep cTPair V' x15 cs14 ∧ SlAt cTPair V' a4 k4 x3 ∧ SlAt cTPart V' a2 k2 x1.Parts ∧ F_dist_owned_L1 x3 x1 x5 J9 n17 x15 x16 = some r) ⟨(((((x3).length : Nat) : Int)).toNat + 1), [(2, .v (.int .i64 (x5))), (3, .ptr 0 0), (7, .v (.slice none ((([] : List TPair)).length) (0))), (10, .v (.slice a4 ((x3).length) (k4))), (11, .v (.int .i64 ((((x3).length : Nat) : Int)))), (12, .v (.int .i64 ((0 : Int))))], ⟨rfl, rfl, rfl, rfl, rfl, rfl, trivial⟩, ([] : List TPair), none, 0, [], (0 : Int), rfl, rfl, h6, h4, h2, hF⟩ ?_
  rintro n17 L' V18 M' ⟨x15, a14, k14, cs14, x16, rfl, rfl, h14, h19, h20, hF⟩
  rcases n17 with _ | n17
  ·exact absurd hF (by simp [F_dist_owned_L1])
  rw [F_dist_owned_L1] at hF
  refine xr rfl ?_
  rcases cond_some hF with ⟨hb, hF⟩ | ⟨hb, hF⟩
  ·refine Exec.ifT rfl hb ?_
   refine xr rfl ?_
   obtain ⟨q21, hF⟩ := req_some hF
   obtain ⟨c22, hr22, hd22⟩ := SlAt.get h19 q21
   obtain rfl := hr22
   refine Exec.ia tyOk rfl rfl ⟨q21.1, q21.2, hd22.some⟩ ?_
   refine xr rfl ?_
   refine Exec.ld tyOk (x := .agg ⟨[.string ⟨⟨(atI x3 x16).Key⟩⟩, .int .i64 ((atI x3 x16).Val.Kind), .int .i64 ((atI x3 x16).Val.N), .string ⟨⟨(atI x3 x16).Val.S⟩⟩]⟩) rfl rfl hd22 rfl rfl ?_
   refine xr rfl ?_
   obtain ⟨x23, hx23, hF⟩ := bnd_some hF
   refine Exec.callS (.int .i64 (x23)) rfl rfl (W_placement_Owner x1 ((atI x3 x16).Key) h20 hx23) ?_
   refine xr rfl ?_
   obtain ⟨J26, hJ26, hF⟩ := jn_some hF
   refine Exec.seam (fun L' V' M' => ∃ (x25 : List TPair) (a24 : Option Addr) (k24 : Nat) (cs24 : List Value), L' = [(2, .v (.int .i64 (x5))), (3, .ptr 0 0), (7, .v (.slice a24 ((x25).length) (k24))), (10, .v (.slice a4 ((x3).length) (k4))), (11, .v (.int .i64 ((((x3).length : Nat) : Int)))), (12, .v (.int .i64 (x16)))] ∧ M' = [.blk [.v (.int .i64 (x1.Version)), .v (.slice a2 ((x1.Parts).length) (k2))] 24, .row (.slice a24 ((x25).length) (k24)) cs24 56 4] ∧ RowRep cTPair V' x25 cs24 ∧ SlAt cTPair V' a4 k4 x3 ∧ SlAt cTPart V' a2 k2 x1.Parts ∧ J26 x25 = some r) rfl ?_ ?_
   ·rintro L' V27 M' ⟨x25, a24, k24, cs24, rfl, rfl, h24, h28, h29, hF⟩
    subst hJ26
    refine xr rfl ?_
    exact Exec.round [(2, .v (.int .i64 (x5))), (3, .ptr 0 0), (7, .v (.slice a24 ((x25).length) (k24))), (10, .v (.slice a4 ((x3).length) (k4))), (11, .v (.int .i64 ((((x3).length : Nat) : Int)))), (12, .v (.int .i64 ((IntKind.i64.wrap (x16 + (1 : Int))))))] ⟨rfl, rfl, rfl, rfl, rfl, rfl, trivial⟩ ⟨n17, Nat.lt_succ_self _, x25, a24, k24, cs24, (IntKind.i64.wrap (x16 + (1 : Int))), rfl, rfl, h24, h28, h29, hF⟩
   ·refine xr rfl ?_
    rcases cond_some hF with ⟨hb, hF⟩ | ⟨hb, hF⟩
    ·refine Exec.ifT rfl hb ?_
     refine xr rfl ?_
     refine Exec.bsl tyOk rfl rfl ?_
     refine xr rfl ?_
     obtain ⟨q31, hF⟩ := req_some hF
     refine Exec.app tyOk 1 3 (nm := ((x15 ++ [(atI x3 x16)])).length) rfl rfl rfl rfl rfl rfl rfl rfl rfl (by simp) (fun _ _ => rfl) rfl q31 (fun a30 k30 => ?_)
     have h30 : RowRep cTPair V18 (x15 ++ [(atI x3 x16)]) (cs14 ++ [.string ⟨⟨(atI x3 x16).Key⟩⟩, .int .i64 ((atI x3 x16).Val.Kind), .int .i64 ((atI x3 x16).Val.N), .string ⟨⟨(atI x3 x16).Val.S⟩⟩]) := RowRep.app h14 ⟨_, _, rfl, rfl, rfl⟩
     refine xr rfl ?_
     refine Exec.cut 2 [(2, .v (.int .i64 (x5))), (3, .ptr 0 0), (7, .v (.slice a30 (((x15 ++ [(atI x3 x16)])).length) (k30))), (10, .v (.slice a4 ((x3).length) (k4))), (11, .v (.int .i64 ((((x3).length : Nat) : Int)))), (12, .v (.int .i64 (x16)))] (M' := [.blk [.v (.int .i64 (x1.Version)), .v (.slice a2 ((x1.Parts).length) (k2))] 24, .row (.slice a30 (((x15 ++ [(atI x3 x16)])).length) (k30)) ((cs14 ++ [.string ⟨⟨(atI x3 x16).Key⟩⟩, .int .i64 ((atI x3 x16).Val.Kind), .int .i64 ((atI x3 x16).Val.N), .string ⟨⟨(atI x3 x16).Val.S⟩⟩])) 56 4]) rfl ⟨rfl, rfl, rfl, rfl, rfl, rfl, trivial⟩ rfl rfl rfl ?_
     exact Exec.round [(2, .v (.int .i64 (x5))), (3, .ptr 0 0), (7, .v (.slice a30 (((x15 ++ [(atI x3 x16)])).length) (k30))), (10, .v (.slice a4 ((x3).length) (k4))), (11, .v (.int .i64 ((((x3).length : Nat) : Int)))), (12, .v (.int .i64 (x16)))] ⟨rfl, rfl, rfl, rfl, rfl, rfl, trivial⟩ ⟨(x15 ++ [(atI x3 x16)]), a30, k30, (cs14 ++ [.string ⟨⟨(atI x3 x16).Key⟩⟩, .int .i64 ((atI x3 x16).Val.Kind), .int .i64 ((atI x3 x16).Val.N), .string ⟨⟨(atI x3 x16).Val.S⟩⟩]), rfl, rfl, h30, h19, h20, hF⟩
    ·refine Exec.ifF rfl hb ?_
     refine xr rfl ?_
     refine Exec.cut 2 [(2, .v (.int .i64 (x5))), (3, .ptr 0 0), (7, .v (.slice a14 ((x15).length) (k14))), (10, .v (.slice a4 ((x3).length) (k4))), (11, .v (.int .i64 ((((x3).length : Nat) : Int)))), (12, .v (.int .i64 (x16)))] (M' := [.blk [.v (.int .i64 (x1.Version)), .v (.slice a2 ((x1.Parts).length) (k2))] 24, .row (.slice a14 ((x15).length) (k14)) cs14 56 4]) rfl ⟨rfl, rfl, rfl, rfl, rfl, rfl, trivial⟩ rfl rfl rfl ?_
     exact Exec.round [(2, .v (.int .i64 (x5))), (3, .ptr 0 0), (7, .v (.slice a14 ((x15).length) (k14))), (10, .v (.slice a4 ((x3).length) (k4))), (11, .v (.int .i64 ((((x3).length : Nat) : Int)))), (12, .v (.int .i64 (x16)))] ⟨rfl, rfl, rfl, rfl, rfl, rfl, trivial⟩ ⟨x15, a14, k14, cs14, rfl, rfl, h14, h19, h20, hF⟩
  ·refine Exec.ifF rfl hb ?_
   refine xr rfl ?_
   exact Exec.round [(7, .v (.slice a14 ((x15).length) (k14)))] ⟨rfl, trivial⟩ ⟨x15, a14, k14, cs14, rfl, rfl, h14, h20, hF⟩
def F_rebalance_advice_splitSize_L1 (x1 : Tadvice) (J8 : TMarker → Option (TMarker × Bool)) : Nat → TMarker → Int → Option (TMarker × Bool)
 | 0, _, _ => none
 | n17 + 1, x15, x16 => (cond (decide (x16 < (((x1.sizes).length : Nat) : Int))) (req (0 ≤ x16 ∧ x16 < ((x1.sizes).length : Int)) (cond (decide ((32 : Int) < (atI x1.sizes x16))) (req (0 ≤ x16 ∧ x16 < ((x1.p.Parts).length : Int)) (req ((2 : Int) ≠ 0) (bnd (F_rebalance_advice_key x1 x16 ((quoI .i64 (atI x1.sizes x16) (2 : Int)))) fun x29 => (some ((⟨(1 : Int), (atI x1.p.Parts x16).Id, x1.fresh, 0, 0, x29⟩ : TMarker), true))))) (F_rebalance_advice_splitSize_L1 x1 J8 n17 x15 ((IntKind.i64.wrap (x16 + (1 : Int))))))) (J8 x15))
def F_rebalance_advice_splitSize (x1 : Tadvice) : Option (TMarker × Bool) :=
 (cond (decide ((16 : Int) ≤ (((x1.p.Parts).length : Nat) : Int))) (some ((⟨0, 0, 0, 0, 0, []⟩ : TMarker), false)) (jn (fun (x7 : TMarker) => (some ((⟨0, 0, 0, 0, 0, []⟩ : TMarker), false))) (fun J8 => (F_rebalance_advice_splitSize_L1 x1 J8 (((((x1.sizes).length : Nat) : Int)).toNat + 1) ((default : TMarker)) ((0 : Int))))))
theorem W_rebalance_advice_splitSize {V : View} (x1 : Tadvice) {a2 : Option Addr} {k2 : Nat} {a3 : Option Addr} {k3 : Nat} {a4 : Option Addr} {k4 : Nat} {a5 : Option Addr} {k5 : Nat} {a6 : Option Addr} {k6 : Nat} (h2 : SlAt cTPart V a2 k2 x1.p.Parts) (h3 : SlAt cTPair V a3 k3 x1.state) (h4 : SlAt (cInt .i64) V a4 k4 x1.sizes) (h5 : SlAt (cInt .i64) V a5 k5 x1.loads) (h6 : SlAt cStr V a6 k6 x1.hot) {r : TMarker × Bool} (hF : F_rebalance_advice_splitSize x1 = some r) :
  Spec Tryz.prog 51 [.agg ⟨[.int .i64 (x1.p.Version), .slice a2 ((x1.p.Parts).length) (k2), .slice a3 ((x1.state).length) (k3), .slice a4 ((x1.sizes).length) (k4), .slice a5 ((x1.loads).length) (k5), .slice a6 ((x1.hot).length) (k6), .int .i64 (x1.fresh)]⟩] V (fun _ v => v = .tuple ⟨[.agg ⟨[.int .i64 (r.1.Kind), .int .i64 (r.1.Part), .int .i64 (r.1.New), .int .i64 (r.1.Node), .int .i64 (r.1.N), .string ⟨⟨r.1.Key⟩⟩]⟩, .bool (r.2)]⟩) := by
 unfold F_rebalance_advice_splitSize at hF
 refine Spec.enter (T := tyT) Tryz.func51 rfl (by kernel_rfl) rfl rfl rfl ?_
 refine xr rfl ?_
 rcases cond_some hF with ⟨hb, hF⟩ | ⟨hb, hF⟩
 ·refine Exec.ifT rfl hb ?_
  refine xr rfl ?_
  obtain rfl := some_inj hF
  exact Exec.ret tyOk rfl rfl rfl
 ·refine Exec.ifF rfl hb ?_
  refine Exec.run tyOk 9 rfl ?_
  obtain ⟨J8, hJ8, hF⟩ := jn_some hF
  refine Exec.seam (fun L' V' M' => ∃ (x7 : TMarker), L' = [(2, .ptr 1 0)] ∧ M' = [.blk [.v (.int .i64 (x1.p.Version)), .v (.slice a2 ((x1.p.Parts).length) (k2)), .v (.slice a3 ((x1.state).length) (k3)), .v (.slice a4 ((x1.sizes).length) (k4)), .v (.slice a5 ((x1.loads).length) (k5)), .v (.slice a6 ((x1.hot).length) (k6)), .v (.int .i64 (x1.fresh))] 89, .blk [.v (.int .i64 (x7.Kind)), .v (.int .i64 (x7.Part)), .v (.int .i64 (x7.New)), .v (.int .i64 (x7.Node)), .v (.int .i64 (x7.N)), .v (.string ⟨⟨x7.Key⟩⟩)] 27] ∧ SlAt cTPart V' a2 k2 x1.p.Parts ∧ SlAt cTPair V' a3 k3 x1.state ∧ SlAt (cInt .i64) V' a4 k4 x1.sizes ∧ SlAt (cInt .i64) V' a5 k5 x1.loads ∧ SlAt cStr V' a6 k6 x1.hot ∧ J8 x7 = some r) rfl ?_ ?_
  ·rintro L' V9 M' ⟨x7, rfl, rfl, h10, h11, h12, h13, h14, hF⟩
   subst hJ8
   refine xr rfl ?_
   obtain rfl := some_inj hF
   exact Exec.ret tyOk rfl rfl rfl
  ·refine xr rfl ?_
   refine Exec.loop (fun n17 L' V' M' => ∃ (x15 : TMarker) (x16 : Int), L' = [(1, .ptr 0 0), (2, .ptr 1 0), (13, .v (.slice a4 ((x1.sizes).length) (k4))), (14, .v (.int .i64 ((((x1.sizes).length : Nat) : Int)))), (15, .v (.int .i64 (x16)))] ∧ M' = [.blk [.v (.int .i64 (x1.p.Version)), .v (.slice a2 ((x1.p.Parts).length) (k2)), .v (.slice a3 ((x1.state).length) (k3)), .v (.slice a4 ((x1.sizes).length) (k4)), .v (.slice a5 ((x1.loads).length) (k5)), .v (.slice a6 ((x1.hot).length) (k6)), .v (.int .i64 (x1.fresh))] 89, .blk [.v (.int .i64 (x15.Kind)), .v (.int .i64 (x15.Part)), .v (.int .i64 (x15.New)), .v (.int .i64 (x15.Node)), .v (.int .i64 (x15.N)), .v (.string ⟨⟨x15.Key⟩⟩)] 27] ∧ SlAt (cInt .i64) V' a4 k4 x1.sizes ∧ SlAt cTPart V' a2 k2 x1.p.Parts ∧ SlAt cTPair V' a3 k3 x1.state ∧ SlAt (cInt .i64) V' a5 k5 x1.loads ∧ SlAt cStr V' a6 k6 x1.hot ∧ F_rebalance_advice_splitSize_L1 x1 J8 n17 x15 x16 = some r) ⟨(((((x1.sizes).length : Nat) : Int)).toNat + 1), [(1, .ptr 0 0), (2, .ptr 1 0), (13, .v (.slice a4 ((x1.sizes).length) (k4))), (14, .v (.int .i64 ((((x1.sizes).length : Nat) : Int)))), (15, .v (.int .i64 ((0 : Int))))], ⟨rfl, rfl, rfl, rfl, rfl, trivial⟩, (default : TMarker), (0 : Int), rfl, rfl, h4, h2, h3, h5, h6, hF⟩ ?_
   rintro n17 L' V18 M' ⟨x15, x16, rfl, rfl, h19, h20, h21, h22, h23, hF⟩
   rcases n17 with _ | n17
   ·exact absurd hF (by simp [F_rebalance_advice_splitSize_L1])
   rw [F_rebalance_advice_splitSize_L1] at hF
   refine xr rfl ?_
   rcases cond_some hF with ⟨hb, hF⟩ | ⟨hb, hF⟩
   ·refine Exec.ifT rfl hb ?_
    refine xr rfl ?_
    obtain ⟨q24, hF⟩ := req_some hF
    obtain ⟨c25, hr25, hd25⟩ := SlAt.get h19 q24
    obtain rfl := hr25
    refine Exec.ia tyOk rfl rfl ⟨q24.1, q24.2, hd25.some⟩ ?_
    refine xr rfl ?_
    refine Exec.ld tyOk (x := .int .i64 ((atI x1.sizes x16))) rfl rfl hd25 rfl rfl ?_
    refine xr rfl ?_
    rcases cond_some hF with ⟨hb, hF⟩ | ⟨hb, hF⟩
    ·refine Exec.ifT rfl hb ?_
     refine xr rfl ?_
     refine Exec.draws tyOk [(0, true), (1, true), (2, true), (3, true), (4, true), (5, true), (6, true), (7, true), (8, true), (9, true), (10, true), (12, true), (13, true), (11, false), (14, false), (15, false), (16, false)] rfl (by kernel_rfl) ?_
     refine xr rfl ?_
     obtain ⟨q26, hF⟩ := req_some hF
     obtain ⟨c27, hr27, hd27⟩ := SlAt.get h20 q26
     obtain rfl := hr27
     refine Exec.fia tyOk rfl rfl rfl ⟨q26.1, q26.2, hd27.some⟩ ?_
     refine xr rfl ?_
     refine Exec.fld tyOk (x := .int .i64 ((atI x1.p.Parts x16).Id)) rfl rfl rfl (RdAt.part hd27 0 1 rfl) rfl rfl ?_
     refine xr rfl ?_
     obtain ⟨q28, hF⟩ := req_some hF
     refine Exec.fari rfl rfl rfl q28 ?_
     refine xr rfl ?_
     obtain ⟨x29, hx29, hF⟩ := bnd_some hF
     refine Exec.callS (.string ⟨⟨x29⟩⟩) rfl rfl (W_rebalance_advice_key x1 x16 ((quoI .i64 (atI x1.sizes x16) (2 : Int))) h20 h21 h19 h22 h23 hx29) ?_
     refine xr rfl ?_
     obtain rfl := some_inj hF
     exact Exec.ret tyOk rfl rfl rfl
    ·refine Exec.ifF rfl hb ?_
     refine xr rfl ?_
     exact Exec.round [(1, .ptr 0 0), (2, .ptr 1 0), (13, .v (.slice a4 ((x1.sizes).length) (k4))), (14, .v (.int .i64 ((((x1.sizes).length : Nat) : Int)))), (15, .v (.int .i64 ((IntKind.i64.wrap (x16 + (1 : Int))))))] ⟨rfl, rfl, rfl, rfl, rfl, trivial⟩ ⟨n17, Nat.lt_succ_self _, x15, (IntKind.i64.wrap (x16 + (1 : Int))), rfl, rfl, h19, h20, h21, h22, h23, hF⟩
   ·refine Exec.ifF rfl hb ?_
    refine xr rfl ?_
    exact Exec.round [(2, .ptr 1 0)] ⟨rfl, trivial⟩ ⟨x15, rfl, rfl, h20, h21, h19, h22, h23, hF⟩
def F_rebalance_advice_moved_L1 (x1 : Tadvice) (x30 : Int) (J49 : Int → Option (TMarker × Bool)) : Nat → Int → Int → Option (TMarker × Bool)
 | 0, _, _ => none
 | n71 + 1, x69, x70 => (cond (decide (x70 < (((x1.p.Parts).length : Nat) : Int))) (req (0 ≤ x70 ∧ x70 < ((x1.p.Parts).length : Int)) (req (((((decide (x69 < (0 : Int)))) == false) && ((((atI x1.p.Parts x70).Node == x30)) == true)) = true → 0 ≤ x70 ∧ x70 < ((x1.sizes).length : Int)) (req (((((decide (x69 < (0 : Int)))) == false) && ((((atI x1.p.Parts x70).Node == x30)) == true)) = true → 0 ≤ x69 ∧ x69 < ((x1.sizes).length : Int)) (jn (fun (x85 : Int) => (F_rebalance_advice_moved_L1 x1 x30 J49 n71 x85 ((IntKind.i64.wrap (x70 + (1 : Int)))))) (fun J86 => (cond (((atI x1.p.Parts x70).Node == x30) && ((decide (x69 < (0 : Int))) || (decide ((cond ((((decide (x69 < (0 : Int)))) == false) && ((((atI x1.p.Parts x70).Node == x30)) == true)) (atI x1.sizes x69) default) < (cond ((((decide (x69 < (0 : Int)))) == false) && ((((atI x1.p.Parts x70).Node == x30)) == true)) (atI x1.sizes x70) default))))) (J86 x70) (J86 x69))))))) (J49 x69))
def F_rebalance_advice_moved_L2 (x9 : Int) (x12 : List Int) (J40 : Int → Option (TMarker × Bool)) : Nat → Int → Int → Option (TMarker × Bool)
 | 0, _, _ => none
 | n96 + 1, x94, x95 => (cond (decide (x95 ≤ x9)) (req (0 ≤ x95 ∧ x95 < ((x12).length : Int)) (req (0 ≤ x94 ∧ x94 < ((x12).length : Int)) (jn (fun (x110 : Int) => (F_rebalance_advice_moved_L2 x9 x12 J40 n96 x110 ((IntKind.i64.wrap (x95 + (1 : Int)))))) (fun J111 => (cond (decide ((atI x12 x95) < (atI x12 x94))) (J111 x95) (J111 x94)))))) (J40 x94))
def F_rebalance_advice_moved_L3 (x20 : List Int) (x12 : List Int) (J31 : Int → Option (TMarker × Bool)) : Nat → Int → Int → Option (TMarker × Bool)
 | 0, _, _ => none
 | n121 + 1, x119, x120 => (cond (decide (x120 < (((x20).length : Nat) : Int))) (req (0 ≤ x120 ∧ x120 < ((x20).length : Int)) (req ((((x119 == (0 : Int))) == false) = true → 0 ≤ (atI x20 x120) ∧ (atI x20 x120) < ((x12).length : Int)) (req ((((x119 == (0 : Int))) == false) = true → 0 ≤ x119 ∧ x119 < ((x12).length : Int)) (jn (fun (x138 : Int) => (F_rebalance_advice_moved_L3 x20 x12 J31 n121 x138 ((IntKind.i64.wrap (x120 + (1 : Int)))))) (fun J139 => (cond ((x119 == (0 : Int)) || (decide ((cond (((x119 == (0 : Int))) == false) (atI x12 x119) default) < (cond (((x119 == (0 : Int))) == false) (atI x12 ((atI x20 x120))) default)))) (J139 ((atI x20 x120))) (J139 x119))))))) (J31 x119))
def F_rebalance_advice_moved_L4 (x7 : List TShard) (J13 : (List Int) → Option (TMarker × Bool)) : Nat → (List Int) → Int → Option (TMarker × Bool)
 | 0, _, _ => none
 | n150 + 1, x148, x149 => (cond (decide (x149 < (((x7).length : Nat) : Int))) (req (0 ≤ x149 ∧ x149 < ((x7).length : Int)) (req (0 ≤ (atI x7 x149).Node ∧ (atI x7 x149).Node < ((x148).length : Int)) (F_rebalance_advice_moved_L4 x7 J13 n150 ((x148.set ((atI x7 x149).Node).toNat (((((atI x7 x149).Pairs).length : Nat) : Int)))) ((IntKind.i64.wrap (x149 + (1 : Int))))))) (J13 x148))
def F_rebalance_advice_moved (x1 : Tadvice) (x7 : List TShard) (x9 : Int) : Option (TMarker × Bool) :=
 (jn (fun (x12 : List Int) => (bnd (F_placement_Nodes ((⟨x1.p.Version, x1.p.Parts⟩ : TPlacement))) fun x20 => (jn (fun (x30 : Int) => (jn (fun (x39 : Int) => (jn (fun (x48 : Int) => (req ((((decide (x48 < (0 : Int)))) == false) = true → 0 ≤ x48 ∧ x48 < ((x1.sizes).length : Int)) (req (((((decide (x48 < (0 : Int))) || (decide ((cond (((decide (x48 < (0 : Int)))) == false) (atI x1.sizes x48) default) ≤ (0 : Int))))) == false) = true → 0 ≤ x48 ∧ x48 < ((x1.sizes).length : Int)) (req (((((decide (x48 < (0 : Int))) || (decide ((cond (((decide (x48 < (0 : Int)))) == false) (atI x1.sizes x48) default) ≤ (0 : Int))))) == false) = true → 0 ≤ x30 ∧ x30 < ((x12).length : Int)) (req (((((decide (x48 < (0 : Int))) || (decide ((cond (((decide (x48 < (0 : Int)))) == false) (atI x1.sizes x48) default) ≤ (0 : Int))))) == false) = true → 0 ≤ x39 ∧ x39 < ((x12).length : Int)) (cond (((decide (x48 < (0 : Int))) || (decide ((cond (((decide (x48 < (0 : Int)))) == false) (atI x1.sizes x48) default) ≤ (0 : Int)))) || (decide ((IntKind.i64.wrap ((cond ((((decide (x48 < (0 : Int))) || (decide ((cond (((decide (x48 < (0 : Int)))) == false) (atI x1.sizes x48) default) ≤ (0 : Int))))) == false) (atI x12 x30) default) - (cond ((((decide (x48 < (0 : Int))) || (decide ((cond (((decide (x48 < (0 : Int)))) == false) (atI x1.sizes x48) default) ≤ (0 : Int))))) == false) (atI x12 x39) default))) ≤ (cond ((((decide (x48 < (0 : Int))) || (decide ((cond (((decide (x48 < (0 : Int)))) == false) (atI x1.sizes x48) default) ≤ (0 : Int))))) == false) (atI x1.sizes x48) default)))) (some ((⟨0, 0, 0, 0, 0, []⟩ : TMarker), false)) (req (0 ≤ x48 ∧ x48 < ((x1.p.Parts).length : Int)) (some ((⟨(3 : Int), (atI x1.p.Parts x48).Id, 0, x39, 0, []⟩ : TMarker), true))))))))) (fun J49 => (F_rebalance_advice_moved_L1 x1 x30 J49 (((((x1.p.Parts).length : Nat) : Int)).toNat + 1) ((-1 : Int)) ((0 : Int)))))) (fun J40 => (F_rebalance_advice_moved_L2 x9 x12 J40 ((x9).toNat + 2) ((1 : Int)) ((2 : Int)))))) (fun J31 => (F_rebalance_advice_moved_L3 x20 x12 J31 (((((x20).length : Nat) : Int)).toNat + 1) ((0 : Int)) ((0 : Int))))))) (fun J13 => (F_rebalance_advice_moved_L4 x7 J13 (((((x7).length : Nat) : Int)).toNat + 1) ((List.replicate 17 (0 : Int))) ((0 : Int)))))
theorem W_rebalance_advice_moved {V : View} (x1 : Tadvice) (x7 : List TShard) (x9 : Int) {a2 : Option Addr} {k2 : Nat} {a3 : Option Addr} {k3 : Nat} {a4 : Option Addr} {k4 : Nat} {a5 : Option Addr} {k5 : Nat} {a6 : Option Addr} {k6 : Nat} {a8 : Option Addr} {k8 : Nat} (h2 : SlAt cTPart V a2 k2 x1.p.Parts) (h3 : SlAt cTPair V a3 k3 x1.state) (h4 : SlAt (cInt .i64) V a4 k4 x1.sizes) (h5 : SlAt (cInt .i64) V a5 k5 x1.loads) (h6 : SlAt cStr V a6 k6 x1.hot) (h8 : SlAt cTShard V a8 k8 x7) {r : TMarker × Bool} (hF : F_rebalance_advice_moved x1 x7 x9 = some r) :
  Spec Tryz.prog 54 [.agg ⟨[.int .i64 (x1.p.Version), .slice a2 ((x1.p.Parts).length) (k2), .slice a3 ((x1.state).length) (k3), .slice a4 ((x1.sizes).length) (k4), .slice a5 ((x1.loads).length) (k5), .slice a6 ((x1.hot).length) (k6), .int .i64 (x1.fresh)]⟩, .slice a8 ((x7).length) (k8), .int .i64 (x9)] V (fun _ v => v = .tuple ⟨[.agg ⟨[.int .i64 (r.1.Kind), .int .i64 (r.1.Part), .int .i64 (r.1.New), .int .i64 (r.1.Node), .int .i64 (r.1.N), .string ⟨⟨r.1.Key⟩⟩]⟩, .bool (r.2)]⟩) := by
 unfold F_rebalance_advice_moved at hF
 refine Spec.enter (T := tyT) Tryz.func54 rfl (by kernel_rfl) rfl rfl rfl ?_
 refine Exec.run tyOk 9 rfl ?_
 refine Exec.fixR 2 (n := 17) (sz := 1) (cs := (List.replicate 17 (.int .i64 0))) rfl rfl rfl rfl rfl (fun _ => rfl) (fun _ => rfl) (fun _ => rfl) (fun b10 => ?_)
 have h10 : RowRep (cInt .i64) V (List.replicate 17 (0 : Int)) (List.replicate 17 (.int .i64 0)) := by have := RowRep.ofInts (k := .i64) (V := V) (List.replicate 17 (0 : Int)); rwa [List.map_replicate] at this
 refine Exec.run tyOk 8 rfl ?_
 obtain ⟨J13, hJ13, hF⟩ := jn_some hF
 refine Exec.seam (fun L' V' M' => ∃ (x12 : List Int) (cs11 : List Value), L' = [(2, .v (.int .i64 (x9))), (3, .ptr 0 0), (6, .ptr 1 0), (8, .v (.pointer (some ⟨b10, 0, none⟩)))] ∧ M' = [.blk [.v (.int .i64 (x1.p.Version)), .v (.slice a2 ((x1.p.Parts).length) (k2)), .v (.slice a3 ((x1.state).length) (k3)), .v (.slice a4 ((x1.sizes).length) (k4)), .v (.slice a5 ((x1.loads).length) (k5)), .v (.slice a6 ((x1.hot).length) (k6)), .v (.int .i64 (x1.fresh))] 89, .blk [.v (.int .i64 (0)), .v (.int .i64 (0)), .v (.int .i64 (0)), .v (.int .i64 (0)), .v (.int .i64 (0)), .v (.string ⟨⟨[]⟩⟩)] 27, .row (.slice ((some ⟨b10, 0, none⟩)) (17) (17)) cs11 121 1] ∧ RowRep (cInt .i64) V' x12 cs11 ∧ SlAt cTPart V' a2 k2 x1.p.Parts ∧ SlAt cTPair V' a3 k3 x1.state ∧ SlAt (cInt .i64) V' a4 k4 x1.sizes ∧ SlAt (cInt .i64) V' a5 k5 x1.loads ∧ SlAt cStr V' a6 k6 x1.hot ∧ J13 x12 = some r) rfl ?_ ?_
 ·rintro L' V14 M' ⟨x12, cs11, rfl, rfl, h11, h15, h16, h17, h18, h19, hF⟩
  subst hJ13
  refine xr rfl ?_
  obtain ⟨x20, hx20, hF⟩ := bnd_some hF
  refine Exec.call rfl rfl (W_placement_Nodes ((⟨x1.p.Version, x1.p.Parts⟩ : TPlacement)) h15 hx20) ?_
  rintro V22 _ hv22 ⟨a21, k21, rfl, h21⟩
  have h23 := SlAt.mono h15 hv22
  have h24 := SlAt.mono h16 hv22
  have h25 := SlAt.mono h17 hv22
  have h26 := SlAt.mono h18 hv22
  have h27 := SlAt.mono h19 hv22
  have h28 := RowRep.mono hv22 h11
  refine Exec.run tyOk 3 rfl ?_
  obtain ⟨J31, hJ31, hF⟩ := jn_some hF
  refine Exec.seam (fun L' V' M' => ∃ (x30 : Int), L' = [(2, .v (.int .i64 (x9))), (3, .ptr 0 0), (6, .ptr 1 0), (8, .v (.pointer (some ⟨b10, 0, none⟩))), (11, .v (.int .i64 (x30)))] ∧ M' = [.blk [.v (.int .i64 (x1.p.Version)), .v (.slice a2 ((x1.p.Parts).length) (k2)), .v (.slice a3 ((x1.state).length) (k3)), .v (.slice a4 ((x1.sizes).length) (k4)), .v (.slice a5 ((x1.loads).length) (k5)), .v (.slice a6 ((x1.hot).length) (k6)), .v (.int .i64 (x1.fresh))] 89, .blk [.v (.int .i64 (0)), .v (.int .i64 (0)), .v (.int .i64 (0)), .v (.int .i64 (0)), .v (.int .i64 (0)), .v (.string ⟨⟨[]⟩⟩)] 27, .row (.slice ((some ⟨b10, 0, none⟩)) (17) (17)) cs11 121 1] ∧ RowRep (cInt .i64) V' x12 cs11 ∧ SlAt cTPart V' a2 k2 x1.p.Parts ∧ SlAt cTPair V' a3 k3 x1.state ∧ SlAt (cInt .i64) V' a4 k4 x1.sizes ∧ SlAt (cInt .i64) V' a5 k5 x1.loads ∧ SlAt cStr V' a6 k6 x1.hot ∧ J31 x30 = some r) rfl ?_ ?_
  ·rintro L' V32 M' ⟨x30, rfl, rfl, h29, h33, h34, h35, h36, h37, hF⟩
   subst hJ31
   refine Exec.run tyOk 9 rfl ?_
   obtain ⟨J40, hJ40, hF⟩ := jn_some hF
   refine Exec.seam (fun L' V' M' => ∃ (x39 : Int), L' = [(3, .ptr 0 0), (6, .ptr 1 0), (8, .v (.pointer (some ⟨b10, 0, none⟩))), (11, .v (.int .i64 (x30))), (14, .v (.int .i64 (x39)))] ∧ M' = [.blk [.v (.int .i64 (x1.p.Version)), .v (.slice a2 ((x1.p.Parts).length) (k2)), .v (.slice a3 ((x1.state).length) (k3)), .v (.slice a4 ((x1.sizes).length) (k4)), .v (.slice a5 ((x1.loads).length) (k5)), .v (.slice a6 ((x1.hot).length) (k6)), .v (.int .i64 (x1.fresh))] 89, .blk [.v (.int .i64 (0)), .v (.int .i64 (0)), .v (.int .i64 (0)), .v (.int .i64 (0)), .v (.int .i64 (0)), .v (.string ⟨⟨[]⟩⟩)] 27, .row (.slice ((some ⟨b10, 0, none⟩)) (17) (17)) cs11 121 1] ∧ RowRep (cInt .i64) V' x12 cs11 ∧ SlAt cTPart V' a2 k2 x1.p.Parts ∧ SlAt cTPair V' a3 k3 x1.state ∧ SlAt (cInt .i64) V' a4 k4 x1.sizes ∧ SlAt (cInt .i64) V' a5 k5 x1.loads ∧ SlAt cStr V' a6 k6 x1.hot ∧ J40 x39 = some r) rfl ?_ ?_
   ·rintro L' V41 M' ⟨x39, rfl, rfl, h38, h42, h43, h44, h45, h46, hF⟩
    subst hJ40
    refine Exec.run tyOk 13 rfl ?_
    obtain ⟨J49, hJ49, hF⟩ := jn_some hF
    refine Exec.seam (fun L' V' M' => ∃ (x48 : Int), L' = [(3, .ptr 0 0), (6, .ptr 1 0), (8, .v (.pointer (some ⟨b10, 0, none⟩))), (11, .v (.int .i64 (x30))), (14, .v (.int .i64 (x39))), (16, .v (.int .i64 (x48)))] ∧ M' = [.blk [.v (.int .i64 (x1.p.Version)), .v (.slice a2 ((x1.p.Parts).length) (k2)), .v (.slice a3 ((x1.state).length) (k3)), .v (.slice a4 ((x1.sizes).length) (k4)), .v (.slice a5 ((x1.loads).length) (k5)), .v (.slice a6 ((x1.hot).length) (k6)), .v (.int .i64 (x1.fresh))] 89, .blk [.v (.int .i64 (0)), .v (.int .i64 (0)), .v (.int .i64 (0)), .v (.int .i64 (0)), .v (.int .i64 (0)), .v (.string ⟨⟨[]⟩⟩)] 27, .row (.slice ((some ⟨b10, 0, none⟩)) (17) (17)) cs11 121 1] ∧ RowRep (cInt .i64) V' x12 cs11 ∧ SlAt cTPart V' a2 k2 x1.p.Parts ∧ SlAt cTPair V' a3 k3 x1.state ∧ SlAt (cInt .i64) V' a4 k4 x1.sizes ∧ SlAt (cInt .i64) V' a5 k5 x1.loads ∧ SlAt cStr V' a6 k6 x1.hot ∧ J49 x48 = some r) rfl ?_ ?_
    ·rintro L' V50 M' ⟨x48, rfl, rfl, h47, h51, h52, h53, h54, h55, hF⟩
     subst hJ49
     refine xr rfl ?_
     refine Exec.draws tyOk [(0, true), (1, true), (2, true), (3, true), (4, true), (5, true), (6, true), (7, true), (8, true), (9, true), (10, true), (11, true), (12, true), (13, true), (14, true), (15, true), (16, true), (17, true), (18, true), (19, true), (20, true), (21, true), (22, true), (23, true), (24, true)] rfl (by kernel_rfl) ?_
     refine xr rfl ?_
     obtain ⟨q56, hF⟩ := req_some hF
     obtain ⟨c57, hr57, hd57⟩ := SlAt.gget (((decide (x48 < (0 : Int)))) == false) h53 q56
     obtain rfl := hr57
     refine Exec.fia tyOk rfl rfl rfl (fun gg0 => ⟨(q56 (gd1_of gg0)).1, (q56 (gd1_of gg0)).2, (hd57 (gd1_of gg0)).some⟩) ?_
     refine xr rfl ?_
     refine Exec.fld tyOk (x := .int .i64 ((cond (((decide (x48 < (0 : Int)))) == false) (atI x1.sizes x48) default))) rfl rfl rfl (fun gg0 => (hd57 (gd1_of gg0))) rfl rfl ?_
     refine xr rfl ?_
     obtain ⟨q58, hF⟩ := req_some hF
     obtain ⟨c59, hr59, hd59⟩ := SlAt.gget ((((decide (x48 < (0 : Int))) || (decide ((cond (((decide (x48 < (0 : Int)))) == false) (atI x1.sizes x48) default) ≤ (0 : Int))))) == false) h53 q58
     obtain rfl := hr59
     refine Exec.fia tyOk rfl rfl rfl (fun gg0 => ⟨(q58 (gd1_of gg0)).1, (q58 (gd1_of gg0)).2, (hd59 (gd1_of gg0)).some⟩) ?_
     refine xr rfl ?_
     refine Exec.fld tyOk (x := .int .i64 ((cond ((((decide (x48 < (0 : Int))) || (decide ((cond (((decide (x48 < (0 : Int)))) == false) (atI x1.sizes x48) default) ≤ (0 : Int))))) == false) (atI x1.sizes x48) default))) rfl rfl rfl (fun gg0 => (hd59 (gd1_of gg0))) rfl rfl ?_
     refine xr rfl ?_
     obtain ⟨q60, hF⟩ := req_some hF
     refine Exec.rowI 2 rfl (fun ra61 rb61 rc61 => ?_)
     obtain ⟨c62, hr62, hd62⟩ := RowRep.gget ((((decide (x48 < (0 : Int))) || (decide ((cond (((decide (x48 < (0 : Int)))) == false) (atI x1.sizes x48) default) ≤ (0 : Int))))) == false) h47 q60
     obtain rfl := hr62
     have rl61 := RowRep.len h47
     have rs61 : ((((decide (x48 < (0 : Int))) || (decide ((cond (((decide (x48 < (0 : Int)))) == false) (atI x1.sizes x48) default) ≤ (0 : Int))))) == false) = true → ∃ b o, ((some ⟨b10, 0, none⟩) : Option Addr) = some ⟨b, o, none⟩ := fun _ => ⟨_, _, rfl⟩
     refine Exec.fiaA tyOk rfl rfl rfl (fun gg0 => (ixA (q60 (gd1_of gg0)) rl61 ra61 (cInt .i64).pos)) ?_
     refine xr rfl ?_
     refine Exec.fldR tyOk 2 (x := .int .i64 ((cond ((((decide (x48 < (0 : Int))) || (decide ((cond (((decide (x48 < (0 : Int)))) == false) (atI x1.sizes x48) default) ≤ (0 : Int))))) == false) (atI x12 x30) default))) rfl rfl rfl rfl (fun gg0 => ⟨(hd62 (gd1_of gg0)), (rs61 (gd1_of gg0))⟩) rfl rfl ?_
     refine xr rfl ?_
     obtain ⟨q63, hF⟩ := req_some hF
     refine Exec.rowI 2 rfl (fun ra64 rb64 rc64 => ?_)
     obtain ⟨c65, hr65, hd65⟩ := RowRep.gget ((((decide (x48 < (0 : Int))) || (decide ((cond (((decide (x48 < (0 : Int)))) == false) (atI x1.sizes x48) default) ≤ (0 : Int))))) == false) h47 q63
     obtain rfl := hr65
     have rl64 := RowRep.len h47
     have rs64 : ((((decide (x48 < (0 : Int))) || (decide ((cond (((decide (x48 < (0 : Int)))) == false) (atI x1.sizes x48) default) ≤ (0 : Int))))) == false) = true → ∃ b o, ((some ⟨b10, 0, none⟩) : Option Addr) = some ⟨b, o, none⟩ := fun _ => ⟨_, _, rfl⟩
     refine Exec.fiaA tyOk rfl rfl rfl (fun gg0 => (ixA (q63 (gd1_of gg0)) rl64 ra64 (cInt .i64).pos)) ?_
     refine xr rfl ?_
     refine Exec.fldR tyOk 2 (x := .int .i64 ((cond ((((decide (x48 < (0 : Int))) || (decide ((cond (((decide (x48 < (0 : Int)))) == false) (atI x1.sizes x48) default) ≤ (0 : Int))))) == false) (atI x12 x39) default))) rfl rfl rfl rfl (fun gg0 => ⟨(hd65 (gd1_of gg0)), (rs64 (gd1_of gg0))⟩) rfl rfl ?_
     refine xr rfl ?_
     rcases cond_some hF with ⟨hb, hF⟩ | ⟨hb, hF⟩
     ·refine Exec.ifT rfl hb ?_
      refine xr rfl ?_
      obtain rfl := some_inj hF
      exact Exec.ret tyOk rfl rfl rfl
     ·refine Exec.ifF rfl hb ?_
      refine xr rfl ?_
      obtain ⟨q66, hF⟩ := req_some hF
      obtain ⟨c67, hr67, hd67⟩ := SlAt.get h51 q66
      obtain rfl := hr67
      refine Exec.ia tyOk rfl rfl ⟨q66.1, q66.2, hd67.some⟩ ?_
      refine xr rfl ?_
      refine Exec.ld tyOk (x := .int .i64 ((atI x1.p.Parts x48).Id)) rfl rfl (RdAt.part hd67 0 1 rfl) rfl rfl ?_
      refine xr rfl ?_
      obtain rfl := some_inj hF
      exact Exec.ret tyOk rfl rfl rfl
    ·refine xr rfl ?_
     refine Exec.loop (fun n71 L' V' M' => ∃ (x69 : Int) (x70 : Int), L' = [(3, .ptr 0 0), (6, .ptr 1 0), (8, .v (.pointer (some ⟨b10, 0, none⟩))), (11, .v (.int .i64 (x30))), (14, .v (.int .i64 (x39))), (16, .v (.int .i64 (x69))), (68, .v (.slice a2 ((x1.p.Parts).length) (k2))), (69, .v (.int .i64 ((((x1.p.Parts).length : Nat) : Int)))), (70, .v (.int .i64 (x70)))] ∧ M' = [.blk [.v (.int .i64 (x1.p.Version)), .v (.slice a2 ((x1.p.Parts).length) (k2)), .v (.slice a3 ((x1.state).length) (k3)), .v (.slice a4 ((x1.sizes).length) (k4)), .v (.slice a5 ((x1.loads).length) (k5)), .v (.slice a6 ((x1.hot).length) (k6)), .v (.int .i64 (x1.fresh))] 89, .blk [.v (.int .i64 (0)), .v (.int .i64 (0)), .v (.int .i64 (0)), .v (.int .i64 (0)), .v (.int .i64 (0)), .v (.string ⟨⟨[]⟩⟩)] 27, .row (.slice ((some ⟨b10, 0, none⟩)) (17) (17)) cs11 121 1] ∧ RowRep (cInt .i64) V' x12 cs11 ∧ SlAt cTPart V' a2 k2 x1.p.Parts ∧ SlAt cTPair V' a3 k3 x1.state ∧ SlAt (cInt .i64) V' a4 k4 x1.sizes ∧ SlAt (cInt .i64) V' a5 k5 x1.loads ∧ SlAt cStr V' a6 k6 x1.hot ∧ F_rebalance_advice_moved_L1 x1 x30 J49 n71 x69 x70 = some r) ⟨(((((x1.p.Parts).length : Nat) : Int)).toNat + 1), [(3, .ptr 0 0), (6, .ptr 1 0), (8, .v (.pointer (some ⟨b10, 0, none⟩))), (11, .v (.int .i64 (x30))), (14, .v (.int .i64 (x39))), (16, .v (.int .i64 ((-1 : Int)))), (68, .v (.slice a2 ((x1.p.Parts).length) (k2))), (69, .v (.int .i64 ((((x1.p.Parts).length : Nat) : Int)))), (70, .v (.int .i64 ((0 : Int))))], ⟨rfl, rfl, rfl, rfl, rfl, rfl, rfl, rfl, rfl, trivial⟩, (-1 : Int), (0 : Int), rfl, rfl, h38, h42, h43, h44, h45, h46, hF⟩ ?_
     rintro n71 L' V72 M' ⟨x69, x70, rfl, rfl, h68, h73, h74, h75, h76, h77, hF⟩
     rcases n71 with _ | n71
     ·exact absurd hF (by simp [F_rebalance_advice_moved_L1])
     rw [F_rebalance_advice_moved_L1] at hF
     refine xr rfl ?_
     rcases cond_some hF with ⟨hb, hF⟩ | ⟨hb, hF⟩
     ·refine Exec.ifT rfl hb ?_
      refine xr rfl ?_
      obtain ⟨q78, hF⟩ := req_some hF
      obtain ⟨c79, hr79, hd79⟩ := SlAt.get h73 q78
      obtain rfl := hr79
      refine Exec.ia tyOk rfl rfl ⟨q78.1, q78.2, hd79.some⟩ ?_
      refine xr rfl ?_
      refine Exec.ld tyOk (x := .agg ⟨[.int .i64 ((atI x1.p.Parts x70).Id), .string ⟨⟨(atI x1.p.Parts x70).From⟩⟩, .int .i64 ((atI x1.p.Parts x70).Node), .int .i64 ((atI x1.p.Parts x70).Dest), .string ⟨⟨(atI x1.p.Parts x70).Done⟩⟩]⟩) rfl rfl hd79 rfl rfl ?_
      refine xr rfl ?_
      refine Exec.draws tyOk [(0, true), (1, true), (2, true), (3, true), (4, true), (5, true), (6, true), (7, true), (8, true), (9, true), (10, true), (11, true), (12, true), (13, true), (14, true), (15, true), (16, true), (17, true), (18, true), (19, true), (20, true)] rfl (by kernel_rfl) ?_
      refine xr rfl ?_
      obtain ⟨q80, hF⟩ := req_some hF
      obtain ⟨c81, hr81, hd81⟩ := SlAt.gget ((((decide (x69 < (0 : Int)))) == false) && ((((atI x1.p.Parts x70).Node == x30)) == true)) h75 q80
      obtain rfl := hr81
      refine Exec.fia tyOk rfl rfl rfl (fun gg0 gg1 => ⟨(q80 (gd2_of gg0 gg1)).1, (q80 (gd2_of gg0 gg1)).2, (hd81 (gd2_of gg0 gg1)).some⟩) ?_
      refine xr rfl ?_
      refine Exec.fld tyOk (x := .int .i64 ((cond ((((decide (x69 < (0 : Int)))) == false) && ((((atI x1.p.Parts x70).Node == x30)) == true)) (atI x1.sizes x70) default))) rfl rfl rfl (fun gg0 gg1 => (hd81 (gd2_of gg0 gg1))) rfl rfl ?_
      refine xr rfl ?_
      obtain ⟨q82, hF⟩ := req_some hF
      obtain ⟨c83, hr83, hd83⟩ := SlAt.gget ((((decide (x69 < (0 : Int)))) == false) && ((((atI x1.p.Parts x70).Node == x30)) == true)) h75 q82
      obtain rfl := hr83
      refine Exec.fia tyOk rfl rfl rfl (fun gg0 gg1 => ⟨(q82 (gd2_of gg0 gg1)).1, (q82 (gd2_of gg0 gg1)).2, (hd83 (gd2_of gg0 gg1)).some⟩) ?_
      refine xr rfl ?_
      refine Exec.fld tyOk (x := .int .i64 ((cond ((((decide (x69 < (0 : Int)))) == false) && ((((atI x1.p.Parts x70).Node == x30)) == true)) (atI x1.sizes x69) default))) rfl rfl rfl (fun gg0 gg1 => (hd83 (gd2_of gg0 gg1))) rfl rfl ?_
      refine xr rfl ?_
      obtain ⟨J86, hJ86, hF⟩ := jn_some hF
      refine Exec.seam (fun L' V' M' => ∃ (x85 : Int), L' = [(3, .ptr 0 0), (6, .ptr 1 0), (8, .v (.pointer (some ⟨b10, 0, none⟩))), (11, .v (.int .i64 (x30))), (14, .v (.int .i64 (x39))), (16, .v (.int .i64 (x85))), (68, .v (.slice a2 ((x1.p.Parts).length) (k2))), (69, .v (.int .i64 ((((x1.p.Parts).length : Nat) : Int)))), (70, .v (.int .i64 (x70)))] ∧ M' = [.blk [.v (.int .i64 (x1.p.Version)), .v (.slice a2 ((x1.p.Parts).length) (k2)), .v (.slice a3 ((x1.state).length) (k3)), .v (.slice a4 ((x1.sizes).length) (k4)), .v (.slice a5 ((x1.loads).length) (k5)), .v (.slice a6 ((x1.hot).length) (k6)), .v (.int .i64 (x1.fresh))] 89, .blk [.v (.int .i64 (0)), .v (.int .i64 (0)), .v (.int .i64 (0)), .v (.int .i64 (0)), .v (.int .i64 (0)), .v (.string ⟨⟨[]⟩⟩)] 27, .row (.slice ((some ⟨b10, 0, none⟩)) (17) (17)) cs11 121 1] ∧ RowRep (cInt .i64) V' x12 cs11 ∧ SlAt cTPart V' a2 k2 x1.p.Parts ∧ SlAt cTPair V' a3 k3 x1.state ∧ SlAt (cInt .i64) V' a4 k4 x1.sizes ∧ SlAt (cInt .i64) V' a5 k5 x1.loads ∧ SlAt cStr V' a6 k6 x1.hot ∧ J86 x85 = some r) rfl ?_ ?_
      ·rintro L' V87 M' ⟨x85, rfl, rfl, h84, h88, h89, h90, h91, h92, hF⟩
       subst hJ86
       refine xr rfl ?_
       exact Exec.round [(3, .ptr 0 0), (6, .ptr 1 0), (8, .v (.pointer (some ⟨b10, 0, none⟩))), (11, .v (.int .i64 (x30))), (14, .v (.int .i64 (x39))), (16, .v (.int .i64 (x85))), (68, .v (.slice a2 ((x1.p.Parts).length) (k2))), (69, .v (.int .i64 ((((x1.p.Parts).length : Nat) : Int)))), (70, .v (.int .i64 ((IntKind.i64.wrap (x70 + (1 : Int))))))] ⟨rfl, rfl, rfl, rfl, rfl, rfl, rfl, rfl, rfl, trivial⟩ ⟨n71, Nat.lt_succ_self _, x85, (IntKind.i64.wrap (x70 + (1 : Int))), rfl, rfl, h84, h88, h89, h90, h91, h92, hF⟩
      ·refine xr rfl ?_
       rcases cond_some hF with ⟨hb, hF⟩ | ⟨hb, hF⟩
       ·refine Exec.ifT rfl hb ?_
        refine xr rfl ?_
        refine Exec.cut 3 [(3, .ptr 0 0), (6, .ptr 1 0), (8, .v (.pointer (some ⟨b10, 0, none⟩))), (11, .v (.int .i64 (x30))), (14, .v (.int .i64 (x39))), (16, .v (.int .i64 (x70))), (68, .v (.slice a2 ((x1.p.Parts).length) (k2))), (69, .v (.int .i64 ((((x1.p.Parts).length : Nat) : Int)))), (70, .v (.int .i64 (x70)))] (M' := [.blk [.v (.int .i64 (x1.p.Version)), .v (.slice a2 ((x1.p.Parts).length) (k2)), .v (.slice a3 ((x1.state).length) (k3)), .v (.slice a4 ((x1.sizes).length) (k4)), .v (.slice a5 ((x1.loads).length) (k5)), .v (.slice a6 ((x1.hot).length) (k6)), .v (.int .i64 (x1.fresh))] 89, .blk [.v (.int .i64 (0)), .v (.int .i64 (0)), .v (.int .i64 (0)), .v (.int .i64 (0)), .v (.int .i64 (0)), .v (.string ⟨⟨[]⟩⟩)] 27, .row (.slice ((some ⟨b10, 0, none⟩)) (17) (17)) cs11 121 1]) rfl ⟨rfl, rfl, rfl, rfl, rfl, rfl, rfl, rfl, rfl, trivial⟩ rfl rfl rfl ?_
        exact Exec.round [(3, .ptr 0 0), (6, .ptr 1 0), (8, .v (.pointer (some ⟨b10, 0, none⟩))), (11, .v (.int .i64 (x30))), (14, .v (.int .i64 (x39))), (16, .v (.int .i64 (x70))), (68, .v (.slice a2 ((x1.p.Parts).length) (k2))), (69, .v (.int .i64 ((((x1.p.Parts).length : Nat) : Int)))), (70, .v (.int .i64 (x70)))] ⟨rfl, rfl, rfl, rfl, rfl, rfl, rfl, rfl, rfl, trivial⟩ ⟨x70, rfl, rfl, h68, h73, h74, h75, h76, h77, hF⟩
       ·refine Exec.ifF rfl hb ?_
        refine xr rfl ?_
        refine Exec.cut 3 [(3, .ptr 0 0), (6, .ptr 1 0), (8, .v (.pointer (some ⟨b10, 0, none⟩))), (11, .v (.int .i64 (x30))), (14, .v (.int .i64 (x39))), (16, .v (.int .i64 (x69))), (68, .v (.slice a2 ((x1.p.Parts).length) (k2))), (69, .v (.int .i64 ((((x1.p.Parts).length : Nat) : Int)))), (70, .v (.int .i64 (x70)))] (M' := [.blk [.v (.int .i64 (x1.p.Version)), .v (.slice a2 ((x1.p.Parts).length) (k2)), .v (.slice a3 ((x1.state).length) (k3)), .v (.slice a4 ((x1.sizes).length) (k4)), .v (.slice a5 ((x1.loads).length) (k5)), .v (.slice a6 ((x1.hot).length) (k6)), .v (.int .i64 (x1.fresh))] 89, .blk [.v (.int .i64 (0)), .v (.int .i64 (0)), .v (.int .i64 (0)), .v (.int .i64 (0)), .v (.int .i64 (0)), .v (.string ⟨⟨[]⟩⟩)] 27, .row (.slice ((some ⟨b10, 0, none⟩)) (17) (17)) cs11 121 1]) rfl ⟨rfl, rfl, rfl, rfl, rfl, rfl, rfl, rfl, rfl, trivial⟩ rfl rfl rfl ?_
        exact Exec.round [(3, .ptr 0 0), (6, .ptr 1 0), (8, .v (.pointer (some ⟨b10, 0, none⟩))), (11, .v (.int .i64 (x30))), (14, .v (.int .i64 (x39))), (16, .v (.int .i64 (x69))), (68, .v (.slice a2 ((x1.p.Parts).length) (k2))), (69, .v (.int .i64 ((((x1.p.Parts).length : Nat) : Int)))), (70, .v (.int .i64 (x70)))] ⟨rfl, rfl, rfl, rfl, rfl, rfl, rfl, rfl, rfl, trivial⟩ ⟨x69, rfl, rfl, h68, h73, h74, h75, h76, h77, hF⟩
     ·refine Exec.ifF rfl hb ?_
      refine xr rfl ?_
      exact Exec.round [(3, .ptr 0 0), (6, .ptr 1 0), (8, .v (.pointer (some ⟨b10, 0, none⟩))), (11, .v (.int .i64 (x30))), (14, .v (.int .i64 (x39))), (16, .v (.int .i64 (x69)))] ⟨rfl, rfl, rfl, rfl, rfl, rfl, trivial⟩ ⟨x69, rfl, rfl, h68, h73, h74, h75, h76, h77, hF⟩
   ·refine xr rfl ?_
    refine Exec.loop (fun n96 L' V' M' => ∃ (x94 : Int) (x95 : Int), L' = [(2, .v (.int .i64 (x9))), (3, .ptr 0 0), (6, .ptr 1 0), (8, .v (.pointer (some ⟨b10, 0, none⟩))), (11, .v (.int .i64 (x30))), (14, .v (.int .i64 (x94))), (15, .v (.int .i64 (x95)))] ∧ M' = [.blk [.v (.int .i64 (x1.p.Version)), .v (.slice a2 ((x1.p.Parts).length) (k2)), .v (.slice a3 ((x1.state).length) (k3)), .v (.slice a4 ((x1.sizes).length) (k4)), .v (.slice a5 ((x1.loads).length) (k5)), .v (.slice a6 ((x1.hot).length) (k6)), .v (.int .i64 (x1.fresh))] 89, .blk [.v (.int .i64 (0)), .v (.int .i64 (0)), .v (.int .i64 (0)), .v (.int .i64 (0)), .v (.int .i64 (0)), .v (.string ⟨⟨[]⟩⟩)] 27, .row (.slice ((some ⟨b10, 0, none⟩)) (17) (17)) cs11 121 1] ∧ RowRep (cInt .i64) V' x12 cs11 ∧ SlAt cTPart V' a2 k2 x1.p.Parts ∧ SlAt cTPair V' a3 k3 x1.state ∧ SlAt (cInt .i64) V' a4 k4 x1.sizes ∧ SlAt (cInt .i64) V' a5 k5 x1.loads ∧ SlAt cStr V' a6 k6 x1.hot ∧ F_rebalance_advice_moved_L2 x9 x12 J40 n96 x94 x95 = some r) ⟨((x9).toNat + 2), [(2, .v (.int .i64 (x9))), (3, .ptr 0 0), (6, .ptr 1 0), (8, .v (.pointer (some ⟨b10, 0, none⟩))), (11, .v (.int .i64 (x30))), (14, .v (.int .i64 ((1 : Int)))), (15, .v (.int .i64 ((2 : Int))))], ⟨rfl, rfl, rfl, rfl, rfl, rfl, rfl, trivial⟩, (1 : Int), (2 : Int), rfl, rfl, h29, h33, h34, h35, h36, h37, hF⟩ ?_
    rintro n96 L' V97 M' ⟨x94, x95, rfl, rfl, h93, h98, h99, h100, h101, h102, hF⟩
    rcases n96 with _ | n96
    ·exact absurd hF (by simp [F_rebalance_advice_moved_L2])
    rw [F_rebalance_advice_moved_L2] at hF
    refine xr rfl ?_
    rcases cond_some hF with ⟨hb, hF⟩ | ⟨hb, hF⟩
    ·refine Exec.ifT rfl hb ?_
     refine xr rfl ?_
     refine Exec.draws tyOk [(0, true), (1, true), (2, true), (3, true), (4, true), (5, true), (6, true)] rfl (by kernel_rfl) ?_
     refine xr rfl ?_
     obtain ⟨q103, hF⟩ := req_some hF
     refine Exec.rowI 2 rfl (fun ra104 rb104 rc104 => ?_)
     obtain ⟨c105, hr105, hd105⟩ := h93.get q103
     obtain rfl := hr105
     have rl104 := RowRep.len h93
     refine Exec.fiaA tyOk rfl rfl rfl (ixA q103 rl104 ra104 (cInt .i64).pos) ?_
     refine xr rfl ?_
     refine Exec.fldR tyOk 2 (x := .int .i64 ((atI x12 x95))) rfl rfl rfl rfl ⟨hd105, ⟨_, _, rfl⟩⟩ rfl rfl ?_
     refine xr rfl ?_
     obtain ⟨q106, hF⟩ := req_some hF
     refine Exec.rowI 2 rfl (fun ra107 rb107 rc107 => ?_)
     obtain ⟨c108, hr108, hd108⟩ := h93.get q106
     obtain rfl := hr108
     have rl107 := RowRep.len h93
     refine Exec.fiaA tyOk rfl rfl rfl (ixA q106 rl107 ra107 (cInt .i64).pos) ?_
     refine xr rfl ?_
     refine Exec.fldR tyOk 2 (x := .int .i64 ((atI x12 x94))) rfl rfl rfl rfl ⟨hd108, ⟨_, _, rfl⟩⟩ rfl rfl ?_
     refine xr rfl ?_
     obtain ⟨J111, hJ111, hF⟩ := jn_some hF
     refine Exec.seam (fun L' V' M' => ∃ (x110 : Int), L' = [(2, .v (.int .i64 (x9))), (3, .ptr 0 0), (6, .ptr 1 0), (8, .v (.pointer (some ⟨b10, 0, none⟩))), (11, .v (.int .i64 (x30))), (14, .v (.int .i64 (x110))), (15, .v (.int .i64 (x95)))] ∧ M' = [.blk [.v (.int .i64 (x1.p.Version)), .v (.slice a2 ((x1.p.Parts).length) (k2)), .v (.slice a3 ((x1.state).length) (k3)), .v (.slice a4 ((x1.sizes).length) (k4)), .v (.slice a5 ((x1.loads).length) (k5)), .v (.slice a6 ((x1.hot).length) (k6)), .v (.int .i64 (x1.fresh))] 89, .blk [.v (.int .i64 (0)), .v (.int .i64 (0)), .v (.int .i64 (0)), .v (.int .i64 (0)), .v (.int .i64 (0)), .v (.string ⟨⟨[]⟩⟩)] 27, .row (.slice ((some ⟨b10, 0, none⟩)) (17) (17)) cs11 121 1] ∧ RowRep (cInt .i64) V' x12 cs11 ∧ SlAt cTPart V' a2 k2 x1.p.Parts ∧ SlAt cTPair V' a3 k3 x1.state ∧ SlAt (cInt .i64) V' a4 k4 x1.sizes ∧ SlAt (cInt .i64) V' a5 k5 x1.loads ∧ SlAt cStr V' a6 k6 x1.hot ∧ J111 x110 = some r) rfl ?_ ?_
     ·rintro L' V112 M' ⟨x110, rfl, rfl, h109, h113, h114, h115, h116, h117, hF⟩
      subst hJ111
      refine xr rfl ?_
      exact Exec.round [(2, .v (.int .i64 (x9))), (3, .ptr 0 0), (6, .ptr 1 0), (8, .v (.pointer (some ⟨b10, 0, none⟩))), (11, .v (.int .i64 (x30))), (14, .v (.int .i64 (x110))), (15, .v (.int .i64 ((IntKind.i64.wrap (x95 + (1 : Int))))))] ⟨rfl, rfl, rfl, rfl, rfl, rfl, rfl, trivial⟩ ⟨n96, Nat.lt_succ_self _, x110, (IntKind.i64.wrap (x95 + (1 : Int))), rfl, rfl, h109, h113, h114, h115, h116, h117, hF⟩
     ·refine xr rfl ?_
      rcases cond_some hF with ⟨hb, hF⟩ | ⟨hb, hF⟩
      ·refine Exec.ifT rfl hb ?_
       refine xr rfl ?_
       exact Exec.round [(2, .v (.int .i64 (x9))), (3, .ptr 0 0), (6, .ptr 1 0), (8, .v (.pointer (some ⟨b10, 0, none⟩))), (11, .v (.int .i64 (x30))), (14, .v (.int .i64 (x95))), (15, .v (.int .i64 (x95)))] ⟨rfl, rfl, rfl, rfl, rfl, rfl, rfl, trivial⟩ ⟨x95, rfl, rfl, h93, h98, h99, h100, h101, h102, hF⟩
      ·refine Exec.ifF rfl hb ?_
       refine xr rfl ?_
       exact Exec.round [(2, .v (.int .i64 (x9))), (3, .ptr 0 0), (6, .ptr 1 0), (8, .v (.pointer (some ⟨b10, 0, none⟩))), (11, .v (.int .i64 (x30))), (14, .v (.int .i64 (x94))), (15, .v (.int .i64 (x95)))] ⟨rfl, rfl, rfl, rfl, rfl, rfl, rfl, trivial⟩ ⟨x94, rfl, rfl, h93, h98, h99, h100, h101, h102, hF⟩
    ·refine Exec.ifF rfl hb ?_
     refine xr rfl ?_
     exact Exec.round [(3, .ptr 0 0), (6, .ptr 1 0), (8, .v (.pointer (some ⟨b10, 0, none⟩))), (11, .v (.int .i64 (x30))), (14, .v (.int .i64 (x94)))] ⟨rfl, rfl, rfl, rfl, rfl, trivial⟩ ⟨x94, rfl, rfl, h93, h98, h99, h100, h101, h102, hF⟩
  ·refine xr rfl ?_
   refine Exec.loop (fun n121 L' V' M' => ∃ (x119 : Int) (x120 : Int), L' = [(2, .v (.int .i64 (x9))), (3, .ptr 0 0), (6, .ptr 1 0), (8, .v (.pointer (some ⟨b10, 0, none⟩))), (11, .v (.int .i64 (x119))), (34, .v (.slice a21 ((x20).length) (k21))), (35, .v (.int .i64 ((((x20).length : Nat) : Int)))), (36, .v (.int .i64 (x120)))] ∧ M' = [.blk [.v (.int .i64 (x1.p.Version)), .v (.slice a2 ((x1.p.Parts).length) (k2)), .v (.slice a3 ((x1.state).length) (k3)), .v (.slice a4 ((x1.sizes).length) (k4)), .v (.slice a5 ((x1.loads).length) (k5)), .v (.slice a6 ((x1.hot).length) (k6)), .v (.int .i64 (x1.fresh))] 89, .blk [.v (.int .i64 (0)), .v (.int .i64 (0)), .v (.int .i64 (0)), .v (.int .i64 (0)), .v (.int .i64 (0)), .v (.string ⟨⟨[]⟩⟩)] 27, .row (.slice ((some ⟨b10, 0, none⟩)) (17) (17)) cs11 121 1] ∧ RowRep (cInt .i64) V' x12 cs11 ∧ SlAt (cInt .i64) V' a21 k21 x20 ∧ SlAt cTPart V' a2 k2 x1.p.Parts ∧ SlAt cTPair V' a3 k3 x1.state ∧ SlAt (cInt .i64) V' a4 k4 x1.sizes ∧ SlAt (cInt .i64) V' a5 k5 x1.loads ∧ SlAt cStr V' a6 k6 x1.hot ∧ F_rebalance_advice_moved_L3 x20 x12 J31 n121 x119 x120 = some r) ⟨(((((x20).length : Nat) : Int)).toNat + 1), [(2, .v (.int .i64 (x9))), (3, .ptr 0 0), (6, .ptr 1 0), (8, .v (.pointer (some ⟨b10, 0, none⟩))), (11, .v (.int .i64 ((0 : Int)))), (34, .v (.slice a21 ((x20).length) (k21))), (35, .v (.int .i64 ((((x20).length : Nat) : Int)))), (36, .v (.int .i64 ((0 : Int))))], ⟨rfl, rfl, rfl, rfl, rfl, rfl, rfl, rfl, trivial⟩, (0 : Int), (0 : Int), rfl, rfl, h28, h21, h23, h24, h25, h26, h27, hF⟩ ?_
   rintro n121 L' V122 M' ⟨x119, x120, rfl, rfl, h118, h123, h124, h125, h126, h127, h128, hF⟩
   rcases n121 with _ | n121
   ·exact absurd hF (by simp [F_rebalance_advice_moved_L3])
   rw [F_rebalance_advice_moved_L3] at hF
   refine xr rfl ?_
   rcases cond_some hF with ⟨hb, hF⟩ | ⟨hb, hF⟩
   ·refine Exec.ifT rfl hb ?_
    refine xr rfl ?_
    obtain ⟨q129, hF⟩ := req_some hF
    obtain ⟨c130, hr130, hd130⟩ := SlAt.get h123 q129
    obtain rfl := hr130
    refine Exec.ia tyOk rfl rfl ⟨q129.1, q129.2, hd130.some⟩ ?_
    refine xr rfl ?_
    refine Exec.ld tyOk (x := .int .i64 ((atI x20 x120))) rfl rfl hd130 rfl rfl ?_
    refine xr rfl ?_
    refine Exec.draws tyOk [(0, true), (1, true), (2, true), (3, true), (4, true), (5, true), (6, true), (7, true), (8, true), (9, true), (10, true)] rfl (by kernel_rfl) ?_
    refine xr rfl ?_
    obtain ⟨q131, hF⟩ := req_some hF
    refine Exec.rowI 2 rfl (fun ra132 rb132 rc132 => ?_)
    obtain ⟨c133, hr133, hd133⟩ := RowRep.gget (((x119 == (0 : Int))) == false) h118 q131
    obtain rfl := hr133
    have rl132 := RowRep.len h118
    have rs132 : (((x119 == (0 : Int))) == false) = true → ∃ b o, ((some ⟨b10, 0, none⟩) : Option Addr) = some ⟨b, o, none⟩ := fun _ => ⟨_, _, rfl⟩
    refine Exec.fiaA tyOk rfl rfl rfl (fun gg0 => (ixA (q131 (gd1_of gg0)) rl132 ra132 (cInt .i64).pos)) ?_
    refine xr rfl ?_
    refine Exec.fldR tyOk 2 (x := .int .i64 ((cond (((x119 == (0 : Int))) == false) (atI x12 ((atI x20 x120))) default))) rfl rfl rfl rfl (fun gg0 => ⟨(hd133 (gd1_of gg0)), (rs132 (gd1_of gg0))⟩) rfl rfl ?_
    refine xr rfl ?_
    obtain ⟨q134, hF⟩ := req_some hF
    refine Exec.rowI 2 rfl (fun ra135 rb135 rc135 => ?_)
    obtain ⟨c136, hr136, hd136⟩ := RowRep.gget (((x119 == (0 : Int))) == false) h118 q134
    obtain rfl := hr136
    have rl135 := RowRep.len h118
    have rs135 : (((x119 == (0 : Int))) == false) = true → ∃ b o, ((some ⟨b10, 0, none⟩) : Option Addr) = some ⟨b, o, none⟩ := fun _ => ⟨_, _, rfl⟩
    refine Exec.fiaA tyOk rfl rfl rfl (fun gg0 => (ixA (q134 (gd1_of gg0)) rl135 ra135 (cInt .i64).pos)) ?_
    refine xr rfl ?_
    refine Exec.fldR tyOk 2 (x := .int .i64 ((cond (((x119 == (0 : Int))) == false) (atI x12 x119) default))) rfl rfl rfl rfl (fun gg0 => ⟨(hd136 (gd1_of gg0)), (rs135 (gd1_of gg0))⟩) rfl rfl ?_
    refine xr rfl ?_
    obtain ⟨J139, hJ139, hF⟩ := jn_some hF
    refine Exec.seam (fun L' V' M' => ∃ (x138 : Int), L' = [(2, .v (.int .i64 (x9))), (3, .ptr 0 0), (6, .ptr 1 0), (8, .v (.pointer (some ⟨b10, 0, none⟩))), (11, .v (.int .i64 (x138))), (34, .v (.slice a21 ((x20).length) (k21))), (35, .v (.int .i64 ((((x20).length : Nat) : Int)))), (36, .v (.int .i64 (x120)))] ∧ M' = [.blk [.v (.int .i64 (x1.p.Version)), .v (.slice a2 ((x1.p.Parts).length) (k2)), .v (.slice a3 ((x1.state).length) (k3)), .v (.slice a4 ((x1.sizes).length) (k4)), .v (.slice a5 ((x1.loads).length) (k5)), .v (.slice a6 ((x1.hot).length) (k6)), .v (.int .i64 (x1.fresh))] 89, .blk [.v (.int .i64 (0)), .v (.int .i64 (0)), .v (.int .i64 (0)), .v (.int .i64 (0)), .v (.int .i64 (0)), .v (.string ⟨⟨[]⟩⟩)] 27, .row (.slice ((some ⟨b10, 0, none⟩)) (17) (17)) cs11 121 1] ∧ RowRep (cInt .i64) V' x12 cs11 ∧ SlAt (cInt .i64) V' a21 k21 x20 ∧ SlAt cTPart V' a2 k2 x1.p.Parts ∧ SlAt cTPair V' a3 k3 x1.state ∧ SlAt (cInt .i64) V' a4 k4 x1.sizes ∧ SlAt (cInt .i64) V' a5 k5 x1.loads ∧ SlAt cStr V' a6 k6 x1.hot ∧ J139 x138 = some r) rfl ?_ ?_
    ·rintro L' V140 M' ⟨x138, rfl, rfl, h137, h141, h142, h143, h144, h145, h146, hF⟩
     subst hJ139
     refine xr rfl ?_
     exact Exec.round [(2, .v (.int .i64 (x9))), (3, .ptr 0 0), (6, .ptr 1 0), (8, .v (.pointer (some ⟨b10, 0, none⟩))), (11, .v (.int .i64 (x138))), (34, .v (.slice a21 ((x20).length) (k21))), (35, .v (.int .i64 ((((x20).length : Nat) : Int)))), (36, .v (.int .i64 ((IntKind.i64.wrap (x120 + (1 : Int))))))] ⟨rfl, rfl, rfl, rfl, rfl, rfl, rfl, rfl, trivial⟩ ⟨n121, Nat.lt_succ_self _, x138, (IntKind.i64.wrap (x120 + (1 : Int))), rfl, rfl, h137, h141, h142, h143, h144, h145, h146, hF⟩
    ·refine xr rfl ?_
     rcases cond_some hF with ⟨hb, hF⟩ | ⟨hb, hF⟩
     ·refine Exec.ifT rfl hb ?_
      refine xr rfl ?_
      exact Exec.round [(2, .v (.int .i64 (x9))), (3, .ptr 0 0), (6, .ptr 1 0), (8, .v (.pointer (some ⟨b10, 0, none⟩))), (11, .v (.int .i64 ((atI x20 x120)))), (34, .v (.slice a21 ((x20).length) (k21))), (35, .v (.int .i64 ((((x20).length : Nat) : Int)))), (36, .v (.int .i64 (x120)))] ⟨rfl, rfl, rfl, rfl, rfl, rfl, rfl, rfl, trivial⟩ ⟨(atI x20 x120), rfl, rfl, h118, h123, h124, h125, h126, h127, h128, hF⟩
     ·refine Exec.ifF rfl hb ?_
      refine xr rfl ?_
      exact Exec.round [(2, .v (.int .i64 (x9))), (3, .ptr 0 0), (6, .ptr 1 0), (8, .v (.pointer (some ⟨b10, 0, none⟩))), (11, .v (.int .i64 (x119))), (34, .v (.slice a21 ((x20).length) (k21))), (35, .v (.int .i64 ((((x20).length : Nat) : Int)))), (36, .v (.int .i64 (x120)))] ⟨rfl, rfl, rfl, rfl, rfl, rfl, rfl, rfl, trivial⟩ ⟨x119, rfl, rfl, h118, h123, h124, h125, h126, h127, h128, hF⟩
   ·refine Exec.ifF rfl hb ?_
    refine xr rfl ?_
    exact Exec.round [(2, .v (.int .i64 (x9))), (3, .ptr 0 0), (6, .ptr 1 0), (8, .v (.pointer (some ⟨b10, 0, none⟩))), (11, .v (.int .i64 (x119)))] ⟨rfl, rfl, rfl, rfl, rfl, trivial⟩ ⟨x119, rfl, rfl, h118, h124, h125, h126, h127, h128, hF⟩
 ·refine xr rfl ?_
  refine Exec.loop (fun n150 L' V' M' => ∃ (x148 : List Int) (cs147 : List Value) (x149 : Int), L' = [(2, .v (.int .i64 (x9))), (3, .ptr 0 0), (6, .ptr 1 0), (8, .v (.pointer (some ⟨b10, 0, none⟩))), (19, .v (.slice a8 ((x7).length) (k8))), (20, .v (.int .i64 ((((x7).length : Nat) : Int)))), (21, .v (.int .i64 (x149)))] ∧ M' = [.blk [.v (.int .i64 (x1.p.Version)), .v (.slice a2 ((x1.p.Parts).length) (k2)), .v (.slice a3 ((x1.state).length) (k3)), .v (.slice a4 ((x1.sizes).length) (k4)), .v (.slice a5 ((x1.loads).length) (k5)), .v (.slice a6 ((x1.hot).length) (k6)), .v (.int .i64 (x1.fresh))] 89, .blk [.v (.int .i64 (0)), .v (.int .i64 (0)), .v (.int .i64 (0)), .v (.int .i64 (0)), .v (.int .i64 (0)), .v (.string ⟨⟨[]⟩⟩)] 27, .row (.slice ((some ⟨b10, 0, none⟩)) (17) (17)) cs147 121 1] ∧ RowRep (cInt .i64) V' x148 cs147 ∧ SlAt cTShard V' a8 k8 x7 ∧ SlAt cTPart V' a2 k2 x1.p.Parts ∧ SlAt cTPair V' a3 k3 x1.state ∧ SlAt (cInt .i64) V' a4 k4 x1.sizes ∧ SlAt (cInt .i64) V' a5 k5 x1.loads ∧ SlAt cStr V' a6 k6 x1.hot ∧ F_rebalance_advice_moved_L4 x7 J13 n150 x148 x149 = some r) ⟨(((((x7).length : Nat) : Int)).toNat + 1), [(2, .v (.int .i64 (x9))), (3, .ptr 0 0), (6, .ptr 1 0), (8, .v (.pointer (some ⟨b10, 0, none⟩))), (19, .v (.slice a8 ((x7).length) (k8))), (20, .v (.int .i64 ((((x7).length : Nat) : Int)))), (21, .v (.int .i64 ((0 : Int))))], ⟨rfl, rfl, rfl, rfl, rfl, rfl, rfl, trivial⟩, (List.replicate 17 (0 : Int)), (List.replicate 17 (.int .i64 0)), (0 : Int), rfl, rfl, h10, h8, h2, h3, h4, h5, h6, hF⟩ ?_
  rintro n150 L' V151 M' ⟨x148, cs147, x149, rfl, rfl, h147, h152, h153, h154, h155, h156, h157, hF⟩
  rcases n150 with _ | n150
  ·exact absurd hF (by simp [F_rebalance_advice_moved_L4])
  rw [F_rebalance_advice_moved_L4] at hF
  refine xr rfl ?_
  rcases cond_some hF with ⟨hb, hF⟩ | ⟨hb, hF⟩
  ·refine Exec.ifT rfl hb ?_
   refine xr rfl ?_
   obtain ⟨q158, hF⟩ := req_some hF
   obtain ⟨c159, hr159, hd159⟩ := SlAt.get h152 q158
   obtain ⟨a160, k160, rfl, h160⟩ := hr159
   refine Exec.ia tyOk rfl rfl ⟨q158.1, q158.2, hd159.some⟩ ?_
   refine xr rfl ?_
   refine Exec.ld tyOk (x := .agg ⟨[.int .i64 ((atI x7 x149).Node), .slice a160 (((atI x7 x149).Pairs).length) (k160)]⟩) rfl rfl hd159 rfl rfl ?_
   refine xr rfl ?_
   obtain ⟨q161, hF⟩ := req_some hF
   refine Exec.rowI 2 rfl (fun ra162 rb162 rc162 => ?_)
   obtain ⟨c163, hr163, hd163⟩ := h147.get q161
   obtain rfl := hr163
   have rl162 := RowRep.len h147
   refine Exec.iaA tyOk rfl rfl (ixA q161 rl162 ra162 (cInt .i64).pos) ?_
   refine xr rfl ?_
   have rl164 := RowRep.len h147
   have h164 : RowRep (cInt .i64) V151 (x148.set ((atI x7 x149).Node).toNat (((((atI x7 x149).Pairs).length : Nat) : Int))) (cs147.take (((atI x7 x149).Node).toNat * 1) ++ [.int .i64 (((((atI x7 x149).Pairs).length : Nat) : Int))] ++ cs147.drop ((((atI x7 x149).Node).toNat * 1) + 1)) := RowRep.set h147 q161 rfl
   refine Exec.stR tyOk 2 rfl rfl rfl rfl rfl ⟨_, _, rfl⟩ (stB q161 rl164) rfl rfl rfl ?_
   refine xr rfl ?_
   refine Exec.cut 3 [(2, .v (.int .i64 (x9))), (3, .ptr 0 0), (6, .ptr 1 0), (8, .v (.pointer (some ⟨b10, 0, none⟩))), (19, .v (.slice a8 ((x7).length) (k8))), (20, .v (.int .i64 ((((x7).length : Nat) : Int)))), (21, .v (.int .i64 ((IntKind.i64.wrap (x149 + (1 : Int))))))] (M' := [.blk [.v (.int .i64 (x1.p.Version)), .v (.slice a2 ((x1.p.Parts).length) (k2)), .v (.slice a3 ((x1.state).length) (k3)), .v (.slice a4 ((x1.sizes).length) (k4)), .v (.slice a5 ((x1.loads).length) (k5)), .v (.slice a6 ((x1.hot).length) (k6)), .v (.int .i64 (x1.fresh))] 89, .blk [.v (.int .i64 (0)), .v (.int .i64 (0)), .v (.int .i64 (0)), .v (.int .i64 (0)), .v (.int .i64 (0)), .v (.string ⟨⟨[]⟩⟩)] 27, .row (.slice ((some ⟨b10, 0, none⟩)) (17) (17)) ((cs147.take (((atI x7 x149).Node).toNat * 1) ++ [.int .i64 (((((atI x7 x149).Pairs).length : Nat) : Int))] ++ cs147.drop ((((atI x7 x149).Node).toNat * 1) + 1))) 121 1]) rfl ⟨rfl, rfl, rfl, rfl, rfl, rfl, rfl, trivial⟩ rfl rfl rfl ?_
   exact Exec.round [(2, .v (.int .i64 (x9))), (3, .ptr 0 0), (6, .ptr 1 0), (8, .v (.pointer (some ⟨b10, 0, none⟩))), (19, .v (.slice a8 ((x7).length) (k8))), (20, .v (.int .i64 ((((x7).length : Nat) : Int)))), (21, .v (.int .i64 ((IntKind.i64.wrap (x149 + (1 : Int))))))] ⟨rfl, rfl, rfl, rfl, rfl, rfl, rfl, trivial⟩ ⟨n150, Nat.lt_succ_self _, (x148.set ((atI x7 x149).Node).toNat (((((atI x7 x149).Pairs).length : Nat) : Int))), (cs147.take (((atI x7 x149).Node).toNat * 1) ++ [.int .i64 (((((atI x7 x149).Pairs).length : Nat) : Int))] ++ cs147.drop ((((atI x7 x149).Node).toNat * 1) + 1)), (IntKind.i64.wrap (x149 + (1 : Int))), rfl, rfl, h164, h152, h153, h154, h155, h156, h157, hF⟩
  ·refine Exec.ifF rfl hb ?_
   refine xr rfl ?_
   exact Exec.round [(2, .v (.int .i64 (x9))), (3, .ptr 0 0), (6, .ptr 1 0), (8, .v (.pointer (some ⟨b10, 0, none⟩)))] ⟨rfl, rfl, rfl, rfl, trivial⟩ ⟨x148, cs147, rfl, rfl, h147, h153, h154, h155, h156, h157, hF⟩
def F_clockworkref06_Valid_L1 (x1 : List TPair) (J3 : Option Bool) : Nat → Int → Option Bool
 | 0, _ => none
 | n8 + 1, x7 => (cond (decide (x7 < (((x1).length : Nat) : Int))) (req (0 ≤ x7 ∧ x7 < ((x1).length : Int)) (cond ((atI x1 x7).Val.Kind == (0 : Int)) (some false) (F_clockworkref06_Valid_L1 x1 J3 n8 ((IntKind.i64.wrap (x7 + (1 : Int))))))) J3)
def F_clockworkref06_Valid (x1 : List TPair) : Option Bool :=
 (jn ((bnd (F_clockworkref06_ValidWrites x1) fun x6 => (some x6))) (fun J3 => (F_clockworkref06_Valid_L1 x1 J3 (((((x1).length : Nat) : Int)).toNat + 1) ((0 : Int)))))
theorem W_clockworkref06_Valid {V : View} (x1 : List TPair) {a2 : Option Addr} {k2 : Nat} (h2 : SlAt cTPair V a2 k2 x1) {r : Bool} (hF : F_clockworkref06_Valid x1 = some r) :
  Spec Tryz.prog 78 [.slice a2 ((x1).length) (k2)] V (fun _ v => v = .bool (r)) := by
 unfold F_clockworkref06_Valid at hF
 refine Spec.enter (T := tyT) Tryz.func78 rfl (by kernel_rfl) rfl rfl rfl ?_
 refine Exec.run tyOk 9 rfl ?_
 obtain ⟨J3, hJ3, hF⟩ := jn_some hF
 refine Exec.seam (fun L' V' M' => L' = [(0, .v (.slice a2 ((x1).length) (k2)))] ∧ M' = [] ∧ SlAt cTPair V' a2 k2 x1 ∧ J3 = some r) rfl ?_ ?_
 ·rintro L' V4 M' ⟨rfl, rfl, h5, hF⟩
  subst hJ3
  refine xr rfl ?_
  obtain ⟨x6, hx6, hF⟩ := bnd_some hF
  refine Exec.callS (.bool (x6)) rfl rfl (W_clockworkref06_ValidWrites x1 h5 hx6) ?_
  refine xr rfl ?_
  obtain rfl := some_inj hF
  exact Exec.ret tyOk rfl rfl rfl
 ·refine xr rfl ?_
  refine Exec.loop (fun n8 L' V' M' => ∃ (x7 : Int), L' = [(0, .v (.slice a2 ((x1).length) (k2))), (3, .v (.int .i64 (x7)))] ∧ M' = [] ∧ SlAt cTPair V' a2 k2 x1 ∧ F_clockworkref06_Valid_L1 x1 J3 n8 x7 = some r) ⟨(((((x1).length : Nat) : Int)).toNat + 1), [(0, .v (.slice a2 ((x1).length) (k2))), (3, .v (.int .i64 ((0 : Int))))], ⟨rfl, rfl, trivial⟩, (0 : Int), rfl, rfl, h2, hF⟩ ?_
  rintro n8 L' V9 M' ⟨x7, rfl, rfl, h10, hF⟩
  rcases n8 with _ | n8
  ·exact absurd hF (by simp [F_clockworkref06_Valid_L1])
  rw [F_clockworkref06_Valid_L1] at hF
  refine xr rfl ?_
  rcases cond_some hF with ⟨hb, hF⟩ | ⟨hb, hF⟩
  ·refine Exec.ifT rfl hb ?_
   refine xr rfl ?_
   obtain ⟨q11, hF⟩ := req_some hF
   obtain ⟨c12, hr12, hd12⟩ := SlAt.get h10 q11
   obtain rfl := hr12
   refine Exec.ia tyOk rfl rfl ⟨q11.1, q11.2, hd12.some⟩ ?_
   refine xr rfl ?_
   refine Exec.ld tyOk (x := .int .i64 ((atI x1 x7).Val.Kind)) rfl rfl (RdAt.part hd12 1 1 rfl) rfl rfl ?_
   refine xr rfl ?_
   rcases cond_some hF with ⟨hb, hF⟩ | ⟨hb, hF⟩
   ·refine Exec.ifT rfl hb ?_
    refine xr rfl ?_
    obtain rfl := some_inj hF
    exact Exec.ret tyOk rfl rfl rfl
   ·refine Exec.ifF rfl hb ?_
    refine xr rfl ?_
    exact Exec.round [(0, .v (.slice a2 ((x1).length) (k2))), (3, .v (.int .i64 ((IntKind.i64.wrap (x7 + (1 : Int))))))] ⟨rfl, rfl, trivial⟩ ⟨n8, Nat.lt_succ_self _, (IntKind.i64.wrap (x7 + (1 : Int))), rfl, rfl, h10, hF⟩
  ·refine Exec.ifF rfl hb ?_
   refine xr rfl ?_
   exact Exec.round [(0, .v (.slice a2 ((x1).length) (k2)))] ⟨rfl, trivial⟩ ⟨rfl, rfl, h10, hF⟩
def F_clockworkref06_Slice_L1 (x1 : List TPair) (x3 : TRange) (J7 : (List TPair) → Option (List TPair)) : Nat → (List TPair) → Int → Option (List TPair)
 | 0, _, _ => none
 | n13 + 1, x11, x12 => (cond (decide (x12 < (((x1).length : Nat) : Int))) (req (0 ≤ x12 ∧ x12 < ((x1).length : Int)) (bnd (F_clockworkref04_Contains x3 ((atI x1 x12).Key)) fun x18 => (jn (fun (x20 : List TPair) => (F_clockworkref06_Slice_L1 x1 x3 J7 n13 x20 ((IntKind.i64.wrap (x12 + (1 : Int)))))) (fun J21 => (cond x18 (req (0 ≤ x12 ∧ x12 < ((x1).length : Int)) (req (((x11 ++ [(atI x1 x12)])).length * 48 ≤ 140737488355328) (J21 ((x11 ++ [(atI x1 x12)]))))) (J21 x11)))))) (J7 x11))
def F_clockworkref06_Slice (x1 : List TPair) (x3 : TRange) : Option (List TPair) :=
 (jn (fun (x6 : List TPair) => (some x6)) (fun J7 => (F_clockworkref06_Slice_L1 x1 x3 J7 (((((x1).length : Nat) : Int)).toNat + 1) (([] : List TPair)) ((0 : Int)))))
def F_dist_Load_L1 (x7 : List Int) (x1 : TPlacement) (x3 : List TPair) (J15 : (List TShard) → Option (List TShard)) : Nat → (List TShard) → Int → Option (List TShard)
 | 0, _, _ => none
 | n23 + 1, x21, x22 => (cond (decide (x22 < (((x7).length : Nat) : Int))) (req (0 ≤ x22 ∧ x22 < ((x7).length : Int)) (bnd (F_dist_owned x1 x3 ((atI x7 x22))) fun x30 => (req (((x21 ++ [(⟨(atI x7 x22), x30⟩ : TShard)])).length * 32 ≤ 140737488355328) (F_dist_Load_L1 x7 x1 x3 J15 n23 ((x21 ++ [(⟨(atI x7 x22), x30⟩ : TShard)])) ((IntKind.i64.wrap (x22 + (1 : Int)))))))) (J15 x21))
def F_dist_Load (x1 : TPlacement) (x3 : List TPair) : Option (List TShard) :=
 (bnd (F_placement_Valid x1) fun x5 => (bnd (gcall (((!x5)) == false) (F_state_Valid x3)) fun x6 => (cond ((!x5) || (!x6)) (some ([] : List TShard)) (bnd (F_placement_Nodes x1) fun x7 => (jn (fun (x14 : List TShard) => (some x14)) (fun J15 => (F_dist_Load_L1 x7 x1 x3 J15 (((((x7).length : Nat) : Int)).toNat + 1) (([] : List TShard)) ((0 : Int)))))))))
theorem W_dist_Load {V : View} (x1 : TPlacement) (x3 : List TPair) {a2 : Option Addr} {k2 : Nat} {a4 : Option Addr} {k4 : Nat} (h2 : SlAt cTPart V a2 k2 x1.Parts) (h4 : SlAt cTPair V a4 k4 x3) {r : List TShard} (hF : F_dist_Load x1 x3 = some r) :
  Spec Tryz.prog 98 [.agg ⟨[.int .i64 (x1.Version), .slice a2 ((x1.Parts).length) (k2)]⟩, .slice a4 ((x3).length) (k4)] V (fun V' v => ∃ (a40 : Option Addr) (k40 : Nat), v = .slice a40 ((r).length) (k40) ∧ SlAt cTShard V' a40 k40 r) := by
 unfold F_dist_Load at hF
 refine Spec.enter (T := tyT) Tryz.func98 rfl (by kernel_rfl) rfl rfl rfl ?_
 refine xr rfl ?_
 obtain ⟨x5, hx5, hF⟩ := bnd_some hF
 refine Exec.callS (.bool (x5)) rfl rfl (W_placement_Valid x1 h2 hx5) ?_
 refine xr rfl ?_
 obtain ⟨x6, hx6, hF⟩ := bnd_some hF
 refine Exec.callS (.bool (x6)) rfl rfl (fun gg0 => W_state_Valid x3 h4 (gcall_some hx6 (gd1_of gg0))) ?_
 refine xr rfl ?_
 rcases cond_some hF with ⟨hb, hF⟩ | ⟨hb, hF⟩
 ·refine Exec.ifT rfl hb ?_
  refine xr rfl ?_
  obtain rfl := some_inj hF
  exact Exec.ret tyOk rfl rfl ⟨_, _, rfl, SlAt.nil⟩
 ·refine Exec.ifF rfl hb ?_
  refine xr rfl ?_
  obtain ⟨x7, hx7, hF⟩ := bnd_some hF
  refine Exec.call rfl rfl (W_placement_Nodes x1 h2 hx7) ?_
  rintro V9 _ hv9 ⟨a8, k8, rfl, h8⟩
  have h10 := SlAt.mono h2 hv9
  have h11 := SlAt.mono h4 hv9
  refine Exec.run tyOk 3 rfl ?_
  refine Exec.row0 46 2 rfl ?_
  have h12 : RowRep cTShard V9 ([] : List TShard) [] := RowRep.nil
  obtain ⟨J15, hJ15, hF⟩ := jn_some hF
  refine Exec.seam (fun L' V' M' => ∃ (x14 : List TShard) (a13 : Option Addr) (k13 : Nat) (cs13 : List Value), L' = [(5, .v (.slice a13 ((x14).length) (k13)))] ∧ M' = [.blk [.v (.int .i64 (x1.Version)), .v (.slice a2 ((x1.Parts).length) (k2))] 24, .row (.slice a13 ((x14).length) (k13)) cs13 46 2] ∧ RowRep cTShard V' x14 cs13 ∧ SlAt cTPart V' a2 k2 x1.Parts ∧ J15 x14 = some r) rfl ?_ ?_
  ·rintro L' V16 M' ⟨x14, a13, k13, cs13, rfl, rfl, h13, h17, hF⟩
   subst hJ15
   refine xr rfl ?_
   refine Exec.frz 1 rfl rfl rfl (fun V18 hv18 hd18 hn18 => ?_)
   have hz18 := RowRep.slat h13 hv18 hd18 hn18
   have h19 := SlAt.mono h17 hv18
   obtain rfl := some_inj hF
   exact Exec.ret tyOk rfl rfl ⟨_, _, rfl, hz18⟩
  ·refine xr rfl ?_
   refine Exec.loop (fun n23 L' V' M' => ∃ (x21 : List TShard) (a20 : Option Addr) (k20 : Nat) (cs20 : List Value) (x22 : Int), L' = [(1, .v (.slice a4 ((x3).length) (k4))), (2, .ptr 0 0), (5, .v (.slice a20 ((x21).length) (k20))), (17, .v (.slice a8 ((x7).length) (k8))), (18, .v (.int .i64 ((((x7).length : Nat) : Int)))), (19, .v (.int .i64 (x22)))] ∧ M' = [.blk [.v (.int .i64 (x1.Version)), .v (.slice a2 ((x1.Parts).length) (k2))] 24, .row (.slice a20 ((x21).length) (k20)) cs20 46 2] ∧ RowRep cTShard V' x21 cs20 ∧ SlAt cTPair V' a4 k4 x3 ∧ SlAt (cInt .i64) V' a8 k8 x7 ∧ SlAt cTPart V' a2 k2 x1.Parts ∧ F_dist_Load_L1 x7 x1 x3 J15 n23 x21 x22 = some r) ⟨(((((x7).length : Nat) : Int)).toNat + 1), [(1, .v (.slice a4 ((x3).length) (k4))), (2, .ptr 0 0), (5, .v (.slice none ((([] : List TShard)).length) (0))), (17, .v (.slice a8 ((x7).length) (k8))), (18, .v (.int .i64 ((((x7).length : Nat) : Int)))), (19, .v (.int .i64 ((0 : Int))))], ⟨rfl, rfl, rfl, rfl, rfl, rfl, trivial⟩, ([] : List TShard), none, 0, [], (0 : Int), rfl, rfl, h12, h11, h8, h10, hF⟩ ?_
   rintro n23 L' V24 M' ⟨x21, a20, k20, cs20, x22, rfl, rfl, h20, h25, h26, h27, hF⟩
   rcases n23 with _ | n23
   ·exact absurd hF (by simp [F_dist_Load_L1])
   rw [F_dist_Load_L1] at hF
   refine xr rfl ?_
   rcases cond_some hF with ⟨hb, hF⟩ | ⟨hb, hF⟩
   ·refine Exec.ifT rfl hb ?_
    refine xr rfl ?_
    obtain ⟨q28, hF⟩ := req_some hF
    obtain ⟨c29, hr29, hd29⟩ := SlAt.get h26 q28
    obtain rfl := hr29
    refine Exec.ia tyOk rfl rfl ⟨q28.1, q28.2, hd29.some⟩ ?_
    refine xr rfl ?_
    refine Exec.ld tyOk (x := .int .i64 ((atI x7 x22))) rfl rfl hd29 rfl rfl ?_
    refine xr rfl ?_
    obtain ⟨x30, hx30, hF⟩ := bnd_some hF
    refine Exec.call rfl rfl (W_dist_owned x1 x3 ((atI x7 x22)) h27 h25 hx30) ?_
    rintro V32 _ hv32 ⟨a31, k31, rfl, h31⟩
    have h33 := SlAt.mono h25 hv32
    have h34 := SlAt.mono h26 hv32
    have h36 := SlAt.mono h27 hv32
    have h37 := RowRep.mono hv32 h20
    refine xr rfl ?_
    refine Exec.bsl tyOk rfl rfl ?_
    refine xr rfl ?_
    obtain ⟨q39, hF⟩ := req_some hF
    refine Exec.app tyOk 1 2 (nm := ((x21 ++ [(⟨(atI x7 x22), x30⟩ : TShard)])).length) rfl rfl rfl rfl rfl rfl rfl rfl rfl (by simp) (fun _ _ => rfl) rfl q39 (fun a38 k38 => ?_)
    have h38 : RowRep cTShard V32 (x21 ++ [(⟨(atI x7 x22), x30⟩ : TShard)]) (cs20 ++ [.int .i64 ((atI x7 x22)), .slice a31 ((x30).length) (k31)]) := RowRep.app h37 ⟨_, _, rfl, ⟨_, _, rfl, h31⟩, rfl⟩
    refine xr rfl ?_
    refine Exec.cut 2 [(1, .v (.slice a4 ((x3).length) (k4))), (2, .ptr 0 0), (5, .v (.slice a38 (((x21 ++ [(⟨(atI x7 x22), x30⟩ : TShard)])).length) (k38))), (17, .v (.slice a8 ((x7).length) (k8))), (18, .v (.int .i64 ((((x7).length : Nat) : Int)))), (19, .v (.int .i64 ((IntKind.i64.wrap (x22 + (1 : Int))))))] (M' := [.blk [.v (.int .i64 (x1.Version)), .v (.slice a2 ((x1.Parts).length) (k2))] 24, .row (.slice a38 (((x21 ++ [(⟨(atI x7 x22), x30⟩ : TShard)])).length) (k38)) ((cs20 ++ [.int .i64 ((atI x7 x22)), .slice a31 ((x30).length) (k31)])) 46 2]) rfl ⟨rfl, rfl, rfl, rfl, rfl, rfl, trivial⟩ rfl rfl rfl ?_
    exact Exec.round [(1, .v (.slice a4 ((x3).length) (k4))), (2, .ptr 0 0), (5, .v (.slice a38 (((x21 ++ [(⟨(atI x7 x22), x30⟩ : TShard)])).length) (k38))), (17, .v (.slice a8 ((x7).length) (k8))), (18, .v (.int .i64 ((((x7).length : Nat) : Int)))), (19, .v (.int .i64 ((IntKind.i64.wrap (x22 + (1 : Int))))))] ⟨rfl, rfl, rfl, rfl, rfl, rfl, trivial⟩ ⟨n23, Nat.lt_succ_self _, (x21 ++ [(⟨(atI x7 x22), x30⟩ : TShard)]), a38, k38, (cs20 ++ [.int .i64 ((atI x7 x22)), .slice a31 ((x30).length) (k31)]), (IntKind.i64.wrap (x22 + (1 : Int))), rfl, rfl, h38, h33, h34, h36, hF⟩
   ·refine Exec.ifF rfl hb ?_
    refine xr rfl ?_
    exact Exec.round [(5, .v (.slice a20 ((x21).length) (k20)))] ⟨rfl, trivial⟩ ⟨x21, a20, k20, cs20, rfl, rfl, h20, h27, hF⟩
def F_clockworkref06_Apply_L1 (x3 : List TPair) (J77 : (List TPair) → Option (List TPair × Int)) : Nat → (List TPair) → Int → Option (List TPair × Int)
 | 0, _, _ => none
 | n82 + 1, x79, x81 => (cond (decide (x81 < (((x3).length : Nat) : Int))) (req (0 ≤ x81 ∧ x81 < ((x3).length : Int)) (jn (fun (x87 : List TPair) => (F_clockworkref06_Apply_L1 x3 J77 n82 x87 ((IntKind.i64.wrap (x81 + (1 : Int)))))) (fun J89 => (cond ((atI x3 x81).Val.Kind != (0 : Int)) (req (0 ≤ x81 ∧ x81 < ((x3).length : Int)) (bnd (F_clockworkref06_with x79 ((atI x3 x81))) fun x94 => (J89 x94))) (J89 x79))))) (J77 x79))
def F_clockworkref06_Apply_L2 (x1 : List TPair) (x3 : List TPair) (J10 : (List TPair) → Option (List TPair × Int)) : Nat → (List TPair) → Int → Option (List TPair × Int)
 | 0, _, _ => none
 | n104 + 1, x102, x103 => (cond (decide (x103 < (((x1).length : Nat) : Int))) (req (0 ≤ x103 ∧ x103 < ((x1).length : Int)) (bnd (F_clockworkref06_Has x3 ((atI x1 x103).Key)) fun x110 => (jn (fun (x112 : List TPair) => (F_clockworkref06_Apply_L2 x1 x3 J10 n104 x112 ((IntKind.i64.wrap (x103 + (1 : Int)))))) (fun J113 => (cond (!x110) (req (0 ≤ x103 ∧ x103 < ((x1).length : Int)) (req (((x102 ++ [(atI x1 x103)])).length * 48 ≤ 140737488355328) (J113 ((x102 ++ [(atI x1 x103)]))))) (J113 x102)))))) (J10 x102))
def F_clockworkref06_Apply (x1 : List TPair) (x3 : List TPair) : Option (List TPair × Int) :=
 (bnd (F_clockworkref06_Valid x1) fun x5 => (bnd (gcall (((!x5)) == false) (F_clockworkref06_ValidWrites x3)) fun x6 => (cond ((!x5) || (!x6)) (some (([] : List TPair), (1 : Int))) (jn (fun (x9 : List TPair) => (jn (fun (x75 : List TPair) => (some (x75, (0 : Int)))) (fun J77 => (F_clockworkref06_Apply_L1 x3 J77 (((((x3).length : Nat) : Int)).toNat + 1) x9 ((0 : Int)))))) (fun J10 => (F_clockworkref06_Apply_L2 x1 x3 J10 (((((x1).length : Nat) : Int)).toNat + 1) (([] : List TPair)) ((0 : Int))))))))
theorem W_clockworkref06_Apply {V : View} (x1 : List TPair) (x3 : List TPair) {a2 : Option Addr} {k2 : Nat} {a4 : Option Addr} {k4 : Nat} (h2 : SlAt cTPair V a2 k2 x1) (h4 : SlAt cTPair V a4 k4 x3) {r : List TPair × Int} (hF : F_clockworkref06_Apply x1 x3 = some r) :
  Spec Tryz.prog 120 [.slice a2 ((x1).length) (k2), .slice a4 ((x3).length) (k4)] V (fun V' v => ∃ (a121 : Option Addr) (k121 : Nat), v = .tuple ⟨[.slice a121 ((r.1).length) (k121), .int .i64 (r.2)]⟩ ∧ SlAt cTPair V' a121 k121 r.1) := by
 unfold F_clockworkref06_Apply at hF
 refine Spec.enter (T := tyT) Tryz.func120 rfl (by kernel_rfl) rfl rfl rfl ?_
 refine xr rfl ?_
 obtain ⟨x5, hx5, hF⟩ := bnd_some hF
 refine Exec.callS (.bool (x5)) rfl rfl (W_clockworkref06_Valid x1 h2 hx5) ?_
 refine xr rfl ?_
 obtain ⟨x6, hx6, hF⟩ := bnd_some hF
 refine Exec.callS (.bool (x6)) rfl rfl (fun gg0 => W_clockworkref06_ValidWrites x3 h4 (gcall_some hx6 (gd1_of gg0))) ?_
 refine xr rfl ?_
 rcases cond_some hF with ⟨hb, hF⟩ | ⟨hb, hF⟩
 ·refine Exec.ifT rfl hb ?_
  refine xr rfl ?_
  obtain rfl := some_inj hF
  exact Exec.ret tyOk rfl rfl ⟨_, _, rfl, SlAt.nil⟩
 ·refine Exec.ifF rfl hb ?_
  refine Exec.run tyOk 10 rfl ?_
  refine Exec.row0 56 4 rfl ?_
  have h7 : RowRep cTPair V ([] : List TPair) [] := RowRep.nil
  obtain ⟨J10, hJ10, hF⟩ := jn_some hF
  refine Exec.seam (fun L' V' M' => ∃ (x9 : List TPair) (a8 : Option Addr) (k8 : Nat) (cs8 : List Value), L' = [(1, .v (.slice a4 ((x3).length) (k4))), (6, .v (.slice a8 ((x9).length) (k8)))] ∧ M' = [.row (.slice a8 ((x9).length) (k8)) cs8 56 4] ∧ RowRep cTPair V' x9 cs8 ∧ SlAt cTPair V' a4 k4 x3 ∧ J10 x9 = some r) rfl ?_ ?_
  ·rintro L' V11 M' ⟨x9, a8, k8, cs8, rfl, rfl, h8, h12, hF⟩
   subst hJ10
   refine Exec.run tyOk 5 rfl ?_
   refine Exec.frz 0 rfl rfl rfl (fun V73 hv73 hd73 hn73 => ?_)
   have hz73 := RowRep.slat h8 hv73 hd73 hn73
   have h74 := SlAt.mono h12 hv73
   obtain ⟨J77, hJ77, hF⟩ := jn_some hF
   refine Exec.seam (fun L' V' M' => ∃ (x75 : List TPair) (a76 : Option Addr) (k76 : Nat), L' = [(6, .v (.slice a76 ((x75).length) (k76)))] ∧ M' = [] ∧ SlAt cTPair V' a76 k76 x75 ∧ J77 x75 = some r) rfl ?_ ?_
   ·rintro L' V78 M' ⟨x75, a76, k76, rfl, rfl, h76, hF⟩
    subst hJ77
    refine xr rfl ?_
    obtain rfl := some_inj hF
    exact Exec.ret tyOk rfl rfl ⟨_, _, rfl, h76⟩
   ·refine xr rfl ?_
    refine Exec.cut 0 [(1, .v (.slice a4 ((x3).length) (k4))), (6, .v (.slice a8 ((x9).length) (k8))), (8, .v (.int .i64 ((0 : Int))))] (M' := []) rfl ⟨rfl, rfl, rfl, trivial⟩ rfl rfl rfl ?_
    refine Exec.loop (fun n82 L' V' M' => ∃ (x79 : List TPair) (a80 : Option Addr) (k80 : Nat) (x81 : Int), L' = [(1, .v (.slice a4 ((x3).length) (k4))), (6, .v (.slice a80 ((x79).length) (k80))), (8, .v (.int .i64 (x81)))] ∧ M' = [] ∧ SlAt cTPair V' a80 k80 x79 ∧ SlAt cTPair V' a4 k4 x3 ∧ F_clockworkref06_Apply_L1 x3 J77 n82 x79 x81 = some r) ⟨(((((x3).length : Nat) : Int)).toNat + 1), [(1, .v (.slice a4 ((x3).length) (k4))), (6, .v (.slice a8 ((x9).length) (k8))), (8, .v (.int .i64 ((0 : Int))))], ⟨rfl, rfl, rfl, trivial⟩, x9, a8, k8, (0 : Int), rfl, rfl, hz73, h74, hF⟩ ?_
    rintro n82 L' V83 M' ⟨x79, a80, k80, x81, rfl, rfl, h80, h84, hF⟩
    rcases n82 with _ | n82
    ·exact absurd hF (by simp [F_clockworkref06_Apply_L1])
    rw [F_clockworkref06_Apply_L1] at hF
    refine xr rfl ?_
    rcases cond_some hF with ⟨hb, hF⟩ | ⟨hb, hF⟩
    ·refine Exec.ifT rfl hb ?_
     refine xr rfl ?_
     obtain ⟨q85, hF⟩ := req_some hF
     obtain ⟨c86, hr86, hd86⟩ := SlAt.get h84 q85
     obtain rfl := hr86
     refine Exec.ia tyOk rfl rfl ⟨q85.1, q85.2, hd86.some⟩ ?_
     refine xr rfl ?_
     refine Exec.ld tyOk (x := .int .i64 ((atI x3 x81).Val.Kind)) rfl rfl (RdAt.part hd86 1 1 rfl) rfl rfl ?_
     refine xr rfl ?_
     obtain ⟨J89, hJ89, hF⟩ := jn_some hF
     refine Exec.seam (fun L' V' M' => ∃ (x87 : List TPair) (a88 : Option Addr) (k88 : Nat), L' = [(1, .v (.slice a4 ((x3).length) (k4))), (6, .v (.slice a88 ((x87).length) (k88))), (8, .v (.int .i64 (x81)))] ∧ M' = [] ∧ SlAt cTPair V' a88 k88 x87 ∧ SlAt cTPair V' a4 k4 x3 ∧ J89 x87 = some r) rfl ?_ ?_
     ·rintro L' V90 M' ⟨x87, a88, k88, rfl, rfl, h88, h91, hF⟩
      subst hJ89
      refine xr rfl ?_
      exact Exec.round [(1, .v (.slice a4 ((x3).length) (k4))), (6, .v (.slice a88 ((x87).length) (k88))), (8, .v (.int .i64 ((IntKind.i64.wrap (x81 + (1 : Int))))))] ⟨rfl, rfl, rfl, trivial⟩ ⟨n82, Nat.lt_succ_self _, x87, a88, k88, (IntKind.i64.wrap (x81 + (1 : Int))), rfl, rfl, h88, h91, hF⟩
     ·refine xr rfl ?_
      rcases cond_some hF with ⟨hb, hF⟩ | ⟨hb, hF⟩
      ·refine Exec.ifT rfl hb ?_
       refine xr rfl ?_
       obtain ⟨q92, hF⟩ := req_some hF
       obtain ⟨c93, hr93, hd93⟩ := SlAt.get h84 q92
       obtain rfl := hr93
       refine Exec.ia tyOk rfl rfl ⟨q92.1, q92.2, hd93.some⟩ ?_
       refine xr rfl ?_
       refine Exec.ld tyOk (x := .agg ⟨[.string ⟨⟨(atI x3 x81).Key⟩⟩, .int .i64 ((atI x3 x81).Val.Kind), .int .i64 ((atI x3 x81).Val.N), .string ⟨⟨(atI x3 x81).Val.S⟩⟩]⟩) rfl rfl hd93 rfl rfl ?_
       refine xr rfl ?_
       obtain ⟨x94, hx94, hF⟩ := bnd_some hF
       refine Exec.call rfl rfl (W_clockworkref06_with x79 ((atI x3 x81)) h80 hx94) ?_
       rintro V96 _ hv96 ⟨a95, k95, rfl, h95⟩
       have h97 := SlAt.mono h84 hv96
       have h98 := SlAt.mono h80 hv96
       refine xr rfl ?_
       exact Exec.round [(1, .v (.slice a4 ((x3).length) (k4))), (6, .v (.slice a95 ((x94).length) (k95))), (8, .v (.int .i64 (x81)))] ⟨rfl, rfl, rfl, trivial⟩ ⟨x94, a95, k95, rfl, rfl, h95, h97, hF⟩
      ·refine Exec.ifF rfl hb ?_
       refine xr rfl ?_
       exact Exec.round [(1, .v (.slice a4 ((x3).length) (k4))), (6, .v (.slice a80 ((x79).length) (k80))), (8, .v (.int .i64 (x81)))] ⟨rfl, rfl, rfl, trivial⟩ ⟨x79, a80, k80, rfl, rfl, h80, h84, hF⟩
    ·refine Exec.ifF rfl hb ?_
     refine xr rfl ?_
     exact Exec.round [(6, .v (.slice a80 ((x79).length) (k80)))] ⟨rfl, trivial⟩ ⟨x79, a80, k80, rfl, rfl, h80, hF⟩
  ·refine xr rfl ?_
   refine Exec.loop (fun n104 L' V' M' => ∃ (x102 : List TPair) (a101 : Option Addr) (k101 : Nat) (cs101 : List Value) (x103 : Int), L' = [(0, .v (.slice a2 ((x1).length) (k2))), (1, .v (.slice a4 ((x3).length) (k4))), (6, .v (.slice a101 ((x102).length) (k101))), (7, .v (.int .i64 (x103)))] ∧ M' = [.row (.slice a101 ((x102).length) (k101)) cs101 56 4] ∧ RowRep cTPair V' x102 cs101 ∧ SlAt cTPair V' a2 k2 x1 ∧ SlAt cTPair V' a4 k4 x3 ∧ F_clockworkref06_Apply_L2 x1 x3 J10 n104 x102 x103 = some r) ⟨(((((x1).length : Nat) : Int)).toNat + 1), [(0, .v (.slice a2 ((x1).length) (k2))), (1, .v (.slice a4 ((x3).length) (k4))), (6, .v (.slice none ((([] : List TPair)).length) (0))), (7, .v (.int .i64 ((0 : Int))))], ⟨rfl, rfl, rfl, rfl, trivial⟩, ([] : List TPair), none, 0, [], (0 : Int), rfl, rfl, h7, h2, h4, hF⟩ ?_
   rintro n104 L' V105 M' ⟨x102, a101, k101, cs101, x103, rfl, rfl, h101, h106, h107, hF⟩
   rcases n104 with _ | n104
   ·exact absurd hF (by simp [F_clockworkref06_Apply_L2])
   rw [F_clockworkref06_Apply_L2] at hF
   refine xr rfl ?_
   rcases cond_some hF with ⟨hb, hF⟩ | ⟨hb, hF⟩
   ·refine Exec.ifT rfl hb ?_
    refine xr rfl ?_
    obtain ⟨q108, hF⟩ := req_some hF
    obtain ⟨c109, hr109, hd109⟩ := SlAt.get h106 q108
    obtain rfl := hr109
    refine Exec.ia tyOk rfl rfl ⟨q108.1, q108.2, hd109.some⟩ ?_
    refine xr rfl ?_
    refine Exec.ld tyOk (x := .string ⟨⟨(atI x1 x103).Key⟩⟩) rfl rfl (RdAt.part hd109 0 1 rfl) rfl rfl ?_
    refine xr rfl ?_
    obtain ⟨x110, hx110, hF⟩ := bnd_some hF
    refine Exec.callS (.bool (x110)) rfl rfl (W_clockworkref06_Has x3 ((atI x1 x103).Key) h107 hx110) ?_
    refine xr rfl ?_
    obtain ⟨J113, hJ113, hF⟩ := jn_some hF
    refine Exec.seam (fun L' V' M' => ∃ (x112 : List TPair) (a111 : Option Addr) (k111 : Nat) (cs111 : List Value), L' = [(0, .v (.slice a2 ((x1).length) (k2))), (1, .v (.slice a4 ((x3).length) (k4))), (6, .v (.slice a111 ((x112).length) (k111))), (7, .v (.int .i64 (x103)))] ∧ M' = [.row (.slice a111 ((x112).length) (k111)) cs111 56 4] ∧ RowRep cTPair V' x112 cs111 ∧ SlAt cTPair V' a2 k2 x1 ∧ SlAt cTPair V' a4 k4 x3 ∧ J113 x112 = some r) rfl ?_ ?_
    ·rintro L' V114 M' ⟨x112, a111, k111, cs111, rfl, rfl, h111, h115, h116, hF⟩
     subst hJ113
     refine xr rfl ?_
     exact Exec.round [(0, .v (.slice a2 ((x1).length) (k2))), (1, .v (.slice a4 ((x3).length) (k4))), (6, .v (.slice a111 ((x112).length) (k111))), (7, .v (.int .i64 ((IntKind.i64.wrap (x103 + (1 : Int))))))] ⟨rfl, rfl, rfl, rfl, trivial⟩ ⟨n104, Nat.lt_succ_self _, x112, a111, k111, cs111, (IntKind.i64.wrap (x103 + (1 : Int))), rfl, rfl, h111, h115, h116, hF⟩
    ·refine xr rfl ?_
     rcases cond_some hF with ⟨hb, hF⟩ | ⟨hb, hF⟩
     ·refine Exec.ifT rfl hb ?_
      refine xr rfl ?_
      obtain ⟨q117, hF⟩ := req_some hF
      obtain ⟨c118, hr118, hd118⟩ := SlAt.get h106 q117
      obtain rfl := hr118
      refine Exec.ia tyOk rfl rfl ⟨q117.1, q117.2, hd118.some⟩ ?_
      refine xr rfl ?_
      refine Exec.ld tyOk (x := .agg ⟨[.string ⟨⟨(atI x1 x103).Key⟩⟩, .int .i64 ((atI x1 x103).Val.Kind), .int .i64 ((atI x1 x103).Val.N), .string ⟨⟨(atI x1 x103).Val.S⟩⟩]⟩) rfl rfl hd118 rfl rfl ?_
      refine xr rfl ?_
      refine Exec.bsl tyOk rfl rfl ?_
      refine xr rfl ?_
      obtain ⟨q120, hF⟩ := req_some hF
      refine Exec.app tyOk 0 1 (nm := ((x102 ++ [(atI x1 x103)])).length) rfl rfl rfl rfl rfl rfl rfl rfl rfl (by simp) (fun _ _ => rfl) rfl q120 (fun a119 k119 => ?_)
      have h119 : RowRep cTPair V105 (x102 ++ [(atI x1 x103)]) (cs101 ++ [.string ⟨⟨(atI x1 x103).Key⟩⟩, .int .i64 ((atI x1 x103).Val.Kind), .int .i64 ((atI x1 x103).Val.N), .string ⟨⟨(atI x1 x103).Val.S⟩⟩]) := RowRep.app h101 ⟨_, _, rfl, rfl, rfl⟩
      refine xr rfl ?_
      refine Exec.cut 1 [(0, .v (.slice a2 ((x1).length) (k2))), (1, .v (.slice a4 ((x3).length) (k4))), (6, .v (.slice a119 (((x102 ++ [(atI x1 x103)])).length) (k119))), (7, .v (.int .i64 (x103)))] (M' := [.row (.slice a119 (((x102 ++ [(atI x1 x103)])).length) (k119)) ((cs101 ++ [.string ⟨⟨(atI x1 x103).Key⟩⟩, .int .i64 ((atI x1 x103).Val.Kind), .int .i64 ((atI x1 x103).Val.N), .string ⟨⟨(atI x1 x103).Val.S⟩⟩])) 56 4]) rfl ⟨rfl, rfl, rfl, rfl, trivial⟩ rfl rfl rfl ?_
      exact Exec.round [(0, .v (.slice a2 ((x1).length) (k2))), (1, .v (.slice a4 ((x3).length) (k4))), (6, .v (.slice a119 (((x102 ++ [(atI x1 x103)])).length) (k119))), (7, .v (.int .i64 (x103)))] ⟨rfl, rfl, rfl, rfl, trivial⟩ ⟨(x102 ++ [(atI x1 x103)]), a119, k119, (cs101 ++ [.string ⟨⟨(atI x1 x103).Key⟩⟩, .int .i64 ((atI x1 x103).Val.Kind), .int .i64 ((atI x1 x103).Val.N), .string ⟨⟨(atI x1 x103).Val.S⟩⟩]), rfl, rfl, h119, h106, h107, hF⟩
     ·refine Exec.ifF rfl hb ?_
      refine xr rfl ?_
      exact Exec.round [(0, .v (.slice a2 ((x1).length) (k2))), (1, .v (.slice a4 ((x3).length) (k4))), (6, .v (.slice a101 ((x102).length) (k101))), (7, .v (.int .i64 (x103)))] ⟨rfl, rfl, rfl, rfl, trivial⟩ ⟨x102, a101, k101, cs101, rfl, rfl, h101, h106, h107, hF⟩
   ·refine Exec.ifF rfl hb ?_
    refine xr rfl ?_
    exact Exec.round [(1, .v (.slice a4 ((x3).length) (k4))), (6, .v (.slice a101 ((x102).length) (k101)))] ⟨rfl, rfl, trivial⟩ ⟨x102, a101, k101, cs101, rfl, rfl, h101, h107, hF⟩
def F_keys_Contains (x1 : TRange) (x2 : Str) : Option Bool :=
 (bnd (F_keys_ValidRange x1) fun x3 => (some ((x3 && (!sLt x2 x1.From)) && ((x1.To == ([] : Str)) || (sLt x2 x1.To)))))
theorem W_keys_Contains {V : View} (x1 : TRange) (x2 : Str)   {r : Bool} (hF : F_keys_Contains x1 x2 = some r) :
  Spec Tryz.prog 124 [.agg ⟨[.string ⟨⟨x1.From⟩⟩, .string ⟨⟨x1.To⟩⟩]⟩, .string ⟨⟨x2⟩⟩] V (fun _ v => v = .bool (r)) := by
 unfold F_keys_Contains at hF
 refine Spec.enter (T := tyT) Tryz.func124 rfl (by kernel_rfl) rfl rfl rfl ?_
 refine xr rfl ?_
 obtain ⟨x3, hx3, hF⟩ := bnd_some hF
 refine Exec.callS (.bool (x3)) rfl rfl (W_keys_ValidRange x1  hx3) ?_
 refine xr rfl ?_
 obtain rfl := some_inj hF
 exact Exec.ret tyOk rfl rfl rfl
def F_dist_Gather_L1 (x1 : List TShard) (J8 : (List TPair) → Option (List TPair × Int)) : Nat → (List TPair) → Int → Option (List TPair × Int)
 | 0, _, _ => none
 | n13 + 1, x10, x12 => (cond (decide (x12 < (((x1).length : Nat) : Int))) (req (0 ≤ x12 ∧ x12 < ((x1).length : Int)) (bnd (F_state_Union x10 ((atI x1 x12).Pairs)) fun x19 => (cond (x19.2 != (0 : Int)) (some (([] : List TPair), x19.2)) (F_dist_Gather_L1 x1 J8 n13 x19.1 ((IntKind.i64.wrap (x12 + (1 : Int)))))))) (J8 x10))
def F_dist_Gather_L2 (x1 : List TShard) (J3 : Option (List TPair × Int)) : Nat → Int → Option (List TPair × Int)
 | 0, _ => none
 | n27 + 1, x26 => (cond (decide (x26 < (((x1).length : Nat) : Int))) (req (0 ≤ x26 ∧ x26 < ((x1).length : Int)) (req ((((decide ((0 : Int) < x26))) == true) = true → 0 ≤ (IntKind.i64.wrap (x26 - (1 : Int))) ∧ (IntKind.i64.wrap (x26 - (1 : Int))) < ((x1).length : Int)) (bnd (gcall ((((decide ((0 : Int) < x26)) && (decide ((atI x1 x26).Node ≤ (cond (((decide ((0 : Int) < x26))) == true) (atI x1 ((IntKind.i64.wrap (x26 - (1 : Int))))) default).Node)))) == false) (F_state_Valid ((atI x1 x26).Pairs))) fun x36 => (cond (((decide ((0 : Int) < x26)) && (decide ((atI x1 x26).Node ≤ (cond (((decide ((0 : Int) < x26))) == true) (atI x1 ((IntKind.i64.wrap (x26 - (1 : Int))))) default).Node))) || (!x36)) (some (([] : List TPair), (1 : Int))) (F_dist_Gather_L2 x1 J3 n27 ((IntKind.i64.wrap (x26 + (1 : Int))))))))) J3)
def F_dist_Gather (x1 : List TShard) : Option (List TPair × Int) :=
 (jn ((jn (fun (x6 : List TPair) => (some (x6, (0 : Int)))) (fun J8 => (F_dist_Gather_L1 x1 J8 (((((x1).length : Nat) : Int)).toNat + 1) (([] : List TPair)) ((0 : Int)))))) (fun J3 => (F_dist_Gather_L2 x1 J3 (((((x1).length : Nat) : Int)).toNat + 1) ((0 : Int)))))
theorem W_dist_Gather {V : View} (x1 : List TShard) {a2 : Option Addr} {k2 : Nat} (h2 : SlAt cTShard V a2 k2 x1) {r : List TPair × Int} (hF : F_dist_Gather x1 = some r) :
  Spec Tryz.prog 11 [.slice a2 ((x1).length) (k2)] V (fun V' v => ∃ (a37 : Option Addr) (k37 : Nat), v = .tuple ⟨[.slice a37 ((r.1).length) (k37), .int .i64 (r.2)]⟩ ∧ SlAt cTPair V' a37 k37 r.1) := by
 unfold F_dist_Gather at hF
 refine Spec.enter (T := tyT) Tryz.func11 rfl (by kernel_rfl) rfl rfl rfl ?_
 refine Exec.run tyOk 12 rfl ?_
 obtain ⟨J3, hJ3, hF⟩ := jn_some hF
 refine Exec.seam (fun L' V' M' => L' = [(0, .v (.slice a2 ((x1).length) (k2)))] ∧ M' = [] ∧ SlAt cTShard V' a2 k2 x1 ∧ J3 = some r) rfl ?_ ?_
 ·rintro L' V4 M' ⟨rfl, rfl, h5, hF⟩
  subst hJ3
  refine Exec.run tyOk 11 rfl ?_
  obtain ⟨J8, hJ8, hF⟩ := jn_some hF
  refine Exec.seam (fun L' V' M' => ∃ (x6 : List TPair) (a7 : Option Addr) (k7 : Nat), L' = [(6, .v (.slice a7 ((x6).length) (k7)))] ∧ M' = [] ∧ SlAt cTPair V' a7 k7 x6 ∧ J8 x6 = some r) rfl ?_ ?_
  ·rintro L' V9 M' ⟨x6, a7, k7, rfl, rfl, h7, hF⟩
   subst hJ8
   refine xr rfl ?_
   obtain rfl := some_inj hF
   exact Exec.ret tyOk rfl rfl ⟨_, _, rfl, h7⟩
  ·refine xr rfl ?_
   refine Exec.loop (fun n13 L' V' M' => ∃ (x10 : List TPair) (a11 : Option Addr) (k11 : Nat) (x12 : Int), L' = [(6, .v (.slice a11 ((x10).length) (k11))), (38, .v (.slice a2 ((x1).length) (k2))), (39, .v (.int .i64 ((((x1).length : Nat) : Int)))), (40, .v (.int .i64 (x12)))] ∧ M' = [] ∧ SlAt cTPair V' a11 k11 x10 ∧ SlAt cTShard V' a2 k2 x1 ∧ F_dist_Gather_L1 x1 J8 n13 x10 x12 = some r) ⟨(((((x1).length : Nat) : Int)).toNat + 1), [(6, .v (.slice none (0) (0))), (38, .v (.slice a2 ((x1).length) (k2))), (39, .v (.int .i64 ((((x1).length : Nat) : Int)))), (40, .v (.int .i64 ((0 : Int))))], ⟨rfl, rfl, rfl, rfl, trivial⟩, ([] : List TPair), none, 0, (0 : Int), rfl, rfl, SlAt.nil, h5, hF⟩ ?_
   rintro n13 L' V14 M' ⟨x10, a11, k11, x12, rfl, rfl, h11, h15, hF⟩
   rcases n13 with _ | n13
   ·exact absurd hF (by simp [F_dist_Gather_L1])
   rw [F_dist_Gather_L1] at hF
   refine xr rfl ?_
   rcases cond_some hF with ⟨hb, hF⟩ | ⟨hb, hF⟩
   ·refine Exec.ifT rfl hb ?_
    refine xr rfl ?_
    obtain ⟨q16, hF⟩ := req_some hF
    obtain ⟨c17, hr17, hd17⟩ := SlAt.get h15 q16
    obtain ⟨a18, k18, rfl, h18⟩ := hr17
    refine Exec.ia tyOk rfl rfl ⟨q16.1, q16.2, hd17.some⟩ ?_
    refine xr rfl ?_
    refine Exec.ld tyOk (x := .agg ⟨[.int .i64 ((atI x1 x12).Node), .slice a18 (((atI x1 x12).Pairs).length) (k18)]⟩) rfl rfl hd17 rfl rfl ?_
    refine xr rfl ?_
    obtain ⟨x19, hx19, hF⟩ := bnd_some hF
    refine Exec.call rfl rfl (W_state_Union x10 ((atI x1 x12).Pairs) h11 h18 hx19) ?_
    rintro V21 _ hv21 ⟨a20, k20, rfl, h20⟩
    have h22 := SlAt.mono h11 hv21
    have h23 := SlAt.mono h15 hv21
    have h25 := SlAt.mono h18 hv21
    refine xr rfl ?_
    rcases cond_some hF with ⟨hb, hF⟩ | ⟨hb, hF⟩
    ·refine Exec.ifT rfl hb ?_
     refine xr rfl ?_
     obtain rfl := some_inj hF
     exact Exec.ret tyOk rfl rfl ⟨_, _, rfl, SlAt.nil⟩
    ·refine Exec.ifF rfl hb ?_
     refine xr rfl ?_
     refine Exec.cut 0 [(6, .v (.slice a20 ((x19.1).length) (k20))), (38, .v (.slice a2 ((x1).length) (k2))), (39, .v (.int .i64 ((((x1).length : Nat) : Int)))), (40, .v (.int .i64 ((IntKind.i64.wrap (x12 + (1 : Int))))))] (M' := []) rfl ⟨rfl, rfl, rfl, rfl, trivial⟩ rfl rfl rfl ?_
     exact Exec.round [(6, .v (.slice a20 ((x19.1).length) (k20))), (38, .v (.slice a2 ((x1).length) (k2))), (39, .v (.int .i64 ((((x1).length : Nat) : Int)))), (40, .v (.int .i64 ((IntKind.i64.wrap (x12 + (1 : Int))))))] ⟨rfl, rfl, rfl, rfl, trivial⟩ ⟨n13, Nat.lt_succ_self _, x19.1, a20, k20, (IntKind.i64.wrap (x12 + (1 : Int))), rfl, rfl, h20, h23, hF⟩
   ·refine Exec.ifF rfl hb ?_
    refine xr rfl ?_
    exact Exec.round [(6, .v (.slice a11 ((x10).length) (k11)))] ⟨rfl, trivial⟩ ⟨x10, a11, k11, rfl, rfl, h11, hF⟩
 ·refine xr rfl ?_
  refine Exec.loop (fun n27 L' V' M' => ∃ (x26 : Int), L' = [(0, .v (.slice a2 ((x1).length) (k2))), (11, .v (.slice a2 ((x1).length) (k2))), (12, .v (.int .i64 ((((x1).length : Nat) : Int)))), (13, .v (.int .i64 (x26)))] ∧ M' = [] ∧ SlAt cTShard V' a2 k2 x1 ∧ F_dist_Gather_L2 x1 J3 n27 x26 = some r) ⟨(((((x1).length : Nat) : Int)).toNat + 1), [(0, .v (.slice a2 ((x1).length) (k2))), (11, .v (.slice a2 ((x1).length) (k2))), (12, .v (.int .i64 ((((x1).length : Nat) : Int)))), (13, .v (.int .i64 ((0 : Int))))], ⟨rfl, rfl, rfl, rfl, trivial⟩, (0 : Int), rfl, rfl, h2, hF⟩ ?_
  rintro n27 L' V28 M' ⟨x26, rfl, rfl, h29, hF⟩
  rcases n27 with _ | n27
  ·exact absurd hF (by simp [F_dist_Gather_L2])
  rw [F_dist_Gather_L2] at hF
  refine xr rfl ?_
  rcases cond_some hF with ⟨hb, hF⟩ | ⟨hb, hF⟩
  ·refine Exec.ifT rfl hb ?_
   refine xr rfl ?_
   obtain ⟨q30, hF⟩ := req_some hF
   obtain ⟨c31, hr31, hd31⟩ := SlAt.get h29 q30
   obtain ⟨a32, k32, rfl, h32⟩ := hr31
   refine Exec.ia tyOk rfl rfl ⟨q30.1, q30.2, hd31.some⟩ ?_
   refine xr rfl ?_
   refine Exec.ld tyOk (x := .agg ⟨[.int .i64 ((atI x1 x26).Node), .slice a32 (((atI x1 x26).Pairs).length) (k32)]⟩) rfl rfl hd31 rfl rfl ?_
   refine xr rfl ?_
   refine Exec.draws tyOk [(0, true), (1, true), (2, true), (3, true), (4, true), (5, true), (6, true), (7, true), (8, true), (9, true), (10, true), (11, true), (12, true), (13, true), (14, true), (15, true), (16, false), (17, false), (18, false)] rfl (by kernel_rfl) ?_
   refine xr rfl ?_
   obtain ⟨q33, hF⟩ := req_some hF
   obtain ⟨c34, hr34, hd34⟩ := SlAt.gget (((decide ((0 : Int) < x26))) == true) h29 q33
   obtain ⟨a35, k35, rfl, h35⟩ := hr34
   refine Exec.fia tyOk rfl rfl rfl (fun gg0 => ⟨(q33 (gd1_of gg0)).1, (q33 (gd1_of gg0)).2, (hd34 (gd1_of gg0)).some⟩) ?_
   refine xr rfl ?_
   refine Exec.fld tyOk (x := .int .i64 ((cond (((decide ((0 : Int) < x26))) == true) (atI x1 ((IntKind.i64.wrap (x26 - (1 : Int))))) default).Node)) rfl rfl rfl (fun gg0 => (RdAt.part (hd34 (gd1_of gg0)) 0 1 rfl)) rfl rfl ?_
   refine xr rfl ?_
   obtain ⟨x36, hx36, hF⟩ := bnd_some hF
   refine Exec.callS (.bool (x36)) rfl rfl (fun gg0 => W_state_Valid ((atI x1 x26).Pairs) h32 (gcall_some hx36 (gd1_of gg0))) ?_
   refine xr rfl ?_
   rcases cond_some hF with ⟨hb, hF⟩ | ⟨hb, hF⟩
   ·refine Exec.ifT rfl hb ?_
    refine xr rfl ?_
    obtain rfl := some_inj hF
    exact Exec.ret tyOk rfl rfl ⟨_, _, rfl, SlAt.nil⟩
   ·refine Exec.ifF rfl hb ?_
    refine xr rfl ?_
    refine Exec.cut 0 [(0, .v (.slice a2 ((x1).length) (k2))), (11, .v (.slice a2 ((x1).length) (k2))), (12, .v (.int .i64 ((((x1).length : Nat) : Int)))), (13, .v (.int .i64 ((IntKind.i64.wrap (x26 + (1 : Int))))))] (M' := []) rfl ⟨rfl, rfl, rfl, rfl, trivial⟩ rfl rfl rfl ?_
    exact Exec.round [(0, .v (.slice a2 ((x1).length) (k2))), (11, .v (.slice a2 ((x1).length) (k2))), (12, .v (.int .i64 ((((x1).length : Nat) : Int)))), (13, .v (.int .i64 ((IntKind.i64.wrap (x26 + (1 : Int))))))] ⟨rfl, rfl, rfl, rfl, trivial⟩ ⟨n27, Nat.lt_succ_self _, (IntKind.i64.wrap (x26 + (1 : Int))), rfl, rfl, h29, hF⟩
  ·refine Exec.ifF rfl hb ?_
   refine xr rfl ?_
   exact Exec.round [(0, .v (.slice a2 ((x1).length) (k2)))] ⟨rfl, trivial⟩ ⟨rfl, rfl, h29, hF⟩
def F_dist_Valid_L1 (x3 : List TShard) (x5 : List Int) (x1 : TPlacement) (J11 : Option Bool) : Nat → Int → Option Bool
 | 0, _ => none
 | n14 + 1, x13 => (cond (decide (x13 < (((x3).length : Nat) : Int))) (req (0 ≤ x13 ∧ x13 < ((x3).length : Int)) (req (0 ≤ x13 ∧ x13 < ((x5).length : Int)) (bnd (gcall ((((atI x3 x13).Node != (atI x5 x13))) == false) (F_state_Valid ((atI x3 x13).Pairs))) fun x24 => (bnd (gcall (((((atI x3 x13).Node != (atI x5 x13)) || (!x24))) == false) (F_dist_owned x1 ((atI x3 x13).Pairs) ((atI x3 x13).Node))) fun x25 => (cond ((((atI x3 x13).Node != (atI x5 x13)) || (!x24)) || ((((x25).length : Nat) : Int) != ((((atI x3 x13).Pairs).length : Nat) : Int))) (some false) (F_dist_Valid_L1 x3 x5 x1 J11 n14 ((IntKind.i64.wrap (x13 + (1 : Int)))))))))) J11)
def F_dist_Valid (x1 : TPlacement) (x3 : List TShard) : Option Bool :=
 (bnd (F_placement_Nodes x1) fun x5 => (bnd (F_placement_Valid x1) fun x10 => (cond ((!x10) || ((((x3).length : Nat) : Int) != (((x5).length : Nat) : Int))) (some false) (jn ((some true)) (fun J11 => (F_dist_Valid_L1 x3 x5 x1 J11 (((((x3).length : Nat) : Int)).toNat + 1) ((0 : Int))))))))
theorem W_dist_Valid {V : View} (x1 : TPlacement) (x3 : List TShard) {a2 : Option Addr} {k2 : Nat} {a4 : Option Addr} {k4 : Nat} (h2 : SlAt cTPart V a2 k2 x1.Parts) (h4 : SlAt cTShard V a4 k4 x3) {r : Bool} (hF : F_dist_Valid x1 x3 = some r) :
  Spec Tryz.prog 12 [.agg ⟨[.int .i64 (x1.Version), .slice a2 ((x1.Parts).length) (k2)]⟩, .slice a4 ((x3).length) (k4)] V (fun _ v => v = .bool (r)) := by
 unfold F_dist_Valid at hF
 refine Spec.enter (T := tyT) Tryz.func12 rfl (by kernel_rfl) rfl rfl rfl ?_
 refine xr rfl ?_
 obtain ⟨x5, hx5, hF⟩ := bnd_some hF
 refine Exec.call rfl rfl (W_placement_Nodes x1 h2 hx5) ?_
 rintro V7 _ hv7 ⟨a6, k6, rfl, h6⟩
 have h8 := SlAt.mono h2 hv7
 have h9 := SlAt.mono h4 hv7
 refine xr rfl ?_
 obtain ⟨x10, hx10, hF⟩ := bnd_some hF
 refine Exec.callS (.bool (x10)) rfl rfl (W_placement_Valid x1 h8 hx10) ?_
 refine xr rfl ?_
 rcases cond_some hF with ⟨hb, hF⟩ | ⟨hb, hF⟩
 ·refine Exec.ifT rfl hb ?_
  refine xr rfl ?_
  obtain rfl := some_inj hF
  exact Exec.ret tyOk rfl rfl rfl
 ·refine Exec.ifF rfl hb ?_
  refine Exec.run tyOk 8 rfl ?_
  obtain ⟨J11, hJ11, hF⟩ := jn_some hF
  refine Exec.seam (fun L' V' M' => L' = [] ∧ M' = [] ∧ J11 = some r) rfl ?_ ?_
  ·rintro L' V12 M' ⟨rfl, rfl, hF⟩
   subst hJ11
   refine xr rfl ?_
   obtain rfl := some_inj hF
   exact Exec.ret tyOk rfl rfl rfl
  ·refine xr rfl ?_
   refine Exec.loop (fun n14 L' V' M' => ∃ (x13 : Int), L' = [(2, .ptr 0 0), (5, .v (.slice a6 ((x5).length) (k6))), (20, .v (.slice a4 ((x3).length) (k4))), (21, .v (.int .i64 ((((x3).length : Nat) : Int)))), (22, .v (.int .i64 (x13)))] ∧ M' = [.blk [.v (.int .i64 (x1.Version)), .v (.slice a2 ((x1.Parts).length) (k2))] 24] ∧ SlAt (cInt .i64) V' a6 k6 x5 ∧ SlAt cTShard V' a4 k4 x3 ∧ SlAt cTPart V' a2 k2 x1.Parts ∧ F_dist_Valid_L1 x3 x5 x1 J11 n14 x13 = some r) ⟨(((((x3).length : Nat) : Int)).toNat + 1), [(2, .ptr 0 0), (5, .v (.slice a6 ((x5).length) (k6))), (20, .v (.slice a4 ((x3).length) (k4))), (21, .v (.int .i64 ((((x3).length : Nat) : Int)))), (22, .v (.int .i64 ((0 : Int))))], ⟨rfl, rfl, rfl, rfl, rfl, trivial⟩, (0 : Int), rfl, rfl, h6, h9, h8, hF⟩ ?_
   rintro n14 L' V15 M' ⟨x13, rfl, rfl, h16, h17, h18, hF⟩
   rcases n14 with _ | n14
   ·exact absurd hF (by simp [F_dist_Valid_L1])
   rw [F_dist_Valid_L1] at hF
   refine xr rfl ?_
   rcases cond_some hF with ⟨hb, hF⟩ | ⟨hb, hF⟩
   ·refine Exec.ifT rfl hb ?_
    refine xr rfl ?_
    obtain ⟨q19, hF⟩ := req_some hF
    obtain ⟨c20, hr20, hd20⟩ := SlAt.get h17 q19
    obtain ⟨a21, k21, rfl, h21⟩ := hr20
    refine Exec.ia tyOk rfl rfl ⟨q19.1, q19.2, hd20.some⟩ ?_
    refine xr rfl ?_
    refine Exec.ld tyOk (x := .agg ⟨[.int .i64 ((atI x3 x13).Node), .slice a21 (((atI x3 x13).Pairs).length) (k21)]⟩) rfl rfl hd20 rfl rfl ?_
    refine xr rfl ?_
    refine Exec.draws tyOk [(0, true), (1, true), (2, true), (3, true), (4, true), (5, true), (6, true), (7, true), (8, true), (9, true), (10, false), (11, false), (12, false), (13, false), (14, true), (15, true), (16, true), (17, true), (18, true), (21, true), (22, true), (23, true), (19, false), (20, false), (24, false), (25, false)] rfl (by kernel_rfl) ?_
    refine xr rfl ?_
    obtain ⟨q22, hF⟩ := req_some hF
    obtain ⟨c23, hr23, hd23⟩ := SlAt.get h16 q22
    obtain rfl := hr23
    refine Exec.fia tyOk rfl rfl rfl ⟨q22.1, q22.2, hd23.some⟩ ?_
    refine xr rfl ?_
    refine Exec.fld tyOk (x := .int .i64 ((atI x5 x13))) rfl rfl rfl hd23 rfl rfl ?_
    refine xr rfl ?_
    obtain ⟨x24, hx24, hF⟩ := bnd_some hF
    refine Exec.callS (.bool (x24)) rfl rfl (fun gg0 => W_state_Valid ((atI x3 x13).Pairs) h21 (gcall_some hx24 (gd1_of gg0))) ?_
    refine xr rfl ?_
    obtain ⟨x25, hx25, hF⟩ := bnd_some hF
    refine Exec.callG (fun y : Option Addr × Nat => .slice y.1 ((x25).length) (y.2)) (none, 0) (R := fun V' y => SlAt cTPair V' y.1 y.2 x25) rfl rfl rfl (fun gg0 => (W_dist_owned x1 ((atI x3 x13).Pairs) ((atI x3 x13).Node) h18 h21 (gcall_some hx25 (gd1_of gg0))).mono (fun V' _ _ ⟨a26, k26, e1, h26⟩ => ⟨⟨a26, k26⟩, e1, h26⟩)) ?_
    rintro V27 ⟨a26, k26⟩ hv27 hg27
    have h26 : SlAt cTPair V27 a26 k26 x25 := gslat1 hx25 (fun gg0 => (hg27 gg0))
    have h28 := SlAt.mono h16 hv27
    have h29 := SlAt.mono h17 hv27
    have h31 := SlAt.mono h21 hv27
    have h33 := SlAt.mono h18 hv27
    refine xr rfl ?_
    rcases cond_some hF with ⟨hb, hF⟩ | ⟨hb, hF⟩
    ·refine Exec.ifT rfl hb ?_
     refine xr rfl ?_
     obtain rfl := some_inj hF
     exact Exec.ret tyOk rfl rfl rfl
    ·refine Exec.ifF rfl hb ?_
     refine xr rfl ?_
     refine Exec.cut 1 [(2, .ptr 0 0), (5, .v (.slice a6 ((x5).length) (k6))), (20, .v (.slice a4 ((x3).length) (k4))), (21, .v (.int .i64 ((((x3).length : Nat) : Int)))), (22, .v (.int .i64 ((IntKind.i64.wrap (x13 + (1 : Int))))))] (M' := [.blk [.v (.int .i64 (x1.Version)), .v (.slice a2 ((x1.Parts).length) (k2))] 24]) rfl ⟨rfl, rfl, rfl, rfl, rfl, trivial⟩ rfl rfl rfl ?_
     exact Exec.round [(2, .ptr 0 0), (5, .v (.slice a6 ((x5).length) (k6))), (20, .v (.slice a4 ((x3).length) (k4))), (21, .v (.int .i64 ((((x3).length : Nat) : Int)))), (22, .v (.int .i64 ((IntKind.i64.wrap (x13 + (1 : Int))))))] ⟨rfl, rfl, rfl, rfl, rfl, trivial⟩ ⟨n14, Nat.lt_succ_self _, (IntKind.i64.wrap (x13 + (1 : Int))), rfl, rfl, h28, h29, h33, hF⟩
   ·refine Exec.ifF rfl hb ?_
    refine xr rfl ?_
    refine Exec.cut 0 [] (M' := []) rfl trivial rfl rfl rfl ?_
    exact Exec.round [] trivial ⟨rfl, rfl, hF⟩
def F_rebalance_Sizes_L2 (x3 : List TShard) (x18 : Int) (x1 : TPlacement) (J28 : (List Int) → Option (List Int)) : Nat → (List Int) → Int → Option (List Int)
 | 0, _, _ => none
 | n35 + 1, x33, x34 => (cond (decide (x34 < ((((atI x3 x18).Pairs).length : Nat) : Int))) (req (0 ≤ x34 ∧ x34 < (((atI x3 x18).Pairs).length : Int)) (bnd (F_placement_Index x1 ((atI ((atI x3 x18).Pairs) x34).Key)) fun x42 => (req (0 ≤ x42 ∧ x42 < ((x33).length : Int)) (req (0 ≤ x42 ∧ x42 < ((x33).length : Int)) (F_rebalance_Sizes_L2 x3 x18 x1 J28 n35 ((x33.set (x42).toNat ((IntKind.i64.wrap ((atI x33 x42) + (1 : Int)))))) ((IntKind.i64.wrap (x34 + (1 : Int))))))))) (J28 x33))
def F_rebalance_Sizes_L1 (x3 : List TShard) (x1 : TPlacement) (J11 : (List Int) → Option (List Int)) : Nat → (List Int) → Int → Option (List Int)
 | 0, _, _ => none
 | n19 + 1, x17, x18 => (cond (decide (x18 < (((x3).length : Nat) : Int))) (req (0 ≤ x18 ∧ x18 < ((x3).length : Int)) (jn (fun (x27 : List Int) => (F_rebalance_Sizes_L1 x3 x1 J11 n19 x27 ((IntKind.i64.wrap (x18 + (1 : Int)))))) (fun J28 => (F_rebalance_Sizes_L2 x3 x18 x1 J28 ((((((atI x3 x18).Pairs).length : Nat) : Int)).toNat + 1) x17 ((0 : Int)))))) (J11 x17))
def F_rebalance_Sizes (x1 : TPlacement) (x3 : List TShard) : Option (List Int) :=
 (bnd (F_dist_Valid x1 x3) fun x5 => (cond (!x5) (some ([] : List Int)) (req (0 ≤ (((x1.Parts).length : Nat) : Int) ∧ (((x1.Parts).length : Nat) : Int) ≤ (((x1.Parts).length : Nat) : Int)) (req (8 * ((((x1.Parts).length : Nat) : Int)).toNat ≤ 281474976710656) (jn (fun (x10 : List Int) => (some x10)) (fun J11 => (F_rebalance_Sizes_L1 x3 x1 J11 (((((x3).length : Nat) : Int)).toNat + 1) ((List.replicate ((((x1.Parts).length : Nat) : Int)).toNat (default : Int))) ((0 : Int)))))))))
theorem W_rebalance_Sizes {V : View} (x1 : TPlacement) (x3 : List TShard) {a2 : Option Addr} {k2 : Nat} {a4 : Option Addr} {k4 : Nat} (h2 : SlAt cTPart V a2 k2 x1.Parts) (h4 : SlAt cTShard V a4 k4 x3) {r : List Int} (hF : F_rebalance_Sizes x1 x3 = some r) :
  Spec Tryz.prog 15 [.agg ⟨[.int .i64 (x1.Version), .slice a2 ((x1.Parts).length) (k2)]⟩, .slice a4 ((x3).length) (k4)] V (fun V' v => ∃ (a50 : Option Addr) (k50 : Nat), v = .slice a50 ((r).length) (k50) ∧ SlAt (cInt .i64) V' a50 k50 r) := by
 unfold F_rebalance_Sizes at hF
 refine Spec.enter (T := tyT) Tryz.func15 rfl (by kernel_rfl) rfl rfl rfl ?_
 refine xr rfl ?_
 obtain ⟨x5, hx5, hF⟩ := bnd_some hF
 refine Exec.callS (.bool (x5)) rfl rfl (W_dist_Valid x1 x3 h2 h4 hx5) ?_
 refine xr rfl ?_
 rcases cond_some hF with ⟨hb, hF⟩ | ⟨hb, hF⟩
 ·refine Exec.ifT rfl hb ?_
  refine xr rfl ?_
  obtain rfl := some_inj hF
  exact Exec.ret tyOk rfl rfl ⟨_, _, rfl, SlAt.nil⟩
 ·refine Exec.ifF rfl hb ?_
  refine xr rfl ?_
  obtain ⟨q6, hF⟩ := req_some hF
  obtain ⟨q7, hF⟩ := req_some hF
  refine Exec.mkr tyOk rfl rfl rfl rfl (nm := ((List.replicate ((((x1.Parts).length : Nat) : Int)).toNat (default : Int))).length) (by simp) q6 q7 (fun _ => rfl) (fun a8 => ?_)
  have h8 : RowRep (cInt .i64) V (List.replicate ((((x1.Parts).length : Nat) : Int)).toNat (default : Int)) ((List.replicate ((List.replicate ((((x1.Parts).length : Nat) : Int)).toNat (default : Int))).length [.int .i64 (0)]).flatten) := by rw [List.length_replicate]; exact RowRep.reps (c := (cInt .i64)) rfl _
  refine Exec.run tyOk 9 rfl ?_
  obtain ⟨J11, hJ11, hF⟩ := jn_some hF
  refine Exec.seam (fun L' V' M' => ∃ (x10 : List Int) (a9 : Option Addr) (k9 : Nat) (cs9 : List Value), L' = [(5, .v (.slice a9 ((x10).length) (k9)))] ∧ M' = [.blk [.v (.int .i64 (x1.Version)), .v (.slice a2 ((x1.Parts).length) (k2))] 24, .row (.slice a9 ((x10).length) (k9)) cs9 3 1] ∧ RowRep (cInt .i64) V' x10 cs9 ∧ SlAt cTPart V' a2 k2 x1.Parts ∧ J11 x10 = some r) rfl ?_ ?_
  ·rintro L' V12 M' ⟨x10, a9, k9, cs9, rfl, rfl, h9, h13, hF⟩
   subst hJ11
   refine xr rfl ?_
   refine Exec.frz 1 rfl rfl rfl (fun V14 hv14 hd14 hn14 => ?_)
   have hz14 := RowRep.slat h9 hv14 hd14 hn14
   have h15 := SlAt.mono h13 hv14
   obtain rfl := some_inj hF
   exact Exec.ret tyOk rfl rfl ⟨_, _, rfl, hz14⟩
  ·refine xr rfl ?_
   refine Exec.loop (fun n19 L' V' M' => ∃ (x17 : List Int) (a16 : Option Addr) (k16 : Nat) (cs16 : List Value) (x18 : Int), L' = [(2, .ptr 0 0), (5, .v (.slice a16 ((x17).length) (k16))), (18, .v (.slice a4 ((x3).length) (k4))), (19, .v (.int .i64 ((((x3).length : Nat) : Int)))), (20, .v (.int .i64 (x18)))] ∧ M' = [.blk [.v (.int .i64 (x1.Version)), .v (.slice a2 ((x1.Parts).length) (k2))] 24, .row (.slice a16 ((x17).length) (k16)) cs16 3 1] ∧ RowRep (cInt .i64) V' x17 cs16 ∧ SlAt cTShard V' a4 k4 x3 ∧ SlAt cTPart V' a2 k2 x1.Parts ∧ F_rebalance_Sizes_L1 x3 x1 J11 n19 x17 x18 = some r) ⟨(((((x3).length : Nat) : Int)).toNat + 1), [(2, .ptr 0 0), (5, .v (.slice ((some a8)) (((List.replicate ((((x1.Parts).length : Nat) : Int)).toNat (default : Int))).length) (((((x1.Parts).length : Nat) : Int)).toNat))), (18, .v (.slice a4 ((x3).length) (k4))), (19, .v (.int .i64 ((((x3).length : Nat) : Int)))), (20, .v (.int .i64 ((0 : Int))))], ⟨rfl, rfl, rfl, rfl, rfl, trivial⟩, (List.replicate ((((x1.Parts).length : Nat) : Int)).toNat (default : Int)), (some a8), ((((x1.Parts).length : Nat) : Int)).toNat, ((List.replicate ((List.replicate ((((x1.Parts).length : Nat) : Int)).toNat (default : Int))).length [.int .i64 (0)]).flatten), (0 : Int), rfl, rfl, h8, h4, h2, hF⟩ ?_
   rintro n19 L' V20 M' ⟨x17, a16, k16, cs16, x18, rfl, rfl, h16, h21, h22, hF⟩
   rcases n19 with _ | n19
   ·exact absurd hF (by simp [F_rebalance_Sizes_L1])
   rw [F_rebalance_Sizes_L1] at hF
   refine xr rfl ?_
   rcases cond_some hF with ⟨hb, hF⟩ | ⟨hb, hF⟩
   ·refine Exec.ifT rfl hb ?_
    refine xr rfl ?_
    obtain ⟨q23, hF⟩ := req_some hF
    obtain ⟨c24, hr24, hd24⟩ := SlAt.get h21 q23
    obtain ⟨a25, k25, rfl, h25⟩ := hr24
    refine Exec.ia tyOk rfl rfl ⟨q23.1, q23.2, hd24.some⟩ ?_
    refine xr rfl ?_
    refine Exec.ld tyOk (x := .agg ⟨[.int .i64 ((atI x3 x18).Node), .slice a25 (((atI x3 x18).Pairs).length) (k25)]⟩) rfl rfl hd24 rfl rfl ?_
    refine Exec.run tyOk 10 rfl ?_
    obtain ⟨J28, hJ28, hF⟩ := jn_some hF
    refine Exec.seam (fun L' V' M' => ∃ (x27 : List Int) (a26 : Option Addr) (k26 : Nat) (cs26 : List Value), L' = [(2, .ptr 0 0), (5, .v (.slice a26 ((x27).length) (k26))), (18, .v (.slice a4 ((x3).length) (k4))), (19, .v (.int .i64 ((((x3).length : Nat) : Int)))), (20, .v (.int .i64 (x18)))] ∧ M' = [.blk [.v (.int .i64 (x1.Version)), .v (.slice a2 ((x1.Parts).length) (k2))] 24, .row (.slice a26 ((x27).length) (k26)) cs26 3 1] ∧ RowRep (cInt .i64) V' x27 cs26 ∧ SlAt cTShard V' a4 k4 x3 ∧ SlAt cTPart V' a2 k2 x1.Parts ∧ J28 x27 = some r) rfl ?_ ?_
    ·rintro L' V29 M' ⟨x27, a26, k26, cs26, rfl, rfl, h26, h30, h31, hF⟩
     subst hJ28
     refine xr rfl ?_
     exact Exec.round [(2, .ptr 0 0), (5, .v (.slice a26 ((x27).length) (k26))), (18, .v (.slice a4 ((x3).length) (k4))), (19, .v (.int .i64 ((((x3).length : Nat) : Int)))), (20, .v (.int .i64 ((IntKind.i64.wrap (x18 + (1 : Int))))))] ⟨rfl, rfl, rfl, rfl, rfl, trivial⟩ ⟨n19, Nat.lt_succ_self _, x27, a26, k26, cs26, (IntKind.i64.wrap (x18 + (1 : Int))), rfl, rfl, h26, h30, h31, hF⟩
    ·refine xr rfl ?_
     refine Exec.cut 2 [(2, .ptr 0 0), (5, .v (.slice a16 ((x17).length) (k16))), (18, .v (.slice a4 ((x3).length) (k4))), (19, .v (.int .i64 ((((x3).length : Nat) : Int)))), (20, .v (.int .i64 (x18))), (25, .v (.slice a25 (((atI x3 x18).Pairs).length) (k25))), (26, .v (.int .i64 (((((atI x3 x18).Pairs).length : Nat) : Int)))), (27, .v (.int .i64 ((0 : Int))))] (M' := [.blk [.v (.int .i64 (x1.Version)), .v (.slice a2 ((x1.Parts).length) (k2))] 24, .row (.slice a16 ((x17).length) (k16)) cs16 3 1]) rfl ⟨rfl, rfl, rfl, rfl, rfl, rfl, rfl, rfl, trivial⟩ rfl rfl rfl ?_
     refine Exec.loop (fun n35 L' V' M' => ∃ (x33 : List Int) (a32 : Option Addr) (k32 : Nat) (cs32 : List Value) (x34 : Int), L' = [(2, .ptr 0 0), (5, .v (.slice a32 ((x33).length) (k32))), (18, .v (.slice a4 ((x3).length) (k4))), (19, .v (.int .i64 ((((x3).length : Nat) : Int)))), (20, .v (.int .i64 (x18))), (25, .v (.slice a25 (((atI x3 x18).Pairs).length) (k25))), (26, .v (.int .i64 (((((atI x3 x18).Pairs).length : Nat) : Int)))), (27, .v (.int .i64 (x34)))] ∧ M' = [.blk [.v (.int .i64 (x1.Version)), .v (.slice a2 ((x1.Parts).length) (k2))] 24, .row (.slice a32 ((x33).length) (k32)) cs32 3 1] ∧ RowRep (cInt .i64) V' x33 cs32 ∧ SlAt cTShard V' a4 k4 x3 ∧ SlAt cTPair V' a25 k25 ((atI x3 x18).Pairs) ∧ SlAt cTPart V' a2 k2 x1.Parts ∧ F_rebalance_Sizes_L2 x3 x18 x1 J28 n35 x33 x34 = some r) ⟨((((((atI x3 x18).Pairs).length : Nat) : Int)).toNat + 1), [(2, .ptr 0 0), (5, .v (.slice a16 ((x17).length) (k16))), (18, .v (.slice a4 ((x3).length) (k4))), (19, .v (.int .i64 ((((x3).length : Nat) : Int)))), (20, .v (.int .i64 (x18))), (25, .v (.slice a25 (((atI x3 x18).Pairs).length) (k25))), (26, .v (.int .i64 (((((atI x3 x18).Pairs).length : Nat) : Int)))), (27, .v (.int .i64 ((0 : Int))))], ⟨rfl, rfl, rfl, rfl, rfl, rfl, rfl, rfl, trivial⟩, x17, a16, k16, cs16, (0 : Int), rfl, rfl, h16, h21, h25, h22, hF⟩ ?_
     rintro n35 L' V36 M' ⟨x33, a32, k32, cs32, x34, rfl, rfl, h32, h37, h38, h39, hF⟩
     rcases n35 with _ | n35
     ·exact absurd hF (by simp [F_rebalance_Sizes_L2])
     rw [F_rebalance_Sizes_L2] at hF
     refine xr rfl ?_
     rcases cond_some hF with ⟨hb, hF⟩ | ⟨hb, hF⟩
     ·refine Exec.ifT rfl hb ?_
      refine xr rfl ?_
      obtain ⟨q40, hF⟩ := req_some hF
      obtain ⟨c41, hr41, hd41⟩ := SlAt.get h38 q40
      obtain rfl := hr41
      refine Exec.ia tyOk rfl rfl ⟨q40.1, q40.2, hd41.some⟩ ?_
      refine xr rfl ?_
      refine Exec.ld tyOk (x := .agg ⟨[.string ⟨⟨(atI ((atI x3 x18).Pairs) x34).Key⟩⟩, .int .i64 ((atI ((atI x3 x18).Pairs) x34).Val.Kind), .int .i64 ((atI ((atI x3 x18).Pairs) x34).Val.N), .string ⟨⟨(atI ((atI x3 x18).Pairs) x34).Val.S⟩⟩]⟩) rfl rfl hd41 rfl rfl ?_
      refine xr rfl ?_
      obtain ⟨x42, hx42, hF⟩ := bnd_some hF
      refine Exec.callS (.int .i64 (x42)) rfl rfl (W_placement_Index x1 ((atI ((atI x3 x18).Pairs) x34).Key) h39 hx42) ?_
      refine xr rfl ?_
      obtain ⟨q43, hF⟩ := req_some hF
      refine Exec.rowI 1 rfl (fun ra44 rb44 rc44 => ?_)
      obtain ⟨c45, hr45, hd45⟩ := RowRep.get h32 q43
      obtain rfl := hr45
      have rd44 : 0 ≤ x42 ∧ x42 < (((x33).length : Nat) : Int) := q43
      have rs44 := rb44 (by omega)
      refine Exec.ia tyOk rfl rfl ⟨rd44.1, rd44.2, rs44⟩ ?_
      refine xr rfl ?_
      refine Exec.ldR tyOk 1 (x := .int .i64 ((atI x33 x42))) rfl rfl rfl ⟨hd45, rs44⟩ rfl rfl ?_
      refine xr rfl ?_
      obtain ⟨q46, hF⟩ := req_some hF
      refine Exec.rowI 1 rfl (fun ra47 rb47 rc47 => ?_)
      obtain ⟨c48, hr48, hd48⟩ := RowRep.get h32 q46
      obtain rfl := hr48
      have rd47 : 0 ≤ x42 ∧ x42 < (((x33).length : Nat) : Int) := q46
      have rs47 := rb47 (by omega)
      refine Exec.ia tyOk rfl rfl ⟨rd47.1, rd47.2, rs47⟩ ?_
      refine xr rfl ?_
      have rl49 := RowRep.len h32
      have h49 : RowRep (cInt .i64) V36 (x33.set (x42).toNat ((IntKind.i64.wrap ((atI x33 x42) + (1 : Int))))) (cs32.take ((x42).toNat * 1) ++ [.int .i64 ((IntKind.i64.wrap ((atI x33 x42) + (1 : Int))))] ++ cs32.drop (((x42).toNat * 1) + 1)) := RowRep.set h32 q46 rfl
      refine Exec.stR tyOk 1 rfl rfl rfl rfl rfl rs47 (stB q46 rl49) rfl rfl rfl ?_
      refine xr rfl ?_
      refine Exec.cut 2 [(2, .ptr 0 0), (5, .v (.slice a32 ((x33).length) (k32))), (18, .v (.slice a4 ((x3).length) (k4))), (19, .v (.int .i64 ((((x3).length : Nat) : Int)))), (20, .v (.int .i64 (x18))), (25, .v (.slice a25 (((atI x3 x18).Pairs).length) (k25))), (26, .v (.int .i64 (((((atI x3 x18).Pairs).length : Nat) : Int)))), (27, .v (.int .i64 ((IntKind.i64.wrap (x34 + (1 : Int))))))] (M' := [.blk [.v (.int .i64 (x1.Version)), .v (.slice a2 ((x1.Parts).length) (k2))] 24, .row (.slice a32 ((x33).length) (k32)) ((cs32.take ((x42).toNat * 1) ++ [.int .i64 ((IntKind.i64.wrap ((atI x33 x42) + (1 : Int))))] ++ cs32.drop (((x42).toNat * 1) + 1))) 3 1]) rfl ⟨rfl, rfl, rfl, rfl, rfl, rfl, rfl, rfl, trivial⟩ rfl rfl rfl ?_
      exact Exec.round [(2, .ptr 0 0), (5, .v (.slice a32 (((x33.set (x42).toNat ((IntKind.i64.wrap ((atI x33 x42) + (1 : Int)))))).length) (k32))), (18, .v (.slice a4 ((x3).length) (k4))), (19, .v (.int .i64 ((((x3).length : Nat) : Int)))), (20, .v (.int .i64 (x18))), (25, .v (.slice a25 (((atI x3 x18).Pairs).length) (k25))), (26, .v (.int .i64 (((((atI x3 x18).Pairs).length : Nat) : Int)))), (27, .v (.int .i64 ((IntKind.i64.wrap (x34 + (1 : Int))))))] ⟨rfl, look_eq rfl (by simp), rfl, rfl, rfl, rfl, rfl, rfl, trivial⟩ ⟨n35, Nat.lt_succ_self _, (x33.set (x42).toNat ((IntKind.i64.wrap ((atI x33 x42) + (1 : Int))))), a32, k32, (cs32.take ((x42).toNat * 1) ++ [.int .i64 ((IntKind.i64.wrap ((atI x33 x42) + (1 : Int))))] ++ cs32.drop (((x42).toNat * 1) + 1)), (IntKind.i64.wrap (x34 + (1 : Int))), rfl, (by simp), h49, h37, h38, h39, hF⟩
     ·refine Exec.ifF rfl hb ?_
      refine xr rfl ?_
      exact Exec.round [(2, .ptr 0 0), (5, .v (.slice a32 ((x33).length) (k32))), (18, .v (.slice a4 ((x3).length) (k4))), (19, .v (.int .i64 ((((x3).length : Nat) : Int)))), (20, .v (.int .i64 (x18)))] ⟨rfl, rfl, rfl, rfl, rfl, trivial⟩ ⟨x33, a32, k32, cs32, rfl, rfl, h32, h37, h39, hF⟩
   ·refine Exec.ifF rfl hb ?_
    refine xr rfl ?_
    exact Exec.round [(5, .v (.slice a16 ((x17).length) (k16)))] ⟨rfl, trivial⟩ ⟨x17, a16, k16, cs16, rfl, rfl, h16, h22, hF⟩
def F_rebalance_Advise (x1 : TPlacement) (x3 : List TShard) (x5 : List THeat) (x7 : Int) : Option (TMarker × Bool) :=
 (bnd (F_dist_Valid x1 x3) fun x8 => (bnd (gcall (((!x8)) == false) (F_heat_Valid x5)) fun x9 => (cond (((((!x8) || (!x9)) || (decide (x7 < (1 : Int)))) || (decide ((16 : Int) < x7))) || (x1.Version == (1099511627776 : Int))) (some ((⟨0, 0, 0, 0, 0, []⟩ : TMarker), false)) (bnd (F_dist_Gather x3) fun x10 => (bnd (F_rebalance_Sizes x1 x3) fun x16 => (bnd (F_rebalance_Loads x1 x5) fun x23 => (bnd (F_heat_Hot x5 ((8 : Int))) fun x31 => (bnd (F_rebalance_freeId x1) fun x40 => (bnd (F_rebalance_advice_continued ((⟨x1, x10.1, x16, x23, x31, x40⟩ : Tadvice))) fun x113 => (cond x113.2 (some (x113.1, true)) (bnd (F_rebalance_advice_splitSize ((⟨x1, x10.1, x16, x23, x31, x40⟩ : Tadvice))) fun x114 => (cond x114.2 (some (x114.1, true)) (bnd (F_rebalance_advice_splitLoad ((⟨x1, x10.1, x16, x23, x31, x40⟩ : Tadvice))) fun x115 => (cond x115.2 (some (x115.1, true)) (bnd (F_rebalance_advice_merged ((⟨x1, x10.1, x16, x23, x31, x40⟩ : Tadvice))) fun x116 => (cond x116.2 (some (x116.1, true)) (bnd (F_rebalance_advice_moved ((⟨x1, x10.1, x16, x23, x31, x40⟩ : Tadvice)) x3 x7) fun x117 => (some (x117.1, x117.2)))))))))))))))))))
theorem W_rebalance_Advise {V : View} (x1 : TPlacement) (x3 : List TShard) (x5 : List THeat) (x7 : Int) {a2 : Option Addr} {k2 : Nat} {a4 : Option Addr} {k4 : Nat} {a6 : Option Addr} {k6 : Nat} (h2 : SlAt cTPart V a2 k2 x1.Parts) (h4 : SlAt cTShard V a4 k4 x3) (h6 : SlAt cTHeat V a6 k6 x5) {r : TMarker × Bool} (hF : F_rebalance_Advise x1 x3 x5 x7 = some r) :
  Spec Tryz.prog 22 [.agg ⟨[.int .i64 (x1.Version), .slice a2 ((x1.Parts).length) (k2)]⟩, .slice a4 ((x3).length) (k4), .slice a6 ((x5).length) (k6), .int .i64 (x7)] V (fun _ v => v = .tuple ⟨[.agg ⟨[.int .i64 (r.1.Kind), .int .i64 (r.1.Part), .int .i64 (r.1.New), .int .i64 (r.1.Node), .int .i64 (r.1.N), .string ⟨⟨r.1.Key⟩⟩]⟩, .bool (r.2)]⟩) := by
 unfold F_rebalance_Advise at hF
 refine Spec.enter (T := tyT) Tryz.func22 rfl (by kernel_rfl) rfl rfl rfl ?_
 refine xr rfl ?_
 obtain ⟨x8, hx8, hF⟩ := bnd_some hF
 refine Exec.callS (.bool (x8)) rfl rfl (W_dist_Valid x1 x3 h2 h4 hx8) ?_
 refine xr rfl ?_
 obtain ⟨x9, hx9, hF⟩ := bnd_some hF
 refine Exec.callS (.bool (x9)) rfl rfl (fun gg0 => W_heat_Valid x5 h6 (gcall_some hx9 (gd1_of gg0))) ?_
 refine xr rfl ?_
 rcases cond_some hF with ⟨hb, hF⟩ | ⟨hb, hF⟩
 ·refine Exec.ifT rfl hb ?_
  refine xr rfl ?_
  obtain rfl := some_inj hF
  exact Exec.ret tyOk rfl rfl rfl
 ·refine Exec.ifF rfl hb ?_
  refine xr rfl ?_
  obtain ⟨x10, hx10, hF⟩ := bnd_some hF
  refine Exec.call rfl rfl (W_dist_Gather x3 h4 hx10) ?_
  rintro V12 _ hv12 ⟨a11, k11, rfl, h11⟩
  have h13 := SlAt.mono h2 hv12
  have h14 := SlAt.mono h4 hv12
  have h15 := SlAt.mono h6 hv12
  refine xr rfl ?_
  refine Exec.draws tyOk [(0, true), (1, true), (2, true), (3, true), (5, true), (6, true), (8, true), (10, true)] rfl (by kernel_rfl) ?_
  refine xr rfl ?_
  obtain ⟨x16, hx16, hF⟩ := bnd_some hF
  obtain ⟨x23, hx23, hF⟩ := bnd_some hF
  obtain ⟨x31, hx31, hF⟩ := bnd_some hF
  obtain ⟨x40, hx40, hF⟩ := bnd_some hF
  refine Exec.forkJ [(14, false)] (fun lr' L' V' M' => ∃ (a17 : Option Addr) (k17 : Nat) (a24 : Option Addr) (k24 : Nat) (a32 : Option Addr) (k32 : Nat), lr' = [] ∧ L' = [(1, .v (.slice a4 ((x3).length) (k4))), (3, .v (.int .i64 (x7))), (8, .ptr 1 0), (12, .ptr 2 0), (61, .v (.agg ⟨[.int .i64 (x1.Version), .slice a2 ((x1.Parts).length) (k2), .slice a11 ((x10.1).length) (k11), .slice a17 ((x16).length) (k17), .slice a24 ((x23).length) (k24), .slice a32 ((x31).length) (k32), .int .i64 (x40)]⟩))] ∧ M' = [.blk [.v (.int .i64 (x1.Version)), .v (.slice a2 ((x1.Parts).length) (k2))] 24, .blk [.v (.int .i64 (0)), .v (.int .i64 (0)), .v (.int .i64 (0)), .v (.int .i64 (0)), .v (.int .i64 (0)), .v (.string ⟨⟨[]⟩⟩)] 27, .blk [.v (.int .i64 (0)), .v (.slice none (0) (0)), .v (.slice none (0) (0)), .v (.slice none (0) (0)), .v (.slice none (0) (0)), .v (.slice none (0) (0)), .v (.int .i64 (0))] 89] ∧ SlAt cTShard V' a4 k4 x3 ∧ SlAt cTPart V' a2 k2 x1.Parts ∧ SlAt cTPair V' a11 k11 x10.1 ∧ SlAt (cInt .i64) V' a17 k17 x16 ∧ SlAt (cInt .i64) V' a24 k24 x23 ∧ SlAt cStr V' a32 k32 x31) 1 [true, true, true, true, true, true, true, true, true, true, true, true, true, true, false] (by kernel_rfl) (fun join => ?_) ?_
  ·refine xr rfl ?_
   refine Exec.pick2 (i := 4) (j := 13) [] [(4, false), (7, false), (9, false), (11, false), (12, true)] rfl (by kernel_rfl) rfl rfl (by kernel_rfl) (by kernel_rfl) (by kernel_rfl) ?_ ?_
   ·refine xr rfl ?_
    refine Exec.call rfl rfl (W_rebalance_Sizes x1 x3 h13 h14 hx16) ?_
    rintro V42 _ hv42 ⟨a41, k41, rfl, h41⟩
    have h43 := SlAt.mono h13 hv42
    have h44 := SlAt.mono h14 hv42
    have h45 := SlAt.mono h15 hv42
    have h46 := SlAt.mono h11 hv42
    refine xr rfl ?_
    refine xr rfl ?_
    refine Exec.pick2 (i := 7) (j := 13) [] [(7, false), (9, false), (11, false), (12, true)] rfl (by kernel_rfl) rfl rfl (by kernel_rfl) (by kernel_rfl) (by kernel_rfl) ?_ ?_
    ·refine xr rfl ?_
     refine Exec.call rfl rfl (W_rebalance_Loads x1 x5 h43 h45 hx23) ?_
     rintro V48 _ hv48 ⟨a47, k47, rfl, h47⟩
     have h49 := SlAt.mono h43 hv48
     have h50 := SlAt.mono h44 hv48
     have h51 := SlAt.mono h45 hv48
     have h52 := SlAt.mono h46 hv48
     have h53 := SlAt.mono h41 hv48
     refine xr rfl ?_
     refine xr rfl ?_
     refine Exec.pick2 (i := 9) (j := 13) [] [(9, false), (11, false), (12, true)] rfl (by kernel_rfl) rfl rfl (by kernel_rfl) (by kernel_rfl) (by kernel_rfl) ?_ ?_
     ·refine xr rfl ?_
      refine Exec.call rfl rfl (W_heat_Hot x5 ((8 : Int)) h51 hx31) ?_
      rintro V55 _ hv55 ⟨a54, k54, rfl, h54⟩
      have h56 := SlAt.mono h49 hv55
      have h57 := SlAt.mono h50 hv55
      have h58 := SlAt.mono h51 hv55
      have h59 := SlAt.mono h52 hv55
      have h60 := SlAt.mono h53 hv55
      have h61 := SlAt.mono h47 hv55
      refine xr rfl ?_
      refine xr rfl ?_
      refine Exec.pick2 (i := 11) (j := 13) [(12, true), (13, false)] [(11, false), (12, true)] rfl (by kernel_rfl) rfl rfl (by kernel_rfl) (by kernel_rfl) (by kernel_rfl) ?_ ?_
      ·refine xr rfl ?_
       refine Exec.callS (.int .i64 (x40)) rfl rfl (W_rebalance_freeId x1 h56 hx40) ?_
       refine xr rfl ?_
       exact join [0, 1, 2] (lr' := []) (L' := [(1, .v (.slice a4 ((x3).length) (k4))), (3, .v (.int .i64 (x7))), (8, .ptr 1 0), (12, .ptr 2 0), (61, .v (.agg ⟨[.int .i64 (x1.Version), .slice a2 ((x1.Parts).length) (k2), .slice a11 ((x10.1).length) (k11), .slice a41 ((x16).length) (k41), .slice a47 ((x23).length) (k47), .slice a54 ((x31).length) (k54), .int .i64 (x40)]⟩))]) rfl rfl rfl rfl ⟨⟨_, rfl, rfl⟩, ⟨_, rfl, rfl⟩, ⟨_, rfl, rfl⟩, ⟨_, rfl, rfl⟩, ⟨_, rfl, rfl⟩, trivial⟩ trivial ⟨_, _, _, _, _, _, rfl, rfl, rfl, h57, h56, h59, h60, h61, h54⟩
      ·refine xr rfl ?_
       refine Exec.callS (.int .i64 (x40)) rfl rfl (W_rebalance_freeId x1 h56 hx40) ?_
       refine xr rfl ?_
       exact join [0, 1, 2] (lr' := []) (L' := [(1, .v (.slice a4 ((x3).length) (k4))), (3, .v (.int .i64 (x7))), (8, .ptr 1 0), (12, .ptr 2 0), (61, .v (.agg ⟨[.int .i64 (x1.Version), .slice a2 ((x1.Parts).length) (k2), .slice a11 ((x10.1).length) (k11), .slice a41 ((x16).length) (k41), .slice a47 ((x23).length) (k47), .slice a54 ((x31).length) (k54), .int .i64 (x40)]⟩))]) rfl rfl rfl rfl ⟨⟨_, rfl, rfl⟩, ⟨_, rfl, rfl⟩, ⟨_, rfl, rfl⟩, ⟨_, rfl, rfl⟩, ⟨_, rfl, rfl⟩, trivial⟩ trivial ⟨_, _, _, _, _, _, rfl, rfl, rfl, h57, h56, h59, h60, h61, h54⟩
     ·refine xr rfl ?_
      refine Exec.call rfl rfl (W_heat_Hot x5 ((8 : Int)) h51 hx31) ?_
      rintro V63 _ hv63 ⟨a62, k62, rfl, h62⟩
      have h64 := SlAt.mono h49 hv63
      have h65 := SlAt.mono h50 hv63
      have h66 := SlAt.mono h51 hv63
      have h67 := SlAt.mono h52 hv63
      have h68 := SlAt.mono h53 hv63
      have h69 := SlAt.mono h47 hv63
      refine xr rfl ?_
      refine Exec.callS (.int .i64 (x40)) rfl rfl (W_rebalance_freeId x1 h64 hx40) ?_
      refine xr rfl ?_
      exact join [0, 1, 2] (lr' := []) (L' := [(1, .v (.slice a4 ((x3).length) (k4))), (3, .v (.int .i64 (x7))), (8, .ptr 1 0), (12, .ptr 2 0), (61, .v (.agg ⟨[.int .i64 (x1.Version), .slice a2 ((x1.Parts).length) (k2), .slice a11 ((x10.1).length) (k11), .slice a41 ((x16).length) (k41), .slice a47 ((x23).length) (k47), .slice a62 ((x31).length) (k62), .int .i64 (x40)]⟩))]) rfl rfl rfl rfl ⟨⟨_, rfl, rfl⟩, ⟨_, rfl, rfl⟩, ⟨_, rfl, rfl⟩, ⟨_, rfl, rfl⟩, ⟨_, rfl, rfl⟩, trivial⟩ trivial ⟨_, _, _, _, _, _, rfl, rfl, rfl, h65, h64, h67, h68, h69, h62⟩
    ·refine xr rfl ?_
     refine Exec.call rfl rfl (W_rebalance_Loads x1 x5 h43 h45 hx23) ?_
     rintro V71 _ hv71 ⟨a70, k70, rfl, h70⟩
     have h72 := SlAt.mono h43 hv71
     have h73 := SlAt.mono h44 hv71
     have h74 := SlAt.mono h45 hv71
     have h75 := SlAt.mono h46 hv71
     have h76 := SlAt.mono h41 hv71
     refine xr rfl ?_
     refine Exec.call rfl rfl (W_heat_Hot x5 ((8 : Int)) h74 hx31) ?_
     rintro V78 _ hv78 ⟨a77, k77, rfl, h77⟩
     have h79 := SlAt.mono h72 hv78
     have h80 := SlAt.mono h73 hv78
     have h81 := SlAt.mono h74 hv78
     have h82 := SlAt.mono h75 hv78
     have h83 := SlAt.mono h76 hv78
     have h84 := SlAt.mono h70 hv78
     refine xr rfl ?_
     refine Exec.callS (.int .i64 (x40)) rfl rfl (W_rebalance_freeId x1 h79 hx40) ?_
     refine xr rfl ?_
     exact join [0, 1, 2] (lr' := []) (L' := [(1, .v (.slice a4 ((x3).length) (k4))), (3, .v (.int .i64 (x7))), (8, .ptr 1 0), (12, .ptr 2 0), (61, .v (.agg ⟨[.int .i64 (x1.Version), .slice a2 ((x1.Parts).length) (k2), .slice a11 ((x10.1).length) (k11), .slice a41 ((x16).length) (k41), .slice a70 ((x23).length) (k70), .slice a77 ((x31).length) (k77), .int .i64 (x40)]⟩))]) rfl rfl rfl rfl ⟨⟨_, rfl, rfl⟩, ⟨_, rfl, rfl⟩, ⟨_, rfl, rfl⟩, ⟨_, rfl, rfl⟩, ⟨_, rfl, rfl⟩, trivial⟩ trivial ⟨_, _, _, _, _, _, rfl, rfl, rfl, h80, h79, h82, h83, h84, h77⟩
   ·refine xr rfl ?_
    refine Exec.call rfl rfl (W_rebalance_Sizes x1 x3 h13 h14 hx16) ?_
    rintro V86 _ hv86 ⟨a85, k85, rfl, h85⟩
    have h87 := SlAt.mono h13 hv86
    have h88 := SlAt.mono h14 hv86
    have h89 := SlAt.mono h15 hv86
    have h90 := SlAt.mono h11 hv86
    refine xr rfl ?_
    refine Exec.call rfl rfl (W_rebalance_Loads x1 x5 h87 h89 hx23) ?_
    rintro V92 _ hv92 ⟨a91, k91, rfl, h91⟩
    have h93 := SlAt.mono h87 hv92
    have h94 := SlAt.mono h88 hv92
    have h95 := SlAt.mono h89 hv92
    have h96 := SlAt.mono h90 hv92
    have h97 := SlAt.mono h85 hv92
    refine xr rfl ?_
    refine Exec.call rfl rfl (W_heat_Hot x5 ((8 : Int)) h95 hx31) ?_
    rintro V99 _ hv99 ⟨a98, k98, rfl, h98⟩
    have h100 := SlAt.mono h93 hv99
    have h101 := SlAt.mono h94 hv99
    have h102 := SlAt.mono h95 hv99
    have h103 := SlAt.mono h96 hv99
    have h104 := SlAt.mono h97 hv99
    have h105 := SlAt.mono h91 hv99
    refine xr rfl ?_
    refine Exec.callS (.int .i64 (x40)) rfl rfl (W_rebalance_freeId x1 h100 hx40) ?_
    refine xr rfl ?_
    exact join [0, 1, 2] (lr' := []) (L' := [(1, .v (.slice a4 ((x3).length) (k4))), (3, .v (.int .i64 (x7))), (8, .ptr 1 0), (12, .ptr 2 0), (61, .v (.agg ⟨[.int .i64 (x1.Version), .slice a2 ((x1.Parts).length) (k2), .slice a11 ((x10.1).length) (k11), .slice a85 ((x16).length) (k85), .slice a91 ((x23).length) (k91), .slice a98 ((x31).length) (k98), .int .i64 (x40)]⟩))]) rfl rfl rfl rfl ⟨⟨_, rfl, rfl⟩, ⟨_, rfl, rfl⟩, ⟨_, rfl, rfl⟩, ⟨_, rfl, rfl⟩, ⟨_, rfl, rfl⟩, trivial⟩ trivial ⟨_, _, _, _, _, _, rfl, rfl, rfl, h101, h100, h103, h104, h105, h98⟩
  rintro lr' L' VV106 M' ⟨a17, k17, a24, k24, a32, k32, rfl, rfl, rfl, h107, h108, h109, h110, h111, h112⟩
  refine xr rfl ?_
  obtain ⟨x113, hx113, hF⟩ := bnd_some hF
  refine Exec.callS (.tuple ⟨[.agg ⟨[.int .i64 (x113.1.Kind), .int .i64 (x113.1.Part), .int .i64 (x113.1.New), .int .i64 (x113.1.Node), .int .i64 (x113.1.N), .string ⟨⟨x113.1.Key⟩⟩]⟩, .bool (x113.2)]⟩) rfl rfl (W_rebalance_advice_continued ((⟨x1, x10.1, x16, x23, x31, x40⟩ : Tadvice)) h108 h109 h110 h111 h112 hx113) ?_
  refine xr rfl ?_
  rcases cond_some hF with ⟨hb, hF⟩ | ⟨hb, hF⟩
  ·refine Exec.ifT rfl hb ?_
   refine xr rfl ?_
   obtain rfl := some_inj hF
   exact Exec.ret tyOk rfl rfl rfl
  ·refine Exec.ifF rfl hb ?_
   refine xr rfl ?_
   obtain ⟨x114, hx114, hF⟩ := bnd_some hF
   refine Exec.callS (.tuple ⟨[.agg ⟨[.int .i64 (x114.1.Kind), .int .i64 (x114.1.Part), .int .i64 (x114.1.New), .int .i64 (x114.1.Node), .int .i64 (x114.1.N), .string ⟨⟨x114.1.Key⟩⟩]⟩, .bool (x114.2)]⟩) rfl rfl (W_rebalance_advice_splitSize ((⟨x1, x10.1, x16, x23, x31, x40⟩ : Tadvice)) h108 h109 h110 h111 h112 hx114) ?_
   refine xr rfl ?_
   rcases cond_some hF with ⟨hb, hF⟩ | ⟨hb, hF⟩
   ·refine Exec.ifT rfl hb ?_
    refine xr rfl ?_
    obtain rfl := some_inj hF
    exact Exec.ret tyOk rfl rfl rfl
   ·refine Exec.ifF rfl hb ?_
    refine xr rfl ?_
    obtain ⟨x115, hx115, hF⟩ := bnd_some hF
    refine Exec.callS (.tuple ⟨[.agg ⟨[.int .i64 (x115.1.Kind), .int .i64 (x115.1.Part), .int .i64 (x115.1.New), .int .i64 (x115.1.Node), .int .i64 (x115.1.N), .string ⟨⟨x115.1.Key⟩⟩]⟩, .bool (x115.2)]⟩) rfl rfl (W_rebalance_advice_splitLoad ((⟨x1, x10.1, x16, x23, x31, x40⟩ : Tadvice)) h108 h109 h110 h111 h112 hx115) ?_
    refine xr rfl ?_
    rcases cond_some hF with ⟨hb, hF⟩ | ⟨hb, hF⟩
    ·refine Exec.ifT rfl hb ?_
     refine xr rfl ?_
     obtain rfl := some_inj hF
     exact Exec.ret tyOk rfl rfl rfl
    ·refine Exec.ifF rfl hb ?_
     refine xr rfl ?_
     obtain ⟨x116, hx116, hF⟩ := bnd_some hF
     refine Exec.callS (.tuple ⟨[.agg ⟨[.int .i64 (x116.1.Kind), .int .i64 (x116.1.Part), .int .i64 (x116.1.New), .int .i64 (x116.1.Node), .int .i64 (x116.1.N), .string ⟨⟨x116.1.Key⟩⟩]⟩, .bool (x116.2)]⟩) rfl rfl (W_rebalance_advice_merged ((⟨x1, x10.1, x16, x23, x31, x40⟩ : Tadvice)) h108 h109 h110 h111 h112 hx116) ?_
     refine xr rfl ?_
     rcases cond_some hF with ⟨hb, hF⟩ | ⟨hb, hF⟩
     ·refine Exec.ifT rfl hb ?_
      refine xr rfl ?_
      obtain rfl := some_inj hF
      exact Exec.ret tyOk rfl rfl rfl
     ·refine Exec.ifF rfl hb ?_
      refine xr rfl ?_
      obtain ⟨x117, hx117, hF⟩ := bnd_some hF
      refine Exec.callS (.tuple ⟨[.agg ⟨[.int .i64 (x117.1.Kind), .int .i64 (x117.1.Part), .int .i64 (x117.1.New), .int .i64 (x117.1.Node), .int .i64 (x117.1.N), .string ⟨⟨x117.1.Key⟩⟩]⟩, .bool (x117.2)]⟩) rfl rfl (W_rebalance_advice_moved ((⟨x1, x10.1, x16, x23, x31, x40⟩ : Tadvice)) x3 x7 h108 h109 h110 h111 h112 h107 hx117) ?_
      refine xr rfl ?_
      obtain rfl := some_inj hF
      exact Exec.ret tyOk rfl rfl rfl
def F_clockworkref32_Valid_L2 (x13 : Int) (x3 : List TShard) (x6 : List Int) (x1 : TPlacement) (J28 : Option Bool) : Nat → Int → Option Bool
 | 0, _ => none
 | n34 + 1, x33 => (req (0 ≤ x13 ∧ x13 < ((x3).length : Int)) (cond (decide (x33 < ((((atI x3 x13).Pairs).length : Nat) : Int))) (req (0 ≤ x13 ∧ x13 < ((x3).length : Int)) (req (0 ≤ x33 ∧ x33 < (((atI x3 x13).Pairs).length : Int)) (req (0 ≤ x13 ∧ x13 < ((x6).length : Int)) (bnd (F_clockworkref29_Owner x1 ((atI ((atI x3 x13).Pairs) x33).Key)) fun x49 => (cond (x49 != (atI x6 x13)) (some false) (F_clockworkref32_Valid_L2 x13 x3 x6 x1 J28 n34 ((IntKind.i64.wrap (x33 + (1 : Int)))))))))) J28))
def F_clockworkref32_Valid_L1 (x3 : List TShard) (x6 : List Int) (x1 : TPlacement) (J11 : Option Bool) : Nat → Int → Option Bool
 | 0, _ => none
 | n14 + 1, x13 => (cond (decide (x13 < (((x3).length : Nat) : Int))) (req (0 ≤ x13 ∧ x13 < ((x3).length : Int)) (req (0 ≤ x13 ∧ x13 < ((x6).length : Int)) (req (((((atI x3 x13).Node != (atI x6 x13))) == false) = true → 0 ≤ x13 ∧ x13 < ((x3).length : Int)) (bnd (gcall ((((atI x3 x13).Node != (atI x6 x13))) == false) (F_clockworkref06_Valid ((cond ((((atI x3 x13).Node != (atI x6 x13))) == false) (atI x3 x13) default).Pairs))) fun x27 => (cond (((atI x3 x13).Node != (atI x6 x13)) || (!x27)) (some false) (jn ((F_clockworkref32_Valid_L1 x3 x6 x1 J11 n14 ((IntKind.i64.wrap (x13 + (1 : Int)))))) (fun J28 => (F_clockworkref32_Valid_L2 x13 x3 x6 x1 J28 (1000000 : Nat) ((0 : Int)))))))))) J11)
def F_clockworkref32_Valid (x1 : TPlacement) (x3 : List TShard) : Option Bool :=
 (bnd (F_clockworkref29_Valid x1) fun x5 => (cond (!x5) (some false) (bnd (F_clockworkref29_Nodes x1) fun x6 => (cond ((((x6).length : Nat) : Int) != (((x3).length : Nat) : Int)) (some false) (jn ((some true)) (fun J11 => (F_clockworkref32_Valid_L1 x3 x6 x1 J11 (((((x3).length : Nat) : Int)).toNat + 1) ((0 : Int)))))))))
theorem W_clockworkref32_Valid {V : View} (x1 : TPlacement) (x3 : List TShard) {a2 : Option Addr} {k2 : Nat} {a4 : Option Addr} {k4 : Nat} (h2 : SlAt cTPart V a2 k2 x1.Parts) (h4 : SlAt cTShard V a4 k4 x3) {r : Bool} (hF : F_clockworkref32_Valid x1 x3 = some r) :
  Spec Tryz.prog 36 [.agg ⟨[.int .i64 (x1.Version), .slice a2 ((x1.Parts).length) (k2)]⟩, .slice a4 ((x3).length) (k4)] V (fun _ v => v = .bool (r)) := by
 unfold F_clockworkref32_Valid at hF
 refine Spec.enter (T := tyT) Tryz.func36 rfl (by kernel_rfl) rfl rfl rfl ?_
 refine xr rfl ?_
 obtain ⟨x5, hx5, hF⟩ := bnd_some hF
 refine Exec.callS (.bool (x5)) rfl rfl (W_clockworkref29_Valid x1 h2 hx5) ?_
 refine xr rfl ?_
 rcases cond_some hF with ⟨hb, hF⟩ | ⟨hb, hF⟩
 ·refine Exec.ifT rfl hb ?_
  refine xr rfl ?_
  obtain rfl := some_inj hF
  exact Exec.ret tyOk rfl rfl rfl
 ·refine Exec.ifF rfl hb ?_
  refine xr rfl ?_
  obtain ⟨x6, hx6, hF⟩ := bnd_some hF
  refine Exec.call rfl rfl (W_clockworkref29_Nodes x1 h2 hx6) ?_
  rintro V8 _ hv8 ⟨a7, k7, rfl, h7⟩
  have h9 := SlAt.mono h2 hv8
  have h10 := SlAt.mono h4 hv8
  refine xr rfl ?_
  rcases cond_some hF with ⟨hb, hF⟩ | ⟨hb, hF⟩
  ·refine Exec.ifT rfl hb ?_
   refine xr rfl ?_
   obtain rfl := some_inj hF
   exact Exec.ret tyOk rfl rfl rfl
  ·refine Exec.ifF rfl hb ?_
   refine Exec.run tyOk 6 rfl ?_
   obtain ⟨J11, hJ11, hF⟩ := jn_some hF
   refine Exec.seam (fun L' V' M' => L' = [] ∧ M' = [] ∧ J11 = some r) rfl ?_ ?_
   ·rintro L' V12 M' ⟨rfl, rfl, hF⟩
    subst hJ11
    refine xr rfl ?_
    obtain rfl := some_inj hF
    exact Exec.ret tyOk rfl rfl rfl
   ·refine xr rfl ?_
    refine Exec.loop (fun n14 L' V' M' => ∃ (x13 : Int), L' = [(1, .v (.slice a4 ((x3).length) (k4))), (2, .ptr 0 0), (5, .v (.slice a7 ((x6).length) (k7))), (6, .v (.int .i64 (x13)))] ∧ M' = [.blk [.v (.int .i64 (x1.Version)), .v (.slice a2 ((x1.Parts).length) (k2))] 24] ∧ SlAt cTShard V' a4 k4 x3 ∧ SlAt (cInt .i64) V' a7 k7 x6 ∧ SlAt cTPart V' a2 k2 x1.Parts ∧ F_clockworkref32_Valid_L1 x3 x6 x1 J11 n14 x13 = some r) ⟨(((((x3).length : Nat) : Int)).toNat + 1), [(1, .v (.slice a4 ((x3).length) (k4))), (2, .ptr 0 0), (5, .v (.slice a7 ((x6).length) (k7))), (6, .v (.int .i64 ((0 : Int))))], ⟨rfl, rfl, rfl, rfl, trivial⟩, (0 : Int), rfl, rfl, h10, h7, h9, hF⟩ ?_
    rintro n14 L' V15 M' ⟨x13, rfl, rfl, h16, h17, h18, hF⟩
    rcases n14 with _ | n14
    ·exact absurd hF (by simp [F_clockworkref32_Valid_L1])
    rw [F_clockworkref32_Valid_L1] at hF
    refine xr rfl ?_
    rcases cond_some hF with ⟨hb, hF⟩ | ⟨hb, hF⟩
    ·refine Exec.ifT rfl hb ?_
     refine xr rfl ?_
     refine Exec.draws tyOk [(0, true), (1, true), (2, true), (3, true), (4, true), (5, true), (6, true), (7, true), (8, true), (9, true), (10, true), (11, true), (12, true), (13, true), (14, true), (15, true), (16, false), (17, false), (18, false)] rfl (by kernel_rfl) ?_
     refine xr rfl ?_
     obtain ⟨q19, hF⟩ := req_some hF
     obtain ⟨c20, hr20, hd20⟩ := SlAt.get h16 q19
     obtain ⟨a21, k21, rfl, h21⟩ := hr20
     refine Exec.fia tyOk rfl rfl rfl ⟨q19.1, q19.2, hd20.some⟩ ?_
     refine xr rfl ?_
     refine Exec.fld tyOk (x := .int .i64 ((atI x3 x13).Node)) rfl rfl rfl (RdAt.part hd20 0 1 rfl) rfl rfl ?_
     refine xr rfl ?_
     obtain ⟨q22, hF⟩ := req_some hF
     obtain ⟨c23, hr23, hd23⟩ := SlAt.get h17 q22
     obtain rfl := hr23
     refine Exec.fia tyOk rfl rfl rfl ⟨q22.1, q22.2, hd23.some⟩ ?_
     refine xr rfl ?_
     refine Exec.fld tyOk (x := .int .i64 ((atI x6 x13))) rfl rfl rfl hd23 rfl rfl ?_
     refine xr rfl ?_
     obtain ⟨q24, hF⟩ := req_some hF
     obtain ⟨c25, hr25, hd25⟩ := SlAt.gget ((((atI x3 x13).Node != (atI x6 x13))) == false) h16 q24
     obtain ⟨a26, k26, rfl, h26⟩ := hr25
     refine Exec.fia tyOk rfl rfl rfl (fun gg0 => ⟨(q24 (gd1_of gg0)).1, (q24 (gd1_of gg0)).2, (hd25 (gd1_of gg0)).some⟩) ?_
     refine xr rfl ?_
     refine Exec.fld tyOk (x := .slice a26 (((cond ((((atI x3 x13).Node != (atI x6 x13))) == false) (atI x3 x13) default).Pairs).length) (k26)) rfl rfl rfl (fun gg0 => (RdAt.part (hd25 (gd1_of gg0)) 1 1 rfl)) rfl rfl ?_
     refine xr rfl ?_
     obtain ⟨x27, hx27, hF⟩ := bnd_some hF
     refine Exec.callS (.bool (x27)) rfl rfl (fun gg0 => W_clockworkref06_Valid ((cond ((((atI x3 x13).Node != (atI x6 x13))) == false) (atI x3 x13) default).Pairs) h26 (gcall_some hx27 (gd1_of gg0))) ?_
     refine xr rfl ?_
     rcases cond_some hF with ⟨hb, hF⟩ | ⟨hb, hF⟩
     ·refine Exec.ifT rfl hb ?_
      refine xr rfl ?_
      obtain rfl := some_inj hF
      exact Exec.ret tyOk rfl rfl rfl
     ·refine Exec.ifF rfl hb ?_
      refine Exec.run tyOk 5 rfl ?_
      obtain ⟨J28, hJ28, hF⟩ := jn_some hF
      refine Exec.seam (fun L' V' M' => L' = [(1, .v (.slice a4 ((x3).length) (k4))), (2, .ptr 0 0), (5, .v (.slice a7 ((x6).length) (k7))), (6, .v (.int .i64 (x13)))] ∧ M' = [.blk [.v (.int .i64 (x1.Version)), .v (.slice a2 ((x1.Parts).length) (k2))] 24] ∧ SlAt cTShard V' a4 k4 x3 ∧ SlAt (cInt .i64) V' a7 k7 x6 ∧ SlAt cTPart V' a2 k2 x1.Parts ∧ J28 = some r) rfl ?_ ?_
      ·rintro L' V29 M' ⟨rfl, rfl, h30, h31, h32, hF⟩
       subst hJ28
       refine xr rfl ?_
       exact Exec.round [(1, .v (.slice a4 ((x3).length) (k4))), (2, .ptr 0 0), (5, .v (.slice a7 ((x6).length) (k7))), (6, .v (.int .i64 ((IntKind.i64.wrap (x13 + (1 : Int))))))] ⟨rfl, rfl, rfl, rfl, trivial⟩ ⟨n14, Nat.lt_succ_self _, (IntKind.i64.wrap (x13 + (1 : Int))), rfl, rfl, h30, h31, h32, hF⟩
      ·refine xr rfl ?_
       refine Exec.loop (fun n34 L' V' M' => ∃ (x33 : Int), L' = [(1, .v (.slice a4 ((x3).length) (k4))), (2, .ptr 0 0), (5, .v (.slice a7 ((x6).length) (k7))), (6, .v (.int .i64 (x13))), (7, .v (.int .i64 (x33)))] ∧ M' = [.blk [.v (.int .i64 (x1.Version)), .v (.slice a2 ((x1.Parts).length) (k2))] 24] ∧ SlAt cTShard V' a4 k4 x3 ∧ SlAt (cInt .i64) V' a7 k7 x6 ∧ SlAt cTPart V' a2 k2 x1.Parts ∧ F_clockworkref32_Valid_L2 x13 x3 x6 x1 J28 n34 x33 = some r) ⟨(1000000 : Nat), [(1, .v (.slice a4 ((x3).length) (k4))), (2, .ptr 0 0), (5, .v (.slice a7 ((x6).length) (k7))), (6, .v (.int .i64 (x13))), (7, .v (.int .i64 ((0 : Int))))], ⟨rfl, rfl, rfl, rfl, rfl, trivial⟩, (0 : Int), rfl, rfl, h16, h17, h18, hF⟩ ?_
       rintro n34 L' V35 M' ⟨x33, rfl, rfl, h36, h37, h38, hF⟩
       rcases n34 with _ | n34
       ·exact absurd hF (by simp [F_clockworkref32_Valid_L2])
       rw [F_clockworkref32_Valid_L2] at hF
       refine xr rfl ?_
       obtain ⟨q39, hF⟩ := req_some hF
       obtain ⟨c40, hr40, hd40⟩ := SlAt.get h36 q39
       obtain ⟨a41, k41, rfl, h41⟩ := hr40
       refine Exec.ia tyOk rfl rfl ⟨q39.1, q39.2, hd40.some⟩ ?_
       refine xr rfl ?_
       refine Exec.ld tyOk (x := .slice a41 (((atI x3 x13).Pairs).length) (k41)) rfl rfl (RdAt.part hd40 1 1 rfl) rfl rfl ?_
       refine xr rfl ?_
       rcases cond_some hF with ⟨hb, hF⟩ | ⟨hb, hF⟩
       ·refine Exec.ifT rfl hb ?_
        refine xr rfl ?_
        refine Exec.draws tyOk [(0, true), (1, true), (2, true), (3, true), (4, true), (5, true), (6, true), (7, true), (8, true), (9, true), (11, true), (12, true), (13, true), (14, true), (10, false), (15, false)] rfl (by kernel_rfl) ?_
        refine xr rfl ?_
        obtain ⟨q42, hF⟩ := req_some hF
        obtain ⟨c43, hr43, hd43⟩ := SlAt.get h36 q42
        obtain ⟨a44, k44, rfl, h44⟩ := hr43
        refine Exec.fia tyOk rfl rfl rfl ⟨q42.1, q42.2, hd43.some⟩ ?_
        refine xr rfl ?_
        refine Exec.fld tyOk (x := .slice a44 (((atI x3 x13).Pairs).length) (k44)) rfl rfl rfl (RdAt.part hd43 1 1 rfl) rfl rfl ?_
        refine xr rfl ?_
        obtain ⟨q45, hF⟩ := req_some hF
        obtain ⟨c46, hr46, hd46⟩ := SlAt.get h44 q45
        obtain rfl := hr46
        refine Exec.fia tyOk rfl rfl rfl ⟨q45.1, q45.2, hd46.some⟩ ?_
        refine xr rfl ?_
        refine Exec.fld tyOk (x := .string ⟨⟨(atI ((atI x3 x13).Pairs) x33).Key⟩⟩) rfl rfl rfl (RdAt.part hd46 0 1 rfl) rfl rfl ?_
        refine xr rfl ?_
        obtain ⟨q47, hF⟩ := req_some hF
        obtain ⟨c48, hr48, hd48⟩ := SlAt.get h37 q47
        obtain rfl := hr48
        refine Exec.fia tyOk rfl rfl rfl ⟨q47.1, q47.2, hd48.some⟩ ?_
        refine xr rfl ?_
        refine Exec.fld tyOk (x := .int .i64 ((atI x6 x13))) rfl rfl rfl hd48 rfl rfl ?_
        refine xr rfl ?_
        obtain ⟨x49, hx49, hF⟩ := bnd_some hF
        refine Exec.callS (.int .i64 (x49)) rfl rfl (W_clockworkref29_Owner x1 ((atI ((atI x3 x13).Pairs) x33).Key) h38 hx49) ?_
        refine xr rfl ?_
        rcases cond_some hF with ⟨hb, hF⟩ | ⟨hb, hF⟩
        ·refine Exec.ifT rfl hb ?_
         refine xr rfl ?_
         obtain rfl := some_inj hF
         exact Exec.ret tyOk rfl rfl rfl
        ·refine Exec.ifF rfl hb ?_
         refine xr rfl ?_
         exact Exec.round [(1, .v (.slice a4 ((x3).length) (k4))), (2, .ptr 0 0), (5, .v (.slice a7 ((x6).length) (k7))), (6, .v (.int .i64 (x13))), (7, .v (.int .i64 ((IntKind.i64.wrap (x33 + (1 : Int))))))] ⟨rfl, rfl, rfl, rfl, rfl, trivial⟩ ⟨n34, Nat.lt_succ_self _, (IntKind.i64.wrap (x33 + (1 : Int))), rfl, rfl, h36, h37, h38, hF⟩
       ·refine Exec.ifF rfl hb ?_
        refine xr rfl ?_
        exact Exec.round [(1, .v (.slice a4 ((x3).length) (k4))), (2, .ptr 0 0), (5, .v (.slice a7 ((x6).length) (k7))), (6, .v (.int .i64 (x13)))] ⟨rfl, rfl, rfl, rfl, trivial⟩ ⟨rfl, rfl, h36, h37, h38, hF⟩
    ·refine Exec.ifF rfl hb ?_
     refine xr rfl ?_
     refine Exec.cut 0 [] (M' := []) rfl trivial rfl rfl rfl ?_
     exact Exec.round [] trivial ⟨rfl, rfl, hF⟩
def F_clockworkref32_Load_L2 (x3 : List TPair) (x22 : Int) (x7 : List Int) (x1 : TPlacement) (J34 : (List TPair) → Option (List TShard)) : Nat → (List TPair) → Int → Option (List TShard)
 | 0, _, _ => none
 | n50 + 1, x48, x49 => (cond (decide (x49 < (((x3).length : Nat) : Int))) (req (0 ≤ x49 ∧ x49 < ((x3).length : Int)) (req (0 ≤ x22 ∧ x22 < ((x7).length : Int)) (bnd (F_clockworkref29_Owner x1 ((atI x3 x49).Key)) fun x59 => (jn (fun (x62 : List TPair) => (F_clockworkref32_Load_L2 x3 x22 x7 x1 J34 n50 x62 ((IntKind.i64.wrap (x49 + (1 : Int)))))) (fun J63 => (cond (x59 == (atI x7 x22)) (req (0 ≤ x49 ∧ x49 < ((x3).length : Int)) (req (((x48 ++ [(atI x3 x49)])).length * 48 ≤ 140737488355328) (J63 ((x48 ++ [(atI x3 x49)]))))) (J63 x48))))))) (J34 x48))
def F_clockworkref32_Load_L1 (x7 : List Int) (x3 : List TPair) (x1 : TPlacement) (J15 : (List TShard) → Option (List TShard)) : Nat → (List TShard) → Int → Option (List TShard)
 | 0, _, _ => none
 | n23 + 1, x21, x22 => (cond (decide (x22 < (((x7).length : Nat) : Int))) (req (0 ≤ x22 ∧ x22 < ((x7).length : Int)) (jn (fun (x33 : List TPair) => (req (((x21 ++ [(⟨(atI x7 x22), x33⟩ : TShard)])).length * 32 ≤ 140737488355328) (F_clockworkref32_Load_L1 x7 x3 x1 J15 n23 ((x21 ++ [(⟨(atI x7 x22), x33⟩ : TShard)])) ((IntKind.i64.wrap (x22 + (1 : Int))))))) (fun J34 => (F_clockworkref32_Load_L2 x3 x22 x7 x1 J34 (((((x3).length : Nat) : Int)).toNat + 1) (([] : List TPair)) ((0 : Int)))))) (J15 x21))
def F_clockworkref32_Load (x1 : TPlacement) (x3 : List TPair) : Option (List TShard) :=
 (bnd (F_clockworkref29_Valid x1) fun x5 => (bnd (gcall (((!x5)) == false) (F_clockworkref06_Valid x3)) fun x6 => (cond ((!x5) || (!x6)) (some ([] : List TShard)) (bnd (F_clockworkref29_Nodes x1) fun x7 => (jn (fun (x14 : List TShard) => (some x14)) (fun J15 => (F_clockworkref32_Load_L1 x7 x3 x1 J15 (((((x7).length : Nat) : Int)).toNat + 1) (([] : List TShard)) ((0 : Int)))))))))
def F_rebalance_board_loaded (x1 : Tboard) (x4 : TPlacement) (x6 : Int) : Option (TPlacement × List TShard × Int) :=
 (cond (x6 != (0 : Int)) (some ((⟨0, ([] : List TPart)⟩ : TPlacement), ([] : List TShard), x6)) (bnd (F_dist_Gather x1.l) fun x7 => (cond (x7.2 != (0 : Int)) (some ((⟨0, ([] : List TPart)⟩ : TPlacement), ([] : List TShard), x7.2)) (bnd (F_dist_Load x4 x7.1) fun x13 => (some (x4, x13, (0 : Int)))))))
theorem W_rebalance_board_loaded {V : View} (x1 : Tboard) (x4 : TPlacement) (x6 : Int) {a2 : Option Addr} {k2 : Nat} {a3 : Option Addr} {k3 : Nat} {a5 : Option Addr} {k5 : Nat} (h2 : SlAt cTPart V a2 k2 x1.p.Parts) (h3 : SlAt cTShard V a3 k3 x1.l) (h5 : SlAt cTPart V a5 k5 x4.Parts) {r : TPlacement × List TShard × Int} (hF : F_rebalance_board_loaded x1 x4 x6 = some r) :
  Spec Tryz.prog 58 [.agg ⟨[.int .i64 (x1.p.Version), .slice a2 ((x1.p.Parts).length) (k2), .slice a3 ((x1.l).length) (k3), .int .i64 (x1.m.Kind), .int .i64 (x1.m.Part), .int .i64 (x1.m.New), .int .i64 (x1.m.Node), .int .i64 (x1.m.N), .string ⟨⟨x1.m.Key⟩⟩]⟩, .agg ⟨[.int .i64 (x4.Version), .slice a5 ((x4.Parts).length) (k5)]⟩, .int .i64 (x6)] V (fun V' v => ∃ (a20 : Option Addr) (k20 : Nat) (a21 : Option Addr) (k21 : Nat), v = .tuple ⟨[.agg ⟨[.int .i64 (r.1.Version), .slice a20 ((r.1.Parts).length) (k20)]⟩, .slice a21 ((r.2.1).length) (k21), .int .i64 (r.2.2)]⟩ ∧ SlAt cTPart V' a20 k20 r.1.Parts ∧ SlAt cTShard V' a21 k21 r.2.1) := by
 unfold F_rebalance_board_loaded at hF
 refine Spec.enter (T := tyT) Tryz.func58 rfl (by kernel_rfl) rfl rfl rfl ?_
 refine xr rfl ?_
 rcases cond_some hF with ⟨hb, hF⟩ | ⟨hb, hF⟩
 ·refine Exec.ifT rfl hb ?_
  refine xr rfl ?_
  obtain rfl := some_inj hF
  exact Exec.ret tyOk rfl rfl ⟨_, _, _, _, rfl, SlAt.nil, SlAt.nil⟩
 ·refine Exec.ifF rfl hb ?_
  refine xr rfl ?_
  obtain ⟨x7, hx7, hF⟩ := bnd_some hF
  refine Exec.call rfl rfl (W_dist_Gather x1.l h3 hx7) ?_
  rintro V9 _ hv9 ⟨a8, k8, rfl, h8⟩
  have h10 := SlAt.mono h2 hv9
  have h11 := SlAt.mono h3 hv9
  have h12 := SlAt.mono h5 hv9
  refine xr rfl ?_
  rcases cond_some hF with ⟨hb, hF⟩ | ⟨hb, hF⟩
  ·refine Exec.ifT rfl hb ?_
   refine xr rfl ?_
   obtain rfl := some_inj hF
   exact Exec.ret tyOk rfl rfl ⟨_, _, _, _, rfl, SlAt.nil, SlAt.nil⟩
  ·refine Exec.ifF rfl hb ?_
   refine xr rfl ?_
   refine Exec.draws tyOk [(0, true), (1, true), (2, true), (3, false), (4, false), (5, false), (6, false)] rfl (by kernel_rfl) ?_
   refine xr rfl ?_
   obtain ⟨x13, hx13, hF⟩ := bnd_some hF
   refine Exec.call rfl rfl (W_dist_Load x4 x7.1 h12 h8 hx13) ?_
   rintro V15 _ hv15 ⟨a14, k14, rfl, h14⟩
   have h16 := SlAt.mono h10 hv15
   have h17 := SlAt.mono h11 hv15
   have h18 := SlAt.mono h12 hv15
   have h19 := SlAt.mono h8 hv15
   refine xr rfl ?_
   obtain rfl := some_inj hF
   exact Exec.ret tyOk rfl rfl ⟨_, _, _, _, rfl, h18, h14⟩
end Go.Proofs.YtglnnhmmipopiaaGreat
