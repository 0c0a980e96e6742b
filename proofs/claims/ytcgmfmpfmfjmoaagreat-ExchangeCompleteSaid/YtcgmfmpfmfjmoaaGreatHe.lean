/-
  Functions of the program as their counterparts say them (printed by a program).
  Conditions: none.
-/
import Derived.Test.YtcgmfmpfmfjmoaaGreatHd
set_option linter.all false
namespace Go.Proofs.YtcgmfmpfmfjmoaaGreat

def F_clockworkref31_Local_L1 (x3 : TShard) (x5 : TFootprint) (J12 : (List TPair) → Option (List TPair)) : Nat → (List TPair) → Int → Option (List TPair)
  | 0, _, _ => none
  | n26 + 1, x24, x25 => (cond (decide (x25 < (((x3.Pairs).length : Nat) : Int))) (req (((x5.All) == false) = true → 0 ≤ x25 ∧ x25 < ((x3.Pairs).length : Int)) (bnd (gcall ((x5.All) == false) (F_clockworkref04_Has x5.Reads ((cond ((x5.All) == false) (atI x3.Pairs x25) default).Key))) fun x34 => (jn (fun (x36 : List TPair) => (F_clockworkref31_Local_L1 x3 x5 J12 n26 x36 ((IntKind.i64.wrap (x25 + (1 : Int)))))) (fun J37 => (cond (x5.All || x34) (req (0 ≤ x25 ∧ x25 < ((x3.Pairs).length : Int)) (req (((x24 ++ [(atI x3.Pairs x25)])).length * 48 ≤ 140737488355328) (J37 ((x24 ++ [(atI x3.Pairs x25)]))))) (J37 x24)))))) (J12 x24))

def F_clockworkref31_Local (x1 : TPlacement) (x3 : TShard) (x5 : TFootprint) : Option (List TPair) :=
  (bnd (F_clockworkref31_valid x1 x3 x5) fun x8 => (cond (!x8) (some ([] : List TPair)) (jn (fun (x11 : List TPair) => (some x11)) (fun J12 => (F_clockworkref31_Local_L1 x3 x5 J12 (((((x3.Pairs).length : Nat) : Int)).toNat + 1) (([] : List TPair)) ((0 : Int)))))))

set_option maxRecDepth 100000 in
theorem W_clockworkref31_Local {V : View} (x1 : TPlacement) (x3 : TShard) (x5 : TFootprint) {a2 : Option Addr} {k2 : Nat} {a4 : Option Addr} {k4 : Nat} {a6 : Option Addr} {k6 : Nat} {a7 : Option Addr} {k7 : Nat} (h2 : SlAt cTPart V a2 k2 x1.Parts) (h4 : SlAt cTPair V a4 k4 x3.Pairs) (h6 : SlAt cStr V a6 k6 x5.Reads) (h7 : SlAt cStr V a7 k7 x5.Writes) {r : List TPair} (hF : F_clockworkref31_Local x1 x3 x5 = some r) :
    Spec Tryz.prog 25 [.agg ⟨[.int .i64 (x1.Version), .slice a2 ((x1.Parts).length) (k2)]⟩, .agg ⟨[.int .i64 (x3.Node), .slice a4 ((x3.Pairs).length) (k4)]⟩, .agg ⟨[.bool (x5.All), .slice a6 ((x5.Reads).length) (k6), .slice a7 ((x5.Writes).length) (k7)]⟩] V (fun V' v => ∃ (a47 : Option Addr) (k47 : Nat), v = .slice a47 ((r).length) (k47) ∧ SlAt cTPair V' a47 k47 r) := by
  unfold F_clockworkref31_Local at hF
  refine Spec.enter (T := tyT) Tryz.func25 rfl (by kernel_rfl) rfl rfl rfl ?_
  refine Exec.run tyOk 400 rfl ?_
  obtain ⟨x8, hx8, hF⟩ := bnd_some hF
  refine Exec.callS (.bool (x8)) rfl rfl (W_clockworkref31_valid x1 x3 x5 h2 h4 h6 h7 hx8) ?_
  refine Exec.run tyOk 400 rfl ?_
  rcases cond_some hF with ⟨hb, hF⟩ | ⟨hb, hF⟩
  · skip
    refine Exec.ifT rfl hb ?_
    refine Exec.run tyOk 400 rfl ?_
    obtain rfl := some_inj hF
    exact Exec.ret tyOk rfl rfl ⟨_, _, rfl, SlAt.nil⟩
  · skip
    refine Exec.ifF rfl hb ?_
    refine Exec.run tyOk 10 rfl ?_
    refine Exec.row0 70 4 rfl ?_
    have h9 : RowRep cTPair V ([] : List TPair) [] := RowRep.nil
    obtain ⟨J12, hJ12, hF⟩ := jn_some hF
    refine Exec.seam (fun L' V' M' => ∃ (x11 : List TPair) (a10 : Option Addr) (k10 : Nat) (cs10 : List Value), L' = [(7, .v (.slice a10 ((x11).length) (k10)))] ∧ M' = [.blk [.v (.int .i64 (x1.Version)), .v (.slice a2 ((x1.Parts).length) (k2))] 24, .blk [.v (.int .i64 (x3.Node)), .v (.slice a4 ((x3.Pairs).length) (k4))] 40, .blk [.v (.bool (x5.All)), .v (.slice a6 ((x5.Reads).length) (k6)), .v (.slice a7 ((x5.Writes).length) (k7))] 27, .row (.slice a10 ((x11).length) (k10)) cs10 70 4] ∧ RowRep cTPair V' x11 cs10 ∧ SlAt cTPart V' a2 k2 x1.Parts ∧ SlAt cTPair V' a4 k4 x3.Pairs ∧ SlAt cStr V' a6 k6 x5.Reads ∧ SlAt cStr V' a7 k7 x5.Writes ∧ J12 x11 = some r) rfl ?_ ?_
    · rintro L' V13 M' ⟨x11, a10, k10, cs10, rfl, rfl, h10, h14, h15, h16, h17, hF⟩
      subst hJ12
      refine Exec.run tyOk 400 rfl ?_
      refine Exec.frz 3 rfl rfl rfl (fun V18 hv18 hd18 hn18 => ?_)
      have hz18 := RowRep.slat h10 hv18 hd18 hn18
      have h19 := SlAt.mono h14 hv18
      have h20 := SlAt.mono h15 hv18
      have h21 := SlAt.mono h16 hv18
      have h22 := SlAt.mono h17 hv18
      obtain rfl := some_inj hF
      exact Exec.ret tyOk rfl rfl ⟨_, _, rfl, hz18⟩
    · skip
      refine Exec.run tyOk 400 rfl ?_
      refine Exec.loop (fun n26 L' V' M' => ∃ (x24 : List TPair) (a23 : Option Addr) (k23 : Nat) (cs23 : List Value) (x25 : Int), L' = [(4, .ptr 1 0), (5, .ptr 2 0), (7, .v (.slice a23 ((x24).length) (k23))), (8, .v (.int .i64 (x25)))] ∧ M' = [.blk [.v (.int .i64 (x1.Version)), .v (.slice a2 ((x1.Parts).length) (k2))] 24, .blk [.v (.int .i64 (x3.Node)), .v (.slice a4 ((x3.Pairs).length) (k4))] 40, .blk [.v (.bool (x5.All)), .v (.slice a6 ((x5.Reads).length) (k6)), .v (.slice a7 ((x5.Writes).length) (k7))] 27, .row (.slice a23 ((x24).length) (k23)) cs23 70 4] ∧ RowRep cTPair V' x24 cs23 ∧ SlAt cTPart V' a2 k2 x1.Parts ∧ SlAt cTPair V' a4 k4 x3.Pairs ∧ SlAt cStr V' a6 k6 x5.Reads ∧ SlAt cStr V' a7 k7 x5.Writes ∧ F_clockworkref31_Local_L1 x3 x5 J12 n26 x24 x25 = some r) ⟨(((((x3.Pairs).length : Nat) : Int)).toNat + 1), [(4, .ptr 1 0), (5, .ptr 2 0), (7, .v (.slice none ((([] : List TPair)).length) (0))), (8, .v (.int .i64 ((0 : Int))))], ⟨rfl, rfl, rfl, rfl, trivial⟩, ([] : List TPair), none, 0, [], (0 : Int), rfl, rfl, h9, h2, h4, h6, h7, hF⟩ ?_
      rintro n26 L' V27 M' ⟨x24, a23, k23, cs23, x25, rfl, rfl, h23, h28, h29, h30, h31, hF⟩
      rcases n26 with _ | n26
      · exact absurd hF (by simp [F_clockworkref31_Local_L1])
      rw [F_clockworkref31_Local_L1] at hF
      refine Exec.run tyOk 400 rfl ?_
      rcases cond_some hF with ⟨hb, hF⟩ | ⟨hb, hF⟩
      · skip
        refine Exec.ifT rfl hb ?_
        refine Exec.run tyOk 400 rfl ?_
        refine Exec.draws tyOk [(0, true), (1, true), (2, true), (3, true), (4, true), (5, true), (6, true), (7, true), (8, true), (9, true), (10, true), (11, false), (12, false)] rfl (by kernel_rfl) ?_
        refine Exec.run tyOk 400 rfl ?_
        obtain ⟨q32, hF⟩ := req_some hF
        obtain ⟨c33, hr33, hd33⟩ := SlAt.gget ((x5.All) == false) h29 q32
        obtain rfl := hr33
        refine Exec.fia tyOk rfl rfl rfl (fun gg0 => ⟨(q32 (gd1_of gg0)).1, (q32 (gd1_of gg0)).2, (hd33 (gd1_of gg0)).some⟩) ?_
        refine Exec.run tyOk 400 rfl ?_
        refine Exec.fld tyOk (x := .string ⟨⟨(cond ((x5.All) == false) (atI x3.Pairs x25) default).Key⟩⟩) rfl rfl rfl (fun gg0 => (RdAt.part (hd33 (gd1_of gg0)) 0 1 rfl)) rfl rfl ?_
        refine Exec.run tyOk 400 rfl ?_
        obtain ⟨x34, hx34, hF⟩ := bnd_some hF
        refine Exec.callS (.bool (x34)) rfl rfl (fun gg0 => W_clockworkref04_Has x5.Reads ((cond ((x5.All) == false) (atI x3.Pairs x25) default).Key) h30 (gcall_some hx34 (gd1_of gg0))) ?_
        refine Exec.run tyOk 400 rfl ?_
        obtain ⟨J37, hJ37, hF⟩ := jn_some hF
        refine Exec.seam (fun L' V' M' => ∃ (x36 : List TPair) (a35 : Option Addr) (k35 : Nat) (cs35 : List Value), L' = [(4, .ptr 1 0), (5, .ptr 2 0), (7, .v (.slice a35 ((x36).length) (k35))), (8, .v (.int .i64 (x25)))] ∧ M' = [.blk [.v (.int .i64 (x1.Version)), .v (.slice a2 ((x1.Parts).length) (k2))] 24, .blk [.v (.int .i64 (x3.Node)), .v (.slice a4 ((x3.Pairs).length) (k4))] 40, .blk [.v (.bool (x5.All)), .v (.slice a6 ((x5.Reads).length) (k6)), .v (.slice a7 ((x5.Writes).length) (k7))] 27, .row (.slice a35 ((x36).length) (k35)) cs35 70 4] ∧ RowRep cTPair V' x36 cs35 ∧ SlAt cTPart V' a2 k2 x1.Parts ∧ SlAt cTPair V' a4 k4 x3.Pairs ∧ SlAt cStr V' a6 k6 x5.Reads ∧ SlAt cStr V' a7 k7 x5.Writes ∧ J37 x36 = some r) rfl ?_ ?_
        · rintro L' V38 M' ⟨x36, a35, k35, cs35, rfl, rfl, h35, h39, h40, h41, h42, hF⟩
          subst hJ37
          refine Exec.run tyOk 400 rfl ?_
          exact Exec.round [(4, .ptr 1 0), (5, .ptr 2 0), (7, .v (.slice a35 ((x36).length) (k35))), (8, .v (.int .i64 ((IntKind.i64.wrap (x25 + (1 : Int))))))] ⟨rfl, rfl, rfl, rfl, trivial⟩ ⟨n26, Nat.lt_succ_self _, x36, a35, k35, cs35, (IntKind.i64.wrap (x25 + (1 : Int))), rfl, rfl, h35, h39, h40, h41, h42, hF⟩
        · skip
          refine Exec.run tyOk 400 rfl ?_
          rcases cond_some hF with ⟨hb, hF⟩ | ⟨hb, hF⟩
          · skip
            refine Exec.ifT rfl hb ?_
            refine Exec.run tyOk 400 rfl ?_
            obtain ⟨q43, hF⟩ := req_some hF
            obtain ⟨c44, hr44, hd44⟩ := SlAt.get h29 q43
            obtain rfl := hr44
            refine Exec.ia tyOk rfl rfl ⟨q43.1, q43.2, hd44.some⟩ ?_
            refine Exec.run tyOk 400 rfl ?_
            refine Exec.ld tyOk (x := .agg ⟨[.string ⟨⟨(atI x3.Pairs x25).Key⟩⟩, .int .i64 ((atI x3.Pairs x25).Val.Kind), .int .i64 ((atI x3.Pairs x25).Val.N), .string ⟨⟨(atI x3.Pairs x25).Val.S⟩⟩]⟩) rfl rfl hd44 rfl rfl ?_
            refine Exec.run tyOk 400 rfl ?_
            refine Exec.bsl tyOk rfl rfl ?_
            refine Exec.run tyOk 400 rfl ?_
            obtain ⟨q46, hF⟩ := req_some hF
            refine Exec.app tyOk 3 4 (nm := ((x24 ++ [(atI x3.Pairs x25)])).length) rfl rfl rfl rfl rfl rfl rfl rfl rfl (by simp) (fun _ _ => rfl) rfl q46 (fun a45 k45 => ?_)
            have h45 : RowRep cTPair V27 (x24 ++ [(atI x3.Pairs x25)]) (cs23 ++ [.string ⟨⟨(atI x3.Pairs x25).Key⟩⟩, .int .i64 ((atI x3.Pairs x25).Val.Kind), .int .i64 ((atI x3.Pairs x25).Val.N), .string ⟨⟨(atI x3.Pairs x25).Val.S⟩⟩]) := RowRep.app h23 ⟨_, _, rfl, rfl, rfl⟩
            refine Exec.run tyOk 400 rfl ?_
            refine Exec.cut 4 [(4, .ptr 1 0), (5, .ptr 2 0), (7, .v (.slice a45 (((x24 ++ [(atI x3.Pairs x25)])).length) (k45))), (8, .v (.int .i64 (x25)))] (M' := [.blk [.v (.int .i64 (x1.Version)), .v (.slice a2 ((x1.Parts).length) (k2))] 24, .blk [.v (.int .i64 (x3.Node)), .v (.slice a4 ((x3.Pairs).length) (k4))] 40, .blk [.v (.bool (x5.All)), .v (.slice a6 ((x5.Reads).length) (k6)), .v (.slice a7 ((x5.Writes).length) (k7))] 27, .row (.slice a45 (((x24 ++ [(atI x3.Pairs x25)])).length) (k45)) ((cs23 ++ [.string ⟨⟨(atI x3.Pairs x25).Key⟩⟩, .int .i64 ((atI x3.Pairs x25).Val.Kind), .int .i64 ((atI x3.Pairs x25).Val.N), .string ⟨⟨(atI x3.Pairs x25).Val.S⟩⟩])) 70 4]) rfl ⟨rfl, rfl, rfl, rfl, trivial⟩ rfl rfl rfl ?_
            exact Exec.round [(4, .ptr 1 0), (5, .ptr 2 0), (7, .v (.slice a45 (((x24 ++ [(atI x3.Pairs x25)])).length) (k45))), (8, .v (.int .i64 (x25)))] ⟨rfl, rfl, rfl, rfl, trivial⟩ ⟨(x24 ++ [(atI x3.Pairs x25)]), a45, k45, (cs23 ++ [.string ⟨⟨(atI x3.Pairs x25).Key⟩⟩, .int .i64 ((atI x3.Pairs x25).Val.Kind), .int .i64 ((atI x3.Pairs x25).Val.N), .string ⟨⟨(atI x3.Pairs x25).Val.S⟩⟩]), rfl, rfl, h45, h28, h29, h30, h31, hF⟩
          · skip
            refine Exec.ifF rfl hb ?_
            refine Exec.run tyOk 400 rfl ?_
            exact Exec.round [(4, .ptr 1 0), (5, .ptr 2 0), (7, .v (.slice a23 ((x24).length) (k23))), (8, .v (.int .i64 (x25)))] ⟨rfl, rfl, rfl, rfl, trivial⟩ ⟨x24, a23, k23, cs23, rfl, rfl, h23, h28, h29, h30, h31, hF⟩
      · skip
        refine Exec.ifF rfl hb ?_
        refine Exec.run tyOk 400 rfl ?_
        exact Exec.round [(7, .v (.slice a23 ((x24).length) (k23)))] ⟨rfl, trivial⟩ ⟨x24, a23, k23, cs23, rfl, rfl, h23, h28, h29, h30, h31, hF⟩

def F_exchange_valid (x1 : TPlacement) (x3 : TShard) (x5 : TFootprint) : Option Bool :=
  (bnd (F_placement_Valid x1) fun x8 => (bnd (gcall ((x8) == true) (F_footprint_Valid x5)) fun x9 => (bnd (gcall (((x8 && x9)) == true) (F_state_Valid x3.Pairs)) fun x10 => (some ((x8 && x9) && x10)))))

set_option maxRecDepth 100000 in
theorem W_exchange_valid {V : View} (x1 : TPlacement) (x3 : TShard) (x5 : TFootprint) {a2 : Option Addr} {k2 : Nat} {a4 : Option Addr} {k4 : Nat} {a6 : Option Addr} {k6 : Nat} {a7 : Option Addr} {k7 : Nat} (h2 : SlAt cTPart V a2 k2 x1.Parts) (h4 : SlAt cTPair V a4 k4 x3.Pairs) (h6 : SlAt cStr V a6 k6 x5.Reads) (h7 : SlAt cStr V a7 k7 x5.Writes) {r : Bool} (hF : F_exchange_valid x1 x3 x5 = some r) :
    Spec Tryz.prog 48 [.agg ⟨[.int .i64 (x1.Version), .slice a2 ((x1.Parts).length) (k2)]⟩, .agg ⟨[.int .i64 (x3.Node), .slice a4 ((x3.Pairs).length) (k4)]⟩, .agg ⟨[.bool (x5.All), .slice a6 ((x5.Reads).length) (k6), .slice a7 ((x5.Writes).length) (k7)]⟩] V (fun _ v => v = .bool (r)) := by
  unfold F_exchange_valid at hF
  refine Spec.enter (T := tyT) Tryz.func48 rfl (by kernel_rfl) rfl rfl rfl ?_
  refine Exec.run tyOk 400 rfl ?_
  obtain ⟨x8, hx8, hF⟩ := bnd_some hF
  refine Exec.callS (.bool (x8)) rfl rfl (W_placement_Valid x1 h2 hx8) ?_
  refine Exec.run tyOk 400 rfl ?_
  obtain ⟨x9, hx9, hF⟩ := bnd_some hF
  refine Exec.callS (.bool (x9)) rfl rfl (fun gg0 => W_footprint_Valid x5 h6 h7 (gcall_some hx9 (gd1_of gg0))) ?_
  refine Exec.run tyOk 400 rfl ?_
  obtain ⟨x10, hx10, hF⟩ := bnd_some hF
  refine Exec.callS (.bool (x10)) rfl rfl (fun gg0 => W_state_Valid x3.Pairs h4 (gcall_some hx10 (gd1_of gg0))) ?_
  refine Exec.run tyOk 400 rfl ?_
  obtain rfl := some_inj hF
  exact Exec.ret tyOk rfl rfl rfl

section
open Go.RowKit Go.Proofs
-- uses W_route_Nodes


def F_route_Active (x1 : TPlacement) (x3 : TFootprint) : Option (List Int) :=
  bnd (F_route_valid x1 x3) fun x6 => cond (!x6) (some []) (cond x3.All (F_placement_Nodes x1)
    (req (x3.Writes.length ≤ 17592186044416) (bnd (ownersF x1 [x3.Writes]) fun x8 => some (compactL (sortL x8)))))

set_option maxRecDepth 100000 in
theorem W_route_Active {V : View} (x1 : TPlacement) (x3 : TFootprint) {a2 : Option Addr} {k2 : Nat} {a4 : Option Addr} {k4 : Nat} {a5 : Option Addr} {k5 : Nat} (h2 : SlAt cTPart V a2 k2 x1.Parts) (h4 : SlAt cStr V a4 k4 x3.Reads) (h5 : SlAt cStr V a5 k5 x3.Writes) {r : List Int} (hF : F_route_Active x1 x3 = some r) :
    Spec Tryz.prog 55 [.agg ⟨[.int .i64 (x1.Version), .slice a2 ((x1.Parts).length) (k2)]⟩, .agg ⟨[.bool (x3.All), .slice a4 ((x3.Reads).length) (k4), .slice a5 ((x3.Writes).length) (k5)]⟩] V (fun V' v => ∃ (a29 : Option Addr) (k29 : Nat), v = .slice a29 ((r).length) (k29) ∧ SlAt (cInt .i64) V' a29 k29 r) := by
  unfold F_route_Active at hF
  refine Spec.enter (T := tyT) Tryz.func55 rfl (by kernel_rfl) rfl rfl rfl ?_
  refine Exec.run tyOk 400 rfl ?_
  obtain ⟨x6, hx6, hF⟩ := bnd_some hF
  refine Exec.callS (.bool (x6)) rfl rfl (W_route_valid x1 x3 h2 h4 h5 hx6) ?_
  refine Exec.run tyOk 400 rfl ?_
  rcases cond_some hF with ⟨hb, hF⟩ | ⟨hb, hF⟩
  · skip
    refine Exec.ifT rfl hb ?_
    refine Exec.run tyOk 400 rfl ?_
    obtain rfl := some_inj hF
    exact Exec.ret tyOk rfl rfl ⟨_, _, rfl, SlAt.nil⟩
  · skip
    refine Exec.ifF rfl hb ?_
    refine Exec.run tyOk 400 rfl ?_
    rcases cond_some hF with ⟨hb, hF⟩ | ⟨hb, hF⟩
    · skip
      refine Exec.ifT rfl hb ?_
      refine Exec.run tyOk 400 rfl ?_
      refine Exec.call rfl rfl (W_placement_Nodes x1 h2 hF) ?_
      rintro V9 _ hv9 ⟨a8, k8, rfl, h8⟩
      refine Exec.run tyOk 400 rfl ?_
      exact Exec.ret tyOk rfl rfl ⟨_, _, rfl, h8⟩
    · skip
      refine Exec.ifF rfl hb ?_
      refine Exec.run tyOk 400 rfl ?_
      obtain ⟨q7, hF⟩ := req_some hF
      obtain ⟨x8, hx8, hF⟩ := bnd_some hF
      refine Exec.bsV tyOk rfl rfl rfl rfl rfl (fun V9 a9 hv9 hd9 => ?_)
      have h9 : SlAt (cSl cStr) V9 (some a9) 1 ([x3.Writes] : List (List Str)) := RowRep.slat (c := (cSl cStr)) (V := V9) (cs := [.slice a5 ((x3.Writes).length) (k5)]) ⟨_, _, rfl, ⟨_, _, rfl, (SlAt.mono h5 hv9)⟩, rfl⟩ (VLe.refl _) (fun _ => hd9) (by simp)
      have h10 := SlAt.mono h2 hv9
      refine Exec.run tyOk 400 rfl ?_
      refine Exec.call rfl rfl (X_owners x1 [x3.Writes] h10 h9 (by simp) (by simp; omega) hx8) ?_
      rintro V11 v11 hv11 h11
      refine Exec.run tyOk 400 rfl ?_
      refine Exec.call rfl rfl (X_different h11 (by have := ownerAll_len hx8; simp at this; omega)) ?_
      rintro V12 _ hv12 ⟨a12, k12, rfl, h12⟩
      refine Exec.run tyOk 400 rfl ?_
      obtain rfl := some_inj hF
      exact Exec.ret tyOk rfl rfl ⟨_, _, rfl, h12⟩

end

def F_clockworkref30_Nodes (x1 : TPlacement) (x3 : TFootprint) : Option (List Int) :=
  (bnd (F_clockworkref30_valid x1 x3) fun x6 => (cond (!x6) (some ([] : List Int)) (cond x3.All (bnd (F_clockworkref29_Nodes x1) fun x7 => (some x7)) (req (((([] : List Str) ++ x3.Reads)).length * 16 ≤ 140737488355328) (req ((((([] : List Str) ++ x3.Reads) ++ x3.Writes)).length * 16 ≤ 140737488355328) (bnd (F_clockworkref30_owners x1 (((([] : List Str) ++ x3.Reads) ++ x3.Writes))) fun x22 => (some x22)))))))

set_option maxRecDepth 100000 in
theorem W_clockworkref30_Nodes {V : View} (x1 : TPlacement) (x3 : TFootprint) {a2 : Option Addr} {k2 : Nat} {a4 : Option Addr} {k4 : Nat} {a5 : Option Addr} {k5 : Nat} (h2 : SlAt cTPart V a2 k2 x1.Parts) (h4 : SlAt cStr V a4 k4 x3.Reads) (h5 : SlAt cStr V a5 k5 x3.Writes) {r : List Int} (hF : F_clockworkref30_Nodes x1 x3 = some r) :
    Spec Tryz.prog 68 [.agg ⟨[.int .i64 (x1.Version), .slice a2 ((x1.Parts).length) (k2)]⟩, .agg ⟨[.bool (x3.All), .slice a4 ((x3.Reads).length) (k4), .slice a5 ((x3.Writes).length) (k5)]⟩] V (fun V' v => ∃ (a29 : Option Addr) (k29 : Nat), v = .slice a29 ((r).length) (k29) ∧ SlAt (cInt .i64) V' a29 k29 r) := by
  unfold F_clockworkref30_Nodes at hF
  refine Spec.enter (T := tyT) Tryz.func68 rfl (by kernel_rfl) rfl rfl rfl ?_
  refine Exec.run tyOk 400 rfl ?_
  obtain ⟨x6, hx6, hF⟩ := bnd_some hF
  refine Exec.callS (.bool (x6)) rfl rfl (W_clockworkref30_valid x1 x3 h2 h4 h5 hx6) ?_
  refine Exec.run tyOk 400 rfl ?_
  rcases cond_some hF with ⟨hb, hF⟩ | ⟨hb, hF⟩
  · skip
    refine Exec.ifT rfl hb ?_
    refine Exec.run tyOk 400 rfl ?_
    obtain rfl := some_inj hF
    exact Exec.ret tyOk rfl rfl ⟨_, _, rfl, SlAt.nil⟩
  · skip
    refine Exec.ifF rfl hb ?_
    refine Exec.run tyOk 400 rfl ?_
    rcases cond_some hF with ⟨hb, hF⟩ | ⟨hb, hF⟩
    · skip
      refine Exec.ifT rfl hb ?_
      refine Exec.run tyOk 400 rfl ?_
      obtain ⟨x7, hx7, hF⟩ := bnd_some hF
      refine Exec.call rfl rfl (W_clockworkref29_Nodes x1 h2 hx7) ?_
      rintro V9 _ hv9 ⟨a8, k8, rfl, h8⟩
      have h10 := SlAt.mono h2 hv9
      have h11 := SlAt.mono h4 hv9
      have h12 := SlAt.mono h5 hv9
      refine Exec.run tyOk 400 rfl ?_
      obtain rfl := some_inj hF
      exact Exec.ret tyOk rfl rfl ⟨_, _, rfl, h8⟩
    · skip
      refine Exec.ifF rfl hb ?_
      refine Exec.run tyOk 400 rfl ?_
      refine Exec.row0 9 1 rfl ?_
      have h13 : RowRep cStr V [] [] := RowRep.nil
      obtain ⟨q15, hF⟩ := req_some hF
      refine Exec.appS tyOk (cd := cStr) 2 (nm := ((([] : List Str) ++ x3.Reads)).length) rfl rfl rfl rfl rfl rfl h4 (by first | rfl | simp) (by first | rfl | exact List.length_append.symm | simp) (fun _ _ _ => rfl) rfl q15 (fun cs14 hs14 a14 k14 => ?_)
      have h14 : RowRep cStr V (([] : List Str) ++ x3.Reads) ([] ++ cs14) := RowRep.app h13 hs14
      refine Exec.run tyOk 400 rfl ?_
      refine Exec.drawsE tyOk [] [2] [(0, true), (1, true), (2, true), (3, true), (4, false), (5, false), (6, true)] (by kernel_rfl) ?_
      refine Exec.run tyOk 400 rfl ?_
      obtain ⟨q17, hF⟩ := req_some hF
      refine Exec.appS tyOk (cd := cStr) 2 (nm := (((([] : List Str) ++ x3.Reads) ++ x3.Writes)).length) rfl rfl rfl rfl rfl rfl h5 (by first | rfl | simp) (by first | rfl | exact List.length_append.symm | simp) (fun _ _ _ => rfl) rfl q17 (fun cs16 hs16 a16 k16 => ?_)
      have h16 : RowRep cStr V ((([] : List Str) ++ x3.Reads) ++ x3.Writes) (([] ++ cs14) ++ cs16) := RowRep.app h14 hs16
      refine Exec.run tyOk 400 rfl ?_
      refine Exec.frz 2 rfl rfl rfl (fun V18 hv18 hd18 hn18 => ?_)
      have hz18 := RowRep.slat h16 hv18 hd18 hn18
      have h19 := SlAt.mono h2 hv18
      have h20 := SlAt.mono h4 hv18
      have h21 := SlAt.mono h5 hv18
      obtain ⟨x22, hx22, hF⟩ := bnd_some hF
      refine Exec.call rfl rfl (W_clockworkref30_owners x1 (((([] : List Str) ++ x3.Reads) ++ x3.Writes)) h19 hz18 hx22) ?_
      rintro V24 _ hv24 ⟨a23, k23, rfl, h23⟩
      have h25 := SlAt.mono h19 hv24
      have h26 := SlAt.mono h20 hv24
      have h27 := SlAt.mono h21 hv24
      have h28 := SlAt.mono hz18 hv24
      refine Exec.run tyOk 400 rfl ?_
      obtain rfl := some_inj hF
      exact Exec.ret tyOk rfl rfl ⟨_, _, rfl, h23⟩

def F_clockworkref30_Executors (x1 : TPlacement) (x3 : TFootprint) : Option (List Int) :=
  (bnd (F_clockworkref30_valid x1 x3) fun x6 => (cond (!x6) (some ([] : List Int)) (bnd (F_clockworkref30_Active x1 x3) fun x7 => (cond (decide ((0 : Int) < (((x7).length : Nat) : Int))) (some x7) (bnd (F_clockworkref30_Nodes x1 x3) fun x13 => (cond (decide ((0 : Int) < (((x13).length : Nat) : Int))) (req (0 ≤ (0 : Int) ∧ (0 : Int) ≤ (1 : Int) ∧ (1 : Int) ≤ ((x13).length : Int)) (some ((x13.take ((1 : Int)).toNat).drop ((0 : Int)).toNat))) (req (0 ≤ (0 : Int) ∧ (0 : Int) < ((x1.Parts).length : Int)) (some ([(atI x1.Parts ((0 : Int))).Node] : List Int)))))))))

set_option maxRecDepth 100000 in
theorem W_clockworkref30_Executors {V : View} (x1 : TPlacement) (x3 : TFootprint) {a2 : Option Addr} {k2 : Nat} {a4 : Option Addr} {k4 : Nat} {a5 : Option Addr} {k5 : Nat} (h2 : SlAt cTPart V a2 k2 x1.Parts) (h4 : SlAt cStr V a4 k4 x3.Reads) (h5 : SlAt cStr V a5 k5 x3.Writes) {r : List Int} (hF : F_clockworkref30_Executors x1 x3 = some r) :
    Spec Tryz.prog 69 [.agg ⟨[.int .i64 (x1.Version), .slice a2 ((x1.Parts).length) (k2)]⟩, .agg ⟨[.bool (x3.All), .slice a4 ((x3.Reads).length) (k4), .slice a5 ((x3.Writes).length) (k5)]⟩] V (fun V' v => ∃ (a31 : Option Addr) (k31 : Nat), v = .slice a31 ((r).length) (k31) ∧ SlAt (cInt .i64) V' a31 k31 r) := by
  unfold F_clockworkref30_Executors at hF
  refine Spec.enter (T := tyT) Tryz.func69 rfl (by kernel_rfl) rfl rfl rfl ?_
  refine Exec.run tyOk 400 rfl ?_
  obtain ⟨x6, hx6, hF⟩ := bnd_some hF
  refine Exec.callS (.bool (x6)) rfl rfl (W_clockworkref30_valid x1 x3 h2 h4 h5 hx6) ?_
  refine Exec.run tyOk 400 rfl ?_
  rcases cond_some hF with ⟨hb, hF⟩ | ⟨hb, hF⟩
  · skip
    refine Exec.ifT rfl hb ?_
    refine Exec.run tyOk 400 rfl ?_
    obtain rfl := some_inj hF
    exact Exec.ret tyOk rfl rfl ⟨_, _, rfl, SlAt.nil⟩
  · skip
    refine Exec.ifF rfl hb ?_
    refine Exec.run tyOk 400 rfl ?_
    obtain ⟨x7, hx7, hF⟩ := bnd_some hF
    refine Exec.call rfl rfl (W_clockworkref30_Active x1 x3 h2 h4 h5 hx7) ?_
    rintro V9 _ hv9 ⟨a8, k8, rfl, h8⟩
    have h10 := SlAt.mono h2 hv9
    have h11 := SlAt.mono h4 hv9
    have h12 := SlAt.mono h5 hv9
    refine Exec.run tyOk 400 rfl ?_
    rcases cond_some hF with ⟨hb, hF⟩ | ⟨hb, hF⟩
    · skip
      refine Exec.ifT rfl hb ?_
      refine Exec.run tyOk 400 rfl ?_
      obtain rfl := some_inj hF
      exact Exec.ret tyOk rfl rfl ⟨_, _, rfl, h8⟩
    · skip
      refine Exec.ifF rfl hb ?_
      refine Exec.run tyOk 400 rfl ?_
      obtain ⟨x13, hx13, hF⟩ := bnd_some hF
      refine Exec.call rfl rfl (W_clockworkref30_Nodes x1 x3 h10 h11 h12 hx13) ?_
      rintro V15 _ hv15 ⟨a14, k14, rfl, h14⟩
      have h16 := SlAt.mono h10 hv15
      have h17 := SlAt.mono h11 hv15
      have h18 := SlAt.mono h12 hv15
      have h19 := SlAt.mono h8 hv15
      refine Exec.run tyOk 400 rfl ?_
      rcases cond_some hF with ⟨hb, hF⟩ | ⟨hb, hF⟩
      · skip
        refine Exec.ifT rfl hb ?_
        refine Exec.run tyOk 400 rfl ?_
        obtain ⟨q20, hF⟩ := req_some hF
        refine Exec.slv tyOk (c := (cInt .i64)) rfl rfl (lo := (0 : Int)) (hi := (1 : Int)) rfl rfl h14 (by simp) rfl q20 (fun a21 k21 h21 => ?_)
        refine Exec.run tyOk 400 rfl ?_
        obtain rfl := some_inj hF
        exact Exec.ret tyOk rfl rfl ⟨_, _, rfl, h21⟩
      · skip
        refine Exec.ifF rfl hb ?_
        refine Exec.run tyOk 400 rfl ?_
        obtain ⟨q22, hF⟩ := req_some hF
        obtain ⟨c23, hr23, hd23⟩ := SlAt.get h16 q22
        obtain rfl := hr23
        refine Exec.ia tyOk rfl rfl ⟨q22.1, q22.2, hd23.some⟩ ?_
        refine Exec.run tyOk 400 rfl ?_
        refine Exec.ld tyOk (x := .int .i64 ((atI x1.Parts ((0 : Int))).Node)) rfl rfl (RdAt.part hd23 2 1 rfl) rfl rfl ?_
        refine Exec.run tyOk 400 rfl ?_
        refine Exec.bsV tyOk rfl rfl rfl rfl rfl (fun V24 a24 hv24 hd24 => ?_)
        have h25 := SlAt.mono h16 hv24
        have h26 := SlAt.mono h17 hv24
        have h27 := SlAt.mono h18 hv24
        have h28 := SlAt.mono h19 hv24
        have h29 := SlAt.mono h14 hv24
        have h24 : SlAt (cInt .i64) V24 (some a24) 1 ([(atI x1.Parts ((0 : Int))).Node] : List Int) := RowRep.slat (c := (cInt .i64)) (V := V24) (cs := [.int .i64 ((atI x1.Parts ((0 : Int))).Node)]) ⟨_, _, rfl, rfl, rfl⟩ (VLe.refl _) (fun _ => hd24) (by simp)
        refine Exec.run tyOk 400 rfl ?_
        obtain rfl := some_inj hF
        exact Exec.ret tyOk rfl rfl ⟨_, _, rfl, h24⟩

def F_clockworkref06_Union_L1 (x3 : List TPair) (x1 : List TPair) (J7 : Option (List TPair × Int)) : Nat → Int → Option (List TPair × Int)
  | 0, _ => none
  | n17 + 1, x16 => (cond (decide (x16 < (((x3).length : Nat) : Int))) (req (0 ≤ x16 ∧ x16 < ((x3).length : Int)) (bnd (F_clockworkref06_Has x1 ((atI x3 x16).Key)) fun x23 => (cond x23 (some (([] : List TPair), (8 : Int))) (F_clockworkref06_Union_L1 x3 x1 J7 n17 ((IntKind.i64.wrap (x16 + (1 : Int)))))))) J7)

def F_clockworkref06_Union (x1 : List TPair) (x3 : List TPair) : Option (List TPair × Int) :=
  (bnd (F_clockworkref06_Valid x1) fun x5 => (bnd (gcall (((!x5)) == false) (F_clockworkref06_Valid x3)) fun x6 => (cond ((!x5) || (!x6)) (some (([] : List TPair), (1 : Int))) (jn ((bnd (F_clockworkref06_Apply x1 x3) fun x11 => (some (x11.1, x11.2)))) (fun J7 => (F_clockworkref06_Union_L1 x3 x1 J7 (((((x3).length : Nat) : Int)).toNat + 1) ((0 : Int))))))))

set_option maxRecDepth 100000 in
theorem W_clockworkref06_Union {V : View} (x1 : List TPair) (x3 : List TPair) {a2 : Option Addr} {k2 : Nat} {a4 : Option Addr} {k4 : Nat} (h2 : SlAt cTPair V a2 k2 x1) (h4 : SlAt cTPair V a4 k4 x3) {r : List TPair × Int} (hF : F_clockworkref06_Union x1 x3 = some r) :
    Spec Tryz.prog 73 [.slice a2 ((x1).length) (k2), .slice a4 ((x3).length) (k4)] V (fun V' v => ∃ (a24 : Option Addr) (k24 : Nat), v = .tuple ⟨[.slice a24 ((r.1).length) (k24), .int .i64 (r.2)]⟩ ∧ SlAt cTPair V' a24 k24 r.1) := by
  unfold F_clockworkref06_Union at hF
  refine Spec.enter (T := tyT) Tryz.func73 rfl (by kernel_rfl) rfl rfl rfl ?_
  refine Exec.run tyOk 400 rfl ?_
  obtain ⟨x5, hx5, hF⟩ := bnd_some hF
  refine Exec.callS (.bool (x5)) rfl rfl (W_clockworkref06_Valid x1 h2 hx5) ?_
  refine Exec.run tyOk 400 rfl ?_
  obtain ⟨x6, hx6, hF⟩ := bnd_some hF
  refine Exec.callS (.bool (x6)) rfl rfl (fun gg0 => W_clockworkref06_Valid x3 h4 (gcall_some hx6 (gd1_of gg0))) ?_
  refine Exec.run tyOk 400 rfl ?_
  rcases cond_some hF with ⟨hb, hF⟩ | ⟨hb, hF⟩
  · skip
    refine Exec.ifT rfl hb ?_
    refine Exec.run tyOk 400 rfl ?_
    obtain rfl := some_inj hF
    exact Exec.ret tyOk rfl rfl ⟨_, _, rfl, SlAt.nil⟩
  · skip
    refine Exec.ifF rfl hb ?_
    refine Exec.run tyOk 6 rfl ?_
    obtain ⟨J7, hJ7, hF⟩ := jn_some hF
    refine Exec.seam (fun L' V' M' => L' = [(0, .v (.slice a2 ((x1).length) (k2))), (1, .v (.slice a4 ((x3).length) (k4)))] ∧ M' = [] ∧ SlAt cTPair V' a2 k2 x1 ∧ SlAt cTPair V' a4 k4 x3 ∧ J7 = some r) rfl ?_ ?_
    · rintro L' V8 M' ⟨rfl, rfl, h9, h10, hF⟩
      subst hJ7
      refine Exec.run tyOk 400 rfl ?_
      obtain ⟨x11, hx11, hF⟩ := bnd_some hF
      refine Exec.call rfl rfl (W_clockworkref06_Apply x1 x3 h9 h10 hx11) ?_
      rintro V13 _ hv13 ⟨a12, k12, rfl, h12⟩
      have h14 := SlAt.mono h9 hv13
      have h15 := SlAt.mono h10 hv13
      refine Exec.run tyOk 400 rfl ?_
      obtain rfl := some_inj hF
      exact Exec.ret tyOk rfl rfl ⟨_, _, rfl, h12⟩
    · skip
      refine Exec.run tyOk 400 rfl ?_
      refine Exec.loop (fun n17 L' V' M' => ∃ (x16 : Int), L' = [(0, .v (.slice a2 ((x1).length) (k2))), (1, .v (.slice a4 ((x3).length) (k4))), (6, .v (.int .i64 (x16)))] ∧ M' = [] ∧ SlAt cTPair V' a2 k2 x1 ∧ SlAt cTPair V' a4 k4 x3 ∧ F_clockworkref06_Union_L1 x3 x1 J7 n17 x16 = some r) ⟨(((((x3).length : Nat) : Int)).toNat + 1), [(0, .v (.slice a2 ((x1).length) (k2))), (1, .v (.slice a4 ((x3).length) (k4))), (6, .v (.int .i64 ((0 : Int))))], ⟨rfl, rfl, rfl, trivial⟩, (0 : Int), rfl, rfl, h2, h4, hF⟩ ?_
      rintro n17 L' V18 M' ⟨x16, rfl, rfl, h19, h20, hF⟩
      rcases n17 with _ | n17
      · exact absurd hF (by simp [F_clockworkref06_Union_L1])
      rw [F_clockworkref06_Union_L1] at hF
      refine Exec.run tyOk 400 rfl ?_
      rcases cond_some hF with ⟨hb, hF⟩ | ⟨hb, hF⟩
      · skip
        refine Exec.ifT rfl hb ?_
        refine Exec.run tyOk 400 rfl ?_
        obtain ⟨q21, hF⟩ := req_some hF
        obtain ⟨c22, hr22, hd22⟩ := SlAt.get h20 q21
        obtain rfl := hr22
        refine Exec.ia tyOk rfl rfl ⟨q21.1, q21.2, hd22.some⟩ ?_
        refine Exec.run tyOk 400 rfl ?_
        refine Exec.ld tyOk (x := .string ⟨⟨(atI x3 x16).Key⟩⟩) rfl rfl (RdAt.part hd22 0 1 rfl) rfl rfl ?_
        refine Exec.run tyOk 400 rfl ?_
        obtain ⟨x23, hx23, hF⟩ := bnd_some hF
        refine Exec.callS (.bool (x23)) rfl rfl (W_clockworkref06_Has x1 ((atI x3 x16).Key) h19 hx23) ?_
        refine Exec.run tyOk 400 rfl ?_
        rcases cond_some hF with ⟨hb, hF⟩ | ⟨hb, hF⟩
        · skip
          refine Exec.ifT rfl hb ?_
          refine Exec.run tyOk 400 rfl ?_
          obtain rfl := some_inj hF
          exact Exec.ret tyOk rfl rfl ⟨_, _, rfl, SlAt.nil⟩
        · skip
          refine Exec.ifF rfl hb ?_
          refine Exec.run tyOk 400 rfl ?_
          exact Exec.round [(0, .v (.slice a2 ((x1).length) (k2))), (1, .v (.slice a4 ((x3).length) (k4))), (6, .v (.int .i64 ((IntKind.i64.wrap (x16 + (1 : Int))))))] ⟨rfl, rfl, rfl, trivial⟩ ⟨n17, Nat.lt_succ_self _, (IntKind.i64.wrap (x16 + (1 : Int))), rfl, rfl, h19, h20, hF⟩
      · skip
        refine Exec.ifF rfl hb ?_
        refine Exec.run tyOk 400 rfl ?_
        exact Exec.round [(0, .v (.slice a2 ((x1).length) (k2))), (1, .v (.slice a4 ((x3).length) (k4)))] ⟨rfl, rfl, trivial⟩ ⟨rfl, rfl, h19, h20, hF⟩

def F_route_Executors (x1 : TPlacement) (x3 : TFootprint) : Option (List Int) :=
  (bnd (F_route_valid x1 x3) fun x6 => (cond (!x6) (some ([] : List Int)) (bnd (F_route_Active x1 x3) fun x7 => (cond (decide ((0 : Int) < (((x7).length : Nat) : Int))) (some x7) (bnd (F_route_Nodes x1 x3) fun x13 => (cond (decide ((0 : Int) < (((x13).length : Nat) : Int))) (req (0 ≤ (0 : Int) ∧ (0 : Int) ≤ (1 : Int) ∧ (1 : Int) ≤ (1 : Int) ∧ (1 : Int) ≤ ((x13).length : Int)) (some ((x13.take ((1 : Int)).toNat).drop ((0 : Int)).toNat))) (req (0 ≤ (0 : Int) ∧ (0 : Int) < ((x1.Parts).length : Int)) (some ([(atI x1.Parts ((0 : Int))).Node] : List Int)))))))))

set_option maxRecDepth 100000 in
theorem W_route_Executors {V : View} (x1 : TPlacement) (x3 : TFootprint) {a2 : Option Addr} {k2 : Nat} {a4 : Option Addr} {k4 : Nat} {a5 : Option Addr} {k5 : Nat} (h2 : SlAt cTPart V a2 k2 x1.Parts) (h4 : SlAt cStr V a4 k4 x3.Reads) (h5 : SlAt cStr V a5 k5 x3.Writes) {r : List Int} (hF : F_route_Executors x1 x3 = some r) :
    Spec Tryz.prog 18 [.agg ⟨[.int .i64 (x1.Version), .slice a2 ((x1.Parts).length) (k2)]⟩, .agg ⟨[.bool (x3.All), .slice a4 ((x3.Reads).length) (k4), .slice a5 ((x3.Writes).length) (k5)]⟩] V (fun V' v => ∃ (a31 : Option Addr) (k31 : Nat), v = .slice a31 ((r).length) (k31) ∧ SlAt (cInt .i64) V' a31 k31 r) := by
  unfold F_route_Executors at hF
  refine Spec.enter (T := tyT) Tryz.func18 rfl (by kernel_rfl) rfl rfl rfl ?_
  refine Exec.run tyOk 400 rfl ?_
  obtain ⟨x6, hx6, hF⟩ := bnd_some hF
  refine Exec.callS (.bool (x6)) rfl rfl (W_route_valid x1 x3 h2 h4 h5 hx6) ?_
  refine Exec.run tyOk 400 rfl ?_
  rcases cond_some hF with ⟨hb, hF⟩ | ⟨hb, hF⟩
  · skip
    refine Exec.ifT rfl hb ?_
    refine Exec.run tyOk 400 rfl ?_
    obtain rfl := some_inj hF
    exact Exec.ret tyOk rfl rfl ⟨_, _, rfl, SlAt.nil⟩
  · skip
    refine Exec.ifF rfl hb ?_
    refine Exec.run tyOk 400 rfl ?_
    obtain ⟨x7, hx7, hF⟩ := bnd_some hF
    refine Exec.call rfl rfl (W_route_Active x1 x3 h2 h4 h5 hx7) ?_
    rintro V9 _ hv9 ⟨a8, k8, rfl, h8⟩
    have h10 := SlAt.mono h2 hv9
    have h11 := SlAt.mono h4 hv9
    have h12 := SlAt.mono h5 hv9
    refine Exec.run tyOk 400 rfl ?_
    rcases cond_some hF with ⟨hb, hF⟩ | ⟨hb, hF⟩
    · skip
      refine Exec.ifT rfl hb ?_
      refine Exec.run tyOk 400 rfl ?_
      obtain rfl := some_inj hF
      exact Exec.ret tyOk rfl rfl ⟨_, _, rfl, h8⟩
    · skip
      refine Exec.ifF rfl hb ?_
      refine Exec.run tyOk 400 rfl ?_
      obtain ⟨x13, hx13, hF⟩ := bnd_some hF
      refine Exec.call rfl rfl (W_route_Nodes x1 x3 h10 h11 h12 hx13) ?_
      rintro V15 _ hv15 ⟨a14, k14, rfl, h14⟩
      have h16 := SlAt.mono h10 hv15
      have h17 := SlAt.mono h11 hv15
      have h18 := SlAt.mono h12 hv15
      have h19 := SlAt.mono h8 hv15
      refine Exec.run tyOk 400 rfl ?_
      rcases cond_some hF with ⟨hb, hF⟩ | ⟨hb, hF⟩
      · skip
        refine Exec.ifT rfl hb ?_
        refine Exec.run tyOk 400 rfl ?_
        obtain ⟨q20, hF⟩ := req_some hF
        refine Exec.slv3 tyOk (c := (cInt .i64)) rfl rfl rfl rfl rfl rfl rfl (lo' := (0 : Int)) rfl h14 rfl q20 (fun a21 k21 h21 => ?_)
        refine Exec.run tyOk 400 rfl ?_
        obtain rfl := some_inj hF
        exact Exec.ret tyOk rfl rfl ⟨_, _, rfl, h21⟩
      · skip
        refine Exec.ifF rfl hb ?_
        refine Exec.run tyOk 400 rfl ?_
        obtain ⟨q22, hF⟩ := req_some hF
        obtain ⟨c23, hr23, hd23⟩ := SlAt.get h16 q22
        obtain rfl := hr23
        refine Exec.ia tyOk rfl rfl ⟨q22.1, q22.2, hd23.some⟩ ?_
        refine Exec.run tyOk 400 rfl ?_
        refine Exec.ld tyOk (x := .int .i64 ((atI x1.Parts ((0 : Int))).Node)) rfl rfl (RdAt.part hd23 2 1 rfl) rfl rfl ?_
        refine Exec.run tyOk 400 rfl ?_
        refine Exec.bsV tyOk rfl rfl rfl rfl rfl (fun V24 a24 hv24 hd24 => ?_)
        have h25 := SlAt.mono h16 hv24
        have h26 := SlAt.mono h17 hv24
        have h27 := SlAt.mono h18 hv24
        have h28 := SlAt.mono h19 hv24
        have h29 := SlAt.mono h14 hv24
        have h24 : SlAt (cInt .i64) V24 (some a24) 1 ([(atI x1.Parts ((0 : Int))).Node] : List Int) := RowRep.slat (c := (cInt .i64)) (V := V24) (cs := [.int .i64 ((atI x1.Parts ((0 : Int))).Node)]) ⟨_, _, rfl, rfl, rfl⟩ (VLe.refl _) (fun _ => hd24) (by simp)
        refine Exec.run tyOk 400 rfl ?_
        obtain rfl := some_inj hF
        exact Exec.ret tyOk rfl rfl ⟨_, _, rfl, h24⟩

def F_exchange_Local_L1 (x3 : TShard) (x5 : TFootprint) (J12 : (List TPair) → Option (List TPair)) : Nat → (List TPair) → Int → Option (List TPair)
  | 0, _, _ => none
  | n26 + 1, x24, x25 => (cond (decide (x25 < (((x3.Pairs).length : Nat) : Int))) (req (0 ≤ x25 ∧ x25 < ((x3.Pairs).length : Int)) (bnd (gcall ((x5.All) == false) (F_slices_Contains_string_string x5.Reads ((atI x3.Pairs x25).Key))) fun x34 => (jn (fun (x36 : List TPair) => (F_exchange_Local_L1 x3 x5 J12 n26 x36 ((IntKind.i64.wrap (x25 + (1 : Int)))))) (fun J37 => (cond (x5.All || x34) (req (((x24 ++ [(atI x3.Pairs x25)])).length * 48 ≤ 140737488355328) (J37 ((x24 ++ [(atI x3.Pairs x25)])))) (J37 x24)))))) (J12 x24))

def F_exchange_Local (x1 : TPlacement) (x3 : TShard) (x5 : TFootprint) : Option (List TPair) :=
  (bnd (F_exchange_valid x1 x3 x5) fun x8 => (cond (!x8) (some ([] : List TPair)) (jn (fun (x11 : List TPair) => (some x11)) (fun J12 => (F_exchange_Local_L1 x3 x5 J12 (((((x3.Pairs).length : Nat) : Int)).toNat + 1) (([] : List TPair)) ((0 : Int)))))))

set_option maxRecDepth 100000 in
theorem W_exchange_Local {V : View} (x1 : TPlacement) (x3 : TShard) (x5 : TFootprint) {a2 : Option Addr} {k2 : Nat} {a4 : Option Addr} {k4 : Nat} {a6 : Option Addr} {k6 : Nat} {a7 : Option Addr} {k7 : Nat} (h2 : SlAt cTPart V a2 k2 x1.Parts) (h4 : SlAt cTPair V a4 k4 x3.Pairs) (h6 : SlAt cStr V a6 k6 x5.Reads) (h7 : SlAt cStr V a7 k7 x5.Writes) {r : List TPair} (hF : F_exchange_Local x1 x3 x5 = some r) :
    Spec Tryz.prog 24 [.agg ⟨[.int .i64 (x1.Version), .slice a2 ((x1.Parts).length) (k2)]⟩, .agg ⟨[.int .i64 (x3.Node), .slice a4 ((x3.Pairs).length) (k4)]⟩, .agg ⟨[.bool (x5.All), .slice a6 ((x5.Reads).length) (k6), .slice a7 ((x5.Writes).length) (k7)]⟩] V (fun V' v => ∃ (a46 : Option Addr) (k46 : Nat), v = .slice a46 ((r).length) (k46) ∧ SlAt cTPair V' a46 k46 r) := by
  unfold F_exchange_Local at hF
  refine Spec.enter (T := tyT) Tryz.func24 rfl (by kernel_rfl) rfl rfl rfl ?_
  refine Exec.run tyOk 400 rfl ?_
  obtain ⟨x8, hx8, hF⟩ := bnd_some hF
  refine Exec.callS (.bool (x8)) rfl rfl (W_exchange_valid x1 x3 x5 h2 h4 h6 h7 hx8) ?_
  refine Exec.run tyOk 400 rfl ?_
  rcases cond_some hF with ⟨hb, hF⟩ | ⟨hb, hF⟩
  · skip
    refine Exec.ifT rfl hb ?_
    refine Exec.run tyOk 400 rfl ?_
    obtain rfl := some_inj hF
    exact Exec.ret tyOk rfl rfl ⟨_, _, rfl, SlAt.nil⟩
  · skip
    refine Exec.ifF rfl hb ?_
    refine Exec.run tyOk 13 rfl ?_
    refine Exec.row0 70 4 rfl ?_
    have h9 : RowRep cTPair V ([] : List TPair) [] := RowRep.nil
    obtain ⟨J12, hJ12, hF⟩ := jn_some hF
    refine Exec.seam (fun L' V' M' => ∃ (x11 : List TPair) (a10 : Option Addr) (k10 : Nat) (cs10 : List Value), L' = [(7, .v (.slice a10 ((x11).length) (k10)))] ∧ M' = [.blk [.v (.int .i64 (x1.Version)), .v (.slice a2 ((x1.Parts).length) (k2))] 24, .blk [.v (.int .i64 (x3.Node)), .v (.slice a4 ((x3.Pairs).length) (k4))] 40, .blk [.v (.bool (x5.All)), .v (.slice a6 ((x5.Reads).length) (k6)), .v (.slice a7 ((x5.Writes).length) (k7))] 27, .row (.slice a10 ((x11).length) (k10)) cs10 70 4] ∧ RowRep cTPair V' x11 cs10 ∧ SlAt cTPart V' a2 k2 x1.Parts ∧ SlAt cTPair V' a4 k4 x3.Pairs ∧ SlAt cStr V' a6 k6 x5.Reads ∧ SlAt cStr V' a7 k7 x5.Writes ∧ J12 x11 = some r) rfl ?_ ?_
    · rintro L' V13 M' ⟨x11, a10, k10, cs10, rfl, rfl, h10, h14, h15, h16, h17, hF⟩
      subst hJ12
      refine Exec.run tyOk 400 rfl ?_
      refine Exec.frz 3 rfl rfl rfl (fun V18 hv18 hd18 hn18 => ?_)
      have hz18 := RowRep.slat h10 hv18 hd18 hn18
      have h19 := SlAt.mono h14 hv18
      have h20 := SlAt.mono h15 hv18
      have h21 := SlAt.mono h16 hv18
      have h22 := SlAt.mono h17 hv18
      obtain rfl := some_inj hF
      exact Exec.ret tyOk rfl rfl ⟨_, _, rfl, hz18⟩
    · skip
      refine Exec.run tyOk 400 rfl ?_
      refine Exec.loop (fun n26 L' V' M' => ∃ (x24 : List TPair) (a23 : Option Addr) (k23 : Nat) (cs23 : List Value) (x25 : Int), L' = [(5, .ptr 2 0), (7, .v (.slice a23 ((x24).length) (k23))), (16, .v (.slice a4 ((x3.Pairs).length) (k4))), (17, .v (.int .i64 ((((x3.Pairs).length : Nat) : Int)))), (18, .v (.int .i64 (x25)))] ∧ M' = [.blk [.v (.int .i64 (x1.Version)), .v (.slice a2 ((x1.Parts).length) (k2))] 24, .blk [.v (.int .i64 (x3.Node)), .v (.slice a4 ((x3.Pairs).length) (k4))] 40, .blk [.v (.bool (x5.All)), .v (.slice a6 ((x5.Reads).length) (k6)), .v (.slice a7 ((x5.Writes).length) (k7))] 27, .row (.slice a23 ((x24).length) (k23)) cs23 70 4] ∧ RowRep cTPair V' x24 cs23 ∧ SlAt cTPair V' a4 k4 x3.Pairs ∧ SlAt cTPart V' a2 k2 x1.Parts ∧ SlAt cStr V' a6 k6 x5.Reads ∧ SlAt cStr V' a7 k7 x5.Writes ∧ F_exchange_Local_L1 x3 x5 J12 n26 x24 x25 = some r) ⟨(((((x3.Pairs).length : Nat) : Int)).toNat + 1), [(5, .ptr 2 0), (7, .v (.slice none ((([] : List TPair)).length) (0))), (16, .v (.slice a4 ((x3.Pairs).length) (k4))), (17, .v (.int .i64 ((((x3.Pairs).length : Nat) : Int)))), (18, .v (.int .i64 ((0 : Int))))], ⟨rfl, rfl, rfl, rfl, rfl, trivial⟩, ([] : List TPair), none, 0, [], (0 : Int), rfl, rfl, h9, h4, h2, h6, h7, hF⟩ ?_
      rintro n26 L' V27 M' ⟨x24, a23, k23, cs23, x25, rfl, rfl, h23, h28, h29, h30, h31, hF⟩
      rcases n26 with _ | n26
      · exact absurd hF (by simp [F_exchange_Local_L1])
      rw [F_exchange_Local_L1] at hF
      refine Exec.run tyOk 400 rfl ?_
      rcases cond_some hF with ⟨hb, hF⟩ | ⟨hb, hF⟩
      · skip
        refine Exec.ifT rfl hb ?_
        refine Exec.run tyOk 400 rfl ?_
        obtain ⟨q32, hF⟩ := req_some hF
        obtain ⟨c33, hr33, hd33⟩ := SlAt.get h28 q32
        obtain rfl := hr33
        refine Exec.ia tyOk rfl rfl ⟨q32.1, q32.2, hd33.some⟩ ?_
        refine Exec.run tyOk 400 rfl ?_
        refine Exec.ld tyOk (x := .agg ⟨[.string ⟨⟨(atI x3.Pairs x25).Key⟩⟩, .int .i64 ((atI x3.Pairs x25).Val.Kind), .int .i64 ((atI x3.Pairs x25).Val.N), .string ⟨⟨(atI x3.Pairs x25).Val.S⟩⟩]⟩) rfl rfl hd33 rfl rfl ?_
        refine Exec.run tyOk 400 rfl ?_
        obtain ⟨x34, hx34, hF⟩ := bnd_some hF
        refine Exec.callS (.bool (x34)) rfl rfl (fun gg0 => W_slices_Contains_string_string x5.Reads ((atI x3.Pairs x25).Key) h30 (gcall_some hx34 (gd1_of gg0))) ?_
        refine Exec.run tyOk 400 rfl ?_
        obtain ⟨J37, hJ37, hF⟩ := jn_some hF
        refine Exec.seam (fun L' V' M' => ∃ (x36 : List TPair) (a35 : Option Addr) (k35 : Nat) (cs35 : List Value), L' = [(5, .ptr 2 0), (7, .v (.slice a35 ((x36).length) (k35))), (16, .v (.slice a4 ((x3.Pairs).length) (k4))), (17, .v (.int .i64 ((((x3.Pairs).length : Nat) : Int)))), (18, .v (.int .i64 (x25)))] ∧ M' = [.blk [.v (.int .i64 (x1.Version)), .v (.slice a2 ((x1.Parts).length) (k2))] 24, .blk [.v (.int .i64 (x3.Node)), .v (.slice a4 ((x3.Pairs).length) (k4))] 40, .blk [.v (.bool (x5.All)), .v (.slice a6 ((x5.Reads).length) (k6)), .v (.slice a7 ((x5.Writes).length) (k7))] 27, .row (.slice a35 ((x36).length) (k35)) cs35 70 4] ∧ RowRep cTPair V' x36 cs35 ∧ SlAt cTPair V' a4 k4 x3.Pairs ∧ SlAt cTPart V' a2 k2 x1.Parts ∧ SlAt cStr V' a6 k6 x5.Reads ∧ SlAt cStr V' a7 k7 x5.Writes ∧ J37 x36 = some r) rfl ?_ ?_
        · rintro L' V38 M' ⟨x36, a35, k35, cs35, rfl, rfl, h35, h39, h40, h41, h42, hF⟩
          subst hJ37
          refine Exec.run tyOk 400 rfl ?_
          exact Exec.round [(5, .ptr 2 0), (7, .v (.slice a35 ((x36).length) (k35))), (16, .v (.slice a4 ((x3.Pairs).length) (k4))), (17, .v (.int .i64 ((((x3.Pairs).length : Nat) : Int)))), (18, .v (.int .i64 ((IntKind.i64.wrap (x25 + (1 : Int))))))] ⟨rfl, rfl, rfl, rfl, rfl, trivial⟩ ⟨n26, Nat.lt_succ_self _, x36, a35, k35, cs35, (IntKind.i64.wrap (x25 + (1 : Int))), rfl, rfl, h35, h39, h40, h41, h42, hF⟩
        · skip
          refine Exec.run tyOk 400 rfl ?_
          rcases cond_some hF with ⟨hb, hF⟩ | ⟨hb, hF⟩
          · skip
            refine Exec.ifT rfl hb ?_
            refine Exec.run tyOk 400 rfl ?_
            refine Exec.drawsE tyOk [8] [] [(0, true), (1, true), (2, true), (3, true), (4, true), (5, true), (6, true), (7, false), (8, false), (9, false)] (by kernel_rfl) ?_
            refine Exec.run tyOk 400 rfl ?_
            refine Exec.rowA 3 rfl (fun _ hc43 _ _ _ => ?_)
            refine Exec.fslx3 tyOk rfl rfl rfl rfl rfl rfl rfl rfl ⟨by simp [loN], by simp [loN], Int.le_refl _, by omega⟩ (q0 := (x24).length) (by simp) (l' := 0) rfl (n' := (x24).length) (by simp) (c' := (x24).length) (by simp) ?_
            refine Exec.run tyOk 400 rfl ?_
            refine Exec.bsl tyOk rfl rfl ?_
            refine Exec.run tyOk 400 rfl ?_
            obtain ⟨q45, hF⟩ := req_some hF
            refine Exec.appF tyOk 3 5 (nm := ((x24 ++ [(atI x3.Pairs x25)])).length) rfl rfl rfl rfl rfl rfl rfl rfl rfl (by simp) (fun _ _ => rfl) rfl q45 rfl rfl (by decide) (fun a44 k44 => ?_)
            have h44 : RowRep cTPair V27 (x24 ++ [(atI x3.Pairs x25)]) (cs23 ++ [.string ⟨⟨(atI x3.Pairs x25).Key⟩⟩, .int .i64 ((atI x3.Pairs x25).Val.Kind), .int .i64 ((atI x3.Pairs x25).Val.N), .string ⟨⟨(atI x3.Pairs x25).Val.S⟩⟩]) := RowRep.app h23 ⟨_, _, rfl, rfl, rfl⟩
            refine Exec.run tyOk 400 rfl ?_
            refine Exec.cut 4 [(5, .ptr 2 0), (7, .v (.slice a44 (((x24 ++ [(atI x3.Pairs x25)])).length) (k44))), (16, .v (.slice a4 ((x3.Pairs).length) (k4))), (17, .v (.int .i64 ((((x3.Pairs).length : Nat) : Int)))), (18, .v (.int .i64 (x25)))] (M' := [.blk [.v (.int .i64 (x1.Version)), .v (.slice a2 ((x1.Parts).length) (k2))] 24, .blk [.v (.int .i64 (x3.Node)), .v (.slice a4 ((x3.Pairs).length) (k4))] 40, .blk [.v (.bool (x5.All)), .v (.slice a6 ((x5.Reads).length) (k6)), .v (.slice a7 ((x5.Writes).length) (k7))] 27, .row (.slice a44 (((x24 ++ [(atI x3.Pairs x25)])).length) (k44)) ((cs23 ++ [.string ⟨⟨(atI x3.Pairs x25).Key⟩⟩, .int .i64 ((atI x3.Pairs x25).Val.Kind), .int .i64 ((atI x3.Pairs x25).Val.N), .string ⟨⟨(atI x3.Pairs x25).Val.S⟩⟩])) 70 4]) rfl ⟨rfl, rfl, rfl, rfl, rfl, trivial⟩ rfl rfl rfl ?_
            exact Exec.round [(5, .ptr 2 0), (7, .v (.slice a44 (((x24 ++ [(atI x3.Pairs x25)])).length) (k44))), (16, .v (.slice a4 ((x3.Pairs).length) (k4))), (17, .v (.int .i64 ((((x3.Pairs).length : Nat) : Int)))), (18, .v (.int .i64 (x25)))] ⟨rfl, rfl, rfl, rfl, rfl, trivial⟩ ⟨(x24 ++ [(atI x3.Pairs x25)]), a44, k44, (cs23 ++ [.string ⟨⟨(atI x3.Pairs x25).Key⟩⟩, .int .i64 ((atI x3.Pairs x25).Val.Kind), .int .i64 ((atI x3.Pairs x25).Val.N), .string ⟨⟨(atI x3.Pairs x25).Val.S⟩⟩]), rfl, rfl, h44, h28, h29, h30, h31, hF⟩
          · skip
            refine Exec.ifF rfl hb ?_
            refine Exec.run tyOk 400 rfl ?_
            refine Exec.cut 4 [(5, .ptr 2 0), (7, .v (.slice a23 ((x24).length) (k23))), (16, .v (.slice a4 ((x3.Pairs).length) (k4))), (17, .v (.int .i64 ((((x3.Pairs).length : Nat) : Int)))), (18, .v (.int .i64 (x25)))] (M' := [.blk [.v (.int .i64 (x1.Version)), .v (.slice a2 ((x1.Parts).length) (k2))] 24, .blk [.v (.int .i64 (x3.Node)), .v (.slice a4 ((x3.Pairs).length) (k4))] 40, .blk [.v (.bool (x5.All)), .v (.slice a6 ((x5.Reads).length) (k6)), .v (.slice a7 ((x5.Writes).length) (k7))] 27, .row (.slice a23 ((x24).length) (k23)) cs23 70 4]) rfl ⟨rfl, rfl, rfl, rfl, rfl, trivial⟩ rfl rfl rfl ?_
            exact Exec.round [(5, .ptr 2 0), (7, .v (.slice a23 ((x24).length) (k23))), (16, .v (.slice a4 ((x3.Pairs).length) (k4))), (17, .v (.int .i64 ((((x3.Pairs).length : Nat) : Int)))), (18, .v (.int .i64 (x25)))] ⟨rfl, rfl, rfl, rfl, rfl, trivial⟩ ⟨x24, a23, k23, cs23, rfl, rfl, h23, h28, h29, h30, h31, hF⟩
      · skip
        refine Exec.ifF rfl hb ?_
        refine Exec.run tyOk 400 rfl ?_
        exact Exec.round [(7, .v (.slice a23 ((x24).length) (k23)))] ⟨rfl, trivial⟩ ⟨x24, a23, k23, cs23, rfl, rfl, h23, h29, h28, h30, h31, hF⟩

def F_clockworkref31_Send_L1 (x27 : List Int) (x1 : TPlacement) (x3 : TShard) (x6 : TFootprint) (x5 : Int) (x20 : List Str) (J130 : (List TMail) → Option (List TMail)) : Nat → (List TMail) → Int → Option (List TMail)
  | 0, _, _ => none
  | n144 + 1, x142, x143 => (cond (decide (x143 < (((x27).length : Nat) : Int))) (req (0 ≤ x143 ∧ x143 < ((x27).length : Int)) (bnd (F_clockworkref31_Local x1 x3 x6) fun x154 => (req (((x142 ++ [(⟨x5, x3.Node, (atI x27 x143), x20, x154⟩ : TMail)])).length * 72 ≤ 140737488355328) (F_clockworkref31_Send_L1 x27 x1 x3 x6 x5 x20 J130 n144 ((x142 ++ [(⟨x5, x3.Node, (atI x27 x143), x20, x154⟩ : TMail)])) ((IntKind.i64.wrap (x143 + (1 : Int)))))))) (J130 x142))

def F_clockworkref31_Send_L2 (x6 : TFootprint) (x1 : TPlacement) (x3 : TShard) (J21 : (List Str) → Option (List TMail)) : Nat → (List Str) → Int → Option (List TMail)
  | 0, _, _ => none
  | n170 + 1, x168, x169 => (cond (decide (x169 < (((x6.Reads).length : Nat) : Int))) (req (0 ≤ x169 ∧ x169 < ((x6.Reads).length : Int)) (bnd (F_clockworkref29_Owner x1 ((atI x6.Reads x169))) fun x178 => (jn (fun (x180 : List Str) => (F_clockworkref31_Send_L2 x6 x1 x3 J21 n170 x180 ((IntKind.i64.wrap (x169 + (1 : Int)))))) (fun J181 => (cond (x178 == x3.Node) (req (0 ≤ x169 ∧ x169 < ((x6.Reads).length : Int)) (req (((x168 ++ [(atI x6.Reads x169)])).length * 16 ≤ 140737488355328) (J181 ((x168 ++ [(atI x6.Reads x169)]))))) (J181 x168)))))) (J21 x168))

def F_clockworkref31_Send (x1 : TPlacement) (x3 : TShard) (x5 : Int) (x6 : TFootprint) : Option (List TMail) :=
  (bnd (F_clockworkref31_valid x1 x3 x6) fun x9 => (bnd (gcall (((!x9)) == false) (F_clockworkref30_Nodes x1 x6)) fun x10 => (bnd (gcall (((!x9)) == false) (F_clockworkref30_Has x10 x3.Node)) fun x17 => (cond ((!x9) || (!x17)) (some ([] : List TMail)) (jn (fun (x20 : List Str) => (bnd (F_clockworkref30_Executors x1 x6) fun x27 => (jn (fun (x129 : List TMail) => (some x129)) (fun J130 => (F_clockworkref31_Send_L1 x27 x1 x3 x6 x5 x20 J130 (((((x27).length : Nat) : Int)).toNat + 1) (([] : List TMail)) ((0 : Int))))))) (fun J21 => (F_clockworkref31_Send_L2 x6 x1 x3 J21 (((((x6.Reads).length : Nat) : Int)).toNat + 1) (([] : List Str)) ((0 : Int)))))))))

set_option maxRecDepth 100000 in
theorem W_clockworkref31_Send {V : View} (x1 : TPlacement) (x3 : TShard) (x5 : Int) (x6 : TFootprint) {a2 : Option Addr} {k2 : Nat} {a4 : Option Addr} {k4 : Nat} {a7 : Option Addr} {k7 : Nat} {a8 : Option Addr} {k8 : Nat} (h2 : SlAt cTPart V a2 k2 x1.Parts) (h4 : SlAt cTPair V a4 k4 x3.Pairs) (h7 : SlAt cStr V a7 k7 x6.Reads) (h8 : SlAt cStr V a8 k8 x6.Writes) {r : List TMail} (hF : F_clockworkref31_Send x1 x3 x5 x6 = some r) :
    Spec Tryz.prog 27 [.agg ⟨[.int .i64 (x1.Version), .slice a2 ((x1.Parts).length) (k2)]⟩, .agg ⟨[.int .i64 (x3.Node), .slice a4 ((x3.Pairs).length) (k4)]⟩, .int .i64 (x5), .agg ⟨[.bool (x6.All), .slice a7 ((x6.Reads).length) (k7), .slice a8 ((x6.Writes).length) (k8)]⟩] V (fun V' v => ∃ (a191 : Option Addr) (k191 : Nat), v = .slice a191 ((r).length) (k191) ∧ SlAt cTMail V' a191 k191 r) := by
  unfold F_clockworkref31_Send at hF
  refine Spec.enter (T := tyT) Tryz.func27 rfl (by kernel_rfl) rfl rfl rfl ?_
  refine Exec.run tyOk 400 rfl ?_
  refine Exec.draws tyOk [(0, true), (1, true), (2, true), (3, false), (4, false), (5, false), (6, true), (7, true), (9, true), (10, true), (8, false), (11, false), (12, false), (13, false)] rfl (by kernel_rfl) ?_
  refine Exec.run tyOk 400 rfl ?_
  obtain ⟨x9, hx9, hF⟩ := bnd_some hF
  refine Exec.callS (.bool (x9)) rfl rfl (W_clockworkref31_valid x1 x3 x6 h2 h4 h7 h8 hx9) ?_
  refine Exec.run tyOk 400 rfl ?_
  obtain ⟨x10, hx10, hF⟩ := bnd_some hF
  refine Exec.callG (fun y : Option Addr × Nat => .slice y.1 ((x10).length) (y.2)) (none, 0) (R := fun V' y => SlAt (cInt .i64) V' y.1 y.2 x10) rfl rfl rfl (fun gg0 => (W_clockworkref30_Nodes x1 x6 h2 h7 h8 (gcall_some hx10 (gd1_of gg0))).mono (fun V' _ _ ⟨a11, k11, e1, h11⟩ => ⟨⟨a11, k11⟩, e1, h11⟩)) ?_
  rintro V12 ⟨a11, k11⟩ hv12 hg12
  have h11 : SlAt (cInt .i64) V12 a11 k11 x10 := gslat1 hx10 (fun gg0 => (hg12 gg0))
  have h13 := SlAt.mono h2 hv12
  have h14 := SlAt.mono h4 hv12
  have h15 := SlAt.mono h7 hv12
  have h16 := SlAt.mono h8 hv12
  refine Exec.run tyOk 400 rfl ?_
  obtain ⟨x17, hx17, hF⟩ := bnd_some hF
  refine Exec.callS (.bool (x17)) rfl rfl (fun gg0 => W_clockworkref30_Has x10 x3.Node h11 (gcall_some hx17 (gd1_of gg0))) ?_
  refine Exec.run tyOk 400 rfl ?_
  rcases cond_some hF with ⟨hb, hF⟩ | ⟨hb, hF⟩
  · skip
    refine Exec.ifT rfl hb ?_
    refine Exec.run tyOk 400 rfl ?_
    obtain rfl := some_inj hF
    exact Exec.ret tyOk rfl rfl ⟨_, _, rfl, SlAt.nil⟩
  · skip
    refine Exec.ifF rfl hb ?_
    refine Exec.run tyOk 10 rfl ?_
    refine Exec.row0 9 1 rfl ?_
    have h18 : RowRep cStr V12 ([] : List Str) [] := RowRep.nil
    obtain ⟨J21, hJ21, hF⟩ := jn_some hF
    refine Exec.seam (fun L' V' M' => ∃ (x20 : List Str) (a19 : Option Addr) (k19 : Nat) (cs19 : List Value), L' = [(2, .v (.int .i64 (x5))), (4, .ptr 0 0), (5, .ptr 1 0), (7, .ptr 2 0), (9, .v (.slice a19 ((x20).length) (k19)))] ∧ M' = [.blk [.v (.int .i64 (x1.Version)), .v (.slice a2 ((x1.Parts).length) (k2))] 24, .blk [.v (.int .i64 (x3.Node)), .v (.slice a4 ((x3.Pairs).length) (k4))] 40, .blk [.v (.bool (x6.All)), .v (.slice a7 ((x6.Reads).length) (k7)), .v (.slice a8 ((x6.Writes).length) (k8))] 27, .row (.slice a19 ((x20).length) (k19)) cs19 9 1] ∧ RowRep cStr V' x20 cs19 ∧ SlAt cTPart V' a2 k2 x1.Parts ∧ SlAt cTPair V' a4 k4 x3.Pairs ∧ SlAt cStr V' a7 k7 x6.Reads ∧ SlAt cStr V' a8 k8 x6.Writes ∧ J21 x20 = some r) rfl ?_ ?_
    · rintro L' V22 M' ⟨x20, a19, k19, cs19, rfl, rfl, h19, h23, h24, h25, h26, hF⟩
      subst hJ21
      refine Exec.run tyOk 400 rfl ?_
      obtain ⟨x27, hx27, hF⟩ := bnd_some hF
      refine Exec.call rfl rfl (W_clockworkref30_Executors x1 x6 h23 h25 h26 hx27) ?_
      rintro V29 _ hv29 ⟨a28, k28, rfl, h28⟩
      have h30 := SlAt.mono h23 hv29
      have h31 := SlAt.mono h25 hv29
      have h32 := SlAt.mono h26 hv29
      have h33 := SlAt.mono h24 hv29
      have h34 := RowRep.mono hv29 h19
      refine Exec.run tyOk 11 rfl ?_
      refine Exec.frz 3 rfl rfl rfl (fun V121 hv121 hd121 hn121 => ?_)
      have hz121 := RowRep.slat h34 hv121 hd121 hn121
      have h122 := SlAt.mono h28 hv121
      have h123 := SlAt.mono h30 hv121
      have h124 := SlAt.mono h31 hv121
      have h125 := SlAt.mono h32 hv121
      have h126 := SlAt.mono h33 hv121
      refine Exec.row0 50 5 rfl ?_
      have h127 : RowRep cTMail V121 ([] : List TMail) [] := RowRep.nil
      obtain ⟨J130, hJ130, hF⟩ := jn_some hF
      refine Exec.seam (fun L' V' M' => ∃ (x129 : List TMail) (a128 : Option Addr) (k128 : Nat) (cs128 : List Value), L' = [(12, .v (.slice a128 ((x129).length) (k128)))] ∧ M' = [.blk [.v (.int .i64 (x1.Version)), .v (.slice a2 ((x1.Parts).length) (k2))] 24, .blk [.v (.int .i64 (x3.Node)), .v (.slice a4 ((x3.Pairs).length) (k4))] 40, .blk [.v (.bool (x6.All)), .v (.slice a7 ((x6.Reads).length) (k7)), .v (.slice a8 ((x6.Writes).length) (k8))] 27, .unk, .row (.slice a128 ((x129).length) (k128)) cs128 50 5] ∧ RowRep cTMail V' x129 cs128 ∧ SlAt cTPart V' a2 k2 x1.Parts ∧ SlAt cTPair V' a4 k4 x3.Pairs ∧ SlAt cStr V' a7 k7 x6.Reads ∧ SlAt cStr V' a8 k8 x6.Writes ∧ J130 x129 = some r) rfl ?_ ?_
      · rintro L' V131 M' ⟨x129, a128, k128, cs128, rfl, rfl, h128, h132, h133, h134, h135, hF⟩
        subst hJ130
        refine Exec.run tyOk 400 rfl ?_
        refine Exec.frz 4 rfl rfl rfl (fun V136 hv136 hd136 hn136 => ?_)
        have hz136 := RowRep.slat h128 hv136 hd136 hn136
        have h137 := SlAt.mono h132 hv136
        have h138 := SlAt.mono h133 hv136
        have h139 := SlAt.mono h134 hv136
        have h140 := SlAt.mono h135 hv136
        obtain rfl := some_inj hF
        exact Exec.ret tyOk rfl rfl ⟨_, _, rfl, hz136⟩
      · skip
        refine Exec.run tyOk 400 rfl ?_
        refine Exec.loop (fun n144 L' V' M' => ∃ (x142 : List TMail) (a141 : Option Addr) (k141 : Nat) (cs141 : List Value) (x143 : Int), L' = [(2, .v (.int .i64 (x5))), (4, .ptr 0 0), (5, .ptr 1 0), (7, .ptr 2 0), (9, .v (.slice a19 ((x20).length) (k19))), (11, .v (.slice a28 ((x27).length) (k28))), (12, .v (.slice a141 ((x142).length) (k141))), (13, .v (.int .i64 (x143)))] ∧ M' = [.blk [.v (.int .i64 (x1.Version)), .v (.slice a2 ((x1.Parts).length) (k2))] 24, .blk [.v (.int .i64 (x3.Node)), .v (.slice a4 ((x3.Pairs).length) (k4))] 40, .blk [.v (.bool (x6.All)), .v (.slice a7 ((x6.Reads).length) (k7)), .v (.slice a8 ((x6.Writes).length) (k8))] 27, .unk, .row (.slice a141 ((x142).length) (k141)) cs141 50 5] ∧ RowRep cTMail V' x142 cs141 ∧ SlAt cStr V' a19 k19 x20 ∧ SlAt (cInt .i64) V' a28 k28 x27 ∧ SlAt cTPart V' a2 k2 x1.Parts ∧ SlAt cTPair V' a4 k4 x3.Pairs ∧ SlAt cStr V' a7 k7 x6.Reads ∧ SlAt cStr V' a8 k8 x6.Writes ∧ F_clockworkref31_Send_L1 x27 x1 x3 x6 x5 x20 J130 n144 x142 x143 = some r) ⟨(((((x27).length : Nat) : Int)).toNat + 1), [(2, .v (.int .i64 (x5))), (4, .ptr 0 0), (5, .ptr 1 0), (7, .ptr 2 0), (9, .v (.slice a19 ((x20).length) (k19))), (11, .v (.slice a28 ((x27).length) (k28))), (12, .v (.slice none ((([] : List TMail)).length) (0))), (13, .v (.int .i64 ((0 : Int))))], ⟨rfl, rfl, rfl, rfl, rfl, rfl, rfl, rfl, trivial⟩, ([] : List TMail), none, 0, [], (0 : Int), rfl, rfl, h127, hz121, h122, h123, h126, h124, h125, hF⟩ ?_
        rintro n144 L' V145 M' ⟨x142, a141, k141, cs141, x143, rfl, rfl, h141, h146, h147, h148, h149, h150, h151, hF⟩
        rcases n144 with _ | n144
        · exact absurd hF (by simp [F_clockworkref31_Send_L1])
        rw [F_clockworkref31_Send_L1] at hF
        refine Exec.run tyOk 400 rfl ?_
        rcases cond_some hF with ⟨hb, hF⟩ | ⟨hb, hF⟩
        · skip
          refine Exec.ifT rfl hb ?_
          refine Exec.run tyOk 400 rfl ?_
          refine Exec.drawsE tyOk [15] [] [(0, true), (1, true), (2, true), (3, true), (4, true), (5, true), (6, true), (7, true), (8, true), (9, true), (10, true), (11, true), (12, false), (13, true), (14, false), (15, false), (16, false)] (by kernel_rfl) ?_
          refine Exec.run tyOk 400 rfl ?_
          obtain ⟨q152, hF⟩ := req_some hF
          obtain ⟨c153, hr153, hd153⟩ := SlAt.get h147 q152
          obtain rfl := hr153
          refine Exec.fia tyOk rfl rfl rfl ⟨q152.1, q152.2, hd153.some⟩ ?_
          refine Exec.run tyOk 400 rfl ?_
          refine Exec.fld tyOk (x := .int .i64 ((atI x27 x143))) rfl rfl rfl hd153 rfl rfl ?_
          refine Exec.run tyOk 400 rfl ?_
          obtain ⟨x154, hx154, hF⟩ := bnd_some hF
          refine Exec.call rfl rfl (W_clockworkref31_Local x1 x3 x6 h148 h149 h150 h151 hx154) ?_
          rintro V156 _ hv156 ⟨a155, k155, rfl, h155⟩
          have h157 := SlAt.mono h146 hv156
          have h158 := SlAt.mono h147 hv156
          have h160 := SlAt.mono h148 hv156
          have h161 := SlAt.mono h149 hv156
          have h162 := SlAt.mono h150 hv156
          have h163 := SlAt.mono h151 hv156
          have h164 := RowRep.mono hv156 h141
          refine Exec.run tyOk 400 rfl ?_
          refine Exec.bsl tyOk rfl rfl ?_
          refine Exec.run tyOk 400 rfl ?_
          obtain ⟨q166, hF⟩ := req_some hF
          refine Exec.app tyOk 4 5 (nm := ((x142 ++ [(⟨x5, x3.Node, (atI x27 x143), x20, x154⟩ : TMail)])).length) rfl rfl rfl rfl rfl rfl rfl rfl rfl (by simp) (fun _ _ => rfl) rfl q166 (fun a165 k165 => ?_)
          have h165 : RowRep cTMail V156 (x142 ++ [(⟨x5, x3.Node, (atI x27 x143), x20, x154⟩ : TMail)]) (cs141 ++ [.int .i64 (x5), .int .i64 (x3.Node), .int .i64 ((atI x27 x143)), .slice a19 ((x20).length) (k19), .slice a155 ((x154).length) (k155)]) := RowRep.app h164 ⟨_, _, rfl, ⟨_, _, _, _, rfl, h157, h155⟩, rfl⟩
          refine Exec.run tyOk 400 rfl ?_
          refine Exec.cut 5 [(2, .v (.int .i64 (x5))), (4, .ptr 0 0), (5, .ptr 1 0), (7, .ptr 2 0), (9, .v (.slice a19 ((x20).length) (k19))), (11, .v (.slice a28 ((x27).length) (k28))), (12, .v (.slice a165 (((x142 ++ [(⟨x5, x3.Node, (atI x27 x143), x20, x154⟩ : TMail)])).length) (k165))), (13, .v (.int .i64 ((IntKind.i64.wrap (x143 + (1 : Int))))))] (M' := [.blk [.v (.int .i64 (x1.Version)), .v (.slice a2 ((x1.Parts).length) (k2))] 24, .blk [.v (.int .i64 (x3.Node)), .v (.slice a4 ((x3.Pairs).length) (k4))] 40, .blk [.v (.bool (x6.All)), .v (.slice a7 ((x6.Reads).length) (k7)), .v (.slice a8 ((x6.Writes).length) (k8))] 27, .unk, .row (.slice a165 (((x142 ++ [(⟨x5, x3.Node, (atI x27 x143), x20, x154⟩ : TMail)])).length) (k165)) ((cs141 ++ [.int .i64 (x5), .int .i64 (x3.Node), .int .i64 ((atI x27 x143)), .slice a19 ((x20).length) (k19), .slice a155 ((x154).length) (k155)])) 50 5]) rfl ⟨rfl, rfl, rfl, rfl, rfl, rfl, rfl, rfl, trivial⟩ rfl rfl rfl ?_
          exact Exec.round [(2, .v (.int .i64 (x5))), (4, .ptr 0 0), (5, .ptr 1 0), (7, .ptr 2 0), (9, .v (.slice a19 ((x20).length) (k19))), (11, .v (.slice a28 ((x27).length) (k28))), (12, .v (.slice a165 (((x142 ++ [(⟨x5, x3.Node, (atI x27 x143), x20, x154⟩ : TMail)])).length) (k165))), (13, .v (.int .i64 ((IntKind.i64.wrap (x143 + (1 : Int))))))] ⟨rfl, rfl, rfl, rfl, rfl, rfl, rfl, rfl, trivial⟩ ⟨n144, Nat.lt_succ_self _, (x142 ++ [(⟨x5, x3.Node, (atI x27 x143), x20, x154⟩ : TMail)]), a165, k165, (cs141 ++ [.int .i64 (x5), .int .i64 (x3.Node), .int .i64 ((atI x27 x143)), .slice a19 ((x20).length) (k19), .slice a155 ((x154).length) (k155)]), (IntKind.i64.wrap (x143 + (1 : Int))), rfl, rfl, h165, h157, h158, h160, h161, h162, h163, hF⟩
        · skip
          refine Exec.ifF rfl hb ?_
          refine Exec.run tyOk 400 rfl ?_
          exact Exec.round [(12, .v (.slice a141 ((x142).length) (k141)))] ⟨rfl, trivial⟩ ⟨x142, a141, k141, cs141, rfl, rfl, h141, h148, h149, h150, h151, hF⟩
    · skip
      refine Exec.run tyOk 400 rfl ?_
      refine Exec.loop (fun n170 L' V' M' => ∃ (x168 : List Str) (a167 : Option Addr) (k167 : Nat) (cs167 : List Value) (x169 : Int), L' = [(2, .v (.int .i64 (x5))), (4, .ptr 0 0), (5, .ptr 1 0), (7, .ptr 2 0), (9, .v (.slice a167 ((x168).length) (k167))), (10, .v (.int .i64 (x169)))] ∧ M' = [.blk [.v (.int .i64 (x1.Version)), .v (.slice a2 ((x1.Parts).length) (k2))] 24, .blk [.v (.int .i64 (x3.Node)), .v (.slice a4 ((x3.Pairs).length) (k4))] 40, .blk [.v (.bool (x6.All)), .v (.slice a7 ((x6.Reads).length) (k7)), .v (.slice a8 ((x6.Writes).length) (k8))] 27, .row (.slice a167 ((x168).length) (k167)) cs167 9 1] ∧ RowRep cStr V' x168 cs167 ∧ SlAt cTPart V' a2 k2 x1.Parts ∧ SlAt cTPair V' a4 k4 x3.Pairs ∧ SlAt cStr V' a7 k7 x6.Reads ∧ SlAt cStr V' a8 k8 x6.Writes ∧ F_clockworkref31_Send_L2 x6 x1 x3 J21 n170 x168 x169 = some r) ⟨(((((x6.Reads).length : Nat) : Int)).toNat + 1), [(2, .v (.int .i64 (x5))), (4, .ptr 0 0), (5, .ptr 1 0), (7, .ptr 2 0), (9, .v (.slice none ((([] : List Str)).length) (0))), (10, .v (.int .i64 ((0 : Int))))], ⟨rfl, rfl, rfl, rfl, rfl, rfl, trivial⟩, ([] : List Str), none, 0, [], (0 : Int), rfl, rfl, h18, h13, h14, h15, h16, hF⟩ ?_
      rintro n170 L' V171 M' ⟨x168, a167, k167, cs167, x169, rfl, rfl, h167, h172, h173, h174, h175, hF⟩
      rcases n170 with _ | n170
      · exact absurd hF (by simp [F_clockworkref31_Send_L2])
      rw [F_clockworkref31_Send_L2] at hF
      refine Exec.run tyOk 400 rfl ?_
      rcases cond_some hF with ⟨hb, hF⟩ | ⟨hb, hF⟩
      · skip
        refine Exec.ifT rfl hb ?_
        refine Exec.run tyOk 400 rfl ?_
        refine Exec.draws tyOk [(0, true), (1, true), (2, true), (3, true), (4, true), (5, true), (7, true), (8, true), (6, false), (9, false)] rfl (by kernel_rfl) ?_
        refine Exec.run tyOk 400 rfl ?_
        obtain ⟨q176, hF⟩ := req_some hF
        obtain ⟨c177, hr177, hd177⟩ := SlAt.get h174 q176
        obtain rfl := hr177
        refine Exec.fia tyOk rfl rfl rfl ⟨q176.1, q176.2, hd177.some⟩ ?_
        refine Exec.run tyOk 400 rfl ?_
        refine Exec.fld tyOk (x := .string ⟨⟨(atI x6.Reads x169)⟩⟩) rfl rfl rfl hd177 rfl rfl ?_
        refine Exec.run tyOk 400 rfl ?_
        obtain ⟨x178, hx178, hF⟩ := bnd_some hF
        refine Exec.callS (.int .i64 (x178)) rfl rfl (W_clockworkref29_Owner x1 ((atI x6.Reads x169)) h172 hx178) ?_
        refine Exec.run tyOk 400 rfl ?_
        obtain ⟨J181, hJ181, hF⟩ := jn_some hF
        refine Exec.seam (fun L' V' M' => ∃ (x180 : List Str) (a179 : Option Addr) (k179 : Nat) (cs179 : List Value), L' = [(2, .v (.int .i64 (x5))), (4, .ptr 0 0), (5, .ptr 1 0), (7, .ptr 2 0), (9, .v (.slice a179 ((x180).length) (k179))), (10, .v (.int .i64 (x169)))] ∧ M' = [.blk [.v (.int .i64 (x1.Version)), .v (.slice a2 ((x1.Parts).length) (k2))] 24, .blk [.v (.int .i64 (x3.Node)), .v (.slice a4 ((x3.Pairs).length) (k4))] 40, .blk [.v (.bool (x6.All)), .v (.slice a7 ((x6.Reads).length) (k7)), .v (.slice a8 ((x6.Writes).length) (k8))] 27, .row (.slice a179 ((x180).length) (k179)) cs179 9 1] ∧ RowRep cStr V' x180 cs179 ∧ SlAt cTPart V' a2 k2 x1.Parts ∧ SlAt cTPair V' a4 k4 x3.Pairs ∧ SlAt cStr V' a7 k7 x6.Reads ∧ SlAt cStr V' a8 k8 x6.Writes ∧ J181 x180 = some r) rfl ?_ ?_
        · rintro L' V182 M' ⟨x180, a179, k179, cs179, rfl, rfl, h179, h183, h184, h185, h186, hF⟩
          subst hJ181
          refine Exec.run tyOk 400 rfl ?_
          exact Exec.round [(2, .v (.int .i64 (x5))), (4, .ptr 0 0), (5, .ptr 1 0), (7, .ptr 2 0), (9, .v (.slice a179 ((x180).length) (k179))), (10, .v (.int .i64 ((IntKind.i64.wrap (x169 + (1 : Int))))))] ⟨rfl, rfl, rfl, rfl, rfl, rfl, trivial⟩ ⟨n170, Nat.lt_succ_self _, x180, a179, k179, cs179, (IntKind.i64.wrap (x169 + (1 : Int))), rfl, rfl, h179, h183, h184, h185, h186, hF⟩
        · skip
          refine Exec.run tyOk 400 rfl ?_
          rcases cond_some hF with ⟨hb, hF⟩ | ⟨hb, hF⟩
          · skip
            refine Exec.ifT rfl hb ?_
            refine Exec.run tyOk 400 rfl ?_
            obtain ⟨q187, hF⟩ := req_some hF
            obtain ⟨c188, hr188, hd188⟩ := SlAt.get h174 q187
            obtain rfl := hr188
            refine Exec.ia tyOk rfl rfl ⟨q187.1, q187.2, hd188.some⟩ ?_
            refine Exec.run tyOk 400 rfl ?_
            refine Exec.ld tyOk (x := .string ⟨⟨(atI x6.Reads x169)⟩⟩) rfl rfl hd188 rfl rfl ?_
            refine Exec.run tyOk 400 rfl ?_
            refine Exec.bsl tyOk rfl rfl ?_
            refine Exec.run tyOk 400 rfl ?_
            obtain ⟨q190, hF⟩ := req_some hF
            refine Exec.app tyOk 3 4 (nm := ((x168 ++ [(atI x6.Reads x169)])).length) rfl rfl rfl rfl rfl rfl rfl rfl rfl (by simp) (fun _ _ => rfl) rfl q190 (fun a189 k189 => ?_)
            have h189 : RowRep cStr V171 (x168 ++ [(atI x6.Reads x169)]) (cs167 ++ [.string ⟨⟨(atI x6.Reads x169)⟩⟩]) := RowRep.app h167 ⟨_, _, rfl, rfl, rfl⟩
            refine Exec.run tyOk 400 rfl ?_
            refine Exec.cut 4 [(2, .v (.int .i64 (x5))), (4, .ptr 0 0), (5, .ptr 1 0), (7, .ptr 2 0), (9, .v (.slice a189 (((x168 ++ [(atI x6.Reads x169)])).length) (k189))), (10, .v (.int .i64 (x169)))] (M' := [.blk [.v (.int .i64 (x1.Version)), .v (.slice a2 ((x1.Parts).length) (k2))] 24, .blk [.v (.int .i64 (x3.Node)), .v (.slice a4 ((x3.Pairs).length) (k4))] 40, .blk [.v (.bool (x6.All)), .v (.slice a7 ((x6.Reads).length) (k7)), .v (.slice a8 ((x6.Writes).length) (k8))] 27, .row (.slice a189 (((x168 ++ [(atI x6.Reads x169)])).length) (k189)) ((cs167 ++ [.string ⟨⟨(atI x6.Reads x169)⟩⟩])) 9 1]) rfl ⟨rfl, rfl, rfl, rfl, rfl, rfl, trivial⟩ rfl rfl rfl ?_
            exact Exec.round [(2, .v (.int .i64 (x5))), (4, .ptr 0 0), (5, .ptr 1 0), (7, .ptr 2 0), (9, .v (.slice a189 (((x168 ++ [(atI x6.Reads x169)])).length) (k189))), (10, .v (.int .i64 (x169)))] ⟨rfl, rfl, rfl, rfl, rfl, rfl, trivial⟩ ⟨(x168 ++ [(atI x6.Reads x169)]), a189, k189, (cs167 ++ [.string ⟨⟨(atI x6.Reads x169)⟩⟩]), rfl, rfl, h189, h172, h173, h174, h175, hF⟩
          · skip
            refine Exec.ifF rfl hb ?_
            refine Exec.run tyOk 400 rfl ?_
            exact Exec.round [(2, .v (.int .i64 (x5))), (4, .ptr 0 0), (5, .ptr 1 0), (7, .ptr 2 0), (9, .v (.slice a167 ((x168).length) (k167))), (10, .v (.int .i64 (x169)))] ⟨rfl, rfl, rfl, rfl, rfl, rfl, trivial⟩ ⟨x168, a167, k167, cs167, rfl, rfl, h167, h172, h173, h174, h175, hF⟩
      · skip
        refine Exec.ifF rfl hb ?_
        refine Exec.run tyOk 400 rfl ?_
        exact Exec.round [(2, .v (.int .i64 (x5))), (4, .ptr 0 0), (5, .ptr 1 0), (7, .ptr 2 0), (9, .v (.slice a167 ((x168).length) (k167)))] ⟨rfl, rfl, rfl, rfl, rfl, trivial⟩ ⟨x168, a167, k167, cs167, rfl, rfl, h167, h172, h173, h174, h175, hF⟩

def F_clockworkref31_Complete_L2 (x8 : List TMail) (x6 : Int) (x21 : Int) (x12 : List Int) (x7 : Int) (J27 : Bool → Option Bool) : Nat → Bool → Int → Option Bool
  | 0, _, _ => none
  | n33 + 1, x31, x32 => (cond (decide (x32 < (((x8).length : Nat) : Int))) (req (((x31) == false) = true → 0 ≤ x32 ∧ x32 < ((x8).length : Int)) (req ((((((cond ((x31) == false) (atI x8 x32) default).Txn == x6)) == true) && ((x31) == false)) = true → 0 ≤ x32 ∧ x32 < ((x8).length : Int)) (req ((((((cond ((x31) == false) (atI x8 x32) default).Txn == x6)) == true) && ((x31) == false)) = true → 0 ≤ x21 ∧ x21 < ((x12).length : Int)) (req (((((((cond ((x31) == false) (atI x8 x32) default).Txn == x6) && ((cond (((((cond ((x31) == false) (atI x8 x32) default).Txn == x6)) == true) && ((x31) == false)) (atI x8 x32) default).From == (cond (((((cond ((x31) == false) (atI x8 x32) default).Txn == x6)) == true) && ((x31) == false)) (atI x12 x21) default)))) == true) && ((x31) == false)) = true → 0 ≤ x32 ∧ x32 < ((x8).length : Int)) (F_clockworkref31_Complete_L2 x8 x6 x21 x12 x7 J27 n33 ((x31 || ((((cond ((x31) == false) (atI x8 x32) default).Txn == x6) && ((cond (((((cond ((x31) == false) (atI x8 x32) default).Txn == x6)) == true) && ((x31) == false)) (atI x8 x32) default).From == (cond (((((cond ((x31) == false) (atI x8 x32) default).Txn == x6)) == true) && ((x31) == false)) (atI x12 x21) default))) && ((cond ((((((cond ((x31) == false) (atI x8 x32) default).Txn == x6) && ((cond (((((cond ((x31) == false) (atI x8 x32) default).Txn == x6)) == true) && ((x31) == false)) (atI x8 x32) default).From == (cond (((((cond ((x31) == false) (atI x8 x32) default).Txn == x6)) == true) && ((x31) == false)) (atI x12 x21) default)))) == true) && ((x31) == false)) (atI x8 x32) default).To == x7)))) ((IntKind.i64.wrap (x32 + (1 : Int))))))))) (J27 x31))

def F_clockworkref31_Complete_L1 (x12 : List Int) (x8 : List TMail) (x6 : Int) (x7 : Int) (J19 : Option Bool) : Nat → Int → Option Bool
  | 0, _ => none
  | n22 + 1, x21 => (cond (decide (x21 < (((x12).length : Nat) : Int))) (jn (fun (x26 : Bool) => (cond (!x26) (some false) (F_clockworkref31_Complete_L1 x12 x8 x6 x7 J19 n22 ((IntKind.i64.wrap (x21 + (1 : Int))))))) (fun J27 => (F_clockworkref31_Complete_L2 x8 x6 x21 x12 x7 J27 (((((x8).length : Nat) : Int)).toNat + 1) false ((0 : Int))))) J19)

def F_clockworkref31_Complete (x1 : TPlacement) (x3 : TFootprint) (x6 : Int) (x7 : Int) (x8 : List TMail) : Option Bool :=
  (bnd (F_clockworkref29_Valid x1) fun x10 => (bnd (gcall (((!x10)) == false) (F_clockworkref19_Valid x3)) fun x11 => (cond ((!x10) || (!x11)) (some false) (bnd (F_clockworkref30_Nodes x1 x3) fun x12 => (jn ((some true)) (fun J19 => (F_clockworkref31_Complete_L1 x12 x8 x6 x7 J19 (((((x12).length : Nat) : Int)).toNat + 1) ((0 : Int)))))))))

set_option maxRecDepth 100000 in
theorem W_clockworkref31_Complete {V : View} (x1 : TPlacement) (x3 : TFootprint) (x6 : Int) (x7 : Int) (x8 : List TMail) {a2 : Option Addr} {k2 : Nat} {a4 : Option Addr} {k4 : Nat} {a5 : Option Addr} {k5 : Nat} {a9 : Option Addr} {k9 : Nat} (h2 : SlAt cTPart V a2 k2 x1.Parts) (h4 : SlAt cStr V a4 k4 x3.Reads) (h5 : SlAt cStr V a5 k5 x3.Writes) (h9 : SlAt cTMail V a9 k9 x8) {r : Bool} (hF : F_clockworkref31_Complete x1 x3 x6 x7 x8 = some r) :
    Spec Tryz.prog 29 [.agg ⟨[.int .i64 (x1.Version), .slice a2 ((x1.Parts).length) (k2)]⟩, .agg ⟨[.bool (x3.All), .slice a4 ((x3.Reads).length) (k4), .slice a5 ((x3.Writes).length) (k5)]⟩, .int .i64 (x6), .int .i64 (x7), .slice a9 ((x8).length) (k9)] V (fun _ v => v = .bool (r)) := by
  unfold F_clockworkref31_Complete at hF
  refine Spec.enter (T := tyT) Tryz.func29 rfl (by kernel_rfl) rfl rfl rfl ?_
  refine Exec.run tyOk 400 rfl ?_
  obtain ⟨x10, hx10, hF⟩ := bnd_some hF
  refine Exec.callS (.bool (x10)) rfl rfl (W_clockworkref29_Valid x1 h2 hx10) ?_
  refine Exec.run tyOk 400 rfl ?_
  obtain ⟨x11, hx11, hF⟩ := bnd_some hF
  refine Exec.callS (.bool (x11)) rfl rfl (fun gg0 => W_clockworkref19_Valid x3 h4 h5 (gcall_some hx11 (gd1_of gg0))) ?_
  refine Exec.run tyOk 400 rfl ?_
  rcases cond_some hF with ⟨hb, hF⟩ | ⟨hb, hF⟩
  · skip
    refine Exec.ifT rfl hb ?_
    refine Exec.run tyOk 400 rfl ?_
    obtain rfl := some_inj hF
    exact Exec.ret tyOk rfl rfl rfl
  · skip
    refine Exec.ifF rfl hb ?_
    refine Exec.run tyOk 400 rfl ?_
    obtain ⟨x12, hx12, hF⟩ := bnd_some hF
    refine Exec.call rfl rfl (W_clockworkref30_Nodes x1 x3 h2 h4 h5 hx12) ?_
    rintro V14 _ hv14 ⟨a13, k13, rfl, h13⟩
    have h15 := SlAt.mono h2 hv14
    have h16 := SlAt.mono h4 hv14
    have h17 := SlAt.mono h5 hv14
    have h18 := SlAt.mono h9 hv14
    refine Exec.run tyOk 7 rfl ?_
    obtain ⟨J19, hJ19, hF⟩ := jn_some hF
    refine Exec.seam (fun L' V' M' => L' = [] ∧ M' = [] ∧ J19 = some r) rfl ?_ ?_
    · rintro L' V20 M' ⟨rfl, rfl, hF⟩
      subst hJ19
      refine Exec.run tyOk 400 rfl ?_
      obtain rfl := some_inj hF
      exact Exec.ret tyOk rfl rfl rfl
    · skip
      refine Exec.run tyOk 400 rfl ?_
      refine Exec.cut 0 [(2, .v (.int .i64 (x6))), (3, .v (.int .i64 (x7))), (4, .v (.slice a9 ((x8).length) (k9))), (11, .v (.slice a13 ((x12).length) (k13))), (12, .v (.int .i64 ((0 : Int))))] (M' := []) rfl ⟨rfl, rfl, rfl, rfl, rfl, trivial⟩ rfl rfl rfl ?_
      refine Exec.loop (fun n22 L' V' M' => ∃ (x21 : Int), L' = [(2, .v (.int .i64 (x6))), (3, .v (.int .i64 (x7))), (4, .v (.slice a9 ((x8).length) (k9))), (11, .v (.slice a13 ((x12).length) (k13))), (12, .v (.int .i64 (x21)))] ∧ M' = [] ∧ SlAt cTMail V' a9 k9 x8 ∧ SlAt (cInt .i64) V' a13 k13 x12 ∧ F_clockworkref31_Complete_L1 x12 x8 x6 x7 J19 n22 x21 = some r) ⟨(((((x12).length : Nat) : Int)).toNat + 1), [(2, .v (.int .i64 (x6))), (3, .v (.int .i64 (x7))), (4, .v (.slice a9 ((x8).length) (k9))), (11, .v (.slice a13 ((x12).length) (k13))), (12, .v (.int .i64 ((0 : Int))))], ⟨rfl, rfl, rfl, rfl, rfl, trivial⟩, (0 : Int), rfl, rfl, h18, h13, hF⟩ ?_
      rintro n22 L' V23 M' ⟨x21, rfl, rfl, h24, h25, hF⟩
      rcases n22 with _ | n22
      · exact absurd hF (by simp [F_clockworkref31_Complete_L1])
      rw [F_clockworkref31_Complete_L1] at hF
      refine Exec.run tyOk 400 rfl ?_
      rcases cond_some hF with ⟨hb, hF⟩ | ⟨hb, hF⟩
      · skip
        refine Exec.ifT rfl hb ?_
        refine Exec.run tyOk 12 rfl ?_
        obtain ⟨J27, hJ27, hF⟩ := jn_some hF
        refine Exec.seam (fun L' V' M' => ∃ (x26 : Bool), L' = [(2, .v (.int .i64 (x6))), (3, .v (.int .i64 (x7))), (4, .v (.slice a9 ((x8).length) (k9))), (11, .v (.slice a13 ((x12).length) (k13))), (12, .v (.int .i64 (x21))), (13, .v (.bool (x26)))] ∧ M' = [] ∧ SlAt cTMail V' a9 k9 x8 ∧ SlAt (cInt .i64) V' a13 k13 x12 ∧ J27 x26 = some r) rfl ?_ ?_
        · rintro L' V28 M' ⟨x26, rfl, rfl, h29, h30, hF⟩
          subst hJ27
          refine Exec.run tyOk 400 rfl ?_
          rcases cond_some hF with ⟨hb, hF⟩ | ⟨hb, hF⟩
          · skip
            refine Exec.ifT rfl hb ?_
            refine Exec.run tyOk 400 rfl ?_
            obtain rfl := some_inj hF
            exact Exec.ret tyOk rfl rfl rfl
          · skip
            refine Exec.ifF rfl hb ?_
            refine Exec.run tyOk 400 rfl ?_
            exact Exec.round [(2, .v (.int .i64 (x6))), (3, .v (.int .i64 (x7))), (4, .v (.slice a9 ((x8).length) (k9))), (11, .v (.slice a13 ((x12).length) (k13))), (12, .v (.int .i64 ((IntKind.i64.wrap (x21 + (1 : Int))))))] ⟨rfl, rfl, rfl, rfl, rfl, trivial⟩ ⟨n22, Nat.lt_succ_self _, (IntKind.i64.wrap (x21 + (1 : Int))), rfl, rfl, h29, h30, hF⟩
        · skip
          refine Exec.run tyOk 400 rfl ?_
          refine Exec.loop (fun n33 L' V' M' => ∃ (x31 : Bool) (x32 : Int), L' = [(2, .v (.int .i64 (x6))), (3, .v (.int .i64 (x7))), (4, .v (.slice a9 ((x8).length) (k9))), (11, .v (.slice a13 ((x12).length) (k13))), (12, .v (.int .i64 (x21))), (13, .v (.bool (x31))), (14, .v (.int .i64 (x32)))] ∧ M' = [] ∧ SlAt cTMail V' a9 k9 x8 ∧ SlAt (cInt .i64) V' a13 k13 x12 ∧ F_clockworkref31_Complete_L2 x8 x6 x21 x12 x7 J27 n33 x31 x32 = some r) ⟨(((((x8).length : Nat) : Int)).toNat + 1), [(2, .v (.int .i64 (x6))), (3, .v (.int .i64 (x7))), (4, .v (.slice a9 ((x8).length) (k9))), (11, .v (.slice a13 ((x12).length) (k13))), (12, .v (.int .i64 (x21))), (13, .v (.bool (false))), (14, .v (.int .i64 ((0 : Int))))], ⟨rfl, rfl, rfl, rfl, rfl, rfl, rfl, trivial⟩, false, (0 : Int), rfl, rfl, h24, h25, hF⟩ ?_
          rintro n33 L' V34 M' ⟨x31, x32, rfl, rfl, h35, h36, hF⟩
          rcases n33 with _ | n33
          · exact absurd hF (by simp [F_clockworkref31_Complete_L2])
          rw [F_clockworkref31_Complete_L2] at hF
          refine Exec.run tyOk 400 rfl ?_
          rcases cond_some hF with ⟨hb, hF⟩ | ⟨hb, hF⟩
          · skip
            refine Exec.ifT rfl hb ?_
            refine Exec.run tyOk 400 rfl ?_
            refine Exec.draws tyOk [(0, true), (1, true), (2, true), (3, true), (4, true), (5, true), (6, true), (7, true), (8, true), (9, true), (10, true), (11, true), (12, true), (13, true), (14, true), (15, true), (16, true), (17, true), (18, true), (19, true), (20, true), (21, true), (22, true), (23, true), (24, true), (25, true), (26, true), (27, true), (28, true), (29, true), (30, true), (31, true)] rfl (by kernel_rfl) ?_
            refine Exec.run tyOk 400 rfl ?_
            obtain ⟨q37, hF⟩ := req_some hF
            obtain ⟨c38, hr38, hd38⟩ := SlAt.gget ((x31) == false) h35 q37
            obtain ⟨a39, k39, a40, k40, rfl, h39, h40⟩ := hr38
            refine Exec.fia tyOk rfl rfl rfl (fun gg0 => ⟨(q37 (gd1_of gg0)).1, (q37 (gd1_of gg0)).2, (hd38 (gd1_of gg0)).some⟩) ?_
            refine Exec.run tyOk 400 rfl ?_
            refine Exec.fld tyOk (x := .int .i64 ((cond ((x31) == false) (atI x8 x32) default).Txn)) rfl rfl rfl (fun gg0 => (RdAt.part (hd38 (gd1_of gg0)) 0 1 rfl)) rfl rfl ?_
            refine Exec.run tyOk 400 rfl ?_
            obtain ⟨q41, hF⟩ := req_some hF
            obtain ⟨c42, hr42, hd42⟩ := SlAt.gget (((((cond ((x31) == false) (atI x8 x32) default).Txn == x6)) == true) && ((x31) == false)) h35 q41
            obtain ⟨a43, k43, a44, k44, rfl, h43, h44⟩ := hr42
            refine Exec.fia tyOk rfl rfl rfl (fun gg0 gg1 => ⟨(q41 (gd2_of gg0 gg1)).1, (q41 (gd2_of gg0 gg1)).2, (hd42 (gd2_of gg0 gg1)).some⟩) ?_
            refine Exec.run tyOk 400 rfl ?_
            refine Exec.fld tyOk (x := .int .i64 ((cond (((((cond ((x31) == false) (atI x8 x32) default).Txn == x6)) == true) && ((x31) == false)) (atI x8 x32) default).From)) rfl rfl rfl (fun gg0 gg1 => (RdAt.part (hd42 (gd2_of gg0 gg1)) 1 1 rfl)) rfl rfl ?_
            refine Exec.run tyOk 400 rfl ?_
            obtain ⟨q45, hF⟩ := req_some hF
            obtain ⟨c46, hr46, hd46⟩ := SlAt.gget (((((cond ((x31) == false) (atI x8 x32) default).Txn == x6)) == true) && ((x31) == false)) h36 q45
            obtain rfl := hr46
            refine Exec.fia tyOk rfl rfl rfl (fun gg0 gg1 => ⟨(q45 (gd2_of gg0 gg1)).1, (q45 (gd2_of gg0 gg1)).2, (hd46 (gd2_of gg0 gg1)).some⟩) ?_
            refine Exec.run tyOk 400 rfl ?_
            refine Exec.fld tyOk (x := .int .i64 ((cond (((((cond ((x31) == false) (atI x8 x32) default).Txn == x6)) == true) && ((x31) == false)) (atI x12 x21) default))) rfl rfl rfl (fun gg0 gg1 => (hd46 (gd2_of gg0 gg1))) rfl rfl ?_
            refine Exec.run tyOk 400 rfl ?_
            obtain ⟨q47, hF⟩ := req_some hF
            obtain ⟨c48, hr48, hd48⟩ := SlAt.gget ((((((cond ((x31) == false) (atI x8 x32) default).Txn == x6) && ((cond (((((cond ((x31) == false) (atI x8 x32) default).Txn == x6)) == true) && ((x31) == false)) (atI x8 x32) default).From == (cond (((((cond ((x31) == false) (atI x8 x32) default).Txn == x6)) == true) && ((x31) == false)) (atI x12 x21) default)))) == true) && ((x31) == false)) h35 q47
            obtain ⟨a49, k49, a50, k50, rfl, h49, h50⟩ := hr48
            refine Exec.fia tyOk rfl rfl rfl (fun gg0 gg1 => ⟨(q47 (gd2_of gg0 gg1)).1, (q47 (gd2_of gg0 gg1)).2, (hd48 (gd2_of gg0 gg1)).some⟩) ?_
            refine Exec.run tyOk 400 rfl ?_
            refine Exec.fld tyOk (x := .int .i64 ((cond ((((((cond ((x31) == false) (atI x8 x32) default).Txn == x6) && ((cond (((((cond ((x31) == false) (atI x8 x32) default).Txn == x6)) == true) && ((x31) == false)) (atI x8 x32) default).From == (cond (((((cond ((x31) == false) (atI x8 x32) default).Txn == x6)) == true) && ((x31) == false)) (atI x12 x21) default)))) == true) && ((x31) == false)) (atI x8 x32) default).To)) rfl rfl rfl (fun gg0 gg1 => (RdAt.part (hd48 (gd2_of gg0 gg1)) 2 1 rfl)) rfl rfl ?_
            refine Exec.run tyOk 400 rfl ?_
            exact Exec.round [(2, .v (.int .i64 (x6))), (3, .v (.int .i64 (x7))), (4, .v (.slice a9 ((x8).length) (k9))), (11, .v (.slice a13 ((x12).length) (k13))), (12, .v (.int .i64 (x21))), (13, .v (.bool ((x31 || ((((cond ((x31) == false) (atI x8 x32) default).Txn == x6) && ((cond (((((cond ((x31) == false) (atI x8 x32) default).Txn == x6)) == true) && ((x31) == false)) (atI x8 x32) default).From == (cond (((((cond ((x31) == false) (atI x8 x32) default).Txn == x6)) == true) && ((x31) == false)) (atI x12 x21) default))) && ((cond ((((((cond ((x31) == false) (atI x8 x32) default).Txn == x6) && ((cond (((((cond ((x31) == false) (atI x8 x32) default).Txn == x6)) == true) && ((x31) == false)) (atI x8 x32) default).From == (cond (((((cond ((x31) == false) (atI x8 x32) default).Txn == x6)) == true) && ((x31) == false)) (atI x12 x21) default)))) == true) && ((x31) == false)) (atI x8 x32) default).To == x7)))))), (14, .v (.int .i64 ((IntKind.i64.wrap (x32 + (1 : Int))))))] ⟨rfl, rfl, rfl, rfl, rfl, rfl, rfl, trivial⟩ ⟨n33, Nat.lt_succ_self _, (x31 || ((((cond ((x31) == false) (atI x8 x32) default).Txn == x6) && ((cond (((((cond ((x31) == false) (atI x8 x32) default).Txn == x6)) == true) && ((x31) == false)) (atI x8 x32) default).From == (cond (((((cond ((x31) == false) (atI x8 x32) default).Txn == x6)) == true) && ((x31) == false)) (atI x12 x21) default))) && ((cond ((((((cond ((x31) == false) (atI x8 x32) default).Txn == x6) && ((cond (((((cond ((x31) == false) (atI x8 x32) default).Txn == x6)) == true) && ((x31) == false)) (atI x8 x32) default).From == (cond (((((cond ((x31) == false) (atI x8 x32) default).Txn == x6)) == true) && ((x31) == false)) (atI x12 x21) default)))) == true) && ((x31) == false)) (atI x8 x32) default).To == x7))), (IntKind.i64.wrap (x32 + (1 : Int))), rfl, rfl, h35, h36, hF⟩
          · skip
            refine Exec.ifF rfl hb ?_
            refine Exec.run tyOk 400 rfl ?_
            exact Exec.round [(2, .v (.int .i64 (x6))), (3, .v (.int .i64 (x7))), (4, .v (.slice a9 ((x8).length) (k9))), (11, .v (.slice a13 ((x12).length) (k13))), (12, .v (.int .i64 (x21))), (13, .v (.bool (x31)))] ⟨rfl, rfl, rfl, rfl, rfl, rfl, trivial⟩ ⟨x31, rfl, rfl, h35, h36, hF⟩
      · skip
        refine Exec.ifF rfl hb ?_
        refine Exec.run tyOk 400 rfl ?_
        exact Exec.round [] trivial ⟨rfl, rfl, hF⟩

def F_clockworkref31_Collect_L2 (x18 : Int) (x5 : List TMail) (J22 : Option (List TPair × Int)) : Nat → Int → Option (List TPair × Int)
  | 0, _ => none
  | n39 + 1, x38 => (cond (decide (x38 < x18)) (req (0 ≤ x38 ∧ x38 < ((x5).length : Int)) (req (0 ≤ x18 ∧ x18 < ((x5).length : Int)) (cond ((atI x5 x38).From == (atI x5 x18).From) (some (([] : List TPair), (8 : Int))) (F_clockworkref31_Collect_L2 x18 x5 J22 n39 ((IntKind.i64.wrap (x38 + (1 : Int)))))))) J22)

def F_clockworkref31_Collect_L1 (x5 : List TMail) (J14 : (List TPair) → Option (List TPair × Int)) : Nat → (List TPair) → Int → Option (List TPair × Int)
  | 0, _, _ => none
  | n19 + 1, x16, x18 => (cond (decide (x18 < (((x5).length : Nat) : Int))) (jn ((req (0 ≤ x18 ∧ x18 < ((x5).length : Int)) (bnd (F_clockworkref06_Union x16 ((atI x5 x18).Pairs)) fun x30 => (cond (x30.2 != (0 : Int)) (some (([] : List TPair), (8 : Int))) (F_clockworkref31_Collect_L1 x5 J14 n19 x30.1 ((IntKind.i64.wrap (x18 + (1 : Int))))))))) (fun J22 => (F_clockworkref31_Collect_L2 x18 x5 J22 ((x18).toNat + 1) ((0 : Int))))) (J14 x16))

def F_clockworkref31_Collect_L3 (x5 : List TMail) (J9 : Option (List TPair × Int)) : Nat → Int → Option (List TPair × Int)
  | 0, _ => none
  | n52 + 1, x51 => (cond (decide (x51 < (((x5).length : Nat) : Int))) (req (0 ≤ x51 ∧ x51 < ((x5).length : Int)) (bnd (F_clockworkref06_Valid ((atI x5 x51).Pairs)) fun x59 => (cond (!x59) (some (([] : List TPair), (1 : Int))) (F_clockworkref31_Collect_L3 x5 J9 n52 ((IntKind.i64.wrap (x51 + (1 : Int)))))))) J9)

def F_clockworkref31_Collect (x1 : Int) (x2 : Int) (x3 : List TMail) : Option (List TPair × Int) :=
  (bnd (F_clockworkref31_collected x1 x2 x3) fun x5 => (cond ((((x5).length : Nat) : Int) == (0 : Int)) (some (([] : List TPair), (9 : Int))) (jn ((jn (fun (x12 : List TPair) => (some (x12, (0 : Int)))) (fun J14 => (F_clockworkref31_Collect_L1 x5 J14 (((((x5).length : Nat) : Int)).toNat + 1) (([] : List TPair)) ((0 : Int)))))) (fun J9 => (F_clockworkref31_Collect_L3 x5 J9 (((((x5).length : Nat) : Int)).toNat + 1) ((0 : Int)))))))

set_option maxRecDepth 100000 in
theorem W_clockworkref31_Collect {V : View} (x1 : Int) (x2 : Int) (x3 : List TMail) {a4 : Option Addr} {k4 : Nat} (h4 : SlAt cTMail V a4 k4 x3) {r : List TPair × Int} (hF : F_clockworkref31_Collect x1 x2 x3 = some r) :
    Spec Tryz.prog 30 [.int .i64 (x1), .int .i64 (x2), .slice a4 ((x3).length) (k4)] V (fun V' v => ∃ (a60 : Option Addr) (k60 : Nat), v = .tuple ⟨[.slice a60 ((r.1).length) (k60), .int .i64 (r.2)]⟩ ∧ SlAt cTPair V' a60 k60 r.1) := by
  unfold F_clockworkref31_Collect at hF
  refine Spec.enter (T := tyT) Tryz.func30 rfl (by kernel_rfl) rfl rfl rfl ?_
  refine Exec.run tyOk 400 rfl ?_
  obtain ⟨x5, hx5, hF⟩ := bnd_some hF
  refine Exec.call rfl rfl (W_clockworkref31_collected x1 x2 x3 h4 hx5) ?_
  rintro V7 _ hv7 ⟨a6, k6, rfl, h6⟩
  have h8 := SlAt.mono h4 hv7
  refine Exec.run tyOk 400 rfl ?_
  rcases cond_some hF with ⟨hb, hF⟩ | ⟨hb, hF⟩
  · skip
    refine Exec.ifT rfl hb ?_
    refine Exec.run tyOk 400 rfl ?_
    obtain rfl := some_inj hF
    exact Exec.ret tyOk rfl rfl ⟨_, _, rfl, SlAt.nil⟩
  · skip
    refine Exec.ifF rfl hb ?_
    refine Exec.run tyOk 6 rfl ?_
    obtain ⟨J9, hJ9, hF⟩ := jn_some hF
    refine Exec.seam (fun L' V' M' => L' = [(8, .v (.slice a6 ((x5).length) (k6)))] ∧ M' = [] ∧ SlAt cTMail V' a6 k6 x5 ∧ J9 = some r) rfl ?_ ?_
    · rintro L' V10 M' ⟨rfl, rfl, h11, hF⟩
      subst hJ9
      refine Exec.run tyOk 9 rfl ?_
      obtain ⟨J14, hJ14, hF⟩ := jn_some hF
      refine Exec.seam (fun L' V' M' => ∃ (x12 : List TPair) (a13 : Option Addr) (k13 : Nat), L' = [(10, .v (.slice a13 ((x12).length) (k13)))] ∧ M' = [] ∧ SlAt cTPair V' a13 k13 x12 ∧ J14 x12 = some r) rfl ?_ ?_
      · rintro L' V15 M' ⟨x12, a13, k13, rfl, rfl, h13, hF⟩
        subst hJ14
        refine Exec.run tyOk 400 rfl ?_
        obtain rfl := some_inj hF
        exact Exec.ret tyOk rfl rfl ⟨_, _, rfl, h13⟩
      · skip
        refine Exec.run tyOk 400 rfl ?_
        refine Exec.loop (fun n19 L' V' M' => ∃ (x16 : List TPair) (a17 : Option Addr) (k17 : Nat) (x18 : Int), L' = [(8, .v (.slice a6 ((x5).length) (k6))), (10, .v (.slice a17 ((x16).length) (k17))), (11, .v (.int .i64 (x18)))] ∧ M' = [] ∧ SlAt cTPair V' a17 k17 x16 ∧ SlAt cTMail V' a6 k6 x5 ∧ F_clockworkref31_Collect_L1 x5 J14 n19 x16 x18 = some r) ⟨(((((x5).length : Nat) : Int)).toNat + 1), [(8, .v (.slice a6 ((x5).length) (k6))), (10, .v (.slice none (0) (0))), (11, .v (.int .i64 ((0 : Int))))], ⟨rfl, rfl, rfl, trivial⟩, ([] : List TPair), none, 0, (0 : Int), rfl, rfl, SlAt.nil, h11, hF⟩ ?_
        rintro n19 L' V20 M' ⟨x16, a17, k17, x18, rfl, rfl, h17, h21, hF⟩
        rcases n19 with _ | n19
        · exact absurd hF (by simp [F_clockworkref31_Collect_L1])
        rw [F_clockworkref31_Collect_L1] at hF
        refine Exec.run tyOk 400 rfl ?_
        rcases cond_some hF with ⟨hb, hF⟩ | ⟨hb, hF⟩
        · skip
          refine Exec.ifT rfl hb ?_
          refine Exec.run tyOk 8 rfl ?_
          obtain ⟨J22, hJ22, hF⟩ := jn_some hF
          refine Exec.seam (fun L' V' M' => L' = [(8, .v (.slice a6 ((x5).length) (k6))), (10, .v (.slice a17 ((x16).length) (k17))), (11, .v (.int .i64 (x18)))] ∧ M' = [] ∧ SlAt cTMail V' a6 k6 x5 ∧ SlAt cTPair V' a17 k17 x16 ∧ J22 = some r) rfl ?_ ?_
          · rintro L' V23 M' ⟨rfl, rfl, h24, h25, hF⟩
            subst hJ22
            refine Exec.run tyOk 400 rfl ?_
            obtain ⟨q26, hF⟩ := req_some hF
            obtain ⟨c27, hr27, hd27⟩ := SlAt.get h24 q26
            obtain ⟨a28, k28, a29, k29, rfl, h28, h29⟩ := hr27
            refine Exec.ia tyOk rfl rfl ⟨q26.1, q26.2, hd27.some⟩ ?_
            refine Exec.run tyOk 400 rfl ?_
            refine Exec.ld tyOk (x := .slice a29 (((atI x5 x18).Pairs).length) (k29)) rfl rfl (RdAt.part hd27 4 1 rfl) rfl rfl ?_
            refine Exec.run tyOk 400 rfl ?_
            obtain ⟨x30, hx30, hF⟩ := bnd_some hF
            refine Exec.call rfl rfl (W_clockworkref06_Union x16 ((atI x5 x18).Pairs) h25 h29 hx30) ?_
            rintro V32 _ hv32 ⟨a31, k31, rfl, h31⟩
            have h33 := SlAt.mono h24 hv32
            have h34 := SlAt.mono h25 hv32
            have h36 := SlAt.mono h28 hv32
            have h37 := SlAt.mono h29 hv32
            refine Exec.run tyOk 400 rfl ?_
            rcases cond_some hF with ⟨hb, hF⟩ | ⟨hb, hF⟩
            · skip
              refine Exec.ifT rfl hb ?_
              refine Exec.run tyOk 400 rfl ?_
              obtain rfl := some_inj hF
              exact Exec.ret tyOk rfl rfl ⟨_, _, rfl, SlAt.nil⟩
            · skip
              refine Exec.ifF rfl hb ?_
              refine Exec.run tyOk 400 rfl ?_
              exact Exec.round [(8, .v (.slice a6 ((x5).length) (k6))), (10, .v (.slice a31 ((x30.1).length) (k31))), (11, .v (.int .i64 ((IntKind.i64.wrap (x18 + (1 : Int))))))] ⟨rfl, rfl, rfl, trivial⟩ ⟨n19, Nat.lt_succ_self _, x30.1, a31, k31, (IntKind.i64.wrap (x18 + (1 : Int))), rfl, rfl, h31, h33, hF⟩
          · skip
            refine Exec.run tyOk 400 rfl ?_
            refine Exec.loop (fun n39 L' V' M' => ∃ (x38 : Int), L' = [(8, .v (.slice a6 ((x5).length) (k6))), (10, .v (.slice a17 ((x16).length) (k17))), (11, .v (.int .i64 (x18))), (12, .v (.int .i64 (x38)))] ∧ M' = [] ∧ SlAt cTMail V' a6 k6 x5 ∧ SlAt cTPair V' a17 k17 x16 ∧ F_clockworkref31_Collect_L2 x18 x5 J22 n39 x38 = some r) ⟨((x18).toNat + 1), [(8, .v (.slice a6 ((x5).length) (k6))), (10, .v (.slice a17 ((x16).length) (k17))), (11, .v (.int .i64 (x18))), (12, .v (.int .i64 ((0 : Int))))], ⟨rfl, rfl, rfl, rfl, trivial⟩, (0 : Int), rfl, rfl, h21, h17, hF⟩ ?_
            rintro n39 L' V40 M' ⟨x38, rfl, rfl, h41, h42, hF⟩
            rcases n39 with _ | n39
            · exact absurd hF (by simp [F_clockworkref31_Collect_L2])
            rw [F_clockworkref31_Collect_L2] at hF
            refine Exec.run tyOk 400 rfl ?_
            rcases cond_some hF with ⟨hb, hF⟩ | ⟨hb, hF⟩
            · skip
              refine Exec.ifT rfl hb ?_
              refine Exec.run tyOk 400 rfl ?_
              refine Exec.draws tyOk [(0, true), (1, true), (2, true), (3, true), (4, true), (5, true), (6, true), (7, true), (8, true), (9, true), (10, true)] rfl (by kernel_rfl) ?_
              refine Exec.run tyOk 400 rfl ?_
              obtain ⟨q43, hF⟩ := req_some hF
              obtain ⟨c44, hr44, hd44⟩ := SlAt.get h41 q43
              obtain ⟨a45, k45, a46, k46, rfl, h45, h46⟩ := hr44
              refine Exec.fia tyOk rfl rfl rfl ⟨q43.1, q43.2, hd44.some⟩ ?_
              refine Exec.run tyOk 400 rfl ?_
              refine Exec.fld tyOk (x := .int .i64 ((atI x5 x38).From)) rfl rfl rfl (RdAt.part hd44 1 1 rfl) rfl rfl ?_
              refine Exec.run tyOk 400 rfl ?_
              obtain ⟨q47, hF⟩ := req_some hF
              obtain ⟨c48, hr48, hd48⟩ := SlAt.get h41 q47
              obtain ⟨a49, k49, a50, k50, rfl, h49, h50⟩ := hr48
              refine Exec.fia tyOk rfl rfl rfl ⟨q47.1, q47.2, hd48.some⟩ ?_
              refine Exec.run tyOk 400 rfl ?_
              refine Exec.fld tyOk (x := .int .i64 ((atI x5 x18).From)) rfl rfl rfl (RdAt.part hd48 1 1 rfl) rfl rfl ?_
              refine Exec.run tyOk 400 rfl ?_
              rcases cond_some hF with ⟨hb, hF⟩ | ⟨hb, hF⟩
              · skip
                refine Exec.ifT rfl hb ?_
                refine Exec.run tyOk 400 rfl ?_
                obtain rfl := some_inj hF
                exact Exec.ret tyOk rfl rfl ⟨_, _, rfl, SlAt.nil⟩
              · skip
                refine Exec.ifF rfl hb ?_
                refine Exec.run tyOk 400 rfl ?_
                exact Exec.round [(8, .v (.slice a6 ((x5).length) (k6))), (10, .v (.slice a17 ((x16).length) (k17))), (11, .v (.int .i64 (x18))), (12, .v (.int .i64 ((IntKind.i64.wrap (x38 + (1 : Int))))))] ⟨rfl, rfl, rfl, rfl, trivial⟩ ⟨n39, Nat.lt_succ_self _, (IntKind.i64.wrap (x38 + (1 : Int))), rfl, rfl, h41, h42, hF⟩
            · skip
              refine Exec.ifF rfl hb ?_
              refine Exec.run tyOk 400 rfl ?_
              exact Exec.round [(8, .v (.slice a6 ((x5).length) (k6))), (10, .v (.slice a17 ((x16).length) (k17))), (11, .v (.int .i64 (x18)))] ⟨rfl, rfl, rfl, trivial⟩ ⟨rfl, rfl, h41, h42, hF⟩
        · skip
          refine Exec.ifF rfl hb ?_
          refine Exec.run tyOk 400 rfl ?_
          exact Exec.round [(10, .v (.slice a17 ((x16).length) (k17)))] ⟨rfl, trivial⟩ ⟨x16, a17, k17, rfl, rfl, h17, hF⟩
    · skip
      refine Exec.run tyOk 400 rfl ?_
      refine Exec.loop (fun n52 L' V' M' => ∃ (x51 : Int), L' = [(8, .v (.slice a6 ((x5).length) (k6))), (9, .v (.int .i64 (x51)))] ∧ M' = [] ∧ SlAt cTMail V' a6 k6 x5 ∧ F_clockworkref31_Collect_L3 x5 J9 n52 x51 = some r) ⟨(((((x5).length : Nat) : Int)).toNat + 1), [(8, .v (.slice a6 ((x5).length) (k6))), (9, .v (.int .i64 ((0 : Int))))], ⟨rfl, rfl, trivial⟩, (0 : Int), rfl, rfl, h6, hF⟩ ?_
      rintro n52 L' V53 M' ⟨x51, rfl, rfl, h54, hF⟩
      rcases n52 with _ | n52
      · exact absurd hF (by simp [F_clockworkref31_Collect_L3])
      rw [F_clockworkref31_Collect_L3] at hF
      refine Exec.run tyOk 400 rfl ?_
      rcases cond_some hF with ⟨hb, hF⟩ | ⟨hb, hF⟩
      · skip
        refine Exec.ifT rfl hb ?_
        refine Exec.run tyOk 400 rfl ?_
        obtain ⟨q55, hF⟩ := req_some hF
        obtain ⟨c56, hr56, hd56⟩ := SlAt.get h54 q55
        obtain ⟨a57, k57, a58, k58, rfl, h57, h58⟩ := hr56
        refine Exec.ia tyOk rfl rfl ⟨q55.1, q55.2, hd56.some⟩ ?_
        refine Exec.run tyOk 400 rfl ?_
        refine Exec.ld tyOk (x := .slice a58 (((atI x5 x51).Pairs).length) (k58)) rfl rfl (RdAt.part hd56 4 1 rfl) rfl rfl ?_
        refine Exec.run tyOk 400 rfl ?_
        obtain ⟨x59, hx59, hF⟩ := bnd_some hF
        refine Exec.callS (.bool (x59)) rfl rfl (W_clockworkref06_Valid ((atI x5 x51).Pairs) h58 hx59) ?_
        refine Exec.run tyOk 400 rfl ?_
        rcases cond_some hF with ⟨hb, hF⟩ | ⟨hb, hF⟩
        · skip
          refine Exec.ifT rfl hb ?_
          refine Exec.run tyOk 400 rfl ?_
          obtain rfl := some_inj hF
          exact Exec.ret tyOk rfl rfl ⟨_, _, rfl, SlAt.nil⟩
        · skip
          refine Exec.ifF rfl hb ?_
          refine Exec.run tyOk 400 rfl ?_
          exact Exec.round [(8, .v (.slice a6 ((x5).length) (k6))), (9, .v (.int .i64 ((IntKind.i64.wrap (x51 + (1 : Int))))))] ⟨rfl, rfl, trivial⟩ ⟨n52, Nat.lt_succ_self _, (IntKind.i64.wrap (x51 + (1 : Int))), rfl, rfl, h54, hF⟩
      · skip
        refine Exec.ifF rfl hb ?_
        refine Exec.run tyOk 400 rfl ?_
        exact Exec.round [(8, .v (.slice a6 ((x5).length) (k6)))] ⟨rfl, trivial⟩ ⟨rfl, rfl, h54, hF⟩

def F_exchange_Send_L2 (x6 : TFootprint) (x1 : TPlacement) (x3 : TShard) (J92 : (List TMail) → (List Str) → Option (List TMail)) : Nat → (List TMail) → (List Str) → Int → Option (List TMail)
  | 0, _, _, _ => none
  | n115 + 1, x111, x113, x114 => (cond (decide (x114 < (((x6.Reads).length : Nat) : Int))) (req (0 ≤ x114 ∧ x114 < ((x6.Reads).length : Int)) (bnd (F_placement_Owner x1 ((atI x6.Reads x114))) fun x125 => (jn (fun (x127 : List TMail) (x129 : List Str) => (F_exchange_Send_L2 x6 x1 x3 J92 n115 x127 x129 ((IntKind.i64.wrap (x114 + (1 : Int)))))) (fun J130 => (cond (x125 == x3.Node) (req (((x113 ++ [(atI x6.Reads x114)])).length * 16 ≤ 140737488355328) (J130 x111 ((x113 ++ [(atI x6.Reads x114)])))) (J130 x111 x113)))))) (J92 x111 x113))

def F_exchange_Send_L1 (x18 : List Int) (x1 : TPlacement) (x3 : TShard) (x6 : TFootprint) (x5 : Int) (J28 : (List TMail) → Option (List TMail)) : Nat → (List TMail) → Int → Option (List TMail)
  | 0, _, _ => none
  | n42 + 1, x40, x41 => (cond (decide (x41 < (((x18).length : Nat) : Int))) (req (0 ≤ x41 ∧ x41 < ((x18).length : Int)) (bnd (F_exchange_Local x1 x3 x6) fun x51 => (jn (fun (x89 : List TMail) (x91 : List Str) => (req (((x89 ++ [(⟨x5, x3.Node, (atI x18 x41), x91, x51⟩ : TMail)])).length * 72 ≤ 140737488355328) (F_exchange_Send_L1 x18 x1 x3 x6 x5 J28 n42 ((x89 ++ [(⟨x5, x3.Node, (atI x18 x41), x91, x51⟩ : TMail)])) ((IntKind.i64.wrap (x41 + (1 : Int))))))) (fun J92 => (F_exchange_Send_L2 x6 x1 x3 J92 (((((x6.Reads).length : Nat) : Int)).toNat + 1) x40 (([] : List Str)) ((0 : Int))))))) (J28 x40))

def F_exchange_Send (x1 : TPlacement) (x3 : TShard) (x5 : Int) (x6 : TFootprint) : Option (List TMail) :=
  (bnd (F_exchange_valid x1 x3 x6) fun x9 => (bnd (gcall (((!x9)) == false) (F_route_Nodes x1 x6)) fun x10 => (bnd (gcall (((!x9)) == false) (F_slices_Contains_int_int x10 x3.Node)) fun x17 => (cond ((!x9) || (!x17)) (some ([] : List TMail)) (bnd (F_route_Executors x1 x6) fun x18 => (jn (fun (x27 : List TMail) => (some x27)) (fun J28 => (F_exchange_Send_L1 x18 x1 x3 x6 x5 J28 (((((x18).length : Nat) : Int)).toNat + 1) (([] : List TMail)) ((0 : Int))))))))))

set_option maxRecDepth 100000 in
theorem W_exchange_Send {V : View} (x1 : TPlacement) (x3 : TShard) (x5 : Int) (x6 : TFootprint) {a2 : Option Addr} {k2 : Nat} {a4 : Option Addr} {k4 : Nat} {a7 : Option Addr} {k7 : Nat} {a8 : Option Addr} {k8 : Nat} (h2 : SlAt cTPart V a2 k2 x1.Parts) (h4 : SlAt cTPair V a4 k4 x3.Pairs) (h7 : SlAt cStr V a7 k7 x6.Reads) (h8 : SlAt cStr V a8 k8 x6.Writes) {r : List TMail} (hF : F_exchange_Send x1 x3 x5 x6 = some r) :
    Spec Tryz.prog 16 [.agg ⟨[.int .i64 (x1.Version), .slice a2 ((x1.Parts).length) (k2)]⟩, .agg ⟨[.int .i64 (x3.Node), .slice a4 ((x3.Pairs).length) (k4)]⟩, .int .i64 (x5), .agg ⟨[.bool (x6.All), .slice a7 ((x6.Reads).length) (k7), .slice a8 ((x6.Writes).length) (k8)]⟩] V (fun V' v => ∃ (a140 : Option Addr) (k140 : Nat), v = .slice a140 ((r).length) (k140) ∧ SlAt cTMail V' a140 k140 r) := by
  unfold F_exchange_Send at hF
  refine Spec.enter (T := tyT) Tryz.func16 rfl (by kernel_rfl) rfl rfl rfl ?_
  refine Exec.run tyOk 400 rfl ?_
  refine Exec.draws tyOk [(0, true), (1, true), (2, true), (3, false), (4, false), (5, false), (6, true), (7, true), (9, true), (10, true), (8, false), (11, false), (12, false), (13, false)] rfl (by kernel_rfl) ?_
  refine Exec.run tyOk 400 rfl ?_
  obtain ⟨x9, hx9, hF⟩ := bnd_some hF
  refine Exec.callS (.bool (x9)) rfl rfl (W_exchange_valid x1 x3 x6 h2 h4 h7 h8 hx9) ?_
  refine Exec.run tyOk 400 rfl ?_
  obtain ⟨x10, hx10, hF⟩ := bnd_some hF
  refine Exec.callG (fun y : Option Addr × Nat => .slice y.1 ((x10).length) (y.2)) (none, 0) (R := fun V' y => SlAt (cInt .i64) V' y.1 y.2 x10) rfl rfl rfl (fun gg0 => (W_route_Nodes x1 x6 h2 h7 h8 (gcall_some hx10 (gd1_of gg0))).mono (fun V' _ _ ⟨a11, k11, e1, h11⟩ => ⟨⟨a11, k11⟩, e1, h11⟩)) ?_
  rintro V12 ⟨a11, k11⟩ hv12 hg12
  have h11 : SlAt (cInt .i64) V12 a11 k11 x10 := gslat1 hx10 (fun gg0 => (hg12 gg0))
  have h13 := SlAt.mono h2 hv12
  have h14 := SlAt.mono h4 hv12
  have h15 := SlAt.mono h7 hv12
  have h16 := SlAt.mono h8 hv12
  refine Exec.run tyOk 400 rfl ?_
  obtain ⟨x17, hx17, hF⟩ := bnd_some hF
  refine Exec.callS (.bool (x17)) rfl rfl (fun gg0 => W_slices_Contains_int_int x10 x3.Node h11 (gcall_some hx17 (gd1_of gg0))) ?_
  refine Exec.run tyOk 400 rfl ?_
  rcases cond_some hF with ⟨hb, hF⟩ | ⟨hb, hF⟩
  · skip
    refine Exec.ifT rfl hb ?_
    refine Exec.run tyOk 400 rfl ?_
    obtain rfl := some_inj hF
    exact Exec.ret tyOk rfl rfl ⟨_, _, rfl, SlAt.nil⟩
  · skip
    refine Exec.ifF rfl hb ?_
    refine Exec.run tyOk 400 rfl ?_
    obtain ⟨x18, hx18, hF⟩ := bnd_some hF
    refine Exec.call rfl rfl (W_route_Executors x1 x6 h13 h15 h16 hx18) ?_
    rintro V20 _ hv20 ⟨a19, k19, rfl, h19⟩
    have h21 := SlAt.mono h13 hv20
    have h22 := SlAt.mono h14 hv20
    have h23 := SlAt.mono h15 hv20
    have h24 := SlAt.mono h16 hv20
    refine Exec.run tyOk 3 rfl ?_
    refine Exec.row0 50 5 rfl ?_
    have h25 : RowRep cTMail V20 ([] : List TMail) [] := RowRep.nil
    obtain ⟨J28, hJ28, hF⟩ := jn_some hF
    refine Exec.seam (fun L' V' M' => ∃ (x27 : List TMail) (a26 : Option Addr) (k26 : Nat) (cs26 : List Value), L' = [(9, .v (.slice a26 ((x27).length) (k26)))] ∧ M' = [.blk [.v (.int .i64 (x1.Version)), .v (.slice a2 ((x1.Parts).length) (k2))] 24, .blk [.v (.int .i64 (x3.Node)), .v (.slice a4 ((x3.Pairs).length) (k4))] 40, .blk [.v (.bool (x6.All)), .v (.slice a7 ((x6.Reads).length) (k7)), .v (.slice a8 ((x6.Writes).length) (k8))] 27, .row (.slice a26 ((x27).length) (k26)) cs26 50 5] ∧ RowRep cTMail V' x27 cs26 ∧ SlAt cTPart V' a2 k2 x1.Parts ∧ SlAt cTPair V' a4 k4 x3.Pairs ∧ SlAt cStr V' a7 k7 x6.Reads ∧ SlAt cStr V' a8 k8 x6.Writes ∧ J28 x27 = some r) rfl ?_ ?_
    · rintro L' V29 M' ⟨x27, a26, k26, cs26, rfl, rfl, h26, h30, h31, h32, h33, hF⟩
      subst hJ28
      refine Exec.run tyOk 400 rfl ?_
      refine Exec.frz 3 rfl rfl rfl (fun V34 hv34 hd34 hn34 => ?_)
      have hz34 := RowRep.slat h26 hv34 hd34 hn34
      have h35 := SlAt.mono h30 hv34
      have h36 := SlAt.mono h31 hv34
      have h37 := SlAt.mono h32 hv34
      have h38 := SlAt.mono h33 hv34
      obtain rfl := some_inj hF
      exact Exec.ret tyOk rfl rfl ⟨_, _, rfl, hz34⟩
    · skip
      refine Exec.run tyOk 400 rfl ?_
      refine Exec.loop (fun n42 L' V' M' => ∃ (x40 : List TMail) (a39 : Option Addr) (k39 : Nat) (cs39 : List Value) (x41 : Int), L' = [(2, .v (.int .i64 (x5))), (4, .ptr 0 0), (5, .ptr 1 0), (7, .ptr 2 0), (9, .v (.slice a39 ((x40).length) (k39))), (31, .v (.slice a19 ((x18).length) (k19))), (32, .v (.int .i64 ((((x18).length : Nat) : Int)))), (33, .v (.int .i64 (x41)))] ∧ M' = [.blk [.v (.int .i64 (x1.Version)), .v (.slice a2 ((x1.Parts).length) (k2))] 24, .blk [.v (.int .i64 (x3.Node)), .v (.slice a4 ((x3.Pairs).length) (k4))] 40, .blk [.v (.bool (x6.All)), .v (.slice a7 ((x6.Reads).length) (k7)), .v (.slice a8 ((x6.Writes).length) (k8))] 27, .row (.slice a39 ((x40).length) (k39)) cs39 50 5] ∧ RowRep cTMail V' x40 cs39 ∧ SlAt (cInt .i64) V' a19 k19 x18 ∧ SlAt cTPart V' a2 k2 x1.Parts ∧ SlAt cTPair V' a4 k4 x3.Pairs ∧ SlAt cStr V' a7 k7 x6.Reads ∧ SlAt cStr V' a8 k8 x6.Writes ∧ F_exchange_Send_L1 x18 x1 x3 x6 x5 J28 n42 x40 x41 = some r) ⟨(((((x18).length : Nat) : Int)).toNat + 1), [(2, .v (.int .i64 (x5))), (4, .ptr 0 0), (5, .ptr 1 0), (7, .ptr 2 0), (9, .v (.slice none ((([] : List TMail)).length) (0))), (31, .v (.slice a19 ((x18).length) (k19))), (32, .v (.int .i64 ((((x18).length : Nat) : Int)))), (33, .v (.int .i64 ((0 : Int))))], ⟨rfl, rfl, rfl, rfl, rfl, rfl, rfl, rfl, trivial⟩, ([] : List TMail), none, 0, [], (0 : Int), rfl, rfl, h25, h19, h21, h22, h23, h24, hF⟩ ?_
      rintro n42 L' V43 M' ⟨x40, a39, k39, cs39, x41, rfl, rfl, h39, h44, h45, h46, h47, h48, hF⟩
      rcases n42 with _ | n42
      · exact absurd hF (by simp [F_exchange_Send_L1])
      rw [F_exchange_Send_L1] at hF
      refine Exec.run tyOk 400 rfl ?_
      rcases cond_some hF with ⟨hb, hF⟩ | ⟨hb, hF⟩
      · skip
        refine Exec.ifT rfl hb ?_
        refine Exec.run tyOk 400 rfl ?_
        obtain ⟨q49, hF⟩ := req_some hF
        obtain ⟨c50, hr50, hd50⟩ := SlAt.get h44 q49
        obtain rfl := hr50
        refine Exec.ia tyOk rfl rfl ⟨q49.1, q49.2, hd50.some⟩ ?_
        refine Exec.run tyOk 400 rfl ?_
        refine Exec.ld tyOk (x := .int .i64 ((atI x18 x41))) rfl rfl hd50 rfl rfl ?_
        refine Exec.run tyOk 400 rfl ?_
        refine Exec.draws tyOk [(0, true), (1, true), (2, true), (3, true), (4, true), (5, true), (6, true)] rfl (by kernel_rfl) ?_
        refine Exec.run tyOk 400 rfl ?_
        obtain ⟨x51, hx51, hF⟩ := bnd_some hF
        refine Exec.fork 7 9 [(8, true), (9, false)] [(7, false), (8, true)] [(10, false)] (fun lr' L' V' M' => ∃ (a52 : Option Addr) (k52 : Nat), lr' = [] ∧ L' = [(2, .v (.int .i64 (x5))), (4, .ptr 0 0), (5, .ptr 1 0), (7, .ptr 2 0), (9, .v (.slice a39 ((x40).length) (k39))), (12, .ptr 4 0), (31, .v (.slice a19 ((x18).length) (k19))), (32, .v (.int .i64 ((((x18).length : Nat) : Int)))), (33, .v (.int .i64 (x41))), (45, .v (.agg ⟨[.int .i64 (x5), .int .i64 (x3.Node), .int .i64 ((atI x18 x41)), .slice none (0) (0), .slice a52 ((x51).length) (k52)]⟩))] ∧ M' = [.blk [.v (.int .i64 (x1.Version)), .v (.slice a2 ((x1.Parts).length) (k2))] 24, .blk [.v (.int .i64 (x3.Node)), .v (.slice a4 ((x3.Pairs).length) (k4))] 40, .blk [.v (.bool (x6.All)), .v (.slice a7 ((x6.Reads).length) (k7)), .v (.slice a8 ((x6.Writes).length) (k8))] 27, .row (.slice a39 ((x40).length) (k39)) cs39 50 5, .blk [.v (.int .i64 (0)), .v (.int .i64 (0)), .v (.int .i64 (0)), .v (.slice none (0) (0)), .v (.slice none (0) (0))] 50] ∧ SlAt (cInt .i64) V' a19 k19 x18 ∧ SlAt cTPair V' a52 k52 x51 ∧ SlAt cTPart V' a2 k2 x1.Parts ∧ SlAt cTPair V' a4 k4 x3.Pairs ∧ SlAt cStr V' a7 k7 x6.Reads ∧ SlAt cStr V' a8 k8 x6.Writes ∧ RowRep cTMail V' x40 cs39) 1 [true, true, true, true, true, true, true, true, true, true, false] rfl (by kernel_rfl) rfl rfl (by kernel_rfl) (by kernel_rfl) (by kernel_rfl) (by kernel_rfl) (fun join => ?_) (fun join => ?_) ?_
        · skip
          refine Exec.run tyOk 400 rfl ?_
          refine Exec.call rfl rfl (W_exchange_Local x1 x3 x6 h45 h46 h47 h48 hx51) ?_
          rintro V62 _ hv62 ⟨a61, k61, rfl, h61⟩
          have h63 := SlAt.mono h44 hv62
          have h65 := SlAt.mono h45 hv62
          have h66 := SlAt.mono h46 hv62
          have h67 := SlAt.mono h47 hv62
          have h68 := SlAt.mono h48 hv62
          have h69 := RowRep.mono hv62 h39
          refine Exec.run tyOk 400 rfl ?_
          exact join [0, 1, 2, 3, 4] (lr' := []) (L' := [(2, .v (.int .i64 (x5))), (4, .ptr 0 0), (5, .ptr 1 0), (7, .ptr 2 0), (9, .v (.slice a39 ((x40).length) (k39))), (12, .ptr 4 0), (31, .v (.slice a19 ((x18).length) (k19))), (32, .v (.int .i64 ((((x18).length : Nat) : Int)))), (33, .v (.int .i64 (x41))), (45, .v (.agg ⟨[.int .i64 (x5), .int .i64 (x3.Node), .int .i64 ((atI x18 x41)), .slice none (0) (0), .slice a61 ((x51).length) (k61)]⟩))]) rfl rfl rfl rfl ⟨⟨_, rfl, rfl⟩, ⟨_, rfl, rfl⟩, ⟨_, rfl, rfl⟩, ⟨_, rfl, rfl⟩, ⟨_, rfl, rfl⟩, ⟨_, rfl, rfl⟩, ⟨_, rfl, rfl⟩, ⟨_, rfl, rfl⟩, ⟨_, rfl, rfl⟩, ⟨_, rfl, rfl⟩, trivial⟩ trivial ⟨_, _, rfl, rfl, rfl, h63, h61, h65, h66, h67, h68, h69⟩
        · skip
          refine Exec.run tyOk 400 rfl ?_
          refine Exec.call rfl rfl (W_exchange_Local x1 x3 x6 h45 h46 h47 h48 hx51) ?_
          rintro V71 _ hv71 ⟨a70, k70, rfl, h70⟩
          have h72 := SlAt.mono h44 hv71
          have h74 := SlAt.mono h45 hv71
          have h75 := SlAt.mono h46 hv71
          have h76 := SlAt.mono h47 hv71
          have h77 := SlAt.mono h48 hv71
          have h78 := RowRep.mono hv71 h39
          refine Exec.run tyOk 400 rfl ?_
          exact join [0, 1, 2, 3, 4] (lr' := []) (L' := [(2, .v (.int .i64 (x5))), (4, .ptr 0 0), (5, .ptr 1 0), (7, .ptr 2 0), (9, .v (.slice a39 ((x40).length) (k39))), (12, .ptr 4 0), (31, .v (.slice a19 ((x18).length) (k19))), (32, .v (.int .i64 ((((x18).length : Nat) : Int)))), (33, .v (.int .i64 (x41))), (45, .v (.agg ⟨[.int .i64 (x5), .int .i64 (x3.Node), .int .i64 ((atI x18 x41)), .slice none (0) (0), .slice a70 ((x51).length) (k70)]⟩))]) rfl rfl rfl rfl ⟨⟨_, rfl, rfl⟩, ⟨_, rfl, rfl⟩, ⟨_, rfl, rfl⟩, ⟨_, rfl, rfl⟩, ⟨_, rfl, rfl⟩, ⟨_, rfl, rfl⟩, ⟨_, rfl, rfl⟩, ⟨_, rfl, rfl⟩, ⟨_, rfl, rfl⟩, ⟨_, rfl, rfl⟩, trivial⟩ trivial ⟨_, _, rfl, rfl, rfl, h72, h70, h74, h75, h76, h77, h78⟩
        rintro lr' L' VV79 M' ⟨a52, k52, rfl, rfl, rfl, h80, h81, h82, h83, h84, h85, h86⟩
        refine Exec.run tyOk 12 rfl ?_
        refine Exec.row0 9 1 rfl ?_
        have h87 : RowRep cStr VV79 ([] : List Str) [] := RowRep.nil
        obtain ⟨J92, hJ92, hF⟩ := jn_some hF
        refine Exec.seam (fun L' V' M' => ∃ (x89 : List TMail) (a88 : Option Addr) (k88 : Nat) (cs88 : List Value) (x91 : List Str) (a90 : Option Addr) (k90 : Nat) (cs90 : List Value), L' = [(2, .v (.int .i64 (x5))), (4, .ptr 0 0), (5, .ptr 1 0), (7, .ptr 2 0), (9, .v (.slice a88 ((x89).length) (k88))), (12, .ptr 4 0), (31, .v (.slice a19 ((x18).length) (k19))), (32, .v (.int .i64 ((((x18).length : Nat) : Int)))), (33, .v (.int .i64 (x41)))] ∧ M' = [.blk [.v (.int .i64 (x1.Version)), .v (.slice a2 ((x1.Parts).length) (k2))] 24, .blk [.v (.int .i64 (x3.Node)), .v (.slice a4 ((x3.Pairs).length) (k4))] 40, .blk [.v (.bool (x6.All)), .v (.slice a7 ((x6.Reads).length) (k7)), .v (.slice a8 ((x6.Writes).length) (k8))] 27, .row (.slice a88 ((x89).length) (k88)) cs88 50 5, .blk [.v (.int .i64 (x5)), .v (.int .i64 (x3.Node)), .v (.int .i64 ((atI x18 x41))), .v (.slice a90 ((x91).length) (k90)), .v (.slice a52 ((x51).length) (k52))] 50, .row (.slice a90 ((x91).length) (k90)) cs90 9 1] ∧ RowRep cTMail V' x89 cs88 ∧ RowRep cStr V' x91 cs90 ∧ SlAt (cInt .i64) V' a19 k19 x18 ∧ SlAt cTPart V' a2 k2 x1.Parts ∧ SlAt cTPair V' a4 k4 x3.Pairs ∧ SlAt cStr V' a7 k7 x6.Reads ∧ SlAt cStr V' a8 k8 x6.Writes ∧ SlAt cTPair V' a52 k52 x51 ∧ J92 x89 x91 = some r) rfl ?_ ?_
        · rintro L' V93 M' ⟨x89, a88, k88, cs88, x91, a90, k90, cs90, rfl, rfl, h88, h90, h94, h95, h96, h97, h98, h99, hF⟩
          subst hJ92
          refine Exec.run tyOk 400 rfl ?_
          refine Exec.frz 5 rfl rfl rfl (fun V100 hv100 hd100 hn100 => ?_)
          have hz100 := RowRep.slat h90 hv100 hd100 hn100
          have h101 := SlAt.mono h94 hv100
          have h102 := SlAt.mono h99 hv100
          have h103 := SlAt.mono h95 hv100
          have h104 := SlAt.mono h96 hv100
          have h105 := SlAt.mono h97 hv100
          have h106 := SlAt.mono h98 hv100
          have h107 := RowRep.mono hv100 h88
          refine Exec.bsl tyOk rfl rfl ?_
          refine Exec.run tyOk 400 rfl ?_
          obtain ⟨q109, hF⟩ := req_some hF
          refine Exec.app tyOk 3 6 (nm := ((x89 ++ [(⟨x5, x3.Node, (atI x18 x41), x91, x51⟩ : TMail)])).length) rfl rfl rfl rfl rfl rfl rfl rfl rfl (by simp) (fun _ _ => rfl) rfl q109 (fun a108 k108 => ?_)
          have h108 : RowRep cTMail V100 (x89 ++ [(⟨x5, x3.Node, (atI x18 x41), x91, x51⟩ : TMail)]) (cs88 ++ [.int .i64 (x5), .int .i64 (x3.Node), .int .i64 ((atI x18 x41)), .slice a90 ((x91).length) (k90), .slice a52 ((x51).length) (k52)]) := RowRep.app h107 ⟨_, _, rfl, ⟨_, _, _, _, rfl, hz100, h102⟩, rfl⟩
          refine Exec.run tyOk 400 rfl ?_
          refine Exec.cut 4 [(2, .v (.int .i64 (x5))), (4, .ptr 0 0), (5, .ptr 1 0), (7, .ptr 2 0), (9, .v (.slice a108 (((x89 ++ [(⟨x5, x3.Node, (atI x18 x41), x91, x51⟩ : TMail)])).length) (k108))), (31, .v (.slice a19 ((x18).length) (k19))), (32, .v (.int .i64 ((((x18).length : Nat) : Int)))), (33, .v (.int .i64 ((IntKind.i64.wrap (x41 + (1 : Int))))))] (M' := [.blk [.v (.int .i64 (x1.Version)), .v (.slice a2 ((x1.Parts).length) (k2))] 24, .blk [.v (.int .i64 (x3.Node)), .v (.slice a4 ((x3.Pairs).length) (k4))] 40, .blk [.v (.bool (x6.All)), .v (.slice a7 ((x6.Reads).length) (k7)), .v (.slice a8 ((x6.Writes).length) (k8))] 27, .row (.slice a108 (((x89 ++ [(⟨x5, x3.Node, (atI x18 x41), x91, x51⟩ : TMail)])).length) (k108)) ((cs88 ++ [.int .i64 (x5), .int .i64 (x3.Node), .int .i64 ((atI x18 x41)), .slice a90 ((x91).length) (k90), .slice a52 ((x51).length) (k52)])) 50 5]) rfl ⟨rfl, rfl, rfl, rfl, rfl, rfl, rfl, rfl, trivial⟩ rfl rfl rfl ?_
          exact Exec.round [(2, .v (.int .i64 (x5))), (4, .ptr 0 0), (5, .ptr 1 0), (7, .ptr 2 0), (9, .v (.slice a108 (((x89 ++ [(⟨x5, x3.Node, (atI x18 x41), x91, x51⟩ : TMail)])).length) (k108))), (31, .v (.slice a19 ((x18).length) (k19))), (32, .v (.int .i64 ((((x18).length : Nat) : Int)))), (33, .v (.int .i64 ((IntKind.i64.wrap (x41 + (1 : Int))))))] ⟨rfl, rfl, rfl, rfl, rfl, rfl, rfl, rfl, trivial⟩ ⟨n42, Nat.lt_succ_self _, (x89 ++ [(⟨x5, x3.Node, (atI x18 x41), x91, x51⟩ : TMail)]), a108, k108, (cs88 ++ [.int .i64 (x5), .int .i64 (x3.Node), .int .i64 ((atI x18 x41)), .slice a90 ((x91).length) (k90), .slice a52 ((x51).length) (k52)]), (IntKind.i64.wrap (x41 + (1 : Int))), rfl, rfl, h108, h101, h103, h104, h105, h106, hF⟩
        · skip
          refine Exec.run tyOk 400 rfl ?_
          refine Exec.loop (fun n115 L' V' M' => ∃ (x111 : List TMail) (a110 : Option Addr) (k110 : Nat) (cs110 : List Value) (x113 : List Str) (a112 : Option Addr) (k112 : Nat) (cs112 : List Value) (x114 : Int), L' = [(2, .v (.int .i64 (x5))), (4, .ptr 0 0), (5, .ptr 1 0), (7, .ptr 2 0), (9, .v (.slice a110 ((x111).length) (k110))), (12, .ptr 4 0), (31, .v (.slice a19 ((x18).length) (k19))), (32, .v (.int .i64 ((((x18).length : Nat) : Int)))), (33, .v (.int .i64 (x41))), (47, .v (.slice a7 ((x6.Reads).length) (k7))), (48, .v (.int .i64 ((((x6.Reads).length : Nat) : Int)))), (49, .v (.int .i64 (x114)))] ∧ M' = [.blk [.v (.int .i64 (x1.Version)), .v (.slice a2 ((x1.Parts).length) (k2))] 24, .blk [.v (.int .i64 (x3.Node)), .v (.slice a4 ((x3.Pairs).length) (k4))] 40, .blk [.v (.bool (x6.All)), .v (.slice a7 ((x6.Reads).length) (k7)), .v (.slice a8 ((x6.Writes).length) (k8))] 27, .row (.slice a110 ((x111).length) (k110)) cs110 50 5, .blk [.v (.int .i64 (x5)), .v (.int .i64 (x3.Node)), .v (.int .i64 ((atI x18 x41))), .v (.slice a112 ((x113).length) (k112)), .v (.slice a52 ((x51).length) (k52))] 50, .row (.slice a112 ((x113).length) (k112)) cs112 9 1] ∧ RowRep cTMail V' x111 cs110 ∧ RowRep cStr V' x113 cs112 ∧ SlAt (cInt .i64) V' a19 k19 x18 ∧ SlAt cStr V' a7 k7 x6.Reads ∧ SlAt cTPart V' a2 k2 x1.Parts ∧ SlAt cTPair V' a4 k4 x3.Pairs ∧ SlAt cStr V' a8 k8 x6.Writes ∧ SlAt cTPair V' a52 k52 x51 ∧ F_exchange_Send_L2 x6 x1 x3 J92 n115 x111 x113 x114 = some r) ⟨(((((x6.Reads).length : Nat) : Int)).toNat + 1), [(2, .v (.int .i64 (x5))), (4, .ptr 0 0), (5, .ptr 1 0), (7, .ptr 2 0), (9, .v (.slice a39 ((x40).length) (k39))), (12, .ptr 4 0), (31, .v (.slice a19 ((x18).length) (k19))), (32, .v (.int .i64 ((((x18).length : Nat) : Int)))), (33, .v (.int .i64 (x41))), (47, .v (.slice a7 ((x6.Reads).length) (k7))), (48, .v (.int .i64 ((((x6.Reads).length : Nat) : Int)))), (49, .v (.int .i64 ((0 : Int))))], ⟨rfl, rfl, rfl, rfl, rfl, rfl, rfl, rfl, rfl, rfl, rfl, rfl, trivial⟩, x40, a39, k39, cs39, ([] : List Str), none, 0, [], (0 : Int), rfl, rfl, h86, h87, h80, h84, h82, h83, h85, h81, hF⟩ ?_
          rintro n115 L' V116 M' ⟨x111, a110, k110, cs110, x113, a112, k112, cs112, x114, rfl, rfl, h110, h112, h117, h118, h119, h120, h121, h122, hF⟩
          rcases n115 with _ | n115
          · exact absurd hF (by simp [F_exchange_Send_L2])
          rw [F_exchange_Send_L2] at hF
          refine Exec.run tyOk 400 rfl ?_
          rcases cond_some hF with ⟨hb, hF⟩ | ⟨hb, hF⟩
          · skip
            refine Exec.ifT rfl hb ?_
            refine Exec.run tyOk 400 rfl ?_
            obtain ⟨q123, hF⟩ := req_some hF
            obtain ⟨c124, hr124, hd124⟩ := SlAt.get h118 q123
            obtain rfl := hr124
            refine Exec.ia tyOk rfl rfl ⟨q123.1, q123.2, hd124.some⟩ ?_
            refine Exec.run tyOk 400 rfl ?_
            refine Exec.ld tyOk (x := .string ⟨⟨(atI x6.Reads x114)⟩⟩) rfl rfl hd124 rfl rfl ?_
            refine Exec.run tyOk 400 rfl ?_
            refine Exec.draws tyOk [(0, true), (1, true), (3, true), (4, true), (2, false), (5, false)] rfl (by kernel_rfl) ?_
            refine Exec.run tyOk 400 rfl ?_
            obtain ⟨x125, hx125, hF⟩ := bnd_some hF
            refine Exec.callS (.int .i64 (x125)) rfl rfl (W_placement_Owner x1 ((atI x6.Reads x114)) h119 hx125) ?_
            refine Exec.run tyOk 400 rfl ?_
            obtain ⟨J130, hJ130, hF⟩ := jn_some hF
            refine Exec.seam (fun L' V' M' => ∃ (x127 : List TMail) (a126 : Option Addr) (k126 : Nat) (cs126 : List Value) (x129 : List Str) (a128 : Option Addr) (k128 : Nat) (cs128 : List Value), L' = [(2, .v (.int .i64 (x5))), (4, .ptr 0 0), (5, .ptr 1 0), (7, .ptr 2 0), (9, .v (.slice a126 ((x127).length) (k126))), (12, .ptr 4 0), (31, .v (.slice a19 ((x18).length) (k19))), (32, .v (.int .i64 ((((x18).length : Nat) : Int)))), (33, .v (.int .i64 (x41))), (47, .v (.slice a7 ((x6.Reads).length) (k7))), (48, .v (.int .i64 ((((x6.Reads).length : Nat) : Int)))), (49, .v (.int .i64 (x114)))] ∧ M' = [.blk [.v (.int .i64 (x1.Version)), .v (.slice a2 ((x1.Parts).length) (k2))] 24, .blk [.v (.int .i64 (x3.Node)), .v (.slice a4 ((x3.Pairs).length) (k4))] 40, .blk [.v (.bool (x6.All)), .v (.slice a7 ((x6.Reads).length) (k7)), .v (.slice a8 ((x6.Writes).length) (k8))] 27, .row (.slice a126 ((x127).length) (k126)) cs126 50 5, .blk [.v (.int .i64 (x5)), .v (.int .i64 (x3.Node)), .v (.int .i64 ((atI x18 x41))), .v (.slice a128 ((x129).length) (k128)), .v (.slice a52 ((x51).length) (k52))] 50, .row (.slice a128 ((x129).length) (k128)) cs128 9 1] ∧ RowRep cTMail V' x127 cs126 ∧ RowRep cStr V' x129 cs128 ∧ SlAt (cInt .i64) V' a19 k19 x18 ∧ SlAt cStr V' a7 k7 x6.Reads ∧ SlAt cTPart V' a2 k2 x1.Parts ∧ SlAt cTPair V' a4 k4 x3.Pairs ∧ SlAt cStr V' a8 k8 x6.Writes ∧ SlAt cTPair V' a52 k52 x51 ∧ J130 x127 x129 = some r) rfl ?_ ?_
            · rintro L' V131 M' ⟨x127, a126, k126, cs126, x129, a128, k128, cs128, rfl, rfl, h126, h128, h132, h133, h134, h135, h136, h137, hF⟩
              subst hJ130
              refine Exec.run tyOk 400 rfl ?_
              exact Exec.round [(2, .v (.int .i64 (x5))), (4, .ptr 0 0), (5, .ptr 1 0), (7, .ptr 2 0), (9, .v (.slice a126 ((x127).length) (k126))), (12, .ptr 4 0), (31, .v (.slice a19 ((x18).length) (k19))), (32, .v (.int .i64 ((((x18).length : Nat) : Int)))), (33, .v (.int .i64 (x41))), (47, .v (.slice a7 ((x6.Reads).length) (k7))), (48, .v (.int .i64 ((((x6.Reads).length : Nat) : Int)))), (49, .v (.int .i64 ((IntKind.i64.wrap (x114 + (1 : Int))))))] ⟨rfl, rfl, rfl, rfl, rfl, rfl, rfl, rfl, rfl, rfl, rfl, rfl, trivial⟩ ⟨n115, Nat.lt_succ_self _, x127, a126, k126, cs126, x129, a128, k128, cs128, (IntKind.i64.wrap (x114 + (1 : Int))), rfl, rfl, h126, h128, h132, h133, h134, h135, h136, h137, hF⟩
            · skip
              refine Exec.run tyOk 400 rfl ?_
              rcases cond_some hF with ⟨hb, hF⟩ | ⟨hb, hF⟩
              · skip
                refine Exec.ifT rfl hb ?_
                refine Exec.run tyOk 400 rfl ?_
                refine Exec.bsl tyOk rfl rfl ?_
                refine Exec.run tyOk 400 rfl ?_
                obtain ⟨q139, hF⟩ := req_some hF
                refine Exec.app tyOk 5 6 (nm := ((x113 ++ [(atI x6.Reads x114)])).length) rfl rfl rfl rfl rfl rfl rfl rfl rfl (by simp) (fun _ _ => rfl) rfl q139 (fun a138 k138 => ?_)
                have h138 : RowRep cStr V116 (x113 ++ [(atI x6.Reads x114)]) (cs112 ++ [.string ⟨⟨(atI x6.Reads x114)⟩⟩]) := RowRep.app h112 ⟨_, _, rfl, rfl, rfl⟩
                refine Exec.run tyOk 400 rfl ?_
                refine Exec.cut 6 [(2, .v (.int .i64 (x5))), (4, .ptr 0 0), (5, .ptr 1 0), (7, .ptr 2 0), (9, .v (.slice a110 ((x111).length) (k110))), (12, .ptr 4 0), (31, .v (.slice a19 ((x18).length) (k19))), (32, .v (.int .i64 ((((x18).length : Nat) : Int)))), (33, .v (.int .i64 (x41))), (47, .v (.slice a7 ((x6.Reads).length) (k7))), (48, .v (.int .i64 ((((x6.Reads).length : Nat) : Int)))), (49, .v (.int .i64 (x114)))] (M' := [.blk [.v (.int .i64 (x1.Version)), .v (.slice a2 ((x1.Parts).length) (k2))] 24, .blk [.v (.int .i64 (x3.Node)), .v (.slice a4 ((x3.Pairs).length) (k4))] 40, .blk [.v (.bool (x6.All)), .v (.slice a7 ((x6.Reads).length) (k7)), .v (.slice a8 ((x6.Writes).length) (k8))] 27, .row (.slice a110 ((x111).length) (k110)) cs110 50 5, .blk [.v (.int .i64 (x5)), .v (.int .i64 (x3.Node)), .v (.int .i64 ((atI x18 x41))), .v (.slice a138 (((x113 ++ [(atI x6.Reads x114)])).length) (k138)), .v (.slice a52 ((x51).length) (k52))] 50, .row (.slice a138 (((x113 ++ [(atI x6.Reads x114)])).length) (k138)) ((cs112 ++ [.string ⟨⟨(atI x6.Reads x114)⟩⟩])) 9 1]) rfl ⟨rfl, rfl, rfl, rfl, rfl, rfl, rfl, rfl, rfl, rfl, rfl, rfl, trivial⟩ rfl rfl rfl ?_
                exact Exec.round [(2, .v (.int .i64 (x5))), (4, .ptr 0 0), (5, .ptr 1 0), (7, .ptr 2 0), (9, .v (.slice a110 ((x111).length) (k110))), (12, .ptr 4 0), (31, .v (.slice a19 ((x18).length) (k19))), (32, .v (.int .i64 ((((x18).length : Nat) : Int)))), (33, .v (.int .i64 (x41))), (47, .v (.slice a7 ((x6.Reads).length) (k7))), (48, .v (.int .i64 ((((x6.Reads).length : Nat) : Int)))), (49, .v (.int .i64 (x114)))] ⟨rfl, rfl, rfl, rfl, rfl, rfl, rfl, rfl, rfl, rfl, rfl, rfl, trivial⟩ ⟨x111, a110, k110, cs110, (x113 ++ [(atI x6.Reads x114)]), a138, k138, (cs112 ++ [.string ⟨⟨(atI x6.Reads x114)⟩⟩]), rfl, rfl, h110, h138, h117, h118, h119, h120, h121, h122, hF⟩
              · skip
                refine Exec.ifF rfl hb ?_
                refine Exec.run tyOk 400 rfl ?_
                exact Exec.round [(2, .v (.int .i64 (x5))), (4, .ptr 0 0), (5, .ptr 1 0), (7, .ptr 2 0), (9, .v (.slice a110 ((x111).length) (k110))), (12, .ptr 4 0), (31, .v (.slice a19 ((x18).length) (k19))), (32, .v (.int .i64 ((((x18).length : Nat) : Int)))), (33, .v (.int .i64 (x41))), (47, .v (.slice a7 ((x6.Reads).length) (k7))), (48, .v (.int .i64 ((((x6.Reads).length : Nat) : Int)))), (49, .v (.int .i64 (x114)))] ⟨rfl, rfl, rfl, rfl, rfl, rfl, rfl, rfl, rfl, rfl, rfl, rfl, trivial⟩ ⟨x111, a110, k110, cs110, x113, a112, k112, cs112, rfl, rfl, h110, h112, h117, h118, h119, h120, h121, h122, hF⟩
          · skip
            refine Exec.ifF rfl hb ?_
            refine Exec.run tyOk 400 rfl ?_
            exact Exec.round [(2, .v (.int .i64 (x5))), (4, .ptr 0 0), (5, .ptr 1 0), (7, .ptr 2 0), (9, .v (.slice a110 ((x111).length) (k110))), (12, .ptr 4 0), (31, .v (.slice a19 ((x18).length) (k19))), (32, .v (.int .i64 ((((x18).length : Nat) : Int)))), (33, .v (.int .i64 (x41)))] ⟨rfl, rfl, rfl, rfl, rfl, rfl, rfl, rfl, rfl, trivial⟩ ⟨x111, a110, k110, cs110, x113, a112, k112, cs112, rfl, rfl, h110, h112, h117, h119, h120, h118, h121, h122, hF⟩
      · skip
        refine Exec.ifF rfl hb ?_
        refine Exec.run tyOk 400 rfl ?_
        exact Exec.round [(9, .v (.slice a39 ((x40).length) (k39)))] ⟨rfl, trivial⟩ ⟨x40, a39, k39, cs39, rfl, rfl, h39, h45, h46, h47, h48, hF⟩

def F_clockworklaw31_lives  : Option Bool :=
  (bnd (F_clockworklaw31_pair (([97] : Str)) ((1 : Int))) fun x7 => (bnd (F_clockworklaw31_pair (([98] : Str)) ((2 : Int))) fun x8 => (bnd (F_exchange_Send ((⟨0, ([(⟨(1 : Int), [], (1 : Int), 0, []⟩ : TPart), (⟨(2 : Int), ([109] : Str), (2 : Int), 0, []⟩ : TPart)] : List TPart)⟩ : TPlacement)) ((⟨(1 : Int), ([x7, x8] : List TPair)⟩ : TShard)) ((5 : Int)) ((⟨false, ([([97] : Str), ([120] : Str)] : List Str), ([([120] : Str)] : List Str)⟩ : TFootprint))) fun x13 => (bnd (F_clockworklaw31_pair (([120] : Str)) ((3 : Int))) fun x20 => (bnd (F_exchange_Send ((⟨0, ([(⟨(1 : Int), [], (1 : Int), 0, []⟩ : TPart), (⟨(2 : Int), ([109] : Str), (2 : Int), 0, []⟩ : TPart)] : List TPart)⟩ : TPlacement)) ((⟨(2 : Int), ([x20] : List TPair)⟩ : TShard)) ((5 : Int)) ((⟨false, ([([97] : Str), ([120] : Str)] : List Str), ([([120] : Str)] : List Str)⟩ : TFootprint))) fun x27 => (req (((((((x13).length : Nat) : Int) != (1 : Int))) == false) = true → 0 ≤ (0 : Int) ∧ (0 : Int) < ((x13).length : Int)) (req ((((((((x13).length : Nat) : Int) != (1 : Int)) || ((cond ((((((x13).length : Nat) : Int) != (1 : Int))) == false) (atI x13 ((0 : Int))) default).To != (2 : Int)))) == false) = true → 0 ≤ (0 : Int) ∧ (0 : Int) < ((x13).length : Int)) (bnd (gcall (((((((x13).length : Nat) : Int) != (1 : Int)) || ((cond ((((((x13).length : Nat) : Int) != (1 : Int))) == false) (atI x13 ((0 : Int))) default).To != (2 : Int)))) == false) (F_clockworkref04_Same ((cond (((((((x13).length : Nat) : Int) != (1 : Int)) || ((cond ((((((x13).length : Nat) : Int) != (1 : Int))) == false) (atI x13 ((0 : Int))) default).To != (2 : Int)))) == false) (atI x13 ((0 : Int))) default).Keys) (([([97] : Str)] : List Str)))) fun x58 => (bnd (gcall (((((((((x13).length : Nat) : Int) != (1 : Int)) || ((cond ((((((x13).length : Nat) : Int) != (1 : Int))) == false) (atI x13 ((0 : Int))) default).To != (2 : Int))) || (!x58)) || ((((x27).length : Nat) : Int) != (1 : Int)))) == false) (F_exchange_Complete ((⟨0, ([(⟨(1 : Int), [], (1 : Int), 0, []⟩ : TPart), (⟨(2 : Int), ([109] : Str), (2 : Int), 0, []⟩ : TPart)] : List TPart)⟩ : TPlacement)) ((⟨false, ([([97] : Str), ([120] : Str)] : List Str), ([([120] : Str)] : List Str)⟩ : TFootprint)) ((5 : Int)) ((2 : Int)) x13)) fun x59 => (cond ((((((((x13).length : Nat) : Int) != (1 : Int)) || ((cond ((((((x13).length : Nat) : Int) != (1 : Int))) == false) (atI x13 ((0 : Int))) default).To != (2 : Int))) || (!x58)) || ((((x27).length : Nat) : Int) != (1 : Int))) || x59) (some false) (req (0 ≤ (0 : Int) ∧ (0 : Int) < ((x27).length : Int)) (req (0 ≤ (0 : Int) ∧ (0 : Int) < ((x13).length : Int)) (req (0 ≤ (0 : Int) ∧ (0 : Int) < ((x27).length : Int)) (bnd (F_exchange_Collect ((5 : Int)) ((2 : Int)) (([(atI x27 ((0 : Int))), (atI x13 ((0 : Int))), (atI x27 ((0 : Int)))] : List TMail))) fun x89 => (req (0 ≤ (0 : Int) ∧ (0 : Int) < ((x27).length : Int)) (req (0 ≤ (0 : Int) ∧ (0 : Int) < ((x13).length : Int)) (bnd (F_exchange_Complete ((⟨0, ([(⟨(1 : Int), [], (1 : Int), 0, []⟩ : TPart), (⟨(2 : Int), ([109] : Str), (2 : Int), 0, []⟩ : TPart)] : List TPart)⟩ : TPlacement)) ((⟨false, ([([97] : Str), ([120] : Str)] : List Str), ([([120] : Str)] : List Str)⟩ : TFootprint)) ((5 : Int)) ((2 : Int)) (([(atI x27 ((0 : Int))), (atI x13 ((0 : Int)))] : List TMail))) fun x142 => (bnd (gcall ((x142) == true) (F_clockworklaw31_pair (([97] : Str)) ((1 : Int)))) fun x143 => (bnd (gcall ((x142) == true) (F_clockworklaw31_pair (([120] : Str)) ((3 : Int)))) fun x144 => (bnd (gcall ((x142) == true) (F_clockworkref06_Same x89.1 (([x143, x144] : List TPair)))) fun x171 => (some ((x142 && x171) && (x89.2 == (0 : Int))))))))))))))))))))))))

set_option maxRecDepth 100000 in
theorem W_clockworklaw31_lives {V : View}    {r : Bool} (hF : F_clockworklaw31_lives  = some r) :
    Spec Tryz.prog 14 [] V (fun _ v => v = .bool (r)) := by
  unfold F_clockworklaw31_lives at hF
  refine Spec.enter (T := tyT) Tryz.func14 rfl (by kernel_rfl) rfl rfl rfl ?_
  refine Exec.run tyOk 400 rfl ?_
  refine Exec.bsV tyOk rfl rfl rfl rfl rfl (fun V1 a1 hv1 hd1 => ?_)
  have h1 : SlAt cTPart V1 (some a1) 2 ([(⟨(1 : Int), [], (1 : Int), 0, []⟩ : TPart), (⟨(2 : Int), ([109] : Str), (2 : Int), 0, []⟩ : TPart)] : List TPart) := RowRep.slat (c := cTPart) (V := V1) (cs := [.int .i64 ((1 : Int)), .string ⟨⟨[]⟩⟩, .int .i64 ((1 : Int)), .int .i64 (0), .string ⟨⟨[]⟩⟩, .int .i64 ((2 : Int)), .string ⟨⟨([109] : Str)⟩⟩, .int .i64 ((2 : Int)), .int .i64 (0), .string ⟨⟨[]⟩⟩]) ⟨_, _, rfl, rfl, ⟨_, _, rfl, rfl, rfl⟩⟩ (VLe.refl _) (fun _ => hd1) (by simp)
  refine Exec.run tyOk 400 rfl ?_
  refine Exec.bsV tyOk rfl rfl rfl rfl rfl (fun V2 a2 hv2 hd2 => ?_)
  have h3 := SlAt.mono h1 hv2
  have h2 : SlAt cStr V2 (some a2) 2 ([([97] : Str), ([120] : Str)] : List Str) := RowRep.slat (c := cStr) (V := V2) (cs := [.string ⟨⟨([97] : Str)⟩⟩, .string ⟨⟨([120] : Str)⟩⟩]) ⟨_, _, rfl, rfl, ⟨_, _, rfl, rfl, rfl⟩⟩ (VLe.refl _) (fun _ => hd2) (by simp)
  refine Exec.run tyOk 400 rfl ?_
  refine Exec.bsV tyOk rfl rfl rfl rfl rfl (fun V4 a4 hv4 hd4 => ?_)
  have h5 := SlAt.mono h3 hv4
  have h6 := SlAt.mono h2 hv4
  have h4 : SlAt cStr V4 (some a4) 1 ([([120] : Str)] : List Str) := RowRep.slat (c := cStr) (V := V4) (cs := [.string ⟨⟨([120] : Str)⟩⟩]) ⟨_, _, rfl, rfl, rfl⟩ (VLe.refl _) (fun _ => hd4) (by simp)
  refine Exec.run tyOk 400 rfl ?_
  refine Exec.draws tyOk [(0, true), (5, true), (1, false), (2, false), (3, false), (4, false), (6, false), (7, false)] rfl (by kernel_rfl) ?_
  refine Exec.run tyOk 400 rfl ?_
  obtain ⟨x7, hx7, hF⟩ := bnd_some hF
  refine Exec.callS (.agg ⟨[.string ⟨⟨x7.Key⟩⟩, .int .i64 (x7.Val.Kind), .int .i64 (x7.Val.N), .string ⟨⟨x7.Val.S⟩⟩]⟩) rfl rfl (W_clockworklaw31_pair (([97] : Str)) ((1 : Int))  hx7) ?_
  refine Exec.run tyOk 400 rfl ?_
  obtain ⟨x8, hx8, hF⟩ := bnd_some hF
  refine Exec.callS (.agg ⟨[.string ⟨⟨x8.Key⟩⟩, .int .i64 (x8.Val.Kind), .int .i64 (x8.Val.N), .string ⟨⟨x8.Val.S⟩⟩]⟩) rfl rfl (W_clockworklaw31_pair (([98] : Str)) ((2 : Int))  hx8) ?_
  refine Exec.run tyOk 400 rfl ?_
  refine Exec.bsV tyOk rfl rfl rfl rfl rfl (fun V9 a9 hv9 hd9 => ?_)
  have h10 := SlAt.mono h5 hv9
  have h11 := SlAt.mono h6 hv9
  have h12 := SlAt.mono h4 hv9
  have h9 : SlAt cTPair V9 (some a9) 2 ([x7, x8] : List TPair) := RowRep.slat (c := cTPair) (V := V9) (cs := [.string ⟨⟨x7.Key⟩⟩, .int .i64 (x7.Val.Kind), .int .i64 (x7.Val.N), .string ⟨⟨x7.Val.S⟩⟩, .string ⟨⟨x8.Key⟩⟩, .int .i64 (x8.Val.Kind), .int .i64 (x8.Val.N), .string ⟨⟨x8.Val.S⟩⟩]) ⟨_, _, rfl, rfl, ⟨_, _, rfl, rfl, rfl⟩⟩ (VLe.refl _) (fun _ => hd9) (by simp)
  refine Exec.run tyOk 400 rfl ?_
  obtain ⟨x13, hx13, hF⟩ := bnd_some hF
  refine Exec.call rfl rfl (W_exchange_Send ((⟨0, ([(⟨(1 : Int), [], (1 : Int), 0, []⟩ : TPart), (⟨(2 : Int), ([109] : Str), (2 : Int), 0, []⟩ : TPart)] : List TPart)⟩ : TPlacement)) ((⟨(1 : Int), ([x7, x8] : List TPair)⟩ : TShard)) ((5 : Int)) ((⟨false, ([([97] : Str), ([120] : Str)] : List Str), ([([120] : Str)] : List Str)⟩ : TFootprint)) h10 h9 h11 h12 hx13) ?_
  rintro V15 _ hv15 ⟨a14, k14, rfl, h14⟩
  have h16 := SlAt.mono h10 hv15
  have h17 := SlAt.mono h11 hv15
  have h18 := SlAt.mono h12 hv15
  have h19 := SlAt.mono h9 hv15
  refine Exec.run tyOk 400 rfl ?_
  refine Exec.draws tyOk [(0, true), (4, true), (1, false), (2, false), (3, false), (5, false), (6, false)] rfl (by kernel_rfl) ?_
  refine Exec.run tyOk 400 rfl ?_
  obtain ⟨x20, hx20, hF⟩ := bnd_some hF
  refine Exec.callS (.agg ⟨[.string ⟨⟨x20.Key⟩⟩, .int .i64 (x20.Val.Kind), .int .i64 (x20.Val.N), .string ⟨⟨x20.Val.S⟩⟩]⟩) rfl rfl (W_clockworklaw31_pair (([120] : Str)) ((3 : Int))  hx20) ?_
  refine Exec.run tyOk 400 rfl ?_
  refine Exec.bsV tyOk rfl rfl rfl rfl rfl (fun V21 a21 hv21 hd21 => ?_)
  have h22 := SlAt.mono h14 hv21
  have h23 := SlAt.mono h16 hv21
  have h24 := SlAt.mono h17 hv21
  have h25 := SlAt.mono h18 hv21
  have h26 := SlAt.mono h19 hv21
  have h21 : SlAt cTPair V21 (some a21) 1 ([x20] : List TPair) := RowRep.slat (c := cTPair) (V := V21) (cs := [.string ⟨⟨x20.Key⟩⟩, .int .i64 (x20.Val.Kind), .int .i64 (x20.Val.N), .string ⟨⟨x20.Val.S⟩⟩]) ⟨_, _, rfl, rfl, rfl⟩ (VLe.refl _) (fun _ => hd21) (by simp)
  refine Exec.run tyOk 400 rfl ?_
  obtain ⟨x27, hx27, hF⟩ := bnd_some hF
  refine Exec.call rfl rfl (W_exchange_Send ((⟨0, ([(⟨(1 : Int), [], (1 : Int), 0, []⟩ : TPart), (⟨(2 : Int), ([109] : Str), (2 : Int), 0, []⟩ : TPart)] : List TPart)⟩ : TPlacement)) ((⟨(2 : Int), ([x20] : List TPair)⟩ : TShard)) ((5 : Int)) ((⟨false, ([([97] : Str), ([120] : Str)] : List Str), ([([120] : Str)] : List Str)⟩ : TFootprint)) h23 h21 h24 h25 hx27) ?_
  rintro V29 _ hv29 ⟨a28, k28, rfl, h28⟩
  have h30 := SlAt.mono h22 hv29
  have h31 := SlAt.mono h23 hv29
  have h32 := SlAt.mono h24 hv29
  have h33 := SlAt.mono h25 hv29
  have h34 := SlAt.mono h26 hv29
  have h35 := SlAt.mono h21 hv29
  refine Exec.run tyOk 400 rfl ?_
  obtain ⟨q36, hF⟩ := req_some hF
  obtain ⟨c37, hr37, hd37⟩ := SlAt.gget ((((((x13).length : Nat) : Int) != (1 : Int))) == false) h30 q36
  obtain ⟨a38, k38, a39, k39, rfl, h38, h39⟩ := hr37
  refine Exec.ia tyOk rfl rfl (fun gg0 => ⟨(q36 (gd1_of gg0)).1, (q36 (gd1_of gg0)).2, (hd37 (gd1_of gg0)).some⟩) ?_
  refine Exec.run tyOk 400 rfl ?_
  refine Exec.ld tyOk (x := .int .i64 ((cond ((((((x13).length : Nat) : Int) != (1 : Int))) == false) (atI x13 ((0 : Int))) default).To)) rfl rfl (fun gg0 => (RdAt.part (hd37 (gd1_of gg0)) 2 1 rfl)) rfl rfl ?_
  refine Exec.run tyOk 400 rfl ?_
  obtain ⟨q40, hF⟩ := req_some hF
  obtain ⟨c41, hr41, hd41⟩ := SlAt.gget (((((((x13).length : Nat) : Int) != (1 : Int)) || ((cond ((((((x13).length : Nat) : Int) != (1 : Int))) == false) (atI x13 ((0 : Int))) default).To != (2 : Int)))) == false) h30 q40
  obtain ⟨a42, k42, a43, k43, rfl, h42, h43⟩ := hr41
  refine Exec.ia tyOk rfl rfl (fun gg0 => ⟨(q40 (gd1_of gg0)).1, (q40 (gd1_of gg0)).2, (hd41 (gd1_of gg0)).some⟩) ?_
  refine Exec.run tyOk 400 rfl ?_
  refine Exec.ld tyOk (x := .slice a42 (((cond (((((((x13).length : Nat) : Int) != (1 : Int)) || ((cond ((((((x13).length : Nat) : Int) != (1 : Int))) == false) (atI x13 ((0 : Int))) default).To != (2 : Int)))) == false) (atI x13 ((0 : Int))) default).Keys).length) (k42)) rfl rfl (fun gg0 => (RdAt.part (hd41 (gd1_of gg0)) 3 1 rfl)) rfl rfl ?_
  refine Exec.run tyOk 400 rfl ?_
  refine Exec.gbsV tyOk rfl rfl rfl rfl (fun V44 a44 hv44 hg44 => ?_) rfl
  have h45 := SlAt.mono h30 hv44
  have h46 := SlAt.mono h28 hv44
  have h47 := SlAt.mono h31 hv44
  have h48 := SlAt.mono h32 hv44
  have h49 := SlAt.mono h33 hv44
  have h50 := SlAt.mono h34 hv44
  have h51 := SlAt.mono h35 hv44
  have h53 := SlAt.mono h38 hv44
  have h54 := SlAt.mono h39 hv44
  have h56 := SlAt.mono h42 hv44
  have h57 := SlAt.mono h43 hv44
  have h44 : ((((((x13).length : Nat) : Int) != (1 : Int)) || ((cond ((((((x13).length : Nat) : Int) != (1 : Int))) == false) (atI x13 ((0 : Int))) default).To != (2 : Int)))) = false → SlAt cStr V44 ((some a44)) 1 (([([97] : Str)] : List Str)) := fun gg0 => RowRep.slat (c := cStr) (V := V44) (cs := [.string ⟨⟨([97] : Str)⟩⟩]) ⟨_, _, rfl, rfl, rfl⟩ (VLe.refl _) (fun _ => hg44 gg0) (by simp)
  refine Exec.run tyOk 400 rfl ?_
  obtain ⟨x58, hx58, hF⟩ := bnd_some hF
  refine Exec.callS (.bool (x58)) rfl rfl (fun gg0 => W_clockworkref04_Same ((cond (((((((x13).length : Nat) : Int) != (1 : Int)) || ((cond ((((((x13).length : Nat) : Int) != (1 : Int))) == false) (atI x13 ((0 : Int))) default).To != (2 : Int)))) == false) (atI x13 ((0 : Int))) default).Keys) (([([97] : Str)] : List Str)) h56 (h44 gg0) (gcall_some hx58 (gd1_of gg0))) ?_
  refine Exec.run tyOk 400 rfl ?_
  obtain ⟨x59, hx59, hF⟩ := bnd_some hF
  refine Exec.callS (.bool (x59)) rfl rfl (fun gg0 => W_exchange_Complete ((⟨0, ([(⟨(1 : Int), [], (1 : Int), 0, []⟩ : TPart), (⟨(2 : Int), ([109] : Str), (2 : Int), 0, []⟩ : TPart)] : List TPart)⟩ : TPlacement)) ((⟨false, ([([97] : Str), ([120] : Str)] : List Str), ([([120] : Str)] : List Str)⟩ : TFootprint)) ((5 : Int)) ((2 : Int)) x13 h47 h48 h49 h45 (gcall_some hx59 (gd1_of gg0))) ?_
  refine Exec.run tyOk 400 rfl ?_
  rcases cond_some hF with ⟨hb, hF⟩ | ⟨hb, hF⟩
  · skip
    refine Exec.ifT rfl hb ?_
    refine Exec.run tyOk 400 rfl ?_
    obtain rfl := some_inj hF
    exact Exec.ret tyOk rfl rfl rfl
  · skip
    refine Exec.ifF rfl hb ?_
    refine Exec.run tyOk 400 rfl ?_
    refine Exec.draws tyOk [(0, true), (1, true), (2, true), (3, true), (4, true), (5, true), (6, true), (7, true), (8, true), (9, false), (10, false), (11, false), (12, true), (13, true), (14, false), (15, false)] rfl (by kernel_rfl) ?_
    refine Exec.run tyOk 400 rfl ?_
    obtain ⟨q60, hF⟩ := req_some hF
    obtain ⟨c61, hr61, hd61⟩ := SlAt.get h46 q60
    obtain ⟨a62, k62, a63, k63, rfl, h62, h63⟩ := hr61
    refine Exec.fia tyOk rfl rfl rfl ⟨q60.1, q60.2, hd61.some⟩ ?_
    refine Exec.run tyOk 400 rfl ?_
    refine Exec.fld tyOk (x := .agg ⟨[.int .i64 ((atI x27 ((0 : Int))).Txn), .int .i64 ((atI x27 ((0 : Int))).From), .int .i64 ((atI x27 ((0 : Int))).To), .slice a62 (((atI x27 ((0 : Int))).Keys).length) (k62), .slice a63 (((atI x27 ((0 : Int))).Pairs).length) (k63)]⟩) rfl rfl rfl hd61 rfl rfl ?_
    refine Exec.run tyOk 400 rfl ?_
    obtain ⟨q64, hF⟩ := req_some hF
    obtain ⟨c65, hr65, hd65⟩ := SlAt.get h45 q64
    obtain ⟨a66, k66, a67, k67, rfl, h66, h67⟩ := hr65
    refine Exec.fia tyOk rfl rfl rfl ⟨q64.1, q64.2, hd65.some⟩ ?_
    refine Exec.run tyOk 400 rfl ?_
    refine Exec.fld tyOk (x := .agg ⟨[.int .i64 ((atI x13 ((0 : Int))).Txn), .int .i64 ((atI x13 ((0 : Int))).From), .int .i64 ((atI x13 ((0 : Int))).To), .slice a66 (((atI x13 ((0 : Int))).Keys).length) (k66), .slice a67 (((atI x13 ((0 : Int))).Pairs).length) (k67)]⟩) rfl rfl rfl hd65 rfl rfl ?_
    refine Exec.run tyOk 400 rfl ?_
    obtain ⟨q68, hF⟩ := req_some hF
    obtain ⟨c69, hr69, hd69⟩ := SlAt.get h46 q68
    obtain ⟨a70, k70, a71, k71, rfl, h70, h71⟩ := hr69
    refine Exec.fia tyOk rfl rfl rfl ⟨q68.1, q68.2, hd69.some⟩ ?_
    refine Exec.run tyOk 400 rfl ?_
    refine Exec.fld tyOk (x := .agg ⟨[.int .i64 ((atI x27 ((0 : Int))).Txn), .int .i64 ((atI x27 ((0 : Int))).From), .int .i64 ((atI x27 ((0 : Int))).To), .slice a70 (((atI x27 ((0 : Int))).Keys).length) (k70), .slice a71 (((atI x27 ((0 : Int))).Pairs).length) (k71)]⟩) rfl rfl rfl hd69 rfl rfl ?_
    refine Exec.run tyOk 400 rfl ?_
    refine Exec.bsV tyOk rfl rfl rfl rfl rfl (fun V72 a72 hv72 hd72 => ?_)
    have h73 := SlAt.mono h45 hv72
    have h74 := SlAt.mono h46 hv72
    have h75 := SlAt.mono h47 hv72
    have h76 := SlAt.mono h48 hv72
    have h77 := SlAt.mono h49 hv72
    have h78 := SlAt.mono h50 hv72
    have h79 := SlAt.mono h51 hv72
    have h81 := SlAt.mono h62 hv72
    have h82 := SlAt.mono h63 hv72
    have h84 := SlAt.mono h66 hv72
    have h85 := SlAt.mono h67 hv72
    have h87 := SlAt.mono h70 hv72
    have h88 := SlAt.mono h71 hv72
    have h72 : SlAt cTMail V72 (some a72) 3 ([(atI x27 ((0 : Int))), (atI x13 ((0 : Int))), (atI x27 ((0 : Int)))] : List TMail) := RowRep.slat (c := cTMail) (V := V72) (cs := [.int .i64 ((atI x27 ((0 : Int))).Txn), .int .i64 ((atI x27 ((0 : Int))).From), .int .i64 ((atI x27 ((0 : Int))).To), .slice a62 (((atI x27 ((0 : Int))).Keys).length) (k62), .slice a63 (((atI x27 ((0 : Int))).Pairs).length) (k63), .int .i64 ((atI x13 ((0 : Int))).Txn), .int .i64 ((atI x13 ((0 : Int))).From), .int .i64 ((atI x13 ((0 : Int))).To), .slice a66 (((atI x13 ((0 : Int))).Keys).length) (k66), .slice a67 (((atI x13 ((0 : Int))).Pairs).length) (k67), .int .i64 ((atI x27 ((0 : Int))).Txn), .int .i64 ((atI x27 ((0 : Int))).From), .int .i64 ((atI x27 ((0 : Int))).To), .slice a70 (((atI x27 ((0 : Int))).Keys).length) (k70), .slice a71 (((atI x27 ((0 : Int))).Pairs).length) (k71)]) ⟨_, _, rfl, ⟨_, _, _, _, rfl, (SlAt.mono h62 hv72), (SlAt.mono h63 hv72)⟩, ⟨_, _, rfl, ⟨_, _, _, _, rfl, (SlAt.mono h66 hv72), (SlAt.mono h67 hv72)⟩, ⟨_, _, rfl, ⟨_, _, _, _, rfl, (SlAt.mono h70 hv72), (SlAt.mono h71 hv72)⟩, rfl⟩⟩⟩ (VLe.refl _) (fun _ => hd72) (by simp)
    refine Exec.run tyOk 400 rfl ?_
    obtain ⟨x89, hx89, hF⟩ := bnd_some hF
    refine Exec.call rfl rfl (W_exchange_Collect ((5 : Int)) ((2 : Int)) (([(atI x27 ((0 : Int))), (atI x13 ((0 : Int))), (atI x27 ((0 : Int)))] : List TMail)) h72 hx89) ?_
    rintro V91 _ hv91 ⟨a90, k90, rfl, h90⟩
    have h92 := SlAt.mono h73 hv91
    have h93 := SlAt.mono h74 hv91
    have h94 := SlAt.mono h75 hv91
    have h95 := SlAt.mono h76 hv91
    have h96 := SlAt.mono h77 hv91
    have h97 := SlAt.mono h78 hv91
    have h98 := SlAt.mono h79 hv91
    have h100 := SlAt.mono h81 hv91
    have h101 := SlAt.mono h82 hv91
    have h103 := SlAt.mono h84 hv91
    have h104 := SlAt.mono h85 hv91
    have h106 := SlAt.mono h87 hv91
    have h107 := SlAt.mono h88 hv91
    have h108 := SlAt.mono h72 hv91
    refine Exec.run tyOk 400 rfl ?_
    refine Exec.draws tyOk [(0, true), (1, true), (2, true), (3, true), (4, true), (5, true), (6, true), (7, true), (8, false), (9, false), (10, false), (11, true), (12, false), (13, false), (14, false), (15, false), (16, false), (17, false), (18, false), (19, false), (20, false), (21, false)] rfl (by kernel_rfl) ?_
    refine Exec.run tyOk 400 rfl ?_
    obtain ⟨q109, hF⟩ := req_some hF
    obtain ⟨c110, hr110, hd110⟩ := SlAt.get h93 q109
    obtain ⟨a111, k111, a112, k112, rfl, h111, h112⟩ := hr110
    refine Exec.fia tyOk rfl rfl rfl ⟨q109.1, q109.2, hd110.some⟩ ?_
    refine Exec.run tyOk 400 rfl ?_
    refine Exec.fld tyOk (x := .agg ⟨[.int .i64 ((atI x27 ((0 : Int))).Txn), .int .i64 ((atI x27 ((0 : Int))).From), .int .i64 ((atI x27 ((0 : Int))).To), .slice a111 (((atI x27 ((0 : Int))).Keys).length) (k111), .slice a112 (((atI x27 ((0 : Int))).Pairs).length) (k112)]⟩) rfl rfl rfl hd110 rfl rfl ?_
    refine Exec.run tyOk 400 rfl ?_
    obtain ⟨q113, hF⟩ := req_some hF
    obtain ⟨c114, hr114, hd114⟩ := SlAt.get h92 q113
    obtain ⟨a115, k115, a116, k116, rfl, h115, h116⟩ := hr114
    refine Exec.fia tyOk rfl rfl rfl ⟨q113.1, q113.2, hd114.some⟩ ?_
    refine Exec.run tyOk 400 rfl ?_
    refine Exec.fld tyOk (x := .agg ⟨[.int .i64 ((atI x13 ((0 : Int))).Txn), .int .i64 ((atI x13 ((0 : Int))).From), .int .i64 ((atI x13 ((0 : Int))).To), .slice a115 (((atI x13 ((0 : Int))).Keys).length) (k115), .slice a116 (((atI x13 ((0 : Int))).Pairs).length) (k116)]⟩) rfl rfl rfl hd114 rfl rfl ?_
    refine Exec.run tyOk 400 rfl ?_
    refine Exec.bsV tyOk rfl rfl rfl rfl rfl (fun V117 a117 hv117 hd117 => ?_)
    have h118 := SlAt.mono h92 hv117
    have h119 := SlAt.mono h93 hv117
    have h120 := SlAt.mono h90 hv117
    have h121 := SlAt.mono h94 hv117
    have h122 := SlAt.mono h95 hv117
    have h123 := SlAt.mono h96 hv117
    have h124 := SlAt.mono h97 hv117
    have h125 := SlAt.mono h98 hv117
    have h127 := SlAt.mono h100 hv117
    have h128 := SlAt.mono h101 hv117
    have h130 := SlAt.mono h103 hv117
    have h131 := SlAt.mono h104 hv117
    have h133 := SlAt.mono h106 hv117
    have h134 := SlAt.mono h107 hv117
    have h135 := SlAt.mono h108 hv117
    have h137 := SlAt.mono h111 hv117
    have h138 := SlAt.mono h112 hv117
    have h140 := SlAt.mono h115 hv117
    have h141 := SlAt.mono h116 hv117
    have h117 : SlAt cTMail V117 (some a117) 2 ([(atI x27 ((0 : Int))), (atI x13 ((0 : Int)))] : List TMail) := RowRep.slat (c := cTMail) (V := V117) (cs := [.int .i64 ((atI x27 ((0 : Int))).Txn), .int .i64 ((atI x27 ((0 : Int))).From), .int .i64 ((atI x27 ((0 : Int))).To), .slice a111 (((atI x27 ((0 : Int))).Keys).length) (k111), .slice a112 (((atI x27 ((0 : Int))).Pairs).length) (k112), .int .i64 ((atI x13 ((0 : Int))).Txn), .int .i64 ((atI x13 ((0 : Int))).From), .int .i64 ((atI x13 ((0 : Int))).To), .slice a115 (((atI x13 ((0 : Int))).Keys).length) (k115), .slice a116 (((atI x13 ((0 : Int))).Pairs).length) (k116)]) ⟨_, _, rfl, ⟨_, _, _, _, rfl, (SlAt.mono h111 hv117), (SlAt.mono h112 hv117)⟩, ⟨_, _, rfl, ⟨_, _, _, _, rfl, (SlAt.mono h115 hv117), (SlAt.mono h116 hv117)⟩, rfl⟩⟩ (VLe.refl _) (fun _ => hd117) (by simp)
    refine Exec.run tyOk 400 rfl ?_
    obtain ⟨x142, hx142, hF⟩ := bnd_some hF
    refine Exec.callS (.bool (x142)) rfl rfl (W_exchange_Complete ((⟨0, ([(⟨(1 : Int), [], (1 : Int), 0, []⟩ : TPart), (⟨(2 : Int), ([109] : Str), (2 : Int), 0, []⟩ : TPart)] : List TPart)⟩ : TPlacement)) ((⟨false, ([([97] : Str), ([120] : Str)] : List Str), ([([120] : Str)] : List Str)⟩ : TFootprint)) ((5 : Int)) ((2 : Int)) (([(atI x27 ((0 : Int))), (atI x13 ((0 : Int)))] : List TMail)) h121 h122 h123 h117 hx142) ?_
    refine Exec.run tyOk 400 rfl ?_
    obtain ⟨x143, hx143, hF⟩ := bnd_some hF
    refine Exec.callS (.agg ⟨[.string ⟨⟨x143.Key⟩⟩, .int .i64 (x143.Val.Kind), .int .i64 (x143.Val.N), .string ⟨⟨x143.Val.S⟩⟩]⟩) rfl rfl (fun gg0 => W_clockworklaw31_pair (([97] : Str)) ((1 : Int))  (gcall_some hx143 (gd1_of gg0))) ?_
    refine Exec.run tyOk 400 rfl ?_
    obtain ⟨x144, hx144, hF⟩ := bnd_some hF
    refine Exec.callS (.agg ⟨[.string ⟨⟨x144.Key⟩⟩, .int .i64 (x144.Val.Kind), .int .i64 (x144.Val.N), .string ⟨⟨x144.Val.S⟩⟩]⟩) rfl rfl (fun gg0 => W_clockworklaw31_pair (([120] : Str)) ((3 : Int))  (gcall_some hx144 (gd1_of gg0))) ?_
    refine Exec.run tyOk 400 rfl ?_
    refine Exec.gbsV tyOk rfl rfl rfl rfl (fun V145 a145 hv145 hg145 => ?_) rfl
    have h146 := SlAt.mono h118 hv145
    have h147 := SlAt.mono h119 hv145
    have h148 := SlAt.mono h120 hv145
    have h149 := SlAt.mono h121 hv145
    have h150 := SlAt.mono h122 hv145
    have h151 := SlAt.mono h123 hv145
    have h152 := SlAt.mono h124 hv145
    have h153 := SlAt.mono h125 hv145
    have h155 := SlAt.mono h127 hv145
    have h156 := SlAt.mono h128 hv145
    have h158 := SlAt.mono h130 hv145
    have h159 := SlAt.mono h131 hv145
    have h161 := SlAt.mono h133 hv145
    have h162 := SlAt.mono h134 hv145
    have h163 := SlAt.mono h135 hv145
    have h165 := SlAt.mono h137 hv145
    have h166 := SlAt.mono h138 hv145
    have h168 := SlAt.mono h140 hv145
    have h169 := SlAt.mono h141 hv145
    have h170 := SlAt.mono h117 hv145
    have h145 : (x142) = true → SlAt cTPair V145 ((some a145)) 2 (([x143, x144] : List TPair)) := fun gg0 => RowRep.slat (c := cTPair) (V := V145) (cs := [.string ⟨⟨x143.Key⟩⟩, .int .i64 (x143.Val.Kind), .int .i64 (x143.Val.N), .string ⟨⟨x143.Val.S⟩⟩, .string ⟨⟨x144.Key⟩⟩, .int .i64 (x144.Val.Kind), .int .i64 (x144.Val.N), .string ⟨⟨x144.Val.S⟩⟩]) ⟨_, _, rfl, rfl, ⟨_, _, rfl, rfl, rfl⟩⟩ (VLe.refl _) (fun _ => hg145 gg0) (by simp)
    refine Exec.run tyOk 400 rfl ?_
    obtain ⟨x171, hx171, hF⟩ := bnd_some hF
    refine Exec.callS (.bool (x171)) rfl rfl (fun gg0 => W_clockworkref06_Same x89.1 (([x143, x144] : List TPair)) h148 (h145 gg0) (gcall_some hx171 (gd1_of gg0))) ?_
    refine Exec.run tyOk 400 rfl ?_
    obtain rfl := some_inj hF
    exact Exec.ret tyOk rfl rfl rfl

def F_clockworklaw31_ExchangeComplete_L2 (x244 : Int) (x26 : List TMail) (x1 : TPlacement) (J249 : Option Bool) : Nat → Int → Option Bool
  | 0, _ => none
  | n254 + 1, x253 => (req (0 ≤ x244 ∧ x244 < ((x26).length : Int)) (cond (decide (x253 < ((((atI x26 x244).Keys).length : Nat) : Int))) (req (0 ≤ x244 ∧ x244 < ((x26).length : Int)) (req (0 ≤ x253 ∧ x253 < (((atI x26 x244).Keys).length : Int)) (req (0 ≤ x244 ∧ x244 < ((x26).length : Int)) (bnd (F_clockworkref29_Owner x1 ((atI ((atI x26 x244).Keys) x253))) fun x272 => (cond (x272 != (atI x26 x244).From) (some false) (F_clockworklaw31_ExchangeComplete_L2 x244 x26 x1 J249 n254 ((IntKind.i64.wrap (x253 + (1 : Int)))))))))) J249))

def F_clockworklaw31_ExchangeComplete_L1 (x26 : List TMail) (x1 : TPlacement) (J241 : Option Bool) : Nat → Int → Option Bool
  | 0, _ => none
  | n245 + 1, x244 => (cond (decide (x244 < (((x26).length : Nat) : Int))) (jn ((F_clockworklaw31_ExchangeComplete_L1 x26 x1 J241 n245 ((IntKind.i64.wrap (x244 + (1 : Int)))))) (fun J249 => (F_clockworklaw31_ExchangeComplete_L2 x244 x26 x1 J249 (1000000 : Nat) ((0 : Int))))) J241)

def F_clockworklaw31_ExchangeComplete_L3 (x44 : List Int) (x1 : TPlacement) (x3 : TFootprint) (x8 : Int) (x26 : List TMail) (x28 : List TMail) (x56 : Bool) (x35 : List Int) (x6 : List TPair) (J237 : Option Bool) : Nat → Int → Option Bool
  | 0, _ => none
  | n275 + 1, x274 => (cond (decide (x274 < (((x44).length : Nat) : Int))) (req (0 ≤ x274 ∧ x274 < ((x44).length : Int)) (bnd (F_exchange_Complete x1 x3 x8 ((atI x44 x274)) x26) fun x286 => (req ((((!x286)) == false) = true → 0 ≤ x274 ∧ x274 < ((x44).length : Int)) (bnd (gcall (((!x286)) == false) (F_exchange_Complete x1 x3 x8 ((cond (((!x286)) == false) (atI x44 x274) default)) x28)) fun x289 => (cond ((!x286) || (x289 == x56)) (some false) (req (0 ≤ x274 ∧ x274 < ((x44).length : Int)) (bnd (F_exchange_Collect x8 ((atI x44 x274)) x26) fun x292 => (jn ((F_clockworklaw31_ExchangeComplete_L3 x44 x1 x3 x8 x26 x28 x56 x35 x6 J237 n275 ((IntKind.i64.wrap (x274 + (1 : Int)))))) (fun J306 => (cond ((((x35).length : Nat) : Int) == (0 : Int)) (cond ((x292.2 != (9 : Int)) || (decide ((0 : Int) < (((x292.1).length : Nat) : Int)))) (some false) J306) (bnd (gcall (((x292.2 != (0 : Int))) == false) (F_clockworklaw31_wanted x3 x6)) fun x315 => (bnd (gcall (((x292.2 != (0 : Int))) == false) (F_clockworkref06_Same x292.1 x315)) fun x329 => (cond ((x292.2 != (0 : Int)) || (!x329)) (some false) J306))))))))))))) J237)

def F_clockworklaw31_ExchangeComplete_L4 (x35 : List Int) (x9 : Int) (J57 : Bool → Option Bool) : Nat → Bool → Int → Option Bool
  | 0, _, _ => none
  | n334 + 1, x332, x333 => (cond (decide (x333 < (((x35).length : Nat) : Int))) (req (((x332) == false) = true → 0 ≤ x333 ∧ x333 < ((x35).length : Int)) (F_clockworklaw31_ExchangeComplete_L4 x35 x9 J57 n334 ((x332 || ((cond ((x332) == false) (atI x35 x333) default) == x9))) ((IntKind.i64.wrap (x333 + (1 : Int)))))) (J57 x332))

def F_clockworklaw31_ExchangeComplete_L5 (x16 : List TShard) (x1 : TPlacement) (x8 : Int) (x3 : TFootprint) (x9 : Int) (J29 : (List TMail) → (List TMail) → Option Bool) : Nat → (List TMail) → (List TMail) → Int → Option Bool
  | 0, _, _, _ => none
  | n349 + 1, x345, x347, x348 => (cond (decide (x348 < (((x16).length : Nat) : Int))) (req (0 ≤ x348 ∧ x348 < ((x16).length : Int)) (bnd (F_exchange_Send x1 ((atI x16 x348)) x8 x3) fun x359 => (req (((x345 ++ x359)).length * 72 ≤ 140737488355328) (req (0 ≤ x348 ∧ x348 < ((x16).length : Int)) (jn (fun (x377 : List TMail) (x379 : List TMail) => (F_clockworklaw31_ExchangeComplete_L5 x16 x1 x8 x3 x9 J29 n349 x377 x379 ((IntKind.i64.wrap (x348 + (1 : Int)))))) (fun J380 => (cond ((atI x16 x348).Node != x9) (req (((x347 ++ x359)).length * 72 ≤ 140737488355328) (J380 ((x345 ++ x359)) ((x347 ++ x359)))) (J380 ((x345 ++ x359)) x347)))))))) (J29 x345 x347))

def F_clockworklaw31_ExchangeComplete (x1 : TPlacement) (x3 : TFootprint) (x6 : List TPair) (x8 : Int) (x9 : Int) : Option Bool :=
  (bnd (F_clockworkref31_Light x1 x3) fun x10 => (bnd (gcall (((!x10)) == false) (F_clockworkref31_Few x6 ((12 : Int)))) fun x11 => (bnd (gcall ((((!x10) || (!x11))) == false) (F_placement_Valid x1)) fun x12 => (bnd (gcall (((((!x10) || (!x11)) || (!x12))) == false) (F_footprint_Valid x3)) fun x13 => (bnd (gcall ((((((!x10) || (!x11)) || (!x12)) || (!x13))) == false) (F_clockworkref06_Valid x6)) fun x14 => (cond (((((!x10) || (!x11)) || (!x12)) || (!x13)) || (!x14)) (bnd (F_clockworklaw31_lives ) fun x15 => (some x15)) (bnd (F_clockworkref31_Shards x1 x6) fun x16 => (jn (fun (x26 : List TMail) (x28 : List TMail) => (bnd (F_route_Nodes x1 x3) fun x35 => (bnd (F_route_Executors x1 x3) fun x44 => (jn (fun (x56 : Bool) => (cond ((((x26).length : Nat) : Int) != (IntKind.i64.wrap ((((x35).length : Nat) : Int) * (((x44).length : Nat) : Int)))) (some false) (jn ((jn ((bnd (F_clockworklaw31_lives ) fun x243 => (some x243))) (fun J241 => (F_clockworklaw31_ExchangeComplete_L1 x26 x1 J241 (((((x26).length : Nat) : Int)).toNat + 1) ((0 : Int)))))) (fun J237 => (F_clockworklaw31_ExchangeComplete_L3 x44 x1 x3 x8 x26 x28 x56 x35 x6 J237 (((((x44).length : Nat) : Int)).toNat + 1) ((0 : Int))))))) (fun J57 => (F_clockworklaw31_ExchangeComplete_L4 x35 x9 J57 (((((x35).length : Nat) : Int)).toNat + 1) false ((0 : Int)))))))) (fun J29 => (F_clockworklaw31_ExchangeComplete_L5 x16 x1 x8 x3 x9 J29 (((((x16).length : Nat) : Int)).toNat + 1) (([] : List TMail)) (([] : List TMail)) ((0 : Int))))))))))))

set_option maxRecDepth 100000 in
theorem W_clockworklaw31_ExchangeComplete {V : View} (x1 : TPlacement) (x3 : TFootprint) (x6 : List TPair) (x8 : Int) (x9 : Int) {a2 : Option Addr} {k2 : Nat} {a4 : Option Addr} {k4 : Nat} {a5 : Option Addr} {k5 : Nat} {a7 : Option Addr} {k7 : Nat} (h2 : SlAt cTPart V a2 k2 x1.Parts) (h4 : SlAt cStr V a4 k4 x3.Reads) (h5 : SlAt cStr V a5 k5 x3.Writes) (h7 : SlAt cTPair V a7 k7 x6) {r : Bool} (hF : F_clockworklaw31_ExchangeComplete x1 x3 x6 x8 x9 = some r) :
    Spec Tryz.prog 3 [.agg ⟨[.int .i64 (x1.Version), .slice a2 ((x1.Parts).length) (k2)]⟩, .agg ⟨[.bool (x3.All), .slice a4 ((x3.Reads).length) (k4), .slice a5 ((x3.Writes).length) (k5)]⟩, .slice a7 ((x6).length) (k7), .int .i64 (x8), .int .i64 (x9)] V (fun _ v => v = .bool (r)) := by
  unfold F_clockworklaw31_ExchangeComplete at hF
  refine Spec.enter (T := tyT) Tryz.func3 rfl (by kernel_rfl) rfl rfl rfl ?_
  refine Exec.run tyOk 400 rfl ?_
  obtain ⟨x10, hx10, hF⟩ := bnd_some hF
  refine Exec.callS (.bool (x10)) rfl rfl (W_clockworkref31_Light x1 x3 h2 h4 h5 hx10) ?_
  refine Exec.run tyOk 400 rfl ?_
  obtain ⟨x11, hx11, hF⟩ := bnd_some hF
  refine Exec.callS (.bool (x11)) rfl rfl (fun gg0 => W_clockworkref31_Few x6 ((12 : Int)) h7 (gcall_some hx11 (gd1_of gg0))) ?_
  refine Exec.run tyOk 400 rfl ?_
  obtain ⟨x12, hx12, hF⟩ := bnd_some hF
  refine Exec.callS (.bool (x12)) rfl rfl (fun gg0 => W_placement_Valid x1 h2 (gcall_some hx12 (gd1_of gg0))) ?_
  refine Exec.run tyOk 400 rfl ?_
  obtain ⟨x13, hx13, hF⟩ := bnd_some hF
  refine Exec.callS (.bool (x13)) rfl rfl (fun gg0 => W_footprint_Valid x3 h4 h5 (gcall_some hx13 (gd1_of gg0))) ?_
  refine Exec.run tyOk 400 rfl ?_
  obtain ⟨x14, hx14, hF⟩ := bnd_some hF
  refine Exec.callS (.bool (x14)) rfl rfl (fun gg0 => W_clockworkref06_Valid x6 h7 (gcall_some hx14 (gd1_of gg0))) ?_
  refine Exec.run tyOk 400 rfl ?_
  rcases cond_some hF with ⟨hb, hF⟩ | ⟨hb, hF⟩
  · skip
    refine Exec.ifT rfl hb ?_
    refine Exec.run tyOk 400 rfl ?_
    obtain ⟨x15, hx15, hF⟩ := bnd_some hF
    refine Exec.callS (.bool (x15)) rfl rfl (W_clockworklaw31_lives   hx15) ?_
    refine Exec.run tyOk 400 rfl ?_
    obtain rfl := some_inj hF
    exact Exec.ret tyOk rfl rfl rfl
  · skip
    refine Exec.ifF rfl hb ?_
    refine Exec.run tyOk 400 rfl ?_
    obtain ⟨x16, hx16, hF⟩ := bnd_some hF
    refine Exec.call rfl rfl (W_clockworkref31_Shards x1 x6 h2 h7 hx16) ?_
    rintro V18 _ hv18 ⟨a17, k17, rfl, h17⟩
    have h19 := SlAt.mono h2 hv18
    have h20 := SlAt.mono h4 hv18
    have h21 := SlAt.mono h5 hv18
    have h22 := SlAt.mono h7 hv18
    refine Exec.run tyOk 7 rfl ?_
    refine Exec.row0 50 5 rfl ?_
    have h23 : RowRep cTMail V18 ([] : List TMail) [] := RowRep.nil
    refine Exec.row0 50 5 rfl ?_
    have h24 : RowRep cTMail V18 ([] : List TMail) [] := RowRep.nil
    obtain ⟨J29, hJ29, hF⟩ := jn_some hF
    refine Exec.seam (fun L' V' M' => ∃ (x26 : List TMail) (a25 : Option Addr) (k25 : Nat) (cs25 : List Value) (x28 : List TMail) (a27 : Option Addr) (k27 : Nat) (cs27 : List Value), L' = [(2, .v (.slice a7 ((x6).length) (k7))), (3, .v (.int .i64 (x8))), (4, .v (.int .i64 (x9))), (5, .ptr 0 0), (6, .ptr 1 0), (11, .v (.slice a25 ((x26).length) (k25))), (12, .v (.slice a27 ((x28).length) (k27)))] ∧ M' = [.blk [.v (.int .i64 (x1.Version)), .v (.slice a2 ((x1.Parts).length) (k2))] 24, .blk [.v (.bool (x3.All)), .v (.slice a4 ((x3.Reads).length) (k4)), .v (.slice a5 ((x3.Writes).length) (k5))] 27, .row (.slice a25 ((x26).length) (k25)) cs25 50 5, .row (.slice a27 ((x28).length) (k27)) cs27 50 5] ∧ RowRep cTMail V' x26 cs25 ∧ RowRep cTMail V' x28 cs27 ∧ SlAt cTPair V' a7 k7 x6 ∧ SlAt cTPart V' a2 k2 x1.Parts ∧ SlAt cStr V' a4 k4 x3.Reads ∧ SlAt cStr V' a5 k5 x3.Writes ∧ J29 x26 x28 = some r) rfl ?_ ?_
    · rintro L' V30 M' ⟨x26, a25, k25, cs25, x28, a27, k27, cs27, rfl, rfl, h25, h27, h31, h32, h33, h34, hF⟩
      subst hJ29
      refine Exec.run tyOk 400 rfl ?_
      obtain ⟨x35, hx35, hF⟩ := bnd_some hF
      refine Exec.call rfl rfl (W_route_Nodes x1 x3 h32 h33 h34 hx35) ?_
      rintro V37 _ hv37 ⟨a36, k36, rfl, h36⟩
      have h38 := SlAt.mono h31 hv37
      have h39 := SlAt.mono h32 hv37
      have h40 := SlAt.mono h33 hv37
      have h41 := SlAt.mono h34 hv37
      have h42 := RowRep.mono hv37 h25
      have h43 := RowRep.mono hv37 h27
      refine Exec.run tyOk 400 rfl ?_
      obtain ⟨x44, hx44, hF⟩ := bnd_some hF
      refine Exec.call rfl rfl (W_route_Executors x1 x3 h39 h40 h41 hx44) ?_
      rintro V46 _ hv46 ⟨a45, k45, rfl, h45⟩
      have h47 := SlAt.mono h38 hv46
      have h48 := SlAt.mono h36 hv46
      have h49 := SlAt.mono h39 hv46
      have h50 := SlAt.mono h40 hv46
      have h51 := SlAt.mono h41 hv46
      have h52 := RowRep.mono hv46 h42
      have h53 := RowRep.mono hv46 h43
      refine Exec.run tyOk 11 rfl ?_
      obtain ⟨J57, hJ57, hF⟩ := jn_some hF
      refine Exec.seam (fun L' V' M' => ∃ (x56 : Bool), L' = [(2, .v (.slice a7 ((x6).length) (k7))), (3, .v (.int .i64 (x8))), (5, .ptr 0 0), (6, .ptr 1 0), (11, .v (.slice a25 ((x26).length) (k25))), (12, .v (.slice a27 ((x28).length) (k27))), (16, .v (.slice a36 ((x35).length) (k36))), (17, .v (.slice a45 ((x44).length) (k45))), (18, .v (.bool (x56)))] ∧ M' = [.blk [.v (.int .i64 (x1.Version)), .v (.slice a2 ((x1.Parts).length) (k2))] 24, .blk [.v (.bool (x3.All)), .v (.slice a4 ((x3.Reads).length) (k4)), .v (.slice a5 ((x3.Writes).length) (k5))] 27, .row (.slice a25 ((x26).length) (k25)) cs25 50 5, .row (.slice a27 ((x28).length) (k27)) cs27 50 5] ∧ RowRep cTMail V' x26 cs25 ∧ RowRep cTMail V' x28 cs27 ∧ SlAt cTPair V' a7 k7 x6 ∧ SlAt (cInt .i64) V' a36 k36 x35 ∧ SlAt (cInt .i64) V' a45 k45 x44 ∧ SlAt cTPart V' a2 k2 x1.Parts ∧ SlAt cStr V' a4 k4 x3.Reads ∧ SlAt cStr V' a5 k5 x3.Writes ∧ J57 x56 = some r) rfl ?_ ?_
      · rintro L' V58 M' ⟨x56, rfl, rfl, h54, h55, h59, h60, h61, h62, h63, h64, hF⟩
        subst hJ57
        refine Exec.run tyOk 400 rfl ?_
        rcases cond_some hF with ⟨hb, hF⟩ | ⟨hb, hF⟩
        · skip
          refine Exec.ifT rfl hb ?_
          refine Exec.run tyOk 400 rfl ?_
          obtain rfl := some_inj hF
          exact Exec.ret tyOk rfl rfl rfl
        · skip
          refine Exec.ifF rfl hb ?_
          refine Exec.run tyOk 6 rfl ?_
          refine Exec.frz 2 rfl rfl rfl (fun V229 hv229 hd229 hn229 => ?_)
          have hz229 := RowRep.slat h54 hv229 hd229 hn229
          have h230 := SlAt.mono h59 hv229
          have h231 := SlAt.mono h60 hv229
          have h232 := SlAt.mono h61 hv229
          have h233 := SlAt.mono h62 hv229
          have h234 := SlAt.mono h63 hv229
          have h235 := SlAt.mono h64 hv229
          have h236 := RowRep.mono hv229 h55
          obtain ⟨J237, hJ237, hF⟩ := jn_some hF
          refine Exec.seam (fun L' V' M' => L' = [(5, .ptr 0 0), (11, .v (.slice a25 ((x26).length) (k25)))] ∧ M' = [.blk [.v (.int .i64 (x1.Version)), .v (.slice a2 ((x1.Parts).length) (k2))] 24] ∧ SlAt cTMail V' a25 k25 x26 ∧ SlAt cTPart V' a2 k2 x1.Parts ∧ J237 = some r) rfl ?_ ?_
          · rintro L' V238 M' ⟨rfl, rfl, h239, h240, hF⟩
            subst hJ237
            refine Exec.run tyOk 5 rfl ?_
            obtain ⟨J241, hJ241, hF⟩ := jn_some hF
            refine Exec.seam (fun L' V' M' => L' = [] ∧ M' = [] ∧ J241 = some r) rfl ?_ ?_
            · rintro L' V242 M' ⟨rfl, rfl, hF⟩
              subst hJ241
              refine Exec.run tyOk 400 rfl ?_
              obtain ⟨x243, hx243, hF⟩ := bnd_some hF
              refine Exec.callS (.bool (x243)) rfl rfl (W_clockworklaw31_lives   hx243) ?_
              refine Exec.run tyOk 400 rfl ?_
              obtain rfl := some_inj hF
              exact Exec.ret tyOk rfl rfl rfl
            · skip
              refine Exec.run tyOk 400 rfl ?_
              refine Exec.loop (fun n245 L' V' M' => ∃ (x244 : Int), L' = [(5, .ptr 0 0), (11, .v (.slice a25 ((x26).length) (k25))), (23, .v (.int .i64 (x244)))] ∧ M' = [.blk [.v (.int .i64 (x1.Version)), .v (.slice a2 ((x1.Parts).length) (k2))] 24] ∧ SlAt cTMail V' a25 k25 x26 ∧ SlAt cTPart V' a2 k2 x1.Parts ∧ F_clockworklaw31_ExchangeComplete_L1 x26 x1 J241 n245 x244 = some r) ⟨(((((x26).length : Nat) : Int)).toNat + 1), [(5, .ptr 0 0), (11, .v (.slice a25 ((x26).length) (k25))), (23, .v (.int .i64 ((0 : Int))))], ⟨rfl, rfl, rfl, trivial⟩, (0 : Int), rfl, rfl, h239, h240, hF⟩ ?_
              rintro n245 L' V246 M' ⟨x244, rfl, rfl, h247, h248, hF⟩
              rcases n245 with _ | n245
              · exact absurd hF (by simp [F_clockworklaw31_ExchangeComplete_L1])
              rw [F_clockworklaw31_ExchangeComplete_L1] at hF
              refine Exec.run tyOk 400 rfl ?_
              rcases cond_some hF with ⟨hb, hF⟩ | ⟨hb, hF⟩
              · skip
                refine Exec.ifT rfl hb ?_
                refine Exec.run tyOk 7 rfl ?_
                obtain ⟨J249, hJ249, hF⟩ := jn_some hF
                refine Exec.seam (fun L' V' M' => L' = [(5, .ptr 0 0), (11, .v (.slice a25 ((x26).length) (k25))), (23, .v (.int .i64 (x244)))] ∧ M' = [.blk [.v (.int .i64 (x1.Version)), .v (.slice a2 ((x1.Parts).length) (k2))] 24] ∧ SlAt cTMail V' a25 k25 x26 ∧ SlAt cTPart V' a2 k2 x1.Parts ∧ J249 = some r) rfl ?_ ?_
                · rintro L' V250 M' ⟨rfl, rfl, h251, h252, hF⟩
                  subst hJ249
                  refine Exec.run tyOk 400 rfl ?_
                  exact Exec.round [(5, .ptr 0 0), (11, .v (.slice a25 ((x26).length) (k25))), (23, .v (.int .i64 ((IntKind.i64.wrap (x244 + (1 : Int))))))] ⟨rfl, rfl, rfl, trivial⟩ ⟨n245, Nat.lt_succ_self _, (IntKind.i64.wrap (x244 + (1 : Int))), rfl, rfl, h251, h252, hF⟩
                · skip
                  refine Exec.run tyOk 400 rfl ?_
                  refine Exec.loop (fun n254 L' V' M' => ∃ (x253 : Int), L' = [(5, .ptr 0 0), (11, .v (.slice a25 ((x26).length) (k25))), (23, .v (.int .i64 (x244))), (24, .v (.int .i64 (x253)))] ∧ M' = [.blk [.v (.int .i64 (x1.Version)), .v (.slice a2 ((x1.Parts).length) (k2))] 24] ∧ SlAt cTMail V' a25 k25 x26 ∧ SlAt cTPart V' a2 k2 x1.Parts ∧ F_clockworklaw31_ExchangeComplete_L2 x244 x26 x1 J249 n254 x253 = some r) ⟨(1000000 : Nat), [(5, .ptr 0 0), (11, .v (.slice a25 ((x26).length) (k25))), (23, .v (.int .i64 (x244))), (24, .v (.int .i64 ((0 : Int))))], ⟨rfl, rfl, rfl, rfl, trivial⟩, (0 : Int), rfl, rfl, h247, h248, hF⟩ ?_
                  rintro n254 L' V255 M' ⟨x253, rfl, rfl, h256, h257, hF⟩
                  rcases n254 with _ | n254
                  · exact absurd hF (by simp [F_clockworklaw31_ExchangeComplete_L2])
                  rw [F_clockworklaw31_ExchangeComplete_L2] at hF
                  refine Exec.run tyOk 400 rfl ?_
                  obtain ⟨q258, hF⟩ := req_some hF
                  obtain ⟨c259, hr259, hd259⟩ := SlAt.get h256 q258
                  obtain ⟨a260, k260, a261, k261, rfl, h260, h261⟩ := hr259
                  refine Exec.ia tyOk rfl rfl ⟨q258.1, q258.2, hd259.some⟩ ?_
                  refine Exec.run tyOk 400 rfl ?_
                  refine Exec.ld tyOk (x := .slice a260 (((atI x26 x244).Keys).length) (k260)) rfl rfl (RdAt.part hd259 3 1 rfl) rfl rfl ?_
                  refine Exec.run tyOk 400 rfl ?_
                  rcases cond_some hF with ⟨hb, hF⟩ | ⟨hb, hF⟩
                  · skip
                    refine Exec.ifT rfl hb ?_
                    refine Exec.run tyOk 400 rfl ?_
                    refine Exec.draws tyOk [(0, true), (1, true), (2, true), (3, true), (4, true), (5, true), (6, true), (7, true), (8, true), (10, true), (11, true), (12, true), (13, true), (14, true), (9, false), (15, false)] rfl (by kernel_rfl) ?_
                    refine Exec.run tyOk 400 rfl ?_
                    obtain ⟨q262, hF⟩ := req_some hF
                    obtain ⟨c263, hr263, hd263⟩ := SlAt.get h256 q262
                    obtain ⟨a264, k264, a265, k265, rfl, h264, h265⟩ := hr263
                    refine Exec.fia tyOk rfl rfl rfl ⟨q262.1, q262.2, hd263.some⟩ ?_
                    refine Exec.run tyOk 400 rfl ?_
                    refine Exec.fld tyOk (x := .slice a264 (((atI x26 x244).Keys).length) (k264)) rfl rfl rfl (RdAt.part hd263 3 1 rfl) rfl rfl ?_
                    refine Exec.run tyOk 400 rfl ?_
                    obtain ⟨q266, hF⟩ := req_some hF
                    obtain ⟨c267, hr267, hd267⟩ := SlAt.get h264 q266
                    obtain rfl := hr267
                    refine Exec.fia tyOk rfl rfl rfl ⟨q266.1, q266.2, hd267.some⟩ ?_
                    refine Exec.run tyOk 400 rfl ?_
                    refine Exec.fld tyOk (x := .string ⟨⟨(atI ((atI x26 x244).Keys) x253)⟩⟩) rfl rfl rfl hd267 rfl rfl ?_
                    refine Exec.run tyOk 400 rfl ?_
                    obtain ⟨q268, hF⟩ := req_some hF
                    obtain ⟨c269, hr269, hd269⟩ := SlAt.get h256 q268
                    obtain ⟨a270, k270, a271, k271, rfl, h270, h271⟩ := hr269
                    refine Exec.fia tyOk rfl rfl rfl ⟨q268.1, q268.2, hd269.some⟩ ?_
                    refine Exec.run tyOk 400 rfl ?_
                    refine Exec.fld tyOk (x := .int .i64 ((atI x26 x244).From)) rfl rfl rfl (RdAt.part hd269 1 1 rfl) rfl rfl ?_
                    refine Exec.run tyOk 400 rfl ?_
                    obtain ⟨x272, hx272, hF⟩ := bnd_some hF
                    refine Exec.callS (.int .i64 (x272)) rfl rfl (W_clockworkref29_Owner x1 ((atI ((atI x26 x244).Keys) x253)) h257 hx272) ?_
                    refine Exec.run tyOk 400 rfl ?_
                    rcases cond_some hF with ⟨hb, hF⟩ | ⟨hb, hF⟩
                    · skip
                      refine Exec.ifT rfl hb ?_
                      refine Exec.run tyOk 400 rfl ?_
                      obtain rfl := some_inj hF
                      exact Exec.ret tyOk rfl rfl rfl
                    · skip
                      refine Exec.ifF rfl hb ?_
                      refine Exec.run tyOk 400 rfl ?_
                      exact Exec.round [(5, .ptr 0 0), (11, .v (.slice a25 ((x26).length) (k25))), (23, .v (.int .i64 (x244))), (24, .v (.int .i64 ((IntKind.i64.wrap (x253 + (1 : Int))))))] ⟨rfl, rfl, rfl, rfl, trivial⟩ ⟨n254, Nat.lt_succ_self _, (IntKind.i64.wrap (x253 + (1 : Int))), rfl, rfl, h256, h257, hF⟩
                  · skip
                    refine Exec.ifF rfl hb ?_
                    refine Exec.run tyOk 400 rfl ?_
                    exact Exec.round [(5, .ptr 0 0), (11, .v (.slice a25 ((x26).length) (k25))), (23, .v (.int .i64 (x244)))] ⟨rfl, rfl, rfl, trivial⟩ ⟨rfl, rfl, h256, h257, hF⟩
              · skip
                refine Exec.ifF rfl hb ?_
                refine Exec.run tyOk 400 rfl ?_
                refine Exec.cut 0 [] (M' := []) rfl trivial rfl rfl rfl ?_
                exact Exec.round [] trivial ⟨rfl, rfl, hF⟩
          · skip
            refine Exec.run tyOk 400 rfl ?_
            refine Exec.loop (fun n275 L' V' M' => ∃ (x274 : Int), L' = [(2, .v (.slice a7 ((x6).length) (k7))), (3, .v (.int .i64 (x8))), (5, .ptr 0 0), (6, .ptr 1 0), (11, .v (.slice a25 ((x26).length) (k25))), (12, .v (.slice a27 ((x28).length) (k27))), (16, .v (.slice a36 ((x35).length) (k36))), (17, .v (.slice a45 ((x44).length) (k45))), (18, .v (.bool (x56))), (20, .v (.int .i64 (x274)))] ∧ M' = [.blk [.v (.int .i64 (x1.Version)), .v (.slice a2 ((x1.Parts).length) (k2))] 24, .blk [.v (.bool (x3.All)), .v (.slice a4 ((x3.Reads).length) (k4)), .v (.slice a5 ((x3.Writes).length) (k5))] 27, .unk, .row (.slice a27 ((x28).length) (k27)) cs27 50 5] ∧ RowRep cTMail V' x28 cs27 ∧ SlAt cTPair V' a7 k7 x6 ∧ SlAt cTMail V' a25 k25 x26 ∧ SlAt (cInt .i64) V' a36 k36 x35 ∧ SlAt (cInt .i64) V' a45 k45 x44 ∧ SlAt cTPart V' a2 k2 x1.Parts ∧ SlAt cStr V' a4 k4 x3.Reads ∧ SlAt cStr V' a5 k5 x3.Writes ∧ F_clockworklaw31_ExchangeComplete_L3 x44 x1 x3 x8 x26 x28 x56 x35 x6 J237 n275 x274 = some r) ⟨(((((x44).length : Nat) : Int)).toNat + 1), [(2, .v (.slice a7 ((x6).length) (k7))), (3, .v (.int .i64 (x8))), (5, .ptr 0 0), (6, .ptr 1 0), (11, .v (.slice a25 ((x26).length) (k25))), (12, .v (.slice a27 ((x28).length) (k27))), (16, .v (.slice a36 ((x35).length) (k36))), (17, .v (.slice a45 ((x44).length) (k45))), (18, .v (.bool (x56))), (20, .v (.int .i64 ((0 : Int))))], ⟨rfl, rfl, rfl, rfl, rfl, rfl, rfl, rfl, rfl, rfl, trivial⟩, (0 : Int), rfl, rfl, h236, h230, hz229, h231, h232, h233, h234, h235, hF⟩ ?_
            rintro n275 L' V276 M' ⟨x274, rfl, rfl, h273, h277, h278, h279, h280, h281, h282, h283, hF⟩
            rcases n275 with _ | n275
            · exact absurd hF (by simp [F_clockworklaw31_ExchangeComplete_L3])
            rw [F_clockworklaw31_ExchangeComplete_L3] at hF
            refine Exec.run tyOk 400 rfl ?_
            rcases cond_some hF with ⟨hb, hF⟩ | ⟨hb, hF⟩
            · skip
              refine Exec.ifT rfl hb ?_
              refine Exec.run tyOk 400 rfl ?_
              refine Exec.draws tyOk [(0, true), (1, true), (2, true), (3, true), (4, true), (5, true), (6, true), (7, true), (8, false), (9, false), (10, false), (11, true), (12, true), (13, true), (14, true), (15, true), (16, true), (17, true), (18, true), (20, true), (19, false), (21, false), (22, false)] rfl (by kernel_rfl) ?_
              refine Exec.run tyOk 400 rfl ?_
              obtain ⟨q284, hF⟩ := req_some hF
              obtain ⟨c285, hr285, hd285⟩ := SlAt.get h280 q284
              obtain rfl := hr285
              refine Exec.fia tyOk rfl rfl rfl ⟨q284.1, q284.2, hd285.some⟩ ?_
              refine Exec.run tyOk 400 rfl ?_
              refine Exec.fld tyOk (x := .int .i64 ((atI x44 x274))) rfl rfl rfl hd285 rfl rfl ?_
              refine Exec.run tyOk 400 rfl ?_
              obtain ⟨x286, hx286, hF⟩ := bnd_some hF
              refine Exec.callS (.bool (x286)) rfl rfl (W_exchange_Complete x1 x3 x8 ((atI x44 x274)) x26 h281 h282 h283 h278 hx286) ?_
              refine Exec.run tyOk 400 rfl ?_
              obtain ⟨q287, hF⟩ := req_some hF
              obtain ⟨c288, hr288, hd288⟩ := SlAt.gget (((!x286)) == false) h280 q287
              obtain rfl := hr288
              refine Exec.fia tyOk rfl rfl rfl (fun gg0 => ⟨(q287 (gd1_of gg0)).1, (q287 (gd1_of gg0)).2, (hd288 (gd1_of gg0)).some⟩) ?_
              refine Exec.run tyOk 400 rfl ?_
              refine Exec.fld tyOk (x := .int .i64 ((cond (((!x286)) == false) (atI x44 x274) default))) rfl rfl rfl (fun gg0 => (hd288 (gd1_of gg0))) rfl rfl ?_
              refine Exec.run tyOk 400 rfl ?_
              obtain ⟨x289, hx289, hF⟩ := bnd_some hF
              refine Exec.callL (.bool (x289)) rfl rfl (fun _ hv hl => fun gg0 => W_exchange_Complete x1 x3 x8 ((cond (((!x286)) == false) (atI x44 x274) default)) x28 (SlAt.mono h281 hv) (SlAt.mono h282 hv) (SlAt.mono h283 hv) (RowRep.slat h273 hv (hl 3 _ _ _ _ _ _ rfl).1 (hl 3 _ _ _ _ _ _ rfl).2) (gcall_some hx289 (gd1_of gg0))) ?_
              refine Exec.run tyOk 400 rfl ?_
              rcases cond_some hF with ⟨hb, hF⟩ | ⟨hb, hF⟩
              · skip
                refine Exec.ifT rfl hb ?_
                refine Exec.run tyOk 400 rfl ?_
                obtain rfl := some_inj hF
                exact Exec.ret tyOk rfl rfl rfl
              · skip
                refine Exec.ifF rfl hb ?_
                refine Exec.run tyOk 400 rfl ?_
                obtain ⟨q290, hF⟩ := req_some hF
                obtain ⟨c291, hr291, hd291⟩ := SlAt.get h280 q290
                obtain rfl := hr291
                refine Exec.ia tyOk rfl rfl ⟨q290.1, q290.2, hd291.some⟩ ?_
                refine Exec.run tyOk 400 rfl ?_
                refine Exec.ld tyOk (x := .int .i64 ((atI x44 x274))) rfl rfl hd291 rfl rfl ?_
                refine Exec.run tyOk 400 rfl ?_
                obtain ⟨x292, hx292, hF⟩ := bnd_some hF
                refine Exec.call rfl rfl (W_exchange_Collect x8 ((atI x44 x274)) x26 h278 hx292) ?_
                rintro V294 _ hv294 ⟨a293, k293, rfl, h293⟩
                have h295 := SlAt.mono h277 hv294
                have h296 := SlAt.mono h278 hv294
                have h297 := SlAt.mono h279 hv294
                have h298 := SlAt.mono h280 hv294
                have h299 := SlAt.mono h281 hv294
                have h300 := SlAt.mono h282 hv294
                have h301 := SlAt.mono h283 hv294
                have h304 := RowRep.mono hv294 h273
                refine Exec.run tyOk 400 rfl ?_
                obtain ⟨J306, hJ306, hF⟩ := jn_some hF
                refine Exec.seam (fun L' V' M' => L' = [(2, .v (.slice a7 ((x6).length) (k7))), (3, .v (.int .i64 (x8))), (5, .ptr 0 0), (6, .ptr 1 0), (11, .v (.slice a25 ((x26).length) (k25))), (12, .v (.slice a27 ((x28).length) (k27))), (16, .v (.slice a36 ((x35).length) (k36))), (17, .v (.slice a45 ((x44).length) (k45))), (18, .v (.bool (x56))), (20, .v (.int .i64 (x274)))] ∧ M' = [.blk [.v (.int .i64 (x1.Version)), .v (.slice a2 ((x1.Parts).length) (k2))] 24, .blk [.v (.bool (x3.All)), .v (.slice a4 ((x3.Reads).length) (k4)), .v (.slice a5 ((x3.Writes).length) (k5))] 27, .unk, .row (.slice a27 ((x28).length) (k27)) cs27 50 5] ∧ RowRep cTMail V' x28 cs27 ∧ SlAt cTPair V' a7 k7 x6 ∧ SlAt cTMail V' a25 k25 x26 ∧ SlAt (cInt .i64) V' a36 k36 x35 ∧ SlAt (cInt .i64) V' a45 k45 x44 ∧ SlAt cTPart V' a2 k2 x1.Parts ∧ SlAt cStr V' a4 k4 x3.Reads ∧ SlAt cStr V' a5 k5 x3.Writes ∧ J306 = some r) rfl ?_ ?_
                · rintro L' V307 M' ⟨rfl, rfl, h305, h308, h309, h310, h311, h312, h313, h314, hF⟩
                  subst hJ306
                  refine Exec.run tyOk 400 rfl ?_
                  exact Exec.round [(2, .v (.slice a7 ((x6).length) (k7))), (3, .v (.int .i64 (x8))), (5, .ptr 0 0), (6, .ptr 1 0), (11, .v (.slice a25 ((x26).length) (k25))), (12, .v (.slice a27 ((x28).length) (k27))), (16, .v (.slice a36 ((x35).length) (k36))), (17, .v (.slice a45 ((x44).length) (k45))), (18, .v (.bool (x56))), (20, .v (.int .i64 ((IntKind.i64.wrap (x274 + (1 : Int))))))] ⟨rfl, rfl, rfl, rfl, rfl, rfl, rfl, rfl, rfl, rfl, trivial⟩ ⟨n275, Nat.lt_succ_self _, (IntKind.i64.wrap (x274 + (1 : Int))), rfl, rfl, h305, h308, h309, h310, h311, h312, h313, h314, hF⟩
                · skip
                  refine Exec.run tyOk 400 rfl ?_
                  rcases cond_some hF with ⟨hb, hF⟩ | ⟨hb, hF⟩
                  · skip
                    refine Exec.ifT rfl hb ?_
                    refine Exec.run tyOk 400 rfl ?_
                    rcases cond_some hF with ⟨hb, hF⟩ | ⟨hb, hF⟩
                    · skip
                      refine Exec.ifT rfl hb ?_
                      refine Exec.run tyOk 400 rfl ?_
                      obtain rfl := some_inj hF
                      exact Exec.ret tyOk rfl rfl rfl
                    · skip
                      refine Exec.ifF rfl hb ?_
                      refine Exec.run tyOk 400 rfl ?_
                      exact Exec.round [(2, .v (.slice a7 ((x6).length) (k7))), (3, .v (.int .i64 (x8))), (5, .ptr 0 0), (6, .ptr 1 0), (11, .v (.slice a25 ((x26).length) (k25))), (12, .v (.slice a27 ((x28).length) (k27))), (16, .v (.slice a36 ((x35).length) (k36))), (17, .v (.slice a45 ((x44).length) (k45))), (18, .v (.bool (x56))), (20, .v (.int .i64 (x274)))] ⟨rfl, rfl, rfl, rfl, rfl, rfl, rfl, rfl, rfl, rfl, trivial⟩ ⟨rfl, rfl, h304, h295, h296, h297, h298, h299, h300, h301, hF⟩
                  · skip
                    refine Exec.ifF rfl hb ?_
                    refine Exec.run tyOk 400 rfl ?_
                    obtain ⟨x315, hx315, hF⟩ := bnd_some hF
                    refine Exec.callG (fun y : Option Addr × Nat => .slice y.1 ((x315).length) (y.2)) (none, 0) (R := fun V' y => SlAt cTPair V' y.1 y.2 x315) rfl rfl rfl (fun gg0 => (W_clockworklaw31_wanted x3 x6 h300 h301 h295 (gcall_some hx315 (gd1_of gg0))).mono (fun V' _ _ ⟨a316, k316, e1, h316⟩ => ⟨⟨a316, k316⟩, e1, h316⟩)) ?_
                    rintro V317 ⟨a316, k316⟩ hv317 hg317
                    have h316 : SlAt cTPair V317 a316 k316 x315 := gslat1 hx315 (fun gg0 => (hg317 gg0))
                    have h318 := SlAt.mono h295 hv317
                    have h319 := SlAt.mono h296 hv317
                    have h320 := SlAt.mono h297 hv317
                    have h321 := SlAt.mono h298 hv317
                    have h322 := SlAt.mono h293 hv317
                    have h323 := SlAt.mono h299 hv317
                    have h324 := SlAt.mono h300 hv317
                    have h325 := SlAt.mono h301 hv317
                    have h328 := RowRep.mono hv317 h304
                    refine Exec.run tyOk 400 rfl ?_
                    obtain ⟨x329, hx329, hF⟩ := bnd_some hF
                    refine Exec.callS (.bool (x329)) rfl rfl (fun gg0 => W_clockworkref06_Same x292.1 x315 h322 h316 (gcall_some hx329 (gd1_of gg0))) ?_
                    refine Exec.run tyOk 400 rfl ?_
                    rcases cond_some hF with ⟨hb, hF⟩ | ⟨hb, hF⟩
                    · skip
                      refine Exec.ifT rfl hb ?_
                      refine Exec.run tyOk 400 rfl ?_
                      obtain rfl := some_inj hF
                      exact Exec.ret tyOk rfl rfl rfl
                    · skip
                      refine Exec.ifF rfl hb ?_
                      refine Exec.run tyOk 400 rfl ?_
                      exact Exec.round [(2, .v (.slice a7 ((x6).length) (k7))), (3, .v (.int .i64 (x8))), (5, .ptr 0 0), (6, .ptr 1 0), (11, .v (.slice a25 ((x26).length) (k25))), (12, .v (.slice a27 ((x28).length) (k27))), (16, .v (.slice a36 ((x35).length) (k36))), (17, .v (.slice a45 ((x44).length) (k45))), (18, .v (.bool (x56))), (20, .v (.int .i64 (x274)))] ⟨rfl, rfl, rfl, rfl, rfl, rfl, rfl, rfl, rfl, rfl, trivial⟩ ⟨rfl, rfl, h328, h318, h319, h320, h321, h323, h324, h325, hF⟩
            · skip
              refine Exec.ifF rfl hb ?_
              refine Exec.run tyOk 400 rfl ?_
              refine Exec.cut 1 [(5, .ptr 0 0), (11, .v (.slice a25 ((x26).length) (k25)))] (M' := [.blk [.v (.int .i64 (x1.Version)), .v (.slice a2 ((x1.Parts).length) (k2))] 24]) rfl ⟨rfl, rfl, trivial⟩ rfl rfl rfl ?_
              exact Exec.round [(5, .ptr 0 0), (11, .v (.slice a25 ((x26).length) (k25)))] ⟨rfl, rfl, trivial⟩ ⟨rfl, rfl, h278, h281, hF⟩
      · skip
        refine Exec.run tyOk 400 rfl ?_
        refine Exec.loop (fun n334 L' V' M' => ∃ (x332 : Bool) (x333 : Int), L' = [(2, .v (.slice a7 ((x6).length) (k7))), (3, .v (.int .i64 (x8))), (4, .v (.int .i64 (x9))), (5, .ptr 0 0), (6, .ptr 1 0), (11, .v (.slice a25 ((x26).length) (k25))), (12, .v (.slice a27 ((x28).length) (k27))), (16, .v (.slice a36 ((x35).length) (k36))), (17, .v (.slice a45 ((x44).length) (k45))), (18, .v (.bool (x332))), (19, .v (.int .i64 (x333)))] ∧ M' = [.blk [.v (.int .i64 (x1.Version)), .v (.slice a2 ((x1.Parts).length) (k2))] 24, .blk [.v (.bool (x3.All)), .v (.slice a4 ((x3.Reads).length) (k4)), .v (.slice a5 ((x3.Writes).length) (k5))] 27, .row (.slice a25 ((x26).length) (k25)) cs25 50 5, .row (.slice a27 ((x28).length) (k27)) cs27 50 5] ∧ RowRep cTMail V' x26 cs25 ∧ RowRep cTMail V' x28 cs27 ∧ SlAt cTPair V' a7 k7 x6 ∧ SlAt (cInt .i64) V' a36 k36 x35 ∧ SlAt (cInt .i64) V' a45 k45 x44 ∧ SlAt cTPart V' a2 k2 x1.Parts ∧ SlAt cStr V' a4 k4 x3.Reads ∧ SlAt cStr V' a5 k5 x3.Writes ∧ F_clockworklaw31_ExchangeComplete_L4 x35 x9 J57 n334 x332 x333 = some r) ⟨(((((x35).length : Nat) : Int)).toNat + 1), [(2, .v (.slice a7 ((x6).length) (k7))), (3, .v (.int .i64 (x8))), (4, .v (.int .i64 (x9))), (5, .ptr 0 0), (6, .ptr 1 0), (11, .v (.slice a25 ((x26).length) (k25))), (12, .v (.slice a27 ((x28).length) (k27))), (16, .v (.slice a36 ((x35).length) (k36))), (17, .v (.slice a45 ((x44).length) (k45))), (18, .v (.bool (false))), (19, .v (.int .i64 ((0 : Int))))], ⟨rfl, rfl, rfl, rfl, rfl, rfl, rfl, rfl, rfl, rfl, rfl, trivial⟩, false, (0 : Int), rfl, rfl, h52, h53, h47, h48, h45, h49, h50, h51, hF⟩ ?_
        rintro n334 L' V335 M' ⟨x332, x333, rfl, rfl, h330, h331, h336, h337, h338, h339, h340, h341, hF⟩
        rcases n334 with _ | n334
        · exact absurd hF (by simp [F_clockworklaw31_ExchangeComplete_L4])
        rw [F_clockworklaw31_ExchangeComplete_L4] at hF
        refine Exec.run tyOk 400 rfl ?_
        rcases cond_some hF with ⟨hb, hF⟩ | ⟨hb, hF⟩
        · skip
          refine Exec.ifT rfl hb ?_
          refine Exec.run tyOk 400 rfl ?_
          obtain ⟨q342, hF⟩ := req_some hF
          obtain ⟨c343, hr343, hd343⟩ := SlAt.gget ((x332) == false) h337 q342
          obtain rfl := hr343
          refine Exec.ia tyOk rfl rfl (fun gg0 => ⟨(q342 (gd1_of gg0)).1, (q342 (gd1_of gg0)).2, (hd343 (gd1_of gg0)).some⟩) ?_
          refine Exec.run tyOk 400 rfl ?_
          refine Exec.ld tyOk (x := .int .i64 ((cond ((x332) == false) (atI x35 x333) default))) rfl rfl (fun gg0 => (hd343 (gd1_of gg0))) rfl rfl ?_
          refine Exec.run tyOk 400 rfl ?_
          exact Exec.round [(2, .v (.slice a7 ((x6).length) (k7))), (3, .v (.int .i64 (x8))), (4, .v (.int .i64 (x9))), (5, .ptr 0 0), (6, .ptr 1 0), (11, .v (.slice a25 ((x26).length) (k25))), (12, .v (.slice a27 ((x28).length) (k27))), (16, .v (.slice a36 ((x35).length) (k36))), (17, .v (.slice a45 ((x44).length) (k45))), (18, .v (.bool ((x332 || ((cond ((x332) == false) (atI x35 x333) default) == x9))))), (19, .v (.int .i64 ((IntKind.i64.wrap (x333 + (1 : Int))))))] ⟨rfl, rfl, rfl, rfl, rfl, rfl, rfl, rfl, rfl, rfl, rfl, trivial⟩ ⟨n334, Nat.lt_succ_self _, (x332 || ((cond ((x332) == false) (atI x35 x333) default) == x9)), (IntKind.i64.wrap (x333 + (1 : Int))), rfl, rfl, h330, h331, h336, h337, h338, h339, h340, h341, hF⟩
        · skip
          refine Exec.ifF rfl hb ?_
          refine Exec.run tyOk 400 rfl ?_
          exact Exec.round [(2, .v (.slice a7 ((x6).length) (k7))), (3, .v (.int .i64 (x8))), (5, .ptr 0 0), (6, .ptr 1 0), (11, .v (.slice a25 ((x26).length) (k25))), (12, .v (.slice a27 ((x28).length) (k27))), (16, .v (.slice a36 ((x35).length) (k36))), (17, .v (.slice a45 ((x44).length) (k45))), (18, .v (.bool (x332)))] ⟨rfl, rfl, rfl, rfl, rfl, rfl, rfl, rfl, rfl, trivial⟩ ⟨x332, rfl, rfl, h330, h331, h336, h337, h338, h339, h340, h341, hF⟩
    · skip
      refine Exec.run tyOk 400 rfl ?_
      refine Exec.loop (fun n349 L' V' M' => ∃ (x345 : List TMail) (a344 : Option Addr) (k344 : Nat) (cs344 : List Value) (x347 : List TMail) (a346 : Option Addr) (k346 : Nat) (cs346 : List Value) (x348 : Int), L' = [(2, .v (.slice a7 ((x6).length) (k7))), (3, .v (.int .i64 (x8))), (4, .v (.int .i64 (x9))), (5, .ptr 0 0), (6, .ptr 1 0), (11, .v (.slice a344 ((x345).length) (k344))), (12, .v (.slice a346 ((x347).length) (k346))), (13, .v (.slice a17 ((x16).length) (k17))), (14, .v (.int .i64 (x348)))] ∧ M' = [.blk [.v (.int .i64 (x1.Version)), .v (.slice a2 ((x1.Parts).length) (k2))] 24, .blk [.v (.bool (x3.All)), .v (.slice a4 ((x3.Reads).length) (k4)), .v (.slice a5 ((x3.Writes).length) (k5))] 27, .row (.slice a344 ((x345).length) (k344)) cs344 50 5, .row (.slice a346 ((x347).length) (k346)) cs346 50 5] ∧ RowRep cTMail V' x345 cs344 ∧ RowRep cTMail V' x347 cs346 ∧ SlAt cTPair V' a7 k7 x6 ∧ SlAt cTShard V' a17 k17 x16 ∧ SlAt cTPart V' a2 k2 x1.Parts ∧ SlAt cStr V' a4 k4 x3.Reads ∧ SlAt cStr V' a5 k5 x3.Writes ∧ F_clockworklaw31_ExchangeComplete_L5 x16 x1 x8 x3 x9 J29 n349 x345 x347 x348 = some r) ⟨(((((x16).length : Nat) : Int)).toNat + 1), [(2, .v (.slice a7 ((x6).length) (k7))), (3, .v (.int .i64 (x8))), (4, .v (.int .i64 (x9))), (5, .ptr 0 0), (6, .ptr 1 0), (11, .v (.slice none ((([] : List TMail)).length) (0))), (12, .v (.slice none ((([] : List TMail)).length) (0))), (13, .v (.slice a17 ((x16).length) (k17))), (14, .v (.int .i64 ((0 : Int))))], ⟨rfl, rfl, rfl, rfl, rfl, rfl, rfl, rfl, rfl, trivial⟩, ([] : List TMail), none, 0, [], ([] : List TMail), none, 0, [], (0 : Int), rfl, rfl, h23, h24, h22, h17, h19, h20, h21, hF⟩ ?_
      rintro n349 L' V350 M' ⟨x345, a344, k344, cs344, x347, a346, k346, cs346, x348, rfl, rfl, h344, h346, h351, h352, h353, h354, h355, hF⟩
      rcases n349 with _ | n349
      · exact absurd hF (by simp [F_clockworklaw31_ExchangeComplete_L5])
      rw [F_clockworklaw31_ExchangeComplete_L5] at hF
      refine Exec.run tyOk 400 rfl ?_
      rcases cond_some hF with ⟨hb, hF⟩ | ⟨hb, hF⟩
      · skip
        refine Exec.ifT rfl hb ?_
        refine Exec.run tyOk 400 rfl ?_
        refine Exec.draws tyOk [(0, true), (1, true), (2, true), (3, true), (4, true), (5, true), (6, true), (7, false), (8, false)] rfl (by kernel_rfl) ?_
        refine Exec.run tyOk 400 rfl ?_
        obtain ⟨q356, hF⟩ := req_some hF
        obtain ⟨c357, hr357, hd357⟩ := SlAt.get h352 q356
        obtain ⟨a358, k358, rfl, h358⟩ := hr357
        refine Exec.fia tyOk rfl rfl rfl ⟨q356.1, q356.2, hd357.some⟩ ?_
        refine Exec.run tyOk 400 rfl ?_
        refine Exec.fld tyOk (x := .agg ⟨[.int .i64 ((atI x16 x348).Node), .slice a358 (((atI x16 x348).Pairs).length) (k358)]⟩) rfl rfl rfl hd357 rfl rfl ?_
        refine Exec.run tyOk 400 rfl ?_
        obtain ⟨x359, hx359, hF⟩ := bnd_some hF
        refine Exec.call rfl rfl (W_exchange_Send x1 ((atI x16 x348)) x8 x3 h353 h358 h354 h355 hx359) ?_
        rintro V361 _ hv361 ⟨a360, k360, rfl, h360⟩
        have h362 := SlAt.mono h351 hv361
        have h363 := SlAt.mono h352 hv361
        have h364 := SlAt.mono h353 hv361
        have h366 := SlAt.mono h358 hv361
        have h367 := SlAt.mono h354 hv361
        have h368 := SlAt.mono h355 hv361
        have h369 := RowRep.mono hv361 h344
        have h370 := RowRep.mono hv361 h346
        refine Exec.run tyOk 400 rfl ?_
        obtain ⟨q372, hF⟩ := req_some hF
        refine Exec.appS tyOk (cd := cTMail) 2 (nm := ((x345 ++ x359)).length) rfl rfl rfl rfl rfl rfl h360 (by first | rfl | simp) (by first | rfl | exact List.length_append.symm | simp) (fun _ _ _ => rfl) rfl q372 (fun cs371 hs371 a371 k371 => ?_)
        have h371 : RowRep cTMail V361 (x345 ++ x359) (cs344 ++ cs371) := RowRep.app h369 hs371
        refine Exec.run tyOk 400 rfl ?_
        obtain ⟨q373, hF⟩ := req_some hF
        obtain ⟨c374, hr374, hd374⟩ := SlAt.get h363 q373
        obtain ⟨a375, k375, rfl, h375⟩ := hr374
        refine Exec.ia tyOk rfl rfl ⟨q373.1, q373.2, hd374.some⟩ ?_
        refine Exec.run tyOk 400 rfl ?_
        refine Exec.ld tyOk (x := .int .i64 ((atI x16 x348).Node)) rfl rfl (RdAt.part hd374 0 1 rfl) rfl rfl ?_
        refine Exec.run tyOk 400 rfl ?_
        obtain ⟨J380, hJ380, hF⟩ := jn_some hF
        refine Exec.seam (fun L' V' M' => ∃ (x377 : List TMail) (a376 : Option Addr) (k376 : Nat) (cs376 : List Value) (x379 : List TMail) (a378 : Option Addr) (k378 : Nat) (cs378 : List Value), L' = [(2, .v (.slice a7 ((x6).length) (k7))), (3, .v (.int .i64 (x8))), (4, .v (.int .i64 (x9))), (5, .ptr 0 0), (6, .ptr 1 0), (11, .v (.slice a376 ((x377).length) (k376))), (12, .v (.slice a378 ((x379).length) (k378))), (13, .v (.slice a17 ((x16).length) (k17))), (14, .v (.int .i64 (x348)))] ∧ M' = [.blk [.v (.int .i64 (x1.Version)), .v (.slice a2 ((x1.Parts).length) (k2))] 24, .blk [.v (.bool (x3.All)), .v (.slice a4 ((x3.Reads).length) (k4)), .v (.slice a5 ((x3.Writes).length) (k5))] 27, .row (.slice a376 ((x377).length) (k376)) cs376 50 5, .row (.slice a378 ((x379).length) (k378)) cs378 50 5] ∧ RowRep cTMail V' x377 cs376 ∧ RowRep cTMail V' x379 cs378 ∧ SlAt cTPair V' a7 k7 x6 ∧ SlAt cTShard V' a17 k17 x16 ∧ SlAt cTPart V' a2 k2 x1.Parts ∧ SlAt cStr V' a4 k4 x3.Reads ∧ SlAt cStr V' a5 k5 x3.Writes ∧ J380 x377 x379 = some r) rfl ?_ ?_
        · rintro L' V381 M' ⟨x377, a376, k376, cs376, x379, a378, k378, cs378, rfl, rfl, h376, h378, h382, h383, h384, h385, h386, hF⟩
          subst hJ380
          refine Exec.run tyOk 400 rfl ?_
          exact Exec.round [(2, .v (.slice a7 ((x6).length) (k7))), (3, .v (.int .i64 (x8))), (4, .v (.int .i64 (x9))), (5, .ptr 0 0), (6, .ptr 1 0), (11, .v (.slice a376 ((x377).length) (k376))), (12, .v (.slice a378 ((x379).length) (k378))), (13, .v (.slice a17 ((x16).length) (k17))), (14, .v (.int .i64 ((IntKind.i64.wrap (x348 + (1 : Int))))))] ⟨rfl, rfl, rfl, rfl, rfl, rfl, rfl, rfl, rfl, trivial⟩ ⟨n349, Nat.lt_succ_self _, x377, a376, k376, cs376, x379, a378, k378, cs378, (IntKind.i64.wrap (x348 + (1 : Int))), rfl, rfl, h376, h378, h382, h383, h384, h385, h386, hF⟩
        · skip
          refine Exec.run tyOk 400 rfl ?_
          rcases cond_some hF with ⟨hb, hF⟩ | ⟨hb, hF⟩
          · skip
            refine Exec.ifT rfl hb ?_
            refine Exec.run tyOk 400 rfl ?_
            obtain ⟨q388, hF⟩ := req_some hF
            refine Exec.appS tyOk (cd := cTMail) 3 (nm := ((x347 ++ x359)).length) rfl rfl rfl rfl rfl rfl h360 (by first | rfl | simp) (by first | rfl | exact List.length_append.symm | simp) (fun _ _ _ => rfl) rfl q388 (fun cs387 hs387 a387 k387 => ?_)
            have h387 : RowRep cTMail V361 (x347 ++ x359) (cs346 ++ cs387) := RowRep.app h370 hs387
            refine Exec.run tyOk 400 rfl ?_
            exact Exec.round [(2, .v (.slice a7 ((x6).length) (k7))), (3, .v (.int .i64 (x8))), (4, .v (.int .i64 (x9))), (5, .ptr 0 0), (6, .ptr 1 0), (11, .v (.slice a371 (((x345 ++ x359)).length) (k371))), (12, .v (.slice a387 (((x347 ++ x359)).length) (k387))), (13, .v (.slice a17 ((x16).length) (k17))), (14, .v (.int .i64 (x348)))] ⟨rfl, rfl, rfl, rfl, rfl, rfl, rfl, rfl, rfl, trivial⟩ ⟨(x345 ++ x359), a371, k371, (cs344 ++ cs371), (x347 ++ x359), a387, k387, (cs346 ++ cs387), rfl, rfl, h371, h387, h362, h363, h364, h367, h368, hF⟩
          · skip
            refine Exec.ifF rfl hb ?_
            refine Exec.run tyOk 400 rfl ?_
            exact Exec.round [(2, .v (.slice a7 ((x6).length) (k7))), (3, .v (.int .i64 (x8))), (4, .v (.int .i64 (x9))), (5, .ptr 0 0), (6, .ptr 1 0), (11, .v (.slice a371 (((x345 ++ x359)).length) (k371))), (12, .v (.slice a346 ((x347).length) (k346))), (13, .v (.slice a17 ((x16).length) (k17))), (14, .v (.int .i64 (x348)))] ⟨rfl, rfl, rfl, rfl, rfl, rfl, rfl, rfl, rfl, trivial⟩ ⟨(x345 ++ x359), a371, k371, (cs344 ++ cs371), x347, a346, k346, cs346, rfl, rfl, h371, h370, h362, h363, h364, h367, h368, hF⟩
      · skip
        refine Exec.ifF rfl hb ?_
        refine Exec.run tyOk 400 rfl ?_
        exact Exec.round [(2, .v (.slice a7 ((x6).length) (k7))), (3, .v (.int .i64 (x8))), (4, .v (.int .i64 (x9))), (5, .ptr 0 0), (6, .ptr 1 0), (11, .v (.slice a344 ((x345).length) (k344))), (12, .v (.slice a346 ((x347).length) (k346)))] ⟨rfl, rfl, rfl, rfl, rfl, rfl, rfl, trivial⟩ ⟨x345, a344, k344, cs344, x347, a346, k346, cs346, rfl, rfl, h344, h346, h351, h353, h354, h355, hF⟩

def F_clockworklaw31_ExchangeSends (x1 : TPlacement) (x3 : TShard) (x5 : Int) (x6 : TFootprint) : Option Bool :=
  (bnd (F_clockworkref31_Light x1 x6) fun x9 => (bnd (gcall (((!x9)) == false) (F_clockworkref31_Few x3.Pairs ((12 : Int)))) fun x10 => (cond ((!x9) || (!x10)) (bnd (F_clockworklaw31_lives ) fun x11 => (some x11)) (bnd (F_exchange_Local x1 x3 x6) fun x12 => (bnd (F_clockworkref31_Local x1 x3 x6) fun x19 => (bnd (F_clockworkref06_Same x12 x19) fun x27 => (bnd (gcall ((x27) == true) (F_exchange_Send x1 x3 x5 x6)) fun x28 => (bnd (gcall ((x27) == true) (F_clockworkref31_Send x1 x3 x5 x6)) fun x37 => (bnd (gcall ((x27) == true) (F_clockworkref31_SameList x28 x37)) fun x47 => (bnd (gcall (((x27 && x47)) == true) (F_clockworklaw31_lives )) fun x48 => (some ((x27 && x47) && x48))))))))))))

set_option maxRecDepth 100000 in
theorem W_clockworklaw31_ExchangeSends {V : View} (x1 : TPlacement) (x3 : TShard) (x5 : Int) (x6 : TFootprint) {a2 : Option Addr} {k2 : Nat} {a4 : Option Addr} {k4 : Nat} {a7 : Option Addr} {k7 : Nat} {a8 : Option Addr} {k8 : Nat} (h2 : SlAt cTPart V a2 k2 x1.Parts) (h4 : SlAt cTPair V a4 k4 x3.Pairs) (h7 : SlAt cStr V a7 k7 x6.Reads) (h8 : SlAt cStr V a8 k8 x6.Writes) {r : Bool} (hF : F_clockworklaw31_ExchangeSends x1 x3 x5 x6 = some r) :
    Spec Tryz.prog 4 [.agg ⟨[.int .i64 (x1.Version), .slice a2 ((x1.Parts).length) (k2)]⟩, .agg ⟨[.int .i64 (x3.Node), .slice a4 ((x3.Pairs).length) (k4)]⟩, .int .i64 (x5), .agg ⟨[.bool (x6.All), .slice a7 ((x6.Reads).length) (k7), .slice a8 ((x6.Writes).length) (k8)]⟩] V (fun _ v => v = .bool (r)) := by
  unfold F_clockworklaw31_ExchangeSends at hF
  refine Spec.enter (T := tyT) Tryz.func4 rfl (by kernel_rfl) rfl rfl rfl ?_
  refine Exec.run tyOk 400 rfl ?_
  obtain ⟨x9, hx9, hF⟩ := bnd_some hF
  refine Exec.callS (.bool (x9)) rfl rfl (W_clockworkref31_Light x1 x6 h2 h7 h8 hx9) ?_
  refine Exec.run tyOk 400 rfl ?_
  obtain ⟨x10, hx10, hF⟩ := bnd_some hF
  refine Exec.callS (.bool (x10)) rfl rfl (fun gg0 => W_clockworkref31_Few x3.Pairs ((12 : Int)) h4 (gcall_some hx10 (gd1_of gg0))) ?_
  refine Exec.run tyOk 400 rfl ?_
  rcases cond_some hF with ⟨hb, hF⟩ | ⟨hb, hF⟩
  · skip
    refine Exec.ifT rfl hb ?_
    refine Exec.run tyOk 400 rfl ?_
    obtain ⟨x11, hx11, hF⟩ := bnd_some hF
    refine Exec.callS (.bool (x11)) rfl rfl (W_clockworklaw31_lives   hx11) ?_
    refine Exec.run tyOk 400 rfl ?_
    obtain rfl := some_inj hF
    exact Exec.ret tyOk rfl rfl rfl
  · skip
    refine Exec.ifF rfl hb ?_
    refine Exec.run tyOk 400 rfl ?_
    refine Exec.draws tyOk [(0, true), (1, true), (2, true), (4, true), (5, true), (6, true), (3, false), (7, false), (8, false), (9, false), (10, true), (11, true), (12, true), (13, true), (15, true), (16, true), (17, true), (18, true), (14, false), (19, false), (20, false), (21, false), (22, false), (23, false), (24, false), (25, false)] rfl (by kernel_rfl) ?_
    refine Exec.run tyOk 400 rfl ?_
    obtain ⟨x12, hx12, hF⟩ := bnd_some hF
    refine Exec.call rfl rfl (W_exchange_Local x1 x3 x6 h2 h4 h7 h8 hx12) ?_
    rintro V14 _ hv14 ⟨a13, k13, rfl, h13⟩
    have h15 := SlAt.mono h2 hv14
    have h16 := SlAt.mono h4 hv14
    have h17 := SlAt.mono h7 hv14
    have h18 := SlAt.mono h8 hv14
    refine Exec.run tyOk 400 rfl ?_
    obtain ⟨x19, hx19, hF⟩ := bnd_some hF
    refine Exec.call rfl rfl (W_clockworkref31_Local x1 x3 x6 h15 h16 h17 h18 hx19) ?_
    rintro V21 _ hv21 ⟨a20, k20, rfl, h20⟩
    have h22 := SlAt.mono h15 hv21
    have h23 := SlAt.mono h16 hv21
    have h24 := SlAt.mono h17 hv21
    have h25 := SlAt.mono h18 hv21
    have h26 := SlAt.mono h13 hv21
    refine Exec.run tyOk 400 rfl ?_
    obtain ⟨x27, hx27, hF⟩ := bnd_some hF
    refine Exec.callS (.bool (x27)) rfl rfl (W_clockworkref06_Same x12 x19 h26 h20 hx27) ?_
    refine Exec.run tyOk 400 rfl ?_
    obtain ⟨x28, hx28, hF⟩ := bnd_some hF
    refine Exec.callG (fun y : Option Addr × Nat => .slice y.1 ((x28).length) (y.2)) (none, 0) (R := fun V' y => SlAt cTMail V' y.1 y.2 x28) rfl rfl rfl (fun gg0 => (W_exchange_Send x1 x3 x5 x6 h22 h23 h24 h25 (gcall_some hx28 (gd1_of gg0))).mono (fun V' _ _ ⟨a29, k29, e1, h29⟩ => ⟨⟨a29, k29⟩, e1, h29⟩)) ?_
    rintro V30 ⟨a29, k29⟩ hv30 hg30
    have h29 : SlAt cTMail V30 a29 k29 x28 := gslat1 hx28 (fun gg0 => (hg30 gg0))
    have h31 := SlAt.mono h22 hv30
    have h32 := SlAt.mono h23 hv30
    have h33 := SlAt.mono h24 hv30
    have h34 := SlAt.mono h25 hv30
    have h35 := SlAt.mono h26 hv30
    have h36 := SlAt.mono h20 hv30
    refine Exec.run tyOk 400 rfl ?_
    obtain ⟨x37, hx37, hF⟩ := bnd_some hF
    refine Exec.callG (fun y : Option Addr × Nat => .slice y.1 ((x37).length) (y.2)) (none, 0) (R := fun V' y => SlAt cTMail V' y.1 y.2 x37) rfl rfl rfl (fun gg0 => (W_clockworkref31_Send x1 x3 x5 x6 h31 h32 h33 h34 (gcall_some hx37 (gd1_of gg0))).mono (fun V' _ _ ⟨a38, k38, e1, h38⟩ => ⟨⟨a38, k38⟩, e1, h38⟩)) ?_
    rintro V39 ⟨a38, k38⟩ hv39 hg39
    have h38 : SlAt cTMail V39 a38 k38 x37 := gslat1 hx37 (fun gg0 => (hg39 gg0))
    have h40 := SlAt.mono h31 hv39
    have h41 := SlAt.mono h32 hv39
    have h42 := SlAt.mono h33 hv39
    have h43 := SlAt.mono h34 hv39
    have h44 := SlAt.mono h35 hv39
    have h45 := SlAt.mono h36 hv39
    have h46 := SlAt.mono h29 hv39
    refine Exec.run tyOk 400 rfl ?_
    obtain ⟨x47, hx47, hF⟩ := bnd_some hF
    refine Exec.callS (.bool (x47)) rfl rfl (fun gg0 => W_clockworkref31_SameList x28 x37 h46 h38 (gcall_some hx47 (gd1_of gg0))) ?_
    refine Exec.run tyOk 400 rfl ?_
    obtain ⟨x48, hx48, hF⟩ := bnd_some hF
    refine Exec.callS (.bool (x48)) rfl rfl (fun gg0 => W_clockworklaw31_lives   (gcall_some hx48 (gd1_of gg0))) ?_
    refine Exec.run tyOk 400 rfl ?_
    obtain rfl := some_inj hF
    exact Exec.ret tyOk rfl rfl rfl

def F_clockworklaw31_ExchangeWaits (x1 : TPlacement) (x3 : TFootprint) (x6 : Int) (x7 : Int) (x8 : List TMail) : Option Bool :=
  (bnd (F_clockworkref31_Light x1 x3) fun x10 => (bnd (gcall (((!x10)) == false) (F_clockworkref31_FewMails x8)) fun x11 => (cond ((!x10) || (!x11)) (bnd (F_clockworklaw31_lives ) fun x12 => (some x12)) (bnd (F_exchange_Complete x1 x3 x6 x7 x8) fun x13 => (bnd (F_clockworkref31_Complete x1 x3 x6 x7 x8) fun x14 => (bnd (gcall (((x13 == x14)) == true) (F_clockworklaw31_lives )) fun x15 => (some ((x13 == x14) && x15))))))))

set_option maxRecDepth 100000 in
theorem W_clockworklaw31_ExchangeWaits {V : View} (x1 : TPlacement) (x3 : TFootprint) (x6 : Int) (x7 : Int) (x8 : List TMail) {a2 : Option Addr} {k2 : Nat} {a4 : Option Addr} {k4 : Nat} {a5 : Option Addr} {k5 : Nat} {a9 : Option Addr} {k9 : Nat} (h2 : SlAt cTPart V a2 k2 x1.Parts) (h4 : SlAt cStr V a4 k4 x3.Reads) (h5 : SlAt cStr V a5 k5 x3.Writes) (h9 : SlAt cTMail V a9 k9 x8) {r : Bool} (hF : F_clockworklaw31_ExchangeWaits x1 x3 x6 x7 x8 = some r) :
    Spec Tryz.prog 5 [.agg ⟨[.int .i64 (x1.Version), .slice a2 ((x1.Parts).length) (k2)]⟩, .agg ⟨[.bool (x3.All), .slice a4 ((x3.Reads).length) (k4), .slice a5 ((x3.Writes).length) (k5)]⟩, .int .i64 (x6), .int .i64 (x7), .slice a9 ((x8).length) (k9)] V (fun _ v => v = .bool (r)) := by
  unfold F_clockworklaw31_ExchangeWaits at hF
  refine Spec.enter (T := tyT) Tryz.func5 rfl (by kernel_rfl) rfl rfl rfl ?_
  refine Exec.run tyOk 400 rfl ?_
  obtain ⟨x10, hx10, hF⟩ := bnd_some hF
  refine Exec.callS (.bool (x10)) rfl rfl (W_clockworkref31_Light x1 x3 h2 h4 h5 hx10) ?_
  refine Exec.run tyOk 400 rfl ?_
  obtain ⟨x11, hx11, hF⟩ := bnd_some hF
  refine Exec.callS (.bool (x11)) rfl rfl (fun gg0 => W_clockworkref31_FewMails x8 h9 (gcall_some hx11 (gd1_of gg0))) ?_
  refine Exec.run tyOk 400 rfl ?_
  rcases cond_some hF with ⟨hb, hF⟩ | ⟨hb, hF⟩
  · skip
    refine Exec.ifT rfl hb ?_
    refine Exec.run tyOk 400 rfl ?_
    obtain ⟨x12, hx12, hF⟩ := bnd_some hF
    refine Exec.callS (.bool (x12)) rfl rfl (W_clockworklaw31_lives   hx12) ?_
    refine Exec.run tyOk 400 rfl ?_
    obtain rfl := some_inj hF
    exact Exec.ret tyOk rfl rfl rfl
  · skip
    refine Exec.ifF rfl hb ?_
    refine Exec.run tyOk 400 rfl ?_
    refine Exec.draws tyOk [(0, true), (1, true), (2, true), (3, true), (4, true), (6, true), (7, true), (8, true), (9, true), (10, true), (5, false), (11, false), (12, false), (13, false), (14, false), (15, false), (16, false)] rfl (by kernel_rfl) ?_
    refine Exec.run tyOk 400 rfl ?_
    obtain ⟨x13, hx13, hF⟩ := bnd_some hF
    refine Exec.callS (.bool (x13)) rfl rfl (W_exchange_Complete x1 x3 x6 x7 x8 h2 h4 h5 h9 hx13) ?_
    refine Exec.run tyOk 400 rfl ?_
    obtain ⟨x14, hx14, hF⟩ := bnd_some hF
    refine Exec.callS (.bool (x14)) rfl rfl (W_clockworkref31_Complete x1 x3 x6 x7 x8 h2 h4 h5 h9 hx14) ?_
    refine Exec.run tyOk 400 rfl ?_
    obtain ⟨x15, hx15, hF⟩ := bnd_some hF
    refine Exec.callS (.bool (x15)) rfl rfl (fun gg0 => W_clockworklaw31_lives   (gcall_some hx15 (gd1_of gg0))) ?_
    refine Exec.run tyOk 400 rfl ?_
    obtain rfl := some_inj hF
    exact Exec.ret tyOk rfl rfl rfl

def F_clockworklaw31_ExchangeCollects (x1 : Int) (x2 : Int) (x3 : List TMail) : Option Bool :=
  (bnd (F_clockworkref31_FewMails x3) fun x5 => (cond (!x5) (bnd (F_clockworklaw31_lives ) fun x6 => (some x6)) (bnd (F_exchange_Collect x1 x2 x3) fun x7 => (bnd (F_clockworkref31_Collect x1 x2 x3) fun x11 => (bnd (F_clockworkref06_Same x7.1 x11.1) fun x16 => (bnd (gcall (((x16 && (x7.2 == x11.2))) == true) (F_clockworklaw31_lives )) fun x17 => (some ((x16 && (x7.2 == x11.2)) && x17))))))))

set_option maxRecDepth 100000 in
theorem W_clockworklaw31_ExchangeCollects {V : View} (x1 : Int) (x2 : Int) (x3 : List TMail) {a4 : Option Addr} {k4 : Nat} (h4 : SlAt cTMail V a4 k4 x3) {r : Bool} (hF : F_clockworklaw31_ExchangeCollects x1 x2 x3 = some r) :
    Spec Tryz.prog 6 [.int .i64 (x1), .int .i64 (x2), .slice a4 ((x3).length) (k4)] V (fun _ v => v = .bool (r)) := by
  unfold F_clockworklaw31_ExchangeCollects at hF
  refine Spec.enter (T := tyT) Tryz.func6 rfl (by kernel_rfl) rfl rfl rfl ?_
  refine Exec.run tyOk 400 rfl ?_
  obtain ⟨x5, hx5, hF⟩ := bnd_some hF
  refine Exec.callS (.bool (x5)) rfl rfl (W_clockworkref31_FewMails x3 h4 hx5) ?_
  refine Exec.run tyOk 400 rfl ?_
  rcases cond_some hF with ⟨hb, hF⟩ | ⟨hb, hF⟩
  · skip
    refine Exec.ifT rfl hb ?_
    refine Exec.run tyOk 400 rfl ?_
    obtain ⟨x6, hx6, hF⟩ := bnd_some hF
    refine Exec.callS (.bool (x6)) rfl rfl (W_clockworklaw31_lives   hx6) ?_
    refine Exec.run tyOk 400 rfl ?_
    obtain rfl := some_inj hF
    exact Exec.ret tyOk rfl rfl rfl
  · skip
    refine Exec.ifF rfl hb ?_
    refine Exec.run tyOk 400 rfl ?_
    obtain ⟨x7, hx7, hF⟩ := bnd_some hF
    refine Exec.call rfl rfl (W_exchange_Collect x1 x2 x3 h4 hx7) ?_
    rintro V9 _ hv9 ⟨a8, k8, rfl, h8⟩
    have h10 := SlAt.mono h4 hv9
    refine Exec.run tyOk 400 rfl ?_
    obtain ⟨x11, hx11, hF⟩ := bnd_some hF
    refine Exec.call rfl rfl (W_clockworkref31_Collect x1 x2 x3 h10 hx11) ?_
    rintro V13 _ hv13 ⟨a12, k12, rfl, h12⟩
    have h14 := SlAt.mono h10 hv13
    have h15 := SlAt.mono h8 hv13
    refine Exec.run tyOk 400 rfl ?_
    obtain ⟨x16, hx16, hF⟩ := bnd_some hF
    refine Exec.callS (.bool (x16)) rfl rfl (W_clockworkref06_Same x7.1 x11.1 h15 h12 hx16) ?_
    refine Exec.run tyOk 400 rfl ?_
    obtain ⟨x17, hx17, hF⟩ := bnd_some hF
    refine Exec.callS (.bool (x17)) rfl rfl (fun gg0 => W_clockworklaw31_lives   (gcall_some hx17 (gd1_of gg0))) ?_
    refine Exec.run tyOk 400 rfl ?_
    obtain rfl := some_inj hF
    exact Exec.ret tyOk rfl rfl rfl

end Go.Proofs.YtcgmfmpfmfjmoaaGreat
