/-
  Functions of the program as their counterparts say them (printed by a program).
  Conditions: none.
-/
import Derived.Test.YtcgmfmpfmfjmoaaGreatHc
set_option linter.all false
namespace Go.Proofs.YtcgmfmpfmfjmoaaGreat

def F_footprint_ascending_L1 (x1 : List Str) (J3 : Option Bool) : Nat → Int → Option Bool
  | 0, _ => none
  | n7 + 1, x6 => (cond (decide (x6 < (((x1).length : Nat) : Int))) (req (0 ≤ x6 ∧ x6 < ((x1).length : Int)) (bnd (F_keys_Valid ((atI x1 x6))) fun x12 => (req (((((decide ((0 : Int) < x6))) == true) && (((!x12)) == false)) = true → 0 ≤ (IntKind.i64.wrap (x6 - (1 : Int))) ∧ (IntKind.i64.wrap (x6 - (1 : Int))) < ((x1).length : Int)) (cond ((!x12) || ((decide ((0 : Int) < x6)) && (!sLt (cond ((((decide ((0 : Int) < x6))) == true) && (((!x12)) == false)) (atI x1 ((IntKind.i64.wrap (x6 - (1 : Int))))) default) (atI x1 x6)))) (some false) (F_footprint_ascending_L1 x1 J3 n7 ((IntKind.i64.wrap (x6 + (1 : Int))))))))) J3)

def F_footprint_ascending (x1 : List Str) : Option Bool :=
  (jn ((some (decide ((((x1).length : Nat) : Int) ≤ (64 : Int))))) (fun J3 => (F_footprint_ascending_L1 x1 J3 (((((x1).length : Nat) : Int)).toNat + 1) ((0 : Int)))))

set_option maxRecDepth 100000 in
theorem W_footprint_ascending {V : View} (x1 : List Str) {a2 : Option Addr} {k2 : Nat} (h2 : SlAt cStr V a2 k2 x1) {r : Bool} (hF : F_footprint_ascending x1 = some r) :
    Spec Tryz.prog 43 [.slice a2 ((x1).length) (k2)] V (fun _ v => v = .bool (r)) := by
  unfold F_footprint_ascending at hF
  refine Spec.enter (T := tyT) Tryz.func43 rfl (by kernel_rfl) rfl rfl rfl ?_
  refine Exec.run tyOk 11 rfl ?_
  obtain ⟨J3, hJ3, hF⟩ := jn_some hF
  refine Exec.seam (fun L' V' M' => L' = [(0, .v (.slice a2 ((x1).length) (k2)))] ∧ M' = [] ∧ SlAt cStr V' a2 k2 x1 ∧ J3 = some r) rfl ?_ ?_
  · rintro L' V4 M' ⟨rfl, rfl, h5, hF⟩
    subst hJ3
    refine Exec.run tyOk 400 rfl ?_
    obtain rfl := some_inj hF
    exact Exec.ret tyOk rfl rfl rfl
  · skip
    refine Exec.run tyOk 400 rfl ?_
    refine Exec.loop (fun n7 L' V' M' => ∃ (x6 : Int), L' = [(0, .v (.slice a2 ((x1).length) (k2))), (5, .v (.slice a2 ((x1).length) (k2))), (6, .v (.int .i64 ((((x1).length : Nat) : Int)))), (7, .v (.int .i64 (x6)))] ∧ M' = [] ∧ SlAt cStr V' a2 k2 x1 ∧ F_footprint_ascending_L1 x1 J3 n7 x6 = some r) ⟨(((((x1).length : Nat) : Int)).toNat + 1), [(0, .v (.slice a2 ((x1).length) (k2))), (5, .v (.slice a2 ((x1).length) (k2))), (6, .v (.int .i64 ((((x1).length : Nat) : Int)))), (7, .v (.int .i64 ((0 : Int))))], ⟨rfl, rfl, rfl, rfl, trivial⟩, (0 : Int), rfl, rfl, h2, hF⟩ ?_
    rintro n7 L' V8 M' ⟨x6, rfl, rfl, h9, hF⟩
    rcases n7 with _ | n7
    · exact absurd hF (by simp [F_footprint_ascending_L1])
    rw [F_footprint_ascending_L1] at hF
    refine Exec.run tyOk 400 rfl ?_
    rcases cond_some hF with ⟨hb, hF⟩ | ⟨hb, hF⟩
    · skip
      refine Exec.ifT rfl hb ?_
      refine Exec.run tyOk 400 rfl ?_
      obtain ⟨q10, hF⟩ := req_some hF
      obtain ⟨c11, hr11, hd11⟩ := SlAt.get h9 q10
      obtain rfl := hr11
      refine Exec.ia tyOk rfl rfl ⟨q10.1, q10.2, hd11.some⟩ ?_
      refine Exec.run tyOk 400 rfl ?_
      refine Exec.ld tyOk (x := .string ⟨⟨(atI x1 x6)⟩⟩) rfl rfl hd11 rfl rfl ?_
      refine Exec.run tyOk 400 rfl ?_
      obtain ⟨x12, hx12, hF⟩ := bnd_some hF
      refine Exec.callS (.bool (x12)) rfl rfl (W_keys_Valid ((atI x1 x6))  hx12) ?_
      refine Exec.run tyOk 400 rfl ?_
      obtain ⟨q13, hF⟩ := req_some hF
      obtain ⟨c14, hr14, hd14⟩ := SlAt.gget ((((decide ((0 : Int) < x6))) == true) && (((!x12)) == false)) h9 q13
      obtain rfl := hr14
      refine Exec.ia tyOk rfl rfl (fun gg0 gg1 => ⟨(q13 (gd2_of gg0 gg1)).1, (q13 (gd2_of gg0 gg1)).2, (hd14 (gd2_of gg0 gg1)).some⟩) ?_
      refine Exec.run tyOk 400 rfl ?_
      refine Exec.ld tyOk (x := .string ⟨⟨(cond ((((decide ((0 : Int) < x6))) == true) && (((!x12)) == false)) (atI x1 ((IntKind.i64.wrap (x6 - (1 : Int))))) default)⟩⟩) rfl rfl (fun gg0 gg1 => (hd14 (gd2_of gg0 gg1))) rfl rfl ?_
      refine Exec.run tyOk 400 rfl ?_
      rcases cond_some hF with ⟨hb, hF⟩ | ⟨hb, hF⟩
      · skip
        refine Exec.ifT rfl hb ?_
        refine Exec.run tyOk 400 rfl ?_
        obtain rfl := some_inj hF
        exact Exec.ret tyOk rfl rfl rfl
      · skip
        refine Exec.ifF rfl hb ?_
        refine Exec.run tyOk 400 rfl ?_
        exact Exec.round [(0, .v (.slice a2 ((x1).length) (k2))), (5, .v (.slice a2 ((x1).length) (k2))), (6, .v (.int .i64 ((((x1).length : Nat) : Int)))), (7, .v (.int .i64 ((IntKind.i64.wrap (x6 + (1 : Int))))))] ⟨rfl, rfl, rfl, rfl, trivial⟩ ⟨n7, Nat.lt_succ_self _, (IntKind.i64.wrap (x6 + (1 : Int))), rfl, rfl, h9, hF⟩
    · skip
      refine Exec.ifF rfl hb ?_
      refine Exec.run tyOk 400 rfl ?_
      exact Exec.round [(0, .v (.slice a2 ((x1).length) (k2)))] ⟨rfl, trivial⟩ ⟨rfl, rfl, h9, hF⟩

def F_clockworkref06_ValidWrites_L1 (x1 : List TPair) (J3 : Option Bool) : Nat → Int → Option Bool
  | 0, _ => none
  | n8 + 1, x7 => (cond (decide (x7 < (((x1).length : Nat) : Int))) (req (0 ≤ x7 ∧ x7 < ((x1).length : Int)) (bnd (F_clockworkref05_Valid ((atI x1 x7).Val)) fun x13 => (cond (!x13) (some false) (F_clockworkref06_ValidWrites_L1 x1 J3 n8 ((IntKind.i64.wrap (x7 + (1 : Int)))))))) J3)

def F_clockworkref06_ValidWrites (x1 : List TPair) : Option Bool :=
  (jn ((bnd (F_clockworkref06_ascending x1) fun x6 => (some x6))) (fun J3 => (F_clockworkref06_ValidWrites_L1 x1 J3 (((((x1).length : Nat) : Int)).toNat + 1) ((0 : Int)))))

set_option maxRecDepth 100000 in
theorem W_clockworkref06_ValidWrites {V : View} (x1 : List TPair) {a2 : Option Addr} {k2 : Nat} (h2 : SlAt cTPair V a2 k2 x1) {r : Bool} (hF : F_clockworkref06_ValidWrites x1 = some r) :
    Spec Tryz.prog 44 [.slice a2 ((x1).length) (k2)] V (fun _ v => v = .bool (r)) := by
  unfold F_clockworkref06_ValidWrites at hF
  refine Spec.enter (T := tyT) Tryz.func44 rfl (by kernel_rfl) rfl rfl rfl ?_
  refine Exec.run tyOk 9 rfl ?_
  obtain ⟨J3, hJ3, hF⟩ := jn_some hF
  refine Exec.seam (fun L' V' M' => L' = [(0, .v (.slice a2 ((x1).length) (k2)))] ∧ M' = [] ∧ SlAt cTPair V' a2 k2 x1 ∧ J3 = some r) rfl ?_ ?_
  · rintro L' V4 M' ⟨rfl, rfl, h5, hF⟩
    subst hJ3
    refine Exec.run tyOk 400 rfl ?_
    obtain ⟨x6, hx6, hF⟩ := bnd_some hF
    refine Exec.callS (.bool (x6)) rfl rfl (W_clockworkref06_ascending x1 h5 hx6) ?_
    refine Exec.run tyOk 400 rfl ?_
    obtain rfl := some_inj hF
    exact Exec.ret tyOk rfl rfl rfl
  · skip
    refine Exec.run tyOk 400 rfl ?_
    refine Exec.loop (fun n8 L' V' M' => ∃ (x7 : Int), L' = [(0, .v (.slice a2 ((x1).length) (k2))), (3, .v (.int .i64 (x7)))] ∧ M' = [] ∧ SlAt cTPair V' a2 k2 x1 ∧ F_clockworkref06_ValidWrites_L1 x1 J3 n8 x7 = some r) ⟨(((((x1).length : Nat) : Int)).toNat + 1), [(0, .v (.slice a2 ((x1).length) (k2))), (3, .v (.int .i64 ((0 : Int))))], ⟨rfl, rfl, trivial⟩, (0 : Int), rfl, rfl, h2, hF⟩ ?_
    rintro n8 L' V9 M' ⟨x7, rfl, rfl, h10, hF⟩
    rcases n8 with _ | n8
    · exact absurd hF (by simp [F_clockworkref06_ValidWrites_L1])
    rw [F_clockworkref06_ValidWrites_L1] at hF
    refine Exec.run tyOk 400 rfl ?_
    rcases cond_some hF with ⟨hb, hF⟩ | ⟨hb, hF⟩
    · skip
      refine Exec.ifT rfl hb ?_
      refine Exec.run tyOk 400 rfl ?_
      obtain ⟨q11, hF⟩ := req_some hF
      obtain ⟨c12, hr12, hd12⟩ := SlAt.get h10 q11
      obtain rfl := hr12
      refine Exec.ia tyOk rfl rfl ⟨q11.1, q11.2, hd12.some⟩ ?_
      refine Exec.run tyOk 400 rfl ?_
      refine Exec.ld tyOk (x := .agg ⟨[.int .i64 ((atI x1 x7).Val.Kind), .int .i64 ((atI x1 x7).Val.N), .string ⟨⟨(atI x1 x7).Val.S⟩⟩]⟩) rfl rfl (RdAt.part hd12 1 3 rfl) rfl rfl ?_
      refine Exec.run tyOk 400 rfl ?_
      obtain ⟨x13, hx13, hF⟩ := bnd_some hF
      refine Exec.callS (.bool (x13)) rfl rfl (W_clockworkref05_Valid ((atI x1 x7).Val)  hx13) ?_
      refine Exec.run tyOk 400 rfl ?_
      rcases cond_some hF with ⟨hb, hF⟩ | ⟨hb, hF⟩
      · skip
        refine Exec.ifT rfl hb ?_
        refine Exec.run tyOk 400 rfl ?_
        obtain rfl := some_inj hF
        exact Exec.ret tyOk rfl rfl rfl
      · skip
        refine Exec.ifF rfl hb ?_
        refine Exec.run tyOk 400 rfl ?_
        exact Exec.round [(0, .v (.slice a2 ((x1).length) (k2))), (3, .v (.int .i64 ((IntKind.i64.wrap (x7 + (1 : Int))))))] ⟨rfl, rfl, trivial⟩ ⟨n8, Nat.lt_succ_self _, (IntKind.i64.wrap (x7 + (1 : Int))), rfl, rfl, h10, hF⟩
    · skip
      refine Exec.ifF rfl hb ?_
      refine Exec.run tyOk 400 rfl ?_
      exact Exec.round [(0, .v (.slice a2 ((x1).length) (k2)))] ⟨rfl, trivial⟩ ⟨rfl, rfl, h10, hF⟩

def F_placement_Nodes_L1 (x1 : TPlacement) (J7 : (List Int) → Option (List Int)) : Nat → (List Int) → Int → Option (List Int)
  | 0, _, _ => none
  | n18 + 1, x16, x17 => (cond (decide (x17 < (((x1.Parts).length : Nat) : Int))) (req (0 ≤ x17 ∧ x17 < ((x1.Parts).length : Int)) (req (((x16 ++ [(atI x1.Parts x17).Node])).length * 8 ≤ 140737488355328) (jn (fun (x26 : List Int) => (F_placement_Nodes_L1 x1 J7 n18 x26 ((IntKind.i64.wrap (x17 + (1 : Int)))))) (fun J27 => (cond ((atI x1.Parts x17).Dest != (0 : Int)) (req ((((x16 ++ [(atI x1.Parts x17).Node]) ++ [(atI x1.Parts x17).Dest])).length * 8 ≤ 140737488355328) (J27 (((x16 ++ [(atI x1.Parts x17).Node]) ++ [(atI x1.Parts x17).Dest])))) (J27 ((x16 ++ [(atI x1.Parts x17).Node])))))))) (J7 x16))

def F_placement_Nodes (x1 : TPlacement) : Option (List Int) :=
  (bnd (F_placement_Valid x1) fun x3 => (cond (!x3) (some ([] : List Int)) (jn (fun (x6 : List Int) => (req ((x6).length < 4611686018427387904) (some (compactL (sortL x6))))) (fun J7 => (F_placement_Nodes_L1 x1 J7 (((((x1.Parts).length : Nat) : Int)).toNat + 1) (([] : List Int)) ((0 : Int)))))))

set_option maxRecDepth 100000 in
theorem W_placement_Nodes {V : View} (x1 : TPlacement) {a2 : Option Addr} {k2 : Nat} (h2 : SlAt cTPart V a2 k2 x1.Parts) {r : List Int} (hF : F_placement_Nodes x1 = some r) :
    Spec Tryz.prog 52 [.agg ⟨[.int .i64 (x1.Version), .slice a2 ((x1.Parts).length) (k2)]⟩] V (fun V' v => ∃ (a32 : Option Addr) (k32 : Nat), v = .slice a32 ((r).length) (k32) ∧ SlAt (cInt .i64) V' a32 k32 r) := by
  unfold F_placement_Nodes at hF
  refine Spec.enter (T := tyT) Tryz.func52 rfl (by kernel_rfl) rfl rfl rfl ?_
  refine Exec.run tyOk 400 rfl ?_
  obtain ⟨x3, hx3, hF⟩ := bnd_some hF
  refine Exec.callS (.bool (x3)) rfl rfl (W_placement_Valid x1 h2 hx3) ?_
  refine Exec.run tyOk 400 rfl ?_
  rcases cond_some hF with ⟨hb, hF⟩ | ⟨hb, hF⟩
  · skip
    refine Exec.ifT rfl hb ?_
    refine Exec.run tyOk 400 rfl ?_
    obtain rfl := some_inj hF
    exact Exec.ret tyOk rfl rfl ⟨_, _, rfl, SlAt.nil⟩
  · skip
    refine Exec.ifF rfl hb ?_
    refine Exec.run tyOk 13 rfl ?_
    refine Exec.row0 3 1 rfl ?_
    have h4 : RowRep (cInt .i64) V ([] : List Int) [] := RowRep.nil
    obtain ⟨J7, hJ7, hF⟩ := jn_some hF
    refine Exec.seam (fun L' V' M' => ∃ (x6 : List Int) (a5 : Option Addr) (k5 : Nat) (cs5 : List Value), L' = [(3, .v (.slice a5 ((x6).length) (k5)))] ∧ M' = [.blk [.v (.int .i64 (x1.Version)), .v (.slice a2 ((x1.Parts).length) (k2))] 24, .row (.slice a5 ((x6).length) (k5)) cs5 3 1] ∧ RowRep (cInt .i64) V' x6 cs5 ∧ SlAt cTPart V' a2 k2 x1.Parts ∧ J7 x6 = some r) rfl ?_ ?_
    · rintro L' V8 M' ⟨x6, a5, k5, cs5, rfl, rfl, h5, h9, hF⟩
      subst hJ7
      refine Exec.run tyOk 400 rfl ?_
      obtain ⟨q11, hF⟩ := req_some hF
      refine Exec.callM 1 rfl rfl rfl rfl (sortI_row h5 (fun cs e => by subst e; exact (sortI_specM ⟨_, rfl, by kernel_rfl, by kernel_rfl⟩ Tryz.slices_Sort_int Tryz.slices_Sort_int_none q11))) ?_
      rintro VV10 _ _ _ ⟨rfl, hVV, rfl⟩
      have hVV := hVV.symm
      subst hVV
      refine ⟨_, rfl, ?_⟩
      have h10 : RowRep (cInt .i64) V8 (sortL x6) ((sortL x6).map (Value.int .i64)) := RowRep.ofInts _
      refine Exec.run tyOk 400 rfl ?_
      refine Exec.callM 1 rfl rfl rfl rfl (compactI_row h10 (fun cs e => by subst e; exact (compactI_specM ⟨_, rfl, by kernel_rfl, by kernel_rfl⟩ Tryz.slices_Compact_int Tryz.slices_Compact_int_empty))) ?_
      rintro VV12 _ _ _ ⟨rfl, hVV, rfl⟩
      have hVV := hVV.symm
      subst hVV
      refine ⟨_, rfl, ?_⟩
      have h12 : RowRep (cInt .i64) V8 (compactL (sortL x6)) ((compactL (sortL x6)).map (Value.int .i64)) := RowRep.ofInts _
      refine Exec.run tyOk 400 rfl ?_
      refine Exec.frz 1 rfl rfl rfl (fun V13 hv13 hd13 hn13 => ?_)
      have hz13 := RowRep.slat h12 hv13 hd13 hn13
      have h14 := SlAt.mono h9 hv13
      obtain rfl := some_inj hF
      exact Exec.ret tyOk rfl rfl ⟨_, _, rfl, hz13⟩
    · skip
      refine Exec.run tyOk 400 rfl ?_
      refine Exec.loop (fun n18 L' V' M' => ∃ (x16 : List Int) (a15 : Option Addr) (k15 : Nat) (cs15 : List Value) (x17 : Int), L' = [(3, .v (.slice a15 ((x16).length) (k15))), (10, .v (.slice a2 ((x1.Parts).length) (k2))), (11, .v (.int .i64 ((((x1.Parts).length : Nat) : Int)))), (12, .v (.int .i64 (x17)))] ∧ M' = [.blk [.v (.int .i64 (x1.Version)), .v (.slice a2 ((x1.Parts).length) (k2))] 24, .row (.slice a15 ((x16).length) (k15)) cs15 3 1] ∧ RowRep (cInt .i64) V' x16 cs15 ∧ SlAt cTPart V' a2 k2 x1.Parts ∧ F_placement_Nodes_L1 x1 J7 n18 x16 x17 = some r) ⟨(((((x1.Parts).length : Nat) : Int)).toNat + 1), [(3, .v (.slice none ((([] : List Int)).length) (0))), (10, .v (.slice a2 ((x1.Parts).length) (k2))), (11, .v (.int .i64 ((((x1.Parts).length : Nat) : Int)))), (12, .v (.int .i64 ((0 : Int))))], ⟨rfl, rfl, rfl, rfl, trivial⟩, ([] : List Int), none, 0, [], (0 : Int), rfl, rfl, h4, h2, hF⟩ ?_
      rintro n18 L' V19 M' ⟨x16, a15, k15, cs15, x17, rfl, rfl, h15, h20, hF⟩
      rcases n18 with _ | n18
      · exact absurd hF (by simp [F_placement_Nodes_L1])
      rw [F_placement_Nodes_L1] at hF
      refine Exec.run tyOk 400 rfl ?_
      rcases cond_some hF with ⟨hb, hF⟩ | ⟨hb, hF⟩
      · skip
        refine Exec.ifT rfl hb ?_
        refine Exec.run tyOk 400 rfl ?_
        obtain ⟨q21, hF⟩ := req_some hF
        obtain ⟨c22, hr22, hd22⟩ := SlAt.get h20 q21
        obtain rfl := hr22
        refine Exec.ia tyOk rfl rfl ⟨q21.1, q21.2, hd22.some⟩ ?_
        refine Exec.run tyOk 400 rfl ?_
        refine Exec.ld tyOk (x := .agg ⟨[.int .i64 ((atI x1.Parts x17).Id), .string ⟨⟨(atI x1.Parts x17).From⟩⟩, .int .i64 ((atI x1.Parts x17).Node), .int .i64 ((atI x1.Parts x17).Dest), .string ⟨⟨(atI x1.Parts x17).Done⟩⟩]⟩) rfl rfl hd22 rfl rfl ?_
        refine Exec.run tyOk 400 rfl ?_
        refine Exec.bsl tyOk rfl rfl ?_
        refine Exec.run tyOk 400 rfl ?_
        obtain ⟨q24, hF⟩ := req_some hF
        refine Exec.app tyOk 1 3 (nm := ((x16 ++ [(atI x1.Parts x17).Node])).length) rfl rfl rfl rfl rfl rfl rfl rfl rfl (by simp) (fun _ _ => rfl) rfl q24 (fun a23 k23 => ?_)
        have h23 : RowRep (cInt .i64) V19 (x16 ++ [(atI x1.Parts x17).Node]) (cs15 ++ [.int .i64 ((atI x1.Parts x17).Node)]) := RowRep.app h15 ⟨_, _, rfl, rfl, rfl⟩
        refine Exec.run tyOk 400 rfl ?_
        obtain ⟨J27, hJ27, hF⟩ := jn_some hF
        refine Exec.seam (fun L' V' M' => ∃ (x26 : List Int) (a25 : Option Addr) (k25 : Nat) (cs25 : List Value), L' = [(3, .v (.slice a25 ((x26).length) (k25))), (10, .v (.slice a2 ((x1.Parts).length) (k2))), (11, .v (.int .i64 ((((x1.Parts).length : Nat) : Int)))), (12, .v (.int .i64 (x17)))] ∧ M' = [.blk [.v (.int .i64 (x1.Version)), .v (.slice a2 ((x1.Parts).length) (k2))] 24, .row (.slice a25 ((x26).length) (k25)) cs25 3 1] ∧ RowRep (cInt .i64) V' x26 cs25 ∧ SlAt cTPart V' a2 k2 x1.Parts ∧ J27 x26 = some r) rfl ?_ ?_
        · rintro L' V28 M' ⟨x26, a25, k25, cs25, rfl, rfl, h25, h29, hF⟩
          subst hJ27
          refine Exec.run tyOk 400 rfl ?_
          exact Exec.round [(3, .v (.slice a25 ((x26).length) (k25))), (10, .v (.slice a2 ((x1.Parts).length) (k2))), (11, .v (.int .i64 ((((x1.Parts).length : Nat) : Int)))), (12, .v (.int .i64 ((IntKind.i64.wrap (x17 + (1 : Int))))))] ⟨rfl, rfl, rfl, rfl, trivial⟩ ⟨n18, Nat.lt_succ_self _, x26, a25, k25, cs25, (IntKind.i64.wrap (x17 + (1 : Int))), rfl, rfl, h25, h29, hF⟩
        · skip
          refine Exec.run tyOk 400 rfl ?_
          rcases cond_some hF with ⟨hb, hF⟩ | ⟨hb, hF⟩
          · skip
            refine Exec.ifT rfl hb ?_
            refine Exec.run tyOk 400 rfl ?_
            refine Exec.bsl tyOk rfl rfl ?_
            refine Exec.run tyOk 400 rfl ?_
            obtain ⟨q31, hF⟩ := req_some hF
            refine Exec.app tyOk 1 4 (nm := (((x16 ++ [(atI x1.Parts x17).Node]) ++ [(atI x1.Parts x17).Dest])).length) rfl rfl rfl rfl rfl rfl rfl rfl rfl (by simp) (fun _ _ => rfl) rfl q31 (fun a30 k30 => ?_)
            have h30 : RowRep (cInt .i64) V19 ((x16 ++ [(atI x1.Parts x17).Node]) ++ [(atI x1.Parts x17).Dest]) ((cs15 ++ [.int .i64 ((atI x1.Parts x17).Node)]) ++ [.int .i64 ((atI x1.Parts x17).Dest)]) := RowRep.app h23 ⟨_, _, rfl, rfl, rfl⟩
            refine Exec.run tyOk 400 rfl ?_
            refine Exec.cut 2 [(3, .v (.slice a30 ((((x16 ++ [(atI x1.Parts x17).Node]) ++ [(atI x1.Parts x17).Dest])).length) (k30))), (10, .v (.slice a2 ((x1.Parts).length) (k2))), (11, .v (.int .i64 ((((x1.Parts).length : Nat) : Int)))), (12, .v (.int .i64 (x17)))] (M' := [.blk [.v (.int .i64 (x1.Version)), .v (.slice a2 ((x1.Parts).length) (k2))] 24, .row (.slice a30 ((((x16 ++ [(atI x1.Parts x17).Node]) ++ [(atI x1.Parts x17).Dest])).length) (k30)) (((cs15 ++ [.int .i64 ((atI x1.Parts x17).Node)]) ++ [.int .i64 ((atI x1.Parts x17).Dest)])) 3 1]) rfl ⟨rfl, rfl, rfl, rfl, trivial⟩ rfl rfl rfl ?_
            exact Exec.round [(3, .v (.slice a30 ((((x16 ++ [(atI x1.Parts x17).Node]) ++ [(atI x1.Parts x17).Dest])).length) (k30))), (10, .v (.slice a2 ((x1.Parts).length) (k2))), (11, .v (.int .i64 ((((x1.Parts).length : Nat) : Int)))), (12, .v (.int .i64 (x17)))] ⟨rfl, rfl, rfl, rfl, trivial⟩ ⟨((x16 ++ [(atI x1.Parts x17).Node]) ++ [(atI x1.Parts x17).Dest]), a30, k30, ((cs15 ++ [.int .i64 ((atI x1.Parts x17).Node)]) ++ [.int .i64 ((atI x1.Parts x17).Dest)]), rfl, rfl, h30, h20, hF⟩
          · skip
            refine Exec.ifF rfl hb ?_
            refine Exec.run tyOk 400 rfl ?_
            refine Exec.cut 2 [(3, .v (.slice a23 (((x16 ++ [(atI x1.Parts x17).Node])).length) (k23))), (10, .v (.slice a2 ((x1.Parts).length) (k2))), (11, .v (.int .i64 ((((x1.Parts).length : Nat) : Int)))), (12, .v (.int .i64 (x17)))] (M' := [.blk [.v (.int .i64 (x1.Version)), .v (.slice a2 ((x1.Parts).length) (k2))] 24, .row (.slice a23 (((x16 ++ [(atI x1.Parts x17).Node])).length) (k23)) ((cs15 ++ [.int .i64 ((atI x1.Parts x17).Node)])) 3 1]) rfl ⟨rfl, rfl, rfl, rfl, trivial⟩ rfl rfl rfl ?_
            exact Exec.round [(3, .v (.slice a23 (((x16 ++ [(atI x1.Parts x17).Node])).length) (k23))), (10, .v (.slice a2 ((x1.Parts).length) (k2))), (11, .v (.int .i64 ((((x1.Parts).length : Nat) : Int)))), (12, .v (.int .i64 (x17)))] ⟨rfl, rfl, rfl, rfl, trivial⟩ ⟨(x16 ++ [(atI x1.Parts x17).Node]), a23, k23, (cs15 ++ [.int .i64 ((atI x1.Parts x17).Node)]), rfl, rfl, h23, h20, hF⟩
      · skip
        refine Exec.ifF rfl hb ?_
        refine Exec.run tyOk 400 rfl ?_
        exact Exec.round [(3, .v (.slice a15 ((x16).length) (k15)))] ⟨rfl, trivial⟩ ⟨x16, a15, k15, cs15, rfl, rfl, h15, h20, hF⟩

def F_exchange_same (x1 : TMail) (x4 : TMail) : Option Bool :=
  (bnd (gcall (((((x1.Txn == x4.Txn) && (x1.From == x4.From)) && (x1.To == x4.To))) == true) (F_keys_Same x1.Keys x4.Keys)) fun x7 => (bnd (gcall ((((((x1.Txn == x4.Txn) && (x1.From == x4.From)) && (x1.To == x4.To)) && x7)) == true) (F_state_Same x1.Pairs x4.Pairs)) fun x8 => (some (((((x1.Txn == x4.Txn) && (x1.From == x4.From)) && (x1.To == x4.To)) && x7) && x8))))

set_option maxRecDepth 100000 in
theorem W_exchange_same {V : View} (x1 : TMail) (x4 : TMail) {a2 : Option Addr} {k2 : Nat} {a3 : Option Addr} {k3 : Nat} {a5 : Option Addr} {k5 : Nat} {a6 : Option Addr} {k6 : Nat} (h2 : SlAt cStr V a2 k2 x1.Keys) (h3 : SlAt cTPair V a3 k3 x1.Pairs) (h5 : SlAt cStr V a5 k5 x4.Keys) (h6 : SlAt cTPair V a6 k6 x4.Pairs) {r : Bool} (hF : F_exchange_same x1 x4 = some r) :
    Spec Tryz.prog 59 [.agg ⟨[.int .i64 (x1.Txn), .int .i64 (x1.From), .int .i64 (x1.To), .slice a2 ((x1.Keys).length) (k2), .slice a3 ((x1.Pairs).length) (k3)]⟩, .agg ⟨[.int .i64 (x4.Txn), .int .i64 (x4.From), .int .i64 (x4.To), .slice a5 ((x4.Keys).length) (k5), .slice a6 ((x4.Pairs).length) (k6)]⟩] V (fun _ v => v = .bool (r)) := by
  unfold F_exchange_same at hF
  refine Spec.enter (T := tyT) Tryz.func59 rfl (by kernel_rfl) rfl rfl rfl ?_
  refine Exec.run tyOk 400 rfl ?_
  obtain ⟨x7, hx7, hF⟩ := bnd_some hF
  refine Exec.callS (.bool (x7)) rfl rfl (fun gg0 => W_keys_Same x1.Keys x4.Keys h2 h5 (gcall_some hx7 (gd1_of gg0))) ?_
  refine Exec.run tyOk 400 rfl ?_
  obtain ⟨x8, hx8, hF⟩ := bnd_some hF
  refine Exec.callS (.bool (x8)) rfl rfl (fun gg0 => W_state_Same x1.Pairs x4.Pairs h3 h6 (gcall_some hx8 (gd1_of gg0))) ?_
  refine Exec.run tyOk 400 rfl ?_
  obtain rfl := some_inj hF
  exact Exec.ret tyOk rfl rfl rfl

def F_wire_TakeInt (x1 : Str) (x2 : Int) : Option (Int × Int × Int) :=
  (bnd (F_wire_TakeUint x1 x2) fun x3 => (cond (x3.2.2 != (0 : Int)) (some ((0 : Int), (0 : Int), x3.2.2)) (req (0 ≤ (1 : Int)) (some ((bits .xor .i64 (IntKind.i64.wrap (shrI .u64 x3.1 (1 : Int))) (IntKind.i64.wrap ((0 : Int) - (IntKind.i64.wrap (bits .and .u64 x3.1 (1 : Int)))))), x3.2.1, (0 : Int))))))

set_option maxRecDepth 100000 in
theorem W_wire_TakeInt {V : View} (x1 : Str) (x2 : Int)   {r : Int × Int × Int} (hF : F_wire_TakeInt x1 x2 = some r) :
    Spec Tryz.prog 74 [.string ⟨⟨x1⟩⟩, .int .i64 (x2)] V (fun _ v => v = .tuple ⟨[.int .i64 (r.1), .int .i64 (r.2.1), .int .i64 (r.2.2)]⟩) := by
  unfold F_wire_TakeInt at hF
  refine Spec.enter (T := tyT) Tryz.func74 rfl (by kernel_rfl) rfl rfl rfl ?_
  refine Exec.run tyOk 400 rfl ?_
  obtain ⟨x3, hx3, hF⟩ := bnd_some hF
  refine Exec.callS (.tuple ⟨[.int .u64 (x3.1), .int .i64 (x3.2.1), .int .i64 (x3.2.2)]⟩) rfl rfl (W_wire_TakeUint x1 x2  hx3) ?_
  refine Exec.run tyOk 400 rfl ?_
  rcases cond_some hF with ⟨hb, hF⟩ | ⟨hb, hF⟩
  · skip
    refine Exec.ifT rfl hb ?_
    refine Exec.run tyOk 400 rfl ?_
    obtain rfl := some_inj hF
    exact Exec.ret tyOk rfl rfl rfl
  · skip
    refine Exec.ifF rfl hb ?_
    refine Exec.run tyOk 400 rfl ?_
    obtain ⟨q4, hF⟩ := req_some hF
    refine Exec.ari rfl rfl q4 ?_
    refine Exec.run tyOk 400 rfl ?_
    obtain rfl := some_inj hF
    exact Exec.ret tyOk rfl rfl rfl

def F_wire_TakeCount (x1 : Str) (x2 : Int) (x3 : Int) : Option (Int × Int × Int) :=
  (bnd (F_wire_TakeUint x1 x2) fun x4 => (cond (x4.2.2 != (0 : Int)) (some ((0 : Int), (0 : Int), x4.2.2)) (cond ((decide (x3 < (0 : Int))) || (decide ((IntKind.u64.wrap x3) < x4.1))) (some ((0 : Int), (0 : Int), (2 : Int))) (cond (decide ((IntKind.u64.wrap (IntKind.i64.wrap (((x1).length : Int) - x4.2.1))) < x4.1)) (some ((0 : Int), (0 : Int), (6 : Int))) (some ((IntKind.i64.wrap x4.1), x4.2.1, (0 : Int)))))))

set_option maxRecDepth 100000 in
theorem W_wire_TakeCount {V : View} (x1 : Str) (x2 : Int) (x3 : Int)   {r : Int × Int × Int} (hF : F_wire_TakeCount x1 x2 x3 = some r) :
    Spec Tryz.prog 75 [.string ⟨⟨x1⟩⟩, .int .i64 (x2), .int .i64 (x3)] V (fun _ v => v = .tuple ⟨[.int .i64 (r.1), .int .i64 (r.2.1), .int .i64 (r.2.2)]⟩) := by
  unfold F_wire_TakeCount at hF
  refine Spec.enter (T := tyT) Tryz.func75 rfl (by kernel_rfl) rfl rfl rfl ?_
  refine Exec.run tyOk 400 rfl ?_
  obtain ⟨x4, hx4, hF⟩ := bnd_some hF
  refine Exec.callS (.tuple ⟨[.int .u64 (x4.1), .int .i64 (x4.2.1), .int .i64 (x4.2.2)]⟩) rfl rfl (W_wire_TakeUint x1 x2  hx4) ?_
  refine Exec.run tyOk 400 rfl ?_
  rcases cond_some hF with ⟨hb, hF⟩ | ⟨hb, hF⟩
  · skip
    refine Exec.ifT rfl hb ?_
    refine Exec.run tyOk 400 rfl ?_
    obtain rfl := some_inj hF
    exact Exec.ret tyOk rfl rfl rfl
  · skip
    refine Exec.ifF rfl hb ?_
    refine Exec.run tyOk 400 rfl ?_
    rcases cond_some hF with ⟨hb, hF⟩ | ⟨hb, hF⟩
    · skip
      refine Exec.ifT rfl hb ?_
      refine Exec.run tyOk 400 rfl ?_
      obtain rfl := some_inj hF
      exact Exec.ret tyOk rfl rfl rfl
    · skip
      refine Exec.ifF rfl hb ?_
      refine Exec.run tyOk 400 rfl ?_
      rcases cond_some hF with ⟨hb, hF⟩ | ⟨hb, hF⟩
      · skip
        refine Exec.ifT rfl hb ?_
        refine Exec.run tyOk 400 rfl ?_
        obtain rfl := some_inj hF
        exact Exec.ret tyOk rfl rfl rfl
      · skip
        refine Exec.ifF rfl hb ?_
        refine Exec.run tyOk 400 rfl ?_
        obtain rfl := some_inj hF
        exact Exec.ret tyOk rfl rfl rfl

def F_wire_TakeText (x1 : Str) (x2 : Int) (x3 : Int) : Option (Str × Int × Int) :=
  (bnd (F_wire_TakeCount x1 x2 x3) fun x4 => (cond (x4.2.2 != (0 : Int)) (some (([] : Str), (0 : Int), x4.2.2)) (req (0 ≤ x4.2.1 ∧ x4.2.1 ≤ (IntKind.i64.wrap (x4.2.1 + x4.1)) ∧ (IntKind.i64.wrap (x4.2.1 + x4.1)) ≤ (((x1).length : Nat) : Int)) (some (((x1.take ((IntKind.i64.wrap (x4.2.1 + x4.1))).toNat).drop (x4.2.1).toNat), (IntKind.i64.wrap (x4.2.1 + x4.1)), (0 : Int))))))

set_option maxRecDepth 100000 in
theorem W_wire_TakeText {V : View} (x1 : Str) (x2 : Int) (x3 : Int)   {r : Str × Int × Int} (hF : F_wire_TakeText x1 x2 x3 = some r) :
    Spec Tryz.prog 76 [.string ⟨⟨x1⟩⟩, .int .i64 (x2), .int .i64 (x3)] V (fun _ v => v = .tuple ⟨[.string ⟨⟨r.1⟩⟩, .int .i64 (r.2.1), .int .i64 (r.2.2)]⟩) := by
  unfold F_wire_TakeText at hF
  refine Spec.enter (T := tyT) Tryz.func76 rfl (by kernel_rfl) rfl rfl rfl ?_
  refine Exec.run tyOk 400 rfl ?_
  obtain ⟨x4, hx4, hF⟩ := bnd_some hF
  refine Exec.callS (.tuple ⟨[.int .i64 (x4.1), .int .i64 (x4.2.1), .int .i64 (x4.2.2)]⟩) rfl rfl (W_wire_TakeCount x1 x2 x3  hx4) ?_
  refine Exec.run tyOk 400 rfl ?_
  rcases cond_some hF with ⟨hb, hF⟩ | ⟨hb, hF⟩
  · skip
    refine Exec.ifT rfl hb ?_
    refine Exec.run tyOk 400 rfl ?_
    obtain rfl := some_inj hF
    exact Exec.ret tyOk rfl rfl rfl
  · skip
    refine Exec.ifF rfl hb ?_
    refine Exec.run tyOk 400 rfl ?_
    obtain ⟨q5, hF⟩ := req_some hF
    refine Exec.ssl tyOk (r := ((x1.take ((IntKind.i64.wrap (x4.2.1 + x4.1))).toNat).drop (x4.2.1).toNat)) rfl rfl q5 rfl ?_
    refine Exec.run tyOk 400 rfl ?_
    obtain rfl := some_inj hF
    exact Exec.ret tyOk rfl rfl rfl

def F_wire_Int (x1 : Int) : Option Str :=
  (req (0 ≤ (1 : Int)) (req (0 ≤ (63 : Int)) (bnd (F_wire_Uint ((bits .xor .u64 (shlI .u64 (IntKind.u64.wrap x1) (1 : Int)) (IntKind.u64.wrap (shrI .i64 x1 (63 : Int)))))) fun x4 => (some x4))))

set_option maxRecDepth 100000 in
theorem W_wire_Int {V : View} (x1 : Int)   {r : Str} (hF : F_wire_Int x1 = some r) :
    Spec Tryz.prog 84 [.int .i64 (x1)] V (fun _ v => v = .string ⟨⟨r⟩⟩) := by
  unfold F_wire_Int at hF
  refine Spec.enter (T := tyT) Tryz.func84 rfl (by kernel_rfl) rfl rfl rfl ?_
  refine Exec.run tyOk 400 rfl ?_
  obtain ⟨q2, hF⟩ := req_some hF
  refine Exec.ari rfl rfl q2 ?_
  refine Exec.run tyOk 400 rfl ?_
  obtain ⟨q3, hF⟩ := req_some hF
  refine Exec.ari rfl rfl q3 ?_
  refine Exec.run tyOk 400 rfl ?_
  obtain ⟨x4, hx4, hF⟩ := bnd_some hF
  refine Exec.callS (.string ⟨⟨x4⟩⟩) rfl rfl (W_wire_Uint ((bits .xor .u64 (shlI .u64 (IntKind.u64.wrap x1) (1 : Int)) (IntKind.u64.wrap (shrI .i64 x1 (63 : Int)))))  hx4) ?_
  refine Exec.run tyOk 400 rfl ?_
  obtain rfl := some_inj hF
  exact Exec.ret tyOk rfl rfl rfl

def F_clockworkref06_Encode_L1 (x1 : List TPair) (J5 : Str → Option Str) : Nat → Str → Int → Option Str
  | 0, _, _ => none
  | n9 + 1, x7, x8 => (cond (decide (x8 < (((x1).length : Nat) : Int))) (req (0 ≤ x8 ∧ x8 < ((x1).length : Int)) (req (0 ≤ x8 ∧ x8 < ((x1).length : Int)) (bnd (F_clockworkref02_Text ((atI x1 x8).Key)) fun x16 => (req ((x7).length + (x16).length ≤ 9223372036854775807) (bnd (F_clockworkref05_Encode ((atI x1 x8).Val)) fun x18 => (req (((x7 ++ x16)).length + (x18).length ≤ 9223372036854775807) (F_clockworkref06_Encode_L1 x1 J5 n9 (((x7 ++ x16) ++ x18)) ((IntKind.i64.wrap (x8 + (1 : Int))))))))))) (J5 x7))

def F_clockworkref06_Encode (x1 : List TPair) : Option Str :=
  (bnd (F_clockworkref02_Uint ((IntKind.u64.wrap (((x1).length : Nat) : Int)))) fun x3 => (jn (fun (x4 : Str) => (some x4)) (fun J5 => (F_clockworkref06_Encode_L1 x1 J5 (((((x1).length : Nat) : Int)).toNat + 1) x3 ((0 : Int))))))

set_option maxRecDepth 100000 in
theorem W_clockworkref06_Encode {V : View} (x1 : List TPair) {a2 : Option Addr} {k2 : Nat} (h2 : SlAt cTPair V a2 k2 x1) {r : Str} (hF : F_clockworkref06_Encode x1 = some r) :
    Spec Tryz.prog 92 [.slice a2 ((x1).length) (k2)] V (fun _ v => v = .string ⟨⟨r⟩⟩) := by
  unfold F_clockworkref06_Encode at hF
  refine Spec.enter (T := tyT) Tryz.func92 rfl (by kernel_rfl) rfl rfl rfl ?_
  refine Exec.run tyOk 400 rfl ?_
  obtain ⟨x3, hx3, hF⟩ := bnd_some hF
  refine Exec.callS (.string ⟨⟨x3⟩⟩) rfl rfl (W_clockworkref02_Uint ((IntKind.u64.wrap (((x1).length : Nat) : Int)))  hx3) ?_
  refine Exec.run tyOk 7 rfl ?_
  obtain ⟨J5, hJ5, hF⟩ := jn_some hF
  refine Exec.seam (fun L' V' M' => ∃ (x4 : Str), L' = [(3, .v (.string ⟨⟨x4⟩⟩))] ∧ M' = [] ∧ J5 x4 = some r) rfl ?_ ?_
  · rintro L' V6 M' ⟨x4, rfl, rfl, hF⟩
    subst hJ5
    refine Exec.run tyOk 400 rfl ?_
    obtain rfl := some_inj hF
    exact Exec.ret tyOk rfl rfl rfl
  · skip
    refine Exec.run tyOk 400 rfl ?_
    refine Exec.loop (fun n9 L' V' M' => ∃ (x7 : Str) (x8 : Int), L' = [(0, .v (.slice a2 ((x1).length) (k2))), (3, .v (.string ⟨⟨x7⟩⟩)), (4, .v (.int .i64 (x8)))] ∧ M' = [] ∧ SlAt cTPair V' a2 k2 x1 ∧ F_clockworkref06_Encode_L1 x1 J5 n9 x7 x8 = some r) ⟨(((((x1).length : Nat) : Int)).toNat + 1), [(0, .v (.slice a2 ((x1).length) (k2))), (3, .v (.string ⟨⟨x3⟩⟩)), (4, .v (.int .i64 ((0 : Int))))], ⟨rfl, rfl, rfl, trivial⟩, x3, (0 : Int), rfl, rfl, h2, hF⟩ ?_
    rintro n9 L' V10 M' ⟨x7, x8, rfl, rfl, h11, hF⟩
    rcases n9 with _ | n9
    · exact absurd hF (by simp [F_clockworkref06_Encode_L1])
    rw [F_clockworkref06_Encode_L1] at hF
    refine Exec.run tyOk 400 rfl ?_
    rcases cond_some hF with ⟨hb, hF⟩ | ⟨hb, hF⟩
    · skip
      refine Exec.ifT rfl hb ?_
      refine Exec.run tyOk 400 rfl ?_
      refine Exec.draws tyOk [(0, true), (1, true), (2, true), (3, true), (4, true), (5, true), (8, true), (9, true), (10, true), (11, true), (12, true), (6, false), (7, true), (13, false), (14, false), (15, false)] rfl (by kernel_rfl) ?_
      refine Exec.run tyOk 400 rfl ?_
      obtain ⟨q12, hF⟩ := req_some hF
      obtain ⟨c13, hr13, hd13⟩ := SlAt.get h11 q12
      obtain rfl := hr13
      refine Exec.fia tyOk rfl rfl rfl ⟨q12.1, q12.2, hd13.some⟩ ?_
      refine Exec.run tyOk 400 rfl ?_
      refine Exec.fld tyOk (x := .string ⟨⟨(atI x1 x8).Key⟩⟩) rfl rfl rfl (RdAt.part hd13 0 1 rfl) rfl rfl ?_
      refine Exec.run tyOk 400 rfl ?_
      obtain ⟨q14, hF⟩ := req_some hF
      obtain ⟨c15, hr15, hd15⟩ := SlAt.get h11 q14
      obtain rfl := hr15
      refine Exec.fia tyOk rfl rfl rfl ⟨q14.1, q14.2, hd15.some⟩ ?_
      refine Exec.run tyOk 400 rfl ?_
      refine Exec.fld tyOk (x := .agg ⟨[.int .i64 ((atI x1 x8).Val.Kind), .int .i64 ((atI x1 x8).Val.N), .string ⟨⟨(atI x1 x8).Val.S⟩⟩]⟩) rfl rfl rfl (RdAt.part hd15 1 3 rfl) rfl rfl ?_
      refine Exec.run tyOk 400 rfl ?_
      obtain ⟨x16, hx16, hF⟩ := bnd_some hF
      refine Exec.callS (.string ⟨⟨x16⟩⟩) rfl rfl (W_clockworkref02_Text ((atI x1 x8).Key)  hx16) ?_
      refine Exec.run tyOk 400 rfl ?_
      obtain ⟨q17, hF⟩ := req_some hF
      refine Exec.fcat rfl rfl rfl q17 ?_
      refine Exec.run tyOk 400 rfl ?_
      obtain ⟨x18, hx18, hF⟩ := bnd_some hF
      refine Exec.callS (.string ⟨⟨x18⟩⟩) rfl rfl (W_clockworkref05_Encode ((atI x1 x8).Val)  hx18) ?_
      refine Exec.run tyOk 400 rfl ?_
      obtain ⟨q19, hF⟩ := req_some hF
      refine Exec.cat rfl rfl q19 ?_
      refine Exec.run tyOk 400 rfl ?_
      exact Exec.round [(0, .v (.slice a2 ((x1).length) (k2))), (3, .v (.string ⟨⟨((x7 ++ x16) ++ x18)⟩⟩)), (4, .v (.int .i64 ((IntKind.i64.wrap (x8 + (1 : Int))))))] ⟨rfl, rfl, rfl, trivial⟩ ⟨n9, Nat.lt_succ_self _, ((x7 ++ x16) ++ x18), (IntKind.i64.wrap (x8 + (1 : Int))), rfl, rfl, h11, hF⟩
    · skip
      refine Exec.ifF rfl hb ?_
      refine Exec.run tyOk 400 rfl ?_
      exact Exec.round [(3, .v (.string ⟨⟨x7⟩⟩))] ⟨rfl, trivial⟩ ⟨x7, rfl, rfl, hF⟩

def F_placement_Index_L2 (x3 : Str) (x1 : TPlacement) (x9 : Int) (J6 : Int → Option Int) (J14 : Int → Option Int) : Nat → Int → Int → Option Int
  | 0, _, _ => none
  | n21 + 1, x19, x20 => (req (((((decide (x20 < ((x3).length : Int)))) == true) && (((x20 == (((atI x1.Parts x9).From).length : Int))) == false)) = true → 0 ≤ x20 ∧ x20 < (((atI x1.Parts x9).From).length : Int)) (req (((((decide (x20 < ((x3).length : Int)))) == true) && (((x20 == (((atI x1.Parts x9).From).length : Int))) == false)) = true → 0 ≤ x20 ∧ x20 < ((x3).length : Int)) (cond ((x20 == (((atI x1.Parts x9).From).length : Int)) || ((decide (x20 < ((x3).length : Int))) && (decide ((byteAt ((atI x1.Parts x9).From) (x20).toNat) < (byteAt x3 (x20).toNat))))) (J6 x9) (req ((((x20 == ((x3).length : Int))) == false) = true → 0 ≤ x20 ∧ x20 < (((atI x1.Parts x9).From).length : Int)) (req ((((x20 == ((x3).length : Int))) == false) = true → 0 ≤ x20 ∧ x20 < ((x3).length : Int)) (cond ((x20 == ((x3).length : Int)) || (decide ((byteAt x3 (x20).toNat) < (byteAt ((atI x1.Parts x9).From) (x20).toNat)))) (J14 x19) (F_placement_Index_L2 x3 x1 x9 J6 J14 n21 x19 ((IntKind.i64.wrap (x20 + (1 : Int)))))))))))

def F_placement_Index_L1 (x1 : TPlacement) (x3 : Str) (J6 : Int → Option Int) : Nat → Int → Int → Option Int
  | 0, _, _ => none
  | n10 + 1, x8, x9 => (cond (decide ((0 : Int) < x9)) (jn (fun (x13 : Int) => (F_placement_Index_L1 x1 x3 J6 n10 x13 ((IntKind.i64.wrap (x9 - (1 : Int)))))) (fun J14 => (req (0 ≤ x9 ∧ x9 < ((x1.Parts).length : Int)) (F_placement_Index_L2 x3 x1 x9 J6 J14 (1000000 : Nat) x8 ((0 : Int)))))) (J6 x8))

def F_placement_Index (x1 : TPlacement) (x3 : Str) : Option Int :=
  (bnd (F_placement_Valid x1) fun x4 => (cond (!x4) (some (-1 : Int)) (jn (fun (x5 : Int) => (some x5)) (fun J6 => (F_placement_Index_L1 x1 x3 J6 (((IntKind.i64.wrap ((((x1.Parts).length : Nat) : Int) - (1 : Int)))).toNat + 1) ((0 : Int)) ((IntKind.i64.wrap ((((x1.Parts).length : Nat) : Int) - (1 : Int)))))))))

set_option maxRecDepth 100000 in
theorem W_placement_Index {V : View} (x1 : TPlacement) (x3 : Str) {a2 : Option Addr} {k2 : Nat} (h2 : SlAt cTPart V a2 k2 x1.Parts) {r : Int} (hF : F_placement_Index x1 x3 = some r) :
    Spec Tryz.prog 100 [.agg ⟨[.int .i64 (x1.Version), .slice a2 ((x1.Parts).length) (k2)]⟩, .string ⟨⟨x3⟩⟩] V (fun _ v => v = .int .i64 (r)) := by
  unfold F_placement_Index at hF
  refine Spec.enter (T := tyT) Tryz.func100 rfl (by kernel_rfl) rfl rfl rfl ?_
  refine Exec.run tyOk 400 rfl ?_
  refine Exec.scope ?_
  refine Exec.run tyOk 400 rfl ?_
  obtain ⟨x4, hx4, hF⟩ := bnd_some hF
  refine Exec.callS (.bool (x4)) rfl rfl (W_placement_Valid x1 h2 hx4) ?_
  refine Exec.run tyOk 400 rfl ?_
  rcases cond_some hF with ⟨hb, hF⟩ | ⟨hb, hF⟩
  · skip
    refine Exec.ifT rfl hb ?_
    refine Exec.run tyOk 400 rfl ?_
    obtain rfl := some_inj hF
    exact Exec.ret tyOk rfl rfl rfl
  · skip
    refine Exec.ifF rfl hb ?_
    refine Exec.run tyOk 16 rfl ?_
    obtain ⟨J6, hJ6, hF⟩ := jn_some hF
    refine Exec.seam (fun L' V' M' => ∃ (x5 : Int), L' = [(5, .v (.int .i64 (x5)))] ∧ M' = [] ∧ J6 x5 = some r) rfl ?_ ?_
    · rintro L' V7 M' ⟨x5, rfl, rfl, hF⟩
      subst hJ6
      refine Exec.run tyOk 400 rfl ?_
      obtain rfl := some_inj hF
      exact Exec.ret tyOk rfl rfl rfl
    · skip
      refine Exec.run tyOk 400 rfl ?_
      refine Exec.loop (fun n10 L' V' M' => ∃ (x8 : Int) (x9 : Int), L' = [(1, .v (.string ⟨⟨x3⟩⟩)), (2, .ptr 0 0), (5, .v (.int .i64 (x8))), (6, .v (.int .i64 (x9)))] ∧ M' = [.blk [.v (.int .i64 (x1.Version)), .v (.slice a2 ((x1.Parts).length) (k2))] 24] ∧ SlAt cTPart V' a2 k2 x1.Parts ∧ F_placement_Index_L1 x1 x3 J6 n10 x8 x9 = some r) ⟨(((IntKind.i64.wrap ((((x1.Parts).length : Nat) : Int) - (1 : Int)))).toNat + 1), [(1, .v (.string ⟨⟨x3⟩⟩)), (2, .ptr 0 0), (5, .v (.int .i64 ((0 : Int)))), (6, .v (.int .i64 ((IntKind.i64.wrap ((((x1.Parts).length : Nat) : Int) - (1 : Int))))))], ⟨rfl, rfl, rfl, rfl, trivial⟩, (0 : Int), (IntKind.i64.wrap ((((x1.Parts).length : Nat) : Int) - (1 : Int))), rfl, rfl, h2, hF⟩ ?_
      rintro n10 L' V11 M' ⟨x8, x9, rfl, rfl, h12, hF⟩
      rcases n10 with _ | n10
      · exact absurd hF (by simp [F_placement_Index_L1])
      rw [F_placement_Index_L1] at hF
      refine Exec.run tyOk 400 rfl ?_
      rcases cond_some hF with ⟨hb, hF⟩ | ⟨hb, hF⟩
      · skip
        refine Exec.ifT rfl hb ?_
        refine Exec.run tyOk 2 rfl ?_
        obtain ⟨J14, hJ14, hF⟩ := jn_some hF
        refine Exec.seam (fun L' V' M' => ∃ (x13 : Int), L' = [(1, .v (.string ⟨⟨x3⟩⟩)), (2, .ptr 0 0), (5, .v (.int .i64 (x13))), (6, .v (.int .i64 (x9)))] ∧ M' = [.blk [.v (.int .i64 (x1.Version)), .v (.slice a2 ((x1.Parts).length) (k2))] 24] ∧ SlAt cTPart V' a2 k2 x1.Parts ∧ J14 x13 = some r) rfl ?_ ?_
        · rintro L' V15 M' ⟨x13, rfl, rfl, h16, hF⟩
          subst hJ14
          refine Exec.run tyOk 400 rfl ?_
          exact Exec.round [(1, .v (.string ⟨⟨x3⟩⟩)), (2, .ptr 0 0), (5, .v (.int .i64 (x13))), (6, .v (.int .i64 ((IntKind.i64.wrap (x9 - (1 : Int))))))] ⟨rfl, rfl, rfl, rfl, trivial⟩ ⟨n10, Nat.lt_succ_self _, x13, (IntKind.i64.wrap (x9 - (1 : Int))), rfl, rfl, h16, hF⟩
        · skip
          refine Exec.run tyOk 400 rfl ?_
          obtain ⟨q17, hF⟩ := req_some hF
          obtain ⟨c18, hr18, hd18⟩ := SlAt.get h12 q17
          obtain rfl := hr18
          refine Exec.ia tyOk rfl rfl ⟨q17.1, q17.2, hd18.some⟩ ?_
          refine Exec.run tyOk 400 rfl ?_
          refine Exec.ld tyOk (x := .string ⟨⟨(atI x1.Parts x9).From⟩⟩) rfl rfl (RdAt.part hd18 1 1 rfl) rfl rfl ?_
          refine Exec.run tyOk 400 rfl ?_
          refine Exec.loop (fun n21 L' V' M' => ∃ (x19 : Int) (x20 : Int), L' = [(1, .v (.string ⟨⟨x3⟩⟩)), (2, .ptr 0 0), (5, .v (.int .i64 (x19))), (6, .v (.int .i64 (x9))), (7, .v (.string ⟨⟨(atI x1.Parts x9).From⟩⟩)), (8, .v (.int .i64 (x20)))] ∧ M' = [.blk [.v (.int .i64 (x1.Version)), .v (.slice a2 ((x1.Parts).length) (k2))] 24] ∧ SlAt cTPart V' a2 k2 x1.Parts ∧ F_placement_Index_L2 x3 x1 x9 J6 J14 n21 x19 x20 = some r) ⟨(1000000 : Nat), [(1, .v (.string ⟨⟨x3⟩⟩)), (2, .ptr 0 0), (5, .v (.int .i64 (x8))), (6, .v (.int .i64 (x9))), (7, .v (.string ⟨⟨(atI x1.Parts x9).From⟩⟩)), (8, .v (.int .i64 ((0 : Int))))], ⟨rfl, rfl, rfl, rfl, rfl, rfl, trivial⟩, x8, (0 : Int), rfl, rfl, h12, hF⟩ ?_
          rintro n21 L' V22 M' ⟨x19, x20, rfl, rfl, h23, hF⟩
          rcases n21 with _ | n21
          · exact absurd hF (by simp [F_placement_Index_L2])
          rw [F_placement_Index_L2] at hF
          refine Exec.run tyOk 400 rfl ?_
          refine Exec.draws tyOk [(0, true), (1, true), (2, true), (3, true), (4, true), (5, true), (6, true), (7, true), (8, true), (9, true), (10, true), (11, true), (12, true), (13, true), (14, true), (15, true), (16, true), (17, true), (18, true), (19, true)] rfl (by kernel_rfl) ?_
          refine Exec.run tyOk 400 rfl ?_
          obtain ⟨q24, hF⟩ := req_some hF
          refine Exec.fidx tyOk rfl rfl rfl (fun gg0 gg1 => q24 (gd2_of gg0 gg1)) ?_
          refine Exec.run tyOk 400 rfl ?_
          obtain ⟨q25, hF⟩ := req_some hF
          refine Exec.fidx tyOk rfl rfl rfl (fun gg0 gg1 => q25 (gd2_of gg0 gg1)) ?_
          refine Exec.run tyOk 400 rfl ?_
          rcases cond_some hF with ⟨hb, hF⟩ | ⟨hb, hF⟩
          · skip
            refine Exec.ifT rfl hb ?_
            refine Exec.run tyOk 400 rfl ?_
            refine Exec.cut 0 [(5, .v (.int .i64 (x9)))] (M' := []) rfl ⟨rfl, trivial⟩ rfl rfl rfl ?_
            exact Exec.round [(5, .v (.int .i64 (x9)))] ⟨rfl, trivial⟩ ⟨x9, rfl, rfl, hF⟩
          · skip
            refine Exec.ifF rfl hb ?_
            refine Exec.run tyOk 400 rfl ?_
            refine Exec.draws tyOk [(0, true), (1, true), (2, true), (3, true), (4, true), (5, true), (6, true), (7, true), (8, true), (9, true), (10, true), (11, true), (12, true), (13, true)] rfl (by kernel_rfl) ?_
            refine Exec.run tyOk 400 rfl ?_
            obtain ⟨q26, hF⟩ := req_some hF
            refine Exec.fidx tyOk rfl rfl rfl (fun gg0 => q26 (gd1_of gg0)) ?_
            refine Exec.run tyOk 400 rfl ?_
            obtain ⟨q27, hF⟩ := req_some hF
            refine Exec.fidx tyOk rfl rfl rfl (fun gg0 => q27 (gd1_of gg0)) ?_
            refine Exec.run tyOk 400 rfl ?_
            rcases cond_some hF with ⟨hb, hF⟩ | ⟨hb, hF⟩
            · skip
              refine Exec.ifT rfl hb ?_
              refine Exec.run tyOk 400 rfl ?_
              exact Exec.round [(1, .v (.string ⟨⟨x3⟩⟩)), (2, .ptr 0 0), (5, .v (.int .i64 (x19))), (6, .v (.int .i64 (x9)))] ⟨rfl, rfl, rfl, rfl, trivial⟩ ⟨x19, rfl, rfl, h23, hF⟩
            · skip
              refine Exec.ifF rfl hb ?_
              refine Exec.run tyOk 400 rfl ?_
              exact Exec.round [(1, .v (.string ⟨⟨x3⟩⟩)), (2, .ptr 0 0), (5, .v (.int .i64 (x19))), (6, .v (.int .i64 (x9))), (7, .v (.string ⟨⟨(atI x1.Parts x9).From⟩⟩)), (8, .v (.int .i64 ((IntKind.i64.wrap (x20 + (1 : Int))))))] ⟨rfl, rfl, rfl, rfl, rfl, rfl, trivial⟩ ⟨n21, Nat.lt_succ_self _, x19, (IntKind.i64.wrap (x20 + (1 : Int))), rfl, rfl, h23, hF⟩
      · skip
        refine Exec.ifF rfl hb ?_
        refine Exec.run tyOk 400 rfl ?_
        refine Exec.cut 0 [(5, .v (.int .i64 (x8)))] (M' := []) rfl ⟨rfl, trivial⟩ rfl rfl rfl ?_
        exact Exec.round [(5, .v (.int .i64 (x8)))] ⟨rfl, trivial⟩ ⟨x8, rfl, rfl, hF⟩

def F_state_sorted_L1 (x1 : List TPair) (J3 : Option Bool) : Nat → Int → Option Bool
  | 0, _ => none
  | n6 + 1, x5 => (cond (decide (x5 < (((x1).length : Nat) : Int))) (req (0 ≤ x5 ∧ x5 < ((x1).length : Int)) (bnd (F_keys_Valid ((atI x1 x5).Key)) fun x11 => (bnd (gcall (((!x11)) == false) (F_value_Valid ((⟨(atI x1 x5).Val.Kind, (atI x1 x5).Val.N, (atI x1 x5).Val.S⟩ : TValue)))) fun x12 => (req (((((decide ((0 : Int) < x5))) == true) && ((((!x11) || (!x12))) == false)) = true → 0 ≤ (IntKind.i64.wrap (x5 - (1 : Int))) ∧ (IntKind.i64.wrap (x5 - (1 : Int))) < ((x1).length : Int)) (cond (((!x11) || (!x12)) || ((decide ((0 : Int) < x5)) && (!sLt (cond ((((decide ((0 : Int) < x5))) == true) && ((((!x11) || (!x12))) == false)) (atI x1 ((IntKind.i64.wrap (x5 - (1 : Int))))) default).Key (atI x1 x5).Key))) (some false) (F_state_sorted_L1 x1 J3 n6 ((IntKind.i64.wrap (x5 + (1 : Int)))))))))) J3)

def F_state_sorted (x1 : List TPair) : Option Bool :=
  (jn ((some true)) (fun J3 => (F_state_sorted_L1 x1 J3 (((((x1).length : Nat) : Int)).toNat + 1) ((0 : Int)))))

set_option maxRecDepth 100000 in
theorem W_state_sorted {V : View} (x1 : List TPair) {a2 : Option Addr} {k2 : Nat} (h2 : SlAt cTPair V a2 k2 x1) {r : Bool} (hF : F_state_sorted x1 = some r) :
    Spec Tryz.prog 108 [.slice a2 ((x1).length) (k2)] V (fun _ v => v = .bool (r)) := by
  unfold F_state_sorted at hF
  refine Spec.enter (T := tyT) Tryz.func108 rfl (by kernel_rfl) rfl rfl rfl ?_
  refine Exec.run tyOk 11 rfl ?_
  obtain ⟨J3, hJ3, hF⟩ := jn_some hF
  refine Exec.seam (fun L' V' M' => L' = [] ∧ M' = [] ∧ J3 = some r) rfl ?_ ?_
  · rintro L' V4 M' ⟨rfl, rfl, hF⟩
    subst hJ3
    refine Exec.run tyOk 400 rfl ?_
    obtain rfl := some_inj hF
    exact Exec.ret tyOk rfl rfl rfl
  · skip
    refine Exec.run tyOk 400 rfl ?_
    refine Exec.loop (fun n6 L' V' M' => ∃ (x5 : Int), L' = [(0, .v (.slice a2 ((x1).length) (k2))), (5, .v (.slice a2 ((x1).length) (k2))), (6, .v (.int .i64 ((((x1).length : Nat) : Int)))), (7, .v (.int .i64 (x5)))] ∧ M' = [] ∧ SlAt cTPair V' a2 k2 x1 ∧ F_state_sorted_L1 x1 J3 n6 x5 = some r) ⟨(((((x1).length : Nat) : Int)).toNat + 1), [(0, .v (.slice a2 ((x1).length) (k2))), (5, .v (.slice a2 ((x1).length) (k2))), (6, .v (.int .i64 ((((x1).length : Nat) : Int)))), (7, .v (.int .i64 ((0 : Int))))], ⟨rfl, rfl, rfl, rfl, trivial⟩, (0 : Int), rfl, rfl, h2, hF⟩ ?_
    rintro n6 L' V7 M' ⟨x5, rfl, rfl, h8, hF⟩
    rcases n6 with _ | n6
    · exact absurd hF (by simp [F_state_sorted_L1])
    rw [F_state_sorted_L1] at hF
    refine Exec.run tyOk 400 rfl ?_
    rcases cond_some hF with ⟨hb, hF⟩ | ⟨hb, hF⟩
    · skip
      refine Exec.ifT rfl hb ?_
      refine Exec.run tyOk 400 rfl ?_
      obtain ⟨q9, hF⟩ := req_some hF
      obtain ⟨c10, hr10, hd10⟩ := SlAt.get h8 q9
      obtain rfl := hr10
      refine Exec.ia tyOk rfl rfl ⟨q9.1, q9.2, hd10.some⟩ ?_
      refine Exec.run tyOk 400 rfl ?_
      refine Exec.ld tyOk (x := .agg ⟨[.string ⟨⟨(atI x1 x5).Key⟩⟩, .int .i64 ((atI x1 x5).Val.Kind), .int .i64 ((atI x1 x5).Val.N), .string ⟨⟨(atI x1 x5).Val.S⟩⟩]⟩) rfl rfl hd10 rfl rfl ?_
      refine Exec.run tyOk 400 rfl ?_
      refine Exec.draws tyOk [(0, true), (1, true), (2, false), (3, false), (4, false), (5, false), (6, false), (7, false), (8, false), (9, false), (10, false), (11, false), (12, false), (13, false), (14, true), (15, true), (16, true), (17, true), (18, true), (19, true), (20, false), (21, false), (22, false), (23, false), (24, false)] rfl (by kernel_rfl) ?_
      refine Exec.run tyOk 400 rfl ?_
      obtain ⟨x11, hx11, hF⟩ := bnd_some hF
      refine Exec.callS (.bool (x11)) rfl rfl (W_keys_Valid ((atI x1 x5).Key)  hx11) ?_
      refine Exec.run tyOk 400 rfl ?_
      obtain ⟨x12, hx12, hF⟩ := bnd_some hF
      refine Exec.callS (.bool (x12)) rfl rfl (fun gg0 => W_value_Valid ((⟨(atI x1 x5).Val.Kind, (atI x1 x5).Val.N, (atI x1 x5).Val.S⟩ : TValue))  (gcall_some hx12 (gd1_of gg0))) ?_
      refine Exec.run tyOk 400 rfl ?_
      obtain ⟨q13, hF⟩ := req_some hF
      obtain ⟨c14, hr14, hd14⟩ := SlAt.gget ((((decide ((0 : Int) < x5))) == true) && ((((!x11) || (!x12))) == false)) h8 q13
      obtain rfl := hr14
      refine Exec.fia tyOk rfl rfl rfl (fun gg0 gg1 => ⟨(q13 (gd2_of gg0 gg1)).1, (q13 (gd2_of gg0 gg1)).2, (hd14 (gd2_of gg0 gg1)).some⟩) ?_
      refine Exec.run tyOk 400 rfl ?_
      refine Exec.fld tyOk (x := .string ⟨⟨(cond ((((decide ((0 : Int) < x5))) == true) && ((((!x11) || (!x12))) == false)) (atI x1 ((IntKind.i64.wrap (x5 - (1 : Int))))) default).Key⟩⟩) rfl rfl rfl (fun gg0 gg1 => (RdAt.part (hd14 (gd2_of gg0 gg1)) 0 1 rfl)) rfl rfl ?_
      refine Exec.run tyOk 400 rfl ?_
      rcases cond_some hF with ⟨hb, hF⟩ | ⟨hb, hF⟩
      · skip
        refine Exec.ifT rfl hb ?_
        refine Exec.run tyOk 400 rfl ?_
        obtain rfl := some_inj hF
        exact Exec.ret tyOk rfl rfl rfl
      · skip
        refine Exec.ifF rfl hb ?_
        refine Exec.run tyOk 400 rfl ?_
        refine Exec.cut 0 [(0, .v (.slice a2 ((x1).length) (k2))), (5, .v (.slice a2 ((x1).length) (k2))), (6, .v (.int .i64 ((((x1).length : Nat) : Int)))), (7, .v (.int .i64 ((IntKind.i64.wrap (x5 + (1 : Int))))))] (M' := []) rfl ⟨rfl, rfl, rfl, rfl, trivial⟩ rfl rfl rfl ?_
        exact Exec.round [(0, .v (.slice a2 ((x1).length) (k2))), (5, .v (.slice a2 ((x1).length) (k2))), (6, .v (.int .i64 ((((x1).length : Nat) : Int)))), (7, .v (.int .i64 ((IntKind.i64.wrap (x5 + (1 : Int))))))] ⟨rfl, rfl, rfl, rfl, trivial⟩ ⟨n6, Nat.lt_succ_self _, (IntKind.i64.wrap (x5 + (1 : Int))), rfl, rfl, h8, hF⟩
    · skip
      refine Exec.ifF rfl hb ?_
      refine Exec.run tyOk 400 rfl ?_
      exact Exec.round [] trivial ⟨rfl, rfl, hF⟩

def F_value_Decode (x1 : Str) (x2 : Int) : Option (TValue × Int × Int) :=
  (bnd (F_wire_TakeUint x1 x2) fun x3 => (cond (x3.2.2 != (0 : Int)) (some ((⟨0, 0, []⟩ : TValue), (0 : Int), x3.2.2)) (cond (x3.1 == (0 : Int)) (some ((⟨0, 0, []⟩ : TValue), x3.2.1, (0 : Int))) (cond (x3.1 == (1 : Int)) (bnd (F_wire_TakeInt x1 x3.2.1) fun x4 => (cond (x4.2.2 != (0 : Int)) (some ((⟨0, 0, []⟩ : TValue), (0 : Int), x4.2.2)) (bnd (F_value_Int x4.1) fun x5 => (some (x5, x4.2.1, (0 : Int)))))) (cond (x3.1 == (2 : Int)) (bnd (F_wire_TakeText x1 x3.2.1 ((64 : Int))) fun x6 => (bnd (gcall (((x6.2.2 == (0 : Int))) == true) (F_value_plain x6.1)) fun x7 => (jn (fun (x8 : Int) => (cond (x8 != (0 : Int)) (some ((⟨0, 0, []⟩ : TValue), (0 : Int), x8)) (some ((⟨(2 : Int), 0, x6.1⟩ : TValue), x6.2.1, (0 : Int))))) (fun J9 => (cond ((x6.2.2 == (0 : Int)) && (!x7)) (J9 ((5 : Int))) (J9 x6.2.2)))))) (some ((⟨0, 0, []⟩ : TValue), (0 : Int), (5 : Int))))))))

set_option maxRecDepth 100000 in
theorem W_value_Decode {V : View} (x1 : Str) (x2 : Int)   {r : TValue × Int × Int} (hF : F_value_Decode x1 x2 = some r) :
    Spec Tryz.prog 124 [.string ⟨⟨x1⟩⟩, .int .i64 (x2)] V (fun _ v => v = .tuple ⟨[.agg ⟨[.int .i64 (r.1.Kind), .int .i64 (r.1.N), .string ⟨⟨r.1.S⟩⟩]⟩, .int .i64 (r.2.1), .int .i64 (r.2.2)]⟩) := by
  unfold F_value_Decode at hF
  refine Spec.enter (T := tyT) Tryz.func124 rfl (by kernel_rfl) rfl rfl rfl ?_
  refine Exec.run tyOk 400 rfl ?_
  obtain ⟨x3, hx3, hF⟩ := bnd_some hF
  refine Exec.callS (.tuple ⟨[.int .u64 (x3.1), .int .i64 (x3.2.1), .int .i64 (x3.2.2)]⟩) rfl rfl (W_wire_TakeUint x1 x2  hx3) ?_
  refine Exec.run tyOk 400 rfl ?_
  rcases cond_some hF with ⟨hb, hF⟩ | ⟨hb, hF⟩
  · skip
    refine Exec.ifT rfl hb ?_
    refine Exec.run tyOk 400 rfl ?_
    obtain rfl := some_inj hF
    exact Exec.ret tyOk rfl rfl rfl
  · skip
    refine Exec.ifF rfl hb ?_
    refine Exec.run tyOk 400 rfl ?_
    rcases cond_some hF with ⟨hb, hF⟩ | ⟨hb, hF⟩
    · skip
      refine Exec.ifT rfl hb ?_
      refine Exec.run tyOk 400 rfl ?_
      obtain rfl := some_inj hF
      exact Exec.ret tyOk rfl rfl rfl
    · skip
      refine Exec.ifF rfl hb ?_
      refine Exec.run tyOk 400 rfl ?_
      rcases cond_some hF with ⟨hb, hF⟩ | ⟨hb, hF⟩
      · skip
        refine Exec.ifT rfl hb ?_
        refine Exec.run tyOk 400 rfl ?_
        obtain ⟨x4, hx4, hF⟩ := bnd_some hF
        refine Exec.callS (.tuple ⟨[.int .i64 (x4.1), .int .i64 (x4.2.1), .int .i64 (x4.2.2)]⟩) rfl rfl (W_wire_TakeInt x1 x3.2.1  hx4) ?_
        refine Exec.run tyOk 400 rfl ?_
        rcases cond_some hF with ⟨hb, hF⟩ | ⟨hb, hF⟩
        · skip
          refine Exec.ifT rfl hb ?_
          refine Exec.run tyOk 400 rfl ?_
          obtain rfl := some_inj hF
          exact Exec.ret tyOk rfl rfl rfl
        · skip
          refine Exec.ifF rfl hb ?_
          refine Exec.run tyOk 400 rfl ?_
          obtain ⟨x5, hx5, hF⟩ := bnd_some hF
          refine Exec.callS (.agg ⟨[.int .i64 (x5.Kind), .int .i64 (x5.N), .string ⟨⟨x5.S⟩⟩]⟩) rfl rfl (W_value_Int x4.1  hx5) ?_
          refine Exec.run tyOk 400 rfl ?_
          obtain rfl := some_inj hF
          exact Exec.ret tyOk rfl rfl rfl
      · skip
        refine Exec.ifF rfl hb ?_
        refine Exec.run tyOk 400 rfl ?_
        rcases cond_some hF with ⟨hb, hF⟩ | ⟨hb, hF⟩
        · skip
          refine Exec.ifT rfl hb ?_
          refine Exec.run tyOk 400 rfl ?_
          obtain ⟨x6, hx6, hF⟩ := bnd_some hF
          refine Exec.callS (.tuple ⟨[.string ⟨⟨x6.1⟩⟩, .int .i64 (x6.2.1), .int .i64 (x6.2.2)]⟩) rfl rfl (W_wire_TakeText x1 x3.2.1 ((64 : Int))  hx6) ?_
          refine Exec.run tyOk 400 rfl ?_
          obtain ⟨x7, hx7, hF⟩ := bnd_some hF
          refine Exec.callS (.bool (x7)) rfl rfl (fun gg0 => W_value_plain x6.1  (gcall_some hx7 (gd1_of gg0))) ?_
          refine Exec.run tyOk 400 rfl ?_
          obtain ⟨J9, hJ9, hF⟩ := jn_some hF
          refine Exec.seam (fun L' V' M' => ∃ (x8 : Int), L' = [(4, .ptr 0 0), (13, .v (.string ⟨⟨x6.1⟩⟩)), (14, .v (.int .i64 (x6.2.1))), (15, .v (.int .i64 (x8)))] ∧ M' = [.blk [.v (.int .i64 (0)), .v (.int .i64 (0)), .v (.string ⟨⟨[]⟩⟩)] 68] ∧ J9 x8 = some r) rfl ?_ ?_
          · rintro L' V10 M' ⟨x8, rfl, rfl, hF⟩
            subst hJ9
            refine Exec.run tyOk 400 rfl ?_
            rcases cond_some hF with ⟨hb, hF⟩ | ⟨hb, hF⟩
            · skip
              refine Exec.ifT rfl hb ?_
              refine Exec.run tyOk 400 rfl ?_
              obtain rfl := some_inj hF
              exact Exec.ret tyOk rfl rfl rfl
            · skip
              refine Exec.ifF rfl hb ?_
              refine Exec.run tyOk 400 rfl ?_
              obtain rfl := some_inj hF
              exact Exec.ret tyOk rfl rfl rfl
          · skip
            refine Exec.run tyOk 400 rfl ?_
            rcases cond_some hF with ⟨hb, hF⟩ | ⟨hb, hF⟩
            · skip
              refine Exec.ifT rfl hb ?_
              refine Exec.run tyOk 400 rfl ?_
              exact Exec.round [(4, .ptr 0 0), (13, .v (.string ⟨⟨x6.1⟩⟩)), (14, .v (.int .i64 (x6.2.1))), (15, .v (.int .i64 ((5 : Int))))] ⟨rfl, rfl, rfl, rfl, trivial⟩ ⟨(5 : Int), rfl, rfl, hF⟩
            · skip
              refine Exec.ifF rfl hb ?_
              refine Exec.run tyOk 400 rfl ?_
              exact Exec.round [(4, .ptr 0 0), (13, .v (.string ⟨⟨x6.1⟩⟩)), (14, .v (.int .i64 (x6.2.1))), (15, .v (.int .i64 (x6.2.2)))] ⟨rfl, rfl, rfl, rfl, trivial⟩ ⟨x6.2.2, rfl, rfl, hF⟩
        · skip
          refine Exec.ifF rfl hb ?_
          refine Exec.run tyOk 400 rfl ?_
          obtain rfl := some_inj hF
          exact Exec.ret tyOk rfl rfl rfl

def F_value_Encode (x1 : TValue) : Option Str :=
  (cond (x1.Kind == (1 : Int)) (bnd (F_wire_Uint ((1 : Int))) fun x2 => (bnd (F_wire_Int x1.N) fun x3 => (req ((x2).length + (x3).length ≤ 9223372036854775807) (some (x2 ++ x3))))) (cond (x1.Kind == (2 : Int)) (bnd (F_wire_Uint ((2 : Int))) fun x5 => (bnd (F_wire_Text x1.S) fun x6 => (req ((x5).length + (x6).length ≤ 9223372036854775807) (some (x5 ++ x6))))) (bnd (F_wire_Uint ((0 : Int))) fun x8 => (some x8))))

set_option maxRecDepth 100000 in
theorem W_value_Encode {V : View} (x1 : TValue)   {r : Str} (hF : F_value_Encode x1 = some r) :
    Spec Tryz.prog 130 [.agg ⟨[.int .i64 (x1.Kind), .int .i64 (x1.N), .string ⟨⟨x1.S⟩⟩]⟩] V (fun _ v => v = .string ⟨⟨r⟩⟩) := by
  unfold F_value_Encode at hF
  refine Spec.enter (T := tyT) Tryz.func130 rfl (by kernel_rfl) rfl rfl rfl ?_
  refine Exec.run tyOk 400 rfl ?_
  rcases cond_some hF with ⟨hb, hF⟩ | ⟨hb, hF⟩
  · skip
    refine Exec.ifT rfl hb ?_
    refine Exec.run tyOk 400 rfl ?_
    refine Exec.draws tyOk [(1, true), (2, true), (0, false), (3, false), (4, false), (5, false)] rfl (by kernel_rfl) ?_
    refine Exec.run tyOk 400 rfl ?_
    obtain ⟨x2, hx2, hF⟩ := bnd_some hF
    refine Exec.callS (.string ⟨⟨x2⟩⟩) rfl rfl (W_wire_Uint ((1 : Int))  hx2) ?_
    refine Exec.run tyOk 400 rfl ?_
    obtain ⟨x3, hx3, hF⟩ := bnd_some hF
    refine Exec.callS (.string ⟨⟨x3⟩⟩) rfl rfl (W_wire_Int x1.N  hx3) ?_
    refine Exec.run tyOk 400 rfl ?_
    obtain ⟨q4, hF⟩ := req_some hF
    refine Exec.cat rfl rfl q4 ?_
    refine Exec.run tyOk 400 rfl ?_
    obtain rfl := some_inj hF
    exact Exec.ret tyOk rfl rfl rfl
  · skip
    refine Exec.ifF rfl hb ?_
    refine Exec.run tyOk 400 rfl ?_
    rcases cond_some hF with ⟨hb, hF⟩ | ⟨hb, hF⟩
    · skip
      refine Exec.ifT rfl hb ?_
      refine Exec.run tyOk 400 rfl ?_
      refine Exec.draws tyOk [(1, true), (2, true), (0, false), (3, false), (4, false), (5, false)] rfl (by kernel_rfl) ?_
      refine Exec.run tyOk 400 rfl ?_
      obtain ⟨x5, hx5, hF⟩ := bnd_some hF
      refine Exec.callS (.string ⟨⟨x5⟩⟩) rfl rfl (W_wire_Uint ((2 : Int))  hx5) ?_
      refine Exec.run tyOk 400 rfl ?_
      obtain ⟨x6, hx6, hF⟩ := bnd_some hF
      refine Exec.callS (.string ⟨⟨x6⟩⟩) rfl rfl (W_wire_Text x1.S  hx6) ?_
      refine Exec.run tyOk 400 rfl ?_
      obtain ⟨q7, hF⟩ := req_some hF
      refine Exec.cat rfl rfl q7 ?_
      refine Exec.run tyOk 400 rfl ?_
      obtain rfl := some_inj hF
      exact Exec.ret tyOk rfl rfl rfl
    · skip
      refine Exec.ifF rfl hb ?_
      refine Exec.run tyOk 400 rfl ?_
      obtain ⟨x8, hx8, hF⟩ := bnd_some hF
      refine Exec.callS (.string ⟨⟨x8⟩⟩) rfl rfl (W_wire_Uint ((0 : Int))  hx8) ?_
      refine Exec.run tyOk 400 rfl ?_
      obtain rfl := some_inj hF
      exact Exec.ret tyOk rfl rfl rfl

def F_footprint_Valid (x1 : TFootprint) : Option Bool :=
  (cond x1.All (some (((((x1.Reads).length : Nat) : Int) == (0 : Int)) && ((((x1.Writes).length : Nat) : Int) == (0 : Int)))) (bnd (F_footprint_ascending x1.Reads) fun x4 => (bnd (gcall ((x4) == true) (F_footprint_ascending x1.Writes)) fun x5 => (some (x4 && x5)))))

set_option maxRecDepth 100000 in
theorem W_footprint_Valid {V : View} (x1 : TFootprint) {a2 : Option Addr} {k2 : Nat} {a3 : Option Addr} {k3 : Nat} (h2 : SlAt cStr V a2 k2 x1.Reads) (h3 : SlAt cStr V a3 k3 x1.Writes) {r : Bool} (hF : F_footprint_Valid x1 = some r) :
    Spec Tryz.prog 12 [.agg ⟨[.bool (x1.All), .slice a2 ((x1.Reads).length) (k2), .slice a3 ((x1.Writes).length) (k3)]⟩] V (fun _ v => v = .bool (r)) := by
  unfold F_footprint_Valid at hF
  refine Spec.enter (T := tyT) Tryz.func12 rfl (by kernel_rfl) rfl rfl rfl ?_
  refine Exec.run tyOk 400 rfl ?_
  rcases cond_some hF with ⟨hb, hF⟩ | ⟨hb, hF⟩
  · skip
    refine Exec.ifT rfl hb ?_
    refine Exec.run tyOk 400 rfl ?_
    obtain rfl := some_inj hF
    exact Exec.ret tyOk rfl rfl rfl
  · skip
    refine Exec.ifF rfl hb ?_
    refine Exec.run tyOk 400 rfl ?_
    obtain ⟨x4, hx4, hF⟩ := bnd_some hF
    refine Exec.callS (.bool (x4)) rfl rfl (W_footprint_ascending x1.Reads h2 hx4) ?_
    refine Exec.run tyOk 400 rfl ?_
    obtain ⟨x5, hx5, hF⟩ := bnd_some hF
    refine Exec.callS (.bool (x5)) rfl rfl (fun gg0 => W_footprint_ascending x1.Writes h3 (gcall_some hx5 (gd1_of gg0))) ?_
    refine Exec.run tyOk 400 rfl ?_
    obtain rfl := some_inj hF
    exact Exec.ret tyOk rfl rfl rfl

def F_clockworkref06_Valid_L1 (x1 : List TPair) (J3 : Option Bool) : Nat → Int → Option Bool
  | 0, _ => none
  | n8 + 1, x7 => (cond (decide (x7 < (((x1).length : Nat) : Int))) (req (0 ≤ x7 ∧ x7 < ((x1).length : Int)) (cond ((atI x1 x7).Val.Kind == (0 : Int)) (some false) (F_clockworkref06_Valid_L1 x1 J3 n8 ((IntKind.i64.wrap (x7 + (1 : Int))))))) J3)

def F_clockworkref06_Valid (x1 : List TPair) : Option Bool :=
  (jn ((bnd (F_clockworkref06_ValidWrites x1) fun x6 => (some x6))) (fun J3 => (F_clockworkref06_Valid_L1 x1 J3 (((((x1).length : Nat) : Int)).toNat + 1) ((0 : Int)))))

set_option maxRecDepth 100000 in
theorem W_clockworkref06_Valid {V : View} (x1 : List TPair) {a2 : Option Addr} {k2 : Nat} (h2 : SlAt cTPair V a2 k2 x1) {r : Bool} (hF : F_clockworkref06_Valid x1 = some r) :
    Spec Tryz.prog 13 [.slice a2 ((x1).length) (k2)] V (fun _ v => v = .bool (r)) := by
  unfold F_clockworkref06_Valid at hF
  refine Spec.enter (T := tyT) Tryz.func13 rfl (by kernel_rfl) rfl rfl rfl ?_
  refine Exec.run tyOk 9 rfl ?_
  obtain ⟨J3, hJ3, hF⟩ := jn_some hF
  refine Exec.seam (fun L' V' M' => L' = [(0, .v (.slice a2 ((x1).length) (k2)))] ∧ M' = [] ∧ SlAt cTPair V' a2 k2 x1 ∧ J3 = some r) rfl ?_ ?_
  · rintro L' V4 M' ⟨rfl, rfl, h5, hF⟩
    subst hJ3
    refine Exec.run tyOk 400 rfl ?_
    obtain ⟨x6, hx6, hF⟩ := bnd_some hF
    refine Exec.callS (.bool (x6)) rfl rfl (W_clockworkref06_ValidWrites x1 h5 hx6) ?_
    refine Exec.run tyOk 400 rfl ?_
    obtain rfl := some_inj hF
    exact Exec.ret tyOk rfl rfl rfl
  · skip
    refine Exec.run tyOk 400 rfl ?_
    refine Exec.loop (fun n8 L' V' M' => ∃ (x7 : Int), L' = [(0, .v (.slice a2 ((x1).length) (k2))), (3, .v (.int .i64 (x7)))] ∧ M' = [] ∧ SlAt cTPair V' a2 k2 x1 ∧ F_clockworkref06_Valid_L1 x1 J3 n8 x7 = some r) ⟨(((((x1).length : Nat) : Int)).toNat + 1), [(0, .v (.slice a2 ((x1).length) (k2))), (3, .v (.int .i64 ((0 : Int))))], ⟨rfl, rfl, trivial⟩, (0 : Int), rfl, rfl, h2, hF⟩ ?_
    rintro n8 L' V9 M' ⟨x7, rfl, rfl, h10, hF⟩
    rcases n8 with _ | n8
    · exact absurd hF (by simp [F_clockworkref06_Valid_L1])
    rw [F_clockworkref06_Valid_L1] at hF
    refine Exec.run tyOk 400 rfl ?_
    rcases cond_some hF with ⟨hb, hF⟩ | ⟨hb, hF⟩
    · skip
      refine Exec.ifT rfl hb ?_
      refine Exec.run tyOk 400 rfl ?_
      obtain ⟨q11, hF⟩ := req_some hF
      obtain ⟨c12, hr12, hd12⟩ := SlAt.get h10 q11
      obtain rfl := hr12
      refine Exec.ia tyOk rfl rfl ⟨q11.1, q11.2, hd12.some⟩ ?_
      refine Exec.run tyOk 400 rfl ?_
      refine Exec.ld tyOk (x := .int .i64 ((atI x1 x7).Val.Kind)) rfl rfl (RdAt.part hd12 1 1 rfl) rfl rfl ?_
      refine Exec.run tyOk 400 rfl ?_
      rcases cond_some hF with ⟨hb, hF⟩ | ⟨hb, hF⟩
      · skip
        refine Exec.ifT rfl hb ?_
        refine Exec.run tyOk 400 rfl ?_
        obtain rfl := some_inj hF
        exact Exec.ret tyOk rfl rfl rfl
      · skip
        refine Exec.ifF rfl hb ?_
        refine Exec.run tyOk 400 rfl ?_
        exact Exec.round [(0, .v (.slice a2 ((x1).length) (k2))), (3, .v (.int .i64 ((IntKind.i64.wrap (x7 + (1 : Int))))))] ⟨rfl, rfl, trivial⟩ ⟨n8, Nat.lt_succ_self _, (IntKind.i64.wrap (x7 + (1 : Int))), rfl, rfl, h10, hF⟩
    · skip
      refine Exec.ifF rfl hb ?_
      refine Exec.run tyOk 400 rfl ?_
      exact Exec.round [(0, .v (.slice a2 ((x1).length) (k2)))] ⟨rfl, trivial⟩ ⟨rfl, rfl, h10, hF⟩

def F_clockworkref31_Encode_L1 (x1 : TMail) (J12 : Str → Option Str) : Nat → Str → Int → Option Str
  | 0, _, _ => none
  | n20 + 1, x18, x19 => (cond (decide (x19 < (((x1.Keys).length : Nat) : Int))) (req (0 ≤ x19 ∧ x19 < ((x1.Keys).length : Int)) (bnd (F_clockworkref02_Text ((atI x1.Keys x19))) fun x26 => (req ((x18).length + (x26).length ≤ 9223372036854775807) (F_clockworkref31_Encode_L1 x1 J12 n20 ((x18 ++ x26)) ((IntKind.i64.wrap (x19 + (1 : Int)))))))) (J12 x18))

def F_clockworkref31_Encode (x1 : TMail) : Option Str :=
  (bnd (F_clockworkref02_Int x1.Txn) fun x4 => (bnd (F_clockworkref02_Int x1.From) fun x5 => (req ((x4).length + (x5).length ≤ 9223372036854775807) (bnd (F_clockworkref02_Int x1.To) fun x7 => (req (((x4 ++ x5)).length + (x7).length ≤ 9223372036854775807) (bnd (F_clockworkref02_Uint ((IntKind.u64.wrap (((x1.Keys).length : Nat) : Int)))) fun x9 => (req ((((x4 ++ x5) ++ x7)).length + (x9).length ≤ 9223372036854775807) (jn (fun (x11 : Str) => (bnd (F_clockworkref06_Encode x1.Pairs) fun x16 => (req ((x11).length + (x16).length ≤ 9223372036854775807) (some (x11 ++ x16))))) (fun J12 => (F_clockworkref31_Encode_L1 x1 J12 (((((x1.Keys).length : Nat) : Int)).toNat + 1) ((((x4 ++ x5) ++ x7) ++ x9)) ((0 : Int))))))))))))

set_option maxRecDepth 100000 in
theorem W_clockworkref31_Encode {V : View} (x1 : TMail) {a2 : Option Addr} {k2 : Nat} {a3 : Option Addr} {k3 : Nat} (h2 : SlAt cStr V a2 k2 x1.Keys) (h3 : SlAt cTPair V a3 k3 x1.Pairs) {r : Str} (hF : F_clockworkref31_Encode x1 = some r) :
    Spec Tryz.prog 34 [.agg ⟨[.int .i64 (x1.Txn), .int .i64 (x1.From), .int .i64 (x1.To), .slice a2 ((x1.Keys).length) (k2), .slice a3 ((x1.Pairs).length) (k3)]⟩] V (fun _ v => v = .string ⟨⟨r⟩⟩) := by
  unfold F_clockworkref31_Encode at hF
  refine Spec.enter (T := tyT) Tryz.func34 rfl (by kernel_rfl) rfl rfl rfl ?_
  refine Exec.run tyOk 400 rfl ?_
  refine Exec.draws tyOk [(0, true), (1, true), (3, true), (4, true), (7, true), (8, true), (11, true), (12, true), (13, true), (14, true), (2, false), (5, false), (6, true), (9, false), (10, true), (15, false), (16, false), (17, false)] rfl (by kernel_rfl) ?_
  refine Exec.run tyOk 400 rfl ?_
  obtain ⟨x4, hx4, hF⟩ := bnd_some hF
  refine Exec.callS (.string ⟨⟨x4⟩⟩) rfl rfl (W_clockworkref02_Int x1.Txn  hx4) ?_
  refine Exec.run tyOk 400 rfl ?_
  obtain ⟨x5, hx5, hF⟩ := bnd_some hF
  refine Exec.callS (.string ⟨⟨x5⟩⟩) rfl rfl (W_clockworkref02_Int x1.From  hx5) ?_
  refine Exec.run tyOk 400 rfl ?_
  obtain ⟨q6, hF⟩ := req_some hF
  refine Exec.fcat rfl rfl rfl q6 ?_
  refine Exec.run tyOk 400 rfl ?_
  obtain ⟨x7, hx7, hF⟩ := bnd_some hF
  refine Exec.callS (.string ⟨⟨x7⟩⟩) rfl rfl (W_clockworkref02_Int x1.To  hx7) ?_
  refine Exec.run tyOk 400 rfl ?_
  obtain ⟨q8, hF⟩ := req_some hF
  refine Exec.fcat rfl rfl rfl q8 ?_
  refine Exec.run tyOk 400 rfl ?_
  obtain ⟨x9, hx9, hF⟩ := bnd_some hF
  refine Exec.callS (.string ⟨⟨x9⟩⟩) rfl rfl (W_clockworkref02_Uint ((IntKind.u64.wrap (((x1.Keys).length : Nat) : Int)))  hx9) ?_
  refine Exec.run tyOk 400 rfl ?_
  obtain ⟨q10, hF⟩ := req_some hF
  refine Exec.cat rfl rfl q10 ?_
  refine Exec.run tyOk 10 rfl ?_
  obtain ⟨J12, hJ12, hF⟩ := jn_some hF
  refine Exec.seam (fun L' V' M' => ∃ (x11 : Str), L' = [(1, .ptr 0 0), (3, .v (.string ⟨⟨x11⟩⟩))] ∧ M' = [.blk [.v (.int .i64 (x1.Txn)), .v (.int .i64 (x1.From)), .v (.int .i64 (x1.To)), .v (.slice a2 ((x1.Keys).length) (k2)), .v (.slice a3 ((x1.Pairs).length) (k3))] 50] ∧ SlAt cStr V' a2 k2 x1.Keys ∧ SlAt cTPair V' a3 k3 x1.Pairs ∧ J12 x11 = some r) rfl ?_ ?_
  · rintro L' V13 M' ⟨x11, rfl, rfl, h14, h15, hF⟩
    subst hJ12
    refine Exec.run tyOk 400 rfl ?_
    obtain ⟨x16, hx16, hF⟩ := bnd_some hF
    refine Exec.callS (.string ⟨⟨x16⟩⟩) rfl rfl (W_clockworkref06_Encode x1.Pairs h15 hx16) ?_
    refine Exec.run tyOk 400 rfl ?_
    obtain ⟨q17, hF⟩ := req_some hF
    refine Exec.cat rfl rfl q17 ?_
    refine Exec.run tyOk 400 rfl ?_
    obtain rfl := some_inj hF
    exact Exec.ret tyOk rfl rfl rfl
  · skip
    refine Exec.run tyOk 400 rfl ?_
    refine Exec.loop (fun n20 L' V' M' => ∃ (x18 : Str) (x19 : Int), L' = [(1, .ptr 0 0), (3, .v (.string ⟨⟨x18⟩⟩)), (4, .v (.int .i64 (x19)))] ∧ M' = [.blk [.v (.int .i64 (x1.Txn)), .v (.int .i64 (x1.From)), .v (.int .i64 (x1.To)), .v (.slice a2 ((x1.Keys).length) (k2)), .v (.slice a3 ((x1.Pairs).length) (k3))] 50] ∧ SlAt cStr V' a2 k2 x1.Keys ∧ SlAt cTPair V' a3 k3 x1.Pairs ∧ F_clockworkref31_Encode_L1 x1 J12 n20 x18 x19 = some r) ⟨(((((x1.Keys).length : Nat) : Int)).toNat + 1), [(1, .ptr 0 0), (3, .v (.string ⟨⟨(((x4 ++ x5) ++ x7) ++ x9)⟩⟩)), (4, .v (.int .i64 ((0 : Int))))], ⟨rfl, rfl, rfl, trivial⟩, (((x4 ++ x5) ++ x7) ++ x9), (0 : Int), rfl, rfl, h2, h3, hF⟩ ?_
    rintro n20 L' V21 M' ⟨x18, x19, rfl, rfl, h22, h23, hF⟩
    rcases n20 with _ | n20
    · exact absurd hF (by simp [F_clockworkref31_Encode_L1])
    rw [F_clockworkref31_Encode_L1] at hF
    refine Exec.run tyOk 400 rfl ?_
    rcases cond_some hF with ⟨hb, hF⟩ | ⟨hb, hF⟩
    · skip
      refine Exec.ifT rfl hb ?_
      refine Exec.run tyOk 400 rfl ?_
      obtain ⟨q24, hF⟩ := req_some hF
      obtain ⟨c25, hr25, hd25⟩ := SlAt.get h22 q24
      obtain rfl := hr25
      refine Exec.ia tyOk rfl rfl ⟨q24.1, q24.2, hd25.some⟩ ?_
      refine Exec.run tyOk 400 rfl ?_
      refine Exec.ld tyOk (x := .string ⟨⟨(atI x1.Keys x19)⟩⟩) rfl rfl hd25 rfl rfl ?_
      refine Exec.run tyOk 400 rfl ?_
      obtain ⟨x26, hx26, hF⟩ := bnd_some hF
      refine Exec.callS (.string ⟨⟨x26⟩⟩) rfl rfl (W_clockworkref02_Text ((atI x1.Keys x19))  hx26) ?_
      refine Exec.run tyOk 400 rfl ?_
      obtain ⟨q27, hF⟩ := req_some hF
      refine Exec.cat rfl rfl q27 ?_
      refine Exec.run tyOk 400 rfl ?_
      exact Exec.round [(1, .ptr 0 0), (3, .v (.string ⟨⟨(x18 ++ x26)⟩⟩)), (4, .v (.int .i64 ((IntKind.i64.wrap (x19 + (1 : Int))))))] ⟨rfl, rfl, rfl, trivial⟩ ⟨n20, Nat.lt_succ_self _, (x18 ++ x26), (IntKind.i64.wrap (x19 + (1 : Int))), rfl, rfl, h22, h23, hF⟩
    · skip
      refine Exec.ifF rfl hb ?_
      refine Exec.run tyOk 400 rfl ?_
      exact Exec.round [(1, .ptr 0 0), (3, .v (.string ⟨⟨x18⟩⟩))] ⟨rfl, rfl, trivial⟩ ⟨x18, rfl, rfl, h22, h23, hF⟩

def F_clockworkref31_Valid (x1 : TMail) : Option Bool :=
  (bnd (gcall (((((((((decide ((0 : Int) ≤ x1.Txn)) && (decide (x1.Txn ≤ (1099511627776 : Int)))) && (decide ((1 : Int) ≤ x1.From))) && (decide (x1.From ≤ (16 : Int)))) && (decide ((1 : Int) ≤ x1.To))) && (decide (x1.To ≤ (16 : Int)))) && (decide ((((x1.Keys).length : Nat) : Int) ≤ (64 : Int))))) == true) (F_clockworkref04_Ascending x1.Keys)) fun x4 => (bnd (gcall ((((((((((decide ((0 : Int) ≤ x1.Txn)) && (decide (x1.Txn ≤ (1099511627776 : Int)))) && (decide ((1 : Int) ≤ x1.From))) && (decide (x1.From ≤ (16 : Int)))) && (decide ((1 : Int) ≤ x1.To))) && (decide (x1.To ≤ (16 : Int)))) && (decide ((((x1.Keys).length : Nat) : Int) ≤ (64 : Int)))) && x4)) == true) (F_clockworkref06_Valid x1.Pairs)) fun x5 => (some (((((((((decide ((0 : Int) ≤ x1.Txn)) && (decide (x1.Txn ≤ (1099511627776 : Int)))) && (decide ((1 : Int) ≤ x1.From))) && (decide (x1.From ≤ (16 : Int)))) && (decide ((1 : Int) ≤ x1.To))) && (decide (x1.To ≤ (16 : Int)))) && (decide ((((x1.Keys).length : Nat) : Int) ≤ (64 : Int)))) && x4) && x5))))

set_option maxRecDepth 100000 in
theorem W_clockworkref31_Valid {V : View} (x1 : TMail) {a2 : Option Addr} {k2 : Nat} {a3 : Option Addr} {k3 : Nat} (h2 : SlAt cStr V a2 k2 x1.Keys) (h3 : SlAt cTPair V a3 k3 x1.Pairs) {r : Bool} (hF : F_clockworkref31_Valid x1 = some r) :
    Spec Tryz.prog 36 [.agg ⟨[.int .i64 (x1.Txn), .int .i64 (x1.From), .int .i64 (x1.To), .slice a2 ((x1.Keys).length) (k2), .slice a3 ((x1.Pairs).length) (k3)]⟩] V (fun _ v => v = .bool (r)) := by
  unfold F_clockworkref31_Valid at hF
  refine Spec.enter (T := tyT) Tryz.func36 rfl (by kernel_rfl) rfl rfl rfl ?_
  refine Exec.run tyOk 400 rfl ?_
  obtain ⟨x4, hx4, hF⟩ := bnd_some hF
  refine Exec.callS (.bool (x4)) rfl rfl (fun gg0 => W_clockworkref04_Ascending x1.Keys h2 (gcall_some hx4 (gd1_of gg0))) ?_
  refine Exec.run tyOk 400 rfl ?_
  obtain ⟨x5, hx5, hF⟩ := bnd_some hF
  refine Exec.callS (.bool (x5)) rfl rfl (fun gg0 => W_clockworkref06_Valid x1.Pairs h3 (gcall_some hx5 (gd1_of gg0))) ?_
  refine Exec.run tyOk 400 rfl ?_
  obtain rfl := some_inj hF
  exact Exec.ret tyOk rfl rfl rfl

def F_placement_Owner (x1 : TPlacement) (x3 : Str) : Option Int :=
  (bnd (F_placement_Index x1 x3) fun x4 => (cond (decide (x4 < (0 : Int))) (some (0 : Int)) (req (0 ≤ x4 ∧ x4 < ((x1.Parts).length : Int)) (cond (((atI x1.Parts x4).Dest != (0 : Int)) && (sLt x3 (atI x1.Parts x4).Done)) (some (atI x1.Parts x4).Dest) (some (atI x1.Parts x4).Node)))))

set_option maxRecDepth 100000 in
theorem W_placement_Owner {V : View} (x1 : TPlacement) (x3 : Str) {a2 : Option Addr} {k2 : Nat} (h2 : SlAt cTPart V a2 k2 x1.Parts) {r : Int} (hF : F_placement_Owner x1 x3 = some r) :
    Spec Tryz.prog 50 [.agg ⟨[.int .i64 (x1.Version), .slice a2 ((x1.Parts).length) (k2)]⟩, .string ⟨⟨x3⟩⟩] V (fun _ v => v = .int .i64 (r)) := by
  unfold F_placement_Owner at hF
  refine Spec.enter (T := tyT) Tryz.func50 rfl (by kernel_rfl) rfl rfl rfl ?_
  refine Exec.run tyOk 400 rfl ?_
  obtain ⟨x4, hx4, hF⟩ := bnd_some hF
  refine Exec.callS (.int .i64 (x4)) rfl rfl (W_placement_Index x1 x3 h2 hx4) ?_
  refine Exec.run tyOk 400 rfl ?_
  rcases cond_some hF with ⟨hb, hF⟩ | ⟨hb, hF⟩
  · skip
    refine Exec.ifT rfl hb ?_
    refine Exec.run tyOk 400 rfl ?_
    obtain rfl := some_inj hF
    exact Exec.ret tyOk rfl rfl rfl
  · skip
    refine Exec.ifF rfl hb ?_
    refine Exec.run tyOk 400 rfl ?_
    obtain ⟨q5, hF⟩ := req_some hF
    obtain ⟨c6, hr6, hd6⟩ := SlAt.get h2 q5
    obtain rfl := hr6
    refine Exec.ia tyOk rfl rfl ⟨q5.1, q5.2, hd6.some⟩ ?_
    refine Exec.run tyOk 400 rfl ?_
    refine Exec.ld tyOk (x := .agg ⟨[.int .i64 ((atI x1.Parts x4).Id), .string ⟨⟨(atI x1.Parts x4).From⟩⟩, .int .i64 ((atI x1.Parts x4).Node), .int .i64 ((atI x1.Parts x4).Dest), .string ⟨⟨(atI x1.Parts x4).Done⟩⟩]⟩) rfl rfl hd6 rfl rfl ?_
    refine Exec.run tyOk 400 rfl ?_
    rcases cond_some hF with ⟨hb, hF⟩ | ⟨hb, hF⟩
    · skip
      refine Exec.ifT rfl hb ?_
      refine Exec.run tyOk 400 rfl ?_
      obtain rfl := some_inj hF
      exact Exec.ret tyOk rfl rfl rfl
    · skip
      refine Exec.ifF rfl hb ?_
      refine Exec.run tyOk 400 rfl ?_
      obtain rfl := some_inj hF
      exact Exec.ret tyOk rfl rfl rfl

def F_route_valid (x1 : TPlacement) (x3 : TFootprint) : Option Bool :=
  (bnd (F_placement_Valid x1) fun x6 => (bnd (gcall ((x6) == true) (F_footprint_Valid x3)) fun x7 => (some (x6 && x7))))

set_option maxRecDepth 100000 in
theorem W_route_valid {V : View} (x1 : TPlacement) (x3 : TFootprint) {a2 : Option Addr} {k2 : Nat} {a4 : Option Addr} {k4 : Nat} {a5 : Option Addr} {k5 : Nat} (h2 : SlAt cTPart V a2 k2 x1.Parts) (h4 : SlAt cStr V a4 k4 x3.Reads) (h5 : SlAt cStr V a5 k5 x3.Writes) {r : Bool} (hF : F_route_valid x1 x3 = some r) :
    Spec Tryz.prog 51 [.agg ⟨[.int .i64 (x1.Version), .slice a2 ((x1.Parts).length) (k2)]⟩, .agg ⟨[.bool (x3.All), .slice a4 ((x3.Reads).length) (k4), .slice a5 ((x3.Writes).length) (k5)]⟩] V (fun _ v => v = .bool (r)) := by
  unfold F_route_valid at hF
  refine Spec.enter (T := tyT) Tryz.func51 rfl (by kernel_rfl) rfl rfl rfl ?_
  refine Exec.run tyOk 400 rfl ?_
  obtain ⟨x6, hx6, hF⟩ := bnd_some hF
  refine Exec.callS (.bool (x6)) rfl rfl (W_placement_Valid x1 h2 hx6) ?_
  refine Exec.run tyOk 400 rfl ?_
  obtain ⟨x7, hx7, hF⟩ := bnd_some hF
  refine Exec.callS (.bool (x7)) rfl rfl (fun gg0 => W_footprint_Valid x3 h4 h5 (gcall_some hx7 (gd1_of gg0))) ?_
  refine Exec.run tyOk 400 rfl ?_
  obtain rfl := some_inj hF
  exact Exec.ret tyOk rfl rfl rfl

def F_exchange_Collect_1 (x1 : TMail) (x4 : TMail) : Option Bool :=
  (bnd (F_exchange_same x1 x4) fun x7 => (some x7))

set_option maxRecDepth 100000 in
theorem W_exchange_Collect_1 {V : View} (x1 : TMail) (x4 : TMail) {a2 : Option Addr} {k2 : Nat} {a3 : Option Addr} {k3 : Nat} {a5 : Option Addr} {k5 : Nat} {a6 : Option Addr} {k6 : Nat} {b0 o0 : Nat} (h2 : SlAt cStr V a2 k2 x1.Keys) (h3 : SlAt cTPair V a3 k3 x1.Pairs) (h5 : SlAt cStr V a5 k5 x4.Keys) (h6 : SlAt cTPair V a6 k6 x4.Pairs) (hc0 : RdAt V (some ⟨b0, o0, none⟩) 0 [.int .i64 (x4.Txn), .int .i64 (x4.From), .int .i64 (x4.To), .slice a5 ((x4.Keys).length) (k5), .slice a6 ((x4.Pairs).length) (k6)]) {r : Bool} (hF : F_exchange_Collect_1 x1 x4 = some r) :
    Spec Tryz.prog 58 [.agg ⟨[.int .i64 (x1.Txn), .int .i64 (x1.From), .int .i64 (x1.To), .slice a2 ((x1.Keys).length) (k2), .slice a3 ((x1.Pairs).length) (k3)]⟩, .pointer (some ⟨b0, o0, none⟩)] V (fun _ v => v = .bool (r)) := by
  unfold F_exchange_Collect_1 at hF
  refine Spec.enter (T := tyT) Tryz.func58 rfl (by kernel_rfl) rfl rfl rfl ?_
  refine Exec.run tyOk 400 rfl ?_
  refine Exec.ld tyOk (x := .agg ⟨[.int .i64 (x4.Txn), .int .i64 (x4.From), .int .i64 (x4.To), .slice a5 ((x4.Keys).length) (k5), .slice a6 ((x4.Pairs).length) (k6)]⟩) rfl rfl hc0 rfl rfl ?_
  refine Exec.run tyOk 400 rfl ?_
  obtain ⟨x7, hx7, hF⟩ := bnd_some hF
  refine Exec.callS (.bool (x7)) rfl rfl (W_exchange_same x1 x4 h2 h3 h5 h6 hx7) ?_
  refine Exec.run tyOk 400 rfl ?_
  obtain rfl := some_inj hF
  exact Exec.ret tyOk rfl rfl rfl

end Go.Proofs.YtcgmfmpfmfjmoaaGreat
