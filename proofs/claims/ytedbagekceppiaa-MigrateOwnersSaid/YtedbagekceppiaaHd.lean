/-
  Functions of the program as their counterparts say them (printed by a program).
  Conditions: none.
-/
import Derived.Test.YtedbagekceppiaaHc
set_option linter.all false
namespace Go.Proofs.Ytedbagekceppiaa

def F_state_sorted_L1 (x1 : List TPair) (J3 : Option Bool) : Nat → Int → Option Bool
  | 0, _ => none
  | n6 + 1, x5 => (cond (decide (x5 < (((x1).length : Nat) : Int))) (req (0 ≤ x5 ∧ x5 < ((x1).length : Int)) (bnd (F_keys_Valid ((atI x1 x5).Key)) fun x11 => (bnd (gcall (((!x11)) == false) (F_value_Valid ((⟨(atI x1 x5).Val.Kind, (atI x1 x5).Val.N, (atI x1 x5).Val.S⟩ : TValue)))) fun x12 => (req (((((decide ((0 : Int) < x5))) == true) && ((((!x11) || (!x12))) == false)) = true → 0 ≤ (IntKind.i64.wrap (x5 - (1 : Int))) ∧ (IntKind.i64.wrap (x5 - (1 : Int))) < ((x1).length : Int)) (cond (((!x11) || (!x12)) || ((decide ((0 : Int) < x5)) && (!sLt (cond ((((decide ((0 : Int) < x5))) == true) && ((((!x11) || (!x12))) == false)) (atI x1 ((IntKind.i64.wrap (x5 - (1 : Int))))) default).Key (atI x1 x5).Key))) (some false) (F_state_sorted_L1 x1 J3 n6 ((IntKind.i64.wrap (x5 + (1 : Int)))))))))) J3)

def F_state_sorted (x1 : List TPair) : Option Bool :=
  (jn ((some true)) (fun J3 => (F_state_sorted_L1 x1 J3 (((((x1).length : Nat) : Int)).toNat + 1) ((0 : Int)))))

set_option maxRecDepth 100000 in
theorem W_state_sorted {V : View} (x1 : List TPair) {a2 : Option Addr} {k2 : Nat} (h2 : SlAt cTPair V a2 k2 x1) {r : Bool} (hF : F_state_sorted x1 = some r) :
    Spec Try.prog 57 [.slice a2 ((x1).length) (k2)] V (fun _ v => v = .bool (r)) := by
  unfold F_state_sorted at hF
  refine Spec.enter (T := tyT) Try.func57 rfl (by kernel_rfl) rfl rfl rfl ?_
  refine Exec.run tyOk 11 rfl ?_
  obtain ⟨J3, hJ3, hF⟩ := jn_some hF
  refine Exec.seam (fun L' V' M' => L' = [] ∧ M' = [] ∧ J3 = some r) rfl ?_ ?_
  · rintro L' V4 M' ⟨rfl, rfl, hF⟩
    subst hJ3
    refine Exec.run tyOk 400 rfl ?_
    obtain rfl := some_inj hF
    exact Exec.ret tyOk rfl rfl rfl
  · skip
    refine Exec.run tyOk 400 rfl ?_
    refine Exec.loop (fun n6 L' V' M' => ∃ (x5 : Int), L' = [(0, .v (.slice a2 ((x1).length) (k2))), (5, .v (.slice a2 ((x1).length) (k2))), (6, .v (.int .i64 ((((x1).length : Nat) : Int)))), (7, .v (.int .i64 (x5)))] ∧ M' = [] ∧ SlAt cTPair V' a2 k2 x1 ∧ F_state_sorted_L1 x1 J3 n6 x5 = some r) ⟨(((((x1).length : Nat) : Int)).toNat + 1), [(0, .v (.slice a2 ((x1).length) (k2))), (5, .v (.slice a2 ((x1).length) (k2))), (6, .v (.int .i64 ((((x1).length : Nat) : Int)))), (7, .v (.int .i64 ((0 : Int))))], ⟨rfl, rfl, rfl, rfl, trivial⟩, (0 : Int), rfl, rfl, h2, hF⟩ ?_
    rintro n6 L' V7 M' ⟨x5, rfl, rfl, h8, hF⟩
    rcases n6 with _ | n6
    · exact absurd hF (by simp [F_state_sorted_L1])
    rw [F_state_sorted_L1] at hF
    refine Exec.run tyOk 400 rfl ?_
    rcases cond_some hF with ⟨hb, hF⟩ | ⟨hb, hF⟩
    · skip
      refine Exec.ifT rfl hb ?_
      refine Exec.run tyOk 400 rfl ?_
      obtain ⟨q9, hF⟩ := req_some hF
      obtain ⟨c10, hr10, hd10⟩ := SlAt.get h8 q9
      obtain rfl := hr10
      refine Exec.ia tyOk rfl rfl ⟨q9.1, q9.2, hd10.some⟩ ?_
      refine Exec.run tyOk 400 rfl ?_
      refine Exec.ld tyOk (x := .agg ⟨[.string ⟨⟨(atI x1 x5).Key⟩⟩, .int .i64 ((atI x1 x5).Val.Kind), .int .i64 ((atI x1 x5).Val.N), .string ⟨⟨(atI x1 x5).Val.S⟩⟩]⟩) rfl rfl hd10 rfl rfl ?_
      refine Exec.run tyOk 400 rfl ?_
      refine Exec.draws tyOk [(0, true), (1, true), (2, false), (3, false), (4, false), (5, false), (6, false), (7, false), (8, false), (9, false), (10, false), (11, false), (12, false), (13, false), (14, true), (15, true), (16, true), (17, true), (18, true), (19, true), (20, false), (21, false), (22, false), (23, false), (24, false)] rfl (by kernel_rfl) ?_
      refine Exec.run tyOk 400 rfl ?_
      obtain ⟨x11, hx11, hF⟩ := bnd_some hF
      refine Exec.callS (.bool (x11)) rfl rfl (W_keys_Valid ((atI x1 x5).Key)  hx11) ?_
      refine Exec.run tyOk 400 rfl ?_
      obtain ⟨x12, hx12, hF⟩ := bnd_some hF
      refine Exec.callS (.bool (x12)) rfl rfl (fun gg0 => W_value_Valid ((⟨(atI x1 x5).Val.Kind, (atI x1 x5).Val.N, (atI x1 x5).Val.S⟩ : TValue))  (gcall_some hx12 (gd1_of gg0))) ?_
      refine Exec.run tyOk 400 rfl ?_
      obtain ⟨q13, hF⟩ := req_some hF
      obtain ⟨c14, hr14, hd14⟩ := SlAt.gget ((((decide ((0 : Int) < x5))) == true) && ((((!x11) || (!x12))) == false)) h8 q13
      obtain rfl := hr14
      refine Exec.fia tyOk rfl rfl rfl (fun gg0 gg1 => ⟨(q13 (gd2_of gg0 gg1)).1, (q13 (gd2_of gg0 gg1)).2, (hd14 (gd2_of gg0 gg1)).some⟩) ?_
      refine Exec.run tyOk 400 rfl ?_
      refine Exec.fld tyOk (x := .string ⟨⟨(cond ((((decide ((0 : Int) < x5))) == true) && ((((!x11) || (!x12))) == false)) (atI x1 ((IntKind.i64.wrap (x5 - (1 : Int))))) default).Key⟩⟩) rfl rfl rfl (fun gg0 gg1 => (RdAt.part (hd14 (gd2_of gg0 gg1)) 0 1 rfl)) rfl rfl ?_
      refine Exec.run tyOk 400 rfl ?_
      rcases cond_some hF with ⟨hb, hF⟩ | ⟨hb, hF⟩
      · skip
        refine Exec.ifT rfl hb ?_
        refine Exec.run tyOk 400 rfl ?_
        obtain rfl := some_inj hF
        exact Exec.ret tyOk rfl rfl rfl
      · skip
        refine Exec.ifF rfl hb ?_
        refine Exec.run tyOk 400 rfl ?_
        refine Exec.cut 0 [(0, .v (.slice a2 ((x1).length) (k2))), (5, .v (.slice a2 ((x1).length) (k2))), (6, .v (.int .i64 ((((x1).length : Nat) : Int)))), (7, .v (.int .i64 ((IntKind.i64.wrap (x5 + (1 : Int))))))] (M' := []) rfl ⟨rfl, rfl, rfl, rfl, trivial⟩ rfl rfl rfl ?_
        exact Exec.round [(0, .v (.slice a2 ((x1).length) (k2))), (5, .v (.slice a2 ((x1).length) (k2))), (6, .v (.int .i64 ((((x1).length : Nat) : Int)))), (7, .v (.int .i64 ((IntKind.i64.wrap (x5 + (1 : Int))))))] ⟨rfl, rfl, rfl, rfl, trivial⟩ ⟨n6, Nat.lt_succ_self _, (IntKind.i64.wrap (x5 + (1 : Int))), rfl, rfl, h8, hF⟩
    · skip
      refine Exec.ifF rfl hb ?_
      refine Exec.run tyOk 400 rfl ?_
      exact Exec.round [] trivial ⟨rfl, rfl, hF⟩

def F_clockworkref06_ValidWrites_L1 (x1 : List TPair) (J3 : Option Bool) : Nat → Int → Option Bool
  | 0, _ => none
  | n8 + 1, x7 => (cond (decide (x7 < (((x1).length : Nat) : Int))) (req (0 ≤ x7 ∧ x7 < ((x1).length : Int)) (bnd (F_clockworkref05_Valid ((atI x1 x7).Val)) fun x13 => (cond (!x13) (some false) (F_clockworkref06_ValidWrites_L1 x1 J3 n8 ((IntKind.i64.wrap (x7 + (1 : Int)))))))) J3)

def F_clockworkref06_ValidWrites (x1 : List TPair) : Option Bool :=
  (jn ((bnd (F_clockworkref06_ascending x1) fun x6 => (some x6))) (fun J3 => (F_clockworkref06_ValidWrites_L1 x1 J3 (((((x1).length : Nat) : Int)).toNat + 1) ((0 : Int)))))

set_option maxRecDepth 100000 in
theorem W_clockworkref06_ValidWrites {V : View} (x1 : List TPair) {a2 : Option Addr} {k2 : Nat} (h2 : SlAt cTPair V a2 k2 x1) {r : Bool} (hF : F_clockworkref06_ValidWrites x1 = some r) :
    Spec Try.prog 65 [.slice a2 ((x1).length) (k2)] V (fun _ v => v = .bool (r)) := by
  unfold F_clockworkref06_ValidWrites at hF
  refine Spec.enter (T := tyT) Try.func65 rfl (by kernel_rfl) rfl rfl rfl ?_
  refine Exec.run tyOk 9 rfl ?_
  obtain ⟨J3, hJ3, hF⟩ := jn_some hF
  refine Exec.seam (fun L' V' M' => L' = [(0, .v (.slice a2 ((x1).length) (k2)))] ∧ M' = [] ∧ SlAt cTPair V' a2 k2 x1 ∧ J3 = some r) rfl ?_ ?_
  · rintro L' V4 M' ⟨rfl, rfl, h5, hF⟩
    subst hJ3
    refine Exec.run tyOk 400 rfl ?_
    obtain ⟨x6, hx6, hF⟩ := bnd_some hF
    refine Exec.callS (.bool (x6)) rfl rfl (W_clockworkref06_ascending x1 h5 hx6) ?_
    refine Exec.run tyOk 400 rfl ?_
    obtain rfl := some_inj hF
    exact Exec.ret tyOk rfl rfl rfl
  · skip
    refine Exec.run tyOk 400 rfl ?_
    refine Exec.loop (fun n8 L' V' M' => ∃ (x7 : Int), L' = [(0, .v (.slice a2 ((x1).length) (k2))), (3, .v (.int .i64 (x7)))] ∧ M' = [] ∧ SlAt cTPair V' a2 k2 x1 ∧ F_clockworkref06_ValidWrites_L1 x1 J3 n8 x7 = some r) ⟨(((((x1).length : Nat) : Int)).toNat + 1), [(0, .v (.slice a2 ((x1).length) (k2))), (3, .v (.int .i64 ((0 : Int))))], ⟨rfl, rfl, trivial⟩, (0 : Int), rfl, rfl, h2, hF⟩ ?_
    rintro n8 L' V9 M' ⟨x7, rfl, rfl, h10, hF⟩
    rcases n8 with _ | n8
    · exact absurd hF (by simp [F_clockworkref06_ValidWrites_L1])
    rw [F_clockworkref06_ValidWrites_L1] at hF
    refine Exec.run tyOk 400 rfl ?_
    rcases cond_some hF with ⟨hb, hF⟩ | ⟨hb, hF⟩
    · skip
      refine Exec.ifT rfl hb ?_
      refine Exec.run tyOk 400 rfl ?_
      obtain ⟨q11, hF⟩ := req_some hF
      obtain ⟨c12, hr12, hd12⟩ := SlAt.get h10 q11
      obtain rfl := hr12
      refine Exec.ia tyOk rfl rfl ⟨q11.1, q11.2, hd12.some⟩ ?_
      refine Exec.run tyOk 400 rfl ?_
      refine Exec.ld tyOk (x := .agg ⟨[.int .i64 ((atI x1 x7).Val.Kind), .int .i64 ((atI x1 x7).Val.N), .string ⟨⟨(atI x1 x7).Val.S⟩⟩]⟩) rfl rfl (RdAt.part hd12 1 3 rfl) rfl rfl ?_
      refine Exec.run tyOk 400 rfl ?_
      obtain ⟨x13, hx13, hF⟩ := bnd_some hF
      refine Exec.callS (.bool (x13)) rfl rfl (W_clockworkref05_Valid ((atI x1 x7).Val)  hx13) ?_
      refine Exec.run tyOk 400 rfl ?_
      rcases cond_some hF with ⟨hb, hF⟩ | ⟨hb, hF⟩
      · skip
        refine Exec.ifT rfl hb ?_
        refine Exec.run tyOk 400 rfl ?_
        obtain rfl := some_inj hF
        exact Exec.ret tyOk rfl rfl rfl
      · skip
        refine Exec.ifF rfl hb ?_
        refine Exec.run tyOk 400 rfl ?_
        exact Exec.round [(0, .v (.slice a2 ((x1).length) (k2))), (3, .v (.int .i64 ((IntKind.i64.wrap (x7 + (1 : Int))))))] ⟨rfl, rfl, trivial⟩ ⟨n8, Nat.lt_succ_self _, (IntKind.i64.wrap (x7 + (1 : Int))), rfl, rfl, h10, hF⟩
    · skip
      refine Exec.ifF rfl hb ?_
      refine Exec.run tyOk 400 rfl ?_
      exact Exec.round [(0, .v (.slice a2 ((x1).length) (k2)))] ⟨rfl, trivial⟩ ⟨rfl, rfl, h10, hF⟩

def F_placement_Nodes_L1 (x1 : TPlacement) (J7 : (List Int) → Option (List Int)) : Nat → (List Int) → Int → Option (List Int)
  | 0, _, _ => none
  | n18 + 1, x16, x17 => (cond (decide (x17 < (((x1.Parts).length : Nat) : Int))) (req (0 ≤ x17 ∧ x17 < ((x1.Parts).length : Int)) (req (((x16 ++ [(atI x1.Parts x17).Node])).length * 8 ≤ 140737488355328) (jn (fun (x26 : List Int) => (F_placement_Nodes_L1 x1 J7 n18 x26 ((IntKind.i64.wrap (x17 + (1 : Int)))))) (fun J27 => (cond ((atI x1.Parts x17).Dest != (0 : Int)) (req ((((x16 ++ [(atI x1.Parts x17).Node]) ++ [(atI x1.Parts x17).Dest])).length * 8 ≤ 140737488355328) (J27 (((x16 ++ [(atI x1.Parts x17).Node]) ++ [(atI x1.Parts x17).Dest])))) (J27 ((x16 ++ [(atI x1.Parts x17).Node])))))))) (J7 x16))

def F_placement_Nodes (x1 : TPlacement) : Option (List Int) :=
  (bnd (F_placement_Valid x1) fun x3 => (cond (!x3) (some ([] : List Int)) (jn (fun (x6 : List Int) => (req ((x6).length < 4611686018427387904) (some (compactL (sortL x6))))) (fun J7 => (F_placement_Nodes_L1 x1 J7 (((((x1.Parts).length : Nat) : Int)).toNat + 1) (([] : List Int)) ((0 : Int)))))))

set_option maxRecDepth 100000 in
theorem W_placement_Nodes {V : View} (x1 : TPlacement) {a2 : Option Addr} {k2 : Nat} (h2 : SlAt cTPart V a2 k2 x1.Parts) {r : List Int} (hF : F_placement_Nodes x1 = some r) :
    Spec Try.prog 82 [.agg ⟨[.int .i64 (x1.Version), .slice a2 ((x1.Parts).length) (k2)]⟩] V (fun V' v => ∃ (a32 : Option Addr) (k32 : Nat), v = .slice a32 ((r).length) (k32) ∧ SlAt (cInt .i64) V' a32 k32 r) := by
  unfold F_placement_Nodes at hF
  refine Spec.enter (T := tyT) Try.func82 rfl (by kernel_rfl) rfl rfl rfl ?_
  refine Exec.run tyOk 400 rfl ?_
  obtain ⟨x3, hx3, hF⟩ := bnd_some hF
  refine Exec.callS (.bool (x3)) rfl rfl (W_placement_Valid x1 h2 hx3) ?_
  refine Exec.run tyOk 400 rfl ?_
  rcases cond_some hF with ⟨hb, hF⟩ | ⟨hb, hF⟩
  · skip
    refine Exec.ifT rfl hb ?_
    refine Exec.run tyOk 400 rfl ?_
    obtain rfl := some_inj hF
    exact Exec.ret tyOk rfl rfl ⟨_, _, rfl, SlAt.nil⟩
  · skip
    refine Exec.ifF rfl hb ?_
    refine Exec.run tyOk 13 rfl ?_
    refine Exec.row0 3 1 rfl ?_
    have h4 : RowRep (cInt .i64) V ([] : List Int) [] := RowRep.nil
    obtain ⟨J7, hJ7, hF⟩ := jn_some hF
    refine Exec.seam (fun L' V' M' => ∃ (x6 : List Int) (a5 : Option Addr) (k5 : Nat) (cs5 : List Value), L' = [(3, .v (.slice a5 ((x6).length) (k5)))] ∧ M' = [.blk [.v (.int .i64 (x1.Version)), .v (.slice a2 ((x1.Parts).length) (k2))] 24, .row (.slice a5 ((x6).length) (k5)) cs5 3 1] ∧ RowRep (cInt .i64) V' x6 cs5 ∧ SlAt cTPart V' a2 k2 x1.Parts ∧ J7 x6 = some r) rfl ?_ ?_
    · rintro L' V8 M' ⟨x6, a5, k5, cs5, rfl, rfl, h5, h9, hF⟩
      subst hJ7
      refine Exec.run tyOk 400 rfl ?_
      obtain ⟨q11, hF⟩ := req_some hF
      refine Exec.callM 1 rfl rfl rfl rfl (sortI_row h5 (fun cs e => by subst e; exact (sortI_specM ⟨_, rfl, by kernel_rfl, by kernel_rfl⟩ Try.slices_Sort_int Try.slices_Sort_int_none q11))) ?_
      rintro VV10 _ _ _ ⟨rfl, hVV, rfl⟩
      have hVV := hVV.symm
      subst hVV
      refine ⟨_, rfl, ?_⟩
      have h10 : RowRep (cInt .i64) V8 (sortL x6) ((sortL x6).map (Value.int .i64)) := RowRep.ofInts _
      refine Exec.run tyOk 400 rfl ?_
      refine Exec.callM 1 rfl rfl rfl rfl (compactI_row h10 (fun cs e => by subst e; exact (compactI_specM ⟨_, rfl, by kernel_rfl, by kernel_rfl⟩ Try.slices_Compact_int Try.slices_Compact_int_empty))) ?_
      rintro VV12 _ _ _ ⟨rfl, hVV, rfl⟩
      have hVV := hVV.symm
      subst hVV
      refine ⟨_, rfl, ?_⟩
      have h12 : RowRep (cInt .i64) V8 (compactL (sortL x6)) ((compactL (sortL x6)).map (Value.int .i64)) := RowRep.ofInts _
      refine Exec.run tyOk 400 rfl ?_
      refine Exec.frz 1 rfl rfl rfl (fun V13 hv13 hd13 hn13 => ?_)
      have hz13 := RowRep.slat h12 hv13 hd13 hn13
      have h14 := SlAt.mono h9 hv13
      obtain rfl := some_inj hF
      exact Exec.ret tyOk rfl rfl ⟨_, _, rfl, hz13⟩
    · skip
      refine Exec.run tyOk 400 rfl ?_
      refine Exec.loop (fun n18 L' V' M' => ∃ (x16 : List Int) (a15 : Option Addr) (k15 : Nat) (cs15 : List Value) (x17 : Int), L' = [(3, .v (.slice a15 ((x16).length) (k15))), (10, .v (.slice a2 ((x1.Parts).length) (k2))), (11, .v (.int .i64 ((((x1.Parts).length : Nat) : Int)))), (12, .v (.int .i64 (x17)))] ∧ M' = [.blk [.v (.int .i64 (x1.Version)), .v (.slice a2 ((x1.Parts).length) (k2))] 24, .row (.slice a15 ((x16).length) (k15)) cs15 3 1] ∧ RowRep (cInt .i64) V' x16 cs15 ∧ SlAt cTPart V' a2 k2 x1.Parts ∧ F_placement_Nodes_L1 x1 J7 n18 x16 x17 = some r) ⟨(((((x1.Parts).length : Nat) : Int)).toNat + 1), [(3, .v (.slice none ((([] : List Int)).length) (0))), (10, .v (.slice a2 ((x1.Parts).length) (k2))), (11, .v (.int .i64 ((((x1.Parts).length : Nat) : Int)))), (12, .v (.int .i64 ((0 : Int))))], ⟨rfl, rfl, rfl, rfl, trivial⟩, ([] : List Int), none, 0, [], (0 : Int), rfl, rfl, h4, h2, hF⟩ ?_
      rintro n18 L' V19 M' ⟨x16, a15, k15, cs15, x17, rfl, rfl, h15, h20, hF⟩
      rcases n18 with _ | n18
      · exact absurd hF (by simp [F_placement_Nodes_L1])
      rw [F_placement_Nodes_L1] at hF
      refine Exec.run tyOk 400 rfl ?_
      rcases cond_some hF with ⟨hb, hF⟩ | ⟨hb, hF⟩
      · skip
        refine Exec.ifT rfl hb ?_
        refine Exec.run tyOk 400 rfl ?_
        obtain ⟨q21, hF⟩ := req_some hF
        obtain ⟨c22, hr22, hd22⟩ := SlAt.get h20 q21
        obtain rfl := hr22
        refine Exec.ia tyOk rfl rfl ⟨q21.1, q21.2, hd22.some⟩ ?_
        refine Exec.run tyOk 400 rfl ?_
        refine Exec.ld tyOk (x := .agg ⟨[.int .i64 ((atI x1.Parts x17).Id), .string ⟨⟨(atI x1.Parts x17).From⟩⟩, .int .i64 ((atI x1.Parts x17).Node), .int .i64 ((atI x1.Parts x17).Dest), .string ⟨⟨(atI x1.Parts x17).Done⟩⟩]⟩) rfl rfl hd22 rfl rfl ?_
        refine Exec.run tyOk 400 rfl ?_
        refine Exec.bsl tyOk rfl rfl ?_
        refine Exec.run tyOk 400 rfl ?_
        obtain ⟨q24, hF⟩ := req_some hF
        refine Exec.app tyOk 1 3 (nm := ((x16 ++ [(atI x1.Parts x17).Node])).length) rfl rfl rfl rfl rfl rfl rfl rfl rfl (by simp) (fun _ _ => rfl) rfl q24 (fun a23 k23 => ?_)
        have h23 : RowRep (cInt .i64) V19 (x16 ++ [(atI x1.Parts x17).Node]) (cs15 ++ [.int .i64 ((atI x1.Parts x17).Node)]) := RowRep.app h15 ⟨_, _, rfl, rfl, rfl⟩
        refine Exec.run tyOk 400 rfl ?_
        obtain ⟨J27, hJ27, hF⟩ := jn_some hF
        refine Exec.seam (fun L' V' M' => ∃ (x26 : List Int) (a25 : Option Addr) (k25 : Nat) (cs25 : List Value), L' = [(3, .v (.slice a25 ((x26).length) (k25))), (10, .v (.slice a2 ((x1.Parts).length) (k2))), (11, .v (.int .i64 ((((x1.Parts).length : Nat) : Int)))), (12, .v (.int .i64 (x17)))] ∧ M' = [.blk [.v (.int .i64 (x1.Version)), .v (.slice a2 ((x1.Parts).length) (k2))] 24, .row (.slice a25 ((x26).length) (k25)) cs25 3 1] ∧ RowRep (cInt .i64) V' x26 cs25 ∧ SlAt cTPart V' a2 k2 x1.Parts ∧ J27 x26 = some r) rfl ?_ ?_
        · rintro L' V28 M' ⟨x26, a25, k25, cs25, rfl, rfl, h25, h29, hF⟩
          subst hJ27
          refine Exec.run tyOk 400 rfl ?_
          exact Exec.round [(3, .v (.slice a25 ((x26).length) (k25))), (10, .v (.slice a2 ((x1.Parts).length) (k2))), (11, .v (.int .i64 ((((x1.Parts).length : Nat) : Int)))), (12, .v (.int .i64 ((IntKind.i64.wrap (x17 + (1 : Int))))))] ⟨rfl, rfl, rfl, rfl, trivial⟩ ⟨n18, Nat.lt_succ_self _, x26, a25, k25, cs25, (IntKind.i64.wrap (x17 + (1 : Int))), rfl, rfl, h25, h29, hF⟩
        · skip
          refine Exec.run tyOk 400 rfl ?_
          rcases cond_some hF with ⟨hb, hF⟩ | ⟨hb, hF⟩
          · skip
            refine Exec.ifT rfl hb ?_
            refine Exec.run tyOk 400 rfl ?_
            refine Exec.bsl tyOk rfl rfl ?_
            refine Exec.run tyOk 400 rfl ?_
            obtain ⟨q31, hF⟩ := req_some hF
            refine Exec.app tyOk 1 4 (nm := (((x16 ++ [(atI x1.Parts x17).Node]) ++ [(atI x1.Parts x17).Dest])).length) rfl rfl rfl rfl rfl rfl rfl rfl rfl (by simp) (fun _ _ => rfl) rfl q31 (fun a30 k30 => ?_)
            have h30 : RowRep (cInt .i64) V19 ((x16 ++ [(atI x1.Parts x17).Node]) ++ [(atI x1.Parts x17).Dest]) ((cs15 ++ [.int .i64 ((atI x1.Parts x17).Node)]) ++ [.int .i64 ((atI x1.Parts x17).Dest)]) := RowRep.app h23 ⟨_, _, rfl, rfl, rfl⟩
            refine Exec.run tyOk 400 rfl ?_
            refine Exec.cut 2 [(3, .v (.slice a30 ((((x16 ++ [(atI x1.Parts x17).Node]) ++ [(atI x1.Parts x17).Dest])).length) (k30))), (10, .v (.slice a2 ((x1.Parts).length) (k2))), (11, .v (.int .i64 ((((x1.Parts).length : Nat) : Int)))), (12, .v (.int .i64 (x17)))] (M' := [.blk [.v (.int .i64 (x1.Version)), .v (.slice a2 ((x1.Parts).length) (k2))] 24, .row (.slice a30 ((((x16 ++ [(atI x1.Parts x17).Node]) ++ [(atI x1.Parts x17).Dest])).length) (k30)) (((cs15 ++ [.int .i64 ((atI x1.Parts x17).Node)]) ++ [.int .i64 ((atI x1.Parts x17).Dest)])) 3 1]) rfl ⟨rfl, rfl, rfl, rfl, trivial⟩ rfl rfl rfl ?_
            exact Exec.round [(3, .v (.slice a30 ((((x16 ++ [(atI x1.Parts x17).Node]) ++ [(atI x1.Parts x17).Dest])).length) (k30))), (10, .v (.slice a2 ((x1.Parts).length) (k2))), (11, .v (.int .i64 ((((x1.Parts).length : Nat) : Int)))), (12, .v (.int .i64 (x17)))] ⟨rfl, rfl, rfl, rfl, trivial⟩ ⟨((x16 ++ [(atI x1.Parts x17).Node]) ++ [(atI x1.Parts x17).Dest]), a30, k30, ((cs15 ++ [.int .i64 ((atI x1.Parts x17).Node)]) ++ [.int .i64 ((atI x1.Parts x17).Dest)]), rfl, rfl, h30, h20, hF⟩
          · skip
            refine Exec.ifF rfl hb ?_
            refine Exec.run tyOk 400 rfl ?_
            refine Exec.cut 2 [(3, .v (.slice a23 (((x16 ++ [(atI x1.Parts x17).Node])).length) (k23))), (10, .v (.slice a2 ((x1.Parts).length) (k2))), (11, .v (.int .i64 ((((x1.Parts).length : Nat) : Int)))), (12, .v (.int .i64 (x17)))] (M' := [.blk [.v (.int .i64 (x1.Version)), .v (.slice a2 ((x1.Parts).length) (k2))] 24, .row (.slice a23 (((x16 ++ [(atI x1.Parts x17).Node])).length) (k23)) ((cs15 ++ [.int .i64 ((atI x1.Parts x17).Node)])) 3 1]) rfl ⟨rfl, rfl, rfl, rfl, trivial⟩ rfl rfl rfl ?_
            exact Exec.round [(3, .v (.slice a23 (((x16 ++ [(atI x1.Parts x17).Node])).length) (k23))), (10, .v (.slice a2 ((x1.Parts).length) (k2))), (11, .v (.int .i64 ((((x1.Parts).length : Nat) : Int)))), (12, .v (.int .i64 (x17)))] ⟨rfl, rfl, rfl, rfl, trivial⟩ ⟨(x16 ++ [(atI x1.Parts x17).Node]), a23, k23, (cs15 ++ [.int .i64 ((atI x1.Parts x17).Node)]), rfl, rfl, h23, h20, hF⟩
      · skip
        refine Exec.ifF rfl hb ?_
        refine Exec.run tyOk 400 rfl ?_
        exact Exec.round [(3, .v (.slice a15 ((x16).length) (k15)))] ⟨rfl, trivial⟩ ⟨x16, a15, k15, cs15, rfl, rfl, h15, h20, hF⟩

def F_placement_Index_L2 (x3 : Str) (x1 : TPlacement) (x9 : Int) (J6 : Int → Option Int) (J14 : Int → Option Int) : Nat → Int → Int → Option Int
  | 0, _, _ => none
  | n21 + 1, x19, x20 => (req (((((decide (x20 < ((x3).length : Int)))) == true) && (((x20 == (((atI x1.Parts x9).From).length : Int))) == false)) = true → 0 ≤ x20 ∧ x20 < (((atI x1.Parts x9).From).length : Int)) (req (((((decide (x20 < ((x3).length : Int)))) == true) && (((x20 == (((atI x1.Parts x9).From).length : Int))) == false)) = true → 0 ≤ x20 ∧ x20 < ((x3).length : Int)) (cond ((x20 == (((atI x1.Parts x9).From).length : Int)) || ((decide (x20 < ((x3).length : Int))) && (decide ((byteAt ((atI x1.Parts x9).From) (x20).toNat) < (byteAt x3 (x20).toNat))))) (J6 x9) (req ((((x20 == ((x3).length : Int))) == false) = true → 0 ≤ x20 ∧ x20 < (((atI x1.Parts x9).From).length : Int)) (req ((((x20 == ((x3).length : Int))) == false) = true → 0 ≤ x20 ∧ x20 < ((x3).length : Int)) (cond ((x20 == ((x3).length : Int)) || (decide ((byteAt x3 (x20).toNat) < (byteAt ((atI x1.Parts x9).From) (x20).toNat)))) (J14 x19) (F_placement_Index_L2 x3 x1 x9 J6 J14 n21 x19 ((IntKind.i64.wrap (x20 + (1 : Int)))))))))))

def F_placement_Index_L1 (x1 : TPlacement) (x3 : Str) (J6 : Int → Option Int) : Nat → Int → Int → Option Int
  | 0, _, _ => none
  | n10 + 1, x8, x9 => (cond (decide ((0 : Int) < x9)) (jn (fun (x13 : Int) => (F_placement_Index_L1 x1 x3 J6 n10 x13 ((IntKind.i64.wrap (x9 - (1 : Int)))))) (fun J14 => (req (0 ≤ x9 ∧ x9 < ((x1.Parts).length : Int)) (F_placement_Index_L2 x3 x1 x9 J6 J14 (1000000 : Nat) x8 ((0 : Int)))))) (J6 x8))

def F_placement_Index (x1 : TPlacement) (x3 : Str) : Option Int :=
  (bnd (F_placement_Valid x1) fun x4 => (cond (!x4) (some (-1 : Int)) (jn (fun (x5 : Int) => (some x5)) (fun J6 => (F_placement_Index_L1 x1 x3 J6 (((IntKind.i64.wrap ((((x1.Parts).length : Nat) : Int) - (1 : Int)))).toNat + 1) ((0 : Int)) ((IntKind.i64.wrap ((((x1.Parts).length : Nat) : Int) - (1 : Int)))))))))

set_option maxRecDepth 100000 in
theorem W_placement_Index {V : View} (x1 : TPlacement) (x3 : Str) {a2 : Option Addr} {k2 : Nat} (h2 : SlAt cTPart V a2 k2 x1.Parts) {r : Int} (hF : F_placement_Index x1 x3 = some r) :
    Spec Try.prog 95 [.agg ⟨[.int .i64 (x1.Version), .slice a2 ((x1.Parts).length) (k2)]⟩, .string ⟨⟨x3⟩⟩] V (fun _ v => v = .int .i64 (r)) := by
  unfold F_placement_Index at hF
  refine Spec.enter (T := tyT) Try.func95 rfl (by kernel_rfl) rfl rfl rfl ?_
  refine Exec.run tyOk 400 rfl ?_
  refine Exec.scope ?_
  refine Exec.run tyOk 400 rfl ?_
  obtain ⟨x4, hx4, hF⟩ := bnd_some hF
  refine Exec.callS (.bool (x4)) rfl rfl (W_placement_Valid x1 h2 hx4) ?_
  refine Exec.run tyOk 400 rfl ?_
  rcases cond_some hF with ⟨hb, hF⟩ | ⟨hb, hF⟩
  · skip
    refine Exec.ifT rfl hb ?_
    refine Exec.run tyOk 400 rfl ?_
    obtain rfl := some_inj hF
    exact Exec.ret tyOk rfl rfl rfl
  · skip
    refine Exec.ifF rfl hb ?_
    refine Exec.run tyOk 16 rfl ?_
    obtain ⟨J6, hJ6, hF⟩ := jn_some hF
    refine Exec.seam (fun L' V' M' => ∃ (x5 : Int), L' = [(5, .v (.int .i64 (x5)))] ∧ M' = [] ∧ J6 x5 = some r) rfl ?_ ?_
    · rintro L' V7 M' ⟨x5, rfl, rfl, hF⟩
      subst hJ6
      refine Exec.run tyOk 400 rfl ?_
      obtain rfl := some_inj hF
      exact Exec.ret tyOk rfl rfl rfl
    · skip
      refine Exec.run tyOk 400 rfl ?_
      refine Exec.loop (fun n10 L' V' M' => ∃ (x8 : Int) (x9 : Int), L' = [(1, .v (.string ⟨⟨x3⟩⟩)), (2, .ptr 0 0), (5, .v (.int .i64 (x8))), (6, .v (.int .i64 (x9)))] ∧ M' = [.blk [.v (.int .i64 (x1.Version)), .v (.slice a2 ((x1.Parts).length) (k2))] 24] ∧ SlAt cTPart V' a2 k2 x1.Parts ∧ F_placement_Index_L1 x1 x3 J6 n10 x8 x9 = some r) ⟨(((IntKind.i64.wrap ((((x1.Parts).length : Nat) : Int) - (1 : Int)))).toNat + 1), [(1, .v (.string ⟨⟨x3⟩⟩)), (2, .ptr 0 0), (5, .v (.int .i64 ((0 : Int)))), (6, .v (.int .i64 ((IntKind.i64.wrap ((((x1.Parts).length : Nat) : Int) - (1 : Int))))))], ⟨rfl, rfl, rfl, rfl, trivial⟩, (0 : Int), (IntKind.i64.wrap ((((x1.Parts).length : Nat) : Int) - (1 : Int))), rfl, rfl, h2, hF⟩ ?_
      rintro n10 L' V11 M' ⟨x8, x9, rfl, rfl, h12, hF⟩
      rcases n10 with _ | n10
      · exact absurd hF (by simp [F_placement_Index_L1])
      rw [F_placement_Index_L1] at hF
      refine Exec.run tyOk 400 rfl ?_
      rcases cond_some hF with ⟨hb, hF⟩ | ⟨hb, hF⟩
      · skip
        refine Exec.ifT rfl hb ?_
        refine Exec.run tyOk 2 rfl ?_
        obtain ⟨J14, hJ14, hF⟩ := jn_some hF
        refine Exec.seam (fun L' V' M' => ∃ (x13 : Int), L' = [(1, .v (.string ⟨⟨x3⟩⟩)), (2, .ptr 0 0), (5, .v (.int .i64 (x13))), (6, .v (.int .i64 (x9)))] ∧ M' = [.blk [.v (.int .i64 (x1.Version)), .v (.slice a2 ((x1.Parts).length) (k2))] 24] ∧ SlAt cTPart V' a2 k2 x1.Parts ∧ J14 x13 = some r) rfl ?_ ?_
        · rintro L' V15 M' ⟨x13, rfl, rfl, h16, hF⟩
          subst hJ14
          refine Exec.run tyOk 400 rfl ?_
          exact Exec.round [(1, .v (.string ⟨⟨x3⟩⟩)), (2, .ptr 0 0), (5, .v (.int .i64 (x13))), (6, .v (.int .i64 ((IntKind.i64.wrap (x9 - (1 : Int))))))] ⟨rfl, rfl, rfl, rfl, trivial⟩ ⟨n10, Nat.lt_succ_self _, x13, (IntKind.i64.wrap (x9 - (1 : Int))), rfl, rfl, h16, hF⟩
        · skip
          refine Exec.run tyOk 400 rfl ?_
          obtain ⟨q17, hF⟩ := req_some hF
          obtain ⟨c18, hr18, hd18⟩ := SlAt.get h12 q17
          obtain rfl := hr18
          refine Exec.ia tyOk rfl rfl ⟨q17.1, q17.2, hd18.some⟩ ?_
          refine Exec.run tyOk 400 rfl ?_
          refine Exec.ld tyOk (x := .string ⟨⟨(atI x1.Parts x9).From⟩⟩) rfl rfl (RdAt.part hd18 1 1 rfl) rfl rfl ?_
          refine Exec.run tyOk 400 rfl ?_
          refine Exec.loop (fun n21 L' V' M' => ∃ (x19 : Int) (x20 : Int), L' = [(1, .v (.string ⟨⟨x3⟩⟩)), (2, .ptr 0 0), (5, .v (.int .i64 (x19))), (6, .v (.int .i64 (x9))), (7, .v (.string ⟨⟨(atI x1.Parts x9).From⟩⟩)), (8, .v (.int .i64 (x20)))] ∧ M' = [.blk [.v (.int .i64 (x1.Version)), .v (.slice a2 ((x1.Parts).length) (k2))] 24] ∧ SlAt cTPart V' a2 k2 x1.Parts ∧ F_placement_Index_L2 x3 x1 x9 J6 J14 n21 x19 x20 = some r) ⟨(1000000 : Nat), [(1, .v (.string ⟨⟨x3⟩⟩)), (2, .ptr 0 0), (5, .v (.int .i64 (x8))), (6, .v (.int .i64 (x9))), (7, .v (.string ⟨⟨(atI x1.Parts x9).From⟩⟩)), (8, .v (.int .i64 ((0 : Int))))], ⟨rfl, rfl, rfl, rfl, rfl, rfl, trivial⟩, x8, (0 : Int), rfl, rfl, h12, hF⟩ ?_
          rintro n21 L' V22 M' ⟨x19, x20, rfl, rfl, h23, hF⟩
          rcases n21 with _ | n21
          · exact absurd hF (by simp [F_placement_Index_L2])
          rw [F_placement_Index_L2] at hF
          refine Exec.run tyOk 400 rfl ?_
          refine Exec.draws tyOk [(0, true), (1, true), (2, true), (3, true), (4, true), (5, true), (6, true), (7, true), (8, true), (9, true), (10, true), (11, true), (12, true), (13, true), (14, true), (15, true), (16, true), (17, true), (18, true), (19, true)] rfl (by kernel_rfl) ?_
          refine Exec.run tyOk 400 rfl ?_
          obtain ⟨q24, hF⟩ := req_some hF
          refine Exec.fidx tyOk rfl rfl rfl (fun gg0 gg1 => q24 (gd2_of gg0 gg1)) ?_
          refine Exec.run tyOk 400 rfl ?_
          obtain ⟨q25, hF⟩ := req_some hF
          refine Exec.fidx tyOk rfl rfl rfl (fun gg0 gg1 => q25 (gd2_of gg0 gg1)) ?_
          refine Exec.run tyOk 400 rfl ?_
          rcases cond_some hF with ⟨hb, hF⟩ | ⟨hb, hF⟩
          · skip
            refine Exec.ifT rfl hb ?_
            refine Exec.run tyOk 400 rfl ?_
            refine Exec.cut 0 [(5, .v (.int .i64 (x9)))] (M' := []) rfl ⟨rfl, trivial⟩ rfl rfl rfl ?_
            exact Exec.round [(5, .v (.int .i64 (x9)))] ⟨rfl, trivial⟩ ⟨x9, rfl, rfl, hF⟩
          · skip
            refine Exec.ifF rfl hb ?_
            refine Exec.run tyOk 400 rfl ?_
            refine Exec.draws tyOk [(0, true), (1, true), (2, true), (3, true), (4, true), (5, true), (6, true), (7, true), (8, true), (9, true), (10, true), (11, true), (12, true), (13, true)] rfl (by kernel_rfl) ?_
            refine Exec.run tyOk 400 rfl ?_
            obtain ⟨q26, hF⟩ := req_some hF
            refine Exec.fidx tyOk rfl rfl rfl (fun gg0 => q26 (gd1_of gg0)) ?_
            refine Exec.run tyOk 400 rfl ?_
            obtain ⟨q27, hF⟩ := req_some hF
            refine Exec.fidx tyOk rfl rfl rfl (fun gg0 => q27 (gd1_of gg0)) ?_
            refine Exec.run tyOk 400 rfl ?_
            rcases cond_some hF with ⟨hb, hF⟩ | ⟨hb, hF⟩
            · skip
              refine Exec.ifT rfl hb ?_
              refine Exec.run tyOk 400 rfl ?_
              exact Exec.round [(1, .v (.string ⟨⟨x3⟩⟩)), (2, .ptr 0 0), (5, .v (.int .i64 (x19))), (6, .v (.int .i64 (x9)))] ⟨rfl, rfl, rfl, rfl, trivial⟩ ⟨x19, rfl, rfl, h23, hF⟩
            · skip
              refine Exec.ifF rfl hb ?_
              refine Exec.run tyOk 400 rfl ?_
              exact Exec.round [(1, .v (.string ⟨⟨x3⟩⟩)), (2, .ptr 0 0), (5, .v (.int .i64 (x19))), (6, .v (.int .i64 (x9))), (7, .v (.string ⟨⟨(atI x1.Parts x9).From⟩⟩)), (8, .v (.int .i64 ((IntKind.i64.wrap (x20 + (1 : Int))))))] ⟨rfl, rfl, rfl, rfl, rfl, rfl, trivial⟩ ⟨n21, Nat.lt_succ_self _, x19, (IntKind.i64.wrap (x20 + (1 : Int))), rfl, rfl, h23, hF⟩
      · skip
        refine Exec.ifF rfl hb ?_
        refine Exec.run tyOk 400 rfl ?_
        refine Exec.cut 0 [(5, .v (.int .i64 (x8)))] (M' := []) rfl ⟨rfl, trivial⟩ rfl rfl rfl ?_
        exact Exec.round [(5, .v (.int .i64 (x8)))] ⟨rfl, trivial⟩ ⟨x8, rfl, rfl, hF⟩

def F_migrate_Start (x1 : TPlacement) (x3 : Int) (x4 : Int) : Option (TPlacement × Int) :=
  (bnd (F_placement_Valid x1) fun x5 => (cond (((!x5) || (decide (x4 < (1 : Int)))) || (decide ((16 : Int) < x4))) (some ((⟨0, ([] : List TPart)⟩ : TPlacement), (1 : Int))) (bnd (F_migrate_find x1 x3) fun x6 => (cond (decide (x6 < (0 : Int))) (some ((⟨0, ([] : List TPart)⟩ : TPlacement), (9 : Int))) (req (0 ≤ x6 ∧ x6 < ((x1.Parts).length : Int)) (cond (((atI x1.Parts x6).Dest != (0 : Int)) || ((atI x1.Parts x6).Node == x4)) (some ((⟨0, ([] : List TPart)⟩ : TPlacement), (19 : Int))) (cond (x1.Version == (1099511627776 : Int)) (some ((⟨0, ([] : List TPart)⟩ : TPlacement), (2 : Int))) (bnd (F_migrate_changed x1 x6 ((⟨(atI x1.Parts x6).Id, (atI x1.Parts x6).From, (atI x1.Parts x6).Node, x4, (atI x1.Parts x6).From⟩ : TPart))) fun x9 => (some (x9, (0 : Int)))))))))))

set_option maxRecDepth 100000 in
theorem W_migrate_Start {V : View} (x1 : TPlacement) (x3 : Int) (x4 : Int) {a2 : Option Addr} {k2 : Nat} (h2 : SlAt cTPart V a2 k2 x1.Parts) {r : TPlacement × Int} (hF : F_migrate_Start x1 x3 x4 = some r) :
    Spec Try.prog 10 [.agg ⟨[.int .i64 (x1.Version), .slice a2 ((x1.Parts).length) (k2)]⟩, .int .i64 (x3), .int .i64 (x4)] V (fun V' v => ∃ (a14 : Option Addr) (k14 : Nat), v = .tuple ⟨[.agg ⟨[.int .i64 (r.1.Version), .slice a14 ((r.1.Parts).length) (k14)]⟩, .int .i64 (r.2)]⟩ ∧ SlAt cTPart V' a14 k14 r.1.Parts) := by
  unfold F_migrate_Start at hF
  refine Spec.enter (T := tyT) Try.func10 rfl (by kernel_rfl) rfl rfl rfl ?_
  refine Exec.run tyOk 400 rfl ?_
  obtain ⟨x5, hx5, hF⟩ := bnd_some hF
  refine Exec.callS (.bool (x5)) rfl rfl (W_placement_Valid x1 h2 hx5) ?_
  refine Exec.run tyOk 400 rfl ?_
  rcases cond_some hF with ⟨hb, hF⟩ | ⟨hb, hF⟩
  · skip
    refine Exec.ifT rfl hb ?_
    refine Exec.run tyOk 400 rfl ?_
    obtain rfl := some_inj hF
    exact Exec.ret tyOk rfl rfl ⟨_, _, rfl, SlAt.nil⟩
  · skip
    refine Exec.ifF rfl hb ?_
    refine Exec.run tyOk 400 rfl ?_
    obtain ⟨x6, hx6, hF⟩ := bnd_some hF
    refine Exec.callS (.int .i64 (x6)) rfl rfl (W_migrate_find x1 x3 h2 hx6) ?_
    refine Exec.run tyOk 400 rfl ?_
    rcases cond_some hF with ⟨hb, hF⟩ | ⟨hb, hF⟩
    · skip
      refine Exec.ifT rfl hb ?_
      refine Exec.run tyOk 400 rfl ?_
      obtain rfl := some_inj hF
      exact Exec.ret tyOk rfl rfl ⟨_, _, rfl, SlAt.nil⟩
    · skip
      refine Exec.ifF rfl hb ?_
      refine Exec.run tyOk 400 rfl ?_
      obtain ⟨q7, hF⟩ := req_some hF
      obtain ⟨c8, hr8, hd8⟩ := SlAt.get h2 q7
      obtain rfl := hr8
      refine Exec.ia tyOk rfl rfl ⟨q7.1, q7.2, hd8.some⟩ ?_
      refine Exec.run tyOk 400 rfl ?_
      refine Exec.ld tyOk (x := .agg ⟨[.int .i64 ((atI x1.Parts x6).Id), .string ⟨⟨(atI x1.Parts x6).From⟩⟩, .int .i64 ((atI x1.Parts x6).Node), .int .i64 ((atI x1.Parts x6).Dest), .string ⟨⟨(atI x1.Parts x6).Done⟩⟩]⟩) rfl rfl hd8 rfl rfl ?_
      refine Exec.run tyOk 400 rfl ?_
      rcases cond_some hF with ⟨hb, hF⟩ | ⟨hb, hF⟩
      · skip
        refine Exec.ifT rfl hb ?_
        refine Exec.run tyOk 400 rfl ?_
        obtain rfl := some_inj hF
        exact Exec.ret tyOk rfl rfl ⟨_, _, rfl, SlAt.nil⟩
      · skip
        refine Exec.ifF rfl hb ?_
        refine Exec.run tyOk 400 rfl ?_
        rcases cond_some hF with ⟨hb, hF⟩ | ⟨hb, hF⟩
        · skip
          refine Exec.ifT rfl hb ?_
          refine Exec.run tyOk 400 rfl ?_
          obtain rfl := some_inj hF
          exact Exec.ret tyOk rfl rfl ⟨_, _, rfl, SlAt.nil⟩
        · skip
          refine Exec.ifF rfl hb ?_
          refine Exec.run tyOk 400 rfl ?_
          obtain ⟨x9, hx9, hF⟩ := bnd_some hF
          refine Exec.call rfl rfl (W_migrate_changed x1 x6 ((⟨(atI x1.Parts x6).Id, (atI x1.Parts x6).From, (atI x1.Parts x6).Node, x4, (atI x1.Parts x6).From⟩ : TPart)) h2 hx9) ?_
          rintro V11 _ hv11 ⟨a10, k10, rfl, h10⟩
          have h12 := SlAt.mono h2 hv11
          refine Exec.run tyOk 400 rfl ?_
          obtain rfl := some_inj hF
          exact Exec.ret tyOk rfl rfl ⟨_, _, rfl, h10⟩

def F_migrate_Moving_L1 (x1 : TPlacement) (J7 : (List Int) → Option (List Int)) : Nat → (List Int) → Int → Option (List Int)
  | 0, _, _ => none
  | n15 + 1, x13, x14 => (cond (decide (x14 < (((x1.Parts).length : Nat) : Int))) (req (0 ≤ x14 ∧ x14 < ((x1.Parts).length : Int)) (jn (fun (x21 : List Int) => (F_migrate_Moving_L1 x1 J7 n15 x21 ((IntKind.i64.wrap (x14 + (1 : Int)))))) (fun J22 => (cond ((atI x1.Parts x14).Dest != (0 : Int)) (req (((x13 ++ [(atI x1.Parts x14).Id])).length * 8 ≤ 140737488355328) (J22 ((x13 ++ [(atI x1.Parts x14).Id])))) (J22 x13))))) (J7 x13))

def F_migrate_Moving (x1 : TPlacement) : Option (List Int) :=
  (bnd (F_placement_Valid x1) fun x3 => (cond (!x3) (some ([] : List Int)) (jn (fun (x6 : List Int) => (some x6)) (fun J7 => (F_migrate_Moving_L1 x1 J7 (((((x1.Parts).length : Nat) : Int)).toNat + 1) (([] : List Int)) ((0 : Int)))))))

set_option maxRecDepth 100000 in
theorem W_migrate_Moving {V : View} (x1 : TPlacement) {a2 : Option Addr} {k2 : Nat} (h2 : SlAt cTPart V a2 k2 x1.Parts) {r : List Int} (hF : F_migrate_Moving x1 = some r) :
    Spec Try.prog 14 [.agg ⟨[.int .i64 (x1.Version), .slice a2 ((x1.Parts).length) (k2)]⟩] V (fun V' v => ∃ (a27 : Option Addr) (k27 : Nat), v = .slice a27 ((r).length) (k27) ∧ SlAt (cInt .i64) V' a27 k27 r) := by
  unfold F_migrate_Moving at hF
  refine Spec.enter (T := tyT) Try.func14 rfl (by kernel_rfl) rfl rfl rfl ?_
  refine Exec.run tyOk 400 rfl ?_
  obtain ⟨x3, hx3, hF⟩ := bnd_some hF
  refine Exec.callS (.bool (x3)) rfl rfl (W_placement_Valid x1 h2 hx3) ?_
  refine Exec.run tyOk 400 rfl ?_
  rcases cond_some hF with ⟨hb, hF⟩ | ⟨hb, hF⟩
  · skip
    refine Exec.ifT rfl hb ?_
    refine Exec.run tyOk 400 rfl ?_
    obtain rfl := some_inj hF
    exact Exec.ret tyOk rfl rfl ⟨_, _, rfl, SlAt.nil⟩
  · skip
    refine Exec.ifF rfl hb ?_
    refine Exec.run tyOk 13 rfl ?_
    refine Exec.row0 3 1 rfl ?_
    have h4 : RowRep (cInt .i64) V ([] : List Int) [] := RowRep.nil
    obtain ⟨J7, hJ7, hF⟩ := jn_some hF
    refine Exec.seam (fun L' V' M' => ∃ (x6 : List Int) (a5 : Option Addr) (k5 : Nat) (cs5 : List Value), L' = [(3, .v (.slice a5 ((x6).length) (k5)))] ∧ M' = [.blk [.v (.int .i64 (x1.Version)), .v (.slice a2 ((x1.Parts).length) (k2))] 24, .row (.slice a5 ((x6).length) (k5)) cs5 3 1] ∧ RowRep (cInt .i64) V' x6 cs5 ∧ SlAt cTPart V' a2 k2 x1.Parts ∧ J7 x6 = some r) rfl ?_ ?_
    · rintro L' V8 M' ⟨x6, a5, k5, cs5, rfl, rfl, h5, h9, hF⟩
      subst hJ7
      refine Exec.run tyOk 400 rfl ?_
      refine Exec.frz 1 rfl rfl rfl (fun V10 hv10 hd10 hn10 => ?_)
      have hz10 := RowRep.slat h5 hv10 hd10 hn10
      have h11 := SlAt.mono h9 hv10
      obtain rfl := some_inj hF
      exact Exec.ret tyOk rfl rfl ⟨_, _, rfl, hz10⟩
    · skip
      refine Exec.run tyOk 400 rfl ?_
      refine Exec.loop (fun n15 L' V' M' => ∃ (x13 : List Int) (a12 : Option Addr) (k12 : Nat) (cs12 : List Value) (x14 : Int), L' = [(3, .v (.slice a12 ((x13).length) (k12))), (10, .v (.slice a2 ((x1.Parts).length) (k2))), (11, .v (.int .i64 ((((x1.Parts).length : Nat) : Int)))), (12, .v (.int .i64 (x14)))] ∧ M' = [.blk [.v (.int .i64 (x1.Version)), .v (.slice a2 ((x1.Parts).length) (k2))] 24, .row (.slice a12 ((x13).length) (k12)) cs12 3 1] ∧ RowRep (cInt .i64) V' x13 cs12 ∧ SlAt cTPart V' a2 k2 x1.Parts ∧ F_migrate_Moving_L1 x1 J7 n15 x13 x14 = some r) ⟨(((((x1.Parts).length : Nat) : Int)).toNat + 1), [(3, .v (.slice none ((([] : List Int)).length) (0))), (10, .v (.slice a2 ((x1.Parts).length) (k2))), (11, .v (.int .i64 ((((x1.Parts).length : Nat) : Int)))), (12, .v (.int .i64 ((0 : Int))))], ⟨rfl, rfl, rfl, rfl, trivial⟩, ([] : List Int), none, 0, [], (0 : Int), rfl, rfl, h4, h2, hF⟩ ?_
      rintro n15 L' V16 M' ⟨x13, a12, k12, cs12, x14, rfl, rfl, h12, h17, hF⟩
      rcases n15 with _ | n15
      · exact absurd hF (by simp [F_migrate_Moving_L1])
      rw [F_migrate_Moving_L1] at hF
      refine Exec.run tyOk 400 rfl ?_
      rcases cond_some hF with ⟨hb, hF⟩ | ⟨hb, hF⟩
      · skip
        refine Exec.ifT rfl hb ?_
        refine Exec.run tyOk 400 rfl ?_
        obtain ⟨q18, hF⟩ := req_some hF
        obtain ⟨c19, hr19, hd19⟩ := SlAt.get h17 q18
        obtain rfl := hr19
        refine Exec.ia tyOk rfl rfl ⟨q18.1, q18.2, hd19.some⟩ ?_
        refine Exec.run tyOk 400 rfl ?_
        refine Exec.ld tyOk (x := .agg ⟨[.int .i64 ((atI x1.Parts x14).Id), .string ⟨⟨(atI x1.Parts x14).From⟩⟩, .int .i64 ((atI x1.Parts x14).Node), .int .i64 ((atI x1.Parts x14).Dest), .string ⟨⟨(atI x1.Parts x14).Done⟩⟩]⟩) rfl rfl hd19 rfl rfl ?_
        refine Exec.run tyOk 400 rfl ?_
        obtain ⟨J22, hJ22, hF⟩ := jn_some hF
        refine Exec.seam (fun L' V' M' => ∃ (x21 : List Int) (a20 : Option Addr) (k20 : Nat) (cs20 : List Value), L' = [(3, .v (.slice a20 ((x21).length) (k20))), (10, .v (.slice a2 ((x1.Parts).length) (k2))), (11, .v (.int .i64 ((((x1.Parts).length : Nat) : Int)))), (12, .v (.int .i64 (x14)))] ∧ M' = [.blk [.v (.int .i64 (x1.Version)), .v (.slice a2 ((x1.Parts).length) (k2))] 24, .row (.slice a20 ((x21).length) (k20)) cs20 3 1] ∧ RowRep (cInt .i64) V' x21 cs20 ∧ SlAt cTPart V' a2 k2 x1.Parts ∧ J22 x21 = some r) rfl ?_ ?_
        · rintro L' V23 M' ⟨x21, a20, k20, cs20, rfl, rfl, h20, h24, hF⟩
          subst hJ22
          refine Exec.run tyOk 400 rfl ?_
          exact Exec.round [(3, .v (.slice a20 ((x21).length) (k20))), (10, .v (.slice a2 ((x1.Parts).length) (k2))), (11, .v (.int .i64 ((((x1.Parts).length : Nat) : Int)))), (12, .v (.int .i64 ((IntKind.i64.wrap (x14 + (1 : Int))))))] ⟨rfl, rfl, rfl, rfl, trivial⟩ ⟨n15, Nat.lt_succ_self _, x21, a20, k20, cs20, (IntKind.i64.wrap (x14 + (1 : Int))), rfl, rfl, h20, h24, hF⟩
        · skip
          refine Exec.run tyOk 400 rfl ?_
          rcases cond_some hF with ⟨hb, hF⟩ | ⟨hb, hF⟩
          · skip
            refine Exec.ifT rfl hb ?_
            refine Exec.run tyOk 400 rfl ?_
            refine Exec.bsl tyOk rfl rfl ?_
            refine Exec.run tyOk 400 rfl ?_
            obtain ⟨q26, hF⟩ := req_some hF
            refine Exec.app tyOk 1 3 (nm := ((x13 ++ [(atI x1.Parts x14).Id])).length) rfl rfl rfl rfl rfl rfl rfl rfl rfl (by simp) (fun _ _ => rfl) rfl q26 (fun a25 k25 => ?_)
            have h25 : RowRep (cInt .i64) V16 (x13 ++ [(atI x1.Parts x14).Id]) (cs12 ++ [.int .i64 ((atI x1.Parts x14).Id)]) := RowRep.app h12 ⟨_, _, rfl, rfl, rfl⟩
            refine Exec.run tyOk 400 rfl ?_
            refine Exec.cut 2 [(3, .v (.slice a25 (((x13 ++ [(atI x1.Parts x14).Id])).length) (k25))), (10, .v (.slice a2 ((x1.Parts).length) (k2))), (11, .v (.int .i64 ((((x1.Parts).length : Nat) : Int)))), (12, .v (.int .i64 (x14)))] (M' := [.blk [.v (.int .i64 (x1.Version)), .v (.slice a2 ((x1.Parts).length) (k2))] 24, .row (.slice a25 (((x13 ++ [(atI x1.Parts x14).Id])).length) (k25)) ((cs12 ++ [.int .i64 ((atI x1.Parts x14).Id)])) 3 1]) rfl ⟨rfl, rfl, rfl, rfl, trivial⟩ rfl rfl rfl ?_
            exact Exec.round [(3, .v (.slice a25 (((x13 ++ [(atI x1.Parts x14).Id])).length) (k25))), (10, .v (.slice a2 ((x1.Parts).length) (k2))), (11, .v (.int .i64 ((((x1.Parts).length : Nat) : Int)))), (12, .v (.int .i64 (x14)))] ⟨rfl, rfl, rfl, rfl, trivial⟩ ⟨(x13 ++ [(atI x1.Parts x14).Id]), a25, k25, (cs12 ++ [.int .i64 ((atI x1.Parts x14).Id)]), rfl, rfl, h25, h17, hF⟩
          · skip
            refine Exec.ifF rfl hb ?_
            refine Exec.run tyOk 400 rfl ?_
            refine Exec.cut 2 [(3, .v (.slice a12 ((x13).length) (k12))), (10, .v (.slice a2 ((x1.Parts).length) (k2))), (11, .v (.int .i64 ((((x1.Parts).length : Nat) : Int)))), (12, .v (.int .i64 (x14)))] (M' := [.blk [.v (.int .i64 (x1.Version)), .v (.slice a2 ((x1.Parts).length) (k2))] 24, .row (.slice a12 ((x13).length) (k12)) cs12 3 1]) rfl ⟨rfl, rfl, rfl, rfl, trivial⟩ rfl rfl rfl ?_
            exact Exec.round [(3, .v (.slice a12 ((x13).length) (k12))), (10, .v (.slice a2 ((x1.Parts).length) (k2))), (11, .v (.int .i64 ((((x1.Parts).length : Nat) : Int)))), (12, .v (.int .i64 (x14)))] ⟨rfl, rfl, rfl, rfl, trivial⟩ ⟨x13, a12, k12, cs12, rfl, rfl, h12, h17, hF⟩
      · skip
        refine Exec.ifF rfl hb ?_
        refine Exec.run tyOk 400 rfl ?_
        exact Exec.round [(3, .v (.slice a12 ((x13).length) (k12)))] ⟨rfl, trivial⟩ ⟨x13, a12, k12, cs12, rfl, rfl, h12, h17, hF⟩

def F_state_Valid (x1 : List TPair) : Option Bool :=
  (bnd (F_state_sorted x1) fun x3 => (bnd (gcall ((x3) == true) (F_slices_ContainsFunc_api_Pair_api_Pair x1 (fun y0 => F_state_absent y0 ))) fun x4 => (some (x3 && (!x4)))))

set_option maxRecDepth 100000 in
theorem W_state_Valid {V : View} (x1 : List TPair) {a2 : Option Addr} {k2 : Nat} (h2 : SlAt cTPair V a2 k2 x1) {r : Bool} (hF : F_state_Valid x1 = some r) :
    Spec Try.prog 34 [.slice a2 ((x1).length) (k2)] V (fun _ v => v = .bool (r)) := by
  unfold F_state_Valid at hF
  refine Spec.enter (T := tyT) Try.func34 rfl (by kernel_rfl) rfl rfl rfl ?_
  refine Exec.run tyOk 400 rfl ?_
  obtain ⟨x3, hx3, hF⟩ := bnd_some hF
  refine Exec.callS (.bool (x3)) rfl rfl (W_state_sorted x1 h2 hx3) ?_
  refine Exec.run tyOk 400 rfl ?_
  obtain ⟨x4, hx4, hF⟩ := bnd_some hF
  refine Exec.callS (.bool (x4)) rfl rfl (fun gg0 => W_slices_ContainsFunc_api_Pair_api_Pair x1 (fun y0 => F_state_absent y0 ) h2 (fun V' hv y0 r hr => W_state_absent y0   hr) (gcall_some hx4 (gd1_of gg0))) ?_
  refine Exec.run tyOk 400 rfl ?_
  obtain rfl := some_inj hF
  exact Exec.ret tyOk rfl rfl rfl

def F_state_Slice_L1 (x1 : List TPair) (x3 : TRange) (J7 : (List TPair) → Option (List TPair)) : Nat → (List TPair) → Int → Option (List TPair)
  | 0, _, _ => none
  | n13 + 1, x11, x12 => (cond (decide (x12 < (((x1).length : Nat) : Int))) (req (0 ≤ x12 ∧ x12 < ((x1).length : Int)) (bnd (F_keys_Contains x3 ((atI x1 x12).Key)) fun x18 => (jn (fun (x20 : List TPair) => (F_state_Slice_L1 x1 x3 J7 n13 x20 ((IntKind.i64.wrap (x12 + (1 : Int)))))) (fun J21 => (cond x18 (req (((x11 ++ [(atI x1 x12)])).length * 48 ≤ 140737488355328) (J21 ((x11 ++ [(atI x1 x12)])))) (J21 x11)))))) (J7 x11))

def F_state_Slice (x1 : List TPair) (x3 : TRange) : Option (List TPair) :=
  (jn (fun (x6 : List TPair) => (some x6)) (fun J7 => (F_state_Slice_L1 x1 x3 J7 (((((x1).length : Nat) : Int)).toNat + 1) (([] : List TPair)) ((0 : Int)))))

set_option maxRecDepth 100000 in
theorem W_state_Slice {V : View} (x1 : List TPair) (x3 : TRange) {a2 : Option Addr} {k2 : Nat} (h2 : SlAt cTPair V a2 k2 x1) {r : List TPair} (hF : F_state_Slice x1 x3 = some r) :
    Spec Try.prog 36 [.slice a2 ((x1).length) (k2), .agg ⟨[.string ⟨⟨x3.From⟩⟩, .string ⟨⟨x3.To⟩⟩]⟩] V (fun V' v => ∃ (a26 : Option Addr) (k26 : Nat), v = .slice a26 ((r).length) (k26) ∧ SlAt cTPair V' a26 k26 r) := by
  unfold F_state_Slice at hF
  refine Spec.enter (T := tyT) Try.func36 rfl (by kernel_rfl) rfl rfl rfl ?_
  refine Exec.run tyOk 16 rfl ?_
  refine Exec.row0 68 4 rfl ?_
  have h4 : RowRep cTPair V ([] : List TPair) [] := RowRep.nil
  obtain ⟨J7, hJ7, hF⟩ := jn_some hF
  refine Exec.seam (fun L' V' M' => ∃ (x6 : List TPair) (a5 : Option Addr) (k5 : Nat) (cs5 : List Value), L' = [(5, .v (.slice a5 ((x6).length) (k5)))] ∧ M' = [.blk [.v (.string ⟨⟨x3.From⟩⟩), .v (.string ⟨⟨x3.To⟩⟩)] 39, .row (.slice a5 ((x6).length) (k5)) cs5 68 4] ∧ RowRep cTPair V' x6 cs5 ∧ J7 x6 = some r) rfl ?_ ?_
  · rintro L' V8 M' ⟨x6, a5, k5, cs5, rfl, rfl, h5, hF⟩
    subst hJ7
    refine Exec.run tyOk 400 rfl ?_
    refine Exec.frz 1 rfl rfl rfl (fun V9 hv9 hd9 hn9 => ?_)
    have hz9 := RowRep.slat h5 hv9 hd9 hn9
    obtain rfl := some_inj hF
    exact Exec.ret tyOk rfl rfl ⟨_, _, rfl, hz9⟩
  · skip
    refine Exec.run tyOk 400 rfl ?_
    refine Exec.loop (fun n13 L' V' M' => ∃ (x11 : List TPair) (a10 : Option Addr) (k10 : Nat) (cs10 : List Value) (x12 : Int), L' = [(3, .ptr 0 0), (5, .v (.slice a10 ((x11).length) (k10))), (8, .v (.slice a2 ((x1).length) (k2))), (9, .v (.int .i64 ((((x1).length : Nat) : Int)))), (10, .v (.int .i64 (x12)))] ∧ M' = [.blk [.v (.string ⟨⟨x3.From⟩⟩), .v (.string ⟨⟨x3.To⟩⟩)] 39, .row (.slice a10 ((x11).length) (k10)) cs10 68 4] ∧ RowRep cTPair V' x11 cs10 ∧ SlAt cTPair V' a2 k2 x1 ∧ F_state_Slice_L1 x1 x3 J7 n13 x11 x12 = some r) ⟨(((((x1).length : Nat) : Int)).toNat + 1), [(3, .ptr 0 0), (5, .v (.slice none ((([] : List TPair)).length) (0))), (8, .v (.slice a2 ((x1).length) (k2))), (9, .v (.int .i64 ((((x1).length : Nat) : Int)))), (10, .v (.int .i64 ((0 : Int))))], ⟨rfl, rfl, rfl, rfl, rfl, trivial⟩, ([] : List TPair), none, 0, [], (0 : Int), rfl, rfl, h4, h2, hF⟩ ?_
    rintro n13 L' V14 M' ⟨x11, a10, k10, cs10, x12, rfl, rfl, h10, h15, hF⟩
    rcases n13 with _ | n13
    · exact absurd hF (by simp [F_state_Slice_L1])
    rw [F_state_Slice_L1] at hF
    refine Exec.run tyOk 400 rfl ?_
    rcases cond_some hF with ⟨hb, hF⟩ | ⟨hb, hF⟩
    · skip
      refine Exec.ifT rfl hb ?_
      refine Exec.run tyOk 400 rfl ?_
      obtain ⟨q16, hF⟩ := req_some hF
      obtain ⟨c17, hr17, hd17⟩ := SlAt.get h15 q16
      obtain rfl := hr17
      refine Exec.ia tyOk rfl rfl ⟨q16.1, q16.2, hd17.some⟩ ?_
      refine Exec.run tyOk 400 rfl ?_
      refine Exec.ld tyOk (x := .agg ⟨[.string ⟨⟨(atI x1 x12).Key⟩⟩, .int .i64 ((atI x1 x12).Val.Kind), .int .i64 ((atI x1 x12).Val.N), .string ⟨⟨(atI x1 x12).Val.S⟩⟩]⟩) rfl rfl hd17 rfl rfl ?_
      refine Exec.run tyOk 400 rfl ?_
      obtain ⟨x18, hx18, hF⟩ := bnd_some hF
      refine Exec.callS (.bool (x18)) rfl rfl (W_keys_Contains x3 ((atI x1 x12).Key)  hx18) ?_
      refine Exec.run tyOk 400 rfl ?_
      obtain ⟨J21, hJ21, hF⟩ := jn_some hF
      refine Exec.seam (fun L' V' M' => ∃ (x20 : List TPair) (a19 : Option Addr) (k19 : Nat) (cs19 : List Value), L' = [(3, .ptr 0 0), (5, .v (.slice a19 ((x20).length) (k19))), (8, .v (.slice a2 ((x1).length) (k2))), (9, .v (.int .i64 ((((x1).length : Nat) : Int)))), (10, .v (.int .i64 (x12)))] ∧ M' = [.blk [.v (.string ⟨⟨x3.From⟩⟩), .v (.string ⟨⟨x3.To⟩⟩)] 39, .row (.slice a19 ((x20).length) (k19)) cs19 68 4] ∧ RowRep cTPair V' x20 cs19 ∧ SlAt cTPair V' a2 k2 x1 ∧ J21 x20 = some r) rfl ?_ ?_
      · rintro L' V22 M' ⟨x20, a19, k19, cs19, rfl, rfl, h19, h23, hF⟩
        subst hJ21
        refine Exec.run tyOk 400 rfl ?_
        exact Exec.round [(3, .ptr 0 0), (5, .v (.slice a19 ((x20).length) (k19))), (8, .v (.slice a2 ((x1).length) (k2))), (9, .v (.int .i64 ((((x1).length : Nat) : Int)))), (10, .v (.int .i64 ((IntKind.i64.wrap (x12 + (1 : Int))))))] ⟨rfl, rfl, rfl, rfl, rfl, trivial⟩ ⟨n13, Nat.lt_succ_self _, x20, a19, k19, cs19, (IntKind.i64.wrap (x12 + (1 : Int))), rfl, rfl, h19, h23, hF⟩
      · skip
        refine Exec.run tyOk 400 rfl ?_
        rcases cond_some hF with ⟨hb, hF⟩ | ⟨hb, hF⟩
        · skip
          refine Exec.ifT rfl hb ?_
          refine Exec.run tyOk 400 rfl ?_
          refine Exec.bsl tyOk rfl rfl ?_
          refine Exec.run tyOk 400 rfl ?_
          obtain ⟨q25, hF⟩ := req_some hF
          refine Exec.app tyOk 1 3 (nm := ((x11 ++ [(atI x1 x12)])).length) rfl rfl rfl rfl rfl rfl rfl rfl rfl (by simp) (fun _ _ => rfl) rfl q25 (fun a24 k24 => ?_)
          have h24 : RowRep cTPair V14 (x11 ++ [(atI x1 x12)]) (cs10 ++ [.string ⟨⟨(atI x1 x12).Key⟩⟩, .int .i64 ((atI x1 x12).Val.Kind), .int .i64 ((atI x1 x12).Val.N), .string ⟨⟨(atI x1 x12).Val.S⟩⟩]) := RowRep.app h10 ⟨_, _, rfl, rfl, rfl⟩
          refine Exec.run tyOk 400 rfl ?_
          refine Exec.cut 2 [(3, .ptr 0 0), (5, .v (.slice a24 (((x11 ++ [(atI x1 x12)])).length) (k24))), (8, .v (.slice a2 ((x1).length) (k2))), (9, .v (.int .i64 ((((x1).length : Nat) : Int)))), (10, .v (.int .i64 (x12)))] (M' := [.blk [.v (.string ⟨⟨x3.From⟩⟩), .v (.string ⟨⟨x3.To⟩⟩)] 39, .row (.slice a24 (((x11 ++ [(atI x1 x12)])).length) (k24)) ((cs10 ++ [.string ⟨⟨(atI x1 x12).Key⟩⟩, .int .i64 ((atI x1 x12).Val.Kind), .int .i64 ((atI x1 x12).Val.N), .string ⟨⟨(atI x1 x12).Val.S⟩⟩])) 68 4]) rfl ⟨rfl, rfl, rfl, rfl, rfl, trivial⟩ rfl rfl rfl ?_
          exact Exec.round [(3, .ptr 0 0), (5, .v (.slice a24 (((x11 ++ [(atI x1 x12)])).length) (k24))), (8, .v (.slice a2 ((x1).length) (k2))), (9, .v (.int .i64 ((((x1).length : Nat) : Int)))), (10, .v (.int .i64 (x12)))] ⟨rfl, rfl, rfl, rfl, rfl, trivial⟩ ⟨(x11 ++ [(atI x1 x12)]), a24, k24, (cs10 ++ [.string ⟨⟨(atI x1 x12).Key⟩⟩, .int .i64 ((atI x1 x12).Val.Kind), .int .i64 ((atI x1 x12).Val.N), .string ⟨⟨(atI x1 x12).Val.S⟩⟩]), rfl, rfl, h24, h15, hF⟩
        · skip
          refine Exec.ifF rfl hb ?_
          refine Exec.run tyOk 400 rfl ?_
          refine Exec.cut 2 [(3, .ptr 0 0), (5, .v (.slice a10 ((x11).length) (k10))), (8, .v (.slice a2 ((x1).length) (k2))), (9, .v (.int .i64 ((((x1).length : Nat) : Int)))), (10, .v (.int .i64 (x12)))] (M' := [.blk [.v (.string ⟨⟨x3.From⟩⟩), .v (.string ⟨⟨x3.To⟩⟩)] 39, .row (.slice a10 ((x11).length) (k10)) cs10 68 4]) rfl ⟨rfl, rfl, rfl, rfl, rfl, trivial⟩ rfl rfl rfl ?_
          exact Exec.round [(3, .ptr 0 0), (5, .v (.slice a10 ((x11).length) (k10))), (8, .v (.slice a2 ((x1).length) (k2))), (9, .v (.int .i64 ((((x1).length : Nat) : Int)))), (10, .v (.int .i64 (x12)))] ⟨rfl, rfl, rfl, rfl, rfl, trivial⟩ ⟨x11, a10, k10, cs10, rfl, rfl, h10, h15, hF⟩
    · skip
      refine Exec.ifF rfl hb ?_
      refine Exec.run tyOk 400 rfl ?_
      exact Exec.round [(5, .v (.slice a10 ((x11).length) (k10)))] ⟨rfl, trivial⟩ ⟨x11, a10, k10, cs10, rfl, rfl, h10, hF⟩

-- uses W_state_merge_api_Pair
def unRel (b0 b2 : Nat) (_V : View) (s : List TPair × Bool) (r0 r1 r2 : RowD) : Prop :=
  ∃ a k cs, r0 = ⟨.slice (some ⟨b0, 0, none⟩) 1 1, [.slice a s.1.length k], 35, 1⟩ ∧ r1 = ⟨.slice a s.1.length k, cs, 68, 4⟩ ∧
    r2 = ⟨.slice (some ⟨b2, 0, none⟩) 1 1, [.bool s.2], 4, 1⟩ ∧ RowRep cTPair _V s.1 cs

def unKeep (s : List TPair × Bool) (y : TPair) : Option (List TPair × Bool) := req ((s.1 ++ [y]).length * 48 ≤ 140737488355328) (some (s.1 ++ [y], s.2))
def unTwice (s : List TPair × Bool) (_ _ : TPair) : Option (List TPair × Bool) := some (s.1, true)

set_option maxRecDepth 100000 in
theorem X_Union1 {V : View} (b0 b2 : Nat) : FnSt1 Try.prog 61 [.pointer (some ⟨b0, 0, none⟩)] V mkPair (unRel b0 b2) unKeep := by
  intro V1 hv s r0 r1 r2 y s' ⟨a, k, cs, h0, h1, h2, hrep⟩ hg
  subst h0; subst h1; subst h2
  obtain ⟨l, t⟩ := s
  unfold unKeep at hg
  obtain ⟨q, hg⟩ := req_some hg
  obtain rfl := some_inj hg
  refine SpecR.enter (T := tyT) Try.func61 rfl (by kernel_rfl) rfl rfl rfl (M := [.row (.slice (some ⟨b0, 0, none⟩) 1 1) [.slice a l.length k] 35 1, .row (.slice a l.length k) cs 68 4, .row (.slice (some ⟨b2, 0, none⟩) 1 1) [.bool t] 4 1]) rfl ?_
  refine Exec.run tyOk 400 rfl ?_
  refine Exec.ldR tyOk 0 (l := [.slice a l.length k]) rfl rfl rfl ⟨fun j v hv => by simpa using hv, b0, 0, rfl⟩ rfl rfl ?_
  refine Exec.run tyOk 400 rfl ?_
  refine Exec.bsl tyOk rfl rfl ?_
  refine Exec.run tyOk 400 rfl ?_
  refine Exec.app tyOk 1 4 (nm := (l ++ [y]).length) rfl rfl rfl rfl rfl rfl rfl rfl rfl (by simp) (fun _ _ => rfl) rfl q (fun a3 k3 => ?_)
  refine Exec.run tyOk 400 rfl ?_
  refine Exec.stR tyOk 0 rfl rfl rfl rfl rfl ⟨b0, 0, rfl⟩ (Nat.le_refl _) rfl rfl rfl ?_
  refine Exec.run tyOk 400 rfl ?_
  refine Exec.fall tyOk rfl rfl ?_
  dsimp only
  exact ⟨[⟨.slice (some ⟨b0, 0, none⟩) 1 1, [.slice a3 (l ++ [y]).length k3], _, 1⟩, ⟨.slice a3 (l ++ [y]).length k3, _, _, 4⟩, ⟨.slice (some ⟨b2, 0, none⟩) 1 1, [.bool t], _, 1⟩], rfl, rfl, rfl, _, _, _, rfl, a3, k3, _, rfl, rfl, rfl, RowRep.app hrep ⟨_, _, rfl, rfl, rfl⟩⟩

set_option maxRecDepth 100000 in
theorem X_Union2 {V : View} (b0 b2 : Nat) : FnSt2 Try.prog 64 [.pointer (some ⟨b2, 0, none⟩)] V mkPair mkPair (unRel b0 b2) unTwice := by
  intro V1 hv s r0 r1 r2 y y2 s' ⟨a, k, cs, h0, h1, h2, hrep⟩ hg
  subst h0; subst h1; subst h2
  obtain ⟨l, t⟩ := s
  unfold unTwice at hg
  obtain rfl := some_inj hg
  refine SpecR.enter (T := tyT) Try.func64 rfl (by kernel_rfl) rfl rfl rfl (M := [.row (.slice (some ⟨b0, 0, none⟩) 1 1) [.slice a l.length k] 35 1, .row (.slice a l.length k) cs 68 4, .row (.slice (some ⟨b2, 0, none⟩) 1 1) [.bool t] 4 1]) rfl ?_
  refine Exec.run tyOk 400 rfl ?_
  refine Exec.stR tyOk 2 rfl rfl rfl rfl rfl ⟨b2, 0, rfl⟩ (Nat.le_refl _) rfl rfl rfl ?_
  refine Exec.run tyOk 400 rfl ?_
  refine Exec.fall tyOk rfl rfl ?_
  dsimp only
  exact ⟨[⟨.slice (some ⟨b0, 0, none⟩) 1 1, [.slice a l.length k], _, 1⟩, ⟨.slice a l.length k, cs, _, 4⟩, ⟨.slice (some ⟨b2, 0, none⟩) 1 1, [.bool true], _, 1⟩], rfl, rfl, rfl, _, _, _, rfl, a, k, cs, rfl, rfl, rfl, hrep⟩

def F_state_Union (x1 x3 : List TPair) : Option (List TPair × Int) :=
  bnd (F_state_Valid x1) fun x5 => bnd (gcall ((!x5) == false) (F_state_Valid x3)) fun x6 => cond ((!x5) || (!x6)) (some ([], 1))
    (bnd (mergeF x1 x3 F_state_order unKeep unKeep unTwice ([], false)) fun s => cond s.2 (some ([], 8)) (some (s.1, 0)))

set_option maxRecDepth 100000 in
theorem W_state_Union {V : View} (x1 : List TPair) (x3 : List TPair) {a2 : Option Addr} {k2 : Nat} {a4 : Option Addr} {k4 : Nat} (h2 : SlAt cTPair V a2 k2 x1) (h4 : SlAt cTPair V a4 k4 x3) {r : List TPair × Int} (hF : F_state_Union x1 x3 = some r) :
    Spec Try.prog 38 [.slice a2 ((x1).length) (k2), .slice a4 ((x3).length) (k4)] V (fun V' v => ∃ (a22 : Option Addr) (k22 : Nat), v = .tuple ⟨[.slice a22 ((r.1).length) (k22), .int .i64 (r.2)]⟩ ∧ SlAt cTPair V' a22 k22 r.1) := by
  unfold F_state_Union at hF
  refine Spec.enter (T := tyT) Try.func38 rfl (by kernel_rfl) rfl rfl rfl ?_
  refine Exec.run tyOk 400 rfl ?_
  obtain ⟨x5, hx5, hF⟩ := bnd_some hF
  refine Exec.callS (.bool (x5)) rfl rfl (W_state_Valid x1 h2 hx5) ?_
  refine Exec.run tyOk 400 rfl ?_
  obtain ⟨x6, hx6, hF⟩ := bnd_some hF
  refine Exec.callS (.bool (x6)) rfl rfl (fun gg0 => W_state_Valid x3 h4 (gcall_some hx6 (gd1_of gg0))) ?_
  refine Exec.run tyOk 400 rfl ?_
  rcases cond_some hF with ⟨hb, hF⟩ | ⟨hb, hF⟩
  · skip
    refine Exec.ifT rfl hb ?_
    refine Exec.run tyOk 400 rfl ?_
    obtain rfl := some_inj hF
    exact Exec.ret tyOk rfl rfl ⟨_, _, rfl, SlAt.nil⟩
  · skip
    refine Exec.ifF rfl hb ?_
    refine Exec.run tyOk 400 rfl ?_
    refine Exec.fixR 0 (n := 1) (sz := 1) rfl rfl rfl rfl rfl (fun _ => rfl) (fun _ => rfl) (fun _ => rfl) (fun b0 => ?_)
    refine Exec.mkf rfl rfl ?_
    refine Exec.run tyOk 400 rfl ?_
    refine Exec.fixR 1 (n := 1) (sz := 1) rfl rfl rfl rfl rfl (fun _ => rfl) (fun _ => rfl) (fun _ => rfl) (fun b2 => ?_)
    refine Exec.mkf rfl rfl ?_
    refine Exec.row0 68 4 rfl ?_
    obtain ⟨s, hs, hF⟩ := bnd_some hF
    refine Exec.callR [0, 2, 1] (rs := [⟨.slice (some ⟨b0, 0, none⟩) 1 1, [.slice none 0 0], 35, 1⟩, ⟨.slice none 0 0, [], 68, 4⟩, ⟨.slice (some ⟨b2, 0, none⟩) 1 1, [.bool false], 4, 1⟩]) rfl rfl rfl rfl rfl rfl
      (X_merge (rel := unRel b0 b2) x1 x3 F_state_order unKeep unKeep unTwice h2 h4 (fun V' hv y0 y1 r hr => W_state_order y0 y1 hr) (X_Union1 b0 b2) (X_Union1 b0 b2) (X_Union2 b0 b2) (s := ([], false)) ⟨none, 0, [], rfl, rfl, rfl, RowRep.nil⟩ hs) ?_
    rintro V7 _ _ hv7 ⟨rfl, q0, q1, q2, rfl, a, k, cs, rfl, rfl, rfl, hrep⟩
    refine ⟨_, rfl, ?_⟩
    refine Exec.run tyOk 400 rfl ?_
    refine Exec.ldR tyOk 1 (l := [.bool s.2]) rfl rfl rfl ⟨fun j v hv => by simpa using hv, b2, 0, rfl⟩ rfl rfl ?_
    refine Exec.run tyOk 400 rfl ?_
    rcases cond_some hF with ⟨hb, hF⟩ | ⟨hb, hF⟩
    · skip
      refine Exec.ifT rfl hb ?_
      refine Exec.run tyOk 400 rfl ?_
      obtain rfl := some_inj hF
      exact Exec.ret tyOk rfl rfl ⟨_, _, rfl, SlAt.nil⟩
    · skip
      refine Exec.ifF rfl hb ?_
      refine Exec.run tyOk 400 rfl ?_
      refine Exec.ldR tyOk 0 (l := [.slice a s.1.length k]) rfl rfl rfl ⟨fun j v hv => by simpa using hv, b0, 0, rfl⟩ rfl rfl ?_
      refine Exec.run tyOk 400 rfl ?_
      refine Exec.frz 2 rfl rfl rfl (fun V13 hv13 hd13 hn13 => ?_)
      have hz13 := RowRep.slat hrep hv13 hd13 hn13
      obtain rfl := some_inj hF
      exact Exec.ret tyOk rfl rfl ⟨_, _, rfl, hz13⟩


def F_clockworkref06_Valid_L1 (x1 : List TPair) (J3 : Option Bool) : Nat → Int → Option Bool
  | 0, _ => none
  | n8 + 1, x7 => (cond (decide (x7 < (((x1).length : Nat) : Int))) (req (0 ≤ x7 ∧ x7 < ((x1).length : Int)) (cond ((atI x1 x7).Val.Kind == (0 : Int)) (some false) (F_clockworkref06_Valid_L1 x1 J3 n8 ((IntKind.i64.wrap (x7 + (1 : Int))))))) J3)

def F_clockworkref06_Valid (x1 : List TPair) : Option Bool :=
  (jn ((bnd (F_clockworkref06_ValidWrites x1) fun x6 => (some x6))) (fun J3 => (F_clockworkref06_Valid_L1 x1 J3 (((((x1).length : Nat) : Int)).toNat + 1) ((0 : Int)))))

set_option maxRecDepth 100000 in
theorem W_clockworkref06_Valid {V : View} (x1 : List TPair) {a2 : Option Addr} {k2 : Nat} (h2 : SlAt cTPair V a2 k2 x1) {r : Bool} (hF : F_clockworkref06_Valid x1 = some r) :
    Spec Try.prog 39 [.slice a2 ((x1).length) (k2)] V (fun _ v => v = .bool (r)) := by
  unfold F_clockworkref06_Valid at hF
  refine Spec.enter (T := tyT) Try.func39 rfl (by kernel_rfl) rfl rfl rfl ?_
  refine Exec.run tyOk 9 rfl ?_
  obtain ⟨J3, hJ3, hF⟩ := jn_some hF
  refine Exec.seam (fun L' V' M' => L' = [(0, .v (.slice a2 ((x1).length) (k2)))] ∧ M' = [] ∧ SlAt cTPair V' a2 k2 x1 ∧ J3 = some r) rfl ?_ ?_
  · rintro L' V4 M' ⟨rfl, rfl, h5, hF⟩
    subst hJ3
    refine Exec.run tyOk 400 rfl ?_
    obtain ⟨x6, hx6, hF⟩ := bnd_some hF
    refine Exec.callS (.bool (x6)) rfl rfl (W_clockworkref06_ValidWrites x1 h5 hx6) ?_
    refine Exec.run tyOk 400 rfl ?_
    obtain rfl := some_inj hF
    exact Exec.ret tyOk rfl rfl rfl
  · skip
    refine Exec.run tyOk 400 rfl ?_
    refine Exec.loop (fun n8 L' V' M' => ∃ (x7 : Int), L' = [(0, .v (.slice a2 ((x1).length) (k2))), (3, .v (.int .i64 (x7)))] ∧ M' = [] ∧ SlAt cTPair V' a2 k2 x1 ∧ F_clockworkref06_Valid_L1 x1 J3 n8 x7 = some r) ⟨(((((x1).length : Nat) : Int)).toNat + 1), [(0, .v (.slice a2 ((x1).length) (k2))), (3, .v (.int .i64 ((0 : Int))))], ⟨rfl, rfl, trivial⟩, (0 : Int), rfl, rfl, h2, hF⟩ ?_
    rintro n8 L' V9 M' ⟨x7, rfl, rfl, h10, hF⟩
    rcases n8 with _ | n8
    · exact absurd hF (by simp [F_clockworkref06_Valid_L1])
    rw [F_clockworkref06_Valid_L1] at hF
    refine Exec.run tyOk 400 rfl ?_
    rcases cond_some hF with ⟨hb, hF⟩ | ⟨hb, hF⟩
    · skip
      refine Exec.ifT rfl hb ?_
      refine Exec.run tyOk 400 rfl ?_
      obtain ⟨q11, hF⟩ := req_some hF
      obtain ⟨c12, hr12, hd12⟩ := SlAt.get h10 q11
      obtain rfl := hr12
      refine Exec.ia tyOk rfl rfl ⟨q11.1, q11.2, hd12.some⟩ ?_
      refine Exec.run tyOk 400 rfl ?_
      refine Exec.ld tyOk (x := .int .i64 ((atI x1 x7).Val.Kind)) rfl rfl (RdAt.part hd12 1 1 rfl) rfl rfl ?_
      refine Exec.run tyOk 400 rfl ?_
      rcases cond_some hF with ⟨hb, hF⟩ | ⟨hb, hF⟩
      · skip
        refine Exec.ifT rfl hb ?_
        refine Exec.run tyOk 400 rfl ?_
        obtain rfl := some_inj hF
        exact Exec.ret tyOk rfl rfl rfl
      · skip
        refine Exec.ifF rfl hb ?_
        refine Exec.run tyOk 400 rfl ?_
        exact Exec.round [(0, .v (.slice a2 ((x1).length) (k2))), (3, .v (.int .i64 ((IntKind.i64.wrap (x7 + (1 : Int))))))] ⟨rfl, rfl, trivial⟩ ⟨n8, Nat.lt_succ_self _, (IntKind.i64.wrap (x7 + (1 : Int))), rfl, rfl, h10, hF⟩
    · skip
      refine Exec.ifF rfl hb ?_
      refine Exec.run tyOk 400 rfl ?_
      exact Exec.round [(0, .v (.slice a2 ((x1).length) (k2)))] ⟨rfl, trivial⟩ ⟨rfl, rfl, h10, hF⟩

def F_clockworkref06_Apply_L1 (x3 : List TPair) (J77 : (List TPair) → Option (List TPair × Int)) : Nat → (List TPair) → Int → Option (List TPair × Int)
  | 0, _, _ => none
  | n82 + 1, x79, x81 => (cond (decide (x81 < (((x3).length : Nat) : Int))) (req (0 ≤ x81 ∧ x81 < ((x3).length : Int)) (jn (fun (x87 : List TPair) => (F_clockworkref06_Apply_L1 x3 J77 n82 x87 ((IntKind.i64.wrap (x81 + (1 : Int)))))) (fun J89 => (cond ((atI x3 x81).Val.Kind != (0 : Int)) (req (0 ≤ x81 ∧ x81 < ((x3).length : Int)) (bnd (F_clockworkref06_with x79 ((atI x3 x81))) fun x94 => (J89 x94))) (J89 x79))))) (J77 x79))

def F_clockworkref06_Apply_L2 (x1 : List TPair) (x3 : List TPair) (J10 : (List TPair) → Option (List TPair × Int)) : Nat → (List TPair) → Int → Option (List TPair × Int)
  | 0, _, _ => none
  | n104 + 1, x102, x103 => (cond (decide (x103 < (((x1).length : Nat) : Int))) (req (0 ≤ x103 ∧ x103 < ((x1).length : Int)) (bnd (F_clockworkref06_Has x3 ((atI x1 x103).Key)) fun x110 => (jn (fun (x112 : List TPair) => (F_clockworkref06_Apply_L2 x1 x3 J10 n104 x112 ((IntKind.i64.wrap (x103 + (1 : Int)))))) (fun J113 => (cond (!x110) (req (0 ≤ x103 ∧ x103 < ((x1).length : Int)) (req (((x102 ++ [(atI x1 x103)])).length * 48 ≤ 140737488355328) (J113 ((x102 ++ [(atI x1 x103)]))))) (J113 x102)))))) (J10 x102))

def F_clockworkref06_Apply (x1 : List TPair) (x3 : List TPair) : Option (List TPair × Int) :=
  (bnd (F_clockworkref06_Valid x1) fun x5 => (bnd (gcall (((!x5)) == false) (F_clockworkref06_ValidWrites x3)) fun x6 => (cond ((!x5) || (!x6)) (some (([] : List TPair), (1 : Int))) (jn (fun (x9 : List TPair) => (jn (fun (x75 : List TPair) => (some (x75, (0 : Int)))) (fun J77 => (F_clockworkref06_Apply_L1 x3 J77 (((((x3).length : Nat) : Int)).toNat + 1) x9 ((0 : Int)))))) (fun J10 => (F_clockworkref06_Apply_L2 x1 x3 J10 (((((x1).length : Nat) : Int)).toNat + 1) (([] : List TPair)) ((0 : Int))))))))

set_option maxRecDepth 100000 in
theorem W_clockworkref06_Apply {V : View} (x1 : List TPair) (x3 : List TPair) {a2 : Option Addr} {k2 : Nat} {a4 : Option Addr} {k4 : Nat} (h2 : SlAt cTPair V a2 k2 x1) (h4 : SlAt cTPair V a4 k4 x3) {r : List TPair × Int} (hF : F_clockworkref06_Apply x1 x3 = some r) :
    Spec Try.prog 68 [.slice a2 ((x1).length) (k2), .slice a4 ((x3).length) (k4)] V (fun V' v => ∃ (a121 : Option Addr) (k121 : Nat), v = .tuple ⟨[.slice a121 ((r.1).length) (k121), .int .i64 (r.2)]⟩ ∧ SlAt cTPair V' a121 k121 r.1) := by
  unfold F_clockworkref06_Apply at hF
  refine Spec.enter (T := tyT) Try.func68 rfl (by kernel_rfl) rfl rfl rfl ?_
  refine Exec.run tyOk 400 rfl ?_
  obtain ⟨x5, hx5, hF⟩ := bnd_some hF
  refine Exec.callS (.bool (x5)) rfl rfl (W_clockworkref06_Valid x1 h2 hx5) ?_
  refine Exec.run tyOk 400 rfl ?_
  obtain ⟨x6, hx6, hF⟩ := bnd_some hF
  refine Exec.callS (.bool (x6)) rfl rfl (fun gg0 => W_clockworkref06_ValidWrites x3 h4 (gcall_some hx6 (gd1_of gg0))) ?_
  refine Exec.run tyOk 400 rfl ?_
  rcases cond_some hF with ⟨hb, hF⟩ | ⟨hb, hF⟩
  · skip
    refine Exec.ifT rfl hb ?_
    refine Exec.run tyOk 400 rfl ?_
    obtain rfl := some_inj hF
    exact Exec.ret tyOk rfl rfl ⟨_, _, rfl, SlAt.nil⟩
  · skip
    refine Exec.ifF rfl hb ?_
    refine Exec.run tyOk 10 rfl ?_
    refine Exec.row0 68 4 rfl ?_
    have h7 : RowRep cTPair V ([] : List TPair) [] := RowRep.nil
    obtain ⟨J10, hJ10, hF⟩ := jn_some hF
    refine Exec.seam (fun L' V' M' => ∃ (x9 : List TPair) (a8 : Option Addr) (k8 : Nat) (cs8 : List Value), L' = [(1, .v (.slice a4 ((x3).length) (k4))), (6, .v (.slice a8 ((x9).length) (k8)))] ∧ M' = [.row (.slice a8 ((x9).length) (k8)) cs8 68 4] ∧ RowRep cTPair V' x9 cs8 ∧ SlAt cTPair V' a4 k4 x3 ∧ J10 x9 = some r) rfl ?_ ?_
    · rintro L' V11 M' ⟨x9, a8, k8, cs8, rfl, rfl, h8, h12, hF⟩
      subst hJ10
      refine Exec.run tyOk 5 rfl ?_
      refine Exec.frz 0 rfl rfl rfl (fun V73 hv73 hd73 hn73 => ?_)
      have hz73 := RowRep.slat h8 hv73 hd73 hn73
      have h74 := SlAt.mono h12 hv73
      obtain ⟨J77, hJ77, hF⟩ := jn_some hF
      refine Exec.seam (fun L' V' M' => ∃ (x75 : List TPair) (a76 : Option Addr) (k76 : Nat), L' = [(6, .v (.slice a76 ((x75).length) (k76)))] ∧ M' = [] ∧ SlAt cTPair V' a76 k76 x75 ∧ J77 x75 = some r) rfl ?_ ?_
      · rintro L' V78 M' ⟨x75, a76, k76, rfl, rfl, h76, hF⟩
        subst hJ77
        refine Exec.run tyOk 400 rfl ?_
        obtain rfl := some_inj hF
        exact Exec.ret tyOk rfl rfl ⟨_, _, rfl, h76⟩
      · skip
        refine Exec.run tyOk 400 rfl ?_
        refine Exec.cut 0 [(1, .v (.slice a4 ((x3).length) (k4))), (6, .v (.slice a8 ((x9).length) (k8))), (8, .v (.int .i64 ((0 : Int))))] (M' := []) rfl ⟨rfl, rfl, rfl, trivial⟩ rfl rfl rfl ?_
        refine Exec.loop (fun n82 L' V' M' => ∃ (x79 : List TPair) (a80 : Option Addr) (k80 : Nat) (x81 : Int), L' = [(1, .v (.slice a4 ((x3).length) (k4))), (6, .v (.slice a80 ((x79).length) (k80))), (8, .v (.int .i64 (x81)))] ∧ M' = [] ∧ SlAt cTPair V' a80 k80 x79 ∧ SlAt cTPair V' a4 k4 x3 ∧ F_clockworkref06_Apply_L1 x3 J77 n82 x79 x81 = some r) ⟨(((((x3).length : Nat) : Int)).toNat + 1), [(1, .v (.slice a4 ((x3).length) (k4))), (6, .v (.slice a8 ((x9).length) (k8))), (8, .v (.int .i64 ((0 : Int))))], ⟨rfl, rfl, rfl, trivial⟩, x9, a8, k8, (0 : Int), rfl, rfl, hz73, h74, hF⟩ ?_
        rintro n82 L' V83 M' ⟨x79, a80, k80, x81, rfl, rfl, h80, h84, hF⟩
        rcases n82 with _ | n82
        · exact absurd hF (by simp [F_clockworkref06_Apply_L1])
        rw [F_clockworkref06_Apply_L1] at hF
        refine Exec.run tyOk 400 rfl ?_
        rcases cond_some hF with ⟨hb, hF⟩ | ⟨hb, hF⟩
        · skip
          refine Exec.ifT rfl hb ?_
          refine Exec.run tyOk 400 rfl ?_
          obtain ⟨q85, hF⟩ := req_some hF
          obtain ⟨c86, hr86, hd86⟩ := SlAt.get h84 q85
          obtain rfl := hr86
          refine Exec.ia tyOk rfl rfl ⟨q85.1, q85.2, hd86.some⟩ ?_
          refine Exec.run tyOk 400 rfl ?_
          refine Exec.ld tyOk (x := .int .i64 ((atI x3 x81).Val.Kind)) rfl rfl (RdAt.part hd86 1 1 rfl) rfl rfl ?_
          refine Exec.run tyOk 400 rfl ?_
          obtain ⟨J89, hJ89, hF⟩ := jn_some hF
          refine Exec.seam (fun L' V' M' => ∃ (x87 : List TPair) (a88 : Option Addr) (k88 : Nat), L' = [(1, .v (.slice a4 ((x3).length) (k4))), (6, .v (.slice a88 ((x87).length) (k88))), (8, .v (.int .i64 (x81)))] ∧ M' = [] ∧ SlAt cTPair V' a88 k88 x87 ∧ SlAt cTPair V' a4 k4 x3 ∧ J89 x87 = some r) rfl ?_ ?_
          · rintro L' V90 M' ⟨x87, a88, k88, rfl, rfl, h88, h91, hF⟩
            subst hJ89
            refine Exec.run tyOk 400 rfl ?_
            exact Exec.round [(1, .v (.slice a4 ((x3).length) (k4))), (6, .v (.slice a88 ((x87).length) (k88))), (8, .v (.int .i64 ((IntKind.i64.wrap (x81 + (1 : Int))))))] ⟨rfl, rfl, rfl, trivial⟩ ⟨n82, Nat.lt_succ_self _, x87, a88, k88, (IntKind.i64.wrap (x81 + (1 : Int))), rfl, rfl, h88, h91, hF⟩
          · skip
            refine Exec.run tyOk 400 rfl ?_
            rcases cond_some hF with ⟨hb, hF⟩ | ⟨hb, hF⟩
            · skip
              refine Exec.ifT rfl hb ?_
              refine Exec.run tyOk 400 rfl ?_
              obtain ⟨q92, hF⟩ := req_some hF
              obtain ⟨c93, hr93, hd93⟩ := SlAt.get h84 q92
              obtain rfl := hr93
              refine Exec.ia tyOk rfl rfl ⟨q92.1, q92.2, hd93.some⟩ ?_
              refine Exec.run tyOk 400 rfl ?_
              refine Exec.ld tyOk (x := .agg ⟨[.string ⟨⟨(atI x3 x81).Key⟩⟩, .int .i64 ((atI x3 x81).Val.Kind), .int .i64 ((atI x3 x81).Val.N), .string ⟨⟨(atI x3 x81).Val.S⟩⟩]⟩) rfl rfl hd93 rfl rfl ?_
              refine Exec.run tyOk 400 rfl ?_
              obtain ⟨x94, hx94, hF⟩ := bnd_some hF
              refine Exec.call rfl rfl (W_clockworkref06_with x79 ((atI x3 x81)) h80 hx94) ?_
              rintro V96 _ hv96 ⟨a95, k95, rfl, h95⟩
              have h97 := SlAt.mono h84 hv96
              have h98 := SlAt.mono h80 hv96
              refine Exec.run tyOk 400 rfl ?_
              exact Exec.round [(1, .v (.slice a4 ((x3).length) (k4))), (6, .v (.slice a95 ((x94).length) (k95))), (8, .v (.int .i64 (x81)))] ⟨rfl, rfl, rfl, trivial⟩ ⟨x94, a95, k95, rfl, rfl, h95, h97, hF⟩
            · skip
              refine Exec.ifF rfl hb ?_
              refine Exec.run tyOk 400 rfl ?_
              exact Exec.round [(1, .v (.slice a4 ((x3).length) (k4))), (6, .v (.slice a80 ((x79).length) (k80))), (8, .v (.int .i64 (x81)))] ⟨rfl, rfl, rfl, trivial⟩ ⟨x79, a80, k80, rfl, rfl, h80, h84, hF⟩
        · skip
          refine Exec.ifF rfl hb ?_
          refine Exec.run tyOk 400 rfl ?_
          exact Exec.round [(6, .v (.slice a80 ((x79).length) (k80)))] ⟨rfl, trivial⟩ ⟨x79, a80, k80, rfl, rfl, h80, hF⟩
    · skip
      refine Exec.run tyOk 400 rfl ?_
      refine Exec.loop (fun n104 L' V' M' => ∃ (x102 : List TPair) (a101 : Option Addr) (k101 : Nat) (cs101 : List Value) (x103 : Int), L' = [(0, .v (.slice a2 ((x1).length) (k2))), (1, .v (.slice a4 ((x3).length) (k4))), (6, .v (.slice a101 ((x102).length) (k101))), (7, .v (.int .i64 (x103)))] ∧ M' = [.row (.slice a101 ((x102).length) (k101)) cs101 68 4] ∧ RowRep cTPair V' x102 cs101 ∧ SlAt cTPair V' a2 k2 x1 ∧ SlAt cTPair V' a4 k4 x3 ∧ F_clockworkref06_Apply_L2 x1 x3 J10 n104 x102 x103 = some r) ⟨(((((x1).length : Nat) : Int)).toNat + 1), [(0, .v (.slice a2 ((x1).length) (k2))), (1, .v (.slice a4 ((x3).length) (k4))), (6, .v (.slice none ((([] : List TPair)).length) (0))), (7, .v (.int .i64 ((0 : Int))))], ⟨rfl, rfl, rfl, rfl, trivial⟩, ([] : List TPair), none, 0, [], (0 : Int), rfl, rfl, h7, h2, h4, hF⟩ ?_
      rintro n104 L' V105 M' ⟨x102, a101, k101, cs101, x103, rfl, rfl, h101, h106, h107, hF⟩
      rcases n104 with _ | n104
      · exact absurd hF (by simp [F_clockworkref06_Apply_L2])
      rw [F_clockworkref06_Apply_L2] at hF
      refine Exec.run tyOk 400 rfl ?_
      rcases cond_some hF with ⟨hb, hF⟩ | ⟨hb, hF⟩
      · skip
        refine Exec.ifT rfl hb ?_
        refine Exec.run tyOk 400 rfl ?_
        obtain ⟨q108, hF⟩ := req_some hF
        obtain ⟨c109, hr109, hd109⟩ := SlAt.get h106 q108
        obtain rfl := hr109
        refine Exec.ia tyOk rfl rfl ⟨q108.1, q108.2, hd109.some⟩ ?_
        refine Exec.run tyOk 400 rfl ?_
        refine Exec.ld tyOk (x := .string ⟨⟨(atI x1 x103).Key⟩⟩) rfl rfl (RdAt.part hd109 0 1 rfl) rfl rfl ?_
        refine Exec.run tyOk 400 rfl ?_
        obtain ⟨x110, hx110, hF⟩ := bnd_some hF
        refine Exec.callS (.bool (x110)) rfl rfl (W_clockworkref06_Has x3 ((atI x1 x103).Key) h107 hx110) ?_
        refine Exec.run tyOk 400 rfl ?_
        obtain ⟨J113, hJ113, hF⟩ := jn_some hF
        refine Exec.seam (fun L' V' M' => ∃ (x112 : List TPair) (a111 : Option Addr) (k111 : Nat) (cs111 : List Value), L' = [(0, .v (.slice a2 ((x1).length) (k2))), (1, .v (.slice a4 ((x3).length) (k4))), (6, .v (.slice a111 ((x112).length) (k111))), (7, .v (.int .i64 (x103)))] ∧ M' = [.row (.slice a111 ((x112).length) (k111)) cs111 68 4] ∧ RowRep cTPair V' x112 cs111 ∧ SlAt cTPair V' a2 k2 x1 ∧ SlAt cTPair V' a4 k4 x3 ∧ J113 x112 = some r) rfl ?_ ?_
        · rintro L' V114 M' ⟨x112, a111, k111, cs111, rfl, rfl, h111, h115, h116, hF⟩
          subst hJ113
          refine Exec.run tyOk 400 rfl ?_
          exact Exec.round [(0, .v (.slice a2 ((x1).length) (k2))), (1, .v (.slice a4 ((x3).length) (k4))), (6, .v (.slice a111 ((x112).length) (k111))), (7, .v (.int .i64 ((IntKind.i64.wrap (x103 + (1 : Int))))))] ⟨rfl, rfl, rfl, rfl, trivial⟩ ⟨n104, Nat.lt_succ_self _, x112, a111, k111, cs111, (IntKind.i64.wrap (x103 + (1 : Int))), rfl, rfl, h111, h115, h116, hF⟩
        · skip
          refine Exec.run tyOk 400 rfl ?_
          rcases cond_some hF with ⟨hb, hF⟩ | ⟨hb, hF⟩
          · skip
            refine Exec.ifT rfl hb ?_
            refine Exec.run tyOk 400 rfl ?_
            obtain ⟨q117, hF⟩ := req_some hF
            obtain ⟨c118, hr118, hd118⟩ := SlAt.get h106 q117
            obtain rfl := hr118
            refine Exec.ia tyOk rfl rfl ⟨q117.1, q117.2, hd118.some⟩ ?_
            refine Exec.run tyOk 400 rfl ?_
            refine Exec.ld tyOk (x := .agg ⟨[.string ⟨⟨(atI x1 x103).Key⟩⟩, .int .i64 ((atI x1 x103).Val.Kind), .int .i64 ((atI x1 x103).Val.N), .string ⟨⟨(atI x1 x103).Val.S⟩⟩]⟩) rfl rfl hd118 rfl rfl ?_
            refine Exec.run tyOk 400 rfl ?_
            refine Exec.bsl tyOk rfl rfl ?_
            refine Exec.run tyOk 400 rfl ?_
            obtain ⟨q120, hF⟩ := req_some hF
            refine Exec.app tyOk 0 1 (nm := ((x102 ++ [(atI x1 x103)])).length) rfl rfl rfl rfl rfl rfl rfl rfl rfl (by simp) (fun _ _ => rfl) rfl q120 (fun a119 k119 => ?_)
            have h119 : RowRep cTPair V105 (x102 ++ [(atI x1 x103)]) (cs101 ++ [.string ⟨⟨(atI x1 x103).Key⟩⟩, .int .i64 ((atI x1 x103).Val.Kind), .int .i64 ((atI x1 x103).Val.N), .string ⟨⟨(atI x1 x103).Val.S⟩⟩]) := RowRep.app h101 ⟨_, _, rfl, rfl, rfl⟩
            refine Exec.run tyOk 400 rfl ?_
            refine Exec.cut 1 [(0, .v (.slice a2 ((x1).length) (k2))), (1, .v (.slice a4 ((x3).length) (k4))), (6, .v (.slice a119 (((x102 ++ [(atI x1 x103)])).length) (k119))), (7, .v (.int .i64 (x103)))] (M' := [.row (.slice a119 (((x102 ++ [(atI x1 x103)])).length) (k119)) ((cs101 ++ [.string ⟨⟨(atI x1 x103).Key⟩⟩, .int .i64 ((atI x1 x103).Val.Kind), .int .i64 ((atI x1 x103).Val.N), .string ⟨⟨(atI x1 x103).Val.S⟩⟩])) 68 4]) rfl ⟨rfl, rfl, rfl, rfl, trivial⟩ rfl rfl rfl ?_
            exact Exec.round [(0, .v (.slice a2 ((x1).length) (k2))), (1, .v (.slice a4 ((x3).length) (k4))), (6, .v (.slice a119 (((x102 ++ [(atI x1 x103)])).length) (k119))), (7, .v (.int .i64 (x103)))] ⟨rfl, rfl, rfl, rfl, trivial⟩ ⟨(x102 ++ [(atI x1 x103)]), a119, k119, (cs101 ++ [.string ⟨⟨(atI x1 x103).Key⟩⟩, .int .i64 ((atI x1 x103).Val.Kind), .int .i64 ((atI x1 x103).Val.N), .string ⟨⟨(atI x1 x103).Val.S⟩⟩]), rfl, rfl, h119, h106, h107, hF⟩
          · skip
            refine Exec.ifF rfl hb ?_
            refine Exec.run tyOk 400 rfl ?_
            exact Exec.round [(0, .v (.slice a2 ((x1).length) (k2))), (1, .v (.slice a4 ((x3).length) (k4))), (6, .v (.slice a101 ((x102).length) (k101))), (7, .v (.int .i64 (x103)))] ⟨rfl, rfl, rfl, rfl, trivial⟩ ⟨x102, a101, k101, cs101, rfl, rfl, h101, h106, h107, hF⟩
      · skip
        refine Exec.ifF rfl hb ?_
        refine Exec.run tyOk 400 rfl ?_
        exact Exec.round [(1, .v (.slice a4 ((x3).length) (k4))), (6, .v (.slice a101 ((x102).length) (k101)))] ⟨rfl, rfl, trivial⟩ ⟨x102, a101, k101, cs101, rfl, rfl, h101, h107, hF⟩

def F_dist_Gather_L1 (x1 : List TShard) (J8 : (List TPair) → Option (List TPair × Int)) : Nat → (List TPair) → Int → Option (List TPair × Int)
  | 0, _, _ => none
  | n13 + 1, x10, x12 => (cond (decide (x12 < (((x1).length : Nat) : Int))) (req (0 ≤ x12 ∧ x12 < ((x1).length : Int)) (bnd (F_state_Union x10 ((atI x1 x12).Pairs)) fun x19 => (cond (x19.2 != (0 : Int)) (some (([] : List TPair), x19.2)) (F_dist_Gather_L1 x1 J8 n13 x19.1 ((IntKind.i64.wrap (x12 + (1 : Int)))))))) (J8 x10))

def F_dist_Gather_L2 (x1 : List TShard) (J3 : Option (List TPair × Int)) : Nat → Int → Option (List TPair × Int)
  | 0, _ => none
  | n27 + 1, x26 => (cond (decide (x26 < (((x1).length : Nat) : Int))) (req (0 ≤ x26 ∧ x26 < ((x1).length : Int)) (req ((((decide ((0 : Int) < x26))) == true) = true → 0 ≤ (IntKind.i64.wrap (x26 - (1 : Int))) ∧ (IntKind.i64.wrap (x26 - (1 : Int))) < ((x1).length : Int)) (bnd (gcall ((((decide ((0 : Int) < x26)) && (decide ((atI x1 x26).Node ≤ (cond (((decide ((0 : Int) < x26))) == true) (atI x1 ((IntKind.i64.wrap (x26 - (1 : Int))))) default).Node)))) == false) (F_state_Valid ((atI x1 x26).Pairs))) fun x36 => (cond (((decide ((0 : Int) < x26)) && (decide ((atI x1 x26).Node ≤ (cond (((decide ((0 : Int) < x26))) == true) (atI x1 ((IntKind.i64.wrap (x26 - (1 : Int))))) default).Node))) || (!x36)) (some (([] : List TPair), (1 : Int))) (F_dist_Gather_L2 x1 J3 n27 ((IntKind.i64.wrap (x26 + (1 : Int))))))))) J3)

def F_dist_Gather (x1 : List TShard) : Option (List TPair × Int) :=
  (jn ((jn (fun (x6 : List TPair) => (some (x6, (0 : Int)))) (fun J8 => (F_dist_Gather_L1 x1 J8 (((((x1).length : Nat) : Int)).toNat + 1) (([] : List TPair)) ((0 : Int)))))) (fun J3 => (F_dist_Gather_L2 x1 J3 (((((x1).length : Nat) : Int)).toNat + 1) ((0 : Int)))))

set_option maxRecDepth 100000 in
theorem W_dist_Gather {V : View} (x1 : List TShard) {a2 : Option Addr} {k2 : Nat} (h2 : SlAt cTShard V a2 k2 x1) {r : List TPair × Int} (hF : F_dist_Gather x1 = some r) :
    Spec Try.prog 70 [.slice a2 ((x1).length) (k2)] V (fun V' v => ∃ (a37 : Option Addr) (k37 : Nat), v = .tuple ⟨[.slice a37 ((r.1).length) (k37), .int .i64 (r.2)]⟩ ∧ SlAt cTPair V' a37 k37 r.1) := by
  unfold F_dist_Gather at hF
  refine Spec.enter (T := tyT) Try.func70 rfl (by kernel_rfl) rfl rfl rfl ?_
  refine Exec.run tyOk 12 rfl ?_
  obtain ⟨J3, hJ3, hF⟩ := jn_some hF
  refine Exec.seam (fun L' V' M' => L' = [(0, .v (.slice a2 ((x1).length) (k2)))] ∧ M' = [] ∧ SlAt cTShard V' a2 k2 x1 ∧ J3 = some r) rfl ?_ ?_
  · rintro L' V4 M' ⟨rfl, rfl, h5, hF⟩
    subst hJ3
    refine Exec.run tyOk 11 rfl ?_
    obtain ⟨J8, hJ8, hF⟩ := jn_some hF
    refine Exec.seam (fun L' V' M' => ∃ (x6 : List TPair) (a7 : Option Addr) (k7 : Nat), L' = [(6, .v (.slice a7 ((x6).length) (k7)))] ∧ M' = [] ∧ SlAt cTPair V' a7 k7 x6 ∧ J8 x6 = some r) rfl ?_ ?_
    · rintro L' V9 M' ⟨x6, a7, k7, rfl, rfl, h7, hF⟩
      subst hJ8
      refine Exec.run tyOk 400 rfl ?_
      obtain rfl := some_inj hF
      exact Exec.ret tyOk rfl rfl ⟨_, _, rfl, h7⟩
    · skip
      refine Exec.run tyOk 400 rfl ?_
      refine Exec.loop (fun n13 L' V' M' => ∃ (x10 : List TPair) (a11 : Option Addr) (k11 : Nat) (x12 : Int), L' = [(6, .v (.slice a11 ((x10).length) (k11))), (38, .v (.slice a2 ((x1).length) (k2))), (39, .v (.int .i64 ((((x1).length : Nat) : Int)))), (40, .v (.int .i64 (x12)))] ∧ M' = [] ∧ SlAt cTPair V' a11 k11 x10 ∧ SlAt cTShard V' a2 k2 x1 ∧ F_dist_Gather_L1 x1 J8 n13 x10 x12 = some r) ⟨(((((x1).length : Nat) : Int)).toNat + 1), [(6, .v (.slice none (0) (0))), (38, .v (.slice a2 ((x1).length) (k2))), (39, .v (.int .i64 ((((x1).length : Nat) : Int)))), (40, .v (.int .i64 ((0 : Int))))], ⟨rfl, rfl, rfl, rfl, trivial⟩, ([] : List TPair), none, 0, (0 : Int), rfl, rfl, SlAt.nil, h5, hF⟩ ?_
      rintro n13 L' V14 M' ⟨x10, a11, k11, x12, rfl, rfl, h11, h15, hF⟩
      rcases n13 with _ | n13
      · exact absurd hF (by simp [F_dist_Gather_L1])
      rw [F_dist_Gather_L1] at hF
      refine Exec.run tyOk 400 rfl ?_
      rcases cond_some hF with ⟨hb, hF⟩ | ⟨hb, hF⟩
      · skip
        refine Exec.ifT rfl hb ?_
        refine Exec.run tyOk 400 rfl ?_
        obtain ⟨q16, hF⟩ := req_some hF
        obtain ⟨c17, hr17, hd17⟩ := SlAt.get h15 q16
        obtain ⟨a18, k18, rfl, h18⟩ := hr17
        refine Exec.ia tyOk rfl rfl ⟨q16.1, q16.2, hd17.some⟩ ?_
        refine Exec.run tyOk 400 rfl ?_
        refine Exec.ld tyOk (x := .agg ⟨[.int .i64 ((atI x1 x12).Node), .slice a18 (((atI x1 x12).Pairs).length) (k18)]⟩) rfl rfl hd17 rfl rfl ?_
        refine Exec.run tyOk 400 rfl ?_
        obtain ⟨x19, hx19, hF⟩ := bnd_some hF
        refine Exec.call rfl rfl (W_state_Union x10 ((atI x1 x12).Pairs) h11 h18 hx19) ?_
        rintro V21 _ hv21 ⟨a20, k20, rfl, h20⟩
        have h22 := SlAt.mono h11 hv21
        have h23 := SlAt.mono h15 hv21
        have h25 := SlAt.mono h18 hv21
        refine Exec.run tyOk 400 rfl ?_
        rcases cond_some hF with ⟨hb, hF⟩ | ⟨hb, hF⟩
        · skip
          refine Exec.ifT rfl hb ?_
          refine Exec.run tyOk 400 rfl ?_
          obtain rfl := some_inj hF
          exact Exec.ret tyOk rfl rfl ⟨_, _, rfl, SlAt.nil⟩
        · skip
          refine Exec.ifF rfl hb ?_
          refine Exec.run tyOk 400 rfl ?_
          refine Exec.cut 0 [(6, .v (.slice a20 ((x19.1).length) (k20))), (38, .v (.slice a2 ((x1).length) (k2))), (39, .v (.int .i64 ((((x1).length : Nat) : Int)))), (40, .v (.int .i64 ((IntKind.i64.wrap (x12 + (1 : Int))))))] (M' := []) rfl ⟨rfl, rfl, rfl, rfl, trivial⟩ rfl rfl rfl ?_
          exact Exec.round [(6, .v (.slice a20 ((x19.1).length) (k20))), (38, .v (.slice a2 ((x1).length) (k2))), (39, .v (.int .i64 ((((x1).length : Nat) : Int)))), (40, .v (.int .i64 ((IntKind.i64.wrap (x12 + (1 : Int))))))] ⟨rfl, rfl, rfl, rfl, trivial⟩ ⟨n13, Nat.lt_succ_self _, x19.1, a20, k20, (IntKind.i64.wrap (x12 + (1 : Int))), rfl, rfl, h20, h23, hF⟩
      · skip
        refine Exec.ifF rfl hb ?_
        refine Exec.run tyOk 400 rfl ?_
        exact Exec.round [(6, .v (.slice a11 ((x10).length) (k11)))] ⟨rfl, trivial⟩ ⟨x10, a11, k11, rfl, rfl, h11, hF⟩
  · skip
    refine Exec.run tyOk 400 rfl ?_
    refine Exec.loop (fun n27 L' V' M' => ∃ (x26 : Int), L' = [(0, .v (.slice a2 ((x1).length) (k2))), (11, .v (.slice a2 ((x1).length) (k2))), (12, .v (.int .i64 ((((x1).length : Nat) : Int)))), (13, .v (.int .i64 (x26)))] ∧ M' = [] ∧ SlAt cTShard V' a2 k2 x1 ∧ F_dist_Gather_L2 x1 J3 n27 x26 = some r) ⟨(((((x1).length : Nat) : Int)).toNat + 1), [(0, .v (.slice a2 ((x1).length) (k2))), (11, .v (.slice a2 ((x1).length) (k2))), (12, .v (.int .i64 ((((x1).length : Nat) : Int)))), (13, .v (.int .i64 ((0 : Int))))], ⟨rfl, rfl, rfl, rfl, trivial⟩, (0 : Int), rfl, rfl, h2, hF⟩ ?_
    rintro n27 L' V28 M' ⟨x26, rfl, rfl, h29, hF⟩
    rcases n27 with _ | n27
    · exact absurd hF (by simp [F_dist_Gather_L2])
    rw [F_dist_Gather_L2] at hF
    refine Exec.run tyOk 400 rfl ?_
    rcases cond_some hF with ⟨hb, hF⟩ | ⟨hb, hF⟩
    · skip
      refine Exec.ifT rfl hb ?_
      refine Exec.run tyOk 400 rfl ?_
      obtain ⟨q30, hF⟩ := req_some hF
      obtain ⟨c31, hr31, hd31⟩ := SlAt.get h29 q30
      obtain ⟨a32, k32, rfl, h32⟩ := hr31
      refine Exec.ia tyOk rfl rfl ⟨q30.1, q30.2, hd31.some⟩ ?_
      refine Exec.run tyOk 400 rfl ?_
      refine Exec.ld tyOk (x := .agg ⟨[.int .i64 ((atI x1 x26).Node), .slice a32 (((atI x1 x26).Pairs).length) (k32)]⟩) rfl rfl hd31 rfl rfl ?_
      refine Exec.run tyOk 400 rfl ?_
      refine Exec.draws tyOk [(0, true), (1, true), (2, true), (3, true), (4, true), (5, true), (6, true), (7, true), (8, true), (9, true), (10, true), (11, true), (12, true), (13, true), (14, true), (15, true), (16, false), (17, false), (18, false)] rfl (by kernel_rfl) ?_
      refine Exec.run tyOk 400 rfl ?_
      obtain ⟨q33, hF⟩ := req_some hF
      obtain ⟨c34, hr34, hd34⟩ := SlAt.gget (((decide ((0 : Int) < x26))) == true) h29 q33
      obtain ⟨a35, k35, rfl, h35⟩ := hr34
      refine Exec.fia tyOk rfl rfl rfl (fun gg0 => ⟨(q33 (gd1_of gg0)).1, (q33 (gd1_of gg0)).2, (hd34 (gd1_of gg0)).some⟩) ?_
      refine Exec.run tyOk 400 rfl ?_
      refine Exec.fld tyOk (x := .int .i64 ((cond (((decide ((0 : Int) < x26))) == true) (atI x1 ((IntKind.i64.wrap (x26 - (1 : Int))))) default).Node)) rfl rfl rfl (fun gg0 => (RdAt.part (hd34 (gd1_of gg0)) 0 1 rfl)) rfl rfl ?_
      refine Exec.run tyOk 400 rfl ?_
      obtain ⟨x36, hx36, hF⟩ := bnd_some hF
      refine Exec.callS (.bool (x36)) rfl rfl (fun gg0 => W_state_Valid ((atI x1 x26).Pairs) h32 (gcall_some hx36 (gd1_of gg0))) ?_
      refine Exec.run tyOk 400 rfl ?_
      rcases cond_some hF with ⟨hb, hF⟩ | ⟨hb, hF⟩
      · skip
        refine Exec.ifT rfl hb ?_
        refine Exec.run tyOk 400 rfl ?_
        obtain rfl := some_inj hF
        exact Exec.ret tyOk rfl rfl ⟨_, _, rfl, SlAt.nil⟩
      · skip
        refine Exec.ifF rfl hb ?_
        refine Exec.run tyOk 400 rfl ?_
        refine Exec.cut 0 [(0, .v (.slice a2 ((x1).length) (k2))), (11, .v (.slice a2 ((x1).length) (k2))), (12, .v (.int .i64 ((((x1).length : Nat) : Int)))), (13, .v (.int .i64 ((IntKind.i64.wrap (x26 + (1 : Int))))))] (M' := []) rfl ⟨rfl, rfl, rfl, rfl, trivial⟩ rfl rfl rfl ?_
        exact Exec.round [(0, .v (.slice a2 ((x1).length) (k2))), (11, .v (.slice a2 ((x1).length) (k2))), (12, .v (.int .i64 ((((x1).length : Nat) : Int)))), (13, .v (.int .i64 ((IntKind.i64.wrap (x26 + (1 : Int))))))] ⟨rfl, rfl, rfl, rfl, trivial⟩ ⟨n27, Nat.lt_succ_self _, (IntKind.i64.wrap (x26 + (1 : Int))), rfl, rfl, h29, hF⟩
    · skip
      refine Exec.ifF rfl hb ?_
      refine Exec.run tyOk 400 rfl ?_
      exact Exec.round [(0, .v (.slice a2 ((x1).length) (k2)))] ⟨rfl, trivial⟩ ⟨rfl, rfl, h29, hF⟩

def F_placement_Owner (x1 : TPlacement) (x3 : Str) : Option Int :=
  (bnd (F_placement_Index x1 x3) fun x4 => (cond (decide (x4 < (0 : Int))) (some (0 : Int)) (req (0 ≤ x4 ∧ x4 < ((x1.Parts).length : Int)) (cond (((atI x1.Parts x4).Dest != (0 : Int)) && (sLt x3 (atI x1.Parts x4).Done)) (some (atI x1.Parts x4).Dest) (some (atI x1.Parts x4).Node)))))

set_option maxRecDepth 100000 in
theorem W_placement_Owner {V : View} (x1 : TPlacement) (x3 : Str) {a2 : Option Addr} {k2 : Nat} (h2 : SlAt cTPart V a2 k2 x1.Parts) {r : Int} (hF : F_placement_Owner x1 x3 = some r) :
    Spec Try.prog 91 [.agg ⟨[.int .i64 (x1.Version), .slice a2 ((x1.Parts).length) (k2)]⟩, .string ⟨⟨x3⟩⟩] V (fun _ v => v = .int .i64 (r)) := by
  unfold F_placement_Owner at hF
  refine Spec.enter (T := tyT) Try.func91 rfl (by kernel_rfl) rfl rfl rfl ?_
  refine Exec.run tyOk 400 rfl ?_
  obtain ⟨x4, hx4, hF⟩ := bnd_some hF
  refine Exec.callS (.int .i64 (x4)) rfl rfl (W_placement_Index x1 x3 h2 hx4) ?_
  refine Exec.run tyOk 400 rfl ?_
  rcases cond_some hF with ⟨hb, hF⟩ | ⟨hb, hF⟩
  · skip
    refine Exec.ifT rfl hb ?_
    refine Exec.run tyOk 400 rfl ?_
    obtain rfl := some_inj hF
    exact Exec.ret tyOk rfl rfl rfl
  · skip
    refine Exec.ifF rfl hb ?_
    refine Exec.run tyOk 400 rfl ?_
    obtain ⟨q5, hF⟩ := req_some hF
    obtain ⟨c6, hr6, hd6⟩ := SlAt.get h2 q5
    obtain rfl := hr6
    refine Exec.ia tyOk rfl rfl ⟨q5.1, q5.2, hd6.some⟩ ?_
    refine Exec.run tyOk 400 rfl ?_
    refine Exec.ld tyOk (x := .agg ⟨[.int .i64 ((atI x1.Parts x4).Id), .string ⟨⟨(atI x1.Parts x4).From⟩⟩, .int .i64 ((atI x1.Parts x4).Node), .int .i64 ((atI x1.Parts x4).Dest), .string ⟨⟨(atI x1.Parts x4).Done⟩⟩]⟩) rfl rfl hd6 rfl rfl ?_
    refine Exec.run tyOk 400 rfl ?_
    rcases cond_some hF with ⟨hb, hF⟩ | ⟨hb, hF⟩
    · skip
      refine Exec.ifT rfl hb ?_
      refine Exec.run tyOk 400 rfl ?_
      obtain rfl := some_inj hF
      exact Exec.ret tyOk rfl rfl rfl
    · skip
      refine Exec.ifF rfl hb ?_
      refine Exec.run tyOk 400 rfl ?_
      obtain rfl := some_inj hF
      exact Exec.ret tyOk rfl rfl rfl

def F_migrate_Receive_L1 (x1 : TShard) (x3 : TChunk) (J16 : (List TPair) → Option (TShard × Int)) : Nat → (List TPair) → Int → Option (TShard × Int)
  | 0, _, _ => none
  | n32 + 1, x30, x31 => (cond (decide (x31 < (((x1.Pairs).length : Nat) : Int))) (req (0 ≤ x31 ∧ x31 < ((x1.Pairs).length : Int)) (bnd (F_keys_Contains ((⟨x3.Keys.From, x3.Keys.To⟩ : TRange)) ((atI x1.Pairs x31).Key)) fun x38 => (jn (fun (x40 : List TPair) => (F_migrate_Receive_L1 x1 x3 J16 n32 x40 ((IntKind.i64.wrap (x31 + (1 : Int)))))) (fun J41 => (cond (!x38) (req (((x30 ++ [(atI x1.Pairs x31)])).length * 48 ≤ 140737488355328) (J41 ((x30 ++ [(atI x1.Pairs x31)])))) (J41 x30)))))) (J16 x30))

def F_migrate_Receive (x1 : TShard) (x3 : TChunk) : Option (TShard × Int) :=
  (bnd (gcall (((x1.Node != x3.To)) == false) (F_state_Valid x1.Pairs)) fun x5 => (bnd (gcall ((((x1.Node != x3.To) || (!x5))) == false) (F_keys_ValidRange ((⟨x3.Keys.From, x3.Keys.To⟩ : TRange)))) fun x6 => (bnd (gcall (((((x1.Node != x3.To) || (!x5)) || (!x6))) == false) (F_state_Valid x3.Pairs)) fun x7 => (bnd (gcall ((((((x1.Node != x3.To) || (!x5)) || (!x6)) || (!x7))) == false) (F_state_Slice x3.Pairs ((⟨x3.Keys.From, x3.Keys.To⟩ : TRange)))) fun x8 => (cond (((((x1.Node != x3.To) || (!x5)) || (!x6)) || (!x7)) || ((((x8).length : Nat) : Int) != (((x3.Pairs).length : Nat) : Int))) (some ((⟨0, ([] : List TPair)⟩ : TShard), (1 : Int))) (jn (fun (x15 : List TPair) => (bnd (F_state_Union x15 x3.Pairs) fun x23 => (cond (x23.2 != (0 : Int)) (some ((⟨0, ([] : List TPair)⟩ : TShard), x23.2)) (some ((⟨x1.Node, x23.1⟩ : TShard), (0 : Int)))))) (fun J16 => (F_migrate_Receive_L1 x1 x3 J16 (((((x1.Pairs).length : Nat) : Int)).toNat + 1) (([] : List TPair)) ((0 : Int))))))))))

set_option maxRecDepth 100000 in
theorem W_migrate_Receive {V : View} (x1 : TShard) (x3 : TChunk) {a2 : Option Addr} {k2 : Nat} {a4 : Option Addr} {k4 : Nat} (h2 : SlAt cTPair V a2 k2 x1.Pairs) (h4 : SlAt cTPair V a4 k4 x3.Pairs) {r : TShard × Int} (hF : F_migrate_Receive x1 x3 = some r) :
    Spec Try.prog 16 [.agg ⟨[.int .i64 (x1.Node), .slice a2 ((x1.Pairs).length) (k2)]⟩, .agg ⟨[.int .i64 (x3.Part), .int .i64 (x3.From), .int .i64 (x3.To), .string ⟨⟨x3.Keys.From⟩⟩, .string ⟨⟨x3.Keys.To⟩⟩, .slice a4 ((x3.Pairs).length) (k4), .bool (x3.Last)]⟩] V (fun V' v => ∃ (a47 : Option Addr) (k47 : Nat), v = .tuple ⟨[.agg ⟨[.int .i64 (r.1.Node), .slice a47 ((r.1.Pairs).length) (k47)]⟩, .int .i64 (r.2)]⟩ ∧ SlAt cTPair V' a47 k47 r.1.Pairs) := by
  unfold F_migrate_Receive at hF
  refine Spec.enter (T := tyT) Try.func16 rfl (by kernel_rfl) rfl rfl rfl ?_
  refine Exec.run tyOk 400 rfl ?_
  refine Exec.draws tyOk [(0, true), (1, true), (2, true), (3, true), (4, true), (5, true), (6, true), (7, true), (8, false), (9, false), (10, false), (11, false), (12, false), (13, false), (14, false), (15, false), (16, false), (17, false), (18, false), (19, false), (20, false), (21, false), (22, false), (23, false), (24, true), (25, true), (26, true), (27, true), (30, true), (31, true), (32, true), (28, false), (29, false), (33, false), (34, false)] rfl (by kernel_rfl) ?_
  refine Exec.run tyOk 400 rfl ?_
  obtain ⟨x5, hx5, hF⟩ := bnd_some hF
  refine Exec.callS (.bool (x5)) rfl rfl (fun gg0 => W_state_Valid x1.Pairs h2 (gcall_some hx5 (gd1_of gg0))) ?_
  refine Exec.run tyOk 400 rfl ?_
  obtain ⟨x6, hx6, hF⟩ := bnd_some hF
  refine Exec.callS (.bool (x6)) rfl rfl (fun gg0 => W_keys_ValidRange ((⟨x3.Keys.From, x3.Keys.To⟩ : TRange))  (gcall_some hx6 (gd1_of gg0))) ?_
  refine Exec.run tyOk 400 rfl ?_
  obtain ⟨x7, hx7, hF⟩ := bnd_some hF
  refine Exec.callS (.bool (x7)) rfl rfl (fun gg0 => W_state_Valid x3.Pairs h4 (gcall_some hx7 (gd1_of gg0))) ?_
  refine Exec.run tyOk 400 rfl ?_
  obtain ⟨x8, hx8, hF⟩ := bnd_some hF
  refine Exec.callG (fun y : Option Addr × Nat => .slice y.1 ((x8).length) (y.2)) (none, 0) (R := fun V' y => SlAt cTPair V' y.1 y.2 x8) rfl rfl rfl (fun gg0 => (W_state_Slice x3.Pairs ((⟨x3.Keys.From, x3.Keys.To⟩ : TRange)) h4 (gcall_some hx8 (gd1_of gg0))).mono (fun V' _ _ ⟨a9, k9, e1, h9⟩ => ⟨⟨a9, k9⟩, e1, h9⟩)) ?_
  rintro V10 ⟨a9, k9⟩ hv10 hg10
  have h9 : SlAt cTPair V10 a9 k9 x8 := gslat1 hx8 (fun gg0 => (hg10 gg0))
  have h11 := SlAt.mono h2 hv10
  have h12 := SlAt.mono h4 hv10
  refine Exec.run tyOk 400 rfl ?_
  rcases cond_some hF with ⟨hb, hF⟩ | ⟨hb, hF⟩
  · skip
    refine Exec.ifT rfl hb ?_
    refine Exec.run tyOk 400 rfl ?_
    obtain rfl := some_inj hF
    exact Exec.ret tyOk rfl rfl ⟨_, _, rfl, SlAt.nil⟩
  · skip
    refine Exec.ifF rfl hb ?_
    refine Exec.run tyOk 13 rfl ?_
    refine Exec.row0 68 4 rfl ?_
    have h13 : RowRep cTPair V10 ([] : List TPair) [] := RowRep.nil
    obtain ⟨J16, hJ16, hF⟩ := jn_some hF
    refine Exec.seam (fun L' V' M' => ∃ (x15 : List TPair) (a14 : Option Addr) (k14 : Nat) (cs14 : List Value), L' = [(2, .ptr 0 0), (3, .ptr 1 0), (4, .ptr 2 0), (6, .v (.slice a14 ((x15).length) (k14)))] ∧ M' = [.blk [.v (.int .i64 (x1.Node)), .v (.slice a2 ((x1.Pairs).length) (k2))] 37, .blk [.v (.int .i64 (x3.Part)), .v (.int .i64 (x3.From)), .v (.int .i64 (x3.To)), .v (.string ⟨⟨x3.Keys.From⟩⟩), .v (.string ⟨⟨x3.Keys.To⟩⟩), .v (.slice a4 ((x3.Pairs).length) (k4)), .v (.bool (x3.Last))] 41, .blk [.v (.int .i64 (0)), .v (.slice none (0) (0))] 37, .row (.slice a14 ((x15).length) (k14)) cs14 68 4] ∧ RowRep cTPair V' x15 cs14 ∧ SlAt cTPair V' a2 k2 x1.Pairs ∧ SlAt cTPair V' a4 k4 x3.Pairs ∧ J16 x15 = some r) rfl ?_ ?_
    · rintro L' V17 M' ⟨x15, a14, k14, cs14, rfl, rfl, h14, h18, h19, hF⟩
      subst hJ16
      refine Exec.run tyOk 400 rfl ?_
      refine Exec.frz 3 rfl rfl rfl (fun V20 hv20 hd20 hn20 => ?_)
      have hz20 := RowRep.slat h14 hv20 hd20 hn20
      have h21 := SlAt.mono h19 hv20
      have h22 := SlAt.mono h18 hv20
      obtain ⟨x23, hx23, hF⟩ := bnd_some hF
      refine Exec.call rfl rfl (W_state_Union x15 x3.Pairs hz20 h21 hx23) ?_
      rintro V25 _ hv25 ⟨a24, k24, rfl, h24⟩
      have h26 := SlAt.mono hz20 hv25
      have h27 := SlAt.mono h21 hv25
      have h28 := SlAt.mono h22 hv25
      refine Exec.run tyOk 400 rfl ?_
      rcases cond_some hF with ⟨hb, hF⟩ | ⟨hb, hF⟩
      · skip
        refine Exec.ifT rfl hb ?_
        refine Exec.run tyOk 400 rfl ?_
        obtain rfl := some_inj hF
        exact Exec.ret tyOk rfl rfl ⟨_, _, rfl, SlAt.nil⟩
      · skip
        refine Exec.ifF rfl hb ?_
        refine Exec.run tyOk 400 rfl ?_
        obtain rfl := some_inj hF
        exact Exec.ret tyOk rfl rfl ⟨_, _, rfl, h24⟩
    · skip
      refine Exec.run tyOk 400 rfl ?_
      refine Exec.loop (fun n32 L' V' M' => ∃ (x30 : List TPair) (a29 : Option Addr) (k29 : Nat) (cs29 : List Value) (x31 : Int), L' = [(2, .ptr 0 0), (3, .ptr 1 0), (4, .ptr 2 0), (6, .v (.slice a29 ((x30).length) (k29))), (48, .v (.slice a2 ((x1.Pairs).length) (k2))), (49, .v (.int .i64 ((((x1.Pairs).length : Nat) : Int)))), (50, .v (.int .i64 (x31)))] ∧ M' = [.blk [.v (.int .i64 (x1.Node)), .v (.slice a2 ((x1.Pairs).length) (k2))] 37, .blk [.v (.int .i64 (x3.Part)), .v (.int .i64 (x3.From)), .v (.int .i64 (x3.To)), .v (.string ⟨⟨x3.Keys.From⟩⟩), .v (.string ⟨⟨x3.Keys.To⟩⟩), .v (.slice a4 ((x3.Pairs).length) (k4)), .v (.bool (x3.Last))] 41, .blk [.v (.int .i64 (0)), .v (.slice none (0) (0))] 37, .row (.slice a29 ((x30).length) (k29)) cs29 68 4] ∧ RowRep cTPair V' x30 cs29 ∧ SlAt cTPair V' a2 k2 x1.Pairs ∧ SlAt cTPair V' a4 k4 x3.Pairs ∧ F_migrate_Receive_L1 x1 x3 J16 n32 x30 x31 = some r) ⟨(((((x1.Pairs).length : Nat) : Int)).toNat + 1), [(2, .ptr 0 0), (3, .ptr 1 0), (4, .ptr 2 0), (6, .v (.slice none ((([] : List TPair)).length) (0))), (48, .v (.slice a2 ((x1.Pairs).length) (k2))), (49, .v (.int .i64 ((((x1.Pairs).length : Nat) : Int)))), (50, .v (.int .i64 ((0 : Int))))], ⟨rfl, rfl, rfl, rfl, rfl, rfl, rfl, trivial⟩, ([] : List TPair), none, 0, [], (0 : Int), rfl, rfl, h13, h11, h12, hF⟩ ?_
      rintro n32 L' V33 M' ⟨x30, a29, k29, cs29, x31, rfl, rfl, h29, h34, h35, hF⟩
      rcases n32 with _ | n32
      · exact absurd hF (by simp [F_migrate_Receive_L1])
      rw [F_migrate_Receive_L1] at hF
      refine Exec.run tyOk 400 rfl ?_
      rcases cond_some hF with ⟨hb, hF⟩ | ⟨hb, hF⟩
      · skip
        refine Exec.ifT rfl hb ?_
        refine Exec.run tyOk 400 rfl ?_
        obtain ⟨q36, hF⟩ := req_some hF
        obtain ⟨c37, hr37, hd37⟩ := SlAt.get h34 q36
        obtain rfl := hr37
        refine Exec.ia tyOk rfl rfl ⟨q36.1, q36.2, hd37.some⟩ ?_
        refine Exec.run tyOk 400 rfl ?_
        refine Exec.ld tyOk (x := .agg ⟨[.string ⟨⟨(atI x1.Pairs x31).Key⟩⟩, .int .i64 ((atI x1.Pairs x31).Val.Kind), .int .i64 ((atI x1.Pairs x31).Val.N), .string ⟨⟨(atI x1.Pairs x31).Val.S⟩⟩]⟩) rfl rfl hd37 rfl rfl ?_
        refine Exec.run tyOk 400 rfl ?_
        obtain ⟨x38, hx38, hF⟩ := bnd_some hF
        refine Exec.callS (.bool (x38)) rfl rfl (W_keys_Contains ((⟨x3.Keys.From, x3.Keys.To⟩ : TRange)) ((atI x1.Pairs x31).Key)  hx38) ?_
        refine Exec.run tyOk 400 rfl ?_
        obtain ⟨J41, hJ41, hF⟩ := jn_some hF
        refine Exec.seam (fun L' V' M' => ∃ (x40 : List TPair) (a39 : Option Addr) (k39 : Nat) (cs39 : List Value), L' = [(2, .ptr 0 0), (3, .ptr 1 0), (4, .ptr 2 0), (6, .v (.slice a39 ((x40).length) (k39))), (48, .v (.slice a2 ((x1.Pairs).length) (k2))), (49, .v (.int .i64 ((((x1.Pairs).length : Nat) : Int)))), (50, .v (.int .i64 (x31)))] ∧ M' = [.blk [.v (.int .i64 (x1.Node)), .v (.slice a2 ((x1.Pairs).length) (k2))] 37, .blk [.v (.int .i64 (x3.Part)), .v (.int .i64 (x3.From)), .v (.int .i64 (x3.To)), .v (.string ⟨⟨x3.Keys.From⟩⟩), .v (.string ⟨⟨x3.Keys.To⟩⟩), .v (.slice a4 ((x3.Pairs).length) (k4)), .v (.bool (x3.Last))] 41, .blk [.v (.int .i64 (0)), .v (.slice none (0) (0))] 37, .row (.slice a39 ((x40).length) (k39)) cs39 68 4] ∧ RowRep cTPair V' x40 cs39 ∧ SlAt cTPair V' a2 k2 x1.Pairs ∧ SlAt cTPair V' a4 k4 x3.Pairs ∧ J41 x40 = some r) rfl ?_ ?_
        · rintro L' V42 M' ⟨x40, a39, k39, cs39, rfl, rfl, h39, h43, h44, hF⟩
          subst hJ41
          refine Exec.run tyOk 400 rfl ?_
          exact Exec.round [(2, .ptr 0 0), (3, .ptr 1 0), (4, .ptr 2 0), (6, .v (.slice a39 ((x40).length) (k39))), (48, .v (.slice a2 ((x1.Pairs).length) (k2))), (49, .v (.int .i64 ((((x1.Pairs).length : Nat) : Int)))), (50, .v (.int .i64 ((IntKind.i64.wrap (x31 + (1 : Int))))))] ⟨rfl, rfl, rfl, rfl, rfl, rfl, rfl, trivial⟩ ⟨n32, Nat.lt_succ_self _, x40, a39, k39, cs39, (IntKind.i64.wrap (x31 + (1 : Int))), rfl, rfl, h39, h43, h44, hF⟩
        · skip
          refine Exec.run tyOk 400 rfl ?_
          rcases cond_some hF with ⟨hb, hF⟩ | ⟨hb, hF⟩
          · skip
            refine Exec.ifT rfl hb ?_
            refine Exec.run tyOk 400 rfl ?_
            refine Exec.bsl tyOk rfl rfl ?_
            refine Exec.run tyOk 400 rfl ?_
            obtain ⟨q46, hF⟩ := req_some hF
            refine Exec.app tyOk 3 5 (nm := ((x30 ++ [(atI x1.Pairs x31)])).length) rfl rfl rfl rfl rfl rfl rfl rfl rfl (by simp) (fun _ _ => rfl) rfl q46 (fun a45 k45 => ?_)
            have h45 : RowRep cTPair V33 (x30 ++ [(atI x1.Pairs x31)]) (cs29 ++ [.string ⟨⟨(atI x1.Pairs x31).Key⟩⟩, .int .i64 ((atI x1.Pairs x31).Val.Kind), .int .i64 ((atI x1.Pairs x31).Val.N), .string ⟨⟨(atI x1.Pairs x31).Val.S⟩⟩]) := RowRep.app h29 ⟨_, _, rfl, rfl, rfl⟩
            refine Exec.run tyOk 400 rfl ?_
            refine Exec.cut 4 [(2, .ptr 0 0), (3, .ptr 1 0), (4, .ptr 2 0), (6, .v (.slice a45 (((x30 ++ [(atI x1.Pairs x31)])).length) (k45))), (48, .v (.slice a2 ((x1.Pairs).length) (k2))), (49, .v (.int .i64 ((((x1.Pairs).length : Nat) : Int)))), (50, .v (.int .i64 (x31)))] (M' := [.blk [.v (.int .i64 (x1.Node)), .v (.slice a2 ((x1.Pairs).length) (k2))] 37, .blk [.v (.int .i64 (x3.Part)), .v (.int .i64 (x3.From)), .v (.int .i64 (x3.To)), .v (.string ⟨⟨x3.Keys.From⟩⟩), .v (.string ⟨⟨x3.Keys.To⟩⟩), .v (.slice a4 ((x3.Pairs).length) (k4)), .v (.bool (x3.Last))] 41, .blk [.v (.int .i64 (0)), .v (.slice none (0) (0))] 37, .row (.slice a45 (((x30 ++ [(atI x1.Pairs x31)])).length) (k45)) ((cs29 ++ [.string ⟨⟨(atI x1.Pairs x31).Key⟩⟩, .int .i64 ((atI x1.Pairs x31).Val.Kind), .int .i64 ((atI x1.Pairs x31).Val.N), .string ⟨⟨(atI x1.Pairs x31).Val.S⟩⟩])) 68 4]) rfl ⟨rfl, rfl, rfl, rfl, rfl, rfl, rfl, trivial⟩ rfl rfl rfl ?_
            exact Exec.round [(2, .ptr 0 0), (3, .ptr 1 0), (4, .ptr 2 0), (6, .v (.slice a45 (((x30 ++ [(atI x1.Pairs x31)])).length) (k45))), (48, .v (.slice a2 ((x1.Pairs).length) (k2))), (49, .v (.int .i64 ((((x1.Pairs).length : Nat) : Int)))), (50, .v (.int .i64 (x31)))] ⟨rfl, rfl, rfl, rfl, rfl, rfl, rfl, trivial⟩ ⟨(x30 ++ [(atI x1.Pairs x31)]), a45, k45, (cs29 ++ [.string ⟨⟨(atI x1.Pairs x31).Key⟩⟩, .int .i64 ((atI x1.Pairs x31).Val.Kind), .int .i64 ((atI x1.Pairs x31).Val.N), .string ⟨⟨(atI x1.Pairs x31).Val.S⟩⟩]), rfl, rfl, h45, h34, h35, hF⟩
          · skip
            refine Exec.ifF rfl hb ?_
            refine Exec.run tyOk 400 rfl ?_
            refine Exec.cut 4 [(2, .ptr 0 0), (3, .ptr 1 0), (4, .ptr 2 0), (6, .v (.slice a29 ((x30).length) (k29))), (48, .v (.slice a2 ((x1.Pairs).length) (k2))), (49, .v (.int .i64 ((((x1.Pairs).length : Nat) : Int)))), (50, .v (.int .i64 (x31)))] (M' := [.blk [.v (.int .i64 (x1.Node)), .v (.slice a2 ((x1.Pairs).length) (k2))] 37, .blk [.v (.int .i64 (x3.Part)), .v (.int .i64 (x3.From)), .v (.int .i64 (x3.To)), .v (.string ⟨⟨x3.Keys.From⟩⟩), .v (.string ⟨⟨x3.Keys.To⟩⟩), .v (.slice a4 ((x3.Pairs).length) (k4)), .v (.bool (x3.Last))] 41, .blk [.v (.int .i64 (0)), .v (.slice none (0) (0))] 37, .row (.slice a29 ((x30).length) (k29)) cs29 68 4]) rfl ⟨rfl, rfl, rfl, rfl, rfl, rfl, rfl, trivial⟩ rfl rfl rfl ?_
            exact Exec.round [(2, .ptr 0 0), (3, .ptr 1 0), (4, .ptr 2 0), (6, .v (.slice a29 ((x30).length) (k29))), (48, .v (.slice a2 ((x1.Pairs).length) (k2))), (49, .v (.int .i64 ((((x1.Pairs).length : Nat) : Int)))), (50, .v (.int .i64 (x31)))] ⟨rfl, rfl, rfl, rfl, rfl, rfl, rfl, trivial⟩ ⟨x30, a29, k29, cs29, rfl, rfl, h29, h34, h35, hF⟩
      · skip
        refine Exec.ifF rfl hb ?_
        refine Exec.run tyOk 400 rfl ?_
        exact Exec.round [(2, .ptr 0 0), (3, .ptr 1 0), (4, .ptr 2 0), (6, .v (.slice a29 ((x30).length) (k29)))] ⟨rfl, rfl, rfl, rfl, trivial⟩ ⟨x30, a29, k29, cs29, rfl, rfl, h29, h34, h35, hF⟩

def F_clockworkref32_Load_L2 (x3 : List TPair) (x22 : Int) (x7 : List Int) (x1 : TPlacement) (J35 : (List TShard) → (List TPair) → Option (List TShard)) : Nat → (List TShard) → (List TPair) → Int → Option (List TShard)
  | 0, _, _, _ => none
  | n52 + 1, x48, x50, x51 => (cond (decide (x51 < (((x3).length : Nat) : Int))) (req (0 ≤ x51 ∧ x51 < ((x3).length : Int)) (req (0 ≤ x22 ∧ x22 < ((x7).length : Int)) (bnd (F_clockworkref29_Owner x1 ((atI x3 x51).Key)) fun x61 => (jn (fun (x63 : List TShard) (x65 : List TPair) => (F_clockworkref32_Load_L2 x3 x22 x7 x1 J35 n52 x63 x65 ((IntKind.i64.wrap (x51 + (1 : Int)))))) (fun J66 => (cond (x61 == (atI x7 x22)) (req (0 ≤ x51 ∧ x51 < ((x3).length : Int)) (req (((x50 ++ [(atI x3 x51)])).length * 48 ≤ 140737488355328) (J66 x48 ((x50 ++ [(atI x3 x51)]))))) (J66 x48 x50))))))) (J35 x48 x50))

def F_clockworkref32_Load_L1 (x7 : List Int) (x3 : List TPair) (x1 : TPlacement) (J15 : (List TShard) → Option (List TShard)) : Nat → (List TShard) → Int → Option (List TShard)
  | 0, _, _ => none
  | n23 + 1, x21, x22 => (cond (decide (x22 < (((x7).length : Nat) : Int))) (req (0 ≤ x22 ∧ x22 < ((x7).length : Int)) (jn (fun (x32 : List TShard) (x34 : List TPair) => (req (((x32 ++ [(⟨(atI x7 x22), x34⟩ : TShard)])).length * 32 ≤ 140737488355328) (F_clockworkref32_Load_L1 x7 x3 x1 J15 n23 ((x32 ++ [(⟨(atI x7 x22), x34⟩ : TShard)])) ((IntKind.i64.wrap (x22 + (1 : Int))))))) (fun J35 => (F_clockworkref32_Load_L2 x3 x22 x7 x1 J35 (((((x3).length : Nat) : Int)).toNat + 1) x21 (([] : List TPair)) ((0 : Int)))))) (J15 x21))

def F_clockworkref32_Load (x1 : TPlacement) (x3 : List TPair) : Option (List TShard) :=
  (bnd (F_clockworkref29_Valid x1) fun x5 => (bnd (gcall (((!x5)) == false) (F_clockworkref06_Valid x3)) fun x6 => (cond ((!x5) || (!x6)) (some ([] : List TShard)) (bnd (F_clockworkref29_Nodes x1) fun x7 => (jn (fun (x14 : List TShard) => (some x14)) (fun J15 => (F_clockworkref32_Load_L1 x7 x3 x1 J15 (((((x7).length : Nat) : Int)).toNat + 1) (([] : List TShard)) ((0 : Int)))))))))

set_option maxRecDepth 100000 in
theorem W_clockworkref32_Load {V : View} (x1 : TPlacement) (x3 : List TPair) {a2 : Option Addr} {k2 : Nat} {a4 : Option Addr} {k4 : Nat} (h2 : SlAt cTPart V a2 k2 x1.Parts) (h4 : SlAt cTPair V a4 k4 x3) {r : List TShard} (hF : F_clockworkref32_Load x1 x3 = some r) :
    Spec Try.prog 24 [.agg ⟨[.int .i64 (x1.Version), .slice a2 ((x1.Parts).length) (k2)]⟩, .slice a4 ((x3).length) (k4)] V (fun V' v => ∃ (a75 : Option Addr) (k75 : Nat), v = .slice a75 ((r).length) (k75) ∧ SlAt cTShard V' a75 k75 r) := by
  unfold F_clockworkref32_Load at hF
  refine Spec.enter (T := tyT) Try.func24 rfl (by kernel_rfl) rfl rfl rfl ?_
  refine Exec.run tyOk 400 rfl ?_
  obtain ⟨x5, hx5, hF⟩ := bnd_some hF
  refine Exec.callS (.bool (x5)) rfl rfl (W_clockworkref29_Valid x1 h2 hx5) ?_
  refine Exec.run tyOk 400 rfl ?_
  obtain ⟨x6, hx6, hF⟩ := bnd_some hF
  refine Exec.callS (.bool (x6)) rfl rfl (fun gg0 => W_clockworkref06_Valid x3 h4 (gcall_some hx6 (gd1_of gg0))) ?_
  refine Exec.run tyOk 400 rfl ?_
  rcases cond_some hF with ⟨hb, hF⟩ | ⟨hb, hF⟩
  · skip
    refine Exec.ifT rfl hb ?_
    refine Exec.run tyOk 400 rfl ?_
    obtain rfl := some_inj hF
    exact Exec.ret tyOk rfl rfl ⟨_, _, rfl, SlAt.nil⟩
  · skip
    refine Exec.ifF rfl hb ?_
    refine Exec.run tyOk 400 rfl ?_
    obtain ⟨x7, hx7, hF⟩ := bnd_some hF
    refine Exec.call rfl rfl (W_clockworkref29_Nodes x1 h2 hx7) ?_
    rintro V9 _ hv9 ⟨a8, k8, rfl, h8⟩
    have h10 := SlAt.mono h2 hv9
    have h11 := SlAt.mono h4 hv9
    refine Exec.run tyOk 11 rfl ?_
    refine Exec.row0 37 2 rfl ?_
    have h12 : RowRep cTShard V9 ([] : List TShard) [] := RowRep.nil
    obtain ⟨J15, hJ15, hF⟩ := jn_some hF
    refine Exec.seam (fun L' V' M' => ∃ (x14 : List TShard) (a13 : Option Addr) (k13 : Nat) (cs13 : List Value), L' = [(6, .v (.slice a13 ((x14).length) (k13)))] ∧ M' = [.blk [.v (.int .i64 (x1.Version)), .v (.slice a2 ((x1.Parts).length) (k2))] 24, .row (.slice a13 ((x14).length) (k13)) cs13 37 2] ∧ RowRep cTShard V' x14 cs13 ∧ SlAt cTPart V' a2 k2 x1.Parts ∧ J15 x14 = some r) rfl ?_ ?_
    · rintro L' V16 M' ⟨x14, a13, k13, cs13, rfl, rfl, h13, h17, hF⟩
      subst hJ15
      refine Exec.run tyOk 400 rfl ?_
      refine Exec.frz 1 rfl rfl rfl (fun V18 hv18 hd18 hn18 => ?_)
      have hz18 := RowRep.slat h13 hv18 hd18 hn18
      have h19 := SlAt.mono h17 hv18
      obtain rfl := some_inj hF
      exact Exec.ret tyOk rfl rfl ⟨_, _, rfl, hz18⟩
    · skip
      refine Exec.run tyOk 400 rfl ?_
      refine Exec.loop (fun n23 L' V' M' => ∃ (x21 : List TShard) (a20 : Option Addr) (k20 : Nat) (cs20 : List Value) (x22 : Int), L' = [(1, .v (.slice a4 ((x3).length) (k4))), (2, .ptr 0 0), (5, .v (.slice a8 ((x7).length) (k8))), (6, .v (.slice a20 ((x21).length) (k20))), (7, .v (.int .i64 (x22)))] ∧ M' = [.blk [.v (.int .i64 (x1.Version)), .v (.slice a2 ((x1.Parts).length) (k2))] 24, .row (.slice a20 ((x21).length) (k20)) cs20 37 2] ∧ RowRep cTShard V' x21 cs20 ∧ SlAt cTPair V' a4 k4 x3 ∧ SlAt (cInt .i64) V' a8 k8 x7 ∧ SlAt cTPart V' a2 k2 x1.Parts ∧ F_clockworkref32_Load_L1 x7 x3 x1 J15 n23 x21 x22 = some r) ⟨(((((x7).length : Nat) : Int)).toNat + 1), [(1, .v (.slice a4 ((x3).length) (k4))), (2, .ptr 0 0), (5, .v (.slice a8 ((x7).length) (k8))), (6, .v (.slice none ((([] : List TShard)).length) (0))), (7, .v (.int .i64 ((0 : Int))))], ⟨rfl, rfl, rfl, rfl, rfl, trivial⟩, ([] : List TShard), none, 0, [], (0 : Int), rfl, rfl, h12, h11, h8, h10, hF⟩ ?_
      rintro n23 L' V24 M' ⟨x21, a20, k20, cs20, x22, rfl, rfl, h20, h25, h26, h27, hF⟩
      rcases n23 with _ | n23
      · exact absurd hF (by simp [F_clockworkref32_Load_L1])
      rw [F_clockworkref32_Load_L1] at hF
      refine Exec.run tyOk 400 rfl ?_
      rcases cond_some hF with ⟨hb, hF⟩ | ⟨hb, hF⟩
      · skip
        refine Exec.ifT rfl hb ?_
        refine Exec.run tyOk 400 rfl ?_
        obtain ⟨q28, hF⟩ := req_some hF
        obtain ⟨c29, hr29, hd29⟩ := SlAt.get h26 q28
        obtain rfl := hr29
        refine Exec.ia tyOk rfl rfl ⟨q28.1, q28.2, hd29.some⟩ ?_
        refine Exec.run tyOk 400 rfl ?_
        refine Exec.ld tyOk (x := .int .i64 ((atI x7 x22))) rfl rfl hd29 rfl rfl ?_
        refine Exec.run tyOk 9 rfl ?_
        refine Exec.row0 68 4 rfl ?_
        have h30 : RowRep cTPair V24 ([] : List TPair) [] := RowRep.nil
        obtain ⟨J35, hJ35, hF⟩ := jn_some hF
        refine Exec.seam (fun L' V' M' => ∃ (x32 : List TShard) (a31 : Option Addr) (k31 : Nat) (cs31 : List Value) (x34 : List TPair) (a33 : Option Addr) (k33 : Nat) (cs33 : List Value), L' = [(1, .v (.slice a4 ((x3).length) (k4))), (2, .ptr 0 0), (5, .v (.slice a8 ((x7).length) (k8))), (6, .v (.slice a31 ((x32).length) (k31))), (7, .v (.int .i64 (x22))), (8, .ptr 2 0)] ∧ M' = [.blk [.v (.int .i64 (x1.Version)), .v (.slice a2 ((x1.Parts).length) (k2))] 24, .row (.slice a31 ((x32).length) (k31)) cs31 37 2, .blk [.v (.int .i64 ((atI x7 x22))), .v (.slice a33 ((x34).length) (k33))] 37, .row (.slice a33 ((x34).length) (k33)) cs33 68 4] ∧ RowRep cTShard V' x32 cs31 ∧ RowRep cTPair V' x34 cs33 ∧ SlAt cTPair V' a4 k4 x3 ∧ SlAt (cInt .i64) V' a8 k8 x7 ∧ SlAt cTPart V' a2 k2 x1.Parts ∧ J35 x32 x34 = some r) rfl ?_ ?_
        · rintro L' V36 M' ⟨x32, a31, k31, cs31, x34, a33, k33, cs33, rfl, rfl, h31, h33, h37, h38, h39, hF⟩
          subst hJ35
          refine Exec.run tyOk 400 rfl ?_
          refine Exec.frz 3 rfl rfl rfl (fun V40 hv40 hd40 hn40 => ?_)
          have hz40 := RowRep.slat h33 hv40 hd40 hn40
          have h41 := SlAt.mono h37 hv40
          have h42 := SlAt.mono h38 hv40
          have h43 := SlAt.mono h39 hv40
          have h44 := RowRep.mono hv40 h31
          refine Exec.bsl tyOk rfl rfl ?_
          refine Exec.run tyOk 400 rfl ?_
          obtain ⟨q46, hF⟩ := req_some hF
          refine Exec.app tyOk 1 4 (nm := ((x32 ++ [(⟨(atI x7 x22), x34⟩ : TShard)])).length) rfl rfl rfl rfl rfl rfl rfl rfl rfl (by simp) (fun _ _ => rfl) rfl q46 (fun a45 k45 => ?_)
          have h45 : RowRep cTShard V40 (x32 ++ [(⟨(atI x7 x22), x34⟩ : TShard)]) (cs31 ++ [.int .i64 ((atI x7 x22)), .slice a33 ((x34).length) (k33)]) := RowRep.app h44 ⟨_, _, rfl, ⟨_, _, rfl, hz40⟩, rfl⟩
          refine Exec.run tyOk 400 rfl ?_
          refine Exec.cut 2 [(1, .v (.slice a4 ((x3).length) (k4))), (2, .ptr 0 0), (5, .v (.slice a8 ((x7).length) (k8))), (6, .v (.slice a45 (((x32 ++ [(⟨(atI x7 x22), x34⟩ : TShard)])).length) (k45))), (7, .v (.int .i64 ((IntKind.i64.wrap (x22 + (1 : Int))))))] (M' := [.blk [.v (.int .i64 (x1.Version)), .v (.slice a2 ((x1.Parts).length) (k2))] 24, .row (.slice a45 (((x32 ++ [(⟨(atI x7 x22), x34⟩ : TShard)])).length) (k45)) ((cs31 ++ [.int .i64 ((atI x7 x22)), .slice a33 ((x34).length) (k33)])) 37 2]) rfl ⟨rfl, rfl, rfl, rfl, rfl, trivial⟩ rfl rfl rfl ?_
          exact Exec.round [(1, .v (.slice a4 ((x3).length) (k4))), (2, .ptr 0 0), (5, .v (.slice a8 ((x7).length) (k8))), (6, .v (.slice a45 (((x32 ++ [(⟨(atI x7 x22), x34⟩ : TShard)])).length) (k45))), (7, .v (.int .i64 ((IntKind.i64.wrap (x22 + (1 : Int))))))] ⟨rfl, rfl, rfl, rfl, rfl, trivial⟩ ⟨n23, Nat.lt_succ_self _, (x32 ++ [(⟨(atI x7 x22), x34⟩ : TShard)]), a45, k45, (cs31 ++ [.int .i64 ((atI x7 x22)), .slice a33 ((x34).length) (k33)]), (IntKind.i64.wrap (x22 + (1 : Int))), rfl, rfl, h45, h41, h42, h43, hF⟩
        · skip
          refine Exec.run tyOk 400 rfl ?_
          refine Exec.loop (fun n52 L' V' M' => ∃ (x48 : List TShard) (a47 : Option Addr) (k47 : Nat) (cs47 : List Value) (x50 : List TPair) (a49 : Option Addr) (k49 : Nat) (cs49 : List Value) (x51 : Int), L' = [(1, .v (.slice a4 ((x3).length) (k4))), (2, .ptr 0 0), (5, .v (.slice a8 ((x7).length) (k8))), (6, .v (.slice a47 ((x48).length) (k47))), (7, .v (.int .i64 (x22))), (8, .ptr 2 0), (9, .v (.int .i64 (x51)))] ∧ M' = [.blk [.v (.int .i64 (x1.Version)), .v (.slice a2 ((x1.Parts).length) (k2))] 24, .row (.slice a47 ((x48).length) (k47)) cs47 37 2, .blk [.v (.int .i64 ((atI x7 x22))), .v (.slice a49 ((x50).length) (k49))] 37, .row (.slice a49 ((x50).length) (k49)) cs49 68 4] ∧ RowRep cTShard V' x48 cs47 ∧ RowRep cTPair V' x50 cs49 ∧ SlAt cTPair V' a4 k4 x3 ∧ SlAt (cInt .i64) V' a8 k8 x7 ∧ SlAt cTPart V' a2 k2 x1.Parts ∧ F_clockworkref32_Load_L2 x3 x22 x7 x1 J35 n52 x48 x50 x51 = some r) ⟨(((((x3).length : Nat) : Int)).toNat + 1), [(1, .v (.slice a4 ((x3).length) (k4))), (2, .ptr 0 0), (5, .v (.slice a8 ((x7).length) (k8))), (6, .v (.slice a20 ((x21).length) (k20))), (7, .v (.int .i64 (x22))), (8, .ptr 2 0), (9, .v (.int .i64 ((0 : Int))))], ⟨rfl, rfl, rfl, rfl, rfl, rfl, rfl, trivial⟩, x21, a20, k20, cs20, ([] : List TPair), none, 0, [], (0 : Int), rfl, rfl, h20, h30, h25, h26, h27, hF⟩ ?_
          rintro n52 L' V53 M' ⟨x48, a47, k47, cs47, x50, a49, k49, cs49, x51, rfl, rfl, h47, h49, h54, h55, h56, hF⟩
          rcases n52 with _ | n52
          · exact absurd hF (by simp [F_clockworkref32_Load_L2])
          rw [F_clockworkref32_Load_L2] at hF
          refine Exec.run tyOk 400 rfl ?_
          rcases cond_some hF with ⟨hb, hF⟩ | ⟨hb, hF⟩
          · skip
            refine Exec.ifT rfl hb ?_
            refine Exec.run tyOk 400 rfl ?_
            refine Exec.draws tyOk [(0, true), (1, true), (2, true), (3, true), (4, true), (5, true), (7, true), (8, true), (9, true), (10, true), (6, false), (11, false)] rfl (by kernel_rfl) ?_
            refine Exec.run tyOk 400 rfl ?_
            obtain ⟨q57, hF⟩ := req_some hF
            obtain ⟨c58, hr58, hd58⟩ := SlAt.get h54 q57
            obtain rfl := hr58
            refine Exec.fia tyOk rfl rfl rfl ⟨q57.1, q57.2, hd58.some⟩ ?_
            refine Exec.run tyOk 400 rfl ?_
            refine Exec.fld tyOk (x := .string ⟨⟨(atI x3 x51).Key⟩⟩) rfl rfl rfl (RdAt.part hd58 0 1 rfl) rfl rfl ?_
            refine Exec.run tyOk 400 rfl ?_
            obtain ⟨q59, hF⟩ := req_some hF
            obtain ⟨c60, hr60, hd60⟩ := SlAt.get h55 q59
            obtain rfl := hr60
            refine Exec.fia tyOk rfl rfl rfl ⟨q59.1, q59.2, hd60.some⟩ ?_
            refine Exec.run tyOk 400 rfl ?_
            refine Exec.fld tyOk (x := .int .i64 ((atI x7 x22))) rfl rfl rfl hd60 rfl rfl ?_
            refine Exec.run tyOk 400 rfl ?_
            obtain ⟨x61, hx61, hF⟩ := bnd_some hF
            refine Exec.callS (.int .i64 (x61)) rfl rfl (W_clockworkref29_Owner x1 ((atI x3 x51).Key) h56 hx61) ?_
            refine Exec.run tyOk 400 rfl ?_
            obtain ⟨J66, hJ66, hF⟩ := jn_some hF
            refine Exec.seam (fun L' V' M' => ∃ (x63 : List TShard) (a62 : Option Addr) (k62 : Nat) (cs62 : List Value) (x65 : List TPair) (a64 : Option Addr) (k64 : Nat) (cs64 : List Value), L' = [(1, .v (.slice a4 ((x3).length) (k4))), (2, .ptr 0 0), (5, .v (.slice a8 ((x7).length) (k8))), (6, .v (.slice a62 ((x63).length) (k62))), (7, .v (.int .i64 (x22))), (8, .ptr 2 0), (9, .v (.int .i64 (x51)))] ∧ M' = [.blk [.v (.int .i64 (x1.Version)), .v (.slice a2 ((x1.Parts).length) (k2))] 24, .row (.slice a62 ((x63).length) (k62)) cs62 37 2, .blk [.v (.int .i64 ((atI x7 x22))), .v (.slice a64 ((x65).length) (k64))] 37, .row (.slice a64 ((x65).length) (k64)) cs64 68 4] ∧ RowRep cTShard V' x63 cs62 ∧ RowRep cTPair V' x65 cs64 ∧ SlAt cTPair V' a4 k4 x3 ∧ SlAt (cInt .i64) V' a8 k8 x7 ∧ SlAt cTPart V' a2 k2 x1.Parts ∧ J66 x63 x65 = some r) rfl ?_ ?_
            · rintro L' V67 M' ⟨x63, a62, k62, cs62, x65, a64, k64, cs64, rfl, rfl, h62, h64, h68, h69, h70, hF⟩
              subst hJ66
              refine Exec.run tyOk 400 rfl ?_
              exact Exec.round [(1, .v (.slice a4 ((x3).length) (k4))), (2, .ptr 0 0), (5, .v (.slice a8 ((x7).length) (k8))), (6, .v (.slice a62 ((x63).length) (k62))), (7, .v (.int .i64 (x22))), (8, .ptr 2 0), (9, .v (.int .i64 ((IntKind.i64.wrap (x51 + (1 : Int))))))] ⟨rfl, rfl, rfl, rfl, rfl, rfl, rfl, trivial⟩ ⟨n52, Nat.lt_succ_self _, x63, a62, k62, cs62, x65, a64, k64, cs64, (IntKind.i64.wrap (x51 + (1 : Int))), rfl, rfl, h62, h64, h68, h69, h70, hF⟩
            · skip
              refine Exec.run tyOk 400 rfl ?_
              rcases cond_some hF with ⟨hb, hF⟩ | ⟨hb, hF⟩
              · skip
                refine Exec.ifT rfl hb ?_
                refine Exec.run tyOk 400 rfl ?_
                refine Exec.drawsE tyOk [9] [3] [(0, true), (1, true), (2, true), (3, true), (4, true), (5, true), (6, false), (7, false), (8, true), (9, false)] (by kernel_rfl) ?_
                refine Exec.run tyOk 400 rfl ?_
                obtain ⟨q71, hF⟩ := req_some hF
                obtain ⟨c72, hr72, hd72⟩ := SlAt.get h54 q71
                obtain rfl := hr72
                refine Exec.fia tyOk rfl rfl rfl ⟨q71.1, q71.2, hd72.some⟩ ?_
                refine Exec.run tyOk 400 rfl ?_
                refine Exec.fld tyOk (x := .agg ⟨[.string ⟨⟨(atI x3 x51).Key⟩⟩, .int .i64 ((atI x3 x51).Val.Kind), .int .i64 ((atI x3 x51).Val.N), .string ⟨⟨(atI x3 x51).Val.S⟩⟩]⟩) rfl rfl rfl hd72 rfl rfl ?_
                refine Exec.run tyOk 400 rfl ?_
                refine Exec.bsl tyOk rfl rfl ?_
                refine Exec.run tyOk 400 rfl ?_
                obtain ⟨q74, hF⟩ := req_some hF
                refine Exec.app tyOk 3 4 (nm := ((x50 ++ [(atI x3 x51)])).length) rfl rfl rfl rfl rfl rfl rfl rfl rfl (by simp) (fun _ _ => rfl) rfl q74 (fun a73 k73 => ?_)
                have h73 : RowRep cTPair V53 (x50 ++ [(atI x3 x51)]) (cs49 ++ [.string ⟨⟨(atI x3 x51).Key⟩⟩, .int .i64 ((atI x3 x51).Val.Kind), .int .i64 ((atI x3 x51).Val.N), .string ⟨⟨(atI x3 x51).Val.S⟩⟩]) := RowRep.app h49 ⟨_, _, rfl, rfl, rfl⟩
                refine Exec.run tyOk 400 rfl ?_
                refine Exec.cut 4 [(1, .v (.slice a4 ((x3).length) (k4))), (2, .ptr 0 0), (5, .v (.slice a8 ((x7).length) (k8))), (6, .v (.slice a47 ((x48).length) (k47))), (7, .v (.int .i64 (x22))), (8, .ptr 2 0), (9, .v (.int .i64 (x51)))] (M' := [.blk [.v (.int .i64 (x1.Version)), .v (.slice a2 ((x1.Parts).length) (k2))] 24, .row (.slice a47 ((x48).length) (k47)) cs47 37 2, .blk [.v (.int .i64 ((atI x7 x22))), .v (.slice a73 (((x50 ++ [(atI x3 x51)])).length) (k73))] 37, .row (.slice a73 (((x50 ++ [(atI x3 x51)])).length) (k73)) ((cs49 ++ [.string ⟨⟨(atI x3 x51).Key⟩⟩, .int .i64 ((atI x3 x51).Val.Kind), .int .i64 ((atI x3 x51).Val.N), .string ⟨⟨(atI x3 x51).Val.S⟩⟩])) 68 4]) rfl ⟨rfl, rfl, rfl, rfl, rfl, rfl, rfl, trivial⟩ rfl rfl rfl ?_
                exact Exec.round [(1, .v (.slice a4 ((x3).length) (k4))), (2, .ptr 0 0), (5, .v (.slice a8 ((x7).length) (k8))), (6, .v (.slice a47 ((x48).length) (k47))), (7, .v (.int .i64 (x22))), (8, .ptr 2 0), (9, .v (.int .i64 (x51)))] ⟨rfl, rfl, rfl, rfl, rfl, rfl, rfl, trivial⟩ ⟨x48, a47, k47, cs47, (x50 ++ [(atI x3 x51)]), a73, k73, (cs49 ++ [.string ⟨⟨(atI x3 x51).Key⟩⟩, .int .i64 ((atI x3 x51).Val.Kind), .int .i64 ((atI x3 x51).Val.N), .string ⟨⟨(atI x3 x51).Val.S⟩⟩]), rfl, rfl, h47, h73, h54, h55, h56, hF⟩
              · skip
                refine Exec.ifF rfl hb ?_
                refine Exec.run tyOk 400 rfl ?_
                exact Exec.round [(1, .v (.slice a4 ((x3).length) (k4))), (2, .ptr 0 0), (5, .v (.slice a8 ((x7).length) (k8))), (6, .v (.slice a47 ((x48).length) (k47))), (7, .v (.int .i64 (x22))), (8, .ptr 2 0), (9, .v (.int .i64 (x51)))] ⟨rfl, rfl, rfl, rfl, rfl, rfl, rfl, trivial⟩ ⟨x48, a47, k47, cs47, x50, a49, k49, cs49, rfl, rfl, h47, h49, h54, h55, h56, hF⟩
          · skip
            refine Exec.ifF rfl hb ?_
            refine Exec.run tyOk 400 rfl ?_
            exact Exec.round [(1, .v (.slice a4 ((x3).length) (k4))), (2, .ptr 0 0), (5, .v (.slice a8 ((x7).length) (k8))), (6, .v (.slice a47 ((x48).length) (k47))), (7, .v (.int .i64 (x22))), (8, .ptr 2 0)] ⟨rfl, rfl, rfl, rfl, rfl, rfl, trivial⟩ ⟨x48, a47, k47, cs47, x50, a49, k49, cs49, rfl, rfl, h47, h49, h54, h55, h56, hF⟩
      · skip
        refine Exec.ifF rfl hb ?_
        refine Exec.run tyOk 400 rfl ?_
        exact Exec.round [(6, .v (.slice a20 ((x21).length) (k20)))] ⟨rfl, trivial⟩ ⟨x21, a20, k20, cs20, rfl, rfl, h20, h27, hF⟩

def F_clockworkref06_Union_L1 (x3 : List TPair) (x1 : List TPair) (J7 : Option (List TPair × Int)) : Nat → Int → Option (List TPair × Int)
  | 0, _ => none
  | n17 + 1, x16 => (cond (decide (x16 < (((x3).length : Nat) : Int))) (req (0 ≤ x16 ∧ x16 < ((x3).length : Int)) (bnd (F_clockworkref06_Has x1 ((atI x3 x16).Key)) fun x23 => (cond x23 (some (([] : List TPair), (8 : Int))) (F_clockworkref06_Union_L1 x3 x1 J7 n17 ((IntKind.i64.wrap (x16 + (1 : Int)))))))) J7)

def F_clockworkref06_Union (x1 : List TPair) (x3 : List TPair) : Option (List TPair × Int) :=
  (bnd (F_clockworkref06_Valid x1) fun x5 => (bnd (gcall (((!x5)) == false) (F_clockworkref06_Valid x3)) fun x6 => (cond ((!x5) || (!x6)) (some (([] : List TPair), (1 : Int))) (jn ((bnd (F_clockworkref06_Apply x1 x3) fun x11 => (some (x11.1, x11.2)))) (fun J7 => (F_clockworkref06_Union_L1 x3 x1 J7 (((((x3).length : Nat) : Int)).toNat + 1) ((0 : Int))))))))

set_option maxRecDepth 100000 in
theorem W_clockworkref06_Union {V : View} (x1 : List TPair) (x3 : List TPair) {a2 : Option Addr} {k2 : Nat} {a4 : Option Addr} {k4 : Nat} (h2 : SlAt cTPair V a2 k2 x1) (h4 : SlAt cTPair V a4 k4 x3) {r : List TPair × Int} (hF : F_clockworkref06_Union x1 x3 = some r) :
    Spec Try.prog 42 [.slice a2 ((x1).length) (k2), .slice a4 ((x3).length) (k4)] V (fun V' v => ∃ (a24 : Option Addr) (k24 : Nat), v = .tuple ⟨[.slice a24 ((r.1).length) (k24), .int .i64 (r.2)]⟩ ∧ SlAt cTPair V' a24 k24 r.1) := by
  unfold F_clockworkref06_Union at hF
  refine Spec.enter (T := tyT) Try.func42 rfl (by kernel_rfl) rfl rfl rfl ?_
  refine Exec.run tyOk 400 rfl ?_
  obtain ⟨x5, hx5, hF⟩ := bnd_some hF
  refine Exec.callS (.bool (x5)) rfl rfl (W_clockworkref06_Valid x1 h2 hx5) ?_
  refine Exec.run tyOk 400 rfl ?_
  obtain ⟨x6, hx6, hF⟩ := bnd_some hF
  refine Exec.callS (.bool (x6)) rfl rfl (fun gg0 => W_clockworkref06_Valid x3 h4 (gcall_some hx6 (gd1_of gg0))) ?_
  refine Exec.run tyOk 400 rfl ?_
  rcases cond_some hF with ⟨hb, hF⟩ | ⟨hb, hF⟩
  · skip
    refine Exec.ifT rfl hb ?_
    refine Exec.run tyOk 400 rfl ?_
    obtain rfl := some_inj hF
    exact Exec.ret tyOk rfl rfl ⟨_, _, rfl, SlAt.nil⟩
  · skip
    refine Exec.ifF rfl hb ?_
    refine Exec.run tyOk 6 rfl ?_
    obtain ⟨J7, hJ7, hF⟩ := jn_some hF
    refine Exec.seam (fun L' V' M' => L' = [(0, .v (.slice a2 ((x1).length) (k2))), (1, .v (.slice a4 ((x3).length) (k4)))] ∧ M' = [] ∧ SlAt cTPair V' a2 k2 x1 ∧ SlAt cTPair V' a4 k4 x3 ∧ J7 = some r) rfl ?_ ?_
    · rintro L' V8 M' ⟨rfl, rfl, h9, h10, hF⟩
      subst hJ7
      refine Exec.run tyOk 400 rfl ?_
      obtain ⟨x11, hx11, hF⟩ := bnd_some hF
      refine Exec.call rfl rfl (W_clockworkref06_Apply x1 x3 h9 h10 hx11) ?_
      rintro V13 _ hv13 ⟨a12, k12, rfl, h12⟩
      have h14 := SlAt.mono h9 hv13
      have h15 := SlAt.mono h10 hv13
      refine Exec.run tyOk 400 rfl ?_
      obtain rfl := some_inj hF
      exact Exec.ret tyOk rfl rfl ⟨_, _, rfl, h12⟩
    · skip
      refine Exec.run tyOk 400 rfl ?_
      refine Exec.loop (fun n17 L' V' M' => ∃ (x16 : Int), L' = [(0, .v (.slice a2 ((x1).length) (k2))), (1, .v (.slice a4 ((x3).length) (k4))), (6, .v (.int .i64 (x16)))] ∧ M' = [] ∧ SlAt cTPair V' a2 k2 x1 ∧ SlAt cTPair V' a4 k4 x3 ∧ F_clockworkref06_Union_L1 x3 x1 J7 n17 x16 = some r) ⟨(((((x3).length : Nat) : Int)).toNat + 1), [(0, .v (.slice a2 ((x1).length) (k2))), (1, .v (.slice a4 ((x3).length) (k4))), (6, .v (.int .i64 ((0 : Int))))], ⟨rfl, rfl, rfl, trivial⟩, (0 : Int), rfl, rfl, h2, h4, hF⟩ ?_
      rintro n17 L' V18 M' ⟨x16, rfl, rfl, h19, h20, hF⟩
      rcases n17 with _ | n17
      · exact absurd hF (by simp [F_clockworkref06_Union_L1])
      rw [F_clockworkref06_Union_L1] at hF
      refine Exec.run tyOk 400 rfl ?_
      rcases cond_some hF with ⟨hb, hF⟩ | ⟨hb, hF⟩
      · skip
        refine Exec.ifT rfl hb ?_
        refine Exec.run tyOk 400 rfl ?_
        obtain ⟨q21, hF⟩ := req_some hF
        obtain ⟨c22, hr22, hd22⟩ := SlAt.get h20 q21
        obtain rfl := hr22
        refine Exec.ia tyOk rfl rfl ⟨q21.1, q21.2, hd22.some⟩ ?_
        refine Exec.run tyOk 400 rfl ?_
        refine Exec.ld tyOk (x := .string ⟨⟨(atI x3 x16).Key⟩⟩) rfl rfl (RdAt.part hd22 0 1 rfl) rfl rfl ?_
        refine Exec.run tyOk 400 rfl ?_
        obtain ⟨x23, hx23, hF⟩ := bnd_some hF
        refine Exec.callS (.bool (x23)) rfl rfl (W_clockworkref06_Has x1 ((atI x3 x16).Key) h19 hx23) ?_
        refine Exec.run tyOk 400 rfl ?_
        rcases cond_some hF with ⟨hb, hF⟩ | ⟨hb, hF⟩
        · skip
          refine Exec.ifT rfl hb ?_
          refine Exec.run tyOk 400 rfl ?_
          obtain rfl := some_inj hF
          exact Exec.ret tyOk rfl rfl ⟨_, _, rfl, SlAt.nil⟩
        · skip
          refine Exec.ifF rfl hb ?_
          refine Exec.run tyOk 400 rfl ?_
          exact Exec.round [(0, .v (.slice a2 ((x1).length) (k2))), (1, .v (.slice a4 ((x3).length) (k4))), (6, .v (.int .i64 ((IntKind.i64.wrap (x16 + (1 : Int))))))] ⟨rfl, rfl, rfl, trivial⟩ ⟨n17, Nat.lt_succ_self _, (IntKind.i64.wrap (x16 + (1 : Int))), rfl, rfl, h19, h20, hF⟩
      · skip
        refine Exec.ifF rfl hb ?_
        refine Exec.run tyOk 400 rfl ?_
        exact Exec.round [(0, .v (.slice a2 ((x1).length) (k2))), (1, .v (.slice a4 ((x3).length) (k4)))] ⟨rfl, rfl, trivial⟩ ⟨rfl, rfl, h19, h20, hF⟩

def F_dist_owned_L1 (x3 : List TPair) (x1 : TPlacement) (x5 : Int) (J9 : (List TPair) → Option (List TPair)) : Nat → (List TPair) → Int → Option (List TPair)
  | 0, _, _ => none
  | n17 + 1, x15, x16 => (cond (decide (x16 < (((x3).length : Nat) : Int))) (req (0 ≤ x16 ∧ x16 < ((x3).length : Int)) (bnd (F_placement_Owner x1 ((atI x3 x16).Key)) fun x23 => (jn (fun (x25 : List TPair) => (F_dist_owned_L1 x3 x1 x5 J9 n17 x25 ((IntKind.i64.wrap (x16 + (1 : Int)))))) (fun J26 => (cond (x23 == x5) (req (((x15 ++ [(atI x3 x16)])).length * 48 ≤ 140737488355328) (J26 ((x15 ++ [(atI x3 x16)])))) (J26 x15)))))) (J9 x15))

def F_dist_owned (x1 : TPlacement) (x3 : List TPair) (x5 : Int) : Option (List TPair) :=
  (jn (fun (x8 : List TPair) => (some x8)) (fun J9 => (F_dist_owned_L1 x3 x1 x5 J9 (((((x3).length : Nat) : Int)).toNat + 1) (([] : List TPair)) ((0 : Int)))))

set_option maxRecDepth 100000 in
theorem W_dist_owned {V : View} (x1 : TPlacement) (x3 : List TPair) (x5 : Int) {a2 : Option Addr} {k2 : Nat} {a4 : Option Addr} {k4 : Nat} (h2 : SlAt cTPart V a2 k2 x1.Parts) (h4 : SlAt cTPair V a4 k4 x3) {r : List TPair} (hF : F_dist_owned x1 x3 x5 = some r) :
    Spec Try.prog 83 [.agg ⟨[.int .i64 (x1.Version), .slice a2 ((x1.Parts).length) (k2)]⟩, .slice a4 ((x3).length) (k4), .int .i64 (x5)] V (fun V' v => ∃ (a32 : Option Addr) (k32 : Nat), v = .slice a32 ((r).length) (k32) ∧ SlAt cTPair V' a32 k32 r) := by
  unfold F_dist_owned at hF
  refine Spec.enter (T := tyT) Try.func83 rfl (by kernel_rfl) rfl rfl rfl ?_
  refine Exec.run tyOk 16 rfl ?_
  refine Exec.row0 68 4 rfl ?_
  have h6 : RowRep cTPair V ([] : List TPair) [] := RowRep.nil
  obtain ⟨J9, hJ9, hF⟩ := jn_some hF
  refine Exec.seam (fun L' V' M' => ∃ (x8 : List TPair) (a7 : Option Addr) (k7 : Nat) (cs7 : List Value), L' = [(7, .v (.slice a7 ((x8).length) (k7)))] ∧ M' = [.blk [.v (.int .i64 (x1.Version)), .v (.slice a2 ((x1.Parts).length) (k2))] 24, .row (.slice a7 ((x8).length) (k7)) cs7 68 4] ∧ RowRep cTPair V' x8 cs7 ∧ SlAt cTPart V' a2 k2 x1.Parts ∧ J9 x8 = some r) rfl ?_ ?_
  · rintro L' V10 M' ⟨x8, a7, k7, cs7, rfl, rfl, h7, h11, hF⟩
    subst hJ9
    refine Exec.run tyOk 400 rfl ?_
    refine Exec.frz 1 rfl rfl rfl (fun V12 hv12 hd12 hn12 => ?_)
    have hz12 := RowRep.slat h7 hv12 hd12 hn12
    have h13 := SlAt.mono h11 hv12
    obtain rfl := some_inj hF
    exact Exec.ret tyOk rfl rfl ⟨_, _, rfl, hz12⟩
  · skip
    refine Exec.run tyOk 400 rfl ?_
    refine Exec.loop (fun n17 L' V' M' => ∃ (x15 : List TPair) (a14 : Option Addr) (k14 : Nat) (cs14 : List Value) (x16 : Int), L' = [(2, .v (.int .i64 (x5))), (3, .ptr 0 0), (7, .v (.slice a14 ((x15).length) (k14))), (10, .v (.slice a4 ((x3).length) (k4))), (11, .v (.int .i64 ((((x3).length : Nat) : Int)))), (12, .v (.int .i64 (x16)))] ∧ M' = [.blk [.v (.int .i64 (x1.Version)), .v (.slice a2 ((x1.Parts).length) (k2))] 24, .row (.slice a14 ((x15).length) (k14)) cs14 68 4] ∧ RowRep cTPair V' x15 cs14 ∧ SlAt cTPair V' a4 k4 x3 ∧ SlAt cTPart V' a2 k2 x1.Parts ∧ F_dist_owned_L1 x3 x1 x5 J9 n17 x15 x16 = some r) ⟨(((((x3).length : Nat) : Int)).toNat + 1), [(2, .v (.int .i64 (x5))), (3, .ptr 0 0), (7, .v (.slice none ((([] : List TPair)).length) (0))), (10, .v (.slice a4 ((x3).length) (k4))), (11, .v (.int .i64 ((((x3).length : Nat) : Int)))), (12, .v (.int .i64 ((0 : Int))))], ⟨rfl, rfl, rfl, rfl, rfl, rfl, trivial⟩, ([] : List TPair), none, 0, [], (0 : Int), rfl, rfl, h6, h4, h2, hF⟩ ?_
    rintro n17 L' V18 M' ⟨x15, a14, k14, cs14, x16, rfl, rfl, h14, h19, h20, hF⟩
    rcases n17 with _ | n17
    · exact absurd hF (by simp [F_dist_owned_L1])
    rw [F_dist_owned_L1] at hF
    refine Exec.run tyOk 400 rfl ?_
    rcases cond_some hF with ⟨hb, hF⟩ | ⟨hb, hF⟩
    · skip
      refine Exec.ifT rfl hb ?_
      refine Exec.run tyOk 400 rfl ?_
      obtain ⟨q21, hF⟩ := req_some hF
      obtain ⟨c22, hr22, hd22⟩ := SlAt.get h19 q21
      obtain rfl := hr22
      refine Exec.ia tyOk rfl rfl ⟨q21.1, q21.2, hd22.some⟩ ?_
      refine Exec.run tyOk 400 rfl ?_
      refine Exec.ld tyOk (x := .agg ⟨[.string ⟨⟨(atI x3 x16).Key⟩⟩, .int .i64 ((atI x3 x16).Val.Kind), .int .i64 ((atI x3 x16).Val.N), .string ⟨⟨(atI x3 x16).Val.S⟩⟩]⟩) rfl rfl hd22 rfl rfl ?_
      refine Exec.run tyOk 400 rfl ?_
      obtain ⟨x23, hx23, hF⟩ := bnd_some hF
      refine Exec.callS (.int .i64 (x23)) rfl rfl (W_placement_Owner x1 ((atI x3 x16).Key) h20 hx23) ?_
      refine Exec.run tyOk 400 rfl ?_
      obtain ⟨J26, hJ26, hF⟩ := jn_some hF
      refine Exec.seam (fun L' V' M' => ∃ (x25 : List TPair) (a24 : Option Addr) (k24 : Nat) (cs24 : List Value), L' = [(2, .v (.int .i64 (x5))), (3, .ptr 0 0), (7, .v (.slice a24 ((x25).length) (k24))), (10, .v (.slice a4 ((x3).length) (k4))), (11, .v (.int .i64 ((((x3).length : Nat) : Int)))), (12, .v (.int .i64 (x16)))] ∧ M' = [.blk [.v (.int .i64 (x1.Version)), .v (.slice a2 ((x1.Parts).length) (k2))] 24, .row (.slice a24 ((x25).length) (k24)) cs24 68 4] ∧ RowRep cTPair V' x25 cs24 ∧ SlAt cTPair V' a4 k4 x3 ∧ SlAt cTPart V' a2 k2 x1.Parts ∧ J26 x25 = some r) rfl ?_ ?_
      · rintro L' V27 M' ⟨x25, a24, k24, cs24, rfl, rfl, h24, h28, h29, hF⟩
        subst hJ26
        refine Exec.run tyOk 400 rfl ?_
        exact Exec.round [(2, .v (.int .i64 (x5))), (3, .ptr 0 0), (7, .v (.slice a24 ((x25).length) (k24))), (10, .v (.slice a4 ((x3).length) (k4))), (11, .v (.int .i64 ((((x3).length : Nat) : Int)))), (12, .v (.int .i64 ((IntKind.i64.wrap (x16 + (1 : Int))))))] ⟨rfl, rfl, rfl, rfl, rfl, rfl, trivial⟩ ⟨n17, Nat.lt_succ_self _, x25, a24, k24, cs24, (IntKind.i64.wrap (x16 + (1 : Int))), rfl, rfl, h24, h28, h29, hF⟩
      · skip
        refine Exec.run tyOk 400 rfl ?_
        rcases cond_some hF with ⟨hb, hF⟩ | ⟨hb, hF⟩
        · skip
          refine Exec.ifT rfl hb ?_
          refine Exec.run tyOk 400 rfl ?_
          refine Exec.bsl tyOk rfl rfl ?_
          refine Exec.run tyOk 400 rfl ?_
          obtain ⟨q31, hF⟩ := req_some hF
          refine Exec.app tyOk 1 3 (nm := ((x15 ++ [(atI x3 x16)])).length) rfl rfl rfl rfl rfl rfl rfl rfl rfl (by simp) (fun _ _ => rfl) rfl q31 (fun a30 k30 => ?_)
          have h30 : RowRep cTPair V18 (x15 ++ [(atI x3 x16)]) (cs14 ++ [.string ⟨⟨(atI x3 x16).Key⟩⟩, .int .i64 ((atI x3 x16).Val.Kind), .int .i64 ((atI x3 x16).Val.N), .string ⟨⟨(atI x3 x16).Val.S⟩⟩]) := RowRep.app h14 ⟨_, _, rfl, rfl, rfl⟩
          refine Exec.run tyOk 400 rfl ?_
          refine Exec.cut 2 [(2, .v (.int .i64 (x5))), (3, .ptr 0 0), (7, .v (.slice a30 (((x15 ++ [(atI x3 x16)])).length) (k30))), (10, .v (.slice a4 ((x3).length) (k4))), (11, .v (.int .i64 ((((x3).length : Nat) : Int)))), (12, .v (.int .i64 (x16)))] (M' := [.blk [.v (.int .i64 (x1.Version)), .v (.slice a2 ((x1.Parts).length) (k2))] 24, .row (.slice a30 (((x15 ++ [(atI x3 x16)])).length) (k30)) ((cs14 ++ [.string ⟨⟨(atI x3 x16).Key⟩⟩, .int .i64 ((atI x3 x16).Val.Kind), .int .i64 ((atI x3 x16).Val.N), .string ⟨⟨(atI x3 x16).Val.S⟩⟩])) 68 4]) rfl ⟨rfl, rfl, rfl, rfl, rfl, rfl, trivial⟩ rfl rfl rfl ?_
          exact Exec.round [(2, .v (.int .i64 (x5))), (3, .ptr 0 0), (7, .v (.slice a30 (((x15 ++ [(atI x3 x16)])).length) (k30))), (10, .v (.slice a4 ((x3).length) (k4))), (11, .v (.int .i64 ((((x3).length : Nat) : Int)))), (12, .v (.int .i64 (x16)))] ⟨rfl, rfl, rfl, rfl, rfl, rfl, trivial⟩ ⟨(x15 ++ [(atI x3 x16)]), a30, k30, (cs14 ++ [.string ⟨⟨(atI x3 x16).Key⟩⟩, .int .i64 ((atI x3 x16).Val.Kind), .int .i64 ((atI x3 x16).Val.N), .string ⟨⟨(atI x3 x16).Val.S⟩⟩]), rfl, rfl, h30, h19, h20, hF⟩
        · skip
          refine Exec.ifF rfl hb ?_
          refine Exec.run tyOk 400 rfl ?_
          refine Exec.cut 2 [(2, .v (.int .i64 (x5))), (3, .ptr 0 0), (7, .v (.slice a14 ((x15).length) (k14))), (10, .v (.slice a4 ((x3).length) (k4))), (11, .v (.int .i64 ((((x3).length : Nat) : Int)))), (12, .v (.int .i64 (x16)))] (M' := [.blk [.v (.int .i64 (x1.Version)), .v (.slice a2 ((x1.Parts).length) (k2))] 24, .row (.slice a14 ((x15).length) (k14)) cs14 68 4]) rfl ⟨rfl, rfl, rfl, rfl, rfl, rfl, trivial⟩ rfl rfl rfl ?_
          exact Exec.round [(2, .v (.int .i64 (x5))), (3, .ptr 0 0), (7, .v (.slice a14 ((x15).length) (k14))), (10, .v (.slice a4 ((x3).length) (k4))), (11, .v (.int .i64 ((((x3).length : Nat) : Int)))), (12, .v (.int .i64 (x16)))] ⟨rfl, rfl, rfl, rfl, rfl, rfl, trivial⟩ ⟨x15, a14, k14, cs14, rfl, rfl, h14, h19, h20, hF⟩
    · skip
      refine Exec.ifF rfl hb ?_
      refine Exec.run tyOk 400 rfl ?_
      exact Exec.round [(7, .v (.slice a14 ((x15).length) (k14)))] ⟨rfl, trivial⟩ ⟨x15, a14, k14, cs14, rfl, rfl, h14, h20, hF⟩

def F_clockworkref33_Receive_L1 (x1 : TShard) (x3 : TChunk) (J17 : (List TPair) → Option (TShard × Int)) : Nat → (List TPair) → Int → Option (TShard × Int)
  | 0, _, _ => none
  | n36 + 1, x34, x35 => (cond (decide (x35 < (((x1.Pairs).length : Nat) : Int))) (req (0 ≤ x35 ∧ x35 < ((x1.Pairs).length : Int)) (bnd (F_clockworkref04_Contains ((⟨x3.Keys.From, x3.Keys.To⟩ : TRange)) ((atI x1.Pairs x35).Key)) fun x43 => (jn (fun (x45 : List TPair) => (F_clockworkref33_Receive_L1 x1 x3 J17 n36 x45 ((IntKind.i64.wrap (x35 + (1 : Int)))))) (fun J46 => (cond (!x43) (req (0 ≤ x35 ∧ x35 < ((x1.Pairs).length : Int)) (req (((x34 ++ [(atI x1.Pairs x35)])).length * 48 ≤ 140737488355328) (J46 ((x34 ++ [(atI x1.Pairs x35)]))))) (J46 x34)))))) (J17 x34))

def F_clockworkref33_Receive_L2 (x3 : TChunk) (J10 : TShard → Option (TShard × Int)) : Nat → TShard → Int → Option (TShard × Int)
  | 0, _, _ => none
  | n58 + 1, x55, x57 => (cond (decide (x57 < (((x3.Pairs).length : Nat) : Int))) (req (0 ≤ x57 ∧ x57 < ((x3.Pairs).length : Int)) (bnd (F_clockworkref04_Contains ((⟨x3.Keys.From, x3.Keys.To⟩ : TRange)) ((atI x3.Pairs x57).Key)) fun x64 => (cond (!x64) (some ((⟨0, ([] : List TPair)⟩ : TShard), (1 : Int))) (F_clockworkref33_Receive_L2 x3 J10 n58 x55 ((IntKind.i64.wrap (x57 + (1 : Int)))))))) (J10 x55))

def F_clockworkref33_Receive (x1 : TShard) (x3 : TChunk) : Option (TShard × Int) :=
  (bnd (gcall (((x1.Node != x3.To)) == false) (F_clockworkref06_Valid x1.Pairs)) fun x5 => (bnd (gcall ((((x1.Node != x3.To) || (!x5))) == false) (F_clockworkref04_ValidRange ((⟨x3.Keys.From, x3.Keys.To⟩ : TRange)))) fun x6 => (bnd (gcall (((((x1.Node != x3.To) || (!x5)) || (!x6))) == false) (F_clockworkref06_Valid x3.Pairs)) fun x7 => (cond ((((x1.Node != x3.To) || (!x5)) || (!x6)) || (!x7)) (some ((⟨0, ([] : List TPair)⟩ : TShard), (1 : Int))) (jn (fun (x8 : TShard) => (jn (fun (x16 : List TPair) => (bnd (F_clockworkref06_Union x16 x3.Pairs) fun x26 => (some ((⟨x1.Node, x26.1⟩ : TShard), (0 : Int))))) (fun J17 => (F_clockworkref33_Receive_L1 x1 x3 J17 (((((x1.Pairs).length : Nat) : Int)).toNat + 1) (([] : List TPair)) ((0 : Int)))))) (fun J10 => (F_clockworkref33_Receive_L2 x3 J10 (((((x3.Pairs).length : Nat) : Int)).toNat + 1) ((default : TShard)) ((0 : Int)))))))))

set_option maxRecDepth 100000 in
theorem W_clockworkref33_Receive {V : View} (x1 : TShard) (x3 : TChunk) {a2 : Option Addr} {k2 : Nat} {a4 : Option Addr} {k4 : Nat} (h2 : SlAt cTPair V a2 k2 x1.Pairs) (h4 : SlAt cTPair V a4 k4 x3.Pairs) {r : TShard × Int} (hF : F_clockworkref33_Receive x1 x3 = some r) :
    Spec Try.prog 17 [.agg ⟨[.int .i64 (x1.Node), .slice a2 ((x1.Pairs).length) (k2)]⟩, .agg ⟨[.int .i64 (x3.Part), .int .i64 (x3.From), .int .i64 (x3.To), .string ⟨⟨x3.Keys.From⟩⟩, .string ⟨⟨x3.Keys.To⟩⟩, .slice a4 ((x3.Pairs).length) (k4), .bool (x3.Last)]⟩] V (fun V' v => ∃ (a65 : Option Addr) (k65 : Nat), v = .tuple ⟨[.agg ⟨[.int .i64 (r.1.Node), .slice a65 ((r.1.Pairs).length) (k65)]⟩, .int .i64 (r.2)]⟩ ∧ SlAt cTPair V' a65 k65 r.1.Pairs) := by
  unfold F_clockworkref33_Receive at hF
  refine Spec.enter (T := tyT) Try.func17 rfl (by kernel_rfl) rfl rfl rfl ?_
  refine Exec.run tyOk 400 rfl ?_
  obtain ⟨x5, hx5, hF⟩ := bnd_some hF
  refine Exec.callS (.bool (x5)) rfl rfl (fun gg0 => W_clockworkref06_Valid x1.Pairs h2 (gcall_some hx5 (gd1_of gg0))) ?_
  refine Exec.run tyOk 400 rfl ?_
  obtain ⟨x6, hx6, hF⟩ := bnd_some hF
  refine Exec.callS (.bool (x6)) rfl rfl (fun gg0 => W_clockworkref04_ValidRange ((⟨x3.Keys.From, x3.Keys.To⟩ : TRange))  (gcall_some hx6 (gd1_of gg0))) ?_
  refine Exec.run tyOk 400 rfl ?_
  obtain ⟨x7, hx7, hF⟩ := bnd_some hF
  refine Exec.callS (.bool (x7)) rfl rfl (fun gg0 => W_clockworkref06_Valid x3.Pairs h4 (gcall_some hx7 (gd1_of gg0))) ?_
  refine Exec.run tyOk 400 rfl ?_
  rcases cond_some hF with ⟨hb, hF⟩ | ⟨hb, hF⟩
  · skip
    refine Exec.ifT rfl hb ?_
    refine Exec.run tyOk 400 rfl ?_
    obtain rfl := some_inj hF
    exact Exec.ret tyOk rfl rfl ⟨_, _, rfl, SlAt.nil⟩
  · skip
    refine Exec.ifF rfl hb ?_
    refine Exec.run tyOk 6 rfl ?_
    obtain ⟨J10, hJ10, hF⟩ := jn_some hF
    refine Exec.seam (fun L' V' M' => ∃ (x8 : TShard) (a9 : Option Addr) (k9 : Nat), L' = [(2, .ptr 0 0), (3, .ptr 1 0), (4, .ptr 2 0)] ∧ M' = [.blk [.v (.int .i64 (x1.Node)), .v (.slice a2 ((x1.Pairs).length) (k2))] 37, .blk [.v (.int .i64 (x3.Part)), .v (.int .i64 (x3.From)), .v (.int .i64 (x3.To)), .v (.string ⟨⟨x3.Keys.From⟩⟩), .v (.string ⟨⟨x3.Keys.To⟩⟩), .v (.slice a4 ((x3.Pairs).length) (k4)), .v (.bool (x3.Last))] 41, .blk [.v (.int .i64 (x8.Node)), .v (.slice a9 ((x8.Pairs).length) (k9))] 37] ∧ SlAt cTPair V' a9 k9 x8.Pairs ∧ SlAt cTPair V' a2 k2 x1.Pairs ∧ SlAt cTPair V' a4 k4 x3.Pairs ∧ J10 x8 = some r) rfl ?_ ?_
    · rintro L' V11 M' ⟨x8, a9, k9, rfl, rfl, h9, h12, h13, hF⟩
      subst hJ10
      refine Exec.run tyOk 9 rfl ?_
      refine Exec.row0 68 4 rfl ?_
      have h14 : RowRep cTPair V11 ([] : List TPair) [] := RowRep.nil
      obtain ⟨J17, hJ17, hF⟩ := jn_some hF
      refine Exec.seam (fun L' V' M' => ∃ (x16 : List TPair) (a15 : Option Addr) (k15 : Nat) (cs15 : List Value), L' = [(2, .ptr 0 0), (3, .ptr 1 0), (4, .ptr 2 0), (7, .v (.slice a15 ((x16).length) (k15)))] ∧ M' = [.blk [.v (.int .i64 (x1.Node)), .v (.slice a2 ((x1.Pairs).length) (k2))] 37, .blk [.v (.int .i64 (x3.Part)), .v (.int .i64 (x3.From)), .v (.int .i64 (x3.To)), .v (.string ⟨⟨x3.Keys.From⟩⟩), .v (.string ⟨⟨x3.Keys.To⟩⟩), .v (.slice a4 ((x3.Pairs).length) (k4)), .v (.bool (x3.Last))] 41, .blk [.v (.int .i64 (x8.Node)), .v (.slice a9 ((x8.Pairs).length) (k9))] 37, .row (.slice a15 ((x16).length) (k15)) cs15 68 4] ∧ RowRep cTPair V' x16 cs15 ∧ SlAt cTPair V' a2 k2 x1.Pairs ∧ SlAt cTPair V' a4 k4 x3.Pairs ∧ SlAt cTPair V' a9 k9 x8.Pairs ∧ J17 x16 = some r) rfl ?_ ?_
      · rintro L' V18 M' ⟨x16, a15, k15, cs15, rfl, rfl, h15, h19, h20, h21, hF⟩
        subst hJ17
        refine Exec.run tyOk 400 rfl ?_
        refine Exec.frz 3 rfl rfl rfl (fun V22 hv22 hd22 hn22 => ?_)
        have hz22 := RowRep.slat h15 hv22 hd22 hn22
        have h23 := SlAt.mono h20 hv22
        have h24 := SlAt.mono h19 hv22
        have h25 := SlAt.mono h21 hv22
        obtain ⟨x26, hx26, hF⟩ := bnd_some hF
        refine Exec.call rfl rfl (W_clockworkref06_Union x16 x3.Pairs hz22 h23 hx26) ?_
        rintro V28 _ hv28 ⟨a27, k27, rfl, h27⟩
        have h29 := SlAt.mono hz22 hv28
        have h30 := SlAt.mono h23 hv28
        have h31 := SlAt.mono h24 hv28
        have h32 := SlAt.mono h25 hv28
        refine Exec.run tyOk 400 rfl ?_
        obtain rfl := some_inj hF
        exact Exec.ret tyOk rfl rfl ⟨_, _, rfl, h27⟩
      · skip
        refine Exec.run tyOk 400 rfl ?_
        refine Exec.loop (fun n36 L' V' M' => ∃ (x34 : List TPair) (a33 : Option Addr) (k33 : Nat) (cs33 : List Value) (x35 : Int), L' = [(2, .ptr 0 0), (3, .ptr 1 0), (4, .ptr 2 0), (7, .v (.slice a33 ((x34).length) (k33))), (8, .v (.int .i64 (x35)))] ∧ M' = [.blk [.v (.int .i64 (x1.Node)), .v (.slice a2 ((x1.Pairs).length) (k2))] 37, .blk [.v (.int .i64 (x3.Part)), .v (.int .i64 (x3.From)), .v (.int .i64 (x3.To)), .v (.string ⟨⟨x3.Keys.From⟩⟩), .v (.string ⟨⟨x3.Keys.To⟩⟩), .v (.slice a4 ((x3.Pairs).length) (k4)), .v (.bool (x3.Last))] 41, .blk [.v (.int .i64 (x8.Node)), .v (.slice a9 ((x8.Pairs).length) (k9))] 37, .row (.slice a33 ((x34).length) (k33)) cs33 68 4] ∧ RowRep cTPair V' x34 cs33 ∧ SlAt cTPair V' a2 k2 x1.Pairs ∧ SlAt cTPair V' a4 k4 x3.Pairs ∧ SlAt cTPair V' a9 k9 x8.Pairs ∧ F_clockworkref33_Receive_L1 x1 x3 J17 n36 x34 x35 = some r) ⟨(((((x1.Pairs).length : Nat) : Int)).toNat + 1), [(2, .ptr 0 0), (3, .ptr 1 0), (4, .ptr 2 0), (7, .v (.slice none ((([] : List TPair)).length) (0))), (8, .v (.int .i64 ((0 : Int))))], ⟨rfl, rfl, rfl, rfl, rfl, trivial⟩, ([] : List TPair), none, 0, [], (0 : Int), rfl, rfl, h14, h12, h13, h9, hF⟩ ?_
        rintro n36 L' V37 M' ⟨x34, a33, k33, cs33, x35, rfl, rfl, h33, h38, h39, h40, hF⟩
        rcases n36 with _ | n36
        · exact absurd hF (by simp [F_clockworkref33_Receive_L1])
        rw [F_clockworkref33_Receive_L1] at hF
        refine Exec.run tyOk 400 rfl ?_
        rcases cond_some hF with ⟨hb, hF⟩ | ⟨hb, hF⟩
        · skip
          refine Exec.ifT rfl hb ?_
          refine Exec.run tyOk 400 rfl ?_
          refine Exec.draws tyOk [(0, true), (1, true), (2, true), (3, true), (4, true), (5, true), (6, true), (7, true), (8, false), (9, false)] rfl (by kernel_rfl) ?_
          refine Exec.run tyOk 400 rfl ?_
          obtain ⟨q41, hF⟩ := req_some hF
          obtain ⟨c42, hr42, hd42⟩ := SlAt.get h38 q41
          obtain rfl := hr42
          refine Exec.fia tyOk rfl rfl rfl ⟨q41.1, q41.2, hd42.some⟩ ?_
          refine Exec.run tyOk 400 rfl ?_
          refine Exec.fld tyOk (x := .string ⟨⟨(atI x1.Pairs x35).Key⟩⟩) rfl rfl rfl (RdAt.part hd42 0 1 rfl) rfl rfl ?_
          refine Exec.run tyOk 400 rfl ?_
          obtain ⟨x43, hx43, hF⟩ := bnd_some hF
          refine Exec.callS (.bool (x43)) rfl rfl (W_clockworkref04_Contains ((⟨x3.Keys.From, x3.Keys.To⟩ : TRange)) ((atI x1.Pairs x35).Key)  hx43) ?_
          refine Exec.run tyOk 400 rfl ?_
          obtain ⟨J46, hJ46, hF⟩ := jn_some hF
          refine Exec.seam (fun L' V' M' => ∃ (x45 : List TPair) (a44 : Option Addr) (k44 : Nat) (cs44 : List Value), L' = [(2, .ptr 0 0), (3, .ptr 1 0), (4, .ptr 2 0), (7, .v (.slice a44 ((x45).length) (k44))), (8, .v (.int .i64 (x35)))] ∧ M' = [.blk [.v (.int .i64 (x1.Node)), .v (.slice a2 ((x1.Pairs).length) (k2))] 37, .blk [.v (.int .i64 (x3.Part)), .v (.int .i64 (x3.From)), .v (.int .i64 (x3.To)), .v (.string ⟨⟨x3.Keys.From⟩⟩), .v (.string ⟨⟨x3.Keys.To⟩⟩), .v (.slice a4 ((x3.Pairs).length) (k4)), .v (.bool (x3.Last))] 41, .blk [.v (.int .i64 (x8.Node)), .v (.slice a9 ((x8.Pairs).length) (k9))] 37, .row (.slice a44 ((x45).length) (k44)) cs44 68 4] ∧ RowRep cTPair V' x45 cs44 ∧ SlAt cTPair V' a2 k2 x1.Pairs ∧ SlAt cTPair V' a4 k4 x3.Pairs ∧ SlAt cTPair V' a9 k9 x8.Pairs ∧ J46 x45 = some r) rfl ?_ ?_
          · rintro L' V47 M' ⟨x45, a44, k44, cs44, rfl, rfl, h44, h48, h49, h50, hF⟩
            subst hJ46
            refine Exec.run tyOk 400 rfl ?_
            exact Exec.round [(2, .ptr 0 0), (3, .ptr 1 0), (4, .ptr 2 0), (7, .v (.slice a44 ((x45).length) (k44))), (8, .v (.int .i64 ((IntKind.i64.wrap (x35 + (1 : Int))))))] ⟨rfl, rfl, rfl, rfl, rfl, trivial⟩ ⟨n36, Nat.lt_succ_self _, x45, a44, k44, cs44, (IntKind.i64.wrap (x35 + (1 : Int))), rfl, rfl, h44, h48, h49, h50, hF⟩
          · skip
            refine Exec.run tyOk 400 rfl ?_
            rcases cond_some hF with ⟨hb, hF⟩ | ⟨hb, hF⟩
            · skip
              refine Exec.ifT rfl hb ?_
              refine Exec.run tyOk 400 rfl ?_
              obtain ⟨q51, hF⟩ := req_some hF
              obtain ⟨c52, hr52, hd52⟩ := SlAt.get h38 q51
              obtain rfl := hr52
              refine Exec.ia tyOk rfl rfl ⟨q51.1, q51.2, hd52.some⟩ ?_
              refine Exec.run tyOk 400 rfl ?_
              refine Exec.ld tyOk (x := .agg ⟨[.string ⟨⟨(atI x1.Pairs x35).Key⟩⟩, .int .i64 ((atI x1.Pairs x35).Val.Kind), .int .i64 ((atI x1.Pairs x35).Val.N), .string ⟨⟨(atI x1.Pairs x35).Val.S⟩⟩]⟩) rfl rfl hd52 rfl rfl ?_
              refine Exec.run tyOk 400 rfl ?_
              refine Exec.bsl tyOk rfl rfl ?_
              refine Exec.run tyOk 400 rfl ?_
              obtain ⟨q54, hF⟩ := req_some hF
              refine Exec.app tyOk 3 4 (nm := ((x34 ++ [(atI x1.Pairs x35)])).length) rfl rfl rfl rfl rfl rfl rfl rfl rfl (by simp) (fun _ _ => rfl) rfl q54 (fun a53 k53 => ?_)
              have h53 : RowRep cTPair V37 (x34 ++ [(atI x1.Pairs x35)]) (cs33 ++ [.string ⟨⟨(atI x1.Pairs x35).Key⟩⟩, .int .i64 ((atI x1.Pairs x35).Val.Kind), .int .i64 ((atI x1.Pairs x35).Val.N), .string ⟨⟨(atI x1.Pairs x35).Val.S⟩⟩]) := RowRep.app h33 ⟨_, _, rfl, rfl, rfl⟩
              refine Exec.run tyOk 400 rfl ?_
              refine Exec.cut 4 [(2, .ptr 0 0), (3, .ptr 1 0), (4, .ptr 2 0), (7, .v (.slice a53 (((x34 ++ [(atI x1.Pairs x35)])).length) (k53))), (8, .v (.int .i64 (x35)))] (M' := [.blk [.v (.int .i64 (x1.Node)), .v (.slice a2 ((x1.Pairs).length) (k2))] 37, .blk [.v (.int .i64 (x3.Part)), .v (.int .i64 (x3.From)), .v (.int .i64 (x3.To)), .v (.string ⟨⟨x3.Keys.From⟩⟩), .v (.string ⟨⟨x3.Keys.To⟩⟩), .v (.slice a4 ((x3.Pairs).length) (k4)), .v (.bool (x3.Last))] 41, .blk [.v (.int .i64 (x8.Node)), .v (.slice a9 ((x8.Pairs).length) (k9))] 37, .row (.slice a53 (((x34 ++ [(atI x1.Pairs x35)])).length) (k53)) ((cs33 ++ [.string ⟨⟨(atI x1.Pairs x35).Key⟩⟩, .int .i64 ((atI x1.Pairs x35).Val.Kind), .int .i64 ((atI x1.Pairs x35).Val.N), .string ⟨⟨(atI x1.Pairs x35).Val.S⟩⟩])) 68 4]) rfl ⟨rfl, rfl, rfl, rfl, rfl, trivial⟩ rfl rfl rfl ?_
              exact Exec.round [(2, .ptr 0 0), (3, .ptr 1 0), (4, .ptr 2 0), (7, .v (.slice a53 (((x34 ++ [(atI x1.Pairs x35)])).length) (k53))), (8, .v (.int .i64 (x35)))] ⟨rfl, rfl, rfl, rfl, rfl, trivial⟩ ⟨(x34 ++ [(atI x1.Pairs x35)]), a53, k53, (cs33 ++ [.string ⟨⟨(atI x1.Pairs x35).Key⟩⟩, .int .i64 ((atI x1.Pairs x35).Val.Kind), .int .i64 ((atI x1.Pairs x35).Val.N), .string ⟨⟨(atI x1.Pairs x35).Val.S⟩⟩]), rfl, rfl, h53, h38, h39, h40, hF⟩
            · skip
              refine Exec.ifF rfl hb ?_
              refine Exec.run tyOk 400 rfl ?_
              exact Exec.round [(2, .ptr 0 0), (3, .ptr 1 0), (4, .ptr 2 0), (7, .v (.slice a33 ((x34).length) (k33))), (8, .v (.int .i64 (x35)))] ⟨rfl, rfl, rfl, rfl, rfl, trivial⟩ ⟨x34, a33, k33, cs33, rfl, rfl, h33, h38, h39, h40, hF⟩
        · skip
          refine Exec.ifF rfl hb ?_
          refine Exec.run tyOk 400 rfl ?_
          exact Exec.round [(2, .ptr 0 0), (3, .ptr 1 0), (4, .ptr 2 0), (7, .v (.slice a33 ((x34).length) (k33)))] ⟨rfl, rfl, rfl, rfl, trivial⟩ ⟨x34, a33, k33, cs33, rfl, rfl, h33, h38, h39, h40, hF⟩
    · skip
      refine Exec.run tyOk 400 rfl ?_
      refine Exec.loop (fun n58 L' V' M' => ∃ (x55 : TShard) (a56 : Option Addr) (k56 : Nat) (x57 : Int), L' = [(2, .ptr 0 0), (3, .ptr 1 0), (4, .ptr 2 0), (6, .v (.int .i64 (x57)))] ∧ M' = [.blk [.v (.int .i64 (x1.Node)), .v (.slice a2 ((x1.Pairs).length) (k2))] 37, .blk [.v (.int .i64 (x3.Part)), .v (.int .i64 (x3.From)), .v (.int .i64 (x3.To)), .v (.string ⟨⟨x3.Keys.From⟩⟩), .v (.string ⟨⟨x3.Keys.To⟩⟩), .v (.slice a4 ((x3.Pairs).length) (k4)), .v (.bool (x3.Last))] 41, .blk [.v (.int .i64 (x55.Node)), .v (.slice a56 ((x55.Pairs).length) (k56))] 37] ∧ SlAt cTPair V' a56 k56 x55.Pairs ∧ SlAt cTPair V' a2 k2 x1.Pairs ∧ SlAt cTPair V' a4 k4 x3.Pairs ∧ F_clockworkref33_Receive_L2 x3 J10 n58 x55 x57 = some r) ⟨(((((x3.Pairs).length : Nat) : Int)).toNat + 1), [(2, .ptr 0 0), (3, .ptr 1 0), (4, .ptr 2 0), (6, .v (.int .i64 ((0 : Int))))], ⟨rfl, rfl, rfl, rfl, trivial⟩, (default : TShard), none, 0, (0 : Int), rfl, rfl, SlAt.nil, h2, h4, hF⟩ ?_
      rintro n58 L' V59 M' ⟨x55, a56, k56, x57, rfl, rfl, h56, h60, h61, hF⟩
      rcases n58 with _ | n58
      · exact absurd hF (by simp [F_clockworkref33_Receive_L2])
      rw [F_clockworkref33_Receive_L2] at hF
      refine Exec.run tyOk 400 rfl ?_
      rcases cond_some hF with ⟨hb, hF⟩ | ⟨hb, hF⟩
      · skip
        refine Exec.ifT rfl hb ?_
        refine Exec.run tyOk 400 rfl ?_
        refine Exec.draws tyOk [(0, true), (1, true), (2, true), (3, true), (4, true), (5, true), (6, true), (7, true), (8, false), (9, false)] rfl (by kernel_rfl) ?_
        refine Exec.run tyOk 400 rfl ?_
        obtain ⟨q62, hF⟩ := req_some hF
        obtain ⟨c63, hr63, hd63⟩ := SlAt.get h61 q62
        obtain rfl := hr63
        refine Exec.fia tyOk rfl rfl rfl ⟨q62.1, q62.2, hd63.some⟩ ?_
        refine Exec.run tyOk 400 rfl ?_
        refine Exec.fld tyOk (x := .string ⟨⟨(atI x3.Pairs x57).Key⟩⟩) rfl rfl rfl (RdAt.part hd63 0 1 rfl) rfl rfl ?_
        refine Exec.run tyOk 400 rfl ?_
        obtain ⟨x64, hx64, hF⟩ := bnd_some hF
        refine Exec.callS (.bool (x64)) rfl rfl (W_clockworkref04_Contains ((⟨x3.Keys.From, x3.Keys.To⟩ : TRange)) ((atI x3.Pairs x57).Key)  hx64) ?_
        refine Exec.run tyOk 400 rfl ?_
        rcases cond_some hF with ⟨hb, hF⟩ | ⟨hb, hF⟩
        · skip
          refine Exec.ifT rfl hb ?_
          refine Exec.run tyOk 400 rfl ?_
          obtain rfl := some_inj hF
          exact Exec.ret tyOk rfl rfl ⟨_, _, rfl, SlAt.nil⟩
        · skip
          refine Exec.ifF rfl hb ?_
          refine Exec.run tyOk 400 rfl ?_
          exact Exec.round [(2, .ptr 0 0), (3, .ptr 1 0), (4, .ptr 2 0), (6, .v (.int .i64 ((IntKind.i64.wrap (x57 + (1 : Int))))))] ⟨rfl, rfl, rfl, rfl, trivial⟩ ⟨n58, Nat.lt_succ_self _, x55, a56, k56, (IntKind.i64.wrap (x57 + (1 : Int))), rfl, rfl, h56, h60, h61, hF⟩
      · skip
        refine Exec.ifF rfl hb ?_
        refine Exec.run tyOk 400 rfl ?_
        exact Exec.round [(2, .ptr 0 0), (3, .ptr 1 0), (4, .ptr 2 0)] ⟨rfl, rfl, rfl, trivial⟩ ⟨x55, a56, k56, rfl, rfl, h56, h60, h61, hF⟩

def F_clockworklaw33_begun (x1 : TMove) (x4 : List TPair) : Option (TPlacement × List TShard × Bool) :=
  (bnd (F_clockworklaw33_few ((⟨x1.P.Version, x1.P.Parts⟩ : TPlacement)) (([] : List TShard))) fun x6 => (bnd (gcall (((((!x6) || (decide ((60 : Int) < (((x4).length : Nat) : Int)))) || (decide ((20 : Int) < (((x1.Sizes).length : Nat) : Int))))) == false) (F_clockworkref06_Valid x4)) fun x7 => (bnd (gcall ((((((!x6) || (decide ((60 : Int) < (((x4).length : Nat) : Int)))) || (decide ((20 : Int) < (((x1.Sizes).length : Nat) : Int)))) || (!x7))) == false) (F_clockworkref29_Valid ((⟨x1.P.Version, x1.P.Parts⟩ : TPlacement)))) fun x8 => (cond ((((((!x6) || (decide ((60 : Int) < (((x4).length : Nat) : Int)))) || (decide ((20 : Int) < (((x1.Sizes).length : Nat) : Int)))) || (!x7)) || (!x8)) || (decide ((1099511627746 : Int) < x1.P.Version))) (some ((⟨0, ([] : List TPart)⟩ : TPlacement), ([] : List TShard), false)) (bnd (F_clockworkref33_Start ((⟨x1.P.Version, x1.P.Parts⟩ : TPlacement)) x1.Id x1.Node) fun x9 => (bnd (F_clockworkref32_Load x9.1 x4) fun x15 => (some (x9.1, x15, (x9.2 == (0 : Int))))))))))

set_option maxRecDepth 100000 in
theorem W_clockworklaw33_begun {V : View} (x1 : TMove) (x4 : List TPair) {a2 : Option Addr} {k2 : Nat} {a3 : Option Addr} {k3 : Nat} {a5 : Option Addr} {k5 : Nat} (h2 : SlAt cTPart V a2 k2 x1.P.Parts) (h3 : SlAt (cInt .i64) V a3 k3 x1.Sizes) (h5 : SlAt cTPair V a5 k5 x4) {r : TPlacement × List TShard × Bool} (hF : F_clockworklaw33_begun x1 x4 = some r) :
    Spec Try.prog 19 [.agg ⟨[.int .i64 (x1.P.Version), .slice a2 ((x1.P.Parts).length) (k2), .int .i64 (x1.Id), .int .i64 (x1.Node), .slice a3 ((x1.Sizes).length) (k3)]⟩, .slice a5 ((x4).length) (k5)] V (fun V' v => ∃ (a22 : Option Addr) (k22 : Nat) (a23 : Option Addr) (k23 : Nat), v = .tuple ⟨[.agg ⟨[.int .i64 (r.1.Version), .slice a22 ((r.1.Parts).length) (k22)]⟩, .slice a23 ((r.2.1).length) (k23), .bool (r.2.2)]⟩ ∧ SlAt cTPart V' a22 k22 r.1.Parts ∧ SlAt cTShard V' a23 k23 r.2.1) := by
  unfold F_clockworklaw33_begun at hF
  refine Spec.enter (T := tyT) Try.func19 rfl (by kernel_rfl) rfl rfl rfl ?_
  refine Exec.run tyOk 400 rfl ?_
  obtain ⟨x6, hx6, hF⟩ := bnd_some hF
  refine Exec.callS (.bool (x6)) rfl rfl (W_clockworklaw33_few ((⟨x1.P.Version, x1.P.Parts⟩ : TPlacement)) (([] : List TShard)) h2 SlAt.nil hx6) ?_
  refine Exec.run tyOk 400 rfl ?_
  obtain ⟨x7, hx7, hF⟩ := bnd_some hF
  refine Exec.callS (.bool (x7)) rfl rfl (fun gg0 => W_clockworkref06_Valid x4 h5 (gcall_some hx7 (gd1_of gg0))) ?_
  refine Exec.run tyOk 400 rfl ?_
  obtain ⟨x8, hx8, hF⟩ := bnd_some hF
  refine Exec.callS (.bool (x8)) rfl rfl (fun gg0 => W_clockworkref29_Valid ((⟨x1.P.Version, x1.P.Parts⟩ : TPlacement)) h2 (gcall_some hx8 (gd1_of gg0))) ?_
  refine Exec.run tyOk 400 rfl ?_
  rcases cond_some hF with ⟨hb, hF⟩ | ⟨hb, hF⟩
  · skip
    refine Exec.ifT rfl hb ?_
    refine Exec.run tyOk 400 rfl ?_
    obtain rfl := some_inj hF
    exact Exec.ret tyOk rfl rfl ⟨_, _, _, _, rfl, SlAt.nil, SlAt.nil⟩
  · skip
    refine Exec.ifF rfl hb ?_
    refine Exec.run tyOk 400 rfl ?_
    obtain ⟨x9, hx9, hF⟩ := bnd_some hF
    refine Exec.call rfl rfl (W_clockworkref33_Start ((⟨x1.P.Version, x1.P.Parts⟩ : TPlacement)) x1.Id x1.Node h2 hx9) ?_
    rintro V11 _ hv11 ⟨a10, k10, rfl, h10⟩
    have h12 := SlAt.mono h2 hv11
    have h13 := SlAt.mono h3 hv11
    have h14 := SlAt.mono h5 hv11
    refine Exec.run tyOk 400 rfl ?_
    refine Exec.draws tyOk [(0, true), (1, true), (2, true), (4, true), (5, true), (3, false), (6, false), (7, false), (8, false)] rfl (by kernel_rfl) ?_
    refine Exec.run tyOk 400 rfl ?_
    obtain ⟨x15, hx15, hF⟩ := bnd_some hF
    refine Exec.call rfl rfl (W_clockworkref32_Load x9.1 x4 h10 h14 hx15) ?_
    rintro V17 _ hv17 ⟨a16, k16, rfl, h16⟩
    have h18 := SlAt.mono h12 hv17
    have h19 := SlAt.mono h13 hv17
    have h20 := SlAt.mono h14 hv17
    have h21 := SlAt.mono h10 hv17
    refine Exec.run tyOk 400 rfl ?_
    obtain rfl := some_inj hF
    exact Exec.ret tyOk rfl rfl ⟨_, _, _, _, rfl, h21, h16⟩

def F_dist_Valid_L1 (x3 : List TShard) (x5 : List Int) (x1 : TPlacement) (J11 : Option Bool) : Nat → Int → Option Bool
  | 0, _ => none
  | n14 + 1, x13 => (cond (decide (x13 < (((x3).length : Nat) : Int))) (req (0 ≤ x13 ∧ x13 < ((x3).length : Int)) (req (0 ≤ x13 ∧ x13 < ((x5).length : Int)) (bnd (gcall ((((atI x3 x13).Node != (atI x5 x13))) == false) (F_state_Valid ((atI x3 x13).Pairs))) fun x24 => (bnd (gcall (((((atI x3 x13).Node != (atI x5 x13)) || (!x24))) == false) (F_dist_owned x1 ((atI x3 x13).Pairs) ((atI x3 x13).Node))) fun x25 => (cond ((((atI x3 x13).Node != (atI x5 x13)) || (!x24)) || ((((x25).length : Nat) : Int) != ((((atI x3 x13).Pairs).length : Nat) : Int))) (some false) (F_dist_Valid_L1 x3 x5 x1 J11 n14 ((IntKind.i64.wrap (x13 + (1 : Int)))))))))) J11)

def F_dist_Valid (x1 : TPlacement) (x3 : List TShard) : Option Bool :=
  (bnd (F_placement_Nodes x1) fun x5 => (bnd (F_placement_Valid x1) fun x10 => (cond ((!x10) || ((((x3).length : Nat) : Int) != (((x5).length : Nat) : Int))) (some false) (jn ((some true)) (fun J11 => (F_dist_Valid_L1 x3 x5 x1 J11 (((((x3).length : Nat) : Int)).toNat + 1) ((0 : Int))))))))

set_option maxRecDepth 100000 in
theorem W_dist_Valid {V : View} (x1 : TPlacement) (x3 : List TShard) {a2 : Option Addr} {k2 : Nat} {a4 : Option Addr} {k4 : Nat} (h2 : SlAt cTPart V a2 k2 x1.Parts) (h4 : SlAt cTShard V a4 k4 x3) {r : Bool} (hF : F_dist_Valid x1 x3 = some r) :
    Spec Try.prog 69 [.agg ⟨[.int .i64 (x1.Version), .slice a2 ((x1.Parts).length) (k2)]⟩, .slice a4 ((x3).length) (k4)] V (fun _ v => v = .bool (r)) := by
  unfold F_dist_Valid at hF
  refine Spec.enter (T := tyT) Try.func69 rfl (by kernel_rfl) rfl rfl rfl ?_
  refine Exec.run tyOk 400 rfl ?_
  obtain ⟨x5, hx5, hF⟩ := bnd_some hF
  refine Exec.call rfl rfl (W_placement_Nodes x1 h2 hx5) ?_
  rintro V7 _ hv7 ⟨a6, k6, rfl, h6⟩
  have h8 := SlAt.mono h2 hv7
  have h9 := SlAt.mono h4 hv7
  refine Exec.run tyOk 400 rfl ?_
  obtain ⟨x10, hx10, hF⟩ := bnd_some hF
  refine Exec.callS (.bool (x10)) rfl rfl (W_placement_Valid x1 h8 hx10) ?_
  refine Exec.run tyOk 400 rfl ?_
  rcases cond_some hF with ⟨hb, hF⟩ | ⟨hb, hF⟩
  · skip
    refine Exec.ifT rfl hb ?_
    refine Exec.run tyOk 400 rfl ?_
    obtain rfl := some_inj hF
    exact Exec.ret tyOk rfl rfl rfl
  · skip
    refine Exec.ifF rfl hb ?_
    refine Exec.run tyOk 8 rfl ?_
    obtain ⟨J11, hJ11, hF⟩ := jn_some hF
    refine Exec.seam (fun L' V' M' => L' = [] ∧ M' = [] ∧ J11 = some r) rfl ?_ ?_
    · rintro L' V12 M' ⟨rfl, rfl, hF⟩
      subst hJ11
      refine Exec.run tyOk 400 rfl ?_
      obtain rfl := some_inj hF
      exact Exec.ret tyOk rfl rfl rfl
    · skip
      refine Exec.run tyOk 400 rfl ?_
      refine Exec.loop (fun n14 L' V' M' => ∃ (x13 : Int), L' = [(2, .ptr 0 0), (5, .v (.slice a6 ((x5).length) (k6))), (20, .v (.slice a4 ((x3).length) (k4))), (21, .v (.int .i64 ((((x3).length : Nat) : Int)))), (22, .v (.int .i64 (x13)))] ∧ M' = [.blk [.v (.int .i64 (x1.Version)), .v (.slice a2 ((x1.Parts).length) (k2))] 24] ∧ SlAt (cInt .i64) V' a6 k6 x5 ∧ SlAt cTShard V' a4 k4 x3 ∧ SlAt cTPart V' a2 k2 x1.Parts ∧ F_dist_Valid_L1 x3 x5 x1 J11 n14 x13 = some r) ⟨(((((x3).length : Nat) : Int)).toNat + 1), [(2, .ptr 0 0), (5, .v (.slice a6 ((x5).length) (k6))), (20, .v (.slice a4 ((x3).length) (k4))), (21, .v (.int .i64 ((((x3).length : Nat) : Int)))), (22, .v (.int .i64 ((0 : Int))))], ⟨rfl, rfl, rfl, rfl, rfl, trivial⟩, (0 : Int), rfl, rfl, h6, h9, h8, hF⟩ ?_
      rintro n14 L' V15 M' ⟨x13, rfl, rfl, h16, h17, h18, hF⟩
      rcases n14 with _ | n14
      · exact absurd hF (by simp [F_dist_Valid_L1])
      rw [F_dist_Valid_L1] at hF
      refine Exec.run tyOk 400 rfl ?_
      rcases cond_some hF with ⟨hb, hF⟩ | ⟨hb, hF⟩
      · skip
        refine Exec.ifT rfl hb ?_
        refine Exec.run tyOk 400 rfl ?_
        obtain ⟨q19, hF⟩ := req_some hF
        obtain ⟨c20, hr20, hd20⟩ := SlAt.get h17 q19
        obtain ⟨a21, k21, rfl, h21⟩ := hr20
        refine Exec.ia tyOk rfl rfl ⟨q19.1, q19.2, hd20.some⟩ ?_
        refine Exec.run tyOk 400 rfl ?_
        refine Exec.ld tyOk (x := .agg ⟨[.int .i64 ((atI x3 x13).Node), .slice a21 (((atI x3 x13).Pairs).length) (k21)]⟩) rfl rfl hd20 rfl rfl ?_
        refine Exec.run tyOk 400 rfl ?_
        refine Exec.draws tyOk [(0, true), (1, true), (2, true), (3, true), (4, true), (5, true), (6, true), (7, true), (8, true), (9, true), (10, false), (11, false), (12, false), (13, false), (14, true), (15, true), (16, true), (17, true), (18, true), (21, true), (22, true), (23, true), (19, false), (20, false), (24, false), (25, false)] rfl (by kernel_rfl) ?_
        refine Exec.run tyOk 400 rfl ?_
        obtain ⟨q22, hF⟩ := req_some hF
        obtain ⟨c23, hr23, hd23⟩ := SlAt.get h16 q22
        obtain rfl := hr23
        refine Exec.fia tyOk rfl rfl rfl ⟨q22.1, q22.2, hd23.some⟩ ?_
        refine Exec.run tyOk 400 rfl ?_
        refine Exec.fld tyOk (x := .int .i64 ((atI x5 x13))) rfl rfl rfl hd23 rfl rfl ?_
        refine Exec.run tyOk 400 rfl ?_
        obtain ⟨x24, hx24, hF⟩ := bnd_some hF
        refine Exec.callS (.bool (x24)) rfl rfl (fun gg0 => W_state_Valid ((atI x3 x13).Pairs) h21 (gcall_some hx24 (gd1_of gg0))) ?_
        refine Exec.run tyOk 400 rfl ?_
        obtain ⟨x25, hx25, hF⟩ := bnd_some hF
        refine Exec.callG (fun y : Option Addr × Nat => .slice y.1 ((x25).length) (y.2)) (none, 0) (R := fun V' y => SlAt cTPair V' y.1 y.2 x25) rfl rfl rfl (fun gg0 => (W_dist_owned x1 ((atI x3 x13).Pairs) ((atI x3 x13).Node) h18 h21 (gcall_some hx25 (gd1_of gg0))).mono (fun V' _ _ ⟨a26, k26, e1, h26⟩ => ⟨⟨a26, k26⟩, e1, h26⟩)) ?_
        rintro V27 ⟨a26, k26⟩ hv27 hg27
        have h26 : SlAt cTPair V27 a26 k26 x25 := gslat1 hx25 (fun gg0 => (hg27 gg0))
        have h28 := SlAt.mono h16 hv27
        have h29 := SlAt.mono h17 hv27
        have h31 := SlAt.mono h21 hv27
        have h33 := SlAt.mono h18 hv27
        refine Exec.run tyOk 400 rfl ?_
        rcases cond_some hF with ⟨hb, hF⟩ | ⟨hb, hF⟩
        · skip
          refine Exec.ifT rfl hb ?_
          refine Exec.run tyOk 400 rfl ?_
          obtain rfl := some_inj hF
          exact Exec.ret tyOk rfl rfl rfl
        · skip
          refine Exec.ifF rfl hb ?_
          refine Exec.run tyOk 400 rfl ?_
          refine Exec.cut 1 [(2, .ptr 0 0), (5, .v (.slice a6 ((x5).length) (k6))), (20, .v (.slice a4 ((x3).length) (k4))), (21, .v (.int .i64 ((((x3).length : Nat) : Int)))), (22, .v (.int .i64 ((IntKind.i64.wrap (x13 + (1 : Int))))))] (M' := [.blk [.v (.int .i64 (x1.Version)), .v (.slice a2 ((x1.Parts).length) (k2))] 24]) rfl ⟨rfl, rfl, rfl, rfl, rfl, trivial⟩ rfl rfl rfl ?_
          exact Exec.round [(2, .ptr 0 0), (5, .v (.slice a6 ((x5).length) (k6))), (20, .v (.slice a4 ((x3).length) (k4))), (21, .v (.int .i64 ((((x3).length : Nat) : Int)))), (22, .v (.int .i64 ((IntKind.i64.wrap (x13 + (1 : Int))))))] ⟨rfl, rfl, rfl, rfl, rfl, trivial⟩ ⟨n14, Nat.lt_succ_self _, (IntKind.i64.wrap (x13 + (1 : Int))), rfl, rfl, h28, h29, h33, hF⟩
      · skip
        refine Exec.ifF rfl hb ?_
        refine Exec.run tyOk 400 rfl ?_
        refine Exec.cut 0 [] (M' := []) rfl trivial rfl rfl rfl ?_
        exact Exec.round [] trivial ⟨rfl, rfl, hF⟩

end Go.Proofs.Ytedbagekceppiaa
