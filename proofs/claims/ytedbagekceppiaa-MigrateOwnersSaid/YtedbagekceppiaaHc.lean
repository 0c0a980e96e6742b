/-
  Functions of the program as their counterparts say them (printed by a program).
  Conditions: none.
-/
import Derived.Test.YtedbagekceppiaaHb
set_option linter.all false
namespace Go.Proofs.Ytedbagekceppiaa

def F_clockworkref29_Nodes_L2 (x1 : TPlacement) (x13 : Int) (J20 : Bool → Option (List Int)) : Nat → Bool → Int → Option (List Int)
  | 0, _, _ => none
  | n33 + 1, x31, x32 => (cond (decide (x32 < (((x1.Parts).length : Nat) : Int))) (req (((x31) == false) = true → 0 ≤ x32 ∧ x32 < ((x1.Parts).length : Int)) (req ((((x31 || ((cond ((x31) == false) (atI x1.Parts x32) default).Node == x13))) == false) = true → 0 ≤ x32 ∧ x32 < ((x1.Parts).length : Int)) (F_clockworkref29_Nodes_L2 x1 x13 J20 n33 (((x31 || ((cond ((x31) == false) (atI x1.Parts x32) default).Node == x13)) || ((cond (((x31 || ((cond ((x31) == false) (atI x1.Parts x32) default).Node == x13))) == false) (atI x1.Parts x32) default).Dest == x13))) ((IntKind.i64.wrap (x32 + (1 : Int))))))) (J20 x31))

def F_clockworkref29_Nodes_L1 (x1 : TPlacement) (J6 : (List Int) → Option (List Int)) : Nat → (List Int) → Int → Option (List Int)
  | 0, _, _ => none
  | n14 + 1, x12, x13 => (bnd (gcall (((decide (x13 ≤ (16 : Int)))) == true) (F_clockworkref29_Valid x1)) fun x17 => (cond ((decide (x13 ≤ (16 : Int))) && x17) (jn (fun (x19 : Bool) => (jn (fun (x24 : List Int) => (F_clockworkref29_Nodes_L1 x1 J6 n14 x24 ((IntKind.i64.wrap (x13 + (1 : Int)))))) (fun J25 => (cond x19 (req (((x12 ++ [x13])).length * 8 ≤ 140737488355328) (J25 ((x12 ++ [x13])))) (J25 x12))))) (fun J20 => (F_clockworkref29_Nodes_L2 x1 x13 J20 (((((x1.Parts).length : Nat) : Int)).toNat + 1) false ((0 : Int))))) (J6 x12)))

def F_clockworkref29_Nodes (x1 : TPlacement) : Option (List Int) :=
  (jn (fun (x5 : List Int) => (some x5)) (fun J6 => (F_clockworkref29_Nodes_L1 x1 J6 (1000000 : Nat) (([] : List Int)) ((1 : Int)))))

set_option maxRecDepth 100000 in
theorem W_clockworkref29_Nodes {V : View} (x1 : TPlacement) {a2 : Option Addr} {k2 : Nat} (h2 : SlAt cTPart V a2 k2 x1.Parts) {r : List Int} (hF : F_clockworkref29_Nodes x1 = some r) :
    Spec Try.prog 46 [.agg ⟨[.int .i64 (x1.Version), .slice a2 ((x1.Parts).length) (k2)]⟩] V (fun V' v => ∃ (a40 : Option Addr) (k40 : Nat), v = .slice a40 ((r).length) (k40) ∧ SlAt (cInt .i64) V' a40 k40 r) := by
  unfold F_clockworkref29_Nodes at hF
  refine Spec.enter (T := tyT) Try.func46 rfl (by kernel_rfl) rfl rfl rfl ?_
  refine Exec.run tyOk 14 rfl ?_
  refine Exec.row0 3 1 rfl ?_
  have h3 : RowRep (cInt .i64) V ([] : List Int) [] := RowRep.nil
  obtain ⟨J6, hJ6, hF⟩ := jn_some hF
  refine Exec.seam (fun L' V' M' => ∃ (x5 : List Int) (a4 : Option Addr) (k4 : Nat) (cs4 : List Value), L' = [(3, .v (.slice a4 ((x5).length) (k4)))] ∧ M' = [.blk [.v (.int .i64 (x1.Version)), .v (.slice a2 ((x1.Parts).length) (k2))] 24, .row (.slice a4 ((x5).length) (k4)) cs4 3 1] ∧ RowRep (cInt .i64) V' x5 cs4 ∧ SlAt cTPart V' a2 k2 x1.Parts ∧ J6 x5 = some r) rfl ?_ ?_
  · rintro L' V7 M' ⟨x5, a4, k4, cs4, rfl, rfl, h4, h8, hF⟩
    subst hJ6
    refine Exec.run tyOk 400 rfl ?_
    refine Exec.frz 1 rfl rfl rfl (fun V9 hv9 hd9 hn9 => ?_)
    have hz9 := RowRep.slat h4 hv9 hd9 hn9
    have h10 := SlAt.mono h8 hv9
    obtain rfl := some_inj hF
    exact Exec.ret tyOk rfl rfl ⟨_, _, rfl, hz9⟩
  · skip
    refine Exec.run tyOk 400 rfl ?_
    refine Exec.loop (fun n14 L' V' M' => ∃ (x12 : List Int) (a11 : Option Addr) (k11 : Nat) (cs11 : List Value) (x13 : Int), L' = [(1, .ptr 0 0), (3, .v (.slice a11 ((x12).length) (k11))), (4, .v (.int .i64 (x13)))] ∧ M' = [.blk [.v (.int .i64 (x1.Version)), .v (.slice a2 ((x1.Parts).length) (k2))] 24, .row (.slice a11 ((x12).length) (k11)) cs11 3 1] ∧ RowRep (cInt .i64) V' x12 cs11 ∧ SlAt cTPart V' a2 k2 x1.Parts ∧ F_clockworkref29_Nodes_L1 x1 J6 n14 x12 x13 = some r) ⟨(1000000 : Nat), [(1, .ptr 0 0), (3, .v (.slice none ((([] : List Int)).length) (0))), (4, .v (.int .i64 ((1 : Int))))], ⟨rfl, rfl, rfl, trivial⟩, ([] : List Int), none, 0, [], (1 : Int), rfl, rfl, h3, h2, hF⟩ ?_
    rintro n14 L' V15 M' ⟨x12, a11, k11, cs11, x13, rfl, rfl, h11, h16, hF⟩
    rcases n14 with _ | n14
    · exact absurd hF (by simp [F_clockworkref29_Nodes_L1])
    rw [F_clockworkref29_Nodes_L1] at hF
    refine Exec.run tyOk 400 rfl ?_
    obtain ⟨x17, hx17, hF⟩ := bnd_some hF
    refine Exec.callS (.bool (x17)) rfl rfl (fun gg0 => W_clockworkref29_Valid x1 h16 (gcall_some hx17 (gd1_of gg0))) ?_
    refine Exec.run tyOk 400 rfl ?_
    rcases cond_some hF with ⟨hb, hF⟩ | ⟨hb, hF⟩
    · skip
      refine Exec.ifT rfl hb ?_
      refine Exec.run tyOk 12 rfl ?_
      obtain ⟨J20, hJ20, hF⟩ := jn_some hF
      refine Exec.seam (fun L' V' M' => ∃ (x19 : Bool), L' = [(1, .ptr 0 0), (3, .v (.slice a11 ((x12).length) (k11))), (4, .v (.int .i64 (x13))), (5, .v (.bool (x19)))] ∧ M' = [.blk [.v (.int .i64 (x1.Version)), .v (.slice a2 ((x1.Parts).length) (k2))] 24, .row (.slice a11 ((x12).length) (k11)) cs11 3 1] ∧ RowRep (cInt .i64) V' x12 cs11 ∧ SlAt cTPart V' a2 k2 x1.Parts ∧ J20 x19 = some r) rfl ?_ ?_
      · rintro L' V21 M' ⟨x19, rfl, rfl, h18, h22, hF⟩
        subst hJ20
        refine Exec.run tyOk 400 rfl ?_
        obtain ⟨J25, hJ25, hF⟩ := jn_some hF
        refine Exec.seam (fun L' V' M' => ∃ (x24 : List Int) (a23 : Option Addr) (k23 : Nat) (cs23 : List Value), L' = [(1, .ptr 0 0), (3, .v (.slice a23 ((x24).length) (k23))), (4, .v (.int .i64 (x13)))] ∧ M' = [.blk [.v (.int .i64 (x1.Version)), .v (.slice a2 ((x1.Parts).length) (k2))] 24, .row (.slice a23 ((x24).length) (k23)) cs23 3 1] ∧ RowRep (cInt .i64) V' x24 cs23 ∧ SlAt cTPart V' a2 k2 x1.Parts ∧ J25 x24 = some r) rfl ?_ ?_
        · rintro L' V26 M' ⟨x24, a23, k23, cs23, rfl, rfl, h23, h27, hF⟩
          subst hJ25
          refine Exec.run tyOk 400 rfl ?_
          exact Exec.round [(1, .ptr 0 0), (3, .v (.slice a23 ((x24).length) (k23))), (4, .v (.int .i64 ((IntKind.i64.wrap (x13 + (1 : Int))))))] ⟨rfl, rfl, rfl, trivial⟩ ⟨n14, Nat.lt_succ_self _, x24, a23, k23, cs23, (IntKind.i64.wrap (x13 + (1 : Int))), rfl, rfl, h23, h27, hF⟩
        · skip
          refine Exec.run tyOk 400 rfl ?_
          rcases cond_some hF with ⟨hb, hF⟩ | ⟨hb, hF⟩
          · skip
            refine Exec.ifT rfl hb ?_
            refine Exec.run tyOk 400 rfl ?_
            refine Exec.bsl tyOk rfl rfl ?_
            refine Exec.run tyOk 400 rfl ?_
            obtain ⟨q29, hF⟩ := req_some hF
            refine Exec.app tyOk 1 2 (nm := ((x12 ++ [x13])).length) rfl rfl rfl rfl rfl rfl rfl rfl rfl (by simp) (fun _ _ => rfl) rfl q29 (fun a28 k28 => ?_)
            have h28 : RowRep (cInt .i64) V21 (x12 ++ [x13]) (cs11 ++ [.int .i64 (x13)]) := RowRep.app h18 ⟨_, _, rfl, rfl, rfl⟩
            refine Exec.run tyOk 400 rfl ?_
            refine Exec.cut 2 [(1, .ptr 0 0), (3, .v (.slice a28 (((x12 ++ [x13])).length) (k28))), (4, .v (.int .i64 (x13)))] (M' := [.blk [.v (.int .i64 (x1.Version)), .v (.slice a2 ((x1.Parts).length) (k2))] 24, .row (.slice a28 (((x12 ++ [x13])).length) (k28)) ((cs11 ++ [.int .i64 (x13)])) 3 1]) rfl ⟨rfl, rfl, rfl, trivial⟩ rfl rfl rfl ?_
            exact Exec.round [(1, .ptr 0 0), (3, .v (.slice a28 (((x12 ++ [x13])).length) (k28))), (4, .v (.int .i64 (x13)))] ⟨rfl, rfl, rfl, trivial⟩ ⟨(x12 ++ [x13]), a28, k28, (cs11 ++ [.int .i64 (x13)]), rfl, rfl, h28, h22, hF⟩
          · skip
            refine Exec.ifF rfl hb ?_
            refine Exec.run tyOk 400 rfl ?_
            exact Exec.round [(1, .ptr 0 0), (3, .v (.slice a11 ((x12).length) (k11))), (4, .v (.int .i64 (x13)))] ⟨rfl, rfl, rfl, trivial⟩ ⟨x12, a11, k11, cs11, rfl, rfl, h18, h22, hF⟩
      · skip
        refine Exec.run tyOk 400 rfl ?_
        refine Exec.loop (fun n33 L' V' M' => ∃ (x31 : Bool) (x32 : Int), L' = [(1, .ptr 0 0), (3, .v (.slice a11 ((x12).length) (k11))), (4, .v (.int .i64 (x13))), (5, .v (.bool (x31))), (6, .v (.int .i64 (x32)))] ∧ M' = [.blk [.v (.int .i64 (x1.Version)), .v (.slice a2 ((x1.Parts).length) (k2))] 24, .row (.slice a11 ((x12).length) (k11)) cs11 3 1] ∧ RowRep (cInt .i64) V' x12 cs11 ∧ SlAt cTPart V' a2 k2 x1.Parts ∧ F_clockworkref29_Nodes_L2 x1 x13 J20 n33 x31 x32 = some r) ⟨(((((x1.Parts).length : Nat) : Int)).toNat + 1), [(1, .ptr 0 0), (3, .v (.slice a11 ((x12).length) (k11))), (4, .v (.int .i64 (x13))), (5, .v (.bool (false))), (6, .v (.int .i64 ((0 : Int))))], ⟨rfl, rfl, rfl, rfl, rfl, trivial⟩, false, (0 : Int), rfl, rfl, h11, h16, hF⟩ ?_
        rintro n33 L' V34 M' ⟨x31, x32, rfl, rfl, h30, h35, hF⟩
        rcases n33 with _ | n33
        · exact absurd hF (by simp [F_clockworkref29_Nodes_L2])
        rw [F_clockworkref29_Nodes_L2] at hF
        refine Exec.run tyOk 400 rfl ?_
        rcases cond_some hF with ⟨hb, hF⟩ | ⟨hb, hF⟩
        · skip
          refine Exec.ifT rfl hb ?_
          refine Exec.run tyOk 400 rfl ?_
          obtain ⟨q36, hF⟩ := req_some hF
          obtain ⟨c37, hr37, hd37⟩ := SlAt.gget ((x31) == false) h35 q36
          obtain rfl := hr37
          refine Exec.ia tyOk rfl rfl (fun gg0 => ⟨(q36 (gd1_of gg0)).1, (q36 (gd1_of gg0)).2, (hd37 (gd1_of gg0)).some⟩) ?_
          refine Exec.run tyOk 400 rfl ?_
          refine Exec.ld tyOk (x := .int .i64 ((cond ((x31) == false) (atI x1.Parts x32) default).Node)) rfl rfl (fun gg0 => (RdAt.part (hd37 (gd1_of gg0)) 2 1 rfl)) rfl rfl ?_
          refine Exec.run tyOk 400 rfl ?_
          obtain ⟨q38, hF⟩ := req_some hF
          obtain ⟨c39, hr39, hd39⟩ := SlAt.gget (((x31 || ((cond ((x31) == false) (atI x1.Parts x32) default).Node == x13))) == false) h35 q38
          obtain rfl := hr39
          refine Exec.ia tyOk rfl rfl (fun gg0 => ⟨(q38 (gd1_of gg0)).1, (q38 (gd1_of gg0)).2, (hd39 (gd1_of gg0)).some⟩) ?_
          refine Exec.run tyOk 400 rfl ?_
          refine Exec.ld tyOk (x := .int .i64 ((cond (((x31 || ((cond ((x31) == false) (atI x1.Parts x32) default).Node == x13))) == false) (atI x1.Parts x32) default).Dest)) rfl rfl (fun gg0 => (RdAt.part (hd39 (gd1_of gg0)) 3 1 rfl)) rfl rfl ?_
          refine Exec.run tyOk 400 rfl ?_
          exact Exec.round [(1, .ptr 0 0), (3, .v (.slice a11 ((x12).length) (k11))), (4, .v (.int .i64 (x13))), (5, .v (.bool (((x31 || ((cond ((x31) == false) (atI x1.Parts x32) default).Node == x13)) || ((cond (((x31 || ((cond ((x31) == false) (atI x1.Parts x32) default).Node == x13))) == false) (atI x1.Parts x32) default).Dest == x13))))), (6, .v (.int .i64 ((IntKind.i64.wrap (x32 + (1 : Int))))))] ⟨rfl, rfl, rfl, rfl, rfl, trivial⟩ ⟨n33, Nat.lt_succ_self _, ((x31 || ((cond ((x31) == false) (atI x1.Parts x32) default).Node == x13)) || ((cond (((x31 || ((cond ((x31) == false) (atI x1.Parts x32) default).Node == x13))) == false) (atI x1.Parts x32) default).Dest == x13)), (IntKind.i64.wrap (x32 + (1 : Int))), rfl, rfl, h30, h35, hF⟩
        · skip
          refine Exec.ifF rfl hb ?_
          refine Exec.run tyOk 400 rfl ?_
          exact Exec.round [(1, .ptr 0 0), (3, .v (.slice a11 ((x12).length) (k11))), (4, .v (.int .i64 (x13))), (5, .v (.bool (x31)))] ⟨rfl, rfl, rfl, rfl, trivial⟩ ⟨x31, rfl, rfl, h30, h35, hF⟩
    · skip
      refine Exec.ifF rfl hb ?_
      refine Exec.run tyOk 400 rfl ?_
      exact Exec.round [(3, .v (.slice a11 ((x12).length) (k11)))] ⟨rfl, trivial⟩ ⟨x12, a11, k11, cs11, rfl, rfl, h11, h16, hF⟩

def F_clockworkref29_Index_L1 (x1 : TPlacement) (x3 : Str) (J6 : Int → Option Int) : Nat → Int → Int → Option Int
  | 0, _, _ => none
  | n10 + 1, x8, x9 => (cond (decide (x9 < (((x1.Parts).length : Nat) : Int))) (req (0 ≤ x9 ∧ x9 < ((x1.Parts).length : Int)) (jn (fun (x15 : Int) => (F_clockworkref29_Index_L1 x1 x3 J6 n10 x15 ((IntKind.i64.wrap (x9 + (1 : Int)))))) (fun J16 => (cond (!sLt x3 (atI x1.Parts x9).From) (J16 x9) (J16 x8))))) (J6 x8))

def F_clockworkref29_Index (x1 : TPlacement) (x3 : Str) : Option Int :=
  (bnd (F_clockworkref29_Valid x1) fun x4 => (cond (!x4) (some (-1 : Int)) (jn (fun (x5 : Int) => (some x5)) (fun J6 => (F_clockworkref29_Index_L1 x1 x3 J6 (((((x1.Parts).length : Nat) : Int)).toNat + 1) ((0 : Int)) ((1 : Int)))))))

set_option maxRecDepth 100000 in
theorem W_clockworkref29_Index {V : View} (x1 : TPlacement) (x3 : Str) {a2 : Option Addr} {k2 : Nat} (h2 : SlAt cTPart V a2 k2 x1.Parts) {r : Int} (hF : F_clockworkref29_Index x1 x3 = some r) :
    Spec Try.prog 47 [.agg ⟨[.int .i64 (x1.Version), .slice a2 ((x1.Parts).length) (k2)]⟩, .string ⟨⟨x3⟩⟩] V (fun _ v => v = .int .i64 (r)) := by
  unfold F_clockworkref29_Index at hF
  refine Spec.enter (T := tyT) Try.func47 rfl (by kernel_rfl) rfl rfl rfl ?_
  refine Exec.run tyOk 400 rfl ?_
  obtain ⟨x4, hx4, hF⟩ := bnd_some hF
  refine Exec.callS (.bool (x4)) rfl rfl (W_clockworkref29_Valid x1 h2 hx4) ?_
  refine Exec.run tyOk 400 rfl ?_
  rcases cond_some hF with ⟨hb, hF⟩ | ⟨hb, hF⟩
  · skip
    refine Exec.ifT rfl hb ?_
    refine Exec.run tyOk 400 rfl ?_
    obtain rfl := some_inj hF
    exact Exec.ret tyOk rfl rfl rfl
  · skip
    refine Exec.ifF rfl hb ?_
    refine Exec.run tyOk 10 rfl ?_
    obtain ⟨J6, hJ6, hF⟩ := jn_some hF
    refine Exec.seam (fun L' V' M' => ∃ (x5 : Int), L' = [(5, .v (.int .i64 (x5)))] ∧ M' = [] ∧ J6 x5 = some r) rfl ?_ ?_
    · rintro L' V7 M' ⟨x5, rfl, rfl, hF⟩
      subst hJ6
      refine Exec.run tyOk 400 rfl ?_
      obtain rfl := some_inj hF
      exact Exec.ret tyOk rfl rfl rfl
    · skip
      refine Exec.run tyOk 400 rfl ?_
      refine Exec.loop (fun n10 L' V' M' => ∃ (x8 : Int) (x9 : Int), L' = [(1, .v (.string ⟨⟨x3⟩⟩)), (2, .ptr 0 0), (5, .v (.int .i64 (x8))), (6, .v (.int .i64 (x9)))] ∧ M' = [.blk [.v (.int .i64 (x1.Version)), .v (.slice a2 ((x1.Parts).length) (k2))] 24] ∧ SlAt cTPart V' a2 k2 x1.Parts ∧ F_clockworkref29_Index_L1 x1 x3 J6 n10 x8 x9 = some r) ⟨(((((x1.Parts).length : Nat) : Int)).toNat + 1), [(1, .v (.string ⟨⟨x3⟩⟩)), (2, .ptr 0 0), (5, .v (.int .i64 ((0 : Int)))), (6, .v (.int .i64 ((1 : Int))))], ⟨rfl, rfl, rfl, rfl, trivial⟩, (0 : Int), (1 : Int), rfl, rfl, h2, hF⟩ ?_
      rintro n10 L' V11 M' ⟨x8, x9, rfl, rfl, h12, hF⟩
      rcases n10 with _ | n10
      · exact absurd hF (by simp [F_clockworkref29_Index_L1])
      rw [F_clockworkref29_Index_L1] at hF
      refine Exec.run tyOk 400 rfl ?_
      rcases cond_some hF with ⟨hb, hF⟩ | ⟨hb, hF⟩
      · skip
        refine Exec.ifT rfl hb ?_
        refine Exec.run tyOk 400 rfl ?_
        obtain ⟨q13, hF⟩ := req_some hF
        obtain ⟨c14, hr14, hd14⟩ := SlAt.get h12 q13
        obtain rfl := hr14
        refine Exec.ia tyOk rfl rfl ⟨q13.1, q13.2, hd14.some⟩ ?_
        refine Exec.run tyOk 400 rfl ?_
        refine Exec.ld tyOk (x := .string ⟨⟨(atI x1.Parts x9).From⟩⟩) rfl rfl (RdAt.part hd14 1 1 rfl) rfl rfl ?_
        refine Exec.run tyOk 400 rfl ?_
        obtain ⟨J16, hJ16, hF⟩ := jn_some hF
        refine Exec.seam (fun L' V' M' => ∃ (x15 : Int), L' = [(1, .v (.string ⟨⟨x3⟩⟩)), (2, .ptr 0 0), (5, .v (.int .i64 (x15))), (6, .v (.int .i64 (x9)))] ∧ M' = [.blk [.v (.int .i64 (x1.Version)), .v (.slice a2 ((x1.Parts).length) (k2))] 24] ∧ SlAt cTPart V' a2 k2 x1.Parts ∧ J16 x15 = some r) rfl ?_ ?_
        · rintro L' V17 M' ⟨x15, rfl, rfl, h18, hF⟩
          subst hJ16
          refine Exec.run tyOk 400 rfl ?_
          exact Exec.round [(1, .v (.string ⟨⟨x3⟩⟩)), (2, .ptr 0 0), (5, .v (.int .i64 (x15))), (6, .v (.int .i64 ((IntKind.i64.wrap (x9 + (1 : Int))))))] ⟨rfl, rfl, rfl, rfl, trivial⟩ ⟨n10, Nat.lt_succ_self _, x15, (IntKind.i64.wrap (x9 + (1 : Int))), rfl, rfl, h18, hF⟩
        · skip
          refine Exec.run tyOk 400 rfl ?_
          rcases cond_some hF with ⟨hb, hF⟩ | ⟨hb, hF⟩
          · skip
            refine Exec.ifT rfl hb ?_
            refine Exec.run tyOk 400 rfl ?_
            exact Exec.round [(1, .v (.string ⟨⟨x3⟩⟩)), (2, .ptr 0 0), (5, .v (.int .i64 (x9))), (6, .v (.int .i64 (x9)))] ⟨rfl, rfl, rfl, rfl, trivial⟩ ⟨x9, rfl, rfl, h12, hF⟩
          · skip
            refine Exec.ifF rfl hb ?_
            refine Exec.run tyOk 400 rfl ?_
            exact Exec.round [(1, .v (.string ⟨⟨x3⟩⟩)), (2, .ptr 0 0), (5, .v (.int .i64 (x8))), (6, .v (.int .i64 (x9)))] ⟨rfl, rfl, rfl, rfl, trivial⟩ ⟨x8, rfl, rfl, h12, hF⟩
      · skip
        refine Exec.ifF rfl hb ?_
        refine Exec.run tyOk 400 rfl ?_
        refine Exec.cut 0 [(5, .v (.int .i64 (x8)))] (M' := []) rfl ⟨rfl, trivial⟩ rfl rfl rfl ?_
        exact Exec.round [(5, .v (.int .i64 (x8)))] ⟨rfl, trivial⟩ ⟨x8, rfl, rfl, hF⟩

def F_placement_find (x1 : List TPart) (x3 : Int) : Option Int :=
  (bnd (F_slices_IndexFunc_api_Part_api_Part x1 (fun y0 => F_placement_find_1 y0 x3)) fun x6 => (some x6))

set_option maxRecDepth 100000 in
theorem W_placement_find {V : View} (x1 : List TPart) (x3 : Int) {a2 : Option Addr} {k2 : Nat} (h2 : SlAt cTPart V a2 k2 x1) {r : Int} (hF : F_placement_find x1 x3 = some r) :
    Spec Try.prog 52 [.slice a2 ((x1).length) (k2), .int .i64 (x3)] V (fun _ v => v = .int .i64 (r)) := by
  unfold F_placement_find at hF
  refine Spec.enter (T := tyT) Try.func52 rfl (by kernel_rfl) rfl rfl rfl ?_
  refine Exec.run tyOk 400 rfl ?_
  refine Exec.openB 0 rfl rfl rfl rfl (fun _ => rfl) (fun _ => rfl) (fun V4 b4 hv4 hd4 => ?_)
  have h5 := SlAt.mono h2 hv4
  refine Exec.mkf rfl rfl ?_
  refine Exec.run tyOk 400 rfl ?_
  obtain ⟨x6, hx6, hF⟩ := bnd_some hF
  refine Exec.callS (.int .i64 (x6)) rfl rfl (W_slices_IndexFunc_api_Part_api_Part x1 (fun y0 => F_placement_find_1 y0 x3) h5 (fun V' hv y0 r hr => W_placement_find_1 y0 x3 (RdAt.mono hd4 hv) hr) hx6) ?_
  refine Exec.run tyOk 400 rfl ?_
  obtain rfl := some_inj hF
  exact Exec.ret tyOk rfl rfl rfl

def F_slices_ContainsFunc_api_Pair_api_Pair (x1 : List TPair) (g4 : TPair → Option Bool) : Option Bool :=
  (bnd (F_slices_IndexFunc_api_Pair_api_Pair x1 g4) fun x5 => (some (decide ((0 : Int) ≤ x5))))

set_option maxRecDepth 100000 in
theorem W_slices_ContainsFunc_api_Pair_api_Pair {V : View} (x1 : List TPair) (g4 : TPair → Option Bool) {f4 : Nat} {ca4 : List Value} {a2 : Option Addr} {k2 : Nat} (h2 : SlAt cTPair V a2 k2 x1) (hg4 : FnSpec1 Try.prog f4 ca4 V (fun (y : TPair) => .agg ⟨[.string ⟨⟨y.Key⟩⟩, .int .i64 (y.Val.Kind), .int .i64 (y.Val.N), .string ⟨⟨y.Val.S⟩⟩]⟩) (fun (r : Bool) => .bool (r)) g4) {r : Bool} (hF : F_slices_ContainsFunc_api_Pair_api_Pair x1 g4 = some r) :
    Spec Try.prog 58 [.slice a2 ((x1).length) (k2), .func (.func f4) #[] ⟨ca4⟩] V (fun _ v => v = .bool (r)) := by
  unfold F_slices_ContainsFunc_api_Pair_api_Pair at hF
  refine Spec.enter (T := tyT) Try.func58 rfl (by kernel_rfl) rfl rfl rfl ?_
  refine Exec.run tyOk 400 rfl ?_
  obtain ⟨x5, hx5, hF⟩ := bnd_some hF
  refine Exec.callS (.int .i64 (x5)) rfl rfl (W_slices_IndexFunc_api_Pair_api_Pair x1 g4 h2 hg4 hx5) ?_
  refine Exec.run tyOk 400 rfl ?_
  obtain rfl := some_inj hF
  exact Exec.ret tyOk rfl rfl rfl

def F_keys_isBound (x1 : Str) : Option Bool :=
  (bnd (F_keys_consists x1 (fun y0 => F_keys_isBound_1 y0 )) fun x2 => (some x2))

set_option maxRecDepth 100000 in
theorem W_keys_isBound {V : View} (x1 : Str)   {r : Bool} (hF : F_keys_isBound x1 = some r) :
    Spec Try.prog 60 [.string ⟨⟨x1⟩⟩] V (fun _ v => v = .bool (r)) := by
  unfold F_keys_isBound at hF
  refine Spec.enter (T := tyT) Try.func60 rfl (by kernel_rfl) rfl rfl rfl ?_
  refine Exec.run tyOk 400 rfl ?_
  obtain ⟨x2, hx2, hF⟩ := bnd_some hF
  refine Exec.callS (.bool (x2)) rfl rfl (W_keys_consists x1 (fun y0 => F_keys_isBound_1 y0 ) (fun V' hv y0 r hr => W_keys_isBound_1 y0   hr) hx2) ?_
  refine Exec.run tyOk 400 rfl ?_
  obtain rfl := some_inj hF
  exact Exec.ret tyOk rfl rfl rfl

def F_state_order (x1 : TPair) (x2 : TPair) : Option Int :=
  (bnd (F_strings_Compare x1.Key x2.Key) fun x3 => (some x3))

set_option maxRecDepth 100000 in
theorem W_state_order {V : View} (x1 : TPair) (x2 : TPair)   {r : Int} (hF : F_state_order x1 x2 = some r) :
    Spec Try.prog 63 [.agg ⟨[.string ⟨⟨x1.Key⟩⟩, .int .i64 (x1.Val.Kind), .int .i64 (x1.Val.N), .string ⟨⟨x1.Val.S⟩⟩]⟩, .agg ⟨[.string ⟨⟨x2.Key⟩⟩, .int .i64 (x2.Val.Kind), .int .i64 (x2.Val.N), .string ⟨⟨x2.Val.S⟩⟩]⟩] V (fun _ v => v = .int .i64 (r)) := by
  unfold F_state_order at hF
  refine Spec.enter (T := tyT) Try.func63 rfl (by kernel_rfl) rfl rfl rfl ?_
  refine Exec.run tyOk 400 rfl ?_
  obtain ⟨x3, hx3, hF⟩ := bnd_some hF
  refine Exec.callS (.int .i64 (x3)) rfl rfl (W_strings_Compare x1.Key x2.Key  hx3) ?_
  refine Exec.run tyOk 400 rfl ?_
  obtain rfl := some_inj hF
  exact Exec.ret tyOk rfl rfl rfl

def F_keys_Valid (x1 : Str) : Option Bool :=
  (bnd (gcall (((x1 != ([] : Str))) == true) (F_keys_consists x1 (fun y0 => F_keys_Valid_1 y0 ))) fun x2 => (some ((x1 != ([] : Str)) && x2)))

set_option maxRecDepth 100000 in
theorem W_keys_Valid {V : View} (x1 : Str)   {r : Bool} (hF : F_keys_Valid x1 = some r) :
    Spec Try.prog 73 [.string ⟨⟨x1⟩⟩] V (fun _ v => v = .bool (r)) := by
  unfold F_keys_Valid at hF
  refine Spec.enter (T := tyT) Try.func73 rfl (by kernel_rfl) rfl rfl rfl ?_
  refine Exec.run tyOk 400 rfl ?_
  obtain ⟨x2, hx2, hF⟩ := bnd_some hF
  refine Exec.callS (.bool (x2)) rfl rfl (fun gg0 => W_keys_consists x1 (fun y0 => F_keys_Valid_1 y0 ) (fun V' hv y0 r hr => W_keys_Valid_1 y0   hr) (gcall_some hx2 (gd1_of gg0))) ?_
  refine Exec.run tyOk 400 rfl ?_
  obtain rfl := some_inj hF
  exact Exec.ret tyOk rfl rfl rfl

def F_value_Valid (x1 : TValue) : Option Bool :=
  (cond (x1.Kind == (0 : Int)) (some ((x1.Kind == 0) && ((x1.N == 0) && ((x1.S == []) && true)))) (cond (x1.Kind == (1 : Int)) (some (x1.S == ([] : Str))) (cond (x1.Kind == (2 : Int)) (bnd (gcall (((x1.N == (0 : Int))) == true) (F_value_plain x1.S)) fun x2 => (some ((x1.N == (0 : Int)) && x2))) (some false))))

set_option maxRecDepth 100000 in
theorem W_value_Valid {V : View} (x1 : TValue)   {r : Bool} (hF : F_value_Valid x1 = some r) :
    Spec Try.prog 74 [.agg ⟨[.int .i64 (x1.Kind), .int .i64 (x1.N), .string ⟨⟨x1.S⟩⟩]⟩] V (fun _ v => v = .bool (r)) := by
  unfold F_value_Valid at hF
  refine Spec.enter (T := tyT) Try.func74 rfl (by kernel_rfl) rfl rfl rfl ?_
  refine Exec.run tyOk 400 rfl ?_
  rcases cond_some hF with ⟨hb, hF⟩ | ⟨hb, hF⟩
  · skip
    refine Exec.ifT rfl hb ?_
    refine Exec.run tyOk 400 rfl ?_
    obtain rfl := some_inj hF
    exact Exec.ret tyOk rfl rfl rfl
  · skip
    refine Exec.ifF rfl hb ?_
    refine Exec.run tyOk 400 rfl ?_
    rcases cond_some hF with ⟨hb, hF⟩ | ⟨hb, hF⟩
    · skip
      refine Exec.ifT rfl hb ?_
      refine Exec.run tyOk 400 rfl ?_
      obtain rfl := some_inj hF
      exact Exec.ret tyOk rfl rfl rfl
    · skip
      refine Exec.ifF rfl hb ?_
      refine Exec.run tyOk 400 rfl ?_
      rcases cond_some hF with ⟨hb, hF⟩ | ⟨hb, hF⟩
      · skip
        refine Exec.ifT rfl hb ?_
        refine Exec.run tyOk 400 rfl ?_
        obtain ⟨x2, hx2, hF⟩ := bnd_some hF
        refine Exec.callS (.bool (x2)) rfl rfl (fun gg0 => W_value_plain x1.S  (gcall_some hx2 (gd1_of gg0))) ?_
        refine Exec.run tyOk 400 rfl ?_
        obtain rfl := some_inj hF
        exact Exec.ret tyOk rfl rfl rfl
      · skip
        refine Exec.ifF rfl hb ?_
        refine Exec.run tyOk 400 rfl ?_
        obtain rfl := some_inj hF
        exact Exec.ret tyOk rfl rfl rfl

def F_clockworkref05_Valid (x1 : TValue) : Option Bool :=
  (cond (x1.Kind == (0 : Int)) (some ((x1.N == (0 : Int)) && (x1.S == ([] : Str)))) (cond (x1.Kind == (1 : Int)) (some (x1.S == ([] : Str))) (bnd (gcall ((((x1.Kind == (2 : Int)) && (x1.N == (0 : Int)))) == true) (F_clockworkref05_Plain x1.S)) fun x2 => (some (((x1.Kind == (2 : Int)) && (x1.N == (0 : Int))) && x2)))))

set_option maxRecDepth 100000 in
theorem W_clockworkref05_Valid {V : View} (x1 : TValue)   {r : Bool} (hF : F_clockworkref05_Valid x1 = some r) :
    Spec Try.prog 79 [.agg ⟨[.int .i64 (x1.Kind), .int .i64 (x1.N), .string ⟨⟨x1.S⟩⟩]⟩] V (fun _ v => v = .bool (r)) := by
  unfold F_clockworkref05_Valid at hF
  refine Spec.enter (T := tyT) Try.func79 rfl (by kernel_rfl) rfl rfl rfl ?_
  refine Exec.run tyOk 400 rfl ?_
  rcases cond_some hF with ⟨hb, hF⟩ | ⟨hb, hF⟩
  · skip
    refine Exec.ifT rfl hb ?_
    refine Exec.run tyOk 400 rfl ?_
    obtain rfl := some_inj hF
    exact Exec.ret tyOk rfl rfl rfl
  · skip
    refine Exec.ifF rfl hb ?_
    refine Exec.run tyOk 400 rfl ?_
    rcases cond_some hF with ⟨hb, hF⟩ | ⟨hb, hF⟩
    · skip
      refine Exec.ifT rfl hb ?_
      refine Exec.run tyOk 400 rfl ?_
      obtain rfl := some_inj hF
      exact Exec.ret tyOk rfl rfl rfl
    · skip
      refine Exec.ifF rfl hb ?_
      refine Exec.run tyOk 400 rfl ?_
      obtain ⟨x2, hx2, hF⟩ := bnd_some hF
      refine Exec.callS (.bool (x2)) rfl rfl (fun gg0 => W_clockworkref05_Plain x1.S  (gcall_some hx2 (gd1_of gg0))) ?_
      refine Exec.run tyOk 400 rfl ?_
      obtain rfl := some_inj hF
      exact Exec.ret tyOk rfl rfl rfl

def F_clockworkref06_ascending_L1 (x1 : List TPair) (J3 : Option Bool) : Nat → Int → Option Bool
  | 0, _ => none
  | n6 + 1, x5 => (cond (decide (x5 < (((x1).length : Nat) : Int))) (req (0 ≤ x5 ∧ x5 < ((x1).length : Int)) (bnd (F_clockworkref04_Valid ((atI x1 x5).Key)) fun x11 => (req (((((decide ((0 : Int) < x5))) == true) && (((!x11)) == false)) = true → 0 ≤ x5 ∧ x5 < ((x1).length : Int)) (req (((((decide ((0 : Int) < x5))) == true) && (((!x11)) == false)) = true → 0 ≤ (IntKind.i64.wrap (x5 - (1 : Int))) ∧ (IntKind.i64.wrap (x5 - (1 : Int))) < ((x1).length : Int)) (cond ((!x11) || ((decide ((0 : Int) < x5)) && (!sLt (cond ((((decide ((0 : Int) < x5))) == true) && (((!x11)) == false)) (atI x1 ((IntKind.i64.wrap (x5 - (1 : Int))))) default).Key (cond ((((decide ((0 : Int) < x5))) == true) && (((!x11)) == false)) (atI x1 x5) default).Key))) (some false) (F_clockworkref06_ascending_L1 x1 J3 n6 ((IntKind.i64.wrap (x5 + (1 : Int)))))))))) J3)

def F_clockworkref06_ascending (x1 : List TPair) : Option Bool :=
  (jn ((some true)) (fun J3 => (F_clockworkref06_ascending_L1 x1 J3 (((((x1).length : Nat) : Int)).toNat + 1) ((0 : Int)))))

set_option maxRecDepth 100000 in
theorem W_clockworkref06_ascending {V : View} (x1 : List TPair) {a2 : Option Addr} {k2 : Nat} (h2 : SlAt cTPair V a2 k2 x1) {r : Bool} (hF : F_clockworkref06_ascending x1 = some r) :
    Spec Try.prog 80 [.slice a2 ((x1).length) (k2)] V (fun _ v => v = .bool (r)) := by
  unfold F_clockworkref06_ascending at hF
  refine Spec.enter (T := tyT) Try.func80 rfl (by kernel_rfl) rfl rfl rfl ?_
  refine Exec.run tyOk 9 rfl ?_
  obtain ⟨J3, hJ3, hF⟩ := jn_some hF
  refine Exec.seam (fun L' V' M' => L' = [] ∧ M' = [] ∧ J3 = some r) rfl ?_ ?_
  · rintro L' V4 M' ⟨rfl, rfl, hF⟩
    subst hJ3
    refine Exec.run tyOk 400 rfl ?_
    obtain rfl := some_inj hF
    exact Exec.ret tyOk rfl rfl rfl
  · skip
    refine Exec.run tyOk 400 rfl ?_
    refine Exec.loop (fun n6 L' V' M' => ∃ (x5 : Int), L' = [(0, .v (.slice a2 ((x1).length) (k2))), (3, .v (.int .i64 (x5)))] ∧ M' = [] ∧ SlAt cTPair V' a2 k2 x1 ∧ F_clockworkref06_ascending_L1 x1 J3 n6 x5 = some r) ⟨(((((x1).length : Nat) : Int)).toNat + 1), [(0, .v (.slice a2 ((x1).length) (k2))), (3, .v (.int .i64 ((0 : Int))))], ⟨rfl, rfl, trivial⟩, (0 : Int), rfl, rfl, h2, hF⟩ ?_
    rintro n6 L' V7 M' ⟨x5, rfl, rfl, h8, hF⟩
    rcases n6 with _ | n6
    · exact absurd hF (by simp [F_clockworkref06_ascending_L1])
    rw [F_clockworkref06_ascending_L1] at hF
    refine Exec.run tyOk 400 rfl ?_
    rcases cond_some hF with ⟨hb, hF⟩ | ⟨hb, hF⟩
    · skip
      refine Exec.ifT rfl hb ?_
      refine Exec.run tyOk 400 rfl ?_
      refine Exec.draws tyOk [(0, true), (1, true), (2, true), (3, true), (4, true), (5, false), (6, false), (7, false), (8, false), (9, false), (10, false), (11, true), (12, true), (13, true), (14, true), (15, true), (16, true), (17, false), (18, false), (19, false), (20, false), (21, false), (22, false), (23, false), (24, false)] rfl (by kernel_rfl) ?_
      refine Exec.run tyOk 400 rfl ?_
      obtain ⟨q9, hF⟩ := req_some hF
      obtain ⟨c10, hr10, hd10⟩ := SlAt.get h8 q9
      obtain rfl := hr10
      refine Exec.fia tyOk rfl rfl rfl ⟨q9.1, q9.2, hd10.some⟩ ?_
      refine Exec.run tyOk 400 rfl ?_
      refine Exec.fld tyOk (x := .string ⟨⟨(atI x1 x5).Key⟩⟩) rfl rfl rfl (RdAt.part hd10 0 1 rfl) rfl rfl ?_
      refine Exec.run tyOk 400 rfl ?_
      obtain ⟨x11, hx11, hF⟩ := bnd_some hF
      refine Exec.callS (.bool (x11)) rfl rfl (W_clockworkref04_Valid ((atI x1 x5).Key)  hx11) ?_
      refine Exec.run tyOk 400 rfl ?_
      obtain ⟨q12, hF⟩ := req_some hF
      obtain ⟨c13, hr13, hd13⟩ := SlAt.gget ((((decide ((0 : Int) < x5))) == true) && (((!x11)) == false)) h8 q12
      obtain rfl := hr13
      refine Exec.fia tyOk rfl rfl rfl (fun gg0 gg1 => ⟨(q12 (gd2_of gg0 gg1)).1, (q12 (gd2_of gg0 gg1)).2, (hd13 (gd2_of gg0 gg1)).some⟩) ?_
      refine Exec.run tyOk 400 rfl ?_
      refine Exec.fld tyOk (x := .string ⟨⟨(cond ((((decide ((0 : Int) < x5))) == true) && (((!x11)) == false)) (atI x1 x5) default).Key⟩⟩) rfl rfl rfl (fun gg0 gg1 => (RdAt.part (hd13 (gd2_of gg0 gg1)) 0 1 rfl)) rfl rfl ?_
      refine Exec.run tyOk 400 rfl ?_
      obtain ⟨q14, hF⟩ := req_some hF
      obtain ⟨c15, hr15, hd15⟩ := SlAt.gget ((((decide ((0 : Int) < x5))) == true) && (((!x11)) == false)) h8 q14
      obtain rfl := hr15
      refine Exec.ia tyOk rfl rfl (fun gg0 gg1 => ⟨(q14 (gd2_of gg0 gg1)).1, (q14 (gd2_of gg0 gg1)).2, (hd15 (gd2_of gg0 gg1)).some⟩) ?_
      refine Exec.run tyOk 400 rfl ?_
      refine Exec.ld tyOk (x := .string ⟨⟨(cond ((((decide ((0 : Int) < x5))) == true) && (((!x11)) == false)) (atI x1 ((IntKind.i64.wrap (x5 - (1 : Int))))) default).Key⟩⟩) rfl rfl (fun gg0 gg1 => (RdAt.part (hd15 (gd2_of gg0 gg1)) 0 1 rfl)) rfl rfl ?_
      refine Exec.run tyOk 400 rfl ?_
      rcases cond_some hF with ⟨hb, hF⟩ | ⟨hb, hF⟩
      · skip
        refine Exec.ifT rfl hb ?_
        refine Exec.run tyOk 400 rfl ?_
        obtain rfl := some_inj hF
        exact Exec.ret tyOk rfl rfl rfl
      · skip
        refine Exec.ifF rfl hb ?_
        refine Exec.run tyOk 400 rfl ?_
        exact Exec.round [(0, .v (.slice a2 ((x1).length) (k2))), (3, .v (.int .i64 ((IntKind.i64.wrap (x5 + (1 : Int))))))] ⟨rfl, rfl, trivial⟩ ⟨n6, Nat.lt_succ_self _, (IntKind.i64.wrap (x5 + (1 : Int))), rfl, rfl, h8, hF⟩
    · skip
      refine Exec.ifF rfl hb ?_
      refine Exec.run tyOk 400 rfl ?_
      exact Exec.round [] trivial ⟨rfl, rfl, hF⟩

def F_math_bits_Len (x1 : Int) : Option Int :=
  (cond false (bnd (F_math_bits_Len32 ((IntKind.u32.wrap x1))) fun x2 => (some x2)) (bnd (F_math_bits_Len64 x1) fun x3 => (some x3)))

set_option maxRecDepth 100000 in
theorem W_math_bits_Len {V : View} (x1 : Int)   {r : Int} (hF : F_math_bits_Len x1 = some r) :
    Spec Try.prog 94 [.int .u64 (x1)] V (fun _ v => v = .int .i64 (r)) := by
  unfold F_math_bits_Len at hF
  refine Spec.enter (T := tyT) Try.func94 rfl (by kernel_rfl) rfl rfl rfl ?_
  refine Exec.run tyOk 400 rfl ?_
  rcases cond_some hF with ⟨hb, hF⟩ | ⟨hb, hF⟩
  · skip
    refine Exec.ifT rfl hb ?_
    refine Exec.run tyOk 400 rfl ?_
    obtain ⟨x2, hx2, hF⟩ := bnd_some hF
    refine Exec.callS (.int .i64 (x2)) rfl rfl (W_math_bits_Len32 ((IntKind.u32.wrap x1))  hx2) ?_
    refine Exec.run tyOk 400 rfl ?_
    obtain rfl := some_inj hF
    exact Exec.ret tyOk rfl rfl rfl
  · skip
    refine Exec.ifF rfl hb ?_
    refine Exec.run tyOk 400 rfl ?_
    obtain ⟨x3, hx3, hF⟩ := bnd_some hF
    refine Exec.callS (.int .i64 (x3)) rfl rfl (W_math_bits_Len64 x1  hx3) ?_
    refine Exec.run tyOk 400 rfl ?_
    obtain rfl := some_inj hF
    exact Exec.ret tyOk rfl rfl rfl

def F_cmp_Less_int (x1 : Int) (x2 : Int) : Option Bool :=
  (bnd (F_cmp_isNaN_int x1) fun x3 => (bnd (gcall ((x3) == true) (F_cmp_isNaN_int x2)) fun x4 => (some ((x3 && (!x4)) || (decide (x1 < x2))))))

set_option maxRecDepth 100000 in
theorem W_cmp_Less_int {V : View} (x1 : Int) (x2 : Int)   {r : Bool} (hF : F_cmp_Less_int x1 x2 = some r) :
    Spec Try.prog 102 [.int .i64 (x1), .int .i64 (x2)] V (fun _ v => v = .bool (r)) := by
  unfold F_cmp_Less_int at hF
  refine Spec.enter (T := tyT) Try.func102 rfl (by kernel_rfl) rfl rfl rfl ?_
  refine Exec.run tyOk 400 rfl ?_
  obtain ⟨x3, hx3, hF⟩ := bnd_some hF
  refine Exec.callS (.bool (x3)) rfl rfl (W_cmp_isNaN_int x1  hx3) ?_
  refine Exec.run tyOk 400 rfl ?_
  obtain ⟨x4, hx4, hF⟩ := bnd_some hF
  refine Exec.callS (.bool (x4)) rfl rfl (fun gg0 => W_cmp_isNaN_int x2  (gcall_some hx4 (gd1_of gg0))) ?_
  refine Exec.run tyOk 400 rfl ?_
  obtain rfl := some_inj hF
  exact Exec.ret tyOk rfl rfl rfl

def F_slices_nextPowerOfTwo (x1 : Int) : Option Int :=
  (bnd (F_math_bits_Len ((IntKind.u64.wrap x1))) fun x2 => (req (0 ≤ x2) (some (shlI .u64 (1 : Int) x2))))

set_option maxRecDepth 100000 in
theorem W_slices_nextPowerOfTwo {V : View} (x1 : Int)   {r : Int} (hF : F_slices_nextPowerOfTwo x1 = some r) :
    Spec Try.prog 108 [.int .i64 (x1)] V (fun _ v => v = .int .u64 (r)) := by
  unfold F_slices_nextPowerOfTwo at hF
  refine Spec.enter (T := tyT) Try.func108 rfl (by kernel_rfl) rfl rfl rfl ?_
  refine Exec.run tyOk 400 rfl ?_
  obtain ⟨x2, hx2, hF⟩ := bnd_some hF
  refine Exec.callS (.int .i64 (x2)) rfl rfl (W_math_bits_Len ((IntKind.u64.wrap x1))  hx2) ?_
  refine Exec.run tyOk 400 rfl ?_
  obtain ⟨q3, hF⟩ := req_some hF
  refine Exec.ari rfl rfl q3 ?_
  refine Exec.run tyOk 400 rfl ?_
  obtain rfl := some_inj hF
  exact Exec.ret tyOk rfl rfl rfl

def F_clockworkref33_Start (x1 : TPlacement) (x3 : Int) (x4 : Int) : Option (TPlacement × Int) :=
  (bnd (F_clockworkref29_Valid x1) fun x5 => (cond (((!x5) || (decide (x4 < (1 : Int)))) || (decide ((16 : Int) < x4))) (some ((⟨0, ([] : List TPart)⟩ : TPlacement), (1 : Int))) (bnd (F_clockworkref29_Find x1 x3) fun x6 => (cond (decide (x6 < (0 : Int))) (some ((⟨0, ([] : List TPart)⟩ : TPlacement), (9 : Int))) (req (0 ≤ x6 ∧ x6 < ((x1.Parts).length : Int)) (cond (((atI x1.Parts x6).Dest != (0 : Int)) || ((atI x1.Parts x6).Node == x4)) (some ((⟨0, ([] : List TPart)⟩ : TPlacement), (19 : Int))) (cond (decide ((1099511627776 : Int) ≤ x1.Version)) (some ((⟨0, ([] : List TPart)⟩ : TPlacement), (2 : Int))) (bnd (F_clockworkref33_with x1 x6 ((⟨(atI x1.Parts x6).Id, (atI x1.Parts x6).From, (atI x1.Parts x6).Node, x4, (atI x1.Parts x6).From⟩ : TPart))) fun x9 => (some (x9, (0 : Int)))))))))))

set_option maxRecDepth 100000 in
theorem W_clockworkref33_Start {V : View} (x1 : TPlacement) (x3 : Int) (x4 : Int) {a2 : Option Addr} {k2 : Nat} (h2 : SlAt cTPart V a2 k2 x1.Parts) {r : TPlacement × Int} (hF : F_clockworkref33_Start x1 x3 x4 = some r) :
    Spec Try.prog 11 [.agg ⟨[.int .i64 (x1.Version), .slice a2 ((x1.Parts).length) (k2)]⟩, .int .i64 (x3), .int .i64 (x4)] V (fun V' v => ∃ (a14 : Option Addr) (k14 : Nat), v = .tuple ⟨[.agg ⟨[.int .i64 (r.1.Version), .slice a14 ((r.1.Parts).length) (k14)]⟩, .int .i64 (r.2)]⟩ ∧ SlAt cTPart V' a14 k14 r.1.Parts) := by
  unfold F_clockworkref33_Start at hF
  refine Spec.enter (T := tyT) Try.func11 rfl (by kernel_rfl) rfl rfl rfl ?_
  refine Exec.run tyOk 400 rfl ?_
  obtain ⟨x5, hx5, hF⟩ := bnd_some hF
  refine Exec.callS (.bool (x5)) rfl rfl (W_clockworkref29_Valid x1 h2 hx5) ?_
  refine Exec.run tyOk 400 rfl ?_
  rcases cond_some hF with ⟨hb, hF⟩ | ⟨hb, hF⟩
  · skip
    refine Exec.ifT rfl hb ?_
    refine Exec.run tyOk 400 rfl ?_
    obtain rfl := some_inj hF
    exact Exec.ret tyOk rfl rfl ⟨_, _, rfl, SlAt.nil⟩
  · skip
    refine Exec.ifF rfl hb ?_
    refine Exec.run tyOk 400 rfl ?_
    obtain ⟨x6, hx6, hF⟩ := bnd_some hF
    refine Exec.callS (.int .i64 (x6)) rfl rfl (W_clockworkref29_Find x1 x3 h2 hx6) ?_
    refine Exec.run tyOk 400 rfl ?_
    rcases cond_some hF with ⟨hb, hF⟩ | ⟨hb, hF⟩
    · skip
      refine Exec.ifT rfl hb ?_
      refine Exec.run tyOk 400 rfl ?_
      obtain rfl := some_inj hF
      exact Exec.ret tyOk rfl rfl ⟨_, _, rfl, SlAt.nil⟩
    · skip
      refine Exec.ifF rfl hb ?_
      refine Exec.run tyOk 400 rfl ?_
      obtain ⟨q7, hF⟩ := req_some hF
      obtain ⟨c8, hr8, hd8⟩ := SlAt.get h2 q7
      obtain rfl := hr8
      refine Exec.ia tyOk rfl rfl ⟨q7.1, q7.2, hd8.some⟩ ?_
      refine Exec.run tyOk 400 rfl ?_
      refine Exec.ld tyOk (x := .agg ⟨[.int .i64 ((atI x1.Parts x6).Id), .string ⟨⟨(atI x1.Parts x6).From⟩⟩, .int .i64 ((atI x1.Parts x6).Node), .int .i64 ((atI x1.Parts x6).Dest), .string ⟨⟨(atI x1.Parts x6).Done⟩⟩]⟩) rfl rfl hd8 rfl rfl ?_
      refine Exec.run tyOk 400 rfl ?_
      rcases cond_some hF with ⟨hb, hF⟩ | ⟨hb, hF⟩
      · skip
        refine Exec.ifT rfl hb ?_
        refine Exec.run tyOk 400 rfl ?_
        obtain rfl := some_inj hF
        exact Exec.ret tyOk rfl rfl ⟨_, _, rfl, SlAt.nil⟩
      · skip
        refine Exec.ifF rfl hb ?_
        refine Exec.run tyOk 400 rfl ?_
        rcases cond_some hF with ⟨hb, hF⟩ | ⟨hb, hF⟩
        · skip
          refine Exec.ifT rfl hb ?_
          refine Exec.run tyOk 400 rfl ?_
          obtain rfl := some_inj hF
          exact Exec.ret tyOk rfl rfl ⟨_, _, rfl, SlAt.nil⟩
        · skip
          refine Exec.ifF rfl hb ?_
          refine Exec.run tyOk 400 rfl ?_
          obtain ⟨x9, hx9, hF⟩ := bnd_some hF
          refine Exec.call rfl rfl (W_clockworkref33_with x1 x6 ((⟨(atI x1.Parts x6).Id, (atI x1.Parts x6).From, (atI x1.Parts x6).Node, x4, (atI x1.Parts x6).From⟩ : TPart)) h2 hx9) ?_
          rintro V11 _ hv11 ⟨a10, k10, rfl, h10⟩
          have h12 := SlAt.mono h2 hv11
          refine Exec.run tyOk 400 rfl ?_
          obtain rfl := some_inj hF
          exact Exec.ret tyOk rfl rfl ⟨_, _, rfl, h10⟩

def F_clockworkref33_Moving_L1 (x1 : TPlacement) (J6 : (List Int) → Option (List Int)) : Nat → (List Int) → Int → Option (List Int)
  | 0, _, _ => none
  | n14 + 1, x12, x13 => (bnd (gcall (((decide (x13 < (((x1.Parts).length : Nat) : Int)))) == true) (F_clockworkref29_Valid x1)) fun x17 => (cond ((decide (x13 < (((x1.Parts).length : Nat) : Int))) && x17) (req (0 ≤ x13 ∧ x13 < ((x1.Parts).length : Int)) (jn (fun (x21 : List Int) => (F_clockworkref33_Moving_L1 x1 J6 n14 x21 ((IntKind.i64.wrap (x13 + (1 : Int)))))) (fun J22 => (cond ((atI x1.Parts x13).Dest != (0 : Int)) (req (0 ≤ x13 ∧ x13 < ((x1.Parts).length : Int)) (req (((x12 ++ [(atI x1.Parts x13).Id])).length * 8 ≤ 140737488355328) (J22 ((x12 ++ [(atI x1.Parts x13).Id]))))) (J22 x12))))) (J6 x12)))

def F_clockworkref33_Moving (x1 : TPlacement) : Option (List Int) :=
  (jn (fun (x5 : List Int) => (some x5)) (fun J6 => (F_clockworkref33_Moving_L1 x1 J6 (1000000 : Nat) (([] : List Int)) ((0 : Int)))))

set_option maxRecDepth 100000 in
theorem W_clockworkref33_Moving {V : View} (x1 : TPlacement) {a2 : Option Addr} {k2 : Nat} (h2 : SlAt cTPart V a2 k2 x1.Parts) {r : List Int} (hF : F_clockworkref33_Moving x1 = some r) :
    Spec Try.prog 15 [.agg ⟨[.int .i64 (x1.Version), .slice a2 ((x1.Parts).length) (k2)]⟩] V (fun V' v => ∃ (a29 : Option Addr) (k29 : Nat), v = .slice a29 ((r).length) (k29) ∧ SlAt (cInt .i64) V' a29 k29 r) := by
  unfold F_clockworkref33_Moving at hF
  refine Spec.enter (T := tyT) Try.func15 rfl (by kernel_rfl) rfl rfl rfl ?_
  refine Exec.run tyOk 14 rfl ?_
  refine Exec.row0 3 1 rfl ?_
  have h3 : RowRep (cInt .i64) V ([] : List Int) [] := RowRep.nil
  obtain ⟨J6, hJ6, hF⟩ := jn_some hF
  refine Exec.seam (fun L' V' M' => ∃ (x5 : List Int) (a4 : Option Addr) (k4 : Nat) (cs4 : List Value), L' = [(3, .v (.slice a4 ((x5).length) (k4)))] ∧ M' = [.blk [.v (.int .i64 (x1.Version)), .v (.slice a2 ((x1.Parts).length) (k2))] 24, .row (.slice a4 ((x5).length) (k4)) cs4 3 1] ∧ RowRep (cInt .i64) V' x5 cs4 ∧ SlAt cTPart V' a2 k2 x1.Parts ∧ J6 x5 = some r) rfl ?_ ?_
  · rintro L' V7 M' ⟨x5, a4, k4, cs4, rfl, rfl, h4, h8, hF⟩
    subst hJ6
    refine Exec.run tyOk 400 rfl ?_
    refine Exec.frz 1 rfl rfl rfl (fun V9 hv9 hd9 hn9 => ?_)
    have hz9 := RowRep.slat h4 hv9 hd9 hn9
    have h10 := SlAt.mono h8 hv9
    obtain rfl := some_inj hF
    exact Exec.ret tyOk rfl rfl ⟨_, _, rfl, hz9⟩
  · skip
    refine Exec.run tyOk 400 rfl ?_
    refine Exec.loop (fun n14 L' V' M' => ∃ (x12 : List Int) (a11 : Option Addr) (k11 : Nat) (cs11 : List Value) (x13 : Int), L' = [(1, .ptr 0 0), (3, .v (.slice a11 ((x12).length) (k11))), (4, .v (.int .i64 (x13)))] ∧ M' = [.blk [.v (.int .i64 (x1.Version)), .v (.slice a2 ((x1.Parts).length) (k2))] 24, .row (.slice a11 ((x12).length) (k11)) cs11 3 1] ∧ RowRep (cInt .i64) V' x12 cs11 ∧ SlAt cTPart V' a2 k2 x1.Parts ∧ F_clockworkref33_Moving_L1 x1 J6 n14 x12 x13 = some r) ⟨(1000000 : Nat), [(1, .ptr 0 0), (3, .v (.slice none ((([] : List Int)).length) (0))), (4, .v (.int .i64 ((0 : Int))))], ⟨rfl, rfl, rfl, trivial⟩, ([] : List Int), none, 0, [], (0 : Int), rfl, rfl, h3, h2, hF⟩ ?_
    rintro n14 L' V15 M' ⟨x12, a11, k11, cs11, x13, rfl, rfl, h11, h16, hF⟩
    rcases n14 with _ | n14
    · exact absurd hF (by simp [F_clockworkref33_Moving_L1])
    rw [F_clockworkref33_Moving_L1] at hF
    refine Exec.run tyOk 400 rfl ?_
    obtain ⟨x17, hx17, hF⟩ := bnd_some hF
    refine Exec.callS (.bool (x17)) rfl rfl (fun gg0 => W_clockworkref29_Valid x1 h16 (gcall_some hx17 (gd1_of gg0))) ?_
    refine Exec.run tyOk 400 rfl ?_
    rcases cond_some hF with ⟨hb, hF⟩ | ⟨hb, hF⟩
    · skip
      refine Exec.ifT rfl hb ?_
      refine Exec.run tyOk 400 rfl ?_
      obtain ⟨q18, hF⟩ := req_some hF
      obtain ⟨c19, hr19, hd19⟩ := SlAt.get h16 q18
      obtain rfl := hr19
      refine Exec.ia tyOk rfl rfl ⟨q18.1, q18.2, hd19.some⟩ ?_
      refine Exec.run tyOk 400 rfl ?_
      refine Exec.ld tyOk (x := .int .i64 ((atI x1.Parts x13).Dest)) rfl rfl (RdAt.part hd19 3 1 rfl) rfl rfl ?_
      refine Exec.run tyOk 400 rfl ?_
      obtain ⟨J22, hJ22, hF⟩ := jn_some hF
      refine Exec.seam (fun L' V' M' => ∃ (x21 : List Int) (a20 : Option Addr) (k20 : Nat) (cs20 : List Value), L' = [(1, .ptr 0 0), (3, .v (.slice a20 ((x21).length) (k20))), (4, .v (.int .i64 (x13)))] ∧ M' = [.blk [.v (.int .i64 (x1.Version)), .v (.slice a2 ((x1.Parts).length) (k2))] 24, .row (.slice a20 ((x21).length) (k20)) cs20 3 1] ∧ RowRep (cInt .i64) V' x21 cs20 ∧ SlAt cTPart V' a2 k2 x1.Parts ∧ J22 x21 = some r) rfl ?_ ?_
      · rintro L' V23 M' ⟨x21, a20, k20, cs20, rfl, rfl, h20, h24, hF⟩
        subst hJ22
        refine Exec.run tyOk 400 rfl ?_
        exact Exec.round [(1, .ptr 0 0), (3, .v (.slice a20 ((x21).length) (k20))), (4, .v (.int .i64 ((IntKind.i64.wrap (x13 + (1 : Int))))))] ⟨rfl, rfl, rfl, trivial⟩ ⟨n14, Nat.lt_succ_self _, x21, a20, k20, cs20, (IntKind.i64.wrap (x13 + (1 : Int))), rfl, rfl, h20, h24, hF⟩
      · skip
        refine Exec.run tyOk 400 rfl ?_
        rcases cond_some hF with ⟨hb, hF⟩ | ⟨hb, hF⟩
        · skip
          refine Exec.ifT rfl hb ?_
          refine Exec.run tyOk 400 rfl ?_
          obtain ⟨q25, hF⟩ := req_some hF
          obtain ⟨c26, hr26, hd26⟩ := SlAt.get h16 q25
          obtain rfl := hr26
          refine Exec.ia tyOk rfl rfl ⟨q25.1, q25.2, hd26.some⟩ ?_
          refine Exec.run tyOk 400 rfl ?_
          refine Exec.ld tyOk (x := .int .i64 ((atI x1.Parts x13).Id)) rfl rfl (RdAt.part hd26 0 1 rfl) rfl rfl ?_
          refine Exec.run tyOk 400 rfl ?_
          refine Exec.bsl tyOk rfl rfl ?_
          refine Exec.run tyOk 400 rfl ?_
          obtain ⟨q28, hF⟩ := req_some hF
          refine Exec.app tyOk 1 2 (nm := ((x12 ++ [(atI x1.Parts x13).Id])).length) rfl rfl rfl rfl rfl rfl rfl rfl rfl (by simp) (fun _ _ => rfl) rfl q28 (fun a27 k27 => ?_)
          have h27 : RowRep (cInt .i64) V15 (x12 ++ [(atI x1.Parts x13).Id]) (cs11 ++ [.int .i64 ((atI x1.Parts x13).Id)]) := RowRep.app h11 ⟨_, _, rfl, rfl, rfl⟩
          refine Exec.run tyOk 400 rfl ?_
          refine Exec.cut 2 [(1, .ptr 0 0), (3, .v (.slice a27 (((x12 ++ [(atI x1.Parts x13).Id])).length) (k27))), (4, .v (.int .i64 (x13)))] (M' := [.blk [.v (.int .i64 (x1.Version)), .v (.slice a2 ((x1.Parts).length) (k2))] 24, .row (.slice a27 (((x12 ++ [(atI x1.Parts x13).Id])).length) (k27)) ((cs11 ++ [.int .i64 ((atI x1.Parts x13).Id)])) 3 1]) rfl ⟨rfl, rfl, rfl, trivial⟩ rfl rfl rfl ?_
          exact Exec.round [(1, .ptr 0 0), (3, .v (.slice a27 (((x12 ++ [(atI x1.Parts x13).Id])).length) (k27))), (4, .v (.int .i64 (x13)))] ⟨rfl, rfl, rfl, trivial⟩ ⟨(x12 ++ [(atI x1.Parts x13).Id]), a27, k27, (cs11 ++ [.int .i64 ((atI x1.Parts x13).Id)]), rfl, rfl, h27, h16, hF⟩
        · skip
          refine Exec.ifF rfl hb ?_
          refine Exec.run tyOk 400 rfl ?_
          exact Exec.round [(1, .ptr 0 0), (3, .v (.slice a11 ((x12).length) (k11))), (4, .v (.int .i64 (x13)))] ⟨rfl, rfl, rfl, trivial⟩ ⟨x12, a11, k11, cs11, rfl, rfl, h11, h16, hF⟩
    · skip
      refine Exec.ifF rfl hb ?_
      refine Exec.run tyOk 400 rfl ?_
      exact Exec.round [(3, .v (.slice a11 ((x12).length) (k11)))] ⟨rfl, trivial⟩ ⟨x12, a11, k11, cs11, rfl, rfl, h11, h16, hF⟩

def F_clockworkref29_Owner (x1 : TPlacement) (x3 : Str) : Option Int :=
  (bnd (F_clockworkref29_Index x1 x3) fun x4 => (cond (decide (x4 < (0 : Int))) (some (0 : Int)) (req (0 ≤ x4 ∧ x4 < ((x1.Parts).length : Int)) (req (((((atI x1.Parts x4).Dest != (0 : Int))) == true) = true → 0 ≤ x4 ∧ x4 < ((x1.Parts).length : Int)) (cond (((atI x1.Parts x4).Dest != (0 : Int)) && (sLt x3 (cond ((((atI x1.Parts x4).Dest != (0 : Int))) == true) (atI x1.Parts x4) default).Done)) (req (0 ≤ x4 ∧ x4 < ((x1.Parts).length : Int)) (some (atI x1.Parts x4).Dest)) (req (0 ≤ x4 ∧ x4 < ((x1.Parts).length : Int)) (some (atI x1.Parts x4).Node)))))))

set_option maxRecDepth 100000 in
theorem W_clockworkref29_Owner {V : View} (x1 : TPlacement) (x3 : Str) {a2 : Option Addr} {k2 : Nat} (h2 : SlAt cTPart V a2 k2 x1.Parts) {r : Int} (hF : F_clockworkref29_Owner x1 x3 = some r) :
    Spec Try.prog 25 [.agg ⟨[.int .i64 (x1.Version), .slice a2 ((x1.Parts).length) (k2)]⟩, .string ⟨⟨x3⟩⟩] V (fun _ v => v = .int .i64 (r)) := by
  unfold F_clockworkref29_Owner at hF
  refine Spec.enter (T := tyT) Try.func25 rfl (by kernel_rfl) rfl rfl rfl ?_
  refine Exec.run tyOk 400 rfl ?_
  obtain ⟨x4, hx4, hF⟩ := bnd_some hF
  refine Exec.callS (.int .i64 (x4)) rfl rfl (W_clockworkref29_Index x1 x3 h2 hx4) ?_
  refine Exec.run tyOk 400 rfl ?_
  rcases cond_some hF with ⟨hb, hF⟩ | ⟨hb, hF⟩
  · skip
    refine Exec.ifT rfl hb ?_
    refine Exec.run tyOk 400 rfl ?_
    obtain rfl := some_inj hF
    exact Exec.ret tyOk rfl rfl rfl
  · skip
    refine Exec.ifF rfl hb ?_
    refine Exec.run tyOk 400 rfl ?_
    obtain ⟨q5, hF⟩ := req_some hF
    obtain ⟨c6, hr6, hd6⟩ := SlAt.get h2 q5
    obtain rfl := hr6
    refine Exec.ia tyOk rfl rfl ⟨q5.1, q5.2, hd6.some⟩ ?_
    refine Exec.run tyOk 400 rfl ?_
    refine Exec.ld tyOk (x := .int .i64 ((atI x1.Parts x4).Dest)) rfl rfl (RdAt.part hd6 3 1 rfl) rfl rfl ?_
    refine Exec.run tyOk 400 rfl ?_
    obtain ⟨q7, hF⟩ := req_some hF
    obtain ⟨c8, hr8, hd8⟩ := SlAt.gget ((((atI x1.Parts x4).Dest != (0 : Int))) == true) h2 q7
    obtain rfl := hr8
    refine Exec.ia tyOk rfl rfl (fun gg0 => ⟨(q7 (gd1_of gg0)).1, (q7 (gd1_of gg0)).2, (hd8 (gd1_of gg0)).some⟩) ?_
    refine Exec.run tyOk 400 rfl ?_
    refine Exec.ld tyOk (x := .string ⟨⟨(cond ((((atI x1.Parts x4).Dest != (0 : Int))) == true) (atI x1.Parts x4) default).Done⟩⟩) rfl rfl (fun gg0 => (RdAt.part (hd8 (gd1_of gg0)) 4 1 rfl)) rfl rfl ?_
    refine Exec.run tyOk 400 rfl ?_
    rcases cond_some hF with ⟨hb, hF⟩ | ⟨hb, hF⟩
    · skip
      refine Exec.ifT rfl hb ?_
      refine Exec.run tyOk 400 rfl ?_
      obtain ⟨q9, hF⟩ := req_some hF
      obtain ⟨c10, hr10, hd10⟩ := SlAt.get h2 q9
      obtain rfl := hr10
      refine Exec.ia tyOk rfl rfl ⟨q9.1, q9.2, hd10.some⟩ ?_
      refine Exec.run tyOk 400 rfl ?_
      refine Exec.ld tyOk (x := .int .i64 ((atI x1.Parts x4).Dest)) rfl rfl (RdAt.part hd10 3 1 rfl) rfl rfl ?_
      refine Exec.run tyOk 400 rfl ?_
      obtain rfl := some_inj hF
      exact Exec.ret tyOk rfl rfl rfl
    · skip
      refine Exec.ifF rfl hb ?_
      refine Exec.run tyOk 400 rfl ?_
      obtain ⟨q11, hF⟩ := req_some hF
      obtain ⟨c12, hr12, hd12⟩ := SlAt.get h2 q11
      obtain rfl := hr12
      refine Exec.ia tyOk rfl rfl ⟨q11.1, q11.2, hd12.some⟩ ?_
      refine Exec.run tyOk 400 rfl ?_
      refine Exec.ld tyOk (x := .int .i64 ((atI x1.Parts x4).Node)) rfl rfl (RdAt.part hd12 2 1 rfl) rfl rfl ?_
      refine Exec.run tyOk 400 rfl ?_
      obtain rfl := some_inj hF
      exact Exec.ret tyOk rfl rfl rfl

def F_placement_Valid_L1 (x1 : TPlacement) (J5 : Option Bool) : Nat → Int → Option Bool
  | 0, _ => none
  | n8 + 1, x7 => (cond (decide (x7 < (((x1.Parts).length : Nat) : Int))) (req (0 ≤ x7 ∧ x7 < ((x1.Parts).length : Int)) (bnd (gcall (((decide ((0 : Int) < x7))) == true) (F_placement_bound ((atI x1.Parts x7).From))) fun x13 => (req (((((!x13)) == false) && (((decide ((0 : Int) < x7))) == true)) = true → 0 ≤ (IntKind.i64.wrap (x7 - (1 : Int))) ∧ (IntKind.i64.wrap (x7 - (1 : Int))) < ((x1.Parts).length : Int)) (cond ((decide ((0 : Int) < x7)) && ((!x13) || (!sLt (cond ((((!x13)) == false) && (((decide ((0 : Int) < x7))) == true)) (atI x1.Parts ((IntKind.i64.wrap (x7 - (1 : Int))))) default).From (atI x1.Parts x7).From))) (some false) (bnd (F_placement_number ((atI x1.Parts x7).Id)) fun x16 => (bnd (gcall (((!x16)) == false) (F_placement_node ((atI x1.Parts x7).Node))) fun x17 => (bnd (gcall ((((!x16) || (!x17))) == false) (F_placement_validMove x1.Parts x7)) fun x18 => (req ((((((!x16) || (!x17)) || (!x18))) == false) = true → 0 ≤ (0 : Int) ∧ (0 : Int) ≤ x7 ∧ x7 ≤ ((x1.Parts).length : Int)) (bnd (gcall (((((!x16) || (!x17)) || (!x18))) == false) (F_placement_find ((cond ((((((!x16) || (!x17)) || (!x18))) == false)) ((x1.Parts.take (x7).toNat).drop ((0 : Int)).toNat) ([] : List TPart))) ((atI x1.Parts x7).Id))) fun x21 => (cond ((((!x16) || (!x17)) || (!x18)) || (decide ((0 : Int) ≤ x21))) (some false) (F_placement_Valid_L1 x1 J5 n8 ((IntKind.i64.wrap (x7 + (1 : Int))))))))))))))) J5)

def F_placement_Valid (x1 : TPlacement) : Option Bool :=
  (req (((((((decide (x1.Version < (0 : Int))) || (decide ((1099511627776 : Int) < x1.Version))) || (decide ((((x1.Parts).length : Nat) : Int) < (1 : Int)))) || (decide ((16 : Int) < (((x1.Parts).length : Nat) : Int))))) == false) = true → 0 ≤ (0 : Int) ∧ (0 : Int) < ((x1.Parts).length : Int)) (cond (((((decide (x1.Version < (0 : Int))) || (decide ((1099511627776 : Int) < x1.Version))) || (decide ((((x1.Parts).length : Nat) : Int) < (1 : Int)))) || (decide ((16 : Int) < (((x1.Parts).length : Nat) : Int)))) || ((cond ((((((decide (x1.Version < (0 : Int))) || (decide ((1099511627776 : Int) < x1.Version))) || (decide ((((x1.Parts).length : Nat) : Int) < (1 : Int)))) || (decide ((16 : Int) < (((x1.Parts).length : Nat) : Int))))) == false) (atI x1.Parts ((0 : Int))) default).From != ([] : Str))) (some false) (jn ((some true)) (fun J5 => (F_placement_Valid_L1 x1 J5 (((((x1.Parts).length : Nat) : Int)).toNat + 1) ((0 : Int)))))))

set_option maxRecDepth 100000 in
theorem W_placement_Valid {V : View} (x1 : TPlacement) {a2 : Option Addr} {k2 : Nat} (h2 : SlAt cTPart V a2 k2 x1.Parts) {r : Bool} (hF : F_placement_Valid x1 = some r) :
    Spec Try.prog 28 [.agg ⟨[.int .i64 (x1.Version), .slice a2 ((x1.Parts).length) (k2)]⟩] V (fun _ v => v = .bool (r)) := by
  unfold F_placement_Valid at hF
  refine Spec.enter (T := tyT) Try.func28 rfl (by kernel_rfl) rfl rfl rfl ?_
  refine Exec.run tyOk 400 rfl ?_
  obtain ⟨q3, hF⟩ := req_some hF
  obtain ⟨c4, hr4, hd4⟩ := SlAt.gget ((((((decide (x1.Version < (0 : Int))) || (decide ((1099511627776 : Int) < x1.Version))) || (decide ((((x1.Parts).length : Nat) : Int) < (1 : Int)))) || (decide ((16 : Int) < (((x1.Parts).length : Nat) : Int))))) == false) h2 q3
  obtain rfl := hr4
  refine Exec.ia tyOk rfl rfl (fun gg0 => ⟨(q3 (gd1_of gg0)).1, (q3 (gd1_of gg0)).2, (hd4 (gd1_of gg0)).some⟩) ?_
  refine Exec.run tyOk 400 rfl ?_
  refine Exec.ld tyOk (x := .string ⟨⟨(cond ((((((decide (x1.Version < (0 : Int))) || (decide ((1099511627776 : Int) < x1.Version))) || (decide ((((x1.Parts).length : Nat) : Int) < (1 : Int)))) || (decide ((16 : Int) < (((x1.Parts).length : Nat) : Int))))) == false) (atI x1.Parts ((0 : Int))) default).From⟩⟩) rfl rfl (fun gg0 => (RdAt.part (hd4 (gd1_of gg0)) 1 1 rfl)) rfl rfl ?_
  refine Exec.run tyOk 400 rfl ?_
  rcases cond_some hF with ⟨hb, hF⟩ | ⟨hb, hF⟩
  · skip
    refine Exec.ifT rfl hb ?_
    refine Exec.run tyOk 400 rfl ?_
    obtain rfl := some_inj hF
    exact Exec.ret tyOk rfl rfl rfl
  · skip
    refine Exec.ifF rfl hb ?_
    refine Exec.run tyOk 9 rfl ?_
    obtain ⟨J5, hJ5, hF⟩ := jn_some hF
    refine Exec.seam (fun L' V' M' => L' = [] ∧ M' = [] ∧ J5 = some r) rfl ?_ ?_
    · rintro L' V6 M' ⟨rfl, rfl, hF⟩
      subst hJ5
      refine Exec.run tyOk 400 rfl ?_
      obtain rfl := some_inj hF
      exact Exec.ret tyOk rfl rfl rfl
    · skip
      refine Exec.run tyOk 400 rfl ?_
      refine Exec.loop (fun n8 L' V' M' => ∃ (x7 : Int), L' = [(1, .ptr 0 0), (34, .v (.slice a2 ((x1.Parts).length) (k2))), (35, .v (.int .i64 ((((x1.Parts).length : Nat) : Int)))), (36, .v (.int .i64 (x7)))] ∧ M' = [.blk [.v (.int .i64 (x1.Version)), .v (.slice a2 ((x1.Parts).length) (k2))] 24] ∧ SlAt cTPart V' a2 k2 x1.Parts ∧ F_placement_Valid_L1 x1 J5 n8 x7 = some r) ⟨(((((x1.Parts).length : Nat) : Int)).toNat + 1), [(1, .ptr 0 0), (34, .v (.slice a2 ((x1.Parts).length) (k2))), (35, .v (.int .i64 ((((x1.Parts).length : Nat) : Int)))), (36, .v (.int .i64 ((0 : Int))))], ⟨rfl, rfl, rfl, rfl, trivial⟩, (0 : Int), rfl, rfl, h2, hF⟩ ?_
      rintro n8 L' V9 M' ⟨x7, rfl, rfl, h10, hF⟩
      rcases n8 with _ | n8
      · exact absurd hF (by simp [F_placement_Valid_L1])
      rw [F_placement_Valid_L1] at hF
      refine Exec.run tyOk 400 rfl ?_
      rcases cond_some hF with ⟨hb, hF⟩ | ⟨hb, hF⟩
      · skip
        refine Exec.ifT rfl hb ?_
        refine Exec.run tyOk 400 rfl ?_
        obtain ⟨q11, hF⟩ := req_some hF
        obtain ⟨c12, hr12, hd12⟩ := SlAt.get h10 q11
        obtain rfl := hr12
        refine Exec.ia tyOk rfl rfl ⟨q11.1, q11.2, hd12.some⟩ ?_
        refine Exec.run tyOk 400 rfl ?_
        refine Exec.ld tyOk (x := .agg ⟨[.int .i64 ((atI x1.Parts x7).Id), .string ⟨⟨(atI x1.Parts x7).From⟩⟩, .int .i64 ((atI x1.Parts x7).Node), .int .i64 ((atI x1.Parts x7).Dest), .string ⟨⟨(atI x1.Parts x7).Done⟩⟩]⟩) rfl rfl hd12 rfl rfl ?_
        refine Exec.run tyOk 400 rfl ?_
        refine Exec.draws tyOk [(0, true), (1, true), (2, true), (3, true), (4, true), (5, false), (6, false), (7, false), (8, true), (9, true), (10, true), (11, true), (12, false), (13, false), (14, false), (15, false), (16, false), (17, false), (18, false), (19, false)] rfl (by kernel_rfl) ?_
        refine Exec.run tyOk 400 rfl ?_
        obtain ⟨x13, hx13, hF⟩ := bnd_some hF
        refine Exec.callS (.bool (x13)) rfl rfl (fun gg0 => W_placement_bound ((atI x1.Parts x7).From)  (gcall_some hx13 (gd1_of gg0))) ?_
        refine Exec.run tyOk 400 rfl ?_
        obtain ⟨q14, hF⟩ := req_some hF
        obtain ⟨c15, hr15, hd15⟩ := SlAt.gget ((((!x13)) == false) && (((decide ((0 : Int) < x7))) == true)) h10 q14
        obtain rfl := hr15
        refine Exec.ia tyOk rfl rfl (fun gg0 gg1 => ⟨(q14 (gd2_of gg0 gg1)).1, (q14 (gd2_of gg0 gg1)).2, (hd15 (gd2_of gg0 gg1)).some⟩) ?_
        refine Exec.run tyOk 400 rfl ?_
        refine Exec.ld tyOk (x := .string ⟨⟨(cond ((((!x13)) == false) && (((decide ((0 : Int) < x7))) == true)) (atI x1.Parts ((IntKind.i64.wrap (x7 - (1 : Int))))) default).From⟩⟩) rfl rfl (fun gg0 gg1 => (RdAt.part (hd15 (gd2_of gg0 gg1)) 1 1 rfl)) rfl rfl ?_
        refine Exec.run tyOk 400 rfl ?_
        rcases cond_some hF with ⟨hb, hF⟩ | ⟨hb, hF⟩
        · skip
          refine Exec.ifT rfl hb ?_
          refine Exec.run tyOk 400 rfl ?_
          obtain rfl := some_inj hF
          exact Exec.ret tyOk rfl rfl rfl
        · skip
          refine Exec.ifF rfl hb ?_
          refine Exec.run tyOk 400 rfl ?_
          refine Exec.draws tyOk [(0, true), (1, true), (2, false), (3, false), (4, false), (5, false), (6, false), (7, false), (8, false), (9, false), (10, false), (11, true), (12, true), (13, false), (14, false), (15, false), (16, false), (17, false), (18, true), (19, true), (20, true), (21, true), (22, false), (23, false), (24, false), (25, false), (26, false)] rfl (by kernel_rfl) ?_
          refine Exec.run tyOk 400 rfl ?_
          obtain ⟨x16, hx16, hF⟩ := bnd_some hF
          refine Exec.callS (.bool (x16)) rfl rfl (W_placement_number ((atI x1.Parts x7).Id)  hx16) ?_
          refine Exec.run tyOk 400 rfl ?_
          obtain ⟨x17, hx17, hF⟩ := bnd_some hF
          refine Exec.callS (.bool (x17)) rfl rfl (fun gg0 => W_placement_node ((atI x1.Parts x7).Node)  (gcall_some hx17 (gd1_of gg0))) ?_
          refine Exec.run tyOk 400 rfl ?_
          obtain ⟨x18, hx18, hF⟩ := bnd_some hF
          refine Exec.callS (.bool (x18)) rfl rfl (fun gg0 => W_placement_validMove x1.Parts x7 h10 (gcall_some hx18 (gd1_of gg0))) ?_
          refine Exec.run tyOk 400 rfl ?_
          obtain ⟨q19, hF⟩ := req_some hF
          refine Exec.fgslv tyOk (c := cTPart) (g := (((((!x16) || (!x17)) || (!x18))) == false)) rfl rfl rfl (lo := (0 : Int)) (hi := x7) rfl rfl h10 (by simp) rfl (fun gg0 => gd1_of gg0) q19 (fun a20 k20 h20 => ?_)
          refine Exec.run tyOk 400 rfl ?_
          obtain ⟨x21, hx21, hF⟩ := bnd_some hF
          refine Exec.callS (.int .i64 (x21)) rfl rfl (fun gg0 => W_placement_find ((cond ((((((!x16) || (!x17)) || (!x18))) == false)) ((x1.Parts.take (x7).toNat).drop ((0 : Int)).toNat) ([] : List TPart))) ((atI x1.Parts x7).Id) h20 (gcall_some hx21 (gd1_of gg0))) ?_
          refine Exec.run tyOk 400 rfl ?_
          rcases cond_some hF with ⟨hb, hF⟩ | ⟨hb, hF⟩
          · skip
            refine Exec.ifT rfl hb ?_
            refine Exec.run tyOk 400 rfl ?_
            obtain rfl := some_inj hF
            exact Exec.ret tyOk rfl rfl rfl
          · skip
            refine Exec.ifF rfl hb ?_
            refine Exec.run tyOk 400 rfl ?_
            refine Exec.cut 1 [(1, .ptr 0 0), (34, .v (.slice a2 ((x1.Parts).length) (k2))), (35, .v (.int .i64 ((((x1.Parts).length : Nat) : Int)))), (36, .v (.int .i64 ((IntKind.i64.wrap (x7 + (1 : Int))))))] (M' := [.blk [.v (.int .i64 (x1.Version)), .v (.slice a2 ((x1.Parts).length) (k2))] 24]) rfl ⟨rfl, rfl, rfl, rfl, trivial⟩ rfl rfl rfl ?_
            exact Exec.round [(1, .ptr 0 0), (34, .v (.slice a2 ((x1.Parts).length) (k2))), (35, .v (.int .i64 ((((x1.Parts).length : Nat) : Int)))), (36, .v (.int .i64 ((IntKind.i64.wrap (x7 + (1 : Int))))))] ⟨rfl, rfl, rfl, rfl, trivial⟩ ⟨n8, Nat.lt_succ_self _, (IntKind.i64.wrap (x7 + (1 : Int))), rfl, rfl, h10, hF⟩
      · skip
        refine Exec.ifF rfl hb ?_
        refine Exec.run tyOk 400 rfl ?_
        refine Exec.cut 0 [] (M' := []) rfl trivial rfl rfl rfl ?_
        exact Exec.round [] trivial ⟨rfl, rfl, hF⟩

def F_keys_ValidRange (x1 : TRange) : Option Bool :=
  (bnd (F_keys_isBound x1.From) fun x2 => (bnd (gcall ((x2) == true) (F_keys_isBound x1.To)) fun x3 => (some ((x2 && x3) && ((x1.To == ([] : Str)) || (sLt x1.From x1.To))))))

set_option maxRecDepth 100000 in
theorem W_keys_ValidRange {V : View} (x1 : TRange)   {r : Bool} (hF : F_keys_ValidRange x1 = some r) :
    Spec Try.prog 35 [.agg ⟨[.string ⟨⟨x1.From⟩⟩, .string ⟨⟨x1.To⟩⟩]⟩] V (fun _ v => v = .bool (r)) := by
  unfold F_keys_ValidRange at hF
  refine Spec.enter (T := tyT) Try.func35 rfl (by kernel_rfl) rfl rfl rfl ?_
  refine Exec.run tyOk 400 rfl ?_
  obtain ⟨x2, hx2, hF⟩ := bnd_some hF
  refine Exec.callS (.bool (x2)) rfl rfl (W_keys_isBound x1.From  hx2) ?_
  refine Exec.run tyOk 400 rfl ?_
  obtain ⟨x3, hx3, hF⟩ := bnd_some hF
  refine Exec.callS (.bool (x3)) rfl rfl (fun gg0 => W_keys_isBound x1.To  (gcall_some hx3 (gd1_of gg0))) ?_
  refine Exec.run tyOk 400 rfl ?_
  obtain rfl := some_inj hF
  exact Exec.ret tyOk rfl rfl rfl

def F_keys_Contains (x1 : TRange) (x2 : Str) : Option Bool :=
  (bnd (F_keys_ValidRange x1) fun x3 => (some ((x3 && (!sLt x2 x1.From)) && ((x1.To == ([] : Str)) || (sLt x2 x1.To)))))

set_option maxRecDepth 100000 in
theorem W_keys_Contains {V : View} (x1 : TRange) (x2 : Str)   {r : Bool} (hF : F_keys_Contains x1 x2 = some r) :
    Spec Try.prog 37 [.agg ⟨[.string ⟨⟨x1.From⟩⟩, .string ⟨⟨x1.To⟩⟩]⟩, .string ⟨⟨x2⟩⟩] V (fun _ v => v = .bool (r)) := by
  unfold F_keys_Contains at hF
  refine Spec.enter (T := tyT) Try.func37 rfl (by kernel_rfl) rfl rfl rfl ?_
  refine Exec.run tyOk 400 rfl ?_
  obtain ⟨x3, hx3, hF⟩ := bnd_some hF
  refine Exec.callS (.bool (x3)) rfl rfl (W_keys_ValidRange x1  hx3) ?_
  refine Exec.run tyOk 400 rfl ?_
  obtain rfl := some_inj hF
  exact Exec.ret tyOk rfl rfl rfl

def F_placement_Range (x1 : TPlacement) (x3 : Int) : Option (TRange × Int) :=
  (bnd (F_placement_Valid x1) fun x4 => (cond (!x4) (some ((⟨[], []⟩ : TRange), (1 : Int))) (bnd (F_placement_find x1.Parts x3) fun x5 => (cond (decide (x5 < (0 : Int))) (some ((⟨[], []⟩ : TRange), (9 : Int))) (req (0 ≤ x5 ∧ x5 < ((x1.Parts).length : Int)) (jn (fun (x8 : TRange) => (some (x8, (0 : Int)))) (fun J9 => (cond (decide ((IntKind.i64.wrap (x5 + (1 : Int))) < (((x1.Parts).length : Nat) : Int))) (req (0 ≤ (IntKind.i64.wrap (x5 + (1 : Int))) ∧ (IntKind.i64.wrap (x5 + (1 : Int))) < ((x1.Parts).length : Int)) (J9 ((⟨(atI x1.Parts x5).From, (atI x1.Parts ((IntKind.i64.wrap (x5 + (1 : Int))))).From⟩ : TRange)))) (J9 ((⟨(atI x1.Parts x5).From, []⟩ : TRange)))))))))))

set_option maxRecDepth 100000 in
theorem W_placement_Range {V : View} (x1 : TPlacement) (x3 : Int) {a2 : Option Addr} {k2 : Nat} (h2 : SlAt cTPart V a2 k2 x1.Parts) {r : TRange × Int} (hF : F_placement_Range x1 x3 = some r) :
    Spec Try.prog 44 [.agg ⟨[.int .i64 (x1.Version), .slice a2 ((x1.Parts).length) (k2)]⟩, .int .i64 (x3)] V (fun _ v => v = .tuple ⟨[.agg ⟨[.string ⟨⟨r.1.From⟩⟩, .string ⟨⟨r.1.To⟩⟩]⟩, .int .i64 (r.2)]⟩) := by
  unfold F_placement_Range at hF
  refine Spec.enter (T := tyT) Try.func44 rfl (by kernel_rfl) rfl rfl rfl ?_
  refine Exec.run tyOk 400 rfl ?_
  obtain ⟨x4, hx4, hF⟩ := bnd_some hF
  refine Exec.callS (.bool (x4)) rfl rfl (W_placement_Valid x1 h2 hx4) ?_
  refine Exec.run tyOk 400 rfl ?_
  rcases cond_some hF with ⟨hb, hF⟩ | ⟨hb, hF⟩
  · skip
    refine Exec.ifT rfl hb ?_
    refine Exec.run tyOk 400 rfl ?_
    obtain rfl := some_inj hF
    exact Exec.ret tyOk rfl rfl rfl
  · skip
    refine Exec.ifF rfl hb ?_
    refine Exec.run tyOk 400 rfl ?_
    obtain ⟨x5, hx5, hF⟩ := bnd_some hF
    refine Exec.callS (.int .i64 (x5)) rfl rfl (W_placement_find x1.Parts x3 h2 hx5) ?_
    refine Exec.run tyOk 400 rfl ?_
    rcases cond_some hF with ⟨hb, hF⟩ | ⟨hb, hF⟩
    · skip
      refine Exec.ifT rfl hb ?_
      refine Exec.run tyOk 400 rfl ?_
      obtain rfl := some_inj hF
      exact Exec.ret tyOk rfl rfl rfl
    · skip
      refine Exec.ifF rfl hb ?_
      refine Exec.run tyOk 400 rfl ?_
      obtain ⟨q6, hF⟩ := req_some hF
      obtain ⟨c7, hr7, hd7⟩ := SlAt.get h2 q6
      obtain rfl := hr7
      refine Exec.ia tyOk rfl rfl ⟨q6.1, q6.2, hd7.some⟩ ?_
      refine Exec.run tyOk 400 rfl ?_
      refine Exec.ld tyOk (x := .string ⟨⟨(atI x1.Parts x5).From⟩⟩) rfl rfl (RdAt.part hd7 1 1 rfl) rfl rfl ?_
      refine Exec.run tyOk 400 rfl ?_
      obtain ⟨J9, hJ9, hF⟩ := jn_some hF
      refine Exec.seam (fun L' V' M' => ∃ (x8 : TRange), L' = [(4, .ptr 1 0), (7, .ptr 2 0)] ∧ M' = [.blk [.v (.int .i64 (x1.Version)), .v (.slice a2 ((x1.Parts).length) (k2))] 24, .blk [.v (.string ⟨⟨[]⟩⟩), .v (.string ⟨⟨[]⟩⟩)] 39, .blk [.v (.string ⟨⟨x8.From⟩⟩), .v (.string ⟨⟨x8.To⟩⟩)] 39] ∧ SlAt cTPart V' a2 k2 x1.Parts ∧ J9 x8 = some r) rfl ?_ ?_
      · rintro L' V10 M' ⟨x8, rfl, rfl, h11, hF⟩
        subst hJ9
        refine Exec.run tyOk 400 rfl ?_
        obtain rfl := some_inj hF
        exact Exec.ret tyOk rfl rfl rfl
      · skip
        refine Exec.run tyOk 400 rfl ?_
        rcases cond_some hF with ⟨hb, hF⟩ | ⟨hb, hF⟩
        · skip
          refine Exec.ifT rfl hb ?_
          refine Exec.run tyOk 400 rfl ?_
          obtain ⟨q12, hF⟩ := req_some hF
          obtain ⟨c13, hr13, hd13⟩ := SlAt.get h2 q12
          obtain rfl := hr13
          refine Exec.ia tyOk rfl rfl ⟨q12.1, q12.2, hd13.some⟩ ?_
          refine Exec.run tyOk 400 rfl ?_
          refine Exec.ld tyOk (x := .string ⟨⟨(atI x1.Parts ((IntKind.i64.wrap (x5 + (1 : Int))))).From⟩⟩) rfl rfl (RdAt.part hd13 1 1 rfl) rfl rfl ?_
          refine Exec.run tyOk 400 rfl ?_
          exact Exec.round [(4, .ptr 1 0), (7, .ptr 2 0)] ⟨rfl, rfl, trivial⟩ ⟨(⟨(atI x1.Parts x5).From, (atI x1.Parts ((IntKind.i64.wrap (x5 + (1 : Int))))).From⟩ : TRange), rfl, rfl, h2, hF⟩
        · skip
          refine Exec.ifF rfl hb ?_
          refine Exec.run tyOk 400 rfl ?_
          exact Exec.round [(4, .ptr 1 0), (7, .ptr 2 0)] ⟨rfl, rfl, trivial⟩ ⟨(⟨(atI x1.Parts x5).From, []⟩ : TRange), rfl, rfl, h2, hF⟩

end Go.Proofs.Ytedbagekceppiaa
