/-
  Functions of the program as their counterparts say them (printed by a program).
  Conditions: none.
-/
import Derived.Test.YtdkakeiccefbgaaHa
set_option linter.all false
namespace Go.Proofs.Ytdkakeiccefbgaa

def F_clockworkref02_Fold (x1 : Int) : Option Int :=
  (cond (decide (x1 < (0 : Int))) (some (IntKind.u64.wrap ((IntKind.u64.wrap ((2 : Int) * (IntKind.u64.wrap (IntKind.i64.wrap ((0 : Int) - (IntKind.i64.wrap (x1 + (1 : Int)))))))) + (1 : Int)))) (some (IntKind.u64.wrap ((2 : Int) * (IntKind.u64.wrap x1)))))

set_option maxRecDepth 100000 in
theorem W_clockworkref02_Fold {V : View} (x1 : Int)   {r : Int} (hF : F_clockworkref02_Fold x1 = some r) :
    Spec Try.prog 74 [.int .i64 (x1)] V (fun _ v => v = .int .u64 (r)) := by
  unfold F_clockworkref02_Fold at hF
  refine Spec.enter (T := tyT) Try.func74 rfl (by kernel_rfl) rfl rfl rfl ?_
  refine Exec.run tyOk 400 rfl ?_
  rcases cond_some hF with ⟨hb, hF⟩ | ⟨hb, hF⟩
  · skip
    refine Exec.ifT rfl hb ?_
    refine Exec.run tyOk 400 rfl ?_
    obtain rfl := some_inj hF
    exact Exec.ret tyOk rfl rfl rfl
  · skip
    refine Exec.ifF rfl hb ?_
    refine Exec.run tyOk 400 rfl ?_
    obtain rfl := some_inj hF
    exact Exec.ret tyOk rfl rfl rfl

def F_wire_outside (x1 : Str) (x2 : Int) : Option Bool :=
  (some ((decide (x2 < (0 : Int))) || (decide (((x1).length : Int) < x2))))

set_option maxRecDepth 100000 in
theorem W_wire_outside {V : View} (x1 : Str) (x2 : Int)   {r : Bool} (hF : F_wire_outside x1 x2 = some r) :
    Spec Try.prog 87 [.string ⟨⟨x1⟩⟩, .int .i64 (x2)] V (fun _ v => v = .bool (r)) := by
  unfold F_wire_outside at hF
  refine Spec.enter (T := tyT) Try.func87 rfl (by kernel_rfl) rfl rfl rfl ?_
  refine Exec.run tyOk 400 rfl ?_
  obtain rfl := some_inj hF
  exact Exec.ret tyOk rfl rfl rfl

def F_placement_New (x1 : Int) : Option (TPlacement × Int) :=
  (bnd (F_placement_node x1) fun x2 => (cond (!x2) (some ((⟨0, ([] : List TPart)⟩ : TPlacement), (1 : Int))) (some ((⟨0, ([(⟨(1 : Int), [], x1, 0, []⟩ : TPart)] : List TPart)⟩ : TPlacement), (0 : Int)))))

set_option maxRecDepth 100000 in
theorem W_placement_New {V : View} (x1 : Int)   {r : TPlacement × Int} (hF : F_placement_New x1 = some r) :
    Spec Try.prog 13 [.int .i64 (x1)] V (fun V' v => ∃ (a4 : Option Addr) (k4 : Nat), v = .tuple ⟨[.agg ⟨[.int .i64 (r.1.Version), .slice a4 ((r.1.Parts).length) (k4)]⟩, .int .i64 (r.2)]⟩ ∧ SlAt cTPart V' a4 k4 r.1.Parts) := by
  unfold F_placement_New at hF
  refine Spec.enter (T := tyT) Try.func13 rfl (by kernel_rfl) rfl rfl rfl ?_
  refine Exec.run tyOk 400 rfl ?_
  obtain ⟨x2, hx2, hF⟩ := bnd_some hF
  refine Exec.callS (.bool (x2)) rfl rfl (W_placement_node x1  hx2) ?_
  refine Exec.run tyOk 400 rfl ?_
  rcases cond_some hF with ⟨hb, hF⟩ | ⟨hb, hF⟩
  · skip
    refine Exec.ifT rfl hb ?_
    refine Exec.run tyOk 400 rfl ?_
    obtain rfl := some_inj hF
    exact Exec.ret tyOk rfl rfl ⟨_, _, rfl, SlAt.nil⟩
  · skip
    refine Exec.ifF rfl hb ?_
    refine Exec.run tyOk 400 rfl ?_
    refine Exec.bsV tyOk rfl rfl rfl rfl rfl (fun V3 a3 hv3 hd3 => ?_)
    have h3 : SlAt cTPart V3 (some a3) 1 ([(⟨(1 : Int), [], x1, 0, []⟩ : TPart)] : List TPart) := RowRep.slat (c := cTPart) (V := V3) (cs := [.int .i64 ((1 : Int)), .string ⟨⟨[]⟩⟩, .int .i64 (x1), .int .i64 (0), .string ⟨⟨[]⟩⟩]) ⟨_, _, rfl, rfl, rfl⟩ (VLe.refl _) (fun _ => hd3) (by simp)
    refine Exec.run tyOk 400 rfl ?_
    obtain rfl := some_inj hF
    exact Exec.ret tyOk rfl rfl ⟨_, _, rfl, h3⟩

def F_clockworkref29_Valid_L2 (x7 : Int) (x1 : TPlacement) (J21 : Option Bool) : Nat → Int → Option Bool
  | 0, _ => none
  | n25 + 1, x24 => (cond (decide (x24 < x7)) (req (0 ≤ x24 ∧ x24 < ((x1.Parts).length : Int)) (cond ((atI x1.Parts x24).Id == (atI x1.Parts x7).Id) (some false) (F_clockworkref29_Valid_L2 x7 x1 J21 n25 ((IntKind.i64.wrap (x24 + (1 : Int))))))) J21)

def F_clockworkref29_Valid_L1 (x1 : TPlacement) (J5 : Option Bool) : Nat → Int → Option Bool
  | 0, _ => none
  | n8 + 1, x7 => (cond (decide (x7 < (((x1.Parts).length : Nat) : Int))) (req (0 ≤ x7 ∧ x7 < ((x1.Parts).length : Int)) (jn (fun (x13 : Str) => (bnd (F_clockworkref29_Bound ((atI x1.Parts x7).From)) fun x17 => (req (((((decide ((0 : Int) < x7))) == true) && (((!x17)) == false)) = true → 0 ≤ (IntKind.i64.wrap (x7 - (1 : Int))) ∧ (IntKind.i64.wrap (x7 - (1 : Int))) < ((x1.Parts).length : Int)) (bnd (gcall ((((((((!x17) || ((decide ((0 : Int) < x7)) && (!sLt (cond ((((decide ((0 : Int) < x7))) == true) && (((!x17)) == false)) (atI x1.Parts ((IntKind.i64.wrap (x7 - (1 : Int))))) default).From (atI x1.Parts x7).From))) || (decide ((atI x1.Parts x7).Id < (1 : Int)))) || (decide ((1099511627776 : Int) < (atI x1.Parts x7).Id))) || (decide ((atI x1.Parts x7).Node < (1 : Int)))) || (decide ((16 : Int) < (atI x1.Parts x7).Node)))) == false) (F_clockworkref29_moves ((atI x1.Parts x7)) x13 (((IntKind.i64.wrap (x7 + (1 : Int))) == (((x1.Parts).length : Nat) : Int))))) fun x20 => (cond (((((((!x17) || ((decide ((0 : Int) < x7)) && (!sLt (cond ((((decide ((0 : Int) < x7))) == true) && (((!x17)) == false)) (atI x1.Parts ((IntKind.i64.wrap (x7 - (1 : Int))))) default).From (atI x1.Parts x7).From))) || (decide ((atI x1.Parts x7).Id < (1 : Int)))) || (decide ((1099511627776 : Int) < (atI x1.Parts x7).Id))) || (decide ((atI x1.Parts x7).Node < (1 : Int)))) || (decide ((16 : Int) < (atI x1.Parts x7).Node))) || (!x20)) (some false) (jn ((F_clockworkref29_Valid_L1 x1 J5 n8 ((IntKind.i64.wrap (x7 + (1 : Int)))))) (fun J21 => (F_clockworkref29_Valid_L2 x7 x1 J21 ((x7).toNat + 1) ((0 : Int)))))))))) (fun J14 => (cond (decide ((IntKind.i64.wrap (x7 + (1 : Int))) < (((x1.Parts).length : Nat) : Int))) (req (0 ≤ (IntKind.i64.wrap (x7 + (1 : Int))) ∧ (IntKind.i64.wrap (x7 + (1 : Int))) < ((x1.Parts).length : Int)) (J14 ((atI x1.Parts ((IntKind.i64.wrap (x7 + (1 : Int))))).From))) (J14 (([] : Str))))))) J5)

def F_clockworkref29_Valid (x1 : TPlacement) : Option Bool :=
  (req (((((((decide (x1.Version < (0 : Int))) || (decide ((1099511627776 : Int) < x1.Version))) || (decide ((((x1.Parts).length : Nat) : Int) < (1 : Int)))) || (decide ((16 : Int) < (((x1.Parts).length : Nat) : Int))))) == false) = true → 0 ≤ (0 : Int) ∧ (0 : Int) < ((x1.Parts).length : Int)) (cond (((((decide (x1.Version < (0 : Int))) || (decide ((1099511627776 : Int) < x1.Version))) || (decide ((((x1.Parts).length : Nat) : Int) < (1 : Int)))) || (decide ((16 : Int) < (((x1.Parts).length : Nat) : Int)))) || ((cond ((((((decide (x1.Version < (0 : Int))) || (decide ((1099511627776 : Int) < x1.Version))) || (decide ((((x1.Parts).length : Nat) : Int) < (1 : Int)))) || (decide ((16 : Int) < (((x1.Parts).length : Nat) : Int))))) == false) (atI x1.Parts ((0 : Int))) default).From != ([] : Str))) (some false) (jn ((some true)) (fun J5 => (F_clockworkref29_Valid_L1 x1 J5 (((((x1.Parts).length : Nat) : Int)).toNat + 1) ((0 : Int)))))))

set_option maxRecDepth 100000 in
theorem W_clockworkref29_Valid {V : View} (x1 : TPlacement) {a2 : Option Addr} {k2 : Nat} (h2 : SlAt cTPart V a2 k2 x1.Parts) {r : Bool} (hF : F_clockworkref29_Valid x1 = some r) :
    Spec Try.prog 16 [.agg ⟨[.int .i64 (x1.Version), .slice a2 ((x1.Parts).length) (k2)]⟩] V (fun _ v => v = .bool (r)) := by
  unfold F_clockworkref29_Valid at hF
  refine Spec.enter (T := tyT) Try.func16 rfl (by kernel_rfl) rfl rfl rfl ?_
  refine Exec.run tyOk 400 rfl ?_
  obtain ⟨q3, hF⟩ := req_some hF
  obtain ⟨c4, hr4, hd4⟩ := SlAt.gget ((((((decide (x1.Version < (0 : Int))) || (decide ((1099511627776 : Int) < x1.Version))) || (decide ((((x1.Parts).length : Nat) : Int) < (1 : Int)))) || (decide ((16 : Int) < (((x1.Parts).length : Nat) : Int))))) == false) h2 q3
  obtain rfl := hr4
  refine Exec.ia tyOk rfl rfl (fun gg0 => ⟨(q3 (gd1_of gg0)).1, (q3 (gd1_of gg0)).2, (hd4 (gd1_of gg0)).some⟩) ?_
  refine Exec.run tyOk 400 rfl ?_
  refine Exec.ld tyOk (x := .string ⟨⟨(cond ((((((decide (x1.Version < (0 : Int))) || (decide ((1099511627776 : Int) < x1.Version))) || (decide ((((x1.Parts).length : Nat) : Int) < (1 : Int)))) || (decide ((16 : Int) < (((x1.Parts).length : Nat) : Int))))) == false) (atI x1.Parts ((0 : Int))) default).From⟩⟩) rfl rfl (fun gg0 => (RdAt.part (hd4 (gd1_of gg0)) 1 1 rfl)) rfl rfl ?_
  refine Exec.run tyOk 400 rfl ?_
  rcases cond_some hF with ⟨hb, hF⟩ | ⟨hb, hF⟩
  · skip
    refine Exec.ifT rfl hb ?_
    refine Exec.run tyOk 400 rfl ?_
    obtain rfl := some_inj hF
    exact Exec.ret tyOk rfl rfl rfl
  · skip
    refine Exec.ifF rfl hb ?_
    refine Exec.run tyOk 6 rfl ?_
    obtain ⟨J5, hJ5, hF⟩ := jn_some hF
    refine Exec.seam (fun L' V' M' => L' = [] ∧ M' = [] ∧ J5 = some r) rfl ?_ ?_
    · rintro L' V6 M' ⟨rfl, rfl, hF⟩
      subst hJ5
      refine Exec.run tyOk 400 rfl ?_
      obtain rfl := some_inj hF
      exact Exec.ret tyOk rfl rfl rfl
    · skip
      refine Exec.run tyOk 400 rfl ?_
      refine Exec.loop (fun n8 L' V' M' => ∃ (x7 : Int), L' = [(1, .ptr 0 0), (3, .v (.int .i64 ((((x1.Parts).length : Nat) : Int)))), (4, .v (.int .i64 (x7)))] ∧ M' = [.blk [.v (.int .i64 (x1.Version)), .v (.slice a2 ((x1.Parts).length) (k2))] 24] ∧ SlAt cTPart V' a2 k2 x1.Parts ∧ F_clockworkref29_Valid_L1 x1 J5 n8 x7 = some r) ⟨(((((x1.Parts).length : Nat) : Int)).toNat + 1), [(1, .ptr 0 0), (3, .v (.int .i64 ((((x1.Parts).length : Nat) : Int)))), (4, .v (.int .i64 ((0 : Int))))], ⟨rfl, rfl, rfl, trivial⟩, (0 : Int), rfl, rfl, h2, hF⟩ ?_
      rintro n8 L' V9 M' ⟨x7, rfl, rfl, h10, hF⟩
      rcases n8 with _ | n8
      · exact absurd hF (by simp [F_clockworkref29_Valid_L1])
      rw [F_clockworkref29_Valid_L1] at hF
      refine Exec.run tyOk 400 rfl ?_
      rcases cond_some hF with ⟨hb, hF⟩ | ⟨hb, hF⟩
      · skip
        refine Exec.ifT rfl hb ?_
        refine Exec.run tyOk 400 rfl ?_
        obtain ⟨q11, hF⟩ := req_some hF
        obtain ⟨c12, hr12, hd12⟩ := SlAt.get h10 q11
        obtain rfl := hr12
        refine Exec.ia tyOk rfl rfl ⟨q11.1, q11.2, hd12.some⟩ ?_
        refine Exec.run tyOk 400 rfl ?_
        refine Exec.ld tyOk (x := .agg ⟨[.int .i64 ((atI x1.Parts x7).Id), .string ⟨⟨(atI x1.Parts x7).From⟩⟩, .int .i64 ((atI x1.Parts x7).Node), .int .i64 ((atI x1.Parts x7).Dest), .string ⟨⟨(atI x1.Parts x7).Done⟩⟩]⟩) rfl rfl hd12 rfl rfl ?_
        refine Exec.run tyOk 400 rfl ?_
        obtain ⟨J14, hJ14, hF⟩ := jn_some hF
        refine Exec.seam (fun L' V' M' => ∃ (x13 : Str), L' = [(1, .ptr 0 0), (3, .v (.int .i64 ((((x1.Parts).length : Nat) : Int)))), (4, .v (.int .i64 (x7))), (5, .ptr 1 0), (6, .v (.string ⟨⟨x13⟩⟩))] ∧ M' = [.blk [.v (.int .i64 (x1.Version)), .v (.slice a2 ((x1.Parts).length) (k2))] 24, .blk [.v (.int .i64 ((atI x1.Parts x7).Id)), .v (.string ⟨⟨(atI x1.Parts x7).From⟩⟩), .v (.int .i64 ((atI x1.Parts x7).Node)), .v (.int .i64 ((atI x1.Parts x7).Dest)), .v (.string ⟨⟨(atI x1.Parts x7).Done⟩⟩)] 49] ∧ SlAt cTPart V' a2 k2 x1.Parts ∧ J14 x13 = some r) rfl ?_ ?_
        · rintro L' V15 M' ⟨x13, rfl, rfl, h16, hF⟩
          subst hJ14
          refine Exec.run tyOk 400 rfl ?_
          refine Exec.draws tyOk [(0, true), (1, true), (2, false), (3, false), (4, false), (5, false), (6, false), (7, false), (8, true), (9, true), (10, true), (11, true), (12, false), (13, false), (14, false), (15, false), (16, false), (17, false), (18, false), (19, false), (20, false), (21, false), (22, false), (23, false), (24, false), (25, false), (26, false), (27, false), (28, false), (29, false), (30, false), (31, false), (32, false), (33, false), (34, false), (35, false), (36, false), (37, false), (38, false), (39, false), (40, false), (41, true), (42, true), (43, true), (44, true), (45, false), (46, false), (47, false), (48, false), (49, false)] rfl (by kernel_rfl) ?_
          refine Exec.run tyOk 400 rfl ?_
          obtain ⟨x17, hx17, hF⟩ := bnd_some hF
          refine Exec.callS (.bool (x17)) rfl rfl (W_clockworkref29_Bound ((atI x1.Parts x7).From)  hx17) ?_
          refine Exec.run tyOk 400 rfl ?_
          obtain ⟨q18, hF⟩ := req_some hF
          obtain ⟨c19, hr19, hd19⟩ := SlAt.gget ((((decide ((0 : Int) < x7))) == true) && (((!x17)) == false)) h16 q18
          obtain rfl := hr19
          refine Exec.ia tyOk rfl rfl (fun gg0 gg1 => ⟨(q18 (gd2_of gg0 gg1)).1, (q18 (gd2_of gg0 gg1)).2, (hd19 (gd2_of gg0 gg1)).some⟩) ?_
          refine Exec.run tyOk 400 rfl ?_
          refine Exec.ld tyOk (x := .string ⟨⟨(cond ((((decide ((0 : Int) < x7))) == true) && (((!x17)) == false)) (atI x1.Parts ((IntKind.i64.wrap (x7 - (1 : Int))))) default).From⟩⟩) rfl rfl (fun gg0 gg1 => (RdAt.part (hd19 (gd2_of gg0 gg1)) 1 1 rfl)) rfl rfl ?_
          refine Exec.run tyOk 400 rfl ?_
          obtain ⟨x20, hx20, hF⟩ := bnd_some hF
          refine Exec.callS (.bool (x20)) rfl rfl (fun gg0 => W_clockworkref29_moves ((atI x1.Parts x7)) x13 (((IntKind.i64.wrap (x7 + (1 : Int))) == (((x1.Parts).length : Nat) : Int)))  (gcall_some hx20 (gd1_of gg0))) ?_
          refine Exec.run tyOk 400 rfl ?_
          rcases cond_some hF with ⟨hb, hF⟩ | ⟨hb, hF⟩
          · skip
            refine Exec.ifT rfl hb ?_
            refine Exec.run tyOk 400 rfl ?_
            obtain rfl := some_inj hF
            exact Exec.ret tyOk rfl rfl rfl
          · skip
            refine Exec.ifF rfl hb ?_
            refine Exec.run tyOk 5 rfl ?_
            obtain ⟨J21, hJ21, hF⟩ := jn_some hF
            refine Exec.seam (fun L' V' M' => L' = [(1, .ptr 0 0), (3, .v (.int .i64 ((((x1.Parts).length : Nat) : Int)))), (4, .v (.int .i64 (x7)))] ∧ M' = [.blk [.v (.int .i64 (x1.Version)), .v (.slice a2 ((x1.Parts).length) (k2))] 24] ∧ SlAt cTPart V' a2 k2 x1.Parts ∧ J21 = some r) rfl ?_ ?_
            · rintro L' V22 M' ⟨rfl, rfl, h23, hF⟩
              subst hJ21
              refine Exec.run tyOk 400 rfl ?_
              exact Exec.round [(1, .ptr 0 0), (3, .v (.int .i64 ((((x1.Parts).length : Nat) : Int)))), (4, .v (.int .i64 ((IntKind.i64.wrap (x7 + (1 : Int))))))] ⟨rfl, rfl, rfl, trivial⟩ ⟨n8, Nat.lt_succ_self _, (IntKind.i64.wrap (x7 + (1 : Int))), rfl, rfl, h23, hF⟩
            · skip
              refine Exec.run tyOk 400 rfl ?_
              refine Exec.loop (fun n25 L' V' M' => ∃ (x24 : Int), L' = [(1, .ptr 0 0), (3, .v (.int .i64 ((((x1.Parts).length : Nat) : Int)))), (4, .v (.int .i64 (x7))), (5, .ptr 1 0), (7, .v (.int .i64 (x24)))] ∧ M' = [.blk [.v (.int .i64 (x1.Version)), .v (.slice a2 ((x1.Parts).length) (k2))] 24, .blk [.v (.int .i64 ((atI x1.Parts x7).Id)), .v (.string ⟨⟨(atI x1.Parts x7).From⟩⟩), .v (.int .i64 ((atI x1.Parts x7).Node)), .v (.int .i64 ((atI x1.Parts x7).Dest)), .v (.string ⟨⟨(atI x1.Parts x7).Done⟩⟩)] 49] ∧ SlAt cTPart V' a2 k2 x1.Parts ∧ F_clockworkref29_Valid_L2 x7 x1 J21 n25 x24 = some r) ⟨((x7).toNat + 1), [(1, .ptr 0 0), (3, .v (.int .i64 ((((x1.Parts).length : Nat) : Int)))), (4, .v (.int .i64 (x7))), (5, .ptr 1 0), (7, .v (.int .i64 ((0 : Int))))], ⟨rfl, rfl, rfl, rfl, rfl, trivial⟩, (0 : Int), rfl, rfl, h16, hF⟩ ?_
              rintro n25 L' V26 M' ⟨x24, rfl, rfl, h27, hF⟩
              rcases n25 with _ | n25
              · exact absurd hF (by simp [F_clockworkref29_Valid_L2])
              rw [F_clockworkref29_Valid_L2] at hF
              refine Exec.run tyOk 400 rfl ?_
              rcases cond_some hF with ⟨hb, hF⟩ | ⟨hb, hF⟩
              · skip
                refine Exec.ifT rfl hb ?_
                refine Exec.run tyOk 400 rfl ?_
                refine Exec.draws tyOk [(0, true), (1, true), (2, true), (3, true), (4, true), (5, true), (6, true), (7, true), (8, true)] rfl (by kernel_rfl) ?_
                refine Exec.run tyOk 400 rfl ?_
                obtain ⟨q28, hF⟩ := req_some hF
                obtain ⟨c29, hr29, hd29⟩ := SlAt.get h27 q28
                obtain rfl := hr29
                refine Exec.fia tyOk rfl rfl rfl ⟨q28.1, q28.2, hd29.some⟩ ?_
                refine Exec.run tyOk 400 rfl ?_
                refine Exec.fld tyOk (x := .int .i64 ((atI x1.Parts x24).Id)) rfl rfl rfl (RdAt.part hd29 0 1 rfl) rfl rfl ?_
                refine Exec.run tyOk 400 rfl ?_
                rcases cond_some hF with ⟨hb, hF⟩ | ⟨hb, hF⟩
                · skip
                  refine Exec.ifT rfl hb ?_
                  refine Exec.run tyOk 400 rfl ?_
                  obtain rfl := some_inj hF
                  exact Exec.ret tyOk rfl rfl rfl
                · skip
                  refine Exec.ifF rfl hb ?_
                  refine Exec.run tyOk 400 rfl ?_
                  exact Exec.round [(1, .ptr 0 0), (3, .v (.int .i64 ((((x1.Parts).length : Nat) : Int)))), (4, .v (.int .i64 (x7))), (5, .ptr 1 0), (7, .v (.int .i64 ((IntKind.i64.wrap (x24 + (1 : Int))))))] ⟨rfl, rfl, rfl, rfl, rfl, trivial⟩ ⟨n25, Nat.lt_succ_self _, (IntKind.i64.wrap (x24 + (1 : Int))), rfl, rfl, h27, hF⟩
              · skip
                refine Exec.ifF rfl hb ?_
                refine Exec.run tyOk 400 rfl ?_
                refine Exec.cut 1 [(1, .ptr 0 0), (3, .v (.int .i64 ((((x1.Parts).length : Nat) : Int)))), (4, .v (.int .i64 (x7)))] (M' := [.blk [.v (.int .i64 (x1.Version)), .v (.slice a2 ((x1.Parts).length) (k2))] 24]) rfl ⟨rfl, rfl, rfl, trivial⟩ rfl rfl rfl ?_
                exact Exec.round [(1, .ptr 0 0), (3, .v (.int .i64 ((((x1.Parts).length : Nat) : Int)))), (4, .v (.int .i64 (x7)))] ⟨rfl, rfl, rfl, trivial⟩ ⟨rfl, rfl, h27, hF⟩
        · skip
          refine Exec.run tyOk 400 rfl ?_
          rcases cond_some hF with ⟨hb, hF⟩ | ⟨hb, hF⟩
          · skip
            refine Exec.ifT rfl hb ?_
            refine Exec.run tyOk 400 rfl ?_
            obtain ⟨q30, hF⟩ := req_some hF
            obtain ⟨c31, hr31, hd31⟩ := SlAt.get h10 q30
            obtain rfl := hr31
            refine Exec.ia tyOk rfl rfl ⟨q30.1, q30.2, hd31.some⟩ ?_
            refine Exec.run tyOk 400 rfl ?_
            refine Exec.ld tyOk (x := .string ⟨⟨(atI x1.Parts ((IntKind.i64.wrap (x7 + (1 : Int))))).From⟩⟩) rfl rfl (RdAt.part hd31 1 1 rfl) rfl rfl ?_
            refine Exec.run tyOk 400 rfl ?_
            exact Exec.round [(1, .ptr 0 0), (3, .v (.int .i64 ((((x1.Parts).length : Nat) : Int)))), (4, .v (.int .i64 (x7))), (5, .ptr 1 0), (6, .v (.string ⟨⟨(atI x1.Parts ((IntKind.i64.wrap (x7 + (1 : Int))))).From⟩⟩))] ⟨rfl, rfl, rfl, rfl, rfl, trivial⟩ ⟨(atI x1.Parts ((IntKind.i64.wrap (x7 + (1 : Int))))).From, rfl, rfl, h10, hF⟩
          · skip
            refine Exec.ifF rfl hb ?_
            refine Exec.run tyOk 400 rfl ?_
            exact Exec.round [(1, .ptr 0 0), (3, .v (.int .i64 ((((x1.Parts).length : Nat) : Int)))), (4, .v (.int .i64 (x7))), (5, .ptr 1 0), (6, .v (.string ⟨⟨([] : Str)⟩⟩))] ⟨rfl, rfl, rfl, rfl, rfl, trivial⟩ ⟨([] : Str), rfl, rfl, h10, hF⟩
      · skip
        refine Exec.ifF rfl hb ?_
        refine Exec.run tyOk 400 rfl ?_
        refine Exec.cut 0 [] (M' := []) rfl trivial rfl rfl rfl ?_
        exact Exec.round [] trivial ⟨rfl, rfl, hF⟩

def F_placement_find (x1 : List TPart) (x3 : Int) : Option Int :=
  (bnd (F_slices_IndexFunc_api_Part_api_Part x1 (fun y0 => F_placement_find_1 y0 x3)) fun x6 => (some x6))

set_option maxRecDepth 100000 in
theorem W_placement_find {V : View} (x1 : List TPart) (x3 : Int) {a2 : Option Addr} {k2 : Nat} (h2 : SlAt cTPart V a2 k2 x1) {r : Int} (hF : F_placement_find x1 x3 = some r) :
    Spec Try.prog 40 [.slice a2 ((x1).length) (k2), .int .i64 (x3)] V (fun _ v => v = .int .i64 (r)) := by
  unfold F_placement_find at hF
  refine Spec.enter (T := tyT) Try.func40 rfl (by kernel_rfl) rfl rfl rfl ?_
  refine Exec.run tyOk 400 rfl ?_
  refine Exec.openB 0 rfl rfl rfl rfl (fun _ => rfl) (fun _ => rfl) (fun V4 b4 hv4 hd4 => ?_)
  have h5 := SlAt.mono h2 hv4
  refine Exec.mkf rfl rfl ?_
  refine Exec.run tyOk 400 rfl ?_
  obtain ⟨x6, hx6, hF⟩ := bnd_some hF
  refine Exec.callS (.int .i64 (x6)) rfl rfl (W_slices_IndexFunc_api_Part_api_Part x1 (fun y0 => F_placement_find_1 y0 x3) h5 (fun V' hv y0 r hr => W_placement_find_1 y0 x3 (RdAt.mono hd4 hv) hr) hx6) ?_
  refine Exec.run tyOk 400 rfl ?_
  obtain rfl := some_inj hF
  exact Exec.ret tyOk rfl rfl rfl

def F_clockworkref02_TakeInt (x1 : Str) (x2 : Int) : Option (Int × Int × Int) :=
  (bnd (F_clockworkref02_TakeUint x1 x2) fun x3 => (cond (x3.2.2 != (0 : Int)) (some ((0 : Int), (0 : Int), x3.2.2)) (bnd (F_clockworkref02_Unfold x3.1) fun x4 => (some (x4, x3.2.1, (0 : Int))))))

set_option maxRecDepth 100000 in
theorem W_clockworkref02_TakeInt {V : View} (x1 : Str) (x2 : Int)   {r : Int × Int × Int} (hF : F_clockworkref02_TakeInt x1 x2 = some r) :
    Spec Try.prog 52 [.string ⟨⟨x1⟩⟩, .int .i64 (x2)] V (fun _ v => v = .tuple ⟨[.int .i64 (r.1), .int .i64 (r.2.1), .int .i64 (r.2.2)]⟩) := by
  unfold F_clockworkref02_TakeInt at hF
  refine Spec.enter (T := tyT) Try.func52 rfl (by kernel_rfl) rfl rfl rfl ?_
  refine Exec.run tyOk 400 rfl ?_
  obtain ⟨x3, hx3, hF⟩ := bnd_some hF
  refine Exec.callS (.tuple ⟨[.int .u64 (x3.1), .int .i64 (x3.2.1), .int .i64 (x3.2.2)]⟩) rfl rfl (W_clockworkref02_TakeUint x1 x2  hx3) ?_
  refine Exec.run tyOk 400 rfl ?_
  rcases cond_some hF with ⟨hb, hF⟩ | ⟨hb, hF⟩
  · skip
    refine Exec.ifT rfl hb ?_
    refine Exec.run tyOk 400 rfl ?_
    obtain rfl := some_inj hF
    exact Exec.ret tyOk rfl rfl rfl
  · skip
    refine Exec.ifF rfl hb ?_
    refine Exec.run tyOk 400 rfl ?_
    obtain ⟨x4, hx4, hF⟩ := bnd_some hF
    refine Exec.callS (.int .i64 (x4)) rfl rfl (W_clockworkref02_Unfold x3.1  hx4) ?_
    refine Exec.run tyOk 400 rfl ?_
    obtain rfl := some_inj hF
    exact Exec.ret tyOk rfl rfl rfl

def F_clockworkref02_TakeCount (x1 : Str) (x2 : Int) (x3 : Int) : Option (Int × Int × Int) :=
  (bnd (F_clockworkref02_TakeUint x1 x2) fun x4 => (cond (x4.2.2 != (0 : Int)) (some ((0 : Int), (0 : Int), x4.2.2)) (cond ((decide (x3 < (0 : Int))) || (decide ((IntKind.u64.wrap x3) < x4.1))) (some ((0 : Int), (0 : Int), (2 : Int))) (cond (decide ((IntKind.u64.wrap (IntKind.i64.wrap (((x1).length : Int) - x4.2.1))) < x4.1)) (some ((0 : Int), (0 : Int), (6 : Int))) (some ((IntKind.i64.wrap x4.1), x4.2.1, (0 : Int)))))))

set_option maxRecDepth 100000 in
theorem W_clockworkref02_TakeCount {V : View} (x1 : Str) (x2 : Int) (x3 : Int)   {r : Int × Int × Int} (hF : F_clockworkref02_TakeCount x1 x2 x3 = some r) :
    Spec Try.prog 53 [.string ⟨⟨x1⟩⟩, .int .i64 (x2), .int .i64 (x3)] V (fun _ v => v = .tuple ⟨[.int .i64 (r.1), .int .i64 (r.2.1), .int .i64 (r.2.2)]⟩) := by
  unfold F_clockworkref02_TakeCount at hF
  refine Spec.enter (T := tyT) Try.func53 rfl (by kernel_rfl) rfl rfl rfl ?_
  refine Exec.run tyOk 400 rfl ?_
  obtain ⟨x4, hx4, hF⟩ := bnd_some hF
  refine Exec.callS (.tuple ⟨[.int .u64 (x4.1), .int .i64 (x4.2.1), .int .i64 (x4.2.2)]⟩) rfl rfl (W_clockworkref02_TakeUint x1 x2  hx4) ?_
  refine Exec.run tyOk 400 rfl ?_
  rcases cond_some hF with ⟨hb, hF⟩ | ⟨hb, hF⟩
  · skip
    refine Exec.ifT rfl hb ?_
    refine Exec.run tyOk 400 rfl ?_
    obtain rfl := some_inj hF
    exact Exec.ret tyOk rfl rfl rfl
  · skip
    refine Exec.ifF rfl hb ?_
    refine Exec.run tyOk 400 rfl ?_
    rcases cond_some hF with ⟨hb, hF⟩ | ⟨hb, hF⟩
    · skip
      refine Exec.ifT rfl hb ?_
      refine Exec.run tyOk 400 rfl ?_
      obtain rfl := some_inj hF
      exact Exec.ret tyOk rfl rfl rfl
    · skip
      refine Exec.ifF rfl hb ?_
      refine Exec.run tyOk 400 rfl ?_
      rcases cond_some hF with ⟨hb, hF⟩ | ⟨hb, hF⟩
      · skip
        refine Exec.ifT rfl hb ?_
        refine Exec.run tyOk 400 rfl ?_
        obtain rfl := some_inj hF
        exact Exec.ret tyOk rfl rfl rfl
      · skip
        refine Exec.ifF rfl hb ?_
        refine Exec.run tyOk 400 rfl ?_
        obtain rfl := some_inj hF
        exact Exec.ret tyOk rfl rfl rfl

def F_clockworkref29_takePart (x1 : Str) (x2 : Int) : Option (TPart × Int × Int) :=
  (bnd (F_clockworkref02_TakeInt x1 x2) fun x3 => (cond (x3.2.2 != (0 : Int)) (some ((⟨0, [], 0, 0, []⟩ : TPart), (0 : Int), x3.2.2)) (bnd (F_clockworkref02_TakeText x1 x3.2.1 ((24 : Int))) fun x4 => (cond (x4.2.2 != (0 : Int)) (some ((⟨0, [], 0, 0, []⟩ : TPart), (0 : Int), x4.2.2)) (bnd (F_clockworkref02_TakeInt x1 x4.2.1) fun x5 => (cond (x5.2.2 != (0 : Int)) (some ((⟨0, [], 0, 0, []⟩ : TPart), (0 : Int), x5.2.2)) (bnd (F_clockworkref02_TakeInt x1 x5.2.1) fun x6 => (cond (x6.2.2 != (0 : Int)) (some ((⟨0, [], 0, 0, []⟩ : TPart), (0 : Int), x6.2.2)) (bnd (F_clockworkref02_TakeText x1 x6.2.1 ((24 : Int))) fun x7 => (cond (x7.2.2 != (0 : Int)) (some ((⟨0, [], 0, 0, []⟩ : TPart), (0 : Int), x7.2.2)) (some ((⟨x3.1, x4.1, x5.1, x6.1, x7.1⟩ : TPart), x7.2.1, (0 : Int)))))))))))))

set_option maxRecDepth 100000 in
theorem W_clockworkref29_takePart {V : View} (x1 : Str) (x2 : Int)   {r : TPart × Int × Int} (hF : F_clockworkref29_takePart x1 x2 = some r) :
    Spec Try.prog 54 [.string ⟨⟨x1⟩⟩, .int .i64 (x2)] V (fun _ v => v = .tuple ⟨[.agg ⟨[.int .i64 (r.1.Id), .string ⟨⟨r.1.From⟩⟩, .int .i64 (r.1.Node), .int .i64 (r.1.Dest), .string ⟨⟨r.1.Done⟩⟩]⟩, .int .i64 (r.2.1), .int .i64 (r.2.2)]⟩) := by
  unfold F_clockworkref29_takePart at hF
  refine Spec.enter (T := tyT) Try.func54 rfl (by kernel_rfl) rfl rfl rfl ?_
  refine Exec.run tyOk 400 rfl ?_
  obtain ⟨x3, hx3, hF⟩ := bnd_some hF
  refine Exec.callS (.tuple ⟨[.int .i64 (x3.1), .int .i64 (x3.2.1), .int .i64 (x3.2.2)]⟩) rfl rfl (W_clockworkref02_TakeInt x1 x2  hx3) ?_
  refine Exec.run tyOk 400 rfl ?_
  rcases cond_some hF with ⟨hb, hF⟩ | ⟨hb, hF⟩
  · skip
    refine Exec.ifT rfl hb ?_
    refine Exec.run tyOk 400 rfl ?_
    obtain rfl := some_inj hF
    exact Exec.ret tyOk rfl rfl rfl
  · skip
    refine Exec.ifF rfl hb ?_
    refine Exec.run tyOk 400 rfl ?_
    obtain ⟨x4, hx4, hF⟩ := bnd_some hF
    refine Exec.callS (.tuple ⟨[.string ⟨⟨x4.1⟩⟩, .int .i64 (x4.2.1), .int .i64 (x4.2.2)]⟩) rfl rfl (W_clockworkref02_TakeText x1 x3.2.1 ((24 : Int))  hx4) ?_
    refine Exec.run tyOk 400 rfl ?_
    rcases cond_some hF with ⟨hb, hF⟩ | ⟨hb, hF⟩
    · skip
      refine Exec.ifT rfl hb ?_
      refine Exec.run tyOk 400 rfl ?_
      obtain rfl := some_inj hF
      exact Exec.ret tyOk rfl rfl rfl
    · skip
      refine Exec.ifF rfl hb ?_
      refine Exec.run tyOk 400 rfl ?_
      obtain ⟨x5, hx5, hF⟩ := bnd_some hF
      refine Exec.callS (.tuple ⟨[.int .i64 (x5.1), .int .i64 (x5.2.1), .int .i64 (x5.2.2)]⟩) rfl rfl (W_clockworkref02_TakeInt x1 x4.2.1  hx5) ?_
      refine Exec.run tyOk 400 rfl ?_
      rcases cond_some hF with ⟨hb, hF⟩ | ⟨hb, hF⟩
      · skip
        refine Exec.ifT rfl hb ?_
        refine Exec.run tyOk 400 rfl ?_
        obtain rfl := some_inj hF
        exact Exec.ret tyOk rfl rfl rfl
      · skip
        refine Exec.ifF rfl hb ?_
        refine Exec.run tyOk 400 rfl ?_
        obtain ⟨x6, hx6, hF⟩ := bnd_some hF
        refine Exec.callS (.tuple ⟨[.int .i64 (x6.1), .int .i64 (x6.2.1), .int .i64 (x6.2.2)]⟩) rfl rfl (W_clockworkref02_TakeInt x1 x5.2.1  hx6) ?_
        refine Exec.run tyOk 400 rfl ?_
        rcases cond_some hF with ⟨hb, hF⟩ | ⟨hb, hF⟩
        · skip
          refine Exec.ifT rfl hb ?_
          refine Exec.run tyOk 400 rfl ?_
          obtain rfl := some_inj hF
          exact Exec.ret tyOk rfl rfl rfl
        · skip
          refine Exec.ifF rfl hb ?_
          refine Exec.run tyOk 400 rfl ?_
          obtain ⟨x7, hx7, hF⟩ := bnd_some hF
          refine Exec.callS (.tuple ⟨[.string ⟨⟨x7.1⟩⟩, .int .i64 (x7.2.1), .int .i64 (x7.2.2)]⟩) rfl rfl (W_clockworkref02_TakeText x1 x6.2.1 ((24 : Int))  hx7) ?_
          refine Exec.run tyOk 400 rfl ?_
          rcases cond_some hF with ⟨hb, hF⟩ | ⟨hb, hF⟩
          · skip
            refine Exec.ifT rfl hb ?_
            refine Exec.run tyOk 400 rfl ?_
            obtain rfl := some_inj hF
            exact Exec.ret tyOk rfl rfl rfl
          · skip
            refine Exec.ifF rfl hb ?_
            refine Exec.run tyOk 400 rfl ?_
            obtain rfl := some_inj hF
            exact Exec.ret tyOk rfl rfl rfl

def F_wire_Uint_L1 (J5 : Int → (List Int) → Option Str) : Nat → Int → (List Int) → Option Str
  | 0, _, _ => none
  | n14 + 1, x11, x12 => (cond (decide ((128 : Int) ≤ x11)) (bnd (F_wire_appended x12 ((bits .or .u8 (IntKind.u8.wrap x11) (128 : Int)))) fun x16 => (req (0 ≤ (7 : Int)) (F_wire_Uint_L1 J5 n14 ((shrI .u64 x11 (7 : Int))) x16))) (J5 x11 x12))

def F_wire_Uint (x1 : Int) : Option Str :=
  (jn (fun (x2 : Int) (x3 : List Int) => (bnd (F_wire_appended x3 ((IntKind.u8.wrap x2))) fun x7 => (some (bytesS x7)))) (fun J5 => (F_wire_Uint_L1 J5 ((x1).toNat + 2) x1 (([] : List Int)))))

set_option maxRecDepth 100000 in
theorem W_wire_Uint {V : View} (x1 : Int)   {r : Str} (hF : F_wire_Uint x1 = some r) :
    Spec Try.prog 56 [.int .u64 (x1)] V (fun _ v => v = .string ⟨⟨r⟩⟩) := by
  unfold F_wire_Uint at hF
  refine Spec.enter (T := tyT) Try.func56 rfl (by kernel_rfl) rfl rfl rfl ?_
  refine Exec.run tyOk 9 rfl ?_
  obtain ⟨J5, hJ5, hF⟩ := jn_some hF
  refine Exec.seam (fun L' V' M' => ∃ (x2 : Int) (x3 : List Int) (a4 : Option Addr) (k4 : Nat), L' = [(0, .v (.int .u64 (x2))), (3, .v (.slice a4 ((x3).length) (k4)))] ∧ M' = [] ∧ SlAt (cInt .u8) V' a4 k4 x3 ∧ J5 x2 x3 = some r) rfl ?_ ?_
  · rintro L' V6 M' ⟨x2, x3, a4, k4, rfl, rfl, h4, hF⟩
    subst hJ5
    refine Exec.run tyOk 400 rfl ?_
    obtain ⟨x7, hx7, hF⟩ := bnd_some hF
    refine Exec.call rfl rfl (W_wire_appended x3 ((IntKind.u8.wrap x2)) h4 hx7) ?_
    rintro V9 _ hv9 ⟨a8, k8, rfl, h8⟩
    have h10 := SlAt.mono h4 hv9
    refine Exec.run tyOk 400 rfl ?_
    refine Exec.b2sV tyOk rfl rfl rfl rfl rfl rfl rfl h8 (by simp) ?_
    refine Exec.run tyOk 400 rfl ?_
    obtain rfl := some_inj hF
    exact Exec.ret tyOk rfl rfl rfl
  · skip
    refine Exec.run tyOk 400 rfl ?_
    refine Exec.loop (fun n14 L' V' M' => ∃ (x11 : Int) (x12 : List Int) (a13 : Option Addr) (k13 : Nat), L' = [(0, .v (.int .u64 (x11))), (3, .v (.slice a13 ((x12).length) (k13)))] ∧ M' = [] ∧ SlAt (cInt .u8) V' a13 k13 x12 ∧ F_wire_Uint_L1 J5 n14 x11 x12 = some r) ⟨((x1).toNat + 2), [(0, .v (.int .u64 (x1))), (3, .v (.slice none (0) (0)))], ⟨rfl, rfl, trivial⟩, x1, ([] : List Int), none, 0, rfl, rfl, SlAt.nil, hF⟩ ?_
    rintro n14 L' V15 M' ⟨x11, x12, a13, k13, rfl, rfl, h13, hF⟩
    rcases n14 with _ | n14
    · exact absurd hF (by simp [F_wire_Uint_L1])
    rw [F_wire_Uint_L1] at hF
    refine Exec.run tyOk 400 rfl ?_
    rcases cond_some hF with ⟨hb, hF⟩ | ⟨hb, hF⟩
    · skip
      refine Exec.ifT rfl hb ?_
      refine Exec.run tyOk 400 rfl ?_
      obtain ⟨x16, hx16, hF⟩ := bnd_some hF
      refine Exec.call rfl rfl (W_wire_appended x12 ((bits .or .u8 (IntKind.u8.wrap x11) (128 : Int))) h13 hx16) ?_
      rintro V18 _ hv18 ⟨a17, k17, rfl, h17⟩
      have h19 := SlAt.mono h13 hv18
      refine Exec.run tyOk 400 rfl ?_
      obtain ⟨q20, hF⟩ := req_some hF
      refine Exec.ari rfl rfl q20 ?_
      refine Exec.run tyOk 400 rfl ?_
      exact Exec.round [(0, .v (.int .u64 ((shrI .u64 x11 (7 : Int))))), (3, .v (.slice a17 ((x16).length) (k17)))] ⟨rfl, rfl, trivial⟩ ⟨n14, Nat.lt_succ_self _, (shrI .u64 x11 (7 : Int)), x16, a17, k17, rfl, rfl, h17, hF⟩
    · skip
      refine Exec.ifF rfl hb ?_
      refine Exec.run tyOk 400 rfl ?_
      exact Exec.round [(0, .v (.int .u64 (x11))), (3, .v (.slice a13 ((x12).length) (k13)))] ⟨rfl, rfl, trivial⟩ ⟨x11, x12, a13, k13, rfl, rfl, h13, hF⟩

def F_wire_Text (x1 : Str) : Option Str :=
  (bnd (F_wire_Uint ((IntKind.u64.wrap ((x1).length : Int)))) fun x2 => (req ((x2).length + (x1).length ≤ 9223372036854775807) (some (x2 ++ x1))))

set_option maxRecDepth 100000 in
theorem W_wire_Text {V : View} (x1 : Str)   {r : Str} (hF : F_wire_Text x1 = some r) :
    Spec Try.prog 57 [.string ⟨⟨x1⟩⟩] V (fun _ v => v = .string ⟨⟨r⟩⟩) := by
  unfold F_wire_Text at hF
  refine Spec.enter (T := tyT) Try.func57 rfl (by kernel_rfl) rfl rfl rfl ?_
  refine Exec.run tyOk 400 rfl ?_
  obtain ⟨x2, hx2, hF⟩ := bnd_some hF
  refine Exec.callS (.string ⟨⟨x2⟩⟩) rfl rfl (W_wire_Uint ((IntKind.u64.wrap ((x1).length : Int)))  hx2) ?_
  refine Exec.run tyOk 400 rfl ?_
  obtain ⟨q3, hF⟩ := req_some hF
  refine Exec.cat rfl rfl q3 ?_
  refine Exec.run tyOk 400 rfl ?_
  obtain rfl := some_inj hF
  exact Exec.ret tyOk rfl rfl rfl

def F_clockworkref02_Int (x1 : Int) : Option Str :=
  (bnd (F_clockworkref02_Fold x1) fun x2 => (bnd (F_clockworkref02_Uint x2) fun x3 => (some x3)))

set_option maxRecDepth 100000 in
theorem W_clockworkref02_Int {V : View} (x1 : Int)   {r : Str} (hF : F_clockworkref02_Int x1 = some r) :
    Spec Try.prog 58 [.int .i64 (x1)] V (fun _ v => v = .string ⟨⟨r⟩⟩) := by
  unfold F_clockworkref02_Int at hF
  refine Spec.enter (T := tyT) Try.func58 rfl (by kernel_rfl) rfl rfl rfl ?_
  refine Exec.run tyOk 400 rfl ?_
  obtain ⟨x2, hx2, hF⟩ := bnd_some hF
  refine Exec.callS (.int .u64 (x2)) rfl rfl (W_clockworkref02_Fold x1  hx2) ?_
  refine Exec.run tyOk 400 rfl ?_
  obtain ⟨x3, hx3, hF⟩ := bnd_some hF
  refine Exec.callS (.string ⟨⟨x3⟩⟩) rfl rfl (W_clockworkref02_Uint x2  hx3) ?_
  refine Exec.run tyOk 400 rfl ?_
  obtain rfl := some_inj hF
  exact Exec.ret tyOk rfl rfl rfl

def F_wire_TakeUint_L1 (x1 : Str) (x2 : Int) (J4 : Option (Int × Int × Int)) : Nat → Int → Int → Option (Int × Int × Int)
  | 0, _, _ => none
  | n8 + 1, x6, x7 => (cond (decide (x7 < (10 : Int))) (cond (decide (((x1).length : Int) ≤ (IntKind.i64.wrap (x2 + x7)))) (some ((0 : Int), (0 : Int), (6 : Int))) (req (0 ≤ (IntKind.i64.wrap (x2 + x7)) ∧ (IntKind.i64.wrap (x2 + x7)) < ((x1).length : Int)) (cond (((x7 == (9 : Int)) && (decide ((1 : Int) < (byteAt x1 ((IntKind.i64.wrap (x2 + x7))).toNat)))) || (((byteAt x1 ((IntKind.i64.wrap (x2 + x7))).toNat) == (0 : Int)) && (decide ((0 : Int) < x7)))) (some ((0 : Int), (0 : Int), (5 : Int))) (req (0 ≤ (IntKind.i64.wrap ((7 : Int) * x7))) (cond (decide ((byteAt x1 ((IntKind.i64.wrap (x2 + x7))).toNat) < (128 : Int))) (some ((bits .or .u64 x6 (shlI .u64 (IntKind.u64.wrap (bits .and .u8 (byteAt x1 ((IntKind.i64.wrap (x2 + x7))).toNat) (127 : Int))) (IntKind.i64.wrap ((7 : Int) * x7)))), (IntKind.i64.wrap ((IntKind.i64.wrap (x2 + x7)) + (1 : Int))), (0 : Int))) (F_wire_TakeUint_L1 x1 x2 J4 n8 ((bits .or .u64 x6 (shlI .u64 (IntKind.u64.wrap (bits .and .u8 (byteAt x1 ((IntKind.i64.wrap (x2 + x7))).toNat) (127 : Int))) (IntKind.i64.wrap ((7 : Int) * x7))))) ((IntKind.i64.wrap (x7 + (1 : Int)))))))))) J4)

def F_wire_TakeUint (x1 : Str) (x2 : Int) : Option (Int × Int × Int) :=
  (bnd (F_wire_outside x1 x2) fun x3 => (cond x3 (some ((0 : Int), (0 : Int), (1 : Int))) (jn ((some ((0 : Int), (0 : Int), (5 : Int)))) (fun J4 => (F_wire_TakeUint_L1 x1 x2 J4 (((10 : Int)).toNat + 1) ((0 : Int)) ((0 : Int)))))))

set_option maxRecDepth 100000 in
theorem W_wire_TakeUint {V : View} (x1 : Str) (x2 : Int)   {r : Int × Int × Int} (hF : F_wire_TakeUint x1 x2 = some r) :
    Spec Try.prog 68 [.string ⟨⟨x1⟩⟩, .int .i64 (x2)] V (fun _ v => v = .tuple ⟨[.int .u64 (r.1), .int .i64 (r.2.1), .int .i64 (r.2.2)]⟩) := by
  unfold F_wire_TakeUint at hF
  refine Spec.enter (T := tyT) Try.func68 rfl (by kernel_rfl) rfl rfl rfl ?_
  refine Exec.run tyOk 400 rfl ?_
  obtain ⟨x3, hx3, hF⟩ := bnd_some hF
  refine Exec.callS (.bool (x3)) rfl rfl (W_wire_outside x1 x2  hx3) ?_
  refine Exec.run tyOk 400 rfl ?_
  rcases cond_some hF with ⟨hb, hF⟩ | ⟨hb, hF⟩
  · skip
    refine Exec.ifT rfl hb ?_
    refine Exec.run tyOk 400 rfl ?_
    obtain rfl := some_inj hF
    exact Exec.ret tyOk rfl rfl rfl
  · skip
    refine Exec.ifF rfl hb ?_
    refine Exec.run tyOk 10 rfl ?_
    obtain ⟨J4, hJ4, hF⟩ := jn_some hF
    refine Exec.seam (fun L' V' M' => L' = [] ∧ M' = [] ∧ J4 = some r) rfl ?_ ?_
    · rintro L' V5 M' ⟨rfl, rfl, hF⟩
      subst hJ4
      refine Exec.run tyOk 400 rfl ?_
      obtain rfl := some_inj hF
      exact Exec.ret tyOk rfl rfl rfl
    · skip
      refine Exec.run tyOk 400 rfl ?_
      refine Exec.loop (fun n8 L' V' M' => ∃ (x6 : Int) (x7 : Int), L' = [(0, .v (.string ⟨⟨x1⟩⟩)), (1, .v (.int .i64 (x2))), (7, .v (.int .u64 (x6))), (13, .v (.int .i64 (x7)))] ∧ M' = [] ∧ F_wire_TakeUint_L1 x1 x2 J4 n8 x6 x7 = some r) ⟨(((10 : Int)).toNat + 1), [(0, .v (.string ⟨⟨x1⟩⟩)), (1, .v (.int .i64 (x2))), (7, .v (.int .u64 ((0 : Int)))), (13, .v (.int .i64 ((0 : Int))))], ⟨rfl, rfl, rfl, rfl, trivial⟩, (0 : Int), (0 : Int), rfl, rfl, hF⟩ ?_
      rintro n8 L' V9 M' ⟨x6, x7, rfl, rfl, hF⟩
      rcases n8 with _ | n8
      · exact absurd hF (by simp [F_wire_TakeUint_L1])
      rw [F_wire_TakeUint_L1] at hF
      refine Exec.run tyOk 400 rfl ?_
      rcases cond_some hF with ⟨hb, hF⟩ | ⟨hb, hF⟩
      · skip
        refine Exec.ifT rfl hb ?_
        refine Exec.run tyOk 400 rfl ?_
        rcases cond_some hF with ⟨hb, hF⟩ | ⟨hb, hF⟩
        · skip
          refine Exec.ifT rfl hb ?_
          refine Exec.run tyOk 400 rfl ?_
          obtain rfl := some_inj hF
          exact Exec.ret tyOk rfl rfl rfl
        · skip
          refine Exec.ifF rfl hb ?_
          refine Exec.run tyOk 400 rfl ?_
          obtain ⟨q10, hF⟩ := req_some hF
          refine Exec.idx tyOk rfl rfl q10 ?_
          refine Exec.run tyOk 400 rfl ?_
          rcases cond_some hF with ⟨hb, hF⟩ | ⟨hb, hF⟩
          · skip
            refine Exec.ifT rfl hb ?_
            refine Exec.run tyOk 400 rfl ?_
            obtain rfl := some_inj hF
            exact Exec.ret tyOk rfl rfl rfl
          · skip
            refine Exec.ifF rfl hb ?_
            refine Exec.run tyOk 400 rfl ?_
            obtain ⟨q11, hF⟩ := req_some hF
            refine Exec.ari rfl rfl q11 ?_
            refine Exec.run tyOk 400 rfl ?_
            rcases cond_some hF with ⟨hb, hF⟩ | ⟨hb, hF⟩
            · skip
              refine Exec.ifT rfl hb ?_
              refine Exec.run tyOk 400 rfl ?_
              obtain rfl := some_inj hF
              exact Exec.ret tyOk rfl rfl rfl
            · skip
              refine Exec.ifF rfl hb ?_
              refine Exec.run tyOk 400 rfl ?_
              exact Exec.round [(0, .v (.string ⟨⟨x1⟩⟩)), (1, .v (.int .i64 (x2))), (7, .v (.int .u64 ((bits .or .u64 x6 (shlI .u64 (IntKind.u64.wrap (bits .and .u8 (byteAt x1 ((IntKind.i64.wrap (x2 + x7))).toNat) (127 : Int))) (IntKind.i64.wrap ((7 : Int) * x7))))))), (13, .v (.int .i64 ((IntKind.i64.wrap (x7 + (1 : Int))))))] ⟨rfl, rfl, rfl, rfl, trivial⟩ ⟨n8, Nat.lt_succ_self _, (bits .or .u64 x6 (shlI .u64 (IntKind.u64.wrap (bits .and .u8 (byteAt x1 ((IntKind.i64.wrap (x2 + x7))).toNat) (127 : Int))) (IntKind.i64.wrap ((7 : Int) * x7)))), (IntKind.i64.wrap (x7 + (1 : Int))), rfl, rfl, hF⟩
      · skip
        refine Exec.ifF rfl hb ?_
        refine Exec.run tyOk 400 rfl ?_
        exact Exec.round [] trivial ⟨rfl, rfl, hF⟩

def F_placement_Valid_L1 (x1 : TPlacement) (J5 : Option Bool) : Nat → Int → Option Bool
  | 0, _ => none
  | n8 + 1, x7 => (cond (decide (x7 < (((x1.Parts).length : Nat) : Int))) (req (0 ≤ x7 ∧ x7 < ((x1.Parts).length : Int)) (bnd (gcall (((decide ((0 : Int) < x7))) == true) (F_placement_bound ((atI x1.Parts x7).From))) fun x13 => (req (((((!x13)) == false) && (((decide ((0 : Int) < x7))) == true)) = true → 0 ≤ (IntKind.i64.wrap (x7 - (1 : Int))) ∧ (IntKind.i64.wrap (x7 - (1 : Int))) < ((x1.Parts).length : Int)) (cond ((decide ((0 : Int) < x7)) && ((!x13) || (!sLt (cond ((((!x13)) == false) && (((decide ((0 : Int) < x7))) == true)) (atI x1.Parts ((IntKind.i64.wrap (x7 - (1 : Int))))) default).From (atI x1.Parts x7).From))) (some false) (bnd (F_placement_number ((atI x1.Parts x7).Id)) fun x16 => (bnd (gcall (((!x16)) == false) (F_placement_node ((atI x1.Parts x7).Node))) fun x17 => (bnd (gcall ((((!x16) || (!x17))) == false) (F_placement_validMove x1.Parts x7)) fun x18 => (req ((((((!x16) || (!x17)) || (!x18))) == false) = true → 0 ≤ (0 : Int) ∧ (0 : Int) ≤ x7 ∧ x7 ≤ ((x1.Parts).length : Int)) (bnd (gcall (((((!x16) || (!x17)) || (!x18))) == false) (F_placement_find ((cond ((((((!x16) || (!x17)) || (!x18))) == false)) ((x1.Parts.take (x7).toNat).drop ((0 : Int)).toNat) ([] : List TPart))) ((atI x1.Parts x7).Id))) fun x21 => (cond ((((!x16) || (!x17)) || (!x18)) || (decide ((0 : Int) ≤ x21))) (some false) (F_placement_Valid_L1 x1 J5 n8 ((IntKind.i64.wrap (x7 + (1 : Int))))))))))))))) J5)

def F_placement_Valid (x1 : TPlacement) : Option Bool :=
  (req (((((((decide (x1.Version < (0 : Int))) || (decide ((1099511627776 : Int) < x1.Version))) || (decide ((((x1.Parts).length : Nat) : Int) < (1 : Int)))) || (decide ((16 : Int) < (((x1.Parts).length : Nat) : Int))))) == false) = true → 0 ≤ (0 : Int) ∧ (0 : Int) < ((x1.Parts).length : Int)) (cond (((((decide (x1.Version < (0 : Int))) || (decide ((1099511627776 : Int) < x1.Version))) || (decide ((((x1.Parts).length : Nat) : Int) < (1 : Int)))) || (decide ((16 : Int) < (((x1.Parts).length : Nat) : Int)))) || ((cond ((((((decide (x1.Version < (0 : Int))) || (decide ((1099511627776 : Int) < x1.Version))) || (decide ((((x1.Parts).length : Nat) : Int) < (1 : Int)))) || (decide ((16 : Int) < (((x1.Parts).length : Nat) : Int))))) == false) (atI x1.Parts ((0 : Int))) default).From != ([] : Str))) (some false) (jn ((some true)) (fun J5 => (F_placement_Valid_L1 x1 J5 (((((x1.Parts).length : Nat) : Int)).toNat + 1) ((0 : Int)))))))

set_option maxRecDepth 100000 in
theorem W_placement_Valid {V : View} (x1 : TPlacement) {a2 : Option Addr} {k2 : Nat} (h2 : SlAt cTPart V a2 k2 x1.Parts) {r : Bool} (hF : F_placement_Valid x1 = some r) :
    Spec Try.prog 15 [.agg ⟨[.int .i64 (x1.Version), .slice a2 ((x1.Parts).length) (k2)]⟩] V (fun _ v => v = .bool (r)) := by
  unfold F_placement_Valid at hF
  refine Spec.enter (T := tyT) Try.func15 rfl (by kernel_rfl) rfl rfl rfl ?_
  refine Exec.run tyOk 400 rfl ?_
  obtain ⟨q3, hF⟩ := req_some hF
  obtain ⟨c4, hr4, hd4⟩ := SlAt.gget ((((((decide (x1.Version < (0 : Int))) || (decide ((1099511627776 : Int) < x1.Version))) || (decide ((((x1.Parts).length : Nat) : Int) < (1 : Int)))) || (decide ((16 : Int) < (((x1.Parts).length : Nat) : Int))))) == false) h2 q3
  obtain rfl := hr4
  refine Exec.ia tyOk rfl rfl (fun gg0 => ⟨(q3 (gd1_of gg0)).1, (q3 (gd1_of gg0)).2, (hd4 (gd1_of gg0)).some⟩) ?_
  refine Exec.run tyOk 400 rfl ?_
  refine Exec.ld tyOk (x := .string ⟨⟨(cond ((((((decide (x1.Version < (0 : Int))) || (decide ((1099511627776 : Int) < x1.Version))) || (decide ((((x1.Parts).length : Nat) : Int) < (1 : Int)))) || (decide ((16 : Int) < (((x1.Parts).length : Nat) : Int))))) == false) (atI x1.Parts ((0 : Int))) default).From⟩⟩) rfl rfl (fun gg0 => (RdAt.part (hd4 (gd1_of gg0)) 1 1 rfl)) rfl rfl ?_
  refine Exec.run tyOk 400 rfl ?_
  rcases cond_some hF with ⟨hb, hF⟩ | ⟨hb, hF⟩
  · skip
    refine Exec.ifT rfl hb ?_
    refine Exec.run tyOk 400 rfl ?_
    obtain rfl := some_inj hF
    exact Exec.ret tyOk rfl rfl rfl
  · skip
    refine Exec.ifF rfl hb ?_
    refine Exec.run tyOk 9 rfl ?_
    obtain ⟨J5, hJ5, hF⟩ := jn_some hF
    refine Exec.seam (fun L' V' M' => L' = [] ∧ M' = [] ∧ J5 = some r) rfl ?_ ?_
    · rintro L' V6 M' ⟨rfl, rfl, hF⟩
      subst hJ5
      refine Exec.run tyOk 400 rfl ?_
      obtain rfl := some_inj hF
      exact Exec.ret tyOk rfl rfl rfl
    · skip
      refine Exec.run tyOk 400 rfl ?_
      refine Exec.loop (fun n8 L' V' M' => ∃ (x7 : Int), L' = [(1, .ptr 0 0), (34, .v (.slice a2 ((x1.Parts).length) (k2))), (35, .v (.int .i64 ((((x1.Parts).length : Nat) : Int)))), (36, .v (.int .i64 (x7)))] ∧ M' = [.blk [.v (.int .i64 (x1.Version)), .v (.slice a2 ((x1.Parts).length) (k2))] 24] ∧ SlAt cTPart V' a2 k2 x1.Parts ∧ F_placement_Valid_L1 x1 J5 n8 x7 = some r) ⟨(((((x1.Parts).length : Nat) : Int)).toNat + 1), [(1, .ptr 0 0), (34, .v (.slice a2 ((x1.Parts).length) (k2))), (35, .v (.int .i64 ((((x1.Parts).length : Nat) : Int)))), (36, .v (.int .i64 ((0 : Int))))], ⟨rfl, rfl, rfl, rfl, trivial⟩, (0 : Int), rfl, rfl, h2, hF⟩ ?_
      rintro n8 L' V9 M' ⟨x7, rfl, rfl, h10, hF⟩
      rcases n8 with _ | n8
      · exact absurd hF (by simp [F_placement_Valid_L1])
      rw [F_placement_Valid_L1] at hF
      refine Exec.run tyOk 400 rfl ?_
      rcases cond_some hF with ⟨hb, hF⟩ | ⟨hb, hF⟩
      · skip
        refine Exec.ifT rfl hb ?_
        refine Exec.run tyOk 400 rfl ?_
        obtain ⟨q11, hF⟩ := req_some hF
        obtain ⟨c12, hr12, hd12⟩ := SlAt.get h10 q11
        obtain rfl := hr12
        refine Exec.ia tyOk rfl rfl ⟨q11.1, q11.2, hd12.some⟩ ?_
        refine Exec.run tyOk 400 rfl ?_
        refine Exec.ld tyOk (x := .agg ⟨[.int .i64 ((atI x1.Parts x7).Id), .string ⟨⟨(atI x1.Parts x7).From⟩⟩, .int .i64 ((atI x1.Parts x7).Node), .int .i64 ((atI x1.Parts x7).Dest), .string ⟨⟨(atI x1.Parts x7).Done⟩⟩]⟩) rfl rfl hd12 rfl rfl ?_
        refine Exec.run tyOk 400 rfl ?_
        refine Exec.draws tyOk [(0, true), (1, true), (2, true), (3, true), (4, true), (5, false), (6, false), (7, false), (8, true), (9, true), (10, true), (11, true), (12, false), (13, false), (14, false), (15, false), (16, false), (17, false), (18, false), (19, false)] rfl (by kernel_rfl) ?_
        refine Exec.run tyOk 400 rfl ?_
        obtain ⟨x13, hx13, hF⟩ := bnd_some hF
        refine Exec.callS (.bool (x13)) rfl rfl (fun gg0 => W_placement_bound ((atI x1.Parts x7).From)  (gcall_some hx13 (gd1_of gg0))) ?_
        refine Exec.run tyOk 400 rfl ?_
        obtain ⟨q14, hF⟩ := req_some hF
        obtain ⟨c15, hr15, hd15⟩ := SlAt.gget ((((!x13)) == false) && (((decide ((0 : Int) < x7))) == true)) h10 q14
        obtain rfl := hr15
        refine Exec.ia tyOk rfl rfl (fun gg0 gg1 => ⟨(q14 (gd2_of gg0 gg1)).1, (q14 (gd2_of gg0 gg1)).2, (hd15 (gd2_of gg0 gg1)).some⟩) ?_
        refine Exec.run tyOk 400 rfl ?_
        refine Exec.ld tyOk (x := .string ⟨⟨(cond ((((!x13)) == false) && (((decide ((0 : Int) < x7))) == true)) (atI x1.Parts ((IntKind.i64.wrap (x7 - (1 : Int))))) default).From⟩⟩) rfl rfl (fun gg0 gg1 => (RdAt.part (hd15 (gd2_of gg0 gg1)) 1 1 rfl)) rfl rfl ?_
        refine Exec.run tyOk 400 rfl ?_
        rcases cond_some hF with ⟨hb, hF⟩ | ⟨hb, hF⟩
        · skip
          refine Exec.ifT rfl hb ?_
          refine Exec.run tyOk 400 rfl ?_
          obtain rfl := some_inj hF
          exact Exec.ret tyOk rfl rfl rfl
        · skip
          refine Exec.ifF rfl hb ?_
          refine Exec.run tyOk 400 rfl ?_
          refine Exec.draws tyOk [(0, true), (1, true), (2, false), (3, false), (4, false), (5, false), (6, false), (7, false), (8, false), (9, false), (10, false), (11, true), (12, true), (13, false), (14, false), (15, false), (16, false), (17, false), (18, true), (19, true), (20, true), (21, true), (22, false), (23, false), (24, false), (25, false), (26, false)] rfl (by kernel_rfl) ?_
          refine Exec.run tyOk 400 rfl ?_
          obtain ⟨x16, hx16, hF⟩ := bnd_some hF
          refine Exec.callS (.bool (x16)) rfl rfl (W_placement_number ((atI x1.Parts x7).Id)  hx16) ?_
          refine Exec.run tyOk 400 rfl ?_
          obtain ⟨x17, hx17, hF⟩ := bnd_some hF
          refine Exec.callS (.bool (x17)) rfl rfl (fun gg0 => W_placement_node ((atI x1.Parts x7).Node)  (gcall_some hx17 (gd1_of gg0))) ?_
          refine Exec.run tyOk 400 rfl ?_
          obtain ⟨x18, hx18, hF⟩ := bnd_some hF
          refine Exec.callS (.bool (x18)) rfl rfl (fun gg0 => W_placement_validMove x1.Parts x7 h10 (gcall_some hx18 (gd1_of gg0))) ?_
          refine Exec.run tyOk 400 rfl ?_
          obtain ⟨q19, hF⟩ := req_some hF
          refine Exec.fgslv tyOk (c := cTPart) (g := (((((!x16) || (!x17)) || (!x18))) == false)) rfl rfl rfl (lo := (0 : Int)) (hi := x7) rfl rfl h10 (by simp) rfl (fun gg0 => gd1_of gg0) q19 (fun a20 k20 h20 => ?_)
          refine Exec.run tyOk 400 rfl ?_
          obtain ⟨x21, hx21, hF⟩ := bnd_some hF
          refine Exec.callS (.int .i64 (x21)) rfl rfl (fun gg0 => W_placement_find ((cond ((((((!x16) || (!x17)) || (!x18))) == false)) ((x1.Parts.take (x7).toNat).drop ((0 : Int)).toNat) ([] : List TPart))) ((atI x1.Parts x7).Id) h20 (gcall_some hx21 (gd1_of gg0))) ?_
          refine Exec.run tyOk 400 rfl ?_
          rcases cond_some hF with ⟨hb, hF⟩ | ⟨hb, hF⟩
          · skip
            refine Exec.ifT rfl hb ?_
            refine Exec.run tyOk 400 rfl ?_
            obtain rfl := some_inj hF
            exact Exec.ret tyOk rfl rfl rfl
          · skip
            refine Exec.ifF rfl hb ?_
            refine Exec.run tyOk 400 rfl ?_
            refine Exec.cut 1 [(1, .ptr 0 0), (34, .v (.slice a2 ((x1.Parts).length) (k2))), (35, .v (.int .i64 ((((x1.Parts).length : Nat) : Int)))), (36, .v (.int .i64 ((IntKind.i64.wrap (x7 + (1 : Int))))))] (M' := [.blk [.v (.int .i64 (x1.Version)), .v (.slice a2 ((x1.Parts).length) (k2))] 24]) rfl ⟨rfl, rfl, rfl, rfl, trivial⟩ rfl rfl rfl ?_
            exact Exec.round [(1, .ptr 0 0), (34, .v (.slice a2 ((x1.Parts).length) (k2))), (35, .v (.int .i64 ((((x1.Parts).length : Nat) : Int)))), (36, .v (.int .i64 ((IntKind.i64.wrap (x7 + (1 : Int))))))] ⟨rfl, rfl, rfl, rfl, trivial⟩ ⟨n8, Nat.lt_succ_self _, (IntKind.i64.wrap (x7 + (1 : Int))), rfl, rfl, h10, hF⟩
      · skip
        refine Exec.ifF rfl hb ?_
        refine Exec.run tyOk 400 rfl ?_
        refine Exec.cut 0 [] (M' := []) rfl trivial rfl rfl rfl ?_
        exact Exec.round [] trivial ⟨rfl, rfl, hF⟩

def F_placement_Range (x1 : TPlacement) (x3 : Int) : Option (TRange × Int) :=
  (bnd (F_placement_Valid x1) fun x4 => (cond (!x4) (some ((⟨[], []⟩ : TRange), (1 : Int))) (bnd (F_placement_find x1.Parts x3) fun x5 => (cond (decide (x5 < (0 : Int))) (some ((⟨[], []⟩ : TRange), (9 : Int))) (req (0 ≤ x5 ∧ x5 < ((x1.Parts).length : Int)) (jn (fun (x8 : TRange) => (some (x8, (0 : Int)))) (fun J9 => (cond (decide ((IntKind.i64.wrap (x5 + (1 : Int))) < (((x1.Parts).length : Nat) : Int))) (req (0 ≤ (IntKind.i64.wrap (x5 + (1 : Int))) ∧ (IntKind.i64.wrap (x5 + (1 : Int))) < ((x1.Parts).length : Int)) (J9 ((⟨(atI x1.Parts x5).From, (atI x1.Parts ((IntKind.i64.wrap (x5 + (1 : Int))))).From⟩ : TRange)))) (J9 ((⟨(atI x1.Parts x5).From, []⟩ : TRange)))))))))))

set_option maxRecDepth 100000 in
theorem W_placement_Range {V : View} (x1 : TPlacement) (x3 : Int) {a2 : Option Addr} {k2 : Nat} (h2 : SlAt cTPart V a2 k2 x1.Parts) {r : TRange × Int} (hF : F_placement_Range x1 x3 = some r) :
    Spec Try.prog 18 [.agg ⟨[.int .i64 (x1.Version), .slice a2 ((x1.Parts).length) (k2)]⟩, .int .i64 (x3)] V (fun _ v => v = .tuple ⟨[.agg ⟨[.string ⟨⟨r.1.From⟩⟩, .string ⟨⟨r.1.To⟩⟩]⟩, .int .i64 (r.2)]⟩) := by
  unfold F_placement_Range at hF
  refine Spec.enter (T := tyT) Try.func18 rfl (by kernel_rfl) rfl rfl rfl ?_
  refine Exec.run tyOk 400 rfl ?_
  obtain ⟨x4, hx4, hF⟩ := bnd_some hF
  refine Exec.callS (.bool (x4)) rfl rfl (W_placement_Valid x1 h2 hx4) ?_
  refine Exec.run tyOk 400 rfl ?_
  rcases cond_some hF with ⟨hb, hF⟩ | ⟨hb, hF⟩
  · skip
    refine Exec.ifT rfl hb ?_
    refine Exec.run tyOk 400 rfl ?_
    obtain rfl := some_inj hF
    exact Exec.ret tyOk rfl rfl rfl
  · skip
    refine Exec.ifF rfl hb ?_
    refine Exec.run tyOk 400 rfl ?_
    obtain ⟨x5, hx5, hF⟩ := bnd_some hF
    refine Exec.callS (.int .i64 (x5)) rfl rfl (W_placement_find x1.Parts x3 h2 hx5) ?_
    refine Exec.run tyOk 400 rfl ?_
    rcases cond_some hF with ⟨hb, hF⟩ | ⟨hb, hF⟩
    · skip
      refine Exec.ifT rfl hb ?_
      refine Exec.run tyOk 400 rfl ?_
      obtain rfl := some_inj hF
      exact Exec.ret tyOk rfl rfl rfl
    · skip
      refine Exec.ifF rfl hb ?_
      refine Exec.run tyOk 400 rfl ?_
      obtain ⟨q6, hF⟩ := req_some hF
      obtain ⟨c7, hr7, hd7⟩ := SlAt.get h2 q6
      obtain rfl := hr7
      refine Exec.ia tyOk rfl rfl ⟨q6.1, q6.2, hd7.some⟩ ?_
      refine Exec.run tyOk 400 rfl ?_
      refine Exec.ld tyOk (x := .string ⟨⟨(atI x1.Parts x5).From⟩⟩) rfl rfl (RdAt.part hd7 1 1 rfl) rfl rfl ?_
      refine Exec.run tyOk 400 rfl ?_
      obtain ⟨J9, hJ9, hF⟩ := jn_some hF
      refine Exec.seam (fun L' V' M' => ∃ (x8 : TRange), L' = [(4, .ptr 1 0), (7, .ptr 2 0)] ∧ M' = [.blk [.v (.int .i64 (x1.Version)), .v (.slice a2 ((x1.Parts).length) (k2))] 24, .blk [.v (.string ⟨⟨[]⟩⟩), .v (.string ⟨⟨[]⟩⟩)] 33, .blk [.v (.string ⟨⟨x8.From⟩⟩), .v (.string ⟨⟨x8.To⟩⟩)] 33] ∧ SlAt cTPart V' a2 k2 x1.Parts ∧ J9 x8 = some r) rfl ?_ ?_
      · rintro L' V10 M' ⟨x8, rfl, rfl, h11, hF⟩
        subst hJ9
        refine Exec.run tyOk 400 rfl ?_
        obtain rfl := some_inj hF
        exact Exec.ret tyOk rfl rfl rfl
      · skip
        refine Exec.run tyOk 400 rfl ?_
        rcases cond_some hF with ⟨hb, hF⟩ | ⟨hb, hF⟩
        · skip
          refine Exec.ifT rfl hb ?_
          refine Exec.run tyOk 400 rfl ?_
          obtain ⟨q12, hF⟩ := req_some hF
          obtain ⟨c13, hr13, hd13⟩ := SlAt.get h2 q12
          obtain rfl := hr13
          refine Exec.ia tyOk rfl rfl ⟨q12.1, q12.2, hd13.some⟩ ?_
          refine Exec.run tyOk 400 rfl ?_
          refine Exec.ld tyOk (x := .string ⟨⟨(atI x1.Parts ((IntKind.i64.wrap (x5 + (1 : Int))))).From⟩⟩) rfl rfl (RdAt.part hd13 1 1 rfl) rfl rfl ?_
          refine Exec.run tyOk 400 rfl ?_
          exact Exec.round [(4, .ptr 1 0), (7, .ptr 2 0)] ⟨rfl, rfl, trivial⟩ ⟨(⟨(atI x1.Parts x5).From, (atI x1.Parts ((IntKind.i64.wrap (x5 + (1 : Int))))).From⟩ : TRange), rfl, rfl, h2, hF⟩
        · skip
          refine Exec.ifF rfl hb ?_
          refine Exec.run tyOk 400 rfl ?_
          exact Exec.round [(4, .ptr 1 0), (7, .ptr 2 0)] ⟨rfl, rfl, trivial⟩ ⟨(⟨(atI x1.Parts x5).From, []⟩ : TRange), rfl, rfl, h2, hF⟩

def F_placement_Index_L2 (x3 : Str) (x1 : TPlacement) (x9 : Int) (J6 : Int → Option Int) (J14 : Int → Option Int) : Nat → Int → Int → Option Int
  | 0, _, _ => none
  | n21 + 1, x19, x20 => (req (((((decide (x20 < ((x3).length : Int)))) == true) && (((x20 == (((atI x1.Parts x9).From).length : Int))) == false)) = true → 0 ≤ x20 ∧ x20 < (((atI x1.Parts x9).From).length : Int)) (req (((((decide (x20 < ((x3).length : Int)))) == true) && (((x20 == (((atI x1.Parts x9).From).length : Int))) == false)) = true → 0 ≤ x20 ∧ x20 < ((x3).length : Int)) (cond ((x20 == (((atI x1.Parts x9).From).length : Int)) || ((decide (x20 < ((x3).length : Int))) && (decide ((byteAt ((atI x1.Parts x9).From) (x20).toNat) < (byteAt x3 (x20).toNat))))) (J6 x9) (req ((((x20 == ((x3).length : Int))) == false) = true → 0 ≤ x20 ∧ x20 < (((atI x1.Parts x9).From).length : Int)) (req ((((x20 == ((x3).length : Int))) == false) = true → 0 ≤ x20 ∧ x20 < ((x3).length : Int)) (cond ((x20 == ((x3).length : Int)) || (decide ((byteAt x3 (x20).toNat) < (byteAt ((atI x1.Parts x9).From) (x20).toNat)))) (J14 x19) (F_placement_Index_L2 x3 x1 x9 J6 J14 n21 x19 ((IntKind.i64.wrap (x20 + (1 : Int)))))))))))

def F_placement_Index_L1 (x1 : TPlacement) (x3 : Str) (J6 : Int → Option Int) : Nat → Int → Int → Option Int
  | 0, _, _ => none
  | n10 + 1, x8, x9 => (cond (decide ((0 : Int) < x9)) (jn (fun (x13 : Int) => (F_placement_Index_L1 x1 x3 J6 n10 x13 ((IntKind.i64.wrap (x9 - (1 : Int)))))) (fun J14 => (req (0 ≤ x9 ∧ x9 < ((x1.Parts).length : Int)) (F_placement_Index_L2 x3 x1 x9 J6 J14 (1000000 : Nat) x8 ((0 : Int)))))) (J6 x8))

def F_placement_Index (x1 : TPlacement) (x3 : Str) : Option Int :=
  (bnd (F_placement_Valid x1) fun x4 => (cond (!x4) (some (-1 : Int)) (jn (fun (x5 : Int) => (some x5)) (fun J6 => (F_placement_Index_L1 x1 x3 J6 (((IntKind.i64.wrap ((((x1.Parts).length : Nat) : Int) - (1 : Int)))).toNat + 1) ((0 : Int)) ((IntKind.i64.wrap ((((x1.Parts).length : Nat) : Int) - (1 : Int)))))))))

set_option maxRecDepth 100000 in
theorem W_placement_Index {V : View} (x1 : TPlacement) (x3 : Str) {a2 : Option Addr} {k2 : Nat} (h2 : SlAt cTPart V a2 k2 x1.Parts) {r : Int} (hF : F_placement_Index x1 x3 = some r) :
    Spec Try.prog 20 [.agg ⟨[.int .i64 (x1.Version), .slice a2 ((x1.Parts).length) (k2)]⟩, .string ⟨⟨x3⟩⟩] V (fun _ v => v = .int .i64 (r)) := by
  unfold F_placement_Index at hF
  refine Spec.enter (T := tyT) Try.func20 rfl (by kernel_rfl) rfl rfl rfl ?_
  refine Exec.run tyOk 400 rfl ?_
  refine Exec.scope ?_
  refine Exec.run tyOk 400 rfl ?_
  obtain ⟨x4, hx4, hF⟩ := bnd_some hF
  refine Exec.callS (.bool (x4)) rfl rfl (W_placement_Valid x1 h2 hx4) ?_
  refine Exec.run tyOk 400 rfl ?_
  rcases cond_some hF with ⟨hb, hF⟩ | ⟨hb, hF⟩
  · skip
    refine Exec.ifT rfl hb ?_
    refine Exec.run tyOk 400 rfl ?_
    obtain rfl := some_inj hF
    exact Exec.ret tyOk rfl rfl rfl
  · skip
    refine Exec.ifF rfl hb ?_
    refine Exec.run tyOk 16 rfl ?_
    obtain ⟨J6, hJ6, hF⟩ := jn_some hF
    refine Exec.seam (fun L' V' M' => ∃ (x5 : Int), L' = [(5, .v (.int .i64 (x5)))] ∧ M' = [] ∧ J6 x5 = some r) rfl ?_ ?_
    · rintro L' V7 M' ⟨x5, rfl, rfl, hF⟩
      subst hJ6
      refine Exec.run tyOk 400 rfl ?_
      obtain rfl := some_inj hF
      exact Exec.ret tyOk rfl rfl rfl
    · skip
      refine Exec.run tyOk 400 rfl ?_
      refine Exec.loop (fun n10 L' V' M' => ∃ (x8 : Int) (x9 : Int), L' = [(1, .v (.string ⟨⟨x3⟩⟩)), (2, .ptr 0 0), (5, .v (.int .i64 (x8))), (6, .v (.int .i64 (x9)))] ∧ M' = [.blk [.v (.int .i64 (x1.Version)), .v (.slice a2 ((x1.Parts).length) (k2))] 24] ∧ SlAt cTPart V' a2 k2 x1.Parts ∧ F_placement_Index_L1 x1 x3 J6 n10 x8 x9 = some r) ⟨(((IntKind.i64.wrap ((((x1.Parts).length : Nat) : Int) - (1 : Int)))).toNat + 1), [(1, .v (.string ⟨⟨x3⟩⟩)), (2, .ptr 0 0), (5, .v (.int .i64 ((0 : Int)))), (6, .v (.int .i64 ((IntKind.i64.wrap ((((x1.Parts).length : Nat) : Int) - (1 : Int))))))], ⟨rfl, rfl, rfl, rfl, trivial⟩, (0 : Int), (IntKind.i64.wrap ((((x1.Parts).length : Nat) : Int) - (1 : Int))), rfl, rfl, h2, hF⟩ ?_
      rintro n10 L' V11 M' ⟨x8, x9, rfl, rfl, h12, hF⟩
      rcases n10 with _ | n10
      · exact absurd hF (by simp [F_placement_Index_L1])
      rw [F_placement_Index_L1] at hF
      refine Exec.run tyOk 400 rfl ?_
      rcases cond_some hF with ⟨hb, hF⟩ | ⟨hb, hF⟩
      · skip
        refine Exec.ifT rfl hb ?_
        refine Exec.run tyOk 2 rfl ?_
        obtain ⟨J14, hJ14, hF⟩ := jn_some hF
        refine Exec.seam (fun L' V' M' => ∃ (x13 : Int), L' = [(1, .v (.string ⟨⟨x3⟩⟩)), (2, .ptr 0 0), (5, .v (.int .i64 (x13))), (6, .v (.int .i64 (x9)))] ∧ M' = [.blk [.v (.int .i64 (x1.Version)), .v (.slice a2 ((x1.Parts).length) (k2))] 24] ∧ SlAt cTPart V' a2 k2 x1.Parts ∧ J14 x13 = some r) rfl ?_ ?_
        · rintro L' V15 M' ⟨x13, rfl, rfl, h16, hF⟩
          subst hJ14
          refine Exec.run tyOk 400 rfl ?_
          exact Exec.round [(1, .v (.string ⟨⟨x3⟩⟩)), (2, .ptr 0 0), (5, .v (.int .i64 (x13))), (6, .v (.int .i64 ((IntKind.i64.wrap (x9 - (1 : Int))))))] ⟨rfl, rfl, rfl, rfl, trivial⟩ ⟨n10, Nat.lt_succ_self _, x13, (IntKind.i64.wrap (x9 - (1 : Int))), rfl, rfl, h16, hF⟩
        · skip
          refine Exec.run tyOk 400 rfl ?_
          obtain ⟨q17, hF⟩ := req_some hF
          obtain ⟨c18, hr18, hd18⟩ := SlAt.get h12 q17
          obtain rfl := hr18
          refine Exec.ia tyOk rfl rfl ⟨q17.1, q17.2, hd18.some⟩ ?_
          refine Exec.run tyOk 400 rfl ?_
          refine Exec.ld tyOk (x := .string ⟨⟨(atI x1.Parts x9).From⟩⟩) rfl rfl (RdAt.part hd18 1 1 rfl) rfl rfl ?_
          refine Exec.run tyOk 400 rfl ?_
          refine Exec.loop (fun n21 L' V' M' => ∃ (x19 : Int) (x20 : Int), L' = [(1, .v (.string ⟨⟨x3⟩⟩)), (2, .ptr 0 0), (5, .v (.int .i64 (x19))), (6, .v (.int .i64 (x9))), (7, .v (.string ⟨⟨(atI x1.Parts x9).From⟩⟩)), (8, .v (.int .i64 (x20)))] ∧ M' = [.blk [.v (.int .i64 (x1.Version)), .v (.slice a2 ((x1.Parts).length) (k2))] 24] ∧ SlAt cTPart V' a2 k2 x1.Parts ∧ F_placement_Index_L2 x3 x1 x9 J6 J14 n21 x19 x20 = some r) ⟨(1000000 : Nat), [(1, .v (.string ⟨⟨x3⟩⟩)), (2, .ptr 0 0), (5, .v (.int .i64 (x8))), (6, .v (.int .i64 (x9))), (7, .v (.string ⟨⟨(atI x1.Parts x9).From⟩⟩)), (8, .v (.int .i64 ((0 : Int))))], ⟨rfl, rfl, rfl, rfl, rfl, rfl, trivial⟩, x8, (0 : Int), rfl, rfl, h12, hF⟩ ?_
          rintro n21 L' V22 M' ⟨x19, x20, rfl, rfl, h23, hF⟩
          rcases n21 with _ | n21
          · exact absurd hF (by simp [F_placement_Index_L2])
          rw [F_placement_Index_L2] at hF
          refine Exec.run tyOk 400 rfl ?_
          refine Exec.draws tyOk [(0, true), (1, true), (2, true), (3, true), (4, true), (5, true), (6, true), (7, true), (8, true), (9, true), (10, true), (11, true), (12, true), (13, true), (14, true), (15, true), (16, true), (17, true), (18, true), (19, true)] rfl (by kernel_rfl) ?_
          refine Exec.run tyOk 400 rfl ?_
          obtain ⟨q24, hF⟩ := req_some hF
          refine Exec.fidx tyOk rfl rfl rfl (fun gg0 gg1 => q24 (gd2_of gg0 gg1)) ?_
          refine Exec.run tyOk 400 rfl ?_
          obtain ⟨q25, hF⟩ := req_some hF
          refine Exec.fidx tyOk rfl rfl rfl (fun gg0 gg1 => q25 (gd2_of gg0 gg1)) ?_
          refine Exec.run tyOk 400 rfl ?_
          rcases cond_some hF with ⟨hb, hF⟩ | ⟨hb, hF⟩
          · skip
            refine Exec.ifT rfl hb ?_
            refine Exec.run tyOk 400 rfl ?_
            refine Exec.cut 0 [(5, .v (.int .i64 (x9)))] (M' := []) rfl ⟨rfl, trivial⟩ rfl rfl rfl ?_
            exact Exec.round [(5, .v (.int .i64 (x9)))] ⟨rfl, trivial⟩ ⟨x9, rfl, rfl, hF⟩
          · skip
            refine Exec.ifF rfl hb ?_
            refine Exec.run tyOk 400 rfl ?_
            refine Exec.draws tyOk [(0, true), (1, true), (2, true), (3, true), (4, true), (5, true), (6, true), (7, true), (8, true), (9, true), (10, true), (11, true), (12, true), (13, true)] rfl (by kernel_rfl) ?_
            refine Exec.run tyOk 400 rfl ?_
            obtain ⟨q26, hF⟩ := req_some hF
            refine Exec.fidx tyOk rfl rfl rfl (fun gg0 => q26 (gd1_of gg0)) ?_
            refine Exec.run tyOk 400 rfl ?_
            obtain ⟨q27, hF⟩ := req_some hF
            refine Exec.fidx tyOk rfl rfl rfl (fun gg0 => q27 (gd1_of gg0)) ?_
            refine Exec.run tyOk 400 rfl ?_
            rcases cond_some hF with ⟨hb, hF⟩ | ⟨hb, hF⟩
            · skip
              refine Exec.ifT rfl hb ?_
              refine Exec.run tyOk 400 rfl ?_
              exact Exec.round [(1, .v (.string ⟨⟨x3⟩⟩)), (2, .ptr 0 0), (5, .v (.int .i64 (x19))), (6, .v (.int .i64 (x9)))] ⟨rfl, rfl, rfl, rfl, trivial⟩ ⟨x19, rfl, rfl, h23, hF⟩
            · skip
              refine Exec.ifF rfl hb ?_
              refine Exec.run tyOk 400 rfl ?_
              exact Exec.round [(1, .v (.string ⟨⟨x3⟩⟩)), (2, .ptr 0 0), (5, .v (.int .i64 (x19))), (6, .v (.int .i64 (x9))), (7, .v (.string ⟨⟨(atI x1.Parts x9).From⟩⟩)), (8, .v (.int .i64 ((IntKind.i64.wrap (x20 + (1 : Int))))))] ⟨rfl, rfl, rfl, rfl, rfl, rfl, trivial⟩ ⟨n21, Nat.lt_succ_self _, x19, (IntKind.i64.wrap (x20 + (1 : Int))), rfl, rfl, h23, hF⟩
      · skip
        refine Exec.ifF rfl hb ?_
        refine Exec.run tyOk 400 rfl ?_
        refine Exec.cut 0 [(5, .v (.int .i64 (x8)))] (M' := []) rfl ⟨rfl, trivial⟩ rfl rfl rfl ?_
        exact Exec.round [(5, .v (.int .i64 (x8)))] ⟨rfl, trivial⟩ ⟨x8, rfl, rfl, hF⟩

def F_placement_Owner (x1 : TPlacement) (x3 : Str) : Option Int :=
  (bnd (F_placement_Index x1 x3) fun x4 => (cond (decide (x4 < (0 : Int))) (some (0 : Int)) (req (0 ≤ x4 ∧ x4 < ((x1.Parts).length : Int)) (cond (((atI x1.Parts x4).Dest != (0 : Int)) && (sLt x3 (atI x1.Parts x4).Done)) (some (atI x1.Parts x4).Dest) (some (atI x1.Parts x4).Node)))))

set_option maxRecDepth 100000 in
theorem W_placement_Owner {V : View} (x1 : TPlacement) (x3 : Str) {a2 : Option Addr} {k2 : Nat} (h2 : SlAt cTPart V a2 k2 x1.Parts) {r : Int} (hF : F_placement_Owner x1 x3 = some r) :
    Spec Try.prog 22 [.agg ⟨[.int .i64 (x1.Version), .slice a2 ((x1.Parts).length) (k2)]⟩, .string ⟨⟨x3⟩⟩] V (fun _ v => v = .int .i64 (r)) := by
  unfold F_placement_Owner at hF
  refine Spec.enter (T := tyT) Try.func22 rfl (by kernel_rfl) rfl rfl rfl ?_
  refine Exec.run tyOk 400 rfl ?_
  obtain ⟨x4, hx4, hF⟩ := bnd_some hF
  refine Exec.callS (.int .i64 (x4)) rfl rfl (W_placement_Index x1 x3 h2 hx4) ?_
  refine Exec.run tyOk 400 rfl ?_
  rcases cond_some hF with ⟨hb, hF⟩ | ⟨hb, hF⟩
  · skip
    refine Exec.ifT rfl hb ?_
    refine Exec.run tyOk 400 rfl ?_
    obtain rfl := some_inj hF
    exact Exec.ret tyOk rfl rfl rfl
  · skip
    refine Exec.ifF rfl hb ?_
    refine Exec.run tyOk 400 rfl ?_
    obtain ⟨q5, hF⟩ := req_some hF
    obtain ⟨c6, hr6, hd6⟩ := SlAt.get h2 q5
    obtain rfl := hr6
    refine Exec.ia tyOk rfl rfl ⟨q5.1, q5.2, hd6.some⟩ ?_
    refine Exec.run tyOk 400 rfl ?_
    refine Exec.ld tyOk (x := .agg ⟨[.int .i64 ((atI x1.Parts x4).Id), .string ⟨⟨(atI x1.Parts x4).From⟩⟩, .int .i64 ((atI x1.Parts x4).Node), .int .i64 ((atI x1.Parts x4).Dest), .string ⟨⟨(atI x1.Parts x4).Done⟩⟩]⟩) rfl rfl hd6 rfl rfl ?_
    refine Exec.run tyOk 400 rfl ?_
    rcases cond_some hF with ⟨hb, hF⟩ | ⟨hb, hF⟩
    · skip
      refine Exec.ifT rfl hb ?_
      refine Exec.run tyOk 400 rfl ?_
      obtain rfl := some_inj hF
      exact Exec.ret tyOk rfl rfl rfl
    · skip
      refine Exec.ifF rfl hb ?_
      refine Exec.run tyOk 400 rfl ?_
      obtain rfl := some_inj hF
      exact Exec.ret tyOk rfl rfl rfl

def F_placement_Nodes_L1 (x1 : TPlacement) (J7 : (List Int) → Option (List Int)) : Nat → (List Int) → Int → Option (List Int)
  | 0, _, _ => none
  | n18 + 1, x16, x17 => (cond (decide (x17 < (((x1.Parts).length : Nat) : Int))) (req (0 ≤ x17 ∧ x17 < ((x1.Parts).length : Int)) (req (((x16 ++ [(atI x1.Parts x17).Node])).length * 8 ≤ 140737488355328) (jn (fun (x26 : List Int) => (F_placement_Nodes_L1 x1 J7 n18 x26 ((IntKind.i64.wrap (x17 + (1 : Int)))))) (fun J27 => (cond ((atI x1.Parts x17).Dest != (0 : Int)) (req ((((x16 ++ [(atI x1.Parts x17).Node]) ++ [(atI x1.Parts x17).Dest])).length * 8 ≤ 140737488355328) (J27 (((x16 ++ [(atI x1.Parts x17).Node]) ++ [(atI x1.Parts x17).Dest])))) (J27 ((x16 ++ [(atI x1.Parts x17).Node])))))))) (J7 x16))

def F_placement_Nodes (x1 : TPlacement) : Option (List Int) :=
  (bnd (F_placement_Valid x1) fun x3 => (cond (!x3) (some ([] : List Int)) (jn (fun (x6 : List Int) => (req ((x6).length < 4611686018427387904) (some (compactL (sortL x6))))) (fun J7 => (F_placement_Nodes_L1 x1 J7 (((((x1.Parts).length : Nat) : Int)).toNat + 1) (([] : List Int)) ((0 : Int)))))))

set_option maxRecDepth 100000 in
theorem W_placement_Nodes {V : View} (x1 : TPlacement) {a2 : Option Addr} {k2 : Nat} (h2 : SlAt cTPart V a2 k2 x1.Parts) {r : List Int} (hF : F_placement_Nodes x1 = some r) :
    Spec Try.prog 25 [.agg ⟨[.int .i64 (x1.Version), .slice a2 ((x1.Parts).length) (k2)]⟩] V (fun V' v => ∃ (a32 : Option Addr) (k32 : Nat), v = .slice a32 ((r).length) (k32) ∧ SlAt (cInt .i64) V' a32 k32 r) := by
  unfold F_placement_Nodes at hF
  refine Spec.enter (T := tyT) Try.func25 rfl (by kernel_rfl) rfl rfl rfl ?_
  refine Exec.run tyOk 400 rfl ?_
  obtain ⟨x3, hx3, hF⟩ := bnd_some hF
  refine Exec.callS (.bool (x3)) rfl rfl (W_placement_Valid x1 h2 hx3) ?_
  refine Exec.run tyOk 400 rfl ?_
  rcases cond_some hF with ⟨hb, hF⟩ | ⟨hb, hF⟩
  · skip
    refine Exec.ifT rfl hb ?_
    refine Exec.run tyOk 400 rfl ?_
    obtain rfl := some_inj hF
    exact Exec.ret tyOk rfl rfl ⟨_, _, rfl, SlAt.nil⟩
  · skip
    refine Exec.ifF rfl hb ?_
    refine Exec.run tyOk 13 rfl ?_
    refine Exec.row0 3 1 rfl ?_
    have h4 : RowRep (cInt .i64) V ([] : List Int) [] := RowRep.nil
    obtain ⟨J7, hJ7, hF⟩ := jn_some hF
    refine Exec.seam (fun L' V' M' => ∃ (x6 : List Int) (a5 : Option Addr) (k5 : Nat) (cs5 : List Value), L' = [(3, .v (.slice a5 ((x6).length) (k5)))] ∧ M' = [.blk [.v (.int .i64 (x1.Version)), .v (.slice a2 ((x1.Parts).length) (k2))] 24, .row (.slice a5 ((x6).length) (k5)) cs5 3 1] ∧ RowRep (cInt .i64) V' x6 cs5 ∧ SlAt cTPart V' a2 k2 x1.Parts ∧ J7 x6 = some r) rfl ?_ ?_
    · rintro L' V8 M' ⟨x6, a5, k5, cs5, rfl, rfl, h5, h9, hF⟩
      subst hJ7
      refine Exec.run tyOk 400 rfl ?_
      obtain ⟨q11, hF⟩ := req_some hF
      refine Exec.callM 1 rfl rfl rfl rfl (sortI_row h5 (fun cs e => by subst e; exact (sortI_specM ⟨_, rfl, by kernel_rfl, by kernel_rfl⟩ Try.slices_Sort_int Try.slices_Sort_int_none q11))) ?_
      rintro VV10 _ _ _ ⟨rfl, hVV, rfl⟩
      have hVV := hVV.symm
      subst hVV
      refine ⟨_, rfl, ?_⟩
      have h10 : RowRep (cInt .i64) V8 (sortL x6) ((sortL x6).map (Value.int .i64)) := RowRep.ofInts _
      refine Exec.run tyOk 400 rfl ?_
      refine Exec.callM 1 rfl rfl rfl rfl (compactI_row h10 (fun cs e => by subst e; exact (compactI_specM ⟨_, rfl, by kernel_rfl, by kernel_rfl⟩ Try.slices_Compact_int Try.slices_Compact_int_empty))) ?_
      rintro VV12 _ _ _ ⟨rfl, hVV, rfl⟩
      have hVV := hVV.symm
      subst hVV
      refine ⟨_, rfl, ?_⟩
      have h12 : RowRep (cInt .i64) V8 (compactL (sortL x6)) ((compactL (sortL x6)).map (Value.int .i64)) := RowRep.ofInts _
      refine Exec.run tyOk 400 rfl ?_
      refine Exec.frz 1 rfl rfl rfl (fun V13 hv13 hd13 hn13 => ?_)
      have hz13 := RowRep.slat h12 hv13 hd13 hn13
      have h14 := SlAt.mono h9 hv13
      obtain rfl := some_inj hF
      exact Exec.ret tyOk rfl rfl ⟨_, _, rfl, hz13⟩
    · skip
      refine Exec.run tyOk 400 rfl ?_
      refine Exec.loop (fun n18 L' V' M' => ∃ (x16 : List Int) (a15 : Option Addr) (k15 : Nat) (cs15 : List Value) (x17 : Int), L' = [(3, .v (.slice a15 ((x16).length) (k15))), (10, .v (.slice a2 ((x1.Parts).length) (k2))), (11, .v (.int .i64 ((((x1.Parts).length : Nat) : Int)))), (12, .v (.int .i64 (x17)))] ∧ M' = [.blk [.v (.int .i64 (x1.Version)), .v (.slice a2 ((x1.Parts).length) (k2))] 24, .row (.slice a15 ((x16).length) (k15)) cs15 3 1] ∧ RowRep (cInt .i64) V' x16 cs15 ∧ SlAt cTPart V' a2 k2 x1.Parts ∧ F_placement_Nodes_L1 x1 J7 n18 x16 x17 = some r) ⟨(((((x1.Parts).length : Nat) : Int)).toNat + 1), [(3, .v (.slice none ((([] : List Int)).length) (0))), (10, .v (.slice a2 ((x1.Parts).length) (k2))), (11, .v (.int .i64 ((((x1.Parts).length : Nat) : Int)))), (12, .v (.int .i64 ((0 : Int))))], ⟨rfl, rfl, rfl, rfl, trivial⟩, ([] : List Int), none, 0, [], (0 : Int), rfl, rfl, h4, h2, hF⟩ ?_
      rintro n18 L' V19 M' ⟨x16, a15, k15, cs15, x17, rfl, rfl, h15, h20, hF⟩
      rcases n18 with _ | n18
      · exact absurd hF (by simp [F_placement_Nodes_L1])
      rw [F_placement_Nodes_L1] at hF
      refine Exec.run tyOk 400 rfl ?_
      rcases cond_some hF with ⟨hb, hF⟩ | ⟨hb, hF⟩
      · skip
        refine Exec.ifT rfl hb ?_
        refine Exec.run tyOk 400 rfl ?_
        obtain ⟨q21, hF⟩ := req_some hF
        obtain ⟨c22, hr22, hd22⟩ := SlAt.get h20 q21
        obtain rfl := hr22
        refine Exec.ia tyOk rfl rfl ⟨q21.1, q21.2, hd22.some⟩ ?_
        refine Exec.run tyOk 400 rfl ?_
        refine Exec.ld tyOk (x := .agg ⟨[.int .i64 ((atI x1.Parts x17).Id), .string ⟨⟨(atI x1.Parts x17).From⟩⟩, .int .i64 ((atI x1.Parts x17).Node), .int .i64 ((atI x1.Parts x17).Dest), .string ⟨⟨(atI x1.Parts x17).Done⟩⟩]⟩) rfl rfl hd22 rfl rfl ?_
        refine Exec.run tyOk 400 rfl ?_
        refine Exec.bsl tyOk rfl rfl ?_
        refine Exec.run tyOk 400 rfl ?_
        obtain ⟨q24, hF⟩ := req_some hF
        refine Exec.app tyOk 1 3 (nm := ((x16 ++ [(atI x1.Parts x17).Node])).length) rfl rfl rfl rfl rfl rfl rfl rfl rfl (by simp) (fun _ _ => rfl) rfl q24 (fun a23 k23 => ?_)
        have h23 : RowRep (cInt .i64) V19 (x16 ++ [(atI x1.Parts x17).Node]) (cs15 ++ [.int .i64 ((atI x1.Parts x17).Node)]) := RowRep.app h15 ⟨_, _, rfl, rfl, rfl⟩
        refine Exec.run tyOk 400 rfl ?_
        obtain ⟨J27, hJ27, hF⟩ := jn_some hF
        refine Exec.seam (fun L' V' M' => ∃ (x26 : List Int) (a25 : Option Addr) (k25 : Nat) (cs25 : List Value), L' = [(3, .v (.slice a25 ((x26).length) (k25))), (10, .v (.slice a2 ((x1.Parts).length) (k2))), (11, .v (.int .i64 ((((x1.Parts).length : Nat) : Int)))), (12, .v (.int .i64 (x17)))] ∧ M' = [.blk [.v (.int .i64 (x1.Version)), .v (.slice a2 ((x1.Parts).length) (k2))] 24, .row (.slice a25 ((x26).length) (k25)) cs25 3 1] ∧ RowRep (cInt .i64) V' x26 cs25 ∧ SlAt cTPart V' a2 k2 x1.Parts ∧ J27 x26 = some r) rfl ?_ ?_
        · rintro L' V28 M' ⟨x26, a25, k25, cs25, rfl, rfl, h25, h29, hF⟩
          subst hJ27
          refine Exec.run tyOk 400 rfl ?_
          exact Exec.round [(3, .v (.slice a25 ((x26).length) (k25))), (10, .v (.slice a2 ((x1.Parts).length) (k2))), (11, .v (.int .i64 ((((x1.Parts).length : Nat) : Int)))), (12, .v (.int .i64 ((IntKind.i64.wrap (x17 + (1 : Int))))))] ⟨rfl, rfl, rfl, rfl, trivial⟩ ⟨n18, Nat.lt_succ_self _, x26, a25, k25, cs25, (IntKind.i64.wrap (x17 + (1 : Int))), rfl, rfl, h25, h29, hF⟩
        · skip
          refine Exec.run tyOk 400 rfl ?_
          rcases cond_some hF with ⟨hb, hF⟩ | ⟨hb, hF⟩
          · skip
            refine Exec.ifT rfl hb ?_
            refine Exec.run tyOk 400 rfl ?_
            refine Exec.bsl tyOk rfl rfl ?_
            refine Exec.run tyOk 400 rfl ?_
            obtain ⟨q31, hF⟩ := req_some hF
            refine Exec.app tyOk 1 4 (nm := (((x16 ++ [(atI x1.Parts x17).Node]) ++ [(atI x1.Parts x17).Dest])).length) rfl rfl rfl rfl rfl rfl rfl rfl rfl (by simp) (fun _ _ => rfl) rfl q31 (fun a30 k30 => ?_)
            have h30 : RowRep (cInt .i64) V19 ((x16 ++ [(atI x1.Parts x17).Node]) ++ [(atI x1.Parts x17).Dest]) ((cs15 ++ [.int .i64 ((atI x1.Parts x17).Node)]) ++ [.int .i64 ((atI x1.Parts x17).Dest)]) := RowRep.app h23 ⟨_, _, rfl, rfl, rfl⟩
            refine Exec.run tyOk 400 rfl ?_
            refine Exec.cut 2 [(3, .v (.slice a30 ((((x16 ++ [(atI x1.Parts x17).Node]) ++ [(atI x1.Parts x17).Dest])).length) (k30))), (10, .v (.slice a2 ((x1.Parts).length) (k2))), (11, .v (.int .i64 ((((x1.Parts).length : Nat) : Int)))), (12, .v (.int .i64 (x17)))] (M' := [.blk [.v (.int .i64 (x1.Version)), .v (.slice a2 ((x1.Parts).length) (k2))] 24, .row (.slice a30 ((((x16 ++ [(atI x1.Parts x17).Node]) ++ [(atI x1.Parts x17).Dest])).length) (k30)) (((cs15 ++ [.int .i64 ((atI x1.Parts x17).Node)]) ++ [.int .i64 ((atI x1.Parts x17).Dest)])) 3 1]) rfl ⟨rfl, rfl, rfl, rfl, trivial⟩ rfl rfl rfl ?_
            exact Exec.round [(3, .v (.slice a30 ((((x16 ++ [(atI x1.Parts x17).Node]) ++ [(atI x1.Parts x17).Dest])).length) (k30))), (10, .v (.slice a2 ((x1.Parts).length) (k2))), (11, .v (.int .i64 ((((x1.Parts).length : Nat) : Int)))), (12, .v (.int .i64 (x17)))] ⟨rfl, rfl, rfl, rfl, trivial⟩ ⟨((x16 ++ [(atI x1.Parts x17).Node]) ++ [(atI x1.Parts x17).Dest]), a30, k30, ((cs15 ++ [.int .i64 ((atI x1.Parts x17).Node)]) ++ [.int .i64 ((atI x1.Parts x17).Dest)]), rfl, rfl, h30, h20, hF⟩
          · skip
            refine Exec.ifF rfl hb ?_
            refine Exec.run tyOk 400 rfl ?_
            refine Exec.cut 2 [(3, .v (.slice a23 (((x16 ++ [(atI x1.Parts x17).Node])).length) (k23))), (10, .v (.slice a2 ((x1.Parts).length) (k2))), (11, .v (.int .i64 ((((x1.Parts).length : Nat) : Int)))), (12, .v (.int .i64 (x17)))] (M' := [.blk [.v (.int .i64 (x1.Version)), .v (.slice a2 ((x1.Parts).length) (k2))] 24, .row (.slice a23 (((x16 ++ [(atI x1.Parts x17).Node])).length) (k23)) ((cs15 ++ [.int .i64 ((atI x1.Parts x17).Node)])) 3 1]) rfl ⟨rfl, rfl, rfl, rfl, trivial⟩ rfl rfl rfl ?_
            exact Exec.round [(3, .v (.slice a23 (((x16 ++ [(atI x1.Parts x17).Node])).length) (k23))), (10, .v (.slice a2 ((x1.Parts).length) (k2))), (11, .v (.int .i64 ((((x1.Parts).length : Nat) : Int)))), (12, .v (.int .i64 (x17)))] ⟨rfl, rfl, rfl, rfl, trivial⟩ ⟨(x16 ++ [(atI x1.Parts x17).Node]), a23, k23, (cs15 ++ [.int .i64 ((atI x1.Parts x17).Node)]), rfl, rfl, h23, h20, hF⟩
      · skip
        refine Exec.ifF rfl hb ?_
        refine Exec.run tyOk 400 rfl ?_
        exact Exec.round [(3, .v (.slice a15 ((x16).length) (k15)))] ⟨rfl, trivial⟩ ⟨x16, a15, k15, cs15, rfl, rfl, h15, h20, hF⟩

def F_placement_Split (x1 : TPlacement) (x3 : Int) (x4 : Str) (x5 : Int) : Option (TPlacement × Int) :=
  (bnd (F_placement_Valid x1) fun x6 => (cond (!x6) (some ((⟨0, ([] : List TPart)⟩ : TPlacement), (1 : Int))) (bnd (F_placement_find x1.Parts x3) fun x7 => (cond (decide (x7 < (0 : Int))) (some ((⟨0, ([] : List TPart)⟩ : TPlacement), (9 : Int))) (req (0 ≤ x7 ∧ x7 < ((x1.Parts).length : Int)) (req ((((((IntKind.i64.wrap (x7 + (1 : Int))) == (((x1.Parts).length : Nat) : Int))) == false) && (((sLt (atI x1.Parts x7).From x4)) == true)) = true → 0 ≤ (IntKind.i64.wrap (x7 + (1 : Int))) ∧ (IntKind.i64.wrap (x7 + (1 : Int))) < ((x1.Parts).length : Int)) (cond ((atI x1.Parts x7).Dest != (0 : Int)) (some ((⟨0, ([] : List TPart)⟩ : TPlacement), (19 : Int))) (bnd (F_placement_bound x4) fun x12 => (bnd (gcall ((((!x12) || (!((sLt (atI x1.Parts x7).From x4) && (((IntKind.i64.wrap (x7 + (1 : Int))) == (((x1.Parts).length : Nat) : Int)) || (sLt x4 (cond (((((IntKind.i64.wrap (x7 + (1 : Int))) == (((x1.Parts).length : Nat) : Int))) == false) && (((sLt (atI x1.Parts x7).From x4)) == true)) (atI x1.Parts ((IntKind.i64.wrap (x7 + (1 : Int))))) default).From)))))) == false) (F_placement_number x5)) fun x13 => (cond (((!x12) || (!((sLt (atI x1.Parts x7).From x4) && (((IntKind.i64.wrap (x7 + (1 : Int))) == (((x1.Parts).length : Nat) : Int)) || (sLt x4 (cond (((((IntKind.i64.wrap (x7 + (1 : Int))) == (((x1.Parts).length : Nat) : Int))) == false) && (((sLt (atI x1.Parts x7).From x4)) == true)) (atI x1.Parts ((IntKind.i64.wrap (x7 + (1 : Int))))) default).From))))) || (!x13)) (some ((⟨0, ([] : List TPart)⟩ : TPlacement), (1 : Int))) (bnd (F_placement_find x1.Parts x5) fun x14 => (cond (decide ((0 : Int) ≤ x14)) (some ((⟨0, ([] : List TPart)⟩ : TPlacement), (8 : Int))) (cond (((((x1.Parts).length : Nat) : Int) == (16 : Int)) || (x1.Version == (1099511627776 : Int))) (some ((⟨0, ([] : List TPart)⟩ : TPlacement), (2 : Int))) (req ((x1.Parts).length * 56 ≤ 140737488355328) (req (0 ≤ (IntKind.i64.wrap (x7 + (1 : Int))) ∧ (IntKind.i64.wrap (x7 + (1 : Int))) ≤ ((x1.Parts).length : Int)) (req (((x1.Parts).length + 1) * 56 ≤ 140737488355328) (some ((⟨(IntKind.i64.wrap (x1.Version + (1 : Int))), ((x1.Parts).take ((IntKind.i64.wrap (x7 + (1 : Int)))).toNat ++ [(⟨x5, x4, (atI x1.Parts x7).Node, 0, []⟩ : TPart)] ++ (x1.Parts).drop ((IntKind.i64.wrap (x7 + (1 : Int)))).toNat)⟩ : TPlacement), (0 : Int)))))))))))))))))))

set_option maxRecDepth 100000 in
theorem W_placement_Split {V : View} (x1 : TPlacement) (x3 : Int) (x4 : Str) (x5 : Int) {a2 : Option Addr} {k2 : Nat} (h2 : SlAt cTPart V a2 k2 x1.Parts) {r : TPlacement × Int} (hF : F_placement_Split x1 x3 x4 x5 = some r) :
    Spec Try.prog 27 [.agg ⟨[.int .i64 (x1.Version), .slice a2 ((x1.Parts).length) (k2)]⟩, .int .i64 (x3), .string ⟨⟨x4⟩⟩, .int .i64 (x5)] V (fun V' v => ∃ (a35 : Option Addr) (k35 : Nat), v = .tuple ⟨[.agg ⟨[.int .i64 (r.1.Version), .slice a35 ((r.1.Parts).length) (k35)]⟩, .int .i64 (r.2)]⟩ ∧ SlAt cTPart V' a35 k35 r.1.Parts) := by
  unfold F_placement_Split at hF
  refine Spec.enter (T := tyT) Try.func27 rfl (by kernel_rfl) rfl rfl rfl ?_
  refine Exec.run tyOk 400 rfl ?_
  obtain ⟨x6, hx6, hF⟩ := bnd_some hF
  refine Exec.callS (.bool (x6)) rfl rfl (W_placement_Valid x1 h2 hx6) ?_
  refine Exec.run tyOk 400 rfl ?_
  rcases cond_some hF with ⟨hb, hF⟩ | ⟨hb, hF⟩
  · skip
    refine Exec.ifT rfl hb ?_
    refine Exec.run tyOk 400 rfl ?_
    obtain rfl := some_inj hF
    exact Exec.ret tyOk rfl rfl ⟨_, _, rfl, SlAt.nil⟩
  · skip
    refine Exec.ifF rfl hb ?_
    refine Exec.run tyOk 400 rfl ?_
    obtain ⟨x7, hx7, hF⟩ := bnd_some hF
    refine Exec.callS (.int .i64 (x7)) rfl rfl (W_placement_find x1.Parts x3 h2 hx7) ?_
    refine Exec.run tyOk 400 rfl ?_
    rcases cond_some hF with ⟨hb, hF⟩ | ⟨hb, hF⟩
    · skip
      refine Exec.ifT rfl hb ?_
      refine Exec.run tyOk 400 rfl ?_
      obtain rfl := some_inj hF
      exact Exec.ret tyOk rfl rfl ⟨_, _, rfl, SlAt.nil⟩
    · skip
      refine Exec.ifF rfl hb ?_
      refine Exec.run tyOk 400 rfl ?_
      obtain ⟨q8, hF⟩ := req_some hF
      obtain ⟨c9, hr9, hd9⟩ := SlAt.get h2 q8
      obtain rfl := hr9
      refine Exec.ia tyOk rfl rfl ⟨q8.1, q8.2, hd9.some⟩ ?_
      refine Exec.run tyOk 400 rfl ?_
      refine Exec.ld tyOk (x := .agg ⟨[.int .i64 ((atI x1.Parts x7).Id), .string ⟨⟨(atI x1.Parts x7).From⟩⟩, .int .i64 ((atI x1.Parts x7).Node), .int .i64 ((atI x1.Parts x7).Dest), .string ⟨⟨(atI x1.Parts x7).Done⟩⟩]⟩) rfl rfl hd9 rfl rfl ?_
      refine Exec.run tyOk 400 rfl ?_
      obtain ⟨q10, hF⟩ := req_some hF
      obtain ⟨c11, hr11, hd11⟩ := SlAt.gget (((((IntKind.i64.wrap (x7 + (1 : Int))) == (((x1.Parts).length : Nat) : Int))) == false) && (((sLt (atI x1.Parts x7).From x4)) == true)) h2 q10
      obtain rfl := hr11
      refine Exec.ia tyOk rfl rfl (fun gg0 gg1 => ⟨(q10 (gd2_of gg0 gg1)).1, (q10 (gd2_of gg0 gg1)).2, (hd11 (gd2_of gg0 gg1)).some⟩) ?_
      refine Exec.run tyOk 400 rfl ?_
      refine Exec.ld tyOk (x := .string ⟨⟨(cond (((((IntKind.i64.wrap (x7 + (1 : Int))) == (((x1.Parts).length : Nat) : Int))) == false) && (((sLt (atI x1.Parts x7).From x4)) == true)) (atI x1.Parts ((IntKind.i64.wrap (x7 + (1 : Int))))) default).From⟩⟩) rfl rfl (fun gg0 gg1 => (RdAt.part (hd11 (gd2_of gg0 gg1)) 1 1 rfl)) rfl rfl ?_
      refine Exec.run tyOk 400 rfl ?_
      rcases cond_some hF with ⟨hb, hF⟩ | ⟨hb, hF⟩
      · skip
        refine Exec.ifT rfl hb ?_
        refine Exec.run tyOk 400 rfl ?_
        obtain rfl := some_inj hF
        exact Exec.ret tyOk rfl rfl ⟨_, _, rfl, SlAt.nil⟩
      · skip
        refine Exec.ifF rfl hb ?_
        refine Exec.run tyOk 400 rfl ?_
        obtain ⟨x12, hx12, hF⟩ := bnd_some hF
        refine Exec.callS (.bool (x12)) rfl rfl (W_placement_bound x4  hx12) ?_
        refine Exec.run tyOk 400 rfl ?_
        obtain ⟨x13, hx13, hF⟩ := bnd_some hF
        refine Exec.callS (.bool (x13)) rfl rfl (fun gg0 => W_placement_number x5  (gcall_some hx13 (gd1_of gg0))) ?_
        refine Exec.run tyOk 400 rfl ?_
        rcases cond_some hF with ⟨hb, hF⟩ | ⟨hb, hF⟩
        · skip
          refine Exec.ifT rfl hb ?_
          refine Exec.run tyOk 400 rfl ?_
          obtain rfl := some_inj hF
          exact Exec.ret tyOk rfl rfl ⟨_, _, rfl, SlAt.nil⟩
        · skip
          refine Exec.ifF rfl hb ?_
          refine Exec.run tyOk 400 rfl ?_
          obtain ⟨x14, hx14, hF⟩ := bnd_some hF
          refine Exec.callS (.int .i64 (x14)) rfl rfl (W_placement_find x1.Parts x5 h2 hx14) ?_
          refine Exec.run tyOk 400 rfl ?_
          rcases cond_some hF with ⟨hb, hF⟩ | ⟨hb, hF⟩
          · skip
            refine Exec.ifT rfl hb ?_
            refine Exec.run tyOk 400 rfl ?_
            obtain rfl := some_inj hF
            exact Exec.ret tyOk rfl rfl ⟨_, _, rfl, SlAt.nil⟩
          · skip
            refine Exec.ifF rfl hb ?_
            refine Exec.run tyOk 400 rfl ?_
            rcases cond_some hF with ⟨hb, hF⟩ | ⟨hb, hF⟩
            · skip
              refine Exec.ifT rfl hb ?_
              refine Exec.run tyOk 400 rfl ?_
              obtain rfl := some_inj hF
              exact Exec.ret tyOk rfl rfl ⟨_, _, rfl, SlAt.nil⟩
            · skip
              refine Exec.ifF rfl hb ?_
              refine Exec.run tyOk 400 rfl ?_
              refine Exec.draws tyOk [(0, true), (1, true), (3, true), (4, true), (5, true), (6, true), (7, true), (8, true), (9, true)] rfl (by kernel_rfl) ?_
              refine Exec.run tyOk 400 rfl ?_
              obtain ⟨q15, hF⟩ := req_some hF
              refine Exec.fork 2 10 [(10, false)] [(2, false)] [(11, false), (12, false)] (fun lr' L' V' M' => ∃ (a16 : Option Addr) (k16 : Nat) (cs16 : List Value), lr' = [] ∧ L' = [(4, .ptr 0 0), (8, .ptr 1 0), (92, .v (.slice a16 ((x1.Parts).length) (k16))), (94, .v (.int .i64 ((IntKind.i64.wrap (x7 + (1 : Int)))))), (100, .slc 4 0 1 1)] ∧ M' = [.blk [.v (.int .i64 (x1.Version)), .v (.slice a2 ((x1.Parts).length) (k2))] 24, .blk [.v (.int .i64 (0)), .v (.slice none (0) (0))] 24, .blk [.v (.int .i64 ((atI x1.Parts x7).Id)), .v (.string ⟨⟨(atI x1.Parts x7).From⟩⟩), .v (.int .i64 ((atI x1.Parts x7).Node)), .v (.int .i64 ((atI x1.Parts x7).Dest)), .v (.string ⟨⟨(atI x1.Parts x7).Done⟩⟩)] 49, .row (.slice a16 ((x1.Parts).length) (k16)) cs16 49 5, .blk [.v (.int .i64 (x5)), .v (.string ⟨⟨x4⟩⟩), .v (.int .i64 ((atI x1.Parts x7).Node)), .v (.int .i64 (0)), .v (.string ⟨⟨[]⟩⟩)] 49] ∧ SlAt cTPart V' a2 k2 x1.Parts ∧ RowRep cTPart V' x1.Parts cs16) 2 [true, true, true, true, true, true, true, true, true, true, true, false, false] rfl (by kernel_rfl) rfl rfl (by kernel_rfl) (by kernel_rfl) (by kernel_rfl) (by kernel_rfl) (fun join => ?_) (fun join => ?_) ?_
              · skip
                refine Exec.run tyOk 400 rfl ?_
                refine Exec.row0 49 5 rfl ?_
                refine Exec.callM 3 rfl rfl rfl rfl (W_slices_Clone_api_Part_api_Part x1.Parts h2 q15) ?_
                rintro VV19 _ _ hv19 ⟨a19, k19, cs19, rfl, rfl, h19⟩
                refine ⟨_, rfl, ?_⟩
                have h20 := SlAt.mono h2 hv19
                refine Exec.run tyOk 400 rfl ?_
                refine Exec.bsl tyOk rfl rfl ?_
                refine Exec.run tyOk 400 rfl ?_
                exact join [0, 1, 2, 3, 4] (lr' := []) (L' := [(4, .ptr 0 0), (8, .ptr 1 0), (92, .v (.slice a19 ((x1.Parts).length) (k19))), (94, .v (.int .i64 ((IntKind.i64.wrap (x7 + (1 : Int)))))), (100, .slc 4 0 1 1)]) rfl rfl rfl rfl ⟨⟨_, rfl, rfl⟩, ⟨_, rfl, rfl⟩, ⟨_, rfl, rfl⟩, ⟨_, rfl, rfl⟩, ⟨_, rfl, rfl⟩, trivial⟩ trivial ⟨_, _, _, rfl, rfl, rfl, h20, h19⟩
              · skip
                refine Exec.run tyOk 400 rfl ?_
                refine Exec.bsl tyOk rfl rfl ?_
                refine Exec.run tyOk 400 rfl ?_
                refine Exec.row0 49 5 rfl ?_
                refine Exec.callM 4 rfl rfl rfl rfl (W_slices_Clone_api_Part_api_Part x1.Parts h2 q15) ?_
                rintro VV22 _ _ hv22 ⟨a22, k22, cs22, rfl, rfl, h22⟩
                refine ⟨_, rfl, ?_⟩
                have h23 := SlAt.mono h2 hv22
                refine Exec.run tyOk 400 rfl ?_
                exact join [0, 1, 2, 4, 3] (lr' := []) (L' := [(4, .ptr 0 0), (8, .ptr 1 0), (92, .v (.slice a22 ((x1.Parts).length) (k22))), (94, .v (.int .i64 ((IntKind.i64.wrap (x7 + (1 : Int)))))), (100, .slc 4 0 1 1)]) rfl rfl rfl rfl ⟨⟨_, rfl, rfl⟩, ⟨_, rfl, rfl⟩, ⟨_, rfl, rfl⟩, ⟨_, rfl, rfl⟩, ⟨_, rfl, rfl⟩, trivial⟩ trivial ⟨_, _, _, rfl, rfl, rfl, h23, h22⟩
              rintro lr' L' VV25 M' ⟨a16, k16, cs16, rfl, rfl, rfl, h26, h27⟩
              refine Exec.run tyOk 400 rfl ?_
              refine Exec.fixR 4 (n := 1) (sz := 5) rfl rfl rfl rfl rfl (fun _ => rfl) (fun _ => rfl) (fun _ => rfl) (fun b28 => ?_)
              obtain ⟨q29, hF⟩ := req_some hF
              obtain ⟨q30, hF⟩ := req_some hF
              have hy31 : RowRep cTPart VV25 [(⟨x5, x4, (atI x1.Parts x7).Node, 0, []⟩ : TPart)] [.int .i64 (x5), .string ⟨⟨x4⟩⟩, .int .i64 ((atI x1.Parts x7).Node), .int .i64 (0), .string ⟨⟨[]⟩⟩] := ⟨_, _, rfl, rfl, rfl⟩
              refine Exec.callR [3, 4] rfl rfl rfl (by rfl) rfl rfl (W_slices_Insert_api_Part_api_Part x1.Parts ((⟨x5, x4, (atI x1.Parts x7).Node, 0, []⟩ : TPart)) h27 hy31 q29 q30) ?_
              rintro VV31 _ _ hv31 ⟨a31, k31, cs31, r31, rfl, rfl, h31⟩
              refine ⟨_, rfl, ?_⟩
              have h32 := SlAt.mono h26 hv31
              refine Exec.run tyOk 400 rfl ?_
              refine Exec.frz 3 rfl rfl rfl (fun V33 hv33 hd33 hn33 => ?_)
              have hz33 := RowRep.slat h31 hv33 hd33 hn33
              have h34 := SlAt.mono h32 hv33
              obtain rfl := some_inj hF
              exact Exec.ret tyOk rfl rfl ⟨_, _, rfl, hz33⟩

def F_placement_Merge (x1 : TPlacement) (x3 : Int) : Option (TPlacement × Int) :=
  (bnd (F_placement_Valid x1) fun x4 => (cond (!x4) (some ((⟨0, ([] : List TPart)⟩ : TPlacement), (1 : Int))) (bnd (F_placement_find x1.Parts x3) fun x5 => (cond ((decide (x5 < (0 : Int))) || ((IntKind.i64.wrap (x5 + (1 : Int))) == (((x1.Parts).length : Nat) : Int))) (some ((⟨0, ([] : List TPart)⟩ : TPlacement), (9 : Int))) (req (0 ≤ x5 ∧ x5 < ((x1.Parts).length : Int)) (req (0 ≤ (IntKind.i64.wrap (x5 + (1 : Int))) ∧ (IntKind.i64.wrap (x5 + (1 : Int))) < ((x1.Parts).length : Int)) (cond ((((atI x1.Parts x5).Dest != (0 : Int)) || ((atI x1.Parts ((IntKind.i64.wrap (x5 + (1 : Int))))).Dest != (0 : Int))) || ((atI x1.Parts x5).Node != (atI x1.Parts ((IntKind.i64.wrap (x5 + (1 : Int))))).Node)) (some ((⟨0, ([] : List TPart)⟩ : TPlacement), (19 : Int))) (cond (x1.Version == (1099511627776 : Int)) (some ((⟨0, ([] : List TPart)⟩ : TPlacement), (2 : Int))) (req ((x1.Parts).length * 56 ≤ 140737488355328) (req (0 ≤ (IntKind.i64.wrap (x5 + (1 : Int))) ∧ (IntKind.i64.wrap (x5 + (1 : Int))) ≤ (IntKind.i64.wrap (x5 + (2 : Int))) ∧ (IntKind.i64.wrap (x5 + (2 : Int))) ≤ ((x1.Parts).length : Int)) (req ((x1.Parts).length < 9223372036854775808) (some ((⟨(IntKind.i64.wrap (x1.Version + (1 : Int))), ((x1.Parts).take ((IntKind.i64.wrap (x5 + (1 : Int)))).toNat ++ (x1.Parts).drop ((IntKind.i64.wrap (x5 + (2 : Int)))).toNat)⟩ : TPlacement), (0 : Int))))))))))))))

set_option maxRecDepth 100000 in
theorem W_placement_Merge {V : View} (x1 : TPlacement) (x3 : Int) {a2 : Option Addr} {k2 : Nat} (h2 : SlAt cTPart V a2 k2 x1.Parts) {r : TPlacement × Int} (hF : F_placement_Merge x1 x3 = some r) :
    Spec Try.prog 29 [.agg ⟨[.int .i64 (x1.Version), .slice a2 ((x1.Parts).length) (k2)]⟩, .int .i64 (x3)] V (fun V' v => ∃ (a21 : Option Addr) (k21 : Nat), v = .tuple ⟨[.agg ⟨[.int .i64 (r.1.Version), .slice a21 ((r.1.Parts).length) (k21)]⟩, .int .i64 (r.2)]⟩ ∧ SlAt cTPart V' a21 k21 r.1.Parts) := by
  unfold F_placement_Merge at hF
  refine Spec.enter (T := tyT) Try.func29 rfl (by kernel_rfl) rfl rfl rfl ?_
  refine Exec.run tyOk 400 rfl ?_
  obtain ⟨x4, hx4, hF⟩ := bnd_some hF
  refine Exec.callS (.bool (x4)) rfl rfl (W_placement_Valid x1 h2 hx4) ?_
  refine Exec.run tyOk 400 rfl ?_
  rcases cond_some hF with ⟨hb, hF⟩ | ⟨hb, hF⟩
  · skip
    refine Exec.ifT rfl hb ?_
    refine Exec.run tyOk 400 rfl ?_
    obtain rfl := some_inj hF
    exact Exec.ret tyOk rfl rfl ⟨_, _, rfl, SlAt.nil⟩
  · skip
    refine Exec.ifF rfl hb ?_
    refine Exec.run tyOk 400 rfl ?_
    obtain ⟨x5, hx5, hF⟩ := bnd_some hF
    refine Exec.callS (.int .i64 (x5)) rfl rfl (W_placement_find x1.Parts x3 h2 hx5) ?_
    refine Exec.run tyOk 400 rfl ?_
    rcases cond_some hF with ⟨hb, hF⟩ | ⟨hb, hF⟩
    · skip
      refine Exec.ifT rfl hb ?_
      refine Exec.run tyOk 400 rfl ?_
      obtain rfl := some_inj hF
      exact Exec.ret tyOk rfl rfl ⟨_, _, rfl, SlAt.nil⟩
    · skip
      refine Exec.ifF rfl hb ?_
      refine Exec.run tyOk 400 rfl ?_
      refine Exec.drawsE tyOk [14] [] [(0, true), (1, true), (2, true), (3, true), (4, true), (5, true), (6, true), (7, true), (8, true), (9, true), (10, true)] (by kernel_rfl) ?_
      refine Exec.run tyOk 400 rfl ?_
      obtain ⟨q6, hF⟩ := req_some hF
      obtain ⟨c7, hr7, hd7⟩ := SlAt.get h2 q6
      obtain rfl := hr7
      refine Exec.fia tyOk rfl rfl rfl ⟨q6.1, q6.2, hd7.some⟩ ?_
      refine Exec.run tyOk 400 rfl ?_
      refine Exec.fld tyOk (x := .agg ⟨[.int .i64 ((atI x1.Parts x5).Id), .string ⟨⟨(atI x1.Parts x5).From⟩⟩, .int .i64 ((atI x1.Parts x5).Node), .int .i64 ((atI x1.Parts x5).Dest), .string ⟨⟨(atI x1.Parts x5).Done⟩⟩]⟩) rfl rfl rfl hd7 rfl rfl ?_
      refine Exec.run tyOk 400 rfl ?_
      obtain ⟨q8, hF⟩ := req_some hF
      obtain ⟨c9, hr9, hd9⟩ := SlAt.get h2 q8
      obtain rfl := hr9
      refine Exec.fia tyOk rfl rfl rfl ⟨q8.1, q8.2, hd9.some⟩ ?_
      refine Exec.run tyOk 400 rfl ?_
      refine Exec.fld tyOk (x := .agg ⟨[.int .i64 ((atI x1.Parts ((IntKind.i64.wrap (x5 + (1 : Int))))).Id), .string ⟨⟨(atI x1.Parts ((IntKind.i64.wrap (x5 + (1 : Int))))).From⟩⟩, .int .i64 ((atI x1.Parts ((IntKind.i64.wrap (x5 + (1 : Int))))).Node), .int .i64 ((atI x1.Parts ((IntKind.i64.wrap (x5 + (1 : Int))))).Dest), .string ⟨⟨(atI x1.Parts ((IntKind.i64.wrap (x5 + (1 : Int))))).Done⟩⟩]⟩) rfl rfl rfl hd9 rfl rfl ?_
      refine Exec.run tyOk 400 rfl ?_
      refine Exec.fork 11 12 [(12, false)] [(11, false)] [(13, false), (14, false)] (fun lr' L' V' M' => lr' = [] ∧ L' = [(2, .ptr 0 0), (4, .ptr 1 0), (6, .v (.int .i64 (x5))), (7, .ptr 2 0), (8, .ptr 3 0), (32, .v (.agg ⟨[.int .i64 ((atI x1.Parts x5).Id), .string ⟨⟨(atI x1.Parts x5).From⟩⟩, .int .i64 ((atI x1.Parts x5).Node), .int .i64 ((atI x1.Parts x5).Dest), .string ⟨⟨(atI x1.Parts x5).Done⟩⟩]⟩)), (38, .v (.agg ⟨[.int .i64 ((atI x1.Parts ((IntKind.i64.wrap (x5 + (1 : Int))))).Id), .string ⟨⟨(atI x1.Parts ((IntKind.i64.wrap (x5 + (1 : Int))))).From⟩⟩, .int .i64 ((atI x1.Parts ((IntKind.i64.wrap (x5 + (1 : Int))))).Node), .int .i64 ((atI x1.Parts ((IntKind.i64.wrap (x5 + (1 : Int))))).Dest), .string ⟨⟨(atI x1.Parts ((IntKind.i64.wrap (x5 + (1 : Int))))).Done⟩⟩]⟩))] ∧ M' = [.blk [.v (.int .i64 (x1.Version)), .v (.slice a2 ((x1.Parts).length) (k2))] 24, .blk [.v (.int .i64 (0)), .v (.slice none (0) (0))] 24, .blk [.v (.int .i64 (0)), .v (.string ⟨⟨[]⟩⟩), .v (.int .i64 (0)), .v (.int .i64 (0)), .v (.string ⟨⟨[]⟩⟩)] 49, .blk [.v (.int .i64 (0)), .v (.string ⟨⟨[]⟩⟩), .v (.int .i64 (0)), .v (.int .i64 (0)), .v (.string ⟨⟨[]⟩⟩)] 49] ∧ SlAt cTPart V' a2 k2 x1.Parts) 2 [true, true, true, true, true, true, true, true, true, true, true, true, true, false, false] rfl (by kernel_rfl) rfl rfl (by kernel_rfl) (by kernel_rfl) (by kernel_rfl) (by kernel_rfl) (fun join => ?_) (fun join => ?_) ?_
      · skip
        refine Exec.run tyOk 400 rfl ?_
        exact join [0, 1, 2, 3] (lr' := []) (L' := [(2, .ptr 0 0), (4, .ptr 1 0), (6, .v (.int .i64 (x5))), (7, .ptr 2 0), (8, .ptr 3 0), (32, .v (.agg ⟨[.int .i64 ((atI x1.Parts x5).Id), .string ⟨⟨(atI x1.Parts x5).From⟩⟩, .int .i64 ((atI x1.Parts x5).Node), .int .i64 ((atI x1.Parts x5).Dest), .string ⟨⟨(atI x1.Parts x5).Done⟩⟩]⟩)), (38, .v (.agg ⟨[.int .i64 ((atI x1.Parts ((IntKind.i64.wrap (x5 + (1 : Int))))).Id), .string ⟨⟨(atI x1.Parts ((IntKind.i64.wrap (x5 + (1 : Int))))).From⟩⟩, .int .i64 ((atI x1.Parts ((IntKind.i64.wrap (x5 + (1 : Int))))).Node), .int .i64 ((atI x1.Parts ((IntKind.i64.wrap (x5 + (1 : Int))))).Dest), .string ⟨⟨(atI x1.Parts ((IntKind.i64.wrap (x5 + (1 : Int))))).Done⟩⟩]⟩))]) rfl rfl rfl rfl ⟨⟨_, rfl, rfl⟩, ⟨_, rfl, rfl⟩, ⟨_, rfl, rfl⟩, ⟨_, rfl, rfl⟩, ⟨_, rfl, rfl⟩, ⟨_, rfl, rfl⟩, ⟨_, rfl, rfl⟩, trivial⟩ trivial ⟨rfl, rfl, rfl, h2⟩
      · skip
        refine Exec.run tyOk 400 rfl ?_
        exact join [0, 1, 3, 2] (lr' := []) (L' := [(2, .ptr 0 0), (4, .ptr 1 0), (6, .v (.int .i64 (x5))), (7, .ptr 2 0), (8, .ptr 3 0), (32, .v (.agg ⟨[.int .i64 ((atI x1.Parts x5).Id), .string ⟨⟨(atI x1.Parts x5).From⟩⟩, .int .i64 ((atI x1.Parts x5).Node), .int .i64 ((atI x1.Parts x5).Dest), .string ⟨⟨(atI x1.Parts x5).Done⟩⟩]⟩)), (38, .v (.agg ⟨[.int .i64 ((atI x1.Parts ((IntKind.i64.wrap (x5 + (1 : Int))))).Id), .string ⟨⟨(atI x1.Parts ((IntKind.i64.wrap (x5 + (1 : Int))))).From⟩⟩, .int .i64 ((atI x1.Parts ((IntKind.i64.wrap (x5 + (1 : Int))))).Node), .int .i64 ((atI x1.Parts ((IntKind.i64.wrap (x5 + (1 : Int))))).Dest), .string ⟨⟨(atI x1.Parts ((IntKind.i64.wrap (x5 + (1 : Int))))).Done⟩⟩]⟩))]) rfl rfl rfl rfl ⟨⟨_, rfl, rfl⟩, ⟨_, rfl, rfl⟩, ⟨_, rfl, rfl⟩, ⟨_, rfl, rfl⟩, ⟨_, rfl, rfl⟩, ⟨_, rfl, rfl⟩, ⟨_, rfl, rfl⟩, trivial⟩ trivial ⟨rfl, rfl, rfl, h2⟩
      rintro lr' L' VV10 M' ⟨rfl, rfl, rfl, h11⟩
      refine Exec.run tyOk 400 rfl ?_
      rcases cond_some hF with ⟨hb, hF⟩ | ⟨hb, hF⟩
      · skip
        refine Exec.ifT rfl hb ?_
        refine Exec.run tyOk 400 rfl ?_
        obtain rfl := some_inj hF
        exact Exec.ret tyOk rfl rfl ⟨_, _, rfl, SlAt.nil⟩
      · skip
        refine Exec.ifF rfl hb ?_
        refine Exec.run tyOk 400 rfl ?_
        rcases cond_some hF with ⟨hb, hF⟩ | ⟨hb, hF⟩
        · skip
          refine Exec.ifT rfl hb ?_
          refine Exec.run tyOk 400 rfl ?_
          obtain rfl := some_inj hF
          exact Exec.ret tyOk rfl rfl ⟨_, _, rfl, SlAt.nil⟩
        · skip
          refine Exec.ifF rfl hb ?_
          refine Exec.run tyOk 400 rfl ?_
          refine Exec.draws tyOk [(0, true), (1, true), (2, true), (3, true), (4, true), (6, true), (7, true), (8, true), (9, true), (5, false), (10, false), (11, false), (12, false), (13, false)] rfl (by kernel_rfl) ?_
          refine Exec.run tyOk 400 rfl ?_
          obtain ⟨q12, hF⟩ := req_some hF
          refine Exec.row0 49 5 rfl ?_
          refine Exec.callM 4 rfl rfl rfl rfl (W_slices_Clone_api_Part_api_Part x1.Parts h11 q12) ?_
          rintro VV13 _ _ hv13 ⟨a13, k13, cs13, rfl, rfl, h13⟩
          refine ⟨_, rfl, ?_⟩
          have h14 := SlAt.mono h11 hv13
          refine Exec.run tyOk 400 rfl ?_
          obtain ⟨q15, hF⟩ := req_some hF
          obtain ⟨q16, hF⟩ := req_some hF
          refine Exec.callM 4 rfl rfl rfl rfl (W_slices_Delete_api_Part_api_Part x1.Parts h13 q15 q16) ?_
          rintro VV17 _ _ hv17 ⟨cs17, rfl, rfl, h17⟩
          refine ⟨_, rfl, ?_⟩
          have h18 := SlAt.mono h14 hv17
          refine Exec.run tyOk 400 rfl ?_
          refine Exec.frz 4 rfl rfl rfl (fun V19 hv19 hd19 hn19 => ?_)
          have hz19 := RowRep.slat h17 hv19 hd19 hn19
          have h20 := SlAt.mono h18 hv19
          obtain rfl := some_inj hF
          exact Exec.ret tyOk rfl rfl ⟨_, _, rfl, hz19⟩

def F_clockworkref29_Decode_L1 (x4 : Int × Int × Int) (x1 : Str) (J13 : Int → (List TPart) → (List TPart) → Int → Option (TPlacement × Int × Int)) : Nat → Int → (List TPart) → (List TPart) → Int → Int → Option (TPlacement × Int × Int)
  | 0, _, _, _, _, _ => none
  | n25 + 1, x18, x20, x22, x23, x24 => (cond (decide (x24 < x4.1)) (bnd (F_clockworkref29_takePart x1 x23) fun x27 => (cond (x27.2.2 != (0 : Int)) (some ((⟨0, ([] : List TPart)⟩ : TPlacement), (0 : Int), x27.2.2)) (req (((x22 ++ [x27.1])).length * 56 ≤ 140737488355328) (F_clockworkref29_Decode_L1 x4 x1 J13 n25 x18 x20 ((x22 ++ [x27.1])) x27.2.1 ((IntKind.i64.wrap (x24 + (1 : Int)))))))) (J13 x18 x20 x22 x23))

def F_clockworkref29_Decode (x1 : Str) (x2 : Int) : Option (TPlacement × Int × Int) :=
  (bnd (F_clockworkref02_TakeInt x1 x2) fun x3 => (cond (x3.2.2 != (0 : Int)) (some ((⟨0, ([] : List TPart)⟩ : TPlacement), (0 : Int), x3.2.2)) (bnd (F_clockworkref02_TakeCount x1 x3.2.1 ((16 : Int))) fun x4 => (cond (x4.2.2 != (0 : Int)) (some ((⟨0, ([] : List TPart)⟩ : TPlacement), (0 : Int), x4.2.2)) (jn (fun (x7 : Int) (x9 : List TPart) (x11 : List TPart) (x12 : Int) => (bnd (F_clockworkref29_Valid ((⟨x3.1, x11⟩ : TPlacement))) fun x15 => (cond (!x15) (some ((⟨0, ([] : List TPart)⟩ : TPlacement), (0 : Int), (5 : Int))) (some ((⟨x3.1, x11⟩ : TPlacement), x12, (0 : Int)))))) (fun J13 => (F_clockworkref29_Decode_L1 x4 x1 J13 ((x4.1).toNat + 1) 0 (([] : List TPart)) (([] : List TPart)) x4.2.1 ((0 : Int)))))))))

set_option maxRecDepth 100000 in
theorem W_clockworkref29_Decode {V : View} (x1 : Str) (x2 : Int)   {r : TPlacement × Int × Int} (hF : F_clockworkref29_Decode x1 x2 = some r) :
    Spec Try.prog 33 [.string ⟨⟨x1⟩⟩, .int .i64 (x2)] V (fun V' v => ∃ (a30 : Option Addr) (k30 : Nat), v = .tuple ⟨[.agg ⟨[.int .i64 (r.1.Version), .slice a30 ((r.1.Parts).length) (k30)]⟩, .int .i64 (r.2.1), .int .i64 (r.2.2)]⟩ ∧ SlAt cTPart V' a30 k30 r.1.Parts) := by
  unfold F_clockworkref29_Decode at hF
  refine Spec.enter (T := tyT) Try.func33 rfl (by kernel_rfl) rfl rfl rfl ?_
  refine Exec.run tyOk 400 rfl ?_
  obtain ⟨x3, hx3, hF⟩ := bnd_some hF
  refine Exec.callS (.tuple ⟨[.int .i64 (x3.1), .int .i64 (x3.2.1), .int .i64 (x3.2.2)]⟩) rfl rfl (W_clockworkref02_TakeInt x1 x2  hx3) ?_
  refine Exec.run tyOk 400 rfl ?_
  rcases cond_some hF with ⟨hb, hF⟩ | ⟨hb, hF⟩
  · skip
    refine Exec.ifT rfl hb ?_
    refine Exec.run tyOk 400 rfl ?_
    obtain rfl := some_inj hF
    exact Exec.ret tyOk rfl rfl ⟨_, _, rfl, SlAt.nil⟩
  · skip
    refine Exec.ifF rfl hb ?_
    refine Exec.run tyOk 400 rfl ?_
    obtain ⟨x4, hx4, hF⟩ := bnd_some hF
    refine Exec.callS (.tuple ⟨[.int .i64 (x4.1), .int .i64 (x4.2.1), .int .i64 (x4.2.2)]⟩) rfl rfl (W_clockworkref02_TakeCount x1 x3.2.1 ((16 : Int))  hx4) ?_
    refine Exec.run tyOk 400 rfl ?_
    rcases cond_some hF with ⟨hb, hF⟩ | ⟨hb, hF⟩
    · skip
      refine Exec.ifT rfl hb ?_
      refine Exec.run tyOk 400 rfl ?_
      obtain rfl := some_inj hF
      exact Exec.ret tyOk rfl rfl ⟨_, _, rfl, SlAt.nil⟩
    · skip
      refine Exec.ifF rfl hb ?_
      refine Exec.run tyOk 13 rfl ?_
      refine Exec.row0 49 5 rfl ?_
      have h5 : RowRep cTPart V ([] : List TPart) [] := RowRep.nil
      refine Exec.row0 49 5 rfl ?_
      have h6 : RowRep cTPart V ([] : List TPart) [] := RowRep.nil
      obtain ⟨J13, hJ13, hF⟩ := jn_some hF
      refine Exec.seam (fun L' V' M' => ∃ (x7 : Int) (x9 : List TPart) (a8 : Option Addr) (k8 : Nat) (cs8 : List Value) (x11 : List TPart) (a10 : Option Addr) (k10 : Nat) (cs10 : List Value) (x12 : Int), L' = [(1, .v (.int .i64 (x12))), (4, .ptr 0 0), (10, .ptr 1 0)] ∧ M' = [.blk [.v (.int .i64 (x7)), .v (.slice a8 ((x9).length) (k8))] 24, .blk [.v (.int .i64 (x3.1)), .v (.slice a10 ((x11).length) (k10))] 24, .row (.slice a8 ((x9).length) (k8)) cs8 49 5, .row (.slice a10 ((x11).length) (k10)) cs10 49 5] ∧ RowRep cTPart V' x9 cs8 ∧ RowRep cTPart V' x11 cs10 ∧ J13 x7 x9 x11 x12 = some r) rfl ?_ ?_
      · rintro L' V14 M' ⟨x7, x9, a8, k8, cs8, x11, a10, k10, cs10, x12, rfl, rfl, h8, h10, hF⟩
        subst hJ13
        refine Exec.run tyOk 400 rfl ?_
        obtain ⟨x15, hx15, hF⟩ := bnd_some hF
        refine Exec.callL (.bool (x15)) rfl rfl (fun _ hv hl => W_clockworkref29_Valid ((⟨x3.1, x11⟩ : TPlacement)) (RowRep.slat h10 hv (hl 3 _ _ _ _ _ _ rfl).1 (hl 3 _ _ _ _ _ _ rfl).2) hx15) ?_
        refine Exec.run tyOk 400 rfl ?_
        rcases cond_some hF with ⟨hb, hF⟩ | ⟨hb, hF⟩
        · skip
          refine Exec.ifT rfl hb ?_
          refine Exec.run tyOk 400 rfl ?_
          obtain rfl := some_inj hF
          exact Exec.ret tyOk rfl rfl ⟨_, _, rfl, SlAt.nil⟩
        · skip
          refine Exec.ifF rfl hb ?_
          refine Exec.run tyOk 400 rfl ?_
          refine Exec.frz 3 rfl rfl rfl (fun V16 hv16 hd16 hn16 => ?_)
          have hz16 := RowRep.slat h10 hv16 hd16 hn16
          have h17 := RowRep.mono hv16 h8
          obtain rfl := some_inj hF
          exact Exec.ret tyOk rfl rfl ⟨_, _, rfl, hz16⟩
      · skip
        refine Exec.run tyOk 400 rfl ?_
        refine Exec.loop (fun n25 L' V' M' => ∃ (x18 : Int) (x20 : List TPart) (a19 : Option Addr) (k19 : Nat) (cs19 : List Value) (x22 : List TPart) (a21 : Option Addr) (k21 : Nat) (cs21 : List Value) (x23 : Int) (x24 : Int), L' = [(0, .v (.string ⟨⟨x1⟩⟩)), (1, .v (.int .i64 (x23))), (4, .ptr 0 0), (9, .v (.int .i64 (x4.1))), (10, .ptr 1 0), (11, .v (.int .i64 (x24)))] ∧ M' = [.blk [.v (.int .i64 (x18)), .v (.slice a19 ((x20).length) (k19))] 24, .blk [.v (.int .i64 (x3.1)), .v (.slice a21 ((x22).length) (k21))] 24, .row (.slice a19 ((x20).length) (k19)) cs19 49 5, .row (.slice a21 ((x22).length) (k21)) cs21 49 5] ∧ RowRep cTPart V' x20 cs19 ∧ RowRep cTPart V' x22 cs21 ∧ F_clockworkref29_Decode_L1 x4 x1 J13 n25 x18 x20 x22 x23 x24 = some r) ⟨((x4.1).toNat + 1), [(0, .v (.string ⟨⟨x1⟩⟩)), (1, .v (.int .i64 (x4.2.1))), (4, .ptr 0 0), (9, .v (.int .i64 (x4.1))), (10, .ptr 1 0), (11, .v (.int .i64 ((0 : Int))))], ⟨rfl, rfl, rfl, rfl, rfl, rfl, trivial⟩, 0, ([] : List TPart), none, 0, [], ([] : List TPart), none, 0, [], x4.2.1, (0 : Int), rfl, rfl, h5, h6, hF⟩ ?_
        rintro n25 L' V26 M' ⟨x18, x20, a19, k19, cs19, x22, a21, k21, cs21, x23, x24, rfl, rfl, h19, h21, hF⟩
        rcases n25 with _ | n25
        · exact absurd hF (by simp [F_clockworkref29_Decode_L1])
        rw [F_clockworkref29_Decode_L1] at hF
        refine Exec.run tyOk 400 rfl ?_
        rcases cond_some hF with ⟨hb, hF⟩ | ⟨hb, hF⟩
        · skip
          refine Exec.ifT rfl hb ?_
          refine Exec.run tyOk 400 rfl ?_
          obtain ⟨x27, hx27, hF⟩ := bnd_some hF
          refine Exec.callS (.tuple ⟨[.agg ⟨[.int .i64 (x27.1.Id), .string ⟨⟨x27.1.From⟩⟩, .int .i64 (x27.1.Node), .int .i64 (x27.1.Dest), .string ⟨⟨x27.1.Done⟩⟩]⟩, .int .i64 (x27.2.1), .int .i64 (x27.2.2)]⟩) rfl rfl (W_clockworkref29_takePart x1 x23  hx27) ?_
          refine Exec.run tyOk 400 rfl ?_
          rcases cond_some hF with ⟨hb, hF⟩ | ⟨hb, hF⟩
          · skip
            refine Exec.ifT rfl hb ?_
            refine Exec.run tyOk 400 rfl ?_
            obtain rfl := some_inj hF
            exact Exec.ret tyOk rfl rfl ⟨_, _, rfl, SlAt.nil⟩
          · skip
            refine Exec.ifF rfl hb ?_
            refine Exec.run tyOk 400 rfl ?_
            refine Exec.bsl tyOk rfl rfl ?_
            refine Exec.run tyOk 400 rfl ?_
            obtain ⟨q29, hF⟩ := req_some hF
            refine Exec.app tyOk 3 5 (nm := ((x22 ++ [x27.1])).length) rfl rfl rfl rfl rfl rfl rfl rfl rfl (by simp) (fun _ _ => rfl) rfl q29 (fun a28 k28 => ?_)
            have h28 : RowRep cTPart V26 (x22 ++ [x27.1]) (cs21 ++ [.int .i64 (x27.1.Id), .string ⟨⟨x27.1.From⟩⟩, .int .i64 (x27.1.Node), .int .i64 (x27.1.Dest), .string ⟨⟨x27.1.Done⟩⟩]) := RowRep.app h21 ⟨_, _, rfl, rfl, rfl⟩
            refine Exec.run tyOk 400 rfl ?_
            refine Exec.cut 4 [(0, .v (.string ⟨⟨x1⟩⟩)), (1, .v (.int .i64 (x27.2.1))), (4, .ptr 0 0), (9, .v (.int .i64 (x4.1))), (10, .ptr 1 0), (11, .v (.int .i64 ((IntKind.i64.wrap (x24 + (1 : Int))))))] (M' := [.blk [.v (.int .i64 (x18)), .v (.slice a19 ((x20).length) (k19))] 24, .blk [.v (.int .i64 (x3.1)), .v (.slice a28 (((x22 ++ [x27.1])).length) (k28))] 24, .row (.slice a19 ((x20).length) (k19)) cs19 49 5, .row (.slice a28 (((x22 ++ [x27.1])).length) (k28)) ((cs21 ++ [.int .i64 (x27.1.Id), .string ⟨⟨x27.1.From⟩⟩, .int .i64 (x27.1.Node), .int .i64 (x27.1.Dest), .string ⟨⟨x27.1.Done⟩⟩])) 49 5]) rfl ⟨rfl, rfl, rfl, rfl, rfl, rfl, trivial⟩ rfl rfl rfl ?_
            exact Exec.round [(0, .v (.string ⟨⟨x1⟩⟩)), (1, .v (.int .i64 (x27.2.1))), (4, .ptr 0 0), (9, .v (.int .i64 (x4.1))), (10, .ptr 1 0), (11, .v (.int .i64 ((IntKind.i64.wrap (x24 + (1 : Int))))))] ⟨rfl, rfl, rfl, rfl, rfl, rfl, trivial⟩ ⟨n25, Nat.lt_succ_self _, x18, x20, a19, k19, cs19, (x22 ++ [x27.1]), a28, k28, (cs21 ++ [.int .i64 (x27.1.Id), .string ⟨⟨x27.1.From⟩⟩, .int .i64 (x27.1.Node), .int .i64 (x27.1.Dest), .string ⟨⟨x27.1.Done⟩⟩]), x27.2.1, (IntKind.i64.wrap (x24 + (1 : Int))), rfl, rfl, h19, h28, hF⟩
        · skip
          refine Exec.ifF rfl hb ?_
          refine Exec.run tyOk 400 rfl ?_
          exact Exec.round [(1, .v (.int .i64 (x23))), (4, .ptr 0 0), (10, .ptr 1 0)] ⟨rfl, rfl, rfl, trivial⟩ ⟨x18, x20, a19, k19, cs19, x22, a21, k21, cs21, x23, rfl, rfl, h19, h21, hF⟩

end Go.Proofs.Ytdkakeiccefbgaa
