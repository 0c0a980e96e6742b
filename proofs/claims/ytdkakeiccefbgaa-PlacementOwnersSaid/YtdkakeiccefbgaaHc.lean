/-
  Functions of the program as their counterparts say them (printed by a program).
  Conditions: none.
-/
import Derived.Test.YtdkakeiccefbgaaHb
set_option linter.all false
namespace Go.Proofs.Ytdkakeiccefbgaa

def F_cmp_isNaN_int (x1 : Int) : Option Bool :=
  (some (x1 != x1))

set_option maxRecDepth 100000 in
theorem W_cmp_isNaN_int {V : View} (x1 : Int)   {r : Bool} (hF : F_cmp_isNaN_int x1 = some r) :
    Spec Try.prog 93 [.int .i64 (x1)] V (fun _ v => v = .bool (r)) := by
  unfold F_cmp_isNaN_int at hF
  refine Spec.enter (T := tyT) Try.func93 rfl (by kernel_rfl) rfl rfl rfl ?_
  refine Exec.run tyOk 400 rfl ?_
  obtain rfl := some_inj hF
  exact Exec.ret tyOk rfl rfl rfl

def F_placement_New (x1 : Int) : Option (TPlacement × Int) :=
  (bnd (F_placement_node x1) fun x2 => (cond (!x2) (some ((⟨0, ([] : List TPart)⟩ : TPlacement), (1 : Int))) (some ((⟨0, ([(⟨(1 : Int), [], x1, 0, []⟩ : TPart)] : List TPart)⟩ : TPlacement), (0 : Int)))))

set_option maxRecDepth 100000 in
theorem W_placement_New {V : View} (x1 : Int)   {r : TPlacement × Int} (hF : F_placement_New x1 = some r) :
    Spec Try.prog 13 [.int .i64 (x1)] V (fun V' v => ∃ (a4 : Option Addr) (k4 : Nat), v = .tuple ⟨[.agg ⟨[.int .i64 (r.1.Version), .slice a4 ((r.1.Parts).length) (k4)]⟩, .int .i64 (r.2)]⟩ ∧ SlAt cTPart V' a4 k4 r.1.Parts) := by
  unfold F_placement_New at hF
  refine Spec.enter (T := tyT) Try.func13 rfl (by kernel_rfl) rfl rfl rfl ?_
  refine Exec.run tyOk 400 rfl ?_
  obtain ⟨x2, hx2, hF⟩ := bnd_some hF
  refine Exec.callS (.bool (x2)) rfl rfl (W_placement_node x1  hx2) ?_
  refine Exec.run tyOk 400 rfl ?_
  rcases cond_some hF with ⟨hb, hF⟩ | ⟨hb, hF⟩
  · skip
    refine Exec.ifT rfl hb ?_
    refine Exec.run tyOk 400 rfl ?_
    obtain rfl := some_inj hF
    exact Exec.ret tyOk rfl rfl ⟨_, _, rfl, SlAt.nil⟩
  · skip
    refine Exec.ifF rfl hb ?_
    refine Exec.run tyOk 400 rfl ?_
    refine Exec.bsV tyOk rfl rfl rfl rfl rfl (fun V3 a3 hv3 hd3 => ?_)
    have h3 : SlAt cTPart V3 (some a3) 1 ([(⟨(1 : Int), [], x1, 0, []⟩ : TPart)] : List TPart) := RowRep.slat (c := cTPart) (V := V3) (cs := [.int .i64 ((1 : Int)), .string ⟨⟨[]⟩⟩, .int .i64 (x1), .int .i64 (0), .string ⟨⟨[]⟩⟩]) ⟨_, _, rfl, rfl, rfl⟩ (VLe.refl _) (fun _ => hd3) (by simp)
    refine Exec.run tyOk 400 rfl ?_
    obtain rfl := some_inj hF
    exact Exec.ret tyOk rfl rfl ⟨_, _, rfl, h3⟩

def F_clockworkref29_Valid_L2 (x7 : Int) (x1 : TPlacement) (J21 : Option Bool) : Nat → Int → Option Bool
  | 0, _ => none
  | n25 + 1, x24 => (cond (decide (x24 < x7)) (req (0 ≤ x24 ∧ x24 < ((x1.Parts).length : Int)) (cond ((atI x1.Parts x24).Id == (atI x1.Parts x7).Id) (some false) (F_clockworkref29_Valid_L2 x7 x1 J21 n25 ((IntKind.i64.wrap (x24 + (1 : Int))))))) J21)

def F_clockworkref29_Valid_L1 (x1 : TPlacement) (J5 : Option Bool) : Nat → Int → Option Bool
  | 0, _ => none
  | n8 + 1, x7 => (cond (decide (x7 < (((x1.Parts).length : Nat) : Int))) (req (0 ≤ x7 ∧ x7 < ((x1.Parts).length : Int)) (jn (fun (x13 : Str) => (bnd (F_clockworkref29_Bound ((atI x1.Parts x7).From)) fun x17 => (req (((((decide ((0 : Int) < x7))) == true) && (((!x17)) == false)) = true → 0 ≤ (IntKind.i64.wrap (x7 - (1 : Int))) ∧ (IntKind.i64.wrap (x7 - (1 : Int))) < ((x1.Parts).length : Int)) (bnd (gcall ((((((((!x17) || ((decide ((0 : Int) < x7)) && (!sLt (cond ((((decide ((0 : Int) < x7))) == true) && (((!x17)) == false)) (atI x1.Parts ((IntKind.i64.wrap (x7 - (1 : Int))))) default).From (atI x1.Parts x7).From))) || (decide ((atI x1.Parts x7).Id < (1 : Int)))) || (decide ((1099511627776 : Int) < (atI x1.Parts x7).Id))) || (decide ((atI x1.Parts x7).Node < (1 : Int)))) || (decide ((16 : Int) < (atI x1.Parts x7).Node)))) == false) (F_clockworkref29_moves ((atI x1.Parts x7)) x13 (((IntKind.i64.wrap (x7 + (1 : Int))) == (((x1.Parts).length : Nat) : Int))))) fun x20 => (cond (((((((!x17) || ((decide ((0 : Int) < x7)) && (!sLt (cond ((((decide ((0 : Int) < x7))) == true) && (((!x17)) == false)) (atI x1.Parts ((IntKind.i64.wrap (x7 - (1 : Int))))) default).From (atI x1.Parts x7).From))) || (decide ((atI x1.Parts x7).Id < (1 : Int)))) || (decide ((1099511627776 : Int) < (atI x1.Parts x7).Id))) || (decide ((atI x1.Parts x7).Node < (1 : Int)))) || (decide ((16 : Int) < (atI x1.Parts x7).Node))) || (!x20)) (some false) (jn ((F_clockworkref29_Valid_L1 x1 J5 n8 ((IntKind.i64.wrap (x7 + (1 : Int)))))) (fun J21 => (F_clockworkref29_Valid_L2 x7 x1 J21 ((x7).toNat + 1) ((0 : Int)))))))))) (fun J14 => (cond (decide ((IntKind.i64.wrap (x7 + (1 : Int))) < (((x1.Parts).length : Nat) : Int))) (req (0 ≤ (IntKind.i64.wrap (x7 + (1 : Int))) ∧ (IntKind.i64.wrap (x7 + (1 : Int))) < ((x1.Parts).length : Int)) (J14 ((atI x1.Parts ((IntKind.i64.wrap (x7 + (1 : Int))))).From))) (J14 (([] : Str))))))) J5)

def F_clockworkref29_Valid (x1 : TPlacement) : Option Bool :=
  (req (((((((decide (x1.Version < (0 : Int))) || (decide ((1099511627776 : Int) < x1.Version))) || (decide ((((x1.Parts).length : Nat) : Int) < (1 : Int)))) || (decide ((16 : Int) < (((x1.Parts).length : Nat) : Int))))) == false) = true → 0 ≤ (0 : Int) ∧ (0 : Int) < ((x1.Parts).length : Int)) (cond (((((decide (x1.Version < (0 : Int))) || (decide ((1099511627776 : Int) < x1.Version))) || (decide ((((x1.Parts).length : Nat) : Int) < (1 : Int)))) || (decide ((16 : Int) < (((x1.Parts).length : Nat) : Int)))) || ((cond ((((((decide (x1.Version < (0 : Int))) || (decide ((1099511627776 : Int) < x1.Version))) || (decide ((((x1.Parts).length : Nat) : Int) < (1 : Int)))) || (decide ((16 : Int) < (((x1.Parts).length : Nat) : Int))))) == false) (atI x1.Parts ((0 : Int))) default).From != ([] : Str))) (some false) (jn ((some true)) (fun J5 => (F_clockworkref29_Valid_L1 x1 J5 (((((x1.Parts).length : Nat) : Int)).toNat + 1) ((0 : Int)))))))

set_option maxRecDepth 100000 in
theorem W_clockworkref29_Valid {V : View} (x1 : TPlacement) {a2 : Option Addr} {k2 : Nat} (h2 : SlAt cTPart V a2 k2 x1.Parts) {r : Bool} (hF : F_clockworkref29_Valid x1 = some r) :
    Spec Try.prog 16 [.agg ⟨[.int .i64 (x1.Version), .slice a2 ((x1.Parts).length) (k2)]⟩] V (fun _ v => v = .bool (r)) := by
  unfold F_clockworkref29_Valid at hF
  refine Spec.enter (T := tyT) Try.func16 rfl (by kernel_rfl) rfl rfl rfl ?_
  refine Exec.run tyOk 400 rfl ?_
  obtain ⟨q3, hF⟩ := req_some hF
  obtain ⟨c4, hr4, hd4⟩ := SlAt.gget ((((((decide (x1.Version < (0 : Int))) || (decide ((1099511627776 : Int) < x1.Version))) || (decide ((((x1.Parts).length : Nat) : Int) < (1 : Int)))) || (decide ((16 : Int) < (((x1.Parts).length : Nat) : Int))))) == false) h2 q3
  obtain rfl := hr4
  refine Exec.ia tyOk rfl rfl (fun gg0 => ⟨(q3 (gd1_of gg0)).1, (q3 (gd1_of gg0)).2, (hd4 (gd1_of gg0)).some⟩) ?_
  refine Exec.run tyOk 400 rfl ?_
  refine Exec.ld tyOk (x := .string ⟨⟨(cond ((((((decide (x1.Version < (0 : Int))) || (decide ((1099511627776 : Int) < x1.Version))) || (decide ((((x1.Parts).length : Nat) : Int) < (1 : Int)))) || (decide ((16 : Int) < (((x1.Parts).length : Nat) : Int))))) == false) (atI x1.Parts ((0 : Int))) default).From⟩⟩) rfl rfl (fun gg0 => (RdAt.part (hd4 (gd1_of gg0)) 1 1 rfl)) rfl rfl ?_
  refine Exec.run tyOk 400 rfl ?_
  rcases cond_some hF with ⟨hb, hF⟩ | ⟨hb, hF⟩
  · skip
    refine Exec.ifT rfl hb ?_
    refine Exec.run tyOk 400 rfl ?_
    obtain rfl := some_inj hF
    exact Exec.ret tyOk rfl rfl rfl
  · skip
    refine Exec.ifF rfl hb ?_
    refine Exec.run tyOk 6 rfl ?_
    obtain ⟨J5, hJ5, hF⟩ := jn_some hF
    refine Exec.seam (fun L' V' M' => L' = [] ∧ M' = [] ∧ J5 = some r) rfl ?_ ?_
    · rintro L' V6 M' ⟨rfl, rfl, hF⟩
      subst hJ5
      refine Exec.run tyOk 400 rfl ?_
      obtain rfl := some_inj hF
      exact Exec.ret tyOk rfl rfl rfl
    · skip
      refine Exec.run tyOk 400 rfl ?_
      refine Exec.loop (fun n8 L' V' M' => ∃ (x7 : Int), L' = [(1, .ptr 0 0), (3, .v (.int .i64 ((((x1.Parts).length : Nat) : Int)))), (4, .v (.int .i64 (x7)))] ∧ M' = [.blk [.v (.int .i64 (x1.Version)), .v (.slice a2 ((x1.Parts).length) (k2))] 24] ∧ SlAt cTPart V' a2 k2 x1.Parts ∧ F_clockworkref29_Valid_L1 x1 J5 n8 x7 = some r) ⟨(((((x1.Parts).length : Nat) : Int)).toNat + 1), [(1, .ptr 0 0), (3, .v (.int .i64 ((((x1.Parts).length : Nat) : Int)))), (4, .v (.int .i64 ((0 : Int))))], ⟨rfl, rfl, rfl, trivial⟩, (0 : Int), rfl, rfl, h2, hF⟩ ?_
      rintro n8 L' V9 M' ⟨x7, rfl, rfl, h10, hF⟩
      rcases n8 with _ | n8
      · exact absurd hF (by simp [F_clockworkref29_Valid_L1])
      rw [F_clockworkref29_Valid_L1] at hF
      refine Exec.run tyOk 400 rfl ?_
      rcases cond_some hF with ⟨hb, hF⟩ | ⟨hb, hF⟩
      · skip
        refine Exec.ifT rfl hb ?_
        refine Exec.run tyOk 400 rfl ?_
        obtain ⟨q11, hF⟩ := req_some hF
        obtain ⟨c12, hr12, hd12⟩ := SlAt.get h10 q11
        obtain rfl := hr12
        refine Exec.ia tyOk rfl rfl ⟨q11.1, q11.2, hd12.some⟩ ?_
        refine Exec.run tyOk 400 rfl ?_
        refine Exec.ld tyOk (x := .agg ⟨[.int .i64 ((atI x1.Parts x7).Id), .string ⟨⟨(atI x1.Parts x7).From⟩⟩, .int .i64 ((atI x1.Parts x7).Node), .int .i64 ((atI x1.Parts x7).Dest), .string ⟨⟨(atI x1.Parts x7).Done⟩⟩]⟩) rfl rfl hd12 rfl rfl ?_
        refine Exec.run tyOk 400 rfl ?_
        obtain ⟨J14, hJ14, hF⟩ := jn_some hF
        refine Exec.seam (fun L' V' M' => ∃ (x13 : Str), L' = [(1, .ptr 0 0), (3, .v (.int .i64 ((((x1.Parts).length : Nat) : Int)))), (4, .v (.int .i64 (x7))), (5, .ptr 1 0), (6, .v (.string ⟨⟨x13⟩⟩))] ∧ M' = [.blk [.v (.int .i64 (x1.Version)), .v (.slice a2 ((x1.Parts).length) (k2))] 24, .blk [.v (.int .i64 ((atI x1.Parts x7).Id)), .v (.string ⟨⟨(atI x1.Parts x7).From⟩⟩), .v (.int .i64 ((atI x1.Parts x7).Node)), .v (.int .i64 ((atI x1.Parts x7).Dest)), .v (.string ⟨⟨(atI x1.Parts x7).Done⟩⟩)] 49] ∧ SlAt cTPart V' a2 k2 x1.Parts ∧ J14 x13 = some r) rfl ?_ ?_
        · rintro L' V15 M' ⟨x13, rfl, rfl, h16, hF⟩
          subst hJ14
          refine Exec.run tyOk 400 rfl ?_
          refine Exec.draws tyOk [(0, true), (1, true), (2, false), (3, false), (4, false), (5, false), (6, false), (7, false), (8, true), (9, true), (10, true), (11, true), (12, false), (13, false), (14, false), (15, false), (16, false), (17, false), (18, false), (19, false), (20, false), (21, false), (22, false), (23, false), (24, false), (25, false), (26, false), (27, false), (28, false), (29, false), (30, false), (31, false), (32, false), (33, false), (34, false), (35, false), (36, false), (37, false), (38, false), (39, false), (40, false), (41, true), (42, true), (43, true), (44, true), (45, false), (46, false), (47, false), (48, false), (49, false)] rfl (by kernel_rfl) ?_
          refine Exec.run tyOk 400 rfl ?_
          obtain ⟨x17, hx17, hF⟩ := bnd_some hF
          refine Exec.callS (.bool (x17)) rfl rfl (W_clockworkref29_Bound ((atI x1.Parts x7).From)  hx17) ?_
          refine Exec.run tyOk 400 rfl ?_
          obtain ⟨q18, hF⟩ := req_some hF
          obtain ⟨c19, hr19, hd19⟩ := SlAt.gget ((((decide ((0 : Int) < x7))) == true) && (((!x17)) == false)) h16 q18
          obtain rfl := hr19
          refine Exec.ia tyOk rfl rfl (fun gg0 gg1 => ⟨(q18 (gd2_of gg0 gg1)).1, (q18 (gd2_of gg0 gg1)).2, (hd19 (gd2_of gg0 gg1)).some⟩) ?_
          refine Exec.run tyOk 400 rfl ?_
          refine Exec.ld tyOk (x := .string ⟨⟨(cond ((((decide ((0 : Int) < x7))) == true) && (((!x17)) == false)) (atI x1.Parts ((IntKind.i64.wrap (x7 - (1 : Int))))) default).From⟩⟩) rfl rfl (fun gg0 gg1 => (RdAt.part (hd19 (gd2_of gg0 gg1)) 1 1 rfl)) rfl rfl ?_
          refine Exec.run tyOk 400 rfl ?_
          obtain ⟨x20, hx20, hF⟩ := bnd_some hF
          refine Exec.callS (.bool (x20)) rfl rfl (fun gg0 => W_clockworkref29_moves ((atI x1.Parts x7)) x13 (((IntKind.i64.wrap (x7 + (1 : Int))) == (((x1.Parts).length : Nat) : Int)))  (gcall_some hx20 (gd1_of gg0))) ?_
          refine Exec.run tyOk 400 rfl ?_
          rcases cond_some hF with ⟨hb, hF⟩ | ⟨hb, hF⟩
          · skip
            refine Exec.ifT rfl hb ?_
            refine Exec.run tyOk 400 rfl ?_
            obtain rfl := some_inj hF
            exact Exec.ret tyOk rfl rfl rfl
          · skip
            refine Exec.ifF rfl hb ?_
            refine Exec.run tyOk 5 rfl ?_
            obtain ⟨J21, hJ21, hF⟩ := jn_some hF
            refine Exec.seam (fun L' V' M' => L' = [(1, .ptr 0 0), (3, .v (.int .i64 ((((x1.Parts).length : Nat) : Int)))), (4, .v (.int .i64 (x7)))] ∧ M' = [.blk [.v (.int .i64 (x1.Version)), .v (.slice a2 ((x1.Parts).length) (k2))] 24] ∧ SlAt cTPart V' a2 k2 x1.Parts ∧ J21 = some r) rfl ?_ ?_
            · rintro L' V22 M' ⟨rfl, rfl, h23, hF⟩
              subst hJ21
              refine Exec.run tyOk 400 rfl ?_
              exact Exec.round [(1, .ptr 0 0), (3, .v (.int .i64 ((((x1.Parts).length : Nat) : Int)))), (4, .v (.int .i64 ((IntKind.i64.wrap (x7 + (1 : Int))))))] ⟨rfl, rfl, rfl, trivial⟩ ⟨n8, Nat.lt_succ_self _, (IntKind.i64.wrap (x7 + (1 : Int))), rfl, rfl, h23, hF⟩
            · skip
              refine Exec.run tyOk 400 rfl ?_
              refine Exec.loop (fun n25 L' V' M' => ∃ (x24 : Int), L' = [(1, .ptr 0 0), (3, .v (.int .i64 ((((x1.Parts).length : Nat) : Int)))), (4, .v (.int .i64 (x7))), (5, .ptr 1 0), (7, .v (.int .i64 (x24)))] ∧ M' = [.blk [.v (.int .i64 (x1.Version)), .v (.slice a2 ((x1.Parts).length) (k2))] 24, .blk [.v (.int .i64 ((atI x1.Parts x7).Id)), .v (.string ⟨⟨(atI x1.Parts x7).From⟩⟩), .v (.int .i64 ((atI x1.Parts x7).Node)), .v (.int .i64 ((atI x1.Parts x7).Dest)), .v (.string ⟨⟨(atI x1.Parts x7).Done⟩⟩)] 49] ∧ SlAt cTPart V' a2 k2 x1.Parts ∧ F_clockworkref29_Valid_L2 x7 x1 J21 n25 x24 = some r) ⟨((x7).toNat + 1), [(1, .ptr 0 0), (3, .v (.int .i64 ((((x1.Parts).length : Nat) : Int)))), (4, .v (.int .i64 (x7))), (5, .ptr 1 0), (7, .v (.int .i64 ((0 : Int))))], ⟨rfl, rfl, rfl, rfl, rfl, trivial⟩, (0 : Int), rfl, rfl, h16, hF⟩ ?_
              rintro n25 L' V26 M' ⟨x24, rfl, rfl, h27, hF⟩
              rcases n25 with _ | n25
              · exact absurd hF (by simp [F_clockworkref29_Valid_L2])
              rw [F_clockworkref29_Valid_L2] at hF
              refine Exec.run tyOk 400 rfl ?_
              rcases cond_some hF with ⟨hb, hF⟩ | ⟨hb, hF⟩
              · skip
                refine Exec.ifT rfl hb ?_
                refine Exec.run tyOk 400 rfl ?_
                refine Exec.draws tyOk [(0, true), (1, true), (2, true), (3, true), (4, true), (5, true), (6, true), (7, true), (8, true)] rfl (by kernel_rfl) ?_
                refine Exec.run tyOk 400 rfl ?_
                obtain ⟨q28, hF⟩ := req_some hF
                obtain ⟨c29, hr29, hd29⟩ := SlAt.get h27 q28
                obtain rfl := hr29
                refine Exec.fia tyOk rfl rfl rfl ⟨q28.1, q28.2, hd29.some⟩ ?_
                refine Exec.run tyOk 400 rfl ?_
                refine Exec.fld tyOk (x := .int .i64 ((atI x1.Parts x24).Id)) rfl rfl rfl (RdAt.part hd29 0 1 rfl) rfl rfl ?_
                refine Exec.run tyOk 400 rfl ?_
                rcases cond_some hF with ⟨hb, hF⟩ | ⟨hb, hF⟩
                · skip
                  refine Exec.ifT rfl hb ?_
                  refine Exec.run tyOk 400 rfl ?_
                  obtain rfl := some_inj hF
                  exact Exec.ret tyOk rfl rfl rfl
                · skip
                  refine Exec.ifF rfl hb ?_
                  refine Exec.run tyOk 400 rfl ?_
                  exact Exec.round [(1, .ptr 0 0), (3, .v (.int .i64 ((((x1.Parts).length : Nat) : Int)))), (4, .v (.int .i64 (x7))), (5, .ptr 1 0), (7, .v (.int .i64 ((IntKind.i64.wrap (x24 + (1 : Int))))))] ⟨rfl, rfl, rfl, rfl, rfl, trivial⟩ ⟨n25, Nat.lt_succ_self _, (IntKind.i64.wrap (x24 + (1 : Int))), rfl, rfl, h27, hF⟩
              · skip
                refine Exec.ifF rfl hb ?_
                refine Exec.run tyOk 400 rfl ?_
                refine Exec.cut 1 [(1, .ptr 0 0), (3, .v (.int .i64 ((((x1.Parts).length : Nat) : Int)))), (4, .v (.int .i64 (x7)))] (M' := [.blk [.v (.int .i64 (x1.Version)), .v (.slice a2 ((x1.Parts).length) (k2))] 24]) rfl ⟨rfl, rfl, rfl, trivial⟩ rfl rfl rfl ?_
                exact Exec.round [(1, .ptr 0 0), (3, .v (.int .i64 ((((x1.Parts).length : Nat) : Int)))), (4, .v (.int .i64 (x7)))] ⟨rfl, rfl, rfl, trivial⟩ ⟨rfl, rfl, h27, hF⟩
        · skip
          refine Exec.run tyOk 400 rfl ?_
          rcases cond_some hF with ⟨hb, hF⟩ | ⟨hb, hF⟩
          · skip
            refine Exec.ifT rfl hb ?_
            refine Exec.run tyOk 400 rfl ?_
            obtain ⟨q30, hF⟩ := req_some hF
            obtain ⟨c31, hr31, hd31⟩ := SlAt.get h10 q30
            obtain rfl := hr31
            refine Exec.ia tyOk rfl rfl ⟨q30.1, q30.2, hd31.some⟩ ?_
            refine Exec.run tyOk 400 rfl ?_
            refine Exec.ld tyOk (x := .string ⟨⟨(atI x1.Parts ((IntKind.i64.wrap (x7 + (1 : Int))))).From⟩⟩) rfl rfl (RdAt.part hd31 1 1 rfl) rfl rfl ?_
            refine Exec.run tyOk 400 rfl ?_
            exact Exec.round [(1, .ptr 0 0), (3, .v (.int .i64 ((((x1.Parts).length : Nat) : Int)))), (4, .v (.int .i64 (x7))), (5, .ptr 1 0), (6, .v (.string ⟨⟨(atI x1.Parts ((IntKind.i64.wrap (x7 + (1 : Int))))).From⟩⟩))] ⟨rfl, rfl, rfl, rfl, rfl, trivial⟩ ⟨(atI x1.Parts ((IntKind.i64.wrap (x7 + (1 : Int))))).From, rfl, rfl, h10, hF⟩
          · skip
            refine Exec.ifF rfl hb ?_
            refine Exec.run tyOk 400 rfl ?_
            exact Exec.round [(1, .ptr 0 0), (3, .v (.int .i64 ((((x1.Parts).length : Nat) : Int)))), (4, .v (.int .i64 (x7))), (5, .ptr 1 0), (6, .v (.string ⟨⟨([] : Str)⟩⟩))] ⟨rfl, rfl, rfl, rfl, rfl, trivial⟩ ⟨([] : Str), rfl, rfl, h10, hF⟩
      · skip
        refine Exec.ifF rfl hb ?_
        refine Exec.run tyOk 400 rfl ?_
        refine Exec.cut 0 [] (M' := []) rfl trivial rfl rfl rfl ?_
        exact Exec.round [] trivial ⟨rfl, rfl, hF⟩

def F_clockworkref29_Range (x1 : TPlacement) (x3 : Int) : Option (TRange × Int) :=
  (bnd (F_clockworkref29_Valid x1) fun x4 => (cond (!x4) (some ((⟨[], []⟩ : TRange), (1 : Int))) (bnd (F_clockworkref29_Find x1 x3) fun x5 => (cond (decide (x5 < (0 : Int))) (some ((⟨[], []⟩ : TRange), (9 : Int))) (req (0 ≤ x5 ∧ x5 < ((x1.Parts).length : Int)) (bnd (F_clockworkref29_end x1 x5) fun x8 => (some ((⟨(atI x1.Parts x5).From, x8⟩ : TRange), (0 : Int)))))))))

set_option maxRecDepth 100000 in
theorem W_clockworkref29_Range {V : View} (x1 : TPlacement) (x3 : Int) {a2 : Option Addr} {k2 : Nat} (h2 : SlAt cTPart V a2 k2 x1.Parts) {r : TRange × Int} (hF : F_clockworkref29_Range x1 x3 = some r) :
    Spec Try.prog 19 [.agg ⟨[.int .i64 (x1.Version), .slice a2 ((x1.Parts).length) (k2)]⟩, .int .i64 (x3)] V (fun _ v => v = .tuple ⟨[.agg ⟨[.string ⟨⟨r.1.From⟩⟩, .string ⟨⟨r.1.To⟩⟩]⟩, .int .i64 (r.2)]⟩) := by
  unfold F_clockworkref29_Range at hF
  refine Spec.enter (T := tyT) Try.func19 rfl (by kernel_rfl) rfl rfl rfl ?_
  refine Exec.run tyOk 400 rfl ?_
  obtain ⟨x4, hx4, hF⟩ := bnd_some hF
  refine Exec.callS (.bool (x4)) rfl rfl (W_clockworkref29_Valid x1 h2 hx4) ?_
  refine Exec.run tyOk 400 rfl ?_
  rcases cond_some hF with ⟨hb, hF⟩ | ⟨hb, hF⟩
  · skip
    refine Exec.ifT rfl hb ?_
    refine Exec.run tyOk 400 rfl ?_
    obtain rfl := some_inj hF
    exact Exec.ret tyOk rfl rfl rfl
  · skip
    refine Exec.ifF rfl hb ?_
    refine Exec.run tyOk 400 rfl ?_
    obtain ⟨x5, hx5, hF⟩ := bnd_some hF
    refine Exec.callS (.int .i64 (x5)) rfl rfl (W_clockworkref29_Find x1 x3 h2 hx5) ?_
    refine Exec.run tyOk 400 rfl ?_
    rcases cond_some hF with ⟨hb, hF⟩ | ⟨hb, hF⟩
    · skip
      refine Exec.ifT rfl hb ?_
      refine Exec.run tyOk 400 rfl ?_
      obtain rfl := some_inj hF
      exact Exec.ret tyOk rfl rfl rfl
    · skip
      refine Exec.ifF rfl hb ?_
      refine Exec.run tyOk 400 rfl ?_
      refine Exec.draws tyOk [(0, true), (1, true), (2, true), (3, true), (4, true), (5, true), (6, true), (7, true), (8, false), (9, false), (10, false), (11, false)] rfl (by kernel_rfl) ?_
      refine Exec.run tyOk 400 rfl ?_
      obtain ⟨q6, hF⟩ := req_some hF
      obtain ⟨c7, hr7, hd7⟩ := SlAt.get h2 q6
      obtain rfl := hr7
      refine Exec.fia tyOk rfl rfl rfl ⟨q6.1, q6.2, hd7.some⟩ ?_
      refine Exec.run tyOk 400 rfl ?_
      refine Exec.fld tyOk (x := .string ⟨⟨(atI x1.Parts x5).From⟩⟩) rfl rfl rfl (RdAt.part hd7 1 1 rfl) rfl rfl ?_
      refine Exec.run tyOk 400 rfl ?_
      obtain ⟨x8, hx8, hF⟩ := bnd_some hF
      refine Exec.callS (.string ⟨⟨x8⟩⟩) rfl rfl (W_clockworkref29_end x1 x5 h2 hx8) ?_
      refine Exec.run tyOk 400 rfl ?_
      obtain rfl := some_inj hF
      exact Exec.ret tyOk rfl rfl rfl

def F_clockworkref29_Index_L1 (x1 : TPlacement) (x3 : Str) (J6 : Int → Option Int) : Nat → Int → Int → Option Int
  | 0, _, _ => none
  | n10 + 1, x8, x9 => (cond (decide (x9 < (((x1.Parts).length : Nat) : Int))) (req (0 ≤ x9 ∧ x9 < ((x1.Parts).length : Int)) (jn (fun (x15 : Int) => (F_clockworkref29_Index_L1 x1 x3 J6 n10 x15 ((IntKind.i64.wrap (x9 + (1 : Int)))))) (fun J16 => (cond (!sLt x3 (atI x1.Parts x9).From) (J16 x9) (J16 x8))))) (J6 x8))

def F_clockworkref29_Index (x1 : TPlacement) (x3 : Str) : Option Int :=
  (bnd (F_clockworkref29_Valid x1) fun x4 => (cond (!x4) (some (-1 : Int)) (jn (fun (x5 : Int) => (some x5)) (fun J6 => (F_clockworkref29_Index_L1 x1 x3 J6 (((((x1.Parts).length : Nat) : Int)).toNat + 1) ((0 : Int)) ((1 : Int)))))))

set_option maxRecDepth 100000 in
theorem W_clockworkref29_Index {V : View} (x1 : TPlacement) (x3 : Str) {a2 : Option Addr} {k2 : Nat} (h2 : SlAt cTPart V a2 k2 x1.Parts) {r : Int} (hF : F_clockworkref29_Index x1 x3 = some r) :
    Spec Try.prog 21 [.agg ⟨[.int .i64 (x1.Version), .slice a2 ((x1.Parts).length) (k2)]⟩, .string ⟨⟨x3⟩⟩] V (fun _ v => v = .int .i64 (r)) := by
  unfold F_clockworkref29_Index at hF
  refine Spec.enter (T := tyT) Try.func21 rfl (by kernel_rfl) rfl rfl rfl ?_
  refine Exec.run tyOk 400 rfl ?_
  obtain ⟨x4, hx4, hF⟩ := bnd_some hF
  refine Exec.callS (.bool (x4)) rfl rfl (W_clockworkref29_Valid x1 h2 hx4) ?_
  refine Exec.run tyOk 400 rfl ?_
  rcases cond_some hF with ⟨hb, hF⟩ | ⟨hb, hF⟩
  · skip
    refine Exec.ifT rfl hb ?_
    refine Exec.run tyOk 400 rfl ?_
    obtain rfl := some_inj hF
    exact Exec.ret tyOk rfl rfl rfl
  · skip
    refine Exec.ifF rfl hb ?_
    refine Exec.run tyOk 10 rfl ?_
    obtain ⟨J6, hJ6, hF⟩ := jn_some hF
    refine Exec.seam (fun L' V' M' => ∃ (x5 : Int), L' = [(5, .v (.int .i64 (x5)))] ∧ M' = [] ∧ J6 x5 = some r) rfl ?_ ?_
    · rintro L' V7 M' ⟨x5, rfl, rfl, hF⟩
      subst hJ6
      refine Exec.run tyOk 400 rfl ?_
      obtain rfl := some_inj hF
      exact Exec.ret tyOk rfl rfl rfl
    · skip
      refine Exec.run tyOk 400 rfl ?_
      refine Exec.loop (fun n10 L' V' M' => ∃ (x8 : Int) (x9 : Int), L' = [(1, .v (.string ⟨⟨x3⟩⟩)), (2, .ptr 0 0), (5, .v (.int .i64 (x8))), (6, .v (.int .i64 (x9)))] ∧ M' = [.blk [.v (.int .i64 (x1.Version)), .v (.slice a2 ((x1.Parts).length) (k2))] 24] ∧ SlAt cTPart V' a2 k2 x1.Parts ∧ F_clockworkref29_Index_L1 x1 x3 J6 n10 x8 x9 = some r) ⟨(((((x1.Parts).length : Nat) : Int)).toNat + 1), [(1, .v (.string ⟨⟨x3⟩⟩)), (2, .ptr 0 0), (5, .v (.int .i64 ((0 : Int)))), (6, .v (.int .i64 ((1 : Int))))], ⟨rfl, rfl, rfl, rfl, trivial⟩, (0 : Int), (1 : Int), rfl, rfl, h2, hF⟩ ?_
      rintro n10 L' V11 M' ⟨x8, x9, rfl, rfl, h12, hF⟩
      rcases n10 with _ | n10
      · exact absurd hF (by simp [F_clockworkref29_Index_L1])
      rw [F_clockworkref29_Index_L1] at hF
      refine Exec.run tyOk 400 rfl ?_
      rcases cond_some hF with ⟨hb, hF⟩ | ⟨hb, hF⟩
      · skip
        refine Exec.ifT rfl hb ?_
        refine Exec.run tyOk 400 rfl ?_
        obtain ⟨q13, hF⟩ := req_some hF
        obtain ⟨c14, hr14, hd14⟩ := SlAt.get h12 q13
        obtain rfl := hr14
        refine Exec.ia tyOk rfl rfl ⟨q13.1, q13.2, hd14.some⟩ ?_
        refine Exec.run tyOk 400 rfl ?_
        refine Exec.ld tyOk (x := .string ⟨⟨(atI x1.Parts x9).From⟩⟩) rfl rfl (RdAt.part hd14 1 1 rfl) rfl rfl ?_
        refine Exec.run tyOk 400 rfl ?_
        obtain ⟨J16, hJ16, hF⟩ := jn_some hF
        refine Exec.seam (fun L' V' M' => ∃ (x15 : Int), L' = [(1, .v (.string ⟨⟨x3⟩⟩)), (2, .ptr 0 0), (5, .v (.int .i64 (x15))), (6, .v (.int .i64 (x9)))] ∧ M' = [.blk [.v (.int .i64 (x1.Version)), .v (.slice a2 ((x1.Parts).length) (k2))] 24] ∧ SlAt cTPart V' a2 k2 x1.Parts ∧ J16 x15 = some r) rfl ?_ ?_
        · rintro L' V17 M' ⟨x15, rfl, rfl, h18, hF⟩
          subst hJ16
          refine Exec.run tyOk 400 rfl ?_
          exact Exec.round [(1, .v (.string ⟨⟨x3⟩⟩)), (2, .ptr 0 0), (5, .v (.int .i64 (x15))), (6, .v (.int .i64 ((IntKind.i64.wrap (x9 + (1 : Int))))))] ⟨rfl, rfl, rfl, rfl, trivial⟩ ⟨n10, Nat.lt_succ_self _, x15, (IntKind.i64.wrap (x9 + (1 : Int))), rfl, rfl, h18, hF⟩
        · skip
          refine Exec.run tyOk 400 rfl ?_
          rcases cond_some hF with ⟨hb, hF⟩ | ⟨hb, hF⟩
          · skip
            refine Exec.ifT rfl hb ?_
            refine Exec.run tyOk 400 rfl ?_
            exact Exec.round [(1, .v (.string ⟨⟨x3⟩⟩)), (2, .ptr 0 0), (5, .v (.int .i64 (x9))), (6, .v (.int .i64 (x9)))] ⟨rfl, rfl, rfl, rfl, trivial⟩ ⟨x9, rfl, rfl, h12, hF⟩
          · skip
            refine Exec.ifF rfl hb ?_
            refine Exec.run tyOk 400 rfl ?_
            exact Exec.round [(1, .v (.string ⟨⟨x3⟩⟩)), (2, .ptr 0 0), (5, .v (.int .i64 (x8))), (6, .v (.int .i64 (x9)))] ⟨rfl, rfl, rfl, rfl, trivial⟩ ⟨x8, rfl, rfl, h12, hF⟩
      · skip
        refine Exec.ifF rfl hb ?_
        refine Exec.run tyOk 400 rfl ?_
        refine Exec.cut 0 [(5, .v (.int .i64 (x8)))] (M' := []) rfl ⟨rfl, trivial⟩ rfl rfl rfl ?_
        exact Exec.round [(5, .v (.int .i64 (x8)))] ⟨rfl, trivial⟩ ⟨x8, rfl, rfl, hF⟩

def F_clockworkref29_Owner (x1 : TPlacement) (x3 : Str) : Option Int :=
  (bnd (F_clockworkref29_Index x1 x3) fun x4 => (cond (decide (x4 < (0 : Int))) (some (0 : Int)) (req (0 ≤ x4 ∧ x4 < ((x1.Parts).length : Int)) (req (((((atI x1.Parts x4).Dest != (0 : Int))) == true) = true → 0 ≤ x4 ∧ x4 < ((x1.Parts).length : Int)) (cond (((atI x1.Parts x4).Dest != (0 : Int)) && (sLt x3 (cond ((((atI x1.Parts x4).Dest != (0 : Int))) == true) (atI x1.Parts x4) default).Done)) (req (0 ≤ x4 ∧ x4 < ((x1.Parts).length : Int)) (some (atI x1.Parts x4).Dest)) (req (0 ≤ x4 ∧ x4 < ((x1.Parts).length : Int)) (some (atI x1.Parts x4).Node)))))))

set_option maxRecDepth 100000 in
theorem W_clockworkref29_Owner {V : View} (x1 : TPlacement) (x3 : Str) {a2 : Option Addr} {k2 : Nat} (h2 : SlAt cTPart V a2 k2 x1.Parts) {r : Int} (hF : F_clockworkref29_Owner x1 x3 = some r) :
    Spec Try.prog 23 [.agg ⟨[.int .i64 (x1.Version), .slice a2 ((x1.Parts).length) (k2)]⟩, .string ⟨⟨x3⟩⟩] V (fun _ v => v = .int .i64 (r)) := by
  unfold F_clockworkref29_Owner at hF
  refine Spec.enter (T := tyT) Try.func23 rfl (by kernel_rfl) rfl rfl rfl ?_
  refine Exec.run tyOk 400 rfl ?_
  obtain ⟨x4, hx4, hF⟩ := bnd_some hF
  refine Exec.callS (.int .i64 (x4)) rfl rfl (W_clockworkref29_Index x1 x3 h2 hx4) ?_
  refine Exec.run tyOk 400 rfl ?_
  rcases cond_some hF with ⟨hb, hF⟩ | ⟨hb, hF⟩
  · skip
    refine Exec.ifT rfl hb ?_
    refine Exec.run tyOk 400 rfl ?_
    obtain rfl := some_inj hF
    exact Exec.ret tyOk rfl rfl rfl
  · skip
    refine Exec.ifF rfl hb ?_
    refine Exec.run tyOk 400 rfl ?_
    obtain ⟨q5, hF⟩ := req_some hF
    obtain ⟨c6, hr6, hd6⟩ := SlAt.get h2 q5
    obtain rfl := hr6
    refine Exec.ia tyOk rfl rfl ⟨q5.1, q5.2, hd6.some⟩ ?_
    refine Exec.run tyOk 400 rfl ?_
    refine Exec.ld tyOk (x := .int .i64 ((atI x1.Parts x4).Dest)) rfl rfl (RdAt.part hd6 3 1 rfl) rfl rfl ?_
    refine Exec.run tyOk 400 rfl ?_
    obtain ⟨q7, hF⟩ := req_some hF
    obtain ⟨c8, hr8, hd8⟩ := SlAt.gget ((((atI x1.Parts x4).Dest != (0 : Int))) == true) h2 q7
    obtain rfl := hr8
    refine Exec.ia tyOk rfl rfl (fun gg0 => ⟨(q7 (gd1_of gg0)).1, (q7 (gd1_of gg0)).2, (hd8 (gd1_of gg0)).some⟩) ?_
    refine Exec.run tyOk 400 rfl ?_
    refine Exec.ld tyOk (x := .string ⟨⟨(cond ((((atI x1.Parts x4).Dest != (0 : Int))) == true) (atI x1.Parts x4) default).Done⟩⟩) rfl rfl (fun gg0 => (RdAt.part (hd8 (gd1_of gg0)) 4 1 rfl)) rfl rfl ?_
    refine Exec.run tyOk 400 rfl ?_
    rcases cond_some hF with ⟨hb, hF⟩ | ⟨hb, hF⟩
    · skip
      refine Exec.ifT rfl hb ?_
      refine Exec.run tyOk 400 rfl ?_
      obtain ⟨q9, hF⟩ := req_some hF
      obtain ⟨c10, hr10, hd10⟩ := SlAt.get h2 q9
      obtain rfl := hr10
      refine Exec.ia tyOk rfl rfl ⟨q9.1, q9.2, hd10.some⟩ ?_
      refine Exec.run tyOk 400 rfl ?_
      refine Exec.ld tyOk (x := .int .i64 ((atI x1.Parts x4).Dest)) rfl rfl (RdAt.part hd10 3 1 rfl) rfl rfl ?_
      refine Exec.run tyOk 400 rfl ?_
      obtain rfl := some_inj hF
      exact Exec.ret tyOk rfl rfl rfl
    · skip
      refine Exec.ifF rfl hb ?_
      refine Exec.run tyOk 400 rfl ?_
      obtain ⟨q11, hF⟩ := req_some hF
      obtain ⟨c12, hr12, hd12⟩ := SlAt.get h2 q11
      obtain rfl := hr12
      refine Exec.ia tyOk rfl rfl ⟨q11.1, q11.2, hd12.some⟩ ?_
      refine Exec.run tyOk 400 rfl ?_
      refine Exec.ld tyOk (x := .int .i64 ((atI x1.Parts x4).Node)) rfl rfl (RdAt.part hd12 2 1 rfl) rfl rfl ?_
      refine Exec.run tyOk 400 rfl ?_
      obtain rfl := some_inj hF
      exact Exec.ret tyOk rfl rfl rfl

def F_clockworkref29_Nodes_L2 (x1 : TPlacement) (x13 : Int) (J20 : Bool → Option (List Int)) : Nat → Bool → Int → Option (List Int)
  | 0, _, _ => none
  | n33 + 1, x31, x32 => (cond (decide (x32 < (((x1.Parts).length : Nat) : Int))) (req (((x31) == false) = true → 0 ≤ x32 ∧ x32 < ((x1.Parts).length : Int)) (req ((((x31 || ((cond ((x31) == false) (atI x1.Parts x32) default).Node == x13))) == false) = true → 0 ≤ x32 ∧ x32 < ((x1.Parts).length : Int)) (F_clockworkref29_Nodes_L2 x1 x13 J20 n33 (((x31 || ((cond ((x31) == false) (atI x1.Parts x32) default).Node == x13)) || ((cond (((x31 || ((cond ((x31) == false) (atI x1.Parts x32) default).Node == x13))) == false) (atI x1.Parts x32) default).Dest == x13))) ((IntKind.i64.wrap (x32 + (1 : Int))))))) (J20 x31))

def F_clockworkref29_Nodes_L1 (x1 : TPlacement) (J6 : (List Int) → Option (List Int)) : Nat → (List Int) → Int → Option (List Int)
  | 0, _, _ => none
  | n14 + 1, x12, x13 => (bnd (gcall (((decide (x13 ≤ (16 : Int)))) == true) (F_clockworkref29_Valid x1)) fun x17 => (cond ((decide (x13 ≤ (16 : Int))) && x17) (jn (fun (x19 : Bool) => (jn (fun (x24 : List Int) => (F_clockworkref29_Nodes_L1 x1 J6 n14 x24 ((IntKind.i64.wrap (x13 + (1 : Int)))))) (fun J25 => (cond x19 (req (((x12 ++ [x13])).length * 8 ≤ 140737488355328) (J25 ((x12 ++ [x13])))) (J25 x12))))) (fun J20 => (F_clockworkref29_Nodes_L2 x1 x13 J20 (((((x1.Parts).length : Nat) : Int)).toNat + 1) false ((0 : Int))))) (J6 x12)))

def F_clockworkref29_Nodes (x1 : TPlacement) : Option (List Int) :=
  (jn (fun (x5 : List Int) => (some x5)) (fun J6 => (F_clockworkref29_Nodes_L1 x1 J6 (1000000 : Nat) (([] : List Int)) ((1 : Int)))))

set_option maxRecDepth 100000 in
theorem W_clockworkref29_Nodes {V : View} (x1 : TPlacement) {a2 : Option Addr} {k2 : Nat} (h2 : SlAt cTPart V a2 k2 x1.Parts) {r : List Int} (hF : F_clockworkref29_Nodes x1 = some r) :
    Spec Try.prog 26 [.agg ⟨[.int .i64 (x1.Version), .slice a2 ((x1.Parts).length) (k2)]⟩] V (fun V' v => ∃ (a40 : Option Addr) (k40 : Nat), v = .slice a40 ((r).length) (k40) ∧ SlAt (cInt .i64) V' a40 k40 r) := by
  unfold F_clockworkref29_Nodes at hF
  refine Spec.enter (T := tyT) Try.func26 rfl (by kernel_rfl) rfl rfl rfl ?_
  refine Exec.run tyOk 14 rfl ?_
  refine Exec.row0 3 1 rfl ?_
  have h3 : RowRep (cInt .i64) V ([] : List Int) [] := RowRep.nil
  obtain ⟨J6, hJ6, hF⟩ := jn_some hF
  refine Exec.seam (fun L' V' M' => ∃ (x5 : List Int) (a4 : Option Addr) (k4 : Nat) (cs4 : List Value), L' = [(3, .v (.slice a4 ((x5).length) (k4)))] ∧ M' = [.blk [.v (.int .i64 (x1.Version)), .v (.slice a2 ((x1.Parts).length) (k2))] 24, .row (.slice a4 ((x5).length) (k4)) cs4 3 1] ∧ RowRep (cInt .i64) V' x5 cs4 ∧ SlAt cTPart V' a2 k2 x1.Parts ∧ J6 x5 = some r) rfl ?_ ?_
  · rintro L' V7 M' ⟨x5, a4, k4, cs4, rfl, rfl, h4, h8, hF⟩
    subst hJ6
    refine Exec.run tyOk 400 rfl ?_
    refine Exec.frz 1 rfl rfl rfl (fun V9 hv9 hd9 hn9 => ?_)
    have hz9 := RowRep.slat h4 hv9 hd9 hn9
    have h10 := SlAt.mono h8 hv9
    obtain rfl := some_inj hF
    exact Exec.ret tyOk rfl rfl ⟨_, _, rfl, hz9⟩
  · skip
    refine Exec.run tyOk 400 rfl ?_
    refine Exec.loop (fun n14 L' V' M' => ∃ (x12 : List Int) (a11 : Option Addr) (k11 : Nat) (cs11 : List Value) (x13 : Int), L' = [(1, .ptr 0 0), (3, .v (.slice a11 ((x12).length) (k11))), (4, .v (.int .i64 (x13)))] ∧ M' = [.blk [.v (.int .i64 (x1.Version)), .v (.slice a2 ((x1.Parts).length) (k2))] 24, .row (.slice a11 ((x12).length) (k11)) cs11 3 1] ∧ RowRep (cInt .i64) V' x12 cs11 ∧ SlAt cTPart V' a2 k2 x1.Parts ∧ F_clockworkref29_Nodes_L1 x1 J6 n14 x12 x13 = some r) ⟨(1000000 : Nat), [(1, .ptr 0 0), (3, .v (.slice none ((([] : List Int)).length) (0))), (4, .v (.int .i64 ((1 : Int))))], ⟨rfl, rfl, rfl, trivial⟩, ([] : List Int), none, 0, [], (1 : Int), rfl, rfl, h3, h2, hF⟩ ?_
    rintro n14 L' V15 M' ⟨x12, a11, k11, cs11, x13, rfl, rfl, h11, h16, hF⟩
    rcases n14 with _ | n14
    · exact absurd hF (by simp [F_clockworkref29_Nodes_L1])
    rw [F_clockworkref29_Nodes_L1] at hF
    refine Exec.run tyOk 400 rfl ?_
    obtain ⟨x17, hx17, hF⟩ := bnd_some hF
    refine Exec.callS (.bool (x17)) rfl rfl (fun gg0 => W_clockworkref29_Valid x1 h16 (gcall_some hx17 (gd1_of gg0))) ?_
    refine Exec.run tyOk 400 rfl ?_
    rcases cond_some hF with ⟨hb, hF⟩ | ⟨hb, hF⟩
    · skip
      refine Exec.ifT rfl hb ?_
      refine Exec.run tyOk 12 rfl ?_
      obtain ⟨J20, hJ20, hF⟩ := jn_some hF
      refine Exec.seam (fun L' V' M' => ∃ (x19 : Bool), L' = [(1, .ptr 0 0), (3, .v (.slice a11 ((x12).length) (k11))), (4, .v (.int .i64 (x13))), (5, .v (.bool (x19)))] ∧ M' = [.blk [.v (.int .i64 (x1.Version)), .v (.slice a2 ((x1.Parts).length) (k2))] 24, .row (.slice a11 ((x12).length) (k11)) cs11 3 1] ∧ RowRep (cInt .i64) V' x12 cs11 ∧ SlAt cTPart V' a2 k2 x1.Parts ∧ J20 x19 = some r) rfl ?_ ?_
      · rintro L' V21 M' ⟨x19, rfl, rfl, h18, h22, hF⟩
        subst hJ20
        refine Exec.run tyOk 400 rfl ?_
        obtain ⟨J25, hJ25, hF⟩ := jn_some hF
        refine Exec.seam (fun L' V' M' => ∃ (x24 : List Int) (a23 : Option Addr) (k23 : Nat) (cs23 : List Value), L' = [(1, .ptr 0 0), (3, .v (.slice a23 ((x24).length) (k23))), (4, .v (.int .i64 (x13)))] ∧ M' = [.blk [.v (.int .i64 (x1.Version)), .v (.slice a2 ((x1.Parts).length) (k2))] 24, .row (.slice a23 ((x24).length) (k23)) cs23 3 1] ∧ RowRep (cInt .i64) V' x24 cs23 ∧ SlAt cTPart V' a2 k2 x1.Parts ∧ J25 x24 = some r) rfl ?_ ?_
        · rintro L' V26 M' ⟨x24, a23, k23, cs23, rfl, rfl, h23, h27, hF⟩
          subst hJ25
          refine Exec.run tyOk 400 rfl ?_
          exact Exec.round [(1, .ptr 0 0), (3, .v (.slice a23 ((x24).length) (k23))), (4, .v (.int .i64 ((IntKind.i64.wrap (x13 + (1 : Int))))))] ⟨rfl, rfl, rfl, trivial⟩ ⟨n14, Nat.lt_succ_self _, x24, a23, k23, cs23, (IntKind.i64.wrap (x13 + (1 : Int))), rfl, rfl, h23, h27, hF⟩
        · skip
          refine Exec.run tyOk 400 rfl ?_
          rcases cond_some hF with ⟨hb, hF⟩ | ⟨hb, hF⟩
          · skip
            refine Exec.ifT rfl hb ?_
            refine Exec.run tyOk 400 rfl ?_
            refine Exec.bsl tyOk rfl rfl ?_
            refine Exec.run tyOk 400 rfl ?_
            obtain ⟨q29, hF⟩ := req_some hF
            refine Exec.app tyOk 1 2 (nm := ((x12 ++ [x13])).length) rfl rfl rfl rfl rfl rfl rfl rfl rfl (by simp) (fun _ _ => rfl) rfl q29 (fun a28 k28 => ?_)
            have h28 : RowRep (cInt .i64) V21 (x12 ++ [x13]) (cs11 ++ [.int .i64 (x13)]) := RowRep.app h18 ⟨_, _, rfl, rfl, rfl⟩
            refine Exec.run tyOk 400 rfl ?_
            refine Exec.cut 2 [(1, .ptr 0 0), (3, .v (.slice a28 (((x12 ++ [x13])).length) (k28))), (4, .v (.int .i64 (x13)))] (M' := [.blk [.v (.int .i64 (x1.Version)), .v (.slice a2 ((x1.Parts).length) (k2))] 24, .row (.slice a28 (((x12 ++ [x13])).length) (k28)) ((cs11 ++ [.int .i64 (x13)])) 3 1]) rfl ⟨rfl, rfl, rfl, trivial⟩ rfl rfl rfl ?_
            exact Exec.round [(1, .ptr 0 0), (3, .v (.slice a28 (((x12 ++ [x13])).length) (k28))), (4, .v (.int .i64 (x13)))] ⟨rfl, rfl, rfl, trivial⟩ ⟨(x12 ++ [x13]), a28, k28, (cs11 ++ [.int .i64 (x13)]), rfl, rfl, h28, h22, hF⟩
          · skip
            refine Exec.ifF rfl hb ?_
            refine Exec.run tyOk 400 rfl ?_
            exact Exec.round [(1, .ptr 0 0), (3, .v (.slice a11 ((x12).length) (k11))), (4, .v (.int .i64 (x13)))] ⟨rfl, rfl, rfl, trivial⟩ ⟨x12, a11, k11, cs11, rfl, rfl, h18, h22, hF⟩
      · skip
        refine Exec.run tyOk 400 rfl ?_
        refine Exec.loop (fun n33 L' V' M' => ∃ (x31 : Bool) (x32 : Int), L' = [(1, .ptr 0 0), (3, .v (.slice a11 ((x12).length) (k11))), (4, .v (.int .i64 (x13))), (5, .v (.bool (x31))), (6, .v (.int .i64 (x32)))] ∧ M' = [.blk [.v (.int .i64 (x1.Version)), .v (.slice a2 ((x1.Parts).length) (k2))] 24, .row (.slice a11 ((x12).length) (k11)) cs11 3 1] ∧ RowRep (cInt .i64) V' x12 cs11 ∧ SlAt cTPart V' a2 k2 x1.Parts ∧ F_clockworkref29_Nodes_L2 x1 x13 J20 n33 x31 x32 = some r) ⟨(((((x1.Parts).length : Nat) : Int)).toNat + 1), [(1, .ptr 0 0), (3, .v (.slice a11 ((x12).length) (k11))), (4, .v (.int .i64 (x13))), (5, .v (.bool (false))), (6, .v (.int .i64 ((0 : Int))))], ⟨rfl, rfl, rfl, rfl, rfl, trivial⟩, false, (0 : Int), rfl, rfl, h11, h16, hF⟩ ?_
        rintro n33 L' V34 M' ⟨x31, x32, rfl, rfl, h30, h35, hF⟩
        rcases n33 with _ | n33
        · exact absurd hF (by simp [F_clockworkref29_Nodes_L2])
        rw [F_clockworkref29_Nodes_L2] at hF
        refine Exec.run tyOk 400 rfl ?_
        rcases cond_some hF with ⟨hb, hF⟩ | ⟨hb, hF⟩
        · skip
          refine Exec.ifT rfl hb ?_
          refine Exec.run tyOk 400 rfl ?_
          obtain ⟨q36, hF⟩ := req_some hF
          obtain ⟨c37, hr37, hd37⟩ := SlAt.gget ((x31) == false) h35 q36
          obtain rfl := hr37
          refine Exec.ia tyOk rfl rfl (fun gg0 => ⟨(q36 (gd1_of gg0)).1, (q36 (gd1_of gg0)).2, (hd37 (gd1_of gg0)).some⟩) ?_
          refine Exec.run tyOk 400 rfl ?_
          refine Exec.ld tyOk (x := .int .i64 ((cond ((x31) == false) (atI x1.Parts x32) default).Node)) rfl rfl (fun gg0 => (RdAt.part (hd37 (gd1_of gg0)) 2 1 rfl)) rfl rfl ?_
          refine Exec.run tyOk 400 rfl ?_
          obtain ⟨q38, hF⟩ := req_some hF
          obtain ⟨c39, hr39, hd39⟩ := SlAt.gget (((x31 || ((cond ((x31) == false) (atI x1.Parts x32) default).Node == x13))) == false) h35 q38
          obtain rfl := hr39
          refine Exec.ia tyOk rfl rfl (fun gg0 => ⟨(q38 (gd1_of gg0)).1, (q38 (gd1_of gg0)).2, (hd39 (gd1_of gg0)).some⟩) ?_
          refine Exec.run tyOk 400 rfl ?_
          refine Exec.ld tyOk (x := .int .i64 ((cond (((x31 || ((cond ((x31) == false) (atI x1.Parts x32) default).Node == x13))) == false) (atI x1.Parts x32) default).Dest)) rfl rfl (fun gg0 => (RdAt.part (hd39 (gd1_of gg0)) 3 1 rfl)) rfl rfl ?_
          refine Exec.run tyOk 400 rfl ?_
          exact Exec.round [(1, .ptr 0 0), (3, .v (.slice a11 ((x12).length) (k11))), (4, .v (.int .i64 (x13))), (5, .v (.bool (((x31 || ((cond ((x31) == false) (atI x1.Parts x32) default).Node == x13)) || ((cond (((x31 || ((cond ((x31) == false) (atI x1.Parts x32) default).Node == x13))) == false) (atI x1.Parts x32) default).Dest == x13))))), (6, .v (.int .i64 ((IntKind.i64.wrap (x32 + (1 : Int))))))] ⟨rfl, rfl, rfl, rfl, rfl, trivial⟩ ⟨n33, Nat.lt_succ_self _, ((x31 || ((cond ((x31) == false) (atI x1.Parts x32) default).Node == x13)) || ((cond (((x31 || ((cond ((x31) == false) (atI x1.Parts x32) default).Node == x13))) == false) (atI x1.Parts x32) default).Dest == x13)), (IntKind.i64.wrap (x32 + (1 : Int))), rfl, rfl, h30, h35, hF⟩
        · skip
          refine Exec.ifF rfl hb ?_
          refine Exec.run tyOk 400 rfl ?_
          exact Exec.round [(1, .ptr 0 0), (3, .v (.slice a11 ((x12).length) (k11))), (4, .v (.int .i64 (x13))), (5, .v (.bool (x31)))] ⟨rfl, rfl, rfl, rfl, trivial⟩ ⟨x31, rfl, rfl, h30, h35, hF⟩
    · skip
      refine Exec.ifF rfl hb ?_
      refine Exec.run tyOk 400 rfl ?_
      exact Exec.round [(3, .v (.slice a11 ((x12).length) (k11)))] ⟨rfl, trivial⟩ ⟨x12, a11, k11, cs11, rfl, rfl, h11, h16, hF⟩

def F_clockworkref29_Split (x1 : TPlacement) (x3 : Int) (x4 : Str) (x5 : Int) : Option (TPlacement × Int) :=
  (bnd (F_clockworkref29_Valid x1) fun x6 => (cond (!x6) (some ((⟨0, ([] : List TPart)⟩ : TPlacement), (1 : Int))) (bnd (F_clockworkref29_Find x1 x3) fun x7 => (cond (decide (x7 < (0 : Int))) (some ((⟨0, ([] : List TPart)⟩ : TPlacement), (9 : Int))) (req (0 ≤ x7 ∧ x7 < ((x1.Parts).length : Int)) (cond ((atI x1.Parts x7).Dest != (0 : Int)) (some ((⟨0, ([] : List TPart)⟩ : TPlacement), (19 : Int))) (bnd (F_clockworkref29_end x1 x7) fun x10 => (bnd (F_clockworkref29_Bound x4) fun x11 => (req ((((!x11)) == false) = true → 0 ≤ x7 ∧ x7 < ((x1.Parts).length : Int)) (cond (((((!x11) || (!sLt (cond (((!x11)) == false) (atI x1.Parts x7) default).From x4)) || ((x10 != ([] : Str)) && (!sLt x4 x10))) || (decide (x5 < (1 : Int)))) || (decide ((1099511627776 : Int) < x5))) (some ((⟨0, ([] : List TPart)⟩ : TPlacement), (1 : Int))) (bnd (F_clockworkref29_Find x1 x5) fun x14 => (cond (decide ((0 : Int) ≤ x14)) (some ((⟨0, ([] : List TPart)⟩ : TPlacement), (8 : Int))) (cond ((decide ((16 : Int) ≤ (((x1.Parts).length : Nat) : Int))) || (decide ((1099511627776 : Int) ≤ x1.Version))) (some ((⟨0, ([] : List TPart)⟩ : TPlacement), (2 : Int))) (req (true = true → 0 ≤ (0 : Int) ∧ (0 : Int) ≤ (IntKind.i64.wrap (x7 + (1 : Int))) ∧ (IntKind.i64.wrap (x7 + (1 : Int))) ≤ ((x1.Parts).length : Int)) (req (((([] : List TPart) ++ (cond true ((x1.Parts.take ((IntKind.i64.wrap (x7 + (1 : Int)))).toNat).drop ((0 : Int)).toNat) ([] : List TPart)))).length * 56 ≤ 140737488355328) (req (0 ≤ x7 ∧ x7 < ((x1.Parts).length : Int)) (req ((((([] : List TPart) ++ (cond true ((x1.Parts.take ((IntKind.i64.wrap (x7 + (1 : Int)))).toNat).drop ((0 : Int)).toNat) ([] : List TPart))) ++ [(⟨x5, x4, (atI x1.Parts x7).Node, 0, []⟩ : TPart)])).length * 56 ≤ 140737488355328) (req (true = true → 0 ≤ (IntKind.i64.wrap (x7 + (1 : Int))) ∧ (IntKind.i64.wrap (x7 + (1 : Int))) ≤ (((x1.Parts).length : Nat) : Int) ∧ (((x1.Parts).length : Nat) : Int) ≤ ((x1.Parts).length : Int)) (req (((((([] : List TPart) ++ (cond true ((x1.Parts.take ((IntKind.i64.wrap (x7 + (1 : Int)))).toNat).drop ((0 : Int)).toNat) ([] : List TPart))) ++ [(⟨x5, x4, (atI x1.Parts x7).Node, 0, []⟩ : TPart)]) ++ (cond true ((x1.Parts.take ((((x1.Parts).length : Nat) : Int)).toNat).drop ((IntKind.i64.wrap (x7 + (1 : Int)))).toNat) ([] : List TPart)))).length * 56 ≤ 140737488355328) (some ((⟨(IntKind.i64.wrap (x1.Version + (1 : Int))), (((([] : List TPart) ++ (cond true ((x1.Parts.take ((IntKind.i64.wrap (x7 + (1 : Int)))).toNat).drop ((0 : Int)).toNat) ([] : List TPart))) ++ [(⟨x5, x4, (atI x1.Parts x7).Node, 0, []⟩ : TPart)]) ++ (cond true ((x1.Parts.take ((((x1.Parts).length : Nat) : Int)).toNat).drop ((IntKind.i64.wrap (x7 + (1 : Int)))).toNat) ([] : List TPart)))⟩ : TPlacement), (0 : Int))))))))))))))))))))))

set_option maxRecDepth 100000 in
theorem W_clockworkref29_Split {V : View} (x1 : TPlacement) (x3 : Int) (x4 : Str) (x5 : Int) {a2 : Option Addr} {k2 : Nat} (h2 : SlAt cTPart V a2 k2 x1.Parts) {r : TPlacement × Int} (hF : F_clockworkref29_Split x1 x3 x4 x5 = some r) :
    Spec Try.prog 28 [.agg ⟨[.int .i64 (x1.Version), .slice a2 ((x1.Parts).length) (k2)]⟩, .int .i64 (x3), .string ⟨⟨x4⟩⟩, .int .i64 (x5)] V (fun V' v => ∃ (a34 : Option Addr) (k34 : Nat), v = .tuple ⟨[.agg ⟨[.int .i64 (r.1.Version), .slice a34 ((r.1.Parts).length) (k34)]⟩, .int .i64 (r.2)]⟩ ∧ SlAt cTPart V' a34 k34 r.1.Parts) := by
  unfold F_clockworkref29_Split at hF
  refine Spec.enter (T := tyT) Try.func28 rfl (by kernel_rfl) rfl rfl rfl ?_
  refine Exec.run tyOk 400 rfl ?_
  obtain ⟨x6, hx6, hF⟩ := bnd_some hF
  refine Exec.callS (.bool (x6)) rfl rfl (W_clockworkref29_Valid x1 h2 hx6) ?_
  refine Exec.run tyOk 400 rfl ?_
  rcases cond_some hF with ⟨hb, hF⟩ | ⟨hb, hF⟩
  · skip
    refine Exec.ifT rfl hb ?_
    refine Exec.run tyOk 400 rfl ?_
    obtain rfl := some_inj hF
    exact Exec.ret tyOk rfl rfl ⟨_, _, rfl, SlAt.nil⟩
  · skip
    refine Exec.ifF rfl hb ?_
    refine Exec.run tyOk 400 rfl ?_
    obtain ⟨x7, hx7, hF⟩ := bnd_some hF
    refine Exec.callS (.int .i64 (x7)) rfl rfl (W_clockworkref29_Find x1 x3 h2 hx7) ?_
    refine Exec.run tyOk 400 rfl ?_
    rcases cond_some hF with ⟨hb, hF⟩ | ⟨hb, hF⟩
    · skip
      refine Exec.ifT rfl hb ?_
      refine Exec.run tyOk 400 rfl ?_
      obtain rfl := some_inj hF
      exact Exec.ret tyOk rfl rfl ⟨_, _, rfl, SlAt.nil⟩
    · skip
      refine Exec.ifF rfl hb ?_
      refine Exec.run tyOk 400 rfl ?_
      obtain ⟨q8, hF⟩ := req_some hF
      obtain ⟨c9, hr9, hd9⟩ := SlAt.get h2 q8
      obtain rfl := hr9
      refine Exec.ia tyOk rfl rfl ⟨q8.1, q8.2, hd9.some⟩ ?_
      refine Exec.run tyOk 400 rfl ?_
      refine Exec.ld tyOk (x := .int .i64 ((atI x1.Parts x7).Dest)) rfl rfl (RdAt.part hd9 3 1 rfl) rfl rfl ?_
      refine Exec.run tyOk 400 rfl ?_
      rcases cond_some hF with ⟨hb, hF⟩ | ⟨hb, hF⟩
      · skip
        refine Exec.ifT rfl hb ?_
        refine Exec.run tyOk 400 rfl ?_
        obtain rfl := some_inj hF
        exact Exec.ret tyOk rfl rfl ⟨_, _, rfl, SlAt.nil⟩
      · skip
        refine Exec.ifF rfl hb ?_
        refine Exec.run tyOk 400 rfl ?_
        obtain ⟨x10, hx10, hF⟩ := bnd_some hF
        refine Exec.callS (.string ⟨⟨x10⟩⟩) rfl rfl (W_clockworkref29_end x1 x7 h2 hx10) ?_
        refine Exec.run tyOk 400 rfl ?_
        obtain ⟨x11, hx11, hF⟩ := bnd_some hF
        refine Exec.callS (.bool (x11)) rfl rfl (W_clockworkref29_Bound x4  hx11) ?_
        refine Exec.run tyOk 400 rfl ?_
        obtain ⟨q12, hF⟩ := req_some hF
        obtain ⟨c13, hr13, hd13⟩ := SlAt.gget (((!x11)) == false) h2 q12
        obtain rfl := hr13
        refine Exec.ia tyOk rfl rfl (fun gg0 => ⟨(q12 (gd1_of gg0)).1, (q12 (gd1_of gg0)).2, (hd13 (gd1_of gg0)).some⟩) ?_
        refine Exec.run tyOk 400 rfl ?_
        refine Exec.ld tyOk (x := .string ⟨⟨(cond (((!x11)) == false) (atI x1.Parts x7) default).From⟩⟩) rfl rfl (fun gg0 => (RdAt.part (hd13 (gd1_of gg0)) 1 1 rfl)) rfl rfl ?_
        refine Exec.run tyOk 400 rfl ?_
        rcases cond_some hF with ⟨hb, hF⟩ | ⟨hb, hF⟩
        · skip
          refine Exec.ifT rfl hb ?_
          refine Exec.run tyOk 400 rfl ?_
          obtain rfl := some_inj hF
          exact Exec.ret tyOk rfl rfl ⟨_, _, rfl, SlAt.nil⟩
        · skip
          refine Exec.ifF rfl hb ?_
          refine Exec.run tyOk 400 rfl ?_
          obtain ⟨x14, hx14, hF⟩ := bnd_some hF
          refine Exec.callS (.int .i64 (x14)) rfl rfl (W_clockworkref29_Find x1 x5 h2 hx14) ?_
          refine Exec.run tyOk 400 rfl ?_
          rcases cond_some hF with ⟨hb, hF⟩ | ⟨hb, hF⟩
          · skip
            refine Exec.ifT rfl hb ?_
            refine Exec.run tyOk 400 rfl ?_
            obtain rfl := some_inj hF
            exact Exec.ret tyOk rfl rfl ⟨_, _, rfl, SlAt.nil⟩
          · skip
            refine Exec.ifF rfl hb ?_
            refine Exec.run tyOk 400 rfl ?_
            rcases cond_some hF with ⟨hb, hF⟩ | ⟨hb, hF⟩
            · skip
              refine Exec.ifT rfl hb ?_
              refine Exec.run tyOk 400 rfl ?_
              obtain rfl := some_inj hF
              exact Exec.ret tyOk rfl rfl ⟨_, _, rfl, SlAt.nil⟩
            · skip
              refine Exec.ifF rfl hb ?_
              refine Exec.run tyOk 400 rfl ?_
              refine Exec.drawsE tyOk [9] [] [(0, true), (1, true), (2, true), (3, true), (4, true), (5, true), (6, true), (7, false), (8, true), (9, false)] (by kernel_rfl) ?_
              refine Exec.run tyOk 400 rfl ?_
              obtain ⟨q15, hF⟩ := req_some hF
              refine Exec.fgslv tyOk (c := cTPart) (g := true) rfl rfl rfl (lo := (0 : Int)) (hi := (IntKind.i64.wrap (x7 + (1 : Int)))) rfl rfl h2 (by simp) rfl (rfl) q15 (fun a16 k16 h16 => ?_)
              refine Exec.run tyOk 400 rfl ?_
              refine Exec.row0 49 5 rfl ?_
              have h17 : RowRep cTPart V [] [] := RowRep.nil
              obtain ⟨q19, hF⟩ := req_some hF
              refine Exec.appS tyOk (cd := cTPart) 3 (nm := ((([] : List TPart) ++ (cond true ((x1.Parts.take ((IntKind.i64.wrap (x7 + (1 : Int)))).toNat).drop ((0 : Int)).toNat) ([] : List TPart)))).length) rfl rfl rfl rfl rfl rfl h16 (by first | rfl | simp) (by first | rfl | exact List.length_append.symm | simp) (fun _ _ _ => rfl) rfl q19 (fun cs18 hs18 a18 k18 => ?_)
              have h18 : RowRep cTPart V (([] : List TPart) ++ (cond true ((x1.Parts.take ((IntKind.i64.wrap (x7 + (1 : Int)))).toNat).drop ((0 : Int)).toNat) ([] : List TPart))) ([] ++ cs18) := RowRep.app h17 hs18
              refine Exec.run tyOk 400 rfl ?_
              refine Exec.drawsE tyOk [14] [3] [(0, true), (1, true), (2, true), (3, true), (4, true), (5, true), (6, true), (7, true), (8, true), (9, true), (10, true), (11, false), (12, false), (13, true), (14, false)] (by kernel_rfl) ?_
              refine Exec.run tyOk 400 rfl ?_
              obtain ⟨q20, hF⟩ := req_some hF
              obtain ⟨c21, hr21, hd21⟩ := SlAt.get h2 q20
              obtain rfl := hr21
              refine Exec.fia tyOk rfl rfl rfl ⟨q20.1, q20.2, hd21.some⟩ ?_
              refine Exec.run tyOk 400 rfl ?_
              refine Exec.fld tyOk (x := .int .i64 ((atI x1.Parts x7).Node)) rfl rfl rfl (RdAt.part hd21 2 1 rfl) rfl rfl ?_
              refine Exec.run tyOk 400 rfl ?_
              refine Exec.bsl tyOk rfl rfl ?_
              refine Exec.run tyOk 400 rfl ?_
              obtain ⟨q23, hF⟩ := req_some hF
              refine Exec.app tyOk 3 4 (nm := (((([] : List TPart) ++ (cond true ((x1.Parts.take ((IntKind.i64.wrap (x7 + (1 : Int)))).toNat).drop ((0 : Int)).toNat) ([] : List TPart))) ++ [(⟨x5, x4, (atI x1.Parts x7).Node, 0, []⟩ : TPart)])).length) rfl rfl rfl rfl rfl rfl rfl rfl rfl (by simp) (fun _ _ => rfl) rfl q23 (fun a22 k22 => ?_)
              have h22 : RowRep cTPart V ((([] : List TPart) ++ (cond true ((x1.Parts.take ((IntKind.i64.wrap (x7 + (1 : Int)))).toNat).drop ((0 : Int)).toNat) ([] : List TPart))) ++ [(⟨x5, x4, (atI x1.Parts x7).Node, 0, []⟩ : TPart)]) (([] ++ cs18) ++ [.int .i64 (x5), .string ⟨⟨x4⟩⟩, .int .i64 ((atI x1.Parts x7).Node), .int .i64 (0), .string ⟨⟨[]⟩⟩]) := RowRep.app h18 ⟨_, _, rfl, rfl, rfl⟩
              refine Exec.run tyOk 400 rfl ?_
              refine Exec.drawsE tyOk [9] [3] [(0, true), (1, true), (2, true), (3, true), (4, true), (5, true), (6, true), (7, false), (8, true), (9, false)] (by kernel_rfl) ?_
              refine Exec.run tyOk 400 rfl ?_
              obtain ⟨q24, hF⟩ := req_some hF
              refine Exec.fgslv tyOk (c := cTPart) (g := true) rfl rfl rfl (lo := (IntKind.i64.wrap (x7 + (1 : Int)))) (hi := (((x1.Parts).length : Nat) : Int)) rfl rfl h2 (by simp) rfl (rfl) q24 (fun a25 k25 h25 => ?_)
              refine Exec.run tyOk 400 rfl ?_
              obtain ⟨q27, hF⟩ := req_some hF
              refine Exec.appS tyOk (cd := cTPart) 3 (nm := ((((([] : List TPart) ++ (cond true ((x1.Parts.take ((IntKind.i64.wrap (x7 + (1 : Int)))).toNat).drop ((0 : Int)).toNat) ([] : List TPart))) ++ [(⟨x5, x4, (atI x1.Parts x7).Node, 0, []⟩ : TPart)]) ++ (cond true ((x1.Parts.take ((((x1.Parts).length : Nat) : Int)).toNat).drop ((IntKind.i64.wrap (x7 + (1 : Int)))).toNat) ([] : List TPart)))).length) rfl rfl rfl rfl rfl rfl h25 (by first | rfl | simp) (by first | rfl | exact List.length_append.symm | simp) (fun _ _ _ => rfl) rfl q27 (fun cs26 hs26 a26 k26 => ?_)
              have h26 : RowRep cTPart V (((([] : List TPart) ++ (cond true ((x1.Parts.take ((IntKind.i64.wrap (x7 + (1 : Int)))).toNat).drop ((0 : Int)).toNat) ([] : List TPart))) ++ [(⟨x5, x4, (atI x1.Parts x7).Node, 0, []⟩ : TPart)]) ++ (cond true ((x1.Parts.take ((((x1.Parts).length : Nat) : Int)).toNat).drop ((IntKind.i64.wrap (x7 + (1 : Int)))).toNat) ([] : List TPart))) ((([] ++ cs18) ++ [.int .i64 (x5), .string ⟨⟨x4⟩⟩, .int .i64 ((atI x1.Parts x7).Node), .int .i64 (0), .string ⟨⟨[]⟩⟩]) ++ cs26) := RowRep.app h22 hs26
              refine Exec.run tyOk 400 rfl ?_
              refine Exec.frz 3 rfl rfl rfl (fun V28 hv28 hd28 hn28 => ?_)
              have hz28 := RowRep.slat h26 hv28 hd28 hn28
              have h29 := SlAt.mono h2 hv28
              have h31 := SlAt.mono h16 hv28
              have h33 := SlAt.mono h25 hv28
              obtain rfl := some_inj hF
              exact Exec.ret tyOk rfl rfl ⟨_, _, rfl, hz28⟩

def F_clockworkref29_Merge (x1 : TPlacement) (x3 : Int) : Option (TPlacement × Int) :=
  (bnd (F_clockworkref29_Valid x1) fun x4 => (cond (!x4) (some ((⟨0, ([] : List TPart)⟩ : TPlacement), (1 : Int))) (bnd (F_clockworkref29_Find x1 x3) fun x5 => (cond ((decide (x5 < (0 : Int))) || (decide ((((x1.Parts).length : Nat) : Int) ≤ (IntKind.i64.wrap (x5 + (1 : Int)))))) (some ((⟨0, ([] : List TPart)⟩ : TPlacement), (9 : Int))) (req (0 ≤ x5 ∧ x5 < ((x1.Parts).length : Int)) (req (((((atI x1.Parts x5).Dest != (0 : Int))) == false) = true → 0 ≤ (IntKind.i64.wrap (x5 + (1 : Int))) ∧ (IntKind.i64.wrap (x5 + (1 : Int))) < ((x1.Parts).length : Int)) (req ((((((atI x1.Parts x5).Dest != (0 : Int)) || ((cond ((((atI x1.Parts x5).Dest != (0 : Int))) == false) (atI x1.Parts ((IntKind.i64.wrap (x5 + (1 : Int))))) default).Dest != (0 : Int)))) == false) = true → 0 ≤ x5 ∧ x5 < ((x1.Parts).length : Int)) (req ((((((atI x1.Parts x5).Dest != (0 : Int)) || ((cond ((((atI x1.Parts x5).Dest != (0 : Int))) == false) (atI x1.Parts ((IntKind.i64.wrap (x5 + (1 : Int))))) default).Dest != (0 : Int)))) == false) = true → 0 ≤ (IntKind.i64.wrap (x5 + (1 : Int))) ∧ (IntKind.i64.wrap (x5 + (1 : Int))) < ((x1.Parts).length : Int)) (cond ((((atI x1.Parts x5).Dest != (0 : Int)) || ((cond ((((atI x1.Parts x5).Dest != (0 : Int))) == false) (atI x1.Parts ((IntKind.i64.wrap (x5 + (1 : Int))))) default).Dest != (0 : Int))) || ((cond (((((atI x1.Parts x5).Dest != (0 : Int)) || ((cond ((((atI x1.Parts x5).Dest != (0 : Int))) == false) (atI x1.Parts ((IntKind.i64.wrap (x5 + (1 : Int))))) default).Dest != (0 : Int)))) == false) (atI x1.Parts x5) default).Node != (cond (((((atI x1.Parts x5).Dest != (0 : Int)) || ((cond ((((atI x1.Parts x5).Dest != (0 : Int))) == false) (atI x1.Parts ((IntKind.i64.wrap (x5 + (1 : Int))))) default).Dest != (0 : Int)))) == false) (atI x1.Parts ((IntKind.i64.wrap (x5 + (1 : Int))))) default).Node)) (some ((⟨0, ([] : List TPart)⟩ : TPlacement), (19 : Int))) (cond (decide ((1099511627776 : Int) ≤ x1.Version)) (some ((⟨0, ([] : List TPart)⟩ : TPlacement), (2 : Int))) (req (true = true → 0 ≤ (0 : Int) ∧ (0 : Int) ≤ (IntKind.i64.wrap (x5 + (1 : Int))) ∧ (IntKind.i64.wrap (x5 + (1 : Int))) ≤ ((x1.Parts).length : Int)) (req (((([] : List TPart) ++ (cond true ((x1.Parts.take ((IntKind.i64.wrap (x5 + (1 : Int)))).toNat).drop ((0 : Int)).toNat) ([] : List TPart)))).length * 56 ≤ 140737488355328) (req (true = true → 0 ≤ (IntKind.i64.wrap (x5 + (2 : Int))) ∧ (IntKind.i64.wrap (x5 + (2 : Int))) ≤ (((x1.Parts).length : Nat) : Int) ∧ (((x1.Parts).length : Nat) : Int) ≤ ((x1.Parts).length : Int)) (req ((((([] : List TPart) ++ (cond true ((x1.Parts.take ((IntKind.i64.wrap (x5 + (1 : Int)))).toNat).drop ((0 : Int)).toNat) ([] : List TPart))) ++ (cond true ((x1.Parts.take ((((x1.Parts).length : Nat) : Int)).toNat).drop ((IntKind.i64.wrap (x5 + (2 : Int)))).toNat) ([] : List TPart)))).length * 56 ≤ 140737488355328) (some ((⟨(IntKind.i64.wrap (x1.Version + (1 : Int))), ((([] : List TPart) ++ (cond true ((x1.Parts.take ((IntKind.i64.wrap (x5 + (1 : Int)))).toNat).drop ((0 : Int)).toNat) ([] : List TPart))) ++ (cond true ((x1.Parts.take ((((x1.Parts).length : Nat) : Int)).toNat).drop ((IntKind.i64.wrap (x5 + (2 : Int)))).toNat) ([] : List TPart)))⟩ : TPlacement), (0 : Int)))))))))))))))))

set_option maxRecDepth 100000 in
theorem W_clockworkref29_Merge {V : View} (x1 : TPlacement) (x3 : Int) {a2 : Option Addr} {k2 : Nat} (h2 : SlAt cTPart V a2 k2 x1.Parts) {r : TPlacement × Int} (hF : F_clockworkref29_Merge x1 x3 = some r) :
    Spec Try.prog 30 [.agg ⟨[.int .i64 (x1.Version), .slice a2 ((x1.Parts).length) (k2)]⟩, .int .i64 (x3)] V (fun V' v => ∃ (a28 : Option Addr) (k28 : Nat), v = .tuple ⟨[.agg ⟨[.int .i64 (r.1.Version), .slice a28 ((r.1.Parts).length) (k28)]⟩, .int .i64 (r.2)]⟩ ∧ SlAt cTPart V' a28 k28 r.1.Parts) := by
  unfold F_clockworkref29_Merge at hF
  refine Spec.enter (T := tyT) Try.func30 rfl (by kernel_rfl) rfl rfl rfl ?_
  refine Exec.run tyOk 400 rfl ?_
  obtain ⟨x4, hx4, hF⟩ := bnd_some hF
  refine Exec.callS (.bool (x4)) rfl rfl (W_clockworkref29_Valid x1 h2 hx4) ?_
  refine Exec.run tyOk 400 rfl ?_
  rcases cond_some hF with ⟨hb, hF⟩ | ⟨hb, hF⟩
  · skip
    refine Exec.ifT rfl hb ?_
    refine Exec.run tyOk 400 rfl ?_
    obtain rfl := some_inj hF
    exact Exec.ret tyOk rfl rfl ⟨_, _, rfl, SlAt.nil⟩
  · skip
    refine Exec.ifF rfl hb ?_
    refine Exec.run tyOk 400 rfl ?_
    obtain ⟨x5, hx5, hF⟩ := bnd_some hF
    refine Exec.callS (.int .i64 (x5)) rfl rfl (W_clockworkref29_Find x1 x3 h2 hx5) ?_
    refine Exec.run tyOk 400 rfl ?_
    rcases cond_some hF with ⟨hb, hF⟩ | ⟨hb, hF⟩
    · skip
      refine Exec.ifT rfl hb ?_
      refine Exec.run tyOk 400 rfl ?_
      obtain rfl := some_inj hF
      exact Exec.ret tyOk rfl rfl ⟨_, _, rfl, SlAt.nil⟩
    · skip
      refine Exec.ifF rfl hb ?_
      refine Exec.run tyOk 400 rfl ?_
      refine Exec.draws tyOk [(0, true), (1, true), (2, true), (3, true), (4, true), (5, true), (6, true), (7, true), (8, true), (9, true), (10, true), (11, true), (12, true), (13, true), (14, true), (15, true), (16, true), (17, true), (18, true), (19, true), (20, true), (21, true), (22, true), (23, true), (24, true), (25, true), (26, true), (27, true), (28, true), (29, true), (30, true), (31, true), (32, true)] rfl (by kernel_rfl) ?_
      refine Exec.run tyOk 400 rfl ?_
      obtain ⟨q6, hF⟩ := req_some hF
      obtain ⟨c7, hr7, hd7⟩ := SlAt.get h2 q6
      obtain rfl := hr7
      refine Exec.fia tyOk rfl rfl rfl ⟨q6.1, q6.2, hd7.some⟩ ?_
      refine Exec.run tyOk 400 rfl ?_
      refine Exec.fld tyOk (x := .int .i64 ((atI x1.Parts x5).Dest)) rfl rfl rfl (RdAt.part hd7 3 1 rfl) rfl rfl ?_
      refine Exec.run tyOk 400 rfl ?_
      obtain ⟨q8, hF⟩ := req_some hF
      obtain ⟨c9, hr9, hd9⟩ := SlAt.gget ((((atI x1.Parts x5).Dest != (0 : Int))) == false) h2 q8
      obtain rfl := hr9
      refine Exec.fia tyOk rfl rfl rfl (fun gg0 => ⟨(q8 (gd1_of gg0)).1, (q8 (gd1_of gg0)).2, (hd9 (gd1_of gg0)).some⟩) ?_
      refine Exec.run tyOk 400 rfl ?_
      refine Exec.fld tyOk (x := .int .i64 ((cond ((((atI x1.Parts x5).Dest != (0 : Int))) == false) (atI x1.Parts ((IntKind.i64.wrap (x5 + (1 : Int))))) default).Dest)) rfl rfl rfl (fun gg0 => (RdAt.part (hd9 (gd1_of gg0)) 3 1 rfl)) rfl rfl ?_
      refine Exec.run tyOk 400 rfl ?_
      obtain ⟨q10, hF⟩ := req_some hF
      obtain ⟨c11, hr11, hd11⟩ := SlAt.gget (((((atI x1.Parts x5).Dest != (0 : Int)) || ((cond ((((atI x1.Parts x5).Dest != (0 : Int))) == false) (atI x1.Parts ((IntKind.i64.wrap (x5 + (1 : Int))))) default).Dest != (0 : Int)))) == false) h2 q10
      obtain rfl := hr11
      refine Exec.fia tyOk rfl rfl rfl (fun gg0 => ⟨(q10 (gd1_of gg0)).1, (q10 (gd1_of gg0)).2, (hd11 (gd1_of gg0)).some⟩) ?_
      refine Exec.run tyOk 400 rfl ?_
      refine Exec.fld tyOk (x := .int .i64 ((cond (((((atI x1.Parts x5).Dest != (0 : Int)) || ((cond ((((atI x1.Parts x5).Dest != (0 : Int))) == false) (atI x1.Parts ((IntKind.i64.wrap (x5 + (1 : Int))))) default).Dest != (0 : Int)))) == false) (atI x1.Parts x5) default).Node)) rfl rfl rfl (fun gg0 => (RdAt.part (hd11 (gd1_of gg0)) 2 1 rfl)) rfl rfl ?_
      refine Exec.run tyOk 400 rfl ?_
      obtain ⟨q12, hF⟩ := req_some hF
      obtain ⟨c13, hr13, hd13⟩ := SlAt.gget (((((atI x1.Parts x5).Dest != (0 : Int)) || ((cond ((((atI x1.Parts x5).Dest != (0 : Int))) == false) (atI x1.Parts ((IntKind.i64.wrap (x5 + (1 : Int))))) default).Dest != (0 : Int)))) == false) h2 q12
      obtain rfl := hr13
      refine Exec.fia tyOk rfl rfl rfl (fun gg0 => ⟨(q12 (gd1_of gg0)).1, (q12 (gd1_of gg0)).2, (hd13 (gd1_of gg0)).some⟩) ?_
      refine Exec.run tyOk 400 rfl ?_
      refine Exec.fld tyOk (x := .int .i64 ((cond (((((atI x1.Parts x5).Dest != (0 : Int)) || ((cond ((((atI x1.Parts x5).Dest != (0 : Int))) == false) (atI x1.Parts ((IntKind.i64.wrap (x5 + (1 : Int))))) default).Dest != (0 : Int)))) == false) (atI x1.Parts ((IntKind.i64.wrap (x5 + (1 : Int))))) default).Node)) rfl rfl rfl (fun gg0 => (RdAt.part (hd13 (gd1_of gg0)) 2 1 rfl)) rfl rfl ?_
      refine Exec.run tyOk 400 rfl ?_
      rcases cond_some hF with ⟨hb, hF⟩ | ⟨hb, hF⟩
      · skip
        refine Exec.ifT rfl hb ?_
        refine Exec.run tyOk 400 rfl ?_
        obtain rfl := some_inj hF
        exact Exec.ret tyOk rfl rfl ⟨_, _, rfl, SlAt.nil⟩
      · skip
        refine Exec.ifF rfl hb ?_
        refine Exec.run tyOk 400 rfl ?_
        rcases cond_some hF with ⟨hb, hF⟩ | ⟨hb, hF⟩
        · skip
          refine Exec.ifT rfl hb ?_
          refine Exec.run tyOk 400 rfl ?_
          obtain rfl := some_inj hF
          exact Exec.ret tyOk rfl rfl ⟨_, _, rfl, SlAt.nil⟩
        · skip
          refine Exec.ifF rfl hb ?_
          refine Exec.run tyOk 400 rfl ?_
          refine Exec.drawsE tyOk [9] [] [(0, true), (1, true), (2, true), (3, true), (4, true), (5, true), (6, true), (7, false), (8, true), (9, false)] (by kernel_rfl) ?_
          refine Exec.run tyOk 400 rfl ?_
          obtain ⟨q14, hF⟩ := req_some hF
          refine Exec.fgslv tyOk (c := cTPart) (g := true) rfl rfl rfl (lo := (0 : Int)) (hi := (IntKind.i64.wrap (x5 + (1 : Int)))) rfl rfl h2 (by simp) rfl (rfl) q14 (fun a15 k15 h15 => ?_)
          refine Exec.run tyOk 400 rfl ?_
          refine Exec.row0 49 5 rfl ?_
          have h16 : RowRep cTPart V [] [] := RowRep.nil
          obtain ⟨q18, hF⟩ := req_some hF
          refine Exec.appS tyOk (cd := cTPart) 3 (nm := ((([] : List TPart) ++ (cond true ((x1.Parts.take ((IntKind.i64.wrap (x5 + (1 : Int)))).toNat).drop ((0 : Int)).toNat) ([] : List TPart)))).length) rfl rfl rfl rfl rfl rfl h15 (by first | rfl | simp) (by first | rfl | exact List.length_append.symm | simp) (fun _ _ _ => rfl) rfl q18 (fun cs17 hs17 a17 k17 => ?_)
          have h17 : RowRep cTPart V (([] : List TPart) ++ (cond true ((x1.Parts.take ((IntKind.i64.wrap (x5 + (1 : Int)))).toNat).drop ((0 : Int)).toNat) ([] : List TPart))) ([] ++ cs17) := RowRep.app h16 hs17
          refine Exec.run tyOk 400 rfl ?_
          refine Exec.drawsE tyOk [9] [3] [(0, true), (1, true), (2, true), (3, true), (4, true), (5, true), (6, true), (7, false), (8, true), (9, false)] (by kernel_rfl) ?_
          refine Exec.run tyOk 400 rfl ?_
          obtain ⟨q19, hF⟩ := req_some hF
          refine Exec.fgslv tyOk (c := cTPart) (g := true) rfl rfl rfl (lo := (IntKind.i64.wrap (x5 + (2 : Int)))) (hi := (((x1.Parts).length : Nat) : Int)) rfl rfl h2 (by simp) rfl (rfl) q19 (fun a20 k20 h20 => ?_)
          refine Exec.run tyOk 400 rfl ?_
          obtain ⟨q22, hF⟩ := req_some hF
          refine Exec.appS tyOk (cd := cTPart) 3 (nm := (((([] : List TPart) ++ (cond true ((x1.Parts.take ((IntKind.i64.wrap (x5 + (1 : Int)))).toNat).drop ((0 : Int)).toNat) ([] : List TPart))) ++ (cond true ((x1.Parts.take ((((x1.Parts).length : Nat) : Int)).toNat).drop ((IntKind.i64.wrap (x5 + (2 : Int)))).toNat) ([] : List TPart)))).length) rfl rfl rfl rfl rfl rfl h20 (by first | rfl | simp) (by first | rfl | exact List.length_append.symm | simp) (fun _ _ _ => rfl) rfl q22 (fun cs21 hs21 a21 k21 => ?_)
          have h21 : RowRep cTPart V ((([] : List TPart) ++ (cond true ((x1.Parts.take ((IntKind.i64.wrap (x5 + (1 : Int)))).toNat).drop ((0 : Int)).toNat) ([] : List TPart))) ++ (cond true ((x1.Parts.take ((((x1.Parts).length : Nat) : Int)).toNat).drop ((IntKind.i64.wrap (x5 + (2 : Int)))).toNat) ([] : List TPart))) (([] ++ cs17) ++ cs21) := RowRep.app h17 hs21
          refine Exec.run tyOk 400 rfl ?_
          refine Exec.frz 3 rfl rfl rfl (fun V23 hv23 hd23 hn23 => ?_)
          have hz23 := RowRep.slat h21 hv23 hd23 hn23
          have h24 := SlAt.mono h2 hv23
          have h26 := SlAt.mono h15 hv23
          have h27 := SlAt.mono h20 hv23
          obtain rfl := some_inj hF
          exact Exec.ret tyOk rfl rfl ⟨_, _, rfl, hz23⟩

def F_placement_find (x1 : List TPart) (x3 : Int) : Option Int :=
  (bnd (F_slices_IndexFunc_api_Part_api_Part x1 (fun y0 => F_placement_find_1 y0 x3)) fun x6 => (some x6))

set_option maxRecDepth 100000 in
theorem W_placement_find {V : View} (x1 : List TPart) (x3 : Int) {a2 : Option Addr} {k2 : Nat} (h2 : SlAt cTPart V a2 k2 x1) {r : Int} (hF : F_placement_find x1 x3 = some r) :
    Spec Try.prog 40 [.slice a2 ((x1).length) (k2), .int .i64 (x3)] V (fun _ v => v = .int .i64 (r)) := by
  unfold F_placement_find at hF
  refine Spec.enter (T := tyT) Try.func40 rfl (by kernel_rfl) rfl rfl rfl ?_
  refine Exec.run tyOk 400 rfl ?_
  refine Exec.openB 0 rfl rfl rfl rfl (fun _ => rfl) (fun _ => rfl) (fun V4 b4 hv4 hd4 => ?_)
  have h5 := SlAt.mono h2 hv4
  refine Exec.mkf rfl rfl ?_
  refine Exec.run tyOk 400 rfl ?_
  obtain ⟨x6, hx6, hF⟩ := bnd_some hF
  refine Exec.callS (.int .i64 (x6)) rfl rfl (W_slices_IndexFunc_api_Part_api_Part x1 (fun y0 => F_placement_find_1 y0 x3) h5 (fun V' hv y0 r hr => W_placement_find_1 y0 x3 (RdAt.mono hd4 hv) hr) hx6) ?_
  refine Exec.run tyOk 400 rfl ?_
  obtain rfl := some_inj hF
  exact Exec.ret tyOk rfl rfl rfl

def F_clockworkref02_TakeInt (x1 : Str) (x2 : Int) : Option (Int × Int × Int) :=
  (bnd (F_clockworkref02_TakeUint x1 x2) fun x3 => (cond (x3.2.2 != (0 : Int)) (some ((0 : Int), (0 : Int), x3.2.2)) (bnd (F_clockworkref02_Unfold x3.1) fun x4 => (some (x4, x3.2.1, (0 : Int))))))

set_option maxRecDepth 100000 in
theorem W_clockworkref02_TakeInt {V : View} (x1 : Str) (x2 : Int)   {r : Int × Int × Int} (hF : F_clockworkref02_TakeInt x1 x2 = some r) :
    Spec Try.prog 52 [.string ⟨⟨x1⟩⟩, .int .i64 (x2)] V (fun _ v => v = .tuple ⟨[.int .i64 (r.1), .int .i64 (r.2.1), .int .i64 (r.2.2)]⟩) := by
  unfold F_clockworkref02_TakeInt at hF
  refine Spec.enter (T := tyT) Try.func52 rfl (by kernel_rfl) rfl rfl rfl ?_
  refine Exec.run tyOk 400 rfl ?_
  obtain ⟨x3, hx3, hF⟩ := bnd_some hF
  refine Exec.callS (.tuple ⟨[.int .u64 (x3.1), .int .i64 (x3.2.1), .int .i64 (x3.2.2)]⟩) rfl rfl (W_clockworkref02_TakeUint x1 x2  hx3) ?_
  refine Exec.run tyOk 400 rfl ?_
  rcases cond_some hF with ⟨hb, hF⟩ | ⟨hb, hF⟩
  · skip
    refine Exec.ifT rfl hb ?_
    refine Exec.run tyOk 400 rfl ?_
    obtain rfl := some_inj hF
    exact Exec.ret tyOk rfl rfl rfl
  · skip
    refine Exec.ifF rfl hb ?_
    refine Exec.run tyOk 400 rfl ?_
    obtain ⟨x4, hx4, hF⟩ := bnd_some hF
    refine Exec.callS (.int .i64 (x4)) rfl rfl (W_clockworkref02_Unfold x3.1  hx4) ?_
    refine Exec.run tyOk 400 rfl ?_
    obtain rfl := some_inj hF
    exact Exec.ret tyOk rfl rfl rfl

def F_clockworkref02_TakeCount (x1 : Str) (x2 : Int) (x3 : Int) : Option (Int × Int × Int) :=
  (bnd (F_clockworkref02_TakeUint x1 x2) fun x4 => (cond (x4.2.2 != (0 : Int)) (some ((0 : Int), (0 : Int), x4.2.2)) (cond ((decide (x3 < (0 : Int))) || (decide ((IntKind.u64.wrap x3) < x4.1))) (some ((0 : Int), (0 : Int), (2 : Int))) (cond (decide ((IntKind.u64.wrap (IntKind.i64.wrap (((x1).length : Int) - x4.2.1))) < x4.1)) (some ((0 : Int), (0 : Int), (6 : Int))) (some ((IntKind.i64.wrap x4.1), x4.2.1, (0 : Int)))))))

set_option maxRecDepth 100000 in
theorem W_clockworkref02_TakeCount {V : View} (x1 : Str) (x2 : Int) (x3 : Int)   {r : Int × Int × Int} (hF : F_clockworkref02_TakeCount x1 x2 x3 = some r) :
    Spec Try.prog 53 [.string ⟨⟨x1⟩⟩, .int .i64 (x2), .int .i64 (x3)] V (fun _ v => v = .tuple ⟨[.int .i64 (r.1), .int .i64 (r.2.1), .int .i64 (r.2.2)]⟩) := by
  unfold F_clockworkref02_TakeCount at hF
  refine Spec.enter (T := tyT) Try.func53 rfl (by kernel_rfl) rfl rfl rfl ?_
  refine Exec.run tyOk 400 rfl ?_
  obtain ⟨x4, hx4, hF⟩ := bnd_some hF
  refine Exec.callS (.tuple ⟨[.int .u64 (x4.1), .int .i64 (x4.2.1), .int .i64 (x4.2.2)]⟩) rfl rfl (W_clockworkref02_TakeUint x1 x2  hx4) ?_
  refine Exec.run tyOk 400 rfl ?_
  rcases cond_some hF with ⟨hb, hF⟩ | ⟨hb, hF⟩
  · skip
    refine Exec.ifT rfl hb ?_
    refine Exec.run tyOk 400 rfl ?_
    obtain rfl := some_inj hF
    exact Exec.ret tyOk rfl rfl rfl
  · skip
    refine Exec.ifF rfl hb ?_
    refine Exec.run tyOk 400 rfl ?_
    rcases cond_some hF with ⟨hb, hF⟩ | ⟨hb, hF⟩
    · skip
      refine Exec.ifT rfl hb ?_
      refine Exec.run tyOk 400 rfl ?_
      obtain rfl := some_inj hF
      exact Exec.ret tyOk rfl rfl rfl
    · skip
      refine Exec.ifF rfl hb ?_
      refine Exec.run tyOk 400 rfl ?_
      rcases cond_some hF with ⟨hb, hF⟩ | ⟨hb, hF⟩
      · skip
        refine Exec.ifT rfl hb ?_
        refine Exec.run tyOk 400 rfl ?_
        obtain rfl := some_inj hF
        exact Exec.ret tyOk rfl rfl rfl
      · skip
        refine Exec.ifF rfl hb ?_
        refine Exec.run tyOk 400 rfl ?_
        obtain rfl := some_inj hF
        exact Exec.ret tyOk rfl rfl rfl

end Go.Proofs.Ytdkakeiccefbgaa
