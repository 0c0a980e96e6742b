/-
  Functions of the program as their counterparts say them (printed by a program).
  Conditions: none.
-/
import Derived.Test.YtcgmfmpfmfjmoaaGreatHb
set_option linter.all false
namespace Go.Proofs.YtcgmfmpfmfjmoaaGreat

def F_slices_Contains_string_string (x1 : List Str) (x3 : Str) : Option Bool :=
  (bnd (F_slices_Index_string_string x1 x3) fun x4 => (some (decide ((0 : Int) ≤ x4))))

set_option maxRecDepth 100000 in
theorem W_slices_Contains_string_string {V : View} (x1 : List Str) (x3 : Str) {a2 : Option Addr} {k2 : Nat} (h2 : SlAt cStr V a2 k2 x1) {r : Bool} (hF : F_slices_Contains_string_string x1 x3 = some r) :
    Spec Tryz.prog 65 [.slice a2 ((x1).length) (k2), .string ⟨⟨x3⟩⟩] V (fun _ v => v = .bool (r)) := by
  unfold F_slices_Contains_string_string at hF
  refine Spec.enter (T := tyT) Tryz.func65 rfl (by kernel_rfl) rfl rfl rfl ?_
  refine Exec.run tyOk 400 rfl ?_
  obtain ⟨x4, hx4, hF⟩ := bnd_some hF
  refine Exec.callS (.int .i64 (x4)) rfl rfl (W_slices_Index_string_string x1 x3 h2 hx4) ?_
  refine Exec.run tyOk 400 rfl ?_
  obtain rfl := some_inj hF
  exact Exec.ret tyOk rfl rfl rfl

def F_clockworkref29_Valid_L2 (x7 : Int) (x1 : TPlacement) (J21 : Option Bool) : Nat → Int → Option Bool
  | 0, _ => none
  | n25 + 1, x24 => (cond (decide (x24 < x7)) (req (0 ≤ x24 ∧ x24 < ((x1.Parts).length : Int)) (cond ((atI x1.Parts x24).Id == (atI x1.Parts x7).Id) (some false) (F_clockworkref29_Valid_L2 x7 x1 J21 n25 ((IntKind.i64.wrap (x24 + (1 : Int))))))) J21)

def F_clockworkref29_Valid_L1 (x1 : TPlacement) (J5 : Option Bool) : Nat → Int → Option Bool
  | 0, _ => none
  | n8 + 1, x7 => (cond (decide (x7 < (((x1.Parts).length : Nat) : Int))) (req (0 ≤ x7 ∧ x7 < ((x1.Parts).length : Int)) (jn (fun (x13 : Str) => (bnd (F_clockworkref29_Bound ((atI x1.Parts x7).From)) fun x17 => (req (((((decide ((0 : Int) < x7))) == true) && (((!x17)) == false)) = true → 0 ≤ (IntKind.i64.wrap (x7 - (1 : Int))) ∧ (IntKind.i64.wrap (x7 - (1 : Int))) < ((x1.Parts).length : Int)) (bnd (gcall ((((((((!x17) || ((decide ((0 : Int) < x7)) && (!sLt (cond ((((decide ((0 : Int) < x7))) == true) && (((!x17)) == false)) (atI x1.Parts ((IntKind.i64.wrap (x7 - (1 : Int))))) default).From (atI x1.Parts x7).From))) || (decide ((atI x1.Parts x7).Id < (1 : Int)))) || (decide ((1099511627776 : Int) < (atI x1.Parts x7).Id))) || (decide ((atI x1.Parts x7).Node < (1 : Int)))) || (decide ((16 : Int) < (atI x1.Parts x7).Node)))) == false) (F_clockworkref29_moves ((atI x1.Parts x7)) x13 (((IntKind.i64.wrap (x7 + (1 : Int))) == (((x1.Parts).length : Nat) : Int))))) fun x20 => (cond (((((((!x17) || ((decide ((0 : Int) < x7)) && (!sLt (cond ((((decide ((0 : Int) < x7))) == true) && (((!x17)) == false)) (atI x1.Parts ((IntKind.i64.wrap (x7 - (1 : Int))))) default).From (atI x1.Parts x7).From))) || (decide ((atI x1.Parts x7).Id < (1 : Int)))) || (decide ((1099511627776 : Int) < (atI x1.Parts x7).Id))) || (decide ((atI x1.Parts x7).Node < (1 : Int)))) || (decide ((16 : Int) < (atI x1.Parts x7).Node))) || (!x20)) (some false) (jn ((F_clockworkref29_Valid_L1 x1 J5 n8 ((IntKind.i64.wrap (x7 + (1 : Int)))))) (fun J21 => (F_clockworkref29_Valid_L2 x7 x1 J21 ((x7).toNat + 1) ((0 : Int)))))))))) (fun J14 => (cond (decide ((IntKind.i64.wrap (x7 + (1 : Int))) < (((x1.Parts).length : Nat) : Int))) (req (0 ≤ (IntKind.i64.wrap (x7 + (1 : Int))) ∧ (IntKind.i64.wrap (x7 + (1 : Int))) < ((x1.Parts).length : Int)) (J14 ((atI x1.Parts ((IntKind.i64.wrap (x7 + (1 : Int))))).From))) (J14 (([] : Str))))))) J5)

def F_clockworkref29_Valid (x1 : TPlacement) : Option Bool :=
  (req (((((((decide (x1.Version < (0 : Int))) || (decide ((1099511627776 : Int) < x1.Version))) || (decide ((((x1.Parts).length : Nat) : Int) < (1 : Int)))) || (decide ((16 : Int) < (((x1.Parts).length : Nat) : Int))))) == false) = true → 0 ≤ (0 : Int) ∧ (0 : Int) < ((x1.Parts).length : Int)) (cond (((((decide (x1.Version < (0 : Int))) || (decide ((1099511627776 : Int) < x1.Version))) || (decide ((((x1.Parts).length : Nat) : Int) < (1 : Int)))) || (decide ((16 : Int) < (((x1.Parts).length : Nat) : Int)))) || ((cond ((((((decide (x1.Version < (0 : Int))) || (decide ((1099511627776 : Int) < x1.Version))) || (decide ((((x1.Parts).length : Nat) : Int) < (1 : Int)))) || (decide ((16 : Int) < (((x1.Parts).length : Nat) : Int))))) == false) (atI x1.Parts ((0 : Int))) default).From != ([] : Str))) (some false) (jn ((some true)) (fun J5 => (F_clockworkref29_Valid_L1 x1 J5 (((((x1.Parts).length : Nat) : Int)).toNat + 1) ((0 : Int)))))))

set_option maxRecDepth 100000 in
theorem W_clockworkref29_Valid {V : View} (x1 : TPlacement) {a2 : Option Addr} {k2 : Nat} (h2 : SlAt cTPart V a2 k2 x1.Parts) {r : Bool} (hF : F_clockworkref29_Valid x1 = some r) :
    Spec Tryz.prog 70 [.agg ⟨[.int .i64 (x1.Version), .slice a2 ((x1.Parts).length) (k2)]⟩] V (fun _ v => v = .bool (r)) := by
  unfold F_clockworkref29_Valid at hF
  refine Spec.enter (T := tyT) Tryz.func70 rfl (by kernel_rfl) rfl rfl rfl ?_
  refine Exec.run tyOk 400 rfl ?_
  obtain ⟨q3, hF⟩ := req_some hF
  obtain ⟨c4, hr4, hd4⟩ := SlAt.gget ((((((decide (x1.Version < (0 : Int))) || (decide ((1099511627776 : Int) < x1.Version))) || (decide ((((x1.Parts).length : Nat) : Int) < (1 : Int)))) || (decide ((16 : Int) < (((x1.Parts).length : Nat) : Int))))) == false) h2 q3
  obtain rfl := hr4
  refine Exec.ia tyOk rfl rfl (fun gg0 => ⟨(q3 (gd1_of gg0)).1, (q3 (gd1_of gg0)).2, (hd4 (gd1_of gg0)).some⟩) ?_
  refine Exec.run tyOk 400 rfl ?_
  refine Exec.ld tyOk (x := .string ⟨⟨(cond ((((((decide (x1.Version < (0 : Int))) || (decide ((1099511627776 : Int) < x1.Version))) || (decide ((((x1.Parts).length : Nat) : Int) < (1 : Int)))) || (decide ((16 : Int) < (((x1.Parts).length : Nat) : Int))))) == false) (atI x1.Parts ((0 : Int))) default).From⟩⟩) rfl rfl (fun gg0 => (RdAt.part (hd4 (gd1_of gg0)) 1 1 rfl)) rfl rfl ?_
  refine Exec.run tyOk 400 rfl ?_
  rcases cond_some hF with ⟨hb, hF⟩ | ⟨hb, hF⟩
  · skip
    refine Exec.ifT rfl hb ?_
    refine Exec.run tyOk 400 rfl ?_
    obtain rfl := some_inj hF
    exact Exec.ret tyOk rfl rfl rfl
  · skip
    refine Exec.ifF rfl hb ?_
    refine Exec.run tyOk 6 rfl ?_
    obtain ⟨J5, hJ5, hF⟩ := jn_some hF
    refine Exec.seam (fun L' V' M' => L' = [] ∧ M' = [] ∧ J5 = some r) rfl ?_ ?_
    · rintro L' V6 M' ⟨rfl, rfl, hF⟩
      subst hJ5
      refine Exec.run tyOk 400 rfl ?_
      obtain rfl := some_inj hF
      exact Exec.ret tyOk rfl rfl rfl
    · skip
      refine Exec.run tyOk 400 rfl ?_
      refine Exec.loop (fun n8 L' V' M' => ∃ (x7 : Int), L' = [(1, .ptr 0 0), (3, .v (.int .i64 ((((x1.Parts).length : Nat) : Int)))), (4, .v (.int .i64 (x7)))] ∧ M' = [.blk [.v (.int .i64 (x1.Version)), .v (.slice a2 ((x1.Parts).length) (k2))] 24] ∧ SlAt cTPart V' a2 k2 x1.Parts ∧ F_clockworkref29_Valid_L1 x1 J5 n8 x7 = some r) ⟨(((((x1.Parts).length : Nat) : Int)).toNat + 1), [(1, .ptr 0 0), (3, .v (.int .i64 ((((x1.Parts).length : Nat) : Int)))), (4, .v (.int .i64 ((0 : Int))))], ⟨rfl, rfl, rfl, trivial⟩, (0 : Int), rfl, rfl, h2, hF⟩ ?_
      rintro n8 L' V9 M' ⟨x7, rfl, rfl, h10, hF⟩
      rcases n8 with _ | n8
      · exact absurd hF (by simp [F_clockworkref29_Valid_L1])
      rw [F_clockworkref29_Valid_L1] at hF
      refine Exec.run tyOk 400 rfl ?_
      rcases cond_some hF with ⟨hb, hF⟩ | ⟨hb, hF⟩
      · skip
        refine Exec.ifT rfl hb ?_
        refine Exec.run tyOk 400 rfl ?_
        obtain ⟨q11, hF⟩ := req_some hF
        obtain ⟨c12, hr12, hd12⟩ := SlAt.get h10 q11
        obtain rfl := hr12
        refine Exec.ia tyOk rfl rfl ⟨q11.1, q11.2, hd12.some⟩ ?_
        refine Exec.run tyOk 400 rfl ?_
        refine Exec.ld tyOk (x := .agg ⟨[.int .i64 ((atI x1.Parts x7).Id), .string ⟨⟨(atI x1.Parts x7).From⟩⟩, .int .i64 ((atI x1.Parts x7).Node), .int .i64 ((atI x1.Parts x7).Dest), .string ⟨⟨(atI x1.Parts x7).Done⟩⟩]⟩) rfl rfl hd12 rfl rfl ?_
        refine Exec.run tyOk 400 rfl ?_
        obtain ⟨J14, hJ14, hF⟩ := jn_some hF
        refine Exec.seam (fun L' V' M' => ∃ (x13 : Str), L' = [(1, .ptr 0 0), (3, .v (.int .i64 ((((x1.Parts).length : Nat) : Int)))), (4, .v (.int .i64 (x7))), (5, .ptr 1 0), (6, .v (.string ⟨⟨x13⟩⟩))] ∧ M' = [.blk [.v (.int .i64 (x1.Version)), .v (.slice a2 ((x1.Parts).length) (k2))] 24, .blk [.v (.int .i64 ((atI x1.Parts x7).Id)), .v (.string ⟨⟨(atI x1.Parts x7).From⟩⟩), .v (.int .i64 ((atI x1.Parts x7).Node)), .v (.int .i64 ((atI x1.Parts x7).Dest)), .v (.string ⟨⟨(atI x1.Parts x7).Done⟩⟩)] 66] ∧ SlAt cTPart V' a2 k2 x1.Parts ∧ J14 x13 = some r) rfl ?_ ?_
        · rintro L' V15 M' ⟨x13, rfl, rfl, h16, hF⟩
          subst hJ14
          refine Exec.run tyOk 400 rfl ?_
          refine Exec.draws tyOk [(0, true), (1, true), (2, false), (3, false), (4, false), (5, false), (6, false), (7, false), (8, true), (9, true), (10, true), (11, true), (12, false), (13, false), (14, false), (15, false), (16, false), (17, false), (18, false), (19, false), (20, false), (21, false), (22, false), (23, false), (24, false), (25, false), (26, false), (27, false), (28, false), (29, false), (30, false), (31, false), (32, false), (33, false), (34, false), (35, false), (36, false), (37, false), (38, false), (39, false), (40, false), (41, true), (42, true), (43, true), (44, true), (45, false), (46, false), (47, false), (48, false), (49, false)] rfl (by kernel_rfl) ?_
          refine Exec.run tyOk 400 rfl ?_
          obtain ⟨x17, hx17, hF⟩ := bnd_some hF
          refine Exec.callS (.bool (x17)) rfl rfl (W_clockworkref29_Bound ((atI x1.Parts x7).From)  hx17) ?_
          refine Exec.run tyOk 400 rfl ?_
          obtain ⟨q18, hF⟩ := req_some hF
          obtain ⟨c19, hr19, hd19⟩ := SlAt.gget ((((decide ((0 : Int) < x7))) == true) && (((!x17)) == false)) h16 q18
          obtain rfl := hr19
          refine Exec.ia tyOk rfl rfl (fun gg0 gg1 => ⟨(q18 (gd2_of gg0 gg1)).1, (q18 (gd2_of gg0 gg1)).2, (hd19 (gd2_of gg0 gg1)).some⟩) ?_
          refine Exec.run tyOk 400 rfl ?_
          refine Exec.ld tyOk (x := .string ⟨⟨(cond ((((decide ((0 : Int) < x7))) == true) && (((!x17)) == false)) (atI x1.Parts ((IntKind.i64.wrap (x7 - (1 : Int))))) default).From⟩⟩) rfl rfl (fun gg0 gg1 => (RdAt.part (hd19 (gd2_of gg0 gg1)) 1 1 rfl)) rfl rfl ?_
          refine Exec.run tyOk 400 rfl ?_
          obtain ⟨x20, hx20, hF⟩ := bnd_some hF
          refine Exec.callS (.bool (x20)) rfl rfl (fun gg0 => W_clockworkref29_moves ((atI x1.Parts x7)) x13 (((IntKind.i64.wrap (x7 + (1 : Int))) == (((x1.Parts).length : Nat) : Int)))  (gcall_some hx20 (gd1_of gg0))) ?_
          refine Exec.run tyOk 400 rfl ?_
          rcases cond_some hF with ⟨hb, hF⟩ | ⟨hb, hF⟩
          · skip
            refine Exec.ifT rfl hb ?_
            refine Exec.run tyOk 400 rfl ?_
            obtain rfl := some_inj hF
            exact Exec.ret tyOk rfl rfl rfl
          · skip
            refine Exec.ifF rfl hb ?_
            refine Exec.run tyOk 5 rfl ?_
            obtain ⟨J21, hJ21, hF⟩ := jn_some hF
            refine Exec.seam (fun L' V' M' => L' = [(1, .ptr 0 0), (3, .v (.int .i64 ((((x1.Parts).length : Nat) : Int)))), (4, .v (.int .i64 (x7)))] ∧ M' = [.blk [.v (.int .i64 (x1.Version)), .v (.slice a2 ((x1.Parts).length) (k2))] 24] ∧ SlAt cTPart V' a2 k2 x1.Parts ∧ J21 = some r) rfl ?_ ?_
            · rintro L' V22 M' ⟨rfl, rfl, h23, hF⟩
              subst hJ21
              refine Exec.run tyOk 400 rfl ?_
              exact Exec.round [(1, .ptr 0 0), (3, .v (.int .i64 ((((x1.Parts).length : Nat) : Int)))), (4, .v (.int .i64 ((IntKind.i64.wrap (x7 + (1 : Int))))))] ⟨rfl, rfl, rfl, trivial⟩ ⟨n8, Nat.lt_succ_self _, (IntKind.i64.wrap (x7 + (1 : Int))), rfl, rfl, h23, hF⟩
            · skip
              refine Exec.run tyOk 400 rfl ?_
              refine Exec.loop (fun n25 L' V' M' => ∃ (x24 : Int), L' = [(1, .ptr 0 0), (3, .v (.int .i64 ((((x1.Parts).length : Nat) : Int)))), (4, .v (.int .i64 (x7))), (5, .ptr 1 0), (7, .v (.int .i64 (x24)))] ∧ M' = [.blk [.v (.int .i64 (x1.Version)), .v (.slice a2 ((x1.Parts).length) (k2))] 24, .blk [.v (.int .i64 ((atI x1.Parts x7).Id)), .v (.string ⟨⟨(atI x1.Parts x7).From⟩⟩), .v (.int .i64 ((atI x1.Parts x7).Node)), .v (.int .i64 ((atI x1.Parts x7).Dest)), .v (.string ⟨⟨(atI x1.Parts x7).Done⟩⟩)] 66] ∧ SlAt cTPart V' a2 k2 x1.Parts ∧ F_clockworkref29_Valid_L2 x7 x1 J21 n25 x24 = some r) ⟨((x7).toNat + 1), [(1, .ptr 0 0), (3, .v (.int .i64 ((((x1.Parts).length : Nat) : Int)))), (4, .v (.int .i64 (x7))), (5, .ptr 1 0), (7, .v (.int .i64 ((0 : Int))))], ⟨rfl, rfl, rfl, rfl, rfl, trivial⟩, (0 : Int), rfl, rfl, h16, hF⟩ ?_
              rintro n25 L' V26 M' ⟨x24, rfl, rfl, h27, hF⟩
              rcases n25 with _ | n25
              · exact absurd hF (by simp [F_clockworkref29_Valid_L2])
              rw [F_clockworkref29_Valid_L2] at hF
              refine Exec.run tyOk 400 rfl ?_
              rcases cond_some hF with ⟨hb, hF⟩ | ⟨hb, hF⟩
              · skip
                refine Exec.ifT rfl hb ?_
                refine Exec.run tyOk 400 rfl ?_
                refine Exec.draws tyOk [(0, true), (1, true), (2, true), (3, true), (4, true), (5, true), (6, true), (7, true), (8, true)] rfl (by kernel_rfl) ?_
                refine Exec.run tyOk 400 rfl ?_
                obtain ⟨q28, hF⟩ := req_some hF
                obtain ⟨c29, hr29, hd29⟩ := SlAt.get h27 q28
                obtain rfl := hr29
                refine Exec.fia tyOk rfl rfl rfl ⟨q28.1, q28.2, hd29.some⟩ ?_
                refine Exec.run tyOk 400 rfl ?_
                refine Exec.fld tyOk (x := .int .i64 ((atI x1.Parts x24).Id)) rfl rfl rfl (RdAt.part hd29 0 1 rfl) rfl rfl ?_
                refine Exec.run tyOk 400 rfl ?_
                rcases cond_some hF with ⟨hb, hF⟩ | ⟨hb, hF⟩
                · skip
                  refine Exec.ifT rfl hb ?_
                  refine Exec.run tyOk 400 rfl ?_
                  obtain rfl := some_inj hF
                  exact Exec.ret tyOk rfl rfl rfl
                · skip
                  refine Exec.ifF rfl hb ?_
                  refine Exec.run tyOk 400 rfl ?_
                  exact Exec.round [(1, .ptr 0 0), (3, .v (.int .i64 ((((x1.Parts).length : Nat) : Int)))), (4, .v (.int .i64 (x7))), (5, .ptr 1 0), (7, .v (.int .i64 ((IntKind.i64.wrap (x24 + (1 : Int))))))] ⟨rfl, rfl, rfl, rfl, rfl, trivial⟩ ⟨n25, Nat.lt_succ_self _, (IntKind.i64.wrap (x24 + (1 : Int))), rfl, rfl, h27, hF⟩
              · skip
                refine Exec.ifF rfl hb ?_
                refine Exec.run tyOk 400 rfl ?_
                refine Exec.cut 1 [(1, .ptr 0 0), (3, .v (.int .i64 ((((x1.Parts).length : Nat) : Int)))), (4, .v (.int .i64 (x7)))] (M' := [.blk [.v (.int .i64 (x1.Version)), .v (.slice a2 ((x1.Parts).length) (k2))] 24]) rfl ⟨rfl, rfl, rfl, trivial⟩ rfl rfl rfl ?_
                exact Exec.round [(1, .ptr 0 0), (3, .v (.int .i64 ((((x1.Parts).length : Nat) : Int)))), (4, .v (.int .i64 (x7)))] ⟨rfl, rfl, rfl, trivial⟩ ⟨rfl, rfl, h27, hF⟩
        · skip
          refine Exec.run tyOk 400 rfl ?_
          rcases cond_some hF with ⟨hb, hF⟩ | ⟨hb, hF⟩
          · skip
            refine Exec.ifT rfl hb ?_
            refine Exec.run tyOk 400 rfl ?_
            obtain ⟨q30, hF⟩ := req_some hF
            obtain ⟨c31, hr31, hd31⟩ := SlAt.get h10 q30
            obtain rfl := hr31
            refine Exec.ia tyOk rfl rfl ⟨q30.1, q30.2, hd31.some⟩ ?_
            refine Exec.run tyOk 400 rfl ?_
            refine Exec.ld tyOk (x := .string ⟨⟨(atI x1.Parts ((IntKind.i64.wrap (x7 + (1 : Int))))).From⟩⟩) rfl rfl (RdAt.part hd31 1 1 rfl) rfl rfl ?_
            refine Exec.run tyOk 400 rfl ?_
            exact Exec.round [(1, .ptr 0 0), (3, .v (.int .i64 ((((x1.Parts).length : Nat) : Int)))), (4, .v (.int .i64 (x7))), (5, .ptr 1 0), (6, .v (.string ⟨⟨(atI x1.Parts ((IntKind.i64.wrap (x7 + (1 : Int))))).From⟩⟩))] ⟨rfl, rfl, rfl, rfl, rfl, trivial⟩ ⟨(atI x1.Parts ((IntKind.i64.wrap (x7 + (1 : Int))))).From, rfl, rfl, h10, hF⟩
          · skip
            refine Exec.ifF rfl hb ?_
            refine Exec.run tyOk 400 rfl ?_
            exact Exec.round [(1, .ptr 0 0), (3, .v (.int .i64 ((((x1.Parts).length : Nat) : Int)))), (4, .v (.int .i64 (x7))), (5, .ptr 1 0), (6, .v (.string ⟨⟨([] : Str)⟩⟩))] ⟨rfl, rfl, rfl, rfl, rfl, trivial⟩ ⟨([] : Str), rfl, rfl, h10, hF⟩
      · skip
        refine Exec.ifF rfl hb ?_
        refine Exec.run tyOk 400 rfl ?_
        refine Exec.cut 0 [] (M' := []) rfl trivial rfl rfl rfl ?_
        exact Exec.round [] trivial ⟨rfl, rfl, hF⟩

def F_clockworkref31_collected_L2 (x12 : List TMail) (x13 : Int) (x3 : List TMail) (J32 : Bool → Option (List TMail)) : Nat → Bool → Int → Option (List TMail)
  | 0, _, _ => none
  | n44 + 1, x42, x43 => (cond (decide (x43 < (((x12).length : Nat) : Int))) (req (((x42) == false) = true → 0 ≤ x43 ∧ x43 < ((x12).length : Int)) (req (((x42) == false) = true → 0 ≤ x13 ∧ x13 < ((x3).length : Int)) (bnd (gcall ((x42) == false) (F_clockworkref31_Same ((cond ((x42) == false) (atI x12 x43) default)) ((cond ((x42) == false) (atI x3 x13) default)))) fun x56 => (F_clockworkref31_collected_L2 x12 x13 x3 J32 n44 ((x42 || x56)) ((IntKind.i64.wrap (x43 + (1 : Int)))))))) (J32 x42))

def F_clockworkref31_collected_L1 (x3 : List TMail) (x1 : Int) (x2 : Int) (J8 : (List TMail) → Option (List TMail)) : Nat → (List TMail) → Int → Option (List TMail)
  | 0, _, _ => none
  | n14 + 1, x12, x13 => (cond (decide (x13 < (((x3).length : Nat) : Int))) (jn (fun (x18 : List TMail) => (F_clockworkref31_collected_L1 x3 x1 x2 J8 n14 x18 ((IntKind.i64.wrap (x13 + (1 : Int)))))) (fun J19 => (req (0 ≤ x13 ∧ x13 < ((x3).length : Int)) (req (((((atI x3 x13).Txn != x1)) == false) = true → 0 ≤ x13 ∧ x13 < ((x3).length : Int)) (cond (((atI x3 x13).Txn != x1) || ((cond ((((atI x3 x13).Txn != x1)) == false) (atI x3 x13) default).To != x2)) (J19 x12) (jn (fun (x31 : Bool) => (cond (!x31) (req (0 ≤ x13 ∧ x13 < ((x3).length : Int)) (req (((x12 ++ [(atI x3 x13)])).length * 72 ≤ 140737488355328) (J19 ((x12 ++ [(atI x3 x13)]))))) (J19 x12))) (fun J32 => (F_clockworkref31_collected_L2 x12 x13 x3 J32 (((((x12).length : Nat) : Int)).toNat + 1) false ((0 : Int)))))))))) (J8 x12))

def F_clockworkref31_collected (x1 : Int) (x2 : Int) (x3 : List TMail) : Option (List TMail) :=
  (jn (fun (x7 : List TMail) => (some x7)) (fun J8 => (F_clockworkref31_collected_L1 x3 x1 x2 J8 (((((x3).length : Nat) : Int)).toNat + 1) (([] : List TMail)) ((0 : Int)))))

set_option maxRecDepth 100000 in
theorem W_clockworkref31_collected {V : View} (x1 : Int) (x2 : Int) (x3 : List TMail) {a4 : Option Addr} {k4 : Nat} (h4 : SlAt cTMail V a4 k4 x3) {r : List TMail} (hF : F_clockworkref31_collected x1 x2 x3 = some r) :
    Spec Tryz.prog 72 [.int .i64 (x1), .int .i64 (x2), .slice a4 ((x3).length) (k4)] V (fun V' v => ∃ (a57 : Option Addr) (k57 : Nat), v = .slice a57 ((r).length) (k57) ∧ SlAt cTMail V' a57 k57 r) := by
  unfold F_clockworkref31_collected at hF
  refine Spec.enter (T := tyT) Tryz.func72 rfl (by kernel_rfl) rfl rfl rfl ?_
  refine Exec.run tyOk 13 rfl ?_
  refine Exec.row0 50 5 rfl ?_
  have h5 : RowRep cTMail V ([] : List TMail) [] := RowRep.nil
  obtain ⟨J8, hJ8, hF⟩ := jn_some hF
  refine Exec.seam (fun L' V' M' => ∃ (x7 : List TMail) (a6 : Option Addr) (k6 : Nat) (cs6 : List Value), L' = [(7, .v (.slice a6 ((x7).length) (k6)))] ∧ M' = [.row (.slice a6 ((x7).length) (k6)) cs6 50 5] ∧ RowRep cTMail V' x7 cs6 ∧ J8 x7 = some r) rfl ?_ ?_
  · rintro L' V9 M' ⟨x7, a6, k6, cs6, rfl, rfl, h6, hF⟩
    subst hJ8
    refine Exec.run tyOk 400 rfl ?_
    refine Exec.frz 0 rfl rfl rfl (fun V10 hv10 hd10 hn10 => ?_)
    have hz10 := RowRep.slat h6 hv10 hd10 hn10
    obtain rfl := some_inj hF
    exact Exec.ret tyOk rfl rfl ⟨_, _, rfl, hz10⟩
  · skip
    refine Exec.run tyOk 400 rfl ?_
    refine Exec.loop (fun n14 L' V' M' => ∃ (x12 : List TMail) (a11 : Option Addr) (k11 : Nat) (cs11 : List Value) (x13 : Int), L' = [(0, .v (.int .i64 (x1))), (1, .v (.int .i64 (x2))), (2, .v (.slice a4 ((x3).length) (k4))), (7, .v (.slice a11 ((x12).length) (k11))), (8, .v (.int .i64 (x13)))] ∧ M' = [.row (.slice a11 ((x12).length) (k11)) cs11 50 5] ∧ RowRep cTMail V' x12 cs11 ∧ SlAt cTMail V' a4 k4 x3 ∧ F_clockworkref31_collected_L1 x3 x1 x2 J8 n14 x12 x13 = some r) ⟨(((((x3).length : Nat) : Int)).toNat + 1), [(0, .v (.int .i64 (x1))), (1, .v (.int .i64 (x2))), (2, .v (.slice a4 ((x3).length) (k4))), (7, .v (.slice none ((([] : List TMail)).length) (0))), (8, .v (.int .i64 ((0 : Int))))], ⟨rfl, rfl, rfl, rfl, rfl, trivial⟩, ([] : List TMail), none, 0, [], (0 : Int), rfl, rfl, h5, h4, hF⟩ ?_
    rintro n14 L' V15 M' ⟨x12, a11, k11, cs11, x13, rfl, rfl, h11, h16, hF⟩
    rcases n14 with _ | n14
    · exact absurd hF (by simp [F_clockworkref31_collected_L1])
    rw [F_clockworkref31_collected_L1] at hF
    refine Exec.run tyOk 400 rfl ?_
    rcases cond_some hF with ⟨hb, hF⟩ | ⟨hb, hF⟩
    · skip
      refine Exec.ifT rfl hb ?_
      refine Exec.run tyOk 2 rfl ?_
      obtain ⟨J19, hJ19, hF⟩ := jn_some hF
      refine Exec.seam (fun L' V' M' => ∃ (x18 : List TMail) (a17 : Option Addr) (k17 : Nat) (cs17 : List Value), L' = [(0, .v (.int .i64 (x1))), (1, .v (.int .i64 (x2))), (2, .v (.slice a4 ((x3).length) (k4))), (7, .v (.slice a17 ((x18).length) (k17))), (8, .v (.int .i64 (x13)))] ∧ M' = [.row (.slice a17 ((x18).length) (k17)) cs17 50 5] ∧ RowRep cTMail V' x18 cs17 ∧ SlAt cTMail V' a4 k4 x3 ∧ J19 x18 = some r) rfl ?_ ?_
      · rintro L' V20 M' ⟨x18, a17, k17, cs17, rfl, rfl, h17, h21, hF⟩
        subst hJ19
        refine Exec.run tyOk 400 rfl ?_
        exact Exec.round [(0, .v (.int .i64 (x1))), (1, .v (.int .i64 (x2))), (2, .v (.slice a4 ((x3).length) (k4))), (7, .v (.slice a17 ((x18).length) (k17))), (8, .v (.int .i64 ((IntKind.i64.wrap (x13 + (1 : Int))))))] ⟨rfl, rfl, rfl, rfl, rfl, trivial⟩ ⟨n14, Nat.lt_succ_self _, x18, a17, k17, cs17, (IntKind.i64.wrap (x13 + (1 : Int))), rfl, rfl, h17, h21, hF⟩
      · skip
        refine Exec.run tyOk 400 rfl ?_
        obtain ⟨q22, hF⟩ := req_some hF
        obtain ⟨c23, hr23, hd23⟩ := SlAt.get h16 q22
        obtain ⟨a24, k24, a25, k25, rfl, h24, h25⟩ := hr23
        refine Exec.ia tyOk rfl rfl ⟨q22.1, q22.2, hd23.some⟩ ?_
        refine Exec.run tyOk 400 rfl ?_
        refine Exec.ld tyOk (x := .int .i64 ((atI x3 x13).Txn)) rfl rfl (RdAt.part hd23 0 1 rfl) rfl rfl ?_
        refine Exec.run tyOk 400 rfl ?_
        obtain ⟨q26, hF⟩ := req_some hF
        obtain ⟨c27, hr27, hd27⟩ := SlAt.gget ((((atI x3 x13).Txn != x1)) == false) h16 q26
        obtain ⟨a28, k28, a29, k29, rfl, h28, h29⟩ := hr27
        refine Exec.ia tyOk rfl rfl (fun gg0 => ⟨(q26 (gd1_of gg0)).1, (q26 (gd1_of gg0)).2, (hd27 (gd1_of gg0)).some⟩) ?_
        refine Exec.run tyOk 400 rfl ?_
        refine Exec.ld tyOk (x := .int .i64 ((cond ((((atI x3 x13).Txn != x1)) == false) (atI x3 x13) default).To)) rfl rfl (fun gg0 => (RdAt.part (hd27 (gd1_of gg0)) 2 1 rfl)) rfl rfl ?_
        refine Exec.run tyOk 400 rfl ?_
        rcases cond_some hF with ⟨hb, hF⟩ | ⟨hb, hF⟩
        · skip
          refine Exec.ifT rfl hb ?_
          refine Exec.run tyOk 400 rfl ?_
          exact Exec.round [(0, .v (.int .i64 (x1))), (1, .v (.int .i64 (x2))), (2, .v (.slice a4 ((x3).length) (k4))), (7, .v (.slice a11 ((x12).length) (k11))), (8, .v (.int .i64 (x13)))] ⟨rfl, rfl, rfl, rfl, rfl, trivial⟩ ⟨x12, a11, k11, cs11, rfl, rfl, h11, h16, hF⟩
        · skip
          refine Exec.ifF rfl hb ?_
          refine Exec.run tyOk 10 rfl ?_
          obtain ⟨J32, hJ32, hF⟩ := jn_some hF
          refine Exec.seam (fun L' V' M' => ∃ (x31 : Bool), L' = [(0, .v (.int .i64 (x1))), (1, .v (.int .i64 (x2))), (2, .v (.slice a4 ((x3).length) (k4))), (7, .v (.slice a11 ((x12).length) (k11))), (8, .v (.int .i64 (x13))), (9, .v (.bool (x31)))] ∧ M' = [.row (.slice a11 ((x12).length) (k11)) cs11 50 5] ∧ RowRep cTMail V' x12 cs11 ∧ SlAt cTMail V' a4 k4 x3 ∧ J32 x31 = some r) rfl ?_ ?_
          · rintro L' V33 M' ⟨x31, rfl, rfl, h30, h34, hF⟩
            subst hJ32
            refine Exec.run tyOk 400 rfl ?_
            rcases cond_some hF with ⟨hb, hF⟩ | ⟨hb, hF⟩
            · skip
              refine Exec.ifT rfl hb ?_
              refine Exec.run tyOk 400 rfl ?_
              obtain ⟨q35, hF⟩ := req_some hF
              obtain ⟨c36, hr36, hd36⟩ := SlAt.get h34 q35
              obtain ⟨a37, k37, a38, k38, rfl, h37, h38⟩ := hr36
              refine Exec.ia tyOk rfl rfl ⟨q35.1, q35.2, hd36.some⟩ ?_
              refine Exec.run tyOk 400 rfl ?_
              refine Exec.ld tyOk (x := .agg ⟨[.int .i64 ((atI x3 x13).Txn), .int .i64 ((atI x3 x13).From), .int .i64 ((atI x3 x13).To), .slice a37 (((atI x3 x13).Keys).length) (k37), .slice a38 (((atI x3 x13).Pairs).length) (k38)]⟩) rfl rfl hd36 rfl rfl ?_
              refine Exec.run tyOk 400 rfl ?_
              refine Exec.bsl tyOk rfl rfl ?_
              refine Exec.run tyOk 400 rfl ?_
              obtain ⟨q40, hF⟩ := req_some hF
              refine Exec.app tyOk 0 1 (nm := ((x12 ++ [(atI x3 x13)])).length) rfl rfl rfl rfl rfl rfl rfl rfl rfl (by simp) (fun _ _ => rfl) rfl q40 (fun a39 k39 => ?_)
              have h39 : RowRep cTMail V33 (x12 ++ [(atI x3 x13)]) (cs11 ++ [.int .i64 ((atI x3 x13).Txn), .int .i64 ((atI x3 x13).From), .int .i64 ((atI x3 x13).To), .slice a37 (((atI x3 x13).Keys).length) (k37), .slice a38 (((atI x3 x13).Pairs).length) (k38)]) := RowRep.app h30 ⟨_, _, rfl, ⟨_, _, _, _, rfl, h37, h38⟩, rfl⟩
              refine Exec.run tyOk 400 rfl ?_
              refine Exec.cut 1 [(0, .v (.int .i64 (x1))), (1, .v (.int .i64 (x2))), (2, .v (.slice a4 ((x3).length) (k4))), (7, .v (.slice a39 (((x12 ++ [(atI x3 x13)])).length) (k39))), (8, .v (.int .i64 (x13)))] (M' := [.row (.slice a39 (((x12 ++ [(atI x3 x13)])).length) (k39)) ((cs11 ++ [.int .i64 ((atI x3 x13).Txn), .int .i64 ((atI x3 x13).From), .int .i64 ((atI x3 x13).To), .slice a37 (((atI x3 x13).Keys).length) (k37), .slice a38 (((atI x3 x13).Pairs).length) (k38)])) 50 5]) rfl ⟨rfl, rfl, rfl, rfl, rfl, trivial⟩ rfl rfl rfl ?_
              exact Exec.round [(0, .v (.int .i64 (x1))), (1, .v (.int .i64 (x2))), (2, .v (.slice a4 ((x3).length) (k4))), (7, .v (.slice a39 (((x12 ++ [(atI x3 x13)])).length) (k39))), (8, .v (.int .i64 (x13)))] ⟨rfl, rfl, rfl, rfl, rfl, trivial⟩ ⟨(x12 ++ [(atI x3 x13)]), a39, k39, (cs11 ++ [.int .i64 ((atI x3 x13).Txn), .int .i64 ((atI x3 x13).From), .int .i64 ((atI x3 x13).To), .slice a37 (((atI x3 x13).Keys).length) (k37), .slice a38 (((atI x3 x13).Pairs).length) (k38)]), rfl, rfl, h39, h34, hF⟩
            · skip
              refine Exec.ifF rfl hb ?_
              refine Exec.run tyOk 400 rfl ?_
              exact Exec.round [(0, .v (.int .i64 (x1))), (1, .v (.int .i64 (x2))), (2, .v (.slice a4 ((x3).length) (k4))), (7, .v (.slice a11 ((x12).length) (k11))), (8, .v (.int .i64 (x13)))] ⟨rfl, rfl, rfl, rfl, rfl, trivial⟩ ⟨x12, a11, k11, cs11, rfl, rfl, h30, h34, hF⟩
          · skip
            refine Exec.run tyOk 400 rfl ?_
            refine Exec.loop (fun n44 L' V' M' => ∃ (x42 : Bool) (x43 : Int), L' = [(0, .v (.int .i64 (x1))), (1, .v (.int .i64 (x2))), (2, .v (.slice a4 ((x3).length) (k4))), (7, .v (.slice a11 ((x12).length) (k11))), (8, .v (.int .i64 (x13))), (9, .v (.bool (x42))), (10, .v (.int .i64 (x43)))] ∧ M' = [.row (.slice a11 ((x12).length) (k11)) cs11 50 5] ∧ RowRep cTMail V' x12 cs11 ∧ SlAt cTMail V' a4 k4 x3 ∧ F_clockworkref31_collected_L2 x12 x13 x3 J32 n44 x42 x43 = some r) ⟨(((((x12).length : Nat) : Int)).toNat + 1), [(0, .v (.int .i64 (x1))), (1, .v (.int .i64 (x2))), (2, .v (.slice a4 ((x3).length) (k4))), (7, .v (.slice a11 ((x12).length) (k11))), (8, .v (.int .i64 (x13))), (9, .v (.bool (false))), (10, .v (.int .i64 ((0 : Int))))], ⟨rfl, rfl, rfl, rfl, rfl, rfl, rfl, trivial⟩, false, (0 : Int), rfl, rfl, h11, h16, hF⟩ ?_
            rintro n44 L' V45 M' ⟨x42, x43, rfl, rfl, h41, h46, hF⟩
            rcases n44 with _ | n44
            · exact absurd hF (by simp [F_clockworkref31_collected_L2])
            rw [F_clockworkref31_collected_L2] at hF
            refine Exec.run tyOk 400 rfl ?_
            rcases cond_some hF with ⟨hb, hF⟩ | ⟨hb, hF⟩
            · skip
              refine Exec.ifT rfl hb ?_
              refine Exec.run tyOk 400 rfl ?_
              refine Exec.draws tyOk [(0, true), (1, true), (2, true), (3, true), (4, true), (5, true), (6, true), (7, true), (8, true), (9, true), (10, false), (11, false), (12, false)] rfl (by kernel_rfl) ?_
              refine Exec.run tyOk 400 rfl ?_
              obtain ⟨q47, hF⟩ := req_some hF
              refine Exec.rowI 0 rfl (fun ra48 rb48 rc48 => ?_)
              obtain ⟨c49, hr49, hd49⟩ := RowRep.gget ((x42) == false) h41 q47
              obtain ⟨a50, k50, a51, k51, rfl, h50, h51⟩ := hr49
              have rd48 : ((x42) == false) = true → 0 ≤ x43 ∧ x43 < (((x12).length : Nat) : Int) := q47
              have rs48 : ((x42) == false) = true → ∃ b o, a11 = some ⟨b, o, none⟩ := fun hg => rb48 (by have := rd48 hg; omega)
              refine Exec.fia tyOk rfl rfl rfl (fun gg0 => ⟨(rd48 (gd1_of gg0)).1, (rd48 (gd1_of gg0)).2, rs48 (gd1_of gg0)⟩) ?_
              refine Exec.run tyOk 400 rfl ?_
              refine Exec.fldR tyOk 0 (x := .agg ⟨[.int .i64 ((cond ((x42) == false) (atI x12 x43) default).Txn), .int .i64 ((cond ((x42) == false) (atI x12 x43) default).From), .int .i64 ((cond ((x42) == false) (atI x12 x43) default).To), .slice a50 (((cond ((x42) == false) (atI x12 x43) default).Keys).length) (k50), .slice a51 (((cond ((x42) == false) (atI x12 x43) default).Pairs).length) (k51)]⟩) rfl rfl rfl rfl (fun gg0 => ⟨(hd49 (gd1_of gg0)), (rs48 (gd1_of gg0))⟩) rfl rfl ?_
              refine Exec.run tyOk 400 rfl ?_
              obtain ⟨q52, hF⟩ := req_some hF
              obtain ⟨c53, hr53, hd53⟩ := SlAt.gget ((x42) == false) h46 q52
              obtain ⟨a54, k54, a55, k55, rfl, h54, h55⟩ := hr53
              refine Exec.fia tyOk rfl rfl rfl (fun gg0 => ⟨(q52 (gd1_of gg0)).1, (q52 (gd1_of gg0)).2, (hd53 (gd1_of gg0)).some⟩) ?_
              refine Exec.run tyOk 400 rfl ?_
              refine Exec.fld tyOk (x := .agg ⟨[.int .i64 ((cond ((x42) == false) (atI x3 x13) default).Txn), .int .i64 ((cond ((x42) == false) (atI x3 x13) default).From), .int .i64 ((cond ((x42) == false) (atI x3 x13) default).To), .slice a54 (((cond ((x42) == false) (atI x3 x13) default).Keys).length) (k54), .slice a55 (((cond ((x42) == false) (atI x3 x13) default).Pairs).length) (k55)]⟩) rfl rfl rfl (fun gg0 => (hd53 (gd1_of gg0))) rfl rfl ?_
              refine Exec.run tyOk 400 rfl ?_
              obtain ⟨x56, hx56, hF⟩ := bnd_some hF
              refine Exec.callS (.bool (x56)) rfl rfl (fun gg0 => W_clockworkref31_Same ((cond ((x42) == false) (atI x12 x43) default)) ((cond ((x42) == false) (atI x3 x13) default)) h50 h51 h54 h55 (gcall_some hx56 (gd1_of gg0))) ?_
              refine Exec.run tyOk 400 rfl ?_
              exact Exec.round [(0, .v (.int .i64 (x1))), (1, .v (.int .i64 (x2))), (2, .v (.slice a4 ((x3).length) (k4))), (7, .v (.slice a11 ((x12).length) (k11))), (8, .v (.int .i64 (x13))), (9, .v (.bool ((x42 || x56)))), (10, .v (.int .i64 ((IntKind.i64.wrap (x43 + (1 : Int))))))] ⟨rfl, rfl, rfl, rfl, rfl, rfl, rfl, trivial⟩ ⟨n44, Nat.lt_succ_self _, (x42 || x56), (IntKind.i64.wrap (x43 + (1 : Int))), rfl, rfl, h41, h46, hF⟩
            · skip
              refine Exec.ifF rfl hb ?_
              refine Exec.run tyOk 400 rfl ?_
              exact Exec.round [(0, .v (.int .i64 (x1))), (1, .v (.int .i64 (x2))), (2, .v (.slice a4 ((x3).length) (k4))), (7, .v (.slice a11 ((x12).length) (k11))), (8, .v (.int .i64 (x13))), (9, .v (.bool (x42)))] ⟨rfl, rfl, rfl, rfl, rfl, rfl, trivial⟩ ⟨x42, rfl, rfl, h41, h46, hF⟩
    · skip
      refine Exec.ifF rfl hb ?_
      refine Exec.run tyOk 400 rfl ?_
      exact Exec.round [(7, .v (.slice a11 ((x12).length) (k11)))] ⟨rfl, trivial⟩ ⟨x12, a11, k11, cs11, rfl, rfl, h11, hF⟩

def F_clockworkref04_Ascending_L1 (x1 : List Str) (J3 : Option Bool) : Nat → Int → Option Bool
  | 0, _ => none
  | n6 + 1, x5 => (cond (decide (x5 < (((x1).length : Nat) : Int))) (req (0 ≤ x5 ∧ x5 < ((x1).length : Int)) (bnd (F_clockworkref04_Valid ((atI x1 x5))) fun x11 => (req (((((decide ((0 : Int) < x5))) == true) && (((!x11)) == false)) = true → 0 ≤ (IntKind.i64.wrap (x5 - (1 : Int))) ∧ (IntKind.i64.wrap (x5 - (1 : Int))) < ((x1).length : Int)) (req (((((decide ((0 : Int) < x5))) == true) && (((!x11)) == false)) = true → 0 ≤ x5 ∧ x5 < ((x1).length : Int)) (cond ((!x11) || ((decide ((0 : Int) < x5)) && (!sLt (cond ((((decide ((0 : Int) < x5))) == true) && (((!x11)) == false)) (atI x1 ((IntKind.i64.wrap (x5 - (1 : Int))))) default) (cond ((((decide ((0 : Int) < x5))) == true) && (((!x11)) == false)) (atI x1 x5) default)))) (some false) (F_clockworkref04_Ascending_L1 x1 J3 n6 ((IntKind.i64.wrap (x5 + (1 : Int)))))))))) J3)

def F_clockworkref04_Ascending (x1 : List Str) : Option Bool :=
  (jn ((some true)) (fun J3 => (F_clockworkref04_Ascending_L1 x1 J3 (((((x1).length : Nat) : Int)).toNat + 1) ((0 : Int)))))

set_option maxRecDepth 100000 in
theorem W_clockworkref04_Ascending {V : View} (x1 : List Str) {a2 : Option Addr} {k2 : Nat} (h2 : SlAt cStr V a2 k2 x1) {r : Bool} (hF : F_clockworkref04_Ascending x1 = some r) :
    Spec Tryz.prog 93 [.slice a2 ((x1).length) (k2)] V (fun _ v => v = .bool (r)) := by
  unfold F_clockworkref04_Ascending at hF
  refine Spec.enter (T := tyT) Tryz.func93 rfl (by kernel_rfl) rfl rfl rfl ?_
  refine Exec.run tyOk 9 rfl ?_
  obtain ⟨J3, hJ3, hF⟩ := jn_some hF
  refine Exec.seam (fun L' V' M' => L' = [] ∧ M' = [] ∧ J3 = some r) rfl ?_ ?_
  · rintro L' V4 M' ⟨rfl, rfl, hF⟩
    subst hJ3
    refine Exec.run tyOk 400 rfl ?_
    obtain rfl := some_inj hF
    exact Exec.ret tyOk rfl rfl rfl
  · skip
    refine Exec.run tyOk 400 rfl ?_
    refine Exec.loop (fun n6 L' V' M' => ∃ (x5 : Int), L' = [(0, .v (.slice a2 ((x1).length) (k2))), (3, .v (.int .i64 (x5)))] ∧ M' = [] ∧ SlAt cStr V' a2 k2 x1 ∧ F_clockworkref04_Ascending_L1 x1 J3 n6 x5 = some r) ⟨(((((x1).length : Nat) : Int)).toNat + 1), [(0, .v (.slice a2 ((x1).length) (k2))), (3, .v (.int .i64 ((0 : Int))))], ⟨rfl, rfl, trivial⟩, (0 : Int), rfl, rfl, h2, hF⟩ ?_
    rintro n6 L' V7 M' ⟨x5, rfl, rfl, h8, hF⟩
    rcases n6 with _ | n6
    · exact absurd hF (by simp [F_clockworkref04_Ascending_L1])
    rw [F_clockworkref04_Ascending_L1] at hF
    refine Exec.run tyOk 400 rfl ?_
    rcases cond_some hF with ⟨hb, hF⟩ | ⟨hb, hF⟩
    · skip
      refine Exec.ifT rfl hb ?_
      refine Exec.run tyOk 400 rfl ?_
      refine Exec.draws tyOk [(0, true), (1, true), (2, true), (3, true), (4, false), (5, false), (6, false), (7, false), (8, false), (9, false), (10, true), (11, true), (12, true), (13, true), (14, true), (15, true), (16, false), (17, false), (18, false), (19, false), (20, false), (21, false)] rfl (by kernel_rfl) ?_
      refine Exec.run tyOk 400 rfl ?_
      obtain ⟨q9, hF⟩ := req_some hF
      obtain ⟨c10, hr10, hd10⟩ := SlAt.get h8 q9
      obtain rfl := hr10
      refine Exec.fia tyOk rfl rfl rfl ⟨q9.1, q9.2, hd10.some⟩ ?_
      refine Exec.run tyOk 400 rfl ?_
      refine Exec.fld tyOk (x := .string ⟨⟨(atI x1 x5)⟩⟩) rfl rfl rfl hd10 rfl rfl ?_
      refine Exec.run tyOk 400 rfl ?_
      obtain ⟨x11, hx11, hF⟩ := bnd_some hF
      refine Exec.callS (.bool (x11)) rfl rfl (W_clockworkref04_Valid ((atI x1 x5))  hx11) ?_
      refine Exec.run tyOk 400 rfl ?_
      obtain ⟨q12, hF⟩ := req_some hF
      obtain ⟨c13, hr13, hd13⟩ := SlAt.gget ((((decide ((0 : Int) < x5))) == true) && (((!x11)) == false)) h8 q12
      obtain rfl := hr13
      refine Exec.fia tyOk rfl rfl rfl (fun gg0 gg1 => ⟨(q12 (gd2_of gg0 gg1)).1, (q12 (gd2_of gg0 gg1)).2, (hd13 (gd2_of gg0 gg1)).some⟩) ?_
      refine Exec.run tyOk 400 rfl ?_
      refine Exec.fld tyOk (x := .string ⟨⟨(cond ((((decide ((0 : Int) < x5))) == true) && (((!x11)) == false)) (atI x1 ((IntKind.i64.wrap (x5 - (1 : Int))))) default)⟩⟩) rfl rfl rfl (fun gg0 gg1 => (hd13 (gd2_of gg0 gg1))) rfl rfl ?_
      refine Exec.run tyOk 400 rfl ?_
      obtain ⟨q14, hF⟩ := req_some hF
      obtain ⟨c15, hr15, hd15⟩ := SlAt.gget ((((decide ((0 : Int) < x5))) == true) && (((!x11)) == false)) h8 q14
      obtain rfl := hr15
      refine Exec.ia tyOk rfl rfl (fun gg0 gg1 => ⟨(q14 (gd2_of gg0 gg1)).1, (q14 (gd2_of gg0 gg1)).2, (hd15 (gd2_of gg0 gg1)).some⟩) ?_
      refine Exec.run tyOk 400 rfl ?_
      refine Exec.ld tyOk (x := .string ⟨⟨(cond ((((decide ((0 : Int) < x5))) == true) && (((!x11)) == false)) (atI x1 x5) default)⟩⟩) rfl rfl (fun gg0 gg1 => (hd15 (gd2_of gg0 gg1))) rfl rfl ?_
      refine Exec.run tyOk 400 rfl ?_
      rcases cond_some hF with ⟨hb, hF⟩ | ⟨hb, hF⟩
      · skip
        refine Exec.ifT rfl hb ?_
        refine Exec.run tyOk 400 rfl ?_
        obtain rfl := some_inj hF
        exact Exec.ret tyOk rfl rfl rfl
      · skip
        refine Exec.ifF rfl hb ?_
        refine Exec.run tyOk 400 rfl ?_
        exact Exec.round [(0, .v (.slice a2 ((x1).length) (k2))), (3, .v (.int .i64 ((IntKind.i64.wrap (x5 + (1 : Int))))))] ⟨rfl, rfl, trivial⟩ ⟨n6, Nat.lt_succ_self _, (IntKind.i64.wrap (x5 + (1 : Int))), rfl, rfl, h8, hF⟩
    · skip
      refine Exec.ifF rfl hb ?_
      refine Exec.run tyOk 400 rfl ?_
      exact Exec.round [] trivial ⟨rfl, rfl, hF⟩

def F_keys_Valid (x1 : Str) : Option Bool :=
  (bnd (gcall (((x1 != ([] : Str))) == true) (F_keys_consists x1 (fun y0 => F_keys_Valid_1 y0 ))) fun x2 => (some ((x1 != ([] : Str)) && x2)))

set_option maxRecDepth 100000 in
theorem W_keys_Valid {V : View} (x1 : Str)   {r : Bool} (hF : F_keys_Valid x1 = some r) :
    Spec Tryz.prog 96 [.string ⟨⟨x1⟩⟩] V (fun _ v => v = .bool (r)) := by
  unfold F_keys_Valid at hF
  refine Spec.enter (T := tyT) Tryz.func96 rfl (by kernel_rfl) rfl rfl rfl ?_
  refine Exec.run tyOk 400 rfl ?_
  obtain ⟨x2, hx2, hF⟩ := bnd_some hF
  refine Exec.callS (.bool (x2)) rfl rfl (fun gg0 => W_keys_consists x1 (fun y0 => F_keys_Valid_1 y0 ) (fun V' hv y0 r hr => W_keys_Valid_1 y0   hr) (gcall_some hx2 (gd1_of gg0))) ?_
  refine Exec.run tyOk 400 rfl ?_
  obtain rfl := some_inj hF
  exact Exec.ret tyOk rfl rfl rfl

def F_clockworkref05_Valid (x1 : TValue) : Option Bool :=
  (cond (x1.Kind == (0 : Int)) (some ((x1.N == (0 : Int)) && (x1.S == ([] : Str)))) (cond (x1.Kind == (1 : Int)) (some (x1.S == ([] : Str))) (bnd (gcall ((((x1.Kind == (2 : Int)) && (x1.N == (0 : Int)))) == true) (F_clockworkref05_Plain x1.S)) fun x2 => (some (((x1.Kind == (2 : Int)) && (x1.N == (0 : Int))) && x2)))))

set_option maxRecDepth 100000 in
theorem W_clockworkref05_Valid {V : View} (x1 : TValue)   {r : Bool} (hF : F_clockworkref05_Valid x1 = some r) :
    Spec Tryz.prog 97 [.agg ⟨[.int .i64 (x1.Kind), .int .i64 (x1.N), .string ⟨⟨x1.S⟩⟩]⟩] V (fun _ v => v = .bool (r)) := by
  unfold F_clockworkref05_Valid at hF
  refine Spec.enter (T := tyT) Tryz.func97 rfl (by kernel_rfl) rfl rfl rfl ?_
  refine Exec.run tyOk 400 rfl ?_
  rcases cond_some hF with ⟨hb, hF⟩ | ⟨hb, hF⟩
  · skip
    refine Exec.ifT rfl hb ?_
    refine Exec.run tyOk 400 rfl ?_
    obtain rfl := some_inj hF
    exact Exec.ret tyOk rfl rfl rfl
  · skip
    refine Exec.ifF rfl hb ?_
    refine Exec.run tyOk 400 rfl ?_
    rcases cond_some hF with ⟨hb, hF⟩ | ⟨hb, hF⟩
    · skip
      refine Exec.ifT rfl hb ?_
      refine Exec.run tyOk 400 rfl ?_
      obtain rfl := some_inj hF
      exact Exec.ret tyOk rfl rfl rfl
    · skip
      refine Exec.ifF rfl hb ?_
      refine Exec.run tyOk 400 rfl ?_
      obtain ⟨x2, hx2, hF⟩ := bnd_some hF
      refine Exec.callS (.bool (x2)) rfl rfl (fun gg0 => W_clockworkref05_Plain x1.S  (gcall_some hx2 (gd1_of gg0))) ?_
      refine Exec.run tyOk 400 rfl ?_
      obtain rfl := some_inj hF
      exact Exec.ret tyOk rfl rfl rfl

def F_clockworkref06_ascending_L1 (x1 : List TPair) (J3 : Option Bool) : Nat → Int → Option Bool
  | 0, _ => none
  | n6 + 1, x5 => (cond (decide (x5 < (((x1).length : Nat) : Int))) (req (0 ≤ x5 ∧ x5 < ((x1).length : Int)) (bnd (F_clockworkref04_Valid ((atI x1 x5).Key)) fun x11 => (req (((((decide ((0 : Int) < x5))) == true) && (((!x11)) == false)) = true → 0 ≤ x5 ∧ x5 < ((x1).length : Int)) (req (((((decide ((0 : Int) < x5))) == true) && (((!x11)) == false)) = true → 0 ≤ (IntKind.i64.wrap (x5 - (1 : Int))) ∧ (IntKind.i64.wrap (x5 - (1 : Int))) < ((x1).length : Int)) (cond ((!x11) || ((decide ((0 : Int) < x5)) && (!sLt (cond ((((decide ((0 : Int) < x5))) == true) && (((!x11)) == false)) (atI x1 ((IntKind.i64.wrap (x5 - (1 : Int))))) default).Key (cond ((((decide ((0 : Int) < x5))) == true) && (((!x11)) == false)) (atI x1 x5) default).Key))) (some false) (F_clockworkref06_ascending_L1 x1 J3 n6 ((IntKind.i64.wrap (x5 + (1 : Int)))))))))) J3)

def F_clockworkref06_ascending (x1 : List TPair) : Option Bool :=
  (jn ((some true)) (fun J3 => (F_clockworkref06_ascending_L1 x1 J3 (((((x1).length : Nat) : Int)).toNat + 1) ((0 : Int)))))

set_option maxRecDepth 100000 in
theorem W_clockworkref06_ascending {V : View} (x1 : List TPair) {a2 : Option Addr} {k2 : Nat} (h2 : SlAt cTPair V a2 k2 x1) {r : Bool} (hF : F_clockworkref06_ascending x1 = some r) :
    Spec Tryz.prog 98 [.slice a2 ((x1).length) (k2)] V (fun _ v => v = .bool (r)) := by
  unfold F_clockworkref06_ascending at hF
  refine Spec.enter (T := tyT) Tryz.func98 rfl (by kernel_rfl) rfl rfl rfl ?_
  refine Exec.run tyOk 9 rfl ?_
  obtain ⟨J3, hJ3, hF⟩ := jn_some hF
  refine Exec.seam (fun L' V' M' => L' = [] ∧ M' = [] ∧ J3 = some r) rfl ?_ ?_
  · rintro L' V4 M' ⟨rfl, rfl, hF⟩
    subst hJ3
    refine Exec.run tyOk 400 rfl ?_
    obtain rfl := some_inj hF
    exact Exec.ret tyOk rfl rfl rfl
  · skip
    refine Exec.run tyOk 400 rfl ?_
    refine Exec.loop (fun n6 L' V' M' => ∃ (x5 : Int), L' = [(0, .v (.slice a2 ((x1).length) (k2))), (3, .v (.int .i64 (x5)))] ∧ M' = [] ∧ SlAt cTPair V' a2 k2 x1 ∧ F_clockworkref06_ascending_L1 x1 J3 n6 x5 = some r) ⟨(((((x1).length : Nat) : Int)).toNat + 1), [(0, .v (.slice a2 ((x1).length) (k2))), (3, .v (.int .i64 ((0 : Int))))], ⟨rfl, rfl, trivial⟩, (0 : Int), rfl, rfl, h2, hF⟩ ?_
    rintro n6 L' V7 M' ⟨x5, rfl, rfl, h8, hF⟩
    rcases n6 with _ | n6
    · exact absurd hF (by simp [F_clockworkref06_ascending_L1])
    rw [F_clockworkref06_ascending_L1] at hF
    refine Exec.run tyOk 400 rfl ?_
    rcases cond_some hF with ⟨hb, hF⟩ | ⟨hb, hF⟩
    · skip
      refine Exec.ifT rfl hb ?_
      refine Exec.run tyOk 400 rfl ?_
      refine Exec.draws tyOk [(0, true), (1, true), (2, true), (3, true), (4, true), (5, false), (6, false), (7, false), (8, false), (9, false), (10, false), (11, true), (12, true), (13, true), (14, true), (15, true), (16, true), (17, false), (18, false), (19, false), (20, false), (21, false), (22, false), (23, false), (24, false)] rfl (by kernel_rfl) ?_
      refine Exec.run tyOk 400 rfl ?_
      obtain ⟨q9, hF⟩ := req_some hF
      obtain ⟨c10, hr10, hd10⟩ := SlAt.get h8 q9
      obtain rfl := hr10
      refine Exec.fia tyOk rfl rfl rfl ⟨q9.1, q9.2, hd10.some⟩ ?_
      refine Exec.run tyOk 400 rfl ?_
      refine Exec.fld tyOk (x := .string ⟨⟨(atI x1 x5).Key⟩⟩) rfl rfl rfl (RdAt.part hd10 0 1 rfl) rfl rfl ?_
      refine Exec.run tyOk 400 rfl ?_
      obtain ⟨x11, hx11, hF⟩ := bnd_some hF
      refine Exec.callS (.bool (x11)) rfl rfl (W_clockworkref04_Valid ((atI x1 x5).Key)  hx11) ?_
      refine Exec.run tyOk 400 rfl ?_
      obtain ⟨q12, hF⟩ := req_some hF
      obtain ⟨c13, hr13, hd13⟩ := SlAt.gget ((((decide ((0 : Int) < x5))) == true) && (((!x11)) == false)) h8 q12
      obtain rfl := hr13
      refine Exec.fia tyOk rfl rfl rfl (fun gg0 gg1 => ⟨(q12 (gd2_of gg0 gg1)).1, (q12 (gd2_of gg0 gg1)).2, (hd13 (gd2_of gg0 gg1)).some⟩) ?_
      refine Exec.run tyOk 400 rfl ?_
      refine Exec.fld tyOk (x := .string ⟨⟨(cond ((((decide ((0 : Int) < x5))) == true) && (((!x11)) == false)) (atI x1 x5) default).Key⟩⟩) rfl rfl rfl (fun gg0 gg1 => (RdAt.part (hd13 (gd2_of gg0 gg1)) 0 1 rfl)) rfl rfl ?_
      refine Exec.run tyOk 400 rfl ?_
      obtain ⟨q14, hF⟩ := req_some hF
      obtain ⟨c15, hr15, hd15⟩ := SlAt.gget ((((decide ((0 : Int) < x5))) == true) && (((!x11)) == false)) h8 q14
      obtain rfl := hr15
      refine Exec.ia tyOk rfl rfl (fun gg0 gg1 => ⟨(q14 (gd2_of gg0 gg1)).1, (q14 (gd2_of gg0 gg1)).2, (hd15 (gd2_of gg0 gg1)).some⟩) ?_
      refine Exec.run tyOk 400 rfl ?_
      refine Exec.ld tyOk (x := .string ⟨⟨(cond ((((decide ((0 : Int) < x5))) == true) && (((!x11)) == false)) (atI x1 ((IntKind.i64.wrap (x5 - (1 : Int))))) default).Key⟩⟩) rfl rfl (fun gg0 gg1 => (RdAt.part (hd15 (gd2_of gg0 gg1)) 0 1 rfl)) rfl rfl ?_
      refine Exec.run tyOk 400 rfl ?_
      rcases cond_some hF with ⟨hb, hF⟩ | ⟨hb, hF⟩
      · skip
        refine Exec.ifT rfl hb ?_
        refine Exec.run tyOk 400 rfl ?_
        obtain rfl := some_inj hF
        exact Exec.ret tyOk rfl rfl rfl
      · skip
        refine Exec.ifF rfl hb ?_
        refine Exec.run tyOk 400 rfl ?_
        exact Exec.round [(0, .v (.slice a2 ((x1).length) (k2))), (3, .v (.int .i64 ((IntKind.i64.wrap (x5 + (1 : Int))))))] ⟨rfl, rfl, trivial⟩ ⟨n6, Nat.lt_succ_self _, (IntKind.i64.wrap (x5 + (1 : Int))), rfl, rfl, h8, hF⟩
    · skip
      refine Exec.ifF rfl hb ?_
      refine Exec.run tyOk 400 rfl ?_
      exact Exec.round [] trivial ⟨rfl, rfl, hF⟩

def F_keys_Same (x1 : List Str) (x3 : List Str) : Option Bool :=
  (bnd (F_slices_Equal_string_string x1 x3) fun x5 => (some x5))

set_option maxRecDepth 100000 in
theorem W_keys_Same {V : View} (x1 : List Str) (x3 : List Str) {a2 : Option Addr} {k2 : Nat} {a4 : Option Addr} {k4 : Nat} (h2 : SlAt cStr V a2 k2 x1) (h4 : SlAt cStr V a4 k4 x3) {r : Bool} (hF : F_keys_Same x1 x3 = some r) :
    Spec Tryz.prog 106 [.slice a2 ((x1).length) (k2), .slice a4 ((x3).length) (k4)] V (fun _ v => v = .bool (r)) := by
  unfold F_keys_Same at hF
  refine Spec.enter (T := tyT) Tryz.func106 rfl (by kernel_rfl) rfl rfl rfl ?_
  refine Exec.run tyOk 400 rfl ?_
  obtain ⟨x5, hx5, hF⟩ := bnd_some hF
  refine Exec.callS (.bool (x5)) rfl rfl (W_slices_Equal_string_string x1 x3 h2 h4 hx5) ?_
  refine Exec.run tyOk 400 rfl ?_
  obtain rfl := some_inj hF
  exact Exec.ret tyOk rfl rfl rfl

def F_state_Same (x1 : List TPair) (x3 : List TPair) : Option Bool :=
  (bnd (F_slices_Equal_api_Pair_api_Pair x1 x3) fun x5 => (some x5))

set_option maxRecDepth 100000 in
theorem W_state_Same {V : View} (x1 : List TPair) (x3 : List TPair) {a2 : Option Addr} {k2 : Nat} {a4 : Option Addr} {k4 : Nat} (h2 : SlAt cTPair V a2 k2 x1) (h4 : SlAt cTPair V a4 k4 x3) {r : Bool} (hF : F_state_Same x1 x3 = some r) :
    Spec Tryz.prog 107 [.slice a2 ((x1).length) (k2), .slice a4 ((x3).length) (k4)] V (fun _ v => v = .bool (r)) := by
  unfold F_state_Same at hF
  refine Spec.enter (T := tyT) Tryz.func107 rfl (by kernel_rfl) rfl rfl rfl ?_
  refine Exec.run tyOk 400 rfl ?_
  obtain ⟨x5, hx5, hF⟩ := bnd_some hF
  refine Exec.callS (.bool (x5)) rfl rfl (W_slices_Equal_api_Pair_api_Pair x1 x3 h2 h4 hx5) ?_
  refine Exec.run tyOk 400 rfl ?_
  obtain rfl := some_inj hF
  exact Exec.ret tyOk rfl rfl rfl

def F_slices_ContainsFunc_api_Pair_api_Pair (x1 : List TPair) (g4 : TPair → Option Bool) : Option Bool :=
  (bnd (F_slices_IndexFunc_api_Pair_api_Pair x1 g4) fun x5 => (some (decide ((0 : Int) ≤ x5))))

set_option maxRecDepth 100000 in
theorem W_slices_ContainsFunc_api_Pair_api_Pair {V : View} (x1 : List TPair) (g4 : TPair → Option Bool) {f4 : Nat} {ca4 : List Value} {a2 : Option Addr} {k2 : Nat} (h2 : SlAt cTPair V a2 k2 x1) (hg4 : FnSpec1 Tryz.prog f4 ca4 V (fun (y : TPair) => .agg ⟨[.string ⟨⟨y.Key⟩⟩, .int .i64 (y.Val.Kind), .int .i64 (y.Val.N), .string ⟨⟨y.Val.S⟩⟩]⟩) (fun (r : Bool) => .bool (r)) g4) {r : Bool} (hF : F_slices_ContainsFunc_api_Pair_api_Pair x1 g4 = some r) :
    Spec Tryz.prog 109 [.slice a2 ((x1).length) (k2), .func (.func f4) #[] ⟨ca4⟩] V (fun _ v => v = .bool (r)) := by
  unfold F_slices_ContainsFunc_api_Pair_api_Pair at hF
  refine Spec.enter (T := tyT) Tryz.func109 rfl (by kernel_rfl) rfl rfl rfl ?_
  refine Exec.run tyOk 400 rfl ?_
  obtain ⟨x5, hx5, hF⟩ := bnd_some hF
  refine Exec.callS (.int .i64 (x5)) rfl rfl (W_slices_IndexFunc_api_Pair_api_Pair x1 g4 h2 hg4 hx5) ?_
  refine Exec.run tyOk 400 rfl ?_
  obtain rfl := some_inj hF
  exact Exec.ret tyOk rfl rfl rfl

def F_state_order (x1 : TPair) (x2 : TPair) : Option Int :=
  (bnd (F_strings_Compare x1.Key x2.Key) fun x3 => (some x3))

set_option maxRecDepth 100000 in
theorem W_state_order {V : View} (x1 : TPair) (x2 : TPair)   {r : Int} (hF : F_state_order x1 x2 = some r) :
    Spec Tryz.prog 113 [.agg ⟨[.string ⟨⟨x1.Key⟩⟩, .int .i64 (x1.Val.Kind), .int .i64 (x1.Val.N), .string ⟨⟨x1.Val.S⟩⟩]⟩, .agg ⟨[.string ⟨⟨x2.Key⟩⟩, .int .i64 (x2.Val.Kind), .int .i64 (x2.Val.N), .string ⟨⟨x2.Val.S⟩⟩]⟩] V (fun _ v => v = .int .i64 (r)) := by
  unfold F_state_order at hF
  refine Spec.enter (T := tyT) Tryz.func113 rfl (by kernel_rfl) rfl rfl rfl ?_
  refine Exec.run tyOk 400 rfl ?_
  obtain ⟨x3, hx3, hF⟩ := bnd_some hF
  refine Exec.callS (.int .i64 (x3)) rfl rfl (W_strings_Compare x1.Key x2.Key  hx3) ?_
  refine Exec.run tyOk 400 rfl ?_
  obtain rfl := some_inj hF
  exact Exec.ret tyOk rfl rfl rfl

def F_value_Valid (x1 : TValue) : Option Bool :=
  (cond (x1.Kind == (0 : Int)) (some ((x1.Kind == 0) && ((x1.N == 0) && ((x1.S == []) && true)))) (cond (x1.Kind == (1 : Int)) (some (x1.S == ([] : Str))) (cond (x1.Kind == (2 : Int)) (bnd (gcall (((x1.N == (0 : Int))) == true) (F_value_plain x1.S)) fun x2 => (some ((x1.N == (0 : Int)) && x2))) (some false))))

set_option maxRecDepth 100000 in
theorem W_value_Valid {V : View} (x1 : TValue)   {r : Bool} (hF : F_value_Valid x1 = some r) :
    Spec Tryz.prog 142 [.agg ⟨[.int .i64 (x1.Kind), .int .i64 (x1.N), .string ⟨⟨x1.S⟩⟩]⟩] V (fun _ v => v = .bool (r)) := by
  unfold F_value_Valid at hF
  refine Spec.enter (T := tyT) Tryz.func142 rfl (by kernel_rfl) rfl rfl rfl ?_
  refine Exec.run tyOk 400 rfl ?_
  rcases cond_some hF with ⟨hb, hF⟩ | ⟨hb, hF⟩
  · skip
    refine Exec.ifT rfl hb ?_
    refine Exec.run tyOk 400 rfl ?_
    obtain rfl := some_inj hF
    exact Exec.ret tyOk rfl rfl rfl
  · skip
    refine Exec.ifF rfl hb ?_
    refine Exec.run tyOk 400 rfl ?_
    rcases cond_some hF with ⟨hb, hF⟩ | ⟨hb, hF⟩
    · skip
      refine Exec.ifT rfl hb ?_
      refine Exec.run tyOk 400 rfl ?_
      obtain rfl := some_inj hF
      exact Exec.ret tyOk rfl rfl rfl
    · skip
      refine Exec.ifF rfl hb ?_
      refine Exec.run tyOk 400 rfl ?_
      rcases cond_some hF with ⟨hb, hF⟩ | ⟨hb, hF⟩
      · skip
        refine Exec.ifT rfl hb ?_
        refine Exec.run tyOk 400 rfl ?_
        obtain ⟨x2, hx2, hF⟩ := bnd_some hF
        refine Exec.callS (.bool (x2)) rfl rfl (fun gg0 => W_value_plain x1.S  (gcall_some hx2 (gd1_of gg0))) ?_
        refine Exec.run tyOk 400 rfl ?_
        obtain rfl := some_inj hF
        exact Exec.ret tyOk rfl rfl rfl
      · skip
        refine Exec.ifF rfl hb ?_
        refine Exec.run tyOk 400 rfl ?_
        obtain rfl := some_inj hF
        exact Exec.ret tyOk rfl rfl rfl

def F_placement_Valid_L1 (x1 : TPlacement) (J5 : Option Bool) : Nat → Int → Option Bool
  | 0, _ => none
  | n8 + 1, x7 => (cond (decide (x7 < (((x1.Parts).length : Nat) : Int))) (req (0 ≤ x7 ∧ x7 < ((x1.Parts).length : Int)) (bnd (gcall (((decide ((0 : Int) < x7))) == true) (F_placement_bound ((atI x1.Parts x7).From))) fun x13 => (req (((((!x13)) == false) && (((decide ((0 : Int) < x7))) == true)) = true → 0 ≤ (IntKind.i64.wrap (x7 - (1 : Int))) ∧ (IntKind.i64.wrap (x7 - (1 : Int))) < ((x1.Parts).length : Int)) (cond ((decide ((0 : Int) < x7)) && ((!x13) || (!sLt (cond ((((!x13)) == false) && (((decide ((0 : Int) < x7))) == true)) (atI x1.Parts ((IntKind.i64.wrap (x7 - (1 : Int))))) default).From (atI x1.Parts x7).From))) (some false) (bnd (F_placement_number ((atI x1.Parts x7).Id)) fun x16 => (bnd (gcall (((!x16)) == false) (F_placement_node ((atI x1.Parts x7).Node))) fun x17 => (bnd (gcall ((((!x16) || (!x17))) == false) (F_placement_validMove x1.Parts x7)) fun x18 => (req ((((((!x16) || (!x17)) || (!x18))) == false) = true → 0 ≤ (0 : Int) ∧ (0 : Int) ≤ x7 ∧ x7 ≤ ((x1.Parts).length : Int)) (bnd (gcall (((((!x16) || (!x17)) || (!x18))) == false) (F_placement_find ((cond ((((((!x16) || (!x17)) || (!x18))) == false)) ((x1.Parts.take (x7).toNat).drop ((0 : Int)).toNat) ([] : List TPart))) ((atI x1.Parts x7).Id))) fun x21 => (cond ((((!x16) || (!x17)) || (!x18)) || (decide ((0 : Int) ≤ x21))) (some false) (F_placement_Valid_L1 x1 J5 n8 ((IntKind.i64.wrap (x7 + (1 : Int))))))))))))))) J5)

def F_placement_Valid (x1 : TPlacement) : Option Bool :=
  (req (((((((decide (x1.Version < (0 : Int))) || (decide ((1099511627776 : Int) < x1.Version))) || (decide ((((x1.Parts).length : Nat) : Int) < (1 : Int)))) || (decide ((16 : Int) < (((x1.Parts).length : Nat) : Int))))) == false) = true → 0 ≤ (0 : Int) ∧ (0 : Int) < ((x1.Parts).length : Int)) (cond (((((decide (x1.Version < (0 : Int))) || (decide ((1099511627776 : Int) < x1.Version))) || (decide ((((x1.Parts).length : Nat) : Int) < (1 : Int)))) || (decide ((16 : Int) < (((x1.Parts).length : Nat) : Int)))) || ((cond ((((((decide (x1.Version < (0 : Int))) || (decide ((1099511627776 : Int) < x1.Version))) || (decide ((((x1.Parts).length : Nat) : Int) < (1 : Int)))) || (decide ((16 : Int) < (((x1.Parts).length : Nat) : Int))))) == false) (atI x1.Parts ((0 : Int))) default).From != ([] : Str))) (some false) (jn ((some true)) (fun J5 => (F_placement_Valid_L1 x1 J5 (((((x1.Parts).length : Nat) : Int)).toNat + 1) ((0 : Int)))))))

set_option maxRecDepth 100000 in
theorem W_placement_Valid {V : View} (x1 : TPlacement) {a2 : Option Addr} {k2 : Nat} (h2 : SlAt cTPart V a2 k2 x1.Parts) {r : Bool} (hF : F_placement_Valid x1 = some r) :
    Spec Tryz.prog 11 [.agg ⟨[.int .i64 (x1.Version), .slice a2 ((x1.Parts).length) (k2)]⟩] V (fun _ v => v = .bool (r)) := by
  unfold F_placement_Valid at hF
  refine Spec.enter (T := tyT) Tryz.func11 rfl (by kernel_rfl) rfl rfl rfl ?_
  refine Exec.run tyOk 400 rfl ?_
  obtain ⟨q3, hF⟩ := req_some hF
  obtain ⟨c4, hr4, hd4⟩ := SlAt.gget ((((((decide (x1.Version < (0 : Int))) || (decide ((1099511627776 : Int) < x1.Version))) || (decide ((((x1.Parts).length : Nat) : Int) < (1 : Int)))) || (decide ((16 : Int) < (((x1.Parts).length : Nat) : Int))))) == false) h2 q3
  obtain rfl := hr4
  refine Exec.ia tyOk rfl rfl (fun gg0 => ⟨(q3 (gd1_of gg0)).1, (q3 (gd1_of gg0)).2, (hd4 (gd1_of gg0)).some⟩) ?_
  refine Exec.run tyOk 400 rfl ?_
  refine Exec.ld tyOk (x := .string ⟨⟨(cond ((((((decide (x1.Version < (0 : Int))) || (decide ((1099511627776 : Int) < x1.Version))) || (decide ((((x1.Parts).length : Nat) : Int) < (1 : Int)))) || (decide ((16 : Int) < (((x1.Parts).length : Nat) : Int))))) == false) (atI x1.Parts ((0 : Int))) default).From⟩⟩) rfl rfl (fun gg0 => (RdAt.part (hd4 (gd1_of gg0)) 1 1 rfl)) rfl rfl ?_
  refine Exec.run tyOk 400 rfl ?_
  rcases cond_some hF with ⟨hb, hF⟩ | ⟨hb, hF⟩
  · skip
    refine Exec.ifT rfl hb ?_
    refine Exec.run tyOk 400 rfl ?_
    obtain rfl := some_inj hF
    exact Exec.ret tyOk rfl rfl rfl
  · skip
    refine Exec.ifF rfl hb ?_
    refine Exec.run tyOk 9 rfl ?_
    obtain ⟨J5, hJ5, hF⟩ := jn_some hF
    refine Exec.seam (fun L' V' M' => L' = [] ∧ M' = [] ∧ J5 = some r) rfl ?_ ?_
    · rintro L' V6 M' ⟨rfl, rfl, hF⟩
      subst hJ5
      refine Exec.run tyOk 400 rfl ?_
      obtain rfl := some_inj hF
      exact Exec.ret tyOk rfl rfl rfl
    · skip
      refine Exec.run tyOk 400 rfl ?_
      refine Exec.loop (fun n8 L' V' M' => ∃ (x7 : Int), L' = [(1, .ptr 0 0), (34, .v (.slice a2 ((x1.Parts).length) (k2))), (35, .v (.int .i64 ((((x1.Parts).length : Nat) : Int)))), (36, .v (.int .i64 (x7)))] ∧ M' = [.blk [.v (.int .i64 (x1.Version)), .v (.slice a2 ((x1.Parts).length) (k2))] 24] ∧ SlAt cTPart V' a2 k2 x1.Parts ∧ F_placement_Valid_L1 x1 J5 n8 x7 = some r) ⟨(((((x1.Parts).length : Nat) : Int)).toNat + 1), [(1, .ptr 0 0), (34, .v (.slice a2 ((x1.Parts).length) (k2))), (35, .v (.int .i64 ((((x1.Parts).length : Nat) : Int)))), (36, .v (.int .i64 ((0 : Int))))], ⟨rfl, rfl, rfl, rfl, trivial⟩, (0 : Int), rfl, rfl, h2, hF⟩ ?_
      rintro n8 L' V9 M' ⟨x7, rfl, rfl, h10, hF⟩
      rcases n8 with _ | n8
      · exact absurd hF (by simp [F_placement_Valid_L1])
      rw [F_placement_Valid_L1] at hF
      refine Exec.run tyOk 400 rfl ?_
      rcases cond_some hF with ⟨hb, hF⟩ | ⟨hb, hF⟩
      · skip
        refine Exec.ifT rfl hb ?_
        refine Exec.run tyOk 400 rfl ?_
        obtain ⟨q11, hF⟩ := req_some hF
        obtain ⟨c12, hr12, hd12⟩ := SlAt.get h10 q11
        obtain rfl := hr12
        refine Exec.ia tyOk rfl rfl ⟨q11.1, q11.2, hd12.some⟩ ?_
        refine Exec.run tyOk 400 rfl ?_
        refine Exec.ld tyOk (x := .agg ⟨[.int .i64 ((atI x1.Parts x7).Id), .string ⟨⟨(atI x1.Parts x7).From⟩⟩, .int .i64 ((atI x1.Parts x7).Node), .int .i64 ((atI x1.Parts x7).Dest), .string ⟨⟨(atI x1.Parts x7).Done⟩⟩]⟩) rfl rfl hd12 rfl rfl ?_
        refine Exec.run tyOk 400 rfl ?_
        refine Exec.draws tyOk [(0, true), (1, true), (2, true), (3, true), (4, true), (5, false), (6, false), (7, false), (8, true), (9, true), (10, true), (11, true), (12, false), (13, false), (14, false), (15, false), (16, false), (17, false), (18, false), (19, false)] rfl (by kernel_rfl) ?_
        refine Exec.run tyOk 400 rfl ?_
        obtain ⟨x13, hx13, hF⟩ := bnd_some hF
        refine Exec.callS (.bool (x13)) rfl rfl (fun gg0 => W_placement_bound ((atI x1.Parts x7).From)  (gcall_some hx13 (gd1_of gg0))) ?_
        refine Exec.run tyOk 400 rfl ?_
        obtain ⟨q14, hF⟩ := req_some hF
        obtain ⟨c15, hr15, hd15⟩ := SlAt.gget ((((!x13)) == false) && (((decide ((0 : Int) < x7))) == true)) h10 q14
        obtain rfl := hr15
        refine Exec.ia tyOk rfl rfl (fun gg0 gg1 => ⟨(q14 (gd2_of gg0 gg1)).1, (q14 (gd2_of gg0 gg1)).2, (hd15 (gd2_of gg0 gg1)).some⟩) ?_
        refine Exec.run tyOk 400 rfl ?_
        refine Exec.ld tyOk (x := .string ⟨⟨(cond ((((!x13)) == false) && (((decide ((0 : Int) < x7))) == true)) (atI x1.Parts ((IntKind.i64.wrap (x7 - (1 : Int))))) default).From⟩⟩) rfl rfl (fun gg0 gg1 => (RdAt.part (hd15 (gd2_of gg0 gg1)) 1 1 rfl)) rfl rfl ?_
        refine Exec.run tyOk 400 rfl ?_
        rcases cond_some hF with ⟨hb, hF⟩ | ⟨hb, hF⟩
        · skip
          refine Exec.ifT rfl hb ?_
          refine Exec.run tyOk 400 rfl ?_
          obtain rfl := some_inj hF
          exact Exec.ret tyOk rfl rfl rfl
        · skip
          refine Exec.ifF rfl hb ?_
          refine Exec.run tyOk 400 rfl ?_
          refine Exec.draws tyOk [(0, true), (1, true), (2, false), (3, false), (4, false), (5, false), (6, false), (7, false), (8, false), (9, false), (10, false), (11, true), (12, true), (13, false), (14, false), (15, false), (16, false), (17, false), (18, true), (19, true), (20, true), (21, true), (22, false), (23, false), (24, false), (25, false), (26, false)] rfl (by kernel_rfl) ?_
          refine Exec.run tyOk 400 rfl ?_
          obtain ⟨x16, hx16, hF⟩ := bnd_some hF
          refine Exec.callS (.bool (x16)) rfl rfl (W_placement_number ((atI x1.Parts x7).Id)  hx16) ?_
          refine Exec.run tyOk 400 rfl ?_
          obtain ⟨x17, hx17, hF⟩ := bnd_some hF
          refine Exec.callS (.bool (x17)) rfl rfl (fun gg0 => W_placement_node ((atI x1.Parts x7).Node)  (gcall_some hx17 (gd1_of gg0))) ?_
          refine Exec.run tyOk 400 rfl ?_
          obtain ⟨x18, hx18, hF⟩ := bnd_some hF
          refine Exec.callS (.bool (x18)) rfl rfl (fun gg0 => W_placement_validMove x1.Parts x7 h10 (gcall_some hx18 (gd1_of gg0))) ?_
          refine Exec.run tyOk 400 rfl ?_
          obtain ⟨q19, hF⟩ := req_some hF
          refine Exec.fgslv tyOk (c := cTPart) (g := (((((!x16) || (!x17)) || (!x18))) == false)) rfl rfl rfl (lo := (0 : Int)) (hi := x7) rfl rfl h10 (by simp) rfl (fun gg0 => gd1_of gg0) q19 (fun a20 k20 h20 => ?_)
          refine Exec.run tyOk 400 rfl ?_
          obtain ⟨x21, hx21, hF⟩ := bnd_some hF
          refine Exec.callS (.int .i64 (x21)) rfl rfl (fun gg0 => W_placement_find ((cond ((((((!x16) || (!x17)) || (!x18))) == false)) ((x1.Parts.take (x7).toNat).drop ((0 : Int)).toNat) ([] : List TPart))) ((atI x1.Parts x7).Id) h20 (gcall_some hx21 (gd1_of gg0))) ?_
          refine Exec.run tyOk 400 rfl ?_
          rcases cond_some hF with ⟨hb, hF⟩ | ⟨hb, hF⟩
          · skip
            refine Exec.ifT rfl hb ?_
            refine Exec.run tyOk 400 rfl ?_
            obtain rfl := some_inj hF
            exact Exec.ret tyOk rfl rfl rfl
          · skip
            refine Exec.ifF rfl hb ?_
            refine Exec.run tyOk 400 rfl ?_
            refine Exec.cut 1 [(1, .ptr 0 0), (34, .v (.slice a2 ((x1.Parts).length) (k2))), (35, .v (.int .i64 ((((x1.Parts).length : Nat) : Int)))), (36, .v (.int .i64 ((IntKind.i64.wrap (x7 + (1 : Int))))))] (M' := [.blk [.v (.int .i64 (x1.Version)), .v (.slice a2 ((x1.Parts).length) (k2))] 24]) rfl ⟨rfl, rfl, rfl, rfl, trivial⟩ rfl rfl rfl ?_
            exact Exec.round [(1, .ptr 0 0), (34, .v (.slice a2 ((x1.Parts).length) (k2))), (35, .v (.int .i64 ((((x1.Parts).length : Nat) : Int)))), (36, .v (.int .i64 ((IntKind.i64.wrap (x7 + (1 : Int))))))] ⟨rfl, rfl, rfl, rfl, trivial⟩ ⟨n8, Nat.lt_succ_self _, (IntKind.i64.wrap (x7 + (1 : Int))), rfl, rfl, h10, hF⟩
      · skip
        refine Exec.ifF rfl hb ?_
        refine Exec.run tyOk 400 rfl ?_
        refine Exec.cut 0 [] (M' := []) rfl trivial rfl rfl rfl ?_
        exact Exec.round [] trivial ⟨rfl, rfl, hF⟩

def F_clockworkref31_SameList_L1 (x1 : List TMail) (x3 : List TMail) (J5 : Option Bool) : Nat → Int → Option Bool
  | 0, _ => none
  | n8 + 1, x7 => (cond (decide (x7 < (((x1).length : Nat) : Int))) (req (0 ≤ x7 ∧ x7 < ((x1).length : Int)) (req (0 ≤ x7 ∧ x7 < ((x3).length : Int)) (bnd (F_clockworkref31_Same ((atI x1 x7)) ((atI x3 x7))) fun x20 => (cond (!x20) (some false) (F_clockworkref31_SameList_L1 x1 x3 J5 n8 ((IntKind.i64.wrap (x7 + (1 : Int))))))))) J5)

def F_clockworkref31_SameList (x1 : List TMail) (x3 : List TMail) : Option Bool :=
  (cond ((((x1).length : Nat) : Int) != (((x3).length : Nat) : Int)) (some false) (jn ((some true)) (fun J5 => (F_clockworkref31_SameList_L1 x1 x3 J5 (((((x1).length : Nat) : Int)).toNat + 1) ((0 : Int))))))

set_option maxRecDepth 100000 in
theorem W_clockworkref31_SameList {V : View} (x1 : List TMail) (x3 : List TMail) {a2 : Option Addr} {k2 : Nat} {a4 : Option Addr} {k4 : Nat} (h2 : SlAt cTMail V a2 k2 x1) (h4 : SlAt cTMail V a4 k4 x3) {r : Bool} (hF : F_clockworkref31_SameList x1 x3 = some r) :
    Spec Tryz.prog 26 [.slice a2 ((x1).length) (k2), .slice a4 ((x3).length) (k4)] V (fun _ v => v = .bool (r)) := by
  unfold F_clockworkref31_SameList at hF
  refine Spec.enter (T := tyT) Tryz.func26 rfl (by kernel_rfl) rfl rfl rfl ?_
  refine Exec.run tyOk 400 rfl ?_
  rcases cond_some hF with ⟨hb, hF⟩ | ⟨hb, hF⟩
  · skip
    refine Exec.ifT rfl hb ?_
    refine Exec.run tyOk 400 rfl ?_
    obtain rfl := some_inj hF
    exact Exec.ret tyOk rfl rfl rfl
  · skip
    refine Exec.ifF rfl hb ?_
    refine Exec.run tyOk 6 rfl ?_
    obtain ⟨J5, hJ5, hF⟩ := jn_some hF
    refine Exec.seam (fun L' V' M' => L' = [] ∧ M' = [] ∧ J5 = some r) rfl ?_ ?_
    · rintro L' V6 M' ⟨rfl, rfl, hF⟩
      subst hJ5
      refine Exec.run tyOk 400 rfl ?_
      obtain rfl := some_inj hF
      exact Exec.ret tyOk rfl rfl rfl
    · skip
      refine Exec.run tyOk 400 rfl ?_
      refine Exec.loop (fun n8 L' V' M' => ∃ (x7 : Int), L' = [(0, .v (.slice a2 ((x1).length) (k2))), (1, .v (.slice a4 ((x3).length) (k4))), (5, .v (.int .i64 (x7)))] ∧ M' = [] ∧ SlAt cTMail V' a2 k2 x1 ∧ SlAt cTMail V' a4 k4 x3 ∧ F_clockworkref31_SameList_L1 x1 x3 J5 n8 x7 = some r) ⟨(((((x1).length : Nat) : Int)).toNat + 1), [(0, .v (.slice a2 ((x1).length) (k2))), (1, .v (.slice a4 ((x3).length) (k4))), (5, .v (.int .i64 ((0 : Int))))], ⟨rfl, rfl, rfl, trivial⟩, (0 : Int), rfl, rfl, h2, h4, hF⟩ ?_
      rintro n8 L' V9 M' ⟨x7, rfl, rfl, h10, h11, hF⟩
      rcases n8 with _ | n8
      · exact absurd hF (by simp [F_clockworkref31_SameList_L1])
      rw [F_clockworkref31_SameList_L1] at hF
      refine Exec.run tyOk 400 rfl ?_
      rcases cond_some hF with ⟨hb, hF⟩ | ⟨hb, hF⟩
      · skip
        refine Exec.ifT rfl hb ?_
        refine Exec.run tyOk 400 rfl ?_
        refine Exec.draws tyOk [(0, true), (1, true), (2, true), (3, true), (4, true), (5, true), (6, true), (7, true), (8, false), (9, false)] rfl (by kernel_rfl) ?_
        refine Exec.run tyOk 400 rfl ?_
        obtain ⟨q12, hF⟩ := req_some hF
        obtain ⟨c13, hr13, hd13⟩ := SlAt.get h10 q12
        obtain ⟨a14, k14, a15, k15, rfl, h14, h15⟩ := hr13
        refine Exec.fia tyOk rfl rfl rfl ⟨q12.1, q12.2, hd13.some⟩ ?_
        refine Exec.run tyOk 400 rfl ?_
        refine Exec.fld tyOk (x := .agg ⟨[.int .i64 ((atI x1 x7).Txn), .int .i64 ((atI x1 x7).From), .int .i64 ((atI x1 x7).To), .slice a14 (((atI x1 x7).Keys).length) (k14), .slice a15 (((atI x1 x7).Pairs).length) (k15)]⟩) rfl rfl rfl hd13 rfl rfl ?_
        refine Exec.run tyOk 400 rfl ?_
        obtain ⟨q16, hF⟩ := req_some hF
        obtain ⟨c17, hr17, hd17⟩ := SlAt.get h11 q16
        obtain ⟨a18, k18, a19, k19, rfl, h18, h19⟩ := hr17
        refine Exec.fia tyOk rfl rfl rfl ⟨q16.1, q16.2, hd17.some⟩ ?_
        refine Exec.run tyOk 400 rfl ?_
        refine Exec.fld tyOk (x := .agg ⟨[.int .i64 ((atI x3 x7).Txn), .int .i64 ((atI x3 x7).From), .int .i64 ((atI x3 x7).To), .slice a18 (((atI x3 x7).Keys).length) (k18), .slice a19 (((atI x3 x7).Pairs).length) (k19)]⟩) rfl rfl rfl hd17 rfl rfl ?_
        refine Exec.run tyOk 400 rfl ?_
        obtain ⟨x20, hx20, hF⟩ := bnd_some hF
        refine Exec.callS (.bool (x20)) rfl rfl (W_clockworkref31_Same ((atI x1 x7)) ((atI x3 x7)) h14 h15 h18 h19 hx20) ?_
        refine Exec.run tyOk 400 rfl ?_
        rcases cond_some hF with ⟨hb, hF⟩ | ⟨hb, hF⟩
        · skip
          refine Exec.ifT rfl hb ?_
          refine Exec.run tyOk 400 rfl ?_
          obtain rfl := some_inj hF
          exact Exec.ret tyOk rfl rfl rfl
        · skip
          refine Exec.ifF rfl hb ?_
          refine Exec.run tyOk 400 rfl ?_
          exact Exec.round [(0, .v (.slice a2 ((x1).length) (k2))), (1, .v (.slice a4 ((x3).length) (k4))), (5, .v (.int .i64 ((IntKind.i64.wrap (x7 + (1 : Int))))))] ⟨rfl, rfl, rfl, trivial⟩ ⟨n8, Nat.lt_succ_self _, (IntKind.i64.wrap (x7 + (1 : Int))), rfl, rfl, h10, h11, hF⟩
      · skip
        refine Exec.ifF rfl hb ?_
        refine Exec.run tyOk 400 rfl ?_
        exact Exec.round [] trivial ⟨rfl, rfl, hF⟩

def F_footprint_ascending_L1 (x1 : List Str) (J3 : Option Bool) : Nat → Int → Option Bool
  | 0, _ => none
  | n7 + 1, x6 => (cond (decide (x6 < (((x1).length : Nat) : Int))) (req (0 ≤ x6 ∧ x6 < ((x1).length : Int)) (bnd (F_keys_Valid ((atI x1 x6))) fun x12 => (req (((((decide ((0 : Int) < x6))) == true) && (((!x12)) == false)) = true → 0 ≤ (IntKind.i64.wrap (x6 - (1 : Int))) ∧ (IntKind.i64.wrap (x6 - (1 : Int))) < ((x1).length : Int)) (cond ((!x12) || ((decide ((0 : Int) < x6)) && (!sLt (cond ((((decide ((0 : Int) < x6))) == true) && (((!x12)) == false)) (atI x1 ((IntKind.i64.wrap (x6 - (1 : Int))))) default) (atI x1 x6)))) (some false) (F_footprint_ascending_L1 x1 J3 n7 ((IntKind.i64.wrap (x6 + (1 : Int))))))))) J3)

def F_footprint_ascending (x1 : List Str) : Option Bool :=
  (jn ((some (decide ((((x1).length : Nat) : Int) ≤ (64 : Int))))) (fun J3 => (F_footprint_ascending_L1 x1 J3 (((((x1).length : Nat) : Int)).toNat + 1) ((0 : Int)))))

set_option maxRecDepth 100000 in
theorem W_footprint_ascending {V : View} (x1 : List Str) {a2 : Option Addr} {k2 : Nat} (h2 : SlAt cStr V a2 k2 x1) {r : Bool} (hF : F_footprint_ascending x1 = some r) :
    Spec Tryz.prog 43 [.slice a2 ((x1).length) (k2)] V (fun _ v => v = .bool (r)) := by
  unfold F_footprint_ascending at hF
  refine Spec.enter (T := tyT) Tryz.func43 rfl (by kernel_rfl) rfl rfl rfl ?_
  refine Exec.run tyOk 11 rfl ?_
  obtain ⟨J3, hJ3, hF⟩ := jn_some hF
  refine Exec.seam (fun L' V' M' => L' = [(0, .v (.slice a2 ((x1).length) (k2)))] ∧ M' = [] ∧ SlAt cStr V' a2 k2 x1 ∧ J3 = some r) rfl ?_ ?_
  · rintro L' V4 M' ⟨rfl, rfl, h5, hF⟩
    subst hJ3
    refine Exec.run tyOk 400 rfl ?_
    obtain rfl := some_inj hF
    exact Exec.ret tyOk rfl rfl rfl
  · skip
    refine Exec.run tyOk 400 rfl ?_
    refine Exec.loop (fun n7 L' V' M' => ∃ (x6 : Int), L' = [(0, .v (.slice a2 ((x1).length) (k2))), (5, .v (.slice a2 ((x1).length) (k2))), (6, .v (.int .i64 ((((x1).length : Nat) : Int)))), (7, .v (.int .i64 (x6)))] ∧ M' = [] ∧ SlAt cStr V' a2 k2 x1 ∧ F_footprint_ascending_L1 x1 J3 n7 x6 = some r) ⟨(((((x1).length : Nat) : Int)).toNat + 1), [(0, .v (.slice a2 ((x1).length) (k2))), (5, .v (.slice a2 ((x1).length) (k2))), (6, .v (.int .i64 ((((x1).length : Nat) : Int)))), (7, .v (.int .i64 ((0 : Int))))], ⟨rfl, rfl, rfl, rfl, trivial⟩, (0 : Int), rfl, rfl, h2, hF⟩ ?_
    rintro n7 L' V8 M' ⟨x6, rfl, rfl, h9, hF⟩
    rcases n7 with _ | n7
    · exact absurd hF (by simp [F_footprint_ascending_L1])
    rw [F_footprint_ascending_L1] at hF
    refine Exec.run tyOk 400 rfl ?_
    rcases cond_some hF with ⟨hb, hF⟩ | ⟨hb, hF⟩
    · skip
      refine Exec.ifT rfl hb ?_
      refine Exec.run tyOk 400 rfl ?_
      obtain ⟨q10, hF⟩ := req_some hF
      obtain ⟨c11, hr11, hd11⟩ := SlAt.get h9 q10
      obtain rfl := hr11
      refine Exec.ia tyOk rfl rfl ⟨q10.1, q10.2, hd11.some⟩ ?_
      refine Exec.run tyOk 400 rfl ?_
      refine Exec.ld tyOk (x := .string ⟨⟨(atI x1 x6)⟩⟩) rfl rfl hd11 rfl rfl ?_
      refine Exec.run tyOk 400 rfl ?_
      obtain ⟨x12, hx12, hF⟩ := bnd_some hF
      refine Exec.callS (.bool (x12)) rfl rfl (W_keys_Valid ((atI x1 x6))  hx12) ?_
      refine Exec.run tyOk 400 rfl ?_
      obtain ⟨q13, hF⟩ := req_some hF
      obtain ⟨c14, hr14, hd14⟩ := SlAt.gget ((((decide ((0 : Int) < x6))) == true) && (((!x12)) == false)) h9 q13
      obtain rfl := hr14
      refine Exec.ia tyOk rfl rfl (fun gg0 gg1 => ⟨(q13 (gd2_of gg0 gg1)).1, (q13 (gd2_of gg0 gg1)).2, (hd14 (gd2_of gg0 gg1)).some⟩) ?_
      refine Exec.run tyOk 400 rfl ?_
      refine Exec.ld tyOk (x := .string ⟨⟨(cond ((((decide ((0 : Int) < x6))) == true) && (((!x12)) == false)) (atI x1 ((IntKind.i64.wrap (x6 - (1 : Int))))) default)⟩⟩) rfl rfl (fun gg0 gg1 => (hd14 (gd2_of gg0 gg1))) rfl rfl ?_
      refine Exec.run tyOk 400 rfl ?_
      rcases cond_some hF with ⟨hb, hF⟩ | ⟨hb, hF⟩
      · skip
        refine Exec.ifT rfl hb ?_
        refine Exec.run tyOk 400 rfl ?_
        obtain rfl := some_inj hF
        exact Exec.ret tyOk rfl rfl rfl
      · skip
        refine Exec.ifF rfl hb ?_
        refine Exec.run tyOk 400 rfl ?_
        exact Exec.round [(0, .v (.slice a2 ((x1).length) (k2))), (5, .v (.slice a2 ((x1).length) (k2))), (6, .v (.int .i64 ((((x1).length : Nat) : Int)))), (7, .v (.int .i64 ((IntKind.i64.wrap (x6 + (1 : Int))))))] ⟨rfl, rfl, rfl, rfl, trivial⟩ ⟨n7, Nat.lt_succ_self _, (IntKind.i64.wrap (x6 + (1 : Int))), rfl, rfl, h9, hF⟩
    · skip
      refine Exec.ifF rfl hb ?_
      refine Exec.run tyOk 400 rfl ?_
      exact Exec.round [(0, .v (.slice a2 ((x1).length) (k2)))] ⟨rfl, trivial⟩ ⟨rfl, rfl, h9, hF⟩

def F_clockworkref06_ValidWrites_L1 (x1 : List TPair) (J3 : Option Bool) : Nat → Int → Option Bool
  | 0, _ => none
  | n8 + 1, x7 => (cond (decide (x7 < (((x1).length : Nat) : Int))) (req (0 ≤ x7 ∧ x7 < ((x1).length : Int)) (bnd (F_clockworkref05_Valid ((atI x1 x7).Val)) fun x13 => (cond (!x13) (some false) (F_clockworkref06_ValidWrites_L1 x1 J3 n8 ((IntKind.i64.wrap (x7 + (1 : Int)))))))) J3)

def F_clockworkref06_ValidWrites (x1 : List TPair) : Option Bool :=
  (jn ((bnd (F_clockworkref06_ascending x1) fun x6 => (some x6))) (fun J3 => (F_clockworkref06_ValidWrites_L1 x1 J3 (((((x1).length : Nat) : Int)).toNat + 1) ((0 : Int)))))

set_option maxRecDepth 100000 in
theorem W_clockworkref06_ValidWrites {V : View} (x1 : List TPair) {a2 : Option Addr} {k2 : Nat} (h2 : SlAt cTPair V a2 k2 x1) {r : Bool} (hF : F_clockworkref06_ValidWrites x1 = some r) :
    Spec Tryz.prog 44 [.slice a2 ((x1).length) (k2)] V (fun _ v => v = .bool (r)) := by
  unfold F_clockworkref06_ValidWrites at hF
  refine Spec.enter (T := tyT) Tryz.func44 rfl (by kernel_rfl) rfl rfl rfl ?_
  refine Exec.run tyOk 9 rfl ?_
  obtain ⟨J3, hJ3, hF⟩ := jn_some hF
  refine Exec.seam (fun L' V' M' => L' = [(0, .v (.slice a2 ((x1).length) (k2)))] ∧ M' = [] ∧ SlAt cTPair V' a2 k2 x1 ∧ J3 = some r) rfl ?_ ?_
  · rintro L' V4 M' ⟨rfl, rfl, h5, hF⟩
    subst hJ3
    refine Exec.run tyOk 400 rfl ?_
    obtain ⟨x6, hx6, hF⟩ := bnd_some hF
    refine Exec.callS (.bool (x6)) rfl rfl (W_clockworkref06_ascending x1 h5 hx6) ?_
    refine Exec.run tyOk 400 rfl ?_
    obtain rfl := some_inj hF
    exact Exec.ret tyOk rfl rfl rfl
  · skip
    refine Exec.run tyOk 400 rfl ?_
    refine Exec.loop (fun n8 L' V' M' => ∃ (x7 : Int), L' = [(0, .v (.slice a2 ((x1).length) (k2))), (3, .v (.int .i64 (x7)))] ∧ M' = [] ∧ SlAt cTPair V' a2 k2 x1 ∧ F_clockworkref06_ValidWrites_L1 x1 J3 n8 x7 = some r) ⟨(((((x1).length : Nat) : Int)).toNat + 1), [(0, .v (.slice a2 ((x1).length) (k2))), (3, .v (.int .i64 ((0 : Int))))], ⟨rfl, rfl, trivial⟩, (0 : Int), rfl, rfl, h2, hF⟩ ?_
    rintro n8 L' V9 M' ⟨x7, rfl, rfl, h10, hF⟩
    rcases n8 with _ | n8
    · exact absurd hF (by simp [F_clockworkref06_ValidWrites_L1])
    rw [F_clockworkref06_ValidWrites_L1] at hF
    refine Exec.run tyOk 400 rfl ?_
    rcases cond_some hF with ⟨hb, hF⟩ | ⟨hb, hF⟩
    · skip
      refine Exec.ifT rfl hb ?_
      refine Exec.run tyOk 400 rfl ?_
      obtain ⟨q11, hF⟩ := req_some hF
      obtain ⟨c12, hr12, hd12⟩ := SlAt.get h10 q11
      obtain rfl := hr12
      refine Exec.ia tyOk rfl rfl ⟨q11.1, q11.2, hd12.some⟩ ?_
      refine Exec.run tyOk 400 rfl ?_
      refine Exec.ld tyOk (x := .agg ⟨[.int .i64 ((atI x1 x7).Val.Kind), .int .i64 ((atI x1 x7).Val.N), .string ⟨⟨(atI x1 x7).Val.S⟩⟩]⟩) rfl rfl (RdAt.part hd12 1 3 rfl) rfl rfl ?_
      refine Exec.run tyOk 400 rfl ?_
      obtain ⟨x13, hx13, hF⟩ := bnd_some hF
      refine Exec.callS (.bool (x13)) rfl rfl (W_clockworkref05_Valid ((atI x1 x7).Val)  hx13) ?_
      refine Exec.run tyOk 400 rfl ?_
      rcases cond_some hF with ⟨hb, hF⟩ | ⟨hb, hF⟩
      · skip
        refine Exec.ifT rfl hb ?_
        refine Exec.run tyOk 400 rfl ?_
        obtain rfl := some_inj hF
        exact Exec.ret tyOk rfl rfl rfl
      · skip
        refine Exec.ifF rfl hb ?_
        refine Exec.run tyOk 400 rfl ?_
        exact Exec.round [(0, .v (.slice a2 ((x1).length) (k2))), (3, .v (.int .i64 ((IntKind.i64.wrap (x7 + (1 : Int))))))] ⟨rfl, rfl, trivial⟩ ⟨n8, Nat.lt_succ_self _, (IntKind.i64.wrap (x7 + (1 : Int))), rfl, rfl, h10, hF⟩
    · skip
      refine Exec.ifF rfl hb ?_
      refine Exec.run tyOk 400 rfl ?_
      exact Exec.round [(0, .v (.slice a2 ((x1).length) (k2)))] ⟨rfl, trivial⟩ ⟨rfl, rfl, h10, hF⟩

def F_clockworkref29_Nodes_L2 (x1 : TPlacement) (x13 : Int) (J20 : Bool → Option (List Int)) : Nat → Bool → Int → Option (List Int)
  | 0, _, _ => none
  | n33 + 1, x31, x32 => (cond (decide (x32 < (((x1.Parts).length : Nat) : Int))) (req (((x31) == false) = true → 0 ≤ x32 ∧ x32 < ((x1.Parts).length : Int)) (req ((((x31 || ((cond ((x31) == false) (atI x1.Parts x32) default).Node == x13))) == false) = true → 0 ≤ x32 ∧ x32 < ((x1.Parts).length : Int)) (F_clockworkref29_Nodes_L2 x1 x13 J20 n33 (((x31 || ((cond ((x31) == false) (atI x1.Parts x32) default).Node == x13)) || ((cond (((x31 || ((cond ((x31) == false) (atI x1.Parts x32) default).Node == x13))) == false) (atI x1.Parts x32) default).Dest == x13))) ((IntKind.i64.wrap (x32 + (1 : Int))))))) (J20 x31))

def F_clockworkref29_Nodes_L1 (x1 : TPlacement) (J6 : (List Int) → Option (List Int)) : Nat → (List Int) → Int → Option (List Int)
  | 0, _, _ => none
  | n14 + 1, x12, x13 => (bnd (gcall (((decide (x13 ≤ (16 : Int)))) == true) (F_clockworkref29_Valid x1)) fun x17 => (cond ((decide (x13 ≤ (16 : Int))) && x17) (jn (fun (x19 : Bool) => (jn (fun (x24 : List Int) => (F_clockworkref29_Nodes_L1 x1 J6 n14 x24 ((IntKind.i64.wrap (x13 + (1 : Int)))))) (fun J25 => (cond x19 (req (((x12 ++ [x13])).length * 8 ≤ 140737488355328) (J25 ((x12 ++ [x13])))) (J25 x12))))) (fun J20 => (F_clockworkref29_Nodes_L2 x1 x13 J20 (((((x1.Parts).length : Nat) : Int)).toNat + 1) false ((0 : Int))))) (J6 x12)))

def F_clockworkref29_Nodes (x1 : TPlacement) : Option (List Int) :=
  (jn (fun (x5 : List Int) => (some x5)) (fun J6 => (F_clockworkref29_Nodes_L1 x1 J6 (1000000 : Nat) (([] : List Int)) ((1 : Int)))))

set_option maxRecDepth 100000 in
theorem W_clockworkref29_Nodes {V : View} (x1 : TPlacement) {a2 : Option Addr} {k2 : Nat} (h2 : SlAt cTPart V a2 k2 x1.Parts) {r : List Int} (hF : F_clockworkref29_Nodes x1 = some r) :
    Spec Tryz.prog 47 [.agg ⟨[.int .i64 (x1.Version), .slice a2 ((x1.Parts).length) (k2)]⟩] V (fun V' v => ∃ (a40 : Option Addr) (k40 : Nat), v = .slice a40 ((r).length) (k40) ∧ SlAt (cInt .i64) V' a40 k40 r) := by
  unfold F_clockworkref29_Nodes at hF
  refine Spec.enter (T := tyT) Tryz.func47 rfl (by kernel_rfl) rfl rfl rfl ?_
  refine Exec.run tyOk 14 rfl ?_
  refine Exec.row0 3 1 rfl ?_
  have h3 : RowRep (cInt .i64) V ([] : List Int) [] := RowRep.nil
  obtain ⟨J6, hJ6, hF⟩ := jn_some hF
  refine Exec.seam (fun L' V' M' => ∃ (x5 : List Int) (a4 : Option Addr) (k4 : Nat) (cs4 : List Value), L' = [(3, .v (.slice a4 ((x5).length) (k4)))] ∧ M' = [.blk [.v (.int .i64 (x1.Version)), .v (.slice a2 ((x1.Parts).length) (k2))] 24, .row (.slice a4 ((x5).length) (k4)) cs4 3 1] ∧ RowRep (cInt .i64) V' x5 cs4 ∧ SlAt cTPart V' a2 k2 x1.Parts ∧ J6 x5 = some r) rfl ?_ ?_
  · rintro L' V7 M' ⟨x5, a4, k4, cs4, rfl, rfl, h4, h8, hF⟩
    subst hJ6
    refine Exec.run tyOk 400 rfl ?_
    refine Exec.frz 1 rfl rfl rfl (fun V9 hv9 hd9 hn9 => ?_)
    have hz9 := RowRep.slat h4 hv9 hd9 hn9
    have h10 := SlAt.mono h8 hv9
    obtain rfl := some_inj hF
    exact Exec.ret tyOk rfl rfl ⟨_, _, rfl, hz9⟩
  · skip
    refine Exec.run tyOk 400 rfl ?_
    refine Exec.loop (fun n14 L' V' M' => ∃ (x12 : List Int) (a11 : Option Addr) (k11 : Nat) (cs11 : List Value) (x13 : Int), L' = [(1, .ptr 0 0), (3, .v (.slice a11 ((x12).length) (k11))), (4, .v (.int .i64 (x13)))] ∧ M' = [.blk [.v (.int .i64 (x1.Version)), .v (.slice a2 ((x1.Parts).length) (k2))] 24, .row (.slice a11 ((x12).length) (k11)) cs11 3 1] ∧ RowRep (cInt .i64) V' x12 cs11 ∧ SlAt cTPart V' a2 k2 x1.Parts ∧ F_clockworkref29_Nodes_L1 x1 J6 n14 x12 x13 = some r) ⟨(1000000 : Nat), [(1, .ptr 0 0), (3, .v (.slice none ((([] : List Int)).length) (0))), (4, .v (.int .i64 ((1 : Int))))], ⟨rfl, rfl, rfl, trivial⟩, ([] : List Int), none, 0, [], (1 : Int), rfl, rfl, h3, h2, hF⟩ ?_
    rintro n14 L' V15 M' ⟨x12, a11, k11, cs11, x13, rfl, rfl, h11, h16, hF⟩
    rcases n14 with _ | n14
    · exact absurd hF (by simp [F_clockworkref29_Nodes_L1])
    rw [F_clockworkref29_Nodes_L1] at hF
    refine Exec.run tyOk 400 rfl ?_
    obtain ⟨x17, hx17, hF⟩ := bnd_some hF
    refine Exec.callS (.bool (x17)) rfl rfl (fun gg0 => W_clockworkref29_Valid x1 h16 (gcall_some hx17 (gd1_of gg0))) ?_
    refine Exec.run tyOk 400 rfl ?_
    rcases cond_some hF with ⟨hb, hF⟩ | ⟨hb, hF⟩
    · skip
      refine Exec.ifT rfl hb ?_
      refine Exec.run tyOk 12 rfl ?_
      obtain ⟨J20, hJ20, hF⟩ := jn_some hF
      refine Exec.seam (fun L' V' M' => ∃ (x19 : Bool), L' = [(1, .ptr 0 0), (3, .v (.slice a11 ((x12).length) (k11))), (4, .v (.int .i64 (x13))), (5, .v (.bool (x19)))] ∧ M' = [.blk [.v (.int .i64 (x1.Version)), .v (.slice a2 ((x1.Parts).length) (k2))] 24, .row (.slice a11 ((x12).length) (k11)) cs11 3 1] ∧ RowRep (cInt .i64) V' x12 cs11 ∧ SlAt cTPart V' a2 k2 x1.Parts ∧ J20 x19 = some r) rfl ?_ ?_
      · rintro L' V21 M' ⟨x19, rfl, rfl, h18, h22, hF⟩
        subst hJ20
        refine Exec.run tyOk 400 rfl ?_
        obtain ⟨J25, hJ25, hF⟩ := jn_some hF
        refine Exec.seam (fun L' V' M' => ∃ (x24 : List Int) (a23 : Option Addr) (k23 : Nat) (cs23 : List Value), L' = [(1, .ptr 0 0), (3, .v (.slice a23 ((x24).length) (k23))), (4, .v (.int .i64 (x13)))] ∧ M' = [.blk [.v (.int .i64 (x1.Version)), .v (.slice a2 ((x1.Parts).length) (k2))] 24, .row (.slice a23 ((x24).length) (k23)) cs23 3 1] ∧ RowRep (cInt .i64) V' x24 cs23 ∧ SlAt cTPart V' a2 k2 x1.Parts ∧ J25 x24 = some r) rfl ?_ ?_
        · rintro L' V26 M' ⟨x24, a23, k23, cs23, rfl, rfl, h23, h27, hF⟩
          subst hJ25
          refine Exec.run tyOk 400 rfl ?_
          exact Exec.round [(1, .ptr 0 0), (3, .v (.slice a23 ((x24).length) (k23))), (4, .v (.int .i64 ((IntKind.i64.wrap (x13 + (1 : Int))))))] ⟨rfl, rfl, rfl, trivial⟩ ⟨n14, Nat.lt_succ_self _, x24, a23, k23, cs23, (IntKind.i64.wrap (x13 + (1 : Int))), rfl, rfl, h23, h27, hF⟩
        · skip
          refine Exec.run tyOk 400 rfl ?_
          rcases cond_some hF with ⟨hb, hF⟩ | ⟨hb, hF⟩
          · skip
            refine Exec.ifT rfl hb ?_
            refine Exec.run tyOk 400 rfl ?_
            refine Exec.bsl tyOk rfl rfl ?_
            refine Exec.run tyOk 400 rfl ?_
            obtain ⟨q29, hF⟩ := req_some hF
            refine Exec.app tyOk 1 2 (nm := ((x12 ++ [x13])).length) rfl rfl rfl rfl rfl rfl rfl rfl rfl (by simp) (fun _ _ => rfl) rfl q29 (fun a28 k28 => ?_)
            have h28 : RowRep (cInt .i64) V21 (x12 ++ [x13]) (cs11 ++ [.int .i64 (x13)]) := RowRep.app h18 ⟨_, _, rfl, rfl, rfl⟩
            refine Exec.run tyOk 400 rfl ?_
            refine Exec.cut 2 [(1, .ptr 0 0), (3, .v (.slice a28 (((x12 ++ [x13])).length) (k28))), (4, .v (.int .i64 (x13)))] (M' := [.blk [.v (.int .i64 (x1.Version)), .v (.slice a2 ((x1.Parts).length) (k2))] 24, .row (.slice a28 (((x12 ++ [x13])).length) (k28)) ((cs11 ++ [.int .i64 (x13)])) 3 1]) rfl ⟨rfl, rfl, rfl, trivial⟩ rfl rfl rfl ?_
            exact Exec.round [(1, .ptr 0 0), (3, .v (.slice a28 (((x12 ++ [x13])).length) (k28))), (4, .v (.int .i64 (x13)))] ⟨rfl, rfl, rfl, trivial⟩ ⟨(x12 ++ [x13]), a28, k28, (cs11 ++ [.int .i64 (x13)]), rfl, rfl, h28, h22, hF⟩
          · skip
            refine Exec.ifF rfl hb ?_
            refine Exec.run tyOk 400 rfl ?_
            exact Exec.round [(1, .ptr 0 0), (3, .v (.slice a11 ((x12).length) (k11))), (4, .v (.int .i64 (x13)))] ⟨rfl, rfl, rfl, trivial⟩ ⟨x12, a11, k11, cs11, rfl, rfl, h18, h22, hF⟩
      · skip
        refine Exec.run tyOk 400 rfl ?_
        refine Exec.loop (fun n33 L' V' M' => ∃ (x31 : Bool) (x32 : Int), L' = [(1, .ptr 0 0), (3, .v (.slice a11 ((x12).length) (k11))), (4, .v (.int .i64 (x13))), (5, .v (.bool (x31))), (6, .v (.int .i64 (x32)))] ∧ M' = [.blk [.v (.int .i64 (x1.Version)), .v (.slice a2 ((x1.Parts).length) (k2))] 24, .row (.slice a11 ((x12).length) (k11)) cs11 3 1] ∧ RowRep (cInt .i64) V' x12 cs11 ∧ SlAt cTPart V' a2 k2 x1.Parts ∧ F_clockworkref29_Nodes_L2 x1 x13 J20 n33 x31 x32 = some r) ⟨(((((x1.Parts).length : Nat) : Int)).toNat + 1), [(1, .ptr 0 0), (3, .v (.slice a11 ((x12).length) (k11))), (4, .v (.int .i64 (x13))), (5, .v (.bool (false))), (6, .v (.int .i64 ((0 : Int))))], ⟨rfl, rfl, rfl, rfl, rfl, trivial⟩, false, (0 : Int), rfl, rfl, h11, h16, hF⟩ ?_
        rintro n33 L' V34 M' ⟨x31, x32, rfl, rfl, h30, h35, hF⟩
        rcases n33 with _ | n33
        · exact absurd hF (by simp [F_clockworkref29_Nodes_L2])
        rw [F_clockworkref29_Nodes_L2] at hF
        refine Exec.run tyOk 400 rfl ?_
        rcases cond_some hF with ⟨hb, hF⟩ | ⟨hb, hF⟩
        · skip
          refine Exec.ifT rfl hb ?_
          refine Exec.run tyOk 400 rfl ?_
          obtain ⟨q36, hF⟩ := req_some hF
          obtain ⟨c37, hr37, hd37⟩ := SlAt.gget ((x31) == false) h35 q36
          obtain rfl := hr37
          refine Exec.ia tyOk rfl rfl (fun gg0 => ⟨(q36 (gd1_of gg0)).1, (q36 (gd1_of gg0)).2, (hd37 (gd1_of gg0)).some⟩) ?_
          refine Exec.run tyOk 400 rfl ?_
          refine Exec.ld tyOk (x := .int .i64 ((cond ((x31) == false) (atI x1.Parts x32) default).Node)) rfl rfl (fun gg0 => (RdAt.part (hd37 (gd1_of gg0)) 2 1 rfl)) rfl rfl ?_
          refine Exec.run tyOk 400 rfl ?_
          obtain ⟨q38, hF⟩ := req_some hF
          obtain ⟨c39, hr39, hd39⟩ := SlAt.gget (((x31 || ((cond ((x31) == false) (atI x1.Parts x32) default).Node == x13))) == false) h35 q38
          obtain rfl := hr39
          refine Exec.ia tyOk rfl rfl (fun gg0 => ⟨(q38 (gd1_of gg0)).1, (q38 (gd1_of gg0)).2, (hd39 (gd1_of gg0)).some⟩) ?_
          refine Exec.run tyOk 400 rfl ?_
          refine Exec.ld tyOk (x := .int .i64 ((cond (((x31 || ((cond ((x31) == false) (atI x1.Parts x32) default).Node == x13))) == false) (atI x1.Parts x32) default).Dest)) rfl rfl (fun gg0 => (RdAt.part (hd39 (gd1_of gg0)) 3 1 rfl)) rfl rfl ?_
          refine Exec.run tyOk 400 rfl ?_
          exact Exec.round [(1, .ptr 0 0), (3, .v (.slice a11 ((x12).length) (k11))), (4, .v (.int .i64 (x13))), (5, .v (.bool (((x31 || ((cond ((x31) == false) (atI x1.Parts x32) default).Node == x13)) || ((cond (((x31 || ((cond ((x31) == false) (atI x1.Parts x32) default).Node == x13))) == false) (atI x1.Parts x32) default).Dest == x13))))), (6, .v (.int .i64 ((IntKind.i64.wrap (x32 + (1 : Int))))))] ⟨rfl, rfl, rfl, rfl, rfl, trivial⟩ ⟨n33, Nat.lt_succ_self _, ((x31 || ((cond ((x31) == false) (atI x1.Parts x32) default).Node == x13)) || ((cond (((x31 || ((cond ((x31) == false) (atI x1.Parts x32) default).Node == x13))) == false) (atI x1.Parts x32) default).Dest == x13)), (IntKind.i64.wrap (x32 + (1 : Int))), rfl, rfl, h30, h35, hF⟩
        · skip
          refine Exec.ifF rfl hb ?_
          refine Exec.run tyOk 400 rfl ?_
          exact Exec.round [(1, .ptr 0 0), (3, .v (.slice a11 ((x12).length) (k11))), (4, .v (.int .i64 (x13))), (5, .v (.bool (x31)))] ⟨rfl, rfl, rfl, rfl, trivial⟩ ⟨x31, rfl, rfl, h30, h35, hF⟩
    · skip
      refine Exec.ifF rfl hb ?_
      refine Exec.run tyOk 400 rfl ?_
      exact Exec.round [(3, .v (.slice a11 ((x12).length) (k11)))] ⟨rfl, trivial⟩ ⟨x12, a11, k11, cs11, rfl, rfl, h11, h16, hF⟩

def F_placement_Nodes_L1 (x1 : TPlacement) (J7 : (List Int) → Option (List Int)) : Nat → (List Int) → Int → Option (List Int)
  | 0, _, _ => none
  | n18 + 1, x16, x17 => (cond (decide (x17 < (((x1.Parts).length : Nat) : Int))) (req (0 ≤ x17 ∧ x17 < ((x1.Parts).length : Int)) (req (((x16 ++ [(atI x1.Parts x17).Node])).length * 8 ≤ 140737488355328) (jn (fun (x26 : List Int) => (F_placement_Nodes_L1 x1 J7 n18 x26 ((IntKind.i64.wrap (x17 + (1 : Int)))))) (fun J27 => (cond ((atI x1.Parts x17).Dest != (0 : Int)) (req ((((x16 ++ [(atI x1.Parts x17).Node]) ++ [(atI x1.Parts x17).Dest])).length * 8 ≤ 140737488355328) (J27 (((x16 ++ [(atI x1.Parts x17).Node]) ++ [(atI x1.Parts x17).Dest])))) (J27 ((x16 ++ [(atI x1.Parts x17).Node])))))))) (J7 x16))

def F_placement_Nodes (x1 : TPlacement) : Option (List Int) :=
  (bnd (F_placement_Valid x1) fun x3 => (cond (!x3) (some ([] : List Int)) (jn (fun (x6 : List Int) => (req ((x6).length < 4611686018427387904) (some (compactL (sortL x6))))) (fun J7 => (F_placement_Nodes_L1 x1 J7 (((((x1.Parts).length : Nat) : Int)).toNat + 1) (([] : List Int)) ((0 : Int)))))))

set_option maxRecDepth 100000 in
theorem W_placement_Nodes {V : View} (x1 : TPlacement) {a2 : Option Addr} {k2 : Nat} (h2 : SlAt cTPart V a2 k2 x1.Parts) {r : List Int} (hF : F_placement_Nodes x1 = some r) :
    Spec Tryz.prog 52 [.agg ⟨[.int .i64 (x1.Version), .slice a2 ((x1.Parts).length) (k2)]⟩] V (fun V' v => ∃ (a32 : Option Addr) (k32 : Nat), v = .slice a32 ((r).length) (k32) ∧ SlAt (cInt .i64) V' a32 k32 r) := by
  unfold F_placement_Nodes at hF
  refine Spec.enter (T := tyT) Tryz.func52 rfl (by kernel_rfl) rfl rfl rfl ?_
  refine Exec.run tyOk 400 rfl ?_
  obtain ⟨x3, hx3, hF⟩ := bnd_some hF
  refine Exec.callS (.bool (x3)) rfl rfl (W_placement_Valid x1 h2 hx3) ?_
  refine Exec.run tyOk 400 rfl ?_
  rcases cond_some hF with ⟨hb, hF⟩ | ⟨hb, hF⟩
  · skip
    refine Exec.ifT rfl hb ?_
    refine Exec.run tyOk 400 rfl ?_
    obtain rfl := some_inj hF
    exact Exec.ret tyOk rfl rfl ⟨_, _, rfl, SlAt.nil⟩
  · skip
    refine Exec.ifF rfl hb ?_
    refine Exec.run tyOk 13 rfl ?_
    refine Exec.row0 3 1 rfl ?_
    have h4 : RowRep (cInt .i64) V ([] : List Int) [] := RowRep.nil
    obtain ⟨J7, hJ7, hF⟩ := jn_some hF
    refine Exec.seam (fun L' V' M' => ∃ (x6 : List Int) (a5 : Option Addr) (k5 : Nat) (cs5 : List Value), L' = [(3, .v (.slice a5 ((x6).length) (k5)))] ∧ M' = [.blk [.v (.int .i64 (x1.Version)), .v (.slice a2 ((x1.Parts).length) (k2))] 24, .row (.slice a5 ((x6).length) (k5)) cs5 3 1] ∧ RowRep (cInt .i64) V' x6 cs5 ∧ SlAt cTPart V' a2 k2 x1.Parts ∧ J7 x6 = some r) rfl ?_ ?_
    · rintro L' V8 M' ⟨x6, a5, k5, cs5, rfl, rfl, h5, h9, hF⟩
      subst hJ7
      refine Exec.run tyOk 400 rfl ?_
      obtain ⟨q11, hF⟩ := req_some hF
      refine Exec.callM 1 rfl rfl rfl rfl (sortI_row h5 (fun cs e => by subst e; exact (sortI_specM ⟨_, rfl, by kernel_rfl, by kernel_rfl⟩ Tryz.slices_Sort_int Tryz.slices_Sort_int_none q11))) ?_
      rintro VV10 _ _ _ ⟨rfl, hVV, rfl⟩
      have hVV := hVV.symm
      subst hVV
      refine ⟨_, rfl, ?_⟩
      have h10 : RowRep (cInt .i64) V8 (sortL x6) ((sortL x6).map (Value.int .i64)) := RowRep.ofInts _
      refine Exec.run tyOk 400 rfl ?_
      refine Exec.callM 1 rfl rfl rfl rfl (compactI_row h10 (fun cs e => by subst e; exact (compactI_specM ⟨_, rfl, by kernel_rfl, by kernel_rfl⟩ Tryz.slices_Compact_int Tryz.slices_Compact_int_empty))) ?_
      rintro VV12 _ _ _ ⟨rfl, hVV, rfl⟩
      have hVV := hVV.symm
      subst hVV
      refine ⟨_, rfl, ?_⟩
      have h12 : RowRep (cInt .i64) V8 (compactL (sortL x6)) ((compactL (sortL x6)).map (Value.int .i64)) := RowRep.ofInts _
      refine Exec.run tyOk 400 rfl ?_
      refine Exec.frz 1 rfl rfl rfl (fun V13 hv13 hd13 hn13 => ?_)
      have hz13 := RowRep.slat h12 hv13 hd13 hn13
      have h14 := SlAt.mono h9 hv13
      obtain rfl := some_inj hF
      exact Exec.ret tyOk rfl rfl ⟨_, _, rfl, hz13⟩
    · skip
      refine Exec.run tyOk 400 rfl ?_
      refine Exec.loop (fun n18 L' V' M' => ∃ (x16 : List Int) (a15 : Option Addr) (k15 : Nat) (cs15 : List Value) (x17 : Int), L' = [(3, .v (.slice a15 ((x16).length) (k15))), (10, .v (.slice a2 ((x1.Parts).length) (k2))), (11, .v (.int .i64 ((((x1.Parts).length : Nat) : Int)))), (12, .v (.int .i64 (x17)))] ∧ M' = [.blk [.v (.int .i64 (x1.Version)), .v (.slice a2 ((x1.Parts).length) (k2))] 24, .row (.slice a15 ((x16).length) (k15)) cs15 3 1] ∧ RowRep (cInt .i64) V' x16 cs15 ∧ SlAt cTPart V' a2 k2 x1.Parts ∧ F_placement_Nodes_L1 x1 J7 n18 x16 x17 = some r) ⟨(((((x1.Parts).length : Nat) : Int)).toNat + 1), [(3, .v (.slice none ((([] : List Int)).length) (0))), (10, .v (.slice a2 ((x1.Parts).length) (k2))), (11, .v (.int .i64 ((((x1.Parts).length : Nat) : Int)))), (12, .v (.int .i64 ((0 : Int))))], ⟨rfl, rfl, rfl, rfl, trivial⟩, ([] : List Int), none, 0, [], (0 : Int), rfl, rfl, h4, h2, hF⟩ ?_
      rintro n18 L' V19 M' ⟨x16, a15, k15, cs15, x17, rfl, rfl, h15, h20, hF⟩
      rcases n18 with _ | n18
      · exact absurd hF (by simp [F_placement_Nodes_L1])
      rw [F_placement_Nodes_L1] at hF
      refine Exec.run tyOk 400 rfl ?_
      rcases cond_some hF with ⟨hb, hF⟩ | ⟨hb, hF⟩
      · skip
        refine Exec.ifT rfl hb ?_
        refine Exec.run tyOk 400 rfl ?_
        obtain ⟨q21, hF⟩ := req_some hF
        obtain ⟨c22, hr22, hd22⟩ := SlAt.get h20 q21
        obtain rfl := hr22
        refine Exec.ia tyOk rfl rfl ⟨q21.1, q21.2, hd22.some⟩ ?_
        refine Exec.run tyOk 400 rfl ?_
        refine Exec.ld tyOk (x := .agg ⟨[.int .i64 ((atI x1.Parts x17).Id), .string ⟨⟨(atI x1.Parts x17).From⟩⟩, .int .i64 ((atI x1.Parts x17).Node), .int .i64 ((atI x1.Parts x17).Dest), .string ⟨⟨(atI x1.Parts x17).Done⟩⟩]⟩) rfl rfl hd22 rfl rfl ?_
        refine Exec.run tyOk 400 rfl ?_
        refine Exec.bsl tyOk rfl rfl ?_
        refine Exec.run tyOk 400 rfl ?_
        obtain ⟨q24, hF⟩ := req_some hF
        refine Exec.app tyOk 1 3 (nm := ((x16 ++ [(atI x1.Parts x17).Node])).length) rfl rfl rfl rfl rfl rfl rfl rfl rfl (by simp) (fun _ _ => rfl) rfl q24 (fun a23 k23 => ?_)
        have h23 : RowRep (cInt .i64) V19 (x16 ++ [(atI x1.Parts x17).Node]) (cs15 ++ [.int .i64 ((atI x1.Parts x17).Node)]) := RowRep.app h15 ⟨_, _, rfl, rfl, rfl⟩
        refine Exec.run tyOk 400 rfl ?_
        obtain ⟨J27, hJ27, hF⟩ := jn_some hF
        refine Exec.seam (fun L' V' M' => ∃ (x26 : List Int) (a25 : Option Addr) (k25 : Nat) (cs25 : List Value), L' = [(3, .v (.slice a25 ((x26).length) (k25))), (10, .v (.slice a2 ((x1.Parts).length) (k2))), (11, .v (.int .i64 ((((x1.Parts).length : Nat) : Int)))), (12, .v (.int .i64 (x17)))] ∧ M' = [.blk [.v (.int .i64 (x1.Version)), .v (.slice a2 ((x1.Parts).length) (k2))] 24, .row (.slice a25 ((x26).length) (k25)) cs25 3 1] ∧ RowRep (cInt .i64) V' x26 cs25 ∧ SlAt cTPart V' a2 k2 x1.Parts ∧ J27 x26 = some r) rfl ?_ ?_
        · rintro L' V28 M' ⟨x26, a25, k25, cs25, rfl, rfl, h25, h29, hF⟩
          subst hJ27
          refine Exec.run tyOk 400 rfl ?_
          exact Exec.round [(3, .v (.slice a25 ((x26).length) (k25))), (10, .v (.slice a2 ((x1.Parts).length) (k2))), (11, .v (.int .i64 ((((x1.Parts).length : Nat) : Int)))), (12, .v (.int .i64 ((IntKind.i64.wrap (x17 + (1 : Int))))))] ⟨rfl, rfl, rfl, rfl, trivial⟩ ⟨n18, Nat.lt_succ_self _, x26, a25, k25, cs25, (IntKind.i64.wrap (x17 + (1 : Int))), rfl, rfl, h25, h29, hF⟩
        · skip
          refine Exec.run tyOk 400 rfl ?_
          rcases cond_some hF with ⟨hb, hF⟩ | ⟨hb, hF⟩
          · skip
            refine Exec.ifT rfl hb ?_
            refine Exec.run tyOk 400 rfl ?_
            refine Exec.bsl tyOk rfl rfl ?_
            refine Exec.run tyOk 400 rfl ?_
            obtain ⟨q31, hF⟩ := req_some hF
            refine Exec.app tyOk 1 4 (nm := (((x16 ++ [(atI x1.Parts x17).Node]) ++ [(atI x1.Parts x17).Dest])).length) rfl rfl rfl rfl rfl rfl rfl rfl rfl (by simp) (fun _ _ => rfl) rfl q31 (fun a30 k30 => ?_)
            have h30 : RowRep (cInt .i64) V19 ((x16 ++ [(atI x1.Parts x17).Node]) ++ [(atI x1.Parts x17).Dest]) ((cs15 ++ [.int .i64 ((atI x1.Parts x17).Node)]) ++ [.int .i64 ((atI x1.Parts x17).Dest)]) := RowRep.app h23 ⟨_, _, rfl, rfl, rfl⟩
            refine Exec.run tyOk 400 rfl ?_
            refine Exec.cut 2 [(3, .v (.slice a30 ((((x16 ++ [(atI x1.Parts x17).Node]) ++ [(atI x1.Parts x17).Dest])).length) (k30))), (10, .v (.slice a2 ((x1.Parts).length) (k2))), (11, .v (.int .i64 ((((x1.Parts).length : Nat) : Int)))), (12, .v (.int .i64 (x17)))] (M' := [.blk [.v (.int .i64 (x1.Version)), .v (.slice a2 ((x1.Parts).length) (k2))] 24, .row (.slice a30 ((((x16 ++ [(atI x1.Parts x17).Node]) ++ [(atI x1.Parts x17).Dest])).length) (k30)) (((cs15 ++ [.int .i64 ((atI x1.Parts x17).Node)]) ++ [.int .i64 ((atI x1.Parts x17).Dest)])) 3 1]) rfl ⟨rfl, rfl, rfl, rfl, trivial⟩ rfl rfl rfl ?_
            exact Exec.round [(3, .v (.slice a30 ((((x16 ++ [(atI x1.Parts x17).Node]) ++ [(atI x1.Parts x17).Dest])).length) (k30))), (10, .v (.slice a2 ((x1.Parts).length) (k2))), (11, .v (.int .i64 ((((x1.Parts).length : Nat) : Int)))), (12, .v (.int .i64 (x17)))] ⟨rfl, rfl, rfl, rfl, trivial⟩ ⟨((x16 ++ [(atI x1.Parts x17).Node]) ++ [(atI x1.Parts x17).Dest]), a30, k30, ((cs15 ++ [.int .i64 ((atI x1.Parts x17).Node)]) ++ [.int .i64 ((atI x1.Parts x17).Dest)]), rfl, rfl, h30, h20, hF⟩
          · skip
            refine Exec.ifF rfl hb ?_
            refine Exec.run tyOk 400 rfl ?_
            refine Exec.cut 2 [(3, .v (.slice a23 (((x16 ++ [(atI x1.Parts x17).Node])).length) (k23))), (10, .v (.slice a2 ((x1.Parts).length) (k2))), (11, .v (.int .i64 ((((x1.Parts).length : Nat) : Int)))), (12, .v (.int .i64 (x17)))] (M' := [.blk [.v (.int .i64 (x1.Version)), .v (.slice a2 ((x1.Parts).length) (k2))] 24, .row (.slice a23 (((x16 ++ [(atI x1.Parts x17).Node])).length) (k23)) ((cs15 ++ [.int .i64 ((atI x1.Parts x17).Node)])) 3 1]) rfl ⟨rfl, rfl, rfl, rfl, trivial⟩ rfl rfl rfl ?_
            exact Exec.round [(3, .v (.slice a23 (((x16 ++ [(atI x1.Parts x17).Node])).length) (k23))), (10, .v (.slice a2 ((x1.Parts).length) (k2))), (11, .v (.int .i64 ((((x1.Parts).length : Nat) : Int)))), (12, .v (.int .i64 (x17)))] ⟨rfl, rfl, rfl, rfl, trivial⟩ ⟨(x16 ++ [(atI x1.Parts x17).Node]), a23, k23, (cs15 ++ [.int .i64 ((atI x1.Parts x17).Node)]), rfl, rfl, h23, h20, hF⟩
      · skip
        refine Exec.ifF rfl hb ?_
        refine Exec.run tyOk 400 rfl ?_
        exact Exec.round [(3, .v (.slice a15 ((x16).length) (k15)))] ⟨rfl, trivial⟩ ⟨x16, a15, k15, cs15, rfl, rfl, h15, h20, hF⟩

def F_exchange_same (x1 : TMail) (x4 : TMail) : Option Bool :=
  (bnd (gcall (((((x1.Txn == x4.Txn) && (x1.From == x4.From)) && (x1.To == x4.To))) == true) (F_keys_Same x1.Keys x4.Keys)) fun x7 => (bnd (gcall ((((((x1.Txn == x4.Txn) && (x1.From == x4.From)) && (x1.To == x4.To)) && x7)) == true) (F_state_Same x1.Pairs x4.Pairs)) fun x8 => (some (((((x1.Txn == x4.Txn) && (x1.From == x4.From)) && (x1.To == x4.To)) && x7) && x8))))

set_option maxRecDepth 100000 in
theorem W_exchange_same {V : View} (x1 : TMail) (x4 : TMail) {a2 : Option Addr} {k2 : Nat} {a3 : Option Addr} {k3 : Nat} {a5 : Option Addr} {k5 : Nat} {a6 : Option Addr} {k6 : Nat} (h2 : SlAt cStr V a2 k2 x1.Keys) (h3 : SlAt cTPair V a3 k3 x1.Pairs) (h5 : SlAt cStr V a5 k5 x4.Keys) (h6 : SlAt cTPair V a6 k6 x4.Pairs) {r : Bool} (hF : F_exchange_same x1 x4 = some r) :
    Spec Tryz.prog 59 [.agg ⟨[.int .i64 (x1.Txn), .int .i64 (x1.From), .int .i64 (x1.To), .slice a2 ((x1.Keys).length) (k2), .slice a3 ((x1.Pairs).length) (k3)]⟩, .agg ⟨[.int .i64 (x4.Txn), .int .i64 (x4.From), .int .i64 (x4.To), .slice a5 ((x4.Keys).length) (k5), .slice a6 ((x4.Pairs).length) (k6)]⟩] V (fun _ v => v = .bool (r)) := by
  unfold F_exchange_same at hF
  refine Spec.enter (T := tyT) Tryz.func59 rfl (by kernel_rfl) rfl rfl rfl ?_
  refine Exec.run tyOk 400 rfl ?_
  obtain ⟨x7, hx7, hF⟩ := bnd_some hF
  refine Exec.callS (.bool (x7)) rfl rfl (fun gg0 => W_keys_Same x1.Keys x4.Keys h2 h5 (gcall_some hx7 (gd1_of gg0))) ?_
  refine Exec.run tyOk 400 rfl ?_
  obtain ⟨x8, hx8, hF⟩ := bnd_some hF
  refine Exec.callS (.bool (x8)) rfl rfl (fun gg0 => W_state_Same x1.Pairs x4.Pairs h3 h6 (gcall_some hx8 (gd1_of gg0))) ?_
  refine Exec.run tyOk 400 rfl ?_
  obtain rfl := some_inj hF
  exact Exec.ret tyOk rfl rfl rfl

def F_clockworkref29_Index_L1 (x1 : TPlacement) (x3 : Str) (J6 : Int → Option Int) : Nat → Int → Int → Option Int
  | 0, _, _ => none
  | n10 + 1, x8, x9 => (cond (decide (x9 < (((x1.Parts).length : Nat) : Int))) (req (0 ≤ x9 ∧ x9 < ((x1.Parts).length : Int)) (jn (fun (x15 : Int) => (F_clockworkref29_Index_L1 x1 x3 J6 n10 x15 ((IntKind.i64.wrap (x9 + (1 : Int)))))) (fun J16 => (cond (!sLt x3 (atI x1.Parts x9).From) (J16 x9) (J16 x8))))) (J6 x8))

def F_clockworkref29_Index (x1 : TPlacement) (x3 : Str) : Option Int :=
  (bnd (F_clockworkref29_Valid x1) fun x4 => (cond (!x4) (some (-1 : Int)) (jn (fun (x5 : Int) => (some x5)) (fun J6 => (F_clockworkref29_Index_L1 x1 x3 J6 (((((x1.Parts).length : Nat) : Int)).toNat + 1) ((0 : Int)) ((1 : Int)))))))

set_option maxRecDepth 100000 in
theorem W_clockworkref29_Index {V : View} (x1 : TPlacement) (x3 : Str) {a2 : Option Addr} {k2 : Nat} (h2 : SlAt cTPart V a2 k2 x1.Parts) {r : Int} (hF : F_clockworkref29_Index x1 x3 = some r) :
    Spec Tryz.prog 64 [.agg ⟨[.int .i64 (x1.Version), .slice a2 ((x1.Parts).length) (k2)]⟩, .string ⟨⟨x3⟩⟩] V (fun _ v => v = .int .i64 (r)) := by
  unfold F_clockworkref29_Index at hF
  refine Spec.enter (T := tyT) Tryz.func64 rfl (by kernel_rfl) rfl rfl rfl ?_
  refine Exec.run tyOk 400 rfl ?_
  obtain ⟨x4, hx4, hF⟩ := bnd_some hF
  refine Exec.callS (.bool (x4)) rfl rfl (W_clockworkref29_Valid x1 h2 hx4) ?_
  refine Exec.run tyOk 400 rfl ?_
  rcases cond_some hF with ⟨hb, hF⟩ | ⟨hb, hF⟩
  · skip
    refine Exec.ifT rfl hb ?_
    refine Exec.run tyOk 400 rfl ?_
    obtain rfl := some_inj hF
    exact Exec.ret tyOk rfl rfl rfl
  · skip
    refine Exec.ifF rfl hb ?_
    refine Exec.run tyOk 10 rfl ?_
    obtain ⟨J6, hJ6, hF⟩ := jn_some hF
    refine Exec.seam (fun L' V' M' => ∃ (x5 : Int), L' = [(5, .v (.int .i64 (x5)))] ∧ M' = [] ∧ J6 x5 = some r) rfl ?_ ?_
    · rintro L' V7 M' ⟨x5, rfl, rfl, hF⟩
      subst hJ6
      refine Exec.run tyOk 400 rfl ?_
      obtain rfl := some_inj hF
      exact Exec.ret tyOk rfl rfl rfl
    · skip
      refine Exec.run tyOk 400 rfl ?_
      refine Exec.loop (fun n10 L' V' M' => ∃ (x8 : Int) (x9 : Int), L' = [(1, .v (.string ⟨⟨x3⟩⟩)), (2, .ptr 0 0), (5, .v (.int .i64 (x8))), (6, .v (.int .i64 (x9)))] ∧ M' = [.blk [.v (.int .i64 (x1.Version)), .v (.slice a2 ((x1.Parts).length) (k2))] 24] ∧ SlAt cTPart V' a2 k2 x1.Parts ∧ F_clockworkref29_Index_L1 x1 x3 J6 n10 x8 x9 = some r) ⟨(((((x1.Parts).length : Nat) : Int)).toNat + 1), [(1, .v (.string ⟨⟨x3⟩⟩)), (2, .ptr 0 0), (5, .v (.int .i64 ((0 : Int)))), (6, .v (.int .i64 ((1 : Int))))], ⟨rfl, rfl, rfl, rfl, trivial⟩, (0 : Int), (1 : Int), rfl, rfl, h2, hF⟩ ?_
      rintro n10 L' V11 M' ⟨x8, x9, rfl, rfl, h12, hF⟩
      rcases n10 with _ | n10
      · exact absurd hF (by simp [F_clockworkref29_Index_L1])
      rw [F_clockworkref29_Index_L1] at hF
      refine Exec.run tyOk 400 rfl ?_
      rcases cond_some hF with ⟨hb, hF⟩ | ⟨hb, hF⟩
      · skip
        refine Exec.ifT rfl hb ?_
        refine Exec.run tyOk 400 rfl ?_
        obtain ⟨q13, hF⟩ := req_some hF
        obtain ⟨c14, hr14, hd14⟩ := SlAt.get h12 q13
        obtain rfl := hr14
        refine Exec.ia tyOk rfl rfl ⟨q13.1, q13.2, hd14.some⟩ ?_
        refine Exec.run tyOk 400 rfl ?_
        refine Exec.ld tyOk (x := .string ⟨⟨(atI x1.Parts x9).From⟩⟩) rfl rfl (RdAt.part hd14 1 1 rfl) rfl rfl ?_
        refine Exec.run tyOk 400 rfl ?_
        obtain ⟨J16, hJ16, hF⟩ := jn_some hF
        refine Exec.seam (fun L' V' M' => ∃ (x15 : Int), L' = [(1, .v (.string ⟨⟨x3⟩⟩)), (2, .ptr 0 0), (5, .v (.int .i64 (x15))), (6, .v (.int .i64 (x9)))] ∧ M' = [.blk [.v (.int .i64 (x1.Version)), .v (.slice a2 ((x1.Parts).length) (k2))] 24] ∧ SlAt cTPart V' a2 k2 x1.Parts ∧ J16 x15 = some r) rfl ?_ ?_
        · rintro L' V17 M' ⟨x15, rfl, rfl, h18, hF⟩
          subst hJ16
          refine Exec.run tyOk 400 rfl ?_
          exact Exec.round [(1, .v (.string ⟨⟨x3⟩⟩)), (2, .ptr 0 0), (5, .v (.int .i64 (x15))), (6, .v (.int .i64 ((IntKind.i64.wrap (x9 + (1 : Int))))))] ⟨rfl, rfl, rfl, rfl, trivial⟩ ⟨n10, Nat.lt_succ_self _, x15, (IntKind.i64.wrap (x9 + (1 : Int))), rfl, rfl, h18, hF⟩
        · skip
          refine Exec.run tyOk 400 rfl ?_
          rcases cond_some hF with ⟨hb, hF⟩ | ⟨hb, hF⟩
          · skip
            refine Exec.ifT rfl hb ?_
            refine Exec.run tyOk 400 rfl ?_
            exact Exec.round [(1, .v (.string ⟨⟨x3⟩⟩)), (2, .ptr 0 0), (5, .v (.int .i64 (x9))), (6, .v (.int .i64 (x9)))] ⟨rfl, rfl, rfl, rfl, trivial⟩ ⟨x9, rfl, rfl, h12, hF⟩
          · skip
            refine Exec.ifF rfl hb ?_
            refine Exec.run tyOk 400 rfl ?_
            exact Exec.round [(1, .v (.string ⟨⟨x3⟩⟩)), (2, .ptr 0 0), (5, .v (.int .i64 (x8))), (6, .v (.int .i64 (x9)))] ⟨rfl, rfl, rfl, rfl, trivial⟩ ⟨x8, rfl, rfl, h12, hF⟩
      · skip
        refine Exec.ifF rfl hb ?_
        refine Exec.run tyOk 400 rfl ?_
        refine Exec.cut 0 [(5, .v (.int .i64 (x8)))] (M' := []) rfl ⟨rfl, trivial⟩ rfl rfl rfl ?_
        exact Exec.round [(5, .v (.int .i64 (x8)))] ⟨rfl, trivial⟩ ⟨x8, rfl, rfl, hF⟩

end Go.Proofs.YtcgmfmpfmfjmoaaGreat
