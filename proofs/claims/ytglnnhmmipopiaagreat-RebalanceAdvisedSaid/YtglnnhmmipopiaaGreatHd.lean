/-
 Functions of the program as their counterparts say them (printed by a program).
 Conditions: none.
-/
import Derived.Test.YtglnnhmmipopiaaGreatHc
set_option linter.all false
namespace Go.Proofs.YtglnnhmmipopiaaGreat
set_option maxRecDepth 100000
def F_clockworkref04_ValidRange (x1 : TRange) : Option Bool :=
 (bnd (F_clockworkref04_Bound x1.From) fun x2 => (bnd (gcall ((x2) == true) (F_clockworkref04_Bound x1.To)) fun x3 => (some ((x2 && x3) && ((x1.To == ([] : Str)) || (sLt x1.From x1.To))))))
def F_keys_isBound (x1 : Str) : Option Bool :=
 (bnd (F_keys_consists x1 (fun y0 => F_keys_isBound_1 y0 )) fun x2 => (some x2))
theorem W_keys_isBound {V : View} (x1 : Str)   {r : Bool} (hF : F_keys_isBound x1 = some r) :
  Spec Tryz.prog 154 [.string ⟨⟨x1⟩⟩] V (fun _ v => v = .bool (r)) := by
 unfold F_keys_isBound at hF
 refine Spec.enter (T := tyT) Tryz.func154 rfl (by kernel_rfl) rfl rfl rfl ?_
 refine xr rfl ?_
 obtain ⟨x2, hx2, hF⟩ := bnd_some hF
 refine Exec.callS (.bool (x2)) rfl rfl (W_keys_consists x1 (fun y0 => F_keys_isBound_1 y0 ) (fun V' hv y0 r hr => W_keys_isBound_1 y0   hr) hx2) ?_
 refine xr rfl ?_
 obtain rfl := some_inj hF
 exact Exec.ret tyOk rfl rfl rfl
def F_placement_Valid_L1 (x1 : TPlacement) (J5 : Option Bool) : Nat → Int → Option Bool
 | 0, _ => none
 | n8 + 1, x7 => (cond (decide (x7 < (((x1.Parts).length : Nat) : Int))) (req (0 ≤ x7 ∧ x7 < ((x1.Parts).length : Int)) (bnd (gcall (((decide ((0 : Int) < x7))) == true) (F_placement_bound ((atI x1.Parts x7).From))) fun x13 => (req (((((!x13)) == false) && (((decide ((0 : Int) < x7))) == true)) = true → 0 ≤ (IntKind.i64.wrap (x7 - (1 : Int))) ∧ (IntKind.i64.wrap (x7 - (1 : Int))) < ((x1.Parts).length : Int)) (cond ((decide ((0 : Int) < x7)) && ((!x13) || (!sLt (cond ((((!x13)) == false) && (((decide ((0 : Int) < x7))) == true)) (atI x1.Parts ((IntKind.i64.wrap (x7 - (1 : Int))))) default).From (atI x1.Parts x7).From))) (some false) (bnd (F_placement_number ((atI x1.Parts x7).Id)) fun x16 => (bnd (gcall (((!x16)) == false) (F_placement_node ((atI x1.Parts x7).Node))) fun x17 => (bnd (gcall ((((!x16) || (!x17))) == false) (F_placement_validMove x1.Parts x7)) fun x18 => (req ((((((!x16) || (!x17)) || (!x18))) == false) = true → 0 ≤ (0 : Int) ∧ (0 : Int) ≤ x7 ∧ x7 ≤ ((x1.Parts).length : Int)) (bnd (gcall (((((!x16) || (!x17)) || (!x18))) == false) (F_placement_find ((cond ((((((!x16) || (!x17)) || (!x18))) == false)) ((x1.Parts.take (x7).toNat).drop ((0 : Int)).toNat) ([] : List TPart))) ((atI x1.Parts x7).Id))) fun x21 => (cond ((((!x16) || (!x17)) || (!x18)) || (decide ((0 : Int) ≤ x21))) (some false) (F_placement_Valid_L1 x1 J5 n8 ((IntKind.i64.wrap (x7 + (1 : Int))))))))))))))) J5)
def F_placement_Valid (x1 : TPlacement) : Option Bool :=
 (req (((((((decide (x1.Version < (0 : Int))) || (decide ((1099511627776 : Int) < x1.Version))) || (decide ((((x1.Parts).length : Nat) : Int) < (1 : Int)))) || (decide ((16 : Int) < (((x1.Parts).length : Nat) : Int))))) == false) = true → 0 ≤ (0 : Int) ∧ (0 : Int) < ((x1.Parts).length : Int)) (cond (((((decide (x1.Version < (0 : Int))) || (decide ((1099511627776 : Int) < x1.Version))) || (decide ((((x1.Parts).length : Nat) : Int) < (1 : Int)))) || (decide ((16 : Int) < (((x1.Parts).length : Nat) : Int)))) || ((cond ((((((decide (x1.Version < (0 : Int))) || (decide ((1099511627776 : Int) < x1.Version))) || (decide ((((x1.Parts).length : Nat) : Int) < (1 : Int)))) || (decide ((16 : Int) < (((x1.Parts).length : Nat) : Int))))) == false) (atI x1.Parts ((0 : Int))) default).From != ([] : Str))) (some false) (jn ((some true)) (fun J5 => (F_placement_Valid_L1 x1 J5 (((((x1.Parts).length : Nat) : Int)).toNat + 1) ((0 : Int)))))))
theorem W_placement_Valid {V : View} (x1 : TPlacement) {a2 : Option Addr} {k2 : Nat} (h2 : SlAt cTPart V a2 k2 x1.Parts) {r : Bool} (hF : F_placement_Valid x1 = some r) :
  Spec Tryz.prog 33 [.agg ⟨[.int .i64 (x1.Version), .slice a2 ((x1.Parts).length) (k2)]⟩] V (fun _ v => v = .bool (r)) := by
 unfold F_placement_Valid at hF
 refine Spec.enter (T := tyT) Tryz.func33 rfl (by kernel_rfl) rfl rfl rfl ?_
 refine xr rfl ?_
 obtain ⟨q3, hF⟩ := req_some hF
 obtain ⟨c4, hr4, hd4⟩ := SlAt.gget ((((((decide (x1.Version < (0 : Int))) || (decide ((1099511627776 : Int) < x1.Version))) || (decide ((((x1.Parts).length : Nat) : Int) < (1 : Int)))) || (decide ((16 : Int) < (((x1.Parts).length : Nat) : Int))))) == false) h2 q3
 obtain rfl := hr4
 refine Exec.ia tyOk rfl rfl (fun gg0 => ⟨(q3 (gd1_of gg0)).1, (q3 (gd1_of gg0)).2, (hd4 (gd1_of gg0)).some⟩) ?_
 refine xr rfl ?_
 refine Exec.ld tyOk (x := .string ⟨⟨(cond ((((((decide (x1.Version < (0 : Int))) || (decide ((1099511627776 : Int) < x1.Version))) || (decide ((((x1.Parts).length : Nat) : Int) < (1 : Int)))) || (decide ((16 : Int) < (((x1.Parts).length : Nat) : Int))))) == false) (atI x1.Parts ((0 : Int))) default).From⟩⟩) rfl rfl (fun gg0 => (RdAt.part (hd4 (gd1_of gg0)) 1 1 rfl)) rfl rfl ?_
 refine xr rfl ?_
 rcases cond_some hF with ⟨hb, hF⟩ | ⟨hb, hF⟩
 ·refine Exec.ifT rfl hb ?_
  refine xr rfl ?_
  obtain rfl := some_inj hF
  exact Exec.ret tyOk rfl rfl rfl
 ·refine Exec.ifF rfl hb ?_
  refine Exec.run tyOk 9 rfl ?_
  obtain ⟨J5, hJ5, hF⟩ := jn_some hF
  refine Exec.seam (fun L' V' M' => L' = [] ∧ M' = [] ∧ J5 = some r) rfl ?_ ?_
  ·rintro L' V6 M' ⟨rfl, rfl, hF⟩
   subst hJ5
   refine xr rfl ?_
   obtain rfl := some_inj hF
   exact Exec.ret tyOk rfl rfl rfl
  ·refine xr rfl ?_
   refine Exec.loop (fun n8 L' V' M' => ∃ (x7 : Int), L' = [(1, .ptr 0 0), (34, .v (.slice a2 ((x1.Parts).length) (k2))), (35, .v (.int .i64 ((((x1.Parts).length : Nat) : Int)))), (36, .v (.int .i64 (x7)))] ∧ M' = [.blk [.v (.int .i64 (x1.Version)), .v (.slice a2 ((x1.Parts).length) (k2))] 24] ∧ SlAt cTPart V' a2 k2 x1.Parts ∧ F_placement_Valid_L1 x1 J5 n8 x7 = some r) ⟨(((((x1.Parts).length : Nat) : Int)).toNat + 1), [(1, .ptr 0 0), (34, .v (.slice a2 ((x1.Parts).length) (k2))), (35, .v (.int .i64 ((((x1.Parts).length : Nat) : Int)))), (36, .v (.int .i64 ((0 : Int))))], ⟨rfl, rfl, rfl, rfl, trivial⟩, (0 : Int), rfl, rfl, h2, hF⟩ ?_
   rintro n8 L' V9 M' ⟨x7, rfl, rfl, h10, hF⟩
   rcases n8 with _ | n8
   ·exact absurd hF (by simp [F_placement_Valid_L1])
   rw [F_placement_Valid_L1] at hF
   refine xr rfl ?_
   rcases cond_some hF with ⟨hb, hF⟩ | ⟨hb, hF⟩
   ·refine Exec.ifT rfl hb ?_
    refine xr rfl ?_
    obtain ⟨q11, hF⟩ := req_some hF
    obtain ⟨c12, hr12, hd12⟩ := SlAt.get h10 q11
    obtain rfl := hr12
    refine Exec.ia tyOk rfl rfl ⟨q11.1, q11.2, hd12.some⟩ ?_
    refine xr rfl ?_
    refine Exec.ld tyOk (x := .agg ⟨[.int .i64 ((atI x1.Parts x7).Id), .string ⟨⟨(atI x1.Parts x7).From⟩⟩, .int .i64 ((atI x1.Parts x7).Node), .int .i64 ((atI x1.Parts x7).Dest), .string ⟨⟨(atI x1.Parts x7).Done⟩⟩]⟩) rfl rfl hd12 rfl rfl ?_
    refine xr rfl ?_
    refine Exec.draws tyOk [(0, true), (1, true), (2, true), (3, true), (4, true), (5, false), (6, false), (7, false), (8, true), (9, true), (10, true), (11, true), (12, false), (13, false), (14, false), (15, false), (16, false), (17, false), (18, false), (19, false)] rfl (by kernel_rfl) ?_
    refine xr rfl ?_
    obtain ⟨x13, hx13, hF⟩ := bnd_some hF
    refine Exec.callS (.bool (x13)) rfl rfl (fun gg0 => W_placement_bound ((atI x1.Parts x7).From)  (gcall_some hx13 (gd1_of gg0))) ?_
    refine xr rfl ?_
    obtain ⟨q14, hF⟩ := req_some hF
    obtain ⟨c15, hr15, hd15⟩ := SlAt.gget ((((!x13)) == false) && (((decide ((0 : Int) < x7))) == true)) h10 q14
    obtain rfl := hr15
    refine Exec.ia tyOk rfl rfl (fun gg0 gg1 => ⟨(q14 (gd2_of gg0 gg1)).1, (q14 (gd2_of gg0 gg1)).2, (hd15 (gd2_of gg0 gg1)).some⟩) ?_
    refine xr rfl ?_
    refine Exec.ld tyOk (x := .string ⟨⟨(cond ((((!x13)) == false) && (((decide ((0 : Int) < x7))) == true)) (atI x1.Parts ((IntKind.i64.wrap (x7 - (1 : Int))))) default).From⟩⟩) rfl rfl (fun gg0 gg1 => (RdAt.part (hd15 (gd2_of gg0 gg1)) 1 1 rfl)) rfl rfl ?_
    refine xr rfl ?_
    rcases cond_some hF with ⟨hb, hF⟩ | ⟨hb, hF⟩
    ·refine Exec.ifT rfl hb ?_
     refine xr rfl ?_
     obtain rfl := some_inj hF
     exact Exec.ret tyOk rfl rfl rfl
    ·refine Exec.ifF rfl hb ?_
     refine xr rfl ?_
     refine Exec.draws tyOk [(0, true), (1, true), (2, false), (3, false), (4, false), (5, false), (6, false), (7, false), (8, false), (9, false), (10, false), (11, true), (12, true), (13, false), (14, false), (15, false), (16, false), (17, false), (18, true), (19, true), (20, true), (21, true), (22, false), (23, false), (24, false), (25, false), (26, false)] rfl (by kernel_rfl) ?_
     refine xr rfl ?_
     obtain ⟨x16, hx16, hF⟩ := bnd_some hF
     refine Exec.callS (.bool (x16)) rfl rfl (W_placement_number ((atI x1.Parts x7).Id)  hx16) ?_
     refine xr rfl ?_
     obtain ⟨x17, hx17, hF⟩ := bnd_some hF
     refine Exec.callS (.bool (x17)) rfl rfl (fun gg0 => W_placement_node ((atI x1.Parts x7).Node)  (gcall_some hx17 (gd1_of gg0))) ?_
     refine xr rfl ?_
     obtain ⟨x18, hx18, hF⟩ := bnd_some hF
     refine Exec.callS (.bool (x18)) rfl rfl (fun gg0 => W_placement_validMove x1.Parts x7 h10 (gcall_some hx18 (gd1_of gg0))) ?_
     refine xr rfl ?_
     obtain ⟨q19, hF⟩ := req_some hF
     refine Exec.fgslv tyOk (c := cTPart) (g := (((((!x16) || (!x17)) || (!x18))) == false)) rfl rfl rfl (lo := (0 : Int)) (hi := x7) rfl rfl h10 (by simp) rfl (fun gg0 => gd1_of gg0) q19 (fun a20 k20 h20 => ?_)
     refine xr rfl ?_
     obtain ⟨x21, hx21, hF⟩ := bnd_some hF
     refine Exec.callS (.int .i64 (x21)) rfl rfl (fun gg0 => W_placement_find ((cond ((((((!x16) || (!x17)) || (!x18))) == false)) ((x1.Parts.take (x7).toNat).drop ((0 : Int)).toNat) ([] : List TPart))) ((atI x1.Parts x7).Id) h20 (gcall_some hx21 (gd1_of gg0))) ?_
     refine xr rfl ?_
     rcases cond_some hF with ⟨hb, hF⟩ | ⟨hb, hF⟩
     ·refine Exec.ifT rfl hb ?_
      refine xr rfl ?_
      obtain rfl := some_inj hF
      exact Exec.ret tyOk rfl rfl rfl
     ·refine Exec.ifF rfl hb ?_
      refine xr rfl ?_
      refine Exec.cut 1 [(1, .ptr 0 0), (34, .v (.slice a2 ((x1.Parts).length) (k2))), (35, .v (.int .i64 ((((x1.Parts).length : Nat) : Int)))), (36, .v (.int .i64 ((IntKind.i64.wrap (x7 + (1 : Int))))))] (M' := [.blk [.v (.int .i64 (x1.Version)), .v (.slice a2 ((x1.Parts).length) (k2))] 24]) rfl ⟨rfl, rfl, rfl, rfl, trivial⟩ rfl rfl rfl ?_
      exact Exec.round [(1, .ptr 0 0), (34, .v (.slice a2 ((x1.Parts).length) (k2))), (35, .v (.int .i64 ((((x1.Parts).length : Nat) : Int)))), (36, .v (.int .i64 ((IntKind.i64.wrap (x7 + (1 : Int))))))] ⟨rfl, rfl, rfl, rfl, trivial⟩ ⟨n8, Nat.lt_succ_self _, (IntKind.i64.wrap (x7 + (1 : Int))), rfl, rfl, h10, hF⟩
   ·refine Exec.ifF rfl hb ?_
    refine xr rfl ?_
    refine Exec.cut 0 [] (M' := []) rfl trivial rfl rfl rfl ?_
    exact Exec.round [] trivial ⟨rfl, rfl, hF⟩
def F_placement_Index_L2 (x3 : Str) (x1 : TPlacement) (x9 : Int) (J6 : Int → Option Int) (J14 : Int → Option Int) : Nat → Int → Int → Option Int
 | 0, _, _ => none
 | n21 + 1, x19, x20 => (req (((((decide (x20 < ((x3).length : Int)))) == true) && (((x20 == (((atI x1.Parts x9).From).length : Int))) == false)) = true → 0 ≤ x20 ∧ x20 < (((atI x1.Parts x9).From).length : Int)) (req (((((decide (x20 < ((x3).length : Int)))) == true) && (((x20 == (((atI x1.Parts x9).From).length : Int))) == false)) = true → 0 ≤ x20 ∧ x20 < ((x3).length : Int)) (cond ((x20 == (((atI x1.Parts x9).From).length : Int)) || ((decide (x20 < ((x3).length : Int))) && (decide ((byteAt ((atI x1.Parts x9).From) (x20).toNat) < (byteAt x3 (x20).toNat))))) (J6 x9) (req ((((x20 == ((x3).length : Int))) == false) = true → 0 ≤ x20 ∧ x20 < (((atI x1.Parts x9).From).length : Int)) (req ((((x20 == ((x3).length : Int))) == false) = true → 0 ≤ x20 ∧ x20 < ((x3).length : Int)) (cond ((x20 == ((x3).length : Int)) || (decide ((byteAt x3 (x20).toNat) < (byteAt ((atI x1.Parts x9).From) (x20).toNat)))) (J14 x19) (F_placement_Index_L2 x3 x1 x9 J6 J14 n21 x19 ((IntKind.i64.wrap (x20 + (1 : Int)))))))))))
def F_placement_Index_L1 (x1 : TPlacement) (x3 : Str) (J6 : Int → Option Int) : Nat → Int → Int → Option Int
 | 0, _, _ => none
 | n10 + 1, x8, x9 => (cond (decide ((0 : Int) < x9)) (jn (fun (x13 : Int) => (F_placement_Index_L1 x1 x3 J6 n10 x13 ((IntKind.i64.wrap (x9 - (1 : Int)))))) (fun J14 => (req (0 ≤ x9 ∧ x9 < ((x1.Parts).length : Int)) (F_placement_Index_L2 x3 x1 x9 J6 J14 (1000000 : Nat) x8 ((0 : Int)))))) (J6 x8))
def F_placement_Index (x1 : TPlacement) (x3 : Str) : Option Int :=
 (bnd (F_placement_Valid x1) fun x4 => (cond (!x4) (some (-1 : Int)) (jn (fun (x5 : Int) => (some x5)) (fun J6 => (F_placement_Index_L1 x1 x3 J6 (((IntKind.i64.wrap ((((x1.Parts).length : Nat) : Int) - (1 : Int)))).toNat + 1) ((0 : Int)) ((IntKind.i64.wrap ((((x1.Parts).length : Nat) : Int) - (1 : Int)))))))))
theorem W_placement_Index {V : View} (x1 : TPlacement) (x3 : Str) {a2 : Option Addr} {k2 : Nat} (h2 : SlAt cTPart V a2 k2 x1.Parts) {r : Int} (hF : F_placement_Index x1 x3 = some r) :
  Spec Tryz.prog 35 [.agg ⟨[.int .i64 (x1.Version), .slice a2 ((x1.Parts).length) (k2)]⟩, .string ⟨⟨x3⟩⟩] V (fun _ v => v = .int .i64 (r)) := by
 unfold F_placement_Index at hF
 refine Spec.enter (T := tyT) Tryz.func35 rfl (by kernel_rfl) rfl rfl rfl ?_
 refine xr rfl ?_
 refine Exec.scope ?_
 refine xr rfl ?_
 obtain ⟨x4, hx4, hF⟩ := bnd_some hF
 refine Exec.callS (.bool (x4)) rfl rfl (W_placement_Valid x1 h2 hx4) ?_
 refine xr rfl ?_
 rcases cond_some hF with ⟨hb, hF⟩ | ⟨hb, hF⟩
 ·refine Exec.ifT rfl hb ?_
  refine xr rfl ?_
  obtain rfl := some_inj hF
  exact Exec.ret tyOk rfl rfl rfl
 ·refine Exec.ifF rfl hb ?_
  refine Exec.run tyOk 16 rfl ?_
  obtain ⟨J6, hJ6, hF⟩ := jn_some hF
  refine Exec.seam (fun L' V' M' => ∃ (x5 : Int), L' = [(5, .v (.int .i64 (x5)))] ∧ M' = [] ∧ J6 x5 = some r) rfl ?_ ?_
  ·rintro L' V7 M' ⟨x5, rfl, rfl, hF⟩
   subst hJ6
   refine xr rfl ?_
   obtain rfl := some_inj hF
   exact Exec.ret tyOk rfl rfl rfl
  ·refine xr rfl ?_
   refine Exec.loop (fun n10 L' V' M' => ∃ (x8 : Int) (x9 : Int), L' = [(1, .v (.string ⟨⟨x3⟩⟩)), (2, .ptr 0 0), (5, .v (.int .i64 (x8))), (6, .v (.int .i64 (x9)))] ∧ M' = [.blk [.v (.int .i64 (x1.Version)), .v (.slice a2 ((x1.Parts).length) (k2))] 24] ∧ SlAt cTPart V' a2 k2 x1.Parts ∧ F_placement_Index_L1 x1 x3 J6 n10 x8 x9 = some r) ⟨(((IntKind.i64.wrap ((((x1.Parts).length : Nat) : Int) - (1 : Int)))).toNat + 1), [(1, .v (.string ⟨⟨x3⟩⟩)), (2, .ptr 0 0), (5, .v (.int .i64 ((0 : Int)))), (6, .v (.int .i64 ((IntKind.i64.wrap ((((x1.Parts).length : Nat) : Int) - (1 : Int))))))], ⟨rfl, rfl, rfl, rfl, trivial⟩, (0 : Int), (IntKind.i64.wrap ((((x1.Parts).length : Nat) : Int) - (1 : Int))), rfl, rfl, h2, hF⟩ ?_
   rintro n10 L' V11 M' ⟨x8, x9, rfl, rfl, h12, hF⟩
   rcases n10 with _ | n10
   ·exact absurd hF (by simp [F_placement_Index_L1])
   rw [F_placement_Index_L1] at hF
   refine xr rfl ?_
   rcases cond_some hF with ⟨hb, hF⟩ | ⟨hb, hF⟩
   ·refine Exec.ifT rfl hb ?_
    refine Exec.run tyOk 2 rfl ?_
    obtain ⟨J14, hJ14, hF⟩ := jn_some hF
    refine Exec.seam (fun L' V' M' => ∃ (x13 : Int), L' = [(1, .v (.string ⟨⟨x3⟩⟩)), (2, .ptr 0 0), (5, .v (.int .i64 (x13))), (6, .v (.int .i64 (x9)))] ∧ M' = [.blk [.v (.int .i64 (x1.Version)), .v (.slice a2 ((x1.Parts).length) (k2))] 24] ∧ SlAt cTPart V' a2 k2 x1.Parts ∧ J14 x13 = some r) rfl ?_ ?_
    ·rintro L' V15 M' ⟨x13, rfl, rfl, h16, hF⟩
     subst hJ14
     refine xr rfl ?_
     exact Exec.round [(1, .v (.string ⟨⟨x3⟩⟩)), (2, .ptr 0 0), (5, .v (.int .i64 (x13))), (6, .v (.int .i64 ((IntKind.i64.wrap (x9 - (1 : Int))))))] ⟨rfl, rfl, rfl, rfl, trivial⟩ ⟨n10, Nat.lt_succ_self _, x13, (IntKind.i64.wrap (x9 - (1 : Int))), rfl, rfl, h16, hF⟩
    ·refine xr rfl ?_
     obtain ⟨q17, hF⟩ := req_some hF
     obtain ⟨c18, hr18, hd18⟩ := SlAt.get h12 q17
     obtain rfl := hr18
     refine Exec.ia tyOk rfl rfl ⟨q17.1, q17.2, hd18.some⟩ ?_
     refine xr rfl ?_
     refine Exec.ld tyOk (x := .string ⟨⟨(atI x1.Parts x9).From⟩⟩) rfl rfl (RdAt.part hd18 1 1 rfl) rfl rfl ?_
     refine xr rfl ?_
     refine Exec.loop (fun n21 L' V' M' => ∃ (x19 : Int) (x20 : Int), L' = [(1, .v (.string ⟨⟨x3⟩⟩)), (2, .ptr 0 0), (5, .v (.int .i64 (x19))), (6, .v (.int .i64 (x9))), (7, .v (.string ⟨⟨(atI x1.Parts x9).From⟩⟩)), (8, .v (.int .i64 (x20)))] ∧ M' = [.blk [.v (.int .i64 (x1.Version)), .v (.slice a2 ((x1.Parts).length) (k2))] 24] ∧ SlAt cTPart V' a2 k2 x1.Parts ∧ F_placement_Index_L2 x3 x1 x9 J6 J14 n21 x19 x20 = some r) ⟨(1000000 : Nat), [(1, .v (.string ⟨⟨x3⟩⟩)), (2, .ptr 0 0), (5, .v (.int .i64 (x8))), (6, .v (.int .i64 (x9))), (7, .v (.string ⟨⟨(atI x1.Parts x9).From⟩⟩)), (8, .v (.int .i64 ((0 : Int))))], ⟨rfl, rfl, rfl, rfl, rfl, rfl, trivial⟩, x8, (0 : Int), rfl, rfl, h12, hF⟩ ?_
     rintro n21 L' V22 M' ⟨x19, x20, rfl, rfl, h23, hF⟩
     rcases n21 with _ | n21
     ·exact absurd hF (by simp [F_placement_Index_L2])
     rw [F_placement_Index_L2] at hF
     refine xr rfl ?_
     refine Exec.draws tyOk [(0, true), (1, true), (2, true), (3, true), (4, true), (5, true), (6, true), (7, true), (8, true), (9, true), (10, true), (11, true), (12, true), (13, true), (14, true), (15, true), (16, true), (17, true), (18, true), (19, true)] rfl (by kernel_rfl) ?_
     refine xr rfl ?_
     obtain ⟨q24, hF⟩ := req_some hF
     refine Exec.fidx tyOk rfl rfl rfl (fun gg0 gg1 => q24 (gd2_of gg0 gg1)) ?_
     refine xr rfl ?_
     obtain ⟨q25, hF⟩ := req_some hF
     refine Exec.fidx tyOk rfl rfl rfl (fun gg0 gg1 => q25 (gd2_of gg0 gg1)) ?_
     refine xr rfl ?_
     rcases cond_some hF with ⟨hb, hF⟩ | ⟨hb, hF⟩
     ·refine Exec.ifT rfl hb ?_
      refine xr rfl ?_
      refine Exec.cut 0 [(5, .v (.int .i64 (x9)))] (M' := []) rfl ⟨rfl, trivial⟩ rfl rfl rfl ?_
      exact Exec.round [(5, .v (.int .i64 (x9)))] ⟨rfl, trivial⟩ ⟨x9, rfl, rfl, hF⟩
     ·refine Exec.ifF rfl hb ?_
      refine xr rfl ?_
      refine Exec.draws tyOk [(0, true), (1, true), (2, true), (3, true), (4, true), (5, true), (6, true), (7, true), (8, true), (9, true), (10, true), (11, true), (12, true), (13, true)] rfl (by kernel_rfl) ?_
      refine xr rfl ?_
      obtain ⟨q26, hF⟩ := req_some hF
      refine Exec.fidx tyOk rfl rfl rfl (fun gg0 => q26 (gd1_of gg0)) ?_
      refine xr rfl ?_
      obtain ⟨q27, hF⟩ := req_some hF
      refine Exec.fidx tyOk rfl rfl rfl (fun gg0 => q27 (gd1_of gg0)) ?_
      refine xr rfl ?_
      rcases cond_some hF with ⟨hb, hF⟩ | ⟨hb, hF⟩
      ·refine Exec.ifT rfl hb ?_
       refine xr rfl ?_
       exact Exec.round [(1, .v (.string ⟨⟨x3⟩⟩)), (2, .ptr 0 0), (5, .v (.int .i64 (x19))), (6, .v (.int .i64 (x9)))] ⟨rfl, rfl, rfl, rfl, trivial⟩ ⟨x19, rfl, rfl, h23, hF⟩
      ·refine Exec.ifF rfl hb ?_
       refine xr rfl ?_
       exact Exec.round [(1, .v (.string ⟨⟨x3⟩⟩)), (2, .ptr 0 0), (5, .v (.int .i64 (x19))), (6, .v (.int .i64 (x9))), (7, .v (.string ⟨⟨(atI x1.Parts x9).From⟩⟩)), (8, .v (.int .i64 ((IntKind.i64.wrap (x20 + (1 : Int))))))] ⟨rfl, rfl, rfl, rfl, rfl, rfl, trivial⟩ ⟨n21, Nat.lt_succ_self _, x19, (IntKind.i64.wrap (x20 + (1 : Int))), rfl, rfl, h23, hF⟩
   ·refine Exec.ifF rfl hb ?_
    refine xr rfl ?_
    refine Exec.cut 0 [(5, .v (.int .i64 (x8)))] (M' := []) rfl ⟨rfl, trivial⟩ rfl rfl rfl ?_
    exact Exec.round [(5, .v (.int .i64 (x8)))] ⟨rfl, trivial⟩ ⟨x8, rfl, rfl, hF⟩
def F_clockworkref29_Index_L1 (x1 : TPlacement) (x3 : Str) (J6 : Int → Option Int) : Nat → Int → Int → Option Int
 | 0, _, _ => none
 | n10 + 1, x8, x9 => (cond (decide (x9 < (((x1.Parts).length : Nat) : Int))) (req (0 ≤ x9 ∧ x9 < ((x1.Parts).length : Int)) (jn (fun (x15 : Int) => (F_clockworkref29_Index_L1 x1 x3 J6 n10 x15 ((IntKind.i64.wrap (x9 + (1 : Int)))))) (fun J16 => (cond (!sLt x3 (atI x1.Parts x9).From) (J16 x9) (J16 x8))))) (J6 x8))
def F_clockworkref29_Index (x1 : TPlacement) (x3 : Str) : Option Int :=
 (bnd (F_clockworkref29_Valid x1) fun x4 => (cond (!x4) (some (-1 : Int)) (jn (fun (x5 : Int) => (some x5)) (fun J6 => (F_clockworkref29_Index_L1 x1 x3 J6 (((((x1.Parts).length : Nat) : Int)).toNat + 1) ((0 : Int)) ((1 : Int)))))))
theorem W_clockworkref29_Index {V : View} (x1 : TPlacement) (x3 : Str) {a2 : Option Addr} {k2 : Nat} (h2 : SlAt cTPart V a2 k2 x1.Parts) {r : Int} (hF : F_clockworkref29_Index x1 x3 = some r) :
  Spec Tryz.prog 37 [.agg ⟨[.int .i64 (x1.Version), .slice a2 ((x1.Parts).length) (k2)]⟩, .string ⟨⟨x3⟩⟩] V (fun _ v => v = .int .i64 (r)) := by
 unfold F_clockworkref29_Index at hF
 refine Spec.enter (T := tyT) Tryz.func37 rfl (by kernel_rfl) rfl rfl rfl ?_
 refine xr rfl ?_
 obtain ⟨x4, hx4, hF⟩ := bnd_some hF
 refine Exec.callS (.bool (x4)) rfl rfl (W_clockworkref29_Valid x1 h2 hx4) ?_
 refine xr rfl ?_
 rcases cond_some hF with ⟨hb, hF⟩ | ⟨hb, hF⟩
 ·refine Exec.ifT rfl hb ?_
  refine xr rfl ?_
  obtain rfl := some_inj hF
  exact Exec.ret tyOk rfl rfl rfl
 ·refine Exec.ifF rfl hb ?_
  refine Exec.run tyOk 10 rfl ?_
  obtain ⟨J6, hJ6, hF⟩ := jn_some hF
  refine Exec.seam (fun L' V' M' => ∃ (x5 : Int), L' = [(5, .v (.int .i64 (x5)))] ∧ M' = [] ∧ J6 x5 = some r) rfl ?_ ?_
  ·rintro L' V7 M' ⟨x5, rfl, rfl, hF⟩
   subst hJ6
   refine xr rfl ?_
   obtain rfl := some_inj hF
   exact Exec.ret tyOk rfl rfl rfl
  ·refine xr rfl ?_
   refine Exec.loop (fun n10 L' V' M' => ∃ (x8 : Int) (x9 : Int), L' = [(1, .v (.string ⟨⟨x3⟩⟩)), (2, .ptr 0 0), (5, .v (.int .i64 (x8))), (6, .v (.int .i64 (x9)))] ∧ M' = [.blk [.v (.int .i64 (x1.Version)), .v (.slice a2 ((x1.Parts).length) (k2))] 24] ∧ SlAt cTPart V' a2 k2 x1.Parts ∧ F_clockworkref29_Index_L1 x1 x3 J6 n10 x8 x9 = some r) ⟨(((((x1.Parts).length : Nat) : Int)).toNat + 1), [(1, .v (.string ⟨⟨x3⟩⟩)), (2, .ptr 0 0), (5, .v (.int .i64 ((0 : Int)))), (6, .v (.int .i64 ((1 : Int))))], ⟨rfl, rfl, rfl, rfl, trivial⟩, (0 : Int), (1 : Int), rfl, rfl, h2, hF⟩ ?_
   rintro n10 L' V11 M' ⟨x8, x9, rfl, rfl, h12, hF⟩
   rcases n10 with _ | n10
   ·exact absurd hF (by simp [F_clockworkref29_Index_L1])
   rw [F_clockworkref29_Index_L1] at hF
   refine xr rfl ?_
   rcases cond_some hF with ⟨hb, hF⟩ | ⟨hb, hF⟩
   ·refine Exec.ifT rfl hb ?_
    refine xr rfl ?_
    obtain ⟨q13, hF⟩ := req_some hF
    obtain ⟨c14, hr14, hd14⟩ := SlAt.get h12 q13
    obtain rfl := hr14
    refine Exec.ia tyOk rfl rfl ⟨q13.1, q13.2, hd14.some⟩ ?_
    refine xr rfl ?_
    refine Exec.ld tyOk (x := .string ⟨⟨(atI x1.Parts x9).From⟩⟩) rfl rfl (RdAt.part hd14 1 1 rfl) rfl rfl ?_
    refine xr rfl ?_
    obtain ⟨J16, hJ16, hF⟩ := jn_some hF
    refine Exec.seam (fun L' V' M' => ∃ (x15 : Int), L' = [(1, .v (.string ⟨⟨x3⟩⟩)), (2, .ptr 0 0), (5, .v (.int .i64 (x15))), (6, .v (.int .i64 (x9)))] ∧ M' = [.blk [.v (.int .i64 (x1.Version)), .v (.slice a2 ((x1.Parts).length) (k2))] 24] ∧ SlAt cTPart V' a2 k2 x1.Parts ∧ J16 x15 = some r) rfl ?_ ?_
    ·rintro L' V17 M' ⟨x15, rfl, rfl, h18, hF⟩
     subst hJ16
     refine xr rfl ?_
     exact Exec.round [(1, .v (.string ⟨⟨x3⟩⟩)), (2, .ptr 0 0), (5, .v (.int .i64 (x15))), (6, .v (.int .i64 ((IntKind.i64.wrap (x9 + (1 : Int))))))] ⟨rfl, rfl, rfl, rfl, trivial⟩ ⟨n10, Nat.lt_succ_self _, x15, (IntKind.i64.wrap (x9 + (1 : Int))), rfl, rfl, h18, hF⟩
    ·refine xr rfl ?_
     rcases cond_some hF with ⟨hb, hF⟩ | ⟨hb, hF⟩
     ·refine Exec.ifT rfl hb ?_
      refine xr rfl ?_
      exact Exec.round [(1, .v (.string ⟨⟨x3⟩⟩)), (2, .ptr 0 0), (5, .v (.int .i64 (x9))), (6, .v (.int .i64 (x9)))] ⟨rfl, rfl, rfl, rfl, trivial⟩ ⟨x9, rfl, rfl, h12, hF⟩
     ·refine Exec.ifF rfl hb ?_
      refine xr rfl ?_
      exact Exec.round [(1, .v (.string ⟨⟨x3⟩⟩)), (2, .ptr 0 0), (5, .v (.int .i64 (x8))), (6, .v (.int .i64 (x9)))] ⟨rfl, rfl, rfl, rfl, trivial⟩ ⟨x8, rfl, rfl, h12, hF⟩
   ·refine Exec.ifF rfl hb ?_
    refine xr rfl ?_
    refine Exec.cut 0 [(5, .v (.int .i64 (x8)))] (M' := []) rfl ⟨rfl, trivial⟩ rfl rfl rfl ?_
    exact Exec.round [(5, .v (.int .i64 (x8)))] ⟨rfl, trivial⟩ ⟨x8, rfl, rfl, hF⟩
def F_heat_Valid_L1 (x1 : List THeat) (J3 : Option Bool) : Nat → Int → Option Bool
 | 0, _ => none
 | n7 + 1, x6 => (cond (decide (x6 < (((x1).length : Nat) : Int))) (req (0 ≤ x6 ∧ x6 < ((x1).length : Int)) (bnd (F_keys_Valid ((atI x1 x6).Key)) fun x12 => (req (((((decide ((0 : Int) < x6))) == true) && (((((!x12) || (decide ((atI x1 x6).Count < (1 : Int)))) || (decide ((1099511627776 : Int) < (atI x1 x6).Count)))) == false)) = true → 0 ≤ (IntKind.i64.wrap (x6 - (1 : Int))) ∧ (IntKind.i64.wrap (x6 - (1 : Int))) < ((x1).length : Int)) (cond ((((!x12) || (decide ((atI x1 x6).Count < (1 : Int)))) || (decide ((1099511627776 : Int) < (atI x1 x6).Count))) || ((decide ((0 : Int) < x6)) && (!sLt (cond ((((decide ((0 : Int) < x6))) == true) && (((((!x12) || (decide ((atI x1 x6).Count < (1 : Int)))) || (decide ((1099511627776 : Int) < (atI x1 x6).Count)))) == false)) (atI x1 ((IntKind.i64.wrap (x6 - (1 : Int))))) default).Key (atI x1 x6).Key))) (some false) (F_heat_Valid_L1 x1 J3 n7 ((IntKind.i64.wrap (x6 + (1 : Int))))))))) J3)
def F_heat_Valid (x1 : List THeat) : Option Bool :=
 (jn ((some (decide ((((x1).length : Nat) : Int) ≤ (32 : Int))))) (fun J3 => (F_heat_Valid_L1 x1 J3 (((((x1).length : Nat) : Int)).toNat + 1) ((0 : Int)))))
theorem W_heat_Valid {V : View} (x1 : List THeat) {a2 : Option Addr} {k2 : Nat} (h2 : SlAt cTHeat V a2 k2 x1) {r : Bool} (hF : F_heat_Valid x1 = some r) :
  Spec Tryz.prog 38 [.slice a2 ((x1).length) (k2)] V (fun _ v => v = .bool (r)) := by
 unfold F_heat_Valid at hF
 refine Spec.enter (T := tyT) Tryz.func38 rfl (by kernel_rfl) rfl rfl rfl ?_
 refine Exec.run tyOk 11 rfl ?_
 obtain ⟨J3, hJ3, hF⟩ := jn_some hF
 refine Exec.seam (fun L' V' M' => L' = [(0, .v (.slice a2 ((x1).length) (k2)))] ∧ M' = [] ∧ SlAt cTHeat V' a2 k2 x1 ∧ J3 = some r) rfl ?_ ?_
 ·rintro L' V4 M' ⟨rfl, rfl, h5, hF⟩
  subst hJ3
  refine xr rfl ?_
  obtain rfl := some_inj hF
  exact Exec.ret tyOk rfl rfl rfl
 ·refine xr rfl ?_
  refine Exec.loop (fun n7 L' V' M' => ∃ (x6 : Int), L' = [(0, .v (.slice a2 ((x1).length) (k2))), (5, .v (.slice a2 ((x1).length) (k2))), (6, .v (.int .i64 ((((x1).length : Nat) : Int)))), (7, .v (.int .i64 (x6)))] ∧ M' = [] ∧ SlAt cTHeat V' a2 k2 x1 ∧ F_heat_Valid_L1 x1 J3 n7 x6 = some r) ⟨(((((x1).length : Nat) : Int)).toNat + 1), [(0, .v (.slice a2 ((x1).length) (k2))), (5, .v (.slice a2 ((x1).length) (k2))), (6, .v (.int .i64 ((((x1).length : Nat) : Int)))), (7, .v (.int .i64 ((0 : Int))))], ⟨rfl, rfl, rfl, rfl, trivial⟩, (0 : Int), rfl, rfl, h2, hF⟩ ?_
  rintro n7 L' V8 M' ⟨x6, rfl, rfl, h9, hF⟩
  rcases n7 with _ | n7
  ·exact absurd hF (by simp [F_heat_Valid_L1])
  rw [F_heat_Valid_L1] at hF
  refine xr rfl ?_
  rcases cond_some hF with ⟨hb, hF⟩ | ⟨hb, hF⟩
  ·refine Exec.ifT rfl hb ?_
   refine xr rfl ?_
   obtain ⟨q10, hF⟩ := req_some hF
   obtain ⟨c11, hr11, hd11⟩ := SlAt.get h9 q10
   obtain rfl := hr11
   refine Exec.ia tyOk rfl rfl ⟨q10.1, q10.2, hd11.some⟩ ?_
   refine xr rfl ?_
   refine Exec.ld tyOk (x := .agg ⟨[.string ⟨⟨(atI x1 x6).Key⟩⟩, .int .i64 ((atI x1 x6).Count)]⟩) rfl rfl hd11 rfl rfl ?_
   refine xr rfl ?_
   refine Exec.draws tyOk [(0, true), (1, true), (2, false), (3, false), (4, false), (5, false), (6, false), (7, false), (8, false), (9, false), (10, false), (11, false), (12, false), (13, false), (14, false), (15, false), (16, false), (17, false), (18, true), (19, true), (20, true), (21, true), (22, true), (23, true), (24, false), (25, false), (26, false), (27, false), (28, false)] rfl (by kernel_rfl) ?_
   refine xr rfl ?_
   obtain ⟨x12, hx12, hF⟩ := bnd_some hF
   refine Exec.callS (.bool (x12)) rfl rfl (W_keys_Valid ((atI x1 x6).Key)  hx12) ?_
   refine xr rfl ?_
   obtain ⟨q13, hF⟩ := req_some hF
   obtain ⟨c14, hr14, hd14⟩ := SlAt.gget ((((decide ((0 : Int) < x6))) == true) && (((((!x12) || (decide ((atI x1 x6).Count < (1 : Int)))) || (decide ((1099511627776 : Int) < (atI x1 x6).Count)))) == false)) h9 q13
   obtain rfl := hr14
   refine Exec.fia tyOk rfl rfl rfl (fun gg0 gg1 => ⟨(q13 (gd2_of gg0 gg1)).1, (q13 (gd2_of gg0 gg1)).2, (hd14 (gd2_of gg0 gg1)).some⟩) ?_
   refine xr rfl ?_
   refine Exec.fld tyOk (x := .string ⟨⟨(cond ((((decide ((0 : Int) < x6))) == true) && (((((!x12) || (decide ((atI x1 x6).Count < (1 : Int)))) || (decide ((1099511627776 : Int) < (atI x1 x6).Count)))) == false)) (atI x1 ((IntKind.i64.wrap (x6 - (1 : Int))))) default).Key⟩⟩) rfl rfl rfl (fun gg0 gg1 => (RdAt.part (hd14 (gd2_of gg0 gg1)) 0 1 rfl)) rfl rfl ?_
   refine xr rfl ?_
   rcases cond_some hF with ⟨hb, hF⟩ | ⟨hb, hF⟩
   ·refine Exec.ifT rfl hb ?_
    refine xr rfl ?_
    obtain rfl := some_inj hF
    exact Exec.ret tyOk rfl rfl rfl
   ·refine Exec.ifF rfl hb ?_
    refine xr rfl ?_
    refine Exec.cut 0 [(0, .v (.slice a2 ((x1).length) (k2))), (5, .v (.slice a2 ((x1).length) (k2))), (6, .v (.int .i64 ((((x1).length : Nat) : Int)))), (7, .v (.int .i64 ((IntKind.i64.wrap (x6 + (1 : Int))))))] (M' := []) rfl ⟨rfl, rfl, rfl, rfl, trivial⟩ rfl rfl rfl ?_
    exact Exec.round [(0, .v (.slice a2 ((x1).length) (k2))), (5, .v (.slice a2 ((x1).length) (k2))), (6, .v (.int .i64 ((((x1).length : Nat) : Int)))), (7, .v (.int .i64 ((IntKind.i64.wrap (x6 + (1 : Int))))))] ⟨rfl, rfl, rfl, rfl, trivial⟩ ⟨n7, Nat.lt_succ_self _, (IntKind.i64.wrap (x6 + (1 : Int))), rfl, rfl, h9, hF⟩
  ·refine Exec.ifF rfl hb ?_
   refine xr rfl ?_
   exact Exec.round [(0, .v (.slice a2 ((x1).length) (k2)))] ⟨rfl, trivial⟩ ⟨rfl, rfl, h9, hF⟩
def F_heat_Hot (x1 : List THeat) (x3 : Int) : Option (List Str) :=
 (bnd (F_heat_Valid x1) fun x4 => (cond (!x4) (some ([] : List Str)) (bnd (F_heat_convert_api_Heat_string x1 (fun y0 => F_heat_Hot_1 y0 x3)) fun x7 => (some x7))))
theorem W_heat_Hot {V : View} (x1 : List THeat) (x3 : Int) {a2 : Option Addr} {k2 : Nat} (h2 : SlAt cTHeat V a2 k2 x1) {r : List Str} (hF : F_heat_Hot x1 x3 = some r) :
  Spec Tryz.prog 48 [.slice a2 ((x1).length) (k2), .int .i64 (x3)] V (fun V' v => ∃ (a12 : Option Addr) (k12 : Nat), v = .slice a12 ((r).length) (k12) ∧ SlAt cStr V' a12 k12 r) := by
 unfold F_heat_Hot at hF
 refine Spec.enter (T := tyT) Tryz.func48 rfl (by kernel_rfl) rfl rfl rfl ?_
 refine xr rfl ?_
 obtain ⟨x4, hx4, hF⟩ := bnd_some hF
 refine Exec.callS (.bool (x4)) rfl rfl (W_heat_Valid x1 h2 hx4) ?_
 refine xr rfl ?_
 rcases cond_some hF with ⟨hb, hF⟩ | ⟨hb, hF⟩
 ·refine Exec.ifT rfl hb ?_
  refine xr rfl ?_
  obtain rfl := some_inj hF
  exact Exec.ret tyOk rfl rfl ⟨_, _, rfl, SlAt.nil⟩
 ·refine Exec.ifF rfl hb ?_
  refine xr rfl ?_
  refine Exec.openB 0 rfl rfl rfl rfl (fun _ => rfl) (fun _ => rfl) (fun V5 b5 hv5 hd5 => ?_)
  have h6 := SlAt.mono h2 hv5
  refine Exec.mkf rfl rfl ?_
  refine xr rfl ?_
  obtain ⟨x7, hx7, hF⟩ := bnd_some hF
  refine Exec.call rfl rfl (W_heat_convert_api_Heat_string x1 (fun y0 => F_heat_Hot_1 y0 x3) h6 (fun V' hv y0 r hr => W_heat_Hot_1 y0 x3 (RdAt.mono hd5 hv) hr) hx7) ?_
  rintro V9 _ hv9 ⟨a8, k8, rfl, h8⟩
  have h10 := SlAt.mono h6 hv9
  have h11 := RdAt.mono hd5 hv9
  refine xr rfl ?_
  obtain rfl := some_inj hF
  exact Exec.ret tyOk rfl rfl ⟨_, _, rfl, h8⟩
def F_rebalance_advice_splitLoad_L2 (x1 : Tadvice) (x16 : Int) (J25 : TMarker → Option (TMarker × Bool)) : Nat → TMarker → Int → Option (TMarker × Bool)
 | 0, _, _ => none
 | n36 + 1, x34, x35 => (cond (decide (x35 < (((x1.hot).length : Nat) : Int))) (req (0 ≤ x35 ∧ x35 < ((x1.hot).length : Int)) (bnd (F_placement_Index ((⟨x1.p.Version, x1.p.Parts⟩ : TPlacement)) ((atI x1.hot x35))) fun x45 => (req ((((x45 == x16)) == true) = true → 0 ≤ x16 ∧ x16 < ((x1.p.Parts).length : Int)) (cond ((x45 == x16) && (sLt (cond (((x45 == x16)) == true) (atI x1.p.Parts x16) default).From (atI x1.hot x35))) (req (0 ≤ x16 ∧ x16 < ((x1.p.Parts).length : Int)) (some ((⟨(1 : Int), (atI x1.p.Parts x16).Id, x1.fresh, 0, 0, (atI x1.hot x35)⟩ : TMarker), true))) (F_rebalance_advice_splitLoad_L2 x1 x16 J25 n36 x34 ((IntKind.i64.wrap (x35 + (1 : Int))))))))) (J25 x34))
def F_rebalance_advice_splitLoad_L1 (x1 : Tadvice) (J8 : TMarker → Option (TMarker × Bool)) : Nat → TMarker → Int → Option (TMarker × Bool)
 | 0, _, _ => none
 | n17 + 1, x15, x16 => (cond (decide (x16 < (((x1.loads).length : Nat) : Int))) (jn (fun (x24 : TMarker) => (F_rebalance_advice_splitLoad_L1 x1 J8 n17 x24 ((IntKind.i64.wrap (x16 + (1 : Int)))))) (fun J25 => (req (0 ≤ x16 ∧ x16 < ((x1.loads).length : Int)) (cond (decide ((atI x1.loads x16) ≤ (64 : Int))) (J25 x15) (F_rebalance_advice_splitLoad_L2 x1 x16 J25 (((((x1.hot).length : Nat) : Int)).toNat + 1) x15 ((0 : Int))))))) (J8 x15))
def F_rebalance_advice_splitLoad (x1 : Tadvice) : Option (TMarker × Bool) :=
 (cond (decide ((16 : Int) ≤ (((x1.p.Parts).length : Nat) : Int))) (some ((⟨0, 0, 0, 0, 0, []⟩ : TMarker), false)) (jn (fun (x7 : TMarker) => (some ((⟨0, 0, 0, 0, 0, []⟩ : TMarker), false))) (fun J8 => (F_rebalance_advice_splitLoad_L1 x1 J8 (((((x1.loads).length : Nat) : Int)).toNat + 1) ((default : TMarker)) ((0 : Int))))))
theorem W_rebalance_advice_splitLoad {V : View} (x1 : Tadvice) {a2 : Option Addr} {k2 : Nat} {a3 : Option Addr} {k3 : Nat} {a4 : Option Addr} {k4 : Nat} {a5 : Option Addr} {k5 : Nat} {a6 : Option Addr} {k6 : Nat} (h2 : SlAt cTPart V a2 k2 x1.p.Parts) (h3 : SlAt cTPair V a3 k3 x1.state) (h4 : SlAt (cInt .i64) V a4 k4 x1.sizes) (h5 : SlAt (cInt .i64) V a5 k5 x1.loads) (h6 : SlAt cStr V a6 k6 x1.hot) {r : TMarker × Bool} (hF : F_rebalance_advice_splitLoad x1 = some r) :
  Spec Tryz.prog 52 [.agg ⟨[.int .i64 (x1.p.Version), .slice a2 ((x1.p.Parts).length) (k2), .slice a3 ((x1.state).length) (k3), .slice a4 ((x1.sizes).length) (k4), .slice a5 ((x1.loads).length) (k5), .slice a6 ((x1.hot).length) (k6), .int .i64 (x1.fresh)]⟩] V (fun _ v => v = .tuple ⟨[.agg ⟨[.int .i64 (r.1.Kind), .int .i64 (r.1.Part), .int .i64 (r.1.New), .int .i64 (r.1.Node), .int .i64 (r.1.N), .string ⟨⟨r.1.Key⟩⟩]⟩, .bool (r.2)]⟩) := by
 unfold F_rebalance_advice_splitLoad at hF
 refine Spec.enter (T := tyT) Tryz.func52 rfl (by kernel_rfl) rfl rfl rfl ?_
 refine xr rfl ?_
 rcases cond_some hF with ⟨hb, hF⟩ | ⟨hb, hF⟩
 ·refine Exec.ifT rfl hb ?_
  refine xr rfl ?_
  obtain rfl := some_inj hF
  exact Exec.ret tyOk rfl rfl rfl
 ·refine Exec.ifF rfl hb ?_
  refine Exec.run tyOk 9 rfl ?_
  obtain ⟨J8, hJ8, hF⟩ := jn_some hF
  refine Exec.seam (fun L' V' M' => ∃ (x7 : TMarker), L' = [(2, .ptr 1 0)] ∧ M' = [.blk [.v (.int .i64 (x1.p.Version)), .v (.slice a2 ((x1.p.Parts).length) (k2)), .v (.slice a3 ((x1.state).length) (k3)), .v (.slice a4 ((x1.sizes).length) (k4)), .v (.slice a5 ((x1.loads).length) (k5)), .v (.slice a6 ((x1.hot).length) (k6)), .v (.int .i64 (x1.fresh))] 89, .blk [.v (.int .i64 (x7.Kind)), .v (.int .i64 (x7.Part)), .v (.int .i64 (x7.New)), .v (.int .i64 (x7.Node)), .v (.int .i64 (x7.N)), .v (.string ⟨⟨x7.Key⟩⟩)] 27] ∧ SlAt cTPart V' a2 k2 x1.p.Parts ∧ SlAt cTPair V' a3 k3 x1.state ∧ SlAt (cInt .i64) V' a4 k4 x1.sizes ∧ SlAt (cInt .i64) V' a5 k5 x1.loads ∧ SlAt cStr V' a6 k6 x1.hot ∧ J8 x7 = some r) rfl ?_ ?_
  ·rintro L' V9 M' ⟨x7, rfl, rfl, h10, h11, h12, h13, h14, hF⟩
   subst hJ8
   refine xr rfl ?_
   obtain rfl := some_inj hF
   exact Exec.ret tyOk rfl rfl rfl
  ·refine xr rfl ?_
   refine Exec.loop (fun n17 L' V' M' => ∃ (x15 : TMarker) (x16 : Int), L' = [(1, .ptr 0 0), (2, .ptr 1 0), (15, .v (.slice a5 ((x1.loads).length) (k5))), (16, .v (.int .i64 ((((x1.loads).length : Nat) : Int)))), (17, .v (.int .i64 (x16)))] ∧ M' = [.blk [.v (.int .i64 (x1.p.Version)), .v (.slice a2 ((x1.p.Parts).length) (k2)), .v (.slice a3 ((x1.state).length) (k3)), .v (.slice a4 ((x1.sizes).length) (k4)), .v (.slice a5 ((x1.loads).length) (k5)), .v (.slice a6 ((x1.hot).length) (k6)), .v (.int .i64 (x1.fresh))] 89, .blk [.v (.int .i64 (x15.Kind)), .v (.int .i64 (x15.Part)), .v (.int .i64 (x15.New)), .v (.int .i64 (x15.Node)), .v (.int .i64 (x15.N)), .v (.string ⟨⟨x15.Key⟩⟩)] 27] ∧ SlAt (cInt .i64) V' a5 k5 x1.loads ∧ SlAt cTPart V' a2 k2 x1.p.Parts ∧ SlAt cTPair V' a3 k3 x1.state ∧ SlAt (cInt .i64) V' a4 k4 x1.sizes ∧ SlAt cStr V' a6 k6 x1.hot ∧ F_rebalance_advice_splitLoad_L1 x1 J8 n17 x15 x16 = some r) ⟨(((((x1.loads).length : Nat) : Int)).toNat + 1), [(1, .ptr 0 0), (2, .ptr 1 0), (15, .v (.slice a5 ((x1.loads).length) (k5))), (16, .v (.int .i64 ((((x1.loads).length : Nat) : Int)))), (17, .v (.int .i64 ((0 : Int))))], ⟨rfl, rfl, rfl, rfl, rfl, trivial⟩, (default : TMarker), (0 : Int), rfl, rfl, h5, h2, h3, h4, h6, hF⟩ ?_
   rintro n17 L' V18 M' ⟨x15, x16, rfl, rfl, h19, h20, h21, h22, h23, hF⟩
   rcases n17 with _ | n17
   ·exact absurd hF (by simp [F_rebalance_advice_splitLoad_L1])
   rw [F_rebalance_advice_splitLoad_L1] at hF
   refine xr rfl ?_
   rcases cond_some hF with ⟨hb, hF⟩ | ⟨hb, hF⟩
   ·refine Exec.ifT rfl hb ?_
    refine Exec.run tyOk 2 rfl ?_
    obtain ⟨J25, hJ25, hF⟩ := jn_some hF
    refine Exec.seam (fun L' V' M' => ∃ (x24 : TMarker), L' = [(1, .ptr 0 0), (2, .ptr 1 0), (15, .v (.slice a5 ((x1.loads).length) (k5))), (16, .v (.int .i64 ((((x1.loads).length : Nat) : Int)))), (17, .v (.int .i64 (x16)))] ∧ M' = [.blk [.v (.int .i64 (x1.p.Version)), .v (.slice a2 ((x1.p.Parts).length) (k2)), .v (.slice a3 ((x1.state).length) (k3)), .v (.slice a4 ((x1.sizes).length) (k4)), .v (.slice a5 ((x1.loads).length) (k5)), .v (.slice a6 ((x1.hot).length) (k6)), .v (.int .i64 (x1.fresh))] 89, .blk [.v (.int .i64 (x24.Kind)), .v (.int .i64 (x24.Part)), .v (.int .i64 (x24.New)), .v (.int .i64 (x24.Node)), .v (.int .i64 (x24.N)), .v (.string ⟨⟨x24.Key⟩⟩)] 27] ∧ SlAt (cInt .i64) V' a5 k5 x1.loads ∧ SlAt cTPart V' a2 k2 x1.p.Parts ∧ SlAt cTPair V' a3 k3 x1.state ∧ SlAt (cInt .i64) V' a4 k4 x1.sizes ∧ SlAt cStr V' a6 k6 x1.hot ∧ J25 x24 = some r) rfl ?_ ?_
    ·rintro L' V26 M' ⟨x24, rfl, rfl, h27, h28, h29, h30, h31, hF⟩
     subst hJ25
     refine xr rfl ?_
     exact Exec.round [(1, .ptr 0 0), (2, .ptr 1 0), (15, .v (.slice a5 ((x1.loads).length) (k5))), (16, .v (.int .i64 ((((x1.loads).length : Nat) : Int)))), (17, .v (.int .i64 ((IntKind.i64.wrap (x16 + (1 : Int))))))] ⟨rfl, rfl, rfl, rfl, rfl, trivial⟩ ⟨n17, Nat.lt_succ_self _, x24, (IntKind.i64.wrap (x16 + (1 : Int))), rfl, rfl, h27, h28, h29, h30, h31, hF⟩
    ·refine xr rfl ?_
     obtain ⟨q32, hF⟩ := req_some hF
     obtain ⟨c33, hr33, hd33⟩ := SlAt.get h19 q32
     obtain rfl := hr33
     refine Exec.ia tyOk rfl rfl ⟨q32.1, q32.2, hd33.some⟩ ?_
     refine xr rfl ?_
     refine Exec.ld tyOk (x := .int .i64 ((atI x1.loads x16))) rfl rfl hd33 rfl rfl ?_
     refine xr rfl ?_
     rcases cond_some hF with ⟨hb, hF⟩ | ⟨hb, hF⟩
     ·refine Exec.ifT rfl hb ?_
      refine xr rfl ?_
      exact Exec.round [(1, .ptr 0 0), (2, .ptr 1 0), (15, .v (.slice a5 ((x1.loads).length) (k5))), (16, .v (.int .i64 ((((x1.loads).length : Nat) : Int)))), (17, .v (.int .i64 (x16)))] ⟨rfl, rfl, rfl, rfl, rfl, trivial⟩ ⟨x15, rfl, rfl, h19, h20, h21, h22, h23, hF⟩
     ·refine Exec.ifF rfl hb ?_
      refine xr rfl ?_
      refine Exec.loop (fun n36 L' V' M' => ∃ (x34 : TMarker) (x35 : Int), L' = [(1, .ptr 0 0), (2, .ptr 1 0), (4, .v (.int .i64 (x16))), (15, .v (.slice a5 ((x1.loads).length) (k5))), (16, .v (.int .i64 ((((x1.loads).length : Nat) : Int)))), (17, .v (.int .i64 (x16))), (25, .v (.slice a6 ((x1.hot).length) (k6))), (26, .v (.int .i64 ((((x1.hot).length : Nat) : Int)))), (27, .v (.int .i64 (x35)))] ∧ M' = [.blk [.v (.int .i64 (x1.p.Version)), .v (.slice a2 ((x1.p.Parts).length) (k2)), .v (.slice a3 ((x1.state).length) (k3)), .v (.slice a4 ((x1.sizes).length) (k4)), .v (.slice a5 ((x1.loads).length) (k5)), .v (.slice a6 ((x1.hot).length) (k6)), .v (.int .i64 (x1.fresh))] 89, .blk [.v (.int .i64 (x34.Kind)), .v (.int .i64 (x34.Part)), .v (.int .i64 (x34.New)), .v (.int .i64 (x34.Node)), .v (.int .i64 (x34.N)), .v (.string ⟨⟨x34.Key⟩⟩)] 27] ∧ SlAt (cInt .i64) V' a5 k5 x1.loads ∧ SlAt cStr V' a6 k6 x1.hot ∧ SlAt cTPart V' a2 k2 x1.p.Parts ∧ SlAt cTPair V' a3 k3 x1.state ∧ SlAt (cInt .i64) V' a4 k4 x1.sizes ∧ F_rebalance_advice_splitLoad_L2 x1 x16 J25 n36 x34 x35 = some r) ⟨(((((x1.hot).length : Nat) : Int)).toNat + 1), [(1, .ptr 0 0), (2, .ptr 1 0), (4, .v (.int .i64 (x16))), (15, .v (.slice a5 ((x1.loads).length) (k5))), (16, .v (.int .i64 ((((x1.loads).length : Nat) : Int)))), (17, .v (.int .i64 (x16))), (25, .v (.slice a6 ((x1.hot).length) (k6))), (26, .v (.int .i64 ((((x1.hot).length : Nat) : Int)))), (27, .v (.int .i64 ((0 : Int))))], ⟨rfl, rfl, rfl, rfl, rfl, rfl, rfl, rfl, rfl, trivial⟩, x15, (0 : Int), rfl, rfl, h19, h23, h20, h21, h22, hF⟩ ?_
      rintro n36 L' V37 M' ⟨x34, x35, rfl, rfl, h38, h39, h40, h41, h42, hF⟩
      rcases n36 with _ | n36
      ·exact absurd hF (by simp [F_rebalance_advice_splitLoad_L2])
      rw [F_rebalance_advice_splitLoad_L2] at hF
      refine xr rfl ?_
      rcases cond_some hF with ⟨hb, hF⟩ | ⟨hb, hF⟩
      ·refine Exec.ifT rfl hb ?_
       refine xr rfl ?_
       obtain ⟨q43, hF⟩ := req_some hF
       obtain ⟨c44, hr44, hd44⟩ := SlAt.get h39 q43
       obtain rfl := hr44
       refine Exec.ia tyOk rfl rfl ⟨q43.1, q43.2, hd44.some⟩ ?_
       refine xr rfl ?_
       refine Exec.ld tyOk (x := .string ⟨⟨(atI x1.hot x35)⟩⟩) rfl rfl hd44 rfl rfl ?_
       refine xr rfl ?_
       obtain ⟨x45, hx45, hF⟩ := bnd_some hF
       refine Exec.callS (.int .i64 (x45)) rfl rfl (W_placement_Index ((⟨x1.p.Version, x1.p.Parts⟩ : TPlacement)) ((atI x1.hot x35)) h40 hx45) ?_
       refine xr rfl ?_
       obtain ⟨q46, hF⟩ := req_some hF
       obtain ⟨c47, hr47, hd47⟩ := SlAt.gget (((x45 == x16)) == true) h40 q46
       obtain rfl := hr47
       refine Exec.ia tyOk rfl rfl (fun gg0 => ⟨(q46 (gd1_of gg0)).1, (q46 (gd1_of gg0)).2, (hd47 (gd1_of gg0)).some⟩) ?_
       refine xr rfl ?_
       refine Exec.ld tyOk (x := .string ⟨⟨(cond (((x45 == x16)) == true) (atI x1.p.Parts x16) default).From⟩⟩) rfl rfl (fun gg0 => (RdAt.part (hd47 (gd1_of gg0)) 1 1 rfl)) rfl rfl ?_
       refine xr rfl ?_
       rcases cond_some hF with ⟨hb, hF⟩ | ⟨hb, hF⟩
       ·refine Exec.ifT rfl hb ?_
        refine xr rfl ?_
        refine Exec.draws tyOk [(0, true), (1, true), (2, true), (3, true), (4, true), (5, true), (6, true), (7, true), (8, true), (9, true), (10, true), (11, false), (12, false)] rfl (by kernel_rfl) ?_
        refine xr rfl ?_
        obtain ⟨q48, hF⟩ := req_some hF
        obtain ⟨c49, hr49, hd49⟩ := SlAt.get h40 q48
        obtain rfl := hr49
        refine Exec.fia tyOk rfl rfl rfl ⟨q48.1, q48.2, hd49.some⟩ ?_
        refine xr rfl ?_
        refine Exec.fld tyOk (x := .int .i64 ((atI x1.p.Parts x16).Id)) rfl rfl rfl (RdAt.part hd49 0 1 rfl) rfl rfl ?_
        refine xr rfl ?_
        obtain rfl := some_inj hF
        exact Exec.ret tyOk rfl rfl rfl
       ·refine Exec.ifF rfl hb ?_
        refine xr rfl ?_
        exact Exec.round [(1, .ptr 0 0), (2, .ptr 1 0), (4, .v (.int .i64 (x16))), (15, .v (.slice a5 ((x1.loads).length) (k5))), (16, .v (.int .i64 ((((x1.loads).length : Nat) : Int)))), (17, .v (.int .i64 (x16))), (25, .v (.slice a6 ((x1.hot).length) (k6))), (26, .v (.int .i64 ((((x1.hot).length : Nat) : Int)))), (27, .v (.int .i64 ((IntKind.i64.wrap (x35 + (1 : Int))))))] ⟨rfl, rfl, rfl, rfl, rfl, rfl, rfl, rfl, rfl, trivial⟩ ⟨n36, Nat.lt_succ_self _, x34, (IntKind.i64.wrap (x35 + (1 : Int))), rfl, rfl, h38, h39, h40, h41, h42, hF⟩
      ·refine Exec.ifF rfl hb ?_
       refine xr rfl ?_
       exact Exec.round [(1, .ptr 0 0), (2, .ptr 1 0), (15, .v (.slice a5 ((x1.loads).length) (k5))), (16, .v (.int .i64 ((((x1.loads).length : Nat) : Int)))), (17, .v (.int .i64 (x16)))] ⟨rfl, rfl, rfl, rfl, rfl, trivial⟩ ⟨x34, rfl, rfl, h38, h40, h41, h42, h39, hF⟩
   ·refine Exec.ifF rfl hb ?_
    refine xr rfl ?_
    exact Exec.round [(2, .ptr 1 0)] ⟨rfl, trivial⟩ ⟨x15, rfl, rfl, h20, h21, h22, h19, h23, hF⟩
def F_placement_Split (x1 : TPlacement) (x3 : Int) (x4 : Str) (x5 : Int) : Option (TPlacement × Int) :=
 (bnd (F_placement_Valid x1) fun x6 => (cond (!x6) (some ((⟨0, ([] : List TPart)⟩ : TPlacement), (1 : Int))) (bnd (F_placement_find x1.Parts x3) fun x7 => (cond (decide (x7 < (0 : Int))) (some ((⟨0, ([] : List TPart)⟩ : TPlacement), (9 : Int))) (req (0 ≤ x7 ∧ x7 < ((x1.Parts).length : Int)) (req ((((((IntKind.i64.wrap (x7 + (1 : Int))) == (((x1.Parts).length : Nat) : Int))) == false) && (((sLt (atI x1.Parts x7).From x4)) == true)) = true → 0 ≤ (IntKind.i64.wrap (x7 + (1 : Int))) ∧ (IntKind.i64.wrap (x7 + (1 : Int))) < ((x1.Parts).length : Int)) (cond ((atI x1.Parts x7).Dest != (0 : Int)) (some ((⟨0, ([] : List TPart)⟩ : TPlacement), (19 : Int))) (bnd (F_placement_bound x4) fun x12 => (bnd (gcall ((((!x12) || (!((sLt (atI x1.Parts x7).From x4) && (((IntKind.i64.wrap (x7 + (1 : Int))) == (((x1.Parts).length : Nat) : Int)) || (sLt x4 (cond (((((IntKind.i64.wrap (x7 + (1 : Int))) == (((x1.Parts).length : Nat) : Int))) == false) && (((sLt (atI x1.Parts x7).From x4)) == true)) (atI x1.Parts ((IntKind.i64.wrap (x7 + (1 : Int))))) default).From)))))) == false) (F_placement_number x5)) fun x13 => (cond (((!x12) || (!((sLt (atI x1.Parts x7).From x4) && (((IntKind.i64.wrap (x7 + (1 : Int))) == (((x1.Parts).length : Nat) : Int)) || (sLt x4 (cond (((((IntKind.i64.wrap (x7 + (1 : Int))) == (((x1.Parts).length : Nat) : Int))) == false) && (((sLt (atI x1.Parts x7).From x4)) == true)) (atI x1.Parts ((IntKind.i64.wrap (x7 + (1 : Int))))) default).From))))) || (!x13)) (some ((⟨0, ([] : List TPart)⟩ : TPlacement), (1 : Int))) (bnd (F_placement_find x1.Parts x5) fun x14 => (cond (decide ((0 : Int) ≤ x14)) (some ((⟨0, ([] : List TPart)⟩ : TPlacement), (8 : Int))) (cond (((((x1.Parts).length : Nat) : Int) == (16 : Int)) || (x1.Version == (1099511627776 : Int))) (some ((⟨0, ([] : List TPart)⟩ : TPlacement), (2 : Int))) (req ((x1.Parts).length * 56 ≤ 140737488355328) (req (0 ≤ (IntKind.i64.wrap (x7 + (1 : Int))) ∧ (IntKind.i64.wrap (x7 + (1 : Int))) ≤ ((x1.Parts).length : Int)) (req (((x1.Parts).length + 1) * 56 ≤ 140737488355328) (some ((⟨(IntKind.i64.wrap (x1.Version + (1 : Int))), ((x1.Parts).take ((IntKind.i64.wrap (x7 + (1 : Int)))).toNat ++ [(⟨x5, x4, (atI x1.Parts x7).Node, 0, []⟩ : TPart)] ++ (x1.Parts).drop ((IntKind.i64.wrap (x7 + (1 : Int)))).toNat)⟩ : TPlacement), (0 : Int)))))))))))))))))))
theorem W_placement_Split {V : View} (x1 : TPlacement) (x3 : Int) (x4 : Str) (x5 : Int) {a2 : Option Addr} {k2 : Nat} (h2 : SlAt cTPart V a2 k2 x1.Parts) {r : TPlacement × Int} (hF : F_placement_Split x1 x3 x4 x5 = some r) :
  Spec Tryz.prog 59 [.agg ⟨[.int .i64 (x1.Version), .slice a2 ((x1.Parts).length) (k2)]⟩, .int .i64 (x3), .string ⟨⟨x4⟩⟩, .int .i64 (x5)] V (fun V' v => ∃ (a35 : Option Addr) (k35 : Nat), v = .tuple ⟨[.agg ⟨[.int .i64 (r.1.Version), .slice a35 ((r.1.Parts).length) (k35)]⟩, .int .i64 (r.2)]⟩ ∧ SlAt cTPart V' a35 k35 r.1.Parts) := by
 unfold F_placement_Split at hF
 refine Spec.enter (T := tyT) Tryz.func59 rfl (by kernel_rfl) rfl rfl rfl ?_
 refine xr rfl ?_
 obtain ⟨x6, hx6, hF⟩ := bnd_some hF
 refine Exec.callS (.bool (x6)) rfl rfl (W_placement_Valid x1 h2 hx6) ?_
 refine xr rfl ?_
 rcases cond_some hF with ⟨hb, hF⟩ | ⟨hb, hF⟩
 ·refine Exec.ifT rfl hb ?_
  refine xr rfl ?_
  obtain rfl := some_inj hF
  exact Exec.ret tyOk rfl rfl ⟨_, _, rfl, SlAt.nil⟩
 ·refine Exec.ifF rfl hb ?_
  refine xr rfl ?_
  obtain ⟨x7, hx7, hF⟩ := bnd_some hF
  refine Exec.callS (.int .i64 (x7)) rfl rfl (W_placement_find x1.Parts x3 h2 hx7) ?_
  refine xr rfl ?_
  rcases cond_some hF with ⟨hb, hF⟩ | ⟨hb, hF⟩
  ·refine Exec.ifT rfl hb ?_
   refine xr rfl ?_
   obtain rfl := some_inj hF
   exact Exec.ret tyOk rfl rfl ⟨_, _, rfl, SlAt.nil⟩
  ·refine Exec.ifF rfl hb ?_
   refine xr rfl ?_
   obtain ⟨q8, hF⟩ := req_some hF
   obtain ⟨c9, hr9, hd9⟩ := SlAt.get h2 q8
   obtain rfl := hr9
   refine Exec.ia tyOk rfl rfl ⟨q8.1, q8.2, hd9.some⟩ ?_
   refine xr rfl ?_
   refine Exec.ld tyOk (x := .agg ⟨[.int .i64 ((atI x1.Parts x7).Id), .string ⟨⟨(atI x1.Parts x7).From⟩⟩, .int .i64 ((atI x1.Parts x7).Node), .int .i64 ((atI x1.Parts x7).Dest), .string ⟨⟨(atI x1.Parts x7).Done⟩⟩]⟩) rfl rfl hd9 rfl rfl ?_
   refine xr rfl ?_
   obtain ⟨q10, hF⟩ := req_some hF
   obtain ⟨c11, hr11, hd11⟩ := SlAt.gget (((((IntKind.i64.wrap (x7 + (1 : Int))) == (((x1.Parts).length : Nat) : Int))) == false) && (((sLt (atI x1.Parts x7).From x4)) == true)) h2 q10
   obtain rfl := hr11
   refine Exec.ia tyOk rfl rfl (fun gg0 gg1 => ⟨(q10 (gd2_of gg0 gg1)).1, (q10 (gd2_of gg0 gg1)).2, (hd11 (gd2_of gg0 gg1)).some⟩) ?_
   refine xr rfl ?_
   refine Exec.ld tyOk (x := .string ⟨⟨(cond (((((IntKind.i64.wrap (x7 + (1 : Int))) == (((x1.Parts).length : Nat) : Int))) == false) && (((sLt (atI x1.Parts x7).From x4)) == true)) (atI x1.Parts ((IntKind.i64.wrap (x7 + (1 : Int))))) default).From⟩⟩) rfl rfl (fun gg0 gg1 => (RdAt.part (hd11 (gd2_of gg0 gg1)) 1 1 rfl)) rfl rfl ?_
   refine xr rfl ?_
   rcases cond_some hF with ⟨hb, hF⟩ | ⟨hb, hF⟩
   ·refine Exec.ifT rfl hb ?_
    refine xr rfl ?_
    obtain rfl := some_inj hF
    exact Exec.ret tyOk rfl rfl ⟨_, _, rfl, SlAt.nil⟩
   ·refine Exec.ifF rfl hb ?_
    refine xr rfl ?_
    obtain ⟨x12, hx12, hF⟩ := bnd_some hF
    refine Exec.callS (.bool (x12)) rfl rfl (W_placement_bound x4  hx12) ?_
    refine xr rfl ?_
    obtain ⟨x13, hx13, hF⟩ := bnd_some hF
    refine Exec.callS (.bool (x13)) rfl rfl (fun gg0 => W_placement_number x5  (gcall_some hx13 (gd1_of gg0))) ?_
    refine xr rfl ?_
    rcases cond_some hF with ⟨hb, hF⟩ | ⟨hb, hF⟩
    ·refine Exec.ifT rfl hb ?_
     refine xr rfl ?_
     obtain rfl := some_inj hF
     exact Exec.ret tyOk rfl rfl ⟨_, _, rfl, SlAt.nil⟩
    ·refine Exec.ifF rfl hb ?_
     refine xr rfl ?_
     obtain ⟨x14, hx14, hF⟩ := bnd_some hF
     refine Exec.callS (.int .i64 (x14)) rfl rfl (W_placement_find x1.Parts x5 h2 hx14) ?_
     refine xr rfl ?_
     rcases cond_some hF with ⟨hb, hF⟩ | ⟨hb, hF⟩
     ·refine Exec.ifT rfl hb ?_
      refine xr rfl ?_
      obtain rfl := some_inj hF
      exact Exec.ret tyOk rfl rfl ⟨_, _, rfl, SlAt.nil⟩
     ·refine Exec.ifF rfl hb ?_
      refine xr rfl ?_
      rcases cond_some hF with ⟨hb, hF⟩ | ⟨hb, hF⟩
      ·refine Exec.ifT rfl hb ?_
       refine xr rfl ?_
       obtain rfl := some_inj hF
       exact Exec.ret tyOk rfl rfl ⟨_, _, rfl, SlAt.nil⟩
      ·refine Exec.ifF rfl hb ?_
       refine xr rfl ?_
       refine Exec.draws tyOk [(0, true), (1, true), (3, true), (4, true), (5, true), (6, true), (7, true), (8, true), (9, true)] rfl (by kernel_rfl) ?_
       refine xr rfl ?_
       obtain ⟨q15, hF⟩ := req_some hF
       refine Exec.fork 2 10 [(10, false)] [(2, false)] [(11, false), (12, false)] (fun lr' L' V' M' => ∃ (a16 : Option Addr) (k16 : Nat) (cs16 : List Value), lr' = [] ∧ L' = [(4, .ptr 0 0), (8, .ptr 1 0), (92, .v (.slice a16 ((x1.Parts).length) (k16))), (94, .v (.int .i64 ((IntKind.i64.wrap (x7 + (1 : Int)))))), (100, .slc 4 0 1 1)] ∧ M' = [.blk [.v (.int .i64 (x1.Version)), .v (.slice a2 ((x1.Parts).length) (k2))] 24, .blk [.v (.int .i64 (0)), .v (.slice none (0) (0))] 24, .blk [.v (.int .i64 ((atI x1.Parts x7).Id)), .v (.string ⟨⟨(atI x1.Parts x7).From⟩⟩), .v (.int .i64 ((atI x1.Parts x7).Node)), .v (.int .i64 ((atI x1.Parts x7).Dest)), .v (.string ⟨⟨(atI x1.Parts x7).Done⟩⟩)] 60, .row (.slice a16 ((x1.Parts).length) (k16)) cs16 60 5, .blk [.v (.int .i64 (x5)), .v (.string ⟨⟨x4⟩⟩), .v (.int .i64 ((atI x1.Parts x7).Node)), .v (.int .i64 (0)), .v (.string ⟨⟨[]⟩⟩)] 60] ∧ SlAt cTPart V' a2 k2 x1.Parts ∧ RowRep cTPart V' x1.Parts cs16) 2 [true, true, true, true, true, true, true, true, true, true, true, false, false] rfl (by kernel_rfl) rfl rfl (by kernel_rfl) (by kernel_rfl) (by kernel_rfl) (by kernel_rfl) (fun join => ?_) (fun join => ?_) ?_
       ·refine xr rfl ?_
        refine Exec.row0 60 5 rfl ?_
        refine Exec.callM 3 rfl rfl rfl rfl (W_slices_Clone_api_Part_api_Part x1.Parts h2 q15) ?_
        rintro VV19 _ _ hv19 ⟨a19, k19, cs19, rfl, rfl, h19⟩
        refine ⟨_, rfl, ?_⟩
        have h20 := SlAt.mono h2 hv19
        refine xr rfl ?_
        refine Exec.bsl tyOk rfl rfl ?_
        refine xr rfl ?_
        exact join [0, 1, 2, 3, 4] (lr' := []) (L' := [(4, .ptr 0 0), (8, .ptr 1 0), (92, .v (.slice a19 ((x1.Parts).length) (k19))), (94, .v (.int .i64 ((IntKind.i64.wrap (x7 + (1 : Int)))))), (100, .slc 4 0 1 1)]) rfl rfl rfl rfl ⟨⟨_, rfl, rfl⟩, ⟨_, rfl, rfl⟩, ⟨_, rfl, rfl⟩, ⟨_, rfl, rfl⟩, ⟨_, rfl, rfl⟩, trivial⟩ trivial ⟨_, _, _, rfl, rfl, rfl, h20, h19⟩
       ·refine xr rfl ?_
        refine Exec.bsl tyOk rfl rfl ?_
        refine xr rfl ?_
        refine Exec.row0 60 5 rfl ?_
        refine Exec.callM 4 rfl rfl rfl rfl (W_slices_Clone_api_Part_api_Part x1.Parts h2 q15) ?_
        rintro VV22 _ _ hv22 ⟨a22, k22, cs22, rfl, rfl, h22⟩
        refine ⟨_, rfl, ?_⟩
        have h23 := SlAt.mono h2 hv22
        refine xr rfl ?_
        exact join [0, 1, 2, 4, 3] (lr' := []) (L' := [(4, .ptr 0 0), (8, .ptr 1 0), (92, .v (.slice a22 ((x1.Parts).length) (k22))), (94, .v (.int .i64 ((IntKind.i64.wrap (x7 + (1 : Int)))))), (100, .slc 4 0 1 1)]) rfl rfl rfl rfl ⟨⟨_, rfl, rfl⟩, ⟨_, rfl, rfl⟩, ⟨_, rfl, rfl⟩, ⟨_, rfl, rfl⟩, ⟨_, rfl, rfl⟩, trivial⟩ trivial ⟨_, _, _, rfl, rfl, rfl, h23, h22⟩
       rintro lr' L' VV25 M' ⟨a16, k16, cs16, rfl, rfl, rfl, h26, h27⟩
       refine xr rfl ?_
       refine Exec.fixR 4 (n := 1) (sz := 5) rfl rfl rfl rfl rfl (fun _ => rfl) (fun _ => rfl) (fun _ => rfl) (fun b28 => ?_)
       obtain ⟨q29, hF⟩ := req_some hF
       obtain ⟨q30, hF⟩ := req_some hF
       have hy31 : RowRep cTPart VV25 [(⟨x5, x4, (atI x1.Parts x7).Node, 0, []⟩ : TPart)] [.int .i64 (x5), .string ⟨⟨x4⟩⟩, .int .i64 ((atI x1.Parts x7).Node), .int .i64 (0), .string ⟨⟨[]⟩⟩] := ⟨_, _, rfl, rfl, rfl⟩
       refine Exec.callR [3, 4] rfl rfl rfl (by rfl) rfl rfl (W_slices_Insert_api_Part_api_Part x1.Parts ((⟨x5, x4, (atI x1.Parts x7).Node, 0, []⟩ : TPart)) h27 hy31 q29 q30) ?_
       rintro VV31 _ _ hv31 ⟨a31, k31, cs31, r31, rfl, rfl, h31⟩
       refine ⟨_, rfl, ?_⟩
       have h32 := SlAt.mono h26 hv31
       refine xr rfl ?_
       refine Exec.frz 3 rfl rfl rfl (fun V33 hv33 hd33 hn33 => ?_)
       have hz33 := RowRep.slat h31 hv33 hd33 hn33
       have h34 := SlAt.mono h32 hv33
       obtain rfl := some_inj hF
       exact Exec.ret tyOk rfl rfl ⟨_, _, rfl, hz33⟩
def F_placement_Merge (x1 : TPlacement) (x3 : Int) : Option (TPlacement × Int) :=
 (bnd (F_placement_Valid x1) fun x4 => (cond (!x4) (some ((⟨0, ([] : List TPart)⟩ : TPlacement), (1 : Int))) (bnd (F_placement_find x1.Parts x3) fun x5 => (cond ((decide (x5 < (0 : Int))) || ((IntKind.i64.wrap (x5 + (1 : Int))) == (((x1.Parts).length : Nat) : Int))) (some ((⟨0, ([] : List TPart)⟩ : TPlacement), (9 : Int))) (req (0 ≤ x5 ∧ x5 < ((x1.Parts).length : Int)) (req (0 ≤ (IntKind.i64.wrap (x5 + (1 : Int))) ∧ (IntKind.i64.wrap (x5 + (1 : Int))) < ((x1.Parts).length : Int)) (cond ((((atI x1.Parts x5).Dest != (0 : Int)) || ((atI x1.Parts ((IntKind.i64.wrap (x5 + (1 : Int))))).Dest != (0 : Int))) || ((atI x1.Parts x5).Node != (atI x1.Parts ((IntKind.i64.wrap (x5 + (1 : Int))))).Node)) (some ((⟨0, ([] : List TPart)⟩ : TPlacement), (19 : Int))) (cond (x1.Version == (1099511627776 : Int)) (some ((⟨0, ([] : List TPart)⟩ : TPlacement), (2 : Int))) (req ((x1.Parts).length * 56 ≤ 140737488355328) (req (0 ≤ (IntKind.i64.wrap (x5 + (1 : Int))) ∧ (IntKind.i64.wrap (x5 + (1 : Int))) ≤ (IntKind.i64.wrap (x5 + (2 : Int))) ∧ (IntKind.i64.wrap (x5 + (2 : Int))) ≤ ((x1.Parts).length : Int)) (req ((x1.Parts).length < 9223372036854775808) (some ((⟨(IntKind.i64.wrap (x1.Version + (1 : Int))), ((x1.Parts).take ((IntKind.i64.wrap (x5 + (1 : Int)))).toNat ++ (x1.Parts).drop ((IntKind.i64.wrap (x5 + (2 : Int)))).toNat)⟩ : TPlacement), (0 : Int))))))))))))))
theorem W_placement_Merge {V : View} (x1 : TPlacement) (x3 : Int) {a2 : Option Addr} {k2 : Nat} (h2 : SlAt cTPart V a2 k2 x1.Parts) {r : TPlacement × Int} (hF : F_placement_Merge x1 x3 = some r) :
  Spec Tryz.prog 60 [.agg ⟨[.int .i64 (x1.Version), .slice a2 ((x1.Parts).length) (k2)]⟩, .int .i64 (x3)] V (fun V' v => ∃ (a21 : Option Addr) (k21 : Nat), v = .tuple ⟨[.agg ⟨[.int .i64 (r.1.Version), .slice a21 ((r.1.Parts).length) (k21)]⟩, .int .i64 (r.2)]⟩ ∧ SlAt cTPart V' a21 k21 r.1.Parts) := by
 unfold F_placement_Merge at hF
 refine Spec.enter (T := tyT) Tryz.func60 rfl (by kernel_rfl) rfl rfl rfl ?_
 refine xr rfl ?_
 obtain ⟨x4, hx4, hF⟩ := bnd_some hF
 refine Exec.callS (.bool (x4)) rfl rfl (W_placement_Valid x1 h2 hx4) ?_
 refine xr rfl ?_
 rcases cond_some hF with ⟨hb, hF⟩ | ⟨hb, hF⟩
 ·refine Exec.ifT rfl hb ?_
  refine xr rfl ?_
  obtain rfl := some_inj hF
  exact Exec.ret tyOk rfl rfl ⟨_, _, rfl, SlAt.nil⟩
 ·refine Exec.ifF rfl hb ?_
  refine xr rfl ?_
  obtain ⟨x5, hx5, hF⟩ := bnd_some hF
  refine Exec.callS (.int .i64 (x5)) rfl rfl (W_placement_find x1.Parts x3 h2 hx5) ?_
  refine xr rfl ?_
  rcases cond_some hF with ⟨hb, hF⟩ | ⟨hb, hF⟩
  ·refine Exec.ifT rfl hb ?_
   refine xr rfl ?_
   obtain rfl := some_inj hF
   exact Exec.ret tyOk rfl rfl ⟨_, _, rfl, SlAt.nil⟩
  ·refine Exec.ifF rfl hb ?_
   refine xr rfl ?_
   refine Exec.drawsE tyOk [14] [] [(0, true), (1, true), (2, true), (3, true), (4, true), (5, true), (6, true), (7, true), (8, true), (9, true), (10, true)] (by kernel_rfl) ?_
   refine xr rfl ?_
   obtain ⟨q6, hF⟩ := req_some hF
   obtain ⟨c7, hr7, hd7⟩ := SlAt.get h2 q6
   obtain rfl := hr7
   refine Exec.fia tyOk rfl rfl rfl ⟨q6.1, q6.2, hd7.some⟩ ?_
   refine xr rfl ?_
   refine Exec.fld tyOk (x := .agg ⟨[.int .i64 ((atI x1.Parts x5).Id), .string ⟨⟨(atI x1.Parts x5).From⟩⟩, .int .i64 ((atI x1.Parts x5).Node), .int .i64 ((atI x1.Parts x5).Dest), .string ⟨⟨(atI x1.Parts x5).Done⟩⟩]⟩) rfl rfl rfl hd7 rfl rfl ?_
   refine xr rfl ?_
   obtain ⟨q8, hF⟩ := req_some hF
   obtain ⟨c9, hr9, hd9⟩ := SlAt.get h2 q8
   obtain rfl := hr9
   refine Exec.fia tyOk rfl rfl rfl ⟨q8.1, q8.2, hd9.some⟩ ?_
   refine xr rfl ?_
   refine Exec.fld tyOk (x := .agg ⟨[.int .i64 ((atI x1.Parts ((IntKind.i64.wrap (x5 + (1 : Int))))).Id), .string ⟨⟨(atI x1.Parts ((IntKind.i64.wrap (x5 + (1 : Int))))).From⟩⟩, .int .i64 ((atI x1.Parts ((IntKind.i64.wrap (x5 + (1 : Int))))).Node), .int .i64 ((atI x1.Parts ((IntKind.i64.wrap (x5 + (1 : Int))))).Dest), .string ⟨⟨(atI x1.Parts ((IntKind.i64.wrap (x5 + (1 : Int))))).Done⟩⟩]⟩) rfl rfl rfl hd9 rfl rfl ?_
   refine xr rfl ?_
   refine Exec.fork 11 12 [(12, false)] [(11, false)] [(13, false), (14, false)] (fun lr' L' V' M' => lr' = [] ∧ L' = [(2, .ptr 0 0), (4, .ptr 1 0), (6, .v (.int .i64 (x5))), (7, .ptr 2 0), (8, .ptr 3 0), (32, .v (.agg ⟨[.int .i64 ((atI x1.Parts x5).Id), .string ⟨⟨(atI x1.Parts x5).From⟩⟩, .int .i64 ((atI x1.Parts x5).Node), .int .i64 ((atI x1.Parts x5).Dest), .string ⟨⟨(atI x1.Parts x5).Done⟩⟩]⟩)), (38, .v (.agg ⟨[.int .i64 ((atI x1.Parts ((IntKind.i64.wrap (x5 + (1 : Int))))).Id), .string ⟨⟨(atI x1.Parts ((IntKind.i64.wrap (x5 + (1 : Int))))).From⟩⟩, .int .i64 ((atI x1.Parts ((IntKind.i64.wrap (x5 + (1 : Int))))).Node), .int .i64 ((atI x1.Parts ((IntKind.i64.wrap (x5 + (1 : Int))))).Dest), .string ⟨⟨(atI x1.Parts ((IntKind.i64.wrap (x5 + (1 : Int))))).Done⟩⟩]⟩))] ∧ M' = [.blk [.v (.int .i64 (x1.Version)), .v (.slice a2 ((x1.Parts).length) (k2))] 24, .blk [.v (.int .i64 (0)), .v (.slice none (0) (0))] 24, .blk [.v (.int .i64 (0)), .v (.string ⟨⟨[]⟩⟩), .v (.int .i64 (0)), .v (.int .i64 (0)), .v (.string ⟨⟨[]⟩⟩)] 60, .blk [.v (.int .i64 (0)), .v (.string ⟨⟨[]⟩⟩), .v (.int .i64 (0)), .v (.int .i64 (0)), .v (.string ⟨⟨[]⟩⟩)] 60] ∧ SlAt cTPart V' a2 k2 x1.Parts) 2 [true, true, true, true, true, true, true, true, true, true, true, true, true, false, false] rfl (by kernel_rfl) rfl rfl (by kernel_rfl) (by kernel_rfl) (by kernel_rfl) (by kernel_rfl) (fun join => ?_) (fun join => ?_) ?_
   ·refine xr rfl ?_
    exact join [0, 1, 2, 3] (lr' := []) (L' := [(2, .ptr 0 0), (4, .ptr 1 0), (6, .v (.int .i64 (x5))), (7, .ptr 2 0), (8, .ptr 3 0), (32, .v (.agg ⟨[.int .i64 ((atI x1.Parts x5).Id), .string ⟨⟨(atI x1.Parts x5).From⟩⟩, .int .i64 ((atI x1.Parts x5).Node), .int .i64 ((atI x1.Parts x5).Dest), .string ⟨⟨(atI x1.Parts x5).Done⟩⟩]⟩)), (38, .v (.agg ⟨[.int .i64 ((atI x1.Parts ((IntKind.i64.wrap (x5 + (1 : Int))))).Id), .string ⟨⟨(atI x1.Parts ((IntKind.i64.wrap (x5 + (1 : Int))))).From⟩⟩, .int .i64 ((atI x1.Parts ((IntKind.i64.wrap (x5 + (1 : Int))))).Node), .int .i64 ((atI x1.Parts ((IntKind.i64.wrap (x5 + (1 : Int))))).Dest), .string ⟨⟨(atI x1.Parts ((IntKind.i64.wrap (x5 + (1 : Int))))).Done⟩⟩]⟩))]) rfl rfl rfl rfl ⟨⟨_, rfl, rfl⟩, ⟨_, rfl, rfl⟩, ⟨_, rfl, rfl⟩, ⟨_, rfl, rfl⟩, ⟨_, rfl, rfl⟩, ⟨_, rfl, rfl⟩, ⟨_, rfl, rfl⟩, trivial⟩ trivial ⟨rfl, rfl, rfl, h2⟩
   ·refine xr rfl ?_
    exact join [0, 1, 3, 2] (lr' := []) (L' := [(2, .ptr 0 0), (4, .ptr 1 0), (6, .v (.int .i64 (x5))), (7, .ptr 2 0), (8, .ptr 3 0), (32, .v (.agg ⟨[.int .i64 ((atI x1.Parts x5).Id), .string ⟨⟨(atI x1.Parts x5).From⟩⟩, .int .i64 ((atI x1.Parts x5).Node), .int .i64 ((atI x1.Parts x5).Dest), .string ⟨⟨(atI x1.Parts x5).Done⟩⟩]⟩)), (38, .v (.agg ⟨[.int .i64 ((atI x1.Parts ((IntKind.i64.wrap (x5 + (1 : Int))))).Id), .string ⟨⟨(atI x1.Parts ((IntKind.i64.wrap (x5 + (1 : Int))))).From⟩⟩, .int .i64 ((atI x1.Parts ((IntKind.i64.wrap (x5 + (1 : Int))))).Node), .int .i64 ((atI x1.Parts ((IntKind.i64.wrap (x5 + (1 : Int))))).Dest), .string ⟨⟨(atI x1.Parts ((IntKind.i64.wrap (x5 + (1 : Int))))).Done⟩⟩]⟩))]) rfl rfl rfl rfl ⟨⟨_, rfl, rfl⟩, ⟨_, rfl, rfl⟩, ⟨_, rfl, rfl⟩, ⟨_, rfl, rfl⟩, ⟨_, rfl, rfl⟩, ⟨_, rfl, rfl⟩, ⟨_, rfl, rfl⟩, trivial⟩ trivial ⟨rfl, rfl, rfl, h2⟩
   rintro lr' L' VV10 M' ⟨rfl, rfl, rfl, h11⟩
   refine xr rfl ?_
   rcases cond_some hF with ⟨hb, hF⟩ | ⟨hb, hF⟩
   ·refine Exec.ifT rfl hb ?_
    refine xr rfl ?_
    obtain rfl := some_inj hF
    exact Exec.ret tyOk rfl rfl ⟨_, _, rfl, SlAt.nil⟩
   ·refine Exec.ifF rfl hb ?_
    refine xr rfl ?_
    rcases cond_some hF with ⟨hb, hF⟩ | ⟨hb, hF⟩
    ·refine Exec.ifT rfl hb ?_
     refine xr rfl ?_
     obtain rfl := some_inj hF
     exact Exec.ret tyOk rfl rfl ⟨_, _, rfl, SlAt.nil⟩
    ·refine Exec.ifF rfl hb ?_
     refine xr rfl ?_
     refine Exec.draws tyOk [(0, true), (1, true), (2, true), (3, true), (4, true), (6, true), (7, true), (8, true), (9, true), (5, false), (10, false), (11, false), (12, false), (13, false)] rfl (by kernel_rfl) ?_
     refine xr rfl ?_
     obtain ⟨q12, hF⟩ := req_some hF
     refine Exec.row0 60 5 rfl ?_
     refine Exec.callM 4 rfl rfl rfl rfl (W_slices_Clone_api_Part_api_Part x1.Parts h11 q12) ?_
     rintro VV13 _ _ hv13 ⟨a13, k13, cs13, rfl, rfl, h13⟩
     refine ⟨_, rfl, ?_⟩
     have h14 := SlAt.mono h11 hv13
     refine xr rfl ?_
     obtain ⟨q15, hF⟩ := req_some hF
     obtain ⟨q16, hF⟩ := req_some hF
     refine Exec.callM 4 rfl rfl rfl rfl (W_slices_Delete_api_Part_api_Part x1.Parts h13 q15 q16) ?_
     rintro VV17 _ _ hv17 ⟨cs17, rfl, rfl, h17⟩
     refine ⟨_, rfl, ?_⟩
     have h18 := SlAt.mono h14 hv17
     refine xr rfl ?_
     refine Exec.frz 4 rfl rfl rfl (fun V19 hv19 hd19 hn19 => ?_)
     have hz19 := RowRep.slat h17 hv19 hd19 hn19
     have h20 := SlAt.mono h18 hv19
     obtain rfl := some_inj hF
     exact Exec.ret tyOk rfl rfl ⟨_, _, rfl, hz19⟩
def F_migrate_Start (x1 : TPlacement) (x3 : Int) (x4 : Int) : Option (TPlacement × Int) :=
 (bnd (F_placement_Valid x1) fun x5 => (cond (((!x5) || (decide (x4 < (1 : Int)))) || (decide ((16 : Int) < x4))) (some ((⟨0, ([] : List TPart)⟩ : TPlacement), (1 : Int))) (bnd (F_migrate_find x1 x3) fun x6 => (cond (decide (x6 < (0 : Int))) (some ((⟨0, ([] : List TPart)⟩ : TPlacement), (9 : Int))) (req (0 ≤ x6 ∧ x6 < ((x1.Parts).length : Int)) (cond (((atI x1.Parts x6).Dest != (0 : Int)) || ((atI x1.Parts x6).Node == x4)) (some ((⟨0, ([] : List TPart)⟩ : TPlacement), (19 : Int))) (cond (x1.Version == (1099511627776 : Int)) (some ((⟨0, ([] : List TPart)⟩ : TPlacement), (2 : Int))) (bnd (F_migrate_changed x1 x6 ((⟨(atI x1.Parts x6).Id, (atI x1.Parts x6).From, (atI x1.Parts x6).Node, x4, (atI x1.Parts x6).From⟩ : TPart))) fun x9 => (some (x9, (0 : Int)))))))))))
theorem W_migrate_Start {V : View} (x1 : TPlacement) (x3 : Int) (x4 : Int) {a2 : Option Addr} {k2 : Nat} (h2 : SlAt cTPart V a2 k2 x1.Parts) {r : TPlacement × Int} (hF : F_migrate_Start x1 x3 x4 = some r) :
  Spec Tryz.prog 61 [.agg ⟨[.int .i64 (x1.Version), .slice a2 ((x1.Parts).length) (k2)]⟩, .int .i64 (x3), .int .i64 (x4)] V (fun V' v => ∃ (a14 : Option Addr) (k14 : Nat), v = .tuple ⟨[.agg ⟨[.int .i64 (r.1.Version), .slice a14 ((r.1.Parts).length) (k14)]⟩, .int .i64 (r.2)]⟩ ∧ SlAt cTPart V' a14 k14 r.1.Parts) := by
 unfold F_migrate_Start at hF
 refine Spec.enter (T := tyT) Tryz.func61 rfl (by kernel_rfl) rfl rfl rfl ?_
 refine xr rfl ?_
 obtain ⟨x5, hx5, hF⟩ := bnd_some hF
 refine Exec.callS (.bool (x5)) rfl rfl (W_placement_Valid x1 h2 hx5) ?_
 refine xr rfl ?_
 rcases cond_some hF with ⟨hb, hF⟩ | ⟨hb, hF⟩
 ·refine Exec.ifT rfl hb ?_
  refine xr rfl ?_
  obtain rfl := some_inj hF
  exact Exec.ret tyOk rfl rfl ⟨_, _, rfl, SlAt.nil⟩
 ·refine Exec.ifF rfl hb ?_
  refine xr rfl ?_
  obtain ⟨x6, hx6, hF⟩ := bnd_some hF
  refine Exec.callS (.int .i64 (x6)) rfl rfl (W_migrate_find x1 x3 h2 hx6) ?_
  refine xr rfl ?_
  rcases cond_some hF with ⟨hb, hF⟩ | ⟨hb, hF⟩
  ·refine Exec.ifT rfl hb ?_
   refine xr rfl ?_
   obtain rfl := some_inj hF
   exact Exec.ret tyOk rfl rfl ⟨_, _, rfl, SlAt.nil⟩
  ·refine Exec.ifF rfl hb ?_
   refine xr rfl ?_
   obtain ⟨q7, hF⟩ := req_some hF
   obtain ⟨c8, hr8, hd8⟩ := SlAt.get h2 q7
   obtain rfl := hr8
   refine Exec.ia tyOk rfl rfl ⟨q7.1, q7.2, hd8.some⟩ ?_
   refine xr rfl ?_
   refine Exec.ld tyOk (x := .agg ⟨[.int .i64 ((atI x1.Parts x6).Id), .string ⟨⟨(atI x1.Parts x6).From⟩⟩, .int .i64 ((atI x1.Parts x6).Node), .int .i64 ((atI x1.Parts x6).Dest), .string ⟨⟨(atI x1.Parts x6).Done⟩⟩]⟩) rfl rfl hd8 rfl rfl ?_
   refine xr rfl ?_
   rcases cond_some hF with ⟨hb, hF⟩ | ⟨hb, hF⟩
   ·refine Exec.ifT rfl hb ?_
    refine xr rfl ?_
    obtain rfl := some_inj hF
    exact Exec.ret tyOk rfl rfl ⟨_, _, rfl, SlAt.nil⟩
   ·refine Exec.ifF rfl hb ?_
    refine xr rfl ?_
    rcases cond_some hF with ⟨hb, hF⟩ | ⟨hb, hF⟩
    ·refine Exec.ifT rfl hb ?_
     refine xr rfl ?_
     obtain rfl := some_inj hF
     exact Exec.ret tyOk rfl rfl ⟨_, _, rfl, SlAt.nil⟩
    ·refine Exec.ifF rfl hb ?_
     refine xr rfl ?_
     obtain ⟨x9, hx9, hF⟩ := bnd_some hF
     refine Exec.call rfl rfl (W_migrate_changed x1 x6 ((⟨(atI x1.Parts x6).Id, (atI x1.Parts x6).From, (atI x1.Parts x6).Node, x4, (atI x1.Parts x6).From⟩ : TPart)) h2 hx9) ?_
     rintro V11 _ hv11 ⟨a10, k10, rfl, h10⟩
     have h12 := SlAt.mono h2 hv11
     refine xr rfl ?_
     obtain rfl := some_inj hF
     exact Exec.ret tyOk rfl rfl ⟨_, _, rfl, h10⟩
def F_state_sorted_L1 (x1 : List TPair) (J3 : Option Bool) : Nat → Int → Option Bool
 | 0, _ => none
 | n6 + 1, x5 => (cond (decide (x5 < (((x1).length : Nat) : Int))) (req (0 ≤ x5 ∧ x5 < ((x1).length : Int)) (bnd (F_keys_Valid ((atI x1 x5).Key)) fun x11 => (bnd (gcall (((!x11)) == false) (F_value_Valid ((⟨(atI x1 x5).Val.Kind, (atI x1 x5).Val.N, (atI x1 x5).Val.S⟩ : TValue)))) fun x12 => (req (((((decide ((0 : Int) < x5))) == true) && ((((!x11) || (!x12))) == false)) = true → 0 ≤ (IntKind.i64.wrap (x5 - (1 : Int))) ∧ (IntKind.i64.wrap (x5 - (1 : Int))) < ((x1).length : Int)) (cond (((!x11) || (!x12)) || ((decide ((0 : Int) < x5)) && (!sLt (cond ((((decide ((0 : Int) < x5))) == true) && ((((!x11) || (!x12))) == false)) (atI x1 ((IntKind.i64.wrap (x5 - (1 : Int))))) default).Key (atI x1 x5).Key))) (some false) (F_state_sorted_L1 x1 J3 n6 ((IntKind.i64.wrap (x5 + (1 : Int)))))))))) J3)
def F_state_sorted (x1 : List TPair) : Option Bool :=
 (jn ((some true)) (fun J3 => (F_state_sorted_L1 x1 J3 (((((x1).length : Nat) : Int)).toNat + 1) ((0 : Int)))))
theorem W_state_sorted {V : View} (x1 : List TPair) {a2 : Option Addr} {k2 : Nat} (h2 : SlAt cTPair V a2 k2 x1) {r : Bool} (hF : F_state_sorted x1 = some r) :
  Spec Tryz.prog 63 [.slice a2 ((x1).length) (k2)] V (fun _ v => v = .bool (r)) := by
 unfold F_state_sorted at hF
 refine Spec.enter (T := tyT) Tryz.func63 rfl (by kernel_rfl) rfl rfl rfl ?_
 refine Exec.run tyOk 11 rfl ?_
 obtain ⟨J3, hJ3, hF⟩ := jn_some hF
 refine Exec.seam (fun L' V' M' => L' = [] ∧ M' = [] ∧ J3 = some r) rfl ?_ ?_
 ·rintro L' V4 M' ⟨rfl, rfl, hF⟩
  subst hJ3
  refine xr rfl ?_
  obtain rfl := some_inj hF
  exact Exec.ret tyOk rfl rfl rfl
 ·refine xr rfl ?_
  refine Exec.loop (fun n6 L' V' M' => ∃ (x5 : Int), L' = [(0, .v (.slice a2 ((x1).length) (k2))), (5, .v (.slice a2 ((x1).length) (k2))), (6, .v (.int .i64 ((((x1).length : Nat) : Int)))), (7, .v (.int .i64 (x5)))] ∧ M' = [] ∧ SlAt cTPair V' a2 k2 x1 ∧ F_state_sorted_L1 x1 J3 n6 x5 = some r) ⟨(((((x1).length : Nat) : Int)).toNat + 1), [(0, .v (.slice a2 ((x1).length) (k2))), (5, .v (.slice a2 ((x1).length) (k2))), (6, .v (.int .i64 ((((x1).length : Nat) : Int)))), (7, .v (.int .i64 ((0 : Int))))], ⟨rfl, rfl, rfl, rfl, trivial⟩, (0 : Int), rfl, rfl, h2, hF⟩ ?_
  rintro n6 L' V7 M' ⟨x5, rfl, rfl, h8, hF⟩
  rcases n6 with _ | n6
  ·exact absurd hF (by simp [F_state_sorted_L1])
  rw [F_state_sorted_L1] at hF
  refine xr rfl ?_
  rcases cond_some hF with ⟨hb, hF⟩ | ⟨hb, hF⟩
  ·refine Exec.ifT rfl hb ?_
   refine xr rfl ?_
   obtain ⟨q9, hF⟩ := req_some hF
   obtain ⟨c10, hr10, hd10⟩ := SlAt.get h8 q9
   obtain rfl := hr10
   refine Exec.ia tyOk rfl rfl ⟨q9.1, q9.2, hd10.some⟩ ?_
   refine xr rfl ?_
   refine Exec.ld tyOk (x := .agg ⟨[.string ⟨⟨(atI x1 x5).Key⟩⟩, .int .i64 ((atI x1 x5).Val.Kind), .int .i64 ((atI x1 x5).Val.N), .string ⟨⟨(atI x1 x5).Val.S⟩⟩]⟩) rfl rfl hd10 rfl rfl ?_
   refine xr rfl ?_
   refine Exec.draws tyOk [(0, true), (1, true), (2, false), (3, false), (4, false), (5, false), (6, false), (7, false), (8, false), (9, false), (10, false), (11, false), (12, false), (13, false), (14, true), (15, true), (16, true), (17, true), (18, true), (19, true), (20, false), (21, false), (22, false), (23, false), (24, false)] rfl (by kernel_rfl) ?_
   refine xr rfl ?_
   obtain ⟨x11, hx11, hF⟩ := bnd_some hF
   refine Exec.callS (.bool (x11)) rfl rfl (W_keys_Valid ((atI x1 x5).Key)  hx11) ?_
   refine xr rfl ?_
   obtain ⟨x12, hx12, hF⟩ := bnd_some hF
   refine Exec.callS (.bool (x12)) rfl rfl (fun gg0 => W_value_Valid ((⟨(atI x1 x5).Val.Kind, (atI x1 x5).Val.N, (atI x1 x5).Val.S⟩ : TValue))  (gcall_some hx12 (gd1_of gg0))) ?_
   refine xr rfl ?_
   obtain ⟨q13, hF⟩ := req_some hF
   obtain ⟨c14, hr14, hd14⟩ := SlAt.gget ((((decide ((0 : Int) < x5))) == true) && ((((!x11) || (!x12))) == false)) h8 q13
   obtain rfl := hr14
   refine Exec.fia tyOk rfl rfl rfl (fun gg0 gg1 => ⟨(q13 (gd2_of gg0 gg1)).1, (q13 (gd2_of gg0 gg1)).2, (hd14 (gd2_of gg0 gg1)).some⟩) ?_
   refine xr rfl ?_
   refine Exec.fld tyOk (x := .string ⟨⟨(cond ((((decide ((0 : Int) < x5))) == true) && ((((!x11) || (!x12))) == false)) (atI x1 ((IntKind.i64.wrap (x5 - (1 : Int))))) default).Key⟩⟩) rfl rfl rfl (fun gg0 gg1 => (RdAt.part (hd14 (gd2_of gg0 gg1)) 0 1 rfl)) rfl rfl ?_
   refine xr rfl ?_
   rcases cond_some hF with ⟨hb, hF⟩ | ⟨hb, hF⟩
   ·refine Exec.ifT rfl hb ?_
    refine xr rfl ?_
    obtain rfl := some_inj hF
    exact Exec.ret tyOk rfl rfl rfl
   ·refine Exec.ifF rfl hb ?_
    refine xr rfl ?_
    refine Exec.cut 0 [(0, .v (.slice a2 ((x1).length) (k2))), (5, .v (.slice a2 ((x1).length) (k2))), (6, .v (.int .i64 ((((x1).length : Nat) : Int)))), (7, .v (.int .i64 ((IntKind.i64.wrap (x5 + (1 : Int))))))] (M' := []) rfl ⟨rfl, rfl, rfl, rfl, trivial⟩ rfl rfl rfl ?_
    exact Exec.round [(0, .v (.slice a2 ((x1).length) (k2))), (5, .v (.slice a2 ((x1).length) (k2))), (6, .v (.int .i64 ((((x1).length : Nat) : Int)))), (7, .v (.int .i64 ((IntKind.i64.wrap (x5 + (1 : Int))))))] ⟨rfl, rfl, rfl, rfl, trivial⟩ ⟨n6, Nat.lt_succ_self _, (IntKind.i64.wrap (x5 + (1 : Int))), rfl, rfl, h8, hF⟩
  ·refine Exec.ifF rfl hb ?_
   refine xr rfl ?_
   exact Exec.round [] trivial ⟨rfl, rfl, hF⟩
def F_clockworkref29_Owner (x1 : TPlacement) (x3 : Str) : Option Int :=
 (bnd (F_clockworkref29_Index x1 x3) fun x4 => (cond (decide (x4 < (0 : Int))) (some (0 : Int)) (req (0 ≤ x4 ∧ x4 < ((x1.Parts).length : Int)) (req (((((atI x1.Parts x4).Dest != (0 : Int))) == true) = true → 0 ≤ x4 ∧ x4 < ((x1.Parts).length : Int)) (cond (((atI x1.Parts x4).Dest != (0 : Int)) && (sLt x3 (cond ((((atI x1.Parts x4).Dest != (0 : Int))) == true) (atI x1.Parts x4) default).Done)) (req (0 ≤ x4 ∧ x4 < ((x1.Parts).length : Int)) (some (atI x1.Parts x4).Dest)) (req (0 ≤ x4 ∧ x4 < ((x1.Parts).length : Int)) (some (atI x1.Parts x4).Node)))))))
theorem W_clockworkref29_Owner {V : View} (x1 : TPlacement) (x3 : Str) {a2 : Option Addr} {k2 : Nat} (h2 : SlAt cTPart V a2 k2 x1.Parts) {r : Int} (hF : F_clockworkref29_Owner x1 x3 = some r) :
  Spec Tryz.prog 79 [.agg ⟨[.int .i64 (x1.Version), .slice a2 ((x1.Parts).length) (k2)]⟩, .string ⟨⟨x3⟩⟩] V (fun _ v => v = .int .i64 (r)) := by
 unfold F_clockworkref29_Owner at hF
 refine Spec.enter (T := tyT) Tryz.func79 rfl (by kernel_rfl) rfl rfl rfl ?_
 refine xr rfl ?_
 obtain ⟨x4, hx4, hF⟩ := bnd_some hF
 refine Exec.callS (.int .i64 (x4)) rfl rfl (W_clockworkref29_Index x1 x3 h2 hx4) ?_
 refine xr rfl ?_
 rcases cond_some hF with ⟨hb, hF⟩ | ⟨hb, hF⟩
 ·refine Exec.ifT rfl hb ?_
  refine xr rfl ?_
  obtain rfl := some_inj hF
  exact Exec.ret tyOk rfl rfl rfl
 ·refine Exec.ifF rfl hb ?_
  refine xr rfl ?_
  obtain ⟨q5, hF⟩ := req_some hF
  obtain ⟨c6, hr6, hd6⟩ := SlAt.get h2 q5
  obtain rfl := hr6
  refine Exec.ia tyOk rfl rfl ⟨q5.1, q5.2, hd6.some⟩ ?_
  refine xr rfl ?_
  refine Exec.ld tyOk (x := .int .i64 ((atI x1.Parts x4).Dest)) rfl rfl (RdAt.part hd6 3 1 rfl) rfl rfl ?_
  refine xr rfl ?_
  obtain ⟨q7, hF⟩ := req_some hF
  obtain ⟨c8, hr8, hd8⟩ := SlAt.gget ((((atI x1.Parts x4).Dest != (0 : Int))) == true) h2 q7
  obtain rfl := hr8
  refine Exec.ia tyOk rfl rfl (fun gg0 => ⟨(q7 (gd1_of gg0)).1, (q7 (gd1_of gg0)).2, (hd8 (gd1_of gg0)).some⟩) ?_
  refine xr rfl ?_
  refine Exec.ld tyOk (x := .string ⟨⟨(cond ((((atI x1.Parts x4).Dest != (0 : Int))) == true) (atI x1.Parts x4) default).Done⟩⟩) rfl rfl (fun gg0 => (RdAt.part (hd8 (gd1_of gg0)) 4 1 rfl)) rfl rfl ?_
  refine xr rfl ?_
  rcases cond_some hF with ⟨hb, hF⟩ | ⟨hb, hF⟩
  ·refine Exec.ifT rfl hb ?_
   refine xr rfl ?_
   obtain ⟨q9, hF⟩ := req_some hF
   obtain ⟨c10, hr10, hd10⟩ := SlAt.get h2 q9
   obtain rfl := hr10
   refine Exec.ia tyOk rfl rfl ⟨q9.1, q9.2, hd10.some⟩ ?_
   refine xr rfl ?_
   refine Exec.ld tyOk (x := .int .i64 ((atI x1.Parts x4).Dest)) rfl rfl (RdAt.part hd10 3 1 rfl) rfl rfl ?_
   refine xr rfl ?_
   obtain rfl := some_inj hF
   exact Exec.ret tyOk rfl rfl rfl
  ·refine Exec.ifF rfl hb ?_
   refine xr rfl ?_
   obtain ⟨q11, hF⟩ := req_some hF
   obtain ⟨c12, hr12, hd12⟩ := SlAt.get h2 q11
   obtain rfl := hr12
   refine Exec.ia tyOk rfl rfl ⟨q11.1, q11.2, hd12.some⟩ ?_
   refine xr rfl ?_
   refine Exec.ld tyOk (x := .int .i64 ((atI x1.Parts x4).Node)) rfl rfl (RdAt.part hd12 2 1 rfl) rfl rfl ?_
   refine xr rfl ?_
   obtain rfl := some_inj hF
   exact Exec.ret tyOk rfl rfl rfl
def F_rebalance_advice_key_L1 (x1 : Tadvice) (x7 : Int) (J9 : Option Str) : Nat → Int → Int → Option Str
 | 0, _, _ => none
 | n13 + 1, x11, x12 => (cond (decide (x12 < (((x1.state).length : Nat) : Int))) (jn (fun (x20 : Int) => (F_rebalance_advice_key_L1 x1 x7 J9 n13 x20 ((IntKind.i64.wrap (x12 + (1 : Int)))))) (fun J21 => (req (0 ≤ x12 ∧ x12 < ((x1.state).length : Int)) (bnd (F_placement_Index ((⟨x1.p.Version, x1.p.Parts⟩ : TPlacement)) ((atI x1.state x12).Key)) fun x30 => (cond (x30 != x7) (J21 x11) (cond (x11 == (0 : Int)) (some (atI x1.state x12).Key) (J21 ((IntKind.i64.wrap (x11 - (1 : Int))))))))))) J9)
def F_rebalance_advice_key (x1 : Tadvice) (x7 : Int) (x8 : Int) : Option Str :=
 (jn ((some ([] : Str))) (fun J9 => (F_rebalance_advice_key_L1 x1 x7 J9 (((((x1.state).length : Nat) : Int)).toNat + 1) x8 ((0 : Int)))))
theorem W_rebalance_advice_key {V : View} (x1 : Tadvice) (x7 : Int) (x8 : Int) {a2 : Option Addr} {k2 : Nat} {a3 : Option Addr} {k3 : Nat} {a4 : Option Addr} {k4 : Nat} {a5 : Option Addr} {k5 : Nat} {a6 : Option Addr} {k6 : Nat} (h2 : SlAt cTPart V a2 k2 x1.p.Parts) (h3 : SlAt cTPair V a3 k3 x1.state) (h4 : SlAt (cInt .i64) V a4 k4 x1.sizes) (h5 : SlAt (cInt .i64) V a5 k5 x1.loads) (h6 : SlAt cStr V a6 k6 x1.hot) {r : Str} (hF : F_rebalance_advice_key x1 x7 x8 = some r) :
  Spec Tryz.prog 93 [.agg ⟨[.int .i64 (x1.p.Version), .slice a2 ((x1.p.Parts).length) (k2), .slice a3 ((x1.state).length) (k3), .slice a4 ((x1.sizes).length) (k4), .slice a5 ((x1.loads).length) (k5), .slice a6 ((x1.hot).length) (k6), .int .i64 (x1.fresh)]⟩, .int .i64 (x7), .int .i64 (x8)] V (fun _ v => v = .string ⟨⟨r⟩⟩) := by
 unfold F_rebalance_advice_key at hF
 refine Spec.enter (T := tyT) Tryz.func93 rfl (by kernel_rfl) rfl rfl rfl ?_
 refine Exec.run tyOk 13 rfl ?_
 obtain ⟨J9, hJ9, hF⟩ := jn_some hF
 refine Exec.seam (fun L' V' M' => L' = [] ∧ M' = [] ∧ J9 = some r) rfl ?_ ?_
 ·rintro L' V10 M' ⟨rfl, rfl, hF⟩
  subst hJ9
  refine xr rfl ?_
  obtain rfl := some_inj hF
  exact Exec.ret tyOk rfl rfl rfl
 ·refine xr rfl ?_
  refine Exec.loop (fun n13 L' V' M' => ∃ (x11 : Int) (x12 : Int), L' = [(1, .v (.int .i64 (x7))), (2, .v (.int .i64 (x11))), (3, .ptr 0 0), (10, .v (.slice a3 ((x1.state).length) (k3))), (11, .v (.int .i64 ((((x1.state).length : Nat) : Int)))), (12, .v (.int .i64 (x12)))] ∧ M' = [.blk [.v (.int .i64 (x1.p.Version)), .v (.slice a2 ((x1.p.Parts).length) (k2)), .v (.slice a3 ((x1.state).length) (k3)), .v (.slice a4 ((x1.sizes).length) (k4)), .v (.slice a5 ((x1.loads).length) (k5)), .v (.slice a6 ((x1.hot).length) (k6)), .v (.int .i64 (x1.fresh))] 89] ∧ SlAt cTPair V' a3 k3 x1.state ∧ SlAt cTPart V' a2 k2 x1.p.Parts ∧ SlAt (cInt .i64) V' a4 k4 x1.sizes ∧ SlAt (cInt .i64) V' a5 k5 x1.loads ∧ SlAt cStr V' a6 k6 x1.hot ∧ F_rebalance_advice_key_L1 x1 x7 J9 n13 x11 x12 = some r) ⟨(((((x1.state).length : Nat) : Int)).toNat + 1), [(1, .v (.int .i64 (x7))), (2, .v (.int .i64 (x8))), (3, .ptr 0 0), (10, .v (.slice a3 ((x1.state).length) (k3))), (11, .v (.int .i64 ((((x1.state).length : Nat) : Int)))), (12, .v (.int .i64 ((0 : Int))))], ⟨rfl, rfl, rfl, rfl, rfl, rfl, trivial⟩, x8, (0 : Int), rfl, rfl, h3, h2, h4, h5, h6, hF⟩ ?_
  rintro n13 L' V14 M' ⟨x11, x12, rfl, rfl, h15, h16, h17, h18, h19, hF⟩
  rcases n13 with _ | n13
  ·exact absurd hF (by simp [F_rebalance_advice_key_L1])
  rw [F_rebalance_advice_key_L1] at hF
  refine xr rfl ?_
  rcases cond_some hF with ⟨hb, hF⟩ | ⟨hb, hF⟩
  ·refine Exec.ifT rfl hb ?_
   refine Exec.run tyOk 2 rfl ?_
   obtain ⟨J21, hJ21, hF⟩ := jn_some hF
   refine Exec.seam (fun L' V' M' => ∃ (x20 : Int), L' = [(1, .v (.int .i64 (x7))), (2, .v (.int .i64 (x20))), (3, .ptr 0 0), (10, .v (.slice a3 ((x1.state).length) (k3))), (11, .v (.int .i64 ((((x1.state).length : Nat) : Int)))), (12, .v (.int .i64 (x12)))] ∧ M' = [.blk [.v (.int .i64 (x1.p.Version)), .v (.slice a2 ((x1.p.Parts).length) (k2)), .v (.slice a3 ((x1.state).length) (k3)), .v (.slice a4 ((x1.sizes).length) (k4)), .v (.slice a5 ((x1.loads).length) (k5)), .v (.slice a6 ((x1.hot).length) (k6)), .v (.int .i64 (x1.fresh))] 89] ∧ SlAt cTPair V' a3 k3 x1.state ∧ SlAt cTPart V' a2 k2 x1.p.Parts ∧ SlAt (cInt .i64) V' a4 k4 x1.sizes ∧ SlAt (cInt .i64) V' a5 k5 x1.loads ∧ SlAt cStr V' a6 k6 x1.hot ∧ J21 x20 = some r) rfl ?_ ?_
   ·rintro L' V22 M' ⟨x20, rfl, rfl, h23, h24, h25, h26, h27, hF⟩
    subst hJ21
    refine xr rfl ?_
    exact Exec.round [(1, .v (.int .i64 (x7))), (2, .v (.int .i64 (x20))), (3, .ptr 0 0), (10, .v (.slice a3 ((x1.state).length) (k3))), (11, .v (.int .i64 ((((x1.state).length : Nat) : Int)))), (12, .v (.int .i64 ((IntKind.i64.wrap (x12 + (1 : Int))))))] ⟨rfl, rfl, rfl, rfl, rfl, rfl, trivial⟩ ⟨n13, Nat.lt_succ_self _, x20, (IntKind.i64.wrap (x12 + (1 : Int))), rfl, rfl, h23, h24, h25, h26, h27, hF⟩
   ·refine xr rfl ?_
    obtain ⟨q28, hF⟩ := req_some hF
    obtain ⟨c29, hr29, hd29⟩ := SlAt.get h15 q28
    obtain rfl := hr29
    refine Exec.ia tyOk rfl rfl ⟨q28.1, q28.2, hd29.some⟩ ?_
    refine xr rfl ?_
    refine Exec.ld tyOk (x := .agg ⟨[.string ⟨⟨(atI x1.state x12).Key⟩⟩, .int .i64 ((atI x1.state x12).Val.Kind), .int .i64 ((atI x1.state x12).Val.N), .string ⟨⟨(atI x1.state x12).Val.S⟩⟩]⟩) rfl rfl hd29 rfl rfl ?_
    refine xr rfl ?_
    obtain ⟨x30, hx30, hF⟩ := bnd_some hF
    refine Exec.callS (.int .i64 (x30)) rfl rfl (W_placement_Index ((⟨x1.p.Version, x1.p.Parts⟩ : TPlacement)) ((atI x1.state x12).Key) h16 hx30) ?_
    refine xr rfl ?_
    rcases cond_some hF with ⟨hb, hF⟩ | ⟨hb, hF⟩
    ·refine Exec.ifT rfl hb ?_
     refine xr rfl ?_
     refine Exec.cut 1 [(1, .v (.int .i64 (x7))), (2, .v (.int .i64 (x11))), (3, .ptr 0 0), (10, .v (.slice a3 ((x1.state).length) (k3))), (11, .v (.int .i64 ((((x1.state).length : Nat) : Int)))), (12, .v (.int .i64 (x12)))] (M' := [.blk [.v (.int .i64 (x1.p.Version)), .v (.slice a2 ((x1.p.Parts).length) (k2)), .v (.slice a3 ((x1.state).length) (k3)), .v (.slice a4 ((x1.sizes).length) (k4)), .v (.slice a5 ((x1.loads).length) (k5)), .v (.slice a6 ((x1.hot).length) (k6)), .v (.int .i64 (x1.fresh))] 89]) rfl ⟨rfl, rfl, rfl, rfl, rfl, rfl, trivial⟩ rfl rfl rfl ?_
     exact Exec.round [(1, .v (.int .i64 (x7))), (2, .v (.int .i64 (x11))), (3, .ptr 0 0), (10, .v (.slice a3 ((x1.state).length) (k3))), (11, .v (.int .i64 ((((x1.state).length : Nat) : Int)))), (12, .v (.int .i64 (x12)))] ⟨rfl, rfl, rfl, rfl, rfl, rfl, trivial⟩ ⟨x11, rfl, rfl, h15, h16, h17, h18, h19, hF⟩
    ·refine Exec.ifF rfl hb ?_
     refine xr rfl ?_
     rcases cond_some hF with ⟨hb, hF⟩ | ⟨hb, hF⟩
     ·refine Exec.ifT rfl hb ?_
      refine xr rfl ?_
      obtain rfl := some_inj hF
      exact Exec.ret tyOk rfl rfl rfl
     ·refine Exec.ifF rfl hb ?_
      refine xr rfl ?_
      refine Exec.cut 1 [(1, .v (.int .i64 (x7))), (2, .v (.int .i64 ((IntKind.i64.wrap (x11 - (1 : Int)))))), (3, .ptr 0 0), (10, .v (.slice a3 ((x1.state).length) (k3))), (11, .v (.int .i64 ((((x1.state).length : Nat) : Int)))), (12, .v (.int .i64 (x12)))] (M' := [.blk [.v (.int .i64 (x1.p.Version)), .v (.slice a2 ((x1.p.Parts).length) (k2)), .v (.slice a3 ((x1.state).length) (k3)), .v (.slice a4 ((x1.sizes).length) (k4)), .v (.slice a5 ((x1.loads).length) (k5)), .v (.slice a6 ((x1.hot).length) (k6)), .v (.int .i64 (x1.fresh))] 89]) rfl ⟨rfl, rfl, rfl, rfl, rfl, rfl, trivial⟩ rfl rfl rfl ?_
      exact Exec.round [(1, .v (.int .i64 (x7))), (2, .v (.int .i64 ((IntKind.i64.wrap (x11 - (1 : Int)))))), (3, .ptr 0 0), (10, .v (.slice a3 ((x1.state).length) (k3))), (11, .v (.int .i64 ((((x1.state).length : Nat) : Int)))), (12, .v (.int .i64 (x12)))] ⟨rfl, rfl, rfl, rfl, rfl, rfl, trivial⟩ ⟨(IntKind.i64.wrap (x11 - (1 : Int))), rfl, rfl, h15, h16, h17, h18, h19, hF⟩
  ·refine Exec.ifF rfl hb ?_
   refine xr rfl ?_
   refine Exec.cut 0 [] (M' := []) rfl trivial rfl rfl rfl ?_
   exact Exec.round [] trivial ⟨rfl, rfl, hF⟩
def F_clockworkref35_keys_L1 (x3 : List TPair) (x1 : TPlacement) (x5 : Int) (J9 : (List Str) → Option (List Str)) : Nat → (List Str) → Int → Option (List Str)
 | 0, _, _ => none
 | n17 + 1, x15, x16 => (cond (decide (x16 < (((x3).length : Nat) : Int))) (req (0 ≤ x16 ∧ x16 < ((x3).length : Int)) (bnd (F_clockworkref29_Index x1 ((atI x3 x16).Key)) fun x23 => (jn (fun (x25 : List Str) => (F_clockworkref35_keys_L1 x3 x1 x5 J9 n17 x25 ((IntKind.i64.wrap (x16 + (1 : Int)))))) (fun J26 => (cond (x23 == x5) (req (0 ≤ x16 ∧ x16 < ((x3).length : Int)) (req (((x15 ++ [(atI x3 x16).Key])).length * 16 ≤ 140737488355328) (J26 ((x15 ++ [(atI x3 x16).Key]))))) (J26 x15)))))) (J9 x15))
def F_clockworkref35_keys (x1 : TPlacement) (x3 : List TPair) (x5 : Int) : Option (List Str) :=
 (jn (fun (x8 : List Str) => (some x8)) (fun J9 => (F_clockworkref35_keys_L1 x3 x1 x5 J9 (((((x3).length : Nat) : Int)).toNat + 1) (([] : List Str)) ((0 : Int)))))
theorem W_clockworkref35_keys {V : View} (x1 : TPlacement) (x3 : List TPair) (x5 : Int) {a2 : Option Addr} {k2 : Nat} {a4 : Option Addr} {k4 : Nat} (h2 : SlAt cTPart V a2 k2 x1.Parts) (h4 : SlAt cTPair V a4 k4 x3) {r : List Str} (hF : F_clockworkref35_keys x1 x3 x5 = some r) :
  Spec Tryz.prog 94 [.agg ⟨[.int .i64 (x1.Version), .slice a2 ((x1.Parts).length) (k2)]⟩, .slice a4 ((x3).length) (k4), .int .i64 (x5)] V (fun V' v => ∃ (a34 : Option Addr) (k34 : Nat), v = .slice a34 ((r).length) (k34) ∧ SlAt cStr V' a34 k34 r) := by
 unfold F_clockworkref35_keys at hF
 refine Spec.enter (T := tyT) Tryz.func94 rfl (by kernel_rfl) rfl rfl rfl ?_
 refine Exec.run tyOk 14 rfl ?_
 refine Exec.row0 9 1 rfl ?_
 have h6 : RowRep cStr V ([] : List Str) [] := RowRep.nil
 obtain ⟨J9, hJ9, hF⟩ := jn_some hF
 refine Exec.seam (fun L' V' M' => ∃ (x8 : List Str) (a7 : Option Addr) (k7 : Nat) (cs7 : List Value), L' = [(7, .v (.slice a7 ((x8).length) (k7)))] ∧ M' = [.blk [.v (.int .i64 (x1.Version)), .v (.slice a2 ((x1.Parts).length) (k2))] 24, .row (.slice a7 ((x8).length) (k7)) cs7 9 1] ∧ RowRep cStr V' x8 cs7 ∧ SlAt cTPart V' a2 k2 x1.Parts ∧ J9 x8 = some r) rfl ?_ ?_
 ·rintro L' V10 M' ⟨x8, a7, k7, cs7, rfl, rfl, h7, h11, hF⟩
  subst hJ9
  refine xr rfl ?_
  refine Exec.frz 1 rfl rfl rfl (fun V12 hv12 hd12 hn12 => ?_)
  have hz12 := RowRep.slat h7 hv12 hd12 hn12
  have h13 := SlAt.mono h11 hv12
  obtain rfl := some_inj hF
  exact Exec.ret tyOk rfl rfl ⟨_, _, rfl, hz12⟩
 ·refine xr rfl ?_
  refine Exec.loop (fun n17 L' V' M' => ∃ (x15 : List Str) (a14 : Option Addr) (k14 : Nat) (cs14 : List Value) (x16 : Int), L' = [(1, .v (.slice a4 ((x3).length) (k4))), (2, .v (.int .i64 (x5))), (3, .ptr 0 0), (7, .v (.slice a14 ((x15).length) (k14))), (8, .v (.int .i64 (x16)))] ∧ M' = [.blk [.v (.int .i64 (x1.Version)), .v (.slice a2 ((x1.Parts).length) (k2))] 24, .row (.slice a14 ((x15).length) (k14)) cs14 9 1] ∧ RowRep cStr V' x15 cs14 ∧ SlAt cTPair V' a4 k4 x3 ∧ SlAt cTPart V' a2 k2 x1.Parts ∧ F_clockworkref35_keys_L1 x3 x1 x5 J9 n17 x15 x16 = some r) ⟨(((((x3).length : Nat) : Int)).toNat + 1), [(1, .v (.slice a4 ((x3).length) (k4))), (2, .v (.int .i64 (x5))), (3, .ptr 0 0), (7, .v (.slice none ((([] : List Str)).length) (0))), (8, .v (.int .i64 ((0 : Int))))], ⟨rfl, rfl, rfl, rfl, rfl, trivial⟩, ([] : List Str), none, 0, [], (0 : Int), rfl, rfl, h6, h4, h2, hF⟩ ?_
  rintro n17 L' V18 M' ⟨x15, a14, k14, cs14, x16, rfl, rfl, h14, h19, h20, hF⟩
  rcases n17 with _ | n17
  ·exact absurd hF (by simp [F_clockworkref35_keys_L1])
  rw [F_clockworkref35_keys_L1] at hF
  refine xr rfl ?_
  rcases cond_some hF with ⟨hb, hF⟩ | ⟨hb, hF⟩
  ·refine Exec.ifT rfl hb ?_
   refine xr rfl ?_
   refine Exec.draws tyOk [(0, true), (1, true), (2, true), (3, true), (4, true), (5, true), (7, true), (6, false), (8, false)] rfl (by kernel_rfl) ?_
   refine xr rfl ?_
   obtain ⟨q21, hF⟩ := req_some hF
   obtain ⟨c22, hr22, hd22⟩ := SlAt.get h19 q21
   obtain rfl := hr22
   refine Exec.fia tyOk rfl rfl rfl ⟨q21.1, q21.2, hd22.some⟩ ?_
   refine xr rfl ?_
   refine Exec.fld tyOk (x := .string ⟨⟨(atI x3 x16).Key⟩⟩) rfl rfl rfl (RdAt.part hd22 0 1 rfl) rfl rfl ?_
   refine xr rfl ?_
   obtain ⟨x23, hx23, hF⟩ := bnd_some hF
   refine Exec.callS (.int .i64 (x23)) rfl rfl (W_clockworkref29_Index x1 ((atI x3 x16).Key) h20 hx23) ?_
   refine xr rfl ?_
   obtain ⟨J26, hJ26, hF⟩ := jn_some hF
   refine Exec.seam (fun L' V' M' => ∃ (x25 : List Str) (a24 : Option Addr) (k24 : Nat) (cs24 : List Value), L' = [(1, .v (.slice a4 ((x3).length) (k4))), (2, .v (.int .i64 (x5))), (3, .ptr 0 0), (7, .v (.slice a24 ((x25).length) (k24))), (8, .v (.int .i64 (x16)))] ∧ M' = [.blk [.v (.int .i64 (x1.Version)), .v (.slice a2 ((x1.Parts).length) (k2))] 24, .row (.slice a24 ((x25).length) (k24)) cs24 9 1] ∧ RowRep cStr V' x25 cs24 ∧ SlAt cTPair V' a4 k4 x3 ∧ SlAt cTPart V' a2 k2 x1.Parts ∧ J26 x25 = some r) rfl ?_ ?_
   ·rintro L' V27 M' ⟨x25, a24, k24, cs24, rfl, rfl, h24, h28, h29, hF⟩
    subst hJ26
    refine xr rfl ?_
    exact Exec.round [(1, .v (.slice a4 ((x3).length) (k4))), (2, .v (.int .i64 (x5))), (3, .ptr 0 0), (7, .v (.slice a24 ((x25).length) (k24))), (8, .v (.int .i64 ((IntKind.i64.wrap (x16 + (1 : Int))))))] ⟨rfl, rfl, rfl, rfl, rfl, trivial⟩ ⟨n17, Nat.lt_succ_self _, x25, a24, k24, cs24, (IntKind.i64.wrap (x16 + (1 : Int))), rfl, rfl, h24, h28, h29, hF⟩
   ·refine xr rfl ?_
    rcases cond_some hF with ⟨hb, hF⟩ | ⟨hb, hF⟩
    ·refine Exec.ifT rfl hb ?_
     refine xr rfl ?_
     obtain ⟨q30, hF⟩ := req_some hF
     obtain ⟨c31, hr31, hd31⟩ := SlAt.get h19 q30
     obtain rfl := hr31
     refine Exec.ia tyOk rfl rfl ⟨q30.1, q30.2, hd31.some⟩ ?_
     refine xr rfl ?_
     refine Exec.ld tyOk (x := .string ⟨⟨(atI x3 x16).Key⟩⟩) rfl rfl (RdAt.part hd31 0 1 rfl) rfl rfl ?_
     refine xr rfl ?_
     refine Exec.bsl tyOk rfl rfl ?_
     refine xr rfl ?_
     obtain ⟨q33, hF⟩ := req_some hF
     refine Exec.app tyOk 1 2 (nm := ((x15 ++ [(atI x3 x16).Key])).length) rfl rfl rfl rfl rfl rfl rfl rfl rfl (by simp) (fun _ _ => rfl) rfl q33 (fun a32 k32 => ?_)
     have h32 : RowRep cStr V18 (x15 ++ [(atI x3 x16).Key]) (cs14 ++ [.string ⟨⟨(atI x3 x16).Key⟩⟩]) := RowRep.app h14 ⟨_, _, rfl, rfl, rfl⟩
     refine xr rfl ?_
     refine Exec.cut 2 [(1, .v (.slice a4 ((x3).length) (k4))), (2, .v (.int .i64 (x5))), (3, .ptr 0 0), (7, .v (.slice a32 (((x15 ++ [(atI x3 x16).Key])).length) (k32))), (8, .v (.int .i64 (x16)))] (M' := [.blk [.v (.int .i64 (x1.Version)), .v (.slice a2 ((x1.Parts).length) (k2))] 24, .row (.slice a32 (((x15 ++ [(atI x3 x16).Key])).length) (k32)) ((cs14 ++ [.string ⟨⟨(atI x3 x16).Key⟩⟩])) 9 1]) rfl ⟨rfl, rfl, rfl, rfl, rfl, trivial⟩ rfl rfl rfl ?_
     exact Exec.round [(1, .v (.slice a4 ((x3).length) (k4))), (2, .v (.int .i64 (x5))), (3, .ptr 0 0), (7, .v (.slice a32 (((x15 ++ [(atI x3 x16).Key])).length) (k32))), (8, .v (.int .i64 (x16)))] ⟨rfl, rfl, rfl, rfl, rfl, trivial⟩ ⟨(x15 ++ [(atI x3 x16).Key]), a32, k32, (cs14 ++ [.string ⟨⟨(atI x3 x16).Key⟩⟩]), rfl, rfl, h32, h19, h20, hF⟩
    ·refine Exec.ifF rfl hb ?_
     refine xr rfl ?_
     exact Exec.round [(1, .v (.slice a4 ((x3).length) (k4))), (2, .v (.int .i64 (x5))), (3, .ptr 0 0), (7, .v (.slice a14 ((x15).length) (k14))), (8, .v (.int .i64 (x16)))] ⟨rfl, rfl, rfl, rfl, rfl, trivial⟩ ⟨x15, a14, k14, cs14, rfl, rfl, h14, h19, h20, hF⟩
  ·refine Exec.ifF rfl hb ?_
   refine xr rfl ?_
   exact Exec.round [(7, .v (.slice a14 ((x15).length) (k14)))] ⟨rfl, trivial⟩ ⟨x15, a14, k14, cs14, rfl, rfl, h14, h20, hF⟩
def F_placement_Range (x1 : TPlacement) (x3 : Int) : Option (TRange × Int) :=
 (bnd (F_placement_Valid x1) fun x4 => (cond (!x4) (some ((⟨[], []⟩ : TRange), (1 : Int))) (bnd (F_placement_find x1.Parts x3) fun x5 => (cond (decide (x5 < (0 : Int))) (some ((⟨[], []⟩ : TRange), (9 : Int))) (req (0 ≤ x5 ∧ x5 < ((x1.Parts).length : Int)) (jn (fun (x8 : TRange) => (some (x8, (0 : Int)))) (fun J9 => (cond (decide ((IntKind.i64.wrap (x5 + (1 : Int))) < (((x1.Parts).length : Nat) : Int))) (req (0 ≤ (IntKind.i64.wrap (x5 + (1 : Int))) ∧ (IntKind.i64.wrap (x5 + (1 : Int))) < ((x1.Parts).length : Int)) (J9 ((⟨(atI x1.Parts x5).From, (atI x1.Parts ((IntKind.i64.wrap (x5 + (1 : Int))))).From⟩ : TRange)))) (J9 ((⟨(atI x1.Parts x5).From, []⟩ : TRange)))))))))))
theorem W_placement_Range {V : View} (x1 : TPlacement) (x3 : Int) {a2 : Option Addr} {k2 : Nat} (h2 : SlAt cTPart V a2 k2 x1.Parts) {r : TRange × Int} (hF : F_placement_Range x1 x3 = some r) :
  Spec Tryz.prog 105 [.agg ⟨[.int .i64 (x1.Version), .slice a2 ((x1.Parts).length) (k2)]⟩, .int .i64 (x3)] V (fun _ v => v = .tuple ⟨[.agg ⟨[.string ⟨⟨r.1.From⟩⟩, .string ⟨⟨r.1.To⟩⟩]⟩, .int .i64 (r.2)]⟩) := by
 unfold F_placement_Range at hF
 refine Spec.enter (T := tyT) Tryz.func105 rfl (by kernel_rfl) rfl rfl rfl ?_
 refine xr rfl ?_
 obtain ⟨x4, hx4, hF⟩ := bnd_some hF
 refine Exec.callS (.bool (x4)) rfl rfl (W_placement_Valid x1 h2 hx4) ?_
 refine xr rfl ?_
 rcases cond_some hF with ⟨hb, hF⟩ | ⟨hb, hF⟩
 ·refine Exec.ifT rfl hb ?_
  refine xr rfl ?_
  obtain rfl := some_inj hF
  exact Exec.ret tyOk rfl rfl rfl
 ·refine Exec.ifF rfl hb ?_
  refine xr rfl ?_
  obtain ⟨x5, hx5, hF⟩ := bnd_some hF
  refine Exec.callS (.int .i64 (x5)) rfl rfl (W_placement_find x1.Parts x3 h2 hx5) ?_
  refine xr rfl ?_
  rcases cond_some hF with ⟨hb, hF⟩ | ⟨hb, hF⟩
  ·refine Exec.ifT rfl hb ?_
   refine xr rfl ?_
   obtain rfl := some_inj hF
   exact Exec.ret tyOk rfl rfl rfl
  ·refine Exec.ifF rfl hb ?_
   refine xr rfl ?_
   obtain ⟨q6, hF⟩ := req_some hF
   obtain ⟨c7, hr7, hd7⟩ := SlAt.get h2 q6
   obtain rfl := hr7
   refine Exec.ia tyOk rfl rfl ⟨q6.1, q6.2, hd7.some⟩ ?_
   refine xr rfl ?_
   refine Exec.ld tyOk (x := .string ⟨⟨(atI x1.Parts x5).From⟩⟩) rfl rfl (RdAt.part hd7 1 1 rfl) rfl rfl ?_
   refine xr rfl ?_
   obtain ⟨J9, hJ9, hF⟩ := jn_some hF
   refine Exec.seam (fun L' V' M' => ∃ (x8 : TRange), L' = [(4, .ptr 1 0), (7, .ptr 2 0)] ∧ M' = [.blk [.v (.int .i64 (x1.Version)), .v (.slice a2 ((x1.Parts).length) (k2))] 24, .blk [.v (.string ⟨⟨[]⟩⟩), .v (.string ⟨⟨[]⟩⟩)] 79, .blk [.v (.string ⟨⟨x8.From⟩⟩), .v (.string ⟨⟨x8.To⟩⟩)] 79] ∧ SlAt cTPart V' a2 k2 x1.Parts ∧ J9 x8 = some r) rfl ?_ ?_
   ·rintro L' V10 M' ⟨x8, rfl, rfl, h11, hF⟩
    subst hJ9
    refine xr rfl ?_
    obtain rfl := some_inj hF
    exact Exec.ret tyOk rfl rfl rfl
   ·refine xr rfl ?_
    rcases cond_some hF with ⟨hb, hF⟩ | ⟨hb, hF⟩
    ·refine Exec.ifT rfl hb ?_
     refine xr rfl ?_
     obtain ⟨q12, hF⟩ := req_some hF
     obtain ⟨c13, hr13, hd13⟩ := SlAt.get h2 q12
     obtain rfl := hr13
     refine Exec.ia tyOk rfl rfl ⟨q12.1, q12.2, hd13.some⟩ ?_
     refine xr rfl ?_
     refine Exec.ld tyOk (x := .string ⟨⟨(atI x1.Parts ((IntKind.i64.wrap (x5 + (1 : Int))))).From⟩⟩) rfl rfl (RdAt.part hd13 1 1 rfl) rfl rfl ?_
     refine xr rfl ?_
     exact Exec.round [(4, .ptr 1 0), (7, .ptr 2 0)] ⟨rfl, rfl, trivial⟩ ⟨(⟨(atI x1.Parts x5).From, (atI x1.Parts ((IntKind.i64.wrap (x5 + (1 : Int))))).From⟩ : TRange), rfl, rfl, h2, hF⟩
    ·refine Exec.ifF rfl hb ?_
     refine xr rfl ?_
     exact Exec.round [(4, .ptr 1 0), (7, .ptr 2 0)] ⟨rfl, rfl, trivial⟩ ⟨(⟨(atI x1.Parts x5).From, []⟩ : TRange), rfl, rfl, h2, hF⟩
def F_clockworkref06_ValidWrites_L1 (x1 : List TPair) (J3 : Option Bool) : Nat → Int → Option Bool
 | 0, _ => none
 | n8 + 1, x7 => (cond (decide (x7 < (((x1).length : Nat) : Int))) (req (0 ≤ x7 ∧ x7 < ((x1).length : Int)) (bnd (F_clockworkref05_Valid ((atI x1 x7).Val)) fun x13 => (cond (!x13) (some false) (F_clockworkref06_ValidWrites_L1 x1 J3 n8 ((IntKind.i64.wrap (x7 + (1 : Int)))))))) J3)
def F_clockworkref06_ValidWrites (x1 : List TPair) : Option Bool :=
 (jn ((bnd (F_clockworkref06_ascending x1) fun x6 => (some x6))) (fun J3 => (F_clockworkref06_ValidWrites_L1 x1 J3 (((((x1).length : Nat) : Int)).toNat + 1) ((0 : Int)))))
theorem W_clockworkref06_ValidWrites {V : View} (x1 : List TPair) {a2 : Option Addr} {k2 : Nat} (h2 : SlAt cTPair V a2 k2 x1) {r : Bool} (hF : F_clockworkref06_ValidWrites x1 = some r) :
  Spec Tryz.prog 115 [.slice a2 ((x1).length) (k2)] V (fun _ v => v = .bool (r)) := by
 unfold F_clockworkref06_ValidWrites at hF
 refine Spec.enter (T := tyT) Tryz.func115 rfl (by kernel_rfl) rfl rfl rfl ?_
 refine Exec.run tyOk 9 rfl ?_
 obtain ⟨J3, hJ3, hF⟩ := jn_some hF
 refine Exec.seam (fun L' V' M' => L' = [(0, .v (.slice a2 ((x1).length) (k2)))] ∧ M' = [] ∧ SlAt cTPair V' a2 k2 x1 ∧ J3 = some r) rfl ?_ ?_
 ·rintro L' V4 M' ⟨rfl, rfl, h5, hF⟩
  subst hJ3
  refine xr rfl ?_
  obtain ⟨x6, hx6, hF⟩ := bnd_some hF
  refine Exec.callS (.bool (x6)) rfl rfl (W_clockworkref06_ascending x1 h5 hx6) ?_
  refine xr rfl ?_
  obtain rfl := some_inj hF
  exact Exec.ret tyOk rfl rfl rfl
 ·refine xr rfl ?_
  refine Exec.loop (fun n8 L' V' M' => ∃ (x7 : Int), L' = [(0, .v (.slice a2 ((x1).length) (k2))), (3, .v (.int .i64 (x7)))] ∧ M' = [] ∧ SlAt cTPair V' a2 k2 x1 ∧ F_clockworkref06_ValidWrites_L1 x1 J3 n8 x7 = some r) ⟨(((((x1).length : Nat) : Int)).toNat + 1), [(0, .v (.slice a2 ((x1).length) (k2))), (3, .v (.int .i64 ((0 : Int))))], ⟨rfl, rfl, trivial⟩, (0 : Int), rfl, rfl, h2, hF⟩ ?_
  rintro n8 L' V9 M' ⟨x7, rfl, rfl, h10, hF⟩
  rcases n8 with _ | n8
  ·exact absurd hF (by simp [F_clockworkref06_ValidWrites_L1])
  rw [F_clockworkref06_ValidWrites_L1] at hF
  refine xr rfl ?_
  rcases cond_some hF with ⟨hb, hF⟩ | ⟨hb, hF⟩
  ·refine Exec.ifT rfl hb ?_
   refine xr rfl ?_
   obtain ⟨q11, hF⟩ := req_some hF
   obtain ⟨c12, hr12, hd12⟩ := SlAt.get h10 q11
   obtain rfl := hr12
   refine Exec.ia tyOk rfl rfl ⟨q11.1, q11.2, hd12.some⟩ ?_
   refine xr rfl ?_
   refine Exec.ld tyOk (x := .agg ⟨[.int .i64 ((atI x1 x7).Val.Kind), .int .i64 ((atI x1 x7).Val.N), .string ⟨⟨(atI x1 x7).Val.S⟩⟩]⟩) rfl rfl (RdAt.part hd12 1 3 rfl) rfl rfl ?_
   refine xr rfl ?_
   obtain ⟨x13, hx13, hF⟩ := bnd_some hF
   refine Exec.callS (.bool (x13)) rfl rfl (W_clockworkref05_Valid ((atI x1 x7).Val)  hx13) ?_
   refine xr rfl ?_
   rcases cond_some hF with ⟨hb, hF⟩ | ⟨hb, hF⟩
   ·refine Exec.ifT rfl hb ?_
    refine xr rfl ?_
    obtain rfl := some_inj hF
    exact Exec.ret tyOk rfl rfl rfl
   ·refine Exec.ifF rfl hb ?_
    refine xr rfl ?_
    exact Exec.round [(0, .v (.slice a2 ((x1).length) (k2))), (3, .v (.int .i64 ((IntKind.i64.wrap (x7 + (1 : Int))))))] ⟨rfl, rfl, trivial⟩ ⟨n8, Nat.lt_succ_self _, (IntKind.i64.wrap (x7 + (1 : Int))), rfl, rfl, h10, hF⟩
  ·refine Exec.ifF rfl hb ?_
   refine xr rfl ?_
   exact Exec.round [(0, .v (.slice a2 ((x1).length) (k2)))] ⟨rfl, trivial⟩ ⟨rfl, rfl, h10, hF⟩
def F_clockworkref04_Contains (x1 : TRange) (x2 : Str) : Option Bool :=
 (bnd (F_clockworkref04_ValidRange x1) fun x3 => (some ((x3 && (!sLt x2 x1.From)) && ((x1.To == ([] : Str)) || (sLt x2 x1.To)))))
def F_keys_ValidRange (x1 : TRange) : Option Bool :=
 (bnd (F_keys_isBound x1.From) fun x2 => (bnd (gcall ((x2) == true) (F_keys_isBound x1.To)) fun x3 => (some ((x2 && x3) && ((x1.To == ([] : Str)) || (sLt x1.From x1.To))))))
theorem W_keys_ValidRange {V : View} (x1 : TRange)   {r : Bool} (hF : F_keys_ValidRange x1 = some r) :
  Spec Tryz.prog 143 [.agg ⟨[.string ⟨⟨x1.From⟩⟩, .string ⟨⟨x1.To⟩⟩]⟩] V (fun _ v => v = .bool (r)) := by
 unfold F_keys_ValidRange at hF
 refine Spec.enter (T := tyT) Tryz.func143 rfl (by kernel_rfl) rfl rfl rfl ?_
 refine xr rfl ?_
 obtain ⟨x2, hx2, hF⟩ := bnd_some hF
 refine Exec.callS (.bool (x2)) rfl rfl (W_keys_isBound x1.From  hx2) ?_
 refine xr rfl ?_
 obtain ⟨x3, hx3, hF⟩ := bnd_some hF
 refine Exec.callS (.bool (x3)) rfl rfl (fun gg0 => W_keys_isBound x1.To  (gcall_some hx3 (gd1_of gg0))) ?_
 refine xr rfl ?_
 obtain rfl := some_inj hF
 exact Exec.ret tyOk rfl rfl rfl
def F_placement_Owner (x1 : TPlacement) (x3 : Str) : Option Int :=
 (bnd (F_placement_Index x1 x3) fun x4 => (cond (decide (x4 < (0 : Int))) (some (0 : Int)) (req (0 ≤ x4 ∧ x4 < ((x1.Parts).length : Int)) (cond (((atI x1.Parts x4).Dest != (0 : Int)) && (sLt x3 (atI x1.Parts x4).Done)) (some (atI x1.Parts x4).Dest) (some (atI x1.Parts x4).Node)))))
theorem W_placement_Owner {V : View} (x1 : TPlacement) (x3 : Str) {a2 : Option Addr} {k2 : Nat} (h2 : SlAt cTPart V a2 k2 x1.Parts) {r : Int} (hF : F_placement_Owner x1 x3 = some r) :
  Spec Tryz.prog 14 [.agg ⟨[.int .i64 (x1.Version), .slice a2 ((x1.Parts).length) (k2)]⟩, .string ⟨⟨x3⟩⟩] V (fun _ v => v = .int .i64 (r)) := by
 unfold F_placement_Owner at hF
 refine Spec.enter (T := tyT) Tryz.func14 rfl (by kernel_rfl) rfl rfl rfl ?_
 refine xr rfl ?_
 obtain ⟨x4, hx4, hF⟩ := bnd_some hF
 refine Exec.callS (.int .i64 (x4)) rfl rfl (W_placement_Index x1 x3 h2 hx4) ?_
 refine xr rfl ?_
 rcases cond_some hF with ⟨hb, hF⟩ | ⟨hb, hF⟩
 ·refine Exec.ifT rfl hb ?_
  refine xr rfl ?_
  obtain rfl := some_inj hF
  exact Exec.ret tyOk rfl rfl rfl
 ·refine Exec.ifF rfl hb ?_
  refine xr rfl ?_
  obtain ⟨q5, hF⟩ := req_some hF
  obtain ⟨c6, hr6, hd6⟩ := SlAt.get h2 q5
  obtain rfl := hr6
  refine Exec.ia tyOk rfl rfl ⟨q5.1, q5.2, hd6.some⟩ ?_
  refine xr rfl ?_
  refine Exec.ld tyOk (x := .agg ⟨[.int .i64 ((atI x1.Parts x4).Id), .string ⟨⟨(atI x1.Parts x4).From⟩⟩, .int .i64 ((atI x1.Parts x4).Node), .int .i64 ((atI x1.Parts x4).Dest), .string ⟨⟨(atI x1.Parts x4).Done⟩⟩]⟩) rfl rfl hd6 rfl rfl ?_
  refine xr rfl ?_
  rcases cond_some hF with ⟨hb, hF⟩ | ⟨hb, hF⟩
  ·refine Exec.ifT rfl hb ?_
   refine xr rfl ?_
   obtain rfl := some_inj hF
   exact Exec.ret tyOk rfl rfl rfl
  ·refine Exec.ifF rfl hb ?_
   refine xr rfl ?_
   obtain rfl := some_inj hF
   exact Exec.ret tyOk rfl rfl rfl
end Go.Proofs.YtglnnhmmipopiaaGreat
