/-
 Functions of the program as their counterparts say them (printed by a program).
 Conditions: none.
-/
import Derived.Test.YtglnnhmmipopiaaGreatHb
set_option linter.all false
namespace Go.Proofs.YtglnnhmmipopiaaGreat
set_option maxRecDepth 100000
def F_clockworkref06_with_L1 (x1 : List TPair) (x3 : TPair) (J5 : Int → Option (List TPair)) : Nat → Int → Option (List TPair)
 | 0, _ => none
 | n24 + 1, x23 => (req ((((decide (x23 < (((x1).length : Nat) : Int)))) == true) = true → 0 ≤ x23 ∧ x23 < ((x1).length : Int)) (cond ((decide (x23 < (((x1).length : Nat) : Int))) && (sLt (cond (((decide (x23 < (((x1).length : Nat) : Int)))) == true) (atI x1 x23) default).Key x3.Key)) (F_clockworkref06_with_L1 x1 x3 J5 n24 ((IntKind.i64.wrap (x23 + (1 : Int))))) (J5 x23)))
def F_clockworkref06_with (x1 : List TPair) (x3 : TPair) : Option (List TPair) :=
 (jn (fun (x4 : Int) => (req (0 ≤ (0 : Int) ∧ (0 : Int) ≤ x4 ∧ x4 ≤ ((x1).length : Int)) (req (((([] : List TPair) ++ ((x1.take (x4).toNat).drop ((0 : Int)).toNat))).length * 48 ≤ 140737488355328) (req ((((([] : List TPair) ++ ((x1.take (x4).toNat).drop ((0 : Int)).toNat)) ++ [x3])).length * 48 ≤ 140737488355328) (req (0 ≤ x4 ∧ x4 ≤ (((x1).length : Nat) : Int) ∧ (((x1).length : Nat) : Int) ≤ ((x1).length : Int)) (req (((((([] : List TPair) ++ ((x1.take (x4).toNat).drop ((0 : Int)).toNat)) ++ [x3]) ++ ((x1.take ((((x1).length : Nat) : Int)).toNat).drop (x4).toNat))).length * 48 ≤ 140737488355328) (some (((([] : List TPair) ++ ((x1.take (x4).toNat).drop ((0 : Int)).toNat)) ++ [x3]) ++ ((x1.take ((((x1).length : Nat) : Int)).toNat).drop (x4).toNat))))))))) (fun J5 => (F_clockworkref06_with_L1 x1 x3 J5 (1000000 : Nat) ((0 : Int)))))
theorem W_clockworkref06_with {V : View} (x1 : List TPair) (x3 : TPair) {a2 : Option Addr} {k2 : Nat} (h2 : SlAt cTPair V a2 k2 x1) {r : List TPair} (hF : F_clockworkref06_with x1 x3 = some r) :
  Spec Tryz.prog 141 [.slice a2 ((x1).length) (k2), .agg ⟨[.string ⟨⟨x3.Key⟩⟩, .int .i64 (x3.Val.Kind), .int .i64 (x3.Val.N), .string ⟨⟨x3.Val.S⟩⟩]⟩] V (fun V' v => ∃ (a29 : Option Addr) (k29 : Nat), v = .slice a29 ((r).length) (k29) ∧ SlAt cTPair V' a29 k29 r) := by
 unfold F_clockworkref06_with at hF
 refine Spec.enter (T := tyT) Tryz.func141 rfl (by kernel_rfl) rfl rfl rfl ?_
 refine Exec.run tyOk 10 rfl ?_
 obtain ⟨J5, hJ5, hF⟩ := jn_some hF
 refine Exec.seam (fun L' V' M' => ∃ (x4 : Int), L' = [(0, .v (.slice a2 ((x1).length) (k2))), (3, .ptr 0 0), (5, .v (.int .i64 (x4)))] ∧ M' = [.blk [.v (.string ⟨⟨x3.Key⟩⟩), .v (.int .i64 (x3.Val.Kind)), .v (.int .i64 (x3.Val.N)), .v (.string ⟨⟨x3.Val.S⟩⟩)] 56] ∧ SlAt cTPair V' a2 k2 x1 ∧ J5 x4 = some r) rfl ?_ ?_
 ·rintro L' V6 M' ⟨x4, rfl, rfl, h7, hF⟩
  subst hJ5
  refine xr rfl ?_
  obtain ⟨q8, hF⟩ := req_some hF
  refine Exec.slv tyOk (c := cTPair) rfl rfl (lo := (0 : Int)) (hi := x4) rfl rfl h7 (by simp) rfl q8 (fun a9 k9 h9 => ?_)
  refine xr rfl ?_
  refine Exec.row0 56 4 rfl ?_
  have h10 : RowRep cTPair V6 [] [] := RowRep.nil
  obtain ⟨q12, hF⟩ := req_some hF
  refine Exec.appS tyOk (cd := cTPair) 1 (nm := ((([] : List TPair) ++ ((x1.take (x4).toNat).drop ((0 : Int)).toNat))).length) rfl rfl rfl rfl rfl rfl h9 (by first | rfl | simp) (by first | rfl | exact List.length_append.symm | simp) (fun _ _ _ => rfl) rfl q12 (fun cs11 hs11 a11 k11 => ?_)
  have h11 : RowRep cTPair V6 (([] : List TPair) ++ ((x1.take (x4).toNat).drop ((0 : Int)).toNat)) ([] ++ cs11) := RowRep.app h10 hs11
  refine xr rfl ?_
  refine Exec.bsl tyOk rfl rfl ?_
  refine xr rfl ?_
  obtain ⟨q14, hF⟩ := req_some hF
  refine Exec.app tyOk 1 2 (nm := (((([] : List TPair) ++ ((x1.take (x4).toNat).drop ((0 : Int)).toNat)) ++ [x3])).length) rfl rfl rfl rfl rfl rfl rfl rfl rfl (by simp) (fun _ _ => rfl) rfl q14 (fun a13 k13 => ?_)
  have h13 : RowRep cTPair V6 ((([] : List TPair) ++ ((x1.take (x4).toNat).drop ((0 : Int)).toNat)) ++ [x3]) (([] ++ cs11) ++ [.string ⟨⟨x3.Key⟩⟩, .int .i64 (x3.Val.Kind), .int .i64 (x3.Val.N), .string ⟨⟨x3.Val.S⟩⟩]) := RowRep.app h11 ⟨_, _, rfl, rfl, rfl⟩
  refine xr rfl ?_
  obtain ⟨q15, hF⟩ := req_some hF
  refine Exec.slv tyOk (c := cTPair) rfl rfl (lo := x4) (hi := (((x1).length : Nat) : Int)) rfl rfl h7 (by simp) rfl q15 (fun a16 k16 h16 => ?_)
  refine xr rfl ?_
  obtain ⟨q18, hF⟩ := req_some hF
  refine Exec.appS tyOk (cd := cTPair) 1 (nm := ((((([] : List TPair) ++ ((x1.take (x4).toNat).drop ((0 : Int)).toNat)) ++ [x3]) ++ ((x1.take ((((x1).length : Nat) : Int)).toNat).drop (x4).toNat))).length) rfl rfl rfl rfl rfl rfl h16 (by first | rfl | simp) (by first | rfl | exact List.length_append.symm | simp) (fun _ _ _ => rfl) rfl q18 (fun cs17 hs17 a17 k17 => ?_)
  have h17 : RowRep cTPair V6 (((([] : List TPair) ++ ((x1.take (x4).toNat).drop ((0 : Int)).toNat)) ++ [x3]) ++ ((x1.take ((((x1).length : Nat) : Int)).toNat).drop (x4).toNat)) ((([] ++ cs11) ++ [.string ⟨⟨x3.Key⟩⟩, .int .i64 (x3.Val.Kind), .int .i64 (x3.Val.N), .string ⟨⟨x3.Val.S⟩⟩]) ++ cs17) := RowRep.app h13 hs17
  refine xr rfl ?_
  refine Exec.frz 1 rfl rfl rfl (fun V19 hv19 hd19 hn19 => ?_)
  have hz19 := RowRep.slat h17 hv19 hd19 hn19
  have h20 := SlAt.mono h7 hv19
  have h21 := SlAt.mono h9 hv19
  have h22 := SlAt.mono h16 hv19
  obtain rfl := some_inj hF
  exact Exec.ret tyOk rfl rfl ⟨_, _, rfl, hz19⟩
 ·refine xr rfl ?_
  refine Exec.loop (fun n24 L' V' M' => ∃ (x23 : Int), L' = [(0, .v (.slice a2 ((x1).length) (k2))), (3, .ptr 0 0), (5, .v (.int .i64 (x23)))] ∧ M' = [.blk [.v (.string ⟨⟨x3.Key⟩⟩), .v (.int .i64 (x3.Val.Kind)), .v (.int .i64 (x3.Val.N)), .v (.string ⟨⟨x3.Val.S⟩⟩)] 56] ∧ SlAt cTPair V' a2 k2 x1 ∧ F_clockworkref06_with_L1 x1 x3 J5 n24 x23 = some r) ⟨(1000000 : Nat), [(0, .v (.slice a2 ((x1).length) (k2))), (3, .ptr 0 0), (5, .v (.int .i64 ((0 : Int))))], ⟨rfl, rfl, rfl, trivial⟩, (0 : Int), rfl, rfl, h2, hF⟩ ?_
  rintro n24 L' V25 M' ⟨x23, rfl, rfl, h26, hF⟩
  rcases n24 with _ | n24
  ·exact absurd hF (by simp [F_clockworkref06_with_L1])
  rw [F_clockworkref06_with_L1] at hF
  refine xr rfl ?_
  refine Exec.draws tyOk [(0, true), (1, true), (2, true), (3, true), (4, true), (5, true), (6, true), (7, true), (8, true), (9, true), (10, true), (11, true), (12, true), (13, true)] rfl (by kernel_rfl) ?_
  refine xr rfl ?_
  obtain ⟨q27, hF⟩ := req_some hF
  obtain ⟨c28, hr28, hd28⟩ := SlAt.gget (((decide (x23 < (((x1).length : Nat) : Int)))) == true) h26 q27
  obtain rfl := hr28
  refine Exec.fia tyOk rfl rfl rfl (fun gg0 => ⟨(q27 (gd1_of gg0)).1, (q27 (gd1_of gg0)).2, (hd28 (gd1_of gg0)).some⟩) ?_
  refine xr rfl ?_
  refine Exec.fld tyOk (x := .string ⟨⟨(cond (((decide (x23 < (((x1).length : Nat) : Int)))) == true) (atI x1 x23) default).Key⟩⟩) rfl rfl rfl (fun gg0 => (RdAt.part (hd28 (gd1_of gg0)) 0 1 rfl)) rfl rfl ?_
  refine xr rfl ?_
  rcases cond_some hF with ⟨hb, hF⟩ | ⟨hb, hF⟩
  ·refine Exec.ifT rfl hb ?_
   refine xr rfl ?_
   exact Exec.round [(0, .v (.slice a2 ((x1).length) (k2))), (3, .ptr 0 0), (5, .v (.int .i64 ((IntKind.i64.wrap (x23 + (1 : Int))))))] ⟨rfl, rfl, rfl, trivial⟩ ⟨n24, Nat.lt_succ_self _, (IntKind.i64.wrap (x23 + (1 : Int))), rfl, rfl, h26, hF⟩
  ·refine Exec.ifF rfl hb ?_
   refine xr rfl ?_
   exact Exec.round [(0, .v (.slice a2 ((x1).length) (k2))), (3, .ptr 0 0), (5, .v (.int .i64 (x23)))] ⟨rfl, rfl, rfl, trivial⟩ ⟨x23, rfl, rfl, h26, hF⟩
def F_clockworkref05_Plain_L1 (x1 : Str) (J2 : Option Bool) : Nat → Int → Option Bool
 | 0, _ => none
 | n5 + 1, x4 => (cond (decide (x4 < ((x1).length : Int))) (req (0 ≤ x4 ∧ x4 < ((x1).length : Int)) (req ((((decide ((byteAt x1 (x4).toNat) < (32 : Int)))) == false) = true → 0 ≤ x4 ∧ x4 < ((x1).length : Int)) (cond ((decide ((byteAt x1 (x4).toNat) < (32 : Int))) || (decide ((126 : Int) < (byteAt x1 (x4).toNat)))) (some false) (F_clockworkref05_Plain_L1 x1 J2 n5 ((IntKind.i64.wrap (x4 + (1 : Int)))))))) J2)
def F_clockworkref05_Plain (x1 : Str) : Option Bool :=
 (cond (decide ((64 : Int) < ((x1).length : Int))) (some false) (jn ((some true)) (fun J2 => (F_clockworkref05_Plain_L1 x1 J2 ((((x1).length : Int)).toNat + 1) ((0 : Int))))))
theorem W_clockworkref05_Plain {V : View} (x1 : Str)   {r : Bool} (hF : F_clockworkref05_Plain x1 = some r) :
  Spec Tryz.prog 151 [.string ⟨⟨x1⟩⟩] V (fun _ v => v = .bool (r)) := by
 unfold F_clockworkref05_Plain at hF
 refine Spec.enter (T := tyT) Tryz.func151 rfl (by kernel_rfl) rfl rfl rfl ?_
 refine xr rfl ?_
 rcases cond_some hF with ⟨hb, hF⟩ | ⟨hb, hF⟩
 ·refine Exec.ifT rfl hb ?_
  refine xr rfl ?_
  obtain rfl := some_inj hF
  exact Exec.ret tyOk rfl rfl rfl
 ·refine Exec.ifF rfl hb ?_
  refine Exec.run tyOk 6 rfl ?_
  obtain ⟨J2, hJ2, hF⟩ := jn_some hF
  refine Exec.seam (fun L' V' M' => L' = [] ∧ M' = [] ∧ J2 = some r) rfl ?_ ?_
  ·rintro L' V3 M' ⟨rfl, rfl, hF⟩
   subst hJ2
   refine xr rfl ?_
   obtain rfl := some_inj hF
   exact Exec.ret tyOk rfl rfl rfl
  ·refine xr rfl ?_
   refine Exec.loop (fun n5 L' V' M' => ∃ (x4 : Int), L' = [(0, .v (.string ⟨⟨x1⟩⟩)), (3, .v (.int .i64 (x4)))] ∧ M' = [] ∧ F_clockworkref05_Plain_L1 x1 J2 n5 x4 = some r) ⟨((((x1).length : Int)).toNat + 1), [(0, .v (.string ⟨⟨x1⟩⟩)), (3, .v (.int .i64 ((0 : Int))))], ⟨rfl, rfl, trivial⟩, (0 : Int), rfl, rfl, hF⟩ ?_
   rintro n5 L' V6 M' ⟨x4, rfl, rfl, hF⟩
   rcases n5 with _ | n5
   ·exact absurd hF (by simp [F_clockworkref05_Plain_L1])
   rw [F_clockworkref05_Plain_L1] at hF
   refine xr rfl ?_
   rcases cond_some hF with ⟨hb, hF⟩ | ⟨hb, hF⟩
   ·refine Exec.ifT rfl hb ?_
    refine xr rfl ?_
    obtain ⟨q7, hF⟩ := req_some hF
    refine Exec.idx tyOk rfl rfl q7 ?_
    refine xr rfl ?_
    obtain ⟨q8, hF⟩ := req_some hF
    refine Exec.idx tyOk rfl rfl (fun gg0 => q8 (gd1_of gg0)) ?_
    refine xr rfl ?_
    rcases cond_some hF with ⟨hb, hF⟩ | ⟨hb, hF⟩
    ·refine Exec.ifT rfl hb ?_
     refine xr rfl ?_
     obtain rfl := some_inj hF
     exact Exec.ret tyOk rfl rfl rfl
    ·refine Exec.ifF rfl hb ?_
     refine xr rfl ?_
     exact Exec.round [(0, .v (.string ⟨⟨x1⟩⟩)), (3, .v (.int .i64 ((IntKind.i64.wrap (x4 + (1 : Int))))))] ⟨rfl, rfl, trivial⟩ ⟨n5, Nat.lt_succ_self _, (IntKind.i64.wrap (x4 + (1 : Int))), rfl, rfl, hF⟩
   ·refine Exec.ifF rfl hb ?_
    refine xr rfl ?_
    exact Exec.round [] trivial ⟨rfl, rfl, hF⟩
def F_clockworkref04_Bound_L1 (x1 : Str) (J2 : Option Bool) : Nat → Int → Option Bool
 | 0, _ => none
 | n5 + 1, x4 => (cond (decide (x4 < ((x1).length : Int))) (req (0 ≤ x4 ∧ x4 < ((x1).length : Int)) (req ((((decide ((byteAt x1 (x4).toNat) < (33 : Int)))) == false) = true → 0 ≤ x4 ∧ x4 < ((x1).length : Int)) (cond ((decide ((byteAt x1 (x4).toNat) < (33 : Int))) || (decide ((126 : Int) < (byteAt x1 (x4).toNat)))) (some false) (F_clockworkref04_Bound_L1 x1 J2 n5 ((IntKind.i64.wrap (x4 + (1 : Int)))))))) J2)
def F_clockworkref04_Bound (x1 : Str) : Option Bool :=
 (jn ((some (decide (((x1).length : Int) ≤ (24 : Int))))) (fun J2 => (F_clockworkref04_Bound_L1 x1 J2 ((((x1).length : Int)).toNat + 1) ((0 : Int)))))
def F_keys_isBound_1 (x1 : Int) : Option Bool :=
 (some ((decide ((33 : Int) ≤ x1)) && (decide (x1 ≤ (126 : Int)))))
theorem W_keys_isBound_1 {V : View} (x1 : Int)   {r : Bool} (hF : F_keys_isBound_1 x1 = some r) :
  Spec Tryz.prog 156 [.int .u8 (x1)] V (fun _ v => v = .bool (r)) := by
 unfold F_keys_isBound_1 at hF
 refine Spec.enter (T := tyT) Tryz.func156 rfl (by kernel_rfl) rfl rfl rfl ?_
 refine xr rfl ?_
 obtain rfl := some_inj hF
 exact Exec.ret tyOk rfl rfl rfl
def F_clockworkref29_Valid_L2 (x7 : Int) (x1 : TPlacement) (J22 : Option Bool) : Nat → Int → Option Bool
 | 0, _ => none
 | n26 + 1, x25 => (cond (decide (x25 < x7)) (req (0 ≤ x25 ∧ x25 < ((x1.Parts).length : Int)) (cond ((atI x1.Parts x25).Id == (atI x1.Parts x7).Id) (some false) (F_clockworkref29_Valid_L2 x7 x1 J22 n26 ((IntKind.i64.wrap (x25 + (1 : Int))))))) J22)
def F_clockworkref29_Valid_L1 (x1 : TPlacement) (J5 : Option Bool) : Nat → Int → Option Bool
 | 0, _ => none
 | n8 + 1, x7 => (cond (decide (x7 < (((x1.Parts).length : Nat) : Int))) (req (0 ≤ x7 ∧ x7 < ((x1.Parts).length : Int)) (jn (fun (x13 : Str) => (bnd (F_clockworkref29_Bound ((atI x1.Parts x7).From)) fun x17 => (req (((((decide ((0 : Int) < x7))) == true) && (((!x17)) == false)) = true → 0 ≤ (IntKind.i64.wrap (x7 - (1 : Int))) ∧ (IntKind.i64.wrap (x7 - (1 : Int))) < ((x1.Parts).length : Int)) (bnd (some (((((((!x17) || ((decide ((0 : Int) < x7)) && (!sLt (cond ((((decide ((0 : Int) < x7))) == true) && (((!x17)) == false)) (atI x1.Parts ((IntKind.i64.wrap (x7 - (1 : Int))))) default).From (atI x1.Parts x7).From))) || (decide ((atI x1.Parts x7).Id < (1 : Int)))) || (decide ((1099511627776 : Int) < (atI x1.Parts x7).Id))) || (decide ((atI x1.Parts x7).Node < (1 : Int)))) || (decide ((16 : Int) < (atI x1.Parts x7).Node))))) fun x20 => (bnd (gcall ((x20) == false) (F_clockworkref29_moves ((atI x1.Parts x7)) x13 (((IntKind.i64.wrap (x7 + (1 : Int))) == (((x1.Parts).length : Nat) : Int))))) fun x21 => (cond (x20 || (!x21)) (some false) (jn ((F_clockworkref29_Valid_L1 x1 J5 n8 ((IntKind.i64.wrap (x7 + (1 : Int)))))) (fun J22 => (F_clockworkref29_Valid_L2 x7 x1 J22 ((x7).toNat + 1) ((0 : Int))))))))))) (fun J14 => (cond (decide ((IntKind.i64.wrap (x7 + (1 : Int))) < (((x1.Parts).length : Nat) : Int))) (req (0 ≤ (IntKind.i64.wrap (x7 + (1 : Int))) ∧ (IntKind.i64.wrap (x7 + (1 : Int))) < ((x1.Parts).length : Int)) (J14 ((atI x1.Parts ((IntKind.i64.wrap (x7 + (1 : Int))))).From))) (J14 (([] : Str))))))) J5)
def F_clockworkref29_Valid (x1 : TPlacement) : Option Bool :=
 (req (((((((decide (x1.Version < (0 : Int))) || (decide ((1099511627776 : Int) < x1.Version))) || (decide ((((x1.Parts).length : Nat) : Int) < (1 : Int)))) || (decide ((16 : Int) < (((x1.Parts).length : Nat) : Int))))) == false) = true → 0 ≤ (0 : Int) ∧ (0 : Int) < ((x1.Parts).length : Int)) (cond (((((decide (x1.Version < (0 : Int))) || (decide ((1099511627776 : Int) < x1.Version))) || (decide ((((x1.Parts).length : Nat) : Int) < (1 : Int)))) || (decide ((16 : Int) < (((x1.Parts).length : Nat) : Int)))) || ((cond ((((((decide (x1.Version < (0 : Int))) || (decide ((1099511627776 : Int) < x1.Version))) || (decide ((((x1.Parts).length : Nat) : Int) < (1 : Int)))) || (decide ((16 : Int) < (((x1.Parts).length : Nat) : Int))))) == false) (atI x1.Parts ((0 : Int))) default).From != ([] : Str))) (some false) (jn ((some true)) (fun J5 => (F_clockworkref29_Valid_L1 x1 J5 (((((x1.Parts).length : Nat) : Int)).toNat + 1) ((0 : Int)))))))
theorem W_clockworkref29_Valid {V : View} (x1 : TPlacement) {a2 : Option Addr} {k2 : Nat} (h2 : SlAt cTPart V a2 k2 x1.Parts) {r : Bool} (hF : F_clockworkref29_Valid x1 = some r) :
  Spec Tryz.prog 39 [.agg ⟨[.int .i64 (x1.Version), .slice a2 ((x1.Parts).length) (k2)]⟩] V (fun _ v => v = .bool (r)) := by
 unfold F_clockworkref29_Valid at hF
 refine Spec.enter (T := tyT) Tryz.func39 rfl (by kernel_rfl) rfl rfl rfl ?_
 refine xr rfl ?_
 obtain ⟨q3, hF⟩ := req_some hF
 obtain ⟨c4, hr4, hd4⟩ := SlAt.gget ((((((decide (x1.Version < (0 : Int))) || (decide ((1099511627776 : Int) < x1.Version))) || (decide ((((x1.Parts).length : Nat) : Int) < (1 : Int)))) || (decide ((16 : Int) < (((x1.Parts).length : Nat) : Int))))) == false) h2 q3
 obtain rfl := hr4
 refine Exec.ia tyOk rfl rfl (fun gg0 => ⟨(q3 (gd1_of gg0)).1, (q3 (gd1_of gg0)).2, (hd4 (gd1_of gg0)).some⟩) ?_
 refine xr rfl ?_
 refine Exec.ld tyOk (x := .string ⟨⟨(cond ((((((decide (x1.Version < (0 : Int))) || (decide ((1099511627776 : Int) < x1.Version))) || (decide ((((x1.Parts).length : Nat) : Int) < (1 : Int)))) || (decide ((16 : Int) < (((x1.Parts).length : Nat) : Int))))) == false) (atI x1.Parts ((0 : Int))) default).From⟩⟩) rfl rfl (fun gg0 => (RdAt.part (hd4 (gd1_of gg0)) 1 1 rfl)) rfl rfl ?_
 refine xr rfl ?_
 rcases cond_some hF with ⟨hb, hF⟩ | ⟨hb, hF⟩
 ·refine Exec.ifT rfl hb ?_
  refine xr rfl ?_
  obtain rfl := some_inj hF
  exact Exec.ret tyOk rfl rfl rfl
 ·refine Exec.ifF rfl hb ?_
  refine Exec.run tyOk 6 rfl ?_
  obtain ⟨J5, hJ5, hF⟩ := jn_some hF
  refine Exec.seam (fun L' V' M' => L' = [] ∧ M' = [] ∧ J5 = some r) rfl ?_ ?_
  ·rintro L' V6 M' ⟨rfl, rfl, hF⟩
   subst hJ5
   refine xr rfl ?_
   obtain rfl := some_inj hF
   exact Exec.ret tyOk rfl rfl rfl
  ·refine xr rfl ?_
   refine Exec.loop (fun n8 L' V' M' => ∃ (x7 : Int), L' = [(1, .ptr 0 0), (3, .v (.int .i64 ((((x1.Parts).length : Nat) : Int)))), (4, .v (.int .i64 (x7)))] ∧ M' = [.blk [.v (.int .i64 (x1.Version)), .v (.slice a2 ((x1.Parts).length) (k2))] 24] ∧ SlAt cTPart V' a2 k2 x1.Parts ∧ F_clockworkref29_Valid_L1 x1 J5 n8 x7 = some r) ⟨(((((x1.Parts).length : Nat) : Int)).toNat + 1), [(1, .ptr 0 0), (3, .v (.int .i64 ((((x1.Parts).length : Nat) : Int)))), (4, .v (.int .i64 ((0 : Int))))], ⟨rfl, rfl, rfl, trivial⟩, (0 : Int), rfl, rfl, h2, hF⟩ ?_
   rintro n8 L' V9 M' ⟨x7, rfl, rfl, h10, hF⟩
   rcases n8 with _ | n8
   ·exact absurd hF (by simp [F_clockworkref29_Valid_L1])
   rw [F_clockworkref29_Valid_L1] at hF
   refine xr rfl ?_
   rcases cond_some hF with ⟨hb, hF⟩ | ⟨hb, hF⟩
   ·refine Exec.ifT rfl hb ?_
    refine xr rfl ?_
    obtain ⟨q11, hF⟩ := req_some hF
    obtain ⟨c12, hr12, hd12⟩ := SlAt.get h10 q11
    obtain rfl := hr12
    refine Exec.ia tyOk rfl rfl ⟨q11.1, q11.2, hd12.some⟩ ?_
    refine xr rfl ?_
    refine Exec.ld tyOk (x := .agg ⟨[.int .i64 ((atI x1.Parts x7).Id), .string ⟨⟨(atI x1.Parts x7).From⟩⟩, .int .i64 ((atI x1.Parts x7).Node), .int .i64 ((atI x1.Parts x7).Dest), .string ⟨⟨(atI x1.Parts x7).Done⟩⟩]⟩) rfl rfl hd12 rfl rfl ?_
    refine xr rfl ?_
    obtain ⟨J14, hJ14, hF⟩ := jn_some hF
    refine Exec.seam (fun L' V' M' => ∃ (x13 : Str), L' = [(1, .ptr 0 0), (3, .v (.int .i64 ((((x1.Parts).length : Nat) : Int)))), (4, .v (.int .i64 (x7))), (5, .ptr 1 0), (6, .v (.string ⟨⟨x13⟩⟩))] ∧ M' = [.blk [.v (.int .i64 (x1.Version)), .v (.slice a2 ((x1.Parts).length) (k2))] 24, .blk [.v (.int .i64 ((atI x1.Parts x7).Id)), .v (.string ⟨⟨(atI x1.Parts x7).From⟩⟩), .v (.int .i64 ((atI x1.Parts x7).Node)), .v (.int .i64 ((atI x1.Parts x7).Dest)), .v (.string ⟨⟨(atI x1.Parts x7).Done⟩⟩)] 60] ∧ SlAt cTPart V' a2 k2 x1.Parts ∧ J14 x13 = some r) rfl ?_ ?_
    ·rintro L' V15 M' ⟨x13, rfl, rfl, h16, hF⟩
     subst hJ14
     refine xr rfl ?_
     refine Exec.draws tyOk [(0, true), (1, true), (2, false), (3, false), (4, false), (5, false), (6, false), (7, false), (8, true), (9, true), (10, true), (11, true), (12, false), (13, false), (14, false), (15, false), (16, false), (17, false), (18, false), (19, false), (20, false), (21, false), (22, false), (23, false), (24, false), (25, false), (26, false), (27, false), (28, false), (29, false), (30, false), (31, false), (32, false), (33, false), (34, false), (35, false), (36, false), (37, false), (38, false), (39, false), (40, false), (41, true), (42, true), (43, true), (44, true), (45, false), (46, false), (47, false), (48, false), (49, false)] rfl (by kernel_rfl) ?_
     refine xr rfl ?_
     obtain ⟨x17, hx17, hF⟩ := bnd_some hF
     refine Exec.callS (.bool (x17)) rfl rfl (W_clockworkref29_Bound ((atI x1.Parts x7).From)  hx17) ?_
     refine xr rfl ?_
     obtain ⟨q18, hF⟩ := req_some hF
     obtain ⟨c19, hr19, hd19⟩ := SlAt.gget ((((decide ((0 : Int) < x7))) == true) && (((!x17)) == false)) h16 q18
     obtain rfl := hr19
     refine Exec.ia tyOk rfl rfl (fun gg0 gg1 => ⟨(q18 (gd2_of gg0 gg1)).1, (q18 (gd2_of gg0 gg1)).2, (hd19 (gd2_of gg0 gg1)).some⟩) ?_
     refine xr rfl ?_
     refine Exec.ld tyOk (x := .string ⟨⟨(cond ((((decide ((0 : Int) < x7))) == true) && (((!x17)) == false)) (atI x1.Parts ((IntKind.i64.wrap (x7 - (1 : Int))))) default).From⟩⟩) rfl rfl (fun gg0 gg1 => (RdAt.part (hd19 (gd2_of gg0 gg1)) 1 1 rfl)) rfl rfl ?_
     refine Exec.run tyOk 69 rfl ?_
     obtain ⟨x20, hx20, hF⟩ := bnd_some hF
     refine Exec.nameO (some_inj hx20) 95 rfl rfl rfl rfl ?_
     refine xr rfl ?_
     obtain ⟨x21, hx21, hF⟩ := bnd_some hF
     refine Exec.callS (.bool (x21)) rfl rfl (fun gg0 => W_clockworkref29_moves ((atI x1.Parts x7)) x13 (((IntKind.i64.wrap (x7 + (1 : Int))) == (((x1.Parts).length : Nat) : Int)))  (gcall_some hx21 (gd1_of gg0))) ?_
     refine xr rfl ?_
     rcases cond_some hF with ⟨hb, hF⟩ | ⟨hb, hF⟩
     ·refine Exec.ifT rfl hb ?_
      refine xr rfl ?_
      obtain rfl := some_inj hF
      exact Exec.ret tyOk rfl rfl rfl
     ·refine Exec.ifF rfl hb ?_
      refine Exec.run tyOk 5 rfl ?_
      obtain ⟨J22, hJ22, hF⟩ := jn_some hF
      refine Exec.seam (fun L' V' M' => L' = [(1, .ptr 0 0), (3, .v (.int .i64 ((((x1.Parts).length : Nat) : Int)))), (4, .v (.int .i64 (x7)))] ∧ M' = [.blk [.v (.int .i64 (x1.Version)), .v (.slice a2 ((x1.Parts).length) (k2))] 24] ∧ SlAt cTPart V' a2 k2 x1.Parts ∧ J22 = some r) rfl ?_ ?_
      ·rintro L' V23 M' ⟨rfl, rfl, h24, hF⟩
       subst hJ22
       refine xr rfl ?_
       exact Exec.round [(1, .ptr 0 0), (3, .v (.int .i64 ((((x1.Parts).length : Nat) : Int)))), (4, .v (.int .i64 ((IntKind.i64.wrap (x7 + (1 : Int))))))] ⟨rfl, rfl, rfl, trivial⟩ ⟨n8, Nat.lt_succ_self _, (IntKind.i64.wrap (x7 + (1 : Int))), rfl, rfl, h24, hF⟩
      ·refine xr rfl ?_
       refine Exec.loop (fun n26 L' V' M' => ∃ (x25 : Int), L' = [(1, .ptr 0 0), (3, .v (.int .i64 ((((x1.Parts).length : Nat) : Int)))), (4, .v (.int .i64 (x7))), (5, .ptr 1 0), (7, .v (.int .i64 (x25)))] ∧ M' = [.blk [.v (.int .i64 (x1.Version)), .v (.slice a2 ((x1.Parts).length) (k2))] 24, .blk [.v (.int .i64 ((atI x1.Parts x7).Id)), .v (.string ⟨⟨(atI x1.Parts x7).From⟩⟩), .v (.int .i64 ((atI x1.Parts x7).Node)), .v (.int .i64 ((atI x1.Parts x7).Dest)), .v (.string ⟨⟨(atI x1.Parts x7).Done⟩⟩)] 60] ∧ SlAt cTPart V' a2 k2 x1.Parts ∧ F_clockworkref29_Valid_L2 x7 x1 J22 n26 x25 = some r) ⟨((x7).toNat + 1), [(1, .ptr 0 0), (3, .v (.int .i64 ((((x1.Parts).length : Nat) : Int)))), (4, .v (.int .i64 (x7))), (5, .ptr 1 0), (7, .v (.int .i64 ((0 : Int))))], ⟨rfl, rfl, rfl, rfl, rfl, trivial⟩, (0 : Int), rfl, rfl, h16, hF⟩ ?_
       rintro n26 L' V27 M' ⟨x25, rfl, rfl, h28, hF⟩
       rcases n26 with _ | n26
       ·exact absurd hF (by simp [F_clockworkref29_Valid_L2])
       rw [F_clockworkref29_Valid_L2] at hF
       refine xr rfl ?_
       rcases cond_some hF with ⟨hb, hF⟩ | ⟨hb, hF⟩
       ·refine Exec.ifT rfl hb ?_
        refine xr rfl ?_
        refine Exec.draws tyOk [(0, true), (1, true), (2, true), (3, true), (4, true), (5, true), (6, true), (7, true), (8, true)] rfl (by kernel_rfl) ?_
        refine xr rfl ?_
        obtain ⟨q29, hF⟩ := req_some hF
        obtain ⟨c30, hr30, hd30⟩ := SlAt.get h28 q29
        obtain rfl := hr30
        refine Exec.fia tyOk rfl rfl rfl ⟨q29.1, q29.2, hd30.some⟩ ?_
        refine xr rfl ?_
        refine Exec.fld tyOk (x := .int .i64 ((atI x1.Parts x25).Id)) rfl rfl rfl (RdAt.part hd30 0 1 rfl) rfl rfl ?_
        refine xr rfl ?_
        rcases cond_some hF with ⟨hb, hF⟩ | ⟨hb, hF⟩
        ·refine Exec.ifT rfl hb ?_
         refine xr rfl ?_
         obtain rfl := some_inj hF
         exact Exec.ret tyOk rfl rfl rfl
        ·refine Exec.ifF rfl hb ?_
         refine xr rfl ?_
         exact Exec.round [(1, .ptr 0 0), (3, .v (.int .i64 ((((x1.Parts).length : Nat) : Int)))), (4, .v (.int .i64 (x7))), (5, .ptr 1 0), (7, .v (.int .i64 ((IntKind.i64.wrap (x25 + (1 : Int))))))] ⟨rfl, rfl, rfl, rfl, rfl, trivial⟩ ⟨n26, Nat.lt_succ_self _, (IntKind.i64.wrap (x25 + (1 : Int))), rfl, rfl, h28, hF⟩
       ·refine Exec.ifF rfl hb ?_
        refine xr rfl ?_
        refine Exec.cut 1 [(1, .ptr 0 0), (3, .v (.int .i64 ((((x1.Parts).length : Nat) : Int)))), (4, .v (.int .i64 (x7)))] (M' := [.blk [.v (.int .i64 (x1.Version)), .v (.slice a2 ((x1.Parts).length) (k2))] 24]) rfl ⟨rfl, rfl, rfl, trivial⟩ rfl rfl rfl ?_
        exact Exec.round [(1, .ptr 0 0), (3, .v (.int .i64 ((((x1.Parts).length : Nat) : Int)))), (4, .v (.int .i64 (x7)))] ⟨rfl, rfl, rfl, trivial⟩ ⟨rfl, rfl, h28, hF⟩
    ·refine xr rfl ?_
     rcases cond_some hF with ⟨hb, hF⟩ | ⟨hb, hF⟩
     ·refine Exec.ifT rfl hb ?_
      refine xr rfl ?_
      obtain ⟨q31, hF⟩ := req_some hF
      obtain ⟨c32, hr32, hd32⟩ := SlAt.get h10 q31
      obtain rfl := hr32
      refine Exec.ia tyOk rfl rfl ⟨q31.1, q31.2, hd32.some⟩ ?_
      refine xr rfl ?_
      refine Exec.ld tyOk (x := .string ⟨⟨(atI x1.Parts ((IntKind.i64.wrap (x7 + (1 : Int))))).From⟩⟩) rfl rfl (RdAt.part hd32 1 1 rfl) rfl rfl ?_
      refine xr rfl ?_
      exact Exec.round [(1, .ptr 0 0), (3, .v (.int .i64 ((((x1.Parts).length : Nat) : Int)))), (4, .v (.int .i64 (x7))), (5, .ptr 1 0), (6, .v (.string ⟨⟨(atI x1.Parts ((IntKind.i64.wrap (x7 + (1 : Int))))).From⟩⟩))] ⟨rfl, rfl, rfl, rfl, rfl, trivial⟩ ⟨(atI x1.Parts ((IntKind.i64.wrap (x7 + (1 : Int))))).From, rfl, rfl, h10, hF⟩
     ·refine Exec.ifF rfl hb ?_
      refine xr rfl ?_
      exact Exec.round [(1, .ptr 0 0), (3, .v (.int .i64 ((((x1.Parts).length : Nat) : Int)))), (4, .v (.int .i64 (x7))), (5, .ptr 1 0), (6, .v (.string ⟨⟨([] : Str)⟩⟩))] ⟨rfl, rfl, rfl, rfl, rfl, trivial⟩ ⟨([] : Str), rfl, rfl, h10, hF⟩
   ·refine Exec.ifF rfl hb ?_
    refine xr rfl ?_
    refine Exec.cut 0 [] (M' := []) rfl trivial rfl rfl rfl ?_
    exact Exec.round [] trivial ⟨rfl, rfl, hF⟩
def F_clockworkref34_Valid_L1 (x1 : List THeat) (J3 : Option Bool) : Nat → Int → Option Bool
 | 0, _ => none
 | n7 + 1, x6 => (cond (decide (x6 < (((x1).length : Nat) : Int))) (req (0 ≤ x6 ∧ x6 < ((x1).length : Int)) (bnd (F_clockworkref04_Valid ((atI x1 x6).Key)) fun x12 => (req ((((!x12)) == false) = true → 0 ≤ x6 ∧ x6 < ((x1).length : Int)) (req (((((!x12) || (decide ((cond (((!x12)) == false) (atI x1 x6) default).Count < (1 : Int))))) == false) = true → 0 ≤ x6 ∧ x6 < ((x1).length : Int)) (req (((((decide ((0 : Int) < x6))) == true) && (((((!x12) || (decide ((cond (((!x12)) == false) (atI x1 x6) default).Count < (1 : Int)))) || (decide ((1099511627776 : Int) < (cond ((((!x12) || (decide ((cond (((!x12)) == false) (atI x1 x6) default).Count < (1 : Int))))) == false) (atI x1 x6) default).Count)))) == false)) = true → 0 ≤ x6 ∧ x6 < ((x1).length : Int)) (req (((((decide ((0 : Int) < x6))) == true) && (((((!x12) || (decide ((cond (((!x12)) == false) (atI x1 x6) default).Count < (1 : Int)))) || (decide ((1099511627776 : Int) < (cond ((((!x12) || (decide ((cond (((!x12)) == false) (atI x1 x6) default).Count < (1 : Int))))) == false) (atI x1 x6) default).Count)))) == false)) = true → 0 ≤ (IntKind.i64.wrap (x6 - (1 : Int))) ∧ (IntKind.i64.wrap (x6 - (1 : Int))) < ((x1).length : Int)) (cond ((((!x12) || (decide ((cond (((!x12)) == false) (atI x1 x6) default).Count < (1 : Int)))) || (decide ((1099511627776 : Int) < (cond ((((!x12) || (decide ((cond (((!x12)) == false) (atI x1 x6) default).Count < (1 : Int))))) == false) (atI x1 x6) default).Count))) || ((decide ((0 : Int) < x6)) && (!sLt (cond ((((decide ((0 : Int) < x6))) == true) && (((((!x12) || (decide ((cond (((!x12)) == false) (atI x1 x6) default).Count < (1 : Int)))) || (decide ((1099511627776 : Int) < (cond ((((!x12) || (decide ((cond (((!x12)) == false) (atI x1 x6) default).Count < (1 : Int))))) == false) (atI x1 x6) default).Count)))) == false)) (atI x1 ((IntKind.i64.wrap (x6 - (1 : Int))))) default).Key (cond ((((decide ((0 : Int) < x6))) == true) && (((((!x12) || (decide ((cond (((!x12)) == false) (atI x1 x6) default).Count < (1 : Int)))) || (decide ((1099511627776 : Int) < (cond ((((!x12) || (decide ((cond (((!x12)) == false) (atI x1 x6) default).Count < (1 : Int))))) == false) (atI x1 x6) default).Count)))) == false)) (atI x1 x6) default).Key))) (some false) (F_clockworkref34_Valid_L1 x1 J3 n7 ((IntKind.i64.wrap (x6 + (1 : Int)))))))))))) J3)
def F_clockworkref34_Valid (x1 : List THeat) : Option Bool :=
 (jn ((some (decide ((((x1).length : Nat) : Int) ≤ (32 : Int))))) (fun J3 => (F_clockworkref34_Valid_L1 x1 J3 (((((x1).length : Nat) : Int)).toNat + 1) ((0 : Int)))))
theorem W_clockworkref34_Valid {V : View} (x1 : List THeat) {a2 : Option Addr} {k2 : Nat} (h2 : SlAt cTHeat V a2 k2 x1) {r : Bool} (hF : F_clockworkref34_Valid x1 = some r) :
  Spec Tryz.prog 40 [.slice a2 ((x1).length) (k2)] V (fun _ v => v = .bool (r)) := by
 unfold F_clockworkref34_Valid at hF
 refine Spec.enter (T := tyT) Tryz.func40 rfl (by kernel_rfl) rfl rfl rfl ?_
 refine Exec.run tyOk 9 rfl ?_
 obtain ⟨J3, hJ3, hF⟩ := jn_some hF
 refine Exec.seam (fun L' V' M' => L' = [(0, .v (.slice a2 ((x1).length) (k2)))] ∧ M' = [] ∧ SlAt cTHeat V' a2 k2 x1 ∧ J3 = some r) rfl ?_ ?_
 ·rintro L' V4 M' ⟨rfl, rfl, h5, hF⟩
  subst hJ3
  refine xr rfl ?_
  obtain rfl := some_inj hF
  exact Exec.ret tyOk rfl rfl rfl
 ·refine xr rfl ?_
  refine Exec.loop (fun n7 L' V' M' => ∃ (x6 : Int), L' = [(0, .v (.slice a2 ((x1).length) (k2))), (3, .v (.int .i64 (x6)))] ∧ M' = [] ∧ SlAt cTHeat V' a2 k2 x1 ∧ F_clockworkref34_Valid_L1 x1 J3 n7 x6 = some r) ⟨(((((x1).length : Nat) : Int)).toNat + 1), [(0, .v (.slice a2 ((x1).length) (k2))), (3, .v (.int .i64 ((0 : Int))))], ⟨rfl, rfl, trivial⟩, (0 : Int), rfl, rfl, h2, hF⟩ ?_
  rintro n7 L' V8 M' ⟨x6, rfl, rfl, h9, hF⟩
  rcases n7 with _ | n7
  ·exact absurd hF (by simp [F_clockworkref34_Valid_L1])
  rw [F_clockworkref34_Valid_L1] at hF
  refine xr rfl ?_
  rcases cond_some hF with ⟨hb, hF⟩ | ⟨hb, hF⟩
  ·refine Exec.ifT rfl hb ?_
   refine xr rfl ?_
   refine Exec.draws tyOk [(0, true), (1, true), (2, true), (3, true), (4, true), (5, false), (6, false), (7, false), (8, true), (9, false), (10, false), (11, false), (12, false), (13, false), (14, false), (15, false), (16, true), (17, false), (18, false), (19, false), (20, false), (21, false), (22, false), (23, false), (24, false), (25, false), (26, false), (27, true), (28, true), (29, true), (30, true), (31, true), (32, true), (33, false), (34, false), (35, false), (36, false), (37, false), (38, false), (39, false), (40, false)] rfl (by kernel_rfl) ?_
   refine xr rfl ?_
   obtain ⟨q10, hF⟩ := req_some hF
   obtain ⟨c11, hr11, hd11⟩ := SlAt.get h9 q10
   obtain rfl := hr11
   refine Exec.fia tyOk rfl rfl rfl ⟨q10.1, q10.2, hd11.some⟩ ?_
   refine xr rfl ?_
   refine Exec.fld tyOk (x := .string ⟨⟨(atI x1 x6).Key⟩⟩) rfl rfl rfl (RdAt.part hd11 0 1 rfl) rfl rfl ?_
   refine xr rfl ?_
   obtain ⟨x12, hx12, hF⟩ := bnd_some hF
   refine Exec.callS (.bool (x12)) rfl rfl (W_clockworkref04_Valid ((atI x1 x6).Key)  hx12) ?_
   refine xr rfl ?_
   obtain ⟨q13, hF⟩ := req_some hF
   obtain ⟨c14, hr14, hd14⟩ := SlAt.gget (((!x12)) == false) h9 q13
   obtain rfl := hr14
   refine Exec.ia tyOk rfl rfl (fun gg0 => ⟨(q13 (gd1_of gg0)).1, (q13 (gd1_of gg0)).2, (hd14 (gd1_of gg0)).some⟩) ?_
   refine xr rfl ?_
   refine Exec.ld tyOk (x := .int .i64 ((cond (((!x12)) == false) (atI x1 x6) default).Count)) rfl rfl (fun gg0 => (RdAt.part (hd14 (gd1_of gg0)) 1 1 rfl)) rfl rfl ?_
   refine xr rfl ?_
   obtain ⟨q15, hF⟩ := req_some hF
   obtain ⟨c16, hr16, hd16⟩ := SlAt.gget ((((!x12) || (decide ((cond (((!x12)) == false) (atI x1 x6) default).Count < (1 : Int))))) == false) h9 q15
   obtain rfl := hr16
   refine Exec.ia tyOk rfl rfl (fun gg0 => ⟨(q15 (gd1_of gg0)).1, (q15 (gd1_of gg0)).2, (hd16 (gd1_of gg0)).some⟩) ?_
   refine xr rfl ?_
   refine Exec.ld tyOk (x := .int .i64 ((cond ((((!x12) || (decide ((cond (((!x12)) == false) (atI x1 x6) default).Count < (1 : Int))))) == false) (atI x1 x6) default).Count)) rfl rfl (fun gg0 => (RdAt.part (hd16 (gd1_of gg0)) 1 1 rfl)) rfl rfl ?_
   refine xr rfl ?_
   obtain ⟨q17, hF⟩ := req_some hF
   obtain ⟨c18, hr18, hd18⟩ := SlAt.gget ((((decide ((0 : Int) < x6))) == true) && (((((!x12) || (decide ((cond (((!x12)) == false) (atI x1 x6) default).Count < (1 : Int)))) || (decide ((1099511627776 : Int) < (cond ((((!x12) || (decide ((cond (((!x12)) == false) (atI x1 x6) default).Count < (1 : Int))))) == false) (atI x1 x6) default).Count)))) == false)) h9 q17
   obtain rfl := hr18
   refine Exec.fia tyOk rfl rfl rfl (fun gg0 gg1 => ⟨(q17 (gd2_of gg0 gg1)).1, (q17 (gd2_of gg0 gg1)).2, (hd18 (gd2_of gg0 gg1)).some⟩) ?_
   refine xr rfl ?_
   refine Exec.fld tyOk (x := .string ⟨⟨(cond ((((decide ((0 : Int) < x6))) == true) && (((((!x12) || (decide ((cond (((!x12)) == false) (atI x1 x6) default).Count < (1 : Int)))) || (decide ((1099511627776 : Int) < (cond ((((!x12) || (decide ((cond (((!x12)) == false) (atI x1 x6) default).Count < (1 : Int))))) == false) (atI x1 x6) default).Count)))) == false)) (atI x1 x6) default).Key⟩⟩) rfl rfl rfl (fun gg0 gg1 => (RdAt.part (hd18 (gd2_of gg0 gg1)) 0 1 rfl)) rfl rfl ?_
   refine xr rfl ?_
   obtain ⟨q19, hF⟩ := req_some hF
   obtain ⟨c20, hr20, hd20⟩ := SlAt.gget ((((decide ((0 : Int) < x6))) == true) && (((((!x12) || (decide ((cond (((!x12)) == false) (atI x1 x6) default).Count < (1 : Int)))) || (decide ((1099511627776 : Int) < (cond ((((!x12) || (decide ((cond (((!x12)) == false) (atI x1 x6) default).Count < (1 : Int))))) == false) (atI x1 x6) default).Count)))) == false)) h9 q19
   obtain rfl := hr20
   refine Exec.ia tyOk rfl rfl (fun gg0 gg1 => ⟨(q19 (gd2_of gg0 gg1)).1, (q19 (gd2_of gg0 gg1)).2, (hd20 (gd2_of gg0 gg1)).some⟩) ?_
   refine xr rfl ?_
   refine Exec.ld tyOk (x := .string ⟨⟨(cond ((((decide ((0 : Int) < x6))) == true) && (((((!x12) || (decide ((cond (((!x12)) == false) (atI x1 x6) default).Count < (1 : Int)))) || (decide ((1099511627776 : Int) < (cond ((((!x12) || (decide ((cond (((!x12)) == false) (atI x1 x6) default).Count < (1 : Int))))) == false) (atI x1 x6) default).Count)))) == false)) (atI x1 ((IntKind.i64.wrap (x6 - (1 : Int))))) default).Key⟩⟩) rfl rfl (fun gg0 gg1 => (RdAt.part (hd20 (gd2_of gg0 gg1)) 0 1 rfl)) rfl rfl ?_
   refine xr rfl ?_
   rcases cond_some hF with ⟨hb, hF⟩ | ⟨hb, hF⟩
   ·refine Exec.ifT rfl hb ?_
    refine xr rfl ?_
    obtain rfl := some_inj hF
    exact Exec.ret tyOk rfl rfl rfl
   ·refine Exec.ifF rfl hb ?_
    refine xr rfl ?_
    exact Exec.round [(0, .v (.slice a2 ((x1).length) (k2))), (3, .v (.int .i64 ((IntKind.i64.wrap (x6 + (1 : Int))))))] ⟨rfl, rfl, trivial⟩ ⟨n7, Nat.lt_succ_self _, (IntKind.i64.wrap (x6 + (1 : Int))), rfl, rfl, h9, hF⟩
  ·refine Exec.ifF rfl hb ?_
   refine xr rfl ?_
   exact Exec.round [(0, .v (.slice a2 ((x1).length) (k2)))] ⟨rfl, trivial⟩ ⟨rfl, rfl, h9, hF⟩
def F_clockworkref29_Split (x1 : TPlacement) (x3 : Int) (x4 : Str) (x5 : Int) : Option (TPlacement × Int) :=
 (bnd (F_clockworkref29_Valid x1) fun x6 => (cond (!x6) (some ((⟨0, ([] : List TPart)⟩ : TPlacement), (1 : Int))) (bnd (F_clockworkref29_Find x1 x3) fun x7 => (cond (decide (x7 < (0 : Int))) (some ((⟨0, ([] : List TPart)⟩ : TPlacement), (9 : Int))) (req (0 ≤ x7 ∧ x7 < ((x1.Parts).length : Int)) (cond ((atI x1.Parts x7).Dest != (0 : Int)) (some ((⟨0, ([] : List TPart)⟩ : TPlacement), (19 : Int))) (bnd (F_clockworkref29_end x1 x7) fun x10 => (bnd (F_clockworkref29_Bound x4) fun x11 => (req ((((!x11)) == false) = true → 0 ≤ x7 ∧ x7 < ((x1.Parts).length : Int)) (cond (((((!x11) || (!sLt (cond (((!x11)) == false) (atI x1.Parts x7) default).From x4)) || ((x10 != ([] : Str)) && (!sLt x4 x10))) || (decide (x5 < (1 : Int)))) || (decide ((1099511627776 : Int) < x5))) (some ((⟨0, ([] : List TPart)⟩ : TPlacement), (1 : Int))) (bnd (F_clockworkref29_Find x1 x5) fun x14 => (cond (decide ((0 : Int) ≤ x14)) (some ((⟨0, ([] : List TPart)⟩ : TPlacement), (8 : Int))) (cond ((decide ((16 : Int) ≤ (((x1.Parts).length : Nat) : Int))) || (decide ((1099511627776 : Int) ≤ x1.Version))) (some ((⟨0, ([] : List TPart)⟩ : TPlacement), (2 : Int))) (req (true = true → 0 ≤ (0 : Int) ∧ (0 : Int) ≤ (IntKind.i64.wrap (x7 + (1 : Int))) ∧ (IntKind.i64.wrap (x7 + (1 : Int))) ≤ ((x1.Parts).length : Int)) (req (((([] : List TPart) ++ (cond true ((x1.Parts.take ((IntKind.i64.wrap (x7 + (1 : Int)))).toNat).drop ((0 : Int)).toNat) ([] : List TPart)))).length * 56 ≤ 140737488355328) (req (0 ≤ x7 ∧ x7 < ((x1.Parts).length : Int)) (req ((((([] : List TPart) ++ (cond true ((x1.Parts.take ((IntKind.i64.wrap (x7 + (1 : Int)))).toNat).drop ((0 : Int)).toNat) ([] : List TPart))) ++ [(⟨x5, x4, (atI x1.Parts x7).Node, 0, []⟩ : TPart)])).length * 56 ≤ 140737488355328) (req (true = true → 0 ≤ (IntKind.i64.wrap (x7 + (1 : Int))) ∧ (IntKind.i64.wrap (x7 + (1 : Int))) ≤ (((x1.Parts).length : Nat) : Int) ∧ (((x1.Parts).length : Nat) : Int) ≤ ((x1.Parts).length : Int)) (req (((((([] : List TPart) ++ (cond true ((x1.Parts.take ((IntKind.i64.wrap (x7 + (1 : Int)))).toNat).drop ((0 : Int)).toNat) ([] : List TPart))) ++ [(⟨x5, x4, (atI x1.Parts x7).Node, 0, []⟩ : TPart)]) ++ (cond true ((x1.Parts.take ((((x1.Parts).length : Nat) : Int)).toNat).drop ((IntKind.i64.wrap (x7 + (1 : Int)))).toNat) ([] : List TPart)))).length * 56 ≤ 140737488355328) (some ((⟨(IntKind.i64.wrap (x1.Version + (1 : Int))), (((([] : List TPart) ++ (cond true ((x1.Parts.take ((IntKind.i64.wrap (x7 + (1 : Int)))).toNat).drop ((0 : Int)).toNat) ([] : List TPart))) ++ [(⟨x5, x4, (atI x1.Parts x7).Node, 0, []⟩ : TPart)]) ++ (cond true ((x1.Parts.take ((((x1.Parts).length : Nat) : Int)).toNat).drop ((IntKind.i64.wrap (x7 + (1 : Int)))).toNat) ([] : List TPart)))⟩ : TPlacement), (0 : Int))))))))))))))))))))))
def F_clockworkref29_Merge (x1 : TPlacement) (x3 : Int) : Option (TPlacement × Int) :=
 (bnd (F_clockworkref29_Valid x1) fun x4 => (cond (!x4) (some ((⟨0, ([] : List TPart)⟩ : TPlacement), (1 : Int))) (bnd (F_clockworkref29_Find x1 x3) fun x5 => (cond ((decide (x5 < (0 : Int))) || (decide ((((x1.Parts).length : Nat) : Int) ≤ (IntKind.i64.wrap (x5 + (1 : Int)))))) (some ((⟨0, ([] : List TPart)⟩ : TPlacement), (9 : Int))) (req (0 ≤ x5 ∧ x5 < ((x1.Parts).length : Int)) (req (((((atI x1.Parts x5).Dest != (0 : Int))) == false) = true → 0 ≤ (IntKind.i64.wrap (x5 + (1 : Int))) ∧ (IntKind.i64.wrap (x5 + (1 : Int))) < ((x1.Parts).length : Int)) (req ((((((atI x1.Parts x5).Dest != (0 : Int)) || ((cond ((((atI x1.Parts x5).Dest != (0 : Int))) == false) (atI x1.Parts ((IntKind.i64.wrap (x5 + (1 : Int))))) default).Dest != (0 : Int)))) == false) = true → 0 ≤ x5 ∧ x5 < ((x1.Parts).length : Int)) (req ((((((atI x1.Parts x5).Dest != (0 : Int)) || ((cond ((((atI x1.Parts x5).Dest != (0 : Int))) == false) (atI x1.Parts ((IntKind.i64.wrap (x5 + (1 : Int))))) default).Dest != (0 : Int)))) == false) = true → 0 ≤ (IntKind.i64.wrap (x5 + (1 : Int))) ∧ (IntKind.i64.wrap (x5 + (1 : Int))) < ((x1.Parts).length : Int)) (cond ((((atI x1.Parts x5).Dest != (0 : Int)) || ((cond ((((atI x1.Parts x5).Dest != (0 : Int))) == false) (atI x1.Parts ((IntKind.i64.wrap (x5 + (1 : Int))))) default).Dest != (0 : Int))) || ((cond (((((atI x1.Parts x5).Dest != (0 : Int)) || ((cond ((((atI x1.Parts x5).Dest != (0 : Int))) == false) (atI x1.Parts ((IntKind.i64.wrap (x5 + (1 : Int))))) default).Dest != (0 : Int)))) == false) (atI x1.Parts x5) default).Node != (cond (((((atI x1.Parts x5).Dest != (0 : Int)) || ((cond ((((atI x1.Parts x5).Dest != (0 : Int))) == false) (atI x1.Parts ((IntKind.i64.wrap (x5 + (1 : Int))))) default).Dest != (0 : Int)))) == false) (atI x1.Parts ((IntKind.i64.wrap (x5 + (1 : Int))))) default).Node)) (some ((⟨0, ([] : List TPart)⟩ : TPlacement), (19 : Int))) (cond (decide ((1099511627776 : Int) ≤ x1.Version)) (some ((⟨0, ([] : List TPart)⟩ : TPlacement), (2 : Int))) (req (true = true → 0 ≤ (0 : Int) ∧ (0 : Int) ≤ (IntKind.i64.wrap (x5 + (1 : Int))) ∧ (IntKind.i64.wrap (x5 + (1 : Int))) ≤ ((x1.Parts).length : Int)) (req (((([] : List TPart) ++ (cond true ((x1.Parts.take ((IntKind.i64.wrap (x5 + (1 : Int)))).toNat).drop ((0 : Int)).toNat) ([] : List TPart)))).length * 56 ≤ 140737488355328) (req (true = true → 0 ≤ (IntKind.i64.wrap (x5 + (2 : Int))) ∧ (IntKind.i64.wrap (x5 + (2 : Int))) ≤ (((x1.Parts).length : Nat) : Int) ∧ (((x1.Parts).length : Nat) : Int) ≤ ((x1.Parts).length : Int)) (req ((((([] : List TPart) ++ (cond true ((x1.Parts.take ((IntKind.i64.wrap (x5 + (1 : Int)))).toNat).drop ((0 : Int)).toNat) ([] : List TPart))) ++ (cond true ((x1.Parts.take ((((x1.Parts).length : Nat) : Int)).toNat).drop ((IntKind.i64.wrap (x5 + (2 : Int)))).toNat) ([] : List TPart)))).length * 56 ≤ 140737488355328) (some ((⟨(IntKind.i64.wrap (x1.Version + (1 : Int))), ((([] : List TPart) ++ (cond true ((x1.Parts.take ((IntKind.i64.wrap (x5 + (1 : Int)))).toNat).drop ((0 : Int)).toNat) ([] : List TPart))) ++ (cond true ((x1.Parts.take ((((x1.Parts).length : Nat) : Int)).toNat).drop ((IntKind.i64.wrap (x5 + (2 : Int)))).toNat) ([] : List TPart)))⟩ : TPlacement), (0 : Int)))))))))))))))))
def F_clockworkref33_Moving_L1 (x1 : TPlacement) (J6 : (List Int) → Option (List Int)) : Nat → (List Int) → Int → Option (List Int)
 | 0, _, _ => none
 | n14 + 1, x12, x13 => (bnd (gcall (((decide (x13 < (((x1.Parts).length : Nat) : Int)))) == true) (F_clockworkref29_Valid x1)) fun x17 => (cond ((decide (x13 < (((x1.Parts).length : Nat) : Int))) && x17) (req (0 ≤ x13 ∧ x13 < ((x1.Parts).length : Int)) (jn (fun (x21 : List Int) => (F_clockworkref33_Moving_L1 x1 J6 n14 x21 ((IntKind.i64.wrap (x13 + (1 : Int)))))) (fun J22 => (cond ((atI x1.Parts x13).Dest != (0 : Int)) (req (0 ≤ x13 ∧ x13 < ((x1.Parts).length : Int)) (req (((x12 ++ [(atI x1.Parts x13).Id])).length * 8 ≤ 140737488355328) (J22 ((x12 ++ [(atI x1.Parts x13).Id]))))) (J22 x12))))) (J6 x12)))
def F_clockworkref33_Moving (x1 : TPlacement) : Option (List Int) :=
 (jn (fun (x5 : List Int) => (some x5)) (fun J6 => (F_clockworkref33_Moving_L1 x1 J6 (1000000 : Nat) (([] : List Int)) ((0 : Int)))))
theorem W_clockworkref33_Moving {V : View} (x1 : TPlacement) {a2 : Option Addr} {k2 : Nat} (h2 : SlAt cTPart V a2 k2 x1.Parts) {r : List Int} (hF : F_clockworkref33_Moving x1 = some r) :
  Spec Tryz.prog 55 [.agg ⟨[.int .i64 (x1.Version), .slice a2 ((x1.Parts).length) (k2)]⟩] V (fun V' v => ∃ (a29 : Option Addr) (k29 : Nat), v = .slice a29 ((r).length) (k29) ∧ SlAt (cInt .i64) V' a29 k29 r) := by
 unfold F_clockworkref33_Moving at hF
 refine Spec.enter (T := tyT) Tryz.func55 rfl (by kernel_rfl) rfl rfl rfl ?_
 refine Exec.run tyOk 14 rfl ?_
 refine Exec.row0 3 1 rfl ?_
 have h3 : RowRep (cInt .i64) V ([] : List Int) [] := RowRep.nil
 obtain ⟨J6, hJ6, hF⟩ := jn_some hF
 refine Exec.seam (fun L' V' M' => ∃ (x5 : List Int) (a4 : Option Addr) (k4 : Nat) (cs4 : List Value), L' = [(3, .v (.slice a4 ((x5).length) (k4)))] ∧ M' = [.blk [.v (.int .i64 (x1.Version)), .v (.slice a2 ((x1.Parts).length) (k2))] 24, .row (.slice a4 ((x5).length) (k4)) cs4 3 1] ∧ RowRep (cInt .i64) V' x5 cs4 ∧ SlAt cTPart V' a2 k2 x1.Parts ∧ J6 x5 = some r) rfl ?_ ?_
 ·rintro L' V7 M' ⟨x5, a4, k4, cs4, rfl, rfl, h4, h8, hF⟩
  subst hJ6
  refine xr rfl ?_
  refine Exec.frz 1 rfl rfl rfl (fun V9 hv9 hd9 hn9 => ?_)
  have hz9 := RowRep.slat h4 hv9 hd9 hn9
  have h10 := SlAt.mono h8 hv9
  obtain rfl := some_inj hF
  exact Exec.ret tyOk rfl rfl ⟨_, _, rfl, hz9⟩
 ·refine xr rfl ?_
  refine Exec.loop (fun n14 L' V' M' => ∃ (x12 : List Int) (a11 : Option Addr) (k11 : Nat) (cs11 : List Value) (x13 : Int), L' = [(1, .ptr 0 0), (3, .v (.slice a11 ((x12).length) (k11))), (4, .v (.int .i64 (x13)))] ∧ M' = [.blk [.v (.int .i64 (x1.Version)), .v (.slice a2 ((x1.Parts).length) (k2))] 24, .row (.slice a11 ((x12).length) (k11)) cs11 3 1] ∧ RowRep (cInt .i64) V' x12 cs11 ∧ SlAt cTPart V' a2 k2 x1.Parts ∧ F_clockworkref33_Moving_L1 x1 J6 n14 x12 x13 = some r) ⟨(1000000 : Nat), [(1, .ptr 0 0), (3, .v (.slice none ((([] : List Int)).length) (0))), (4, .v (.int .i64 ((0 : Int))))], ⟨rfl, rfl, rfl, trivial⟩, ([] : List Int), none, 0, [], (0 : Int), rfl, rfl, h3, h2, hF⟩ ?_
  rintro n14 L' V15 M' ⟨x12, a11, k11, cs11, x13, rfl, rfl, h11, h16, hF⟩
  rcases n14 with _ | n14
  ·exact absurd hF (by simp [F_clockworkref33_Moving_L1])
  rw [F_clockworkref33_Moving_L1] at hF
  refine xr rfl ?_
  obtain ⟨x17, hx17, hF⟩ := bnd_some hF
  refine Exec.callS (.bool (x17)) rfl rfl (fun gg0 => W_clockworkref29_Valid x1 h16 (gcall_some hx17 (gd1_of gg0))) ?_
  refine xr rfl ?_
  rcases cond_some hF with ⟨hb, hF⟩ | ⟨hb, hF⟩
  ·refine Exec.ifT rfl hb ?_
   refine xr rfl ?_
   obtain ⟨q18, hF⟩ := req_some hF
   obtain ⟨c19, hr19, hd19⟩ := SlAt.get h16 q18
   obtain rfl := hr19
   refine Exec.ia tyOk rfl rfl ⟨q18.1, q18.2, hd19.some⟩ ?_
   refine xr rfl ?_
   refine Exec.ld tyOk (x := .int .i64 ((atI x1.Parts x13).Dest)) rfl rfl (RdAt.part hd19 3 1 rfl) rfl rfl ?_
   refine xr rfl ?_
   obtain ⟨J22, hJ22, hF⟩ := jn_some hF
   refine Exec.seam (fun L' V' M' => ∃ (x21 : List Int) (a20 : Option Addr) (k20 : Nat) (cs20 : List Value), L' = [(1, .ptr 0 0), (3, .v (.slice a20 ((x21).length) (k20))), (4, .v (.int .i64 (x13)))] ∧ M' = [.blk [.v (.int .i64 (x1.Version)), .v (.slice a2 ((x1.Parts).length) (k2))] 24, .row (.slice a20 ((x21).length) (k20)) cs20 3 1] ∧ RowRep (cInt .i64) V' x21 cs20 ∧ SlAt cTPart V' a2 k2 x1.Parts ∧ J22 x21 = some r) rfl ?_ ?_
   ·rintro L' V23 M' ⟨x21, a20, k20, cs20, rfl, rfl, h20, h24, hF⟩
    subst hJ22
    refine xr rfl ?_
    exact Exec.round [(1, .ptr 0 0), (3, .v (.slice a20 ((x21).length) (k20))), (4, .v (.int .i64 ((IntKind.i64.wrap (x13 + (1 : Int))))))] ⟨rfl, rfl, rfl, trivial⟩ ⟨n14, Nat.lt_succ_self _, x21, a20, k20, cs20, (IntKind.i64.wrap (x13 + (1 : Int))), rfl, rfl, h20, h24, hF⟩
   ·refine xr rfl ?_
    rcases cond_some hF with ⟨hb, hF⟩ | ⟨hb, hF⟩
    ·refine Exec.ifT rfl hb ?_
     refine xr rfl ?_
     obtain ⟨q25, hF⟩ := req_some hF
     obtain ⟨c26, hr26, hd26⟩ := SlAt.get h16 q25
     obtain rfl := hr26
     refine Exec.ia tyOk rfl rfl ⟨q25.1, q25.2, hd26.some⟩ ?_
     refine xr rfl ?_
     refine Exec.ld tyOk (x := .int .i64 ((atI x1.Parts x13).Id)) rfl rfl (RdAt.part hd26 0 1 rfl) rfl rfl ?_
     refine xr rfl ?_
     refine Exec.bsl tyOk rfl rfl ?_
     refine xr rfl ?_
     obtain ⟨q28, hF⟩ := req_some hF
     refine Exec.app tyOk 1 2 (nm := ((x12 ++ [(atI x1.Parts x13).Id])).length) rfl rfl rfl rfl rfl rfl rfl rfl rfl (by simp) (fun _ _ => rfl) rfl q28 (fun a27 k27 => ?_)
     have h27 : RowRep (cInt .i64) V15 (x12 ++ [(atI x1.Parts x13).Id]) (cs11 ++ [.int .i64 ((atI x1.Parts x13).Id)]) := RowRep.app h11 ⟨_, _, rfl, rfl, rfl⟩
     refine xr rfl ?_
     refine Exec.cut 2 [(1, .ptr 0 0), (3, .v (.slice a27 (((x12 ++ [(atI x1.Parts x13).Id])).length) (k27))), (4, .v (.int .i64 (x13)))] (M' := [.blk [.v (.int .i64 (x1.Version)), .v (.slice a2 ((x1.Parts).length) (k2))] 24, .row (.slice a27 (((x12 ++ [(atI x1.Parts x13).Id])).length) (k27)) ((cs11 ++ [.int .i64 ((atI x1.Parts x13).Id)])) 3 1]) rfl ⟨rfl, rfl, rfl, trivial⟩ rfl rfl rfl ?_
     exact Exec.round [(1, .ptr 0 0), (3, .v (.slice a27 (((x12 ++ [(atI x1.Parts x13).Id])).length) (k27))), (4, .v (.int .i64 (x13)))] ⟨rfl, rfl, rfl, trivial⟩ ⟨(x12 ++ [(atI x1.Parts x13).Id]), a27, k27, (cs11 ++ [.int .i64 ((atI x1.Parts x13).Id)]), rfl, rfl, h27, h16, hF⟩
    ·refine Exec.ifF rfl hb ?_
     refine xr rfl ?_
     exact Exec.round [(1, .ptr 0 0), (3, .v (.slice a11 ((x12).length) (k11))), (4, .v (.int .i64 (x13)))] ⟨rfl, rfl, rfl, trivial⟩ ⟨x12, a11, k11, cs11, rfl, rfl, h11, h16, hF⟩
  ·refine Exec.ifF rfl hb ?_
   refine xr rfl ?_
   exact Exec.round [(3, .v (.slice a11 ((x12).length) (k11)))] ⟨rfl, trivial⟩ ⟨x12, a11, k11, cs11, rfl, rfl, h11, h16, hF⟩
def F_slices_ContainsFunc_api_Pair_api_Pair (x1 : List TPair) (g4 : TPair → Option Bool) : Option Bool :=
 (bnd (F_slices_IndexFunc_api_Pair_api_Pair x1 g4) fun x5 => (some (decide ((0 : Int) ≤ x5))))
theorem W_slices_ContainsFunc_api_Pair_api_Pair {V : View} (x1 : List TPair) (g4 : TPair → Option Bool) {f4 : Nat} {ca4 : List Value} {a2 : Option Addr} {k2 : Nat} (h2 : SlAt cTPair V a2 k2 x1) (hg4 : FnSpec1 Tryz.prog f4 ca4 V (fun (y : TPair) => .agg ⟨[.string ⟨⟨y.Key⟩⟩, .int .i64 (y.Val.Kind), .int .i64 (y.Val.N), .string ⟨⟨y.Val.S⟩⟩]⟩) (fun (r : Bool) => .bool (r)) g4) {r : Bool} (hF : F_slices_ContainsFunc_api_Pair_api_Pair x1 g4 = some r) :
  Spec Tryz.prog 64 [.slice a2 ((x1).length) (k2), .func (.func f4) #[] ⟨ca4⟩] V (fun _ v => v = .bool (r)) := by
 unfold F_slices_ContainsFunc_api_Pair_api_Pair at hF
 refine Spec.enter (T := tyT) Tryz.func64 rfl (by kernel_rfl) rfl rfl rfl ?_
 refine xr rfl ?_
 obtain ⟨x5, hx5, hF⟩ := bnd_some hF
 refine Exec.callS (.int .i64 (x5)) rfl rfl (W_slices_IndexFunc_api_Pair_api_Pair x1 g4 h2 hg4 hx5) ?_
 refine xr rfl ?_
 obtain rfl := some_inj hF
 exact Exec.ret tyOk rfl rfl rfl
def F_state_order (x1 : TPair) (x2 : TPair) : Option Int :=
 (bnd (F_strings_Compare x1.Key x2.Key) fun x3 => (some x3))
theorem W_state_order {V : View} (x1 : TPair) (x2 : TPair)   {r : Int} (hF : F_state_order x1 x2 = some r) :
  Spec Tryz.prog 68 [.agg ⟨[.string ⟨⟨x1.Key⟩⟩, .int .i64 (x1.Val.Kind), .int .i64 (x1.Val.N), .string ⟨⟨x1.Val.S⟩⟩]⟩, .agg ⟨[.string ⟨⟨x2.Key⟩⟩, .int .i64 (x2.Val.Kind), .int .i64 (x2.Val.N), .string ⟨⟨x2.Val.S⟩⟩]⟩] V (fun _ v => v = .int .i64 (r)) := by
 unfold F_state_order at hF
 refine Spec.enter (T := tyT) Tryz.func68 rfl (by kernel_rfl) rfl rfl rfl ?_
 refine xr rfl ?_
 obtain ⟨x3, hx3, hF⟩ := bnd_some hF
 refine Exec.callS (.int .i64 (x3)) rfl rfl (W_strings_Compare x1.Key x2.Key  hx3) ?_
 refine xr rfl ?_
 obtain rfl := some_inj hF
 exact Exec.ret tyOk rfl rfl rfl
def F_placement_find (x1 : List TPart) (x3 : Int) : Option Int :=
 (bnd (F_slices_IndexFunc_api_Part_api_Part x1 (fun y0 => F_placement_find_1 y0 x3)) fun x6 => (some x6))
theorem W_placement_find {V : View} (x1 : List TPart) (x3 : Int) {a2 : Option Addr} {k2 : Nat} (h2 : SlAt cTPart V a2 k2 x1) {r : Int} (hF : F_placement_find x1 x3 = some r) :
  Spec Tryz.prog 76 [.slice a2 ((x1).length) (k2), .int .i64 (x3)] V (fun _ v => v = .int .i64 (r)) := by
 unfold F_placement_find at hF
 refine Spec.enter (T := tyT) Tryz.func76 rfl (by kernel_rfl) rfl rfl rfl ?_
 refine xr rfl ?_
 refine Exec.openB 0 rfl rfl rfl rfl (fun _ => rfl) (fun _ => rfl) (fun V4 b4 hv4 hd4 => ?_)
 have h5 := SlAt.mono h2 hv4
 refine Exec.mkf rfl rfl ?_
 refine xr rfl ?_
 obtain ⟨x6, hx6, hF⟩ := bnd_some hF
 refine Exec.callS (.int .i64 (x6)) rfl rfl (W_slices_IndexFunc_api_Part_api_Part x1 (fun y0 => F_placement_find_1 y0 x3) h5 (fun V' hv y0 r hr => W_placement_find_1 y0 x3 (RdAt.mono hd4 hv) hr) hx6) ?_
 refine xr rfl ?_
 obtain rfl := some_inj hF
 exact Exec.ret tyOk rfl rfl rfl
def F_clockworkref29_Nodes_L2 (x1 : TPlacement) (x13 : Int) (J20 : Bool → Option (List Int)) : Nat → Bool → Int → Option (List Int)
 | 0, _, _ => none
 | n33 + 1, x31, x32 => (cond (decide (x32 < (((x1.Parts).length : Nat) : Int))) (req (((x31) == false) = true → 0 ≤ x32 ∧ x32 < ((x1.Parts).length : Int)) (req ((((x31 || ((cond ((x31) == false) (atI x1.Parts x32) default).Node == x13))) == false) = true → 0 ≤ x32 ∧ x32 < ((x1.Parts).length : Int)) (F_clockworkref29_Nodes_L2 x1 x13 J20 n33 (((x31 || ((cond ((x31) == false) (atI x1.Parts x32) default).Node == x13)) || ((cond (((x31 || ((cond ((x31) == false) (atI x1.Parts x32) default).Node == x13))) == false) (atI x1.Parts x32) default).Dest == x13))) ((IntKind.i64.wrap (x32 + (1 : Int))))))) (J20 x31))
def F_clockworkref29_Nodes_L1 (x1 : TPlacement) (J6 : (List Int) → Option (List Int)) : Nat → (List Int) → Int → Option (List Int)
 | 0, _, _ => none
 | n14 + 1, x12, x13 => (bnd (gcall (((decide (x13 ≤ (16 : Int)))) == true) (F_clockworkref29_Valid x1)) fun x17 => (cond ((decide (x13 ≤ (16 : Int))) && x17) (jn (fun (x19 : Bool) => (jn (fun (x24 : List Int) => (F_clockworkref29_Nodes_L1 x1 J6 n14 x24 ((IntKind.i64.wrap (x13 + (1 : Int)))))) (fun J25 => (cond x19 (req (((x12 ++ [x13])).length * 8 ≤ 140737488355328) (J25 ((x12 ++ [x13])))) (J25 x12))))) (fun J20 => (F_clockworkref29_Nodes_L2 x1 x13 J20 (((((x1.Parts).length : Nat) : Int)).toNat + 1) false ((0 : Int))))) (J6 x12)))
def F_clockworkref29_Nodes (x1 : TPlacement) : Option (List Int) :=
 (jn (fun (x5 : List Int) => (some x5)) (fun J6 => (F_clockworkref29_Nodes_L1 x1 J6 (1000000 : Nat) (([] : List Int)) ((1 : Int)))))
theorem W_clockworkref29_Nodes {V : View} (x1 : TPlacement) {a2 : Option Addr} {k2 : Nat} (h2 : SlAt cTPart V a2 k2 x1.Parts) {r : List Int} (hF : F_clockworkref29_Nodes x1 = some r) :
  Spec Tryz.prog 77 [.agg ⟨[.int .i64 (x1.Version), .slice a2 ((x1.Parts).length) (k2)]⟩] V (fun V' v => ∃ (a40 : Option Addr) (k40 : Nat), v = .slice a40 ((r).length) (k40) ∧ SlAt (cInt .i64) V' a40 k40 r) := by
 unfold F_clockworkref29_Nodes at hF
 refine Spec.enter (T := tyT) Tryz.func77 rfl (by kernel_rfl) rfl rfl rfl ?_
 refine Exec.run tyOk 14 rfl ?_
 refine Exec.row0 3 1 rfl ?_
 have h3 : RowRep (cInt .i64) V ([] : List Int) [] := RowRep.nil
 obtain ⟨J6, hJ6, hF⟩ := jn_some hF
 refine Exec.seam (fun L' V' M' => ∃ (x5 : List Int) (a4 : Option Addr) (k4 : Nat) (cs4 : List Value), L' = [(3, .v (.slice a4 ((x5).length) (k4)))] ∧ M' = [.blk [.v (.int .i64 (x1.Version)), .v (.slice a2 ((x1.Parts).length) (k2))] 24, .row (.slice a4 ((x5).length) (k4)) cs4 3 1] ∧ RowRep (cInt .i64) V' x5 cs4 ∧ SlAt cTPart V' a2 k2 x1.Parts ∧ J6 x5 = some r) rfl ?_ ?_
 ·rintro L' V7 M' ⟨x5, a4, k4, cs4, rfl, rfl, h4, h8, hF⟩
  subst hJ6
  refine xr rfl ?_
  refine Exec.frz 1 rfl rfl rfl (fun V9 hv9 hd9 hn9 => ?_)
  have hz9 := RowRep.slat h4 hv9 hd9 hn9
  have h10 := SlAt.mono h8 hv9
  obtain rfl := some_inj hF
  exact Exec.ret tyOk rfl rfl ⟨_, _, rfl, hz9⟩
 ·refine xr rfl ?_
  refine Exec.loop (fun n14 L' V' M' => ∃ (x12 : List Int) (a11 : Option Addr) (k11 : Nat) (cs11 : List Value) (x13 : Int), L' = [(1, .ptr 0 0), (3, .v (.slice a11 ((x12).length) (k11))), (4, .v (.int .i64 (x13)))] ∧ M' = [.blk [.v (.int .i64 (x1.Version)), .v (.slice a2 ((x1.Parts).length) (k2))] 24, .row (.slice a11 ((x12).length) (k11)) cs11 3 1] ∧ RowRep (cInt .i64) V' x12 cs11 ∧ SlAt cTPart V' a2 k2 x1.Parts ∧ F_clockworkref29_Nodes_L1 x1 J6 n14 x12 x13 = some r) ⟨(1000000 : Nat), [(1, .ptr 0 0), (3, .v (.slice none ((([] : List Int)).length) (0))), (4, .v (.int .i64 ((1 : Int))))], ⟨rfl, rfl, rfl, trivial⟩, ([] : List Int), none, 0, [], (1 : Int), rfl, rfl, h3, h2, hF⟩ ?_
  rintro n14 L' V15 M' ⟨x12, a11, k11, cs11, x13, rfl, rfl, h11, h16, hF⟩
  rcases n14 with _ | n14
  ·exact absurd hF (by simp [F_clockworkref29_Nodes_L1])
  rw [F_clockworkref29_Nodes_L1] at hF
  refine xr rfl ?_
  obtain ⟨x17, hx17, hF⟩ := bnd_some hF
  refine Exec.callS (.bool (x17)) rfl rfl (fun gg0 => W_clockworkref29_Valid x1 h16 (gcall_some hx17 (gd1_of gg0))) ?_
  refine xr rfl ?_
  rcases cond_some hF with ⟨hb, hF⟩ | ⟨hb, hF⟩
  ·refine Exec.ifT rfl hb ?_
   refine Exec.run tyOk 12 rfl ?_
   obtain ⟨J20, hJ20, hF⟩ := jn_some hF
   refine Exec.seam (fun L' V' M' => ∃ (x19 : Bool), L' = [(1, .ptr 0 0), (3, .v (.slice a11 ((x12).length) (k11))), (4, .v (.int .i64 (x13))), (5, .v (.bool (x19)))] ∧ M' = [.blk [.v (.int .i64 (x1.Version)), .v (.slice a2 ((x1.Parts).length) (k2))] 24, .row (.slice a11 ((x12).length) (k11)) cs11 3 1] ∧ RowRep (cInt .i64) V' x12 cs11 ∧ SlAt cTPart V' a2 k2 x1.Parts ∧ J20 x19 = some r) rfl ?_ ?_
   ·rintro L' V21 M' ⟨x19, rfl, rfl, h18, h22, hF⟩
    subst hJ20
    refine xr rfl ?_
    obtain ⟨J25, hJ25, hF⟩ := jn_some hF
    refine Exec.seam (fun L' V' M' => ∃ (x24 : List Int) (a23 : Option Addr) (k23 : Nat) (cs23 : List Value), L' = [(1, .ptr 0 0), (3, .v (.slice a23 ((x24).length) (k23))), (4, .v (.int .i64 (x13)))] ∧ M' = [.blk [.v (.int .i64 (x1.Version)), .v (.slice a2 ((x1.Parts).length) (k2))] 24, .row (.slice a23 ((x24).length) (k23)) cs23 3 1] ∧ RowRep (cInt .i64) V' x24 cs23 ∧ SlAt cTPart V' a2 k2 x1.Parts ∧ J25 x24 = some r) rfl ?_ ?_
    ·rintro L' V26 M' ⟨x24, a23, k23, cs23, rfl, rfl, h23, h27, hF⟩
     subst hJ25
     refine xr rfl ?_
     exact Exec.round [(1, .ptr 0 0), (3, .v (.slice a23 ((x24).length) (k23))), (4, .v (.int .i64 ((IntKind.i64.wrap (x13 + (1 : Int))))))] ⟨rfl, rfl, rfl, trivial⟩ ⟨n14, Nat.lt_succ_self _, x24, a23, k23, cs23, (IntKind.i64.wrap (x13 + (1 : Int))), rfl, rfl, h23, h27, hF⟩
    ·refine xr rfl ?_
     rcases cond_some hF with ⟨hb, hF⟩ | ⟨hb, hF⟩
     ·refine Exec.ifT rfl hb ?_
      refine xr rfl ?_
      refine Exec.bsl tyOk rfl rfl ?_
      refine xr rfl ?_
      obtain ⟨q29, hF⟩ := req_some hF
      refine Exec.app tyOk 1 2 (nm := ((x12 ++ [x13])).length) rfl rfl rfl rfl rfl rfl rfl rfl rfl (by simp) (fun _ _ => rfl) rfl q29 (fun a28 k28 => ?_)
      have h28 : RowRep (cInt .i64) V21 (x12 ++ [x13]) (cs11 ++ [.int .i64 (x13)]) := RowRep.app h18 ⟨_, _, rfl, rfl, rfl⟩
      refine xr rfl ?_
      refine Exec.cut 2 [(1, .ptr 0 0), (3, .v (.slice a28 (((x12 ++ [x13])).length) (k28))), (4, .v (.int .i64 (x13)))] (M' := [.blk [.v (.int .i64 (x1.Version)), .v (.slice a2 ((x1.Parts).length) (k2))] 24, .row (.slice a28 (((x12 ++ [x13])).length) (k28)) ((cs11 ++ [.int .i64 (x13)])) 3 1]) rfl ⟨rfl, rfl, rfl, trivial⟩ rfl rfl rfl ?_
      exact Exec.round [(1, .ptr 0 0), (3, .v (.slice a28 (((x12 ++ [x13])).length) (k28))), (4, .v (.int .i64 (x13)))] ⟨rfl, rfl, rfl, trivial⟩ ⟨(x12 ++ [x13]), a28, k28, (cs11 ++ [.int .i64 (x13)]), rfl, rfl, h28, h22, hF⟩
     ·refine Exec.ifF rfl hb ?_
      refine xr rfl ?_
      exact Exec.round [(1, .ptr 0 0), (3, .v (.slice a11 ((x12).length) (k11))), (4, .v (.int .i64 (x13)))] ⟨rfl, rfl, rfl, trivial⟩ ⟨x12, a11, k11, cs11, rfl, rfl, h18, h22, hF⟩
   ·refine xr rfl ?_
    refine Exec.loop (fun n33 L' V' M' => ∃ (x31 : Bool) (x32 : Int), L' = [(1, .ptr 0 0), (3, .v (.slice a11 ((x12).length) (k11))), (4, .v (.int .i64 (x13))), (5, .v (.bool (x31))), (6, .v (.int .i64 (x32)))] ∧ M' = [.blk [.v (.int .i64 (x1.Version)), .v (.slice a2 ((x1.Parts).length) (k2))] 24, .row (.slice a11 ((x12).length) (k11)) cs11 3 1] ∧ RowRep (cInt .i64) V' x12 cs11 ∧ SlAt cTPart V' a2 k2 x1.Parts ∧ F_clockworkref29_Nodes_L2 x1 x13 J20 n33 x31 x32 = some r) ⟨(((((x1.Parts).length : Nat) : Int)).toNat + 1), [(1, .ptr 0 0), (3, .v (.slice a11 ((x12).length) (k11))), (4, .v (.int .i64 (x13))), (5, .v (.bool (false))), (6, .v (.int .i64 ((0 : Int))))], ⟨rfl, rfl, rfl, rfl, rfl, trivial⟩, false, (0 : Int), rfl, rfl, h11, h16, hF⟩ ?_
    rintro n33 L' V34 M' ⟨x31, x32, rfl, rfl, h30, h35, hF⟩
    rcases n33 with _ | n33
    ·exact absurd hF (by simp [F_clockworkref29_Nodes_L2])
    rw [F_clockworkref29_Nodes_L2] at hF
    refine xr rfl ?_
    rcases cond_some hF with ⟨hb, hF⟩ | ⟨hb, hF⟩
    ·refine Exec.ifT rfl hb ?_
     refine xr rfl ?_
     obtain ⟨q36, hF⟩ := req_some hF
     obtain ⟨c37, hr37, hd37⟩ := SlAt.gget ((x31) == false) h35 q36
     obtain rfl := hr37
     refine Exec.ia tyOk rfl rfl (fun gg0 => ⟨(q36 (gd1_of gg0)).1, (q36 (gd1_of gg0)).2, (hd37 (gd1_of gg0)).some⟩) ?_
     refine xr rfl ?_
     refine Exec.ld tyOk (x := .int .i64 ((cond ((x31) == false) (atI x1.Parts x32) default).Node)) rfl rfl (fun gg0 => (RdAt.part (hd37 (gd1_of gg0)) 2 1 rfl)) rfl rfl ?_
     refine xr rfl ?_
     obtain ⟨q38, hF⟩ := req_some hF
     obtain ⟨c39, hr39, hd39⟩ := SlAt.gget (((x31 || ((cond ((x31) == false) (atI x1.Parts x32) default).Node == x13))) == false) h35 q38
     obtain rfl := hr39
     refine Exec.ia tyOk rfl rfl (fun gg0 => ⟨(q38 (gd1_of gg0)).1, (q38 (gd1_of gg0)).2, (hd39 (gd1_of gg0)).some⟩) ?_
     refine xr rfl ?_
     refine Exec.ld tyOk (x := .int .i64 ((cond (((x31 || ((cond ((x31) == false) (atI x1.Parts x32) default).Node == x13))) == false) (atI x1.Parts x32) default).Dest)) rfl rfl (fun gg0 => (RdAt.part (hd39 (gd1_of gg0)) 3 1 rfl)) rfl rfl ?_
     refine xr rfl ?_
     exact Exec.round [(1, .ptr 0 0), (3, .v (.slice a11 ((x12).length) (k11))), (4, .v (.int .i64 (x13))), (5, .v (.bool (((x31 || ((cond ((x31) == false) (atI x1.Parts x32) default).Node == x13)) || ((cond (((x31 || ((cond ((x31) == false) (atI x1.Parts x32) default).Node == x13))) == false) (atI x1.Parts x32) default).Dest == x13))))), (6, .v (.int .i64 ((IntKind.i64.wrap (x32 + (1 : Int))))))] ⟨rfl, rfl, rfl, rfl, rfl, trivial⟩ ⟨n33, Nat.lt_succ_self _, ((x31 || ((cond ((x31) == false) (atI x1.Parts x32) default).Node == x13)) || ((cond (((x31 || ((cond ((x31) == false) (atI x1.Parts x32) default).Node == x13))) == false) (atI x1.Parts x32) default).Dest == x13)), (IntKind.i64.wrap (x32 + (1 : Int))), rfl, rfl, h30, h35, hF⟩
    ·refine Exec.ifF rfl hb ?_
     refine xr rfl ?_
     exact Exec.round [(1, .ptr 0 0), (3, .v (.slice a11 ((x12).length) (k11))), (4, .v (.int .i64 (x13))), (5, .v (.bool (x31)))] ⟨rfl, rfl, rfl, rfl, trivial⟩ ⟨x31, rfl, rfl, h30, h35, hF⟩
  ·refine Exec.ifF rfl hb ?_
   refine xr rfl ?_
   exact Exec.round [(3, .v (.slice a11 ((x12).length) (k11)))] ⟨rfl, trivial⟩ ⟨x12, a11, k11, cs11, rfl, rfl, h11, h16, hF⟩
def F_keys_Valid (x1 : Str) : Option Bool :=
 (bnd (gcall (((x1 != ([] : Str))) == true) (F_keys_consists x1 (fun y0 => F_keys_Valid_1 y0 ))) fun x2 => (some ((x1 != ([] : Str)) && x2)))
theorem W_keys_Valid {V : View} (x1 : Str)   {r : Bool} (hF : F_keys_Valid x1 = some r) :
  Spec Tryz.prog 80 [.string ⟨⟨x1⟩⟩] V (fun _ v => v = .bool (r)) := by
 unfold F_keys_Valid at hF
 refine Spec.enter (T := tyT) Tryz.func80 rfl (by kernel_rfl) rfl rfl rfl ?_
 refine xr rfl ?_
 obtain ⟨x2, hx2, hF⟩ := bnd_some hF
 refine Exec.callS (.bool (x2)) rfl rfl (fun gg0 => W_keys_consists x1 (fun y0 => F_keys_Valid_1 y0 ) (fun V' hv y0 r hr => W_keys_Valid_1 y0   hr) (gcall_some hx2 (gd1_of gg0))) ?_
 refine xr rfl ?_
 obtain rfl := some_inj hF
 exact Exec.ret tyOk rfl rfl rfl
def F_clockworkref29_Range (x1 : TPlacement) (x3 : Int) : Option (TRange × Int) :=
 (bnd (F_clockworkref29_Valid x1) fun x4 => (cond (!x4) (some ((⟨[], []⟩ : TRange), (1 : Int))) (bnd (F_clockworkref29_Find x1 x3) fun x5 => (cond (decide (x5 < (0 : Int))) (some ((⟨[], []⟩ : TRange), (9 : Int))) (req (0 ≤ x5 ∧ x5 < ((x1.Parts).length : Int)) (bnd (F_clockworkref29_end x1 x5) fun x8 => (some ((⟨(atI x1.Parts x5).From, x8⟩ : TRange), (0 : Int)))))))))
def F_clockworkref34_Hot_L1 (x1 : List THeat) (x3 : Int) (J8 : (List Str) → Option (List Str)) : Nat → (List Str) → Int → Option (List Str)
 | 0, _, _ => none
 | n14 + 1, x12, x13 => (cond (decide (x13 < (((x1).length : Nat) : Int))) (req (0 ≤ x13 ∧ x13 < ((x1).length : Int)) (jn (fun (x20 : List Str) => (F_clockworkref34_Hot_L1 x1 x3 J8 n14 x20 ((IntKind.i64.wrap (x13 + (1 : Int)))))) (fun J21 => (cond (decide (x3 ≤ (atI x1 x13).Count)) (req (0 ≤ x13 ∧ x13 < ((x1).length : Int)) (req (((x12 ++ [(atI x1 x13).Key])).length * 16 ≤ 140737488355328) (J21 ((x12 ++ [(atI x1 x13).Key]))))) (J21 x12))))) (J8 x12))
def F_clockworkref34_Hot (x1 : List THeat) (x3 : Int) : Option (List Str) :=
 (bnd (F_clockworkref34_Valid x1) fun x4 => (cond (!x4) (some ([] : List Str)) (jn (fun (x7 : List Str) => (some x7)) (fun J8 => (F_clockworkref34_Hot_L1 x1 x3 J8 (((((x1).length : Nat) : Int)).toNat + 1) (([] : List Str)) ((0 : Int)))))))
theorem W_clockworkref34_Hot {V : View} (x1 : List THeat) (x3 : Int) {a2 : Option Addr} {k2 : Nat} (h2 : SlAt cTHeat V a2 k2 x1) {r : List Str} (hF : F_clockworkref34_Hot x1 x3 = some r) :
  Spec Tryz.prog 96 [.slice a2 ((x1).length) (k2), .int .i64 (x3)] V (fun V' v => ∃ (a28 : Option Addr) (k28 : Nat), v = .slice a28 ((r).length) (k28) ∧ SlAt cStr V' a28 k28 r) := by
 unfold F_clockworkref34_Hot at hF
 refine Spec.enter (T := tyT) Tryz.func96 rfl (by kernel_rfl) rfl rfl rfl ?_
 refine xr rfl ?_
 obtain ⟨x4, hx4, hF⟩ := bnd_some hF
 refine Exec.callS (.bool (x4)) rfl rfl (W_clockworkref34_Valid x1 h2 hx4) ?_
 refine xr rfl ?_
 rcases cond_some hF with ⟨hb, hF⟩ | ⟨hb, hF⟩
 ·refine Exec.ifT rfl hb ?_
  refine xr rfl ?_
  obtain rfl := some_inj hF
  exact Exec.ret tyOk rfl rfl ⟨_, _, rfl, SlAt.nil⟩
 ·refine Exec.ifF rfl hb ?_
  refine Exec.run tyOk 6 rfl ?_
  refine Exec.row0 9 1 rfl ?_
  have h5 : RowRep cStr V ([] : List Str) [] := RowRep.nil
  obtain ⟨J8, hJ8, hF⟩ := jn_some hF
  refine Exec.seam (fun L' V' M' => ∃ (x7 : List Str) (a6 : Option Addr) (k6 : Nat) (cs6 : List Value), L' = [(5, .v (.slice a6 ((x7).length) (k6)))] ∧ M' = [.row (.slice a6 ((x7).length) (k6)) cs6 9 1] ∧ RowRep cStr V' x7 cs6 ∧ J8 x7 = some r) rfl ?_ ?_
  ·rintro L' V9 M' ⟨x7, a6, k6, cs6, rfl, rfl, h6, hF⟩
   subst hJ8
   refine xr rfl ?_
   refine Exec.frz 0 rfl rfl rfl (fun V10 hv10 hd10 hn10 => ?_)
   have hz10 := RowRep.slat h6 hv10 hd10 hn10
   obtain rfl := some_inj hF
   exact Exec.ret tyOk rfl rfl ⟨_, _, rfl, hz10⟩
  ·refine xr rfl ?_
   refine Exec.loop (fun n14 L' V' M' => ∃ (x12 : List Str) (a11 : Option Addr) (k11 : Nat) (cs11 : List Value) (x13 : Int), L' = [(0, .v (.slice a2 ((x1).length) (k2))), (1, .v (.int .i64 (x3))), (5, .v (.slice a11 ((x12).length) (k11))), (6, .v (.int .i64 (x13)))] ∧ M' = [.row (.slice a11 ((x12).length) (k11)) cs11 9 1] ∧ RowRep cStr V' x12 cs11 ∧ SlAt cTHeat V' a2 k2 x1 ∧ F_clockworkref34_Hot_L1 x1 x3 J8 n14 x12 x13 = some r) ⟨(((((x1).length : Nat) : Int)).toNat + 1), [(0, .v (.slice a2 ((x1).length) (k2))), (1, .v (.int .i64 (x3))), (5, .v (.slice none ((([] : List Str)).length) (0))), (6, .v (.int .i64 ((0 : Int))))], ⟨rfl, rfl, rfl, rfl, trivial⟩, ([] : List Str), none, 0, [], (0 : Int), rfl, rfl, h5, h2, hF⟩ ?_
   rintro n14 L' V15 M' ⟨x12, a11, k11, cs11, x13, rfl, rfl, h11, h16, hF⟩
   rcases n14 with _ | n14
   ·exact absurd hF (by simp [F_clockworkref34_Hot_L1])
   rw [F_clockworkref34_Hot_L1] at hF
   refine xr rfl ?_
   rcases cond_some hF with ⟨hb, hF⟩ | ⟨hb, hF⟩
   ·refine Exec.ifT rfl hb ?_
    refine xr rfl ?_
    obtain ⟨q17, hF⟩ := req_some hF
    obtain ⟨c18, hr18, hd18⟩ := SlAt.get h16 q17
    obtain rfl := hr18
    refine Exec.ia tyOk rfl rfl ⟨q17.1, q17.2, hd18.some⟩ ?_
    refine xr rfl ?_
    refine Exec.ld tyOk (x := .int .i64 ((atI x1 x13).Count)) rfl rfl (RdAt.part hd18 1 1 rfl) rfl rfl ?_
    refine xr rfl ?_
    obtain ⟨J21, hJ21, hF⟩ := jn_some hF
    refine Exec.seam (fun L' V' M' => ∃ (x20 : List Str) (a19 : Option Addr) (k19 : Nat) (cs19 : List Value), L' = [(0, .v (.slice a2 ((x1).length) (k2))), (1, .v (.int .i64 (x3))), (5, .v (.slice a19 ((x20).length) (k19))), (6, .v (.int .i64 (x13)))] ∧ M' = [.row (.slice a19 ((x20).length) (k19)) cs19 9 1] ∧ RowRep cStr V' x20 cs19 ∧ SlAt cTHeat V' a2 k2 x1 ∧ J21 x20 = some r) rfl ?_ ?_
    ·rintro L' V22 M' ⟨x20, a19, k19, cs19, rfl, rfl, h19, h23, hF⟩
     subst hJ21
     refine xr rfl ?_
     exact Exec.round [(0, .v (.slice a2 ((x1).length) (k2))), (1, .v (.int .i64 (x3))), (5, .v (.slice a19 ((x20).length) (k19))), (6, .v (.int .i64 ((IntKind.i64.wrap (x13 + (1 : Int))))))] ⟨rfl, rfl, rfl, rfl, trivial⟩ ⟨n14, Nat.lt_succ_self _, x20, a19, k19, cs19, (IntKind.i64.wrap (x13 + (1 : Int))), rfl, rfl, h19, h23, hF⟩
    ·refine xr rfl ?_
     rcases cond_some hF with ⟨hb, hF⟩ | ⟨hb, hF⟩
     ·refine Exec.ifT rfl hb ?_
      refine xr rfl ?_
      obtain ⟨q24, hF⟩ := req_some hF
      obtain ⟨c25, hr25, hd25⟩ := SlAt.get h16 q24
      obtain rfl := hr25
      refine Exec.ia tyOk rfl rfl ⟨q24.1, q24.2, hd25.some⟩ ?_
      refine xr rfl ?_
      refine Exec.ld tyOk (x := .string ⟨⟨(atI x1 x13).Key⟩⟩) rfl rfl (RdAt.part hd25 0 1 rfl) rfl rfl ?_
      refine xr rfl ?_
      refine Exec.bsl tyOk rfl rfl ?_
      refine xr rfl ?_
      obtain ⟨q27, hF⟩ := req_some hF
      refine Exec.app tyOk 0 1 (nm := ((x12 ++ [(atI x1 x13).Key])).length) rfl rfl rfl rfl rfl rfl rfl rfl rfl (by simp) (fun _ _ => rfl) rfl q27 (fun a26 k26 => ?_)
      have h26 : RowRep cStr V15 (x12 ++ [(atI x1 x13).Key]) (cs11 ++ [.string ⟨⟨(atI x1 x13).Key⟩⟩]) := RowRep.app h11 ⟨_, _, rfl, rfl, rfl⟩
      refine xr rfl ?_
      refine Exec.cut 1 [(0, .v (.slice a2 ((x1).length) (k2))), (1, .v (.int .i64 (x3))), (5, .v (.slice a26 (((x12 ++ [(atI x1 x13).Key])).length) (k26))), (6, .v (.int .i64 (x13)))] (M' := [.row (.slice a26 (((x12 ++ [(atI x1 x13).Key])).length) (k26)) ((cs11 ++ [.string ⟨⟨(atI x1 x13).Key⟩⟩])) 9 1]) rfl ⟨rfl, rfl, rfl, rfl, trivial⟩ rfl rfl rfl ?_
      exact Exec.round [(0, .v (.slice a2 ((x1).length) (k2))), (1, .v (.int .i64 (x3))), (5, .v (.slice a26 (((x12 ++ [(atI x1 x13).Key])).length) (k26))), (6, .v (.int .i64 (x13)))] ⟨rfl, rfl, rfl, rfl, trivial⟩ ⟨(x12 ++ [(atI x1 x13).Key]), a26, k26, (cs11 ++ [.string ⟨⟨(atI x1 x13).Key⟩⟩]), rfl, rfl, h26, h16, hF⟩
     ·refine Exec.ifF rfl hb ?_
      refine xr rfl ?_
      exact Exec.round [(0, .v (.slice a2 ((x1).length) (k2))), (1, .v (.int .i64 (x3))), (5, .v (.slice a11 ((x12).length) (k11))), (6, .v (.int .i64 (x13)))] ⟨rfl, rfl, rfl, rfl, trivial⟩ ⟨x12, a11, k11, cs11, rfl, rfl, h11, h16, hF⟩
   ·refine Exec.ifF rfl hb ?_
    refine xr rfl ?_
    exact Exec.round [(5, .v (.slice a11 ((x12).length) (k11)))] ⟨rfl, trivial⟩ ⟨x12, a11, k11, cs11, rfl, rfl, h11, hF⟩
def F_migrate_find (x1 : TPlacement) (x3 : Int) : Option Int :=
 (bnd (F_slices_IndexFunc_api_Part_api_Part x1.Parts (fun y0 => F_migrate_find_1 y0 x3)) fun x6 => (some x6))
theorem W_migrate_find {V : View} (x1 : TPlacement) (x3 : Int) {a2 : Option Addr} {k2 : Nat} (h2 : SlAt cTPart V a2 k2 x1.Parts) {r : Int} (hF : F_migrate_find x1 x3 = some r) :
  Spec Tryz.prog 102 [.agg ⟨[.int .i64 (x1.Version), .slice a2 ((x1.Parts).length) (k2)]⟩, .int .i64 (x3)] V (fun _ v => v = .int .i64 (r)) := by
 unfold F_migrate_find at hF
 refine Spec.enter (T := tyT) Tryz.func102 rfl (by kernel_rfl) rfl rfl rfl ?_
 refine xr rfl ?_
 refine Exec.openB 1 rfl rfl rfl rfl (fun _ => rfl) (fun _ => rfl) (fun V4 b4 hv4 hd4 => ?_)
 have h5 := SlAt.mono h2 hv4
 refine Exec.mkf rfl rfl ?_
 refine xr rfl ?_
 obtain ⟨x6, hx6, hF⟩ := bnd_some hF
 refine Exec.callS (.int .i64 (x6)) rfl rfl (W_slices_IndexFunc_api_Part_api_Part x1.Parts (fun y0 => F_migrate_find_1 y0 x3) h5 (fun V' hv y0 r hr => W_migrate_find_1 y0 x3 (RdAt.mono hd4 hv) hr) hx6) ?_
 refine xr rfl ?_
 obtain rfl := some_inj hF
 exact Exec.ret tyOk rfl rfl rfl
def F_value_Valid (x1 : TValue) : Option Bool :=
 (cond (x1.Kind == (0 : Int)) (some ((x1.Kind == 0) && ((x1.N == 0) && ((x1.S == []) && true)))) (cond (x1.Kind == (1 : Int)) (some (x1.S == ([] : Str))) (cond (x1.Kind == (2 : Int)) (bnd (gcall (((x1.N == (0 : Int))) == true) (F_value_plain x1.S)) fun x2 => (some ((x1.N == (0 : Int)) && x2))) (some false))))
theorem W_value_Valid {V : View} (x1 : TValue)   {r : Bool} (hF : F_value_Valid x1 = some r) :
  Spec Tryz.prog 108 [.agg ⟨[.int .i64 (x1.Kind), .int .i64 (x1.N), .string ⟨⟨x1.S⟩⟩]⟩] V (fun _ v => v = .bool (r)) := by
 unfold F_value_Valid at hF
 refine Spec.enter (T := tyT) Tryz.func108 rfl (by kernel_rfl) rfl rfl rfl ?_
 refine xr rfl ?_
 rcases cond_some hF with ⟨hb, hF⟩ | ⟨hb, hF⟩
 ·refine Exec.ifT rfl hb ?_
  refine xr rfl ?_
  obtain rfl := some_inj hF
  exact Exec.ret tyOk rfl rfl rfl
 ·refine Exec.ifF rfl hb ?_
  refine xr rfl ?_
  rcases cond_some hF with ⟨hb, hF⟩ | ⟨hb, hF⟩
  ·refine Exec.ifT rfl hb ?_
   refine xr rfl ?_
   obtain rfl := some_inj hF
   exact Exec.ret tyOk rfl rfl rfl
  ·refine Exec.ifF rfl hb ?_
   refine xr rfl ?_
   rcases cond_some hF with ⟨hb, hF⟩ | ⟨hb, hF⟩
   ·refine Exec.ifT rfl hb ?_
    refine xr rfl ?_
    obtain ⟨x2, hx2, hF⟩ := bnd_some hF
    refine Exec.callS (.bool (x2)) rfl rfl (fun gg0 => W_value_plain x1.S  (gcall_some hx2 (gd1_of gg0))) ?_
    refine xr rfl ?_
    obtain rfl := some_inj hF
    exact Exec.ret tyOk rfl rfl rfl
   ·refine Exec.ifF rfl hb ?_
    refine xr rfl ?_
    obtain rfl := some_inj hF
    exact Exec.ret tyOk rfl rfl rfl
def F_clockworkref05_Valid (x1 : TValue) : Option Bool :=
 (cond (x1.Kind == (0 : Int)) (some ((x1.N == (0 : Int)) && (x1.S == ([] : Str)))) (cond (x1.Kind == (1 : Int)) (some (x1.S == ([] : Str))) (bnd (gcall ((((x1.Kind == (2 : Int)) && (x1.N == (0 : Int)))) == true) (F_clockworkref05_Plain x1.S)) fun x2 => (some (((x1.Kind == (2 : Int)) && (x1.N == (0 : Int))) && x2)))))
theorem W_clockworkref05_Valid {V : View} (x1 : TValue)   {r : Bool} (hF : F_clockworkref05_Valid x1 = some r) :
  Spec Tryz.prog 138 [.agg ⟨[.int .i64 (x1.Kind), .int .i64 (x1.N), .string ⟨⟨x1.S⟩⟩]⟩] V (fun _ v => v = .bool (r)) := by
 unfold F_clockworkref05_Valid at hF
 refine Spec.enter (T := tyT) Tryz.func138 rfl (by kernel_rfl) rfl rfl rfl ?_
 refine xr rfl ?_
 rcases cond_some hF with ⟨hb, hF⟩ | ⟨hb, hF⟩
 ·refine Exec.ifT rfl hb ?_
  refine xr rfl ?_
  obtain rfl := some_inj hF
  exact Exec.ret tyOk rfl rfl rfl
 ·refine Exec.ifF rfl hb ?_
  refine xr rfl ?_
  rcases cond_some hF with ⟨hb, hF⟩ | ⟨hb, hF⟩
  ·refine Exec.ifT rfl hb ?_
   refine xr rfl ?_
   obtain rfl := some_inj hF
   exact Exec.ret tyOk rfl rfl rfl
  ·refine Exec.ifF rfl hb ?_
   refine xr rfl ?_
   obtain ⟨x2, hx2, hF⟩ := bnd_some hF
   refine Exec.callS (.bool (x2)) rfl rfl (fun gg0 => W_clockworkref05_Plain x1.S  (gcall_some hx2 (gd1_of gg0))) ?_
   refine xr rfl ?_
   obtain rfl := some_inj hF
   exact Exec.ret tyOk rfl rfl rfl
end Go.Proofs.YtglnnhmmipopiaaGreat
