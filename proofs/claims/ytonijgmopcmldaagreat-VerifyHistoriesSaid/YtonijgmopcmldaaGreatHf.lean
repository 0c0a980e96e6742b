/-
  Functions of the program as their counterparts say them (printed by a program).
  Conditions: none.
-/
import Derived.Test.YtonijgmopcmldaaGreatHe
set_option linter.all false
namespace Go.Proofs.YtonijgmopcmldaaGreat

def F_clockworklaw54_VerifyBisects_L1 (x1 : List Int) (x3 : List Int) (J28 : Bool → Option Bool) : Nat → Bool → Int → Option Bool
  | 0, _, _ => none
  | n33 + 1, x31, x32 => (cond (decide (x32 ≤ (IntKind.i64.wrap ((((x1).length : Nat) : Int) - (1 : Int))))) (req (((x31) == true) = true → 0 ≤ x32 ∧ x32 < ((x1).length : Int)) (req (((x31) == true) = true → 0 ≤ x32 ∧ x32 < ((x3).length : Int)) (F_clockworklaw54_VerifyBisects_L1 x1 x3 J28 n33 ((x31 && ((cond ((x31) == true) (atI x1 x32) default) != (cond ((x31) == true) (atI x3 x32) default)))) ((IntKind.i64.wrap (x32 + (1 : Int))))))) (J28 x31))

def F_clockworklaw54_VerifyBisects_L2 (J8 : Int → Option Bool) : Nat → Int → Int → Option Bool
  | 0, _, _ => none
  | n43 + 1, x41, x42 => (cond (decide ((0 : Int) < x42)) (req ((2 : Int) ≠ 0) (F_clockworklaw54_VerifyBisects_L2 J8 n43 ((IntKind.i64.wrap (x41 + (1 : Int)))) ((quoI .i64 x42 (2 : Int))))) (J8 x41))

def F_clockworklaw54_VerifyBisects (x1 : List Int) (x3 : List Int) : Option Bool :=
  (cond (((decide ((300 : Int) < (((x1).length : Nat) : Int))) || ((((x1).length : Nat) : Int) != (((x3).length : Nat) : Int))) || ((((x1).length : Nat) : Int) == (0 : Int))) (bnd (F_clockworklaw54_works ) fun x5 => (some x5)) (bnd (F_verify_Bisect x1 x3) fun x6 => (jn (fun (x7 : Int) => (cond ((decide (x6.2 < (1 : Int))) || (decide ((IntKind.i64.wrap (x7 + (1 : Int))) < x6.2))) (some false) (req (0 ≤ (IntKind.i64.wrap ((((x1).length : Nat) : Int) - (1 : Int))) ∧ (IntKind.i64.wrap ((((x1).length : Nat) : Int) - (1 : Int))) < ((x1).length : Int)) (req (0 ≤ (IntKind.i64.wrap ((((x1).length : Nat) : Int) - (1 : Int))) ∧ (IntKind.i64.wrap ((((x1).length : Nat) : Int) - (1 : Int))) < ((x3).length : Int)) (cond ((atI x1 ((IntKind.i64.wrap ((((x1).length : Nat) : Int) - (1 : Int))))) == (atI x3 ((IntKind.i64.wrap ((((x1).length : Nat) : Int) - (1 : Int)))))) (bnd (gcall ((((x6.1 == (-1 : Int)) && (x6.2 == (1 : Int)))) == true) (F_clockworklaw54_works )) fun x16 => (some (((x6.1 == (-1 : Int)) && (x6.2 == (1 : Int))) && x16))) (req (((((decide (x6.1 < (0 : Int))) || (decide ((IntKind.i64.wrap ((((x1).length : Nat) : Int) - (1 : Int))) < x6.1)))) == false) = true → 0 ≤ x6.1 ∧ x6.1 < ((x1).length : Int)) (req (((((decide (x6.1 < (0 : Int))) || (decide ((IntKind.i64.wrap ((((x1).length : Nat) : Int) - (1 : Int))) < x6.1)))) == false) = true → 0 ≤ x6.1 ∧ x6.1 < ((x3).length : Int)) (bnd (some ((((decide (x6.1 < (0 : Int))) || (decide ((IntKind.i64.wrap ((((x1).length : Nat) : Int) - (1 : Int))) < x6.1))) || ((cond ((((decide (x6.1 < (0 : Int))) || (decide ((IntKind.i64.wrap ((((x1).length : Nat) : Int) - (1 : Int))) < x6.1)))) == false) (atI x1 x6.1) default) == (cond ((((decide (x6.1 < (0 : Int))) || (decide ((IntKind.i64.wrap ((((x1).length : Nat) : Int) - (1 : Int))) < x6.1)))) == false) (atI x3 x6.1) default))))) fun x21 => (req (((((decide ((0 : Int) < x6.1))) == true) && ((x21) == false)) = true → 0 ≤ (IntKind.i64.wrap (x6.1 - (1 : Int))) ∧ (IntKind.i64.wrap (x6.1 - (1 : Int))) < ((x1).length : Int)) (req (((((decide ((0 : Int) < x6.1))) == true) && ((x21) == false)) = true → 0 ≤ (IntKind.i64.wrap (x6.1 - (1 : Int))) ∧ (IntKind.i64.wrap (x6.1 - (1 : Int))) < ((x3).length : Int)) (cond (x21 || ((decide ((0 : Int) < x6.1)) && ((cond ((((decide ((0 : Int) < x6.1))) == true) && ((x21) == false)) (atI x1 ((IntKind.i64.wrap (x6.1 - (1 : Int))))) default) != (cond ((((decide ((0 : Int) < x6.1))) == true) && ((x21) == false)) (atI x3 ((IntKind.i64.wrap (x6.1 - (1 : Int))))) default)))) (some false) (bnd (F_verify_First x1 x3) fun x26 => (jn (fun (x27 : Bool) => (bnd (gcall ((((!x27) || (x6.1 == x26))) == true) (F_clockworklaw54_works )) fun x30 => (some (((!x27) || (x6.1 == x26)) && x30)))) (fun J28 => (F_clockworklaw54_VerifyBisects_L1 x1 x3 J28 (((IntKind.i64.wrap ((((x1).length : Nat) : Int) - (1 : Int)))).toNat + 2) true ((max x26 (0 : Int)))))))))))))))))) (fun J8 => (F_clockworklaw54_VerifyBisects_L2 J8 (((((x1).length : Nat) : Int)).toNat + 1) ((0 : Int)) ((((x1).length : Nat) : Int)))))))

set_option maxRecDepth 100000 in
theorem W_clockworklaw54_VerifyBisects {V : View} (x1 : List Int) (x3 : List Int) {a2 : Option Addr} {k2 : Nat} {a4 : Option Addr} {k4 : Nat} (h2 : SlAt (cInt .u64) V a2 k2 x1) (h4 : SlAt (cInt .u64) V a4 k4 x3) {r : Bool} (hF : F_clockworklaw54_VerifyBisects x1 x3 = some r) :
    Spec Tryz.prog 7 [.slice a2 ((x1).length) (k2), .slice a4 ((x3).length) (k4)] V (fun _ v => v = .bool (r)) := by
  unfold F_clockworklaw54_VerifyBisects at hF
  refine Spec.enter (T := tyT) Tryz.func7 rfl (by kernel_rfl) rfl rfl rfl ?_
  refine Exec.run tyOk 400 rfl ?_
  rcases cond_some hF with ⟨hb, hF⟩ | ⟨hb, hF⟩
  · skip
    refine Exec.ifT rfl hb ?_
    refine Exec.run tyOk 400 rfl ?_
    obtain ⟨x5, hx5, hF⟩ := bnd_some hF
    refine Exec.callS (.bool (x5)) rfl rfl (W_clockworklaw54_works   hx5) ?_
    refine Exec.run tyOk 400 rfl ?_
    obtain rfl := some_inj hF
    exact Exec.ret tyOk rfl rfl rfl
  · skip
    refine Exec.ifF rfl hb ?_
    refine Exec.run tyOk 400 rfl ?_
    obtain ⟨x6, hx6, hF⟩ := bnd_some hF
    refine Exec.callS (.tuple ⟨[.int .i64 (x6.1), .int .i64 (x6.2)]⟩) rfl rfl (W_verify_Bisect x1 x3 h2 h4 hx6) ?_
    refine Exec.run tyOk 17 rfl ?_
    obtain ⟨J8, hJ8, hF⟩ := jn_some hF
    refine Exec.seam (fun L' V' M' => ∃ (x7 : Int), L' = [(0, .v (.slice a2 ((x1).length) (k2))), (1, .v (.slice a4 ((x3).length) (k4))), (5, .v (.int .i64 (x6.1))), (6, .v (.int .i64 (x6.2))), (7, .v (.int .i64 (x7)))] ∧ M' = [] ∧ SlAt (cInt .u64) V' a2 k2 x1 ∧ SlAt (cInt .u64) V' a4 k4 x3 ∧ J8 x7 = some r) rfl ?_ ?_
    · rintro L' V9 M' ⟨x7, rfl, rfl, h10, h11, hF⟩
      subst hJ8
      refine Exec.run tyOk 400 rfl ?_
      rcases cond_some hF with ⟨hb, hF⟩ | ⟨hb, hF⟩
      · skip
        refine Exec.ifT rfl hb ?_
        refine Exec.run tyOk 400 rfl ?_
        obtain rfl := some_inj hF
        exact Exec.ret tyOk rfl rfl rfl
      · skip
        refine Exec.ifF rfl hb ?_
        refine Exec.run tyOk 400 rfl ?_
        refine Exec.draws tyOk [(0, true), (1, true), (2, true), (3, true), (4, true), (5, true), (6, true), (7, true), (8, true)] rfl (by kernel_rfl) ?_
        refine Exec.run tyOk 400 rfl ?_
        obtain ⟨q12, hF⟩ := req_some hF
        obtain ⟨c13, hr13, hd13⟩ := SlAt.get h10 q12
        obtain rfl := hr13
        refine Exec.fia tyOk rfl rfl rfl ⟨q12.1, q12.2, hd13.some⟩ ?_
        refine Exec.run tyOk 400 rfl ?_
        refine Exec.fld tyOk (x := .int .u64 ((atI x1 ((IntKind.i64.wrap ((((x1).length : Nat) : Int) - (1 : Int))))))) rfl rfl rfl hd13 rfl rfl ?_
        refine Exec.run tyOk 400 rfl ?_
        obtain ⟨q14, hF⟩ := req_some hF
        obtain ⟨c15, hr15, hd15⟩ := SlAt.get h11 q14
        obtain rfl := hr15
        refine Exec.fia tyOk rfl rfl rfl ⟨q14.1, q14.2, hd15.some⟩ ?_
        refine Exec.run tyOk 400 rfl ?_
        refine Exec.fld tyOk (x := .int .u64 ((atI x3 ((IntKind.i64.wrap ((((x1).length : Nat) : Int) - (1 : Int))))))) rfl rfl rfl hd15 rfl rfl ?_
        refine Exec.run tyOk 400 rfl ?_
        rcases cond_some hF with ⟨hb, hF⟩ | ⟨hb, hF⟩
        · skip
          refine Exec.ifT rfl hb ?_
          refine Exec.run tyOk 400 rfl ?_
          obtain ⟨x16, hx16, hF⟩ := bnd_some hF
          refine Exec.callS (.bool (x16)) rfl rfl (fun gg0 => W_clockworklaw54_works   (gcall_some hx16 (gd1_of gg0))) ?_
          refine Exec.run tyOk 400 rfl ?_
          obtain rfl := some_inj hF
          exact Exec.ret tyOk rfl rfl rfl
        · skip
          refine Exec.ifF rfl hb ?_
          refine Exec.run tyOk 400 rfl ?_
          refine Exec.draws tyOk [(0, true), (1, true), (2, true), (3, true), (4, true), (5, true), (6, true), (7, true), (8, true), (9, true), (10, true), (11, true), (12, true), (13, true), (14, true), (15, true), (16, true), (17, true), (18, true), (19, true), (20, true), (21, true), (22, true), (23, true), (24, true), (25, true), (26, true), (27, true), (28, true), (29, true), (30, true), (31, true), (32, true), (33, true), (34, true)] rfl (by kernel_rfl) ?_
          refine Exec.run tyOk 400 rfl ?_
          obtain ⟨q17, hF⟩ := req_some hF
          obtain ⟨c18, hr18, hd18⟩ := SlAt.gget ((((decide (x6.1 < (0 : Int))) || (decide ((IntKind.i64.wrap ((((x1).length : Nat) : Int) - (1 : Int))) < x6.1)))) == false) h10 q17
          obtain rfl := hr18
          refine Exec.fia tyOk rfl rfl rfl (fun gg0 => ⟨(q17 (gd1_of gg0)).1, (q17 (gd1_of gg0)).2, (hd18 (gd1_of gg0)).some⟩) ?_
          refine Exec.run tyOk 400 rfl ?_
          refine Exec.fld tyOk (x := .int .u64 ((cond ((((decide (x6.1 < (0 : Int))) || (decide ((IntKind.i64.wrap ((((x1).length : Nat) : Int) - (1 : Int))) < x6.1)))) == false) (atI x1 x6.1) default))) rfl rfl rfl (fun gg0 => (hd18 (gd1_of gg0))) rfl rfl ?_
          refine Exec.run tyOk 400 rfl ?_
          obtain ⟨q19, hF⟩ := req_some hF
          obtain ⟨c20, hr20, hd20⟩ := SlAt.gget ((((decide (x6.1 < (0 : Int))) || (decide ((IntKind.i64.wrap ((((x1).length : Nat) : Int) - (1 : Int))) < x6.1)))) == false) h11 q19
          obtain rfl := hr20
          refine Exec.fia tyOk rfl rfl rfl (fun gg0 => ⟨(q19 (gd1_of gg0)).1, (q19 (gd1_of gg0)).2, (hd20 (gd1_of gg0)).some⟩) ?_
          refine Exec.run tyOk 400 rfl ?_
          refine Exec.fld tyOk (x := .int .u64 ((cond ((((decide (x6.1 < (0 : Int))) || (decide ((IntKind.i64.wrap ((((x1).length : Nat) : Int) - (1 : Int))) < x6.1)))) == false) (atI x3 x6.1) default))) rfl rfl rfl (fun gg0 => (hd20 (gd1_of gg0))) rfl rfl ?_
          refine Exec.run tyOk 2 rfl ?_
          obtain ⟨x21, hx21, hF⟩ := bnd_some hF
          refine Exec.nameD (some_inj hx21) 89 rfl rfl rfl rfl ?_
          refine Exec.run tyOk 400 rfl ?_
          obtain ⟨q22, hF⟩ := req_some hF
          obtain ⟨c23, hr23, hd23⟩ := SlAt.gget ((((decide ((0 : Int) < x6.1))) == true) && ((x21) == false)) h10 q22
          obtain rfl := hr23
          refine Exec.fia tyOk rfl rfl rfl (fun gg0 gg1 => ⟨(q22 (gd2_of gg0 gg1)).1, (q22 (gd2_of gg0 gg1)).2, (hd23 (gd2_of gg0 gg1)).some⟩) ?_
          refine Exec.run tyOk 400 rfl ?_
          refine Exec.fld tyOk (x := .int .u64 ((cond ((((decide ((0 : Int) < x6.1))) == true) && ((x21) == false)) (atI x1 ((IntKind.i64.wrap (x6.1 - (1 : Int))))) default))) rfl rfl rfl (fun gg0 gg1 => (hd23 (gd2_of gg0 gg1))) rfl rfl ?_
          refine Exec.run tyOk 400 rfl ?_
          obtain ⟨q24, hF⟩ := req_some hF
          obtain ⟨c25, hr25, hd25⟩ := SlAt.gget ((((decide ((0 : Int) < x6.1))) == true) && ((x21) == false)) h11 q24
          obtain rfl := hr25
          refine Exec.fia tyOk rfl rfl rfl (fun gg0 gg1 => ⟨(q24 (gd2_of gg0 gg1)).1, (q24 (gd2_of gg0 gg1)).2, (hd25 (gd2_of gg0 gg1)).some⟩) ?_
          refine Exec.run tyOk 400 rfl ?_
          refine Exec.fld tyOk (x := .int .u64 ((cond ((((decide ((0 : Int) < x6.1))) == true) && ((x21) == false)) (atI x3 ((IntKind.i64.wrap (x6.1 - (1 : Int))))) default))) rfl rfl rfl (fun gg0 gg1 => (hd25 (gd2_of gg0 gg1))) rfl rfl ?_
          refine Exec.run tyOk 400 rfl ?_
          rcases cond_some hF with ⟨hb, hF⟩ | ⟨hb, hF⟩
          · skip
            refine Exec.ifT rfl hb ?_
            refine Exec.run tyOk 400 rfl ?_
            obtain rfl := some_inj hF
            exact Exec.ret tyOk rfl rfl rfl
          · skip
            refine Exec.ifF rfl hb ?_
            refine Exec.run tyOk 400 rfl ?_
            obtain ⟨x26, hx26, hF⟩ := bnd_some hF
            refine Exec.callS (.int .i64 (x26)) rfl rfl (W_verify_First x1 x3 h10 h11 hx26) ?_
            refine Exec.run tyOk 13 rfl ?_
            obtain ⟨J28, hJ28, hF⟩ := jn_some hF
            refine Exec.seam (fun L' V' M' => ∃ (x27 : Bool), L' = [(5, .v (.int .i64 (x6.1))), (10, .v (.int .i64 (x26))), (11, .v (.bool (x27)))] ∧ M' = [] ∧ J28 x27 = some r) rfl ?_ ?_
            · rintro L' V29 M' ⟨x27, rfl, rfl, hF⟩
              subst hJ28
              refine Exec.run tyOk 400 rfl ?_
              obtain ⟨x30, hx30, hF⟩ := bnd_some hF
              refine Exec.callS (.bool (x30)) rfl rfl (fun gg0 => W_clockworklaw54_works   (gcall_some hx30 (gd1_of gg0))) ?_
              refine Exec.run tyOk 400 rfl ?_
              obtain rfl := some_inj hF
              exact Exec.ret tyOk rfl rfl rfl
            · skip
              refine Exec.run tyOk 400 rfl ?_
              refine Exec.loop (fun n33 L' V' M' => ∃ (x31 : Bool) (x32 : Int), L' = [(0, .v (.slice a2 ((x1).length) (k2))), (1, .v (.slice a4 ((x3).length) (k4))), (5, .v (.int .i64 (x6.1))), (9, .v (.int .i64 ((IntKind.i64.wrap ((((x1).length : Nat) : Int) - (1 : Int)))))), (10, .v (.int .i64 (x26))), (11, .v (.bool (x31))), (12, .v (.int .i64 (x32)))] ∧ M' = [] ∧ SlAt (cInt .u64) V' a2 k2 x1 ∧ SlAt (cInt .u64) V' a4 k4 x3 ∧ F_clockworklaw54_VerifyBisects_L1 x1 x3 J28 n33 x31 x32 = some r) ⟨(((IntKind.i64.wrap ((((x1).length : Nat) : Int) - (1 : Int)))).toNat + 2), [(0, .v (.slice a2 ((x1).length) (k2))), (1, .v (.slice a4 ((x3).length) (k4))), (5, .v (.int .i64 (x6.1))), (9, .v (.int .i64 ((IntKind.i64.wrap ((((x1).length : Nat) : Int) - (1 : Int)))))), (10, .v (.int .i64 (x26))), (11, .v (.bool (true))), (12, .v (.int .i64 ((max x26 (0 : Int)))))], ⟨rfl, rfl, rfl, rfl, rfl, rfl, rfl, trivial⟩, true, (max x26 (0 : Int)), rfl, rfl, h10, h11, hF⟩ ?_
              rintro n33 L' V34 M' ⟨x31, x32, rfl, rfl, h35, h36, hF⟩
              rcases n33 with _ | n33
              · exact absurd hF (by simp [F_clockworklaw54_VerifyBisects_L1])
              rw [F_clockworklaw54_VerifyBisects_L1] at hF
              refine Exec.run tyOk 400 rfl ?_
              rcases cond_some hF with ⟨hb, hF⟩ | ⟨hb, hF⟩
              · skip
                refine Exec.ifT rfl hb ?_
                refine Exec.run tyOk 400 rfl ?_
                refine Exec.draws tyOk [(0, true), (1, true), (2, true), (3, true), (4, true), (5, true), (6, true), (7, true), (8, true), (9, true), (10, true), (11, true), (12, true)] rfl (by kernel_rfl) ?_
                refine Exec.run tyOk 400 rfl ?_
                obtain ⟨q37, hF⟩ := req_some hF
                obtain ⟨c38, hr38, hd38⟩ := SlAt.gget ((x31) == true) h35 q37
                obtain rfl := hr38
                refine Exec.fia tyOk rfl rfl rfl (fun gg0 => ⟨(q37 (gd1_of gg0)).1, (q37 (gd1_of gg0)).2, (hd38 (gd1_of gg0)).some⟩) ?_
                refine Exec.run tyOk 400 rfl ?_
                refine Exec.fld tyOk (x := .int .u64 ((cond ((x31) == true) (atI x1 x32) default))) rfl rfl rfl (fun gg0 => (hd38 (gd1_of gg0))) rfl rfl ?_
                refine Exec.run tyOk 400 rfl ?_
                obtain ⟨q39, hF⟩ := req_some hF
                obtain ⟨c40, hr40, hd40⟩ := SlAt.gget ((x31) == true) h36 q39
                obtain rfl := hr40
                refine Exec.fia tyOk rfl rfl rfl (fun gg0 => ⟨(q39 (gd1_of gg0)).1, (q39 (gd1_of gg0)).2, (hd40 (gd1_of gg0)).some⟩) ?_
                refine Exec.run tyOk 400 rfl ?_
                refine Exec.fld tyOk (x := .int .u64 ((cond ((x31) == true) (atI x3 x32) default))) rfl rfl rfl (fun gg0 => (hd40 (gd1_of gg0))) rfl rfl ?_
                refine Exec.run tyOk 400 rfl ?_
                exact Exec.round [(0, .v (.slice a2 ((x1).length) (k2))), (1, .v (.slice a4 ((x3).length) (k4))), (5, .v (.int .i64 (x6.1))), (9, .v (.int .i64 ((IntKind.i64.wrap ((((x1).length : Nat) : Int) - (1 : Int)))))), (10, .v (.int .i64 (x26))), (11, .v (.bool ((x31 && ((cond ((x31) == true) (atI x1 x32) default) != (cond ((x31) == true) (atI x3 x32) default)))))), (12, .v (.int .i64 ((IntKind.i64.wrap (x32 + (1 : Int))))))] ⟨rfl, rfl, rfl, rfl, rfl, rfl, rfl, trivial⟩ ⟨n33, Nat.lt_succ_self _, (x31 && ((cond ((x31) == true) (atI x1 x32) default) != (cond ((x31) == true) (atI x3 x32) default))), (IntKind.i64.wrap (x32 + (1 : Int))), rfl, rfl, h35, h36, hF⟩
              · skip
                refine Exec.ifF rfl hb ?_
                refine Exec.run tyOk 400 rfl ?_
                exact Exec.round [(5, .v (.int .i64 (x6.1))), (10, .v (.int .i64 (x26))), (11, .v (.bool (x31)))] ⟨rfl, rfl, rfl, trivial⟩ ⟨x31, rfl, rfl, hF⟩
    · skip
      refine Exec.run tyOk 400 rfl ?_
      refine Exec.loop (fun n43 L' V' M' => ∃ (x41 : Int) (x42 : Int), L' = [(0, .v (.slice a2 ((x1).length) (k2))), (1, .v (.slice a4 ((x3).length) (k4))), (5, .v (.int .i64 (x6.1))), (6, .v (.int .i64 (x6.2))), (7, .v (.int .i64 (x41))), (8, .v (.int .i64 (x42)))] ∧ M' = [] ∧ SlAt (cInt .u64) V' a2 k2 x1 ∧ SlAt (cInt .u64) V' a4 k4 x3 ∧ F_clockworklaw54_VerifyBisects_L2 J8 n43 x41 x42 = some r) ⟨(((((x1).length : Nat) : Int)).toNat + 1), [(0, .v (.slice a2 ((x1).length) (k2))), (1, .v (.slice a4 ((x3).length) (k4))), (5, .v (.int .i64 (x6.1))), (6, .v (.int .i64 (x6.2))), (7, .v (.int .i64 ((0 : Int)))), (8, .v (.int .i64 ((((x1).length : Nat) : Int))))], ⟨rfl, rfl, rfl, rfl, rfl, rfl, trivial⟩, (0 : Int), (((x1).length : Nat) : Int), rfl, rfl, h2, h4, hF⟩ ?_
      rintro n43 L' V44 M' ⟨x41, x42, rfl, rfl, h45, h46, hF⟩
      rcases n43 with _ | n43
      · exact absurd hF (by simp [F_clockworklaw54_VerifyBisects_L2])
      rw [F_clockworklaw54_VerifyBisects_L2] at hF
      refine Exec.run tyOk 400 rfl ?_
      rcases cond_some hF with ⟨hb, hF⟩ | ⟨hb, hF⟩
      · skip
        refine Exec.ifT rfl hb ?_
        refine Exec.run tyOk 400 rfl ?_
        obtain ⟨q47, hF⟩ := req_some hF
        refine Exec.ari rfl rfl q47 ?_
        refine Exec.run tyOk 400 rfl ?_
        exact Exec.round [(0, .v (.slice a2 ((x1).length) (k2))), (1, .v (.slice a4 ((x3).length) (k4))), (5, .v (.int .i64 (x6.1))), (6, .v (.int .i64 (x6.2))), (7, .v (.int .i64 ((IntKind.i64.wrap (x41 + (1 : Int)))))), (8, .v (.int .i64 ((quoI .i64 x42 (2 : Int)))))] ⟨rfl, rfl, rfl, rfl, rfl, rfl, trivial⟩ ⟨n43, Nat.lt_succ_self _, (IntKind.i64.wrap (x41 + (1 : Int))), (quoI .i64 x42 (2 : Int)), rfl, rfl, h45, h46, hF⟩
      · skip
        refine Exec.ifF rfl hb ?_
        refine Exec.run tyOk 400 rfl ?_
        exact Exec.round [(0, .v (.slice a2 ((x1).length) (k2))), (1, .v (.slice a4 ((x3).length) (k4))), (5, .v (.int .i64 (x6.1))), (6, .v (.int .i64 (x6.2))), (7, .v (.int .i64 (x41)))] ⟨rfl, rfl, rfl, rfl, rfl, trivial⟩ ⟨x41, rfl, rfl, h45, h46, hF⟩

def F_clockworklaw54_VerifyFinds_L1 (x13 : List TPair × Int) (x8 : List Str × Int) (x19 : TTree) (x26 : TTree) (J35 : Int → Option Bool) : Nat → Int → Int → Option Bool
  | 0, _, _ => none
  | n45 + 1, x43, x44 => (cond (decide (x44 < (((x13.1).length : Nat) : Int))) (jn (fun (x51 : Int) => (F_clockworklaw54_VerifyFinds_L1 x13 x8 x19 x26 J35 n45 x51 ((IntKind.i64.wrap (x44 + (1 : Int)))))) (fun J52 => (req ((((decide (x43 < (((x8.1).length : Nat) : Int)))) == true) = true → 0 ≤ x43 ∧ x43 < ((x8.1).length : Int)) (req ((((decide (x43 < (((x8.1).length : Nat) : Int)))) == true) = true → 0 ≤ x44 ∧ x44 < ((x13.1).length : Int)) (cond ((decide (x43 < (((x8.1).length : Nat) : Int))) && ((cond (((decide (x43 < (((x8.1).length : Nat) : Int)))) == true) (atI x8.1 x43) default) == (cond (((decide (x43 < (((x8.1).length : Nat) : Int)))) == true) (atI x13.1 x44) default).Key)) (J52 ((IntKind.i64.wrap (x43 + (1 : Int))))) (req (0 ≤ x44 ∧ x44 < ((x13.1).length : Int)) (bnd (F_digest_Bucket ((atI x13.1 x44).Key)) fun x64 => (req (((((decide (x64 < (0 : Int))) || (decide ((64 : Int) ≤ x64)))) == false) = true → 0 ≤ x64 ∧ x64 < ((x19.Buckets).length : Int)) (req (((((decide (x64 < (0 : Int))) || (decide ((64 : Int) ≤ x64)))) == false) = true → 0 ≤ x64 ∧ x64 < ((x26.Buckets).length : Int)) (cond (((decide (x64 < (0 : Int))) || (decide ((64 : Int) ≤ x64))) || ((cond ((((decide (x64 < (0 : Int))) || (decide ((64 : Int) ≤ x64)))) == false) (atI x19.Buckets x64) default) != (cond ((((decide (x64 < (0 : Int))) || (decide ((64 : Int) ≤ x64)))) == false) (atI x26.Buckets x64) default))) (some false) (J52 x43))))))))))) (J35 x43))

def F_clockworklaw54_VerifyFinds (x1 : List TPair) (x3 : List TPair) : Option Bool :=
  (bnd (gcall ((((decide ((60 : Int) < (((x1).length : Nat) : Int))) || (decide ((60 : Int) < (((x3).length : Nat) : Int))))) == false) (F_clockworkref06_Valid x1)) fun x5 => (bnd (gcall (((((decide ((60 : Int) < (((x1).length : Nat) : Int))) || (decide ((60 : Int) < (((x3).length : Nat) : Int)))) || (!x5))) == false) (F_clockworkref06_Valid x3)) fun x6 => (cond ((((decide ((60 : Int) < (((x1).length : Nat) : Int))) || (decide ((60 : Int) < (((x3).length : Nat) : Int)))) || (!x5)) || (!x6)) (bnd (F_clockworklaw54_works ) fun x7 => (some x7)) (bnd (F_verify_Compare x1 x3) fun x8 => (bnd (F_clockworkref06_Diff x1 x3) fun x13 => (bnd (F_digest_Tree x1) fun x19 => (bnd (F_digest_Tree x3) fun x26 => (cond (((x8.2 != (0 : Int)) || ((((x19.Buckets).length : Nat) : Int) != (64 : Int))) || ((((x26.Buckets).length : Nat) : Int) != (64 : Int))) (some false) (jn (fun (x34 : Int) => (bnd (gcall ((((decide ((0 : Int) < (((x13.1).length : Nat) : Int)))) == false) && (((x34 == (((x8.1).length : Nat) : Int))) == true)) (F_clockworklaw54_numbers x19.Buckets x26.Buckets)) fun x41 => (bnd (gcall ((((x34 == (((x8.1).length : Nat) : Int)) && ((decide ((0 : Int) < (((x13.1).length : Nat) : Int))) || x41))) == true) (F_clockworklaw54_works )) fun x42 => (some (((x34 == (((x8.1).length : Nat) : Int)) && ((decide ((0 : Int) < (((x13.1).length : Nat) : Int))) || x41)) && x42))))) (fun J35 => (F_clockworklaw54_VerifyFinds_L1 x13 x8 x19 x26 J35 (((((x13.1).length : Nat) : Int)).toNat + 1) ((0 : Int)) ((0 : Int)))))))))))))

set_option maxRecDepth 100000 in
theorem W_clockworklaw54_VerifyFinds {V : View} (x1 : List TPair) (x3 : List TPair) {a2 : Option Addr} {k2 : Nat} {a4 : Option Addr} {k4 : Nat} (h2 : SlAt cTPair V a2 k2 x1) (h4 : SlAt cTPair V a4 k4 x3) {r : Bool} (hF : F_clockworklaw54_VerifyFinds x1 x3 = some r) :
    Spec Tryz.prog 8 [.slice a2 ((x1).length) (k2), .slice a4 ((x3).length) (k4)] V (fun _ v => v = .bool (r)) := by
  unfold F_clockworklaw54_VerifyFinds at hF
  refine Spec.enter (T := tyT) Tryz.func8 rfl (by kernel_rfl) rfl rfl rfl ?_
  refine Exec.run tyOk 400 rfl ?_
  obtain ⟨x5, hx5, hF⟩ := bnd_some hF
  refine Exec.callS (.bool (x5)) rfl rfl (fun gg0 => W_clockworkref06_Valid x1 h2 (gcall_some hx5 (gd1_of gg0))) ?_
  refine Exec.run tyOk 400 rfl ?_
  obtain ⟨x6, hx6, hF⟩ := bnd_some hF
  refine Exec.callS (.bool (x6)) rfl rfl (fun gg0 => W_clockworkref06_Valid x3 h4 (gcall_some hx6 (gd1_of gg0))) ?_
  refine Exec.run tyOk 400 rfl ?_
  rcases cond_some hF with ⟨hb, hF⟩ | ⟨hb, hF⟩
  · skip
    refine Exec.ifT rfl hb ?_
    refine Exec.run tyOk 400 rfl ?_
    obtain ⟨x7, hx7, hF⟩ := bnd_some hF
    refine Exec.callS (.bool (x7)) rfl rfl (W_clockworklaw54_works   hx7) ?_
    refine Exec.run tyOk 400 rfl ?_
    obtain rfl := some_inj hF
    exact Exec.ret tyOk rfl rfl rfl
  · skip
    refine Exec.ifF rfl hb ?_
    refine Exec.run tyOk 400 rfl ?_
    obtain ⟨x8, hx8, hF⟩ := bnd_some hF
    refine Exec.call rfl rfl (W_verify_Compare x1 x3 h2 h4 hx8) ?_
    rintro V10 _ hv10 ⟨a9, k9, rfl, h9⟩
    have h11 := SlAt.mono h2 hv10
    have h12 := SlAt.mono h4 hv10
    refine Exec.run tyOk 400 rfl ?_
    obtain ⟨x13, hx13, hF⟩ := bnd_some hF
    refine Exec.call rfl rfl (W_clockworkref06_Diff x1 x3 h11 h12 hx13) ?_
    rintro V15 _ hv15 ⟨a14, k14, rfl, h14⟩
    have h16 := SlAt.mono h11 hv15
    have h17 := SlAt.mono h12 hv15
    have h18 := SlAt.mono h9 hv15
    refine Exec.run tyOk 400 rfl ?_
    obtain ⟨x19, hx19, hF⟩ := bnd_some hF
    refine Exec.call rfl rfl (W_digest_Tree x1 h16 hx19) ?_
    rintro V21 _ hv21 ⟨a20, k20, rfl, h20⟩
    have h22 := SlAt.mono h16 hv21
    have h23 := SlAt.mono h17 hv21
    have h24 := SlAt.mono h18 hv21
    have h25 := SlAt.mono h14 hv21
    refine Exec.run tyOk 400 rfl ?_
    obtain ⟨x26, hx26, hF⟩ := bnd_some hF
    refine Exec.call rfl rfl (W_digest_Tree x3 h23 hx26) ?_
    rintro V28 _ hv28 ⟨a27, k27, rfl, h27⟩
    have h29 := SlAt.mono h22 hv28
    have h30 := SlAt.mono h23 hv28
    have h31 := SlAt.mono h24 hv28
    have h32 := SlAt.mono h25 hv28
    have h33 := SlAt.mono h20 hv28
    refine Exec.run tyOk 400 rfl ?_
    rcases cond_some hF with ⟨hb, hF⟩ | ⟨hb, hF⟩
    · skip
      refine Exec.ifT rfl hb ?_
      refine Exec.run tyOk 400 rfl ?_
      obtain rfl := some_inj hF
      exact Exec.ret tyOk rfl rfl rfl
    · skip
      refine Exec.ifF rfl hb ?_
      refine Exec.run tyOk 10 rfl ?_
      obtain ⟨J35, hJ35, hF⟩ := jn_some hF
      refine Exec.seam (fun L' V' M' => ∃ (x34 : Int), L' = [(5, .v (.slice a9 ((x8.1).length) (k9))), (7, .v (.slice a14 ((x13.1).length) (k14))), (9, .ptr 0 0), (10, .ptr 1 0), (11, .v (.int .i64 (x34)))] ∧ M' = [.blk [.v (.slice a20 ((x19.Buckets).length) (k20)), .v (.int .u64 (x19.Root))] 50, .blk [.v (.slice a27 ((x26.Buckets).length) (k27)), .v (.int .u64 (x26.Root))] 50] ∧ SlAt cStr V' a9 k9 x8.1 ∧ SlAt cTPair V' a14 k14 x13.1 ∧ SlAt (cInt .u64) V' a20 k20 x19.Buckets ∧ SlAt (cInt .u64) V' a27 k27 x26.Buckets ∧ J35 x34 = some r) rfl ?_ ?_
      · rintro L' V36 M' ⟨x34, rfl, rfl, h37, h38, h39, h40, hF⟩
        subst hJ35
        refine Exec.run tyOk 400 rfl ?_
        obtain ⟨x41, hx41, hF⟩ := bnd_some hF
        refine Exec.callS (.bool (x41)) rfl rfl (fun gg0 gg1 => W_clockworklaw54_numbers x19.Buckets x26.Buckets h39 h40 (gcall_some hx41 (gd2_of gg0 gg1))) ?_
        refine Exec.run tyOk 400 rfl ?_
        obtain ⟨x42, hx42, hF⟩ := bnd_some hF
        refine Exec.callS (.bool (x42)) rfl rfl (fun gg0 => W_clockworklaw54_works   (gcall_some hx42 (gd1_of gg0))) ?_
        refine Exec.run tyOk 400 rfl ?_
        obtain rfl := some_inj hF
        exact Exec.ret tyOk rfl rfl rfl
      · skip
        refine Exec.run tyOk 400 rfl ?_
        refine Exec.loop (fun n45 L' V' M' => ∃ (x43 : Int) (x44 : Int), L' = [(5, .v (.slice a9 ((x8.1).length) (k9))), (7, .v (.slice a14 ((x13.1).length) (k14))), (9, .ptr 0 0), (10, .ptr 1 0), (11, .v (.int .i64 (x43))), (12, .v (.int .i64 (x44)))] ∧ M' = [.blk [.v (.slice a20 ((x19.Buckets).length) (k20)), .v (.int .u64 (x19.Root))] 50, .blk [.v (.slice a27 ((x26.Buckets).length) (k27)), .v (.int .u64 (x26.Root))] 50] ∧ SlAt cStr V' a9 k9 x8.1 ∧ SlAt cTPair V' a14 k14 x13.1 ∧ SlAt (cInt .u64) V' a20 k20 x19.Buckets ∧ SlAt (cInt .u64) V' a27 k27 x26.Buckets ∧ F_clockworklaw54_VerifyFinds_L1 x13 x8 x19 x26 J35 n45 x43 x44 = some r) ⟨(((((x13.1).length : Nat) : Int)).toNat + 1), [(5, .v (.slice a9 ((x8.1).length) (k9))), (7, .v (.slice a14 ((x13.1).length) (k14))), (9, .ptr 0 0), (10, .ptr 1 0), (11, .v (.int .i64 ((0 : Int)))), (12, .v (.int .i64 ((0 : Int))))], ⟨rfl, rfl, rfl, rfl, rfl, rfl, trivial⟩, (0 : Int), (0 : Int), rfl, rfl, h31, h32, h33, h27, hF⟩ ?_
        rintro n45 L' V46 M' ⟨x43, x44, rfl, rfl, h47, h48, h49, h50, hF⟩
        rcases n45 with _ | n45
        · exact absurd hF (by simp [F_clockworklaw54_VerifyFinds_L1])
        rw [F_clockworklaw54_VerifyFinds_L1] at hF
        refine Exec.run tyOk 400 rfl ?_
        rcases cond_some hF with ⟨hb, hF⟩ | ⟨hb, hF⟩
        · skip
          refine Exec.ifT rfl hb ?_
          refine Exec.run tyOk 2 rfl ?_
          obtain ⟨J52, hJ52, hF⟩ := jn_some hF
          refine Exec.seam (fun L' V' M' => ∃ (x51 : Int), L' = [(5, .v (.slice a9 ((x8.1).length) (k9))), (7, .v (.slice a14 ((x13.1).length) (k14))), (9, .ptr 0 0), (10, .ptr 1 0), (11, .v (.int .i64 (x51))), (12, .v (.int .i64 (x44)))] ∧ M' = [.blk [.v (.slice a20 ((x19.Buckets).length) (k20)), .v (.int .u64 (x19.Root))] 50, .blk [.v (.slice a27 ((x26.Buckets).length) (k27)), .v (.int .u64 (x26.Root))] 50] ∧ SlAt cStr V' a9 k9 x8.1 ∧ SlAt cTPair V' a14 k14 x13.1 ∧ SlAt (cInt .u64) V' a20 k20 x19.Buckets ∧ SlAt (cInt .u64) V' a27 k27 x26.Buckets ∧ J52 x51 = some r) rfl ?_ ?_
          · rintro L' V53 M' ⟨x51, rfl, rfl, h54, h55, h56, h57, hF⟩
            subst hJ52
            refine Exec.run tyOk 400 rfl ?_
            exact Exec.round [(5, .v (.slice a9 ((x8.1).length) (k9))), (7, .v (.slice a14 ((x13.1).length) (k14))), (9, .ptr 0 0), (10, .ptr 1 0), (11, .v (.int .i64 (x51))), (12, .v (.int .i64 ((IntKind.i64.wrap (x44 + (1 : Int))))))] ⟨rfl, rfl, rfl, rfl, rfl, rfl, trivial⟩ ⟨n45, Nat.lt_succ_self _, x51, (IntKind.i64.wrap (x44 + (1 : Int))), rfl, rfl, h54, h55, h56, h57, hF⟩
          · skip
            refine Exec.run tyOk 400 rfl ?_
            refine Exec.draws tyOk [(0, true), (1, true), (2, true), (3, true), (4, true), (5, true), (6, true), (7, true), (8, true), (9, true), (10, true), (11, true), (12, true), (13, true), (14, true), (15, true)] rfl (by kernel_rfl) ?_
            refine Exec.run tyOk 400 rfl ?_
            obtain ⟨q58, hF⟩ := req_some hF
            obtain ⟨c59, hr59, hd59⟩ := SlAt.gget (((decide (x43 < (((x8.1).length : Nat) : Int)))) == true) h47 q58
            obtain rfl := hr59
            refine Exec.fia tyOk rfl rfl rfl (fun gg0 => ⟨(q58 (gd1_of gg0)).1, (q58 (gd1_of gg0)).2, (hd59 (gd1_of gg0)).some⟩) ?_
            refine Exec.run tyOk 400 rfl ?_
            refine Exec.fld tyOk (x := .string ⟨⟨(cond (((decide (x43 < (((x8.1).length : Nat) : Int)))) == true) (atI x8.1 x43) default)⟩⟩) rfl rfl rfl (fun gg0 => (hd59 (gd1_of gg0))) rfl rfl ?_
            refine Exec.run tyOk 400 rfl ?_
            obtain ⟨q60, hF⟩ := req_some hF
            obtain ⟨c61, hr61, hd61⟩ := SlAt.gget (((decide (x43 < (((x8.1).length : Nat) : Int)))) == true) h48 q60
            obtain rfl := hr61
            refine Exec.fia tyOk rfl rfl rfl (fun gg0 => ⟨(q60 (gd1_of gg0)).1, (q60 (gd1_of gg0)).2, (hd61 (gd1_of gg0)).some⟩) ?_
            refine Exec.run tyOk 400 rfl ?_
            refine Exec.fld tyOk (x := .string ⟨⟨(cond (((decide (x43 < (((x8.1).length : Nat) : Int)))) == true) (atI x13.1 x44) default).Key⟩⟩) rfl rfl rfl (fun gg0 => (RdAt.part (hd61 (gd1_of gg0)) 0 1 rfl)) rfl rfl ?_
            refine Exec.run tyOk 400 rfl ?_
            rcases cond_some hF with ⟨hb, hF⟩ | ⟨hb, hF⟩
            · skip
              refine Exec.ifT rfl hb ?_
              refine Exec.run tyOk 400 rfl ?_
              exact Exec.round [(5, .v (.slice a9 ((x8.1).length) (k9))), (7, .v (.slice a14 ((x13.1).length) (k14))), (9, .ptr 0 0), (10, .ptr 1 0), (11, .v (.int .i64 ((IntKind.i64.wrap (x43 + (1 : Int)))))), (12, .v (.int .i64 (x44)))] ⟨rfl, rfl, rfl, rfl, rfl, rfl, trivial⟩ ⟨(IntKind.i64.wrap (x43 + (1 : Int))), rfl, rfl, h47, h48, h49, h50, hF⟩
            · skip
              refine Exec.ifF rfl hb ?_
              refine Exec.run tyOk 400 rfl ?_
              obtain ⟨q62, hF⟩ := req_some hF
              obtain ⟨c63, hr63, hd63⟩ := SlAt.get h48 q62
              obtain rfl := hr63
              refine Exec.ia tyOk rfl rfl ⟨q62.1, q62.2, hd63.some⟩ ?_
              refine Exec.run tyOk 400 rfl ?_
              refine Exec.ld tyOk (x := .string ⟨⟨(atI x13.1 x44).Key⟩⟩) rfl rfl (RdAt.part hd63 0 1 rfl) rfl rfl ?_
              refine Exec.run tyOk 400 rfl ?_
              obtain ⟨x64, hx64, hF⟩ := bnd_some hF
              refine Exec.callS (.int .i64 (x64)) rfl rfl (W_digest_Bucket ((atI x13.1 x44).Key)  hx64) ?_
              refine Exec.run tyOk 400 rfl ?_
              refine Exec.draws tyOk [(0, true), (1, true), (2, true), (3, true), (4, true), (5, true), (6, true), (7, true), (8, true), (9, true), (10, true), (11, true), (12, true), (13, true), (14, true), (15, true), (16, true), (17, true), (18, true)] rfl (by kernel_rfl) ?_
              refine Exec.run tyOk 400 rfl ?_
              obtain ⟨q65, hF⟩ := req_some hF
              obtain ⟨c66, hr66, hd66⟩ := SlAt.gget ((((decide (x64 < (0 : Int))) || (decide ((64 : Int) ≤ x64)))) == false) h49 q65
              obtain rfl := hr66
              refine Exec.fia tyOk rfl rfl rfl (fun gg0 => ⟨(q65 (gd1_of gg0)).1, (q65 (gd1_of gg0)).2, (hd66 (gd1_of gg0)).some⟩) ?_
              refine Exec.run tyOk 400 rfl ?_
              refine Exec.fld tyOk (x := .int .u64 ((cond ((((decide (x64 < (0 : Int))) || (decide ((64 : Int) ≤ x64)))) == false) (atI x19.Buckets x64) default))) rfl rfl rfl (fun gg0 => (hd66 (gd1_of gg0))) rfl rfl ?_
              refine Exec.run tyOk 400 rfl ?_
              obtain ⟨q67, hF⟩ := req_some hF
              obtain ⟨c68, hr68, hd68⟩ := SlAt.gget ((((decide (x64 < (0 : Int))) || (decide ((64 : Int) ≤ x64)))) == false) h50 q67
              obtain rfl := hr68
              refine Exec.fia tyOk rfl rfl rfl (fun gg0 => ⟨(q67 (gd1_of gg0)).1, (q67 (gd1_of gg0)).2, (hd68 (gd1_of gg0)).some⟩) ?_
              refine Exec.run tyOk 400 rfl ?_
              refine Exec.fld tyOk (x := .int .u64 ((cond ((((decide (x64 < (0 : Int))) || (decide ((64 : Int) ≤ x64)))) == false) (atI x26.Buckets x64) default))) rfl rfl rfl (fun gg0 => (hd68 (gd1_of gg0))) rfl rfl ?_
              refine Exec.run tyOk 400 rfl ?_
              rcases cond_some hF with ⟨hb, hF⟩ | ⟨hb, hF⟩
              · skip
                refine Exec.ifT rfl hb ?_
                refine Exec.run tyOk 400 rfl ?_
                obtain rfl := some_inj hF
                exact Exec.ret tyOk rfl rfl rfl
              · skip
                refine Exec.ifF rfl hb ?_
                refine Exec.run tyOk 400 rfl ?_
                exact Exec.round [(5, .v (.slice a9 ((x8.1).length) (k9))), (7, .v (.slice a14 ((x13.1).length) (k14))), (9, .ptr 0 0), (10, .ptr 1 0), (11, .v (.int .i64 (x43))), (12, .v (.int .i64 (x44)))] ⟨rfl, rfl, rfl, rfl, rfl, rfl, trivial⟩ ⟨x43, rfl, rfl, h47, h48, h49, h50, hF⟩
        · skip
          refine Exec.ifF rfl hb ?_
          refine Exec.run tyOk 400 rfl ?_
          exact Exec.round [(5, .v (.slice a9 ((x8.1).length) (k9))), (7, .v (.slice a14 ((x13.1).length) (k14))), (9, .ptr 0 0), (10, .ptr 1 0), (11, .v (.int .i64 (x43)))] ⟨rfl, rfl, rfl, rfl, rfl, trivial⟩ ⟨x43, rfl, rfl, h47, h48, h49, h50, hF⟩

def F_clockworklaw54_VerifyEarliest (x1 : TStore) (x3 : TStore) : Option Bool :=
  (bnd (F_clockworklaw54_few x1) fun x5 => (bnd (gcall (((!x5)) == false) (F_clockworklaw54_few x3)) fun x6 => (bnd (gcall ((((!x5) || (!x6))) == false) (F_clockworkref22_Valid x1)) fun x7 => (bnd (gcall (((((!x5) || (!x6)) || (!x7))) == false) (F_clockworkref22_Valid x3)) fun x8 => (cond ((((!x5) || (!x6)) || (!x7)) || (!x8)) (bnd (F_clockworklaw54_works ) fun x9 => (some x9)) (bnd (F_verify_Stores x1 x3) fun x10 => (cond (decide ((min x1.Last x3.Last) < (max x1.Floor x3.Floor))) (bnd (gcall ((((x10.2 == (15 : Int)) && (x10.1 == (0 : Int)))) == true) (F_clockworklaw54_works )) fun x11 => (some (((x10.2 == (15 : Int)) && (x10.1 == (0 : Int))) && x11))) (cond (x10.2 == (0 : Int)) (bnd (gcall ((((decide ((max x1.Floor x3.Floor) ≤ x10.1)) && (decide (x10.1 ≤ (min x1.Last x3.Last))))) == true) (F_clockworklaw54_differ x1 x3 x10.1)) fun x12 => (bnd (gcall ((((x10.1 == (max x1.Floor x3.Floor))) == false) && (((((decide ((max x1.Floor x3.Floor) ≤ x10.1)) && (decide (x10.1 ≤ (min x1.Last x3.Last)))) && x12)) == true)) (F_clockworklaw54_differ x1 x3 ((max x1.Floor x3.Floor)))) fun x13 => (bnd (gcall ((((!x13)) == true) && ((((x10.1 == (max x1.Floor x3.Floor))) == false) && (((((decide ((max x1.Floor x3.Floor) ≤ x10.1)) && (decide (x10.1 ≤ (min x1.Last x3.Last)))) && x12)) == true))) (F_clockworklaw54_differ x1 x3 ((IntKind.i64.wrap (x10.1 - (1 : Int)))))) fun x14 => (bnd (gcall ((((((decide ((max x1.Floor x3.Floor) ≤ x10.1)) && (decide (x10.1 ≤ (min x1.Last x3.Last)))) && x12) && ((x10.1 == (max x1.Floor x3.Floor)) || ((!x13) && (!x14))))) == true) (F_clockworklaw54_before x1.Rows x1 x3 x10.1)) fun x15 => (bnd (gcall (((((((decide ((max x1.Floor x3.Floor) ≤ x10.1)) && (decide (x10.1 ≤ (min x1.Last x3.Last)))) && x12) && ((x10.1 == (max x1.Floor x3.Floor)) || ((!x13) && (!x14)))) && (!x15))) == true) (F_clockworklaw54_before x3.Rows x1 x3 x10.1)) fun x16 => (bnd (gcall ((((((((decide ((max x1.Floor x3.Floor) ≤ x10.1)) && (decide (x10.1 ≤ (min x1.Last x3.Last)))) && x12) && ((x10.1 == (max x1.Floor x3.Floor)) || ((!x13) && (!x14)))) && (!x15)) && (!x16))) == true) (F_clockworklaw54_works )) fun x17 => (some (((((((decide ((max x1.Floor x3.Floor) ≤ x10.1)) && (decide (x10.1 ≤ (min x1.Last x3.Last)))) && x12) && ((x10.1 == (max x1.Floor x3.Floor)) || ((!x13) && (!x14)))) && (!x15)) && (!x16)) && x17)))))))) (bnd (gcall (((x10.2 == (9 : Int))) == true) (F_clockworklaw54_differ x1 x3 ((max x1.Floor x3.Floor)))) fun x18 => (bnd (gcall ((((x10.2 == (9 : Int)) && (!x18))) == true) (F_clockworklaw54_differ x1 x3 ((min x1.Last x3.Last)))) fun x19 => (bnd (gcall (((((x10.2 == (9 : Int)) && (!x18)) && (!x19))) == true) (F_clockworklaw54_before x1.Rows x1 x3 ((min x1.Last x3.Last)))) fun x20 => (bnd (gcall ((((((x10.2 == (9 : Int)) && (!x18)) && (!x19)) && (!x20))) == true) (F_clockworklaw54_before x3.Rows x1 x3 ((min x1.Last x3.Last)))) fun x21 => (bnd (gcall (((((((x10.2 == (9 : Int)) && (!x18)) && (!x19)) && (!x20)) && (!x21))) == true) (F_clockworklaw54_works )) fun x22 => (some ((((((x10.2 == (9 : Int)) && (!x18)) && (!x19)) && (!x20)) && (!x21)) && x22)))))))))))))))

set_option maxRecDepth 100000 in
theorem W_clockworklaw54_VerifyEarliest {V : View} (x1 : TStore) (x3 : TStore) {a2 : Option Addr} {k2 : Nat} {a4 : Option Addr} {k4 : Nat} (h2 : SlAt cTRow V a2 k2 x1.Rows) (h4 : SlAt cTRow V a4 k4 x3.Rows) {r : Bool} (hF : F_clockworklaw54_VerifyEarliest x1 x3 = some r) :
    Spec Tryz.prog 9 [.agg ⟨[.int .i64 (x1.Floor), .int .i64 (x1.Last), .slice a2 ((x1.Rows).length) (k2)]⟩, .agg ⟨[.int .i64 (x3.Floor), .int .i64 (x3.Last), .slice a4 ((x3.Rows).length) (k4)]⟩] V (fun _ v => v = .bool (r)) := by
  unfold F_clockworklaw54_VerifyEarliest at hF
  refine Spec.enter (T := tyT) Tryz.func9 rfl (by kernel_rfl) rfl rfl rfl ?_
  refine Exec.run tyOk 400 rfl ?_
  obtain ⟨x5, hx5, hF⟩ := bnd_some hF
  refine Exec.callS (.bool (x5)) rfl rfl (W_clockworklaw54_few x1 h2 hx5) ?_
  refine Exec.run tyOk 400 rfl ?_
  obtain ⟨x6, hx6, hF⟩ := bnd_some hF
  refine Exec.callS (.bool (x6)) rfl rfl (fun gg0 => W_clockworklaw54_few x3 h4 (gcall_some hx6 (gd1_of gg0))) ?_
  refine Exec.run tyOk 400 rfl ?_
  obtain ⟨x7, hx7, hF⟩ := bnd_some hF
  refine Exec.callS (.bool (x7)) rfl rfl (fun gg0 => W_clockworkref22_Valid x1 h2 (gcall_some hx7 (gd1_of gg0))) ?_
  refine Exec.run tyOk 400 rfl ?_
  obtain ⟨x8, hx8, hF⟩ := bnd_some hF
  refine Exec.callS (.bool (x8)) rfl rfl (fun gg0 => W_clockworkref22_Valid x3 h4 (gcall_some hx8 (gd1_of gg0))) ?_
  refine Exec.run tyOk 400 rfl ?_
  rcases cond_some hF with ⟨hb, hF⟩ | ⟨hb, hF⟩
  · skip
    refine Exec.ifT rfl hb ?_
    refine Exec.run tyOk 400 rfl ?_
    obtain ⟨x9, hx9, hF⟩ := bnd_some hF
    refine Exec.callS (.bool (x9)) rfl rfl (W_clockworklaw54_works   hx9) ?_
    refine Exec.run tyOk 400 rfl ?_
    obtain rfl := some_inj hF
    exact Exec.ret tyOk rfl rfl rfl
  · skip
    refine Exec.ifF rfl hb ?_
    refine Exec.run tyOk 400 rfl ?_
    refine Exec.draws tyOk [(0, true), (1, true), (2, true), (3, true), (4, true), (5, true), (6, true), (7, true), (8, true), (9, true), (10, true), (11, true)] rfl (by kernel_rfl) ?_
    refine Exec.run tyOk 400 rfl ?_
    obtain ⟨x10, hx10, hF⟩ := bnd_some hF
    refine Exec.callS (.tuple ⟨[.int .i64 (x10.1), .int .i64 (x10.2)]⟩) rfl rfl (W_verify_Stores x1 x3 h2 h4 hx10) ?_
    refine Exec.run tyOk 400 rfl ?_
    rcases cond_some hF with ⟨hb, hF⟩ | ⟨hb, hF⟩
    · skip
      refine Exec.ifT rfl hb ?_
      refine Exec.run tyOk 400 rfl ?_
      obtain ⟨x11, hx11, hF⟩ := bnd_some hF
      refine Exec.callS (.bool (x11)) rfl rfl (fun gg0 => W_clockworklaw54_works   (gcall_some hx11 (gd1_of gg0))) ?_
      refine Exec.run tyOk 400 rfl ?_
      obtain rfl := some_inj hF
      exact Exec.ret tyOk rfl rfl rfl
    · skip
      refine Exec.ifF rfl hb ?_
      refine Exec.run tyOk 400 rfl ?_
      rcases cond_some hF with ⟨hb, hF⟩ | ⟨hb, hF⟩
      · skip
        refine Exec.ifT rfl hb ?_
        refine Exec.run tyOk 400 rfl ?_
        obtain ⟨x12, hx12, hF⟩ := bnd_some hF
        refine Exec.callS (.bool (x12)) rfl rfl (fun gg0 => W_clockworklaw54_differ x1 x3 x10.1 h2 h4 (gcall_some hx12 (gd1_of gg0))) ?_
        refine Exec.run tyOk 400 rfl ?_
        obtain ⟨x13, hx13, hF⟩ := bnd_some hF
        refine Exec.callS (.bool (x13)) rfl rfl (fun gg0 gg1 => W_clockworklaw54_differ x1 x3 ((max x1.Floor x3.Floor)) h2 h4 (gcall_some hx13 (gd2_of gg0 gg1))) ?_
        refine Exec.run tyOk 400 rfl ?_
        obtain ⟨x14, hx14, hF⟩ := bnd_some hF
        refine Exec.callS (.bool (x14)) rfl rfl (fun gg0 gg1 gg2 => W_clockworklaw54_differ x1 x3 ((IntKind.i64.wrap (x10.1 - (1 : Int)))) h2 h4 (gcall_some hx14 (gd3_of gg0 gg1 gg2))) ?_
        refine Exec.run tyOk 400 rfl ?_
        obtain ⟨x15, hx15, hF⟩ := bnd_some hF
        refine Exec.callS (.bool (x15)) rfl rfl (fun gg0 => W_clockworklaw54_before x1.Rows x1 x3 x10.1 h2 h2 h4 (gcall_some hx15 (gd1_of gg0))) ?_
        refine Exec.run tyOk 400 rfl ?_
        obtain ⟨x16, hx16, hF⟩ := bnd_some hF
        refine Exec.callS (.bool (x16)) rfl rfl (fun gg0 => W_clockworklaw54_before x3.Rows x1 x3 x10.1 h4 h2 h4 (gcall_some hx16 (gd1_of gg0))) ?_
        refine Exec.run tyOk 400 rfl ?_
        obtain ⟨x17, hx17, hF⟩ := bnd_some hF
        refine Exec.callS (.bool (x17)) rfl rfl (fun gg0 => W_clockworklaw54_works   (gcall_some hx17 (gd1_of gg0))) ?_
        refine Exec.run tyOk 400 rfl ?_
        obtain rfl := some_inj hF
        exact Exec.ret tyOk rfl rfl rfl
      · skip
        refine Exec.ifF rfl hb ?_
        refine Exec.run tyOk 400 rfl ?_
        obtain ⟨x18, hx18, hF⟩ := bnd_some hF
        refine Exec.callS (.bool (x18)) rfl rfl (fun gg0 => W_clockworklaw54_differ x1 x3 ((max x1.Floor x3.Floor)) h2 h4 (gcall_some hx18 (gd1_of gg0))) ?_
        refine Exec.run tyOk 400 rfl ?_
        obtain ⟨x19, hx19, hF⟩ := bnd_some hF
        refine Exec.callS (.bool (x19)) rfl rfl (fun gg0 => W_clockworklaw54_differ x1 x3 ((min x1.Last x3.Last)) h2 h4 (gcall_some hx19 (gd1_of gg0))) ?_
        refine Exec.run tyOk 400 rfl ?_
        obtain ⟨x20, hx20, hF⟩ := bnd_some hF
        refine Exec.callS (.bool (x20)) rfl rfl (fun gg0 => W_clockworklaw54_before x1.Rows x1 x3 ((min x1.Last x3.Last)) h2 h2 h4 (gcall_some hx20 (gd1_of gg0))) ?_
        refine Exec.run tyOk 400 rfl ?_
        obtain ⟨x21, hx21, hF⟩ := bnd_some hF
        refine Exec.callS (.bool (x21)) rfl rfl (fun gg0 => W_clockworklaw54_before x3.Rows x1 x3 ((min x1.Last x3.Last)) h4 h2 h4 (gcall_some hx21 (gd1_of gg0))) ?_
        refine Exec.run tyOk 400 rfl ?_
        obtain ⟨x22, hx22, hF⟩ := bnd_some hF
        refine Exec.callS (.bool (x22)) rfl rfl (fun gg0 => W_clockworklaw54_works   (gcall_some hx22 (gd1_of gg0))) ?_
        refine Exec.run tyOk 400 rfl ?_
        obtain rfl := some_inj hF
        exact Exec.ret tyOk rfl rfl rfl

end Go.Proofs.YtonijgmopcmldaaGreat
