/-
 Functions of the program as their counterparts say them (printed by a program).
 Conditions: none.
-/
import Derived.Test.YtglnnhmmipopiaaGreatHf
set_option linter.all false
namespace Go.Proofs.YtglnnhmmipopiaaGreat
set_option maxRecDepth 100000
def F_clockworklaw35_RebalanceAdvises (x1 : TPlacement) (x3 : List TShard) (x5 : List THeat) (x7 : Int) : Option Bool :=
 (bnd (F_clockworkref35_Few x1 x3 x5 ((60 : Int))) fun x8 => (cond (!x8) (bnd (F_clockworklaw35_lives ) fun x9 => (some x9)) (bnd (F_rebalance_Advise x1 x3 x5 x7) fun x10 => (bnd (F_clockworkref35_Advise x1 x3 x5 x7) fun x11 => (bnd (gcall (((((x10.1.Kind == x11.1.Kind) && ((x10.1.Part == x11.1.Part) && ((x10.1.New == x11.1.New) && ((x10.1.Node == x11.1.Node) && ((x10.1.N == x11.1.N) && ((x10.1.Key == x11.1.Key) && true)))))) && (x10.2 == x11.2))) == true) (F_clockworklaw35_lives )) fun x12 => (some ((((x10.1.Kind == x11.1.Kind) && ((x10.1.Part == x11.1.Part) && ((x10.1.New == x11.1.New) && ((x10.1.Node == x11.1.Node) && ((x10.1.N == x11.1.N) && ((x10.1.Key == x11.1.Key) && true)))))) && (x10.2 == x11.2)) && x12)))))))
theorem W_clockworklaw35_RebalanceAdvises {V : View} (x1 : TPlacement) (x3 : List TShard) (x5 : List THeat) (x7 : Int) {a2 : Option Addr} {k2 : Nat} {a4 : Option Addr} {k4 : Nat} {a6 : Option Addr} {k6 : Nat} (h2 : SlAt cTPart V a2 k2 x1.Parts) (h4 : SlAt cTShard V a4 k4 x3) (h6 : SlAt cTHeat V a6 k6 x5) {r : Bool} (hF : F_clockworklaw35_RebalanceAdvises x1 x3 x5 x7 = some r) :
  Spec Tryz.prog 6 [.agg ⟨[.int .i64 (x1.Version), .slice a2 ((x1.Parts).length) (k2)]⟩, .slice a4 ((x3).length) (k4), .slice a6 ((x5).length) (k6), .int .i64 (x7)] V (fun _ v => v = .bool (r)) := by
 unfold F_clockworklaw35_RebalanceAdvises at hF
 refine Spec.enter (T := tyT) Tryz.func6 rfl (by kernel_rfl) rfl rfl rfl ?_
 refine xr rfl ?_
 obtain ⟨x8, hx8, hF⟩ := bnd_some hF
 refine Exec.callS (.bool (x8)) rfl rfl (W_clockworkref35_Few x1 x3 x5 ((60 : Int)) h2 h4 h6 hx8) ?_
 refine xr rfl ?_
 rcases cond_some hF with ⟨hb, hF⟩ | ⟨hb, hF⟩
 ·refine Exec.ifT rfl hb ?_
  refine xr rfl ?_
  obtain ⟨x9, hx9, hF⟩ := bnd_some hF
  refine Exec.callS (.bool (x9)) rfl rfl (W_clockworklaw35_lives   hx9) ?_
  refine xr rfl ?_
  obtain rfl := some_inj hF
  exact Exec.ret tyOk rfl rfl rfl
 ·refine Exec.ifF rfl hb ?_
  refine xr rfl ?_
  obtain ⟨x10, hx10, hF⟩ := bnd_some hF
  refine Exec.callS (.tuple ⟨[.agg ⟨[.int .i64 (x10.1.Kind), .int .i64 (x10.1.Part), .int .i64 (x10.1.New), .int .i64 (x10.1.Node), .int .i64 (x10.1.N), .string ⟨⟨x10.1.Key⟩⟩]⟩, .bool (x10.2)]⟩) rfl rfl (W_rebalance_Advise x1 x3 x5 x7 h2 h4 h6 hx10) ?_
  refine xr rfl ?_
  obtain ⟨x11, hx11, hF⟩ := bnd_some hF
  refine Exec.callS (.tuple ⟨[.agg ⟨[.int .i64 (x11.1.Kind), .int .i64 (x11.1.Part), .int .i64 (x11.1.New), .int .i64 (x11.1.Node), .int .i64 (x11.1.N), .string ⟨⟨x11.1.Key⟩⟩]⟩, .bool (x11.2)]⟩) rfl rfl (W_clockworkref35_Advise x1 x3 x5 x7 h2 h4 h6 hx11) ?_
  refine xr rfl ?_
  obtain ⟨x12, hx12, hF⟩ := bnd_some hF
  refine Exec.callS (.bool (x12)) rfl rfl (fun gg0 => W_clockworklaw35_lives   (gcall_some hx12 (gd1_of gg0))) ?_
  refine xr rfl ?_
  obtain rfl := some_inj hF
  exact Exec.ret tyOk rfl rfl rfl
def F_clockworklaw35_RebalanceAdvised_L1 (x5 : List THeat) (x7 : Int) (J10 : Option Bool) : Nat → TPlacement → (List TShard) → Int → Option Bool
 | 0, _, _, _ => none
 | n18 + 1, x13, x15, x17 => (cond (decide (x17 < (4 : Int))) (bnd (F_rebalance_Advise x13 x15 x5 x7) fun x21 => (cond (!x21.2) (bnd (gcall ((((x21.1.Kind == 0) && ((x21.1.Part == 0) && ((x21.1.New == 0) && ((x21.1.Node == 0) && ((x21.1.N == 0) && ((x21.1.Key == []) && true))))))) == true) (F_clockworklaw35_lives )) fun x22 => (some (((x21.1.Kind == 0) && ((x21.1.Part == 0) && ((x21.1.New == 0) && ((x21.1.Node == 0) && ((x21.1.N == 0) && ((x21.1.Key == []) && true)))))) && x22))) (bnd (F_rebalance_Apply x13 x15 x21.1) fun x23 => (cond (x23.2.2 != (0 : Int)) (some false) (F_clockworklaw35_RebalanceAdvised_L1 x5 x7 J10 n18 x23.1 x23.2.1 ((IntKind.i64.wrap (x17 + (1 : Int))))))))) J10)
def F_clockworklaw35_RebalanceAdvised (x1 : TPlacement) (x3 : List TShard) (x5 : List THeat) (x7 : Int) : Option Bool :=
 (bnd (F_clockworkref35_Few x1 x3 x5 ((60 : Int))) fun x8 => (cond (!x8) (bnd (F_clockworklaw35_lives ) fun x9 => (some x9)) (jn ((bnd (F_clockworklaw35_lives ) fun x12 => (some x12))) (fun J10 => (F_clockworklaw35_RebalanceAdvised_L1 x5 x7 J10 (((4 : Int)).toNat + 1) x1 x3 ((0 : Int)))))))
theorem W_clockworklaw35_RebalanceAdvised {V : View} (x1 : TPlacement) (x3 : List TShard) (x5 : List THeat) (x7 : Int) {a2 : Option Addr} {k2 : Nat} {a4 : Option Addr} {k4 : Nat} {a6 : Option Addr} {k6 : Nat} (h2 : SlAt cTPart V a2 k2 x1.Parts) (h4 : SlAt cTShard V a4 k4 x3) (h6 : SlAt cTHeat V a6 k6 x5) {r : Bool} (hF : F_clockworklaw35_RebalanceAdvised x1 x3 x5 x7 = some r) :
  Spec Tryz.prog 7 [.agg ⟨[.int .i64 (x1.Version), .slice a2 ((x1.Parts).length) (k2)]⟩, .slice a4 ((x3).length) (k4), .slice a6 ((x5).length) (k6), .int .i64 (x7)] V (fun _ v => v = .bool (r)) := by
 unfold F_clockworklaw35_RebalanceAdvised at hF
 refine Spec.enter (T := tyT) Tryz.func7 rfl (by kernel_rfl) rfl rfl rfl ?_
 refine xr rfl ?_
 obtain ⟨x8, hx8, hF⟩ := bnd_some hF
 refine Exec.callS (.bool (x8)) rfl rfl (W_clockworkref35_Few x1 x3 x5 ((60 : Int)) h2 h4 h6 hx8) ?_
 refine xr rfl ?_
 rcases cond_some hF with ⟨hb, hF⟩ | ⟨hb, hF⟩
 ·refine Exec.ifT rfl hb ?_
  refine xr rfl ?_
  obtain ⟨x9, hx9, hF⟩ := bnd_some hF
  refine Exec.callS (.bool (x9)) rfl rfl (W_clockworklaw35_lives   hx9) ?_
  refine xr rfl ?_
  obtain rfl := some_inj hF
  exact Exec.ret tyOk rfl rfl rfl
 ·refine Exec.ifF rfl hb ?_
  refine Exec.run tyOk 6 rfl ?_
  obtain ⟨J10, hJ10, hF⟩ := jn_some hF
  refine Exec.seam (fun L' V' M' => L' = [] ∧ M' = [] ∧ J10 = some r) rfl ?_ ?_
  ·rintro L' V11 M' ⟨rfl, rfl, hF⟩
   subst hJ10
   refine xr rfl ?_
   obtain ⟨x12, hx12, hF⟩ := bnd_some hF
   refine Exec.callS (.bool (x12)) rfl rfl (W_clockworklaw35_lives   hx12) ?_
   refine xr rfl ?_
   obtain rfl := some_inj hF
   exact Exec.ret tyOk rfl rfl rfl
  ·refine xr rfl ?_
   refine Exec.loop (fun n18 L' V' M' => ∃ (x13 : TPlacement) (a14 : Option Addr) (k14 : Nat) (x15 : List TShard) (a16 : Option Addr) (k16 : Nat) (x17 : Int), L' = [(1, .v (.slice a16 ((x15).length) (k16))), (2, .v (.slice a6 ((x5).length) (k6))), (3, .v (.int .i64 (x7))), (4, .ptr 0 0), (9, .v (.int .i64 (x17)))] ∧ M' = [.blk [.v (.int .i64 (x13.Version)), .v (.slice a14 ((x13.Parts).length) (k14))] 24] ∧ SlAt cTPart V' a14 k14 x13.Parts ∧ SlAt cTShard V' a16 k16 x15 ∧ SlAt cTHeat V' a6 k6 x5 ∧ F_clockworklaw35_RebalanceAdvised_L1 x5 x7 J10 n18 x13 x15 x17 = some r) ⟨(((4 : Int)).toNat + 1), [(1, .v (.slice a4 ((x3).length) (k4))), (2, .v (.slice a6 ((x5).length) (k6))), (3, .v (.int .i64 (x7))), (4, .ptr 0 0), (9, .v (.int .i64 ((0 : Int))))], ⟨rfl, rfl, rfl, rfl, rfl, trivial⟩, x1, a2, k2, x3, a4, k4, (0 : Int), rfl, rfl, h2, h4, h6, hF⟩ ?_
   rintro n18 L' V19 M' ⟨x13, a14, k14, x15, a16, k16, x17, rfl, rfl, h14, h16, h20, hF⟩
   rcases n18 with _ | n18
   ·exact absurd hF (by simp [F_clockworklaw35_RebalanceAdvised_L1])
   rw [F_clockworklaw35_RebalanceAdvised_L1] at hF
   refine xr rfl ?_
   rcases cond_some hF with ⟨hb, hF⟩ | ⟨hb, hF⟩
   ·refine Exec.ifT rfl hb ?_
    refine xr rfl ?_
    obtain ⟨x21, hx21, hF⟩ := bnd_some hF
    refine Exec.callS (.tuple ⟨[.agg ⟨[.int .i64 (x21.1.Kind), .int .i64 (x21.1.Part), .int .i64 (x21.1.New), .int .i64 (x21.1.Node), .int .i64 (x21.1.N), .string ⟨⟨x21.1.Key⟩⟩]⟩, .bool (x21.2)]⟩) rfl rfl (W_rebalance_Advise x13 x15 x5 x7 h14 h16 h20 hx21) ?_
    refine xr rfl ?_
    rcases cond_some hF with ⟨hb, hF⟩ | ⟨hb, hF⟩
    ·refine Exec.ifT rfl hb ?_
     refine xr rfl ?_
     obtain ⟨x22, hx22, hF⟩ := bnd_some hF
     refine Exec.callS (.bool (x22)) rfl rfl (fun gg0 => W_clockworklaw35_lives   (gcall_some hx22 (gd1_of gg0))) ?_
     refine xr rfl ?_
     obtain rfl := some_inj hF
     exact Exec.ret tyOk rfl rfl rfl
    ·refine Exec.ifF rfl hb ?_
     refine xr rfl ?_
     obtain ⟨x23, hx23, hF⟩ := bnd_some hF
     refine Exec.call rfl rfl (W_rebalance_Apply x13 x15 x21.1 h14 h16 hx23) ?_
     rintro V26 _ hv26 ⟨a24, k24, a25, k25, rfl, h24, h25⟩
     have h27 := SlAt.mono h16 hv26
     have h28 := SlAt.mono h20 hv26
     have h29 := SlAt.mono h14 hv26
     refine xr rfl ?_
     rcases cond_some hF with ⟨hb, hF⟩ | ⟨hb, hF⟩
     ·refine Exec.ifT rfl hb ?_
      refine xr rfl ?_
      obtain rfl := some_inj hF
      exact Exec.ret tyOk rfl rfl rfl
     ·refine Exec.ifF rfl hb ?_
      refine xr rfl ?_
      refine Exec.cut 1 [(1, .v (.slice a25 ((x23.2.1).length) (k25))), (2, .v (.slice a6 ((x5).length) (k6))), (3, .v (.int .i64 (x7))), (4, .ptr 0 0), (9, .v (.int .i64 ((IntKind.i64.wrap (x17 + (1 : Int))))))] (M' := [.blk [.v (.int .i64 (x23.1.Version)), .v (.slice a24 ((x23.1.Parts).length) (k24))] 24]) rfl ⟨rfl, rfl, rfl, rfl, rfl, trivial⟩ rfl rfl rfl ?_
      exact Exec.round [(1, .v (.slice a25 ((x23.2.1).length) (k25))), (2, .v (.slice a6 ((x5).length) (k6))), (3, .v (.int .i64 (x7))), (4, .ptr 0 0), (9, .v (.int .i64 ((IntKind.i64.wrap (x17 + (1 : Int))))))] ⟨rfl, rfl, rfl, rfl, rfl, trivial⟩ ⟨n18, Nat.lt_succ_self _, x23.1, a24, k24, x23.2.1, a25, k25, (IntKind.i64.wrap (x17 + (1 : Int))), rfl, rfl, h24, h25, h28, hF⟩
   ·refine Exec.ifF rfl hb ?_
    refine xr rfl ?_
    refine Exec.cut 0 [] (M' := []) rfl trivial rfl rfl rfl ?_
    exact Exec.round [] trivial ⟨rfl, rfl, hF⟩
end Go.Proofs.YtglnnhmmipopiaaGreat
