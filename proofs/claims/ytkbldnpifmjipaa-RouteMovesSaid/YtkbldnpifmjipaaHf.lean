/-
  Functions of the program as their counterparts say them (printed by a program).
  Conditions: none.
-/
import Derived.Test.YtkbldnpifmjipaaHe
set_option linter.all false
namespace Go.Proofs.Ytkbldnpifmjipaa

def F_clockworklaw30_RouteNodes (x1 : TPlacement) (x3 : TFootprint) : Option Bool :=
  (bnd (F_route_Nodes x1 x3) fun x6 => (bnd (F_clockworkref30_Nodes x1 x3) fun x12 => (bnd (F_clockworklaw30_sameInts x6 x12) fun x19 => (bnd (gcall ((x19) == true) (F_route_Active x1 x3)) fun x20 => (bnd (gcall ((x19) == true) (F_clockworkref30_Active x1 x3)) fun x28 => (bnd (gcall ((x19) == true) (F_clockworklaw30_sameInts x20 x28)) fun x37 => (bnd (gcall (((x19 && x37)) == true) (F_route_Executors x1 x3)) fun x38 => (bnd (gcall (((x19 && x37)) == true) (F_clockworkref30_Executors x1 x3)) fun x48 => (bnd (gcall (((x19 && x37)) == true) (F_clockworklaw30_sameInts x38 x48)) fun x59 => (bnd (gcall ((((x19 && x37) && x59)) == true) (F_route_Local x1 x3)) fun x60 => (bnd (gcall ((((x19 && x37) && x59)) == true) (F_clockworkref30_Local x1 x3)) fun x61 => (bnd (gcall (((((x19 && x37) && x59) && (x60 == x61))) == true) (F_clockworklaw30_examples )) fun x62 => (some ((((x19 && x37) && x59) && (x60 == x61)) && x62))))))))))))))

set_option maxRecDepth 100000 in
theorem W_clockworklaw30_RouteNodes {V : View} (x1 : TPlacement) (x3 : TFootprint) {a2 : Option Addr} {k2 : Nat} {a4 : Option Addr} {k4 : Nat} {a5 : Option Addr} {k5 : Nat} (h2 : SlAt cTPart V a2 k2 x1.Parts) (h4 : SlAt cStr V a4 k4 x3.Reads) (h5 : SlAt cStr V a5 k5 x3.Writes) {r : Bool} (hF : F_clockworklaw30_RouteNodes x1 x3 = some r) :
    Spec Try.prog 3 [.agg ⟨[.int .i64 (x1.Version), .slice a2 ((x1.Parts).length) (k2)]⟩, .agg ⟨[.bool (x3.All), .slice a4 ((x3.Reads).length) (k4), .slice a5 ((x3.Writes).length) (k5)]⟩] V (fun _ v => v = .bool (r)) := by
  unfold F_clockworklaw30_RouteNodes at hF
  refine Spec.enter (T := tyT) Try.func3 rfl (by kernel_rfl) rfl rfl rfl ?_
  refine Exec.run tyOk 400 rfl ?_
  refine Exec.draws tyOk [(0, true), (1, true), (3, true), (4, true), (2, false), (5, false), (6, false), (7, false), (8, true), (9, true), (11, true), (12, true), (10, false), (13, false), (14, false), (15, false), (16, false), (17, true), (18, true), (20, true), (21, true), (19, false), (22, false), (23, false), (24, false), (25, false), (26, true), (27, true), (29, true), (30, true), (28, false), (31, false), (32, false), (33, false), (34, false), (35, false), (36, false), (37, false)] rfl (by kernel_rfl) ?_
  refine Exec.run tyOk 400 rfl ?_
  obtain ⟨x6, hx6, hF⟩ := bnd_some hF
  refine Exec.call rfl rfl (W_route_Nodes x1 x3 h2 h4 h5 hx6) ?_
  rintro V8 _ hv8 ⟨a7, k7, rfl, h7⟩
  have h9 := SlAt.mono h2 hv8
  have h10 := SlAt.mono h4 hv8
  have h11 := SlAt.mono h5 hv8
  refine Exec.run tyOk 400 rfl ?_
  obtain ⟨x12, hx12, hF⟩ := bnd_some hF
  refine Exec.call rfl rfl (W_clockworkref30_Nodes x1 x3 h9 h10 h11 hx12) ?_
  rintro V14 _ hv14 ⟨a13, k13, rfl, h13⟩
  have h15 := SlAt.mono h9 hv14
  have h16 := SlAt.mono h10 hv14
  have h17 := SlAt.mono h11 hv14
  have h18 := SlAt.mono h7 hv14
  refine Exec.run tyOk 400 rfl ?_
  obtain ⟨x19, hx19, hF⟩ := bnd_some hF
  refine Exec.callS (.bool (x19)) rfl rfl (W_clockworklaw30_sameInts x6 x12 h18 h13 hx19) ?_
  refine Exec.run tyOk 400 rfl ?_
  obtain ⟨x20, hx20, hF⟩ := bnd_some hF
  refine Exec.callG (fun y : Option Addr × Nat => .slice y.1 ((x20).length) (y.2)) (none, 0) (R := fun V' y => SlAt (cInt .i64) V' y.1 y.2 x20) rfl rfl rfl (fun gg0 => (W_route_Active x1 x3 h15 h16 h17 (gcall_some hx20 (gd1_of gg0))).mono (fun V' _ _ ⟨a21, k21, e1, h21⟩ => ⟨⟨a21, k21⟩, e1, h21⟩)) ?_
  rintro V22 ⟨a21, k21⟩ hv22 hg22
  have h21 : SlAt (cInt .i64) V22 a21 k21 x20 := gslat1 hx20 (fun gg0 => (hg22 gg0))
  have h23 := SlAt.mono h15 hv22
  have h24 := SlAt.mono h16 hv22
  have h25 := SlAt.mono h17 hv22
  have h26 := SlAt.mono h18 hv22
  have h27 := SlAt.mono h13 hv22
  refine Exec.run tyOk 400 rfl ?_
  obtain ⟨x28, hx28, hF⟩ := bnd_some hF
  refine Exec.callG (fun y : Option Addr × Nat => .slice y.1 ((x28).length) (y.2)) (none, 0) (R := fun V' y => SlAt (cInt .i64) V' y.1 y.2 x28) rfl rfl rfl (fun gg0 => (W_clockworkref30_Active x1 x3 h23 h24 h25 (gcall_some hx28 (gd1_of gg0))).mono (fun V' _ _ ⟨a29, k29, e1, h29⟩ => ⟨⟨a29, k29⟩, e1, h29⟩)) ?_
  rintro V30 ⟨a29, k29⟩ hv30 hg30
  have h29 : SlAt (cInt .i64) V30 a29 k29 x28 := gslat1 hx28 (fun gg0 => (hg30 gg0))
  have h31 := SlAt.mono h23 hv30
  have h32 := SlAt.mono h24 hv30
  have h33 := SlAt.mono h25 hv30
  have h34 := SlAt.mono h26 hv30
  have h35 := SlAt.mono h27 hv30
  have h36 := SlAt.mono h21 hv30
  refine Exec.run tyOk 400 rfl ?_
  obtain ⟨x37, hx37, hF⟩ := bnd_some hF
  refine Exec.callS (.bool (x37)) rfl rfl (fun gg0 => W_clockworklaw30_sameInts x20 x28 h36 h29 (gcall_some hx37 (gd1_of gg0))) ?_
  refine Exec.run tyOk 400 rfl ?_
  obtain ⟨x38, hx38, hF⟩ := bnd_some hF
  refine Exec.callG (fun y : Option Addr × Nat => .slice y.1 ((x38).length) (y.2)) (none, 0) (R := fun V' y => SlAt (cInt .i64) V' y.1 y.2 x38) rfl rfl rfl (fun gg0 => (W_route_Executors x1 x3 h31 h32 h33 (gcall_some hx38 (gd1_of gg0))).mono (fun V' _ _ ⟨a39, k39, e1, h39⟩ => ⟨⟨a39, k39⟩, e1, h39⟩)) ?_
  rintro V40 ⟨a39, k39⟩ hv40 hg40
  have h39 : SlAt (cInt .i64) V40 a39 k39 x38 := gslat1 hx38 (fun gg0 => (hg40 gg0))
  have h41 := SlAt.mono h31 hv40
  have h42 := SlAt.mono h32 hv40
  have h43 := SlAt.mono h33 hv40
  have h44 := SlAt.mono h34 hv40
  have h45 := SlAt.mono h35 hv40
  have h46 := SlAt.mono h36 hv40
  have h47 := SlAt.mono h29 hv40
  refine Exec.run tyOk 400 rfl ?_
  obtain ⟨x48, hx48, hF⟩ := bnd_some hF
  refine Exec.callG (fun y : Option Addr × Nat => .slice y.1 ((x48).length) (y.2)) (none, 0) (R := fun V' y => SlAt (cInt .i64) V' y.1 y.2 x48) rfl rfl rfl (fun gg0 => (W_clockworkref30_Executors x1 x3 h41 h42 h43 (gcall_some hx48 (gd1_of gg0))).mono (fun V' _ _ ⟨a49, k49, e1, h49⟩ => ⟨⟨a49, k49⟩, e1, h49⟩)) ?_
  rintro V50 ⟨a49, k49⟩ hv50 hg50
  have h49 : SlAt (cInt .i64) V50 a49 k49 x48 := gslat1 hx48 (fun gg0 => (hg50 gg0))
  have h51 := SlAt.mono h41 hv50
  have h52 := SlAt.mono h42 hv50
  have h53 := SlAt.mono h43 hv50
  have h54 := SlAt.mono h44 hv50
  have h55 := SlAt.mono h45 hv50
  have h56 := SlAt.mono h46 hv50
  have h57 := SlAt.mono h47 hv50
  have h58 := SlAt.mono h39 hv50
  refine Exec.run tyOk 400 rfl ?_
  obtain ⟨x59, hx59, hF⟩ := bnd_some hF
  refine Exec.callS (.bool (x59)) rfl rfl (fun gg0 => W_clockworklaw30_sameInts x38 x48 h58 h49 (gcall_some hx59 (gd1_of gg0))) ?_
  refine Exec.run tyOk 400 rfl ?_
  obtain ⟨x60, hx60, hF⟩ := bnd_some hF
  refine Exec.callS (.bool (x60)) rfl rfl (fun gg0 => W_route_Local x1 x3 h51 h52 h53 (gcall_some hx60 (gd1_of gg0))) ?_
  refine Exec.run tyOk 400 rfl ?_
  obtain ⟨x61, hx61, hF⟩ := bnd_some hF
  refine Exec.callS (.bool (x61)) rfl rfl (fun gg0 => W_clockworkref30_Local x1 x3 h51 h52 h53 (gcall_some hx61 (gd1_of gg0))) ?_
  refine Exec.run tyOk 400 rfl ?_
  obtain ⟨x62, hx62, hF⟩ := bnd_some hF
  refine Exec.callS (.bool (x62)) rfl rfl (fun gg0 => W_clockworklaw30_examples   (gcall_some hx62 (gd1_of gg0))) ?_
  refine Exec.run tyOk 400 rfl ?_
  obtain rfl := some_inj hF
  exact Exec.ret tyOk rfl rfl rfl

def F_clockworklaw30_RouteExecutors_L1 (x6 : List Int) (J39 : Option Bool) : Nat → Int → Option Bool
  | 0, _ => none
  | n50 + 1, x49 => (cond (decide (x49 < (((x6).length : Nat) : Int))) (req (0 ≤ x49 ∧ x49 < ((x6).length : Int)) (req (0 ≤ (IntKind.i64.wrap (x49 - (1 : Int))) ∧ (IntKind.i64.wrap (x49 - (1 : Int))) < ((x6).length : Int)) (cond (decide ((atI x6 x49) ≤ (atI x6 ((IntKind.i64.wrap (x49 - (1 : Int))))))) (some false) (F_clockworklaw30_RouteExecutors_L1 x6 J39 n50 ((IntKind.i64.wrap (x49 + (1 : Int)))))))) J39)

def F_clockworklaw30_RouteExecutors_L2 (x19 : List Int) (x6 : List Int) (J32 : Option Bool) : Nat → Int → Option Bool
  | 0, _ => none
  | n62 + 1, x61 => (cond (decide (x61 < (((x19).length : Nat) : Int))) (req ((((decide ((0 : Int) < (((x6).length : Nat) : Int)))) == true) = true → 0 ≤ x61 ∧ x61 < ((x19).length : Int)) (bnd (gcall (((decide ((0 : Int) < (((x6).length : Nat) : Int)))) == true) (F_clockworkref30_Has x6 ((cond (((decide ((0 : Int) < (((x6).length : Nat) : Int)))) == true) (atI x19 x61) default)))) fun x71 => (req (((((decide ((0 : Int) < x61))) == true) && ((((decide ((0 : Int) < (((x6).length : Nat) : Int))) && (!x71))) == false)) = true → 0 ≤ x61 ∧ x61 < ((x19).length : Int)) (req (((((decide ((0 : Int) < x61))) == true) && ((((decide ((0 : Int) < (((x6).length : Nat) : Int))) && (!x71))) == false)) = true → 0 ≤ (IntKind.i64.wrap (x61 - (1 : Int))) ∧ (IntKind.i64.wrap (x61 - (1 : Int))) < ((x19).length : Int)) (cond (((decide ((0 : Int) < (((x6).length : Nat) : Int))) && (!x71)) || ((decide ((0 : Int) < x61)) && (decide ((cond ((((decide ((0 : Int) < x61))) == true) && ((((decide ((0 : Int) < (((x6).length : Nat) : Int))) && (!x71))) == false)) (atI x19 x61) default) ≤ (cond ((((decide ((0 : Int) < x61))) == true) && ((((decide ((0 : Int) < (((x6).length : Nat) : Int))) && (!x71))) == false)) (atI x19 ((IntKind.i64.wrap (x61 - (1 : Int))))) default))))) (some false) (F_clockworklaw30_RouteExecutors_L2 x19 x6 J32 n62 ((IntKind.i64.wrap (x61 + (1 : Int)))))))))) J32)

def F_clockworklaw30_RouteExecutors (x1 : TPlacement) (x3 : TFootprint) : Option Bool :=
  (bnd (F_route_Nodes x1 x3) fun x6 => (bnd (F_route_Active x1 x3) fun x12 => (bnd (F_route_Executors x1 x3) fun x19 => (bnd (F_placement_Valid x1) fun x27 => (bnd (gcall (((!x27)) == false) (F_footprint_Valid x3)) fun x28 => (cond ((!x27) || (!x28)) (bnd (gcall ((((((((x6).length : Nat) : Int) == (0 : Int)) && ((((x12).length : Nat) : Int) == (0 : Int))) && ((((x19).length : Nat) : Int) == (0 : Int)))) == true) (F_route_Local x1 x3)) fun x29 => (bnd (gcall (((((((((x6).length : Nat) : Int) == (0 : Int)) && ((((x12).length : Nat) : Int) == (0 : Int))) && ((((x19).length : Nat) : Int) == (0 : Int))) && (!x29))) == true) (F_clockworklaw30_examples )) fun x30 => (some ((((((((x6).length : Nat) : Int) == (0 : Int)) && ((((x12).length : Nat) : Int) == (0 : Int))) && ((((x19).length : Nat) : Int) == (0 : Int))) && (!x29)) && x30)))) (bnd (gcall ((((decide ((0 : Int) < (((x12).length : Nat) : Int)))) == true) && ((((((x19).length : Nat) : Int) == (0 : Int))) == false)) (F_clockworklaw30_sameInts x12 x19)) fun x31 => (cond ((((((x19).length : Nat) : Int) == (0 : Int)) || ((decide ((0 : Int) < (((x12).length : Nat) : Int))) && (!x31))) || (((((x12).length : Nat) : Int) == (0 : Int)) && ((((x19).length : Nat) : Int) != (1 : Int)))) (some false) (jn ((jn ((bnd (F_route_Local x1 x3) fun x46 => (bnd (gcall (((x46 == (decide ((((x6).length : Nat) : Int) ≤ (1 : Int))))) == true) (F_route_Local x1 x3)) fun x47 => (bnd (gcall ((((x46 == (decide ((((x6).length : Nat) : Int) ≤ (1 : Int)))) && ((!x47) || ((((x19).length : Nat) : Int) == (1 : Int))))) == true) (F_clockworklaw30_examples )) fun x48 => (some (((x46 == (decide ((((x6).length : Nat) : Int) ≤ (1 : Int)))) && ((!x47) || ((((x19).length : Nat) : Int) == (1 : Int)))) && x48)))))) (fun J39 => (F_clockworklaw30_RouteExecutors_L1 x6 J39 (((((x6).length : Nat) : Int)).toNat + 1) ((1 : Int)))))) (fun J32 => (F_clockworklaw30_RouteExecutors_L2 x19 x6 J32 (((((x19).length : Nat) : Int)).toNat + 1) ((0 : Int)))))))))))))

set_option maxRecDepth 100000 in
theorem W_clockworklaw30_RouteExecutors {V : View} (x1 : TPlacement) (x3 : TFootprint) {a2 : Option Addr} {k2 : Nat} {a4 : Option Addr} {k4 : Nat} {a5 : Option Addr} {k5 : Nat} (h2 : SlAt cTPart V a2 k2 x1.Parts) (h4 : SlAt cStr V a4 k4 x3.Reads) (h5 : SlAt cStr V a5 k5 x3.Writes) {r : Bool} (hF : F_clockworklaw30_RouteExecutors x1 x3 = some r) :
    Spec Try.prog 4 [.agg ⟨[.int .i64 (x1.Version), .slice a2 ((x1.Parts).length) (k2)]⟩, .agg ⟨[.bool (x3.All), .slice a4 ((x3.Reads).length) (k4), .slice a5 ((x3.Writes).length) (k5)]⟩] V (fun _ v => v = .bool (r)) := by
  unfold F_clockworklaw30_RouteExecutors at hF
  refine Spec.enter (T := tyT) Try.func4 rfl (by kernel_rfl) rfl rfl rfl ?_
  refine Exec.run tyOk 400 rfl ?_
  refine Exec.draws tyOk [(0, true), (1, true), (3, true), (4, true), (6, true), (7, true), (2, false), (5, false), (8, false), (9, false), (10, false), (11, false)] rfl (by kernel_rfl) ?_
  refine Exec.run tyOk 400 rfl ?_
  obtain ⟨x6, hx6, hF⟩ := bnd_some hF
  refine Exec.call rfl rfl (W_route_Nodes x1 x3 h2 h4 h5 hx6) ?_
  rintro V8 _ hv8 ⟨a7, k7, rfl, h7⟩
  have h9 := SlAt.mono h2 hv8
  have h10 := SlAt.mono h4 hv8
  have h11 := SlAt.mono h5 hv8
  refine Exec.run tyOk 400 rfl ?_
  obtain ⟨x12, hx12, hF⟩ := bnd_some hF
  refine Exec.call rfl rfl (W_route_Active x1 x3 h9 h10 h11 hx12) ?_
  rintro V14 _ hv14 ⟨a13, k13, rfl, h13⟩
  have h15 := SlAt.mono h9 hv14
  have h16 := SlAt.mono h10 hv14
  have h17 := SlAt.mono h11 hv14
  have h18 := SlAt.mono h7 hv14
  refine Exec.run tyOk 400 rfl ?_
  obtain ⟨x19, hx19, hF⟩ := bnd_some hF
  refine Exec.call rfl rfl (W_route_Executors x1 x3 h15 h16 h17 hx19) ?_
  rintro V21 _ hv21 ⟨a20, k20, rfl, h20⟩
  have h22 := SlAt.mono h15 hv21
  have h23 := SlAt.mono h16 hv21
  have h24 := SlAt.mono h17 hv21
  have h25 := SlAt.mono h18 hv21
  have h26 := SlAt.mono h13 hv21
  refine Exec.run tyOk 400 rfl ?_
  obtain ⟨x27, hx27, hF⟩ := bnd_some hF
  refine Exec.callS (.bool (x27)) rfl rfl (W_placement_Valid x1 h22 hx27) ?_
  refine Exec.run tyOk 400 rfl ?_
  obtain ⟨x28, hx28, hF⟩ := bnd_some hF
  refine Exec.callS (.bool (x28)) rfl rfl (fun gg0 => W_footprint_Valid x3 h23 h24 (gcall_some hx28 (gd1_of gg0))) ?_
  refine Exec.run tyOk 400 rfl ?_
  rcases cond_some hF with ⟨hb, hF⟩ | ⟨hb, hF⟩
  · skip
    refine Exec.ifT rfl hb ?_
    refine Exec.run tyOk 400 rfl ?_
    obtain ⟨x29, hx29, hF⟩ := bnd_some hF
    refine Exec.callS (.bool (x29)) rfl rfl (fun gg0 => W_route_Local x1 x3 h22 h23 h24 (gcall_some hx29 (gd1_of gg0))) ?_
    refine Exec.run tyOk 400 rfl ?_
    obtain ⟨x30, hx30, hF⟩ := bnd_some hF
    refine Exec.callS (.bool (x30)) rfl rfl (fun gg0 => W_clockworklaw30_examples   (gcall_some hx30 (gd1_of gg0))) ?_
    refine Exec.run tyOk 400 rfl ?_
    obtain rfl := some_inj hF
    exact Exec.ret tyOk rfl rfl rfl
  · skip
    refine Exec.ifF rfl hb ?_
    refine Exec.run tyOk 400 rfl ?_
    obtain ⟨x31, hx31, hF⟩ := bnd_some hF
    refine Exec.callS (.bool (x31)) rfl rfl (fun gg0 gg1 => W_clockworklaw30_sameInts x12 x19 h26 h20 (gcall_some hx31 (gd2_of gg0 gg1))) ?_
    refine Exec.run tyOk 400 rfl ?_
    rcases cond_some hF with ⟨hb, hF⟩ | ⟨hb, hF⟩
    · skip
      refine Exec.ifT rfl hb ?_
      refine Exec.run tyOk 400 rfl ?_
      obtain rfl := some_inj hF
      exact Exec.ret tyOk rfl rfl rfl
    · skip
      refine Exec.ifF rfl hb ?_
      refine Exec.run tyOk 6 rfl ?_
      obtain ⟨J32, hJ32, hF⟩ := jn_some hF
      refine Exec.seam (fun L' V' M' => L' = [(2, .ptr 0 0), (3, .ptr 1 0), (5, .v (.slice a7 ((x6).length) (k7))), (7, .v (.slice a20 ((x19).length) (k20)))] ∧ M' = [.blk [.v (.int .i64 (x1.Version)), .v (.slice a2 ((x1.Parts).length) (k2))] 24, .blk [.v (.bool (x3.All)), .v (.slice a4 ((x3.Reads).length) (k4)), .v (.slice a5 ((x3.Writes).length) (k5))] 27] ∧ SlAt (cInt .i64) V' a7 k7 x6 ∧ SlAt (cInt .i64) V' a20 k20 x19 ∧ SlAt cTPart V' a2 k2 x1.Parts ∧ SlAt cStr V' a4 k4 x3.Reads ∧ SlAt cStr V' a5 k5 x3.Writes ∧ J32 = some r) rfl ?_ ?_
      · rintro L' V33 M' ⟨rfl, rfl, h34, h35, h36, h37, h38, hF⟩
        subst hJ32
        refine Exec.run tyOk 5 rfl ?_
        obtain ⟨J39, hJ39, hF⟩ := jn_some hF
        refine Exec.seam (fun L' V' M' => L' = [(2, .ptr 0 0), (3, .ptr 1 0), (5, .v (.slice a7 ((x6).length) (k7))), (7, .v (.slice a20 ((x19).length) (k20)))] ∧ M' = [.blk [.v (.int .i64 (x1.Version)), .v (.slice a2 ((x1.Parts).length) (k2))] 24, .blk [.v (.bool (x3.All)), .v (.slice a4 ((x3.Reads).length) (k4)), .v (.slice a5 ((x3.Writes).length) (k5))] 27] ∧ SlAt (cInt .i64) V' a7 k7 x6 ∧ SlAt (cInt .i64) V' a20 k20 x19 ∧ SlAt cTPart V' a2 k2 x1.Parts ∧ SlAt cStr V' a4 k4 x3.Reads ∧ SlAt cStr V' a5 k5 x3.Writes ∧ J39 = some r) rfl ?_ ?_
        · rintro L' V40 M' ⟨rfl, rfl, h41, h42, h43, h44, h45, hF⟩
          subst hJ39
          refine Exec.run tyOk 400 rfl ?_
          obtain ⟨x46, hx46, hF⟩ := bnd_some hF
          refine Exec.callS (.bool (x46)) rfl rfl (W_route_Local x1 x3 h43 h44 h45 hx46) ?_
          refine Exec.run tyOk 400 rfl ?_
          obtain ⟨x47, hx47, hF⟩ := bnd_some hF
          refine Exec.callS (.bool (x47)) rfl rfl (fun gg0 => W_route_Local x1 x3 h43 h44 h45 (gcall_some hx47 (gd1_of gg0))) ?_
          refine Exec.run tyOk 400 rfl ?_
          obtain ⟨x48, hx48, hF⟩ := bnd_some hF
          refine Exec.callS (.bool (x48)) rfl rfl (fun gg0 => W_clockworklaw30_examples   (gcall_some hx48 (gd1_of gg0))) ?_
          refine Exec.run tyOk 400 rfl ?_
          obtain rfl := some_inj hF
          exact Exec.ret tyOk rfl rfl rfl
        · skip
          refine Exec.run tyOk 400 rfl ?_
          refine Exec.loop (fun n50 L' V' M' => ∃ (x49 : Int), L' = [(2, .ptr 0 0), (3, .ptr 1 0), (5, .v (.slice a7 ((x6).length) (k7))), (7, .v (.slice a20 ((x19).length) (k20))), (9, .v (.int .i64 (x49)))] ∧ M' = [.blk [.v (.int .i64 (x1.Version)), .v (.slice a2 ((x1.Parts).length) (k2))] 24, .blk [.v (.bool (x3.All)), .v (.slice a4 ((x3.Reads).length) (k4)), .v (.slice a5 ((x3.Writes).length) (k5))] 27] ∧ SlAt (cInt .i64) V' a7 k7 x6 ∧ SlAt (cInt .i64) V' a20 k20 x19 ∧ SlAt cTPart V' a2 k2 x1.Parts ∧ SlAt cStr V' a4 k4 x3.Reads ∧ SlAt cStr V' a5 k5 x3.Writes ∧ F_clockworklaw30_RouteExecutors_L1 x6 J39 n50 x49 = some r) ⟨(((((x6).length : Nat) : Int)).toNat + 1), [(2, .ptr 0 0), (3, .ptr 1 0), (5, .v (.slice a7 ((x6).length) (k7))), (7, .v (.slice a20 ((x19).length) (k20))), (9, .v (.int .i64 ((1 : Int))))], ⟨rfl, rfl, rfl, rfl, rfl, trivial⟩, (1 : Int), rfl, rfl, h34, h35, h36, h37, h38, hF⟩ ?_
          rintro n50 L' V51 M' ⟨x49, rfl, rfl, h52, h53, h54, h55, h56, hF⟩
          rcases n50 with _ | n50
          · exact absurd hF (by simp [F_clockworklaw30_RouteExecutors_L1])
          rw [F_clockworklaw30_RouteExecutors_L1] at hF
          refine Exec.run tyOk 400 rfl ?_
          rcases cond_some hF with ⟨hb, hF⟩ | ⟨hb, hF⟩
          · skip
            refine Exec.ifT rfl hb ?_
            refine Exec.run tyOk 400 rfl ?_
            refine Exec.draws tyOk [(0, true), (1, true), (2, true), (3, true), (4, true), (5, true), (6, true), (7, true), (8, true), (9, true)] rfl (by kernel_rfl) ?_
            refine Exec.run tyOk 400 rfl ?_
            obtain ⟨q57, hF⟩ := req_some hF
            obtain ⟨c58, hr58, hd58⟩ := SlAt.get h52 q57
            obtain rfl := hr58
            refine Exec.fia tyOk rfl rfl rfl ⟨q57.1, q57.2, hd58.some⟩ ?_
            refine Exec.run tyOk 400 rfl ?_
            refine Exec.fld tyOk (x := .int .i64 ((atI x6 x49))) rfl rfl rfl hd58 rfl rfl ?_
            refine Exec.run tyOk 400 rfl ?_
            obtain ⟨q59, hF⟩ := req_some hF
            obtain ⟨c60, hr60, hd60⟩ := SlAt.get h52 q59
            obtain rfl := hr60
            refine Exec.fia tyOk rfl rfl rfl ⟨q59.1, q59.2, hd60.some⟩ ?_
            refine Exec.run tyOk 400 rfl ?_
            refine Exec.fld tyOk (x := .int .i64 ((atI x6 ((IntKind.i64.wrap (x49 - (1 : Int))))))) rfl rfl rfl hd60 rfl rfl ?_
            refine Exec.run tyOk 400 rfl ?_
            rcases cond_some hF with ⟨hb, hF⟩ | ⟨hb, hF⟩
            · skip
              refine Exec.ifT rfl hb ?_
              refine Exec.run tyOk 400 rfl ?_
              obtain rfl := some_inj hF
              exact Exec.ret tyOk rfl rfl rfl
            · skip
              refine Exec.ifF rfl hb ?_
              refine Exec.run tyOk 400 rfl ?_
              exact Exec.round [(2, .ptr 0 0), (3, .ptr 1 0), (5, .v (.slice a7 ((x6).length) (k7))), (7, .v (.slice a20 ((x19).length) (k20))), (9, .v (.int .i64 ((IntKind.i64.wrap (x49 + (1 : Int))))))] ⟨rfl, rfl, rfl, rfl, rfl, trivial⟩ ⟨n50, Nat.lt_succ_self _, (IntKind.i64.wrap (x49 + (1 : Int))), rfl, rfl, h52, h53, h54, h55, h56, hF⟩
          · skip
            refine Exec.ifF rfl hb ?_
            refine Exec.run tyOk 400 rfl ?_
            exact Exec.round [(2, .ptr 0 0), (3, .ptr 1 0), (5, .v (.slice a7 ((x6).length) (k7))), (7, .v (.slice a20 ((x19).length) (k20)))] ⟨rfl, rfl, rfl, rfl, trivial⟩ ⟨rfl, rfl, h52, h53, h54, h55, h56, hF⟩
      · skip
        refine Exec.run tyOk 400 rfl ?_
        refine Exec.loop (fun n62 L' V' M' => ∃ (x61 : Int), L' = [(2, .ptr 0 0), (3, .ptr 1 0), (5, .v (.slice a7 ((x6).length) (k7))), (7, .v (.slice a20 ((x19).length) (k20))), (8, .v (.int .i64 (x61)))] ∧ M' = [.blk [.v (.int .i64 (x1.Version)), .v (.slice a2 ((x1.Parts).length) (k2))] 24, .blk [.v (.bool (x3.All)), .v (.slice a4 ((x3.Reads).length) (k4)), .v (.slice a5 ((x3.Writes).length) (k5))] 27] ∧ SlAt (cInt .i64) V' a7 k7 x6 ∧ SlAt (cInt .i64) V' a20 k20 x19 ∧ SlAt cTPart V' a2 k2 x1.Parts ∧ SlAt cStr V' a4 k4 x3.Reads ∧ SlAt cStr V' a5 k5 x3.Writes ∧ F_clockworklaw30_RouteExecutors_L2 x19 x6 J32 n62 x61 = some r) ⟨(((((x19).length : Nat) : Int)).toNat + 1), [(2, .ptr 0 0), (3, .ptr 1 0), (5, .v (.slice a7 ((x6).length) (k7))), (7, .v (.slice a20 ((x19).length) (k20))), (8, .v (.int .i64 ((0 : Int))))], ⟨rfl, rfl, rfl, rfl, rfl, trivial⟩, (0 : Int), rfl, rfl, h25, h20, h22, h23, h24, hF⟩ ?_
        rintro n62 L' V63 M' ⟨x61, rfl, rfl, h64, h65, h66, h67, h68, hF⟩
        rcases n62 with _ | n62
        · exact absurd hF (by simp [F_clockworklaw30_RouteExecutors_L2])
        rw [F_clockworklaw30_RouteExecutors_L2] at hF
        refine Exec.run tyOk 400 rfl ?_
        rcases cond_some hF with ⟨hb, hF⟩ | ⟨hb, hF⟩
        · skip
          refine Exec.ifT rfl hb ?_
          refine Exec.run tyOk 400 rfl ?_
          refine Exec.draws tyOk [(0, true), (1, true), (2, true), (3, true), (4, true), (5, true), (6, true), (7, true), (8, true), (9, false), (10, false), (11, false), (12, false), (13, false), (14, false), (15, false), (16, true), (17, true), (18, true), (19, true), (20, true), (21, false), (22, false), (23, false), (24, false), (25, false), (26, false), (27, false)] rfl (by kernel_rfl) ?_
          refine Exec.run tyOk 400 rfl ?_
          obtain ⟨q69, hF⟩ := req_some hF
          obtain ⟨c70, hr70, hd70⟩ := SlAt.gget (((decide ((0 : Int) < (((x6).length : Nat) : Int)))) == true) h65 q69
          obtain rfl := hr70
          refine Exec.fia tyOk rfl rfl rfl (fun gg0 => ⟨(q69 (gd1_of gg0)).1, (q69 (gd1_of gg0)).2, (hd70 (gd1_of gg0)).some⟩) ?_
          refine Exec.run tyOk 400 rfl ?_
          refine Exec.fld tyOk (x := .int .i64 ((cond (((decide ((0 : Int) < (((x6).length : Nat) : Int)))) == true) (atI x19 x61) default))) rfl rfl rfl (fun gg0 => (hd70 (gd1_of gg0))) rfl rfl ?_
          refine Exec.run tyOk 400 rfl ?_
          obtain ⟨x71, hx71, hF⟩ := bnd_some hF
          refine Exec.callS (.bool (x71)) rfl rfl (fun gg0 => W_clockworkref30_Has x6 ((cond (((decide ((0 : Int) < (((x6).length : Nat) : Int)))) == true) (atI x19 x61) default)) h64 (gcall_some hx71 (gd1_of gg0))) ?_
          refine Exec.run tyOk 400 rfl ?_
          obtain ⟨q72, hF⟩ := req_some hF
          obtain ⟨c73, hr73, hd73⟩ := SlAt.gget ((((decide ((0 : Int) < x61))) == true) && ((((decide ((0 : Int) < (((x6).length : Nat) : Int))) && (!x71))) == false)) h65 q72
          obtain rfl := hr73
          refine Exec.fia tyOk rfl rfl rfl (fun gg0 gg1 => ⟨(q72 (gd2_of gg0 gg1)).1, (q72 (gd2_of gg0 gg1)).2, (hd73 (gd2_of gg0 gg1)).some⟩) ?_
          refine Exec.run tyOk 400 rfl ?_
          refine Exec.fld tyOk (x := .int .i64 ((cond ((((decide ((0 : Int) < x61))) == true) && ((((decide ((0 : Int) < (((x6).length : Nat) : Int))) && (!x71))) == false)) (atI x19 x61) default))) rfl rfl rfl (fun gg0 gg1 => (hd73 (gd2_of gg0 gg1))) rfl rfl ?_
          refine Exec.run tyOk 400 rfl ?_
          obtain ⟨q74, hF⟩ := req_some hF
          obtain ⟨c75, hr75, hd75⟩ := SlAt.gget ((((decide ((0 : Int) < x61))) == true) && ((((decide ((0 : Int) < (((x6).length : Nat) : Int))) && (!x71))) == false)) h65 q74
          obtain rfl := hr75
          refine Exec.ia tyOk rfl rfl (fun gg0 gg1 => ⟨(q74 (gd2_of gg0 gg1)).1, (q74 (gd2_of gg0 gg1)).2, (hd75 (gd2_of gg0 gg1)).some⟩) ?_
          refine Exec.run tyOk 400 rfl ?_
          refine Exec.ld tyOk (x := .int .i64 ((cond ((((decide ((0 : Int) < x61))) == true) && ((((decide ((0 : Int) < (((x6).length : Nat) : Int))) && (!x71))) == false)) (atI x19 ((IntKind.i64.wrap (x61 - (1 : Int))))) default))) rfl rfl (fun gg0 gg1 => (hd75 (gd2_of gg0 gg1))) rfl rfl ?_
          refine Exec.run tyOk 400 rfl ?_
          rcases cond_some hF with ⟨hb, hF⟩ | ⟨hb, hF⟩
          · skip
            refine Exec.ifT rfl hb ?_
            refine Exec.run tyOk 400 rfl ?_
            obtain rfl := some_inj hF
            exact Exec.ret tyOk rfl rfl rfl
          · skip
            refine Exec.ifF rfl hb ?_
            refine Exec.run tyOk 400 rfl ?_
            exact Exec.round [(2, .ptr 0 0), (3, .ptr 1 0), (5, .v (.slice a7 ((x6).length) (k7))), (7, .v (.slice a20 ((x19).length) (k20))), (8, .v (.int .i64 ((IntKind.i64.wrap (x61 + (1 : Int))))))] ⟨rfl, rfl, rfl, rfl, rfl, trivial⟩ ⟨n62, Nat.lt_succ_self _, (IntKind.i64.wrap (x61 + (1 : Int))), rfl, rfl, h64, h65, h66, h67, h68, hF⟩
        · skip
          refine Exec.ifF rfl hb ?_
          refine Exec.run tyOk 400 rfl ?_
          exact Exec.round [(2, .ptr 0 0), (3, .ptr 1 0), (5, .v (.slice a7 ((x6).length) (k7))), (7, .v (.slice a20 ((x19).length) (k20)))] ⟨rfl, rfl, rfl, rfl, trivial⟩ ⟨rfl, rfl, h64, h65, h66, h67, h68, hF⟩

def F_clockworklaw30_RouteMoves_L1 (x1 : TPlacement) (J52 : Bool → Option Bool) : Nat → Bool → Int → Option Bool
  | 0, _, _ => none
  | n97 + 1, x95, x96 => (cond (decide (x96 < (((x1.Parts).length : Nat) : Int))) (req (((x95) == false) = true → 0 ≤ x96 ∧ x96 < ((x1.Parts).length : Int)) (F_clockworklaw30_RouteMoves_L1 x1 J52 n97 ((x95 || ((cond ((x95) == false) (atI x1.Parts x96) default).Dest != (0 : Int)))) ((IntKind.i64.wrap (x96 + (1 : Int)))))) (J52 x95))

def F_clockworklaw30_RouteMoves_L2 (x1 : TPlacement) (x6 : Int) (J17 : (List TPart) → (List TPart) → Option Bool) : Nat → (List TPart) → (List TPart) → Int → Option Bool
  | 0, _, _, _ => none
  | n110 + 1, x106, x108, x109 => (cond (decide (x109 < (((x1.Parts).length : Nat) : Int))) (req (0 ≤ x109 ∧ x109 < ((x1.Parts).length : Int)) (req (((x106 ++ [(⟨(IntKind.i64.wrap (x109 + (1 : Int))), (atI x1.Parts x109).From, (atI x1.Parts x109).Node, (0 : Int), ([] : Str)⟩ : TPart)])).length * 56 ≤ 140737488355328) (req (((x108 ++ [(⟨(IntKind.i64.wrap (x109 + (1 : Int))), (atI x1.Parts x109).From, (IntKind.i64.wrap ((1 : Int) + (remI (IntKind.i64.wrap x6) (16 : Int)))), (0 : Int), ([] : Str)⟩ : TPart)])).length * 56 ≤ 140737488355328) (F_clockworklaw30_RouteMoves_L2 x1 x6 J17 n110 ((x106 ++ [(⟨(IntKind.i64.wrap (x109 + (1 : Int))), (atI x1.Parts x109).From, (atI x1.Parts x109).Node, (0 : Int), ([] : Str)⟩ : TPart)])) ((x108 ++ [(⟨(IntKind.i64.wrap (x109 + (1 : Int))), (atI x1.Parts x109).From, (IntKind.i64.wrap ((1 : Int) + (remI (IntKind.i64.wrap x6) (16 : Int)))), (0 : Int), ([] : Str)⟩ : TPart)])) ((IntKind.i64.wrap (x109 + (1 : Int)))))))) (J17 x106 x108))

def F_clockworklaw30_RouteMoves (x1 : TPlacement) (x3 : TFootprint) (x6 : Int) : Option Bool :=
  (bnd (F_placement_Valid x1) fun x7 => (bnd (gcall (((!x7)) == false) (F_footprint_Valid x3)) fun x8 => (cond ((!x7) || (!x8)) (bnd (F_clockworklaw30_examples ) fun x9 => (some x9)) (req ((16 : Int) ≠ 0) (jn (fun (x14 : List TPart) (x16 : List TPart) => (bnd (gcall (((decide (x1.Version < (1099511627776 : Int)))) == true) (F_placement_Valid ((⟨(IntKind.i64.wrap (x1.Version + (1 : Int))), x14⟩ : TPlacement)))) fun x27 => (bnd (gcall ((((decide (x1.Version < (1099511627776 : Int))) && (!x27))) == false) (F_placement_Valid ((⟨x1.Version, x16⟩ : TPlacement)))) fun x33 => (bnd (gcall (((((decide (x1.Version < (1099511627776 : Int))) && (!x27)) || (!x33))) == false) (F_route_Local ((⟨x1.Version, x16⟩ : TPlacement)) x3)) fun x34 => (bnd (gcall ((((((decide (x1.Version < (1099511627776 : Int))) && (!x27)) || (!x33)) || (!x34))) == false) (F_route_Executors ((⟨x1.Version, x16⟩ : TPlacement)) x3)) fun x35 => (bnd (gcall ((((((decide (x1.Version < (1099511627776 : Int))) && (!x27)) || (!x33)) || (!x34))) == false) (F_clockworklaw30_sameInts x35 (([(IntKind.i64.wrap ((1 : Int) + (remI (IntKind.i64.wrap x6) (16 : Int))))] : List Int)))) fun x50 => (cond (((((decide (x1.Version < (1099511627776 : Int))) && (!x27)) || (!x33)) || (!x34)) || (!x50)) (some false) (jn (fun (x51 : Bool) => (bnd (gcall ((x51) == false) (F_route_Nodes x1 x3)) fun x58 => (bnd (gcall ((x51) == false) (F_route_Nodes ((⟨(IntKind.i64.wrap (x1.Version + (1 : Int))), x14⟩ : TPlacement)) x3)) fun x65 => (bnd (gcall ((x51) == false) (F_clockworklaw30_sameInts x58 x65)) fun x73 => (bnd (gcall (((x73) == true) && ((x51) == false)) (F_route_Executors x1 x3)) fun x74 => (bnd (gcall (((x73) == true) && ((x51) == false)) (F_route_Executors ((⟨(IntKind.i64.wrap (x1.Version + (1 : Int))), x14⟩ : TPlacement)) x3)) fun x83 => (bnd (gcall (((x73) == true) && ((x51) == false)) (F_clockworklaw30_sameInts x74 x83)) fun x93 => (bnd (gcall (((x51 || (x73 && x93))) == true) (F_clockworklaw30_examples )) fun x94 => (some ((x51 || (x73 && x93)) && x94)))))))))) (fun J52 => (F_clockworklaw30_RouteMoves_L1 x1 J52 (((((x1.Parts).length : Nat) : Int)).toNat + 1) ((x1.Version == (1099511627776 : Int))) ((0 : Int)))))))))))) (fun J17 => (F_clockworklaw30_RouteMoves_L2 x1 x6 J17 (((((x1.Parts).length : Nat) : Int)).toNat + 1) (([] : List TPart)) (([] : List TPart)) ((0 : Int)))))))))

set_option maxRecDepth 100000 in
theorem W_clockworklaw30_RouteMoves {V : View} (x1 : TPlacement) (x3 : TFootprint) (x6 : Int) {a2 : Option Addr} {k2 : Nat} {a4 : Option Addr} {k4 : Nat} {a5 : Option Addr} {k5 : Nat} (h2 : SlAt cTPart V a2 k2 x1.Parts) (h4 : SlAt cStr V a4 k4 x3.Reads) (h5 : SlAt cStr V a5 k5 x3.Writes) {r : Bool} (hF : F_clockworklaw30_RouteMoves x1 x3 x6 = some r) :
    Spec Try.prog 5 [.agg ⟨[.int .i64 (x1.Version), .slice a2 ((x1.Parts).length) (k2)]⟩, .agg ⟨[.bool (x3.All), .slice a4 ((x3.Reads).length) (k4), .slice a5 ((x3.Writes).length) (k5)]⟩, .int .u8 (x6)] V (fun _ v => v = .bool (r)) := by
  unfold F_clockworklaw30_RouteMoves at hF
  refine Spec.enter (T := tyT) Try.func5 rfl (by kernel_rfl) rfl rfl rfl ?_
  refine Exec.run tyOk 400 rfl ?_
  obtain ⟨x7, hx7, hF⟩ := bnd_some hF
  refine Exec.callS (.bool (x7)) rfl rfl (W_placement_Valid x1 h2 hx7) ?_
  refine Exec.run tyOk 400 rfl ?_
  obtain ⟨x8, hx8, hF⟩ := bnd_some hF
  refine Exec.callS (.bool (x8)) rfl rfl (fun gg0 => W_footprint_Valid x3 h4 h5 (gcall_some hx8 (gd1_of gg0))) ?_
  refine Exec.run tyOk 400 rfl ?_
  rcases cond_some hF with ⟨hb, hF⟩ | ⟨hb, hF⟩
  · skip
    refine Exec.ifT rfl hb ?_
    refine Exec.run tyOk 400 rfl ?_
    obtain ⟨x9, hx9, hF⟩ := bnd_some hF
    refine Exec.callS (.bool (x9)) rfl rfl (W_clockworklaw30_examples   hx9) ?_
    refine Exec.run tyOk 400 rfl ?_
    obtain rfl := some_inj hF
    exact Exec.ret tyOk rfl rfl rfl
  · skip
    refine Exec.ifF rfl hb ?_
    refine Exec.run tyOk 400 rfl ?_
    obtain ⟨q10, hF⟩ := req_some hF
    refine Exec.ari rfl rfl q10 ?_
    refine Exec.run tyOk 25 rfl ?_
    refine Exec.row0 37 5 rfl ?_
    have h11 : RowRep cTPart V ([] : List TPart) [] := RowRep.nil
    refine Exec.row0 37 5 rfl ?_
    have h12 : RowRep cTPart V ([] : List TPart) [] := RowRep.nil
    obtain ⟨J17, hJ17, hF⟩ := jn_some hF
    refine Exec.seam (fun L' V' M' => ∃ (x14 : List TPart) (a13 : Option Addr) (k13 : Nat) (cs13 : List Value) (x16 : List TPart) (a15 : Option Addr) (k15 : Nat) (cs15 : List Value), L' = [(3, .ptr 0 0), (4, .ptr 1 0), (7, .v (.int .i64 ((IntKind.i64.wrap ((1 : Int) + (remI (IntKind.i64.wrap x6) (16 : Int))))))), (8, .ptr 2 0), (9, .ptr 3 0)] ∧ M' = [.blk [.v (.int .i64 (x1.Version)), .v (.slice a2 ((x1.Parts).length) (k2))] 24, .blk [.v (.bool (x3.All)), .v (.slice a4 ((x3.Reads).length) (k4)), .v (.slice a5 ((x3.Writes).length) (k5))] 27, .blk [.v (.int .i64 ((IntKind.i64.wrap (x1.Version + (1 : Int))))), .v (.slice a13 ((x14).length) (k13))] 24, .blk [.v (.int .i64 (x1.Version)), .v (.slice a15 ((x16).length) (k15))] 24, .row (.slice a13 ((x14).length) (k13)) cs13 37 5, .row (.slice a15 ((x16).length) (k15)) cs15 37 5] ∧ RowRep cTPart V' x14 cs13 ∧ RowRep cTPart V' x16 cs15 ∧ SlAt cTPart V' a2 k2 x1.Parts ∧ SlAt cStr V' a4 k4 x3.Reads ∧ SlAt cStr V' a5 k5 x3.Writes ∧ J17 x14 x16 = some r) rfl ?_ ?_
    · rintro L' V18 M' ⟨x14, a13, k13, cs13, x16, a15, k15, cs15, rfl, rfl, h13, h15, h19, h20, h21, hF⟩
      subst hJ17
      refine Exec.run tyOk 400 rfl ?_
      refine Exec.frz 4 rfl rfl rfl (fun V22 hv22 hd22 hn22 => ?_)
      have hz22 := RowRep.slat h13 hv22 hd22 hn22
      have h23 := SlAt.mono h19 hv22
      have h24 := SlAt.mono h20 hv22
      have h25 := SlAt.mono h21 hv22
      have h26 := RowRep.mono hv22 h15
      obtain ⟨x27, hx27, hF⟩ := bnd_some hF
      refine Exec.callS (.bool (x27)) rfl rfl (fun gg0 => W_placement_Valid ((⟨(IntKind.i64.wrap (x1.Version + (1 : Int))), x14⟩ : TPlacement)) hz22 (gcall_some hx27 (gd1_of gg0))) ?_
      refine Exec.run tyOk 400 rfl ?_
      refine Exec.frz 5 rfl rfl rfl (fun V28 hv28 hd28 hn28 => ?_)
      have hz28 := RowRep.slat h26 hv28 hd28 hn28
      have h29 := SlAt.mono hz22 hv28
      have h30 := SlAt.mono h23 hv28
      have h31 := SlAt.mono h24 hv28
      have h32 := SlAt.mono h25 hv28
      obtain ⟨x33, hx33, hF⟩ := bnd_some hF
      refine Exec.callS (.bool (x33)) rfl rfl (fun gg0 => W_placement_Valid ((⟨x1.Version, x16⟩ : TPlacement)) hz28 (gcall_some hx33 (gd1_of gg0))) ?_
      refine Exec.run tyOk 400 rfl ?_
      obtain ⟨x34, hx34, hF⟩ := bnd_some hF
      refine Exec.callS (.bool (x34)) rfl rfl (fun gg0 => W_route_Local ((⟨x1.Version, x16⟩ : TPlacement)) x3 hz28 h31 h32 (gcall_some hx34 (gd1_of gg0))) ?_
      refine Exec.run tyOk 400 rfl ?_
      obtain ⟨x35, hx35, hF⟩ := bnd_some hF
      refine Exec.callG (fun y : Option Addr × Nat => .slice y.1 ((x35).length) (y.2)) (none, 0) (R := fun V' y => SlAt (cInt .i64) V' y.1 y.2 x35) rfl rfl rfl (fun gg0 => (W_route_Executors ((⟨x1.Version, x16⟩ : TPlacement)) x3 hz28 h31 h32 (gcall_some hx35 (gd1_of gg0))).mono (fun V' _ _ ⟨a36, k36, e1, h36⟩ => ⟨⟨a36, k36⟩, e1, h36⟩)) ?_
      rintro V37 ⟨a36, k36⟩ hv37 hg37
      have h36 : SlAt (cInt .i64) V37 a36 k36 x35 := gslat1 hx35 (fun gg0 => (hg37 gg0))
      have h38 := SlAt.mono h29 hv37
      have h39 := SlAt.mono hz28 hv37
      have h40 := SlAt.mono h31 hv37
      have h41 := SlAt.mono h32 hv37
      have h42 := SlAt.mono h30 hv37
      refine Exec.run tyOk 400 rfl ?_
      refine Exec.gbsV tyOk rfl rfl rfl rfl (fun V43 a43 hv43 hg43 => ?_) rfl
      have h44 := SlAt.mono h38 hv43
      have h45 := SlAt.mono h39 hv43
      have h46 := SlAt.mono h40 hv43
      have h47 := SlAt.mono h41 hv43
      have h48 := SlAt.mono h36 hv43
      have h49 := SlAt.mono h42 hv43
      have h43 : (((((decide (x1.Version < (1099511627776 : Int))) && (!x27)) || (!x33)) || (!x34))) = false → SlAt (cInt .i64) V43 ((some a43)) 1 (([(IntKind.i64.wrap ((1 : Int) + (remI (IntKind.i64.wrap x6) (16 : Int))))] : List Int)) := fun gg0 => RowRep.slat (c := (cInt .i64)) (V := V43) (cs := [.int .i64 ((IntKind.i64.wrap ((1 : Int) + (remI (IntKind.i64.wrap x6) (16 : Int)))))]) ⟨_, _, rfl, rfl, rfl⟩ (VLe.refl _) (fun _ => hg43 gg0) (by simp)
      refine Exec.run tyOk 400 rfl ?_
      obtain ⟨x50, hx50, hF⟩ := bnd_some hF
      refine Exec.callS (.bool (x50)) rfl rfl (fun gg0 => W_clockworklaw30_sameInts x35 (([(IntKind.i64.wrap ((1 : Int) + (remI (IntKind.i64.wrap x6) (16 : Int))))] : List Int)) h48 (h43 gg0) (gcall_some hx50 (gd1_of gg0))) ?_
      refine Exec.run tyOk 400 rfl ?_
      rcases cond_some hF with ⟨hb, hF⟩ | ⟨hb, hF⟩
      · skip
        refine Exec.ifT rfl hb ?_
        refine Exec.run tyOk 400 rfl ?_
        obtain rfl := some_inj hF
        exact Exec.ret tyOk rfl rfl rfl
      · skip
        refine Exec.ifF rfl hb ?_
        refine Exec.run tyOk 13 rfl ?_
        obtain ⟨J52, hJ52, hF⟩ := jn_some hF
        refine Exec.seam (fun L' V' M' => ∃ (x51 : Bool), L' = [(3, .ptr 0 0), (4, .ptr 1 0), (8, .ptr 2 0), (12, .v (.bool (x51)))] ∧ M' = [.blk [.v (.int .i64 (x1.Version)), .v (.slice a2 ((x1.Parts).length) (k2))] 24, .blk [.v (.bool (x3.All)), .v (.slice a4 ((x3.Reads).length) (k4)), .v (.slice a5 ((x3.Writes).length) (k5))] 27, .blk [.v (.int .i64 ((IntKind.i64.wrap (x1.Version + (1 : Int))))), .v (.slice a13 ((x14).length) (k13))] 24] ∧ SlAt cTPart V' a2 k2 x1.Parts ∧ SlAt cStr V' a4 k4 x3.Reads ∧ SlAt cStr V' a5 k5 x3.Writes ∧ SlAt cTPart V' a13 k13 x14 ∧ J52 x51 = some r) rfl ?_ ?_
        · rintro L' V53 M' ⟨x51, rfl, rfl, h54, h55, h56, h57, hF⟩
          subst hJ52
          refine Exec.run tyOk 400 rfl ?_
          refine Exec.draws tyOk [(0, true), (1, true), (2, true), (3, true), (5, true), (6, true), (4, false), (7, false), (8, false), (9, false), (10, true), (11, true), (13, true), (14, true), (12, false), (15, false), (16, false), (17, false), (18, false), (19, false), (20, false), (21, false), (22, false)] rfl (by kernel_rfl) ?_
          refine Exec.run tyOk 400 rfl ?_
          obtain ⟨x58, hx58, hF⟩ := bnd_some hF
          refine Exec.callG (fun y : Option Addr × Nat => .slice y.1 ((x58).length) (y.2)) (none, 0) (R := fun V' y => SlAt (cInt .i64) V' y.1 y.2 x58) rfl rfl rfl (fun gg0 => (W_route_Nodes x1 x3 h54 h55 h56 (gcall_some hx58 (gd1_of gg0))).mono (fun V' _ _ ⟨a59, k59, e1, h59⟩ => ⟨⟨a59, k59⟩, e1, h59⟩)) ?_
          rintro V60 ⟨a59, k59⟩ hv60 hg60
          have h59 : SlAt (cInt .i64) V60 a59 k59 x58 := gslat1 hx58 (fun gg0 => (hg60 gg0))
          have h61 := SlAt.mono h54 hv60
          have h62 := SlAt.mono h55 hv60
          have h63 := SlAt.mono h56 hv60
          have h64 := SlAt.mono h57 hv60
          refine Exec.run tyOk 400 rfl ?_
          obtain ⟨x65, hx65, hF⟩ := bnd_some hF
          refine Exec.callG (fun y : Option Addr × Nat => .slice y.1 ((x65).length) (y.2)) (none, 0) (R := fun V' y => SlAt (cInt .i64) V' y.1 y.2 x65) rfl rfl rfl (fun gg0 => (W_route_Nodes ((⟨(IntKind.i64.wrap (x1.Version + (1 : Int))), x14⟩ : TPlacement)) x3 h64 h62 h63 (gcall_some hx65 (gd1_of gg0))).mono (fun V' _ _ ⟨a66, k66, e1, h66⟩ => ⟨⟨a66, k66⟩, e1, h66⟩)) ?_
          rintro V67 ⟨a66, k66⟩ hv67 hg67
          have h66 : SlAt (cInt .i64) V67 a66 k66 x65 := gslat1 hx65 (fun gg0 => (hg67 gg0))
          have h68 := SlAt.mono h61 hv67
          have h69 := SlAt.mono h62 hv67
          have h70 := SlAt.mono h63 hv67
          have h71 := SlAt.mono h64 hv67
          have h72 := SlAt.mono h59 hv67
          refine Exec.run tyOk 400 rfl ?_
          obtain ⟨x73, hx73, hF⟩ := bnd_some hF
          refine Exec.callS (.bool (x73)) rfl rfl (fun gg0 => W_clockworklaw30_sameInts x58 x65 h72 h66 (gcall_some hx73 (gd1_of gg0))) ?_
          refine Exec.run tyOk 400 rfl ?_
          obtain ⟨x74, hx74, hF⟩ := bnd_some hF
          refine Exec.callG (fun y : Option Addr × Nat => .slice y.1 ((x74).length) (y.2)) (none, 0) (R := fun V' y => SlAt (cInt .i64) V' y.1 y.2 x74) rfl rfl rfl (fun gg0 gg1 => (W_route_Executors x1 x3 h68 h69 h70 (gcall_some hx74 (gd2_of gg0 gg1))).mono (fun V' _ _ ⟨a75, k75, e1, h75⟩ => ⟨⟨a75, k75⟩, e1, h75⟩)) ?_
          rintro V76 ⟨a75, k75⟩ hv76 hg76
          have h75 : SlAt (cInt .i64) V76 a75 k75 x74 := gslat2 hx74 (fun gg0 gg1 => (hg76 gg0 gg1))
          have h77 := SlAt.mono h68 hv76
          have h78 := SlAt.mono h69 hv76
          have h79 := SlAt.mono h70 hv76
          have h80 := SlAt.mono h71 hv76
          have h81 := SlAt.mono h72 hv76
          have h82 := SlAt.mono h66 hv76
          refine Exec.run tyOk 400 rfl ?_
          obtain ⟨x83, hx83, hF⟩ := bnd_some hF
          refine Exec.callG (fun y : Option Addr × Nat => .slice y.1 ((x83).length) (y.2)) (none, 0) (R := fun V' y => SlAt (cInt .i64) V' y.1 y.2 x83) rfl rfl rfl (fun gg0 gg1 => (W_route_Executors ((⟨(IntKind.i64.wrap (x1.Version + (1 : Int))), x14⟩ : TPlacement)) x3 h80 h78 h79 (gcall_some hx83 (gd2_of gg0 gg1))).mono (fun V' _ _ ⟨a84, k84, e1, h84⟩ => ⟨⟨a84, k84⟩, e1, h84⟩)) ?_
          rintro V85 ⟨a84, k84⟩ hv85 hg85
          have h84 : SlAt (cInt .i64) V85 a84 k84 x83 := gslat2 hx83 (fun gg0 gg1 => (hg85 gg0 gg1))
          have h86 := SlAt.mono h77 hv85
          have h87 := SlAt.mono h78 hv85
          have h88 := SlAt.mono h79 hv85
          have h89 := SlAt.mono h80 hv85
          have h90 := SlAt.mono h81 hv85
          have h91 := SlAt.mono h82 hv85
          have h92 := SlAt.mono h75 hv85
          refine Exec.run tyOk 400 rfl ?_
          obtain ⟨x93, hx93, hF⟩ := bnd_some hF
          refine Exec.callS (.bool (x93)) rfl rfl (fun gg0 gg1 => W_clockworklaw30_sameInts x74 x83 h92 h84 (gcall_some hx93 (gd2_of gg0 gg1))) ?_
          refine Exec.run tyOk 400 rfl ?_
          obtain ⟨x94, hx94, hF⟩ := bnd_some hF
          refine Exec.callS (.bool (x94)) rfl rfl (fun gg0 => W_clockworklaw30_examples   (gcall_some hx94 (gd1_of gg0))) ?_
          refine Exec.run tyOk 400 rfl ?_
          obtain rfl := some_inj hF
          exact Exec.ret tyOk rfl rfl rfl
        · skip
          refine Exec.run tyOk 400 rfl ?_
          refine Exec.cut 3 [(3, .ptr 0 0), (4, .ptr 1 0), (8, .ptr 2 0), (12, .v (.bool ((x1.Version == (1099511627776 : Int))))), (13, .v (.int .i64 ((0 : Int))))] (M' := [.blk [.v (.int .i64 (x1.Version)), .v (.slice a2 ((x1.Parts).length) (k2))] 24, .blk [.v (.bool (x3.All)), .v (.slice a4 ((x3.Reads).length) (k4)), .v (.slice a5 ((x3.Writes).length) (k5))] 27, .blk [.v (.int .i64 ((IntKind.i64.wrap (x1.Version + (1 : Int))))), .v (.slice a13 ((x14).length) (k13))] 24]) rfl ⟨rfl, rfl, rfl, rfl, rfl, trivial⟩ rfl rfl rfl ?_
          refine Exec.loop (fun n97 L' V' M' => ∃ (x95 : Bool) (x96 : Int), L' = [(3, .ptr 0 0), (4, .ptr 1 0), (8, .ptr 2 0), (12, .v (.bool (x95))), (13, .v (.int .i64 (x96)))] ∧ M' = [.blk [.v (.int .i64 (x1.Version)), .v (.slice a2 ((x1.Parts).length) (k2))] 24, .blk [.v (.bool (x3.All)), .v (.slice a4 ((x3.Reads).length) (k4)), .v (.slice a5 ((x3.Writes).length) (k5))] 27, .blk [.v (.int .i64 ((IntKind.i64.wrap (x1.Version + (1 : Int))))), .v (.slice a13 ((x14).length) (k13))] 24] ∧ SlAt cTPart V' a2 k2 x1.Parts ∧ SlAt cStr V' a4 k4 x3.Reads ∧ SlAt cStr V' a5 k5 x3.Writes ∧ SlAt cTPart V' a13 k13 x14 ∧ F_clockworklaw30_RouteMoves_L1 x1 J52 n97 x95 x96 = some r) ⟨(((((x1.Parts).length : Nat) : Int)).toNat + 1), [(3, .ptr 0 0), (4, .ptr 1 0), (8, .ptr 2 0), (12, .v (.bool ((x1.Version == (1099511627776 : Int))))), (13, .v (.int .i64 ((0 : Int))))], ⟨rfl, rfl, rfl, rfl, rfl, trivial⟩, (x1.Version == (1099511627776 : Int)), (0 : Int), rfl, rfl, h49, h46, h47, h44, hF⟩ ?_
          rintro n97 L' V98 M' ⟨x95, x96, rfl, rfl, h99, h100, h101, h102, hF⟩
          rcases n97 with _ | n97
          · exact absurd hF (by simp [F_clockworklaw30_RouteMoves_L1])
          rw [F_clockworklaw30_RouteMoves_L1] at hF
          refine Exec.run tyOk 400 rfl ?_
          rcases cond_some hF with ⟨hb, hF⟩ | ⟨hb, hF⟩
          · skip
            refine Exec.ifT rfl hb ?_
            refine Exec.run tyOk 400 rfl ?_
            obtain ⟨q103, hF⟩ := req_some hF
            obtain ⟨c104, hr104, hd104⟩ := SlAt.gget ((x95) == false) h99 q103
            obtain rfl := hr104
            refine Exec.ia tyOk rfl rfl (fun gg0 => ⟨(q103 (gd1_of gg0)).1, (q103 (gd1_of gg0)).2, (hd104 (gd1_of gg0)).some⟩) ?_
            refine Exec.run tyOk 400 rfl ?_
            refine Exec.ld tyOk (x := .int .i64 ((cond ((x95) == false) (atI x1.Parts x96) default).Dest)) rfl rfl (fun gg0 => (RdAt.part (hd104 (gd1_of gg0)) 3 1 rfl)) rfl rfl ?_
            refine Exec.run tyOk 400 rfl ?_
            exact Exec.round [(3, .ptr 0 0), (4, .ptr 1 0), (8, .ptr 2 0), (12, .v (.bool ((x95 || ((cond ((x95) == false) (atI x1.Parts x96) default).Dest != (0 : Int)))))), (13, .v (.int .i64 ((IntKind.i64.wrap (x96 + (1 : Int))))))] ⟨rfl, rfl, rfl, rfl, rfl, trivial⟩ ⟨n97, Nat.lt_succ_self _, (x95 || ((cond ((x95) == false) (atI x1.Parts x96) default).Dest != (0 : Int))), (IntKind.i64.wrap (x96 + (1 : Int))), rfl, rfl, h99, h100, h101, h102, hF⟩
          · skip
            refine Exec.ifF rfl hb ?_
            refine Exec.run tyOk 400 rfl ?_
            exact Exec.round [(3, .ptr 0 0), (4, .ptr 1 0), (8, .ptr 2 0), (12, .v (.bool (x95)))] ⟨rfl, rfl, rfl, rfl, trivial⟩ ⟨x95, rfl, rfl, h99, h100, h101, h102, hF⟩
    · skip
      refine Exec.run tyOk 400 rfl ?_
      refine Exec.loop (fun n110 L' V' M' => ∃ (x106 : List TPart) (a105 : Option Addr) (k105 : Nat) (cs105 : List Value) (x108 : List TPart) (a107 : Option Addr) (k107 : Nat) (cs107 : List Value) (x109 : Int), L' = [(3, .ptr 0 0), (4, .ptr 1 0), (7, .v (.int .i64 ((IntKind.i64.wrap ((1 : Int) + (remI (IntKind.i64.wrap x6) (16 : Int))))))), (8, .ptr 2 0), (9, .ptr 3 0), (10, .v (.int .i64 (x109)))] ∧ M' = [.blk [.v (.int .i64 (x1.Version)), .v (.slice a2 ((x1.Parts).length) (k2))] 24, .blk [.v (.bool (x3.All)), .v (.slice a4 ((x3.Reads).length) (k4)), .v (.slice a5 ((x3.Writes).length) (k5))] 27, .blk [.v (.int .i64 ((IntKind.i64.wrap (x1.Version + (1 : Int))))), .v (.slice a105 ((x106).length) (k105))] 24, .blk [.v (.int .i64 (x1.Version)), .v (.slice a107 ((x108).length) (k107))] 24, .row (.slice a105 ((x106).length) (k105)) cs105 37 5, .row (.slice a107 ((x108).length) (k107)) cs107 37 5] ∧ RowRep cTPart V' x106 cs105 ∧ RowRep cTPart V' x108 cs107 ∧ SlAt cTPart V' a2 k2 x1.Parts ∧ SlAt cStr V' a4 k4 x3.Reads ∧ SlAt cStr V' a5 k5 x3.Writes ∧ F_clockworklaw30_RouteMoves_L2 x1 x6 J17 n110 x106 x108 x109 = some r) ⟨(((((x1.Parts).length : Nat) : Int)).toNat + 1), [(3, .ptr 0 0), (4, .ptr 1 0), (7, .v (.int .i64 ((IntKind.i64.wrap ((1 : Int) + (remI (IntKind.i64.wrap x6) (16 : Int))))))), (8, .ptr 2 0), (9, .ptr 3 0), (10, .v (.int .i64 ((0 : Int))))], ⟨rfl, rfl, rfl, rfl, rfl, rfl, trivial⟩, ([] : List TPart), none, 0, [], ([] : List TPart), none, 0, [], (0 : Int), rfl, rfl, h11, h12, h2, h4, h5, hF⟩ ?_
      rintro n110 L' V111 M' ⟨x106, a105, k105, cs105, x108, a107, k107, cs107, x109, rfl, rfl, h105, h107, h112, h113, h114, hF⟩
      rcases n110 with _ | n110
      · exact absurd hF (by simp [F_clockworklaw30_RouteMoves_L2])
      rw [F_clockworklaw30_RouteMoves_L2] at hF
      refine Exec.run tyOk 400 rfl ?_
      rcases cond_some hF with ⟨hb, hF⟩ | ⟨hb, hF⟩
      · skip
        refine Exec.ifT rfl hb ?_
        refine Exec.run tyOk 400 rfl ?_
        obtain ⟨q115, hF⟩ := req_some hF
        obtain ⟨c116, hr116, hd116⟩ := SlAt.get h112 q115
        obtain rfl := hr116
        refine Exec.ia tyOk rfl rfl ⟨q115.1, q115.2, hd116.some⟩ ?_
        refine Exec.run tyOk 400 rfl ?_
        refine Exec.ld tyOk (x := .agg ⟨[.int .i64 ((atI x1.Parts x109).Id), .string ⟨⟨(atI x1.Parts x109).From⟩⟩, .int .i64 ((atI x1.Parts x109).Node), .int .i64 ((atI x1.Parts x109).Dest), .string ⟨⟨(atI x1.Parts x109).Done⟩⟩]⟩) rfl rfl hd116 rfl rfl ?_
        refine Exec.run tyOk 400 rfl ?_
        refine Exec.bsl tyOk rfl rfl ?_
        refine Exec.run tyOk 400 rfl ?_
        obtain ⟨q118, hF⟩ := req_some hF
        refine Exec.app tyOk 4 7 (nm := ((x106 ++ [(⟨(IntKind.i64.wrap (x109 + (1 : Int))), (atI x1.Parts x109).From, (atI x1.Parts x109).Node, (0 : Int), ([] : Str)⟩ : TPart)])).length) rfl rfl rfl rfl rfl rfl rfl rfl rfl (by simp) (fun _ _ => rfl) rfl q118 (fun a117 k117 => ?_)
        have h117 : RowRep cTPart V111 (x106 ++ [(⟨(IntKind.i64.wrap (x109 + (1 : Int))), (atI x1.Parts x109).From, (atI x1.Parts x109).Node, (0 : Int), ([] : Str)⟩ : TPart)]) (cs105 ++ [.int .i64 ((IntKind.i64.wrap (x109 + (1 : Int)))), .string ⟨⟨(atI x1.Parts x109).From⟩⟩, .int .i64 ((atI x1.Parts x109).Node), .int .i64 ((0 : Int)), .string ⟨⟨([] : Str)⟩⟩]) := RowRep.app h105 ⟨_, _, rfl, rfl, rfl⟩
        refine Exec.run tyOk 400 rfl ?_
        refine Exec.bsl tyOk rfl rfl ?_
        refine Exec.run tyOk 400 rfl ?_
        obtain ⟨q120, hF⟩ := req_some hF
        refine Exec.app tyOk 5 8 (nm := ((x108 ++ [(⟨(IntKind.i64.wrap (x109 + (1 : Int))), (atI x1.Parts x109).From, (IntKind.i64.wrap ((1 : Int) + (remI (IntKind.i64.wrap x6) (16 : Int)))), (0 : Int), ([] : Str)⟩ : TPart)])).length) rfl rfl rfl rfl rfl rfl rfl rfl rfl (by simp) (fun _ _ => rfl) rfl q120 (fun a119 k119 => ?_)
        have h119 : RowRep cTPart V111 (x108 ++ [(⟨(IntKind.i64.wrap (x109 + (1 : Int))), (atI x1.Parts x109).From, (IntKind.i64.wrap ((1 : Int) + (remI (IntKind.i64.wrap x6) (16 : Int)))), (0 : Int), ([] : Str)⟩ : TPart)]) (cs107 ++ [.int .i64 ((IntKind.i64.wrap (x109 + (1 : Int)))), .string ⟨⟨(atI x1.Parts x109).From⟩⟩, .int .i64 ((IntKind.i64.wrap ((1 : Int) + (remI (IntKind.i64.wrap x6) (16 : Int))))), .int .i64 ((0 : Int)), .string ⟨⟨([] : Str)⟩⟩]) := RowRep.app h107 ⟨_, _, rfl, rfl, rfl⟩
        refine Exec.run tyOk 400 rfl ?_
        refine Exec.cut 6 [(3, .ptr 0 0), (4, .ptr 1 0), (7, .v (.int .i64 ((IntKind.i64.wrap ((1 : Int) + (remI (IntKind.i64.wrap x6) (16 : Int))))))), (8, .ptr 2 0), (9, .ptr 3 0), (10, .v (.int .i64 ((IntKind.i64.wrap (x109 + (1 : Int))))))] (M' := [.blk [.v (.int .i64 (x1.Version)), .v (.slice a2 ((x1.Parts).length) (k2))] 24, .blk [.v (.bool (x3.All)), .v (.slice a4 ((x3.Reads).length) (k4)), .v (.slice a5 ((x3.Writes).length) (k5))] 27, .blk [.v (.int .i64 ((IntKind.i64.wrap (x1.Version + (1 : Int))))), .v (.slice a117 (((x106 ++ [(⟨(IntKind.i64.wrap (x109 + (1 : Int))), (atI x1.Parts x109).From, (atI x1.Parts x109).Node, (0 : Int), ([] : Str)⟩ : TPart)])).length) (k117))] 24, .blk [.v (.int .i64 (x1.Version)), .v (.slice a119 (((x108 ++ [(⟨(IntKind.i64.wrap (x109 + (1 : Int))), (atI x1.Parts x109).From, (IntKind.i64.wrap ((1 : Int) + (remI (IntKind.i64.wrap x6) (16 : Int)))), (0 : Int), ([] : Str)⟩ : TPart)])).length) (k119))] 24, .row (.slice a117 (((x106 ++ [(⟨(IntKind.i64.wrap (x109 + (1 : Int))), (atI x1.Parts x109).From, (atI x1.Parts x109).Node, (0 : Int), ([] : Str)⟩ : TPart)])).length) (k117)) ((cs105 ++ [.int .i64 ((IntKind.i64.wrap (x109 + (1 : Int)))), .string ⟨⟨(atI x1.Parts x109).From⟩⟩, .int .i64 ((atI x1.Parts x109).Node), .int .i64 ((0 : Int)), .string ⟨⟨([] : Str)⟩⟩])) 37 5, .row (.slice a119 (((x108 ++ [(⟨(IntKind.i64.wrap (x109 + (1 : Int))), (atI x1.Parts x109).From, (IntKind.i64.wrap ((1 : Int) + (remI (IntKind.i64.wrap x6) (16 : Int)))), (0 : Int), ([] : Str)⟩ : TPart)])).length) (k119)) ((cs107 ++ [.int .i64 ((IntKind.i64.wrap (x109 + (1 : Int)))), .string ⟨⟨(atI x1.Parts x109).From⟩⟩, .int .i64 ((IntKind.i64.wrap ((1 : Int) + (remI (IntKind.i64.wrap x6) (16 : Int))))), .int .i64 ((0 : Int)), .string ⟨⟨([] : Str)⟩⟩])) 37 5]) rfl ⟨rfl, rfl, rfl, rfl, rfl, rfl, trivial⟩ rfl rfl rfl ?_
        exact Exec.round [(3, .ptr 0 0), (4, .ptr 1 0), (7, .v (.int .i64 ((IntKind.i64.wrap ((1 : Int) + (remI (IntKind.i64.wrap x6) (16 : Int))))))), (8, .ptr 2 0), (9, .ptr 3 0), (10, .v (.int .i64 ((IntKind.i64.wrap (x109 + (1 : Int))))))] ⟨rfl, rfl, rfl, rfl, rfl, rfl, trivial⟩ ⟨n110, Nat.lt_succ_self _, (x106 ++ [(⟨(IntKind.i64.wrap (x109 + (1 : Int))), (atI x1.Parts x109).From, (atI x1.Parts x109).Node, (0 : Int), ([] : Str)⟩ : TPart)]), a117, k117, (cs105 ++ [.int .i64 ((IntKind.i64.wrap (x109 + (1 : Int)))), .string ⟨⟨(atI x1.Parts x109).From⟩⟩, .int .i64 ((atI x1.Parts x109).Node), .int .i64 ((0 : Int)), .string ⟨⟨([] : Str)⟩⟩]), (x108 ++ [(⟨(IntKind.i64.wrap (x109 + (1 : Int))), (atI x1.Parts x109).From, (IntKind.i64.wrap ((1 : Int) + (remI (IntKind.i64.wrap x6) (16 : Int)))), (0 : Int), ([] : Str)⟩ : TPart)]), a119, k119, (cs107 ++ [.int .i64 ((IntKind.i64.wrap (x109 + (1 : Int)))), .string ⟨⟨(atI x1.Parts x109).From⟩⟩, .int .i64 ((IntKind.i64.wrap ((1 : Int) + (remI (IntKind.i64.wrap x6) (16 : Int))))), .int .i64 ((0 : Int)), .string ⟨⟨([] : Str)⟩⟩]), (IntKind.i64.wrap (x109 + (1 : Int))), rfl, rfl, h117, h119, h112, h113, h114, hF⟩
      · skip
        refine Exec.ifF rfl hb ?_
        refine Exec.run tyOk 400 rfl ?_
        exact Exec.round [(3, .ptr 0 0), (4, .ptr 1 0), (7, .v (.int .i64 ((IntKind.i64.wrap ((1 : Int) + (remI (IntKind.i64.wrap x6) (16 : Int))))))), (8, .ptr 2 0), (9, .ptr 3 0)] ⟨rfl, rfl, rfl, rfl, rfl, trivial⟩ ⟨x106, a105, k105, cs105, x108, a107, k107, cs107, rfl, rfl, h105, h107, h112, h113, h114, hF⟩

def F_clockworklaw30_RouteProjects (x1 : TPlacement) (x3 : TFootprint) (x6 : Int) : Option Bool :=
  (bnd (F_route_Project x1 x3 x6) fun x7 => (bnd (F_clockworkref30_Project x1 x3 x6) fun x14 => (bnd (F_clockworkref19_Same x7 x14) fun x23 => (bnd (gcall ((x23) == true) (F_clockworklaw30_examples )) fun x24 => (some (x23 && x24))))))

set_option maxRecDepth 100000 in
theorem W_clockworklaw30_RouteProjects {V : View} (x1 : TPlacement) (x3 : TFootprint) (x6 : Int) {a2 : Option Addr} {k2 : Nat} {a4 : Option Addr} {k4 : Nat} {a5 : Option Addr} {k5 : Nat} (h2 : SlAt cTPart V a2 k2 x1.Parts) (h4 : SlAt cStr V a4 k4 x3.Reads) (h5 : SlAt cStr V a5 k5 x3.Writes) {r : Bool} (hF : F_clockworklaw30_RouteProjects x1 x3 x6 = some r) :
    Spec Try.prog 6 [.agg ⟨[.int .i64 (x1.Version), .slice a2 ((x1.Parts).length) (k2)]⟩, .agg ⟨[.bool (x3.All), .slice a4 ((x3.Reads).length) (k4), .slice a5 ((x3.Writes).length) (k5)]⟩, .int .i64 (x6)] V (fun _ v => v = .bool (r)) := by
  unfold F_clockworklaw30_RouteProjects at hF
  refine Spec.enter (T := tyT) Try.func6 rfl (by kernel_rfl) rfl rfl rfl ?_
  refine Exec.run tyOk 400 rfl ?_
  refine Exec.draws tyOk [(0, true), (1, true), (2, true), (4, true), (5, true), (6, true), (3, false), (7, false), (8, false), (9, false), (10, false), (11, false), (12, false)] rfl (by kernel_rfl) ?_
  refine Exec.run tyOk 400 rfl ?_
  obtain ⟨x7, hx7, hF⟩ := bnd_some hF
  refine Exec.call rfl rfl (W_route_Project x1 x3 x6 h2 h4 h5 hx7) ?_
  rintro V10 _ hv10 ⟨a8, k8, a9, k9, rfl, h8, h9⟩
  have h11 := SlAt.mono h2 hv10
  have h12 := SlAt.mono h4 hv10
  have h13 := SlAt.mono h5 hv10
  refine Exec.run tyOk 400 rfl ?_
  obtain ⟨x14, hx14, hF⟩ := bnd_some hF
  refine Exec.call rfl rfl (W_clockworkref30_Project x1 x3 x6 h11 h12 h13 hx14) ?_
  rintro V17 _ hv17 ⟨a15, k15, a16, k16, rfl, h15, h16⟩
  have h18 := SlAt.mono h11 hv17
  have h19 := SlAt.mono h12 hv17
  have h20 := SlAt.mono h13 hv17
  have h21 := SlAt.mono h8 hv17
  have h22 := SlAt.mono h9 hv17
  refine Exec.run tyOk 400 rfl ?_
  obtain ⟨x23, hx23, hF⟩ := bnd_some hF
  refine Exec.callS (.bool (x23)) rfl rfl (W_clockworkref19_Same x7 x14 h21 h22 h15 h16 hx23) ?_
  refine Exec.run tyOk 400 rfl ?_
  obtain ⟨x24, hx24, hF⟩ := bnd_some hF
  refine Exec.callS (.bool (x24)) rfl rfl (fun gg0 => W_clockworklaw30_examples   (gcall_some hx24 (gd1_of gg0))) ?_
  refine Exec.run tyOk 400 rfl ?_
  obtain rfl := some_inj hF
  exact Exec.ret tyOk rfl rfl rfl

def F_clockworklaw30_RoutePartition_L2 (x40 : TFootprint) (x1 : TPlacement) (x25 : Int) (x3 : TFootprint) (J34 : Int → Int → Option Bool) (x23 : Int) (x24 : Int) : Nat → Int → Option Bool
  | 0, _ => none
  | n60 + 1, x59 => (cond (decide (x59 < (((x40.Writes).length : Nat) : Int))) (req (0 ≤ x59 ∧ x59 < ((x40.Writes).length : Int)) (bnd (F_placement_Owner x1 ((atI x40.Writes x59))) fun x70 => (req ((((x70 != x25)) == false) = true → 0 ≤ x59 ∧ x59 < ((x40.Writes).length : Int)) (bnd (gcall (((x70 != x25)) == false) (F_clockworklaw30_has x3.Writes ((cond (((x70 != x25)) == false) (atI x40.Writes x59) default)))) fun x73 => (cond ((x70 != x25) || (!x73)) (some false) (F_clockworklaw30_RoutePartition_L2 x40 x1 x25 x3 J34 x23 x24 n60 ((IntKind.i64.wrap (x59 + (1 : Int)))))))))) (J34 ((IntKind.i64.wrap (x23 + (((x40.Reads).length : Nat) : Int)))) ((IntKind.i64.wrap (x24 + (((x40.Writes).length : Nat) : Int))))))

def F_clockworklaw30_RoutePartition_L3 (x40 : TFootprint) (x1 : TPlacement) (x25 : Int) (x3 : TFootprint) (J51 : Option Bool) : Nat → Int → Option Bool
  | 0, _ => none
  | n75 + 1, x74 => (cond (decide (x74 < (((x40.Reads).length : Nat) : Int))) (req (0 ≤ x74 ∧ x74 < ((x40.Reads).length : Int)) (bnd (F_placement_Owner x1 ((atI x40.Reads x74))) fun x85 => (req ((((x85 != x25)) == false) = true → 0 ≤ x74 ∧ x74 < ((x40.Reads).length : Int)) (bnd (gcall (((x85 != x25)) == false) (F_clockworklaw30_has x3.Reads ((cond (((x85 != x25)) == false) (atI x40.Reads x74) default)))) fun x88 => (cond ((x85 != x25) || (!x88)) (some false) (F_clockworklaw30_RoutePartition_L3 x40 x1 x25 x3 J51 n75 ((IntKind.i64.wrap (x74 + (1 : Int)))))))))) J51)

def F_clockworklaw30_RoutePartition_L1 (x1 : TPlacement) (x3 : TFootprint) (x6 : List Int) (J17 : Int → Int → Option Bool) : Nat → Int → Int → Int → Option Bool
  | 0, _, _, _ => none
  | n26 + 1, x23, x24, x25 => (cond (decide (x25 ≤ (17 : Int))) (jn (fun (x32 : Int) (x33 : Int) => (F_clockworklaw30_RoutePartition_L1 x1 x3 x6 J17 n26 x32 x33 ((IntKind.i64.wrap (x25 + (1 : Int)))))) (fun J34 => (bnd (F_route_Project x1 x3 x25) fun x40 => (cond x3.All (bnd (F_clockworkref30_Has x6 x25) fun x48 => (cond (((!(x40.All == x48)) || (decide ((0 : Int) < (((x40.Reads).length : Nat) : Int)))) || (decide ((0 : Int) < (((x40.Writes).length : Nat) : Int)))) (some false) (J34 x23 x24))) (bnd (gcall ((x40.All) == false) (F_clockworkref30_Has x6 x25)) fun x49 => (bnd (gcall (((x40.All || (!(((decide ((0 : Int) < (((x40.Reads).length : Nat) : Int))) || (decide ((0 : Int) < (((x40.Writes).length : Nat) : Int)))) == x49)))) == false) (F_footprint_Covers x3 x40)) fun x50 => (cond ((x40.All || (!(((decide ((0 : Int) < (((x40.Reads).length : Nat) : Int))) || (decide ((0 : Int) < (((x40.Writes).length : Nat) : Int)))) == x49))) || (!x50)) (some false) (jn ((F_clockworklaw30_RoutePartition_L2 x40 x1 x25 x3 J34 x23 x24 (((((x40.Writes).length : Nat) : Int)).toNat + 1) ((0 : Int)))) (fun J51 => (F_clockworklaw30_RoutePartition_L3 x40 x1 x25 x3 J51 (((((x40.Reads).length : Nat) : Int)).toNat + 1) ((0 : Int)))))))))))) (J17 x23 x24))

def F_clockworklaw30_RoutePartition (x1 : TPlacement) (x3 : TFootprint) : Option Bool :=
  (bnd (F_route_Nodes x1 x3) fun x6 => (bnd (F_placement_Valid x1) fun x12 => (bnd (gcall (((!x12)) == false) (F_footprint_Valid x3)) fun x13 => (cond ((!x12) || (!x13)) (bnd (gcall ((((((x6).length : Nat) : Int) == (0 : Int))) == true) (F_clockworklaw30_examples )) fun x14 => (some (((((x6).length : Nat) : Int) == (0 : Int)) && x14))) (jn (fun (x15 : Int) (x16 : Int) => (bnd (gcall (((x3.All || ((x15 == (((x3.Reads).length : Nat) : Int)) && (x16 == (((x3.Writes).length : Nat) : Int))))) == true) (F_clockworklaw30_examples )) fun x22 => (some ((x3.All || ((x15 == (((x3.Reads).length : Nat) : Int)) && (x16 == (((x3.Writes).length : Nat) : Int)))) && x22)))) (fun J17 => (F_clockworklaw30_RoutePartition_L1 x1 x3 x6 J17 (((17 : Int)).toNat + 2) ((0 : Int)) ((0 : Int)) ((0 : Int)))))))))

set_option maxRecDepth 100000 in
theorem W_clockworklaw30_RoutePartition {V : View} (x1 : TPlacement) (x3 : TFootprint) {a2 : Option Addr} {k2 : Nat} {a4 : Option Addr} {k4 : Nat} {a5 : Option Addr} {k5 : Nat} (h2 : SlAt cTPart V a2 k2 x1.Parts) (h4 : SlAt cStr V a4 k4 x3.Reads) (h5 : SlAt cStr V a5 k5 x3.Writes) {r : Bool} (hF : F_clockworklaw30_RoutePartition x1 x3 = some r) :
    Spec Try.prog 7 [.agg ⟨[.int .i64 (x1.Version), .slice a2 ((x1.Parts).length) (k2)]⟩, .agg ⟨[.bool (x3.All), .slice a4 ((x3.Reads).length) (k4), .slice a5 ((x3.Writes).length) (k5)]⟩] V (fun _ v => v = .bool (r)) := by
  unfold F_clockworklaw30_RoutePartition at hF
  refine Spec.enter (T := tyT) Try.func7 rfl (by kernel_rfl) rfl rfl rfl ?_
  refine Exec.run tyOk 400 rfl ?_
  obtain ⟨x6, hx6, hF⟩ := bnd_some hF
  refine Exec.call rfl rfl (W_route_Nodes x1 x3 h2 h4 h5 hx6) ?_
  rintro V8 _ hv8 ⟨a7, k7, rfl, h7⟩
  have h9 := SlAt.mono h2 hv8
  have h10 := SlAt.mono h4 hv8
  have h11 := SlAt.mono h5 hv8
  refine Exec.run tyOk 400 rfl ?_
  obtain ⟨x12, hx12, hF⟩ := bnd_some hF
  refine Exec.callS (.bool (x12)) rfl rfl (W_placement_Valid x1 h9 hx12) ?_
  refine Exec.run tyOk 400 rfl ?_
  obtain ⟨x13, hx13, hF⟩ := bnd_some hF
  refine Exec.callS (.bool (x13)) rfl rfl (fun gg0 => W_footprint_Valid x3 h10 h11 (gcall_some hx13 (gd1_of gg0))) ?_
  refine Exec.run tyOk 400 rfl ?_
  rcases cond_some hF with ⟨hb, hF⟩ | ⟨hb, hF⟩
  · skip
    refine Exec.ifT rfl hb ?_
    refine Exec.run tyOk 400 rfl ?_
    obtain ⟨x14, hx14, hF⟩ := bnd_some hF
    refine Exec.callS (.bool (x14)) rfl rfl (fun gg0 => W_clockworklaw30_examples   (gcall_some hx14 (gd1_of gg0))) ?_
    refine Exec.run tyOk 400 rfl ?_
    obtain rfl := some_inj hF
    exact Exec.ret tyOk rfl rfl rfl
  · skip
    refine Exec.ifF rfl hb ?_
    refine Exec.run tyOk 11 rfl ?_
    obtain ⟨J17, hJ17, hF⟩ := jn_some hF
    refine Exec.seam (fun L' V' M' => ∃ (x15 : Int) (x16 : Int), L' = [(3, .ptr 1 0), (6, .v (.int .i64 (x15))), (7, .v (.int .i64 (x16)))] ∧ M' = [.blk [.v (.int .i64 (x1.Version)), .v (.slice a2 ((x1.Parts).length) (k2))] 24, .blk [.v (.bool (x3.All)), .v (.slice a4 ((x3.Reads).length) (k4)), .v (.slice a5 ((x3.Writes).length) (k5))] 27] ∧ SlAt cTPart V' a2 k2 x1.Parts ∧ SlAt cStr V' a4 k4 x3.Reads ∧ SlAt cStr V' a5 k5 x3.Writes ∧ J17 x15 x16 = some r) rfl ?_ ?_
    · rintro L' V18 M' ⟨x15, x16, rfl, rfl, h19, h20, h21, hF⟩
      subst hJ17
      refine Exec.run tyOk 400 rfl ?_
      obtain ⟨x22, hx22, hF⟩ := bnd_some hF
      refine Exec.callS (.bool (x22)) rfl rfl (fun gg0 => W_clockworklaw30_examples   (gcall_some hx22 (gd1_of gg0))) ?_
      refine Exec.run tyOk 400 rfl ?_
      obtain rfl := some_inj hF
      exact Exec.ret tyOk rfl rfl rfl
    · skip
      refine Exec.run tyOk 400 rfl ?_
      refine Exec.loop (fun n26 L' V' M' => ∃ (x23 : Int) (x24 : Int) (x25 : Int), L' = [(2, .ptr 0 0), (3, .ptr 1 0), (5, .v (.slice a7 ((x6).length) (k7))), (6, .v (.int .i64 (x23))), (7, .v (.int .i64 (x24))), (8, .v (.int .i64 (x25)))] ∧ M' = [.blk [.v (.int .i64 (x1.Version)), .v (.slice a2 ((x1.Parts).length) (k2))] 24, .blk [.v (.bool (x3.All)), .v (.slice a4 ((x3.Reads).length) (k4)), .v (.slice a5 ((x3.Writes).length) (k5))] 27] ∧ SlAt (cInt .i64) V' a7 k7 x6 ∧ SlAt cTPart V' a2 k2 x1.Parts ∧ SlAt cStr V' a4 k4 x3.Reads ∧ SlAt cStr V' a5 k5 x3.Writes ∧ F_clockworklaw30_RoutePartition_L1 x1 x3 x6 J17 n26 x23 x24 x25 = some r) ⟨(((17 : Int)).toNat + 2), [(2, .ptr 0 0), (3, .ptr 1 0), (5, .v (.slice a7 ((x6).length) (k7))), (6, .v (.int .i64 ((0 : Int)))), (7, .v (.int .i64 ((0 : Int)))), (8, .v (.int .i64 ((0 : Int))))], ⟨rfl, rfl, rfl, rfl, rfl, rfl, trivial⟩, (0 : Int), (0 : Int), (0 : Int), rfl, rfl, h7, h9, h10, h11, hF⟩ ?_
      rintro n26 L' V27 M' ⟨x23, x24, x25, rfl, rfl, h28, h29, h30, h31, hF⟩
      rcases n26 with _ | n26
      · exact absurd hF (by simp [F_clockworklaw30_RoutePartition_L1])
      rw [F_clockworklaw30_RoutePartition_L1] at hF
      refine Exec.run tyOk 400 rfl ?_
      rcases cond_some hF with ⟨hb, hF⟩ | ⟨hb, hF⟩
      · skip
        refine Exec.ifT rfl hb ?_
        refine Exec.run tyOk 2 rfl ?_
        obtain ⟨J34, hJ34, hF⟩ := jn_some hF
        refine Exec.seam (fun L' V' M' => ∃ (x32 : Int) (x33 : Int), L' = [(2, .ptr 0 0), (3, .ptr 1 0), (5, .v (.slice a7 ((x6).length) (k7))), (6, .v (.int .i64 (x32))), (7, .v (.int .i64 (x33))), (8, .v (.int .i64 (x25)))] ∧ M' = [.blk [.v (.int .i64 (x1.Version)), .v (.slice a2 ((x1.Parts).length) (k2))] 24, .blk [.v (.bool (x3.All)), .v (.slice a4 ((x3.Reads).length) (k4)), .v (.slice a5 ((x3.Writes).length) (k5))] 27] ∧ SlAt (cInt .i64) V' a7 k7 x6 ∧ SlAt cTPart V' a2 k2 x1.Parts ∧ SlAt cStr V' a4 k4 x3.Reads ∧ SlAt cStr V' a5 k5 x3.Writes ∧ J34 x32 x33 = some r) rfl ?_ ?_
        · rintro L' V35 M' ⟨x32, x33, rfl, rfl, h36, h37, h38, h39, hF⟩
          subst hJ34
          refine Exec.run tyOk 400 rfl ?_
          exact Exec.round [(2, .ptr 0 0), (3, .ptr 1 0), (5, .v (.slice a7 ((x6).length) (k7))), (6, .v (.int .i64 (x32))), (7, .v (.int .i64 (x33))), (8, .v (.int .i64 ((IntKind.i64.wrap (x25 + (1 : Int))))))] ⟨rfl, rfl, rfl, rfl, rfl, rfl, trivial⟩ ⟨n26, Nat.lt_succ_self _, x32, x33, (IntKind.i64.wrap (x25 + (1 : Int))), rfl, rfl, h36, h37, h38, h39, hF⟩
        · skip
          refine Exec.run tyOk 400 rfl ?_
          obtain ⟨x40, hx40, hF⟩ := bnd_some hF
          refine Exec.call rfl rfl (W_route_Project x1 x3 x25 h29 h30 h31 hx40) ?_
          rintro V43 _ hv43 ⟨a41, k41, a42, k42, rfl, h41, h42⟩
          have h44 := SlAt.mono h28 hv43
          have h45 := SlAt.mono h29 hv43
          have h46 := SlAt.mono h30 hv43
          have h47 := SlAt.mono h31 hv43
          refine Exec.run tyOk 400 rfl ?_
          rcases cond_some hF with ⟨hb, hF⟩ | ⟨hb, hF⟩
          · skip
            refine Exec.ifT rfl hb ?_
            refine Exec.run tyOk 400 rfl ?_
            refine Exec.draws tyOk [(0, true), (1, true), (2, true), (3, true), (4, false), (5, false), (6, false), (7, false), (8, false), (9, false), (10, false), (11, false), (12, false), (13, false), (14, false), (15, false), (16, false), (17, false)] rfl (by kernel_rfl) ?_
            refine Exec.run tyOk 400 rfl ?_
            obtain ⟨x48, hx48, hF⟩ := bnd_some hF
            refine Exec.callS (.bool (x48)) rfl rfl (W_clockworkref30_Has x6 x25 h44 hx48) ?_
            refine Exec.run tyOk 400 rfl ?_
            rcases cond_some hF with ⟨hb, hF⟩ | ⟨hb, hF⟩
            · skip
              refine Exec.ifT rfl hb ?_
              refine Exec.run tyOk 400 rfl ?_
              obtain rfl := some_inj hF
              exact Exec.ret tyOk rfl rfl rfl
            · skip
              refine Exec.ifF rfl hb ?_
              refine Exec.run tyOk 400 rfl ?_
              refine Exec.cut 2 [(2, .ptr 0 0), (3, .ptr 1 0), (5, .v (.slice a7 ((x6).length) (k7))), (6, .v (.int .i64 (x23))), (7, .v (.int .i64 (x24))), (8, .v (.int .i64 (x25)))] (M' := [.blk [.v (.int .i64 (x1.Version)), .v (.slice a2 ((x1.Parts).length) (k2))] 24, .blk [.v (.bool (x3.All)), .v (.slice a4 ((x3.Reads).length) (k4)), .v (.slice a5 ((x3.Writes).length) (k5))] 27]) rfl ⟨rfl, rfl, rfl, rfl, rfl, rfl, trivial⟩ rfl rfl rfl ?_
              exact Exec.round [(2, .ptr 0 0), (3, .ptr 1 0), (5, .v (.slice a7 ((x6).length) (k7))), (6, .v (.int .i64 (x23))), (7, .v (.int .i64 (x24))), (8, .v (.int .i64 (x25)))] ⟨rfl, rfl, rfl, rfl, rfl, rfl, trivial⟩ ⟨x23, x24, rfl, rfl, h44, h45, h46, h47, hF⟩
          · skip
            refine Exec.ifF rfl hb ?_
            refine Exec.run tyOk 400 rfl ?_
            refine Exec.draws tyOk [(0, true), (1, true), (2, true), (3, true), (4, true), (5, true), (6, true), (7, true), (8, true), (9, true), (10, true), (11, true), (12, true), (13, true), (14, true), (15, false), (16, false), (17, false), (18, false), (19, true), (20, false), (21, false), (22, false), (23, false)] rfl (by kernel_rfl) ?_
            refine Exec.run tyOk 400 rfl ?_
            obtain ⟨x49, hx49, hF⟩ := bnd_some hF
            refine Exec.callS (.bool (x49)) rfl rfl (fun gg0 => W_clockworkref30_Has x6 x25 h44 (gcall_some hx49 (gd1_of gg0))) ?_
            refine Exec.run tyOk 400 rfl ?_
            obtain ⟨x50, hx50, hF⟩ := bnd_some hF
            refine Exec.callS (.bool (x50)) rfl rfl (fun gg0 => W_footprint_Covers x3 x40 h46 h47 h41 h42 (gcall_some hx50 (gd1_of gg0))) ?_
            refine Exec.run tyOk 400 rfl ?_
            rcases cond_some hF with ⟨hb, hF⟩ | ⟨hb, hF⟩
            · skip
              refine Exec.ifT rfl hb ?_
              refine Exec.run tyOk 400 rfl ?_
              obtain rfl := some_inj hF
              exact Exec.ret tyOk rfl rfl rfl
            · skip
              refine Exec.ifF rfl hb ?_
              refine Exec.run tyOk 24 rfl ?_
              obtain ⟨J51, hJ51, hF⟩ := jn_some hF
              refine Exec.seam (fun L' V' M' => L' = [(2, .ptr 0 0), (3, .ptr 1 0), (5, .v (.slice a7 ((x6).length) (k7))), (6, .v (.int .i64 ((IntKind.i64.wrap (x23 + (((x40.Reads).length : Nat) : Int)))))), (7, .v (.int .i64 ((IntKind.i64.wrap (x24 + (((x40.Writes).length : Nat) : Int)))))), (8, .v (.int .i64 (x25))), (9, .ptr 2 0)] ∧ M' = [.blk [.v (.int .i64 (x1.Version)), .v (.slice a2 ((x1.Parts).length) (k2))] 24, .blk [.v (.bool (x3.All)), .v (.slice a4 ((x3.Reads).length) (k4)), .v (.slice a5 ((x3.Writes).length) (k5))] 27, .blk [.v (.bool (x40.All)), .v (.slice a41 ((x40.Reads).length) (k41)), .v (.slice a42 ((x40.Writes).length) (k42))] 27] ∧ SlAt (cInt .i64) V' a7 k7 x6 ∧ SlAt cTPart V' a2 k2 x1.Parts ∧ SlAt cStr V' a4 k4 x3.Reads ∧ SlAt cStr V' a5 k5 x3.Writes ∧ SlAt cStr V' a41 k41 x40.Reads ∧ SlAt cStr V' a42 k42 x40.Writes ∧ J51 = some r) rfl ?_ ?_
              · rintro L' V52 M' ⟨rfl, rfl, h53, h54, h55, h56, h57, h58, hF⟩
                subst hJ51
                refine Exec.run tyOk 400 rfl ?_
                refine Exec.loop (fun n60 L' V' M' => ∃ (x59 : Int), L' = [(2, .ptr 0 0), (3, .ptr 1 0), (5, .v (.slice a7 ((x6).length) (k7))), (6, .v (.int .i64 ((IntKind.i64.wrap (x23 + (((x40.Reads).length : Nat) : Int)))))), (7, .v (.int .i64 ((IntKind.i64.wrap (x24 + (((x40.Writes).length : Nat) : Int)))))), (8, .v (.int .i64 (x25))), (9, .ptr 2 0), (11, .v (.int .i64 (x59)))] ∧ M' = [.blk [.v (.int .i64 (x1.Version)), .v (.slice a2 ((x1.Parts).length) (k2))] 24, .blk [.v (.bool (x3.All)), .v (.slice a4 ((x3.Reads).length) (k4)), .v (.slice a5 ((x3.Writes).length) (k5))] 27, .blk [.v (.bool (x40.All)), .v (.slice a41 ((x40.Reads).length) (k41)), .v (.slice a42 ((x40.Writes).length) (k42))] 27] ∧ SlAt (cInt .i64) V' a7 k7 x6 ∧ SlAt cTPart V' a2 k2 x1.Parts ∧ SlAt cStr V' a4 k4 x3.Reads ∧ SlAt cStr V' a5 k5 x3.Writes ∧ SlAt cStr V' a41 k41 x40.Reads ∧ SlAt cStr V' a42 k42 x40.Writes ∧ F_clockworklaw30_RoutePartition_L2 x40 x1 x25 x3 J34 x23 x24 n60 x59 = some r) ⟨(((((x40.Writes).length : Nat) : Int)).toNat + 1), [(2, .ptr 0 0), (3, .ptr 1 0), (5, .v (.slice a7 ((x6).length) (k7))), (6, .v (.int .i64 ((IntKind.i64.wrap (x23 + (((x40.Reads).length : Nat) : Int)))))), (7, .v (.int .i64 ((IntKind.i64.wrap (x24 + (((x40.Writes).length : Nat) : Int)))))), (8, .v (.int .i64 (x25))), (9, .ptr 2 0), (11, .v (.int .i64 ((0 : Int))))], ⟨rfl, rfl, rfl, rfl, rfl, rfl, rfl, rfl, trivial⟩, (0 : Int), rfl, rfl, h53, h54, h55, h56, h57, h58, hF⟩ ?_
                rintro n60 L' V61 M' ⟨x59, rfl, rfl, h62, h63, h64, h65, h66, h67, hF⟩
                rcases n60 with _ | n60
                · exact absurd hF (by simp [F_clockworklaw30_RoutePartition_L2])
                rw [F_clockworklaw30_RoutePartition_L2] at hF
                refine Exec.run tyOk 400 rfl ?_
                rcases cond_some hF with ⟨hb, hF⟩ | ⟨hb, hF⟩
                · skip
                  refine Exec.ifT rfl hb ?_
                  refine Exec.run tyOk 400 rfl ?_
                  refine Exec.draws tyOk [(0, true), (1, true), (2, true), (3, true), (4, true), (5, true), (7, true), (6, false), (8, false), (9, false), (10, true), (11, true), (12, true), (13, true), (14, false), (15, false), (16, false), (17, false), (18, false), (19, false)] rfl (by kernel_rfl) ?_
                  refine Exec.run tyOk 400 rfl ?_
                  obtain ⟨q68, hF⟩ := req_some hF
                  obtain ⟨c69, hr69, hd69⟩ := SlAt.get h67 q68
                  obtain rfl := hr69
                  refine Exec.fia tyOk rfl rfl rfl ⟨q68.1, q68.2, hd69.some⟩ ?_
                  refine Exec.run tyOk 400 rfl ?_
                  refine Exec.fld tyOk (x := .string ⟨⟨(atI x40.Writes x59)⟩⟩) rfl rfl rfl hd69 rfl rfl ?_
                  refine Exec.run tyOk 400 rfl ?_
                  obtain ⟨x70, hx70, hF⟩ := bnd_some hF
                  refine Exec.callS (.int .i64 (x70)) rfl rfl (W_placement_Owner x1 ((atI x40.Writes x59)) h63 hx70) ?_
                  refine Exec.run tyOk 400 rfl ?_
                  obtain ⟨q71, hF⟩ := req_some hF
                  obtain ⟨c72, hr72, hd72⟩ := SlAt.gget (((x70 != x25)) == false) h67 q71
                  obtain rfl := hr72
                  refine Exec.ia tyOk rfl rfl (fun gg0 => ⟨(q71 (gd1_of gg0)).1, (q71 (gd1_of gg0)).2, (hd72 (gd1_of gg0)).some⟩) ?_
                  refine Exec.run tyOk 400 rfl ?_
                  refine Exec.ld tyOk (x := .string ⟨⟨(cond (((x70 != x25)) == false) (atI x40.Writes x59) default)⟩⟩) rfl rfl (fun gg0 => (hd72 (gd1_of gg0))) rfl rfl ?_
                  refine Exec.run tyOk 400 rfl ?_
                  obtain ⟨x73, hx73, hF⟩ := bnd_some hF
                  refine Exec.callS (.bool (x73)) rfl rfl (fun gg0 => W_clockworklaw30_has x3.Writes ((cond (((x70 != x25)) == false) (atI x40.Writes x59) default)) h65 (gcall_some hx73 (gd1_of gg0))) ?_
                  refine Exec.run tyOk 400 rfl ?_
                  rcases cond_some hF with ⟨hb, hF⟩ | ⟨hb, hF⟩
                  · skip
                    refine Exec.ifT rfl hb ?_
                    refine Exec.run tyOk 400 rfl ?_
                    obtain rfl := some_inj hF
                    exact Exec.ret tyOk rfl rfl rfl
                  · skip
                    refine Exec.ifF rfl hb ?_
                    refine Exec.run tyOk 400 rfl ?_
                    exact Exec.round [(2, .ptr 0 0), (3, .ptr 1 0), (5, .v (.slice a7 ((x6).length) (k7))), (6, .v (.int .i64 ((IntKind.i64.wrap (x23 + (((x40.Reads).length : Nat) : Int)))))), (7, .v (.int .i64 ((IntKind.i64.wrap (x24 + (((x40.Writes).length : Nat) : Int)))))), (8, .v (.int .i64 (x25))), (9, .ptr 2 0), (11, .v (.int .i64 ((IntKind.i64.wrap (x59 + (1 : Int))))))] ⟨rfl, rfl, rfl, rfl, rfl, rfl, rfl, rfl, trivial⟩ ⟨n60, Nat.lt_succ_self _, (IntKind.i64.wrap (x59 + (1 : Int))), rfl, rfl, h62, h63, h64, h65, h66, h67, hF⟩
                · skip
                  refine Exec.ifF rfl hb ?_
                  refine Exec.run tyOk 400 rfl ?_
                  refine Exec.cut 2 [(2, .ptr 0 0), (3, .ptr 1 0), (5, .v (.slice a7 ((x6).length) (k7))), (6, .v (.int .i64 ((IntKind.i64.wrap (x23 + (((x40.Reads).length : Nat) : Int)))))), (7, .v (.int .i64 ((IntKind.i64.wrap (x24 + (((x40.Writes).length : Nat) : Int)))))), (8, .v (.int .i64 (x25)))] (M' := [.blk [.v (.int .i64 (x1.Version)), .v (.slice a2 ((x1.Parts).length) (k2))] 24, .blk [.v (.bool (x3.All)), .v (.slice a4 ((x3.Reads).length) (k4)), .v (.slice a5 ((x3.Writes).length) (k5))] 27]) rfl ⟨rfl, rfl, rfl, rfl, rfl, rfl, trivial⟩ rfl rfl rfl ?_
                  exact Exec.round [(2, .ptr 0 0), (3, .ptr 1 0), (5, .v (.slice a7 ((x6).length) (k7))), (6, .v (.int .i64 ((IntKind.i64.wrap (x23 + (((x40.Reads).length : Nat) : Int)))))), (7, .v (.int .i64 ((IntKind.i64.wrap (x24 + (((x40.Writes).length : Nat) : Int)))))), (8, .v (.int .i64 (x25)))] ⟨rfl, rfl, rfl, rfl, rfl, rfl, trivial⟩ ⟨(IntKind.i64.wrap (x23 + (((x40.Reads).length : Nat) : Int))), (IntKind.i64.wrap (x24 + (((x40.Writes).length : Nat) : Int))), rfl, rfl, h62, h63, h64, h65, hF⟩
              · skip
                refine Exec.run tyOk 400 rfl ?_
                refine Exec.loop (fun n75 L' V' M' => ∃ (x74 : Int), L' = [(2, .ptr 0 0), (3, .ptr 1 0), (5, .v (.slice a7 ((x6).length) (k7))), (6, .v (.int .i64 ((IntKind.i64.wrap (x23 + (((x40.Reads).length : Nat) : Int)))))), (7, .v (.int .i64 ((IntKind.i64.wrap (x24 + (((x40.Writes).length : Nat) : Int)))))), (8, .v (.int .i64 (x25))), (9, .ptr 2 0), (10, .v (.int .i64 (x74)))] ∧ M' = [.blk [.v (.int .i64 (x1.Version)), .v (.slice a2 ((x1.Parts).length) (k2))] 24, .blk [.v (.bool (x3.All)), .v (.slice a4 ((x3.Reads).length) (k4)), .v (.slice a5 ((x3.Writes).length) (k5))] 27, .blk [.v (.bool (x40.All)), .v (.slice a41 ((x40.Reads).length) (k41)), .v (.slice a42 ((x40.Writes).length) (k42))] 27] ∧ SlAt (cInt .i64) V' a7 k7 x6 ∧ SlAt cTPart V' a2 k2 x1.Parts ∧ SlAt cStr V' a4 k4 x3.Reads ∧ SlAt cStr V' a5 k5 x3.Writes ∧ SlAt cStr V' a41 k41 x40.Reads ∧ SlAt cStr V' a42 k42 x40.Writes ∧ F_clockworklaw30_RoutePartition_L3 x40 x1 x25 x3 J51 n75 x74 = some r) ⟨(((((x40.Reads).length : Nat) : Int)).toNat + 1), [(2, .ptr 0 0), (3, .ptr 1 0), (5, .v (.slice a7 ((x6).length) (k7))), (6, .v (.int .i64 ((IntKind.i64.wrap (x23 + (((x40.Reads).length : Nat) : Int)))))), (7, .v (.int .i64 ((IntKind.i64.wrap (x24 + (((x40.Writes).length : Nat) : Int)))))), (8, .v (.int .i64 (x25))), (9, .ptr 2 0), (10, .v (.int .i64 ((0 : Int))))], ⟨rfl, rfl, rfl, rfl, rfl, rfl, rfl, rfl, trivial⟩, (0 : Int), rfl, rfl, h44, h45, h46, h47, h41, h42, hF⟩ ?_
                rintro n75 L' V76 M' ⟨x74, rfl, rfl, h77, h78, h79, h80, h81, h82, hF⟩
                rcases n75 with _ | n75
                · exact absurd hF (by simp [F_clockworklaw30_RoutePartition_L3])
                rw [F_clockworklaw30_RoutePartition_L3] at hF
                refine Exec.run tyOk 400 rfl ?_
                rcases cond_some hF with ⟨hb, hF⟩ | ⟨hb, hF⟩
                · skip
                  refine Exec.ifT rfl hb ?_
                  refine Exec.run tyOk 400 rfl ?_
                  refine Exec.draws tyOk [(0, true), (1, true), (2, true), (3, true), (4, true), (5, true), (7, true), (6, false), (8, false), (9, false), (10, true), (11, true), (12, true), (13, true), (14, false), (15, false), (16, false), (17, false), (18, false), (19, false)] rfl (by kernel_rfl) ?_
                  refine Exec.run tyOk 400 rfl ?_
                  obtain ⟨q83, hF⟩ := req_some hF
                  obtain ⟨c84, hr84, hd84⟩ := SlAt.get h81 q83
                  obtain rfl := hr84
                  refine Exec.fia tyOk rfl rfl rfl ⟨q83.1, q83.2, hd84.some⟩ ?_
                  refine Exec.run tyOk 400 rfl ?_
                  refine Exec.fld tyOk (x := .string ⟨⟨(atI x40.Reads x74)⟩⟩) rfl rfl rfl hd84 rfl rfl ?_
                  refine Exec.run tyOk 400 rfl ?_
                  obtain ⟨x85, hx85, hF⟩ := bnd_some hF
                  refine Exec.callS (.int .i64 (x85)) rfl rfl (W_placement_Owner x1 ((atI x40.Reads x74)) h78 hx85) ?_
                  refine Exec.run tyOk 400 rfl ?_
                  obtain ⟨q86, hF⟩ := req_some hF
                  obtain ⟨c87, hr87, hd87⟩ := SlAt.gget (((x85 != x25)) == false) h81 q86
                  obtain rfl := hr87
                  refine Exec.ia tyOk rfl rfl (fun gg0 => ⟨(q86 (gd1_of gg0)).1, (q86 (gd1_of gg0)).2, (hd87 (gd1_of gg0)).some⟩) ?_
                  refine Exec.run tyOk 400 rfl ?_
                  refine Exec.ld tyOk (x := .string ⟨⟨(cond (((x85 != x25)) == false) (atI x40.Reads x74) default)⟩⟩) rfl rfl (fun gg0 => (hd87 (gd1_of gg0))) rfl rfl ?_
                  refine Exec.run tyOk 400 rfl ?_
                  obtain ⟨x88, hx88, hF⟩ := bnd_some hF
                  refine Exec.callS (.bool (x88)) rfl rfl (fun gg0 => W_clockworklaw30_has x3.Reads ((cond (((x85 != x25)) == false) (atI x40.Reads x74) default)) h79 (gcall_some hx88 (gd1_of gg0))) ?_
                  refine Exec.run tyOk 400 rfl ?_
                  rcases cond_some hF with ⟨hb, hF⟩ | ⟨hb, hF⟩
                  · skip
                    refine Exec.ifT rfl hb ?_
                    refine Exec.run tyOk 400 rfl ?_
                    obtain rfl := some_inj hF
                    exact Exec.ret tyOk rfl rfl rfl
                  · skip
                    refine Exec.ifF rfl hb ?_
                    refine Exec.run tyOk 400 rfl ?_
                    exact Exec.round [(2, .ptr 0 0), (3, .ptr 1 0), (5, .v (.slice a7 ((x6).length) (k7))), (6, .v (.int .i64 ((IntKind.i64.wrap (x23 + (((x40.Reads).length : Nat) : Int)))))), (7, .v (.int .i64 ((IntKind.i64.wrap (x24 + (((x40.Writes).length : Nat) : Int)))))), (8, .v (.int .i64 (x25))), (9, .ptr 2 0), (10, .v (.int .i64 ((IntKind.i64.wrap (x74 + (1 : Int))))))] ⟨rfl, rfl, rfl, rfl, rfl, rfl, rfl, rfl, trivial⟩ ⟨n75, Nat.lt_succ_self _, (IntKind.i64.wrap (x74 + (1 : Int))), rfl, rfl, h77, h78, h79, h80, h81, h82, hF⟩
                · skip
                  refine Exec.ifF rfl hb ?_
                  refine Exec.run tyOk 400 rfl ?_
                  exact Exec.round [(2, .ptr 0 0), (3, .ptr 1 0), (5, .v (.slice a7 ((x6).length) (k7))), (6, .v (.int .i64 ((IntKind.i64.wrap (x23 + (((x40.Reads).length : Nat) : Int)))))), (7, .v (.int .i64 ((IntKind.i64.wrap (x24 + (((x40.Writes).length : Nat) : Int)))))), (8, .v (.int .i64 (x25))), (9, .ptr 2 0)] ⟨rfl, rfl, rfl, rfl, rfl, rfl, rfl, trivial⟩ ⟨rfl, rfl, h77, h78, h79, h80, h81, h82, hF⟩
      · skip
        refine Exec.ifF rfl hb ?_
        refine Exec.run tyOk 400 rfl ?_
        exact Exec.round [(3, .ptr 1 0), (6, .v (.int .i64 (x23))), (7, .v (.int .i64 (x24)))] ⟨rfl, rfl, rfl, trivial⟩ ⟨x23, x24, rfl, rfl, h29, h30, h31, hF⟩

end Go.Proofs.Ytkbldnpifmjipaa
