/-
  Functions of the program as their counterparts say them (printed by a program).
  Conditions: none.
-/
import Derived.Test.YtfinjeaoicfdeaaHb
namespace Go.Proofs.Ytfinjeaoicfdeaa

def F_footprint_meet_L1 (x1 : List Str) (x3 : List Str) (J5 : Option Bool) : Nat → Int → Option Bool
  | 0, _ => none
  | n8 + 1, x7 => (cond (decide (x7 < (((x1).length : Nat) : Int))) (req (0 ≤ x7 ∧ x7 < ((x1).length : Int)) (bnd (F_slices_BinarySearch_string_string x3 ((atI x1 x7))) fun x14 => (cond x14.2 (some true) (F_footprint_meet_L1 x1 x3 J5 n8 ((IntKind.i64.wrap (x7 + (1 : Int)))))))) J5)

def F_footprint_meet (x1 : List Str) (x3 : List Str) : Option Bool :=
  (jn ((some false)) (fun J5 => (F_footprint_meet_L1 x1 x3 J5 (((((x1).length : Nat) : Int)).toNat + 1) ((0 : Int)))))

set_option maxRecDepth 100000 in
theorem W_footprint_meet {V : View} (x1 : List Str) (x3 : List Str) {a2 : Option Addr} {k2 : Nat} {a4 : Option Addr} {k4 : Nat} (h2 : SlAt cStr V a2 k2 x1) (h4 : SlAt cStr V a4 k4 x3) {r : Bool} (hF : F_footprint_meet x1 x3 = some r) :
    Spec Try.prog 40 [.slice a2 ((x1).length) (k2), .slice a4 ((x3).length) (k4)] V (fun _ v => v = .bool (r)) := by
  unfold F_footprint_meet at hF
  refine Spec.enter (T := tyT) Try.func40 rfl (by kernel_rfl) rfl rfl rfl ?_
  refine Exec.run tyOk 11 rfl ?_
  obtain ⟨J5, hJ5, hF⟩ := jn_some hF
  refine Exec.seam (fun L' V' M' => L' = [] ∧ M' = [] ∧ J5 = some r) rfl ?_ ?_
  · rintro L' V6 M' ⟨rfl, rfl, hF⟩
    subst hJ5
    refine Exec.run tyOk 400 rfl ?_
    obtain rfl := some_inj hF
    exact Exec.ret tyOk rfl rfl rfl
  · skip
    refine Exec.run tyOk 400 rfl ?_
    refine Exec.loop (fun n8 L' V' M' => ∃ (x7 : Int), L' = [(1, .v (.slice a4 ((x3).length) (k4))), (9, .v (.slice a2 ((x1).length) (k2))), (10, .v (.int .i64 ((((x1).length : Nat) : Int)))), (11, .v (.int .i64 (x7)))] ∧ M' = [] ∧ SlAt cStr V' a4 k4 x3 ∧ SlAt cStr V' a2 k2 x1 ∧ F_footprint_meet_L1 x1 x3 J5 n8 x7 = some r) ⟨(((((x1).length : Nat) : Int)).toNat + 1), [(1, .v (.slice a4 ((x3).length) (k4))), (9, .v (.slice a2 ((x1).length) (k2))), (10, .v (.int .i64 ((((x1).length : Nat) : Int)))), (11, .v (.int .i64 ((0 : Int))))], ⟨rfl, rfl, rfl, rfl, trivial⟩, (0 : Int), rfl, rfl, h4, h2, hF⟩ ?_
    rintro n8 L' V9 M' ⟨x7, rfl, rfl, h10, h11, hF⟩
    rcases n8 with _ | n8
    · exact absurd hF (by simp [F_footprint_meet_L1])
    rw [F_footprint_meet_L1] at hF
    refine Exec.run tyOk 400 rfl ?_
    rcases cond_some hF with ⟨hb, hF⟩ | ⟨hb, hF⟩
    · skip
      refine Exec.ifT rfl hb ?_
      refine Exec.run tyOk 400 rfl ?_
      obtain ⟨q12, hF⟩ := req_some hF
      obtain ⟨c13, hr13, hd13⟩ := SlAt.get h11 q12
      obtain rfl := hr13
      refine Exec.ia tyOk rfl rfl ⟨q12.1, q12.2, hd13.some⟩ ?_
      refine Exec.run tyOk 400 rfl ?_
      refine Exec.ld tyOk (x := .string ⟨⟨(atI x1 x7)⟩⟩) rfl rfl hd13 rfl rfl ?_
      refine Exec.run tyOk 400 rfl ?_
      obtain ⟨x14, hx14, hF⟩ := bnd_some hF
      refine Exec.callS (.tuple ⟨[.int .i64 (x14.1), .bool (x14.2)]⟩) rfl rfl (W_slices_BinarySearch_string_string x3 ((atI x1 x7)) h10 hx14) ?_
      refine Exec.run tyOk 400 rfl ?_
      rcases cond_some hF with ⟨hb, hF⟩ | ⟨hb, hF⟩
      · skip
        refine Exec.ifT rfl hb ?_
        refine Exec.run tyOk 400 rfl ?_
        obtain rfl := some_inj hF
        exact Exec.ret tyOk rfl rfl rfl
      · skip
        refine Exec.ifF rfl hb ?_
        refine Exec.run tyOk 400 rfl ?_
        exact Exec.round [(1, .v (.slice a4 ((x3).length) (k4))), (9, .v (.slice a2 ((x1).length) (k2))), (10, .v (.int .i64 ((((x1).length : Nat) : Int)))), (11, .v (.int .i64 ((IntKind.i64.wrap (x7 + (1 : Int))))))] ⟨rfl, rfl, rfl, rfl, trivial⟩ ⟨n8, Nat.lt_succ_self _, (IntKind.i64.wrap (x7 + (1 : Int))), rfl, rfl, h10, h11, hF⟩
    · skip
      refine Exec.ifF rfl hb ?_
      refine Exec.run tyOk 400 rfl ?_
      exact Exec.round [] trivial ⟨rfl, rfl, hF⟩

def F_clockworkref19_Conflicts (x1 : TFootprint) (x4 : TFootprint) : Option Bool :=
  (bnd (F_clockworkref19_Valid x1) fun x7 => (bnd (gcall (((!x7)) == false) (F_clockworkref19_Valid x4)) fun x8 => (cond ((((!x7) || (!x8)) || x1.All) || x4.All) (some true) (bnd (F_clockworkref19_meet x1.Writes x4.Writes) fun x9 => (bnd (gcall ((x9) == false) (F_clockworkref19_meet x1.Writes x4.Reads)) fun x10 => (bnd (gcall (((x9 || x10)) == false) (F_clockworkref19_meet x1.Reads x4.Writes)) fun x11 => (some ((x9 || x10) || x11))))))))

set_option maxRecDepth 100000 in
theorem W_clockworkref19_Conflicts {V : View} (x1 : TFootprint) (x4 : TFootprint) {a2 : Option Addr} {k2 : Nat} {a3 : Option Addr} {k3 : Nat} {a5 : Option Addr} {k5 : Nat} {a6 : Option Addr} {k6 : Nat} (h2 : SlAt cStr V a2 k2 x1.Reads) (h3 : SlAt cStr V a3 k3 x1.Writes) (h5 : SlAt cStr V a5 k5 x4.Reads) (h6 : SlAt cStr V a6 k6 x4.Writes) {r : Bool} (hF : F_clockworkref19_Conflicts x1 x4 = some r) :
    Spec Try.prog 41 [.agg ⟨[.bool (x1.All), .slice a2 ((x1.Reads).length) (k2), .slice a3 ((x1.Writes).length) (k3)]⟩, .agg ⟨[.bool (x4.All), .slice a5 ((x4.Reads).length) (k5), .slice a6 ((x4.Writes).length) (k6)]⟩] V (fun _ v => v = .bool (r)) := by
  unfold F_clockworkref19_Conflicts at hF
  refine Spec.enter (T := tyT) Try.func41 rfl (by kernel_rfl) rfl rfl rfl ?_
  refine Exec.run tyOk 400 rfl ?_
  obtain ⟨x7, hx7, hF⟩ := bnd_some hF
  refine Exec.callS (.bool (x7)) rfl rfl (W_clockworkref19_Valid x1 h2 h3 hx7) ?_
  refine Exec.run tyOk 400 rfl ?_
  obtain ⟨x8, hx8, hF⟩ := bnd_some hF
  refine Exec.callS (.bool (x8)) rfl rfl (fun gg0 => W_clockworkref19_Valid x4 h5 h6 (gcall_some hx8 (gd1_of gg0))) ?_
  refine Exec.run tyOk 400 rfl ?_
  rcases cond_some hF with ⟨hb, hF⟩ | ⟨hb, hF⟩
  · skip
    refine Exec.ifT rfl hb ?_
    refine Exec.run tyOk 400 rfl ?_
    obtain rfl := some_inj hF
    exact Exec.ret tyOk rfl rfl rfl
  · skip
    refine Exec.ifF rfl hb ?_
    refine Exec.run tyOk 400 rfl ?_
    obtain ⟨x9, hx9, hF⟩ := bnd_some hF
    refine Exec.callS (.bool (x9)) rfl rfl (W_clockworkref19_meet x1.Writes x4.Writes h3 h6 hx9) ?_
    refine Exec.run tyOk 400 rfl ?_
    obtain ⟨x10, hx10, hF⟩ := bnd_some hF
    refine Exec.callS (.bool (x10)) rfl rfl (fun gg0 => W_clockworkref19_meet x1.Writes x4.Reads h3 h5 (gcall_some hx10 (gd1_of gg0))) ?_
    refine Exec.run tyOk 400 rfl ?_
    obtain ⟨x11, hx11, hF⟩ := bnd_some hF
    refine Exec.callS (.bool (x11)) rfl rfl (fun gg0 => W_clockworkref19_meet x1.Reads x4.Writes h2 h6 (gcall_some hx11 (gd1_of gg0))) ?_
    refine Exec.run tyOk 400 rfl ?_
    obtain rfl := some_inj hF
    exact Exec.ret tyOk rfl rfl rfl

def F_clockworkref26_Depends_L1 (x7 : TFootprint) (x15 : TFootprint) (J25 : Option Bool) : Nat → Int → Option Bool
  | 0, _ => none
  | n28 + 1, x27 => (cond (decide (x27 < (((x7.Writes).length : Nat) : Int))) (req (0 ≤ x27 ∧ x27 < ((x7.Writes).length : Int)) (bnd (F_clockworkref04_Has x15.Reads ((atI x7.Writes x27))) fun x36 => (cond x36 (some true) (F_clockworkref26_Depends_L1 x7 x15 J25 n28 ((IntKind.i64.wrap (x27 + (1 : Int)))))))) J25)

def F_clockworkref26_Depends (x1 : TFootprint) (x4 : TFootprint) : Option Bool :=
  (bnd (F_clockworkref26_norm x1) fun x7 => (bnd (F_clockworkref26_norm x4) fun x15 => (cond (x15.All || (x7.All && (decide ((0 : Int) < (((x15.Reads).length : Nat) : Int))))) (some true) (jn ((some false)) (fun J25 => (F_clockworkref26_Depends_L1 x7 x15 J25 (((((x7.Writes).length : Nat) : Int)).toNat + 1) ((0 : Int))))))))

set_option maxRecDepth 100000 in
theorem W_clockworkref26_Depends {V : View} (x1 : TFootprint) (x4 : TFootprint) {a2 : Option Addr} {k2 : Nat} {a3 : Option Addr} {k3 : Nat} {a5 : Option Addr} {k5 : Nat} {a6 : Option Addr} {k6 : Nat} (h2 : SlAt cStr V a2 k2 x1.Reads) (h3 : SlAt cStr V a3 k3 x1.Writes) (h5 : SlAt cStr V a5 k5 x4.Reads) (h6 : SlAt cStr V a6 k6 x4.Writes) {r : Bool} (hF : F_clockworkref26_Depends x1 x4 = some r) :
    Spec Try.prog 42 [.agg ⟨[.bool (x1.All), .slice a2 ((x1.Reads).length) (k2), .slice a3 ((x1.Writes).length) (k3)]⟩, .agg ⟨[.bool (x4.All), .slice a5 ((x4.Reads).length) (k5), .slice a6 ((x4.Writes).length) (k6)]⟩] V (fun _ v => v = .bool (r)) := by
  unfold F_clockworkref26_Depends at hF
  refine Spec.enter (T := tyT) Try.func42 rfl (by kernel_rfl) rfl rfl rfl ?_
  refine Exec.run tyOk 400 rfl ?_
  refine Exec.draws tyOk [(2, true), (0, false), (1, false), (3, false), (4, false), (5, false)] rfl (by kernel_rfl) ?_
  refine Exec.run tyOk 400 rfl ?_
  obtain ⟨x7, hx7, hF⟩ := bnd_some hF
  refine Exec.call rfl rfl (W_clockworkref26_norm x1 h2 h3 hx7) ?_
  rintro V10 _ hv10 ⟨a8, k8, a9, k9, rfl, h8, h9⟩
  have h11 := SlAt.mono h2 hv10
  have h12 := SlAt.mono h3 hv10
  have h13 := SlAt.mono h5 hv10
  have h14 := SlAt.mono h6 hv10
  refine Exec.run tyOk 400 rfl ?_
  obtain ⟨x15, hx15, hF⟩ := bnd_some hF
  refine Exec.call rfl rfl (W_clockworkref26_norm x4 h13 h14 hx15) ?_
  rintro V18 _ hv18 ⟨a16, k16, a17, k17, rfl, h16, h17⟩
  have h19 := SlAt.mono h11 hv18
  have h20 := SlAt.mono h12 hv18
  have h21 := SlAt.mono h13 hv18
  have h22 := SlAt.mono h14 hv18
  have h23 := SlAt.mono h8 hv18
  have h24 := SlAt.mono h9 hv18
  refine Exec.run tyOk 400 rfl ?_
  rcases cond_some hF with ⟨hb, hF⟩ | ⟨hb, hF⟩
  · skip
    refine Exec.ifT rfl hb ?_
    refine Exec.run tyOk 400 rfl ?_
    obtain rfl := some_inj hF
    exact Exec.ret tyOk rfl rfl rfl
  · skip
    refine Exec.ifF rfl hb ?_
    refine Exec.run tyOk 6 rfl ?_
    obtain ⟨J25, hJ25, hF⟩ := jn_some hF
    refine Exec.seam (fun L' V' M' => L' = [] ∧ M' = [] ∧ J25 = some r) rfl ?_ ?_
    · rintro L' V26 M' ⟨rfl, rfl, hF⟩
      subst hJ25
      refine Exec.run tyOk 400 rfl ?_
      obtain rfl := some_inj hF
      exact Exec.ret tyOk rfl rfl rfl
    · skip
      refine Exec.run tyOk 400 rfl ?_
      refine Exec.loop (fun n28 L' V' M' => ∃ (x27 : Int), L' = [(2, .ptr 0 0), (3, .ptr 1 0), (5, .v (.int .i64 (x27)))] ∧ M' = [.blk [.v (.bool (x7.All)), .v (.slice a8 ((x7.Reads).length) (k8)), .v (.slice a9 ((x7.Writes).length) (k9))] 46, .blk [.v (.bool (x15.All)), .v (.slice a16 ((x15.Reads).length) (k16)), .v (.slice a17 ((x15.Writes).length) (k17))] 46] ∧ SlAt cStr V' a8 k8 x7.Reads ∧ SlAt cStr V' a9 k9 x7.Writes ∧ SlAt cStr V' a16 k16 x15.Reads ∧ SlAt cStr V' a17 k17 x15.Writes ∧ F_clockworkref26_Depends_L1 x7 x15 J25 n28 x27 = some r) ⟨(((((x7.Writes).length : Nat) : Int)).toNat + 1), [(2, .ptr 0 0), (3, .ptr 1 0), (5, .v (.int .i64 ((0 : Int))))], ⟨rfl, rfl, rfl, trivial⟩, (0 : Int), rfl, rfl, h23, h24, h16, h17, hF⟩ ?_
      rintro n28 L' V29 M' ⟨x27, rfl, rfl, h30, h31, h32, h33, hF⟩
      rcases n28 with _ | n28
      · exact absurd hF (by simp [F_clockworkref26_Depends_L1])
      rw [F_clockworkref26_Depends_L1] at hF
      refine Exec.run tyOk 400 rfl ?_
      rcases cond_some hF with ⟨hb, hF⟩ | ⟨hb, hF⟩
      · skip
        refine Exec.ifT rfl hb ?_
        refine Exec.run tyOk 400 rfl ?_
        refine Exec.draws tyOk [(0, true), (1, true), (2, true), (3, true), (4, true), (5, true), (6, true), (7, false)] rfl (by kernel_rfl) ?_
        refine Exec.run tyOk 400 rfl ?_
        obtain ⟨q34, hF⟩ := req_some hF
        obtain ⟨c35, hr35, hd35⟩ := SlAt.get h31 q34
        obtain rfl := hr35
        refine Exec.fia tyOk rfl rfl rfl ⟨q34.1, q34.2, hd35.some⟩ ?_
        refine Exec.run tyOk 400 rfl ?_
        refine Exec.fld tyOk (x := .string ⟨⟨(atI x7.Writes x27)⟩⟩) rfl rfl rfl hd35 rfl rfl ?_
        refine Exec.run tyOk 400 rfl ?_
        obtain ⟨x36, hx36, hF⟩ := bnd_some hF
        refine Exec.callS (.bool (x36)) rfl rfl (W_clockworkref04_Has x15.Reads ((atI x7.Writes x27)) h32 hx36) ?_
        refine Exec.run tyOk 400 rfl ?_
        rcases cond_some hF with ⟨hb, hF⟩ | ⟨hb, hF⟩
        · skip
          refine Exec.ifT rfl hb ?_
          refine Exec.run tyOk 400 rfl ?_
          obtain rfl := some_inj hF
          exact Exec.ret tyOk rfl rfl rfl
        · skip
          refine Exec.ifF rfl hb ?_
          refine Exec.run tyOk 400 rfl ?_
          exact Exec.round [(2, .ptr 0 0), (3, .ptr 1 0), (5, .v (.int .i64 ((IntKind.i64.wrap (x27 + (1 : Int))))))] ⟨rfl, rfl, rfl, trivial⟩ ⟨n28, Nat.lt_succ_self _, (IntKind.i64.wrap (x27 + (1 : Int))), rfl, rfl, h30, h31, h32, h33, hF⟩
      · skip
        refine Exec.ifF rfl hb ?_
        refine Exec.run tyOk 400 rfl ?_
        refine Exec.cut 0 [] (M' := []) rfl trivial rfl rfl rfl ?_
        exact Exec.round [] trivial ⟨rfl, rfl, hF⟩

def F_footprint_Conflicts (x1 : TFootprint) (x4 : TFootprint) : Option Bool :=
  (bnd (F_footprint_Valid x1) fun x7 => (bnd (gcall (((!x7)) == false) (F_footprint_Valid x4)) fun x8 => (cond ((((!x7) || (!x8)) || x1.All) || x4.All) (some true) (bnd (F_footprint_meet x1.Writes x4.Writes) fun x9 => (bnd (gcall ((x9) == false) (F_footprint_meet x1.Writes x4.Reads)) fun x10 => (bnd (gcall (((x9 || x10)) == false) (F_footprint_meet x1.Reads x4.Writes)) fun x11 => (some ((x9 || x10) || x11))))))))

set_option maxRecDepth 100000 in
theorem W_footprint_Conflicts {V : View} (x1 : TFootprint) (x4 : TFootprint) {a2 : Option Addr} {k2 : Nat} {a3 : Option Addr} {k3 : Nat} {a5 : Option Addr} {k5 : Nat} {a6 : Option Addr} {k6 : Nat} (h2 : SlAt cStr V a2 k2 x1.Reads) (h3 : SlAt cStr V a3 k3 x1.Writes) (h5 : SlAt cStr V a5 k5 x4.Reads) (h6 : SlAt cStr V a6 k6 x4.Writes) {r : Bool} (hF : F_footprint_Conflicts x1 x4 = some r) :
    Spec Try.prog 28 [.agg ⟨[.bool (x1.All), .slice a2 ((x1.Reads).length) (k2), .slice a3 ((x1.Writes).length) (k3)]⟩, .agg ⟨[.bool (x4.All), .slice a5 ((x4.Reads).length) (k5), .slice a6 ((x4.Writes).length) (k6)]⟩] V (fun _ v => v = .bool (r)) := by
  unfold F_footprint_Conflicts at hF
  refine Spec.enter (T := tyT) Try.func28 rfl (by kernel_rfl) rfl rfl rfl ?_
  refine Exec.run tyOk 400 rfl ?_
  obtain ⟨x7, hx7, hF⟩ := bnd_some hF
  refine Exec.callS (.bool (x7)) rfl rfl (W_footprint_Valid x1 h2 h3 hx7) ?_
  refine Exec.run tyOk 400 rfl ?_
  obtain ⟨x8, hx8, hF⟩ := bnd_some hF
  refine Exec.callS (.bool (x8)) rfl rfl (fun gg0 => W_footprint_Valid x4 h5 h6 (gcall_some hx8 (gd1_of gg0))) ?_
  refine Exec.run tyOk 400 rfl ?_
  rcases cond_some hF with ⟨hb, hF⟩ | ⟨hb, hF⟩
  · skip
    refine Exec.ifT rfl hb ?_
    refine Exec.run tyOk 400 rfl ?_
    obtain rfl := some_inj hF
    exact Exec.ret tyOk rfl rfl rfl
  · skip
    refine Exec.ifF rfl hb ?_
    refine Exec.run tyOk 400 rfl ?_
    obtain ⟨x9, hx9, hF⟩ := bnd_some hF
    refine Exec.callS (.bool (x9)) rfl rfl (W_footprint_meet x1.Writes x4.Writes h3 h6 hx9) ?_
    refine Exec.run tyOk 400 rfl ?_
    obtain ⟨x10, hx10, hF⟩ := bnd_some hF
    refine Exec.callS (.bool (x10)) rfl rfl (fun gg0 => W_footprint_meet x1.Writes x4.Reads h3 h5 (gcall_some hx10 (gd1_of gg0))) ?_
    refine Exec.run tyOk 400 rfl ?_
    obtain ⟨x11, hx11, hF⟩ := bnd_some hF
    refine Exec.callS (.bool (x11)) rfl rfl (fun gg0 => W_footprint_meet x1.Reads x4.Writes h2 h6 (gcall_some hx11 (gd1_of gg0))) ?_
    refine Exec.run tyOk 400 rfl ?_
    obtain rfl := some_inj hF
    exact Exec.ret tyOk rfl rfl rfl

def F_clockworkref28_Conflicts_L2 (x11 : Int) (x1 : List TFootprint) (J20 : (List (List Int)) → (List Int) → Option (List (List Int))) : Nat → (List (List Int)) → (List Int) → Int → Option (List (List Int))
  | 0, _, _, _ => none
  | n33 + 1, x29, x31, x32 => (cond (decide (x32 < x11)) (req (0 ≤ x32 ∧ x32 < ((x1).length : Int)) (req (0 ≤ x11 ∧ x11 < ((x1).length : Int)) (bnd (F_clockworkref19_Conflicts ((atI x1 x32)) ((atI x1 x11))) fun x44 => (jn (fun (x46 : List (List Int)) (x48 : List Int) => (F_clockworkref28_Conflicts_L2 x11 x1 J20 n33 x46 x48 ((IntKind.i64.wrap (x32 + (1 : Int)))))) (fun J49 => (cond x44 (req (((x31 ++ [x32])).length * 8 ≤ 140737488355328) (J49 x29 ((x31 ++ [x32])))) (J49 x29 x31))))))) (J20 x29 x31))

def F_clockworkref28_Conflicts_L1 (x1 : List TFootprint) (J6 : (List (List Int)) → Option (List (List Int))) : Nat → (List (List Int)) → Int → Option (List (List Int))
  | 0, _, _ => none
  | n12 + 1, x10, x11 => (cond (decide (x11 < (((x1).length : Nat) : Int))) (jn (fun (x17 : List (List Int)) (x19 : List Int) => (req (((x17 ++ [x19])).length * 24 ≤ 140737488355328) (F_clockworkref28_Conflicts_L1 x1 J6 n12 ((x17 ++ [x19])) ((IntKind.i64.wrap (x11 + (1 : Int))))))) (fun J20 => (F_clockworkref28_Conflicts_L2 x11 x1 J20 ((x11).toNat + 1) x10 (([] : List Int)) ((0 : Int))))) (J6 x10))

def F_clockworkref28_Conflicts (x1 : List TFootprint) : Option (List (List Int)) :=
  (jn (fun (x5 : List (List Int)) => (some x5)) (fun J6 => (F_clockworkref28_Conflicts_L1 x1 J6 (((((x1).length : Nat) : Int)).toNat + 1) (([] : List (List Int))) ((0 : Int)))))

set_option maxRecDepth 100000 in
theorem W_clockworkref28_Conflicts {V : View} (x1 : List TFootprint) {a2 : Option Addr} {k2 : Nat} (h2 : SlAt cTFootprint V a2 k2 x1) {r : List (List Int)} (hF : F_clockworkref28_Conflicts x1 = some r) :
    Spec Try.prog 31 [.slice a2 ((x1).length) (k2)] V (fun V' v => ∃ (a54 : Option Addr) (k54 : Nat), v = .slice a54 ((r).length) (k54) ∧ SlAt (cSl (cInt .i64)) V' a54 k54 r) := by
  unfold F_clockworkref28_Conflicts at hF
  refine Spec.enter (T := tyT) Try.func31 rfl (by kernel_rfl) rfl rfl rfl ?_
  refine Exec.run tyOk 13 rfl ?_
  refine Exec.row0 23 1 rfl ?_
  have h3 : RowRep (cSl (cInt .i64)) V ([] : List (List Int)) [] := RowRep.nil
  obtain ⟨J6, hJ6, hF⟩ := jn_some hF
  refine Exec.seam (fun L' V' M' => ∃ (x5 : List (List Int)) (a4 : Option Addr) (k4 : Nat) (cs4 : List Value), L' = [(3, .v (.slice a4 ((x5).length) (k4)))] ∧ M' = [.row (.slice a4 ((x5).length) (k4)) cs4 23 1] ∧ RowRep (cSl (cInt .i64)) V' x5 cs4 ∧ J6 x5 = some r) rfl ?_ ?_
  · rintro L' V7 M' ⟨x5, a4, k4, cs4, rfl, rfl, h4, hF⟩
    subst hJ6
    refine Exec.run tyOk 400 rfl ?_
    refine Exec.frz 0 rfl rfl rfl (fun V8 hv8 hd8 hn8 => ?_)
    have hz8 := RowRep.slat h4 hv8 hd8 hn8
    obtain rfl := some_inj hF
    exact Exec.ret tyOk rfl rfl ⟨_, _, rfl, hz8⟩
  · skip
    refine Exec.run tyOk 400 rfl ?_
    refine Exec.loop (fun n12 L' V' M' => ∃ (x10 : List (List Int)) (a9 : Option Addr) (k9 : Nat) (cs9 : List Value) (x11 : Int), L' = [(0, .v (.slice a2 ((x1).length) (k2))), (3, .v (.slice a9 ((x10).length) (k9))), (4, .v (.int .i64 (x11)))] ∧ M' = [.row (.slice a9 ((x10).length) (k9)) cs9 23 1] ∧ RowRep (cSl (cInt .i64)) V' x10 cs9 ∧ SlAt cTFootprint V' a2 k2 x1 ∧ F_clockworkref28_Conflicts_L1 x1 J6 n12 x10 x11 = some r) ⟨(((((x1).length : Nat) : Int)).toNat + 1), [(0, .v (.slice a2 ((x1).length) (k2))), (3, .v (.slice none ((([] : List (List Int))).length) (0))), (4, .v (.int .i64 ((0 : Int))))], ⟨rfl, rfl, rfl, trivial⟩, ([] : List (List Int)), none, 0, [], (0 : Int), rfl, rfl, h3, h2, hF⟩ ?_
    rintro n12 L' V13 M' ⟨x10, a9, k9, cs9, x11, rfl, rfl, h9, h14, hF⟩
    rcases n12 with _ | n12
    · exact absurd hF (by simp [F_clockworkref28_Conflicts_L1])
    rw [F_clockworkref28_Conflicts_L1] at hF
    refine Exec.run tyOk 400 rfl ?_
    rcases cond_some hF with ⟨hb, hF⟩ | ⟨hb, hF⟩
    · skip
      refine Exec.ifT rfl hb ?_
      refine Exec.run tyOk 12 rfl ?_
      refine Exec.row0 3 1 rfl ?_
      have h15 : RowRep (cInt .i64) V13 ([] : List Int) [] := RowRep.nil
      obtain ⟨J20, hJ20, hF⟩ := jn_some hF
      refine Exec.seam (fun L' V' M' => ∃ (x17 : List (List Int)) (a16 : Option Addr) (k16 : Nat) (cs16 : List Value) (x19 : List Int) (a18 : Option Addr) (k18 : Nat) (cs18 : List Value), L' = [(0, .v (.slice a2 ((x1).length) (k2))), (3, .v (.slice a16 ((x17).length) (k16))), (4, .v (.int .i64 (x11))), (5, .v (.slice a18 ((x19).length) (k18)))] ∧ M' = [.row (.slice a16 ((x17).length) (k16)) cs16 23 1, .row (.slice a18 ((x19).length) (k18)) cs18 3 1] ∧ RowRep (cSl (cInt .i64)) V' x17 cs16 ∧ RowRep (cInt .i64) V' x19 cs18 ∧ SlAt cTFootprint V' a2 k2 x1 ∧ J20 x17 x19 = some r) rfl ?_ ?_
      · rintro L' V21 M' ⟨x17, a16, k16, cs16, x19, a18, k18, cs18, rfl, rfl, h16, h18, h22, hF⟩
        subst hJ20
        refine Exec.run tyOk 400 rfl ?_
        refine Exec.frz 1 rfl rfl rfl (fun V23 hv23 hd23 hn23 => ?_)
        have hz23 := RowRep.slat h18 hv23 hd23 hn23
        have h24 := SlAt.mono h22 hv23
        have h25 := RowRep.mono hv23 h16
        refine Exec.bsl tyOk rfl rfl ?_
        refine Exec.run tyOk 400 rfl ?_
        obtain ⟨q27, hF⟩ := req_some hF
        refine Exec.app tyOk 0 2 (nm := ((x17 ++ [x19])).length) rfl rfl rfl rfl rfl rfl rfl rfl rfl (by simp) (fun _ _ => rfl) rfl q27 (fun a26 k26 => ?_)
        have h26 : RowRep (cSl (cInt .i64)) V23 (x17 ++ [x19]) (cs16 ++ [.slice a18 ((x19).length) (k18)]) := RowRep.app h25 ⟨_, _, rfl, ⟨_, _, rfl, hz23⟩, rfl⟩
        refine Exec.run tyOk 400 rfl ?_
        refine Exec.cut 1 [(0, .v (.slice a2 ((x1).length) (k2))), (3, .v (.slice a26 (((x17 ++ [x19])).length) (k26))), (4, .v (.int .i64 ((IntKind.i64.wrap (x11 + (1 : Int))))))] (M' := [.row (.slice a26 (((x17 ++ [x19])).length) (k26)) ((cs16 ++ [.slice a18 ((x19).length) (k18)])) 23 1]) rfl ⟨rfl, rfl, rfl, trivial⟩ rfl rfl rfl ?_
        exact Exec.round [(0, .v (.slice a2 ((x1).length) (k2))), (3, .v (.slice a26 (((x17 ++ [x19])).length) (k26))), (4, .v (.int .i64 ((IntKind.i64.wrap (x11 + (1 : Int))))))] ⟨rfl, rfl, rfl, trivial⟩ ⟨n12, Nat.lt_succ_self _, (x17 ++ [x19]), a26, k26, (cs16 ++ [.slice a18 ((x19).length) (k18)]), (IntKind.i64.wrap (x11 + (1 : Int))), rfl, rfl, h26, h24, hF⟩
      · skip
        refine Exec.run tyOk 400 rfl ?_
        refine Exec.loop (fun n33 L' V' M' => ∃ (x29 : List (List Int)) (a28 : Option Addr) (k28 : Nat) (cs28 : List Value) (x31 : List Int) (a30 : Option Addr) (k30 : Nat) (cs30 : List Value) (x32 : Int), L' = [(0, .v (.slice a2 ((x1).length) (k2))), (3, .v (.slice a28 ((x29).length) (k28))), (4, .v (.int .i64 (x11))), (5, .v (.slice a30 ((x31).length) (k30))), (6, .v (.int .i64 (x32)))] ∧ M' = [.row (.slice a28 ((x29).length) (k28)) cs28 23 1, .row (.slice a30 ((x31).length) (k30)) cs30 3 1] ∧ RowRep (cSl (cInt .i64)) V' x29 cs28 ∧ RowRep (cInt .i64) V' x31 cs30 ∧ SlAt cTFootprint V' a2 k2 x1 ∧ F_clockworkref28_Conflicts_L2 x11 x1 J20 n33 x29 x31 x32 = some r) ⟨((x11).toNat + 1), [(0, .v (.slice a2 ((x1).length) (k2))), (3, .v (.slice a9 ((x10).length) (k9))), (4, .v (.int .i64 (x11))), (5, .v (.slice none ((([] : List Int)).length) (0))), (6, .v (.int .i64 ((0 : Int))))], ⟨rfl, rfl, rfl, rfl, rfl, trivial⟩, x10, a9, k9, cs9, ([] : List Int), none, 0, [], (0 : Int), rfl, rfl, h9, h15, h14, hF⟩ ?_
        rintro n33 L' V34 M' ⟨x29, a28, k28, cs28, x31, a30, k30, cs30, x32, rfl, rfl, h28, h30, h35, hF⟩
        rcases n33 with _ | n33
        · exact absurd hF (by simp [F_clockworkref28_Conflicts_L2])
        rw [F_clockworkref28_Conflicts_L2] at hF
        refine Exec.run tyOk 400 rfl ?_
        rcases cond_some hF with ⟨hb, hF⟩ | ⟨hb, hF⟩
        · skip
          refine Exec.ifT rfl hb ?_
          refine Exec.run tyOk 400 rfl ?_
          refine Exec.draws tyOk [(0, true), (1, true), (2, true), (3, true), (4, true), (5, true), (6, true), (7, true), (8, false)] rfl (by kernel_rfl) ?_
          refine Exec.run tyOk 400 rfl ?_
          obtain ⟨q36, hF⟩ := req_some hF
          obtain ⟨c37, hr37, hd37⟩ := SlAt.get h35 q36
          obtain ⟨a38, k38, a39, k39, rfl, h38, h39⟩ := hr37
          refine Exec.fia tyOk rfl rfl rfl ⟨q36.1, q36.2, hd37.some⟩ ?_
          refine Exec.run tyOk 400 rfl ?_
          refine Exec.fld tyOk (x := .agg ⟨[.bool ((atI x1 x32).All), .slice a38 (((atI x1 x32).Reads).length) (k38), .slice a39 (((atI x1 x32).Writes).length) (k39)]⟩) rfl rfl rfl hd37 rfl rfl ?_
          refine Exec.run tyOk 400 rfl ?_
          obtain ⟨q40, hF⟩ := req_some hF
          obtain ⟨c41, hr41, hd41⟩ := SlAt.get h35 q40
          obtain ⟨a42, k42, a43, k43, rfl, h42, h43⟩ := hr41
          refine Exec.fia tyOk rfl rfl rfl ⟨q40.1, q40.2, hd41.some⟩ ?_
          refine Exec.run tyOk 400 rfl ?_
          refine Exec.fld tyOk (x := .agg ⟨[.bool ((atI x1 x11).All), .slice a42 (((atI x1 x11).Reads).length) (k42), .slice a43 (((atI x1 x11).Writes).length) (k43)]⟩) rfl rfl rfl hd41 rfl rfl ?_
          refine Exec.run tyOk 400 rfl ?_
          obtain ⟨x44, hx44, hF⟩ := bnd_some hF
          refine Exec.callS (.bool (x44)) rfl rfl (W_clockworkref19_Conflicts ((atI x1 x32)) ((atI x1 x11)) h38 h39 h42 h43 hx44) ?_
          refine Exec.run tyOk 400 rfl ?_
          obtain ⟨J49, hJ49, hF⟩ := jn_some hF
          refine Exec.seam (fun L' V' M' => ∃ (x46 : List (List Int)) (a45 : Option Addr) (k45 : Nat) (cs45 : List Value) (x48 : List Int) (a47 : Option Addr) (k47 : Nat) (cs47 : List Value), L' = [(0, .v (.slice a2 ((x1).length) (k2))), (3, .v (.slice a45 ((x46).length) (k45))), (4, .v (.int .i64 (x11))), (5, .v (.slice a47 ((x48).length) (k47))), (6, .v (.int .i64 (x32)))] ∧ M' = [.row (.slice a45 ((x46).length) (k45)) cs45 23 1, .row (.slice a47 ((x48).length) (k47)) cs47 3 1] ∧ RowRep (cSl (cInt .i64)) V' x46 cs45 ∧ RowRep (cInt .i64) V' x48 cs47 ∧ SlAt cTFootprint V' a2 k2 x1 ∧ J49 x46 x48 = some r) rfl ?_ ?_
          · rintro L' V50 M' ⟨x46, a45, k45, cs45, x48, a47, k47, cs47, rfl, rfl, h45, h47, h51, hF⟩
            subst hJ49
            refine Exec.run tyOk 400 rfl ?_
            exact Exec.round [(0, .v (.slice a2 ((x1).length) (k2))), (3, .v (.slice a45 ((x46).length) (k45))), (4, .v (.int .i64 (x11))), (5, .v (.slice a47 ((x48).length) (k47))), (6, .v (.int .i64 ((IntKind.i64.wrap (x32 + (1 : Int))))))] ⟨rfl, rfl, rfl, rfl, rfl, trivial⟩ ⟨n33, Nat.lt_succ_self _, x46, a45, k45, cs45, x48, a47, k47, cs47, (IntKind.i64.wrap (x32 + (1 : Int))), rfl, rfl, h45, h47, h51, hF⟩
          · skip
            refine Exec.run tyOk 400 rfl ?_
            rcases cond_some hF with ⟨hb, hF⟩ | ⟨hb, hF⟩
            · skip
              refine Exec.ifT rfl hb ?_
              refine Exec.run tyOk 400 rfl ?_
              refine Exec.bsl tyOk rfl rfl ?_
              refine Exec.run tyOk 400 rfl ?_
              obtain ⟨q53, hF⟩ := req_some hF
              refine Exec.app tyOk 1 2 (nm := ((x31 ++ [x32])).length) rfl rfl rfl rfl rfl rfl rfl rfl rfl (by simp) (fun _ _ => rfl) rfl q53 (fun a52 k52 => ?_)
              have h52 : RowRep (cInt .i64) V34 (x31 ++ [x32]) (cs30 ++ [.int .i64 (x32)]) := RowRep.app h30 ⟨_, _, rfl, rfl, rfl⟩
              refine Exec.run tyOk 400 rfl ?_
              refine Exec.cut 2 [(0, .v (.slice a2 ((x1).length) (k2))), (3, .v (.slice a28 ((x29).length) (k28))), (4, .v (.int .i64 (x11))), (5, .v (.slice a52 (((x31 ++ [x32])).length) (k52))), (6, .v (.int .i64 (x32)))] (M' := [.row (.slice a28 ((x29).length) (k28)) cs28 23 1, .row (.slice a52 (((x31 ++ [x32])).length) (k52)) ((cs30 ++ [.int .i64 (x32)])) 3 1]) rfl ⟨rfl, rfl, rfl, rfl, rfl, trivial⟩ rfl rfl rfl ?_
              exact Exec.round [(0, .v (.slice a2 ((x1).length) (k2))), (3, .v (.slice a28 ((x29).length) (k28))), (4, .v (.int .i64 (x11))), (5, .v (.slice a52 (((x31 ++ [x32])).length) (k52))), (6, .v (.int .i64 (x32)))] ⟨rfl, rfl, rfl, rfl, rfl, trivial⟩ ⟨x29, a28, k28, cs28, (x31 ++ [x32]), a52, k52, (cs30 ++ [.int .i64 (x32)]), rfl, rfl, h28, h52, h35, hF⟩
            · skip
              refine Exec.ifF rfl hb ?_
              refine Exec.run tyOk 400 rfl ?_
              exact Exec.round [(0, .v (.slice a2 ((x1).length) (k2))), (3, .v (.slice a28 ((x29).length) (k28))), (4, .v (.int .i64 (x11))), (5, .v (.slice a30 ((x31).length) (k30))), (6, .v (.int .i64 (x32)))] ⟨rfl, rfl, rfl, rfl, rfl, trivial⟩ ⟨x29, a28, k28, cs28, x31, a30, k30, cs30, rfl, rfl, h28, h30, h35, hF⟩
        · skip
          refine Exec.ifF rfl hb ?_
          refine Exec.run tyOk 400 rfl ?_
          exact Exec.round [(0, .v (.slice a2 ((x1).length) (k2))), (3, .v (.slice a28 ((x29).length) (k28))), (4, .v (.int .i64 (x11))), (5, .v (.slice a30 ((x31).length) (k30)))] ⟨rfl, rfl, rfl, rfl, trivial⟩ ⟨x29, a28, k28, cs28, x31, a30, k30, cs30, rfl, rfl, h28, h30, h35, hF⟩
    · skip
      refine Exec.ifF rfl hb ?_
      refine Exec.run tyOk 400 rfl ?_
      exact Exec.round [(3, .v (.slice a9 ((x10).length) (k9)))] ⟨rfl, trivial⟩ ⟨x10, a9, k9, cs9, rfl, rfl, h9, hF⟩

def F_clockworkref26_Deps_L2 (x11 : Int) (x1 : List TFootprint) (J20 : (List (List Int)) → (List Int) → Option (List (List Int))) : Nat → (List (List Int)) → (List Int) → Int → Option (List (List Int))
  | 0, _, _, _ => none
  | n33 + 1, x29, x31, x32 => (cond (decide (x32 < x11)) (req (0 ≤ x32 ∧ x32 < ((x1).length : Int)) (req (0 ≤ x11 ∧ x11 < ((x1).length : Int)) (bnd (F_clockworkref26_Depends ((atI x1 x32)) ((atI x1 x11))) fun x44 => (jn (fun (x46 : List (List Int)) (x48 : List Int) => (F_clockworkref26_Deps_L2 x11 x1 J20 n33 x46 x48 ((IntKind.i64.wrap (x32 + (1 : Int)))))) (fun J49 => (cond x44 (req (((x31 ++ [x32])).length * 8 ≤ 140737488355328) (J49 x29 ((x31 ++ [x32])))) (J49 x29 x31))))))) (J20 x29 x31))

def F_clockworkref26_Deps_L1 (x1 : List TFootprint) (J6 : (List (List Int)) → Option (List (List Int))) : Nat → (List (List Int)) → Int → Option (List (List Int))
  | 0, _, _ => none
  | n12 + 1, x10, x11 => (cond (decide (x11 < (((x1).length : Nat) : Int))) (jn (fun (x17 : List (List Int)) (x19 : List Int) => (req (((x17 ++ [x19])).length * 24 ≤ 140737488355328) (F_clockworkref26_Deps_L1 x1 J6 n12 ((x17 ++ [x19])) ((IntKind.i64.wrap (x11 + (1 : Int))))))) (fun J20 => (F_clockworkref26_Deps_L2 x11 x1 J20 ((x11).toNat + 1) x10 (([] : List Int)) ((0 : Int))))) (J6 x10))

def F_clockworkref26_Deps (x1 : List TFootprint) : Option (List (List Int)) :=
  (jn (fun (x5 : List (List Int)) => (some x5)) (fun J6 => (F_clockworkref26_Deps_L1 x1 J6 (((((x1).length : Nat) : Int)).toNat + 1) (([] : List (List Int))) ((0 : Int)))))

set_option maxRecDepth 100000 in
theorem W_clockworkref26_Deps {V : View} (x1 : List TFootprint) {a2 : Option Addr} {k2 : Nat} (h2 : SlAt cTFootprint V a2 k2 x1) {r : List (List Int)} (hF : F_clockworkref26_Deps x1 = some r) :
    Spec Try.prog 32 [.slice a2 ((x1).length) (k2)] V (fun V' v => ∃ (a54 : Option Addr) (k54 : Nat), v = .slice a54 ((r).length) (k54) ∧ SlAt (cSl (cInt .i64)) V' a54 k54 r) := by
  unfold F_clockworkref26_Deps at hF
  refine Spec.enter (T := tyT) Try.func32 rfl (by kernel_rfl) rfl rfl rfl ?_
  refine Exec.run tyOk 13 rfl ?_
  refine Exec.row0 23 1 rfl ?_
  have h3 : RowRep (cSl (cInt .i64)) V ([] : List (List Int)) [] := RowRep.nil
  obtain ⟨J6, hJ6, hF⟩ := jn_some hF
  refine Exec.seam (fun L' V' M' => ∃ (x5 : List (List Int)) (a4 : Option Addr) (k4 : Nat) (cs4 : List Value), L' = [(3, .v (.slice a4 ((x5).length) (k4)))] ∧ M' = [.row (.slice a4 ((x5).length) (k4)) cs4 23 1] ∧ RowRep (cSl (cInt .i64)) V' x5 cs4 ∧ J6 x5 = some r) rfl ?_ ?_
  · rintro L' V7 M' ⟨x5, a4, k4, cs4, rfl, rfl, h4, hF⟩
    subst hJ6
    refine Exec.run tyOk 400 rfl ?_
    refine Exec.frz 0 rfl rfl rfl (fun V8 hv8 hd8 hn8 => ?_)
    have hz8 := RowRep.slat h4 hv8 hd8 hn8
    obtain rfl := some_inj hF
    exact Exec.ret tyOk rfl rfl ⟨_, _, rfl, hz8⟩
  · skip
    refine Exec.run tyOk 400 rfl ?_
    refine Exec.loop (fun n12 L' V' M' => ∃ (x10 : List (List Int)) (a9 : Option Addr) (k9 : Nat) (cs9 : List Value) (x11 : Int), L' = [(0, .v (.slice a2 ((x1).length) (k2))), (3, .v (.slice a9 ((x10).length) (k9))), (4, .v (.int .i64 (x11)))] ∧ M' = [.row (.slice a9 ((x10).length) (k9)) cs9 23 1] ∧ RowRep (cSl (cInt .i64)) V' x10 cs9 ∧ SlAt cTFootprint V' a2 k2 x1 ∧ F_clockworkref26_Deps_L1 x1 J6 n12 x10 x11 = some r) ⟨(((((x1).length : Nat) : Int)).toNat + 1), [(0, .v (.slice a2 ((x1).length) (k2))), (3, .v (.slice none ((([] : List (List Int))).length) (0))), (4, .v (.int .i64 ((0 : Int))))], ⟨rfl, rfl, rfl, trivial⟩, ([] : List (List Int)), none, 0, [], (0 : Int), rfl, rfl, h3, h2, hF⟩ ?_
    rintro n12 L' V13 M' ⟨x10, a9, k9, cs9, x11, rfl, rfl, h9, h14, hF⟩
    rcases n12 with _ | n12
    · exact absurd hF (by simp [F_clockworkref26_Deps_L1])
    rw [F_clockworkref26_Deps_L1] at hF
    refine Exec.run tyOk 400 rfl ?_
    rcases cond_some hF with ⟨hb, hF⟩ | ⟨hb, hF⟩
    · skip
      refine Exec.ifT rfl hb ?_
      refine Exec.run tyOk 12 rfl ?_
      refine Exec.row0 3 1 rfl ?_
      have h15 : RowRep (cInt .i64) V13 ([] : List Int) [] := RowRep.nil
      obtain ⟨J20, hJ20, hF⟩ := jn_some hF
      refine Exec.seam (fun L' V' M' => ∃ (x17 : List (List Int)) (a16 : Option Addr) (k16 : Nat) (cs16 : List Value) (x19 : List Int) (a18 : Option Addr) (k18 : Nat) (cs18 : List Value), L' = [(0, .v (.slice a2 ((x1).length) (k2))), (3, .v (.slice a16 ((x17).length) (k16))), (4, .v (.int .i64 (x11))), (5, .v (.slice a18 ((x19).length) (k18)))] ∧ M' = [.row (.slice a16 ((x17).length) (k16)) cs16 23 1, .row (.slice a18 ((x19).length) (k18)) cs18 3 1] ∧ RowRep (cSl (cInt .i64)) V' x17 cs16 ∧ RowRep (cInt .i64) V' x19 cs18 ∧ SlAt cTFootprint V' a2 k2 x1 ∧ J20 x17 x19 = some r) rfl ?_ ?_
      · rintro L' V21 M' ⟨x17, a16, k16, cs16, x19, a18, k18, cs18, rfl, rfl, h16, h18, h22, hF⟩
        subst hJ20
        refine Exec.run tyOk 400 rfl ?_
        refine Exec.frz 1 rfl rfl rfl (fun V23 hv23 hd23 hn23 => ?_)
        have hz23 := RowRep.slat h18 hv23 hd23 hn23
        have h24 := SlAt.mono h22 hv23
        have h25 := RowRep.mono hv23 h16
        refine Exec.bsl tyOk rfl rfl ?_
        refine Exec.run tyOk 400 rfl ?_
        obtain ⟨q27, hF⟩ := req_some hF
        refine Exec.app tyOk 0 2 (nm := ((x17 ++ [x19])).length) rfl rfl rfl rfl rfl rfl rfl rfl rfl (by simp) (fun _ _ => rfl) rfl q27 (fun a26 k26 => ?_)
        have h26 : RowRep (cSl (cInt .i64)) V23 (x17 ++ [x19]) (cs16 ++ [.slice a18 ((x19).length) (k18)]) := RowRep.app h25 ⟨_, _, rfl, ⟨_, _, rfl, hz23⟩, rfl⟩
        refine Exec.run tyOk 400 rfl ?_
        refine Exec.cut 1 [(0, .v (.slice a2 ((x1).length) (k2))), (3, .v (.slice a26 (((x17 ++ [x19])).length) (k26))), (4, .v (.int .i64 ((IntKind.i64.wrap (x11 + (1 : Int))))))] (M' := [.row (.slice a26 (((x17 ++ [x19])).length) (k26)) ((cs16 ++ [.slice a18 ((x19).length) (k18)])) 23 1]) rfl ⟨rfl, rfl, rfl, trivial⟩ rfl rfl rfl ?_
        exact Exec.round [(0, .v (.slice a2 ((x1).length) (k2))), (3, .v (.slice a26 (((x17 ++ [x19])).length) (k26))), (4, .v (.int .i64 ((IntKind.i64.wrap (x11 + (1 : Int))))))] ⟨rfl, rfl, rfl, trivial⟩ ⟨n12, Nat.lt_succ_self _, (x17 ++ [x19]), a26, k26, (cs16 ++ [.slice a18 ((x19).length) (k18)]), (IntKind.i64.wrap (x11 + (1 : Int))), rfl, rfl, h26, h24, hF⟩
      · skip
        refine Exec.run tyOk 400 rfl ?_
        refine Exec.loop (fun n33 L' V' M' => ∃ (x29 : List (List Int)) (a28 : Option Addr) (k28 : Nat) (cs28 : List Value) (x31 : List Int) (a30 : Option Addr) (k30 : Nat) (cs30 : List Value) (x32 : Int), L' = [(0, .v (.slice a2 ((x1).length) (k2))), (3, .v (.slice a28 ((x29).length) (k28))), (4, .v (.int .i64 (x11))), (5, .v (.slice a30 ((x31).length) (k30))), (6, .v (.int .i64 (x32)))] ∧ M' = [.row (.slice a28 ((x29).length) (k28)) cs28 23 1, .row (.slice a30 ((x31).length) (k30)) cs30 3 1] ∧ RowRep (cSl (cInt .i64)) V' x29 cs28 ∧ RowRep (cInt .i64) V' x31 cs30 ∧ SlAt cTFootprint V' a2 k2 x1 ∧ F_clockworkref26_Deps_L2 x11 x1 J20 n33 x29 x31 x32 = some r) ⟨((x11).toNat + 1), [(0, .v (.slice a2 ((x1).length) (k2))), (3, .v (.slice a9 ((x10).length) (k9))), (4, .v (.int .i64 (x11))), (5, .v (.slice none ((([] : List Int)).length) (0))), (6, .v (.int .i64 ((0 : Int))))], ⟨rfl, rfl, rfl, rfl, rfl, trivial⟩, x10, a9, k9, cs9, ([] : List Int), none, 0, [], (0 : Int), rfl, rfl, h9, h15, h14, hF⟩ ?_
        rintro n33 L' V34 M' ⟨x29, a28, k28, cs28, x31, a30, k30, cs30, x32, rfl, rfl, h28, h30, h35, hF⟩
        rcases n33 with _ | n33
        · exact absurd hF (by simp [F_clockworkref26_Deps_L2])
        rw [F_clockworkref26_Deps_L2] at hF
        refine Exec.run tyOk 400 rfl ?_
        rcases cond_some hF with ⟨hb, hF⟩ | ⟨hb, hF⟩
        · skip
          refine Exec.ifT rfl hb ?_
          refine Exec.run tyOk 400 rfl ?_
          refine Exec.draws tyOk [(0, true), (1, true), (2, true), (3, true), (4, true), (5, true), (6, true), (7, true), (8, false)] rfl (by kernel_rfl) ?_
          refine Exec.run tyOk 400 rfl ?_
          obtain ⟨q36, hF⟩ := req_some hF
          obtain ⟨c37, hr37, hd37⟩ := SlAt.get h35 q36
          obtain ⟨a38, k38, a39, k39, rfl, h38, h39⟩ := hr37
          refine Exec.fia tyOk rfl rfl rfl ⟨q36.1, q36.2, hd37.some⟩ ?_
          refine Exec.run tyOk 400 rfl ?_
          refine Exec.fld tyOk (x := .agg ⟨[.bool ((atI x1 x32).All), .slice a38 (((atI x1 x32).Reads).length) (k38), .slice a39 (((atI x1 x32).Writes).length) (k39)]⟩) rfl rfl rfl hd37 rfl rfl ?_
          refine Exec.run tyOk 400 rfl ?_
          obtain ⟨q40, hF⟩ := req_some hF
          obtain ⟨c41, hr41, hd41⟩ := SlAt.get h35 q40
          obtain ⟨a42, k42, a43, k43, rfl, h42, h43⟩ := hr41
          refine Exec.fia tyOk rfl rfl rfl ⟨q40.1, q40.2, hd41.some⟩ ?_
          refine Exec.run tyOk 400 rfl ?_
          refine Exec.fld tyOk (x := .agg ⟨[.bool ((atI x1 x11).All), .slice a42 (((atI x1 x11).Reads).length) (k42), .slice a43 (((atI x1 x11).Writes).length) (k43)]⟩) rfl rfl rfl hd41 rfl rfl ?_
          refine Exec.run tyOk 400 rfl ?_
          obtain ⟨x44, hx44, hF⟩ := bnd_some hF
          refine Exec.callS (.bool (x44)) rfl rfl (W_clockworkref26_Depends ((atI x1 x32)) ((atI x1 x11)) h38 h39 h42 h43 hx44) ?_
          refine Exec.run tyOk 400 rfl ?_
          obtain ⟨J49, hJ49, hF⟩ := jn_some hF
          refine Exec.seam (fun L' V' M' => ∃ (x46 : List (List Int)) (a45 : Option Addr) (k45 : Nat) (cs45 : List Value) (x48 : List Int) (a47 : Option Addr) (k47 : Nat) (cs47 : List Value), L' = [(0, .v (.slice a2 ((x1).length) (k2))), (3, .v (.slice a45 ((x46).length) (k45))), (4, .v (.int .i64 (x11))), (5, .v (.slice a47 ((x48).length) (k47))), (6, .v (.int .i64 (x32)))] ∧ M' = [.row (.slice a45 ((x46).length) (k45)) cs45 23 1, .row (.slice a47 ((x48).length) (k47)) cs47 3 1] ∧ RowRep (cSl (cInt .i64)) V' x46 cs45 ∧ RowRep (cInt .i64) V' x48 cs47 ∧ SlAt cTFootprint V' a2 k2 x1 ∧ J49 x46 x48 = some r) rfl ?_ ?_
          · rintro L' V50 M' ⟨x46, a45, k45, cs45, x48, a47, k47, cs47, rfl, rfl, h45, h47, h51, hF⟩
            subst hJ49
            refine Exec.run tyOk 400 rfl ?_
            exact Exec.round [(0, .v (.slice a2 ((x1).length) (k2))), (3, .v (.slice a45 ((x46).length) (k45))), (4, .v (.int .i64 (x11))), (5, .v (.slice a47 ((x48).length) (k47))), (6, .v (.int .i64 ((IntKind.i64.wrap (x32 + (1 : Int))))))] ⟨rfl, rfl, rfl, rfl, rfl, trivial⟩ ⟨n33, Nat.lt_succ_self _, x46, a45, k45, cs45, x48, a47, k47, cs47, (IntKind.i64.wrap (x32 + (1 : Int))), rfl, rfl, h45, h47, h51, hF⟩
          · skip
            refine Exec.run tyOk 400 rfl ?_
            rcases cond_some hF with ⟨hb, hF⟩ | ⟨hb, hF⟩
            · skip
              refine Exec.ifT rfl hb ?_
              refine Exec.run tyOk 400 rfl ?_
              refine Exec.bsl tyOk rfl rfl ?_
              refine Exec.run tyOk 400 rfl ?_
              obtain ⟨q53, hF⟩ := req_some hF
              refine Exec.app tyOk 1 2 (nm := ((x31 ++ [x32])).length) rfl rfl rfl rfl rfl rfl rfl rfl rfl (by simp) (fun _ _ => rfl) rfl q53 (fun a52 k52 => ?_)
              have h52 : RowRep (cInt .i64) V34 (x31 ++ [x32]) (cs30 ++ [.int .i64 (x32)]) := RowRep.app h30 ⟨_, _, rfl, rfl, rfl⟩
              refine Exec.run tyOk 400 rfl ?_
              refine Exec.cut 2 [(0, .v (.slice a2 ((x1).length) (k2))), (3, .v (.slice a28 ((x29).length) (k28))), (4, .v (.int .i64 (x11))), (5, .v (.slice a52 (((x31 ++ [x32])).length) (k52))), (6, .v (.int .i64 (x32)))] (M' := [.row (.slice a28 ((x29).length) (k28)) cs28 23 1, .row (.slice a52 (((x31 ++ [x32])).length) (k52)) ((cs30 ++ [.int .i64 (x32)])) 3 1]) rfl ⟨rfl, rfl, rfl, rfl, rfl, trivial⟩ rfl rfl rfl ?_
              exact Exec.round [(0, .v (.slice a2 ((x1).length) (k2))), (3, .v (.slice a28 ((x29).length) (k28))), (4, .v (.int .i64 (x11))), (5, .v (.slice a52 (((x31 ++ [x32])).length) (k52))), (6, .v (.int .i64 (x32)))] ⟨rfl, rfl, rfl, rfl, rfl, trivial⟩ ⟨x29, a28, k28, cs28, (x31 ++ [x32]), a52, k52, (cs30 ++ [.int .i64 (x32)]), rfl, rfl, h28, h52, h35, hF⟩
            · skip
              refine Exec.ifF rfl hb ?_
              refine Exec.run tyOk 400 rfl ?_
              exact Exec.round [(0, .v (.slice a2 ((x1).length) (k2))), (3, .v (.slice a28 ((x29).length) (k28))), (4, .v (.int .i64 (x11))), (5, .v (.slice a30 ((x31).length) (k30))), (6, .v (.int .i64 (x32)))] ⟨rfl, rfl, rfl, rfl, rfl, trivial⟩ ⟨x29, a28, k28, cs28, x31, a30, k30, cs30, rfl, rfl, h28, h30, h35, hF⟩
        · skip
          refine Exec.ifF rfl hb ?_
          refine Exec.run tyOk 400 rfl ?_
          exact Exec.round [(0, .v (.slice a2 ((x1).length) (k2))), (3, .v (.slice a28 ((x29).length) (k28))), (4, .v (.int .i64 (x11))), (5, .v (.slice a30 ((x31).length) (k30)))] ⟨rfl, rfl, rfl, rfl, trivial⟩ ⟨x29, a28, k28, cs28, x31, a30, k30, cs30, rfl, rfl, h28, h30, h35, hF⟩
    · skip
      refine Exec.ifF rfl hb ?_
      refine Exec.run tyOk 400 rfl ?_
      exact Exec.round [(3, .v (.slice a9 ((x10).length) (k9)))] ⟨rfl, trivial⟩ ⟨x10, a9, k9, cs9, rfl, rfl, h9, hF⟩

def F_mvsched_effective (x1 : TFootprint) : Option TFootprint :=
  (bnd (F_footprint_Valid x1) fun x4 => (cond x4 (some x1) (some (⟨true, ([] : List Str), ([] : List Str)⟩ : TFootprint))))

set_option maxRecDepth 100000 in
theorem W_mvsched_effective {V : View} (x1 : TFootprint) {a2 : Option Addr} {k2 : Nat} {a3 : Option Addr} {k3 : Nat} (h2 : SlAt cStr V a2 k2 x1.Reads) (h3 : SlAt cStr V a3 k3 x1.Writes) {r : TFootprint} (hF : F_mvsched_effective x1 = some r) :
    Spec Try.prog 35 [.agg ⟨[.bool (x1.All), .slice a2 ((x1.Reads).length) (k2), .slice a3 ((x1.Writes).length) (k3)]⟩] V (fun V' v => ∃ (a5 : Option Addr) (k5 : Nat) (a6 : Option Addr) (k6 : Nat), v = .agg ⟨[.bool (r.All), .slice a5 ((r.Reads).length) (k5), .slice a6 ((r.Writes).length) (k6)]⟩ ∧ SlAt cStr V' a5 k5 r.Reads ∧ SlAt cStr V' a6 k6 r.Writes) := by
  unfold F_mvsched_effective at hF
  refine Spec.enter (T := tyT) Try.func35 rfl (by kernel_rfl) rfl rfl rfl ?_
  refine Exec.run tyOk 400 rfl ?_
  obtain ⟨x4, hx4, hF⟩ := bnd_some hF
  refine Exec.callS (.bool (x4)) rfl rfl (W_footprint_Valid x1 h2 h3 hx4) ?_
  refine Exec.run tyOk 400 rfl ?_
  rcases cond_some hF with ⟨hb, hF⟩ | ⟨hb, hF⟩
  · skip
    refine Exec.ifT rfl hb ?_
    refine Exec.run tyOk 400 rfl ?_
    obtain rfl := some_inj hF
    exact Exec.ret tyOk rfl rfl ⟨_, _, _, _, rfl, h2, h3⟩
  · skip
    refine Exec.ifF rfl hb ?_
    refine Exec.run tyOk 400 rfl ?_
    obtain rfl := some_inj hF
    exact Exec.ret tyOk rfl rfl ⟨_, _, _, _, rfl, SlAt.nil, SlAt.nil⟩

/-! ### timeline.Lock (by hand: it appends to the elements of a row) -/

theorem snoc_rep {x z : Value} {cs : List Value} {n j : Nat} (h : j < n) : cs ++ List.replicate (n - j) z = cs ++ (z :: List.replicate (n - j - 1) z) := by
  have : n - j = (n - j - 1) + 1 := by omega
  rw [this, List.replicate_succ]
  simp

theorem cellsAt_mid (cs r : List Value) (x : Value) : CellsAt (cs ++ (x :: r)) cs.length [x] := by
  intro j v hv
  cases j with
  | zero => simpa using hv
  | succ j => simp at hv

def F_timeline_Lock_L2 {ρ : Type} (l : List TFootprint) (j : Nat) (K : List Int → Option ρ) : Nat → Nat → List Int → Option ρ
  | 0, _, _ => none
  | n + 1, i, e => cond (decide ((i : Int) < (j : Int))) (req (0 ≤ (i : Int) ∧ (i : Int) < (l.length : Int)) (req (0 ≤ (j : Int) ∧ (j : Int) < (l.length : Int)) (bnd (F_footprint_Conflicts (atI l i) (atI l j)) fun c =>
      cond c (req ((e ++ [(i : Int)]).length * 8 ≤ 140737488355328) (F_timeline_Lock_L2 l j K n (i + 1) (e ++ [(i : Int)]))) (F_timeline_Lock_L2 l j K n (i + 1) e)))) (K e)

def F_timeline_Lock_L1 {ρ : Type} (l : List TFootprint) (K : List (List Int) → Option ρ) : Nat → Nat → List (List Int) → Option ρ
  | 0, _, _ => none
  | n + 1, j, D => cond (decide ((j : Int) < (l.length : Int))) (F_timeline_Lock_L2 l j (fun e => F_timeline_Lock_L1 l K n (j + 1) (D ++ [e])) (j + 1) 0 []) (K D)

def F_timeline_Lock (l : List TFootprint) (cost : List Int) : Option (List TSpan × Int) :=
  bnd (F_timeline_validCosts ((l.length : Nat) : Int) cost) fun ok => cond (!ok) (some ([], 1)) (req (24 * l.length ≤ 140737488355328)
    (F_timeline_Lock_L1 l (fun D => bnd (F_timeline_earliest D cost) fun s => some (s, 0)) (l.length + 1) 0 []))

set_option maxHeartbeats 1000000 in
set_option maxRecDepth 100000 in
theorem W_timeline_Lock {V : View} (x1 : List TFootprint) (x3 : List Int) {a2 : Option Addr} {k2 : Nat} {a4 : Option Addr} {k4 : Nat} (h2 : SlAt cTFootprint V a2 k2 x1) (h4 : SlAt (cInt .i64) V a4 k4 x3) {r : List TSpan × Int} (hF : F_timeline_Lock x1 x3 = some r) :
    Spec Try.prog 11 [.slice a2 ((x1).length) (k2), .slice a4 ((x3).length) (k4)] V (fun V' v => ∃ (a5 : Option Addr) (k5 : Nat), v = .tuple ⟨[.slice a5 ((r.1).length) (k5), .int .i64 (r.2)]⟩ ∧ SlAt cTSpan V' a5 k5 r.1) := by
  unfold F_timeline_Lock at hF
  refine Spec.enter (T := tyT) Try.func11 rfl (by kernel_rfl) rfl rfl rfl ?_
  refine Exec.run tyOk 400 rfl ?_
  obtain ⟨ok, hok, hF⟩ := bnd_some hF
  refine Exec.callS (.bool ok) rfl rfl (W_timeline_validCosts _ _ h4 hok) ?_
  refine Exec.run tyOk 400 rfl ?_
  rcases cond_some hF with ⟨hb, hF⟩ | ⟨hb, hF⟩
  · refine Exec.ifT rfl hb ?_
    refine Exec.run tyOk 400 rfl ?_
    obtain rfl := some_inj hF
    exact Exec.ret tyOk rfl rfl ⟨none, 0, rfl, SlAt.nil⟩
  refine Exec.ifF rfl hb ?_
  refine Exec.run tyOk 400 rfl ?_
  obtain ⟨q1, hF⟩ := req_some hF
  refine Exec.mkr tyOk rfl rfl rfl rfl (nm := x1.length) (by simp) ⟨by omega, Int.le_refl _⟩ (by simp; omega) (fun _ => rfl) (fun a6 => ?_)
  rw [flat_one]
  refine Exec.run tyOk 400 rfl ?_
  refine Exec.loop (fun n L' V' M' => ∃ (j : Nat) (D : List (List Int)) (cs : List Value),
      L' = [(0, .v (.slice a2 x1.length k2)), (1, .v (.slice a4 x3.length k4)), (6, .v (.slice (some a6) x1.length ((x1.length : Nat) : Int).toNat)), (18, .v (.int .i64 ((x1.length : Nat) : Int))), (19, .v (.int .i64 ((j : Nat) : Int)))] ∧
      M' = [.row (.slice (some a6) x1.length ((x1.length : Nat) : Int).toNat) (cs ++ List.replicate (x1.length - j) (.slice none 0 0)) 23 1] ∧
      SlAt cTFootprint V' a2 k2 x1 ∧ SlAt (cInt .i64) V' a4 k4 x3 ∧ RowRep (cSl (cInt .i64)) V' D cs ∧ D.length = j ∧ j ≤ x1.length ∧
      F_timeline_Lock_L1 x1 (fun D => bnd (F_timeline_earliest D x3) fun s => some (s, 0)) n j D = some r)
    ⟨x1.length + 1, [(0, .v (.slice a2 x1.length k2)), (1, .v (.slice a4 x3.length k4)), (6, .v (.slice (some a6) x1.length ((x1.length : Nat) : Int).toNat)), (18, .v (.int .i64 ((x1.length : Nat) : Int))), (19, .v (.int .i64 ((0 : Nat) : Int)))],
      ⟨rfl, rfl, rfl, rfl, rfl, trivial⟩, 0, [], [], rfl, rfl, h2, h4, rfl, rfl, Nat.zero_le _, hF⟩ ?_
  rintro n L' V1 M' ⟨j, D, cs, rfl, rfl, h2, h4, hD, hDl, hj, hF⟩
  have hcl := hD.len
  have hsz1 : (cSl (cInt .i64)).sz = 1 := rfl
  rw [hsz1, Nat.mul_one] at hcl
  rcases n with _ | n
  · exact absurd hF (by simp [F_timeline_Lock_L1])
  rw [F_timeline_Lock_L1] at hF
  refine Exec.run tyOk 400 rfl ?_
  rcases cond_some hF with ⟨hb, hF⟩ | ⟨hb, hF⟩
  · have hlt : j < x1.length := by simpa using hb
    refine Exec.ifT rfl hb ?_
    refine Exec.run tyOk 400 rfl ?_
    refine Exec.row0 3 1 rfl ?_
    refine Exec.loop (fun m L' V' M' => ∃ (i : Nat) (e : List Int) (a : Option Addr) (k : Nat) (ds : List Value),
        L' = [(0, .v (.slice a2 x1.length k2)), (1, .v (.slice a4 x3.length k4)), (6, .v (.slice (some a6) x1.length ((x1.length : Nat) : Int).toNat)), (7, .v (.int .i64 ((j : Nat) : Int))), (18, .v (.int .i64 ((x1.length : Nat) : Int))), (19, .v (.int .i64 ((j : Nat) : Int))), (22, .v (.int .i64 ((j : Nat) : Int))), (23, .v (.int .i64 ((i : Nat) : Int)))] ∧
        M' = [.row (.slice (some a6) x1.length ((x1.length : Nat) : Int).toNat) (cs ++ (.slice a e.length k :: List.replicate (x1.length - j - 1) (.slice none 0 0))) 23 1, .row (.slice a e.length k) ds 3 1] ∧
        SlAt cTFootprint V' a2 k2 x1 ∧ SlAt (cInt .i64) V' a4 k4 x3 ∧ RowRep (cSl (cInt .i64)) V' D cs ∧ RowRep (cInt .i64) V' e ds ∧ i ≤ j ∧
        F_timeline_Lock_L2 x1 j (fun e => F_timeline_Lock_L1 x1 (fun D => bnd (F_timeline_earliest D x3) fun s => some (s, 0)) n (j + 1) (D ++ [e])) m i e = some r)
      ⟨j + 1, [(0, .v (.slice a2 x1.length k2)), (1, .v (.slice a4 x3.length k4)), (6, .v (.slice (some a6) x1.length ((x1.length : Nat) : Int).toNat)), (7, .v (.int .i64 ((j : Nat) : Int))), (18, .v (.int .i64 ((x1.length : Nat) : Int))), (19, .v (.int .i64 ((j : Nat) : Int))), (22, .v (.int .i64 ((j : Nat) : Int))), (23, .v (.int .i64 ((0 : Nat) : Int)))],
        ⟨rfl, rfl, rfl, rfl, rfl, rfl, rfl, rfl, trivial⟩, 0, [], none, 0, [], rfl, by rw [snoc_rep (x := .slice none 0 0) hlt]; rfl, h2, h4, hD, rfl, Nat.zero_le _, hF⟩ ?_
    rintro m L' V2 M' ⟨i, e, a, k, ds, rfl, rfl, h2, h4, hD, hE, hij, hF⟩
    rcases m with _ | m
    · exact absurd hF (by simp [F_timeline_Lock_L2])
    rw [F_timeline_Lock_L2] at hF
    refine Exec.run tyOk 400 rfl ?_
    rcases cond_some hF with ⟨hb, hF⟩ | ⟨hb, hF⟩
    · have hi : i < j := by simpa using hb
      refine Exec.ifT rfl hb ?_
      refine Exec.run tyOk 400 rfl ?_
      refine Exec.draws tyOk [(0, true), (1, true), (2, true), (3, true), (4, true), (5, true), (6, true), (7, true), (8, false)] rfl (by kernel_rfl) ?_
      refine Exec.run tyOk 400 rfl ?_
      obtain ⟨q2, hF⟩ := req_some hF
      obtain ⟨c1, hr1, hd1⟩ := SlAt.get h2 q2
      obtain ⟨b1, p1, b2, p2, rfl, g1, g2⟩ := hr1
      refine Exec.fia tyOk rfl rfl rfl ⟨q2.1, q2.2, hd1.some⟩ ?_
      refine Exec.run tyOk 400 rfl ?_
      refine Exec.fld tyOk (x := .agg ⟨[.bool (atI x1 (i : Int)).All, .slice b1 (atI x1 (i : Int)).Reads.length p1, .slice b2 (atI x1 (i : Int)).Writes.length p2]⟩) rfl rfl rfl hd1 rfl rfl ?_
      refine Exec.run tyOk 400 rfl ?_
      obtain ⟨q3, hF⟩ := req_some hF
      obtain ⟨c2, hr2, hd2⟩ := SlAt.get h2 q3
      obtain ⟨b3, p3, b4, p4, rfl, g3, g4⟩ := hr2
      refine Exec.fia tyOk rfl rfl rfl ⟨q3.1, q3.2, hd2.some⟩ ?_
      refine Exec.run tyOk 400 rfl ?_
      refine Exec.fld tyOk (x := .agg ⟨[.bool (atI x1 (j : Int)).All, .slice b3 (atI x1 (j : Int)).Reads.length p3, .slice b4 (atI x1 (j : Int)).Writes.length p4]⟩) rfl rfl rfl hd2 rfl rfl ?_
      refine Exec.run tyOk 400 rfl ?_
      obtain ⟨cf, hcf, hF⟩ := bnd_some hF
      refine Exec.callS (.bool cf) rfl rfl (W_footprint_Conflicts _ _ g1 g2 g3 g4 hcf) ?_
      refine Exec.run tyOk 400 rfl ?_
      have hnext : IntKind.i64.wrap ((i : Int) + 1) = ((i + 1 : Nat) : Int) := by
        have := h2.1
        rw [w64 (by omega) (by omega)]
        omega
      rcases cond_some hF with ⟨hb, hF⟩ | ⟨hb, hF⟩
      · refine Exec.ifT rfl hb ?_
        refine Exec.run tyOk 400 rfl ?_
        obtain ⟨q4, hF⟩ := req_some hF
        refine Exec.rowI 0 rfl (fun ra rb rc => ?_)
        have hs := rb (by omega)
        refine Exec.ia tyOk rfl rfl ⟨by omega, by omega, hs⟩ ?_
        refine Exec.run tyOk 400 rfl ?_
        have hoff : ((j : Int)).toNat * 1 = cs.length := by simp; omega
        refine Exec.ldR tyOk 0 (x := .slice a e.length k) (l := [.slice a e.length k]) rfl rfl rfl ⟨by rw [hoff]; exact cellsAt_mid _ _ _, hs⟩ rfl rfl ?_
        refine Exec.run tyOk 400 rfl ?_
        refine Exec.bsl tyOk rfl rfl ?_
        refine Exec.run tyOk 400 rfl ?_
        refine Exec.app tyOk 1 2 (nm := (e ++ [(i : Int)]).length) rfl rfl rfl rfl rfl rfl rfl rfl rfl (by simp) (fun _ _ => rfl) rfl q4 (fun a9 k9 => ?_)
        refine Exec.run tyOk 400 rfl ?_
        refine Exec.ia tyOk rfl rfl ⟨by omega, by omega, hs⟩ ?_
        refine Exec.run tyOk 400 rfl ?_
        have hcs : (cs ++ (Value.slice a e.length k :: List.replicate (x1.length - j - 1) (.slice none 0 0))).take (((j : Int)).toNat * 1) ++ [.slice a9 (e ++ [(i : Int)]).length k9] ++ (cs ++ (Value.slice a e.length k :: List.replicate (x1.length - j - 1) (.slice none 0 0))).drop (((j : Int)).toNat * 1 + 1) =
            cs ++ (Value.slice a9 (e ++ [(i : Int)]).length k9 :: List.replicate (x1.length - j - 1) (.slice none 0 0)) := by
          rw [hoff]
          simp
        refine Exec.stR tyOk 0 rfl rfl rfl rfl rfl hs (by simp; omega) hcs rfl rfl ?_
        refine Exec.run tyOk 400 rfl ?_
        refine Exec.cut 2 [(0, .v (.slice a2 x1.length k2)), (1, .v (.slice a4 x3.length k4)), (6, .v (.slice (some a6) x1.length ((x1.length : Nat) : Int).toNat)), (7, .v (.int .i64 ((j : Nat) : Int))), (18, .v (.int .i64 ((x1.length : Nat) : Int))), (19, .v (.int .i64 ((j : Nat) : Int))), (22, .v (.int .i64 ((j : Nat) : Int))), (23, .v (.int .i64 (IntKind.i64.wrap ((i : Int) + 1))))]
          (M' := [.row (.slice (some a6) x1.length ((x1.length : Nat) : Int).toNat) (cs ++ (Value.slice a9 (e ++ [(i : Int)]).length k9 :: List.replicate (x1.length - j - 1) (.slice none 0 0))) 23 1, .row (.slice a9 (e ++ [(i : Int)]).length k9) (ds ++ [.int .i64 (i : Int)]) 3 1])
          rfl ⟨rfl, rfl, rfl, rfl, rfl, rfl, rfl, rfl, trivial⟩ rfl rfl rfl ?_
        rw [hnext]
        exact Exec.round [(0, .v (.slice a2 x1.length k2)), (1, .v (.slice a4 x3.length k4)), (6, .v (.slice (some a6) x1.length ((x1.length : Nat) : Int).toNat)), (7, .v (.int .i64 ((j : Nat) : Int))), (18, .v (.int .i64 ((x1.length : Nat) : Int))), (19, .v (.int .i64 ((j : Nat) : Int))), (22, .v (.int .i64 ((j : Nat) : Int))), (23, .v (.int .i64 ((i + 1 : Nat) : Int)))] ⟨rfl, rfl, rfl, rfl, rfl, rfl, rfl, rfl, trivial⟩ ⟨m, Nat.lt_succ_self _, i + 1, e ++ [(i : Int)], a9, k9, ds ++ [.int .i64 (i : Int)], rfl, rfl, h2, h4, hD, hE.snoc (show (cInt .i64).rep V2 (i : Int) [.int .i64 (i : Int)] from rfl), hi, hF⟩
      · refine Exec.ifF rfl hb ?_
        refine Exec.run tyOk 400 rfl ?_
        refine Exec.cut 2 [(0, .v (.slice a2 x1.length k2)), (1, .v (.slice a4 x3.length k4)), (6, .v (.slice (some a6) x1.length ((x1.length : Nat) : Int).toNat)), (7, .v (.int .i64 ((j : Nat) : Int))), (18, .v (.int .i64 ((x1.length : Nat) : Int))), (19, .v (.int .i64 ((j : Nat) : Int))), (22, .v (.int .i64 ((j : Nat) : Int))), (23, .v (.int .i64 (IntKind.i64.wrap ((i : Int) + 1))))]
          rfl ⟨rfl, rfl, rfl, rfl, rfl, rfl, rfl, rfl, trivial⟩ rfl rfl rfl ?_
        rw [hnext]
        exact Exec.round [(0, .v (.slice a2 x1.length k2)), (1, .v (.slice a4 x3.length k4)), (6, .v (.slice (some a6) x1.length ((x1.length : Nat) : Int).toNat)), (7, .v (.int .i64 ((j : Nat) : Int))), (18, .v (.int .i64 ((x1.length : Nat) : Int))), (19, .v (.int .i64 ((j : Nat) : Int))), (22, .v (.int .i64 ((j : Nat) : Int))), (23, .v (.int .i64 ((i + 1 : Nat) : Int)))] ⟨rfl, rfl, rfl, rfl, rfl, rfl, rfl, rfl, trivial⟩ ⟨m, Nat.lt_succ_self _, i + 1, e, a, k, ds, rfl, rfl, h2, h4, hD, hE, hi, hF⟩
    · refine Exec.ifF rfl hb ?_
      refine Exec.run tyOk 400 rfl ?_
      refine Exec.frz 1 rfl rfl rfl (fun V3 hv hd hn => ?_)
      have hS := RowRep.slat hE hv hd hn
      have hnext : IntKind.i64.wrap ((j : Int) + 1) = ((j + 1 : Nat) : Int) := by
        have := h2.1
        rw [w64 (by omega) (by omega)]
        omega
      refine Exec.cut 1 [(0, .v (.slice a2 x1.length k2)), (1, .v (.slice a4 x3.length k4)), (6, .v (.slice (some a6) x1.length ((x1.length : Nat) : Int).toNat)), (18, .v (.int .i64 ((x1.length : Nat) : Int))), (19, .v (.int .i64 (IntKind.i64.wrap ((j : Int) + 1))))]
        (M' := [.row (.slice (some a6) x1.length ((x1.length : Nat) : Int).toNat) (cs ++ (Value.slice a e.length k :: List.replicate (x1.length - j - 1) (.slice none 0 0))) 23 1])
        rfl ⟨rfl, rfl, rfl, rfl, rfl, trivial⟩ rfl rfl rfl ?_
      rw [hnext]
      exact Exec.round [(0, .v (.slice a2 x1.length k2)), (1, .v (.slice a4 x3.length k4)), (6, .v (.slice (some a6) x1.length ((x1.length : Nat) : Int).toNat)), (18, .v (.int .i64 ((x1.length : Nat) : Int))), (19, .v (.int .i64 ((j + 1 : Nat) : Int)))] ⟨rfl, rfl, rfl, rfl, rfl, trivial⟩ ⟨n, Nat.lt_succ_self _, j + 1, D ++ [e], cs ++ [.slice a e.length k], rfl, by rw [List.append_assoc]; rfl, h2.mono hv, h4.mono hv, (hD.mono hv).snoc ⟨_, _, rfl, hS⟩, by simp [hDl], hlt, hF⟩
  · have hjn : j = x1.length := by
      have : ¬ j < x1.length := by simpa using hb
      omega
    refine Exec.ifF rfl hb ?_
    refine Exec.run tyOk 400 rfl ?_
    obtain ⟨s, hs, hF⟩ := bnd_some hF
    refine Exec.frz 0 rfl rfl rfl (fun V3 hv hd hn => ?_)
    have hz : cs ++ List.replicate (x1.length - j) (Value.slice none 0 0) = cs := by rw [hjn]; simp
    rw [hz] at hd
    have hlen : x1.length = D.length := by omega
    have hS := RowRep.slat (k := x1.length) hD hv hd (by omega)
    refine Exec.call rfl rfl (by rw [hlen] at *; exact W_timeline_earliest D x3 hS (h4.mono hv) hs) ?_
    rintro V4 _ hv4 ⟨a5, k5, rfl, h5⟩
    refine Exec.run tyOk 400 rfl ?_
    obtain rfl := some_inj hF
    exact Exec.ret tyOk rfl rfl ⟨_, _, rfl, h5⟩

def F_clockworkref28_Lock (x1 : List TFootprint) (x3 : List Int) : Option (List TSpan × Int) :=
  (bnd (F_clockworkref28_costs x3 ((((x1).length : Nat) : Int))) fun x5 => (cond (!x5) (some (([] : List TSpan), (1 : Int))) (bnd (F_clockworkref28_Conflicts x1) fun x6 => (bnd (F_clockworkref28_Earliest x6 x3) fun x11 => (some (x11, (0 : Int)))))))

set_option maxRecDepth 100000 in
theorem W_clockworkref28_Lock {V : View} (x1 : List TFootprint) (x3 : List Int) {a2 : Option Addr} {k2 : Nat} {a4 : Option Addr} {k4 : Nat} (h2 : SlAt cTFootprint V a2 k2 x1) (h4 : SlAt (cInt .i64) V a4 k4 x3) {r : List TSpan × Int} (hF : F_clockworkref28_Lock x1 x3 = some r) :
    Spec Try.prog 14 [.slice a2 ((x1).length) (k2), .slice a4 ((x3).length) (k4)] V (fun V' v => ∃ (a17 : Option Addr) (k17 : Nat), v = .tuple ⟨[.slice a17 ((r.1).length) (k17), .int .i64 (r.2)]⟩ ∧ SlAt cTSpan V' a17 k17 r.1) := by
  unfold F_clockworkref28_Lock at hF
  refine Spec.enter (T := tyT) Try.func14 rfl (by kernel_rfl) rfl rfl rfl ?_
  refine Exec.run tyOk 400 rfl ?_
  obtain ⟨x5, hx5, hF⟩ := bnd_some hF
  refine Exec.callS (.bool (x5)) rfl rfl (W_clockworkref28_costs x3 ((((x1).length : Nat) : Int)) h4 hx5) ?_
  refine Exec.run tyOk 400 rfl ?_
  rcases cond_some hF with ⟨hb, hF⟩ | ⟨hb, hF⟩
  · skip
    refine Exec.ifT rfl hb ?_
    refine Exec.run tyOk 400 rfl ?_
    obtain rfl := some_inj hF
    exact Exec.ret tyOk rfl rfl ⟨_, _, rfl, SlAt.nil⟩
  · skip
    refine Exec.ifF rfl hb ?_
    refine Exec.run tyOk 400 rfl ?_
    obtain ⟨x6, hx6, hF⟩ := bnd_some hF
    refine Exec.call rfl rfl (W_clockworkref28_Conflicts x1 h2 hx6) ?_
    rintro V8 _ hv8 ⟨a7, k7, rfl, h7⟩
    have h9 := SlAt.mono h2 hv8
    have h10 := SlAt.mono h4 hv8
    refine Exec.run tyOk 400 rfl ?_
    obtain ⟨x11, hx11, hF⟩ := bnd_some hF
    refine Exec.call rfl rfl (W_clockworkref28_Earliest x6 x3 h7 h10 hx11) ?_
    rintro V13 _ hv13 ⟨a12, k12, rfl, h12⟩
    have h14 := SlAt.mono h9 hv13
    have h15 := SlAt.mono h10 hv13
    have h16 := SlAt.mono h7 hv13
    refine Exec.run tyOk 400 rfl ?_
    obtain rfl := some_inj hF
    exact Exec.ret tyOk rfl rfl ⟨_, _, rfl, h12⟩

def F_clockworkref28_Version (x1 : List TFootprint) (x3 : List Int) : Option (List TSpan × Int) :=
  (bnd (F_clockworkref28_costs x3 ((((x1).length : Nat) : Int))) fun x5 => (cond (!x5) (some (([] : List TSpan), (1 : Int))) (bnd (F_clockworkref26_Deps x1) fun x6 => (bnd (F_clockworkref28_Earliest x6 x3) fun x11 => (some (x11, (0 : Int)))))))

set_option maxRecDepth 100000 in
theorem W_clockworkref28_Version {V : View} (x1 : List TFootprint) (x3 : List Int) {a2 : Option Addr} {k2 : Nat} {a4 : Option Addr} {k4 : Nat} (h2 : SlAt cTFootprint V a2 k2 x1) (h4 : SlAt (cInt .i64) V a4 k4 x3) {r : List TSpan × Int} (hF : F_clockworkref28_Version x1 x3 = some r) :
    Spec Try.prog 15 [.slice a2 ((x1).length) (k2), .slice a4 ((x3).length) (k4)] V (fun V' v => ∃ (a17 : Option Addr) (k17 : Nat), v = .tuple ⟨[.slice a17 ((r.1).length) (k17), .int .i64 (r.2)]⟩ ∧ SlAt cTSpan V' a17 k17 r.1) := by
  unfold F_clockworkref28_Version at hF
  refine Spec.enter (T := tyT) Try.func15 rfl (by kernel_rfl) rfl rfl rfl ?_
  refine Exec.run tyOk 400 rfl ?_
  obtain ⟨x5, hx5, hF⟩ := bnd_some hF
  refine Exec.callS (.bool (x5)) rfl rfl (W_clockworkref28_costs x3 ((((x1).length : Nat) : Int)) h4 hx5) ?_
  refine Exec.run tyOk 400 rfl ?_
  rcases cond_some hF with ⟨hb, hF⟩ | ⟨hb, hF⟩
  · skip
    refine Exec.ifT rfl hb ?_
    refine Exec.run tyOk 400 rfl ?_
    obtain rfl := some_inj hF
    exact Exec.ret tyOk rfl rfl ⟨_, _, rfl, SlAt.nil⟩
  · skip
    refine Exec.ifF rfl hb ?_
    refine Exec.run tyOk 400 rfl ?_
    obtain ⟨x6, hx6, hF⟩ := bnd_some hF
    refine Exec.call rfl rfl (W_clockworkref26_Deps x1 h2 hx6) ?_
    rintro V8 _ hv8 ⟨a7, k7, rfl, h7⟩
    have h9 := SlAt.mono h2 hv8
    have h10 := SlAt.mono h4 hv8
    refine Exec.run tyOk 400 rfl ?_
    obtain ⟨x11, hx11, hF⟩ := bnd_some hF
    refine Exec.call rfl rfl (W_clockworkref28_Earliest x6 x3 h7 h10 hx11) ?_
    rintro V13 _ hv13 ⟨a12, k12, rfl, h12⟩
    have h14 := SlAt.mono h9 hv13
    have h15 := SlAt.mono h10 hv13
    have h16 := SlAt.mono h7 hv13
    refine Exec.run tyOk 400 rfl ?_
    obtain rfl := some_inj hF
    exact Exec.ret tyOk rfl rfl ⟨_, _, rfl, h12⟩

def F_mvsched_Deps_L2 (x11 : Int) (x1 : List TFootprint) (J20 : (List (List Int)) → (List Int) → Option (List (List Int))) : Nat → (List (List Int)) → (List Int) → Int → Option (List (List Int))
  | 0, _, _, _ => none
  | n33 + 1, x29, x31, x32 => (cond (decide (x32 < x11)) (req (0 ≤ x32 ∧ x32 < ((x1).length : Int)) (req (0 ≤ x11 ∧ x11 < ((x1).length : Int)) (bnd (F_mvsched_effective ((atI x1 x32))) fun x44 => (bnd (F_mvsched_effective ((atI x1 x11))) fun x57 => (bnd (F_mvsched_depends x44 x57) fun x72 => (jn (fun (x74 : List (List Int)) (x76 : List Int) => (F_mvsched_Deps_L2 x11 x1 J20 n33 x74 x76 ((IntKind.i64.wrap (x32 + (1 : Int)))))) (fun J77 => (cond x72 (req (((x31 ++ [x32])).length * 8 ≤ 140737488355328) (J77 x29 ((x31 ++ [x32])))) (J77 x29 x31))))))))) (J20 x29 x31))

def F_mvsched_Deps_L1 (x1 : List TFootprint) (J6 : (List (List Int)) → Option (List (List Int))) : Nat → (List (List Int)) → Int → Option (List (List Int))
  | 0, _, _ => none
  | n12 + 1, x10, x11 => (cond (decide (x11 < (((x1).length : Nat) : Int))) (jn (fun (x17 : List (List Int)) (x19 : List Int) => (req (((x17 ++ [x19])).length * 24 ≤ 140737488355328) (F_mvsched_Deps_L1 x1 J6 n12 ((x17 ++ [x19])) ((IntKind.i64.wrap (x11 + (1 : Int))))))) (fun J20 => (F_mvsched_Deps_L2 x11 x1 J20 ((x11).toNat + 1) x10 (([] : List Int)) ((0 : Int))))) (J6 x10))

def F_mvsched_Deps (x1 : List TFootprint) : Option (List (List Int)) :=
  (jn (fun (x5 : List (List Int)) => (some x5)) (fun J6 => (F_mvsched_Deps_L1 x1 J6 (((((x1).length : Nat) : Int)).toNat + 1) (([] : List (List Int))) ((0 : Int)))))

set_option maxRecDepth 100000 in
theorem W_mvsched_Deps {V : View} (x1 : List TFootprint) {a2 : Option Addr} {k2 : Nat} (h2 : SlAt cTFootprint V a2 k2 x1) {r : List (List Int)} (hF : F_mvsched_Deps x1 = some r) :
    Spec Try.prog 21 [.slice a2 ((x1).length) (k2)] V (fun V' v => ∃ (a82 : Option Addr) (k82 : Nat), v = .slice a82 ((r).length) (k82) ∧ SlAt (cSl (cInt .i64)) V' a82 k82 r) := by
  unfold F_mvsched_Deps at hF
  refine Spec.enter (T := tyT) Try.func21 rfl (by kernel_rfl) rfl rfl rfl ?_
  refine Exec.run tyOk 15 rfl ?_
  refine Exec.row0 23 1 rfl ?_
  have h3 : RowRep (cSl (cInt .i64)) V ([] : List (List Int)) [] := RowRep.nil
  obtain ⟨J6, hJ6, hF⟩ := jn_some hF
  refine Exec.seam (fun L' V' M' => ∃ (x5 : List (List Int)) (a4 : Option Addr) (k4 : Nat) (cs4 : List Value), L' = [(3, .v (.slice a4 ((x5).length) (k4)))] ∧ M' = [.row (.slice a4 ((x5).length) (k4)) cs4 23 1] ∧ RowRep (cSl (cInt .i64)) V' x5 cs4 ∧ J6 x5 = some r) rfl ?_ ?_
  · rintro L' V7 M' ⟨x5, a4, k4, cs4, rfl, rfl, h4, hF⟩
    subst hJ6
    refine Exec.run tyOk 400 rfl ?_
    refine Exec.frz 0 rfl rfl rfl (fun V8 hv8 hd8 hn8 => ?_)
    have hz8 := RowRep.slat h4 hv8 hd8 hn8
    obtain rfl := some_inj hF
    exact Exec.ret tyOk rfl rfl ⟨_, _, rfl, hz8⟩
  · skip
    refine Exec.run tyOk 400 rfl ?_
    refine Exec.loop (fun n12 L' V' M' => ∃ (x10 : List (List Int)) (a9 : Option Addr) (k9 : Nat) (cs9 : List Value) (x11 : Int), L' = [(0, .v (.slice a2 ((x1).length) (k2))), (3, .v (.slice a9 ((x10).length) (k9))), (8, .v (.int .i64 ((((x1).length : Nat) : Int)))), (9, .v (.int .i64 (x11)))] ∧ M' = [.row (.slice a9 ((x10).length) (k9)) cs9 23 1] ∧ RowRep (cSl (cInt .i64)) V' x10 cs9 ∧ SlAt cTFootprint V' a2 k2 x1 ∧ F_mvsched_Deps_L1 x1 J6 n12 x10 x11 = some r) ⟨(((((x1).length : Nat) : Int)).toNat + 1), [(0, .v (.slice a2 ((x1).length) (k2))), (3, .v (.slice none ((([] : List (List Int))).length) (0))), (8, .v (.int .i64 ((((x1).length : Nat) : Int)))), (9, .v (.int .i64 ((0 : Int))))], ⟨rfl, rfl, rfl, rfl, trivial⟩, ([] : List (List Int)), none, 0, [], (0 : Int), rfl, rfl, h3, h2, hF⟩ ?_
    rintro n12 L' V13 M' ⟨x10, a9, k9, cs9, x11, rfl, rfl, h9, h14, hF⟩
    rcases n12 with _ | n12
    · exact absurd hF (by simp [F_mvsched_Deps_L1])
    rw [F_mvsched_Deps_L1] at hF
    refine Exec.run tyOk 400 rfl ?_
    rcases cond_some hF with ⟨hb, hF⟩ | ⟨hb, hF⟩
    · skip
      refine Exec.ifT rfl hb ?_
      refine Exec.run tyOk 18 rfl ?_
      refine Exec.row0 3 1 rfl ?_
      have h15 : RowRep (cInt .i64) V13 ([] : List Int) [] := RowRep.nil
      obtain ⟨J20, hJ20, hF⟩ := jn_some hF
      refine Exec.seam (fun L' V' M' => ∃ (x17 : List (List Int)) (a16 : Option Addr) (k16 : Nat) (cs16 : List Value) (x19 : List Int) (a18 : Option Addr) (k18 : Nat) (cs18 : List Value), L' = [(0, .v (.slice a2 ((x1).length) (k2))), (3, .v (.slice a16 ((x17).length) (k16))), (5, .v (.slice a18 ((x19).length) (k18))), (8, .v (.int .i64 ((((x1).length : Nat) : Int)))), (9, .v (.int .i64 (x11)))] ∧ M' = [.row (.slice a16 ((x17).length) (k16)) cs16 23 1, .row (.slice a18 ((x19).length) (k18)) cs18 3 1] ∧ RowRep (cSl (cInt .i64)) V' x17 cs16 ∧ RowRep (cInt .i64) V' x19 cs18 ∧ SlAt cTFootprint V' a2 k2 x1 ∧ J20 x17 x19 = some r) rfl ?_ ?_
      · rintro L' V21 M' ⟨x17, a16, k16, cs16, x19, a18, k18, cs18, rfl, rfl, h16, h18, h22, hF⟩
        subst hJ20
        refine Exec.run tyOk 400 rfl ?_
        refine Exec.frz 1 rfl rfl rfl (fun V23 hv23 hd23 hn23 => ?_)
        have hz23 := RowRep.slat h18 hv23 hd23 hn23
        have h24 := SlAt.mono h22 hv23
        have h25 := RowRep.mono hv23 h16
        refine Exec.bsl tyOk rfl rfl ?_
        refine Exec.run tyOk 400 rfl ?_
        obtain ⟨q27, hF⟩ := req_some hF
        refine Exec.app tyOk 0 2 (nm := ((x17 ++ [x19])).length) rfl rfl rfl rfl rfl rfl rfl rfl rfl (by simp) (fun _ _ => rfl) rfl q27 (fun a26 k26 => ?_)
        have h26 : RowRep (cSl (cInt .i64)) V23 (x17 ++ [x19]) (cs16 ++ [.slice a18 ((x19).length) (k18)]) := RowRep.app h25 ⟨_, _, rfl, ⟨_, _, rfl, hz23⟩, rfl⟩
        refine Exec.run tyOk 400 rfl ?_
        refine Exec.cut 1 [(0, .v (.slice a2 ((x1).length) (k2))), (3, .v (.slice a26 (((x17 ++ [x19])).length) (k26))), (8, .v (.int .i64 ((((x1).length : Nat) : Int)))), (9, .v (.int .i64 ((IntKind.i64.wrap (x11 + (1 : Int))))))] (M' := [.row (.slice a26 (((x17 ++ [x19])).length) (k26)) ((cs16 ++ [.slice a18 ((x19).length) (k18)])) 23 1]) rfl ⟨rfl, rfl, rfl, rfl, trivial⟩ rfl rfl rfl ?_
        exact Exec.round [(0, .v (.slice a2 ((x1).length) (k2))), (3, .v (.slice a26 (((x17 ++ [x19])).length) (k26))), (8, .v (.int .i64 ((((x1).length : Nat) : Int)))), (9, .v (.int .i64 ((IntKind.i64.wrap (x11 + (1 : Int))))))] ⟨rfl, rfl, rfl, rfl, trivial⟩ ⟨n12, Nat.lt_succ_self _, (x17 ++ [x19]), a26, k26, (cs16 ++ [.slice a18 ((x19).length) (k18)]), (IntKind.i64.wrap (x11 + (1 : Int))), rfl, rfl, h26, h24, hF⟩
      · skip
        refine Exec.run tyOk 400 rfl ?_
        refine Exec.loop (fun n33 L' V' M' => ∃ (x29 : List (List Int)) (a28 : Option Addr) (k28 : Nat) (cs28 : List Value) (x31 : List Int) (a30 : Option Addr) (k30 : Nat) (cs30 : List Value) (x32 : Int), L' = [(0, .v (.slice a2 ((x1).length) (k2))), (3, .v (.slice a28 ((x29).length) (k28))), (4, .v (.int .i64 (x11))), (5, .v (.slice a30 ((x31).length) (k30))), (8, .v (.int .i64 ((((x1).length : Nat) : Int)))), (9, .v (.int .i64 (x11))), (12, .v (.int .i64 (x11))), (13, .v (.int .i64 (x32)))] ∧ M' = [.row (.slice a28 ((x29).length) (k28)) cs28 23 1, .row (.slice a30 ((x31).length) (k30)) cs30 3 1] ∧ RowRep (cSl (cInt .i64)) V' x29 cs28 ∧ RowRep (cInt .i64) V' x31 cs30 ∧ SlAt cTFootprint V' a2 k2 x1 ∧ F_mvsched_Deps_L2 x11 x1 J20 n33 x29 x31 x32 = some r) ⟨((x11).toNat + 1), [(0, .v (.slice a2 ((x1).length) (k2))), (3, .v (.slice a9 ((x10).length) (k9))), (4, .v (.int .i64 (x11))), (5, .v (.slice none ((([] : List Int)).length) (0))), (8, .v (.int .i64 ((((x1).length : Nat) : Int)))), (9, .v (.int .i64 (x11))), (12, .v (.int .i64 (x11))), (13, .v (.int .i64 ((0 : Int))))], ⟨rfl, rfl, rfl, rfl, rfl, rfl, rfl, rfl, trivial⟩, x10, a9, k9, cs9, ([] : List Int), none, 0, [], (0 : Int), rfl, rfl, h9, h15, h14, hF⟩ ?_
        rintro n33 L' V34 M' ⟨x29, a28, k28, cs28, x31, a30, k30, cs30, x32, rfl, rfl, h28, h30, h35, hF⟩
        rcases n33 with _ | n33
        · exact absurd hF (by simp [F_mvsched_Deps_L2])
        rw [F_mvsched_Deps_L2] at hF
        refine Exec.run tyOk 400 rfl ?_
        rcases cond_some hF with ⟨hb, hF⟩ | ⟨hb, hF⟩
        · skip
          refine Exec.ifT rfl hb ?_
          refine Exec.run tyOk 400 rfl ?_
          refine Exec.draws tyOk [(0, true), (1, true), (2, true), (3, true), (5, true), (6, true), (7, true), (8, true), (4, false), (9, false), (10, false)] rfl (by kernel_rfl) ?_
          refine Exec.run tyOk 400 rfl ?_
          obtain ⟨q36, hF⟩ := req_some hF
          obtain ⟨c37, hr37, hd37⟩ := SlAt.get h35 q36
          obtain ⟨a38, k38, a39, k39, rfl, h38, h39⟩ := hr37
          refine Exec.fia tyOk rfl rfl rfl ⟨q36.1, q36.2, hd37.some⟩ ?_
          refine Exec.run tyOk 400 rfl ?_
          refine Exec.fld tyOk (x := .agg ⟨[.bool ((atI x1 x32).All), .slice a38 (((atI x1 x32).Reads).length) (k38), .slice a39 (((atI x1 x32).Writes).length) (k39)]⟩) rfl rfl rfl hd37 rfl rfl ?_
          refine Exec.run tyOk 400 rfl ?_
          obtain ⟨q40, hF⟩ := req_some hF
          obtain ⟨c41, hr41, hd41⟩ := SlAt.get h35 q40
          obtain ⟨a42, k42, a43, k43, rfl, h42, h43⟩ := hr41
          refine Exec.fia tyOk rfl rfl rfl ⟨q40.1, q40.2, hd41.some⟩ ?_
          refine Exec.run tyOk 400 rfl ?_
          refine Exec.fld tyOk (x := .agg ⟨[.bool ((atI x1 x11).All), .slice a42 (((atI x1 x11).Reads).length) (k42), .slice a43 (((atI x1 x11).Writes).length) (k43)]⟩) rfl rfl rfl hd41 rfl rfl ?_
          refine Exec.run tyOk 400 rfl ?_
          obtain ⟨x44, hx44, hF⟩ := bnd_some hF
          refine Exec.call rfl rfl (W_mvsched_effective ((atI x1 x32)) h38 h39 hx44) ?_
          rintro V47 _ hv47 ⟨a45, k45, a46, k46, rfl, h45, h46⟩
          have h48 := SlAt.mono h35 hv47
          have h50 := SlAt.mono h38 hv47
          have h51 := SlAt.mono h39 hv47
          have h53 := SlAt.mono h42 hv47
          have h54 := SlAt.mono h43 hv47
          have h55 := RowRep.mono hv47 h28
          have h56 := RowRep.mono hv47 h30
          refine Exec.run tyOk 400 rfl ?_
          obtain ⟨x57, hx57, hF⟩ := bnd_some hF
          refine Exec.call rfl rfl (W_mvsched_effective ((atI x1 x11)) h53 h54 hx57) ?_
          rintro V60 _ hv60 ⟨a58, k58, a59, k59, rfl, h58, h59⟩
          have h61 := SlAt.mono h48 hv60
          have h63 := SlAt.mono h50 hv60
          have h64 := SlAt.mono h51 hv60
          have h65 := SlAt.mono h45 hv60
          have h66 := SlAt.mono h46 hv60
          have h68 := SlAt.mono h53 hv60
          have h69 := SlAt.mono h54 hv60
          have h70 := RowRep.mono hv60 h55
          have h71 := RowRep.mono hv60 h56
          refine Exec.run tyOk 400 rfl ?_
          obtain ⟨x72, hx72, hF⟩ := bnd_some hF
          refine Exec.callS (.bool (x72)) rfl rfl (W_mvsched_depends x44 x57 h65 h66 h58 h59 hx72) ?_
          refine Exec.run tyOk 400 rfl ?_
          obtain ⟨J77, hJ77, hF⟩ := jn_some hF
          refine Exec.seam (fun L' V' M' => ∃ (x74 : List (List Int)) (a73 : Option Addr) (k73 : Nat) (cs73 : List Value) (x76 : List Int) (a75 : Option Addr) (k75 : Nat) (cs75 : List Value), L' = [(0, .v (.slice a2 ((x1).length) (k2))), (3, .v (.slice a73 ((x74).length) (k73))), (4, .v (.int .i64 (x11))), (5, .v (.slice a75 ((x76).length) (k75))), (8, .v (.int .i64 ((((x1).length : Nat) : Int)))), (9, .v (.int .i64 (x11))), (12, .v (.int .i64 (x11))), (13, .v (.int .i64 (x32)))] ∧ M' = [.row (.slice a73 ((x74).length) (k73)) cs73 23 1, .row (.slice a75 ((x76).length) (k75)) cs75 3 1] ∧ RowRep (cSl (cInt .i64)) V' x74 cs73 ∧ RowRep (cInt .i64) V' x76 cs75 ∧ SlAt cTFootprint V' a2 k2 x1 ∧ J77 x74 x76 = some r) rfl ?_ ?_
          · rintro L' V78 M' ⟨x74, a73, k73, cs73, x76, a75, k75, cs75, rfl, rfl, h73, h75, h79, hF⟩
            subst hJ77
            refine Exec.run tyOk 400 rfl ?_
            exact Exec.round [(0, .v (.slice a2 ((x1).length) (k2))), (3, .v (.slice a73 ((x74).length) (k73))), (4, .v (.int .i64 (x11))), (5, .v (.slice a75 ((x76).length) (k75))), (8, .v (.int .i64 ((((x1).length : Nat) : Int)))), (9, .v (.int .i64 (x11))), (12, .v (.int .i64 (x11))), (13, .v (.int .i64 ((IntKind.i64.wrap (x32 + (1 : Int))))))] ⟨rfl, rfl, rfl, rfl, rfl, rfl, rfl, rfl, trivial⟩ ⟨n33, Nat.lt_succ_self _, x74, a73, k73, cs73, x76, a75, k75, cs75, (IntKind.i64.wrap (x32 + (1 : Int))), rfl, rfl, h73, h75, h79, hF⟩
          · skip
            refine Exec.run tyOk 400 rfl ?_
            rcases cond_some hF with ⟨hb, hF⟩ | ⟨hb, hF⟩
            · skip
              refine Exec.ifT rfl hb ?_
              refine Exec.run tyOk 400 rfl ?_
              refine Exec.bsl tyOk rfl rfl ?_
              refine Exec.run tyOk 400 rfl ?_
              obtain ⟨q81, hF⟩ := req_some hF
              refine Exec.app tyOk 1 2 (nm := ((x31 ++ [x32])).length) rfl rfl rfl rfl rfl rfl rfl rfl rfl (by simp) (fun _ _ => rfl) rfl q81 (fun a80 k80 => ?_)
              have h80 : RowRep (cInt .i64) V60 (x31 ++ [x32]) (cs30 ++ [.int .i64 (x32)]) := RowRep.app h71 ⟨_, _, rfl, rfl, rfl⟩
              refine Exec.run tyOk 400 rfl ?_
              refine Exec.cut 2 [(0, .v (.slice a2 ((x1).length) (k2))), (3, .v (.slice a28 ((x29).length) (k28))), (4, .v (.int .i64 (x11))), (5, .v (.slice a80 (((x31 ++ [x32])).length) (k80))), (8, .v (.int .i64 ((((x1).length : Nat) : Int)))), (9, .v (.int .i64 (x11))), (12, .v (.int .i64 (x11))), (13, .v (.int .i64 (x32)))] (M' := [.row (.slice a28 ((x29).length) (k28)) cs28 23 1, .row (.slice a80 (((x31 ++ [x32])).length) (k80)) ((cs30 ++ [.int .i64 (x32)])) 3 1]) rfl ⟨rfl, rfl, rfl, rfl, rfl, rfl, rfl, rfl, trivial⟩ rfl rfl rfl ?_
              exact Exec.round [(0, .v (.slice a2 ((x1).length) (k2))), (3, .v (.slice a28 ((x29).length) (k28))), (4, .v (.int .i64 (x11))), (5, .v (.slice a80 (((x31 ++ [x32])).length) (k80))), (8, .v (.int .i64 ((((x1).length : Nat) : Int)))), (9, .v (.int .i64 (x11))), (12, .v (.int .i64 (x11))), (13, .v (.int .i64 (x32)))] ⟨rfl, rfl, rfl, rfl, rfl, rfl, rfl, rfl, trivial⟩ ⟨x29, a28, k28, cs28, (x31 ++ [x32]), a80, k80, (cs30 ++ [.int .i64 (x32)]), rfl, rfl, h70, h80, h61, hF⟩
            · skip
              refine Exec.ifF rfl hb ?_
              refine Exec.run tyOk 400 rfl ?_
              exact Exec.round [(0, .v (.slice a2 ((x1).length) (k2))), (3, .v (.slice a28 ((x29).length) (k28))), (4, .v (.int .i64 (x11))), (5, .v (.slice a30 ((x31).length) (k30))), (8, .v (.int .i64 ((((x1).length : Nat) : Int)))), (9, .v (.int .i64 (x11))), (12, .v (.int .i64 (x11))), (13, .v (.int .i64 (x32)))] ⟨rfl, rfl, rfl, rfl, rfl, rfl, rfl, rfl, trivial⟩ ⟨x29, a28, k28, cs28, x31, a30, k30, cs30, rfl, rfl, h70, h71, h61, hF⟩
        · skip
          refine Exec.ifF rfl hb ?_
          refine Exec.run tyOk 400 rfl ?_
          exact Exec.round [(0, .v (.slice a2 ((x1).length) (k2))), (3, .v (.slice a28 ((x29).length) (k28))), (5, .v (.slice a30 ((x31).length) (k30))), (8, .v (.int .i64 ((((x1).length : Nat) : Int)))), (9, .v (.int .i64 (x11)))] ⟨rfl, rfl, rfl, rfl, rfl, trivial⟩ ⟨x29, a28, k28, cs28, x31, a30, k30, cs30, rfl, rfl, h28, h30, h35, hF⟩
    · skip
      refine Exec.ifF rfl hb ?_
      refine Exec.run tyOk 400 rfl ?_
      exact Exec.round [(3, .v (.slice a9 ((x10).length) (k9)))] ⟨rfl, trivial⟩ ⟨x10, a9, k9, cs9, rfl, rfl, h9, hF⟩

def F_timeline_Version (x1 : List TFootprint) (x3 : List Int) : Option (List TSpan × Int) :=
  (bnd (F_timeline_validCosts ((((x1).length : Nat) : Int)) x3) fun x5 => (cond (!x5) (some (([] : List TSpan), (1 : Int))) (bnd (F_mvsched_Deps x1) fun x6 => (bnd (F_timeline_earliest x6 x3) fun x11 => (some (x11, (0 : Int)))))))

set_option maxRecDepth 100000 in
theorem W_timeline_Version {V : View} (x1 : List TFootprint) (x3 : List Int) {a2 : Option Addr} {k2 : Nat} {a4 : Option Addr} {k4 : Nat} (h2 : SlAt cTFootprint V a2 k2 x1) (h4 : SlAt (cInt .i64) V a4 k4 x3) {r : List TSpan × Int} (hF : F_timeline_Version x1 x3 = some r) :
    Spec Try.prog 12 [.slice a2 ((x1).length) (k2), .slice a4 ((x3).length) (k4)] V (fun V' v => ∃ (a17 : Option Addr) (k17 : Nat), v = .tuple ⟨[.slice a17 ((r.1).length) (k17), .int .i64 (r.2)]⟩ ∧ SlAt cTSpan V' a17 k17 r.1) := by
  unfold F_timeline_Version at hF
  refine Spec.enter (T := tyT) Try.func12 rfl (by kernel_rfl) rfl rfl rfl ?_
  refine Exec.run tyOk 400 rfl ?_
  obtain ⟨x5, hx5, hF⟩ := bnd_some hF
  refine Exec.callS (.bool (x5)) rfl rfl (W_timeline_validCosts ((((x1).length : Nat) : Int)) x3 h4 hx5) ?_
  refine Exec.run tyOk 400 rfl ?_
  rcases cond_some hF with ⟨hb, hF⟩ | ⟨hb, hF⟩
  · skip
    refine Exec.ifT rfl hb ?_
    refine Exec.run tyOk 400 rfl ?_
    obtain rfl := some_inj hF
    exact Exec.ret tyOk rfl rfl ⟨_, _, rfl, SlAt.nil⟩
  · skip
    refine Exec.ifF rfl hb ?_
    refine Exec.run tyOk 400 rfl ?_
    obtain ⟨x6, hx6, hF⟩ := bnd_some hF
    refine Exec.call rfl rfl (W_mvsched_Deps x1 h2 hx6) ?_
    rintro V8 _ hv8 ⟨a7, k7, rfl, h7⟩
    have h9 := SlAt.mono h2 hv8
    have h10 := SlAt.mono h4 hv8
    refine Exec.run tyOk 400 rfl ?_
    obtain ⟨x11, hx11, hF⟩ := bnd_some hF
    refine Exec.call rfl rfl (W_timeline_earliest x6 x3 h7 h10 hx11) ?_
    rintro V13 _ hv13 ⟨a12, k12, rfl, h12⟩
    have h14 := SlAt.mono h9 hv13
    have h15 := SlAt.mono h10 hv13
    have h16 := SlAt.mono h7 hv13
    refine Exec.run tyOk 400 rfl ?_
    obtain rfl := some_inj hF
    exact Exec.ret tyOk rfl rfl ⟨_, _, rfl, h12⟩

def F_clockworklaw28_lives  : Option Bool :=
  (bnd (F_timeline_Lock (([(⟨false, ([] : List Str), ([([120] : Str)] : List Str)⟩ : TFootprint), (⟨false, ([([121] : Str)] : List Str), ([([120] : Str)] : List Str)⟩ : TFootprint), (⟨false, ([] : List Str), ([([121] : Str)] : List Str)⟩ : TFootprint)] : List TFootprint)) (([(5 : Int), (3 : Int), (2 : Int)] : List Int))) fun x22 => (bnd (F_timeline_Version (([(⟨false, ([] : List Str), ([([120] : Str)] : List Str)⟩ : TFootprint), (⟨false, ([([121] : Str)] : List Str), ([([120] : Str)] : List Str)⟩ : TFootprint), (⟨false, ([] : List Str), ([([121] : Str)] : List Str)⟩ : TFootprint)] : List TFootprint)) (([(5 : Int), (3 : Int), (2 : Int)] : List Int))) fun x39 => (bnd (F_timeline_Limited (([([] : List Int), ([] : List Int), ([] : List Int)] : List (List Int))) (([(3 : Int), (2 : Int), (2 : Int)] : List Int)) ((2 : Int))) fun x71 => (req (((((((x22.1).length : Nat) : Int) == (3 : Int))) == true) = true → 0 ≤ (2 : Int) ∧ (2 : Int) < ((x22.1).length : Int)) (req ((((((((((x22.1).length : Nat) : Int) == (3 : Int)) && (((cond ((((((x22.1).length : Nat) : Int) == (3 : Int))) == true) (atI x22.1 ((2 : Int))) default).Txn == (2 : Int)) && (((cond ((((((x22.1).length : Nat) : Int) == (3 : Int))) == true) (atI x22.1 ((2 : Int))) default).Worker == (2 : Int)) && (((cond ((((((x22.1).length : Nat) : Int) == (3 : Int))) == true) (atI x22.1 ((2 : Int))) default).Start == (8 : Int)) && (((cond ((((((x22.1).length : Nat) : Int) == (3 : Int))) == true) (atI x22.1 ((2 : Int))) default).End == (10 : Int)) && true))))) && (x22.2 == (0 : Int))) && ((((x39.1).length : Nat) : Int) == (3 : Int)))) == true) = true → 0 ≤ (2 : Int) ∧ (2 : Int) < ((x39.1).length : Int)) (req (((((((((((((x22.1).length : Nat) : Int) == (3 : Int)) && (((cond ((((((x22.1).length : Nat) : Int) == (3 : Int))) == true) (atI x22.1 ((2 : Int))) default).Txn == (2 : Int)) && (((cond ((((((x22.1).length : Nat) : Int) == (3 : Int))) == true) (atI x22.1 ((2 : Int))) default).Worker == (2 : Int)) && (((cond ((((((x22.1).length : Nat) : Int) == (3 : Int))) == true) (atI x22.1 ((2 : Int))) default).Start == (8 : Int)) && (((cond ((((((x22.1).length : Nat) : Int) == (3 : Int))) == true) (atI x22.1 ((2 : Int))) default).End == (10 : Int)) && true))))) && (x22.2 == (0 : Int))) && ((((x39.1).length : Nat) : Int) == (3 : Int))) && (((cond (((((((((x22.1).length : Nat) : Int) == (3 : Int)) && (((cond ((((((x22.1).length : Nat) : Int) == (3 : Int))) == true) (atI x22.1 ((2 : Int))) default).Txn == (2 : Int)) && (((cond ((((((x22.1).length : Nat) : Int) == (3 : Int))) == true) (atI x22.1 ((2 : Int))) default).Worker == (2 : Int)) && (((cond ((((((x22.1).length : Nat) : Int) == (3 : Int))) == true) (atI x22.1 ((2 : Int))) default).Start == (8 : Int)) && (((cond ((((((x22.1).length : Nat) : Int) == (3 : Int))) == true) (atI x22.1 ((2 : Int))) default).End == (10 : Int)) && true))))) && (x22.2 == (0 : Int))) && ((((x39.1).length : Nat) : Int) == (3 : Int)))) == true) (atI x39.1 ((2 : Int))) default).Txn == (2 : Int)) && (((cond (((((((((x22.1).length : Nat) : Int) == (3 : Int)) && (((cond ((((((x22.1).length : Nat) : Int) == (3 : Int))) == true) (atI x22.1 ((2 : Int))) default).Txn == (2 : Int)) && (((cond ((((((x22.1).length : Nat) : Int) == (3 : Int))) == true) (atI x22.1 ((2 : Int))) default).Worker == (2 : Int)) && (((cond ((((((x22.1).length : Nat) : Int) == (3 : Int))) == true) (atI x22.1 ((2 : Int))) default).Start == (8 : Int)) && (((cond ((((((x22.1).length : Nat) : Int) == (3 : Int))) == true) (atI x22.1 ((2 : Int))) default).End == (10 : Int)) && true))))) && (x22.2 == (0 : Int))) && ((((x39.1).length : Nat) : Int) == (3 : Int)))) == true) (atI x39.1 ((2 : Int))) default).Worker == (2 : Int)) && (((cond (((((((((x22.1).length : Nat) : Int) == (3 : Int)) && (((cond ((((((x22.1).length : Nat) : Int) == (3 : Int))) == true) (atI x22.1 ((2 : Int))) default).Txn == (2 : Int)) && (((cond ((((((x22.1).length : Nat) : Int) == (3 : Int))) == true) (atI x22.1 ((2 : Int))) default).Worker == (2 : Int)) && (((cond ((((((x22.1).length : Nat) : Int) == (3 : Int))) == true) (atI x22.1 ((2 : Int))) default).Start == (8 : Int)) && (((cond ((((((x22.1).length : Nat) : Int) == (3 : Int))) == true) (atI x22.1 ((2 : Int))) default).End == (10 : Int)) && true))))) && (x22.2 == (0 : Int))) && ((((x39.1).length : Nat) : Int) == (3 : Int)))) == true) (atI x39.1 ((2 : Int))) default).Start == (0 : Int)) && (((cond (((((((((x22.1).length : Nat) : Int) == (3 : Int)) && (((cond ((((((x22.1).length : Nat) : Int) == (3 : Int))) == true) (atI x22.1 ((2 : Int))) default).Txn == (2 : Int)) && (((cond ((((((x22.1).length : Nat) : Int) == (3 : Int))) == true) (atI x22.1 ((2 : Int))) default).Worker == (2 : Int)) && (((cond ((((((x22.1).length : Nat) : Int) == (3 : Int))) == true) (atI x22.1 ((2 : Int))) default).Start == (8 : Int)) && (((cond ((((((x22.1).length : Nat) : Int) == (3 : Int))) == true) (atI x22.1 ((2 : Int))) default).End == (10 : Int)) && true))))) && (x22.2 == (0 : Int))) && ((((x39.1).length : Nat) : Int) == (3 : Int)))) == true) (atI x39.1 ((2 : Int))) default).End == (2 : Int)) && true))))) && (x39.2 == (0 : Int))) && ((((x71.1).length : Nat) : Int) == (3 : Int)))) == true) = true → 0 ≤ (2 : Int) ∧ (2 : Int) < ((x71.1).length : Int)) (bnd (gcall ((((((((((((((x22.1).length : Nat) : Int) == (3 : Int)) && (((cond ((((((x22.1).length : Nat) : Int) == (3 : Int))) == true) (atI x22.1 ((2 : Int))) default).Txn == (2 : Int)) && (((cond ((((((x22.1).length : Nat) : Int) == (3 : Int))) == true) (atI x22.1 ((2 : Int))) default).Worker == (2 : Int)) && (((cond ((((((x22.1).length : Nat) : Int) == (3 : Int))) == true) (atI x22.1 ((2 : Int))) default).Start == (8 : Int)) && (((cond ((((((x22.1).length : Nat) : Int) == (3 : Int))) == true) (atI x22.1 ((2 : Int))) default).End == (10 : Int)) && true))))) && (x22.2 == (0 : Int))) && ((((x39.1).length : Nat) : Int) == (3 : Int))) && (((cond (((((((((x22.1).length : Nat) : Int) == (3 : Int)) && (((cond ((((((x22.1).length : Nat) : Int) == (3 : Int))) == true) (atI x22.1 ((2 : Int))) default).Txn == (2 : Int)) && (((cond ((((((x22.1).length : Nat) : Int) == (3 : Int))) == true) (atI x22.1 ((2 : Int))) default).Worker == (2 : Int)) && (((cond ((((((x22.1).length : Nat) : Int) == (3 : Int))) == true) (atI x22.1 ((2 : Int))) default).Start == (8 : Int)) && (((cond ((((((x22.1).length : Nat) : Int) == (3 : Int))) == true) (atI x22.1 ((2 : Int))) default).End == (10 : Int)) && true))))) && (x22.2 == (0 : Int))) && ((((x39.1).length : Nat) : Int) == (3 : Int)))) == true) (atI x39.1 ((2 : Int))) default).Txn == (2 : Int)) && (((cond (((((((((x22.1).length : Nat) : Int) == (3 : Int)) && (((cond ((((((x22.1).length : Nat) : Int) == (3 : Int))) == true) (atI x22.1 ((2 : Int))) default).Txn == (2 : Int)) && (((cond ((((((x22.1).length : Nat) : Int) == (3 : Int))) == true) (atI x22.1 ((2 : Int))) default).Worker == (2 : Int)) && (((cond ((((((x22.1).length : Nat) : Int) == (3 : Int))) == true) (atI x22.1 ((2 : Int))) default).Start == (8 : Int)) && (((cond ((((((x22.1).length : Nat) : Int) == (3 : Int))) == true) (atI x22.1 ((2 : Int))) default).End == (10 : Int)) && true))))) && (x22.2 == (0 : Int))) && ((((x39.1).length : Nat) : Int) == (3 : Int)))) == true) (atI x39.1 ((2 : Int))) default).Worker == (2 : Int)) && (((cond (((((((((x22.1).length : Nat) : Int) == (3 : Int)) && (((cond ((((((x22.1).length : Nat) : Int) == (3 : Int))) == true) (atI x22.1 ((2 : Int))) default).Txn == (2 : Int)) && (((cond ((((((x22.1).length : Nat) : Int) == (3 : Int))) == true) (atI x22.1 ((2 : Int))) default).Worker == (2 : Int)) && (((cond ((((((x22.1).length : Nat) : Int) == (3 : Int))) == true) (atI x22.1 ((2 : Int))) default).Start == (8 : Int)) && (((cond ((((((x22.1).length : Nat) : Int) == (3 : Int))) == true) (atI x22.1 ((2 : Int))) default).End == (10 : Int)) && true))))) && (x22.2 == (0 : Int))) && ((((x39.1).length : Nat) : Int) == (3 : Int)))) == true) (atI x39.1 ((2 : Int))) default).Start == (0 : Int)) && (((cond (((((((((x22.1).length : Nat) : Int) == (3 : Int)) && (((cond ((((((x22.1).length : Nat) : Int) == (3 : Int))) == true) (atI x22.1 ((2 : Int))) default).Txn == (2 : Int)) && (((cond ((((((x22.1).length : Nat) : Int) == (3 : Int))) == true) (atI x22.1 ((2 : Int))) default).Worker == (2 : Int)) && (((cond ((((((x22.1).length : Nat) : Int) == (3 : Int))) == true) (atI x22.1 ((2 : Int))) default).Start == (8 : Int)) && (((cond ((((((x22.1).length : Nat) : Int) == (3 : Int))) == true) (atI x22.1 ((2 : Int))) default).End == (10 : Int)) && true))))) && (x22.2 == (0 : Int))) && ((((x39.1).length : Nat) : Int) == (3 : Int)))) == true) (atI x39.1 ((2 : Int))) default).End == (2 : Int)) && true))))) && (x39.2 == (0 : Int))) && ((((x71.1).length : Nat) : Int) == (3 : Int))) && (((cond ((((((((((((x22.1).length : Nat) : Int) == (3 : Int)) && (((cond ((((((x22.1).length : Nat) : Int) == (3 : Int))) == true) (atI x22.1 ((2 : Int))) default).Txn == (2 : Int)) && (((cond ((((((x22.1).length : Nat) : Int) == (3 : Int))) == true) (atI x22.1 ((2 : Int))) default).Worker == (2 : Int)) && (((cond ((((((x22.1).length : Nat) : Int) == (3 : Int))) == true) (atI x22.1 ((2 : Int))) default).Start == (8 : Int)) && (((cond ((((((x22.1).length : Nat) : Int) == (3 : Int))) == true) (atI x22.1 ((2 : Int))) default).End == (10 : Int)) && true))))) && (x22.2 == (0 : Int))) && ((((x39.1).length : Nat) : Int) == (3 : Int))) && (((cond (((((((((x22.1).length : Nat) : Int) == (3 : Int)) && (((cond ((((((x22.1).length : Nat) : Int) == (3 : Int))) == true) (atI x22.1 ((2 : Int))) default).Txn == (2 : Int)) && (((cond ((((((x22.1).length : Nat) : Int) == (3 : Int))) == true) (atI x22.1 ((2 : Int))) default).Worker == (2 : Int)) && (((cond ((((((x22.1).length : Nat) : Int) == (3 : Int))) == true) (atI x22.1 ((2 : Int))) default).Start == (8 : Int)) && (((cond ((((((x22.1).length : Nat) : Int) == (3 : Int))) == true) (atI x22.1 ((2 : Int))) default).End == (10 : Int)) && true))))) && (x22.2 == (0 : Int))) && ((((x39.1).length : Nat) : Int) == (3 : Int)))) == true) (atI x39.1 ((2 : Int))) default).Txn == (2 : Int)) && (((cond (((((((((x22.1).length : Nat) : Int) == (3 : Int)) && (((cond ((((((x22.1).length : Nat) : Int) == (3 : Int))) == true) (atI x22.1 ((2 : Int))) default).Txn == (2 : Int)) && (((cond ((((((x22.1).length : Nat) : Int) == (3 : Int))) == true) (atI x22.1 ((2 : Int))) default).Worker == (2 : Int)) && (((cond ((((((x22.1).length : Nat) : Int) == (3 : Int))) == true) (atI x22.1 ((2 : Int))) default).Start == (8 : Int)) && (((cond ((((((x22.1).length : Nat) : Int) == (3 : Int))) == true) (atI x22.1 ((2 : Int))) default).End == (10 : Int)) && true))))) && (x22.2 == (0 : Int))) && ((((x39.1).length : Nat) : Int) == (3 : Int)))) == true) (atI x39.1 ((2 : Int))) default).Worker == (2 : Int)) && (((cond (((((((((x22.1).length : Nat) : Int) == (3 : Int)) && (((cond ((((((x22.1).length : Nat) : Int) == (3 : Int))) == true) (atI x22.1 ((2 : Int))) default).Txn == (2 : Int)) && (((cond ((((((x22.1).length : Nat) : Int) == (3 : Int))) == true) (atI x22.1 ((2 : Int))) default).Worker == (2 : Int)) && (((cond ((((((x22.1).length : Nat) : Int) == (3 : Int))) == true) (atI x22.1 ((2 : Int))) default).Start == (8 : Int)) && (((cond ((((((x22.1).length : Nat) : Int) == (3 : Int))) == true) (atI x22.1 ((2 : Int))) default).End == (10 : Int)) && true))))) && (x22.2 == (0 : Int))) && ((((x39.1).length : Nat) : Int) == (3 : Int)))) == true) (atI x39.1 ((2 : Int))) default).Start == (0 : Int)) && (((cond (((((((((x22.1).length : Nat) : Int) == (3 : Int)) && (((cond ((((((x22.1).length : Nat) : Int) == (3 : Int))) == true) (atI x22.1 ((2 : Int))) default).Txn == (2 : Int)) && (((cond ((((((x22.1).length : Nat) : Int) == (3 : Int))) == true) (atI x22.1 ((2 : Int))) default).Worker == (2 : Int)) && (((cond ((((((x22.1).length : Nat) : Int) == (3 : Int))) == true) (atI x22.1 ((2 : Int))) default).Start == (8 : Int)) && (((cond ((((((x22.1).length : Nat) : Int) == (3 : Int))) == true) (atI x22.1 ((2 : Int))) default).End == (10 : Int)) && true))))) && (x22.2 == (0 : Int))) && ((((x39.1).length : Nat) : Int) == (3 : Int)))) == true) (atI x39.1 ((2 : Int))) default).End == (2 : Int)) && true))))) && (x39.2 == (0 : Int))) && ((((x71.1).length : Nat) : Int) == (3 : Int)))) == true) (atI x71.1 ((2 : Int))) default).Txn == (2 : Int)) && (((cond ((((((((((((x22.1).length : Nat) : Int) == (3 : Int)) && (((cond ((((((x22.1).length : Nat) : Int) == (3 : Int))) == true) (atI x22.1 ((2 : Int))) default).Txn == (2 : Int)) && (((cond ((((((x22.1).length : Nat) : Int) == (3 : Int))) == true) (atI x22.1 ((2 : Int))) default).Worker == (2 : Int)) && (((cond ((((((x22.1).length : Nat) : Int) == (3 : Int))) == true) (atI x22.1 ((2 : Int))) default).Start == (8 : Int)) && (((cond ((((((x22.1).length : Nat) : Int) == (3 : Int))) == true) (atI x22.1 ((2 : Int))) default).End == (10 : Int)) && true))))) && (x22.2 == (0 : Int))) && ((((x39.1).length : Nat) : Int) == (3 : Int))) && (((cond (((((((((x22.1).length : Nat) : Int) == (3 : Int)) && (((cond ((((((x22.1).length : Nat) : Int) == (3 : Int))) == true) (atI x22.1 ((2 : Int))) default).Txn == (2 : Int)) && (((cond ((((((x22.1).length : Nat) : Int) == (3 : Int))) == true) (atI x22.1 ((2 : Int))) default).Worker == (2 : Int)) && (((cond ((((((x22.1).length : Nat) : Int) == (3 : Int))) == true) (atI x22.1 ((2 : Int))) default).Start == (8 : Int)) && (((cond ((((((x22.1).length : Nat) : Int) == (3 : Int))) == true) (atI x22.1 ((2 : Int))) default).End == (10 : Int)) && true))))) && (x22.2 == (0 : Int))) && ((((x39.1).length : Nat) : Int) == (3 : Int)))) == true) (atI x39.1 ((2 : Int))) default).Txn == (2 : Int)) && (((cond (((((((((x22.1).length : Nat) : Int) == (3 : Int)) && (((cond ((((((x22.1).length : Nat) : Int) == (3 : Int))) == true) (atI x22.1 ((2 : Int))) default).Txn == (2 : Int)) && (((cond ((((((x22.1).length : Nat) : Int) == (3 : Int))) == true) (atI x22.1 ((2 : Int))) default).Worker == (2 : Int)) && (((cond ((((((x22.1).length : Nat) : Int) == (3 : Int))) == true) (atI x22.1 ((2 : Int))) default).Start == (8 : Int)) && (((cond ((((((x22.1).length : Nat) : Int) == (3 : Int))) == true) (atI x22.1 ((2 : Int))) default).End == (10 : Int)) && true))))) && (x22.2 == (0 : Int))) && ((((x39.1).length : Nat) : Int) == (3 : Int)))) == true) (atI x39.1 ((2 : Int))) default).Worker == (2 : Int)) && (((cond (((((((((x22.1).length : Nat) : Int) == (3 : Int)) && (((cond ((((((x22.1).length : Nat) : Int) == (3 : Int))) == true) (atI x22.1 ((2 : Int))) default).Txn == (2 : Int)) && (((cond ((((((x22.1).length : Nat) : Int) == (3 : Int))) == true) (atI x22.1 ((2 : Int))) default).Worker == (2 : Int)) && (((cond ((((((x22.1).length : Nat) : Int) == (3 : Int))) == true) (atI x22.1 ((2 : Int))) default).Start == (8 : Int)) && (((cond ((((((x22.1).length : Nat) : Int) == (3 : Int))) == true) (atI x22.1 ((2 : Int))) default).End == (10 : Int)) && true))))) && (x22.2 == (0 : Int))) && ((((x39.1).length : Nat) : Int) == (3 : Int)))) == true) (atI x39.1 ((2 : Int))) default).Start == (0 : Int)) && (((cond (((((((((x22.1).length : Nat) : Int) == (3 : Int)) && (((cond ((((((x22.1).length : Nat) : Int) == (3 : Int))) == true) (atI x22.1 ((2 : Int))) default).Txn == (2 : Int)) && (((cond ((((((x22.1).length : Nat) : Int) == (3 : Int))) == true) (atI x22.1 ((2 : Int))) default).Worker == (2 : Int)) && (((cond ((((((x22.1).length : Nat) : Int) == (3 : Int))) == true) (atI x22.1 ((2 : Int))) default).Start == (8 : Int)) && (((cond ((((((x22.1).length : Nat) : Int) == (3 : Int))) == true) (atI x22.1 ((2 : Int))) default).End == (10 : Int)) && true))))) && (x22.2 == (0 : Int))) && ((((x39.1).length : Nat) : Int) == (3 : Int)))) == true) (atI x39.1 ((2 : Int))) default).End == (2 : Int)) && true))))) && (x39.2 == (0 : Int))) && ((((x71.1).length : Nat) : Int) == (3 : Int)))) == true) (atI x71.1 ((2 : Int))) default).Worker == (1 : Int)) && (((cond ((((((((((((x22.1).length : Nat) : Int) == (3 : Int)) && (((cond ((((((x22.1).length : Nat) : Int) == (3 : Int))) == true) (atI x22.1 ((2 : Int))) default).Txn == (2 : Int)) && (((cond ((((((x22.1).length : Nat) : Int) == (3 : Int))) == true) (atI x22.1 ((2 : Int))) default).Worker == (2 : Int)) && (((cond ((((((x22.1).length : Nat) : Int) == (3 : Int))) == true) (atI x22.1 ((2 : Int))) default).Start == (8 : Int)) && (((cond ((((((x22.1).length : Nat) : Int) == (3 : Int))) == true) (atI x22.1 ((2 : Int))) default).End == (10 : Int)) && true))))) && (x22.2 == (0 : Int))) && ((((x39.1).length : Nat) : Int) == (3 : Int))) && (((cond (((((((((x22.1).length : Nat) : Int) == (3 : Int)) && (((cond ((((((x22.1).length : Nat) : Int) == (3 : Int))) == true) (atI x22.1 ((2 : Int))) default).Txn == (2 : Int)) && (((cond ((((((x22.1).length : Nat) : Int) == (3 : Int))) == true) (atI x22.1 ((2 : Int))) default).Worker == (2 : Int)) && (((cond ((((((x22.1).length : Nat) : Int) == (3 : Int))) == true) (atI x22.1 ((2 : Int))) default).Start == (8 : Int)) && (((cond ((((((x22.1).length : Nat) : Int) == (3 : Int))) == true) (atI x22.1 ((2 : Int))) default).End == (10 : Int)) && true))))) && (x22.2 == (0 : Int))) && ((((x39.1).length : Nat) : Int) == (3 : Int)))) == true) (atI x39.1 ((2 : Int))) default).Txn == (2 : Int)) && (((cond (((((((((x22.1).length : Nat) : Int) == (3 : Int)) && (((cond ((((((x22.1).length : Nat) : Int) == (3 : Int))) == true) (atI x22.1 ((2 : Int))) default).Txn == (2 : Int)) && (((cond ((((((x22.1).length : Nat) : Int) == (3 : Int))) == true) (atI x22.1 ((2 : Int))) default).Worker == (2 : Int)) && (((cond ((((((x22.1).length : Nat) : Int) == (3 : Int))) == true) (atI x22.1 ((2 : Int))) default).Start == (8 : Int)) && (((cond ((((((x22.1).length : Nat) : Int) == (3 : Int))) == true) (atI x22.1 ((2 : Int))) default).End == (10 : Int)) && true))))) && (x22.2 == (0 : Int))) && ((((x39.1).length : Nat) : Int) == (3 : Int)))) == true) (atI x39.1 ((2 : Int))) default).Worker == (2 : Int)) && (((cond (((((((((x22.1).length : Nat) : Int) == (3 : Int)) && (((cond ((((((x22.1).length : Nat) : Int) == (3 : Int))) == true) (atI x22.1 ((2 : Int))) default).Txn == (2 : Int)) && (((cond ((((((x22.1).length : Nat) : Int) == (3 : Int))) == true) (atI x22.1 ((2 : Int))) default).Worker == (2 : Int)) && (((cond ((((((x22.1).length : Nat) : Int) == (3 : Int))) == true) (atI x22.1 ((2 : Int))) default).Start == (8 : Int)) && (((cond ((((((x22.1).length : Nat) : Int) == (3 : Int))) == true) (atI x22.1 ((2 : Int))) default).End == (10 : Int)) && true))))) && (x22.2 == (0 : Int))) && ((((x39.1).length : Nat) : Int) == (3 : Int)))) == true) (atI x39.1 ((2 : Int))) default).Start == (0 : Int)) && (((cond (((((((((x22.1).length : Nat) : Int) == (3 : Int)) && (((cond ((((((x22.1).length : Nat) : Int) == (3 : Int))) == true) (atI x22.1 ((2 : Int))) default).Txn == (2 : Int)) && (((cond ((((((x22.1).length : Nat) : Int) == (3 : Int))) == true) (atI x22.1 ((2 : Int))) default).Worker == (2 : Int)) && (((cond ((((((x22.1).length : Nat) : Int) == (3 : Int))) == true) (atI x22.1 ((2 : Int))) default).Start == (8 : Int)) && (((cond ((((((x22.1).length : Nat) : Int) == (3 : Int))) == true) (atI x22.1 ((2 : Int))) default).End == (10 : Int)) && true))))) && (x22.2 == (0 : Int))) && ((((x39.1).length : Nat) : Int) == (3 : Int)))) == true) (atI x39.1 ((2 : Int))) default).End == (2 : Int)) && true))))) && (x39.2 == (0 : Int))) && ((((x71.1).length : Nat) : Int) == (3 : Int)))) == true) (atI x71.1 ((2 : Int))) default).Start == (2 : Int)) && (((cond ((((((((((((x22.1).length : Nat) : Int) == (3 : Int)) && (((cond ((((((x22.1).length : Nat) : Int) == (3 : Int))) == true) (atI x22.1 ((2 : Int))) default).Txn == (2 : Int)) && (((cond ((((((x22.1).length : Nat) : Int) == (3 : Int))) == true) (atI x22.1 ((2 : Int))) default).Worker == (2 : Int)) && (((cond ((((((x22.1).length : Nat) : Int) == (3 : Int))) == true) (atI x22.1 ((2 : Int))) default).Start == (8 : Int)) && (((cond ((((((x22.1).length : Nat) : Int) == (3 : Int))) == true) (atI x22.1 ((2 : Int))) default).End == (10 : Int)) && true))))) && (x22.2 == (0 : Int))) && ((((x39.1).length : Nat) : Int) == (3 : Int))) && (((cond (((((((((x22.1).length : Nat) : Int) == (3 : Int)) && (((cond ((((((x22.1).length : Nat) : Int) == (3 : Int))) == true) (atI x22.1 ((2 : Int))) default).Txn == (2 : Int)) && (((cond ((((((x22.1).length : Nat) : Int) == (3 : Int))) == true) (atI x22.1 ((2 : Int))) default).Worker == (2 : Int)) && (((cond ((((((x22.1).length : Nat) : Int) == (3 : Int))) == true) (atI x22.1 ((2 : Int))) default).Start == (8 : Int)) && (((cond ((((((x22.1).length : Nat) : Int) == (3 : Int))) == true) (atI x22.1 ((2 : Int))) default).End == (10 : Int)) && true))))) && (x22.2 == (0 : Int))) && ((((x39.1).length : Nat) : Int) == (3 : Int)))) == true) (atI x39.1 ((2 : Int))) default).Txn == (2 : Int)) && (((cond (((((((((x22.1).length : Nat) : Int) == (3 : Int)) && (((cond ((((((x22.1).length : Nat) : Int) == (3 : Int))) == true) (atI x22.1 ((2 : Int))) default).Txn == (2 : Int)) && (((cond ((((((x22.1).length : Nat) : Int) == (3 : Int))) == true) (atI x22.1 ((2 : Int))) default).Worker == (2 : Int)) && (((cond ((((((x22.1).length : Nat) : Int) == (3 : Int))) == true) (atI x22.1 ((2 : Int))) default).Start == (8 : Int)) && (((cond ((((((x22.1).length : Nat) : Int) == (3 : Int))) == true) (atI x22.1 ((2 : Int))) default).End == (10 : Int)) && true))))) && (x22.2 == (0 : Int))) && ((((x39.1).length : Nat) : Int) == (3 : Int)))) == true) (atI x39.1 ((2 : Int))) default).Worker == (2 : Int)) && (((cond (((((((((x22.1).length : Nat) : Int) == (3 : Int)) && (((cond ((((((x22.1).length : Nat) : Int) == (3 : Int))) == true) (atI x22.1 ((2 : Int))) default).Txn == (2 : Int)) && (((cond ((((((x22.1).length : Nat) : Int) == (3 : Int))) == true) (atI x22.1 ((2 : Int))) default).Worker == (2 : Int)) && (((cond ((((((x22.1).length : Nat) : Int) == (3 : Int))) == true) (atI x22.1 ((2 : Int))) default).Start == (8 : Int)) && (((cond ((((((x22.1).length : Nat) : Int) == (3 : Int))) == true) (atI x22.1 ((2 : Int))) default).End == (10 : Int)) && true))))) && (x22.2 == (0 : Int))) && ((((x39.1).length : Nat) : Int) == (3 : Int)))) == true) (atI x39.1 ((2 : Int))) default).Start == (0 : Int)) && (((cond (((((((((x22.1).length : Nat) : Int) == (3 : Int)) && (((cond ((((((x22.1).length : Nat) : Int) == (3 : Int))) == true) (atI x22.1 ((2 : Int))) default).Txn == (2 : Int)) && (((cond ((((((x22.1).length : Nat) : Int) == (3 : Int))) == true) (atI x22.1 ((2 : Int))) default).Worker == (2 : Int)) && (((cond ((((((x22.1).length : Nat) : Int) == (3 : Int))) == true) (atI x22.1 ((2 : Int))) default).Start == (8 : Int)) && (((cond ((((((x22.1).length : Nat) : Int) == (3 : Int))) == true) (atI x22.1 ((2 : Int))) default).End == (10 : Int)) && true))))) && (x22.2 == (0 : Int))) && ((((x39.1).length : Nat) : Int) == (3 : Int)))) == true) (atI x39.1 ((2 : Int))) default).End == (2 : Int)) && true))))) && (x39.2 == (0 : Int))) && ((((x71.1).length : Nat) : Int) == (3 : Int)))) == true) (atI x71.1 ((2 : Int))) default).End == (4 : Int)) && true))))) && (x71.2 == (0 : Int)))) == true) (F_timeline_Makespan x22.1)) fun x91 => (some (((((((((((((x22.1).length : Nat) : Int) == (3 : Int)) && (((cond ((((((x22.1).length : Nat) : Int) == (3 : Int))) == true) (atI x22.1 ((2 : Int))) default).Txn == (2 : Int)) && (((cond ((((((x22.1).length : Nat) : Int) == (3 : Int))) == true) (atI x22.1 ((2 : Int))) default).Worker == (2 : Int)) && (((cond ((((((x22.1).length : Nat) : Int) == (3 : Int))) == true) (atI x22.1 ((2 : Int))) default).Start == (8 : Int)) && (((cond ((((((x22.1).length : Nat) : Int) == (3 : Int))) == true) (atI x22.1 ((2 : Int))) default).End == (10 : Int)) && true))))) && (x22.2 == (0 : Int))) && ((((x39.1).length : Nat) : Int) == (3 : Int))) && (((cond (((((((((x22.1).length : Nat) : Int) == (3 : Int)) && (((cond ((((((x22.1).length : Nat) : Int) == (3 : Int))) == true) (atI x22.1 ((2 : Int))) default).Txn == (2 : Int)) && (((cond ((((((x22.1).length : Nat) : Int) == (3 : Int))) == true) (atI x22.1 ((2 : Int))) default).Worker == (2 : Int)) && (((cond ((((((x22.1).length : Nat) : Int) == (3 : Int))) == true) (atI x22.1 ((2 : Int))) default).Start == (8 : Int)) && (((cond ((((((x22.1).length : Nat) : Int) == (3 : Int))) == true) (atI x22.1 ((2 : Int))) default).End == (10 : Int)) && true))))) && (x22.2 == (0 : Int))) && ((((x39.1).length : Nat) : Int) == (3 : Int)))) == true) (atI x39.1 ((2 : Int))) default).Txn == (2 : Int)) && (((cond (((((((((x22.1).length : Nat) : Int) == (3 : Int)) && (((cond ((((((x22.1).length : Nat) : Int) == (3 : Int))) == true) (atI x22.1 ((2 : Int))) default).Txn == (2 : Int)) && (((cond ((((((x22.1).length : Nat) : Int) == (3 : Int))) == true) (atI x22.1 ((2 : Int))) default).Worker == (2 : Int)) && (((cond ((((((x22.1).length : Nat) : Int) == (3 : Int))) == true) (atI x22.1 ((2 : Int))) default).Start == (8 : Int)) && (((cond ((((((x22.1).length : Nat) : Int) == (3 : Int))) == true) (atI x22.1 ((2 : Int))) default).End == (10 : Int)) && true))))) && (x22.2 == (0 : Int))) && ((((x39.1).length : Nat) : Int) == (3 : Int)))) == true) (atI x39.1 ((2 : Int))) default).Worker == (2 : Int)) && (((cond (((((((((x22.1).length : Nat) : Int) == (3 : Int)) && (((cond ((((((x22.1).length : Nat) : Int) == (3 : Int))) == true) (atI x22.1 ((2 : Int))) default).Txn == (2 : Int)) && (((cond ((((((x22.1).length : Nat) : Int) == (3 : Int))) == true) (atI x22.1 ((2 : Int))) default).Worker == (2 : Int)) && (((cond ((((((x22.1).length : Nat) : Int) == (3 : Int))) == true) (atI x22.1 ((2 : Int))) default).Start == (8 : Int)) && (((cond ((((((x22.1).length : Nat) : Int) == (3 : Int))) == true) (atI x22.1 ((2 : Int))) default).End == (10 : Int)) && true))))) && (x22.2 == (0 : Int))) && ((((x39.1).length : Nat) : Int) == (3 : Int)))) == true) (atI x39.1 ((2 : Int))) default).Start == (0 : Int)) && (((cond (((((((((x22.1).length : Nat) : Int) == (3 : Int)) && (((cond ((((((x22.1).length : Nat) : Int) == (3 : Int))) == true) (atI x22.1 ((2 : Int))) default).Txn == (2 : Int)) && (((cond ((((((x22.1).length : Nat) : Int) == (3 : Int))) == true) (atI x22.1 ((2 : Int))) default).Worker == (2 : Int)) && (((cond ((((((x22.1).length : Nat) : Int) == (3 : Int))) == true) (atI x22.1 ((2 : Int))) default).Start == (8 : Int)) && (((cond ((((((x22.1).length : Nat) : Int) == (3 : Int))) == true) (atI x22.1 ((2 : Int))) default).End == (10 : Int)) && true))))) && (x22.2 == (0 : Int))) && ((((x39.1).length : Nat) : Int) == (3 : Int)))) == true) (atI x39.1 ((2 : Int))) default).End == (2 : Int)) && true))))) && (x39.2 == (0 : Int))) && ((((x71.1).length : Nat) : Int) == (3 : Int))) && (((cond ((((((((((((x22.1).length : Nat) : Int) == (3 : Int)) && (((cond ((((((x22.1).length : Nat) : Int) == (3 : Int))) == true) (atI x22.1 ((2 : Int))) default).Txn == (2 : Int)) && (((cond ((((((x22.1).length : Nat) : Int) == (3 : Int))) == true) (atI x22.1 ((2 : Int))) default).Worker == (2 : Int)) && (((cond ((((((x22.1).length : Nat) : Int) == (3 : Int))) == true) (atI x22.1 ((2 : Int))) default).Start == (8 : Int)) && (((cond ((((((x22.1).length : Nat) : Int) == (3 : Int))) == true) (atI x22.1 ((2 : Int))) default).End == (10 : Int)) && true))))) && (x22.2 == (0 : Int))) && ((((x39.1).length : Nat) : Int) == (3 : Int))) && (((cond (((((((((x22.1).length : Nat) : Int) == (3 : Int)) && (((cond ((((((x22.1).length : Nat) : Int) == (3 : Int))) == true) (atI x22.1 ((2 : Int))) default).Txn == (2 : Int)) && (((cond ((((((x22.1).length : Nat) : Int) == (3 : Int))) == true) (atI x22.1 ((2 : Int))) default).Worker == (2 : Int)) && (((cond ((((((x22.1).length : Nat) : Int) == (3 : Int))) == true) (atI x22.1 ((2 : Int))) default).Start == (8 : Int)) && (((cond ((((((x22.1).length : Nat) : Int) == (3 : Int))) == true) (atI x22.1 ((2 : Int))) default).End == (10 : Int)) && true))))) && (x22.2 == (0 : Int))) && ((((x39.1).length : Nat) : Int) == (3 : Int)))) == true) (atI x39.1 ((2 : Int))) default).Txn == (2 : Int)) && (((cond (((((((((x22.1).length : Nat) : Int) == (3 : Int)) && (((cond ((((((x22.1).length : Nat) : Int) == (3 : Int))) == true) (atI x22.1 ((2 : Int))) default).Txn == (2 : Int)) && (((cond ((((((x22.1).length : Nat) : Int) == (3 : Int))) == true) (atI x22.1 ((2 : Int))) default).Worker == (2 : Int)) && (((cond ((((((x22.1).length : Nat) : Int) == (3 : Int))) == true) (atI x22.1 ((2 : Int))) default).Start == (8 : Int)) && (((cond ((((((x22.1).length : Nat) : Int) == (3 : Int))) == true) (atI x22.1 ((2 : Int))) default).End == (10 : Int)) && true))))) && (x22.2 == (0 : Int))) && ((((x39.1).length : Nat) : Int) == (3 : Int)))) == true) (atI x39.1 ((2 : Int))) default).Worker == (2 : Int)) && (((cond (((((((((x22.1).length : Nat) : Int) == (3 : Int)) && (((cond ((((((x22.1).length : Nat) : Int) == (3 : Int))) == true) (atI x22.1 ((2 : Int))) default).Txn == (2 : Int)) && (((cond ((((((x22.1).length : Nat) : Int) == (3 : Int))) == true) (atI x22.1 ((2 : Int))) default).Worker == (2 : Int)) && (((cond ((((((x22.1).length : Nat) : Int) == (3 : Int))) == true) (atI x22.1 ((2 : Int))) default).Start == (8 : Int)) && (((cond ((((((x22.1).length : Nat) : Int) == (3 : Int))) == true) (atI x22.1 ((2 : Int))) default).End == (10 : Int)) && true))))) && (x22.2 == (0 : Int))) && ((((x39.1).length : Nat) : Int) == (3 : Int)))) == true) (atI x39.1 ((2 : Int))) default).Start == (0 : Int)) && (((cond (((((((((x22.1).length : Nat) : Int) == (3 : Int)) && (((cond ((((((x22.1).length : Nat) : Int) == (3 : Int))) == true) (atI x22.1 ((2 : Int))) default).Txn == (2 : Int)) && (((cond ((((((x22.1).length : Nat) : Int) == (3 : Int))) == true) (atI x22.1 ((2 : Int))) default).Worker == (2 : Int)) && (((cond ((((((x22.1).length : Nat) : Int) == (3 : Int))) == true) (atI x22.1 ((2 : Int))) default).Start == (8 : Int)) && (((cond ((((((x22.1).length : Nat) : Int) == (3 : Int))) == true) (atI x22.1 ((2 : Int))) default).End == (10 : Int)) && true))))) && (x22.2 == (0 : Int))) && ((((x39.1).length : Nat) : Int) == (3 : Int)))) == true) (atI x39.1 ((2 : Int))) default).End == (2 : Int)) && true))))) && (x39.2 == (0 : Int))) && ((((x71.1).length : Nat) : Int) == (3 : Int)))) == true) (atI x71.1 ((2 : Int))) default).Txn == (2 : Int)) && (((cond ((((((((((((x22.1).length : Nat) : Int) == (3 : Int)) && (((cond ((((((x22.1).length : Nat) : Int) == (3 : Int))) == true) (atI x22.1 ((2 : Int))) default).Txn == (2 : Int)) && (((cond ((((((x22.1).length : Nat) : Int) == (3 : Int))) == true) (atI x22.1 ((2 : Int))) default).Worker == (2 : Int)) && (((cond ((((((x22.1).length : Nat) : Int) == (3 : Int))) == true) (atI x22.1 ((2 : Int))) default).Start == (8 : Int)) && (((cond ((((((x22.1).length : Nat) : Int) == (3 : Int))) == true) (atI x22.1 ((2 : Int))) default).End == (10 : Int)) && true))))) && (x22.2 == (0 : Int))) && ((((x39.1).length : Nat) : Int) == (3 : Int))) && (((cond (((((((((x22.1).length : Nat) : Int) == (3 : Int)) && (((cond ((((((x22.1).length : Nat) : Int) == (3 : Int))) == true) (atI x22.1 ((2 : Int))) default).Txn == (2 : Int)) && (((cond ((((((x22.1).length : Nat) : Int) == (3 : Int))) == true) (atI x22.1 ((2 : Int))) default).Worker == (2 : Int)) && (((cond ((((((x22.1).length : Nat) : Int) == (3 : Int))) == true) (atI x22.1 ((2 : Int))) default).Start == (8 : Int)) && (((cond ((((((x22.1).length : Nat) : Int) == (3 : Int))) == true) (atI x22.1 ((2 : Int))) default).End == (10 : Int)) && true))))) && (x22.2 == (0 : Int))) && ((((x39.1).length : Nat) : Int) == (3 : Int)))) == true) (atI x39.1 ((2 : Int))) default).Txn == (2 : Int)) && (((cond (((((((((x22.1).length : Nat) : Int) == (3 : Int)) && (((cond ((((((x22.1).length : Nat) : Int) == (3 : Int))) == true) (atI x22.1 ((2 : Int))) default).Txn == (2 : Int)) && (((cond ((((((x22.1).length : Nat) : Int) == (3 : Int))) == true) (atI x22.1 ((2 : Int))) default).Worker == (2 : Int)) && (((cond ((((((x22.1).length : Nat) : Int) == (3 : Int))) == true) (atI x22.1 ((2 : Int))) default).Start == (8 : Int)) && (((cond ((((((x22.1).length : Nat) : Int) == (3 : Int))) == true) (atI x22.1 ((2 : Int))) default).End == (10 : Int)) && true))))) && (x22.2 == (0 : Int))) && ((((x39.1).length : Nat) : Int) == (3 : Int)))) == true) (atI x39.1 ((2 : Int))) default).Worker == (2 : Int)) && (((cond (((((((((x22.1).length : Nat) : Int) == (3 : Int)) && (((cond ((((((x22.1).length : Nat) : Int) == (3 : Int))) == true) (atI x22.1 ((2 : Int))) default).Txn == (2 : Int)) && (((cond ((((((x22.1).length : Nat) : Int) == (3 : Int))) == true) (atI x22.1 ((2 : Int))) default).Worker == (2 : Int)) && (((cond ((((((x22.1).length : Nat) : Int) == (3 : Int))) == true) (atI x22.1 ((2 : Int))) default).Start == (8 : Int)) && (((cond ((((((x22.1).length : Nat) : Int) == (3 : Int))) == true) (atI x22.1 ((2 : Int))) default).End == (10 : Int)) && true))))) && (x22.2 == (0 : Int))) && ((((x39.1).length : Nat) : Int) == (3 : Int)))) == true) (atI x39.1 ((2 : Int))) default).Start == (0 : Int)) && (((cond (((((((((x22.1).length : Nat) : Int) == (3 : Int)) && (((cond ((((((x22.1).length : Nat) : Int) == (3 : Int))) == true) (atI x22.1 ((2 : Int))) default).Txn == (2 : Int)) && (((cond ((((((x22.1).length : Nat) : Int) == (3 : Int))) == true) (atI x22.1 ((2 : Int))) default).Worker == (2 : Int)) && (((cond ((((((x22.1).length : Nat) : Int) == (3 : Int))) == true) (atI x22.1 ((2 : Int))) default).Start == (8 : Int)) && (((cond ((((((x22.1).length : Nat) : Int) == (3 : Int))) == true) (atI x22.1 ((2 : Int))) default).End == (10 : Int)) && true))))) && (x22.2 == (0 : Int))) && ((((x39.1).length : Nat) : Int) == (3 : Int)))) == true) (atI x39.1 ((2 : Int))) default).End == (2 : Int)) && true))))) && (x39.2 == (0 : Int))) && ((((x71.1).length : Nat) : Int) == (3 : Int)))) == true) (atI x71.1 ((2 : Int))) default).Worker == (1 : Int)) && (((cond ((((((((((((x22.1).length : Nat) : Int) == (3 : Int)) && (((cond ((((((x22.1).length : Nat) : Int) == (3 : Int))) == true) (atI x22.1 ((2 : Int))) default).Txn == (2 : Int)) && (((cond ((((((x22.1).length : Nat) : Int) == (3 : Int))) == true) (atI x22.1 ((2 : Int))) default).Worker == (2 : Int)) && (((cond ((((((x22.1).length : Nat) : Int) == (3 : Int))) == true) (atI x22.1 ((2 : Int))) default).Start == (8 : Int)) && (((cond ((((((x22.1).length : Nat) : Int) == (3 : Int))) == true) (atI x22.1 ((2 : Int))) default).End == (10 : Int)) && true))))) && (x22.2 == (0 : Int))) && ((((x39.1).length : Nat) : Int) == (3 : Int))) && (((cond (((((((((x22.1).length : Nat) : Int) == (3 : Int)) && (((cond ((((((x22.1).length : Nat) : Int) == (3 : Int))) == true) (atI x22.1 ((2 : Int))) default).Txn == (2 : Int)) && (((cond ((((((x22.1).length : Nat) : Int) == (3 : Int))) == true) (atI x22.1 ((2 : Int))) default).Worker == (2 : Int)) && (((cond ((((((x22.1).length : Nat) : Int) == (3 : Int))) == true) (atI x22.1 ((2 : Int))) default).Start == (8 : Int)) && (((cond ((((((x22.1).length : Nat) : Int) == (3 : Int))) == true) (atI x22.1 ((2 : Int))) default).End == (10 : Int)) && true))))) && (x22.2 == (0 : Int))) && ((((x39.1).length : Nat) : Int) == (3 : Int)))) == true) (atI x39.1 ((2 : Int))) default).Txn == (2 : Int)) && (((cond (((((((((x22.1).length : Nat) : Int) == (3 : Int)) && (((cond ((((((x22.1).length : Nat) : Int) == (3 : Int))) == true) (atI x22.1 ((2 : Int))) default).Txn == (2 : Int)) && (((cond ((((((x22.1).length : Nat) : Int) == (3 : Int))) == true) (atI x22.1 ((2 : Int))) default).Worker == (2 : Int)) && (((cond ((((((x22.1).length : Nat) : Int) == (3 : Int))) == true) (atI x22.1 ((2 : Int))) default).Start == (8 : Int)) && (((cond ((((((x22.1).length : Nat) : Int) == (3 : Int))) == true) (atI x22.1 ((2 : Int))) default).End == (10 : Int)) && true))))) && (x22.2 == (0 : Int))) && ((((x39.1).length : Nat) : Int) == (3 : Int)))) == true) (atI x39.1 ((2 : Int))) default).Worker == (2 : Int)) && (((cond (((((((((x22.1).length : Nat) : Int) == (3 : Int)) && (((cond ((((((x22.1).length : Nat) : Int) == (3 : Int))) == true) (atI x22.1 ((2 : Int))) default).Txn == (2 : Int)) && (((cond ((((((x22.1).length : Nat) : Int) == (3 : Int))) == true) (atI x22.1 ((2 : Int))) default).Worker == (2 : Int)) && (((cond ((((((x22.1).length : Nat) : Int) == (3 : Int))) == true) (atI x22.1 ((2 : Int))) default).Start == (8 : Int)) && (((cond ((((((x22.1).length : Nat) : Int) == (3 : Int))) == true) (atI x22.1 ((2 : Int))) default).End == (10 : Int)) && true))))) && (x22.2 == (0 : Int))) && ((((x39.1).length : Nat) : Int) == (3 : Int)))) == true) (atI x39.1 ((2 : Int))) default).Start == (0 : Int)) && (((cond (((((((((x22.1).length : Nat) : Int) == (3 : Int)) && (((cond ((((((x22.1).length : Nat) : Int) == (3 : Int))) == true) (atI x22.1 ((2 : Int))) default).Txn == (2 : Int)) && (((cond ((((((x22.1).length : Nat) : Int) == (3 : Int))) == true) (atI x22.1 ((2 : Int))) default).Worker == (2 : Int)) && (((cond ((((((x22.1).length : Nat) : Int) == (3 : Int))) == true) (atI x22.1 ((2 : Int))) default).Start == (8 : Int)) && (((cond ((((((x22.1).length : Nat) : Int) == (3 : Int))) == true) (atI x22.1 ((2 : Int))) default).End == (10 : Int)) && true))))) && (x22.2 == (0 : Int))) && ((((x39.1).length : Nat) : Int) == (3 : Int)))) == true) (atI x39.1 ((2 : Int))) default).End == (2 : Int)) && true))))) && (x39.2 == (0 : Int))) && ((((x71.1).length : Nat) : Int) == (3 : Int)))) == true) (atI x71.1 ((2 : Int))) default).Start == (2 : Int)) && (((cond ((((((((((((x22.1).length : Nat) : Int) == (3 : Int)) && (((cond ((((((x22.1).length : Nat) : Int) == (3 : Int))) == true) (atI x22.1 ((2 : Int))) default).Txn == (2 : Int)) && (((cond ((((((x22.1).length : Nat) : Int) == (3 : Int))) == true) (atI x22.1 ((2 : Int))) default).Worker == (2 : Int)) && (((cond ((((((x22.1).length : Nat) : Int) == (3 : Int))) == true) (atI x22.1 ((2 : Int))) default).Start == (8 : Int)) && (((cond ((((((x22.1).length : Nat) : Int) == (3 : Int))) == true) (atI x22.1 ((2 : Int))) default).End == (10 : Int)) && true))))) && (x22.2 == (0 : Int))) && ((((x39.1).length : Nat) : Int) == (3 : Int))) && (((cond (((((((((x22.1).length : Nat) : Int) == (3 : Int)) && (((cond ((((((x22.1).length : Nat) : Int) == (3 : Int))) == true) (atI x22.1 ((2 : Int))) default).Txn == (2 : Int)) && (((cond ((((((x22.1).length : Nat) : Int) == (3 : Int))) == true) (atI x22.1 ((2 : Int))) default).Worker == (2 : Int)) && (((cond ((((((x22.1).length : Nat) : Int) == (3 : Int))) == true) (atI x22.1 ((2 : Int))) default).Start == (8 : Int)) && (((cond ((((((x22.1).length : Nat) : Int) == (3 : Int))) == true) (atI x22.1 ((2 : Int))) default).End == (10 : Int)) && true))))) && (x22.2 == (0 : Int))) && ((((x39.1).length : Nat) : Int) == (3 : Int)))) == true) (atI x39.1 ((2 : Int))) default).Txn == (2 : Int)) && (((cond (((((((((x22.1).length : Nat) : Int) == (3 : Int)) && (((cond ((((((x22.1).length : Nat) : Int) == (3 : Int))) == true) (atI x22.1 ((2 : Int))) default).Txn == (2 : Int)) && (((cond ((((((x22.1).length : Nat) : Int) == (3 : Int))) == true) (atI x22.1 ((2 : Int))) default).Worker == (2 : Int)) && (((cond ((((((x22.1).length : Nat) : Int) == (3 : Int))) == true) (atI x22.1 ((2 : Int))) default).Start == (8 : Int)) && (((cond ((((((x22.1).length : Nat) : Int) == (3 : Int))) == true) (atI x22.1 ((2 : Int))) default).End == (10 : Int)) && true))))) && (x22.2 == (0 : Int))) && ((((x39.1).length : Nat) : Int) == (3 : Int)))) == true) (atI x39.1 ((2 : Int))) default).Worker == (2 : Int)) && (((cond (((((((((x22.1).length : Nat) : Int) == (3 : Int)) && (((cond ((((((x22.1).length : Nat) : Int) == (3 : Int))) == true) (atI x22.1 ((2 : Int))) default).Txn == (2 : Int)) && (((cond ((((((x22.1).length : Nat) : Int) == (3 : Int))) == true) (atI x22.1 ((2 : Int))) default).Worker == (2 : Int)) && (((cond ((((((x22.1).length : Nat) : Int) == (3 : Int))) == true) (atI x22.1 ((2 : Int))) default).Start == (8 : Int)) && (((cond ((((((x22.1).length : Nat) : Int) == (3 : Int))) == true) (atI x22.1 ((2 : Int))) default).End == (10 : Int)) && true))))) && (x22.2 == (0 : Int))) && ((((x39.1).length : Nat) : Int) == (3 : Int)))) == true) (atI x39.1 ((2 : Int))) default).Start == (0 : Int)) && (((cond (((((((((x22.1).length : Nat) : Int) == (3 : Int)) && (((cond ((((((x22.1).length : Nat) : Int) == (3 : Int))) == true) (atI x22.1 ((2 : Int))) default).Txn == (2 : Int)) && (((cond ((((((x22.1).length : Nat) : Int) == (3 : Int))) == true) (atI x22.1 ((2 : Int))) default).Worker == (2 : Int)) && (((cond ((((((x22.1).length : Nat) : Int) == (3 : Int))) == true) (atI x22.1 ((2 : Int))) default).Start == (8 : Int)) && (((cond ((((((x22.1).length : Nat) : Int) == (3 : Int))) == true) (atI x22.1 ((2 : Int))) default).End == (10 : Int)) && true))))) && (x22.2 == (0 : Int))) && ((((x39.1).length : Nat) : Int) == (3 : Int)))) == true) (atI x39.1 ((2 : Int))) default).End == (2 : Int)) && true))))) && (x39.2 == (0 : Int))) && ((((x71.1).length : Nat) : Int) == (3 : Int)))) == true) (atI x71.1 ((2 : Int))) default).End == (4 : Int)) && true))))) && (x71.2 == (0 : Int))) && (x91 == (10 : Int)))))))))))

set_option maxRecDepth 100000 in
theorem W_clockworklaw28_lives {V : View}    {r : Bool} (hF : F_clockworklaw28_lives  = some r) :
    Spec Try.prog 10 [] V (fun _ v => v = .bool (r)) := by
  unfold F_clockworklaw28_lives at hF
  refine Spec.enter (T := tyT) Try.func10 rfl (by kernel_rfl) rfl rfl rfl ?_
  refine Exec.run tyOk 400 rfl ?_
  refine Exec.bsV tyOk rfl rfl rfl rfl rfl (fun V1 a1 hv1 hd1 => ?_)
  have h1 : SlAt cStr V1 (some a1) 1 ([([120] : Str)] : List Str) := RowRep.slat (c := cStr) (V := V1) (cs := [.string ⟨⟨([120] : Str)⟩⟩]) ⟨_, _, rfl, rfl, rfl⟩ (VLe.refl _) (fun _ => hd1) (by simp)
  refine Exec.run tyOk 400 rfl ?_
  refine Exec.bsV tyOk rfl rfl rfl rfl rfl (fun V2 a2 hv2 hd2 => ?_)
  have h3 := SlAt.mono h1 hv2
  have h2 : SlAt cStr V2 (some a2) 1 ([([121] : Str)] : List Str) := RowRep.slat (c := cStr) (V := V2) (cs := [.string ⟨⟨([121] : Str)⟩⟩]) ⟨_, _, rfl, rfl, rfl⟩ (VLe.refl _) (fun _ => hd2) (by simp)
  refine Exec.run tyOk 400 rfl ?_
  refine Exec.bsV tyOk rfl rfl rfl rfl rfl (fun V4 a4 hv4 hd4 => ?_)
  have h5 := SlAt.mono h3 hv4
  have h6 := SlAt.mono h2 hv4
  have h4 : SlAt cStr V4 (some a4) 1 ([([120] : Str)] : List Str) := RowRep.slat (c := cStr) (V := V4) (cs := [.string ⟨⟨([120] : Str)⟩⟩]) ⟨_, _, rfl, rfl, rfl⟩ (VLe.refl _) (fun _ => hd4) (by simp)
  refine Exec.run tyOk 400 rfl ?_
  refine Exec.bsV tyOk rfl rfl rfl rfl rfl (fun V7 a7 hv7 hd7 => ?_)
  have h8 := SlAt.mono h5 hv7
  have h9 := SlAt.mono h6 hv7
  have h10 := SlAt.mono h4 hv7
  have h7 : SlAt cStr V7 (some a7) 1 ([([121] : Str)] : List Str) := RowRep.slat (c := cStr) (V := V7) (cs := [.string ⟨⟨([121] : Str)⟩⟩]) ⟨_, _, rfl, rfl, rfl⟩ (VLe.refl _) (fun _ => hd7) (by simp)
  refine Exec.run tyOk 400 rfl ?_
  refine Exec.bsV tyOk rfl rfl rfl rfl rfl (fun V11 a11 hv11 hd11 => ?_)
  have h12 := SlAt.mono h8 hv11
  have h13 := SlAt.mono h9 hv11
  have h14 := SlAt.mono h10 hv11
  have h15 := SlAt.mono h7 hv11
  have h11 : SlAt cTFootprint V11 (some a11) 3 ([(⟨false, ([] : List Str), ([([120] : Str)] : List Str)⟩ : TFootprint), (⟨false, ([([121] : Str)] : List Str), ([([120] : Str)] : List Str)⟩ : TFootprint), (⟨false, ([] : List Str), ([([121] : Str)] : List Str)⟩ : TFootprint)] : List TFootprint) := RowRep.slat (c := cTFootprint) (V := V11) (cs := [.bool (false), .slice none (0) (0), .slice ((some a1)) (1) (1), .bool (false), .slice ((some a2)) (1) (1), .slice ((some a4)) (1) (1), .bool (false), .slice none (0) (0), .slice ((some a7)) (1) (1)]) ⟨_, _, rfl, ⟨_, _, _, _, rfl, SlAt.nil, (SlAt.mono h8 hv11)⟩, ⟨_, _, rfl, ⟨_, _, _, _, rfl, (SlAt.mono h9 hv11), (SlAt.mono h10 hv11)⟩, ⟨_, _, rfl, ⟨_, _, _, _, rfl, SlAt.nil, (SlAt.mono h7 hv11)⟩, rfl⟩⟩⟩ (VLe.refl _) (fun _ => hd11) (by simp)
  refine Exec.run tyOk 400 rfl ?_
  refine Exec.bsV tyOk rfl rfl rfl rfl rfl (fun V16 a16 hv16 hd16 => ?_)
  have h17 := SlAt.mono h11 hv16
  have h18 := SlAt.mono h12 hv16
  have h19 := SlAt.mono h13 hv16
  have h20 := SlAt.mono h14 hv16
  have h21 := SlAt.mono h15 hv16
  have h16 : SlAt (cInt .i64) V16 (some a16) 3 ([(5 : Int), (3 : Int), (2 : Int)] : List Int) := RowRep.slat (c := (cInt .i64)) (V := V16) (cs := [.int .i64 ((5 : Int)), .int .i64 ((3 : Int)), .int .i64 ((2 : Int))]) ⟨_, _, rfl, rfl, ⟨_, _, rfl, rfl, ⟨_, _, rfl, rfl, rfl⟩⟩⟩ (VLe.refl _) (fun _ => hd16) (by simp)
  refine Exec.run tyOk 400 rfl ?_
  obtain ⟨x22, hx22, hF⟩ := bnd_some hF
  refine Exec.call rfl rfl (W_timeline_Lock (([(⟨false, ([] : List Str), ([([120] : Str)] : List Str)⟩ : TFootprint), (⟨false, ([([121] : Str)] : List Str), ([([120] : Str)] : List Str)⟩ : TFootprint), (⟨false, ([] : List Str), ([([121] : Str)] : List Str)⟩ : TFootprint)] : List TFootprint)) (([(5 : Int), (3 : Int), (2 : Int)] : List Int)) h17 h16 hx22) ?_
  rintro V24 _ hv24 ⟨a23, k23, rfl, h23⟩
  have h25 := SlAt.mono h17 hv24
  have h26 := SlAt.mono h18 hv24
  have h27 := SlAt.mono h19 hv24
  have h28 := SlAt.mono h20 hv24
  have h29 := SlAt.mono h21 hv24
  have h30 := SlAt.mono h16 hv24
  refine Exec.run tyOk 400 rfl ?_
  refine Exec.bsV tyOk rfl rfl rfl rfl rfl (fun V31 a31 hv31 hd31 => ?_)
  have h32 := SlAt.mono h25 hv31
  have h33 := SlAt.mono h23 hv31
  have h34 := SlAt.mono h26 hv31
  have h35 := SlAt.mono h27 hv31
  have h36 := SlAt.mono h28 hv31
  have h37 := SlAt.mono h29 hv31
  have h38 := SlAt.mono h30 hv31
  have h31 : SlAt (cInt .i64) V31 (some a31) 3 ([(5 : Int), (3 : Int), (2 : Int)] : List Int) := RowRep.slat (c := (cInt .i64)) (V := V31) (cs := [.int .i64 ((5 : Int)), .int .i64 ((3 : Int)), .int .i64 ((2 : Int))]) ⟨_, _, rfl, rfl, ⟨_, _, rfl, rfl, ⟨_, _, rfl, rfl, rfl⟩⟩⟩ (VLe.refl _) (fun _ => hd31) (by simp)
  refine Exec.run tyOk 400 rfl ?_
  obtain ⟨x39, hx39, hF⟩ := bnd_some hF
  refine Exec.call rfl rfl (W_timeline_Version (([(⟨false, ([] : List Str), ([([120] : Str)] : List Str)⟩ : TFootprint), (⟨false, ([([121] : Str)] : List Str), ([([120] : Str)] : List Str)⟩ : TFootprint), (⟨false, ([] : List Str), ([([121] : Str)] : List Str)⟩ : TFootprint)] : List TFootprint)) (([(5 : Int), (3 : Int), (2 : Int)] : List Int)) h32 h31 hx39) ?_
  rintro V41 _ hv41 ⟨a40, k40, rfl, h40⟩
  have h42 := SlAt.mono h32 hv41
  have h43 := SlAt.mono h33 hv41
  have h44 := SlAt.mono h34 hv41
  have h45 := SlAt.mono h35 hv41
  have h46 := SlAt.mono h36 hv41
  have h47 := SlAt.mono h37 hv41
  have h48 := SlAt.mono h38 hv41
  have h49 := SlAt.mono h31 hv41
  refine Exec.run tyOk 400 rfl ?_
  refine Exec.bsV tyOk rfl rfl rfl rfl rfl (fun V50 a50 hv50 hd50 => ?_)
  have h51 := SlAt.mono h42 hv50
  have h52 := SlAt.mono h43 hv50
  have h53 := SlAt.mono h40 hv50
  have h54 := SlAt.mono h44 hv50
  have h55 := SlAt.mono h45 hv50
  have h56 := SlAt.mono h46 hv50
  have h57 := SlAt.mono h47 hv50
  have h58 := SlAt.mono h48 hv50
  have h59 := SlAt.mono h49 hv50
  have h50 : SlAt (cSl (cInt .i64)) V50 (some a50) 3 ([([] : List Int), ([] : List Int), ([] : List Int)] : List (List Int)) := RowRep.slat (c := (cSl (cInt .i64))) (V := V50) (cs := [.slice none (0) (0), .slice none (0) (0), .slice none (0) (0)]) ⟨_, _, rfl, ⟨_, _, rfl, SlAt.nil⟩, ⟨_, _, rfl, ⟨_, _, rfl, SlAt.nil⟩, ⟨_, _, rfl, ⟨_, _, rfl, SlAt.nil⟩, rfl⟩⟩⟩ (VLe.refl _) (fun _ => hd50) (by simp)
  refine Exec.run tyOk 400 rfl ?_
  refine Exec.bsV tyOk rfl rfl rfl rfl rfl (fun V60 a60 hv60 hd60 => ?_)
  have h61 := SlAt.mono h51 hv60
  have h62 := SlAt.mono h52 hv60
  have h63 := SlAt.mono h53 hv60
  have h64 := SlAt.mono h54 hv60
  have h65 := SlAt.mono h55 hv60
  have h66 := SlAt.mono h56 hv60
  have h67 := SlAt.mono h57 hv60
  have h68 := SlAt.mono h58 hv60
  have h69 := SlAt.mono h59 hv60
  have h70 := SlAt.mono h50 hv60
  have h60 : SlAt (cInt .i64) V60 (some a60) 3 ([(3 : Int), (2 : Int), (2 : Int)] : List Int) := RowRep.slat (c := (cInt .i64)) (V := V60) (cs := [.int .i64 ((3 : Int)), .int .i64 ((2 : Int)), .int .i64 ((2 : Int))]) ⟨_, _, rfl, rfl, ⟨_, _, rfl, rfl, ⟨_, _, rfl, rfl, rfl⟩⟩⟩ (VLe.refl _) (fun _ => hd60) (by simp)
  refine Exec.run tyOk 400 rfl ?_
  obtain ⟨x71, hx71, hF⟩ := bnd_some hF
  refine Exec.call rfl rfl (W_timeline_Limited (([([] : List Int), ([] : List Int), ([] : List Int)] : List (List Int))) (([(3 : Int), (2 : Int), (2 : Int)] : List Int)) ((2 : Int)) h70 h60 hx71) ?_
  rintro V73 _ hv73 ⟨a72, k72, rfl, h72⟩
  have h74 := SlAt.mono h61 hv73
  have h75 := SlAt.mono h62 hv73
  have h76 := SlAt.mono h63 hv73
  have h77 := SlAt.mono h64 hv73
  have h78 := SlAt.mono h65 hv73
  have h79 := SlAt.mono h66 hv73
  have h80 := SlAt.mono h67 hv73
  have h81 := SlAt.mono h68 hv73
  have h82 := SlAt.mono h69 hv73
  have h83 := SlAt.mono h70 hv73
  have h84 := SlAt.mono h60 hv73
  refine Exec.run tyOk 400 rfl ?_
  obtain ⟨q85, hF⟩ := req_some hF
  obtain ⟨c86, hr86, hd86⟩ := SlAt.gget ((((((x22.1).length : Nat) : Int) == (3 : Int))) == true) h75 q85
  obtain rfl := hr86
  refine Exec.ia tyOk rfl rfl (fun gg0 => ⟨(q85 (gd1_of gg0)).1, (q85 (gd1_of gg0)).2, (hd86 (gd1_of gg0)).some⟩) ?_
  refine Exec.run tyOk 400 rfl ?_
  refine Exec.ld tyOk (x := .agg ⟨[.int .i64 ((cond ((((((x22.1).length : Nat) : Int) == (3 : Int))) == true) (atI x22.1 ((2 : Int))) default).Txn), .int .i64 ((cond ((((((x22.1).length : Nat) : Int) == (3 : Int))) == true) (atI x22.1 ((2 : Int))) default).Worker), .int .i64 ((cond ((((((x22.1).length : Nat) : Int) == (3 : Int))) == true) (atI x22.1 ((2 : Int))) default).Start), .int .i64 ((cond ((((((x22.1).length : Nat) : Int) == (3 : Int))) == true) (atI x22.1 ((2 : Int))) default).End)]⟩) rfl rfl (fun gg0 => (hd86 (gd1_of gg0))) rfl rfl ?_
  refine Exec.run tyOk 400 rfl ?_
  obtain ⟨q87, hF⟩ := req_some hF
  obtain ⟨c88, hr88, hd88⟩ := SlAt.gget (((((((((x22.1).length : Nat) : Int) == (3 : Int)) && (((cond ((((((x22.1).length : Nat) : Int) == (3 : Int))) == true) (atI x22.1 ((2 : Int))) default).Txn == (2 : Int)) && (((cond ((((((x22.1).length : Nat) : Int) == (3 : Int))) == true) (atI x22.1 ((2 : Int))) default).Worker == (2 : Int)) && (((cond ((((((x22.1).length : Nat) : Int) == (3 : Int))) == true) (atI x22.1 ((2 : Int))) default).Start == (8 : Int)) && (((cond ((((((x22.1).length : Nat) : Int) == (3 : Int))) == true) (atI x22.1 ((2 : Int))) default).End == (10 : Int)) && true))))) && (x22.2 == (0 : Int))) && ((((x39.1).length : Nat) : Int) == (3 : Int)))) == true) h76 q87
  obtain rfl := hr88
  refine Exec.ia tyOk rfl rfl (fun gg0 => ⟨(q87 (gd1_of gg0)).1, (q87 (gd1_of gg0)).2, (hd88 (gd1_of gg0)).some⟩) ?_
  refine Exec.run tyOk 400 rfl ?_
  refine Exec.ld tyOk (x := .agg ⟨[.int .i64 ((cond (((((((((x22.1).length : Nat) : Int) == (3 : Int)) && (((cond ((((((x22.1).length : Nat) : Int) == (3 : Int))) == true) (atI x22.1 ((2 : Int))) default).Txn == (2 : Int)) && (((cond ((((((x22.1).length : Nat) : Int) == (3 : Int))) == true) (atI x22.1 ((2 : Int))) default).Worker == (2 : Int)) && (((cond ((((((x22.1).length : Nat) : Int) == (3 : Int))) == true) (atI x22.1 ((2 : Int))) default).Start == (8 : Int)) && (((cond ((((((x22.1).length : Nat) : Int) == (3 : Int))) == true) (atI x22.1 ((2 : Int))) default).End == (10 : Int)) && true))))) && (x22.2 == (0 : Int))) && ((((x39.1).length : Nat) : Int) == (3 : Int)))) == true) (atI x39.1 ((2 : Int))) default).Txn), .int .i64 ((cond (((((((((x22.1).length : Nat) : Int) == (3 : Int)) && (((cond ((((((x22.1).length : Nat) : Int) == (3 : Int))) == true) (atI x22.1 ((2 : Int))) default).Txn == (2 : Int)) && (((cond ((((((x22.1).length : Nat) : Int) == (3 : Int))) == true) (atI x22.1 ((2 : Int))) default).Worker == (2 : Int)) && (((cond ((((((x22.1).length : Nat) : Int) == (3 : Int))) == true) (atI x22.1 ((2 : Int))) default).Start == (8 : Int)) && (((cond ((((((x22.1).length : Nat) : Int) == (3 : Int))) == true) (atI x22.1 ((2 : Int))) default).End == (10 : Int)) && true))))) && (x22.2 == (0 : Int))) && ((((x39.1).length : Nat) : Int) == (3 : Int)))) == true) (atI x39.1 ((2 : Int))) default).Worker), .int .i64 ((cond (((((((((x22.1).length : Nat) : Int) == (3 : Int)) && (((cond ((((((x22.1).length : Nat) : Int) == (3 : Int))) == true) (atI x22.1 ((2 : Int))) default).Txn == (2 : Int)) && (((cond ((((((x22.1).length : Nat) : Int) == (3 : Int))) == true) (atI x22.1 ((2 : Int))) default).Worker == (2 : Int)) && (((cond ((((((x22.1).length : Nat) : Int) == (3 : Int))) == true) (atI x22.1 ((2 : Int))) default).Start == (8 : Int)) && (((cond ((((((x22.1).length : Nat) : Int) == (3 : Int))) == true) (atI x22.1 ((2 : Int))) default).End == (10 : Int)) && true))))) && (x22.2 == (0 : Int))) && ((((x39.1).length : Nat) : Int) == (3 : Int)))) == true) (atI x39.1 ((2 : Int))) default).Start), .int .i64 ((cond (((((((((x22.1).length : Nat) : Int) == (3 : Int)) && (((cond ((((((x22.1).length : Nat) : Int) == (3 : Int))) == true) (atI x22.1 ((2 : Int))) default).Txn == (2 : Int)) && (((cond ((((((x22.1).length : Nat) : Int) == (3 : Int))) == true) (atI x22.1 ((2 : Int))) default).Worker == (2 : Int)) && (((cond ((((((x22.1).length : Nat) : Int) == (3 : Int))) == true) (atI x22.1 ((2 : Int))) default).Start == (8 : Int)) && (((cond ((((((x22.1).length : Nat) : Int) == (3 : Int))) == true) (atI x22.1 ((2 : Int))) default).End == (10 : Int)) && true))))) && (x22.2 == (0 : Int))) && ((((x39.1).length : Nat) : Int) == (3 : Int)))) == true) (atI x39.1 ((2 : Int))) default).End)]⟩) rfl rfl (fun gg0 => (hd88 (gd1_of gg0))) rfl rfl ?_
  refine Exec.run tyOk 400 rfl ?_
  obtain ⟨q89, hF⟩ := req_some hF
  obtain ⟨c90, hr90, hd90⟩ := SlAt.gget ((((((((((((x22.1).length : Nat) : Int) == (3 : Int)) && (((cond ((((((x22.1).length : Nat) : Int) == (3 : Int))) == true) (atI x22.1 ((2 : Int))) default).Txn == (2 : Int)) && (((cond ((((((x22.1).length : Nat) : Int) == (3 : Int))) == true) (atI x22.1 ((2 : Int))) default).Worker == (2 : Int)) && (((cond ((((((x22.1).length : Nat) : Int) == (3 : Int))) == true) (atI x22.1 ((2 : Int))) default).Start == (8 : Int)) && (((cond ((((((x22.1).length : Nat) : Int) == (3 : Int))) == true) (atI x22.1 ((2 : Int))) default).End == (10 : Int)) && true))))) && (x22.2 == (0 : Int))) && ((((x39.1).length : Nat) : Int) == (3 : Int))) && (((cond (((((((((x22.1).length : Nat) : Int) == (3 : Int)) && (((cond ((((((x22.1).length : Nat) : Int) == (3 : Int))) == true) (atI x22.1 ((2 : Int))) default).Txn == (2 : Int)) && (((cond ((((((x22.1).length : Nat) : Int) == (3 : Int))) == true) (atI x22.1 ((2 : Int))) default).Worker == (2 : Int)) && (((cond ((((((x22.1).length : Nat) : Int) == (3 : Int))) == true) (atI x22.1 ((2 : Int))) default).Start == (8 : Int)) && (((cond ((((((x22.1).length : Nat) : Int) == (3 : Int))) == true) (atI x22.1 ((2 : Int))) default).End == (10 : Int)) && true))))) && (x22.2 == (0 : Int))) && ((((x39.1).length : Nat) : Int) == (3 : Int)))) == true) (atI x39.1 ((2 : Int))) default).Txn == (2 : Int)) && (((cond (((((((((x22.1).length : Nat) : Int) == (3 : Int)) && (((cond ((((((x22.1).length : Nat) : Int) == (3 : Int))) == true) (atI x22.1 ((2 : Int))) default).Txn == (2 : Int)) && (((cond ((((((x22.1).length : Nat) : Int) == (3 : Int))) == true) (atI x22.1 ((2 : Int))) default).Worker == (2 : Int)) && (((cond ((((((x22.1).length : Nat) : Int) == (3 : Int))) == true) (atI x22.1 ((2 : Int))) default).Start == (8 : Int)) && (((cond ((((((x22.1).length : Nat) : Int) == (3 : Int))) == true) (atI x22.1 ((2 : Int))) default).End == (10 : Int)) && true))))) && (x22.2 == (0 : Int))) && ((((x39.1).length : Nat) : Int) == (3 : Int)))) == true) (atI x39.1 ((2 : Int))) default).Worker == (2 : Int)) && (((cond (((((((((x22.1).length : Nat) : Int) == (3 : Int)) && (((cond ((((((x22.1).length : Nat) : Int) == (3 : Int))) == true) (atI x22.1 ((2 : Int))) default).Txn == (2 : Int)) && (((cond ((((((x22.1).length : Nat) : Int) == (3 : Int))) == true) (atI x22.1 ((2 : Int))) default).Worker == (2 : Int)) && (((cond ((((((x22.1).length : Nat) : Int) == (3 : Int))) == true) (atI x22.1 ((2 : Int))) default).Start == (8 : Int)) && (((cond ((((((x22.1).length : Nat) : Int) == (3 : Int))) == true) (atI x22.1 ((2 : Int))) default).End == (10 : Int)) && true))))) && (x22.2 == (0 : Int))) && ((((x39.1).length : Nat) : Int) == (3 : Int)))) == true) (atI x39.1 ((2 : Int))) default).Start == (0 : Int)) && (((cond (((((((((x22.1).length : Nat) : Int) == (3 : Int)) && (((cond ((((((x22.1).length : Nat) : Int) == (3 : Int))) == true) (atI x22.1 ((2 : Int))) default).Txn == (2 : Int)) && (((cond ((((((x22.1).length : Nat) : Int) == (3 : Int))) == true) (atI x22.1 ((2 : Int))) default).Worker == (2 : Int)) && (((cond ((((((x22.1).length : Nat) : Int) == (3 : Int))) == true) (atI x22.1 ((2 : Int))) default).Start == (8 : Int)) && (((cond ((((((x22.1).length : Nat) : Int) == (3 : Int))) == true) (atI x22.1 ((2 : Int))) default).End == (10 : Int)) && true))))) && (x22.2 == (0 : Int))) && ((((x39.1).length : Nat) : Int) == (3 : Int)))) == true) (atI x39.1 ((2 : Int))) default).End == (2 : Int)) && true))))) && (x39.2 == (0 : Int))) && ((((x71.1).length : Nat) : Int) == (3 : Int)))) == true) h72 q89
  obtain rfl := hr90
  refine Exec.ia tyOk rfl rfl (fun gg0 => ⟨(q89 (gd1_of gg0)).1, (q89 (gd1_of gg0)).2, (hd90 (gd1_of gg0)).some⟩) ?_
  refine Exec.run tyOk 400 rfl ?_
  refine Exec.ld tyOk (x := .agg ⟨[.int .i64 ((cond ((((((((((((x22.1).length : Nat) : Int) == (3 : Int)) && (((cond ((((((x22.1).length : Nat) : Int) == (3 : Int))) == true) (atI x22.1 ((2 : Int))) default).Txn == (2 : Int)) && (((cond ((((((x22.1).length : Nat) : Int) == (3 : Int))) == true) (atI x22.1 ((2 : Int))) default).Worker == (2 : Int)) && (((cond ((((((x22.1).length : Nat) : Int) == (3 : Int))) == true) (atI x22.1 ((2 : Int))) default).Start == (8 : Int)) && (((cond ((((((x22.1).length : Nat) : Int) == (3 : Int))) == true) (atI x22.1 ((2 : Int))) default).End == (10 : Int)) && true))))) && (x22.2 == (0 : Int))) && ((((x39.1).length : Nat) : Int) == (3 : Int))) && (((cond (((((((((x22.1).length : Nat) : Int) == (3 : Int)) && (((cond ((((((x22.1).length : Nat) : Int) == (3 : Int))) == true) (atI x22.1 ((2 : Int))) default).Txn == (2 : Int)) && (((cond ((((((x22.1).length : Nat) : Int) == (3 : Int))) == true) (atI x22.1 ((2 : Int))) default).Worker == (2 : Int)) && (((cond ((((((x22.1).length : Nat) : Int) == (3 : Int))) == true) (atI x22.1 ((2 : Int))) default).Start == (8 : Int)) && (((cond ((((((x22.1).length : Nat) : Int) == (3 : Int))) == true) (atI x22.1 ((2 : Int))) default).End == (10 : Int)) && true))))) && (x22.2 == (0 : Int))) && ((((x39.1).length : Nat) : Int) == (3 : Int)))) == true) (atI x39.1 ((2 : Int))) default).Txn == (2 : Int)) && (((cond (((((((((x22.1).length : Nat) : Int) == (3 : Int)) && (((cond ((((((x22.1).length : Nat) : Int) == (3 : Int))) == true) (atI x22.1 ((2 : Int))) default).Txn == (2 : Int)) && (((cond ((((((x22.1).length : Nat) : Int) == (3 : Int))) == true) (atI x22.1 ((2 : Int))) default).Worker == (2 : Int)) && (((cond ((((((x22.1).length : Nat) : Int) == (3 : Int))) == true) (atI x22.1 ((2 : Int))) default).Start == (8 : Int)) && (((cond ((((((x22.1).length : Nat) : Int) == (3 : Int))) == true) (atI x22.1 ((2 : Int))) default).End == (10 : Int)) && true))))) && (x22.2 == (0 : Int))) && ((((x39.1).length : Nat) : Int) == (3 : Int)))) == true) (atI x39.1 ((2 : Int))) default).Worker == (2 : Int)) && (((cond (((((((((x22.1).length : Nat) : Int) == (3 : Int)) && (((cond ((((((x22.1).length : Nat) : Int) == (3 : Int))) == true) (atI x22.1 ((2 : Int))) default).Txn == (2 : Int)) && (((cond ((((((x22.1).length : Nat) : Int) == (3 : Int))) == true) (atI x22.1 ((2 : Int))) default).Worker == (2 : Int)) && (((cond ((((((x22.1).length : Nat) : Int) == (3 : Int))) == true) (atI x22.1 ((2 : Int))) default).Start == (8 : Int)) && (((cond ((((((x22.1).length : Nat) : Int) == (3 : Int))) == true) (atI x22.1 ((2 : Int))) default).End == (10 : Int)) && true))))) && (x22.2 == (0 : Int))) && ((((x39.1).length : Nat) : Int) == (3 : Int)))) == true) (atI x39.1 ((2 : Int))) default).Start == (0 : Int)) && (((cond (((((((((x22.1).length : Nat) : Int) == (3 : Int)) && (((cond ((((((x22.1).length : Nat) : Int) == (3 : Int))) == true) (atI x22.1 ((2 : Int))) default).Txn == (2 : Int)) && (((cond ((((((x22.1).length : Nat) : Int) == (3 : Int))) == true) (atI x22.1 ((2 : Int))) default).Worker == (2 : Int)) && (((cond ((((((x22.1).length : Nat) : Int) == (3 : Int))) == true) (atI x22.1 ((2 : Int))) default).Start == (8 : Int)) && (((cond ((((((x22.1).length : Nat) : Int) == (3 : Int))) == true) (atI x22.1 ((2 : Int))) default).End == (10 : Int)) && true))))) && (x22.2 == (0 : Int))) && ((((x39.1).length : Nat) : Int) == (3 : Int)))) == true) (atI x39.1 ((2 : Int))) default).End == (2 : Int)) && true))))) && (x39.2 == (0 : Int))) && ((((x71.1).length : Nat) : Int) == (3 : Int)))) == true) (atI x71.1 ((2 : Int))) default).Txn), .int .i64 ((cond ((((((((((((x22.1).length : Nat) : Int) == (3 : Int)) && (((cond ((((((x22.1).length : Nat) : Int) == (3 : Int))) == true) (atI x22.1 ((2 : Int))) default).Txn == (2 : Int)) && (((cond ((((((x22.1).length : Nat) : Int) == (3 : Int))) == true) (atI x22.1 ((2 : Int))) default).Worker == (2 : Int)) && (((cond ((((((x22.1).length : Nat) : Int) == (3 : Int))) == true) (atI x22.1 ((2 : Int))) default).Start == (8 : Int)) && (((cond ((((((x22.1).length : Nat) : Int) == (3 : Int))) == true) (atI x22.1 ((2 : Int))) default).End == (10 : Int)) && true))))) && (x22.2 == (0 : Int))) && ((((x39.1).length : Nat) : Int) == (3 : Int))) && (((cond (((((((((x22.1).length : Nat) : Int) == (3 : Int)) && (((cond ((((((x22.1).length : Nat) : Int) == (3 : Int))) == true) (atI x22.1 ((2 : Int))) default).Txn == (2 : Int)) && (((cond ((((((x22.1).length : Nat) : Int) == (3 : Int))) == true) (atI x22.1 ((2 : Int))) default).Worker == (2 : Int)) && (((cond ((((((x22.1).length : Nat) : Int) == (3 : Int))) == true) (atI x22.1 ((2 : Int))) default).Start == (8 : Int)) && (((cond ((((((x22.1).length : Nat) : Int) == (3 : Int))) == true) (atI x22.1 ((2 : Int))) default).End == (10 : Int)) && true))))) && (x22.2 == (0 : Int))) && ((((x39.1).length : Nat) : Int) == (3 : Int)))) == true) (atI x39.1 ((2 : Int))) default).Txn == (2 : Int)) && (((cond (((((((((x22.1).length : Nat) : Int) == (3 : Int)) && (((cond ((((((x22.1).length : Nat) : Int) == (3 : Int))) == true) (atI x22.1 ((2 : Int))) default).Txn == (2 : Int)) && (((cond ((((((x22.1).length : Nat) : Int) == (3 : Int))) == true) (atI x22.1 ((2 : Int))) default).Worker == (2 : Int)) && (((cond ((((((x22.1).length : Nat) : Int) == (3 : Int))) == true) (atI x22.1 ((2 : Int))) default).Start == (8 : Int)) && (((cond ((((((x22.1).length : Nat) : Int) == (3 : Int))) == true) (atI x22.1 ((2 : Int))) default).End == (10 : Int)) && true))))) && (x22.2 == (0 : Int))) && ((((x39.1).length : Nat) : Int) == (3 : Int)))) == true) (atI x39.1 ((2 : Int))) default).Worker == (2 : Int)) && (((cond (((((((((x22.1).length : Nat) : Int) == (3 : Int)) && (((cond ((((((x22.1).length : Nat) : Int) == (3 : Int))) == true) (atI x22.1 ((2 : Int))) default).Txn == (2 : Int)) && (((cond ((((((x22.1).length : Nat) : Int) == (3 : Int))) == true) (atI x22.1 ((2 : Int))) default).Worker == (2 : Int)) && (((cond ((((((x22.1).length : Nat) : Int) == (3 : Int))) == true) (atI x22.1 ((2 : Int))) default).Start == (8 : Int)) && (((cond ((((((x22.1).length : Nat) : Int) == (3 : Int))) == true) (atI x22.1 ((2 : Int))) default).End == (10 : Int)) && true))))) && (x22.2 == (0 : Int))) && ((((x39.1).length : Nat) : Int) == (3 : Int)))) == true) (atI x39.1 ((2 : Int))) default).Start == (0 : Int)) && (((cond (((((((((x22.1).length : Nat) : Int) == (3 : Int)) && (((cond ((((((x22.1).length : Nat) : Int) == (3 : Int))) == true) (atI x22.1 ((2 : Int))) default).Txn == (2 : Int)) && (((cond ((((((x22.1).length : Nat) : Int) == (3 : Int))) == true) (atI x22.1 ((2 : Int))) default).Worker == (2 : Int)) && (((cond ((((((x22.1).length : Nat) : Int) == (3 : Int))) == true) (atI x22.1 ((2 : Int))) default).Start == (8 : Int)) && (((cond ((((((x22.1).length : Nat) : Int) == (3 : Int))) == true) (atI x22.1 ((2 : Int))) default).End == (10 : Int)) && true))))) && (x22.2 == (0 : Int))) && ((((x39.1).length : Nat) : Int) == (3 : Int)))) == true) (atI x39.1 ((2 : Int))) default).End == (2 : Int)) && true))))) && (x39.2 == (0 : Int))) && ((((x71.1).length : Nat) : Int) == (3 : Int)))) == true) (atI x71.1 ((2 : Int))) default).Worker), .int .i64 ((cond ((((((((((((x22.1).length : Nat) : Int) == (3 : Int)) && (((cond ((((((x22.1).length : Nat) : Int) == (3 : Int))) == true) (atI x22.1 ((2 : Int))) default).Txn == (2 : Int)) && (((cond ((((((x22.1).length : Nat) : Int) == (3 : Int))) == true) (atI x22.1 ((2 : Int))) default).Worker == (2 : Int)) && (((cond ((((((x22.1).length : Nat) : Int) == (3 : Int))) == true) (atI x22.1 ((2 : Int))) default).Start == (8 : Int)) && (((cond ((((((x22.1).length : Nat) : Int) == (3 : Int))) == true) (atI x22.1 ((2 : Int))) default).End == (10 : Int)) && true))))) && (x22.2 == (0 : Int))) && ((((x39.1).length : Nat) : Int) == (3 : Int))) && (((cond (((((((((x22.1).length : Nat) : Int) == (3 : Int)) && (((cond ((((((x22.1).length : Nat) : Int) == (3 : Int))) == true) (atI x22.1 ((2 : Int))) default).Txn == (2 : Int)) && (((cond ((((((x22.1).length : Nat) : Int) == (3 : Int))) == true) (atI x22.1 ((2 : Int))) default).Worker == (2 : Int)) && (((cond ((((((x22.1).length : Nat) : Int) == (3 : Int))) == true) (atI x22.1 ((2 : Int))) default).Start == (8 : Int)) && (((cond ((((((x22.1).length : Nat) : Int) == (3 : Int))) == true) (atI x22.1 ((2 : Int))) default).End == (10 : Int)) && true))))) && (x22.2 == (0 : Int))) && ((((x39.1).length : Nat) : Int) == (3 : Int)))) == true) (atI x39.1 ((2 : Int))) default).Txn == (2 : Int)) && (((cond (((((((((x22.1).length : Nat) : Int) == (3 : Int)) && (((cond ((((((x22.1).length : Nat) : Int) == (3 : Int))) == true) (atI x22.1 ((2 : Int))) default).Txn == (2 : Int)) && (((cond ((((((x22.1).length : Nat) : Int) == (3 : Int))) == true) (atI x22.1 ((2 : Int))) default).Worker == (2 : Int)) && (((cond ((((((x22.1).length : Nat) : Int) == (3 : Int))) == true) (atI x22.1 ((2 : Int))) default).Start == (8 : Int)) && (((cond ((((((x22.1).length : Nat) : Int) == (3 : Int))) == true) (atI x22.1 ((2 : Int))) default).End == (10 : Int)) && true))))) && (x22.2 == (0 : Int))) && ((((x39.1).length : Nat) : Int) == (3 : Int)))) == true) (atI x39.1 ((2 : Int))) default).Worker == (2 : Int)) && (((cond (((((((((x22.1).length : Nat) : Int) == (3 : Int)) && (((cond ((((((x22.1).length : Nat) : Int) == (3 : Int))) == true) (atI x22.1 ((2 : Int))) default).Txn == (2 : Int)) && (((cond ((((((x22.1).length : Nat) : Int) == (3 : Int))) == true) (atI x22.1 ((2 : Int))) default).Worker == (2 : Int)) && (((cond ((((((x22.1).length : Nat) : Int) == (3 : Int))) == true) (atI x22.1 ((2 : Int))) default).Start == (8 : Int)) && (((cond ((((((x22.1).length : Nat) : Int) == (3 : Int))) == true) (atI x22.1 ((2 : Int))) default).End == (10 : Int)) && true))))) && (x22.2 == (0 : Int))) && ((((x39.1).length : Nat) : Int) == (3 : Int)))) == true) (atI x39.1 ((2 : Int))) default).Start == (0 : Int)) && (((cond (((((((((x22.1).length : Nat) : Int) == (3 : Int)) && (((cond ((((((x22.1).length : Nat) : Int) == (3 : Int))) == true) (atI x22.1 ((2 : Int))) default).Txn == (2 : Int)) && (((cond ((((((x22.1).length : Nat) : Int) == (3 : Int))) == true) (atI x22.1 ((2 : Int))) default).Worker == (2 : Int)) && (((cond ((((((x22.1).length : Nat) : Int) == (3 : Int))) == true) (atI x22.1 ((2 : Int))) default).Start == (8 : Int)) && (((cond ((((((x22.1).length : Nat) : Int) == (3 : Int))) == true) (atI x22.1 ((2 : Int))) default).End == (10 : Int)) && true))))) && (x22.2 == (0 : Int))) && ((((x39.1).length : Nat) : Int) == (3 : Int)))) == true) (atI x39.1 ((2 : Int))) default).End == (2 : Int)) && true))))) && (x39.2 == (0 : Int))) && ((((x71.1).length : Nat) : Int) == (3 : Int)))) == true) (atI x71.1 ((2 : Int))) default).Start), .int .i64 ((cond ((((((((((((x22.1).length : Nat) : Int) == (3 : Int)) && (((cond ((((((x22.1).length : Nat) : Int) == (3 : Int))) == true) (atI x22.1 ((2 : Int))) default).Txn == (2 : Int)) && (((cond ((((((x22.1).length : Nat) : Int) == (3 : Int))) == true) (atI x22.1 ((2 : Int))) default).Worker == (2 : Int)) && (((cond ((((((x22.1).length : Nat) : Int) == (3 : Int))) == true) (atI x22.1 ((2 : Int))) default).Start == (8 : Int)) && (((cond ((((((x22.1).length : Nat) : Int) == (3 : Int))) == true) (atI x22.1 ((2 : Int))) default).End == (10 : Int)) && true))))) && (x22.2 == (0 : Int))) && ((((x39.1).length : Nat) : Int) == (3 : Int))) && (((cond (((((((((x22.1).length : Nat) : Int) == (3 : Int)) && (((cond ((((((x22.1).length : Nat) : Int) == (3 : Int))) == true) (atI x22.1 ((2 : Int))) default).Txn == (2 : Int)) && (((cond ((((((x22.1).length : Nat) : Int) == (3 : Int))) == true) (atI x22.1 ((2 : Int))) default).Worker == (2 : Int)) && (((cond ((((((x22.1).length : Nat) : Int) == (3 : Int))) == true) (atI x22.1 ((2 : Int))) default).Start == (8 : Int)) && (((cond ((((((x22.1).length : Nat) : Int) == (3 : Int))) == true) (atI x22.1 ((2 : Int))) default).End == (10 : Int)) && true))))) && (x22.2 == (0 : Int))) && ((((x39.1).length : Nat) : Int) == (3 : Int)))) == true) (atI x39.1 ((2 : Int))) default).Txn == (2 : Int)) && (((cond (((((((((x22.1).length : Nat) : Int) == (3 : Int)) && (((cond ((((((x22.1).length : Nat) : Int) == (3 : Int))) == true) (atI x22.1 ((2 : Int))) default).Txn == (2 : Int)) && (((cond ((((((x22.1).length : Nat) : Int) == (3 : Int))) == true) (atI x22.1 ((2 : Int))) default).Worker == (2 : Int)) && (((cond ((((((x22.1).length : Nat) : Int) == (3 : Int))) == true) (atI x22.1 ((2 : Int))) default).Start == (8 : Int)) && (((cond ((((((x22.1).length : Nat) : Int) == (3 : Int))) == true) (atI x22.1 ((2 : Int))) default).End == (10 : Int)) && true))))) && (x22.2 == (0 : Int))) && ((((x39.1).length : Nat) : Int) == (3 : Int)))) == true) (atI x39.1 ((2 : Int))) default).Worker == (2 : Int)) && (((cond (((((((((x22.1).length : Nat) : Int) == (3 : Int)) && (((cond ((((((x22.1).length : Nat) : Int) == (3 : Int))) == true) (atI x22.1 ((2 : Int))) default).Txn == (2 : Int)) && (((cond ((((((x22.1).length : Nat) : Int) == (3 : Int))) == true) (atI x22.1 ((2 : Int))) default).Worker == (2 : Int)) && (((cond ((((((x22.1).length : Nat) : Int) == (3 : Int))) == true) (atI x22.1 ((2 : Int))) default).Start == (8 : Int)) && (((cond ((((((x22.1).length : Nat) : Int) == (3 : Int))) == true) (atI x22.1 ((2 : Int))) default).End == (10 : Int)) && true))))) && (x22.2 == (0 : Int))) && ((((x39.1).length : Nat) : Int) == (3 : Int)))) == true) (atI x39.1 ((2 : Int))) default).Start == (0 : Int)) && (((cond (((((((((x22.1).length : Nat) : Int) == (3 : Int)) && (((cond ((((((x22.1).length : Nat) : Int) == (3 : Int))) == true) (atI x22.1 ((2 : Int))) default).Txn == (2 : Int)) && (((cond ((((((x22.1).length : Nat) : Int) == (3 : Int))) == true) (atI x22.1 ((2 : Int))) default).Worker == (2 : Int)) && (((cond ((((((x22.1).length : Nat) : Int) == (3 : Int))) == true) (atI x22.1 ((2 : Int))) default).Start == (8 : Int)) && (((cond ((((((x22.1).length : Nat) : Int) == (3 : Int))) == true) (atI x22.1 ((2 : Int))) default).End == (10 : Int)) && true))))) && (x22.2 == (0 : Int))) && ((((x39.1).length : Nat) : Int) == (3 : Int)))) == true) (atI x39.1 ((2 : Int))) default).End == (2 : Int)) && true))))) && (x39.2 == (0 : Int))) && ((((x71.1).length : Nat) : Int) == (3 : Int)))) == true) (atI x71.1 ((2 : Int))) default).End)]⟩) rfl rfl (fun gg0 => (hd90 (gd1_of gg0))) rfl rfl ?_
  refine Exec.run tyOk 400 rfl ?_
  obtain ⟨x91, hx91, hF⟩ := bnd_some hF
  refine Exec.callS (.int .i64 (x91)) rfl rfl (fun gg0 => W_timeline_Makespan x22.1 h75 (gcall_some hx91 (gd1_of gg0))) ?_
  refine Exec.run tyOk 400 rfl ?_
  obtain rfl := some_inj hF
  exact Exec.ret tyOk rfl rfl rfl

def F_clockworklaw28_TimelineVersions_L1 (x7 : List TSpan × Int) (x12 : List TSpan × Int) (x3 : List Int) (J19 : Option Bool) : Nat → Int → Option Bool
  | 0, _ => none
  | n27 + 1, x26 => (cond (decide (x26 < (((x7.1).length : Nat) : Int))) (req (0 ≤ x26 ∧ x26 < ((x7.1).length : Int)) (req (((((atI x7.1 x26).Txn != x26)) == false) = true → 0 ≤ x26 ∧ x26 < ((x12.1).length : Int)) (req ((((((atI x7.1 x26).Txn != x26) || ((cond ((((atI x7.1 x26).Txn != x26)) == false) (atI x12.1 x26) default).Txn != x26))) == false) = true → 0 ≤ x26 ∧ x26 < ((x12.1).length : Int)) (req ((((((atI x7.1 x26).Txn != x26) || ((cond ((((atI x7.1 x26).Txn != x26)) == false) (atI x12.1 x26) default).Txn != x26))) == false) = true → 0 ≤ x26 ∧ x26 < ((x7.1).length : Int)) (req (((((((atI x7.1 x26).Txn != x26) || ((cond ((((atI x7.1 x26).Txn != x26)) == false) (atI x12.1 x26) default).Txn != x26)) || (decide ((cond (((((atI x7.1 x26).Txn != x26) || ((cond ((((atI x7.1 x26).Txn != x26)) == false) (atI x12.1 x26) default).Txn != x26))) == false) (atI x7.1 x26) default).End < (cond (((((atI x7.1 x26).Txn != x26) || ((cond ((((atI x7.1 x26).Txn != x26)) == false) (atI x12.1 x26) default).Txn != x26))) == false) (atI x12.1 x26) default).End)))) == false) = true → 0 ≤ x26 ∧ x26 < ((x12.1).length : Int)) (req (((((((atI x7.1 x26).Txn != x26) || ((cond ((((atI x7.1 x26).Txn != x26)) == false) (atI x12.1 x26) default).Txn != x26)) || (decide ((cond (((((atI x7.1 x26).Txn != x26) || ((cond ((((atI x7.1 x26).Txn != x26)) == false) (atI x12.1 x26) default).Txn != x26))) == false) (atI x7.1 x26) default).End < (cond (((((atI x7.1 x26).Txn != x26) || ((cond ((((atI x7.1 x26).Txn != x26)) == false) (atI x12.1 x26) default).Txn != x26))) == false) (atI x12.1 x26) default).End)))) == false) = true → 0 ≤ x26 ∧ x26 < ((x12.1).length : Int)) (req (((((((atI x7.1 x26).Txn != x26) || ((cond ((((atI x7.1 x26).Txn != x26)) == false) (atI x12.1 x26) default).Txn != x26)) || (decide ((cond (((((atI x7.1 x26).Txn != x26) || ((cond ((((atI x7.1 x26).Txn != x26)) == false) (atI x12.1 x26) default).Txn != x26))) == false) (atI x7.1 x26) default).End < (cond (((((atI x7.1 x26).Txn != x26) || ((cond ((((atI x7.1 x26).Txn != x26)) == false) (atI x12.1 x26) default).Txn != x26))) == false) (atI x12.1 x26) default).End)))) == false) = true → 0 ≤ x26 ∧ x26 < ((x3).length : Int)) (req ((((((((atI x7.1 x26).Txn != x26) || ((cond ((((atI x7.1 x26).Txn != x26)) == false) (atI x12.1 x26) default).Txn != x26)) || (decide ((cond (((((atI x7.1 x26).Txn != x26) || ((cond ((((atI x7.1 x26).Txn != x26)) == false) (atI x12.1 x26) default).Txn != x26))) == false) (atI x7.1 x26) default).End < (cond (((((atI x7.1 x26).Txn != x26) || ((cond ((((atI x7.1 x26).Txn != x26)) == false) (atI x12.1 x26) default).Txn != x26))) == false) (atI x12.1 x26) default).End))) || ((IntKind.i64.wrap ((cond ((((((atI x7.1 x26).Txn != x26) || ((cond ((((atI x7.1 x26).Txn != x26)) == false) (atI x12.1 x26) default).Txn != x26)) || (decide ((cond (((((atI x7.1 x26).Txn != x26) || ((cond ((((atI x7.1 x26).Txn != x26)) == false) (atI x12.1 x26) default).Txn != x26))) == false) (atI x7.1 x26) default).End < (cond (((((atI x7.1 x26).Txn != x26) || ((cond ((((atI x7.1 x26).Txn != x26)) == false) (atI x12.1 x26) default).Txn != x26))) == false) (atI x12.1 x26) default).End)))) == false) (atI x12.1 x26) default).End - (cond ((((((atI x7.1 x26).Txn != x26) || ((cond ((((atI x7.1 x26).Txn != x26)) == false) (atI x12.1 x26) default).Txn != x26)) || (decide ((cond (((((atI x7.1 x26).Txn != x26) || ((cond ((((atI x7.1 x26).Txn != x26)) == false) (atI x12.1 x26) default).Txn != x26))) == false) (atI x7.1 x26) default).End < (cond (((((atI x7.1 x26).Txn != x26) || ((cond ((((atI x7.1 x26).Txn != x26)) == false) (atI x12.1 x26) default).Txn != x26))) == false) (atI x12.1 x26) default).End)))) == false) (atI x12.1 x26) default).Start)) != (cond ((((((atI x7.1 x26).Txn != x26) || ((cond ((((atI x7.1 x26).Txn != x26)) == false) (atI x12.1 x26) default).Txn != x26)) || (decide ((cond (((((atI x7.1 x26).Txn != x26) || ((cond ((((atI x7.1 x26).Txn != x26)) == false) (atI x12.1 x26) default).Txn != x26))) == false) (atI x7.1 x26) default).End < (cond (((((atI x7.1 x26).Txn != x26) || ((cond ((((atI x7.1 x26).Txn != x26)) == false) (atI x12.1 x26) default).Txn != x26))) == false) (atI x12.1 x26) default).End)))) == false) (atI x3 x26) default)))) == false) = true → 0 ≤ x26 ∧ x26 < ((x7.1).length : Int)) (req ((((((((atI x7.1 x26).Txn != x26) || ((cond ((((atI x7.1 x26).Txn != x26)) == false) (atI x12.1 x26) default).Txn != x26)) || (decide ((cond (((((atI x7.1 x26).Txn != x26) || ((cond ((((atI x7.1 x26).Txn != x26)) == false) (atI x12.1 x26) default).Txn != x26))) == false) (atI x7.1 x26) default).End < (cond (((((atI x7.1 x26).Txn != x26) || ((cond ((((atI x7.1 x26).Txn != x26)) == false) (atI x12.1 x26) default).Txn != x26))) == false) (atI x12.1 x26) default).End))) || ((IntKind.i64.wrap ((cond ((((((atI x7.1 x26).Txn != x26) || ((cond ((((atI x7.1 x26).Txn != x26)) == false) (atI x12.1 x26) default).Txn != x26)) || (decide ((cond (((((atI x7.1 x26).Txn != x26) || ((cond ((((atI x7.1 x26).Txn != x26)) == false) (atI x12.1 x26) default).Txn != x26))) == false) (atI x7.1 x26) default).End < (cond (((((atI x7.1 x26).Txn != x26) || ((cond ((((atI x7.1 x26).Txn != x26)) == false) (atI x12.1 x26) default).Txn != x26))) == false) (atI x12.1 x26) default).End)))) == false) (atI x12.1 x26) default).End - (cond ((((((atI x7.1 x26).Txn != x26) || ((cond ((((atI x7.1 x26).Txn != x26)) == false) (atI x12.1 x26) default).Txn != x26)) || (decide ((cond (((((atI x7.1 x26).Txn != x26) || ((cond ((((atI x7.1 x26).Txn != x26)) == false) (atI x12.1 x26) default).Txn != x26))) == false) (atI x7.1 x26) default).End < (cond (((((atI x7.1 x26).Txn != x26) || ((cond ((((atI x7.1 x26).Txn != x26)) == false) (atI x12.1 x26) default).Txn != x26))) == false) (atI x12.1 x26) default).End)))) == false) (atI x12.1 x26) default).Start)) != (cond ((((((atI x7.1 x26).Txn != x26) || ((cond ((((atI x7.1 x26).Txn != x26)) == false) (atI x12.1 x26) default).Txn != x26)) || (decide ((cond (((((atI x7.1 x26).Txn != x26) || ((cond ((((atI x7.1 x26).Txn != x26)) == false) (atI x12.1 x26) default).Txn != x26))) == false) (atI x7.1 x26) default).End < (cond (((((atI x7.1 x26).Txn != x26) || ((cond ((((atI x7.1 x26).Txn != x26)) == false) (atI x12.1 x26) default).Txn != x26))) == false) (atI x12.1 x26) default).End)))) == false) (atI x3 x26) default)))) == false) = true → 0 ≤ x26 ∧ x26 < ((x7.1).length : Int)) (req ((((((((atI x7.1 x26).Txn != x26) || ((cond ((((atI x7.1 x26).Txn != x26)) == false) (atI x12.1 x26) default).Txn != x26)) || (decide ((cond (((((atI x7.1 x26).Txn != x26) || ((cond ((((atI x7.1 x26).Txn != x26)) == false) (atI x12.1 x26) default).Txn != x26))) == false) (atI x7.1 x26) default).End < (cond (((((atI x7.1 x26).Txn != x26) || ((cond ((((atI x7.1 x26).Txn != x26)) == false) (atI x12.1 x26) default).Txn != x26))) == false) (atI x12.1 x26) default).End))) || ((IntKind.i64.wrap ((cond ((((((atI x7.1 x26).Txn != x26) || ((cond ((((atI x7.1 x26).Txn != x26)) == false) (atI x12.1 x26) default).Txn != x26)) || (decide ((cond (((((atI x7.1 x26).Txn != x26) || ((cond ((((atI x7.1 x26).Txn != x26)) == false) (atI x12.1 x26) default).Txn != x26))) == false) (atI x7.1 x26) default).End < (cond (((((atI x7.1 x26).Txn != x26) || ((cond ((((atI x7.1 x26).Txn != x26)) == false) (atI x12.1 x26) default).Txn != x26))) == false) (atI x12.1 x26) default).End)))) == false) (atI x12.1 x26) default).End - (cond ((((((atI x7.1 x26).Txn != x26) || ((cond ((((atI x7.1 x26).Txn != x26)) == false) (atI x12.1 x26) default).Txn != x26)) || (decide ((cond (((((atI x7.1 x26).Txn != x26) || ((cond ((((atI x7.1 x26).Txn != x26)) == false) (atI x12.1 x26) default).Txn != x26))) == false) (atI x7.1 x26) default).End < (cond (((((atI x7.1 x26).Txn != x26) || ((cond ((((atI x7.1 x26).Txn != x26)) == false) (atI x12.1 x26) default).Txn != x26))) == false) (atI x12.1 x26) default).End)))) == false) (atI x12.1 x26) default).Start)) != (cond ((((((atI x7.1 x26).Txn != x26) || ((cond ((((atI x7.1 x26).Txn != x26)) == false) (atI x12.1 x26) default).Txn != x26)) || (decide ((cond (((((atI x7.1 x26).Txn != x26) || ((cond ((((atI x7.1 x26).Txn != x26)) == false) (atI x12.1 x26) default).Txn != x26))) == false) (atI x7.1 x26) default).End < (cond (((((atI x7.1 x26).Txn != x26) || ((cond ((((atI x7.1 x26).Txn != x26)) == false) (atI x12.1 x26) default).Txn != x26))) == false) (atI x12.1 x26) default).End)))) == false) (atI x3 x26) default)))) == false) = true → 0 ≤ x26 ∧ x26 < ((x3).length : Int)) (cond ((((((atI x7.1 x26).Txn != x26) || ((cond ((((atI x7.1 x26).Txn != x26)) == false) (atI x12.1 x26) default).Txn != x26)) || (decide ((cond (((((atI x7.1 x26).Txn != x26) || ((cond ((((atI x7.1 x26).Txn != x26)) == false) (atI x12.1 x26) default).Txn != x26))) == false) (atI x7.1 x26) default).End < (cond (((((atI x7.1 x26).Txn != x26) || ((cond ((((atI x7.1 x26).Txn != x26)) == false) (atI x12.1 x26) default).Txn != x26))) == false) (atI x12.1 x26) default).End))) || ((IntKind.i64.wrap ((cond ((((((atI x7.1 x26).Txn != x26) || ((cond ((((atI x7.1 x26).Txn != x26)) == false) (atI x12.1 x26) default).Txn != x26)) || (decide ((cond (((((atI x7.1 x26).Txn != x26) || ((cond ((((atI x7.1 x26).Txn != x26)) == false) (atI x12.1 x26) default).Txn != x26))) == false) (atI x7.1 x26) default).End < (cond (((((atI x7.1 x26).Txn != x26) || ((cond ((((atI x7.1 x26).Txn != x26)) == false) (atI x12.1 x26) default).Txn != x26))) == false) (atI x12.1 x26) default).End)))) == false) (atI x12.1 x26) default).End - (cond ((((((atI x7.1 x26).Txn != x26) || ((cond ((((atI x7.1 x26).Txn != x26)) == false) (atI x12.1 x26) default).Txn != x26)) || (decide ((cond (((((atI x7.1 x26).Txn != x26) || ((cond ((((atI x7.1 x26).Txn != x26)) == false) (atI x12.1 x26) default).Txn != x26))) == false) (atI x7.1 x26) default).End < (cond (((((atI x7.1 x26).Txn != x26) || ((cond ((((atI x7.1 x26).Txn != x26)) == false) (atI x12.1 x26) default).Txn != x26))) == false) (atI x12.1 x26) default).End)))) == false) (atI x12.1 x26) default).Start)) != (cond ((((((atI x7.1 x26).Txn != x26) || ((cond ((((atI x7.1 x26).Txn != x26)) == false) (atI x12.1 x26) default).Txn != x26)) || (decide ((cond (((((atI x7.1 x26).Txn != x26) || ((cond ((((atI x7.1 x26).Txn != x26)) == false) (atI x12.1 x26) default).Txn != x26))) == false) (atI x7.1 x26) default).End < (cond (((((atI x7.1 x26).Txn != x26) || ((cond ((((atI x7.1 x26).Txn != x26)) == false) (atI x12.1 x26) default).Txn != x26))) == false) (atI x12.1 x26) default).End)))) == false) (atI x3 x26) default))) || ((IntKind.i64.wrap ((cond (((((((atI x7.1 x26).Txn != x26) || ((cond ((((atI x7.1 x26).Txn != x26)) == false) (atI x12.1 x26) default).Txn != x26)) || (decide ((cond (((((atI x7.1 x26).Txn != x26) || ((cond ((((atI x7.1 x26).Txn != x26)) == false) (atI x12.1 x26) default).Txn != x26))) == false) (atI x7.1 x26) default).End < (cond (((((atI x7.1 x26).Txn != x26) || ((cond ((((atI x7.1 x26).Txn != x26)) == false) (atI x12.1 x26) default).Txn != x26))) == false) (atI x12.1 x26) default).End))) || ((IntKind.i64.wrap ((cond ((((((atI x7.1 x26).Txn != x26) || ((cond ((((atI x7.1 x26).Txn != x26)) == false) (atI x12.1 x26) default).Txn != x26)) || (decide ((cond (((((atI x7.1 x26).Txn != x26) || ((cond ((((atI x7.1 x26).Txn != x26)) == false) (atI x12.1 x26) default).Txn != x26))) == false) (atI x7.1 x26) default).End < (cond (((((atI x7.1 x26).Txn != x26) || ((cond ((((atI x7.1 x26).Txn != x26)) == false) (atI x12.1 x26) default).Txn != x26))) == false) (atI x12.1 x26) default).End)))) == false) (atI x12.1 x26) default).End - (cond ((((((atI x7.1 x26).Txn != x26) || ((cond ((((atI x7.1 x26).Txn != x26)) == false) (atI x12.1 x26) default).Txn != x26)) || (decide ((cond (((((atI x7.1 x26).Txn != x26) || ((cond ((((atI x7.1 x26).Txn != x26)) == false) (atI x12.1 x26) default).Txn != x26))) == false) (atI x7.1 x26) default).End < (cond (((((atI x7.1 x26).Txn != x26) || ((cond ((((atI x7.1 x26).Txn != x26)) == false) (atI x12.1 x26) default).Txn != x26))) == false) (atI x12.1 x26) default).End)))) == false) (atI x12.1 x26) default).Start)) != (cond ((((((atI x7.1 x26).Txn != x26) || ((cond ((((atI x7.1 x26).Txn != x26)) == false) (atI x12.1 x26) default).Txn != x26)) || (decide ((cond (((((atI x7.1 x26).Txn != x26) || ((cond ((((atI x7.1 x26).Txn != x26)) == false) (atI x12.1 x26) default).Txn != x26))) == false) (atI x7.1 x26) default).End < (cond (((((atI x7.1 x26).Txn != x26) || ((cond ((((atI x7.1 x26).Txn != x26)) == false) (atI x12.1 x26) default).Txn != x26))) == false) (atI x12.1 x26) default).End)))) == false) (atI x3 x26) default)))) == false) (atI x7.1 x26) default).End - (cond (((((((atI x7.1 x26).Txn != x26) || ((cond ((((atI x7.1 x26).Txn != x26)) == false) (atI x12.1 x26) default).Txn != x26)) || (decide ((cond (((((atI x7.1 x26).Txn != x26) || ((cond ((((atI x7.1 x26).Txn != x26)) == false) (atI x12.1 x26) default).Txn != x26))) == false) (atI x7.1 x26) default).End < (cond (((((atI x7.1 x26).Txn != x26) || ((cond ((((atI x7.1 x26).Txn != x26)) == false) (atI x12.1 x26) default).Txn != x26))) == false) (atI x12.1 x26) default).End))) || ((IntKind.i64.wrap ((cond ((((((atI x7.1 x26).Txn != x26) || ((cond ((((atI x7.1 x26).Txn != x26)) == false) (atI x12.1 x26) default).Txn != x26)) || (decide ((cond (((((atI x7.1 x26).Txn != x26) || ((cond ((((atI x7.1 x26).Txn != x26)) == false) (atI x12.1 x26) default).Txn != x26))) == false) (atI x7.1 x26) default).End < (cond (((((atI x7.1 x26).Txn != x26) || ((cond ((((atI x7.1 x26).Txn != x26)) == false) (atI x12.1 x26) default).Txn != x26))) == false) (atI x12.1 x26) default).End)))) == false) (atI x12.1 x26) default).End - (cond ((((((atI x7.1 x26).Txn != x26) || ((cond ((((atI x7.1 x26).Txn != x26)) == false) (atI x12.1 x26) default).Txn != x26)) || (decide ((cond (((((atI x7.1 x26).Txn != x26) || ((cond ((((atI x7.1 x26).Txn != x26)) == false) (atI x12.1 x26) default).Txn != x26))) == false) (atI x7.1 x26) default).End < (cond (((((atI x7.1 x26).Txn != x26) || ((cond ((((atI x7.1 x26).Txn != x26)) == false) (atI x12.1 x26) default).Txn != x26))) == false) (atI x12.1 x26) default).End)))) == false) (atI x12.1 x26) default).Start)) != (cond ((((((atI x7.1 x26).Txn != x26) || ((cond ((((atI x7.1 x26).Txn != x26)) == false) (atI x12.1 x26) default).Txn != x26)) || (decide ((cond (((((atI x7.1 x26).Txn != x26) || ((cond ((((atI x7.1 x26).Txn != x26)) == false) (atI x12.1 x26) default).Txn != x26))) == false) (atI x7.1 x26) default).End < (cond (((((atI x7.1 x26).Txn != x26) || ((cond ((((atI x7.1 x26).Txn != x26)) == false) (atI x12.1 x26) default).Txn != x26))) == false) (atI x12.1 x26) default).End)))) == false) (atI x3 x26) default)))) == false) (atI x7.1 x26) default).Start)) != (cond (((((((atI x7.1 x26).Txn != x26) || ((cond ((((atI x7.1 x26).Txn != x26)) == false) (atI x12.1 x26) default).Txn != x26)) || (decide ((cond (((((atI x7.1 x26).Txn != x26) || ((cond ((((atI x7.1 x26).Txn != x26)) == false) (atI x12.1 x26) default).Txn != x26))) == false) (atI x7.1 x26) default).End < (cond (((((atI x7.1 x26).Txn != x26) || ((cond ((((atI x7.1 x26).Txn != x26)) == false) (atI x12.1 x26) default).Txn != x26))) == false) (atI x12.1 x26) default).End))) || ((IntKind.i64.wrap ((cond ((((((atI x7.1 x26).Txn != x26) || ((cond ((((atI x7.1 x26).Txn != x26)) == false) (atI x12.1 x26) default).Txn != x26)) || (decide ((cond (((((atI x7.1 x26).Txn != x26) || ((cond ((((atI x7.1 x26).Txn != x26)) == false) (atI x12.1 x26) default).Txn != x26))) == false) (atI x7.1 x26) default).End < (cond (((((atI x7.1 x26).Txn != x26) || ((cond ((((atI x7.1 x26).Txn != x26)) == false) (atI x12.1 x26) default).Txn != x26))) == false) (atI x12.1 x26) default).End)))) == false) (atI x12.1 x26) default).End - (cond ((((((atI x7.1 x26).Txn != x26) || ((cond ((((atI x7.1 x26).Txn != x26)) == false) (atI x12.1 x26) default).Txn != x26)) || (decide ((cond (((((atI x7.1 x26).Txn != x26) || ((cond ((((atI x7.1 x26).Txn != x26)) == false) (atI x12.1 x26) default).Txn != x26))) == false) (atI x7.1 x26) default).End < (cond (((((atI x7.1 x26).Txn != x26) || ((cond ((((atI x7.1 x26).Txn != x26)) == false) (atI x12.1 x26) default).Txn != x26))) == false) (atI x12.1 x26) default).End)))) == false) (atI x12.1 x26) default).Start)) != (cond ((((((atI x7.1 x26).Txn != x26) || ((cond ((((atI x7.1 x26).Txn != x26)) == false) (atI x12.1 x26) default).Txn != x26)) || (decide ((cond (((((atI x7.1 x26).Txn != x26) || ((cond ((((atI x7.1 x26).Txn != x26)) == false) (atI x12.1 x26) default).Txn != x26))) == false) (atI x7.1 x26) default).End < (cond (((((atI x7.1 x26).Txn != x26) || ((cond ((((atI x7.1 x26).Txn != x26)) == false) (atI x12.1 x26) default).Txn != x26))) == false) (atI x12.1 x26) default).End)))) == false) (atI x3 x26) default)))) == false) (atI x3 x26) default))) (some false) (F_clockworklaw28_TimelineVersions_L1 x7 x12 x3 J19 n27 ((IntKind.i64.wrap (x26 + (1 : Int)))))))))))))))) J19)

def F_clockworklaw28_TimelineVersions (x1 : List TFootprint) (x3 : List Int) : Option Bool :=
  (bnd (F_clockworkref25_Few x1 ((10 : Int))) fun x5 => (cond ((!x5) || (decide ((20 : Int) < (((x3).length : Nat) : Int)))) (bnd (F_clockworklaw28_lives ) fun x6 => (some x6)) (bnd (F_timeline_Lock x1 x3) fun x7 => (bnd (F_timeline_Version x1 x3) fun x12 => (cond ((x7.2 != x12.2) || ((((x7.1).length : Nat) : Int) != (((x12.1).length : Nat) : Int))) (some false) (cond (x7.2 != (0 : Int)) (bnd (gcall ((((((x7.1).length : Nat) : Int) == (0 : Int))) == true) (F_clockworklaw28_lives )) fun x18 => (some (((((x7.1).length : Nat) : Int) == (0 : Int)) && x18))) (cond ((((x7.1).length : Nat) : Int) != (((x1).length : Nat) : Int)) (some false) (jn ((bnd (F_timeline_Makespan x12.1) fun x23 => (bnd (F_timeline_Makespan x7.1) fun x24 => (bnd (gcall (((decide (x23 ≤ x24))) == true) (F_clockworklaw28_lives )) fun x25 => (some ((decide (x23 ≤ x24)) && x25)))))) (fun J19 => (F_clockworklaw28_TimelineVersions_L1 x7 x12 x3 J19 (((((x7.1).length : Nat) : Int)).toNat + 1) ((0 : Int))))))))))))

set_option maxRecDepth 100000 in
theorem W_clockworklaw28_TimelineVersions {V : View} (x1 : List TFootprint) (x3 : List Int) {a2 : Option Addr} {k2 : Nat} {a4 : Option Addr} {k4 : Nat} (h2 : SlAt cTFootprint V a2 k2 x1) (h4 : SlAt (cInt .i64) V a4 k4 x3) {r : Bool} (hF : F_clockworklaw28_TimelineVersions x1 x3 = some r) :
    Spec Try.prog 3 [.slice a2 ((x1).length) (k2), .slice a4 ((x3).length) (k4)] V (fun _ v => v = .bool (r)) := by
  unfold F_clockworklaw28_TimelineVersions at hF
  refine Spec.enter (T := tyT) Try.func3 rfl (by kernel_rfl) rfl rfl rfl ?_
  refine Exec.run tyOk 400 rfl ?_
  obtain ⟨x5, hx5, hF⟩ := bnd_some hF
  refine Exec.callS (.bool (x5)) rfl rfl (W_clockworkref25_Few x1 ((10 : Int)) h2 hx5) ?_
  refine Exec.run tyOk 400 rfl ?_
  rcases cond_some hF with ⟨hb, hF⟩ | ⟨hb, hF⟩
  · skip
    refine Exec.ifT rfl hb ?_
    refine Exec.run tyOk 400 rfl ?_
    obtain ⟨x6, hx6, hF⟩ := bnd_some hF
    refine Exec.callS (.bool (x6)) rfl rfl (W_clockworklaw28_lives   hx6) ?_
    refine Exec.run tyOk 400 rfl ?_
    obtain rfl := some_inj hF
    exact Exec.ret tyOk rfl rfl rfl
  · skip
    refine Exec.ifF rfl hb ?_
    refine Exec.run tyOk 400 rfl ?_
    obtain ⟨x7, hx7, hF⟩ := bnd_some hF
    refine Exec.call rfl rfl (W_timeline_Lock x1 x3 h2 h4 hx7) ?_
    rintro V9 _ hv9 ⟨a8, k8, rfl, h8⟩
    have h10 := SlAt.mono h2 hv9
    have h11 := SlAt.mono h4 hv9
    refine Exec.run tyOk 400 rfl ?_
    obtain ⟨x12, hx12, hF⟩ := bnd_some hF
    refine Exec.call rfl rfl (W_timeline_Version x1 x3 h10 h11 hx12) ?_
    rintro V14 _ hv14 ⟨a13, k13, rfl, h13⟩
    have h15 := SlAt.mono h10 hv14
    have h16 := SlAt.mono h11 hv14
    have h17 := SlAt.mono h8 hv14
    refine Exec.run tyOk 400 rfl ?_
    rcases cond_some hF with ⟨hb, hF⟩ | ⟨hb, hF⟩
    · skip
      refine Exec.ifT rfl hb ?_
      refine Exec.run tyOk 400 rfl ?_
      obtain rfl := some_inj hF
      exact Exec.ret tyOk rfl rfl rfl
    · skip
      refine Exec.ifF rfl hb ?_
      refine Exec.run tyOk 400 rfl ?_
      rcases cond_some hF with ⟨hb, hF⟩ | ⟨hb, hF⟩
      · skip
        refine Exec.ifT rfl hb ?_
        refine Exec.run tyOk 400 rfl ?_
        obtain ⟨x18, hx18, hF⟩ := bnd_some hF
        refine Exec.callS (.bool (x18)) rfl rfl (fun gg0 => W_clockworklaw28_lives   (gcall_some hx18 (gd1_of gg0))) ?_
        refine Exec.run tyOk 400 rfl ?_
        obtain rfl := some_inj hF
        exact Exec.ret tyOk rfl rfl rfl
      · skip
        refine Exec.ifF rfl hb ?_
        refine Exec.run tyOk 400 rfl ?_
        rcases cond_some hF with ⟨hb, hF⟩ | ⟨hb, hF⟩
        · skip
          refine Exec.ifT rfl hb ?_
          refine Exec.run tyOk 400 rfl ?_
          obtain rfl := some_inj hF
          exact Exec.ret tyOk rfl rfl rfl
        · skip
          refine Exec.ifF rfl hb ?_
          refine Exec.run tyOk 6 rfl ?_
          obtain ⟨J19, hJ19, hF⟩ := jn_some hF
          refine Exec.seam (fun L' V' M' => L' = [(5, .v (.slice a8 ((x7.1).length) (k8))), (7, .v (.slice a13 ((x12.1).length) (k13)))] ∧ M' = [] ∧ SlAt cTSpan V' a8 k8 x7.1 ∧ SlAt cTSpan V' a13 k13 x12.1 ∧ J19 = some r) rfl ?_ ?_
          · rintro L' V20 M' ⟨rfl, rfl, h21, h22, hF⟩
            subst hJ19
            refine Exec.run tyOk 400 rfl ?_
            obtain ⟨x23, hx23, hF⟩ := bnd_some hF
            refine Exec.callS (.int .i64 (x23)) rfl rfl (W_timeline_Makespan x12.1 h22 hx23) ?_
            refine Exec.run tyOk 400 rfl ?_
            obtain ⟨x24, hx24, hF⟩ := bnd_some hF
            refine Exec.callS (.int .i64 (x24)) rfl rfl (W_timeline_Makespan x7.1 h21 hx24) ?_
            refine Exec.run tyOk 400 rfl ?_
            obtain ⟨x25, hx25, hF⟩ := bnd_some hF
            refine Exec.callS (.bool (x25)) rfl rfl (fun gg0 => W_clockworklaw28_lives   (gcall_some hx25 (gd1_of gg0))) ?_
            refine Exec.run tyOk 400 rfl ?_
            obtain rfl := some_inj hF
            exact Exec.ret tyOk rfl rfl rfl
          · skip
            refine Exec.run tyOk 400 rfl ?_
            refine Exec.loop (fun n27 L' V' M' => ∃ (x26 : Int), L' = [(1, .v (.slice a4 ((x3).length) (k4))), (5, .v (.slice a8 ((x7.1).length) (k8))), (7, .v (.slice a13 ((x12.1).length) (k13))), (9, .v (.int .i64 (x26)))] ∧ M' = [] ∧ SlAt (cInt .i64) V' a4 k4 x3 ∧ SlAt cTSpan V' a8 k8 x7.1 ∧ SlAt cTSpan V' a13 k13 x12.1 ∧ F_clockworklaw28_TimelineVersions_L1 x7 x12 x3 J19 n27 x26 = some r) ⟨(((((x7.1).length : Nat) : Int)).toNat + 1), [(1, .v (.slice a4 ((x3).length) (k4))), (5, .v (.slice a8 ((x7.1).length) (k8))), (7, .v (.slice a13 ((x12.1).length) (k13))), (9, .v (.int .i64 ((0 : Int))))], ⟨rfl, rfl, rfl, rfl, trivial⟩, (0 : Int), rfl, rfl, h16, h17, h13, hF⟩ ?_
            rintro n27 L' V28 M' ⟨x26, rfl, rfl, h29, h30, h31, hF⟩
            rcases n27 with _ | n27
            · exact absurd hF (by simp [F_clockworklaw28_TimelineVersions_L1])
            rw [F_clockworklaw28_TimelineVersions_L1] at hF
            refine Exec.run tyOk 400 rfl ?_
            rcases cond_some hF with ⟨hb, hF⟩ | ⟨hb, hF⟩
            · skip
              refine Exec.ifT rfl hb ?_
              refine Exec.run tyOk 400 rfl ?_
              refine Exec.draws tyOk [(0, true), (1, true), (2, true), (3, true), (4, true), (5, true), (6, true), (7, true), (8, true), (9, true), (10, true), (11, true), (12, true), (13, true), (14, true), (15, true), (16, true), (17, true), (18, true), (19, true), (20, true), (21, true), (22, true), (23, true), (24, true), (25, true), (26, true), (27, true), (28, true), (29, true), (30, true), (31, true), (32, true), (33, true), (34, true), (35, true), (36, true), (37, true), (38, true), (39, true), (40, true), (41, true), (42, true), (43, true), (44, true), (45, true), (46, true), (47, true), (48, true), (49, true), (50, true), (51, true), (52, true), (53, true), (54, true), (55, true), (56, true), (57, true), (58, true), (59, true), (60, true), (61, true), (62, true), (63, true), (64, true)] rfl (by kernel_rfl) ?_
              refine Exec.run tyOk 400 rfl ?_
              obtain ⟨q32, hF⟩ := req_some hF
              obtain ⟨c33, hr33, hd33⟩ := SlAt.get h30 q32
              obtain rfl := hr33
              refine Exec.fia tyOk rfl rfl rfl ⟨q32.1, q32.2, hd33.some⟩ ?_
              refine Exec.run tyOk 400 rfl ?_
              refine Exec.fld tyOk (x := .int .i64 ((atI x7.1 x26).Txn)) rfl rfl rfl (RdAt.part hd33 0 1 rfl) rfl rfl ?_
              refine Exec.run tyOk 400 rfl ?_
              obtain ⟨q34, hF⟩ := req_some hF
              obtain ⟨c35, hr35, hd35⟩ := SlAt.gget ((((atI x7.1 x26).Txn != x26)) == false) h31 q34
              obtain rfl := hr35
              refine Exec.fia tyOk rfl rfl rfl (fun gg0 => ⟨(q34 (gd1_of gg0)).1, (q34 (gd1_of gg0)).2, (hd35 (gd1_of gg0)).some⟩) ?_
              refine Exec.run tyOk 400 rfl ?_
              refine Exec.fld tyOk (x := .int .i64 ((cond ((((atI x7.1 x26).Txn != x26)) == false) (atI x12.1 x26) default).Txn)) rfl rfl rfl (fun gg0 => (RdAt.part (hd35 (gd1_of gg0)) 0 1 rfl)) rfl rfl ?_
              refine Exec.run tyOk 400 rfl ?_
              obtain ⟨q36, hF⟩ := req_some hF
              obtain ⟨c37, hr37, hd37⟩ := SlAt.gget (((((atI x7.1 x26).Txn != x26) || ((cond ((((atI x7.1 x26).Txn != x26)) == false) (atI x12.1 x26) default).Txn != x26))) == false) h31 q36
              obtain rfl := hr37
              refine Exec.fia tyOk rfl rfl rfl (fun gg0 => ⟨(q36 (gd1_of gg0)).1, (q36 (gd1_of gg0)).2, (hd37 (gd1_of gg0)).some⟩) ?_
              refine Exec.run tyOk 400 rfl ?_
              refine Exec.fld tyOk (x := .int .i64 ((cond (((((atI x7.1 x26).Txn != x26) || ((cond ((((atI x7.1 x26).Txn != x26)) == false) (atI x12.1 x26) default).Txn != x26))) == false) (atI x12.1 x26) default).End)) rfl rfl rfl (fun gg0 => (RdAt.part (hd37 (gd1_of gg0)) 3 1 rfl)) rfl rfl ?_
              refine Exec.run tyOk 400 rfl ?_
              obtain ⟨q38, hF⟩ := req_some hF
              obtain ⟨c39, hr39, hd39⟩ := SlAt.gget (((((atI x7.1 x26).Txn != x26) || ((cond ((((atI x7.1 x26).Txn != x26)) == false) (atI x12.1 x26) default).Txn != x26))) == false) h30 q38
              obtain rfl := hr39
              refine Exec.fia tyOk rfl rfl rfl (fun gg0 => ⟨(q38 (gd1_of gg0)).1, (q38 (gd1_of gg0)).2, (hd39 (gd1_of gg0)).some⟩) ?_
              refine Exec.run tyOk 400 rfl ?_
              refine Exec.fld tyOk (x := .int .i64 ((cond (((((atI x7.1 x26).Txn != x26) || ((cond ((((atI x7.1 x26).Txn != x26)) == false) (atI x12.1 x26) default).Txn != x26))) == false) (atI x7.1 x26) default).End)) rfl rfl rfl (fun gg0 => (RdAt.part (hd39 (gd1_of gg0)) 3 1 rfl)) rfl rfl ?_
              refine Exec.run tyOk 400 rfl ?_
              obtain ⟨q40, hF⟩ := req_some hF
              obtain ⟨c41, hr41, hd41⟩ := SlAt.gget ((((((atI x7.1 x26).Txn != x26) || ((cond ((((atI x7.1 x26).Txn != x26)) == false) (atI x12.1 x26) default).Txn != x26)) || (decide ((cond (((((atI x7.1 x26).Txn != x26) || ((cond ((((atI x7.1 x26).Txn != x26)) == false) (atI x12.1 x26) default).Txn != x26))) == false) (atI x7.1 x26) default).End < (cond (((((atI x7.1 x26).Txn != x26) || ((cond ((((atI x7.1 x26).Txn != x26)) == false) (atI x12.1 x26) default).Txn != x26))) == false) (atI x12.1 x26) default).End)))) == false) h31 q40
              obtain rfl := hr41
              refine Exec.fia tyOk rfl rfl rfl (fun gg0 => ⟨(q40 (gd1_of gg0)).1, (q40 (gd1_of gg0)).2, (hd41 (gd1_of gg0)).some⟩) ?_
              refine Exec.run tyOk 400 rfl ?_
              refine Exec.fld tyOk (x := .int .i64 ((cond ((((((atI x7.1 x26).Txn != x26) || ((cond ((((atI x7.1 x26).Txn != x26)) == false) (atI x12.1 x26) default).Txn != x26)) || (decide ((cond (((((atI x7.1 x26).Txn != x26) || ((cond ((((atI x7.1 x26).Txn != x26)) == false) (atI x12.1 x26) default).Txn != x26))) == false) (atI x7.1 x26) default).End < (cond (((((atI x7.1 x26).Txn != x26) || ((cond ((((atI x7.1 x26).Txn != x26)) == false) (atI x12.1 x26) default).Txn != x26))) == false) (atI x12.1 x26) default).End)))) == false) (atI x12.1 x26) default).End)) rfl rfl rfl (fun gg0 => (RdAt.part (hd41 (gd1_of gg0)) 3 1 rfl)) rfl rfl ?_
              refine Exec.run tyOk 400 rfl ?_
              obtain ⟨q42, hF⟩ := req_some hF
              obtain ⟨c43, hr43, hd43⟩ := SlAt.gget ((((((atI x7.1 x26).Txn != x26) || ((cond ((((atI x7.1 x26).Txn != x26)) == false) (atI x12.1 x26) default).Txn != x26)) || (decide ((cond (((((atI x7.1 x26).Txn != x26) || ((cond ((((atI x7.1 x26).Txn != x26)) == false) (atI x12.1 x26) default).Txn != x26))) == false) (atI x7.1 x26) default).End < (cond (((((atI x7.1 x26).Txn != x26) || ((cond ((((atI x7.1 x26).Txn != x26)) == false) (atI x12.1 x26) default).Txn != x26))) == false) (atI x12.1 x26) default).End)))) == false) h31 q42
              obtain rfl := hr43
              refine Exec.fia tyOk rfl rfl rfl (fun gg0 => ⟨(q42 (gd1_of gg0)).1, (q42 (gd1_of gg0)).2, (hd43 (gd1_of gg0)).some⟩) ?_
              refine Exec.run tyOk 400 rfl ?_
              refine Exec.fld tyOk (x := .int .i64 ((cond ((((((atI x7.1 x26).Txn != x26) || ((cond ((((atI x7.1 x26).Txn != x26)) == false) (atI x12.1 x26) default).Txn != x26)) || (decide ((cond (((((atI x7.1 x26).Txn != x26) || ((cond ((((atI x7.1 x26).Txn != x26)) == false) (atI x12.1 x26) default).Txn != x26))) == false) (atI x7.1 x26) default).End < (cond (((((atI x7.1 x26).Txn != x26) || ((cond ((((atI x7.1 x26).Txn != x26)) == false) (atI x12.1 x26) default).Txn != x26))) == false) (atI x12.1 x26) default).End)))) == false) (atI x12.1 x26) default).Start)) rfl rfl rfl (fun gg0 => (RdAt.part (hd43 (gd1_of gg0)) 2 1 rfl)) rfl rfl ?_
              refine Exec.run tyOk 400 rfl ?_
              obtain ⟨q44, hF⟩ := req_some hF
              obtain ⟨c45, hr45, hd45⟩ := SlAt.gget ((((((atI x7.1 x26).Txn != x26) || ((cond ((((atI x7.1 x26).Txn != x26)) == false) (atI x12.1 x26) default).Txn != x26)) || (decide ((cond (((((atI x7.1 x26).Txn != x26) || ((cond ((((atI x7.1 x26).Txn != x26)) == false) (atI x12.1 x26) default).Txn != x26))) == false) (atI x7.1 x26) default).End < (cond (((((atI x7.1 x26).Txn != x26) || ((cond ((((atI x7.1 x26).Txn != x26)) == false) (atI x12.1 x26) default).Txn != x26))) == false) (atI x12.1 x26) default).End)))) == false) h29 q44
              obtain rfl := hr45
              refine Exec.fia tyOk rfl rfl rfl (fun gg0 => ⟨(q44 (gd1_of gg0)).1, (q44 (gd1_of gg0)).2, (hd45 (gd1_of gg0)).some⟩) ?_
              refine Exec.run tyOk 400 rfl ?_
              refine Exec.fld tyOk (x := .int .i64 ((cond ((((((atI x7.1 x26).Txn != x26) || ((cond ((((atI x7.1 x26).Txn != x26)) == false) (atI x12.1 x26) default).Txn != x26)) || (decide ((cond (((((atI x7.1 x26).Txn != x26) || ((cond ((((atI x7.1 x26).Txn != x26)) == false) (atI x12.1 x26) default).Txn != x26))) == false) (atI x7.1 x26) default).End < (cond (((((atI x7.1 x26).Txn != x26) || ((cond ((((atI x7.1 x26).Txn != x26)) == false) (atI x12.1 x26) default).Txn != x26))) == false) (atI x12.1 x26) default).End)))) == false) (atI x3 x26) default))) rfl rfl rfl (fun gg0 => (hd45 (gd1_of gg0))) rfl rfl ?_
              refine Exec.run tyOk 400 rfl ?_
              obtain ⟨q46, hF⟩ := req_some hF
              obtain ⟨c47, hr47, hd47⟩ := SlAt.gget (((((((atI x7.1 x26).Txn != x26) || ((cond ((((atI x7.1 x26).Txn != x26)) == false) (atI x12.1 x26) default).Txn != x26)) || (decide ((cond (((((atI x7.1 x26).Txn != x26) || ((cond ((((atI x7.1 x26).Txn != x26)) == false) (atI x12.1 x26) default).Txn != x26))) == false) (atI x7.1 x26) default).End < (cond (((((atI x7.1 x26).Txn != x26) || ((cond ((((atI x7.1 x26).Txn != x26)) == false) (atI x12.1 x26) default).Txn != x26))) == false) (atI x12.1 x26) default).End))) || ((IntKind.i64.wrap ((cond ((((((atI x7.1 x26).Txn != x26) || ((cond ((((atI x7.1 x26).Txn != x26)) == false) (atI x12.1 x26) default).Txn != x26)) || (decide ((cond (((((atI x7.1 x26).Txn != x26) || ((cond ((((atI x7.1 x26).Txn != x26)) == false) (atI x12.1 x26) default).Txn != x26))) == false) (atI x7.1 x26) default).End < (cond (((((atI x7.1 x26).Txn != x26) || ((cond ((((atI x7.1 x26).Txn != x26)) == false) (atI x12.1 x26) default).Txn != x26))) == false) (atI x12.1 x26) default).End)))) == false) (atI x12.1 x26) default).End - (cond ((((((atI x7.1 x26).Txn != x26) || ((cond ((((atI x7.1 x26).Txn != x26)) == false) (atI x12.1 x26) default).Txn != x26)) || (decide ((cond (((((atI x7.1 x26).Txn != x26) || ((cond ((((atI x7.1 x26).Txn != x26)) == false) (atI x12.1 x26) default).Txn != x26))) == false) (atI x7.1 x26) default).End < (cond (((((atI x7.1 x26).Txn != x26) || ((cond ((((atI x7.1 x26).Txn != x26)) == false) (atI x12.1 x26) default).Txn != x26))) == false) (atI x12.1 x26) default).End)))) == false) (atI x12.1 x26) default).Start)) != (cond ((((((atI x7.1 x26).Txn != x26) || ((cond ((((atI x7.1 x26).Txn != x26)) == false) (atI x12.1 x26) default).Txn != x26)) || (decide ((cond (((((atI x7.1 x26).Txn != x26) || ((cond ((((atI x7.1 x26).Txn != x26)) == false) (atI x12.1 x26) default).Txn != x26))) == false) (atI x7.1 x26) default).End < (cond (((((atI x7.1 x26).Txn != x26) || ((cond ((((atI x7.1 x26).Txn != x26)) == false) (atI x12.1 x26) default).Txn != x26))) == false) (atI x12.1 x26) default).End)))) == false) (atI x3 x26) default)))) == false) h30 q46
              obtain rfl := hr47
              refine Exec.fia tyOk rfl rfl rfl (fun gg0 => ⟨(q46 (gd1_of gg0)).1, (q46 (gd1_of gg0)).2, (hd47 (gd1_of gg0)).some⟩) ?_
              refine Exec.run tyOk 400 rfl ?_
              refine Exec.fld tyOk (x := .int .i64 ((cond (((((((atI x7.1 x26).Txn != x26) || ((cond ((((atI x7.1 x26).Txn != x26)) == false) (atI x12.1 x26) default).Txn != x26)) || (decide ((cond (((((atI x7.1 x26).Txn != x26) || ((cond ((((atI x7.1 x26).Txn != x26)) == false) (atI x12.1 x26) default).Txn != x26))) == false) (atI x7.1 x26) default).End < (cond (((((atI x7.1 x26).Txn != x26) || ((cond ((((atI x7.1 x26).Txn != x26)) == false) (atI x12.1 x26) default).Txn != x26))) == false) (atI x12.1 x26) default).End))) || ((IntKind.i64.wrap ((cond ((((((atI x7.1 x26).Txn != x26) || ((cond ((((atI x7.1 x26).Txn != x26)) == false) (atI x12.1 x26) default).Txn != x26)) || (decide ((cond (((((atI x7.1 x26).Txn != x26) || ((cond ((((atI x7.1 x26).Txn != x26)) == false) (atI x12.1 x26) default).Txn != x26))) == false) (atI x7.1 x26) default).End < (cond (((((atI x7.1 x26).Txn != x26) || ((cond ((((atI x7.1 x26).Txn != x26)) == false) (atI x12.1 x26) default).Txn != x26))) == false) (atI x12.1 x26) default).End)))) == false) (atI x12.1 x26) default).End - (cond ((((((atI x7.1 x26).Txn != x26) || ((cond ((((atI x7.1 x26).Txn != x26)) == false) (atI x12.1 x26) default).Txn != x26)) || (decide ((cond (((((atI x7.1 x26).Txn != x26) || ((cond ((((atI x7.1 x26).Txn != x26)) == false) (atI x12.1 x26) default).Txn != x26))) == false) (atI x7.1 x26) default).End < (cond (((((atI x7.1 x26).Txn != x26) || ((cond ((((atI x7.1 x26).Txn != x26)) == false) (atI x12.1 x26) default).Txn != x26))) == false) (atI x12.1 x26) default).End)))) == false) (atI x12.1 x26) default).Start)) != (cond ((((((atI x7.1 x26).Txn != x26) || ((cond ((((atI x7.1 x26).Txn != x26)) == false) (atI x12.1 x26) default).Txn != x26)) || (decide ((cond (((((atI x7.1 x26).Txn != x26) || ((cond ((((atI x7.1 x26).Txn != x26)) == false) (atI x12.1 x26) default).Txn != x26))) == false) (atI x7.1 x26) default).End < (cond (((((atI x7.1 x26).Txn != x26) || ((cond ((((atI x7.1 x26).Txn != x26)) == false) (atI x12.1 x26) default).Txn != x26))) == false) (atI x12.1 x26) default).End)))) == false) (atI x3 x26) default)))) == false) (atI x7.1 x26) default).End)) rfl rfl rfl (fun gg0 => (RdAt.part (hd47 (gd1_of gg0)) 3 1 rfl)) rfl rfl ?_
              refine Exec.run tyOk 400 rfl ?_
              obtain ⟨q48, hF⟩ := req_some hF
              obtain ⟨c49, hr49, hd49⟩ := SlAt.gget (((((((atI x7.1 x26).Txn != x26) || ((cond ((((atI x7.1 x26).Txn != x26)) == false) (atI x12.1 x26) default).Txn != x26)) || (decide ((cond (((((atI x7.1 x26).Txn != x26) || ((cond ((((atI x7.1 x26).Txn != x26)) == false) (atI x12.1 x26) default).Txn != x26))) == false) (atI x7.1 x26) default).End < (cond (((((atI x7.1 x26).Txn != x26) || ((cond ((((atI x7.1 x26).Txn != x26)) == false) (atI x12.1 x26) default).Txn != x26))) == false) (atI x12.1 x26) default).End))) || ((IntKind.i64.wrap ((cond ((((((atI x7.1 x26).Txn != x26) || ((cond ((((atI x7.1 x26).Txn != x26)) == false) (atI x12.1 x26) default).Txn != x26)) || (decide ((cond (((((atI x7.1 x26).Txn != x26) || ((cond ((((atI x7.1 x26).Txn != x26)) == false) (atI x12.1 x26) default).Txn != x26))) == false) (atI x7.1 x26) default).End < (cond (((((atI x7.1 x26).Txn != x26) || ((cond ((((atI x7.1 x26).Txn != x26)) == false) (atI x12.1 x26) default).Txn != x26))) == false) (atI x12.1 x26) default).End)))) == false) (atI x12.1 x26) default).End - (cond ((((((atI x7.1 x26).Txn != x26) || ((cond ((((atI x7.1 x26).Txn != x26)) == false) (atI x12.1 x26) default).Txn != x26)) || (decide ((cond (((((atI x7.1 x26).Txn != x26) || ((cond ((((atI x7.1 x26).Txn != x26)) == false) (atI x12.1 x26) default).Txn != x26))) == false) (atI x7.1 x26) default).End < (cond (((((atI x7.1 x26).Txn != x26) || ((cond ((((atI x7.1 x26).Txn != x26)) == false) (atI x12.1 x26) default).Txn != x26))) == false) (atI x12.1 x26) default).End)))) == false) (atI x12.1 x26) default).Start)) != (cond ((((((atI x7.1 x26).Txn != x26) || ((cond ((((atI x7.1 x26).Txn != x26)) == false) (atI x12.1 x26) default).Txn != x26)) || (decide ((cond (((((atI x7.1 x26).Txn != x26) || ((cond ((((atI x7.1 x26).Txn != x26)) == false) (atI x12.1 x26) default).Txn != x26))) == false) (atI x7.1 x26) default).End < (cond (((((atI x7.1 x26).Txn != x26) || ((cond ((((atI x7.1 x26).Txn != x26)) == false) (atI x12.1 x26) default).Txn != x26))) == false) (atI x12.1 x26) default).End)))) == false) (atI x3 x26) default)))) == false) h30 q48
              obtain rfl := hr49
              refine Exec.fia tyOk rfl rfl rfl (fun gg0 => ⟨(q48 (gd1_of gg0)).1, (q48 (gd1_of gg0)).2, (hd49 (gd1_of gg0)).some⟩) ?_
              refine Exec.run tyOk 400 rfl ?_
              refine Exec.fld tyOk (x := .int .i64 ((cond (((((((atI x7.1 x26).Txn != x26) || ((cond ((((atI x7.1 x26).Txn != x26)) == false) (atI x12.1 x26) default).Txn != x26)) || (decide ((cond (((((atI x7.1 x26).Txn != x26) || ((cond ((((atI x7.1 x26).Txn != x26)) == false) (atI x12.1 x26) default).Txn != x26))) == false) (atI x7.1 x26) default).End < (cond (((((atI x7.1 x26).Txn != x26) || ((cond ((((atI x7.1 x26).Txn != x26)) == false) (atI x12.1 x26) default).Txn != x26))) == false) (atI x12.1 x26) default).End))) || ((IntKind.i64.wrap ((cond ((((((atI x7.1 x26).Txn != x26) || ((cond ((((atI x7.1 x26).Txn != x26)) == false) (atI x12.1 x26) default).Txn != x26)) || (decide ((cond (((((atI x7.1 x26).Txn != x26) || ((cond ((((atI x7.1 x26).Txn != x26)) == false) (atI x12.1 x26) default).Txn != x26))) == false) (atI x7.1 x26) default).End < (cond (((((atI x7.1 x26).Txn != x26) || ((cond ((((atI x7.1 x26).Txn != x26)) == false) (atI x12.1 x26) default).Txn != x26))) == false) (atI x12.1 x26) default).End)))) == false) (atI x12.1 x26) default).End - (cond ((((((atI x7.1 x26).Txn != x26) || ((cond ((((atI x7.1 x26).Txn != x26)) == false) (atI x12.1 x26) default).Txn != x26)) || (decide ((cond (((((atI x7.1 x26).Txn != x26) || ((cond ((((atI x7.1 x26).Txn != x26)) == false) (atI x12.1 x26) default).Txn != x26))) == false) (atI x7.1 x26) default).End < (cond (((((atI x7.1 x26).Txn != x26) || ((cond ((((atI x7.1 x26).Txn != x26)) == false) (atI x12.1 x26) default).Txn != x26))) == false) (atI x12.1 x26) default).End)))) == false) (atI x12.1 x26) default).Start)) != (cond ((((((atI x7.1 x26).Txn != x26) || ((cond ((((atI x7.1 x26).Txn != x26)) == false) (atI x12.1 x26) default).Txn != x26)) || (decide ((cond (((((atI x7.1 x26).Txn != x26) || ((cond ((((atI x7.1 x26).Txn != x26)) == false) (atI x12.1 x26) default).Txn != x26))) == false) (atI x7.1 x26) default).End < (cond (((((atI x7.1 x26).Txn != x26) || ((cond ((((atI x7.1 x26).Txn != x26)) == false) (atI x12.1 x26) default).Txn != x26))) == false) (atI x12.1 x26) default).End)))) == false) (atI x3 x26) default)))) == false) (atI x7.1 x26) default).Start)) rfl rfl rfl (fun gg0 => (RdAt.part (hd49 (gd1_of gg0)) 2 1 rfl)) rfl rfl ?_
              refine Exec.run tyOk 400 rfl ?_
              obtain ⟨q50, hF⟩ := req_some hF
              obtain ⟨c51, hr51, hd51⟩ := SlAt.gget (((((((atI x7.1 x26).Txn != x26) || ((cond ((((atI x7.1 x26).Txn != x26)) == false) (atI x12.1 x26) default).Txn != x26)) || (decide ((cond (((((atI x7.1 x26).Txn != x26) || ((cond ((((atI x7.1 x26).Txn != x26)) == false) (atI x12.1 x26) default).Txn != x26))) == false) (atI x7.1 x26) default).End < (cond (((((atI x7.1 x26).Txn != x26) || ((cond ((((atI x7.1 x26).Txn != x26)) == false) (atI x12.1 x26) default).Txn != x26))) == false) (atI x12.1 x26) default).End))) || ((IntKind.i64.wrap ((cond ((((((atI x7.1 x26).Txn != x26) || ((cond ((((atI x7.1 x26).Txn != x26)) == false) (atI x12.1 x26) default).Txn != x26)) || (decide ((cond (((((atI x7.1 x26).Txn != x26) || ((cond ((((atI x7.1 x26).Txn != x26)) == false) (atI x12.1 x26) default).Txn != x26))) == false) (atI x7.1 x26) default).End < (cond (((((atI x7.1 x26).Txn != x26) || ((cond ((((atI x7.1 x26).Txn != x26)) == false) (atI x12.1 x26) default).Txn != x26))) == false) (atI x12.1 x26) default).End)))) == false) (atI x12.1 x26) default).End - (cond ((((((atI x7.1 x26).Txn != x26) || ((cond ((((atI x7.1 x26).Txn != x26)) == false) (atI x12.1 x26) default).Txn != x26)) || (decide ((cond (((((atI x7.1 x26).Txn != x26) || ((cond ((((atI x7.1 x26).Txn != x26)) == false) (atI x12.1 x26) default).Txn != x26))) == false) (atI x7.1 x26) default).End < (cond (((((atI x7.1 x26).Txn != x26) || ((cond ((((atI x7.1 x26).Txn != x26)) == false) (atI x12.1 x26) default).Txn != x26))) == false) (atI x12.1 x26) default).End)))) == false) (atI x12.1 x26) default).Start)) != (cond ((((((atI x7.1 x26).Txn != x26) || ((cond ((((atI x7.1 x26).Txn != x26)) == false) (atI x12.1 x26) default).Txn != x26)) || (decide ((cond (((((atI x7.1 x26).Txn != x26) || ((cond ((((atI x7.1 x26).Txn != x26)) == false) (atI x12.1 x26) default).Txn != x26))) == false) (atI x7.1 x26) default).End < (cond (((((atI x7.1 x26).Txn != x26) || ((cond ((((atI x7.1 x26).Txn != x26)) == false) (atI x12.1 x26) default).Txn != x26))) == false) (atI x12.1 x26) default).End)))) == false) (atI x3 x26) default)))) == false) h29 q50
              obtain rfl := hr51
              refine Exec.fia tyOk rfl rfl rfl (fun gg0 => ⟨(q50 (gd1_of gg0)).1, (q50 (gd1_of gg0)).2, (hd51 (gd1_of gg0)).some⟩) ?_
              refine Exec.run tyOk 400 rfl ?_
              refine Exec.fld tyOk (x := .int .i64 ((cond (((((((atI x7.1 x26).Txn != x26) || ((cond ((((atI x7.1 x26).Txn != x26)) == false) (atI x12.1 x26) default).Txn != x26)) || (decide ((cond (((((atI x7.1 x26).Txn != x26) || ((cond ((((atI x7.1 x26).Txn != x26)) == false) (atI x12.1 x26) default).Txn != x26))) == false) (atI x7.1 x26) default).End < (cond (((((atI x7.1 x26).Txn != x26) || ((cond ((((atI x7.1 x26).Txn != x26)) == false) (atI x12.1 x26) default).Txn != x26))) == false) (atI x12.1 x26) default).End))) || ((IntKind.i64.wrap ((cond ((((((atI x7.1 x26).Txn != x26) || ((cond ((((atI x7.1 x26).Txn != x26)) == false) (atI x12.1 x26) default).Txn != x26)) || (decide ((cond (((((atI x7.1 x26).Txn != x26) || ((cond ((((atI x7.1 x26).Txn != x26)) == false) (atI x12.1 x26) default).Txn != x26))) == false) (atI x7.1 x26) default).End < (cond (((((atI x7.1 x26).Txn != x26) || ((cond ((((atI x7.1 x26).Txn != x26)) == false) (atI x12.1 x26) default).Txn != x26))) == false) (atI x12.1 x26) default).End)))) == false) (atI x12.1 x26) default).End - (cond ((((((atI x7.1 x26).Txn != x26) || ((cond ((((atI x7.1 x26).Txn != x26)) == false) (atI x12.1 x26) default).Txn != x26)) || (decide ((cond (((((atI x7.1 x26).Txn != x26) || ((cond ((((atI x7.1 x26).Txn != x26)) == false) (atI x12.1 x26) default).Txn != x26))) == false) (atI x7.1 x26) default).End < (cond (((((atI x7.1 x26).Txn != x26) || ((cond ((((atI x7.1 x26).Txn != x26)) == false) (atI x12.1 x26) default).Txn != x26))) == false) (atI x12.1 x26) default).End)))) == false) (atI x12.1 x26) default).Start)) != (cond ((((((atI x7.1 x26).Txn != x26) || ((cond ((((atI x7.1 x26).Txn != x26)) == false) (atI x12.1 x26) default).Txn != x26)) || (decide ((cond (((((atI x7.1 x26).Txn != x26) || ((cond ((((atI x7.1 x26).Txn != x26)) == false) (atI x12.1 x26) default).Txn != x26))) == false) (atI x7.1 x26) default).End < (cond (((((atI x7.1 x26).Txn != x26) || ((cond ((((atI x7.1 x26).Txn != x26)) == false) (atI x12.1 x26) default).Txn != x26))) == false) (atI x12.1 x26) default).End)))) == false) (atI x3 x26) default)))) == false) (atI x3 x26) default))) rfl rfl rfl (fun gg0 => (hd51 (gd1_of gg0))) rfl rfl ?_
              refine Exec.run tyOk 400 rfl ?_
              rcases cond_some hF with ⟨hb, hF⟩ | ⟨hb, hF⟩
              · skip
                refine Exec.ifT rfl hb ?_
                refine Exec.run tyOk 400 rfl ?_
                obtain rfl := some_inj hF
                exact Exec.ret tyOk rfl rfl rfl
              · skip
                refine Exec.ifF rfl hb ?_
                refine Exec.run tyOk 400 rfl ?_
                exact Exec.round [(1, .v (.slice a4 ((x3).length) (k4))), (5, .v (.slice a8 ((x7.1).length) (k8))), (7, .v (.slice a13 ((x12.1).length) (k13))), (9, .v (.int .i64 ((IntKind.i64.wrap (x26 + (1 : Int))))))] ⟨rfl, rfl, rfl, rfl, trivial⟩ ⟨n27, Nat.lt_succ_self _, (IntKind.i64.wrap (x26 + (1 : Int))), rfl, rfl, h29, h30, h31, hF⟩
            · skip
              refine Exec.ifF rfl hb ?_
              refine Exec.run tyOk 400 rfl ?_
              exact Exec.round [(5, .v (.slice a8 ((x7.1).length) (k8))), (7, .v (.slice a13 ((x12.1).length) (k13)))] ⟨rfl, rfl, trivial⟩ ⟨rfl, rfl, h30, h31, hF⟩

def F_clockworklaw28_TimelineLocks (x1 : List TFootprint) (x3 : List Int) : Option Bool :=
  (bnd (F_clockworkref25_Few x1 ((10 : Int))) fun x5 => (cond ((!x5) || (decide ((20 : Int) < (((x3).length : Nat) : Int)))) (bnd (F_clockworklaw28_lives ) fun x6 => (some x6)) (bnd (F_timeline_Lock x1 x3) fun x7 => (bnd (F_clockworkref28_Lock x1 x3) fun x12 => (bnd (F_timeline_Version x1 x3) fun x18 => (bnd (F_clockworkref28_Version x1 x3) fun x25 => (bnd (F_clockworkref28_Same x7.1 x12.1) fun x33 => (bnd (gcall (((x33 && (x7.2 == x12.2))) == true) (F_clockworkref28_Same x18.1 x25.1)) fun x34 => (bnd (gcall (((((x33 && (x7.2 == x12.2)) && x34) && (x18.2 == x25.2))) == true) (F_clockworklaw28_lives )) fun x35 => (some ((((x33 && (x7.2 == x12.2)) && x34) && (x18.2 == x25.2)) && x35)))))))))))

set_option maxRecDepth 100000 in
theorem W_clockworklaw28_TimelineLocks {V : View} (x1 : List TFootprint) (x3 : List Int) {a2 : Option Addr} {k2 : Nat} {a4 : Option Addr} {k4 : Nat} (h2 : SlAt cTFootprint V a2 k2 x1) (h4 : SlAt (cInt .i64) V a4 k4 x3) {r : Bool} (hF : F_clockworklaw28_TimelineLocks x1 x3 = some r) :
    Spec Try.prog 4 [.slice a2 ((x1).length) (k2), .slice a4 ((x3).length) (k4)] V (fun _ v => v = .bool (r)) := by
  unfold F_clockworklaw28_TimelineLocks at hF
  refine Spec.enter (T := tyT) Try.func4 rfl (by kernel_rfl) rfl rfl rfl ?_
  refine Exec.run tyOk 400 rfl ?_
  obtain ⟨x5, hx5, hF⟩ := bnd_some hF
  refine Exec.callS (.bool (x5)) rfl rfl (W_clockworkref25_Few x1 ((10 : Int)) h2 hx5) ?_
  refine Exec.run tyOk 400 rfl ?_
  rcases cond_some hF with ⟨hb, hF⟩ | ⟨hb, hF⟩
  · skip
    refine Exec.ifT rfl hb ?_
    refine Exec.run tyOk 400 rfl ?_
    obtain ⟨x6, hx6, hF⟩ := bnd_some hF
    refine Exec.callS (.bool (x6)) rfl rfl (W_clockworklaw28_lives   hx6) ?_
    refine Exec.run tyOk 400 rfl ?_
    obtain rfl := some_inj hF
    exact Exec.ret tyOk rfl rfl rfl
  · skip
    refine Exec.ifF rfl hb ?_
    refine Exec.run tyOk 400 rfl ?_
    obtain ⟨x7, hx7, hF⟩ := bnd_some hF
    refine Exec.call rfl rfl (W_timeline_Lock x1 x3 h2 h4 hx7) ?_
    rintro V9 _ hv9 ⟨a8, k8, rfl, h8⟩
    have h10 := SlAt.mono h2 hv9
    have h11 := SlAt.mono h4 hv9
    refine Exec.run tyOk 400 rfl ?_
    obtain ⟨x12, hx12, hF⟩ := bnd_some hF
    refine Exec.call rfl rfl (W_clockworkref28_Lock x1 x3 h10 h11 hx12) ?_
    rintro V14 _ hv14 ⟨a13, k13, rfl, h13⟩
    have h15 := SlAt.mono h10 hv14
    have h16 := SlAt.mono h11 hv14
    have h17 := SlAt.mono h8 hv14
    refine Exec.run tyOk 400 rfl ?_
    obtain ⟨x18, hx18, hF⟩ := bnd_some hF
    refine Exec.call rfl rfl (W_timeline_Version x1 x3 h15 h16 hx18) ?_
    rintro V20 _ hv20 ⟨a19, k19, rfl, h19⟩
    have h21 := SlAt.mono h15 hv20
    have h22 := SlAt.mono h16 hv20
    have h23 := SlAt.mono h17 hv20
    have h24 := SlAt.mono h13 hv20
    refine Exec.run tyOk 400 rfl ?_
    obtain ⟨x25, hx25, hF⟩ := bnd_some hF
    refine Exec.call rfl rfl (W_clockworkref28_Version x1 x3 h21 h22 hx25) ?_
    rintro V27 _ hv27 ⟨a26, k26, rfl, h26⟩
    have h28 := SlAt.mono h21 hv27
    have h29 := SlAt.mono h22 hv27
    have h30 := SlAt.mono h23 hv27
    have h31 := SlAt.mono h24 hv27
    have h32 := SlAt.mono h19 hv27
    refine Exec.run tyOk 400 rfl ?_
    obtain ⟨x33, hx33, hF⟩ := bnd_some hF
    refine Exec.callS (.bool (x33)) rfl rfl (W_clockworkref28_Same x7.1 x12.1 h30 h31 hx33) ?_
    refine Exec.run tyOk 400 rfl ?_
    obtain ⟨x34, hx34, hF⟩ := bnd_some hF
    refine Exec.callS (.bool (x34)) rfl rfl (fun gg0 => W_clockworkref28_Same x18.1 x25.1 h32 h26 (gcall_some hx34 (gd1_of gg0))) ?_
    refine Exec.run tyOk 400 rfl ?_
    obtain ⟨x35, hx35, hF⟩ := bnd_some hF
    refine Exec.callS (.bool (x35)) rfl rfl (fun gg0 => W_clockworklaw28_lives   (gcall_some hx35 (gd1_of gg0))) ?_
    refine Exec.run tyOk 400 rfl ?_
    obtain rfl := some_inj hF
    exact Exec.ret tyOk rfl rfl rfl

def F_clockworklaw28_TimelineLimits (x1 : List (List Int)) (x3 : List Int) (x5 : Int) (x6 : List TSpan) : Option Bool :=
  (bnd (F_clockworkref28_Few x1) fun x8 => (cond (((!x8) || (decide ((200 : Int) < (((x3).length : Nat) : Int)))) || (decide ((200 : Int) < (((x6).length : Nat) : Int)))) (bnd (F_clockworklaw28_lives ) fun x9 => (some x9)) (bnd (F_timeline_Limited x1 x3 x5) fun x10 => (bnd (F_clockworkref28_Limited x1 x3 x5) fun x16 => (bnd (F_clockworkref28_Same x10.1 x16.1) fun x23 => (bnd (gcall (((x23 && (x10.2 == x16.2))) == true) (F_timeline_Makespan x6)) fun x24 => (bnd (gcall (((x23 && (x10.2 == x16.2))) == true) (F_clockworkref28_Makespan x6)) fun x25 => (bnd (gcall ((((x23 && (x10.2 == x16.2)) && (x24 == x25))) == true) (F_clockworklaw28_lives )) fun x26 => (some (((x23 && (x10.2 == x16.2)) && (x24 == x25)) && x26))))))))))

set_option maxRecDepth 100000 in
theorem W_clockworklaw28_TimelineLimits {V : View} (x1 : List (List Int)) (x3 : List Int) (x5 : Int) (x6 : List TSpan) {a2 : Option Addr} {k2 : Nat} {a4 : Option Addr} {k4 : Nat} {a7 : Option Addr} {k7 : Nat} (h2 : SlAt (cSl (cInt .i64)) V a2 k2 x1) (h4 : SlAt (cInt .i64) V a4 k4 x3) (h7 : SlAt cTSpan V a7 k7 x6) {r : Bool} (hF : F_clockworklaw28_TimelineLimits x1 x3 x5 x6 = some r) :
    Spec Try.prog 5 [.slice a2 ((x1).length) (k2), .slice a4 ((x3).length) (k4), .int .i64 (x5), .slice a7 ((x6).length) (k7)] V (fun _ v => v = .bool (r)) := by
  unfold F_clockworklaw28_TimelineLimits at hF
  refine Spec.enter (T := tyT) Try.func5 rfl (by kernel_rfl) rfl rfl rfl ?_
  refine Exec.run tyOk 400 rfl ?_
  obtain ⟨x8, hx8, hF⟩ := bnd_some hF
  refine Exec.callS (.bool (x8)) rfl rfl (W_clockworkref28_Few x1 h2 hx8) ?_
  refine Exec.run tyOk 400 rfl ?_
  rcases cond_some hF with ⟨hb, hF⟩ | ⟨hb, hF⟩
  · skip
    refine Exec.ifT rfl hb ?_
    refine Exec.run tyOk 400 rfl ?_
    obtain ⟨x9, hx9, hF⟩ := bnd_some hF
    refine Exec.callS (.bool (x9)) rfl rfl (W_clockworklaw28_lives   hx9) ?_
    refine Exec.run tyOk 400 rfl ?_
    obtain rfl := some_inj hF
    exact Exec.ret tyOk rfl rfl rfl
  · skip
    refine Exec.ifF rfl hb ?_
    refine Exec.run tyOk 400 rfl ?_
    obtain ⟨x10, hx10, hF⟩ := bnd_some hF
    refine Exec.call rfl rfl (W_timeline_Limited x1 x3 x5 h2 h4 hx10) ?_
    rintro V12 _ hv12 ⟨a11, k11, rfl, h11⟩
    have h13 := SlAt.mono h2 hv12
    have h14 := SlAt.mono h4 hv12
    have h15 := SlAt.mono h7 hv12
    refine Exec.run tyOk 400 rfl ?_
    obtain ⟨x16, hx16, hF⟩ := bnd_some hF
    refine Exec.call rfl rfl (W_clockworkref28_Limited x1 x3 x5 h13 h14 hx16) ?_
    rintro V18 _ hv18 ⟨a17, k17, rfl, h17⟩
    have h19 := SlAt.mono h13 hv18
    have h20 := SlAt.mono h14 hv18
    have h21 := SlAt.mono h15 hv18
    have h22 := SlAt.mono h11 hv18
    refine Exec.run tyOk 400 rfl ?_
    obtain ⟨x23, hx23, hF⟩ := bnd_some hF
    refine Exec.callS (.bool (x23)) rfl rfl (W_clockworkref28_Same x10.1 x16.1 h22 h17 hx23) ?_
    refine Exec.run tyOk 400 rfl ?_
    obtain ⟨x24, hx24, hF⟩ := bnd_some hF
    refine Exec.callS (.int .i64 (x24)) rfl rfl (fun gg0 => W_timeline_Makespan x6 h21 (gcall_some hx24 (gd1_of gg0))) ?_
    refine Exec.run tyOk 400 rfl ?_
    obtain ⟨x25, hx25, hF⟩ := bnd_some hF
    refine Exec.callS (.int .i64 (x25)) rfl rfl (fun gg0 => W_clockworkref28_Makespan x6 h21 (gcall_some hx25 (gd1_of gg0))) ?_
    refine Exec.run tyOk 400 rfl ?_
    obtain ⟨x26, hx26, hF⟩ := bnd_some hF
    refine Exec.callS (.bool (x26)) rfl rfl (fun gg0 => W_clockworklaw28_lives   (gcall_some hx26 (gd1_of gg0))) ?_
    refine Exec.run tyOk 400 rfl ?_
    obtain rfl := some_inj hF
    exact Exec.ret tyOk rfl rfl rfl

def F_clockworklaw28_TimelineEnough_L1 (x7 : List TSpan × Int) (x18 : List TSpan × Int) (J25 : Option Bool) : Nat → Int → Option Bool
  | 0, _ => none
  | n29 + 1, x28 => (cond (decide (x28 < (((x7.1).length : Nat) : Int))) (req (0 ≤ x28 ∧ x28 < ((x7.1).length : Int)) (req (0 ≤ x28 ∧ x28 < ((x18.1).length : Int)) (req (((((atI x7.1 x28).Txn != (atI x18.1 x28).Txn)) == false) = true → 0 ≤ x28 ∧ x28 < ((x7.1).length : Int)) (req (((((atI x7.1 x28).Txn != (atI x18.1 x28).Txn)) == false) = true → 0 ≤ x28 ∧ x28 < ((x18.1).length : Int)) (req ((((((atI x7.1 x28).Txn != (atI x18.1 x28).Txn) || ((cond ((((atI x7.1 x28).Txn != (atI x18.1 x28).Txn)) == false) (atI x7.1 x28) default).Start != (cond ((((atI x7.1 x28).Txn != (atI x18.1 x28).Txn)) == false) (atI x18.1 x28) default).Start))) == false) = true → 0 ≤ x28 ∧ x28 < ((x7.1).length : Int)) (req ((((((atI x7.1 x28).Txn != (atI x18.1 x28).Txn) || ((cond ((((atI x7.1 x28).Txn != (atI x18.1 x28).Txn)) == false) (atI x7.1 x28) default).Start != (cond ((((atI x7.1 x28).Txn != (atI x18.1 x28).Txn)) == false) (atI x18.1 x28) default).Start))) == false) = true → 0 ≤ x28 ∧ x28 < ((x18.1).length : Int)) (cond ((((atI x7.1 x28).Txn != (atI x18.1 x28).Txn) || ((cond ((((atI x7.1 x28).Txn != (atI x18.1 x28).Txn)) == false) (atI x7.1 x28) default).Start != (cond ((((atI x7.1 x28).Txn != (atI x18.1 x28).Txn)) == false) (atI x18.1 x28) default).Start)) || ((cond (((((atI x7.1 x28).Txn != (atI x18.1 x28).Txn) || ((cond ((((atI x7.1 x28).Txn != (atI x18.1 x28).Txn)) == false) (atI x7.1 x28) default).Start != (cond ((((atI x7.1 x28).Txn != (atI x18.1 x28).Txn)) == false) (atI x18.1 x28) default).Start))) == false) (atI x7.1 x28) default).End != (cond (((((atI x7.1 x28).Txn != (atI x18.1 x28).Txn) || ((cond ((((atI x7.1 x28).Txn != (atI x18.1 x28).Txn)) == false) (atI x7.1 x28) default).Start != (cond ((((atI x7.1 x28).Txn != (atI x18.1 x28).Txn)) == false) (atI x18.1 x28) default).Start))) == false) (atI x18.1 x28) default).End)) (some false) (F_clockworklaw28_TimelineEnough_L1 x7 x18 J25 n29 ((IntKind.i64.wrap (x28 + (1 : Int)))))))))))) J25)

def F_clockworklaw28_TimelineEnough (x1 : List TFootprint) (x3 : List Int) : Option Bool :=
  (bnd (F_clockworkref25_Few x1 ((10 : Int))) fun x5 => (cond (((!x5) || (decide ((20 : Int) < (((x3).length : Nat) : Int)))) || ((((x1).length : Nat) : Int) == (0 : Int))) (bnd (F_clockworklaw28_lives ) fun x6 => (some x6)) (bnd (F_timeline_Version x1 x3) fun x7 => (bnd (F_mvsched_Deps x1) fun x12 => (bnd (F_timeline_Limited x12 x3 ((((x1).length : Nat) : Int))) fun x18 => (cond ((x7.2 != x18.2) || ((((x7.1).length : Nat) : Int) != (((x18.1).length : Nat) : Int))) (some false) (jn ((bnd (F_clockworklaw28_lives ) fun x27 => (some x27))) (fun J25 => (F_clockworklaw28_TimelineEnough_L1 x7 x18 J25 (((((x7.1).length : Nat) : Int)).toNat + 1) ((0 : Int)))))))))))

set_option maxRecDepth 100000 in
theorem W_clockworklaw28_TimelineEnough {V : View} (x1 : List TFootprint) (x3 : List Int) {a2 : Option Addr} {k2 : Nat} {a4 : Option Addr} {k4 : Nat} (h2 : SlAt cTFootprint V a2 k2 x1) (h4 : SlAt (cInt .i64) V a4 k4 x3) {r : Bool} (hF : F_clockworklaw28_TimelineEnough x1 x3 = some r) :
    Spec Try.prog 6 [.slice a2 ((x1).length) (k2), .slice a4 ((x3).length) (k4)] V (fun _ v => v = .bool (r)) := by
  unfold F_clockworklaw28_TimelineEnough at hF
  refine Spec.enter (T := tyT) Try.func6 rfl (by kernel_rfl) rfl rfl rfl ?_
  refine Exec.run tyOk 400 rfl ?_
  obtain ⟨x5, hx5, hF⟩ := bnd_some hF
  refine Exec.callS (.bool (x5)) rfl rfl (W_clockworkref25_Few x1 ((10 : Int)) h2 hx5) ?_
  refine Exec.run tyOk 400 rfl ?_
  rcases cond_some hF with ⟨hb, hF⟩ | ⟨hb, hF⟩
  · skip
    refine Exec.ifT rfl hb ?_
    refine Exec.run tyOk 400 rfl ?_
    obtain ⟨x6, hx6, hF⟩ := bnd_some hF
    refine Exec.callS (.bool (x6)) rfl rfl (W_clockworklaw28_lives   hx6) ?_
    refine Exec.run tyOk 400 rfl ?_
    obtain rfl := some_inj hF
    exact Exec.ret tyOk rfl rfl rfl
  · skip
    refine Exec.ifF rfl hb ?_
    refine Exec.run tyOk 400 rfl ?_
    obtain ⟨x7, hx7, hF⟩ := bnd_some hF
    refine Exec.call rfl rfl (W_timeline_Version x1 x3 h2 h4 hx7) ?_
    rintro V9 _ hv9 ⟨a8, k8, rfl, h8⟩
    have h10 := SlAt.mono h2 hv9
    have h11 := SlAt.mono h4 hv9
    refine Exec.run tyOk 400 rfl ?_
    obtain ⟨x12, hx12, hF⟩ := bnd_some hF
    refine Exec.call rfl rfl (W_mvsched_Deps x1 h10 hx12) ?_
    rintro V14 _ hv14 ⟨a13, k13, rfl, h13⟩
    have h15 := SlAt.mono h10 hv14
    have h16 := SlAt.mono h11 hv14
    have h17 := SlAt.mono h8 hv14
    refine Exec.run tyOk 400 rfl ?_
    obtain ⟨x18, hx18, hF⟩ := bnd_some hF
    refine Exec.call rfl rfl (W_timeline_Limited x12 x3 ((((x1).length : Nat) : Int)) h13 h16 hx18) ?_
    rintro V20 _ hv20 ⟨a19, k19, rfl, h19⟩
    have h21 := SlAt.mono h15 hv20
    have h22 := SlAt.mono h16 hv20
    have h23 := SlAt.mono h17 hv20
    have h24 := SlAt.mono h13 hv20
    refine Exec.run tyOk 400 rfl ?_
    rcases cond_some hF with ⟨hb, hF⟩ | ⟨hb, hF⟩
    · skip
      refine Exec.ifT rfl hb ?_
      refine Exec.run tyOk 400 rfl ?_
      obtain rfl := some_inj hF
      exact Exec.ret tyOk rfl rfl rfl
    · skip
      refine Exec.ifF rfl hb ?_
      refine Exec.run tyOk 6 rfl ?_
      obtain ⟨J25, hJ25, hF⟩ := jn_some hF
      refine Exec.seam (fun L' V' M' => L' = [] ∧ M' = [] ∧ J25 = some r) rfl ?_ ?_
      · rintro L' V26 M' ⟨rfl, rfl, hF⟩
        subst hJ25
        refine Exec.run tyOk 400 rfl ?_
        obtain ⟨x27, hx27, hF⟩ := bnd_some hF
        refine Exec.callS (.bool (x27)) rfl rfl (W_clockworklaw28_lives   hx27) ?_
        refine Exec.run tyOk 400 rfl ?_
        obtain rfl := some_inj hF
        exact Exec.ret tyOk rfl rfl rfl
      · skip
        refine Exec.run tyOk 400 rfl ?_
        refine Exec.loop (fun n29 L' V' M' => ∃ (x28 : Int), L' = [(5, .v (.slice a8 ((x7.1).length) (k8))), (7, .v (.slice a19 ((x18.1).length) (k19))), (9, .v (.int .i64 (x28)))] ∧ M' = [] ∧ SlAt cTSpan V' a8 k8 x7.1 ∧ SlAt cTSpan V' a19 k19 x18.1 ∧ F_clockworklaw28_TimelineEnough_L1 x7 x18 J25 n29 x28 = some r) ⟨(((((x7.1).length : Nat) : Int)).toNat + 1), [(5, .v (.slice a8 ((x7.1).length) (k8))), (7, .v (.slice a19 ((x18.1).length) (k19))), (9, .v (.int .i64 ((0 : Int))))], ⟨rfl, rfl, rfl, trivial⟩, (0 : Int), rfl, rfl, h23, h19, hF⟩ ?_
        rintro n29 L' V30 M' ⟨x28, rfl, rfl, h31, h32, hF⟩
        rcases n29 with _ | n29
        · exact absurd hF (by simp [F_clockworklaw28_TimelineEnough_L1])
        rw [F_clockworklaw28_TimelineEnough_L1] at hF
        refine Exec.run tyOk 400 rfl ?_
        rcases cond_some hF with ⟨hb, hF⟩ | ⟨hb, hF⟩
        · skip
          refine Exec.ifT rfl hb ?_
          refine Exec.run tyOk 400 rfl ?_
          refine Exec.draws tyOk [(0, true), (1, true), (2, true), (3, true), (4, true), (5, true), (6, true), (7, true), (8, true), (9, true), (10, true), (11, true), (12, true), (13, true), (14, true), (15, true), (16, true), (17, true), (18, true), (19, true), (20, true), (21, true), (22, true), (23, true), (24, true), (25, true), (26, true), (27, true), (28, true), (29, true), (30, true), (31, true), (32, true), (33, true), (34, true), (35, true), (36, true)] rfl (by kernel_rfl) ?_
          refine Exec.run tyOk 400 rfl ?_
          obtain ⟨q33, hF⟩ := req_some hF
          obtain ⟨c34, hr34, hd34⟩ := SlAt.get h31 q33
          obtain rfl := hr34
          refine Exec.fia tyOk rfl rfl rfl ⟨q33.1, q33.2, hd34.some⟩ ?_
          refine Exec.run tyOk 400 rfl ?_
          refine Exec.fld tyOk (x := .int .i64 ((atI x7.1 x28).Txn)) rfl rfl rfl (RdAt.part hd34 0 1 rfl) rfl rfl ?_
          refine Exec.run tyOk 400 rfl ?_
          obtain ⟨q35, hF⟩ := req_some hF
          obtain ⟨c36, hr36, hd36⟩ := SlAt.get h32 q35
          obtain rfl := hr36
          refine Exec.fia tyOk rfl rfl rfl ⟨q35.1, q35.2, hd36.some⟩ ?_
          refine Exec.run tyOk 400 rfl ?_
          refine Exec.fld tyOk (x := .int .i64 ((atI x18.1 x28).Txn)) rfl rfl rfl (RdAt.part hd36 0 1 rfl) rfl rfl ?_
          refine Exec.run tyOk 400 rfl ?_
          obtain ⟨q37, hF⟩ := req_some hF
          obtain ⟨c38, hr38, hd38⟩ := SlAt.gget ((((atI x7.1 x28).Txn != (atI x18.1 x28).Txn)) == false) h31 q37
          obtain rfl := hr38
          refine Exec.fia tyOk rfl rfl rfl (fun gg0 => ⟨(q37 (gd1_of gg0)).1, (q37 (gd1_of gg0)).2, (hd38 (gd1_of gg0)).some⟩) ?_
          refine Exec.run tyOk 400 rfl ?_
          refine Exec.fld tyOk (x := .int .i64 ((cond ((((atI x7.1 x28).Txn != (atI x18.1 x28).Txn)) == false) (atI x7.1 x28) default).Start)) rfl rfl rfl (fun gg0 => (RdAt.part (hd38 (gd1_of gg0)) 2 1 rfl)) rfl rfl ?_
          refine Exec.run tyOk 400 rfl ?_
          obtain ⟨q39, hF⟩ := req_some hF
          obtain ⟨c40, hr40, hd40⟩ := SlAt.gget ((((atI x7.1 x28).Txn != (atI x18.1 x28).Txn)) == false) h32 q39
          obtain rfl := hr40
          refine Exec.fia tyOk rfl rfl rfl (fun gg0 => ⟨(q39 (gd1_of gg0)).1, (q39 (gd1_of gg0)).2, (hd40 (gd1_of gg0)).some⟩) ?_
          refine Exec.run tyOk 400 rfl ?_
          refine Exec.fld tyOk (x := .int .i64 ((cond ((((atI x7.1 x28).Txn != (atI x18.1 x28).Txn)) == false) (atI x18.1 x28) default).Start)) rfl rfl rfl (fun gg0 => (RdAt.part (hd40 (gd1_of gg0)) 2 1 rfl)) rfl rfl ?_
          refine Exec.run tyOk 400 rfl ?_
          obtain ⟨q41, hF⟩ := req_some hF
          obtain ⟨c42, hr42, hd42⟩ := SlAt.gget (((((atI x7.1 x28).Txn != (atI x18.1 x28).Txn) || ((cond ((((atI x7.1 x28).Txn != (atI x18.1 x28).Txn)) == false) (atI x7.1 x28) default).Start != (cond ((((atI x7.1 x28).Txn != (atI x18.1 x28).Txn)) == false) (atI x18.1 x28) default).Start))) == false) h31 q41
          obtain rfl := hr42
          refine Exec.fia tyOk rfl rfl rfl (fun gg0 => ⟨(q41 (gd1_of gg0)).1, (q41 (gd1_of gg0)).2, (hd42 (gd1_of gg0)).some⟩) ?_
          refine Exec.run tyOk 400 rfl ?_
          refine Exec.fld tyOk (x := .int .i64 ((cond (((((atI x7.1 x28).Txn != (atI x18.1 x28).Txn) || ((cond ((((atI x7.1 x28).Txn != (atI x18.1 x28).Txn)) == false) (atI x7.1 x28) default).Start != (cond ((((atI x7.1 x28).Txn != (atI x18.1 x28).Txn)) == false) (atI x18.1 x28) default).Start))) == false) (atI x7.1 x28) default).End)) rfl rfl rfl (fun gg0 => (RdAt.part (hd42 (gd1_of gg0)) 3 1 rfl)) rfl rfl ?_
          refine Exec.run tyOk 400 rfl ?_
          obtain ⟨q43, hF⟩ := req_some hF
          obtain ⟨c44, hr44, hd44⟩ := SlAt.gget (((((atI x7.1 x28).Txn != (atI x18.1 x28).Txn) || ((cond ((((atI x7.1 x28).Txn != (atI x18.1 x28).Txn)) == false) (atI x7.1 x28) default).Start != (cond ((((atI x7.1 x28).Txn != (atI x18.1 x28).Txn)) == false) (atI x18.1 x28) default).Start))) == false) h32 q43
          obtain rfl := hr44
          refine Exec.fia tyOk rfl rfl rfl (fun gg0 => ⟨(q43 (gd1_of gg0)).1, (q43 (gd1_of gg0)).2, (hd44 (gd1_of gg0)).some⟩) ?_
          refine Exec.run tyOk 400 rfl ?_
          refine Exec.fld tyOk (x := .int .i64 ((cond (((((atI x7.1 x28).Txn != (atI x18.1 x28).Txn) || ((cond ((((atI x7.1 x28).Txn != (atI x18.1 x28).Txn)) == false) (atI x7.1 x28) default).Start != (cond ((((atI x7.1 x28).Txn != (atI x18.1 x28).Txn)) == false) (atI x18.1 x28) default).Start))) == false) (atI x18.1 x28) default).End)) rfl rfl rfl (fun gg0 => (RdAt.part (hd44 (gd1_of gg0)) 3 1 rfl)) rfl rfl ?_
          refine Exec.run tyOk 400 rfl ?_
          rcases cond_some hF with ⟨hb, hF⟩ | ⟨hb, hF⟩
          · skip
            refine Exec.ifT rfl hb ?_
            refine Exec.run tyOk 400 rfl ?_
            obtain rfl := some_inj hF
            exact Exec.ret tyOk rfl rfl rfl
          · skip
            refine Exec.ifF rfl hb ?_
            refine Exec.run tyOk 400 rfl ?_
            exact Exec.round [(5, .v (.slice a8 ((x7.1).length) (k8))), (7, .v (.slice a19 ((x18.1).length) (k19))), (9, .v (.int .i64 ((IntKind.i64.wrap (x28 + (1 : Int))))))] ⟨rfl, rfl, rfl, trivial⟩ ⟨n29, Nat.lt_succ_self _, (IntKind.i64.wrap (x28 + (1 : Int))), rfl, rfl, h31, h32, hF⟩
        · skip
          refine Exec.ifF rfl hb ?_
          refine Exec.run tyOk 400 rfl ?_
          exact Exec.round [] trivial ⟨rfl, rfl, hF⟩

def F_clockworklaw28_TimelineChecks (x1 : List (List Int)) (x3 : List Int) (x5 : Int) (x6 : List TSpan) : Option Bool :=
  (bnd (F_clockworkref28_Few x1) fun x8 => (cond (((!x8) || (decide ((200 : Int) < (((x3).length : Nat) : Int)))) || (decide ((20 : Int) < (((x6).length : Nat) : Int)))) (bnd (F_clockworklaw28_lives ) fun x9 => (some x9)) (bnd (F_timeline_Check x1 x3 x5 x6) fun x10 => (bnd (F_clockworkref28_Check x1 x3 x5 x6) fun x11 => (bnd (gcall (((x10 == x11)) == true) (F_clockworklaw28_lives )) fun x12 => (some ((x10 == x11) && x12)))))))

set_option maxRecDepth 100000 in
theorem W_clockworklaw28_TimelineChecks {V : View} (x1 : List (List Int)) (x3 : List Int) (x5 : Int) (x6 : List TSpan) {a2 : Option Addr} {k2 : Nat} {a4 : Option Addr} {k4 : Nat} {a7 : Option Addr} {k7 : Nat} (h2 : SlAt (cSl (cInt .i64)) V a2 k2 x1) (h4 : SlAt (cInt .i64) V a4 k4 x3) (h7 : SlAt cTSpan V a7 k7 x6) {r : Bool} (hF : F_clockworklaw28_TimelineChecks x1 x3 x5 x6 = some r) :
    Spec Try.prog 7 [.slice a2 ((x1).length) (k2), .slice a4 ((x3).length) (k4), .int .i64 (x5), .slice a7 ((x6).length) (k7)] V (fun _ v => v = .bool (r)) := by
  unfold F_clockworklaw28_TimelineChecks at hF
  refine Spec.enter (T := tyT) Try.func7 rfl (by kernel_rfl) rfl rfl rfl ?_
  refine Exec.run tyOk 400 rfl ?_
  obtain ⟨x8, hx8, hF⟩ := bnd_some hF
  refine Exec.callS (.bool (x8)) rfl rfl (W_clockworkref28_Few x1 h2 hx8) ?_
  refine Exec.run tyOk 400 rfl ?_
  rcases cond_some hF with ⟨hb, hF⟩ | ⟨hb, hF⟩
  · skip
    refine Exec.ifT rfl hb ?_
    refine Exec.run tyOk 400 rfl ?_
    obtain ⟨x9, hx9, hF⟩ := bnd_some hF
    refine Exec.callS (.bool (x9)) rfl rfl (W_clockworklaw28_lives   hx9) ?_
    refine Exec.run tyOk 400 rfl ?_
    obtain rfl := some_inj hF
    exact Exec.ret tyOk rfl rfl rfl
  · skip
    refine Exec.ifF rfl hb ?_
    refine Exec.run tyOk 400 rfl ?_
    obtain ⟨x10, hx10, hF⟩ := bnd_some hF
    refine Exec.callS (.int .i64 (x10)) rfl rfl (W_timeline_Check x1 x3 x5 x6 h2 h4 h7 hx10) ?_
    refine Exec.run tyOk 400 rfl ?_
    obtain ⟨x11, hx11, hF⟩ := bnd_some hF
    refine Exec.callS (.int .i64 (x11)) rfl rfl (W_clockworkref28_Check x1 x3 x5 x6 h2 h4 h7 hx11) ?_
    refine Exec.run tyOk 400 rfl ?_
    obtain ⟨x12, hx12, hF⟩ := bnd_some hF
    refine Exec.callS (.bool (x12)) rfl rfl (fun gg0 => W_clockworklaw28_lives   (gcall_some hx12 (gd1_of gg0))) ?_
    refine Exec.run tyOk 400 rfl ?_
    obtain rfl := some_inj hF
    exact Exec.ret tyOk rfl rfl rfl

def F_clockworklaw28_TimelineGreedy_L1 (x3 : List Int) (J15 : Int → Option Bool) : Nat → Int → Int → Option Bool
  | 0, _, _ => none
  | n32 + 1, x30, x31 => (cond (decide (x31 < (((x3).length : Nat) : Int))) (req (0 ≤ x31 ∧ x31 < ((x3).length : Int)) (F_clockworklaw28_TimelineGreedy_L1 x3 J15 n32 ((IntKind.i64.wrap (x30 + (atI x3 x31)))) ((IntKind.i64.wrap (x31 + (1 : Int)))))) (J15 x30))

def F_clockworklaw28_TimelineGreedy (x1 : List (List Int)) (x3 : List Int) (x5 : Int) : Option Bool :=
  (bnd (F_clockworkref28_Few x1) fun x6 => (bnd (gcall (((((!x6) || (decide ((12 : Int) < (((x1).length : Nat) : Int)))) || (decide ((20 : Int) < (((x3).length : Nat) : Int))))) == false) (F_clockworkref28_Valid x1 x3 x5)) fun x7 => (cond ((((!x6) || (decide ((12 : Int) < (((x1).length : Nat) : Int)))) || (decide ((20 : Int) < (((x3).length : Nat) : Int)))) || (!x7)) (bnd (F_clockworklaw28_lives ) fun x8 => (some x8)) (bnd (F_timeline_Limited x1 x3 x5) fun x9 => (jn (fun (x14 : Int) => (bnd (F_timeline_Makespan x9.1) fun x20 => (bnd (gcall (((x9.2 == (0 : Int))) == true) (F_timeline_Check x1 x3 x5 x9.1)) fun x21 => (bnd (gcall ((((x9.2 == (0 : Int)) && (x21 == (0 : Int)))) == true) (F_clockworkref28_Earliest x1 x3)) fun x22 => (bnd (gcall ((((x9.2 == (0 : Int)) && (x21 == (0 : Int)))) == true) (F_timeline_Makespan x22)) fun x28 => (bnd (gcall (((((((x9.2 == (0 : Int)) && (x21 == (0 : Int))) && (decide (x28 ≤ x20))) && (decide (x14 ≤ (IntKind.i64.wrap (x20 * x5))))) && (decide (x20 ≤ x14)))) == true) (F_clockworklaw28_lives )) fun x29 => (some ((((((x9.2 == (0 : Int)) && (x21 == (0 : Int))) && (decide (x28 ≤ x20))) && (decide (x14 ≤ (IntKind.i64.wrap (x20 * x5))))) && (decide (x20 ≤ x14))) && x29)))))))) (fun J15 => (F_clockworklaw28_TimelineGreedy_L1 x3 J15 (((((x3).length : Nat) : Int)).toNat + 1) ((0 : Int)) ((0 : Int)))))))))

set_option maxRecDepth 100000 in
theorem W_clockworklaw28_TimelineGreedy {V : View} (x1 : List (List Int)) (x3 : List Int) (x5 : Int) {a2 : Option Addr} {k2 : Nat} {a4 : Option Addr} {k4 : Nat} (h2 : SlAt (cSl (cInt .i64)) V a2 k2 x1) (h4 : SlAt (cInt .i64) V a4 k4 x3) {r : Bool} (hF : F_clockworklaw28_TimelineGreedy x1 x3 x5 = some r) :
    Spec Try.prog 8 [.slice a2 ((x1).length) (k2), .slice a4 ((x3).length) (k4), .int .i64 (x5)] V (fun _ v => v = .bool (r)) := by
  unfold F_clockworklaw28_TimelineGreedy at hF
  refine Spec.enter (T := tyT) Try.func8 rfl (by kernel_rfl) rfl rfl rfl ?_
  refine Exec.run tyOk 400 rfl ?_
  obtain ⟨x6, hx6, hF⟩ := bnd_some hF
  refine Exec.callS (.bool (x6)) rfl rfl (W_clockworkref28_Few x1 h2 hx6) ?_
  refine Exec.run tyOk 400 rfl ?_
  obtain ⟨x7, hx7, hF⟩ := bnd_some hF
  refine Exec.callS (.bool (x7)) rfl rfl (fun gg0 => W_clockworkref28_Valid x1 x3 x5 h2 h4 (gcall_some hx7 (gd1_of gg0))) ?_
  refine Exec.run tyOk 400 rfl ?_
  rcases cond_some hF with ⟨hb, hF⟩ | ⟨hb, hF⟩
  · skip
    refine Exec.ifT rfl hb ?_
    refine Exec.run tyOk 400 rfl ?_
    obtain ⟨x8, hx8, hF⟩ := bnd_some hF
    refine Exec.callS (.bool (x8)) rfl rfl (W_clockworklaw28_lives   hx8) ?_
    refine Exec.run tyOk 400 rfl ?_
    obtain rfl := some_inj hF
    exact Exec.ret tyOk rfl rfl rfl
  · skip
    refine Exec.ifF rfl hb ?_
    refine Exec.run tyOk 400 rfl ?_
    obtain ⟨x9, hx9, hF⟩ := bnd_some hF
    refine Exec.call rfl rfl (W_timeline_Limited x1 x3 x5 h2 h4 hx9) ?_
    rintro V11 _ hv11 ⟨a10, k10, rfl, h10⟩
    have h12 := SlAt.mono h2 hv11
    have h13 := SlAt.mono h4 hv11
    refine Exec.run tyOk 15 rfl ?_
    obtain ⟨J15, hJ15, hF⟩ := jn_some hF
    refine Exec.seam (fun L' V' M' => ∃ (x14 : Int), L' = [(0, .v (.slice a2 ((x1).length) (k2))), (1, .v (.slice a4 ((x3).length) (k4))), (2, .v (.int .i64 (x5))), (7, .v (.slice a10 ((x9.1).length) (k10))), (8, .v (.int .i64 (x9.2))), (9, .v (.int .i64 (x14)))] ∧ M' = [] ∧ SlAt (cSl (cInt .i64)) V' a2 k2 x1 ∧ SlAt (cInt .i64) V' a4 k4 x3 ∧ SlAt cTSpan V' a10 k10 x9.1 ∧ J15 x14 = some r) rfl ?_ ?_
    · rintro L' V16 M' ⟨x14, rfl, rfl, h17, h18, h19, hF⟩
      subst hJ15
      refine Exec.run tyOk 400 rfl ?_
      obtain ⟨x20, hx20, hF⟩ := bnd_some hF
      refine Exec.callS (.int .i64 (x20)) rfl rfl (W_timeline_Makespan x9.1 h19 hx20) ?_
      refine Exec.run tyOk 400 rfl ?_
      obtain ⟨x21, hx21, hF⟩ := bnd_some hF
      refine Exec.callS (.int .i64 (x21)) rfl rfl (fun gg0 => W_timeline_Check x1 x3 x5 x9.1 h17 h18 h19 (gcall_some hx21 (gd1_of gg0))) ?_
      refine Exec.run tyOk 400 rfl ?_
      obtain ⟨x22, hx22, hF⟩ := bnd_some hF
      refine Exec.callG (fun y : Option Addr × Nat => .slice y.1 ((x22).length) (y.2)) (none, 0) (R := fun V' y => SlAt cTSpan V' y.1 y.2 x22) rfl rfl rfl (fun gg0 => (W_clockworkref28_Earliest x1 x3 h17 h18 (gcall_some hx22 (gd1_of gg0))).mono (fun V' _ _ ⟨a23, k23, e1, h23⟩ => ⟨⟨a23, k23⟩, e1, h23⟩)) ?_
      rintro V24 ⟨a23, k23⟩ hv24 hg24
      have h23 : SlAt cTSpan V24 a23 k23 x22 := gslat1 hx22 (fun gg0 => (hg24 gg0))
      have h25 := SlAt.mono h17 hv24
      have h26 := SlAt.mono h18 hv24
      have h27 := SlAt.mono h19 hv24
      refine Exec.run tyOk 400 rfl ?_
      obtain ⟨x28, hx28, hF⟩ := bnd_some hF
      refine Exec.callS (.int .i64 (x28)) rfl rfl (fun gg0 => W_timeline_Makespan x22 h23 (gcall_some hx28 (gd1_of gg0))) ?_
      refine Exec.run tyOk 400 rfl ?_
      obtain ⟨x29, hx29, hF⟩ := bnd_some hF
      refine Exec.callS (.bool (x29)) rfl rfl (fun gg0 => W_clockworklaw28_lives   (gcall_some hx29 (gd1_of gg0))) ?_
      refine Exec.run tyOk 400 rfl ?_
      obtain rfl := some_inj hF
      exact Exec.ret tyOk rfl rfl rfl
    · skip
      refine Exec.run tyOk 400 rfl ?_
      refine Exec.loop (fun n32 L' V' M' => ∃ (x30 : Int) (x31 : Int), L' = [(0, .v (.slice a2 ((x1).length) (k2))), (1, .v (.slice a4 ((x3).length) (k4))), (2, .v (.int .i64 (x5))), (7, .v (.slice a10 ((x9.1).length) (k10))), (8, .v (.int .i64 (x9.2))), (9, .v (.int .i64 (x30))), (10, .v (.int .i64 (x31)))] ∧ M' = [] ∧ SlAt (cSl (cInt .i64)) V' a2 k2 x1 ∧ SlAt (cInt .i64) V' a4 k4 x3 ∧ SlAt cTSpan V' a10 k10 x9.1 ∧ F_clockworklaw28_TimelineGreedy_L1 x3 J15 n32 x30 x31 = some r) ⟨(((((x3).length : Nat) : Int)).toNat + 1), [(0, .v (.slice a2 ((x1).length) (k2))), (1, .v (.slice a4 ((x3).length) (k4))), (2, .v (.int .i64 (x5))), (7, .v (.slice a10 ((x9.1).length) (k10))), (8, .v (.int .i64 (x9.2))), (9, .v (.int .i64 ((0 : Int)))), (10, .v (.int .i64 ((0 : Int))))], ⟨rfl, rfl, rfl, rfl, rfl, rfl, rfl, trivial⟩, (0 : Int), (0 : Int), rfl, rfl, h12, h13, h10, hF⟩ ?_
      rintro n32 L' V33 M' ⟨x30, x31, rfl, rfl, h34, h35, h36, hF⟩
      rcases n32 with _ | n32
      · exact absurd hF (by simp [F_clockworklaw28_TimelineGreedy_L1])
      rw [F_clockworklaw28_TimelineGreedy_L1] at hF
      refine Exec.run tyOk 400 rfl ?_
      rcases cond_some hF with ⟨hb, hF⟩ | ⟨hb, hF⟩
      · skip
        refine Exec.ifT rfl hb ?_
        refine Exec.run tyOk 400 rfl ?_
        obtain ⟨q37, hF⟩ := req_some hF
        obtain ⟨c38, hr38, hd38⟩ := SlAt.get h35 q37
        obtain rfl := hr38
        refine Exec.ia tyOk rfl rfl ⟨q37.1, q37.2, hd38.some⟩ ?_
        refine Exec.run tyOk 400 rfl ?_
        refine Exec.ld tyOk (x := .int .i64 ((atI x3 x31))) rfl rfl hd38 rfl rfl ?_
        refine Exec.run tyOk 400 rfl ?_
        exact Exec.round [(0, .v (.slice a2 ((x1).length) (k2))), (1, .v (.slice a4 ((x3).length) (k4))), (2, .v (.int .i64 (x5))), (7, .v (.slice a10 ((x9.1).length) (k10))), (8, .v (.int .i64 (x9.2))), (9, .v (.int .i64 ((IntKind.i64.wrap (x30 + (atI x3 x31)))))), (10, .v (.int .i64 ((IntKind.i64.wrap (x31 + (1 : Int))))))] ⟨rfl, rfl, rfl, rfl, rfl, rfl, rfl, trivial⟩ ⟨n32, Nat.lt_succ_self _, (IntKind.i64.wrap (x30 + (atI x3 x31))), (IntKind.i64.wrap (x31 + (1 : Int))), rfl, rfl, h34, h35, h36, hF⟩
      · skip
        refine Exec.ifF rfl hb ?_
        refine Exec.run tyOk 400 rfl ?_
        exact Exec.round [(0, .v (.slice a2 ((x1).length) (k2))), (1, .v (.slice a4 ((x3).length) (k4))), (2, .v (.int .i64 (x5))), (7, .v (.slice a10 ((x9.1).length) (k10))), (8, .v (.int .i64 (x9.2))), (9, .v (.int .i64 (x30)))] ⟨rfl, rfl, rfl, rfl, rfl, rfl, trivial⟩ ⟨x30, rfl, rfl, h34, h35, h36, hF⟩

end Go.Proofs.Ytfinjeaoicfdeaa
