/-
  Functions of the program as their counterparts say them (printed by a program).
  Conditions: none.
-/
import Derived.Test.YtcgmfmpfmfjmoaaGreatHa
set_option linter.all false
namespace Go.Proofs.YtcgmfmpfmfjmoaaGreat

def F_slices_Index_string_string_L1 (x1 : List Str) (x3 : Str) (J4 : Option Int) : Nat → Int → Option Int
  | 0, _ => none
  | n7 + 1, x6 => (cond (decide (x6 < (((x1).length : Nat) : Int))) (req (0 ≤ x6 ∧ x6 < ((x1).length : Int)) (cond (x3 == (atI x1 x6)) (some x6) (F_slices_Index_string_string_L1 x1 x3 J4 n7 ((IntKind.i64.wrap (x6 + (1 : Int))))))) J4)

def F_slices_Index_string_string (x1 : List Str) (x3 : Str) : Option Int :=
  (jn ((some (-1 : Int))) (fun J4 => (F_slices_Index_string_string_L1 x1 x3 J4 (((((x1).length : Nat) : Int)).toNat + 1) ((0 : Int)))))

set_option maxRecDepth 100000 in
theorem W_slices_Index_string_string {V : View} (x1 : List Str) (x3 : Str) {a2 : Option Addr} {k2 : Nat} (h2 : SlAt cStr V a2 k2 x1) {r : Int} (hF : F_slices_Index_string_string x1 x3 = some r) :
    Spec Tryz.prog 115 [.slice a2 ((x1).length) (k2), .string ⟨⟨x3⟩⟩] V (fun _ v => v = .int .i64 (r)) := by
  unfold F_slices_Index_string_string at hF
  refine Spec.enter (T := tyT) Tryz.func115 rfl (by kernel_rfl) rfl rfl rfl ?_
  refine Exec.run tyOk 11 rfl ?_
  obtain ⟨J4, hJ4, hF⟩ := jn_some hF
  refine Exec.seam (fun L' V' M' => L' = [] ∧ M' = [] ∧ J4 = some r) rfl ?_ ?_
  · rintro L' V5 M' ⟨rfl, rfl, hF⟩
    subst hJ4
    refine Exec.run tyOk 400 rfl ?_
    obtain rfl := some_inj hF
    exact Exec.ret tyOk rfl rfl rfl
  · skip
    refine Exec.run tyOk 400 rfl ?_
    refine Exec.loop (fun n7 L' V' M' => ∃ (x6 : Int), L' = [(0, .v (.slice a2 ((x1).length) (k2))), (1, .v (.string ⟨⟨x3⟩⟩)), (7, .v (.int .i64 ((((x1).length : Nat) : Int)))), (8, .v (.int .i64 (x6)))] ∧ M' = [] ∧ SlAt cStr V' a2 k2 x1 ∧ F_slices_Index_string_string_L1 x1 x3 J4 n7 x6 = some r) ⟨(((((x1).length : Nat) : Int)).toNat + 1), [(0, .v (.slice a2 ((x1).length) (k2))), (1, .v (.string ⟨⟨x3⟩⟩)), (7, .v (.int .i64 ((((x1).length : Nat) : Int)))), (8, .v (.int .i64 ((0 : Int))))], ⟨rfl, rfl, rfl, rfl, trivial⟩, (0 : Int), rfl, rfl, h2, hF⟩ ?_
    rintro n7 L' V8 M' ⟨x6, rfl, rfl, h9, hF⟩
    rcases n7 with _ | n7
    · exact absurd hF (by simp [F_slices_Index_string_string_L1])
    rw [F_slices_Index_string_string_L1] at hF
    refine Exec.run tyOk 400 rfl ?_
    rcases cond_some hF with ⟨hb, hF⟩ | ⟨hb, hF⟩
    · skip
      refine Exec.ifT rfl hb ?_
      refine Exec.run tyOk 400 rfl ?_
      obtain ⟨q10, hF⟩ := req_some hF
      obtain ⟨c11, hr11, hd11⟩ := SlAt.get h9 q10
      obtain rfl := hr11
      refine Exec.ia tyOk rfl rfl ⟨q10.1, q10.2, hd11.some⟩ ?_
      refine Exec.run tyOk 400 rfl ?_
      refine Exec.ld tyOk (x := .string ⟨⟨(atI x1 x6)⟩⟩) rfl rfl hd11 rfl rfl ?_
      refine Exec.run tyOk 400 rfl ?_
      rcases cond_some hF with ⟨hb, hF⟩ | ⟨hb, hF⟩
      · skip
        refine Exec.ifT rfl hb ?_
        refine Exec.run tyOk 400 rfl ?_
        obtain rfl := some_inj hF
        exact Exec.ret tyOk rfl rfl rfl
      · skip
        refine Exec.ifF rfl hb ?_
        refine Exec.run tyOk 400 rfl ?_
        exact Exec.round [(0, .v (.slice a2 ((x1).length) (k2))), (1, .v (.string ⟨⟨x3⟩⟩)), (7, .v (.int .i64 ((((x1).length : Nat) : Int)))), (8, .v (.int .i64 ((IntKind.i64.wrap (x6 + (1 : Int))))))] ⟨rfl, rfl, rfl, rfl, trivial⟩ ⟨n7, Nat.lt_succ_self _, (IntKind.i64.wrap (x6 + (1 : Int))), rfl, rfl, h9, hF⟩
    · skip
      refine Exec.ifF rfl hb ?_
      refine Exec.run tyOk 400 rfl ?_
      exact Exec.round [] trivial ⟨rfl, rfl, hF⟩

def F_clockworkref29_Bound_L1 (x1 : Str) (J2 : Option Bool) : Nat → Int → Option Bool
  | 0, _ => none
  | n5 + 1, x4 => (cond (decide (x4 < ((x1).length : Int))) (req (0 ≤ x4 ∧ x4 < ((x1).length : Int)) (req ((((decide ((byteAt x1 (x4).toNat) < (33 : Int)))) == false) = true → 0 ≤ x4 ∧ x4 < ((x1).length : Int)) (cond ((decide ((byteAt x1 (x4).toNat) < (33 : Int))) || (decide ((126 : Int) < (byteAt x1 (x4).toNat)))) (some false) (F_clockworkref29_Bound_L1 x1 J2 n5 ((IntKind.i64.wrap (x4 + (1 : Int)))))))) J2)

def F_clockworkref29_Bound (x1 : Str) : Option Bool :=
  (cond (decide ((24 : Int) < ((x1).length : Int))) (some false) (jn ((some true)) (fun J2 => (F_clockworkref29_Bound_L1 x1 J2 ((((x1).length : Int)).toNat + 1) ((0 : Int))))))

set_option maxRecDepth 100000 in
theorem W_clockworkref29_Bound {V : View} (x1 : Str)   {r : Bool} (hF : F_clockworkref29_Bound x1 = some r) :
    Spec Tryz.prog 119 [.string ⟨⟨x1⟩⟩] V (fun _ v => v = .bool (r)) := by
  unfold F_clockworkref29_Bound at hF
  refine Spec.enter (T := tyT) Tryz.func119 rfl (by kernel_rfl) rfl rfl rfl ?_
  refine Exec.run tyOk 400 rfl ?_
  rcases cond_some hF with ⟨hb, hF⟩ | ⟨hb, hF⟩
  · skip
    refine Exec.ifT rfl hb ?_
    refine Exec.run tyOk 400 rfl ?_
    obtain rfl := some_inj hF
    exact Exec.ret tyOk rfl rfl rfl
  · skip
    refine Exec.ifF rfl hb ?_
    refine Exec.run tyOk 6 rfl ?_
    obtain ⟨J2, hJ2, hF⟩ := jn_some hF
    refine Exec.seam (fun L' V' M' => L' = [] ∧ M' = [] ∧ J2 = some r) rfl ?_ ?_
    · rintro L' V3 M' ⟨rfl, rfl, hF⟩
      subst hJ2
      refine Exec.run tyOk 400 rfl ?_
      obtain rfl := some_inj hF
      exact Exec.ret tyOk rfl rfl rfl
    · skip
      refine Exec.run tyOk 400 rfl ?_
      refine Exec.loop (fun n5 L' V' M' => ∃ (x4 : Int), L' = [(0, .v (.string ⟨⟨x1⟩⟩)), (3, .v (.int .i64 (x4)))] ∧ M' = [] ∧ F_clockworkref29_Bound_L1 x1 J2 n5 x4 = some r) ⟨((((x1).length : Int)).toNat + 1), [(0, .v (.string ⟨⟨x1⟩⟩)), (3, .v (.int .i64 ((0 : Int))))], ⟨rfl, rfl, trivial⟩, (0 : Int), rfl, rfl, hF⟩ ?_
      rintro n5 L' V6 M' ⟨x4, rfl, rfl, hF⟩
      rcases n5 with _ | n5
      · exact absurd hF (by simp [F_clockworkref29_Bound_L1])
      rw [F_clockworkref29_Bound_L1] at hF
      refine Exec.run tyOk 400 rfl ?_
      rcases cond_some hF with ⟨hb, hF⟩ | ⟨hb, hF⟩
      · skip
        refine Exec.ifT rfl hb ?_
        refine Exec.run tyOk 400 rfl ?_
        obtain ⟨q7, hF⟩ := req_some hF
        refine Exec.idx tyOk rfl rfl q7 ?_
        refine Exec.run tyOk 400 rfl ?_
        obtain ⟨q8, hF⟩ := req_some hF
        refine Exec.idx tyOk rfl rfl (fun gg0 => q8 (gd1_of gg0)) ?_
        refine Exec.run tyOk 400 rfl ?_
        rcases cond_some hF with ⟨hb, hF⟩ | ⟨hb, hF⟩
        · skip
          refine Exec.ifT rfl hb ?_
          refine Exec.run tyOk 400 rfl ?_
          obtain rfl := some_inj hF
          exact Exec.ret tyOk rfl rfl rfl
        · skip
          refine Exec.ifF rfl hb ?_
          refine Exec.run tyOk 400 rfl ?_
          exact Exec.round [(0, .v (.string ⟨⟨x1⟩⟩)), (3, .v (.int .i64 ((IntKind.i64.wrap (x4 + (1 : Int))))))] ⟨rfl, rfl, trivial⟩ ⟨n5, Nat.lt_succ_self _, (IntKind.i64.wrap (x4 + (1 : Int))), rfl, rfl, hF⟩
      · skip
        refine Exec.ifF rfl hb ?_
        refine Exec.run tyOk 400 rfl ?_
        exact Exec.round [] trivial ⟨rfl, rfl, hF⟩

def F_clockworkref29_moves (x1 : TPart) (x2 : Str) (x3 : Bool) : Option Bool :=
  (cond (x1.Dest == (0 : Int)) (some (x1.Done == ([] : Str))) (bnd (gcall (((((decide ((1 : Int) ≤ x1.Dest)) && (decide (x1.Dest ≤ (16 : Int)))) && (x1.Dest != x1.Node))) == true) (F_clockworkref29_Bound x1.Done)) fun x4 => (some ((((((decide ((1 : Int) ≤ x1.Dest)) && (decide (x1.Dest ≤ (16 : Int)))) && (x1.Dest != x1.Node)) && x4) && (!sLt x1.Done x1.From)) && (x3 || (sLt x1.Done x2))))))

set_option maxRecDepth 100000 in
theorem W_clockworkref29_moves {V : View} (x1 : TPart) (x2 : Str) (x3 : Bool)   {r : Bool} (hF : F_clockworkref29_moves x1 x2 x3 = some r) :
    Spec Tryz.prog 120 [.agg ⟨[.int .i64 (x1.Id), .string ⟨⟨x1.From⟩⟩, .int .i64 (x1.Node), .int .i64 (x1.Dest), .string ⟨⟨x1.Done⟩⟩]⟩, .string ⟨⟨x2⟩⟩, .bool (x3)] V (fun _ v => v = .bool (r)) := by
  unfold F_clockworkref29_moves at hF
  refine Spec.enter (T := tyT) Tryz.func120 rfl (by kernel_rfl) rfl rfl rfl ?_
  refine Exec.run tyOk 400 rfl ?_
  rcases cond_some hF with ⟨hb, hF⟩ | ⟨hb, hF⟩
  · skip
    refine Exec.ifT rfl hb ?_
    refine Exec.run tyOk 400 rfl ?_
    obtain rfl := some_inj hF
    exact Exec.ret tyOk rfl rfl rfl
  · skip
    refine Exec.ifF rfl hb ?_
    refine Exec.run tyOk 400 rfl ?_
    obtain ⟨x4, hx4, hF⟩ := bnd_some hF
    refine Exec.callS (.bool (x4)) rfl rfl (fun gg0 => W_clockworkref29_Bound x1.Done  (gcall_some hx4 (gd1_of gg0))) ?_
    refine Exec.run tyOk 400 rfl ?_
    obtain rfl := some_inj hF
    exact Exec.ret tyOk rfl rfl rfl

def F_clockworkref06_Has_L1 (x1 : List TPair) (x3 : Str) (J4 : Option Bool) : Nat → Int → Option Bool
  | 0, _ => none
  | n7 + 1, x6 => (cond (decide (x6 < (((x1).length : Nat) : Int))) (req (0 ≤ x6 ∧ x6 < ((x1).length : Int)) (cond ((atI x1 x6).Key == x3) (some true) (F_clockworkref06_Has_L1 x1 x3 J4 n7 ((IntKind.i64.wrap (x6 + (1 : Int))))))) J4)

def F_clockworkref06_Has (x1 : List TPair) (x3 : Str) : Option Bool :=
  (jn ((some false)) (fun J4 => (F_clockworkref06_Has_L1 x1 x3 J4 (((((x1).length : Nat) : Int)).toNat + 1) ((0 : Int)))))

set_option maxRecDepth 100000 in
theorem W_clockworkref06_Has {V : View} (x1 : List TPair) (x3 : Str) {a2 : Option Addr} {k2 : Nat} (h2 : SlAt cTPair V a2 k2 x1) {r : Bool} (hF : F_clockworkref06_Has x1 x3 = some r) :
    Spec Tryz.prog 121 [.slice a2 ((x1).length) (k2), .string ⟨⟨x3⟩⟩] V (fun _ v => v = .bool (r)) := by
  unfold F_clockworkref06_Has at hF
  refine Spec.enter (T := tyT) Tryz.func121 rfl (by kernel_rfl) rfl rfl rfl ?_
  refine Exec.run tyOk 9 rfl ?_
  obtain ⟨J4, hJ4, hF⟩ := jn_some hF
  refine Exec.seam (fun L' V' M' => L' = [] ∧ M' = [] ∧ J4 = some r) rfl ?_ ?_
  · rintro L' V5 M' ⟨rfl, rfl, hF⟩
    subst hJ4
    refine Exec.run tyOk 400 rfl ?_
    obtain rfl := some_inj hF
    exact Exec.ret tyOk rfl rfl rfl
  · skip
    refine Exec.run tyOk 400 rfl ?_
    refine Exec.loop (fun n7 L' V' M' => ∃ (x6 : Int), L' = [(0, .v (.slice a2 ((x1).length) (k2))), (1, .v (.string ⟨⟨x3⟩⟩)), (5, .v (.int .i64 (x6)))] ∧ M' = [] ∧ SlAt cTPair V' a2 k2 x1 ∧ F_clockworkref06_Has_L1 x1 x3 J4 n7 x6 = some r) ⟨(((((x1).length : Nat) : Int)).toNat + 1), [(0, .v (.slice a2 ((x1).length) (k2))), (1, .v (.string ⟨⟨x3⟩⟩)), (5, .v (.int .i64 ((0 : Int))))], ⟨rfl, rfl, rfl, trivial⟩, (0 : Int), rfl, rfl, h2, hF⟩ ?_
    rintro n7 L' V8 M' ⟨x6, rfl, rfl, h9, hF⟩
    rcases n7 with _ | n7
    · exact absurd hF (by simp [F_clockworkref06_Has_L1])
    rw [F_clockworkref06_Has_L1] at hF
    refine Exec.run tyOk 400 rfl ?_
    rcases cond_some hF with ⟨hb, hF⟩ | ⟨hb, hF⟩
    · skip
      refine Exec.ifT rfl hb ?_
      refine Exec.run tyOk 400 rfl ?_
      obtain ⟨q10, hF⟩ := req_some hF
      obtain ⟨c11, hr11, hd11⟩ := SlAt.get h9 q10
      obtain rfl := hr11
      refine Exec.ia tyOk rfl rfl ⟨q10.1, q10.2, hd11.some⟩ ?_
      refine Exec.run tyOk 400 rfl ?_
      refine Exec.ld tyOk (x := .string ⟨⟨(atI x1 x6).Key⟩⟩) rfl rfl (RdAt.part hd11 0 1 rfl) rfl rfl ?_
      refine Exec.run tyOk 400 rfl ?_
      rcases cond_some hF with ⟨hb, hF⟩ | ⟨hb, hF⟩
      · skip
        refine Exec.ifT rfl hb ?_
        refine Exec.run tyOk 400 rfl ?_
        obtain rfl := some_inj hF
        exact Exec.ret tyOk rfl rfl rfl
      · skip
        refine Exec.ifF rfl hb ?_
        refine Exec.run tyOk 400 rfl ?_
        exact Exec.round [(0, .v (.slice a2 ((x1).length) (k2))), (1, .v (.string ⟨⟨x3⟩⟩)), (5, .v (.int .i64 ((IntKind.i64.wrap (x6 + (1 : Int))))))] ⟨rfl, rfl, rfl, trivial⟩ ⟨n7, Nat.lt_succ_self _, (IntKind.i64.wrap (x6 + (1 : Int))), rfl, rfl, h9, hF⟩
    · skip
      refine Exec.ifF rfl hb ?_
      refine Exec.run tyOk 400 rfl ?_
      exact Exec.round [] trivial ⟨rfl, rfl, hF⟩

def F_clockworkref04_Valid_L1 (x1 : Str) (J2 : Option Bool) : Nat → Int → Option Bool
  | 0, _ => none
  | n5 + 1, x4 => (cond (decide (x4 < ((x1).length : Int))) (req (0 ≤ x4 ∧ x4 < ((x1).length : Int)) (cond (((((((decide ((byteAt x1 (x4).toNat) < (97 : Int))) || (decide ((122 : Int) < (byteAt x1 (x4).toNat)))) && ((decide ((byteAt x1 (x4).toNat) < (48 : Int))) || (decide ((57 : Int) < (byteAt x1 (x4).toNat))))) && ((byteAt x1 (x4).toNat) != (47 : Int))) && ((byteAt x1 (x4).toNat) != (46 : Int))) && ((byteAt x1 (x4).toNat) != (95 : Int))) && ((byteAt x1 (x4).toNat) != (45 : Int))) (some false) (F_clockworkref04_Valid_L1 x1 J2 n5 ((IntKind.i64.wrap (x4 + (1 : Int))))))) J2)

def F_clockworkref04_Valid (x1 : Str) : Option Bool :=
  (jn ((some ((decide ((1 : Int) ≤ ((x1).length : Int))) && (decide (((x1).length : Int) ≤ (24 : Int)))))) (fun J2 => (F_clockworkref04_Valid_L1 x1 J2 ((((x1).length : Int)).toNat + 1) ((0 : Int)))))

set_option maxRecDepth 100000 in
theorem W_clockworkref04_Valid {V : View} (x1 : Str)   {r : Bool} (hF : F_clockworkref04_Valid x1 = some r) :
    Spec Tryz.prog 133 [.string ⟨⟨x1⟩⟩] V (fun _ v => v = .bool (r)) := by
  unfold F_clockworkref04_Valid at hF
  refine Spec.enter (T := tyT) Tryz.func133 rfl (by kernel_rfl) rfl rfl rfl ?_
  refine Exec.run tyOk 9 rfl ?_
  obtain ⟨J2, hJ2, hF⟩ := jn_some hF
  refine Exec.seam (fun L' V' M' => L' = [(0, .v (.string ⟨⟨x1⟩⟩))] ∧ M' = [] ∧ J2 = some r) rfl ?_ ?_
  · rintro L' V3 M' ⟨rfl, rfl, hF⟩
    subst hJ2
    refine Exec.run tyOk 400 rfl ?_
    obtain rfl := some_inj hF
    exact Exec.ret tyOk rfl rfl rfl
  · skip
    refine Exec.run tyOk 400 rfl ?_
    refine Exec.loop (fun n5 L' V' M' => ∃ (x4 : Int), L' = [(0, .v (.string ⟨⟨x1⟩⟩)), (3, .v (.int .i64 (x4)))] ∧ M' = [] ∧ F_clockworkref04_Valid_L1 x1 J2 n5 x4 = some r) ⟨((((x1).length : Int)).toNat + 1), [(0, .v (.string ⟨⟨x1⟩⟩)), (3, .v (.int .i64 ((0 : Int))))], ⟨rfl, rfl, trivial⟩, (0 : Int), rfl, rfl, hF⟩ ?_
    rintro n5 L' V6 M' ⟨x4, rfl, rfl, hF⟩
    rcases n5 with _ | n5
    · exact absurd hF (by simp [F_clockworkref04_Valid_L1])
    rw [F_clockworkref04_Valid_L1] at hF
    refine Exec.run tyOk 400 rfl ?_
    rcases cond_some hF with ⟨hb, hF⟩ | ⟨hb, hF⟩
    · skip
      refine Exec.ifT rfl hb ?_
      refine Exec.run tyOk 400 rfl ?_
      obtain ⟨q7, hF⟩ := req_some hF
      refine Exec.idx tyOk rfl rfl q7 ?_
      refine Exec.run tyOk 400 rfl ?_
      rcases cond_some hF with ⟨hb, hF⟩ | ⟨hb, hF⟩
      · skip
        refine Exec.ifT rfl hb ?_
        refine Exec.run tyOk 400 rfl ?_
        obtain rfl := some_inj hF
        exact Exec.ret tyOk rfl rfl rfl
      · skip
        refine Exec.ifF rfl hb ?_
        refine Exec.run tyOk 400 rfl ?_
        exact Exec.round [(0, .v (.string ⟨⟨x1⟩⟩)), (3, .v (.int .i64 ((IntKind.i64.wrap (x4 + (1 : Int))))))] ⟨rfl, rfl, trivial⟩ ⟨n5, Nat.lt_succ_self _, (IntKind.i64.wrap (x4 + (1 : Int))), rfl, rfl, hF⟩
    · skip
      refine Exec.ifF rfl hb ?_
      refine Exec.run tyOk 400 rfl ?_
      exact Exec.round [(0, .v (.string ⟨⟨x1⟩⟩))] ⟨rfl, trivial⟩ ⟨rfl, rfl, hF⟩

def F_keys_consists_L1 (x1 : Str) (g3 : Int → Option Bool) (J4 : Option Bool) : Nat → Int → Option Bool
  | 0, _ => none
  | n7 + 1, x6 => (cond (decide (x6 < ((x1).length : Int))) (req (0 ≤ x6 ∧ x6 < ((x1).length : Int)) (bnd (g3 ((byteAt x1 (x6).toNat))) fun x11 => (cond (!x11) (some false) (F_keys_consists_L1 x1 g3 J4 n7 ((IntKind.i64.wrap (x6 + (1 : Int)))))))) J4)

def F_keys_consists (x1 : Str) (g3 : Int → Option Bool) : Option Bool :=
  (cond (decide ((24 : Int) < ((x1).length : Int))) (some false) (jn ((some true)) (fun J4 => (F_keys_consists_L1 x1 g3 J4 ((((x1).length : Int)).toNat + 1) ((0 : Int))))))

set_option maxRecDepth 100000 in
theorem W_keys_consists {V : View} (x1 : Str) (g3 : Int → Option Bool) {f3 : Nat} {ca3 : List Value}  (hg3 : FnSpec1 Tryz.prog f3 ca3 V (fun (y : Int) => .int .u8 (y)) (fun (r : Bool) => .bool (r)) g3) {r : Bool} (hF : F_keys_consists x1 g3 = some r) :
    Spec Tryz.prog 134 [.string ⟨⟨x1⟩⟩, .func (.func f3) #[] ⟨ca3⟩] V (fun _ v => v = .bool (r)) := by
  unfold F_keys_consists at hF
  refine Spec.enter (T := tyT) Tryz.func134 rfl (by kernel_rfl) rfl rfl rfl ?_
  refine Exec.run tyOk 400 rfl ?_
  rcases cond_some hF with ⟨hb, hF⟩ | ⟨hb, hF⟩
  · skip
    refine Exec.ifT rfl hb ?_
    refine Exec.run tyOk 400 rfl ?_
    obtain rfl := some_inj hF
    exact Exec.ret tyOk rfl rfl rfl
  · skip
    refine Exec.ifF rfl hb ?_
    refine Exec.run tyOk 8 rfl ?_
    obtain ⟨J4, hJ4, hF⟩ := jn_some hF
    refine Exec.seam (fun L' V' M' => L' = [] ∧ M' = [] ∧ J4 = some r) rfl ?_ ?_
    · rintro L' V5 M' ⟨rfl, rfl, hF⟩
      subst hJ4
      refine Exec.run tyOk 400 rfl ?_
      obtain rfl := some_inj hF
      exact Exec.ret tyOk rfl rfl rfl
    · skip
      refine Exec.run tyOk 400 rfl ?_
      refine Exec.loop (fun n7 L' V' M' => ∃ (x6 : Int), L' = [(0, .v (.string ⟨⟨x1⟩⟩)), (1, .v (.func (.func f3) #[] ⟨ca3⟩)), (10, .v (.int .i64 (((x1).length : Int)))), (11, .v (.int .i64 (x6)))] ∧ M' = [] ∧ FnSpec1 Tryz.prog f3 ca3 V' (fun (y : Int) => .int .u8 (y)) (fun (r : Bool) => .bool (r)) g3 ∧ F_keys_consists_L1 x1 g3 J4 n7 x6 = some r) ⟨((((x1).length : Int)).toNat + 1), [(0, .v (.string ⟨⟨x1⟩⟩)), (1, .v (.func (.func f3) #[] ⟨ca3⟩)), (10, .v (.int .i64 (((x1).length : Int)))), (11, .v (.int .i64 ((0 : Int))))], ⟨rfl, rfl, rfl, rfl, trivial⟩, (0 : Int), rfl, rfl, hg3, hF⟩ ?_
      rintro n7 L' V8 M' ⟨x6, rfl, rfl, h9, hF⟩
      rcases n7 with _ | n7
      · exact absurd hF (by simp [F_keys_consists_L1])
      rw [F_keys_consists_L1] at hF
      refine Exec.run tyOk 400 rfl ?_
      rcases cond_some hF with ⟨hb, hF⟩ | ⟨hb, hF⟩
      · skip
        refine Exec.ifT rfl hb ?_
        refine Exec.run tyOk 400 rfl ?_
        obtain ⟨q10, hF⟩ := req_some hF
        refine Exec.idx tyOk rfl rfl q10 ?_
        refine Exec.run tyOk 400 rfl ?_
        obtain ⟨x11, hx11, hF⟩ := bnd_some hF
        refine Exec.callS (.bool (x11)) rfl rfl (h9.at hx11) ?_
        refine Exec.run tyOk 400 rfl ?_
        rcases cond_some hF with ⟨hb, hF⟩ | ⟨hb, hF⟩
        · skip
          refine Exec.ifT rfl hb ?_
          refine Exec.run tyOk 400 rfl ?_
          obtain rfl := some_inj hF
          exact Exec.ret tyOk rfl rfl rfl
        · skip
          refine Exec.ifF rfl hb ?_
          refine Exec.run tyOk 400 rfl ?_
          exact Exec.round [(0, .v (.string ⟨⟨x1⟩⟩)), (1, .v (.func (.func f3) #[] ⟨ca3⟩)), (10, .v (.int .i64 (((x1).length : Int)))), (11, .v (.int .i64 ((IntKind.i64.wrap (x6 + (1 : Int))))))] ⟨rfl, rfl, rfl, rfl, trivial⟩ ⟨n7, Nat.lt_succ_self _, (IntKind.i64.wrap (x6 + (1 : Int))), rfl, rfl, h9, hF⟩
      · skip
        refine Exec.ifF rfl hb ?_
        refine Exec.run tyOk 400 rfl ?_
        exact Exec.round [] trivial ⟨rfl, rfl, hF⟩

def F_keys_Valid_1 (x1 : Int) : Option Bool :=
  (some (((((((decide ((97 : Int) ≤ x1)) && (decide (x1 ≤ (122 : Int)))) || ((decide ((48 : Int) ≤ x1)) && (decide (x1 ≤ (57 : Int))))) || (x1 == (47 : Int))) || (x1 == (46 : Int))) || (x1 == (95 : Int))) || (x1 == (45 : Int))))

set_option maxRecDepth 100000 in
theorem W_keys_Valid_1 {V : View} (x1 : Int)   {r : Bool} (hF : F_keys_Valid_1 x1 = some r) :
    Spec Tryz.prog 135 [.int .u8 (x1)] V (fun _ v => v = .bool (r)) := by
  unfold F_keys_Valid_1 at hF
  refine Spec.enter (T := tyT) Tryz.func135 rfl (by kernel_rfl) rfl rfl rfl ?_
  refine Exec.run tyOk 400 rfl ?_
  obtain rfl := some_inj hF
  exact Exec.ret tyOk rfl rfl rfl

def F_clockworkref05_Plain_L1 (x1 : Str) (J2 : Option Bool) : Nat → Int → Option Bool
  | 0, _ => none
  | n5 + 1, x4 => (cond (decide (x4 < ((x1).length : Int))) (req (0 ≤ x4 ∧ x4 < ((x1).length : Int)) (req ((((decide ((byteAt x1 (x4).toNat) < (32 : Int)))) == false) = true → 0 ≤ x4 ∧ x4 < ((x1).length : Int)) (cond ((decide ((byteAt x1 (x4).toNat) < (32 : Int))) || (decide ((126 : Int) < (byteAt x1 (x4).toNat)))) (some false) (F_clockworkref05_Plain_L1 x1 J2 n5 ((IntKind.i64.wrap (x4 + (1 : Int)))))))) J2)

def F_clockworkref05_Plain (x1 : Str) : Option Bool :=
  (cond (decide ((64 : Int) < ((x1).length : Int))) (some false) (jn ((some true)) (fun J2 => (F_clockworkref05_Plain_L1 x1 J2 ((((x1).length : Int)).toNat + 1) ((0 : Int))))))

set_option maxRecDepth 100000 in
theorem W_clockworkref05_Plain {V : View} (x1 : Str)   {r : Bool} (hF : F_clockworkref05_Plain x1 = some r) :
    Spec Tryz.prog 136 [.string ⟨⟨x1⟩⟩] V (fun _ v => v = .bool (r)) := by
  unfold F_clockworkref05_Plain at hF
  refine Spec.enter (T := tyT) Tryz.func136 rfl (by kernel_rfl) rfl rfl rfl ?_
  refine Exec.run tyOk 400 rfl ?_
  rcases cond_some hF with ⟨hb, hF⟩ | ⟨hb, hF⟩
  · skip
    refine Exec.ifT rfl hb ?_
    refine Exec.run tyOk 400 rfl ?_
    obtain rfl := some_inj hF
    exact Exec.ret tyOk rfl rfl rfl
  · skip
    refine Exec.ifF rfl hb ?_
    refine Exec.run tyOk 6 rfl ?_
    obtain ⟨J2, hJ2, hF⟩ := jn_some hF
    refine Exec.seam (fun L' V' M' => L' = [] ∧ M' = [] ∧ J2 = some r) rfl ?_ ?_
    · rintro L' V3 M' ⟨rfl, rfl, hF⟩
      subst hJ2
      refine Exec.run tyOk 400 rfl ?_
      obtain rfl := some_inj hF
      exact Exec.ret tyOk rfl rfl rfl
    · skip
      refine Exec.run tyOk 400 rfl ?_
      refine Exec.loop (fun n5 L' V' M' => ∃ (x4 : Int), L' = [(0, .v (.string ⟨⟨x1⟩⟩)), (3, .v (.int .i64 (x4)))] ∧ M' = [] ∧ F_clockworkref05_Plain_L1 x1 J2 n5 x4 = some r) ⟨((((x1).length : Int)).toNat + 1), [(0, .v (.string ⟨⟨x1⟩⟩)), (3, .v (.int .i64 ((0 : Int))))], ⟨rfl, rfl, trivial⟩, (0 : Int), rfl, rfl, hF⟩ ?_
      rintro n5 L' V6 M' ⟨x4, rfl, rfl, hF⟩
      rcases n5 with _ | n5
      · exact absurd hF (by simp [F_clockworkref05_Plain_L1])
      rw [F_clockworkref05_Plain_L1] at hF
      refine Exec.run tyOk 400 rfl ?_
      rcases cond_some hF with ⟨hb, hF⟩ | ⟨hb, hF⟩
      · skip
        refine Exec.ifT rfl hb ?_
        refine Exec.run tyOk 400 rfl ?_
        obtain ⟨q7, hF⟩ := req_some hF
        refine Exec.idx tyOk rfl rfl q7 ?_
        refine Exec.run tyOk 400 rfl ?_
        obtain ⟨q8, hF⟩ := req_some hF
        refine Exec.idx tyOk rfl rfl (fun gg0 => q8 (gd1_of gg0)) ?_
        refine Exec.run tyOk 400 rfl ?_
        rcases cond_some hF with ⟨hb, hF⟩ | ⟨hb, hF⟩
        · skip
          refine Exec.ifT rfl hb ?_
          refine Exec.run tyOk 400 rfl ?_
          obtain rfl := some_inj hF
          exact Exec.ret tyOk rfl rfl rfl
        · skip
          refine Exec.ifF rfl hb ?_
          refine Exec.run tyOk 400 rfl ?_
          exact Exec.round [(0, .v (.string ⟨⟨x1⟩⟩)), (3, .v (.int .i64 ((IntKind.i64.wrap (x4 + (1 : Int))))))] ⟨rfl, rfl, trivial⟩ ⟨n5, Nat.lt_succ_self _, (IntKind.i64.wrap (x4 + (1 : Int))), rfl, rfl, hF⟩
      · skip
        refine Exec.ifF rfl hb ?_
        refine Exec.run tyOk 400 rfl ?_
        exact Exec.round [] trivial ⟨rfl, rfl, hF⟩

def F_slices_Equal_string_string_L1 (x1 : List Str) (x3 : List Str) (J5 : Option Bool) : Nat → Int → Option Bool
  | 0, _ => none
  | n8 + 1, x7 => (cond (decide (x7 < (((x1).length : Nat) : Int))) (req (0 ≤ x7 ∧ x7 < ((x1).length : Int)) (req (0 ≤ x7 ∧ x7 < ((x3).length : Int)) (cond ((atI x1 x7) != (atI x3 x7)) (some false) (F_slices_Equal_string_string_L1 x1 x3 J5 n8 ((IntKind.i64.wrap (x7 + (1 : Int)))))))) J5)

def F_slices_Equal_string_string (x1 : List Str) (x3 : List Str) : Option Bool :=
  (cond ((((x1).length : Nat) : Int) != (((x3).length : Nat) : Int)) (some false) (jn ((some true)) (fun J5 => (F_slices_Equal_string_string_L1 x1 x3 J5 (((((x1).length : Nat) : Int)).toNat + 1) ((0 : Int))))))

set_option maxRecDepth 100000 in
theorem W_slices_Equal_string_string {V : View} (x1 : List Str) (x3 : List Str) {a2 : Option Addr} {k2 : Nat} {a4 : Option Addr} {k4 : Nat} (h2 : SlAt cStr V a2 k2 x1) (h4 : SlAt cStr V a4 k4 x3) {r : Bool} (hF : F_slices_Equal_string_string x1 x3 = some r) :
    Spec Tryz.prog 140 [.slice a2 ((x1).length) (k2), .slice a4 ((x3).length) (k4)] V (fun _ v => v = .bool (r)) := by
  unfold F_slices_Equal_string_string at hF
  refine Spec.enter (T := tyT) Tryz.func140 rfl (by kernel_rfl) rfl rfl rfl ?_
  refine Exec.run tyOk 400 rfl ?_
  rcases cond_some hF with ⟨hb, hF⟩ | ⟨hb, hF⟩
  · skip
    refine Exec.ifT rfl hb ?_
    refine Exec.run tyOk 400 rfl ?_
    obtain rfl := some_inj hF
    exact Exec.ret tyOk rfl rfl rfl
  · skip
    refine Exec.ifF rfl hb ?_
    refine Exec.run tyOk 8 rfl ?_
    obtain ⟨J5, hJ5, hF⟩ := jn_some hF
    refine Exec.seam (fun L' V' M' => L' = [] ∧ M' = [] ∧ J5 = some r) rfl ?_ ?_
    · rintro L' V6 M' ⟨rfl, rfl, hF⟩
      subst hJ5
      refine Exec.run tyOk 400 rfl ?_
      obtain rfl := some_inj hF
      exact Exec.ret tyOk rfl rfl rfl
    · skip
      refine Exec.run tyOk 400 rfl ?_
      refine Exec.loop (fun n8 L' V' M' => ∃ (x7 : Int), L' = [(0, .v (.slice a2 ((x1).length) (k2))), (1, .v (.slice a4 ((x3).length) (k4))), (12, .v (.int .i64 ((((x1).length : Nat) : Int)))), (13, .v (.int .i64 (x7)))] ∧ M' = [] ∧ SlAt cStr V' a2 k2 x1 ∧ SlAt cStr V' a4 k4 x3 ∧ F_slices_Equal_string_string_L1 x1 x3 J5 n8 x7 = some r) ⟨(((((x1).length : Nat) : Int)).toNat + 1), [(0, .v (.slice a2 ((x1).length) (k2))), (1, .v (.slice a4 ((x3).length) (k4))), (12, .v (.int .i64 ((((x1).length : Nat) : Int)))), (13, .v (.int .i64 ((0 : Int))))], ⟨rfl, rfl, rfl, rfl, trivial⟩, (0 : Int), rfl, rfl, h2, h4, hF⟩ ?_
      rintro n8 L' V9 M' ⟨x7, rfl, rfl, h10, h11, hF⟩
      rcases n8 with _ | n8
      · exact absurd hF (by simp [F_slices_Equal_string_string_L1])
      rw [F_slices_Equal_string_string_L1] at hF
      refine Exec.run tyOk 400 rfl ?_
      rcases cond_some hF with ⟨hb, hF⟩ | ⟨hb, hF⟩
      · skip
        refine Exec.ifT rfl hb ?_
        refine Exec.run tyOk 400 rfl ?_
        refine Exec.draws tyOk [(0, true), (1, true), (2, true), (3, true), (4, true), (5, true), (6, true), (7, true), (8, true)] rfl (by kernel_rfl) ?_
        refine Exec.run tyOk 400 rfl ?_
        obtain ⟨q12, hF⟩ := req_some hF
        obtain ⟨c13, hr13, hd13⟩ := SlAt.get h10 q12
        obtain rfl := hr13
        refine Exec.fia tyOk rfl rfl rfl ⟨q12.1, q12.2, hd13.some⟩ ?_
        refine Exec.run tyOk 400 rfl ?_
        refine Exec.fld tyOk (x := .string ⟨⟨(atI x1 x7)⟩⟩) rfl rfl rfl hd13 rfl rfl ?_
        refine Exec.run tyOk 400 rfl ?_
        obtain ⟨q14, hF⟩ := req_some hF
        obtain ⟨c15, hr15, hd15⟩ := SlAt.get h11 q14
        obtain rfl := hr15
        refine Exec.fia tyOk rfl rfl rfl ⟨q14.1, q14.2, hd15.some⟩ ?_
        refine Exec.run tyOk 400 rfl ?_
        refine Exec.fld tyOk (x := .string ⟨⟨(atI x3 x7)⟩⟩) rfl rfl rfl hd15 rfl rfl ?_
        refine Exec.run tyOk 400 rfl ?_
        rcases cond_some hF with ⟨hb, hF⟩ | ⟨hb, hF⟩
        · skip
          refine Exec.ifT rfl hb ?_
          refine Exec.run tyOk 400 rfl ?_
          obtain rfl := some_inj hF
          exact Exec.ret tyOk rfl rfl rfl
        · skip
          refine Exec.ifF rfl hb ?_
          refine Exec.run tyOk 400 rfl ?_
          exact Exec.round [(0, .v (.slice a2 ((x1).length) (k2))), (1, .v (.slice a4 ((x3).length) (k4))), (12, .v (.int .i64 ((((x1).length : Nat) : Int)))), (13, .v (.int .i64 ((IntKind.i64.wrap (x7 + (1 : Int))))))] ⟨rfl, rfl, rfl, rfl, trivial⟩ ⟨n8, Nat.lt_succ_self _, (IntKind.i64.wrap (x7 + (1 : Int))), rfl, rfl, h10, h11, hF⟩
      · skip
        refine Exec.ifF rfl hb ?_
        refine Exec.run tyOk 400 rfl ?_
        exact Exec.round [] trivial ⟨rfl, rfl, hF⟩

def F_slices_Equal_api_Pair_api_Pair_L1 (x1 : List TPair) (x3 : List TPair) (J5 : Option Bool) : Nat → Int → Option Bool
  | 0, _ => none
  | n8 + 1, x7 => (cond (decide (x7 < (((x1).length : Nat) : Int))) (req (0 ≤ x7 ∧ x7 < ((x1).length : Int)) (req (0 ≤ x7 ∧ x7 < ((x3).length : Int)) (cond (!(((atI x1 x7).Key == (atI x3 x7).Key) && ((((atI x1 x7).Val.Kind == (atI x3 x7).Val.Kind) && (((atI x1 x7).Val.N == (atI x3 x7).Val.N) && (((atI x1 x7).Val.S == (atI x3 x7).Val.S) && true))) && true))) (some false) (F_slices_Equal_api_Pair_api_Pair_L1 x1 x3 J5 n8 ((IntKind.i64.wrap (x7 + (1 : Int)))))))) J5)

def F_slices_Equal_api_Pair_api_Pair (x1 : List TPair) (x3 : List TPair) : Option Bool :=
  (cond ((((x1).length : Nat) : Int) != (((x3).length : Nat) : Int)) (some false) (jn ((some true)) (fun J5 => (F_slices_Equal_api_Pair_api_Pair_L1 x1 x3 J5 (((((x1).length : Nat) : Int)).toNat + 1) ((0 : Int))))))

set_option maxRecDepth 100000 in
theorem W_slices_Equal_api_Pair_api_Pair {V : View} (x1 : List TPair) (x3 : List TPair) {a2 : Option Addr} {k2 : Nat} {a4 : Option Addr} {k4 : Nat} (h2 : SlAt cTPair V a2 k2 x1) (h4 : SlAt cTPair V a4 k4 x3) {r : Bool} (hF : F_slices_Equal_api_Pair_api_Pair x1 x3 = some r) :
    Spec Tryz.prog 141 [.slice a2 ((x1).length) (k2), .slice a4 ((x3).length) (k4)] V (fun _ v => v = .bool (r)) := by
  unfold F_slices_Equal_api_Pair_api_Pair at hF
  refine Spec.enter (T := tyT) Tryz.func141 rfl (by kernel_rfl) rfl rfl rfl ?_
  refine Exec.run tyOk 400 rfl ?_
  rcases cond_some hF with ⟨hb, hF⟩ | ⟨hb, hF⟩
  · skip
    refine Exec.ifT rfl hb ?_
    refine Exec.run tyOk 400 rfl ?_
    obtain rfl := some_inj hF
    exact Exec.ret tyOk rfl rfl rfl
  · skip
    refine Exec.ifF rfl hb ?_
    refine Exec.run tyOk 8 rfl ?_
    obtain ⟨J5, hJ5, hF⟩ := jn_some hF
    refine Exec.seam (fun L' V' M' => L' = [] ∧ M' = [] ∧ J5 = some r) rfl ?_ ?_
    · rintro L' V6 M' ⟨rfl, rfl, hF⟩
      subst hJ5
      refine Exec.run tyOk 400 rfl ?_
      obtain rfl := some_inj hF
      exact Exec.ret tyOk rfl rfl rfl
    · skip
      refine Exec.run tyOk 400 rfl ?_
      refine Exec.loop (fun n8 L' V' M' => ∃ (x7 : Int), L' = [(0, .v (.slice a2 ((x1).length) (k2))), (1, .v (.slice a4 ((x3).length) (k4))), (12, .v (.int .i64 ((((x1).length : Nat) : Int)))), (13, .v (.int .i64 (x7)))] ∧ M' = [] ∧ SlAt cTPair V' a2 k2 x1 ∧ SlAt cTPair V' a4 k4 x3 ∧ F_slices_Equal_api_Pair_api_Pair_L1 x1 x3 J5 n8 x7 = some r) ⟨(((((x1).length : Nat) : Int)).toNat + 1), [(0, .v (.slice a2 ((x1).length) (k2))), (1, .v (.slice a4 ((x3).length) (k4))), (12, .v (.int .i64 ((((x1).length : Nat) : Int)))), (13, .v (.int .i64 ((0 : Int))))], ⟨rfl, rfl, rfl, rfl, trivial⟩, (0 : Int), rfl, rfl, h2, h4, hF⟩ ?_
      rintro n8 L' V9 M' ⟨x7, rfl, rfl, h10, h11, hF⟩
      rcases n8 with _ | n8
      · exact absurd hF (by simp [F_slices_Equal_api_Pair_api_Pair_L1])
      rw [F_slices_Equal_api_Pair_api_Pair_L1] at hF
      refine Exec.run tyOk 400 rfl ?_
      rcases cond_some hF with ⟨hb, hF⟩ | ⟨hb, hF⟩
      · skip
        refine Exec.ifT rfl hb ?_
        refine Exec.run tyOk 400 rfl ?_
        refine Exec.draws tyOk [(0, true), (1, true), (2, true), (3, true), (4, true), (5, true), (6, true), (7, true), (8, true)] rfl (by kernel_rfl) ?_
        refine Exec.run tyOk 400 rfl ?_
        obtain ⟨q12, hF⟩ := req_some hF
        obtain ⟨c13, hr13, hd13⟩ := SlAt.get h10 q12
        obtain rfl := hr13
        refine Exec.fia tyOk rfl rfl rfl ⟨q12.1, q12.2, hd13.some⟩ ?_
        refine Exec.run tyOk 400 rfl ?_
        refine Exec.fld tyOk (x := .agg ⟨[.string ⟨⟨(atI x1 x7).Key⟩⟩, .int .i64 ((atI x1 x7).Val.Kind), .int .i64 ((atI x1 x7).Val.N), .string ⟨⟨(atI x1 x7).Val.S⟩⟩]⟩) rfl rfl rfl hd13 rfl rfl ?_
        refine Exec.run tyOk 400 rfl ?_
        obtain ⟨q14, hF⟩ := req_some hF
        obtain ⟨c15, hr15, hd15⟩ := SlAt.get h11 q14
        obtain rfl := hr15
        refine Exec.fia tyOk rfl rfl rfl ⟨q14.1, q14.2, hd15.some⟩ ?_
        refine Exec.run tyOk 400 rfl ?_
        refine Exec.fld tyOk (x := .agg ⟨[.string ⟨⟨(atI x3 x7).Key⟩⟩, .int .i64 ((atI x3 x7).Val.Kind), .int .i64 ((atI x3 x7).Val.N), .string ⟨⟨(atI x3 x7).Val.S⟩⟩]⟩) rfl rfl rfl hd15 rfl rfl ?_
        refine Exec.run tyOk 400 rfl ?_
        rcases cond_some hF with ⟨hb, hF⟩ | ⟨hb, hF⟩
        · skip
          refine Exec.ifT rfl hb ?_
          refine Exec.run tyOk 400 rfl ?_
          obtain rfl := some_inj hF
          exact Exec.ret tyOk rfl rfl rfl
        · skip
          refine Exec.ifF rfl hb ?_
          refine Exec.run tyOk 400 rfl ?_
          exact Exec.round [(0, .v (.slice a2 ((x1).length) (k2))), (1, .v (.slice a4 ((x3).length) (k4))), (12, .v (.int .i64 ((((x1).length : Nat) : Int)))), (13, .v (.int .i64 ((IntKind.i64.wrap (x7 + (1 : Int))))))] ⟨rfl, rfl, rfl, rfl, trivial⟩ ⟨n8, Nat.lt_succ_self _, (IntKind.i64.wrap (x7 + (1 : Int))), rfl, rfl, h10, h11, hF⟩
      · skip
        refine Exec.ifF rfl hb ?_
        refine Exec.run tyOk 400 rfl ?_
        exact Exec.round [] trivial ⟨rfl, rfl, hF⟩

def F_slices_IndexFunc_api_Pair_api_Pair_L1 (x1 : List TPair) (g4 : TPair → Option Bool) (J5 : Option Int) : Nat → Int → Option Int
  | 0, _ => none
  | n8 + 1, x7 => (cond (decide (x7 < (((x1).length : Nat) : Int))) (req (0 ≤ x7 ∧ x7 < ((x1).length : Int)) (bnd (g4 ((atI x1 x7))) fun x14 => (cond x14 (some x7) (F_slices_IndexFunc_api_Pair_api_Pair_L1 x1 g4 J5 n8 ((IntKind.i64.wrap (x7 + (1 : Int)))))))) J5)

def F_slices_IndexFunc_api_Pair_api_Pair (x1 : List TPair) (g4 : TPair → Option Bool) : Option Int :=
  (jn ((some (-1 : Int))) (fun J5 => (F_slices_IndexFunc_api_Pair_api_Pair_L1 x1 g4 J5 (((((x1).length : Nat) : Int)).toNat + 1) ((0 : Int)))))

set_option maxRecDepth 100000 in
theorem W_slices_IndexFunc_api_Pair_api_Pair {V : View} (x1 : List TPair) (g4 : TPair → Option Bool) {f4 : Nat} {ca4 : List Value} {a2 : Option Addr} {k2 : Nat} (h2 : SlAt cTPair V a2 k2 x1) (hg4 : FnSpec1 Tryz.prog f4 ca4 V (fun (y : TPair) => .agg ⟨[.string ⟨⟨y.Key⟩⟩, .int .i64 (y.Val.Kind), .int .i64 (y.Val.N), .string ⟨⟨y.Val.S⟩⟩]⟩) (fun (r : Bool) => .bool (r)) g4) {r : Int} (hF : F_slices_IndexFunc_api_Pair_api_Pair x1 g4 = some r) :
    Spec Tryz.prog 143 [.slice a2 ((x1).length) (k2), .func (.func f4) #[] ⟨ca4⟩] V (fun _ v => v = .int .i64 (r)) := by
  unfold F_slices_IndexFunc_api_Pair_api_Pair at hF
  refine Spec.enter (T := tyT) Tryz.func143 rfl (by kernel_rfl) rfl rfl rfl ?_
  refine Exec.run tyOk 11 rfl ?_
  obtain ⟨J5, hJ5, hF⟩ := jn_some hF
  refine Exec.seam (fun L' V' M' => L' = [] ∧ M' = [] ∧ J5 = some r) rfl ?_ ?_
  · rintro L' V6 M' ⟨rfl, rfl, hF⟩
    subst hJ5
    refine Exec.run tyOk 400 rfl ?_
    obtain rfl := some_inj hF
    exact Exec.ret tyOk rfl rfl rfl
  · skip
    refine Exec.run tyOk 400 rfl ?_
    refine Exec.loop (fun n8 L' V' M' => ∃ (x7 : Int), L' = [(0, .v (.slice a2 ((x1).length) (k2))), (1, .v (.func (.func f4) #[] ⟨ca4⟩)), (7, .v (.int .i64 ((((x1).length : Nat) : Int)))), (8, .v (.int .i64 (x7)))] ∧ M' = [] ∧ SlAt cTPair V' a2 k2 x1 ∧ FnSpec1 Tryz.prog f4 ca4 V' (fun (y : TPair) => .agg ⟨[.string ⟨⟨y.Key⟩⟩, .int .i64 (y.Val.Kind), .int .i64 (y.Val.N), .string ⟨⟨y.Val.S⟩⟩]⟩) (fun (r : Bool) => .bool (r)) g4 ∧ F_slices_IndexFunc_api_Pair_api_Pair_L1 x1 g4 J5 n8 x7 = some r) ⟨(((((x1).length : Nat) : Int)).toNat + 1), [(0, .v (.slice a2 ((x1).length) (k2))), (1, .v (.func (.func f4) #[] ⟨ca4⟩)), (7, .v (.int .i64 ((((x1).length : Nat) : Int)))), (8, .v (.int .i64 ((0 : Int))))], ⟨rfl, rfl, rfl, rfl, trivial⟩, (0 : Int), rfl, rfl, h2, hg4, hF⟩ ?_
    rintro n8 L' V9 M' ⟨x7, rfl, rfl, h10, h11, hF⟩
    rcases n8 with _ | n8
    · exact absurd hF (by simp [F_slices_IndexFunc_api_Pair_api_Pair_L1])
    rw [F_slices_IndexFunc_api_Pair_api_Pair_L1] at hF
    refine Exec.run tyOk 400 rfl ?_
    rcases cond_some hF with ⟨hb, hF⟩ | ⟨hb, hF⟩
    · skip
      refine Exec.ifT rfl hb ?_
      refine Exec.run tyOk 400 rfl ?_
      obtain ⟨q12, hF⟩ := req_some hF
      obtain ⟨c13, hr13, hd13⟩ := SlAt.get h10 q12
      obtain rfl := hr13
      refine Exec.ia tyOk rfl rfl ⟨q12.1, q12.2, hd13.some⟩ ?_
      refine Exec.run tyOk 400 rfl ?_
      refine Exec.ld tyOk (x := .agg ⟨[.string ⟨⟨(atI x1 x7).Key⟩⟩, .int .i64 ((atI x1 x7).Val.Kind), .int .i64 ((atI x1 x7).Val.N), .string ⟨⟨(atI x1 x7).Val.S⟩⟩]⟩) rfl rfl hd13 rfl rfl ?_
      refine Exec.run tyOk 400 rfl ?_
      obtain ⟨x14, hx14, hF⟩ := bnd_some hF
      refine Exec.callS (.bool (x14)) rfl rfl (h11.at hx14) ?_
      refine Exec.run tyOk 400 rfl ?_
      rcases cond_some hF with ⟨hb, hF⟩ | ⟨hb, hF⟩
      · skip
        refine Exec.ifT rfl hb ?_
        refine Exec.run tyOk 400 rfl ?_
        obtain rfl := some_inj hF
        exact Exec.ret tyOk rfl rfl rfl
      · skip
        refine Exec.ifF rfl hb ?_
        refine Exec.run tyOk 400 rfl ?_
        exact Exec.round [(0, .v (.slice a2 ((x1).length) (k2))), (1, .v (.func (.func f4) #[] ⟨ca4⟩)), (7, .v (.int .i64 ((((x1).length : Nat) : Int)))), (8, .v (.int .i64 ((IntKind.i64.wrap (x7 + (1 : Int))))))] ⟨rfl, rfl, rfl, rfl, trivial⟩ ⟨n8, Nat.lt_succ_self _, (IntKind.i64.wrap (x7 + (1 : Int))), rfl, rfl, h10, h11, hF⟩
    · skip
      refine Exec.ifF rfl hb ?_
      refine Exec.run tyOk 400 rfl ?_
      exact Exec.round [] trivial ⟨rfl, rfl, hF⟩

def F_strings_Compare (x1 x2 : Str) : Option Int := some (Go.Lib.compareBytes x1 x2)

theorem W_strings_Compare {V : View} (x1 x2 : Str) {r : Int} (hF : F_strings_Compare x1 x2 = some r) :
    Spec Tryz.prog 144 [.string ⟨⟨x1⟩⟩, .string ⟨⟨x2⟩⟩] V (fun _ v => v = .int .i64 r) := by
  obtain rfl := some_inj hF
  exact Spec.pure ⟨_, Tryz.func144, by kernel_rfl, by kernel_rfl⟩ (fun w => Tryz.strings_Compare ⟨⟨x1⟩⟩ ⟨⟨x2⟩⟩ w)


def F_clockworkref06_with_L1 (x1 : List TPair) (x3 : TPair) (J5 : Int → Option (List TPair)) : Nat → Int → Option (List TPair)
  | 0, _ => none
  | n24 + 1, x23 => (req ((((decide (x23 < (((x1).length : Nat) : Int)))) == true) = true → 0 ≤ x23 ∧ x23 < ((x1).length : Int)) (cond ((decide (x23 < (((x1).length : Nat) : Int))) && (sLt (cond (((decide (x23 < (((x1).length : Nat) : Int)))) == true) (atI x1 x23) default).Key x3.Key)) (F_clockworkref06_with_L1 x1 x3 J5 n24 ((IntKind.i64.wrap (x23 + (1 : Int))))) (J5 x23)))

def F_clockworkref06_with (x1 : List TPair) (x3 : TPair) : Option (List TPair) :=
  (jn (fun (x4 : Int) => (req (0 ≤ (0 : Int) ∧ (0 : Int) ≤ x4 ∧ x4 ≤ ((x1).length : Int)) (req (((([] : List TPair) ++ ((x1.take (x4).toNat).drop ((0 : Int)).toNat))).length * 48 ≤ 140737488355328) (req ((((([] : List TPair) ++ ((x1.take (x4).toNat).drop ((0 : Int)).toNat)) ++ [x3])).length * 48 ≤ 140737488355328) (req (0 ≤ x4 ∧ x4 ≤ (((x1).length : Nat) : Int) ∧ (((x1).length : Nat) : Int) ≤ ((x1).length : Int)) (req (((((([] : List TPair) ++ ((x1.take (x4).toNat).drop ((0 : Int)).toNat)) ++ [x3]) ++ ((x1.take ((((x1).length : Nat) : Int)).toNat).drop (x4).toNat))).length * 48 ≤ 140737488355328) (some (((([] : List TPair) ++ ((x1.take (x4).toNat).drop ((0 : Int)).toNat)) ++ [x3]) ++ ((x1.take ((((x1).length : Nat) : Int)).toNat).drop (x4).toNat))))))))) (fun J5 => (F_clockworkref06_with_L1 x1 x3 J5 (1000000 : Nat) ((0 : Int)))))

set_option maxRecDepth 100000 in
theorem W_clockworkref06_with {V : View} (x1 : List TPair) (x3 : TPair) {a2 : Option Addr} {k2 : Nat} (h2 : SlAt cTPair V a2 k2 x1) {r : List TPair} (hF : F_clockworkref06_with x1 x3 = some r) :
    Spec Tryz.prog 145 [.slice a2 ((x1).length) (k2), .agg ⟨[.string ⟨⟨x3.Key⟩⟩, .int .i64 (x3.Val.Kind), .int .i64 (x3.Val.N), .string ⟨⟨x3.Val.S⟩⟩]⟩] V (fun V' v => ∃ (a29 : Option Addr) (k29 : Nat), v = .slice a29 ((r).length) (k29) ∧ SlAt cTPair V' a29 k29 r) := by
  unfold F_clockworkref06_with at hF
  refine Spec.enter (T := tyT) Tryz.func145 rfl (by kernel_rfl) rfl rfl rfl ?_
  refine Exec.run tyOk 10 rfl ?_
  obtain ⟨J5, hJ5, hF⟩ := jn_some hF
  refine Exec.seam (fun L' V' M' => ∃ (x4 : Int), L' = [(0, .v (.slice a2 ((x1).length) (k2))), (3, .ptr 0 0), (5, .v (.int .i64 (x4)))] ∧ M' = [.blk [.v (.string ⟨⟨x3.Key⟩⟩), .v (.int .i64 (x3.Val.Kind)), .v (.int .i64 (x3.Val.N)), .v (.string ⟨⟨x3.Val.S⟩⟩)] 70] ∧ SlAt cTPair V' a2 k2 x1 ∧ J5 x4 = some r) rfl ?_ ?_
  · rintro L' V6 M' ⟨x4, rfl, rfl, h7, hF⟩
    subst hJ5
    refine Exec.run tyOk 400 rfl ?_
    obtain ⟨q8, hF⟩ := req_some hF
    refine Exec.slv tyOk (c := cTPair) rfl rfl (lo := (0 : Int)) (hi := x4) rfl rfl h7 (by simp) rfl q8 (fun a9 k9 h9 => ?_)
    refine Exec.run tyOk 400 rfl ?_
    refine Exec.row0 70 4 rfl ?_
    have h10 : RowRep cTPair V6 [] [] := RowRep.nil
    obtain ⟨q12, hF⟩ := req_some hF
    refine Exec.appS tyOk (cd := cTPair) 1 (nm := ((([] : List TPair) ++ ((x1.take (x4).toNat).drop ((0 : Int)).toNat))).length) rfl rfl rfl rfl rfl rfl h9 (by first | rfl | simp) (by first | rfl | exact List.length_append.symm | simp) (fun _ _ _ => rfl) rfl q12 (fun cs11 hs11 a11 k11 => ?_)
    have h11 : RowRep cTPair V6 (([] : List TPair) ++ ((x1.take (x4).toNat).drop ((0 : Int)).toNat)) ([] ++ cs11) := RowRep.app h10 hs11
    refine Exec.run tyOk 400 rfl ?_
    refine Exec.bsl tyOk rfl rfl ?_
    refine Exec.run tyOk 400 rfl ?_
    obtain ⟨q14, hF⟩ := req_some hF
    refine Exec.app tyOk 1 2 (nm := (((([] : List TPair) ++ ((x1.take (x4).toNat).drop ((0 : Int)).toNat)) ++ [x3])).length) rfl rfl rfl rfl rfl rfl rfl rfl rfl (by simp) (fun _ _ => rfl) rfl q14 (fun a13 k13 => ?_)
    have h13 : RowRep cTPair V6 ((([] : List TPair) ++ ((x1.take (x4).toNat).drop ((0 : Int)).toNat)) ++ [x3]) (([] ++ cs11) ++ [.string ⟨⟨x3.Key⟩⟩, .int .i64 (x3.Val.Kind), .int .i64 (x3.Val.N), .string ⟨⟨x3.Val.S⟩⟩]) := RowRep.app h11 ⟨_, _, rfl, rfl, rfl⟩
    refine Exec.run tyOk 400 rfl ?_
    obtain ⟨q15, hF⟩ := req_some hF
    refine Exec.slv tyOk (c := cTPair) rfl rfl (lo := x4) (hi := (((x1).length : Nat) : Int)) rfl rfl h7 (by simp) rfl q15 (fun a16 k16 h16 => ?_)
    refine Exec.run tyOk 400 rfl ?_
    obtain ⟨q18, hF⟩ := req_some hF
    refine Exec.appS tyOk (cd := cTPair) 1 (nm := ((((([] : List TPair) ++ ((x1.take (x4).toNat).drop ((0 : Int)).toNat)) ++ [x3]) ++ ((x1.take ((((x1).length : Nat) : Int)).toNat).drop (x4).toNat))).length) rfl rfl rfl rfl rfl rfl h16 (by first | rfl | simp) (by first | rfl | exact List.length_append.symm | simp) (fun _ _ _ => rfl) rfl q18 (fun cs17 hs17 a17 k17 => ?_)
    have h17 : RowRep cTPair V6 (((([] : List TPair) ++ ((x1.take (x4).toNat).drop ((0 : Int)).toNat)) ++ [x3]) ++ ((x1.take ((((x1).length : Nat) : Int)).toNat).drop (x4).toNat)) ((([] ++ cs11) ++ [.string ⟨⟨x3.Key⟩⟩, .int .i64 (x3.Val.Kind), .int .i64 (x3.Val.N), .string ⟨⟨x3.Val.S⟩⟩]) ++ cs17) := RowRep.app h13 hs17
    refine Exec.run tyOk 400 rfl ?_
    refine Exec.frz 1 rfl rfl rfl (fun V19 hv19 hd19 hn19 => ?_)
    have hz19 := RowRep.slat h17 hv19 hd19 hn19
    have h20 := SlAt.mono h7 hv19
    have h21 := SlAt.mono h9 hv19
    have h22 := SlAt.mono h16 hv19
    obtain rfl := some_inj hF
    exact Exec.ret tyOk rfl rfl ⟨_, _, rfl, hz19⟩
  · skip
    refine Exec.run tyOk 400 rfl ?_
    refine Exec.loop (fun n24 L' V' M' => ∃ (x23 : Int), L' = [(0, .v (.slice a2 ((x1).length) (k2))), (3, .ptr 0 0), (5, .v (.int .i64 (x23)))] ∧ M' = [.blk [.v (.string ⟨⟨x3.Key⟩⟩), .v (.int .i64 (x3.Val.Kind)), .v (.int .i64 (x3.Val.N)), .v (.string ⟨⟨x3.Val.S⟩⟩)] 70] ∧ SlAt cTPair V' a2 k2 x1 ∧ F_clockworkref06_with_L1 x1 x3 J5 n24 x23 = some r) ⟨(1000000 : Nat), [(0, .v (.slice a2 ((x1).length) (k2))), (3, .ptr 0 0), (5, .v (.int .i64 ((0 : Int))))], ⟨rfl, rfl, rfl, trivial⟩, (0 : Int), rfl, rfl, h2, hF⟩ ?_
    rintro n24 L' V25 M' ⟨x23, rfl, rfl, h26, hF⟩
    rcases n24 with _ | n24
    · exact absurd hF (by simp [F_clockworkref06_with_L1])
    rw [F_clockworkref06_with_L1] at hF
    refine Exec.run tyOk 400 rfl ?_
    refine Exec.draws tyOk [(0, true), (1, true), (2, true), (3, true), (4, true), (5, true), (6, true), (7, true), (8, true), (9, true), (10, true), (11, true), (12, true), (13, true)] rfl (by kernel_rfl) ?_
    refine Exec.run tyOk 400 rfl ?_
    obtain ⟨q27, hF⟩ := req_some hF
    obtain ⟨c28, hr28, hd28⟩ := SlAt.gget (((decide (x23 < (((x1).length : Nat) : Int)))) == true) h26 q27
    obtain rfl := hr28
    refine Exec.fia tyOk rfl rfl rfl (fun gg0 => ⟨(q27 (gd1_of gg0)).1, (q27 (gd1_of gg0)).2, (hd28 (gd1_of gg0)).some⟩) ?_
    refine Exec.run tyOk 400 rfl ?_
    refine Exec.fld tyOk (x := .string ⟨⟨(cond (((decide (x23 < (((x1).length : Nat) : Int)))) == true) (atI x1 x23) default).Key⟩⟩) rfl rfl rfl (fun gg0 => (RdAt.part (hd28 (gd1_of gg0)) 0 1 rfl)) rfl rfl ?_
    refine Exec.run tyOk 400 rfl ?_
    rcases cond_some hF with ⟨hb, hF⟩ | ⟨hb, hF⟩
    · skip
      refine Exec.ifT rfl hb ?_
      refine Exec.run tyOk 400 rfl ?_
      exact Exec.round [(0, .v (.slice a2 ((x1).length) (k2))), (3, .ptr 0 0), (5, .v (.int .i64 ((IntKind.i64.wrap (x23 + (1 : Int))))))] ⟨rfl, rfl, rfl, trivial⟩ ⟨n24, Nat.lt_succ_self _, (IntKind.i64.wrap (x23 + (1 : Int))), rfl, rfl, h26, hF⟩
    · skip
      refine Exec.ifF rfl hb ?_
      refine Exec.run tyOk 400 rfl ?_
      exact Exec.round [(0, .v (.slice a2 ((x1).length) (k2))), (3, .ptr 0 0), (5, .v (.int .i64 (x23)))] ⟨rfl, rfl, rfl, trivial⟩ ⟨x23, rfl, rfl, h26, hF⟩

def F_value_plain_L1 (x1 : Str) (J2 : Option Bool) : Nat → Int → Option Bool
  | 0, _ => none
  | n5 + 1, x4 => (cond (decide (x4 < ((x1).length : Int))) (req (0 ≤ x4 ∧ x4 < ((x1).length : Int)) (req ((((decide ((byteAt x1 (x4).toNat) < (32 : Int)))) == false) = true → 0 ≤ x4 ∧ x4 < ((x1).length : Int)) (cond ((decide ((byteAt x1 (x4).toNat) < (32 : Int))) || (decide ((126 : Int) < (byteAt x1 (x4).toNat)))) (some false) (F_value_plain_L1 x1 J2 n5 ((IntKind.i64.wrap (x4 + (1 : Int)))))))) J2)

def F_value_plain (x1 : Str) : Option Bool :=
  (jn ((some (decide (((x1).length : Int) ≤ (64 : Int))))) (fun J2 => (F_value_plain_L1 x1 J2 ((((x1).length : Int)).toNat + 1) ((0 : Int)))))

set_option maxRecDepth 100000 in
theorem W_value_plain {V : View} (x1 : Str)   {r : Bool} (hF : F_value_plain x1 = some r) :
    Spec Tryz.prog 148 [.string ⟨⟨x1⟩⟩] V (fun _ v => v = .bool (r)) := by
  unfold F_value_plain at hF
  refine Spec.enter (T := tyT) Tryz.func148 rfl (by kernel_rfl) rfl rfl rfl ?_
  refine Exec.run tyOk 9 rfl ?_
  obtain ⟨J2, hJ2, hF⟩ := jn_some hF
  refine Exec.seam (fun L' V' M' => L' = [(0, .v (.string ⟨⟨x1⟩⟩))] ∧ M' = [] ∧ J2 = some r) rfl ?_ ?_
  · rintro L' V3 M' ⟨rfl, rfl, hF⟩
    subst hJ2
    refine Exec.run tyOk 400 rfl ?_
    obtain rfl := some_inj hF
    exact Exec.ret tyOk rfl rfl rfl
  · skip
    refine Exec.run tyOk 400 rfl ?_
    refine Exec.loop (fun n5 L' V' M' => ∃ (x4 : Int), L' = [(0, .v (.string ⟨⟨x1⟩⟩)), (3, .v (.int .i64 (x4)))] ∧ M' = [] ∧ F_value_plain_L1 x1 J2 n5 x4 = some r) ⟨((((x1).length : Int)).toNat + 1), [(0, .v (.string ⟨⟨x1⟩⟩)), (3, .v (.int .i64 ((0 : Int))))], ⟨rfl, rfl, trivial⟩, (0 : Int), rfl, rfl, hF⟩ ?_
    rintro n5 L' V6 M' ⟨x4, rfl, rfl, hF⟩
    rcases n5 with _ | n5
    · exact absurd hF (by simp [F_value_plain_L1])
    rw [F_value_plain_L1] at hF
    refine Exec.run tyOk 400 rfl ?_
    rcases cond_some hF with ⟨hb, hF⟩ | ⟨hb, hF⟩
    · skip
      refine Exec.ifT rfl hb ?_
      refine Exec.run tyOk 400 rfl ?_
      obtain ⟨q7, hF⟩ := req_some hF
      refine Exec.idx tyOk rfl rfl q7 ?_
      refine Exec.run tyOk 400 rfl ?_
      obtain ⟨q8, hF⟩ := req_some hF
      refine Exec.idx tyOk rfl rfl (fun gg0 => q8 (gd1_of gg0)) ?_
      refine Exec.run tyOk 400 rfl ?_
      rcases cond_some hF with ⟨hb, hF⟩ | ⟨hb, hF⟩
      · skip
        refine Exec.ifT rfl hb ?_
        refine Exec.run tyOk 400 rfl ?_
        obtain rfl := some_inj hF
        exact Exec.ret tyOk rfl rfl rfl
      · skip
        refine Exec.ifF rfl hb ?_
        refine Exec.run tyOk 400 rfl ?_
        exact Exec.round [(0, .v (.string ⟨⟨x1⟩⟩)), (3, .v (.int .i64 ((IntKind.i64.wrap (x4 + (1 : Int))))))] ⟨rfl, rfl, trivial⟩ ⟨n5, Nat.lt_succ_self _, (IntKind.i64.wrap (x4 + (1 : Int))), rfl, rfl, hF⟩
    · skip
      refine Exec.ifF rfl hb ?_
      refine Exec.run tyOk 400 rfl ?_
      exact Exec.round [(0, .v (.string ⟨⟨x1⟩⟩))] ⟨rfl, trivial⟩ ⟨rfl, rfl, hF⟩

def F_clockworkref31_Light_L1 (x1 : TPlacement) (J7 : Option Bool) : Nat → Int → Option Bool
  | 0, _ => none
  | n10 + 1, x9 => (cond (decide (x9 < (((x1.Parts).length : Nat) : Int))) (req (0 ≤ x9 ∧ x9 < ((x1.Parts).length : Int)) (req ((((decide ((100 : Int) < (((atI x1.Parts x9).From).length : Int)))) == false) = true → 0 ≤ x9 ∧ x9 < ((x1.Parts).length : Int)) (cond ((decide ((100 : Int) < (((atI x1.Parts x9).From).length : Int))) || (decide ((100 : Int) < (((cond (((decide ((100 : Int) < (((atI x1.Parts x9).From).length : Int)))) == false) (atI x1.Parts x9) default).Done).length : Int)))) (some false) (F_clockworkref31_Light_L1 x1 J7 n10 ((IntKind.i64.wrap (x9 + (1 : Int)))))))) J7)

def F_clockworkref31_Light (x1 : TPlacement) (x3 : TFootprint) : Option Bool :=
  (bnd (gcall (((decide ((20 : Int) < (((x1.Parts).length : Nat) : Int)))) == false) (F_clockworkref19_Few x3 ((20 : Int)))) fun x6 => (cond ((decide ((20 : Int) < (((x1.Parts).length : Nat) : Int))) || (!x6)) (some false) (jn ((some true)) (fun J7 => (F_clockworkref31_Light_L1 x1 J7 (((((x1.Parts).length : Nat) : Int)).toNat + 1) ((0 : Int)))))))

set_option maxRecDepth 100000 in
theorem W_clockworkref31_Light {V : View} (x1 : TPlacement) (x3 : TFootprint) {a2 : Option Addr} {k2 : Nat} {a4 : Option Addr} {k4 : Nat} {a5 : Option Addr} {k5 : Nat} (h2 : SlAt cTPart V a2 k2 x1.Parts) (h4 : SlAt cStr V a4 k4 x3.Reads) (h5 : SlAt cStr V a5 k5 x3.Writes) {r : Bool} (hF : F_clockworkref31_Light x1 x3 = some r) :
    Spec Tryz.prog 9 [.agg ⟨[.int .i64 (x1.Version), .slice a2 ((x1.Parts).length) (k2)]⟩, .agg ⟨[.bool (x3.All), .slice a4 ((x3.Reads).length) (k4), .slice a5 ((x3.Writes).length) (k5)]⟩] V (fun _ v => v = .bool (r)) := by
  unfold F_clockworkref31_Light at hF
  refine Spec.enter (T := tyT) Tryz.func9 rfl (by kernel_rfl) rfl rfl rfl ?_
  refine Exec.run tyOk 400 rfl ?_
  obtain ⟨x6, hx6, hF⟩ := bnd_some hF
  refine Exec.callS (.bool (x6)) rfl rfl (fun gg0 => W_clockworkref19_Few x3 ((20 : Int)) h4 h5 (gcall_some hx6 (gd1_of gg0))) ?_
  refine Exec.run tyOk 400 rfl ?_
  rcases cond_some hF with ⟨hb, hF⟩ | ⟨hb, hF⟩
  · skip
    refine Exec.ifT rfl hb ?_
    refine Exec.run tyOk 400 rfl ?_
    obtain rfl := some_inj hF
    exact Exec.ret tyOk rfl rfl rfl
  · skip
    refine Exec.ifF rfl hb ?_
    refine Exec.run tyOk 6 rfl ?_
    obtain ⟨J7, hJ7, hF⟩ := jn_some hF
    refine Exec.seam (fun L' V' M' => L' = [] ∧ M' = [] ∧ J7 = some r) rfl ?_ ?_
    · rintro L' V8 M' ⟨rfl, rfl, hF⟩
      subst hJ7
      refine Exec.run tyOk 400 rfl ?_
      obtain rfl := some_inj hF
      exact Exec.ret tyOk rfl rfl rfl
    · skip
      refine Exec.run tyOk 400 rfl ?_
      refine Exec.cut 1 [(2, .ptr 0 0), (5, .v (.int .i64 ((0 : Int))))] (M' := [.blk [.v (.int .i64 (x1.Version)), .v (.slice a2 ((x1.Parts).length) (k2))] 24]) rfl ⟨rfl, rfl, trivial⟩ rfl rfl rfl ?_
      refine Exec.loop (fun n10 L' V' M' => ∃ (x9 : Int), L' = [(2, .ptr 0 0), (5, .v (.int .i64 (x9)))] ∧ M' = [.blk [.v (.int .i64 (x1.Version)), .v (.slice a2 ((x1.Parts).length) (k2))] 24] ∧ SlAt cTPart V' a2 k2 x1.Parts ∧ F_clockworkref31_Light_L1 x1 J7 n10 x9 = some r) ⟨(((((x1.Parts).length : Nat) : Int)).toNat + 1), [(2, .ptr 0 0), (5, .v (.int .i64 ((0 : Int))))], ⟨rfl, rfl, trivial⟩, (0 : Int), rfl, rfl, h2, hF⟩ ?_
      rintro n10 L' V11 M' ⟨x9, rfl, rfl, h12, hF⟩
      rcases n10 with _ | n10
      · exact absurd hF (by simp [F_clockworkref31_Light_L1])
      rw [F_clockworkref31_Light_L1] at hF
      refine Exec.run tyOk 400 rfl ?_
      rcases cond_some hF with ⟨hb, hF⟩ | ⟨hb, hF⟩
      · skip
        refine Exec.ifT rfl hb ?_
        refine Exec.run tyOk 400 rfl ?_
        obtain ⟨q13, hF⟩ := req_some hF
        obtain ⟨c14, hr14, hd14⟩ := SlAt.get h12 q13
        obtain rfl := hr14
        refine Exec.ia tyOk rfl rfl ⟨q13.1, q13.2, hd14.some⟩ ?_
        refine Exec.run tyOk 400 rfl ?_
        refine Exec.ld tyOk (x := .string ⟨⟨(atI x1.Parts x9).From⟩⟩) rfl rfl (RdAt.part hd14 1 1 rfl) rfl rfl ?_
        refine Exec.run tyOk 400 rfl ?_
        obtain ⟨q15, hF⟩ := req_some hF
        obtain ⟨c16, hr16, hd16⟩ := SlAt.gget (((decide ((100 : Int) < (((atI x1.Parts x9).From).length : Int)))) == false) h12 q15
        obtain rfl := hr16
        refine Exec.ia tyOk rfl rfl (fun gg0 => ⟨(q15 (gd1_of gg0)).1, (q15 (gd1_of gg0)).2, (hd16 (gd1_of gg0)).some⟩) ?_
        refine Exec.run tyOk 400 rfl ?_
        refine Exec.ld tyOk (x := .string ⟨⟨(cond (((decide ((100 : Int) < (((atI x1.Parts x9).From).length : Int)))) == false) (atI x1.Parts x9) default).Done⟩⟩) rfl rfl (fun gg0 => (RdAt.part (hd16 (gd1_of gg0)) 4 1 rfl)) rfl rfl ?_
        refine Exec.run tyOk 400 rfl ?_
        rcases cond_some hF with ⟨hb, hF⟩ | ⟨hb, hF⟩
        · skip
          refine Exec.ifT rfl hb ?_
          refine Exec.run tyOk 400 rfl ?_
          obtain rfl := some_inj hF
          exact Exec.ret tyOk rfl rfl rfl
        · skip
          refine Exec.ifF rfl hb ?_
          refine Exec.run tyOk 400 rfl ?_
          exact Exec.round [(2, .ptr 0 0), (5, .v (.int .i64 ((IntKind.i64.wrap (x9 + (1 : Int))))))] ⟨rfl, rfl, trivial⟩ ⟨n10, Nat.lt_succ_self _, (IntKind.i64.wrap (x9 + (1 : Int))), rfl, rfl, h12, hF⟩
      · skip
        refine Exec.ifF rfl hb ?_
        refine Exec.run tyOk 400 rfl ?_
        refine Exec.cut 0 [] (M' := []) rfl trivial rfl rfl rfl ?_
        exact Exec.round [] trivial ⟨rfl, rfl, hF⟩

def F_clockworklaw31_wanted_L1 (x4 : List TPair) (x1 : TFootprint) (J9 : (List TPair) → Option (List TPair)) : Nat → (List TPair) → Int → Option (List TPair)
  | 0, _, _ => none
  | n19 + 1, x17, x18 => (cond (decide (x18 < (((x4).length : Nat) : Int))) (req (((x1.All) == false) = true → 0 ≤ x18 ∧ x18 < ((x4).length : Int)) (bnd (gcall ((x1.All) == false) (F_clockworkref04_Has x1.Reads ((cond ((x1.All) == false) (atI x4 x18) default).Key))) fun x26 => (jn (fun (x28 : List TPair) => (F_clockworklaw31_wanted_L1 x4 x1 J9 n19 x28 ((IntKind.i64.wrap (x18 + (1 : Int)))))) (fun J29 => (cond (x1.All || x26) (req (0 ≤ x18 ∧ x18 < ((x4).length : Int)) (req (((x17 ++ [(atI x4 x18)])).length * 48 ≤ 140737488355328) (J29 ((x17 ++ [(atI x4 x18)]))))) (J29 x17)))))) (J9 x17))

def F_clockworklaw31_wanted (x1 : TFootprint) (x4 : List TPair) : Option (List TPair) :=
  (jn (fun (x8 : List TPair) => (some x8)) (fun J9 => (F_clockworklaw31_wanted_L1 x4 x1 J9 (((((x4).length : Nat) : Int)).toNat + 1) (([] : List TPair)) ((0 : Int)))))

set_option maxRecDepth 100000 in
theorem W_clockworklaw31_wanted {V : View} (x1 : TFootprint) (x4 : List TPair) {a2 : Option Addr} {k2 : Nat} {a3 : Option Addr} {k3 : Nat} {a5 : Option Addr} {k5 : Nat} (h2 : SlAt cStr V a2 k2 x1.Reads) (h3 : SlAt cStr V a3 k3 x1.Writes) (h5 : SlAt cTPair V a5 k5 x4) {r : List TPair} (hF : F_clockworklaw31_wanted x1 x4 = some r) :
    Spec Tryz.prog 22 [.agg ⟨[.bool (x1.All), .slice a2 ((x1.Reads).length) (k2), .slice a3 ((x1.Writes).length) (k3)]⟩, .slice a5 ((x4).length) (k5)] V (fun V' v => ∃ (a38 : Option Addr) (k38 : Nat), v = .slice a38 ((r).length) (k38) ∧ SlAt cTPair V' a38 k38 r) := by
  unfold F_clockworklaw31_wanted at hF
  refine Spec.enter (T := tyT) Tryz.func22 rfl (by kernel_rfl) rfl rfl rfl ?_
  refine Exec.run tyOk 14 rfl ?_
  refine Exec.row0 70 4 rfl ?_
  have h6 : RowRep cTPair V ([] : List TPair) [] := RowRep.nil
  obtain ⟨J9, hJ9, hF⟩ := jn_some hF
  refine Exec.seam (fun L' V' M' => ∃ (x8 : List TPair) (a7 : Option Addr) (k7 : Nat) (cs7 : List Value), L' = [(5, .v (.slice a7 ((x8).length) (k7)))] ∧ M' = [.blk [.v (.bool (x1.All)), .v (.slice a2 ((x1.Reads).length) (k2)), .v (.slice a3 ((x1.Writes).length) (k3))] 27, .row (.slice a7 ((x8).length) (k7)) cs7 70 4] ∧ RowRep cTPair V' x8 cs7 ∧ SlAt cStr V' a2 k2 x1.Reads ∧ SlAt cStr V' a3 k3 x1.Writes ∧ J9 x8 = some r) rfl ?_ ?_
  · rintro L' V10 M' ⟨x8, a7, k7, cs7, rfl, rfl, h7, h11, h12, hF⟩
    subst hJ9
    refine Exec.run tyOk 400 rfl ?_
    refine Exec.frz 1 rfl rfl rfl (fun V13 hv13 hd13 hn13 => ?_)
    have hz13 := RowRep.slat h7 hv13 hd13 hn13
    have h14 := SlAt.mono h11 hv13
    have h15 := SlAt.mono h12 hv13
    obtain rfl := some_inj hF
    exact Exec.ret tyOk rfl rfl ⟨_, _, rfl, hz13⟩
  · skip
    refine Exec.run tyOk 400 rfl ?_
    refine Exec.loop (fun n19 L' V' M' => ∃ (x17 : List TPair) (a16 : Option Addr) (k16 : Nat) (cs16 : List Value) (x18 : Int), L' = [(1, .v (.slice a5 ((x4).length) (k5))), (2, .ptr 0 0), (5, .v (.slice a16 ((x17).length) (k16))), (6, .v (.int .i64 (x18)))] ∧ M' = [.blk [.v (.bool (x1.All)), .v (.slice a2 ((x1.Reads).length) (k2)), .v (.slice a3 ((x1.Writes).length) (k3))] 27, .row (.slice a16 ((x17).length) (k16)) cs16 70 4] ∧ RowRep cTPair V' x17 cs16 ∧ SlAt cTPair V' a5 k5 x4 ∧ SlAt cStr V' a2 k2 x1.Reads ∧ SlAt cStr V' a3 k3 x1.Writes ∧ F_clockworklaw31_wanted_L1 x4 x1 J9 n19 x17 x18 = some r) ⟨(((((x4).length : Nat) : Int)).toNat + 1), [(1, .v (.slice a5 ((x4).length) (k5))), (2, .ptr 0 0), (5, .v (.slice none ((([] : List TPair)).length) (0))), (6, .v (.int .i64 ((0 : Int))))], ⟨rfl, rfl, rfl, rfl, trivial⟩, ([] : List TPair), none, 0, [], (0 : Int), rfl, rfl, h6, h5, h2, h3, hF⟩ ?_
    rintro n19 L' V20 M' ⟨x17, a16, k16, cs16, x18, rfl, rfl, h16, h21, h22, h23, hF⟩
    rcases n19 with _ | n19
    · exact absurd hF (by simp [F_clockworklaw31_wanted_L1])
    rw [F_clockworklaw31_wanted_L1] at hF
    refine Exec.run tyOk 400 rfl ?_
    rcases cond_some hF with ⟨hb, hF⟩ | ⟨hb, hF⟩
    · skip
      refine Exec.ifT rfl hb ?_
      refine Exec.run tyOk 400 rfl ?_
      refine Exec.draws tyOk [(0, true), (1, true), (2, true), (3, true), (4, true), (5, true), (6, true), (7, true), (8, true), (9, true), (10, false), (11, false)] rfl (by kernel_rfl) ?_
      refine Exec.run tyOk 400 rfl ?_
      obtain ⟨q24, hF⟩ := req_some hF
      obtain ⟨c25, hr25, hd25⟩ := SlAt.gget ((x1.All) == false) h21 q24
      obtain rfl := hr25
      refine Exec.fia tyOk rfl rfl rfl (fun gg0 => ⟨(q24 (gd1_of gg0)).1, (q24 (gd1_of gg0)).2, (hd25 (gd1_of gg0)).some⟩) ?_
      refine Exec.run tyOk 400 rfl ?_
      refine Exec.fld tyOk (x := .string ⟨⟨(cond ((x1.All) == false) (atI x4 x18) default).Key⟩⟩) rfl rfl rfl (fun gg0 => (RdAt.part (hd25 (gd1_of gg0)) 0 1 rfl)) rfl rfl ?_
      refine Exec.run tyOk 400 rfl ?_
      obtain ⟨x26, hx26, hF⟩ := bnd_some hF
      refine Exec.callS (.bool (x26)) rfl rfl (fun gg0 => W_clockworkref04_Has x1.Reads ((cond ((x1.All) == false) (atI x4 x18) default).Key) h22 (gcall_some hx26 (gd1_of gg0))) ?_
      refine Exec.run tyOk 400 rfl ?_
      obtain ⟨J29, hJ29, hF⟩ := jn_some hF
      refine Exec.seam (fun L' V' M' => ∃ (x28 : List TPair) (a27 : Option Addr) (k27 : Nat) (cs27 : List Value), L' = [(1, .v (.slice a5 ((x4).length) (k5))), (2, .ptr 0 0), (5, .v (.slice a27 ((x28).length) (k27))), (6, .v (.int .i64 (x18)))] ∧ M' = [.blk [.v (.bool (x1.All)), .v (.slice a2 ((x1.Reads).length) (k2)), .v (.slice a3 ((x1.Writes).length) (k3))] 27, .row (.slice a27 ((x28).length) (k27)) cs27 70 4] ∧ RowRep cTPair V' x28 cs27 ∧ SlAt cTPair V' a5 k5 x4 ∧ SlAt cStr V' a2 k2 x1.Reads ∧ SlAt cStr V' a3 k3 x1.Writes ∧ J29 x28 = some r) rfl ?_ ?_
      · rintro L' V30 M' ⟨x28, a27, k27, cs27, rfl, rfl, h27, h31, h32, h33, hF⟩
        subst hJ29
        refine Exec.run tyOk 400 rfl ?_
        exact Exec.round [(1, .v (.slice a5 ((x4).length) (k5))), (2, .ptr 0 0), (5, .v (.slice a27 ((x28).length) (k27))), (6, .v (.int .i64 ((IntKind.i64.wrap (x18 + (1 : Int))))))] ⟨rfl, rfl, rfl, rfl, trivial⟩ ⟨n19, Nat.lt_succ_self _, x28, a27, k27, cs27, (IntKind.i64.wrap (x18 + (1 : Int))), rfl, rfl, h27, h31, h32, h33, hF⟩
      · skip
        refine Exec.run tyOk 400 rfl ?_
        rcases cond_some hF with ⟨hb, hF⟩ | ⟨hb, hF⟩
        · skip
          refine Exec.ifT rfl hb ?_
          refine Exec.run tyOk 400 rfl ?_
          obtain ⟨q34, hF⟩ := req_some hF
          obtain ⟨c35, hr35, hd35⟩ := SlAt.get h21 q34
          obtain rfl := hr35
          refine Exec.ia tyOk rfl rfl ⟨q34.1, q34.2, hd35.some⟩ ?_
          refine Exec.run tyOk 400 rfl ?_
          refine Exec.ld tyOk (x := .agg ⟨[.string ⟨⟨(atI x4 x18).Key⟩⟩, .int .i64 ((atI x4 x18).Val.Kind), .int .i64 ((atI x4 x18).Val.N), .string ⟨⟨(atI x4 x18).Val.S⟩⟩]⟩) rfl rfl hd35 rfl rfl ?_
          refine Exec.run tyOk 400 rfl ?_
          refine Exec.bsl tyOk rfl rfl ?_
          refine Exec.run tyOk 400 rfl ?_
          obtain ⟨q37, hF⟩ := req_some hF
          refine Exec.app tyOk 1 2 (nm := ((x17 ++ [(atI x4 x18)])).length) rfl rfl rfl rfl rfl rfl rfl rfl rfl (by simp) (fun _ _ => rfl) rfl q37 (fun a36 k36 => ?_)
          have h36 : RowRep cTPair V20 (x17 ++ [(atI x4 x18)]) (cs16 ++ [.string ⟨⟨(atI x4 x18).Key⟩⟩, .int .i64 ((atI x4 x18).Val.Kind), .int .i64 ((atI x4 x18).Val.N), .string ⟨⟨(atI x4 x18).Val.S⟩⟩]) := RowRep.app h16 ⟨_, _, rfl, rfl, rfl⟩
          refine Exec.run tyOk 400 rfl ?_
          refine Exec.cut 2 [(1, .v (.slice a5 ((x4).length) (k5))), (2, .ptr 0 0), (5, .v (.slice a36 (((x17 ++ [(atI x4 x18)])).length) (k36))), (6, .v (.int .i64 (x18)))] (M' := [.blk [.v (.bool (x1.All)), .v (.slice a2 ((x1.Reads).length) (k2)), .v (.slice a3 ((x1.Writes).length) (k3))] 27, .row (.slice a36 (((x17 ++ [(atI x4 x18)])).length) (k36)) ((cs16 ++ [.string ⟨⟨(atI x4 x18).Key⟩⟩, .int .i64 ((atI x4 x18).Val.Kind), .int .i64 ((atI x4 x18).Val.N), .string ⟨⟨(atI x4 x18).Val.S⟩⟩])) 70 4]) rfl ⟨rfl, rfl, rfl, rfl, trivial⟩ rfl rfl rfl ?_
          exact Exec.round [(1, .v (.slice a5 ((x4).length) (k5))), (2, .ptr 0 0), (5, .v (.slice a36 (((x17 ++ [(atI x4 x18)])).length) (k36))), (6, .v (.int .i64 (x18)))] ⟨rfl, rfl, rfl, rfl, trivial⟩ ⟨(x17 ++ [(atI x4 x18)]), a36, k36, (cs16 ++ [.string ⟨⟨(atI x4 x18).Key⟩⟩, .int .i64 ((atI x4 x18).Val.Kind), .int .i64 ((atI x4 x18).Val.N), .string ⟨⟨(atI x4 x18).Val.S⟩⟩]), rfl, rfl, h36, h21, h22, h23, hF⟩
        · skip
          refine Exec.ifF rfl hb ?_
          refine Exec.run tyOk 400 rfl ?_
          exact Exec.round [(1, .v (.slice a5 ((x4).length) (k5))), (2, .ptr 0 0), (5, .v (.slice a16 ((x17).length) (k16))), (6, .v (.int .i64 (x18)))] ⟨rfl, rfl, rfl, rfl, trivial⟩ ⟨x17, a16, k16, cs16, rfl, rfl, h16, h21, h22, h23, hF⟩
    · skip
      refine Exec.ifF rfl hb ?_
      refine Exec.run tyOk 400 rfl ?_
      exact Exec.round [(5, .v (.slice a16 ((x17).length) (k16)))] ⟨rfl, trivial⟩ ⟨x17, a16, k16, cs16, rfl, rfl, h16, h22, h23, hF⟩

def F_clockworkref31_Same (x1 : TMail) (x4 : TMail) : Option Bool :=
  (bnd (gcall (((((x1.Txn == x4.Txn) && (x1.From == x4.From)) && (x1.To == x4.To))) == true) (F_clockworkref04_Same x1.Keys x4.Keys)) fun x7 => (bnd (gcall ((((((x1.Txn == x4.Txn) && (x1.From == x4.From)) && (x1.To == x4.To)) && x7)) == true) (F_clockworkref06_Same x1.Pairs x4.Pairs)) fun x8 => (some (((((x1.Txn == x4.Txn) && (x1.From == x4.From)) && (x1.To == x4.To)) && x7) && x8))))

set_option maxRecDepth 100000 in
theorem W_clockworkref31_Same {V : View} (x1 : TMail) (x4 : TMail) {a2 : Option Addr} {k2 : Nat} {a3 : Option Addr} {k3 : Nat} {a5 : Option Addr} {k5 : Nat} {a6 : Option Addr} {k6 : Nat} (h2 : SlAt cStr V a2 k2 x1.Keys) (h3 : SlAt cTPair V a3 k3 x1.Pairs) (h5 : SlAt cStr V a5 k5 x4.Keys) (h6 : SlAt cTPair V a6 k6 x4.Pairs) {r : Bool} (hF : F_clockworkref31_Same x1 x4 = some r) :
    Spec Tryz.prog 35 [.agg ⟨[.int .i64 (x1.Txn), .int .i64 (x1.From), .int .i64 (x1.To), .slice a2 ((x1.Keys).length) (k2), .slice a3 ((x1.Pairs).length) (k3)]⟩, .agg ⟨[.int .i64 (x4.Txn), .int .i64 (x4.From), .int .i64 (x4.To), .slice a5 ((x4.Keys).length) (k5), .slice a6 ((x4.Pairs).length) (k6)]⟩] V (fun _ v => v = .bool (r)) := by
  unfold F_clockworkref31_Same at hF
  refine Spec.enter (T := tyT) Tryz.func35 rfl (by kernel_rfl) rfl rfl rfl ?_
  refine Exec.run tyOk 400 rfl ?_
  obtain ⟨x7, hx7, hF⟩ := bnd_some hF
  refine Exec.callS (.bool (x7)) rfl rfl (fun gg0 => W_clockworkref04_Same x1.Keys x4.Keys h2 h5 (gcall_some hx7 (gd1_of gg0))) ?_
  refine Exec.run tyOk 400 rfl ?_
  obtain ⟨x8, hx8, hF⟩ := bnd_some hF
  refine Exec.callS (.bool (x8)) rfl rfl (fun gg0 => W_clockworkref06_Same x1.Pairs x4.Pairs h3 h6 (gcall_some hx8 (gd1_of gg0))) ?_
  refine Exec.run tyOk 400 rfl ?_
  obtain rfl := some_inj hF
  exact Exec.ret tyOk rfl rfl rfl

def F_placement_find (x1 : List TPart) (x3 : Int) : Option Int :=
  (bnd (F_slices_IndexFunc_api_Part_api_Part x1 (fun y0 => F_placement_find_1 y0 x3)) fun x6 => (some x6))

set_option maxRecDepth 100000 in
theorem W_placement_find {V : View} (x1 : List TPart) (x3 : Int) {a2 : Option Addr} {k2 : Nat} (h2 : SlAt cTPart V a2 k2 x1) {r : Int} (hF : F_placement_find x1 x3 = some r) :
    Spec Tryz.prog 42 [.slice a2 ((x1).length) (k2), .int .i64 (x3)] V (fun _ v => v = .int .i64 (r)) := by
  unfold F_placement_find at hF
  refine Spec.enter (T := tyT) Tryz.func42 rfl (by kernel_rfl) rfl rfl rfl ?_
  refine Exec.run tyOk 400 rfl ?_
  refine Exec.openB 0 rfl rfl rfl rfl (fun _ => rfl) (fun _ => rfl) (fun V4 b4 hv4 hd4 => ?_)
  have h5 := SlAt.mono h2 hv4
  refine Exec.mkf rfl rfl ?_
  refine Exec.run tyOk 400 rfl ?_
  obtain ⟨x6, hx6, hF⟩ := bnd_some hF
  refine Exec.callS (.int .i64 (x6)) rfl rfl (W_slices_IndexFunc_api_Part_api_Part x1 (fun y0 => F_placement_find_1 y0 x3) h5 (fun V' hv y0 r hr => W_placement_find_1 y0 x3 (RdAt.mono hd4 hv) hr) hx6) ?_
  refine Exec.run tyOk 400 rfl ?_
  obtain rfl := some_inj hF
  exact Exec.ret tyOk rfl rfl rfl

def F_slices_Contains_int_int (x1 : List Int) (x3 : Int) : Option Bool :=
  (bnd (F_slices_Index_int_int x1 x3) fun x4 => (some (decide ((0 : Int) ≤ x4))))

set_option maxRecDepth 100000 in
theorem W_slices_Contains_int_int {V : View} (x1 : List Int) (x3 : Int) {a2 : Option Addr} {k2 : Nat} (h2 : SlAt (cInt .i64) V a2 k2 x1) {r : Bool} (hF : F_slices_Contains_int_int x1 x3 = some r) :
    Spec Tryz.prog 49 [.slice a2 ((x1).length) (k2), .int .i64 (x3)] V (fun _ v => v = .bool (r)) := by
  unfold F_slices_Contains_int_int at hF
  refine Spec.enter (T := tyT) Tryz.func49 rfl (by kernel_rfl) rfl rfl rfl ?_
  refine Exec.run tyOk 400 rfl ?_
  obtain ⟨x4, hx4, hF⟩ := bnd_some hF
  refine Exec.callS (.int .i64 (x4)) rfl rfl (W_slices_Index_int_int x1 x3 h2 hx4) ?_
  refine Exec.run tyOk 400 rfl ?_
  obtain rfl := some_inj hF
  exact Exec.ret tyOk rfl rfl rfl

def F_slices_ContainsFunc_api_Mail_api_Mail (x1 : List TMail) (g4 : TMail → Option Bool) : Option Bool :=
  (bnd (F_slices_IndexFunc_api_Mail_api_Mail x1 g4) fun x9 => (some (decide ((0 : Int) ≤ x9))))

set_option maxRecDepth 100000 in
theorem W_slices_ContainsFunc_api_Mail_api_Mail {V : View} (x1 : List TMail) (g4 : TMail → Option Bool) {f4 : Nat} {ca4 : List Value} {a2 : Option Addr} {k2 : Nat} (h2 : SlAt cTMail V a2 k2 x1) (hg4 : FnSpecS1 Tryz.prog f4 ca4 V cTMail (fun (r : Bool) => .bool (r)) g4) {r : Bool} (hF : F_slices_ContainsFunc_api_Mail_api_Mail x1 g4 = some r) :
    Spec Tryz.prog 56 [.slice a2 ((x1).length) (k2), .func (.func f4) #[] ⟨ca4⟩] V (fun _ v => v = .bool (r)) := by
  unfold F_slices_ContainsFunc_api_Mail_api_Mail at hF
  refine Spec.enter (T := tyT) Tryz.func56 rfl (by kernel_rfl) rfl rfl rfl ?_
  refine Exec.run tyOk 400 rfl ?_
  obtain ⟨x9, hx9, hF⟩ := bnd_some hF
  refine Exec.callS (.int .i64 (x9)) rfl rfl (W_slices_IndexFunc_api_Mail_api_Mail x1 g4 h2 hg4 hx9) ?_
  refine Exec.run tyOk 400 rfl ?_
  obtain rfl := some_inj hF
  exact Exec.ret tyOk rfl rfl rfl

end Go.Proofs.YtcgmfmpfmfjmoaaGreat
