/-
  Functions of the program as their counterparts say them (printed by a program).
  Conditions: none.
-/
import Derived.Test.YtcgmfmpfmfjmoaaGreatHb
set_option linter.all false
namespace Go.Proofs.YtcgmfmpfmfjmoaaGreat

def F_slices_Contains_string_string (x1 : List Str) (x3 : Str) : Option Bool :=
  (bnd (F_slices_Index_string_string x1 x3) fun x4 => (some (decide ((0 : Int) ≤ x4))))

set_option maxRecDepth 100000 in
theorem W_slices_Contains_string_string {V : View} (x1 : List Str) (x3 : Str) {a2 : Option Addr} {k2 : Nat} (h2 : SlAt cStr V a2 k2 x1) {r : Bool} (hF : F_slices_Contains_string_string x1 x3 = some r) :
    Spec Tryz.prog 65 [.slice a2 ((x1).length) (k2), .string ⟨⟨x3⟩⟩] V (fun _ v => v = .bool (r)) := by
  unfold F_slices_Contains_string_string at hF
  refine Spec.enter (T := tyT) Tryz.func65 rfl (by kernel_rfl) rfl rfl rfl ?_
  refine Exec.run tyOk 400 rfl ?_
  obtain ⟨x4, hx4, hF⟩ := bnd_some hF
  refine Exec.callS (.int .i64 (x4)) rfl rfl (W_slices_Index_string_string x1 x3 h2 hx4) ?_
  refine Exec.run tyOk 400 rfl ?_
  obtain rfl := some_inj hF
  exact Exec.ret tyOk rfl rfl rfl

def F_clockworkref02_TakeInt (x1 : Str) (x2 : Int) : Option (Int × Int × Int) :=
  (bnd (F_clockworkref02_TakeUint x1 x2) fun x3 => (cond (x3.2.2 != (0 : Int)) (some ((0 : Int), (0 : Int), x3.2.2)) (bnd (F_clockworkref02_Unfold x3.1) fun x4 => (some (x4, x3.2.1, (0 : Int))))))

set_option maxRecDepth 100000 in
theorem W_clockworkref02_TakeInt {V : View} (x1 : Str) (x2 : Int)   {r : Int × Int × Int} (hF : F_clockworkref02_TakeInt x1 x2 = some r) :
    Spec Tryz.prog 79 [.string ⟨⟨x1⟩⟩, .int .i64 (x2)] V (fun _ v => v = .tuple ⟨[.int .i64 (r.1), .int .i64 (r.2.1), .int .i64 (r.2.2)]⟩) := by
  unfold F_clockworkref02_TakeInt at hF
  refine Spec.enter (T := tyT) Tryz.func79 rfl (by kernel_rfl) rfl rfl rfl ?_
  refine Exec.run tyOk 400 rfl ?_
  obtain ⟨x3, hx3, hF⟩ := bnd_some hF
  refine Exec.callS (.tuple ⟨[.int .u64 (x3.1), .int .i64 (x3.2.1), .int .i64 (x3.2.2)]⟩) rfl rfl (W_clockworkref02_TakeUint x1 x2  hx3) ?_
  refine Exec.run tyOk 400 rfl ?_
  rcases cond_some hF with ⟨hb, hF⟩ | ⟨hb, hF⟩
  · skip
    refine Exec.ifT rfl hb ?_
    refine Exec.run tyOk 400 rfl ?_
    obtain rfl := some_inj hF
    exact Exec.ret tyOk rfl rfl rfl
  · skip
    refine Exec.ifF rfl hb ?_
    refine Exec.run tyOk 400 rfl ?_
    obtain ⟨x4, hx4, hF⟩ := bnd_some hF
    refine Exec.callS (.int .i64 (x4)) rfl rfl (W_clockworkref02_Unfold x3.1  hx4) ?_
    refine Exec.run tyOk 400 rfl ?_
    obtain rfl := some_inj hF
    exact Exec.ret tyOk rfl rfl rfl

def F_clockworkref02_TakeCount (x1 : Str) (x2 : Int) (x3 : Int) : Option (Int × Int × Int) :=
  (bnd (F_clockworkref02_TakeUint x1 x2) fun x4 => (cond (x4.2.2 != (0 : Int)) (some ((0 : Int), (0 : Int), x4.2.2)) (cond ((decide (x3 < (0 : Int))) || (decide ((IntKind.u64.wrap x3) < x4.1))) (some ((0 : Int), (0 : Int), (2 : Int))) (cond (decide ((IntKind.u64.wrap (IntKind.i64.wrap (((x1).length : Int) - x4.2.1))) < x4.1)) (some ((0 : Int), (0 : Int), (6 : Int))) (some ((IntKind.i64.wrap x4.1), x4.2.1, (0 : Int)))))))

set_option maxRecDepth 100000 in
theorem W_clockworkref02_TakeCount {V : View} (x1 : Str) (x2 : Int) (x3 : Int)   {r : Int × Int × Int} (hF : F_clockworkref02_TakeCount x1 x2 x3 = some r) :
    Spec Tryz.prog 80 [.string ⟨⟨x1⟩⟩, .int .i64 (x2), .int .i64 (x3)] V (fun _ v => v = .tuple ⟨[.int .i64 (r.1), .int .i64 (r.2.1), .int .i64 (r.2.2)]⟩) := by
  unfold F_clockworkref02_TakeCount at hF
  refine Spec.enter (T := tyT) Tryz.func80 rfl (by kernel_rfl) rfl rfl rfl ?_
  refine Exec.run tyOk 400 rfl ?_
  obtain ⟨x4, hx4, hF⟩ := bnd_some hF
  refine Exec.callS (.tuple ⟨[.int .u64 (x4.1), .int .i64 (x4.2.1), .int .i64 (x4.2.2)]⟩) rfl rfl (W_clockworkref02_TakeUint x1 x2  hx4) ?_
  refine Exec.run tyOk 400 rfl ?_
  rcases cond_some hF with ⟨hb, hF⟩ | ⟨hb, hF⟩
  · skip
    refine Exec.ifT rfl hb ?_
    refine Exec.run tyOk 400 rfl ?_
    obtain rfl := some_inj hF
    exact Exec.ret tyOk rfl rfl rfl
  · skip
    refine Exec.ifF rfl hb ?_
    refine Exec.run tyOk 400 rfl ?_
    rcases cond_some hF with ⟨hb, hF⟩ | ⟨hb, hF⟩
    · skip
      refine Exec.ifT rfl hb ?_
      refine Exec.run tyOk 400 rfl ?_
      obtain rfl := some_inj hF
      exact Exec.ret tyOk rfl rfl rfl
    · skip
      refine Exec.ifF rfl hb ?_
      refine Exec.run tyOk 400 rfl ?_
      rcases cond_some hF with ⟨hb, hF⟩ | ⟨hb, hF⟩
      · skip
        refine Exec.ifT rfl hb ?_
        refine Exec.run tyOk 400 rfl ?_
        obtain rfl := some_inj hF
        exact Exec.ret tyOk rfl rfl rfl
      · skip
        refine Exec.ifF rfl hb ?_
        refine Exec.run tyOk 400 rfl ?_
        obtain rfl := some_inj hF
        exact Exec.ret tyOk rfl rfl rfl

def F_clockworkref02_TakeText (x1 : Str) (x2 : Int) (x3 : Int) : Option (Str × Int × Int) :=
  (bnd (F_clockworkref02_TakeUint x1 x2) fun x4 => (cond (x4.2.2 != (0 : Int)) (some (([] : Str), (0 : Int), x4.2.2)) (cond ((decide (x3 < (0 : Int))) || (decide ((IntKind.u64.wrap x3) < x4.1))) (some (([] : Str), (0 : Int), (2 : Int))) (cond (decide ((IntKind.u64.wrap (IntKind.i64.wrap (((x1).length : Int) - x4.2.1))) < x4.1)) (some (([] : Str), (0 : Int), (6 : Int))) (req (0 ≤ x4.2.1 ∧ x4.2.1 ≤ (IntKind.i64.wrap (x4.2.1 + (IntKind.i64.wrap x4.1))) ∧ (IntKind.i64.wrap (x4.2.1 + (IntKind.i64.wrap x4.1))) ≤ (((x1).length : Nat) : Int)) (some (((x1.take ((IntKind.i64.wrap (x4.2.1 + (IntKind.i64.wrap x4.1)))).toNat).drop (x4.2.1).toNat), (IntKind.i64.wrap (x4.2.1 + (IntKind.i64.wrap x4.1))), (0 : Int))))))))

set_option maxRecDepth 100000 in
theorem W_clockworkref02_TakeText {V : View} (x1 : Str) (x2 : Int) (x3 : Int)   {r : Str × Int × Int} (hF : F_clockworkref02_TakeText x1 x2 x3 = some r) :
    Spec Tryz.prog 81 [.string ⟨⟨x1⟩⟩, .int .i64 (x2), .int .i64 (x3)] V (fun _ v => v = .tuple ⟨[.string ⟨⟨r.1⟩⟩, .int .i64 (r.2.1), .int .i64 (r.2.2)]⟩) := by
  unfold F_clockworkref02_TakeText at hF
  refine Spec.enter (T := tyT) Tryz.func81 rfl (by kernel_rfl) rfl rfl rfl ?_
  refine Exec.run tyOk 400 rfl ?_
  obtain ⟨x4, hx4, hF⟩ := bnd_some hF
  refine Exec.callS (.tuple ⟨[.int .u64 (x4.1), .int .i64 (x4.2.1), .int .i64 (x4.2.2)]⟩) rfl rfl (W_clockworkref02_TakeUint x1 x2  hx4) ?_
  refine Exec.run tyOk 400 rfl ?_
  rcases cond_some hF with ⟨hb, hF⟩ | ⟨hb, hF⟩
  · skip
    refine Exec.ifT rfl hb ?_
    refine Exec.run tyOk 400 rfl ?_
    obtain rfl := some_inj hF
    exact Exec.ret tyOk rfl rfl rfl
  · skip
    refine Exec.ifF rfl hb ?_
    refine Exec.run tyOk 400 rfl ?_
    rcases cond_some hF with ⟨hb, hF⟩ | ⟨hb, hF⟩
    · skip
      refine Exec.ifT rfl hb ?_
      refine Exec.run tyOk 400 rfl ?_
      obtain rfl := some_inj hF
      exact Exec.ret tyOk rfl rfl rfl
    · skip
      refine Exec.ifF rfl hb ?_
      refine Exec.run tyOk 400 rfl ?_
      rcases cond_some hF with ⟨hb, hF⟩ | ⟨hb, hF⟩
      · skip
        refine Exec.ifT rfl hb ?_
        refine Exec.run tyOk 400 rfl ?_
        obtain rfl := some_inj hF
        exact Exec.ret tyOk rfl rfl rfl
      · skip
        refine Exec.ifF rfl hb ?_
        refine Exec.run tyOk 400 rfl ?_
        obtain ⟨q5, hF⟩ := req_some hF
        refine Exec.ssl tyOk (r := ((x1.take ((IntKind.i64.wrap (x4.2.1 + (IntKind.i64.wrap x4.1)))).toNat).drop (x4.2.1).toNat)) rfl rfl q5 rfl ?_
        refine Exec.run tyOk 400 rfl ?_
        obtain rfl := some_inj hF
        exact Exec.ret tyOk rfl rfl rfl

def F_wire_Uint_L1 (J5 : Int → (List Int) → Option Str) : Nat → Int → (List Int) → Option Str
  | 0, _, _ => none
  | n14 + 1, x11, x12 => (cond (decide ((128 : Int) ≤ x11)) (bnd (F_wire_appended x12 ((bits .or .u8 (IntKind.u8.wrap x11) (128 : Int)))) fun x16 => (req (0 ≤ (7 : Int)) (F_wire_Uint_L1 J5 n14 ((shrI .u64 x11 (7 : Int))) x16))) (J5 x11 x12))

def F_wire_Uint (x1 : Int) : Option Str :=
  (jn (fun (x2 : Int) (x3 : List Int) => (bnd (F_wire_appended x3 ((IntKind.u8.wrap x2))) fun x7 => (some (bytesS x7)))) (fun J5 => (F_wire_Uint_L1 J5 ((x1).toNat + 2) x1 (([] : List Int)))))

set_option maxRecDepth 100000 in
theorem W_wire_Uint {V : View} (x1 : Int)   {r : Str} (hF : F_wire_Uint x1 = some r) :
    Spec Tryz.prog 85 [.int .u64 (x1)] V (fun _ v => v = .string ⟨⟨r⟩⟩) := by
  unfold F_wire_Uint at hF
  refine Spec.enter (T := tyT) Tryz.func85 rfl (by kernel_rfl) rfl rfl rfl ?_
  refine Exec.run tyOk 9 rfl ?_
  obtain ⟨J5, hJ5, hF⟩ := jn_some hF
  refine Exec.seam (fun L' V' M' => ∃ (x2 : Int) (x3 : List Int) (a4 : Option Addr) (k4 : Nat), L' = [(0, .v (.int .u64 (x2))), (3, .v (.slice a4 ((x3).length) (k4)))] ∧ M' = [] ∧ SlAt (cInt .u8) V' a4 k4 x3 ∧ J5 x2 x3 = some r) rfl ?_ ?_
  · rintro L' V6 M' ⟨x2, x3, a4, k4, rfl, rfl, h4, hF⟩
    subst hJ5
    refine Exec.run tyOk 400 rfl ?_
    obtain ⟨x7, hx7, hF⟩ := bnd_some hF
    refine Exec.call rfl rfl (W_wire_appended x3 ((IntKind.u8.wrap x2)) h4 hx7) ?_
    rintro V9 _ hv9 ⟨a8, k8, rfl, h8⟩
    have h10 := SlAt.mono h4 hv9
    refine Exec.run tyOk 400 rfl ?_
    refine Exec.b2sV tyOk rfl rfl rfl rfl rfl rfl rfl h8 (by simp) ?_
    refine Exec.run tyOk 400 rfl ?_
    obtain rfl := some_inj hF
    exact Exec.ret tyOk rfl rfl rfl
  · skip
    refine Exec.run tyOk 400 rfl ?_
    refine Exec.loop (fun n14 L' V' M' => ∃ (x11 : Int) (x12 : List Int) (a13 : Option Addr) (k13 : Nat), L' = [(0, .v (.int .u64 (x11))), (3, .v (.slice a13 ((x12).length) (k13)))] ∧ M' = [] ∧ SlAt (cInt .u8) V' a13 k13 x12 ∧ F_wire_Uint_L1 J5 n14 x11 x12 = some r) ⟨((x1).toNat + 2), [(0, .v (.int .u64 (x1))), (3, .v (.slice none (0) (0)))], ⟨rfl, rfl, trivial⟩, x1, ([] : List Int), none, 0, rfl, rfl, SlAt.nil, hF⟩ ?_
    rintro n14 L' V15 M' ⟨x11, x12, a13, k13, rfl, rfl, h13, hF⟩
    rcases n14 with _ | n14
    · exact absurd hF (by simp [F_wire_Uint_L1])
    rw [F_wire_Uint_L1] at hF
    refine Exec.run tyOk 400 rfl ?_
    rcases cond_some hF with ⟨hb, hF⟩ | ⟨hb, hF⟩
    · skip
      refine Exec.ifT rfl hb ?_
      refine Exec.run tyOk 400 rfl ?_
      obtain ⟨x16, hx16, hF⟩ := bnd_some hF
      refine Exec.call rfl rfl (W_wire_appended x12 ((bits .or .u8 (IntKind.u8.wrap x11) (128 : Int))) h13 hx16) ?_
      rintro V18 _ hv18 ⟨a17, k17, rfl, h17⟩
      have h19 := SlAt.mono h13 hv18
      refine Exec.run tyOk 400 rfl ?_
      obtain ⟨q20, hF⟩ := req_some hF
      refine Exec.ari rfl rfl q20 ?_
      refine Exec.run tyOk 400 rfl ?_
      exact Exec.round [(0, .v (.int .u64 ((shrI .u64 x11 (7 : Int))))), (3, .v (.slice a17 ((x16).length) (k17)))] ⟨rfl, rfl, trivial⟩ ⟨n14, Nat.lt_succ_self _, (shrI .u64 x11 (7 : Int)), x16, a17, k17, rfl, rfl, h17, hF⟩
    · skip
      refine Exec.ifF rfl hb ?_
      refine Exec.run tyOk 400 rfl ?_
      exact Exec.round [(0, .v (.int .u64 (x11))), (3, .v (.slice a13 ((x12).length) (k13)))] ⟨rfl, rfl, trivial⟩ ⟨x11, x12, a13, k13, rfl, rfl, h13, hF⟩

def F_wire_Text (x1 : Str) : Option Str :=
  (bnd (F_wire_Uint ((IntKind.u64.wrap ((x1).length : Int)))) fun x2 => (req ((x2).length + (x1).length ≤ 9223372036854775807) (some (x2 ++ x1))))

set_option maxRecDepth 100000 in
theorem W_wire_Text {V : View} (x1 : Str)   {r : Str} (hF : F_wire_Text x1 = some r) :
    Spec Tryz.prog 86 [.string ⟨⟨x1⟩⟩] V (fun _ v => v = .string ⟨⟨r⟩⟩) := by
  unfold F_wire_Text at hF
  refine Spec.enter (T := tyT) Tryz.func86 rfl (by kernel_rfl) rfl rfl rfl ?_
  refine Exec.run tyOk 400 rfl ?_
  obtain ⟨x2, hx2, hF⟩ := bnd_some hF
  refine Exec.callS (.string ⟨⟨x2⟩⟩) rfl rfl (W_wire_Uint ((IntKind.u64.wrap ((x1).length : Int)))  hx2) ?_
  refine Exec.run tyOk 400 rfl ?_
  obtain ⟨q3, hF⟩ := req_some hF
  refine Exec.cat rfl rfl q3 ?_
  refine Exec.run tyOk 400 rfl ?_
  obtain rfl := some_inj hF
  exact Exec.ret tyOk rfl rfl rfl

def F_clockworkref02_Int (x1 : Int) : Option Str :=
  (bnd (F_clockworkref02_Fold x1) fun x2 => (bnd (F_clockworkref02_Uint x2) fun x3 => (some x3)))

set_option maxRecDepth 100000 in
theorem W_clockworkref02_Int {V : View} (x1 : Int)   {r : Str} (hF : F_clockworkref02_Int x1 = some r) :
    Spec Tryz.prog 89 [.int .i64 (x1)] V (fun _ v => v = .string ⟨⟨r⟩⟩) := by
  unfold F_clockworkref02_Int at hF
  refine Spec.enter (T := tyT) Tryz.func89 rfl (by kernel_rfl) rfl rfl rfl ?_
  refine Exec.run tyOk 400 rfl ?_
  obtain ⟨x2, hx2, hF⟩ := bnd_some hF
  refine Exec.callS (.int .u64 (x2)) rfl rfl (W_clockworkref02_Fold x1  hx2) ?_
  refine Exec.run tyOk 400 rfl ?_
  obtain ⟨x3, hx3, hF⟩ := bnd_some hF
  refine Exec.callS (.string ⟨⟨x3⟩⟩) rfl rfl (W_clockworkref02_Uint x2  hx3) ?_
  refine Exec.run tyOk 400 rfl ?_
  obtain rfl := some_inj hF
  exact Exec.ret tyOk rfl rfl rfl

def F_clockworkref04_Ascending_L1 (x1 : List Str) (J3 : Option Bool) : Nat → Int → Option Bool
  | 0, _ => none
  | n6 + 1, x5 => (cond (decide (x5 < (((x1).length : Nat) : Int))) (req (0 ≤ x5 ∧ x5 < ((x1).length : Int)) (bnd (F_clockworkref04_Valid ((atI x1 x5))) fun x11 => (req (((((decide ((0 : Int) < x5))) == true) && (((!x11)) == false)) = true → 0 ≤ (IntKind.i64.wrap (x5 - (1 : Int))) ∧ (IntKind.i64.wrap (x5 - (1 : Int))) < ((x1).length : Int)) (req (((((decide ((0 : Int) < x5))) == true) && (((!x11)) == false)) = true → 0 ≤ x5 ∧ x5 < ((x1).length : Int)) (cond ((!x11) || ((decide ((0 : Int) < x5)) && (!sLt (cond ((((decide ((0 : Int) < x5))) == true) && (((!x11)) == false)) (atI x1 ((IntKind.i64.wrap (x5 - (1 : Int))))) default) (cond ((((decide ((0 : Int) < x5))) == true) && (((!x11)) == false)) (atI x1 x5) default)))) (some false) (F_clockworkref04_Ascending_L1 x1 J3 n6 ((IntKind.i64.wrap (x5 + (1 : Int)))))))))) J3)

def F_clockworkref04_Ascending (x1 : List Str) : Option Bool :=
  (jn ((some true)) (fun J3 => (F_clockworkref04_Ascending_L1 x1 J3 (((((x1).length : Nat) : Int)).toNat + 1) ((0 : Int)))))

set_option maxRecDepth 100000 in
theorem W_clockworkref04_Ascending {V : View} (x1 : List Str) {a2 : Option Addr} {k2 : Nat} (h2 : SlAt cStr V a2 k2 x1) {r : Bool} (hF : F_clockworkref04_Ascending x1 = some r) :
    Spec Tryz.prog 93 [.slice a2 ((x1).length) (k2)] V (fun _ v => v = .bool (r)) := by
  unfold F_clockworkref04_Ascending at hF
  refine Spec.enter (T := tyT) Tryz.func93 rfl (by kernel_rfl) rfl rfl rfl ?_
  refine Exec.run tyOk 9 rfl ?_
  obtain ⟨J3, hJ3, hF⟩ := jn_some hF
  refine Exec.seam (fun L' V' M' => L' = [] ∧ M' = [] ∧ J3 = some r) rfl ?_ ?_
  · rintro L' V4 M' ⟨rfl, rfl, hF⟩
    subst hJ3
    refine Exec.run tyOk 400 rfl ?_
    obtain rfl := some_inj hF
    exact Exec.ret tyOk rfl rfl rfl
  · skip
    refine Exec.run tyOk 400 rfl ?_
    refine Exec.loop (fun n6 L' V' M' => ∃ (x5 : Int), L' = [(0, .v (.slice a2 ((x1).length) (k2))), (3, .v (.int .i64 (x5)))] ∧ M' = [] ∧ SlAt cStr V' a2 k2 x1 ∧ F_clockworkref04_Ascending_L1 x1 J3 n6 x5 = some r) ⟨(((((x1).length : Nat) : Int)).toNat + 1), [(0, .v (.slice a2 ((x1).length) (k2))), (3, .v (.int .i64 ((0 : Int))))], ⟨rfl, rfl, trivial⟩, (0 : Int), rfl, rfl, h2, hF⟩ ?_
    rintro n6 L' V7 M' ⟨x5, rfl, rfl, h8, hF⟩
    rcases n6 with _ | n6
    · exact absurd hF (by simp [F_clockworkref04_Ascending_L1])
    rw [F_clockworkref04_Ascending_L1] at hF
    refine Exec.run tyOk 400 rfl ?_
    rcases cond_some hF with ⟨hb, hF⟩ | ⟨hb, hF⟩
    · skip
      refine Exec.ifT rfl hb ?_
      refine Exec.run tyOk 400 rfl ?_
      refine Exec.draws tyOk [(0, true), (1, true), (2, true), (3, true), (4, false), (5, false), (6, false), (7, false), (8, false), (9, false), (10, true), (11, true), (12, true), (13, true), (14, true), (15, true), (16, false), (17, false), (18, false), (19, false), (20, false), (21, false)] rfl (by kernel_rfl) ?_
      refine Exec.run tyOk 400 rfl ?_
      obtain ⟨q9, hF⟩ := req_some hF
      obtain ⟨c10, hr10, hd10⟩ := SlAt.get h8 q9
      obtain rfl := hr10
      refine Exec.fia tyOk rfl rfl rfl ⟨q9.1, q9.2, hd10.some⟩ ?_
      refine Exec.run tyOk 400 rfl ?_
      refine Exec.fld tyOk (x := .string ⟨⟨(atI x1 x5)⟩⟩) rfl rfl rfl hd10 rfl rfl ?_
      refine Exec.run tyOk 400 rfl ?_
      obtain ⟨x11, hx11, hF⟩ := bnd_some hF
      refine Exec.callS (.bool (x11)) rfl rfl (W_clockworkref04_Valid ((atI x1 x5))  hx11) ?_
      refine Exec.run tyOk 400 rfl ?_
      obtain ⟨q12, hF⟩ := req_some hF
      obtain ⟨c13, hr13, hd13⟩ := SlAt.gget ((((decide ((0 : Int) < x5))) == true) && (((!x11)) == false)) h8 q12
      obtain rfl := hr13
      refine Exec.fia tyOk rfl rfl rfl (fun gg0 gg1 => ⟨(q12 (gd2_of gg0 gg1)).1, (q12 (gd2_of gg0 gg1)).2, (hd13 (gd2_of gg0 gg1)).some⟩) ?_
      refine Exec.run tyOk 400 rfl ?_
      refine Exec.fld tyOk (x := .string ⟨⟨(cond ((((decide ((0 : Int) < x5))) == true) && (((!x11)) == false)) (atI x1 ((IntKind.i64.wrap (x5 - (1 : Int))))) default)⟩⟩) rfl rfl rfl (fun gg0 gg1 => (hd13 (gd2_of gg0 gg1))) rfl rfl ?_
      refine Exec.run tyOk 400 rfl ?_
      obtain ⟨q14, hF⟩ := req_some hF
      obtain ⟨c15, hr15, hd15⟩ := SlAt.gget ((((decide ((0 : Int) < x5))) == true) && (((!x11)) == false)) h8 q14
      obtain rfl := hr15
      refine Exec.ia tyOk rfl rfl (fun gg0 gg1 => ⟨(q14 (gd2_of gg0 gg1)).1, (q14 (gd2_of gg0 gg1)).2, (hd15 (gd2_of gg0 gg1)).some⟩) ?_
      refine Exec.run tyOk 400 rfl ?_
      refine Exec.ld tyOk (x := .string ⟨⟨(cond ((((decide ((0 : Int) < x5))) == true) && (((!x11)) == false)) (atI x1 x5) default)⟩⟩) rfl rfl (fun gg0 gg1 => (hd15 (gd2_of gg0 gg1))) rfl rfl ?_
      refine Exec.run tyOk 400 rfl ?_
      rcases cond_some hF with ⟨hb, hF⟩ | ⟨hb, hF⟩
      · skip
        refine Exec.ifT rfl hb ?_
        refine Exec.run tyOk 400 rfl ?_
        obtain rfl := some_inj hF
        exact Exec.ret tyOk rfl rfl rfl
      · skip
        refine Exec.ifF rfl hb ?_
        refine Exec.run tyOk 400 rfl ?_
        exact Exec.round [(0, .v (.slice a2 ((x1).length) (k2))), (3, .v (.int .i64 ((IntKind.i64.wrap (x5 + (1 : Int))))))] ⟨rfl, rfl, trivial⟩ ⟨n6, Nat.lt_succ_self _, (IntKind.i64.wrap (x5 + (1 : Int))), rfl, rfl, h8, hF⟩
    · skip
      refine Exec.ifF rfl hb ?_
      refine Exec.run tyOk 400 rfl ?_
      exact Exec.round [] trivial ⟨rfl, rfl, hF⟩

def F_keys_Valid (x1 : Str) : Option Bool :=
  (bnd (gcall (((x1 != ([] : Str))) == true) (F_keys_consists x1 (fun y0 => F_keys_Valid_1 y0 ))) fun x2 => (some ((x1 != ([] : Str)) && x2)))

set_option maxRecDepth 100000 in
theorem W_keys_Valid {V : View} (x1 : Str)   {r : Bool} (hF : F_keys_Valid x1 = some r) :
    Spec Tryz.prog 96 [.string ⟨⟨x1⟩⟩] V (fun _ v => v = .bool (r)) := by
  unfold F_keys_Valid at hF
  refine Spec.enter (T := tyT) Tryz.func96 rfl (by kernel_rfl) rfl rfl rfl ?_
  refine Exec.run tyOk 400 rfl ?_
  obtain ⟨x2, hx2, hF⟩ := bnd_some hF
  refine Exec.callS (.bool (x2)) rfl rfl (fun gg0 => W_keys_consists x1 (fun y0 => F_keys_Valid_1 y0 ) (fun V' hv y0 r hr => W_keys_Valid_1 y0   hr) (gcall_some hx2 (gd1_of gg0))) ?_
  refine Exec.run tyOk 400 rfl ?_
  obtain rfl := some_inj hF
  exact Exec.ret tyOk rfl rfl rfl

def F_clockworkref05_Valid (x1 : TValue) : Option Bool :=
  (cond (x1.Kind == (0 : Int)) (some ((x1.N == (0 : Int)) && (x1.S == ([] : Str)))) (cond (x1.Kind == (1 : Int)) (some (x1.S == ([] : Str))) (bnd (gcall ((((x1.Kind == (2 : Int)) && (x1.N == (0 : Int)))) == true) (F_clockworkref05_Plain x1.S)) fun x2 => (some (((x1.Kind == (2 : Int)) && (x1.N == (0 : Int))) && x2)))))

set_option maxRecDepth 100000 in
theorem W_clockworkref05_Valid {V : View} (x1 : TValue)   {r : Bool} (hF : F_clockworkref05_Valid x1 = some r) :
    Spec Tryz.prog 97 [.agg ⟨[.int .i64 (x1.Kind), .int .i64 (x1.N), .string ⟨⟨x1.S⟩⟩]⟩] V (fun _ v => v = .bool (r)) := by
  unfold F_clockworkref05_Valid at hF
  refine Spec.enter (T := tyT) Tryz.func97 rfl (by kernel_rfl) rfl rfl rfl ?_
  refine Exec.run tyOk 400 rfl ?_
  rcases cond_some hF with ⟨hb, hF⟩ | ⟨hb, hF⟩
  · skip
    refine Exec.ifT rfl hb ?_
    refine Exec.run tyOk 400 rfl ?_
    obtain rfl := some_inj hF
    exact Exec.ret tyOk rfl rfl rfl
  · skip
    refine Exec.ifF rfl hb ?_
    refine Exec.run tyOk 400 rfl ?_
    rcases cond_some hF with ⟨hb, hF⟩ | ⟨hb, hF⟩
    · skip
      refine Exec.ifT rfl hb ?_
      refine Exec.run tyOk 400 rfl ?_
      obtain rfl := some_inj hF
      exact Exec.ret tyOk rfl rfl rfl
    · skip
      refine Exec.ifF rfl hb ?_
      refine Exec.run tyOk 400 rfl ?_
      obtain ⟨x2, hx2, hF⟩ := bnd_some hF
      refine Exec.callS (.bool (x2)) rfl rfl (fun gg0 => W_clockworkref05_Plain x1.S  (gcall_some hx2 (gd1_of gg0))) ?_
      refine Exec.run tyOk 400 rfl ?_
      obtain rfl := some_inj hF
      exact Exec.ret tyOk rfl rfl rfl

def F_clockworkref06_ascending_L1 (x1 : List TPair) (J3 : Option Bool) : Nat → Int → Option Bool
  | 0, _ => none
  | n6 + 1, x5 => (cond (decide (x5 < (((x1).length : Nat) : Int))) (req (0 ≤ x5 ∧ x5 < ((x1).length : Int)) (bnd (F_clockworkref04_Valid ((atI x1 x5).Key)) fun x11 => (req (((((decide ((0 : Int) < x5))) == true) && (((!x11)) == false)) = true → 0 ≤ x5 ∧ x5 < ((x1).length : Int)) (req (((((decide ((0 : Int) < x5))) == true) && (((!x11)) == false)) = true → 0 ≤ (IntKind.i64.wrap (x5 - (1 : Int))) ∧ (IntKind.i64.wrap (x5 - (1 : Int))) < ((x1).length : Int)) (cond ((!x11) || ((decide ((0 : Int) < x5)) && (!sLt (cond ((((decide ((0 : Int) < x5))) == true) && (((!x11)) == false)) (atI x1 ((IntKind.i64.wrap (x5 - (1 : Int))))) default).Key (cond ((((decide ((0 : Int) < x5))) == true) && (((!x11)) == false)) (atI x1 x5) default).Key))) (some false) (F_clockworkref06_ascending_L1 x1 J3 n6 ((IntKind.i64.wrap (x5 + (1 : Int)))))))))) J3)

def F_clockworkref06_ascending (x1 : List TPair) : Option Bool :=
  (jn ((some true)) (fun J3 => (F_clockworkref06_ascending_L1 x1 J3 (((((x1).length : Nat) : Int)).toNat + 1) ((0 : Int)))))

set_option maxRecDepth 100000 in
theorem W_clockworkref06_ascending {V : View} (x1 : List TPair) {a2 : Option Addr} {k2 : Nat} (h2 : SlAt cTPair V a2 k2 x1) {r : Bool} (hF : F_clockworkref06_ascending x1 = some r) :
    Spec Tryz.prog 98 [.slice a2 ((x1).length) (k2)] V (fun _ v => v = .bool (r)) := by
  unfold F_clockworkref06_ascending at hF
  refine Spec.enter (T := tyT) Tryz.func98 rfl (by kernel_rfl) rfl rfl rfl ?_
  refine Exec.run tyOk 9 rfl ?_
  obtain ⟨J3, hJ3, hF⟩ := jn_some hF
  refine Exec.seam (fun L' V' M' => L' = [] ∧ M' = [] ∧ J3 = some r) rfl ?_ ?_
  · rintro L' V4 M' ⟨rfl, rfl, hF⟩
    subst hJ3
    refine Exec.run tyOk 400 rfl ?_
    obtain rfl := some_inj hF
    exact Exec.ret tyOk rfl rfl rfl
  · skip
    refine Exec.run tyOk 400 rfl ?_
    refine Exec.loop (fun n6 L' V' M' => ∃ (x5 : Int), L' = [(0, .v (.slice a2 ((x1).length) (k2))), (3, .v (.int .i64 (x5)))] ∧ M' = [] ∧ SlAt cTPair V' a2 k2 x1 ∧ F_clockworkref06_ascending_L1 x1 J3 n6 x5 = some r) ⟨(((((x1).length : Nat) : Int)).toNat + 1), [(0, .v (.slice a2 ((x1).length) (k2))), (3, .v (.int .i64 ((0 : Int))))], ⟨rfl, rfl, trivial⟩, (0 : Int), rfl, rfl, h2, hF⟩ ?_
    rintro n6 L' V7 M' ⟨x5, rfl, rfl, h8, hF⟩
    rcases n6 with _ | n6
    · exact absurd hF (by simp [F_clockworkref06_ascending_L1])
    rw [F_clockworkref06_ascending_L1] at hF
    refine Exec.run tyOk 400 rfl ?_
    rcases cond_some hF with ⟨hb, hF⟩ | ⟨hb, hF⟩
    · skip
      refine Exec.ifT rfl hb ?_
      refine Exec.run tyOk 400 rfl ?_
      refine Exec.draws tyOk [(0, true), (1, true), (2, true), (3, true), (4, true), (5, false), (6, false), (7, false), (8, false), (9, false), (10, false), (11, true), (12, true), (13, true), (14, true), (15, true), (16, true), (17, false), (18, false), (19, false), (20, false), (21, false), (22, false), (23, false), (24, false)] rfl (by kernel_rfl) ?_
      refine Exec.run tyOk 400 rfl ?_
      obtain ⟨q9, hF⟩ := req_some hF
      obtain ⟨c10, hr10, hd10⟩ := SlAt.get h8 q9
      obtain rfl := hr10
      refine Exec.fia tyOk rfl rfl rfl ⟨q9.1, q9.2, hd10.some⟩ ?_
      refine Exec.run tyOk 400 rfl ?_
      refine Exec.fld tyOk (x := .string ⟨⟨(atI x1 x5).Key⟩⟩) rfl rfl rfl (RdAt.part hd10 0 1 rfl) rfl rfl ?_
      refine Exec.run tyOk 400 rfl ?_
      obtain ⟨x11, hx11, hF⟩ := bnd_some hF
      refine Exec.callS (.bool (x11)) rfl rfl (W_clockworkref04_Valid ((atI x1 x5).Key)  hx11) ?_
      refine Exec.run tyOk 400 rfl ?_
      obtain ⟨q12, hF⟩ := req_some hF
      obtain ⟨c13, hr13, hd13⟩ := SlAt.gget ((((decide ((0 : Int) < x5))) == true) && (((!x11)) == false)) h8 q12
      obtain rfl := hr13
      refine Exec.fia tyOk rfl rfl rfl (fun gg0 gg1 => ⟨(q12 (gd2_of gg0 gg1)).1, (q12 (gd2_of gg0 gg1)).2, (hd13 (gd2_of gg0 gg1)).some⟩) ?_
      refine Exec.run tyOk 400 rfl ?_
      refine Exec.fld tyOk (x := .string ⟨⟨(cond ((((decide ((0 : Int) < x5))) == true) && (((!x11)) == false)) (atI x1 x5) default).Key⟩⟩) rfl rfl rfl (fun gg0 gg1 => (RdAt.part (hd13 (gd2_of gg0 gg1)) 0 1 rfl)) rfl rfl ?_
      refine Exec.run tyOk 400 rfl ?_
      obtain ⟨q14, hF⟩ := req_some hF
      obtain ⟨c15, hr15, hd15⟩ := SlAt.gget ((((decide ((0 : Int) < x5))) == true) && (((!x11)) == false)) h8 q14
      obtain rfl := hr15
      refine Exec.ia tyOk rfl rfl (fun gg0 gg1 => ⟨(q14 (gd2_of gg0 gg1)).1, (q14 (gd2_of gg0 gg1)).2, (hd15 (gd2_of gg0 gg1)).some⟩) ?_
      refine Exec.run tyOk 400 rfl ?_
      refine Exec.ld tyOk (x := .string ⟨⟨(cond ((((decide ((0 : Int) < x5))) == true) && (((!x11)) == false)) (atI x1 ((IntKind.i64.wrap (x5 - (1 : Int))))) default).Key⟩⟩) rfl rfl (fun gg0 gg1 => (RdAt.part (hd15 (gd2_of gg0 gg1)) 0 1 rfl)) rfl rfl ?_
      refine Exec.run tyOk 400 rfl ?_
      rcases cond_some hF with ⟨hb, hF⟩ | ⟨hb, hF⟩
      · skip
        refine Exec.ifT rfl hb ?_
        refine Exec.run tyOk 400 rfl ?_
        obtain rfl := some_inj hF
        exact Exec.ret tyOk rfl rfl rfl
      · skip
        refine Exec.ifF rfl hb ?_
        refine Exec.run tyOk 400 rfl ?_
        exact Exec.round [(0, .v (.slice a2 ((x1).length) (k2))), (3, .v (.int .i64 ((IntKind.i64.wrap (x5 + (1 : Int))))))] ⟨rfl, rfl, trivial⟩ ⟨n6, Nat.lt_succ_self _, (IntKind.i64.wrap (x5 + (1 : Int))), rfl, rfl, h8, hF⟩
    · skip
      refine Exec.ifF rfl hb ?_
      refine Exec.run tyOk 400 rfl ?_
      exact Exec.round [] trivial ⟨rfl, rfl, hF⟩

def F_keys_Same (x1 : List Str) (x3 : List Str) : Option Bool :=
  (bnd (F_slices_Equal_string_string x1 x3) fun x5 => (some x5))

set_option maxRecDepth 100000 in
theorem W_keys_Same {V : View} (x1 : List Str) (x3 : List Str) {a2 : Option Addr} {k2 : Nat} {a4 : Option Addr} {k4 : Nat} (h2 : SlAt cStr V a2 k2 x1) (h4 : SlAt cStr V a4 k4 x3) {r : Bool} (hF : F_keys_Same x1 x3 = some r) :
    Spec Tryz.prog 106 [.slice a2 ((x1).length) (k2), .slice a4 ((x3).length) (k4)] V (fun _ v => v = .bool (r)) := by
  unfold F_keys_Same at hF
  refine Spec.enter (T := tyT) Tryz.func106 rfl (by kernel_rfl) rfl rfl rfl ?_
  refine Exec.run tyOk 400 rfl ?_
  obtain ⟨x5, hx5, hF⟩ := bnd_some hF
  refine Exec.callS (.bool (x5)) rfl rfl (W_slices_Equal_string_string x1 x3 h2 h4 hx5) ?_
  refine Exec.run tyOk 400 rfl ?_
  obtain rfl := some_inj hF
  exact Exec.ret tyOk rfl rfl rfl

def F_state_Same (x1 : List TPair) (x3 : List TPair) : Option Bool :=
  (bnd (F_slices_Equal_api_Pair_api_Pair x1 x3) fun x5 => (some x5))

set_option maxRecDepth 100000 in
theorem W_state_Same {V : View} (x1 : List TPair) (x3 : List TPair) {a2 : Option Addr} {k2 : Nat} {a4 : Option Addr} {k4 : Nat} (h2 : SlAt cTPair V a2 k2 x1) (h4 : SlAt cTPair V a4 k4 x3) {r : Bool} (hF : F_state_Same x1 x3 = some r) :
    Spec Tryz.prog 107 [.slice a2 ((x1).length) (k2), .slice a4 ((x3).length) (k4)] V (fun _ v => v = .bool (r)) := by
  unfold F_state_Same at hF
  refine Spec.enter (T := tyT) Tryz.func107 rfl (by kernel_rfl) rfl rfl rfl ?_
  refine Exec.run tyOk 400 rfl ?_
  obtain ⟨x5, hx5, hF⟩ := bnd_some hF
  refine Exec.callS (.bool (x5)) rfl rfl (W_slices_Equal_api_Pair_api_Pair x1 x3 h2 h4 hx5) ?_
  refine Exec.run tyOk 400 rfl ?_
  obtain rfl := some_inj hF
  exact Exec.ret tyOk rfl rfl rfl

def F_slices_ContainsFunc_api_Pair_api_Pair (x1 : List TPair) (g4 : TPair → Option Bool) : Option Bool :=
  (bnd (F_slices_IndexFunc_api_Pair_api_Pair x1 g4) fun x5 => (some (decide ((0 : Int) ≤ x5))))

set_option maxRecDepth 100000 in
theorem W_slices_ContainsFunc_api_Pair_api_Pair {V : View} (x1 : List TPair) (g4 : TPair → Option Bool) {f4 : Nat} {ca4 : List Value} {a2 : Option Addr} {k2 : Nat} (h2 : SlAt cTPair V a2 k2 x1) (hg4 : FnSpec1 Tryz.prog f4 ca4 V (fun (y : TPair) => .agg ⟨[.string ⟨⟨y.Key⟩⟩, .int .i64 (y.Val.Kind), .int .i64 (y.Val.N), .string ⟨⟨y.Val.S⟩⟩]⟩) (fun (r : Bool) => .bool (r)) g4) {r : Bool} (hF : F_slices_ContainsFunc_api_Pair_api_Pair x1 g4 = some r) :
    Spec Tryz.prog 109 [.slice a2 ((x1).length) (k2), .func (.func f4) #[] ⟨ca4⟩] V (fun _ v => v = .bool (r)) := by
  unfold F_slices_ContainsFunc_api_Pair_api_Pair at hF
  refine Spec.enter (T := tyT) Tryz.func109 rfl (by kernel_rfl) rfl rfl rfl ?_
  refine Exec.run tyOk 400 rfl ?_
  obtain ⟨x5, hx5, hF⟩ := bnd_some hF
  refine Exec.callS (.int .i64 (x5)) rfl rfl (W_slices_IndexFunc_api_Pair_api_Pair x1 g4 h2 hg4 hx5) ?_
  refine Exec.run tyOk 400 rfl ?_
  obtain rfl := some_inj hF
  exact Exec.ret tyOk rfl rfl rfl

def F_state_order (x1 : TPair) (x2 : TPair) : Option Int :=
  (bnd (F_strings_Compare x1.Key x2.Key) fun x3 => (some x3))

set_option maxRecDepth 100000 in
theorem W_state_order {V : View} (x1 : TPair) (x2 : TPair)   {r : Int} (hF : F_state_order x1 x2 = some r) :
    Spec Tryz.prog 113 [.agg ⟨[.string ⟨⟨x1.Key⟩⟩, .int .i64 (x1.Val.Kind), .int .i64 (x1.Val.N), .string ⟨⟨x1.Val.S⟩⟩]⟩, .agg ⟨[.string ⟨⟨x2.Key⟩⟩, .int .i64 (x2.Val.Kind), .int .i64 (x2.Val.N), .string ⟨⟨x2.Val.S⟩⟩]⟩] V (fun _ v => v = .int .i64 (r)) := by
  unfold F_state_order at hF
  refine Spec.enter (T := tyT) Tryz.func113 rfl (by kernel_rfl) rfl rfl rfl ?_
  refine Exec.run tyOk 400 rfl ?_
  obtain ⟨x3, hx3, hF⟩ := bnd_some hF
  refine Exec.callS (.int .i64 (x3)) rfl rfl (W_strings_Compare x1.Key x2.Key  hx3) ?_
  refine Exec.run tyOk 400 rfl ?_
  obtain rfl := some_inj hF
  exact Exec.ret tyOk rfl rfl rfl

def F_wire_TakeUint_L1 (x1 : Str) (x2 : Int) (J4 : Option (Int × Int × Int)) : Nat → Int → Int → Option (Int × Int × Int)
  | 0, _, _ => none
  | n8 + 1, x6, x7 => (cond (decide (x7 < (10 : Int))) (cond (decide (((x1).length : Int) ≤ (IntKind.i64.wrap (x2 + x7)))) (some ((0 : Int), (0 : Int), (6 : Int))) (req (0 ≤ (IntKind.i64.wrap (x2 + x7)) ∧ (IntKind.i64.wrap (x2 + x7)) < ((x1).length : Int)) (cond (((x7 == (9 : Int)) && (decide ((1 : Int) < (byteAt x1 ((IntKind.i64.wrap (x2 + x7))).toNat)))) || (((byteAt x1 ((IntKind.i64.wrap (x2 + x7))).toNat) == (0 : Int)) && (decide ((0 : Int) < x7)))) (some ((0 : Int), (0 : Int), (5 : Int))) (req (0 ≤ (IntKind.i64.wrap ((7 : Int) * x7))) (cond (decide ((byteAt x1 ((IntKind.i64.wrap (x2 + x7))).toNat) < (128 : Int))) (some ((bits .or .u64 x6 (shlI .u64 (IntKind.u64.wrap (bits .and .u8 (byteAt x1 ((IntKind.i64.wrap (x2 + x7))).toNat) (127 : Int))) (IntKind.i64.wrap ((7 : Int) * x7)))), (IntKind.i64.wrap ((IntKind.i64.wrap (x2 + x7)) + (1 : Int))), (0 : Int))) (F_wire_TakeUint_L1 x1 x2 J4 n8 ((bits .or .u64 x6 (shlI .u64 (IntKind.u64.wrap (bits .and .u8 (byteAt x1 ((IntKind.i64.wrap (x2 + x7))).toNat) (127 : Int))) (IntKind.i64.wrap ((7 : Int) * x7))))) ((IntKind.i64.wrap (x7 + (1 : Int)))))))))) J4)

def F_wire_TakeUint (x1 : Str) (x2 : Int) : Option (Int × Int × Int) :=
  (bnd (F_wire_outside x1 x2) fun x3 => (cond x3 (some ((0 : Int), (0 : Int), (1 : Int))) (jn ((some ((0 : Int), (0 : Int), (5 : Int)))) (fun J4 => (F_wire_TakeUint_L1 x1 x2 J4 (((10 : Int)).toNat + 1) ((0 : Int)) ((0 : Int)))))))

set_option maxRecDepth 100000 in
theorem W_wire_TakeUint {V : View} (x1 : Str) (x2 : Int)   {r : Int × Int × Int} (hF : F_wire_TakeUint x1 x2 = some r) :
    Spec Tryz.prog 123 [.string ⟨⟨x1⟩⟩, .int .i64 (x2)] V (fun _ v => v = .tuple ⟨[.int .u64 (r.1), .int .i64 (r.2.1), .int .i64 (r.2.2)]⟩) := by
  unfold F_wire_TakeUint at hF
  refine Spec.enter (T := tyT) Tryz.func123 rfl (by kernel_rfl) rfl rfl rfl ?_
  refine Exec.run tyOk 400 rfl ?_
  obtain ⟨x3, hx3, hF⟩ := bnd_some hF
  refine Exec.callS (.bool (x3)) rfl rfl (W_wire_outside x1 x2  hx3) ?_
  refine Exec.run tyOk 400 rfl ?_
  rcases cond_some hF with ⟨hb, hF⟩ | ⟨hb, hF⟩
  · skip
    refine Exec.ifT rfl hb ?_
    refine Exec.run tyOk 400 rfl ?_
    obtain rfl := some_inj hF
    exact Exec.ret tyOk rfl rfl rfl
  · skip
    refine Exec.ifF rfl hb ?_
    refine Exec.run tyOk 10 rfl ?_
    obtain ⟨J4, hJ4, hF⟩ := jn_some hF
    refine Exec.seam (fun L' V' M' => L' = [] ∧ M' = [] ∧ J4 = some r) rfl ?_ ?_
    · rintro L' V5 M' ⟨rfl, rfl, hF⟩
      subst hJ4
      refine Exec.run tyOk 400 rfl ?_
      obtain rfl := some_inj hF
      exact Exec.ret tyOk rfl rfl rfl
    · skip
      refine Exec.run tyOk 400 rfl ?_
      refine Exec.loop (fun n8 L' V' M' => ∃ (x6 : Int) (x7 : Int), L' = [(0, .v (.string ⟨⟨x1⟩⟩)), (1, .v (.int .i64 (x2))), (7, .v (.int .u64 (x6))), (13, .v (.int .i64 (x7)))] ∧ M' = [] ∧ F_wire_TakeUint_L1 x1 x2 J4 n8 x6 x7 = some r) ⟨(((10 : Int)).toNat + 1), [(0, .v (.string ⟨⟨x1⟩⟩)), (1, .v (.int .i64 (x2))), (7, .v (.int .u64 ((0 : Int)))), (13, .v (.int .i64 ((0 : Int))))], ⟨rfl, rfl, rfl, rfl, trivial⟩, (0 : Int), (0 : Int), rfl, rfl, hF⟩ ?_
      rintro n8 L' V9 M' ⟨x6, x7, rfl, rfl, hF⟩
      rcases n8 with _ | n8
      · exact absurd hF (by simp [F_wire_TakeUint_L1])
      rw [F_wire_TakeUint_L1] at hF
      refine Exec.run tyOk 400 rfl ?_
      rcases cond_some hF with ⟨hb, hF⟩ | ⟨hb, hF⟩
      · skip
        refine Exec.ifT rfl hb ?_
        refine Exec.run tyOk 400 rfl ?_
        rcases cond_some hF with ⟨hb, hF⟩ | ⟨hb, hF⟩
        · skip
          refine Exec.ifT rfl hb ?_
          refine Exec.run tyOk 400 rfl ?_
          obtain rfl := some_inj hF
          exact Exec.ret tyOk rfl rfl rfl
        · skip
          refine Exec.ifF rfl hb ?_
          refine Exec.run tyOk 400 rfl ?_
          obtain ⟨q10, hF⟩ := req_some hF
          refine Exec.idx tyOk rfl rfl q10 ?_
          refine Exec.run tyOk 400 rfl ?_
          rcases cond_some hF with ⟨hb, hF⟩ | ⟨hb, hF⟩
          · skip
            refine Exec.ifT rfl hb ?_
            refine Exec.run tyOk 400 rfl ?_
            obtain rfl := some_inj hF
            exact Exec.ret tyOk rfl rfl rfl
          · skip
            refine Exec.ifF rfl hb ?_
            refine Exec.run tyOk 400 rfl ?_
            obtain ⟨q11, hF⟩ := req_some hF
            refine Exec.ari rfl rfl q11 ?_
            refine Exec.run tyOk 400 rfl ?_
            rcases cond_some hF with ⟨hb, hF⟩ | ⟨hb, hF⟩
            · skip
              refine Exec.ifT rfl hb ?_
              refine Exec.run tyOk 400 rfl ?_
              obtain rfl := some_inj hF
              exact Exec.ret tyOk rfl rfl rfl
            · skip
              refine Exec.ifF rfl hb ?_
              refine Exec.run tyOk 400 rfl ?_
              exact Exec.round [(0, .v (.string ⟨⟨x1⟩⟩)), (1, .v (.int .i64 (x2))), (7, .v (.int .u64 ((bits .or .u64 x6 (shlI .u64 (IntKind.u64.wrap (bits .and .u8 (byteAt x1 ((IntKind.i64.wrap (x2 + x7))).toNat) (127 : Int))) (IntKind.i64.wrap ((7 : Int) * x7))))))), (13, .v (.int .i64 ((IntKind.i64.wrap (x7 + (1 : Int))))))] ⟨rfl, rfl, rfl, rfl, trivial⟩ ⟨n8, Nat.lt_succ_self _, (bits .or .u64 x6 (shlI .u64 (IntKind.u64.wrap (bits .and .u8 (byteAt x1 ((IntKind.i64.wrap (x2 + x7))).toNat) (127 : Int))) (IntKind.i64.wrap ((7 : Int) * x7)))), (IntKind.i64.wrap (x7 + (1 : Int))), rfl, rfl, hF⟩
      · skip
        refine Exec.ifF rfl hb ?_
        refine Exec.run tyOk 400 rfl ?_
        exact Exec.round [] trivial ⟨rfl, rfl, hF⟩

def F_clockworkref05_Decode (x1 : Str) (x2 : Int) : Option (TValue × Int × Int) :=
  (bnd (F_clockworkref02_TakeUint x1 x2) fun x3 => (cond (x3.2.2 != (0 : Int)) (some ((⟨0, 0, []⟩ : TValue), (0 : Int), x3.2.2)) (cond (x3.1 == (0 : Int)) (some ((⟨0, 0, []⟩ : TValue), x3.2.1, (0 : Int))) (cond (x3.1 == (1 : Int)) (bnd (F_clockworkref02_TakeInt x1 x3.2.1) fun x4 => (cond (x4.2.2 != (0 : Int)) (some ((⟨0, 0, []⟩ : TValue), (0 : Int), x4.2.2)) (bnd (F_clockworkref05_Int x4.1) fun x5 => (some (x5, x4.2.1, (0 : Int)))))) (cond (x3.1 != (2 : Int)) (some ((⟨0, 0, []⟩ : TValue), (0 : Int), (5 : Int))) (bnd (F_clockworkref02_TakeText x1 x3.2.1 ((64 : Int))) fun x6 => (cond (x6.2.2 != (0 : Int)) (some ((⟨0, 0, []⟩ : TValue), (0 : Int), x6.2.2)) (bnd (F_clockworkref05_Plain x6.1) fun x7 => (cond (!x7) (some ((⟨0, 0, []⟩ : TValue), (0 : Int), (5 : Int))) (some ((⟨(2 : Int), 0, x6.1⟩ : TValue), x6.2.1, (0 : Int))))))))))))

set_option maxRecDepth 100000 in
theorem W_clockworkref05_Decode {V : View} (x1 : Str) (x2 : Int)   {r : TValue × Int × Int} (hF : F_clockworkref05_Decode x1 x2 = some r) :
    Spec Tryz.prog 127 [.string ⟨⟨x1⟩⟩, .int .i64 (x2)] V (fun _ v => v = .tuple ⟨[.agg ⟨[.int .i64 (r.1.Kind), .int .i64 (r.1.N), .string ⟨⟨r.1.S⟩⟩]⟩, .int .i64 (r.2.1), .int .i64 (r.2.2)]⟩) := by
  unfold F_clockworkref05_Decode at hF
  refine Spec.enter (T := tyT) Tryz.func127 rfl (by kernel_rfl) rfl rfl rfl ?_
  refine Exec.run tyOk 400 rfl ?_
  obtain ⟨x3, hx3, hF⟩ := bnd_some hF
  refine Exec.callS (.tuple ⟨[.int .u64 (x3.1), .int .i64 (x3.2.1), .int .i64 (x3.2.2)]⟩) rfl rfl (W_clockworkref02_TakeUint x1 x2  hx3) ?_
  refine Exec.run tyOk 400 rfl ?_
  rcases cond_some hF with ⟨hb, hF⟩ | ⟨hb, hF⟩
  · skip
    refine Exec.ifT rfl hb ?_
    refine Exec.run tyOk 400 rfl ?_
    obtain rfl := some_inj hF
    exact Exec.ret tyOk rfl rfl rfl
  · skip
    refine Exec.ifF rfl hb ?_
    refine Exec.run tyOk 400 rfl ?_
    rcases cond_some hF with ⟨hb, hF⟩ | ⟨hb, hF⟩
    · skip
      refine Exec.ifT rfl hb ?_
      refine Exec.run tyOk 400 rfl ?_
      obtain rfl := some_inj hF
      exact Exec.ret tyOk rfl rfl rfl
    · skip
      refine Exec.ifF rfl hb ?_
      refine Exec.run tyOk 400 rfl ?_
      rcases cond_some hF with ⟨hb, hF⟩ | ⟨hb, hF⟩
      · skip
        refine Exec.ifT rfl hb ?_
        refine Exec.run tyOk 400 rfl ?_
        obtain ⟨x4, hx4, hF⟩ := bnd_some hF
        refine Exec.callS (.tuple ⟨[.int .i64 (x4.1), .int .i64 (x4.2.1), .int .i64 (x4.2.2)]⟩) rfl rfl (W_clockworkref02_TakeInt x1 x3.2.1  hx4) ?_
        refine Exec.run tyOk 400 rfl ?_
        rcases cond_some hF with ⟨hb, hF⟩ | ⟨hb, hF⟩
        · skip
          refine Exec.ifT rfl hb ?_
          refine Exec.run tyOk 400 rfl ?_
          obtain rfl := some_inj hF
          exact Exec.ret tyOk rfl rfl rfl
        · skip
          refine Exec.ifF rfl hb ?_
          refine Exec.run tyOk 400 rfl ?_
          obtain ⟨x5, hx5, hF⟩ := bnd_some hF
          refine Exec.callS (.agg ⟨[.int .i64 (x5.Kind), .int .i64 (x5.N), .string ⟨⟨x5.S⟩⟩]⟩) rfl rfl (W_clockworkref05_Int x4.1  hx5) ?_
          refine Exec.run tyOk 400 rfl ?_
          obtain rfl := some_inj hF
          exact Exec.ret tyOk rfl rfl rfl
      · skip
        refine Exec.ifF rfl hb ?_
        refine Exec.run tyOk 400 rfl ?_
        rcases cond_some hF with ⟨hb, hF⟩ | ⟨hb, hF⟩
        · skip
          refine Exec.ifT rfl hb ?_
          refine Exec.run tyOk 400 rfl ?_
          obtain rfl := some_inj hF
          exact Exec.ret tyOk rfl rfl rfl
        · skip
          refine Exec.ifF rfl hb ?_
          refine Exec.run tyOk 400 rfl ?_
          obtain ⟨x6, hx6, hF⟩ := bnd_some hF
          refine Exec.callS (.tuple ⟨[.string ⟨⟨x6.1⟩⟩, .int .i64 (x6.2.1), .int .i64 (x6.2.2)]⟩) rfl rfl (W_clockworkref02_TakeText x1 x3.2.1 ((64 : Int))  hx6) ?_
          refine Exec.run tyOk 400 rfl ?_
          rcases cond_some hF with ⟨hb, hF⟩ | ⟨hb, hF⟩
          · skip
            refine Exec.ifT rfl hb ?_
            refine Exec.run tyOk 400 rfl ?_
            obtain rfl := some_inj hF
            exact Exec.ret tyOk rfl rfl rfl
          · skip
            refine Exec.ifF rfl hb ?_
            refine Exec.run tyOk 400 rfl ?_
            obtain ⟨x7, hx7, hF⟩ := bnd_some hF
            refine Exec.callS (.bool (x7)) rfl rfl (W_clockworkref05_Plain x6.1  hx7) ?_
            refine Exec.run tyOk 400 rfl ?_
            rcases cond_some hF with ⟨hb, hF⟩ | ⟨hb, hF⟩
            · skip
              refine Exec.ifT rfl hb ?_
              refine Exec.run tyOk 400 rfl ?_
              obtain rfl := some_inj hF
              exact Exec.ret tyOk rfl rfl rfl
            · skip
              refine Exec.ifF rfl hb ?_
              refine Exec.run tyOk 400 rfl ?_
              obtain rfl := some_inj hF
              exact Exec.ret tyOk rfl rfl rfl

def F_clockworkref05_Encode (x1 : TValue) : Option Str :=
  (cond (x1.Kind == (1 : Int)) (bnd (F_clockworkref02_Uint ((1 : Int))) fun x2 => (bnd (F_clockworkref02_Int x1.N) fun x3 => (req ((x2).length + (x3).length ≤ 9223372036854775807) (some (x2 ++ x3))))) (cond (x1.Kind == (2 : Int)) (bnd (F_clockworkref02_Uint ((2 : Int))) fun x5 => (bnd (F_clockworkref02_Text x1.S) fun x6 => (req ((x5).length + (x6).length ≤ 9223372036854775807) (some (x5 ++ x6))))) (bnd (F_clockworkref02_Uint ((0 : Int))) fun x8 => (some x8))))

set_option maxRecDepth 100000 in
theorem W_clockworkref05_Encode {V : View} (x1 : TValue)   {r : Str} (hF : F_clockworkref05_Encode x1 = some r) :
    Spec Tryz.prog 132 [.agg ⟨[.int .i64 (x1.Kind), .int .i64 (x1.N), .string ⟨⟨x1.S⟩⟩]⟩] V (fun _ v => v = .string ⟨⟨r⟩⟩) := by
  unfold F_clockworkref05_Encode at hF
  refine Spec.enter (T := tyT) Tryz.func132 rfl (by kernel_rfl) rfl rfl rfl ?_
  refine Exec.run tyOk 400 rfl ?_
  rcases cond_some hF with ⟨hb, hF⟩ | ⟨hb, hF⟩
  · skip
    refine Exec.ifT rfl hb ?_
    refine Exec.run tyOk 400 rfl ?_
    refine Exec.draws tyOk [(1, true), (2, true), (0, false), (3, false), (4, false), (5, false)] rfl (by kernel_rfl) ?_
    refine Exec.run tyOk 400 rfl ?_
    obtain ⟨x2, hx2, hF⟩ := bnd_some hF
    refine Exec.callS (.string ⟨⟨x2⟩⟩) rfl rfl (W_clockworkref02_Uint ((1 : Int))  hx2) ?_
    refine Exec.run tyOk 400 rfl ?_
    obtain ⟨x3, hx3, hF⟩ := bnd_some hF
    refine Exec.callS (.string ⟨⟨x3⟩⟩) rfl rfl (W_clockworkref02_Int x1.N  hx3) ?_
    refine Exec.run tyOk 400 rfl ?_
    obtain ⟨q4, hF⟩ := req_some hF
    refine Exec.cat rfl rfl q4 ?_
    refine Exec.run tyOk 400 rfl ?_
    obtain rfl := some_inj hF
    exact Exec.ret tyOk rfl rfl rfl
  · skip
    refine Exec.ifF rfl hb ?_
    refine Exec.run tyOk 400 rfl ?_
    rcases cond_some hF with ⟨hb, hF⟩ | ⟨hb, hF⟩
    · skip
      refine Exec.ifT rfl hb ?_
      refine Exec.run tyOk 400 rfl ?_
      refine Exec.draws tyOk [(1, true), (2, true), (0, false), (3, false), (4, false), (5, false)] rfl (by kernel_rfl) ?_
      refine Exec.run tyOk 400 rfl ?_
      obtain ⟨x5, hx5, hF⟩ := bnd_some hF
      refine Exec.callS (.string ⟨⟨x5⟩⟩) rfl rfl (W_clockworkref02_Uint ((2 : Int))  hx5) ?_
      refine Exec.run tyOk 400 rfl ?_
      obtain ⟨x6, hx6, hF⟩ := bnd_some hF
      refine Exec.callS (.string ⟨⟨x6⟩⟩) rfl rfl (W_clockworkref02_Text x1.S  hx6) ?_
      refine Exec.run tyOk 400 rfl ?_
      obtain ⟨q7, hF⟩ := req_some hF
      refine Exec.cat rfl rfl q7 ?_
      refine Exec.run tyOk 400 rfl ?_
      obtain rfl := some_inj hF
      exact Exec.ret tyOk rfl rfl rfl
    · skip
      refine Exec.ifF rfl hb ?_
      refine Exec.run tyOk 400 rfl ?_
      obtain ⟨x8, hx8, hF⟩ := bnd_some hF
      refine Exec.callS (.string ⟨⟨x8⟩⟩) rfl rfl (W_clockworkref02_Uint ((0 : Int))  hx8) ?_
      refine Exec.run tyOk 400 rfl ?_
      obtain rfl := some_inj hF
      exact Exec.ret tyOk rfl rfl rfl

def F_value_Valid (x1 : TValue) : Option Bool :=
  (cond (x1.Kind == (0 : Int)) (some ((x1.Kind == 0) && ((x1.N == 0) && ((x1.S == []) && true)))) (cond (x1.Kind == (1 : Int)) (some (x1.S == ([] : Str))) (cond (x1.Kind == (2 : Int)) (bnd (gcall (((x1.N == (0 : Int))) == true) (F_value_plain x1.S)) fun x2 => (some ((x1.N == (0 : Int)) && x2))) (some false))))

set_option maxRecDepth 100000 in
theorem W_value_Valid {V : View} (x1 : TValue)   {r : Bool} (hF : F_value_Valid x1 = some r) :
    Spec Tryz.prog 142 [.agg ⟨[.int .i64 (x1.Kind), .int .i64 (x1.N), .string ⟨⟨x1.S⟩⟩]⟩] V (fun _ v => v = .bool (r)) := by
  unfold F_value_Valid at hF
  refine Spec.enter (T := tyT) Tryz.func142 rfl (by kernel_rfl) rfl rfl rfl ?_
  refine Exec.run tyOk 400 rfl ?_
  rcases cond_some hF with ⟨hb, hF⟩ | ⟨hb, hF⟩
  · skip
    refine Exec.ifT rfl hb ?_
    refine Exec.run tyOk 400 rfl ?_
    obtain rfl := some_inj hF
    exact Exec.ret tyOk rfl rfl rfl
  · skip
    refine Exec.ifF rfl hb ?_
    refine Exec.run tyOk 400 rfl ?_
    rcases cond_some hF with ⟨hb, hF⟩ | ⟨hb, hF⟩
    · skip
      refine Exec.ifT rfl hb ?_
      refine Exec.run tyOk 400 rfl ?_
      obtain rfl := some_inj hF
      exact Exec.ret tyOk rfl rfl rfl
    · skip
      refine Exec.ifF rfl hb ?_
      refine Exec.run tyOk 400 rfl ?_
      rcases cond_some hF with ⟨hb, hF⟩ | ⟨hb, hF⟩
      · skip
        refine Exec.ifT rfl hb ?_
        refine Exec.run tyOk 400 rfl ?_
        obtain ⟨x2, hx2, hF⟩ := bnd_some hF
        refine Exec.callS (.bool (x2)) rfl rfl (fun gg0 => W_value_plain x1.S  (gcall_some hx2 (gd1_of gg0))) ?_
        refine Exec.run tyOk 400 rfl ?_
        obtain rfl := some_inj hF
        exact Exec.ret tyOk rfl rfl rfl
      · skip
        refine Exec.ifF rfl hb ?_
        refine Exec.run tyOk 400 rfl ?_
        obtain rfl := some_inj hF
        exact Exec.ret tyOk rfl rfl rfl

def F_placement_Valid_L1 (x1 : TPlacement) (J5 : Option Bool) : Nat → Int → Option Bool
  | 0, _ => none
  | n8 + 1, x7 => (cond (decide (x7 < (((x1.Parts).length : Nat) : Int))) (req (0 ≤ x7 ∧ x7 < ((x1.Parts).length : Int)) (bnd (gcall (((decide ((0 : Int) < x7))) == true) (F_placement_bound ((atI x1.Parts x7).From))) fun x13 => (req (((((!x13)) == false) && (((decide ((0 : Int) < x7))) == true)) = true → 0 ≤ (IntKind.i64.wrap (x7 - (1 : Int))) ∧ (IntKind.i64.wrap (x7 - (1 : Int))) < ((x1.Parts).length : Int)) (cond ((decide ((0 : Int) < x7)) && ((!x13) || (!sLt (cond ((((!x13)) == false) && (((decide ((0 : Int) < x7))) == true)) (atI x1.Parts ((IntKind.i64.wrap (x7 - (1 : Int))))) default).From (atI x1.Parts x7).From))) (some false) (bnd (F_placement_number ((atI x1.Parts x7).Id)) fun x16 => (bnd (gcall (((!x16)) == false) (F_placement_node ((atI x1.Parts x7).Node))) fun x17 => (bnd (gcall ((((!x16) || (!x17))) == false) (F_placement_validMove x1.Parts x7)) fun x18 => (req ((((((!x16) || (!x17)) || (!x18))) == false) = true → 0 ≤ (0 : Int) ∧ (0 : Int) ≤ x7 ∧ x7 ≤ ((x1.Parts).length : Int)) (bnd (gcall (((((!x16) || (!x17)) || (!x18))) == false) (F_placement_find ((cond ((((((!x16) || (!x17)) || (!x18))) == false)) ((x1.Parts.take (x7).toNat).drop ((0 : Int)).toNat) ([] : List TPart))) ((atI x1.Parts x7).Id))) fun x21 => (cond ((((!x16) || (!x17)) || (!x18)) || (decide ((0 : Int) ≤ x21))) (some false) (F_placement_Valid_L1 x1 J5 n8 ((IntKind.i64.wrap (x7 + (1 : Int))))))))))))))) J5)

def F_placement_Valid (x1 : TPlacement) : Option Bool :=
  (req (((((((decide (x1.Version < (0 : Int))) || (decide ((1099511627776 : Int) < x1.Version))) || (decide ((((x1.Parts).length : Nat) : Int) < (1 : Int)))) || (decide ((16 : Int) < (((x1.Parts).length : Nat) : Int))))) == false) = true → 0 ≤ (0 : Int) ∧ (0 : Int) < ((x1.Parts).length : Int)) (cond (((((decide (x1.Version < (0 : Int))) || (decide ((1099511627776 : Int) < x1.Version))) || (decide ((((x1.Parts).length : Nat) : Int) < (1 : Int)))) || (decide ((16 : Int) < (((x1.Parts).length : Nat) : Int)))) || ((cond ((((((decide (x1.Version < (0 : Int))) || (decide ((1099511627776 : Int) < x1.Version))) || (decide ((((x1.Parts).length : Nat) : Int) < (1 : Int)))) || (decide ((16 : Int) < (((x1.Parts).length : Nat) : Int))))) == false) (atI x1.Parts ((0 : Int))) default).From != ([] : Str))) (some false) (jn ((some true)) (fun J5 => (F_placement_Valid_L1 x1 J5 (((((x1.Parts).length : Nat) : Int)).toNat + 1) ((0 : Int)))))))

set_option maxRecDepth 100000 in
theorem W_placement_Valid {V : View} (x1 : TPlacement) {a2 : Option Addr} {k2 : Nat} (h2 : SlAt cTPart V a2 k2 x1.Parts) {r : Bool} (hF : F_placement_Valid x1 = some r) :
    Spec Tryz.prog 11 [.agg ⟨[.int .i64 (x1.Version), .slice a2 ((x1.Parts).length) (k2)]⟩] V (fun _ v => v = .bool (r)) := by
  unfold F_placement_Valid at hF
  refine Spec.enter (T := tyT) Tryz.func11 rfl (by kernel_rfl) rfl rfl rfl ?_
  refine Exec.run tyOk 400 rfl ?_
  obtain ⟨q3, hF⟩ := req_some hF
  obtain ⟨c4, hr4, hd4⟩ := SlAt.gget ((((((decide (x1.Version < (0 : Int))) || (decide ((1099511627776 : Int) < x1.Version))) || (decide ((((x1.Parts).length : Nat) : Int) < (1 : Int)))) || (decide ((16 : Int) < (((x1.Parts).length : Nat) : Int))))) == false) h2 q3
  obtain rfl := hr4
  refine Exec.ia tyOk rfl rfl (fun gg0 => ⟨(q3 (gd1_of gg0)).1, (q3 (gd1_of gg0)).2, (hd4 (gd1_of gg0)).some⟩) ?_
  refine Exec.run tyOk 400 rfl ?_
  refine Exec.ld tyOk (x := .string ⟨⟨(cond ((((((decide (x1.Version < (0 : Int))) || (decide ((1099511627776 : Int) < x1.Version))) || (decide ((((x1.Parts).length : Nat) : Int) < (1 : Int)))) || (decide ((16 : Int) < (((x1.Parts).length : Nat) : Int))))) == false) (atI x1.Parts ((0 : Int))) default).From⟩⟩) rfl rfl (fun gg0 => (RdAt.part (hd4 (gd1_of gg0)) 1 1 rfl)) rfl rfl ?_
  refine Exec.run tyOk 400 rfl ?_
  rcases cond_some hF with ⟨hb, hF⟩ | ⟨hb, hF⟩
  · skip
    refine Exec.ifT rfl hb ?_
    refine Exec.run tyOk 400 rfl ?_
    obtain rfl := some_inj hF
    exact Exec.ret tyOk rfl rfl rfl
  · skip
    refine Exec.ifF rfl hb ?_
    refine Exec.run tyOk 9 rfl ?_
    obtain ⟨J5, hJ5, hF⟩ := jn_some hF
    refine Exec.seam (fun L' V' M' => L' = [] ∧ M' = [] ∧ J5 = some r) rfl ?_ ?_
    · rintro L' V6 M' ⟨rfl, rfl, hF⟩
      subst hJ5
      refine Exec.run tyOk 400 rfl ?_
      obtain rfl := some_inj hF
      exact Exec.ret tyOk rfl rfl rfl
    · skip
      refine Exec.run tyOk 400 rfl ?_
      refine Exec.loop (fun n8 L' V' M' => ∃ (x7 : Int), L' = [(1, .ptr 0 0), (34, .v (.slice a2 ((x1.Parts).length) (k2))), (35, .v (.int .i64 ((((x1.Parts).length : Nat) : Int)))), (36, .v (.int .i64 (x7)))] ∧ M' = [.blk [.v (.int .i64 (x1.Version)), .v (.slice a2 ((x1.Parts).length) (k2))] 24] ∧ SlAt cTPart V' a2 k2 x1.Parts ∧ F_placement_Valid_L1 x1 J5 n8 x7 = some r) ⟨(((((x1.Parts).length : Nat) : Int)).toNat + 1), [(1, .ptr 0 0), (34, .v (.slice a2 ((x1.Parts).length) (k2))), (35, .v (.int .i64 ((((x1.Parts).length : Nat) : Int)))), (36, .v (.int .i64 ((0 : Int))))], ⟨rfl, rfl, rfl, rfl, trivial⟩, (0 : Int), rfl, rfl, h2, hF⟩ ?_
      rintro n8 L' V9 M' ⟨x7, rfl, rfl, h10, hF⟩
      rcases n8 with _ | n8
      · exact absurd hF (by simp [F_placement_Valid_L1])
      rw [F_placement_Valid_L1] at hF
      refine Exec.run tyOk 400 rfl ?_
      rcases cond_some hF with ⟨hb, hF⟩ | ⟨hb, hF⟩
      · skip
        refine Exec.ifT rfl hb ?_
        refine Exec.run tyOk 400 rfl ?_
        obtain ⟨q11, hF⟩ := req_some hF
        obtain ⟨c12, hr12, hd12⟩ := SlAt.get h10 q11
        obtain rfl := hr12
        refine Exec.ia tyOk rfl rfl ⟨q11.1, q11.2, hd12.some⟩ ?_
        refine Exec.run tyOk 400 rfl ?_
        refine Exec.ld tyOk (x := .agg ⟨[.int .i64 ((atI x1.Parts x7).Id), .string ⟨⟨(atI x1.Parts x7).From⟩⟩, .int .i64 ((atI x1.Parts x7).Node), .int .i64 ((atI x1.Parts x7).Dest), .string ⟨⟨(atI x1.Parts x7).Done⟩⟩]⟩) rfl rfl hd12 rfl rfl ?_
        refine Exec.run tyOk 400 rfl ?_
        refine Exec.draws tyOk [(0, true), (1, true), (2, true), (3, true), (4, true), (5, false), (6, false), (7, false), (8, true), (9, true), (10, true), (11, true), (12, false), (13, false), (14, false), (15, false), (16, false), (17, false), (18, false), (19, false)] rfl (by kernel_rfl) ?_
        refine Exec.run tyOk 400 rfl ?_
        obtain ⟨x13, hx13, hF⟩ := bnd_some hF
        refine Exec.callS (.bool (x13)) rfl rfl (fun gg0 => W_placement_bound ((atI x1.Parts x7).From)  (gcall_some hx13 (gd1_of gg0))) ?_
        refine Exec.run tyOk 400 rfl ?_
        obtain ⟨q14, hF⟩ := req_some hF
        obtain ⟨c15, hr15, hd15⟩ := SlAt.gget ((((!x13)) == false) && (((decide ((0 : Int) < x7))) == true)) h10 q14
        obtain rfl := hr15
        refine Exec.ia tyOk rfl rfl (fun gg0 gg1 => ⟨(q14 (gd2_of gg0 gg1)).1, (q14 (gd2_of gg0 gg1)).2, (hd15 (gd2_of gg0 gg1)).some⟩) ?_
        refine Exec.run tyOk 400 rfl ?_
        refine Exec.ld tyOk (x := .string ⟨⟨(cond ((((!x13)) == false) && (((decide ((0 : Int) < x7))) == true)) (atI x1.Parts ((IntKind.i64.wrap (x7 - (1 : Int))))) default).From⟩⟩) rfl rfl (fun gg0 gg1 => (RdAt.part (hd15 (gd2_of gg0 gg1)) 1 1 rfl)) rfl rfl ?_
        refine Exec.run tyOk 400 rfl ?_
        rcases cond_some hF with ⟨hb, hF⟩ | ⟨hb, hF⟩
        · skip
          refine Exec.ifT rfl hb ?_
          refine Exec.run tyOk 400 rfl ?_
          obtain rfl := some_inj hF
          exact Exec.ret tyOk rfl rfl rfl
        · skip
          refine Exec.ifF rfl hb ?_
          refine Exec.run tyOk 400 rfl ?_
          refine Exec.draws tyOk [(0, true), (1, true), (2, false), (3, false), (4, false), (5, false), (6, false), (7, false), (8, false), (9, false), (10, false), (11, true), (12, true), (13, false), (14, false), (15, false), (16, false), (17, false), (18, true), (19, true), (20, true), (21, true), (22, false), (23, false), (24, false), (25, false), (26, false)] rfl (by kernel_rfl) ?_
          refine Exec.run tyOk 400 rfl ?_
          obtain ⟨x16, hx16, hF⟩ := bnd_some hF
          refine Exec.callS (.bool (x16)) rfl rfl (W_placement_number ((atI x1.Parts x7).Id)  hx16) ?_
          refine Exec.run tyOk 400 rfl ?_
          obtain ⟨x17, hx17, hF⟩ := bnd_some hF
          refine Exec.callS (.bool (x17)) rfl rfl (fun gg0 => W_placement_node ((atI x1.Parts x7).Node)  (gcall_some hx17 (gd1_of gg0))) ?_
          refine Exec.run tyOk 400 rfl ?_
          obtain ⟨x18, hx18, hF⟩ := bnd_some hF
          refine Exec.callS (.bool (x18)) rfl rfl (fun gg0 => W_placement_validMove x1.Parts x7 h10 (gcall_some hx18 (gd1_of gg0))) ?_
          refine Exec.run tyOk 400 rfl ?_
          obtain ⟨q19, hF⟩ := req_some hF
          refine Exec.fgslv tyOk (c := cTPart) (g := (((((!x16) || (!x17)) || (!x18))) == false)) rfl rfl rfl (lo := (0 : Int)) (hi := x7) rfl rfl h10 (by simp) rfl (fun gg0 => gd1_of gg0) q19 (fun a20 k20 h20 => ?_)
          refine Exec.run tyOk 400 rfl ?_
          obtain ⟨x21, hx21, hF⟩ := bnd_some hF
          refine Exec.callS (.int .i64 (x21)) rfl rfl (fun gg0 => W_placement_find ((cond ((((((!x16) || (!x17)) || (!x18))) == false)) ((x1.Parts.take (x7).toNat).drop ((0 : Int)).toNat) ([] : List TPart))) ((atI x1.Parts x7).Id) h20 (gcall_some hx21 (gd1_of gg0))) ?_
          refine Exec.run tyOk 400 rfl ?_
          rcases cond_some hF with ⟨hb, hF⟩ | ⟨hb, hF⟩
          · skip
            refine Exec.ifT rfl hb ?_
            refine Exec.run tyOk 400 rfl ?_
            obtain rfl := some_inj hF
            exact Exec.ret tyOk rfl rfl rfl
          · skip
            refine Exec.ifF rfl hb ?_
            refine Exec.run tyOk 400 rfl ?_
            refine Exec.cut 1 [(1, .ptr 0 0), (34, .v (.slice a2 ((x1.Parts).length) (k2))), (35, .v (.int .i64 ((((x1.Parts).length : Nat) : Int)))), (36, .v (.int .i64 ((IntKind.i64.wrap (x7 + (1 : Int))))))] (M' := [.blk [.v (.int .i64 (x1.Version)), .v (.slice a2 ((x1.Parts).length) (k2))] 24]) rfl ⟨rfl, rfl, rfl, rfl, trivial⟩ rfl rfl rfl ?_
            exact Exec.round [(1, .ptr 0 0), (34, .v (.slice a2 ((x1.Parts).length) (k2))), (35, .v (.int .i64 ((((x1.Parts).length : Nat) : Int)))), (36, .v (.int .i64 ((IntKind.i64.wrap (x7 + (1 : Int))))))] ⟨rfl, rfl, rfl, rfl, trivial⟩ ⟨n8, Nat.lt_succ_self _, (IntKind.i64.wrap (x7 + (1 : Int))), rfl, rfl, h10, hF⟩
      · skip
        refine Exec.ifF rfl hb ?_
        refine Exec.run tyOk 400 rfl ?_
        refine Exec.cut 0 [] (M' := []) rfl trivial rfl rfl rfl ?_
        exact Exec.round [] trivial ⟨rfl, rfl, hF⟩

end Go.Proofs.YtcgmfmpfmfjmoaaGreat
