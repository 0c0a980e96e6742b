/-
  Functions of the program as their counterparts say them (printed by a program).
  Conditions: none.
-/
import Derived.Test.YtonijgmopcmldaaGreatHb
set_option linter.all false
namespace Go.Proofs.YtonijgmopcmldaaGreat

def F_clockworkref02_Fold (x1 : Int) : Option Int :=
  (cond (decide (x1 < (0 : Int))) (some (IntKind.u64.wrap ((IntKind.u64.wrap ((2 : Int) * (IntKind.u64.wrap (IntKind.i64.wrap ((0 : Int) - (IntKind.i64.wrap (x1 + (1 : Int)))))))) + (1 : Int)))) (some (IntKind.u64.wrap ((2 : Int) * (IntKind.u64.wrap x1)))))

set_option maxRecDepth 100000 in
theorem W_clockworkref02_Fold {V : View} (x1 : Int)   {r : Int} (hF : F_clockworkref02_Fold x1 = some r) :
    Spec Tryz.prog 143 [.int .i64 (x1)] V (fun _ v => v = .int .u64 (r)) := by
  unfold F_clockworkref02_Fold at hF
  refine Spec.enter (T := tyT) Tryz.func143 rfl (by kernel_rfl) rfl rfl rfl ?_
  refine Exec.run tyOk 400 rfl ?_
  rcases cond_some hF with ⟨hb, hF⟩ | ⟨hb, hF⟩
  · skip
    refine Exec.ifT rfl hb ?_
    refine Exec.run tyOk 400 rfl ?_
    obtain rfl := some_inj hF
    exact Exec.ret tyOk rfl rfl rfl
  · skip
    refine Exec.ifF rfl hb ?_
    refine Exec.run tyOk 400 rfl ?_
    obtain rfl := some_inj hF
    exact Exec.ret tyOk rfl rfl rfl

def F_state_Same (x1 : List TPair) (x3 : List TPair) : Option Bool :=
  (bnd (F_slices_Equal_api_Pair_api_Pair x1 x3) fun x5 => (some x5))

set_option maxRecDepth 100000 in
theorem W_state_Same {V : View} (x1 : List TPair) (x3 : List TPair) {a2 : Option Addr} {k2 : Nat} {a4 : Option Addr} {k4 : Nat} (h2 : SlAt cTPair V a2 k2 x1) (h4 : SlAt cTPair V a4 k4 x3) {r : Bool} (hF : F_state_Same x1 x3 = some r) :
    Spec Tryz.prog 45 [.slice a2 ((x1).length) (k2), .slice a4 ((x3).length) (k4)] V (fun _ v => v = .bool (r)) := by
  unfold F_state_Same at hF
  refine Spec.enter (T := tyT) Tryz.func45 rfl (by kernel_rfl) rfl rfl rfl ?_
  refine Exec.run tyOk 400 rfl ?_
  obtain ⟨x5, hx5, hF⟩ := bnd_some hF
  refine Exec.callS (.bool (x5)) rfl rfl (W_slices_Equal_api_Pair_api_Pair x1 x3 h2 h4 hx5) ?_
  refine Exec.run tyOk 400 rfl ?_
  obtain rfl := some_inj hF
  exact Exec.ret tyOk rfl rfl rfl

def F_checksum_FNV (x1 : Str) : Option Int :=
  (bnd (F_checksum_Extend ((14695981039346656037 : Int)) x1) fun x2 => (some x2))

set_option maxRecDepth 100000 in
theorem W_checksum_FNV {V : View} (x1 : Str)   {r : Int} (hF : F_checksum_FNV x1 = some r) :
    Spec Tryz.prog 55 [.string ⟨⟨x1⟩⟩] V (fun _ v => v = .int .u64 (r)) := by
  unfold F_checksum_FNV at hF
  refine Spec.enter (T := tyT) Tryz.func55 rfl (by kernel_rfl) rfl rfl rfl ?_
  refine Exec.run tyOk 400 rfl ?_
  obtain ⟨x2, hx2, hF⟩ := bnd_some hF
  refine Exec.callS (.int .u64 (x2)) rfl rfl (W_checksum_Extend ((14695981039346656037 : Int)) x1  hx2) ?_
  refine Exec.run tyOk 400 rfl ?_
  obtain rfl := some_inj hF
  exact Exec.ret tyOk rfl rfl rfl

def F_state_order (x1 : TPair) (x2 : TPair) : Option Int :=
  (bnd (F_strings_Compare x1.Key x2.Key) fun x3 => (some x3))

set_option maxRecDepth 100000 in
theorem W_state_order {V : View} (x1 : TPair) (x2 : TPair)   {r : Int} (hF : F_state_order x1 x2 = some r) :
    Spec Tryz.prog 68 [.agg ⟨[.string ⟨⟨x1.Key⟩⟩, .int .i64 (x1.Val.Kind), .int .i64 (x1.Val.N), .string ⟨⟨x1.Val.S⟩⟩]⟩, .agg ⟨[.string ⟨⟨x2.Key⟩⟩, .int .i64 (x2.Val.Kind), .int .i64 (x2.Val.N), .string ⟨⟨x2.Val.S⟩⟩]⟩] V (fun _ v => v = .int .i64 (r)) := by
  unfold F_state_order at hF
  refine Spec.enter (T := tyT) Tryz.func68 rfl (by kernel_rfl) rfl rfl rfl ?_
  refine Exec.run tyOk 400 rfl ?_
  obtain ⟨x3, hx3, hF⟩ := bnd_some hF
  refine Exec.callS (.int .i64 (x3)) rfl rfl (W_strings_Compare x1.Key x2.Key  hx3) ?_
  refine Exec.run tyOk 400 rfl ?_
  obtain rfl := some_inj hF
  exact Exec.ret tyOk rfl rfl rfl

def F_clockworkref03_FNV (x1 : Str) : Option Int :=
  (bnd (F_clockworkref03_Extend ((14695981039346656037 : Int)) x1) fun x2 => (some x2))

set_option maxRecDepth 100000 in
theorem W_clockworkref03_FNV {V : View} (x1 : Str)   {r : Int} (hF : F_clockworkref03_FNV x1 = some r) :
    Spec Tryz.prog 75 [.string ⟨⟨x1⟩⟩] V (fun _ v => v = .int .u64 (r)) := by
  unfold F_clockworkref03_FNV at hF
  refine Spec.enter (T := tyT) Tryz.func75 rfl (by kernel_rfl) rfl rfl rfl ?_
  refine Exec.run tyOk 400 rfl ?_
  obtain ⟨x2, hx2, hF⟩ := bnd_some hF
  refine Exec.callS (.int .u64 (x2)) rfl rfl (W_clockworkref03_Extend ((14695981039346656037 : Int)) x1  hx2) ?_
  refine Exec.run tyOk 400 rfl ?_
  obtain rfl := some_inj hF
  exact Exec.ret tyOk rfl rfl rfl

def F_keys_Valid (x1 : Str) : Option Bool :=
  (bnd (gcall (((x1 != ([] : Str))) == true) (F_keys_consists x1 (fun y0 => F_keys_Valid_1 y0 ))) fun x2 => (some ((x1 != ([] : Str)) && x2)))

set_option maxRecDepth 100000 in
theorem W_keys_Valid {V : View} (x1 : Str)   {r : Bool} (hF : F_keys_Valid x1 = some r) :
    Spec Tryz.prog 76 [.string ⟨⟨x1⟩⟩] V (fun _ v => v = .bool (r)) := by
  unfold F_keys_Valid at hF
  refine Spec.enter (T := tyT) Tryz.func76 rfl (by kernel_rfl) rfl rfl rfl ?_
  refine Exec.run tyOk 400 rfl ?_
  obtain ⟨x2, hx2, hF⟩ := bnd_some hF
  refine Exec.callS (.bool (x2)) rfl rfl (fun gg0 => W_keys_consists x1 (fun y0 => F_keys_Valid_1 y0 ) (fun V' hv y0 r hr => W_keys_Valid_1 y0   hr) (gcall_some hx2 (gd1_of gg0))) ?_
  refine Exec.run tyOk 400 rfl ?_
  obtain rfl := some_inj hF
  exact Exec.ret tyOk rfl rfl rfl

def F_mvstore_valueAt (x1 : TRow) (x3 : Int) : Option TValue :=
  (bnd (F_mvstore_seen x1 x3) fun x4 => (cond (x4 == (0 : Int)) (some (⟨0, 0, []⟩ : TValue)) (req (0 ≤ (IntKind.i64.wrap (x4 - (1 : Int))) ∧ (IntKind.i64.wrap (x4 - (1 : Int))) < ((x1.Vers).length : Int)) (some (atI x1.Vers ((IntKind.i64.wrap (x4 - (1 : Int))))).Val))))

set_option maxRecDepth 100000 in
theorem W_mvstore_valueAt {V : View} (x1 : TRow) (x3 : Int) {a2 : Option Addr} {k2 : Nat} (h2 : SlAt cTVersion V a2 k2 x1.Vers) {r : TValue} (hF : F_mvstore_valueAt x1 x3 = some r) :
    Spec Tryz.prog 81 [.agg ⟨[.string ⟨⟨x1.Key⟩⟩, .slice a2 ((x1.Vers).length) (k2)]⟩, .int .i64 (x3)] V (fun _ v => v = .agg ⟨[.int .i64 (r.Kind), .int .i64 (r.N), .string ⟨⟨r.S⟩⟩]⟩) := by
  unfold F_mvstore_valueAt at hF
  refine Spec.enter (T := tyT) Tryz.func81 rfl (by kernel_rfl) rfl rfl rfl ?_
  refine Exec.run tyOk 400 rfl ?_
  obtain ⟨x4, hx4, hF⟩ := bnd_some hF
  refine Exec.callS (.int .i64 (x4)) rfl rfl (W_mvstore_seen x1 x3 h2 hx4) ?_
  refine Exec.run tyOk 400 rfl ?_
  rcases cond_some hF with ⟨hb, hF⟩ | ⟨hb, hF⟩
  · skip
    refine Exec.ifT rfl hb ?_
    refine Exec.run tyOk 400 rfl ?_
    obtain rfl := some_inj hF
    exact Exec.ret tyOk rfl rfl rfl
  · skip
    refine Exec.ifF rfl hb ?_
    refine Exec.run tyOk 400 rfl ?_
    obtain ⟨q5, hF⟩ := req_some hF
    obtain ⟨c6, hr6, hd6⟩ := SlAt.get h2 q5
    obtain rfl := hr6
    refine Exec.ia tyOk rfl rfl ⟨q5.1, q5.2, hd6.some⟩ ?_
    refine Exec.run tyOk 400 rfl ?_
    refine Exec.ld tyOk (x := .agg ⟨[.int .i64 ((atI x1.Vers ((IntKind.i64.wrap (x4 - (1 : Int))))).Val.Kind), .int .i64 ((atI x1.Vers ((IntKind.i64.wrap (x4 - (1 : Int))))).Val.N), .string ⟨⟨(atI x1.Vers ((IntKind.i64.wrap (x4 - (1 : Int))))).Val.S⟩⟩]⟩) rfl rfl (RdAt.part hd6 1 3 rfl) rfl rfl ?_
    refine Exec.run tyOk 400 rfl ?_
    obtain rfl := some_inj hF
    exact Exec.ret tyOk rfl rfl rfl

def F_clockworkref05_Valid (x1 : TValue) : Option Bool :=
  (cond (x1.Kind == (0 : Int)) (some ((x1.N == (0 : Int)) && (x1.S == ([] : Str)))) (cond (x1.Kind == (1 : Int)) (some (x1.S == ([] : Str))) (bnd (gcall ((((x1.Kind == (2 : Int)) && (x1.N == (0 : Int)))) == true) (F_clockworkref05_Plain x1.S)) fun x2 => (some (((x1.Kind == (2 : Int)) && (x1.N == (0 : Int))) && x2)))))

set_option maxRecDepth 100000 in
theorem W_clockworkref05_Valid {V : View} (x1 : TValue)   {r : Bool} (hF : F_clockworkref05_Valid x1 = some r) :
    Spec Tryz.prog 84 [.agg ⟨[.int .i64 (x1.Kind), .int .i64 (x1.N), .string ⟨⟨x1.S⟩⟩]⟩] V (fun _ v => v = .bool (r)) := by
  unfold F_clockworkref05_Valid at hF
  refine Spec.enter (T := tyT) Tryz.func84 rfl (by kernel_rfl) rfl rfl rfl ?_
  refine Exec.run tyOk 400 rfl ?_
  rcases cond_some hF with ⟨hb, hF⟩ | ⟨hb, hF⟩
  · skip
    refine Exec.ifT rfl hb ?_
    refine Exec.run tyOk 400 rfl ?_
    obtain rfl := some_inj hF
    exact Exec.ret tyOk rfl rfl rfl
  · skip
    refine Exec.ifF rfl hb ?_
    refine Exec.run tyOk 400 rfl ?_
    rcases cond_some hF with ⟨hb, hF⟩ | ⟨hb, hF⟩
    · skip
      refine Exec.ifT rfl hb ?_
      refine Exec.run tyOk 400 rfl ?_
      obtain rfl := some_inj hF
      exact Exec.ret tyOk rfl rfl rfl
    · skip
      refine Exec.ifF rfl hb ?_
      refine Exec.run tyOk 400 rfl ?_
      obtain ⟨x2, hx2, hF⟩ := bnd_some hF
      refine Exec.callS (.bool (x2)) rfl rfl (fun gg0 => W_clockworkref05_Plain x1.S  (gcall_some hx2 (gd1_of gg0))) ?_
      refine Exec.run tyOk 400 rfl ?_
      obtain rfl := some_inj hF
      exact Exec.ret tyOk rfl rfl rfl

def F_clockworkref06_ascending_L1 (x1 : List TPair) (J3 : Option Bool) : Nat → Int → Option Bool
  | 0, _ => none
  | n6 + 1, x5 => (cond (decide (x5 < (((x1).length : Nat) : Int))) (req (0 ≤ x5 ∧ x5 < ((x1).length : Int)) (bnd (F_clockworkref04_Valid ((atI x1 x5).Key)) fun x11 => (req (((((decide ((0 : Int) < x5))) == true) && (((!x11)) == false)) = true → 0 ≤ x5 ∧ x5 < ((x1).length : Int)) (req (((((decide ((0 : Int) < x5))) == true) && (((!x11)) == false)) = true → 0 ≤ (IntKind.i64.wrap (x5 - (1 : Int))) ∧ (IntKind.i64.wrap (x5 - (1 : Int))) < ((x1).length : Int)) (cond ((!x11) || ((decide ((0 : Int) < x5)) && (!sLt (cond ((((decide ((0 : Int) < x5))) == true) && (((!x11)) == false)) (atI x1 ((IntKind.i64.wrap (x5 - (1 : Int))))) default).Key (cond ((((decide ((0 : Int) < x5))) == true) && (((!x11)) == false)) (atI x1 x5) default).Key))) (some false) (F_clockworkref06_ascending_L1 x1 J3 n6 ((IntKind.i64.wrap (x5 + (1 : Int)))))))))) J3)

def F_clockworkref06_ascending (x1 : List TPair) : Option Bool :=
  (jn ((some true)) (fun J3 => (F_clockworkref06_ascending_L1 x1 J3 (((((x1).length : Nat) : Int)).toNat + 1) ((0 : Int)))))

set_option maxRecDepth 100000 in
theorem W_clockworkref06_ascending {V : View} (x1 : List TPair) {a2 : Option Addr} {k2 : Nat} (h2 : SlAt cTPair V a2 k2 x1) {r : Bool} (hF : F_clockworkref06_ascending x1 = some r) :
    Spec Tryz.prog 85 [.slice a2 ((x1).length) (k2)] V (fun _ v => v = .bool (r)) := by
  unfold F_clockworkref06_ascending at hF
  refine Spec.enter (T := tyT) Tryz.func85 rfl (by kernel_rfl) rfl rfl rfl ?_
  refine Exec.run tyOk 9 rfl ?_
  obtain ⟨J3, hJ3, hF⟩ := jn_some hF
  refine Exec.seam (fun L' V' M' => L' = [] ∧ M' = [] ∧ J3 = some r) rfl ?_ ?_
  · rintro L' V4 M' ⟨rfl, rfl, hF⟩
    subst hJ3
    refine Exec.run tyOk 400 rfl ?_
    obtain rfl := some_inj hF
    exact Exec.ret tyOk rfl rfl rfl
  · skip
    refine Exec.run tyOk 400 rfl ?_
    refine Exec.loop (fun n6 L' V' M' => ∃ (x5 : Int), L' = [(0, .v (.slice a2 ((x1).length) (k2))), (3, .v (.int .i64 (x5)))] ∧ M' = [] ∧ SlAt cTPair V' a2 k2 x1 ∧ F_clockworkref06_ascending_L1 x1 J3 n6 x5 = some r) ⟨(((((x1).length : Nat) : Int)).toNat + 1), [(0, .v (.slice a2 ((x1).length) (k2))), (3, .v (.int .i64 ((0 : Int))))], ⟨rfl, rfl, trivial⟩, (0 : Int), rfl, rfl, h2, hF⟩ ?_
    rintro n6 L' V7 M' ⟨x5, rfl, rfl, h8, hF⟩
    rcases n6 with _ | n6
    · exact absurd hF (by simp [F_clockworkref06_ascending_L1])
    rw [F_clockworkref06_ascending_L1] at hF
    refine Exec.run tyOk 400 rfl ?_
    rcases cond_some hF with ⟨hb, hF⟩ | ⟨hb, hF⟩
    · skip
      refine Exec.ifT rfl hb ?_
      refine Exec.run tyOk 400 rfl ?_
      refine Exec.draws tyOk [(0, true), (1, true), (2, true), (3, true), (4, true), (5, false), (6, false), (7, false), (8, false), (9, false), (10, false), (11, true), (12, true), (13, true), (14, true), (15, true), (16, true), (17, false), (18, false), (19, false), (20, false), (21, false), (22, false), (23, false), (24, false)] rfl (by kernel_rfl) ?_
      refine Exec.run tyOk 400 rfl ?_
      obtain ⟨q9, hF⟩ := req_some hF
      obtain ⟨c10, hr10, hd10⟩ := SlAt.get h8 q9
      obtain rfl := hr10
      refine Exec.fia tyOk rfl rfl rfl ⟨q9.1, q9.2, hd10.some⟩ ?_
      refine Exec.run tyOk 400 rfl ?_
      refine Exec.fld tyOk (x := .string ⟨⟨(atI x1 x5).Key⟩⟩) rfl rfl rfl (RdAt.part hd10 0 1 rfl) rfl rfl ?_
      refine Exec.run tyOk 400 rfl ?_
      obtain ⟨x11, hx11, hF⟩ := bnd_some hF
      refine Exec.callS (.bool (x11)) rfl rfl (W_clockworkref04_Valid ((atI x1 x5).Key)  hx11) ?_
      refine Exec.run tyOk 400 rfl ?_
      obtain ⟨q12, hF⟩ := req_some hF
      obtain ⟨c13, hr13, hd13⟩ := SlAt.gget ((((decide ((0 : Int) < x5))) == true) && (((!x11)) == false)) h8 q12
      obtain rfl := hr13
      refine Exec.fia tyOk rfl rfl rfl (fun gg0 gg1 => ⟨(q12 (gd2_of gg0 gg1)).1, (q12 (gd2_of gg0 gg1)).2, (hd13 (gd2_of gg0 gg1)).some⟩) ?_
      refine Exec.run tyOk 400 rfl ?_
      refine Exec.fld tyOk (x := .string ⟨⟨(cond ((((decide ((0 : Int) < x5))) == true) && (((!x11)) == false)) (atI x1 x5) default).Key⟩⟩) rfl rfl rfl (fun gg0 gg1 => (RdAt.part (hd13 (gd2_of gg0 gg1)) 0 1 rfl)) rfl rfl ?_
      refine Exec.run tyOk 400 rfl ?_
      obtain ⟨q14, hF⟩ := req_some hF
      obtain ⟨c15, hr15, hd15⟩ := SlAt.gget ((((decide ((0 : Int) < x5))) == true) && (((!x11)) == false)) h8 q14
      obtain rfl := hr15
      refine Exec.ia tyOk rfl rfl (fun gg0 gg1 => ⟨(q14 (gd2_of gg0 gg1)).1, (q14 (gd2_of gg0 gg1)).2, (hd15 (gd2_of gg0 gg1)).some⟩) ?_
      refine Exec.run tyOk 400 rfl ?_
      refine Exec.ld tyOk (x := .string ⟨⟨(cond ((((decide ((0 : Int) < x5))) == true) && (((!x11)) == false)) (atI x1 ((IntKind.i64.wrap (x5 - (1 : Int))))) default).Key⟩⟩) rfl rfl (fun gg0 gg1 => (RdAt.part (hd15 (gd2_of gg0 gg1)) 0 1 rfl)) rfl rfl ?_
      refine Exec.run tyOk 400 rfl ?_
      rcases cond_some hF with ⟨hb, hF⟩ | ⟨hb, hF⟩
      · skip
        refine Exec.ifT rfl hb ?_
        refine Exec.run tyOk 400 rfl ?_
        obtain rfl := some_inj hF
        exact Exec.ret tyOk rfl rfl rfl
      · skip
        refine Exec.ifF rfl hb ?_
        refine Exec.run tyOk 400 rfl ?_
        exact Exec.round [(0, .v (.slice a2 ((x1).length) (k2))), (3, .v (.int .i64 ((IntKind.i64.wrap (x5 + (1 : Int))))))] ⟨rfl, rfl, trivial⟩ ⟨n6, Nat.lt_succ_self _, (IntKind.i64.wrap (x5 + (1 : Int))), rfl, rfl, h8, hF⟩
    · skip
      refine Exec.ifF rfl hb ?_
      refine Exec.run tyOk 400 rfl ?_
      exact Exec.round [] trivial ⟨rfl, rfl, hF⟩

def F_checksum_Mix (x1 : Int) (x2 : Int) : Option Int :=
  (bnd (F_checksum_little x1 ((8 : Int))) fun x3 => (bnd (F_checksum_FNV x3) fun x4 => (bnd (F_checksum_little x2 ((8 : Int))) fun x5 => (bnd (F_checksum_Extend x4 x5) fun x6 => (some x6)))))

set_option maxRecDepth 100000 in
theorem W_checksum_Mix {V : View} (x1 : Int) (x2 : Int)   {r : Int} (hF : F_checksum_Mix x1 x2 = some r) :
    Spec Tryz.prog 86 [.int .u64 (x1), .int .u64 (x2)] V (fun _ v => v = .int .u64 (r)) := by
  unfold F_checksum_Mix at hF
  refine Spec.enter (T := tyT) Tryz.func86 rfl (by kernel_rfl) rfl rfl rfl ?_
  refine Exec.run tyOk 400 rfl ?_
  obtain ⟨x3, hx3, hF⟩ := bnd_some hF
  refine Exec.callS (.string ⟨⟨x3⟩⟩) rfl rfl (W_checksum_little x1 ((8 : Int))  hx3) ?_
  refine Exec.run tyOk 400 rfl ?_
  obtain ⟨x4, hx4, hF⟩ := bnd_some hF
  refine Exec.callS (.int .u64 (x4)) rfl rfl (W_checksum_FNV x3  hx4) ?_
  refine Exec.run tyOk 400 rfl ?_
  obtain ⟨x5, hx5, hF⟩ := bnd_some hF
  refine Exec.callS (.string ⟨⟨x5⟩⟩) rfl rfl (W_checksum_little x2 ((8 : Int))  hx5) ?_
  refine Exec.run tyOk 400 rfl ?_
  obtain ⟨x6, hx6, hF⟩ := bnd_some hF
  refine Exec.callS (.int .u64 (x6)) rfl rfl (W_checksum_Extend x4 x5  hx6) ?_
  refine Exec.run tyOk 400 rfl ?_
  obtain rfl := some_inj hF
  exact Exec.ret tyOk rfl rfl rfl

def F_clockworkref22_stored (x1 : TValue) : Option Bool :=
  (bnd (F_clockworkref05_Valid x1) fun x2 => (some x2))

set_option maxRecDepth 100000 in
theorem W_clockworkref22_stored {V : View} (x1 : TValue)   {r : Bool} (hF : F_clockworkref22_stored x1 = some r) :
    Spec Tryz.prog 89 [.agg ⟨[.int .i64 (x1.Kind), .int .i64 (x1.N), .string ⟨⟨x1.S⟩⟩]⟩] V (fun _ v => v = .bool (r)) := by
  unfold F_clockworkref22_stored at hF
  refine Spec.enter (T := tyT) Tryz.func89 rfl (by kernel_rfl) rfl rfl rfl ?_
  refine Exec.run tyOk 400 rfl ?_
  obtain ⟨x2, hx2, hF⟩ := bnd_some hF
  refine Exec.callS (.bool (x2)) rfl rfl (W_clockworkref05_Valid x1  hx2) ?_
  refine Exec.run tyOk 400 rfl ?_
  obtain rfl := some_inj hF
  exact Exec.ret tyOk rfl rfl rfl

def F_clockworkref03_Mix (x1 : Int) (x2 : Int) : Option Int :=
  (bnd (F_clockworkref03_little x1 ((8 : Int))) fun x3 => (bnd (F_clockworkref03_Extend ((14695981039346656037 : Int)) x3) fun x4 => (bnd (F_clockworkref03_little x2 ((8 : Int))) fun x5 => (bnd (F_clockworkref03_Extend x4 x5) fun x6 => (some x6)))))

set_option maxRecDepth 100000 in
theorem W_clockworkref03_Mix {V : View} (x1 : Int) (x2 : Int)   {r : Int} (hF : F_clockworkref03_Mix x1 x2 = some r) :
    Spec Tryz.prog 90 [.int .u64 (x1), .int .u64 (x2)] V (fun _ v => v = .int .u64 (r)) := by
  unfold F_clockworkref03_Mix at hF
  refine Spec.enter (T := tyT) Tryz.func90 rfl (by kernel_rfl) rfl rfl rfl ?_
  refine Exec.run tyOk 400 rfl ?_
  obtain ⟨x3, hx3, hF⟩ := bnd_some hF
  refine Exec.callS (.string ⟨⟨x3⟩⟩) rfl rfl (W_clockworkref03_little x1 ((8 : Int))  hx3) ?_
  refine Exec.run tyOk 400 rfl ?_
  obtain ⟨x4, hx4, hF⟩ := bnd_some hF
  refine Exec.callS (.int .u64 (x4)) rfl rfl (W_clockworkref03_Extend ((14695981039346656037 : Int)) x3  hx4) ?_
  refine Exec.run tyOk 400 rfl ?_
  obtain ⟨x5, hx5, hF⟩ := bnd_some hF
  refine Exec.callS (.string ⟨⟨x5⟩⟩) rfl rfl (W_clockworkref03_little x2 ((8 : Int))  hx5) ?_
  refine Exec.run tyOk 400 rfl ?_
  obtain ⟨x6, hx6, hF⟩ := bnd_some hF
  refine Exec.callS (.int .u64 (x6)) rfl rfl (W_clockworkref03_Extend x4 x5  hx6) ?_
  refine Exec.run tyOk 400 rfl ?_
  obtain rfl := some_inj hF
  exact Exec.ret tyOk rfl rfl rfl

def F_slices_ContainsFunc_api_Pair_api_Pair (x1 : List TPair) (g4 : TPair → Option Bool) : Option Bool :=
  (bnd (F_slices_IndexFunc_api_Pair_api_Pair x1 g4) fun x5 => (some (decide ((0 : Int) ≤ x5))))

set_option maxRecDepth 100000 in
theorem W_slices_ContainsFunc_api_Pair_api_Pair {V : View} (x1 : List TPair) (g4 : TPair → Option Bool) {f4 : Nat} {ca4 : List Value} {a2 : Option Addr} {k2 : Nat} (h2 : SlAt cTPair V a2 k2 x1) (hg4 : FnSpec1 Tryz.prog f4 ca4 V (fun (y : TPair) => .agg ⟨[.string ⟨⟨y.Key⟩⟩, .int .i64 (y.Val.Kind), .int .i64 (y.Val.N), .string ⟨⟨y.Val.S⟩⟩]⟩) (fun (r : Bool) => .bool (r)) g4) {r : Bool} (hF : F_slices_ContainsFunc_api_Pair_api_Pair x1 g4 = some r) :
    Spec Tryz.prog 94 [.slice a2 ((x1).length) (k2), .func (.func f4) #[] ⟨ca4⟩] V (fun _ v => v = .bool (r)) := by
  unfold F_slices_ContainsFunc_api_Pair_api_Pair at hF
  refine Spec.enter (T := tyT) Tryz.func94 rfl (by kernel_rfl) rfl rfl rfl ?_
  refine Exec.run tyOk 400 rfl ?_
  obtain ⟨x5, hx5, hF⟩ := bnd_some hF
  refine Exec.callS (.int .i64 (x5)) rfl rfl (W_slices_IndexFunc_api_Pair_api_Pair x1 g4 h2 hg4 hx5) ?_
  refine Exec.run tyOk 400 rfl ?_
  obtain rfl := some_inj hF
  exact Exec.ret tyOk rfl rfl rfl

def F_value_Valid (x1 : TValue) : Option Bool :=
  (cond (x1.Kind == (0 : Int)) (some ((x1.Kind == 0) && ((x1.N == 0) && ((x1.S == []) && true)))) (cond (x1.Kind == (1 : Int)) (some (x1.S == ([] : Str))) (cond (x1.Kind == (2 : Int)) (bnd (gcall (((x1.N == (0 : Int))) == true) (F_value_plain x1.S)) fun x2 => (some ((x1.N == (0 : Int)) && x2))) (some false))))

set_option maxRecDepth 100000 in
theorem W_value_Valid {V : View} (x1 : TValue)   {r : Bool} (hF : F_value_Valid x1 = some r) :
    Spec Tryz.prog 112 [.agg ⟨[.int .i64 (x1.Kind), .int .i64 (x1.N), .string ⟨⟨x1.S⟩⟩]⟩] V (fun _ v => v = .bool (r)) := by
  unfold F_value_Valid at hF
  refine Spec.enter (T := tyT) Tryz.func112 rfl (by kernel_rfl) rfl rfl rfl ?_
  refine Exec.run tyOk 400 rfl ?_
  rcases cond_some hF with ⟨hb, hF⟩ | ⟨hb, hF⟩
  · skip
    refine Exec.ifT rfl hb ?_
    refine Exec.run tyOk 400 rfl ?_
    obtain rfl := some_inj hF
    exact Exec.ret tyOk rfl rfl rfl
  · skip
    refine Exec.ifF rfl hb ?_
    refine Exec.run tyOk 400 rfl ?_
    rcases cond_some hF with ⟨hb, hF⟩ | ⟨hb, hF⟩
    · skip
      refine Exec.ifT rfl hb ?_
      refine Exec.run tyOk 400 rfl ?_
      obtain rfl := some_inj hF
      exact Exec.ret tyOk rfl rfl rfl
    · skip
      refine Exec.ifF rfl hb ?_
      refine Exec.run tyOk 400 rfl ?_
      rcases cond_some hF with ⟨hb, hF⟩ | ⟨hb, hF⟩
      · skip
        refine Exec.ifT rfl hb ?_
        refine Exec.run tyOk 400 rfl ?_
        obtain ⟨x2, hx2, hF⟩ := bnd_some hF
        refine Exec.callS (.bool (x2)) rfl rfl (fun gg0 => W_value_plain x1.S  (gcall_some hx2 (gd1_of gg0))) ?_
        refine Exec.run tyOk 400 rfl ?_
        obtain rfl := some_inj hF
        exact Exec.ret tyOk rfl rfl rfl
      · skip
        refine Exec.ifF rfl hb ?_
        refine Exec.run tyOk 400 rfl ?_
        obtain rfl := some_inj hF
        exact Exec.ret tyOk rfl rfl rfl

def F_wire_Uint_L1 (J5 : Int → (List Int) → Option Str) : Nat → Int → (List Int) → Option Str
  | 0, _, _ => none
  | n14 + 1, x11, x12 => (cond (decide ((128 : Int) ≤ x11)) (bnd (F_wire_appended x12 ((bits .or .u8 (IntKind.u8.wrap x11) (128 : Int)))) fun x16 => (req (0 ≤ (7 : Int)) (F_wire_Uint_L1 J5 n14 ((shrI .u64 x11 (7 : Int))) x16))) (J5 x11 x12))

def F_wire_Uint (x1 : Int) : Option Str :=
  (jn (fun (x2 : Int) (x3 : List Int) => (bnd (F_wire_appended x3 ((IntKind.u8.wrap x2))) fun x7 => (some (bytesS x7)))) (fun J5 => (F_wire_Uint_L1 J5 ((x1).toNat + 2) x1 (([] : List Int)))))

set_option maxRecDepth 100000 in
theorem W_wire_Uint {V : View} (x1 : Int)   {r : Str} (hF : F_wire_Uint x1 = some r) :
    Spec Tryz.prog 117 [.int .u64 (x1)] V (fun _ v => v = .string ⟨⟨r⟩⟩) := by
  unfold F_wire_Uint at hF
  refine Spec.enter (T := tyT) Tryz.func117 rfl (by kernel_rfl) rfl rfl rfl ?_
  refine Exec.run tyOk 9 rfl ?_
  obtain ⟨J5, hJ5, hF⟩ := jn_some hF
  refine Exec.seam (fun L' V' M' => ∃ (x2 : Int) (x3 : List Int) (a4 : Option Addr) (k4 : Nat), L' = [(0, .v (.int .u64 (x2))), (3, .v (.slice a4 ((x3).length) (k4)))] ∧ M' = [] ∧ SlAt (cInt .u8) V' a4 k4 x3 ∧ J5 x2 x3 = some r) rfl ?_ ?_
  · rintro L' V6 M' ⟨x2, x3, a4, k4, rfl, rfl, h4, hF⟩
    subst hJ5
    refine Exec.run tyOk 400 rfl ?_
    obtain ⟨x7, hx7, hF⟩ := bnd_some hF
    refine Exec.call rfl rfl (W_wire_appended x3 ((IntKind.u8.wrap x2)) h4 hx7) ?_
    rintro V9 _ hv9 ⟨a8, k8, rfl, h8⟩
    have h10 := SlAt.mono h4 hv9
    refine Exec.run tyOk 400 rfl ?_
    refine Exec.b2sV tyOk rfl rfl rfl rfl rfl rfl rfl h8 (by simp) ?_
    refine Exec.run tyOk 400 rfl ?_
    obtain rfl := some_inj hF
    exact Exec.ret tyOk rfl rfl rfl
  · skip
    refine Exec.run tyOk 400 rfl ?_
    refine Exec.loop (fun n14 L' V' M' => ∃ (x11 : Int) (x12 : List Int) (a13 : Option Addr) (k13 : Nat), L' = [(0, .v (.int .u64 (x11))), (3, .v (.slice a13 ((x12).length) (k13)))] ∧ M' = [] ∧ SlAt (cInt .u8) V' a13 k13 x12 ∧ F_wire_Uint_L1 J5 n14 x11 x12 = some r) ⟨((x1).toNat + 2), [(0, .v (.int .u64 (x1))), (3, .v (.slice none (0) (0)))], ⟨rfl, rfl, trivial⟩, x1, ([] : List Int), none, 0, rfl, rfl, SlAt.nil, hF⟩ ?_
    rintro n14 L' V15 M' ⟨x11, x12, a13, k13, rfl, rfl, h13, hF⟩
    rcases n14 with _ | n14
    · exact absurd hF (by simp [F_wire_Uint_L1])
    rw [F_wire_Uint_L1] at hF
    refine Exec.run tyOk 400 rfl ?_
    rcases cond_some hF with ⟨hb, hF⟩ | ⟨hb, hF⟩
    · skip
      refine Exec.ifT rfl hb ?_
      refine Exec.run tyOk 400 rfl ?_
      obtain ⟨x16, hx16, hF⟩ := bnd_some hF
      refine Exec.call rfl rfl (W_wire_appended x12 ((bits .or .u8 (IntKind.u8.wrap x11) (128 : Int))) h13 hx16) ?_
      rintro V18 _ hv18 ⟨a17, k17, rfl, h17⟩
      have h19 := SlAt.mono h13 hv18
      refine Exec.run tyOk 400 rfl ?_
      obtain ⟨q20, hF⟩ := req_some hF
      refine Exec.ari rfl rfl q20 ?_
      refine Exec.run tyOk 400 rfl ?_
      exact Exec.round [(0, .v (.int .u64 ((shrI .u64 x11 (7 : Int))))), (3, .v (.slice a17 ((x16).length) (k17)))] ⟨rfl, rfl, trivial⟩ ⟨n14, Nat.lt_succ_self _, (shrI .u64 x11 (7 : Int)), x16, a17, k17, rfl, rfl, h17, hF⟩
    · skip
      refine Exec.ifF rfl hb ?_
      refine Exec.run tyOk 400 rfl ?_
      exact Exec.round [(0, .v (.int .u64 (x11))), (3, .v (.slice a13 ((x12).length) (k13)))] ⟨rfl, rfl, trivial⟩ ⟨x11, x12, a13, k13, rfl, rfl, h13, hF⟩

def F_wire_Int (x1 : Int) : Option Str :=
  (req (0 ≤ (1 : Int)) (req (0 ≤ (63 : Int)) (bnd (F_wire_Uint ((bits .xor .u64 (shlI .u64 (IntKind.u64.wrap x1) (1 : Int)) (IntKind.u64.wrap (shrI .i64 x1 (63 : Int)))))) fun x4 => (some x4))))

set_option maxRecDepth 100000 in
theorem W_wire_Int {V : View} (x1 : Int)   {r : Str} (hF : F_wire_Int x1 = some r) :
    Spec Tryz.prog 118 [.int .i64 (x1)] V (fun _ v => v = .string ⟨⟨r⟩⟩) := by
  unfold F_wire_Int at hF
  refine Spec.enter (T := tyT) Tryz.func118 rfl (by kernel_rfl) rfl rfl rfl ?_
  refine Exec.run tyOk 400 rfl ?_
  obtain ⟨q2, hF⟩ := req_some hF
  refine Exec.ari rfl rfl q2 ?_
  refine Exec.run tyOk 400 rfl ?_
  obtain ⟨q3, hF⟩ := req_some hF
  refine Exec.ari rfl rfl q3 ?_
  refine Exec.run tyOk 400 rfl ?_
  obtain ⟨x4, hx4, hF⟩ := bnd_some hF
  refine Exec.callS (.string ⟨⟨x4⟩⟩) rfl rfl (W_wire_Uint ((bits .xor .u64 (shlI .u64 (IntKind.u64.wrap x1) (1 : Int)) (IntKind.u64.wrap (shrI .i64 x1 (63 : Int)))))  hx4) ?_
  refine Exec.run tyOk 400 rfl ?_
  obtain rfl := some_inj hF
  exact Exec.ret tyOk rfl rfl rfl

def F_wire_Text (x1 : Str) : Option Str :=
  (bnd (F_wire_Uint ((IntKind.u64.wrap ((x1).length : Int)))) fun x2 => (req ((x2).length + (x1).length ≤ 9223372036854775807) (some (x2 ++ x1))))

set_option maxRecDepth 100000 in
theorem W_wire_Text {V : View} (x1 : Str)   {r : Str} (hF : F_wire_Text x1 = some r) :
    Spec Tryz.prog 119 [.string ⟨⟨x1⟩⟩] V (fun _ v => v = .string ⟨⟨r⟩⟩) := by
  unfold F_wire_Text at hF
  refine Spec.enter (T := tyT) Tryz.func119 rfl (by kernel_rfl) rfl rfl rfl ?_
  refine Exec.run tyOk 400 rfl ?_
  obtain ⟨x2, hx2, hF⟩ := bnd_some hF
  refine Exec.callS (.string ⟨⟨x2⟩⟩) rfl rfl (W_wire_Uint ((IntKind.u64.wrap ((x1).length : Int)))  hx2) ?_
  refine Exec.run tyOk 400 rfl ?_
  obtain ⟨q3, hF⟩ := req_some hF
  refine Exec.cat rfl rfl q3 ?_
  refine Exec.run tyOk 400 rfl ?_
  obtain rfl := some_inj hF
  exact Exec.ret tyOk rfl rfl rfl

def F_clockworkref02_Int (x1 : Int) : Option Str :=
  (bnd (F_clockworkref02_Fold x1) fun x2 => (bnd (F_clockworkref02_Uint x2) fun x3 => (some x3)))

set_option maxRecDepth 100000 in
theorem W_clockworkref02_Int {V : View} (x1 : Int)   {r : Str} (hF : F_clockworkref02_Int x1 = some r) :
    Spec Tryz.prog 122 [.int .i64 (x1)] V (fun _ v => v = .string ⟨⟨r⟩⟩) := by
  unfold F_clockworkref02_Int at hF
  refine Spec.enter (T := tyT) Tryz.func122 rfl (by kernel_rfl) rfl rfl rfl ?_
  refine Exec.run tyOk 400 rfl ?_
  obtain ⟨x2, hx2, hF⟩ := bnd_some hF
  refine Exec.callS (.int .u64 (x2)) rfl rfl (W_clockworkref02_Fold x1  hx2) ?_
  refine Exec.run tyOk 400 rfl ?_
  obtain ⟨x3, hx3, hF⟩ := bnd_some hF
  refine Exec.callS (.string ⟨⟨x3⟩⟩) rfl rfl (W_clockworkref02_Uint x2  hx3) ?_
  refine Exec.run tyOk 400 rfl ?_
  obtain rfl := some_inj hF
  exact Exec.ret tyOk rfl rfl rfl

def F_digest_Bucket (x1 : Str) : Option Int :=
  (bnd (F_checksum_FNV x1) fun x2 => (req ((64 : Int) ≠ 0) (some (IntKind.i64.wrap (remI x2 (64 : Int))))))

set_option maxRecDepth 100000 in
theorem W_digest_Bucket {V : View} (x1 : Str)   {r : Int} (hF : F_digest_Bucket x1 = some r) :
    Spec Tryz.prog 27 [.string ⟨⟨x1⟩⟩] V (fun _ v => v = .int .i64 (r)) := by
  unfold F_digest_Bucket at hF
  refine Spec.enter (T := tyT) Tryz.func27 rfl (by kernel_rfl) rfl rfl rfl ?_
  refine Exec.run tyOk 400 rfl ?_
  obtain ⟨x2, hx2, hF⟩ := bnd_some hF
  refine Exec.callS (.int .u64 (x2)) rfl rfl (W_checksum_FNV x1  hx2) ?_
  refine Exec.run tyOk 400 rfl ?_
  obtain ⟨q3, hF⟩ := req_some hF
  refine Exec.ari rfl rfl q3 ?_
  refine Exec.run tyOk 400 rfl ?_
  obtain rfl := some_inj hF
  exact Exec.ret tyOk rfl rfl rfl

def F_digest_Root_L1 (x1 : TTree) (J5 : Int → Option Int) : Nat → Int → Int → Option Int
  | 0, _, _ => none
  | n9 + 1, x7, x8 => (cond (decide (x8 < (((x1.Buckets).length : Nat) : Int))) (req (0 ≤ x8 ∧ x8 < ((x1.Buckets).length : Int)) (bnd (F_digest_little ((atI x1.Buckets x8))) fun x14 => (bnd (F_checksum_Extend x7 x14) fun x15 => (F_digest_Root_L1 x1 J5 n9 x15 ((IntKind.i64.wrap (x8 + (1 : Int)))))))) (J5 x7))

def F_digest_Root (x1 : TTree) : Option Int :=
  (bnd (F_checksum_FNV (([] : Str))) fun x3 => (jn (fun (x4 : Int) => (some x4)) (fun J5 => (F_digest_Root_L1 x1 J5 (((((x1.Buckets).length : Nat) : Int)).toNat + 1) x3 ((0 : Int))))))

set_option maxRecDepth 100000 in
theorem W_digest_Root {V : View} (x1 : TTree) {a2 : Option Addr} {k2 : Nat} (h2 : SlAt (cInt .u64) V a2 k2 x1.Buckets) {r : Int} (hF : F_digest_Root x1 = some r) :
    Spec Tryz.prog 34 [.agg ⟨[.slice a2 ((x1.Buckets).length) (k2), .int .u64 (x1.Root)]⟩] V (fun _ v => v = .int .u64 (r)) := by
  unfold F_digest_Root at hF
  refine Spec.enter (T := tyT) Tryz.func34 rfl (by kernel_rfl) rfl rfl rfl ?_
  refine Exec.run tyOk 400 rfl ?_
  obtain ⟨x3, hx3, hF⟩ := bnd_some hF
  refine Exec.callS (.int .u64 (x3)) rfl rfl (W_checksum_FNV (([] : Str))  hx3) ?_
  refine Exec.run tyOk 10 rfl ?_
  obtain ⟨J5, hJ5, hF⟩ := jn_some hF
  refine Exec.seam (fun L' V' M' => ∃ (x4 : Int), L' = [(3, .v (.int .u64 (x4)))] ∧ M' = [] ∧ J5 x4 = some r) rfl ?_ ?_
  · rintro L' V6 M' ⟨x4, rfl, rfl, hF⟩
    subst hJ5
    refine Exec.run tyOk 400 rfl ?_
    obtain rfl := some_inj hF
    exact Exec.ret tyOk rfl rfl rfl
  · skip
    refine Exec.run tyOk 400 rfl ?_
    refine Exec.cut 0 [(3, .v (.int .u64 (x3))), (8, .v (.slice a2 ((x1.Buckets).length) (k2))), (9, .v (.int .i64 ((((x1.Buckets).length : Nat) : Int)))), (10, .v (.int .i64 ((0 : Int))))] (M' := []) rfl ⟨rfl, rfl, rfl, rfl, trivial⟩ rfl rfl rfl ?_
    refine Exec.loop (fun n9 L' V' M' => ∃ (x7 : Int) (x8 : Int), L' = [(3, .v (.int .u64 (x7))), (8, .v (.slice a2 ((x1.Buckets).length) (k2))), (9, .v (.int .i64 ((((x1.Buckets).length : Nat) : Int)))), (10, .v (.int .i64 (x8)))] ∧ M' = [] ∧ SlAt (cInt .u64) V' a2 k2 x1.Buckets ∧ F_digest_Root_L1 x1 J5 n9 x7 x8 = some r) ⟨(((((x1.Buckets).length : Nat) : Int)).toNat + 1), [(3, .v (.int .u64 (x3))), (8, .v (.slice a2 ((x1.Buckets).length) (k2))), (9, .v (.int .i64 ((((x1.Buckets).length : Nat) : Int)))), (10, .v (.int .i64 ((0 : Int))))], ⟨rfl, rfl, rfl, rfl, trivial⟩, x3, (0 : Int), rfl, rfl, h2, hF⟩ ?_
    rintro n9 L' V10 M' ⟨x7, x8, rfl, rfl, h11, hF⟩
    rcases n9 with _ | n9
    · exact absurd hF (by simp [F_digest_Root_L1])
    rw [F_digest_Root_L1] at hF
    refine Exec.run tyOk 400 rfl ?_
    rcases cond_some hF with ⟨hb, hF⟩ | ⟨hb, hF⟩
    · skip
      refine Exec.ifT rfl hb ?_
      refine Exec.run tyOk 400 rfl ?_
      obtain ⟨q12, hF⟩ := req_some hF
      obtain ⟨c13, hr13, hd13⟩ := SlAt.get h11 q12
      obtain rfl := hr13
      refine Exec.ia tyOk rfl rfl ⟨q12.1, q12.2, hd13.some⟩ ?_
      refine Exec.run tyOk 400 rfl ?_
      refine Exec.ld tyOk (x := .int .u64 ((atI x1.Buckets x8))) rfl rfl hd13 rfl rfl ?_
      refine Exec.run tyOk 400 rfl ?_
      obtain ⟨x14, hx14, hF⟩ := bnd_some hF
      refine Exec.callS (.string ⟨⟨x14⟩⟩) rfl rfl (W_digest_little ((atI x1.Buckets x8))  hx14) ?_
      refine Exec.run tyOk 400 rfl ?_
      obtain ⟨x15, hx15, hF⟩ := bnd_some hF
      refine Exec.callS (.int .u64 (x15)) rfl rfl (W_checksum_Extend x7 x14  hx15) ?_
      refine Exec.run tyOk 400 rfl ?_
      exact Exec.round [(3, .v (.int .u64 (x15))), (8, .v (.slice a2 ((x1.Buckets).length) (k2))), (9, .v (.int .i64 ((((x1.Buckets).length : Nat) : Int)))), (10, .v (.int .i64 ((IntKind.i64.wrap (x8 + (1 : Int))))))] ⟨rfl, rfl, rfl, rfl, trivial⟩ ⟨n9, Nat.lt_succ_self _, x15, (IntKind.i64.wrap (x8 + (1 : Int))), rfl, rfl, h11, hF⟩
    · skip
      refine Exec.ifF rfl hb ?_
      refine Exec.run tyOk 400 rfl ?_
      exact Exec.round [(3, .v (.int .u64 (x7)))] ⟨rfl, trivial⟩ ⟨x7, rfl, rfl, hF⟩

end Go.Proofs.YtonijgmopcmldaaGreat
