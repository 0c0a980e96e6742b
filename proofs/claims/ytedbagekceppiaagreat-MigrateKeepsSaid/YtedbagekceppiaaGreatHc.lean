/-
  Functions of the program as their counterparts say them (printed by a program).
  Conditions: none.
-/
import Derived.Test.YtedbagekceppiaaGreatHb
set_option linter.all false
namespace Go.Proofs.YtedbagekceppiaaGreat

def F_slices_ContainsFunc_api_Pair_api_Pair (x1 : List TPair) (g4 : TPair → Option Bool) : Option Bool :=
  (bnd (F_slices_IndexFunc_api_Pair_api_Pair x1 g4) fun x5 => (some (decide ((0 : Int) ≤ x5))))

set_option maxRecDepth 100000 in
theorem W_slices_ContainsFunc_api_Pair_api_Pair {V : View} (x1 : List TPair) (g4 : TPair → Option Bool) {f4 : Nat} {ca4 : List Value} {a2 : Option Addr} {k2 : Nat} (h2 : SlAt cTPair V a2 k2 x1) (hg4 : FnSpec1 Tryz.prog f4 ca4 V (fun (y : TPair) => .agg ⟨[.string ⟨⟨y.Key⟩⟩, .int .i64 (y.Val.Kind), .int .i64 (y.Val.N), .string ⟨⟨y.Val.S⟩⟩]⟩) (fun (r : Bool) => .bool (r)) g4) {r : Bool} (hF : F_slices_ContainsFunc_api_Pair_api_Pair x1 g4 = some r) :
    Spec Tryz.prog 67 [.slice a2 ((x1).length) (k2), .func (.func f4) #[] ⟨ca4⟩] V (fun _ v => v = .bool (r)) := by
  unfold F_slices_ContainsFunc_api_Pair_api_Pair at hF
  refine Spec.enter (T := tyT) Tryz.func67 rfl (by kernel_rfl) rfl rfl rfl ?_
  refine Exec.run tyOk 400 rfl ?_
  obtain ⟨x5, hx5, hF⟩ := bnd_some hF
  refine Exec.callS (.int .i64 (x5)) rfl rfl (W_slices_IndexFunc_api_Pair_api_Pair x1 g4 h2 hg4 hx5) ?_
  refine Exec.run tyOk 400 rfl ?_
  obtain rfl := some_inj hF
  exact Exec.ret tyOk rfl rfl rfl

def F_keys_isBound (x1 : Str) : Option Bool :=
  (bnd (F_keys_consists x1 (fun y0 => F_keys_isBound_1 y0 )) fun x2 => (some x2))

set_option maxRecDepth 100000 in
theorem W_keys_isBound {V : View} (x1 : Str)   {r : Bool} (hF : F_keys_isBound x1 = some r) :
    Spec Tryz.prog 69 [.string ⟨⟨x1⟩⟩] V (fun _ v => v = .bool (r)) := by
  unfold F_keys_isBound at hF
  refine Spec.enter (T := tyT) Tryz.func69 rfl (by kernel_rfl) rfl rfl rfl ?_
  refine Exec.run tyOk 400 rfl ?_
  obtain ⟨x2, hx2, hF⟩ := bnd_some hF
  refine Exec.callS (.bool (x2)) rfl rfl (W_keys_consists x1 (fun y0 => F_keys_isBound_1 y0 ) (fun V' hv y0 r hr => W_keys_isBound_1 y0   hr) hx2) ?_
  refine Exec.run tyOk 400 rfl ?_
  obtain rfl := some_inj hF
  exact Exec.ret tyOk rfl rfl rfl

def F_state_order (x1 : TPair) (x2 : TPair) : Option Int :=
  (bnd (F_strings_Compare x1.Key x2.Key) fun x3 => (some x3))

set_option maxRecDepth 100000 in
theorem W_state_order {V : View} (x1 : TPair) (x2 : TPair)   {r : Int} (hF : F_state_order x1 x2 = some r) :
    Spec Tryz.prog 72 [.agg ⟨[.string ⟨⟨x1.Key⟩⟩, .int .i64 (x1.Val.Kind), .int .i64 (x1.Val.N), .string ⟨⟨x1.Val.S⟩⟩]⟩, .agg ⟨[.string ⟨⟨x2.Key⟩⟩, .int .i64 (x2.Val.Kind), .int .i64 (x2.Val.N), .string ⟨⟨x2.Val.S⟩⟩]⟩] V (fun _ v => v = .int .i64 (r)) := by
  unfold F_state_order at hF
  refine Spec.enter (T := tyT) Tryz.func72 rfl (by kernel_rfl) rfl rfl rfl ?_
  refine Exec.run tyOk 400 rfl ?_
  obtain ⟨x3, hx3, hF⟩ := bnd_some hF
  refine Exec.callS (.int .i64 (x3)) rfl rfl (W_strings_Compare x1.Key x2.Key  hx3) ?_
  refine Exec.run tyOk 400 rfl ?_
  obtain rfl := some_inj hF
  exact Exec.ret tyOk rfl rfl rfl

def F_clockworkref04_ValidRange (x1 : TRange) : Option Bool :=
  (bnd (F_clockworkref04_Bound x1.From) fun x2 => (bnd (gcall ((x2) == true) (F_clockworkref04_Bound x1.To)) fun x3 => (some ((x2 && x3) && ((x1.To == ([] : Str)) || (sLt x1.From x1.To))))))

set_option maxRecDepth 100000 in
theorem W_clockworkref04_ValidRange {V : View} (x1 : TRange)   {r : Bool} (hF : F_clockworkref04_ValidRange x1 = some r) :
    Spec Tryz.prog 77 [.agg ⟨[.string ⟨⟨x1.From⟩⟩, .string ⟨⟨x1.To⟩⟩]⟩] V (fun _ v => v = .bool (r)) := by
  unfold F_clockworkref04_ValidRange at hF
  refine Spec.enter (T := tyT) Tryz.func77 rfl (by kernel_rfl) rfl rfl rfl ?_
  refine Exec.run tyOk 400 rfl ?_
  obtain ⟨x2, hx2, hF⟩ := bnd_some hF
  refine Exec.callS (.bool (x2)) rfl rfl (W_clockworkref04_Bound x1.From  hx2) ?_
  refine Exec.run tyOk 400 rfl ?_
  obtain ⟨x3, hx3, hF⟩ := bnd_some hF
  refine Exec.callS (.bool (x3)) rfl rfl (fun gg0 => W_clockworkref04_Bound x1.To  (gcall_some hx3 (gd1_of gg0))) ?_
  refine Exec.run tyOk 400 rfl ?_
  obtain rfl := some_inj hF
  exact Exec.ret tyOk rfl rfl rfl

def F_clockworkref05_Valid (x1 : TValue) : Option Bool :=
  (cond (x1.Kind == (0 : Int)) (some ((x1.N == (0 : Int)) && (x1.S == ([] : Str)))) (cond (x1.Kind == (1 : Int)) (some (x1.S == ([] : Str))) (bnd (gcall ((((x1.Kind == (2 : Int)) && (x1.N == (0 : Int)))) == true) (F_clockworkref05_Plain x1.S)) fun x2 => (some (((x1.Kind == (2 : Int)) && (x1.N == (0 : Int))) && x2)))))

set_option maxRecDepth 100000 in
theorem W_clockworkref05_Valid {V : View} (x1 : TValue)   {r : Bool} (hF : F_clockworkref05_Valid x1 = some r) :
    Spec Tryz.prog 78 [.agg ⟨[.int .i64 (x1.Kind), .int .i64 (x1.N), .string ⟨⟨x1.S⟩⟩]⟩] V (fun _ v => v = .bool (r)) := by
  unfold F_clockworkref05_Valid at hF
  refine Spec.enter (T := tyT) Tryz.func78 rfl (by kernel_rfl) rfl rfl rfl ?_
  refine Exec.run tyOk 400 rfl ?_
  rcases cond_some hF with ⟨hb, hF⟩ | ⟨hb, hF⟩
  · skip
    refine Exec.ifT rfl hb ?_
    refine Exec.run tyOk 400 rfl ?_
    obtain rfl := some_inj hF
    exact Exec.ret tyOk rfl rfl rfl
  · skip
    refine Exec.ifF rfl hb ?_
    refine Exec.run tyOk 400 rfl ?_
    rcases cond_some hF with ⟨hb, hF⟩ | ⟨hb, hF⟩
    · skip
      refine Exec.ifT rfl hb ?_
      refine Exec.run tyOk 400 rfl ?_
      obtain rfl := some_inj hF
      exact Exec.ret tyOk rfl rfl rfl
    · skip
      refine Exec.ifF rfl hb ?_
      refine Exec.run tyOk 400 rfl ?_
      obtain ⟨x2, hx2, hF⟩ := bnd_some hF
      refine Exec.callS (.bool (x2)) rfl rfl (fun gg0 => W_clockworkref05_Plain x1.S  (gcall_some hx2 (gd1_of gg0))) ?_
      refine Exec.run tyOk 400 rfl ?_
      obtain rfl := some_inj hF
      exact Exec.ret tyOk rfl rfl rfl

def F_clockworkref06_ascending_L1 (x1 : List TPair) (J3 : Option Bool) : Nat → Int → Option Bool
  | 0, _ => none
  | n6 + 1, x5 => (cond (decide (x5 < (((x1).length : Nat) : Int))) (req (0 ≤ x5 ∧ x5 < ((x1).length : Int)) (bnd (F_clockworkref04_Valid ((atI x1 x5).Key)) fun x11 => (req (((((decide ((0 : Int) < x5))) == true) && (((!x11)) == false)) = true → 0 ≤ x5 ∧ x5 < ((x1).length : Int)) (req (((((decide ((0 : Int) < x5))) == true) && (((!x11)) == false)) = true → 0 ≤ (IntKind.i64.wrap (x5 - (1 : Int))) ∧ (IntKind.i64.wrap (x5 - (1 : Int))) < ((x1).length : Int)) (cond ((!x11) || ((decide ((0 : Int) < x5)) && (!sLt (cond ((((decide ((0 : Int) < x5))) == true) && (((!x11)) == false)) (atI x1 ((IntKind.i64.wrap (x5 - (1 : Int))))) default).Key (cond ((((decide ((0 : Int) < x5))) == true) && (((!x11)) == false)) (atI x1 x5) default).Key))) (some false) (F_clockworkref06_ascending_L1 x1 J3 n6 ((IntKind.i64.wrap (x5 + (1 : Int)))))))))) J3)

def F_clockworkref06_ascending (x1 : List TPair) : Option Bool :=
  (jn ((some true)) (fun J3 => (F_clockworkref06_ascending_L1 x1 J3 (((((x1).length : Nat) : Int)).toNat + 1) ((0 : Int)))))

set_option maxRecDepth 100000 in
theorem W_clockworkref06_ascending {V : View} (x1 : List TPair) {a2 : Option Addr} {k2 : Nat} (h2 : SlAt cTPair V a2 k2 x1) {r : Bool} (hF : F_clockworkref06_ascending x1 = some r) :
    Spec Tryz.prog 79 [.slice a2 ((x1).length) (k2)] V (fun _ v => v = .bool (r)) := by
  unfold F_clockworkref06_ascending at hF
  refine Spec.enter (T := tyT) Tryz.func79 rfl (by kernel_rfl) rfl rfl rfl ?_
  refine Exec.run tyOk 9 rfl ?_
  obtain ⟨J3, hJ3, hF⟩ := jn_some hF
  refine Exec.seam (fun L' V' M' => L' = [] ∧ M' = [] ∧ J3 = some r) rfl ?_ ?_
  · rintro L' V4 M' ⟨rfl, rfl, hF⟩
    subst hJ3
    refine Exec.run tyOk 400 rfl ?_
    obtain rfl := some_inj hF
    exact Exec.ret tyOk rfl rfl rfl
  · skip
    refine Exec.run tyOk 400 rfl ?_
    refine Exec.loop (fun n6 L' V' M' => ∃ (x5 : Int), L' = [(0, .v (.slice a2 ((x1).length) (k2))), (3, .v (.int .i64 (x5)))] ∧ M' = [] ∧ SlAt cTPair V' a2 k2 x1 ∧ F_clockworkref06_ascending_L1 x1 J3 n6 x5 = some r) ⟨(((((x1).length : Nat) : Int)).toNat + 1), [(0, .v (.slice a2 ((x1).length) (k2))), (3, .v (.int .i64 ((0 : Int))))], ⟨rfl, rfl, trivial⟩, (0 : Int), rfl, rfl, h2, hF⟩ ?_
    rintro n6 L' V7 M' ⟨x5, rfl, rfl, h8, hF⟩
    rcases n6 with _ | n6
    · exact absurd hF (by simp [F_clockworkref06_ascending_L1])
    rw [F_clockworkref06_ascending_L1] at hF
    refine Exec.run tyOk 400 rfl ?_
    rcases cond_some hF with ⟨hb, hF⟩ | ⟨hb, hF⟩
    · skip
      refine Exec.ifT rfl hb ?_
      refine Exec.run tyOk 400 rfl ?_
      refine Exec.draws tyOk [(0, true), (1, true), (2, true), (3, true), (4, true), (5, false), (6, false), (7, false), (8, false), (9, false), (10, false), (11, true), (12, true), (13, true), (14, true), (15, true), (16, true), (17, false), (18, false), (19, false), (20, false), (21, false), (22, false), (23, false), (24, false)] rfl (by kernel_rfl) ?_
      refine Exec.run tyOk 400 rfl ?_
      obtain ⟨q9, hF⟩ := req_some hF
      obtain ⟨c10, hr10, hd10⟩ := SlAt.get h8 q9
      obtain rfl := hr10
      refine Exec.fia tyOk rfl rfl rfl ⟨q9.1, q9.2, hd10.some⟩ ?_
      refine Exec.run tyOk 400 rfl ?_
      refine Exec.fld tyOk (x := .string ⟨⟨(atI x1 x5).Key⟩⟩) rfl rfl rfl (RdAt.part hd10 0 1 rfl) rfl rfl ?_
      refine Exec.run tyOk 400 rfl ?_
      obtain ⟨x11, hx11, hF⟩ := bnd_some hF
      refine Exec.callS (.bool (x11)) rfl rfl (W_clockworkref04_Valid ((atI x1 x5).Key)  hx11) ?_
      refine Exec.run tyOk 400 rfl ?_
      obtain ⟨q12, hF⟩ := req_some hF
      obtain ⟨c13, hr13, hd13⟩ := SlAt.gget ((((decide ((0 : Int) < x5))) == true) && (((!x11)) == false)) h8 q12
      obtain rfl := hr13
      refine Exec.fia tyOk rfl rfl rfl (fun gg0 gg1 => ⟨(q12 (gd2_of gg0 gg1)).1, (q12 (gd2_of gg0 gg1)).2, (hd13 (gd2_of gg0 gg1)).some⟩) ?_
      refine Exec.run tyOk 400 rfl ?_
      refine Exec.fld tyOk (x := .string ⟨⟨(cond ((((decide ((0 : Int) < x5))) == true) && (((!x11)) == false)) (atI x1 x5) default).Key⟩⟩) rfl rfl rfl (fun gg0 gg1 => (RdAt.part (hd13 (gd2_of gg0 gg1)) 0 1 rfl)) rfl rfl ?_
      refine Exec.run tyOk 400 rfl ?_
      obtain ⟨q14, hF⟩ := req_some hF
      obtain ⟨c15, hr15, hd15⟩ := SlAt.gget ((((decide ((0 : Int) < x5))) == true) && (((!x11)) == false)) h8 q14
      obtain rfl := hr15
      refine Exec.ia tyOk rfl rfl (fun gg0 gg1 => ⟨(q14 (gd2_of gg0 gg1)).1, (q14 (gd2_of gg0 gg1)).2, (hd15 (gd2_of gg0 gg1)).some⟩) ?_
      refine Exec.run tyOk 400 rfl ?_
      refine Exec.ld tyOk (x := .string ⟨⟨(cond ((((decide ((0 : Int) < x5))) == true) && (((!x11)) == false)) (atI x1 ((IntKind.i64.wrap (x5 - (1 : Int))))) default).Key⟩⟩) rfl rfl (fun gg0 gg1 => (RdAt.part (hd15 (gd2_of gg0 gg1)) 0 1 rfl)) rfl rfl ?_
      refine Exec.run tyOk 400 rfl ?_
      rcases cond_some hF with ⟨hb, hF⟩ | ⟨hb, hF⟩
      · skip
        refine Exec.ifT rfl hb ?_
        refine Exec.run tyOk 400 rfl ?_
        obtain rfl := some_inj hF
        exact Exec.ret tyOk rfl rfl rfl
      · skip
        refine Exec.ifF rfl hb ?_
        refine Exec.run tyOk 400 rfl ?_
        exact Exec.round [(0, .v (.slice a2 ((x1).length) (k2))), (3, .v (.int .i64 ((IntKind.i64.wrap (x5 + (1 : Int))))))] ⟨rfl, rfl, trivial⟩ ⟨n6, Nat.lt_succ_self _, (IntKind.i64.wrap (x5 + (1 : Int))), rfl, rfl, h8, hF⟩
    · skip
      refine Exec.ifF rfl hb ?_
      refine Exec.run tyOk 400 rfl ?_
      exact Exec.round [] trivial ⟨rfl, rfl, hF⟩

def F_keys_Valid (x1 : Str) : Option Bool :=
  (bnd (gcall (((x1 != ([] : Str))) == true) (F_keys_consists x1 (fun y0 => F_keys_Valid_1 y0 ))) fun x2 => (some ((x1 != ([] : Str)) && x2)))

set_option maxRecDepth 100000 in
theorem W_keys_Valid {V : View} (x1 : Str)   {r : Bool} (hF : F_keys_Valid x1 = some r) :
    Spec Tryz.prog 81 [.string ⟨⟨x1⟩⟩] V (fun _ v => v = .bool (r)) := by
  unfold F_keys_Valid at hF
  refine Spec.enter (T := tyT) Tryz.func81 rfl (by kernel_rfl) rfl rfl rfl ?_
  refine Exec.run tyOk 400 rfl ?_
  obtain ⟨x2, hx2, hF⟩ := bnd_some hF
  refine Exec.callS (.bool (x2)) rfl rfl (fun gg0 => W_keys_consists x1 (fun y0 => F_keys_Valid_1 y0 ) (fun V' hv y0 r hr => W_keys_Valid_1 y0   hr) (gcall_some hx2 (gd1_of gg0))) ?_
  refine Exec.run tyOk 400 rfl ?_
  obtain rfl := some_inj hF
  exact Exec.ret tyOk rfl rfl rfl

def F_value_Valid (x1 : TValue) : Option Bool :=
  (cond (x1.Kind == (0 : Int)) (some ((x1.Kind == 0) && ((x1.N == 0) && ((x1.S == []) && true)))) (cond (x1.Kind == (1 : Int)) (some (x1.S == ([] : Str))) (cond (x1.Kind == (2 : Int)) (bnd (gcall (((x1.N == (0 : Int))) == true) (F_value_plain x1.S)) fun x2 => (some ((x1.N == (0 : Int)) && x2))) (some false))))

set_option maxRecDepth 100000 in
theorem W_value_Valid {V : View} (x1 : TValue)   {r : Bool} (hF : F_value_Valid x1 = some r) :
    Spec Tryz.prog 82 [.agg ⟨[.int .i64 (x1.Kind), .int .i64 (x1.N), .string ⟨⟨x1.S⟩⟩]⟩] V (fun _ v => v = .bool (r)) := by
  unfold F_value_Valid at hF
  refine Spec.enter (T := tyT) Tryz.func82 rfl (by kernel_rfl) rfl rfl rfl ?_
  refine Exec.run tyOk 400 rfl ?_
  rcases cond_some hF with ⟨hb, hF⟩ | ⟨hb, hF⟩
  · skip
    refine Exec.ifT rfl hb ?_
    refine Exec.run tyOk 400 rfl ?_
    obtain rfl := some_inj hF
    exact Exec.ret tyOk rfl rfl rfl
  · skip
    refine Exec.ifF rfl hb ?_
    refine Exec.run tyOk 400 rfl ?_
    rcases cond_some hF with ⟨hb, hF⟩ | ⟨hb, hF⟩
    · skip
      refine Exec.ifT rfl hb ?_
      refine Exec.run tyOk 400 rfl ?_
      obtain rfl := some_inj hF
      exact Exec.ret tyOk rfl rfl rfl
    · skip
      refine Exec.ifF rfl hb ?_
      refine Exec.run tyOk 400 rfl ?_
      rcases cond_some hF with ⟨hb, hF⟩ | ⟨hb, hF⟩
      · skip
        refine Exec.ifT rfl hb ?_
        refine Exec.run tyOk 400 rfl ?_
        obtain ⟨x2, hx2, hF⟩ := bnd_some hF
        refine Exec.callS (.bool (x2)) rfl rfl (fun gg0 => W_value_plain x1.S  (gcall_some hx2 (gd1_of gg0))) ?_
        refine Exec.run tyOk 400 rfl ?_
        obtain rfl := some_inj hF
        exact Exec.ret tyOk rfl rfl rfl
      · skip
        refine Exec.ifF rfl hb ?_
        refine Exec.run tyOk 400 rfl ?_
        obtain rfl := some_inj hF
        exact Exec.ret tyOk rfl rfl rfl

def F_clockworkref29_Range (x1 : TPlacement) (x3 : Int) : Option (TRange × Int) :=
  (bnd (F_clockworkref29_Valid x1) fun x4 => (cond (!x4) (some ((⟨[], []⟩ : TRange), (1 : Int))) (bnd (F_clockworkref29_Find x1 x3) fun x5 => (cond (decide (x5 < (0 : Int))) (some ((⟨[], []⟩ : TRange), (9 : Int))) (req (0 ≤ x5 ∧ x5 < ((x1.Parts).length : Int)) (bnd (F_clockworkref29_end x1 x5) fun x8 => (some ((⟨(atI x1.Parts x5).From, x8⟩ : TRange), (0 : Int)))))))))

set_option maxRecDepth 100000 in
theorem W_clockworkref29_Range {V : View} (x1 : TPlacement) (x3 : Int) {a2 : Option Addr} {k2 : Nat} (h2 : SlAt cTPart V a2 k2 x1.Parts) {r : TRange × Int} (hF : F_clockworkref29_Range x1 x3 = some r) :
    Spec Tryz.prog 31 [.agg ⟨[.int .i64 (x1.Version), .slice a2 ((x1.Parts).length) (k2)]⟩, .int .i64 (x3)] V (fun _ v => v = .tuple ⟨[.agg ⟨[.string ⟨⟨r.1.From⟩⟩, .string ⟨⟨r.1.To⟩⟩]⟩, .int .i64 (r.2)]⟩) := by
  unfold F_clockworkref29_Range at hF
  refine Spec.enter (T := tyT) Tryz.func31 rfl (by kernel_rfl) rfl rfl rfl ?_
  refine Exec.run tyOk 400 rfl ?_
  obtain ⟨x4, hx4, hF⟩ := bnd_some hF
  refine Exec.callS (.bool (x4)) rfl rfl (W_clockworkref29_Valid x1 h2 hx4) ?_
  refine Exec.run tyOk 400 rfl ?_
  rcases cond_some hF with ⟨hb, hF⟩ | ⟨hb, hF⟩
  · skip
    refine Exec.ifT rfl hb ?_
    refine Exec.run tyOk 400 rfl ?_
    obtain rfl := some_inj hF
    exact Exec.ret tyOk rfl rfl rfl
  · skip
    refine Exec.ifF rfl hb ?_
    refine Exec.run tyOk 400 rfl ?_
    obtain ⟨x5, hx5, hF⟩ := bnd_some hF
    refine Exec.callS (.int .i64 (x5)) rfl rfl (W_clockworkref29_Find x1 x3 h2 hx5) ?_
    refine Exec.run tyOk 400 rfl ?_
    rcases cond_some hF with ⟨hb, hF⟩ | ⟨hb, hF⟩
    · skip
      refine Exec.ifT rfl hb ?_
      refine Exec.run tyOk 400 rfl ?_
      obtain rfl := some_inj hF
      exact Exec.ret tyOk rfl rfl rfl
    · skip
      refine Exec.ifF rfl hb ?_
      refine Exec.run tyOk 400 rfl ?_
      refine Exec.draws tyOk [(0, true), (1, true), (2, true), (3, true), (4, true), (5, true), (6, true), (7, true), (8, false), (9, false), (10, false), (11, false)] rfl (by kernel_rfl) ?_
      refine Exec.run tyOk 400 rfl ?_
      obtain ⟨q6, hF⟩ := req_some hF
      obtain ⟨c7, hr7, hd7⟩ := SlAt.get h2 q6
      obtain rfl := hr7
      refine Exec.fia tyOk rfl rfl rfl ⟨q6.1, q6.2, hd7.some⟩ ?_
      refine Exec.run tyOk 400 rfl ?_
      refine Exec.fld tyOk (x := .string ⟨⟨(atI x1.Parts x5).From⟩⟩) rfl rfl rfl (RdAt.part hd7 1 1 rfl) rfl rfl ?_
      refine Exec.run tyOk 400 rfl ?_
      obtain ⟨x8, hx8, hF⟩ := bnd_some hF
      refine Exec.callS (.string ⟨⟨x8⟩⟩) rfl rfl (W_clockworkref29_end x1 x5 h2 hx8) ?_
      refine Exec.run tyOk 400 rfl ?_
      obtain rfl := some_inj hF
      exact Exec.ret tyOk rfl rfl rfl

def F_placement_Valid_L1 (x1 : TPlacement) (J5 : Option Bool) : Nat → Int → Option Bool
  | 0, _ => none
  | n8 + 1, x7 => (cond (decide (x7 < (((x1.Parts).length : Nat) : Int))) (req (0 ≤ x7 ∧ x7 < ((x1.Parts).length : Int)) (bnd (gcall (((decide ((0 : Int) < x7))) == true) (F_placement_bound ((atI x1.Parts x7).From))) fun x13 => (req (((((!x13)) == false) && (((decide ((0 : Int) < x7))) == true)) = true → 0 ≤ (IntKind.i64.wrap (x7 - (1 : Int))) ∧ (IntKind.i64.wrap (x7 - (1 : Int))) < ((x1.Parts).length : Int)) (cond ((decide ((0 : Int) < x7)) && ((!x13) || (!sLt (cond ((((!x13)) == false) && (((decide ((0 : Int) < x7))) == true)) (atI x1.Parts ((IntKind.i64.wrap (x7 - (1 : Int))))) default).From (atI x1.Parts x7).From))) (some false) (bnd (F_placement_number ((atI x1.Parts x7).Id)) fun x16 => (bnd (gcall (((!x16)) == false) (F_placement_node ((atI x1.Parts x7).Node))) fun x17 => (bnd (gcall ((((!x16) || (!x17))) == false) (F_placement_validMove x1.Parts x7)) fun x18 => (req ((((((!x16) || (!x17)) || (!x18))) == false) = true → 0 ≤ (0 : Int) ∧ (0 : Int) ≤ x7 ∧ x7 ≤ ((x1.Parts).length : Int)) (bnd (gcall (((((!x16) || (!x17)) || (!x18))) == false) (F_placement_find ((cond ((((((!x16) || (!x17)) || (!x18))) == false)) ((x1.Parts.take (x7).toNat).drop ((0 : Int)).toNat) ([] : List TPart))) ((atI x1.Parts x7).Id))) fun x21 => (cond ((((!x16) || (!x17)) || (!x18)) || (decide ((0 : Int) ≤ x21))) (some false) (F_placement_Valid_L1 x1 J5 n8 ((IntKind.i64.wrap (x7 + (1 : Int))))))))))))))) J5)

def F_placement_Valid (x1 : TPlacement) : Option Bool :=
  (req (((((((decide (x1.Version < (0 : Int))) || (decide ((1099511627776 : Int) < x1.Version))) || (decide ((((x1.Parts).length : Nat) : Int) < (1 : Int)))) || (decide ((16 : Int) < (((x1.Parts).length : Nat) : Int))))) == false) = true → 0 ≤ (0 : Int) ∧ (0 : Int) < ((x1.Parts).length : Int)) (cond (((((decide (x1.Version < (0 : Int))) || (decide ((1099511627776 : Int) < x1.Version))) || (decide ((((x1.Parts).length : Nat) : Int) < (1 : Int)))) || (decide ((16 : Int) < (((x1.Parts).length : Nat) : Int)))) || ((cond ((((((decide (x1.Version < (0 : Int))) || (decide ((1099511627776 : Int) < x1.Version))) || (decide ((((x1.Parts).length : Nat) : Int) < (1 : Int)))) || (decide ((16 : Int) < (((x1.Parts).length : Nat) : Int))))) == false) (atI x1.Parts ((0 : Int))) default).From != ([] : Str))) (some false) (jn ((some true)) (fun J5 => (F_placement_Valid_L1 x1 J5 (((((x1.Parts).length : Nat) : Int)).toNat + 1) ((0 : Int)))))))

set_option maxRecDepth 100000 in
theorem W_placement_Valid {V : View} (x1 : TPlacement) {a2 : Option Addr} {k2 : Nat} (h2 : SlAt cTPart V a2 k2 x1.Parts) {r : Bool} (hF : F_placement_Valid x1 = some r) :
    Spec Tryz.prog 38 [.agg ⟨[.int .i64 (x1.Version), .slice a2 ((x1.Parts).length) (k2)]⟩] V (fun _ v => v = .bool (r)) := by
  unfold F_placement_Valid at hF
  refine Spec.enter (T := tyT) Tryz.func38 rfl (by kernel_rfl) rfl rfl rfl ?_
  refine Exec.run tyOk 400 rfl ?_
  obtain ⟨q3, hF⟩ := req_some hF
  obtain ⟨c4, hr4, hd4⟩ := SlAt.gget ((((((decide (x1.Version < (0 : Int))) || (decide ((1099511627776 : Int) < x1.Version))) || (decide ((((x1.Parts).length : Nat) : Int) < (1 : Int)))) || (decide ((16 : Int) < (((x1.Parts).length : Nat) : Int))))) == false) h2 q3
  obtain rfl := hr4
  refine Exec.ia tyOk rfl rfl (fun gg0 => ⟨(q3 (gd1_of gg0)).1, (q3 (gd1_of gg0)).2, (hd4 (gd1_of gg0)).some⟩) ?_
  refine Exec.run tyOk 400 rfl ?_
  refine Exec.ld tyOk (x := .string ⟨⟨(cond ((((((decide (x1.Version < (0 : Int))) || (decide ((1099511627776 : Int) < x1.Version))) || (decide ((((x1.Parts).length : Nat) : Int) < (1 : Int)))) || (decide ((16 : Int) < (((x1.Parts).length : Nat) : Int))))) == false) (atI x1.Parts ((0 : Int))) default).From⟩⟩) rfl rfl (fun gg0 => (RdAt.part (hd4 (gd1_of gg0)) 1 1 rfl)) rfl rfl ?_
  refine Exec.run tyOk 400 rfl ?_
  rcases cond_some hF with ⟨hb, hF⟩ | ⟨hb, hF⟩
  · skip
    refine Exec.ifT rfl hb ?_
    refine Exec.run tyOk 400 rfl ?_
    obtain rfl := some_inj hF
    exact Exec.ret tyOk rfl rfl rfl
  · skip
    refine Exec.ifF rfl hb ?_
    refine Exec.run tyOk 9 rfl ?_
    obtain ⟨J5, hJ5, hF⟩ := jn_some hF
    refine Exec.seam (fun L' V' M' => L' = [] ∧ M' = [] ∧ J5 = some r) rfl ?_ ?_
    · rintro L' V6 M' ⟨rfl, rfl, hF⟩
      subst hJ5
      refine Exec.run tyOk 400 rfl ?_
      obtain rfl := some_inj hF
      exact Exec.ret tyOk rfl rfl rfl
    · skip
      refine Exec.run tyOk 400 rfl ?_
      refine Exec.loop (fun n8 L' V' M' => ∃ (x7 : Int), L' = [(1, .ptr 0 0), (34, .v (.slice a2 ((x1.Parts).length) (k2))), (35, .v (.int .i64 ((((x1.Parts).length : Nat) : Int)))), (36, .v (.int .i64 (x7)))] ∧ M' = [.blk [.v (.int .i64 (x1.Version)), .v (.slice a2 ((x1.Parts).length) (k2))] 24] ∧ SlAt cTPart V' a2 k2 x1.Parts ∧ F_placement_Valid_L1 x1 J5 n8 x7 = some r) ⟨(((((x1.Parts).length : Nat) : Int)).toNat + 1), [(1, .ptr 0 0), (34, .v (.slice a2 ((x1.Parts).length) (k2))), (35, .v (.int .i64 ((((x1.Parts).length : Nat) : Int)))), (36, .v (.int .i64 ((0 : Int))))], ⟨rfl, rfl, rfl, rfl, trivial⟩, (0 : Int), rfl, rfl, h2, hF⟩ ?_
      rintro n8 L' V9 M' ⟨x7, rfl, rfl, h10, hF⟩
      rcases n8 with _ | n8
      · exact absurd hF (by simp [F_placement_Valid_L1])
      rw [F_placement_Valid_L1] at hF
      refine Exec.run tyOk 400 rfl ?_
      rcases cond_some hF with ⟨hb, hF⟩ | ⟨hb, hF⟩
      · skip
        refine Exec.ifT rfl hb ?_
        refine Exec.run tyOk 400 rfl ?_
        obtain ⟨q11, hF⟩ := req_some hF
        obtain ⟨c12, hr12, hd12⟩ := SlAt.get h10 q11
        obtain rfl := hr12
        refine Exec.ia tyOk rfl rfl ⟨q11.1, q11.2, hd12.some⟩ ?_
        refine Exec.run tyOk 400 rfl ?_
        refine Exec.ld tyOk (x := .agg ⟨[.int .i64 ((atI x1.Parts x7).Id), .string ⟨⟨(atI x1.Parts x7).From⟩⟩, .int .i64 ((atI x1.Parts x7).Node), .int .i64 ((atI x1.Parts x7).Dest), .string ⟨⟨(atI x1.Parts x7).Done⟩⟩]⟩) rfl rfl hd12 rfl rfl ?_
        refine Exec.run tyOk 400 rfl ?_
        refine Exec.draws tyOk [(0, true), (1, true), (2, true), (3, true), (4, true), (5, false), (6, false), (7, false), (8, true), (9, true), (10, true), (11, true), (12, false), (13, false), (14, false), (15, false), (16, false), (17, false), (18, false), (19, false)] rfl (by kernel_rfl) ?_
        refine Exec.run tyOk 400 rfl ?_
        obtain ⟨x13, hx13, hF⟩ := bnd_some hF
        refine Exec.callS (.bool (x13)) rfl rfl (fun gg0 => W_placement_bound ((atI x1.Parts x7).From)  (gcall_some hx13 (gd1_of gg0))) ?_
        refine Exec.run tyOk 400 rfl ?_
        obtain ⟨q14, hF⟩ := req_some hF
        obtain ⟨c15, hr15, hd15⟩ := SlAt.gget ((((!x13)) == false) && (((decide ((0 : Int) < x7))) == true)) h10 q14
        obtain rfl := hr15
        refine Exec.ia tyOk rfl rfl (fun gg0 gg1 => ⟨(q14 (gd2_of gg0 gg1)).1, (q14 (gd2_of gg0 gg1)).2, (hd15 (gd2_of gg0 gg1)).some⟩) ?_
        refine Exec.run tyOk 400 rfl ?_
        refine Exec.ld tyOk (x := .string ⟨⟨(cond ((((!x13)) == false) && (((decide ((0 : Int) < x7))) == true)) (atI x1.Parts ((IntKind.i64.wrap (x7 - (1 : Int))))) default).From⟩⟩) rfl rfl (fun gg0 gg1 => (RdAt.part (hd15 (gd2_of gg0 gg1)) 1 1 rfl)) rfl rfl ?_
        refine Exec.run tyOk 400 rfl ?_
        rcases cond_some hF with ⟨hb, hF⟩ | ⟨hb, hF⟩
        · skip
          refine Exec.ifT rfl hb ?_
          refine Exec.run tyOk 400 rfl ?_
          obtain rfl := some_inj hF
          exact Exec.ret tyOk rfl rfl rfl
        · skip
          refine Exec.ifF rfl hb ?_
          refine Exec.run tyOk 400 rfl ?_
          refine Exec.draws tyOk [(0, true), (1, true), (2, false), (3, false), (4, false), (5, false), (6, false), (7, false), (8, false), (9, false), (10, false), (11, true), (12, true), (13, false), (14, false), (15, false), (16, false), (17, false), (18, true), (19, true), (20, true), (21, true), (22, false), (23, false), (24, false), (25, false), (26, false)] rfl (by kernel_rfl) ?_
          refine Exec.run tyOk 400 rfl ?_
          obtain ⟨x16, hx16, hF⟩ := bnd_some hF
          refine Exec.callS (.bool (x16)) rfl rfl (W_placement_number ((atI x1.Parts x7).Id)  hx16) ?_
          refine Exec.run tyOk 400 rfl ?_
          obtain ⟨x17, hx17, hF⟩ := bnd_some hF
          refine Exec.callS (.bool (x17)) rfl rfl (fun gg0 => W_placement_node ((atI x1.Parts x7).Node)  (gcall_some hx17 (gd1_of gg0))) ?_
          refine Exec.run tyOk 400 rfl ?_
          obtain ⟨x18, hx18, hF⟩ := bnd_some hF
          refine Exec.callS (.bool (x18)) rfl rfl (fun gg0 => W_placement_validMove x1.Parts x7 h10 (gcall_some hx18 (gd1_of gg0))) ?_
          refine Exec.run tyOk 400 rfl ?_
          obtain ⟨q19, hF⟩ := req_some hF
          refine Exec.fgslv tyOk (c := cTPart) (g := (((((!x16) || (!x17)) || (!x18))) == false)) rfl rfl rfl (lo := (0 : Int)) (hi := x7) rfl rfl h10 (by simp) rfl (fun gg0 => gd1_of gg0) q19 (fun a20 k20 h20 => ?_)
          refine Exec.run tyOk 400 rfl ?_
          obtain ⟨x21, hx21, hF⟩ := bnd_some hF
          refine Exec.callS (.int .i64 (x21)) rfl rfl (fun gg0 => W_placement_find ((cond ((((((!x16) || (!x17)) || (!x18))) == false)) ((x1.Parts.take (x7).toNat).drop ((0 : Int)).toNat) ([] : List TPart))) ((atI x1.Parts x7).Id) h20 (gcall_some hx21 (gd1_of gg0))) ?_
          refine Exec.run tyOk 400 rfl ?_
          rcases cond_some hF with ⟨hb, hF⟩ | ⟨hb, hF⟩
          · skip
            refine Exec.ifT rfl hb ?_
            refine Exec.run tyOk 400 rfl ?_
            obtain rfl := some_inj hF
            exact Exec.ret tyOk rfl rfl rfl
          · skip
            refine Exec.ifF rfl hb ?_
            refine Exec.run tyOk 400 rfl ?_
            refine Exec.cut 1 [(1, .ptr 0 0), (34, .v (.slice a2 ((x1.Parts).length) (k2))), (35, .v (.int .i64 ((((x1.Parts).length : Nat) : Int)))), (36, .v (.int .i64 ((IntKind.i64.wrap (x7 + (1 : Int))))))] (M' := [.blk [.v (.int .i64 (x1.Version)), .v (.slice a2 ((x1.Parts).length) (k2))] 24]) rfl ⟨rfl, rfl, rfl, rfl, trivial⟩ rfl rfl rfl ?_
            exact Exec.round [(1, .ptr 0 0), (34, .v (.slice a2 ((x1.Parts).length) (k2))), (35, .v (.int .i64 ((((x1.Parts).length : Nat) : Int)))), (36, .v (.int .i64 ((IntKind.i64.wrap (x7 + (1 : Int))))))] ⟨rfl, rfl, rfl, rfl, trivial⟩ ⟨n8, Nat.lt_succ_self _, (IntKind.i64.wrap (x7 + (1 : Int))), rfl, rfl, h10, hF⟩
      · skip
        refine Exec.ifF rfl hb ?_
        refine Exec.run tyOk 400 rfl ?_
        refine Exec.cut 0 [] (M' := []) rfl trivial rfl rfl rfl ?_
        exact Exec.round [] trivial ⟨rfl, rfl, hF⟩

def F_clockworkref29_Owner (x1 : TPlacement) (x3 : Str) : Option Int :=
  (bnd (F_clockworkref29_Index x1 x3) fun x4 => (cond (decide (x4 < (0 : Int))) (some (0 : Int)) (req (0 ≤ x4 ∧ x4 < ((x1.Parts).length : Int)) (req (((((atI x1.Parts x4).Dest != (0 : Int))) == true) = true → 0 ≤ x4 ∧ x4 < ((x1.Parts).length : Int)) (cond (((atI x1.Parts x4).Dest != (0 : Int)) && (sLt x3 (cond ((((atI x1.Parts x4).Dest != (0 : Int))) == true) (atI x1.Parts x4) default).Done)) (req (0 ≤ x4 ∧ x4 < ((x1.Parts).length : Int)) (some (atI x1.Parts x4).Dest)) (req (0 ≤ x4 ∧ x4 < ((x1.Parts).length : Int)) (some (atI x1.Parts x4).Node)))))))

set_option maxRecDepth 100000 in
theorem W_clockworkref29_Owner {V : View} (x1 : TPlacement) (x3 : Str) {a2 : Option Addr} {k2 : Nat} (h2 : SlAt cTPart V a2 k2 x1.Parts) {r : Int} (hF : F_clockworkref29_Owner x1 x3 = some r) :
    Spec Tryz.prog 42 [.agg ⟨[.int .i64 (x1.Version), .slice a2 ((x1.Parts).length) (k2)]⟩, .string ⟨⟨x3⟩⟩] V (fun _ v => v = .int .i64 (r)) := by
  unfold F_clockworkref29_Owner at hF
  refine Spec.enter (T := tyT) Tryz.func42 rfl (by kernel_rfl) rfl rfl rfl ?_
  refine Exec.run tyOk 400 rfl ?_
  obtain ⟨x4, hx4, hF⟩ := bnd_some hF
  refine Exec.callS (.int .i64 (x4)) rfl rfl (W_clockworkref29_Index x1 x3 h2 hx4) ?_
  refine Exec.run tyOk 400 rfl ?_
  rcases cond_some hF with ⟨hb, hF⟩ | ⟨hb, hF⟩
  · skip
    refine Exec.ifT rfl hb ?_
    refine Exec.run tyOk 400 rfl ?_
    obtain rfl := some_inj hF
    exact Exec.ret tyOk rfl rfl rfl
  · skip
    refine Exec.ifF rfl hb ?_
    refine Exec.run tyOk 400 rfl ?_
    obtain ⟨q5, hF⟩ := req_some hF
    obtain ⟨c6, hr6, hd6⟩ := SlAt.get h2 q5
    obtain rfl := hr6
    refine Exec.ia tyOk rfl rfl ⟨q5.1, q5.2, hd6.some⟩ ?_
    refine Exec.run tyOk 400 rfl ?_
    refine Exec.ld tyOk (x := .int .i64 ((atI x1.Parts x4).Dest)) rfl rfl (RdAt.part hd6 3 1 rfl) rfl rfl ?_
    refine Exec.run tyOk 400 rfl ?_
    obtain ⟨q7, hF⟩ := req_some hF
    obtain ⟨c8, hr8, hd8⟩ := SlAt.gget ((((atI x1.Parts x4).Dest != (0 : Int))) == true) h2 q7
    obtain rfl := hr8
    refine Exec.ia tyOk rfl rfl (fun gg0 => ⟨(q7 (gd1_of gg0)).1, (q7 (gd1_of gg0)).2, (hd8 (gd1_of gg0)).some⟩) ?_
    refine Exec.run tyOk 400 rfl ?_
    refine Exec.ld tyOk (x := .string ⟨⟨(cond ((((atI x1.Parts x4).Dest != (0 : Int))) == true) (atI x1.Parts x4) default).Done⟩⟩) rfl rfl (fun gg0 => (RdAt.part (hd8 (gd1_of gg0)) 4 1 rfl)) rfl rfl ?_
    refine Exec.run tyOk 400 rfl ?_
    rcases cond_some hF with ⟨hb, hF⟩ | ⟨hb, hF⟩
    · skip
      refine Exec.ifT rfl hb ?_
      refine Exec.run tyOk 400 rfl ?_
      obtain ⟨q9, hF⟩ := req_some hF
      obtain ⟨c10, hr10, hd10⟩ := SlAt.get h2 q9
      obtain rfl := hr10
      refine Exec.ia tyOk rfl rfl ⟨q9.1, q9.2, hd10.some⟩ ?_
      refine Exec.run tyOk 400 rfl ?_
      refine Exec.ld tyOk (x := .int .i64 ((atI x1.Parts x4).Dest)) rfl rfl (RdAt.part hd10 3 1 rfl) rfl rfl ?_
      refine Exec.run tyOk 400 rfl ?_
      obtain rfl := some_inj hF
      exact Exec.ret tyOk rfl rfl rfl
    · skip
      refine Exec.ifF rfl hb ?_
      refine Exec.run tyOk 400 rfl ?_
      obtain ⟨q11, hF⟩ := req_some hF
      obtain ⟨c12, hr12, hd12⟩ := SlAt.get h2 q11
      obtain rfl := hr12
      refine Exec.ia tyOk rfl rfl ⟨q11.1, q11.2, hd12.some⟩ ?_
      refine Exec.run tyOk 400 rfl ?_
      refine Exec.ld tyOk (x := .int .i64 ((atI x1.Parts x4).Node)) rfl rfl (RdAt.part hd12 2 1 rfl) rfl rfl ?_
      refine Exec.run tyOk 400 rfl ?_
      obtain rfl := some_inj hF
      exact Exec.ret tyOk rfl rfl rfl

def F_keys_ValidRange (x1 : TRange) : Option Bool :=
  (bnd (F_keys_isBound x1.From) fun x2 => (bnd (gcall ((x2) == true) (F_keys_isBound x1.To)) fun x3 => (some ((x2 && x3) && ((x1.To == ([] : Str)) || (sLt x1.From x1.To))))))

set_option maxRecDepth 100000 in
theorem W_keys_ValidRange {V : View} (x1 : TRange)   {r : Bool} (hF : F_keys_ValidRange x1 = some r) :
    Spec Tryz.prog 45 [.agg ⟨[.string ⟨⟨x1.From⟩⟩, .string ⟨⟨x1.To⟩⟩]⟩] V (fun _ v => v = .bool (r)) := by
  unfold F_keys_ValidRange at hF
  refine Spec.enter (T := tyT) Tryz.func45 rfl (by kernel_rfl) rfl rfl rfl ?_
  refine Exec.run tyOk 400 rfl ?_
  obtain ⟨x2, hx2, hF⟩ := bnd_some hF
  refine Exec.callS (.bool (x2)) rfl rfl (W_keys_isBound x1.From  hx2) ?_
  refine Exec.run tyOk 400 rfl ?_
  obtain ⟨x3, hx3, hF⟩ := bnd_some hF
  refine Exec.callS (.bool (x3)) rfl rfl (fun gg0 => W_keys_isBound x1.To  (gcall_some hx3 (gd1_of gg0))) ?_
  refine Exec.run tyOk 400 rfl ?_
  obtain rfl := some_inj hF
  exact Exec.ret tyOk rfl rfl rfl

def F_keys_Contains (x1 : TRange) (x2 : Str) : Option Bool :=
  (bnd (F_keys_ValidRange x1) fun x3 => (some ((x3 && (!sLt x2 x1.From)) && ((x1.To == ([] : Str)) || (sLt x2 x1.To)))))

set_option maxRecDepth 100000 in
theorem W_keys_Contains {V : View} (x1 : TRange) (x2 : Str)   {r : Bool} (hF : F_keys_Contains x1 x2 = some r) :
    Spec Tryz.prog 46 [.agg ⟨[.string ⟨⟨x1.From⟩⟩, .string ⟨⟨x1.To⟩⟩]⟩, .string ⟨⟨x2⟩⟩] V (fun _ v => v = .bool (r)) := by
  unfold F_keys_Contains at hF
  refine Spec.enter (T := tyT) Tryz.func46 rfl (by kernel_rfl) rfl rfl rfl ?_
  refine Exec.run tyOk 400 rfl ?_
  obtain ⟨x3, hx3, hF⟩ := bnd_some hF
  refine Exec.callS (.bool (x3)) rfl rfl (W_keys_ValidRange x1  hx3) ?_
  refine Exec.run tyOk 400 rfl ?_
  obtain rfl := some_inj hF
  exact Exec.ret tyOk rfl rfl rfl

def F_clockworkref04_Contains (x1 : TRange) (x2 : Str) : Option Bool :=
  (bnd (F_clockworkref04_ValidRange x1) fun x3 => (some ((x3 && (!sLt x2 x1.From)) && ((x1.To == ([] : Str)) || (sLt x2 x1.To)))))

set_option maxRecDepth 100000 in
theorem W_clockworkref04_Contains {V : View} (x1 : TRange) (x2 : Str)   {r : Bool} (hF : F_clockworkref04_Contains x1 x2 = some r) :
    Spec Tryz.prog 53 [.agg ⟨[.string ⟨⟨x1.From⟩⟩, .string ⟨⟨x1.To⟩⟩]⟩, .string ⟨⟨x2⟩⟩] V (fun _ v => v = .bool (r)) := by
  unfold F_clockworkref04_Contains at hF
  refine Spec.enter (T := tyT) Tryz.func53 rfl (by kernel_rfl) rfl rfl rfl ?_
  refine Exec.run tyOk 400 rfl ?_
  obtain ⟨x3, hx3, hF⟩ := bnd_some hF
  refine Exec.callS (.bool (x3)) rfl rfl (W_clockworkref04_ValidRange x1  hx3) ?_
  refine Exec.run tyOk 400 rfl ?_
  obtain rfl := some_inj hF
  exact Exec.ret tyOk rfl rfl rfl

def F_clockworkref06_ValidWrites_L1 (x1 : List TPair) (J3 : Option Bool) : Nat → Int → Option Bool
  | 0, _ => none
  | n8 + 1, x7 => (cond (decide (x7 < (((x1).length : Nat) : Int))) (req (0 ≤ x7 ∧ x7 < ((x1).length : Int)) (bnd (F_clockworkref05_Valid ((atI x1 x7).Val)) fun x13 => (cond (!x13) (some false) (F_clockworkref06_ValidWrites_L1 x1 J3 n8 ((IntKind.i64.wrap (x7 + (1 : Int)))))))) J3)

def F_clockworkref06_ValidWrites (x1 : List TPair) : Option Bool :=
  (jn ((bnd (F_clockworkref06_ascending x1) fun x6 => (some x6))) (fun J3 => (F_clockworkref06_ValidWrites_L1 x1 J3 (((((x1).length : Nat) : Int)).toNat + 1) ((0 : Int)))))

set_option maxRecDepth 100000 in
theorem W_clockworkref06_ValidWrites {V : View} (x1 : List TPair) {a2 : Option Addr} {k2 : Nat} (h2 : SlAt cTPair V a2 k2 x1) {r : Bool} (hF : F_clockworkref06_ValidWrites x1 = some r) :
    Spec Tryz.prog 54 [.slice a2 ((x1).length) (k2)] V (fun _ v => v = .bool (r)) := by
  unfold F_clockworkref06_ValidWrites at hF
  refine Spec.enter (T := tyT) Tryz.func54 rfl (by kernel_rfl) rfl rfl rfl ?_
  refine Exec.run tyOk 9 rfl ?_
  obtain ⟨J3, hJ3, hF⟩ := jn_some hF
  refine Exec.seam (fun L' V' M' => L' = [(0, .v (.slice a2 ((x1).length) (k2)))] ∧ M' = [] ∧ SlAt cTPair V' a2 k2 x1 ∧ J3 = some r) rfl ?_ ?_
  · rintro L' V4 M' ⟨rfl, rfl, h5, hF⟩
    subst hJ3
    refine Exec.run tyOk 400 rfl ?_
    obtain ⟨x6, hx6, hF⟩ := bnd_some hF
    refine Exec.callS (.bool (x6)) rfl rfl (W_clockworkref06_ascending x1 h5 hx6) ?_
    refine Exec.run tyOk 400 rfl ?_
    obtain rfl := some_inj hF
    exact Exec.ret tyOk rfl rfl rfl
  · skip
    refine Exec.run tyOk 400 rfl ?_
    refine Exec.loop (fun n8 L' V' M' => ∃ (x7 : Int), L' = [(0, .v (.slice a2 ((x1).length) (k2))), (3, .v (.int .i64 (x7)))] ∧ M' = [] ∧ SlAt cTPair V' a2 k2 x1 ∧ F_clockworkref06_ValidWrites_L1 x1 J3 n8 x7 = some r) ⟨(((((x1).length : Nat) : Int)).toNat + 1), [(0, .v (.slice a2 ((x1).length) (k2))), (3, .v (.int .i64 ((0 : Int))))], ⟨rfl, rfl, trivial⟩, (0 : Int), rfl, rfl, h2, hF⟩ ?_
    rintro n8 L' V9 M' ⟨x7, rfl, rfl, h10, hF⟩
    rcases n8 with _ | n8
    · exact absurd hF (by simp [F_clockworkref06_ValidWrites_L1])
    rw [F_clockworkref06_ValidWrites_L1] at hF
    refine Exec.run tyOk 400 rfl ?_
    rcases cond_some hF with ⟨hb, hF⟩ | ⟨hb, hF⟩
    · skip
      refine Exec.ifT rfl hb ?_
      refine Exec.run tyOk 400 rfl ?_
      obtain ⟨q11, hF⟩ := req_some hF
      obtain ⟨c12, hr12, hd12⟩ := SlAt.get h10 q11
      obtain rfl := hr12
      refine Exec.ia tyOk rfl rfl ⟨q11.1, q11.2, hd12.some⟩ ?_
      refine Exec.run tyOk 400 rfl ?_
      refine Exec.ld tyOk (x := .agg ⟨[.int .i64 ((atI x1 x7).Val.Kind), .int .i64 ((atI x1 x7).Val.N), .string ⟨⟨(atI x1 x7).Val.S⟩⟩]⟩) rfl rfl (RdAt.part hd12 1 3 rfl) rfl rfl ?_
      refine Exec.run tyOk 400 rfl ?_
      obtain ⟨x13, hx13, hF⟩ := bnd_some hF
      refine Exec.callS (.bool (x13)) rfl rfl (W_clockworkref05_Valid ((atI x1 x7).Val)  hx13) ?_
      refine Exec.run tyOk 400 rfl ?_
      rcases cond_some hF with ⟨hb, hF⟩ | ⟨hb, hF⟩
      · skip
        refine Exec.ifT rfl hb ?_
        refine Exec.run tyOk 400 rfl ?_
        obtain rfl := some_inj hF
        exact Exec.ret tyOk rfl rfl rfl
      · skip
        refine Exec.ifF rfl hb ?_
        refine Exec.run tyOk 400 rfl ?_
        exact Exec.round [(0, .v (.slice a2 ((x1).length) (k2))), (3, .v (.int .i64 ((IntKind.i64.wrap (x7 + (1 : Int))))))] ⟨rfl, rfl, trivial⟩ ⟨n8, Nat.lt_succ_self _, (IntKind.i64.wrap (x7 + (1 : Int))), rfl, rfl, h10, hF⟩
    · skip
      refine Exec.ifF rfl hb ?_
      refine Exec.run tyOk 400 rfl ?_
      exact Exec.round [(0, .v (.slice a2 ((x1).length) (k2)))] ⟨rfl, trivial⟩ ⟨rfl, rfl, h10, hF⟩

def F_state_sorted_L1 (x1 : List TPair) (J3 : Option Bool) : Nat → Int → Option Bool
  | 0, _ => none
  | n6 + 1, x5 => (cond (decide (x5 < (((x1).length : Nat) : Int))) (req (0 ≤ x5 ∧ x5 < ((x1).length : Int)) (bnd (F_keys_Valid ((atI x1 x5).Key)) fun x11 => (bnd (gcall (((!x11)) == false) (F_value_Valid ((⟨(atI x1 x5).Val.Kind, (atI x1 x5).Val.N, (atI x1 x5).Val.S⟩ : TValue)))) fun x12 => (req (((((decide ((0 : Int) < x5))) == true) && ((((!x11) || (!x12))) == false)) = true → 0 ≤ (IntKind.i64.wrap (x5 - (1 : Int))) ∧ (IntKind.i64.wrap (x5 - (1 : Int))) < ((x1).length : Int)) (cond (((!x11) || (!x12)) || ((decide ((0 : Int) < x5)) && (!sLt (cond ((((decide ((0 : Int) < x5))) == true) && ((((!x11) || (!x12))) == false)) (atI x1 ((IntKind.i64.wrap (x5 - (1 : Int))))) default).Key (atI x1 x5).Key))) (some false) (F_state_sorted_L1 x1 J3 n6 ((IntKind.i64.wrap (x5 + (1 : Int)))))))))) J3)

def F_state_sorted (x1 : List TPair) : Option Bool :=
  (jn ((some true)) (fun J3 => (F_state_sorted_L1 x1 J3 (((((x1).length : Nat) : Int)).toNat + 1) ((0 : Int)))))

set_option maxRecDepth 100000 in
theorem W_state_sorted {V : View} (x1 : List TPair) {a2 : Option Addr} {k2 : Nat} (h2 : SlAt cTPair V a2 k2 x1) {r : Bool} (hF : F_state_sorted x1 = some r) :
    Spec Tryz.prog 66 [.slice a2 ((x1).length) (k2)] V (fun _ v => v = .bool (r)) := by
  unfold F_state_sorted at hF
  refine Spec.enter (T := tyT) Tryz.func66 rfl (by kernel_rfl) rfl rfl rfl ?_
  refine Exec.run tyOk 11 rfl ?_
  obtain ⟨J3, hJ3, hF⟩ := jn_some hF
  refine Exec.seam (fun L' V' M' => L' = [] ∧ M' = [] ∧ J3 = some r) rfl ?_ ?_
  · rintro L' V4 M' ⟨rfl, rfl, hF⟩
    subst hJ3
    refine Exec.run tyOk 400 rfl ?_
    obtain rfl := some_inj hF
    exact Exec.ret tyOk rfl rfl rfl
  · skip
    refine Exec.run tyOk 400 rfl ?_
    refine Exec.loop (fun n6 L' V' M' => ∃ (x5 : Int), L' = [(0, .v (.slice a2 ((x1).length) (k2))), (5, .v (.slice a2 ((x1).length) (k2))), (6, .v (.int .i64 ((((x1).length : Nat) : Int)))), (7, .v (.int .i64 (x5)))] ∧ M' = [] ∧ SlAt cTPair V' a2 k2 x1 ∧ F_state_sorted_L1 x1 J3 n6 x5 = some r) ⟨(((((x1).length : Nat) : Int)).toNat + 1), [(0, .v (.slice a2 ((x1).length) (k2))), (5, .v (.slice a2 ((x1).length) (k2))), (6, .v (.int .i64 ((((x1).length : Nat) : Int)))), (7, .v (.int .i64 ((0 : Int))))], ⟨rfl, rfl, rfl, rfl, trivial⟩, (0 : Int), rfl, rfl, h2, hF⟩ ?_
    rintro n6 L' V7 M' ⟨x5, rfl, rfl, h8, hF⟩
    rcases n6 with _ | n6
    · exact absurd hF (by simp [F_state_sorted_L1])
    rw [F_state_sorted_L1] at hF
    refine Exec.run tyOk 400 rfl ?_
    rcases cond_some hF with ⟨hb, hF⟩ | ⟨hb, hF⟩
    · skip
      refine Exec.ifT rfl hb ?_
      refine Exec.run tyOk 400 rfl ?_
      obtain ⟨q9, hF⟩ := req_some hF
      obtain ⟨c10, hr10, hd10⟩ := SlAt.get h8 q9
      obtain rfl := hr10
      refine Exec.ia tyOk rfl rfl ⟨q9.1, q9.2, hd10.some⟩ ?_
      refine Exec.run tyOk 400 rfl ?_
      refine Exec.ld tyOk (x := .agg ⟨[.string ⟨⟨(atI x1 x5).Key⟩⟩, .int .i64 ((atI x1 x5).Val.Kind), .int .i64 ((atI x1 x5).Val.N), .string ⟨⟨(atI x1 x5).Val.S⟩⟩]⟩) rfl rfl hd10 rfl rfl ?_
      refine Exec.run tyOk 400 rfl ?_
      refine Exec.draws tyOk [(0, true), (1, true), (2, false), (3, false), (4, false), (5, false), (6, false), (7, false), (8, false), (9, false), (10, false), (11, false), (12, false), (13, false), (14, true), (15, true), (16, true), (17, true), (18, true), (19, true), (20, false), (21, false), (22, false), (23, false), (24, false)] rfl (by kernel_rfl) ?_
      refine Exec.run tyOk 400 rfl ?_
      obtain ⟨x11, hx11, hF⟩ := bnd_some hF
      refine Exec.callS (.bool (x11)) rfl rfl (W_keys_Valid ((atI x1 x5).Key)  hx11) ?_
      refine Exec.run tyOk 400 rfl ?_
      obtain ⟨x12, hx12, hF⟩ := bnd_some hF
      refine Exec.callS (.bool (x12)) rfl rfl (fun gg0 => W_value_Valid ((⟨(atI x1 x5).Val.Kind, (atI x1 x5).Val.N, (atI x1 x5).Val.S⟩ : TValue))  (gcall_some hx12 (gd1_of gg0))) ?_
      refine Exec.run tyOk 400 rfl ?_
      obtain ⟨q13, hF⟩ := req_some hF
      obtain ⟨c14, hr14, hd14⟩ := SlAt.gget ((((decide ((0 : Int) < x5))) == true) && ((((!x11) || (!x12))) == false)) h8 q13
      obtain rfl := hr14
      refine Exec.fia tyOk rfl rfl rfl (fun gg0 gg1 => ⟨(q13 (gd2_of gg0 gg1)).1, (q13 (gd2_of gg0 gg1)).2, (hd14 (gd2_of gg0 gg1)).some⟩) ?_
      refine Exec.run tyOk 400 rfl ?_
      refine Exec.fld tyOk (x := .string ⟨⟨(cond ((((decide ((0 : Int) < x5))) == true) && ((((!x11) || (!x12))) == false)) (atI x1 ((IntKind.i64.wrap (x5 - (1 : Int))))) default).Key⟩⟩) rfl rfl rfl (fun gg0 gg1 => (RdAt.part (hd14 (gd2_of gg0 gg1)) 0 1 rfl)) rfl rfl ?_
      refine Exec.run tyOk 400 rfl ?_
      rcases cond_some hF with ⟨hb, hF⟩ | ⟨hb, hF⟩
      · skip
        refine Exec.ifT rfl hb ?_
        refine Exec.run tyOk 400 rfl ?_
        obtain rfl := some_inj hF
        exact Exec.ret tyOk rfl rfl rfl
      · skip
        refine Exec.ifF rfl hb ?_
        refine Exec.run tyOk 400 rfl ?_
        refine Exec.cut 0 [(0, .v (.slice a2 ((x1).length) (k2))), (5, .v (.slice a2 ((x1).length) (k2))), (6, .v (.int .i64 ((((x1).length : Nat) : Int)))), (7, .v (.int .i64 ((IntKind.i64.wrap (x5 + (1 : Int))))))] (M' := []) rfl ⟨rfl, rfl, rfl, rfl, trivial⟩ rfl rfl rfl ?_
        exact Exec.round [(0, .v (.slice a2 ((x1).length) (k2))), (5, .v (.slice a2 ((x1).length) (k2))), (6, .v (.int .i64 ((((x1).length : Nat) : Int)))), (7, .v (.int .i64 ((IntKind.i64.wrap (x5 + (1 : Int))))))] ⟨rfl, rfl, rfl, rfl, trivial⟩ ⟨n6, Nat.lt_succ_self _, (IntKind.i64.wrap (x5 + (1 : Int))), rfl, rfl, h8, hF⟩
    · skip
      refine Exec.ifF rfl hb ?_
      refine Exec.run tyOk 400 rfl ?_
      exact Exec.round [] trivial ⟨rfl, rfl, hF⟩

def F_placement_Nodes_L1 (x1 : TPlacement) (J7 : (List Int) → Option (List Int)) : Nat → (List Int) → Int → Option (List Int)
  | 0, _, _ => none
  | n18 + 1, x16, x17 => (cond (decide (x17 < (((x1.Parts).length : Nat) : Int))) (req (0 ≤ x17 ∧ x17 < ((x1.Parts).length : Int)) (req (((x16 ++ [(atI x1.Parts x17).Node])).length * 8 ≤ 140737488355328) (jn (fun (x26 : List Int) => (F_placement_Nodes_L1 x1 J7 n18 x26 ((IntKind.i64.wrap (x17 + (1 : Int)))))) (fun J27 => (cond ((atI x1.Parts x17).Dest != (0 : Int)) (req ((((x16 ++ [(atI x1.Parts x17).Node]) ++ [(atI x1.Parts x17).Dest])).length * 8 ≤ 140737488355328) (J27 (((x16 ++ [(atI x1.Parts x17).Node]) ++ [(atI x1.Parts x17).Dest])))) (J27 ((x16 ++ [(atI x1.Parts x17).Node])))))))) (J7 x16))

def F_placement_Nodes (x1 : TPlacement) : Option (List Int) :=
  (bnd (F_placement_Valid x1) fun x3 => (cond (!x3) (some ([] : List Int)) (jn (fun (x6 : List Int) => (req ((x6).length < 4611686018427387904) (some (compactL (sortL x6))))) (fun J7 => (F_placement_Nodes_L1 x1 J7 (((((x1.Parts).length : Nat) : Int)).toNat + 1) (([] : List Int)) ((0 : Int)))))))

set_option maxRecDepth 100000 in
theorem W_placement_Nodes {V : View} (x1 : TPlacement) {a2 : Option Addr} {k2 : Nat} (h2 : SlAt cTPart V a2 k2 x1.Parts) {r : List Int} (hF : F_placement_Nodes x1 = some r) :
    Spec Tryz.prog 74 [.agg ⟨[.int .i64 (x1.Version), .slice a2 ((x1.Parts).length) (k2)]⟩] V (fun V' v => ∃ (a32 : Option Addr) (k32 : Nat), v = .slice a32 ((r).length) (k32) ∧ SlAt (cInt .i64) V' a32 k32 r) := by
  unfold F_placement_Nodes at hF
  refine Spec.enter (T := tyT) Tryz.func74 rfl (by kernel_rfl) rfl rfl rfl ?_
  refine Exec.run tyOk 400 rfl ?_
  obtain ⟨x3, hx3, hF⟩ := bnd_some hF
  refine Exec.callS (.bool (x3)) rfl rfl (W_placement_Valid x1 h2 hx3) ?_
  refine Exec.run tyOk 400 rfl ?_
  rcases cond_some hF with ⟨hb, hF⟩ | ⟨hb, hF⟩
  · skip
    refine Exec.ifT rfl hb ?_
    refine Exec.run tyOk 400 rfl ?_
    obtain rfl := some_inj hF
    exact Exec.ret tyOk rfl rfl ⟨_, _, rfl, SlAt.nil⟩
  · skip
    refine Exec.ifF rfl hb ?_
    refine Exec.run tyOk 13 rfl ?_
    refine Exec.row0 3 1 rfl ?_
    have h4 : RowRep (cInt .i64) V ([] : List Int) [] := RowRep.nil
    obtain ⟨J7, hJ7, hF⟩ := jn_some hF
    refine Exec.seam (fun L' V' M' => ∃ (x6 : List Int) (a5 : Option Addr) (k5 : Nat) (cs5 : List Value), L' = [(3, .v (.slice a5 ((x6).length) (k5)))] ∧ M' = [.blk [.v (.int .i64 (x1.Version)), .v (.slice a2 ((x1.Parts).length) (k2))] 24, .row (.slice a5 ((x6).length) (k5)) cs5 3 1] ∧ RowRep (cInt .i64) V' x6 cs5 ∧ SlAt cTPart V' a2 k2 x1.Parts ∧ J7 x6 = some r) rfl ?_ ?_
    · rintro L' V8 M' ⟨x6, a5, k5, cs5, rfl, rfl, h5, h9, hF⟩
      subst hJ7
      refine Exec.run tyOk 400 rfl ?_
      obtain ⟨q11, hF⟩ := req_some hF
      refine Exec.callM 1 rfl rfl rfl rfl (sortI_row h5 (fun cs e => by subst e; exact (sortI_specM ⟨_, rfl, by kernel_rfl, by kernel_rfl⟩ Tryz.slices_Sort_int Tryz.slices_Sort_int_none q11))) ?_
      rintro VV10 _ _ _ ⟨rfl, hVV, rfl⟩
      have hVV := hVV.symm
      subst hVV
      refine ⟨_, rfl, ?_⟩
      have h10 : RowRep (cInt .i64) V8 (sortL x6) ((sortL x6).map (Value.int .i64)) := RowRep.ofInts _
      refine Exec.run tyOk 400 rfl ?_
      refine Exec.callM 1 rfl rfl rfl rfl (compactI_row h10 (fun cs e => by subst e; exact (compactI_specM ⟨_, rfl, by kernel_rfl, by kernel_rfl⟩ Tryz.slices_Compact_int Tryz.slices_Compact_int_empty))) ?_
      rintro VV12 _ _ _ ⟨rfl, hVV, rfl⟩
      have hVV := hVV.symm
      subst hVV
      refine ⟨_, rfl, ?_⟩
      have h12 : RowRep (cInt .i64) V8 (compactL (sortL x6)) ((compactL (sortL x6)).map (Value.int .i64)) := RowRep.ofInts _
      refine Exec.run tyOk 400 rfl ?_
      refine Exec.frz 1 rfl rfl rfl (fun V13 hv13 hd13 hn13 => ?_)
      have hz13 := RowRep.slat h12 hv13 hd13 hn13
      have h14 := SlAt.mono h9 hv13
      obtain rfl := some_inj hF
      exact Exec.ret tyOk rfl rfl ⟨_, _, rfl, hz13⟩
    · skip
      refine Exec.run tyOk 400 rfl ?_
      refine Exec.loop (fun n18 L' V' M' => ∃ (x16 : List Int) (a15 : Option Addr) (k15 : Nat) (cs15 : List Value) (x17 : Int), L' = [(3, .v (.slice a15 ((x16).length) (k15))), (10, .v (.slice a2 ((x1.Parts).length) (k2))), (11, .v (.int .i64 ((((x1.Parts).length : Nat) : Int)))), (12, .v (.int .i64 (x17)))] ∧ M' = [.blk [.v (.int .i64 (x1.Version)), .v (.slice a2 ((x1.Parts).length) (k2))] 24, .row (.slice a15 ((x16).length) (k15)) cs15 3 1] ∧ RowRep (cInt .i64) V' x16 cs15 ∧ SlAt cTPart V' a2 k2 x1.Parts ∧ F_placement_Nodes_L1 x1 J7 n18 x16 x17 = some r) ⟨(((((x1.Parts).length : Nat) : Int)).toNat + 1), [(3, .v (.slice none ((([] : List Int)).length) (0))), (10, .v (.slice a2 ((x1.Parts).length) (k2))), (11, .v (.int .i64 ((((x1.Parts).length : Nat) : Int)))), (12, .v (.int .i64 ((0 : Int))))], ⟨rfl, rfl, rfl, rfl, trivial⟩, ([] : List Int), none, 0, [], (0 : Int), rfl, rfl, h4, h2, hF⟩ ?_
      rintro n18 L' V19 M' ⟨x16, a15, k15, cs15, x17, rfl, rfl, h15, h20, hF⟩
      rcases n18 with _ | n18
      · exact absurd hF (by simp [F_placement_Nodes_L1])
      rw [F_placement_Nodes_L1] at hF
      refine Exec.run tyOk 400 rfl ?_
      rcases cond_some hF with ⟨hb, hF⟩ | ⟨hb, hF⟩
      · skip
        refine Exec.ifT rfl hb ?_
        refine Exec.run tyOk 400 rfl ?_
        obtain ⟨q21, hF⟩ := req_some hF
        obtain ⟨c22, hr22, hd22⟩ := SlAt.get h20 q21
        obtain rfl := hr22
        refine Exec.ia tyOk rfl rfl ⟨q21.1, q21.2, hd22.some⟩ ?_
        refine Exec.run tyOk 400 rfl ?_
        refine Exec.ld tyOk (x := .agg ⟨[.int .i64 ((atI x1.Parts x17).Id), .string ⟨⟨(atI x1.Parts x17).From⟩⟩, .int .i64 ((atI x1.Parts x17).Node), .int .i64 ((atI x1.Parts x17).Dest), .string ⟨⟨(atI x1.Parts x17).Done⟩⟩]⟩) rfl rfl hd22 rfl rfl ?_
        refine Exec.run tyOk 400 rfl ?_
        refine Exec.bsl tyOk rfl rfl ?_
        refine Exec.run tyOk 400 rfl ?_
        obtain ⟨q24, hF⟩ := req_some hF
        refine Exec.app tyOk 1 3 (nm := ((x16 ++ [(atI x1.Parts x17).Node])).length) rfl rfl rfl rfl rfl rfl rfl rfl rfl (by simp) (fun _ _ => rfl) rfl q24 (fun a23 k23 => ?_)
        have h23 : RowRep (cInt .i64) V19 (x16 ++ [(atI x1.Parts x17).Node]) (cs15 ++ [.int .i64 ((atI x1.Parts x17).Node)]) := RowRep.app h15 ⟨_, _, rfl, rfl, rfl⟩
        refine Exec.run tyOk 400 rfl ?_
        obtain ⟨J27, hJ27, hF⟩ := jn_some hF
        refine Exec.seam (fun L' V' M' => ∃ (x26 : List Int) (a25 : Option Addr) (k25 : Nat) (cs25 : List Value), L' = [(3, .v (.slice a25 ((x26).length) (k25))), (10, .v (.slice a2 ((x1.Parts).length) (k2))), (11, .v (.int .i64 ((((x1.Parts).length : Nat) : Int)))), (12, .v (.int .i64 (x17)))] ∧ M' = [.blk [.v (.int .i64 (x1.Version)), .v (.slice a2 ((x1.Parts).length) (k2))] 24, .row (.slice a25 ((x26).length) (k25)) cs25 3 1] ∧ RowRep (cInt .i64) V' x26 cs25 ∧ SlAt cTPart V' a2 k2 x1.Parts ∧ J27 x26 = some r) rfl ?_ ?_
        · rintro L' V28 M' ⟨x26, a25, k25, cs25, rfl, rfl, h25, h29, hF⟩
          subst hJ27
          refine Exec.run tyOk 400 rfl ?_
          exact Exec.round [(3, .v (.slice a25 ((x26).length) (k25))), (10, .v (.slice a2 ((x1.Parts).length) (k2))), (11, .v (.int .i64 ((((x1.Parts).length : Nat) : Int)))), (12, .v (.int .i64 ((IntKind.i64.wrap (x17 + (1 : Int))))))] ⟨rfl, rfl, rfl, rfl, trivial⟩ ⟨n18, Nat.lt_succ_self _, x26, a25, k25, cs25, (IntKind.i64.wrap (x17 + (1 : Int))), rfl, rfl, h25, h29, hF⟩
        · skip
          refine Exec.run tyOk 400 rfl ?_
          rcases cond_some hF with ⟨hb, hF⟩ | ⟨hb, hF⟩
          · skip
            refine Exec.ifT rfl hb ?_
            refine Exec.run tyOk 400 rfl ?_
            refine Exec.bsl tyOk rfl rfl ?_
            refine Exec.run tyOk 400 rfl ?_
            obtain ⟨q31, hF⟩ := req_some hF
            refine Exec.app tyOk 1 4 (nm := (((x16 ++ [(atI x1.Parts x17).Node]) ++ [(atI x1.Parts x17).Dest])).length) rfl rfl rfl rfl rfl rfl rfl rfl rfl (by simp) (fun _ _ => rfl) rfl q31 (fun a30 k30 => ?_)
            have h30 : RowRep (cInt .i64) V19 ((x16 ++ [(atI x1.Parts x17).Node]) ++ [(atI x1.Parts x17).Dest]) ((cs15 ++ [.int .i64 ((atI x1.Parts x17).Node)]) ++ [.int .i64 ((atI x1.Parts x17).Dest)]) := RowRep.app h23 ⟨_, _, rfl, rfl, rfl⟩
            refine Exec.run tyOk 400 rfl ?_
            refine Exec.cut 2 [(3, .v (.slice a30 ((((x16 ++ [(atI x1.Parts x17).Node]) ++ [(atI x1.Parts x17).Dest])).length) (k30))), (10, .v (.slice a2 ((x1.Parts).length) (k2))), (11, .v (.int .i64 ((((x1.Parts).length : Nat) : Int)))), (12, .v (.int .i64 (x17)))] (M' := [.blk [.v (.int .i64 (x1.Version)), .v (.slice a2 ((x1.Parts).length) (k2))] 24, .row (.slice a30 ((((x16 ++ [(atI x1.Parts x17).Node]) ++ [(atI x1.Parts x17).Dest])).length) (k30)) (((cs15 ++ [.int .i64 ((atI x1.Parts x17).Node)]) ++ [.int .i64 ((atI x1.Parts x17).Dest)])) 3 1]) rfl ⟨rfl, rfl, rfl, rfl, trivial⟩ rfl rfl rfl ?_
            exact Exec.round [(3, .v (.slice a30 ((((x16 ++ [(atI x1.Parts x17).Node]) ++ [(atI x1.Parts x17).Dest])).length) (k30))), (10, .v (.slice a2 ((x1.Parts).length) (k2))), (11, .v (.int .i64 ((((x1.Parts).length : Nat) : Int)))), (12, .v (.int .i64 (x17)))] ⟨rfl, rfl, rfl, rfl, trivial⟩ ⟨((x16 ++ [(atI x1.Parts x17).Node]) ++ [(atI x1.Parts x17).Dest]), a30, k30, ((cs15 ++ [.int .i64 ((atI x1.Parts x17).Node)]) ++ [.int .i64 ((atI x1.Parts x17).Dest)]), rfl, rfl, h30, h20, hF⟩
          · skip
            refine Exec.ifF rfl hb ?_
            refine Exec.run tyOk 400 rfl ?_
            refine Exec.cut 2 [(3, .v (.slice a23 (((x16 ++ [(atI x1.Parts x17).Node])).length) (k23))), (10, .v (.slice a2 ((x1.Parts).length) (k2))), (11, .v (.int .i64 ((((x1.Parts).length : Nat) : Int)))), (12, .v (.int .i64 (x17)))] (M' := [.blk [.v (.int .i64 (x1.Version)), .v (.slice a2 ((x1.Parts).length) (k2))] 24, .row (.slice a23 (((x16 ++ [(atI x1.Parts x17).Node])).length) (k23)) ((cs15 ++ [.int .i64 ((atI x1.Parts x17).Node)])) 3 1]) rfl ⟨rfl, rfl, rfl, rfl, trivial⟩ rfl rfl rfl ?_
            exact Exec.round [(3, .v (.slice a23 (((x16 ++ [(atI x1.Parts x17).Node])).length) (k23))), (10, .v (.slice a2 ((x1.Parts).length) (k2))), (11, .v (.int .i64 ((((x1.Parts).length : Nat) : Int)))), (12, .v (.int .i64 (x17)))] ⟨rfl, rfl, rfl, rfl, trivial⟩ ⟨(x16 ++ [(atI x1.Parts x17).Node]), a23, k23, (cs15 ++ [.int .i64 ((atI x1.Parts x17).Node)]), rfl, rfl, h23, h20, hF⟩
      · skip
        refine Exec.ifF rfl hb ?_
        refine Exec.run tyOk 400 rfl ?_
        exact Exec.round [(3, .v (.slice a15 ((x16).length) (k15)))] ⟨rfl, trivial⟩ ⟨x16, a15, k15, cs15, rfl, rfl, h15, h20, hF⟩

def F_placement_Index_L2 (x3 : Str) (x1 : TPlacement) (x9 : Int) (J6 : Int → Option Int) (J14 : Int → Option Int) : Nat → Int → Int → Option Int
  | 0, _, _ => none
  | n21 + 1, x19, x20 => (req (((((decide (x20 < ((x3).length : Int)))) == true) && (((x20 == (((atI x1.Parts x9).From).length : Int))) == false)) = true → 0 ≤ x20 ∧ x20 < (((atI x1.Parts x9).From).length : Int)) (req (((((decide (x20 < ((x3).length : Int)))) == true) && (((x20 == (((atI x1.Parts x9).From).length : Int))) == false)) = true → 0 ≤ x20 ∧ x20 < ((x3).length : Int)) (cond ((x20 == (((atI x1.Parts x9).From).length : Int)) || ((decide (x20 < ((x3).length : Int))) && (decide ((byteAt ((atI x1.Parts x9).From) (x20).toNat) < (byteAt x3 (x20).toNat))))) (J6 x9) (req ((((x20 == ((x3).length : Int))) == false) = true → 0 ≤ x20 ∧ x20 < (((atI x1.Parts x9).From).length : Int)) (req ((((x20 == ((x3).length : Int))) == false) = true → 0 ≤ x20 ∧ x20 < ((x3).length : Int)) (cond ((x20 == ((x3).length : Int)) || (decide ((byteAt x3 (x20).toNat) < (byteAt ((atI x1.Parts x9).From) (x20).toNat)))) (J14 x19) (F_placement_Index_L2 x3 x1 x9 J6 J14 n21 x19 ((IntKind.i64.wrap (x20 + (1 : Int)))))))))))

def F_placement_Index_L1 (x1 : TPlacement) (x3 : Str) (J6 : Int → Option Int) : Nat → Int → Int → Option Int
  | 0, _, _ => none
  | n10 + 1, x8, x9 => (cond (decide ((0 : Int) < x9)) (jn (fun (x13 : Int) => (F_placement_Index_L1 x1 x3 J6 n10 x13 ((IntKind.i64.wrap (x9 - (1 : Int)))))) (fun J14 => (req (0 ≤ x9 ∧ x9 < ((x1.Parts).length : Int)) (F_placement_Index_L2 x3 x1 x9 J6 J14 (1000000 : Nat) x8 ((0 : Int)))))) (J6 x8))

def F_placement_Index (x1 : TPlacement) (x3 : Str) : Option Int :=
  (bnd (F_placement_Valid x1) fun x4 => (cond (!x4) (some (-1 : Int)) (jn (fun (x5 : Int) => (some x5)) (fun J6 => (F_placement_Index_L1 x1 x3 J6 (((IntKind.i64.wrap ((((x1.Parts).length : Nat) : Int) - (1 : Int)))).toNat + 1) ((0 : Int)) ((IntKind.i64.wrap ((((x1.Parts).length : Nat) : Int) - (1 : Int)))))))))

set_option maxRecDepth 100000 in
theorem W_placement_Index {V : View} (x1 : TPlacement) (x3 : Str) {a2 : Option Addr} {k2 : Nat} (h2 : SlAt cTPart V a2 k2 x1.Parts) {r : Int} (hF : F_placement_Index x1 x3 = some r) :
    Spec Tryz.prog 98 [.agg ⟨[.int .i64 (x1.Version), .slice a2 ((x1.Parts).length) (k2)]⟩, .string ⟨⟨x3⟩⟩] V (fun _ v => v = .int .i64 (r)) := by
  unfold F_placement_Index at hF
  refine Spec.enter (T := tyT) Tryz.func98 rfl (by kernel_rfl) rfl rfl rfl ?_
  refine Exec.run tyOk 400 rfl ?_
  refine Exec.scope ?_
  refine Exec.run tyOk 400 rfl ?_
  obtain ⟨x4, hx4, hF⟩ := bnd_some hF
  refine Exec.callS (.bool (x4)) rfl rfl (W_placement_Valid x1 h2 hx4) ?_
  refine Exec.run tyOk 400 rfl ?_
  rcases cond_some hF with ⟨hb, hF⟩ | ⟨hb, hF⟩
  · skip
    refine Exec.ifT rfl hb ?_
    refine Exec.run tyOk 400 rfl ?_
    obtain rfl := some_inj hF
    exact Exec.ret tyOk rfl rfl rfl
  · skip
    refine Exec.ifF rfl hb ?_
    refine Exec.run tyOk 16 rfl ?_
    obtain ⟨J6, hJ6, hF⟩ := jn_some hF
    refine Exec.seam (fun L' V' M' => ∃ (x5 : Int), L' = [(5, .v (.int .i64 (x5)))] ∧ M' = [] ∧ J6 x5 = some r) rfl ?_ ?_
    · rintro L' V7 M' ⟨x5, rfl, rfl, hF⟩
      subst hJ6
      refine Exec.run tyOk 400 rfl ?_
      obtain rfl := some_inj hF
      exact Exec.ret tyOk rfl rfl rfl
    · skip
      refine Exec.run tyOk 400 rfl ?_
      refine Exec.loop (fun n10 L' V' M' => ∃ (x8 : Int) (x9 : Int), L' = [(1, .v (.string ⟨⟨x3⟩⟩)), (2, .ptr 0 0), (5, .v (.int .i64 (x8))), (6, .v (.int .i64 (x9)))] ∧ M' = [.blk [.v (.int .i64 (x1.Version)), .v (.slice a2 ((x1.Parts).length) (k2))] 24] ∧ SlAt cTPart V' a2 k2 x1.Parts ∧ F_placement_Index_L1 x1 x3 J6 n10 x8 x9 = some r) ⟨(((IntKind.i64.wrap ((((x1.Parts).length : Nat) : Int) - (1 : Int)))).toNat + 1), [(1, .v (.string ⟨⟨x3⟩⟩)), (2, .ptr 0 0), (5, .v (.int .i64 ((0 : Int)))), (6, .v (.int .i64 ((IntKind.i64.wrap ((((x1.Parts).length : Nat) : Int) - (1 : Int))))))], ⟨rfl, rfl, rfl, rfl, trivial⟩, (0 : Int), (IntKind.i64.wrap ((((x1.Parts).length : Nat) : Int) - (1 : Int))), rfl, rfl, h2, hF⟩ ?_
      rintro n10 L' V11 M' ⟨x8, x9, rfl, rfl, h12, hF⟩
      rcases n10 with _ | n10
      · exact absurd hF (by simp [F_placement_Index_L1])
      rw [F_placement_Index_L1] at hF
      refine Exec.run tyOk 400 rfl ?_
      rcases cond_some hF with ⟨hb, hF⟩ | ⟨hb, hF⟩
      · skip
        refine Exec.ifT rfl hb ?_
        refine Exec.run tyOk 2 rfl ?_
        obtain ⟨J14, hJ14, hF⟩ := jn_some hF
        refine Exec.seam (fun L' V' M' => ∃ (x13 : Int), L' = [(1, .v (.string ⟨⟨x3⟩⟩)), (2, .ptr 0 0), (5, .v (.int .i64 (x13))), (6, .v (.int .i64 (x9)))] ∧ M' = [.blk [.v (.int .i64 (x1.Version)), .v (.slice a2 ((x1.Parts).length) (k2))] 24] ∧ SlAt cTPart V' a2 k2 x1.Parts ∧ J14 x13 = some r) rfl ?_ ?_
        · rintro L' V15 M' ⟨x13, rfl, rfl, h16, hF⟩
          subst hJ14
          refine Exec.run tyOk 400 rfl ?_
          exact Exec.round [(1, .v (.string ⟨⟨x3⟩⟩)), (2, .ptr 0 0), (5, .v (.int .i64 (x13))), (6, .v (.int .i64 ((IntKind.i64.wrap (x9 - (1 : Int))))))] ⟨rfl, rfl, rfl, rfl, trivial⟩ ⟨n10, Nat.lt_succ_self _, x13, (IntKind.i64.wrap (x9 - (1 : Int))), rfl, rfl, h16, hF⟩
        · skip
          refine Exec.run tyOk 400 rfl ?_
          obtain ⟨q17, hF⟩ := req_some hF
          obtain ⟨c18, hr18, hd18⟩ := SlAt.get h12 q17
          obtain rfl := hr18
          refine Exec.ia tyOk rfl rfl ⟨q17.1, q17.2, hd18.some⟩ ?_
          refine Exec.run tyOk 400 rfl ?_
          refine Exec.ld tyOk (x := .string ⟨⟨(atI x1.Parts x9).From⟩⟩) rfl rfl (RdAt.part hd18 1 1 rfl) rfl rfl ?_
          refine Exec.run tyOk 400 rfl ?_
          refine Exec.loop (fun n21 L' V' M' => ∃ (x19 : Int) (x20 : Int), L' = [(1, .v (.string ⟨⟨x3⟩⟩)), (2, .ptr 0 0), (5, .v (.int .i64 (x19))), (6, .v (.int .i64 (x9))), (7, .v (.string ⟨⟨(atI x1.Parts x9).From⟩⟩)), (8, .v (.int .i64 (x20)))] ∧ M' = [.blk [.v (.int .i64 (x1.Version)), .v (.slice a2 ((x1.Parts).length) (k2))] 24] ∧ SlAt cTPart V' a2 k2 x1.Parts ∧ F_placement_Index_L2 x3 x1 x9 J6 J14 n21 x19 x20 = some r) ⟨(1000000 : Nat), [(1, .v (.string ⟨⟨x3⟩⟩)), (2, .ptr 0 0), (5, .v (.int .i64 (x8))), (6, .v (.int .i64 (x9))), (7, .v (.string ⟨⟨(atI x1.Parts x9).From⟩⟩)), (8, .v (.int .i64 ((0 : Int))))], ⟨rfl, rfl, rfl, rfl, rfl, rfl, trivial⟩, x8, (0 : Int), rfl, rfl, h12, hF⟩ ?_
          rintro n21 L' V22 M' ⟨x19, x20, rfl, rfl, h23, hF⟩
          rcases n21 with _ | n21
          · exact absurd hF (by simp [F_placement_Index_L2])
          rw [F_placement_Index_L2] at hF
          refine Exec.run tyOk 400 rfl ?_
          refine Exec.draws tyOk [(0, true), (1, true), (2, true), (3, true), (4, true), (5, true), (6, true), (7, true), (8, true), (9, true), (10, true), (11, true), (12, true), (13, true), (14, true), (15, true), (16, true), (17, true), (18, true), (19, true)] rfl (by kernel_rfl) ?_
          refine Exec.run tyOk 400 rfl ?_
          obtain ⟨q24, hF⟩ := req_some hF
          refine Exec.fidx tyOk rfl rfl rfl (fun gg0 gg1 => q24 (gd2_of gg0 gg1)) ?_
          refine Exec.run tyOk 400 rfl ?_
          obtain ⟨q25, hF⟩ := req_some hF
          refine Exec.fidx tyOk rfl rfl rfl (fun gg0 gg1 => q25 (gd2_of gg0 gg1)) ?_
          refine Exec.run tyOk 400 rfl ?_
          rcases cond_some hF with ⟨hb, hF⟩ | ⟨hb, hF⟩
          · skip
            refine Exec.ifT rfl hb ?_
            refine Exec.run tyOk 400 rfl ?_
            refine Exec.cut 0 [(5, .v (.int .i64 (x9)))] (M' := []) rfl ⟨rfl, trivial⟩ rfl rfl rfl ?_
            exact Exec.round [(5, .v (.int .i64 (x9)))] ⟨rfl, trivial⟩ ⟨x9, rfl, rfl, hF⟩
          · skip
            refine Exec.ifF rfl hb ?_
            refine Exec.run tyOk 400 rfl ?_
            refine Exec.draws tyOk [(0, true), (1, true), (2, true), (3, true), (4, true), (5, true), (6, true), (7, true), (8, true), (9, true), (10, true), (11, true), (12, true), (13, true)] rfl (by kernel_rfl) ?_
            refine Exec.run tyOk 400 rfl ?_
            obtain ⟨q26, hF⟩ := req_some hF
            refine Exec.fidx tyOk rfl rfl rfl (fun gg0 => q26 (gd1_of gg0)) ?_
            refine Exec.run tyOk 400 rfl ?_
            obtain ⟨q27, hF⟩ := req_some hF
            refine Exec.fidx tyOk rfl rfl rfl (fun gg0 => q27 (gd1_of gg0)) ?_
            refine Exec.run tyOk 400 rfl ?_
            rcases cond_some hF with ⟨hb, hF⟩ | ⟨hb, hF⟩
            · skip
              refine Exec.ifT rfl hb ?_
              refine Exec.run tyOk 400 rfl ?_
              exact Exec.round [(1, .v (.string ⟨⟨x3⟩⟩)), (2, .ptr 0 0), (5, .v (.int .i64 (x19))), (6, .v (.int .i64 (x9)))] ⟨rfl, rfl, rfl, rfl, trivial⟩ ⟨x19, rfl, rfl, h23, hF⟩
            · skip
              refine Exec.ifF rfl hb ?_
              refine Exec.run tyOk 400 rfl ?_
              exact Exec.round [(1, .v (.string ⟨⟨x3⟩⟩)), (2, .ptr 0 0), (5, .v (.int .i64 (x19))), (6, .v (.int .i64 (x9))), (7, .v (.string ⟨⟨(atI x1.Parts x9).From⟩⟩)), (8, .v (.int .i64 ((IntKind.i64.wrap (x20 + (1 : Int))))))] ⟨rfl, rfl, rfl, rfl, rfl, rfl, trivial⟩ ⟨n21, Nat.lt_succ_self _, x19, (IntKind.i64.wrap (x20 + (1 : Int))), rfl, rfl, h23, hF⟩
      · skip
        refine Exec.ifF rfl hb ?_
        refine Exec.run tyOk 400 rfl ?_
        refine Exec.cut 0 [(5, .v (.int .i64 (x8)))] (M' := []) rfl ⟨rfl, trivial⟩ rfl rfl rfl ?_
        exact Exec.round [(5, .v (.int .i64 (x8)))] ⟨rfl, trivial⟩ ⟨x8, rfl, rfl, hF⟩

def F_migrate_Start (x1 : TPlacement) (x3 : Int) (x4 : Int) : Option (TPlacement × Int) :=
  (bnd (F_placement_Valid x1) fun x5 => (cond (((!x5) || (decide (x4 < (1 : Int)))) || (decide ((16 : Int) < x4))) (some ((⟨0, ([] : List TPart)⟩ : TPlacement), (1 : Int))) (bnd (F_migrate_find x1 x3) fun x6 => (cond (decide (x6 < (0 : Int))) (some ((⟨0, ([] : List TPart)⟩ : TPlacement), (9 : Int))) (req (0 ≤ x6 ∧ x6 < ((x1.Parts).length : Int)) (cond (((atI x1.Parts x6).Dest != (0 : Int)) || ((atI x1.Parts x6).Node == x4)) (some ((⟨0, ([] : List TPart)⟩ : TPlacement), (19 : Int))) (cond (x1.Version == (1099511627776 : Int)) (some ((⟨0, ([] : List TPart)⟩ : TPlacement), (2 : Int))) (bnd (F_migrate_changed x1 x6 ((⟨(atI x1.Parts x6).Id, (atI x1.Parts x6).From, (atI x1.Parts x6).Node, x4, (atI x1.Parts x6).From⟩ : TPart))) fun x9 => (some (x9, (0 : Int)))))))))))

set_option maxRecDepth 100000 in
theorem W_migrate_Start {V : View} (x1 : TPlacement) (x3 : Int) (x4 : Int) {a2 : Option Addr} {k2 : Nat} (h2 : SlAt cTPart V a2 k2 x1.Parts) {r : TPlacement × Int} (hF : F_migrate_Start x1 x3 x4 = some r) :
    Spec Tryz.prog 16 [.agg ⟨[.int .i64 (x1.Version), .slice a2 ((x1.Parts).length) (k2)]⟩, .int .i64 (x3), .int .i64 (x4)] V (fun V' v => ∃ (a14 : Option Addr) (k14 : Nat), v = .tuple ⟨[.agg ⟨[.int .i64 (r.1.Version), .slice a14 ((r.1.Parts).length) (k14)]⟩, .int .i64 (r.2)]⟩ ∧ SlAt cTPart V' a14 k14 r.1.Parts) := by
  unfold F_migrate_Start at hF
  refine Spec.enter (T := tyT) Tryz.func16 rfl (by kernel_rfl) rfl rfl rfl ?_
  refine Exec.run tyOk 400 rfl ?_
  obtain ⟨x5, hx5, hF⟩ := bnd_some hF
  refine Exec.callS (.bool (x5)) rfl rfl (W_placement_Valid x1 h2 hx5) ?_
  refine Exec.run tyOk 400 rfl ?_
  rcases cond_some hF with ⟨hb, hF⟩ | ⟨hb, hF⟩
  · skip
    refine Exec.ifT rfl hb ?_
    refine Exec.run tyOk 400 rfl ?_
    obtain rfl := some_inj hF
    exact Exec.ret tyOk rfl rfl ⟨_, _, rfl, SlAt.nil⟩
  · skip
    refine Exec.ifF rfl hb ?_
    refine Exec.run tyOk 400 rfl ?_
    obtain ⟨x6, hx6, hF⟩ := bnd_some hF
    refine Exec.callS (.int .i64 (x6)) rfl rfl (W_migrate_find x1 x3 h2 hx6) ?_
    refine Exec.run tyOk 400 rfl ?_
    rcases cond_some hF with ⟨hb, hF⟩ | ⟨hb, hF⟩
    · skip
      refine Exec.ifT rfl hb ?_
      refine Exec.run tyOk 400 rfl ?_
      obtain rfl := some_inj hF
      exact Exec.ret tyOk rfl rfl ⟨_, _, rfl, SlAt.nil⟩
    · skip
      refine Exec.ifF rfl hb ?_
      refine Exec.run tyOk 400 rfl ?_
      obtain ⟨q7, hF⟩ := req_some hF
      obtain ⟨c8, hr8, hd8⟩ := SlAt.get h2 q7
      obtain rfl := hr8
      refine Exec.ia tyOk rfl rfl ⟨q7.1, q7.2, hd8.some⟩ ?_
      refine Exec.run tyOk 400 rfl ?_
      refine Exec.ld tyOk (x := .agg ⟨[.int .i64 ((atI x1.Parts x6).Id), .string ⟨⟨(atI x1.Parts x6).From⟩⟩, .int .i64 ((atI x1.Parts x6).Node), .int .i64 ((atI x1.Parts x6).Dest), .string ⟨⟨(atI x1.Parts x6).Done⟩⟩]⟩) rfl rfl hd8 rfl rfl ?_
      refine Exec.run tyOk 400 rfl ?_
      rcases cond_some hF with ⟨hb, hF⟩ | ⟨hb, hF⟩
      · skip
        refine Exec.ifT rfl hb ?_
        refine Exec.run tyOk 400 rfl ?_
        obtain rfl := some_inj hF
        exact Exec.ret tyOk rfl rfl ⟨_, _, rfl, SlAt.nil⟩
      · skip
        refine Exec.ifF rfl hb ?_
        refine Exec.run tyOk 400 rfl ?_
        rcases cond_some hF with ⟨hb, hF⟩ | ⟨hb, hF⟩
        · skip
          refine Exec.ifT rfl hb ?_
          refine Exec.run tyOk 400 rfl ?_
          obtain rfl := some_inj hF
          exact Exec.ret tyOk rfl rfl ⟨_, _, rfl, SlAt.nil⟩
        · skip
          refine Exec.ifF rfl hb ?_
          refine Exec.run tyOk 400 rfl ?_
          obtain ⟨x9, hx9, hF⟩ := bnd_some hF
          refine Exec.call rfl rfl (W_migrate_changed x1 x6 ((⟨(atI x1.Parts x6).Id, (atI x1.Parts x6).From, (atI x1.Parts x6).Node, x4, (atI x1.Parts x6).From⟩ : TPart)) h2 hx9) ?_
          rintro V11 _ hv11 ⟨a10, k10, rfl, h10⟩
          have h12 := SlAt.mono h2 hv11
          refine Exec.run tyOk 400 rfl ?_
          obtain rfl := some_inj hF
          exact Exec.ret tyOk rfl rfl ⟨_, _, rfl, h10⟩

def F_migrate_Moving_L1 (x1 : TPlacement) (J7 : (List Int) → Option (List Int)) : Nat → (List Int) → Int → Option (List Int)
  | 0, _, _ => none
  | n15 + 1, x13, x14 => (cond (decide (x14 < (((x1.Parts).length : Nat) : Int))) (req (0 ≤ x14 ∧ x14 < ((x1.Parts).length : Int)) (jn (fun (x21 : List Int) => (F_migrate_Moving_L1 x1 J7 n15 x21 ((IntKind.i64.wrap (x14 + (1 : Int)))))) (fun J22 => (cond ((atI x1.Parts x14).Dest != (0 : Int)) (req (((x13 ++ [(atI x1.Parts x14).Id])).length * 8 ≤ 140737488355328) (J22 ((x13 ++ [(atI x1.Parts x14).Id])))) (J22 x13))))) (J7 x13))

def F_migrate_Moving (x1 : TPlacement) : Option (List Int) :=
  (bnd (F_placement_Valid x1) fun x3 => (cond (!x3) (some ([] : List Int)) (jn (fun (x6 : List Int) => (some x6)) (fun J7 => (F_migrate_Moving_L1 x1 J7 (((((x1.Parts).length : Nat) : Int)).toNat + 1) (([] : List Int)) ((0 : Int)))))))

set_option maxRecDepth 100000 in
theorem W_migrate_Moving {V : View} (x1 : TPlacement) {a2 : Option Addr} {k2 : Nat} (h2 : SlAt cTPart V a2 k2 x1.Parts) {r : List Int} (hF : F_migrate_Moving x1 = some r) :
    Spec Tryz.prog 24 [.agg ⟨[.int .i64 (x1.Version), .slice a2 ((x1.Parts).length) (k2)]⟩] V (fun V' v => ∃ (a27 : Option Addr) (k27 : Nat), v = .slice a27 ((r).length) (k27) ∧ SlAt (cInt .i64) V' a27 k27 r) := by
  unfold F_migrate_Moving at hF
  refine Spec.enter (T := tyT) Tryz.func24 rfl (by kernel_rfl) rfl rfl rfl ?_
  refine Exec.run tyOk 400 rfl ?_
  obtain ⟨x3, hx3, hF⟩ := bnd_some hF
  refine Exec.callS (.bool (x3)) rfl rfl (W_placement_Valid x1 h2 hx3) ?_
  refine Exec.run tyOk 400 rfl ?_
  rcases cond_some hF with ⟨hb, hF⟩ | ⟨hb, hF⟩
  · skip
    refine Exec.ifT rfl hb ?_
    refine Exec.run tyOk 400 rfl ?_
    obtain rfl := some_inj hF
    exact Exec.ret tyOk rfl rfl ⟨_, _, rfl, SlAt.nil⟩
  · skip
    refine Exec.ifF rfl hb ?_
    refine Exec.run tyOk 13 rfl ?_
    refine Exec.row0 3 1 rfl ?_
    have h4 : RowRep (cInt .i64) V ([] : List Int) [] := RowRep.nil
    obtain ⟨J7, hJ7, hF⟩ := jn_some hF
    refine Exec.seam (fun L' V' M' => ∃ (x6 : List Int) (a5 : Option Addr) (k5 : Nat) (cs5 : List Value), L' = [(3, .v (.slice a5 ((x6).length) (k5)))] ∧ M' = [.blk [.v (.int .i64 (x1.Version)), .v (.slice a2 ((x1.Parts).length) (k2))] 24, .row (.slice a5 ((x6).length) (k5)) cs5 3 1] ∧ RowRep (cInt .i64) V' x6 cs5 ∧ SlAt cTPart V' a2 k2 x1.Parts ∧ J7 x6 = some r) rfl ?_ ?_
    · rintro L' V8 M' ⟨x6, a5, k5, cs5, rfl, rfl, h5, h9, hF⟩
      subst hJ7
      refine Exec.run tyOk 400 rfl ?_
      refine Exec.frz 1 rfl rfl rfl (fun V10 hv10 hd10 hn10 => ?_)
      have hz10 := RowRep.slat h5 hv10 hd10 hn10
      have h11 := SlAt.mono h9 hv10
      obtain rfl := some_inj hF
      exact Exec.ret tyOk rfl rfl ⟨_, _, rfl, hz10⟩
    · skip
      refine Exec.run tyOk 400 rfl ?_
      refine Exec.loop (fun n15 L' V' M' => ∃ (x13 : List Int) (a12 : Option Addr) (k12 : Nat) (cs12 : List Value) (x14 : Int), L' = [(3, .v (.slice a12 ((x13).length) (k12))), (10, .v (.slice a2 ((x1.Parts).length) (k2))), (11, .v (.int .i64 ((((x1.Parts).length : Nat) : Int)))), (12, .v (.int .i64 (x14)))] ∧ M' = [.blk [.v (.int .i64 (x1.Version)), .v (.slice a2 ((x1.Parts).length) (k2))] 24, .row (.slice a12 ((x13).length) (k12)) cs12 3 1] ∧ RowRep (cInt .i64) V' x13 cs12 ∧ SlAt cTPart V' a2 k2 x1.Parts ∧ F_migrate_Moving_L1 x1 J7 n15 x13 x14 = some r) ⟨(((((x1.Parts).length : Nat) : Int)).toNat + 1), [(3, .v (.slice none ((([] : List Int)).length) (0))), (10, .v (.slice a2 ((x1.Parts).length) (k2))), (11, .v (.int .i64 ((((x1.Parts).length : Nat) : Int)))), (12, .v (.int .i64 ((0 : Int))))], ⟨rfl, rfl, rfl, rfl, trivial⟩, ([] : List Int), none, 0, [], (0 : Int), rfl, rfl, h4, h2, hF⟩ ?_
      rintro n15 L' V16 M' ⟨x13, a12, k12, cs12, x14, rfl, rfl, h12, h17, hF⟩
      rcases n15 with _ | n15
      · exact absurd hF (by simp [F_migrate_Moving_L1])
      rw [F_migrate_Moving_L1] at hF
      refine Exec.run tyOk 400 rfl ?_
      rcases cond_some hF with ⟨hb, hF⟩ | ⟨hb, hF⟩
      · skip
        refine Exec.ifT rfl hb ?_
        refine Exec.run tyOk 400 rfl ?_
        obtain ⟨q18, hF⟩ := req_some hF
        obtain ⟨c19, hr19, hd19⟩ := SlAt.get h17 q18
        obtain rfl := hr19
        refine Exec.ia tyOk rfl rfl ⟨q18.1, q18.2, hd19.some⟩ ?_
        refine Exec.run tyOk 400 rfl ?_
        refine Exec.ld tyOk (x := .agg ⟨[.int .i64 ((atI x1.Parts x14).Id), .string ⟨⟨(atI x1.Parts x14).From⟩⟩, .int .i64 ((atI x1.Parts x14).Node), .int .i64 ((atI x1.Parts x14).Dest), .string ⟨⟨(atI x1.Parts x14).Done⟩⟩]⟩) rfl rfl hd19 rfl rfl ?_
        refine Exec.run tyOk 400 rfl ?_
        obtain ⟨J22, hJ22, hF⟩ := jn_some hF
        refine Exec.seam (fun L' V' M' => ∃ (x21 : List Int) (a20 : Option Addr) (k20 : Nat) (cs20 : List Value), L' = [(3, .v (.slice a20 ((x21).length) (k20))), (10, .v (.slice a2 ((x1.Parts).length) (k2))), (11, .v (.int .i64 ((((x1.Parts).length : Nat) : Int)))), (12, .v (.int .i64 (x14)))] ∧ M' = [.blk [.v (.int .i64 (x1.Version)), .v (.slice a2 ((x1.Parts).length) (k2))] 24, .row (.slice a20 ((x21).length) (k20)) cs20 3 1] ∧ RowRep (cInt .i64) V' x21 cs20 ∧ SlAt cTPart V' a2 k2 x1.Parts ∧ J22 x21 = some r) rfl ?_ ?_
        · rintro L' V23 M' ⟨x21, a20, k20, cs20, rfl, rfl, h20, h24, hF⟩
          subst hJ22
          refine Exec.run tyOk 400 rfl ?_
          exact Exec.round [(3, .v (.slice a20 ((x21).length) (k20))), (10, .v (.slice a2 ((x1.Parts).length) (k2))), (11, .v (.int .i64 ((((x1.Parts).length : Nat) : Int)))), (12, .v (.int .i64 ((IntKind.i64.wrap (x14 + (1 : Int))))))] ⟨rfl, rfl, rfl, rfl, trivial⟩ ⟨n15, Nat.lt_succ_self _, x21, a20, k20, cs20, (IntKind.i64.wrap (x14 + (1 : Int))), rfl, rfl, h20, h24, hF⟩
        · skip
          refine Exec.run tyOk 400 rfl ?_
          rcases cond_some hF with ⟨hb, hF⟩ | ⟨hb, hF⟩
          · skip
            refine Exec.ifT rfl hb ?_
            refine Exec.run tyOk 400 rfl ?_
            refine Exec.bsl tyOk rfl rfl ?_
            refine Exec.run tyOk 400 rfl ?_
            obtain ⟨q26, hF⟩ := req_some hF
            refine Exec.app tyOk 1 3 (nm := ((x13 ++ [(atI x1.Parts x14).Id])).length) rfl rfl rfl rfl rfl rfl rfl rfl rfl (by simp) (fun _ _ => rfl) rfl q26 (fun a25 k25 => ?_)
            have h25 : RowRep (cInt .i64) V16 (x13 ++ [(atI x1.Parts x14).Id]) (cs12 ++ [.int .i64 ((atI x1.Parts x14).Id)]) := RowRep.app h12 ⟨_, _, rfl, rfl, rfl⟩
            refine Exec.run tyOk 400 rfl ?_
            refine Exec.cut 2 [(3, .v (.slice a25 (((x13 ++ [(atI x1.Parts x14).Id])).length) (k25))), (10, .v (.slice a2 ((x1.Parts).length) (k2))), (11, .v (.int .i64 ((((x1.Parts).length : Nat) : Int)))), (12, .v (.int .i64 (x14)))] (M' := [.blk [.v (.int .i64 (x1.Version)), .v (.slice a2 ((x1.Parts).length) (k2))] 24, .row (.slice a25 (((x13 ++ [(atI x1.Parts x14).Id])).length) (k25)) ((cs12 ++ [.int .i64 ((atI x1.Parts x14).Id)])) 3 1]) rfl ⟨rfl, rfl, rfl, rfl, trivial⟩ rfl rfl rfl ?_
            exact Exec.round [(3, .v (.slice a25 (((x13 ++ [(atI x1.Parts x14).Id])).length) (k25))), (10, .v (.slice a2 ((x1.Parts).length) (k2))), (11, .v (.int .i64 ((((x1.Parts).length : Nat) : Int)))), (12, .v (.int .i64 (x14)))] ⟨rfl, rfl, rfl, rfl, trivial⟩ ⟨(x13 ++ [(atI x1.Parts x14).Id]), a25, k25, (cs12 ++ [.int .i64 ((atI x1.Parts x14).Id)]), rfl, rfl, h25, h17, hF⟩
          · skip
            refine Exec.ifF rfl hb ?_
            refine Exec.run tyOk 400 rfl ?_
            refine Exec.cut 2 [(3, .v (.slice a12 ((x13).length) (k12))), (10, .v (.slice a2 ((x1.Parts).length) (k2))), (11, .v (.int .i64 ((((x1.Parts).length : Nat) : Int)))), (12, .v (.int .i64 (x14)))] (M' := [.blk [.v (.int .i64 (x1.Version)), .v (.slice a2 ((x1.Parts).length) (k2))] 24, .row (.slice a12 ((x13).length) (k12)) cs12 3 1]) rfl ⟨rfl, rfl, rfl, rfl, trivial⟩ rfl rfl rfl ?_
            exact Exec.round [(3, .v (.slice a12 ((x13).length) (k12))), (10, .v (.slice a2 ((x1.Parts).length) (k2))), (11, .v (.int .i64 ((((x1.Parts).length : Nat) : Int)))), (12, .v (.int .i64 (x14)))] ⟨rfl, rfl, rfl, rfl, trivial⟩ ⟨x13, a12, k12, cs12, rfl, rfl, h12, h17, hF⟩
      · skip
        refine Exec.ifF rfl hb ?_
        refine Exec.run tyOk 400 rfl ?_
        exact Exec.round [(3, .v (.slice a12 ((x13).length) (k12)))] ⟨rfl, trivial⟩ ⟨x13, a12, k12, cs12, rfl, rfl, h12, h17, hF⟩

end Go.Proofs.YtedbagekceppiaaGreat
