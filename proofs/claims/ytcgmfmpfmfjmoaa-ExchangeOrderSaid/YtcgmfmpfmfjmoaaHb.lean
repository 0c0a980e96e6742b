/-
  Functions of the program as their counterparts say them (printed by a program).
  Conditions: none.
-/
import Derived.Test.YtcgmfmpfmfjmoaaHa
set_option linter.all false
namespace Go.Proofs.Ytcgmfmpfmfjmoaa

def F_placement_find_1 (x1 : TPart) (x2 : Int) : Option Bool :=
  (some (x1.Id == x2))

set_option maxRecDepth 100000 in
theorem W_placement_find_1 {V : View} (x1 : TPart) (x2 : Int) {b0 o0 : Nat} (hc0 : RdAt V (some ⟨b0, o0, none⟩) 0 [.int .i64 (x2)]) {r : Bool} (hF : F_placement_find_1 x1 x2 = some r) :
    Spec Try.prog 64 [.agg ⟨[.int .i64 (x1.Id), .string ⟨⟨x1.From⟩⟩, .int .i64 (x1.Node), .int .i64 (x1.Dest), .string ⟨⟨x1.Done⟩⟩]⟩, .pointer (some ⟨b0, o0, none⟩)] V (fun _ v => v = .bool (r)) := by
  unfold F_placement_find_1 at hF
  refine Spec.enter (T := tyT) Try.func64 rfl (by kernel_rfl) rfl rfl rfl ?_
  refine Exec.run tyOk 400 rfl ?_
  refine Exec.ld tyOk (x := .int .i64 (x2)) rfl rfl hc0 rfl rfl ?_
  refine Exec.run tyOk 400 rfl ?_
  obtain rfl := some_inj hF
  exact Exec.ret tyOk rfl rfl rfl

def F_keys_consists_L1 (x1 : Str) (g3 : Int → Option Bool) (J4 : Option Bool) : Nat → Int → Option Bool
  | 0, _ => none
  | n7 + 1, x6 => (cond (decide (x6 < ((x1).length : Int))) (req (0 ≤ x6 ∧ x6 < ((x1).length : Int)) (bnd (g3 ((byteAt x1 (x6).toNat))) fun x11 => (cond (!x11) (some false) (F_keys_consists_L1 x1 g3 J4 n7 ((IntKind.i64.wrap (x6 + (1 : Int)))))))) J4)

def F_keys_consists (x1 : Str) (g3 : Int → Option Bool) : Option Bool :=
  (cond (decide ((24 : Int) < ((x1).length : Int))) (some false) (jn ((some true)) (fun J4 => (F_keys_consists_L1 x1 g3 J4 ((((x1).length : Int)).toNat + 1) ((0 : Int))))))

set_option maxRecDepth 100000 in
theorem W_keys_consists {V : View} (x1 : Str) (g3 : Int → Option Bool) {f3 : Nat} {ca3 : List Value}  (hg3 : FnSpec1 Try.prog f3 ca3 V (fun (y : Int) => .int .u8 (y)) (fun (r : Bool) => .bool (r)) g3) {r : Bool} (hF : F_keys_consists x1 g3 = some r) :
    Spec Try.prog 65 [.string ⟨⟨x1⟩⟩, .func (.func f3) #[] ⟨ca3⟩] V (fun _ v => v = .bool (r)) := by
  unfold F_keys_consists at hF
  refine Spec.enter (T := tyT) Try.func65 rfl (by kernel_rfl) rfl rfl rfl ?_
  refine Exec.run tyOk 400 rfl ?_
  rcases cond_some hF with ⟨hb, hF⟩ | ⟨hb, hF⟩
  · skip
    refine Exec.ifT rfl hb ?_
    refine Exec.run tyOk 400 rfl ?_
    obtain rfl := some_inj hF
    exact Exec.ret tyOk rfl rfl rfl
  · skip
    refine Exec.ifF rfl hb ?_
    refine Exec.run tyOk 8 rfl ?_
    obtain ⟨J4, hJ4, hF⟩ := jn_some hF
    refine Exec.seam (fun L' V' M' => L' = [] ∧ M' = [] ∧ J4 = some r) rfl ?_ ?_
    · rintro L' V5 M' ⟨rfl, rfl, hF⟩
      subst hJ4
      refine Exec.run tyOk 400 rfl ?_
      obtain rfl := some_inj hF
      exact Exec.ret tyOk rfl rfl rfl
    · skip
      refine Exec.run tyOk 400 rfl ?_
      refine Exec.loop (fun n7 L' V' M' => ∃ (x6 : Int), L' = [(0, .v (.string ⟨⟨x1⟩⟩)), (1, .v (.func (.func f3) #[] ⟨ca3⟩)), (10, .v (.int .i64 (((x1).length : Int)))), (11, .v (.int .i64 (x6)))] ∧ M' = [] ∧ FnSpec1 Try.prog f3 ca3 V' (fun (y : Int) => .int .u8 (y)) (fun (r : Bool) => .bool (r)) g3 ∧ F_keys_consists_L1 x1 g3 J4 n7 x6 = some r) ⟨((((x1).length : Int)).toNat + 1), [(0, .v (.string ⟨⟨x1⟩⟩)), (1, .v (.func (.func f3) #[] ⟨ca3⟩)), (10, .v (.int .i64 (((x1).length : Int)))), (11, .v (.int .i64 ((0 : Int))))], ⟨rfl, rfl, rfl, rfl, trivial⟩, (0 : Int), rfl, rfl, hg3, hF⟩ ?_
      rintro n7 L' V8 M' ⟨x6, rfl, rfl, h9, hF⟩
      rcases n7 with _ | n7
      · exact absurd hF (by simp [F_keys_consists_L1])
      rw [F_keys_consists_L1] at hF
      refine Exec.run tyOk 400 rfl ?_
      rcases cond_some hF with ⟨hb, hF⟩ | ⟨hb, hF⟩
      · skip
        refine Exec.ifT rfl hb ?_
        refine Exec.run tyOk 400 rfl ?_
        obtain ⟨q10, hF⟩ := req_some hF
        refine Exec.idx tyOk rfl rfl q10 ?_
        refine Exec.run tyOk 400 rfl ?_
        obtain ⟨x11, hx11, hF⟩ := bnd_some hF
        refine Exec.callS (.bool (x11)) rfl rfl (h9.at hx11) ?_
        refine Exec.run tyOk 400 rfl ?_
        rcases cond_some hF with ⟨hb, hF⟩ | ⟨hb, hF⟩
        · skip
          refine Exec.ifT rfl hb ?_
          refine Exec.run tyOk 400 rfl ?_
          obtain rfl := some_inj hF
          exact Exec.ret tyOk rfl rfl rfl
        · skip
          refine Exec.ifF rfl hb ?_
          refine Exec.run tyOk 400 rfl ?_
          exact Exec.round [(0, .v (.string ⟨⟨x1⟩⟩)), (1, .v (.func (.func f3) #[] ⟨ca3⟩)), (10, .v (.int .i64 (((x1).length : Int)))), (11, .v (.int .i64 ((IntKind.i64.wrap (x6 + (1 : Int))))))] ⟨rfl, rfl, rfl, rfl, trivial⟩ ⟨n7, Nat.lt_succ_self _, (IntKind.i64.wrap (x6 + (1 : Int))), rfl, rfl, h9, hF⟩
      · skip
        refine Exec.ifF rfl hb ?_
        refine Exec.run tyOk 400 rfl ?_
        exact Exec.round [] trivial ⟨rfl, rfl, hF⟩

def F_keys_Valid_1 (x1 : Int) : Option Bool :=
  (some (((((((decide ((97 : Int) ≤ x1)) && (decide (x1 ≤ (122 : Int)))) || ((decide ((48 : Int) ≤ x1)) && (decide (x1 ≤ (57 : Int))))) || (x1 == (47 : Int))) || (x1 == (46 : Int))) || (x1 == (95 : Int))) || (x1 == (45 : Int))))

set_option maxRecDepth 100000 in
theorem W_keys_Valid_1 {V : View} (x1 : Int)   {r : Bool} (hF : F_keys_Valid_1 x1 = some r) :
    Spec Try.prog 66 [.int .u8 (x1)] V (fun _ v => v = .bool (r)) := by
  unfold F_keys_Valid_1 at hF
  refine Spec.enter (T := tyT) Try.func66 rfl (by kernel_rfl) rfl rfl rfl ?_
  refine Exec.run tyOk 400 rfl ?_
  obtain rfl := some_inj hF
  exact Exec.ret tyOk rfl rfl rfl

def F_value_plain_L1 (x1 : Str) (J2 : Option Bool) : Nat → Int → Option Bool
  | 0, _ => none
  | n5 + 1, x4 => (cond (decide (x4 < ((x1).length : Int))) (req (0 ≤ x4 ∧ x4 < ((x1).length : Int)) (req ((((decide ((byteAt x1 (x4).toNat) < (32 : Int)))) == false) = true → 0 ≤ x4 ∧ x4 < ((x1).length : Int)) (cond ((decide ((byteAt x1 (x4).toNat) < (32 : Int))) || (decide ((126 : Int) < (byteAt x1 (x4).toNat)))) (some false) (F_value_plain_L1 x1 J2 n5 ((IntKind.i64.wrap (x4 + (1 : Int)))))))) J2)

def F_value_plain (x1 : Str) : Option Bool :=
  (jn ((some (decide (((x1).length : Int) ≤ (64 : Int))))) (fun J2 => (F_value_plain_L1 x1 J2 ((((x1).length : Int)).toNat + 1) ((0 : Int)))))

set_option maxRecDepth 100000 in
theorem W_value_plain {V : View} (x1 : Str)   {r : Bool} (hF : F_value_plain x1 = some r) :
    Spec Try.prog 67 [.string ⟨⟨x1⟩⟩] V (fun _ v => v = .bool (r)) := by
  unfold F_value_plain at hF
  refine Spec.enter (T := tyT) Try.func67 rfl (by kernel_rfl) rfl rfl rfl ?_
  refine Exec.run tyOk 9 rfl ?_
  obtain ⟨J2, hJ2, hF⟩ := jn_some hF
  refine Exec.seam (fun L' V' M' => L' = [(0, .v (.string ⟨⟨x1⟩⟩))] ∧ M' = [] ∧ J2 = some r) rfl ?_ ?_
  · rintro L' V3 M' ⟨rfl, rfl, hF⟩
    subst hJ2
    refine Exec.run tyOk 400 rfl ?_
    obtain rfl := some_inj hF
    exact Exec.ret tyOk rfl rfl rfl
  · skip
    refine Exec.run tyOk 400 rfl ?_
    refine Exec.loop (fun n5 L' V' M' => ∃ (x4 : Int), L' = [(0, .v (.string ⟨⟨x1⟩⟩)), (3, .v (.int .i64 (x4)))] ∧ M' = [] ∧ F_value_plain_L1 x1 J2 n5 x4 = some r) ⟨((((x1).length : Int)).toNat + 1), [(0, .v (.string ⟨⟨x1⟩⟩)), (3, .v (.int .i64 ((0 : Int))))], ⟨rfl, rfl, trivial⟩, (0 : Int), rfl, rfl, hF⟩ ?_
    rintro n5 L' V6 M' ⟨x4, rfl, rfl, hF⟩
    rcases n5 with _ | n5
    · exact absurd hF (by simp [F_value_plain_L1])
    rw [F_value_plain_L1] at hF
    refine Exec.run tyOk 400 rfl ?_
    rcases cond_some hF with ⟨hb, hF⟩ | ⟨hb, hF⟩
    · skip
      refine Exec.ifT rfl hb ?_
      refine Exec.run tyOk 400 rfl ?_
      obtain ⟨q7, hF⟩ := req_some hF
      refine Exec.idx tyOk rfl rfl q7 ?_
      refine Exec.run tyOk 400 rfl ?_
      obtain ⟨q8, hF⟩ := req_some hF
      refine Exec.idx tyOk rfl rfl (fun gg0 => q8 (gd1_of gg0)) ?_
      refine Exec.run tyOk 400 rfl ?_
      rcases cond_some hF with ⟨hb, hF⟩ | ⟨hb, hF⟩
      · skip
        refine Exec.ifT rfl hb ?_
        refine Exec.run tyOk 400 rfl ?_
        obtain rfl := some_inj hF
        exact Exec.ret tyOk rfl rfl rfl
      · skip
        refine Exec.ifF rfl hb ?_
        refine Exec.run tyOk 400 rfl ?_
        exact Exec.round [(0, .v (.string ⟨⟨x1⟩⟩)), (3, .v (.int .i64 ((IntKind.i64.wrap (x4 + (1 : Int))))))] ⟨rfl, rfl, trivial⟩ ⟨n5, Nat.lt_succ_self _, (IntKind.i64.wrap (x4 + (1 : Int))), rfl, rfl, hF⟩
    · skip
      refine Exec.ifF rfl hb ?_
      refine Exec.run tyOk 400 rfl ?_
      exact Exec.round [(0, .v (.string ⟨⟨x1⟩⟩))] ⟨rfl, trivial⟩ ⟨rfl, rfl, hF⟩

def F_clockworkref31_FewMails_L2 (x6 : Int) (x1 : List TMail) (J19 : Option Bool) : Nat → Int → Option Bool
  | 0, _ => none
  | n23 + 1, x22 => (req (0 ≤ x6 ∧ x6 < ((x1).length : Int)) (cond (decide (x22 < ((((atI x1 x6).Keys).length : Nat) : Int))) (req (0 ≤ x6 ∧ x6 < ((x1).length : Int)) (req (0 ≤ x22 ∧ x22 < (((atI x1 x6).Keys).length : Int)) (cond (decide ((100 : Int) < (((atI ((atI x1 x6).Keys) x22)).length : Int))) (some false) (F_clockworkref31_FewMails_L2 x6 x1 J19 n23 ((IntKind.i64.wrap (x22 + (1 : Int)))))))) J19))

def F_clockworkref31_FewMails_L1 (x1 : List TMail) (J3 : Option Bool) : Nat → Int → Option Bool
  | 0, _ => none
  | n7 + 1, x6 => (cond ((decide (x6 < (((x1).length : Nat) : Int))) && (decide (x6 < (13 : Int)))) (req (0 ≤ x6 ∧ x6 < ((x1).length : Int)) (req ((((decide ((10 : Int) < ((((atI x1 x6).Keys).length : Nat) : Int)))) == false) = true → 0 ≤ x6 ∧ x6 < ((x1).length : Int)) (bnd (gcall (((decide ((10 : Int) < ((((atI x1 x6).Keys).length : Nat) : Int)))) == false) (F_clockworkref31_Few ((cond (((decide ((10 : Int) < ((((atI x1 x6).Keys).length : Nat) : Int)))) == false) (atI x1 x6) default).Pairs) ((10 : Int)))) fun x18 => (cond ((decide ((10 : Int) < ((((atI x1 x6).Keys).length : Nat) : Int))) || (!x18)) (some false) (jn ((F_clockworkref31_FewMails_L1 x1 J3 n7 ((IntKind.i64.wrap (x6 + (1 : Int)))))) (fun J19 => (F_clockworkref31_FewMails_L2 x6 x1 J19 (1000000 : Nat) ((0 : Int))))))))) J3)

def F_clockworkref31_FewMails (x1 : List TMail) : Option Bool :=
  (jn ((some (decide ((((x1).length : Nat) : Int) ≤ (12 : Int))))) (fun J3 => (F_clockworkref31_FewMails_L1 x1 J3 (1000000 : Nat) ((0 : Int)))))

set_option maxRecDepth 100000 in
theorem W_clockworkref31_FewMails {V : View} (x1 : List TMail) {a2 : Option Addr} {k2 : Nat} (h2 : SlAt cTMail V a2 k2 x1) {r : Bool} (hF : F_clockworkref31_FewMails x1 = some r) :
    Spec Try.prog 4 [.slice a2 ((x1).length) (k2)] V (fun _ v => v = .bool (r)) := by
  unfold F_clockworkref31_FewMails at hF
  refine Spec.enter (T := tyT) Try.func4 rfl (by kernel_rfl) rfl rfl rfl ?_
  refine Exec.run tyOk 9 rfl ?_
  obtain ⟨J3, hJ3, hF⟩ := jn_some hF
  refine Exec.seam (fun L' V' M' => L' = [(0, .v (.slice a2 ((x1).length) (k2)))] ∧ M' = [] ∧ SlAt cTMail V' a2 k2 x1 ∧ J3 = some r) rfl ?_ ?_
  · rintro L' V4 M' ⟨rfl, rfl, h5, hF⟩
    subst hJ3
    refine Exec.run tyOk 400 rfl ?_
    obtain rfl := some_inj hF
    exact Exec.ret tyOk rfl rfl rfl
  · skip
    refine Exec.run tyOk 400 rfl ?_
    refine Exec.loop (fun n7 L' V' M' => ∃ (x6 : Int), L' = [(0, .v (.slice a2 ((x1).length) (k2))), (3, .v (.int .i64 (x6)))] ∧ M' = [] ∧ SlAt cTMail V' a2 k2 x1 ∧ F_clockworkref31_FewMails_L1 x1 J3 n7 x6 = some r) ⟨(1000000 : Nat), [(0, .v (.slice a2 ((x1).length) (k2))), (3, .v (.int .i64 ((0 : Int))))], ⟨rfl, rfl, trivial⟩, (0 : Int), rfl, rfl, h2, hF⟩ ?_
    rintro n7 L' V8 M' ⟨x6, rfl, rfl, h9, hF⟩
    rcases n7 with _ | n7
    · exact absurd hF (by simp [F_clockworkref31_FewMails_L1])
    rw [F_clockworkref31_FewMails_L1] at hF
    refine Exec.run tyOk 400 rfl ?_
    rcases cond_some hF with ⟨hb, hF⟩ | ⟨hb, hF⟩
    · skip
      refine Exec.ifT rfl hb ?_
      refine Exec.run tyOk 400 rfl ?_
      obtain ⟨q10, hF⟩ := req_some hF
      obtain ⟨c11, hr11, hd11⟩ := SlAt.get h9 q10
      obtain ⟨a12, k12, a13, k13, rfl, h12, h13⟩ := hr11
      refine Exec.ia tyOk rfl rfl ⟨q10.1, q10.2, hd11.some⟩ ?_
      refine Exec.run tyOk 400 rfl ?_
      refine Exec.ld tyOk (x := .slice a12 (((atI x1 x6).Keys).length) (k12)) rfl rfl (RdAt.part hd11 3 1 rfl) rfl rfl ?_
      refine Exec.run tyOk 400 rfl ?_
      obtain ⟨q14, hF⟩ := req_some hF
      obtain ⟨c15, hr15, hd15⟩ := SlAt.gget (((decide ((10 : Int) < ((((atI x1 x6).Keys).length : Nat) : Int)))) == false) h9 q14
      obtain ⟨a16, k16, a17, k17, rfl, h16, h17⟩ := hr15
      refine Exec.ia tyOk rfl rfl (fun gg0 => ⟨(q14 (gd1_of gg0)).1, (q14 (gd1_of gg0)).2, (hd15 (gd1_of gg0)).some⟩) ?_
      refine Exec.run tyOk 400 rfl ?_
      refine Exec.ld tyOk (x := .slice a17 (((cond (((decide ((10 : Int) < ((((atI x1 x6).Keys).length : Nat) : Int)))) == false) (atI x1 x6) default).Pairs).length) (k17)) rfl rfl (fun gg0 => (RdAt.part (hd15 (gd1_of gg0)) 4 1 rfl)) rfl rfl ?_
      refine Exec.run tyOk 400 rfl ?_
      obtain ⟨x18, hx18, hF⟩ := bnd_some hF
      refine Exec.callS (.bool (x18)) rfl rfl (fun gg0 => W_clockworkref31_Few ((cond (((decide ((10 : Int) < ((((atI x1 x6).Keys).length : Nat) : Int)))) == false) (atI x1 x6) default).Pairs) ((10 : Int)) h17 (gcall_some hx18 (gd1_of gg0))) ?_
      refine Exec.run tyOk 400 rfl ?_
      rcases cond_some hF with ⟨hb, hF⟩ | ⟨hb, hF⟩
      · skip
        refine Exec.ifT rfl hb ?_
        refine Exec.run tyOk 400 rfl ?_
        obtain rfl := some_inj hF
        exact Exec.ret tyOk rfl rfl rfl
      · skip
        refine Exec.ifF rfl hb ?_
        refine Exec.run tyOk 5 rfl ?_
        obtain ⟨J19, hJ19, hF⟩ := jn_some hF
        refine Exec.seam (fun L' V' M' => L' = [(0, .v (.slice a2 ((x1).length) (k2))), (3, .v (.int .i64 (x6)))] ∧ M' = [] ∧ SlAt cTMail V' a2 k2 x1 ∧ J19 = some r) rfl ?_ ?_
        · rintro L' V20 M' ⟨rfl, rfl, h21, hF⟩
          subst hJ19
          refine Exec.run tyOk 400 rfl ?_
          exact Exec.round [(0, .v (.slice a2 ((x1).length) (k2))), (3, .v (.int .i64 ((IntKind.i64.wrap (x6 + (1 : Int))))))] ⟨rfl, rfl, trivial⟩ ⟨n7, Nat.lt_succ_self _, (IntKind.i64.wrap (x6 + (1 : Int))), rfl, rfl, h21, hF⟩
        · skip
          refine Exec.run tyOk 400 rfl ?_
          refine Exec.loop (fun n23 L' V' M' => ∃ (x22 : Int), L' = [(0, .v (.slice a2 ((x1).length) (k2))), (3, .v (.int .i64 (x6))), (4, .v (.int .i64 (x22)))] ∧ M' = [] ∧ SlAt cTMail V' a2 k2 x1 ∧ F_clockworkref31_FewMails_L2 x6 x1 J19 n23 x22 = some r) ⟨(1000000 : Nat), [(0, .v (.slice a2 ((x1).length) (k2))), (3, .v (.int .i64 (x6))), (4, .v (.int .i64 ((0 : Int))))], ⟨rfl, rfl, rfl, trivial⟩, (0 : Int), rfl, rfl, h9, hF⟩ ?_
          rintro n23 L' V24 M' ⟨x22, rfl, rfl, h25, hF⟩
          rcases n23 with _ | n23
          · exact absurd hF (by simp [F_clockworkref31_FewMails_L2])
          rw [F_clockworkref31_FewMails_L2] at hF
          refine Exec.run tyOk 400 rfl ?_
          obtain ⟨q26, hF⟩ := req_some hF
          obtain ⟨c27, hr27, hd27⟩ := SlAt.get h25 q26
          obtain ⟨a28, k28, a29, k29, rfl, h28, h29⟩ := hr27
          refine Exec.ia tyOk rfl rfl ⟨q26.1, q26.2, hd27.some⟩ ?_
          refine Exec.run tyOk 400 rfl ?_
          refine Exec.ld tyOk (x := .slice a28 (((atI x1 x6).Keys).length) (k28)) rfl rfl (RdAt.part hd27 3 1 rfl) rfl rfl ?_
          refine Exec.run tyOk 400 rfl ?_
          rcases cond_some hF with ⟨hb, hF⟩ | ⟨hb, hF⟩
          · skip
            refine Exec.ifT rfl hb ?_
            refine Exec.run tyOk 400 rfl ?_
            obtain ⟨q30, hF⟩ := req_some hF
            obtain ⟨c31, hr31, hd31⟩ := SlAt.get h25 q30
            obtain ⟨a32, k32, a33, k33, rfl, h32, h33⟩ := hr31
            refine Exec.ia tyOk rfl rfl ⟨q30.1, q30.2, hd31.some⟩ ?_
            refine Exec.run tyOk 400 rfl ?_
            refine Exec.ld tyOk (x := .slice a32 (((atI x1 x6).Keys).length) (k32)) rfl rfl (RdAt.part hd31 3 1 rfl) rfl rfl ?_
            refine Exec.run tyOk 400 rfl ?_
            obtain ⟨q34, hF⟩ := req_some hF
            obtain ⟨c35, hr35, hd35⟩ := SlAt.get h32 q34
            obtain rfl := hr35
            refine Exec.ia tyOk rfl rfl ⟨q34.1, q34.2, hd35.some⟩ ?_
            refine Exec.run tyOk 400 rfl ?_
            refine Exec.ld tyOk (x := .string ⟨⟨(atI ((atI x1 x6).Keys) x22)⟩⟩) rfl rfl hd35 rfl rfl ?_
            refine Exec.run tyOk 400 rfl ?_
            rcases cond_some hF with ⟨hb, hF⟩ | ⟨hb, hF⟩
            · skip
              refine Exec.ifT rfl hb ?_
              refine Exec.run tyOk 400 rfl ?_
              obtain rfl := some_inj hF
              exact Exec.ret tyOk rfl rfl rfl
            · skip
              refine Exec.ifF rfl hb ?_
              refine Exec.run tyOk 400 rfl ?_
              exact Exec.round [(0, .v (.slice a2 ((x1).length) (k2))), (3, .v (.int .i64 (x6))), (4, .v (.int .i64 ((IntKind.i64.wrap (x22 + (1 : Int))))))] ⟨rfl, rfl, rfl, trivial⟩ ⟨n23, Nat.lt_succ_self _, (IntKind.i64.wrap (x22 + (1 : Int))), rfl, rfl, h25, hF⟩
          · skip
            refine Exec.ifF rfl hb ?_
            refine Exec.run tyOk 400 rfl ?_
            exact Exec.round [(0, .v (.slice a2 ((x1).length) (k2))), (3, .v (.int .i64 (x6)))] ⟨rfl, rfl, trivial⟩ ⟨rfl, rfl, h25, hF⟩
    · skip
      refine Exec.ifF rfl hb ?_
      refine Exec.run tyOk 400 rfl ?_
      exact Exec.round [(0, .v (.slice a2 ((x1).length) (k2)))] ⟨rfl, trivial⟩ ⟨rfl, rfl, h9, hF⟩

def F_slices_ContainsFunc_api_Mail_api_Mail (x1 : List TMail) (g4 : TMail → Option Bool) : Option Bool :=
  (bnd (F_slices_IndexFunc_api_Mail_api_Mail x1 g4) fun x9 => (some (decide ((0 : Int) ≤ x9))))

set_option maxRecDepth 100000 in
theorem W_slices_ContainsFunc_api_Mail_api_Mail {V : View} (x1 : List TMail) (g4 : TMail → Option Bool) {f4 : Nat} {ca4 : List Value} {a2 : Option Addr} {k2 : Nat} (h2 : SlAt cTMail V a2 k2 x1) (hg4 : FnSpecS1 Try.prog f4 ca4 V cTMail (fun (r : Bool) => .bool (r)) g4) {r : Bool} (hF : F_slices_ContainsFunc_api_Mail_api_Mail x1 g4 = some r) :
    Spec Try.prog 13 [.slice a2 ((x1).length) (k2), .func (.func f4) #[] ⟨ca4⟩] V (fun _ v => v = .bool (r)) := by
  unfold F_slices_ContainsFunc_api_Mail_api_Mail at hF
  refine Spec.enter (T := tyT) Try.func13 rfl (by kernel_rfl) rfl rfl rfl ?_
  refine Exec.run tyOk 400 rfl ?_
  obtain ⟨x9, hx9, hF⟩ := bnd_some hF
  refine Exec.callS (.int .i64 (x9)) rfl rfl (W_slices_IndexFunc_api_Mail_api_Mail x1 g4 h2 hg4 hx9) ?_
  refine Exec.run tyOk 400 rfl ?_
  obtain rfl := some_inj hF
  exact Exec.ret tyOk rfl rfl rfl

def F_slices_Contains_int_int (x1 : List Int) (x3 : Int) : Option Bool :=
  (bnd (F_slices_Index_int_int x1 x3) fun x4 => (some (decide ((0 : Int) ≤ x4))))

set_option maxRecDepth 100000 in
theorem W_slices_Contains_int_int {V : View} (x1 : List Int) (x3 : Int) {a2 : Option Addr} {k2 : Nat} (h2 : SlAt (cInt .i64) V a2 k2 x1) {r : Bool} (hF : F_slices_Contains_int_int x1 x3 = some r) :
    Spec Try.prog 20 [.slice a2 ((x1).length) (k2), .int .i64 (x3)] V (fun _ v => v = .bool (r)) := by
  unfold F_slices_Contains_int_int at hF
  refine Spec.enter (T := tyT) Try.func20 rfl (by kernel_rfl) rfl rfl rfl ?_
  refine Exec.run tyOk 400 rfl ?_
  obtain ⟨x4, hx4, hF⟩ := bnd_some hF
  refine Exec.callS (.int .i64 (x4)) rfl rfl (W_slices_Index_int_int x1 x3 h2 hx4) ?_
  refine Exec.run tyOk 400 rfl ?_
  obtain rfl := some_inj hF
  exact Exec.ret tyOk rfl rfl rfl

def F_keys_Same (x1 : List Str) (x3 : List Str) : Option Bool :=
  (bnd (F_slices_Equal_string_string x1 x3) fun x5 => (some x5))

set_option maxRecDepth 100000 in
theorem W_keys_Same {V : View} (x1 : List Str) (x3 : List Str) {a2 : Option Addr} {k2 : Nat} {a4 : Option Addr} {k4 : Nat} (h2 : SlAt cStr V a2 k2 x1) (h4 : SlAt cStr V a4 k4 x3) {r : Bool} (hF : F_keys_Same x1 x3 = some r) :
    Spec Try.prog 29 [.slice a2 ((x1).length) (k2), .slice a4 ((x3).length) (k4)] V (fun _ v => v = .bool (r)) := by
  unfold F_keys_Same at hF
  refine Spec.enter (T := tyT) Try.func29 rfl (by kernel_rfl) rfl rfl rfl ?_
  refine Exec.run tyOk 400 rfl ?_
  obtain ⟨x5, hx5, hF⟩ := bnd_some hF
  refine Exec.callS (.bool (x5)) rfl rfl (W_slices_Equal_string_string x1 x3 h2 h4 hx5) ?_
  refine Exec.run tyOk 400 rfl ?_
  obtain rfl := some_inj hF
  exact Exec.ret tyOk rfl rfl rfl

def F_state_Same (x1 : List TPair) (x3 : List TPair) : Option Bool :=
  (bnd (F_slices_Equal_api_Pair_api_Pair x1 x3) fun x5 => (some x5))

set_option maxRecDepth 100000 in
theorem W_state_Same {V : View} (x1 : List TPair) (x3 : List TPair) {a2 : Option Addr} {k2 : Nat} {a4 : Option Addr} {k4 : Nat} (h2 : SlAt cTPair V a2 k2 x1) (h4 : SlAt cTPair V a4 k4 x3) {r : Bool} (hF : F_state_Same x1 x3 = some r) :
    Spec Try.prog 30 [.slice a2 ((x1).length) (k2), .slice a4 ((x3).length) (k4)] V (fun _ v => v = .bool (r)) := by
  unfold F_state_Same at hF
  refine Spec.enter (T := tyT) Try.func30 rfl (by kernel_rfl) rfl rfl rfl ?_
  refine Exec.run tyOk 400 rfl ?_
  obtain ⟨x5, hx5, hF⟩ := bnd_some hF
  refine Exec.callS (.bool (x5)) rfl rfl (W_slices_Equal_api_Pair_api_Pair x1 x3 h2 h4 hx5) ?_
  refine Exec.run tyOk 400 rfl ?_
  obtain rfl := some_inj hF
  exact Exec.ret tyOk rfl rfl rfl

def F_slices_ContainsFunc_api_Pair_api_Pair (x1 : List TPair) (g4 : TPair → Option Bool) : Option Bool :=
  (bnd (F_slices_IndexFunc_api_Pair_api_Pair x1 g4) fun x5 => (some (decide ((0 : Int) ≤ x5))))

set_option maxRecDepth 100000 in
theorem W_slices_ContainsFunc_api_Pair_api_Pair {V : View} (x1 : List TPair) (g4 : TPair → Option Bool) {f4 : Nat} {ca4 : List Value} {a2 : Option Addr} {k2 : Nat} (h2 : SlAt cTPair V a2 k2 x1) (hg4 : FnSpec1 Try.prog f4 ca4 V (fun (y : TPair) => .agg ⟨[.string ⟨⟨y.Key⟩⟩, .int .i64 (y.Val.Kind), .int .i64 (y.Val.N), .string ⟨⟨y.Val.S⟩⟩]⟩) (fun (r : Bool) => .bool (r)) g4) {r : Bool} (hF : F_slices_ContainsFunc_api_Pair_api_Pair x1 g4 = some r) :
    Spec Try.prog 32 [.slice a2 ((x1).length) (k2), .func (.func f4) #[] ⟨ca4⟩] V (fun _ v => v = .bool (r)) := by
  unfold F_slices_ContainsFunc_api_Pair_api_Pair at hF
  refine Spec.enter (T := tyT) Try.func32 rfl (by kernel_rfl) rfl rfl rfl ?_
  refine Exec.run tyOk 400 rfl ?_
  obtain ⟨x5, hx5, hF⟩ := bnd_some hF
  refine Exec.callS (.int .i64 (x5)) rfl rfl (W_slices_IndexFunc_api_Pair_api_Pair x1 g4 h2 hg4 hx5) ?_
  refine Exec.run tyOk 400 rfl ?_
  obtain rfl := some_inj hF
  exact Exec.ret tyOk rfl rfl rfl

def F_state_order (x1 : TPair) (x2 : TPair) : Option Int :=
  (bnd (F_strings_Compare x1.Key x2.Key) fun x3 => (some x3))

set_option maxRecDepth 100000 in
theorem W_state_order {V : View} (x1 : TPair) (x2 : TPair)   {r : Int} (hF : F_state_order x1 x2 = some r) :
    Spec Try.prog 36 [.agg ⟨[.string ⟨⟨x1.Key⟩⟩, .int .i64 (x1.Val.Kind), .int .i64 (x1.Val.N), .string ⟨⟨x1.Val.S⟩⟩]⟩, .agg ⟨[.string ⟨⟨x2.Key⟩⟩, .int .i64 (x2.Val.Kind), .int .i64 (x2.Val.N), .string ⟨⟨x2.Val.S⟩⟩]⟩] V (fun _ v => v = .int .i64 (r)) := by
  unfold F_state_order at hF
  refine Spec.enter (T := tyT) Try.func36 rfl (by kernel_rfl) rfl rfl rfl ?_
  refine Exec.run tyOk 400 rfl ?_
  obtain ⟨x3, hx3, hF⟩ := bnd_some hF
  refine Exec.callS (.int .i64 (x3)) rfl rfl (W_strings_Compare x1.Key x2.Key  hx3) ?_
  refine Exec.run tyOk 400 rfl ?_
  obtain rfl := some_inj hF
  exact Exec.ret tyOk rfl rfl rfl

def F_slices_Contains_string_string (x1 : List Str) (x3 : Str) : Option Bool :=
  (bnd (F_slices_Index_string_string x1 x3) fun x4 => (some (decide ((0 : Int) ≤ x4))))

set_option maxRecDepth 100000 in
theorem W_slices_Contains_string_string {V : View} (x1 : List Str) (x3 : Str) {a2 : Option Addr} {k2 : Nat} (h2 : SlAt cStr V a2 k2 x1) {r : Bool} (hF : F_slices_Contains_string_string x1 x3 = some r) :
    Spec Try.prog 44 [.slice a2 ((x1).length) (k2), .string ⟨⟨x3⟩⟩] V (fun _ v => v = .bool (r)) := by
  unfold F_slices_Contains_string_string at hF
  refine Spec.enter (T := tyT) Try.func44 rfl (by kernel_rfl) rfl rfl rfl ?_
  refine Exec.run tyOk 400 rfl ?_
  obtain ⟨x4, hx4, hF⟩ := bnd_some hF
  refine Exec.callS (.int .i64 (x4)) rfl rfl (W_slices_Index_string_string x1 x3 h2 hx4) ?_
  refine Exec.run tyOk 400 rfl ?_
  obtain rfl := some_inj hF
  exact Exec.ret tyOk rfl rfl rfl

def F_placement_find (x1 : List TPart) (x3 : Int) : Option Int :=
  (bnd (F_slices_IndexFunc_api_Part_api_Part x1 (fun y0 => F_placement_find_1 y0 x3)) fun x6 => (some x6))

set_option maxRecDepth 100000 in
theorem W_placement_find {V : View} (x1 : List TPart) (x3 : Int) {a2 : Option Addr} {k2 : Nat} (h2 : SlAt cTPart V a2 k2 x1) {r : Int} (hF : F_placement_find x1 x3 = some r) :
    Spec Try.prog 50 [.slice a2 ((x1).length) (k2), .int .i64 (x3)] V (fun _ v => v = .int .i64 (r)) := by
  unfold F_placement_find at hF
  refine Spec.enter (T := tyT) Try.func50 rfl (by kernel_rfl) rfl rfl rfl ?_
  refine Exec.run tyOk 400 rfl ?_
  refine Exec.openB 0 rfl rfl rfl rfl (fun _ => rfl) (fun _ => rfl) (fun V4 b4 hv4 hd4 => ?_)
  have h5 := SlAt.mono h2 hv4
  refine Exec.mkf rfl rfl ?_
  refine Exec.run tyOk 400 rfl ?_
  obtain ⟨x6, hx6, hF⟩ := bnd_some hF
  refine Exec.callS (.int .i64 (x6)) rfl rfl (W_slices_IndexFunc_api_Part_api_Part x1 (fun y0 => F_placement_find_1 y0 x3) h5 (fun V' hv y0 r hr => W_placement_find_1 y0 x3 (RdAt.mono hd4 hv) hr) hx6) ?_
  refine Exec.run tyOk 400 rfl ?_
  obtain rfl := some_inj hF
  exact Exec.ret tyOk rfl rfl rfl

def F_keys_Valid (x1 : Str) : Option Bool :=
  (bnd (gcall (((x1 != ([] : Str))) == true) (F_keys_consists x1 (fun y0 => F_keys_Valid_1 y0 ))) fun x2 => (some ((x1 != ([] : Str)) && x2)))

set_option maxRecDepth 100000 in
theorem W_keys_Valid {V : View} (x1 : Str)   {r : Bool} (hF : F_keys_Valid x1 = some r) :
    Spec Try.prog 54 [.string ⟨⟨x1⟩⟩] V (fun _ v => v = .bool (r)) := by
  unfold F_keys_Valid at hF
  refine Spec.enter (T := tyT) Try.func54 rfl (by kernel_rfl) rfl rfl rfl ?_
  refine Exec.run tyOk 400 rfl ?_
  obtain ⟨x2, hx2, hF⟩ := bnd_some hF
  refine Exec.callS (.bool (x2)) rfl rfl (fun gg0 => W_keys_consists x1 (fun y0 => F_keys_Valid_1 y0 ) (fun V' hv y0 r hr => W_keys_Valid_1 y0   hr) (gcall_some hx2 (gd1_of gg0))) ?_
  refine Exec.run tyOk 400 rfl ?_
  obtain rfl := some_inj hF
  exact Exec.ret tyOk rfl rfl rfl

def F_value_Valid (x1 : TValue) : Option Bool :=
  (cond (x1.Kind == (0 : Int)) (some ((x1.Kind == 0) && ((x1.N == 0) && ((x1.S == []) && true)))) (cond (x1.Kind == (1 : Int)) (some (x1.S == ([] : Str))) (cond (x1.Kind == (2 : Int)) (bnd (gcall (((x1.N == (0 : Int))) == true) (F_value_plain x1.S)) fun x2 => (some ((x1.N == (0 : Int)) && x2))) (some false))))

set_option maxRecDepth 100000 in
theorem W_value_Valid {V : View} (x1 : TValue)   {r : Bool} (hF : F_value_Valid x1 = some r) :
    Spec Try.prog 55 [.agg ⟨[.int .i64 (x1.Kind), .int .i64 (x1.N), .string ⟨⟨x1.S⟩⟩]⟩] V (fun _ v => v = .bool (r)) := by
  unfold F_value_Valid at hF
  refine Spec.enter (T := tyT) Try.func55 rfl (by kernel_rfl) rfl rfl rfl ?_
  refine Exec.run tyOk 400 rfl ?_
  rcases cond_some hF with ⟨hb, hF⟩ | ⟨hb, hF⟩
  · skip
    refine Exec.ifT rfl hb ?_
    refine Exec.run tyOk 400 rfl ?_
    obtain rfl := some_inj hF
    exact Exec.ret tyOk rfl rfl rfl
  · skip
    refine Exec.ifF rfl hb ?_
    refine Exec.run tyOk 400 rfl ?_
    rcases cond_some hF with ⟨hb, hF⟩ | ⟨hb, hF⟩
    · skip
      refine Exec.ifT rfl hb ?_
      refine Exec.run tyOk 400 rfl ?_
      obtain rfl := some_inj hF
      exact Exec.ret tyOk rfl rfl rfl
    · skip
      refine Exec.ifF rfl hb ?_
      refine Exec.run tyOk 400 rfl ?_
      rcases cond_some hF with ⟨hb, hF⟩ | ⟨hb, hF⟩
      · skip
        refine Exec.ifT rfl hb ?_
        refine Exec.run tyOk 400 rfl ?_
        obtain ⟨x2, hx2, hF⟩ := bnd_some hF
        refine Exec.callS (.bool (x2)) rfl rfl (fun gg0 => W_value_plain x1.S  (gcall_some hx2 (gd1_of gg0))) ?_
        refine Exec.run tyOk 400 rfl ?_
        obtain rfl := some_inj hF
        exact Exec.ret tyOk rfl rfl rfl
      · skip
        refine Exec.ifF rfl hb ?_
        refine Exec.run tyOk 400 rfl ?_
        obtain rfl := some_inj hF
        exact Exec.ret tyOk rfl rfl rfl

def F_exchange_same (x1 : TMail) (x4 : TMail) : Option Bool :=
  (bnd (gcall (((((x1.Txn == x4.Txn) && (x1.From == x4.From)) && (x1.To == x4.To))) == true) (F_keys_Same x1.Keys x4.Keys)) fun x7 => (bnd (gcall ((((((x1.Txn == x4.Txn) && (x1.From == x4.From)) && (x1.To == x4.To)) && x7)) == true) (F_state_Same x1.Pairs x4.Pairs)) fun x8 => (some (((((x1.Txn == x4.Txn) && (x1.From == x4.From)) && (x1.To == x4.To)) && x7) && x8))))

set_option maxRecDepth 100000 in
theorem W_exchange_same {V : View} (x1 : TMail) (x4 : TMail) {a2 : Option Addr} {k2 : Nat} {a3 : Option Addr} {k3 : Nat} {a5 : Option Addr} {k5 : Nat} {a6 : Option Addr} {k6 : Nat} (h2 : SlAt cStr V a2 k2 x1.Keys) (h3 : SlAt cTPair V a3 k3 x1.Pairs) (h5 : SlAt cStr V a5 k5 x4.Keys) (h6 : SlAt cTPair V a6 k6 x4.Pairs) {r : Bool} (hF : F_exchange_same x1 x4 = some r) :
    Spec Try.prog 15 [.agg ⟨[.int .i64 (x1.Txn), .int .i64 (x1.From), .int .i64 (x1.To), .slice a2 ((x1.Keys).length) (k2), .slice a3 ((x1.Pairs).length) (k3)]⟩, .agg ⟨[.int .i64 (x4.Txn), .int .i64 (x4.From), .int .i64 (x4.To), .slice a5 ((x4.Keys).length) (k5), .slice a6 ((x4.Pairs).length) (k6)]⟩] V (fun _ v => v = .bool (r)) := by
  unfold F_exchange_same at hF
  refine Spec.enter (T := tyT) Try.func15 rfl (by kernel_rfl) rfl rfl rfl ?_
  refine Exec.run tyOk 400 rfl ?_
  obtain ⟨x7, hx7, hF⟩ := bnd_some hF
  refine Exec.callS (.bool (x7)) rfl rfl (fun gg0 => W_keys_Same x1.Keys x4.Keys h2 h5 (gcall_some hx7 (gd1_of gg0))) ?_
  refine Exec.run tyOk 400 rfl ?_
  obtain ⟨x8, hx8, hF⟩ := bnd_some hF
  refine Exec.callS (.bool (x8)) rfl rfl (fun gg0 => W_state_Same x1.Pairs x4.Pairs h3 h6 (gcall_some hx8 (gd1_of gg0))) ?_
  refine Exec.run tyOk 400 rfl ?_
  obtain rfl := some_inj hF
  exact Exec.ret tyOk rfl rfl rfl

def F_placement_Valid_L1 (x1 : TPlacement) (J5 : Option Bool) : Nat → Int → Option Bool
  | 0, _ => none
  | n8 + 1, x7 => (cond (decide (x7 < (((x1.Parts).length : Nat) : Int))) (req (0 ≤ x7 ∧ x7 < ((x1.Parts).length : Int)) (bnd (gcall (((decide ((0 : Int) < x7))) == true) (F_placement_bound ((atI x1.Parts x7).From))) fun x13 => (req (((((!x13)) == false) && (((decide ((0 : Int) < x7))) == true)) = true → 0 ≤ (IntKind.i64.wrap (x7 - (1 : Int))) ∧ (IntKind.i64.wrap (x7 - (1 : Int))) < ((x1.Parts).length : Int)) (cond ((decide ((0 : Int) < x7)) && ((!x13) || (!sLt (cond ((((!x13)) == false) && (((decide ((0 : Int) < x7))) == true)) (atI x1.Parts ((IntKind.i64.wrap (x7 - (1 : Int))))) default).From (atI x1.Parts x7).From))) (some false) (bnd (F_placement_number ((atI x1.Parts x7).Id)) fun x16 => (bnd (gcall (((!x16)) == false) (F_placement_node ((atI x1.Parts x7).Node))) fun x17 => (bnd (gcall ((((!x16) || (!x17))) == false) (F_placement_validMove x1.Parts x7)) fun x18 => (req ((((((!x16) || (!x17)) || (!x18))) == false) = true → 0 ≤ (0 : Int) ∧ (0 : Int) ≤ x7 ∧ x7 ≤ ((x1.Parts).length : Int)) (bnd (gcall (((((!x16) || (!x17)) || (!x18))) == false) (F_placement_find ((cond ((((((!x16) || (!x17)) || (!x18))) == false)) ((x1.Parts.take (x7).toNat).drop ((0 : Int)).toNat) ([] : List TPart))) ((atI x1.Parts x7).Id))) fun x21 => (cond ((((!x16) || (!x17)) || (!x18)) || (decide ((0 : Int) ≤ x21))) (some false) (F_placement_Valid_L1 x1 J5 n8 ((IntKind.i64.wrap (x7 + (1 : Int))))))))))))))) J5)

def F_placement_Valid (x1 : TPlacement) : Option Bool :=
  (req (((((((decide (x1.Version < (0 : Int))) || (decide ((1099511627776 : Int) < x1.Version))) || (decide ((((x1.Parts).length : Nat) : Int) < (1 : Int)))) || (decide ((16 : Int) < (((x1.Parts).length : Nat) : Int))))) == false) = true → 0 ≤ (0 : Int) ∧ (0 : Int) < ((x1.Parts).length : Int)) (cond (((((decide (x1.Version < (0 : Int))) || (decide ((1099511627776 : Int) < x1.Version))) || (decide ((((x1.Parts).length : Nat) : Int) < (1 : Int)))) || (decide ((16 : Int) < (((x1.Parts).length : Nat) : Int)))) || ((cond ((((((decide (x1.Version < (0 : Int))) || (decide ((1099511627776 : Int) < x1.Version))) || (decide ((((x1.Parts).length : Nat) : Int) < (1 : Int)))) || (decide ((16 : Int) < (((x1.Parts).length : Nat) : Int))))) == false) (atI x1.Parts ((0 : Int))) default).From != ([] : Str))) (some false) (jn ((some true)) (fun J5 => (F_placement_Valid_L1 x1 J5 (((((x1.Parts).length : Nat) : Int)).toNat + 1) ((0 : Int)))))))

set_option maxRecDepth 100000 in
theorem W_placement_Valid {V : View} (x1 : TPlacement) {a2 : Option Addr} {k2 : Nat} (h2 : SlAt cTPart V a2 k2 x1.Parts) {r : Bool} (hF : F_placement_Valid x1 = some r) :
    Spec Try.prog 25 [.agg ⟨[.int .i64 (x1.Version), .slice a2 ((x1.Parts).length) (k2)]⟩] V (fun _ v => v = .bool (r)) := by
  unfold F_placement_Valid at hF
  refine Spec.enter (T := tyT) Try.func25 rfl (by kernel_rfl) rfl rfl rfl ?_
  refine Exec.run tyOk 400 rfl ?_
  obtain ⟨q3, hF⟩ := req_some hF
  obtain ⟨c4, hr4, hd4⟩ := SlAt.gget ((((((decide (x1.Version < (0 : Int))) || (decide ((1099511627776 : Int) < x1.Version))) || (decide ((((x1.Parts).length : Nat) : Int) < (1 : Int)))) || (decide ((16 : Int) < (((x1.Parts).length : Nat) : Int))))) == false) h2 q3
  obtain rfl := hr4
  refine Exec.ia tyOk rfl rfl (fun gg0 => ⟨(q3 (gd1_of gg0)).1, (q3 (gd1_of gg0)).2, (hd4 (gd1_of gg0)).some⟩) ?_
  refine Exec.run tyOk 400 rfl ?_
  refine Exec.ld tyOk (x := .string ⟨⟨(cond ((((((decide (x1.Version < (0 : Int))) || (decide ((1099511627776 : Int) < x1.Version))) || (decide ((((x1.Parts).length : Nat) : Int) < (1 : Int)))) || (decide ((16 : Int) < (((x1.Parts).length : Nat) : Int))))) == false) (atI x1.Parts ((0 : Int))) default).From⟩⟩) rfl rfl (fun gg0 => (RdAt.part (hd4 (gd1_of gg0)) 1 1 rfl)) rfl rfl ?_
  refine Exec.run tyOk 400 rfl ?_
  rcases cond_some hF with ⟨hb, hF⟩ | ⟨hb, hF⟩
  · skip
    refine Exec.ifT rfl hb ?_
    refine Exec.run tyOk 400 rfl ?_
    obtain rfl := some_inj hF
    exact Exec.ret tyOk rfl rfl rfl
  · skip
    refine Exec.ifF rfl hb ?_
    refine Exec.run tyOk 9 rfl ?_
    obtain ⟨J5, hJ5, hF⟩ := jn_some hF
    refine Exec.seam (fun L' V' M' => L' = [] ∧ M' = [] ∧ J5 = some r) rfl ?_ ?_
    · rintro L' V6 M' ⟨rfl, rfl, hF⟩
      subst hJ5
      refine Exec.run tyOk 400 rfl ?_
      obtain rfl := some_inj hF
      exact Exec.ret tyOk rfl rfl rfl
    · skip
      refine Exec.run tyOk 400 rfl ?_
      refine Exec.loop (fun n8 L' V' M' => ∃ (x7 : Int), L' = [(1, .ptr 0 0), (34, .v (.slice a2 ((x1.Parts).length) (k2))), (35, .v (.int .i64 ((((x1.Parts).length : Nat) : Int)))), (36, .v (.int .i64 (x7)))] ∧ M' = [.blk [.v (.int .i64 (x1.Version)), .v (.slice a2 ((x1.Parts).length) (k2))] 39] ∧ SlAt cTPart V' a2 k2 x1.Parts ∧ F_placement_Valid_L1 x1 J5 n8 x7 = some r) ⟨(((((x1.Parts).length : Nat) : Int)).toNat + 1), [(1, .ptr 0 0), (34, .v (.slice a2 ((x1.Parts).length) (k2))), (35, .v (.int .i64 ((((x1.Parts).length : Nat) : Int)))), (36, .v (.int .i64 ((0 : Int))))], ⟨rfl, rfl, rfl, rfl, trivial⟩, (0 : Int), rfl, rfl, h2, hF⟩ ?_
      rintro n8 L' V9 M' ⟨x7, rfl, rfl, h10, hF⟩
      rcases n8 with _ | n8
      · exact absurd hF (by simp [F_placement_Valid_L1])
      rw [F_placement_Valid_L1] at hF
      refine Exec.run tyOk 400 rfl ?_
      rcases cond_some hF with ⟨hb, hF⟩ | ⟨hb, hF⟩
      · skip
        refine Exec.ifT rfl hb ?_
        refine Exec.run tyOk 400 rfl ?_
        obtain ⟨q11, hF⟩ := req_some hF
        obtain ⟨c12, hr12, hd12⟩ := SlAt.get h10 q11
        obtain rfl := hr12
        refine Exec.ia tyOk rfl rfl ⟨q11.1, q11.2, hd12.some⟩ ?_
        refine Exec.run tyOk 400 rfl ?_
        refine Exec.ld tyOk (x := .agg ⟨[.int .i64 ((atI x1.Parts x7).Id), .string ⟨⟨(atI x1.Parts x7).From⟩⟩, .int .i64 ((atI x1.Parts x7).Node), .int .i64 ((atI x1.Parts x7).Dest), .string ⟨⟨(atI x1.Parts x7).Done⟩⟩]⟩) rfl rfl hd12 rfl rfl ?_
        refine Exec.run tyOk 400 rfl ?_
        refine Exec.draws tyOk [(0, true), (1, true), (2, true), (3, true), (4, true), (5, false), (6, false), (7, false), (8, true), (9, true), (10, true), (11, true), (12, false), (13, false), (14, false), (15, false), (16, false), (17, false), (18, false), (19, false)] rfl (by kernel_rfl) ?_
        refine Exec.run tyOk 400 rfl ?_
        obtain ⟨x13, hx13, hF⟩ := bnd_some hF
        refine Exec.callS (.bool (x13)) rfl rfl (fun gg0 => W_placement_bound ((atI x1.Parts x7).From)  (gcall_some hx13 (gd1_of gg0))) ?_
        refine Exec.run tyOk 400 rfl ?_
        obtain ⟨q14, hF⟩ := req_some hF
        obtain ⟨c15, hr15, hd15⟩ := SlAt.gget ((((!x13)) == false) && (((decide ((0 : Int) < x7))) == true)) h10 q14
        obtain rfl := hr15
        refine Exec.ia tyOk rfl rfl (fun gg0 gg1 => ⟨(q14 (gd2_of gg0 gg1)).1, (q14 (gd2_of gg0 gg1)).2, (hd15 (gd2_of gg0 gg1)).some⟩) ?_
        refine Exec.run tyOk 400 rfl ?_
        refine Exec.ld tyOk (x := .string ⟨⟨(cond ((((!x13)) == false) && (((decide ((0 : Int) < x7))) == true)) (atI x1.Parts ((IntKind.i64.wrap (x7 - (1 : Int))))) default).From⟩⟩) rfl rfl (fun gg0 gg1 => (RdAt.part (hd15 (gd2_of gg0 gg1)) 1 1 rfl)) rfl rfl ?_
        refine Exec.run tyOk 400 rfl ?_
        rcases cond_some hF with ⟨hb, hF⟩ | ⟨hb, hF⟩
        · skip
          refine Exec.ifT rfl hb ?_
          refine Exec.run tyOk 400 rfl ?_
          obtain rfl := some_inj hF
          exact Exec.ret tyOk rfl rfl rfl
        · skip
          refine Exec.ifF rfl hb ?_
          refine Exec.run tyOk 400 rfl ?_
          refine Exec.draws tyOk [(0, true), (1, true), (2, false), (3, false), (4, false), (5, false), (6, false), (7, false), (8, false), (9, false), (10, false), (11, true), (12, true), (13, false), (14, false), (15, false), (16, false), (17, false), (18, true), (19, true), (20, true), (21, true), (22, false), (23, false), (24, false), (25, false), (26, false)] rfl (by kernel_rfl) ?_
          refine Exec.run tyOk 400 rfl ?_
          obtain ⟨x16, hx16, hF⟩ := bnd_some hF
          refine Exec.callS (.bool (x16)) rfl rfl (W_placement_number ((atI x1.Parts x7).Id)  hx16) ?_
          refine Exec.run tyOk 400 rfl ?_
          obtain ⟨x17, hx17, hF⟩ := bnd_some hF
          refine Exec.callS (.bool (x17)) rfl rfl (fun gg0 => W_placement_node ((atI x1.Parts x7).Node)  (gcall_some hx17 (gd1_of gg0))) ?_
          refine Exec.run tyOk 400 rfl ?_
          obtain ⟨x18, hx18, hF⟩ := bnd_some hF
          refine Exec.callS (.bool (x18)) rfl rfl (fun gg0 => W_placement_validMove x1.Parts x7 h10 (gcall_some hx18 (gd1_of gg0))) ?_
          refine Exec.run tyOk 400 rfl ?_
          obtain ⟨q19, hF⟩ := req_some hF
          refine Exec.fgslv tyOk (c := cTPart) (g := (((((!x16) || (!x17)) || (!x18))) == false)) rfl rfl rfl (lo := (0 : Int)) (hi := x7) rfl rfl h10 (by simp) rfl (fun gg0 => gd1_of gg0) q19 (fun a20 k20 h20 => ?_)
          refine Exec.run tyOk 400 rfl ?_
          obtain ⟨x21, hx21, hF⟩ := bnd_some hF
          refine Exec.callS (.int .i64 (x21)) rfl rfl (fun gg0 => W_placement_find ((cond ((((((!x16) || (!x17)) || (!x18))) == false)) ((x1.Parts.take (x7).toNat).drop ((0 : Int)).toNat) ([] : List TPart))) ((atI x1.Parts x7).Id) h20 (gcall_some hx21 (gd1_of gg0))) ?_
          refine Exec.run tyOk 400 rfl ?_
          rcases cond_some hF with ⟨hb, hF⟩ | ⟨hb, hF⟩
          · skip
            refine Exec.ifT rfl hb ?_
            refine Exec.run tyOk 400 rfl ?_
            obtain rfl := some_inj hF
            exact Exec.ret tyOk rfl rfl rfl
          · skip
            refine Exec.ifF rfl hb ?_
            refine Exec.run tyOk 400 rfl ?_
            refine Exec.cut 1 [(1, .ptr 0 0), (34, .v (.slice a2 ((x1.Parts).length) (k2))), (35, .v (.int .i64 ((((x1.Parts).length : Nat) : Int)))), (36, .v (.int .i64 ((IntKind.i64.wrap (x7 + (1 : Int))))))] (M' := [.blk [.v (.int .i64 (x1.Version)), .v (.slice a2 ((x1.Parts).length) (k2))] 39]) rfl ⟨rfl, rfl, rfl, rfl, trivial⟩ rfl rfl rfl ?_
            exact Exec.round [(1, .ptr 0 0), (34, .v (.slice a2 ((x1.Parts).length) (k2))), (35, .v (.int .i64 ((((x1.Parts).length : Nat) : Int)))), (36, .v (.int .i64 ((IntKind.i64.wrap (x7 + (1 : Int))))))] ⟨rfl, rfl, rfl, rfl, trivial⟩ ⟨n8, Nat.lt_succ_self _, (IntKind.i64.wrap (x7 + (1 : Int))), rfl, rfl, h10, hF⟩
      · skip
        refine Exec.ifF rfl hb ?_
        refine Exec.run tyOk 400 rfl ?_
        refine Exec.cut 0 [] (M' := []) rfl trivial rfl rfl rfl ?_
        exact Exec.round [] trivial ⟨rfl, rfl, hF⟩

def F_state_sorted_L1 (x1 : List TPair) (J3 : Option Bool) : Nat → Int → Option Bool
  | 0, _ => none
  | n6 + 1, x5 => (cond (decide (x5 < (((x1).length : Nat) : Int))) (req (0 ≤ x5 ∧ x5 < ((x1).length : Int)) (bnd (F_keys_Valid ((atI x1 x5).Key)) fun x11 => (bnd (gcall (((!x11)) == false) (F_value_Valid ((⟨(atI x1 x5).Val.Kind, (atI x1 x5).Val.N, (atI x1 x5).Val.S⟩ : TValue)))) fun x12 => (req (((((decide ((0 : Int) < x5))) == true) && ((((!x11) || (!x12))) == false)) = true → 0 ≤ (IntKind.i64.wrap (x5 - (1 : Int))) ∧ (IntKind.i64.wrap (x5 - (1 : Int))) < ((x1).length : Int)) (cond (((!x11) || (!x12)) || ((decide ((0 : Int) < x5)) && (!sLt (cond ((((decide ((0 : Int) < x5))) == true) && ((((!x11) || (!x12))) == false)) (atI x1 ((IntKind.i64.wrap (x5 - (1 : Int))))) default).Key (atI x1 x5).Key))) (some false) (F_state_sorted_L1 x1 J3 n6 ((IntKind.i64.wrap (x5 + (1 : Int)))))))))) J3)

def F_state_sorted (x1 : List TPair) : Option Bool :=
  (jn ((some true)) (fun J3 => (F_state_sorted_L1 x1 J3 (((((x1).length : Nat) : Int)).toNat + 1) ((0 : Int)))))

set_option maxRecDepth 100000 in
theorem W_state_sorted {V : View} (x1 : List TPair) {a2 : Option Addr} {k2 : Nat} (h2 : SlAt cTPair V a2 k2 x1) {r : Bool} (hF : F_state_sorted x1 = some r) :
    Spec Try.prog 31 [.slice a2 ((x1).length) (k2)] V (fun _ v => v = .bool (r)) := by
  unfold F_state_sorted at hF
  refine Spec.enter (T := tyT) Try.func31 rfl (by kernel_rfl) rfl rfl rfl ?_
  refine Exec.run tyOk 11 rfl ?_
  obtain ⟨J3, hJ3, hF⟩ := jn_some hF
  refine Exec.seam (fun L' V' M' => L' = [] ∧ M' = [] ∧ J3 = some r) rfl ?_ ?_
  · rintro L' V4 M' ⟨rfl, rfl, hF⟩
    subst hJ3
    refine Exec.run tyOk 400 rfl ?_
    obtain rfl := some_inj hF
    exact Exec.ret tyOk rfl rfl rfl
  · skip
    refine Exec.run tyOk 400 rfl ?_
    refine Exec.loop (fun n6 L' V' M' => ∃ (x5 : Int), L' = [(0, .v (.slice a2 ((x1).length) (k2))), (5, .v (.slice a2 ((x1).length) (k2))), (6, .v (.int .i64 ((((x1).length : Nat) : Int)))), (7, .v (.int .i64 (x5)))] ∧ M' = [] ∧ SlAt cTPair V' a2 k2 x1 ∧ F_state_sorted_L1 x1 J3 n6 x5 = some r) ⟨(((((x1).length : Nat) : Int)).toNat + 1), [(0, .v (.slice a2 ((x1).length) (k2))), (5, .v (.slice a2 ((x1).length) (k2))), (6, .v (.int .i64 ((((x1).length : Nat) : Int)))), (7, .v (.int .i64 ((0 : Int))))], ⟨rfl, rfl, rfl, rfl, trivial⟩, (0 : Int), rfl, rfl, h2, hF⟩ ?_
    rintro n6 L' V7 M' ⟨x5, rfl, rfl, h8, hF⟩
    rcases n6 with _ | n6
    · exact absurd hF (by simp [F_state_sorted_L1])
    rw [F_state_sorted_L1] at hF
    refine Exec.run tyOk 400 rfl ?_
    rcases cond_some hF with ⟨hb, hF⟩ | ⟨hb, hF⟩
    · skip
      refine Exec.ifT rfl hb ?_
      refine Exec.run tyOk 400 rfl ?_
      obtain ⟨q9, hF⟩ := req_some hF
      obtain ⟨c10, hr10, hd10⟩ := SlAt.get h8 q9
      obtain rfl := hr10
      refine Exec.ia tyOk rfl rfl ⟨q9.1, q9.2, hd10.some⟩ ?_
      refine Exec.run tyOk 400 rfl ?_
      refine Exec.ld tyOk (x := .agg ⟨[.string ⟨⟨(atI x1 x5).Key⟩⟩, .int .i64 ((atI x1 x5).Val.Kind), .int .i64 ((atI x1 x5).Val.N), .string ⟨⟨(atI x1 x5).Val.S⟩⟩]⟩) rfl rfl hd10 rfl rfl ?_
      refine Exec.run tyOk 400 rfl ?_
      refine Exec.draws tyOk [(0, true), (1, true), (2, false), (3, false), (4, false), (5, false), (6, false), (7, false), (8, false), (9, false), (10, false), (11, false), (12, false), (13, false), (14, true), (15, true), (16, true), (17, true), (18, true), (19, true), (20, false), (21, false), (22, false), (23, false), (24, false)] rfl (by kernel_rfl) ?_
      refine Exec.run tyOk 400 rfl ?_
      obtain ⟨x11, hx11, hF⟩ := bnd_some hF
      refine Exec.callS (.bool (x11)) rfl rfl (W_keys_Valid ((atI x1 x5).Key)  hx11) ?_
      refine Exec.run tyOk 400 rfl ?_
      obtain ⟨x12, hx12, hF⟩ := bnd_some hF
      refine Exec.callS (.bool (x12)) rfl rfl (fun gg0 => W_value_Valid ((⟨(atI x1 x5).Val.Kind, (atI x1 x5).Val.N, (atI x1 x5).Val.S⟩ : TValue))  (gcall_some hx12 (gd1_of gg0))) ?_
      refine Exec.run tyOk 400 rfl ?_
      obtain ⟨q13, hF⟩ := req_some hF
      obtain ⟨c14, hr14, hd14⟩ := SlAt.gget ((((decide ((0 : Int) < x5))) == true) && ((((!x11) || (!x12))) == false)) h8 q13
      obtain rfl := hr14
      refine Exec.fia tyOk rfl rfl rfl (fun gg0 gg1 => ⟨(q13 (gd2_of gg0 gg1)).1, (q13 (gd2_of gg0 gg1)).2, (hd14 (gd2_of gg0 gg1)).some⟩) ?_
      refine Exec.run tyOk 400 rfl ?_
      refine Exec.fld tyOk (x := .string ⟨⟨(cond ((((decide ((0 : Int) < x5))) == true) && ((((!x11) || (!x12))) == false)) (atI x1 ((IntKind.i64.wrap (x5 - (1 : Int))))) default).Key⟩⟩) rfl rfl rfl (fun gg0 gg1 => (RdAt.part (hd14 (gd2_of gg0 gg1)) 0 1 rfl)) rfl rfl ?_
      refine Exec.run tyOk 400 rfl ?_
      rcases cond_some hF with ⟨hb, hF⟩ | ⟨hb, hF⟩
      · skip
        refine Exec.ifT rfl hb ?_
        refine Exec.run tyOk 400 rfl ?_
        obtain rfl := some_inj hF
        exact Exec.ret tyOk rfl rfl rfl
      · skip
        refine Exec.ifF rfl hb ?_
        refine Exec.run tyOk 400 rfl ?_
        refine Exec.cut 0 [(0, .v (.slice a2 ((x1).length) (k2))), (5, .v (.slice a2 ((x1).length) (k2))), (6, .v (.int .i64 ((((x1).length : Nat) : Int)))), (7, .v (.int .i64 ((IntKind.i64.wrap (x5 + (1 : Int))))))] (M' := []) rfl ⟨rfl, rfl, rfl, rfl, trivial⟩ rfl rfl rfl ?_
        exact Exec.round [(0, .v (.slice a2 ((x1).length) (k2))), (5, .v (.slice a2 ((x1).length) (k2))), (6, .v (.int .i64 ((((x1).length : Nat) : Int)))), (7, .v (.int .i64 ((IntKind.i64.wrap (x5 + (1 : Int))))))] ⟨rfl, rfl, rfl, rfl, trivial⟩ ⟨n6, Nat.lt_succ_self _, (IntKind.i64.wrap (x5 + (1 : Int))), rfl, rfl, h8, hF⟩
    · skip
      refine Exec.ifF rfl hb ?_
      refine Exec.run tyOk 400 rfl ?_
      exact Exec.round [] trivial ⟨rfl, rfl, hF⟩

def F_placement_Nodes_L1 (x1 : TPlacement) (J7 : (List Int) → Option (List Int)) : Nat → (List Int) → Int → Option (List Int)
  | 0, _, _ => none
  | n18 + 1, x16, x17 => (cond (decide (x17 < (((x1.Parts).length : Nat) : Int))) (req (0 ≤ x17 ∧ x17 < ((x1.Parts).length : Int)) (req (((x16 ++ [(atI x1.Parts x17).Node])).length * 8 ≤ 140737488355328) (jn (fun (x26 : List Int) => (F_placement_Nodes_L1 x1 J7 n18 x26 ((IntKind.i64.wrap (x17 + (1 : Int)))))) (fun J27 => (cond ((atI x1.Parts x17).Dest != (0 : Int)) (req ((((x16 ++ [(atI x1.Parts x17).Node]) ++ [(atI x1.Parts x17).Dest])).length * 8 ≤ 140737488355328) (J27 (((x16 ++ [(atI x1.Parts x17).Node]) ++ [(atI x1.Parts x17).Dest])))) (J27 ((x16 ++ [(atI x1.Parts x17).Node])))))))) (J7 x16))

def F_placement_Nodes (x1 : TPlacement) : Option (List Int) :=
  (bnd (F_placement_Valid x1) fun x3 => (cond (!x3) (some ([] : List Int)) (jn (fun (x6 : List Int) => (req ((x6).length < 4611686018427387904) (some (compactL (sortL x6))))) (fun J7 => (F_placement_Nodes_L1 x1 J7 (((((x1.Parts).length : Nat) : Int)).toNat + 1) (([] : List Int)) ((0 : Int)))))))

set_option maxRecDepth 100000 in
theorem W_placement_Nodes {V : View} (x1 : TPlacement) {a2 : Option Addr} {k2 : Nat} (h2 : SlAt cTPart V a2 k2 x1.Parts) {r : List Int} (hF : F_placement_Nodes x1 = some r) :
    Spec Try.prog 40 [.agg ⟨[.int .i64 (x1.Version), .slice a2 ((x1.Parts).length) (k2)]⟩] V (fun V' v => ∃ (a32 : Option Addr) (k32 : Nat), v = .slice a32 ((r).length) (k32) ∧ SlAt (cInt .i64) V' a32 k32 r) := by
  unfold F_placement_Nodes at hF
  refine Spec.enter (T := tyT) Try.func40 rfl (by kernel_rfl) rfl rfl rfl ?_
  refine Exec.run tyOk 400 rfl ?_
  obtain ⟨x3, hx3, hF⟩ := bnd_some hF
  refine Exec.callS (.bool (x3)) rfl rfl (W_placement_Valid x1 h2 hx3) ?_
  refine Exec.run tyOk 400 rfl ?_
  rcases cond_some hF with ⟨hb, hF⟩ | ⟨hb, hF⟩
  · skip
    refine Exec.ifT rfl hb ?_
    refine Exec.run tyOk 400 rfl ?_
    obtain rfl := some_inj hF
    exact Exec.ret tyOk rfl rfl ⟨_, _, rfl, SlAt.nil⟩
  · skip
    refine Exec.ifF rfl hb ?_
    refine Exec.run tyOk 13 rfl ?_
    refine Exec.row0 3 1 rfl ?_
    have h4 : RowRep (cInt .i64) V ([] : List Int) [] := RowRep.nil
    obtain ⟨J7, hJ7, hF⟩ := jn_some hF
    refine Exec.seam (fun L' V' M' => ∃ (x6 : List Int) (a5 : Option Addr) (k5 : Nat) (cs5 : List Value), L' = [(3, .v (.slice a5 ((x6).length) (k5)))] ∧ M' = [.blk [.v (.int .i64 (x1.Version)), .v (.slice a2 ((x1.Parts).length) (k2))] 39, .row (.slice a5 ((x6).length) (k5)) cs5 3 1] ∧ RowRep (cInt .i64) V' x6 cs5 ∧ SlAt cTPart V' a2 k2 x1.Parts ∧ J7 x6 = some r) rfl ?_ ?_
    · rintro L' V8 M' ⟨x6, a5, k5, cs5, rfl, rfl, h5, h9, hF⟩
      subst hJ7
      refine Exec.run tyOk 400 rfl ?_
      obtain ⟨q11, hF⟩ := req_some hF
      refine Exec.callM 1 rfl rfl rfl rfl (sortI_row h5 (fun cs e => by subst e; exact (sortI_specM ⟨_, rfl, by kernel_rfl, by kernel_rfl⟩ Try.slices_Sort_int Try.slices_Sort_int_none q11))) ?_
      rintro VV10 _ _ _ ⟨rfl, hVV, rfl⟩
      have hVV := hVV.symm
      subst hVV
      refine ⟨_, rfl, ?_⟩
      have h10 : RowRep (cInt .i64) V8 (sortL x6) ((sortL x6).map (Value.int .i64)) := RowRep.ofInts _
      refine Exec.run tyOk 400 rfl ?_
      refine Exec.callM 1 rfl rfl rfl rfl (compactI_row h10 (fun cs e => by subst e; exact (compactI_specM ⟨_, rfl, by kernel_rfl, by kernel_rfl⟩ Try.slices_Compact_int Try.slices_Compact_int_empty))) ?_
      rintro VV12 _ _ _ ⟨rfl, hVV, rfl⟩
      have hVV := hVV.symm
      subst hVV
      refine ⟨_, rfl, ?_⟩
      have h12 : RowRep (cInt .i64) V8 (compactL (sortL x6)) ((compactL (sortL x6)).map (Value.int .i64)) := RowRep.ofInts _
      refine Exec.run tyOk 400 rfl ?_
      refine Exec.frz 1 rfl rfl rfl (fun V13 hv13 hd13 hn13 => ?_)
      have hz13 := RowRep.slat h12 hv13 hd13 hn13
      have h14 := SlAt.mono h9 hv13
      obtain rfl := some_inj hF
      exact Exec.ret tyOk rfl rfl ⟨_, _, rfl, hz13⟩
    · skip
      refine Exec.run tyOk 400 rfl ?_
      refine Exec.loop (fun n18 L' V' M' => ∃ (x16 : List Int) (a15 : Option Addr) (k15 : Nat) (cs15 : List Value) (x17 : Int), L' = [(3, .v (.slice a15 ((x16).length) (k15))), (10, .v (.slice a2 ((x1.Parts).length) (k2))), (11, .v (.int .i64 ((((x1.Parts).length : Nat) : Int)))), (12, .v (.int .i64 (x17)))] ∧ M' = [.blk [.v (.int .i64 (x1.Version)), .v (.slice a2 ((x1.Parts).length) (k2))] 39, .row (.slice a15 ((x16).length) (k15)) cs15 3 1] ∧ RowRep (cInt .i64) V' x16 cs15 ∧ SlAt cTPart V' a2 k2 x1.Parts ∧ F_placement_Nodes_L1 x1 J7 n18 x16 x17 = some r) ⟨(((((x1.Parts).length : Nat) : Int)).toNat + 1), [(3, .v (.slice none ((([] : List Int)).length) (0))), (10, .v (.slice a2 ((x1.Parts).length) (k2))), (11, .v (.int .i64 ((((x1.Parts).length : Nat) : Int)))), (12, .v (.int .i64 ((0 : Int))))], ⟨rfl, rfl, rfl, rfl, trivial⟩, ([] : List Int), none, 0, [], (0 : Int), rfl, rfl, h4, h2, hF⟩ ?_
      rintro n18 L' V19 M' ⟨x16, a15, k15, cs15, x17, rfl, rfl, h15, h20, hF⟩
      rcases n18 with _ | n18
      · exact absurd hF (by simp [F_placement_Nodes_L1])
      rw [F_placement_Nodes_L1] at hF
      refine Exec.run tyOk 400 rfl ?_
      rcases cond_some hF with ⟨hb, hF⟩ | ⟨hb, hF⟩
      · skip
        refine Exec.ifT rfl hb ?_
        refine Exec.run tyOk 400 rfl ?_
        obtain ⟨q21, hF⟩ := req_some hF
        obtain ⟨c22, hr22, hd22⟩ := SlAt.get h20 q21
        obtain rfl := hr22
        refine Exec.ia tyOk rfl rfl ⟨q21.1, q21.2, hd22.some⟩ ?_
        refine Exec.run tyOk 400 rfl ?_
        refine Exec.ld tyOk (x := .agg ⟨[.int .i64 ((atI x1.Parts x17).Id), .string ⟨⟨(atI x1.Parts x17).From⟩⟩, .int .i64 ((atI x1.Parts x17).Node), .int .i64 ((atI x1.Parts x17).Dest), .string ⟨⟨(atI x1.Parts x17).Done⟩⟩]⟩) rfl rfl hd22 rfl rfl ?_
        refine Exec.run tyOk 400 rfl ?_
        refine Exec.bsl tyOk rfl rfl ?_
        refine Exec.run tyOk 400 rfl ?_
        obtain ⟨q24, hF⟩ := req_some hF
        refine Exec.app tyOk 1 3 (nm := ((x16 ++ [(atI x1.Parts x17).Node])).length) rfl rfl rfl rfl rfl rfl rfl rfl rfl (by simp) (fun _ _ => rfl) rfl q24 (fun a23 k23 => ?_)
        have h23 : RowRep (cInt .i64) V19 (x16 ++ [(atI x1.Parts x17).Node]) (cs15 ++ [.int .i64 ((atI x1.Parts x17).Node)]) := RowRep.app h15 ⟨_, _, rfl, rfl, rfl⟩
        refine Exec.run tyOk 400 rfl ?_
        obtain ⟨J27, hJ27, hF⟩ := jn_some hF
        refine Exec.seam (fun L' V' M' => ∃ (x26 : List Int) (a25 : Option Addr) (k25 : Nat) (cs25 : List Value), L' = [(3, .v (.slice a25 ((x26).length) (k25))), (10, .v (.slice a2 ((x1.Parts).length) (k2))), (11, .v (.int .i64 ((((x1.Parts).length : Nat) : Int)))), (12, .v (.int .i64 (x17)))] ∧ M' = [.blk [.v (.int .i64 (x1.Version)), .v (.slice a2 ((x1.Parts).length) (k2))] 39, .row (.slice a25 ((x26).length) (k25)) cs25 3 1] ∧ RowRep (cInt .i64) V' x26 cs25 ∧ SlAt cTPart V' a2 k2 x1.Parts ∧ J27 x26 = some r) rfl ?_ ?_
        · rintro L' V28 M' ⟨x26, a25, k25, cs25, rfl, rfl, h25, h29, hF⟩
          subst hJ27
          refine Exec.run tyOk 400 rfl ?_
          exact Exec.round [(3, .v (.slice a25 ((x26).length) (k25))), (10, .v (.slice a2 ((x1.Parts).length) (k2))), (11, .v (.int .i64 ((((x1.Parts).length : Nat) : Int)))), (12, .v (.int .i64 ((IntKind.i64.wrap (x17 + (1 : Int))))))] ⟨rfl, rfl, rfl, rfl, trivial⟩ ⟨n18, Nat.lt_succ_self _, x26, a25, k25, cs25, (IntKind.i64.wrap (x17 + (1 : Int))), rfl, rfl, h25, h29, hF⟩
        · skip
          refine Exec.run tyOk 400 rfl ?_
          rcases cond_some hF with ⟨hb, hF⟩ | ⟨hb, hF⟩
          · skip
            refine Exec.ifT rfl hb ?_
            refine Exec.run tyOk 400 rfl ?_
            refine Exec.bsl tyOk rfl rfl ?_
            refine Exec.run tyOk 400 rfl ?_
            obtain ⟨q31, hF⟩ := req_some hF
            refine Exec.app tyOk 1 4 (nm := (((x16 ++ [(atI x1.Parts x17).Node]) ++ [(atI x1.Parts x17).Dest])).length) rfl rfl rfl rfl rfl rfl rfl rfl rfl (by simp) (fun _ _ => rfl) rfl q31 (fun a30 k30 => ?_)
            have h30 : RowRep (cInt .i64) V19 ((x16 ++ [(atI x1.Parts x17).Node]) ++ [(atI x1.Parts x17).Dest]) ((cs15 ++ [.int .i64 ((atI x1.Parts x17).Node)]) ++ [.int .i64 ((atI x1.Parts x17).Dest)]) := RowRep.app h23 ⟨_, _, rfl, rfl, rfl⟩
            refine Exec.run tyOk 400 rfl ?_
            refine Exec.cut 2 [(3, .v (.slice a30 ((((x16 ++ [(atI x1.Parts x17).Node]) ++ [(atI x1.Parts x17).Dest])).length) (k30))), (10, .v (.slice a2 ((x1.Parts).length) (k2))), (11, .v (.int .i64 ((((x1.Parts).length : Nat) : Int)))), (12, .v (.int .i64 (x17)))] (M' := [.blk [.v (.int .i64 (x1.Version)), .v (.slice a2 ((x1.Parts).length) (k2))] 39, .row (.slice a30 ((((x16 ++ [(atI x1.Parts x17).Node]) ++ [(atI x1.Parts x17).Dest])).length) (k30)) (((cs15 ++ [.int .i64 ((atI x1.Parts x17).Node)]) ++ [.int .i64 ((atI x1.Parts x17).Dest)])) 3 1]) rfl ⟨rfl, rfl, rfl, rfl, trivial⟩ rfl rfl rfl ?_
            exact Exec.round [(3, .v (.slice a30 ((((x16 ++ [(atI x1.Parts x17).Node]) ++ [(atI x1.Parts x17).Dest])).length) (k30))), (10, .v (.slice a2 ((x1.Parts).length) (k2))), (11, .v (.int .i64 ((((x1.Parts).length : Nat) : Int)))), (12, .v (.int .i64 (x17)))] ⟨rfl, rfl, rfl, rfl, trivial⟩ ⟨((x16 ++ [(atI x1.Parts x17).Node]) ++ [(atI x1.Parts x17).Dest]), a30, k30, ((cs15 ++ [.int .i64 ((atI x1.Parts x17).Node)]) ++ [.int .i64 ((atI x1.Parts x17).Dest)]), rfl, rfl, h30, h20, hF⟩
          · skip
            refine Exec.ifF rfl hb ?_
            refine Exec.run tyOk 400 rfl ?_
            refine Exec.cut 2 [(3, .v (.slice a23 (((x16 ++ [(atI x1.Parts x17).Node])).length) (k23))), (10, .v (.slice a2 ((x1.Parts).length) (k2))), (11, .v (.int .i64 ((((x1.Parts).length : Nat) : Int)))), (12, .v (.int .i64 (x17)))] (M' := [.blk [.v (.int .i64 (x1.Version)), .v (.slice a2 ((x1.Parts).length) (k2))] 39, .row (.slice a23 (((x16 ++ [(atI x1.Parts x17).Node])).length) (k23)) ((cs15 ++ [.int .i64 ((atI x1.Parts x17).Node)])) 3 1]) rfl ⟨rfl, rfl, rfl, rfl, trivial⟩ rfl rfl rfl ?_
            exact Exec.round [(3, .v (.slice a23 (((x16 ++ [(atI x1.Parts x17).Node])).length) (k23))), (10, .v (.slice a2 ((x1.Parts).length) (k2))), (11, .v (.int .i64 ((((x1.Parts).length : Nat) : Int)))), (12, .v (.int .i64 (x17)))] ⟨rfl, rfl, rfl, rfl, trivial⟩ ⟨(x16 ++ [(atI x1.Parts x17).Node]), a23, k23, (cs15 ++ [.int .i64 ((atI x1.Parts x17).Node)]), rfl, rfl, h23, h20, hF⟩
      · skip
        refine Exec.ifF rfl hb ?_
        refine Exec.run tyOk 400 rfl ?_
        exact Exec.round [(3, .v (.slice a15 ((x16).length) (k15)))] ⟨rfl, trivial⟩ ⟨x16, a15, k15, cs15, rfl, rfl, h15, h20, hF⟩

def F_placement_Index_L2 (x3 : Str) (x1 : TPlacement) (x9 : Int) (J6 : Int → Option Int) (J14 : Int → Option Int) : Nat → Int → Int → Option Int
  | 0, _, _ => none
  | n21 + 1, x19, x20 => (req (((((decide (x20 < ((x3).length : Int)))) == true) && (((x20 == (((atI x1.Parts x9).From).length : Int))) == false)) = true → 0 ≤ x20 ∧ x20 < (((atI x1.Parts x9).From).length : Int)) (req (((((decide (x20 < ((x3).length : Int)))) == true) && (((x20 == (((atI x1.Parts x9).From).length : Int))) == false)) = true → 0 ≤ x20 ∧ x20 < ((x3).length : Int)) (cond ((x20 == (((atI x1.Parts x9).From).length : Int)) || ((decide (x20 < ((x3).length : Int))) && (decide ((byteAt ((atI x1.Parts x9).From) (x20).toNat) < (byteAt x3 (x20).toNat))))) (J6 x9) (req ((((x20 == ((x3).length : Int))) == false) = true → 0 ≤ x20 ∧ x20 < (((atI x1.Parts x9).From).length : Int)) (req ((((x20 == ((x3).length : Int))) == false) = true → 0 ≤ x20 ∧ x20 < ((x3).length : Int)) (cond ((x20 == ((x3).length : Int)) || (decide ((byteAt x3 (x20).toNat) < (byteAt ((atI x1.Parts x9).From) (x20).toNat)))) (J14 x19) (F_placement_Index_L2 x3 x1 x9 J6 J14 n21 x19 ((IntKind.i64.wrap (x20 + (1 : Int)))))))))))

def F_placement_Index_L1 (x1 : TPlacement) (x3 : Str) (J6 : Int → Option Int) : Nat → Int → Int → Option Int
  | 0, _, _ => none
  | n10 + 1, x8, x9 => (cond (decide ((0 : Int) < x9)) (jn (fun (x13 : Int) => (F_placement_Index_L1 x1 x3 J6 n10 x13 ((IntKind.i64.wrap (x9 - (1 : Int)))))) (fun J14 => (req (0 ≤ x9 ∧ x9 < ((x1.Parts).length : Int)) (F_placement_Index_L2 x3 x1 x9 J6 J14 (1000000 : Nat) x8 ((0 : Int)))))) (J6 x8))

def F_placement_Index (x1 : TPlacement) (x3 : Str) : Option Int :=
  (bnd (F_placement_Valid x1) fun x4 => (cond (!x4) (some (-1 : Int)) (jn (fun (x5 : Int) => (some x5)) (fun J6 => (F_placement_Index_L1 x1 x3 J6 (((IntKind.i64.wrap ((((x1.Parts).length : Nat) : Int) - (1 : Int)))).toNat + 1) ((0 : Int)) ((IntKind.i64.wrap ((((x1.Parts).length : Nat) : Int) - (1 : Int)))))))))

set_option maxRecDepth 100000 in
theorem W_placement_Index {V : View} (x1 : TPlacement) (x3 : Str) {a2 : Option Addr} {k2 : Nat} (h2 : SlAt cTPart V a2 k2 x1.Parts) {r : Int} (hF : F_placement_Index x1 x3 = some r) :
    Spec Try.prog 45 [.agg ⟨[.int .i64 (x1.Version), .slice a2 ((x1.Parts).length) (k2)]⟩, .string ⟨⟨x3⟩⟩] V (fun _ v => v = .int .i64 (r)) := by
  unfold F_placement_Index at hF
  refine Spec.enter (T := tyT) Try.func45 rfl (by kernel_rfl) rfl rfl rfl ?_
  refine Exec.run tyOk 400 rfl ?_
  refine Exec.scope ?_
  refine Exec.run tyOk 400 rfl ?_
  obtain ⟨x4, hx4, hF⟩ := bnd_some hF
  refine Exec.callS (.bool (x4)) rfl rfl (W_placement_Valid x1 h2 hx4) ?_
  refine Exec.run tyOk 400 rfl ?_
  rcases cond_some hF with ⟨hb, hF⟩ | ⟨hb, hF⟩
  · skip
    refine Exec.ifT rfl hb ?_
    refine Exec.run tyOk 400 rfl ?_
    obtain rfl := some_inj hF
    exact Exec.ret tyOk rfl rfl rfl
  · skip
    refine Exec.ifF rfl hb ?_
    refine Exec.run tyOk 16 rfl ?_
    obtain ⟨J6, hJ6, hF⟩ := jn_some hF
    refine Exec.seam (fun L' V' M' => ∃ (x5 : Int), L' = [(5, .v (.int .i64 (x5)))] ∧ M' = [] ∧ J6 x5 = some r) rfl ?_ ?_
    · rintro L' V7 M' ⟨x5, rfl, rfl, hF⟩
      subst hJ6
      refine Exec.run tyOk 400 rfl ?_
      obtain rfl := some_inj hF
      exact Exec.ret tyOk rfl rfl rfl
    · skip
      refine Exec.run tyOk 400 rfl ?_
      refine Exec.loop (fun n10 L' V' M' => ∃ (x8 : Int) (x9 : Int), L' = [(1, .v (.string ⟨⟨x3⟩⟩)), (2, .ptr 0 0), (5, .v (.int .i64 (x8))), (6, .v (.int .i64 (x9)))] ∧ M' = [.blk [.v (.int .i64 (x1.Version)), .v (.slice a2 ((x1.Parts).length) (k2))] 39] ∧ SlAt cTPart V' a2 k2 x1.Parts ∧ F_placement_Index_L1 x1 x3 J6 n10 x8 x9 = some r) ⟨(((IntKind.i64.wrap ((((x1.Parts).length : Nat) : Int) - (1 : Int)))).toNat + 1), [(1, .v (.string ⟨⟨x3⟩⟩)), (2, .ptr 0 0), (5, .v (.int .i64 ((0 : Int)))), (6, .v (.int .i64 ((IntKind.i64.wrap ((((x1.Parts).length : Nat) : Int) - (1 : Int))))))], ⟨rfl, rfl, rfl, rfl, trivial⟩, (0 : Int), (IntKind.i64.wrap ((((x1.Parts).length : Nat) : Int) - (1 : Int))), rfl, rfl, h2, hF⟩ ?_
      rintro n10 L' V11 M' ⟨x8, x9, rfl, rfl, h12, hF⟩
      rcases n10 with _ | n10
      · exact absurd hF (by simp [F_placement_Index_L1])
      rw [F_placement_Index_L1] at hF
      refine Exec.run tyOk 400 rfl ?_
      rcases cond_some hF with ⟨hb, hF⟩ | ⟨hb, hF⟩
      · skip
        refine Exec.ifT rfl hb ?_
        refine Exec.run tyOk 2 rfl ?_
        obtain ⟨J14, hJ14, hF⟩ := jn_some hF
        refine Exec.seam (fun L' V' M' => ∃ (x13 : Int), L' = [(1, .v (.string ⟨⟨x3⟩⟩)), (2, .ptr 0 0), (5, .v (.int .i64 (x13))), (6, .v (.int .i64 (x9)))] ∧ M' = [.blk [.v (.int .i64 (x1.Version)), .v (.slice a2 ((x1.Parts).length) (k2))] 39] ∧ SlAt cTPart V' a2 k2 x1.Parts ∧ J14 x13 = some r) rfl ?_ ?_
        · rintro L' V15 M' ⟨x13, rfl, rfl, h16, hF⟩
          subst hJ14
          refine Exec.run tyOk 400 rfl ?_
          exact Exec.round [(1, .v (.string ⟨⟨x3⟩⟩)), (2, .ptr 0 0), (5, .v (.int .i64 (x13))), (6, .v (.int .i64 ((IntKind.i64.wrap (x9 - (1 : Int))))))] ⟨rfl, rfl, rfl, rfl, trivial⟩ ⟨n10, Nat.lt_succ_self _, x13, (IntKind.i64.wrap (x9 - (1 : Int))), rfl, rfl, h16, hF⟩
        · skip
          refine Exec.run tyOk 400 rfl ?_
          obtain ⟨q17, hF⟩ := req_some hF
          obtain ⟨c18, hr18, hd18⟩ := SlAt.get h12 q17
          obtain rfl := hr18
          refine Exec.ia tyOk rfl rfl ⟨q17.1, q17.2, hd18.some⟩ ?_
          refine Exec.run tyOk 400 rfl ?_
          refine Exec.ld tyOk (x := .string ⟨⟨(atI x1.Parts x9).From⟩⟩) rfl rfl (RdAt.part hd18 1 1 rfl) rfl rfl ?_
          refine Exec.run tyOk 400 rfl ?_
          refine Exec.loop (fun n21 L' V' M' => ∃ (x19 : Int) (x20 : Int), L' = [(1, .v (.string ⟨⟨x3⟩⟩)), (2, .ptr 0 0), (5, .v (.int .i64 (x19))), (6, .v (.int .i64 (x9))), (7, .v (.string ⟨⟨(atI x1.Parts x9).From⟩⟩)), (8, .v (.int .i64 (x20)))] ∧ M' = [.blk [.v (.int .i64 (x1.Version)), .v (.slice a2 ((x1.Parts).length) (k2))] 39] ∧ SlAt cTPart V' a2 k2 x1.Parts ∧ F_placement_Index_L2 x3 x1 x9 J6 J14 n21 x19 x20 = some r) ⟨(1000000 : Nat), [(1, .v (.string ⟨⟨x3⟩⟩)), (2, .ptr 0 0), (5, .v (.int .i64 (x8))), (6, .v (.int .i64 (x9))), (7, .v (.string ⟨⟨(atI x1.Parts x9).From⟩⟩)), (8, .v (.int .i64 ((0 : Int))))], ⟨rfl, rfl, rfl, rfl, rfl, rfl, trivial⟩, x8, (0 : Int), rfl, rfl, h12, hF⟩ ?_
          rintro n21 L' V22 M' ⟨x19, x20, rfl, rfl, h23, hF⟩
          rcases n21 with _ | n21
          · exact absurd hF (by simp [F_placement_Index_L2])
          rw [F_placement_Index_L2] at hF
          refine Exec.run tyOk 400 rfl ?_
          refine Exec.draws tyOk [(0, true), (1, true), (2, true), (3, true), (4, true), (5, true), (6, true), (7, true), (8, true), (9, true), (10, true), (11, true), (12, true), (13, true), (14, true), (15, true), (16, true), (17, true), (18, true), (19, true)] rfl (by kernel_rfl) ?_
          refine Exec.run tyOk 400 rfl ?_
          obtain ⟨q24, hF⟩ := req_some hF
          refine Exec.fidx tyOk rfl rfl rfl (fun gg0 gg1 => q24 (gd2_of gg0 gg1)) ?_
          refine Exec.run tyOk 400 rfl ?_
          obtain ⟨q25, hF⟩ := req_some hF
          refine Exec.fidx tyOk rfl rfl rfl (fun gg0 gg1 => q25 (gd2_of gg0 gg1)) ?_
          refine Exec.run tyOk 400 rfl ?_
          rcases cond_some hF with ⟨hb, hF⟩ | ⟨hb, hF⟩
          · skip
            refine Exec.ifT rfl hb ?_
            refine Exec.run tyOk 400 rfl ?_
            refine Exec.cut 0 [(5, .v (.int .i64 (x9)))] (M' := []) rfl ⟨rfl, trivial⟩ rfl rfl rfl ?_
            exact Exec.round [(5, .v (.int .i64 (x9)))] ⟨rfl, trivial⟩ ⟨x9, rfl, rfl, hF⟩
          · skip
            refine Exec.ifF rfl hb ?_
            refine Exec.run tyOk 400 rfl ?_
            refine Exec.draws tyOk [(0, true), (1, true), (2, true), (3, true), (4, true), (5, true), (6, true), (7, true), (8, true), (9, true), (10, true), (11, true), (12, true), (13, true)] rfl (by kernel_rfl) ?_
            refine Exec.run tyOk 400 rfl ?_
            obtain ⟨q26, hF⟩ := req_some hF
            refine Exec.fidx tyOk rfl rfl rfl (fun gg0 => q26 (gd1_of gg0)) ?_
            refine Exec.run tyOk 400 rfl ?_
            obtain ⟨q27, hF⟩ := req_some hF
            refine Exec.fidx tyOk rfl rfl rfl (fun gg0 => q27 (gd1_of gg0)) ?_
            refine Exec.run tyOk 400 rfl ?_
            rcases cond_some hF with ⟨hb, hF⟩ | ⟨hb, hF⟩
            · skip
              refine Exec.ifT rfl hb ?_
              refine Exec.run tyOk 400 rfl ?_
              exact Exec.round [(1, .v (.string ⟨⟨x3⟩⟩)), (2, .ptr 0 0), (5, .v (.int .i64 (x19))), (6, .v (.int .i64 (x9)))] ⟨rfl, rfl, rfl, rfl, trivial⟩ ⟨x19, rfl, rfl, h23, hF⟩
            · skip
              refine Exec.ifF rfl hb ?_
              refine Exec.run tyOk 400 rfl ?_
              exact Exec.round [(1, .v (.string ⟨⟨x3⟩⟩)), (2, .ptr 0 0), (5, .v (.int .i64 (x19))), (6, .v (.int .i64 (x9))), (7, .v (.string ⟨⟨(atI x1.Parts x9).From⟩⟩)), (8, .v (.int .i64 ((IntKind.i64.wrap (x20 + (1 : Int))))))] ⟨rfl, rfl, rfl, rfl, rfl, rfl, trivial⟩ ⟨n21, Nat.lt_succ_self _, x19, (IntKind.i64.wrap (x20 + (1 : Int))), rfl, rfl, h23, hF⟩
      · skip
        refine Exec.ifF rfl hb ?_
        refine Exec.run tyOk 400 rfl ?_
        refine Exec.cut 0 [(5, .v (.int .i64 (x8)))] (M' := []) rfl ⟨rfl, trivial⟩ rfl rfl rfl ?_
        exact Exec.round [(5, .v (.int .i64 (x8)))] ⟨rfl, trivial⟩ ⟨x8, rfl, rfl, hF⟩

end Go.Proofs.Ytcgmfmpfmfjmoaa
