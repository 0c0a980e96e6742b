/-
  Functions of the program as their counterparts say them (printed by a program).
  Conditions: none.
-/
import Derived.Test.YtonijgmopcmldaaGreatHc
set_option linter.all false
namespace Go.Proofs.YtonijgmopcmldaaGreat

def F_clockworkref53_Bucket (x1 : Str) : Option Int :=
  (bnd (F_clockworkref03_FNV x1) fun x2 => (req ((64 : Int) ≠ 0) (some (IntKind.i64.wrap (remI x2 (64 : Int))))))

set_option maxRecDepth 100000 in
theorem W_clockworkref53_Bucket {V : View} (x1 : Str)   {r : Int} (hF : F_clockworkref53_Bucket x1 = some r) :
    Spec Tryz.prog 41 [.string ⟨⟨x1⟩⟩] V (fun _ v => v = .int .i64 (r)) := by
  unfold F_clockworkref53_Bucket at hF
  refine Spec.enter (T := tyT) Tryz.func41 rfl (by kernel_rfl) rfl rfl rfl ?_
  refine Exec.run tyOk 400 rfl ?_
  obtain ⟨x2, hx2, hF⟩ := bnd_some hF
  refine Exec.callS (.int .u64 (x2)) rfl rfl (W_clockworkref03_FNV x1  hx2) ?_
  refine Exec.run tyOk 400 rfl ?_
  obtain ⟨q3, hF⟩ := req_some hF
  refine Exec.ari rfl rfl q3 ?_
  refine Exec.run tyOk 400 rfl ?_
  obtain rfl := some_inj hF
  exact Exec.ret tyOk rfl rfl rfl

def F_clockworkref06_ValidWrites_L1 (x1 : List TPair) (J3 : Option Bool) : Nat → Int → Option Bool
  | 0, _ => none
  | n8 + 1, x7 => (cond (decide (x7 < (((x1).length : Nat) : Int))) (req (0 ≤ x7 ∧ x7 < ((x1).length : Int)) (bnd (F_clockworkref05_Valid ((atI x1 x7).Val)) fun x13 => (cond (!x13) (some false) (F_clockworkref06_ValidWrites_L1 x1 J3 n8 ((IntKind.i64.wrap (x7 + (1 : Int)))))))) J3)

def F_clockworkref06_ValidWrites (x1 : List TPair) : Option Bool :=
  (jn ((bnd (F_clockworkref06_ascending x1) fun x6 => (some x6))) (fun J3 => (F_clockworkref06_ValidWrites_L1 x1 J3 (((((x1).length : Nat) : Int)).toNat + 1) ((0 : Int)))))

set_option maxRecDepth 100000 in
theorem W_clockworkref06_ValidWrites {V : View} (x1 : List TPair) {a2 : Option Addr} {k2 : Nat} (h2 : SlAt cTPair V a2 k2 x1) {r : Bool} (hF : F_clockworkref06_ValidWrites x1 = some r) :
    Spec Tryz.prog 49 [.slice a2 ((x1).length) (k2)] V (fun _ v => v = .bool (r)) := by
  unfold F_clockworkref06_ValidWrites at hF
  refine Spec.enter (T := tyT) Tryz.func49 rfl (by kernel_rfl) rfl rfl rfl ?_
  refine Exec.run tyOk 9 rfl ?_
  obtain ⟨J3, hJ3, hF⟩ := jn_some hF
  refine Exec.seam (fun L' V' M' => L' = [(0, .v (.slice a2 ((x1).length) (k2)))] ∧ M' = [] ∧ SlAt cTPair V' a2 k2 x1 ∧ J3 = some r) rfl ?_ ?_
  · rintro L' V4 M' ⟨rfl, rfl, h5, hF⟩
    subst hJ3
    refine Exec.run tyOk 400 rfl ?_
    obtain ⟨x6, hx6, hF⟩ := bnd_some hF
    refine Exec.callS (.bool (x6)) rfl rfl (W_clockworkref06_ascending x1 h5 hx6) ?_
    refine Exec.run tyOk 400 rfl ?_
    obtain rfl := some_inj hF
    exact Exec.ret tyOk rfl rfl rfl
  · skip
    refine Exec.run tyOk 400 rfl ?_
    refine Exec.loop (fun n8 L' V' M' => ∃ (x7 : Int), L' = [(0, .v (.slice a2 ((x1).length) (k2))), (3, .v (.int .i64 (x7)))] ∧ M' = [] ∧ SlAt cTPair V' a2 k2 x1 ∧ F_clockworkref06_ValidWrites_L1 x1 J3 n8 x7 = some r) ⟨(((((x1).length : Nat) : Int)).toNat + 1), [(0, .v (.slice a2 ((x1).length) (k2))), (3, .v (.int .i64 ((0 : Int))))], ⟨rfl, rfl, trivial⟩, (0 : Int), rfl, rfl, h2, hF⟩ ?_
    rintro n8 L' V9 M' ⟨x7, rfl, rfl, h10, hF⟩
    rcases n8 with _ | n8
    · exact absurd hF (by simp [F_clockworkref06_ValidWrites_L1])
    rw [F_clockworkref06_ValidWrites_L1] at hF
    refine Exec.run tyOk 400 rfl ?_
    rcases cond_some hF with ⟨hb, hF⟩ | ⟨hb, hF⟩
    · skip
      refine Exec.ifT rfl hb ?_
      refine Exec.run tyOk 400 rfl ?_
      obtain ⟨q11, hF⟩ := req_some hF
      obtain ⟨c12, hr12, hd12⟩ := SlAt.get h10 q11
      obtain rfl := hr12
      refine Exec.ia tyOk rfl rfl ⟨q11.1, q11.2, hd12.some⟩ ?_
      refine Exec.run tyOk 400 rfl ?_
      refine Exec.ld tyOk (x := .agg ⟨[.int .i64 ((atI x1 x7).Val.Kind), .int .i64 ((atI x1 x7).Val.N), .string ⟨⟨(atI x1 x7).Val.S⟩⟩]⟩) rfl rfl (RdAt.part hd12 1 3 rfl) rfl rfl ?_
      refine Exec.run tyOk 400 rfl ?_
      obtain ⟨x13, hx13, hF⟩ := bnd_some hF
      refine Exec.callS (.bool (x13)) rfl rfl (W_clockworkref05_Valid ((atI x1 x7).Val)  hx13) ?_
      refine Exec.run tyOk 400 rfl ?_
      rcases cond_some hF with ⟨hb, hF⟩ | ⟨hb, hF⟩
      · skip
        refine Exec.ifT rfl hb ?_
        refine Exec.run tyOk 400 rfl ?_
        obtain rfl := some_inj hF
        exact Exec.ret tyOk rfl rfl rfl
      · skip
        refine Exec.ifF rfl hb ?_
        refine Exec.run tyOk 400 rfl ?_
        exact Exec.round [(0, .v (.slice a2 ((x1).length) (k2))), (3, .v (.int .i64 ((IntKind.i64.wrap (x7 + (1 : Int))))))] ⟨rfl, rfl, trivial⟩ ⟨n8, Nat.lt_succ_self _, (IntKind.i64.wrap (x7 + (1 : Int))), rfl, rfl, h10, hF⟩
    · skip
      refine Exec.ifF rfl hb ?_
      refine Exec.run tyOk 400 rfl ?_
      exact Exec.round [(0, .v (.slice a2 ((x1).length) (k2)))] ⟨rfl, trivial⟩ ⟨rfl, rfl, h10, hF⟩

def F_digest_sealed (x1 : List Int) : Option TTree :=
  (req ((x1).length = 64) (bnd (F_digest_Root ((⟨x1, 0⟩ : TTree))) fun x6 => (some (⟨x1, x6⟩ : TTree))))

set_option maxRecDepth 100000 in
theorem W_digest_sealed {V : View} (x1 : List Int)   {r : TTree} (hF : F_digest_sealed x1 = some r) :
    Spec Tryz.prog 54 [.agg ⟨(x1).map (Value.int .u64)⟩] V (fun V' v => ∃ (a9 : Option Addr) (k9 : Nat), v = .agg ⟨[.slice a9 ((r.Buckets).length) (k9), .int .u64 (r.Root)]⟩ ∧ SlAt (cInt .u64) V' a9 k9 r.Buckets) := by
  unfold F_digest_sealed at hF
  refine Spec.enter (T := tyT) Tryz.func54 rfl (by kernel_rfl) rfl rfl rfl ?_
  refine Exec.run tyOk 2 rfl ?_
  obtain ⟨q2, hF⟩ := req_some hF
  refine Exec.boxA tyOk (n := 64) (cs := ((x1).map (Value.int .u64))) rfl rfl rfl rfl (by rw [List.length_map]; exact q2) rfl (fun _ => rfl) (fun b3 => ?_)
  have h3 : RowRep (cInt .u64) V x1 ((x1).map (Value.int .u64)) := RowRep.ofInts _
  refine Exec.run tyOk 400 rfl ?_
  refine Exec.rowI 0 rfl (fun ra4 rb4 rc4 => ?_)
  have hl4 : (x1).length = 64 := by have := RowRep.len h3; simp only [cInt] at this; omega
  refine Exec.slA tyOk rfl rfl hl4 ?_
  refine Exec.run tyOk 400 rfl ?_
  refine Exec.rowI 0 rfl (fun ra5 rb5 rc5 => ?_)
  have hl5 : (x1).length = 64 := by have := RowRep.len h3; simp only [cInt] at this; omega
  obtain ⟨x6, hx6, hF⟩ := bnd_some hF
  refine Exec.callL (.int .u64 (x6)) rfl rfl (fun _ hv hl => W_digest_Root ((⟨x1, 0⟩ : TTree)) (RowRep.slat h3 hv (hl 0 _ _ _ _ _ _ rfl).1 (Nat.le_of_eq hl5)) hx6) ?_
  refine Exec.run tyOk 400 rfl ?_
  refine Exec.rowI 0 rfl (fun ra8 rb8 rc8 => ?_)
  have hl8 : (x1).length = 64 := by have := RowRep.len h3; simp only [cInt] at this; omega
  refine Exec.frz 0 rfl rfl rfl (fun V7 hv7 hd7 hn7 => ?_)
  replace hn7 := Nat.le_of_eq hl8
  have hz7 := RowRep.slat h3 hv7 hd7 hn7
  obtain rfl := some_inj hF
  exact Exec.ret tyOk rfl rfl ⟨_, _, rfl, hz7⟩

def F_clockworkref22_row_L1 (x1 : TRow) (x3 : Int) (x4 : Int) (J8 : Option Bool) : Nat → Int → Option Bool
  | 0, _ => none
  | n11 + 1, x10 => (cond (decide (x10 < (((x1.Vers).length : Nat) : Int))) (req (0 ≤ x10 ∧ x10 < ((x1.Vers).length : Int)) (bnd (F_clockworkref22_stored ((⟨(atI x1.Vers x10).Val.Kind, (atI x1.Vers x10).Val.N, (atI x1.Vers x10).Val.S⟩ : TValue))) fun x16 => (cond (((!x16) || (decide ((atI x1.Vers x10).At < x3))) || (decide (x4 < (atI x1.Vers x10).At))) (some false) (req ((((decide ((0 : Int) < x10))) == true) = true → 0 ≤ (IntKind.i64.wrap (x10 - (1 : Int))) ∧ (IntKind.i64.wrap (x10 - (1 : Int))) < ((x1.Vers).length : Int)) (req (((((decide ((atI x1.Vers x10).At ≤ (cond (((decide ((0 : Int) < x10))) == true) (atI x1.Vers ((IntKind.i64.wrap (x10 - (1 : Int))))) default).At))) == false) && (((decide ((0 : Int) < x10))) == true)) = true → 0 ≤ (IntKind.i64.wrap (x10 - (1 : Int))) ∧ (IntKind.i64.wrap (x10 - (1 : Int))) < ((x1.Vers).length : Int)) (cond ((decide ((0 : Int) < x10)) && ((decide ((atI x1.Vers x10).At ≤ (cond (((decide ((0 : Int) < x10))) == true) (atI x1.Vers ((IntKind.i64.wrap (x10 - (1 : Int))))) default).At)) || (((atI x1.Vers x10).Val.Kind == (cond ((((decide ((atI x1.Vers x10).At ≤ (cond (((decide ((0 : Int) < x10))) == true) (atI x1.Vers ((IntKind.i64.wrap (x10 - (1 : Int))))) default).At))) == false) && (((decide ((0 : Int) < x10))) == true)) (atI x1.Vers ((IntKind.i64.wrap (x10 - (1 : Int))))) default).Val.Kind) && (((atI x1.Vers x10).Val.N == (cond ((((decide ((atI x1.Vers x10).At ≤ (cond (((decide ((0 : Int) < x10))) == true) (atI x1.Vers ((IntKind.i64.wrap (x10 - (1 : Int))))) default).At))) == false) && (((decide ((0 : Int) < x10))) == true)) (atI x1.Vers ((IntKind.i64.wrap (x10 - (1 : Int))))) default).Val.N) && (((atI x1.Vers x10).Val.S == (cond ((((decide ((atI x1.Vers x10).At ≤ (cond (((decide ((0 : Int) < x10))) == true) (atI x1.Vers ((IntKind.i64.wrap (x10 - (1 : Int))))) default).At))) == false) && (((decide ((0 : Int) < x10))) == true)) (atI x1.Vers ((IntKind.i64.wrap (x10 - (1 : Int))))) default).Val.S) && true))))) (some false) (F_clockworkref22_row_L1 x1 x3 x4 J8 n11 ((IntKind.i64.wrap (x10 + (1 : Int))))))))))) J8)

def F_clockworkref22_row (x1 : TRow) (x3 : Int) (x4 : Int) : Option Bool :=
  (bnd (F_clockworkref04_Valid x1.Key) fun x5 => (req (((((!x5) || ((((x1.Vers).length : Nat) : Int) == (0 : Int)))) == false) = true → 0 ≤ (0 : Int) ∧ (0 : Int) < ((x1.Vers).length : Int)) (cond (((!x5) || ((((x1.Vers).length : Nat) : Int) == (0 : Int))) || ((cond ((((!x5) || ((((x1.Vers).length : Nat) : Int) == (0 : Int)))) == false) (atI x1.Vers ((0 : Int))) default).Val.Kind == (0 : Int))) (some false) (jn ((some true)) (fun J8 => (F_clockworkref22_row_L1 x1 x3 x4 J8 (((((x1.Vers).length : Nat) : Int)).toNat + 1) ((0 : Int))))))))

set_option maxRecDepth 100000 in
theorem W_clockworkref22_row {V : View} (x1 : TRow) (x3 : Int) (x4 : Int) {a2 : Option Addr} {k2 : Nat} (h2 : SlAt cTVersion V a2 k2 x1.Vers) {r : Bool} (hF : F_clockworkref22_row x1 x3 x4 = some r) :
    Spec Tryz.prog 56 [.agg ⟨[.string ⟨⟨x1.Key⟩⟩, .slice a2 ((x1.Vers).length) (k2)]⟩, .int .i64 (x3), .int .i64 (x4)] V (fun _ v => v = .bool (r)) := by
  unfold F_clockworkref22_row at hF
  refine Spec.enter (T := tyT) Tryz.func56 rfl (by kernel_rfl) rfl rfl rfl ?_
  refine Exec.run tyOk 400 rfl ?_
  obtain ⟨x5, hx5, hF⟩ := bnd_some hF
  refine Exec.callS (.bool (x5)) rfl rfl (W_clockworkref04_Valid x1.Key  hx5) ?_
  refine Exec.run tyOk 400 rfl ?_
  obtain ⟨q6, hF⟩ := req_some hF
  obtain ⟨c7, hr7, hd7⟩ := SlAt.gget ((((!x5) || ((((x1.Vers).length : Nat) : Int) == (0 : Int)))) == false) h2 q6
  obtain rfl := hr7
  refine Exec.ia tyOk rfl rfl (fun gg0 => ⟨(q6 (gd1_of gg0)).1, (q6 (gd1_of gg0)).2, (hd7 (gd1_of gg0)).some⟩) ?_
  refine Exec.run tyOk 400 rfl ?_
  refine Exec.ld tyOk (x := .int .i64 ((cond ((((!x5) || ((((x1.Vers).length : Nat) : Int) == (0 : Int)))) == false) (atI x1.Vers ((0 : Int))) default).Val.Kind)) rfl rfl (fun gg0 => (RdAt.part (hd7 (gd1_of gg0)) 1 1 rfl)) rfl rfl ?_
  refine Exec.run tyOk 400 rfl ?_
  rcases cond_some hF with ⟨hb, hF⟩ | ⟨hb, hF⟩
  · skip
    refine Exec.ifT rfl hb ?_
    refine Exec.run tyOk 400 rfl ?_
    obtain rfl := some_inj hF
    exact Exec.ret tyOk rfl rfl rfl
  · skip
    refine Exec.ifF rfl hb ?_
    refine Exec.run tyOk 6 rfl ?_
    obtain ⟨J8, hJ8, hF⟩ := jn_some hF
    refine Exec.seam (fun L' V' M' => L' = [] ∧ M' = [] ∧ J8 = some r) rfl ?_ ?_
    · rintro L' V9 M' ⟨rfl, rfl, hF⟩
      subst hJ8
      refine Exec.run tyOk 400 rfl ?_
      obtain rfl := some_inj hF
      exact Exec.ret tyOk rfl rfl rfl
    · skip
      refine Exec.run tyOk 400 rfl ?_
      refine Exec.loop (fun n11 L' V' M' => ∃ (x10 : Int), L' = [(1, .v (.int .i64 (x3))), (2, .v (.int .i64 (x4))), (3, .ptr 0 0), (7, .v (.int .i64 (x10)))] ∧ M' = [.blk [.v (.string ⟨⟨x1.Key⟩⟩), .v (.slice a2 ((x1.Vers).length) (k2))] 73] ∧ SlAt cTVersion V' a2 k2 x1.Vers ∧ F_clockworkref22_row_L1 x1 x3 x4 J8 n11 x10 = some r) ⟨(((((x1.Vers).length : Nat) : Int)).toNat + 1), [(1, .v (.int .i64 (x3))), (2, .v (.int .i64 (x4))), (3, .ptr 0 0), (7, .v (.int .i64 ((0 : Int))))], ⟨rfl, rfl, rfl, rfl, trivial⟩, (0 : Int), rfl, rfl, h2, hF⟩ ?_
      rintro n11 L' V12 M' ⟨x10, rfl, rfl, h13, hF⟩
      rcases n11 with _ | n11
      · exact absurd hF (by simp [F_clockworkref22_row_L1])
      rw [F_clockworkref22_row_L1] at hF
      refine Exec.run tyOk 400 rfl ?_
      rcases cond_some hF with ⟨hb, hF⟩ | ⟨hb, hF⟩
      · skip
        refine Exec.ifT rfl hb ?_
        refine Exec.run tyOk 400 rfl ?_
        obtain ⟨q14, hF⟩ := req_some hF
        obtain ⟨c15, hr15, hd15⟩ := SlAt.get h13 q14
        obtain rfl := hr15
        refine Exec.ia tyOk rfl rfl ⟨q14.1, q14.2, hd15.some⟩ ?_
        refine Exec.run tyOk 400 rfl ?_
        refine Exec.ld tyOk (x := .agg ⟨[.int .i64 ((atI x1.Vers x10).At), .int .i64 ((atI x1.Vers x10).Val.Kind), .int .i64 ((atI x1.Vers x10).Val.N), .string ⟨⟨(atI x1.Vers x10).Val.S⟩⟩]⟩) rfl rfl hd15 rfl rfl ?_
        refine Exec.run tyOk 400 rfl ?_
        obtain ⟨x16, hx16, hF⟩ := bnd_some hF
        refine Exec.callS (.bool (x16)) rfl rfl (W_clockworkref22_stored ((⟨(atI x1.Vers x10).Val.Kind, (atI x1.Vers x10).Val.N, (atI x1.Vers x10).Val.S⟩ : TValue))  hx16) ?_
        refine Exec.run tyOk 400 rfl ?_
        rcases cond_some hF with ⟨hb, hF⟩ | ⟨hb, hF⟩
        · skip
          refine Exec.ifT rfl hb ?_
          refine Exec.run tyOk 400 rfl ?_
          obtain rfl := some_inj hF
          exact Exec.ret tyOk rfl rfl rfl
        · skip
          refine Exec.ifF rfl hb ?_
          refine Exec.run tyOk 400 rfl ?_
          refine Exec.draws tyOk [(0, true), (1, true), (2, true), (3, true), (4, true), (5, true), (6, true), (7, true), (8, true), (9, true), (10, true), (11, true), (12, true), (13, true), (14, true), (15, true), (16, true), (17, true), (18, true), (19, true), (20, true), (21, true), (22, true), (23, true), (24, true), (25, true)] rfl (by kernel_rfl) ?_
          refine Exec.run tyOk 400 rfl ?_
          obtain ⟨q17, hF⟩ := req_some hF
          obtain ⟨c18, hr18, hd18⟩ := SlAt.gget (((decide ((0 : Int) < x10))) == true) h13 q17
          obtain rfl := hr18
          refine Exec.fia tyOk rfl rfl rfl (fun gg0 => ⟨(q17 (gd1_of gg0)).1, (q17 (gd1_of gg0)).2, (hd18 (gd1_of gg0)).some⟩) ?_
          refine Exec.run tyOk 400 rfl ?_
          refine Exec.fld tyOk (x := .int .i64 ((cond (((decide ((0 : Int) < x10))) == true) (atI x1.Vers ((IntKind.i64.wrap (x10 - (1 : Int))))) default).At)) rfl rfl rfl (fun gg0 => (RdAt.part (hd18 (gd1_of gg0)) 0 1 rfl)) rfl rfl ?_
          refine Exec.run tyOk 400 rfl ?_
          obtain ⟨q19, hF⟩ := req_some hF
          obtain ⟨c20, hr20, hd20⟩ := SlAt.gget ((((decide ((atI x1.Vers x10).At ≤ (cond (((decide ((0 : Int) < x10))) == true) (atI x1.Vers ((IntKind.i64.wrap (x10 - (1 : Int))))) default).At))) == false) && (((decide ((0 : Int) < x10))) == true)) h13 q19
          obtain rfl := hr20
          refine Exec.fia tyOk rfl rfl rfl (fun gg0 gg1 => ⟨(q19 (gd2_of gg0 gg1)).1, (q19 (gd2_of gg0 gg1)).2, (hd20 (gd2_of gg0 gg1)).some⟩) ?_
          refine Exec.run tyOk 400 rfl ?_
          refine Exec.fld tyOk (x := .agg ⟨[.int .i64 ((cond ((((decide ((atI x1.Vers x10).At ≤ (cond (((decide ((0 : Int) < x10))) == true) (atI x1.Vers ((IntKind.i64.wrap (x10 - (1 : Int))))) default).At))) == false) && (((decide ((0 : Int) < x10))) == true)) (atI x1.Vers ((IntKind.i64.wrap (x10 - (1 : Int))))) default).Val.Kind), .int .i64 ((cond ((((decide ((atI x1.Vers x10).At ≤ (cond (((decide ((0 : Int) < x10))) == true) (atI x1.Vers ((IntKind.i64.wrap (x10 - (1 : Int))))) default).At))) == false) && (((decide ((0 : Int) < x10))) == true)) (atI x1.Vers ((IntKind.i64.wrap (x10 - (1 : Int))))) default).Val.N), .string ⟨⟨(cond ((((decide ((atI x1.Vers x10).At ≤ (cond (((decide ((0 : Int) < x10))) == true) (atI x1.Vers ((IntKind.i64.wrap (x10 - (1 : Int))))) default).At))) == false) && (((decide ((0 : Int) < x10))) == true)) (atI x1.Vers ((IntKind.i64.wrap (x10 - (1 : Int))))) default).Val.S⟩⟩]⟩) rfl rfl rfl (fun gg0 gg1 => (RdAt.part (hd20 (gd2_of gg0 gg1)) 1 3 rfl)) rfl rfl ?_
          refine Exec.run tyOk 400 rfl ?_
          rcases cond_some hF with ⟨hb, hF⟩ | ⟨hb, hF⟩
          · skip
            refine Exec.ifT rfl hb ?_
            refine Exec.run tyOk 400 rfl ?_
            obtain rfl := some_inj hF
            exact Exec.ret tyOk rfl rfl rfl
          · skip
            refine Exec.ifF rfl hb ?_
            refine Exec.run tyOk 400 rfl ?_
            refine Exec.cut 1 [(1, .v (.int .i64 (x3))), (2, .v (.int .i64 (x4))), (3, .ptr 0 0), (7, .v (.int .i64 ((IntKind.i64.wrap (x10 + (1 : Int))))))] (M' := [.blk [.v (.string ⟨⟨x1.Key⟩⟩), .v (.slice a2 ((x1.Vers).length) (k2))] 73]) rfl ⟨rfl, rfl, rfl, rfl, trivial⟩ rfl rfl rfl ?_
            exact Exec.round [(1, .v (.int .i64 (x3))), (2, .v (.int .i64 (x4))), (3, .ptr 0 0), (7, .v (.int .i64 ((IntKind.i64.wrap (x10 + (1 : Int))))))] ⟨rfl, rfl, rfl, rfl, trivial⟩ ⟨n11, Nat.lt_succ_self _, (IntKind.i64.wrap (x10 + (1 : Int))), rfl, rfl, h13, hF⟩
      · skip
        refine Exec.ifF rfl hb ?_
        refine Exec.run tyOk 400 rfl ?_
        refine Exec.cut 0 [] (M' := []) rfl trivial rfl rfl rfl ?_
        exact Exec.round [] trivial ⟨rfl, rfl, hF⟩

def F_clockworkref53_Root_L1 (x1 : TTree) (J4 : Str → Option Int) : Nat → Str → Int → Option Int
  | 0, _, _ => none
  | n9 + 1, x7, x8 => (cond (decide (x8 < (((x1.Buckets).length : Nat) : Int))) (req (0 ≤ x8 ∧ x8 < ((x1.Buckets).length : Int)) (bnd (F_clockworkref53_bytes ((atI x1.Buckets x8))) fun x14 => (req ((x7).length + (x14).length ≤ 9223372036854775807) (F_clockworkref53_Root_L1 x1 J4 n9 ((x7 ++ x14)) ((IntKind.i64.wrap (x8 + (1 : Int)))))))) (J4 x7))

def F_clockworkref53_Root (x1 : TTree) : Option Int :=
  (jn (fun (x3 : Str) => (bnd (F_clockworkref03_FNV x3) fun x6 => (some x6))) (fun J4 => (F_clockworkref53_Root_L1 x1 J4 (((((x1.Buckets).length : Nat) : Int)).toNat + 1) (([] : Str)) ((0 : Int)))))

set_option maxRecDepth 100000 in
theorem W_clockworkref53_Root {V : View} (x1 : TTree) {a2 : Option Addr} {k2 : Nat} (h2 : SlAt (cInt .u64) V a2 k2 x1.Buckets) {r : Int} (hF : F_clockworkref53_Root x1 = some r) :
    Spec Tryz.prog 63 [.agg ⟨[.slice a2 ((x1.Buckets).length) (k2), .int .u64 (x1.Root)]⟩] V (fun _ v => v = .int .u64 (r)) := by
  unfold F_clockworkref53_Root at hF
  refine Spec.enter (T := tyT) Tryz.func63 rfl (by kernel_rfl) rfl rfl rfl ?_
  refine Exec.run tyOk 14 rfl ?_
  obtain ⟨J4, hJ4, hF⟩ := jn_some hF
  refine Exec.seam (fun L' V' M' => ∃ (x3 : Str), L' = [(3, .v (.string ⟨⟨x3⟩⟩))] ∧ M' = [] ∧ J4 x3 = some r) rfl ?_ ?_
  · rintro L' V5 M' ⟨x3, rfl, rfl, hF⟩
    subst hJ4
    refine Exec.run tyOk 400 rfl ?_
    obtain ⟨x6, hx6, hF⟩ := bnd_some hF
    refine Exec.callS (.int .u64 (x6)) rfl rfl (W_clockworkref03_FNV x3  hx6) ?_
    refine Exec.run tyOk 400 rfl ?_
    obtain rfl := some_inj hF
    exact Exec.ret tyOk rfl rfl rfl
  · skip
    refine Exec.run tyOk 400 rfl ?_
    refine Exec.loop (fun n9 L' V' M' => ∃ (x7 : Str) (x8 : Int), L' = [(1, .ptr 0 0), (3, .v (.string ⟨⟨x7⟩⟩)), (4, .v (.int .i64 (x8)))] ∧ M' = [.blk [.v (.slice a2 ((x1.Buckets).length) (k2)), .v (.int .u64 (x1.Root))] 50] ∧ SlAt (cInt .u64) V' a2 k2 x1.Buckets ∧ F_clockworkref53_Root_L1 x1 J4 n9 x7 x8 = some r) ⟨(((((x1.Buckets).length : Nat) : Int)).toNat + 1), [(1, .ptr 0 0), (3, .v (.string ⟨⟨([] : Str)⟩⟩)), (4, .v (.int .i64 ((0 : Int))))], ⟨rfl, rfl, rfl, trivial⟩, ([] : Str), (0 : Int), rfl, rfl, h2, hF⟩ ?_
    rintro n9 L' V10 M' ⟨x7, x8, rfl, rfl, h11, hF⟩
    rcases n9 with _ | n9
    · exact absurd hF (by simp [F_clockworkref53_Root_L1])
    rw [F_clockworkref53_Root_L1] at hF
    refine Exec.run tyOk 400 rfl ?_
    rcases cond_some hF with ⟨hb, hF⟩ | ⟨hb, hF⟩
    · skip
      refine Exec.ifT rfl hb ?_
      refine Exec.run tyOk 400 rfl ?_
      obtain ⟨q12, hF⟩ := req_some hF
      obtain ⟨c13, hr13, hd13⟩ := SlAt.get h11 q12
      obtain rfl := hr13
      refine Exec.ia tyOk rfl rfl ⟨q12.1, q12.2, hd13.some⟩ ?_
      refine Exec.run tyOk 400 rfl ?_
      refine Exec.ld tyOk (x := .int .u64 ((atI x1.Buckets x8))) rfl rfl hd13 rfl rfl ?_
      refine Exec.run tyOk 400 rfl ?_
      obtain ⟨x14, hx14, hF⟩ := bnd_some hF
      refine Exec.callS (.string ⟨⟨x14⟩⟩) rfl rfl (W_clockworkref53_bytes ((atI x1.Buckets x8))  hx14) ?_
      refine Exec.run tyOk 400 rfl ?_
      obtain ⟨q15, hF⟩ := req_some hF
      refine Exec.cat rfl rfl q15 ?_
      refine Exec.run tyOk 400 rfl ?_
      exact Exec.round [(1, .ptr 0 0), (3, .v (.string ⟨⟨(x7 ++ x14)⟩⟩)), (4, .v (.int .i64 ((IntKind.i64.wrap (x8 + (1 : Int))))))] ⟨rfl, rfl, rfl, trivial⟩ ⟨n9, Nat.lt_succ_self _, (x7 ++ x14), (IntKind.i64.wrap (x8 + (1 : Int))), rfl, rfl, h11, hF⟩
    · skip
      refine Exec.ifF rfl hb ?_
      refine Exec.run tyOk 400 rfl ?_
      refine Exec.cut 0 [(3, .v (.string ⟨⟨x7⟩⟩))] (M' := []) rfl ⟨rfl, trivial⟩ rfl rfl rfl ?_
      exact Exec.round [(3, .v (.string ⟨⟨x7⟩⟩))] ⟨rfl, trivial⟩ ⟨x7, rfl, rfl, hF⟩

def F_clockworkref53_Valid (x1 : TTree) : Option Bool :=
  (bnd (gcall ((((((x1.Buckets).length : Nat) : Int) == (64 : Int))) == true) (F_clockworkref53_Root x1)) fun x3 => (some (((((x1.Buckets).length : Nat) : Int) == (64 : Int)) && (x1.Root == x3))))

set_option maxRecDepth 100000 in
theorem W_clockworkref53_Valid {V : View} (x1 : TTree) {a2 : Option Addr} {k2 : Nat} (h2 : SlAt (cInt .u64) V a2 k2 x1.Buckets) {r : Bool} (hF : F_clockworkref53_Valid x1 = some r) :
    Spec Tryz.prog 74 [.agg ⟨[.slice a2 ((x1.Buckets).length) (k2), .int .u64 (x1.Root)]⟩] V (fun _ v => v = .bool (r)) := by
  unfold F_clockworkref53_Valid at hF
  refine Spec.enter (T := tyT) Tryz.func74 rfl (by kernel_rfl) rfl rfl rfl ?_
  refine Exec.run tyOk 400 rfl ?_
  refine Exec.draws tyOk [(0, true), (1, true), (2, true), (3, true), (4, true), (5, true), (6, true), (7, true), (8, false), (9, false), (10, false), (11, false)] rfl (by kernel_rfl) ?_
  refine Exec.run tyOk 400 rfl ?_
  obtain ⟨x3, hx3, hF⟩ := bnd_some hF
  refine Exec.callS (.int .u64 (x3)) rfl rfl (fun gg0 => W_clockworkref53_Root x1 h2 (gcall_some hx3 (gd1_of gg0))) ?_
  refine Exec.run tyOk 400 rfl ?_
  obtain rfl := some_inj hF
  exact Exec.ret tyOk rfl rfl rfl

def F_mvstore_validRow_L1 (x1 : TRow) (x3 : Int) (x4 : Int) (J7 : Option Bool) : Nat → Int → Option Bool
  | 0, _ => none
  | n10 + 1, x9 => (cond (decide (x9 < (((x1.Vers).length : Nat) : Int))) (req (0 ≤ x9 ∧ x9 < ((x1.Vers).length : Int)) (bnd (gcall ((((decide ((atI x1.Vers x9).At < x3)) || (decide (x4 < (atI x1.Vers x9).At)))) == false) (F_value_Valid ((⟨(atI x1.Vers x9).Val.Kind, (atI x1.Vers x9).Val.N, (atI x1.Vers x9).Val.S⟩ : TValue)))) fun x15 => (cond (((decide ((atI x1.Vers x9).At < x3)) || (decide (x4 < (atI x1.Vers x9).At))) || (!x15)) (some false) (req ((((decide ((0 : Int) < x9))) == true) = true → 0 ≤ (IntKind.i64.wrap (x9 - (1 : Int))) ∧ (IntKind.i64.wrap (x9 - (1 : Int))) < ((x1.Vers).length : Int)) (req (((((decide ((atI x1.Vers x9).At ≤ (cond (((decide ((0 : Int) < x9))) == true) (atI x1.Vers ((IntKind.i64.wrap (x9 - (1 : Int))))) default).At))) == false) && (((decide ((0 : Int) < x9))) == true)) = true → 0 ≤ (IntKind.i64.wrap (x9 - (1 : Int))) ∧ (IntKind.i64.wrap (x9 - (1 : Int))) < ((x1.Vers).length : Int)) (cond ((decide ((0 : Int) < x9)) && ((decide ((atI x1.Vers x9).At ≤ (cond (((decide ((0 : Int) < x9))) == true) (atI x1.Vers ((IntKind.i64.wrap (x9 - (1 : Int))))) default).At)) || (((atI x1.Vers x9).Val.Kind == (cond ((((decide ((atI x1.Vers x9).At ≤ (cond (((decide ((0 : Int) < x9))) == true) (atI x1.Vers ((IntKind.i64.wrap (x9 - (1 : Int))))) default).At))) == false) && (((decide ((0 : Int) < x9))) == true)) (atI x1.Vers ((IntKind.i64.wrap (x9 - (1 : Int))))) default).Val.Kind) && (((atI x1.Vers x9).Val.N == (cond ((((decide ((atI x1.Vers x9).At ≤ (cond (((decide ((0 : Int) < x9))) == true) (atI x1.Vers ((IntKind.i64.wrap (x9 - (1 : Int))))) default).At))) == false) && (((decide ((0 : Int) < x9))) == true)) (atI x1.Vers ((IntKind.i64.wrap (x9 - (1 : Int))))) default).Val.N) && (((atI x1.Vers x9).Val.S == (cond ((((decide ((atI x1.Vers x9).At ≤ (cond (((decide ((0 : Int) < x9))) == true) (atI x1.Vers ((IntKind.i64.wrap (x9 - (1 : Int))))) default).At))) == false) && (((decide ((0 : Int) < x9))) == true)) (atI x1.Vers ((IntKind.i64.wrap (x9 - (1 : Int))))) default).Val.S) && true))))) (some false) (F_mvstore_validRow_L1 x1 x3 x4 J7 n10 ((IntKind.i64.wrap (x9 + (1 : Int))))))))))) J7)

def F_mvstore_validRow (x1 : TRow) (x3 : Int) (x4 : Int) : Option Bool :=
  (req (((((((x1.Vers).length : Nat) : Int) == (0 : Int))) == false) = true → 0 ≤ (0 : Int) ∧ (0 : Int) < ((x1.Vers).length : Int)) (cond (((((x1.Vers).length : Nat) : Int) == (0 : Int)) || ((cond ((((((x1.Vers).length : Nat) : Int) == (0 : Int))) == false) (atI x1.Vers ((0 : Int))) default).Val.Kind == (0 : Int))) (some false) (jn ((some true)) (fun J7 => (F_mvstore_validRow_L1 x1 x3 x4 J7 (((((x1.Vers).length : Nat) : Int)).toNat + 1) ((0 : Int)))))))

set_option maxRecDepth 100000 in
theorem W_mvstore_validRow {V : View} (x1 : TRow) (x3 : Int) (x4 : Int) {a2 : Option Addr} {k2 : Nat} (h2 : SlAt cTVersion V a2 k2 x1.Vers) {r : Bool} (hF : F_mvstore_validRow x1 x3 x4 = some r) :
    Spec Tryz.prog 77 [.agg ⟨[.string ⟨⟨x1.Key⟩⟩, .slice a2 ((x1.Vers).length) (k2)]⟩, .int .i64 (x3), .int .i64 (x4)] V (fun _ v => v = .bool (r)) := by
  unfold F_mvstore_validRow at hF
  refine Spec.enter (T := tyT) Tryz.func77 rfl (by kernel_rfl) rfl rfl rfl ?_
  refine Exec.run tyOk 400 rfl ?_
  obtain ⟨q5, hF⟩ := req_some hF
  obtain ⟨c6, hr6, hd6⟩ := SlAt.gget ((((((x1.Vers).length : Nat) : Int) == (0 : Int))) == false) h2 q5
  obtain rfl := hr6
  refine Exec.ia tyOk rfl rfl (fun gg0 => ⟨(q5 (gd1_of gg0)).1, (q5 (gd1_of gg0)).2, (hd6 (gd1_of gg0)).some⟩) ?_
  refine Exec.run tyOk 400 rfl ?_
  refine Exec.ld tyOk (x := .int .i64 ((cond ((((((x1.Vers).length : Nat) : Int) == (0 : Int))) == false) (atI x1.Vers ((0 : Int))) default).Val.Kind)) rfl rfl (fun gg0 => (RdAt.part (hd6 (gd1_of gg0)) 1 1 rfl)) rfl rfl ?_
  refine Exec.run tyOk 400 rfl ?_
  rcases cond_some hF with ⟨hb, hF⟩ | ⟨hb, hF⟩
  · skip
    refine Exec.ifT rfl hb ?_
    refine Exec.run tyOk 400 rfl ?_
    obtain rfl := some_inj hF
    exact Exec.ret tyOk rfl rfl rfl
  · skip
    refine Exec.ifF rfl hb ?_
    refine Exec.run tyOk 9 rfl ?_
    obtain ⟨J7, hJ7, hF⟩ := jn_some hF
    refine Exec.seam (fun L' V' M' => L' = [] ∧ M' = [] ∧ J7 = some r) rfl ?_ ?_
    · rintro L' V8 M' ⟨rfl, rfl, hF⟩
      subst hJ7
      refine Exec.run tyOk 400 rfl ?_
      obtain rfl := some_inj hF
      exact Exec.ret tyOk rfl rfl rfl
    · skip
      refine Exec.run tyOk 400 rfl ?_
      refine Exec.loop (fun n10 L' V' M' => ∃ (x9 : Int), L' = [(1, .v (.int .i64 (x3))), (2, .v (.int .i64 (x4))), (3, .ptr 0 0), (23, .v (.slice a2 ((x1.Vers).length) (k2))), (24, .v (.int .i64 ((((x1.Vers).length : Nat) : Int)))), (25, .v (.int .i64 (x9)))] ∧ M' = [.blk [.v (.string ⟨⟨x1.Key⟩⟩), .v (.slice a2 ((x1.Vers).length) (k2))] 73] ∧ SlAt cTVersion V' a2 k2 x1.Vers ∧ F_mvstore_validRow_L1 x1 x3 x4 J7 n10 x9 = some r) ⟨(((((x1.Vers).length : Nat) : Int)).toNat + 1), [(1, .v (.int .i64 (x3))), (2, .v (.int .i64 (x4))), (3, .ptr 0 0), (23, .v (.slice a2 ((x1.Vers).length) (k2))), (24, .v (.int .i64 ((((x1.Vers).length : Nat) : Int)))), (25, .v (.int .i64 ((0 : Int))))], ⟨rfl, rfl, rfl, rfl, rfl, rfl, trivial⟩, (0 : Int), rfl, rfl, h2, hF⟩ ?_
      rintro n10 L' V11 M' ⟨x9, rfl, rfl, h12, hF⟩
      rcases n10 with _ | n10
      · exact absurd hF (by simp [F_mvstore_validRow_L1])
      rw [F_mvstore_validRow_L1] at hF
      refine Exec.run tyOk 400 rfl ?_
      rcases cond_some hF with ⟨hb, hF⟩ | ⟨hb, hF⟩
      · skip
        refine Exec.ifT rfl hb ?_
        refine Exec.run tyOk 400 rfl ?_
        obtain ⟨q13, hF⟩ := req_some hF
        obtain ⟨c14, hr14, hd14⟩ := SlAt.get h12 q13
        obtain rfl := hr14
        refine Exec.ia tyOk rfl rfl ⟨q13.1, q13.2, hd14.some⟩ ?_
        refine Exec.run tyOk 400 rfl ?_
        refine Exec.ld tyOk (x := .agg ⟨[.int .i64 ((atI x1.Vers x9).At), .int .i64 ((atI x1.Vers x9).Val.Kind), .int .i64 ((atI x1.Vers x9).Val.N), .string ⟨⟨(atI x1.Vers x9).Val.S⟩⟩]⟩) rfl rfl hd14 rfl rfl ?_
        refine Exec.run tyOk 400 rfl ?_
        obtain ⟨x15, hx15, hF⟩ := bnd_some hF
        refine Exec.callS (.bool (x15)) rfl rfl (fun gg0 => W_value_Valid ((⟨(atI x1.Vers x9).Val.Kind, (atI x1.Vers x9).Val.N, (atI x1.Vers x9).Val.S⟩ : TValue))  (gcall_some hx15 (gd1_of gg0))) ?_
        refine Exec.run tyOk 400 rfl ?_
        rcases cond_some hF with ⟨hb, hF⟩ | ⟨hb, hF⟩
        · skip
          refine Exec.ifT rfl hb ?_
          refine Exec.run tyOk 400 rfl ?_
          obtain rfl := some_inj hF
          exact Exec.ret tyOk rfl rfl rfl
        · skip
          refine Exec.ifF rfl hb ?_
          refine Exec.run tyOk 400 rfl ?_
          refine Exec.draws tyOk [(0, true), (1, true), (2, true), (3, true), (4, true), (5, true), (6, true), (7, true), (8, true), (9, true), (10, true), (11, true), (12, true), (13, true), (14, true), (15, true), (16, true), (17, true), (18, true), (19, true), (20, true), (21, true), (22, true), (23, true), (24, true), (25, true)] rfl (by kernel_rfl) ?_
          refine Exec.run tyOk 400 rfl ?_
          obtain ⟨q16, hF⟩ := req_some hF
          obtain ⟨c17, hr17, hd17⟩ := SlAt.gget (((decide ((0 : Int) < x9))) == true) h12 q16
          obtain rfl := hr17
          refine Exec.fia tyOk rfl rfl rfl (fun gg0 => ⟨(q16 (gd1_of gg0)).1, (q16 (gd1_of gg0)).2, (hd17 (gd1_of gg0)).some⟩) ?_
          refine Exec.run tyOk 400 rfl ?_
          refine Exec.fld tyOk (x := .int .i64 ((cond (((decide ((0 : Int) < x9))) == true) (atI x1.Vers ((IntKind.i64.wrap (x9 - (1 : Int))))) default).At)) rfl rfl rfl (fun gg0 => (RdAt.part (hd17 (gd1_of gg0)) 0 1 rfl)) rfl rfl ?_
          refine Exec.run tyOk 400 rfl ?_
          obtain ⟨q18, hF⟩ := req_some hF
          obtain ⟨c19, hr19, hd19⟩ := SlAt.gget ((((decide ((atI x1.Vers x9).At ≤ (cond (((decide ((0 : Int) < x9))) == true) (atI x1.Vers ((IntKind.i64.wrap (x9 - (1 : Int))))) default).At))) == false) && (((decide ((0 : Int) < x9))) == true)) h12 q18
          obtain rfl := hr19
          refine Exec.fia tyOk rfl rfl rfl (fun gg0 gg1 => ⟨(q18 (gd2_of gg0 gg1)).1, (q18 (gd2_of gg0 gg1)).2, (hd19 (gd2_of gg0 gg1)).some⟩) ?_
          refine Exec.run tyOk 400 rfl ?_
          refine Exec.fld tyOk (x := .agg ⟨[.int .i64 ((cond ((((decide ((atI x1.Vers x9).At ≤ (cond (((decide ((0 : Int) < x9))) == true) (atI x1.Vers ((IntKind.i64.wrap (x9 - (1 : Int))))) default).At))) == false) && (((decide ((0 : Int) < x9))) == true)) (atI x1.Vers ((IntKind.i64.wrap (x9 - (1 : Int))))) default).Val.Kind), .int .i64 ((cond ((((decide ((atI x1.Vers x9).At ≤ (cond (((decide ((0 : Int) < x9))) == true) (atI x1.Vers ((IntKind.i64.wrap (x9 - (1 : Int))))) default).At))) == false) && (((decide ((0 : Int) < x9))) == true)) (atI x1.Vers ((IntKind.i64.wrap (x9 - (1 : Int))))) default).Val.N), .string ⟨⟨(cond ((((decide ((atI x1.Vers x9).At ≤ (cond (((decide ((0 : Int) < x9))) == true) (atI x1.Vers ((IntKind.i64.wrap (x9 - (1 : Int))))) default).At))) == false) && (((decide ((0 : Int) < x9))) == true)) (atI x1.Vers ((IntKind.i64.wrap (x9 - (1 : Int))))) default).Val.S⟩⟩]⟩) rfl rfl rfl (fun gg0 gg1 => (RdAt.part (hd19 (gd2_of gg0 gg1)) 1 3 rfl)) rfl rfl ?_
          refine Exec.run tyOk 400 rfl ?_
          rcases cond_some hF with ⟨hb, hF⟩ | ⟨hb, hF⟩
          · skip
            refine Exec.ifT rfl hb ?_
            refine Exec.run tyOk 400 rfl ?_
            obtain rfl := some_inj hF
            exact Exec.ret tyOk rfl rfl rfl
          · skip
            refine Exec.ifF rfl hb ?_
            refine Exec.run tyOk 400 rfl ?_
            refine Exec.cut 1 [(1, .v (.int .i64 (x3))), (2, .v (.int .i64 (x4))), (3, .ptr 0 0), (23, .v (.slice a2 ((x1.Vers).length) (k2))), (24, .v (.int .i64 ((((x1.Vers).length : Nat) : Int)))), (25, .v (.int .i64 ((IntKind.i64.wrap (x9 + (1 : Int))))))] (M' := [.blk [.v (.string ⟨⟨x1.Key⟩⟩), .v (.slice a2 ((x1.Vers).length) (k2))] 73]) rfl ⟨rfl, rfl, rfl, rfl, rfl, rfl, trivial⟩ rfl rfl rfl ?_
            exact Exec.round [(1, .v (.int .i64 (x3))), (2, .v (.int .i64 (x4))), (3, .ptr 0 0), (23, .v (.slice a2 ((x1.Vers).length) (k2))), (24, .v (.int .i64 ((((x1.Vers).length : Nat) : Int)))), (25, .v (.int .i64 ((IntKind.i64.wrap (x9 + (1 : Int))))))] ⟨rfl, rfl, rfl, rfl, rfl, rfl, trivial⟩ ⟨n10, Nat.lt_succ_self _, (IntKind.i64.wrap (x9 + (1 : Int))), rfl, rfl, h12, hF⟩
      · skip
        refine Exec.ifF rfl hb ?_
        refine Exec.run tyOk 400 rfl ?_
        refine Exec.cut 0 [] (M' := []) rfl trivial rfl rfl rfl ?_
        exact Exec.round [] trivial ⟨rfl, rfl, hF⟩

def F_value_Encode (x1 : TValue) : Option Str :=
  (cond (x1.Kind == (1 : Int)) (bnd (F_wire_Uint ((1 : Int))) fun x2 => (bnd (F_wire_Int x1.N) fun x3 => (req ((x2).length + (x3).length ≤ 9223372036854775807) (some (x2 ++ x3))))) (cond (x1.Kind == (2 : Int)) (bnd (F_wire_Uint ((2 : Int))) fun x5 => (bnd (F_wire_Text x1.S) fun x6 => (req ((x5).length + (x6).length ≤ 9223372036854775807) (some (x5 ++ x6))))) (bnd (F_wire_Uint ((0 : Int))) fun x8 => (some x8))))

set_option maxRecDepth 100000 in
theorem W_value_Encode {V : View} (x1 : TValue)   {r : Str} (hF : F_value_Encode x1 = some r) :
    Spec Tryz.prog 87 [.agg ⟨[.int .i64 (x1.Kind), .int .i64 (x1.N), .string ⟨⟨x1.S⟩⟩]⟩] V (fun _ v => v = .string ⟨⟨r⟩⟩) := by
  unfold F_value_Encode at hF
  refine Spec.enter (T := tyT) Tryz.func87 rfl (by kernel_rfl) rfl rfl rfl ?_
  refine Exec.run tyOk 400 rfl ?_
  rcases cond_some hF with ⟨hb, hF⟩ | ⟨hb, hF⟩
  · skip
    refine Exec.ifT rfl hb ?_
    refine Exec.run tyOk 400 rfl ?_
    refine Exec.draws tyOk [(1, true), (2, true), (0, false), (3, false), (4, false), (5, false)] rfl (by kernel_rfl) ?_
    refine Exec.run tyOk 400 rfl ?_
    obtain ⟨x2, hx2, hF⟩ := bnd_some hF
    refine Exec.callS (.string ⟨⟨x2⟩⟩) rfl rfl (W_wire_Uint ((1 : Int))  hx2) ?_
    refine Exec.run tyOk 400 rfl ?_
    obtain ⟨x3, hx3, hF⟩ := bnd_some hF
    refine Exec.callS (.string ⟨⟨x3⟩⟩) rfl rfl (W_wire_Int x1.N  hx3) ?_
    refine Exec.run tyOk 400 rfl ?_
    obtain ⟨q4, hF⟩ := req_some hF
    refine Exec.cat rfl rfl q4 ?_
    refine Exec.run tyOk 400 rfl ?_
    obtain rfl := some_inj hF
    exact Exec.ret tyOk rfl rfl rfl
  · skip
    refine Exec.ifF rfl hb ?_
    refine Exec.run tyOk 400 rfl ?_
    rcases cond_some hF with ⟨hb, hF⟩ | ⟨hb, hF⟩
    · skip
      refine Exec.ifT rfl hb ?_
      refine Exec.run tyOk 400 rfl ?_
      refine Exec.draws tyOk [(1, true), (2, true), (0, false), (3, false), (4, false), (5, false)] rfl (by kernel_rfl) ?_
      refine Exec.run tyOk 400 rfl ?_
      obtain ⟨x5, hx5, hF⟩ := bnd_some hF
      refine Exec.callS (.string ⟨⟨x5⟩⟩) rfl rfl (W_wire_Uint ((2 : Int))  hx5) ?_
      refine Exec.run tyOk 400 rfl ?_
      obtain ⟨x6, hx6, hF⟩ := bnd_some hF
      refine Exec.callS (.string ⟨⟨x6⟩⟩) rfl rfl (W_wire_Text x1.S  hx6) ?_
      refine Exec.run tyOk 400 rfl ?_
      obtain ⟨q7, hF⟩ := req_some hF
      refine Exec.cat rfl rfl q7 ?_
      refine Exec.run tyOk 400 rfl ?_
      obtain rfl := some_inj hF
      exact Exec.ret tyOk rfl rfl rfl
    · skip
      refine Exec.ifF rfl hb ?_
      refine Exec.run tyOk 400 rfl ?_
      obtain ⟨x8, hx8, hF⟩ := bnd_some hF
      refine Exec.callS (.string ⟨⟨x8⟩⟩) rfl rfl (W_wire_Uint ((0 : Int))  hx8) ?_
      refine Exec.run tyOk 400 rfl ?_
      obtain rfl := some_inj hF
      exact Exec.ret tyOk rfl rfl rfl

def F_clockworkref05_Encode (x1 : TValue) : Option Str :=
  (cond (x1.Kind == (1 : Int)) (bnd (F_clockworkref02_Uint ((1 : Int))) fun x2 => (bnd (F_clockworkref02_Int x1.N) fun x3 => (req ((x2).length + (x3).length ≤ 9223372036854775807) (some (x2 ++ x3))))) (cond (x1.Kind == (2 : Int)) (bnd (F_clockworkref02_Uint ((2 : Int))) fun x5 => (bnd (F_clockworkref02_Text x1.S) fun x6 => (req ((x5).length + (x6).length ≤ 9223372036854775807) (some (x5 ++ x6))))) (bnd (F_clockworkref02_Uint ((0 : Int))) fun x8 => (some x8))))

set_option maxRecDepth 100000 in
theorem W_clockworkref05_Encode {V : View} (x1 : TValue)   {r : Str} (hF : F_clockworkref05_Encode x1 = some r) :
    Spec Tryz.prog 91 [.agg ⟨[.int .i64 (x1.Kind), .int .i64 (x1.N), .string ⟨⟨x1.S⟩⟩]⟩] V (fun _ v => v = .string ⟨⟨r⟩⟩) := by
  unfold F_clockworkref05_Encode at hF
  refine Spec.enter (T := tyT) Tryz.func91 rfl (by kernel_rfl) rfl rfl rfl ?_
  refine Exec.run tyOk 400 rfl ?_
  rcases cond_some hF with ⟨hb, hF⟩ | ⟨hb, hF⟩
  · skip
    refine Exec.ifT rfl hb ?_
    refine Exec.run tyOk 400 rfl ?_
    refine Exec.draws tyOk [(1, true), (2, true), (0, false), (3, false), (4, false), (5, false)] rfl (by kernel_rfl) ?_
    refine Exec.run tyOk 400 rfl ?_
    obtain ⟨x2, hx2, hF⟩ := bnd_some hF
    refine Exec.callS (.string ⟨⟨x2⟩⟩) rfl rfl (W_clockworkref02_Uint ((1 : Int))  hx2) ?_
    refine Exec.run tyOk 400 rfl ?_
    obtain ⟨x3, hx3, hF⟩ := bnd_some hF
    refine Exec.callS (.string ⟨⟨x3⟩⟩) rfl rfl (W_clockworkref02_Int x1.N  hx3) ?_
    refine Exec.run tyOk 400 rfl ?_
    obtain ⟨q4, hF⟩ := req_some hF
    refine Exec.cat rfl rfl q4 ?_
    refine Exec.run tyOk 400 rfl ?_
    obtain rfl := some_inj hF
    exact Exec.ret tyOk rfl rfl rfl
  · skip
    refine Exec.ifF rfl hb ?_
    refine Exec.run tyOk 400 rfl ?_
    rcases cond_some hF with ⟨hb, hF⟩ | ⟨hb, hF⟩
    · skip
      refine Exec.ifT rfl hb ?_
      refine Exec.run tyOk 400 rfl ?_
      refine Exec.draws tyOk [(1, true), (2, true), (0, false), (3, false), (4, false), (5, false)] rfl (by kernel_rfl) ?_
      refine Exec.run tyOk 400 rfl ?_
      obtain ⟨x5, hx5, hF⟩ := bnd_some hF
      refine Exec.callS (.string ⟨⟨x5⟩⟩) rfl rfl (W_clockworkref02_Uint ((2 : Int))  hx5) ?_
      refine Exec.run tyOk 400 rfl ?_
      obtain ⟨x6, hx6, hF⟩ := bnd_some hF
      refine Exec.callS (.string ⟨⟨x6⟩⟩) rfl rfl (W_clockworkref02_Text x1.S  hx6) ?_
      refine Exec.run tyOk 400 rfl ?_
      obtain ⟨q7, hF⟩ := req_some hF
      refine Exec.cat rfl rfl q7 ?_
      refine Exec.run tyOk 400 rfl ?_
      obtain rfl := some_inj hF
      exact Exec.ret tyOk rfl rfl rfl
    · skip
      refine Exec.ifF rfl hb ?_
      refine Exec.run tyOk 400 rfl ?_
      obtain ⟨x8, hx8, hF⟩ := bnd_some hF
      refine Exec.callS (.string ⟨⟨x8⟩⟩) rfl rfl (W_clockworkref02_Uint ((0 : Int))  hx8) ?_
      refine Exec.run tyOk 400 rfl ?_
      obtain rfl := some_inj hF
      exact Exec.ret tyOk rfl rfl rfl

def F_state_sorted_L1 (x1 : List TPair) (J3 : Option Bool) : Nat → Int → Option Bool
  | 0, _ => none
  | n6 + 1, x5 => (cond (decide (x5 < (((x1).length : Nat) : Int))) (req (0 ≤ x5 ∧ x5 < ((x1).length : Int)) (bnd (F_keys_Valid ((atI x1 x5).Key)) fun x11 => (bnd (gcall (((!x11)) == false) (F_value_Valid ((⟨(atI x1 x5).Val.Kind, (atI x1 x5).Val.N, (atI x1 x5).Val.S⟩ : TValue)))) fun x12 => (req (((((decide ((0 : Int) < x5))) == true) && ((((!x11) || (!x12))) == false)) = true → 0 ≤ (IntKind.i64.wrap (x5 - (1 : Int))) ∧ (IntKind.i64.wrap (x5 - (1 : Int))) < ((x1).length : Int)) (cond (((!x11) || (!x12)) || ((decide ((0 : Int) < x5)) && (!sLt (cond ((((decide ((0 : Int) < x5))) == true) && ((((!x11) || (!x12))) == false)) (atI x1 ((IntKind.i64.wrap (x5 - (1 : Int))))) default).Key (atI x1 x5).Key))) (some false) (F_state_sorted_L1 x1 J3 n6 ((IntKind.i64.wrap (x5 + (1 : Int)))))))))) J3)

def F_state_sorted (x1 : List TPair) : Option Bool :=
  (jn ((some true)) (fun J3 => (F_state_sorted_L1 x1 J3 (((((x1).length : Nat) : Int)).toNat + 1) ((0 : Int)))))

set_option maxRecDepth 100000 in
theorem W_state_sorted {V : View} (x1 : List TPair) {a2 : Option Addr} {k2 : Nat} (h2 : SlAt cTPair V a2 k2 x1) {r : Bool} (hF : F_state_sorted x1 = some r) :
    Spec Tryz.prog 93 [.slice a2 ((x1).length) (k2)] V (fun _ v => v = .bool (r)) := by
  unfold F_state_sorted at hF
  refine Spec.enter (T := tyT) Tryz.func93 rfl (by kernel_rfl) rfl rfl rfl ?_
  refine Exec.run tyOk 11 rfl ?_
  obtain ⟨J3, hJ3, hF⟩ := jn_some hF
  refine Exec.seam (fun L' V' M' => L' = [] ∧ M' = [] ∧ J3 = some r) rfl ?_ ?_
  · rintro L' V4 M' ⟨rfl, rfl, hF⟩
    subst hJ3
    refine Exec.run tyOk 400 rfl ?_
    obtain rfl := some_inj hF
    exact Exec.ret tyOk rfl rfl rfl
  · skip
    refine Exec.run tyOk 400 rfl ?_
    refine Exec.loop (fun n6 L' V' M' => ∃ (x5 : Int), L' = [(0, .v (.slice a2 ((x1).length) (k2))), (5, .v (.slice a2 ((x1).length) (k2))), (6, .v (.int .i64 ((((x1).length : Nat) : Int)))), (7, .v (.int .i64 (x5)))] ∧ M' = [] ∧ SlAt cTPair V' a2 k2 x1 ∧ F_state_sorted_L1 x1 J3 n6 x5 = some r) ⟨(((((x1).length : Nat) : Int)).toNat + 1), [(0, .v (.slice a2 ((x1).length) (k2))), (5, .v (.slice a2 ((x1).length) (k2))), (6, .v (.int .i64 ((((x1).length : Nat) : Int)))), (7, .v (.int .i64 ((0 : Int))))], ⟨rfl, rfl, rfl, rfl, trivial⟩, (0 : Int), rfl, rfl, h2, hF⟩ ?_
    rintro n6 L' V7 M' ⟨x5, rfl, rfl, h8, hF⟩
    rcases n6 with _ | n6
    · exact absurd hF (by simp [F_state_sorted_L1])
    rw [F_state_sorted_L1] at hF
    refine Exec.run tyOk 400 rfl ?_
    rcases cond_some hF with ⟨hb, hF⟩ | ⟨hb, hF⟩
    · skip
      refine Exec.ifT rfl hb ?_
      refine Exec.run tyOk 400 rfl ?_
      obtain ⟨q9, hF⟩ := req_some hF
      obtain ⟨c10, hr10, hd10⟩ := SlAt.get h8 q9
      obtain rfl := hr10
      refine Exec.ia tyOk rfl rfl ⟨q9.1, q9.2, hd10.some⟩ ?_
      refine Exec.run tyOk 400 rfl ?_
      refine Exec.ld tyOk (x := .agg ⟨[.string ⟨⟨(atI x1 x5).Key⟩⟩, .int .i64 ((atI x1 x5).Val.Kind), .int .i64 ((atI x1 x5).Val.N), .string ⟨⟨(atI x1 x5).Val.S⟩⟩]⟩) rfl rfl hd10 rfl rfl ?_
      refine Exec.run tyOk 400 rfl ?_
      refine Exec.draws tyOk [(0, true), (1, true), (2, false), (3, false), (4, false), (5, false), (6, false), (7, false), (8, false), (9, false), (10, false), (11, false), (12, false), (13, false), (14, true), (15, true), (16, true), (17, true), (18, true), (19, true), (20, false), (21, false), (22, false), (23, false), (24, false)] rfl (by kernel_rfl) ?_
      refine Exec.run tyOk 400 rfl ?_
      obtain ⟨x11, hx11, hF⟩ := bnd_some hF
      refine Exec.callS (.bool (x11)) rfl rfl (W_keys_Valid ((atI x1 x5).Key)  hx11) ?_
      refine Exec.run tyOk 400 rfl ?_
      obtain ⟨x12, hx12, hF⟩ := bnd_some hF
      refine Exec.callS (.bool (x12)) rfl rfl (fun gg0 => W_value_Valid ((⟨(atI x1 x5).Val.Kind, (atI x1 x5).Val.N, (atI x1 x5).Val.S⟩ : TValue))  (gcall_some hx12 (gd1_of gg0))) ?_
      refine Exec.run tyOk 400 rfl ?_
      obtain ⟨q13, hF⟩ := req_some hF
      obtain ⟨c14, hr14, hd14⟩ := SlAt.gget ((((decide ((0 : Int) < x5))) == true) && ((((!x11) || (!x12))) == false)) h8 q13
      obtain rfl := hr14
      refine Exec.fia tyOk rfl rfl rfl (fun gg0 gg1 => ⟨(q13 (gd2_of gg0 gg1)).1, (q13 (gd2_of gg0 gg1)).2, (hd14 (gd2_of gg0 gg1)).some⟩) ?_
      refine Exec.run tyOk 400 rfl ?_
      refine Exec.fld tyOk (x := .string ⟨⟨(cond ((((decide ((0 : Int) < x5))) == true) && ((((!x11) || (!x12))) == false)) (atI x1 ((IntKind.i64.wrap (x5 - (1 : Int))))) default).Key⟩⟩) rfl rfl rfl (fun gg0 gg1 => (RdAt.part (hd14 (gd2_of gg0 gg1)) 0 1 rfl)) rfl rfl ?_
      refine Exec.run tyOk 400 rfl ?_
      rcases cond_some hF with ⟨hb, hF⟩ | ⟨hb, hF⟩
      · skip
        refine Exec.ifT rfl hb ?_
        refine Exec.run tyOk 400 rfl ?_
        obtain rfl := some_inj hF
        exact Exec.ret tyOk rfl rfl rfl
      · skip
        refine Exec.ifF rfl hb ?_
        refine Exec.run tyOk 400 rfl ?_
        refine Exec.cut 0 [(0, .v (.slice a2 ((x1).length) (k2))), (5, .v (.slice a2 ((x1).length) (k2))), (6, .v (.int .i64 ((((x1).length : Nat) : Int)))), (7, .v (.int .i64 ((IntKind.i64.wrap (x5 + (1 : Int))))))] (M' := []) rfl ⟨rfl, rfl, rfl, rfl, trivial⟩ rfl rfl rfl ?_
        exact Exec.round [(0, .v (.slice a2 ((x1).length) (k2))), (5, .v (.slice a2 ((x1).length) (k2))), (6, .v (.int .i64 ((((x1).length : Nat) : Int)))), (7, .v (.int .i64 ((IntKind.i64.wrap (x5 + (1 : Int))))))] ⟨rfl, rfl, rfl, rfl, trivial⟩ ⟨n6, Nat.lt_succ_self _, (IntKind.i64.wrap (x5 + (1 : Int))), rfl, rfl, h8, hF⟩
    · skip
      refine Exec.ifF rfl hb ?_
      refine Exec.run tyOk 400 rfl ?_
      exact Exec.round [] trivial ⟨rfl, rfl, hF⟩

def F_digest_buckets (x1 : TTree) : Option (List Int × Bool) :=
  (bnd (gcall ((((((x1.Buckets).length : Nat) : Int) != (64 : Int))) == false) (F_digest_Root x1)) fun x5 => (cond (((((x1.Buckets).length : Nat) : Int) != (64 : Int)) || (x1.Root != x5)) (some ((List.replicate 64 (0 : Int)), false)) (some ((cpL x1.Buckets ((List.replicate 64 (0 : Int)))), true))))

set_option maxRecDepth 100000 in
theorem W_digest_buckets {V : View} (x1 : TTree) {a2 : Option Addr} {k2 : Nat} (h2 : SlAt (cInt .u64) V a2 k2 x1.Buckets) {r : List Int × Bool} (hF : F_digest_buckets x1 = some r) :
    Spec Tryz.prog 97 [.agg ⟨[.slice a2 ((x1.Buckets).length) (k2), .int .u64 (x1.Root)]⟩] V (fun _ v => v = .tuple ⟨[.agg ⟨(r.1).map (Value.int .u64)⟩, .bool (r.2)]⟩) := by
  unfold F_digest_buckets at hF
  refine Spec.enter (T := tyT) Tryz.func97 rfl (by kernel_rfl) rfl rfl rfl ?_
  refine Exec.run tyOk 4 rfl ?_
  refine Exec.fixR 1 (n := 64) (sz := 1) (cs := (List.replicate 64 (.int .u64 0))) rfl rfl rfl rfl rfl (fun _ => rfl) (fun _ => rfl) (fun _ => rfl) (fun b3 => ?_)
  have h3 : RowRep (cInt .u64) V (List.replicate 64 (0 : Int)) (List.replicate 64 (.int .u64 0)) := by have := RowRep.ofInts (k := .u64) (V := V) (List.replicate 64 (0 : Int)); rwa [List.map_replicate] at this
  refine Exec.run tyOk 5 rfl ?_
  refine Exec.fixR 2 (n := 64) (sz := 1) (cs := (List.replicate 64 (.int .u64 0))) rfl rfl rfl rfl rfl (fun _ => rfl) (fun _ => rfl) (fun _ => rfl) (fun b4 => ?_)
  have h4 : RowRep (cInt .u64) V (List.replicate 64 (0 : Int)) (List.replicate 64 (.int .u64 0)) := by have := RowRep.ofInts (k := .u64) (V := V) (List.replicate 64 (0 : Int)); rwa [List.map_replicate] at this
  refine Exec.run tyOk 400 rfl ?_
  refine Exec.draws tyOk [(0, true), (1, true), (2, true), (3, true), (4, true), (5, true), (6, true), (7, true), (8, false), (9, false), (10, false)] rfl (by kernel_rfl) ?_
  refine Exec.run tyOk 400 rfl ?_
  obtain ⟨x5, hx5, hF⟩ := bnd_some hF
  refine Exec.callS (.int .u64 (x5)) rfl rfl (fun gg0 => W_digest_Root x1 h2 (gcall_some hx5 (gd1_of gg0))) ?_
  refine Exec.run tyOk 400 rfl ?_
  rcases cond_some hF with ⟨hb, hF⟩ | ⟨hb, hF⟩
  · skip
    refine Exec.ifT rfl hb ?_
    refine Exec.run tyOk 400 rfl ?_
    refine Exec.ldA tyOk 2 (kd := .u64) rfl rfl rfl h4 rfl rfl (fun hl6 => ?_)
    refine Exec.stA tyOk 1 (nv := (((List.replicate 64 (0 : Int))).map (Value.int .u64))) rfl rfl rfl rfl rfl rfl rfl rfl (by rw [List.length_map]; exact hl6) (fun u hu => by obtain ⟨_, _, rfl⟩ := List.mem_map.1 hu; rfl) rfl rfl ?_
    have h7 : RowRep (cInt .u64) V ((List.replicate 64 (0 : Int))) (((List.replicate 64 (0 : Int))).map (Value.int .u64)) := RowRep.ofInts _
    refine Exec.run tyOk 400 rfl ?_
    obtain rfl := some_inj hF
    exact Exec.retA tyOk 1 (kd := .u64) rfl rfl rfl rfl rfl rfl rfl h7 rfl rfl
  · skip
    refine Exec.ifF rfl hb ?_
    refine Exec.run tyOk 400 rfl ?_
    refine Exec.draws tyOk [(0, true), (1, true), (2, true), (3, false)] rfl (by kernel_rfl) ?_
    refine Exec.run tyOk 400 rfl ?_
    refine Exec.rowI 2 rfl (fun ra8 rb8 rc8 => ?_)
    have hl8 : ((List.replicate 64 (0 : Int))).length = 64 := by have := RowRep.len h4; simp only [cInt] at this; omega
    refine Exec.fslA tyOk rfl rfl rfl hl8 ?_
    refine Exec.run tyOk 400 rfl ?_
    refine Exec.cpA tyOk 2 rfl rfl rfl rfl rfl h4 rfl h2 rfl (fun _ => rfl) rfl (fun cs9 h9 => ?_)
    refine Exec.run tyOk 400 rfl ?_
    refine Exec.ldA tyOk 2 (kd := .u64) rfl rfl rfl h9 rfl rfl (fun hl10 => ?_)
    refine Exec.stA tyOk 1 (nv := (((cpL x1.Buckets ((List.replicate 64 (0 : Int))))).map (Value.int .u64))) rfl rfl rfl rfl rfl rfl rfl rfl (by rw [List.length_map]; exact hl10) (fun u hu => by obtain ⟨_, _, rfl⟩ := List.mem_map.1 hu; rfl) rfl rfl ?_
    have h11 : RowRep (cInt .u64) V ((cpL x1.Buckets ((List.replicate 64 (0 : Int))))) (((cpL x1.Buckets ((List.replicate 64 (0 : Int))))).map (Value.int .u64)) := RowRep.ofInts _
    refine Exec.run tyOk 400 rfl ?_
    obtain rfl := some_inj hF
    exact Exec.retA tyOk 1 (kd := .u64) rfl rfl rfl rfl rfl rfl rfl h11 rfl rfl

def F_clockworkref06_Valid_L1 (x1 : List TPair) (J3 : Option Bool) : Nat → Int → Option Bool
  | 0, _ => none
  | n8 + 1, x7 => (cond (decide (x7 < (((x1).length : Nat) : Int))) (req (0 ≤ x7 ∧ x7 < ((x1).length : Int)) (cond ((atI x1 x7).Val.Kind == (0 : Int)) (some false) (F_clockworkref06_Valid_L1 x1 J3 n8 ((IntKind.i64.wrap (x7 + (1 : Int))))))) J3)

def F_clockworkref06_Valid (x1 : List TPair) : Option Bool :=
  (jn ((bnd (F_clockworkref06_ValidWrites x1) fun x6 => (some x6))) (fun J3 => (F_clockworkref06_Valid_L1 x1 J3 (((((x1).length : Nat) : Int)).toNat + 1) ((0 : Int)))))

set_option maxRecDepth 100000 in
theorem W_clockworkref06_Valid {V : View} (x1 : List TPair) {a2 : Option Addr} {k2 : Nat} (h2 : SlAt cTPair V a2 k2 x1) {r : Bool} (hF : F_clockworkref06_Valid x1 = some r) :
    Spec Tryz.prog 24 [.slice a2 ((x1).length) (k2)] V (fun _ v => v = .bool (r)) := by
  unfold F_clockworkref06_Valid at hF
  refine Spec.enter (T := tyT) Tryz.func24 rfl (by kernel_rfl) rfl rfl rfl ?_
  refine Exec.run tyOk 9 rfl ?_
  obtain ⟨J3, hJ3, hF⟩ := jn_some hF
  refine Exec.seam (fun L' V' M' => L' = [(0, .v (.slice a2 ((x1).length) (k2)))] ∧ M' = [] ∧ SlAt cTPair V' a2 k2 x1 ∧ J3 = some r) rfl ?_ ?_
  · rintro L' V4 M' ⟨rfl, rfl, h5, hF⟩
    subst hJ3
    refine Exec.run tyOk 400 rfl ?_
    obtain ⟨x6, hx6, hF⟩ := bnd_some hF
    refine Exec.callS (.bool (x6)) rfl rfl (W_clockworkref06_ValidWrites x1 h5 hx6) ?_
    refine Exec.run tyOk 400 rfl ?_
    obtain rfl := some_inj hF
    exact Exec.ret tyOk rfl rfl rfl
  · skip
    refine Exec.run tyOk 400 rfl ?_
    refine Exec.loop (fun n8 L' V' M' => ∃ (x7 : Int), L' = [(0, .v (.slice a2 ((x1).length) (k2))), (3, .v (.int .i64 (x7)))] ∧ M' = [] ∧ SlAt cTPair V' a2 k2 x1 ∧ F_clockworkref06_Valid_L1 x1 J3 n8 x7 = some r) ⟨(((((x1).length : Nat) : Int)).toNat + 1), [(0, .v (.slice a2 ((x1).length) (k2))), (3, .v (.int .i64 ((0 : Int))))], ⟨rfl, rfl, trivial⟩, (0 : Int), rfl, rfl, h2, hF⟩ ?_
    rintro n8 L' V9 M' ⟨x7, rfl, rfl, h10, hF⟩
    rcases n8 with _ | n8
    · exact absurd hF (by simp [F_clockworkref06_Valid_L1])
    rw [F_clockworkref06_Valid_L1] at hF
    refine Exec.run tyOk 400 rfl ?_
    rcases cond_some hF with ⟨hb, hF⟩ | ⟨hb, hF⟩
    · skip
      refine Exec.ifT rfl hb ?_
      refine Exec.run tyOk 400 rfl ?_
      obtain ⟨q11, hF⟩ := req_some hF
      obtain ⟨c12, hr12, hd12⟩ := SlAt.get h10 q11
      obtain rfl := hr12
      refine Exec.ia tyOk rfl rfl ⟨q11.1, q11.2, hd12.some⟩ ?_
      refine Exec.run tyOk 400 rfl ?_
      refine Exec.ld tyOk (x := .int .i64 ((atI x1 x7).Val.Kind)) rfl rfl (RdAt.part hd12 1 1 rfl) rfl rfl ?_
      refine Exec.run tyOk 400 rfl ?_
      rcases cond_some hF with ⟨hb, hF⟩ | ⟨hb, hF⟩
      · skip
        refine Exec.ifT rfl hb ?_
        refine Exec.run tyOk 400 rfl ?_
        obtain rfl := some_inj hF
        exact Exec.ret tyOk rfl rfl rfl
      · skip
        refine Exec.ifF rfl hb ?_
        refine Exec.run tyOk 400 rfl ?_
        exact Exec.round [(0, .v (.slice a2 ((x1).length) (k2))), (3, .v (.int .i64 ((IntKind.i64.wrap (x7 + (1 : Int))))))] ⟨rfl, rfl, trivial⟩ ⟨n8, Nat.lt_succ_self _, (IntKind.i64.wrap (x7 + (1 : Int))), rfl, rfl, h10, hF⟩
    · skip
      refine Exec.ifF rfl hb ?_
      refine Exec.run tyOk 400 rfl ?_
      exact Exec.round [(0, .v (.slice a2 ((x1).length) (k2)))] ⟨rfl, trivial⟩ ⟨rfl, rfl, h10, hF⟩

def F_clockworkref06_Diff_L1 (x3 : List TPair) (x1 : List TPair) (J99 : (List TPair) → Option (List TPair × Int)) : Nat → (List TPair) → Int → Option (List TPair × Int)
  | 0, _, _ => none
  | n104 + 1, x101, x103 => (cond (decide (x103 < (((x3).length : Nat) : Int))) (req (0 ≤ x103 ∧ x103 < ((x3).length : Int)) (req (0 ≤ x103 ∧ x103 < ((x3).length : Int)) (bnd (F_clockworkref06_Get x1 ((atI x3 x103).Key)) fun x112 => (jn (fun (x113 : List TPair) => (F_clockworkref06_Diff_L1 x3 x1 J99 n104 x113 ((IntKind.i64.wrap (x103 + (1 : Int)))))) (fun J115 => (cond (!((x112.Kind == (atI x3 x103).Val.Kind) && ((x112.N == (atI x3 x103).Val.N) && ((x112.S == (atI x3 x103).Val.S) && true)))) (req (0 ≤ x103 ∧ x103 < ((x3).length : Int)) (bnd (F_clockworkref06_with x101 ((atI x3 x103))) fun x121 => (J115 x121))) (J115 x101))))))) (J99 x101))

def F_clockworkref06_Diff_L2 (x1 : List TPair) (x3 : List TPair) (J10 : (List TPair) → Option (List TPair × Int)) : Nat → (List TPair) → Int → Option (List TPair × Int)
  | 0, _, _ => none
  | n133 + 1, x131, x132 => (cond (decide (x132 < (((x1).length : Nat) : Int))) (req (0 ≤ x132 ∧ x132 < ((x1).length : Int)) (bnd (F_clockworkref06_Has x3 ((atI x1 x132).Key)) fun x139 => (jn (fun (x141 : List TPair) => (F_clockworkref06_Diff_L2 x1 x3 J10 n133 x141 ((IntKind.i64.wrap (x132 + (1 : Int)))))) (fun J142 => (cond (!x139) (req (0 ≤ x132 ∧ x132 < ((x1).length : Int)) (req (((x131 ++ [(⟨(atI x1 x132).Key, (default : TValue)⟩ : TPair)])).length * 48 ≤ 140737488355328) (J142 ((x131 ++ [(⟨(atI x1 x132).Key, (default : TValue)⟩ : TPair)]))))) (J142 x131)))))) (J10 x131))

def F_clockworkref06_Diff (x1 : List TPair) (x3 : List TPair) : Option (List TPair × Int) :=
  (bnd (F_clockworkref06_Valid x1) fun x5 => (bnd (gcall (((!x5)) == false) (F_clockworkref06_Valid x3)) fun x6 => (cond ((!x5) || (!x6)) (some (([] : List TPair), (1 : Int))) (jn (fun (x9 : List TPair) => (jn (fun (x97 : List TPair) => (some (x97, (0 : Int)))) (fun J99 => (F_clockworkref06_Diff_L1 x3 x1 J99 (((((x3).length : Nat) : Int)).toNat + 1) x9 ((0 : Int)))))) (fun J10 => (F_clockworkref06_Diff_L2 x1 x3 J10 (((((x1).length : Nat) : Int)).toNat + 1) (([] : List TPair)) ((0 : Int))))))))

set_option maxRecDepth 100000 in
theorem W_clockworkref06_Diff {V : View} (x1 : List TPair) (x3 : List TPair) {a2 : Option Addr} {k2 : Nat} {a4 : Option Addr} {k4 : Nat} (h2 : SlAt cTPair V a2 k2 x1) (h4 : SlAt cTPair V a4 k4 x3) {r : List TPair × Int} (hF : F_clockworkref06_Diff x1 x3 = some r) :
    Spec Tryz.prog 25 [.slice a2 ((x1).length) (k2), .slice a4 ((x3).length) (k4)] V (fun V' v => ∃ (a150 : Option Addr) (k150 : Nat), v = .tuple ⟨[.slice a150 ((r.1).length) (k150), .int .i64 (r.2)]⟩ ∧ SlAt cTPair V' a150 k150 r.1) := by
  unfold F_clockworkref06_Diff at hF
  refine Spec.enter (T := tyT) Tryz.func25 rfl (by kernel_rfl) rfl rfl rfl ?_
  refine Exec.run tyOk 400 rfl ?_
  obtain ⟨x5, hx5, hF⟩ := bnd_some hF
  refine Exec.callS (.bool (x5)) rfl rfl (W_clockworkref06_Valid x1 h2 hx5) ?_
  refine Exec.run tyOk 400 rfl ?_
  obtain ⟨x6, hx6, hF⟩ := bnd_some hF
  refine Exec.callS (.bool (x6)) rfl rfl (fun gg0 => W_clockworkref06_Valid x3 h4 (gcall_some hx6 (gd1_of gg0))) ?_
  refine Exec.run tyOk 400 rfl ?_
  rcases cond_some hF with ⟨hb, hF⟩ | ⟨hb, hF⟩
  · skip
    refine Exec.ifT rfl hb ?_
    refine Exec.run tyOk 400 rfl ?_
    obtain rfl := some_inj hF
    exact Exec.ret tyOk rfl rfl ⟨_, _, rfl, SlAt.nil⟩
  · skip
    refine Exec.ifF rfl hb ?_
    refine Exec.run tyOk 10 rfl ?_
    refine Exec.row0 55 4 rfl ?_
    have h7 : RowRep cTPair V ([] : List TPair) [] := RowRep.nil
    obtain ⟨J10, hJ10, hF⟩ := jn_some hF
    refine Exec.seam (fun L' V' M' => ∃ (x9 : List TPair) (a8 : Option Addr) (k8 : Nat) (cs8 : List Value), L' = [(0, .v (.slice a2 ((x1).length) (k2))), (1, .v (.slice a4 ((x3).length) (k4))), (6, .v (.slice a8 ((x9).length) (k8)))] ∧ M' = [.row (.slice a8 ((x9).length) (k8)) cs8 55 4] ∧ RowRep cTPair V' x9 cs8 ∧ SlAt cTPair V' a2 k2 x1 ∧ SlAt cTPair V' a4 k4 x3 ∧ J10 x9 = some r) rfl ?_ ?_
    · rintro L' V11 M' ⟨x9, a8, k8, cs8, rfl, rfl, h8, h12, h13, hF⟩
      subst hJ10
      refine Exec.run tyOk 5 rfl ?_
      refine Exec.frz 0 rfl rfl rfl (fun V94 hv94 hd94 hn94 => ?_)
      have hz94 := RowRep.slat h8 hv94 hd94 hn94
      have h95 := SlAt.mono h12 hv94
      have h96 := SlAt.mono h13 hv94
      obtain ⟨J99, hJ99, hF⟩ := jn_some hF
      refine Exec.seam (fun L' V' M' => ∃ (x97 : List TPair) (a98 : Option Addr) (k98 : Nat), L' = [(6, .v (.slice a98 ((x97).length) (k98)))] ∧ M' = [] ∧ SlAt cTPair V' a98 k98 x97 ∧ J99 x97 = some r) rfl ?_ ?_
      · rintro L' V100 M' ⟨x97, a98, k98, rfl, rfl, h98, hF⟩
        subst hJ99
        refine Exec.run tyOk 400 rfl ?_
        obtain rfl := some_inj hF
        exact Exec.ret tyOk rfl rfl ⟨_, _, rfl, h98⟩
      · skip
        refine Exec.run tyOk 400 rfl ?_
        refine Exec.cut 0 [(0, .v (.slice a2 ((x1).length) (k2))), (1, .v (.slice a4 ((x3).length) (k4))), (6, .v (.slice a8 ((x9).length) (k8))), (8, .v (.int .i64 ((0 : Int))))] (M' := []) rfl ⟨rfl, rfl, rfl, rfl, trivial⟩ rfl rfl rfl ?_
        refine Exec.loop (fun n104 L' V' M' => ∃ (x101 : List TPair) (a102 : Option Addr) (k102 : Nat) (x103 : Int), L' = [(0, .v (.slice a2 ((x1).length) (k2))), (1, .v (.slice a4 ((x3).length) (k4))), (6, .v (.slice a102 ((x101).length) (k102))), (8, .v (.int .i64 (x103)))] ∧ M' = [] ∧ SlAt cTPair V' a102 k102 x101 ∧ SlAt cTPair V' a2 k2 x1 ∧ SlAt cTPair V' a4 k4 x3 ∧ F_clockworkref06_Diff_L1 x3 x1 J99 n104 x101 x103 = some r) ⟨(((((x3).length : Nat) : Int)).toNat + 1), [(0, .v (.slice a2 ((x1).length) (k2))), (1, .v (.slice a4 ((x3).length) (k4))), (6, .v (.slice a8 ((x9).length) (k8))), (8, .v (.int .i64 ((0 : Int))))], ⟨rfl, rfl, rfl, rfl, trivial⟩, x9, a8, k8, (0 : Int), rfl, rfl, hz94, h95, h96, hF⟩ ?_
        rintro n104 L' V105 M' ⟨x101, a102, k102, x103, rfl, rfl, h102, h106, h107, hF⟩
        rcases n104 with _ | n104
        · exact absurd hF (by simp [F_clockworkref06_Diff_L1])
        rw [F_clockworkref06_Diff_L1] at hF
        refine Exec.run tyOk 400 rfl ?_
        rcases cond_some hF with ⟨hb, hF⟩ | ⟨hb, hF⟩
        · skip
          refine Exec.ifT rfl hb ?_
          refine Exec.run tyOk 400 rfl ?_
          refine Exec.draws tyOk [(0, true), (1, true), (2, true), (3, true), (4, true), (5, true), (7, true), (8, true), (9, true), (10, true), (11, true), (6, false), (12, false)] rfl (by kernel_rfl) ?_
          refine Exec.run tyOk 400 rfl ?_
          obtain ⟨q108, hF⟩ := req_some hF
          obtain ⟨c109, hr109, hd109⟩ := SlAt.get h107 q108
          obtain rfl := hr109
          refine Exec.fia tyOk rfl rfl rfl ⟨q108.1, q108.2, hd109.some⟩ ?_
          refine Exec.run tyOk 400 rfl ?_
          refine Exec.fld tyOk (x := .string ⟨⟨(atI x3 x103).Key⟩⟩) rfl rfl rfl (RdAt.part hd109 0 1 rfl) rfl rfl ?_
          refine Exec.run tyOk 400 rfl ?_
          obtain ⟨q110, hF⟩ := req_some hF
          obtain ⟨c111, hr111, hd111⟩ := SlAt.get h107 q110
          obtain rfl := hr111
          refine Exec.fia tyOk rfl rfl rfl ⟨q110.1, q110.2, hd111.some⟩ ?_
          refine Exec.run tyOk 400 rfl ?_
          refine Exec.fld tyOk (x := .agg ⟨[.int .i64 ((atI x3 x103).Val.Kind), .int .i64 ((atI x3 x103).Val.N), .string ⟨⟨(atI x3 x103).Val.S⟩⟩]⟩) rfl rfl rfl (RdAt.part hd111 1 3 rfl) rfl rfl ?_
          refine Exec.run tyOk 400 rfl ?_
          obtain ⟨x112, hx112, hF⟩ := bnd_some hF
          refine Exec.callS (.agg ⟨[.int .i64 (x112.Kind), .int .i64 (x112.N), .string ⟨⟨x112.S⟩⟩]⟩) rfl rfl (W_clockworkref06_Get x1 ((atI x3 x103).Key) h106 hx112) ?_
          refine Exec.run tyOk 400 rfl ?_
          obtain ⟨J115, hJ115, hF⟩ := jn_some hF
          refine Exec.seam (fun L' V' M' => ∃ (x113 : List TPair) (a114 : Option Addr) (k114 : Nat), L' = [(0, .v (.slice a2 ((x1).length) (k2))), (1, .v (.slice a4 ((x3).length) (k4))), (6, .v (.slice a114 ((x113).length) (k114))), (8, .v (.int .i64 (x103)))] ∧ M' = [] ∧ SlAt cTPair V' a114 k114 x113 ∧ SlAt cTPair V' a2 k2 x1 ∧ SlAt cTPair V' a4 k4 x3 ∧ J115 x113 = some r) rfl ?_ ?_
          · rintro L' V116 M' ⟨x113, a114, k114, rfl, rfl, h114, h117, h118, hF⟩
            subst hJ115
            refine Exec.run tyOk 400 rfl ?_
            exact Exec.round [(0, .v (.slice a2 ((x1).length) (k2))), (1, .v (.slice a4 ((x3).length) (k4))), (6, .v (.slice a114 ((x113).length) (k114))), (8, .v (.int .i64 ((IntKind.i64.wrap (x103 + (1 : Int))))))] ⟨rfl, rfl, rfl, rfl, trivial⟩ ⟨n104, Nat.lt_succ_self _, x113, a114, k114, (IntKind.i64.wrap (x103 + (1 : Int))), rfl, rfl, h114, h117, h118, hF⟩
          · skip
            refine Exec.run tyOk 400 rfl ?_
            rcases cond_some hF with ⟨hb, hF⟩ | ⟨hb, hF⟩
            · skip
              refine Exec.ifT rfl hb ?_
              refine Exec.run tyOk 400 rfl ?_
              obtain ⟨q119, hF⟩ := req_some hF
              obtain ⟨c120, hr120, hd120⟩ := SlAt.get h107 q119
              obtain rfl := hr120
              refine Exec.ia tyOk rfl rfl ⟨q119.1, q119.2, hd120.some⟩ ?_
              refine Exec.run tyOk 400 rfl ?_
              refine Exec.ld tyOk (x := .agg ⟨[.string ⟨⟨(atI x3 x103).Key⟩⟩, .int .i64 ((atI x3 x103).Val.Kind), .int .i64 ((atI x3 x103).Val.N), .string ⟨⟨(atI x3 x103).Val.S⟩⟩]⟩) rfl rfl hd120 rfl rfl ?_
              refine Exec.run tyOk 400 rfl ?_
              obtain ⟨x121, hx121, hF⟩ := bnd_some hF
              refine Exec.call rfl rfl (W_clockworkref06_with x101 ((atI x3 x103)) h102 hx121) ?_
              rintro V123 _ hv123 ⟨a122, k122, rfl, h122⟩
              have h124 := SlAt.mono h106 hv123
              have h125 := SlAt.mono h107 hv123
              have h126 := SlAt.mono h102 hv123
              refine Exec.run tyOk 400 rfl ?_
              exact Exec.round [(0, .v (.slice a2 ((x1).length) (k2))), (1, .v (.slice a4 ((x3).length) (k4))), (6, .v (.slice a122 ((x121).length) (k122))), (8, .v (.int .i64 (x103)))] ⟨rfl, rfl, rfl, rfl, trivial⟩ ⟨x121, a122, k122, rfl, rfl, h122, h124, h125, hF⟩
            · skip
              refine Exec.ifF rfl hb ?_
              refine Exec.run tyOk 400 rfl ?_
              exact Exec.round [(0, .v (.slice a2 ((x1).length) (k2))), (1, .v (.slice a4 ((x3).length) (k4))), (6, .v (.slice a102 ((x101).length) (k102))), (8, .v (.int .i64 (x103)))] ⟨rfl, rfl, rfl, rfl, trivial⟩ ⟨x101, a102, k102, rfl, rfl, h102, h106, h107, hF⟩
        · skip
          refine Exec.ifF rfl hb ?_
          refine Exec.run tyOk 400 rfl ?_
          exact Exec.round [(6, .v (.slice a102 ((x101).length) (k102)))] ⟨rfl, trivial⟩ ⟨x101, a102, k102, rfl, rfl, h102, hF⟩
    · skip
      refine Exec.run tyOk 400 rfl ?_
      refine Exec.loop (fun n133 L' V' M' => ∃ (x131 : List TPair) (a130 : Option Addr) (k130 : Nat) (cs130 : List Value) (x132 : Int), L' = [(0, .v (.slice a2 ((x1).length) (k2))), (1, .v (.slice a4 ((x3).length) (k4))), (6, .v (.slice a130 ((x131).length) (k130))), (7, .v (.int .i64 (x132)))] ∧ M' = [.row (.slice a130 ((x131).length) (k130)) cs130 55 4] ∧ RowRep cTPair V' x131 cs130 ∧ SlAt cTPair V' a2 k2 x1 ∧ SlAt cTPair V' a4 k4 x3 ∧ F_clockworkref06_Diff_L2 x1 x3 J10 n133 x131 x132 = some r) ⟨(((((x1).length : Nat) : Int)).toNat + 1), [(0, .v (.slice a2 ((x1).length) (k2))), (1, .v (.slice a4 ((x3).length) (k4))), (6, .v (.slice none ((([] : List TPair)).length) (0))), (7, .v (.int .i64 ((0 : Int))))], ⟨rfl, rfl, rfl, rfl, trivial⟩, ([] : List TPair), none, 0, [], (0 : Int), rfl, rfl, h7, h2, h4, hF⟩ ?_
      rintro n133 L' V134 M' ⟨x131, a130, k130, cs130, x132, rfl, rfl, h130, h135, h136, hF⟩
      rcases n133 with _ | n133
      · exact absurd hF (by simp [F_clockworkref06_Diff_L2])
      rw [F_clockworkref06_Diff_L2] at hF
      refine Exec.run tyOk 400 rfl ?_
      rcases cond_some hF with ⟨hb, hF⟩ | ⟨hb, hF⟩
      · skip
        refine Exec.ifT rfl hb ?_
        refine Exec.run tyOk 400 rfl ?_
        obtain ⟨q137, hF⟩ := req_some hF
        obtain ⟨c138, hr138, hd138⟩ := SlAt.get h135 q137
        obtain rfl := hr138
        refine Exec.ia tyOk rfl rfl ⟨q137.1, q137.2, hd138.some⟩ ?_
        refine Exec.run tyOk 400 rfl ?_
        refine Exec.ld tyOk (x := .string ⟨⟨(atI x1 x132).Key⟩⟩) rfl rfl (RdAt.part hd138 0 1 rfl) rfl rfl ?_
        refine Exec.run tyOk 400 rfl ?_
        obtain ⟨x139, hx139, hF⟩ := bnd_some hF
        refine Exec.callS (.bool (x139)) rfl rfl (W_clockworkref06_Has x3 ((atI x1 x132).Key) h136 hx139) ?_
        refine Exec.run tyOk 400 rfl ?_
        obtain ⟨J142, hJ142, hF⟩ := jn_some hF
        refine Exec.seam (fun L' V' M' => ∃ (x141 : List TPair) (a140 : Option Addr) (k140 : Nat) (cs140 : List Value), L' = [(0, .v (.slice a2 ((x1).length) (k2))), (1, .v (.slice a4 ((x3).length) (k4))), (6, .v (.slice a140 ((x141).length) (k140))), (7, .v (.int .i64 (x132)))] ∧ M' = [.row (.slice a140 ((x141).length) (k140)) cs140 55 4] ∧ RowRep cTPair V' x141 cs140 ∧ SlAt cTPair V' a2 k2 x1 ∧ SlAt cTPair V' a4 k4 x3 ∧ J142 x141 = some r) rfl ?_ ?_
        · rintro L' V143 M' ⟨x141, a140, k140, cs140, rfl, rfl, h140, h144, h145, hF⟩
          subst hJ142
          refine Exec.run tyOk 400 rfl ?_
          exact Exec.round [(0, .v (.slice a2 ((x1).length) (k2))), (1, .v (.slice a4 ((x3).length) (k4))), (6, .v (.slice a140 ((x141).length) (k140))), (7, .v (.int .i64 ((IntKind.i64.wrap (x132 + (1 : Int))))))] ⟨rfl, rfl, rfl, rfl, trivial⟩ ⟨n133, Nat.lt_succ_self _, x141, a140, k140, cs140, (IntKind.i64.wrap (x132 + (1 : Int))), rfl, rfl, h140, h144, h145, hF⟩
        · skip
          refine Exec.run tyOk 400 rfl ?_
          rcases cond_some hF with ⟨hb, hF⟩ | ⟨hb, hF⟩
          · skip
            refine Exec.ifT rfl hb ?_
            refine Exec.run tyOk 400 rfl ?_
            obtain ⟨q146, hF⟩ := req_some hF
            obtain ⟨c147, hr147, hd147⟩ := SlAt.get h135 q146
            obtain rfl := hr147
            refine Exec.ia tyOk rfl rfl ⟨q146.1, q146.2, hd147.some⟩ ?_
            refine Exec.run tyOk 400 rfl ?_
            refine Exec.ld tyOk (x := .string ⟨⟨(atI x1 x132).Key⟩⟩) rfl rfl (RdAt.part hd147 0 1 rfl) rfl rfl ?_
            refine Exec.run tyOk 400 rfl ?_
            refine Exec.bsl tyOk rfl rfl ?_
            refine Exec.run tyOk 400 rfl ?_
            obtain ⟨q149, hF⟩ := req_some hF
            refine Exec.app tyOk 0 1 (nm := ((x131 ++ [(⟨(atI x1 x132).Key, (default : TValue)⟩ : TPair)])).length) rfl rfl rfl rfl rfl rfl rfl rfl rfl (by simp) (fun _ _ => rfl) rfl q149 (fun a148 k148 => ?_)
            have h148 : RowRep cTPair V134 (x131 ++ [(⟨(atI x1 x132).Key, (default : TValue)⟩ : TPair)]) (cs130 ++ [.string ⟨⟨(atI x1 x132).Key⟩⟩, .int .i64 (0), .int .i64 (0), .string ⟨⟨[]⟩⟩]) := RowRep.app h130 ⟨_, _, rfl, rfl, rfl⟩
            refine Exec.run tyOk 400 rfl ?_
            refine Exec.cut 1 [(0, .v (.slice a2 ((x1).length) (k2))), (1, .v (.slice a4 ((x3).length) (k4))), (6, .v (.slice a148 (((x131 ++ [(⟨(atI x1 x132).Key, (default : TValue)⟩ : TPair)])).length) (k148))), (7, .v (.int .i64 (x132)))] (M' := [.row (.slice a148 (((x131 ++ [(⟨(atI x1 x132).Key, (default : TValue)⟩ : TPair)])).length) (k148)) ((cs130 ++ [.string ⟨⟨(atI x1 x132).Key⟩⟩, .int .i64 (0), .int .i64 (0), .string ⟨⟨[]⟩⟩])) 55 4]) rfl ⟨rfl, rfl, rfl, rfl, trivial⟩ rfl rfl rfl ?_
            exact Exec.round [(0, .v (.slice a2 ((x1).length) (k2))), (1, .v (.slice a4 ((x3).length) (k4))), (6, .v (.slice a148 (((x131 ++ [(⟨(atI x1 x132).Key, (default : TValue)⟩ : TPair)])).length) (k148))), (7, .v (.int .i64 (x132)))] ⟨rfl, rfl, rfl, rfl, trivial⟩ ⟨(x131 ++ [(⟨(atI x1 x132).Key, (default : TValue)⟩ : TPair)]), a148, k148, (cs130 ++ [.string ⟨⟨(atI x1 x132).Key⟩⟩, .int .i64 (0), .int .i64 (0), .string ⟨⟨[]⟩⟩]), rfl, rfl, h148, h135, h136, hF⟩
          · skip
            refine Exec.ifF rfl hb ?_
            refine Exec.run tyOk 400 rfl ?_
            exact Exec.round [(0, .v (.slice a2 ((x1).length) (k2))), (1, .v (.slice a4 ((x3).length) (k4))), (6, .v (.slice a130 ((x131).length) (k130))), (7, .v (.int .i64 (x132)))] ⟨rfl, rfl, rfl, rfl, trivial⟩ ⟨x131, a130, k130, cs130, rfl, rfl, h130, h135, h136, hF⟩
      · skip
        refine Exec.ifF rfl hb ?_
        refine Exec.run tyOk 400 rfl ?_
        exact Exec.round [(0, .v (.slice a2 ((x1).length) (k2))), (1, .v (.slice a4 ((x3).length) (k4))), (6, .v (.slice a130 ((x131).length) (k130)))] ⟨rfl, rfl, rfl, trivial⟩ ⟨x131, a130, k130, cs130, rfl, rfl, h130, h135, h136, hF⟩

def F_clockworkref22_Valid_L1 (x1 : TStore) (J3 : Option Bool) : Nat → Int → Option Bool
  | 0, _ => none
  | n6 + 1, x5 => (cond (decide (x5 < (((x1.Rows).length : Nat) : Int))) (req (0 ≤ x5 ∧ x5 < ((x1.Rows).length : Int)) (bnd (F_clockworkref22_row ((atI x1.Rows x5)) x1.Floor x1.Last) fun x12 => (req (((((decide ((0 : Int) < x5))) == true) && (((!x12)) == false)) = true → 0 ≤ (IntKind.i64.wrap (x5 - (1 : Int))) ∧ (IntKind.i64.wrap (x5 - (1 : Int))) < ((x1.Rows).length : Int)) (req (((((decide ((0 : Int) < x5))) == true) && (((!x12)) == false)) = true → 0 ≤ x5 ∧ x5 < ((x1.Rows).length : Int)) (cond ((!x12) || ((decide ((0 : Int) < x5)) && (!sLt (cond ((((decide ((0 : Int) < x5))) == true) && (((!x12)) == false)) (atI x1.Rows ((IntKind.i64.wrap (x5 - (1 : Int))))) default).Key (cond ((((decide ((0 : Int) < x5))) == true) && (((!x12)) == false)) (atI x1.Rows x5) default).Key))) (some false) (F_clockworkref22_Valid_L1 x1 J3 n6 ((IntKind.i64.wrap (x5 + (1 : Int)))))))))) J3)

def F_clockworkref22_Valid (x1 : TStore) : Option Bool :=
  (cond (((decide (x1.Floor < (0 : Int))) || (decide (x1.Last < x1.Floor))) || (decide ((1099511627776 : Int) < x1.Last))) (some false) (jn ((some true)) (fun J3 => (F_clockworkref22_Valid_L1 x1 J3 (((((x1.Rows).length : Nat) : Int)).toNat + 1) ((0 : Int))))))

set_option maxRecDepth 100000 in
theorem W_clockworkref22_Valid {V : View} (x1 : TStore) {a2 : Option Addr} {k2 : Nat} (h2 : SlAt cTRow V a2 k2 x1.Rows) {r : Bool} (hF : F_clockworkref22_Valid x1 = some r) :
    Spec Tryz.prog 28 [.agg ⟨[.int .i64 (x1.Floor), .int .i64 (x1.Last), .slice a2 ((x1.Rows).length) (k2)]⟩] V (fun _ v => v = .bool (r)) := by
  unfold F_clockworkref22_Valid at hF
  refine Spec.enter (T := tyT) Tryz.func28 rfl (by kernel_rfl) rfl rfl rfl ?_
  refine Exec.run tyOk 400 rfl ?_
  rcases cond_some hF with ⟨hb, hF⟩ | ⟨hb, hF⟩
  · skip
    refine Exec.ifT rfl hb ?_
    refine Exec.run tyOk 400 rfl ?_
    obtain rfl := some_inj hF
    exact Exec.ret tyOk rfl rfl rfl
  · skip
    refine Exec.ifF rfl hb ?_
    refine Exec.run tyOk 6 rfl ?_
    obtain ⟨J3, hJ3, hF⟩ := jn_some hF
    refine Exec.seam (fun L' V' M' => L' = [] ∧ M' = [] ∧ J3 = some r) rfl ?_ ?_
    · rintro L' V4 M' ⟨rfl, rfl, hF⟩
      subst hJ3
      refine Exec.run tyOk 400 rfl ?_
      obtain rfl := some_inj hF
      exact Exec.ret tyOk rfl rfl rfl
    · skip
      refine Exec.run tyOk 400 rfl ?_
      refine Exec.loop (fun n6 L' V' M' => ∃ (x5 : Int), L' = [(1, .ptr 0 0), (3, .v (.int .i64 (x5)))] ∧ M' = [.blk [.v (.int .i64 (x1.Floor)), .v (.int .i64 (x1.Last)), .v (.slice a2 ((x1.Rows).length) (k2))] 40] ∧ SlAt cTRow V' a2 k2 x1.Rows ∧ F_clockworkref22_Valid_L1 x1 J3 n6 x5 = some r) ⟨(((((x1.Rows).length : Nat) : Int)).toNat + 1), [(1, .ptr 0 0), (3, .v (.int .i64 ((0 : Int))))], ⟨rfl, rfl, trivial⟩, (0 : Int), rfl, rfl, h2, hF⟩ ?_
      rintro n6 L' V7 M' ⟨x5, rfl, rfl, h8, hF⟩
      rcases n6 with _ | n6
      · exact absurd hF (by simp [F_clockworkref22_Valid_L1])
      rw [F_clockworkref22_Valid_L1] at hF
      refine Exec.run tyOk 400 rfl ?_
      rcases cond_some hF with ⟨hb, hF⟩ | ⟨hb, hF⟩
      · skip
        refine Exec.ifT rfl hb ?_
        refine Exec.run tyOk 400 rfl ?_
        refine Exec.draws tyOk [(0, true), (1, true), (2, true), (3, true), (4, true), (5, true), (6, true), (7, true), (8, true), (9, false), (10, false), (11, false), (12, false), (13, false), (14, false), (15, true), (16, true), (17, true), (18, true), (19, true), (20, true), (21, true), (22, true), (23, true), (24, false), (25, false), (26, false), (27, false), (28, false), (29, false), (30, false)] rfl (by kernel_rfl) ?_
        refine Exec.run tyOk 400 rfl ?_
        obtain ⟨q9, hF⟩ := req_some hF
        obtain ⟨c10, hr10, hd10⟩ := SlAt.get h8 q9
        obtain ⟨a11, k11, rfl, h11⟩ := hr10
        refine Exec.fia tyOk rfl rfl rfl ⟨q9.1, q9.2, hd10.some⟩ ?_
        refine Exec.run tyOk 400 rfl ?_
        refine Exec.fld tyOk (x := .agg ⟨[.string ⟨⟨(atI x1.Rows x5).Key⟩⟩, .slice a11 (((atI x1.Rows x5).Vers).length) (k11)]⟩) rfl rfl rfl hd10 rfl rfl ?_
        refine Exec.run tyOk 400 rfl ?_
        obtain ⟨x12, hx12, hF⟩ := bnd_some hF
        refine Exec.callS (.bool (x12)) rfl rfl (W_clockworkref22_row ((atI x1.Rows x5)) x1.Floor x1.Last h11 hx12) ?_
        refine Exec.run tyOk 400 rfl ?_
        obtain ⟨q13, hF⟩ := req_some hF
        obtain ⟨c14, hr14, hd14⟩ := SlAt.gget ((((decide ((0 : Int) < x5))) == true) && (((!x12)) == false)) h8 q13
        obtain ⟨a15, k15, rfl, h15⟩ := hr14
        refine Exec.fia tyOk rfl rfl rfl (fun gg0 gg1 => ⟨(q13 (gd2_of gg0 gg1)).1, (q13 (gd2_of gg0 gg1)).2, (hd14 (gd2_of gg0 gg1)).some⟩) ?_
        refine Exec.run tyOk 400 rfl ?_
        refine Exec.fld tyOk (x := .string ⟨⟨(cond ((((decide ((0 : Int) < x5))) == true) && (((!x12)) == false)) (atI x1.Rows ((IntKind.i64.wrap (x5 - (1 : Int))))) default).Key⟩⟩) rfl rfl rfl (fun gg0 gg1 => (RdAt.part (hd14 (gd2_of gg0 gg1)) 0 1 rfl)) rfl rfl ?_
        refine Exec.run tyOk 400 rfl ?_
        obtain ⟨q16, hF⟩ := req_some hF
        obtain ⟨c17, hr17, hd17⟩ := SlAt.gget ((((decide ((0 : Int) < x5))) == true) && (((!x12)) == false)) h8 q16
        obtain ⟨a18, k18, rfl, h18⟩ := hr17
        refine Exec.ia tyOk rfl rfl (fun gg0 gg1 => ⟨(q16 (gd2_of gg0 gg1)).1, (q16 (gd2_of gg0 gg1)).2, (hd17 (gd2_of gg0 gg1)).some⟩) ?_
        refine Exec.run tyOk 400 rfl ?_
        refine Exec.ld tyOk (x := .string ⟨⟨(cond ((((decide ((0 : Int) < x5))) == true) && (((!x12)) == false)) (atI x1.Rows x5) default).Key⟩⟩) rfl rfl (fun gg0 gg1 => (RdAt.part (hd17 (gd2_of gg0 gg1)) 0 1 rfl)) rfl rfl ?_
        refine Exec.run tyOk 400 rfl ?_
        rcases cond_some hF with ⟨hb, hF⟩ | ⟨hb, hF⟩
        · skip
          refine Exec.ifT rfl hb ?_
          refine Exec.run tyOk 400 rfl ?_
          obtain rfl := some_inj hF
          exact Exec.ret tyOk rfl rfl rfl
        · skip
          refine Exec.ifF rfl hb ?_
          refine Exec.run tyOk 400 rfl ?_
          exact Exec.round [(1, .ptr 0 0), (3, .v (.int .i64 ((IntKind.i64.wrap (x5 + (1 : Int))))))] ⟨rfl, rfl, trivial⟩ ⟨n6, Nat.lt_succ_self _, (IntKind.i64.wrap (x5 + (1 : Int))), rfl, rfl, h8, hF⟩
      · skip
        refine Exec.ifF rfl hb ?_
        refine Exec.run tyOk 400 rfl ?_
        refine Exec.cut 0 [] (M' := []) rfl trivial rfl rfl rfl ?_
        exact Exec.round [] trivial ⟨rfl, rfl, hF⟩

def F_clockworkref22_New_L1 (x1 : List TPair) (x3 : Int) (J8 : (List TRow) → Option (TStore × Int)) : Nat → (List TRow) → Int → Option (TStore × Int)
  | 0, _, _ => none
  | n14 + 1, x12, x13 => (cond (decide (x13 < (((x1).length : Nat) : Int))) (req (0 ≤ x13 ∧ x13 < ((x1).length : Int)) (req (0 ≤ x13 ∧ x13 < ((x1).length : Int)) (req (((x12 ++ [(⟨(atI x1 x13).Key, ([(⟨x3, (atI x1 x13).Val⟩ : TVersion)] : List TVersion)⟩ : TRow)])).length * 40 ≤ 140737488355328) (F_clockworkref22_New_L1 x1 x3 J8 n14 ((x12 ++ [(⟨(atI x1 x13).Key, ([(⟨x3, (atI x1 x13).Val⟩ : TVersion)] : List TVersion)⟩ : TRow)])) ((IntKind.i64.wrap (x13 + (1 : Int)))))))) (J8 x12))

def F_clockworkref22_New (x1 : List TPair) (x3 : Int) : Option (TStore × Int) :=
  (bnd (F_clockworkref06_Valid x1) fun x4 => (cond (((!x4) || (decide (x3 < (0 : Int)))) || (decide ((1099511627776 : Int) < x3))) (some ((⟨0, 0, ([] : List TRow)⟩ : TStore), (1 : Int))) (jn (fun (x7 : List TRow) => (some ((⟨x3, x3, x7⟩ : TStore), (0 : Int)))) (fun J8 => (F_clockworkref22_New_L1 x1 x3 J8 (((((x1).length : Nat) : Int)).toNat + 1) (([] : List TRow)) ((0 : Int)))))))

set_option maxRecDepth 100000 in
theorem W_clockworkref22_New {V : View} (x1 : List TPair) (x3 : Int) {a2 : Option Addr} {k2 : Nat} (h2 : SlAt cTPair V a2 k2 x1) {r : TStore × Int} (hF : F_clockworkref22_New x1 x3 = some r) :
    Spec Tryz.prog 32 [.slice a2 ((x1).length) (k2), .int .i64 (x3)] V (fun V' v => ∃ (a28 : Option Addr) (k28 : Nat), v = .tuple ⟨[.agg ⟨[.int .i64 (r.1.Floor), .int .i64 (r.1.Last), .slice a28 ((r.1.Rows).length) (k28)]⟩, .int .i64 (r.2)]⟩ ∧ SlAt cTRow V' a28 k28 r.1.Rows) := by
  unfold F_clockworkref22_New at hF
  refine Spec.enter (T := tyT) Tryz.func32 rfl (by kernel_rfl) rfl rfl rfl ?_
  refine Exec.run tyOk 400 rfl ?_
  obtain ⟨x4, hx4, hF⟩ := bnd_some hF
  refine Exec.callS (.bool (x4)) rfl rfl (W_clockworkref06_Valid x1 h2 hx4) ?_
  refine Exec.run tyOk 400 rfl ?_
  rcases cond_some hF with ⟨hb, hF⟩ | ⟨hb, hF⟩
  · skip
    refine Exec.ifT rfl hb ?_
    refine Exec.run tyOk 400 rfl ?_
    obtain rfl := some_inj hF
    exact Exec.ret tyOk rfl rfl ⟨_, _, rfl, SlAt.nil⟩
  · skip
    refine Exec.ifF rfl hb ?_
    refine Exec.run tyOk 14 rfl ?_
    refine Exec.row0 73 2 rfl ?_
    have h5 : RowRep cTRow V ([] : List TRow) [] := RowRep.nil
    obtain ⟨J8, hJ8, hF⟩ := jn_some hF
    refine Exec.seam (fun L' V' M' => ∃ (x7 : List TRow) (a6 : Option Addr) (k6 : Nat) (cs6 : List Value), L' = [(4, .ptr 0 0), (6, .ptr 1 0)] ∧ M' = [.blk [.v (.int .i64 (0)), .v (.int .i64 (0)), .v (.slice none (0) (0))] 40, .blk [.v (.int .i64 (x3)), .v (.int .i64 (x3)), .v (.slice a6 ((x7).length) (k6))] 40, .row (.slice a6 ((x7).length) (k6)) cs6 73 2] ∧ RowRep cTRow V' x7 cs6 ∧ J8 x7 = some r) rfl ?_ ?_
    · rintro L' V9 M' ⟨x7, a6, k6, cs6, rfl, rfl, h6, hF⟩
      subst hJ8
      refine Exec.run tyOk 400 rfl ?_
      refine Exec.frz 2 rfl rfl rfl (fun V10 hv10 hd10 hn10 => ?_)
      have hz10 := RowRep.slat h6 hv10 hd10 hn10
      obtain rfl := some_inj hF
      exact Exec.ret tyOk rfl rfl ⟨_, _, rfl, hz10⟩
    · skip
      refine Exec.run tyOk 400 rfl ?_
      refine Exec.loop (fun n14 L' V' M' => ∃ (x12 : List TRow) (a11 : Option Addr) (k11 : Nat) (cs11 : List Value) (x13 : Int), L' = [(0, .v (.slice a2 ((x1).length) (k2))), (1, .v (.int .i64 (x3))), (4, .ptr 0 0), (6, .ptr 1 0), (7, .v (.int .i64 (x13)))] ∧ M' = [.blk [.v (.int .i64 (0)), .v (.int .i64 (0)), .v (.slice none (0) (0))] 40, .blk [.v (.int .i64 (x3)), .v (.int .i64 (x3)), .v (.slice a11 ((x12).length) (k11))] 40, .row (.slice a11 ((x12).length) (k11)) cs11 73 2] ∧ RowRep cTRow V' x12 cs11 ∧ SlAt cTPair V' a2 k2 x1 ∧ F_clockworkref22_New_L1 x1 x3 J8 n14 x12 x13 = some r) ⟨(((((x1).length : Nat) : Int)).toNat + 1), [(0, .v (.slice a2 ((x1).length) (k2))), (1, .v (.int .i64 (x3))), (4, .ptr 0 0), (6, .ptr 1 0), (7, .v (.int .i64 ((0 : Int))))], ⟨rfl, rfl, rfl, rfl, rfl, trivial⟩, ([] : List TRow), none, 0, [], (0 : Int), rfl, rfl, h5, h2, hF⟩ ?_
      rintro n14 L' V15 M' ⟨x12, a11, k11, cs11, x13, rfl, rfl, h11, h16, hF⟩
      rcases n14 with _ | n14
      · exact absurd hF (by simp [F_clockworkref22_New_L1])
      rw [F_clockworkref22_New_L1] at hF
      refine Exec.run tyOk 400 rfl ?_
      rcases cond_some hF with ⟨hb, hF⟩ | ⟨hb, hF⟩
      · skip
        refine Exec.ifT rfl hb ?_
        refine Exec.run tyOk 400 rfl ?_
        refine Exec.drawsE tyOk [19] [2] [(0, true), (1, true), (2, true), (3, true), (4, true), (5, true), (6, true), (7, true), (8, true), (9, true), (10, true), (11, true), (12, true), (13, true), (14, false), (15, true), (16, false), (17, false), (18, true), (19, false)] (by kernel_rfl) ?_
        refine Exec.run tyOk 400 rfl ?_
        obtain ⟨q17, hF⟩ := req_some hF
        obtain ⟨c18, hr18, hd18⟩ := SlAt.get h16 q17
        obtain rfl := hr18
        refine Exec.fia tyOk rfl rfl rfl ⟨q17.1, q17.2, hd18.some⟩ ?_
        refine Exec.run tyOk 400 rfl ?_
        refine Exec.fld tyOk (x := .string ⟨⟨(atI x1 x13).Key⟩⟩) rfl rfl rfl (RdAt.part hd18 0 1 rfl) rfl rfl ?_
        refine Exec.run tyOk 400 rfl ?_
        obtain ⟨q19, hF⟩ := req_some hF
        obtain ⟨c20, hr20, hd20⟩ := SlAt.get h16 q19
        obtain rfl := hr20
        refine Exec.fia tyOk rfl rfl rfl ⟨q19.1, q19.2, hd20.some⟩ ?_
        refine Exec.run tyOk 400 rfl ?_
        refine Exec.fld tyOk (x := .agg ⟨[.int .i64 ((atI x1 x13).Val.Kind), .int .i64 ((atI x1 x13).Val.N), .string ⟨⟨(atI x1 x13).Val.S⟩⟩]⟩) rfl rfl rfl (RdAt.part hd20 1 3 rfl) rfl rfl ?_
        refine Exec.run tyOk 400 rfl ?_
        refine Exec.bsV tyOk rfl rfl rfl rfl rfl (fun V21 a21 hv21 hd21 => ?_)
        have h22 := SlAt.mono h16 hv21
        have h25 := RowRep.mono hv21 h11
        have h21 : SlAt cTVersion V21 (some a21) 1 ([(⟨x3, (atI x1 x13).Val⟩ : TVersion)] : List TVersion) := RowRep.slat (c := cTVersion) (V := V21) (cs := [.int .i64 (x3), .int .i64 ((atI x1 x13).Val.Kind), .int .i64 ((atI x1 x13).Val.N), .string ⟨⟨(atI x1 x13).Val.S⟩⟩]) ⟨_, _, rfl, rfl, rfl⟩ (VLe.refl _) (fun _ => hd21) (by simp)
        refine Exec.run tyOk 400 rfl ?_
        refine Exec.bsl tyOk rfl rfl ?_
        refine Exec.run tyOk 400 rfl ?_
        obtain ⟨q27, hF⟩ := req_some hF
        refine Exec.app tyOk 2 4 (nm := ((x12 ++ [(⟨(atI x1 x13).Key, ([(⟨x3, (atI x1 x13).Val⟩ : TVersion)] : List TVersion)⟩ : TRow)])).length) rfl rfl rfl rfl rfl rfl rfl rfl rfl (by simp) (fun _ _ => rfl) rfl q27 (fun a26 k26 => ?_)
        have h26 : RowRep cTRow V21 (x12 ++ [(⟨(atI x1 x13).Key, ([(⟨x3, (atI x1 x13).Val⟩ : TVersion)] : List TVersion)⟩ : TRow)]) (cs11 ++ [.string ⟨⟨(atI x1 x13).Key⟩⟩, .slice ((some a21)) (1) (1)]) := RowRep.app h25 ⟨_, _, rfl, ⟨_, _, rfl, h21⟩, rfl⟩
        refine Exec.run tyOk 400 rfl ?_
        refine Exec.cut 3 [(0, .v (.slice a2 ((x1).length) (k2))), (1, .v (.int .i64 (x3))), (4, .ptr 0 0), (6, .ptr 1 0), (7, .v (.int .i64 ((IntKind.i64.wrap (x13 + (1 : Int))))))] (M' := [.blk [.v (.int .i64 (0)), .v (.int .i64 (0)), .v (.slice none (0) (0))] 40, .blk [.v (.int .i64 (x3)), .v (.int .i64 (x3)), .v (.slice a26 (((x12 ++ [(⟨(atI x1 x13).Key, ([(⟨x3, (atI x1 x13).Val⟩ : TVersion)] : List TVersion)⟩ : TRow)])).length) (k26))] 40, .row (.slice a26 (((x12 ++ [(⟨(atI x1 x13).Key, ([(⟨x3, (atI x1 x13).Val⟩ : TVersion)] : List TVersion)⟩ : TRow)])).length) (k26)) ((cs11 ++ [.string ⟨⟨(atI x1 x13).Key⟩⟩, .slice ((some a21)) (1) (1)])) 73 2]) rfl ⟨rfl, rfl, rfl, rfl, rfl, trivial⟩ rfl rfl rfl ?_
        exact Exec.round [(0, .v (.slice a2 ((x1).length) (k2))), (1, .v (.int .i64 (x3))), (4, .ptr 0 0), (6, .ptr 1 0), (7, .v (.int .i64 ((IntKind.i64.wrap (x13 + (1 : Int))))))] ⟨rfl, rfl, rfl, rfl, rfl, trivial⟩ ⟨n14, Nat.lt_succ_self _, (x12 ++ [(⟨(atI x1 x13).Key, ([(⟨x3, (atI x1 x13).Val⟩ : TVersion)] : List TVersion)⟩ : TRow)]), a26, k26, (cs11 ++ [.string ⟨⟨(atI x1 x13).Key⟩⟩, .slice ((some a21)) (1) (1)]), (IntKind.i64.wrap (x13 + (1 : Int))), rfl, rfl, h26, h22, hF⟩
      · skip
        refine Exec.ifF rfl hb ?_
        refine Exec.run tyOk 400 rfl ?_
        exact Exec.round [(4, .ptr 0 0), (6, .ptr 1 0)] ⟨rfl, rfl, trivial⟩ ⟨x12, a11, k11, cs11, rfl, rfl, h11, hF⟩

def F_clockworkref22_Apply_L2 (x4 : List TPair) (x189 : TRow) (x1 : TStore) (x3 : Int) (J223 : (List TVersion) → Option (TStore × Int)) : Nat → (List TVersion) → Int → Option (TStore × Int)
  | 0, _, _ => none
  | n248 + 1, x246, x247 => (cond (decide (x247 < (((x4).length : Nat) : Int))) (req (0 ≤ x247 ∧ x247 < ((x4).length : Int)) (req (((((atI x4 x247).Key == x189.Key)) == true) = true → 0 ≤ x247 ∧ x247 < ((x4).length : Int)) (bnd (gcall ((((atI x4 x247).Key == x189.Key)) == true) (F_clockworkref22_seen x189 x1.Last)) fun x258 => (jn (fun (x261 : List TVersion) => (F_clockworkref22_Apply_L2 x4 x189 x1 x3 J223 n248 x261 ((IntKind.i64.wrap (x247 + (1 : Int)))))) (fun J262 => (cond (((atI x4 x247).Key == x189.Key) && (!(((cond ((((atI x4 x247).Key == x189.Key)) == true) (atI x4 x247) default).Val.Kind == x258.Kind) && (((cond ((((atI x4 x247).Key == x189.Key)) == true) (atI x4 x247) default).Val.N == x258.N) && (((cond ((((atI x4 x247).Key == x189.Key)) == true) (atI x4 x247) default).Val.S == x258.S) && true))))) (req (0 ≤ x247 ∧ x247 < ((x4).length : Int)) (req (((x246 ++ [(⟨x3, (atI x4 x247).Val⟩ : TVersion)])).length * 40 ≤ 140737488355328) (J262 ((x246 ++ [(⟨x3, (atI x4 x247).Val⟩ : TVersion)]))))) (J262 x246))))))) (J223 x246))

def F_clockworkref22_Apply_L1 (x165 : List Str) (x1 : TStore) (x4 : List TPair) (x3 : Int) (J174 : (List TRow) → Option (TStore × Int)) : Nat → (List TRow) → Int → Option (TStore × Int)
  | 0, _, _ => none
  | n182 + 1, x180, x181 => (cond (decide (x181 < (((x165).length : Nat) : Int))) (req (0 ≤ x181 ∧ x181 < ((x165).length : Int)) (bnd (F_clockworkref22_find x1 ((atI x165 x181))) fun x189 => (req (((([] : List TVersion) ++ x189.Vers)).length * 40 ≤ 140737488355328) (jn (fun (x222 : List TVersion) => (jn (fun (x230 : List TRow) => (F_clockworkref22_Apply_L1 x165 x1 x4 x3 J174 n182 x230 ((IntKind.i64.wrap (x181 + (1 : Int)))))) (fun J231 => (cond (decide ((0 : Int) < (((x222).length : Nat) : Int))) (req (((x180 ++ [(⟨x189.Key, x222⟩ : TRow)])).length * 40 ≤ 140737488355328) (J231 ((x180 ++ [(⟨x189.Key, x222⟩ : TRow)])))) (J231 x180))))) (fun J223 => (F_clockworkref22_Apply_L2 x4 x189 x1 x3 J223 (((((x4).length : Nat) : Int)).toNat + 1) ((([] : List TVersion) ++ x189.Vers)) ((0 : Int)))))))) (J174 x180))

def F_clockworkref22_Apply_L3 (x4 : List TPair) (J167 : (List Str) → Option (TStore × Int)) : Nat → (List Str) → Int → Option (TStore × Int)
  | 0, _, _ => none
  | n275 + 1, x272, x274 => (cond (decide (x274 < (((x4).length : Nat) : Int))) (req (0 ≤ x274 ∧ x274 < ((x4).length : Int)) (bnd (F_clockworkref04_Insert x272 ((atI x4 x274).Key)) fun x281 => (F_clockworkref22_Apply_L3 x4 J167 n275 x281 ((IntKind.i64.wrap (x274 + (1 : Int))))))) (J167 x272))

def F_clockworkref22_Apply_L4 (x1 : TStore) (J11 : (List Str) → Option (TStore × Int)) : Nat → (List Str) → Int → Option (TStore × Int)
  | 0, _, _ => none
  | n291 + 1, x289, x290 => (cond (decide (x290 < (((x1.Rows).length : Nat) : Int))) (req (0 ≤ x290 ∧ x290 < ((x1.Rows).length : Int)) (req (((x289 ++ [(atI x1.Rows x290).Key])).length * 16 ≤ 140737488355328) (F_clockworkref22_Apply_L4 x1 J11 n291 ((x289 ++ [(atI x1.Rows x290).Key])) ((IntKind.i64.wrap (x290 + (1 : Int))))))) (J11 x289))

def F_clockworkref22_Apply (x1 : TStore) (x3 : Int) (x4 : List TPair) : Option (TStore × Int) :=
  (bnd (F_clockworkref22_Valid x1) fun x6 => (bnd (gcall (((!x6)) == false) (F_clockworkref06_ValidWrites x4)) fun x7 => (cond ((!x6) || (!x7)) (some ((⟨0, 0, ([] : List TRow)⟩ : TStore), (1 : Int))) (cond ((decide (x3 ≤ x1.Last)) || (decide ((1099511627776 : Int) < x3))) (some ((⟨0, 0, ([] : List TRow)⟩ : TStore), (16 : Int))) (jn (fun (x10 : List Str) => (jn (fun (x165 : List Str) => (jn (fun (x173 : List TRow) => (some ((⟨x1.Floor, x3, x173⟩ : TStore), (0 : Int)))) (fun J174 => (F_clockworkref22_Apply_L1 x165 x1 x4 x3 J174 (((((x165).length : Nat) : Int)).toNat + 1) (([] : List TRow)) ((0 : Int)))))) (fun J167 => (F_clockworkref22_Apply_L3 x4 J167 (((((x4).length : Nat) : Int)).toNat + 1) x10 ((0 : Int)))))) (fun J11 => (F_clockworkref22_Apply_L4 x1 J11 (((((x1.Rows).length : Nat) : Int)).toNat + 1) (([] : List Str)) ((0 : Int)))))))))

set_option maxRecDepth 100000 in
theorem W_clockworkref22_Apply {V : View} (x1 : TStore) (x3 : Int) (x4 : List TPair) {a2 : Option Addr} {k2 : Nat} {a5 : Option Addr} {k5 : Nat} (h2 : SlAt cTRow V a2 k2 x1.Rows) (h5 : SlAt cTPair V a5 k5 x4) {r : TStore × Int} (hF : F_clockworkref22_Apply x1 x3 x4 = some r) :
    Spec Tryz.prog 33 [.agg ⟨[.int .i64 (x1.Floor), .int .i64 (x1.Last), .slice a2 ((x1.Rows).length) (k2)]⟩, .int .i64 (x3), .slice a5 ((x4).length) (k5)] V (fun V' v => ∃ (a300 : Option Addr) (k300 : Nat), v = .tuple ⟨[.agg ⟨[.int .i64 (r.1.Floor), .int .i64 (r.1.Last), .slice a300 ((r.1.Rows).length) (k300)]⟩, .int .i64 (r.2)]⟩ ∧ SlAt cTRow V' a300 k300 r.1.Rows) := by
  unfold F_clockworkref22_Apply at hF
  refine Spec.enter (T := tyT) Tryz.func33 rfl (by kernel_rfl) rfl rfl rfl ?_
  refine Exec.run tyOk 400 rfl ?_
  obtain ⟨x6, hx6, hF⟩ := bnd_some hF
  refine Exec.callS (.bool (x6)) rfl rfl (W_clockworkref22_Valid x1 h2 hx6) ?_
  refine Exec.run tyOk 400 rfl ?_
  obtain ⟨x7, hx7, hF⟩ := bnd_some hF
  refine Exec.callS (.bool (x7)) rfl rfl (fun gg0 => W_clockworkref06_ValidWrites x4 h5 (gcall_some hx7 (gd1_of gg0))) ?_
  refine Exec.run tyOk 400 rfl ?_
  rcases cond_some hF with ⟨hb, hF⟩ | ⟨hb, hF⟩
  · skip
    refine Exec.ifT rfl hb ?_
    refine Exec.run tyOk 400 rfl ?_
    obtain rfl := some_inj hF
    exact Exec.ret tyOk rfl rfl ⟨_, _, rfl, SlAt.nil⟩
  · skip
    refine Exec.ifF rfl hb ?_
    refine Exec.run tyOk 400 rfl ?_
    rcases cond_some hF with ⟨hb, hF⟩ | ⟨hb, hF⟩
    · skip
      refine Exec.ifT rfl hb ?_
      refine Exec.run tyOk 400 rfl ?_
      obtain rfl := some_inj hF
      exact Exec.ret tyOk rfl rfl ⟨_, _, rfl, SlAt.nil⟩
    · skip
      refine Exec.ifF rfl hb ?_
      refine Exec.run tyOk 10 rfl ?_
      refine Exec.row0 9 1 rfl ?_
      have h8 : RowRep cStr V ([] : List Str) [] := RowRep.nil
      obtain ⟨J11, hJ11, hF⟩ := jn_some hF
      refine Exec.seam (fun L' V' M' => ∃ (x10 : List Str) (a9 : Option Addr) (k9 : Nat) (cs9 : List Value), L' = [(1, .v (.int .i64 (x3))), (2, .v (.slice a5 ((x4).length) (k5))), (3, .ptr 0 0), (6, .ptr 1 0), (8, .v (.slice a9 ((x10).length) (k9)))] ∧ M' = [.blk [.v (.int .i64 (x1.Floor)), .v (.int .i64 (x1.Last)), .v (.slice a2 ((x1.Rows).length) (k2))] 40, .blk [.v (.int .i64 (0)), .v (.int .i64 (0)), .v (.slice none (0) (0))] 40, .row (.slice a9 ((x10).length) (k9)) cs9 9 1] ∧ RowRep cStr V' x10 cs9 ∧ SlAt cTPair V' a5 k5 x4 ∧ SlAt cTRow V' a2 k2 x1.Rows ∧ J11 x10 = some r) rfl ?_ ?_
      · rintro L' V12 M' ⟨x10, a9, k9, cs9, rfl, rfl, h9, h13, h14, hF⟩
        subst hJ11
        refine Exec.run tyOk 5 rfl ?_
        refine Exec.frz 2 rfl rfl rfl (fun V162 hv162 hd162 hn162 => ?_)
        have hz162 := RowRep.slat h9 hv162 hd162 hn162
        have h163 := SlAt.mono h13 hv162
        have h164 := SlAt.mono h14 hv162
        obtain ⟨J167, hJ167, hF⟩ := jn_some hF
        refine Exec.seam (fun L' V' M' => ∃ (x165 : List Str) (a166 : Option Addr) (k166 : Nat), L' = [(1, .v (.int .i64 (x3))), (2, .v (.slice a5 ((x4).length) (k5))), (3, .ptr 0 0), (6, .ptr 1 0), (8, .v (.slice a166 ((x165).length) (k166)))] ∧ M' = [.blk [.v (.int .i64 (x1.Floor)), .v (.int .i64 (x1.Last)), .v (.slice a2 ((x1.Rows).length) (k2))] 40, .blk [.v (.int .i64 (0)), .v (.int .i64 (0)), .v (.slice none (0) (0))] 40] ∧ SlAt cStr V' a166 k166 x165 ∧ SlAt cTPair V' a5 k5 x4 ∧ SlAt cTRow V' a2 k2 x1.Rows ∧ J167 x165 = some r) rfl ?_ ?_
        · rintro L' V168 M' ⟨x165, a166, k166, rfl, rfl, h166, h169, h170, hF⟩
          subst hJ167
          refine Exec.run tyOk 14 rfl ?_
          refine Exec.row0 73 2 rfl ?_
          have h171 : RowRep cTRow V168 ([] : List TRow) [] := RowRep.nil
          obtain ⟨J174, hJ174, hF⟩ := jn_some hF
          refine Exec.seam (fun L' V' M' => ∃ (x173 : List TRow) (a172 : Option Addr) (k172 : Nat) (cs172 : List Value), L' = [(6, .ptr 1 0), (11, .ptr 2 0)] ∧ M' = [.blk [.v (.int .i64 (x1.Floor)), .v (.int .i64 (x1.Last)), .v (.slice a2 ((x1.Rows).length) (k2))] 40, .blk [.v (.int .i64 (0)), .v (.int .i64 (0)), .v (.slice none (0) (0))] 40, .blk [.v (.int .i64 (x1.Floor)), .v (.int .i64 (x3)), .v (.slice a172 ((x173).length) (k172))] 40, .row (.slice a172 ((x173).length) (k172)) cs172 73 2] ∧ RowRep cTRow V' x173 cs172 ∧ SlAt cTRow V' a2 k2 x1.Rows ∧ J174 x173 = some r) rfl ?_ ?_
          · rintro L' V175 M' ⟨x173, a172, k172, cs172, rfl, rfl, h172, h176, hF⟩
            subst hJ174
            refine Exec.run tyOk 400 rfl ?_
            refine Exec.frz 3 rfl rfl rfl (fun V177 hv177 hd177 hn177 => ?_)
            have hz177 := RowRep.slat h172 hv177 hd177 hn177
            have h178 := SlAt.mono h176 hv177
            obtain rfl := some_inj hF
            exact Exec.ret tyOk rfl rfl ⟨_, _, rfl, hz177⟩
          · skip
            refine Exec.run tyOk 400 rfl ?_
            refine Exec.loop (fun n182 L' V' M' => ∃ (x180 : List TRow) (a179 : Option Addr) (k179 : Nat) (cs179 : List Value) (x181 : Int), L' = [(1, .v (.int .i64 (x3))), (2, .v (.slice a5 ((x4).length) (k5))), (3, .ptr 0 0), (6, .ptr 1 0), (8, .v (.slice a166 ((x165).length) (k166))), (11, .ptr 2 0), (12, .v (.int .i64 (x181)))] ∧ M' = [.blk [.v (.int .i64 (x1.Floor)), .v (.int .i64 (x1.Last)), .v (.slice a2 ((x1.Rows).length) (k2))] 40, .blk [.v (.int .i64 (0)), .v (.int .i64 (0)), .v (.slice none (0) (0))] 40, .blk [.v (.int .i64 (x1.Floor)), .v (.int .i64 (x3)), .v (.slice a179 ((x180).length) (k179))] 40, .row (.slice a179 ((x180).length) (k179)) cs179 73 2] ∧ RowRep cTRow V' x180 cs179 ∧ SlAt cTPair V' a5 k5 x4 ∧ SlAt cStr V' a166 k166 x165 ∧ SlAt cTRow V' a2 k2 x1.Rows ∧ F_clockworkref22_Apply_L1 x165 x1 x4 x3 J174 n182 x180 x181 = some r) ⟨(((((x165).length : Nat) : Int)).toNat + 1), [(1, .v (.int .i64 (x3))), (2, .v (.slice a5 ((x4).length) (k5))), (3, .ptr 0 0), (6, .ptr 1 0), (8, .v (.slice a166 ((x165).length) (k166))), (11, .ptr 2 0), (12, .v (.int .i64 ((0 : Int))))], ⟨rfl, rfl, rfl, rfl, rfl, rfl, rfl, trivial⟩, ([] : List TRow), none, 0, [], (0 : Int), rfl, rfl, h171, h169, h166, h170, hF⟩ ?_
            rintro n182 L' V183 M' ⟨x180, a179, k179, cs179, x181, rfl, rfl, h179, h184, h185, h186, hF⟩
            rcases n182 with _ | n182
            · exact absurd hF (by simp [F_clockworkref22_Apply_L1])
            rw [F_clockworkref22_Apply_L1] at hF
            refine Exec.run tyOk 400 rfl ?_
            rcases cond_some hF with ⟨hb, hF⟩ | ⟨hb, hF⟩
            · skip
              refine Exec.ifT rfl hb ?_
              refine Exec.run tyOk 400 rfl ?_
              refine Exec.draws tyOk [(0, true), (1, true), (2, true), (3, true), (4, true)] rfl (by kernel_rfl) ?_
              refine Exec.run tyOk 400 rfl ?_
              obtain ⟨q187, hF⟩ := req_some hF
              obtain ⟨c188, hr188, hd188⟩ := SlAt.get h185 q187
              obtain rfl := hr188
              refine Exec.fia tyOk rfl rfl rfl ⟨q187.1, q187.2, hd188.some⟩ ?_
              refine Exec.run tyOk 400 rfl ?_
              refine Exec.fld tyOk (x := .string ⟨⟨(atI x165 x181)⟩⟩) rfl rfl rfl hd188 rfl rfl ?_
              refine Exec.run tyOk 400 rfl ?_
              obtain ⟨x189, hx189, hF⟩ := bnd_some hF
              refine Exec.fork 5 6 [(6, false)] [(5, false)] [(7, false)] (fun lr' L' V' M' => ∃ (a190 : Option Addr) (k190 : Nat), lr' = [] ∧ L' = [(1, .v (.int .i64 (x3))), (2, .v (.slice a5 ((x4).length) (k5))), (3, .ptr 0 0), (6, .ptr 1 0), (8, .v (.slice a166 ((x165).length) (k166))), (11, .ptr 2 0), (12, .v (.int .i64 (x181))), (13, .ptr 4 0), (78, .v (.agg ⟨[.string ⟨⟨x189.Key⟩⟩, .slice a190 ((x189.Vers).length) (k190)]⟩))] ∧ M' = [.blk [.v (.int .i64 (x1.Floor)), .v (.int .i64 (x1.Last)), .v (.slice a2 ((x1.Rows).length) (k2))] 40, .blk [.v (.int .i64 (0)), .v (.int .i64 (0)), .v (.slice none (0) (0))] 40, .blk [.v (.int .i64 (x1.Floor)), .v (.int .i64 (x3)), .v (.slice a179 ((x180).length) (k179))] 40, .row (.slice a179 ((x180).length) (k179)) cs179 73 2, .blk [.v (.string ⟨⟨[]⟩⟩), .v (.slice none (0) (0))] 73] ∧ SlAt cTPair V' a5 k5 x4 ∧ SlAt cStr V' a166 k166 x165 ∧ SlAt cTVersion V' a190 k190 x189.Vers ∧ SlAt cTRow V' a2 k2 x1.Rows ∧ RowRep cTRow V' x180 cs179) 1 [true, true, true, true, true, true, true, false] rfl (by kernel_rfl) rfl rfl (by kernel_rfl) (by kernel_rfl) (by kernel_rfl) (by kernel_rfl) (fun join => ?_) (fun join => ?_) ?_
              · skip
                refine Exec.run tyOk 400 rfl ?_
                refine Exec.call rfl rfl (W_clockworkref22_find x1 ((atI x165 x181)) h186 hx189) ?_
                rintro V198 _ hv198 ⟨a197, k197, rfl, h197⟩
                have h199 := SlAt.mono h184 hv198
                have h200 := SlAt.mono h185 hv198
                have h201 := SlAt.mono h186 hv198
                have h203 := RowRep.mono hv198 h179
                refine Exec.run tyOk 400 rfl ?_
                exact join [0, 1, 2, 3, 4] (lr' := []) (L' := [(1, .v (.int .i64 (x3))), (2, .v (.slice a5 ((x4).length) (k5))), (3, .ptr 0 0), (6, .ptr 1 0), (8, .v (.slice a166 ((x165).length) (k166))), (11, .ptr 2 0), (12, .v (.int .i64 (x181))), (13, .ptr 4 0), (78, .v (.agg ⟨[.string ⟨⟨x189.Key⟩⟩, .slice a197 ((x189.Vers).length) (k197)]⟩))]) rfl rfl rfl rfl ⟨⟨_, rfl, rfl⟩, ⟨_, rfl, rfl⟩, ⟨_, rfl, rfl⟩, ⟨_, rfl, rfl⟩, ⟨_, rfl, rfl⟩, ⟨_, rfl, rfl⟩, ⟨_, rfl, rfl⟩, ⟨_, rfl, rfl⟩, ⟨_, rfl, rfl⟩, trivial⟩ trivial ⟨_, _, rfl, rfl, rfl, h199, h200, h197, h201, h203⟩
              · skip
                refine Exec.run tyOk 400 rfl ?_
                refine Exec.call rfl rfl (W_clockworkref22_find x1 ((atI x165 x181)) h186 hx189) ?_
                rintro V205 _ hv205 ⟨a204, k204, rfl, h204⟩
                have h206 := SlAt.mono h184 hv205
                have h207 := SlAt.mono h185 hv205
                have h208 := SlAt.mono h186 hv205
                have h210 := RowRep.mono hv205 h179
                refine Exec.run tyOk 400 rfl ?_
                exact join [0, 1, 2, 3, 4] (lr' := []) (L' := [(1, .v (.int .i64 (x3))), (2, .v (.slice a5 ((x4).length) (k5))), (3, .ptr 0 0), (6, .ptr 1 0), (8, .v (.slice a166 ((x165).length) (k166))), (11, .ptr 2 0), (12, .v (.int .i64 (x181))), (13, .ptr 4 0), (78, .v (.agg ⟨[.string ⟨⟨x189.Key⟩⟩, .slice a204 ((x189.Vers).length) (k204)]⟩))]) rfl rfl rfl rfl ⟨⟨_, rfl, rfl⟩, ⟨_, rfl, rfl⟩, ⟨_, rfl, rfl⟩, ⟨_, rfl, rfl⟩, ⟨_, rfl, rfl⟩, ⟨_, rfl, rfl⟩, ⟨_, rfl, rfl⟩, ⟨_, rfl, rfl⟩, ⟨_, rfl, rfl⟩, trivial⟩ trivial ⟨_, _, rfl, rfl, rfl, h206, h207, h204, h208, h210⟩
              rintro lr' L' VV211 M' ⟨a190, k190, rfl, rfl, rfl, h212, h213, h214, h215, h216⟩
              refine Exec.run tyOk 400 rfl ?_
              refine Exec.row0 87 4 rfl ?_
              have h217 : RowRep cTVersion VV211 [] [] := RowRep.nil
              obtain ⟨q219, hF⟩ := req_some hF
              refine Exec.appS tyOk (cd := cTVersion) 6 (nm := ((([] : List TVersion) ++ x189.Vers)).length) rfl rfl rfl rfl rfl rfl h214 (by first | rfl | simp) (by first | rfl | exact List.length_append.symm | simp) (fun _ _ _ => rfl) rfl q219 (fun cs218 hs218 a218 k218 => ?_)
              have h218 : RowRep cTVersion VV211 (([] : List TVersion) ++ x189.Vers) ([] ++ cs218) := RowRep.app h217 hs218
              refine Exec.run tyOk 8 rfl ?_
              obtain ⟨J223, hJ223, hF⟩ := jn_some hF
              refine Exec.seam (fun L' V' M' => ∃ (x222 : List TVersion) (a221 : Option Addr) (k221 : Nat) (cs221 : List Value), L' = [(1, .v (.int .i64 (x3))), (2, .v (.slice a5 ((x4).length) (k5))), (3, .ptr 0 0), (6, .ptr 1 0), (8, .v (.slice a166 ((x165).length) (k166))), (11, .ptr 2 0), (12, .v (.int .i64 (x181))), (14, .ptr 5 0)] ∧ M' = [.blk [.v (.int .i64 (x1.Floor)), .v (.int .i64 (x1.Last)), .v (.slice a2 ((x1.Rows).length) (k2))] 40, .blk [.v (.int .i64 (0)), .v (.int .i64 (0)), .v (.slice none (0) (0))] 40, .blk [.v (.int .i64 (x1.Floor)), .v (.int .i64 (x3)), .v (.slice a179 ((x180).length) (k179))] 40, .row (.slice a179 ((x180).length) (k179)) cs179 73 2, .blk [.v (.string ⟨⟨x189.Key⟩⟩), .v (.slice a190 ((x189.Vers).length) (k190))] 73, .blk [.v (.string ⟨⟨x189.Key⟩⟩), .v (.slice a221 ((x222).length) (k221))] 73, .row (.slice a221 ((x222).length) (k221)) cs221 87 4] ∧ RowRep cTRow V' x180 cs179 ∧ RowRep cTVersion V' x222 cs221 ∧ SlAt cTPair V' a5 k5 x4 ∧ SlAt cStr V' a166 k166 x165 ∧ SlAt cTRow V' a2 k2 x1.Rows ∧ SlAt cTVersion V' a190 k190 x189.Vers ∧ J223 x222 = some r) rfl ?_ ?_
              · rintro L' V224 M' ⟨x222, a221, k221, cs221, rfl, rfl, h220, h221, h225, h226, h227, h228, hF⟩
                subst hJ223
                refine Exec.run tyOk 400 rfl ?_
                obtain ⟨J231, hJ231, hF⟩ := jn_some hF
                refine Exec.seam (fun L' V' M' => ∃ (x230 : List TRow) (a229 : Option Addr) (k229 : Nat) (cs229 : List Value), L' = [(1, .v (.int .i64 (x3))), (2, .v (.slice a5 ((x4).length) (k5))), (3, .ptr 0 0), (6, .ptr 1 0), (8, .v (.slice a166 ((x165).length) (k166))), (11, .ptr 2 0), (12, .v (.int .i64 (x181)))] ∧ M' = [.blk [.v (.int .i64 (x1.Floor)), .v (.int .i64 (x1.Last)), .v (.slice a2 ((x1.Rows).length) (k2))] 40, .blk [.v (.int .i64 (0)), .v (.int .i64 (0)), .v (.slice none (0) (0))] 40, .blk [.v (.int .i64 (x1.Floor)), .v (.int .i64 (x3)), .v (.slice a229 ((x230).length) (k229))] 40, .row (.slice a229 ((x230).length) (k229)) cs229 73 2] ∧ RowRep cTRow V' x230 cs229 ∧ SlAt cTPair V' a5 k5 x4 ∧ SlAt cStr V' a166 k166 x165 ∧ SlAt cTRow V' a2 k2 x1.Rows ∧ J231 x230 = some r) rfl ?_ ?_
                · rintro L' V232 M' ⟨x230, a229, k229, cs229, rfl, rfl, h229, h233, h234, h235, hF⟩
                  subst hJ231
                  refine Exec.run tyOk 400 rfl ?_
                  exact Exec.round [(1, .v (.int .i64 (x3))), (2, .v (.slice a5 ((x4).length) (k5))), (3, .ptr 0 0), (6, .ptr 1 0), (8, .v (.slice a166 ((x165).length) (k166))), (11, .ptr 2 0), (12, .v (.int .i64 ((IntKind.i64.wrap (x181 + (1 : Int))))))] ⟨rfl, rfl, rfl, rfl, rfl, rfl, rfl, trivial⟩ ⟨n182, Nat.lt_succ_self _, x230, a229, k229, cs229, (IntKind.i64.wrap (x181 + (1 : Int))), rfl, rfl, h229, h233, h234, h235, hF⟩
                · skip
                  refine Exec.run tyOk 400 rfl ?_
                  rcases cond_some hF with ⟨hb, hF⟩ | ⟨hb, hF⟩
                  · skip
                    refine Exec.ifT rfl hb ?_
                    refine Exec.run tyOk 400 rfl ?_
                    refine Exec.frz 6 rfl rfl rfl (fun V236 hv236 hd236 hn236 => ?_)
                    have hz236 := RowRep.slat h221 hv236 hd236 hn236
                    have h237 := SlAt.mono h225 hv236
                    have h238 := SlAt.mono h226 hv236
                    have h239 := SlAt.mono h227 hv236
                    have h240 := RowRep.mono hv236 h220
                    have h241 := SlAt.mono h228 hv236
                    refine Exec.bsl tyOk rfl rfl ?_
                    refine Exec.run tyOk 400 rfl ?_
                    obtain ⟨q243, hF⟩ := req_some hF
                    refine Exec.app tyOk 3 7 (nm := ((x180 ++ [(⟨x189.Key, x222⟩ : TRow)])).length) rfl rfl rfl rfl rfl rfl rfl rfl rfl (by simp) (fun _ _ => rfl) rfl q243 (fun a242 k242 => ?_)
                    have h242 : RowRep cTRow V236 (x180 ++ [(⟨x189.Key, x222⟩ : TRow)]) (cs179 ++ [.string ⟨⟨x189.Key⟩⟩, .slice a221 ((x222).length) (k221)]) := RowRep.app h240 ⟨_, _, rfl, ⟨_, _, rfl, hz236⟩, rfl⟩
                    refine Exec.run tyOk 400 rfl ?_
                    refine Exec.cut 4 [(1, .v (.int .i64 (x3))), (2, .v (.slice a5 ((x4).length) (k5))), (3, .ptr 0 0), (6, .ptr 1 0), (8, .v (.slice a166 ((x165).length) (k166))), (11, .ptr 2 0), (12, .v (.int .i64 (x181)))] (M' := [.blk [.v (.int .i64 (x1.Floor)), .v (.int .i64 (x1.Last)), .v (.slice a2 ((x1.Rows).length) (k2))] 40, .blk [.v (.int .i64 (0)), .v (.int .i64 (0)), .v (.slice none (0) (0))] 40, .blk [.v (.int .i64 (x1.Floor)), .v (.int .i64 (x3)), .v (.slice a242 (((x180 ++ [(⟨x189.Key, x222⟩ : TRow)])).length) (k242))] 40, .row (.slice a242 (((x180 ++ [(⟨x189.Key, x222⟩ : TRow)])).length) (k242)) ((cs179 ++ [.string ⟨⟨x189.Key⟩⟩, .slice a221 ((x222).length) (k221)])) 73 2]) rfl ⟨rfl, rfl, rfl, rfl, rfl, rfl, rfl, trivial⟩ rfl rfl rfl ?_
                    exact Exec.round [(1, .v (.int .i64 (x3))), (2, .v (.slice a5 ((x4).length) (k5))), (3, .ptr 0 0), (6, .ptr 1 0), (8, .v (.slice a166 ((x165).length) (k166))), (11, .ptr 2 0), (12, .v (.int .i64 (x181)))] ⟨rfl, rfl, rfl, rfl, rfl, rfl, rfl, trivial⟩ ⟨(x180 ++ [(⟨x189.Key, x222⟩ : TRow)]), a242, k242, (cs179 ++ [.string ⟨⟨x189.Key⟩⟩, .slice a221 ((x222).length) (k221)]), rfl, rfl, h242, h237, h238, h239, hF⟩
                  · skip
                    refine Exec.ifF rfl hb ?_
                    refine Exec.run tyOk 400 rfl ?_
                    refine Exec.cut 4 [(1, .v (.int .i64 (x3))), (2, .v (.slice a5 ((x4).length) (k5))), (3, .ptr 0 0), (6, .ptr 1 0), (8, .v (.slice a166 ((x165).length) (k166))), (11, .ptr 2 0), (12, .v (.int .i64 (x181)))] (M' := [.blk [.v (.int .i64 (x1.Floor)), .v (.int .i64 (x1.Last)), .v (.slice a2 ((x1.Rows).length) (k2))] 40, .blk [.v (.int .i64 (0)), .v (.int .i64 (0)), .v (.slice none (0) (0))] 40, .blk [.v (.int .i64 (x1.Floor)), .v (.int .i64 (x3)), .v (.slice a179 ((x180).length) (k179))] 40, .row (.slice a179 ((x180).length) (k179)) cs179 73 2]) rfl ⟨rfl, rfl, rfl, rfl, rfl, rfl, rfl, trivial⟩ rfl rfl rfl ?_
                    exact Exec.round [(1, .v (.int .i64 (x3))), (2, .v (.slice a5 ((x4).length) (k5))), (3, .ptr 0 0), (6, .ptr 1 0), (8, .v (.slice a166 ((x165).length) (k166))), (11, .ptr 2 0), (12, .v (.int .i64 (x181)))] ⟨rfl, rfl, rfl, rfl, rfl, rfl, rfl, trivial⟩ ⟨x180, a179, k179, cs179, rfl, rfl, h220, h225, h226, h227, hF⟩
              · skip
                refine Exec.run tyOk 400 rfl ?_
                refine Exec.loop (fun n248 L' V' M' => ∃ (x246 : List TVersion) (a245 : Option Addr) (k245 : Nat) (cs245 : List Value) (x247 : Int), L' = [(1, .v (.int .i64 (x3))), (2, .v (.slice a5 ((x4).length) (k5))), (3, .ptr 0 0), (6, .ptr 1 0), (8, .v (.slice a166 ((x165).length) (k166))), (11, .ptr 2 0), (12, .v (.int .i64 (x181))), (13, .ptr 4 0), (14, .ptr 5 0), (15, .v (.int .i64 (x247)))] ∧ M' = [.blk [.v (.int .i64 (x1.Floor)), .v (.int .i64 (x1.Last)), .v (.slice a2 ((x1.Rows).length) (k2))] 40, .blk [.v (.int .i64 (0)), .v (.int .i64 (0)), .v (.slice none (0) (0))] 40, .blk [.v (.int .i64 (x1.Floor)), .v (.int .i64 (x3)), .v (.slice a179 ((x180).length) (k179))] 40, .row (.slice a179 ((x180).length) (k179)) cs179 73 2, .blk [.v (.string ⟨⟨x189.Key⟩⟩), .v (.slice a190 ((x189.Vers).length) (k190))] 73, .blk [.v (.string ⟨⟨x189.Key⟩⟩), .v (.slice a245 ((x246).length) (k245))] 73, .row (.slice a245 ((x246).length) (k245)) cs245 87 4] ∧ RowRep cTRow V' x180 cs179 ∧ RowRep cTVersion V' x246 cs245 ∧ SlAt cTPair V' a5 k5 x4 ∧ SlAt cStr V' a166 k166 x165 ∧ SlAt cTRow V' a2 k2 x1.Rows ∧ SlAt cTVersion V' a190 k190 x189.Vers ∧ F_clockworkref22_Apply_L2 x4 x189 x1 x3 J223 n248 x246 x247 = some r) ⟨(((((x4).length : Nat) : Int)).toNat + 1), [(1, .v (.int .i64 (x3))), (2, .v (.slice a5 ((x4).length) (k5))), (3, .ptr 0 0), (6, .ptr 1 0), (8, .v (.slice a166 ((x165).length) (k166))), (11, .ptr 2 0), (12, .v (.int .i64 (x181))), (13, .ptr 4 0), (14, .ptr 5 0), (15, .v (.int .i64 ((0 : Int))))], ⟨rfl, rfl, rfl, rfl, rfl, rfl, rfl, rfl, rfl, rfl, trivial⟩, (([] : List TVersion) ++ x189.Vers), a218, k218, ([] ++ cs218), (0 : Int), rfl, rfl, h216, h218, h212, h213, h215, h214, hF⟩ ?_
                rintro n248 L' V249 M' ⟨x246, a245, k245, cs245, x247, rfl, rfl, h244, h245, h250, h251, h252, h253, hF⟩
                rcases n248 with _ | n248
                · exact absurd hF (by simp [F_clockworkref22_Apply_L2])
                rw [F_clockworkref22_Apply_L2] at hF
                refine Exec.run tyOk 400 rfl ?_
                rcases cond_some hF with ⟨hb, hF⟩ | ⟨hb, hF⟩
                · skip
                  refine Exec.ifT rfl hb ?_
                  refine Exec.run tyOk 400 rfl ?_
                  refine Exec.draws tyOk [(0, true), (1, true), (2, true), (3, true), (4, true), (5, true), (6, true), (7, true), (8, true), (9, true), (10, true), (11, true), (12, true), (13, true), (14, true), (15, true), (16, true), (17, false), (18, false), (19, false)] rfl (by kernel_rfl) ?_
                  refine Exec.run tyOk 400 rfl ?_
                  obtain ⟨q254, hF⟩ := req_some hF
                  obtain ⟨c255, hr255, hd255⟩ := SlAt.get h250 q254
                  obtain rfl := hr255
                  refine Exec.fia tyOk rfl rfl rfl ⟨q254.1, q254.2, hd255.some⟩ ?_
                  refine Exec.run tyOk 400 rfl ?_
                  refine Exec.fld tyOk (x := .string ⟨⟨(atI x4 x247).Key⟩⟩) rfl rfl rfl (RdAt.part hd255 0 1 rfl) rfl rfl ?_
                  refine Exec.run tyOk 400 rfl ?_
                  obtain ⟨q256, hF⟩ := req_some hF
                  obtain ⟨c257, hr257, hd257⟩ := SlAt.gget ((((atI x4 x247).Key == x189.Key)) == true) h250 q256
                  obtain rfl := hr257
                  refine Exec.fia tyOk rfl rfl rfl (fun gg0 => ⟨(q256 (gd1_of gg0)).1, (q256 (gd1_of gg0)).2, (hd257 (gd1_of gg0)).some⟩) ?_
                  refine Exec.run tyOk 400 rfl ?_
                  refine Exec.fld tyOk (x := .agg ⟨[.int .i64 ((cond ((((atI x4 x247).Key == x189.Key)) == true) (atI x4 x247) default).Val.Kind), .int .i64 ((cond ((((atI x4 x247).Key == x189.Key)) == true) (atI x4 x247) default).Val.N), .string ⟨⟨(cond ((((atI x4 x247).Key == x189.Key)) == true) (atI x4 x247) default).Val.S⟩⟩]⟩) rfl rfl rfl (fun gg0 => (RdAt.part (hd257 (gd1_of gg0)) 1 3 rfl)) rfl rfl ?_
                  refine Exec.run tyOk 400 rfl ?_
                  obtain ⟨x258, hx258, hF⟩ := bnd_some hF
                  refine Exec.callS (.agg ⟨[.int .i64 (x258.Kind), .int .i64 (x258.N), .string ⟨⟨x258.S⟩⟩]⟩) rfl rfl (fun gg0 => W_clockworkref22_seen x189 x1.Last h253 (gcall_some hx258 (gd1_of gg0))) ?_
                  refine Exec.run tyOk 400 rfl ?_
                  obtain ⟨J262, hJ262, hF⟩ := jn_some hF
                  refine Exec.seam (fun L' V' M' => ∃ (x261 : List TVersion) (a260 : Option Addr) (k260 : Nat) (cs260 : List Value), L' = [(1, .v (.int .i64 (x3))), (2, .v (.slice a5 ((x4).length) (k5))), (3, .ptr 0 0), (6, .ptr 1 0), (8, .v (.slice a166 ((x165).length) (k166))), (11, .ptr 2 0), (12, .v (.int .i64 (x181))), (13, .ptr 4 0), (14, .ptr 5 0), (15, .v (.int .i64 (x247)))] ∧ M' = [.blk [.v (.int .i64 (x1.Floor)), .v (.int .i64 (x1.Last)), .v (.slice a2 ((x1.Rows).length) (k2))] 40, .blk [.v (.int .i64 (0)), .v (.int .i64 (0)), .v (.slice none (0) (0))] 40, .blk [.v (.int .i64 (x1.Floor)), .v (.int .i64 (x3)), .v (.slice a179 ((x180).length) (k179))] 40, .row (.slice a179 ((x180).length) (k179)) cs179 73 2, .blk [.v (.string ⟨⟨x189.Key⟩⟩), .v (.slice a190 ((x189.Vers).length) (k190))] 73, .blk [.v (.string ⟨⟨x189.Key⟩⟩), .v (.slice a260 ((x261).length) (k260))] 73, .row (.slice a260 ((x261).length) (k260)) cs260 87 4] ∧ RowRep cTRow V' x180 cs179 ∧ RowRep cTVersion V' x261 cs260 ∧ SlAt cTPair V' a5 k5 x4 ∧ SlAt cStr V' a166 k166 x165 ∧ SlAt cTRow V' a2 k2 x1.Rows ∧ SlAt cTVersion V' a190 k190 x189.Vers ∧ J262 x261 = some r) rfl ?_ ?_
                  · rintro L' V263 M' ⟨x261, a260, k260, cs260, rfl, rfl, h259, h260, h264, h265, h266, h267, hF⟩
                    subst hJ262
                    refine Exec.run tyOk 400 rfl ?_
                    exact Exec.round [(1, .v (.int .i64 (x3))), (2, .v (.slice a5 ((x4).length) (k5))), (3, .ptr 0 0), (6, .ptr 1 0), (8, .v (.slice a166 ((x165).length) (k166))), (11, .ptr 2 0), (12, .v (.int .i64 (x181))), (13, .ptr 4 0), (14, .ptr 5 0), (15, .v (.int .i64 ((IntKind.i64.wrap (x247 + (1 : Int))))))] ⟨rfl, rfl, rfl, rfl, rfl, rfl, rfl, rfl, rfl, rfl, trivial⟩ ⟨n248, Nat.lt_succ_self _, x261, a260, k260, cs260, (IntKind.i64.wrap (x247 + (1 : Int))), rfl, rfl, h259, h260, h264, h265, h266, h267, hF⟩
                  · skip
                    refine Exec.run tyOk 400 rfl ?_
                    rcases cond_some hF with ⟨hb, hF⟩ | ⟨hb, hF⟩
                    · skip
                      refine Exec.ifT rfl hb ?_
                      refine Exec.run tyOk 400 rfl ?_
                      refine Exec.drawsE tyOk [12] [6] [(0, true), (1, true), (2, true), (3, true), (4, true), (5, true), (6, true), (7, true), (8, true), (9, false), (10, false), (11, true), (12, false)] (by kernel_rfl) ?_
                      refine Exec.run tyOk 400 rfl ?_
                      obtain ⟨q268, hF⟩ := req_some hF
                      obtain ⟨c269, hr269, hd269⟩ := SlAt.get h250 q268
                      obtain rfl := hr269
                      refine Exec.fia tyOk rfl rfl rfl ⟨q268.1, q268.2, hd269.some⟩ ?_
                      refine Exec.run tyOk 400 rfl ?_
                      refine Exec.fld tyOk (x := .agg ⟨[.int .i64 ((atI x4 x247).Val.Kind), .int .i64 ((atI x4 x247).Val.N), .string ⟨⟨(atI x4 x247).Val.S⟩⟩]⟩) rfl rfl rfl (RdAt.part hd269 1 3 rfl) rfl rfl ?_
                      refine Exec.run tyOk 400 rfl ?_
                      refine Exec.bsl tyOk rfl rfl ?_
                      refine Exec.run tyOk 400 rfl ?_
                      obtain ⟨q271, hF⟩ := req_some hF
                      refine Exec.app tyOk 6 7 (nm := ((x246 ++ [(⟨x3, (atI x4 x247).Val⟩ : TVersion)])).length) rfl rfl rfl rfl rfl rfl rfl rfl rfl (by simp) (fun _ _ => rfl) rfl q271 (fun a270 k270 => ?_)
                      have h270 : RowRep cTVersion V249 (x246 ++ [(⟨x3, (atI x4 x247).Val⟩ : TVersion)]) (cs245 ++ [.int .i64 (x3), .int .i64 ((atI x4 x247).Val.Kind), .int .i64 ((atI x4 x247).Val.N), .string ⟨⟨(atI x4 x247).Val.S⟩⟩]) := RowRep.app h245 ⟨_, _, rfl, rfl, rfl⟩
                      refine Exec.run tyOk 400 rfl ?_
                      refine Exec.cut 7 [(1, .v (.int .i64 (x3))), (2, .v (.slice a5 ((x4).length) (k5))), (3, .ptr 0 0), (6, .ptr 1 0), (8, .v (.slice a166 ((x165).length) (k166))), (11, .ptr 2 0), (12, .v (.int .i64 (x181))), (13, .ptr 4 0), (14, .ptr 5 0), (15, .v (.int .i64 (x247)))] (M' := [.blk [.v (.int .i64 (x1.Floor)), .v (.int .i64 (x1.Last)), .v (.slice a2 ((x1.Rows).length) (k2))] 40, .blk [.v (.int .i64 (0)), .v (.int .i64 (0)), .v (.slice none (0) (0))] 40, .blk [.v (.int .i64 (x1.Floor)), .v (.int .i64 (x3)), .v (.slice a179 ((x180).length) (k179))] 40, .row (.slice a179 ((x180).length) (k179)) cs179 73 2, .blk [.v (.string ⟨⟨x189.Key⟩⟩), .v (.slice a190 ((x189.Vers).length) (k190))] 73, .blk [.v (.string ⟨⟨x189.Key⟩⟩), .v (.slice a270 (((x246 ++ [(⟨x3, (atI x4 x247).Val⟩ : TVersion)])).length) (k270))] 73, .row (.slice a270 (((x246 ++ [(⟨x3, (atI x4 x247).Val⟩ : TVersion)])).length) (k270)) ((cs245 ++ [.int .i64 (x3), .int .i64 ((atI x4 x247).Val.Kind), .int .i64 ((atI x4 x247).Val.N), .string ⟨⟨(atI x4 x247).Val.S⟩⟩])) 87 4]) rfl ⟨rfl, rfl, rfl, rfl, rfl, rfl, rfl, rfl, rfl, rfl, trivial⟩ rfl rfl rfl ?_
                      exact Exec.round [(1, .v (.int .i64 (x3))), (2, .v (.slice a5 ((x4).length) (k5))), (3, .ptr 0 0), (6, .ptr 1 0), (8, .v (.slice a166 ((x165).length) (k166))), (11, .ptr 2 0), (12, .v (.int .i64 (x181))), (13, .ptr 4 0), (14, .ptr 5 0), (15, .v (.int .i64 (x247)))] ⟨rfl, rfl, rfl, rfl, rfl, rfl, rfl, rfl, rfl, rfl, trivial⟩ ⟨(x246 ++ [(⟨x3, (atI x4 x247).Val⟩ : TVersion)]), a270, k270, (cs245 ++ [.int .i64 (x3), .int .i64 ((atI x4 x247).Val.Kind), .int .i64 ((atI x4 x247).Val.N), .string ⟨⟨(atI x4 x247).Val.S⟩⟩]), rfl, rfl, h244, h270, h250, h251, h252, h253, hF⟩
                    · skip
                      refine Exec.ifF rfl hb ?_
                      refine Exec.run tyOk 400 rfl ?_
                      exact Exec.round [(1, .v (.int .i64 (x3))), (2, .v (.slice a5 ((x4).length) (k5))), (3, .ptr 0 0), (6, .ptr 1 0), (8, .v (.slice a166 ((x165).length) (k166))), (11, .ptr 2 0), (12, .v (.int .i64 (x181))), (13, .ptr 4 0), (14, .ptr 5 0), (15, .v (.int .i64 (x247)))] ⟨rfl, rfl, rfl, rfl, rfl, rfl, rfl, rfl, rfl, rfl, trivial⟩ ⟨x246, a245, k245, cs245, rfl, rfl, h244, h245, h250, h251, h252, h253, hF⟩
                · skip
                  refine Exec.ifF rfl hb ?_
                  refine Exec.run tyOk 400 rfl ?_
                  exact Exec.round [(1, .v (.int .i64 (x3))), (2, .v (.slice a5 ((x4).length) (k5))), (3, .ptr 0 0), (6, .ptr 1 0), (8, .v (.slice a166 ((x165).length) (k166))), (11, .ptr 2 0), (12, .v (.int .i64 (x181))), (14, .ptr 5 0)] ⟨rfl, rfl, rfl, rfl, rfl, rfl, rfl, rfl, trivial⟩ ⟨x246, a245, k245, cs245, rfl, rfl, h244, h245, h250, h251, h252, h253, hF⟩
            · skip
              refine Exec.ifF rfl hb ?_
              refine Exec.run tyOk 400 rfl ?_
              exact Exec.round [(6, .ptr 1 0), (11, .ptr 2 0)] ⟨rfl, rfl, trivial⟩ ⟨x180, a179, k179, cs179, rfl, rfl, h179, h186, hF⟩
        · skip
          refine Exec.run tyOk 400 rfl ?_
          refine Exec.cut 2 [(1, .v (.int .i64 (x3))), (2, .v (.slice a5 ((x4).length) (k5))), (3, .ptr 0 0), (6, .ptr 1 0), (8, .v (.slice a9 ((x10).length) (k9))), (10, .v (.int .i64 ((0 : Int))))] (M' := [.blk [.v (.int .i64 (x1.Floor)), .v (.int .i64 (x1.Last)), .v (.slice a2 ((x1.Rows).length) (k2))] 40, .blk [.v (.int .i64 (0)), .v (.int .i64 (0)), .v (.slice none (0) (0))] 40]) rfl ⟨rfl, rfl, rfl, rfl, rfl, rfl, trivial⟩ rfl rfl rfl ?_
          refine Exec.loop (fun n275 L' V' M' => ∃ (x272 : List Str) (a273 : Option Addr) (k273 : Nat) (x274 : Int), L' = [(1, .v (.int .i64 (x3))), (2, .v (.slice a5 ((x4).length) (k5))), (3, .ptr 0 0), (6, .ptr 1 0), (8, .v (.slice a273 ((x272).length) (k273))), (10, .v (.int .i64 (x274)))] ∧ M' = [.blk [.v (.int .i64 (x1.Floor)), .v (.int .i64 (x1.Last)), .v (.slice a2 ((x1.Rows).length) (k2))] 40, .blk [.v (.int .i64 (0)), .v (.int .i64 (0)), .v (.slice none (0) (0))] 40] ∧ SlAt cStr V' a273 k273 x272 ∧ SlAt cTPair V' a5 k5 x4 ∧ SlAt cTRow V' a2 k2 x1.Rows ∧ F_clockworkref22_Apply_L3 x4 J167 n275 x272 x274 = some r) ⟨(((((x4).length : Nat) : Int)).toNat + 1), [(1, .v (.int .i64 (x3))), (2, .v (.slice a5 ((x4).length) (k5))), (3, .ptr 0 0), (6, .ptr 1 0), (8, .v (.slice a9 ((x10).length) (k9))), (10, .v (.int .i64 ((0 : Int))))], ⟨rfl, rfl, rfl, rfl, rfl, rfl, trivial⟩, x10, a9, k9, (0 : Int), rfl, rfl, hz162, h163, h164, hF⟩ ?_
          rintro n275 L' V276 M' ⟨x272, a273, k273, x274, rfl, rfl, h273, h277, h278, hF⟩
          rcases n275 with _ | n275
          · exact absurd hF (by simp [F_clockworkref22_Apply_L3])
          rw [F_clockworkref22_Apply_L3] at hF
          refine Exec.run tyOk 400 rfl ?_
          rcases cond_some hF with ⟨hb, hF⟩ | ⟨hb, hF⟩
          · skip
            refine Exec.ifT rfl hb ?_
            refine Exec.run tyOk 400 rfl ?_
            obtain ⟨q279, hF⟩ := req_some hF
            obtain ⟨c280, hr280, hd280⟩ := SlAt.get h277 q279
            obtain rfl := hr280
            refine Exec.ia tyOk rfl rfl ⟨q279.1, q279.2, hd280.some⟩ ?_
            refine Exec.run tyOk 400 rfl ?_
            refine Exec.ld tyOk (x := .string ⟨⟨(atI x4 x274).Key⟩⟩) rfl rfl (RdAt.part hd280 0 1 rfl) rfl rfl ?_
            refine Exec.run tyOk 400 rfl ?_
            obtain ⟨x281, hx281, hF⟩ := bnd_some hF
            refine Exec.call rfl rfl (W_clockworkref04_Insert x272 ((atI x4 x274).Key) h273 hx281) ?_
            rintro V283 _ hv283 ⟨a282, k282, rfl, h282⟩
            have h284 := SlAt.mono h277 hv283
            have h285 := SlAt.mono h273 hv283
            have h287 := SlAt.mono h278 hv283
            refine Exec.run tyOk 400 rfl ?_
            exact Exec.round [(1, .v (.int .i64 (x3))), (2, .v (.slice a5 ((x4).length) (k5))), (3, .ptr 0 0), (6, .ptr 1 0), (8, .v (.slice a282 ((x281).length) (k282))), (10, .v (.int .i64 ((IntKind.i64.wrap (x274 + (1 : Int))))))] ⟨rfl, rfl, rfl, rfl, rfl, rfl, trivial⟩ ⟨n275, Nat.lt_succ_self _, x281, a282, k282, (IntKind.i64.wrap (x274 + (1 : Int))), rfl, rfl, h282, h284, h287, hF⟩
          · skip
            refine Exec.ifF rfl hb ?_
            refine Exec.run tyOk 400 rfl ?_
            exact Exec.round [(1, .v (.int .i64 (x3))), (2, .v (.slice a5 ((x4).length) (k5))), (3, .ptr 0 0), (6, .ptr 1 0), (8, .v (.slice a273 ((x272).length) (k273)))] ⟨rfl, rfl, rfl, rfl, rfl, trivial⟩ ⟨x272, a273, k273, rfl, rfl, h273, h277, h278, hF⟩
      · skip
        refine Exec.run tyOk 400 rfl ?_
        refine Exec.loop (fun n291 L' V' M' => ∃ (x289 : List Str) (a288 : Option Addr) (k288 : Nat) (cs288 : List Value) (x290 : Int), L' = [(1, .v (.int .i64 (x3))), (2, .v (.slice a5 ((x4).length) (k5))), (3, .ptr 0 0), (6, .ptr 1 0), (8, .v (.slice a288 ((x289).length) (k288))), (9, .v (.int .i64 (x290)))] ∧ M' = [.blk [.v (.int .i64 (x1.Floor)), .v (.int .i64 (x1.Last)), .v (.slice a2 ((x1.Rows).length) (k2))] 40, .blk [.v (.int .i64 (0)), .v (.int .i64 (0)), .v (.slice none (0) (0))] 40, .row (.slice a288 ((x289).length) (k288)) cs288 9 1] ∧ RowRep cStr V' x289 cs288 ∧ SlAt cTPair V' a5 k5 x4 ∧ SlAt cTRow V' a2 k2 x1.Rows ∧ F_clockworkref22_Apply_L4 x1 J11 n291 x289 x290 = some r) ⟨(((((x1.Rows).length : Nat) : Int)).toNat + 1), [(1, .v (.int .i64 (x3))), (2, .v (.slice a5 ((x4).length) (k5))), (3, .ptr 0 0), (6, .ptr 1 0), (8, .v (.slice none ((([] : List Str)).length) (0))), (9, .v (.int .i64 ((0 : Int))))], ⟨rfl, rfl, rfl, rfl, rfl, rfl, trivial⟩, ([] : List Str), none, 0, [], (0 : Int), rfl, rfl, h8, h5, h2, hF⟩ ?_
        rintro n291 L' V292 M' ⟨x289, a288, k288, cs288, x290, rfl, rfl, h288, h293, h294, hF⟩
        rcases n291 with _ | n291
        · exact absurd hF (by simp [F_clockworkref22_Apply_L4])
        rw [F_clockworkref22_Apply_L4] at hF
        refine Exec.run tyOk 400 rfl ?_
        rcases cond_some hF with ⟨hb, hF⟩ | ⟨hb, hF⟩
        · skip
          refine Exec.ifT rfl hb ?_
          refine Exec.run tyOk 400 rfl ?_
          obtain ⟨q295, hF⟩ := req_some hF
          obtain ⟨c296, hr296, hd296⟩ := SlAt.get h294 q295
          obtain ⟨a297, k297, rfl, h297⟩ := hr296
          refine Exec.ia tyOk rfl rfl ⟨q295.1, q295.2, hd296.some⟩ ?_
          refine Exec.run tyOk 400 rfl ?_
          refine Exec.ld tyOk (x := .string ⟨⟨(atI x1.Rows x290).Key⟩⟩) rfl rfl (RdAt.part hd296 0 1 rfl) rfl rfl ?_
          refine Exec.run tyOk 400 rfl ?_
          refine Exec.bsl tyOk rfl rfl ?_
          refine Exec.run tyOk 400 rfl ?_
          obtain ⟨q299, hF⟩ := req_some hF
          refine Exec.app tyOk 2 3 (nm := ((x289 ++ [(atI x1.Rows x290).Key])).length) rfl rfl rfl rfl rfl rfl rfl rfl rfl (by simp) (fun _ _ => rfl) rfl q299 (fun a298 k298 => ?_)
          have h298 : RowRep cStr V292 (x289 ++ [(atI x1.Rows x290).Key]) (cs288 ++ [.string ⟨⟨(atI x1.Rows x290).Key⟩⟩]) := RowRep.app h288 ⟨_, _, rfl, rfl, rfl⟩
          refine Exec.run tyOk 400 rfl ?_
          refine Exec.cut 3 [(1, .v (.int .i64 (x3))), (2, .v (.slice a5 ((x4).length) (k5))), (3, .ptr 0 0), (6, .ptr 1 0), (8, .v (.slice a298 (((x289 ++ [(atI x1.Rows x290).Key])).length) (k298))), (9, .v (.int .i64 ((IntKind.i64.wrap (x290 + (1 : Int))))))] (M' := [.blk [.v (.int .i64 (x1.Floor)), .v (.int .i64 (x1.Last)), .v (.slice a2 ((x1.Rows).length) (k2))] 40, .blk [.v (.int .i64 (0)), .v (.int .i64 (0)), .v (.slice none (0) (0))] 40, .row (.slice a298 (((x289 ++ [(atI x1.Rows x290).Key])).length) (k298)) ((cs288 ++ [.string ⟨⟨(atI x1.Rows x290).Key⟩⟩])) 9 1]) rfl ⟨rfl, rfl, rfl, rfl, rfl, rfl, trivial⟩ rfl rfl rfl ?_
          exact Exec.round [(1, .v (.int .i64 (x3))), (2, .v (.slice a5 ((x4).length) (k5))), (3, .ptr 0 0), (6, .ptr 1 0), (8, .v (.slice a298 (((x289 ++ [(atI x1.Rows x290).Key])).length) (k298))), (9, .v (.int .i64 ((IntKind.i64.wrap (x290 + (1 : Int))))))] ⟨rfl, rfl, rfl, rfl, rfl, rfl, trivial⟩ ⟨n291, Nat.lt_succ_self _, (x289 ++ [(atI x1.Rows x290).Key]), a298, k298, (cs288 ++ [.string ⟨⟨(atI x1.Rows x290).Key⟩⟩]), (IntKind.i64.wrap (x290 + (1 : Int))), rfl, rfl, h298, h293, h294, hF⟩
        · skip
          refine Exec.ifF rfl hb ?_
          refine Exec.run tyOk 400 rfl ?_
          exact Exec.round [(1, .v (.int .i64 (x3))), (2, .v (.slice a5 ((x4).length) (k5))), (3, .ptr 0 0), (6, .ptr 1 0), (8, .v (.slice a288 ((x289).length) (k288)))] ⟨rfl, rfl, rfl, rfl, rfl, trivial⟩ ⟨x289, a288, k288, cs288, rfl, rfl, h288, h293, h294, hF⟩

def F_clockworkref53_Diff_L1 (x1 : TTree) (x3 : TTree) (J10 : (List Int) → Option (List Int)) : Nat → (List Int) → Int → Option (List Int)
  | 0, _, _ => none
  | n20 + 1, x18, x19 => (cond (decide (x19 < (64 : Int))) (req (0 ≤ x19 ∧ x19 < ((x1.Buckets).length : Int)) (req (0 ≤ x19 ∧ x19 < ((x3.Buckets).length : Int)) (jn (fun (x29 : List Int) => (F_clockworkref53_Diff_L1 x1 x3 J10 n20 x29 ((IntKind.i64.wrap (x19 + (1 : Int)))))) (fun J30 => (cond ((atI x1.Buckets x19) != (atI x3.Buckets x19)) (req (((x18 ++ [x19])).length * 8 ≤ 140737488355328) (J30 ((x18 ++ [x19])))) (J30 x18)))))) (J10 x18))

def F_clockworkref53_Diff (x1 : TTree) (x3 : TTree) : Option (List Int) :=
  (bnd (F_clockworkref53_Valid x1) fun x5 => (bnd (gcall (((!x5)) == false) (F_clockworkref53_Valid x3)) fun x6 => (cond ((!x5) || (!x6)) (some ([] : List Int)) (jn (fun (x9 : List Int) => (some x9)) (fun J10 => (F_clockworkref53_Diff_L1 x1 x3 J10 (((64 : Int)).toNat + 1) (([] : List Int)) ((0 : Int))))))))

set_option maxRecDepth 100000 in
theorem W_clockworkref53_Diff {V : View} (x1 : TTree) (x3 : TTree) {a2 : Option Addr} {k2 : Nat} {a4 : Option Addr} {k4 : Nat} (h2 : SlAt (cInt .u64) V a2 k2 x1.Buckets) (h4 : SlAt (cInt .u64) V a4 k4 x3.Buckets) {r : List Int} (hF : F_clockworkref53_Diff x1 x3 = some r) :
    Spec Tryz.prog 39 [.agg ⟨[.slice a2 ((x1.Buckets).length) (k2), .int .u64 (x1.Root)]⟩, .agg ⟨[.slice a4 ((x3.Buckets).length) (k4), .int .u64 (x3.Root)]⟩] V (fun V' v => ∃ (a36 : Option Addr) (k36 : Nat), v = .slice a36 ((r).length) (k36) ∧ SlAt (cInt .i64) V' a36 k36 r) := by
  unfold F_clockworkref53_Diff at hF
  refine Spec.enter (T := tyT) Tryz.func39 rfl (by kernel_rfl) rfl rfl rfl ?_
  refine Exec.run tyOk 400 rfl ?_
  obtain ⟨x5, hx5, hF⟩ := bnd_some hF
  refine Exec.callS (.bool (x5)) rfl rfl (W_clockworkref53_Valid x1 h2 hx5) ?_
  refine Exec.run tyOk 400 rfl ?_
  obtain ⟨x6, hx6, hF⟩ := bnd_some hF
  refine Exec.callS (.bool (x6)) rfl rfl (fun gg0 => W_clockworkref53_Valid x3 h4 (gcall_some hx6 (gd1_of gg0))) ?_
  refine Exec.run tyOk 400 rfl ?_
  rcases cond_some hF with ⟨hb, hF⟩ | ⟨hb, hF⟩
  · skip
    refine Exec.ifT rfl hb ?_
    refine Exec.run tyOk 400 rfl ?_
    obtain rfl := some_inj hF
    exact Exec.ret tyOk rfl rfl ⟨_, _, rfl, SlAt.nil⟩
  · skip
    refine Exec.ifF rfl hb ?_
    refine Exec.run tyOk 10 rfl ?_
    refine Exec.row0 3 1 rfl ?_
    have h7 : RowRep (cInt .i64) V ([] : List Int) [] := RowRep.nil
    obtain ⟨J10, hJ10, hF⟩ := jn_some hF
    refine Exec.seam (fun L' V' M' => ∃ (x9 : List Int) (a8 : Option Addr) (k8 : Nat) (cs8 : List Value), L' = [(5, .v (.slice a8 ((x9).length) (k8)))] ∧ M' = [.blk [.v (.slice a2 ((x1.Buckets).length) (k2)), .v (.int .u64 (x1.Root))] 50, .blk [.v (.slice a4 ((x3.Buckets).length) (k4)), .v (.int .u64 (x3.Root))] 50, .row (.slice a8 ((x9).length) (k8)) cs8 3 1] ∧ RowRep (cInt .i64) V' x9 cs8 ∧ SlAt (cInt .u64) V' a2 k2 x1.Buckets ∧ SlAt (cInt .u64) V' a4 k4 x3.Buckets ∧ J10 x9 = some r) rfl ?_ ?_
    · rintro L' V11 M' ⟨x9, a8, k8, cs8, rfl, rfl, h8, h12, h13, hF⟩
      subst hJ10
      refine Exec.run tyOk 400 rfl ?_
      refine Exec.frz 2 rfl rfl rfl (fun V14 hv14 hd14 hn14 => ?_)
      have hz14 := RowRep.slat h8 hv14 hd14 hn14
      have h15 := SlAt.mono h12 hv14
      have h16 := SlAt.mono h13 hv14
      obtain rfl := some_inj hF
      exact Exec.ret tyOk rfl rfl ⟨_, _, rfl, hz14⟩
    · skip
      refine Exec.run tyOk 400 rfl ?_
      refine Exec.loop (fun n20 L' V' M' => ∃ (x18 : List Int) (a17 : Option Addr) (k17 : Nat) (cs17 : List Value) (x19 : Int), L' = [(2, .ptr 0 0), (3, .ptr 1 0), (5, .v (.slice a17 ((x18).length) (k17))), (6, .v (.int .i64 (x19)))] ∧ M' = [.blk [.v (.slice a2 ((x1.Buckets).length) (k2)), .v (.int .u64 (x1.Root))] 50, .blk [.v (.slice a4 ((x3.Buckets).length) (k4)), .v (.int .u64 (x3.Root))] 50, .row (.slice a17 ((x18).length) (k17)) cs17 3 1] ∧ RowRep (cInt .i64) V' x18 cs17 ∧ SlAt (cInt .u64) V' a2 k2 x1.Buckets ∧ SlAt (cInt .u64) V' a4 k4 x3.Buckets ∧ F_clockworkref53_Diff_L1 x1 x3 J10 n20 x18 x19 = some r) ⟨(((64 : Int)).toNat + 1), [(2, .ptr 0 0), (3, .ptr 1 0), (5, .v (.slice none ((([] : List Int)).length) (0))), (6, .v (.int .i64 ((0 : Int))))], ⟨rfl, rfl, rfl, rfl, trivial⟩, ([] : List Int), none, 0, [], (0 : Int), rfl, rfl, h7, h2, h4, hF⟩ ?_
      rintro n20 L' V21 M' ⟨x18, a17, k17, cs17, x19, rfl, rfl, h17, h22, h23, hF⟩
      rcases n20 with _ | n20
      · exact absurd hF (by simp [F_clockworkref53_Diff_L1])
      rw [F_clockworkref53_Diff_L1] at hF
      refine Exec.run tyOk 400 rfl ?_
      rcases cond_some hF with ⟨hb, hF⟩ | ⟨hb, hF⟩
      · skip
        refine Exec.ifT rfl hb ?_
        refine Exec.run tyOk 400 rfl ?_
        refine Exec.draws tyOk [(0, true), (1, true), (2, true), (3, true), (4, true), (5, true), (6, true), (7, true), (8, true), (9, true), (10, true)] rfl (by kernel_rfl) ?_
        refine Exec.run tyOk 400 rfl ?_
        obtain ⟨q24, hF⟩ := req_some hF
        obtain ⟨c25, hr25, hd25⟩ := SlAt.get h22 q24
        obtain rfl := hr25
        refine Exec.fia tyOk rfl rfl rfl ⟨q24.1, q24.2, hd25.some⟩ ?_
        refine Exec.run tyOk 400 rfl ?_
        refine Exec.fld tyOk (x := .int .u64 ((atI x1.Buckets x19))) rfl rfl rfl hd25 rfl rfl ?_
        refine Exec.run tyOk 400 rfl ?_
        obtain ⟨q26, hF⟩ := req_some hF
        obtain ⟨c27, hr27, hd27⟩ := SlAt.get h23 q26
        obtain rfl := hr27
        refine Exec.fia tyOk rfl rfl rfl ⟨q26.1, q26.2, hd27.some⟩ ?_
        refine Exec.run tyOk 400 rfl ?_
        refine Exec.fld tyOk (x := .int .u64 ((atI x3.Buckets x19))) rfl rfl rfl hd27 rfl rfl ?_
        refine Exec.run tyOk 400 rfl ?_
        obtain ⟨J30, hJ30, hF⟩ := jn_some hF
        refine Exec.seam (fun L' V' M' => ∃ (x29 : List Int) (a28 : Option Addr) (k28 : Nat) (cs28 : List Value), L' = [(2, .ptr 0 0), (3, .ptr 1 0), (5, .v (.slice a28 ((x29).length) (k28))), (6, .v (.int .i64 (x19)))] ∧ M' = [.blk [.v (.slice a2 ((x1.Buckets).length) (k2)), .v (.int .u64 (x1.Root))] 50, .blk [.v (.slice a4 ((x3.Buckets).length) (k4)), .v (.int .u64 (x3.Root))] 50, .row (.slice a28 ((x29).length) (k28)) cs28 3 1] ∧ RowRep (cInt .i64) V' x29 cs28 ∧ SlAt (cInt .u64) V' a2 k2 x1.Buckets ∧ SlAt (cInt .u64) V' a4 k4 x3.Buckets ∧ J30 x29 = some r) rfl ?_ ?_
        · rintro L' V31 M' ⟨x29, a28, k28, cs28, rfl, rfl, h28, h32, h33, hF⟩
          subst hJ30
          refine Exec.run tyOk 400 rfl ?_
          exact Exec.round [(2, .ptr 0 0), (3, .ptr 1 0), (5, .v (.slice a28 ((x29).length) (k28))), (6, .v (.int .i64 ((IntKind.i64.wrap (x19 + (1 : Int))))))] ⟨rfl, rfl, rfl, rfl, trivial⟩ ⟨n20, Nat.lt_succ_self _, x29, a28, k28, cs28, (IntKind.i64.wrap (x19 + (1 : Int))), rfl, rfl, h28, h32, h33, hF⟩
        · skip
          refine Exec.run tyOk 400 rfl ?_
          rcases cond_some hF with ⟨hb, hF⟩ | ⟨hb, hF⟩
          · skip
            refine Exec.ifT rfl hb ?_
            refine Exec.run tyOk 400 rfl ?_
            refine Exec.bsl tyOk rfl rfl ?_
            refine Exec.run tyOk 400 rfl ?_
            obtain ⟨q35, hF⟩ := req_some hF
            refine Exec.app tyOk 2 3 (nm := ((x18 ++ [x19])).length) rfl rfl rfl rfl rfl rfl rfl rfl rfl (by simp) (fun _ _ => rfl) rfl q35 (fun a34 k34 => ?_)
            have h34 : RowRep (cInt .i64) V21 (x18 ++ [x19]) (cs17 ++ [.int .i64 (x19)]) := RowRep.app h17 ⟨_, _, rfl, rfl, rfl⟩
            refine Exec.run tyOk 400 rfl ?_
            refine Exec.cut 3 [(2, .ptr 0 0), (3, .ptr 1 0), (5, .v (.slice a34 (((x18 ++ [x19])).length) (k34))), (6, .v (.int .i64 (x19)))] (M' := [.blk [.v (.slice a2 ((x1.Buckets).length) (k2)), .v (.int .u64 (x1.Root))] 50, .blk [.v (.slice a4 ((x3.Buckets).length) (k4)), .v (.int .u64 (x3.Root))] 50, .row (.slice a34 (((x18 ++ [x19])).length) (k34)) ((cs17 ++ [.int .i64 (x19)])) 3 1]) rfl ⟨rfl, rfl, rfl, rfl, trivial⟩ rfl rfl rfl ?_
            exact Exec.round [(2, .ptr 0 0), (3, .ptr 1 0), (5, .v (.slice a34 (((x18 ++ [x19])).length) (k34))), (6, .v (.int .i64 (x19)))] ⟨rfl, rfl, rfl, rfl, trivial⟩ ⟨(x18 ++ [x19]), a34, k34, (cs17 ++ [.int .i64 (x19)]), rfl, rfl, h34, h22, h23, hF⟩
          · skip
            refine Exec.ifF rfl hb ?_
            refine Exec.run tyOk 400 rfl ?_
            exact Exec.round [(2, .ptr 0 0), (3, .ptr 1 0), (5, .v (.slice a17 ((x18).length) (k17))), (6, .v (.int .i64 (x19)))] ⟨rfl, rfl, rfl, rfl, trivial⟩ ⟨x18, a17, k17, cs17, rfl, rfl, h17, h22, h23, hF⟩
      · skip
        refine Exec.ifF rfl hb ?_
        refine Exec.run tyOk 400 rfl ?_
        exact Exec.round [(5, .v (.slice a17 ((x18).length) (k17)))] ⟨rfl, trivial⟩ ⟨x18, a17, k17, cs17, rfl, rfl, h17, h22, h23, hF⟩

def F_mvstore_Valid_L1 (x1 : TStore) (J3 : Option Bool) : Nat → Int → Option Bool
  | 0, _ => none
  | n6 + 1, x5 => (cond (decide (x5 < (((x1.Rows).length : Nat) : Int))) (req (0 ≤ x5 ∧ x5 < ((x1.Rows).length : Int)) (bnd (F_keys_Valid ((atI x1.Rows x5).Key)) fun x12 => (req (((((decide ((0 : Int) < x5))) == true) && (((!x12)) == false)) = true → 0 ≤ (IntKind.i64.wrap (x5 - (1 : Int))) ∧ (IntKind.i64.wrap (x5 - (1 : Int))) < ((x1.Rows).length : Int)) (bnd (gcall ((((!x12) || ((decide ((0 : Int) < x5)) && (!sLt (cond ((((decide ((0 : Int) < x5))) == true) && (((!x12)) == false)) (atI x1.Rows ((IntKind.i64.wrap (x5 - (1 : Int))))) default).Key (atI x1.Rows x5).Key)))) == false) (F_mvstore_validRow ((atI x1.Rows x5)) x1.Floor x1.Last)) fun x16 => (cond (((!x12) || ((decide ((0 : Int) < x5)) && (!sLt (cond ((((decide ((0 : Int) < x5))) == true) && (((!x12)) == false)) (atI x1.Rows ((IntKind.i64.wrap (x5 - (1 : Int))))) default).Key (atI x1.Rows x5).Key))) || (!x16)) (some false) (F_mvstore_Valid_L1 x1 J3 n6 ((IntKind.i64.wrap (x5 + (1 : Int)))))))))) J3)

def F_mvstore_Valid (x1 : TStore) : Option Bool :=
  (cond (((decide (x1.Floor < (0 : Int))) || (decide (x1.Last < x1.Floor))) || (decide ((1099511627776 : Int) < x1.Last))) (some false) (jn ((some true)) (fun J3 => (F_mvstore_Valid_L1 x1 J3 (((((x1.Rows).length : Nat) : Int)).toNat + 1) ((0 : Int))))))

set_option maxRecDepth 100000 in
theorem W_mvstore_Valid {V : View} (x1 : TStore) {a2 : Option Addr} {k2 : Nat} (h2 : SlAt cTRow V a2 k2 x1.Rows) {r : Bool} (hF : F_mvstore_Valid x1 = some r) :
    Spec Tryz.prog 42 [.agg ⟨[.int .i64 (x1.Floor), .int .i64 (x1.Last), .slice a2 ((x1.Rows).length) (k2)]⟩] V (fun _ v => v = .bool (r)) := by
  unfold F_mvstore_Valid at hF
  refine Spec.enter (T := tyT) Tryz.func42 rfl (by kernel_rfl) rfl rfl rfl ?_
  refine Exec.run tyOk 400 rfl ?_
  rcases cond_some hF with ⟨hb, hF⟩ | ⟨hb, hF⟩
  · skip
    refine Exec.ifT rfl hb ?_
    refine Exec.run tyOk 400 rfl ?_
    obtain rfl := some_inj hF
    exact Exec.ret tyOk rfl rfl rfl
  · skip
    refine Exec.ifF rfl hb ?_
    refine Exec.run tyOk 9 rfl ?_
    obtain ⟨J3, hJ3, hF⟩ := jn_some hF
    refine Exec.seam (fun L' V' M' => L' = [] ∧ M' = [] ∧ J3 = some r) rfl ?_ ?_
    · rintro L' V4 M' ⟨rfl, rfl, hF⟩
      subst hJ3
      refine Exec.run tyOk 400 rfl ?_
      obtain rfl := some_inj hF
      exact Exec.ret tyOk rfl rfl rfl
    · skip
      refine Exec.run tyOk 400 rfl ?_
      refine Exec.loop (fun n6 L' V' M' => ∃ (x5 : Int), L' = [(1, .ptr 0 0), (21, .v (.slice a2 ((x1.Rows).length) (k2))), (22, .v (.int .i64 ((((x1.Rows).length : Nat) : Int)))), (23, .v (.int .i64 (x5)))] ∧ M' = [.blk [.v (.int .i64 (x1.Floor)), .v (.int .i64 (x1.Last)), .v (.slice a2 ((x1.Rows).length) (k2))] 40] ∧ SlAt cTRow V' a2 k2 x1.Rows ∧ F_mvstore_Valid_L1 x1 J3 n6 x5 = some r) ⟨(((((x1.Rows).length : Nat) : Int)).toNat + 1), [(1, .ptr 0 0), (21, .v (.slice a2 ((x1.Rows).length) (k2))), (22, .v (.int .i64 ((((x1.Rows).length : Nat) : Int)))), (23, .v (.int .i64 ((0 : Int))))], ⟨rfl, rfl, rfl, rfl, trivial⟩, (0 : Int), rfl, rfl, h2, hF⟩ ?_
      rintro n6 L' V7 M' ⟨x5, rfl, rfl, h8, hF⟩
      rcases n6 with _ | n6
      · exact absurd hF (by simp [F_mvstore_Valid_L1])
      rw [F_mvstore_Valid_L1] at hF
      refine Exec.run tyOk 400 rfl ?_
      rcases cond_some hF with ⟨hb, hF⟩ | ⟨hb, hF⟩
      · skip
        refine Exec.ifT rfl hb ?_
        refine Exec.run tyOk 400 rfl ?_
        obtain ⟨q9, hF⟩ := req_some hF
        obtain ⟨c10, hr10, hd10⟩ := SlAt.get h8 q9
        obtain ⟨a11, k11, rfl, h11⟩ := hr10
        refine Exec.ia tyOk rfl rfl ⟨q9.1, q9.2, hd10.some⟩ ?_
        refine Exec.run tyOk 400 rfl ?_
        refine Exec.ld tyOk (x := .agg ⟨[.string ⟨⟨(atI x1.Rows x5).Key⟩⟩, .slice a11 (((atI x1.Rows x5).Vers).length) (k11)]⟩) rfl rfl hd10 rfl rfl ?_
        refine Exec.run tyOk 400 rfl ?_
        refine Exec.draws tyOk [(0, true), (1, true), (2, false), (3, false), (4, false), (5, false), (6, false), (7, false), (8, true), (9, true), (10, true), (11, true), (12, false), (13, false), (14, false), (15, false), (16, false), (17, false), (18, false), (19, false), (20, false), (21, true), (22, true), (23, true), (24, false), (25, false), (26, false), (27, false), (28, false)] rfl (by kernel_rfl) ?_
        refine Exec.run tyOk 400 rfl ?_
        obtain ⟨x12, hx12, hF⟩ := bnd_some hF
        refine Exec.callS (.bool (x12)) rfl rfl (W_keys_Valid ((atI x1.Rows x5).Key)  hx12) ?_
        refine Exec.run tyOk 400 rfl ?_
        obtain ⟨q13, hF⟩ := req_some hF
        obtain ⟨c14, hr14, hd14⟩ := SlAt.gget ((((decide ((0 : Int) < x5))) == true) && (((!x12)) == false)) h8 q13
        obtain ⟨a15, k15, rfl, h15⟩ := hr14
        refine Exec.ia tyOk rfl rfl (fun gg0 gg1 => ⟨(q13 (gd2_of gg0 gg1)).1, (q13 (gd2_of gg0 gg1)).2, (hd14 (gd2_of gg0 gg1)).some⟩) ?_
        refine Exec.run tyOk 400 rfl ?_
        refine Exec.ld tyOk (x := .string ⟨⟨(cond ((((decide ((0 : Int) < x5))) == true) && (((!x12)) == false)) (atI x1.Rows ((IntKind.i64.wrap (x5 - (1 : Int))))) default).Key⟩⟩) rfl rfl (fun gg0 gg1 => (RdAt.part (hd14 (gd2_of gg0 gg1)) 0 1 rfl)) rfl rfl ?_
        refine Exec.run tyOk 400 rfl ?_
        obtain ⟨x16, hx16, hF⟩ := bnd_some hF
        refine Exec.callS (.bool (x16)) rfl rfl (fun gg0 => W_mvstore_validRow ((atI x1.Rows x5)) x1.Floor x1.Last h11 (gcall_some hx16 (gd1_of gg0))) ?_
        refine Exec.run tyOk 400 rfl ?_
        rcases cond_some hF with ⟨hb, hF⟩ | ⟨hb, hF⟩
        · skip
          refine Exec.ifT rfl hb ?_
          refine Exec.run tyOk 400 rfl ?_
          obtain rfl := some_inj hF
          exact Exec.ret tyOk rfl rfl rfl
        · skip
          refine Exec.ifF rfl hb ?_
          refine Exec.run tyOk 400 rfl ?_
          refine Exec.cut 1 [(1, .ptr 0 0), (21, .v (.slice a2 ((x1.Rows).length) (k2))), (22, .v (.int .i64 ((((x1.Rows).length : Nat) : Int)))), (23, .v (.int .i64 ((IntKind.i64.wrap (x5 + (1 : Int))))))] (M' := [.blk [.v (.int .i64 (x1.Floor)), .v (.int .i64 (x1.Last)), .v (.slice a2 ((x1.Rows).length) (k2))] 40]) rfl ⟨rfl, rfl, rfl, rfl, trivial⟩ rfl rfl rfl ?_
          exact Exec.round [(1, .ptr 0 0), (21, .v (.slice a2 ((x1.Rows).length) (k2))), (22, .v (.int .i64 ((((x1.Rows).length : Nat) : Int)))), (23, .v (.int .i64 ((IntKind.i64.wrap (x5 + (1 : Int))))))] ⟨rfl, rfl, rfl, rfl, trivial⟩ ⟨n6, Nat.lt_succ_self _, (IntKind.i64.wrap (x5 + (1 : Int))), rfl, rfl, h8, hF⟩
      · skip
        refine Exec.ifF rfl hb ?_
        refine Exec.run tyOk 400 rfl ?_
        refine Exec.cut 0 [] (M' := []) rfl trivial rfl rfl rfl ?_
        exact Exec.round [] trivial ⟨rfl, rfl, hF⟩

def F_mvstore_At_L1 (x1 : TStore) (x3 : Int) (J9 : (List TPair) → Option (List TPair × Int)) : Nat → (List TPair) → Int → Option (List TPair × Int)
  | 0, _, _ => none
  | n17 + 1, x15, x16 => (cond (decide (x16 < (((x1.Rows).length : Nat) : Int))) (req (0 ≤ x16 ∧ x16 < ((x1.Rows).length : Int)) (bnd (F_mvstore_valueAt ((atI x1.Rows x16)) x3) fun x23 => (jn (fun (x25 : List TPair) => (F_mvstore_At_L1 x1 x3 J9 n17 x25 ((IntKind.i64.wrap (x16 + (1 : Int)))))) (fun J26 => (cond (x23.Kind != (0 : Int)) (req (((x15 ++ [(⟨(atI x1.Rows x16).Key, x23⟩ : TPair)])).length * 48 ≤ 140737488355328) (J26 ((x15 ++ [(⟨(atI x1.Rows x16).Key, x23⟩ : TPair)])))) (J26 x15)))))) (J9 x15))

def F_mvstore_At (x1 : TStore) (x3 : Int) : Option (List TPair × Int) :=
  (bnd (F_mvstore_Valid x1) fun x4 => (cond (!x4) (some (([] : List TPair), (1 : Int))) (bnd (F_mvstore_readable x1 x3) fun x5 => (cond (x5 != (0 : Int)) (some (([] : List TPair), x5)) (jn (fun (x8 : List TPair) => (some (x8, (0 : Int)))) (fun J9 => (F_mvstore_At_L1 x1 x3 J9 (((((x1.Rows).length : Nat) : Int)).toNat + 1) (([] : List TPair)) ((0 : Int)))))))))

set_option maxRecDepth 100000 in
theorem W_mvstore_At {V : View} (x1 : TStore) (x3 : Int) {a2 : Option Addr} {k2 : Nat} (h2 : SlAt cTRow V a2 k2 x1.Rows) {r : List TPair × Int} (hF : F_mvstore_At x1 x3 = some r) :
    Spec Tryz.prog 44 [.agg ⟨[.int .i64 (x1.Floor), .int .i64 (x1.Last), .slice a2 ((x1.Rows).length) (k2)]⟩, .int .i64 (x3)] V (fun V' v => ∃ (a31 : Option Addr) (k31 : Nat), v = .tuple ⟨[.slice a31 ((r.1).length) (k31), .int .i64 (r.2)]⟩ ∧ SlAt cTPair V' a31 k31 r.1) := by
  unfold F_mvstore_At at hF
  refine Spec.enter (T := tyT) Tryz.func44 rfl (by kernel_rfl) rfl rfl rfl ?_
  refine Exec.run tyOk 400 rfl ?_
  obtain ⟨x4, hx4, hF⟩ := bnd_some hF
  refine Exec.callS (.bool (x4)) rfl rfl (W_mvstore_Valid x1 h2 hx4) ?_
  refine Exec.run tyOk 400 rfl ?_
  rcases cond_some hF with ⟨hb, hF⟩ | ⟨hb, hF⟩
  · skip
    refine Exec.ifT rfl hb ?_
    refine Exec.run tyOk 400 rfl ?_
    obtain rfl := some_inj hF
    exact Exec.ret tyOk rfl rfl ⟨_, _, rfl, SlAt.nil⟩
  · skip
    refine Exec.ifF rfl hb ?_
    refine Exec.run tyOk 400 rfl ?_
    obtain ⟨x5, hx5, hF⟩ := bnd_some hF
    refine Exec.callS (.int .i64 (x5)) rfl rfl (W_mvstore_readable x1 x3 h2 hx5) ?_
    refine Exec.run tyOk 400 rfl ?_
    rcases cond_some hF with ⟨hb, hF⟩ | ⟨hb, hF⟩
    · skip
      refine Exec.ifT rfl hb ?_
      refine Exec.run tyOk 400 rfl ?_
      obtain rfl := some_inj hF
      exact Exec.ret tyOk rfl rfl ⟨_, _, rfl, SlAt.nil⟩
    · skip
      refine Exec.ifF rfl hb ?_
      refine Exec.run tyOk 13 rfl ?_
      refine Exec.row0 55 4 rfl ?_
      have h6 : RowRep cTPair V ([] : List TPair) [] := RowRep.nil
      obtain ⟨J9, hJ9, hF⟩ := jn_some hF
      refine Exec.seam (fun L' V' M' => ∃ (x8 : List TPair) (a7 : Option Addr) (k7 : Nat) (cs7 : List Value), L' = [(7, .v (.slice a7 ((x8).length) (k7)))] ∧ M' = [.blk [.v (.int .i64 (x1.Floor)), .v (.int .i64 (x1.Last)), .v (.slice a2 ((x1.Rows).length) (k2))] 40, .row (.slice a7 ((x8).length) (k7)) cs7 55 4] ∧ RowRep cTPair V' x8 cs7 ∧ SlAt cTRow V' a2 k2 x1.Rows ∧ J9 x8 = some r) rfl ?_ ?_
      · rintro L' V10 M' ⟨x8, a7, k7, cs7, rfl, rfl, h7, h11, hF⟩
        subst hJ9
        refine Exec.run tyOk 400 rfl ?_
        refine Exec.frz 1 rfl rfl rfl (fun V12 hv12 hd12 hn12 => ?_)
        have hz12 := RowRep.slat h7 hv12 hd12 hn12
        have h13 := SlAt.mono h11 hv12
        obtain rfl := some_inj hF
        exact Exec.ret tyOk rfl rfl ⟨_, _, rfl, hz12⟩
      · skip
        refine Exec.run tyOk 400 rfl ?_
        refine Exec.loop (fun n17 L' V' M' => ∃ (x15 : List TPair) (a14 : Option Addr) (k14 : Nat) (cs14 : List Value) (x16 : Int), L' = [(1, .v (.int .i64 (x3))), (7, .v (.slice a14 ((x15).length) (k14))), (21, .v (.slice a2 ((x1.Rows).length) (k2))), (22, .v (.int .i64 ((((x1.Rows).length : Nat) : Int)))), (23, .v (.int .i64 (x16)))] ∧ M' = [.blk [.v (.int .i64 (x1.Floor)), .v (.int .i64 (x1.Last)), .v (.slice a2 ((x1.Rows).length) (k2))] 40, .row (.slice a14 ((x15).length) (k14)) cs14 55 4] ∧ RowRep cTPair V' x15 cs14 ∧ SlAt cTRow V' a2 k2 x1.Rows ∧ F_mvstore_At_L1 x1 x3 J9 n17 x15 x16 = some r) ⟨(((((x1.Rows).length : Nat) : Int)).toNat + 1), [(1, .v (.int .i64 (x3))), (7, .v (.slice none ((([] : List TPair)).length) (0))), (21, .v (.slice a2 ((x1.Rows).length) (k2))), (22, .v (.int .i64 ((((x1.Rows).length : Nat) : Int)))), (23, .v (.int .i64 ((0 : Int))))], ⟨rfl, rfl, rfl, rfl, rfl, trivial⟩, ([] : List TPair), none, 0, [], (0 : Int), rfl, rfl, h6, h2, hF⟩ ?_
        rintro n17 L' V18 M' ⟨x15, a14, k14, cs14, x16, rfl, rfl, h14, h19, hF⟩
        rcases n17 with _ | n17
        · exact absurd hF (by simp [F_mvstore_At_L1])
        rw [F_mvstore_At_L1] at hF
        refine Exec.run tyOk 400 rfl ?_
        rcases cond_some hF with ⟨hb, hF⟩ | ⟨hb, hF⟩
        · skip
          refine Exec.ifT rfl hb ?_
          refine Exec.run tyOk 400 rfl ?_
          obtain ⟨q20, hF⟩ := req_some hF
          obtain ⟨c21, hr21, hd21⟩ := SlAt.get h19 q20
          obtain ⟨a22, k22, rfl, h22⟩ := hr21
          refine Exec.ia tyOk rfl rfl ⟨q20.1, q20.2, hd21.some⟩ ?_
          refine Exec.run tyOk 400 rfl ?_
          refine Exec.ld tyOk (x := .agg ⟨[.string ⟨⟨(atI x1.Rows x16).Key⟩⟩, .slice a22 (((atI x1.Rows x16).Vers).length) (k22)]⟩) rfl rfl hd21 rfl rfl ?_
          refine Exec.run tyOk 400 rfl ?_
          obtain ⟨x23, hx23, hF⟩ := bnd_some hF
          refine Exec.callS (.agg ⟨[.int .i64 (x23.Kind), .int .i64 (x23.N), .string ⟨⟨x23.S⟩⟩]⟩) rfl rfl (W_mvstore_valueAt ((atI x1.Rows x16)) x3 h22 hx23) ?_
          refine Exec.run tyOk 400 rfl ?_
          obtain ⟨J26, hJ26, hF⟩ := jn_some hF
          refine Exec.seam (fun L' V' M' => ∃ (x25 : List TPair) (a24 : Option Addr) (k24 : Nat) (cs24 : List Value), L' = [(1, .v (.int .i64 (x3))), (7, .v (.slice a24 ((x25).length) (k24))), (21, .v (.slice a2 ((x1.Rows).length) (k2))), (22, .v (.int .i64 ((((x1.Rows).length : Nat) : Int)))), (23, .v (.int .i64 (x16)))] ∧ M' = [.blk [.v (.int .i64 (x1.Floor)), .v (.int .i64 (x1.Last)), .v (.slice a2 ((x1.Rows).length) (k2))] 40, .row (.slice a24 ((x25).length) (k24)) cs24 55 4] ∧ RowRep cTPair V' x25 cs24 ∧ SlAt cTRow V' a2 k2 x1.Rows ∧ J26 x25 = some r) rfl ?_ ?_
          · rintro L' V27 M' ⟨x25, a24, k24, cs24, rfl, rfl, h24, h28, hF⟩
            subst hJ26
            refine Exec.run tyOk 400 rfl ?_
            exact Exec.round [(1, .v (.int .i64 (x3))), (7, .v (.slice a24 ((x25).length) (k24))), (21, .v (.slice a2 ((x1.Rows).length) (k2))), (22, .v (.int .i64 ((((x1.Rows).length : Nat) : Int)))), (23, .v (.int .i64 ((IntKind.i64.wrap (x16 + (1 : Int))))))] ⟨rfl, rfl, rfl, rfl, rfl, trivial⟩ ⟨n17, Nat.lt_succ_self _, x25, a24, k24, cs24, (IntKind.i64.wrap (x16 + (1 : Int))), rfl, rfl, h24, h28, hF⟩
          · skip
            refine Exec.run tyOk 400 rfl ?_
            rcases cond_some hF with ⟨hb, hF⟩ | ⟨hb, hF⟩
            · skip
              refine Exec.ifT rfl hb ?_
              refine Exec.run tyOk 400 rfl ?_
              refine Exec.bsl tyOk rfl rfl ?_
              refine Exec.run tyOk 400 rfl ?_
              obtain ⟨q30, hF⟩ := req_some hF
              refine Exec.app tyOk 1 4 (nm := ((x15 ++ [(⟨(atI x1.Rows x16).Key, x23⟩ : TPair)])).length) rfl rfl rfl rfl rfl rfl rfl rfl rfl (by simp) (fun _ _ => rfl) rfl q30 (fun a29 k29 => ?_)
              have h29 : RowRep cTPair V18 (x15 ++ [(⟨(atI x1.Rows x16).Key, x23⟩ : TPair)]) (cs14 ++ [.string ⟨⟨(atI x1.Rows x16).Key⟩⟩, .int .i64 (x23.Kind), .int .i64 (x23.N), .string ⟨⟨x23.S⟩⟩]) := RowRep.app h14 ⟨_, _, rfl, rfl, rfl⟩
              refine Exec.run tyOk 400 rfl ?_
              refine Exec.cut 2 [(1, .v (.int .i64 (x3))), (7, .v (.slice a29 (((x15 ++ [(⟨(atI x1.Rows x16).Key, x23⟩ : TPair)])).length) (k29))), (21, .v (.slice a2 ((x1.Rows).length) (k2))), (22, .v (.int .i64 ((((x1.Rows).length : Nat) : Int)))), (23, .v (.int .i64 (x16)))] (M' := [.blk [.v (.int .i64 (x1.Floor)), .v (.int .i64 (x1.Last)), .v (.slice a2 ((x1.Rows).length) (k2))] 40, .row (.slice a29 (((x15 ++ [(⟨(atI x1.Rows x16).Key, x23⟩ : TPair)])).length) (k29)) ((cs14 ++ [.string ⟨⟨(atI x1.Rows x16).Key⟩⟩, .int .i64 (x23.Kind), .int .i64 (x23.N), .string ⟨⟨x23.S⟩⟩])) 55 4]) rfl ⟨rfl, rfl, rfl, rfl, rfl, trivial⟩ rfl rfl rfl ?_
              exact Exec.round [(1, .v (.int .i64 (x3))), (7, .v (.slice a29 (((x15 ++ [(⟨(atI x1.Rows x16).Key, x23⟩ : TPair)])).length) (k29))), (21, .v (.slice a2 ((x1.Rows).length) (k2))), (22, .v (.int .i64 ((((x1.Rows).length : Nat) : Int)))), (23, .v (.int .i64 (x16)))] ⟨rfl, rfl, rfl, rfl, rfl, trivial⟩ ⟨(x15 ++ [(⟨(atI x1.Rows x16).Key, x23⟩ : TPair)]), a29, k29, (cs14 ++ [.string ⟨⟨(atI x1.Rows x16).Key⟩⟩, .int .i64 (x23.Kind), .int .i64 (x23.N), .string ⟨⟨x23.S⟩⟩]), rfl, rfl, h29, h19, hF⟩
            · skip
              refine Exec.ifF rfl hb ?_
              refine Exec.run tyOk 400 rfl ?_
              refine Exec.cut 2 [(1, .v (.int .i64 (x3))), (7, .v (.slice a14 ((x15).length) (k14))), (21, .v (.slice a2 ((x1.Rows).length) (k2))), (22, .v (.int .i64 ((((x1.Rows).length : Nat) : Int)))), (23, .v (.int .i64 (x16)))] (M' := [.blk [.v (.int .i64 (x1.Floor)), .v (.int .i64 (x1.Last)), .v (.slice a2 ((x1.Rows).length) (k2))] 40, .row (.slice a14 ((x15).length) (k14)) cs14 55 4]) rfl ⟨rfl, rfl, rfl, rfl, rfl, trivial⟩ rfl rfl rfl ?_
              exact Exec.round [(1, .v (.int .i64 (x3))), (7, .v (.slice a14 ((x15).length) (k14))), (21, .v (.slice a2 ((x1.Rows).length) (k2))), (22, .v (.int .i64 ((((x1.Rows).length : Nat) : Int)))), (23, .v (.int .i64 (x16)))] ⟨rfl, rfl, rfl, rfl, rfl, trivial⟩ ⟨x15, a14, k14, cs14, rfl, rfl, h14, h19, hF⟩
        · skip
          refine Exec.ifF rfl hb ?_
          refine Exec.run tyOk 400 rfl ?_
          exact Exec.round [(7, .v (.slice a14 ((x15).length) (k14)))] ⟨rfl, trivial⟩ ⟨x15, a14, k14, cs14, rfl, rfl, h14, h19, hF⟩

def F_clockworkref22_At (x1 : TStore) (x3 : Int) : Option (List TPair × Int) :=
  (bnd (F_clockworkref22_Valid x1) fun x4 => (cond (!x4) (some (([] : List TPair), (1 : Int))) (cond ((decide (x3 < x1.Floor)) || (decide (x1.Last < x3))) (some (([] : List TPair), (15 : Int))) (bnd (F_clockworkref22_state x1 x3) fun x5 => (some (x5, (0 : Int)))))))

set_option maxRecDepth 100000 in
theorem W_clockworkref22_At {V : View} (x1 : TStore) (x3 : Int) {a2 : Option Addr} {k2 : Nat} (h2 : SlAt cTRow V a2 k2 x1.Rows) {r : List TPair × Int} (hF : F_clockworkref22_At x1 x3 = some r) :
    Spec Tryz.prog 46 [.agg ⟨[.int .i64 (x1.Floor), .int .i64 (x1.Last), .slice a2 ((x1.Rows).length) (k2)]⟩, .int .i64 (x3)] V (fun V' v => ∃ (a9 : Option Addr) (k9 : Nat), v = .tuple ⟨[.slice a9 ((r.1).length) (k9), .int .i64 (r.2)]⟩ ∧ SlAt cTPair V' a9 k9 r.1) := by
  unfold F_clockworkref22_At at hF
  refine Spec.enter (T := tyT) Tryz.func46 rfl (by kernel_rfl) rfl rfl rfl ?_
  refine Exec.run tyOk 400 rfl ?_
  obtain ⟨x4, hx4, hF⟩ := bnd_some hF
  refine Exec.callS (.bool (x4)) rfl rfl (W_clockworkref22_Valid x1 h2 hx4) ?_
  refine Exec.run tyOk 400 rfl ?_
  rcases cond_some hF with ⟨hb, hF⟩ | ⟨hb, hF⟩
  · skip
    refine Exec.ifT rfl hb ?_
    refine Exec.run tyOk 400 rfl ?_
    obtain rfl := some_inj hF
    exact Exec.ret tyOk rfl rfl ⟨_, _, rfl, SlAt.nil⟩
  · skip
    refine Exec.ifF rfl hb ?_
    refine Exec.run tyOk 400 rfl ?_
    rcases cond_some hF with ⟨hb, hF⟩ | ⟨hb, hF⟩
    · skip
      refine Exec.ifT rfl hb ?_
      refine Exec.run tyOk 400 rfl ?_
      obtain rfl := some_inj hF
      exact Exec.ret tyOk rfl rfl ⟨_, _, rfl, SlAt.nil⟩
    · skip
      refine Exec.ifF rfl hb ?_
      refine Exec.run tyOk 400 rfl ?_
      obtain ⟨x5, hx5, hF⟩ := bnd_some hF
      refine Exec.call rfl rfl (W_clockworkref22_state x1 x3 h2 hx5) ?_
      rintro V7 _ hv7 ⟨a6, k6, rfl, h6⟩
      have h8 := SlAt.mono h2 hv7
      refine Exec.run tyOk 400 rfl ?_
      obtain rfl := some_inj hF
      exact Exec.ret tyOk rfl rfl ⟨_, _, rfl, h6⟩

end Go.Proofs.YtonijgmopcmldaaGreat
